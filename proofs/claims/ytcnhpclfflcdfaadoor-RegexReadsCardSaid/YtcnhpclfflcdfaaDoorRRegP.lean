/- Plain words. -/
import Derived.Test.YtcnhpclfflcdfaaDoorRRegN
/- Expressions: what the reader comes to, by words. -/
namespace Go.Av
set_option linter.unusedVariables false
set_option linter.unusedSimpArgs false
abbrev RS := Nat × Int
abbrev Rd2 := Rx × RS
section
variable (ks : List Wd)
abbrev kAt (i : Nat) : Wd := ks.getD i (0, ⟨#[]⟩, 0, 0, ⟨#[]⟩, 0)
def isB (st : RS) (s : ByteArray) : Bool := decide (st.2 = 0 ∧ st.1 < ks.length ∧ (kAt ks st.1).1 = 4 ∧ (kAt ks st.1).2.1 = s)
def isS (st : RS) (s : ByteArray) : RS := if isB ks st s = true then (st.1 + 1, st.2) else st
def failS (st : RS) : RS := if st.2 = 0 then (st.1, if st.1 = ks.length then 7 else 2) else st
def stepOk (st : RS) : Bool := decide (st.2 = 0 ∧ st.1 < ks.length ∧ (kAt ks st.1).1 = 1)
def stepR (st : RS) (back : Bool) : Rx := if stepOk ks st = true then .mk 2 (kAt ks st.1).2.1 back [] else rx0
def stepS (st : RS) : RS := if stepOk ks st = true then (st.1 + 1, st.2) else failS ks st
/-- the sign of a kind -/
def signR (k : Int) : ByteArray := if k = 3 then ⟨#[46]⟩ else if k = 4 then ⟨#[124]⟩ else if k = 5 then ⟨#[42]⟩ else if k = 6 then ⟨#[43]⟩ else ⟨#[63]⟩
def pieceF (R : RS → Rd2) (st : RS) : Rd2 :=
  if isB ks st ⟨#[94]⟩ = true then (stepR ks (isS ks st ⟨#[94]⟩) true, stepS ks (isS ks st ⟨#[94]⟩))
  else if isB ks st ⟨#[40]⟩ = false then (stepR ks st false, stepS ks st)
  else if isB ks (isS ks st ⟨#[40]⟩) ⟨#[41]⟩ = true then (.mk 1 ⟨#[]⟩ false [], isS ks (isS ks st ⟨#[40]⟩) ⟨#[41]⟩)
  else ((R (isS ks st ⟨#[40]⟩)).1, if isB ks (R (isS ks st ⟨#[40]⟩)).2 ⟨#[41]⟩ = true then isS ks (R (isS ks st ⟨#[40]⟩)).2 ⟨#[41]⟩ else failS ks (R (isS ks st ⟨#[40]⟩)).2)
def starL : Nat → Rx → RS → Rd2
  | 0, x, st => (x, st)
  | f + 1, x, st => if isB ks st (signR 5) = true then starL f (.mk 5 ⟨#[]⟩ false [x]) (isS ks st (signR 5))
    else if isB ks st (signR 6) = true then starL f (.mk 6 ⟨#[]⟩ false [x]) (isS ks st (signR 6))
    else if isB ks st (signR 7) = true then starL f (.mk 7 ⟨#[]⟩ false [x]) (isS ks st (signR 7))
    else (x, st)
def itemF (R : RS → Rd2) (st : RS) : Rd2 := starL ks (ks.length + 1) (pieceF ks R st).1 (pieceF ks R st).2
def takeL (kind : Int) (l : List Rx) (x : Rx) : List Rx := if x.k = kind then l ++ x.ps else l ++ [x]
def wholeR (kind : Int) (l : List Rx) : Rx := if l.length = 1 then l.getD 0 rx0 else .mk kind ⟨#[]⟩ false l
def partsL (kind : Int) (one : RS → Rd2) : Nat → List Rx → RS → Rd2
  | 0, l, st => (rx0, st)
  | f + 1, l, st => if isB ks (one st).2 (signR kind) = true then partsL kind one f (takeL kind l (one st).1) (isS ks (one st).2 (signR kind)) else (wholeR kind (takeL kind l (one st).1), (one st).2)
def partsF (kind : Int) (one : RS → Rd2) (st : RS) : Rd2 := partsL ks kind one (ks.length + 1) [] st
def rowF (R : RS → Rd2) : RS → Rd2 := partsF ks 3 (itemF ks R)
def rowsF (R : RS → Rd2) : RS → Rd2 := partsF ks 4 (rowF ks R)
def rowsN : Nat → RS → Rd2
  | 0, st => (rx0, st)
  | n + 1, st => rowsF ks (rowsN n) st
end
/-! ### places go up, and no expression is greater than its words -/
def Mo (ks : List Wd) (st : RS) (p : Rd2) : Prop := st.1 ≤ p.2.1 ∧ p.2.1 ≤ ks.length ∧ p.1.nodes ≤ 1 + 2 * (p.2.1 - st.1)
theorem isB_lt {ks : List Wd} {st : RS} {s : ByteArray} (h : isB ks st s = true) : st.1 < ks.length ∧ st.2 = 0 := by
  unfold isB at h; rw [decide_eq_true_eq] at h; exact ⟨h.2.1, h.1⟩
theorem isS_t {ks : List Wd} {st : RS} {s : ByteArray} (h : isB ks st s = true) : isS ks st s = (st.1 + 1, st.2) := by unfold isS; rw [if_pos h]
theorem isS_f {ks : List Wd} {st : RS} {s : ByteArray} (h : isB ks st s = false) : isS ks st s = st := by unfold isS; rw [h]; rfl
theorem failS_1 (ks : List Wd) (st : RS) : (failS ks st).1 = st.1 := by unfold failS; split <;> rfl
theorem nodes_mk (k : Int) (l : ByteArray) (b : Bool) (ps : List Rx) : (Rx.mk k l b ps).nodes = 1 + nodesL ps := by rw [Rx.nodes]
theorem nodes_rx0 : rx0.nodes = 1 := by unfold rx0; rw [nodes_mk, nodesL]
theorem nodesL_app : ∀ l m, nodesL (l ++ m) = nodesL l + nodesL m
  | [], m => by rw [List.nil_append, nodesL]; omega
  | p :: l, m => by rw [List.cons_append, nodesL, nodesL, nodesL_app l m]; omega
theorem step_mo (ks : List Wd) (st : RS) (back : Bool) (h : st.1 ≤ ks.length) : Mo ks st (stepR ks st back, stepS ks st) := by
  unfold Mo stepR stepS
  simp only
  split
  · rename_i hk
    have : st.1 < ks.length := by unfold stepOk at hk; rw [decide_eq_true_eq] at hk; exact hk.2.1
    refine ⟨by simp only; omega, this, ?_⟩
    rw [nodes_mk, nodesL]; simp only; omega
  · rw [failS_1, nodes_rx0]
    exact ⟨Nat.le_refl _, h, by omega⟩
theorem piece_mo (ks : List Wd) (R : RS → Rd2) (st : RS) (h : st.1 ≤ ks.length) (hR : ∀ st' : RS, st.1 < st'.1 → st'.1 ≤ ks.length → Mo ks st' (R st')) : Mo ks st (pieceF ks R st) := by
  unfold pieceF
  split
  · rename_i h1
    have hl := isB_lt h1
    have := step_mo ks (isS ks st ⟨#[94]⟩) true (by rw [isS_t h1]; exact hl.1)
    rw [isS_t h1] at this ⊢
    obtain ⟨a, b, c⟩ := this
    exact ⟨by omega, b, by omega⟩
  · split
    · exact step_mo ks st false h
    · rename_i h2
      have h2 : isB ks st ⟨#[40]⟩ = true := by simpa using h2
      have hl := isB_lt h2
      rw [isS_t h2]
      split
      · rename_i h3
        have hl3 := isB_lt h3
        rw [isS_t h3]
        refine ⟨by simp only; omega, hl3.1, ?_⟩
        rw [nodes_mk, nodesL]; simp only; omega
      · obtain ⟨a, b, c⟩ := hR (st.1 + 1, st.2) (by simp only; omega) hl.1
        generalize R (st.1 + 1, st.2) = q at *
        split
        · rename_i h4
          have hl4 := isB_lt h4
          rw [isS_t h4]
          exact ⟨by simp only at *; omega, hl4.1, by simp only at *; omega⟩
        · unfold Mo
          simp only [failS_1] at *
          exact ⟨by omega, b, by omega⟩
theorem star_mo (ks : List Wd) (st0 : RS) : ∀ (f : Nat) (x : Rx) (st : RS), Mo ks st0 (x, st) → Mo ks st0 (starL ks f x st)
  | 0, x, st, h => h
  | f + 1, x, st, h => by
    have key : ∀ (k : Int) (s : ByteArray), isB ks st s = true → Mo ks st0 (starL ks f (.mk k ⟨#[]⟩ false [x]) (isS ks st s)) := by
      intro k s hb
      have hl := isB_lt hb
      rw [isS_t hb]
      refine star_mo ks st0 f _ _ ?_
      obtain ⟨a, b, c⟩ := h
      refine ⟨by simp only at *; omega, hl.1, ?_⟩
      rw [nodes_mk, nodesL, nodesL]
      simp only at *; omega
    rw [starL]
    split
    · exact key _ _ (by assumption)
    · split
      · exact key _ _ (by assumption)
      · split
        · exact key _ _ (by assumption)
        · exact h
theorem item_mo (ks : List Wd) (R : RS → Rd2) (st : RS) (h : st.1 ≤ ks.length) (hR : ∀ st' : RS, st.1 < st'.1 → st'.1 ≤ ks.length → Mo ks st' (R st')) : Mo ks st (itemF ks R st) :=
  star_mo ks st _ _ _ (piece_mo ks R st h hR)
theorem takeL_nodes (kind : Int) (l : List Rx) (x : Rx) : nodesL (takeL kind l x) ≤ nodesL l + x.nodes := by
  unfold takeL
  split
  · rw [nodesL_app]
    obtain ⟨k, t, b, ps⟩ := x
    rw [nodes_mk]
    show _ + nodesL ps ≤ _
    omega
  · rw [nodesL_app, nodesL, nodesL]; omega
/-- the parts so far: j of them were read, whose words and signs end at st -/
def PI (st0 : RS) (l : List Rx) (st : RS) (j : Nat) : Prop := st0.1 + j ≤ st.1 ∧ nodesL l + j ≤ 2 * (st.1 - st0.1)
theorem whole_nodes (kind : Int) (l : List Rx) : (wholeR kind l).nodes ≤ 1 + nodesL l ∧ (l.length = 1 → (wholeR kind l).nodes = nodesL l) := by
  unfold wholeR
  split
  · rename_i h
    match l, h with
    | [x], _ =>
      show x.nodes ≤ 1 + nodesL [x] ∧ _
      rw [nodesL, nodesL]
      exact ⟨by omega, fun _ => rfl⟩
  · rename_i h
    rw [nodes_mk]
    exact ⟨Nat.le_refl _, fun h' => absurd h' h⟩
theorem parts_mo (ks : List Wd) (kind : Int) (one : RS → Rd2) (st0 : RS) (h1 : ∀ st : RS, st0.1 ≤ st.1 → st.1 ≤ ks.length → Mo ks st (one st)) :
    ∀ (f : Nat) (l : List Rx) (st : RS) (j : Nat), PI st0 l st j → (j = 0 → l = []) → st.1 ≤ ks.length → ks.length - st.1 < f → Mo ks st0 (partsL ks kind one f l st)
  | 0, l, st, j, h, hj, hs, hf => by omega
  | f + 1, l, st, j, h, hj, hs, hf => by
    obtain ⟨p1, p2⟩ := h
    obtain ⟨m1, m2, m3⟩ := h1 st (by omega) hs
    have ht := takeL_nodes kind l (one st).1
    rw [partsL]
    split
    · rename_i hb
      have hl := isB_lt hb
      rw [isS_t hb]
      refine parts_mo ks kind one st0 h1 f _ _ (j + 1) ⟨by simp only; omega, by simp only; omega⟩ (by omega) hl.1 (by simp only; omega)
    · refine ⟨by simp only; omega, m2, ?_⟩
      obtain ⟨w1, w2⟩ := whole_nodes kind (takeL kind l (one st).1)
      simp only
      by_cases h0 : j = 0
      · subst h0
        obtain rfl := hj rfl
        generalize (one st).1 = x at *
        by_cases hx : x.k = kind
        · have e : takeL kind [] x = x.ps := by unfold takeL; rw [if_pos hx]; rfl
          rw [e] at w1 w2 ⊢
          have : x.nodes = 1 + nodesL x.ps := by obtain ⟨k, t, b, ps⟩ := x; rw [nodes_mk]; rfl
          omega
        · have e : takeL kind [] x = [x] := by unfold takeL; rw [if_neg hx]; rfl
          rw [e] at w1 w2 ⊢
          have : nodesL [x] = x.nodes := by rw [nodesL, nodesL]; omega
          rw [w2 rfl]
          omega
      · omega
theorem partsF_mo (ks : List Wd) (kind : Int) (one : RS → Rd2) (st0 : RS) (h : st0.1 ≤ ks.length) (h1 : ∀ st : RS, st0.1 ≤ st.1 → st.1 ≤ ks.length → Mo ks st (one st)) : Mo ks st0 (partsF ks kind one st0) :=
  parts_mo ks kind one st0 h1 _ [] st0 0 ⟨by omega, by rw [nodesL]; omega⟩ (fun _ => rfl) h (by omega)
theorem row_mo (ks : List Wd) (R : RS → Rd2) (st : RS) (h : st.1 ≤ ks.length) (hR : ∀ st' : RS, st.1 < st'.1 → st'.1 ≤ ks.length → Mo ks st' (R st')) : Mo ks st (rowF ks R st) :=
  partsF_mo ks 3 _ st h fun st1 h1 h2 => item_mo ks R st1 h2 fun st' h3 h4 => hR st' (by omega) h4
theorem rows_mo (ks : List Wd) (R : RS → Rd2) (st : RS) (h : st.1 ≤ ks.length) (hR : ∀ st' : RS, st.1 < st'.1 → st'.1 ≤ ks.length → Mo ks st' (R st')) : Mo ks st (rowsF ks R st) :=
  partsF_mo ks 4 _ st h fun st1 h1 h2 => row_mo ks R st1 h2 fun st' h3 h4 => hR st' (by omega) h4
theorem rowsN_mo (ks : List Wd) : ∀ (n : Nat) (st : RS), st.1 ≤ ks.length → ks.length - st.1 < n → Mo ks st (rowsN ks n st)
  | 0, st, h, hn => by omega
  | n + 1, st, h, hn => rows_mo ks _ st h fun st' h1 h2 => rowsN_mo ks n st' h2 (by omega)
end Go.Av

