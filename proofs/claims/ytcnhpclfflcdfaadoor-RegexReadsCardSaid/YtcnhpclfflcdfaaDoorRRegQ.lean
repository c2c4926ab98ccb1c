/- Plain words. -/
import Derived.Test.YtcnhpclfflcdfaaDoorRRegP
/- Expressions: how many steps, how deep, and whether formed right. -/
namespace Go.Av
set_option linter.unusedVariables false
set_option linter.unusedSimpArgs false
mutual
def sizeR : Rx → Nat
  | .mk k _ _ ps => (if k = 2 then 1 else 0) + sizeL ps
def sizeL : List Rx → Nat
  | [] => 0
  | p :: ps => sizeR p + sizeL ps
end
mutual
def deepR : Rx → Nat
  | .mk _ _ _ ps => deepL ps + 1
def deepL : List Rx → Nat
  | [] => 0
  | p :: ps => max (deepR p) (deepL ps)
end
def manyR (k : Int) : Int := if k = 3 ∨ k = 4 then -1 else if k = 5 ∨ k = 6 ∨ k = 7 then 1 else 0
/-- how many parts a kind may have -/
def countB (k : Int) (n : Nat) : Bool := decide (1 ≤ k ∧ k ≤ 7 ∧ (manyR k < 0 → 2 ≤ n) ∧ (0 ≤ manyR k → (n : Int) = manyR k))
def symB (nm : ByteArray → Bool) (k : Int) (l : ByteArray) (b : Bool) : Bool := if k = 2 then nm l else (decide (l.size = 0) && (b == false))
mutual
def formR (nm : ByteArray → Bool) : Rx → Bool
  | .mk k l b ps => countB k ps.length && symB nm k l b && formL nm k ps
def formL (nm : ByteArray → Bool) (k : Int) : List Rx → Bool
  | [] => true
  | p :: ps => formR nm p && !(decide (manyR k < 0 ∧ p.k = k)) && formL nm k ps
end
def goodR (nm : ByteArray → Bool) (r : Rx) : Bool := decide (deepR r ≤ 32) && (formR nm r && decide (sizeR r ≤ 200))
theorem sizeR_eq (r : Rx) : sizeR r = (if r.k = 2 then 1 else 0) + sizeL r.ps := by obtain ⟨k, l, b, ps⟩ := r; rw [sizeR]; rfl
theorem deepR_eq (r : Rx) : deepR r = deepL r.ps + 1 := by obtain ⟨k, l, b, ps⟩ := r; rw [deepR]; rfl
theorem formR_eq (nm : ByteArray → Bool) (r : Rx) : formR nm r = (countB r.k r.ps.length && symB nm r.k r.l r.b && formL nm r.k r.ps) := by obtain ⟨k, l, b, ps⟩ := r; rw [formR]; rfl
theorem sizeL_app : ∀ l m, sizeL (l ++ m) = sizeL l + sizeL m
  | [], m => by rw [List.nil_append, sizeL]; omega
  | p :: l, m => by rw [List.cons_append, sizeL, sizeL, sizeL_app l m]; omega
theorem deepL_app : ∀ l m, deepL (l ++ m) = max (deepL l) (deepL m)
  | [], m => by rw [List.nil_append, deepL]; omega
  | p :: l, m => by rw [List.cons_append, deepL, deepL, deepL_app l m]; omega
theorem formL_app (nm : ByteArray → Bool) (k : Int) : ∀ l m, formL nm k (l ++ m) = (formL nm k l && formL nm k m)
  | [], m => by rw [List.nil_append, formL, Bool.true_and]
  | p :: l, m => by rw [List.cons_append, formL, formL, formL_app nm k l m]; simp only [Bool.and_assoc]
theorem take_snoc {ps : List Rx} {i : Nat} (h : i < ps.length) : ps.take (i + 1) = ps.take i ++ [ps.getD i rx0] := by
  rw [List.take_succ_eq_append_getElem h, List.getD_eq_getElem?_getD, List.getElem?_eq_getElem h]; rfl
theorem sizeL_take {ps : List Rx} {i : Nat} (h : i < ps.length) : sizeL (ps.take (i + 1)) = sizeL (ps.take i) + sizeR (ps.getD i rx0) := by
  rw [take_snoc h, sizeL_app, sizeL, sizeL]; omega
theorem deepL_take {ps : List Rx} {i : Nat} (h : i < ps.length) : deepL (ps.take (i + 1)) = max (deepL (ps.take i)) (deepR (ps.getD i rx0)) := by
  rw [take_snoc h, deepL_app, deepL, deepL]; omega
theorem formL_take (nm : ByteArray → Bool) (k : Int) {ps : List Rx} {i : Nat} (h : i < ps.length) : formL nm k (ps.take (i + 1)) = (formL nm k (ps.take i) && (formR nm (ps.getD i rx0) && !(decide (manyR k < 0 ∧ (ps.getD i rx0).k = k)))) := by
  rw [take_snoc h, formL_app, formL, formL, Bool.and_true]
theorem formL_bad (nm : ByteArray → Bool) (k : Int) {ps : List Rx} {i : Nat} (h : i < ps.length) (hb : (formR nm (ps.getD i rx0) && !(decide (manyR k < 0 ∧ (ps.getD i rx0).k = k))) = false) : formL nm k ps = false := by
  have e : ps = ps.take (i + 1) ++ ps.drop (i + 1) := (List.take_append_drop _ _).symm
  rw [e, formL_app, formL_take nm k h, hb]; simp
mutual
theorem sizeR_nodes : ∀ r : Rx, sizeR r ≤ r.nodes
  | .mk k l b ps => by
    rw [sizeR, Rx.nodes]
    have := sizeL_nodes ps
    split <;> omega
theorem sizeL_nodes : ∀ ps : List Rx, sizeL ps ≤ nodesL ps
  | [] => Nat.le_refl _
  | p :: ps => by
    rw [sizeL, nodesL]
    have := sizeR_nodes p
    have := sizeL_nodes ps
    omega
end
mutual
theorem deepR_nodes : ∀ r : Rx, deepR r ≤ r.nodes
  | .mk k l b ps => by
    rw [deepR, Rx.nodes]
    have := deepL_nodes ps
    omega
theorem deepL_nodes : ∀ ps : List Rx, deepL ps ≤ nodesL ps
  | [] => Nat.le_refl _
  | p :: ps => by
    rw [deepL, nodesL]
    have := deepR_nodes p
    have := deepL_nodes ps
    omega
end
theorem nodes_ps (r : Rx) : r.nodes = 1 + nodesL r.ps := by obtain ⟨k, l, b, ps⟩ := r; rw [Rx.nodes]; rfl
theorem nodesL_take (ps : List Rx) (i : Nat) : nodesL (ps.take i) ≤ nodesL ps := by
  have : nodesL ps = nodesL (ps.take i) + nodesL (ps.drop i) := by rw [← nodesL_app, List.take_append_drop]
  omega
/-! no label is great -/
mutual
def smallR : Rx → Prop
  | .mk _ l _ ps => l.size ≤ 100000 ∧ smallL ps
def smallL : List Rx → Prop
  | [] => True
  | p :: ps => smallR p ∧ smallL ps
end
theorem smallR_eq (r : Rx) : smallR r ↔ r.l.size ≤ 100000 ∧ smallL r.ps := by obtain ⟨k, l, b, ps⟩ := r; rw [smallR]; exact Iff.rfl
theorem smallL_app : ∀ l m, smallL (l ++ m) ↔ smallL l ∧ smallL m
  | [], m => by rw [List.nil_append, smallL]; simp
  | p :: l, m => by rw [List.cons_append, smallL, smallL, smallL_app l m, and_assoc]
theorem smallL_mem {p : Rx} : ∀ {ps : List Rx}, smallL ps → p ∈ ps → smallR p
  | q :: ps, h, hp => by
    rw [smallL] at h
    rcases List.mem_cons.1 hp with rfl | hp
    · exact h.1
    · exact smallL_mem h.2 hp
theorem small_rx0 : smallR rx0 := by unfold rx0; rw [smallR, smallL]; exact ⟨Nat.zero_le _, trivial⟩
theorem small_mk (k : Int) (b : Bool) {ps : List Rx} (h : smallL ps) : smallR (.mk k ⟨#[]⟩ b ps) := by rw [smallR]; exact ⟨Nat.zero_le _, h⟩
def smallW (ws : List Wd) : Prop := ∀ w, w ∈ ws → w.2.1.size ≤ 100000
theorem step_small {ws : List Wd} (hw : smallW ws) (st : RS) (back : Bool) : smallR (stepR ws st back) := by
  unfold stepR
  split
  · rename_i h
    unfold stepOk at h
    rw [decide_eq_true_eq] at h
    rw [smallR, smallL]
    refine ⟨hw _ ?_, trivial⟩
    rw [kAt, List.getD_eq_getElem?_getD, List.getElem?_eq_getElem h.2.1]
    exact List.getElem_mem _
  · exact small_rx0
theorem piece_small {ws : List Wd} (hw : smallW ws) (R : RS → Rd2) (hR : ∀ st, smallR (R st).1) (st : RS) : smallR (pieceF ws R st).1 := by
  unfold pieceF
  split
  · exact step_small hw _ _
  · split
    · exact step_small hw _ _
    · split
      · exact small_mk _ _ trivial
      · exact hR _
theorem star_small (ws : List Wd) : ∀ (f : Nat) (x : Rx) (st : RS), smallR x → smallR (starL ws f x st).1
  | 0, x, st, h => h
  | f + 1, x, st, h => by
    have key : ∀ k : Int, smallR (.mk k ⟨#[]⟩ false [x]) := fun k => small_mk _ _ ⟨h, trivial⟩
    rw [starL]
    split
    · exact star_small ws f _ _ (key _)
    · split
      · exact star_small ws f _ _ (key _)
      · split
        · exact star_small ws f _ _ (key _)
        · exact h
theorem item_small {ws : List Wd} (hw : smallW ws) (R : RS → Rd2) (hR : ∀ st, smallR (R st).1) (st : RS) : smallR (itemF ws R st).1 :=
  star_small ws _ _ _ (piece_small hw R hR st)
theorem take_small {kind : Int} {l : List Rx} {x : Rx} (hl : smallL l) (hx : smallR x) : smallL (takeL kind l x) := by
  unfold takeL
  split
  · exact (smallL_app _ _).2 ⟨hl, ((smallR_eq x).1 hx).2⟩
  · exact (smallL_app _ _).2 ⟨hl, hx, trivial⟩
theorem whole_small {kind : Int} {l : List Rx} (hl : smallL l) : smallR (wholeR kind l) := by
  unfold wholeR
  split
  · rename_i h
    match l, h, hl with
    | [x], _, hl => exact hl.1
  · exact small_mk _ _ hl
theorem parts_small (ws : List Wd) (kind : Int) (one : RS → Rd2) (h1 : ∀ st, smallR (one st).1) : ∀ (f : Nat) (l : List Rx) (st : RS), smallL l → smallR (partsL ws kind one f l st).1
  | 0, l, st, h => small_rx0
  | f + 1, l, st, h => by
    rw [partsL]
    split
    · exact parts_small ws kind one h1 f _ _ (take_small h (h1 st))
    · exact whole_small (take_small h (h1 st))
theorem rows_small {ws : List Wd} (hw : smallW ws) (R : RS → Rd2) (hR : ∀ st, smallR (R st).1) (st : RS) : smallR (rowsF ws R st).1 :=
  parts_small ws 4 _ (fun st => parts_small ws 3 _ (fun st => item_small hw R hR st) _ [] st trivial) _ [] st trivial
theorem rowsN_small {ws : List Wd} (hw : smallW ws) : ∀ (n : Nat) (st : RS), smallR (rowsN ws n st).1
  | 0, st => small_rx0
  | n + 1, st => rows_small hw _ (fun st => rowsN_small hw n st) st
/-- what reading comes to: an expression, and how many words; or what is wrong, and where -/
abbrev Sd := Rx × Int × Int
def readF (nm : ByteArray → Bool) (ws : List Wd) : Sd :=
  if (rowsN ws (ws.length + 1) (0, 0)).2.2 ≠ 0 then (rx0, (rowsN ws (ws.length + 1) (0, 0)).2.1, (rowsN ws (ws.length + 1) (0, 0)).2.2)
  else if goodR nm (rowsN ws (ws.length + 1) (0, 0)).1 = false then (rx0, 0, 5)
  else ((rowsN ws (ws.length + 1) (0, 0)).1, (rowsN ws (ws.length + 1) (0, 0)).2.1, 0)
def parseF (nm : ByteArray → Bool) (r : List Wd × Int × Int) : Sd :=
  if r.2.2 ≠ 0 then (rx0, r.2.1, r.2.2)
  else if (readF nm r.1).2.2 ≠ 0 then (rx0, (readF nm r.1).2.1, (readF nm r.1).2.2)
  else if (readF nm r.1).2.1 < r.1.length then (rx0, (readF nm r.1).2.1, 2)
  else ((readF nm r.1).1, (readF nm r.1).2.1, 0)
theorem imp_rx {C : Cfg} {fr : List AV} {o : GH} {loc : List (Nat × Blk)} {d : Nat} {cs : List AV} (r : Rx) (hl : look loc d = some (.cells 0 cs)) (hle : rxB r cs) :
    Imp C fr ⟨o, loc⟩ fr ⟨o, setL loc d (.cells 0 [.lit (.int .i64 r.k), .lit (.string r.l), .lit (.bool r.b), .isl none (r.ps.map rA) .no])⟩ :=
  imp_cells (leLL_set (show leB (.cells 0 cs) (.cells 0 _) from ⟨rfl, hle⟩) hl)
theorem setL_hit (d : Nat) (c b : Blk) (l : List (Nat × Blk)) : setL ((d, c) :: l) d b = (d, b) :: l := by unfold setL; rw [if_pos rfl]
/-- a function's end that hands back a struct out of memory of its own -/
theorem FnPost_ce0 {C : Cfg} {d : Nat} {t : TypeId} {g : GH} {e : Exit} {fr : List AV} {loc : List (Nat × Blk)} (hg : ∀ id, C.n ≤ id → g id = none) (he : e = .normal ∨ e = .ret) (res : AV) (cs' cs : List AV)
    (hl : look loc d = some (.cells 0 cs)) (hle : leL cs cs') (hn : res.only (· < C.n))
    (hp : ∀ loc', look loc' d = some (.cells 0 cs') → resP C.P fr (HP.get ⟨g, loc'⟩ C.n) [.cell d t] ∧ leA (resV C.P fr (HP.get ⟨g, loc'⟩ C.n) [.cell d t]) res) :
    FnPost C [.cell d t] (fun r' g' => r' = res ∧ g' = g) e fr ⟨g, loc⟩ := by
  have hb : leB (.cells 0 cs) (.cells 0 cs') := ⟨rfl, hle⟩
  refine FnPost_imp (imp_cells (leLL_set hb hl)) ?_
  have := FnPost_e1 hg he res [] (by simp) (gputs_nil g).symm hn (hp _ (look_set hl))
  rwa [gputs_nil] at this
/-- reading's outcome, as the document's reader has it -/
abbrev saL (r : Rx) (a : Nat) (e : Int) : List AV := [.lit (.int .i64 r.k), .lit (.string r.l), .lit (.bool r.b), .isl none (r.ps.map rA) .no, .lit (.int .i64 a), .lit (.int .i64 e)]
abbrev saA (r : Rx) (a : Nat) (e : Int) : AV := .agg (saL r a e)
def okR (q : Rd2) : Rx := if q.2.2 = 0 then q.1 else rx0
abbrev saC (q : Rd2) : AV := saA (okR q) q.2.1 q.2.2
theorem saA_only (r : Rx) (a : Nat) (e : Int) {p : Nat → Prop} : (saA r a e).only p := by
  refine .agg fun x hx => ?_
  simp only [List.mem_cons, List.not_mem_nil, or_false] at hx
  rcases hx with rfl | rfl | rfl | rfl | rfl | rfl
  · exact .lit _
  · exact .lit _
  · exact .lit _
  · exact (only_no _ _ _).2 trivial
  · exact .lit _
  · exact .lit _
theorem okR_ok {q : Rd2} (h : q.2.2 = 0) : okR q = q.1 := by unfold okR; rw [if_pos h]
theorem okR_no {q : Rd2} (h : ¬ q.2.2 = 0) : okR q = rx0 := by unfold okR; rw [if_neg h]
end Go.Av

