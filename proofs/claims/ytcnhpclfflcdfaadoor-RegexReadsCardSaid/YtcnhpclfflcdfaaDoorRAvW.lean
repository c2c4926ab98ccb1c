/- Plain words. -/
import Derived.Test.YtcnhpclfflcdfaaDoorRAvV
import Derived.ChangeArms
import Derived.SizedLaws
import Derived.DataReads
import Derived.Deep.Slices
namespace Go.Av
set_option linter.unusedVariables false
set_option linter.unusedSimpArgs false
open Go.RowKit

/-! ### what a law is called with, as abstract values -/
def elA (agg : Bool) (cs : List AV) : AV := if agg then .agg cs else cs.headD .any

/-- the cells of a value of a type -/
def HasT (P : Program) : Nat → TypeId → List AV → Prop
  | 0, _, _ => False
  | n + 1, t, cs => match P.underlying t with
    | some .bool => ∃ b, cs = [.lit (.bool b)]
    | some (.int k) => ∃ z, cs = [.lit (.int k z)] ∧ (Lit.int k z).wf = true
    | some .string => ∃ s : ByteArray, cs = [.lit (.string s)] ∧ s.size ≤ reachBytes
    | some (.slice e) => ∃ (b : Bool) (L : List (List AV)), cs = [.isl (some b) (L.map (elA (isAggT P e))) .no] ∧ (b = true → L = []) ∧ L.length * P.bytesOf e ≤ reachBytes ∧ ∀ x, x ∈ L → x.length = P.cellsOf e ∧ HasT P n e x
    | some (.struct fs) => cs.length = P.cellsOf t ∧ ∀ f, f ∈ fs.toList → HasT P n f.type ((cs.drop f.offset).take (P.cellsOf f.type))
    | some (.pointer e) => cs = [.lit (.pointer none)] ∨ ∃ xs, cs = [.iptr xs] ∧ HasT P n e xs
    | _ => False
where isAggT (P : Program) (e : TypeId) : Bool := match P.underlying e with
  | some (.struct _) => true
  | some (.array _ _) => true
  | _ => false

def tileB (P : Program) : Nat → List Field → Option Nat
  | o, [] => some o
  | o, f :: fs => if f.offset = o then tileB P (o + P.cellsOf f.type) fs else none

def okT (P : Program) : Nat → TypeId → Bool
  | 0, _ => false
  | n + 1, t => match P.underlying t with
    | some .bool => true
    | some (.int _) => true
    | some .string => true
    | some (.slice e) => okT P n e && (P.cellsOf e != 0) && (HasT.isAggT P e || P.cellsOf e == 1)
    | some (.struct fs) => (tileB P 0 fs.toList == some (P.cellsOf t)) && fs.toList.all fun f => okT P n f.type
    | some (.pointer e) => okT P n e && (P.cellsOf e != 0)
    | _ => false

/-- no value of these lies in more than one cell -/
def flatA : AV → Prop
  | .agg _ => False
  | .tup _ => False
  | .any => False
  | _ => True

section
variable {H : Type} {enc : TypeId × Value → H} {P : Program} {w : World} {spare : Nat → Bool} {held : Bool}

theorem cell_spot {w : World} {a : Addr} {v : Value} (h : w.cell? a = some v) : a.spot = none := by
  unfold World.cell? at h
  split at h
  · split at h
    · cases h
    · rename_i hs; simpa using hs
  · cases h

theorem mem_weightsAll {e : TypeId} {n : Nat} : ∀ {l : List (DataW H)} {d : DataW H}, d ∈ l → n ∈ d.weights P e → n ∈ DataW.weightsAll P e l
  | d' :: l, d, hd, hn => by
    simp only [DataW.weightsAll, List.mem_append]
    rcases List.mem_cons.1 hd with rfl | hd
    · exact .inl hn
    · exact .inr (mem_weightsAll hd hn)

theorem choose_rep {n : Nat} {φ : Nat → List AV → Prop} (h : ∀ i, i < n → ∃ c, φ i c) : ∃ F : Nat → List AV, ∀ i, i < n → φ i (F i) := by
  classical
  exact ⟨fun i => if hi : i < n then (h i hi).choose else [], fun i hi => by simp only [hi, dif_pos]; exact (h i hi).choose_spec⟩

theorem tile_le {fs : List Field} : ∀ {o e : Nat}, tileB P o fs = some e → o ≤ e := by
  induction fs with
  | nil => intro o e h; simp [tileB] at h; omega
  | cons f fs ih =>
    intro o e h
    unfold tileB at h
    split at h
    · have := ih h; omega
    · cases h

theorem tile_rep {M : Mem} {φ : Phi} {vs : List Value} {G : TypeId → List AV → Prop} : ∀ (fs : List Field) (o e : Nat), tileB P o fs = some e → e ≤ vs.length →
    (∀ f, f ∈ fs → ∃ c, RepL M φ c ((vs.drop f.offset).take (P.cellsOf f.type)) ∧ G f.type c) →
    ∃ cs, RepL M φ cs ((vs.drop o).take (e - o)) ∧ ∀ f, f ∈ fs → o ≤ f.offset ∧ G f.type ((cs.drop (f.offset - o)).take (P.cellsOf f.type))
  | [], o, e, h, hl, hf => by
    simp [tileB] at h
    subst h
    exact ⟨[], by simpa using RepL.nil, by simp⟩
  | f :: fs, o, e, h, hl, hf => by
    unfold tileB at h
    split at h
    case isFalse => cases h
    rename_i ho
    have hle := tile_le h
    obtain ⟨c, h1, h2⟩ := hf f (by simp)
    obtain ⟨cs, h3, h4⟩ := tile_rep fs _ e h hl fun g hg => hf g (by simp [hg])
    rw [ho] at h1
    have hcl : c.length = P.cellsOf f.type := by rw [h1.1]; simp; omega
    refine ⟨c ++ cs, ?_, ?_⟩
    · have := h1.append h3
      rw [show e - o = P.cellsOf f.type + (e - (o + P.cellsOf f.type)) by omega, List.take_add, List.drop_drop]
      exact this
    · intro g hg
      rcases List.mem_cons.1 hg with rfl | hg
      · refine ⟨by omega, ?_⟩
        rw [show g.offset - o = 0 by omega, List.drop_zero, ← hcl, List.take_left]
        exact h2
      · obtain ⟨h5, h6⟩ := h4 g hg
        refine ⟨by omega, ?_⟩
        rw [show g.offset - o = c.length + (g.offset - (o + P.cellsOf f.type)) by omega, ← List.drop_drop, List.drop_left]
        exact h6

theorem open_cells : ∀ (n : Nat) (t : TypeId) (fuel : Nat) (vs : List Value) (x : DataW H × List MemPlace), okT P n t = true → DataW.trod enc P w 0 spare held fuel t vs = some x → (∀ k, k ∈ x.1.weights P t → k ≤ reachBytes) →
    ∃ cs, RepL (memOf w) Phi.none cs vs ∧ HasT P n t cs
  | 0, t, fuel, vs, x, hok, _, _ => by simp [okT] at hok
  | n + 1, t, fuel, vs, x, hok, h, hw => by
    unfold okT at hok
    unfold HasT
    split at hok
    · rename_i hu
      obtain ⟨b, rfl, rfl⟩ := DataW.trod_bool hu h
      exact ⟨[.lit (.bool b)], RepL.cons (.lit _) RepL.nil, ⟨b, rfl⟩⟩
    · rename_i k hu
      obtain ⟨z, rfl, rfl, hz⟩ := DataW.trod_int hu h
      exact ⟨[.lit (.int k z)], RepL.cons (.lit _) RepL.nil, ⟨z, rfl, hz⟩⟩
    · rename_i hu
      obtain ⟨s, rfl, rfl, hs⟩ := DataW.trod_string hu h
      refine ⟨[.lit (.string s)], RepL.cons (.lit _) RepL.nil, ⟨s, rfl, ?_⟩⟩
      have := hw s.data.toList.length (by simp [DataW.weights])
      rwa [Array.length_toList] at this
    · rename_i e hu
      simp only [Bool.and_eq_true, bne_iff_ne, ne_eq, Bool.or_eq_true, beq_iff_eq] at hok
      obtain ⟨⟨hok, hne⟩, hag⟩ := hok
      rcases DataW.trod_slice hu h with ⟨rfl, rfl⟩ | ⟨a, len, cap, elems, rest, n', _, rfl, rfl, hb, hl, hm, hlen, hel, hsp, hns⟩
      · refine ⟨[.isl (some true) [] .no], RepL.cons ?_ RepL.nil, ⟨true, [], rfl, fun _ => rfl, by simp, by simp⟩⟩
        exact .isl 0 (fun _ _ => undef) rfl (Nat.le_refl _) (by simp) (by simp) (by simp) (by simp) (by simp) (by simp) (by simp) (by simp)
      · simp only [DataW.weights, hu] at hw
        have hsize := hw _ List.mem_cons_self
        simp only [List.length_map] at hsize
        have key : ∀ i, i < len → ∃ c vs', w.cells? 0 (a.add (i * P.cellsOf e)) (P.cellsOf e) = some vs' ∧ RepL (memOf w) Phi.none c vs' ∧ HasT P n e c := by
          intro i hi
          have hb := hel i hi
          rw [List.getElem?_eq_getElem (by omega)] at hb
          obtain ⟨vs', h1, h2⟩ := Option.bind_eq_some_iff.1 hb
          obtain ⟨c, h3, h4⟩ := open_cells n e n' vs' _ hok h2 fun k hk => hw k (List.mem_cons_of_mem _ (List.mem_append_left _ (mem_weightsAll (List.mem_map.2 ⟨_, List.getElem_mem _, rfl⟩) hk)))
          exact ⟨c, vs', h1, h3, h4⟩
        obtain ⟨F, hF⟩ := choose_rep (φ := fun i c => ∃ vs', w.cells? 0 (a.add (i * P.cellsOf e)) (P.cellsOf e) = some vs' ∧ RepL (memOf w) Phi.none c vs' ∧ HasT P n e c) key
        have hFl : ∀ i, i < len → (F i).length = P.cellsOf e := by
          intro i hi
          obtain ⟨vs', h1, h2, h3⟩ := hF i hi
          rw [h2.1]; exact (World.cells?_some h1).2.1
        have hget : ∀ (i : Nat) (x : AV), (((List.range len).map F).map (elA (HasT.isAggT P e)))[i]? = some x → i < len ∧ x = elA (HasT.isAggT P e) (F i) := by
          intro i x hx
          have hi : i < len := by have := (List.getElem?_eq_some_iff.1 hx).1; simpa using this
          simp [hi] at hx
          exact ⟨hi, hx.symm⟩
        have hflat : ∀ i, i < len → ∀ x, x ∈ F i → x.cells = [x] ∨ HasT.isAggT P e = true := by
          intro i hi x hx
          cases hg : HasT.isAggT P e with
          | true => exact .inr rfl
          | false =>
            left
            obtain ⟨vs', h1, h2, h3⟩ := hF i hi
            cases n with
            | zero => exact h3.elim
            | succ n =>
              unfold HasT at h3
              unfold HasT.isAggT at hg
              split at h3
              · obtain ⟨b, hb⟩ := h3; rw [hb] at hx; simp at hx; subst hx; rfl
              · obtain ⟨b, hb, _⟩ := h3; rw [hb] at hx; simp at hx; subst hx; rfl
              · obtain ⟨b, hb, _⟩ := h3; rw [hb] at hx; simp at hx; subst hx; rfl
              · obtain ⟨b, L, hb, _⟩ := h3; rw [hb] at hx; simp at hx; subst hx; rfl
              · rename_i hus; rw [hus] at hg; simp at hg
              · rcases h3 with hb | ⟨xs, hb, _⟩ <;> rw [hb] at hx <;> simp at hx <;> subst hx <;> rfl
              · exact h3.elim
        have hcells : ∀ i, i < len → (elA (HasT.isAggT P e) (F i)).cells = F i := by
          intro i hi
          unfold elA
          cases hg : HasT.isAggT P e with
          | true => rfl
          | false =>
            have h1 : P.cellsOf e = 1 := by rcases hag with h | h; rw [hg] at h; cases h; exact h
            have h2 := hFl i hi
            rw [h1] at h2
            match hq : F i, h2 with
            | [x], _ =>
              have := hflat i hi x (by rw [hq]; simp)
              rw [hg] at this
              rcases this with h | h
              · simpa using h
              · cases h
        have hspot : len ≠ 0 → a.spot = none := by
          intro h0
          obtain ⟨vs', h1, h2, h3⟩ := hF 0 (by omega)
          obtain ⟨_, hl1, hc⟩ := World.cells?_some h1
          have := hc 0 (by omega)
          rw [List.getElem?_eq_getElem (by omega)] at this
          have hsx := cell_spot this
          simpa [Addr.add] using hsx
        refine ⟨[.isl (some false) (((List.range len).map F).map (elA (HasT.isAggT P e))) .no], RepL.cons ?_ RepL.nil, ?_⟩
        · refine .isl (P.cellsOf e) (fun i c => (((w.cells? 0 (a.add (i * P.cellsOf e)) (P.cellsOf e)).getD []).getD c undef)) (by simp) hl (by simp) (by simp) ?_ ?_ ?_ ?_ (by simp) (by simp)
          · intro x hx
            obtain ⟨i, hi⟩ := List.getElem?_of_mem hx
            obtain ⟨h1, rfl⟩ := hget i x hi
            rw [hcells i h1, hFl i h1]
          · intro r hr hne
            cases hr
            exact hspot (by intro h0; apply hne; simp [h0])
          · intro r hr i x c y hx hy
            cases hr
            obtain ⟨h1, rfl⟩ := hget i x hx
            rw [hcells i h1] at hy
            obtain ⟨vs', h2, h3, h4⟩ := hF i h1
            obtain ⟨_, hl1, hc⟩ := World.cells?_some h2
            have hclt : c < P.cellsOf e := by have := (List.getElem?_eq_some_iff.1 hy).1; rw [hFl i h1] at this; exact this
            have := hc c hclt
            rw [List.getElem?_eq_getElem (by omega)] at this
            rw [h2]
            have hsp' := hspot (by omega)
            obtain ⟨ab, ao, asp⟩ := a
            simp only at hsp'; subst hsp'
            rw [addr_add, addr_add] at this
            simp only [memOf, Option.getD_some, List.getD_eq_getElem?_getD, List.getElem?_eq_getElem (show c < vs'.length by omega)]
            exact this
          · intro i x c y hx hy
            obtain ⟨h1, rfl⟩ := hget i x hx
            rw [hcells i h1] at hy
            obtain ⟨vs', h2, h3, h4⟩ := hF i h1
            rw [h2]
            have hclt : c < vs'.length := by rw [← h3.1]; exact (List.getElem?_eq_some_iff.1 hy).1
            simp only [Option.getD_some, List.getD_eq_getElem?_getD, List.getElem?_eq_getElem hclt]
            exact h3.2 c y _ hy (by simp [hclt])
        · refine ⟨false, (List.range len).map F, rfl, by simp, ?_, ?_⟩
          · rw [List.length_map, List.length_range]
            exact Nat.le_trans (Nat.mul_le_mul_right _ (by omega)) hsize
          · intro x hx
            obtain ⟨i, hi, rfl⟩ := List.mem_map.1 hx
            have hi := List.mem_range.1 hi
            exact ⟨hFl i hi, (hF i hi).choose_spec.2.2⟩
    · rename_i fs hu
      simp only [Bool.and_eq_true, beq_iff_eq, List.all_eq_true] at hok
      obtain ⟨htile, hokf⟩ := hok
      obtain ⟨xs, n', _, rfl, hl, hlen, hf⟩ := DataW.trod_struct hu h
      simp only [DataW.weights, hu] at hw
      obtain ⟨cs, h1, h2⟩ := tile_rep (M := memOf w) (φ := Phi.none) (vs := vs) (G := HasT P n) fs.toList 0 (P.cellsOf t) htile (by omega) (by
        intro f hfm
        obtain ⟨i, hi⟩ := List.getElem?_of_mem hfm
        have hi' : fs[i]? = some f := by simpa using hi
        have hlt : i < xs.length := by rw [hlen]; exact (Array.getElem?_eq_some_iff.1 hi').1
        have := hf i f hi'
        rw [List.getElem?_eq_getElem hlt] at this
        exact open_cells n f.type n' _ _ (hokf f hfm) this fun k hk => hw k (DataW.weights_mem_each (j := i) (by rw [List.getElem?_map, hi]; rfl) (by rw [List.getElem?_map, List.getElem?_eq_getElem hlt]; rfl) k hk))
      rw [List.drop_zero, Nat.sub_zero, ← hl, List.take_length] at h1
      refine ⟨cs, h1, ?_⟩
      exact ⟨by rw [h1.1, hl], fun f hfm => by have := (h2 f hfm).2; rwa [Nat.sub_zero] at this⟩
    · rename_i e hu
      simp only [Bool.and_eq_true, bne_iff_ne, ne_eq] at hok
      rcases DataW.trod_pointer hu h with ⟨rfl, rfl⟩ | ⟨a, cs', y, n', _, rfl, rfl, hc, hy⟩
      · exact ⟨[.lit (.pointer none)], RepL.cons (.lit _) RepL.nil, .inl rfl⟩
      · simp only [DataW.weights, hu] at hw
        obtain ⟨xs, h1, h2⟩ := open_cells n e n' cs' y hok.1 hy hw
        obtain ⟨_, hl1, hcc⟩ := World.cells?_some hc
        have hpos : 0 < cs'.length := by have := hok.2; omega
        have h0 := hcc 0 (by omega)
        rw [List.getElem?_eq_getElem hpos] at h0
        have hsp : a.spot = none := by simpa [Addr.add] using cell_spot h0
        obtain ⟨ab, ao, asp⟩ := a
        simp only at hsp; subst hsp
        refine ⟨[.iptr xs], RepL.cons ?_ RepL.nil, .inr ⟨xs, rfl, h2⟩⟩
        refine .iptr (fun c => cs'.getD c undef) ?_ ?_
        · intro c x hx
          have hlt : c < cs'.length := by rw [← h1.1]; exact (List.getElem?_eq_some_iff.1 hx).1
          have := hcc c (by omega)
          rw [addr_add, List.getElem?_eq_getElem hlt] at this
          simp only [memOf, List.getD_eq_getElem?_getD, List.getElem?_eq_getElem hlt]
          exact this
        · intro c x hx
          have hlt : c < cs'.length := by rw [← h1.1]; exact (List.getElem?_eq_some_iff.1 hx).1
          simp only [List.getD_eq_getElem?_getD, List.getElem?_eq_getElem hlt]
          exact h1.2 c x _ hx (by simp [hlt])
    · cases hok

/-- an argument -/
def HasA (P : Program) (n : Nat) (t : TypeId) (x : AV) : Prop := ∃ cs, x = elA (HasT.isAggT P t) cs ∧ HasT P n t cs

theorem open_arg {n : Nat} {t : TypeId} {v : Value} {d : DataW H} {ps : List MemPlace} {r : Go.Reach} {b0 : Nat} (hok : okT P n t = true) (hval : Value.okWide P w r b0 t v) (h : DataW.Trod enc P w 0 spare held t v d ps)
    (hw : ∀ k, k ∈ d.weights P t → k ≤ reachBytes) : ∃ x, Rep (memOf w) Phi.none x v ∧ HasA P n t x := by
  obtain ⟨fuel, hf⟩ := h
  obtain ⟨cs, h1, h2⟩ := open_cells n t fuel _ _ hok hf hw
  have key : HasT.isAggT P t = false → ∃ x, Rep (memOf w) Phi.none x v ∧ HasA P n t x := by
    intro hg
    have hcell : v.cells = #[v] := by
      unfold Value.okWide at hval
      unfold HasT.isAggT at hg
      split at hval
      · rename_i hu; rw [hu] at hg; simp at hg
      · rename_i hu; rw [hu] at hg; simp at hg
      · cases v <;> try rfl
        rename_i arr
        exfalso
        cases n with
        | zero => simp [okT] at hok
        | succ n =>
          unfold okT at hok
          unfold Cell.okWide at hval
          unfold Cell.ok at hval
          cases hu : P.underlying t with
          | none => rw [hu] at hok; simp at hok
          | some dd =>
            rw [hu] at hok hval hg
            cases dd <;> simp_all
    rw [hcell] at h1
    match cs, h1 with
    | [], h1 => have := h1.1; simp at this
    | [x], h1 => exact ⟨x, h1.2 0 x v rfl rfl, [x], by unfold elA; rw [hg]; rfl, h2⟩
    | x :: y :: l, h1 => have := h1.1; simp at this
  cases hg : HasT.isAggT P t with
  | false => exact key hg
  | true =>
    unfold Value.okWide at hval
    unfold HasT.isAggT at hg
    have hv : ∃ arr, v = .agg arr := by
      split at hval
      · obtain ⟨arr, rfl, _⟩ := hval; exact ⟨arr, rfl⟩
      · obtain ⟨arr, rfl, _⟩ := hval; exact ⟨arr, rfl⟩
      · exfalso; split at hg <;> simp_all
    obtain ⟨arr, rfl⟩ := hv
    refine ⟨.agg cs, .agg (by have := h1.1; simpa [Value.cells] using this) (fun i x v hx hv => h1.2 i x v hx (by simpa [Value.cells] using hv)), cs, ?_, h2⟩
    unfold elA
    rw [if_pos]
    unfold HasT.isAggT; exact hg
end
end Go.Av

