import Derived.Test.YtjinngfpbmkhaaaAvI
namespace Go.Av
set_option linter.unusedVariables false
set_option linter.unusedSimpArgs false
open Go.RowKit

section
variable {P : Program} {w0 w : World} {M : Mem} {φ : Phi} {g : GH}

theorem flat_len {l : List AV} {sz : Nat} (h : szOk sz l) : (l.flatMap AV.cells).length = l.length * sz := by
  induction l with
  | nil => simp
  | cons e l ih =>
    rw [List.flatMap_cons, List.length_append, h e (by simp), ih (fun y hy => h y (by simp [hy])), List.length_cons, Nat.add_mul]
    omega

theorem flat_get {l : List AV} {sz : Nat} (h : szOk sz l) {i c : Nat} {e : AV} (he : l[i]? = some e) (hc : c < sz) : (l.flatMap AV.cells)[i * sz + c]? = e.cells[c]? := by
  induction l generalizing i with
  | nil => simp at he
  | cons y l ih =>
    have hy := h y (by simp)
    rw [List.flatMap_cons]
    cases i with
    | zero =>
      simp only [List.getElem?_cons_zero, Option.some.injEq] at he
      subst he
      rw [List.getElem?_append_left (by omega)]
      simp
    | succ i =>
      simp only [List.getElem?_cons_succ] at he
      rw [List.getElem?_append_right (by rw [hy, Nat.add_mul]; omega), hy]
      have : (i + 1) * sz + c - sz = i * sz + c := by rw [Nat.add_mul]; omega
      rw [this]
      exact ih (fun z hz => h z (by simp [hz])) he

theorem rep_idf {x : AV} {v : Value} (h : Rep M φ x v) (hi : x.idf = true) : Rep M Phi.none x v := by
  cases h <;> simp [AV.idf] at hi
  · exact .lit _
  · rename_i cv h1 h2; exact .iptr cv h1 h2
  · rename_i nl l tok a len cap sz cv h1 h2 h3 h4 h5 h6 h7 h8 h9 h10
    refine .isl sz cv h1 h2 h3 h4 h5 h6 h7 h8 h9 ?_
    intro k ver ht; subst ht; simp [Tk.free] at hi

theorem repL_idf {cs : List AV} {vs : List Value} (h : RepL M φ cs vs) (hi : cs.all AV.idf = true) : RepL M Phi.none cs vs :=
  ⟨h.1, fun i x v h1 h2 => rep_idf (h.2 i x v h1 h2) (List.all_eq_true.1 hi x (List.mem_of_getElem? h1))⟩

theorem elsOk_sz {sz : Nat} {l : List AV} (h : elsOk sz l) : szOk sz l := fun e he => (h e he).1
theorem elsOk_idf {sz : Nat} {l : List AV} (h : elsOk sz l) : (l.flatMap AV.cells).all AV.idf = true := by
  rw [List.all_eq_true]
  intro x hx
  obtain ⟨e, he, hx⟩ := List.mem_flatMap.1 hx
  exact List.all_eq_true.1 (h e he).2 x hx

theorem rep_isl_block {l : List AV} {sz : Nat} (hsz : szOk sz l) {vs : List Value} (hr : RepL M Phi.none (l.flatMap AV.cells) vs) (r off : Nat) (hm : ∀ k v, vs[k]? = some v → M r (off + k) = some v) {cap : Nat} (hcap : l.length ≤ cap)
    {nl : Option Bool} (hnl : ∀ b, nl = some b → b = false) {tok : Tk} (hfull : tok = .full → cap = l.length) (htok : ∀ k ver, tok = .at k ver → ∃ own, φ k ver = some (.tk (some r) own sz l.length cap) ∧ (own = true → off = 0)) :
    Rep M φ (.isl nl l tok) (.slice (some ⟨r, off, none⟩) l.length cap) := by
  have hlen := flat_len hsz
  have key : ∀ (i : Nat) (e : AV) (c : Nat) (x : AV), l[i]? = some e → e.cells[c]? = some x → ∃ v, vs[i * sz + c]? = some v ∧ (l.flatMap AV.cells)[i * sz + c]? = some x := by
    intro i e c x he hx
    have hc : c < sz := by rw [← hsz e (List.mem_of_getElem? he)]; exact (List.getElem?_eq_some_iff.1 hx).1
    have h1 := flat_get hsz he hc
    rw [hx] at h1
    have h2 : i * sz + c < vs.length := by rw [← hr.1]; exact (List.getElem?_eq_some_iff.1 h1).1
    exact ⟨vs[i * sz + c], by simp [h2], h1⟩
  refine .isl sz (fun i c => (vs[i * sz + c]?).getD undef) rfl hcap (fun b hb => by rw [hnl b hb]; rfl) (by simp) hsz (by intro q hq _; cases hq; rfl) ?_ ?_ hfull ?_
  · intro q hq i e c x he hx
    cases hq
    obtain ⟨v, h1, h2⟩ := key i e c x he hx
    have := hm _ v h1
    rw [← Nat.add_assoc] at this
    rw [this, h1]; rfl
  · intro i e c x he hx
    obtain ⟨v, h1, h2⟩ := key i e c x he hx
    rw [h1]
    exact hr.2 _ x v h2 h1
  · intro k ver ht
    obtain ⟨own, h1, h2⟩ := htok k ver ht
    refine ⟨own, by simpa using h1, ?_⟩
    intro ho q hq; cases hq; have := h2 ho; subst this; rfl

/-- The cells of a slice, as they lie in memory. -/
theorem isl_cells (hw : Wr w0 M φ g w) {nl : Option Bool} {l : List AV} {tok : Tk} {a : Option Addr} {len cap sz : Nat} (h : Rep M φ (.isl nl l tok) (.slice a len cap)) (hsz : szOk sz l) :
    ∃ vs : List Value, RepL M Phi.none (l.flatMap AV.cells) vs ∧ len = l.length ∧ len ≤ cap ∧ (a = none → cap = 0) ∧ (∀ r, a = some r → ∀ k v, vs[k]? = some v → r.spot = none ∧ M r.block (r.off + k) = some v) := by
  cases h with
  | isl sz' cv hlen hcap hnl hnil hsz' hsp hm hr hfull htok =>
    have hl := flat_len hsz
    refine ⟨(List.range (l.length * sz)).map fun k => cv (k / sz) (k % sz), ⟨by simp [hl], ?_⟩, hlen, hcap, hnil, ?_⟩
    · intro k x v h1 h2
      have hk : k < l.length * sz := by rw [← hl]; exact (List.getElem?_eq_some_iff.1 h1).1
      have hsz0 : 0 < sz := by rcases Nat.eq_zero_or_pos sz with e | e; · simp [e] at hk
                               · exact e
      have hi : k / sz < l.length := (Nat.div_lt_iff_lt_mul hsz0).2 hk
      have hc : k % sz < sz := Nat.mod_lt _ hsz0
      rw [List.getElem?_map, List.getElem?_range hk] at h2
      simp only [Option.map_some, Option.some.injEq] at h2
      subst h2
      have hge := cells_getD hi
      have h3 := flat_get hsz hge hc
      rw [show k / sz * sz + k % sz = k by rw [Nat.mul_comm]; exact Nat.div_add_mod k sz, h1] at h3
      exact hr _ _ _ x hge h3.symm
    · intro r ha k v h1
      have hk : k < l.length * sz := by have := (List.getElem?_eq_some_iff.1 h1).1; simpa using this
      have hsz0 : 0 < sz := by rcases Nat.eq_zero_or_pos sz with e | e; · simp [e] at hk
                               · exact e
      have hi : k / sz < l.length := (Nat.div_lt_iff_lt_mul hsz0).2 hk
      have hc : k % sz < sz := Nat.mod_lt _ hsz0
      rw [List.getElem?_map, List.getElem?_range hk] at h1
      simp only [Option.map_some, Option.some.injEq] at h1
      subst h1
      have hge := cells_getD hi
      have hee := hsz _ (List.mem_of_getElem? hge)
      have hcc : (l.getD (k / sz) .any).cells[k % sz]? = some ((l.getD (k / sz) .any).cells[k % sz]'(by rw [hee]; exact hc)) := by simp
      have h3 := hm r ha _ _ _ _ hge hcc
      have hszz : sz' = sz := by rw [← hsz' _ (List.mem_of_getElem? hge), hee]
      subst hszz
      have hne : l ≠ [] := by intro e; subst e; simp at hi
      have hsp' := hsp r ha hne
      obtain ⟨b, o, sp⟩ := r
      simp only at hsp'
      subst hsp'
      refine ⟨rfl, ?_⟩
      rw [Nat.add_assoc, show k / sz' * sz' + k % sz' = k by rw [Nat.mul_comm]; exact Nat.div_add_mod k sz'] at h3
      exact h3

theorem arrSplice_arrSplice (cs : Array Value) (a : Nat) (u v : List Value) (h : a + (u.length + v.length) ≤ cs.size) : arrSplice (arrSplice cs a u) (a + u.length) v = arrSplice cs a (u ++ v) := by
  apply Array.ext_getElem?
  intro j
  rw [arrSplice_get _ _ _ _ (by rw [arrSplice_size _ _ _ (by omega)]; omega), arrSplice_get _ _ _ _ (by omega), arrSplice_get _ _ _ _ (by simp; omega), List.getElem?_append]
  simp only [List.length_append]
  by_cases h1 : a + u.length ≤ j ∧ j < a + u.length + v.length
  · rw [if_pos h1, if_pos (by omega), if_neg (by omega)]
    congr 1; omega
  · rw [if_neg h1]
    by_cases h2 : a ≤ j ∧ j < a + u.length
    · rw [if_pos h2, if_pos (by omega), if_pos (by omega)]
    · rw [if_neg h2, if_neg (by omega)]

/-- numbered parts, laid into a row -/
theorem fill_numbered (sz : Nat) : ∀ (ps : List (Nat × Value)) (k : Nat) (cs : Array Value) (us : List Value), (∀ i p, ps[i]? = some p → p.1 = k + i ∧ p.2.cells.size = sz) → us = ps.flatMap (fun p => p.2.cells.toList) → k * sz + us.length ≤ cs.size →
    Instr.fill (fun i => some (i * sz, sz)) cs ps = some (arrSplice cs (k * sz) us)
  | [], k, cs, us, h, hu, hl => by
    subst hu
    simp [Instr.fill, arrSplice]
  | (i, v) :: ps, k, cs, us, h, hu, hl => by
    obtain ⟨h1, h2⟩ := h 0 (i, v) rfl
    simp only [Nat.add_zero] at h1
    subst h1
    have h2 : v.cells.size = sz := h2
    simp only [List.flatMap_cons] at hu
    subst hu
    simp only [List.length_append, Array.length_toList] at hl
    unfold Instr.fill
    simp only [h2, ne_eq, not_true_eq_false, decide_false, Bool.false_or, decide_eq_true_eq]
    rw [if_neg (by omega)]
    have hfold := fold_set (i * sz) v.cells.toList 0 cs (by simp; omega)
    simp only [Nat.add_zero] at hfold
    have harr : (Array.foldl (fun (cs : Array Value) (x : Value × Nat) => cs.setIfInBounds (i * sz + x.2) x.1) cs v.cells.zipIdx) = arrSplice cs (i * sz) v.cells.toList := by
      rw [← Array.foldl_toList, Array.toList_zipIdx]
      apply Array.toList_inj.1
      rw [hfold]; simp [arrSplice]
    rw [harr, fill_numbered sz ps (i + 1) _ (ps.flatMap fun p => p.2.cells.toList) ?_ rfl ?_]
    · rw [show (i + 1) * sz = i * sz + v.cells.toList.length by rw [Nat.add_mul]; simp; omega, arrSplice_arrSplice _ _ _ _ (by simp only [Array.length_toList]; omega)]
    · intro j p hp
      obtain ⟨h3, h4⟩ := h (j + 1) p (by simpa using hp)
      exact ⟨by omega, h4⟩
    · rw [arrSplice_size _ _ _ (by simp; omega)]
      rw [Nat.add_mul]; omega

theorem parts_vals : ∀ {ps : List (Nat × AV)} {pv : List (Nat × Value)}, Parts M φ ps pv → ps.length = pv.length ∧ ∀ (i : Nat) (p : Nat × AV) (q : Nat × Value), ps[i]? = some p → pv[i]? = some q → p.1 = q.1 ∧ Rep M φ p.2 q.2
  | [], [], _ => ⟨rfl, by simp⟩
  | (_ :: _), (_ :: _), .cons h hl => by
    obtain ⟨h1, h2⟩ := parts_vals hl
    refine ⟨by simp [h1], ?_⟩
    intro i p q k1 k2
    cases i with
    | zero => simp at k1 k2; subst k1; subst k2; exact ⟨rfl, h⟩
    | succ i => simp at k1 k2; exact h2 i p q k1 k2

theorem numbered_get : ∀ (ps : List (Nat × AV)) (k : Nat), numbered ps k = true → ∀ (i : Nat) (p : Nat × AV), ps[i]? = some p → p.1 = k + i
  | [], k, h, i, p, hp => by simp at hp
  | (j, x) :: ps, k, h, i, p, hp => by
    simp only [numbered, Bool.and_eq_true, beq_iff_eq] at h
    cases i with
    | zero => simp at hp; subst hp; exact h.1
    | succ i => have := numbered_get ps (k + 1) h.2 i p (by simpa using hp); omega

/-- the parts' cells, one behind the other -/
theorem parts_cells : ∀ {ps : List (Nat × AV)} {pv : List (Nat × Value)}, Parts M φ ps pv → (∀ p, p ∈ ps → p.2.cells.all AV.scalar = true) →
    RepL M φ (ps.flatMap fun p => p.2.cells) (pv.flatMap fun p => p.2.cells.toList) ∧ ∀ u, u ∈ (pv.flatMap fun p => p.2.cells.toList) → u.oneCell' = true
  | [], [], _, _ => ⟨RepL.nil, by simp⟩
  | ((i, x) :: ps), ((_, v) :: pv), .cons h hl, hs => by
    obtain ⟨h1, h2⟩ := parts_cells hl (fun p hp => hs p (by simp [hp]))
    obtain ⟨k1, k2⟩ := rep_cells_s h (hs (i, x) (by simp))
    refine ⟨by simp only [List.flatMap_cons]; exact k1.append h1, ?_⟩
    intro u hu
    simp only [List.flatMap_cons, List.mem_append] at hu
    rcases hu with hu | hu
    · exact k2 u hu
    · exact h2 u hu

theorem rep_erase {x : AV} {v : Value} (h : Rep M φ x v) : Rep M φ x.erase v := by
  cases h <;> simp only [AV.erase]
  · exact .any _
  · exact .lit _
  · rename_i h1 h2; first | exact .ptr h1 h2 | exact .ptr h2 h1
  · rename_i cv h1 h2; exact .iptr cv h1 h2
  · rename_i nl l tok a len cap sz cv h1 h2 h3 h4 h5 h6 h7 h8 h9 h10
    refine .isl sz cv h1 h2 h3 h4 h5 h6 h7 h8 ?_ ?_
    · intro e; apply h9; cases tok <;> simp [Tk.erase] at e ⊢
    · intro k ver e; cases tok <;> simp [Tk.erase] at e
  · exact .osl ‹_› ‹_› ‹_› ‹_› ‹_› ‹_›
  · rename_i h1 h2; exact .agg h1 h2
  · rename_i h1 h2; exact .tup h1 h2
  · rename_i h1 h2; exact .fn h1 h2

theorem eraseE_cells (x : AV) : x.eraseE.cells = x.cells.map AV.erase := by
  cases x <;> simp [AV.eraseE, AV.cells, AV.erase]

theorem repL_erase {cs : List AV} {vs : List Value} (h : RepL M φ cs vs) : RepL M φ (cs.map AV.erase) vs := by
  refine ⟨by simp [h.1], ?_⟩
  intro i x v h1 h2
  simp only [List.getElem?_map, Option.map_eq_some_iff] at h1
  obtain ⟨y, h3, rfl⟩ := h1
  exact rep_erase (h.2 i y v h3 h2)

theorem idf_scalar {x : AV} (h : x.idf = true) : x.scalar = true := by cases x <;> simp_all [AV.idf, AV.scalar]
theorem erase_scalar (x : AV) : x.erase.scalar = x.scalar := by cases x <;> rfl

end
end Go.Av
