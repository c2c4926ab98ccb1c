import Derived.Test.YtjinngfpbmkhaaaHypN
/-! Plain words about hypergraphs: ears by sets are ears by lists; taking ears away. -/
namespace Go.Av
set_option linter.unusedVariables false
set_option linter.unusedSimpArgs false
def setE (E : Edges) (i : Nat) : List Int := ofL (eG E i).2.2
theorem foldl_isS : ∀ (l : List Int) (ws : List W64) (m : List Int), IsS ws m → IsS (l.foldl addI ws) (l.foldl addL m)
  | [], ws, m, h => h
  | x :: l, ws, m, h => foldl_isS l _ _ (h.add x)
theorem setE_isS (E : Edges) (i : Nat) : IsS ((eG E i).2.2.foldl addI []) (setE E i) := foldl_isS _ _ _ IsS.nil
theorem setsH_len (E : Edges) (i : Nat) (h : i ≤ E.length) : (setsH E i).length = i := by unfold setsH; simp; omega
theorem wG_setsH (E : Edges) (i : Nat) (h : i < E.length) : wG (setsH E E.length) i = (eG E i).2.2.foldl addI [] := by
  unfold wG setsH eG
  simp [List.getD_eq_getElem?_getD, h]
theorem wG_out (E : Edges) (i : Nat) (h : E.length ≤ i) : wG (setsH E E.length) i = [] := by
  unfold wG setsH
  simp [List.getD_eq_getElem?_getD, h]
theorem wG_isS (E : Edges) (i : Nat) (h : i < E.length) : IsS (wG (setsH E E.length) i) (setE E i) := by rw [wG_setsH E i h]; exact setE_isS E i
theorem wG_le (E : Edges) (i : Nat) : (wG (setsH E E.length) i).length ≤ 1024 := by
  by_cases h : i < E.length
  · exact (wG_isS E i h).len_le
  · rw [wG_out E i (by omega)]; simp
/-- whether an edge may be taken away, with a parent -/
def fitsF (E : Edges) (left : List Int) (i j : Int) : Bool := ((setE E i.toNat).all fun v => !(left.any fun k => decide (k ≠ i) && isN (setE E k.toNat) v) || isN (setE E j.toNat) v) && decide (i ≠ j)
theorem othersW_isS (E : Edges) (i : Int) : ∀ (left : List Int), (∀ k, k ∈ left → 0 ≤ k ∧ k < E.length) → ∀ (o : List W64) (m : List Int), IsS o m →
    ∃ m', IsS (left.foldl (fun o k => if k ≠ i then trimW (opW orW o (wG (setsH E E.length) k.toNat)) else o) o) m' ∧ ∀ v, v ∈ m' ↔ v ∈ m ∨ ∃ k, k ∈ left ∧ k ≠ i ∧ v ∈ setE E k.toNat
  | [], _, o, m, h => ⟨m, h, by simp⟩
  | k :: l, hl, o, m, h => by
    have hk := hl k (by simp)
    by_cases hki : k ≠ i
    · have hw := wG_isS E k.toNat (by omega)
      obtain ⟨m', h1, h2⟩ := othersW_isS E i l (fun k hk => hl k (by simp [hk])) _ _ (h.or hw)
      refine ⟨m', by rw [List.foldl_cons, if_pos hki]; exact h1, fun v => ?_⟩
      rw [h2]
      unfold orL
      rw [(mem_foldl h.rises _).2]
      constructor
      · rintro ((h3 | ⟨h3, _⟩) | ⟨x, h3, h4, h5⟩)
        · exact .inl h3
        · exact .inr ⟨k, by simp, hki, h3⟩
        · exact .inr ⟨x, by simp [h3], h4, h5⟩
      · rintro (h3 | ⟨x, h3, h4, h5⟩)
        · exact .inl (.inl h3)
        · rcases List.mem_cons.1 h3 with rfl | h3
          · exact .inl (.inr ⟨h5, hw.good _ h5⟩)
          · exact .inr ⟨x, h3, h4, h5⟩
    · obtain ⟨m', h1, h2⟩ := othersW_isS E i l (fun k hk => hl k (by simp [hk])) _ _ h
      refine ⟨m', by rw [List.foldl_cons, if_neg hki]; exact h1, fun v => ?_⟩
      rw [h2]
      constructor
      · rintro (h3 | ⟨x, h3, h4, h5⟩)
        · exact .inl h3
        · exact .inr ⟨x, by simp [h3], h4, h5⟩
      · rintro (h3 | ⟨x, h3, h4, h5⟩)
        · exact .inl h3
        · rcases List.mem_cons.1 h3 with rfl | h3
          · exact absurd h4 hki
          · exact .inr ⟨x, h3, h4, h5⟩
theorem earP_fits (E : Edges) (left : List Int) (hl : ∀ k, k ∈ left → 0 ≤ k ∧ k < E.length) (i j : Int) (hi : i ∈ left) (hj : j ∈ left) : earP (setsH E E.length) left i j = fitsF E left i j := by
  have hi2 := hl i hi
  have hj2 := hl j hj
  have wi := wG_isS E i.toNat (by omega)
  have wj := wG_isS E j.toNat (by omega)
  obtain ⟨m, h1, h2⟩ := othersW_isS E i left hl [] [] IsS.nil
  have hs : IsS (sharedW (setsH E E.length) left i) (pickL (setE E i.toNat) m true) := wi.and h1
  have he := (hs.minus wj).empty
  unfold earP fitsF
  have e2 : decide (j ≠ i) = decide (i ≠ j) := decide_eq_decide.2 ⟨Ne.symm, Ne.symm⟩
  have e1 : (decide (trimW (opW minW (sharedW (setsH E E.length) left i) (wG (setsH E E.length) j.toNat)) = []) : Bool) = ((setE E i.toNat).all fun v => !(left.any fun k => decide (k ≠ i) && isN (setE E k.toNat) v) || isN (setE E j.toNat) v) := by
    rw [Bool.eq_iff_iff, decide_eq_true_eq, he, List.all_eq_true]
    unfold pickL
    rw [List.filter_eq_nil_iff]
    have hm : ∀ v, isN m v = (left.any fun k => decide (k ≠ i) && isN (setE E k.toNat) v) := by
      intro v
      rw [Bool.eq_iff_iff, isN_mem h1.rises, decide_eq_true_eq, h2, List.any_eq_true]
      constructor
      · rintro (h3 | ⟨k, h3, h4, h5⟩)
        · cases h3
        · refine ⟨k, h3, ?_⟩
          have hk := hl k h3
          rw [isN_mem (wG_isS E k.toNat (by omega)).rises]
          simp [h4, h5]
      · rintro ⟨k, h3, h4⟩
        have hk := hl k h3
        rw [isN_mem (wG_isS E k.toNat (by omega)).rises] at h4
        simp at h4
        exact .inr ⟨k, h3, h4.1, h4.2⟩
    constructor
    · intro h v hv
      have := h v
      rw [List.mem_filter, hm] at this
      cases hh : (left.any fun k => decide (k ≠ i) && isN (setE E k.toNat) v) with
      | false => simp
      | true =>
        simp only [hv, hh, true_and, beq_self_eq_true, forall_const] at this
        simpa using this
    · intro h v hv
      rw [List.mem_filter, hm] at hv
      have := h v hv.1
      rw [show (left.any fun k => decide (k ≠ i) && isN (setE E k.toNat) v) = true by simpa using hv.2] at this
      simpa using this
  rw [e1, e2, Bool.and_comm]
/-! ### taking away -/
theorem earF_cases (P : Int → Int → Bool) (left : List Int) : (earF P left = (-1, -1) ∧ ∀ i, i ∈ left → ∀ k, k ∈ left → P i k = false) ∨ ((earF P left).1 ∈ left ∧ (earF P left).2 ∈ left ∧ P (earF P left).1 (earF P left).2 = true) := by
  unfold earF
  cases h : left.findSome? fun i => (left.find? (P i)).map fun k => (i, k) with
  | none =>
    refine .inl ⟨rfl, fun i hi k hk => ?_⟩
    have := List.findSome?_eq_none_iff.1 h i hi
    rw [Option.map_eq_none_iff, List.find?_eq_none] at this
    simpa using this k hk
  | some p =>
    obtain ⟨i, hi, hp⟩ := List.exists_of_findSome?_eq_some h
    rw [Option.map_eq_some_iff] at hp
    obtain ⟨k, hk, rfl⟩ := hp
    exact .inr ⟨hi, List.mem_of_find?_eq_some hk, List.find?_some hk⟩
theorem find_congr {p q : Int → Bool} : ∀ {l : List Int}, (∀ x, x ∈ l → p x = q x) → l.find? p = l.find? q
  | [], _ => rfl
  | x :: l, h => by
    rw [List.find?_cons, List.find?_cons, h x (by simp), find_congr fun y hy => h y (by simp [hy])]
theorem findSome_congr {β : Type} {f g : Int → Option β} : ∀ {l : List Int}, (∀ x, x ∈ l → f x = g x) → l.findSome? f = l.findSome? g
  | [], _ => rfl
  | x :: l, h => by
    rw [List.findSome?_cons, List.findSome?_cons, h x (by simp), findSome_congr fun y hy => h y (by simp [hy])]
theorem earF_congr {P Q : Int → Int → Bool} {left : List Int} (h : ∀ i, i ∈ left → ∀ k, k ∈ left → P i k = Q i k) : earF P left = earF Q left := by
  unfold earF
  rw [findSome_congr fun i hi => by rw [find_congr (h i hi)]]
def joinG (P : List Int → Int → Int → Bool) : Nat → List Int → List Int → List Int × List Int
  | 0, p, l => (p, l)
  | n + 1, p, l => if (earF (P l) l).1 < 0 then (p, l) else joinG P n (p.set (earF (P l) l).1.toNat (earF (P l) l).2) (l.filter fun x => x != (earF (P l) l).1)
theorem filter_lt (l : List Int) (a : Int) (h : a ∈ l) : (l.filter fun x => x != a).length < l.length := by
  apply Nat.lt_of_le_of_ne (List.length_filter_le _ _)
  intro he
  have := List.length_filter_eq_length_iff.1 he a h
  simp at this
theorem joinG_fuel (P : List Int → Int → Int → Bool) : ∀ (n m : Nat) (p l : List Int), (∀ x, x ∈ l → 0 ≤ x) → l.length ≤ n → l.length ≤ m → joinG P n p l = joinG P m p l
  | 0, 0, p, l, _, _, _ => rfl
  | 0, m + 1, p, l, h0, h1, h2 => by
    have : l = [] := List.eq_nil_of_length_eq_zero (by omega)
    subst this; rfl
  | n + 1, 0, p, l, h0, h1, h2 => by
    have : l = [] := List.eq_nil_of_length_eq_zero (by omega)
    subst this; rfl
  | n + 1, m + 1, p, l, h0, h1, h2 => by
    rw [joinG, joinG]
    split
    · rfl
    · rename_i hn
      rcases earF_cases (P l) l with ⟨h3, _⟩ | ⟨h3, _, _⟩
      · rw [h3] at hn; exact absurd (by decide) hn
      · have := filter_lt l _ h3
        exact joinG_fuel P n m _ _ (fun x hx => h0 x ((List.mem_filter.1 hx).1)) (by omega) (by omega)
def joinF (P : List Int → Int → Int → Bool) (p l : List Int) : List Int × List Int := joinG P l.length p l
theorem joinF_stop (P : List Int → Int → Int → Bool) (p l : List Int) (h : earF (P l) l = (-1, -1)) : joinF P p l = (p, l) := by
  unfold joinF
  cases hl : l.length with
  | zero => rfl
  | succ n => rw [joinG, h, if_pos (by decide)]
theorem joinF_step (P : List Int → Int → Int → Bool) (p l : List Int) (h0 : ∀ x, x ∈ l → 0 ≤ x) (h : earF (P l) l ≠ (-1, -1)) :
    joinF P p l = joinF P (p.set (earF (P l) l).1.toNat (earF (P l) l).2) (l.filter fun x => x != (earF (P l) l).1) := by
  rcases earF_cases (P l) l with ⟨h3, _⟩ | ⟨h3, _, _⟩
  · exact absurd h3 h
  · have h4 := h0 _ h3
    have h5 := filter_lt l _ h3
    unfold joinF
    obtain ⟨n, hn⟩ : ∃ n, l.length = n + 1 := ⟨l.length - 1, by omega⟩
    rw [hn, joinG, if_neg (by omega)]
    exact joinG_fuel P _ _ _ _ (fun x hx => h0 x ((List.mem_filter.1 hx).1)) (by omega) (Nat.le_refl _)
theorem joinG_congr {P Q : List Int → Int → Int → Bool} {I : List Int → Prop} (hI : ∀ l, I l → ∀ a, I (l.filter fun x => x != a)) (h : ∀ l, I l → ∀ i, i ∈ l → ∀ k, k ∈ l → P l i k = Q l i k) : ∀ (n : Nat) (p l : List Int), I l → joinG P n p l = joinG Q n p l
  | 0, p, l, _ => rfl
  | n + 1, p, l, hl => by
    rw [joinG, joinG, earF_congr (h l hl)]
    split
    · rfl
    · exact joinG_congr hI h n _ _ (hI l hl _)
theorem joinG_left {P : List Int → Int → Int → Bool} {I : List Int → Prop} (hI : ∀ l, I l → ∀ a, I (l.filter fun x => x != a)) : ∀ (n : Nat) (p l : List Int), I l → I (joinG P n p l).2
  | 0, p, l, hl => hl
  | n + 1, p, l, hl => by
    rw [joinG]
    split
    · exact hl
    · exact joinG_left hI n _ _ (hI l hl _)
theorem joinG_len {P : List Int → Int → Int → Bool} : ∀ (n : Nat) (p l : List Int), (joinG P n p l).1.length = p.length
  | 0, p, l => rfl
  | n + 1, p, l => by
    rw [joinG]
    split
    · rfl
    · rw [joinG_len n]; simp
/-- the numbers below -/
def upto (n : Nat) : List Int := (List.range n).map fun i : Nat => (i : Int)
theorem upto_succ (n : Nat) : upto n ++ [(n : Int)] = upto (n + 1) := by unfold upto; rw [List.range_succ]; simp
theorem upto_len (n : Nat) : (upto n).length = n := by unfold upto; simp
theorem upto_mem (n : Nat) (k : Int) : k ∈ upto n ↔ 0 ≤ k ∧ k < n := by
  unfold upto
  simp only [List.mem_map, List.mem_range]
  constructor
  · rintro ⟨a, h, rfl⟩; omega
  · intro h; exact ⟨k.toNat, by omega, by omega⟩
theorem upto_rises (n : Nat) : Rises (upto n) := by
  unfold upto Rises
  rw [List.pairwise_map]
  exact List.pairwise_lt_range.imp fun h => by omega
def nones (n : Nat) : List Int := List.replicate n (-1)
theorem nones_succ (n : Nat) : nones n ++ [(-1 : Int)] = nones (n + 1) := by unfold nones; rw [List.replicate_succ']
theorem nones_len (n : Nat) : (nones n).length = n := by unfold nones; simp
/-- Join, by sets: the parents, and what is left -/
def joinH (E : Edges) : List Int × List Int := joinF (earP (setsH E E.length)) (nones E.length) (upto E.length)
theorem filter_cut {l : List Int} (h : Rises l) (a : Int) : (l.filter fun x => x != a) = cutL l a := by
  refine rises_ext (h.sublist List.filter_sublist) (rises_cutL h a) fun x => ?_
  rw [mem_cutL h, List.mem_filter]; simp
theorem joinH_fits (E : Edges) : joinH E = joinF (fitsF E) (nones E.length) (upto E.length) := by
  unfold joinH joinF
  refine joinG_congr (I := fun l => ∀ k, k ∈ l → 0 ≤ k ∧ k < E.length) (fun l hl a k hk => hl k ((List.mem_filter.1 hk).1)) (fun l hl i hi k hk => earP_fits E l hl i k hi hk) _ _ _ fun k hk => (upto_mem _ _).1 hk
theorem joinH_left (E : Edges) : ∀ k, k ∈ (joinH E).2 → 0 ≤ k ∧ k < E.length := by
  unfold joinH joinF
  exact joinG_left (I := fun l => ∀ k, k ∈ l → 0 ≤ k ∧ k < E.length) (fun l hl a k hk => hl k ((List.mem_filter.1 hk).1)) _ _ _ fun k hk => (upto_mem _ _).1 hk
theorem joinH_par (E : Edges) : (joinH E).1.length = E.length := by unfold joinH joinF; rw [joinG_len, nones_len]
theorem joinH_llen (E : Edges) : (joinH E).2.length ≤ E.length := by
  unfold joinH joinF
  refine joinG_left (I := fun l => l.length ≤ E.length) (fun l hl a => Nat.le_trans (List.length_filter_le _ _) hl) _ _ _ ?_
  rw [upto_len]; exact Nat.le_refl _
theorem earP_self (W : List (List W64)) (left : List Int) (i : Int) : earP W left i i = false := by unfold earP; simp
theorem earF_few (W : List (List W64)) (l : List Int) (h : l.length ≤ 1) : earF (earP W l) l = (-1, -1) := by
  rcases earF_cases (earP W l) l with ⟨h1, _⟩ | ⟨h1, h2, h3⟩
  · exact h1
  · exfalso
    have e : (earF (earP W l) l).1 = (earF (earP W l) l).2 := by
      obtain ⟨i, hi, e1⟩ := mem_getD h1
      obtain ⟨j, hj, e2⟩ := mem_getD h2
      rw [← e1, ← e2, show i = j by omega]
    rw [← e, earP_self] at h3; cases h3
theorem leFL_Il (id v : Nat) (cs : List AV) : ∀ l : List Int, leFL id v cs (Il l) (Il l) = True
  | [] => by rw [show Il [] = [] from rfl, leFL_nil]
  | x :: l => by
    show leFL id v cs (I64 x :: Il l) (I64 x :: Il l) = True
    rw [leFL_cons, leF_lit, leFL_Il id v cs l, and_self]
/-- while ears are taken away -/
structure JoinI (E : Edges) (p l : List Int) : Prop where
  eq : joinF (earP (setsH E E.length)) p l = joinH E
  plen : p.length = E.length
  llen : l.length ≤ E.length
  rng : ∀ k, k ∈ l → 0 ≤ k ∧ k < E.length
theorem JoinI.start (E : Edges) : JoinI E (nones E.length) (upto E.length) := ⟨rfl, nones_len _, by rw [upto_len]; exact Nat.le_refl _, fun k hk => (upto_mem _ _).1 hk⟩
theorem JoinI.stop {E : Edges} {p l : List Int} (h : JoinI E p l) (hs : earF (earP (setsH E E.length) l) l = (-1, -1)) : joinH E = (p, l) := by
  rw [← h.eq, joinF_stop _ _ _ hs]
theorem JoinI.step {E : Edges} {p l : List Int} (h : JoinI E p l) (hs : earF (earP (setsH E E.length) l) l ≠ (-1, -1)) :
    JoinI E (p.set (earF (earP (setsH E E.length) l) l).1.toNat (earF (earP (setsH E E.length) l) l).2) (l.filter fun x => x != (earF (earP (setsH E E.length) l) l).1) :=
  ⟨by rw [← joinF_step _ _ _ (fun x hx => (h.rng x hx).1) hs]; exact h.eq, by simp [h.plen], Nat.le_trans (List.length_filter_le _ _) h.llen, fun k hk => h.rng k (List.mem_filter.1 hk).1⟩
end Go.Av
