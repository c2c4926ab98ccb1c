import Derived.Test.YtjinngfpbmkhaaaHypM
/-! Plain words about hypergraphs: what hangs together. -/
namespace Go.Av
set_option linter.unusedVariables false
set_option linter.unusedSimpArgs false
/-- two vertices hang together -/
inductive Hang (E : List (List Int)) : Int → Int → Prop where
  | refl (a : Int) : Hang E a a
  | step {a b c : Int} (e : List Int) (he : e ∈ E) (ha : a ∈ e) (hb : b ∈ e) (h : Hang E b c) : Hang E a c
theorem Hang.trans {E : List (List Int)} {a b c : Int} (h : Hang E a b) (k : Hang E b c) : Hang E a c := by
  induction h with
  | refl => exact k
  | step e he ha hb _ ih => exact .step e he ha hb (ih k)
theorem Hang.one {E : List (List Int)} {a b : Int} {e : List Int} (he : e ∈ E) (ha : a ∈ e) (hb : b ∈ e) : Hang E a b := .step e he ha hb (.refl b)
theorem Hang.symm {E : List (List Int)} {a b : Int} (h : Hang E a b) : Hang E b a := by
  induction h with
  | refl => exact .refl _
  | step e he ha hb _ ih => exact ih.trans (.one he hb ha)
/-- a set that no edge leaves -/
theorem Hang.closed {E : List (List Int)} {S : Int → Prop} (hS : ∀ e, e ∈ E → ∀ a, a ∈ e → ∀ b, b ∈ e → S a → S b) {a b : Int} (h : Hang E a b) : S a → S b := by
  induction h with
  | refl => exact id
  | step e he ha hb _ ih => exact fun hs => ih (hS e he _ ha _ hb hs)
structure IsParts (N : Nat) (E : List (List Int)) (p : List Int) : Prop where
  len : p.length = N
  hang : ∀ v, v < N → Hang E v (p.getD v 0)
  least : ∀ v, v < N → ∀ u, Hang E v u → p.getD v 0 ≤ u
theorem IsParts.unique {N : Nat} {E : List (List Int)} {p q : List Int} (h : IsParts N E p) (k : IsParts N E q) : p = q := by
  apply List.ext_getElem (by rw [h.len, k.len])
  intro i hi hj
  have hN : i < N := by rw [← h.len]; exact hi
  have e1 : p.getD i 0 = p[i] := by simp [List.getD_eq_getElem?_getD, hi]
  have e2 : q.getD i 0 = q[i] := by simp [List.getD_eq_getElem?_getD, hj]
  have a := h.least i hN _ (k.hang i hN)
  have b := k.least i hN _ (h.hang i hN)
  omega
/-! ### the document's way -/
def meetL (l e : List Int) : List Int := if pickL (ofL e) l true ≠ [] then orL l (ofL e) else l
def roundL (E : List (List Int)) (l : List Int) : List Int := E.foldl meetL l
def roundsL (E : List (List Int)) : Nat → List Int → List Int
  | 0, l => l
  | n + 1, l => roundsL E n (roundL E l)
theorem roundsL_out (E : List (List Int)) : ∀ (n : Nat) (l : List Int), roundsL E (n + 1) l = roundL E (roundsL E n l)
  | 0, l => rfl
  | n + 1, l => by rw [roundsL, roundsL_out E n]; rfl
theorem rises_of (e : List Int) : Rises (ofL e) := (mem_foldl (List.Pairwise.nil : Rises []) e).1
theorem mem_of (e : List Int) (x : Int) : x ∈ ofL e ↔ x ∈ e ∧ goodN x = true := by
  unfold ofL; rw [(mem_foldl (List.Pairwise.nil : Rises []) e).2]; simp
theorem mem_or {l : List Int} (h : Rises l) (e : List Int) (x : Int) : x ∈ orL l e ↔ x ∈ l ∨ (x ∈ e ∧ goodN x = true) := (mem_foldl h e).2 x
theorem rises_or {l : List Int} (h : Rises l) (e : List Int) : Rises (orL l e) := (mem_foldl h e).1
/-- the edges of a good hypergraph -/
def okE (N : Nat) (E : List (List Int)) : Prop := N ≤ 64 ∧ ∀ e, e ∈ E → ∀ x, x ∈ e → 0 ≤ x ∧ x < N
theorem okE_good {N : Nat} {E : List (List Int)} (h : okE N E) {e : List Int} (he : e ∈ E) {x : Int} (hx : x ∈ e) : goodN x = true := by
  have := h.2 e he x hx
  have := h.1
  rw [goodN_iff]; omega
theorem meet_iff {N : Nat} {E : List (List Int)} (h : okE N E) {e : List Int} (he : e ∈ E) {l : List Int} (hl : Rises l) : pickL (ofL e) l true ≠ [] ↔ ∃ x, x ∈ e ∧ x ∈ l := by
  unfold pickL
  rw [Ne, List.filter_eq_nil_iff]
  constructor
  · intro hh
    by_cases hc : ∃ x, x ∈ e ∧ x ∈ l
    · exact hc
    · exfalso; apply hh
      intro x hx hb
      rw [isN_mem hl] at hb
      simp at hb
      exact hc ⟨x, ((mem_of e x).1 hx).1, hb⟩
  · rintro ⟨x, h1, h2⟩ hh
    apply hh x ((mem_of e x).2 ⟨h1, okE_good h he h1⟩)
    rw [isN_mem hl]; simp [h2]
theorem mem_meet {N : Nat} {E : List (List Int)} (h : okE N E) {e : List Int} (he : e ∈ E) {l : List Int} (hl : Rises l) (y : Int) : y ∈ meetL l e ↔ y ∈ l ∨ (y ∈ e ∧ ∃ x, x ∈ e ∧ x ∈ l) := by
  unfold meetL
  split
  · rename_i h1
    have h1 := (meet_iff h he hl).1 h1
    rw [mem_or hl, mem_of]
    constructor
    · rintro (h2 | ⟨⟨h2, _⟩, _⟩)
      · exact .inl h2
      · exact .inr ⟨h2, h1⟩
    · rintro (h2 | ⟨h2, _⟩)
      · exact .inl h2
      · exact .inr ⟨⟨h2, okE_good h he h2⟩, okE_good h he h2⟩
  · rename_i h1
    have h1 := fun hh => h1 ((meet_iff h he hl).2 hh)
    constructor
    · exact .inl
    · rintro (h2 | ⟨_, h2⟩)
      · exact h2
      · exact absurd h2 h1
theorem rises_meet {l : List Int} (hl : Rises l) (e : List Int) : Rises (meetL l e) := by
  unfold meetL; split
  · exact rises_or hl _
  · exact hl
/-- what is kept on the way -/
structure Grown (N : Nat) (E : List (List Int)) (v : Int) (l : List Int) : Prop where
  rises : Rises l
  has : v ∈ l
  hang : ∀ x, x ∈ l → Hang E v x
  inn : ∀ x, x ∈ l → 0 ≤ x ∧ x < N
theorem Grown.meet {N : Nat} {E : List (List Int)} (h : okE N E) {e : List Int} (he : e ∈ E) {v : Int} {l : List Int} (g : Grown N E v l) : Grown N E v (meetL l e) := by
  refine ⟨rises_meet g.rises e, (mem_meet h he g.rises v).2 (.inl g.has), fun x hx => ?_, fun x hx => ?_⟩
  · rcases (mem_meet h he g.rises x).1 hx with h1 | ⟨h1, y, h2, h3⟩
    · exact g.hang x h1
    · exact (g.hang y h3).trans (.one he h2 h1)
  · rcases (mem_meet h he g.rises x).1 hx with h1 | ⟨h1, y, h2, h3⟩
    · exact g.inn x h1
    · exact h.2 e he x h1
theorem meet_sub {N : Nat} {E : List (List Int)} (h : okE N E) {e : List Int} (he : e ∈ E) {l : List Int} (hl : Rises l) : ∀ x, x ∈ l → x ∈ meetL l e := fun x hx => (mem_meet h he hl x).2 (.inl hx)
theorem round_facts {N : Nat} {E : List (List Int)} (h : okE N E) {v : Int} : ∀ (F : List (List Int)), (∀ e, e ∈ F → e ∈ E) → ∀ l, Grown N E v l → Grown N E v (F.foldl meetL l) ∧ (∀ x, x ∈ l → x ∈ F.foldl meetL l) ∧
    ∀ e, e ∈ F → ∀ a, a ∈ e → a ∈ l → ∀ b, b ∈ e → b ∈ F.foldl meetL l
  | [], _, l, g => ⟨g, fun _ hx => hx, fun e he => by cases he⟩
  | e :: F, hF, l, g => by
    have he := hF e (by simp)
    obtain ⟨h1, h2, h3⟩ := round_facts h F (fun e he => hF e (by simp [he])) _ (g.meet h he)
    refine ⟨h1, fun x hx => h2 x (meet_sub h he g.rises x hx), fun e' he' a ha hal b hb => ?_⟩
    rcases List.mem_cons.1 he' with rfl | he'
    · exact h2 b ((mem_meet h he g.rises b).2 (.inr ⟨hb, a, ha, hal⟩))
    · exact h3 e' he' a ha (meet_sub h he g.rises a hal) b hb
theorem Rises.nodup {l : List Int} (h : Rises l) : l.Nodup := h.imp fun hab => by omega
theorem sub_len : ∀ {l m : List Int}, l.Nodup → (∀ x, x ∈ l → x ∈ m) → l.length ≤ m.length
  | [], m, _, _ => by simp
  | x :: l, m, h, hs => by
    have hx := hs x (by simp)
    have h' := List.nodup_cons.1 h
    have := sub_len (l := l) (m := m.erase x) h'.2 fun y hy => by
      have : y ≠ x := fun e => h'.1 (e ▸ hy)
      exact (List.mem_erase_of_ne this).2 (hs y (by simp [hy]))
    rw [List.length_erase_of_mem hx] at this
    have : 0 < m.length := List.length_pos_of_mem hx
    simp; omega
theorem rises_eq {l m : List Int} (hl : Rises l) (hm : Rises m) (hs : ∀ x, x ∈ l → x ∈ m) (hle : m.length ≤ l.length) : l = m := by
  refine rises_ext hl hm fun x => ⟨hs x, fun hx => ?_⟩
  apply Classical.byContradiction
  intro hn
  have := sub_len (l := x :: l) (m := m) (List.nodup_cons.2 ⟨hn, hl.nodup⟩) fun y hy => by
    rcases List.mem_cons.1 hy with rfl | hy
    · exact hx
    · exact hs y hy
  simp at this; omega
theorem inn_len {N : Nat} {l : List Int} (h : Rises l) (hi : ∀ x, x ∈ l → 0 ≤ x ∧ x < N) : l.length ≤ N := by
  have := sub_len (m := upto N) h.nodup fun x hx => (upto_mem N x).2 (hi x hx)
  rwa [upto_len] at this
theorem rounds_grown {N : Nat} {E : List (List Int)} (h : okE N E) {v : Int} : ∀ (n : Nat) (l : List Int), Grown N E v l → Grown N E v (roundsL E n l) ∧ (roundL E (roundsL E n l) = roundsL E n l ∨ n + l.length ≤ (roundsL E n l).length)
  | 0, l, g => ⟨g, .inr (by simp [roundsL])⟩
  | n + 1, l, g => by
    obtain ⟨h1, h2⟩ := rounds_grown h n l g
    rw [roundsL_out]
    obtain ⟨k1, k2, k3⟩ := round_facts h E (fun _ he => he) _ h1
    refine ⟨k1, ?_⟩
    rcases h2 with h2 | h2
    · rw [h2]; exact .inl h2
    · by_cases hlen : (roundL E (roundsL E n l)).length ≤ (roundsL E n l).length
      · have e := rises_eq h1.rises k1.rises k2 hlen
        exact .inl (by rw [show roundL E (roundsL E n l) = roundsL E n l from e.symm]; exact e.symm)
      · right; omega
def partsL (N : Nat) (E : List (List Int)) : List Int := (List.range N).map fun v : Nat => (roundsL E (N + 1) [(v : Int)]).getD 0 0
theorem partsL_ok {N : Nat} {E : List (List Int)} (h : okE N E) : IsParts N E (partsL N E) := by
  have key : ∀ v, v < N → (partsL N E).getD v 0 = (roundsL E (N + 1) [(v : Int)]).getD 0 0 := by
    intro v hv
    unfold partsL
    simp [List.getD_eq_getElem?_getD, hv]
  have all : ∀ v, v < N → Hang E v ((partsL N E).getD v 0) ∧ ∀ u, Hang E v u → (partsL N E).getD v 0 ≤ u := by
    intro v hv
    rw [key v hv]
    have g0 : Grown N E (v : Int) [(v : Int)] := ⟨by unfold Rises; simp, by simp, fun x hx => by simp at hx; subst hx; exact .refl _, fun x hx => by simp at hx; omega⟩
    obtain ⟨g, hf⟩ := rounds_grown h (N + 1) _ g0
    have hlen := inn_len g.rises g.inn
    have hfix : roundL E (roundsL E (N + 1) [(v : Int)]) = roundsL E (N + 1) [(v : Int)] := by
      rcases hf with hf | hf
      · exact hf
      · simp at hf; omega
    have hne : 0 < (roundsL E (N + 1) [(v : Int)]).length := List.length_pos_of_mem g.has
    refine ⟨g.hang _ (getD_mem hne), fun u hu => ?_⟩
    have hin : u ∈ roundsL E (N + 1) [(v : Int)] := by
      refine hu.closed (S := fun x => x ∈ roundsL E (N + 1) [(v : Int)]) (fun e he a ha b hb hs => ?_) g.has
      obtain ⟨_, _, k3⟩ := round_facts h E (fun _ he => he) _ g
      have := k3 e he a ha hs b hb
      rwa [show E.foldl meetL (roundsL E (N + 1) [(v : Int)]) = roundsL E (N + 1) [(v : Int)] from hfix] at this
    obtain ⟨j, hj, rfl⟩ := mem_getD hin
    by_cases h0 : j = 0
    · rw [h0]; exact Int.le_refl _
    · exact Int.le_of_lt (rises_lt g.rises (by omega) hj)
  exact ⟨by unfold partsL; simp, fun v hv => (all v hv).1, fun v hv => (all v hv).2⟩
/-! ### the program's way -/
def leastF (N : Nat) (o e : List Int) : Int := e.foldl (fun m v => min m (o.getD v.toNat 0)) (N : Int)
def setF (m : Int) (s : Bool × List Int) (v : Int) : Bool × List Int := (s.1 || decide (s.2.getD v.toNat 0 ≠ m), s.2.set v.toNat m)
def edgeF (N : Nat) (s : Bool × List Int) (e : List Int) : Bool × List Int := e.foldl (setF (leastF N s.2 e)) s
def passF (N : Nat) (E : List (List Int)) (o : List Int) : Bool × List Int := E.foldl (edgeF N) (false, o)
theorem leastF_le (N : Nat) (o : List Int) : ∀ (e : List Int) (m : Int), e.foldl (fun m v => min m (o.getD v.toNat 0)) m ≤ m ∧ ∀ v, v ∈ e → e.foldl (fun m v => min m (o.getD v.toNat 0)) m ≤ o.getD v.toNat 0
  | [], m => ⟨Int.le_refl _, by simp⟩
  | x :: e, m => by
    obtain ⟨h1, h2⟩ := leastF_le N o e (min m (o.getD x.toNat 0))
    refine ⟨by rw [List.foldl_cons]; omega, fun v hv => ?_⟩
    rw [List.foldl_cons]
    rcases List.mem_cons.1 hv with rfl | hv
    · omega
    · exact h2 v hv
theorem leastF_one (N : Nat) (o : List Int) : ∀ (e : List Int) (m : Int), e.foldl (fun m v => min m (o.getD v.toNat 0)) m = m ∨ ∃ v, v ∈ e ∧ e.foldl (fun m v => min m (o.getD v.toNat 0)) m = o.getD v.toNat 0
  | [], m => .inl rfl
  | x :: e, m => by
    rw [List.foldl_cons]
    rcases leastF_one N o e (min m (o.getD x.toNat 0)) with h1 | ⟨v, h1, h2⟩
    · rw [h1]
      by_cases h : m ≤ o.getD x.toNat 0
      · exact .inl (by omega)
      · exact .inr ⟨x, by simp, by omega⟩
    · exact .inr ⟨v, by simp [h1], h2⟩
structure Low (N : Nat) (E : List (List Int)) (o : List Int) : Prop where
  len : o.length = N
  low : ∀ v, v < N → 0 ≤ o.getD v 0 ∧ o.getD v 0 ≤ v
  hang : ∀ v, v < N → Hang E v (o.getD v 0)
def sumF : List Int → Nat
  | [] => 0
  | x :: l => x.toNat + sumF l
theorem sumF_set : ∀ (o : List Int) (i : Nat) (m : Int), i < o.length → sumF (o.set i m) + (o.getD i 0).toNat = sumF o + m.toNat
  | [], i, m, h => by simp at h
  | x :: l, 0, m, h => by simp [sumF]; omega
  | x :: l, i + 1, m, h => by
    have := sumF_set l i m (by simpa using h)
    simp only [List.set_cons_succ, sumF, List.getD_cons_succ]; omega
theorem leastF_at {N : Nat} {E : List (List Int)} {o : List Int} (h : okE N E) (hl : Low N E o) {e : List Int} (he : e ∈ E) {v : Int} (hv : v ∈ e) : 0 ≤ leastF N o e ∧ leastF N o e ≤ o.getD v.toNat 0 ∧ Hang E v (leastF N o e) := by
  have hv2 := h.2 e he v hv
  have hlow := hl.low v.toNat (by omega)
  have h1 := (leastF_le N o e N).2 v hv
  rcases leastF_one N o e N with h2 | ⟨u, hu, h2⟩
  · have : leastF N o e = N := h2
    have : leastF N o e ≤ o.getD v.toNat 0 := h1
    omega
  · have hu2 := h.2 e he u hu
    have hul := hl.low u.toNat (by omega)
    have e3 : leastF N o e = o.getD u.toNat 0 := h2
    refine ⟨by omega, h1, ?_⟩
    rw [e3]
    have := hl.hang u.toNat (by omega)
    rw [show ((u.toNat : Nat) : Int) = u by omega] at this
    exact (Hang.one he hv hu).trans this
theorem set_run {N : Nat} {E : List (List Int)} (h : okE N E) (m : Int) (hm0 : 0 ≤ m) : ∀ (f : List Int) (s : Bool × List Int), Low N E s.2 → (∀ v, v ∈ f → 0 ≤ v ∧ v < N ∧ m ≤ s.2.getD v.toNat 0 ∧ Hang E v m) →
    Low N E (f.foldl (setF m) s).2 ∧ ((f.foldl (setF m) s = s ∧ ∀ v, v ∈ f → s.2.getD v.toNat 0 = m) ∨ ((f.foldl (setF m) s).1 = true ∧ sumF (f.foldl (setF m) s).2 < sumF s.2))
  | [], s, hl, _ => ⟨hl, .inl ⟨rfl, by simp⟩⟩
  | v :: f, s, hl, hf => by
    obtain ⟨g1, g2, g3, g4⟩ := hf v (by simp)
    have hlt : v.toNat < s.2.length := by rw [hl.len]; omega
    have low0 := hl.low v.toNat (by omega)
    have hset : ∀ j, (s.2.set v.toNat m).getD j 0 = if j = v.toNat then m else s.2.getD j 0 := fun j => getD_set _ _ _ _ _ hlt
    have hl' : Low N E (setF m s v).2 := by
      refine ⟨by unfold setF; simp [hl.len], fun j hj => ?_, fun j hj => ?_⟩
      · show 0 ≤ (s.2.set v.toNat m).getD j 0 ∧ (s.2.set v.toNat m).getD j 0 ≤ j
        rw [hset]
        split
        · omega
        · exact hl.low j hj
      · show Hang E j ((s.2.set v.toNat m).getD j 0)
        rw [hset]
        split
        · rename_i e; rw [e, show ((v.toNat : Nat) : Int) = v by omega]; exact g4
        · exact hl.hang j hj
    obtain ⟨k1, k2⟩ := set_run h m hm0 f (setF m s v) hl' fun u hu => by
      obtain ⟨q1, q2, q3, q4⟩ := hf u (by simp [hu])
      refine ⟨q1, q2, ?_, q4⟩
      show m ≤ (s.2.set v.toNat m).getD u.toNat 0
      rw [hset]
      split
      · omega
      · exact q3
    refine ⟨k1, ?_⟩
    rw [List.foldl_cons]
    have hsum := sumF_set s.2 v.toNat m hlt
    by_cases he : s.2.getD v.toNat 0 = m
    · have same : setF m s v = s := by
        unfold setF
        rw [he]
        have : s.2.set v.toNat m = s.2 := by
          apply List.ext_getElem (by simp)
          intro i h1 h2
          rw [List.getElem_set]
          split
          · rename_i e; subst e; rw [← he]; simp [List.getD_eq_getElem?_getD, hlt]
          · rfl
        rw [this]; simp
      rw [same] at k2 ⊢
      rcases k2 with ⟨k2, k3⟩ | k2
      · refine .inl ⟨k2, fun u hu => ?_⟩
        rcases List.mem_cons.1 hu with rfl | hu
        · exact he
        · exact k3 u hu
      · exact .inr k2
    · have hs1 : (setF m s v).1 = true := by
        show (s.1 || decide (s.2.getD v.toNat 0 ≠ m)) = true
        rw [decide_eq_true he, Bool.or_true]
      have hs2 : sumF (setF m s v).2 < sumF s.2 := by
        show sumF (s.2.set v.toNat m) < _
        omega
      rcases k2 with ⟨k2, k3⟩ | ⟨k2, k3⟩
      · rw [k2]; exact .inr ⟨hs1, hs2⟩
      · exact .inr ⟨k2, by omega⟩
theorem edge_run {N : Nat} {E : List (List Int)} (h : okE N E) {e : List Int} (he : e ∈ E) (s : Bool × List Int) (hl : Low N E s.2) :
    Low N E (edgeF N s e).2 ∧ ((edgeF N s e = s ∧ ∀ a, a ∈ e → ∀ b, b ∈ e → s.2.getD a.toNat 0 = s.2.getD b.toNat 0) ∨ ((edgeF N s e).1 = true ∧ sumF (edgeF N s e).2 < sumF s.2)) := by
  unfold edgeF
  cases e with
  | nil => exact ⟨hl, .inl ⟨rfl, by simp⟩⟩
  | cons x e =>
    have hm0 := (leastF_at h hl he (v := x) (by simp)).1
    obtain ⟨k1, k2⟩ := set_run h (leastF N s.2 (x :: e)) hm0 (x :: e) s hl fun v hv => by
      have h1 := leastF_at h hl he hv
      have h2 := h.2 _ he v hv
      exact ⟨h2.1, h2.2, h1.2.1, h1.2.2⟩
    refine ⟨k1, ?_⟩
    rcases k2 with ⟨k2, k3⟩ | k2
    · exact .inl ⟨k2, fun a ha b hb => by rw [k3 a ha, k3 b hb]⟩
    · exact .inr k2
theorem pass_run {N : Nat} {E : List (List Int)} (h : okE N E) : ∀ (F : List (List Int)), (∀ e, e ∈ F → e ∈ E) → ∀ (s : Bool × List Int), Low N E s.2 →
    Low N E (F.foldl (edgeF N) s).2 ∧ ((F.foldl (edgeF N) s = s ∧ ∀ e, e ∈ F → ∀ a, a ∈ e → ∀ b, b ∈ e → s.2.getD a.toNat 0 = s.2.getD b.toNat 0) ∨ ((F.foldl (edgeF N) s).1 = true ∧ sumF (F.foldl (edgeF N) s).2 < sumF s.2))
  | [], _, s, hl => ⟨hl, .inl ⟨rfl, by simp⟩⟩
  | e :: F, hF, s, hl => by
    have he := hF e (by simp)
    obtain ⟨h1, h2⟩ := edge_run h he s hl
    obtain ⟨k1, k2⟩ := pass_run h F (fun e he => hF e (by simp [he])) (edgeF N s e) h1
    refine ⟨k1, ?_⟩
    rw [List.foldl_cons]
    rcases h2 with ⟨h2, h3⟩ | ⟨h2, h3⟩
    · rw [h2] at k2 ⊢
      rcases k2 with ⟨k2, k3⟩ | k2
      · refine .inl ⟨k2, fun e' he' => ?_⟩
        rcases List.mem_cons.1 he' with rfl | he'
        · exact h3
        · exact k3 e' he'
      · exact .inr k2
    · rcases k2 with ⟨k2, k3⟩ | ⟨k2, k3⟩
      · rw [k2]; exact .inr ⟨h2, h3⟩
      · exact .inr ⟨k2, by omega⟩
theorem low_upto (N : Nat) (E : List (List Int)) : Low N E (upto N) := by
  have e : ∀ v, v < N → (upto N).getD v 0 = (v : Int) := fun v hv => by unfold upto; simp [List.getD_eq_getElem?_getD, hv]
  exact ⟨upto_len N, fun v hv => by rw [e v hv]; omega, fun v hv => by rw [e v hv]; exact .refl _⟩
/-- nothing grew: done -/
theorem pass_done {N : Nat} {E : List (List Int)} (h : okE N E) {o : List Int} (hl : Low N E o) (hg : (passF N E o).1 = false) : (passF N E o).2 = o ∧ o = partsL N E := by
  obtain ⟨_, k⟩ := pass_run h E (fun _ he => he) (false, o) hl
  rcases k with ⟨k1, k2⟩ | ⟨k1, _⟩
  · have e1 : (passF N E o).2 = o := by unfold passF; rw [k1]
    refine ⟨e1, IsParts.unique ⟨hl.len, hl.hang, fun v hv u hu => ?_⟩ (partsL_ok h)⟩
    have hin : ∀ {a b : Int}, Hang E a b → 0 ≤ a → a < N → (0 ≤ b ∧ b < N) ∧ o.getD b.toNat 0 = o.getD a.toNat 0 := by
      intro a b hab h0 h1
      refine hab.closed (S := fun x => (0 ≤ x ∧ x < N) ∧ o.getD x.toNat 0 = o.getD a.toNat 0) (fun e he x hx y hy hs => ?_) ⟨⟨h0, h1⟩, rfl⟩
      exact ⟨h.2 e he y hy, by rw [← hs.2]; exact k2 e he y hy x hx⟩
    obtain ⟨k3, k4⟩ := hin hu (by omega) (by omega)
    have k5 := hl.low u.toNat (by omega)
    rw [k4, Int.toNat_natCast] at k5
    omega
  · unfold passF at hg; rw [hg] at k1; cases k1
theorem pass_less {N : Nat} {E : List (List Int)} (h : okE N E) {o : List Int} (hl : Low N E o) (hg : (passF N E o).1 = true) : Low N E (passF N E o).2 ∧ sumF (passF N E o).2 < sumF o := by
  obtain ⟨k0, k⟩ := pass_run h E (fun _ he => he) (false, o) hl
  refine ⟨k0, ?_⟩
  rcases k with ⟨k1, k2⟩ | ⟨_, k1⟩
  · unfold passF at hg; rw [k1] at hg; cases hg
  · exact k1
end Go.Av
