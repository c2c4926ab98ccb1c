import Derived.Test.YtcnhpclfflcdfaaDoorQValReads
import Derived.Lib.ItoaNum
/- What is printed of a value is read again: the words. -/
namespace Go.Proofs.YtcnhpclfflcdfaaDoorQ.Val
open Go Go.Av Go.Lib
set_option linter.unusedSimpArgs false
set_option linter.unusedVariables false
def itoS (n : Int) : ByteArray := ⟨(itoa n).toArray⟩
theorem numL_run (s : ByteArray) : ∀ (u f p : Nat), u ≤ 1000000000000 → (∀ j, j < (decDigits u).length → byt s (p + j) = (decDigits u).getD j 0) → numL s (f + (decDigits u).length) p 0 = numL s f (p + (decDigits u).length) u := by
  intro u
  induction u using Nat.strongRecOn with
  | _ u ih =>
    intro f p hu hb
    have dig : ∀ k : Nat, k < 10 → ∀ i, byt s i = UInt8.ofNat (48 + k) → byteAt s i = 48 + k := fun k hk i h => by
      rw [byteAt_byt, h]
      have : (UInt8.ofNat (48 + k)).toNat = 48 + k := by simp [UInt8.toNat_ofNat']; omega
      rw [this]; omega
    by_cases h : u < 10
    · have hd : decDigits u = [UInt8.ofNat (48 + u)] := decDigits_one h
      rw [hd] at hb ⊢
      have h0 := dig u h p (by simpa using hb 0 (by simp))
      rw [show f + [UInt8.ofNat (48 + u)].length = f + 1 from rfl, numL_next (by rw [h0]; unfold digB; simp; omega) (by rw [h0]; omega), h0]
      show numL s f (p + 1) (0 * 10 + (48 + (u : Int) - 48)) = numL s f (p + 1) u
      congr 1; omega
    · have hd : decDigits u = decDigits (u / 10) ++ [UInt8.ofNat (48 + u % 10)] := by rw [decDigits, dif_neg h]
      rw [hd] at hb ⊢
      have hl : (decDigits (u / 10) ++ [UInt8.ofNat (48 + u % 10)]).length = (decDigits (u / 10)).length + 1 := by simp
      rw [hl] at hb ⊢
      have h1 := ih (u / 10) (by omega) (f + 1) p (by omega) fun j hj => by
        rw [hb j (by omega)]
        simp [List.getD_eq_getElem?_getD, List.getElem?_append_left hj]
      have h2 := dig (u % 10) (by omega) (p + (decDigits (u / 10)).length) (by
        rw [hb _ (by omega)]
        simp [List.getD_eq_getElem?_getD])
      rw [show f + ((decDigits (u / 10)).length + 1) = f + 1 + (decDigits (u / 10)).length by omega, h1,
        numL_next (by rw [h2]; unfold digB; simp; omega) (by rw [h2]; omega), h2]
      rw [show p + (decDigits (u / 10)).length + 1 = p + ((decDigits (u / 10)).length + 1) by omega]
      congr 1; omega
theorem dec_pos (u : Nat) : 0 < (decDigits u).length := by
  rw [decDigits]; split <;> simp
theorem dec_dig (u : Nat) : ∀ j, j < (decDigits u).length → ∃ k : Nat, k < 10 ∧ (decDigits u).getD j 0 = UInt8.ofNat (48 + k) := by
  induction u using Nat.strongRecOn with
  | _ u ih =>
    intro j hj
    by_cases h : u < 10
    · rw [decDigits_one h] at hj ⊢
      have : j = 0 := by simpa using hj
      subst this
      exact ⟨u, h, rfl⟩
    · rw [decDigits, dif_neg h] at hj ⊢
      by_cases hj2 : j < (decDigits (u / 10)).length
      · obtain ⟨k, hk, e⟩ := ih (u / 10) (by omega) j hj2
        refine ⟨k, hk, ?_⟩
        rw [← e]
        simp [List.getD_eq_getElem?_getD, List.getElem?_append_left hj2]
      · have : j = (decDigits (u / 10)).length := by simp at hj; omega
        subst this
        exact ⟨u % 10, by omega, by simp [List.getD_eq_getElem?_getD]⟩
theorem byt_app (l m : List UInt8) (i : Nat) (h : i < l.length) : byt ⟨(l ++ m).toArray⟩ i = l.getD i 0 := by
  unfold byt
  simp [List.getD_eq_getElem?_getD, List.getElem?_append_left h]
theorem byt_app2 (l m : List UInt8) (i : Nat) : byt ⟨(l ++ m).toArray⟩ (l.length + i) = m.getD i 0 := by
  unfold byt
  simp [List.getD_eq_getElem?_getD, List.getElem?_append_right]
theorem digB_of {s : ByteArray} {i k : Nat} (hk : k < 10) (h : byt s i = UInt8.ofNat (48 + k)) : digB (byteAt s i) = true := by
  rw [byteAt_byt, h]
  have : (UInt8.ofNat (48 + k)).toNat = 48 + k := by simp [UInt8.toNat_ofNat']; omega
  rw [this]; unfold digB; simp; omega
/-- a number's digits, then what is none: read -/
theorem read_num (n : Int) (h1 : -1000000000000 ≤ n) (h2 : n ≤ 1000000000000) (m : List UInt8) (hm : m = [] ∨ digB ((m.getD 0 0).toNat : Int) = false) :
    readR ⟨(itoa n ++ m).toArray⟩ = rdA 1 n ⟨#[]⟩ (itoa n).length 0 := by
  have hstop : ∀ (s : ByteArray) (l : List UInt8), s = ⟨(l ++ m).toArray⟩ → ∀ (f : Nat) (u : Int), f = m.length → numL s f l.length u = some (u, l.length) := by
    intro s l hs f u hf
    rcases hm with rfl | hm
    · subst hf; rfl
    · refine numL_stop ?_
      rw [byteAt_byt, hs]
      have := byt_app2 l m 0
      rw [Nat.add_zero] at this
      rw [this]; exact hm
  by_cases hn : n < 0
  · obtain ⟨u, rfl⟩ : ∃ u : Nat, n = -(u : Int) := ⟨n.natAbs, by omega⟩
    have hi : itoa (-(u : Int)) = 45 :: decDigits u := by unfold itoa; rw [if_pos hn]; simp
    rw [hi]
    have hd := dec_pos u
    generalize hs : (⟨((45 :: decDigits u) ++ m).toArray⟩ : ByteArray) = s
    have hsz : s.size = 1 + (decDigits u).length + m.length := by rw [← hs]; show ((45 :: decDigits u) ++ m).toArray.size = _; simp; omega
    have hb0 : byteAt s 0 = 45 := by rw [byteAt_byt, ← hs, byt_app _ _ _ (by simp)]; rfl
    have hbj : ∀ j, j < (decDigits u).length → byt s (1 + j) = (decDigits u).getD j 0 := fun j hj => by
      rw [← hs, byt_app _ _ _ (by simp; omega), Nat.add_comm 1 j]; rfl
    have hI : numI s = 1 := by unfold numI; rw [if_pos hb0]
    obtain ⟨k, hk, hk2⟩ := dec_dig u 0 hd
    have hb1 : digB (byteAt s 1) = true := digB_of hk (by rw [← hk2]; exact hbj 0 hd)
    have hrun := numL_run s u m.length 1 (by omega) hbj
    have hst := hstop s (45 :: decDigits u) hs.symm m.length u rfl
    rw [show (45 :: decDigits u).length = 1 + (decDigits u).length by simp; omega] at hst
    unfold readR
    rw [if_neg (by omega), if_neg (by rw [hb0]; decide)]
    unfold numR
    rw [hI, if_neg (by omega), if_neg (by rw [hb1]; decide), show s.size - 1 = m.length + (decDigits u).length by omega, hrun, hst]
    unfold numE sgnV
    simp only [hb0, if_true]
    rw [show (45 :: decDigits u).length = 1 + (decDigits u).length by simp; omega]
  · obtain ⟨u, rfl⟩ : ∃ u : Nat, n = (u : Int) := ⟨n.toNat, by omega⟩
    have hi : itoa (u : Int) = decDigits u := by unfold itoa; rw [if_neg hn]; simp
    rw [hi]
    have hd := dec_pos u
    generalize hs : (⟨(decDigits u ++ m).toArray⟩ : ByteArray) = s
    have hsz : s.size = (decDigits u).length + m.length := by rw [← hs]; show (decDigits u ++ m).toArray.size = _; simp
    have hbj : ∀ j, j < (decDigits u).length → byt s (0 + j) = (decDigits u).getD j 0 := fun j hj => by
      rw [← hs, Nat.zero_add, byt_app _ _ _ hj]
    obtain ⟨k, hk, hk2⟩ := dec_dig u 0 hd
    have hb1 : digB (byteAt s 0) = true := digB_of hk (by rw [← hk2]; exact hbj 0 hd)
    have hr := digB_true hb1
    have hI : numI s = 0 := by unfold numI; rw [if_neg (by omega)]
    have hrun := numL_run s u m.length 0 (by omega) hbj
    have hst := hstop s (decDigits u) hs.symm m.length u rfl
    unfold readR
    rw [if_neg (by omega), if_neg (by omega)]
    unfold numR
    rw [hI, if_neg (by omega), if_neg (by rw [hb1]; decide), show s.size - 0 = m.length + (decDigits u).length by omega, hrun, Nat.zero_add, hst]
    unfold numE sgnV
    simp only [if_neg (show ¬ byteAt s 0 = 45 by omega)]
/-! ### texts -/
def escL : List UInt8 → List UInt8
  | [] => []
  | x :: l => if x = 39 ∨ x = 92 then 92 :: x :: escL l else x :: escL l
def quoS (t : ByteArray) : ByteArray := ⟨(39 :: (escL t.data.toList ++ [39])).toArray⟩
theorem byt_drop {s : ByteArray} {i : Nat} {x : UInt8} {l : List UInt8} (h : s.data.toList.drop i = x :: l) : byt s i = x ∧ i < s.size ∧ s.data.toList.drop (i + 1) = l := by
  have hlt : i < s.data.toList.length := by
    apply Nat.lt_of_not_le
    intro hc
    rw [List.drop_of_length_le hc] at h; cases h
  rw [List.drop_eq_getElem_cons hlt] at h
  simp only [List.cons.injEq] at h
  refine ⟨?_, hlt, h.2⟩
  unfold byt
  rw [List.getD_eq_getElem?_getD, List.getElem?_eq_getElem hlt]; exact h.1
theorem quo_run (s : ByteArray) (m : List UInt8) : ∀ (l : List UInt8) (f i : Nat) (o : ByteArray), s.data.toList.drop i = escL l ++ 39 :: m → (escL l).length < f → o.size + l.length ≤ 100 → (∀ x, x ∈ l → plB ((x.toNat : Nat) : Int) = true) →
    quoL s f i o = rdA 2 0 (o ++ ⟨l.toArray⟩) (i + (escL l).length + 1) 0
  | [], 0, i, o, h, hf, hl, hp => by simp at hf
  | [], f + 1, i, o, h, hf, hl, hp => by
    obtain ⟨h1, h2, -⟩ := byt_drop (l := m) h
    have hb : byteAt s i = 39 := by rw [byteAt_byt, h1]; rfl
    rw [quoL, if_pos h2, if_pos hb]
    have : o ++ (⟨([] : List UInt8).toArray⟩ : ByteArray) = o := by apply ByteArray.ext; simp [ByteArray.data_append]
    rw [this]; simp [escL]
  | x :: l, 0, i, o, h, hf, hl, hp => by simp at hf
  | x :: l, f + 1, i, o, h, hf, hl, hp => by
    have hpx := hp x (by simp)
    have happ : (o ++ ⟨#[x]⟩) ++ (⟨l.toArray⟩ : ByteArray) = o ++ ⟨(x :: l).toArray⟩ := by
      apply ByteArray.ext; simp [ByteArray.data_append]
    have hsz : (o ++ ⟨#[x]⟩ : ByteArray).size = o.size + 1 := by rw [ByteArray.size_append]; rfl
    have hlen : (x :: l).length = l.length + 1 := rfl
    by_cases hx : x = 39 ∨ x = 92
    · have he : escL (x :: l) = 92 :: x :: escL l := by rw [escL, if_pos hx]
      rw [he] at h hf ⊢
      obtain ⟨h1, h2, h3⟩ := byt_drop (l := x :: escL l ++ 39 :: m) h
      obtain ⟨h4, h5, h6⟩ := byt_drop (l := escL l ++ 39 :: m) h3
      have hb : byteAt s i = 92 := by rw [byteAt_byt, h1]; rfl
      have hb2 : byteAt s (i + 1) = 39 ∨ byteAt s (i + 1) = 92 := by
        rw [byteAt_byt, h4]
        rcases hx with rfl | rfl
        · exact .inl rfl
        · exact .inr rfl
      simp only [List.length_cons] at hf
      rw [quoL, if_pos h2, if_neg (by rw [hb]; decide), if_pos hb, if_neg (by omega), if_neg (by rcases hb2 with h | h <;> simp [h]), if_neg (by omega), h4, show i + 2 = i + 1 + 1 from rfl,
        quo_run s m l f (i + 1 + 1) _ h6 (by omega) (by omega) (fun y hy => hp y (by simp [hy])), happ]
      simp only [List.length_cons]
      congr 1; simp; omega
    · have he : escL (x :: l) = x :: escL l := by rw [escL, if_neg hx]
      rw [he] at h hf ⊢
      obtain ⟨h1, h2, h3⟩ := byt_drop (l := escL l ++ 39 :: m) h
      have hne : byteAt s i ≠ 39 ∧ byteAt s i ≠ 92 := by
        rw [byteAt_byt, h1]
        constructor
        · intro e; apply hx; left; rw [← UInt8.toNat_inj]; show x.toNat = 39; omega
        · intro e; apply hx; right; rw [← UInt8.toNat_inj]; show x.toNat = 92; omega
      simp only [List.length_cons] at hf
      have hpl : plB (byteAt s i) = true := by rw [byteAt_byt, h1]; exact hpx
      rw [quoL, if_pos h2, if_neg hne.1, if_neg hne.2, if_neg (by rw [hpl]; decide), if_neg (by omega), h1,
        quo_run s m l f (i + 1) _ h3 (by omega) (by omega) (fun y hy => hp y (by simp [hy])), happ]
      simp only [List.length_cons]
      congr 1; simp; omega
end Go.Proofs.YtcnhpclfflcdfaaDoorQ.Val
