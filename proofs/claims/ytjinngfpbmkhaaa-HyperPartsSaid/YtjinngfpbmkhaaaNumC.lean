import Derived.Test.YtjinngfpbmkhaaaNumB
namespace Go.Av
set_option linter.unusedVariables false
def HB : List Nat → Nat
  | [] => 0
  | a :: l => a + 256 * HB l
def digs : Nat → Nat → List Nat
  | 0, _ => []
  | k + 1, u => u % 256 :: digs k (u / 256)
def maskB (m : Nat) : Nat → Nat
  | 0 => 0
  | k + 1 => m + 256 * maskB m k
theorem digs_len : ∀ k u, (digs k u).length = k
  | 0, _ => rfl
  | k + 1, u => by simp [digs, digs_len k]
theorem digs_lt : ∀ k u, ∀ a ∈ digs k u, a < 256
  | 0, _, _, h => by simp [digs] at h
  | k + 1, u, a, h => by
    simp only [digs, List.mem_cons] at h
    rcases h with rfl | h
    · omega
    · exact digs_lt k _ a h
theorem HB_digs : ∀ k u, u < 256 ^ k → HB (digs k u) = u
  | 0, u, h => by simp at h; subst h; rfl
  | k + 1, u, h => by
    rw [digs, HB, HB_digs k (u / 256) (by rw [Nat.pow_succ] at h; omega)]; omega
theorem pc_digs : ∀ k u, pcK (8 * k) u = ((digs k u).map (pcK 8)).sum
  | 0, u => rfl
  | k + 1, u => by
    rw [show 8 * (k + 1) = 8 + 8 * k by omega, pcK_add, show 2 ^ 8 = 256 from rfl, pc_digs k (u / 256), digs, List.map_cons, List.sum_cons]
    have := pcK_mod 8 u
    rw [show 2 ^ 8 = 256 from rfl] at this
    rw [this]
def q1 (a : Nat) : Nat := (a / 2 &&& 85) + (a &&& 85)
def q2 (a : Nat) : Nat := (a / 4 &&& 51) + (a &&& 51)
theorem stage1 : ∀ l : List Nat, (∀ a ∈ l, a < 256) → (HB l / 2 &&& maskB 85 l.length) + (HB l &&& maskB 85 l.length) = HB (l.map q1)
  | [], _ => rfl
  | a :: l, h => by
    have ha := h a (by simp)
    have ih := stage1 l fun x hx => h x (by simp [hx])
    have hd : ∀ a : Fin 256, ∀ c : Fin 2, (a.val / 2 + 128 * c.val) &&& 85 = a.val / 2 &&& 85 := by decide +kernel
    have hd := hd ⟨a, ha⟩ ⟨HB l % 2, by omega⟩
    simp only at hd
    simp only [HB, List.length_cons, maskB, List.map_cons]
    rw [show (a + 256 * HB l) / 2 = (a / 2 + 128 * (HB l % 2)) + 256 * (HB l / 2) by omega, and_split _ _ _ _ (by omega) (by decide), and_split _ _ _ _ ha (by decide), hd, ← ih]
    unfold q1
    omega
theorem stage2 : ∀ l : List Nat, (∀ a ∈ l, a < 256) → (HB l / 4 &&& maskB 51 l.length) + (HB l &&& maskB 51 l.length) = HB (l.map q2)
  | [], _ => rfl
  | a :: l, h => by
    have ha := h a (by simp)
    have ih := stage2 l fun x hx => h x (by simp [hx])
    have hd : ∀ a : Fin 256, ∀ c : Fin 4, (a.val / 4 + 64 * c.val) &&& 51 = a.val / 4 &&& 51 := by decide +kernel
    have hd := hd ⟨a, ha⟩ ⟨HB l % 4, by omega⟩
    simp only at hd
    simp only [HB, List.length_cons, maskB, List.map_cons]
    rw [show (a + 256 * HB l) / 4 = (a / 4 + 64 * (HB l % 4)) + 256 * (HB l / 4) by omega, and_split _ _ _ _ (by omega) (by decide), and_split _ _ _ _ ha (by decide), hd, ← ih]
    unfold q2
    omega
theorem HB_mod16 : ∀ l : List Nat, (∀ a ∈ l, a % 16 ≤ 4) → HB l % 16 ≤ 4
  | [], _ => by decide
  | a :: l, h => by have := h a (by simp); rw [HB]; omega
theorem stage3 : ∀ l : List Nat, (∀ a ∈ l, a % 16 ≤ 4 ∧ a / 16 ≤ 4) → (HB l / 16 + HB l) &&& maskB 15 l.length = HB (l.map fun a => a / 16 + a % 16)
  | [], _ => rfl
  | a :: l, h => by
    have ha := h a (by simp)
    have ih := stage3 l fun x hx => h x (by simp [hx])
    have hm := HB_mod16 l fun x hx => (h x (by simp [hx])).1
    simp only [HB, List.length_cons, maskB, List.map_cons]
    rw [show (a + 256 * HB l) / 16 + (a + 256 * HB l) = (a / 16 + a + 16 * (HB l % 16)) + 256 * (HB l / 16 + HB l) by omega, and_split _ _ _ _ (by omega) (by decide), ih, show (15 : Nat) = 2 ^ 4 - 1 from rfl, Nat.and_two_pow_sub_one_eq_mod]
    omega
theorem q12 : ∀ a : Fin 256, q1 a.val < 256 ∧ q2 (q1 a.val) % 16 ≤ 4 ∧ q2 (q1 a.val) / 16 ≤ 4 ∧ q2 (q1 a.val) / 16 + q2 (q1 a.val) % 16 = pcK 8 a.val := by decide +kernel
def fold8 (x : Nat) : Nat := let x := x + x / 256; let x := x + x / 65536; (x + x / 4294967296) % 128
def ones64 (u : Nat) : Nat :=
  let x := (u / 2 &&& 6148914691236517205) + (u &&& 6148914691236517205)
  let x := (x / 4 &&& 3689348814741910323) + (x &&& 3689348814741910323)
  fold8 ((x / 16 + x) &&& 1085102592571150095)
theorem HB_add : ∀ l m : List Nat, l.length = m.length → HB l + HB m = HB (List.zipWith (· + ·) l m)
  | [], [], _ => rfl
  | a :: l, b :: m, h => by
    simp only [List.zipWith_cons_cons, HB]
    rw [← HB_add l m (by simpa using h)]
    omega
theorem HB_div (a : Nat) (l : List Nat) (h : a < 256) : HB (a :: l) / 256 = HB l := by rw [HB]; omega
theorem HB_div2 (a b : Nat) (l : List Nat) (h : a < 256) (h2 : b < 256) : HB (a :: b :: l) / 65536 = HB l := by
  rw [show 65536 = 256 * 256 from rfl, ← Nat.div_div_eq_div_mul, HB_div _ _ h, HB_div _ _ h2]
theorem HB_div4 (a b c d : Nat) (l : List Nat) (h : a < 256) (h2 : b < 256) (h3 : c < 256) (h4 : d < 256) : HB (a :: b :: c :: d :: l) / 4294967296 = HB l := by
  rw [show 4294967296 = 65536 * 65536 from rfl, ← Nat.div_div_eq_div_mul, HB_div2 _ _ _ h h2, HB_div2 _ _ _ h3 h4]
theorem HB_mod (a : Nat) (l : List Nat) (h : a < 128) : HB (a :: l) % 128 = a := by rw [HB]; omega
theorem HB_pad (l : List Nat) : HB (l ++ [0]) = HB l := by
  induction l with
  | nil => rfl
  | cons a l ih => simp only [List.cons_append, HB, ih]
theorem fold_sum : ∀ l : List Nat, l.length = 8 → (∀ a ∈ l, a ≤ 8) → fold8 (HB l) = l.sum
  | [a, b, c, d, e, f, g, h], _, hl => by
    have h1 := hl a (by simp)
    have h2 := hl b (by simp)
    have h3 := hl c (by simp)
    have h4 := hl d (by simp)
    have h5 := hl e (by simp)
    have h6 := hl f (by simp)
    have h7 := hl g (by simp)
    have h8 := hl h (by simp)
    clear hl
    have s1 : HB [a, b, c, d, e, f, g, h] + HB [a, b, c, d, e, f, g, h] / 256 = HB [a + b, b + c, c + d, d + e, e + f, f + g, g + h, h + 0] := by
      rw [HB_div _ _ (by omega), ← HB_pad [b, c, d, e, f, g, h]]
      exact HB_add [a, b, c, d, e, f, g, h] [b, c, d, e, f, g, h, 0] rfl
    have s2 : HB [a + b, b + c, c + d, d + e, e + f, f + g, g + h, h + 0] + HB [a + b, b + c, c + d, d + e, e + f, f + g, g + h, h + 0] / 65536 = HB [a + b + (c + d), b + c + (d + e), c + d + (e + f), d + e + (f + g), e + f + (g + h), f + g + (h + 0), g + h + 0, h + 0 + 0] := by
      rw [HB_div2 _ _ _ (by omega) (by omega), ← HB_pad [c + d, d + e, e + f, f + g, g + h, h + 0], ← HB_pad ([c + d, d + e, e + f, f + g, g + h, h + 0] ++ [0])]
      exact HB_add [a + b, b + c, c + d, d + e, e + f, f + g, g + h, h + 0] [c + d, d + e, e + f, f + g, g + h, h + 0, 0, 0] rfl
    have s3 : HB [a + b + (c + d), b + c + (d + e), c + d + (e + f), d + e + (f + g), e + f + (g + h), f + g + (h + 0), g + h + 0, h + 0 + 0] + HB [a + b + (c + d), b + c + (d + e), c + d + (e + f), d + e + (f + g), e + f + (g + h), f + g + (h + 0), g + h + 0, h + 0 + 0] / 4294967296 = HB [a + b + (c + d) + (e + f + (g + h)), b + c + (d + e) + (f + g + (h + 0)), c + d + (e + f) + (g + h + 0), d + e + (f + g) + (h + 0 + 0), e + f + (g + h) + 0, f + g + (h + 0) + 0, g + h + 0 + 0, h + 0 + 0 + 0] := by
      rw [HB_div4 _ _ _ _ _ (by omega) (by omega) (by omega) (by omega), ← HB_pad [e + f + (g + h), f + g + (h + 0), g + h + 0, h + 0 + 0], ← HB_pad ([e + f + (g + h), f + g + (h + 0), g + h + 0, h + 0 + 0] ++ [0]), ← HB_pad ([e + f + (g + h), f + g + (h + 0), g + h + 0, h + 0 + 0] ++ [0] ++ [0]), ← HB_pad ([e + f + (g + h), f + g + (h + 0), g + h + 0, h + 0 + 0] ++ [0] ++ [0] ++ [0])]
      exact HB_add [a + b + (c + d), b + c + (d + e), c + d + (e + f), d + e + (f + g), e + f + (g + h), f + g + (h + 0), g + h + 0, h + 0 + 0] [e + f + (g + h), f + g + (h + 0), g + h + 0, h + 0 + 0, 0, 0, 0, 0] rfl
    unfold fold8
    simp only
    rw [s1, s2, s3, HB_mod _ _ (by omega)]
    simp only [List.sum_cons, List.sum_nil]
    omega
theorem ones_pc (u : Nat) (hu : u < 18446744073709551616) : ones64 u = pcK 64 u := by
  have e0 := HB_digs 8 u hu
  have hl := digs_len 8 u
  have hd := digs_lt 8 u
  have h1 := stage1 (digs 8 u) hd
  have hd1 : ∀ a ∈ (digs 8 u).map q1, a < 256 := by
    intro a ha
    obtain ⟨b, hb, rfl⟩ := List.mem_map.1 ha
    exact (q12 ⟨b, hd b hb⟩).1
  have h2 := stage2 _ hd1
  have hd2 : ∀ a ∈ ((digs 8 u).map q1).map q2, a % 16 ≤ 4 ∧ a / 16 ≤ 4 := by
    intro a ha
    rw [List.map_map] at ha
    obtain ⟨b, hb, rfl⟩ := List.mem_map.1 ha
    have := q12 ⟨b, hd b hb⟩
    exact ⟨this.2.1, this.2.2.1⟩
  have h3 := stage3 _ hd2
  have h4 := fold_sum ((((digs 8 u).map q1).map q2).map fun a => a / 16 + a % 16) (by simp [hl]) (by
    intro a ha
    obtain ⟨b, hb, rfl⟩ := List.mem_map.1 ha
    have := hd2 b hb
    omega)
  simp only [List.length_map, hl] at h1 h2 h3
  rw [e0] at h1
  have m1 : maskB 85 8 = 6148914691236517205 := rfl
  have m2 : maskB 51 8 = 3689348814741910323 := rfl
  have m3 : maskB 15 8 = 1085102592571150095 := rfl
  rw [m1] at h1
  rw [m2] at h2
  rw [m3] at h3
  unfold ones64
  simp only
  rw [h1, h2, h3, h4, show 64 = 8 * 8 from rfl, pc_digs 8 u, List.map_map, List.map_map]
  congr 1
  apply List.map_congr_left
  intro a ha
  exact (q12 ⟨a, hd a ha⟩).2.2.2
end Go.Av
