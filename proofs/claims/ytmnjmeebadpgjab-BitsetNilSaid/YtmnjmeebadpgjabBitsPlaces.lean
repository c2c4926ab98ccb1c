import Derived.Test.YtmnjmeebadpgjabBitsWide
import Derived.Test.YtmnjmeebadpgjabNumC
namespace Go.Proofs.Ytmnjmeebadpgjab.Bits
open Go Go.Av
set_option linter.unusedSimpArgs false
set_option linter.unusedVariables false
theorem andN (a b : Nat) (ha : a < 18446744073709551616) (hb : b < 18446744073709551616) : andI .u64 (a : Int) (b : Int) = ((a &&& b : Nat) : Int) := by
  show IntKind.u64.wrap ((BitVec.ofInt 64 (a : Int) &&& BitVec.ofInt 64 (b : Int)).toNat : Int) = _
  have h : a &&& b ≤ b := Nat.and_le_right
  rw [BitVec.toNat_and, BitVec.toNat_ofInt, BitVec.toNat_ofInt, wrap_u64, show ((a : Int) % ((2 ^ 64 : Nat) : Int)).toNat = a by omega, show ((b : Int) % ((2 ^ 64 : Nat) : Int)).toNat = b by omega]
  omega
theorem and127 (a : Nat) (ha : a < 9223372036854775808) : andI .i64 (a : Int) 127 = ((a % 128 : Nat) : Int) := by
  show IntKind.i64.wrap ((BitVec.ofInt 64 (a : Int) &&& BitVec.ofInt 64 (127 : Int)).toNat : Int) = _
  rw [BitVec.toNat_and, BitVec.toNat_ofInt, show (BitVec.ofInt 64 127).toNat = 2 ^ 7 - 1 from rfl, Nat.and_two_pow_sub_one_eq_mod, show ((a : Int) % ((2 ^ 64 : Nat) : Int)).toNat = a by omega, wrap_i64]
  omega
theorem ones_c (u : Int) (h0 : 0 ≤ u) (h1 : u < 18446744073709551616) (g : GH) : PureC Try.prog 39 [U64 u] g (I64 (pcK 64 u.toNat)) := by
  rw [← ones_pc u.toNat (by omega)]
  obtain ⟨n, rfl⟩ := Int.eq_ofNat_of_zero_le h0
  refine CallC.body (fun _ => none) (fun _ => 0) Try.func39 rfl Try.results39 Try.ntmps39 ?_
  intro n0 hn0
  simp only [go_sem]
  refine FnPost_end hn0 (by simp) rfl (only_lit _ _) ?_
  simp only [go_sem]
  refine leA_int ?_
  try rw [Int.toNat_natCast]
  have b1 : n &&& 6148914691236517205 ≤ 6148914691236517205 := Nat.and_le_right
  have b2 : n / 2 &&& 6148914691236517205 ≤ 6148914691236517205 := Nat.and_le_right
  have c1 : andI .u64 (n : Int) 6148914691236517205 = _ := andN n 6148914691236517205 (by omega) (by omega)
  have c2 : andI .u64 ((n : Int) / 2) 6148914691236517205 = _ := andN (n / 2) 6148914691236517205 (by omega) (by omega)
  rw [c1, c2]
  unfold ones64
  simp only
  generalize (n / 2 &&& 6148914691236517205) = p at *
  generalize (n &&& 6148914691236517205) = q at *
  have d1 : IntKind.u64.wrap ((p : Int) + (q : Int)) = ((p + q : Nat) : Int) := by rw [wrap_u64]; omega
  rw [d1]
  have hx : p + q < 18446744073709551616 := by omega
  generalize p + q = x at *
  clear c1 c2 d1 b1 b2
  have b1 : x &&& 3689348814741910323 ≤ 3689348814741910323 := Nat.and_le_right
  have b2 : x / 4 &&& 3689348814741910323 ≤ 3689348814741910323 := Nat.and_le_right
  have c1 : andI .u64 (x : Int) 3689348814741910323 = _ := andN x 3689348814741910323 (by omega) (by omega)
  have c2 : andI .u64 ((x : Int) / 4) 3689348814741910323 = _ := andN (x / 4) 3689348814741910323 (by omega) (by omega)
  rw [c1, c2]
  generalize (x / 4 &&& 3689348814741910323) = p at *
  generalize (x &&& 3689348814741910323) = q at *
  have d1 : IntKind.u64.wrap ((p : Int) + (q : Int)) = ((p + q : Nat) : Int) := by rw [wrap_u64]; omega
  rw [d1]
  have hx : p + q ≤ 7378697629483820646 := by omega
  generalize p + q = x at *
  clear c1 c2 d1 b1 b2
  have d1 : IntKind.u64.wrap ((x : Int) / 16 + (x : Int)) = ((x / 16 + x : Nat) : Int) := by rw [wrap_u64]; omega
  have b1 : (x / 16 + x) &&& 1085102592571150095 ≤ 1085102592571150095 := Nat.and_le_right
  have c1 : andI .u64 ((x / 16 + x : Nat) : Int) 1085102592571150095 = _ := andN (x / 16 + x) 1085102592571150095 (by omega) (by omega)
  rw [d1, c1]
  unfold fold8
  simp only
  generalize (x / 16 + x) &&& 1085102592571150095 = x at *
  clear d1 c1
  have d1 : IntKind.u64.wrap ((x : Int) + (x : Int) / 256) = ((x + x / 256 : Nat) : Int) := by rw [wrap_u64]; omega
  rw [d1]
  have b2 : x + x / 256 ≤ 2000000000000000000 := by omega
  generalize x + x / 256 = y at *
  have d2 : IntKind.u64.wrap ((y : Int) + (y : Int) / 65536) = ((y + y / 65536 : Nat) : Int) := by rw [wrap_u64]; omega
  rw [d2]
  have b3 : y + y / 65536 ≤ 3000000000000000000 := by omega
  generalize y + y / 65536 = z at *
  have d3 : IntKind.u64.wrap ((z : Int) + (z : Int) / 4294967296) = ((z + z / 4294967296 : Nat) : Int) := by rw [wrap_u64]; omega
  have d4 : IntKind.i64.wrap ((z + z / 4294967296 : Nat) : Int) = ((z + z / 4294967296 : Nat) : Int) := by rw [wrap_i64]; omega
  rw [d3, d4]
  exact and127 _ (by omega)
theorem count_c (u : Int) (h0 : 0 ≤ u) (h1 : u < 18446744073709551616) (g : GH) : PureC Try.prog 29 [U64 u] g (I64 (pcK 64 u.toNat)) := by
  refine CallC.body (fun _ => none) (fun _ => 0) Try.func29 rfl Try.results29 Try.ntmps29 ?_
  intro n0 hn0
  simp only [go_sem]
  refine WE_pure _ _ _ _ _ _ _ _ (ones_c u h0 h1 _) ?_
  simp only [go_sem]
  refine FnPost_end hn0 (by simp) rfl (only_lit _ _) ?_
  simp only [go_sem]
  exact leA_refl _
theorem pcK_ne (m v : Nat) (hv : v < 2 ^ m) (h : 0 < v) : ∃ m', m = m' + 1 ∧ v / 2 < 2 ^ m' := by
  cases m with
  | zero => simp at hv; omega
  | succ m => exact ⟨m, rfl, by rw [Nat.pow_succ] at hv; omega⟩
theorem pcK_succ (m v : Nat) : pcK (m + 1) v = v % 2 + pcK m (v / 2) := rfl
theorem blK_succ (m v : Nat) (h : 0 < v) : blK (m + 1) v = 1 + blK m (v / 2) := by rw [blK, if_neg (by omega)]
theorem pow_le64 (j : Nat) (h : j ≤ 64) : (2 : Int) ^ j ≤ 18446744073709551616 := by
  have := Nat.pow_le_pow_right (show 0 < 2 by decide) h
  have h2 : ((2 ^ j : Nat) : Int) ≤ ((2 ^ 64 : Nat) : Int) := Int.ofNat_le.2 this
  rw [Int.natCast_pow] at h2
  exact h2
theorem andI_NB (x y : BitVec 64) : andI .u64 (NB x) (NB y) = NB (x &&& y) := by
  show IntKind.u64.wrap ((BitVec.ofInt 64 (NB x) &&& BitVec.ofInt 64 (NB y)).toNat : Int) = _
  rw [NB_ofInt, NB_ofInt, NB_wrap]
theorem orI_NB (x y : BitVec 64) : orI .u64 (NB x) (NB y) = NB (x ||| y) := by
  show IntKind.u64.wrap ((BitVec.ofInt 64 (NB x) ||| BitVec.ofInt 64 (NB y)).toNat : Int) = _
  rw [NB_ofInt, NB_ofInt, NB_wrap]
theorem swI (x : BitVec 64) (k : Nat) (m : BitVec 64) (m' p : Int) (hm : m' = NB m) (hp : p = ((2 ^ k : Nat) : Int)) : orI .u64 (andI .u64 (NB x / p) m') (IntKind.u64.wrap (andI .u64 (NB x) m' * p)) = NB (sw k m x) := by
  subst hm
  rw [NB_shr x k p hp, andI_NB, andI_NB, NB_shl _ k p hp, orI_NB]; rfl
theorem sw0I (x : BitVec 64) : orI .u64 (NB x / 4294967296) (IntKind.u64.wrap (NB x * 4294967296)) = NB (sw0 32 x) := by
  rw [NB_shr x 32 4294967296 rfl, NB_shl x 32 4294967296 rfl, orI_NB]; rfl
/-- a number's bits, moved -/
def shiftF (u n : Int) : Int := if 0 ≤ n then (if n < 64 then u * 2 ^ n.toNat % 18446744073709551616 else 0) else (if -64 < n then u / 2 ^ (-n).toNat else 0)
theorem turnF_succ (u : Int) (w : Nat) : turnF u (w + 1) = 2 * turnF u w + u / 2 ^ w % 2 := rfl
theorem blK_half (j n : Nat) : blK (j + j) n = if 2 ^ j ≤ n then j + blK j (n / 2 ^ j) else blK j n := by
  split
  · exact blK_big j j n ‹_›
  · exact blK_more j j n (by omega)
def tabOk (s : ByteArray) : Bool := s.size == 256 && (List.range 256).all fun i => byteAt s i == ((blK 8 i : Nat) : Int)
theorem tab_ok (s : ByteArray) (h : tabOk s = true) : s.size = 256 ∧ ∀ i : Fin 256, byteAt s i.val = ((blK 8 i.val : Nat) : Int) := by
  simp only [tabOk, Bool.and_eq_true, beq_iff_eq, List.all_eq_true, List.mem_range] at h
  exact ⟨h.1, fun i => h.2 i.val i.isLt⟩
theorem Len_c (u : Int) (h0 : 0 ≤ u) (h1 : u < 18446744073709551616) (g : GH) : PureC Try.prog 42 [U64 u] g (I64 (blK 64 u.toNat)) := by
  obtain ⟨n, rfl⟩ := Int.eq_ofNat_of_zero_le h0
  try rw [Int.toNat_natCast]
  refine CallC.body (fun _ => none) (fun _ => 0) Try.func42 rfl Try.results42 Try.ntmps42 ?_
  intro n0 hn0
  have b1 : blK 64 (n) = _ := blK_half 32 (n)
  by_cases z1 : 4294967296 ≤ (n : Int)
  · rw [show (2:Nat) ^ 32 = 4294967296 from rfl, if_pos (by omega)] at b1
    have b2 : blK 32 (n / 4294967296) = _ := blK_half 16 (n / 4294967296)
    by_cases z2 : 65536 ≤ (n : Int) / 4294967296
    · rw [show (2:Nat) ^ 16 = 65536 from rfl, if_pos (by omega)] at b2
      have b3 : blK 16 (n / 4294967296 / 65536) = _ := blK_half 8 (n / 4294967296 / 65536)
      by_cases z3 : 256 ≤ (n : Int) / 4294967296 / 65536
      · rw [show (2:Nat) ^ 8 = 256 from rfl, if_pos (by omega)] at b3
        have hq : n / 4294967296 / 65536 / 256 < 256 := by omega
        have eE : IntKind.u8.wrap ((n : Int) / 4294967296 / 65536 / 256) = ((n / 4294967296 / 65536 / 256 : Nat) : Int) := by rw [wrap_u8]; omega
        have hb := blK_le 8 (n / 4294967296 / 65536 / 256)
        simp only [go_sem, z1, z2, z3]
        generalize hs : ByteArray.mk _ = s
        have hk : tabOk s = true := by rw [← hs]; decide +kernel
        clear hs
        obtain ⟨hs2, ht⟩ := tab_ok s hk
        have hv := ht ⟨n / 4294967296 / 65536 / 256, hq⟩
        simp only at hv
        rw [eE]
        refine ⟨⟨by omega, by rw [hs2]; omega⟩, ?_⟩
        (try rw [Int.toNat_natCast]); rw [hv]
        refine FnPost_end hn0 (by simp) rfl (only_lit _ _) ?_
        simp only [go_sem]
        refine leA_int ?_
        clear hv ht hs2 eE
        rw [b1, b2, b3]
        generalize blK 8 (n / 4294967296 / 65536 / 256) = t at *
        clear b1 b2 b3 z1 z2 z3 h0 h1 hq
        simp only [wrap_i64]
        omega
      · rw [show (2:Nat) ^ 8 = 256 from rfl, if_neg (by omega)] at b3
        have hq : n / 4294967296 / 65536 < 256 := by omega
        have eE : IntKind.u8.wrap ((n : Int) / 4294967296 / 65536) = ((n / 4294967296 / 65536 : Nat) : Int) := by rw [wrap_u8]; omega
        have hb := blK_le 8 (n / 4294967296 / 65536)
        simp only [go_sem, z1, z2, z3]
        generalize hs : ByteArray.mk _ = s
        have hk : tabOk s = true := by rw [← hs]; decide +kernel
        clear hs
        obtain ⟨hs2, ht⟩ := tab_ok s hk
        have hv := ht ⟨n / 4294967296 / 65536, hq⟩
        simp only at hv
        rw [eE]
        refine ⟨⟨by omega, by rw [hs2]; omega⟩, ?_⟩
        (try rw [Int.toNat_natCast]); rw [hv]
        refine FnPost_end hn0 (by simp) rfl (only_lit _ _) ?_
        simp only [go_sem]
        refine leA_int ?_
        clear hv ht hs2 eE
        rw [b1, b2, b3]
        generalize blK 8 (n / 4294967296 / 65536) = t at *
        clear b1 b2 b3 z1 z2 z3 h0 h1 hq
        simp only [wrap_i64]
        omega
    · rw [show (2:Nat) ^ 16 = 65536 from rfl, if_neg (by omega)] at b2
      have b3 : blK 16 (n / 4294967296) = _ := blK_half 8 (n / 4294967296)
      by_cases z3 : 256 ≤ (n : Int) / 4294967296
      · rw [show (2:Nat) ^ 8 = 256 from rfl, if_pos (by omega)] at b3
        have hq : n / 4294967296 / 256 < 256 := by omega
        have eE : IntKind.u8.wrap ((n : Int) / 4294967296 / 256) = ((n / 4294967296 / 256 : Nat) : Int) := by rw [wrap_u8]; omega
        have hb := blK_le 8 (n / 4294967296 / 256)
        simp only [go_sem, z1, z2, z3]
        generalize hs : ByteArray.mk _ = s
        have hk : tabOk s = true := by rw [← hs]; decide +kernel
        clear hs
        obtain ⟨hs2, ht⟩ := tab_ok s hk
        have hv := ht ⟨n / 4294967296 / 256, hq⟩
        simp only at hv
        rw [eE]
        refine ⟨⟨by omega, by rw [hs2]; omega⟩, ?_⟩
        (try rw [Int.toNat_natCast]); rw [hv]
        refine FnPost_end hn0 (by simp) rfl (only_lit _ _) ?_
        simp only [go_sem]
        refine leA_int ?_
        clear hv ht hs2 eE
        rw [b1, b2, b3]
        generalize blK 8 (n / 4294967296 / 256) = t at *
        clear b1 b2 b3 z1 z2 z3 h0 h1 hq
        simp only [wrap_i64]
        omega
      · rw [show (2:Nat) ^ 8 = 256 from rfl, if_neg (by omega)] at b3
        have hq : n / 4294967296 < 256 := by omega
        have eE : IntKind.u8.wrap ((n : Int) / 4294967296) = ((n / 4294967296 : Nat) : Int) := by rw [wrap_u8]; omega
        have hb := blK_le 8 (n / 4294967296)
        simp only [go_sem, z1, z2, z3]
        generalize hs : ByteArray.mk _ = s
        have hk : tabOk s = true := by rw [← hs]; decide +kernel
        clear hs
        obtain ⟨hs2, ht⟩ := tab_ok s hk
        have hv := ht ⟨n / 4294967296, hq⟩
        simp only at hv
        rw [eE]
        refine ⟨⟨by omega, by rw [hs2]; omega⟩, ?_⟩
        (try rw [Int.toNat_natCast]); rw [hv]
        refine FnPost_end hn0 (by simp) rfl (only_lit _ _) ?_
        simp only [go_sem]
        refine leA_int ?_
        clear hv ht hs2 eE
        rw [b1, b2, b3]
        generalize blK 8 (n / 4294967296) = t at *
        clear b1 b2 b3 z1 z2 z3 h0 h1 hq
        simp only [wrap_i64]
        omega
  · rw [show (2:Nat) ^ 32 = 4294967296 from rfl, if_neg (by omega)] at b1
    have b2 : blK 32 (n) = _ := blK_half 16 (n)
    by_cases z2 : 65536 ≤ (n : Int)
    · rw [show (2:Nat) ^ 16 = 65536 from rfl, if_pos (by omega)] at b2
      have b3 : blK 16 (n / 65536) = _ := blK_half 8 (n / 65536)
      by_cases z3 : 256 ≤ (n : Int) / 65536
      · rw [show (2:Nat) ^ 8 = 256 from rfl, if_pos (by omega)] at b3
        have hq : n / 65536 / 256 < 256 := by omega
        have eE : IntKind.u8.wrap ((n : Int) / 65536 / 256) = ((n / 65536 / 256 : Nat) : Int) := by rw [wrap_u8]; omega
        have hb := blK_le 8 (n / 65536 / 256)
        simp only [go_sem, z1, z2, z3]
        generalize hs : ByteArray.mk _ = s
        have hk : tabOk s = true := by rw [← hs]; decide +kernel
        clear hs
        obtain ⟨hs2, ht⟩ := tab_ok s hk
        have hv := ht ⟨n / 65536 / 256, hq⟩
        simp only at hv
        rw [eE]
        refine ⟨⟨by omega, by rw [hs2]; omega⟩, ?_⟩
        (try rw [Int.toNat_natCast]); rw [hv]
        refine FnPost_end hn0 (by simp) rfl (only_lit _ _) ?_
        simp only [go_sem]
        refine leA_int ?_
        clear hv ht hs2 eE
        rw [b1, b2, b3]
        generalize blK 8 (n / 65536 / 256) = t at *
        clear b1 b2 b3 z1 z2 z3 h0 h1 hq
        simp only [wrap_i64]
        omega
      · rw [show (2:Nat) ^ 8 = 256 from rfl, if_neg (by omega)] at b3
        have hq : n / 65536 < 256 := by omega
        have eE : IntKind.u8.wrap ((n : Int) / 65536) = ((n / 65536 : Nat) : Int) := by rw [wrap_u8]; omega
        have hb := blK_le 8 (n / 65536)
        simp only [go_sem, z1, z2, z3]
        generalize hs : ByteArray.mk _ = s
        have hk : tabOk s = true := by rw [← hs]; decide +kernel
        clear hs
        obtain ⟨hs2, ht⟩ := tab_ok s hk
        have hv := ht ⟨n / 65536, hq⟩
        simp only at hv
        rw [eE]
        refine ⟨⟨by omega, by rw [hs2]; omega⟩, ?_⟩
        (try rw [Int.toNat_natCast]); rw [hv]
        refine FnPost_end hn0 (by simp) rfl (only_lit _ _) ?_
        simp only [go_sem]
        refine leA_int ?_
        clear hv ht hs2 eE
        rw [b1, b2, b3]
        generalize blK 8 (n / 65536) = t at *
        clear b1 b2 b3 z1 z2 z3 h0 h1 hq
        simp only [wrap_i64]
        omega
    · rw [show (2:Nat) ^ 16 = 65536 from rfl, if_neg (by omega)] at b2
      have b3 : blK 16 (n) = _ := blK_half 8 (n)
      by_cases z3 : 256 ≤ (n : Int)
      · rw [show (2:Nat) ^ 8 = 256 from rfl, if_pos (by omega)] at b3
        have hq : n / 256 < 256 := by omega
        have eE : IntKind.u8.wrap ((n : Int) / 256) = ((n / 256 : Nat) : Int) := by rw [wrap_u8]; omega
        have hb := blK_le 8 (n / 256)
        simp only [go_sem, z1, z2, z3]
        generalize hs : ByteArray.mk _ = s
        have hk : tabOk s = true := by rw [← hs]; decide +kernel
        clear hs
        obtain ⟨hs2, ht⟩ := tab_ok s hk
        have hv := ht ⟨n / 256, hq⟩
        simp only at hv
        rw [eE]
        refine ⟨⟨by omega, by rw [hs2]; omega⟩, ?_⟩
        (try rw [Int.toNat_natCast]); rw [hv]
        refine FnPost_end hn0 (by simp) rfl (only_lit _ _) ?_
        simp only [go_sem]
        refine leA_int ?_
        clear hv ht hs2 eE
        rw [b1, b2, b3]
        generalize blK 8 (n / 256) = t at *
        clear b1 b2 b3 z1 z2 z3 h0 h1 hq
        simp only [wrap_i64]
        omega
      · rw [show (2:Nat) ^ 8 = 256 from rfl, if_neg (by omega)] at b3
        have hq : n < 256 := by omega
        have eE : IntKind.u8.wrap ((n : Int)) = ((n : Nat) : Int) := by rw [wrap_u8]; omega
        have hb := blK_le 8 (n)
        simp only [go_sem, z1, z2, z3]
        generalize hs : ByteArray.mk _ = s
        have hk : tabOk s = true := by rw [← hs]; decide +kernel
        clear hs
        obtain ⟨hs2, ht⟩ := tab_ok s hk
        have hv := ht ⟨n, hq⟩
        simp only at hv
        rw [eE]
        refine ⟨⟨by omega, by rw [hs2]; omega⟩, ?_⟩
        (try rw [Int.toNat_natCast]); rw [hv]
        refine FnPost_end hn0 (by simp) rfl (only_lit _ _) ?_
        simp only [go_sem]
        refine leA_int ?_
        clear hv ht hs2 eE
        rw [b1, b2, b3]
        generalize blK 8 (n) = t at *
        clear b1 b2 b3 z1 z2 z3 h0 h1 hq
        simp only [wrap_i64]
        omega
theorem Log_c (u : Int) (h0 : 0 ≤ u) (h1 : u < 18446744073709551616) (g : GH) : PureC Try.prog 38 [U64 u] g (I64 (blK 64 u.toNat - 1)) := by
  have := blK_le 64 u.toNat
  refine CallC.body (fun _ => none) (fun _ => 0) Try.func38 rfl Try.results38 Try.ntmps38 ?_
  intro n0 hn0
  simp only [go_sem]
  refine WE_pure _ _ _ _ _ _ _ _ (Len_c u h0 h1 _) ?_
  simp only [go_sem]
  refine FnPost_end hn0 (by simp) rfl (only_lit _ _) ?_
  simp only [go_sem]
  exact leA_int (by rw [wrap_i64]; omega)
end Go.Proofs.Ytmnjmeebadpgjab.Bits
