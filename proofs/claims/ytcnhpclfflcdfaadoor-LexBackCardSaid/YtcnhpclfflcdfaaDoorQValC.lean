import Derived.Test.YtcnhpclfflcdfaaDoorQValTest
import Derived.Test.YtcnhpclfflcdfaaDoorQValB
import Derived.Test.YtcnhpclfflcdfaaDoorQLexN
import Derived.Test.YtcnhpclfflcdfaaDoorShelf
import Derived.Lib.AppendIntMem
import Derived.Lib.ItoaLen
/- What is printed of a value is read again: the walks. -/
namespace Go.Proofs.YtcnhpclfflcdfaaDoorQ.Val
open Go Go.Av Go.Lib
set_option linter.unusedSimpArgs false
set_option linter.unusedVariables false
theorem tableP {w : World} (h : BaseW w) : Lib.TabIs Tryd.prog w "internal/strconv.uint64pow10" .u64 Lib.pow10Tab := by
  obtain ⟨t, fz, h1⟩ := h _ (by first | exact List.mem_singleton.2 rfl | exact List.mem_cons_of_mem _ (List.mem_singleton.2 rfl))
  have hg : Tryd.prog.globalNamed "internal/strconv.uint64pow10" = some 2 := by kernel_rfl
  unfold Lib.TabIs World.var?
  rw [hg, Option.bind_some, h1]
theorem itoa_c (n : Int) (h0 : -9223372036854775808 ≤ n) (h1 : n ≤ 9223372036854775807) (g : GH) : PureC Tryd.prog 56 [I64 n] g (SS (itoS n)) := by
  refine @PureC.of_below _ _ [.int .i64 n] _ (fun w hw => (Tryd.strconv_Itoa n h0 h1 w (tableP hw)).mono ?_) g
  rintro e w' ⟨rfl, k, os, rfl⟩
  exact ⟨rfl, below_grow _ w (Nat.le_refl _) k os⟩
def decS (u : Nat) : ByteArray := ⟨(decDigits u).toArray⟩
theorem decS_size (u : Nat) (h : u < 18446744073709551616) : (decS u).size ≤ 20 := by
  show (decDigits u).toArray.size ≤ 20
  rw [List.size_toArray, decDigits_length]
  exact nDigits_le20 u h
theorem dig_piece : ∀ k, k < 10 → (⟨#[48, 49, 50, 51, 52, 53, 54, 55, 56, 57]⟩ : ByteArray).extract k (k + 1) = ⟨#[UInt8.ofNat (48 + k)]⟩ := by decide +kernel
theorem decS_two {u : Nat} (h : ¬ u < 10) : decS (u / 10) ++ decS (u % 10) = decS u := by
  apply ByteArray.ext
  unfold decS
  rw [ByteArray.data_append, decDigits_one (show u % 10 < 10 by omega)]
  conv => rhs; rw [decDigits, dif_neg h]
  simp
theorem num_step (u : Nat) (ih : ∀ m, m < u → m < 18446744073709551616 → ∀ g, PureC Tryd.prog 93 [U64 m] g (SS (decS m))) (hu : u < 18446744073709551616) (g : GH) : PureC Tryd.prog 93 [U64 u] g (SS (decS u)) := by
  refine CallC.body (fun _ => none) (fun _ => 0) Tryd.func93 rfl Tryd.results93 Tryd.ntmps93 ?_
  intro n0 hn0
  simp only [go_sem]
  by_cases h : (u : Int) < 10
  · have hlt : u < 10 := by omega
    have e1 : IntKind.u64.wrap ((u : Int) + 1) = ((u + 1 : Nat) : Int) := by rw [wrap_u64]; omega
    have hsz10 : (⟨#[48, 49, 50, 51, 52, 53, 54, 55, 56, 57]⟩ : ByteArray).size = 10 := rfl
    simp only [go_sem, h, e1, Int.toNat_natCast, hsz10]
    refine ⟨⟨by omega, by (show ((u + 1 : Nat) : Int) ≤ ((10 : Nat) : Int); omega)⟩, ?_⟩
    refine FnPost_end hn0 (by simp) rfl (only_lit _ _) ?_
    simp only [go_sem]
    refine leA_str ?_
    rw [dig_piece u hlt]
    unfold decS; rw [decDigits_one hlt]
  · have e1 : IntKind.u64.wrap ((u : Int).tdiv 10) = ((u / 10 : Nat) : Int) := by
      rw [Int.tdiv_eq_ediv_of_nonneg (by omega), wrap_u64]; omega
    have e2 : (u : Int).tmod 10 = ((u % 10 : Nat) : Int) := by
      rw [Int.tmod_eq_emod_of_nonneg (by omega)]; omega
    simp only [go_sem, h, e1, e2]
    (repeat (refine ⟨by omega, ?_⟩))
    refine WE_pure _ _ _ _ _ _ _ _ (ih (u / 10) (by omega) (by omega) _) ?_
    simp only [go_sem]
    refine WE_pure _ _ _ _ _ _ _ _ (ih (u % 10) (by omega) (by omega) _) ?_
    simp only [go_sem]
    have k1 := decS_size (u / 10) (by omega)
    have k2 := decS_size (u % 10) (by omega)
    (repeat (refine ⟨by omega, ?_⟩))
    refine FnPost_end hn0 (by simp) rfl (only_lit _ _) ?_
    simp only [go_sem]
    refine leA_str ?_
    exact decS_two (by omega)
theorem num_c : ∀ u : Nat, u < 18446744073709551616 → ∀ g, PureC Tryd.prog 93 [U64 u] g (SS (decS u)) := by
  intro u
  induction u using Nat.strongRecOn with
  | _ u ih => exact fun hu g => num_step u ih hu g
theorem Num_c (n : Int) (h0 : -1000000000000 ≤ n) (h1 : n ≤ 1000000000000) (g : GH) : PureC Tryd.prog 58 [I64 n] g (SS (itoS n)) := by
  refine CallC.body (fun _ => none) (fun _ => 0) Tryd.func58 rfl Tryd.results58 Tryd.ntmps58 ?_
  intro n0 hn0
  simp only [go_sem]
  by_cases h : n < 0
  · obtain ⟨u, rfl⟩ : ∃ u : Nat, n = -(u : Int) := ⟨n.natAbs, by omega⟩
    have e3 : IntKind.u64.wrap (IntKind.u64.wrap (IntKind.i64.wrap (0 - IntKind.i64.wrap (-(u : Int) + 1))) + 1) = (u : Int) := by
      rw [wrap_i64, wrap_i64, wrap_u64, wrap_u64]; omega
    simp only [go_sem, h, e3]
    have k1 := decS_size u (by omega)
    refine WE_pure _ _ _ _ _ _ _ _ (num_c u (by omega) _) ?_
    simp only [go_sem]
    refine ⟨by (show (((1 : Nat) : Int) + ((decS u).size : Int) ≤ _); omega), ?_⟩
    refine FnPost_end hn0 (by simp) rfl (only_lit _ _) ?_
    simp only [go_sem]
    refine leA_str ?_
    apply ByteArray.ext
    rw [ByteArray.data_append]
    unfold itoS itoa decS; rw [if_pos h]; simp
  · obtain ⟨u, rfl⟩ : ∃ u : Nat, n = (u : Int) := ⟨n.toNat, by omega⟩
    have e1 : IntKind.u64.wrap (u : Int) = (u : Int) := by rw [wrap_u64]; omega
    simp only [go_sem, h, e1]
    refine WE_pure _ _ _ _ _ _ _ _ (num_c u (by omega) _) ?_
    simp only [go_sem]
    refine FnPost_end hn0 (by simp) rfl (only_lit _ _) ?_
    simp only [go_sem]
    refine leA_str ?_
    unfold itoS itoa decS; rw [if_neg h]; simp
end Go.Proofs.YtcnhpclfflcdfaaDoorQ.Val
