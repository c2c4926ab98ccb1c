import Derived.Test.YtmnjmeebadpgjaaTy
import Derived.Test.YtmnjmeebadpgjaaNum
namespace Go.Proofs.Ytmnjmeebadpgjaa.Bits
open Go Go.Av
set_option linter.unusedSimpArgs false
set_option linter.unusedVariables false
abbrev I64 (n : Int) : AV := .lit (.int .i64 n)
abbrev U64 (n : Int) : AV := .lit (.int .u64 n)
abbrev BB (b : Bool) : AV := .lit (.bool b)
theorem zig_c (n : Int) (h0 : -9223372036854775808 ≤ n) (h1 : n ≤ 9223372036854775807) (g : GH) : PureC Try.prog 15 [I64 n] g (U64 (zigF n)) := by
  refine CallC.body (fun _ => none) (fun _ => 0) Try.func15 rfl Try.results15 Try.ntmps15 ?_
  intro n0 hn0
  simp only [go_sem]
  refine FnPost_end hn0 (by simp) rfl (only_lit _ _) ?_
  simp only [go_sem]
  exact leA_int (zig_eq n h0 h1)
theorem zag_c (n : Int) (h0 : 0 ≤ n) (h1 : n < 18446744073709551616) (g : GH) : PureC Try.prog 17 [U64 n] g (I64 (zagF n)) := by
  refine CallC.body (fun _ => none) (fun _ => 0) Try.func17 rfl Try.results17 Try.ntmps17 ?_
  intro n0 hn0
  simp only [go_sem]
  refine FnPost_end hn0 (by simp) rfl (only_lit _ _) ?_
  simp only [go_sem]
  exact leA_int (zag_eq n h0 h1)
theorem rzig_c (n : Int) (h0 : -9223372036854775808 ≤ n) (h1 : n ≤ 9223372036854775807) (g : GH) : PureC Try.prog 16 [I64 n] g (U64 (zigF n)) := by
  refine CallC.body (fun _ => none) (fun _ => 0) Try.func16 rfl Try.results16 Try.ntmps16 ?_
  intro n0 hn0
  simp only [go_sem]
  split <;> refine FnPost_end hn0 (by simp) rfl (only_lit _ _) ?_ <;> simp only [go_sem]
  · exact leA_int (refZig_neg n h0 ‹_›)
  · exact leA_int (refZig_pos n h1 ‹_›)
theorem rzag_c (n : Int) (h0 : 0 ≤ n) (h1 : n < 18446744073709551616) (g : GH) : PureC Try.prog 18 [U64 n] g (I64 (zagF n)) := by
  refine CallC.body (fun _ => none) (fun _ => 0) Try.func18 rfl Try.results18 Try.ntmps18 ?_
  intro n0 hn0
  simp only [go_sem]
  split <;> refine FnPost_end hn0 (by simp) rfl (only_lit _ _) ?_ <;> simp only [go_sem]
  · exact leA_int (refZag_odd n h0 h1 ‹_›)
  · exact leA_int (refZag_even n h0 h1 ‹_›)
end Go.Proofs.Ytmnjmeebadpgjaa.Bits
