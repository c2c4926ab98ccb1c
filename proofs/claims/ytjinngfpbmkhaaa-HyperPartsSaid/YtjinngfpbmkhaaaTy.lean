import Derived.Test.YtjinngfpbmkhaaaProg
import Derived.Test.YtjinngfpbmkhaaaAvV
import Derived.KernelRfl
/- Facts of the type table, for the evaluator. -/
namespace Go.Proofs.Ytjinngfpbmkhaaa.Ty
open Go Go.Av
@[go_sem] theorem tyI_0 : tyI Try.prog 0 = some { agg := false, size := 1, bytes := 0 } := by kernel_rfl
@[go_sem] theorem kindT_0 : kindT Try.prog 0 = 0 := by kernel_rfl
@[go_sem] theorem hasT_0 : hasT Try.prog 0 = true := by kernel_rfl
@[go_sem] theorem tyI_1 : tyI Try.prog 1 = some { agg := false, size := 1, bytes := 8 } := by kernel_rfl
@[go_sem] theorem kindT_1 : kindT Try.prog 1 = 9 := by kernel_rfl
@[go_sem] theorem hasT_1 : hasT Try.prog 1 = true := by kernel_rfl
@[go_sem] theorem zeroI_1 : zeroI Try.prog 1 = some [Go.Av.AV.lit Go.Value.nilFunc] := by kernel_rfl
@[go_sem] theorem tyI_2 : tyI Try.prog 2 = some { agg := false, size := 1, bytes := 8 } := by kernel_rfl
@[go_sem] theorem kindT_2 : kindT Try.prog 2 = 2 := by kernel_rfl
@[go_sem] theorem intT_2 : intT Try.prog 2 = some Go.IntKind.i64 := by kernel_rfl
@[go_sem] theorem hasT_2 : hasT Try.prog 2 = true := by kernel_rfl
@[go_sem] theorem zeroI_2 : zeroI Try.prog 2 = some [Go.Av.AV.lit (Go.Value.int Go.IntKind.i64 0)] := by kernel_rfl
@[go_sem] theorem tyI_3 : tyI Try.prog 3 = some { agg := false, size := 1, bytes := 8 } := by kernel_rfl
@[go_sem] theorem kindT_3 : kindT Try.prog 3 = 2 := by kernel_rfl
@[go_sem] theorem intT_3 : intT Try.prog 3 = some Go.IntKind.i64 := by kernel_rfl
@[go_sem] theorem hasT_3 : hasT Try.prog 3 = true := by kernel_rfl
@[go_sem] theorem zeroI_3 : zeroI Try.prog 3 = some [Go.Av.AV.lit (Go.Value.int Go.IntKind.i64 0)] := by kernel_rfl
@[go_sem] theorem tyI_4 : tyI Try.prog 4 = some { agg := false, size := 1, bytes := 1 } := by kernel_rfl
@[go_sem] theorem kindT_4 : kindT Try.prog 4 = 1 := by kernel_rfl
@[go_sem] theorem hasT_4 : hasT Try.prog 4 = true := by kernel_rfl
@[go_sem] theorem zeroI_4 : zeroI Try.prog 4 = some [Go.Av.AV.lit (Go.Value.bool false)] := by kernel_rfl
@[go_sem] theorem tyI_5 : tyI Try.prog 5 = some { agg := false, size := 1, bytes := 1 } := by kernel_rfl
@[go_sem] theorem kindT_5 : kindT Try.prog 5 = 2 := by kernel_rfl
@[go_sem] theorem intT_5 : intT Try.prog 5 = some Go.IntKind.u8 := by kernel_rfl
@[go_sem] theorem hasT_5 : hasT Try.prog 5 = true := by kernel_rfl
@[go_sem] theorem zeroI_5 : zeroI Try.prog 5 = some [Go.Av.AV.lit (Go.Value.int Go.IntKind.u8 0)] := by kernel_rfl
@[go_sem] theorem tyI_6 : tyI Try.prog 6 = some { agg := false, size := 1, bytes := 1 } := by kernel_rfl
@[go_sem] theorem kindT_6 : kindT Try.prog 6 = 2 := by kernel_rfl
@[go_sem] theorem intT_6 : intT Try.prog 6 = some Go.IntKind.u8 := by kernel_rfl
@[go_sem] theorem hasT_6 : hasT Try.prog 6 = true := by kernel_rfl
@[go_sem] theorem zeroI_6 : zeroI Try.prog 6 = some [Go.Av.AV.lit (Go.Value.int Go.IntKind.u8 0)] := by kernel_rfl
@[go_sem] theorem tyI_7 : tyI Try.prog 7 = some { agg := true, size := 4, bytes := 24 } := by kernel_rfl
@[go_sem] theorem kindT_7 : kindT Try.prog 7 = 6 := by kernel_rfl
@[go_sem] theorem hasT_7 : hasT Try.prog 7 = true := by kernel_rfl
@[go_sem] theorem zeroI_7 : zeroI Try.prog 7 = some [Go.Av.AV.lit (Go.Value.int Go.IntKind.i64 0), Go.Av.AV.lit (Go.Value.int Go.IntKind.i64 0), Go.Av.AV.lit (Go.Value.bool false), Go.Av.AV.lit (Go.Value.int Go.IntKind.u8 0)] := by kernel_rfl
@[go_sem] theorem bldT_7 : bldT Try.prog 7 = true := by kernel_rfl
@[go_sem] theorem eqT_7 : eqT Try.prog 7 = some [(0, 2), (1, 2), (2, 1), (3, 2)] := by kernel_rfl
@[go_sem] theorem fld_7_0 : fldI Try.prog 7 0 = some (0, 1, false) := by kernel_rfl
@[go_sem] theorem fld_7_1 : fldI Try.prog 7 1 = some (1, 1, false) := by kernel_rfl
@[go_sem] theorem fld_7_2 : fldI Try.prog 7 2 = some (2, 1, false) := by kernel_rfl
@[go_sem] theorem fld_7_3 : fldI Try.prog 7 3 = some (3, 1, false) := by kernel_rfl
@[go_sem] theorem tyI_8 : tyI Try.prog 8 = some { agg := true, size := 4, bytes := 24 } := by kernel_rfl
@[go_sem] theorem kindT_8 : kindT Try.prog 8 = 6 := by kernel_rfl
@[go_sem] theorem hasT_8 : hasT Try.prog 8 = true := by kernel_rfl
@[go_sem] theorem zeroI_8 : zeroI Try.prog 8 = some [Go.Av.AV.lit (Go.Value.int Go.IntKind.i64 0), Go.Av.AV.lit (Go.Value.int Go.IntKind.i64 0), Go.Av.AV.lit (Go.Value.bool false), Go.Av.AV.lit (Go.Value.int Go.IntKind.u8 0)] := by kernel_rfl
@[go_sem] theorem bldT_8 : bldT Try.prog 8 = true := by kernel_rfl
@[go_sem] theorem eqT_8 : eqT Try.prog 8 = some [(0, 2), (1, 2), (2, 1), (3, 2)] := by kernel_rfl
@[go_sem] theorem fld_8_0 : fldI Try.prog 8 0 = some (0, 1, false) := by kernel_rfl
@[go_sem] theorem fld_8_1 : fldI Try.prog 8 1 = some (1, 1, false) := by kernel_rfl
@[go_sem] theorem fld_8_2 : fldI Try.prog 8 2 = some (2, 1, false) := by kernel_rfl
@[go_sem] theorem fld_8_3 : fldI Try.prog 8 3 = some (3, 1, false) := by kernel_rfl
@[go_sem] theorem tyI_9 : tyI Try.prog 9 = some { agg := false, size := 1, bytes := 16 } := by kernel_rfl
@[go_sem] theorem kindT_9 : kindT Try.prog 9 = 3 := by kernel_rfl
@[go_sem] theorem hasT_9 : hasT Try.prog 9 = true := by kernel_rfl
@[go_sem] theorem zeroI_9 : zeroI Try.prog 9 = some [Go.Av.AV.lit (Go.Value.string ⟨#[]⟩)] := by kernel_rfl
@[go_sem] theorem tyI_10 : tyI Try.prog 10 = some { agg := false, size := 1, bytes := 16 } := by kernel_rfl
@[go_sem] theorem kindT_10 : kindT Try.prog 10 = 3 := by kernel_rfl
@[go_sem] theorem hasT_10 : hasT Try.prog 10 = true := by kernel_rfl
@[go_sem] theorem zeroI_10 : zeroI Try.prog 10 = some [Go.Av.AV.lit (Go.Value.string ⟨#[]⟩)] := by kernel_rfl
@[go_sem] theorem tyI_11 : tyI Try.prog 11 = some { agg := false, size := 1, bytes := 16 } := by kernel_rfl
@[go_sem] theorem kindT_11 : kindT Try.prog 11 = 3 := by kernel_rfl
@[go_sem] theorem hasT_11 : hasT Try.prog 11 = true := by kernel_rfl
@[go_sem] theorem zeroI_11 : zeroI Try.prog 11 = some [Go.Av.AV.lit (Go.Value.string ⟨#[]⟩)] := by kernel_rfl
@[go_sem] theorem tyI_12 : tyI Try.prog 12 = some { agg := false, size := 1, bytes := 8 } := by kernel_rfl
@[go_sem] theorem kindT_12 : kindT Try.prog 12 = 2 := by kernel_rfl
@[go_sem] theorem intT_12 : intT Try.prog 12 = some Go.IntKind.u64 := by kernel_rfl
@[go_sem] theorem hasT_12 : hasT Try.prog 12 = true := by kernel_rfl
@[go_sem] theorem zeroI_12 : zeroI Try.prog 12 = some [Go.Av.AV.lit (Go.Value.int Go.IntKind.u64 0)] := by kernel_rfl
@[go_sem] theorem tyI_13 : tyI Try.prog 13 = some { agg := true, size := 2, bytes := 24 } := by kernel_rfl
@[go_sem] theorem kindT_13 : kindT Try.prog 13 = 6 := by kernel_rfl
@[go_sem] theorem hasT_13 : hasT Try.prog 13 = true := by kernel_rfl
@[go_sem] theorem zeroI_13 : zeroI Try.prog 13 = some [Go.Av.AV.lit (Go.Value.string ⟨#[]⟩), Go.Av.AV.lit (Go.Value.int Go.IntKind.u64 0)] := by kernel_rfl
@[go_sem] theorem bldT_13 : bldT Try.prog 13 = true := by kernel_rfl
@[go_sem] theorem fld_13_0 : fldI Try.prog 13 0 = some (0, 1, false) := by kernel_rfl
@[go_sem] theorem fld_13_1 : fldI Try.prog 13 1 = some (1, 1, false) := by kernel_rfl
@[go_sem] theorem tyI_14 : tyI Try.prog 14 = some { agg := true, size := 2, bytes := 24 } := by kernel_rfl
@[go_sem] theorem kindT_14 : kindT Try.prog 14 = 6 := by kernel_rfl
@[go_sem] theorem hasT_14 : hasT Try.prog 14 = true := by kernel_rfl
@[go_sem] theorem zeroI_14 : zeroI Try.prog 14 = some [Go.Av.AV.lit (Go.Value.string ⟨#[]⟩), Go.Av.AV.lit (Go.Value.int Go.IntKind.u64 0)] := by kernel_rfl
@[go_sem] theorem bldT_14 : bldT Try.prog 14 = true := by kernel_rfl
@[go_sem] theorem fld_14_0 : fldI Try.prog 14 0 = some (0, 1, false) := by kernel_rfl
@[go_sem] theorem fld_14_1 : fldI Try.prog 14 1 = some (1, 1, false) := by kernel_rfl
@[go_sem] theorem tyI_15 : tyI Try.prog 15 = some { agg := false, size := 1, bytes := 8 } := by kernel_rfl
@[go_sem] theorem kindT_15 : kindT Try.prog 15 = 4 := by kernel_rfl
@[go_sem] theorem hasT_15 : hasT Try.prog 15 = true := by kernel_rfl
@[go_sem] theorem zeroI_15 : zeroI Try.prog 15 = some [Go.Av.AV.lit (Go.Value.pointer none)] := by kernel_rfl
@[go_sem] theorem tyI_16 : tyI Try.prog 16 = some { agg := false, size := 1, bytes := 8 } := by kernel_rfl
@[go_sem] theorem kindT_16 : kindT Try.prog 16 = 4 := by kernel_rfl
@[go_sem] theorem hasT_16 : hasT Try.prog 16 = true := by kernel_rfl
@[go_sem] theorem zeroI_16 : zeroI Try.prog 16 = some [Go.Av.AV.lit (Go.Value.pointer none)] := by kernel_rfl
@[go_sem] theorem tyI_17 : tyI Try.prog 17 = some { agg := false, size := 1, bytes := 8 } := by kernel_rfl
@[go_sem] theorem kindT_17 : kindT Try.prog 17 = 4 := by kernel_rfl
@[go_sem] theorem hasT_17 : hasT Try.prog 17 = true := by kernel_rfl
@[go_sem] theorem zeroI_17 : zeroI Try.prog 17 = some [Go.Av.AV.lit (Go.Value.pointer none)] := by kernel_rfl
@[go_sem] theorem tyI_18 : tyI Try.prog 18 = some { agg := true, size := 1, bytes := 8 } := by kernel_rfl
@[go_sem] theorem kindT_18 : kindT Try.prog 18 = 6 := by kernel_rfl
@[go_sem] theorem hasT_18 : hasT Try.prog 18 = true := by kernel_rfl
@[go_sem] theorem zeroI_18 : zeroI Try.prog 18 = some [Go.Av.AV.lit (Go.Value.pointer none)] := by kernel_rfl
@[go_sem] theorem bldT_18 : bldT Try.prog 18 = true := by kernel_rfl
@[go_sem] theorem fld_18_0 : fldI Try.prog 18 0 = some (0, 1, false) := by kernel_rfl
@[go_sem] theorem tyI_19 : tyI Try.prog 19 = some { agg := true, size := 1, bytes := 8 } := by kernel_rfl
@[go_sem] theorem kindT_19 : kindT Try.prog 19 = 6 := by kernel_rfl
@[go_sem] theorem hasT_19 : hasT Try.prog 19 = true := by kernel_rfl
@[go_sem] theorem zeroI_19 : zeroI Try.prog 19 = some [Go.Av.AV.lit (Go.Value.pointer none)] := by kernel_rfl
@[go_sem] theorem bldT_19 : bldT Try.prog 19 = true := by kernel_rfl
@[go_sem] theorem fld_19_0 : fldI Try.prog 19 0 = some (0, 1, false) := by kernel_rfl
@[go_sem] theorem tyI_20 : tyI Try.prog 20 = some { agg := false, size := 1, bytes := 16 } := by kernel_rfl
@[go_sem] theorem kindT_20 : kindT Try.prog 20 = 0 := by kernel_rfl
@[go_sem] theorem hasT_20 : hasT Try.prog 20 = true := by kernel_rfl
@[go_sem] theorem zeroI_20 : zeroI Try.prog 20 = some [Go.Av.AV.lit Go.Value.nilIface] := by kernel_rfl
@[go_sem] theorem tyI_21 : tyI Try.prog 21 = some { agg := false, size := 1, bytes := 4 } := by kernel_rfl
@[go_sem] theorem kindT_21 : kindT Try.prog 21 = 2 := by kernel_rfl
@[go_sem] theorem intT_21 : intT Try.prog 21 = some Go.IntKind.i32 := by kernel_rfl
@[go_sem] theorem hasT_21 : hasT Try.prog 21 = true := by kernel_rfl
@[go_sem] theorem zeroI_21 : zeroI Try.prog 21 = some [Go.Av.AV.lit (Go.Value.int Go.IntKind.i32 0)] := by kernel_rfl
@[go_sem] theorem tyI_22 : tyI Try.prog 22 = some { agg := false, size := 1, bytes := 24 } := by kernel_rfl
@[go_sem] theorem slT_22 : slT Try.prog 22 = some 26 := by kernel_rfl
@[go_sem] theorem kindT_22 : kindT Try.prog 22 = 5 := by kernel_rfl
@[go_sem] theorem hasT_22 : hasT Try.prog 22 = true := by kernel_rfl
@[go_sem] theorem zeroI_22 : zeroI Try.prog 22 = some [Go.Av.AV.isl (some true) [] Go.Av.Tk.full] := by kernel_rfl
@[go_sem] theorem tyI_23 : tyI Try.prog 23 = some { agg := true, size := 2, bytes := 32 } := by kernel_rfl
@[go_sem] theorem kindT_23 : kindT Try.prog 23 = 6 := by kernel_rfl
@[go_sem] theorem hasT_23 : hasT Try.prog 23 = true := by kernel_rfl
@[go_sem] theorem zeroI_23 : zeroI Try.prog 23 = some [Go.Av.AV.lit (Go.Value.int Go.IntKind.i64 0), Go.Av.AV.isl (some true) [] Go.Av.Tk.full] := by kernel_rfl
@[go_sem] theorem bldT_23 : bldT Try.prog 23 = true := by kernel_rfl
@[go_sem] theorem fld_23_0 : fldI Try.prog 23 0 = some (0, 1, false) := by kernel_rfl
@[go_sem] theorem fld_23_1 : fldI Try.prog 23 1 = some (1, 1, false) := by kernel_rfl
@[go_sem] theorem tyI_24 : tyI Try.prog 24 = some { agg := true, size := 2, bytes := 32 } := by kernel_rfl
@[go_sem] theorem kindT_24 : kindT Try.prog 24 = 6 := by kernel_rfl
@[go_sem] theorem hasT_24 : hasT Try.prog 24 = true := by kernel_rfl
@[go_sem] theorem zeroI_24 : zeroI Try.prog 24 = some [Go.Av.AV.lit (Go.Value.int Go.IntKind.i64 0), Go.Av.AV.isl (some true) [] Go.Av.Tk.full] := by kernel_rfl
@[go_sem] theorem bldT_24 : bldT Try.prog 24 = true := by kernel_rfl
@[go_sem] theorem fld_24_0 : fldI Try.prog 24 0 = some (0, 1, false) := by kernel_rfl
@[go_sem] theorem fld_24_1 : fldI Try.prog 24 1 = some (1, 1, false) := by kernel_rfl
@[go_sem] theorem tyI_25 : tyI Try.prog 25 = some { agg := false, size := 1, bytes := 8 } := by kernel_rfl
@[go_sem] theorem kindT_25 : kindT Try.prog 25 = 9 := by kernel_rfl
@[go_sem] theorem hasT_25 : hasT Try.prog 25 = true := by kernel_rfl
@[go_sem] theorem zeroI_25 : zeroI Try.prog 25 = some [Go.Av.AV.lit Go.Value.nilFunc] := by kernel_rfl
@[go_sem] theorem tyI_26 : tyI Try.prog 26 = some { agg := false, size := 1, bytes := 24 } := by kernel_rfl
@[go_sem] theorem slT_26 : slT Try.prog 26 = some 3 := by kernel_rfl
@[go_sem] theorem kindT_26 : kindT Try.prog 26 = 5 := by kernel_rfl
@[go_sem] theorem hasT_26 : hasT Try.prog 26 = true := by kernel_rfl
@[go_sem] theorem zeroI_26 : zeroI Try.prog 26 = some [Go.Av.AV.isl (some true) [] Go.Av.Tk.full] := by kernel_rfl
@[go_sem] theorem tyI_27 : tyI Try.prog 27 = some { agg := false, size := 1, bytes := 8 } := by kernel_rfl
@[go_sem] theorem kindT_27 : kindT Try.prog 27 = 2 := by kernel_rfl
@[go_sem] theorem intT_27 : intT Try.prog 27 = some Go.IntKind.i64 := by kernel_rfl
@[go_sem] theorem hasT_27 : hasT Try.prog 27 = true := by kernel_rfl
@[go_sem] theorem zeroI_27 : zeroI Try.prog 27 = some [Go.Av.AV.lit (Go.Value.int Go.IntKind.i64 0)] := by kernel_rfl
@[go_sem] theorem tyI_28 : tyI Try.prog 28 = some { agg := false, size := 1, bytes := 0 } := by kernel_rfl
@[go_sem] theorem kindT_28 : kindT Try.prog 28 = 0 := by kernel_rfl
@[go_sem] theorem hasT_28 : hasT Try.prog 28 = true := by kernel_rfl
@[go_sem] theorem tyI_29 : tyI Try.prog 29 = some { agg := false, size := 1, bytes := 8 } := by kernel_rfl
@[go_sem] theorem kindT_29 : kindT Try.prog 29 = 9 := by kernel_rfl
@[go_sem] theorem hasT_29 : hasT Try.prog 29 = true := by kernel_rfl
@[go_sem] theorem zeroI_29 : zeroI Try.prog 29 = some [Go.Av.AV.lit Go.Value.nilFunc] := by kernel_rfl
@[go_sem] theorem tyI_30 : tyI Try.prog 30 = some { agg := false, size := 1, bytes := 8 } := by kernel_rfl
@[go_sem] theorem kindT_30 : kindT Try.prog 30 = 9 := by kernel_rfl
@[go_sem] theorem hasT_30 : hasT Try.prog 30 = true := by kernel_rfl
@[go_sem] theorem zeroI_30 : zeroI Try.prog 30 = some [Go.Av.AV.lit Go.Value.nilFunc] := by kernel_rfl
@[go_sem] theorem tyI_31 : tyI Try.prog 31 = some { agg := false, size := 1, bytes := 8 } := by kernel_rfl
@[go_sem] theorem kindT_31 : kindT Try.prog 31 = 9 := by kernel_rfl
@[go_sem] theorem hasT_31 : hasT Try.prog 31 = true := by kernel_rfl
@[go_sem] theorem zeroI_31 : zeroI Try.prog 31 = some [Go.Av.AV.lit Go.Value.nilFunc] := by kernel_rfl
@[go_sem] theorem tyI_32 : tyI Try.prog 32 = some { agg := false, size := 1, bytes := 8 } := by kernel_rfl
@[go_sem] theorem kindT_32 : kindT Try.prog 32 = 9 := by kernel_rfl
@[go_sem] theorem hasT_32 : hasT Try.prog 32 = true := by kernel_rfl
@[go_sem] theorem zeroI_32 : zeroI Try.prog 32 = some [Go.Av.AV.lit Go.Value.nilFunc] := by kernel_rfl
@[go_sem] theorem tyI_33 : tyI Try.prog 33 = some { agg := false, size := 1, bytes := 0 } := by kernel_rfl
@[go_sem] theorem kindT_33 : kindT Try.prog 33 = 0 := by kernel_rfl
@[go_sem] theorem hasT_33 : hasT Try.prog 33 = true := by kernel_rfl
@[go_sem] theorem tyI_34 : tyI Try.prog 34 = some { agg := false, size := 1, bytes := 8 } := by kernel_rfl
@[go_sem] theorem kindT_34 : kindT Try.prog 34 = 9 := by kernel_rfl
@[go_sem] theorem hasT_34 : hasT Try.prog 34 = true := by kernel_rfl
@[go_sem] theorem zeroI_34 : zeroI Try.prog 34 = some [Go.Av.AV.lit Go.Value.nilFunc] := by kernel_rfl
@[go_sem] theorem tyI_35 : tyI Try.prog 35 = some { agg := false, size := 1, bytes := 8 } := by kernel_rfl
@[go_sem] theorem kindT_35 : kindT Try.prog 35 = 9 := by kernel_rfl
@[go_sem] theorem hasT_35 : hasT Try.prog 35 = true := by kernel_rfl
@[go_sem] theorem zeroI_35 : zeroI Try.prog 35 = some [Go.Av.AV.lit Go.Value.nilFunc] := by kernel_rfl
@[go_sem] theorem tyI_36 : tyI Try.prog 36 = some { agg := false, size := 1, bytes := 8 } := by kernel_rfl
@[go_sem] theorem kindT_36 : kindT Try.prog 36 = 9 := by kernel_rfl
@[go_sem] theorem hasT_36 : hasT Try.prog 36 = true := by kernel_rfl
@[go_sem] theorem zeroI_36 : zeroI Try.prog 36 = some [Go.Av.AV.lit Go.Value.nilFunc] := by kernel_rfl
@[go_sem] theorem tyI_37 : tyI Try.prog 37 = some { agg := false, size := 1, bytes := 8 } := by kernel_rfl
@[go_sem] theorem kindT_37 : kindT Try.prog 37 = 9 := by kernel_rfl
@[go_sem] theorem hasT_37 : hasT Try.prog 37 = true := by kernel_rfl
@[go_sem] theorem zeroI_37 : zeroI Try.prog 37 = some [Go.Av.AV.lit Go.Value.nilFunc] := by kernel_rfl
@[go_sem] theorem tyI_38 : tyI Try.prog 38 = some { agg := false, size := 1, bytes := 8 } := by kernel_rfl
@[go_sem] theorem kindT_38 : kindT Try.prog 38 = 9 := by kernel_rfl
@[go_sem] theorem hasT_38 : hasT Try.prog 38 = true := by kernel_rfl
@[go_sem] theorem zeroI_38 : zeroI Try.prog 38 = some [Go.Av.AV.lit Go.Value.nilFunc] := by kernel_rfl
@[go_sem] theorem tyI_39 : tyI Try.prog 39 = some { agg := false, size := 1, bytes := 2 } := by kernel_rfl
@[go_sem] theorem kindT_39 : kindT Try.prog 39 = 2 := by kernel_rfl
@[go_sem] theorem intT_39 : intT Try.prog 39 = some Go.IntKind.u16 := by kernel_rfl
@[go_sem] theorem hasT_39 : hasT Try.prog 39 = true := by kernel_rfl
@[go_sem] theorem zeroI_39 : zeroI Try.prog 39 = some [Go.Av.AV.lit (Go.Value.int Go.IntKind.u16 0)] := by kernel_rfl
@[go_sem] theorem tyI_40 : tyI Try.prog 40 = some { agg := true, size := 2, bytes := 24 } := by kernel_rfl
@[go_sem] theorem kindT_40 : kindT Try.prog 40 = 6 := by kernel_rfl
@[go_sem] theorem hasT_40 : hasT Try.prog 40 = true := by kernel_rfl
@[go_sem] theorem zeroI_40 : zeroI Try.prog 40 = some [Go.Av.AV.lit (Go.Value.string ⟨#[]⟩), Go.Av.AV.lit (Go.Value.bool false)] := by kernel_rfl
@[go_sem] theorem bldT_40 : bldT Try.prog 40 = true := by kernel_rfl
@[go_sem] theorem eqT_40 : eqT Try.prog 40 = some [(0, 3), (1, 1)] := by kernel_rfl
@[go_sem] theorem fld_40_0 : fldI Try.prog 40 0 = some (0, 1, false) := by kernel_rfl
@[go_sem] theorem fld_40_1 : fldI Try.prog 40 1 = some (1, 1, false) := by kernel_rfl
@[go_sem] theorem tyI_41 : tyI Try.prog 41 = some { agg := true, size := 2, bytes := 24 } := by kernel_rfl
@[go_sem] theorem kindT_41 : kindT Try.prog 41 = 6 := by kernel_rfl
@[go_sem] theorem hasT_41 : hasT Try.prog 41 = true := by kernel_rfl
@[go_sem] theorem zeroI_41 : zeroI Try.prog 41 = some [Go.Av.AV.lit (Go.Value.string ⟨#[]⟩), Go.Av.AV.lit (Go.Value.bool false)] := by kernel_rfl
@[go_sem] theorem bldT_41 : bldT Try.prog 41 = true := by kernel_rfl
@[go_sem] theorem eqT_41 : eqT Try.prog 41 = some [(0, 3), (1, 1)] := by kernel_rfl
@[go_sem] theorem fld_41_0 : fldI Try.prog 41 0 = some (0, 1, false) := by kernel_rfl
@[go_sem] theorem fld_41_1 : fldI Try.prog 41 1 = some (1, 1, false) := by kernel_rfl
@[go_sem] theorem tyI_42 : tyI Try.prog 42 = some { agg := false, size := 1, bytes := 24 } := by kernel_rfl
@[go_sem] theorem slT_42 : slT Try.prog 42 = some 41 := by kernel_rfl
@[go_sem] theorem kindT_42 : kindT Try.prog 42 = 5 := by kernel_rfl
@[go_sem] theorem hasT_42 : hasT Try.prog 42 = true := by kernel_rfl
@[go_sem] theorem zeroI_42 : zeroI Try.prog 42 = some [Go.Av.AV.isl (some true) [] Go.Av.Tk.full] := by kernel_rfl
@[go_sem] theorem tyI_43 : tyI Try.prog 43 = some { agg := false, size := 1, bytes := 24 } := by kernel_rfl
@[go_sem] theorem slT_43 : slT Try.prog 43 = some 4 := by kernel_rfl
@[go_sem] theorem kindT_43 : kindT Try.prog 43 = 5 := by kernel_rfl
@[go_sem] theorem hasT_43 : hasT Try.prog 43 = true := by kernel_rfl
@[go_sem] theorem zeroI_43 : zeroI Try.prog 43 = some [Go.Av.AV.isl (some true) [] Go.Av.Tk.full] := by kernel_rfl
@[go_sem] theorem tyI_44 : tyI Try.prog 44 = some { agg := true, size := 3, bytes := 72 } := by kernel_rfl
@[go_sem] theorem kindT_44 : kindT Try.prog 44 = 6 := by kernel_rfl
@[go_sem] theorem hasT_44 : hasT Try.prog 44 = true := by kernel_rfl
@[go_sem] theorem zeroI_44 : zeroI Try.prog 44 = some [Go.Av.AV.isl (some true) [] Go.Av.Tk.full, Go.Av.AV.isl (some true) [] Go.Av.Tk.full, Go.Av.AV.isl (some true) [] Go.Av.Tk.full] := by kernel_rfl
@[go_sem] theorem bldT_44 : bldT Try.prog 44 = true := by kernel_rfl
@[go_sem] theorem fld_44_0 : fldI Try.prog 44 0 = some (0, 1, false) := by kernel_rfl
@[go_sem] theorem fld_44_1 : fldI Try.prog 44 1 = some (1, 1, false) := by kernel_rfl
@[go_sem] theorem fld_44_2 : fldI Try.prog 44 2 = some (2, 1, false) := by kernel_rfl
@[go_sem] theorem tyI_45 : tyI Try.prog 45 = some { agg := true, size := 3, bytes := 72 } := by kernel_rfl
@[go_sem] theorem kindT_45 : kindT Try.prog 45 = 6 := by kernel_rfl
@[go_sem] theorem hasT_45 : hasT Try.prog 45 = true := by kernel_rfl
@[go_sem] theorem zeroI_45 : zeroI Try.prog 45 = some [Go.Av.AV.isl (some true) [] Go.Av.Tk.full, Go.Av.AV.isl (some true) [] Go.Av.Tk.full, Go.Av.AV.isl (some true) [] Go.Av.Tk.full] := by kernel_rfl
@[go_sem] theorem bldT_45 : bldT Try.prog 45 = true := by kernel_rfl
@[go_sem] theorem fld_45_0 : fldI Try.prog 45 0 = some (0, 1, false) := by kernel_rfl
@[go_sem] theorem fld_45_1 : fldI Try.prog 45 1 = some (1, 1, false) := by kernel_rfl
@[go_sem] theorem fld_45_2 : fldI Try.prog 45 2 = some (2, 1, false) := by kernel_rfl
@[go_sem] theorem tyI_46 : tyI Try.prog 46 = some { agg := false, size := 1, bytes := 8 } := by kernel_rfl
@[go_sem] theorem kindT_46 : kindT Try.prog 46 = 2 := by kernel_rfl
@[go_sem] theorem intT_46 : intT Try.prog 46 = some Go.IntKind.u64 := by kernel_rfl
@[go_sem] theorem hasT_46 : hasT Try.prog 46 = true := by kernel_rfl
@[go_sem] theorem zeroI_46 : zeroI Try.prog 46 = some [Go.Av.AV.lit (Go.Value.int Go.IntKind.u64 0)] := by kernel_rfl
@[go_sem] theorem tyI_47 : tyI Try.prog 47 = some { agg := false, size := 1, bytes := 8 } := by kernel_rfl
@[go_sem] theorem kindT_47 : kindT Try.prog 47 = 9 := by kernel_rfl
@[go_sem] theorem hasT_47 : hasT Try.prog 47 = true := by kernel_rfl
@[go_sem] theorem zeroI_47 : zeroI Try.prog 47 = some [Go.Av.AV.lit Go.Value.nilFunc] := by kernel_rfl
@[go_sem] theorem tyI_48 : tyI Try.prog 48 = some { agg := false, size := 1, bytes := 8 } := by kernel_rfl
@[go_sem] theorem kindT_48 : kindT Try.prog 48 = 9 := by kernel_rfl
@[go_sem] theorem hasT_48 : hasT Try.prog 48 = true := by kernel_rfl
@[go_sem] theorem zeroI_48 : zeroI Try.prog 48 = some [Go.Av.AV.lit Go.Value.nilFunc] := by kernel_rfl
@[go_sem] theorem tyI_49 : tyI Try.prog 49 = some { agg := false, size := 1, bytes := 8 } := by kernel_rfl
@[go_sem] theorem kindT_49 : kindT Try.prog 49 = 9 := by kernel_rfl
@[go_sem] theorem hasT_49 : hasT Try.prog 49 = true := by kernel_rfl
@[go_sem] theorem zeroI_49 : zeroI Try.prog 49 = some [Go.Av.AV.lit Go.Value.nilFunc] := by kernel_rfl
@[go_sem] theorem tyI_50 : tyI Try.prog 50 = some { agg := false, size := 1, bytes := 0 } := by kernel_rfl
@[go_sem] theorem kindT_50 : kindT Try.prog 50 = 0 := by kernel_rfl
@[go_sem] theorem hasT_50 : hasT Try.prog 50 = true := by kernel_rfl
@[go_sem] theorem tyI_51 : tyI Try.prog 51 = some { agg := false, size := 1, bytes := 8 } := by kernel_rfl
@[go_sem] theorem kindT_51 : kindT Try.prog 51 = 9 := by kernel_rfl
@[go_sem] theorem hasT_51 : hasT Try.prog 51 = true := by kernel_rfl
@[go_sem] theorem zeroI_51 : zeroI Try.prog 51 = some [Go.Av.AV.lit Go.Value.nilFunc] := by kernel_rfl
@[go_sem] theorem tyI_52 : tyI Try.prog 52 = some { agg := false, size := 1, bytes := 8 } := by kernel_rfl
@[go_sem] theorem kindT_52 : kindT Try.prog 52 = 9 := by kernel_rfl
@[go_sem] theorem hasT_52 : hasT Try.prog 52 = true := by kernel_rfl
@[go_sem] theorem zeroI_52 : zeroI Try.prog 52 = some [Go.Av.AV.lit Go.Value.nilFunc] := by kernel_rfl
@[go_sem] theorem tyI_53 : tyI Try.prog 53 = some { agg := false, size := 1, bytes := 8 } := by kernel_rfl
@[go_sem] theorem kindT_53 : kindT Try.prog 53 = 9 := by kernel_rfl
@[go_sem] theorem hasT_53 : hasT Try.prog 53 = true := by kernel_rfl
@[go_sem] theorem zeroI_53 : zeroI Try.prog 53 = some [Go.Av.AV.lit Go.Value.nilFunc] := by kernel_rfl
@[go_sem] theorem tyI_54 : tyI Try.prog 54 = some { agg := false, size := 1, bytes := 8 } := by kernel_rfl
@[go_sem] theorem kindT_54 : kindT Try.prog 54 = 9 := by kernel_rfl
@[go_sem] theorem hasT_54 : hasT Try.prog 54 = true := by kernel_rfl
@[go_sem] theorem zeroI_54 : zeroI Try.prog 54 = some [Go.Av.AV.lit Go.Value.nilFunc] := by kernel_rfl
@[go_sem] theorem tyI_55 : tyI Try.prog 55 = some { agg := false, size := 1, bytes := 8 } := by kernel_rfl
@[go_sem] theorem kindT_55 : kindT Try.prog 55 = 9 := by kernel_rfl
@[go_sem] theorem hasT_55 : hasT Try.prog 55 = true := by kernel_rfl
@[go_sem] theorem zeroI_55 : zeroI Try.prog 55 = some [Go.Av.AV.lit Go.Value.nilFunc] := by kernel_rfl
@[go_sem] theorem tyI_56 : tyI Try.prog 56 = some { agg := false, size := 1, bytes := 0 } := by kernel_rfl
@[go_sem] theorem kindT_56 : kindT Try.prog 56 = 0 := by kernel_rfl
@[go_sem] theorem hasT_56 : hasT Try.prog 56 = true := by kernel_rfl
@[go_sem] theorem tyI_57 : tyI Try.prog 57 = some { agg := false, size := 1, bytes := 8 } := by kernel_rfl
@[go_sem] theorem kindT_57 : kindT Try.prog 57 = 9 := by kernel_rfl
@[go_sem] theorem hasT_57 : hasT Try.prog 57 = true := by kernel_rfl
@[go_sem] theorem zeroI_57 : zeroI Try.prog 57 = some [Go.Av.AV.lit Go.Value.nilFunc] := by kernel_rfl
@[go_sem] theorem tyI_58 : tyI Try.prog 58 = some { agg := false, size := 1, bytes := 8 } := by kernel_rfl
@[go_sem] theorem kindT_58 : kindT Try.prog 58 = 9 := by kernel_rfl
@[go_sem] theorem hasT_58 : hasT Try.prog 58 = true := by kernel_rfl
@[go_sem] theorem zeroI_58 : zeroI Try.prog 58 = some [Go.Av.AV.lit Go.Value.nilFunc] := by kernel_rfl
@[go_sem] theorem tyI_59 : tyI Try.prog 59 = some { agg := false, size := 1, bytes := 8 } := by kernel_rfl
@[go_sem] theorem kindT_59 : kindT Try.prog 59 = 9 := by kernel_rfl
@[go_sem] theorem hasT_59 : hasT Try.prog 59 = true := by kernel_rfl
@[go_sem] theorem zeroI_59 : zeroI Try.prog 59 = some [Go.Av.AV.lit Go.Value.nilFunc] := by kernel_rfl
@[go_sem] theorem tyI_60 : tyI Try.prog 60 = some { agg := false, size := 1, bytes := 0 } := by kernel_rfl
@[go_sem] theorem kindT_60 : kindT Try.prog 60 = 0 := by kernel_rfl
@[go_sem] theorem hasT_60 : hasT Try.prog 60 = true := by kernel_rfl
@[go_sem] theorem tyI_61 : tyI Try.prog 61 = some { agg := false, size := 1, bytes := 8 } := by kernel_rfl
@[go_sem] theorem kindT_61 : kindT Try.prog 61 = 9 := by kernel_rfl
@[go_sem] theorem hasT_61 : hasT Try.prog 61 = true := by kernel_rfl
@[go_sem] theorem zeroI_61 : zeroI Try.prog 61 = some [Go.Av.AV.lit Go.Value.nilFunc] := by kernel_rfl
@[go_sem] theorem tyI_62 : tyI Try.prog 62 = some { agg := false, size := 1, bytes := 8 } := by kernel_rfl
@[go_sem] theorem kindT_62 : kindT Try.prog 62 = 9 := by kernel_rfl
@[go_sem] theorem hasT_62 : hasT Try.prog 62 = true := by kernel_rfl
@[go_sem] theorem zeroI_62 : zeroI Try.prog 62 = some [Go.Av.AV.lit Go.Value.nilFunc] := by kernel_rfl
@[go_sem] theorem tyI_63 : tyI Try.prog 63 = some { agg := false, size := 1, bytes := 24 } := by kernel_rfl
@[go_sem] theorem slT_63 : slT Try.prog 63 = some 65 := by kernel_rfl
@[go_sem] theorem kindT_63 : kindT Try.prog 63 = 5 := by kernel_rfl
@[go_sem] theorem hasT_63 : hasT Try.prog 63 = true := by kernel_rfl
@[go_sem] theorem zeroI_63 : zeroI Try.prog 63 = some [Go.Av.AV.isl (some true) [] Go.Av.Tk.full] := by kernel_rfl
@[go_sem] theorem tyI_64 : tyI Try.prog 64 = some { agg := true, size := 4, bytes := 56 } := by kernel_rfl
@[go_sem] theorem kindT_64 : kindT Try.prog 64 = 6 := by kernel_rfl
@[go_sem] theorem hasT_64 : hasT Try.prog 64 = true := by kernel_rfl
@[go_sem] theorem zeroI_64 : zeroI Try.prog 64 = some [Go.Av.AV.lit (Go.Value.int Go.IntKind.i64 0), Go.Av.AV.lit (Go.Value.string ⟨#[]⟩), Go.Av.AV.lit (Go.Value.bool false), Go.Av.AV.isl (some true) [] Go.Av.Tk.full] := by kernel_rfl
@[go_sem] theorem bldT_64 : bldT Try.prog 64 = true := by kernel_rfl
@[go_sem] theorem fld_64_0 : fldI Try.prog 64 0 = some (0, 1, false) := by kernel_rfl
@[go_sem] theorem fld_64_1 : fldI Try.prog 64 1 = some (1, 2, true) := by kernel_rfl
@[go_sem] theorem fld_64_2 : fldI Try.prog 64 2 = some (3, 1, false) := by kernel_rfl
@[go_sem] theorem tyI_65 : tyI Try.prog 65 = some { agg := true, size := 4, bytes := 56 } := by kernel_rfl
@[go_sem] theorem kindT_65 : kindT Try.prog 65 = 6 := by kernel_rfl
@[go_sem] theorem hasT_65 : hasT Try.prog 65 = true := by kernel_rfl
@[go_sem] theorem zeroI_65 : zeroI Try.prog 65 = some [Go.Av.AV.lit (Go.Value.int Go.IntKind.i64 0), Go.Av.AV.lit (Go.Value.string ⟨#[]⟩), Go.Av.AV.lit (Go.Value.bool false), Go.Av.AV.isl (some true) [] Go.Av.Tk.full] := by kernel_rfl
@[go_sem] theorem bldT_65 : bldT Try.prog 65 = true := by kernel_rfl
@[go_sem] theorem fld_65_0 : fldI Try.prog 65 0 = some (0, 1, false) := by kernel_rfl
@[go_sem] theorem fld_65_1 : fldI Try.prog 65 1 = some (1, 2, true) := by kernel_rfl
@[go_sem] theorem fld_65_2 : fldI Try.prog 65 2 = some (3, 1, false) := by kernel_rfl
@[go_sem] theorem tyI_66 : tyI Try.prog 66 = some { agg := false, size := 1, bytes := 8 } := by kernel_rfl
@[go_sem] theorem kindT_66 : kindT Try.prog 66 = 9 := by kernel_rfl
@[go_sem] theorem hasT_66 : hasT Try.prog 66 = true := by kernel_rfl
@[go_sem] theorem zeroI_66 : zeroI Try.prog 66 = some [Go.Av.AV.lit Go.Value.nilFunc] := by kernel_rfl
@[go_sem] theorem tyI_67 : tyI Try.prog 67 = some { agg := false, size := 1, bytes := 8 } := by kernel_rfl
@[go_sem] theorem kindT_67 : kindT Try.prog 67 = 9 := by kernel_rfl
@[go_sem] theorem hasT_67 : hasT Try.prog 67 = true := by kernel_rfl
@[go_sem] theorem zeroI_67 : zeroI Try.prog 67 = some [Go.Av.AV.lit Go.Value.nilFunc] := by kernel_rfl
@[go_sem] theorem tyI_68 : tyI Try.prog 68 = some { agg := false, size := 1, bytes := 0 } := by kernel_rfl
@[go_sem] theorem kindT_68 : kindT Try.prog 68 = 0 := by kernel_rfl
@[go_sem] theorem hasT_68 : hasT Try.prog 68 = true := by kernel_rfl
@[go_sem] theorem tyI_69 : tyI Try.prog 69 = some { agg := false, size := 1, bytes := 8 } := by kernel_rfl
@[go_sem] theorem kindT_69 : kindT Try.prog 69 = 9 := by kernel_rfl
@[go_sem] theorem hasT_69 : hasT Try.prog 69 = true := by kernel_rfl
@[go_sem] theorem zeroI_69 : zeroI Try.prog 69 = some [Go.Av.AV.lit Go.Value.nilFunc] := by kernel_rfl
@[go_sem] theorem tyI_70 : tyI Try.prog 70 = some { agg := false, size := 1, bytes := 8 } := by kernel_rfl
@[go_sem] theorem kindT_70 : kindT Try.prog 70 = 9 := by kernel_rfl
@[go_sem] theorem hasT_70 : hasT Try.prog 70 = true := by kernel_rfl
@[go_sem] theorem zeroI_70 : zeroI Try.prog 70 = some [Go.Av.AV.lit Go.Value.nilFunc] := by kernel_rfl
@[go_sem] theorem tyI_71 : tyI Try.prog 71 = some { agg := false, size := 1, bytes := 8 } := by kernel_rfl
@[go_sem] theorem kindT_71 : kindT Try.prog 71 = 9 := by kernel_rfl
@[go_sem] theorem hasT_71 : hasT Try.prog 71 = true := by kernel_rfl
@[go_sem] theorem zeroI_71 : zeroI Try.prog 71 = some [Go.Av.AV.lit Go.Value.nilFunc] := by kernel_rfl
@[go_sem] theorem tyI_72 : tyI Try.prog 72 = some { agg := false, size := 1, bytes := 8 } := by kernel_rfl
@[go_sem] theorem kindT_72 : kindT Try.prog 72 = 9 := by kernel_rfl
@[go_sem] theorem hasT_72 : hasT Try.prog 72 = true := by kernel_rfl
@[go_sem] theorem zeroI_72 : zeroI Try.prog 72 = some [Go.Av.AV.lit Go.Value.nilFunc] := by kernel_rfl
@[go_sem] theorem tyI_73 : tyI Try.prog 73 = some { agg := false, size := 1, bytes := 8 } := by kernel_rfl
@[go_sem] theorem kindT_73 : kindT Try.prog 73 = 9 := by kernel_rfl
@[go_sem] theorem hasT_73 : hasT Try.prog 73 = true := by kernel_rfl
@[go_sem] theorem zeroI_73 : zeroI Try.prog 73 = some [Go.Av.AV.lit Go.Value.nilFunc] := by kernel_rfl
@[go_sem] theorem tyI_74 : tyI Try.prog 74 = some { agg := false, size := 1, bytes := 8 } := by kernel_rfl
@[go_sem] theorem kindT_74 : kindT Try.prog 74 = 9 := by kernel_rfl
@[go_sem] theorem hasT_74 : hasT Try.prog 74 = true := by kernel_rfl
@[go_sem] theorem zeroI_74 : zeroI Try.prog 74 = some [Go.Av.AV.lit Go.Value.nilFunc] := by kernel_rfl
@[go_sem] theorem tyI_75 : tyI Try.prog 75 = some { agg := false, size := 1, bytes := 8 } := by kernel_rfl
@[go_sem] theorem kindT_75 : kindT Try.prog 75 = 9 := by kernel_rfl
@[go_sem] theorem hasT_75 : hasT Try.prog 75 = true := by kernel_rfl
@[go_sem] theorem zeroI_75 : zeroI Try.prog 75 = some [Go.Av.AV.lit Go.Value.nilFunc] := by kernel_rfl
@[go_sem] theorem tyI_76 : tyI Try.prog 76 = some { agg := false, size := 1, bytes := 8 } := by kernel_rfl
@[go_sem] theorem kindT_76 : kindT Try.prog 76 = 9 := by kernel_rfl
@[go_sem] theorem hasT_76 : hasT Try.prog 76 = true := by kernel_rfl
@[go_sem] theorem zeroI_76 : zeroI Try.prog 76 = some [Go.Av.AV.lit Go.Value.nilFunc] := by kernel_rfl
@[go_sem] theorem tyI_77 : tyI Try.prog 77 = some { agg := false, size := 1, bytes := 8 } := by kernel_rfl
@[go_sem] theorem kindT_77 : kindT Try.prog 77 = 9 := by kernel_rfl
@[go_sem] theorem hasT_77 : hasT Try.prog 77 = true := by kernel_rfl
@[go_sem] theorem zeroI_77 : zeroI Try.prog 77 = some [Go.Av.AV.lit Go.Value.nilFunc] := by kernel_rfl
@[go_sem] theorem tyI_78 : tyI Try.prog 78 = some { agg := false, size := 1, bytes := 8 } := by kernel_rfl
@[go_sem] theorem kindT_78 : kindT Try.prog 78 = 9 := by kernel_rfl
@[go_sem] theorem hasT_78 : hasT Try.prog 78 = true := by kernel_rfl
@[go_sem] theorem zeroI_78 : zeroI Try.prog 78 = some [Go.Av.AV.lit Go.Value.nilFunc] := by kernel_rfl
@[go_sem] theorem tyI_79 : tyI Try.prog 79 = some { agg := false, size := 1, bytes := 8 } := by kernel_rfl
@[go_sem] theorem kindT_79 : kindT Try.prog 79 = 9 := by kernel_rfl
@[go_sem] theorem hasT_79 : hasT Try.prog 79 = true := by kernel_rfl
@[go_sem] theorem zeroI_79 : zeroI Try.prog 79 = some [Go.Av.AV.lit Go.Value.nilFunc] := by kernel_rfl
@[go_sem] theorem tyI_80 : tyI Try.prog 80 = some { agg := false, size := 1, bytes := 24 } := by kernel_rfl
@[go_sem] theorem slT_80 : slT Try.prog 80 = some 82 := by kernel_rfl
@[go_sem] theorem kindT_80 : kindT Try.prog 80 = 5 := by kernel_rfl
@[go_sem] theorem hasT_80 : hasT Try.prog 80 = true := by kernel_rfl
@[go_sem] theorem zeroI_80 : zeroI Try.prog 80 = some [Go.Av.AV.isl (some true) [] Go.Av.Tk.full] := by kernel_rfl
@[go_sem] theorem tyI_81 : tyI Try.prog 81 = some { agg := false, size := 1, bytes := 8 } := by kernel_rfl
@[go_sem] theorem kindT_81 : kindT Try.prog 81 = 9 := by kernel_rfl
@[go_sem] theorem hasT_81 : hasT Try.prog 81 = true := by kernel_rfl
@[go_sem] theorem zeroI_81 : zeroI Try.prog 81 = some [Go.Av.AV.lit Go.Value.nilFunc] := by kernel_rfl
@[go_sem] theorem tyI_82 : tyI Try.prog 82 = some { agg := false, size := 1, bytes := 8 } := by kernel_rfl
@[go_sem] theorem kindT_82 : kindT Try.prog 82 = 4 := by kernel_rfl
@[go_sem] theorem hasT_82 : hasT Try.prog 82 = true := by kernel_rfl
@[go_sem] theorem zeroI_82 : zeroI Try.prog 82 = some [Go.Av.AV.lit (Go.Value.pointer none)] := by kernel_rfl
@[go_sem] theorem tyI_83 : tyI Try.prog 83 = some { agg := false, size := 1, bytes := 8 } := by kernel_rfl
@[go_sem] theorem kindT_83 : kindT Try.prog 83 = 9 := by kernel_rfl
@[go_sem] theorem hasT_83 : hasT Try.prog 83 = true := by kernel_rfl
@[go_sem] theorem zeroI_83 : zeroI Try.prog 83 = some [Go.Av.AV.lit Go.Value.nilFunc] := by kernel_rfl
@[go_sem] theorem tyI_84 : tyI Try.prog 84 = some { agg := false, size := 1, bytes := 8 } := by kernel_rfl
@[go_sem] theorem kindT_84 : kindT Try.prog 84 = 9 := by kernel_rfl
@[go_sem] theorem hasT_84 : hasT Try.prog 84 = true := by kernel_rfl
@[go_sem] theorem zeroI_84 : zeroI Try.prog 84 = some [Go.Av.AV.lit Go.Value.nilFunc] := by kernel_rfl
@[go_sem] theorem tyI_85 : tyI Try.prog 85 = some { agg := false, size := 1, bytes := 8 } := by kernel_rfl
@[go_sem] theorem kindT_85 : kindT Try.prog 85 = 9 := by kernel_rfl
@[go_sem] theorem hasT_85 : hasT Try.prog 85 = true := by kernel_rfl
@[go_sem] theorem zeroI_85 : zeroI Try.prog 85 = some [Go.Av.AV.lit Go.Value.nilFunc] := by kernel_rfl
@[go_sem] theorem tyI_86 : tyI Try.prog 86 = some { agg := false, size := 1, bytes := 8 } := by kernel_rfl
@[go_sem] theorem kindT_86 : kindT Try.prog 86 = 9 := by kernel_rfl
@[go_sem] theorem hasT_86 : hasT Try.prog 86 = true := by kernel_rfl
@[go_sem] theorem zeroI_86 : zeroI Try.prog 86 = some [Go.Av.AV.lit Go.Value.nilFunc] := by kernel_rfl
@[go_sem] theorem tyI_87 : tyI Try.prog 87 = some { agg := false, size := 1, bytes := 24 } := by kernel_rfl
@[go_sem] theorem slT_87 : slT Try.prog 87 = some 46 := by kernel_rfl
@[go_sem] theorem kindT_87 : kindT Try.prog 87 = 5 := by kernel_rfl
@[go_sem] theorem hasT_87 : hasT Try.prog 87 = true := by kernel_rfl
@[go_sem] theorem zeroI_87 : zeroI Try.prog 87 = some [Go.Av.AV.isl (some true) [] Go.Av.Tk.full] := by kernel_rfl
@[go_sem] theorem tyI_88 : tyI Try.prog 88 = some { agg := false, size := 1, bytes := 24 } := by kernel_rfl
@[go_sem] theorem slT_88 : slT Try.prog 88 = some 87 := by kernel_rfl
@[go_sem] theorem kindT_88 : kindT Try.prog 88 = 5 := by kernel_rfl
@[go_sem] theorem hasT_88 : hasT Try.prog 88 = true := by kernel_rfl
@[go_sem] theorem zeroI_88 : zeroI Try.prog 88 = some [Go.Av.AV.isl (some true) [] Go.Av.Tk.full] := by kernel_rfl
@[go_sem] theorem tyI_89 : tyI Try.prog 89 = some { agg := false, size := 1, bytes := 8 } := by kernel_rfl
@[go_sem] theorem kindT_89 : kindT Try.prog 89 = 9 := by kernel_rfl
@[go_sem] theorem hasT_89 : hasT Try.prog 89 = true := by kernel_rfl
@[go_sem] theorem zeroI_89 : zeroI Try.prog 89 = some [Go.Av.AV.lit Go.Value.nilFunc] := by kernel_rfl
@[go_sem] theorem tyI_90 : tyI Try.prog 90 = some { agg := false, size := 1, bytes := 8 } := by kernel_rfl
@[go_sem] theorem kindT_90 : kindT Try.prog 90 = 9 := by kernel_rfl
@[go_sem] theorem hasT_90 : hasT Try.prog 90 = true := by kernel_rfl
@[go_sem] theorem zeroI_90 : zeroI Try.prog 90 = some [Go.Av.AV.lit Go.Value.nilFunc] := by kernel_rfl
@[go_sem] theorem tyI_91 : tyI Try.prog 91 = some { agg := false, size := 1, bytes := 0 } := by kernel_rfl
@[go_sem] theorem kindT_91 : kindT Try.prog 91 = 0 := by kernel_rfl
@[go_sem] theorem hasT_91 : hasT Try.prog 91 = true := by kernel_rfl
@[go_sem] theorem tyI_92 : tyI Try.prog 92 = some { agg := false, size := 1, bytes := 8 } := by kernel_rfl
@[go_sem] theorem kindT_92 : kindT Try.prog 92 = 9 := by kernel_rfl
@[go_sem] theorem hasT_92 : hasT Try.prog 92 = true := by kernel_rfl
@[go_sem] theorem zeroI_92 : zeroI Try.prog 92 = some [Go.Av.AV.lit Go.Value.nilFunc] := by kernel_rfl
@[go_sem] theorem tyI_93 : tyI Try.prog 93 = some { agg := false, size := 1, bytes := 8 } := by kernel_rfl
@[go_sem] theorem kindT_93 : kindT Try.prog 93 = 9 := by kernel_rfl
@[go_sem] theorem hasT_93 : hasT Try.prog 93 = true := by kernel_rfl
@[go_sem] theorem zeroI_93 : zeroI Try.prog 93 = some [Go.Av.AV.lit Go.Value.nilFunc] := by kernel_rfl
@[go_sem] theorem tyI_94 : tyI Try.prog 94 = some { agg := false, size := 1, bytes := 8 } := by kernel_rfl
@[go_sem] theorem kindT_94 : kindT Try.prog 94 = 9 := by kernel_rfl
@[go_sem] theorem hasT_94 : hasT Try.prog 94 = true := by kernel_rfl
@[go_sem] theorem zeroI_94 : zeroI Try.prog 94 = some [Go.Av.AV.lit Go.Value.nilFunc] := by kernel_rfl
@[go_sem] theorem tyI_95 : tyI Try.prog 95 = some { agg := false, size := 1, bytes := 8 } := by kernel_rfl
@[go_sem] theorem kindT_95 : kindT Try.prog 95 = 9 := by kernel_rfl
@[go_sem] theorem hasT_95 : hasT Try.prog 95 = true := by kernel_rfl
@[go_sem] theorem zeroI_95 : zeroI Try.prog 95 = some [Go.Av.AV.lit Go.Value.nilFunc] := by kernel_rfl
@[go_sem] theorem tyI_96 : tyI Try.prog 96 = some { agg := false, size := 1, bytes := 8 } := by kernel_rfl
@[go_sem] theorem kindT_96 : kindT Try.prog 96 = 9 := by kernel_rfl
@[go_sem] theorem hasT_96 : hasT Try.prog 96 = true := by kernel_rfl
@[go_sem] theorem zeroI_96 : zeroI Try.prog 96 = some [Go.Av.AV.lit Go.Value.nilFunc] := by kernel_rfl
@[go_sem] theorem tyI_97 : tyI Try.prog 97 = some { agg := false, size := 1, bytes := 8 } := by kernel_rfl
@[go_sem] theorem kindT_97 : kindT Try.prog 97 = 9 := by kernel_rfl
@[go_sem] theorem hasT_97 : hasT Try.prog 97 = true := by kernel_rfl
@[go_sem] theorem zeroI_97 : zeroI Try.prog 97 = some [Go.Av.AV.lit Go.Value.nilFunc] := by kernel_rfl
@[go_sem] theorem tyI_98 : tyI Try.prog 98 = some { agg := false, size := 1, bytes := 8 } := by kernel_rfl
@[go_sem] theorem kindT_98 : kindT Try.prog 98 = 9 := by kernel_rfl
@[go_sem] theorem hasT_98 : hasT Try.prog 98 = true := by kernel_rfl
@[go_sem] theorem zeroI_98 : zeroI Try.prog 98 = some [Go.Av.AV.lit Go.Value.nilFunc] := by kernel_rfl
@[go_sem] theorem tyI_99 : tyI Try.prog 99 = some { agg := false, size := 1, bytes := 8 } := by kernel_rfl
@[go_sem] theorem kindT_99 : kindT Try.prog 99 = 9 := by kernel_rfl
@[go_sem] theorem hasT_99 : hasT Try.prog 99 = true := by kernel_rfl
@[go_sem] theorem zeroI_99 : zeroI Try.prog 99 = some [Go.Av.AV.lit Go.Value.nilFunc] := by kernel_rfl
@[go_sem] theorem tyI_100 : tyI Try.prog 100 = some { agg := false, size := 1, bytes := 8 } := by kernel_rfl
@[go_sem] theorem kindT_100 : kindT Try.prog 100 = 9 := by kernel_rfl
@[go_sem] theorem hasT_100 : hasT Try.prog 100 = true := by kernel_rfl
@[go_sem] theorem zeroI_100 : zeroI Try.prog 100 = some [Go.Av.AV.lit Go.Value.nilFunc] := by kernel_rfl
@[go_sem] theorem tyI_101 : tyI Try.prog 101 = some { agg := false, size := 1, bytes := 8 } := by kernel_rfl
@[go_sem] theorem kindT_101 : kindT Try.prog 101 = 9 := by kernel_rfl
@[go_sem] theorem hasT_101 : hasT Try.prog 101 = true := by kernel_rfl
@[go_sem] theorem zeroI_101 : zeroI Try.prog 101 = some [Go.Av.AV.lit Go.Value.nilFunc] := by kernel_rfl
@[go_sem] theorem tyI_102 : tyI Try.prog 102 = some { agg := false, size := 1, bytes := 8 } := by kernel_rfl
@[go_sem] theorem kindT_102 : kindT Try.prog 102 = 9 := by kernel_rfl
@[go_sem] theorem hasT_102 : hasT Try.prog 102 = true := by kernel_rfl
@[go_sem] theorem zeroI_102 : zeroI Try.prog 102 = some [Go.Av.AV.lit Go.Value.nilFunc] := by kernel_rfl
@[go_sem] theorem tyI_103 : tyI Try.prog 103 = some { agg := false, size := 1, bytes := 8 } := by kernel_rfl
@[go_sem] theorem kindT_103 : kindT Try.prog 103 = 9 := by kernel_rfl
@[go_sem] theorem hasT_103 : hasT Try.prog 103 = true := by kernel_rfl
@[go_sem] theorem zeroI_103 : zeroI Try.prog 103 = some [Go.Av.AV.lit Go.Value.nilFunc] := by kernel_rfl
@[go_sem] theorem tyI_104 : tyI Try.prog 104 = some { agg := false, size := 1, bytes := 24 } := by kernel_rfl
@[go_sem] theorem slT_104 : slT Try.prog 104 = some 43 := by kernel_rfl
@[go_sem] theorem kindT_104 : kindT Try.prog 104 = 5 := by kernel_rfl
@[go_sem] theorem hasT_104 : hasT Try.prog 104 = true := by kernel_rfl
@[go_sem] theorem zeroI_104 : zeroI Try.prog 104 = some [Go.Av.AV.isl (some true) [] Go.Av.Tk.full] := by kernel_rfl
@[go_sem] theorem tyI_105 : tyI Try.prog 105 = some { agg := false, size := 1, bytes := 8 } := by kernel_rfl
@[go_sem] theorem kindT_105 : kindT Try.prog 105 = 9 := by kernel_rfl
@[go_sem] theorem hasT_105 : hasT Try.prog 105 = true := by kernel_rfl
@[go_sem] theorem zeroI_105 : zeroI Try.prog 105 = some [Go.Av.AV.lit Go.Value.nilFunc] := by kernel_rfl
@[go_sem] theorem tyI_106 : tyI Try.prog 106 = some { agg := false, size := 1, bytes := 8 } := by kernel_rfl
@[go_sem] theorem kindT_106 : kindT Try.prog 106 = 9 := by kernel_rfl
@[go_sem] theorem hasT_106 : hasT Try.prog 106 = true := by kernel_rfl
@[go_sem] theorem zeroI_106 : zeroI Try.prog 106 = some [Go.Av.AV.lit Go.Value.nilFunc] := by kernel_rfl
@[go_sem] theorem tyI_107 : tyI Try.prog 107 = some { agg := false, size := 1, bytes := 8 } := by kernel_rfl
@[go_sem] theorem kindT_107 : kindT Try.prog 107 = 9 := by kernel_rfl
@[go_sem] theorem hasT_107 : hasT Try.prog 107 = true := by kernel_rfl
@[go_sem] theorem zeroI_107 : zeroI Try.prog 107 = some [Go.Av.AV.lit Go.Value.nilFunc] := by kernel_rfl
@[go_sem] theorem tyI_108 : tyI Try.prog 108 = some { agg := false, size := 1, bytes := 0 } := by kernel_rfl
@[go_sem] theorem kindT_108 : kindT Try.prog 108 = 0 := by kernel_rfl
@[go_sem] theorem hasT_108 : hasT Try.prog 108 = true := by kernel_rfl
@[go_sem] theorem tyI_109 : tyI Try.prog 109 = some { agg := false, size := 1, bytes := 8 } := by kernel_rfl
@[go_sem] theorem kindT_109 : kindT Try.prog 109 = 9 := by kernel_rfl
@[go_sem] theorem hasT_109 : hasT Try.prog 109 = true := by kernel_rfl
@[go_sem] theorem zeroI_109 : zeroI Try.prog 109 = some [Go.Av.AV.lit Go.Value.nilFunc] := by kernel_rfl
@[go_sem] theorem tyI_110 : tyI Try.prog 110 = some { agg := false, size := 1, bytes := 8 } := by kernel_rfl
@[go_sem] theorem kindT_110 : kindT Try.prog 110 = 9 := by kernel_rfl
@[go_sem] theorem hasT_110 : hasT Try.prog 110 = true := by kernel_rfl
@[go_sem] theorem zeroI_110 : zeroI Try.prog 110 = some [Go.Av.AV.lit Go.Value.nilFunc] := by kernel_rfl
@[go_sem] theorem tyI_111 : tyI Try.prog 111 = some { agg := false, size := 1, bytes := 8 } := by kernel_rfl
@[go_sem] theorem kindT_111 : kindT Try.prog 111 = 9 := by kernel_rfl
@[go_sem] theorem hasT_111 : hasT Try.prog 111 = true := by kernel_rfl
@[go_sem] theorem zeroI_111 : zeroI Try.prog 111 = some [Go.Av.AV.lit Go.Value.nilFunc] := by kernel_rfl
@[go_sem] theorem tyI_112 : tyI Try.prog 112 = some { agg := false, size := 1, bytes := 8 } := by kernel_rfl
@[go_sem] theorem kindT_112 : kindT Try.prog 112 = 9 := by kernel_rfl
@[go_sem] theorem hasT_112 : hasT Try.prog 112 = true := by kernel_rfl
@[go_sem] theorem zeroI_112 : zeroI Try.prog 112 = some [Go.Av.AV.lit Go.Value.nilFunc] := by kernel_rfl
@[go_sem] theorem tyI_113 : tyI Try.prog 113 = some { agg := false, size := 1, bytes := 8 } := by kernel_rfl
@[go_sem] theorem kindT_113 : kindT Try.prog 113 = 8 := by kernel_rfl
@[go_sem] theorem hasT_113 : hasT Try.prog 113 = true := by kernel_rfl
@[go_sem] theorem zeroI_113 : zeroI Try.prog 113 = some [Go.Av.AV.lit (Go.Value.map none)] := by kernel_rfl
@[go_sem] theorem tyI_114 : tyI Try.prog 114 = some { agg := false, size := 1, bytes := 8 } := by kernel_rfl
@[go_sem] theorem kindT_114 : kindT Try.prog 114 = 9 := by kernel_rfl
@[go_sem] theorem hasT_114 : hasT Try.prog 114 = true := by kernel_rfl
@[go_sem] theorem zeroI_114 : zeroI Try.prog 114 = some [Go.Av.AV.lit Go.Value.nilFunc] := by kernel_rfl
@[go_sem] theorem tyI_115 : tyI Try.prog 115 = some { agg := false, size := 1, bytes := 8 } := by kernel_rfl
@[go_sem] theorem kindT_115 : kindT Try.prog 115 = 9 := by kernel_rfl
@[go_sem] theorem hasT_115 : hasT Try.prog 115 = true := by kernel_rfl
@[go_sem] theorem zeroI_115 : zeroI Try.prog 115 = some [Go.Av.AV.lit Go.Value.nilFunc] := by kernel_rfl
@[go_sem] theorem tyI_116 : tyI Try.prog 116 = some { agg := false, size := 1, bytes := 8 } := by kernel_rfl
@[go_sem] theorem kindT_116 : kindT Try.prog 116 = 9 := by kernel_rfl
@[go_sem] theorem hasT_116 : hasT Try.prog 116 = true := by kernel_rfl
@[go_sem] theorem zeroI_116 : zeroI Try.prog 116 = some [Go.Av.AV.lit Go.Value.nilFunc] := by kernel_rfl
@[go_sem] theorem tyI_117 : tyI Try.prog 117 = some { agg := false, size := 1, bytes := 8 } := by kernel_rfl
@[go_sem] theorem kindT_117 : kindT Try.prog 117 = 9 := by kernel_rfl
@[go_sem] theorem hasT_117 : hasT Try.prog 117 = true := by kernel_rfl
@[go_sem] theorem zeroI_117 : zeroI Try.prog 117 = some [Go.Av.AV.lit Go.Value.nilFunc] := by kernel_rfl
@[go_sem] theorem tyI_118 : tyI Try.prog 118 = some { agg := false, size := 1, bytes := 8 } := by kernel_rfl
@[go_sem] theorem kindT_118 : kindT Try.prog 118 = 9 := by kernel_rfl
@[go_sem] theorem hasT_118 : hasT Try.prog 118 = true := by kernel_rfl
@[go_sem] theorem zeroI_118 : zeroI Try.prog 118 = some [Go.Av.AV.lit Go.Value.nilFunc] := by kernel_rfl
@[go_sem] theorem tyI_119 : tyI Try.prog 119 = some { agg := false, size := 1, bytes := 8 } := by kernel_rfl
@[go_sem] theorem kindT_119 : kindT Try.prog 119 = 9 := by kernel_rfl
@[go_sem] theorem hasT_119 : hasT Try.prog 119 = true := by kernel_rfl
@[go_sem] theorem zeroI_119 : zeroI Try.prog 119 = some [Go.Av.AV.lit Go.Value.nilFunc] := by kernel_rfl
@[go_sem] theorem tyI_120 : tyI Try.prog 120 = some { agg := false, size := 1, bytes := 8 } := by kernel_rfl
@[go_sem] theorem kindT_120 : kindT Try.prog 120 = 9 := by kernel_rfl
@[go_sem] theorem hasT_120 : hasT Try.prog 120 = true := by kernel_rfl
@[go_sem] theorem zeroI_120 : zeroI Try.prog 120 = some [Go.Av.AV.lit Go.Value.nilFunc] := by kernel_rfl
@[go_sem] theorem tyI_121 : tyI Try.prog 121 = some { agg := false, size := 1, bytes := 8 } := by kernel_rfl
@[go_sem] theorem kindT_121 : kindT Try.prog 121 = 9 := by kernel_rfl
@[go_sem] theorem hasT_121 : hasT Try.prog 121 = true := by kernel_rfl
@[go_sem] theorem zeroI_121 : zeroI Try.prog 121 = some [Go.Av.AV.lit Go.Value.nilFunc] := by kernel_rfl
@[go_sem] theorem tyI_122 : tyI Try.prog 122 = some { agg := false, size := 1, bytes := 8 } := by kernel_rfl
@[go_sem] theorem kindT_122 : kindT Try.prog 122 = 9 := by kernel_rfl
@[go_sem] theorem hasT_122 : hasT Try.prog 122 = true := by kernel_rfl
@[go_sem] theorem zeroI_122 : zeroI Try.prog 122 = some [Go.Av.AV.lit Go.Value.nilFunc] := by kernel_rfl
@[go_sem] theorem tyI_123 : tyI Try.prog 123 = some { agg := false, size := 1, bytes := 0 } := by kernel_rfl
@[go_sem] theorem kindT_123 : kindT Try.prog 123 = 0 := by kernel_rfl
@[go_sem] theorem hasT_123 : hasT Try.prog 123 = true := by kernel_rfl
@[go_sem] theorem tyI_124 : tyI Try.prog 124 = some { agg := false, size := 1, bytes := 8 } := by kernel_rfl
@[go_sem] theorem kindT_124 : kindT Try.prog 124 = 9 := by kernel_rfl
@[go_sem] theorem hasT_124 : hasT Try.prog 124 = true := by kernel_rfl
@[go_sem] theorem zeroI_124 : zeroI Try.prog 124 = some [Go.Av.AV.lit Go.Value.nilFunc] := by kernel_rfl
@[go_sem] theorem tyI_125 : tyI Try.prog 125 = some { agg := false, size := 1, bytes := 8 } := by kernel_rfl
@[go_sem] theorem kindT_125 : kindT Try.prog 125 = 9 := by kernel_rfl
@[go_sem] theorem hasT_125 : hasT Try.prog 125 = true := by kernel_rfl
@[go_sem] theorem zeroI_125 : zeroI Try.prog 125 = some [Go.Av.AV.lit Go.Value.nilFunc] := by kernel_rfl
@[go_sem] theorem tyI_126 : tyI Try.prog 126 = some { agg := false, size := 1, bytes := 8 } := by kernel_rfl
@[go_sem] theorem kindT_126 : kindT Try.prog 126 = 9 := by kernel_rfl
@[go_sem] theorem hasT_126 : hasT Try.prog 126 = true := by kernel_rfl
@[go_sem] theorem zeroI_126 : zeroI Try.prog 126 = some [Go.Av.AV.lit Go.Value.nilFunc] := by kernel_rfl
@[go_sem] theorem tyI_127 : tyI Try.prog 127 = some { agg := false, size := 1, bytes := 8 } := by kernel_rfl
@[go_sem] theorem kindT_127 : kindT Try.prog 127 = 9 := by kernel_rfl
@[go_sem] theorem hasT_127 : hasT Try.prog 127 = true := by kernel_rfl
@[go_sem] theorem zeroI_127 : zeroI Try.prog 127 = some [Go.Av.AV.lit Go.Value.nilFunc] := by kernel_rfl
@[go_sem] theorem tyI_128 : tyI Try.prog 128 = some { agg := true, size := 1, bytes := 24 } := by kernel_rfl
@[go_sem] theorem kindT_128 : kindT Try.prog 128 = 6 := by kernel_rfl
@[go_sem] theorem hasT_128 : hasT Try.prog 128 = true := by kernel_rfl
@[go_sem] theorem zeroI_128 : zeroI Try.prog 128 = some [Go.Av.AV.isl (some true) [] Go.Av.Tk.full] := by kernel_rfl
@[go_sem] theorem bldT_128 : bldT Try.prog 128 = true := by kernel_rfl
@[go_sem] theorem fld_128_0 : fldI Try.prog 128 0 = some (0, 1, false) := by kernel_rfl
@[go_sem] theorem tyI_129 : tyI Try.prog 129 = some { agg := true, size := 1, bytes := 24 } := by kernel_rfl
@[go_sem] theorem kindT_129 : kindT Try.prog 129 = 6 := by kernel_rfl
@[go_sem] theorem hasT_129 : hasT Try.prog 129 = true := by kernel_rfl
@[go_sem] theorem zeroI_129 : zeroI Try.prog 129 = some [Go.Av.AV.isl (some true) [] Go.Av.Tk.full] := by kernel_rfl
@[go_sem] theorem bldT_129 : bldT Try.prog 129 = true := by kernel_rfl
@[go_sem] theorem fld_129_0 : fldI Try.prog 129 0 = some (0, 1, false) := by kernel_rfl
@[go_sem] theorem tyI_130 : tyI Try.prog 130 = some { agg := false, size := 1, bytes := 8 } := by kernel_rfl
@[go_sem] theorem kindT_130 : kindT Try.prog 130 = 9 := by kernel_rfl
@[go_sem] theorem hasT_130 : hasT Try.prog 130 = true := by kernel_rfl
@[go_sem] theorem zeroI_130 : zeroI Try.prog 130 = some [Go.Av.AV.lit Go.Value.nilFunc] := by kernel_rfl
@[go_sem] theorem tyI_131 : tyI Try.prog 131 = some { agg := false, size := 1, bytes := 8 } := by kernel_rfl
@[go_sem] theorem kindT_131 : kindT Try.prog 131 = 2 := by kernel_rfl
@[go_sem] theorem intT_131 : intT Try.prog 131 = some Go.IntKind.u64 := by kernel_rfl
@[go_sem] theorem hasT_131 : hasT Try.prog 131 = true := by kernel_rfl
@[go_sem] theorem zeroI_131 : zeroI Try.prog 131 = some [Go.Av.AV.lit (Go.Value.int Go.IntKind.u64 0)] := by kernel_rfl
@[go_sem] theorem tyI_132 : tyI Try.prog 132 = some { agg := false, size := 1, bytes := 8 } := by kernel_rfl
@[go_sem] theorem kindT_132 : kindT Try.prog 132 = 9 := by kernel_rfl
@[go_sem] theorem hasT_132 : hasT Try.prog 132 = true := by kernel_rfl
@[go_sem] theorem zeroI_132 : zeroI Try.prog 132 = some [Go.Av.AV.lit Go.Value.nilFunc] := by kernel_rfl
@[go_sem] theorem tyI_133 : tyI Try.prog 133 = some { agg := false, size := 1, bytes := 8 } := by kernel_rfl
@[go_sem] theorem kindT_133 : kindT Try.prog 133 = 9 := by kernel_rfl
@[go_sem] theorem hasT_133 : hasT Try.prog 133 = true := by kernel_rfl
@[go_sem] theorem zeroI_133 : zeroI Try.prog 133 = some [Go.Av.AV.lit Go.Value.nilFunc] := by kernel_rfl
@[go_sem] theorem tyI_134 : tyI Try.prog 134 = some { agg := false, size := 1, bytes := 8 } := by kernel_rfl
@[go_sem] theorem kindT_134 : kindT Try.prog 134 = 9 := by kernel_rfl
@[go_sem] theorem hasT_134 : hasT Try.prog 134 = true := by kernel_rfl
@[go_sem] theorem zeroI_134 : zeroI Try.prog 134 = some [Go.Av.AV.lit Go.Value.nilFunc] := by kernel_rfl
@[go_sem] theorem tyI_135 : tyI Try.prog 135 = some { agg := false, size := 1, bytes := 8 } := by kernel_rfl
@[go_sem] theorem kindT_135 : kindT Try.prog 135 = 9 := by kernel_rfl
@[go_sem] theorem hasT_135 : hasT Try.prog 135 = true := by kernel_rfl
@[go_sem] theorem zeroI_135 : zeroI Try.prog 135 = some [Go.Av.AV.lit Go.Value.nilFunc] := by kernel_rfl
@[go_sem] theorem tyI_136 : tyI Try.prog 136 = some { agg := false, size := 1, bytes := 8 } := by kernel_rfl
@[go_sem] theorem kindT_136 : kindT Try.prog 136 = 9 := by kernel_rfl
@[go_sem] theorem hasT_136 : hasT Try.prog 136 = true := by kernel_rfl
@[go_sem] theorem zeroI_136 : zeroI Try.prog 136 = some [Go.Av.AV.lit Go.Value.nilFunc] := by kernel_rfl
@[go_sem] theorem tyI_137 : tyI Try.prog 137 = some { agg := false, size := 1, bytes := 8 } := by kernel_rfl
@[go_sem] theorem kindT_137 : kindT Try.prog 137 = 8 := by kernel_rfl
@[go_sem] theorem hasT_137 : hasT Try.prog 137 = true := by kernel_rfl
@[go_sem] theorem zeroI_137 : zeroI Try.prog 137 = some [Go.Av.AV.lit (Go.Value.map none)] := by kernel_rfl
@[go_sem] theorem tyI_138 : tyI Try.prog 138 = some { agg := false, size := 1, bytes := 8 } := by kernel_rfl
@[go_sem] theorem kindT_138 : kindT Try.prog 138 = 9 := by kernel_rfl
@[go_sem] theorem hasT_138 : hasT Try.prog 138 = true := by kernel_rfl
@[go_sem] theorem zeroI_138 : zeroI Try.prog 138 = some [Go.Av.AV.lit Go.Value.nilFunc] := by kernel_rfl
@[go_sem] theorem tyI_139 : tyI Try.prog 139 = some { agg := true, size := 2, bytes := 24 } := by kernel_rfl
@[go_sem] theorem kindT_139 : kindT Try.prog 139 = 6 := by kernel_rfl
@[go_sem] theorem hasT_139 : hasT Try.prog 139 = true := by kernel_rfl
@[go_sem] theorem zeroI_139 : zeroI Try.prog 139 = some [Go.Av.AV.lit (Go.Value.int Go.IntKind.i64 0), Go.Av.AV.lit (Go.Value.string ⟨#[]⟩)] := by kernel_rfl
@[go_sem] theorem bldT_139 : bldT Try.prog 139 = true := by kernel_rfl
@[go_sem] theorem eqT_139 : eqT Try.prog 139 = some [(0, 2), (1, 3)] := by kernel_rfl
@[go_sem] theorem fld_139_0 : fldI Try.prog 139 0 = some (0, 1, false) := by kernel_rfl
@[go_sem] theorem fld_139_1 : fldI Try.prog 139 1 = some (1, 1, false) := by kernel_rfl
@[go_sem] theorem tyI_140 : tyI Try.prog 140 = some { agg := true, size := 2, bytes := 24 } := by kernel_rfl
@[go_sem] theorem kindT_140 : kindT Try.prog 140 = 6 := by kernel_rfl
@[go_sem] theorem hasT_140 : hasT Try.prog 140 = true := by kernel_rfl
@[go_sem] theorem zeroI_140 : zeroI Try.prog 140 = some [Go.Av.AV.lit (Go.Value.int Go.IntKind.i64 0), Go.Av.AV.lit (Go.Value.string ⟨#[]⟩)] := by kernel_rfl
@[go_sem] theorem bldT_140 : bldT Try.prog 140 = true := by kernel_rfl
@[go_sem] theorem eqT_140 : eqT Try.prog 140 = some [(0, 2), (1, 3)] := by kernel_rfl
@[go_sem] theorem fld_140_0 : fldI Try.prog 140 0 = some (0, 1, false) := by kernel_rfl
@[go_sem] theorem fld_140_1 : fldI Try.prog 140 1 = some (1, 1, false) := by kernel_rfl
@[go_sem] theorem tyI_141 : tyI Try.prog 141 = some { agg := false, size := 1, bytes := 8 } := by kernel_rfl
@[go_sem] theorem kindT_141 : kindT Try.prog 141 = 9 := by kernel_rfl
@[go_sem] theorem hasT_141 : hasT Try.prog 141 = true := by kernel_rfl
@[go_sem] theorem zeroI_141 : zeroI Try.prog 141 = some [Go.Av.AV.lit Go.Value.nilFunc] := by kernel_rfl
@[go_sem] theorem tyI_142 : tyI Try.prog 142 = some { agg := false, size := 1, bytes := 24 } := by kernel_rfl
@[go_sem] theorem slT_142 : slT Try.prog 142 = some 5 := by kernel_rfl
@[go_sem] theorem kindT_142 : kindT Try.prog 142 = 5 := by kernel_rfl
@[go_sem] theorem hasT_142 : hasT Try.prog 142 = true := by kernel_rfl
@[go_sem] theorem zeroI_142 : zeroI Try.prog 142 = some [Go.Av.AV.isl (some true) [] Go.Av.Tk.full] := by kernel_rfl
@[go_sem] theorem tyI_143 : tyI Try.prog 143 = some { agg := false, size := 1, bytes := 8 } := by kernel_rfl
@[go_sem] theorem kindT_143 : kindT Try.prog 143 = 9 := by kernel_rfl
@[go_sem] theorem hasT_143 : hasT Try.prog 143 = true := by kernel_rfl
@[go_sem] theorem zeroI_143 : zeroI Try.prog 143 = some [Go.Av.AV.lit Go.Value.nilFunc] := by kernel_rfl
@[go_sem] theorem tyI_144 : tyI Try.prog 144 = some { agg := false, size := 1, bytes := 8 } := by kernel_rfl
@[go_sem] theorem kindT_144 : kindT Try.prog 144 = 9 := by kernel_rfl
@[go_sem] theorem hasT_144 : hasT Try.prog 144 = true := by kernel_rfl
@[go_sem] theorem zeroI_144 : zeroI Try.prog 144 = some [Go.Av.AV.lit Go.Value.nilFunc] := by kernel_rfl
@[go_sem] theorem tyI_145 : tyI Try.prog 145 = some { agg := false, size := 1, bytes := 8 } := by kernel_rfl
@[go_sem] theorem kindT_145 : kindT Try.prog 145 = 9 := by kernel_rfl
@[go_sem] theorem hasT_145 : hasT Try.prog 145 = true := by kernel_rfl
@[go_sem] theorem zeroI_145 : zeroI Try.prog 145 = some [Go.Av.AV.lit Go.Value.nilFunc] := by kernel_rfl
@[go_sem] theorem tyI_146 : tyI Try.prog 146 = some { agg := false, size := 1, bytes := 8 } := by kernel_rfl
@[go_sem] theorem kindT_146 : kindT Try.prog 146 = 9 := by kernel_rfl
@[go_sem] theorem hasT_146 : hasT Try.prog 146 = true := by kernel_rfl
@[go_sem] theorem zeroI_146 : zeroI Try.prog 146 = some [Go.Av.AV.lit Go.Value.nilFunc] := by kernel_rfl
@[go_sem] theorem tyI_147 : tyI Try.prog 147 = some { agg := true, size := 4, bytes := 40 } := by kernel_rfl
@[go_sem] theorem kindT_147 : kindT Try.prog 147 = 6 := by kernel_rfl
@[go_sem] theorem hasT_147 : hasT Try.prog 147 = true := by kernel_rfl
@[go_sem] theorem zeroI_147 : zeroI Try.prog 147 = some [Go.Av.AV.lit (Go.Value.pointer none), Go.Av.AV.lit (Go.Value.pointer none), Go.Av.AV.lit (Go.Value.pointer none), Go.Av.AV.lit (Go.Value.string ⟨#[]⟩)] := by kernel_rfl
@[go_sem] theorem bldT_147 : bldT Try.prog 147 = true := by kernel_rfl
@[go_sem] theorem fld_147_0 : fldI Try.prog 147 0 = some (0, 1, false) := by kernel_rfl
@[go_sem] theorem fld_147_1 : fldI Try.prog 147 1 = some (1, 1, false) := by kernel_rfl
@[go_sem] theorem fld_147_2 : fldI Try.prog 147 2 = some (2, 1, false) := by kernel_rfl
@[go_sem] theorem fld_147_3 : fldI Try.prog 147 3 = some (3, 1, false) := by kernel_rfl
@[go_sem] theorem tyI_148 : tyI Try.prog 148 = some { agg := true, size := 4, bytes := 40 } := by kernel_rfl
@[go_sem] theorem kindT_148 : kindT Try.prog 148 = 6 := by kernel_rfl
@[go_sem] theorem hasT_148 : hasT Try.prog 148 = true := by kernel_rfl
@[go_sem] theorem zeroI_148 : zeroI Try.prog 148 = some [Go.Av.AV.lit (Go.Value.pointer none), Go.Av.AV.lit (Go.Value.pointer none), Go.Av.AV.lit (Go.Value.pointer none), Go.Av.AV.lit (Go.Value.string ⟨#[]⟩)] := by kernel_rfl
@[go_sem] theorem bldT_148 : bldT Try.prog 148 = true := by kernel_rfl
@[go_sem] theorem fld_148_0 : fldI Try.prog 148 0 = some (0, 1, false) := by kernel_rfl
@[go_sem] theorem fld_148_1 : fldI Try.prog 148 1 = some (1, 1, false) := by kernel_rfl
@[go_sem] theorem fld_148_2 : fldI Try.prog 148 2 = some (2, 1, false) := by kernel_rfl
@[go_sem] theorem fld_148_3 : fldI Try.prog 148 3 = some (3, 1, false) := by kernel_rfl
@[go_sem] theorem tyI_149 : tyI Try.prog 149 = some { agg := true, size := 0, bytes := 0 } := by kernel_rfl
@[go_sem] theorem kindT_149 : kindT Try.prog 149 = 7 := by kernel_rfl
@[go_sem] theorem hasT_149 : hasT Try.prog 149 = true := by kernel_rfl
@[go_sem] theorem zeroI_149 : zeroI Try.prog 149 = some [] := by kernel_rfl
@[go_sem] theorem tyI_150 : tyI Try.prog 150 = some { agg := true, size := 0, bytes := 0 } := by kernel_rfl
@[go_sem] theorem kindT_150 : kindT Try.prog 150 = 6 := by kernel_rfl
@[go_sem] theorem hasT_150 : hasT Try.prog 150 = true := by kernel_rfl
@[go_sem] theorem zeroI_150 : zeroI Try.prog 150 = some [] := by kernel_rfl
@[go_sem] theorem bldT_150 : bldT Try.prog 150 = true := by kernel_rfl
@[go_sem] theorem fld_150_0 : fldI Try.prog 150 0 = some (0, 0, true) := by kernel_rfl
@[go_sem] theorem tyI_151 : tyI Try.prog 151 = some { agg := true, size := 0, bytes := 0 } := by kernel_rfl
@[go_sem] theorem kindT_151 : kindT Try.prog 151 = 6 := by kernel_rfl
@[go_sem] theorem hasT_151 : hasT Try.prog 151 = true := by kernel_rfl
@[go_sem] theorem zeroI_151 : zeroI Try.prog 151 = some [] := by kernel_rfl
@[go_sem] theorem bldT_151 : bldT Try.prog 151 = true := by kernel_rfl
@[go_sem] theorem fld_151_0 : fldI Try.prog 151 0 = some (0, 0, true) := by kernel_rfl
@[go_sem] theorem tyI_152 : tyI Try.prog 152 = some { agg := false, size := 1, bytes := 8 } := by kernel_rfl
@[go_sem] theorem kindT_152 : kindT Try.prog 152 = 9 := by kernel_rfl
@[go_sem] theorem hasT_152 : hasT Try.prog 152 = true := by kernel_rfl
@[go_sem] theorem zeroI_152 : zeroI Try.prog 152 = some [Go.Av.AV.lit Go.Value.nilFunc] := by kernel_rfl
@[go_sem] theorem tyI_153 : tyI Try.prog 153 = some { agg := false, size := 1, bytes := 4 } := by kernel_rfl
@[go_sem] theorem kindT_153 : kindT Try.prog 153 = 2 := by kernel_rfl
@[go_sem] theorem intT_153 : intT Try.prog 153 = some Go.IntKind.u32 := by kernel_rfl
@[go_sem] theorem hasT_153 : hasT Try.prog 153 = true := by kernel_rfl
@[go_sem] theorem zeroI_153 : zeroI Try.prog 153 = some [Go.Av.AV.lit (Go.Value.int Go.IntKind.u32 0)] := by kernel_rfl
@[go_sem] theorem tyI_154 : tyI Try.prog 154 = some { agg := false, size := 1, bytes := 1 } := by kernel_rfl
@[go_sem] theorem kindT_154 : kindT Try.prog 154 = 2 := by kernel_rfl
@[go_sem] theorem intT_154 : intT Try.prog 154 = some Go.IntKind.u8 := by kernel_rfl
@[go_sem] theorem hasT_154 : hasT Try.prog 154 = true := by kernel_rfl
@[go_sem] theorem zeroI_154 : zeroI Try.prog 154 = some [Go.Av.AV.lit (Go.Value.int Go.IntKind.u8 0)] := by kernel_rfl
@[go_sem] theorem tyI_155 : tyI Try.prog 155 = some { agg := false, size := 1, bytes := 1 } := by kernel_rfl
@[go_sem] theorem kindT_155 : kindT Try.prog 155 = 2 := by kernel_rfl
@[go_sem] theorem intT_155 : intT Try.prog 155 = some Go.IntKind.u8 := by kernel_rfl
@[go_sem] theorem hasT_155 : hasT Try.prog 155 = true := by kernel_rfl
@[go_sem] theorem zeroI_155 : zeroI Try.prog 155 = some [Go.Av.AV.lit (Go.Value.int Go.IntKind.u8 0)] := by kernel_rfl
@[go_sem] theorem tyI_156 : tyI Try.prog 156 = some { agg := false, size := 1, bytes := 8 } := by kernel_rfl
@[go_sem] theorem kindT_156 : kindT Try.prog 156 = 9 := by kernel_rfl
@[go_sem] theorem hasT_156 : hasT Try.prog 156 = true := by kernel_rfl
@[go_sem] theorem zeroI_156 : zeroI Try.prog 156 = some [Go.Av.AV.lit Go.Value.nilFunc] := by kernel_rfl
@[go_sem] theorem tyI_157 : tyI Try.prog 157 = some { agg := false, size := 1, bytes := 8 } := by kernel_rfl
@[go_sem] theorem kindT_157 : kindT Try.prog 157 = 4 := by kernel_rfl
@[go_sem] theorem hasT_157 : hasT Try.prog 157 = true := by kernel_rfl
@[go_sem] theorem zeroI_157 : zeroI Try.prog 157 = some [Go.Av.AV.lit (Go.Value.pointer none)] := by kernel_rfl
@[go_sem] theorem tyI_158 : tyI Try.prog 158 = some { agg := false, size := 1, bytes := 4 } := by kernel_rfl
@[go_sem] theorem kindT_158 : kindT Try.prog 158 = 2 := by kernel_rfl
@[go_sem] theorem intT_158 : intT Try.prog 158 = some Go.IntKind.i32 := by kernel_rfl
@[go_sem] theorem hasT_158 : hasT Try.prog 158 = true := by kernel_rfl
@[go_sem] theorem zeroI_158 : zeroI Try.prog 158 = some [Go.Av.AV.lit (Go.Value.int Go.IntKind.i32 0)] := by kernel_rfl
@[go_sem] theorem tyI_159 : tyI Try.prog 159 = some { agg := false, size := 1, bytes := 4 } := by kernel_rfl
@[go_sem] theorem kindT_159 : kindT Try.prog 159 = 2 := by kernel_rfl
@[go_sem] theorem intT_159 : intT Try.prog 159 = some Go.IntKind.i32 := by kernel_rfl
@[go_sem] theorem hasT_159 : hasT Try.prog 159 = true := by kernel_rfl
@[go_sem] theorem zeroI_159 : zeroI Try.prog 159 = some [Go.Av.AV.lit (Go.Value.int Go.IntKind.i32 0)] := by kernel_rfl
@[go_sem] theorem tyI_160 : tyI Try.prog 160 = some { agg := true, size := 11, bytes := 48 } := by kernel_rfl
@[go_sem] theorem kindT_160 : kindT Try.prog 160 = 6 := by kernel_rfl
@[go_sem] theorem hasT_160 : hasT Try.prog 160 = true := by kernel_rfl
@[go_sem] theorem zeroI_160 : zeroI Try.prog 160 = some [Go.Av.AV.lit (Go.Value.int Go.IntKind.u64 0), Go.Av.AV.lit (Go.Value.int Go.IntKind.u64 0), Go.Av.AV.lit (Go.Value.int Go.IntKind.u32 0), Go.Av.AV.lit (Go.Value.int Go.IntKind.u8 0), Go.Av.AV.lit (Go.Value.int Go.IntKind.u8 0), Go.Av.AV.lit (Go.Value.int Go.IntKind.u8 0), Go.Av.AV.lit (Go.Value.int Go.IntKind.u8 0), Go.Av.AV.lit Go.Value.nilFunc, Go.Av.AV.lit (Go.Value.pointer none), Go.Av.AV.lit (Go.Value.int Go.IntKind.i32 0), Go.Av.AV.lit (Go.Value.int Go.IntKind.i32 0)] := by kernel_rfl
@[go_sem] theorem bldT_160 : bldT Try.prog 160 = true := by kernel_rfl
@[go_sem] theorem fld_160_0 : fldI Try.prog 160 0 = some (0, 1, false) := by kernel_rfl
@[go_sem] theorem fld_160_1 : fldI Try.prog 160 1 = some (1, 1, false) := by kernel_rfl
@[go_sem] theorem fld_160_2 : fldI Try.prog 160 2 = some (2, 1, false) := by kernel_rfl
@[go_sem] theorem fld_160_3 : fldI Try.prog 160 3 = some (3, 1, false) := by kernel_rfl
@[go_sem] theorem fld_160_4 : fldI Try.prog 160 4 = some (4, 1, false) := by kernel_rfl
@[go_sem] theorem fld_160_5 : fldI Try.prog 160 5 = some (5, 1, false) := by kernel_rfl
@[go_sem] theorem fld_160_6 : fldI Try.prog 160 6 = some (6, 1, false) := by kernel_rfl
@[go_sem] theorem fld_160_7 : fldI Try.prog 160 7 = some (7, 1, false) := by kernel_rfl
@[go_sem] theorem tyI_161 : tyI Try.prog 161 = some { agg := true, size := 11, bytes := 48 } := by kernel_rfl
@[go_sem] theorem kindT_161 : kindT Try.prog 161 = 6 := by kernel_rfl
@[go_sem] theorem hasT_161 : hasT Try.prog 161 = true := by kernel_rfl
@[go_sem] theorem zeroI_161 : zeroI Try.prog 161 = some [Go.Av.AV.lit (Go.Value.int Go.IntKind.u64 0), Go.Av.AV.lit (Go.Value.int Go.IntKind.u64 0), Go.Av.AV.lit (Go.Value.int Go.IntKind.u32 0), Go.Av.AV.lit (Go.Value.int Go.IntKind.u8 0), Go.Av.AV.lit (Go.Value.int Go.IntKind.u8 0), Go.Av.AV.lit (Go.Value.int Go.IntKind.u8 0), Go.Av.AV.lit (Go.Value.int Go.IntKind.u8 0), Go.Av.AV.lit Go.Value.nilFunc, Go.Av.AV.lit (Go.Value.pointer none), Go.Av.AV.lit (Go.Value.int Go.IntKind.i32 0), Go.Av.AV.lit (Go.Value.int Go.IntKind.i32 0)] := by kernel_rfl
@[go_sem] theorem bldT_161 : bldT Try.prog 161 = true := by kernel_rfl
@[go_sem] theorem fld_161_0 : fldI Try.prog 161 0 = some (0, 1, false) := by kernel_rfl
@[go_sem] theorem fld_161_1 : fldI Try.prog 161 1 = some (1, 1, false) := by kernel_rfl
@[go_sem] theorem fld_161_2 : fldI Try.prog 161 2 = some (2, 1, false) := by kernel_rfl
@[go_sem] theorem fld_161_3 : fldI Try.prog 161 3 = some (3, 1, false) := by kernel_rfl
@[go_sem] theorem fld_161_4 : fldI Try.prog 161 4 = some (4, 1, false) := by kernel_rfl
@[go_sem] theorem fld_161_5 : fldI Try.prog 161 5 = some (5, 1, false) := by kernel_rfl
@[go_sem] theorem fld_161_6 : fldI Try.prog 161 6 = some (6, 1, false) := by kernel_rfl
@[go_sem] theorem fld_161_7 : fldI Try.prog 161 7 = some (7, 1, false) := by kernel_rfl
@[go_sem] theorem tyI_162 : tyI Try.prog 162 = some { agg := false, size := 1, bytes := 8 } := by kernel_rfl
@[go_sem] theorem kindT_162 : kindT Try.prog 162 = 0 := by kernel_rfl
@[go_sem] theorem hasT_162 : hasT Try.prog 162 = true := by kernel_rfl
@[go_sem] theorem zeroI_162 : zeroI Try.prog 162 = some [Go.Av.AV.lit (Go.Value.pointer none)] := by kernel_rfl
@[go_sem] theorem callable_2 : callable Try.prog 2 = true := by kernel_rfl
@[go_sem] theorem callable_3 : callable Try.prog 3 = true := by kernel_rfl
@[go_sem] theorem callable_4 : callable Try.prog 4 = true := by kernel_rfl
@[go_sem] theorem callable_5 : callable Try.prog 5 = true := by kernel_rfl
@[go_sem] theorem callable_6 : callable Try.prog 6 = true := by kernel_rfl
@[go_sem] theorem callable_7 : callable Try.prog 7 = true := by kernel_rfl
@[go_sem] theorem callable_8 : callable Try.prog 8 = true := by kernel_rfl
@[go_sem] theorem callable_9 : callable Try.prog 9 = true := by kernel_rfl
@[go_sem] theorem callable_10 : callable Try.prog 10 = true := by kernel_rfl
@[go_sem] theorem callable_11 : callable Try.prog 11 = true := by kernel_rfl
@[go_sem] theorem callable_12 : callable Try.prog 12 = true := by kernel_rfl
@[go_sem] theorem callable_13 : callable Try.prog 13 = true := by kernel_rfl
@[go_sem] theorem callable_14 : callable Try.prog 14 = true := by kernel_rfl
@[go_sem] theorem callable_15 : callable Try.prog 15 = true := by kernel_rfl
@[go_sem] theorem callable_16 : callable Try.prog 16 = true := by kernel_rfl
@[go_sem] theorem callable_17 : callable Try.prog 17 = true := by kernel_rfl
@[go_sem] theorem callable_18 : callable Try.prog 18 = true := by kernel_rfl
@[go_sem] theorem callable_19 : callable Try.prog 19 = true := by kernel_rfl
@[go_sem] theorem callable_20 : callable Try.prog 20 = true := by kernel_rfl
@[go_sem] theorem callable_21 : callable Try.prog 21 = true := by kernel_rfl
@[go_sem] theorem callable_22 : callable Try.prog 22 = true := by kernel_rfl
@[go_sem] theorem callable_23 : callable Try.prog 23 = true := by kernel_rfl
@[go_sem] theorem callable_24 : callable Try.prog 24 = true := by kernel_rfl
@[go_sem] theorem callable_25 : callable Try.prog 25 = true := by kernel_rfl
@[go_sem] theorem callable_26 : callable Try.prog 26 = true := by kernel_rfl
@[go_sem] theorem callable_27 : callable Try.prog 27 = true := by kernel_rfl
@[go_sem] theorem callable_28 : callable Try.prog 28 = true := by kernel_rfl
@[go_sem] theorem callable_29 : callable Try.prog 29 = true := by kernel_rfl
@[go_sem] theorem callable_30 : callable Try.prog 30 = true := by kernel_rfl
@[go_sem] theorem callable_31 : callable Try.prog 31 = true := by kernel_rfl
@[go_sem] theorem callable_32 : callable Try.prog 32 = true := by kernel_rfl
@[go_sem] theorem callable_33 : callable Try.prog 33 = true := by kernel_rfl
@[go_sem] theorem callable_34 : callable Try.prog 34 = true := by kernel_rfl
@[go_sem] theorem callable_35 : callable Try.prog 35 = true := by kernel_rfl
@[go_sem] theorem callable_36 : callable Try.prog 36 = true := by kernel_rfl
@[go_sem] theorem callable_37 : callable Try.prog 37 = true := by kernel_rfl
@[go_sem] theorem callable_38 : callable Try.prog 38 = true := by kernel_rfl
@[go_sem] theorem callable_39 : callable Try.prog 39 = true := by kernel_rfl
@[go_sem] theorem callable_40 : callable Try.prog 40 = true := by kernel_rfl
@[go_sem] theorem callable_41 : callable Try.prog 41 = true := by kernel_rfl
@[go_sem] theorem callable_42 : callable Try.prog 42 = true := by kernel_rfl
@[go_sem] theorem callable_43 : callable Try.prog 43 = true := by kernel_rfl
@[go_sem] theorem callable_44 : callable Try.prog 44 = true := by kernel_rfl
@[go_sem] theorem callable_45 : callable Try.prog 45 = true := by kernel_rfl
@[go_sem] theorem callable_46 : callable Try.prog 46 = true := by kernel_rfl
@[go_sem] theorem callable_47 : callable Try.prog 47 = true := by kernel_rfl
@[go_sem] theorem callable_48 : callable Try.prog 48 = true := by kernel_rfl
@[go_sem] theorem callable_49 : callable Try.prog 49 = true := by kernel_rfl
@[go_sem] theorem callable_50 : callable Try.prog 50 = true := by kernel_rfl
@[go_sem] theorem callable_51 : callable Try.prog 51 = true := by kernel_rfl
@[go_sem] theorem callable_52 : callable Try.prog 52 = true := by kernel_rfl
@[go_sem] theorem callable_53 : callable Try.prog 53 = true := by kernel_rfl
@[go_sem] theorem callable_54 : callable Try.prog 54 = true := by kernel_rfl
@[go_sem] theorem callable_55 : callable Try.prog 55 = true := by kernel_rfl
@[go_sem] theorem callable_56 : callable Try.prog 56 = true := by kernel_rfl
@[go_sem] theorem callable_57 : callable Try.prog 57 = true := by kernel_rfl
@[go_sem] theorem callable_58 : callable Try.prog 58 = true := by kernel_rfl
@[go_sem] theorem callable_59 : callable Try.prog 59 = true := by kernel_rfl
@[go_sem] theorem callable_60 : callable Try.prog 60 = true := by kernel_rfl
@[go_sem] theorem callable_61 : callable Try.prog 61 = true := by kernel_rfl
@[go_sem] theorem callable_62 : callable Try.prog 62 = true := by kernel_rfl
@[go_sem] theorem callable_63 : callable Try.prog 63 = true := by kernel_rfl
@[go_sem] theorem callable_64 : callable Try.prog 64 = true := by kernel_rfl
@[go_sem] theorem callable_65 : callable Try.prog 65 = true := by kernel_rfl
@[go_sem] theorem callable_66 : callable Try.prog 66 = true := by kernel_rfl
@[go_sem] theorem callable_67 : callable Try.prog 67 = true := by kernel_rfl
@[go_sem] theorem callable_68 : callable Try.prog 68 = true := by kernel_rfl
@[go_sem] theorem callable_69 : callable Try.prog 69 = true := by kernel_rfl
@[go_sem] theorem callable_70 : callable Try.prog 70 = true := by kernel_rfl
@[go_sem] theorem callable_71 : callable Try.prog 71 = true := by kernel_rfl
@[go_sem] theorem callable_72 : callable Try.prog 72 = true := by kernel_rfl
@[go_sem] theorem callable_73 : callable Try.prog 73 = true := by kernel_rfl
@[go_sem] theorem callable_74 : callable Try.prog 74 = true := by kernel_rfl
@[go_sem] theorem callable_75 : callable Try.prog 75 = true := by kernel_rfl
@[go_sem] theorem callable_76 : callable Try.prog 76 = true := by kernel_rfl
@[go_sem] theorem callable_77 : callable Try.prog 77 = true := by kernel_rfl
@[go_sem] theorem callable_78 : callable Try.prog 78 = true := by kernel_rfl
@[go_sem] theorem callable_79 : callable Try.prog 79 = true := by kernel_rfl
@[go_sem] theorem callable_80 : callable Try.prog 80 = true := by kernel_rfl
@[go_sem] theorem callable_81 : callable Try.prog 81 = true := by kernel_rfl
@[go_sem] theorem callable_82 : callable Try.prog 82 = true := by kernel_rfl
@[go_sem] theorem callable_83 : callable Try.prog 83 = true := by kernel_rfl
@[go_sem] theorem callable_84 : callable Try.prog 84 = true := by kernel_rfl
@[go_sem] theorem callable_85 : callable Try.prog 85 = true := by kernel_rfl
@[go_sem] theorem callable_86 : callable Try.prog 86 = true := by kernel_rfl
@[go_sem] theorem callable_87 : callable Try.prog 87 = true := by kernel_rfl
@[go_sem] theorem callable_88 : callable Try.prog 88 = true := by kernel_rfl
@[go_sem] theorem callable_89 : callable Try.prog 89 = true := by kernel_rfl
@[go_sem] theorem callable_90 : callable Try.prog 90 = true := by kernel_rfl
@[go_sem] theorem callable_91 : callable Try.prog 91 = true := by kernel_rfl
@[go_sem] theorem callable_92 : callable Try.prog 92 = true := by kernel_rfl
@[go_sem] theorem callable_93 : callable Try.prog 93 = true := by kernel_rfl
@[go_sem] theorem callable_94 : callable Try.prog 94 = true := by kernel_rfl
@[go_sem] theorem callable_95 : callable Try.prog 95 = true := by kernel_rfl
@[go_sem] theorem callable_96 : callable Try.prog 96 = true := by kernel_rfl
@[go_sem] theorem callable_97 : callable Try.prog 97 = true := by kernel_rfl
@[go_sem] theorem callable_98 : callable Try.prog 98 = true := by kernel_rfl
@[go_sem] theorem callable_99 : callable Try.prog 99 = true := by kernel_rfl
@[go_sem] theorem callable_100 : callable Try.prog 100 = true := by kernel_rfl
@[go_sem] theorem callable_101 : callable Try.prog 101 = true := by kernel_rfl
@[go_sem] theorem callable_102 : callable Try.prog 102 = true := by kernel_rfl
@[go_sem] theorem callable_103 : callable Try.prog 103 = true := by kernel_rfl
@[go_sem] theorem callable_104 : callable Try.prog 104 = true := by kernel_rfl
@[go_sem] theorem callable_105 : callable Try.prog 105 = true := by kernel_rfl
@[go_sem] theorem callable_106 : callable Try.prog 106 = true := by kernel_rfl
@[go_sem] theorem callable_107 : callable Try.prog 107 = true := by kernel_rfl
@[go_sem] theorem callable_108 : callable Try.prog 108 = true := by kernel_rfl
@[go_sem] theorem callable_109 : callable Try.prog 109 = true := by kernel_rfl
@[go_sem] theorem callable_110 : callable Try.prog 110 = true := by kernel_rfl
@[go_sem] theorem callable_111 : callable Try.prog 111 = true := by kernel_rfl
@[go_sem] theorem callable_112 : callable Try.prog 112 = true := by kernel_rfl
@[go_sem] theorem callable_113 : callable Try.prog 113 = true := by kernel_rfl
@[go_sem] theorem callable_114 : callable Try.prog 114 = true := by kernel_rfl
@[go_sem] theorem callable_115 : callable Try.prog 115 = true := by kernel_rfl
@[go_sem] theorem callable_116 : callable Try.prog 116 = true := by kernel_rfl
@[go_sem] theorem callable_117 : callable Try.prog 117 = true := by kernel_rfl
@[go_sem] theorem callable_118 : callable Try.prog 118 = true := by kernel_rfl
@[go_sem] theorem callable_119 : callable Try.prog 119 = true := by kernel_rfl
@[go_sem] theorem callable_120 : callable Try.prog 120 = true := by kernel_rfl
@[go_sem] theorem callable_121 : callable Try.prog 121 = true := by kernel_rfl
@[go_sem] theorem callable_122 : callable Try.prog 122 = true := by kernel_rfl
@[go_sem] theorem callable_123 : callable Try.prog 123 = true := by kernel_rfl
@[go_sem] theorem callable_124 : callable Try.prog 124 = true := by kernel_rfl
@[go_sem] theorem callable_125 : callable Try.prog 125 = true := by kernel_rfl
@[go_sem] theorem callable_126 : callable Try.prog 126 = true := by kernel_rfl
@[go_sem] theorem callable_127 : callable Try.prog 127 = true := by kernel_rfl
@[go_sem] theorem callable_128 : callable Try.prog 128 = true := by kernel_rfl
@[go_sem] theorem callable_129 : callable Try.prog 129 = true := by kernel_rfl
@[go_sem] theorem callable_130 : callable Try.prog 130 = true := by kernel_rfl
@[go_sem] theorem callable_131 : callable Try.prog 131 = true := by kernel_rfl
@[go_sem] theorem callable_132 : callable Try.prog 132 = true := by kernel_rfl
@[go_sem] theorem callable_133 : callable Try.prog 133 = true := by kernel_rfl
@[go_sem] theorem callable_134 : callable Try.prog 134 = true := by kernel_rfl
@[go_sem] theorem callable_135 : callable Try.prog 135 = true := by kernel_rfl
@[go_sem] theorem callable_136 : callable Try.prog 136 = true := by kernel_rfl
@[go_sem] theorem callable_137 : callable Try.prog 137 = true := by kernel_rfl
@[go_sem] theorem callable_138 : callable Try.prog 138 = true := by kernel_rfl
@[go_sem] theorem callable_139 : callable Try.prog 139 = true := by kernel_rfl
@[go_sem] theorem callable_140 : callable Try.prog 140 = true := by kernel_rfl
@[go_sem] theorem callable_141 : callable Try.prog 141 = true := by kernel_rfl
@[go_sem] theorem callable_142 : callable Try.prog 142 = true := by kernel_rfl
@[go_sem] theorem callable_143 : callable Try.prog 143 = true := by kernel_rfl
@[go_sem] theorem callable_144 : callable Try.prog 144 = true := by kernel_rfl
@[go_sem] theorem callable_145 : callable Try.prog 145 = true := by kernel_rfl
@[go_sem] theorem callable_146 : callable Try.prog 146 = true := by kernel_rfl
@[go_sem] theorem callable_147 : callable Try.prog 147 = true := by kernel_rfl
@[go_sem] theorem callable_148 : callable Try.prog 148 = true := by kernel_rfl
@[go_sem] theorem callable_149 : callable Try.prog 149 = true := by kernel_rfl
@[go_sem] theorem callable_150 : callable Try.prog 150 = true := by kernel_rfl
@[go_sem] theorem callable_151 : callable Try.prog 151 = true := by kernel_rfl
@[go_sem] theorem callable_152 : callable Try.prog 152 = true := by kernel_rfl
@[go_sem] theorem callable_153 : callable Try.prog 153 = true := by kernel_rfl
@[go_sem] theorem callable_154 : callable Try.prog 154 = true := by kernel_rfl
@[go_sem] theorem callable_155 : callable Try.prog 155 = true := by kernel_rfl
@[go_sem] theorem callable_156 : callable Try.prog 156 = true := by kernel_rfl
theorem mixed : Try.prog.follows .mixedOrders = true := by kernel_rfl
end Go.Proofs.Ytjinngfpbmkhaaa.Ty
