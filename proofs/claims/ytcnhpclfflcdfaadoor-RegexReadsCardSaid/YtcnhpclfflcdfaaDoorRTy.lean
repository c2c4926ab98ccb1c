import Derived.Test.YtcnhpclfflcdfaaDoorProg
import Derived.Test.YtcnhpclfflcdfaaDoorRAvZ
import Derived.KernelRfl
/- Facts of the type table, for the evaluator. -/
namespace Go.Proofs.YtcnhpclfflcdfaaDoorR.Ty
open Go Go.Av
@[go_sem] theorem tyI_0 : tyI Tryd.prog 0 = some { agg := false, size := 1, bytes := 0 } := by kernel_rfl
@[go_sem] theorem kindT_0 : kindT Tryd.prog 0 = 0 := by kernel_rfl
@[go_sem] theorem hasT_0 : hasT Tryd.prog 0 = true := by kernel_rfl
@[go_sem] theorem tyI_1 : tyI Tryd.prog 1 = some { agg := false, size := 1, bytes := 8 } := by kernel_rfl
@[go_sem] theorem kindT_1 : kindT Tryd.prog 1 = 9 := by kernel_rfl
@[go_sem] theorem hasT_1 : hasT Tryd.prog 1 = true := by kernel_rfl
@[go_sem] theorem zeroI_1 : zeroI Tryd.prog 1 = some [Go.Av.AV.lit Go.Value.nilFunc] := by kernel_rfl
@[go_sem] theorem tyI_2 : tyI Tryd.prog 2 = some { agg := false, size := 1, bytes := 8 } := by kernel_rfl
@[go_sem] theorem kindT_2 : kindT Tryd.prog 2 = 2 := by kernel_rfl
@[go_sem] theorem intT_2 : intT Tryd.prog 2 = some Go.IntKind.i64 := by kernel_rfl
@[go_sem] theorem hasT_2 : hasT Tryd.prog 2 = true := by kernel_rfl
@[go_sem] theorem zeroI_2 : zeroI Tryd.prog 2 = some [Go.Av.AV.lit (Go.Value.int Go.IntKind.i64 0)] := by kernel_rfl
@[go_sem] theorem tyI_3 : tyI Tryd.prog 3 = some { agg := false, size := 1, bytes := 8 } := by kernel_rfl
@[go_sem] theorem kindT_3 : kindT Tryd.prog 3 = 2 := by kernel_rfl
@[go_sem] theorem intT_3 : intT Tryd.prog 3 = some Go.IntKind.i64 := by kernel_rfl
@[go_sem] theorem hasT_3 : hasT Tryd.prog 3 = true := by kernel_rfl
@[go_sem] theorem zeroI_3 : zeroI Tryd.prog 3 = some [Go.Av.AV.lit (Go.Value.int Go.IntKind.i64 0)] := by kernel_rfl
@[go_sem] theorem tyI_4 : tyI Tryd.prog 4 = some { agg := false, size := 1, bytes := 1 } := by kernel_rfl
@[go_sem] theorem kindT_4 : kindT Tryd.prog 4 = 1 := by kernel_rfl
@[go_sem] theorem hasT_4 : hasT Tryd.prog 4 = true := by kernel_rfl
@[go_sem] theorem zeroI_4 : zeroI Tryd.prog 4 = some [Go.Av.AV.lit (Go.Value.bool false)] := by kernel_rfl
@[go_sem] theorem tyI_5 : tyI Tryd.prog 5 = some { agg := false, size := 1, bytes := 1 } := by kernel_rfl
@[go_sem] theorem kindT_5 : kindT Tryd.prog 5 = 2 := by kernel_rfl
@[go_sem] theorem intT_5 : intT Tryd.prog 5 = some Go.IntKind.u8 := by kernel_rfl
@[go_sem] theorem hasT_5 : hasT Tryd.prog 5 = true := by kernel_rfl
@[go_sem] theorem zeroI_5 : zeroI Tryd.prog 5 = some [Go.Av.AV.lit (Go.Value.int Go.IntKind.u8 0)] := by kernel_rfl
@[go_sem] theorem tyI_6 : tyI Tryd.prog 6 = some { agg := false, size := 1, bytes := 1 } := by kernel_rfl
@[go_sem] theorem kindT_6 : kindT Tryd.prog 6 = 2 := by kernel_rfl
@[go_sem] theorem intT_6 : intT Tryd.prog 6 = some Go.IntKind.u8 := by kernel_rfl
@[go_sem] theorem hasT_6 : hasT Tryd.prog 6 = true := by kernel_rfl
@[go_sem] theorem zeroI_6 : zeroI Tryd.prog 6 = some [Go.Av.AV.lit (Go.Value.int Go.IntKind.u8 0)] := by kernel_rfl
@[go_sem] theorem tyI_7 : tyI Tryd.prog 7 = some { agg := true, size := 4, bytes := 24 } := by kernel_rfl
@[go_sem] theorem kindT_7 : kindT Tryd.prog 7 = 6 := by kernel_rfl
@[go_sem] theorem hasT_7 : hasT Tryd.prog 7 = true := by kernel_rfl
@[go_sem] theorem zeroI_7 : zeroI Tryd.prog 7 = some [Go.Av.AV.lit (Go.Value.int Go.IntKind.i64 0), Go.Av.AV.lit (Go.Value.int Go.IntKind.i64 0), Go.Av.AV.lit (Go.Value.bool false), Go.Av.AV.lit (Go.Value.int Go.IntKind.u8 0)] := by kernel_rfl
@[go_sem] theorem bldT_7 : bldT Tryd.prog 7 = true := by kernel_rfl
@[go_sem] theorem eqT_7 : eqT Tryd.prog 7 = some [(0, 2), (1, 2), (2, 1), (3, 2)] := by kernel_rfl
@[go_sem] theorem fld_7_0 : fldI Tryd.prog 7 0 = some (0, 1, false) := by kernel_rfl
@[go_sem] theorem fld_7_1 : fldI Tryd.prog 7 1 = some (1, 1, false) := by kernel_rfl
@[go_sem] theorem fld_7_2 : fldI Tryd.prog 7 2 = some (2, 1, false) := by kernel_rfl
@[go_sem] theorem fld_7_3 : fldI Tryd.prog 7 3 = some (3, 1, false) := by kernel_rfl
@[go_sem] theorem tyI_8 : tyI Tryd.prog 8 = some { agg := true, size := 4, bytes := 24 } := by kernel_rfl
@[go_sem] theorem kindT_8 : kindT Tryd.prog 8 = 6 := by kernel_rfl
@[go_sem] theorem hasT_8 : hasT Tryd.prog 8 = true := by kernel_rfl
@[go_sem] theorem zeroI_8 : zeroI Tryd.prog 8 = some [Go.Av.AV.lit (Go.Value.int Go.IntKind.i64 0), Go.Av.AV.lit (Go.Value.int Go.IntKind.i64 0), Go.Av.AV.lit (Go.Value.bool false), Go.Av.AV.lit (Go.Value.int Go.IntKind.u8 0)] := by kernel_rfl
@[go_sem] theorem bldT_8 : bldT Tryd.prog 8 = true := by kernel_rfl
@[go_sem] theorem eqT_8 : eqT Tryd.prog 8 = some [(0, 2), (1, 2), (2, 1), (3, 2)] := by kernel_rfl
@[go_sem] theorem fld_8_0 : fldI Tryd.prog 8 0 = some (0, 1, false) := by kernel_rfl
@[go_sem] theorem fld_8_1 : fldI Tryd.prog 8 1 = some (1, 1, false) := by kernel_rfl
@[go_sem] theorem fld_8_2 : fldI Tryd.prog 8 2 = some (2, 1, false) := by kernel_rfl
@[go_sem] theorem fld_8_3 : fldI Tryd.prog 8 3 = some (3, 1, false) := by kernel_rfl
@[go_sem] theorem tyI_9 : tyI Tryd.prog 9 = some { agg := false, size := 1, bytes := 16 } := by kernel_rfl
@[go_sem] theorem kindT_9 : kindT Tryd.prog 9 = 3 := by kernel_rfl
@[go_sem] theorem hasT_9 : hasT Tryd.prog 9 = true := by kernel_rfl
@[go_sem] theorem zeroI_9 : zeroI Tryd.prog 9 = some [Go.Av.AV.lit (Go.Value.string ⟨#[]⟩)] := by kernel_rfl
@[go_sem] theorem tyI_10 : tyI Tryd.prog 10 = some { agg := false, size := 1, bytes := 16 } := by kernel_rfl
@[go_sem] theorem kindT_10 : kindT Tryd.prog 10 = 3 := by kernel_rfl
@[go_sem] theorem hasT_10 : hasT Tryd.prog 10 = true := by kernel_rfl
@[go_sem] theorem zeroI_10 : zeroI Tryd.prog 10 = some [Go.Av.AV.lit (Go.Value.string ⟨#[]⟩)] := by kernel_rfl
@[go_sem] theorem tyI_11 : tyI Tryd.prog 11 = some { agg := false, size := 1, bytes := 16 } := by kernel_rfl
@[go_sem] theorem kindT_11 : kindT Tryd.prog 11 = 3 := by kernel_rfl
@[go_sem] theorem hasT_11 : hasT Tryd.prog 11 = true := by kernel_rfl
@[go_sem] theorem zeroI_11 : zeroI Tryd.prog 11 = some [Go.Av.AV.lit (Go.Value.string ⟨#[]⟩)] := by kernel_rfl
@[go_sem] theorem tyI_12 : tyI Tryd.prog 12 = some { agg := false, size := 1, bytes := 8 } := by kernel_rfl
@[go_sem] theorem kindT_12 : kindT Tryd.prog 12 = 2 := by kernel_rfl
@[go_sem] theorem intT_12 : intT Tryd.prog 12 = some Go.IntKind.u64 := by kernel_rfl
@[go_sem] theorem hasT_12 : hasT Tryd.prog 12 = true := by kernel_rfl
@[go_sem] theorem zeroI_12 : zeroI Tryd.prog 12 = some [Go.Av.AV.lit (Go.Value.int Go.IntKind.u64 0)] := by kernel_rfl
@[go_sem] theorem tyI_13 : tyI Tryd.prog 13 = some { agg := true, size := 2, bytes := 24 } := by kernel_rfl
@[go_sem] theorem kindT_13 : kindT Tryd.prog 13 = 6 := by kernel_rfl
@[go_sem] theorem hasT_13 : hasT Tryd.prog 13 = true := by kernel_rfl
@[go_sem] theorem zeroI_13 : zeroI Tryd.prog 13 = some [Go.Av.AV.lit (Go.Value.string ⟨#[]⟩), Go.Av.AV.lit (Go.Value.int Go.IntKind.u64 0)] := by kernel_rfl
@[go_sem] theorem bldT_13 : bldT Tryd.prog 13 = true := by kernel_rfl
@[go_sem] theorem fld_13_0 : fldI Tryd.prog 13 0 = some (0, 1, false) := by kernel_rfl
@[go_sem] theorem fld_13_1 : fldI Tryd.prog 13 1 = some (1, 1, false) := by kernel_rfl
@[go_sem] theorem tyI_14 : tyI Tryd.prog 14 = some { agg := true, size := 2, bytes := 24 } := by kernel_rfl
@[go_sem] theorem kindT_14 : kindT Tryd.prog 14 = 6 := by kernel_rfl
@[go_sem] theorem hasT_14 : hasT Tryd.prog 14 = true := by kernel_rfl
@[go_sem] theorem zeroI_14 : zeroI Tryd.prog 14 = some [Go.Av.AV.lit (Go.Value.string ⟨#[]⟩), Go.Av.AV.lit (Go.Value.int Go.IntKind.u64 0)] := by kernel_rfl
@[go_sem] theorem bldT_14 : bldT Tryd.prog 14 = true := by kernel_rfl
@[go_sem] theorem fld_14_0 : fldI Tryd.prog 14 0 = some (0, 1, false) := by kernel_rfl
@[go_sem] theorem fld_14_1 : fldI Tryd.prog 14 1 = some (1, 1, false) := by kernel_rfl
@[go_sem] theorem tyI_15 : tyI Tryd.prog 15 = some { agg := false, size := 1, bytes := 8 } := by kernel_rfl
@[go_sem] theorem kindT_15 : kindT Tryd.prog 15 = 4 := by kernel_rfl
@[go_sem] theorem hasT_15 : hasT Tryd.prog 15 = true := by kernel_rfl
@[go_sem] theorem zeroI_15 : zeroI Tryd.prog 15 = some [Go.Av.AV.lit (Go.Value.pointer none)] := by kernel_rfl
@[go_sem] theorem tyI_16 : tyI Tryd.prog 16 = some { agg := false, size := 1, bytes := 8 } := by kernel_rfl
@[go_sem] theorem kindT_16 : kindT Tryd.prog 16 = 4 := by kernel_rfl
@[go_sem] theorem hasT_16 : hasT Tryd.prog 16 = true := by kernel_rfl
@[go_sem] theorem zeroI_16 : zeroI Tryd.prog 16 = some [Go.Av.AV.lit (Go.Value.pointer none)] := by kernel_rfl
@[go_sem] theorem tyI_17 : tyI Tryd.prog 17 = some { agg := false, size := 1, bytes := 8 } := by kernel_rfl
@[go_sem] theorem kindT_17 : kindT Tryd.prog 17 = 4 := by kernel_rfl
@[go_sem] theorem hasT_17 : hasT Tryd.prog 17 = true := by kernel_rfl
@[go_sem] theorem zeroI_17 : zeroI Tryd.prog 17 = some [Go.Av.AV.lit (Go.Value.pointer none)] := by kernel_rfl
@[go_sem] theorem tyI_18 : tyI Tryd.prog 18 = some { agg := true, size := 1, bytes := 8 } := by kernel_rfl
@[go_sem] theorem kindT_18 : kindT Tryd.prog 18 = 6 := by kernel_rfl
@[go_sem] theorem hasT_18 : hasT Tryd.prog 18 = true := by kernel_rfl
@[go_sem] theorem zeroI_18 : zeroI Tryd.prog 18 = some [Go.Av.AV.lit (Go.Value.pointer none)] := by kernel_rfl
@[go_sem] theorem bldT_18 : bldT Tryd.prog 18 = true := by kernel_rfl
@[go_sem] theorem fld_18_0 : fldI Tryd.prog 18 0 = some (0, 1, false) := by kernel_rfl
@[go_sem] theorem tyI_19 : tyI Tryd.prog 19 = some { agg := true, size := 1, bytes := 8 } := by kernel_rfl
@[go_sem] theorem kindT_19 : kindT Tryd.prog 19 = 6 := by kernel_rfl
@[go_sem] theorem hasT_19 : hasT Tryd.prog 19 = true := by kernel_rfl
@[go_sem] theorem zeroI_19 : zeroI Tryd.prog 19 = some [Go.Av.AV.lit (Go.Value.pointer none)] := by kernel_rfl
@[go_sem] theorem bldT_19 : bldT Tryd.prog 19 = true := by kernel_rfl
@[go_sem] theorem fld_19_0 : fldI Tryd.prog 19 0 = some (0, 1, false) := by kernel_rfl
@[go_sem] theorem tyI_20 : tyI Tryd.prog 20 = some { agg := false, size := 1, bytes := 16 } := by kernel_rfl
@[go_sem] theorem kindT_20 : kindT Tryd.prog 20 = 0 := by kernel_rfl
@[go_sem] theorem hasT_20 : hasT Tryd.prog 20 = true := by kernel_rfl
@[go_sem] theorem zeroI_20 : zeroI Tryd.prog 20 = some [Go.Av.AV.lit Go.Value.nilIface] := by kernel_rfl
@[go_sem] theorem tyI_21 : tyI Tryd.prog 21 = some { agg := false, size := 1, bytes := 4 } := by kernel_rfl
@[go_sem] theorem kindT_21 : kindT Tryd.prog 21 = 2 := by kernel_rfl
@[go_sem] theorem intT_21 : intT Tryd.prog 21 = some Go.IntKind.i32 := by kernel_rfl
@[go_sem] theorem hasT_21 : hasT Tryd.prog 21 = true := by kernel_rfl
@[go_sem] theorem zeroI_21 : zeroI Tryd.prog 21 = some [Go.Av.AV.lit (Go.Value.int Go.IntKind.i32 0)] := by kernel_rfl
@[go_sem] theorem tyI_22 : tyI Tryd.prog 22 = some { agg := true, size := 3, bytes := 32 } := by kernel_rfl
@[go_sem] theorem kindT_22 : kindT Tryd.prog 22 = 6 := by kernel_rfl
@[go_sem] theorem hasT_22 : hasT Tryd.prog 22 = true := by kernel_rfl
@[go_sem] theorem zeroI_22 : zeroI Tryd.prog 22 = some [Go.Av.AV.lit (Go.Value.int Go.IntKind.i64 0), Go.Av.AV.lit (Go.Value.int Go.IntKind.i64 0), Go.Av.AV.lit (Go.Value.string ⟨#[]⟩)] := by kernel_rfl
@[go_sem] theorem bldT_22 : bldT Tryd.prog 22 = true := by kernel_rfl
@[go_sem] theorem eqT_22 : eqT Tryd.prog 22 = some [(0, 2), (1, 2), (2, 3)] := by kernel_rfl
@[go_sem] theorem fld_22_0 : fldI Tryd.prog 22 0 = some (0, 1, false) := by kernel_rfl
@[go_sem] theorem fld_22_1 : fldI Tryd.prog 22 1 = some (1, 1, false) := by kernel_rfl
@[go_sem] theorem fld_22_2 : fldI Tryd.prog 22 2 = some (2, 1, false) := by kernel_rfl
@[go_sem] theorem tyI_23 : tyI Tryd.prog 23 = some { agg := true, size := 3, bytes := 32 } := by kernel_rfl
@[go_sem] theorem kindT_23 : kindT Tryd.prog 23 = 6 := by kernel_rfl
@[go_sem] theorem hasT_23 : hasT Tryd.prog 23 = true := by kernel_rfl
@[go_sem] theorem zeroI_23 : zeroI Tryd.prog 23 = some [Go.Av.AV.lit (Go.Value.int Go.IntKind.i64 0), Go.Av.AV.lit (Go.Value.int Go.IntKind.i64 0), Go.Av.AV.lit (Go.Value.string ⟨#[]⟩)] := by kernel_rfl
@[go_sem] theorem bldT_23 : bldT Tryd.prog 23 = true := by kernel_rfl
@[go_sem] theorem eqT_23 : eqT Tryd.prog 23 = some [(0, 2), (1, 2), (2, 3)] := by kernel_rfl
@[go_sem] theorem fld_23_0 : fldI Tryd.prog 23 0 = some (0, 1, false) := by kernel_rfl
@[go_sem] theorem fld_23_1 : fldI Tryd.prog 23 1 = some (1, 1, false) := by kernel_rfl
@[go_sem] theorem fld_23_2 : fldI Tryd.prog 23 2 = some (2, 1, false) := by kernel_rfl
@[go_sem] theorem tyI_24 : tyI Tryd.prog 24 = some { agg := false, size := 1, bytes := 8 } := by kernel_rfl
@[go_sem] theorem kindT_24 : kindT Tryd.prog 24 = 9 := by kernel_rfl
@[go_sem] theorem hasT_24 : hasT Tryd.prog 24 = true := by kernel_rfl
@[go_sem] theorem zeroI_24 : zeroI Tryd.prog 24 = some [Go.Av.AV.lit Go.Value.nilFunc] := by kernel_rfl
@[go_sem] theorem tyI_25 : tyI Tryd.prog 25 = some { agg := false, size := 1, bytes := 8 } := by kernel_rfl
@[go_sem] theorem kindT_25 : kindT Tryd.prog 25 = 9 := by kernel_rfl
@[go_sem] theorem hasT_25 : hasT Tryd.prog 25 = true := by kernel_rfl
@[go_sem] theorem zeroI_25 : zeroI Tryd.prog 25 = some [Go.Av.AV.lit Go.Value.nilFunc] := by kernel_rfl
@[go_sem] theorem tyI_26 : tyI Tryd.prog 26 = some { agg := false, size := 1, bytes := 8 } := by kernel_rfl
@[go_sem] theorem kindT_26 : kindT Tryd.prog 26 = 2 := by kernel_rfl
@[go_sem] theorem intT_26 : intT Tryd.prog 26 = some Go.IntKind.i64 := by kernel_rfl
@[go_sem] theorem hasT_26 : hasT Tryd.prog 26 = true := by kernel_rfl
@[go_sem] theorem zeroI_26 : zeroI Tryd.prog 26 = some [Go.Av.AV.lit (Go.Value.int Go.IntKind.i64 0)] := by kernel_rfl
@[go_sem] theorem tyI_27 : tyI Tryd.prog 27 = some { agg := false, size := 1, bytes := 0 } := by kernel_rfl
@[go_sem] theorem kindT_27 : kindT Tryd.prog 27 = 0 := by kernel_rfl
@[go_sem] theorem hasT_27 : hasT Tryd.prog 27 = true := by kernel_rfl
@[go_sem] theorem tyI_28 : tyI Tryd.prog 28 = some { agg := false, size := 1, bytes := 8 } := by kernel_rfl
@[go_sem] theorem kindT_28 : kindT Tryd.prog 28 = 9 := by kernel_rfl
@[go_sem] theorem hasT_28 : hasT Tryd.prog 28 = true := by kernel_rfl
@[go_sem] theorem zeroI_28 : zeroI Tryd.prog 28 = some [Go.Av.AV.lit Go.Value.nilFunc] := by kernel_rfl
@[go_sem] theorem tyI_29 : tyI Tryd.prog 29 = some { agg := false, size := 1, bytes := 8 } := by kernel_rfl
@[go_sem] theorem kindT_29 : kindT Tryd.prog 29 = 9 := by kernel_rfl
@[go_sem] theorem hasT_29 : hasT Tryd.prog 29 = true := by kernel_rfl
@[go_sem] theorem zeroI_29 : zeroI Tryd.prog 29 = some [Go.Av.AV.lit Go.Value.nilFunc] := by kernel_rfl
@[go_sem] theorem tyI_30 : tyI Tryd.prog 30 = some { agg := false, size := 1, bytes := 8 } := by kernel_rfl
@[go_sem] theorem kindT_30 : kindT Tryd.prog 30 = 9 := by kernel_rfl
@[go_sem] theorem hasT_30 : hasT Tryd.prog 30 = true := by kernel_rfl
@[go_sem] theorem zeroI_30 : zeroI Tryd.prog 30 = some [Go.Av.AV.lit Go.Value.nilFunc] := by kernel_rfl
@[go_sem] theorem tyI_31 : tyI Tryd.prog 31 = some { agg := false, size := 1, bytes := 8 } := by kernel_rfl
@[go_sem] theorem kindT_31 : kindT Tryd.prog 31 = 9 := by kernel_rfl
@[go_sem] theorem hasT_31 : hasT Tryd.prog 31 = true := by kernel_rfl
@[go_sem] theorem zeroI_31 : zeroI Tryd.prog 31 = some [Go.Av.AV.lit Go.Value.nilFunc] := by kernel_rfl
@[go_sem] theorem tyI_32 : tyI Tryd.prog 32 = some { agg := false, size := 1, bytes := 8 } := by kernel_rfl
@[go_sem] theorem kindT_32 : kindT Tryd.prog 32 = 9 := by kernel_rfl
@[go_sem] theorem hasT_32 : hasT Tryd.prog 32 = true := by kernel_rfl
@[go_sem] theorem zeroI_32 : zeroI Tryd.prog 32 = some [Go.Av.AV.lit Go.Value.nilFunc] := by kernel_rfl
@[go_sem] theorem tyI_33 : tyI Tryd.prog 33 = some { agg := false, size := 1, bytes := 0 } := by kernel_rfl
@[go_sem] theorem kindT_33 : kindT Tryd.prog 33 = 0 := by kernel_rfl
@[go_sem] theorem hasT_33 : hasT Tryd.prog 33 = true := by kernel_rfl
@[go_sem] theorem tyI_34 : tyI Tryd.prog 34 = some { agg := false, size := 1, bytes := 8 } := by kernel_rfl
@[go_sem] theorem kindT_34 : kindT Tryd.prog 34 = 9 := by kernel_rfl
@[go_sem] theorem hasT_34 : hasT Tryd.prog 34 = true := by kernel_rfl
@[go_sem] theorem zeroI_34 : zeroI Tryd.prog 34 = some [Go.Av.AV.lit Go.Value.nilFunc] := by kernel_rfl
@[go_sem] theorem tyI_35 : tyI Tryd.prog 35 = some { agg := false, size := 1, bytes := 8 } := by kernel_rfl
@[go_sem] theorem kindT_35 : kindT Tryd.prog 35 = 9 := by kernel_rfl
@[go_sem] theorem hasT_35 : hasT Tryd.prog 35 = true := by kernel_rfl
@[go_sem] theorem zeroI_35 : zeroI Tryd.prog 35 = some [Go.Av.AV.lit Go.Value.nilFunc] := by kernel_rfl
@[go_sem] theorem tyI_36 : tyI Tryd.prog 36 = some { agg := false, size := 1, bytes := 24 } := by kernel_rfl
@[go_sem] theorem slT_36 : slT Tryd.prog 36 = some 70 := by kernel_rfl
@[go_sem] theorem kindT_36 : kindT Tryd.prog 36 = 5 := by kernel_rfl
@[go_sem] theorem hasT_36 : hasT Tryd.prog 36 = true := by kernel_rfl
@[go_sem] theorem zeroI_36 : zeroI Tryd.prog 36 = some [Go.Av.AV.isl (some true) [] Go.Av.Tk.full] := by kernel_rfl
@[go_sem] theorem tyI_37 : tyI Tryd.prog 37 = some { agg := false, size := 1, bytes := 0 } := by kernel_rfl
@[go_sem] theorem kindT_37 : kindT Tryd.prog 37 = 0 := by kernel_rfl
@[go_sem] theorem hasT_37 : hasT Tryd.prog 37 = true := by kernel_rfl
@[go_sem] theorem tyI_38 : tyI Tryd.prog 38 = some { agg := false, size := 1, bytes := 8 } := by kernel_rfl
@[go_sem] theorem kindT_38 : kindT Tryd.prog 38 = 9 := by kernel_rfl
@[go_sem] theorem hasT_38 : hasT Tryd.prog 38 = true := by kernel_rfl
@[go_sem] theorem zeroI_38 : zeroI Tryd.prog 38 = some [Go.Av.AV.lit Go.Value.nilFunc] := by kernel_rfl
@[go_sem] theorem tyI_39 : tyI Tryd.prog 39 = some { agg := false, size := 1, bytes := 8 } := by kernel_rfl
@[go_sem] theorem kindT_39 : kindT Tryd.prog 39 = 9 := by kernel_rfl
@[go_sem] theorem hasT_39 : hasT Tryd.prog 39 = true := by kernel_rfl
@[go_sem] theorem zeroI_39 : zeroI Tryd.prog 39 = some [Go.Av.AV.lit Go.Value.nilFunc] := by kernel_rfl
@[go_sem] theorem tyI_40 : tyI Tryd.prog 40 = some { agg := false, size := 1, bytes := 8 } := by kernel_rfl
@[go_sem] theorem kindT_40 : kindT Tryd.prog 40 = 9 := by kernel_rfl
@[go_sem] theorem hasT_40 : hasT Tryd.prog 40 = true := by kernel_rfl
@[go_sem] theorem zeroI_40 : zeroI Tryd.prog 40 = some [Go.Av.AV.lit Go.Value.nilFunc] := by kernel_rfl
@[go_sem] theorem tyI_41 : tyI Tryd.prog 41 = some { agg := false, size := 1, bytes := 8 } := by kernel_rfl
@[go_sem] theorem kindT_41 : kindT Tryd.prog 41 = 9 := by kernel_rfl
@[go_sem] theorem hasT_41 : hasT Tryd.prog 41 = true := by kernel_rfl
@[go_sem] theorem zeroI_41 : zeroI Tryd.prog 41 = some [Go.Av.AV.lit Go.Value.nilFunc] := by kernel_rfl
@[go_sem] theorem tyI_42 : tyI Tryd.prog 42 = some { agg := false, size := 1, bytes := 8 } := by kernel_rfl
@[go_sem] theorem kindT_42 : kindT Tryd.prog 42 = 9 := by kernel_rfl
@[go_sem] theorem hasT_42 : hasT Tryd.prog 42 = true := by kernel_rfl
@[go_sem] theorem zeroI_42 : zeroI Tryd.prog 42 = some [Go.Av.AV.lit Go.Value.nilFunc] := by kernel_rfl
@[go_sem] theorem tyI_43 : tyI Tryd.prog 43 = some { agg := false, size := 1, bytes := 8 } := by kernel_rfl
@[go_sem] theorem kindT_43 : kindT Tryd.prog 43 = 9 := by kernel_rfl
@[go_sem] theorem hasT_43 : hasT Tryd.prog 43 = true := by kernel_rfl
@[go_sem] theorem zeroI_43 : zeroI Tryd.prog 43 = some [Go.Av.AV.lit Go.Value.nilFunc] := by kernel_rfl
@[go_sem] theorem tyI_44 : tyI Tryd.prog 44 = some { agg := true, size := 2, bytes := 24 } := by kernel_rfl
@[go_sem] theorem kindT_44 : kindT Tryd.prog 44 = 6 := by kernel_rfl
@[go_sem] theorem hasT_44 : hasT Tryd.prog 44 = true := by kernel_rfl
@[go_sem] theorem zeroI_44 : zeroI Tryd.prog 44 = some [Go.Av.AV.lit (Go.Value.string ⟨#[]⟩), Go.Av.AV.lit (Go.Value.bool false)] := by kernel_rfl
@[go_sem] theorem bldT_44 : bldT Tryd.prog 44 = true := by kernel_rfl
@[go_sem] theorem eqT_44 : eqT Tryd.prog 44 = some [(0, 3), (1, 1)] := by kernel_rfl
@[go_sem] theorem fld_44_0 : fldI Tryd.prog 44 0 = some (0, 1, false) := by kernel_rfl
@[go_sem] theorem fld_44_1 : fldI Tryd.prog 44 1 = some (1, 1, false) := by kernel_rfl
@[go_sem] theorem tyI_45 : tyI Tryd.prog 45 = some { agg := true, size := 2, bytes := 24 } := by kernel_rfl
@[go_sem] theorem kindT_45 : kindT Tryd.prog 45 = 6 := by kernel_rfl
@[go_sem] theorem hasT_45 : hasT Tryd.prog 45 = true := by kernel_rfl
@[go_sem] theorem zeroI_45 : zeroI Tryd.prog 45 = some [Go.Av.AV.lit (Go.Value.string ⟨#[]⟩), Go.Av.AV.lit (Go.Value.bool false)] := by kernel_rfl
@[go_sem] theorem bldT_45 : bldT Tryd.prog 45 = true := by kernel_rfl
@[go_sem] theorem eqT_45 : eqT Tryd.prog 45 = some [(0, 3), (1, 1)] := by kernel_rfl
@[go_sem] theorem fld_45_0 : fldI Tryd.prog 45 0 = some (0, 1, false) := by kernel_rfl
@[go_sem] theorem fld_45_1 : fldI Tryd.prog 45 1 = some (1, 1, false) := by kernel_rfl
@[go_sem] theorem tyI_46 : tyI Tryd.prog 46 = some { agg := false, size := 1, bytes := 24 } := by kernel_rfl
@[go_sem] theorem slT_46 : slT Tryd.prog 46 = some 48 := by kernel_rfl
@[go_sem] theorem kindT_46 : kindT Tryd.prog 46 = 5 := by kernel_rfl
@[go_sem] theorem hasT_46 : hasT Tryd.prog 46 = true := by kernel_rfl
@[go_sem] theorem zeroI_46 : zeroI Tryd.prog 46 = some [Go.Av.AV.isl (some true) [] Go.Av.Tk.full] := by kernel_rfl
@[go_sem] theorem tyI_47 : tyI Tryd.prog 47 = some { agg := true, size := 4, bytes := 56 } := by kernel_rfl
@[go_sem] theorem kindT_47 : kindT Tryd.prog 47 = 6 := by kernel_rfl
@[go_sem] theorem hasT_47 : hasT Tryd.prog 47 = true := by kernel_rfl
@[go_sem] theorem zeroI_47 : zeroI Tryd.prog 47 = some [Go.Av.AV.lit (Go.Value.int Go.IntKind.i64 0), Go.Av.AV.lit (Go.Value.string ⟨#[]⟩), Go.Av.AV.lit (Go.Value.bool false), Go.Av.AV.isl (some true) [] Go.Av.Tk.full] := by kernel_rfl
@[go_sem] theorem bldT_47 : bldT Tryd.prog 47 = true := by kernel_rfl
@[go_sem] theorem fld_47_0 : fldI Tryd.prog 47 0 = some (0, 1, false) := by kernel_rfl
@[go_sem] theorem fld_47_1 : fldI Tryd.prog 47 1 = some (1, 2, true) := by kernel_rfl
@[go_sem] theorem fld_47_2 : fldI Tryd.prog 47 2 = some (3, 1, false) := by kernel_rfl
@[go_sem] theorem tyI_48 : tyI Tryd.prog 48 = some { agg := true, size := 4, bytes := 56 } := by kernel_rfl
@[go_sem] theorem kindT_48 : kindT Tryd.prog 48 = 6 := by kernel_rfl
@[go_sem] theorem hasT_48 : hasT Tryd.prog 48 = true := by kernel_rfl
@[go_sem] theorem zeroI_48 : zeroI Tryd.prog 48 = some [Go.Av.AV.lit (Go.Value.int Go.IntKind.i64 0), Go.Av.AV.lit (Go.Value.string ⟨#[]⟩), Go.Av.AV.lit (Go.Value.bool false), Go.Av.AV.isl (some true) [] Go.Av.Tk.full] := by kernel_rfl
@[go_sem] theorem bldT_48 : bldT Tryd.prog 48 = true := by kernel_rfl
@[go_sem] theorem fld_48_0 : fldI Tryd.prog 48 0 = some (0, 1, false) := by kernel_rfl
@[go_sem] theorem fld_48_1 : fldI Tryd.prog 48 1 = some (1, 2, true) := by kernel_rfl
@[go_sem] theorem fld_48_2 : fldI Tryd.prog 48 2 = some (3, 1, false) := by kernel_rfl
@[go_sem] theorem tyI_49 : tyI Tryd.prog 49 = some { agg := false, size := 1, bytes := 24 } := by kernel_rfl
@[go_sem] theorem slT_49 : slT Tryd.prog 49 = some 45 := by kernel_rfl
@[go_sem] theorem kindT_49 : kindT Tryd.prog 49 = 5 := by kernel_rfl
@[go_sem] theorem hasT_49 : hasT Tryd.prog 49 = true := by kernel_rfl
@[go_sem] theorem zeroI_49 : zeroI Tryd.prog 49 = some [Go.Av.AV.isl (some true) [] Go.Av.Tk.full] := by kernel_rfl
@[go_sem] theorem tyI_50 : tyI Tryd.prog 50 = some { agg := false, size := 1, bytes := 8 } := by kernel_rfl
@[go_sem] theorem kindT_50 : kindT Tryd.prog 50 = 9 := by kernel_rfl
@[go_sem] theorem hasT_50 : hasT Tryd.prog 50 = true := by kernel_rfl
@[go_sem] theorem zeroI_50 : zeroI Tryd.prog 50 = some [Go.Av.AV.lit Go.Value.nilFunc] := by kernel_rfl
@[go_sem] theorem tyI_51 : tyI Tryd.prog 51 = some { agg := false, size := 1, bytes := 8 } := by kernel_rfl
@[go_sem] theorem kindT_51 : kindT Tryd.prog 51 = 9 := by kernel_rfl
@[go_sem] theorem hasT_51 : hasT Tryd.prog 51 = true := by kernel_rfl
@[go_sem] theorem zeroI_51 : zeroI Tryd.prog 51 = some [Go.Av.AV.lit Go.Value.nilFunc] := by kernel_rfl
@[go_sem] theorem tyI_52 : tyI Tryd.prog 52 = some { agg := false, size := 1, bytes := 8 } := by kernel_rfl
@[go_sem] theorem kindT_52 : kindT Tryd.prog 52 = 9 := by kernel_rfl
@[go_sem] theorem hasT_52 : hasT Tryd.prog 52 = true := by kernel_rfl
@[go_sem] theorem zeroI_52 : zeroI Tryd.prog 52 = some [Go.Av.AV.lit Go.Value.nilFunc] := by kernel_rfl
@[go_sem] theorem tyI_53 : tyI Tryd.prog 53 = some { agg := false, size := 1, bytes := 8 } := by kernel_rfl
@[go_sem] theorem kindT_53 : kindT Tryd.prog 53 = 9 := by kernel_rfl
@[go_sem] theorem hasT_53 : hasT Tryd.prog 53 = true := by kernel_rfl
@[go_sem] theorem zeroI_53 : zeroI Tryd.prog 53 = some [Go.Av.AV.lit Go.Value.nilFunc] := by kernel_rfl
@[go_sem] theorem tyI_54 : tyI Tryd.prog 54 = some { agg := false, size := 1, bytes := 8 } := by kernel_rfl
@[go_sem] theorem kindT_54 : kindT Tryd.prog 54 = 9 := by kernel_rfl
@[go_sem] theorem hasT_54 : hasT Tryd.prog 54 = true := by kernel_rfl
@[go_sem] theorem zeroI_54 : zeroI Tryd.prog 54 = some [Go.Av.AV.lit Go.Value.nilFunc] := by kernel_rfl
@[go_sem] theorem tyI_55 : tyI Tryd.prog 55 = some { agg := false, size := 1, bytes := 0 } := by kernel_rfl
@[go_sem] theorem kindT_55 : kindT Tryd.prog 55 = 0 := by kernel_rfl
@[go_sem] theorem hasT_55 : hasT Tryd.prog 55 = true := by kernel_rfl
@[go_sem] theorem tyI_56 : tyI Tryd.prog 56 = some { agg := false, size := 1, bytes := 8 } := by kernel_rfl
@[go_sem] theorem kindT_56 : kindT Tryd.prog 56 = 9 := by kernel_rfl
@[go_sem] theorem hasT_56 : hasT Tryd.prog 56 = true := by kernel_rfl
@[go_sem] theorem zeroI_56 : zeroI Tryd.prog 56 = some [Go.Av.AV.lit Go.Value.nilFunc] := by kernel_rfl
@[go_sem] theorem tyI_57 : tyI Tryd.prog 57 = some { agg := false, size := 1, bytes := 8 } := by kernel_rfl
@[go_sem] theorem kindT_57 : kindT Tryd.prog 57 = 9 := by kernel_rfl
@[go_sem] theorem hasT_57 : hasT Tryd.prog 57 = true := by kernel_rfl
@[go_sem] theorem zeroI_57 : zeroI Tryd.prog 57 = some [Go.Av.AV.lit Go.Value.nilFunc] := by kernel_rfl
@[go_sem] theorem tyI_58 : tyI Tryd.prog 58 = some { agg := false, size := 1, bytes := 8 } := by kernel_rfl
@[go_sem] theorem kindT_58 : kindT Tryd.prog 58 = 9 := by kernel_rfl
@[go_sem] theorem hasT_58 : hasT Tryd.prog 58 = true := by kernel_rfl
@[go_sem] theorem zeroI_58 : zeroI Tryd.prog 58 = some [Go.Av.AV.lit Go.Value.nilFunc] := by kernel_rfl
@[go_sem] theorem tyI_59 : tyI Tryd.prog 59 = some { agg := false, size := 1, bytes := 8 } := by kernel_rfl
@[go_sem] theorem kindT_59 : kindT Tryd.prog 59 = 9 := by kernel_rfl
@[go_sem] theorem hasT_59 : hasT Tryd.prog 59 = true := by kernel_rfl
@[go_sem] theorem zeroI_59 : zeroI Tryd.prog 59 = some [Go.Av.AV.lit Go.Value.nilFunc] := by kernel_rfl
@[go_sem] theorem tyI_60 : tyI Tryd.prog 60 = some { agg := false, size := 1, bytes := 8 } := by kernel_rfl
@[go_sem] theorem kindT_60 : kindT Tryd.prog 60 = 9 := by kernel_rfl
@[go_sem] theorem hasT_60 : hasT Tryd.prog 60 = true := by kernel_rfl
@[go_sem] theorem zeroI_60 : zeroI Tryd.prog 60 = some [Go.Av.AV.lit Go.Value.nilFunc] := by kernel_rfl
@[go_sem] theorem tyI_61 : tyI Tryd.prog 61 = some { agg := false, size := 1, bytes := 8 } := by kernel_rfl
@[go_sem] theorem kindT_61 : kindT Tryd.prog 61 = 9 := by kernel_rfl
@[go_sem] theorem hasT_61 : hasT Tryd.prog 61 = true := by kernel_rfl
@[go_sem] theorem zeroI_61 : zeroI Tryd.prog 61 = some [Go.Av.AV.lit Go.Value.nilFunc] := by kernel_rfl
@[go_sem] theorem tyI_62 : tyI Tryd.prog 62 = some { agg := false, size := 1, bytes := 8 } := by kernel_rfl
@[go_sem] theorem kindT_62 : kindT Tryd.prog 62 = 9 := by kernel_rfl
@[go_sem] theorem hasT_62 : hasT Tryd.prog 62 = true := by kernel_rfl
@[go_sem] theorem zeroI_62 : zeroI Tryd.prog 62 = some [Go.Av.AV.lit Go.Value.nilFunc] := by kernel_rfl
@[go_sem] theorem tyI_63 : tyI Tryd.prog 63 = some { agg := false, size := 1, bytes := 0 } := by kernel_rfl
@[go_sem] theorem kindT_63 : kindT Tryd.prog 63 = 0 := by kernel_rfl
@[go_sem] theorem hasT_63 : hasT Tryd.prog 63 = true := by kernel_rfl
@[go_sem] theorem tyI_64 : tyI Tryd.prog 64 = some { agg := false, size := 1, bytes := 8 } := by kernel_rfl
@[go_sem] theorem kindT_64 : kindT Tryd.prog 64 = 9 := by kernel_rfl
@[go_sem] theorem hasT_64 : hasT Tryd.prog 64 = true := by kernel_rfl
@[go_sem] theorem zeroI_64 : zeroI Tryd.prog 64 = some [Go.Av.AV.lit Go.Value.nilFunc] := by kernel_rfl
@[go_sem] theorem tyI_65 : tyI Tryd.prog 65 = some { agg := false, size := 1, bytes := 8 } := by kernel_rfl
@[go_sem] theorem kindT_65 : kindT Tryd.prog 65 = 9 := by kernel_rfl
@[go_sem] theorem hasT_65 : hasT Tryd.prog 65 = true := by kernel_rfl
@[go_sem] theorem zeroI_65 : zeroI Tryd.prog 65 = some [Go.Av.AV.lit Go.Value.nilFunc] := by kernel_rfl
@[go_sem] theorem tyI_66 : tyI Tryd.prog 66 = some { agg := false, size := 1, bytes := 8 } := by kernel_rfl
@[go_sem] theorem kindT_66 : kindT Tryd.prog 66 = 9 := by kernel_rfl
@[go_sem] theorem hasT_66 : hasT Tryd.prog 66 = true := by kernel_rfl
@[go_sem] theorem zeroI_66 : zeroI Tryd.prog 66 = some [Go.Av.AV.lit Go.Value.nilFunc] := by kernel_rfl
@[go_sem] theorem tyI_67 : tyI Tryd.prog 67 = some { agg := false, size := 1, bytes := 8 } := by kernel_rfl
@[go_sem] theorem kindT_67 : kindT Tryd.prog 67 = 9 := by kernel_rfl
@[go_sem] theorem hasT_67 : hasT Tryd.prog 67 = true := by kernel_rfl
@[go_sem] theorem zeroI_67 : zeroI Tryd.prog 67 = some [Go.Av.AV.lit Go.Value.nilFunc] := by kernel_rfl
@[go_sem] theorem tyI_68 : tyI Tryd.prog 68 = some { agg := false, size := 1, bytes := 24 } := by kernel_rfl
@[go_sem] theorem slT_68 : slT Tryd.prog 68 = some 5 := by kernel_rfl
@[go_sem] theorem kindT_68 : kindT Tryd.prog 68 = 5 := by kernel_rfl
@[go_sem] theorem hasT_68 : hasT Tryd.prog 68 = true := by kernel_rfl
@[go_sem] theorem zeroI_68 : zeroI Tryd.prog 68 = some [Go.Av.AV.isl (some true) [] Go.Av.Tk.full] := by kernel_rfl
@[go_sem] theorem tyI_69 : tyI Tryd.prog 69 = some { agg := true, size := 6, bytes := 64 } := by kernel_rfl
@[go_sem] theorem kindT_69 : kindT Tryd.prog 69 = 6 := by kernel_rfl
@[go_sem] theorem hasT_69 : hasT Tryd.prog 69 = true := by kernel_rfl
@[go_sem] theorem zeroI_69 : zeroI Tryd.prog 69 = some [Go.Av.AV.lit (Go.Value.int Go.IntKind.i64 0), Go.Av.AV.lit (Go.Value.string ⟨#[]⟩), Go.Av.AV.lit (Go.Value.int Go.IntKind.i64 0), Go.Av.AV.lit (Go.Value.int Go.IntKind.i64 0), Go.Av.AV.lit (Go.Value.string ⟨#[]⟩), Go.Av.AV.lit (Go.Value.int Go.IntKind.i64 0)] := by kernel_rfl
@[go_sem] theorem bldT_69 : bldT Tryd.prog 69 = true := by kernel_rfl
@[go_sem] theorem fld_69_0 : fldI Tryd.prog 69 0 = some (0, 1, false) := by kernel_rfl
@[go_sem] theorem fld_69_1 : fldI Tryd.prog 69 1 = some (1, 1, false) := by kernel_rfl
@[go_sem] theorem fld_69_2 : fldI Tryd.prog 69 2 = some (2, 3, true) := by kernel_rfl
@[go_sem] theorem fld_69_3 : fldI Tryd.prog 69 3 = some (5, 1, false) := by kernel_rfl
@[go_sem] theorem tyI_70 : tyI Tryd.prog 70 = some { agg := true, size := 6, bytes := 64 } := by kernel_rfl
@[go_sem] theorem kindT_70 : kindT Tryd.prog 70 = 6 := by kernel_rfl
@[go_sem] theorem hasT_70 : hasT Tryd.prog 70 = true := by kernel_rfl
@[go_sem] theorem zeroI_70 : zeroI Tryd.prog 70 = some [Go.Av.AV.lit (Go.Value.int Go.IntKind.i64 0), Go.Av.AV.lit (Go.Value.string ⟨#[]⟩), Go.Av.AV.lit (Go.Value.int Go.IntKind.i64 0), Go.Av.AV.lit (Go.Value.int Go.IntKind.i64 0), Go.Av.AV.lit (Go.Value.string ⟨#[]⟩), Go.Av.AV.lit (Go.Value.int Go.IntKind.i64 0)] := by kernel_rfl
@[go_sem] theorem bldT_70 : bldT Tryd.prog 70 = true := by kernel_rfl
@[go_sem] theorem fld_70_0 : fldI Tryd.prog 70 0 = some (0, 1, false) := by kernel_rfl
@[go_sem] theorem fld_70_1 : fldI Tryd.prog 70 1 = some (1, 1, false) := by kernel_rfl
@[go_sem] theorem fld_70_2 : fldI Tryd.prog 70 2 = some (2, 3, true) := by kernel_rfl
@[go_sem] theorem fld_70_3 : fldI Tryd.prog 70 3 = some (5, 1, false) := by kernel_rfl
@[go_sem] theorem tyI_71 : tyI Tryd.prog 71 = some { agg := false, size := 1, bytes := 0 } := by kernel_rfl
@[go_sem] theorem kindT_71 : kindT Tryd.prog 71 = 0 := by kernel_rfl
@[go_sem] theorem hasT_71 : hasT Tryd.prog 71 = true := by kernel_rfl
@[go_sem] theorem tyI_72 : tyI Tryd.prog 72 = some { agg := false, size := 1, bytes := 8 } := by kernel_rfl
@[go_sem] theorem kindT_72 : kindT Tryd.prog 72 = 9 := by kernel_rfl
@[go_sem] theorem hasT_72 : hasT Tryd.prog 72 = true := by kernel_rfl
@[go_sem] theorem zeroI_72 : zeroI Tryd.prog 72 = some [Go.Av.AV.lit Go.Value.nilFunc] := by kernel_rfl
@[go_sem] theorem tyI_73 : tyI Tryd.prog 73 = some { agg := false, size := 1, bytes := 8 } := by kernel_rfl
@[go_sem] theorem kindT_73 : kindT Tryd.prog 73 = 4 := by kernel_rfl
@[go_sem] theorem hasT_73 : hasT Tryd.prog 73 = true := by kernel_rfl
@[go_sem] theorem zeroI_73 : zeroI Tryd.prog 73 = some [Go.Av.AV.lit (Go.Value.pointer none)] := by kernel_rfl
@[go_sem] theorem tyI_74 : tyI Tryd.prog 74 = some { agg := true, size := 2, bytes := 32 } := by kernel_rfl
@[go_sem] theorem kindT_74 : kindT Tryd.prog 74 = 6 := by kernel_rfl
@[go_sem] theorem hasT_74 : hasT Tryd.prog 74 = true := by kernel_rfl
@[go_sem] theorem zeroI_74 : zeroI Tryd.prog 74 = some [Go.Av.AV.lit (Go.Value.pointer none), Go.Av.AV.isl (some true) [] Go.Av.Tk.full] := by kernel_rfl
@[go_sem] theorem bldT_74 : bldT Tryd.prog 74 = true := by kernel_rfl
@[go_sem] theorem fld_74_0 : fldI Tryd.prog 74 0 = some (0, 1, false) := by kernel_rfl
@[go_sem] theorem fld_74_1 : fldI Tryd.prog 74 1 = some (1, 1, false) := by kernel_rfl
@[go_sem] theorem tyI_75 : tyI Tryd.prog 75 = some { agg := true, size := 2, bytes := 32 } := by kernel_rfl
@[go_sem] theorem kindT_75 : kindT Tryd.prog 75 = 6 := by kernel_rfl
@[go_sem] theorem hasT_75 : hasT Tryd.prog 75 = true := by kernel_rfl
@[go_sem] theorem zeroI_75 : zeroI Tryd.prog 75 = some [Go.Av.AV.lit (Go.Value.pointer none), Go.Av.AV.isl (some true) [] Go.Av.Tk.full] := by kernel_rfl
@[go_sem] theorem bldT_75 : bldT Tryd.prog 75 = true := by kernel_rfl
@[go_sem] theorem fld_75_0 : fldI Tryd.prog 75 0 = some (0, 1, false) := by kernel_rfl
@[go_sem] theorem fld_75_1 : fldI Tryd.prog 75 1 = some (1, 1, false) := by kernel_rfl
@[go_sem] theorem tyI_76 : tyI Tryd.prog 76 = some { agg := false, size := 1, bytes := 16 } := by kernel_rfl
@[go_sem] theorem kindT_76 : kindT Tryd.prog 76 = 0 := by kernel_rfl
@[go_sem] theorem hasT_76 : hasT Tryd.prog 76 = true := by kernel_rfl
@[go_sem] theorem zeroI_76 : zeroI Tryd.prog 76 = some [Go.Av.AV.lit Go.Value.nilIface] := by kernel_rfl
@[go_sem] theorem tyI_77 : tyI Tryd.prog 77 = some { agg := false, size := 1, bytes := 16 } := by kernel_rfl
@[go_sem] theorem kindT_77 : kindT Tryd.prog 77 = 0 := by kernel_rfl
@[go_sem] theorem hasT_77 : hasT Tryd.prog 77 = true := by kernel_rfl
@[go_sem] theorem zeroI_77 : zeroI Tryd.prog 77 = some [Go.Av.AV.lit Go.Value.nilIface] := by kernel_rfl
@[go_sem] theorem tyI_78 : tyI Tryd.prog 78 = some { agg := false, size := 1, bytes := 8 } := by kernel_rfl
@[go_sem] theorem kindT_78 : kindT Tryd.prog 78 = 9 := by kernel_rfl
@[go_sem] theorem hasT_78 : hasT Tryd.prog 78 = true := by kernel_rfl
@[go_sem] theorem zeroI_78 : zeroI Tryd.prog 78 = some [Go.Av.AV.lit Go.Value.nilFunc] := by kernel_rfl
@[go_sem] theorem tyI_79 : tyI Tryd.prog 79 = some { agg := false, size := 1, bytes := 0 } := by kernel_rfl
@[go_sem] theorem kindT_79 : kindT Tryd.prog 79 = 0 := by kernel_rfl
@[go_sem] theorem hasT_79 : hasT Tryd.prog 79 = true := by kernel_rfl
@[go_sem] theorem tyI_80 : tyI Tryd.prog 80 = some { agg := false, size := 1, bytes := 8 } := by kernel_rfl
@[go_sem] theorem kindT_80 : kindT Tryd.prog 80 = 9 := by kernel_rfl
@[go_sem] theorem hasT_80 : hasT Tryd.prog 80 = true := by kernel_rfl
@[go_sem] theorem zeroI_80 : zeroI Tryd.prog 80 = some [Go.Av.AV.lit Go.Value.nilFunc] := by kernel_rfl
@[go_sem] theorem tyI_81 : tyI Tryd.prog 81 = some { agg := false, size := 1, bytes := 8 } := by kernel_rfl
@[go_sem] theorem kindT_81 : kindT Tryd.prog 81 = 9 := by kernel_rfl
@[go_sem] theorem hasT_81 : hasT Tryd.prog 81 = true := by kernel_rfl
@[go_sem] theorem zeroI_81 : zeroI Tryd.prog 81 = some [Go.Av.AV.lit Go.Value.nilFunc] := by kernel_rfl
@[go_sem] theorem tyI_82 : tyI Tryd.prog 82 = some { agg := false, size := 1, bytes := 8 } := by kernel_rfl
@[go_sem] theorem kindT_82 : kindT Tryd.prog 82 = 9 := by kernel_rfl
@[go_sem] theorem hasT_82 : hasT Tryd.prog 82 = true := by kernel_rfl
@[go_sem] theorem zeroI_82 : zeroI Tryd.prog 82 = some [Go.Av.AV.lit Go.Value.nilFunc] := by kernel_rfl
@[go_sem] theorem tyI_83 : tyI Tryd.prog 83 = some { agg := false, size := 1, bytes := 8 } := by kernel_rfl
@[go_sem] theorem kindT_83 : kindT Tryd.prog 83 = 9 := by kernel_rfl
@[go_sem] theorem hasT_83 : hasT Tryd.prog 83 = true := by kernel_rfl
@[go_sem] theorem zeroI_83 : zeroI Tryd.prog 83 = some [Go.Av.AV.lit Go.Value.nilFunc] := by kernel_rfl
@[go_sem] theorem tyI_84 : tyI Tryd.prog 84 = some { agg := false, size := 1, bytes := 8 } := by kernel_rfl
@[go_sem] theorem kindT_84 : kindT Tryd.prog 84 = 9 := by kernel_rfl
@[go_sem] theorem hasT_84 : hasT Tryd.prog 84 = true := by kernel_rfl
@[go_sem] theorem zeroI_84 : zeroI Tryd.prog 84 = some [Go.Av.AV.lit Go.Value.nilFunc] := by kernel_rfl
@[go_sem] theorem tyI_85 : tyI Tryd.prog 85 = some { agg := false, size := 1, bytes := 8 } := by kernel_rfl
@[go_sem] theorem kindT_85 : kindT Tryd.prog 85 = 9 := by kernel_rfl
@[go_sem] theorem hasT_85 : hasT Tryd.prog 85 = true := by kernel_rfl
@[go_sem] theorem zeroI_85 : zeroI Tryd.prog 85 = some [Go.Av.AV.lit Go.Value.nilFunc] := by kernel_rfl
@[go_sem] theorem tyI_86 : tyI Tryd.prog 86 = some { agg := false, size := 1, bytes := 8 } := by kernel_rfl
@[go_sem] theorem kindT_86 : kindT Tryd.prog 86 = 9 := by kernel_rfl
@[go_sem] theorem hasT_86 : hasT Tryd.prog 86 = true := by kernel_rfl
@[go_sem] theorem zeroI_86 : zeroI Tryd.prog 86 = some [Go.Av.AV.lit Go.Value.nilFunc] := by kernel_rfl
@[go_sem] theorem tyI_87 : tyI Tryd.prog 87 = some { agg := true, size := 6, bytes := 72 } := by kernel_rfl
@[go_sem] theorem kindT_87 : kindT Tryd.prog 87 = 6 := by kernel_rfl
@[go_sem] theorem hasT_87 : hasT Tryd.prog 87 = true := by kernel_rfl
@[go_sem] theorem zeroI_87 : zeroI Tryd.prog 87 = some [Go.Av.AV.lit (Go.Value.int Go.IntKind.i64 0), Go.Av.AV.lit (Go.Value.string ⟨#[]⟩), Go.Av.AV.lit (Go.Value.bool false), Go.Av.AV.isl (some true) [] Go.Av.Tk.full, Go.Av.AV.lit (Go.Value.int Go.IntKind.i64 0), Go.Av.AV.lit (Go.Value.int Go.IntKind.i64 0)] := by kernel_rfl
@[go_sem] theorem bldT_87 : bldT Tryd.prog 87 = true := by kernel_rfl
@[go_sem] theorem fld_87_0 : fldI Tryd.prog 87 0 = some (0, 4, true) := by kernel_rfl
@[go_sem] theorem fld_87_1 : fldI Tryd.prog 87 1 = some (4, 1, false) := by kernel_rfl
@[go_sem] theorem fld_87_2 : fldI Tryd.prog 87 2 = some (5, 1, false) := by kernel_rfl
@[go_sem] theorem tyI_88 : tyI Tryd.prog 88 = some { agg := true, size := 6, bytes := 72 } := by kernel_rfl
@[go_sem] theorem kindT_88 : kindT Tryd.prog 88 = 6 := by kernel_rfl
@[go_sem] theorem hasT_88 : hasT Tryd.prog 88 = true := by kernel_rfl
@[go_sem] theorem zeroI_88 : zeroI Tryd.prog 88 = some [Go.Av.AV.lit (Go.Value.int Go.IntKind.i64 0), Go.Av.AV.lit (Go.Value.string ⟨#[]⟩), Go.Av.AV.lit (Go.Value.bool false), Go.Av.AV.isl (some true) [] Go.Av.Tk.full, Go.Av.AV.lit (Go.Value.int Go.IntKind.i64 0), Go.Av.AV.lit (Go.Value.int Go.IntKind.i64 0)] := by kernel_rfl
@[go_sem] theorem bldT_88 : bldT Tryd.prog 88 = true := by kernel_rfl
@[go_sem] theorem fld_88_0 : fldI Tryd.prog 88 0 = some (0, 4, true) := by kernel_rfl
@[go_sem] theorem fld_88_1 : fldI Tryd.prog 88 1 = some (4, 1, false) := by kernel_rfl
@[go_sem] theorem fld_88_2 : fldI Tryd.prog 88 2 = some (5, 1, false) := by kernel_rfl
@[go_sem] theorem tyI_89 : tyI Tryd.prog 89 = some { agg := false, size := 1, bytes := 8 } := by kernel_rfl
@[go_sem] theorem kindT_89 : kindT Tryd.prog 89 = 9 := by kernel_rfl
@[go_sem] theorem hasT_89 : hasT Tryd.prog 89 = true := by kernel_rfl
@[go_sem] theorem zeroI_89 : zeroI Tryd.prog 89 = some [Go.Av.AV.lit Go.Value.nilFunc] := by kernel_rfl
@[go_sem] theorem tyI_90 : tyI Tryd.prog 90 = some { agg := false, size := 1, bytes := 8 } := by kernel_rfl
@[go_sem] theorem kindT_90 : kindT Tryd.prog 90 = 9 := by kernel_rfl
@[go_sem] theorem hasT_90 : hasT Tryd.prog 90 = true := by kernel_rfl
@[go_sem] theorem zeroI_90 : zeroI Tryd.prog 90 = some [Go.Av.AV.lit Go.Value.nilFunc] := by kernel_rfl
@[go_sem] theorem tyI_91 : tyI Tryd.prog 91 = some { agg := false, size := 1, bytes := 24 } := by kernel_rfl
@[go_sem] theorem slT_91 : slT Tryd.prog 91 = some 9 := by kernel_rfl
@[go_sem] theorem kindT_91 : kindT Tryd.prog 91 = 5 := by kernel_rfl
@[go_sem] theorem hasT_91 : hasT Tryd.prog 91 = true := by kernel_rfl
@[go_sem] theorem zeroI_91 : zeroI Tryd.prog 91 = some [Go.Av.AV.isl (some true) [] Go.Av.Tk.full] := by kernel_rfl
@[go_sem] theorem tyI_92 : tyI Tryd.prog 92 = some { agg := false, size := 1, bytes := 8 } := by kernel_rfl
@[go_sem] theorem kindT_92 : kindT Tryd.prog 92 = 9 := by kernel_rfl
@[go_sem] theorem hasT_92 : hasT Tryd.prog 92 = true := by kernel_rfl
@[go_sem] theorem zeroI_92 : zeroI Tryd.prog 92 = some [Go.Av.AV.lit Go.Value.nilFunc] := by kernel_rfl
@[go_sem] theorem tyI_93 : tyI Tryd.prog 93 = some { agg := false, size := 1, bytes := 8 } := by kernel_rfl
@[go_sem] theorem kindT_93 : kindT Tryd.prog 93 = 9 := by kernel_rfl
@[go_sem] theorem hasT_93 : hasT Tryd.prog 93 = true := by kernel_rfl
@[go_sem] theorem zeroI_93 : zeroI Tryd.prog 93 = some [Go.Av.AV.lit Go.Value.nilFunc] := by kernel_rfl
@[go_sem] theorem tyI_94 : tyI Tryd.prog 94 = some { agg := false, size := 1, bytes := 8 } := by kernel_rfl
@[go_sem] theorem kindT_94 : kindT Tryd.prog 94 = 9 := by kernel_rfl
@[go_sem] theorem hasT_94 : hasT Tryd.prog 94 = true := by kernel_rfl
@[go_sem] theorem zeroI_94 : zeroI Tryd.prog 94 = some [Go.Av.AV.lit Go.Value.nilFunc] := by kernel_rfl
@[go_sem] theorem tyI_95 : tyI Tryd.prog 95 = some { agg := false, size := 1, bytes := 8 } := by kernel_rfl
@[go_sem] theorem kindT_95 : kindT Tryd.prog 95 = 9 := by kernel_rfl
@[go_sem] theorem hasT_95 : hasT Tryd.prog 95 = true := by kernel_rfl
@[go_sem] theorem zeroI_95 : zeroI Tryd.prog 95 = some [Go.Av.AV.lit Go.Value.nilFunc] := by kernel_rfl
@[go_sem] theorem tyI_96 : tyI Tryd.prog 96 = some { agg := false, size := 1, bytes := 8 } := by kernel_rfl
@[go_sem] theorem kindT_96 : kindT Tryd.prog 96 = 9 := by kernel_rfl
@[go_sem] theorem hasT_96 : hasT Tryd.prog 96 = true := by kernel_rfl
@[go_sem] theorem zeroI_96 : zeroI Tryd.prog 96 = some [Go.Av.AV.lit Go.Value.nilFunc] := by kernel_rfl
@[go_sem] theorem tyI_97 : tyI Tryd.prog 97 = some { agg := false, size := 1, bytes := 8 } := by kernel_rfl
@[go_sem] theorem kindT_97 : kindT Tryd.prog 97 = 9 := by kernel_rfl
@[go_sem] theorem hasT_97 : hasT Tryd.prog 97 = true := by kernel_rfl
@[go_sem] theorem zeroI_97 : zeroI Tryd.prog 97 = some [Go.Av.AV.lit Go.Value.nilFunc] := by kernel_rfl
@[go_sem] theorem tyI_98 : tyI Tryd.prog 98 = some { agg := false, size := 1, bytes := 8 } := by kernel_rfl
@[go_sem] theorem kindT_98 : kindT Tryd.prog 98 = 9 := by kernel_rfl
@[go_sem] theorem hasT_98 : hasT Tryd.prog 98 = true := by kernel_rfl
@[go_sem] theorem zeroI_98 : zeroI Tryd.prog 98 = some [Go.Av.AV.lit Go.Value.nilFunc] := by kernel_rfl
@[go_sem] theorem tyI_99 : tyI Tryd.prog 99 = some { agg := false, size := 1, bytes := 8 } := by kernel_rfl
@[go_sem] theorem kindT_99 : kindT Tryd.prog 99 = 2 := by kernel_rfl
@[go_sem] theorem intT_99 : intT Tryd.prog 99 = some Go.IntKind.u64 := by kernel_rfl
@[go_sem] theorem hasT_99 : hasT Tryd.prog 99 = true := by kernel_rfl
@[go_sem] theorem zeroI_99 : zeroI Tryd.prog 99 = some [Go.Av.AV.lit (Go.Value.int Go.IntKind.u64 0)] := by kernel_rfl
@[go_sem] theorem tyI_100 : tyI Tryd.prog 100 = some { agg := false, size := 1, bytes := 8 } := by kernel_rfl
@[go_sem] theorem kindT_100 : kindT Tryd.prog 100 = 9 := by kernel_rfl
@[go_sem] theorem hasT_100 : hasT Tryd.prog 100 = true := by kernel_rfl
@[go_sem] theorem zeroI_100 : zeroI Tryd.prog 100 = some [Go.Av.AV.lit Go.Value.nilFunc] := by kernel_rfl
@[go_sem] theorem tyI_101 : tyI Tryd.prog 101 = some { agg := false, size := 1, bytes := 8 } := by kernel_rfl
@[go_sem] theorem kindT_101 : kindT Tryd.prog 101 = 4 := by kernel_rfl
@[go_sem] theorem hasT_101 : hasT Tryd.prog 101 = true := by kernel_rfl
@[go_sem] theorem zeroI_101 : zeroI Tryd.prog 101 = some [Go.Av.AV.lit (Go.Value.pointer none)] := by kernel_rfl
@[go_sem] theorem tyI_102 : tyI Tryd.prog 102 = some { agg := false, size := 1, bytes := 8 } := by kernel_rfl
@[go_sem] theorem kindT_102 : kindT Tryd.prog 102 = 9 := by kernel_rfl
@[go_sem] theorem hasT_102 : hasT Tryd.prog 102 = true := by kernel_rfl
@[go_sem] theorem zeroI_102 : zeroI Tryd.prog 102 = some [Go.Av.AV.lit Go.Value.nilFunc] := by kernel_rfl
@[go_sem] theorem tyI_103 : tyI Tryd.prog 103 = some { agg := false, size := 1, bytes := 24 } := by kernel_rfl
@[go_sem] theorem slT_103 : slT Tryd.prog 103 = some 4 := by kernel_rfl
@[go_sem] theorem kindT_103 : kindT Tryd.prog 103 = 5 := by kernel_rfl
@[go_sem] theorem hasT_103 : hasT Tryd.prog 103 = true := by kernel_rfl
@[go_sem] theorem zeroI_103 : zeroI Tryd.prog 103 = some [Go.Av.AV.isl (some true) [] Go.Av.Tk.full] := by kernel_rfl
@[go_sem] theorem tyI_104 : tyI Tryd.prog 104 = some { agg := false, size := 1, bytes := 8 } := by kernel_rfl
@[go_sem] theorem kindT_104 : kindT Tryd.prog 104 = 9 := by kernel_rfl
@[go_sem] theorem hasT_104 : hasT Tryd.prog 104 = true := by kernel_rfl
@[go_sem] theorem zeroI_104 : zeroI Tryd.prog 104 = some [Go.Av.AV.lit Go.Value.nilFunc] := by kernel_rfl
@[go_sem] theorem tyI_105 : tyI Tryd.prog 105 = some { agg := false, size := 1, bytes := 8 } := by kernel_rfl
@[go_sem] theorem kindT_105 : kindT Tryd.prog 105 = 4 := by kernel_rfl
@[go_sem] theorem hasT_105 : hasT Tryd.prog 105 = true := by kernel_rfl
@[go_sem] theorem zeroI_105 : zeroI Tryd.prog 105 = some [Go.Av.AV.lit (Go.Value.pointer none)] := by kernel_rfl
@[go_sem] theorem tyI_106 : tyI Tryd.prog 106 = some { agg := true, size := 3, bytes := 40 } := by kernel_rfl
@[go_sem] theorem kindT_106 : kindT Tryd.prog 106 = 6 := by kernel_rfl
@[go_sem] theorem hasT_106 : hasT Tryd.prog 106 = true := by kernel_rfl
@[go_sem] theorem zeroI_106 : zeroI Tryd.prog 106 = some [Go.Av.AV.isl (some true) [] Go.Av.Tk.full, Go.Av.AV.lit (Go.Value.int Go.IntKind.i64 0), Go.Av.AV.lit (Go.Value.int Go.IntKind.i64 0)] := by kernel_rfl
@[go_sem] theorem bldT_106 : bldT Tryd.prog 106 = true := by kernel_rfl
@[go_sem] theorem fld_106_0 : fldI Tryd.prog 106 0 = some (0, 1, false) := by kernel_rfl
@[go_sem] theorem fld_106_1 : fldI Tryd.prog 106 1 = some (1, 1, false) := by kernel_rfl
@[go_sem] theorem fld_106_2 : fldI Tryd.prog 106 2 = some (2, 1, false) := by kernel_rfl
@[go_sem] theorem tyI_107 : tyI Tryd.prog 107 = some { agg := true, size := 3, bytes := 40 } := by kernel_rfl
@[go_sem] theorem kindT_107 : kindT Tryd.prog 107 = 6 := by kernel_rfl
@[go_sem] theorem hasT_107 : hasT Tryd.prog 107 = true := by kernel_rfl
@[go_sem] theorem zeroI_107 : zeroI Tryd.prog 107 = some [Go.Av.AV.isl (some true) [] Go.Av.Tk.full, Go.Av.AV.lit (Go.Value.int Go.IntKind.i64 0), Go.Av.AV.lit (Go.Value.int Go.IntKind.i64 0)] := by kernel_rfl
@[go_sem] theorem bldT_107 : bldT Tryd.prog 107 = true := by kernel_rfl
@[go_sem] theorem fld_107_0 : fldI Tryd.prog 107 0 = some (0, 1, false) := by kernel_rfl
@[go_sem] theorem fld_107_1 : fldI Tryd.prog 107 1 = some (1, 1, false) := by kernel_rfl
@[go_sem] theorem fld_107_2 : fldI Tryd.prog 107 2 = some (2, 1, false) := by kernel_rfl
@[go_sem] theorem tyI_108 : tyI Tryd.prog 108 = some { agg := false, size := 1, bytes := 8 } := by kernel_rfl
@[go_sem] theorem kindT_108 : kindT Tryd.prog 108 = 9 := by kernel_rfl
@[go_sem] theorem hasT_108 : hasT Tryd.prog 108 = true := by kernel_rfl
@[go_sem] theorem zeroI_108 : zeroI Tryd.prog 108 = some [Go.Av.AV.lit Go.Value.nilFunc] := by kernel_rfl
@[go_sem] theorem tyI_109 : tyI Tryd.prog 109 = some { agg := false, size := 1, bytes := 8 } := by kernel_rfl
@[go_sem] theorem kindT_109 : kindT Tryd.prog 109 = 9 := by kernel_rfl
@[go_sem] theorem hasT_109 : hasT Tryd.prog 109 = true := by kernel_rfl
@[go_sem] theorem zeroI_109 : zeroI Tryd.prog 109 = some [Go.Av.AV.lit Go.Value.nilFunc] := by kernel_rfl
@[go_sem] theorem tyI_110 : tyI Tryd.prog 110 = some { agg := false, size := 1, bytes := 8 } := by kernel_rfl
@[go_sem] theorem kindT_110 : kindT Tryd.prog 110 = 9 := by kernel_rfl
@[go_sem] theorem hasT_110 : hasT Tryd.prog 110 = true := by kernel_rfl
@[go_sem] theorem zeroI_110 : zeroI Tryd.prog 110 = some [Go.Av.AV.lit Go.Value.nilFunc] := by kernel_rfl
@[go_sem] theorem tyI_111 : tyI Tryd.prog 111 = some { agg := false, size := 1, bytes := 8 } := by kernel_rfl
@[go_sem] theorem kindT_111 : kindT Tryd.prog 111 = 9 := by kernel_rfl
@[go_sem] theorem hasT_111 : hasT Tryd.prog 111 = true := by kernel_rfl
@[go_sem] theorem zeroI_111 : zeroI Tryd.prog 111 = some [Go.Av.AV.lit Go.Value.nilFunc] := by kernel_rfl
@[go_sem] theorem tyI_112 : tyI Tryd.prog 112 = some { agg := false, size := 1, bytes := 8 } := by kernel_rfl
@[go_sem] theorem kindT_112 : kindT Tryd.prog 112 = 9 := by kernel_rfl
@[go_sem] theorem hasT_112 : hasT Tryd.prog 112 = true := by kernel_rfl
@[go_sem] theorem zeroI_112 : zeroI Tryd.prog 112 = some [Go.Av.AV.lit Go.Value.nilFunc] := by kernel_rfl
@[go_sem] theorem tyI_113 : tyI Tryd.prog 113 = some { agg := false, size := 1, bytes := 8 } := by kernel_rfl
@[go_sem] theorem kindT_113 : kindT Tryd.prog 113 = 9 := by kernel_rfl
@[go_sem] theorem hasT_113 : hasT Tryd.prog 113 = true := by kernel_rfl
@[go_sem] theorem zeroI_113 : zeroI Tryd.prog 113 = some [Go.Av.AV.lit Go.Value.nilFunc] := by kernel_rfl
@[go_sem] theorem tyI_114 : tyI Tryd.prog 114 = some { agg := false, size := 1, bytes := 8 } := by kernel_rfl
@[go_sem] theorem kindT_114 : kindT Tryd.prog 114 = 9 := by kernel_rfl
@[go_sem] theorem hasT_114 : hasT Tryd.prog 114 = true := by kernel_rfl
@[go_sem] theorem zeroI_114 : zeroI Tryd.prog 114 = some [Go.Av.AV.lit Go.Value.nilFunc] := by kernel_rfl
@[go_sem] theorem tyI_115 : tyI Tryd.prog 115 = some { agg := false, size := 1, bytes := 8 } := by kernel_rfl
@[go_sem] theorem kindT_115 : kindT Tryd.prog 115 = 9 := by kernel_rfl
@[go_sem] theorem hasT_115 : hasT Tryd.prog 115 = true := by kernel_rfl
@[go_sem] theorem zeroI_115 : zeroI Tryd.prog 115 = some [Go.Av.AV.lit Go.Value.nilFunc] := by kernel_rfl
@[go_sem] theorem tyI_116 : tyI Tryd.prog 116 = some { agg := false, size := 1, bytes := 8 } := by kernel_rfl
@[go_sem] theorem kindT_116 : kindT Tryd.prog 116 = 9 := by kernel_rfl
@[go_sem] theorem hasT_116 : hasT Tryd.prog 116 = true := by kernel_rfl
@[go_sem] theorem zeroI_116 : zeroI Tryd.prog 116 = some [Go.Av.AV.lit Go.Value.nilFunc] := by kernel_rfl
@[go_sem] theorem tyI_117 : tyI Tryd.prog 117 = some { agg := false, size := 1, bytes := 8 } := by kernel_rfl
@[go_sem] theorem kindT_117 : kindT Tryd.prog 117 = 9 := by kernel_rfl
@[go_sem] theorem hasT_117 : hasT Tryd.prog 117 = true := by kernel_rfl
@[go_sem] theorem zeroI_117 : zeroI Tryd.prog 117 = some [Go.Av.AV.lit Go.Value.nilFunc] := by kernel_rfl
@[go_sem] theorem tyI_118 : tyI Tryd.prog 118 = some { agg := false, size := 1, bytes := 8 } := by kernel_rfl
@[go_sem] theorem kindT_118 : kindT Tryd.prog 118 = 9 := by kernel_rfl
@[go_sem] theorem hasT_118 : hasT Tryd.prog 118 = true := by kernel_rfl
@[go_sem] theorem zeroI_118 : zeroI Tryd.prog 118 = some [Go.Av.AV.lit Go.Value.nilFunc] := by kernel_rfl
@[go_sem] theorem tyI_119 : tyI Tryd.prog 119 = some { agg := false, size := 1, bytes := 8 } := by kernel_rfl
@[go_sem] theorem kindT_119 : kindT Tryd.prog 119 = 2 := by kernel_rfl
@[go_sem] theorem intT_119 : intT Tryd.prog 119 = some Go.IntKind.u64 := by kernel_rfl
@[go_sem] theorem hasT_119 : hasT Tryd.prog 119 = true := by kernel_rfl
@[go_sem] theorem zeroI_119 : zeroI Tryd.prog 119 = some [Go.Av.AV.lit (Go.Value.int Go.IntKind.u64 0)] := by kernel_rfl
@[go_sem] theorem tyI_120 : tyI Tryd.prog 120 = some { agg := false, size := 1, bytes := 24 } := by kernel_rfl
@[go_sem] theorem slT_120 : slT Tryd.prog 120 = some 3 := by kernel_rfl
@[go_sem] theorem kindT_120 : kindT Tryd.prog 120 = 5 := by kernel_rfl
@[go_sem] theorem hasT_120 : hasT Tryd.prog 120 = true := by kernel_rfl
@[go_sem] theorem zeroI_120 : zeroI Tryd.prog 120 = some [Go.Av.AV.isl (some true) [] Go.Av.Tk.full] := by kernel_rfl
@[go_sem] theorem tyI_121 : tyI Tryd.prog 121 = some { agg := false, size := 1, bytes := 8 } := by kernel_rfl
@[go_sem] theorem kindT_121 : kindT Tryd.prog 121 = 9 := by kernel_rfl
@[go_sem] theorem hasT_121 : hasT Tryd.prog 121 = true := by kernel_rfl
@[go_sem] theorem zeroI_121 : zeroI Tryd.prog 121 = some [Go.Av.AV.lit Go.Value.nilFunc] := by kernel_rfl
@[go_sem] theorem tyI_122 : tyI Tryd.prog 122 = some { agg := false, size := 1, bytes := 8 } := by kernel_rfl
@[go_sem] theorem kindT_122 : kindT Tryd.prog 122 = 0 := by kernel_rfl
@[go_sem] theorem hasT_122 : hasT Tryd.prog 122 = true := by kernel_rfl
@[go_sem] theorem zeroI_122 : zeroI Tryd.prog 122 = some [Go.Av.AV.lit (Go.Value.pointer none)] := by kernel_rfl
@[go_sem] theorem tyI_123 : tyI Tryd.prog 123 = some { agg := false, size := 1, bytes := 8 } := by kernel_rfl
@[go_sem] theorem kindT_123 : kindT Tryd.prog 123 = 9 := by kernel_rfl
@[go_sem] theorem hasT_123 : hasT Tryd.prog 123 = true := by kernel_rfl
@[go_sem] theorem zeroI_123 : zeroI Tryd.prog 123 = some [Go.Av.AV.lit Go.Value.nilFunc] := by kernel_rfl
@[go_sem] theorem tyI_124 : tyI Tryd.prog 124 = some { agg := false, size := 1, bytes := 8 } := by kernel_rfl
@[go_sem] theorem kindT_124 : kindT Tryd.prog 124 = 9 := by kernel_rfl
@[go_sem] theorem hasT_124 : hasT Tryd.prog 124 = true := by kernel_rfl
@[go_sem] theorem zeroI_124 : zeroI Tryd.prog 124 = some [Go.Av.AV.lit Go.Value.nilFunc] := by kernel_rfl
@[go_sem] theorem tyI_125 : tyI Tryd.prog 125 = some { agg := false, size := 1, bytes := 8 } := by kernel_rfl
@[go_sem] theorem kindT_125 : kindT Tryd.prog 125 = 9 := by kernel_rfl
@[go_sem] theorem hasT_125 : hasT Tryd.prog 125 = true := by kernel_rfl
@[go_sem] theorem zeroI_125 : zeroI Tryd.prog 125 = some [Go.Av.AV.lit Go.Value.nilFunc] := by kernel_rfl
@[go_sem] theorem tyI_126 : tyI Tryd.prog 126 = some { agg := false, size := 1, bytes := 8 } := by kernel_rfl
@[go_sem] theorem kindT_126 : kindT Tryd.prog 126 = 9 := by kernel_rfl
@[go_sem] theorem hasT_126 : hasT Tryd.prog 126 = true := by kernel_rfl
@[go_sem] theorem zeroI_126 : zeroI Tryd.prog 126 = some [Go.Av.AV.lit Go.Value.nilFunc] := by kernel_rfl
@[go_sem] theorem tyI_127 : tyI Tryd.prog 127 = some { agg := false, size := 1, bytes := 8 } := by kernel_rfl
@[go_sem] theorem kindT_127 : kindT Tryd.prog 127 = 9 := by kernel_rfl
@[go_sem] theorem hasT_127 : hasT Tryd.prog 127 = true := by kernel_rfl
@[go_sem] theorem zeroI_127 : zeroI Tryd.prog 127 = some [Go.Av.AV.lit Go.Value.nilFunc] := by kernel_rfl
@[go_sem] theorem tyI_128 : tyI Tryd.prog 128 = some { agg := false, size := 1, bytes := 8 } := by kernel_rfl
@[go_sem] theorem kindT_128 : kindT Tryd.prog 128 = 9 := by kernel_rfl
@[go_sem] theorem hasT_128 : hasT Tryd.prog 128 = true := by kernel_rfl
@[go_sem] theorem zeroI_128 : zeroI Tryd.prog 128 = some [Go.Av.AV.lit Go.Value.nilFunc] := by kernel_rfl
@[go_sem] theorem tyI_129 : tyI Tryd.prog 129 = some { agg := false, size := 1, bytes := 8 } := by kernel_rfl
@[go_sem] theorem kindT_129 : kindT Tryd.prog 129 = 9 := by kernel_rfl
@[go_sem] theorem hasT_129 : hasT Tryd.prog 129 = true := by kernel_rfl
@[go_sem] theorem zeroI_129 : zeroI Tryd.prog 129 = some [Go.Av.AV.lit Go.Value.nilFunc] := by kernel_rfl
@[go_sem] theorem tyI_130 : tyI Tryd.prog 130 = some { agg := false, size := 1, bytes := 8 } := by kernel_rfl
@[go_sem] theorem kindT_130 : kindT Tryd.prog 130 = 9 := by kernel_rfl
@[go_sem] theorem hasT_130 : hasT Tryd.prog 130 = true := by kernel_rfl
@[go_sem] theorem zeroI_130 : zeroI Tryd.prog 130 = some [Go.Av.AV.lit Go.Value.nilFunc] := by kernel_rfl
@[go_sem] theorem tyI_131 : tyI Tryd.prog 131 = some { agg := false, size := 1, bytes := 8 } := by kernel_rfl
@[go_sem] theorem kindT_131 : kindT Tryd.prog 131 = 2 := by kernel_rfl
@[go_sem] theorem intT_131 : intT Tryd.prog 131 = some Go.IntKind.i64 := by kernel_rfl
@[go_sem] theorem hasT_131 : hasT Tryd.prog 131 = true := by kernel_rfl
@[go_sem] theorem zeroI_131 : zeroI Tryd.prog 131 = some [Go.Av.AV.lit (Go.Value.int Go.IntKind.i64 0)] := by kernel_rfl
@[go_sem] theorem tyI_132 : tyI Tryd.prog 132 = some { agg := false, size := 1, bytes := 0 } := by kernel_rfl
@[go_sem] theorem kindT_132 : kindT Tryd.prog 132 = 0 := by kernel_rfl
@[go_sem] theorem hasT_132 : hasT Tryd.prog 132 = true := by kernel_rfl
@[go_sem] theorem tyI_133 : tyI Tryd.prog 133 = some { agg := false, size := 1, bytes := 8 } := by kernel_rfl
@[go_sem] theorem kindT_133 : kindT Tryd.prog 133 = 9 := by kernel_rfl
@[go_sem] theorem hasT_133 : hasT Tryd.prog 133 = true := by kernel_rfl
@[go_sem] theorem zeroI_133 : zeroI Tryd.prog 133 = some [Go.Av.AV.lit Go.Value.nilFunc] := by kernel_rfl
@[go_sem] theorem tyI_134 : tyI Tryd.prog 134 = some { agg := false, size := 1, bytes := 8 } := by kernel_rfl
@[go_sem] theorem kindT_134 : kindT Tryd.prog 134 = 9 := by kernel_rfl
@[go_sem] theorem hasT_134 : hasT Tryd.prog 134 = true := by kernel_rfl
@[go_sem] theorem zeroI_134 : zeroI Tryd.prog 134 = some [Go.Av.AV.lit Go.Value.nilFunc] := by kernel_rfl
@[go_sem] theorem tyI_135 : tyI Tryd.prog 135 = some { agg := false, size := 1, bytes := 8 } := by kernel_rfl
@[go_sem] theorem kindT_135 : kindT Tryd.prog 135 = 9 := by kernel_rfl
@[go_sem] theorem hasT_135 : hasT Tryd.prog 135 = true := by kernel_rfl
@[go_sem] theorem zeroI_135 : zeroI Tryd.prog 135 = some [Go.Av.AV.lit Go.Value.nilFunc] := by kernel_rfl
@[go_sem] theorem tyI_136 : tyI Tryd.prog 136 = some { agg := false, size := 1, bytes := 0 } := by kernel_rfl
@[go_sem] theorem kindT_136 : kindT Tryd.prog 136 = 0 := by kernel_rfl
@[go_sem] theorem hasT_136 : hasT Tryd.prog 136 = true := by kernel_rfl
@[go_sem] theorem tyI_137 : tyI Tryd.prog 137 = some { agg := false, size := 1, bytes := 8 } := by kernel_rfl
@[go_sem] theorem kindT_137 : kindT Tryd.prog 137 = 9 := by kernel_rfl
@[go_sem] theorem hasT_137 : hasT Tryd.prog 137 = true := by kernel_rfl
@[go_sem] theorem zeroI_137 : zeroI Tryd.prog 137 = some [Go.Av.AV.lit Go.Value.nilFunc] := by kernel_rfl
@[go_sem] theorem tyI_138 : tyI Tryd.prog 138 = some { agg := false, size := 1, bytes := 8 } := by kernel_rfl
@[go_sem] theorem kindT_138 : kindT Tryd.prog 138 = 9 := by kernel_rfl
@[go_sem] theorem hasT_138 : hasT Tryd.prog 138 = true := by kernel_rfl
@[go_sem] theorem zeroI_138 : zeroI Tryd.prog 138 = some [Go.Av.AV.lit Go.Value.nilFunc] := by kernel_rfl
@[go_sem] theorem tyI_139 : tyI Tryd.prog 139 = some { agg := false, size := 1, bytes := 4 } := by kernel_rfl
@[go_sem] theorem kindT_139 : kindT Tryd.prog 139 = 2 := by kernel_rfl
@[go_sem] theorem intT_139 : intT Tryd.prog 139 = some Go.IntKind.u32 := by kernel_rfl
@[go_sem] theorem hasT_139 : hasT Tryd.prog 139 = true := by kernel_rfl
@[go_sem] theorem zeroI_139 : zeroI Tryd.prog 139 = some [Go.Av.AV.lit (Go.Value.int Go.IntKind.u32 0)] := by kernel_rfl
@[go_sem] theorem tyI_140 : tyI Tryd.prog 140 = some { agg := false, size := 1, bytes := 8 } := by kernel_rfl
@[go_sem] theorem kindT_140 : kindT Tryd.prog 140 = 9 := by kernel_rfl
@[go_sem] theorem hasT_140 : hasT Tryd.prog 140 = true := by kernel_rfl
@[go_sem] theorem zeroI_140 : zeroI Tryd.prog 140 = some [Go.Av.AV.lit Go.Value.nilFunc] := by kernel_rfl
@[go_sem] theorem tyI_141 : tyI Tryd.prog 141 = some { agg := true, size := 24, bytes := 24 } := by kernel_rfl
@[go_sem] theorem kindT_141 : kindT Tryd.prog 141 = 7 := by kernel_rfl
@[go_sem] theorem hasT_141 : hasT Tryd.prog 141 = true := by kernel_rfl
@[go_sem] theorem zeroI_141 : zeroI Tryd.prog 141 = some [Go.Av.AV.lit (Go.Value.int Go.IntKind.u8 0), Go.Av.AV.lit (Go.Value.int Go.IntKind.u8 0), Go.Av.AV.lit (Go.Value.int Go.IntKind.u8 0), Go.Av.AV.lit (Go.Value.int Go.IntKind.u8 0), Go.Av.AV.lit (Go.Value.int Go.IntKind.u8 0), Go.Av.AV.lit (Go.Value.int Go.IntKind.u8 0), Go.Av.AV.lit (Go.Value.int Go.IntKind.u8 0), Go.Av.AV.lit (Go.Value.int Go.IntKind.u8 0), Go.Av.AV.lit (Go.Value.int Go.IntKind.u8 0), Go.Av.AV.lit (Go.Value.int Go.IntKind.u8 0), Go.Av.AV.lit (Go.Value.int Go.IntKind.u8 0), Go.Av.AV.lit (Go.Value.int Go.IntKind.u8 0), Go.Av.AV.lit (Go.Value.int Go.IntKind.u8 0), Go.Av.AV.lit (Go.Value.int Go.IntKind.u8 0), Go.Av.AV.lit (Go.Value.int Go.IntKind.u8 0), Go.Av.AV.lit (Go.Value.int Go.IntKind.u8 0), Go.Av.AV.lit (Go.Value.int Go.IntKind.u8 0), Go.Av.AV.lit (Go.Value.int Go.IntKind.u8 0), Go.Av.AV.lit (Go.Value.int Go.IntKind.u8 0), Go.Av.AV.lit (Go.Value.int Go.IntKind.u8 0), Go.Av.AV.lit (Go.Value.int Go.IntKind.u8 0), Go.Av.AV.lit (Go.Value.int Go.IntKind.u8 0), Go.Av.AV.lit (Go.Value.int Go.IntKind.u8 0), Go.Av.AV.lit (Go.Value.int Go.IntKind.u8 0)] := by kernel_rfl
@[go_sem] theorem tyI_142 : tyI Tryd.prog 142 = some { agg := false, size := 1, bytes := 8 } := by kernel_rfl
@[go_sem] theorem kindT_142 : kindT Tryd.prog 142 = 9 := by kernel_rfl
@[go_sem] theorem hasT_142 : hasT Tryd.prog 142 = true := by kernel_rfl
@[go_sem] theorem zeroI_142 : zeroI Tryd.prog 142 = some [Go.Av.AV.lit Go.Value.nilFunc] := by kernel_rfl
@[go_sem] theorem tyI_143 : tyI Tryd.prog 143 = some { agg := false, size := 1, bytes := 0 } := by kernel_rfl
@[go_sem] theorem kindT_143 : kindT Tryd.prog 143 = 0 := by kernel_rfl
@[go_sem] theorem hasT_143 : hasT Tryd.prog 143 = true := by kernel_rfl
@[go_sem] theorem tyI_144 : tyI Tryd.prog 144 = some { agg := false, size := 1, bytes := 8 } := by kernel_rfl
@[go_sem] theorem kindT_144 : kindT Tryd.prog 144 = 9 := by kernel_rfl
@[go_sem] theorem hasT_144 : hasT Tryd.prog 144 = true := by kernel_rfl
@[go_sem] theorem zeroI_144 : zeroI Tryd.prog 144 = some [Go.Av.AV.lit Go.Value.nilFunc] := by kernel_rfl
@[go_sem] theorem tyI_145 : tyI Tryd.prog 145 = some { agg := false, size := 1, bytes := 8 } := by kernel_rfl
@[go_sem] theorem kindT_145 : kindT Tryd.prog 145 = 9 := by kernel_rfl
@[go_sem] theorem hasT_145 : hasT Tryd.prog 145 = true := by kernel_rfl
@[go_sem] theorem zeroI_145 : zeroI Tryd.prog 145 = some [Go.Av.AV.lit Go.Value.nilFunc] := by kernel_rfl
@[go_sem] theorem tyI_146 : tyI Tryd.prog 146 = some { agg := true, size := 256, bytes := 256 } := by kernel_rfl
@[go_sem] theorem kindT_146 : kindT Tryd.prog 146 = 7 := by kernel_rfl
@[go_sem] theorem hasT_146 : hasT Tryd.prog 146 = true := by kernel_rfl
@[go_sem] theorem tyI_147 : tyI Tryd.prog 147 = some { agg := false, size := 1, bytes := 8 } := by kernel_rfl
@[go_sem] theorem kindT_147 : kindT Tryd.prog 147 = 9 := by kernel_rfl
@[go_sem] theorem hasT_147 : hasT Tryd.prog 147 = true := by kernel_rfl
@[go_sem] theorem zeroI_147 : zeroI Tryd.prog 147 = some [Go.Av.AV.lit Go.Value.nilFunc] := by kernel_rfl
@[go_sem] theorem tyI_148 : tyI Tryd.prog 148 = some { agg := false, size := 1, bytes := 8 } := by kernel_rfl
@[go_sem] theorem kindT_148 : kindT Tryd.prog 148 = 9 := by kernel_rfl
@[go_sem] theorem hasT_148 : hasT Tryd.prog 148 = true := by kernel_rfl
@[go_sem] theorem zeroI_148 : zeroI Tryd.prog 148 = some [Go.Av.AV.lit Go.Value.nilFunc] := by kernel_rfl
@[go_sem] theorem tyI_149 : tyI Tryd.prog 149 = some { agg := false, size := 1, bytes := 8 } := by kernel_rfl
@[go_sem] theorem kindT_149 : kindT Tryd.prog 149 = 9 := by kernel_rfl
@[go_sem] theorem hasT_149 : hasT Tryd.prog 149 = true := by kernel_rfl
@[go_sem] theorem zeroI_149 : zeroI Tryd.prog 149 = some [Go.Av.AV.lit Go.Value.nilFunc] := by kernel_rfl
@[go_sem] theorem tyI_150 : tyI Tryd.prog 150 = some { agg := false, size := 1, bytes := 8 } := by kernel_rfl
@[go_sem] theorem kindT_150 : kindT Tryd.prog 150 = 9 := by kernel_rfl
@[go_sem] theorem hasT_150 : hasT Tryd.prog 150 = true := by kernel_rfl
@[go_sem] theorem zeroI_150 : zeroI Tryd.prog 150 = some [Go.Av.AV.lit Go.Value.nilFunc] := by kernel_rfl
@[go_sem] theorem tyI_151 : tyI Tryd.prog 151 = some { agg := false, size := 1, bytes := 8 } := by kernel_rfl
@[go_sem] theorem kindT_151 : kindT Tryd.prog 151 = 2 := by kernel_rfl
@[go_sem] theorem intT_151 : intT Tryd.prog 151 = some Go.IntKind.u64 := by kernel_rfl
@[go_sem] theorem hasT_151 : hasT Tryd.prog 151 = true := by kernel_rfl
@[go_sem] theorem zeroI_151 : zeroI Tryd.prog 151 = some [Go.Av.AV.lit (Go.Value.int Go.IntKind.u64 0)] := by kernel_rfl
@[go_sem] theorem tyI_152 : tyI Tryd.prog 152 = some { agg := false, size := 1, bytes := 8 } := by kernel_rfl
@[go_sem] theorem kindT_152 : kindT Tryd.prog 152 = 9 := by kernel_rfl
@[go_sem] theorem hasT_152 : hasT Tryd.prog 152 = true := by kernel_rfl
@[go_sem] theorem zeroI_152 : zeroI Tryd.prog 152 = some [Go.Av.AV.lit Go.Value.nilFunc] := by kernel_rfl
@[go_sem] theorem tyI_153 : tyI Tryd.prog 153 = some { agg := false, size := 1, bytes := 8 } := by kernel_rfl
@[go_sem] theorem kindT_153 : kindT Tryd.prog 153 = 9 := by kernel_rfl
@[go_sem] theorem hasT_153 : hasT Tryd.prog 153 = true := by kernel_rfl
@[go_sem] theorem zeroI_153 : zeroI Tryd.prog 153 = some [Go.Av.AV.lit Go.Value.nilFunc] := by kernel_rfl
@[go_sem] theorem tyI_154 : tyI Tryd.prog 154 = some { agg := false, size := 1, bytes := 8 } := by kernel_rfl
@[go_sem] theorem kindT_154 : kindT Tryd.prog 154 = 9 := by kernel_rfl
@[go_sem] theorem hasT_154 : hasT Tryd.prog 154 = true := by kernel_rfl
@[go_sem] theorem zeroI_154 : zeroI Tryd.prog 154 = some [Go.Av.AV.lit Go.Value.nilFunc] := by kernel_rfl
@[go_sem] theorem tyI_155 : tyI Tryd.prog 155 = some { agg := false, size := 1, bytes := 8 } := by kernel_rfl
@[go_sem] theorem kindT_155 : kindT Tryd.prog 155 = 4 := by kernel_rfl
@[go_sem] theorem hasT_155 : hasT Tryd.prog 155 = true := by kernel_rfl
@[go_sem] theorem zeroI_155 : zeroI Tryd.prog 155 = some [Go.Av.AV.lit (Go.Value.pointer none)] := by kernel_rfl
@[go_sem] theorem tyI_156 : tyI Tryd.prog 156 = some { agg := false, size := 1, bytes := 8 } := by kernel_rfl
@[go_sem] theorem kindT_156 : kindT Tryd.prog 156 = 9 := by kernel_rfl
@[go_sem] theorem hasT_156 : hasT Tryd.prog 156 = true := by kernel_rfl
@[go_sem] theorem zeroI_156 : zeroI Tryd.prog 156 = some [Go.Av.AV.lit Go.Value.nilFunc] := by kernel_rfl
@[go_sem] theorem tyI_157 : tyI Tryd.prog 157 = some { agg := false, size := 1, bytes := 8 } := by kernel_rfl
@[go_sem] theorem kindT_157 : kindT Tryd.prog 157 = 9 := by kernel_rfl
@[go_sem] theorem hasT_157 : hasT Tryd.prog 157 = true := by kernel_rfl
@[go_sem] theorem zeroI_157 : zeroI Tryd.prog 157 = some [Go.Av.AV.lit Go.Value.nilFunc] := by kernel_rfl
@[go_sem] theorem tyI_158 : tyI Tryd.prog 158 = some { agg := true, size := 20, bytes := 160 } := by kernel_rfl
@[go_sem] theorem kindT_158 : kindT Tryd.prog 158 = 7 := by kernel_rfl
@[go_sem] theorem hasT_158 : hasT Tryd.prog 158 = true := by kernel_rfl
@[go_sem] theorem zeroI_158 : zeroI Tryd.prog 158 = some [Go.Av.AV.lit (Go.Value.int Go.IntKind.u64 0), Go.Av.AV.lit (Go.Value.int Go.IntKind.u64 0), Go.Av.AV.lit (Go.Value.int Go.IntKind.u64 0), Go.Av.AV.lit (Go.Value.int Go.IntKind.u64 0), Go.Av.AV.lit (Go.Value.int Go.IntKind.u64 0), Go.Av.AV.lit (Go.Value.int Go.IntKind.u64 0), Go.Av.AV.lit (Go.Value.int Go.IntKind.u64 0), Go.Av.AV.lit (Go.Value.int Go.IntKind.u64 0), Go.Av.AV.lit (Go.Value.int Go.IntKind.u64 0), Go.Av.AV.lit (Go.Value.int Go.IntKind.u64 0), Go.Av.AV.lit (Go.Value.int Go.IntKind.u64 0), Go.Av.AV.lit (Go.Value.int Go.IntKind.u64 0), Go.Av.AV.lit (Go.Value.int Go.IntKind.u64 0), Go.Av.AV.lit (Go.Value.int Go.IntKind.u64 0), Go.Av.AV.lit (Go.Value.int Go.IntKind.u64 0), Go.Av.AV.lit (Go.Value.int Go.IntKind.u64 0), Go.Av.AV.lit (Go.Value.int Go.IntKind.u64 0), Go.Av.AV.lit (Go.Value.int Go.IntKind.u64 0), Go.Av.AV.lit (Go.Value.int Go.IntKind.u64 0), Go.Av.AV.lit (Go.Value.int Go.IntKind.u64 0)] := by kernel_rfl
@[go_sem] theorem tyI_159 : tyI Tryd.prog 159 = some { agg := true, size := 65, bytes := 65 } := by kernel_rfl
@[go_sem] theorem kindT_159 : kindT Tryd.prog 159 = 7 := by kernel_rfl
@[go_sem] theorem hasT_159 : hasT Tryd.prog 159 = true := by kernel_rfl
@[go_sem] theorem zeroI_159 : zeroI Tryd.prog 159 = some [Go.Av.AV.lit (Go.Value.int Go.IntKind.u8 0), Go.Av.AV.lit (Go.Value.int Go.IntKind.u8 0), Go.Av.AV.lit (Go.Value.int Go.IntKind.u8 0), Go.Av.AV.lit (Go.Value.int Go.IntKind.u8 0), Go.Av.AV.lit (Go.Value.int Go.IntKind.u8 0), Go.Av.AV.lit (Go.Value.int Go.IntKind.u8 0), Go.Av.AV.lit (Go.Value.int Go.IntKind.u8 0), Go.Av.AV.lit (Go.Value.int Go.IntKind.u8 0), Go.Av.AV.lit (Go.Value.int Go.IntKind.u8 0), Go.Av.AV.lit (Go.Value.int Go.IntKind.u8 0), Go.Av.AV.lit (Go.Value.int Go.IntKind.u8 0), Go.Av.AV.lit (Go.Value.int Go.IntKind.u8 0), Go.Av.AV.lit (Go.Value.int Go.IntKind.u8 0), Go.Av.AV.lit (Go.Value.int Go.IntKind.u8 0), Go.Av.AV.lit (Go.Value.int Go.IntKind.u8 0), Go.Av.AV.lit (Go.Value.int Go.IntKind.u8 0), Go.Av.AV.lit (Go.Value.int Go.IntKind.u8 0), Go.Av.AV.lit (Go.Value.int Go.IntKind.u8 0), Go.Av.AV.lit (Go.Value.int Go.IntKind.u8 0), Go.Av.AV.lit (Go.Value.int Go.IntKind.u8 0), Go.Av.AV.lit (Go.Value.int Go.IntKind.u8 0), Go.Av.AV.lit (Go.Value.int Go.IntKind.u8 0), Go.Av.AV.lit (Go.Value.int Go.IntKind.u8 0), Go.Av.AV.lit (Go.Value.int Go.IntKind.u8 0), Go.Av.AV.lit (Go.Value.int Go.IntKind.u8 0), Go.Av.AV.lit (Go.Value.int Go.IntKind.u8 0), Go.Av.AV.lit (Go.Value.int Go.IntKind.u8 0), Go.Av.AV.lit (Go.Value.int Go.IntKind.u8 0), Go.Av.AV.lit (Go.Value.int Go.IntKind.u8 0), Go.Av.AV.lit (Go.Value.int Go.IntKind.u8 0), Go.Av.AV.lit (Go.Value.int Go.IntKind.u8 0), Go.Av.AV.lit (Go.Value.int Go.IntKind.u8 0), Go.Av.AV.lit (Go.Value.int Go.IntKind.u8 0), Go.Av.AV.lit (Go.Value.int Go.IntKind.u8 0), Go.Av.AV.lit (Go.Value.int Go.IntKind.u8 0), Go.Av.AV.lit (Go.Value.int Go.IntKind.u8 0), Go.Av.AV.lit (Go.Value.int Go.IntKind.u8 0), Go.Av.AV.lit (Go.Value.int Go.IntKind.u8 0), Go.Av.AV.lit (Go.Value.int Go.IntKind.u8 0), Go.Av.AV.lit (Go.Value.int Go.IntKind.u8 0), Go.Av.AV.lit (Go.Value.int Go.IntKind.u8 0), Go.Av.AV.lit (Go.Value.int Go.IntKind.u8 0), Go.Av.AV.lit (Go.Value.int Go.IntKind.u8 0), Go.Av.AV.lit (Go.Value.int Go.IntKind.u8 0), Go.Av.AV.lit (Go.Value.int Go.IntKind.u8 0), Go.Av.AV.lit (Go.Value.int Go.IntKind.u8 0), Go.Av.AV.lit (Go.Value.int Go.IntKind.u8 0), Go.Av.AV.lit (Go.Value.int Go.IntKind.u8 0), Go.Av.AV.lit (Go.Value.int Go.IntKind.u8 0), Go.Av.AV.lit (Go.Value.int Go.IntKind.u8 0), Go.Av.AV.lit (Go.Value.int Go.IntKind.u8 0), Go.Av.AV.lit (Go.Value.int Go.IntKind.u8 0), Go.Av.AV.lit (Go.Value.int Go.IntKind.u8 0), Go.Av.AV.lit (Go.Value.int Go.IntKind.u8 0), Go.Av.AV.lit (Go.Value.int Go.IntKind.u8 0), Go.Av.AV.lit (Go.Value.int Go.IntKind.u8 0), Go.Av.AV.lit (Go.Value.int Go.IntKind.u8 0), Go.Av.AV.lit (Go.Value.int Go.IntKind.u8 0), Go.Av.AV.lit (Go.Value.int Go.IntKind.u8 0), Go.Av.AV.lit (Go.Value.int Go.IntKind.u8 0), Go.Av.AV.lit (Go.Value.int Go.IntKind.u8 0), Go.Av.AV.lit (Go.Value.int Go.IntKind.u8 0), Go.Av.AV.lit (Go.Value.int Go.IntKind.u8 0), Go.Av.AV.lit (Go.Value.int Go.IntKind.u8 0), Go.Av.AV.lit (Go.Value.int Go.IntKind.u8 0)] := by kernel_rfl
@[go_sem] theorem tyI_160 : tyI Tryd.prog 160 = some { agg := false, size := 1, bytes := 8 } := by kernel_rfl
@[go_sem] theorem kindT_160 : kindT Tryd.prog 160 = 9 := by kernel_rfl
@[go_sem] theorem hasT_160 : hasT Tryd.prog 160 = true := by kernel_rfl
@[go_sem] theorem zeroI_160 : zeroI Tryd.prog 160 = some [Go.Av.AV.lit Go.Value.nilFunc] := by kernel_rfl
@[go_sem] theorem tyI_161 : tyI Tryd.prog 161 = some { agg := false, size := 1, bytes := 24 } := by kernel_rfl
@[go_sem] theorem slT_161 : slT Tryd.prog 161 = some 163 := by kernel_rfl
@[go_sem] theorem kindT_161 : kindT Tryd.prog 161 = 5 := by kernel_rfl
@[go_sem] theorem hasT_161 : hasT Tryd.prog 161 = true := by kernel_rfl
@[go_sem] theorem zeroI_161 : zeroI Tryd.prog 161 = some [Go.Av.AV.isl (some true) [] Go.Av.Tk.full] := by kernel_rfl
@[go_sem] theorem tyI_162 : tyI Tryd.prog 162 = some { agg := true, size := 2, bytes := 16 } := by kernel_rfl
@[go_sem] theorem kindT_162 : kindT Tryd.prog 162 = 6 := by kernel_rfl
@[go_sem] theorem hasT_162 : hasT Tryd.prog 162 = true := by kernel_rfl
@[go_sem] theorem zeroI_162 : zeroI Tryd.prog 162 = some [Go.Av.AV.lit (Go.Value.int Go.IntKind.i64 0), Go.Av.AV.lit (Go.Value.int Go.IntKind.i64 0)] := by kernel_rfl
@[go_sem] theorem bldT_162 : bldT Tryd.prog 162 = true := by kernel_rfl
@[go_sem] theorem eqT_162 : eqT Tryd.prog 162 = some [(0, 2), (1, 2)] := by kernel_rfl
@[go_sem] theorem fld_162_0 : fldI Tryd.prog 162 0 = some (0, 1, false) := by kernel_rfl
@[go_sem] theorem fld_162_1 : fldI Tryd.prog 162 1 = some (1, 1, false) := by kernel_rfl
@[go_sem] theorem tyI_163 : tyI Tryd.prog 163 = some { agg := true, size := 2, bytes := 16 } := by kernel_rfl
@[go_sem] theorem kindT_163 : kindT Tryd.prog 163 = 6 := by kernel_rfl
@[go_sem] theorem hasT_163 : hasT Tryd.prog 163 = true := by kernel_rfl
@[go_sem] theorem zeroI_163 : zeroI Tryd.prog 163 = some [Go.Av.AV.lit (Go.Value.int Go.IntKind.i64 0), Go.Av.AV.lit (Go.Value.int Go.IntKind.i64 0)] := by kernel_rfl
@[go_sem] theorem bldT_163 : bldT Tryd.prog 163 = true := by kernel_rfl
@[go_sem] theorem eqT_163 : eqT Tryd.prog 163 = some [(0, 2), (1, 2)] := by kernel_rfl
@[go_sem] theorem fld_163_0 : fldI Tryd.prog 163 0 = some (0, 1, false) := by kernel_rfl
@[go_sem] theorem fld_163_1 : fldI Tryd.prog 163 1 = some (1, 1, false) := by kernel_rfl
@[go_sem] theorem tyI_164 : tyI Tryd.prog 164 = some { agg := false, size := 1, bytes := 8 } := by kernel_rfl
@[go_sem] theorem kindT_164 : kindT Tryd.prog 164 = 9 := by kernel_rfl
@[go_sem] theorem hasT_164 : hasT Tryd.prog 164 = true := by kernel_rfl
@[go_sem] theorem zeroI_164 : zeroI Tryd.prog 164 = some [Go.Av.AV.lit Go.Value.nilFunc] := by kernel_rfl
@[go_sem] theorem tyI_165 : tyI Tryd.prog 165 = some { agg := false, size := 1, bytes := 8 } := by kernel_rfl
@[go_sem] theorem kindT_165 : kindT Tryd.prog 165 = 4 := by kernel_rfl
@[go_sem] theorem hasT_165 : hasT Tryd.prog 165 = true := by kernel_rfl
@[go_sem] theorem zeroI_165 : zeroI Tryd.prog 165 = some [Go.Av.AV.lit (Go.Value.pointer none)] := by kernel_rfl
@[go_sem] theorem tyI_166 : tyI Tryd.prog 166 = some { agg := false, size := 1, bytes := 8 } := by kernel_rfl
@[go_sem] theorem kindT_166 : kindT Tryd.prog 166 = 9 := by kernel_rfl
@[go_sem] theorem hasT_166 : hasT Tryd.prog 166 = true := by kernel_rfl
@[go_sem] theorem zeroI_166 : zeroI Tryd.prog 166 = some [Go.Av.AV.lit Go.Value.nilFunc] := by kernel_rfl
@[go_sem] theorem tyI_167 : tyI Tryd.prog 167 = some { agg := false, size := 1, bytes := 8 } := by kernel_rfl
@[go_sem] theorem kindT_167 : kindT Tryd.prog 167 = 4 := by kernel_rfl
@[go_sem] theorem hasT_167 : hasT Tryd.prog 167 = true := by kernel_rfl
@[go_sem] theorem zeroI_167 : zeroI Tryd.prog 167 = some [Go.Av.AV.lit (Go.Value.pointer none)] := by kernel_rfl
@[go_sem] theorem tyI_168 : tyI Tryd.prog 168 = some { agg := false, size := 1, bytes := 0 } := by kernel_rfl
@[go_sem] theorem kindT_168 : kindT Tryd.prog 168 = 0 := by kernel_rfl
@[go_sem] theorem hasT_168 : hasT Tryd.prog 168 = true := by kernel_rfl
@[go_sem] theorem tyI_169 : tyI Tryd.prog 169 = some { agg := false, size := 1, bytes := 8 } := by kernel_rfl
@[go_sem] theorem kindT_169 : kindT Tryd.prog 169 = 9 := by kernel_rfl
@[go_sem] theorem hasT_169 : hasT Tryd.prog 169 = true := by kernel_rfl
@[go_sem] theorem zeroI_169 : zeroI Tryd.prog 169 = some [Go.Av.AV.lit Go.Value.nilFunc] := by kernel_rfl
@[go_sem] theorem tyI_170 : tyI Tryd.prog 170 = some { agg := false, size := 1, bytes := 24 } := by kernel_rfl
@[go_sem] theorem slT_170 : slT Tryd.prog 170 = some 176 := by kernel_rfl
@[go_sem] theorem kindT_170 : kindT Tryd.prog 170 = 5 := by kernel_rfl
@[go_sem] theorem hasT_170 : hasT Tryd.prog 170 = true := by kernel_rfl
@[go_sem] theorem zeroI_170 : zeroI Tryd.prog 170 = some [Go.Av.AV.isl (some true) [] Go.Av.Tk.full] := by kernel_rfl
@[go_sem] theorem tyI_171 : tyI Tryd.prog 171 = some { agg := false, size := 1, bytes := 24 } := by kernel_rfl
@[go_sem] theorem slT_171 : slT Tryd.prog 171 = some 179 := by kernel_rfl
@[go_sem] theorem kindT_171 : kindT Tryd.prog 171 = 5 := by kernel_rfl
@[go_sem] theorem hasT_171 : hasT Tryd.prog 171 = true := by kernel_rfl
@[go_sem] theorem zeroI_171 : zeroI Tryd.prog 171 = some [Go.Av.AV.isl (some true) [] Go.Av.Tk.full] := by kernel_rfl
@[go_sem] theorem tyI_172 : tyI Tryd.prog 172 = some { agg := true, size := 3, bytes := 56 } := by kernel_rfl
@[go_sem] theorem kindT_172 : kindT Tryd.prog 172 = 6 := by kernel_rfl
@[go_sem] theorem hasT_172 : hasT Tryd.prog 172 = true := by kernel_rfl
@[go_sem] theorem zeroI_172 : zeroI Tryd.prog 172 = some [Go.Av.AV.isl (some true) [] Go.Av.Tk.full, Go.Av.AV.isl (some true) [] Go.Av.Tk.full, Go.Av.AV.lit (Go.Value.int Go.IntKind.i64 0)] := by kernel_rfl
@[go_sem] theorem bldT_172 : bldT Tryd.prog 172 = true := by kernel_rfl
@[go_sem] theorem fld_172_0 : fldI Tryd.prog 172 0 = some (0, 1, false) := by kernel_rfl
@[go_sem] theorem fld_172_1 : fldI Tryd.prog 172 1 = some (1, 1, false) := by kernel_rfl
@[go_sem] theorem fld_172_2 : fldI Tryd.prog 172 2 = some (2, 1, false) := by kernel_rfl
@[go_sem] theorem tyI_173 : tyI Tryd.prog 173 = some { agg := true, size := 3, bytes := 56 } := by kernel_rfl
@[go_sem] theorem kindT_173 : kindT Tryd.prog 173 = 6 := by kernel_rfl
@[go_sem] theorem hasT_173 : hasT Tryd.prog 173 = true := by kernel_rfl
@[go_sem] theorem zeroI_173 : zeroI Tryd.prog 173 = some [Go.Av.AV.isl (some true) [] Go.Av.Tk.full, Go.Av.AV.isl (some true) [] Go.Av.Tk.full, Go.Av.AV.lit (Go.Value.int Go.IntKind.i64 0)] := by kernel_rfl
@[go_sem] theorem bldT_173 : bldT Tryd.prog 173 = true := by kernel_rfl
@[go_sem] theorem fld_173_0 : fldI Tryd.prog 173 0 = some (0, 1, false) := by kernel_rfl
@[go_sem] theorem fld_173_1 : fldI Tryd.prog 173 1 = some (1, 1, false) := by kernel_rfl
@[go_sem] theorem fld_173_2 : fldI Tryd.prog 173 2 = some (2, 1, false) := by kernel_rfl
@[go_sem] theorem tyI_174 : tyI Tryd.prog 174 = some { agg := false, size := 1, bytes := 2 } := by kernel_rfl
@[go_sem] theorem kindT_174 : kindT Tryd.prog 174 = 2 := by kernel_rfl
@[go_sem] theorem intT_174 : intT Tryd.prog 174 = some Go.IntKind.u16 := by kernel_rfl
@[go_sem] theorem hasT_174 : hasT Tryd.prog 174 = true := by kernel_rfl
@[go_sem] theorem zeroI_174 : zeroI Tryd.prog 174 = some [Go.Av.AV.lit (Go.Value.int Go.IntKind.u16 0)] := by kernel_rfl
@[go_sem] theorem tyI_175 : tyI Tryd.prog 175 = some { agg := true, size := 3, bytes := 6 } := by kernel_rfl
@[go_sem] theorem kindT_175 : kindT Tryd.prog 175 = 6 := by kernel_rfl
@[go_sem] theorem hasT_175 : hasT Tryd.prog 175 = true := by kernel_rfl
@[go_sem] theorem zeroI_175 : zeroI Tryd.prog 175 = some [Go.Av.AV.lit (Go.Value.int Go.IntKind.u16 0), Go.Av.AV.lit (Go.Value.int Go.IntKind.u16 0), Go.Av.AV.lit (Go.Value.int Go.IntKind.u16 0)] := by kernel_rfl
@[go_sem] theorem bldT_175 : bldT Tryd.prog 175 = true := by kernel_rfl
@[go_sem] theorem eqT_175 : eqT Tryd.prog 175 = some [(0, 2), (1, 2), (2, 2)] := by kernel_rfl
@[go_sem] theorem fld_175_0 : fldI Tryd.prog 175 0 = some (0, 1, false) := by kernel_rfl
@[go_sem] theorem fld_175_1 : fldI Tryd.prog 175 1 = some (1, 1, false) := by kernel_rfl
@[go_sem] theorem fld_175_2 : fldI Tryd.prog 175 2 = some (2, 1, false) := by kernel_rfl
@[go_sem] theorem tyI_176 : tyI Tryd.prog 176 = some { agg := true, size := 3, bytes := 6 } := by kernel_rfl
@[go_sem] theorem kindT_176 : kindT Tryd.prog 176 = 6 := by kernel_rfl
@[go_sem] theorem hasT_176 : hasT Tryd.prog 176 = true := by kernel_rfl
@[go_sem] theorem zeroI_176 : zeroI Tryd.prog 176 = some [Go.Av.AV.lit (Go.Value.int Go.IntKind.u16 0), Go.Av.AV.lit (Go.Value.int Go.IntKind.u16 0), Go.Av.AV.lit (Go.Value.int Go.IntKind.u16 0)] := by kernel_rfl
@[go_sem] theorem bldT_176 : bldT Tryd.prog 176 = true := by kernel_rfl
@[go_sem] theorem eqT_176 : eqT Tryd.prog 176 = some [(0, 2), (1, 2), (2, 2)] := by kernel_rfl
@[go_sem] theorem fld_176_0 : fldI Tryd.prog 176 0 = some (0, 1, false) := by kernel_rfl
@[go_sem] theorem fld_176_1 : fldI Tryd.prog 176 1 = some (1, 1, false) := by kernel_rfl
@[go_sem] theorem fld_176_2 : fldI Tryd.prog 176 2 = some (2, 1, false) := by kernel_rfl
@[go_sem] theorem tyI_177 : tyI Tryd.prog 177 = some { agg := false, size := 1, bytes := 8 } := by kernel_rfl
@[go_sem] theorem kindT_177 : kindT Tryd.prog 177 = 9 := by kernel_rfl
@[go_sem] theorem hasT_177 : hasT Tryd.prog 177 = true := by kernel_rfl
@[go_sem] theorem zeroI_177 : zeroI Tryd.prog 177 = some [Go.Av.AV.lit Go.Value.nilFunc] := by kernel_rfl
@[go_sem] theorem tyI_178 : tyI Tryd.prog 178 = some { agg := true, size := 3, bytes := 12 } := by kernel_rfl
@[go_sem] theorem kindT_178 : kindT Tryd.prog 178 = 6 := by kernel_rfl
@[go_sem] theorem hasT_178 : hasT Tryd.prog 178 = true := by kernel_rfl
@[go_sem] theorem zeroI_178 : zeroI Tryd.prog 178 = some [Go.Av.AV.lit (Go.Value.int Go.IntKind.u32 0), Go.Av.AV.lit (Go.Value.int Go.IntKind.u32 0), Go.Av.AV.lit (Go.Value.int Go.IntKind.u32 0)] := by kernel_rfl
@[go_sem] theorem bldT_178 : bldT Tryd.prog 178 = true := by kernel_rfl
@[go_sem] theorem eqT_178 : eqT Tryd.prog 178 = some [(0, 2), (1, 2), (2, 2)] := by kernel_rfl
@[go_sem] theorem fld_178_0 : fldI Tryd.prog 178 0 = some (0, 1, false) := by kernel_rfl
@[go_sem] theorem fld_178_1 : fldI Tryd.prog 178 1 = some (1, 1, false) := by kernel_rfl
@[go_sem] theorem fld_178_2 : fldI Tryd.prog 178 2 = some (2, 1, false) := by kernel_rfl
@[go_sem] theorem tyI_179 : tyI Tryd.prog 179 = some { agg := true, size := 3, bytes := 12 } := by kernel_rfl
@[go_sem] theorem kindT_179 : kindT Tryd.prog 179 = 6 := by kernel_rfl
@[go_sem] theorem hasT_179 : hasT Tryd.prog 179 = true := by kernel_rfl
@[go_sem] theorem zeroI_179 : zeroI Tryd.prog 179 = some [Go.Av.AV.lit (Go.Value.int Go.IntKind.u32 0), Go.Av.AV.lit (Go.Value.int Go.IntKind.u32 0), Go.Av.AV.lit (Go.Value.int Go.IntKind.u32 0)] := by kernel_rfl
@[go_sem] theorem bldT_179 : bldT Tryd.prog 179 = true := by kernel_rfl
@[go_sem] theorem eqT_179 : eqT Tryd.prog 179 = some [(0, 2), (1, 2), (2, 2)] := by kernel_rfl
@[go_sem] theorem fld_179_0 : fldI Tryd.prog 179 0 = some (0, 1, false) := by kernel_rfl
@[go_sem] theorem fld_179_1 : fldI Tryd.prog 179 1 = some (1, 1, false) := by kernel_rfl
@[go_sem] theorem fld_179_2 : fldI Tryd.prog 179 2 = some (2, 1, false) := by kernel_rfl
@[go_sem] theorem tyI_180 : tyI Tryd.prog 180 = some { agg := false, size := 1, bytes := 8 } := by kernel_rfl
@[go_sem] theorem kindT_180 : kindT Tryd.prog 180 = 9 := by kernel_rfl
@[go_sem] theorem hasT_180 : hasT Tryd.prog 180 = true := by kernel_rfl
@[go_sem] theorem zeroI_180 : zeroI Tryd.prog 180 = some [Go.Av.AV.lit Go.Value.nilFunc] := by kernel_rfl
@[go_sem] theorem tyI_181 : tyI Tryd.prog 181 = some { agg := false, size := 1, bytes := 8 } := by kernel_rfl
@[go_sem] theorem kindT_181 : kindT Tryd.prog 181 = 9 := by kernel_rfl
@[go_sem] theorem hasT_181 : hasT Tryd.prog 181 = true := by kernel_rfl
@[go_sem] theorem zeroI_181 : zeroI Tryd.prog 181 = some [Go.Av.AV.lit Go.Value.nilFunc] := by kernel_rfl
@[go_sem] theorem tyI_182 : tyI Tryd.prog 182 = some { agg := true, size := 32, bytes := 32 } := by kernel_rfl
@[go_sem] theorem kindT_182 : kindT Tryd.prog 182 = 7 := by kernel_rfl
@[go_sem] theorem hasT_182 : hasT Tryd.prog 182 = true := by kernel_rfl
@[go_sem] theorem zeroI_182 : zeroI Tryd.prog 182 = some [Go.Av.AV.lit (Go.Value.int Go.IntKind.u8 0), Go.Av.AV.lit (Go.Value.int Go.IntKind.u8 0), Go.Av.AV.lit (Go.Value.int Go.IntKind.u8 0), Go.Av.AV.lit (Go.Value.int Go.IntKind.u8 0), Go.Av.AV.lit (Go.Value.int Go.IntKind.u8 0), Go.Av.AV.lit (Go.Value.int Go.IntKind.u8 0), Go.Av.AV.lit (Go.Value.int Go.IntKind.u8 0), Go.Av.AV.lit (Go.Value.int Go.IntKind.u8 0), Go.Av.AV.lit (Go.Value.int Go.IntKind.u8 0), Go.Av.AV.lit (Go.Value.int Go.IntKind.u8 0), Go.Av.AV.lit (Go.Value.int Go.IntKind.u8 0), Go.Av.AV.lit (Go.Value.int Go.IntKind.u8 0), Go.Av.AV.lit (Go.Value.int Go.IntKind.u8 0), Go.Av.AV.lit (Go.Value.int Go.IntKind.u8 0), Go.Av.AV.lit (Go.Value.int Go.IntKind.u8 0), Go.Av.AV.lit (Go.Value.int Go.IntKind.u8 0), Go.Av.AV.lit (Go.Value.int Go.IntKind.u8 0), Go.Av.AV.lit (Go.Value.int Go.IntKind.u8 0), Go.Av.AV.lit (Go.Value.int Go.IntKind.u8 0), Go.Av.AV.lit (Go.Value.int Go.IntKind.u8 0), Go.Av.AV.lit (Go.Value.int Go.IntKind.u8 0), Go.Av.AV.lit (Go.Value.int Go.IntKind.u8 0), Go.Av.AV.lit (Go.Value.int Go.IntKind.u8 0), Go.Av.AV.lit (Go.Value.int Go.IntKind.u8 0), Go.Av.AV.lit (Go.Value.int Go.IntKind.u8 0), Go.Av.AV.lit (Go.Value.int Go.IntKind.u8 0), Go.Av.AV.lit (Go.Value.int Go.IntKind.u8 0), Go.Av.AV.lit (Go.Value.int Go.IntKind.u8 0), Go.Av.AV.lit (Go.Value.int Go.IntKind.u8 0), Go.Av.AV.lit (Go.Value.int Go.IntKind.u8 0), Go.Av.AV.lit (Go.Value.int Go.IntKind.u8 0), Go.Av.AV.lit (Go.Value.int Go.IntKind.u8 0)] := by kernel_rfl
@[go_sem] theorem tyI_183 : tyI Tryd.prog 183 = some { agg := true, size := 64, bytes := 64 } := by kernel_rfl
@[go_sem] theorem kindT_183 : kindT Tryd.prog 183 = 7 := by kernel_rfl
@[go_sem] theorem hasT_183 : hasT Tryd.prog 183 = true := by kernel_rfl
@[go_sem] theorem zeroI_183 : zeroI Tryd.prog 183 = some [Go.Av.AV.lit (Go.Value.int Go.IntKind.u8 0), Go.Av.AV.lit (Go.Value.int Go.IntKind.u8 0), Go.Av.AV.lit (Go.Value.int Go.IntKind.u8 0), Go.Av.AV.lit (Go.Value.int Go.IntKind.u8 0), Go.Av.AV.lit (Go.Value.int Go.IntKind.u8 0), Go.Av.AV.lit (Go.Value.int Go.IntKind.u8 0), Go.Av.AV.lit (Go.Value.int Go.IntKind.u8 0), Go.Av.AV.lit (Go.Value.int Go.IntKind.u8 0), Go.Av.AV.lit (Go.Value.int Go.IntKind.u8 0), Go.Av.AV.lit (Go.Value.int Go.IntKind.u8 0), Go.Av.AV.lit (Go.Value.int Go.IntKind.u8 0), Go.Av.AV.lit (Go.Value.int Go.IntKind.u8 0), Go.Av.AV.lit (Go.Value.int Go.IntKind.u8 0), Go.Av.AV.lit (Go.Value.int Go.IntKind.u8 0), Go.Av.AV.lit (Go.Value.int Go.IntKind.u8 0), Go.Av.AV.lit (Go.Value.int Go.IntKind.u8 0), Go.Av.AV.lit (Go.Value.int Go.IntKind.u8 0), Go.Av.AV.lit (Go.Value.int Go.IntKind.u8 0), Go.Av.AV.lit (Go.Value.int Go.IntKind.u8 0), Go.Av.AV.lit (Go.Value.int Go.IntKind.u8 0), Go.Av.AV.lit (Go.Value.int Go.IntKind.u8 0), Go.Av.AV.lit (Go.Value.int Go.IntKind.u8 0), Go.Av.AV.lit (Go.Value.int Go.IntKind.u8 0), Go.Av.AV.lit (Go.Value.int Go.IntKind.u8 0), Go.Av.AV.lit (Go.Value.int Go.IntKind.u8 0), Go.Av.AV.lit (Go.Value.int Go.IntKind.u8 0), Go.Av.AV.lit (Go.Value.int Go.IntKind.u8 0), Go.Av.AV.lit (Go.Value.int Go.IntKind.u8 0), Go.Av.AV.lit (Go.Value.int Go.IntKind.u8 0), Go.Av.AV.lit (Go.Value.int Go.IntKind.u8 0), Go.Av.AV.lit (Go.Value.int Go.IntKind.u8 0), Go.Av.AV.lit (Go.Value.int Go.IntKind.u8 0), Go.Av.AV.lit (Go.Value.int Go.IntKind.u8 0), Go.Av.AV.lit (Go.Value.int Go.IntKind.u8 0), Go.Av.AV.lit (Go.Value.int Go.IntKind.u8 0), Go.Av.AV.lit (Go.Value.int Go.IntKind.u8 0), Go.Av.AV.lit (Go.Value.int Go.IntKind.u8 0), Go.Av.AV.lit (Go.Value.int Go.IntKind.u8 0), Go.Av.AV.lit (Go.Value.int Go.IntKind.u8 0), Go.Av.AV.lit (Go.Value.int Go.IntKind.u8 0), Go.Av.AV.lit (Go.Value.int Go.IntKind.u8 0), Go.Av.AV.lit (Go.Value.int Go.IntKind.u8 0), Go.Av.AV.lit (Go.Value.int Go.IntKind.u8 0), Go.Av.AV.lit (Go.Value.int Go.IntKind.u8 0), Go.Av.AV.lit (Go.Value.int Go.IntKind.u8 0), Go.Av.AV.lit (Go.Value.int Go.IntKind.u8 0), Go.Av.AV.lit (Go.Value.int Go.IntKind.u8 0), Go.Av.AV.lit (Go.Value.int Go.IntKind.u8 0), Go.Av.AV.lit (Go.Value.int Go.IntKind.u8 0), Go.Av.AV.lit (Go.Value.int Go.IntKind.u8 0), Go.Av.AV.lit (Go.Value.int Go.IntKind.u8 0), Go.Av.AV.lit (Go.Value.int Go.IntKind.u8 0), Go.Av.AV.lit (Go.Value.int Go.IntKind.u8 0), Go.Av.AV.lit (Go.Value.int Go.IntKind.u8 0), Go.Av.AV.lit (Go.Value.int Go.IntKind.u8 0), Go.Av.AV.lit (Go.Value.int Go.IntKind.u8 0), Go.Av.AV.lit (Go.Value.int Go.IntKind.u8 0), Go.Av.AV.lit (Go.Value.int Go.IntKind.u8 0), Go.Av.AV.lit (Go.Value.int Go.IntKind.u8 0), Go.Av.AV.lit (Go.Value.int Go.IntKind.u8 0), Go.Av.AV.lit (Go.Value.int Go.IntKind.u8 0), Go.Av.AV.lit (Go.Value.int Go.IntKind.u8 0), Go.Av.AV.lit (Go.Value.int Go.IntKind.u8 0), Go.Av.AV.lit (Go.Value.int Go.IntKind.u8 0)] := by kernel_rfl
@[go_sem] theorem tyI_184 : tyI Tryd.prog 184 = some { agg := false, size := 1, bytes := 8 } := by kernel_rfl
@[go_sem] theorem kindT_184 : kindT Tryd.prog 184 = 4 := by kernel_rfl
@[go_sem] theorem hasT_184 : hasT Tryd.prog 184 = true := by kernel_rfl
@[go_sem] theorem zeroI_184 : zeroI Tryd.prog 184 = some [Go.Av.AV.lit (Go.Value.pointer none)] := by kernel_rfl
@[go_sem] theorem tyI_185 : tyI Tryd.prog 185 = some { agg := false, size := 1, bytes := 8 } := by kernel_rfl
@[go_sem] theorem kindT_185 : kindT Tryd.prog 185 = 4 := by kernel_rfl
@[go_sem] theorem hasT_185 : hasT Tryd.prog 185 = true := by kernel_rfl
@[go_sem] theorem zeroI_185 : zeroI Tryd.prog 185 = some [Go.Av.AV.lit (Go.Value.pointer none)] := by kernel_rfl
@[go_sem] theorem tyI_186 : tyI Tryd.prog 186 = some { agg := true, size := 4, bytes := 40 } := by kernel_rfl
@[go_sem] theorem kindT_186 : kindT Tryd.prog 186 = 6 := by kernel_rfl
@[go_sem] theorem hasT_186 : hasT Tryd.prog 186 = true := by kernel_rfl
@[go_sem] theorem zeroI_186 : zeroI Tryd.prog 186 = some [Go.Av.AV.lit (Go.Value.pointer none), Go.Av.AV.lit (Go.Value.pointer none), Go.Av.AV.lit (Go.Value.pointer none), Go.Av.AV.lit (Go.Value.string ⟨#[]⟩)] := by kernel_rfl
@[go_sem] theorem bldT_186 : bldT Tryd.prog 186 = true := by kernel_rfl
@[go_sem] theorem fld_186_0 : fldI Tryd.prog 186 0 = some (0, 1, false) := by kernel_rfl
@[go_sem] theorem fld_186_1 : fldI Tryd.prog 186 1 = some (1, 1, false) := by kernel_rfl
@[go_sem] theorem fld_186_2 : fldI Tryd.prog 186 2 = some (2, 1, false) := by kernel_rfl
@[go_sem] theorem fld_186_3 : fldI Tryd.prog 186 3 = some (3, 1, false) := by kernel_rfl
@[go_sem] theorem tyI_187 : tyI Tryd.prog 187 = some { agg := true, size := 4, bytes := 40 } := by kernel_rfl
@[go_sem] theorem kindT_187 : kindT Tryd.prog 187 = 6 := by kernel_rfl
@[go_sem] theorem hasT_187 : hasT Tryd.prog 187 = true := by kernel_rfl
@[go_sem] theorem zeroI_187 : zeroI Tryd.prog 187 = some [Go.Av.AV.lit (Go.Value.pointer none), Go.Av.AV.lit (Go.Value.pointer none), Go.Av.AV.lit (Go.Value.pointer none), Go.Av.AV.lit (Go.Value.string ⟨#[]⟩)] := by kernel_rfl
@[go_sem] theorem bldT_187 : bldT Tryd.prog 187 = true := by kernel_rfl
@[go_sem] theorem fld_187_0 : fldI Tryd.prog 187 0 = some (0, 1, false) := by kernel_rfl
@[go_sem] theorem fld_187_1 : fldI Tryd.prog 187 1 = some (1, 1, false) := by kernel_rfl
@[go_sem] theorem fld_187_2 : fldI Tryd.prog 187 2 = some (2, 1, false) := by kernel_rfl
@[go_sem] theorem fld_187_3 : fldI Tryd.prog 187 3 = some (3, 1, false) := by kernel_rfl
@[go_sem] theorem tyI_188 : tyI Tryd.prog 188 = some { agg := true, size := 0, bytes := 0 } := by kernel_rfl
@[go_sem] theorem kindT_188 : kindT Tryd.prog 188 = 7 := by kernel_rfl
@[go_sem] theorem hasT_188 : hasT Tryd.prog 188 = true := by kernel_rfl
@[go_sem] theorem zeroI_188 : zeroI Tryd.prog 188 = some [] := by kernel_rfl
@[go_sem] theorem tyI_189 : tyI Tryd.prog 189 = some { agg := true, size := 0, bytes := 0 } := by kernel_rfl
@[go_sem] theorem kindT_189 : kindT Tryd.prog 189 = 6 := by kernel_rfl
@[go_sem] theorem hasT_189 : hasT Tryd.prog 189 = true := by kernel_rfl
@[go_sem] theorem zeroI_189 : zeroI Tryd.prog 189 = some [] := by kernel_rfl
@[go_sem] theorem bldT_189 : bldT Tryd.prog 189 = true := by kernel_rfl
@[go_sem] theorem fld_189_0 : fldI Tryd.prog 189 0 = some (0, 0, true) := by kernel_rfl
@[go_sem] theorem tyI_190 : tyI Tryd.prog 190 = some { agg := true, size := 0, bytes := 0 } := by kernel_rfl
@[go_sem] theorem kindT_190 : kindT Tryd.prog 190 = 6 := by kernel_rfl
@[go_sem] theorem hasT_190 : hasT Tryd.prog 190 = true := by kernel_rfl
@[go_sem] theorem zeroI_190 : zeroI Tryd.prog 190 = some [] := by kernel_rfl
@[go_sem] theorem bldT_190 : bldT Tryd.prog 190 = true := by kernel_rfl
@[go_sem] theorem fld_190_0 : fldI Tryd.prog 190 0 = some (0, 0, true) := by kernel_rfl
@[go_sem] theorem tyI_191 : tyI Tryd.prog 191 = some { agg := false, size := 1, bytes := 8 } := by kernel_rfl
@[go_sem] theorem kindT_191 : kindT Tryd.prog 191 = 9 := by kernel_rfl
@[go_sem] theorem hasT_191 : hasT Tryd.prog 191 = true := by kernel_rfl
@[go_sem] theorem zeroI_191 : zeroI Tryd.prog 191 = some [Go.Av.AV.lit Go.Value.nilFunc] := by kernel_rfl
@[go_sem] theorem tyI_192 : tyI Tryd.prog 192 = some { agg := false, size := 1, bytes := 1 } := by kernel_rfl
@[go_sem] theorem kindT_192 : kindT Tryd.prog 192 = 2 := by kernel_rfl
@[go_sem] theorem intT_192 : intT Tryd.prog 192 = some Go.IntKind.u8 := by kernel_rfl
@[go_sem] theorem hasT_192 : hasT Tryd.prog 192 = true := by kernel_rfl
@[go_sem] theorem zeroI_192 : zeroI Tryd.prog 192 = some [Go.Av.AV.lit (Go.Value.int Go.IntKind.u8 0)] := by kernel_rfl
@[go_sem] theorem tyI_193 : tyI Tryd.prog 193 = some { agg := false, size := 1, bytes := 1 } := by kernel_rfl
@[go_sem] theorem kindT_193 : kindT Tryd.prog 193 = 2 := by kernel_rfl
@[go_sem] theorem intT_193 : intT Tryd.prog 193 = some Go.IntKind.u8 := by kernel_rfl
@[go_sem] theorem hasT_193 : hasT Tryd.prog 193 = true := by kernel_rfl
@[go_sem] theorem zeroI_193 : zeroI Tryd.prog 193 = some [Go.Av.AV.lit (Go.Value.int Go.IntKind.u8 0)] := by kernel_rfl
@[go_sem] theorem tyI_194 : tyI Tryd.prog 194 = some { agg := false, size := 1, bytes := 8 } := by kernel_rfl
@[go_sem] theorem kindT_194 : kindT Tryd.prog 194 = 9 := by kernel_rfl
@[go_sem] theorem hasT_194 : hasT Tryd.prog 194 = true := by kernel_rfl
@[go_sem] theorem zeroI_194 : zeroI Tryd.prog 194 = some [Go.Av.AV.lit Go.Value.nilFunc] := by kernel_rfl
@[go_sem] theorem tyI_195 : tyI Tryd.prog 195 = some { agg := false, size := 1, bytes := 4 } := by kernel_rfl
@[go_sem] theorem kindT_195 : kindT Tryd.prog 195 = 2 := by kernel_rfl
@[go_sem] theorem intT_195 : intT Tryd.prog 195 = some Go.IntKind.i32 := by kernel_rfl
@[go_sem] theorem hasT_195 : hasT Tryd.prog 195 = true := by kernel_rfl
@[go_sem] theorem zeroI_195 : zeroI Tryd.prog 195 = some [Go.Av.AV.lit (Go.Value.int Go.IntKind.i32 0)] := by kernel_rfl
@[go_sem] theorem tyI_196 : tyI Tryd.prog 196 = some { agg := false, size := 1, bytes := 4 } := by kernel_rfl
@[go_sem] theorem kindT_196 : kindT Tryd.prog 196 = 2 := by kernel_rfl
@[go_sem] theorem intT_196 : intT Tryd.prog 196 = some Go.IntKind.i32 := by kernel_rfl
@[go_sem] theorem hasT_196 : hasT Tryd.prog 196 = true := by kernel_rfl
@[go_sem] theorem zeroI_196 : zeroI Tryd.prog 196 = some [Go.Av.AV.lit (Go.Value.int Go.IntKind.i32 0)] := by kernel_rfl
@[go_sem] theorem tyI_197 : tyI Tryd.prog 197 = some { agg := true, size := 11, bytes := 48 } := by kernel_rfl
@[go_sem] theorem kindT_197 : kindT Tryd.prog 197 = 6 := by kernel_rfl
@[go_sem] theorem hasT_197 : hasT Tryd.prog 197 = true := by kernel_rfl
@[go_sem] theorem zeroI_197 : zeroI Tryd.prog 197 = some [Go.Av.AV.lit (Go.Value.int Go.IntKind.u64 0), Go.Av.AV.lit (Go.Value.int Go.IntKind.u64 0), Go.Av.AV.lit (Go.Value.int Go.IntKind.u32 0), Go.Av.AV.lit (Go.Value.int Go.IntKind.u8 0), Go.Av.AV.lit (Go.Value.int Go.IntKind.u8 0), Go.Av.AV.lit (Go.Value.int Go.IntKind.u8 0), Go.Av.AV.lit (Go.Value.int Go.IntKind.u8 0), Go.Av.AV.lit Go.Value.nilFunc, Go.Av.AV.lit (Go.Value.pointer none), Go.Av.AV.lit (Go.Value.int Go.IntKind.i32 0), Go.Av.AV.lit (Go.Value.int Go.IntKind.i32 0)] := by kernel_rfl
@[go_sem] theorem bldT_197 : bldT Tryd.prog 197 = true := by kernel_rfl
@[go_sem] theorem fld_197_0 : fldI Tryd.prog 197 0 = some (0, 1, false) := by kernel_rfl
@[go_sem] theorem fld_197_1 : fldI Tryd.prog 197 1 = some (1, 1, false) := by kernel_rfl
@[go_sem] theorem fld_197_2 : fldI Tryd.prog 197 2 = some (2, 1, false) := by kernel_rfl
@[go_sem] theorem fld_197_3 : fldI Tryd.prog 197 3 = some (3, 1, false) := by kernel_rfl
@[go_sem] theorem fld_197_4 : fldI Tryd.prog 197 4 = some (4, 1, false) := by kernel_rfl
@[go_sem] theorem fld_197_5 : fldI Tryd.prog 197 5 = some (5, 1, false) := by kernel_rfl
@[go_sem] theorem fld_197_6 : fldI Tryd.prog 197 6 = some (6, 1, false) := by kernel_rfl
@[go_sem] theorem fld_197_7 : fldI Tryd.prog 197 7 = some (7, 1, false) := by kernel_rfl
@[go_sem] theorem tyI_198 : tyI Tryd.prog 198 = some { agg := true, size := 11, bytes := 48 } := by kernel_rfl
@[go_sem] theorem kindT_198 : kindT Tryd.prog 198 = 6 := by kernel_rfl
@[go_sem] theorem hasT_198 : hasT Tryd.prog 198 = true := by kernel_rfl
@[go_sem] theorem zeroI_198 : zeroI Tryd.prog 198 = some [Go.Av.AV.lit (Go.Value.int Go.IntKind.u64 0), Go.Av.AV.lit (Go.Value.int Go.IntKind.u64 0), Go.Av.AV.lit (Go.Value.int Go.IntKind.u32 0), Go.Av.AV.lit (Go.Value.int Go.IntKind.u8 0), Go.Av.AV.lit (Go.Value.int Go.IntKind.u8 0), Go.Av.AV.lit (Go.Value.int Go.IntKind.u8 0), Go.Av.AV.lit (Go.Value.int Go.IntKind.u8 0), Go.Av.AV.lit Go.Value.nilFunc, Go.Av.AV.lit (Go.Value.pointer none), Go.Av.AV.lit (Go.Value.int Go.IntKind.i32 0), Go.Av.AV.lit (Go.Value.int Go.IntKind.i32 0)] := by kernel_rfl
@[go_sem] theorem bldT_198 : bldT Tryd.prog 198 = true := by kernel_rfl
@[go_sem] theorem fld_198_0 : fldI Tryd.prog 198 0 = some (0, 1, false) := by kernel_rfl
@[go_sem] theorem fld_198_1 : fldI Tryd.prog 198 1 = some (1, 1, false) := by kernel_rfl
@[go_sem] theorem fld_198_2 : fldI Tryd.prog 198 2 = some (2, 1, false) := by kernel_rfl
@[go_sem] theorem fld_198_3 : fldI Tryd.prog 198 3 = some (3, 1, false) := by kernel_rfl
@[go_sem] theorem fld_198_4 : fldI Tryd.prog 198 4 = some (4, 1, false) := by kernel_rfl
@[go_sem] theorem fld_198_5 : fldI Tryd.prog 198 5 = some (5, 1, false) := by kernel_rfl
@[go_sem] theorem fld_198_6 : fldI Tryd.prog 198 6 = some (6, 1, false) := by kernel_rfl
@[go_sem] theorem fld_198_7 : fldI Tryd.prog 198 7 = some (7, 1, false) := by kernel_rfl
@[go_sem] theorem callable_2 : callable Tryd.prog 2 = true := by kernel_rfl
@[go_sem] theorem callable_3 : callable Tryd.prog 3 = true := by kernel_rfl
@[go_sem] theorem callable_4 : callable Tryd.prog 4 = true := by kernel_rfl
@[go_sem] theorem callable_5 : callable Tryd.prog 5 = true := by kernel_rfl
@[go_sem] theorem callable_6 : callable Tryd.prog 6 = true := by kernel_rfl
@[go_sem] theorem callable_7 : callable Tryd.prog 7 = true := by kernel_rfl
@[go_sem] theorem callable_8 : callable Tryd.prog 8 = true := by kernel_rfl
@[go_sem] theorem callable_9 : callable Tryd.prog 9 = true := by kernel_rfl
@[go_sem] theorem callable_10 : callable Tryd.prog 10 = true := by kernel_rfl
@[go_sem] theorem callable_11 : callable Tryd.prog 11 = true := by kernel_rfl
@[go_sem] theorem callable_12 : callable Tryd.prog 12 = true := by kernel_rfl
@[go_sem] theorem callable_13 : callable Tryd.prog 13 = true := by kernel_rfl
@[go_sem] theorem callable_14 : callable Tryd.prog 14 = true := by kernel_rfl
@[go_sem] theorem callable_15 : callable Tryd.prog 15 = true := by kernel_rfl
@[go_sem] theorem callable_16 : callable Tryd.prog 16 = true := by kernel_rfl
@[go_sem] theorem callable_17 : callable Tryd.prog 17 = true := by kernel_rfl
@[go_sem] theorem callable_18 : callable Tryd.prog 18 = true := by kernel_rfl
@[go_sem] theorem callable_19 : callable Tryd.prog 19 = true := by kernel_rfl
@[go_sem] theorem callable_20 : callable Tryd.prog 20 = true := by kernel_rfl
@[go_sem] theorem callable_21 : callable Tryd.prog 21 = true := by kernel_rfl
@[go_sem] theorem callable_22 : callable Tryd.prog 22 = true := by kernel_rfl
@[go_sem] theorem callable_23 : callable Tryd.prog 23 = true := by kernel_rfl
@[go_sem] theorem callable_24 : callable Tryd.prog 24 = true := by kernel_rfl
@[go_sem] theorem callable_25 : callable Tryd.prog 25 = true := by kernel_rfl
@[go_sem] theorem callable_26 : callable Tryd.prog 26 = true := by kernel_rfl
@[go_sem] theorem callable_27 : callable Tryd.prog 27 = true := by kernel_rfl
@[go_sem] theorem callable_28 : callable Tryd.prog 28 = true := by kernel_rfl
@[go_sem] theorem callable_29 : callable Tryd.prog 29 = true := by kernel_rfl
@[go_sem] theorem callable_30 : callable Tryd.prog 30 = true := by kernel_rfl
@[go_sem] theorem callable_31 : callable Tryd.prog 31 = true := by kernel_rfl
@[go_sem] theorem callable_32 : callable Tryd.prog 32 = true := by kernel_rfl
@[go_sem] theorem callable_33 : callable Tryd.prog 33 = true := by kernel_rfl
@[go_sem] theorem callable_34 : callable Tryd.prog 34 = true := by kernel_rfl
@[go_sem] theorem callable_35 : callable Tryd.prog 35 = true := by kernel_rfl
@[go_sem] theorem callable_36 : callable Tryd.prog 36 = true := by kernel_rfl
@[go_sem] theorem callable_37 : callable Tryd.prog 37 = true := by kernel_rfl
@[go_sem] theorem callable_38 : callable Tryd.prog 38 = true := by kernel_rfl
@[go_sem] theorem callable_39 : callable Tryd.prog 39 = true := by kernel_rfl
@[go_sem] theorem callable_40 : callable Tryd.prog 40 = true := by kernel_rfl
@[go_sem] theorem callable_41 : callable Tryd.prog 41 = true := by kernel_rfl
@[go_sem] theorem callable_42 : callable Tryd.prog 42 = true := by kernel_rfl
@[go_sem] theorem callable_43 : callable Tryd.prog 43 = true := by kernel_rfl
@[go_sem] theorem callable_44 : callable Tryd.prog 44 = true := by kernel_rfl
@[go_sem] theorem callable_45 : callable Tryd.prog 45 = true := by kernel_rfl
@[go_sem] theorem callable_46 : callable Tryd.prog 46 = true := by kernel_rfl
@[go_sem] theorem callable_47 : callable Tryd.prog 47 = true := by kernel_rfl
@[go_sem] theorem callable_48 : callable Tryd.prog 48 = true := by kernel_rfl
@[go_sem] theorem callable_49 : callable Tryd.prog 49 = true := by kernel_rfl
@[go_sem] theorem callable_50 : callable Tryd.prog 50 = true := by kernel_rfl
@[go_sem] theorem callable_51 : callable Tryd.prog 51 = true := by kernel_rfl
@[go_sem] theorem callable_52 : callable Tryd.prog 52 = true := by kernel_rfl
@[go_sem] theorem callable_53 : callable Tryd.prog 53 = true := by kernel_rfl
@[go_sem] theorem callable_54 : callable Tryd.prog 54 = true := by kernel_rfl
@[go_sem] theorem callable_55 : callable Tryd.prog 55 = true := by kernel_rfl
@[go_sem] theorem callable_56 : callable Tryd.prog 56 = true := by kernel_rfl
@[go_sem] theorem callable_57 : callable Tryd.prog 57 = true := by kernel_rfl
@[go_sem] theorem callable_58 : callable Tryd.prog 58 = true := by kernel_rfl
@[go_sem] theorem callable_59 : callable Tryd.prog 59 = true := by kernel_rfl
@[go_sem] theorem callable_60 : callable Tryd.prog 60 = true := by kernel_rfl
@[go_sem] theorem callable_61 : callable Tryd.prog 61 = true := by kernel_rfl
@[go_sem] theorem callable_62 : callable Tryd.prog 62 = true := by kernel_rfl
@[go_sem] theorem callable_63 : callable Tryd.prog 63 = true := by kernel_rfl
@[go_sem] theorem callable_64 : callable Tryd.prog 64 = true := by kernel_rfl
@[go_sem] theorem callable_65 : callable Tryd.prog 65 = true := by kernel_rfl
@[go_sem] theorem callable_66 : callable Tryd.prog 66 = true := by kernel_rfl
@[go_sem] theorem callable_67 : callable Tryd.prog 67 = true := by kernel_rfl
@[go_sem] theorem callable_68 : callable Tryd.prog 68 = true := by kernel_rfl
@[go_sem] theorem callable_69 : callable Tryd.prog 69 = true := by kernel_rfl
@[go_sem] theorem callable_70 : callable Tryd.prog 70 = true := by kernel_rfl
@[go_sem] theorem callable_71 : callable Tryd.prog 71 = true := by kernel_rfl
@[go_sem] theorem callable_72 : callable Tryd.prog 72 = true := by kernel_rfl
@[go_sem] theorem callable_73 : callable Tryd.prog 73 = true := by kernel_rfl
@[go_sem] theorem callable_74 : callable Tryd.prog 74 = true := by kernel_rfl
@[go_sem] theorem callable_75 : callable Tryd.prog 75 = true := by kernel_rfl
@[go_sem] theorem callable_76 : callable Tryd.prog 76 = true := by kernel_rfl
@[go_sem] theorem callable_77 : callable Tryd.prog 77 = true := by kernel_rfl
@[go_sem] theorem callable_78 : callable Tryd.prog 78 = true := by kernel_rfl
@[go_sem] theorem callable_79 : callable Tryd.prog 79 = true := by kernel_rfl
@[go_sem] theorem callable_80 : callable Tryd.prog 80 = true := by kernel_rfl
@[go_sem] theorem callable_81 : callable Tryd.prog 81 = true := by kernel_rfl
@[go_sem] theorem callable_82 : callable Tryd.prog 82 = true := by kernel_rfl
@[go_sem] theorem callable_83 : callable Tryd.prog 83 = true := by kernel_rfl
@[go_sem] theorem callable_84 : callable Tryd.prog 84 = true := by kernel_rfl
@[go_sem] theorem callable_85 : callable Tryd.prog 85 = true := by kernel_rfl
@[go_sem] theorem callable_86 : callable Tryd.prog 86 = true := by kernel_rfl
@[go_sem] theorem callable_87 : callable Tryd.prog 87 = true := by kernel_rfl
@[go_sem] theorem callable_88 : callable Tryd.prog 88 = true := by kernel_rfl
@[go_sem] theorem callable_89 : callable Tryd.prog 89 = true := by kernel_rfl
@[go_sem] theorem callable_90 : callable Tryd.prog 90 = true := by kernel_rfl
@[go_sem] theorem callable_91 : callable Tryd.prog 91 = true := by kernel_rfl
@[go_sem] theorem callable_92 : callable Tryd.prog 92 = true := by kernel_rfl
@[go_sem] theorem callable_93 : callable Tryd.prog 93 = true := by kernel_rfl
@[go_sem] theorem callable_94 : callable Tryd.prog 94 = true := by kernel_rfl
@[go_sem] theorem callable_95 : callable Tryd.prog 95 = true := by kernel_rfl
@[go_sem] theorem callable_96 : callable Tryd.prog 96 = true := by kernel_rfl
@[go_sem] theorem callable_97 : callable Tryd.prog 97 = true := by kernel_rfl
@[go_sem] theorem callable_98 : callable Tryd.prog 98 = true := by kernel_rfl
@[go_sem] theorem callable_99 : callable Tryd.prog 99 = true := by kernel_rfl
@[go_sem] theorem callable_100 : callable Tryd.prog 100 = true := by kernel_rfl
@[go_sem] theorem callable_101 : callable Tryd.prog 101 = true := by kernel_rfl
@[go_sem] theorem callable_102 : callable Tryd.prog 102 = true := by kernel_rfl
@[go_sem] theorem callable_103 : callable Tryd.prog 103 = true := by kernel_rfl
@[go_sem] theorem callable_104 : callable Tryd.prog 104 = true := by kernel_rfl
@[go_sem] theorem callable_105 : callable Tryd.prog 105 = true := by kernel_rfl
@[go_sem] theorem callable_106 : callable Tryd.prog 106 = true := by kernel_rfl
@[go_sem] theorem callable_107 : callable Tryd.prog 107 = true := by kernel_rfl
@[go_sem] theorem callable_108 : callable Tryd.prog 108 = true := by kernel_rfl
@[go_sem] theorem callable_109 : callable Tryd.prog 109 = true := by kernel_rfl
@[go_sem] theorem callable_110 : callable Tryd.prog 110 = true := by kernel_rfl
@[go_sem] theorem callable_111 : callable Tryd.prog 111 = true := by kernel_rfl
@[go_sem] theorem callable_112 : callable Tryd.prog 112 = true := by kernel_rfl
@[go_sem] theorem callable_113 : callable Tryd.prog 113 = true := by kernel_rfl
@[go_sem] theorem callable_114 : callable Tryd.prog 114 = true := by kernel_rfl
@[go_sem] theorem callable_115 : callable Tryd.prog 115 = true := by kernel_rfl
@[go_sem] theorem callable_116 : callable Tryd.prog 116 = true := by kernel_rfl
@[go_sem] theorem callable_117 : callable Tryd.prog 117 = true := by kernel_rfl
@[go_sem] theorem callable_118 : callable Tryd.prog 118 = true := by kernel_rfl
@[go_sem] theorem callable_119 : callable Tryd.prog 119 = true := by kernel_rfl
@[go_sem] theorem callable_120 : callable Tryd.prog 120 = true := by kernel_rfl
@[go_sem] theorem callable_121 : callable Tryd.prog 121 = true := by kernel_rfl
@[go_sem] theorem callable_122 : callable Tryd.prog 122 = true := by kernel_rfl
@[go_sem] theorem callable_123 : callable Tryd.prog 123 = true := by kernel_rfl
@[go_sem] theorem callable_125 : callable Tryd.prog 125 = true := by kernel_rfl
@[go_sem] theorem callable_126 : callable Tryd.prog 126 = true := by kernel_rfl
@[go_sem] theorem callable_127 : callable Tryd.prog 127 = true := by kernel_rfl
@[go_sem] theorem callable_128 : callable Tryd.prog 128 = true := by kernel_rfl
@[go_sem] theorem callable_129 : callable Tryd.prog 129 = true := by kernel_rfl
@[go_sem] theorem callable_130 : callable Tryd.prog 130 = true := by kernel_rfl
@[go_sem] theorem callable_131 : callable Tryd.prog 131 = true := by kernel_rfl
@[go_sem] theorem callable_132 : callable Tryd.prog 132 = true := by kernel_rfl
@[go_sem] theorem callable_133 : callable Tryd.prog 133 = true := by kernel_rfl
@[go_sem] theorem callable_134 : callable Tryd.prog 134 = true := by kernel_rfl
@[go_sem] theorem callable_135 : callable Tryd.prog 135 = true := by kernel_rfl
@[go_sem] theorem callable_136 : callable Tryd.prog 136 = true := by kernel_rfl
@[go_sem] theorem callable_137 : callable Tryd.prog 137 = true := by kernel_rfl
@[go_sem] theorem callable_138 : callable Tryd.prog 138 = true := by kernel_rfl
@[go_sem] theorem callable_139 : callable Tryd.prog 139 = true := by kernel_rfl
@[go_sem] theorem callable_140 : callable Tryd.prog 140 = true := by kernel_rfl
@[go_sem] theorem callable_141 : callable Tryd.prog 141 = true := by kernel_rfl
@[go_sem] theorem callable_142 : callable Tryd.prog 142 = true := by kernel_rfl
@[go_sem] theorem callable_143 : callable Tryd.prog 143 = true := by kernel_rfl
@[go_sem] theorem callable_144 : callable Tryd.prog 144 = true := by kernel_rfl
@[go_sem] theorem callable_145 : callable Tryd.prog 145 = true := by kernel_rfl
@[go_sem] theorem callable_146 : callable Tryd.prog 146 = true := by kernel_rfl
@[go_sem] theorem callable_148 : callable Tryd.prog 148 = true := by kernel_rfl
@[go_sem] theorem callable_149 : callable Tryd.prog 149 = true := by kernel_rfl
@[go_sem] theorem callable_150 : callable Tryd.prog 150 = true := by kernel_rfl
@[go_sem] theorem callable_151 : callable Tryd.prog 151 = true := by kernel_rfl
@[go_sem] theorem callable_152 : callable Tryd.prog 152 = true := by kernel_rfl
@[go_sem] theorem callable_153 : callable Tryd.prog 153 = true := by kernel_rfl
@[go_sem] theorem callable_154 : callable Tryd.prog 154 = true := by kernel_rfl
@[go_sem] theorem callable_155 : callable Tryd.prog 155 = true := by kernel_rfl
@[go_sem] theorem callable_156 : callable Tryd.prog 156 = true := by kernel_rfl
@[go_sem] theorem callable_157 : callable Tryd.prog 157 = true := by kernel_rfl
@[go_sem] theorem callable_158 : callable Tryd.prog 158 = true := by kernel_rfl
@[go_sem] theorem callable_159 : callable Tryd.prog 159 = true := by kernel_rfl
@[go_sem] theorem callable_160 : callable Tryd.prog 160 = true := by kernel_rfl
@[go_sem] theorem callable_161 : callable Tryd.prog 161 = true := by kernel_rfl
@[go_sem] theorem callable_162 : callable Tryd.prog 162 = true := by kernel_rfl
@[go_sem] theorem callable_163 : callable Tryd.prog 163 = true := by kernel_rfl
@[go_sem] theorem callable_164 : callable Tryd.prog 164 = true := by kernel_rfl
@[go_sem] theorem callable_165 : callable Tryd.prog 165 = true := by kernel_rfl
@[go_sem] theorem callable_166 : callable Tryd.prog 166 = true := by kernel_rfl
@[go_sem] theorem callable_167 : callable Tryd.prog 167 = true := by kernel_rfl
@[go_sem] theorem callable_168 : callable Tryd.prog 168 = true := by kernel_rfl
@[go_sem] theorem callable_169 : callable Tryd.prog 169 = true := by kernel_rfl
@[go_sem] theorem callable_170 : callable Tryd.prog 170 = true := by kernel_rfl
@[go_sem] theorem callable_171 : callable Tryd.prog 171 = true := by kernel_rfl
@[go_sem] theorem callable_173 : callable Tryd.prog 173 = true := by kernel_rfl
@[go_sem] theorem callable_174 : callable Tryd.prog 174 = true := by kernel_rfl
@[go_sem] theorem callable_175 : callable Tryd.prog 175 = true := by kernel_rfl
@[go_sem] theorem callable_176 : callable Tryd.prog 176 = true := by kernel_rfl
@[go_sem] theorem callable_177 : callable Tryd.prog 177 = true := by kernel_rfl
@[go_sem] theorem callable_178 : callable Tryd.prog 178 = true := by kernel_rfl
@[go_sem] theorem callable_179 : callable Tryd.prog 179 = true := by kernel_rfl
@[go_sem] theorem callable_208 : callable Tryd.prog 208 = true := by kernel_rfl
theorem mixed : Tryd.prog.follows .mixedOrders = true := by kernel_rfl
end Go.Proofs.YtcnhpclfflcdfaaDoorR.Ty
