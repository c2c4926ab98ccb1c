import Derived.Test.YtmnjmeebadpgjaaProg
import Derived.Test.YtmnjmeebadpgjaaAvV
import Derived.KernelRfl
/- Facts of the type table, for the evaluator. -/
namespace Go.Proofs.Ytmnjmeebadpgjaa.Ty
open Go Go.Av
@[go_sem] theorem tyI_0 : tyI Try.prog 0 = some { agg := false, size := 1, bytes := 0 } := by kernel_rfl
@[go_sem] theorem kindT_0 : kindT Try.prog 0 = 0 := by kernel_rfl
@[go_sem] theorem hasT_0 : hasT Try.prog 0 = true := by kernel_rfl
@[go_sem] theorem tyI_1 : tyI Try.prog 1 = some { agg := false, size := 1, bytes := 8 } := by kernel_rfl
@[go_sem] theorem kindT_1 : kindT Try.prog 1 = 9 := by kernel_rfl
@[go_sem] theorem hasT_1 : hasT Try.prog 1 = true := by kernel_rfl
@[go_sem] theorem zeroI_1 : zeroI Try.prog 1 = some [Go.Av.AV.lit Go.Value.nilFunc] := by kernel_rfl
@[go_sem] theorem tyI_2 : tyI Try.prog 2 = some { agg := false, size := 1, bytes := 8 } := by kernel_rfl
@[go_sem] theorem kindT_2 : kindT Try.prog 2 = 2 := by kernel_rfl
@[go_sem] theorem intT_2 : intT Try.prog 2 = some Go.IntKind.i64 := by kernel_rfl
@[go_sem] theorem hasT_2 : hasT Try.prog 2 = true := by kernel_rfl
@[go_sem] theorem zeroI_2 : zeroI Try.prog 2 = some [Go.Av.AV.lit (Go.Value.int Go.IntKind.i64 0)] := by kernel_rfl
@[go_sem] theorem tyI_3 : tyI Try.prog 3 = some { agg := false, size := 1, bytes := 8 } := by kernel_rfl
@[go_sem] theorem kindT_3 : kindT Try.prog 3 = 2 := by kernel_rfl
@[go_sem] theorem intT_3 : intT Try.prog 3 = some Go.IntKind.i64 := by kernel_rfl
@[go_sem] theorem hasT_3 : hasT Try.prog 3 = true := by kernel_rfl
@[go_sem] theorem zeroI_3 : zeroI Try.prog 3 = some [Go.Av.AV.lit (Go.Value.int Go.IntKind.i64 0)] := by kernel_rfl
@[go_sem] theorem tyI_4 : tyI Try.prog 4 = some { agg := false, size := 1, bytes := 1 } := by kernel_rfl
@[go_sem] theorem kindT_4 : kindT Try.prog 4 = 1 := by kernel_rfl
@[go_sem] theorem hasT_4 : hasT Try.prog 4 = true := by kernel_rfl
@[go_sem] theorem zeroI_4 : zeroI Try.prog 4 = some [Go.Av.AV.lit (Go.Value.bool false)] := by kernel_rfl
@[go_sem] theorem tyI_5 : tyI Try.prog 5 = some { agg := false, size := 1, bytes := 1 } := by kernel_rfl
@[go_sem] theorem kindT_5 : kindT Try.prog 5 = 2 := by kernel_rfl
@[go_sem] theorem intT_5 : intT Try.prog 5 = some Go.IntKind.u8 := by kernel_rfl
@[go_sem] theorem hasT_5 : hasT Try.prog 5 = true := by kernel_rfl
@[go_sem] theorem zeroI_5 : zeroI Try.prog 5 = some [Go.Av.AV.lit (Go.Value.int Go.IntKind.u8 0)] := by kernel_rfl
@[go_sem] theorem tyI_6 : tyI Try.prog 6 = some { agg := false, size := 1, bytes := 1 } := by kernel_rfl
@[go_sem] theorem kindT_6 : kindT Try.prog 6 = 2 := by kernel_rfl
@[go_sem] theorem intT_6 : intT Try.prog 6 = some Go.IntKind.u8 := by kernel_rfl
@[go_sem] theorem hasT_6 : hasT Try.prog 6 = true := by kernel_rfl
@[go_sem] theorem zeroI_6 : zeroI Try.prog 6 = some [Go.Av.AV.lit (Go.Value.int Go.IntKind.u8 0)] := by kernel_rfl
@[go_sem] theorem tyI_7 : tyI Try.prog 7 = some { agg := true, size := 4, bytes := 24 } := by kernel_rfl
@[go_sem] theorem kindT_7 : kindT Try.prog 7 = 6 := by kernel_rfl
@[go_sem] theorem hasT_7 : hasT Try.prog 7 = true := by kernel_rfl
@[go_sem] theorem zeroI_7 : zeroI Try.prog 7 = some [Go.Av.AV.lit (Go.Value.int Go.IntKind.i64 0), Go.Av.AV.lit (Go.Value.int Go.IntKind.i64 0), Go.Av.AV.lit (Go.Value.bool false), Go.Av.AV.lit (Go.Value.int Go.IntKind.u8 0)] := by kernel_rfl
@[go_sem] theorem bldT_7 : bldT Try.prog 7 = true := by kernel_rfl
@[go_sem] theorem eqT_7 : eqT Try.prog 7 = some [(0, 2), (1, 2), (2, 1), (3, 2)] := by kernel_rfl
@[go_sem] theorem fld_7_0 : fldI Try.prog 7 0 = some (0, 1, false) := by kernel_rfl
@[go_sem] theorem fld_7_1 : fldI Try.prog 7 1 = some (1, 1, false) := by kernel_rfl
@[go_sem] theorem fld_7_2 : fldI Try.prog 7 2 = some (2, 1, false) := by kernel_rfl
@[go_sem] theorem fld_7_3 : fldI Try.prog 7 3 = some (3, 1, false) := by kernel_rfl
@[go_sem] theorem tyI_8 : tyI Try.prog 8 = some { agg := true, size := 4, bytes := 24 } := by kernel_rfl
@[go_sem] theorem kindT_8 : kindT Try.prog 8 = 6 := by kernel_rfl
@[go_sem] theorem hasT_8 : hasT Try.prog 8 = true := by kernel_rfl
@[go_sem] theorem zeroI_8 : zeroI Try.prog 8 = some [Go.Av.AV.lit (Go.Value.int Go.IntKind.i64 0), Go.Av.AV.lit (Go.Value.int Go.IntKind.i64 0), Go.Av.AV.lit (Go.Value.bool false), Go.Av.AV.lit (Go.Value.int Go.IntKind.u8 0)] := by kernel_rfl
@[go_sem] theorem bldT_8 : bldT Try.prog 8 = true := by kernel_rfl
@[go_sem] theorem eqT_8 : eqT Try.prog 8 = some [(0, 2), (1, 2), (2, 1), (3, 2)] := by kernel_rfl
@[go_sem] theorem fld_8_0 : fldI Try.prog 8 0 = some (0, 1, false) := by kernel_rfl
@[go_sem] theorem fld_8_1 : fldI Try.prog 8 1 = some (1, 1, false) := by kernel_rfl
@[go_sem] theorem fld_8_2 : fldI Try.prog 8 2 = some (2, 1, false) := by kernel_rfl
@[go_sem] theorem fld_8_3 : fldI Try.prog 8 3 = some (3, 1, false) := by kernel_rfl
@[go_sem] theorem tyI_9 : tyI Try.prog 9 = some { agg := false, size := 1, bytes := 16 } := by kernel_rfl
@[go_sem] theorem kindT_9 : kindT Try.prog 9 = 3 := by kernel_rfl
@[go_sem] theorem hasT_9 : hasT Try.prog 9 = true := by kernel_rfl
@[go_sem] theorem zeroI_9 : zeroI Try.prog 9 = some [Go.Av.AV.lit (Go.Value.string ⟨#[]⟩)] := by kernel_rfl
@[go_sem] theorem tyI_10 : tyI Try.prog 10 = some { agg := false, size := 1, bytes := 16 } := by kernel_rfl
@[go_sem] theorem kindT_10 : kindT Try.prog 10 = 3 := by kernel_rfl
@[go_sem] theorem hasT_10 : hasT Try.prog 10 = true := by kernel_rfl
@[go_sem] theorem zeroI_10 : zeroI Try.prog 10 = some [Go.Av.AV.lit (Go.Value.string ⟨#[]⟩)] := by kernel_rfl
@[go_sem] theorem tyI_11 : tyI Try.prog 11 = some { agg := false, size := 1, bytes := 16 } := by kernel_rfl
@[go_sem] theorem kindT_11 : kindT Try.prog 11 = 3 := by kernel_rfl
@[go_sem] theorem hasT_11 : hasT Try.prog 11 = true := by kernel_rfl
@[go_sem] theorem zeroI_11 : zeroI Try.prog 11 = some [Go.Av.AV.lit (Go.Value.string ⟨#[]⟩)] := by kernel_rfl
@[go_sem] theorem tyI_12 : tyI Try.prog 12 = some { agg := false, size := 1, bytes := 8 } := by kernel_rfl
@[go_sem] theorem kindT_12 : kindT Try.prog 12 = 2 := by kernel_rfl
@[go_sem] theorem intT_12 : intT Try.prog 12 = some Go.IntKind.u64 := by kernel_rfl
@[go_sem] theorem hasT_12 : hasT Try.prog 12 = true := by kernel_rfl
@[go_sem] theorem zeroI_12 : zeroI Try.prog 12 = some [Go.Av.AV.lit (Go.Value.int Go.IntKind.u64 0)] := by kernel_rfl
@[go_sem] theorem tyI_13 : tyI Try.prog 13 = some { agg := true, size := 2, bytes := 24 } := by kernel_rfl
@[go_sem] theorem kindT_13 : kindT Try.prog 13 = 6 := by kernel_rfl
@[go_sem] theorem hasT_13 : hasT Try.prog 13 = true := by kernel_rfl
@[go_sem] theorem zeroI_13 : zeroI Try.prog 13 = some [Go.Av.AV.lit (Go.Value.string ⟨#[]⟩), Go.Av.AV.lit (Go.Value.int Go.IntKind.u64 0)] := by kernel_rfl
@[go_sem] theorem bldT_13 : bldT Try.prog 13 = true := by kernel_rfl
@[go_sem] theorem fld_13_0 : fldI Try.prog 13 0 = some (0, 1, false) := by kernel_rfl
@[go_sem] theorem fld_13_1 : fldI Try.prog 13 1 = some (1, 1, false) := by kernel_rfl
@[go_sem] theorem tyI_14 : tyI Try.prog 14 = some { agg := true, size := 2, bytes := 24 } := by kernel_rfl
@[go_sem] theorem kindT_14 : kindT Try.prog 14 = 6 := by kernel_rfl
@[go_sem] theorem hasT_14 : hasT Try.prog 14 = true := by kernel_rfl
@[go_sem] theorem zeroI_14 : zeroI Try.prog 14 = some [Go.Av.AV.lit (Go.Value.string ⟨#[]⟩), Go.Av.AV.lit (Go.Value.int Go.IntKind.u64 0)] := by kernel_rfl
@[go_sem] theorem bldT_14 : bldT Try.prog 14 = true := by kernel_rfl
@[go_sem] theorem fld_14_0 : fldI Try.prog 14 0 = some (0, 1, false) := by kernel_rfl
@[go_sem] theorem fld_14_1 : fldI Try.prog 14 1 = some (1, 1, false) := by kernel_rfl
@[go_sem] theorem tyI_15 : tyI Try.prog 15 = some { agg := false, size := 1, bytes := 8 } := by kernel_rfl
@[go_sem] theorem kindT_15 : kindT Try.prog 15 = 4 := by kernel_rfl
@[go_sem] theorem hasT_15 : hasT Try.prog 15 = true := by kernel_rfl
@[go_sem] theorem zeroI_15 : zeroI Try.prog 15 = some [Go.Av.AV.lit (Go.Value.pointer none)] := by kernel_rfl
@[go_sem] theorem tyI_16 : tyI Try.prog 16 = some { agg := false, size := 1, bytes := 8 } := by kernel_rfl
@[go_sem] theorem kindT_16 : kindT Try.prog 16 = 4 := by kernel_rfl
@[go_sem] theorem hasT_16 : hasT Try.prog 16 = true := by kernel_rfl
@[go_sem] theorem zeroI_16 : zeroI Try.prog 16 = some [Go.Av.AV.lit (Go.Value.pointer none)] := by kernel_rfl
@[go_sem] theorem tyI_17 : tyI Try.prog 17 = some { agg := false, size := 1, bytes := 8 } := by kernel_rfl
@[go_sem] theorem kindT_17 : kindT Try.prog 17 = 4 := by kernel_rfl
@[go_sem] theorem hasT_17 : hasT Try.prog 17 = true := by kernel_rfl
@[go_sem] theorem zeroI_17 : zeroI Try.prog 17 = some [Go.Av.AV.lit (Go.Value.pointer none)] := by kernel_rfl
@[go_sem] theorem tyI_18 : tyI Try.prog 18 = some { agg := true, size := 1, bytes := 8 } := by kernel_rfl
@[go_sem] theorem kindT_18 : kindT Try.prog 18 = 6 := by kernel_rfl
@[go_sem] theorem hasT_18 : hasT Try.prog 18 = true := by kernel_rfl
@[go_sem] theorem zeroI_18 : zeroI Try.prog 18 = some [Go.Av.AV.lit (Go.Value.pointer none)] := by kernel_rfl
@[go_sem] theorem bldT_18 : bldT Try.prog 18 = true := by kernel_rfl
@[go_sem] theorem fld_18_0 : fldI Try.prog 18 0 = some (0, 1, false) := by kernel_rfl
@[go_sem] theorem tyI_19 : tyI Try.prog 19 = some { agg := true, size := 1, bytes := 8 } := by kernel_rfl
@[go_sem] theorem kindT_19 : kindT Try.prog 19 = 6 := by kernel_rfl
@[go_sem] theorem hasT_19 : hasT Try.prog 19 = true := by kernel_rfl
@[go_sem] theorem zeroI_19 : zeroI Try.prog 19 = some [Go.Av.AV.lit (Go.Value.pointer none)] := by kernel_rfl
@[go_sem] theorem bldT_19 : bldT Try.prog 19 = true := by kernel_rfl
@[go_sem] theorem fld_19_0 : fldI Try.prog 19 0 = some (0, 1, false) := by kernel_rfl
@[go_sem] theorem tyI_20 : tyI Try.prog 20 = some { agg := false, size := 1, bytes := 16 } := by kernel_rfl
@[go_sem] theorem kindT_20 : kindT Try.prog 20 = 0 := by kernel_rfl
@[go_sem] theorem hasT_20 : hasT Try.prog 20 = true := by kernel_rfl
@[go_sem] theorem zeroI_20 : zeroI Try.prog 20 = some [Go.Av.AV.lit Go.Value.nilIface] := by kernel_rfl
@[go_sem] theorem tyI_21 : tyI Try.prog 21 = some { agg := false, size := 1, bytes := 4 } := by kernel_rfl
@[go_sem] theorem kindT_21 : kindT Try.prog 21 = 2 := by kernel_rfl
@[go_sem] theorem intT_21 : intT Try.prog 21 = some Go.IntKind.i32 := by kernel_rfl
@[go_sem] theorem hasT_21 : hasT Try.prog 21 = true := by kernel_rfl
@[go_sem] theorem zeroI_21 : zeroI Try.prog 21 = some [Go.Av.AV.lit (Go.Value.int Go.IntKind.i32 0)] := by kernel_rfl
@[go_sem] theorem tyI_22 : tyI Try.prog 22 = some { agg := false, size := 1, bytes := 8 } := by kernel_rfl
@[go_sem] theorem kindT_22 : kindT Try.prog 22 = 2 := by kernel_rfl
@[go_sem] theorem intT_22 : intT Try.prog 22 = some Go.IntKind.u64 := by kernel_rfl
@[go_sem] theorem hasT_22 : hasT Try.prog 22 = true := by kernel_rfl
@[go_sem] theorem zeroI_22 : zeroI Try.prog 22 = some [Go.Av.AV.lit (Go.Value.int Go.IntKind.u64 0)] := by kernel_rfl
@[go_sem] theorem tyI_23 : tyI Try.prog 23 = some { agg := false, size := 1, bytes := 8 } := by kernel_rfl
@[go_sem] theorem kindT_23 : kindT Try.prog 23 = 9 := by kernel_rfl
@[go_sem] theorem hasT_23 : hasT Try.prog 23 = true := by kernel_rfl
@[go_sem] theorem zeroI_23 : zeroI Try.prog 23 = some [Go.Av.AV.lit Go.Value.nilFunc] := by kernel_rfl
@[go_sem] theorem tyI_24 : tyI Try.prog 24 = some { agg := false, size := 1, bytes := 8 } := by kernel_rfl
@[go_sem] theorem kindT_24 : kindT Try.prog 24 = 9 := by kernel_rfl
@[go_sem] theorem hasT_24 : hasT Try.prog 24 = true := by kernel_rfl
@[go_sem] theorem zeroI_24 : zeroI Try.prog 24 = some [Go.Av.AV.lit Go.Value.nilFunc] := by kernel_rfl
@[go_sem] theorem tyI_25 : tyI Try.prog 25 = some { agg := false, size := 1, bytes := 8 } := by kernel_rfl
@[go_sem] theorem kindT_25 : kindT Try.prog 25 = 9 := by kernel_rfl
@[go_sem] theorem hasT_25 : hasT Try.prog 25 = true := by kernel_rfl
@[go_sem] theorem zeroI_25 : zeroI Try.prog 25 = some [Go.Av.AV.lit Go.Value.nilFunc] := by kernel_rfl
@[go_sem] theorem tyI_26 : tyI Try.prog 26 = some { agg := false, size := 1, bytes := 8 } := by kernel_rfl
@[go_sem] theorem kindT_26 : kindT Try.prog 26 = 9 := by kernel_rfl
@[go_sem] theorem hasT_26 : hasT Try.prog 26 = true := by kernel_rfl
@[go_sem] theorem zeroI_26 : zeroI Try.prog 26 = some [Go.Av.AV.lit Go.Value.nilFunc] := by kernel_rfl
@[go_sem] theorem tyI_27 : tyI Try.prog 27 = some { agg := false, size := 1, bytes := 8 } := by kernel_rfl
@[go_sem] theorem kindT_27 : kindT Try.prog 27 = 9 := by kernel_rfl
@[go_sem] theorem hasT_27 : hasT Try.prog 27 = true := by kernel_rfl
@[go_sem] theorem zeroI_27 : zeroI Try.prog 27 = some [Go.Av.AV.lit Go.Value.nilFunc] := by kernel_rfl
@[go_sem] theorem tyI_28 : tyI Try.prog 28 = some { agg := false, size := 1, bytes := 8 } := by kernel_rfl
@[go_sem] theorem kindT_28 : kindT Try.prog 28 = 9 := by kernel_rfl
@[go_sem] theorem hasT_28 : hasT Try.prog 28 = true := by kernel_rfl
@[go_sem] theorem zeroI_28 : zeroI Try.prog 28 = some [Go.Av.AV.lit Go.Value.nilFunc] := by kernel_rfl
@[go_sem] theorem tyI_29 : tyI Try.prog 29 = some { agg := false, size := 1, bytes := 8 } := by kernel_rfl
@[go_sem] theorem kindT_29 : kindT Try.prog 29 = 9 := by kernel_rfl
@[go_sem] theorem hasT_29 : hasT Try.prog 29 = true := by kernel_rfl
@[go_sem] theorem zeroI_29 : zeroI Try.prog 29 = some [Go.Av.AV.lit Go.Value.nilFunc] := by kernel_rfl
@[go_sem] theorem tyI_30 : tyI Try.prog 30 = some { agg := false, size := 1, bytes := 4 } := by kernel_rfl
@[go_sem] theorem kindT_30 : kindT Try.prog 30 = 2 := by kernel_rfl
@[go_sem] theorem intT_30 : intT Try.prog 30 = some Go.IntKind.u32 := by kernel_rfl
@[go_sem] theorem hasT_30 : hasT Try.prog 30 = true := by kernel_rfl
@[go_sem] theorem zeroI_30 : zeroI Try.prog 30 = some [Go.Av.AV.lit (Go.Value.int Go.IntKind.u32 0)] := by kernel_rfl
@[go_sem] theorem tyI_31 : tyI Try.prog 31 = some { agg := false, size := 1, bytes := 0 } := by kernel_rfl
@[go_sem] theorem kindT_31 : kindT Try.prog 31 = 0 := by kernel_rfl
@[go_sem] theorem hasT_31 : hasT Try.prog 31 = true := by kernel_rfl
@[go_sem] theorem tyI_32 : tyI Try.prog 32 = some { agg := false, size := 1, bytes := 8 } := by kernel_rfl
@[go_sem] theorem kindT_32 : kindT Try.prog 32 = 9 := by kernel_rfl
@[go_sem] theorem hasT_32 : hasT Try.prog 32 = true := by kernel_rfl
@[go_sem] theorem zeroI_32 : zeroI Try.prog 32 = some [Go.Av.AV.lit Go.Value.nilFunc] := by kernel_rfl
@[go_sem] theorem tyI_33 : tyI Try.prog 33 = some { agg := false, size := 1, bytes := 8 } := by kernel_rfl
@[go_sem] theorem kindT_33 : kindT Try.prog 33 = 9 := by kernel_rfl
@[go_sem] theorem hasT_33 : hasT Try.prog 33 = true := by kernel_rfl
@[go_sem] theorem zeroI_33 : zeroI Try.prog 33 = some [Go.Av.AV.lit Go.Value.nilFunc] := by kernel_rfl
@[go_sem] theorem tyI_34 : tyI Try.prog 34 = some { agg := false, size := 1, bytes := 8 } := by kernel_rfl
@[go_sem] theorem kindT_34 : kindT Try.prog 34 = 9 := by kernel_rfl
@[go_sem] theorem hasT_34 : hasT Try.prog 34 = true := by kernel_rfl
@[go_sem] theorem zeroI_34 : zeroI Try.prog 34 = some [Go.Av.AV.lit Go.Value.nilFunc] := by kernel_rfl
@[go_sem] theorem tyI_35 : tyI Try.prog 35 = some { agg := false, size := 1, bytes := 8 } := by kernel_rfl
@[go_sem] theorem kindT_35 : kindT Try.prog 35 = 9 := by kernel_rfl
@[go_sem] theorem hasT_35 : hasT Try.prog 35 = true := by kernel_rfl
@[go_sem] theorem zeroI_35 : zeroI Try.prog 35 = some [Go.Av.AV.lit Go.Value.nilFunc] := by kernel_rfl
@[go_sem] theorem tyI_36 : tyI Try.prog 36 = some { agg := false, size := 1, bytes := 8 } := by kernel_rfl
@[go_sem] theorem kindT_36 : kindT Try.prog 36 = 9 := by kernel_rfl
@[go_sem] theorem hasT_36 : hasT Try.prog 36 = true := by kernel_rfl
@[go_sem] theorem zeroI_36 : zeroI Try.prog 36 = some [Go.Av.AV.lit Go.Value.nilFunc] := by kernel_rfl
@[go_sem] theorem tyI_37 : tyI Try.prog 37 = some { agg := false, size := 1, bytes := 8 } := by kernel_rfl
@[go_sem] theorem kindT_37 : kindT Try.prog 37 = 9 := by kernel_rfl
@[go_sem] theorem hasT_37 : hasT Try.prog 37 = true := by kernel_rfl
@[go_sem] theorem zeroI_37 : zeroI Try.prog 37 = some [Go.Av.AV.lit Go.Value.nilFunc] := by kernel_rfl
@[go_sem] theorem tyI_38 : tyI Try.prog 38 = some { agg := false, size := 1, bytes := 8 } := by kernel_rfl
@[go_sem] theorem kindT_38 : kindT Try.prog 38 = 9 := by kernel_rfl
@[go_sem] theorem hasT_38 : hasT Try.prog 38 = true := by kernel_rfl
@[go_sem] theorem zeroI_38 : zeroI Try.prog 38 = some [Go.Av.AV.lit Go.Value.nilFunc] := by kernel_rfl
@[go_sem] theorem tyI_39 : tyI Try.prog 39 = some { agg := false, size := 1, bytes := 8 } := by kernel_rfl
@[go_sem] theorem kindT_39 : kindT Try.prog 39 = 9 := by kernel_rfl
@[go_sem] theorem hasT_39 : hasT Try.prog 39 = true := by kernel_rfl
@[go_sem] theorem zeroI_39 : zeroI Try.prog 39 = some [Go.Av.AV.lit Go.Value.nilFunc] := by kernel_rfl
@[go_sem] theorem tyI_40 : tyI Try.prog 40 = some { agg := false, size := 1, bytes := 8 } := by kernel_rfl
@[go_sem] theorem kindT_40 : kindT Try.prog 40 = 9 := by kernel_rfl
@[go_sem] theorem hasT_40 : hasT Try.prog 40 = true := by kernel_rfl
@[go_sem] theorem zeroI_40 : zeroI Try.prog 40 = some [Go.Av.AV.lit Go.Value.nilFunc] := by kernel_rfl
@[go_sem] theorem tyI_41 : tyI Try.prog 41 = some { agg := false, size := 1, bytes := 0 } := by kernel_rfl
@[go_sem] theorem kindT_41 : kindT Try.prog 41 = 0 := by kernel_rfl
@[go_sem] theorem hasT_41 : hasT Try.prog 41 = true := by kernel_rfl
@[go_sem] theorem tyI_42 : tyI Try.prog 42 = some { agg := false, size := 1, bytes := 8 } := by kernel_rfl
@[go_sem] theorem kindT_42 : kindT Try.prog 42 = 9 := by kernel_rfl
@[go_sem] theorem hasT_42 : hasT Try.prog 42 = true := by kernel_rfl
@[go_sem] theorem zeroI_42 : zeroI Try.prog 42 = some [Go.Av.AV.lit Go.Value.nilFunc] := by kernel_rfl
@[go_sem] theorem tyI_43 : tyI Try.prog 43 = some { agg := false, size := 1, bytes := 8 } := by kernel_rfl
@[go_sem] theorem kindT_43 : kindT Try.prog 43 = 9 := by kernel_rfl
@[go_sem] theorem hasT_43 : hasT Try.prog 43 = true := by kernel_rfl
@[go_sem] theorem zeroI_43 : zeroI Try.prog 43 = some [Go.Av.AV.lit Go.Value.nilFunc] := by kernel_rfl
@[go_sem] theorem tyI_44 : tyI Try.prog 44 = some { agg := true, size := 3, bytes := 32 } := by kernel_rfl
@[go_sem] theorem kindT_44 : kindT Try.prog 44 = 6 := by kernel_rfl
@[go_sem] theorem hasT_44 : hasT Try.prog 44 = true := by kernel_rfl
@[go_sem] theorem zeroI_44 : zeroI Try.prog 44 = some [Go.Av.AV.lit (Go.Value.int Go.IntKind.i64 0), Go.Av.AV.lit (Go.Value.int Go.IntKind.i64 0), Go.Av.AV.lit (Go.Value.string ⟨#[]⟩)] := by kernel_rfl
@[go_sem] theorem bldT_44 : bldT Try.prog 44 = true := by kernel_rfl
@[go_sem] theorem eqT_44 : eqT Try.prog 44 = some [(0, 2), (1, 2), (2, 3)] := by kernel_rfl
@[go_sem] theorem fld_44_0 : fldI Try.prog 44 0 = some (0, 1, false) := by kernel_rfl
@[go_sem] theorem fld_44_1 : fldI Try.prog 44 1 = some (1, 1, false) := by kernel_rfl
@[go_sem] theorem fld_44_2 : fldI Try.prog 44 2 = some (2, 1, false) := by kernel_rfl
@[go_sem] theorem tyI_45 : tyI Try.prog 45 = some { agg := true, size := 3, bytes := 32 } := by kernel_rfl
@[go_sem] theorem kindT_45 : kindT Try.prog 45 = 6 := by kernel_rfl
@[go_sem] theorem hasT_45 : hasT Try.prog 45 = true := by kernel_rfl
@[go_sem] theorem zeroI_45 : zeroI Try.prog 45 = some [Go.Av.AV.lit (Go.Value.int Go.IntKind.i64 0), Go.Av.AV.lit (Go.Value.int Go.IntKind.i64 0), Go.Av.AV.lit (Go.Value.string ⟨#[]⟩)] := by kernel_rfl
@[go_sem] theorem bldT_45 : bldT Try.prog 45 = true := by kernel_rfl
@[go_sem] theorem eqT_45 : eqT Try.prog 45 = some [(0, 2), (1, 2), (2, 3)] := by kernel_rfl
@[go_sem] theorem fld_45_0 : fldI Try.prog 45 0 = some (0, 1, false) := by kernel_rfl
@[go_sem] theorem fld_45_1 : fldI Try.prog 45 1 = some (1, 1, false) := by kernel_rfl
@[go_sem] theorem fld_45_2 : fldI Try.prog 45 2 = some (2, 1, false) := by kernel_rfl
@[go_sem] theorem tyI_46 : tyI Try.prog 46 = some { agg := false, size := 1, bytes := 8 } := by kernel_rfl
@[go_sem] theorem kindT_46 : kindT Try.prog 46 = 2 := by kernel_rfl
@[go_sem] theorem intT_46 : intT Try.prog 46 = some Go.IntKind.i64 := by kernel_rfl
@[go_sem] theorem hasT_46 : hasT Try.prog 46 = true := by kernel_rfl
@[go_sem] theorem zeroI_46 : zeroI Try.prog 46 = some [Go.Av.AV.lit (Go.Value.int Go.IntKind.i64 0)] := by kernel_rfl
@[go_sem] theorem tyI_47 : tyI Try.prog 47 = some { agg := false, size := 1, bytes := 0 } := by kernel_rfl
@[go_sem] theorem kindT_47 : kindT Try.prog 47 = 0 := by kernel_rfl
@[go_sem] theorem hasT_47 : hasT Try.prog 47 = true := by kernel_rfl
@[go_sem] theorem tyI_48 : tyI Try.prog 48 = some { agg := false, size := 1, bytes := 8 } := by kernel_rfl
@[go_sem] theorem kindT_48 : kindT Try.prog 48 = 9 := by kernel_rfl
@[go_sem] theorem hasT_48 : hasT Try.prog 48 = true := by kernel_rfl
@[go_sem] theorem zeroI_48 : zeroI Try.prog 48 = some [Go.Av.AV.lit Go.Value.nilFunc] := by kernel_rfl
@[go_sem] theorem tyI_49 : tyI Try.prog 49 = some { agg := false, size := 1, bytes := 8 } := by kernel_rfl
@[go_sem] theorem kindT_49 : kindT Try.prog 49 = 9 := by kernel_rfl
@[go_sem] theorem hasT_49 : hasT Try.prog 49 = true := by kernel_rfl
@[go_sem] theorem zeroI_49 : zeroI Try.prog 49 = some [Go.Av.AV.lit Go.Value.nilFunc] := by kernel_rfl
@[go_sem] theorem tyI_50 : tyI Try.prog 50 = some { agg := false, size := 1, bytes := 24 } := by kernel_rfl
@[go_sem] theorem slT_50 : slT Try.prog 50 = some 3 := by kernel_rfl
@[go_sem] theorem kindT_50 : kindT Try.prog 50 = 5 := by kernel_rfl
@[go_sem] theorem hasT_50 : hasT Try.prog 50 = true := by kernel_rfl
@[go_sem] theorem zeroI_50 : zeroI Try.prog 50 = some [Go.Av.AV.isl (some true) [] Go.Av.Tk.full] := by kernel_rfl
@[go_sem] theorem tyI_51 : tyI Try.prog 51 = some { agg := false, size := 1, bytes := 8 } := by kernel_rfl
@[go_sem] theorem kindT_51 : kindT Try.prog 51 = 4 := by kernel_rfl
@[go_sem] theorem hasT_51 : hasT Try.prog 51 = true := by kernel_rfl
@[go_sem] theorem zeroI_51 : zeroI Try.prog 51 = some [Go.Av.AV.lit (Go.Value.pointer none)] := by kernel_rfl
@[go_sem] theorem tyI_52 : tyI Try.prog 52 = some { agg := false, size := 1, bytes := 8 } := by kernel_rfl
@[go_sem] theorem kindT_52 : kindT Try.prog 52 = 9 := by kernel_rfl
@[go_sem] theorem hasT_52 : hasT Try.prog 52 = true := by kernel_rfl
@[go_sem] theorem zeroI_52 : zeroI Try.prog 52 = some [Go.Av.AV.lit Go.Value.nilFunc] := by kernel_rfl
@[go_sem] theorem tyI_53 : tyI Try.prog 53 = some { agg := false, size := 1, bytes := 8 } := by kernel_rfl
@[go_sem] theorem kindT_53 : kindT Try.prog 53 = 9 := by kernel_rfl
@[go_sem] theorem hasT_53 : hasT Try.prog 53 = true := by kernel_rfl
@[go_sem] theorem zeroI_53 : zeroI Try.prog 53 = some [Go.Av.AV.lit Go.Value.nilFunc] := by kernel_rfl
@[go_sem] theorem tyI_54 : tyI Try.prog 54 = some { agg := false, size := 1, bytes := 8 } := by kernel_rfl
@[go_sem] theorem kindT_54 : kindT Try.prog 54 = 9 := by kernel_rfl
@[go_sem] theorem hasT_54 : hasT Try.prog 54 = true := by kernel_rfl
@[go_sem] theorem zeroI_54 : zeroI Try.prog 54 = some [Go.Av.AV.lit Go.Value.nilFunc] := by kernel_rfl
@[go_sem] theorem tyI_55 : tyI Try.prog 55 = some { agg := false, size := 1, bytes := 8 } := by kernel_rfl
@[go_sem] theorem kindT_55 : kindT Try.prog 55 = 9 := by kernel_rfl
@[go_sem] theorem hasT_55 : hasT Try.prog 55 = true := by kernel_rfl
@[go_sem] theorem zeroI_55 : zeroI Try.prog 55 = some [Go.Av.AV.lit Go.Value.nilFunc] := by kernel_rfl
@[go_sem] theorem tyI_56 : tyI Try.prog 56 = some { agg := false, size := 1, bytes := 8 } := by kernel_rfl
@[go_sem] theorem kindT_56 : kindT Try.prog 56 = 9 := by kernel_rfl
@[go_sem] theorem hasT_56 : hasT Try.prog 56 = true := by kernel_rfl
@[go_sem] theorem zeroI_56 : zeroI Try.prog 56 = some [Go.Av.AV.lit Go.Value.nilFunc] := by kernel_rfl
@[go_sem] theorem tyI_57 : tyI Try.prog 57 = some { agg := false, size := 1, bytes := 24 } := by kernel_rfl
@[go_sem] theorem slT_57 : slT Try.prog 57 = some 22 := by kernel_rfl
@[go_sem] theorem kindT_57 : kindT Try.prog 57 = 5 := by kernel_rfl
@[go_sem] theorem hasT_57 : hasT Try.prog 57 = true := by kernel_rfl
@[go_sem] theorem zeroI_57 : zeroI Try.prog 57 = some [Go.Av.AV.isl (some true) [] Go.Av.Tk.full] := by kernel_rfl
@[go_sem] theorem tyI_58 : tyI Try.prog 58 = some { agg := false, size := 1, bytes := 8 } := by kernel_rfl
@[go_sem] theorem kindT_58 : kindT Try.prog 58 = 9 := by kernel_rfl
@[go_sem] theorem hasT_58 : hasT Try.prog 58 = true := by kernel_rfl
@[go_sem] theorem zeroI_58 : zeroI Try.prog 58 = some [Go.Av.AV.lit Go.Value.nilFunc] := by kernel_rfl
@[go_sem] theorem tyI_59 : tyI Try.prog 59 = some { agg := false, size := 1, bytes := 8 } := by kernel_rfl
@[go_sem] theorem kindT_59 : kindT Try.prog 59 = 9 := by kernel_rfl
@[go_sem] theorem hasT_59 : hasT Try.prog 59 = true := by kernel_rfl
@[go_sem] theorem zeroI_59 : zeroI Try.prog 59 = some [Go.Av.AV.lit Go.Value.nilFunc] := by kernel_rfl
@[go_sem] theorem tyI_60 : tyI Try.prog 60 = some { agg := false, size := 1, bytes := 8 } := by kernel_rfl
@[go_sem] theorem kindT_60 : kindT Try.prog 60 = 9 := by kernel_rfl
@[go_sem] theorem hasT_60 : hasT Try.prog 60 = true := by kernel_rfl
@[go_sem] theorem zeroI_60 : zeroI Try.prog 60 = some [Go.Av.AV.lit Go.Value.nilFunc] := by kernel_rfl
@[go_sem] theorem tyI_61 : tyI Try.prog 61 = some { agg := false, size := 1, bytes := 8 } := by kernel_rfl
@[go_sem] theorem kindT_61 : kindT Try.prog 61 = 9 := by kernel_rfl
@[go_sem] theorem hasT_61 : hasT Try.prog 61 = true := by kernel_rfl
@[go_sem] theorem zeroI_61 : zeroI Try.prog 61 = some [Go.Av.AV.lit Go.Value.nilFunc] := by kernel_rfl
@[go_sem] theorem tyI_62 : tyI Try.prog 62 = some { agg := false, size := 1, bytes := 24 } := by kernel_rfl
@[go_sem] theorem slT_62 : slT Try.prog 62 = some 45 := by kernel_rfl
@[go_sem] theorem kindT_62 : kindT Try.prog 62 = 5 := by kernel_rfl
@[go_sem] theorem hasT_62 : hasT Try.prog 62 = true := by kernel_rfl
@[go_sem] theorem zeroI_62 : zeroI Try.prog 62 = some [Go.Av.AV.isl (some true) [] Go.Av.Tk.full] := by kernel_rfl
@[go_sem] theorem tyI_63 : tyI Try.prog 63 = some { agg := false, size := 1, bytes := 8 } := by kernel_rfl
@[go_sem] theorem kindT_63 : kindT Try.prog 63 = 9 := by kernel_rfl
@[go_sem] theorem hasT_63 : hasT Try.prog 63 = true := by kernel_rfl
@[go_sem] theorem zeroI_63 : zeroI Try.prog 63 = some [Go.Av.AV.lit Go.Value.nilFunc] := by kernel_rfl
@[go_sem] theorem tyI_64 : tyI Try.prog 64 = some { agg := false, size := 1, bytes := 0 } := by kernel_rfl
@[go_sem] theorem kindT_64 : kindT Try.prog 64 = 0 := by kernel_rfl
@[go_sem] theorem hasT_64 : hasT Try.prog 64 = true := by kernel_rfl
@[go_sem] theorem tyI_65 : tyI Try.prog 65 = some { agg := false, size := 1, bytes := 8 } := by kernel_rfl
@[go_sem] theorem kindT_65 : kindT Try.prog 65 = 9 := by kernel_rfl
@[go_sem] theorem hasT_65 : hasT Try.prog 65 = true := by kernel_rfl
@[go_sem] theorem zeroI_65 : zeroI Try.prog 65 = some [Go.Av.AV.lit Go.Value.nilFunc] := by kernel_rfl
@[go_sem] theorem tyI_66 : tyI Try.prog 66 = some { agg := false, size := 1, bytes := 8 } := by kernel_rfl
@[go_sem] theorem kindT_66 : kindT Try.prog 66 = 9 := by kernel_rfl
@[go_sem] theorem hasT_66 : hasT Try.prog 66 = true := by kernel_rfl
@[go_sem] theorem zeroI_66 : zeroI Try.prog 66 = some [Go.Av.AV.lit Go.Value.nilFunc] := by kernel_rfl
@[go_sem] theorem tyI_67 : tyI Try.prog 67 = some { agg := false, size := 1, bytes := 8 } := by kernel_rfl
@[go_sem] theorem kindT_67 : kindT Try.prog 67 = 9 := by kernel_rfl
@[go_sem] theorem hasT_67 : hasT Try.prog 67 = true := by kernel_rfl
@[go_sem] theorem zeroI_67 : zeroI Try.prog 67 = some [Go.Av.AV.lit Go.Value.nilFunc] := by kernel_rfl
@[go_sem] theorem tyI_68 : tyI Try.prog 68 = some { agg := false, size := 1, bytes := 8 } := by kernel_rfl
@[go_sem] theorem kindT_68 : kindT Try.prog 68 = 9 := by kernel_rfl
@[go_sem] theorem hasT_68 : hasT Try.prog 68 = true := by kernel_rfl
@[go_sem] theorem zeroI_68 : zeroI Try.prog 68 = some [Go.Av.AV.lit Go.Value.nilFunc] := by kernel_rfl
@[go_sem] theorem tyI_69 : tyI Try.prog 69 = some { agg := false, size := 1, bytes := 8 } := by kernel_rfl
@[go_sem] theorem kindT_69 : kindT Try.prog 69 = 9 := by kernel_rfl
@[go_sem] theorem hasT_69 : hasT Try.prog 69 = true := by kernel_rfl
@[go_sem] theorem zeroI_69 : zeroI Try.prog 69 = some [Go.Av.AV.lit Go.Value.nilFunc] := by kernel_rfl
@[go_sem] theorem tyI_70 : tyI Try.prog 70 = some { agg := false, size := 1, bytes := 8 } := by kernel_rfl
@[go_sem] theorem kindT_70 : kindT Try.prog 70 = 9 := by kernel_rfl
@[go_sem] theorem hasT_70 : hasT Try.prog 70 = true := by kernel_rfl
@[go_sem] theorem zeroI_70 : zeroI Try.prog 70 = some [Go.Av.AV.lit Go.Value.nilFunc] := by kernel_rfl
@[go_sem] theorem tyI_71 : tyI Try.prog 71 = some { agg := false, size := 1, bytes := 8 } := by kernel_rfl
@[go_sem] theorem kindT_71 : kindT Try.prog 71 = 9 := by kernel_rfl
@[go_sem] theorem hasT_71 : hasT Try.prog 71 = true := by kernel_rfl
@[go_sem] theorem zeroI_71 : zeroI Try.prog 71 = some [Go.Av.AV.lit Go.Value.nilFunc] := by kernel_rfl
@[go_sem] theorem tyI_72 : tyI Try.prog 72 = some { agg := false, size := 1, bytes := 8 } := by kernel_rfl
@[go_sem] theorem kindT_72 : kindT Try.prog 72 = 9 := by kernel_rfl
@[go_sem] theorem hasT_72 : hasT Try.prog 72 = true := by kernel_rfl
@[go_sem] theorem zeroI_72 : zeroI Try.prog 72 = some [Go.Av.AV.lit Go.Value.nilFunc] := by kernel_rfl
@[go_sem] theorem tyI_73 : tyI Try.prog 73 = some { agg := false, size := 1, bytes := 8 } := by kernel_rfl
@[go_sem] theorem kindT_73 : kindT Try.prog 73 = 9 := by kernel_rfl
@[go_sem] theorem hasT_73 : hasT Try.prog 73 = true := by kernel_rfl
@[go_sem] theorem zeroI_73 : zeroI Try.prog 73 = some [Go.Av.AV.lit Go.Value.nilFunc] := by kernel_rfl
@[go_sem] theorem tyI_74 : tyI Try.prog 74 = some { agg := false, size := 1, bytes := 24 } := by kernel_rfl
@[go_sem] theorem slT_74 : slT Try.prog 74 = some 76 := by kernel_rfl
@[go_sem] theorem kindT_74 : kindT Try.prog 74 = 5 := by kernel_rfl
@[go_sem] theorem hasT_74 : hasT Try.prog 74 = true := by kernel_rfl
@[go_sem] theorem zeroI_74 : zeroI Try.prog 74 = some [Go.Av.AV.isl (some true) [] Go.Av.Tk.full] := by kernel_rfl
@[go_sem] theorem tyI_75 : tyI Try.prog 75 = some { agg := true, size := 2, bytes := 16 } := by kernel_rfl
@[go_sem] theorem kindT_75 : kindT Try.prog 75 = 6 := by kernel_rfl
@[go_sem] theorem hasT_75 : hasT Try.prog 75 = true := by kernel_rfl
@[go_sem] theorem zeroI_75 : zeroI Try.prog 75 = some [Go.Av.AV.lit (Go.Value.int Go.IntKind.i64 0), Go.Av.AV.lit (Go.Value.int Go.IntKind.i64 0)] := by kernel_rfl
@[go_sem] theorem bldT_75 : bldT Try.prog 75 = true := by kernel_rfl
@[go_sem] theorem eqT_75 : eqT Try.prog 75 = some [(0, 2), (1, 2)] := by kernel_rfl
@[go_sem] theorem fld_75_0 : fldI Try.prog 75 0 = some (0, 1, false) := by kernel_rfl
@[go_sem] theorem fld_75_1 : fldI Try.prog 75 1 = some (1, 1, false) := by kernel_rfl
@[go_sem] theorem tyI_76 : tyI Try.prog 76 = some { agg := true, size := 2, bytes := 16 } := by kernel_rfl
@[go_sem] theorem kindT_76 : kindT Try.prog 76 = 6 := by kernel_rfl
@[go_sem] theorem hasT_76 : hasT Try.prog 76 = true := by kernel_rfl
@[go_sem] theorem zeroI_76 : zeroI Try.prog 76 = some [Go.Av.AV.lit (Go.Value.int Go.IntKind.i64 0), Go.Av.AV.lit (Go.Value.int Go.IntKind.i64 0)] := by kernel_rfl
@[go_sem] theorem bldT_76 : bldT Try.prog 76 = true := by kernel_rfl
@[go_sem] theorem eqT_76 : eqT Try.prog 76 = some [(0, 2), (1, 2)] := by kernel_rfl
@[go_sem] theorem fld_76_0 : fldI Try.prog 76 0 = some (0, 1, false) := by kernel_rfl
@[go_sem] theorem fld_76_1 : fldI Try.prog 76 1 = some (1, 1, false) := by kernel_rfl
@[go_sem] theorem tyI_77 : tyI Try.prog 77 = some { agg := false, size := 1, bytes := 0 } := by kernel_rfl
@[go_sem] theorem kindT_77 : kindT Try.prog 77 = 0 := by kernel_rfl
@[go_sem] theorem hasT_77 : hasT Try.prog 77 = true := by kernel_rfl
@[go_sem] theorem tyI_78 : tyI Try.prog 78 = some { agg := false, size := 1, bytes := 8 } := by kernel_rfl
@[go_sem] theorem kindT_78 : kindT Try.prog 78 = 9 := by kernel_rfl
@[go_sem] theorem hasT_78 : hasT Try.prog 78 = true := by kernel_rfl
@[go_sem] theorem zeroI_78 : zeroI Try.prog 78 = some [Go.Av.AV.lit Go.Value.nilFunc] := by kernel_rfl
@[go_sem] theorem tyI_79 : tyI Try.prog 79 = some { agg := false, size := 1, bytes := 8 } := by kernel_rfl
@[go_sem] theorem kindT_79 : kindT Try.prog 79 = 9 := by kernel_rfl
@[go_sem] theorem hasT_79 : hasT Try.prog 79 = true := by kernel_rfl
@[go_sem] theorem zeroI_79 : zeroI Try.prog 79 = some [Go.Av.AV.lit Go.Value.nilFunc] := by kernel_rfl
@[go_sem] theorem tyI_80 : tyI Try.prog 80 = some { agg := false, size := 1, bytes := 8 } := by kernel_rfl
@[go_sem] theorem kindT_80 : kindT Try.prog 80 = 9 := by kernel_rfl
@[go_sem] theorem hasT_80 : hasT Try.prog 80 = true := by kernel_rfl
@[go_sem] theorem zeroI_80 : zeroI Try.prog 80 = some [Go.Av.AV.lit Go.Value.nilFunc] := by kernel_rfl
@[go_sem] theorem tyI_81 : tyI Try.prog 81 = some { agg := false, size := 1, bytes := 8 } := by kernel_rfl
@[go_sem] theorem kindT_81 : kindT Try.prog 81 = 9 := by kernel_rfl
@[go_sem] theorem hasT_81 : hasT Try.prog 81 = true := by kernel_rfl
@[go_sem] theorem zeroI_81 : zeroI Try.prog 81 = some [Go.Av.AV.lit Go.Value.nilFunc] := by kernel_rfl
@[go_sem] theorem tyI_82 : tyI Try.prog 82 = some { agg := false, size := 1, bytes := 8 } := by kernel_rfl
@[go_sem] theorem kindT_82 : kindT Try.prog 82 = 9 := by kernel_rfl
@[go_sem] theorem hasT_82 : hasT Try.prog 82 = true := by kernel_rfl
@[go_sem] theorem zeroI_82 : zeroI Try.prog 82 = some [Go.Av.AV.lit Go.Value.nilFunc] := by kernel_rfl
@[go_sem] theorem tyI_83 : tyI Try.prog 83 = some { agg := false, size := 1, bytes := 8 } := by kernel_rfl
@[go_sem] theorem kindT_83 : kindT Try.prog 83 = 9 := by kernel_rfl
@[go_sem] theorem hasT_83 : hasT Try.prog 83 = true := by kernel_rfl
@[go_sem] theorem zeroI_83 : zeroI Try.prog 83 = some [Go.Av.AV.lit Go.Value.nilFunc] := by kernel_rfl
@[go_sem] theorem tyI_84 : tyI Try.prog 84 = some { agg := false, size := 1, bytes := 8 } := by kernel_rfl
@[go_sem] theorem kindT_84 : kindT Try.prog 84 = 2 := by kernel_rfl
@[go_sem] theorem intT_84 : intT Try.prog 84 = some Go.IntKind.u64 := by kernel_rfl
@[go_sem] theorem hasT_84 : hasT Try.prog 84 = true := by kernel_rfl
@[go_sem] theorem zeroI_84 : zeroI Try.prog 84 = some [Go.Av.AV.lit (Go.Value.int Go.IntKind.u64 0)] := by kernel_rfl
@[go_sem] theorem tyI_85 : tyI Try.prog 85 = some { agg := false, size := 1, bytes := 8 } := by kernel_rfl
@[go_sem] theorem kindT_85 : kindT Try.prog 85 = 9 := by kernel_rfl
@[go_sem] theorem hasT_85 : hasT Try.prog 85 = true := by kernel_rfl
@[go_sem] theorem zeroI_85 : zeroI Try.prog 85 = some [Go.Av.AV.lit Go.Value.nilFunc] := by kernel_rfl
@[go_sem] theorem tyI_86 : tyI Try.prog 86 = some { agg := false, size := 1, bytes := 8 } := by kernel_rfl
@[go_sem] theorem kindT_86 : kindT Try.prog 86 = 9 := by kernel_rfl
@[go_sem] theorem hasT_86 : hasT Try.prog 86 = true := by kernel_rfl
@[go_sem] theorem zeroI_86 : zeroI Try.prog 86 = some [Go.Av.AV.lit Go.Value.nilFunc] := by kernel_rfl
@[go_sem] theorem tyI_87 : tyI Try.prog 87 = some { agg := false, size := 1, bytes := 0 } := by kernel_rfl
@[go_sem] theorem kindT_87 : kindT Try.prog 87 = 0 := by kernel_rfl
@[go_sem] theorem hasT_87 : hasT Try.prog 87 = true := by kernel_rfl
@[go_sem] theorem tyI_88 : tyI Try.prog 88 = some { agg := false, size := 1, bytes := 8 } := by kernel_rfl
@[go_sem] theorem kindT_88 : kindT Try.prog 88 = 9 := by kernel_rfl
@[go_sem] theorem hasT_88 : hasT Try.prog 88 = true := by kernel_rfl
@[go_sem] theorem zeroI_88 : zeroI Try.prog 88 = some [Go.Av.AV.lit Go.Value.nilFunc] := by kernel_rfl
@[go_sem] theorem tyI_89 : tyI Try.prog 89 = some { agg := false, size := 1, bytes := 24 } := by kernel_rfl
@[go_sem] theorem slT_89 : slT Try.prog 89 = some 9 := by kernel_rfl
@[go_sem] theorem kindT_89 : kindT Try.prog 89 = 5 := by kernel_rfl
@[go_sem] theorem hasT_89 : hasT Try.prog 89 = true := by kernel_rfl
@[go_sem] theorem zeroI_89 : zeroI Try.prog 89 = some [Go.Av.AV.isl (some true) [] Go.Av.Tk.full] := by kernel_rfl
@[go_sem] theorem tyI_90 : tyI Try.prog 90 = some { agg := false, size := 1, bytes := 8 } := by kernel_rfl
@[go_sem] theorem kindT_90 : kindT Try.prog 90 = 9 := by kernel_rfl
@[go_sem] theorem hasT_90 : hasT Try.prog 90 = true := by kernel_rfl
@[go_sem] theorem zeroI_90 : zeroI Try.prog 90 = some [Go.Av.AV.lit Go.Value.nilFunc] := by kernel_rfl
@[go_sem] theorem tyI_91 : tyI Try.prog 91 = some { agg := false, size := 1, bytes := 8 } := by kernel_rfl
@[go_sem] theorem kindT_91 : kindT Try.prog 91 = 9 := by kernel_rfl
@[go_sem] theorem hasT_91 : hasT Try.prog 91 = true := by kernel_rfl
@[go_sem] theorem zeroI_91 : zeroI Try.prog 91 = some [Go.Av.AV.lit Go.Value.nilFunc] := by kernel_rfl
@[go_sem] theorem tyI_92 : tyI Try.prog 92 = some { agg := false, size := 1, bytes := 8 } := by kernel_rfl
@[go_sem] theorem kindT_92 : kindT Try.prog 92 = 9 := by kernel_rfl
@[go_sem] theorem hasT_92 : hasT Try.prog 92 = true := by kernel_rfl
@[go_sem] theorem zeroI_92 : zeroI Try.prog 92 = some [Go.Av.AV.lit Go.Value.nilFunc] := by kernel_rfl
@[go_sem] theorem tyI_93 : tyI Try.prog 93 = some { agg := true, size := 1, bytes := 24 } := by kernel_rfl
@[go_sem] theorem kindT_93 : kindT Try.prog 93 = 6 := by kernel_rfl
@[go_sem] theorem hasT_93 : hasT Try.prog 93 = true := by kernel_rfl
@[go_sem] theorem zeroI_93 : zeroI Try.prog 93 = some [Go.Av.AV.isl (some true) [] Go.Av.Tk.full] := by kernel_rfl
@[go_sem] theorem bldT_93 : bldT Try.prog 93 = true := by kernel_rfl
@[go_sem] theorem fld_93_0 : fldI Try.prog 93 0 = some (0, 1, false) := by kernel_rfl
@[go_sem] theorem tyI_94 : tyI Try.prog 94 = some { agg := true, size := 1, bytes := 24 } := by kernel_rfl
@[go_sem] theorem kindT_94 : kindT Try.prog 94 = 6 := by kernel_rfl
@[go_sem] theorem hasT_94 : hasT Try.prog 94 = true := by kernel_rfl
@[go_sem] theorem zeroI_94 : zeroI Try.prog 94 = some [Go.Av.AV.isl (some true) [] Go.Av.Tk.full] := by kernel_rfl
@[go_sem] theorem bldT_94 : bldT Try.prog 94 = true := by kernel_rfl
@[go_sem] theorem fld_94_0 : fldI Try.prog 94 0 = some (0, 1, false) := by kernel_rfl
@[go_sem] theorem tyI_95 : tyI Try.prog 95 = some { agg := false, size := 1, bytes := 8 } := by kernel_rfl
@[go_sem] theorem kindT_95 : kindT Try.prog 95 = 9 := by kernel_rfl
@[go_sem] theorem hasT_95 : hasT Try.prog 95 = true := by kernel_rfl
@[go_sem] theorem zeroI_95 : zeroI Try.prog 95 = some [Go.Av.AV.lit Go.Value.nilFunc] := by kernel_rfl
@[go_sem] theorem tyI_96 : tyI Try.prog 96 = some { agg := false, size := 1, bytes := 8 } := by kernel_rfl
@[go_sem] theorem kindT_96 : kindT Try.prog 96 = 9 := by kernel_rfl
@[go_sem] theorem hasT_96 : hasT Try.prog 96 = true := by kernel_rfl
@[go_sem] theorem zeroI_96 : zeroI Try.prog 96 = some [Go.Av.AV.lit Go.Value.nilFunc] := by kernel_rfl
@[go_sem] theorem tyI_97 : tyI Try.prog 97 = some { agg := false, size := 1, bytes := 8 } := by kernel_rfl
@[go_sem] theorem kindT_97 : kindT Try.prog 97 = 9 := by kernel_rfl
@[go_sem] theorem hasT_97 : hasT Try.prog 97 = true := by kernel_rfl
@[go_sem] theorem zeroI_97 : zeroI Try.prog 97 = some [Go.Av.AV.lit Go.Value.nilFunc] := by kernel_rfl
@[go_sem] theorem tyI_98 : tyI Try.prog 98 = some { agg := false, size := 1, bytes := 24 } := by kernel_rfl
@[go_sem] theorem slT_98 : slT Try.prog 98 = some 4 := by kernel_rfl
@[go_sem] theorem kindT_98 : kindT Try.prog 98 = 5 := by kernel_rfl
@[go_sem] theorem hasT_98 : hasT Try.prog 98 = true := by kernel_rfl
@[go_sem] theorem zeroI_98 : zeroI Try.prog 98 = some [Go.Av.AV.isl (some true) [] Go.Av.Tk.full] := by kernel_rfl
@[go_sem] theorem tyI_99 : tyI Try.prog 99 = some { agg := false, size := 1, bytes := 24 } := by kernel_rfl
@[go_sem] theorem slT_99 : slT Try.prog 99 = some 5 := by kernel_rfl
@[go_sem] theorem kindT_99 : kindT Try.prog 99 = 5 := by kernel_rfl
@[go_sem] theorem hasT_99 : hasT Try.prog 99 = true := by kernel_rfl
@[go_sem] theorem zeroI_99 : zeroI Try.prog 99 = some [Go.Av.AV.isl (some true) [] Go.Av.Tk.full] := by kernel_rfl
@[go_sem] theorem tyI_100 : tyI Try.prog 100 = some { agg := false, size := 1, bytes := 8 } := by kernel_rfl
@[go_sem] theorem kindT_100 : kindT Try.prog 100 = 9 := by kernel_rfl
@[go_sem] theorem hasT_100 : hasT Try.prog 100 = true := by kernel_rfl
@[go_sem] theorem zeroI_100 : zeroI Try.prog 100 = some [Go.Av.AV.lit Go.Value.nilFunc] := by kernel_rfl
@[go_sem] theorem tyI_101 : tyI Try.prog 101 = some { agg := false, size := 1, bytes := 8 } := by kernel_rfl
@[go_sem] theorem kindT_101 : kindT Try.prog 101 = 9 := by kernel_rfl
@[go_sem] theorem hasT_101 : hasT Try.prog 101 = true := by kernel_rfl
@[go_sem] theorem zeroI_101 : zeroI Try.prog 101 = some [Go.Av.AV.lit Go.Value.nilFunc] := by kernel_rfl
@[go_sem] theorem tyI_102 : tyI Try.prog 102 = some { agg := false, size := 1, bytes := 8 } := by kernel_rfl
@[go_sem] theorem kindT_102 : kindT Try.prog 102 = 9 := by kernel_rfl
@[go_sem] theorem hasT_102 : hasT Try.prog 102 = true := by kernel_rfl
@[go_sem] theorem zeroI_102 : zeroI Try.prog 102 = some [Go.Av.AV.lit Go.Value.nilFunc] := by kernel_rfl
@[go_sem] theorem tyI_103 : tyI Try.prog 103 = some { agg := false, size := 1, bytes := 8 } := by kernel_rfl
@[go_sem] theorem kindT_103 : kindT Try.prog 103 = 9 := by kernel_rfl
@[go_sem] theorem hasT_103 : hasT Try.prog 103 = true := by kernel_rfl
@[go_sem] theorem zeroI_103 : zeroI Try.prog 103 = some [Go.Av.AV.lit Go.Value.nilFunc] := by kernel_rfl
@[go_sem] theorem tyI_104 : tyI Try.prog 104 = some { agg := true, size := 4, bytes := 40 } := by kernel_rfl
@[go_sem] theorem kindT_104 : kindT Try.prog 104 = 6 := by kernel_rfl
@[go_sem] theorem hasT_104 : hasT Try.prog 104 = true := by kernel_rfl
@[go_sem] theorem zeroI_104 : zeroI Try.prog 104 = some [Go.Av.AV.lit (Go.Value.pointer none), Go.Av.AV.lit (Go.Value.pointer none), Go.Av.AV.lit (Go.Value.pointer none), Go.Av.AV.lit (Go.Value.string ⟨#[]⟩)] := by kernel_rfl
@[go_sem] theorem bldT_104 : bldT Try.prog 104 = true := by kernel_rfl
@[go_sem] theorem fld_104_0 : fldI Try.prog 104 0 = some (0, 1, false) := by kernel_rfl
@[go_sem] theorem fld_104_1 : fldI Try.prog 104 1 = some (1, 1, false) := by kernel_rfl
@[go_sem] theorem fld_104_2 : fldI Try.prog 104 2 = some (2, 1, false) := by kernel_rfl
@[go_sem] theorem fld_104_3 : fldI Try.prog 104 3 = some (3, 1, false) := by kernel_rfl
@[go_sem] theorem tyI_105 : tyI Try.prog 105 = some { agg := true, size := 4, bytes := 40 } := by kernel_rfl
@[go_sem] theorem kindT_105 : kindT Try.prog 105 = 6 := by kernel_rfl
@[go_sem] theorem hasT_105 : hasT Try.prog 105 = true := by kernel_rfl
@[go_sem] theorem zeroI_105 : zeroI Try.prog 105 = some [Go.Av.AV.lit (Go.Value.pointer none), Go.Av.AV.lit (Go.Value.pointer none), Go.Av.AV.lit (Go.Value.pointer none), Go.Av.AV.lit (Go.Value.string ⟨#[]⟩)] := by kernel_rfl
@[go_sem] theorem bldT_105 : bldT Try.prog 105 = true := by kernel_rfl
@[go_sem] theorem fld_105_0 : fldI Try.prog 105 0 = some (0, 1, false) := by kernel_rfl
@[go_sem] theorem fld_105_1 : fldI Try.prog 105 1 = some (1, 1, false) := by kernel_rfl
@[go_sem] theorem fld_105_2 : fldI Try.prog 105 2 = some (2, 1, false) := by kernel_rfl
@[go_sem] theorem fld_105_3 : fldI Try.prog 105 3 = some (3, 1, false) := by kernel_rfl
@[go_sem] theorem tyI_106 : tyI Try.prog 106 = some { agg := true, size := 0, bytes := 0 } := by kernel_rfl
@[go_sem] theorem kindT_106 : kindT Try.prog 106 = 7 := by kernel_rfl
@[go_sem] theorem hasT_106 : hasT Try.prog 106 = true := by kernel_rfl
@[go_sem] theorem zeroI_106 : zeroI Try.prog 106 = some [] := by kernel_rfl
@[go_sem] theorem tyI_107 : tyI Try.prog 107 = some { agg := true, size := 0, bytes := 0 } := by kernel_rfl
@[go_sem] theorem kindT_107 : kindT Try.prog 107 = 6 := by kernel_rfl
@[go_sem] theorem hasT_107 : hasT Try.prog 107 = true := by kernel_rfl
@[go_sem] theorem zeroI_107 : zeroI Try.prog 107 = some [] := by kernel_rfl
@[go_sem] theorem bldT_107 : bldT Try.prog 107 = true := by kernel_rfl
@[go_sem] theorem fld_107_0 : fldI Try.prog 107 0 = some (0, 0, true) := by kernel_rfl
@[go_sem] theorem tyI_108 : tyI Try.prog 108 = some { agg := true, size := 0, bytes := 0 } := by kernel_rfl
@[go_sem] theorem kindT_108 : kindT Try.prog 108 = 6 := by kernel_rfl
@[go_sem] theorem hasT_108 : hasT Try.prog 108 = true := by kernel_rfl
@[go_sem] theorem zeroI_108 : zeroI Try.prog 108 = some [] := by kernel_rfl
@[go_sem] theorem bldT_108 : bldT Try.prog 108 = true := by kernel_rfl
@[go_sem] theorem fld_108_0 : fldI Try.prog 108 0 = some (0, 0, true) := by kernel_rfl
@[go_sem] theorem tyI_109 : tyI Try.prog 109 = some { agg := false, size := 1, bytes := 1 } := by kernel_rfl
@[go_sem] theorem kindT_109 : kindT Try.prog 109 = 2 := by kernel_rfl
@[go_sem] theorem intT_109 : intT Try.prog 109 = some Go.IntKind.u8 := by kernel_rfl
@[go_sem] theorem hasT_109 : hasT Try.prog 109 = true := by kernel_rfl
@[go_sem] theorem zeroI_109 : zeroI Try.prog 109 = some [Go.Av.AV.lit (Go.Value.int Go.IntKind.u8 0)] := by kernel_rfl
@[go_sem] theorem tyI_110 : tyI Try.prog 110 = some { agg := false, size := 1, bytes := 1 } := by kernel_rfl
@[go_sem] theorem kindT_110 : kindT Try.prog 110 = 2 := by kernel_rfl
@[go_sem] theorem intT_110 : intT Try.prog 110 = some Go.IntKind.u8 := by kernel_rfl
@[go_sem] theorem hasT_110 : hasT Try.prog 110 = true := by kernel_rfl
@[go_sem] theorem zeroI_110 : zeroI Try.prog 110 = some [Go.Av.AV.lit (Go.Value.int Go.IntKind.u8 0)] := by kernel_rfl
@[go_sem] theorem tyI_111 : tyI Try.prog 111 = some { agg := false, size := 1, bytes := 8 } := by kernel_rfl
@[go_sem] theorem kindT_111 : kindT Try.prog 111 = 9 := by kernel_rfl
@[go_sem] theorem hasT_111 : hasT Try.prog 111 = true := by kernel_rfl
@[go_sem] theorem zeroI_111 : zeroI Try.prog 111 = some [Go.Av.AV.lit Go.Value.nilFunc] := by kernel_rfl
@[go_sem] theorem tyI_112 : tyI Try.prog 112 = some { agg := false, size := 1, bytes := 8 } := by kernel_rfl
@[go_sem] theorem kindT_112 : kindT Try.prog 112 = 4 := by kernel_rfl
@[go_sem] theorem hasT_112 : hasT Try.prog 112 = true := by kernel_rfl
@[go_sem] theorem zeroI_112 : zeroI Try.prog 112 = some [Go.Av.AV.lit (Go.Value.pointer none)] := by kernel_rfl
@[go_sem] theorem tyI_113 : tyI Try.prog 113 = some { agg := false, size := 1, bytes := 4 } := by kernel_rfl
@[go_sem] theorem kindT_113 : kindT Try.prog 113 = 2 := by kernel_rfl
@[go_sem] theorem intT_113 : intT Try.prog 113 = some Go.IntKind.i32 := by kernel_rfl
@[go_sem] theorem hasT_113 : hasT Try.prog 113 = true := by kernel_rfl
@[go_sem] theorem zeroI_113 : zeroI Try.prog 113 = some [Go.Av.AV.lit (Go.Value.int Go.IntKind.i32 0)] := by kernel_rfl
@[go_sem] theorem tyI_114 : tyI Try.prog 114 = some { agg := false, size := 1, bytes := 4 } := by kernel_rfl
@[go_sem] theorem kindT_114 : kindT Try.prog 114 = 2 := by kernel_rfl
@[go_sem] theorem intT_114 : intT Try.prog 114 = some Go.IntKind.i32 := by kernel_rfl
@[go_sem] theorem hasT_114 : hasT Try.prog 114 = true := by kernel_rfl
@[go_sem] theorem zeroI_114 : zeroI Try.prog 114 = some [Go.Av.AV.lit (Go.Value.int Go.IntKind.i32 0)] := by kernel_rfl
@[go_sem] theorem tyI_115 : tyI Try.prog 115 = some { agg := true, size := 11, bytes := 48 } := by kernel_rfl
@[go_sem] theorem kindT_115 : kindT Try.prog 115 = 6 := by kernel_rfl
@[go_sem] theorem hasT_115 : hasT Try.prog 115 = true := by kernel_rfl
@[go_sem] theorem zeroI_115 : zeroI Try.prog 115 = some [Go.Av.AV.lit (Go.Value.int Go.IntKind.u64 0), Go.Av.AV.lit (Go.Value.int Go.IntKind.u64 0), Go.Av.AV.lit (Go.Value.int Go.IntKind.u32 0), Go.Av.AV.lit (Go.Value.int Go.IntKind.u8 0), Go.Av.AV.lit (Go.Value.int Go.IntKind.u8 0), Go.Av.AV.lit (Go.Value.int Go.IntKind.u8 0), Go.Av.AV.lit (Go.Value.int Go.IntKind.u8 0), Go.Av.AV.lit Go.Value.nilFunc, Go.Av.AV.lit (Go.Value.pointer none), Go.Av.AV.lit (Go.Value.int Go.IntKind.i32 0), Go.Av.AV.lit (Go.Value.int Go.IntKind.i32 0)] := by kernel_rfl
@[go_sem] theorem bldT_115 : bldT Try.prog 115 = true := by kernel_rfl
@[go_sem] theorem fld_115_0 : fldI Try.prog 115 0 = some (0, 1, false) := by kernel_rfl
@[go_sem] theorem fld_115_1 : fldI Try.prog 115 1 = some (1, 1, false) := by kernel_rfl
@[go_sem] theorem fld_115_2 : fldI Try.prog 115 2 = some (2, 1, false) := by kernel_rfl
@[go_sem] theorem fld_115_3 : fldI Try.prog 115 3 = some (3, 1, false) := by kernel_rfl
@[go_sem] theorem fld_115_4 : fldI Try.prog 115 4 = some (4, 1, false) := by kernel_rfl
@[go_sem] theorem fld_115_5 : fldI Try.prog 115 5 = some (5, 1, false) := by kernel_rfl
@[go_sem] theorem fld_115_6 : fldI Try.prog 115 6 = some (6, 1, false) := by kernel_rfl
@[go_sem] theorem fld_115_7 : fldI Try.prog 115 7 = some (7, 1, false) := by kernel_rfl
@[go_sem] theorem tyI_116 : tyI Try.prog 116 = some { agg := true, size := 11, bytes := 48 } := by kernel_rfl
@[go_sem] theorem kindT_116 : kindT Try.prog 116 = 6 := by kernel_rfl
@[go_sem] theorem hasT_116 : hasT Try.prog 116 = true := by kernel_rfl
@[go_sem] theorem zeroI_116 : zeroI Try.prog 116 = some [Go.Av.AV.lit (Go.Value.int Go.IntKind.u64 0), Go.Av.AV.lit (Go.Value.int Go.IntKind.u64 0), Go.Av.AV.lit (Go.Value.int Go.IntKind.u32 0), Go.Av.AV.lit (Go.Value.int Go.IntKind.u8 0), Go.Av.AV.lit (Go.Value.int Go.IntKind.u8 0), Go.Av.AV.lit (Go.Value.int Go.IntKind.u8 0), Go.Av.AV.lit (Go.Value.int Go.IntKind.u8 0), Go.Av.AV.lit Go.Value.nilFunc, Go.Av.AV.lit (Go.Value.pointer none), Go.Av.AV.lit (Go.Value.int Go.IntKind.i32 0), Go.Av.AV.lit (Go.Value.int Go.IntKind.i32 0)] := by kernel_rfl
@[go_sem] theorem bldT_116 : bldT Try.prog 116 = true := by kernel_rfl
@[go_sem] theorem fld_116_0 : fldI Try.prog 116 0 = some (0, 1, false) := by kernel_rfl
@[go_sem] theorem fld_116_1 : fldI Try.prog 116 1 = some (1, 1, false) := by kernel_rfl
@[go_sem] theorem fld_116_2 : fldI Try.prog 116 2 = some (2, 1, false) := by kernel_rfl
@[go_sem] theorem fld_116_3 : fldI Try.prog 116 3 = some (3, 1, false) := by kernel_rfl
@[go_sem] theorem fld_116_4 : fldI Try.prog 116 4 = some (4, 1, false) := by kernel_rfl
@[go_sem] theorem fld_116_5 : fldI Try.prog 116 5 = some (5, 1, false) := by kernel_rfl
@[go_sem] theorem fld_116_6 : fldI Try.prog 116 6 = some (6, 1, false) := by kernel_rfl
@[go_sem] theorem fld_116_7 : fldI Try.prog 116 7 = some (7, 1, false) := by kernel_rfl
@[go_sem] theorem tyI_117 : tyI Try.prog 117 = some { agg := false, size := 1, bytes := 8 } := by kernel_rfl
@[go_sem] theorem kindT_117 : kindT Try.prog 117 = 0 := by kernel_rfl
@[go_sem] theorem hasT_117 : hasT Try.prog 117 = true := by kernel_rfl
@[go_sem] theorem zeroI_117 : zeroI Try.prog 117 = some [Go.Av.AV.lit (Go.Value.pointer none)] := by kernel_rfl
@[go_sem] theorem callable_2 : callable Try.prog 2 = true := by kernel_rfl
@[go_sem] theorem callable_3 : callable Try.prog 3 = true := by kernel_rfl
@[go_sem] theorem callable_4 : callable Try.prog 4 = true := by kernel_rfl
@[go_sem] theorem callable_5 : callable Try.prog 5 = true := by kernel_rfl
@[go_sem] theorem callable_6 : callable Try.prog 6 = true := by kernel_rfl
@[go_sem] theorem callable_7 : callable Try.prog 7 = true := by kernel_rfl
@[go_sem] theorem callable_8 : callable Try.prog 8 = true := by kernel_rfl
@[go_sem] theorem callable_9 : callable Try.prog 9 = true := by kernel_rfl
@[go_sem] theorem callable_10 : callable Try.prog 10 = true := by kernel_rfl
@[go_sem] theorem callable_11 : callable Try.prog 11 = true := by kernel_rfl
@[go_sem] theorem callable_12 : callable Try.prog 12 = true := by kernel_rfl
@[go_sem] theorem callable_13 : callable Try.prog 13 = true := by kernel_rfl
@[go_sem] theorem callable_14 : callable Try.prog 14 = true := by kernel_rfl
@[go_sem] theorem callable_15 : callable Try.prog 15 = true := by kernel_rfl
@[go_sem] theorem callable_16 : callable Try.prog 16 = true := by kernel_rfl
@[go_sem] theorem callable_17 : callable Try.prog 17 = true := by kernel_rfl
@[go_sem] theorem callable_18 : callable Try.prog 18 = true := by kernel_rfl
@[go_sem] theorem callable_19 : callable Try.prog 19 = true := by kernel_rfl
@[go_sem] theorem callable_20 : callable Try.prog 20 = true := by kernel_rfl
@[go_sem] theorem callable_21 : callable Try.prog 21 = true := by kernel_rfl
@[go_sem] theorem callable_22 : callable Try.prog 22 = true := by kernel_rfl
@[go_sem] theorem callable_23 : callable Try.prog 23 = true := by kernel_rfl
@[go_sem] theorem callable_24 : callable Try.prog 24 = true := by kernel_rfl
@[go_sem] theorem callable_25 : callable Try.prog 25 = true := by kernel_rfl
@[go_sem] theorem callable_26 : callable Try.prog 26 = true := by kernel_rfl
@[go_sem] theorem callable_27 : callable Try.prog 27 = true := by kernel_rfl
@[go_sem] theorem callable_28 : callable Try.prog 28 = true := by kernel_rfl
@[go_sem] theorem callable_29 : callable Try.prog 29 = true := by kernel_rfl
@[go_sem] theorem callable_30 : callable Try.prog 30 = true := by kernel_rfl
@[go_sem] theorem callable_31 : callable Try.prog 31 = true := by kernel_rfl
@[go_sem] theorem callable_32 : callable Try.prog 32 = true := by kernel_rfl
@[go_sem] theorem callable_33 : callable Try.prog 33 = true := by kernel_rfl
@[go_sem] theorem callable_34 : callable Try.prog 34 = true := by kernel_rfl
@[go_sem] theorem callable_35 : callable Try.prog 35 = true := by kernel_rfl
@[go_sem] theorem callable_36 : callable Try.prog 36 = true := by kernel_rfl
@[go_sem] theorem callable_37 : callable Try.prog 37 = true := by kernel_rfl
@[go_sem] theorem callable_38 : callable Try.prog 38 = true := by kernel_rfl
@[go_sem] theorem callable_39 : callable Try.prog 39 = true := by kernel_rfl
@[go_sem] theorem callable_40 : callable Try.prog 40 = true := by kernel_rfl
@[go_sem] theorem callable_41 : callable Try.prog 41 = true := by kernel_rfl
@[go_sem] theorem callable_42 : callable Try.prog 42 = true := by kernel_rfl
@[go_sem] theorem callable_43 : callable Try.prog 43 = true := by kernel_rfl
@[go_sem] theorem callable_44 : callable Try.prog 44 = true := by kernel_rfl
@[go_sem] theorem callable_45 : callable Try.prog 45 = true := by kernel_rfl
@[go_sem] theorem callable_46 : callable Try.prog 46 = true := by kernel_rfl
@[go_sem] theorem callable_47 : callable Try.prog 47 = true := by kernel_rfl
@[go_sem] theorem callable_48 : callable Try.prog 48 = true := by kernel_rfl
@[go_sem] theorem callable_49 : callable Try.prog 49 = true := by kernel_rfl
@[go_sem] theorem callable_50 : callable Try.prog 50 = true := by kernel_rfl
@[go_sem] theorem callable_51 : callable Try.prog 51 = true := by kernel_rfl
@[go_sem] theorem callable_52 : callable Try.prog 52 = true := by kernel_rfl
@[go_sem] theorem callable_53 : callable Try.prog 53 = true := by kernel_rfl
@[go_sem] theorem callable_54 : callable Try.prog 54 = true := by kernel_rfl
@[go_sem] theorem callable_55 : callable Try.prog 55 = true := by kernel_rfl
@[go_sem] theorem callable_56 : callable Try.prog 56 = true := by kernel_rfl
@[go_sem] theorem callable_57 : callable Try.prog 57 = true := by kernel_rfl
@[go_sem] theorem callable_58 : callable Try.prog 58 = true := by kernel_rfl
@[go_sem] theorem callable_59 : callable Try.prog 59 = true := by kernel_rfl
@[go_sem] theorem callable_60 : callable Try.prog 60 = true := by kernel_rfl
@[go_sem] theorem callable_61 : callable Try.prog 61 = true := by kernel_rfl
@[go_sem] theorem callable_62 : callable Try.prog 62 = true := by kernel_rfl
@[go_sem] theorem callable_63 : callable Try.prog 63 = true := by kernel_rfl
@[go_sem] theorem callable_64 : callable Try.prog 64 = true := by kernel_rfl
@[go_sem] theorem callable_65 : callable Try.prog 65 = true := by kernel_rfl
@[go_sem] theorem callable_66 : callable Try.prog 66 = true := by kernel_rfl
@[go_sem] theorem callable_67 : callable Try.prog 67 = true := by kernel_rfl
@[go_sem] theorem callable_68 : callable Try.prog 68 = true := by kernel_rfl
@[go_sem] theorem callable_69 : callable Try.prog 69 = true := by kernel_rfl
@[go_sem] theorem callable_70 : callable Try.prog 70 = true := by kernel_rfl
@[go_sem] theorem callable_71 : callable Try.prog 71 = true := by kernel_rfl
@[go_sem] theorem callable_72 : callable Try.prog 72 = true := by kernel_rfl
@[go_sem] theorem callable_73 : callable Try.prog 73 = true := by kernel_rfl
@[go_sem] theorem callable_74 : callable Try.prog 74 = true := by kernel_rfl
@[go_sem] theorem callable_75 : callable Try.prog 75 = true := by kernel_rfl
@[go_sem] theorem callable_76 : callable Try.prog 76 = true := by kernel_rfl
@[go_sem] theorem callable_77 : callable Try.prog 77 = true := by kernel_rfl
@[go_sem] theorem callable_78 : callable Try.prog 78 = true := by kernel_rfl
@[go_sem] theorem callable_79 : callable Try.prog 79 = true := by kernel_rfl
@[go_sem] theorem callable_80 : callable Try.prog 80 = true := by kernel_rfl
@[go_sem] theorem callable_81 : callable Try.prog 81 = true := by kernel_rfl
@[go_sem] theorem callable_82 : callable Try.prog 82 = true := by kernel_rfl
@[go_sem] theorem callable_83 : callable Try.prog 83 = true := by kernel_rfl
@[go_sem] theorem callable_84 : callable Try.prog 84 = true := by kernel_rfl
@[go_sem] theorem callable_85 : callable Try.prog 85 = true := by kernel_rfl
@[go_sem] theorem callable_86 : callable Try.prog 86 = true := by kernel_rfl
@[go_sem] theorem callable_87 : callable Try.prog 87 = true := by kernel_rfl
@[go_sem] theorem callable_88 : callable Try.prog 88 = true := by kernel_rfl
@[go_sem] theorem callable_89 : callable Try.prog 89 = true := by kernel_rfl
@[go_sem] theorem callable_90 : callable Try.prog 90 = true := by kernel_rfl
@[go_sem] theorem callable_91 : callable Try.prog 91 = true := by kernel_rfl
@[go_sem] theorem callable_92 : callable Try.prog 92 = true := by kernel_rfl
@[go_sem] theorem callable_93 : callable Try.prog 93 = true := by kernel_rfl
@[go_sem] theorem callable_94 : callable Try.prog 94 = true := by kernel_rfl
@[go_sem] theorem callable_95 : callable Try.prog 95 = true := by kernel_rfl
@[go_sem] theorem callable_96 : callable Try.prog 96 = true := by kernel_rfl
@[go_sem] theorem callable_97 : callable Try.prog 97 = true := by kernel_rfl
@[go_sem] theorem callable_98 : callable Try.prog 98 = true := by kernel_rfl
@[go_sem] theorem callable_99 : callable Try.prog 99 = true := by kernel_rfl
@[go_sem] theorem callable_100 : callable Try.prog 100 = true := by kernel_rfl
@[go_sem] theorem callable_101 : callable Try.prog 101 = true := by kernel_rfl
@[go_sem] theorem callable_102 : callable Try.prog 102 = true := by kernel_rfl
@[go_sem] theorem callable_103 : callable Try.prog 103 = true := by kernel_rfl
@[go_sem] theorem callable_104 : callable Try.prog 104 = true := by kernel_rfl
@[go_sem] theorem callable_105 : callable Try.prog 105 = true := by kernel_rfl
@[go_sem] theorem callable_106 : callable Try.prog 106 = true := by kernel_rfl
@[go_sem] theorem callable_107 : callable Try.prog 107 = true := by kernel_rfl
@[go_sem] theorem callable_108 : callable Try.prog 108 = true := by kernel_rfl
@[go_sem] theorem callable_109 : callable Try.prog 109 = true := by kernel_rfl
@[go_sem] theorem callable_110 : callable Try.prog 110 = true := by kernel_rfl
@[go_sem] theorem callable_111 : callable Try.prog 111 = true := by kernel_rfl
@[go_sem] theorem callable_112 : callable Try.prog 112 = true := by kernel_rfl
@[go_sem] theorem callable_113 : callable Try.prog 113 = true := by kernel_rfl
@[go_sem] theorem callable_114 : callable Try.prog 114 = true := by kernel_rfl
@[go_sem] theorem callable_115 : callable Try.prog 115 = true := by kernel_rfl
@[go_sem] theorem callable_116 : callable Try.prog 116 = true := by kernel_rfl
@[go_sem] theorem callable_117 : callable Try.prog 117 = true := by kernel_rfl
@[go_sem] theorem callable_118 : callable Try.prog 118 = true := by kernel_rfl
@[go_sem] theorem callable_119 : callable Try.prog 119 = true := by kernel_rfl
@[go_sem] theorem callable_120 : callable Try.prog 120 = true := by kernel_rfl
@[go_sem] theorem callable_121 : callable Try.prog 121 = true := by kernel_rfl
@[go_sem] theorem callable_122 : callable Try.prog 122 = true := by kernel_rfl
@[go_sem] theorem callable_123 : callable Try.prog 123 = true := by kernel_rfl
@[go_sem] theorem callable_124 : callable Try.prog 124 = true := by kernel_rfl
theorem mixed : Try.prog.follows .mixedOrders = true := by kernel_rfl
end Go.Proofs.Ytmnjmeebadpgjaa.Ty
