import Derived.Test.YtmnjmeebadpgjabProg
import Derived.Test.YtmnjmeebadpgjabAvV
import Derived.KernelRfl
/- Facts of the type table, for the evaluator. -/
namespace Go.Proofs.Ytmnjmeebadpgjab.Ty
open Go Go.Av
@[go_sem] theorem tyI_0 : tyI Try.prog 0 = some { agg := false, size := 1, bytes := 0 } := by kernel_rfl
@[go_sem] theorem kindT_0 : kindT Try.prog 0 = 0 := by kernel_rfl
@[go_sem] theorem hasT_0 : hasT Try.prog 0 = true := by kernel_rfl
@[go_sem] theorem tyI_1 : tyI Try.prog 1 = some { agg := false, size := 1, bytes := 8 } := by kernel_rfl
@[go_sem] theorem kindT_1 : kindT Try.prog 1 = 9 := by kernel_rfl
@[go_sem] theorem hasT_1 : hasT Try.prog 1 = true := by kernel_rfl
@[go_sem] theorem zeroI_1 : zeroI Try.prog 1 = some [Go.Av.AV.lit Go.Value.nilFunc] := by kernel_rfl
@[go_sem] theorem tyI_2 : tyI Try.prog 2 = some { agg := false, size := 1, bytes := 8 } := by kernel_rfl
@[go_sem] theorem kindT_2 : kindT Try.prog 2 = 2 := by kernel_rfl
@[go_sem] theorem intT_2 : intT Try.prog 2 = some Go.IntKind.i64 := by kernel_rfl
@[go_sem] theorem hasT_2 : hasT Try.prog 2 = true := by kernel_rfl
@[go_sem] theorem zeroI_2 : zeroI Try.prog 2 = some [Go.Av.AV.lit (Go.Value.int Go.IntKind.i64 0)] := by kernel_rfl
@[go_sem] theorem tyI_3 : tyI Try.prog 3 = some { agg := false, size := 1, bytes := 8 } := by kernel_rfl
@[go_sem] theorem kindT_3 : kindT Try.prog 3 = 2 := by kernel_rfl
@[go_sem] theorem intT_3 : intT Try.prog 3 = some Go.IntKind.i64 := by kernel_rfl
@[go_sem] theorem hasT_3 : hasT Try.prog 3 = true := by kernel_rfl
@[go_sem] theorem zeroI_3 : zeroI Try.prog 3 = some [Go.Av.AV.lit (Go.Value.int Go.IntKind.i64 0)] := by kernel_rfl
@[go_sem] theorem tyI_4 : tyI Try.prog 4 = some { agg := false, size := 1, bytes := 1 } := by kernel_rfl
@[go_sem] theorem kindT_4 : kindT Try.prog 4 = 1 := by kernel_rfl
@[go_sem] theorem hasT_4 : hasT Try.prog 4 = true := by kernel_rfl
@[go_sem] theorem zeroI_4 : zeroI Try.prog 4 = some [Go.Av.AV.lit (Go.Value.bool false)] := by kernel_rfl
@[go_sem] theorem tyI_5 : tyI Try.prog 5 = some { agg := false, size := 1, bytes := 1 } := by kernel_rfl
@[go_sem] theorem kindT_5 : kindT Try.prog 5 = 2 := by kernel_rfl
@[go_sem] theorem intT_5 : intT Try.prog 5 = some Go.IntKind.u8 := by kernel_rfl
@[go_sem] theorem hasT_5 : hasT Try.prog 5 = true := by kernel_rfl
@[go_sem] theorem zeroI_5 : zeroI Try.prog 5 = some [Go.Av.AV.lit (Go.Value.int Go.IntKind.u8 0)] := by kernel_rfl
@[go_sem] theorem tyI_6 : tyI Try.prog 6 = some { agg := false, size := 1, bytes := 1 } := by kernel_rfl
@[go_sem] theorem kindT_6 : kindT Try.prog 6 = 2 := by kernel_rfl
@[go_sem] theorem intT_6 : intT Try.prog 6 = some Go.IntKind.u8 := by kernel_rfl
@[go_sem] theorem hasT_6 : hasT Try.prog 6 = true := by kernel_rfl
@[go_sem] theorem zeroI_6 : zeroI Try.prog 6 = some [Go.Av.AV.lit (Go.Value.int Go.IntKind.u8 0)] := by kernel_rfl
@[go_sem] theorem tyI_7 : tyI Try.prog 7 = some { agg := true, size := 4, bytes := 24 } := by kernel_rfl
@[go_sem] theorem kindT_7 : kindT Try.prog 7 = 6 := by kernel_rfl
@[go_sem] theorem hasT_7 : hasT Try.prog 7 = true := by kernel_rfl
@[go_sem] theorem zeroI_7 : zeroI Try.prog 7 = some [Go.Av.AV.lit (Go.Value.int Go.IntKind.i64 0), Go.Av.AV.lit (Go.Value.int Go.IntKind.i64 0), Go.Av.AV.lit (Go.Value.bool false), Go.Av.AV.lit (Go.Value.int Go.IntKind.u8 0)] := by kernel_rfl
@[go_sem] theorem bldT_7 : bldT Try.prog 7 = true := by kernel_rfl
@[go_sem] theorem eqT_7 : eqT Try.prog 7 = some [(0, 2), (1, 2), (2, 1), (3, 2)] := by kernel_rfl
@[go_sem] theorem fld_7_0 : fldI Try.prog 7 0 = some (0, 1, false) := by kernel_rfl
@[go_sem] theorem fld_7_1 : fldI Try.prog 7 1 = some (1, 1, false) := by kernel_rfl
@[go_sem] theorem fld_7_2 : fldI Try.prog 7 2 = some (2, 1, false) := by kernel_rfl
@[go_sem] theorem fld_7_3 : fldI Try.prog 7 3 = some (3, 1, false) := by kernel_rfl
@[go_sem] theorem tyI_8 : tyI Try.prog 8 = some { agg := true, size := 4, bytes := 24 } := by kernel_rfl
@[go_sem] theorem kindT_8 : kindT Try.prog 8 = 6 := by kernel_rfl
@[go_sem] theorem hasT_8 : hasT Try.prog 8 = true := by kernel_rfl
@[go_sem] theorem zeroI_8 : zeroI Try.prog 8 = some [Go.Av.AV.lit (Go.Value.int Go.IntKind.i64 0), Go.Av.AV.lit (Go.Value.int Go.IntKind.i64 0), Go.Av.AV.lit (Go.Value.bool false), Go.Av.AV.lit (Go.Value.int Go.IntKind.u8 0)] := by kernel_rfl
@[go_sem] theorem bldT_8 : bldT Try.prog 8 = true := by kernel_rfl
@[go_sem] theorem eqT_8 : eqT Try.prog 8 = some [(0, 2), (1, 2), (2, 1), (3, 2)] := by kernel_rfl
@[go_sem] theorem fld_8_0 : fldI Try.prog 8 0 = some (0, 1, false) := by kernel_rfl
@[go_sem] theorem fld_8_1 : fldI Try.prog 8 1 = some (1, 1, false) := by kernel_rfl
@[go_sem] theorem fld_8_2 : fldI Try.prog 8 2 = some (2, 1, false) := by kernel_rfl
@[go_sem] theorem fld_8_3 : fldI Try.prog 8 3 = some (3, 1, false) := by kernel_rfl
@[go_sem] theorem tyI_9 : tyI Try.prog 9 = some { agg := false, size := 1, bytes := 16 } := by kernel_rfl
@[go_sem] theorem kindT_9 : kindT Try.prog 9 = 3 := by kernel_rfl
@[go_sem] theorem hasT_9 : hasT Try.prog 9 = true := by kernel_rfl
@[go_sem] theorem zeroI_9 : zeroI Try.prog 9 = some [Go.Av.AV.lit (Go.Value.string ⟨#[]⟩)] := by kernel_rfl
@[go_sem] theorem tyI_10 : tyI Try.prog 10 = some { agg := false, size := 1, bytes := 16 } := by kernel_rfl
@[go_sem] theorem kindT_10 : kindT Try.prog 10 = 3 := by kernel_rfl
@[go_sem] theorem hasT_10 : hasT Try.prog 10 = true := by kernel_rfl
@[go_sem] theorem zeroI_10 : zeroI Try.prog 10 = some [Go.Av.AV.lit (Go.Value.string ⟨#[]⟩)] := by kernel_rfl
@[go_sem] theorem tyI_11 : tyI Try.prog 11 = some { agg := false, size := 1, bytes := 16 } := by kernel_rfl
@[go_sem] theorem kindT_11 : kindT Try.prog 11 = 3 := by kernel_rfl
@[go_sem] theorem hasT_11 : hasT Try.prog 11 = true := by kernel_rfl
@[go_sem] theorem zeroI_11 : zeroI Try.prog 11 = some [Go.Av.AV.lit (Go.Value.string ⟨#[]⟩)] := by kernel_rfl
@[go_sem] theorem tyI_12 : tyI Try.prog 12 = some { agg := false, size := 1, bytes := 8 } := by kernel_rfl
@[go_sem] theorem kindT_12 : kindT Try.prog 12 = 2 := by kernel_rfl
@[go_sem] theorem intT_12 : intT Try.prog 12 = some Go.IntKind.u64 := by kernel_rfl
@[go_sem] theorem hasT_12 : hasT Try.prog 12 = true := by kernel_rfl
@[go_sem] theorem zeroI_12 : zeroI Try.prog 12 = some [Go.Av.AV.lit (Go.Value.int Go.IntKind.u64 0)] := by kernel_rfl
@[go_sem] theorem tyI_13 : tyI Try.prog 13 = some { agg := true, size := 2, bytes := 24 } := by kernel_rfl
@[go_sem] theorem kindT_13 : kindT Try.prog 13 = 6 := by kernel_rfl
@[go_sem] theorem hasT_13 : hasT Try.prog 13 = true := by kernel_rfl
@[go_sem] theorem zeroI_13 : zeroI Try.prog 13 = some [Go.Av.AV.lit (Go.Value.string ⟨#[]⟩), Go.Av.AV.lit (Go.Value.int Go.IntKind.u64 0)] := by kernel_rfl
@[go_sem] theorem bldT_13 : bldT Try.prog 13 = true := by kernel_rfl
@[go_sem] theorem fld_13_0 : fldI Try.prog 13 0 = some (0, 1, false) := by kernel_rfl
@[go_sem] theorem fld_13_1 : fldI Try.prog 13 1 = some (1, 1, false) := by kernel_rfl
@[go_sem] theorem tyI_14 : tyI Try.prog 14 = some { agg := true, size := 2, bytes := 24 } := by kernel_rfl
@[go_sem] theorem kindT_14 : kindT Try.prog 14 = 6 := by kernel_rfl
@[go_sem] theorem hasT_14 : hasT Try.prog 14 = true := by kernel_rfl
@[go_sem] theorem zeroI_14 : zeroI Try.prog 14 = some [Go.Av.AV.lit (Go.Value.string ⟨#[]⟩), Go.Av.AV.lit (Go.Value.int Go.IntKind.u64 0)] := by kernel_rfl
@[go_sem] theorem bldT_14 : bldT Try.prog 14 = true := by kernel_rfl
@[go_sem] theorem fld_14_0 : fldI Try.prog 14 0 = some (0, 1, false) := by kernel_rfl
@[go_sem] theorem fld_14_1 : fldI Try.prog 14 1 = some (1, 1, false) := by kernel_rfl
@[go_sem] theorem tyI_15 : tyI Try.prog 15 = some { agg := false, size := 1, bytes := 8 } := by kernel_rfl
@[go_sem] theorem kindT_15 : kindT Try.prog 15 = 4 := by kernel_rfl
@[go_sem] theorem hasT_15 : hasT Try.prog 15 = true := by kernel_rfl
@[go_sem] theorem zeroI_15 : zeroI Try.prog 15 = some [Go.Av.AV.lit (Go.Value.pointer none)] := by kernel_rfl
@[go_sem] theorem tyI_16 : tyI Try.prog 16 = some { agg := false, size := 1, bytes := 8 } := by kernel_rfl
@[go_sem] theorem kindT_16 : kindT Try.prog 16 = 4 := by kernel_rfl
@[go_sem] theorem hasT_16 : hasT Try.prog 16 = true := by kernel_rfl
@[go_sem] theorem zeroI_16 : zeroI Try.prog 16 = some [Go.Av.AV.lit (Go.Value.pointer none)] := by kernel_rfl
@[go_sem] theorem tyI_17 : tyI Try.prog 17 = some { agg := false, size := 1, bytes := 8 } := by kernel_rfl
@[go_sem] theorem kindT_17 : kindT Try.prog 17 = 4 := by kernel_rfl
@[go_sem] theorem hasT_17 : hasT Try.prog 17 = true := by kernel_rfl
@[go_sem] theorem zeroI_17 : zeroI Try.prog 17 = some [Go.Av.AV.lit (Go.Value.pointer none)] := by kernel_rfl
@[go_sem] theorem tyI_18 : tyI Try.prog 18 = some { agg := true, size := 1, bytes := 8 } := by kernel_rfl
@[go_sem] theorem kindT_18 : kindT Try.prog 18 = 6 := by kernel_rfl
@[go_sem] theorem hasT_18 : hasT Try.prog 18 = true := by kernel_rfl
@[go_sem] theorem zeroI_18 : zeroI Try.prog 18 = some [Go.Av.AV.lit (Go.Value.pointer none)] := by kernel_rfl
@[go_sem] theorem bldT_18 : bldT Try.prog 18 = true := by kernel_rfl
@[go_sem] theorem fld_18_0 : fldI Try.prog 18 0 = some (0, 1, false) := by kernel_rfl
@[go_sem] theorem tyI_19 : tyI Try.prog 19 = some { agg := true, size := 1, bytes := 8 } := by kernel_rfl
@[go_sem] theorem kindT_19 : kindT Try.prog 19 = 6 := by kernel_rfl
@[go_sem] theorem hasT_19 : hasT Try.prog 19 = true := by kernel_rfl
@[go_sem] theorem zeroI_19 : zeroI Try.prog 19 = some [Go.Av.AV.lit (Go.Value.pointer none)] := by kernel_rfl
@[go_sem] theorem bldT_19 : bldT Try.prog 19 = true := by kernel_rfl
@[go_sem] theorem fld_19_0 : fldI Try.prog 19 0 = some (0, 1, false) := by kernel_rfl
@[go_sem] theorem tyI_20 : tyI Try.prog 20 = some { agg := false, size := 1, bytes := 16 } := by kernel_rfl
@[go_sem] theorem kindT_20 : kindT Try.prog 20 = 0 := by kernel_rfl
@[go_sem] theorem hasT_20 : hasT Try.prog 20 = true := by kernel_rfl
@[go_sem] theorem zeroI_20 : zeroI Try.prog 20 = some [Go.Av.AV.lit Go.Value.nilIface] := by kernel_rfl
@[go_sem] theorem tyI_21 : tyI Try.prog 21 = some { agg := false, size := 1, bytes := 4 } := by kernel_rfl
@[go_sem] theorem kindT_21 : kindT Try.prog 21 = 2 := by kernel_rfl
@[go_sem] theorem intT_21 : intT Try.prog 21 = some Go.IntKind.i32 := by kernel_rfl
@[go_sem] theorem hasT_21 : hasT Try.prog 21 = true := by kernel_rfl
@[go_sem] theorem zeroI_21 : zeroI Try.prog 21 = some [Go.Av.AV.lit (Go.Value.int Go.IntKind.i32 0)] := by kernel_rfl
@[go_sem] theorem tyI_22 : tyI Try.prog 22 = some { agg := false, size := 1, bytes := 24 } := by kernel_rfl
@[go_sem] theorem slT_22 : slT Try.prog 22 = some 3 := by kernel_rfl
@[go_sem] theorem kindT_22 : kindT Try.prog 22 = 5 := by kernel_rfl
@[go_sem] theorem hasT_22 : hasT Try.prog 22 = true := by kernel_rfl
@[go_sem] theorem zeroI_22 : zeroI Try.prog 22 = some [Go.Av.AV.isl (some true) [] Go.Av.Tk.full] := by kernel_rfl
@[go_sem] theorem tyI_23 : tyI Try.prog 23 = some { agg := false, size := 1, bytes := 8 } := by kernel_rfl
@[go_sem] theorem kindT_23 : kindT Try.prog 23 = 4 := by kernel_rfl
@[go_sem] theorem hasT_23 : hasT Try.prog 23 = true := by kernel_rfl
@[go_sem] theorem zeroI_23 : zeroI Try.prog 23 = some [Go.Av.AV.lit (Go.Value.pointer none)] := by kernel_rfl
@[go_sem] theorem tyI_24 : tyI Try.prog 24 = some { agg := false, size := 1, bytes := 8 } := by kernel_rfl
@[go_sem] theorem kindT_24 : kindT Try.prog 24 = 9 := by kernel_rfl
@[go_sem] theorem hasT_24 : hasT Try.prog 24 = true := by kernel_rfl
@[go_sem] theorem zeroI_24 : zeroI Try.prog 24 = some [Go.Av.AV.lit Go.Value.nilFunc] := by kernel_rfl
@[go_sem] theorem tyI_25 : tyI Try.prog 25 = some { agg := false, size := 1, bytes := 8 } := by kernel_rfl
@[go_sem] theorem kindT_25 : kindT Try.prog 25 = 9 := by kernel_rfl
@[go_sem] theorem hasT_25 : hasT Try.prog 25 = true := by kernel_rfl
@[go_sem] theorem zeroI_25 : zeroI Try.prog 25 = some [Go.Av.AV.lit Go.Value.nilFunc] := by kernel_rfl
@[go_sem] theorem tyI_26 : tyI Try.prog 26 = some { agg := false, size := 1, bytes := 8 } := by kernel_rfl
@[go_sem] theorem kindT_26 : kindT Try.prog 26 = 9 := by kernel_rfl
@[go_sem] theorem hasT_26 : hasT Try.prog 26 = true := by kernel_rfl
@[go_sem] theorem zeroI_26 : zeroI Try.prog 26 = some [Go.Av.AV.lit Go.Value.nilFunc] := by kernel_rfl
@[go_sem] theorem tyI_27 : tyI Try.prog 27 = some { agg := false, size := 1, bytes := 0 } := by kernel_rfl
@[go_sem] theorem kindT_27 : kindT Try.prog 27 = 0 := by kernel_rfl
@[go_sem] theorem hasT_27 : hasT Try.prog 27 = true := by kernel_rfl
@[go_sem] theorem tyI_28 : tyI Try.prog 28 = some { agg := false, size := 1, bytes := 8 } := by kernel_rfl
@[go_sem] theorem kindT_28 : kindT Try.prog 28 = 9 := by kernel_rfl
@[go_sem] theorem hasT_28 : hasT Try.prog 28 = true := by kernel_rfl
@[go_sem] theorem zeroI_28 : zeroI Try.prog 28 = some [Go.Av.AV.lit Go.Value.nilFunc] := by kernel_rfl
@[go_sem] theorem tyI_29 : tyI Try.prog 29 = some { agg := false, size := 1, bytes := 8 } := by kernel_rfl
@[go_sem] theorem kindT_29 : kindT Try.prog 29 = 9 := by kernel_rfl
@[go_sem] theorem hasT_29 : hasT Try.prog 29 = true := by kernel_rfl
@[go_sem] theorem zeroI_29 : zeroI Try.prog 29 = some [Go.Av.AV.lit Go.Value.nilFunc] := by kernel_rfl
@[go_sem] theorem tyI_30 : tyI Try.prog 30 = some { agg := false, size := 1, bytes := 8 } := by kernel_rfl
@[go_sem] theorem kindT_30 : kindT Try.prog 30 = 9 := by kernel_rfl
@[go_sem] theorem hasT_30 : hasT Try.prog 30 = true := by kernel_rfl
@[go_sem] theorem zeroI_30 : zeroI Try.prog 30 = some [Go.Av.AV.lit Go.Value.nilFunc] := by kernel_rfl
@[go_sem] theorem tyI_31 : tyI Try.prog 31 = some { agg := false, size := 1, bytes := 8 } := by kernel_rfl
@[go_sem] theorem kindT_31 : kindT Try.prog 31 = 9 := by kernel_rfl
@[go_sem] theorem hasT_31 : hasT Try.prog 31 = true := by kernel_rfl
@[go_sem] theorem zeroI_31 : zeroI Try.prog 31 = some [Go.Av.AV.lit Go.Value.nilFunc] := by kernel_rfl
@[go_sem] theorem tyI_32 : tyI Try.prog 32 = some { agg := false, size := 1, bytes := 8 } := by kernel_rfl
@[go_sem] theorem kindT_32 : kindT Try.prog 32 = 9 := by kernel_rfl
@[go_sem] theorem hasT_32 : hasT Try.prog 32 = true := by kernel_rfl
@[go_sem] theorem zeroI_32 : zeroI Try.prog 32 = some [Go.Av.AV.lit Go.Value.nilFunc] := by kernel_rfl
@[go_sem] theorem tyI_33 : tyI Try.prog 33 = some { agg := false, size := 1, bytes := 8 } := by kernel_rfl
@[go_sem] theorem kindT_33 : kindT Try.prog 33 = 9 := by kernel_rfl
@[go_sem] theorem hasT_33 : hasT Try.prog 33 = true := by kernel_rfl
@[go_sem] theorem zeroI_33 : zeroI Try.prog 33 = some [Go.Av.AV.lit Go.Value.nilFunc] := by kernel_rfl
@[go_sem] theorem tyI_34 : tyI Try.prog 34 = some { agg := false, size := 1, bytes := 8 } := by kernel_rfl
@[go_sem] theorem kindT_34 : kindT Try.prog 34 = 9 := by kernel_rfl
@[go_sem] theorem hasT_34 : hasT Try.prog 34 = true := by kernel_rfl
@[go_sem] theorem zeroI_34 : zeroI Try.prog 34 = some [Go.Av.AV.lit Go.Value.nilFunc] := by kernel_rfl
@[go_sem] theorem tyI_35 : tyI Try.prog 35 = some { agg := false, size := 1, bytes := 8 } := by kernel_rfl
@[go_sem] theorem kindT_35 : kindT Try.prog 35 = 9 := by kernel_rfl
@[go_sem] theorem hasT_35 : hasT Try.prog 35 = true := by kernel_rfl
@[go_sem] theorem zeroI_35 : zeroI Try.prog 35 = some [Go.Av.AV.lit Go.Value.nilFunc] := by kernel_rfl
@[go_sem] theorem tyI_36 : tyI Try.prog 36 = some { agg := false, size := 1, bytes := 24 } := by kernel_rfl
@[go_sem] theorem slT_36 : slT Try.prog 36 = some 44 := by kernel_rfl
@[go_sem] theorem kindT_36 : kindT Try.prog 36 = 5 := by kernel_rfl
@[go_sem] theorem hasT_36 : hasT Try.prog 36 = true := by kernel_rfl
@[go_sem] theorem zeroI_36 : zeroI Try.prog 36 = some [Go.Av.AV.isl (some true) [] Go.Av.Tk.full] := by kernel_rfl
@[go_sem] theorem tyI_37 : tyI Try.prog 37 = some { agg := false, size := 1, bytes := 8 } := by kernel_rfl
@[go_sem] theorem kindT_37 : kindT Try.prog 37 = 9 := by kernel_rfl
@[go_sem] theorem hasT_37 : hasT Try.prog 37 = true := by kernel_rfl
@[go_sem] theorem zeroI_37 : zeroI Try.prog 37 = some [Go.Av.AV.lit Go.Value.nilFunc] := by kernel_rfl
@[go_sem] theorem tyI_38 : tyI Try.prog 38 = some { agg := false, size := 1, bytes := 8 } := by kernel_rfl
@[go_sem] theorem kindT_38 : kindT Try.prog 38 = 9 := by kernel_rfl
@[go_sem] theorem hasT_38 : hasT Try.prog 38 = true := by kernel_rfl
@[go_sem] theorem zeroI_38 : zeroI Try.prog 38 = some [Go.Av.AV.lit Go.Value.nilFunc] := by kernel_rfl
@[go_sem] theorem tyI_39 : tyI Try.prog 39 = some { agg := false, size := 1, bytes := 8 } := by kernel_rfl
@[go_sem] theorem kindT_39 : kindT Try.prog 39 = 9 := by kernel_rfl
@[go_sem] theorem hasT_39 : hasT Try.prog 39 = true := by kernel_rfl
@[go_sem] theorem zeroI_39 : zeroI Try.prog 39 = some [Go.Av.AV.lit Go.Value.nilFunc] := by kernel_rfl
@[go_sem] theorem tyI_40 : tyI Try.prog 40 = some { agg := true, size := 1, bytes := 24 } := by kernel_rfl
@[go_sem] theorem kindT_40 : kindT Try.prog 40 = 6 := by kernel_rfl
@[go_sem] theorem hasT_40 : hasT Try.prog 40 = true := by kernel_rfl
@[go_sem] theorem zeroI_40 : zeroI Try.prog 40 = some [Go.Av.AV.isl (some true) [] Go.Av.Tk.full] := by kernel_rfl
@[go_sem] theorem bldT_40 : bldT Try.prog 40 = true := by kernel_rfl
@[go_sem] theorem fld_40_0 : fldI Try.prog 40 0 = some (0, 1, false) := by kernel_rfl
@[go_sem] theorem tyI_41 : tyI Try.prog 41 = some { agg := true, size := 1, bytes := 24 } := by kernel_rfl
@[go_sem] theorem kindT_41 : kindT Try.prog 41 = 6 := by kernel_rfl
@[go_sem] theorem hasT_41 : hasT Try.prog 41 = true := by kernel_rfl
@[go_sem] theorem zeroI_41 : zeroI Try.prog 41 = some [Go.Av.AV.isl (some true) [] Go.Av.Tk.full] := by kernel_rfl
@[go_sem] theorem bldT_41 : bldT Try.prog 41 = true := by kernel_rfl
@[go_sem] theorem fld_41_0 : fldI Try.prog 41 0 = some (0, 1, false) := by kernel_rfl
@[go_sem] theorem tyI_42 : tyI Try.prog 42 = some { agg := false, size := 1, bytes := 8 } := by kernel_rfl
@[go_sem] theorem kindT_42 : kindT Try.prog 42 = 9 := by kernel_rfl
@[go_sem] theorem hasT_42 : hasT Try.prog 42 = true := by kernel_rfl
@[go_sem] theorem zeroI_42 : zeroI Try.prog 42 = some [Go.Av.AV.lit Go.Value.nilFunc] := by kernel_rfl
@[go_sem] theorem tyI_43 : tyI Try.prog 43 = some { agg := false, size := 1, bytes := 8 } := by kernel_rfl
@[go_sem] theorem kindT_43 : kindT Try.prog 43 = 2 := by kernel_rfl
@[go_sem] theorem intT_43 : intT Try.prog 43 = some Go.IntKind.u64 := by kernel_rfl
@[go_sem] theorem hasT_43 : hasT Try.prog 43 = true := by kernel_rfl
@[go_sem] theorem zeroI_43 : zeroI Try.prog 43 = some [Go.Av.AV.lit (Go.Value.int Go.IntKind.u64 0)] := by kernel_rfl
@[go_sem] theorem tyI_44 : tyI Try.prog 44 = some { agg := false, size := 1, bytes := 8 } := by kernel_rfl
@[go_sem] theorem kindT_44 : kindT Try.prog 44 = 2 := by kernel_rfl
@[go_sem] theorem intT_44 : intT Try.prog 44 = some Go.IntKind.u64 := by kernel_rfl
@[go_sem] theorem hasT_44 : hasT Try.prog 44 = true := by kernel_rfl
@[go_sem] theorem zeroI_44 : zeroI Try.prog 44 = some [Go.Av.AV.lit (Go.Value.int Go.IntKind.u64 0)] := by kernel_rfl
@[go_sem] theorem tyI_45 : tyI Try.prog 45 = some { agg := false, size := 1, bytes := 8 } := by kernel_rfl
@[go_sem] theorem kindT_45 : kindT Try.prog 45 = 9 := by kernel_rfl
@[go_sem] theorem hasT_45 : hasT Try.prog 45 = true := by kernel_rfl
@[go_sem] theorem zeroI_45 : zeroI Try.prog 45 = some [Go.Av.AV.lit Go.Value.nilFunc] := by kernel_rfl
@[go_sem] theorem tyI_46 : tyI Try.prog 46 = some { agg := false, size := 1, bytes := 8 } := by kernel_rfl
@[go_sem] theorem kindT_46 : kindT Try.prog 46 = 9 := by kernel_rfl
@[go_sem] theorem hasT_46 : hasT Try.prog 46 = true := by kernel_rfl
@[go_sem] theorem zeroI_46 : zeroI Try.prog 46 = some [Go.Av.AV.lit Go.Value.nilFunc] := by kernel_rfl
@[go_sem] theorem tyI_47 : tyI Try.prog 47 = some { agg := false, size := 1, bytes := 8 } := by kernel_rfl
@[go_sem] theorem kindT_47 : kindT Try.prog 47 = 9 := by kernel_rfl
@[go_sem] theorem hasT_47 : hasT Try.prog 47 = true := by kernel_rfl
@[go_sem] theorem zeroI_47 : zeroI Try.prog 47 = some [Go.Av.AV.lit Go.Value.nilFunc] := by kernel_rfl
@[go_sem] theorem tyI_48 : tyI Try.prog 48 = some { agg := false, size := 1, bytes := 8 } := by kernel_rfl
@[go_sem] theorem kindT_48 : kindT Try.prog 48 = 9 := by kernel_rfl
@[go_sem] theorem hasT_48 : hasT Try.prog 48 = true := by kernel_rfl
@[go_sem] theorem zeroI_48 : zeroI Try.prog 48 = some [Go.Av.AV.lit Go.Value.nilFunc] := by kernel_rfl
@[go_sem] theorem tyI_49 : tyI Try.prog 49 = some { agg := false, size := 1, bytes := 8 } := by kernel_rfl
@[go_sem] theorem kindT_49 : kindT Try.prog 49 = 9 := by kernel_rfl
@[go_sem] theorem hasT_49 : hasT Try.prog 49 = true := by kernel_rfl
@[go_sem] theorem zeroI_49 : zeroI Try.prog 49 = some [Go.Av.AV.lit Go.Value.nilFunc] := by kernel_rfl
@[go_sem] theorem tyI_50 : tyI Try.prog 50 = some { agg := false, size := 1, bytes := 8 } := by kernel_rfl
@[go_sem] theorem kindT_50 : kindT Try.prog 50 = 9 := by kernel_rfl
@[go_sem] theorem hasT_50 : hasT Try.prog 50 = true := by kernel_rfl
@[go_sem] theorem zeroI_50 : zeroI Try.prog 50 = some [Go.Av.AV.lit Go.Value.nilFunc] := by kernel_rfl
@[go_sem] theorem tyI_51 : tyI Try.prog 51 = some { agg := false, size := 1, bytes := 8 } := by kernel_rfl
@[go_sem] theorem kindT_51 : kindT Try.prog 51 = 9 := by kernel_rfl
@[go_sem] theorem hasT_51 : hasT Try.prog 51 = true := by kernel_rfl
@[go_sem] theorem zeroI_51 : zeroI Try.prog 51 = some [Go.Av.AV.lit Go.Value.nilFunc] := by kernel_rfl
@[go_sem] theorem tyI_52 : tyI Try.prog 52 = some { agg := false, size := 1, bytes := 8 } := by kernel_rfl
@[go_sem] theorem kindT_52 : kindT Try.prog 52 = 9 := by kernel_rfl
@[go_sem] theorem hasT_52 : hasT Try.prog 52 = true := by kernel_rfl
@[go_sem] theorem zeroI_52 : zeroI Try.prog 52 = some [Go.Av.AV.lit Go.Value.nilFunc] := by kernel_rfl
@[go_sem] theorem tyI_53 : tyI Try.prog 53 = some { agg := false, size := 1, bytes := 8 } := by kernel_rfl
@[go_sem] theorem kindT_53 : kindT Try.prog 53 = 9 := by kernel_rfl
@[go_sem] theorem hasT_53 : hasT Try.prog 53 = true := by kernel_rfl
@[go_sem] theorem zeroI_53 : zeroI Try.prog 53 = some [Go.Av.AV.lit Go.Value.nilFunc] := by kernel_rfl
@[go_sem] theorem tyI_54 : tyI Try.prog 54 = some { agg := true, size := 4, bytes := 40 } := by kernel_rfl
@[go_sem] theorem kindT_54 : kindT Try.prog 54 = 6 := by kernel_rfl
@[go_sem] theorem hasT_54 : hasT Try.prog 54 = true := by kernel_rfl
@[go_sem] theorem zeroI_54 : zeroI Try.prog 54 = some [Go.Av.AV.lit (Go.Value.pointer none), Go.Av.AV.lit (Go.Value.pointer none), Go.Av.AV.lit (Go.Value.pointer none), Go.Av.AV.lit (Go.Value.string ⟨#[]⟩)] := by kernel_rfl
@[go_sem] theorem bldT_54 : bldT Try.prog 54 = true := by kernel_rfl
@[go_sem] theorem fld_54_0 : fldI Try.prog 54 0 = some (0, 1, false) := by kernel_rfl
@[go_sem] theorem fld_54_1 : fldI Try.prog 54 1 = some (1, 1, false) := by kernel_rfl
@[go_sem] theorem fld_54_2 : fldI Try.prog 54 2 = some (2, 1, false) := by kernel_rfl
@[go_sem] theorem fld_54_3 : fldI Try.prog 54 3 = some (3, 1, false) := by kernel_rfl
@[go_sem] theorem tyI_55 : tyI Try.prog 55 = some { agg := true, size := 4, bytes := 40 } := by kernel_rfl
@[go_sem] theorem kindT_55 : kindT Try.prog 55 = 6 := by kernel_rfl
@[go_sem] theorem hasT_55 : hasT Try.prog 55 = true := by kernel_rfl
@[go_sem] theorem zeroI_55 : zeroI Try.prog 55 = some [Go.Av.AV.lit (Go.Value.pointer none), Go.Av.AV.lit (Go.Value.pointer none), Go.Av.AV.lit (Go.Value.pointer none), Go.Av.AV.lit (Go.Value.string ⟨#[]⟩)] := by kernel_rfl
@[go_sem] theorem bldT_55 : bldT Try.prog 55 = true := by kernel_rfl
@[go_sem] theorem fld_55_0 : fldI Try.prog 55 0 = some (0, 1, false) := by kernel_rfl
@[go_sem] theorem fld_55_1 : fldI Try.prog 55 1 = some (1, 1, false) := by kernel_rfl
@[go_sem] theorem fld_55_2 : fldI Try.prog 55 2 = some (2, 1, false) := by kernel_rfl
@[go_sem] theorem fld_55_3 : fldI Try.prog 55 3 = some (3, 1, false) := by kernel_rfl
@[go_sem] theorem tyI_56 : tyI Try.prog 56 = some { agg := true, size := 0, bytes := 0 } := by kernel_rfl
@[go_sem] theorem kindT_56 : kindT Try.prog 56 = 7 := by kernel_rfl
@[go_sem] theorem hasT_56 : hasT Try.prog 56 = true := by kernel_rfl
@[go_sem] theorem zeroI_56 : zeroI Try.prog 56 = some [] := by kernel_rfl
@[go_sem] theorem tyI_57 : tyI Try.prog 57 = some { agg := true, size := 0, bytes := 0 } := by kernel_rfl
@[go_sem] theorem kindT_57 : kindT Try.prog 57 = 6 := by kernel_rfl
@[go_sem] theorem hasT_57 : hasT Try.prog 57 = true := by kernel_rfl
@[go_sem] theorem zeroI_57 : zeroI Try.prog 57 = some [] := by kernel_rfl
@[go_sem] theorem bldT_57 : bldT Try.prog 57 = true := by kernel_rfl
@[go_sem] theorem fld_57_0 : fldI Try.prog 57 0 = some (0, 0, true) := by kernel_rfl
@[go_sem] theorem tyI_58 : tyI Try.prog 58 = some { agg := true, size := 0, bytes := 0 } := by kernel_rfl
@[go_sem] theorem kindT_58 : kindT Try.prog 58 = 6 := by kernel_rfl
@[go_sem] theorem hasT_58 : hasT Try.prog 58 = true := by kernel_rfl
@[go_sem] theorem zeroI_58 : zeroI Try.prog 58 = some [] := by kernel_rfl
@[go_sem] theorem bldT_58 : bldT Try.prog 58 = true := by kernel_rfl
@[go_sem] theorem fld_58_0 : fldI Try.prog 58 0 = some (0, 0, true) := by kernel_rfl
@[go_sem] theorem tyI_59 : tyI Try.prog 59 = some { agg := false, size := 1, bytes := 4 } := by kernel_rfl
@[go_sem] theorem kindT_59 : kindT Try.prog 59 = 2 := by kernel_rfl
@[go_sem] theorem intT_59 : intT Try.prog 59 = some Go.IntKind.u32 := by kernel_rfl
@[go_sem] theorem hasT_59 : hasT Try.prog 59 = true := by kernel_rfl
@[go_sem] theorem zeroI_59 : zeroI Try.prog 59 = some [Go.Av.AV.lit (Go.Value.int Go.IntKind.u32 0)] := by kernel_rfl
@[go_sem] theorem tyI_60 : tyI Try.prog 60 = some { agg := false, size := 1, bytes := 1 } := by kernel_rfl
@[go_sem] theorem kindT_60 : kindT Try.prog 60 = 2 := by kernel_rfl
@[go_sem] theorem intT_60 : intT Try.prog 60 = some Go.IntKind.u8 := by kernel_rfl
@[go_sem] theorem hasT_60 : hasT Try.prog 60 = true := by kernel_rfl
@[go_sem] theorem zeroI_60 : zeroI Try.prog 60 = some [Go.Av.AV.lit (Go.Value.int Go.IntKind.u8 0)] := by kernel_rfl
@[go_sem] theorem tyI_61 : tyI Try.prog 61 = some { agg := false, size := 1, bytes := 1 } := by kernel_rfl
@[go_sem] theorem kindT_61 : kindT Try.prog 61 = 2 := by kernel_rfl
@[go_sem] theorem intT_61 : intT Try.prog 61 = some Go.IntKind.u8 := by kernel_rfl
@[go_sem] theorem hasT_61 : hasT Try.prog 61 = true := by kernel_rfl
@[go_sem] theorem zeroI_61 : zeroI Try.prog 61 = some [Go.Av.AV.lit (Go.Value.int Go.IntKind.u8 0)] := by kernel_rfl
@[go_sem] theorem tyI_62 : tyI Try.prog 62 = some { agg := false, size := 1, bytes := 8 } := by kernel_rfl
@[go_sem] theorem kindT_62 : kindT Try.prog 62 = 9 := by kernel_rfl
@[go_sem] theorem hasT_62 : hasT Try.prog 62 = true := by kernel_rfl
@[go_sem] theorem zeroI_62 : zeroI Try.prog 62 = some [Go.Av.AV.lit Go.Value.nilFunc] := by kernel_rfl
@[go_sem] theorem tyI_63 : tyI Try.prog 63 = some { agg := false, size := 1, bytes := 8 } := by kernel_rfl
@[go_sem] theorem kindT_63 : kindT Try.prog 63 = 4 := by kernel_rfl
@[go_sem] theorem hasT_63 : hasT Try.prog 63 = true := by kernel_rfl
@[go_sem] theorem zeroI_63 : zeroI Try.prog 63 = some [Go.Av.AV.lit (Go.Value.pointer none)] := by kernel_rfl
@[go_sem] theorem tyI_64 : tyI Try.prog 64 = some { agg := false, size := 1, bytes := 4 } := by kernel_rfl
@[go_sem] theorem kindT_64 : kindT Try.prog 64 = 2 := by kernel_rfl
@[go_sem] theorem intT_64 : intT Try.prog 64 = some Go.IntKind.i32 := by kernel_rfl
@[go_sem] theorem hasT_64 : hasT Try.prog 64 = true := by kernel_rfl
@[go_sem] theorem zeroI_64 : zeroI Try.prog 64 = some [Go.Av.AV.lit (Go.Value.int Go.IntKind.i32 0)] := by kernel_rfl
@[go_sem] theorem tyI_65 : tyI Try.prog 65 = some { agg := false, size := 1, bytes := 4 } := by kernel_rfl
@[go_sem] theorem kindT_65 : kindT Try.prog 65 = 2 := by kernel_rfl
@[go_sem] theorem intT_65 : intT Try.prog 65 = some Go.IntKind.i32 := by kernel_rfl
@[go_sem] theorem hasT_65 : hasT Try.prog 65 = true := by kernel_rfl
@[go_sem] theorem zeroI_65 : zeroI Try.prog 65 = some [Go.Av.AV.lit (Go.Value.int Go.IntKind.i32 0)] := by kernel_rfl
@[go_sem] theorem tyI_66 : tyI Try.prog 66 = some { agg := true, size := 11, bytes := 48 } := by kernel_rfl
@[go_sem] theorem kindT_66 : kindT Try.prog 66 = 6 := by kernel_rfl
@[go_sem] theorem hasT_66 : hasT Try.prog 66 = true := by kernel_rfl
@[go_sem] theorem zeroI_66 : zeroI Try.prog 66 = some [Go.Av.AV.lit (Go.Value.int Go.IntKind.u64 0), Go.Av.AV.lit (Go.Value.int Go.IntKind.u64 0), Go.Av.AV.lit (Go.Value.int Go.IntKind.u32 0), Go.Av.AV.lit (Go.Value.int Go.IntKind.u8 0), Go.Av.AV.lit (Go.Value.int Go.IntKind.u8 0), Go.Av.AV.lit (Go.Value.int Go.IntKind.u8 0), Go.Av.AV.lit (Go.Value.int Go.IntKind.u8 0), Go.Av.AV.lit Go.Value.nilFunc, Go.Av.AV.lit (Go.Value.pointer none), Go.Av.AV.lit (Go.Value.int Go.IntKind.i32 0), Go.Av.AV.lit (Go.Value.int Go.IntKind.i32 0)] := by kernel_rfl
@[go_sem] theorem bldT_66 : bldT Try.prog 66 = true := by kernel_rfl
@[go_sem] theorem fld_66_0 : fldI Try.prog 66 0 = some (0, 1, false) := by kernel_rfl
@[go_sem] theorem fld_66_1 : fldI Try.prog 66 1 = some (1, 1, false) := by kernel_rfl
@[go_sem] theorem fld_66_2 : fldI Try.prog 66 2 = some (2, 1, false) := by kernel_rfl
@[go_sem] theorem fld_66_3 : fldI Try.prog 66 3 = some (3, 1, false) := by kernel_rfl
@[go_sem] theorem fld_66_4 : fldI Try.prog 66 4 = some (4, 1, false) := by kernel_rfl
@[go_sem] theorem fld_66_5 : fldI Try.prog 66 5 = some (5, 1, false) := by kernel_rfl
@[go_sem] theorem fld_66_6 : fldI Try.prog 66 6 = some (6, 1, false) := by kernel_rfl
@[go_sem] theorem fld_66_7 : fldI Try.prog 66 7 = some (7, 1, false) := by kernel_rfl
@[go_sem] theorem tyI_67 : tyI Try.prog 67 = some { agg := true, size := 11, bytes := 48 } := by kernel_rfl
@[go_sem] theorem kindT_67 : kindT Try.prog 67 = 6 := by kernel_rfl
@[go_sem] theorem hasT_67 : hasT Try.prog 67 = true := by kernel_rfl
@[go_sem] theorem zeroI_67 : zeroI Try.prog 67 = some [Go.Av.AV.lit (Go.Value.int Go.IntKind.u64 0), Go.Av.AV.lit (Go.Value.int Go.IntKind.u64 0), Go.Av.AV.lit (Go.Value.int Go.IntKind.u32 0), Go.Av.AV.lit (Go.Value.int Go.IntKind.u8 0), Go.Av.AV.lit (Go.Value.int Go.IntKind.u8 0), Go.Av.AV.lit (Go.Value.int Go.IntKind.u8 0), Go.Av.AV.lit (Go.Value.int Go.IntKind.u8 0), Go.Av.AV.lit Go.Value.nilFunc, Go.Av.AV.lit (Go.Value.pointer none), Go.Av.AV.lit (Go.Value.int Go.IntKind.i32 0), Go.Av.AV.lit (Go.Value.int Go.IntKind.i32 0)] := by kernel_rfl
@[go_sem] theorem bldT_67 : bldT Try.prog 67 = true := by kernel_rfl
@[go_sem] theorem fld_67_0 : fldI Try.prog 67 0 = some (0, 1, false) := by kernel_rfl
@[go_sem] theorem fld_67_1 : fldI Try.prog 67 1 = some (1, 1, false) := by kernel_rfl
@[go_sem] theorem fld_67_2 : fldI Try.prog 67 2 = some (2, 1, false) := by kernel_rfl
@[go_sem] theorem fld_67_3 : fldI Try.prog 67 3 = some (3, 1, false) := by kernel_rfl
@[go_sem] theorem fld_67_4 : fldI Try.prog 67 4 = some (4, 1, false) := by kernel_rfl
@[go_sem] theorem fld_67_5 : fldI Try.prog 67 5 = some (5, 1, false) := by kernel_rfl
@[go_sem] theorem fld_67_6 : fldI Try.prog 67 6 = some (6, 1, false) := by kernel_rfl
@[go_sem] theorem fld_67_7 : fldI Try.prog 67 7 = some (7, 1, false) := by kernel_rfl
@[go_sem] theorem tyI_68 : tyI Try.prog 68 = some { agg := false, size := 1, bytes := 8 } := by kernel_rfl
@[go_sem] theorem kindT_68 : kindT Try.prog 68 = 0 := by kernel_rfl
@[go_sem] theorem hasT_68 : hasT Try.prog 68 = true := by kernel_rfl
@[go_sem] theorem zeroI_68 : zeroI Try.prog 68 = some [Go.Av.AV.lit (Go.Value.pointer none)] := by kernel_rfl
@[go_sem] theorem callable_2 : callable Try.prog 2 = true := by kernel_rfl
@[go_sem] theorem callable_3 : callable Try.prog 3 = true := by kernel_rfl
@[go_sem] theorem callable_4 : callable Try.prog 4 = true := by kernel_rfl
@[go_sem] theorem callable_5 : callable Try.prog 5 = true := by kernel_rfl
@[go_sem] theorem callable_6 : callable Try.prog 6 = true := by kernel_rfl
@[go_sem] theorem callable_7 : callable Try.prog 7 = true := by kernel_rfl
@[go_sem] theorem callable_8 : callable Try.prog 8 = true := by kernel_rfl
@[go_sem] theorem callable_9 : callable Try.prog 9 = true := by kernel_rfl
@[go_sem] theorem callable_10 : callable Try.prog 10 = true := by kernel_rfl
@[go_sem] theorem callable_11 : callable Try.prog 11 = true := by kernel_rfl
@[go_sem] theorem callable_12 : callable Try.prog 12 = true := by kernel_rfl
@[go_sem] theorem callable_13 : callable Try.prog 13 = true := by kernel_rfl
@[go_sem] theorem callable_14 : callable Try.prog 14 = true := by kernel_rfl
@[go_sem] theorem callable_15 : callable Try.prog 15 = true := by kernel_rfl
@[go_sem] theorem callable_16 : callable Try.prog 16 = true := by kernel_rfl
@[go_sem] theorem callable_17 : callable Try.prog 17 = true := by kernel_rfl
@[go_sem] theorem callable_18 : callable Try.prog 18 = true := by kernel_rfl
@[go_sem] theorem callable_19 : callable Try.prog 19 = true := by kernel_rfl
@[go_sem] theorem callable_20 : callable Try.prog 20 = true := by kernel_rfl
@[go_sem] theorem callable_21 : callable Try.prog 21 = true := by kernel_rfl
@[go_sem] theorem callable_22 : callable Try.prog 22 = true := by kernel_rfl
@[go_sem] theorem callable_23 : callable Try.prog 23 = true := by kernel_rfl
@[go_sem] theorem callable_24 : callable Try.prog 24 = true := by kernel_rfl
@[go_sem] theorem callable_25 : callable Try.prog 25 = true := by kernel_rfl
@[go_sem] theorem callable_26 : callable Try.prog 26 = true := by kernel_rfl
@[go_sem] theorem callable_27 : callable Try.prog 27 = true := by kernel_rfl
@[go_sem] theorem callable_28 : callable Try.prog 28 = true := by kernel_rfl
@[go_sem] theorem callable_29 : callable Try.prog 29 = true := by kernel_rfl
@[go_sem] theorem callable_30 : callable Try.prog 30 = true := by kernel_rfl
@[go_sem] theorem callable_31 : callable Try.prog 31 = true := by kernel_rfl
@[go_sem] theorem callable_32 : callable Try.prog 32 = true := by kernel_rfl
@[go_sem] theorem callable_33 : callable Try.prog 33 = true := by kernel_rfl
@[go_sem] theorem callable_34 : callable Try.prog 34 = true := by kernel_rfl
@[go_sem] theorem callable_35 : callable Try.prog 35 = true := by kernel_rfl
@[go_sem] theorem callable_36 : callable Try.prog 36 = true := by kernel_rfl
@[go_sem] theorem callable_37 : callable Try.prog 37 = true := by kernel_rfl
@[go_sem] theorem callable_38 : callable Try.prog 38 = true := by kernel_rfl
@[go_sem] theorem callable_39 : callable Try.prog 39 = true := by kernel_rfl
@[go_sem] theorem callable_40 : callable Try.prog 40 = true := by kernel_rfl
@[go_sem] theorem callable_41 : callable Try.prog 41 = true := by kernel_rfl
@[go_sem] theorem callable_42 : callable Try.prog 42 = true := by kernel_rfl
theorem mixed : Try.prog.follows .mixedOrders = true := by kernel_rfl
end Go.Proofs.Ytmnjmeebadpgjab.Ty
