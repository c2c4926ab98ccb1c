import Derived.Test.YtjinngfpbmkhaaaDoorProg
import Derived.Test.YtjinngfpbmkhaaaDoorAvZ
import Derived.KernelRfl
/- Facts of the type table, for the evaluator. -/
namespace Go.Proofs.YtjinngfpbmkhaaaDoor.Ty
open Go Go.Av
@[go_sem] theorem tyI_0 : tyI Tryd.prog 0 = some { agg := false, size := 1, bytes := 0 } := by kernel_rfl
@[go_sem] theorem kindT_0 : kindT Tryd.prog 0 = 0 := by kernel_rfl
@[go_sem] theorem hasT_0 : hasT Tryd.prog 0 = true := by kernel_rfl
@[go_sem] theorem tyI_1 : tyI Tryd.prog 1 = some { agg := false, size := 1, bytes := 8 } := by kernel_rfl
@[go_sem] theorem kindT_1 : kindT Tryd.prog 1 = 9 := by kernel_rfl
@[go_sem] theorem hasT_1 : hasT Tryd.prog 1 = true := by kernel_rfl
@[go_sem] theorem zeroI_1 : zeroI Tryd.prog 1 = some [Go.Av.AV.lit Go.Value.nilFunc] := by kernel_rfl
@[go_sem] theorem tyI_2 : tyI Tryd.prog 2 = some { agg := false, size := 1, bytes := 8 } := by kernel_rfl
@[go_sem] theorem kindT_2 : kindT Tryd.prog 2 = 2 := by kernel_rfl
@[go_sem] theorem intT_2 : intT Tryd.prog 2 = some Go.IntKind.i64 := by kernel_rfl
@[go_sem] theorem hasT_2 : hasT Tryd.prog 2 = true := by kernel_rfl
@[go_sem] theorem zeroI_2 : zeroI Tryd.prog 2 = some [Go.Av.AV.lit (Go.Value.int Go.IntKind.i64 0)] := by kernel_rfl
@[go_sem] theorem tyI_3 : tyI Tryd.prog 3 = some { agg := false, size := 1, bytes := 8 } := by kernel_rfl
@[go_sem] theorem kindT_3 : kindT Tryd.prog 3 = 2 := by kernel_rfl
@[go_sem] theorem intT_3 : intT Tryd.prog 3 = some Go.IntKind.i64 := by kernel_rfl
@[go_sem] theorem hasT_3 : hasT Tryd.prog 3 = true := by kernel_rfl
@[go_sem] theorem zeroI_3 : zeroI Tryd.prog 3 = some [Go.Av.AV.lit (Go.Value.int Go.IntKind.i64 0)] := by kernel_rfl
@[go_sem] theorem tyI_4 : tyI Tryd.prog 4 = some { agg := false, size := 1, bytes := 1 } := by kernel_rfl
@[go_sem] theorem kindT_4 : kindT Tryd.prog 4 = 1 := by kernel_rfl
@[go_sem] theorem hasT_4 : hasT Tryd.prog 4 = true := by kernel_rfl
@[go_sem] theorem zeroI_4 : zeroI Tryd.prog 4 = some [Go.Av.AV.lit (Go.Value.bool false)] := by kernel_rfl
@[go_sem] theorem tyI_5 : tyI Tryd.prog 5 = some { agg := false, size := 1, bytes := 1 } := by kernel_rfl
@[go_sem] theorem kindT_5 : kindT Tryd.prog 5 = 2 := by kernel_rfl
@[go_sem] theorem intT_5 : intT Tryd.prog 5 = some Go.IntKind.u8 := by kernel_rfl
@[go_sem] theorem hasT_5 : hasT Tryd.prog 5 = true := by kernel_rfl
@[go_sem] theorem zeroI_5 : zeroI Tryd.prog 5 = some [Go.Av.AV.lit (Go.Value.int Go.IntKind.u8 0)] := by kernel_rfl
@[go_sem] theorem tyI_6 : tyI Tryd.prog 6 = some { agg := false, size := 1, bytes := 1 } := by kernel_rfl
@[go_sem] theorem kindT_6 : kindT Tryd.prog 6 = 2 := by kernel_rfl
@[go_sem] theorem intT_6 : intT Tryd.prog 6 = some Go.IntKind.u8 := by kernel_rfl
@[go_sem] theorem hasT_6 : hasT Tryd.prog 6 = true := by kernel_rfl
@[go_sem] theorem zeroI_6 : zeroI Tryd.prog 6 = some [Go.Av.AV.lit (Go.Value.int Go.IntKind.u8 0)] := by kernel_rfl
@[go_sem] theorem tyI_7 : tyI Tryd.prog 7 = some { agg := true, size := 4, bytes := 24 } := by kernel_rfl
@[go_sem] theorem kindT_7 : kindT Tryd.prog 7 = 6 := by kernel_rfl
@[go_sem] theorem hasT_7 : hasT Tryd.prog 7 = true := by kernel_rfl
@[go_sem] theorem zeroI_7 : zeroI Tryd.prog 7 = some [Go.Av.AV.lit (Go.Value.int Go.IntKind.i64 0), Go.Av.AV.lit (Go.Value.int Go.IntKind.i64 0), Go.Av.AV.lit (Go.Value.bool false), Go.Av.AV.lit (Go.Value.int Go.IntKind.u8 0)] := by kernel_rfl
@[go_sem] theorem bldT_7 : bldT Tryd.prog 7 = true := by kernel_rfl
@[go_sem] theorem eqT_7 : eqT Tryd.prog 7 = some [(0, 2), (1, 2), (2, 1), (3, 2)] := by kernel_rfl
@[go_sem] theorem fld_7_0 : fldI Tryd.prog 7 0 = some (0, 1, false) := by kernel_rfl
@[go_sem] theorem fld_7_1 : fldI Tryd.prog 7 1 = some (1, 1, false) := by kernel_rfl
@[go_sem] theorem fld_7_2 : fldI Tryd.prog 7 2 = some (2, 1, false) := by kernel_rfl
@[go_sem] theorem fld_7_3 : fldI Tryd.prog 7 3 = some (3, 1, false) := by kernel_rfl
@[go_sem] theorem tyI_8 : tyI Tryd.prog 8 = some { agg := true, size := 4, bytes := 24 } := by kernel_rfl
@[go_sem] theorem kindT_8 : kindT Tryd.prog 8 = 6 := by kernel_rfl
@[go_sem] theorem hasT_8 : hasT Tryd.prog 8 = true := by kernel_rfl
@[go_sem] theorem zeroI_8 : zeroI Tryd.prog 8 = some [Go.Av.AV.lit (Go.Value.int Go.IntKind.i64 0), Go.Av.AV.lit (Go.Value.int Go.IntKind.i64 0), Go.Av.AV.lit (Go.Value.bool false), Go.Av.AV.lit (Go.Value.int Go.IntKind.u8 0)] := by kernel_rfl
@[go_sem] theorem bldT_8 : bldT Tryd.prog 8 = true := by kernel_rfl
@[go_sem] theorem eqT_8 : eqT Tryd.prog 8 = some [(0, 2), (1, 2), (2, 1), (3, 2)] := by kernel_rfl
@[go_sem] theorem fld_8_0 : fldI Tryd.prog 8 0 = some (0, 1, false) := by kernel_rfl
@[go_sem] theorem fld_8_1 : fldI Tryd.prog 8 1 = some (1, 1, false) := by kernel_rfl
@[go_sem] theorem fld_8_2 : fldI Tryd.prog 8 2 = some (2, 1, false) := by kernel_rfl
@[go_sem] theorem fld_8_3 : fldI Tryd.prog 8 3 = some (3, 1, false) := by kernel_rfl
@[go_sem] theorem tyI_9 : tyI Tryd.prog 9 = some { agg := false, size := 1, bytes := 16 } := by kernel_rfl
@[go_sem] theorem kindT_9 : kindT Tryd.prog 9 = 3 := by kernel_rfl
@[go_sem] theorem hasT_9 : hasT Tryd.prog 9 = true := by kernel_rfl
@[go_sem] theorem zeroI_9 : zeroI Tryd.prog 9 = some [Go.Av.AV.lit (Go.Value.string ⟨#[]⟩)] := by kernel_rfl
@[go_sem] theorem tyI_10 : tyI Tryd.prog 10 = some { agg := false, size := 1, bytes := 16 } := by kernel_rfl
@[go_sem] theorem kindT_10 : kindT Tryd.prog 10 = 3 := by kernel_rfl
@[go_sem] theorem hasT_10 : hasT Tryd.prog 10 = true := by kernel_rfl
@[go_sem] theorem zeroI_10 : zeroI Tryd.prog 10 = some [Go.Av.AV.lit (Go.Value.string ⟨#[]⟩)] := by kernel_rfl
@[go_sem] theorem tyI_11 : tyI Tryd.prog 11 = some { agg := false, size := 1, bytes := 16 } := by kernel_rfl
@[go_sem] theorem kindT_11 : kindT Tryd.prog 11 = 3 := by kernel_rfl
@[go_sem] theorem hasT_11 : hasT Tryd.prog 11 = true := by kernel_rfl
@[go_sem] theorem zeroI_11 : zeroI Tryd.prog 11 = some [Go.Av.AV.lit (Go.Value.string ⟨#[]⟩)] := by kernel_rfl
@[go_sem] theorem tyI_12 : tyI Tryd.prog 12 = some { agg := false, size := 1, bytes := 8 } := by kernel_rfl
@[go_sem] theorem kindT_12 : kindT Tryd.prog 12 = 2 := by kernel_rfl
@[go_sem] theorem intT_12 : intT Tryd.prog 12 = some Go.IntKind.u64 := by kernel_rfl
@[go_sem] theorem hasT_12 : hasT Tryd.prog 12 = true := by kernel_rfl
@[go_sem] theorem zeroI_12 : zeroI Tryd.prog 12 = some [Go.Av.AV.lit (Go.Value.int Go.IntKind.u64 0)] := by kernel_rfl
@[go_sem] theorem tyI_13 : tyI Tryd.prog 13 = some { agg := true, size := 2, bytes := 24 } := by kernel_rfl
@[go_sem] theorem kindT_13 : kindT Tryd.prog 13 = 6 := by kernel_rfl
@[go_sem] theorem hasT_13 : hasT Tryd.prog 13 = true := by kernel_rfl
@[go_sem] theorem zeroI_13 : zeroI Tryd.prog 13 = some [Go.Av.AV.lit (Go.Value.string ⟨#[]⟩), Go.Av.AV.lit (Go.Value.int Go.IntKind.u64 0)] := by kernel_rfl
@[go_sem] theorem bldT_13 : bldT Tryd.prog 13 = true := by kernel_rfl
@[go_sem] theorem fld_13_0 : fldI Tryd.prog 13 0 = some (0, 1, false) := by kernel_rfl
@[go_sem] theorem fld_13_1 : fldI Tryd.prog 13 1 = some (1, 1, false) := by kernel_rfl
@[go_sem] theorem tyI_14 : tyI Tryd.prog 14 = some { agg := true, size := 2, bytes := 24 } := by kernel_rfl
@[go_sem] theorem kindT_14 : kindT Tryd.prog 14 = 6 := by kernel_rfl
@[go_sem] theorem hasT_14 : hasT Tryd.prog 14 = true := by kernel_rfl
@[go_sem] theorem zeroI_14 : zeroI Tryd.prog 14 = some [Go.Av.AV.lit (Go.Value.string ⟨#[]⟩), Go.Av.AV.lit (Go.Value.int Go.IntKind.u64 0)] := by kernel_rfl
@[go_sem] theorem bldT_14 : bldT Tryd.prog 14 = true := by kernel_rfl
@[go_sem] theorem fld_14_0 : fldI Tryd.prog 14 0 = some (0, 1, false) := by kernel_rfl
@[go_sem] theorem fld_14_1 : fldI Tryd.prog 14 1 = some (1, 1, false) := by kernel_rfl
@[go_sem] theorem tyI_15 : tyI Tryd.prog 15 = some { agg := false, size := 1, bytes := 8 } := by kernel_rfl
@[go_sem] theorem kindT_15 : kindT Tryd.prog 15 = 4 := by kernel_rfl
@[go_sem] theorem hasT_15 : hasT Tryd.prog 15 = true := by kernel_rfl
@[go_sem] theorem zeroI_15 : zeroI Tryd.prog 15 = some [Go.Av.AV.lit (Go.Value.pointer none)] := by kernel_rfl
@[go_sem] theorem tyI_16 : tyI Tryd.prog 16 = some { agg := false, size := 1, bytes := 8 } := by kernel_rfl
@[go_sem] theorem kindT_16 : kindT Tryd.prog 16 = 4 := by kernel_rfl
@[go_sem] theorem hasT_16 : hasT Tryd.prog 16 = true := by kernel_rfl
@[go_sem] theorem zeroI_16 : zeroI Tryd.prog 16 = some [Go.Av.AV.lit (Go.Value.pointer none)] := by kernel_rfl
@[go_sem] theorem tyI_17 : tyI Tryd.prog 17 = some { agg := false, size := 1, bytes := 8 } := by kernel_rfl
@[go_sem] theorem kindT_17 : kindT Tryd.prog 17 = 4 := by kernel_rfl
@[go_sem] theorem hasT_17 : hasT Tryd.prog 17 = true := by kernel_rfl
@[go_sem] theorem zeroI_17 : zeroI Tryd.prog 17 = some [Go.Av.AV.lit (Go.Value.pointer none)] := by kernel_rfl
@[go_sem] theorem tyI_18 : tyI Tryd.prog 18 = some { agg := true, size := 1, bytes := 8 } := by kernel_rfl
@[go_sem] theorem kindT_18 : kindT Tryd.prog 18 = 6 := by kernel_rfl
@[go_sem] theorem hasT_18 : hasT Tryd.prog 18 = true := by kernel_rfl
@[go_sem] theorem zeroI_18 : zeroI Tryd.prog 18 = some [Go.Av.AV.lit (Go.Value.pointer none)] := by kernel_rfl
@[go_sem] theorem bldT_18 : bldT Tryd.prog 18 = true := by kernel_rfl
@[go_sem] theorem fld_18_0 : fldI Tryd.prog 18 0 = some (0, 1, false) := by kernel_rfl
@[go_sem] theorem tyI_19 : tyI Tryd.prog 19 = some { agg := true, size := 1, bytes := 8 } := by kernel_rfl
@[go_sem] theorem kindT_19 : kindT Tryd.prog 19 = 6 := by kernel_rfl
@[go_sem] theorem hasT_19 : hasT Tryd.prog 19 = true := by kernel_rfl
@[go_sem] theorem zeroI_19 : zeroI Tryd.prog 19 = some [Go.Av.AV.lit (Go.Value.pointer none)] := by kernel_rfl
@[go_sem] theorem bldT_19 : bldT Tryd.prog 19 = true := by kernel_rfl
@[go_sem] theorem fld_19_0 : fldI Tryd.prog 19 0 = some (0, 1, false) := by kernel_rfl
@[go_sem] theorem tyI_20 : tyI Tryd.prog 20 = some { agg := false, size := 1, bytes := 16 } := by kernel_rfl
@[go_sem] theorem kindT_20 : kindT Tryd.prog 20 = 0 := by kernel_rfl
@[go_sem] theorem hasT_20 : hasT Tryd.prog 20 = true := by kernel_rfl
@[go_sem] theorem zeroI_20 : zeroI Tryd.prog 20 = some [Go.Av.AV.lit Go.Value.nilIface] := by kernel_rfl
@[go_sem] theorem tyI_21 : tyI Tryd.prog 21 = some { agg := false, size := 1, bytes := 4 } := by kernel_rfl
@[go_sem] theorem kindT_21 : kindT Tryd.prog 21 = 2 := by kernel_rfl
@[go_sem] theorem intT_21 : intT Tryd.prog 21 = some Go.IntKind.i32 := by kernel_rfl
@[go_sem] theorem hasT_21 : hasT Tryd.prog 21 = true := by kernel_rfl
@[go_sem] theorem zeroI_21 : zeroI Tryd.prog 21 = some [Go.Av.AV.lit (Go.Value.int Go.IntKind.i32 0)] := by kernel_rfl
@[go_sem] theorem tyI_22 : tyI Tryd.prog 22 = some { agg := false, size := 1, bytes := 8 } := by kernel_rfl
@[go_sem] theorem kindT_22 : kindT Tryd.prog 22 = 9 := by kernel_rfl
@[go_sem] theorem hasT_22 : hasT Tryd.prog 22 = true := by kernel_rfl
@[go_sem] theorem zeroI_22 : zeroI Tryd.prog 22 = some [Go.Av.AV.lit Go.Value.nilFunc] := by kernel_rfl
@[go_sem] theorem tyI_23 : tyI Tryd.prog 23 = some { agg := false, size := 1, bytes := 24 } := by kernel_rfl
@[go_sem] theorem slT_23 : slT Tryd.prog 23 = some 31 := by kernel_rfl
@[go_sem] theorem kindT_23 : kindT Tryd.prog 23 = 5 := by kernel_rfl
@[go_sem] theorem hasT_23 : hasT Tryd.prog 23 = true := by kernel_rfl
@[go_sem] theorem zeroI_23 : zeroI Tryd.prog 23 = some [Go.Av.AV.isl (some true) [] Go.Av.Tk.full] := by kernel_rfl
@[go_sem] theorem tyI_24 : tyI Tryd.prog 24 = some { agg := false, size := 1, bytes := 8 } := by kernel_rfl
@[go_sem] theorem kindT_24 : kindT Tryd.prog 24 = 2 := by kernel_rfl
@[go_sem] theorem intT_24 : intT Tryd.prog 24 = some Go.IntKind.i64 := by kernel_rfl
@[go_sem] theorem hasT_24 : hasT Tryd.prog 24 = true := by kernel_rfl
@[go_sem] theorem zeroI_24 : zeroI Tryd.prog 24 = some [Go.Av.AV.lit (Go.Value.int Go.IntKind.i64 0)] := by kernel_rfl
@[go_sem] theorem tyI_25 : tyI Tryd.prog 25 = some { agg := false, size := 1, bytes := 0 } := by kernel_rfl
@[go_sem] theorem kindT_25 : kindT Tryd.prog 25 = 0 := by kernel_rfl
@[go_sem] theorem hasT_25 : hasT Tryd.prog 25 = true := by kernel_rfl
@[go_sem] theorem tyI_26 : tyI Tryd.prog 26 = some { agg := false, size := 1, bytes := 8 } := by kernel_rfl
@[go_sem] theorem kindT_26 : kindT Tryd.prog 26 = 9 := by kernel_rfl
@[go_sem] theorem hasT_26 : hasT Tryd.prog 26 = true := by kernel_rfl
@[go_sem] theorem zeroI_26 : zeroI Tryd.prog 26 = some [Go.Av.AV.lit Go.Value.nilFunc] := by kernel_rfl
@[go_sem] theorem tyI_27 : tyI Tryd.prog 27 = some { agg := false, size := 1, bytes := 8 } := by kernel_rfl
@[go_sem] theorem kindT_27 : kindT Tryd.prog 27 = 9 := by kernel_rfl
@[go_sem] theorem hasT_27 : hasT Tryd.prog 27 = true := by kernel_rfl
@[go_sem] theorem zeroI_27 : zeroI Tryd.prog 27 = some [Go.Av.AV.lit Go.Value.nilFunc] := by kernel_rfl
@[go_sem] theorem tyI_28 : tyI Tryd.prog 28 = some { agg := true, size := 3, bytes := 32 } := by kernel_rfl
@[go_sem] theorem kindT_28 : kindT Tryd.prog 28 = 6 := by kernel_rfl
@[go_sem] theorem hasT_28 : hasT Tryd.prog 28 = true := by kernel_rfl
@[go_sem] theorem zeroI_28 : zeroI Tryd.prog 28 = some [Go.Av.AV.lit (Go.Value.int Go.IntKind.i64 0), Go.Av.AV.lit (Go.Value.int Go.IntKind.i64 0), Go.Av.AV.lit (Go.Value.string ⟨#[]⟩)] := by kernel_rfl
@[go_sem] theorem bldT_28 : bldT Tryd.prog 28 = true := by kernel_rfl
@[go_sem] theorem eqT_28 : eqT Tryd.prog 28 = some [(0, 2), (1, 2), (2, 3)] := by kernel_rfl
@[go_sem] theorem fld_28_0 : fldI Tryd.prog 28 0 = some (0, 1, false) := by kernel_rfl
@[go_sem] theorem fld_28_1 : fldI Tryd.prog 28 1 = some (1, 1, false) := by kernel_rfl
@[go_sem] theorem fld_28_2 : fldI Tryd.prog 28 2 = some (2, 1, false) := by kernel_rfl
@[go_sem] theorem tyI_29 : tyI Tryd.prog 29 = some { agg := true, size := 3, bytes := 32 } := by kernel_rfl
@[go_sem] theorem kindT_29 : kindT Tryd.prog 29 = 6 := by kernel_rfl
@[go_sem] theorem hasT_29 : hasT Tryd.prog 29 = true := by kernel_rfl
@[go_sem] theorem zeroI_29 : zeroI Tryd.prog 29 = some [Go.Av.AV.lit (Go.Value.int Go.IntKind.i64 0), Go.Av.AV.lit (Go.Value.int Go.IntKind.i64 0), Go.Av.AV.lit (Go.Value.string ⟨#[]⟩)] := by kernel_rfl
@[go_sem] theorem bldT_29 : bldT Tryd.prog 29 = true := by kernel_rfl
@[go_sem] theorem eqT_29 : eqT Tryd.prog 29 = some [(0, 2), (1, 2), (2, 3)] := by kernel_rfl
@[go_sem] theorem fld_29_0 : fldI Tryd.prog 29 0 = some (0, 1, false) := by kernel_rfl
@[go_sem] theorem fld_29_1 : fldI Tryd.prog 29 1 = some (1, 1, false) := by kernel_rfl
@[go_sem] theorem fld_29_2 : fldI Tryd.prog 29 2 = some (2, 1, false) := by kernel_rfl
@[go_sem] theorem tyI_30 : tyI Tryd.prog 30 = some { agg := true, size := 6, bytes := 64 } := by kernel_rfl
@[go_sem] theorem kindT_30 : kindT Tryd.prog 30 = 6 := by kernel_rfl
@[go_sem] theorem hasT_30 : hasT Tryd.prog 30 = true := by kernel_rfl
@[go_sem] theorem zeroI_30 : zeroI Tryd.prog 30 = some [Go.Av.AV.lit (Go.Value.int Go.IntKind.i64 0), Go.Av.AV.lit (Go.Value.string ⟨#[]⟩), Go.Av.AV.lit (Go.Value.int Go.IntKind.i64 0), Go.Av.AV.lit (Go.Value.int Go.IntKind.i64 0), Go.Av.AV.lit (Go.Value.string ⟨#[]⟩), Go.Av.AV.lit (Go.Value.int Go.IntKind.i64 0)] := by kernel_rfl
@[go_sem] theorem bldT_30 : bldT Tryd.prog 30 = true := by kernel_rfl
@[go_sem] theorem fld_30_0 : fldI Tryd.prog 30 0 = some (0, 1, false) := by kernel_rfl
@[go_sem] theorem fld_30_1 : fldI Tryd.prog 30 1 = some (1, 1, false) := by kernel_rfl
@[go_sem] theorem fld_30_2 : fldI Tryd.prog 30 2 = some (2, 3, true) := by kernel_rfl
@[go_sem] theorem fld_30_3 : fldI Tryd.prog 30 3 = some (5, 1, false) := by kernel_rfl
@[go_sem] theorem tyI_31 : tyI Tryd.prog 31 = some { agg := true, size := 6, bytes := 64 } := by kernel_rfl
@[go_sem] theorem kindT_31 : kindT Tryd.prog 31 = 6 := by kernel_rfl
@[go_sem] theorem hasT_31 : hasT Tryd.prog 31 = true := by kernel_rfl
@[go_sem] theorem zeroI_31 : zeroI Tryd.prog 31 = some [Go.Av.AV.lit (Go.Value.int Go.IntKind.i64 0), Go.Av.AV.lit (Go.Value.string ⟨#[]⟩), Go.Av.AV.lit (Go.Value.int Go.IntKind.i64 0), Go.Av.AV.lit (Go.Value.int Go.IntKind.i64 0), Go.Av.AV.lit (Go.Value.string ⟨#[]⟩), Go.Av.AV.lit (Go.Value.int Go.IntKind.i64 0)] := by kernel_rfl
@[go_sem] theorem bldT_31 : bldT Tryd.prog 31 = true := by kernel_rfl
@[go_sem] theorem fld_31_0 : fldI Tryd.prog 31 0 = some (0, 1, false) := by kernel_rfl
@[go_sem] theorem fld_31_1 : fldI Tryd.prog 31 1 = some (1, 1, false) := by kernel_rfl
@[go_sem] theorem fld_31_2 : fldI Tryd.prog 31 2 = some (2, 3, true) := by kernel_rfl
@[go_sem] theorem fld_31_3 : fldI Tryd.prog 31 3 = some (5, 1, false) := by kernel_rfl
@[go_sem] theorem tyI_32 : tyI Tryd.prog 32 = some { agg := false, size := 1, bytes := 8 } := by kernel_rfl
@[go_sem] theorem kindT_32 : kindT Tryd.prog 32 = 9 := by kernel_rfl
@[go_sem] theorem hasT_32 : hasT Tryd.prog 32 = true := by kernel_rfl
@[go_sem] theorem zeroI_32 : zeroI Tryd.prog 32 = some [Go.Av.AV.lit Go.Value.nilFunc] := by kernel_rfl
@[go_sem] theorem tyI_33 : tyI Tryd.prog 33 = some { agg := false, size := 1, bytes := 8 } := by kernel_rfl
@[go_sem] theorem kindT_33 : kindT Tryd.prog 33 = 9 := by kernel_rfl
@[go_sem] theorem hasT_33 : hasT Tryd.prog 33 = true := by kernel_rfl
@[go_sem] theorem zeroI_33 : zeroI Tryd.prog 33 = some [Go.Av.AV.lit Go.Value.nilFunc] := by kernel_rfl
@[go_sem] theorem tyI_34 : tyI Tryd.prog 34 = some { agg := false, size := 1, bytes := 24 } := by kernel_rfl
@[go_sem] theorem slT_34 : slT Tryd.prog 34 = some 5 := by kernel_rfl
@[go_sem] theorem kindT_34 : kindT Tryd.prog 34 = 5 := by kernel_rfl
@[go_sem] theorem hasT_34 : hasT Tryd.prog 34 = true := by kernel_rfl
@[go_sem] theorem zeroI_34 : zeroI Tryd.prog 34 = some [Go.Av.AV.isl (some true) [] Go.Av.Tk.full] := by kernel_rfl
@[go_sem] theorem tyI_35 : tyI Tryd.prog 35 = some { agg := false, size := 1, bytes := 8 } := by kernel_rfl
@[go_sem] theorem kindT_35 : kindT Tryd.prog 35 = 9 := by kernel_rfl
@[go_sem] theorem hasT_35 : hasT Tryd.prog 35 = true := by kernel_rfl
@[go_sem] theorem zeroI_35 : zeroI Tryd.prog 35 = some [Go.Av.AV.lit Go.Value.nilFunc] := by kernel_rfl
@[go_sem] theorem tyI_36 : tyI Tryd.prog 36 = some { agg := false, size := 1, bytes := 8 } := by kernel_rfl
@[go_sem] theorem kindT_36 : kindT Tryd.prog 36 = 9 := by kernel_rfl
@[go_sem] theorem hasT_36 : hasT Tryd.prog 36 = true := by kernel_rfl
@[go_sem] theorem zeroI_36 : zeroI Tryd.prog 36 = some [Go.Av.AV.lit Go.Value.nilFunc] := by kernel_rfl
@[go_sem] theorem tyI_37 : tyI Tryd.prog 37 = some { agg := false, size := 1, bytes := 8 } := by kernel_rfl
@[go_sem] theorem kindT_37 : kindT Tryd.prog 37 = 9 := by kernel_rfl
@[go_sem] theorem hasT_37 : hasT Tryd.prog 37 = true := by kernel_rfl
@[go_sem] theorem zeroI_37 : zeroI Tryd.prog 37 = some [Go.Av.AV.lit Go.Value.nilFunc] := by kernel_rfl
@[go_sem] theorem tyI_38 : tyI Tryd.prog 38 = some { agg := false, size := 1, bytes := 24 } := by kernel_rfl
@[go_sem] theorem slT_38 : slT Tryd.prog 38 = some 9 := by kernel_rfl
@[go_sem] theorem kindT_38 : kindT Tryd.prog 38 = 5 := by kernel_rfl
@[go_sem] theorem hasT_38 : hasT Tryd.prog 38 = true := by kernel_rfl
@[go_sem] theorem zeroI_38 : zeroI Tryd.prog 38 = some [Go.Av.AV.isl (some true) [] Go.Av.Tk.full] := by kernel_rfl
@[go_sem] theorem tyI_39 : tyI Tryd.prog 39 = some { agg := false, size := 1, bytes := 8 } := by kernel_rfl
@[go_sem] theorem kindT_39 : kindT Tryd.prog 39 = 9 := by kernel_rfl
@[go_sem] theorem hasT_39 : hasT Tryd.prog 39 = true := by kernel_rfl
@[go_sem] theorem zeroI_39 : zeroI Tryd.prog 39 = some [Go.Av.AV.lit Go.Value.nilFunc] := by kernel_rfl
@[go_sem] theorem tyI_40 : tyI Tryd.prog 40 = some { agg := false, size := 1, bytes := 8 } := by kernel_rfl
@[go_sem] theorem kindT_40 : kindT Tryd.prog 40 = 9 := by kernel_rfl
@[go_sem] theorem hasT_40 : hasT Tryd.prog 40 = true := by kernel_rfl
@[go_sem] theorem zeroI_40 : zeroI Tryd.prog 40 = some [Go.Av.AV.lit Go.Value.nilFunc] := by kernel_rfl
@[go_sem] theorem tyI_41 : tyI Tryd.prog 41 = some { agg := false, size := 1, bytes := 0 } := by kernel_rfl
@[go_sem] theorem kindT_41 : kindT Tryd.prog 41 = 0 := by kernel_rfl
@[go_sem] theorem hasT_41 : hasT Tryd.prog 41 = true := by kernel_rfl
@[go_sem] theorem tyI_42 : tyI Tryd.prog 42 = some { agg := false, size := 1, bytes := 8 } := by kernel_rfl
@[go_sem] theorem kindT_42 : kindT Tryd.prog 42 = 9 := by kernel_rfl
@[go_sem] theorem hasT_42 : hasT Tryd.prog 42 = true := by kernel_rfl
@[go_sem] theorem zeroI_42 : zeroI Tryd.prog 42 = some [Go.Av.AV.lit Go.Value.nilFunc] := by kernel_rfl
@[go_sem] theorem tyI_43 : tyI Tryd.prog 43 = some { agg := false, size := 1, bytes := 8 } := by kernel_rfl
@[go_sem] theorem kindT_43 : kindT Tryd.prog 43 = 9 := by kernel_rfl
@[go_sem] theorem hasT_43 : hasT Tryd.prog 43 = true := by kernel_rfl
@[go_sem] theorem zeroI_43 : zeroI Tryd.prog 43 = some [Go.Av.AV.lit Go.Value.nilFunc] := by kernel_rfl
@[go_sem] theorem tyI_44 : tyI Tryd.prog 44 = some { agg := false, size := 1, bytes := 0 } := by kernel_rfl
@[go_sem] theorem kindT_44 : kindT Tryd.prog 44 = 0 := by kernel_rfl
@[go_sem] theorem hasT_44 : hasT Tryd.prog 44 = true := by kernel_rfl
@[go_sem] theorem tyI_45 : tyI Tryd.prog 45 = some { agg := false, size := 1, bytes := 8 } := by kernel_rfl
@[go_sem] theorem kindT_45 : kindT Tryd.prog 45 = 9 := by kernel_rfl
@[go_sem] theorem hasT_45 : hasT Tryd.prog 45 = true := by kernel_rfl
@[go_sem] theorem zeroI_45 : zeroI Tryd.prog 45 = some [Go.Av.AV.lit Go.Value.nilFunc] := by kernel_rfl
@[go_sem] theorem tyI_46 : tyI Tryd.prog 46 = some { agg := false, size := 1, bytes := 8 } := by kernel_rfl
@[go_sem] theorem kindT_46 : kindT Tryd.prog 46 = 9 := by kernel_rfl
@[go_sem] theorem hasT_46 : hasT Tryd.prog 46 = true := by kernel_rfl
@[go_sem] theorem zeroI_46 : zeroI Tryd.prog 46 = some [Go.Av.AV.lit Go.Value.nilFunc] := by kernel_rfl
@[go_sem] theorem tyI_47 : tyI Tryd.prog 47 = some { agg := false, size := 1, bytes := 8 } := by kernel_rfl
@[go_sem] theorem kindT_47 : kindT Tryd.prog 47 = 9 := by kernel_rfl
@[go_sem] theorem hasT_47 : hasT Tryd.prog 47 = true := by kernel_rfl
@[go_sem] theorem zeroI_47 : zeroI Tryd.prog 47 = some [Go.Av.AV.lit Go.Value.nilFunc] := by kernel_rfl
@[go_sem] theorem tyI_48 : tyI Tryd.prog 48 = some { agg := false, size := 1, bytes := 8 } := by kernel_rfl
@[go_sem] theorem kindT_48 : kindT Tryd.prog 48 = 9 := by kernel_rfl
@[go_sem] theorem hasT_48 : hasT Tryd.prog 48 = true := by kernel_rfl
@[go_sem] theorem zeroI_48 : zeroI Tryd.prog 48 = some [Go.Av.AV.lit Go.Value.nilFunc] := by kernel_rfl
@[go_sem] theorem tyI_49 : tyI Tryd.prog 49 = some { agg := false, size := 1, bytes := 8 } := by kernel_rfl
@[go_sem] theorem kindT_49 : kindT Tryd.prog 49 = 9 := by kernel_rfl
@[go_sem] theorem hasT_49 : hasT Tryd.prog 49 = true := by kernel_rfl
@[go_sem] theorem zeroI_49 : zeroI Tryd.prog 49 = some [Go.Av.AV.lit Go.Value.nilFunc] := by kernel_rfl
@[go_sem] theorem tyI_50 : tyI Tryd.prog 50 = some { agg := true, size := 256, bytes := 256 } := by kernel_rfl
@[go_sem] theorem kindT_50 : kindT Tryd.prog 50 = 7 := by kernel_rfl
@[go_sem] theorem hasT_50 : hasT Tryd.prog 50 = true := by kernel_rfl
@[go_sem] theorem tyI_51 : tyI Tryd.prog 51 = some { agg := false, size := 1, bytes := 8 } := by kernel_rfl
@[go_sem] theorem kindT_51 : kindT Tryd.prog 51 = 9 := by kernel_rfl
@[go_sem] theorem hasT_51 : hasT Tryd.prog 51 = true := by kernel_rfl
@[go_sem] theorem zeroI_51 : zeroI Tryd.prog 51 = some [Go.Av.AV.lit Go.Value.nilFunc] := by kernel_rfl
@[go_sem] theorem tyI_52 : tyI Tryd.prog 52 = some { agg := false, size := 1, bytes := 8 } := by kernel_rfl
@[go_sem] theorem kindT_52 : kindT Tryd.prog 52 = 9 := by kernel_rfl
@[go_sem] theorem hasT_52 : hasT Tryd.prog 52 = true := by kernel_rfl
@[go_sem] theorem zeroI_52 : zeroI Tryd.prog 52 = some [Go.Av.AV.lit Go.Value.nilFunc] := by kernel_rfl
@[go_sem] theorem tyI_53 : tyI Tryd.prog 53 = some { agg := false, size := 1, bytes := 24 } := by kernel_rfl
@[go_sem] theorem slT_53 : slT Tryd.prog 53 = some 55 := by kernel_rfl
@[go_sem] theorem kindT_53 : kindT Tryd.prog 53 = 5 := by kernel_rfl
@[go_sem] theorem hasT_53 : hasT Tryd.prog 53 = true := by kernel_rfl
@[go_sem] theorem zeroI_53 : zeroI Tryd.prog 53 = some [Go.Av.AV.isl (some true) [] Go.Av.Tk.full] := by kernel_rfl
@[go_sem] theorem tyI_54 : tyI Tryd.prog 54 = some { agg := true, size := 2, bytes := 16 } := by kernel_rfl
@[go_sem] theorem kindT_54 : kindT Tryd.prog 54 = 6 := by kernel_rfl
@[go_sem] theorem hasT_54 : hasT Tryd.prog 54 = true := by kernel_rfl
@[go_sem] theorem zeroI_54 : zeroI Tryd.prog 54 = some [Go.Av.AV.lit (Go.Value.int Go.IntKind.i64 0), Go.Av.AV.lit (Go.Value.int Go.IntKind.i64 0)] := by kernel_rfl
@[go_sem] theorem bldT_54 : bldT Tryd.prog 54 = true := by kernel_rfl
@[go_sem] theorem eqT_54 : eqT Tryd.prog 54 = some [(0, 2), (1, 2)] := by kernel_rfl
@[go_sem] theorem fld_54_0 : fldI Tryd.prog 54 0 = some (0, 1, false) := by kernel_rfl
@[go_sem] theorem fld_54_1 : fldI Tryd.prog 54 1 = some (1, 1, false) := by kernel_rfl
@[go_sem] theorem tyI_55 : tyI Tryd.prog 55 = some { agg := true, size := 2, bytes := 16 } := by kernel_rfl
@[go_sem] theorem kindT_55 : kindT Tryd.prog 55 = 6 := by kernel_rfl
@[go_sem] theorem hasT_55 : hasT Tryd.prog 55 = true := by kernel_rfl
@[go_sem] theorem zeroI_55 : zeroI Tryd.prog 55 = some [Go.Av.AV.lit (Go.Value.int Go.IntKind.i64 0), Go.Av.AV.lit (Go.Value.int Go.IntKind.i64 0)] := by kernel_rfl
@[go_sem] theorem bldT_55 : bldT Tryd.prog 55 = true := by kernel_rfl
@[go_sem] theorem eqT_55 : eqT Tryd.prog 55 = some [(0, 2), (1, 2)] := by kernel_rfl
@[go_sem] theorem fld_55_0 : fldI Tryd.prog 55 0 = some (0, 1, false) := by kernel_rfl
@[go_sem] theorem fld_55_1 : fldI Tryd.prog 55 1 = some (1, 1, false) := by kernel_rfl
@[go_sem] theorem tyI_56 : tyI Tryd.prog 56 = some { agg := false, size := 1, bytes := 4 } := by kernel_rfl
@[go_sem] theorem kindT_56 : kindT Tryd.prog 56 = 2 := by kernel_rfl
@[go_sem] theorem intT_56 : intT Tryd.prog 56 = some Go.IntKind.u32 := by kernel_rfl
@[go_sem] theorem hasT_56 : hasT Tryd.prog 56 = true := by kernel_rfl
@[go_sem] theorem zeroI_56 : zeroI Tryd.prog 56 = some [Go.Av.AV.lit (Go.Value.int Go.IntKind.u32 0)] := by kernel_rfl
@[go_sem] theorem tyI_57 : tyI Tryd.prog 57 = some { agg := false, size := 1, bytes := 8 } := by kernel_rfl
@[go_sem] theorem kindT_57 : kindT Tryd.prog 57 = 9 := by kernel_rfl
@[go_sem] theorem hasT_57 : hasT Tryd.prog 57 = true := by kernel_rfl
@[go_sem] theorem zeroI_57 : zeroI Tryd.prog 57 = some [Go.Av.AV.lit Go.Value.nilFunc] := by kernel_rfl
@[go_sem] theorem tyI_58 : tyI Tryd.prog 58 = some { agg := false, size := 1, bytes := 8 } := by kernel_rfl
@[go_sem] theorem kindT_58 : kindT Tryd.prog 58 = 4 := by kernel_rfl
@[go_sem] theorem hasT_58 : hasT Tryd.prog 58 = true := by kernel_rfl
@[go_sem] theorem zeroI_58 : zeroI Tryd.prog 58 = some [Go.Av.AV.lit (Go.Value.pointer none)] := by kernel_rfl
@[go_sem] theorem tyI_59 : tyI Tryd.prog 59 = some { agg := false, size := 1, bytes := 24 } := by kernel_rfl
@[go_sem] theorem slT_59 : slT Tryd.prog 59 = some 65 := by kernel_rfl
@[go_sem] theorem kindT_59 : kindT Tryd.prog 59 = 5 := by kernel_rfl
@[go_sem] theorem hasT_59 : hasT Tryd.prog 59 = true := by kernel_rfl
@[go_sem] theorem zeroI_59 : zeroI Tryd.prog 59 = some [Go.Av.AV.isl (some true) [] Go.Av.Tk.full] := by kernel_rfl
@[go_sem] theorem tyI_60 : tyI Tryd.prog 60 = some { agg := false, size := 1, bytes := 24 } := by kernel_rfl
@[go_sem] theorem slT_60 : slT Tryd.prog 60 = some 68 := by kernel_rfl
@[go_sem] theorem kindT_60 : kindT Tryd.prog 60 = 5 := by kernel_rfl
@[go_sem] theorem hasT_60 : hasT Tryd.prog 60 = true := by kernel_rfl
@[go_sem] theorem zeroI_60 : zeroI Tryd.prog 60 = some [Go.Av.AV.isl (some true) [] Go.Av.Tk.full] := by kernel_rfl
@[go_sem] theorem tyI_61 : tyI Tryd.prog 61 = some { agg := true, size := 3, bytes := 56 } := by kernel_rfl
@[go_sem] theorem kindT_61 : kindT Tryd.prog 61 = 6 := by kernel_rfl
@[go_sem] theorem hasT_61 : hasT Tryd.prog 61 = true := by kernel_rfl
@[go_sem] theorem zeroI_61 : zeroI Tryd.prog 61 = some [Go.Av.AV.isl (some true) [] Go.Av.Tk.full, Go.Av.AV.isl (some true) [] Go.Av.Tk.full, Go.Av.AV.lit (Go.Value.int Go.IntKind.i64 0)] := by kernel_rfl
@[go_sem] theorem bldT_61 : bldT Tryd.prog 61 = true := by kernel_rfl
@[go_sem] theorem fld_61_0 : fldI Tryd.prog 61 0 = some (0, 1, false) := by kernel_rfl
@[go_sem] theorem fld_61_1 : fldI Tryd.prog 61 1 = some (1, 1, false) := by kernel_rfl
@[go_sem] theorem fld_61_2 : fldI Tryd.prog 61 2 = some (2, 1, false) := by kernel_rfl
@[go_sem] theorem tyI_62 : tyI Tryd.prog 62 = some { agg := true, size := 3, bytes := 56 } := by kernel_rfl
@[go_sem] theorem kindT_62 : kindT Tryd.prog 62 = 6 := by kernel_rfl
@[go_sem] theorem hasT_62 : hasT Tryd.prog 62 = true := by kernel_rfl
@[go_sem] theorem zeroI_62 : zeroI Tryd.prog 62 = some [Go.Av.AV.isl (some true) [] Go.Av.Tk.full, Go.Av.AV.isl (some true) [] Go.Av.Tk.full, Go.Av.AV.lit (Go.Value.int Go.IntKind.i64 0)] := by kernel_rfl
@[go_sem] theorem bldT_62 : bldT Tryd.prog 62 = true := by kernel_rfl
@[go_sem] theorem fld_62_0 : fldI Tryd.prog 62 0 = some (0, 1, false) := by kernel_rfl
@[go_sem] theorem fld_62_1 : fldI Tryd.prog 62 1 = some (1, 1, false) := by kernel_rfl
@[go_sem] theorem fld_62_2 : fldI Tryd.prog 62 2 = some (2, 1, false) := by kernel_rfl
@[go_sem] theorem tyI_63 : tyI Tryd.prog 63 = some { agg := false, size := 1, bytes := 2 } := by kernel_rfl
@[go_sem] theorem kindT_63 : kindT Tryd.prog 63 = 2 := by kernel_rfl
@[go_sem] theorem intT_63 : intT Tryd.prog 63 = some Go.IntKind.u16 := by kernel_rfl
@[go_sem] theorem hasT_63 : hasT Tryd.prog 63 = true := by kernel_rfl
@[go_sem] theorem zeroI_63 : zeroI Tryd.prog 63 = some [Go.Av.AV.lit (Go.Value.int Go.IntKind.u16 0)] := by kernel_rfl
@[go_sem] theorem tyI_64 : tyI Tryd.prog 64 = some { agg := true, size := 3, bytes := 6 } := by kernel_rfl
@[go_sem] theorem kindT_64 : kindT Tryd.prog 64 = 6 := by kernel_rfl
@[go_sem] theorem hasT_64 : hasT Tryd.prog 64 = true := by kernel_rfl
@[go_sem] theorem zeroI_64 : zeroI Tryd.prog 64 = some [Go.Av.AV.lit (Go.Value.int Go.IntKind.u16 0), Go.Av.AV.lit (Go.Value.int Go.IntKind.u16 0), Go.Av.AV.lit (Go.Value.int Go.IntKind.u16 0)] := by kernel_rfl
@[go_sem] theorem bldT_64 : bldT Tryd.prog 64 = true := by kernel_rfl
@[go_sem] theorem eqT_64 : eqT Tryd.prog 64 = some [(0, 2), (1, 2), (2, 2)] := by kernel_rfl
@[go_sem] theorem fld_64_0 : fldI Tryd.prog 64 0 = some (0, 1, false) := by kernel_rfl
@[go_sem] theorem fld_64_1 : fldI Tryd.prog 64 1 = some (1, 1, false) := by kernel_rfl
@[go_sem] theorem fld_64_2 : fldI Tryd.prog 64 2 = some (2, 1, false) := by kernel_rfl
@[go_sem] theorem tyI_65 : tyI Tryd.prog 65 = some { agg := true, size := 3, bytes := 6 } := by kernel_rfl
@[go_sem] theorem kindT_65 : kindT Tryd.prog 65 = 6 := by kernel_rfl
@[go_sem] theorem hasT_65 : hasT Tryd.prog 65 = true := by kernel_rfl
@[go_sem] theorem zeroI_65 : zeroI Tryd.prog 65 = some [Go.Av.AV.lit (Go.Value.int Go.IntKind.u16 0), Go.Av.AV.lit (Go.Value.int Go.IntKind.u16 0), Go.Av.AV.lit (Go.Value.int Go.IntKind.u16 0)] := by kernel_rfl
@[go_sem] theorem bldT_65 : bldT Tryd.prog 65 = true := by kernel_rfl
@[go_sem] theorem eqT_65 : eqT Tryd.prog 65 = some [(0, 2), (1, 2), (2, 2)] := by kernel_rfl
@[go_sem] theorem fld_65_0 : fldI Tryd.prog 65 0 = some (0, 1, false) := by kernel_rfl
@[go_sem] theorem fld_65_1 : fldI Tryd.prog 65 1 = some (1, 1, false) := by kernel_rfl
@[go_sem] theorem fld_65_2 : fldI Tryd.prog 65 2 = some (2, 1, false) := by kernel_rfl
@[go_sem] theorem tyI_66 : tyI Tryd.prog 66 = some { agg := false, size := 1, bytes := 8 } := by kernel_rfl
@[go_sem] theorem kindT_66 : kindT Tryd.prog 66 = 9 := by kernel_rfl
@[go_sem] theorem hasT_66 : hasT Tryd.prog 66 = true := by kernel_rfl
@[go_sem] theorem zeroI_66 : zeroI Tryd.prog 66 = some [Go.Av.AV.lit Go.Value.nilFunc] := by kernel_rfl
@[go_sem] theorem tyI_67 : tyI Tryd.prog 67 = some { agg := true, size := 3, bytes := 12 } := by kernel_rfl
@[go_sem] theorem kindT_67 : kindT Tryd.prog 67 = 6 := by kernel_rfl
@[go_sem] theorem hasT_67 : hasT Tryd.prog 67 = true := by kernel_rfl
@[go_sem] theorem zeroI_67 : zeroI Tryd.prog 67 = some [Go.Av.AV.lit (Go.Value.int Go.IntKind.u32 0), Go.Av.AV.lit (Go.Value.int Go.IntKind.u32 0), Go.Av.AV.lit (Go.Value.int Go.IntKind.u32 0)] := by kernel_rfl
@[go_sem] theorem bldT_67 : bldT Tryd.prog 67 = true := by kernel_rfl
@[go_sem] theorem eqT_67 : eqT Tryd.prog 67 = some [(0, 2), (1, 2), (2, 2)] := by kernel_rfl
@[go_sem] theorem fld_67_0 : fldI Tryd.prog 67 0 = some (0, 1, false) := by kernel_rfl
@[go_sem] theorem fld_67_1 : fldI Tryd.prog 67 1 = some (1, 1, false) := by kernel_rfl
@[go_sem] theorem fld_67_2 : fldI Tryd.prog 67 2 = some (2, 1, false) := by kernel_rfl
@[go_sem] theorem tyI_68 : tyI Tryd.prog 68 = some { agg := true, size := 3, bytes := 12 } := by kernel_rfl
@[go_sem] theorem kindT_68 : kindT Tryd.prog 68 = 6 := by kernel_rfl
@[go_sem] theorem hasT_68 : hasT Tryd.prog 68 = true := by kernel_rfl
@[go_sem] theorem zeroI_68 : zeroI Tryd.prog 68 = some [Go.Av.AV.lit (Go.Value.int Go.IntKind.u32 0), Go.Av.AV.lit (Go.Value.int Go.IntKind.u32 0), Go.Av.AV.lit (Go.Value.int Go.IntKind.u32 0)] := by kernel_rfl
@[go_sem] theorem bldT_68 : bldT Tryd.prog 68 = true := by kernel_rfl
@[go_sem] theorem eqT_68 : eqT Tryd.prog 68 = some [(0, 2), (1, 2), (2, 2)] := by kernel_rfl
@[go_sem] theorem fld_68_0 : fldI Tryd.prog 68 0 = some (0, 1, false) := by kernel_rfl
@[go_sem] theorem fld_68_1 : fldI Tryd.prog 68 1 = some (1, 1, false) := by kernel_rfl
@[go_sem] theorem fld_68_2 : fldI Tryd.prog 68 2 = some (2, 1, false) := by kernel_rfl
@[go_sem] theorem tyI_69 : tyI Tryd.prog 69 = some { agg := false, size := 1, bytes := 8 } := by kernel_rfl
@[go_sem] theorem kindT_69 : kindT Tryd.prog 69 = 9 := by kernel_rfl
@[go_sem] theorem hasT_69 : hasT Tryd.prog 69 = true := by kernel_rfl
@[go_sem] theorem zeroI_69 : zeroI Tryd.prog 69 = some [Go.Av.AV.lit Go.Value.nilFunc] := by kernel_rfl
@[go_sem] theorem tyI_70 : tyI Tryd.prog 70 = some { agg := false, size := 1, bytes := 8 } := by kernel_rfl
@[go_sem] theorem kindT_70 : kindT Tryd.prog 70 = 4 := by kernel_rfl
@[go_sem] theorem hasT_70 : hasT Tryd.prog 70 = true := by kernel_rfl
@[go_sem] theorem zeroI_70 : zeroI Tryd.prog 70 = some [Go.Av.AV.lit (Go.Value.pointer none)] := by kernel_rfl
@[go_sem] theorem tyI_71 : tyI Tryd.prog 71 = some { agg := false, size := 1, bytes := 8 } := by kernel_rfl
@[go_sem] theorem kindT_71 : kindT Tryd.prog 71 = 2 := by kernel_rfl
@[go_sem] theorem intT_71 : intT Tryd.prog 71 = some Go.IntKind.u64 := by kernel_rfl
@[go_sem] theorem hasT_71 : hasT Tryd.prog 71 = true := by kernel_rfl
@[go_sem] theorem zeroI_71 : zeroI Tryd.prog 71 = some [Go.Av.AV.lit (Go.Value.int Go.IntKind.u64 0)] := by kernel_rfl
@[go_sem] theorem tyI_72 : tyI Tryd.prog 72 = some { agg := false, size := 1, bytes := 8 } := by kernel_rfl
@[go_sem] theorem kindT_72 : kindT Tryd.prog 72 = 4 := by kernel_rfl
@[go_sem] theorem hasT_72 : hasT Tryd.prog 72 = true := by kernel_rfl
@[go_sem] theorem zeroI_72 : zeroI Tryd.prog 72 = some [Go.Av.AV.lit (Go.Value.pointer none)] := by kernel_rfl
@[go_sem] theorem tyI_73 : tyI Tryd.prog 73 = some { agg := false, size := 1, bytes := 8 } := by kernel_rfl
@[go_sem] theorem kindT_73 : kindT Tryd.prog 73 = 9 := by kernel_rfl
@[go_sem] theorem hasT_73 : hasT Tryd.prog 73 = true := by kernel_rfl
@[go_sem] theorem zeroI_73 : zeroI Tryd.prog 73 = some [Go.Av.AV.lit Go.Value.nilFunc] := by kernel_rfl
@[go_sem] theorem tyI_74 : tyI Tryd.prog 74 = some { agg := true, size := 4, bytes := 40 } := by kernel_rfl
@[go_sem] theorem kindT_74 : kindT Tryd.prog 74 = 6 := by kernel_rfl
@[go_sem] theorem hasT_74 : hasT Tryd.prog 74 = true := by kernel_rfl
@[go_sem] theorem zeroI_74 : zeroI Tryd.prog 74 = some [Go.Av.AV.lit (Go.Value.pointer none), Go.Av.AV.lit (Go.Value.pointer none), Go.Av.AV.lit (Go.Value.pointer none), Go.Av.AV.lit (Go.Value.string ⟨#[]⟩)] := by kernel_rfl
@[go_sem] theorem bldT_74 : bldT Tryd.prog 74 = true := by kernel_rfl
@[go_sem] theorem fld_74_0 : fldI Tryd.prog 74 0 = some (0, 1, false) := by kernel_rfl
@[go_sem] theorem fld_74_1 : fldI Tryd.prog 74 1 = some (1, 1, false) := by kernel_rfl
@[go_sem] theorem fld_74_2 : fldI Tryd.prog 74 2 = some (2, 1, false) := by kernel_rfl
@[go_sem] theorem fld_74_3 : fldI Tryd.prog 74 3 = some (3, 1, false) := by kernel_rfl
@[go_sem] theorem tyI_75 : tyI Tryd.prog 75 = some { agg := true, size := 4, bytes := 40 } := by kernel_rfl
@[go_sem] theorem kindT_75 : kindT Tryd.prog 75 = 6 := by kernel_rfl
@[go_sem] theorem hasT_75 : hasT Tryd.prog 75 = true := by kernel_rfl
@[go_sem] theorem zeroI_75 : zeroI Tryd.prog 75 = some [Go.Av.AV.lit (Go.Value.pointer none), Go.Av.AV.lit (Go.Value.pointer none), Go.Av.AV.lit (Go.Value.pointer none), Go.Av.AV.lit (Go.Value.string ⟨#[]⟩)] := by kernel_rfl
@[go_sem] theorem bldT_75 : bldT Tryd.prog 75 = true := by kernel_rfl
@[go_sem] theorem fld_75_0 : fldI Tryd.prog 75 0 = some (0, 1, false) := by kernel_rfl
@[go_sem] theorem fld_75_1 : fldI Tryd.prog 75 1 = some (1, 1, false) := by kernel_rfl
@[go_sem] theorem fld_75_2 : fldI Tryd.prog 75 2 = some (2, 1, false) := by kernel_rfl
@[go_sem] theorem fld_75_3 : fldI Tryd.prog 75 3 = some (3, 1, false) := by kernel_rfl
@[go_sem] theorem tyI_76 : tyI Tryd.prog 76 = some { agg := true, size := 0, bytes := 0 } := by kernel_rfl
@[go_sem] theorem kindT_76 : kindT Tryd.prog 76 = 7 := by kernel_rfl
@[go_sem] theorem hasT_76 : hasT Tryd.prog 76 = true := by kernel_rfl
@[go_sem] theorem zeroI_76 : zeroI Tryd.prog 76 = some [] := by kernel_rfl
@[go_sem] theorem tyI_77 : tyI Tryd.prog 77 = some { agg := true, size := 0, bytes := 0 } := by kernel_rfl
@[go_sem] theorem kindT_77 : kindT Tryd.prog 77 = 6 := by kernel_rfl
@[go_sem] theorem hasT_77 : hasT Tryd.prog 77 = true := by kernel_rfl
@[go_sem] theorem zeroI_77 : zeroI Tryd.prog 77 = some [] := by kernel_rfl
@[go_sem] theorem bldT_77 : bldT Tryd.prog 77 = true := by kernel_rfl
@[go_sem] theorem fld_77_0 : fldI Tryd.prog 77 0 = some (0, 0, true) := by kernel_rfl
@[go_sem] theorem tyI_78 : tyI Tryd.prog 78 = some { agg := true, size := 0, bytes := 0 } := by kernel_rfl
@[go_sem] theorem kindT_78 : kindT Tryd.prog 78 = 6 := by kernel_rfl
@[go_sem] theorem hasT_78 : hasT Tryd.prog 78 = true := by kernel_rfl
@[go_sem] theorem zeroI_78 : zeroI Tryd.prog 78 = some [] := by kernel_rfl
@[go_sem] theorem bldT_78 : bldT Tryd.prog 78 = true := by kernel_rfl
@[go_sem] theorem fld_78_0 : fldI Tryd.prog 78 0 = some (0, 0, true) := by kernel_rfl
@[go_sem] theorem tyI_79 : tyI Tryd.prog 79 = some { agg := false, size := 1, bytes := 8 } := by kernel_rfl
@[go_sem] theorem kindT_79 : kindT Tryd.prog 79 = 9 := by kernel_rfl
@[go_sem] theorem hasT_79 : hasT Tryd.prog 79 = true := by kernel_rfl
@[go_sem] theorem zeroI_79 : zeroI Tryd.prog 79 = some [Go.Av.AV.lit Go.Value.nilFunc] := by kernel_rfl
@[go_sem] theorem tyI_80 : tyI Tryd.prog 80 = some { agg := false, size := 1, bytes := 1 } := by kernel_rfl
@[go_sem] theorem kindT_80 : kindT Tryd.prog 80 = 2 := by kernel_rfl
@[go_sem] theorem intT_80 : intT Tryd.prog 80 = some Go.IntKind.u8 := by kernel_rfl
@[go_sem] theorem hasT_80 : hasT Tryd.prog 80 = true := by kernel_rfl
@[go_sem] theorem zeroI_80 : zeroI Tryd.prog 80 = some [Go.Av.AV.lit (Go.Value.int Go.IntKind.u8 0)] := by kernel_rfl
@[go_sem] theorem tyI_81 : tyI Tryd.prog 81 = some { agg := false, size := 1, bytes := 1 } := by kernel_rfl
@[go_sem] theorem kindT_81 : kindT Tryd.prog 81 = 2 := by kernel_rfl
@[go_sem] theorem intT_81 : intT Tryd.prog 81 = some Go.IntKind.u8 := by kernel_rfl
@[go_sem] theorem hasT_81 : hasT Tryd.prog 81 = true := by kernel_rfl
@[go_sem] theorem zeroI_81 : zeroI Tryd.prog 81 = some [Go.Av.AV.lit (Go.Value.int Go.IntKind.u8 0)] := by kernel_rfl
@[go_sem] theorem tyI_82 : tyI Tryd.prog 82 = some { agg := false, size := 1, bytes := 8 } := by kernel_rfl
@[go_sem] theorem kindT_82 : kindT Tryd.prog 82 = 9 := by kernel_rfl
@[go_sem] theorem hasT_82 : hasT Tryd.prog 82 = true := by kernel_rfl
@[go_sem] theorem zeroI_82 : zeroI Tryd.prog 82 = some [Go.Av.AV.lit Go.Value.nilFunc] := by kernel_rfl
@[go_sem] theorem tyI_83 : tyI Tryd.prog 83 = some { agg := false, size := 1, bytes := 8 } := by kernel_rfl
@[go_sem] theorem kindT_83 : kindT Tryd.prog 83 = 4 := by kernel_rfl
@[go_sem] theorem hasT_83 : hasT Tryd.prog 83 = true := by kernel_rfl
@[go_sem] theorem zeroI_83 : zeroI Tryd.prog 83 = some [Go.Av.AV.lit (Go.Value.pointer none)] := by kernel_rfl
@[go_sem] theorem tyI_84 : tyI Tryd.prog 84 = some { agg := false, size := 1, bytes := 4 } := by kernel_rfl
@[go_sem] theorem kindT_84 : kindT Tryd.prog 84 = 2 := by kernel_rfl
@[go_sem] theorem intT_84 : intT Tryd.prog 84 = some Go.IntKind.i32 := by kernel_rfl
@[go_sem] theorem hasT_84 : hasT Tryd.prog 84 = true := by kernel_rfl
@[go_sem] theorem zeroI_84 : zeroI Tryd.prog 84 = some [Go.Av.AV.lit (Go.Value.int Go.IntKind.i32 0)] := by kernel_rfl
@[go_sem] theorem tyI_85 : tyI Tryd.prog 85 = some { agg := false, size := 1, bytes := 4 } := by kernel_rfl
@[go_sem] theorem kindT_85 : kindT Tryd.prog 85 = 2 := by kernel_rfl
@[go_sem] theorem intT_85 : intT Tryd.prog 85 = some Go.IntKind.i32 := by kernel_rfl
@[go_sem] theorem hasT_85 : hasT Tryd.prog 85 = true := by kernel_rfl
@[go_sem] theorem zeroI_85 : zeroI Tryd.prog 85 = some [Go.Av.AV.lit (Go.Value.int Go.IntKind.i32 0)] := by kernel_rfl
@[go_sem] theorem tyI_86 : tyI Tryd.prog 86 = some { agg := true, size := 11, bytes := 48 } := by kernel_rfl
@[go_sem] theorem kindT_86 : kindT Tryd.prog 86 = 6 := by kernel_rfl
@[go_sem] theorem hasT_86 : hasT Tryd.prog 86 = true := by kernel_rfl
@[go_sem] theorem zeroI_86 : zeroI Tryd.prog 86 = some [Go.Av.AV.lit (Go.Value.int Go.IntKind.u64 0), Go.Av.AV.lit (Go.Value.int Go.IntKind.u64 0), Go.Av.AV.lit (Go.Value.int Go.IntKind.u32 0), Go.Av.AV.lit (Go.Value.int Go.IntKind.u8 0), Go.Av.AV.lit (Go.Value.int Go.IntKind.u8 0), Go.Av.AV.lit (Go.Value.int Go.IntKind.u8 0), Go.Av.AV.lit (Go.Value.int Go.IntKind.u8 0), Go.Av.AV.lit Go.Value.nilFunc, Go.Av.AV.lit (Go.Value.pointer none), Go.Av.AV.lit (Go.Value.int Go.IntKind.i32 0), Go.Av.AV.lit (Go.Value.int Go.IntKind.i32 0)] := by kernel_rfl
@[go_sem] theorem bldT_86 : bldT Tryd.prog 86 = true := by kernel_rfl
@[go_sem] theorem fld_86_0 : fldI Tryd.prog 86 0 = some (0, 1, false) := by kernel_rfl
@[go_sem] theorem fld_86_1 : fldI Tryd.prog 86 1 = some (1, 1, false) := by kernel_rfl
@[go_sem] theorem fld_86_2 : fldI Tryd.prog 86 2 = some (2, 1, false) := by kernel_rfl
@[go_sem] theorem fld_86_3 : fldI Tryd.prog 86 3 = some (3, 1, false) := by kernel_rfl
@[go_sem] theorem fld_86_4 : fldI Tryd.prog 86 4 = some (4, 1, false) := by kernel_rfl
@[go_sem] theorem fld_86_5 : fldI Tryd.prog 86 5 = some (5, 1, false) := by kernel_rfl
@[go_sem] theorem fld_86_6 : fldI Tryd.prog 86 6 = some (6, 1, false) := by kernel_rfl
@[go_sem] theorem fld_86_7 : fldI Tryd.prog 86 7 = some (7, 1, false) := by kernel_rfl
@[go_sem] theorem tyI_87 : tyI Tryd.prog 87 = some { agg := true, size := 11, bytes := 48 } := by kernel_rfl
@[go_sem] theorem kindT_87 : kindT Tryd.prog 87 = 6 := by kernel_rfl
@[go_sem] theorem hasT_87 : hasT Tryd.prog 87 = true := by kernel_rfl
@[go_sem] theorem zeroI_87 : zeroI Tryd.prog 87 = some [Go.Av.AV.lit (Go.Value.int Go.IntKind.u64 0), Go.Av.AV.lit (Go.Value.int Go.IntKind.u64 0), Go.Av.AV.lit (Go.Value.int Go.IntKind.u32 0), Go.Av.AV.lit (Go.Value.int Go.IntKind.u8 0), Go.Av.AV.lit (Go.Value.int Go.IntKind.u8 0), Go.Av.AV.lit (Go.Value.int Go.IntKind.u8 0), Go.Av.AV.lit (Go.Value.int Go.IntKind.u8 0), Go.Av.AV.lit Go.Value.nilFunc, Go.Av.AV.lit (Go.Value.pointer none), Go.Av.AV.lit (Go.Value.int Go.IntKind.i32 0), Go.Av.AV.lit (Go.Value.int Go.IntKind.i32 0)] := by kernel_rfl
@[go_sem] theorem bldT_87 : bldT Tryd.prog 87 = true := by kernel_rfl
@[go_sem] theorem fld_87_0 : fldI Tryd.prog 87 0 = some (0, 1, false) := by kernel_rfl
@[go_sem] theorem fld_87_1 : fldI Tryd.prog 87 1 = some (1, 1, false) := by kernel_rfl
@[go_sem] theorem fld_87_2 : fldI Tryd.prog 87 2 = some (2, 1, false) := by kernel_rfl
@[go_sem] theorem fld_87_3 : fldI Tryd.prog 87 3 = some (3, 1, false) := by kernel_rfl
@[go_sem] theorem fld_87_4 : fldI Tryd.prog 87 4 = some (4, 1, false) := by kernel_rfl
@[go_sem] theorem fld_87_5 : fldI Tryd.prog 87 5 = some (5, 1, false) := by kernel_rfl
@[go_sem] theorem fld_87_6 : fldI Tryd.prog 87 6 = some (6, 1, false) := by kernel_rfl
@[go_sem] theorem fld_87_7 : fldI Tryd.prog 87 7 = some (7, 1, false) := by kernel_rfl
@[go_sem] theorem tyI_88 : tyI Tryd.prog 88 = some { agg := false, size := 1, bytes := 8 } := by kernel_rfl
@[go_sem] theorem kindT_88 : kindT Tryd.prog 88 = 0 := by kernel_rfl
@[go_sem] theorem hasT_88 : hasT Tryd.prog 88 = true := by kernel_rfl
@[go_sem] theorem zeroI_88 : zeroI Tryd.prog 88 = some [Go.Av.AV.lit (Go.Value.pointer none)] := by kernel_rfl
@[go_sem] theorem callable_2 : callable Tryd.prog 2 = true := by kernel_rfl
@[go_sem] theorem callable_3 : callable Tryd.prog 3 = true := by kernel_rfl
@[go_sem] theorem callable_4 : callable Tryd.prog 4 = true := by kernel_rfl
@[go_sem] theorem callable_5 : callable Tryd.prog 5 = true := by kernel_rfl
@[go_sem] theorem callable_6 : callable Tryd.prog 6 = true := by kernel_rfl
@[go_sem] theorem callable_7 : callable Tryd.prog 7 = true := by kernel_rfl
@[go_sem] theorem callable_8 : callable Tryd.prog 8 = true := by kernel_rfl
@[go_sem] theorem callable_9 : callable Tryd.prog 9 = true := by kernel_rfl
@[go_sem] theorem callable_10 : callable Tryd.prog 10 = true := by kernel_rfl
@[go_sem] theorem callable_11 : callable Tryd.prog 11 = true := by kernel_rfl
@[go_sem] theorem callable_12 : callable Tryd.prog 12 = true := by kernel_rfl
@[go_sem] theorem callable_13 : callable Tryd.prog 13 = true := by kernel_rfl
@[go_sem] theorem callable_14 : callable Tryd.prog 14 = true := by kernel_rfl
@[go_sem] theorem callable_15 : callable Tryd.prog 15 = true := by kernel_rfl
@[go_sem] theorem callable_16 : callable Tryd.prog 16 = true := by kernel_rfl
@[go_sem] theorem callable_17 : callable Tryd.prog 17 = true := by kernel_rfl
@[go_sem] theorem callable_18 : callable Tryd.prog 18 = true := by kernel_rfl
@[go_sem] theorem callable_19 : callable Tryd.prog 19 = true := by kernel_rfl
@[go_sem] theorem callable_20 : callable Tryd.prog 20 = true := by kernel_rfl
@[go_sem] theorem callable_21 : callable Tryd.prog 21 = true := by kernel_rfl
@[go_sem] theorem callable_22 : callable Tryd.prog 22 = true := by kernel_rfl
@[go_sem] theorem callable_23 : callable Tryd.prog 23 = true := by kernel_rfl
@[go_sem] theorem callable_24 : callable Tryd.prog 24 = true := by kernel_rfl
@[go_sem] theorem callable_25 : callable Tryd.prog 25 = true := by kernel_rfl
@[go_sem] theorem callable_26 : callable Tryd.prog 26 = true := by kernel_rfl
@[go_sem] theorem callable_27 : callable Tryd.prog 27 = true := by kernel_rfl
@[go_sem] theorem callable_28 : callable Tryd.prog 28 = true := by kernel_rfl
@[go_sem] theorem callable_29 : callable Tryd.prog 29 = true := by kernel_rfl
@[go_sem] theorem callable_30 : callable Tryd.prog 30 = true := by kernel_rfl
@[go_sem] theorem callable_31 : callable Tryd.prog 31 = true := by kernel_rfl
@[go_sem] theorem callable_32 : callable Tryd.prog 32 = true := by kernel_rfl
@[go_sem] theorem callable_33 : callable Tryd.prog 33 = true := by kernel_rfl
@[go_sem] theorem callable_34 : callable Tryd.prog 34 = true := by kernel_rfl
@[go_sem] theorem callable_35 : callable Tryd.prog 35 = true := by kernel_rfl
@[go_sem] theorem callable_36 : callable Tryd.prog 36 = true := by kernel_rfl
@[go_sem] theorem callable_37 : callable Tryd.prog 37 = true := by kernel_rfl
@[go_sem] theorem callable_38 : callable Tryd.prog 38 = true := by kernel_rfl
@[go_sem] theorem callable_39 : callable Tryd.prog 39 = true := by kernel_rfl
@[go_sem] theorem callable_40 : callable Tryd.prog 40 = true := by kernel_rfl
@[go_sem] theorem callable_41 : callable Tryd.prog 41 = true := by kernel_rfl
@[go_sem] theorem callable_42 : callable Tryd.prog 42 = true := by kernel_rfl
@[go_sem] theorem callable_43 : callable Tryd.prog 43 = true := by kernel_rfl
@[go_sem] theorem callable_44 : callable Tryd.prog 44 = true := by kernel_rfl
@[go_sem] theorem callable_45 : callable Tryd.prog 45 = true := by kernel_rfl
@[go_sem] theorem callable_46 : callable Tryd.prog 46 = true := by kernel_rfl
@[go_sem] theorem callable_47 : callable Tryd.prog 47 = true := by kernel_rfl
@[go_sem] theorem callable_72 : callable Tryd.prog 72 = true := by kernel_rfl
theorem mixed : Tryd.prog.follows .mixedOrders = true := by kernel_rfl
end Go.Proofs.YtjinngfpbmkhaaaDoor.Ty
