import Derived.Test.YtjinngfpbmkhaaaAvS
namespace Go.Av
set_option linter.unusedVariables false
set_option linter.unusedSimpArgs false
theorem elsOk_nil (sz : Nat) : elsOk sz [] ↔ True := by simp [elsOk]
theorem elsOk_cons (sz : Nat) (e : AV) (l : List AV) : elsOk sz (e :: l) ↔ (e.cells.length = sz ∧ e.cells.all AV.idf = true) ∧ elsOk sz l := by simp [elsOk]
theorem elsOk_append (sz : Nat) (l m : List AV) : elsOk sz (l ++ m) ↔ elsOk sz l ∧ elsOk sz m := by
  simp only [elsOk, List.mem_append]
  exact ⟨fun h => ⟨fun e he => h e (.inl he), fun e he => h e (.inr he)⟩, fun h e he => he.elim (h.1 e) (h.2 e)⟩
theorem elsOk_encB (s : ByteArray) : elsOk 1 (encB s) ↔ True := by
  refine ⟨fun _ => trivial, fun _ e he => ?_⟩
  obtain ⟨b, -, rfl⟩ := List.mem_map.1 he
  exact ⟨rfl, rfl⟩
theorem szOk_nil (n : Nat) : szOk n [] ↔ True := by simp [szOk]
theorem szOk_cons (n : Nat) (e : AV) (l : List AV) : szOk n (e :: l) ↔ e.cells.length = n ∧ szOk n l := by simp [szOk]
theorem cells_lit (v : Value) : (AV.lit v).cells = [.lit v] := by exact Eq.trans rfl rfl
theorem cells_agg (cs : List AV) : (AV.agg cs).cells = cs := by exact Eq.trans rfl rfl
theorem cells_isl (nl : Option Bool) (l : List AV) (t : Tk) : (AV.isl nl l t).cells = [.isl nl l t] := by exact Eq.trans rfl rfl
theorem cells_osl (i v s o l : Nat) : (AV.osl i v s o l).cells = [.osl i v s o l] := by exact Eq.trans rfl rfl
theorem cells_ptr (i v o : Nat) : (AV.ptr i v o).cells = [.ptr i v o] := by exact Eq.trans rfl rfl
theorem cells_iptr (cs : List AV) : (AV.iptr cs).cells = [.iptr cs] := by exact Eq.trans rfl rfl
theorem cells_fn (f : FuncId) (cs : List AV) : (AV.fn f cs).cells = [.fn f cs] := by exact Eq.trans rfl rfl
theorem eraseE_lit (v : Value) : (AV.lit v).eraseE = .lit v := by exact Eq.trans rfl rfl
theorem eraseE_agg (cs : List AV) : (AV.agg cs).eraseE = .agg (cs.map AV.erase) := by exact Eq.trans rfl rfl
theorem eraseE_isl (nl : Option Bool) (l : List AV) (t : Tk) : (AV.isl nl l t).eraseE = .isl nl l t.erase := by exact Eq.trans rfl rfl
theorem eraseE_iptr (cs : List AV) : (AV.iptr cs).eraseE = .iptr cs := by exact Eq.trans rfl rfl
theorem get_loc (o : GH) (l : List (Nat × Blk)) (n d : Nat) : HP.get ⟨o, l⟩ n (n + d) = look l d := by
  unfold HP.get; rw [if_neg (by omega), Nat.add_sub_cancel_left]
theorem put_loc (o : GH) (l : List (Nat × Blk)) (n d : Nat) (b : Blk) : HP.put ⟨o, l⟩ n (n + d) b = ⟨o, insL l d b⟩ := by
  unfold HP.put; rw [if_neg (by omega), Nat.add_sub_cancel_left]
theorem puts_cons (h : HP) (n id : Nat) (b : Blk) (l : List (Nat × Blk)) : h.puts n ((id, b) :: l) = (h.put n id b).puts n l := by exact Eq.trans rfl rfl
theorem look_nil (k : Nat) : look [] k = none := by exact Eq.trans rfl rfl
theorem look_cons (d : Nat) (b : Blk) (l : List (Nat × Blk)) (k : Nat) : look ((d, b) :: l) k = if d = k then some b else look l k := by exact Eq.trans rfl rfl
theorem insL_nil (k : Nat) (b : Blk) : insL [] k b = [(k, b)] := by exact Eq.trans rfl rfl
theorem insL_cons (d : Nat) (c : Blk) (l : List (Nat × Blk)) (k : Nat) (b : Blk) : insL ((d, c) :: l) k b = if d = k then (k, b) :: l else if k < d then (k, b) :: (d, c) :: l else (d, c) :: insL l k b := by exact Eq.trans rfl rfl
def nextB : Option Blk → Nat
  | none => 0
  | some b => b.ver + 1
theorem nextV_B (g : GH) (id : Nat) : nextV g id = nextB (g id) := by unfold nextV nextB; cases g id <;> rfl
theorem nextB_none : nextB none = 0 := by exact Eq.trans rfl rfl
theorem nextB_tok (v : Nat) : nextB (some (.tok v)) = v + 1 := by exact Eq.trans rfl rfl
theorem nextB_cells (v : Nat) (cs : List AV) : nextB (some (.cells v cs)) = v + 1 := by exact Eq.trans rfl rfl
theorem add_lt_self (n d : Nat) : (n + d < n) = False := by simp
theorem id_mk (P : Program) (n nt : Nat) (md : Nat → Nat) (d : Nat) : Cfg.id ⟨P, n, nt, fun _ => none, md⟩ d = n + d := by exact Eq.trans rfl rfl
theorem may_mk (P : Program) (n nt : Nat) (nm : Nat → Option Nat) (md : Nat → Nat) (d : Nat) (b : Blk) : Cfg.may ⟨P, n, nt, nm, md⟩ (n + d) b = (d < nt) := by
  unfold Cfg.may
  refine propext ⟨fun h => by have := h.1; simp only at this; omega, fun h => ⟨by simp only; omega, fun h2 => by simp only at h2; omega⟩⟩
attribute [go_sem] get_loc put_loc puts_cons look_nil look_cons insL_nil insL_cons nextV_B nextB_none nextB_tok nextB_cells add_lt_self id_mk may_mk cells_lit cells_agg cells_isl cells_osl cells_ptr cells_iptr cells_fn eraseE_lit eraseE_agg eraseE_isl eraseE_iptr elsOk_nil elsOk_cons elsOk_encB szOk_nil szOk_cons lenA sliceA bnd buildSliceA indexAddrA loadA fieldA fieldAddrA buildA fillA AV.erase AV.scalar AV.idf Tk.free Tk.erase AV.els appM numbered zeroEl nlA zOk allocA storeA makeSliceA appendA Blk.ver nilCheckA splice
theorem assignA_lit (C : Cfg) (d : Nat) (g : GH) (v : Value) : assignA C d g (.lit v) = ⟨True, .lit v, [], []⟩ := by
  unfold assignA; split
  · rename_i h; cases h
  · rfl
theorem assignA_agg (C : Cfg) (d : Nat) (g : GH) (cs : List AV) : assignA C d g (.agg cs) = ⟨True, .agg cs, [], []⟩ := by
  unfold assignA; split
  · rename_i h; cases h
  · rfl
theorem assignA_at (C : Cfg) (d : Nat) (g : GH) (nl : Option Bool) (l : List AV) (k v : Nat) : assignA C d g (.isl nl l (.at k v)) = ⟨True, .isl nl l (.at k v), [], []⟩ := by
  unfold assignA; split
  · rename_i h; cases h
  · rfl
theorem assignA_nil (C : Cfg) (d : Nat) (g : GH) (h : C.md d = 1) : assignA C d g (.isl (some true) [] .full) =
    ⟨C.may (C.id d) (.tok (nextV g (C.id d))), .isl (some true) [] (.at (C.id d) (nextV g (C.id d))), [C.id d], [(C.id d, .tok (nextV g (C.id d)))]⟩ := by
  unfold assignA; rw [h]; rfl
theorem res1_cell (P : Program) (fr : List AV) (g : GH) (a : Nat) (t : TypeId) : res1 P fr g (.cell a t) = loadA P t g (fr.getD a (.lit undef)) := by exact Eq.trans rfl rfl
attribute [go_sem] res1_cell assignA_lit assignA_agg assignA_at assignA_nil

/-! ### a state that says less, names of one's own kept -/
def subL : List (Nat × Blk) → List (Nat × Blk) → Prop
  | [], _ => True
  | (k, c) :: l, L => look L k = some c ∧ subL l L
def okL (n : Nat) (L : List (Nat × Blk)) : List (Nat × Blk) → Prop
  | [] => True
  | (_, b) :: l => b.only (keepP n L) ∧ okL n L l
theorem subL_spec {L : List (Nat × Blk)} : ∀ {l : List (Nat × Blk)}, subL l L → ∀ d b, look l d = some b → look L d = some b
  | [], _, d, b, h => by simp [look] at h
  | (k, c) :: l, hs, d, b, h => by
    rw [look_cons] at h
    split at h
    · rename_i e; subst e; cases h; exact hs.1
    · exact subL_spec hs.2 d b h
theorem okL_spec {n : Nat} {L : List (Nat × Blk)} : ∀ {l : List (Nat × Blk)}, okL n L l → ∀ d b, look l d = some b → b.only (keepP n L)
  | [], _, d, b, h => by simp [look] at h
  | (k, c) :: l, hs, d, b, h => by
    rw [look_cons] at h
    split at h
    · cases h; exact hs.1
    · exact okL_spec hs.2 d b h
theorem imp_loc {C : Cfg} {fr fr' : List AV} {o : GH} {loc loc' : List (Nat × Blk)} (h1 : leL fr fr') (h2 : subL loc' loc) (h3 : ∀ x, x ∈ fr' → x.only (keepP C.n loc')) (h4 : okL C.n loc' loc') : Imp C fr ⟨o, loc⟩ fr' ⟨o, loc'⟩ :=
  Weak.imp ⟨h1, rfl, subL_spec h2, h3, okL_spec h4⟩
theorem subL_nil (L : List (Nat × Blk)) : subL [] L = True := rfl
theorem subL_cons (k : Nat) (c : Blk) (l L : List (Nat × Blk)) : subL ((k, c) :: l) L = (look L k = some c ∧ subL l L) := rfl
theorem okL_nil (n : Nat) (L : List (Nat × Blk)) : okL n L [] = True := rfl
theorem okL_cons (n : Nat) (L : List (Nat × Blk)) (k : Nat) (b : Blk) (l : List (Nat × Blk)) : okL n L ((k, b) :: l) = (b.only (keepP n L) ∧ okL n L l) := rfl
theorem bonly_cells (p : Nat → Prop) (v : Nat) (cs : List AV) : (Blk.cells v cs).only p = ∀ x, x ∈ cs → x.only p := rfl
theorem bonly_tok (p : Nat → Prop) (v : Nat) : (Blk.tok v).only p = True := rfl
end Go.Av
