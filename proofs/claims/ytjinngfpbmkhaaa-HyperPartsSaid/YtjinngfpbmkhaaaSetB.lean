import Derived.Test.YtjinngfpbmkhaaaSetA
/- Sets of small numbers: what is written. -/
namespace Go.Proofs.Ytjinngfpbmkhaaa.Set
open Go Go.Av
open Go.Proofs.Ytjinngfpbmkhaaa.Bits (andI_NB orI_NB)
set_option linter.unusedSimpArgs false
set_option linter.unusedVariables false
theorem sees_set {g : GH} {b vb r vr : Nat} {ws : List W64} (hb : g b = some (.cells vb [.osl r vr 1 0 ws.length])) (hr : g r = some (.cells vr (Wl ws))) : Sees g (.ptr b vb 0) (SI ws) := by
  refine Sees.box hb ?_
  have := Sees.osl (off := 0) (len := ws.length) hr (Wl_idf ws) (by simp)
  rwa [List.drop_zero, show ((Wl ws).take ws.length) = Wl ws by rw [← Wl_len ws, List.take_length]] at this
theorem has_own {g : GH} {b vb r vr : Nat} {ws : List W64} (hb : g b = some (.cells vb [.osl r vr 1 0 ws.length])) (hr : g r = some (.cells vr (Wl ws))) (n : Int) (hl : ws.length ≤ 1024) (hn : -9223372036854775808 ≤ n) (hn1 : n ≤ 9223372036854775807) :
    PureC Try.prog 109 [.ptr b vb 0, I64 n] g (BB (hasI ws n)) :=
  PureC.view (args' := [SI ws, I64 n]) ⟨sees_set hb hr, Sees.idf rfl, trivial⟩ (has_c (.set ws) n hl hn hn1 _) (.lit _)
theorem Has_own {g : GH} {b vb r vr : Nat} {ws : List W64} (hb : g b = some (.cells vb [.osl r vr 1 0 ws.length])) (hr : g r = some (.cells vr (Wl ws))) (n : Int) (hl : ws.length ≤ 1024) (hn : -9223372036854775808 ≤ n) (hn1 : n ≤ 9223372036854775807) :
    PureC Try.prog 70 [.ptr b vb 0, I64 n] g (BB (hasI ws n)) :=
  PureC.view (args' := [SI ws, I64 n]) ⟨sees_set hb hr, Sees.idf rfl, trivial⟩ (Has_c (.set ws) n hl hn hn1 _) (.lit _)
/-- What is left of a set, and of its row. -/
def wrS (b vb r : Nat) (ws : List W64) (v : Nat) : List (Nat × Blk) := [(r, .cells v (Wl ws)), (b, .cells vb [.osl r v 1 0 ws.length])]
theorem Wl_pad (ws : List W64) (k : Nat) : Wl ws ++ List.replicate k (U64 0) = Wl (ws ++ List.replicate k 0#64) := by rw [Wl_rep]; simp
theorem gput3 (g : GH) {b r : Nat} (h : b ≠ r) (x y z : Blk) : gput (gput (gput g r x) b y) r z = gput (gput g r z) b y := by
  funext i; unfold gput
  by_cases h1 : i = r
  · subst h1; simp [h.symm]
  · simp [h1]
theorem add_own {g : GH} {b vb r vr : Nat} {ws : List W64} (hb : g b = some (.cells vb [.osl r vr 1 0 ws.length])) (hr : g r = some (.cells vr (Wl ws))) (hbr : b ≠ r) (n : Int) (hl : ws.length ≤ 1024) (hn : -9223372036854775808 ≤ n) (hn1 : n ≤ 9223372036854775807) :
    CallC Try.prog 135 [.ptr b vb 0, I64 n] g (fun x g' => ∃ v : Nat, x = BB (!(hasI ws n || !goodN n)) ∧ g' = gputs g (wrS b vb r (addI ws n) v)) := by
  refine CallC.body (fun _ => none) (fun d => if d = 36 then 2 else 0) Try.func135 rfl Try.results135 Try.ntmps135 ?_
  intro n0 hn0
  simp only [go_sem]
  have hb0 : b < n0 := lt_of_named hn0 hb
  have hr0 : r < n0 := lt_of_named hn0 hr
  have hw : ∀ v p, p ∈ wrS b vb r (addI ws n) v → p.1 < n0 := by
    intro v p hp
    simp only [wrS, List.mem_cons, List.not_mem_nil, or_false] at hp
    rcases hp with rfl | rfl <;> assumption
  have same : addI ws n = ws → g = gputs g (wrS b vb r (addI ws n) vr) := by
    intro e
    rw [e]
    refine (gputs_same fun p hp => ?_).symm
    simp only [wrS, List.mem_cons, List.not_mem_nil, or_false] at hp
    rcases hp with rfl | rfl <;> assumption
  have hgb : HP.get ⟨g, []⟩ n0 b = some (.cells vb [.osl r vr 1 0 ws.length]) := by rw [get_out _ _ _ _ hb0]; exact hb
  have hgr : HP.get ⟨g, []⟩ n0 r = some (.cells vr (Wl ws)) := by rw [get_out _ _ _ _ hr0]; exact hr
  by_cases h1 : n < 0
  · simp only [go_sem, h1]
    have hg : goodN n = false := by unfold goodN; simp; omega
    refine FnPost_effX hn0 (by simp) (fun _ => BB (!(hasI ws n || !goodN n))) (fun v => wrS b vb r (addI ws n) v) vr (hw vr) (same (by unfold addI; simp [hg])) (.lit _) ?_
    simp only [go_sem]
    exact leA_bool (by simp [hg])
  · by_cases h2 : 65536 ≤ n
    · simp only [go_sem, h1, h2]
      have hg : goodN n = false := by unfold goodN; simp; omega
      refine FnPost_effX hn0 (by simp) (fun _ => BB (!(hasI ws n || !goodN n))) (fun v => wrS b vb r (addI ws n) v) vr (hw vr) (same (by unfold addI; simp [hg])) (.lit _) ?_
      simp only [go_sem]
      exact leA_bool (by simp [hg])
    · have hg : goodN n = true := by unfold goodN; simp; omega
      simp only [go_sem, h1, h2]
      refine WE_pure _ _ _ _ _ _ _ _ (has_own hgb hgr n hl hn hn1) ?_
      simp only [go_sem]
      by_cases h3 : hasI ws n = true
      · simp only [go_sem, h3]
        refine FnPost_effX hn0 (by simp) (fun _ => BB (!(true || !goodN n))) (fun v => wrS b vb r (addI ws n) v) vr (hw vr) (same (by unfold addI; simp [h3])) (.lit _) ?_
        simp only [go_sem]
        exact leA_bool (by simp)
      · have h3 : hasI ws n = false := by simpa using h3
        simp only [go_sem, h3, hgb]
        (repeat (refine ⟨by omega, ?_⟩))
        obtain ⟨k, rfl⟩ := Int.eq_ofNat_of_zero_le (show 0 ≤ n by omega)
        have ek : (k : Int) / 64 = ((k / 64 : Nat) : Int) := by omega
        have e1 : IntKind.i64.wrap (IntKind.i64.wrap (((k / 64 : Nat) : Int) + 1) - (ws.length : Int)) = ((k / 64 : Nat) : Int) + 1 - ws.length := by rw [wrap_i64, wrap_i64]; omega
        have ea : addI ws (k : Int) = addN ws k := by unfold addI; rw [h3, hg]; rfl
        rw [ek, e1]
        have hmr : ∀ v l, Cfg.may ⟨Try.prog, n0, 53, fun _ => none, fun d => if d = 36 then 2 else 0⟩ r (.cells v (Wl l)) = True := fun v l => by
          rw [may_out _ _ _ _ _ _ _ hr0]
          exact eq_true fun x hx => by obtain ⟨_, -, rfl⟩ := List.mem_map.1 hx; exact .lit _
        have hmb : ∀ v v' m, Cfg.may ⟨Try.prog, n0, 53, fun _ => none, fun d => if d = 36 then 2 else 0⟩ b (.cells v [.osl r v' 1 0 m]) = True := fun v v' m => by
          rw [may_out _ _ _ _ _ _ _ hb0]
          exact eq_true fun x hx => by rw [List.mem_singleton] at hx; subst hx; exact .osl hr0
        by_cases h4 : 0 < ((k / 64 : Nat) : Int) + 1 - ws.length
        · have hd : ([AV.lit (Value.int IntKind.u64 0)].headD AV.any) = U64 0 := rfl
          have en : (((k / 64 : Nat) : Int) + 1 - ws.length).toNat = k / 64 + 1 - ws.length := by omega
          have hp : Wl ws ++ List.replicate (k / 64 + 1 - ws.length) (U64 0) = Wl (padW ws k) := Wl_pad ws _
          have hfl : ∀ j, (List.replicate j (U64 0)).flatMap AV.cells = List.replicate j (U64 0) := fun j => by rw [List.flatMap_replicate]; simp [AV.cells]
          have hfe : ∀ j, elsOk 1 (List.replicate j (U64 0)) = True := fun j => eq_true fun e he => by rw [List.eq_of_mem_replicate he]; exact ⟨rfl, rfl⟩
          have hpl : ws.length + (k / 64 + 1 - ws.length) = (padW ws k).length := by unfold padW; simp
          simp only [go_sem, h4, hgb, hgr, hd, en, hfl, hp, hfe, List.length_replicate, List.length_map, hmr, hmb, put_out _ _ _ _ _ hr0, put_out _ _ _ _ _ hb0, get_out _ _ _ _ hb0, get_out _ _ _ _ hr0, gput_same, gput_ne _ _ _ _ hbr, gput_ne _ _ _ _ hbr.symm, hb, hr, hpl]
          (repeat (refine ⟨by omega, ?_⟩))
          have hGb : HP.get ⟨gput (gput g r (.cells (vr + 1) (Wl (padW ws k)))) b (.cells vb [.osl r (vr + 1) 1 0 (padW ws k).length]), []⟩ n0 b = some (.cells vb [.osl r (vr + 1) 1 0 (padW ws k).length]) := by rw [get_out _ _ _ _ hb0, gput_same]
          have hGr : HP.get ⟨gput (gput g r (.cells (vr + 1) (Wl (padW ws k)))) b (.cells vb [.osl r (vr + 1) 1 0 (padW ws k).length]), []⟩ n0 r = some (.cells (vr + 1) (Wl (padW ws k))) := by rw [get_out _ _ _ _ hr0, gput_ne _ _ _ _ hbr.symm, gput_same]
          have hpk := padW_len ws k
          have hpk2 : (padW ws k).length = max ws.length (k / 64 + 1) := by rw [← hpl]; omega
          have hsp : ∀ x : W64, (Wl (padW ws k)).take (k / 64) ++ [U64 (NB x)] ++ (Wl (padW ws k)).drop (k / 64 + 1) = Wl ((padW ws k).set (k / 64) x) := fun x => Wl_splice _ _ x (hpk)
          have hwg : (Wl (padW ws k)).getD (k / 64) .any = U64 (NB ((padW ws k).getD (k / 64) 0#64)) := Wl_get _ _ (hpk)
          refine WC_draw Ty.mixed (by kernel_rfl) ?_
          simp only [go_sem, hGb, hGr, ek, Nat.mul_one, List.length_map]
          (repeat (refine ⟨by omega, ?_⟩))
          refine DE_pure _ _ _ _ _ _ _ _ _ [] (fun g' _ => bit_c k (by omega) _) ?_
          simp only [go_sem, hGb, hGr, hwg, orI_NB, Nat.mul_one, List.length_map, hsp, hmr, put_out _ _ _ _ _ hr0]
          (repeat (refine ⟨by omega, ?_⟩))
          refine WD_end (by (simp only [POL, PO1, List.take_succ_cons, List.take_zero, List.take_nil, and_true, true_and]; (repeat' apply And.intro) <;> first | exact trivial | (right; unfold HA; simp; done) | (left; kernel_rfl))) ?_
          simp only [go_sem]
          refine FnPost_effX hn0 (by simp) (fun _ => BB (!!goodN (k : Int))) (fun v => wrS b vb r (addI ws (k : Int)) v) (vr + 1) (hw (vr + 1)) ?_ (.lit _) ?_
          · rw [ea]
            show gput (gput (gput g r _) b _) r _ = gput (gput g r _) b _
            rw [gput3 _ hbr, addN_len, ← hpk2]; rfl
          · simp only [go_sem]
            exact leA_bool (by simp [hg])
        · simp only [go_sem, h4, hgb]
          have hGb := hgb
          have hGr := hgr
          have hlt : k / 64 < ws.length := by omega
          have hsp : ∀ x : W64, (Wl (ws)).take (k / 64) ++ [U64 (NB x)] ++ (Wl (ws)).drop (k / 64 + 1) = Wl ((ws).set (k / 64) x) := fun x => Wl_splice _ _ x (hlt)
          have hwg : (Wl (ws)).getD (k / 64) .any = U64 (NB ((ws).getD (k / 64) 0#64)) := Wl_get _ _ (hlt)
          refine WC_draw Ty.mixed (by kernel_rfl) ?_
          simp only [go_sem, hGb, hGr, ek, Nat.mul_one, List.length_map]
          (repeat (refine ⟨by omega, ?_⟩))
          refine DE_pure _ _ _ _ _ _ _ _ _ [] (fun g' _ => bit_c k (by omega) _) ?_
          simp only [go_sem, hGb, hGr, hwg, orI_NB, Nat.mul_one, List.length_map, hsp, hmr, put_out _ _ _ _ _ hr0]
          (repeat (refine ⟨by omega, ?_⟩))
          refine WD_end (by (simp only [POL, PO1, List.take_succ_cons, List.take_zero, List.take_nil, and_true, true_and]; (repeat' apply And.intro) <;> first | exact trivial | (right; unfold HA; simp; done) | (left; kernel_rfl))) ?_
          simp only [go_sem]
          refine FnPost_effX hn0 (by simp) (fun _ => BB (!!goodN (k : Int))) (fun v => wrS b vb r (addI ws (k : Int)) v) vr (hw vr) ?_ (.lit _) ?_
          · have hpw : padW ws k = ws := by unfold padW; rw [show k / 64 + 1 - ws.length = 0 by omega]; simp
            rw [ea]
            show gput g r _ = gput (gput g r _) b _
            rw [addN_len, show max ws.length (k / 64 + 1) = ws.length by omega, addN, hpw]
            funext i
            unfold gput
            by_cases h5 : i = b
            · subst h5; rw [if_neg hbr, if_pos rfl]; exact hb
            · rw [if_neg h5]
          · simp only [go_sem]
            exact leA_bool (by simp [hg])
theorem clrN_len (ws : List W64) (n : Nat) : (clrN ws n).length = ws.length := by unfold clrN; simp
/-! ### new sets -/
theorem Il_get (l : List Int) (i : Nat) (h : i < l.length) : (Il l).getD i .any = I64 (l.getD i 0) := by
  simp [List.getD_eq_getElem?_getD, h]
def newW (l : List Int) (i : Nat) : List W64 := (l.take i).foldl addI []
theorem newW_succ (l : List Int) (i : Nat) (h : i < l.length) : newW l (i + 1) = addI (newW l i) (l.getD i 0) := by
  unfold newW
  rw [List.take_succ_eq_append_getElem h, List.foldl_append]
  simp [List.getD_eq_getElem?_getD, h]
theorem newW_is (l : List Int) (i : Nat) : IsS (newW l i) (ofL (l.take i)) := by
  have key : ∀ (m : List Int) (ws : List W64) (x : List Int), IsS ws x → IsS (m.foldl addI ws) (m.foldl addL x) := by
    intro m
    induction m with
    | nil => exact fun ws x h => h
    | cons y m ih => exact fun ws x h => ih _ _ (h.add y)
  exact key _ _ _ IsS.nil
theorem new_c (nl : Option Bool) (l : List Int) (tok : Tk) (hl : l.length ≤ 1000000000) (hr : ∀ x, x ∈ l → -9223372036854775808 ≤ x ∧ x ≤ 9223372036854775807) (g : GH) : PureC Try.prog 108 [.isl nl (Il l) tok] g (SI (newW l l.length)) := by
  refine CallC.body (fun _ => none) (fun _ => 0) Try.func108 rfl Try.results108 Try.ntmps108 ?_
  intro n0 hn0
  simp only [go_sem]
  simp only [go_sem, List.length_map]
  refine WC_loop (fun p : Nat × Nat => [.any, .any, .any, .ptr (n0 + 7) 0 0, .any, .any, .any, .any, .isl nl (Il l) .no, I64 l.length, I64 p.1, .any, .any, .any, .any, .any, .any, .any, .any]) (fun p => ⟨g, [(4, .cells p.2 (Wl (newW l p.1))), (7, .cells 0 [.osl (n0 + 4) p.2 1 0 (newW l p.1).length])]⟩) (fun p => p.1 ≤ l.length) (fun p => l.length - p.1) (0, 0) (by simp) ?_ ?_
  · refine Imp.trans (fr' := [.any, .any, .any, .ptr (n0 + 7) 0 0, .any, .any, .any, .any, .isl nl (Il l) .no, I64 l.length, I64 0, .any, .any, .any, .any, .any, .any, .any, .any]) (h' := ⟨g, [(7, .cells 0 [.isl (some true) [] .full])]⟩) (by refine imp_loc (by ((try simp only [cells_agg, cells_lit, leL_cons, leL_nil, leA_any, leA_lits, leA_isl, leA_self, and_self, true_and, and_true, or_true, true_or, Value.int.injEq, Value.bool.injEq, Value.string.injEq, AV.lit.injEq, Option.some.injEq, Blk.cells.injEq, Blk.tok.injEq, List.cons.injEq, Tk.at.injEq, subL_nil, subL_cons, look_nil, look_cons, ↓reduceIte, Nat.reduceEqDiff, Option.isSome_some, reduceCtorEq, or_false, false_or, if_true, if_false]); (try first | done | omega | (simp; done) | (simp; omega)))) (by ((try simp only [cells_agg, cells_lit, leL_cons, leL_nil, leA_any, leA_lits, leA_isl, leA_self, and_self, true_and, and_true, or_true, true_or, Value.int.injEq, Value.bool.injEq, Value.string.injEq, AV.lit.injEq, Option.some.injEq, Blk.cells.injEq, Blk.tok.injEq, List.cons.injEq, Tk.at.injEq, subL_nil, subL_cons, look_nil, look_cons, ↓reduceIte, Nat.reduceEqDiff, Option.isSome_some, reduceCtorEq, or_false, false_or, if_true, if_false]); (try first | done | omega | (simp; done) | (simp; omega)))) (by ((try simp only [cells_agg, cells_lit, List.mem_cons, List.not_mem_nil, or_false, forall_eq_or_imp, forall_eq, only_any, only_lit', only_iptr, only_no, only_full, only_at, only_ptr, only_osl, only_agg, only_tup, only_fn, and_self, implies_true, and_true, true_and, okL_nil, okL_cons, bonly_cells, bonly_tok, keepP_add, look_nil, look_cons, ↓reduceIte, Nat.reduceEqDiff, Option.isSome_some, reduceCtorEq, false_or, if_true, if_false, false_implies]); (try first | done | omega | ((repeat' refine And.intro ?_ ?_) <;> (intro _ hx; obtain ⟨_, -, rfl⟩ := List.mem_map.1 hx; exact .lit _))))) (by ((try simp only [cells_agg, cells_lit, List.mem_cons, List.not_mem_nil, or_false, forall_eq_or_imp, forall_eq, only_any, only_lit', only_iptr, only_no, only_full, only_at, only_ptr, only_osl, only_agg, only_tup, only_fn, and_self, implies_true, and_true, true_and, okL_nil, okL_cons, bonly_cells, bonly_tok, keepP_add, look_nil, look_cons, ↓reduceIte, Nat.reduceEqDiff, Option.isSome_some, reduceCtorEq, false_or, if_true, if_false, false_implies]); (try first | done | omega | ((repeat' refine And.intro ?_ ?_) <;> (intro _ hx; obtain ⟨_, -, rfl⟩ := List.mem_map.1 hx; exact .lit _)))))) ?_
    refine imp_nilG (n0 + 4) 1 (by simp only; omega) (by rw [get_loc]; rfl) (by rw [get_loc]; rfl) ?_ (leNL_refl _ _ _)
    intro i hi
    by_cases h7 : i = n0 + 7
    · subst h7
      right
      refine ⟨.cells 0 [.isl (some true) [] .full], .cells 0 [.osl (n0 + 4) 0 1 0 0], by rw [get_loc]; rfl, by rw [get_loc]; rfl, ⟨rfl, ⟨rfl, rfl, rfl, rfl, rfl⟩, trivial⟩, fun h => by simp only at h; omega⟩
    · left
      unfold HP.get
      split
      · rfl
      · simp only [look_cons, look_nil]
        rw [if_neg (by omega), if_neg (by omega), if_neg (by omega)]
  · rintro ⟨i, v⟩ hi
    simp only at hi
    simp only [go_sem]
    split
    · rename_i hlt
      have hlt : i < l.length := by omega
      have e1 : IntKind.i64.wrap ((i : Int) + 1) = ((i + 1 : Nat) : Int) := by rw [wrap_i64]; omega
      simp only [go_sem, List.length_map, Il_get l i hlt]
      (repeat (refine ⟨by omega, ?_⟩))
      have hx := hr _ (getD_mem hlt)
      have hws := (newW_is l i).len_le
      refine WE_effX _ _ (add_own (b := n0 + 7) (vb := 0) (r := n0 + 4) (vr := v) (ws := newW l i) (by rw [get_loc]; rfl) (by rw [get_loc]; rfl) (by omega) (l.getD i 0) hws hx.1 hx.2 _) ?_ ?_
      · intro x p hp hlt2
        simp only [wrS, List.mem_cons, List.not_mem_nil, or_false] at hp
        rcases hp with rfl | rfl <;> simp only at hlt2 <;> omega
      · intro v'
        simp only [go_sem, wrS]
        refine LP_next (i + 1, v') (by simp only; omega) (by simp only; omega) ?_
        rw [e1, ← newW_succ l i hlt]
        refine imp_loc (by ((try simp only [cells_agg, cells_lit, leL_cons, leL_nil, leA_any, leA_lits, leA_isl, leA_self, and_self, true_and, and_true, or_true, true_or, Value.int.injEq, Value.bool.injEq, Value.string.injEq, AV.lit.injEq, Option.some.injEq, Blk.cells.injEq, Blk.tok.injEq, List.cons.injEq, Tk.at.injEq, subL_nil, subL_cons, look_nil, look_cons, ↓reduceIte, Nat.reduceEqDiff, Option.isSome_some, reduceCtorEq, or_false, false_or, if_true, if_false]); (try first | done | omega | (simp; done) | (simp; omega)))) (by ((try simp only [cells_agg, cells_lit, leL_cons, leL_nil, leA_any, leA_lits, leA_isl, leA_self, and_self, true_and, and_true, or_true, true_or, Value.int.injEq, Value.bool.injEq, Value.string.injEq, AV.lit.injEq, Option.some.injEq, Blk.cells.injEq, Blk.tok.injEq, List.cons.injEq, Tk.at.injEq, subL_nil, subL_cons, look_nil, look_cons, ↓reduceIte, Nat.reduceEqDiff, Option.isSome_some, reduceCtorEq, or_false, false_or, if_true, if_false]); (try first | done | omega | (simp; done) | (simp; omega)))) (by ((try simp only [cells_agg, cells_lit, List.mem_cons, List.not_mem_nil, or_false, forall_eq_or_imp, forall_eq, only_any, only_lit', only_iptr, only_no, only_full, only_at, only_ptr, only_osl, only_agg, only_tup, only_fn, and_self, implies_true, and_true, true_and, okL_nil, okL_cons, bonly_cells, bonly_tok, keepP_add, look_nil, look_cons, ↓reduceIte, Nat.reduceEqDiff, Option.isSome_some, reduceCtorEq, false_or, if_true, if_false, false_implies]); (try first | done | omega | ((repeat' refine And.intro ?_ ?_) <;> (intro _ hx; obtain ⟨_, -, rfl⟩ := List.mem_map.1 hx; exact .lit _))))) (by ((try simp only [cells_agg, cells_lit, List.mem_cons, List.not_mem_nil, or_false, forall_eq_or_imp, forall_eq, only_any, only_lit', only_iptr, only_no, only_full, only_at, only_ptr, only_osl, only_agg, only_tup, only_fn, and_self, implies_true, and_true, true_and, okL_nil, okL_cons, bonly_cells, bonly_tok, keepP_add, look_nil, look_cons, ↓reduceIte, Nat.reduceEqDiff, Option.isSome_some, reduceCtorEq, false_or, if_true, if_false, false_implies]); (try first | done | omega | ((repeat' refine And.intro ?_ ?_) <;> (intro _ hx; obtain ⟨_, -, rfl⟩ := List.mem_map.1 hx; exact .lit _)))))
    · have : i = l.length := by omega
      subst this
      have htw : (Wl (newW l l.length)).take (newW l l.length).length = Wl (newW l l.length) := by rw [← Wl_len (newW l l.length), List.take_length]
      generalize newW l l.length = W at *
      refine FnPost_imp (fr' := [.any, .any, .ptr (n0 + 7) 0 0, .any, .any, .any, .any, .any, .any, .any, .any, .any, .any, .any, .any, .any, .any, .any, .any]) (h' := ⟨g, [(4, .cells v (Wl W)), (7, .cells 0 [.osl (n0 + 4) v 1 0 W.length])]⟩) (by refine imp_loc (by ((try simp only [cells_agg, cells_lit, leL_cons, leL_nil, leA_any, leA_lits, leA_isl, leA_self, and_self, true_and, and_true, or_true, true_or, Value.int.injEq, Value.bool.injEq, Value.string.injEq, AV.lit.injEq, Option.some.injEq, Blk.cells.injEq, Blk.tok.injEq, List.cons.injEq, Tk.at.injEq, subL_nil, subL_cons, look_nil, look_cons, ↓reduceIte, Nat.reduceEqDiff, Option.isSome_some, reduceCtorEq, or_false, false_or, if_true, if_false]); (try first | done | omega | (simp; done) | (simp; omega)))) (by ((try simp only [cells_agg, cells_lit, leL_cons, leL_nil, leA_any, leA_lits, leA_isl, leA_self, and_self, true_and, and_true, or_true, true_or, Value.int.injEq, Value.bool.injEq, Value.string.injEq, AV.lit.injEq, Option.some.injEq, Blk.cells.injEq, Blk.tok.injEq, List.cons.injEq, Tk.at.injEq, subL_nil, subL_cons, look_nil, look_cons, ↓reduceIte, Nat.reduceEqDiff, Option.isSome_some, reduceCtorEq, or_false, false_or, if_true, if_false]); (try first | done | omega | (simp; done) | (simp; omega)))) (by ((try simp only [cells_agg, cells_lit, List.mem_cons, List.not_mem_nil, or_false, forall_eq_or_imp, forall_eq, only_any, only_lit', only_iptr, only_no, only_full, only_at, only_ptr, only_osl, only_agg, only_tup, only_fn, and_self, implies_true, and_true, true_and, okL_nil, okL_cons, bonly_cells, bonly_tok, keepP_add, look_nil, look_cons, ↓reduceIte, Nat.reduceEqDiff, Option.isSome_some, reduceCtorEq, false_or, if_true, if_false, false_implies]); (try first | done | omega | ((repeat' refine And.intro ?_ ?_) <;> (intro _ hx; obtain ⟨_, -, rfl⟩ := List.mem_map.1 hx; exact .lit _))))) (by ((try simp only [cells_agg, cells_lit, List.mem_cons, List.not_mem_nil, or_false, forall_eq_or_imp, forall_eq, only_any, only_lit', only_iptr, only_no, only_full, only_at, only_ptr, only_osl, only_agg, only_tup, only_fn, and_self, implies_true, and_true, true_and, okL_nil, okL_cons, bonly_cells, bonly_tok, keepP_add, look_nil, look_cons, ↓reduceIte, Nat.reduceEqDiff, Option.isSome_some, reduceCtorEq, false_or, if_true, if_false, false_implies]); (try first | done | omega | ((repeat' refine And.intro ?_ ?_) <;> (intro _ hx; obtain ⟨_, -, rfl⟩ := List.mem_map.1 hx; exact .lit _)))))) ?_
      refine FnPost_imp (imp_freeze (fr' := [.any, .any, .ptr (n0 + 7) 0 0, .any, .any, .any, .any, .any, .any, .any, .any, .any, .any, .any, .any, .any, .any, .any, .any]) (loc' := [(7, .cells 0 [.isl none (Wl W) .no])]) 4 v (Wl W) (by first | rfl | (simp only [look_cons, ↓reduceIte, Nat.reduceEqDiff]; done)) (Wl_idf _) (by ((try simp only [leFL_nil, leFL_cons, leF_any, leF_lit, leF_ptrs, leF_osls, leF_iptrs, leF_islw, leF_islfull, leF_islat, leF_ptr, leF_osl, leFB_cells, leFB_tok, leFH_nil, leFH_cons, and_true, true_and, and_self, ↓reduceIte, Nat.reduceEqDiff, ne_eq, not_false_eq_true, not_true_eq_false, reduceCtorEq, Nat.add_left_cancel_iff, Nat.zero_add, List.drop_zero, Nat.add_eq_left, Wl_len, htw]); (try first | done | omega | (simp; done) | (simp; omega)))) (by ((try simp only [leFL_nil, leFL_cons, leF_any, leF_lit, leF_ptrs, leF_osls, leF_iptrs, leF_islw, leF_islfull, leF_islat, leF_ptr, leF_osl, leFB_cells, leFB_tok, leFH_nil, leFH_cons, and_true, true_and, and_self, ↓reduceIte, Nat.reduceEqDiff, ne_eq, not_false_eq_true, not_true_eq_false, reduceCtorEq, Nat.add_left_cancel_iff, Nat.zero_add, List.drop_zero, Nat.add_eq_left, Wl_len, htw]); (try first | done | omega | (simp; done) | (simp; omega))))) ?_
      refine FnPost_imp (imp_freeze (fr' := [.any, .any, SI W, .any, .any, .any, .any, .any, .any, .any, .any, .any, .any, .any, .any, .any, .any, .any, .any]) (loc' := []) 7 0 ([.isl none (Wl W) .no]) (by first | rfl | (simp only [look_cons, ↓reduceIte, Nat.reduceEqDiff]; done)) (rfl) (by ((try simp only [leFL_nil, leFL_cons, leF_any, leF_lit, leF_ptrs, leF_osls, leF_iptrs, leF_islw, leF_islfull, leF_islat, leF_ptr, leF_osl, leFB_cells, leFB_tok, leFH_nil, leFH_cons, and_true, true_and, and_self, ↓reduceIte, Nat.reduceEqDiff, ne_eq, not_false_eq_true, not_true_eq_false, reduceCtorEq, Nat.add_left_cancel_iff, Nat.zero_add, List.drop_zero, Nat.add_eq_left]); (try first | done | omega | (simp; done) | (simp; omega)))) (by ((try simp only [leFL_nil, leFL_cons, leF_any, leF_lit, leF_ptrs, leF_osls, leF_iptrs, leF_islw, leF_islfull, leF_islat, leF_ptr, leF_osl, leFB_cells, leFB_tok, leFH_nil, leFH_cons, and_true, true_and, and_self, ↓reduceIte, Nat.reduceEqDiff, ne_eq, not_false_eq_true, not_true_eq_false, reduceCtorEq, Nat.add_left_cancel_iff, Nat.zero_add, List.drop_zero, Nat.add_eq_left]); (try first | done | omega | (simp; done) | (simp; omega))))) ?_
      refine FnPost_end hn0 (by simp) rfl (only_iptr _ _ |>.2 trivial) ?_
      simp only [go_sem]
      exact leA_refl _
/-- a new set, of one's own, under two names -/
theorem newO_c (b r : Nat) (hbr : b ≠ r) (nl : Option Bool) (l : List Int) (tok : Tk) (hl : l.length ≤ 1000000000) (hrg : ∀ x, x ∈ l → -9223372036854775808 ≤ x ∧ x ≤ 9223372036854775807) (g : GH) (hgb : g b = none) (hgr : g r = none) :
    CallN Try.prog 108 [.isl nl (Il l) tok] g [b, r] (fun x g' => ∃ v : Nat, x = .ptr b 0 0 ∧ g' = gputs g (wrS b 0 r (newW l l.length) v)) := by
  intro n0 hK
  refine CallAt.body (fun d => if d = 7 then some b else none) (fun _ => 0) Try.func108 rfl Try.results108 Try.ntmps108 ?_
  intro hn0
  simp only [go_sem]
  have hb0 : b < n0 := hK b (by simp)
  have hr0 : r < n0 := hK r (by simp)
  have hid : Cfg.id ⟨Try.prog, n0, 19, fun d => if d = 7 then some b else none, fun _ => 0⟩ 7 = b := rfl
  simp only [go_sem, hid, get_out _ _ _ _ hb0, hgb, put_out _ _ _ _ _ hb0, may_out _ _ _ _ _ _ _ hb0, bonly_cells, List.mem_singleton, only_full, List.length_map]
  refine ⟨fun x hx => by subst hx; exact (only_full _ _ _).2 trivial, ?_⟩
  have over4 : ∀ (x y z w : Blk), gput (gput (gput (gput g r x) b y) r z) b w = gput (gput g r z) b w := by
    intro x y z w
    funext i; unfold gput
    by_cases h1 : i = b
    · simp [h1]
    · simp only [if_neg h1]
      by_cases h2 : i = r <;> simp [h2]
  refine WC_loop (fun p : Nat × Nat => [.any, .any, .any, .ptr b 0 0, .any, .any, .any, .any, .isl nl (Il l) .no, I64 l.length, I64 p.1, .any, .any, .any, .any, .any, .any, .any, .any]) (fun p => ⟨gput (gput g r (.cells p.2 (Wl (newW l p.1)))) b (.cells 0 [.osl r p.2 1 0 (newW l p.1).length]), []⟩) (fun p => p.1 ≤ l.length) (fun p => l.length - p.1) (0, 0) (by simp) ?_ ?_
  · refine Imp.trans (fr' := [.any, .any, .any, .ptr b 0 0, .any, .any, .any, .any, .isl nl (Il l) .no, I64 l.length, I64 0, .any, .any, .any, .any, .any, .any, .any, .any]) (h' := ⟨gput g b (.cells 0 [.isl (some true) [] .full]), []⟩) (by refine imp_loc (by ((try simp only [cells_agg, cells_lit, leL_cons, leL_nil, leA_any, leA_lits, leA_isl, leA_self, and_self, true_and, and_true, or_true, true_or, Value.int.injEq, Value.bool.injEq, Value.string.injEq, AV.lit.injEq, Option.some.injEq, Blk.cells.injEq, Blk.tok.injEq, List.cons.injEq, Tk.at.injEq, subL_nil, subL_cons, look_nil, look_cons, ↓reduceIte, Nat.reduceEqDiff, Option.isSome_some, reduceCtorEq, or_false, false_or, if_true, if_false, keepP_out hb0]); (try first | done | omega | (simp; done) | (simp; omega)))) (by ((try simp only [cells_agg, cells_lit, leL_cons, leL_nil, leA_any, leA_lits, leA_isl, leA_self, and_self, true_and, and_true, or_true, true_or, Value.int.injEq, Value.bool.injEq, Value.string.injEq, AV.lit.injEq, Option.some.injEq, Blk.cells.injEq, Blk.tok.injEq, List.cons.injEq, Tk.at.injEq, subL_nil, subL_cons, look_nil, look_cons, ↓reduceIte, Nat.reduceEqDiff, Option.isSome_some, reduceCtorEq, or_false, false_or, if_true, if_false, keepP_out hb0]); (try first | done | omega | (simp; done) | (simp; omega)))) (by ((try simp only [cells_agg, cells_lit, List.mem_cons, List.not_mem_nil, or_false, forall_eq_or_imp, forall_eq, only_any, only_lit', only_iptr, only_no, only_full, only_at, only_ptr, only_osl, only_agg, only_tup, only_fn, and_self, implies_true, and_true, true_and, okL_nil, okL_cons, bonly_cells, bonly_tok, keepP_add, look_nil, look_cons, ↓reduceIte, Nat.reduceEqDiff, Option.isSome_some, reduceCtorEq, false_or, if_true, if_false, false_implies, keepP_out hb0]); (try first | done | omega | ((repeat' refine And.intro ?_ ?_) <;> (intro _ hx; obtain ⟨_, -, rfl⟩ := List.mem_map.1 hx; exact .lit _))))) (by ((try simp only [cells_agg, cells_lit, List.mem_cons, List.not_mem_nil, or_false, forall_eq_or_imp, forall_eq, only_any, only_lit', only_iptr, only_no, only_full, only_at, only_ptr, only_osl, only_agg, only_tup, only_fn, and_self, implies_true, and_true, true_and, okL_nil, okL_cons, bonly_cells, bonly_tok, keepP_add, look_nil, look_cons, ↓reduceIte, Nat.reduceEqDiff, Option.isSome_some, reduceCtorEq, false_or, if_true, if_false, false_implies, keepP_out hb0]); (try first | done | omega | ((repeat' refine And.intro ?_ ?_) <;> (intro _ hx; obtain ⟨_, -, rfl⟩ := List.mem_map.1 hx; exact .lit _)))))) ?_
    refine imp_nilG r 1 (by simp only; omega) (by rw [get_out _ _ _ _ hr0, gput_ne _ _ _ _ hbr.symm]; exact hgr) (by rw [get_out _ _ _ _ hr0, gput_ne _ _ _ _ hbr.symm, gput_same]; rfl) ?_ (leNL_refl _ _ _)
    intro i hi
    by_cases h7 : i = b
    · subst h7
      right
      refine ⟨.cells 0 [.isl (some true) [] .full], .cells 0 [.osl r 0 1 0 0], by rw [get_out _ _ _ _ hb0, gput_same], by rw [get_out _ _ _ _ hb0, gput_same]; rfl, ⟨rfl, ⟨rfl, rfl, rfl, rfl, rfl⟩, trivial⟩, fun h x hx => ?_⟩
      rw [List.mem_singleton] at hx; subst hx; exact .osl hr0
    · left
      unfold HP.get
      split
      · simp only [gput, if_neg h7, if_neg hi]
      · rfl
  · rintro ⟨i, v⟩ hi
    simp only at hi
    simp only [go_sem]
    have hGb : HP.get ⟨gput (gput g r (.cells v (Wl (newW l i)))) b (.cells 0 [.osl r v 1 0 (newW l i).length]), []⟩ n0 b = some (.cells 0 [.osl r v 1 0 (newW l i).length]) := by rw [get_out _ _ _ _ hb0, gput_same]
    have hGr : HP.get ⟨gput (gput g r (.cells v (Wl (newW l i)))) b (.cells 0 [.osl r v 1 0 (newW l i).length]), []⟩ n0 r = some (.cells v (Wl (newW l i))) := by rw [get_out _ _ _ _ hr0, gput_ne _ _ _ _ hbr.symm, gput_same]
    split
    · rename_i hlt
      have hlt : i < l.length := by omega
      have e1 : IntKind.i64.wrap ((i : Int) + 1) = ((i + 1 : Nat) : Int) := by rw [wrap_i64]; omega
      simp only [go_sem, List.length_map, Il_get l i hlt]
      (repeat (refine ⟨by omega, ?_⟩))
      have hx := hrg _ (getD_mem hlt)
      have hws := (newW_is l i).len_le
      refine WE_effX _ _ (add_own hGb hGr hbr (l.getD i 0) hws hx.1 hx.2 _) ?_ ?_
      · intro x p hp hlt2
        simp only [wrS, List.mem_cons, List.not_mem_nil, or_false] at hp
        rcases hp with rfl | rfl
        · exact fun x hx => by obtain ⟨_, -, rfl⟩ := List.mem_map.1 hx; exact .lit _
        · exact fun x hx => by rw [List.mem_singleton] at hx; subst hx; exact .osl hr0
      · intro v'
        simp only [go_sem, wrS, put_out _ _ _ _ _ hb0, put_out _ _ _ _ _ hr0, over4]
        refine LP_next (i + 1, v') (by simp only; omega) (by simp only; omega) ?_
        rw [e1, ← newW_succ l i hlt]
        refine imp_loc (by ((try simp only [cells_agg, cells_lit, leL_cons, leL_nil, leA_any, leA_lits, leA_isl, leA_self, and_self, true_and, and_true, or_true, true_or, Value.int.injEq, Value.bool.injEq, Value.string.injEq, AV.lit.injEq, Option.some.injEq, Blk.cells.injEq, Blk.tok.injEq, List.cons.injEq, Tk.at.injEq, subL_nil, subL_cons, look_nil, look_cons, ↓reduceIte, Nat.reduceEqDiff, Option.isSome_some, reduceCtorEq, or_false, false_or, if_true, if_false, keepP_out hb0]); (try first | done | omega | (simp; done) | (simp; omega)))) (by ((try simp only [cells_agg, cells_lit, leL_cons, leL_nil, leA_any, leA_lits, leA_isl, leA_self, and_self, true_and, and_true, or_true, true_or, Value.int.injEq, Value.bool.injEq, Value.string.injEq, AV.lit.injEq, Option.some.injEq, Blk.cells.injEq, Blk.tok.injEq, List.cons.injEq, Tk.at.injEq, subL_nil, subL_cons, look_nil, look_cons, ↓reduceIte, Nat.reduceEqDiff, Option.isSome_some, reduceCtorEq, or_false, false_or, if_true, if_false, keepP_out hb0]); (try first | done | omega | (simp; done) | (simp; omega)))) (by ((try simp only [cells_agg, cells_lit, List.mem_cons, List.not_mem_nil, or_false, forall_eq_or_imp, forall_eq, only_any, only_lit', only_iptr, only_no, only_full, only_at, only_ptr, only_osl, only_agg, only_tup, only_fn, and_self, implies_true, and_true, true_and, okL_nil, okL_cons, bonly_cells, bonly_tok, keepP_add, look_nil, look_cons, ↓reduceIte, Nat.reduceEqDiff, Option.isSome_some, reduceCtorEq, false_or, if_true, if_false, false_implies, keepP_out hb0]); (try first | done | omega | ((repeat' refine And.intro ?_ ?_) <;> (intro _ hx; obtain ⟨_, -, rfl⟩ := List.mem_map.1 hx; exact .lit _))))) (by ((try simp only [cells_agg, cells_lit, List.mem_cons, List.not_mem_nil, or_false, forall_eq_or_imp, forall_eq, only_any, only_lit', only_iptr, only_no, only_full, only_at, only_ptr, only_osl, only_agg, only_tup, only_fn, and_self, implies_true, and_true, true_and, okL_nil, okL_cons, bonly_cells, bonly_tok, keepP_add, look_nil, look_cons, ↓reduceIte, Nat.reduceEqDiff, Option.isSome_some, reduceCtorEq, false_or, if_true, if_false, false_implies, keepP_out hb0]); (try first | done | omega | ((repeat' refine And.intro ?_ ?_) <;> (intro _ hx; obtain ⟨_, -, rfl⟩ := List.mem_map.1 hx; exact .lit _)))))
    · have : i = l.length := by omega
      subst this
      refine FnPost_effX hn0 (by simp) (fun _ => .ptr b 0 0) (fun v => wrS b 0 r (newW l l.length) v) v ?_ rfl (.ptr hb0) ?_
      · intro p hp
        simp only [wrS, List.mem_cons, List.not_mem_nil, or_false] at hp
        rcases hp with rfl | rfl <;> assumption
      · simp only [go_sem]
        exact leA_refl _
theorem out_Wl {n : Nat} (v : Nat) (ws : List W64) : (Blk.cells v (Wl ws)).only (· < n) := fun x hx => by obtain ⟨_, -, rfl⟩ := List.mem_map.1 hx; exact .lit _
theorem Wl_cells (ws : List W64) : (Wl ws).flatMap AV.cells = Wl ws := by
  induction ws with
  | nil => rfl
  | cons x ws ih => exact congrArg (U64 (NB x) :: ·) ih
end Go.Proofs.Ytjinngfpbmkhaaa.Set
