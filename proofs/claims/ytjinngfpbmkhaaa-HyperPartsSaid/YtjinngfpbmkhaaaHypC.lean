import Derived.Test.YtjinngfpbmkhaaaHypB
import Derived.Test.YtjinngfpbmkhaaaHypM
/- Hypergraphs: ears are taken away. -/
namespace Go.Proofs.Ytjinngfpbmkhaaa.Hyp
open Go Go.Av Go.Proofs.Ytjinngfpbmkhaaa.Set
set_option linter.unusedSimpArgs false
set_option linter.unusedVariables false
theorem jo1_c (x c : Int) (g : GH) : PureC Try.prog 106 [I64 x, .iptr [I64 c]] g (BB (decide (x = c))) := by
  refine CallC.body (fun _ => none) (fun _ => 0) Try.func106 rfl Try.results106 Try.ntmps106 ?_
  intro n0 hn0
  simp only [go_sem]
  refine FnPost_end hn0 (by simp) rfl (only_lit _ _) ?_
  simp only [go_sem]
  exact leA_bool rfl
theorem idx2_c (nl : Option Bool) (l : List Int) (tok : Tk) (f : FuncId) (c : Int) (p : Int → Bool) (g : GH) (hcl : callable Try.prog f = true) (hl : l.length ≤ 9000000000000000000)
    (hp : ∀ z g, PureC Try.prog f [I64 z, .iptr [I64 c]] g (BB (p z))) : PureC Try.prog 83 [.isl nl (Il l) tok, .fn f [.iptr [I64 c]]] g (I64 (firstI p l)) := by
  refine CallC.body (fun _ => none) (fun _ => 0) Try.func83 rfl Try.results83 Try.ntmps83 ?_
  intro n0 hn0
  simp only [go_sem]
  simp only [go_sem, List.length_map]
  refine WC_loop (fun i : Nat => [.isl nl (Il l) .no, .fn f [.iptr [I64 c]], .any, .any, .any, .any, .any, I64 l.length, I64 i, .any, .any, .any, .any, .any, .any, .any, .any, .any, .any]) (fun i => ⟨g, []⟩) (fun i => i ≤ l.length ∧ ∀ j, j < i → p (l.getD j 0) = false) (fun i => l.length - i) 0 ⟨by simp, fun j hj => by omega⟩ ?_ ?_
  · refine imp_loc (by ((try simp only [cells_agg, cells_lit, leL_cons, leL_nil, leA_any, leA_lits, leA_isl, leA_self, and_self, true_and, and_true, or_true, true_or, Value.int.injEq, Value.bool.injEq, Value.string.injEq, AV.lit.injEq, Option.some.injEq, Blk.cells.injEq, Blk.tok.injEq, List.cons.injEq, Tk.at.injEq, subL_nil, subL_cons, look_nil, look_cons, ↓reduceIte, Nat.reduceEqDiff, Option.isSome_some, reduceCtorEq, or_false, false_or, if_true, if_false]); (try first | done | omega | (simp; done) | (simp; omega)))) (by ((try simp only [cells_agg, cells_lit, leL_cons, leL_nil, leA_any, leA_lits, leA_isl, leA_self, and_self, true_and, and_true, or_true, true_or, Value.int.injEq, Value.bool.injEq, Value.string.injEq, AV.lit.injEq, Option.some.injEq, Blk.cells.injEq, Blk.tok.injEq, List.cons.injEq, Tk.at.injEq, subL_nil, subL_cons, look_nil, look_cons, ↓reduceIte, Nat.reduceEqDiff, Option.isSome_some, reduceCtorEq, or_false, false_or, if_true, if_false]); (try first | done | omega | (simp; done) | (simp; omega)))) (by ((try simp only [cells_agg, cells_lit, List.mem_cons, List.not_mem_nil, or_false, forall_eq_or_imp, forall_eq, only_any, only_lit', only_iptr, only_no, only_full, only_at, only_ptr, only_osl, only_agg, only_tup, only_fn, and_self, implies_true, and_true, true_and, okL_nil, okL_cons, bonly_cells, bonly_tok, keepP_add, look_nil, look_cons, ↓reduceIte, Nat.reduceEqDiff, Option.isSome_some, reduceCtorEq, false_or, if_true, if_false, false_implies]); (try first | done | omega | ((repeat' refine And.intro ?_ ?_) <;> (intro _ hx; obtain ⟨_, -, rfl⟩ := List.mem_map.1 hx; exact .lit _))))) (by ((try simp only [cells_agg, cells_lit, List.mem_cons, List.not_mem_nil, or_false, forall_eq_or_imp, forall_eq, only_any, only_lit', only_iptr, only_no, only_full, only_at, only_ptr, only_osl, only_agg, only_tup, only_fn, and_self, implies_true, and_true, true_and, okL_nil, okL_cons, bonly_cells, bonly_tok, keepP_add, look_nil, look_cons, ↓reduceIte, Nat.reduceEqDiff, Option.isSome_some, reduceCtorEq, false_or, if_true, if_false, false_implies]); (try first | done | omega | ((repeat' refine And.intro ?_ ?_) <;> (intro _ hx; obtain ⟨_, -, rfl⟩ := List.mem_map.1 hx; exact .lit _)))))
  · rintro i ⟨hi, hi2⟩
    simp only [go_sem]
    split
    · rename_i hlt
      have hlt : i < l.length := by omega
      have e1 : IntKind.i64.wrap ((i : Int) + 1) = ((i + 1 : Nat) : Int) := by rw [wrap_i64]; omega
      simp only [go_sem, List.length_map, Il_get l i hlt, hcl]
      (repeat (refine ⟨by omega, ?_⟩))
      refine WE_pure _ _ _ _ _ _ _ _ (hp _ _) ?_
      simp only [go_sem]
      cases hpi : p (l.getD i 0) with
      | true =>
        simp only [go_sem, hpi]
        refine FnPost_end hn0 (by simp) rfl (only_lit _ _) ?_
        simp only [go_sem]
        exact leA_int (firstI_at p l i hlt hi2 hpi).symm
      | false =>
        simp only [go_sem, hpi]
        refine LP_next (i + 1) ⟨by omega, fun j hj => by
          by_cases e : j = i
          · rw [e]; exact hpi
          · exact hi2 j (by omega)⟩ (by omega) ?_
        rw [e1]
        refine imp_loc (by ((try simp only [cells_agg, cells_lit, leL_cons, leL_nil, leA_any, leA_lits, leA_isl, leA_self, and_self, true_and, and_true, or_true, true_or, Value.int.injEq, Value.bool.injEq, Value.string.injEq, AV.lit.injEq, Option.some.injEq, Blk.cells.injEq, Blk.tok.injEq, List.cons.injEq, Tk.at.injEq, subL_nil, subL_cons, look_nil, look_cons, ↓reduceIte, Nat.reduceEqDiff, Option.isSome_some, reduceCtorEq, or_false, false_or, if_true, if_false]); (try first | done | omega | (simp; done) | (simp; omega)))) (by ((try simp only [cells_agg, cells_lit, leL_cons, leL_nil, leA_any, leA_lits, leA_isl, leA_self, and_self, true_and, and_true, or_true, true_or, Value.int.injEq, Value.bool.injEq, Value.string.injEq, AV.lit.injEq, Option.some.injEq, Blk.cells.injEq, Blk.tok.injEq, List.cons.injEq, Tk.at.injEq, subL_nil, subL_cons, look_nil, look_cons, ↓reduceIte, Nat.reduceEqDiff, Option.isSome_some, reduceCtorEq, or_false, false_or, if_true, if_false]); (try first | done | omega | (simp; done) | (simp; omega)))) (by ((try simp only [cells_agg, cells_lit, List.mem_cons, List.not_mem_nil, or_false, forall_eq_or_imp, forall_eq, only_any, only_lit', only_iptr, only_no, only_full, only_at, only_ptr, only_osl, only_agg, only_tup, only_fn, and_self, implies_true, and_true, true_and, okL_nil, okL_cons, bonly_cells, bonly_tok, keepP_add, look_nil, look_cons, ↓reduceIte, Nat.reduceEqDiff, Option.isSome_some, reduceCtorEq, false_or, if_true, if_false, false_implies]); (try first | done | omega | ((repeat' refine And.intro ?_ ?_) <;> (intro _ hx; obtain ⟨_, -, rfl⟩ := List.mem_map.1 hx; exact .lit _))))) (by ((try simp only [cells_agg, cells_lit, List.mem_cons, List.not_mem_nil, or_false, forall_eq_or_imp, forall_eq, only_any, only_lit', only_iptr, only_no, only_full, only_at, only_ptr, only_osl, only_agg, only_tup, only_fn, and_self, implies_true, and_true, true_and, okL_nil, okL_cons, bonly_cells, bonly_tok, keepP_add, look_nil, look_cons, ↓reduceIte, Nat.reduceEqDiff, Option.isSome_some, reduceCtorEq, false_or, if_true, if_false, false_implies]); (try first | done | omega | ((repeat' refine And.intro ?_ ?_) <;> (intro _ hx; obtain ⟨_, -, rfl⟩ := List.mem_map.1 hx; exact .lit _)))))
    · have : i = l.length := by omega
      subst this
      refine FnPost_end hn0 (by simp) rfl (only_lit _ _) ?_
      simp only [go_sem]
      exact leA_int (firstI_none p l hi2).symm
theorem Il_splice (l : List Int) (k : Nat) (x : Int) (h : k < l.length) : (Il l).take k ++ [I64 x] ++ (Il l).drop (k + 1) = Il (l.set k x) := by
  unfold Il
  rw [List.map_set, List.set_eq_take_append_cons_drop, if_pos (by simpa using h)]
  simp
/-- where it is first, if it is -/
theorem firstI_cases (p : Int → Bool) (l : List Int) : (firstI p l = -1 ∧ ∀ x, x ∈ l → p x = false) ∨ ∃ i : Nat, firstI p l = i ∧ i < l.length ∧ p (l.getD i 0) = true ∧ ∀ j, j < i → p (l.getD j 0) = false := by
  unfold firstI
  cases h : l.findIdx? p with
  | none =>
    rw [List.findIdx?_eq_none_iff] at h
    exact .inl ⟨rfl, fun x hx => by simpa using h x hx⟩
  | some i =>
    obtain ⟨hi, hp, hj⟩ := List.findIdx?_eq_some_iff_getElem.1 h
    refine .inr ⟨i, rfl, hi, by simpa [List.getD_eq_getElem?_getD, hi] using hp, fun j hj2 => ?_⟩
    have := hj j hj2
    simpa [List.getD_eq_getElem?_getD, show j < l.length by omega] using this
abbrev keepL (l : List Int) (c : Int) : List Int := l.filter fun x => x != c
structure DelI (l : List Int) (c : Int) (i j : Nat) (cur : List Int) : Prop where
  len : cur.length = l.length
  lt : i < j
  le : j ≤ l.length
  front : cur.take i = keepL (l.take j) c
  back : cur.drop j = l.drop j
theorem DelI.get {l : List Int} {c : Int} {i j : Nat} {cur : List Int} (h : DelI l c i j cur) (hj : j < l.length) : cur.getD j 0 = l.getD j 0 := by
  have := congrArg (fun m => m.getD 0 0) h.back
  simpa [List.getD_eq_getElem?_getD] using this
theorem keepL_succ (l : List Int) (c : Int) (j : Nat) (hj : j < l.length) : keepL (l.take (j + 1)) c = keepL (l.take j) c ++ if l.getD j 0 = c then [] else [l.getD j 0] := by
  unfold keepL
  rw [List.take_succ_eq_append_getElem hj, List.filter_append]
  have e : l.getD j 0 = l[j] := by simp [List.getD_eq_getElem?_getD, hj]
  rw [e]
  by_cases h : l[j] = c <;> simp [h]
theorem DelI.skip {l : List Int} {c : Int} {i j : Nat} {cur : List Int} (h : DelI l c i j cur) (hj : j < l.length) (hc : l.getD j 0 = c) : DelI l c i (j + 1) cur := by
  refine ⟨h.len, by have := h.lt; omega, by omega, ?_, ?_⟩
  · rw [keepL_succ l c j hj, if_pos hc, List.append_nil]; exact h.front
  · have := congrArg (List.drop 1) h.back
    simpa [List.drop_drop] using this
theorem DelI.put {l : List Int} {c : Int} {i j : Nat} {cur : List Int} (h : DelI l c i j cur) (hj : j < l.length) (hc : l.getD j 0 ≠ c) : DelI l c (i + 1) (j + 1) (cur.set i (l.getD j 0)) := by
  have hlt := h.lt
  have hlen := h.len
  refine ⟨by simp [h.len], by omega, by omega, ?_, ?_⟩
  · rw [keepL_succ l c j hj, if_neg hc, ← h.front]
    rw [List.take_succ_eq_append_getElem (by simp; omega), List.take_set_of_le (Nat.le_refl _)]
    simp
  · have := congrArg (List.drop 1) h.back
    rw [List.drop_set_of_lt (by omega)]
    simpa [List.drop_drop] using this
theorem keepL_len_ne (l : List Int) (c : Int) (i : Nat) (h : ∀ j, j < i → decide (l.getD j 0 = c) = false) (hi : i ≤ l.length) : keepL (l.take i) c = l.take i := by
  unfold keepL
  rw [List.filter_eq_self]
  intro x hx
  obtain ⟨j, hj, rfl⟩ := List.getElem_of_mem hx
  have hj2 : j < i := by simp at hj; omega
  have := h j hj2
  rw [List.getElem_take]
  simpa [List.getD_eq_getElem?_getD, show j < l.length by omega] using this
theorem DelI.start {l : List Int} {c : Int} {i : Nat} (hi : i < l.length) (hc : decide (l.getD i 0 = c) = true) (h : ∀ j, j < i → decide (l.getD j 0 = c) = false) : DelI l c i (i + 1) l := by
  refine ⟨rfl, by omega, by omega, ?_, rfl⟩
  rw [keepL_succ l c i hi, if_pos (of_decide_eq_true hc), List.append_nil, keepL_len_ne l c i h (by omega)]
theorem DelI.stop {l : List Int} {c : Int} {i : Nat} {cur : List Int} (h : DelI l c i l.length cur) : cur.take i = keepL l c ∧ i = (keepL l c).length := by
  have := h.front
  rw [List.take_length] at this
  refine ⟨this, ?_⟩
  rw [← this, List.length_take, h.len]
  have := h.lt
  omega
theorem del_c (id ver : Nat) (l : List Int) (c : Int) (b bv : Nat) (g : GH) (hg : g id = some (.cells ver (Il l))) (hb : g b = some (.cells bv [I64 c])) (hne : b ≠ id) (hl : l.length ≤ 1000000) :
    CallC Try.prog 105 [.osl id ver 1 0 l.length, .fn 106 [.ptr b bv 0]] g (fun r g' => ∃ x : Unit, r = .osl id ver 1 0 (keepL l c).length ∧ g' = gputs g [(id, .cells ver (Il (keepL l c)))]) := by
  refine CallC.body (fun _ => none) (fun _ => 0) Try.func105 rfl Try.results105 Try.ntmps105 ?_
  intro n0 hn0
  simp only [go_sem]
  have hid : id < n0 := lt_of_named hn0 hg
  have hbd : b < n0 := lt_of_named hn0 hb
  have hIlt : (Il l).take l.length = Il l := by rw [Il_take, List.take_length]
  have hsee : ∀ m : List Int, ∀ g' : GH, g' id = some (.cells ver (Il m)) → m.length = l.length → g' b = some (.cells bv [I64 c]) → SeesL g' [.osl id ver 1 0 l.length, .fn 106 [.ptr b bv 0]] [.isl none (Il m) .no, .fn 106 [.iptr [I64 c]]] := by
    intro m g' h1 h2 h3
    refine ⟨?_, Sees.fn ⟨Sees.box h3 (Sees.idf rfl), trivial⟩, trivial⟩
    have := Sees.osl (off := 0) (len := m.length) h1 (Il_idf m) (by simp)
    rw [h2] at this
    rwa [List.drop_zero, Il_take, ← h2, List.take_length, h2] at this
  have hG : HP.get ⟨g, []⟩ n0 = g := get_nil hn0
  have hw : ∀ (x : Unit) p, p ∈ [(id, Blk.cells ver (Il (keepL l c)))] → p.1 < n0 := by
    intro x p hp; rw [List.mem_singleton] at hp; subst hp; exact hid
  have hidx : PureC Try.prog 83 [.osl id ver 1 0 l.length, .fn 106 [.ptr b bv 0]] (HP.get ⟨g, []⟩ n0) (I64 (firstI (fun x => decide (x = c)) l)) := by
    rw [hG]
    exact PureC.view (hsee l g hg rfl hb) (idx2_c none l .no _ c (fun x => decide (x = c)) _ (by kernel_rfl) (by omega) (fun z g => jo1_c z c g)) (.lit _)
  refine WE_pure _ _ _ _ _ _ _ _ (hidx) ?_
  simp only [go_sem]
  rcases firstI_cases (fun x => decide (x = c)) l with ⟨h1, h2⟩ | ⟨i0, h1, h2, h3, h4⟩
  · rw [h1]
    simp only [go_sem]
    have hk : keepL l c = l := by unfold keepL; rw [List.filter_eq_self]; intro x hx; simpa using h2 x hx
    refine FnPost_effX hn0 (by simp) (fun _ : Unit => .osl id ver 1 0 (keepL l c).length) (fun _ => [(id, .cells ver (Il (keepL l c)))]) () (hw ()) ?_ (.osl hid) ?_
    · rw [hk]
      exact (gputs_same fun p hp => by rw [List.mem_singleton] at hp; subst hp; exact hg).symm
    · simp only [go_sem]
      rw [hk]; exact leA_refl _
  · rw [h1]
    have c1 : ¬ (i0 : Int) = -1 := by omega
    have e0 : IntKind.i64.wrap ((i0 : Int) + 1) = ((i0 + 1 : Nat) : Int) := by rw [wrap_i64]; omega
    have hmr : ∀ v m, Cfg.may ⟨Try.prog, n0, 42, fun _ => none, fun _ => 0⟩ id (.cells v (Il m)) = True := fun v m => by
      rw [may_out _ _ _ _ _ _ _ hid]
      exact eq_true fun x hx => by obtain ⟨_, -, rfl⟩ := List.mem_map.1 hx; exact .lit _
    simp only [go_sem, c1, e0]
    refine WC_loop (fun s : Nat × Nat × List Int => [.osl id ver 1 0 l.length, .fn 106 [.ptr b bv 0], .any, .any, .any, I64 s.1, I64 s.2.1, .any, .any, .any, .any, .any, .any, .any, .any, .any, .any, .any, .any, .any, .any, .any, .any, .any, .any, .any, .any, .any, .any, .any, .any, .any, .any, .any, .any, .any, .any, .any, .any, .any, .any, .any]) (fun s => ⟨gput g id (.cells ver (Il s.2.2)), []⟩) (fun s => DelI l c s.1 s.2.1 s.2.2) (fun s => l.length - s.2.1) (i0, i0 + 1, l) (.start h2 h3 h4) ?_ ?_
    · have e : gput g id (.cells ver (Il l)) = g := by
        funext j; unfold gput; split
        · rename_i e; subst e; exact hg.symm
        · rfl
      rw [e]
      refine imp_loc (by ((try simp only [cells_agg, cells_lit, leL_cons, leL_nil, leA_any, leA_lits, leA_isl, leA_self, and_self, true_and, and_true, or_true, true_or, Value.int.injEq, Value.bool.injEq, Value.string.injEq, AV.lit.injEq, Option.some.injEq, Blk.cells.injEq, Blk.tok.injEq, List.cons.injEq, Tk.at.injEq, subL_nil, subL_cons, look_nil, look_cons, ↓reduceIte, Nat.reduceEqDiff, Option.isSome_some, reduceCtorEq, or_false, false_or, if_true, if_false, only_fn', hid, hbd, keepP_out hid, keepP_out hbd]); (try first | done | omega | (simp; done) | (simp; omega)))) (by ((try simp only [cells_agg, cells_lit, leL_cons, leL_nil, leA_any, leA_lits, leA_isl, leA_self, and_self, true_and, and_true, or_true, true_or, Value.int.injEq, Value.bool.injEq, Value.string.injEq, AV.lit.injEq, Option.some.injEq, Blk.cells.injEq, Blk.tok.injEq, List.cons.injEq, Tk.at.injEq, subL_nil, subL_cons, look_nil, look_cons, ↓reduceIte, Nat.reduceEqDiff, Option.isSome_some, reduceCtorEq, or_false, false_or, if_true, if_false, only_fn', hid, hbd, keepP_out hid, keepP_out hbd]); (try first | done | omega | (simp; done) | (simp; omega)))) (by ((try simp only [cells_agg, cells_lit, List.mem_cons, List.not_mem_nil, or_false, forall_eq_or_imp, forall_eq, only_any, only_lit', only_iptr, only_no, only_full, only_at, only_ptr, only_osl, only_agg, only_tup, only_fn, and_self, implies_true, and_true, true_and, okL_nil, okL_cons, bonly_cells, bonly_tok, keepP_add, look_nil, look_cons, ↓reduceIte, Nat.reduceEqDiff, Option.isSome_some, reduceCtorEq, false_or, if_true, if_false, false_implies, only_fn', hid, hbd, keepP_out hid, keepP_out hbd]); (try first | done | omega | ((repeat' refine And.intro ?_ ?_) <;> (intro _ hx; obtain ⟨_, -, rfl⟩ := List.mem_map.1 hx; exact .lit _))))) (by ((try simp only [cells_agg, cells_lit, List.mem_cons, List.not_mem_nil, or_false, forall_eq_or_imp, forall_eq, only_any, only_lit', only_iptr, only_no, only_full, only_at, only_ptr, only_osl, only_agg, only_tup, only_fn, and_self, implies_true, and_true, true_and, okL_nil, okL_cons, bonly_cells, bonly_tok, keepP_add, look_nil, look_cons, ↓reduceIte, Nat.reduceEqDiff, Option.isSome_some, reduceCtorEq, false_or, if_true, if_false, false_implies, only_fn', hid, hbd, keepP_out hid, keepP_out hbd]); (try first | done | omega | ((repeat' refine And.intro ?_ ?_) <;> (intro _ hx; obtain ⟨_, -, rfl⟩ := List.mem_map.1 hx; exact .lit _)))))
    · rintro ⟨i, j, cur⟩ hinv
      have hlen := hinv.len
      have hlt := hinv.lt
      have hle := hinv.le
      simp only at hlt hle hlen
      have hG2 : HP.get ⟨gput g id (.cells ver (Il cur)), []⟩ n0 = gput g id (.cells ver (Il cur)) := get_nil fun k hk => by rw [gput_ne _ _ _ _ (by omega)]; exact hn0 k hk
      simp only [go_sem, hG2]
      split
      · rename_i hj
        have hj : j < l.length := by omega
        have e1 : IntKind.i64.wrap ((j : Int) + 1) = ((j + 1 : Nat) : Int) := by rw [wrap_i64]; omega
        have e2 : IntKind.i64.wrap ((i : Int) + 1) = ((i + 1 : Nat) : Int) := by rw [wrap_i64]; omega
        have hgj := hinv.get hj
        simp only at hgj
        simp only [go_sem, hG2, gput_same, Nat.mul_one, Il_get cur j (by omega), hgj, List.length_map, hlen]
        (repeat (refine ⟨by omega, ?_⟩))
        have hc : PureC Try.prog 106 [I64 (l.getD j 0), .ptr b bv 0] (HP.get ⟨gput g id (.cells ver (Il cur)), []⟩ n0) (BB (decide (l.getD j 0 = c))) := by
          rw [hG2]
          exact PureC.view (args' := [I64 (l.getD j 0), .iptr [I64 c]]) ⟨Sees.idf rfl, Sees.box (by rw [gput_ne _ _ _ _ hne]; exact hb) (Sees.idf rfl), trivial⟩ (jo1_c _ c _) (.lit _)
        refine WE_pure _ _ _ _ _ _ _ _ (hc) ?_
        simp only [go_sem]
        by_cases hcc : l.getD j 0 = c
        · simp only [go_sem, hcc]
          refine LP_next (i, j + 1, cur) (hinv.skip hj hcc) (by simp only; omega) ?_
          rw [e1]
          refine imp_loc (by ((try simp only [cells_agg, cells_lit, leL_cons, leL_nil, leA_any, leA_lits, leA_isl, leA_self, and_self, true_and, and_true, or_true, true_or, Value.int.injEq, Value.bool.injEq, Value.string.injEq, AV.lit.injEq, Option.some.injEq, Blk.cells.injEq, Blk.tok.injEq, List.cons.injEq, Tk.at.injEq, subL_nil, subL_cons, look_nil, look_cons, ↓reduceIte, Nat.reduceEqDiff, Option.isSome_some, reduceCtorEq, or_false, false_or, if_true, if_false, only_fn', hid, hbd, keepP_out hid, keepP_out hbd]); (try first | done | omega | (simp; done) | (simp; omega)))) (by ((try simp only [cells_agg, cells_lit, leL_cons, leL_nil, leA_any, leA_lits, leA_isl, leA_self, and_self, true_and, and_true, or_true, true_or, Value.int.injEq, Value.bool.injEq, Value.string.injEq, AV.lit.injEq, Option.some.injEq, Blk.cells.injEq, Blk.tok.injEq, List.cons.injEq, Tk.at.injEq, subL_nil, subL_cons, look_nil, look_cons, ↓reduceIte, Nat.reduceEqDiff, Option.isSome_some, reduceCtorEq, or_false, false_or, if_true, if_false, only_fn', hid, hbd, keepP_out hid, keepP_out hbd]); (try first | done | omega | (simp; done) | (simp; omega)))) (by ((try simp only [cells_agg, cells_lit, List.mem_cons, List.not_mem_nil, or_false, forall_eq_or_imp, forall_eq, only_any, only_lit', only_iptr, only_no, only_full, only_at, only_ptr, only_osl, only_agg, only_tup, only_fn, and_self, implies_true, and_true, true_and, okL_nil, okL_cons, bonly_cells, bonly_tok, keepP_add, look_nil, look_cons, ↓reduceIte, Nat.reduceEqDiff, Option.isSome_some, reduceCtorEq, false_or, if_true, if_false, false_implies, only_fn', hid, hbd, keepP_out hid, keepP_out hbd]); (try first | done | omega | ((repeat' refine And.intro ?_ ?_) <;> (intro _ hx; obtain ⟨_, -, rfl⟩ := List.mem_map.1 hx; exact .lit _))))) (by ((try simp only [cells_agg, cells_lit, List.mem_cons, List.not_mem_nil, or_false, forall_eq_or_imp, forall_eq, only_any, only_lit', only_iptr, only_no, only_full, only_at, only_ptr, only_osl, only_agg, only_tup, only_fn, and_self, implies_true, and_true, true_and, okL_nil, okL_cons, bonly_cells, bonly_tok, keepP_add, look_nil, look_cons, ↓reduceIte, Nat.reduceEqDiff, Option.isSome_some, reduceCtorEq, false_or, if_true, if_false, false_implies, only_fn', hid, hbd, keepP_out hid, keepP_out hbd]); (try first | done | omega | ((repeat' refine And.intro ?_ ?_) <;> (intro _ hx; obtain ⟨_, -, rfl⟩ := List.mem_map.1 hx; exact .lit _)))))
        · simp only [go_sem, hcc, hG2, gput_same, List.length_map, hlen, Nat.mul_one, Il_splice cur i _ (by omega), hmr, put_out _ _ _ _ _ hid]
          (repeat (refine ⟨by omega, ?_⟩))
          refine LP_next (i + 1, j + 1, cur.set i (l.getD j 0)) (hinv.put hj hcc) (by simp only; omega) ?_
          have eg : gput (gput g id (.cells ver (Il cur))) id (.cells ver (Il (cur.set i (l.getD j 0)))) = gput g id (.cells ver (Il (cur.set i (l.getD j 0)))) := by
            funext k; unfold gput; split <;> rfl
          rw [e1, e2, eg]
          refine imp_loc (by ((try simp only [cells_agg, cells_lit, leL_cons, leL_nil, leA_any, leA_lits, leA_isl, leA_self, and_self, true_and, and_true, or_true, true_or, Value.int.injEq, Value.bool.injEq, Value.string.injEq, AV.lit.injEq, Option.some.injEq, Blk.cells.injEq, Blk.tok.injEq, List.cons.injEq, Tk.at.injEq, subL_nil, subL_cons, look_nil, look_cons, ↓reduceIte, Nat.reduceEqDiff, Option.isSome_some, reduceCtorEq, or_false, false_or, if_true, if_false, only_fn', hid, hbd, keepP_out hid, keepP_out hbd]); (try first | done | omega | (simp; done) | (simp; omega)))) (by ((try simp only [cells_agg, cells_lit, leL_cons, leL_nil, leA_any, leA_lits, leA_isl, leA_self, and_self, true_and, and_true, or_true, true_or, Value.int.injEq, Value.bool.injEq, Value.string.injEq, AV.lit.injEq, Option.some.injEq, Blk.cells.injEq, Blk.tok.injEq, List.cons.injEq, Tk.at.injEq, subL_nil, subL_cons, look_nil, look_cons, ↓reduceIte, Nat.reduceEqDiff, Option.isSome_some, reduceCtorEq, or_false, false_or, if_true, if_false, only_fn', hid, hbd, keepP_out hid, keepP_out hbd]); (try first | done | omega | (simp; done) | (simp; omega)))) (by ((try simp only [cells_agg, cells_lit, List.mem_cons, List.not_mem_nil, or_false, forall_eq_or_imp, forall_eq, only_any, only_lit', only_iptr, only_no, only_full, only_at, only_ptr, only_osl, only_agg, only_tup, only_fn, and_self, implies_true, and_true, true_and, okL_nil, okL_cons, bonly_cells, bonly_tok, keepP_add, look_nil, look_cons, ↓reduceIte, Nat.reduceEqDiff, Option.isSome_some, reduceCtorEq, false_or, if_true, if_false, false_implies, only_fn', hid, hbd, keepP_out hid, keepP_out hbd]); (try first | done | omega | ((repeat' refine And.intro ?_ ?_) <;> (intro _ hx; obtain ⟨_, -, rfl⟩ := List.mem_map.1 hx; exact .lit _))))) (by ((try simp only [cells_agg, cells_lit, List.mem_cons, List.not_mem_nil, or_false, forall_eq_or_imp, forall_eq, only_any, only_lit', only_iptr, only_no, only_full, only_at, only_ptr, only_osl, only_agg, only_tup, only_fn, and_self, implies_true, and_true, true_and, okL_nil, okL_cons, bonly_cells, bonly_tok, keepP_add, look_nil, look_cons, ↓reduceIte, Nat.reduceEqDiff, Option.isSome_some, reduceCtorEq, false_or, if_true, if_false, false_implies, only_fn', hid, hbd, keepP_out hid, keepP_out hbd]); (try first | done | omega | ((repeat' refine And.intro ?_ ?_) <;> (intro _ hx; obtain ⟨_, -, rfl⟩ := List.mem_map.1 hx; exact .lit _)))))
      · have : j = l.length := by omega
        subst this
        obtain ⟨k1, k2⟩ := hinv.stop
        simp only at k1 k2
        have hz : (Il cur).take i ++ List.replicate (l.length - i) (I64 0) ++ (Il cur).drop (i + (List.replicate (l.length - i) (I64 0)).length) = Il (cur.take i ++ List.replicate (l.length - i) 0) := by
          rw [Il_take, List.length_replicate, show i + (l.length - i) = l.length by omega, List.drop_of_length_le (by simp [hlen])]
          unfold Il; simp
        simp only [go_sem, hG2, gput_same, List.length_map, hlen, Nat.mul_one, hz, hmr, put_out _ _ _ _ _ hid]
        (repeat (refine ⟨by omega, ?_⟩))
        have hcl : (cur.take i).length = i := by rw [k1]; exact k2.symm
        refine FnPost_imp (h' := ⟨gput g id (.cells ver (Il (keepL l c))), []⟩) (imp_trunc id ver i (Il (cur.take i ++ List.replicate (l.length - i) 0)) (by rw [get_out _ _ _ _ hid, gput_same]) ⟨0, 1, 0, l.length, rfl⟩ ?_ ?_) ?_
        · rw [get_out _ _ _ _ hid, gput_same, Il_take, List.take_append_of_le_length (by omega), List.take_of_length_le (by omega), k1]
        · intro j hj
          unfold HP.get
          split
          · show gput _ _ _ _ = gput (gput _ _ _) _ _ _
            rw [gput_ne _ _ _ _ hj, gput_ne _ _ _ _ hj, gput_ne _ _ _ _ hj]
          · rfl
        · refine FnPost_effX hn0 (by simp) (fun _ : Unit => .osl id ver 1 0 (keepL l c).length) (fun _ => [(id, .cells ver (Il (keepL l c)))]) () (hw ()) rfl (.osl hid) ?_
          simp only [go_sem]
          rw [← k2]; exact leA_refl _
end Go.Proofs.Ytjinngfpbmkhaaa.Hyp
