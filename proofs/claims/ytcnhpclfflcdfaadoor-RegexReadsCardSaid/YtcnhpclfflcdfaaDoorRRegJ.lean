import Derived.Test.YtcnhpclfflcdfaaDoorRRegI
import Derived.Test.YtcnhpclfflcdfaaDoorRRegS
/- Expressions: places joined, and copied. -/
namespace Go.Proofs.YtcnhpclfflcdfaaDoorR.Reg
open Go Go.Av Go.Proofs.YtcnhpclfflcdfaaDoorR.Val Go.Proofs.YtcnhpclfflcdfaaDoorR.Lex
set_option linter.unusedSimpArgs false
set_option linter.unusedVariables false
theorem join_c (id ver : Nat) (tb mr : List Bool) (nl : Option Bool) (tok : Tk) (hl : mr.length ≤ tb.length) (hm : tb.length ≤ 1000000) (g : GH) (hg : g id = some (.cells ver (Bl tb))) :
    CallC Tryd.prog 131 [.osl id ver 1 0 tb.length, .isl nl (Bl mr) tok] g (fun r g' => r = BB (joinG tb mr) ∧ g' = gputs g [(id, .cells ver (Bl (joinL tb mr)))]) := by
  refine CallC.body (fun _ => none) (fun _ => 0) Tryd.func131 rfl Tryd.results131 Tryd.ntmps131 ?_
  intro n0 hn0
  simp only [go_sem]
  have hid : id < n0 := lt_of_named hn0 hg
  have hg0 : gput g id (.cells ver (Bl tb)) = g := gput_self hg
  refine WC_loop (fun i : Nat => [.osl id ver 1 0 tb.length, .any, .any, .any, .any, BB (joinG tb (mr.take i)), .any, .any, .isl none (Bl mr) .no, I64 mr.length, I64 i, .any, .any, .any, .any, .any, .any, .any, .any, .any, .any, .any, .any, .any, .any, .any, .any, .any, .any, .any, .any, .any, .any, .any, .any, .any, .any, .any]) (fun i => ⟨gput g id (.cells ver (Bl (joinL tb (mr.take i)))), []⟩) (fun i => i ≤ mr.length) (fun i => mr.length - i) 0 (by simp) ?_ ?_
  · simp only [joinL_0, joinG_0, hg0]
    refine imp_loc (by ((try simp only [cells_agg, cells_lit, leL_cons, leL_nil, leA_any, leA_lits, leA_isl, leA_self, and_self, true_and, and_true, or_true, true_or, Value.int.injEq, Value.bool.injEq, Value.string.injEq, AV.lit.injEq, Option.some.injEq, Blk.cells.injEq, Blk.tok.injEq, List.cons.injEq, Tk.at.injEq, subL_nil, subL_cons, look_nil, look_cons, ↓reduceIte, Nat.reduceEqDiff, Option.isSome_some, reduceCtorEq, or_false, false_or, if_true, if_false, keepP_out hid, List.length_map]); (try first | done | omega | (simp; done) | (simp; omega)))) (by ((try simp only [cells_agg, cells_lit, leL_cons, leL_nil, leA_any, leA_lits, leA_isl, leA_self, and_self, true_and, and_true, or_true, true_or, Value.int.injEq, Value.bool.injEq, Value.string.injEq, AV.lit.injEq, Option.some.injEq, Blk.cells.injEq, Blk.tok.injEq, List.cons.injEq, Tk.at.injEq, subL_nil, subL_cons, look_nil, look_cons, ↓reduceIte, Nat.reduceEqDiff, Option.isSome_some, reduceCtorEq, or_false, false_or, if_true, if_false, keepP_out hid, List.length_map]); (try first | done | omega | (simp; done) | (simp; omega)))) (by ((try simp only [cells_agg, cells_lit, List.mem_cons, List.not_mem_nil, or_false, forall_eq_or_imp, forall_eq, only_any, only_lit', only_iptr, only_no, only_full, only_at, only_ptr, only_osl, only_agg, only_tup, only_fn, only_bfn, and_self, implies_true, and_true, true_and, okL_nil, okL_cons, bonly_cells, bonly_tok, keepP_add, look_nil, look_cons, ↓reduceIte, Nat.reduceEqDiff, Option.isSome_some, reduceCtorEq, false_or, if_true, if_false, false_implies, keepP_out hid, List.length_map]); (try first | done | omega | ((repeat' refine And.intro ?_ ?_) <;> (intro _ hx; obtain ⟨_, -, rfl⟩ := List.mem_map.1 hx; exact .lit _))))) (by ((try simp only [cells_agg, cells_lit, List.mem_cons, List.not_mem_nil, or_false, forall_eq_or_imp, forall_eq, only_any, only_lit', only_iptr, only_no, only_full, only_at, only_ptr, only_osl, only_agg, only_tup, only_fn, only_bfn, and_self, implies_true, and_true, true_and, okL_nil, okL_cons, bonly_cells, bonly_tok, keepP_add, look_nil, look_cons, ↓reduceIte, Nat.reduceEqDiff, Option.isSome_some, reduceCtorEq, false_or, if_true, if_false, false_implies, keepP_out hid, List.length_map]); (try first | done | omega | ((repeat' refine And.intro ?_ ?_) <;> (intro _ hx; obtain ⟨_, -, rfl⟩ := List.mem_map.1 hx; exact .lit _)))))
  · intro i hi
    simp only [go_sem, List.length_map]
    split
    · rename_i hlt
      have hlt : i < mr.length := by omega
      have hlt2 : i < tb.length := by omega
      have e1 : IntKind.i64.wrap ((i : Int) + 1) = ((i + 1 : Nat) : Int) := by rw [wrap_i64]; omega
      have gm := Bl_get mr i hlt
      have hc := joinL_len tb (mr.take i)
      have gt := Bl_get (joinL tb (mr.take i)) i (by omega)
      rw [joinL_at _ _ _ hlt2] at gt
      have hs := joinL_step tb mr i hlt hlt2
      have hgs := joinG_step tb mr i hlt
      have hsp := fun x => Bl_splice (joinL tb (mr.take i)) i x (by omega)
      generalize joinL tb (mr.take i) = cur at *
      generalize joinG tb (mr.take i) = gr at *
      generalize mr.getD i false = mi at *
      generalize tb.getD i false = ti at *
      cases gr <;> cases mi <;> cases ti <;> (simp only [go_sem, gm, hPut hid, gt, Nat.mul_one, List.length_map, hsp, hc]; (repeat (refine ⟨by omega, ?_⟩)); rw [put_out _ _ _ _ _ hid, gput_gput]; refine ⟨by rw [may_out _ _ _ _ _ _ _ hid]; exact ⟨by omega, Bl_only _⟩, ?_⟩; refine LP_next (i + 1) (by omega) (by omega) ?_; simp only [e1, hs, hgs, Bool.or_false, Bool.or_true, Bool.and_true, Bool.and_false, Bool.not_true, Bool.not_false, Bool.false_or, Bool.true_or]; refine imp_loc (by ((try simp only [cells_agg, cells_lit, leL_cons, leL_nil, leA_any, leA_lits, leA_isl, leA_self, and_self, true_and, and_true, or_true, true_or, Value.int.injEq, Value.bool.injEq, Value.string.injEq, AV.lit.injEq, Option.some.injEq, Blk.cells.injEq, Blk.tok.injEq, List.cons.injEq, Tk.at.injEq, subL_nil, subL_cons, look_nil, look_cons, ↓reduceIte, Nat.reduceEqDiff, Option.isSome_some, reduceCtorEq, or_false, false_or, if_true, if_false, keepP_out hid]); (try first | done | omega | (simp; done) | (simp; omega)))) (by ((try simp only [cells_agg, cells_lit, leL_cons, leL_nil, leA_any, leA_lits, leA_isl, leA_self, and_self, true_and, and_true, or_true, true_or, Value.int.injEq, Value.bool.injEq, Value.string.injEq, AV.lit.injEq, Option.some.injEq, Blk.cells.injEq, Blk.tok.injEq, List.cons.injEq, Tk.at.injEq, subL_nil, subL_cons, look_nil, look_cons, ↓reduceIte, Nat.reduceEqDiff, Option.isSome_some, reduceCtorEq, or_false, false_or, if_true, if_false, keepP_out hid]); (try first | done | omega | (simp; done) | (simp; omega)))) (by ((try simp only [cells_agg, cells_lit, List.mem_cons, List.not_mem_nil, or_false, forall_eq_or_imp, forall_eq, only_any, only_lit', only_iptr, only_no, only_full, only_at, only_ptr, only_osl, only_agg, only_tup, only_fn, only_bfn, and_self, implies_true, and_true, true_and, okL_nil, okL_cons, bonly_cells, bonly_tok, keepP_add, look_nil, look_cons, ↓reduceIte, Nat.reduceEqDiff, Option.isSome_some, reduceCtorEq, false_or, if_true, if_false, false_implies, keepP_out hid]); (try first | done | omega | ((repeat' refine And.intro ?_ ?_) <;> (intro _ hx; obtain ⟨_, -, rfl⟩ := List.mem_map.1 hx; exact .lit _))))) (by ((try simp only [cells_agg, cells_lit, List.mem_cons, List.not_mem_nil, or_false, forall_eq_or_imp, forall_eq, only_any, only_lit', only_iptr, only_no, only_full, only_at, only_ptr, only_osl, only_agg, only_tup, only_fn, only_bfn, and_self, implies_true, and_true, true_and, okL_nil, okL_cons, bonly_cells, bonly_tok, keepP_add, look_nil, look_cons, ↓reduceIte, Nat.reduceEqDiff, Option.isSome_some, reduceCtorEq, false_or, if_true, if_false, false_implies, keepP_out hid]); (try first | done | omega | ((repeat' refine And.intro ?_ ?_) <;> (intro _ hx; obtain ⟨_, -, rfl⟩ := List.mem_map.1 hx; exact .lit _))))))
    · have : i = mr.length := by omega
      subst this
      rw [List.take_length]
      refine FnPost_e1 hn0 (by simp) (BB (joinG tb mr)) _ (mem_one hid) rfl (.lit _) ?_
      simp only [go_sem]
      exact leA_refl _
theorem cloneB1 (k : Nat) (bs : List Bool) (hl : bs.length ≤ 100000) (tok : Tk) (g : GH) (hg : g k = none) :
    CallN Tryd.prog 156 [.isl (some false) (Bl bs) tok] g [k] (fun x g' => ∃ v : Nat, x = .osl k v 1 0 bs.length ∧ g' = gputs g [(k, .cells v (Bl bs))]) := by
  intro n0 hK
  refine CallAt.body (fun d => if d = 5 then some k else none) (fun d => if d = 5 then 2 else 0) Tryd.func156 rfl Tryd.results156 Tryd.ntmps156 ?_
  intro hn0
  simp only [go_sem]
  have hk0 : k < n0 := hK k (by simp)
  have hid : Cfg.id ⟨Tryd.prog, n0, 8, fun d => if d = 5 then some k else none, fun d => if d = 5 then 2 else 0⟩ 5 = k := rfl
  simp only [go_sem, hid, get_out _ _ _ _ hk0, hg, put_out _ _ _ _ _ hk0, may_out _ _ _ _ _ _ _ hk0, gput_same, List.length_map, elsOk_Bl, Bl_cells]
  refine ⟨⟨by simp, fun x hx => by simp at hx⟩, ⟨by omega, Bl_only _⟩, ?_⟩
  refine FnPost_effX hn0 (by simp) (fun v => .osl k v 1 0 bs.length) (fun v => [(k, .cells v (Bl bs))]) 1 ?_ ?_ (.osl hk0) ?_
  · intro p hp; rw [List.mem_singleton] at hp; subst hp; exact hk0
  · show gput (gput g k _) k _ = gput g k _
    funext i; unfold gput; by_cases h : i = k <;> simp [h]
  · simp only [go_sem]
    exact leA_refl _
/-- places, as they are handed on: a value, or a row in memory of one's own -/
def FromOk (g : GH) (x : AV) (bs : List Bool) : Prop := x = .isl none (Bl bs) .no ∨ ∃ id ver, x = .osl id ver 1 0 bs.length ∧ g id = some (.cells ver (Bl bs))
theorem cloneB_c (k : Nat) (bs : List Bool) (hl : bs.length ≤ 100000) (hne : 0 < bs.length) (g : GH) (hg : g k = none) (x : AV) (hx : FromOk g x bs) :
    CallN Tryd.prog 156 [x] g [k] (fun x g' => ∃ v : Nat, x = .osl k v 1 0 bs.length ∧ g' = gputs g [(k, .cells v (Bl bs))]) := by
  have key : ∀ g, g k = none → CallN Tryd.prog 156 [.isl none (Bl bs) .no] g [k] (fun x g' => ∃ v : Nat, x = .osl k v 1 0 bs.length ∧ g' = gputs g [(k, .cells v (Bl bs))]) :=
    fun g hg n hK => CallAt.split_nl (pre := []) (post := []) (fun h => by have := congrArg List.length h; simp at this; subst this; simp at hne) (cloneB1 k bs hl .no g hg n hK)
  rcases hx with rfl | ⟨id, ver, rfl, hgi⟩
  · exact key g hg
  · intro n hK
    refine CallAt.viewX (args' := [.isl none (Bl bs) .no]) (fun v => .osl k v 1 0 bs.length) (fun v => [(k, .cells v (Bl bs))]) ⟨?_, trivial⟩ (key _ rfl n hK) ?_ ?_
    · have := Sees.osl (off := 0) (len := bs.length) hgi (List.all_eq_true.2 fun x hx => by obtain ⟨_, -, rfl⟩ := List.mem_map.1 hx; rfl) (by simp)
      rwa [List.drop_zero, List.take_of_length_le (by simp)] at this
    · exact fun v => .osl _ _ _ _ _
    · intro v p hp
      rw [List.mem_singleton] at hp
      subst hp
      exact ⟨hg, v, Bl bs, rfl, fun y hy => by obtain ⟨_, -, rfl⟩ := List.mem_map.1 hy; exact .lit _⟩
end Go.Proofs.YtcnhpclfflcdfaaDoorR.Reg
