import Derived.Test.YtjinngfpbmkhaaaAvQ
import Derived.Deep.LoopGhost
namespace Go.Av
set_option linter.unusedVariables false
set_option linter.unusedSimpArgs false
open Go.RowKit

/-! ### weaker states -/
def leA : AV → AV → Prop
  | _, .any => True
  | .isl nl l t, .isl nl' l' t' => (nl' = none ∨ nl' = nl) ∧ l = l' ∧ (t' = .no ∨ t' = t)
  | a, b => a = b

def leL : List AV → List AV → Prop
  | [], [] => True
  | a :: l, b :: m => leA a b ∧ leL l m
  | _, _ => False

theorem rep_leA {M : Mem} {φ : Phi} {a b : AV} {v : Value} (h : Rep M φ a v) (hl : leA a b) : Rep M φ b v := by
  unfold leA at hl
  split at hl
  · exact .any v
  · rename_i nl l t nl' l' t'
    obtain ⟨h1, rfl, h3⟩ := hl
    cases h with
    | isl sz cv hlen hcap hnl hnil hsz hsp hm hr hfull htok =>
      refine .isl sz cv hlen hcap ?_ hnil hsz hsp hm hr ?_ ?_
      · intro b hb; rcases h1 with rfl | rfl
        · cases hb
        · exact hnl b hb
      · intro e; rcases h3 with rfl | rfl
        · cases e
        · exact hfull e
      · intro k ver e; rcases h3 with rfl | rfl
        · cases e
        · exact htok k ver e
  · subst hl; exact h

theorem repL_leL {M : Mem} {φ : Phi} : ∀ {l m : List AV} {vs : List Value}, RepL M φ l vs → leL l m → RepL M φ m vs
  | [], [], vs, h, hl => h
  | a :: l, b :: m, [], h, hl => by have := h.1; simp at this
  | a :: l, b :: m, v :: vs, h, hl => by
    refine RepL.cons (rep_leA (h.2 0 a v rfl rfl) hl.1) (repL_leL (l := l) ⟨by have := h.1; simpa using this, fun i x u h1 h2 => h.2 (i + 1) x u (by simpa using h1) (by simpa using h2)⟩ hl.2)
  | [], b :: m, vs, h, hl => hl.elim
  | a :: l, [], vs, h, hl => hl.elim

open Classical in
noncomputable def Phi.cut' (φ : Phi) (p : Nat → Prop) : Phi := fun id ver => if p id then φ id ver else Option.none

theorem cut_pos {φ : Phi} {p : Nat → Prop} {id : Nat} (h : p id) (ver : Nat) : φ.cut' p id ver = φ id ver := by unfold Phi.cut'; rw [if_pos h]
theorem cut_some {φ : Phi} {p : Nat → Prop} {id ver : Nat} {hd : Hd} (h : φ.cut' p id ver = some hd) : p id ∧ φ id ver = some hd := by
  unfold Phi.cut' at h; split at h
  · exact ⟨‹_›, h⟩
  · cases h

theorem rep_cut {M : Mem} {φ : Phi} {p : Nat → Prop} {a : AV} {v : Value} (h : Rep M φ a v) (ho : a.only p) : Rep M (φ.cut' p) a v :=
  h.move ho fun id ver hd hp hh => by rw [cut_pos hp]; exact hh

theorem repL_cut {M : Mem} {φ : Phi} {p : Nat → Prop} {cs : List AV} {vs : List Value} (h : RepL M φ cs vs) (ho : ∀ x, x ∈ cs → x.only p) : RepL M (φ.cut' p) cs vs :=
  ⟨h.1, fun i x v h1 h2 => rep_cut (h.2 i x v h1 h2) (ho x (List.mem_of_getElem? h1))⟩

theorem BlkOk.cut {B : Nat} {M : Mem} {φ : Phi} {w : World} {b : Blk} {hd : Hd} {p : Nat → Prop} (h : BlkOk B M φ w b hd) (ho : b.only p) : BlkOk B M (φ.cut' p) w b hd := by
  cases b with
  | cells ver cs =>
    cases hd with
    | box r =>
      obtain ⟨hB, hn, arr, e, ha, hs, hx⟩ := h
      exact ⟨hB, hn, arr, e, ha, hs, fun j x v hj hv => rep_cut (hx j x v hj hv) (ho x (List.mem_of_getElem? hj))⟩
    | row r sz cap =>
      cases r with
      | none => exact h
      | some r =>
        obtain ⟨hB, hn, arr, e, ha, hs, hl, hx⟩ := h
        exact ⟨hB, hn, arr, e, ha, hs, hl, fun j x v hj hv => rep_cut (hx j x v hj hv) (ho x (List.mem_of_getElem? hj))⟩
    | tk r own sz len cap => cases r <;> cases own <;> exact h.elim
  | tok ver =>
    cases hd with
    | box r => exact h.elim
    | row r sz cap => cases r <;> exact h.elim
    | tk r own sz len cap => cases r <;> cases own <;> exact h

theorem Wr.cut {w0 w : World} {M : Mem} {φ : Phi} {g g' : GH} {p : Nat → Prop} (h : Wr w0 M φ g w) (hsub : ∀ id b, g' id = some b → g id = some b ∧ p id ∧ b.only p) (hall : ∀ id b, p id → g id = some b → g' id = some b) :
    Wr w0 M (φ.cut' p) g' w := by
  refine ⟨h.below, h.mem, ?_, ?_, ?_⟩
  · intro id b hb
    obtain ⟨h1, h2, h3⟩ := hsub id b hb
    obtain ⟨hd, hp, hok⟩ := h.blk id b h1
    exact ⟨hd, by rw [cut_pos h2]; exact hp, hok.cut h3⟩
  · intro id id' b b' hd hd' r h1 h2 h3 h4 h5 h6
    exact h.inj id id' b b' hd hd' r (hsub id b h1).1 (hsub id' b' h2).1 (cut_some h3).2 (cut_some h4).2 h5 h6
  · intro id ver hd hp
    obtain ⟨k1, k2⟩ := cut_some hp
    obtain ⟨b, k3, k4⟩ := h.dom id ver hd k2
    exact ⟨b, hall id b k1 k3, k4⟩

/-- A state that says less of the model's. -/
def Imp (C : Cfg) (fr : List AV) (h : HP) (fr' : List AV) (h' : HP) : Prop :=
  ∀ w0 M φ a w, St C w0 M φ fr h a w → ∃ M' φ', Ext C.n M φ M' φ' ∧ St C w0 M' φ' fr' h' a w

theorem Imp.refl (C : Cfg) (fr : List AV) (h : HP) : Imp C fr h fr h := fun w0 M φ a w hs => ⟨M, φ, Ext.refl _ _ _, hs⟩
theorem Imp.trans {C : Cfg} {fr fr' fr'' : List AV} {h h' h'' : HP} (i : Imp C fr h fr' h') (j : Imp C fr' h' fr'' h'') : Imp C fr h fr'' h'' := by
  intro w0 M φ a w hs
  obtain ⟨M', φ', e1, s1⟩ := i w0 M φ a w hs
  obtain ⟨M'', φ'', e2, s2⟩ := j w0 M' φ' a w s1
  exact ⟨M'', φ'', e1.trans e2, s2⟩

theorem T.imp {C : Cfg} {c : Code} {Q : Exit → List AV → HP → Prop} {fr fr' : List AV} {h h' : HP} (i : Imp C fr h fr' h') (ht : T C c Q fr' h') : T C c Q fr h := by
  intro w0 M φ a w hs
  obtain ⟨M', φ', e1, s1⟩ := i w0 M φ a w hs
  exact wp_mono (ht w0 M' φ' a w s1) fun e a w hp => hp.mono e1 fun _ _ h => h

def keepP (n : Nat) (loc : List (Nat × Blk)) (id : Nat) : Prop := id < n ∨ (look loc (id - n)).isSome = true

/-- Slots forgotten, names of one's own let go. -/
structure Weak (C : Cfg) (fr : List AV) (h : HP) (fr' : List AV) (h' : HP) : Prop where
  fr : leL fr fr'
  out : h'.out = h.out
  loc : ∀ d b, look h'.loc d = some b → look h.loc d = some b
  ofr : ∀ x, x ∈ fr' → x.only (keepP C.n h'.loc)
  oloc : ∀ d b, look h'.loc d = some b → b.only (keepP C.n h'.loc)

theorem Blk.only_mono {p q : Nat → Prop} {b : Blk} (h : b.only p) (hpq : ∀ i, p i → q i) : b.only q := by
  cases b with
  | cells v cs => exact fun x hx => (h x hx).mono hpq
  | tok v => trivial

theorem Weak.imp {C : Cfg} {fr fr' : List AV} {h h' : HP} (k : Weak C fr h fr' h') : Imp C fr h fr' h' := by
  intro w0 M φ a w hs
  refine ⟨M, φ.cut' (keepP C.n h'.loc), ⟨Mem.le.refl _, fun id ver hd hid hp => by rw [cut_pos (.inl hid)]; exact hp⟩, ?_, hs.defers, ?_, ?_, ?_⟩
  · exact repL_cut (repL_leL hs.fr k.fr) k.ofr
  · refine hs.wr.cut ?_ ?_
    · intro id b hb
      unfold HP.get at hb ⊢
      by_cases hid : id < C.n
      · rw [if_pos hid, k.out] at hb
        rw [if_pos hid]
        have ho := hs.out id b hid (by unfold HP.get; rw [if_pos hid]; exact hb)
        exact ⟨hb, .inl hid, Blk.only_mono ho fun i hi => .inl hi⟩
      · rw [if_neg hid] at hb ⊢
        exact ⟨k.loc _ _ hb, .inr (by rw [hb]; rfl), k.oloc _ _ hb⟩
    · intro id b hp hb
      unfold HP.get at hb ⊢
      by_cases hid : id < C.n
      · rw [if_pos hid] at hb ⊢; rw [k.out]; exact hb
      · rw [if_neg hid] at hb ⊢
        rcases hp with hp | hp
        · exact absurd hp hid
        · obtain ⟨b', hb'⟩ := Option.isSome_iff_exists.1 hp
          rw [k.loc _ _ hb'] at hb; cases hb; exact hb'
  · intro id ver hd hp
    exact hs.dom id ver hd (cut_some hp).2
  · intro id b hid hb
    refine hs.out id b hid ?_
    unfold HP.get at hb ⊢
    rw [if_pos hid] at hb ⊢; rw [← k.out]; exact hb

/-! ### loops -/
theorem T.loop {C : Cfg} {body : Code} {Q : Exit → List AV → HP → Prop} {fr : List AV} {h : HP} {S : Type} (F : S → List AV) (H : S → HP) (inv : S → Prop) (μ : S → Nat) (s0 : S) (h0 : inv s0) (w0 : Imp C fr h (F s0) (H s0))
    (round : ∀ s, inv s → T C body (fun e fr' h' => seqK e (∃ s', inv s' ∧ μ s' < μ s ∧ Imp C fr' h' (F s') (H s')) (Q e fr' h')) (F s) (H s)) : T C (.loop body) Q fr h := by
  refine T.imp w0 ?_
  intro wb M φ a w hs
  refine wp_loop_ghost (fun n a w => ∃ s M' φ', inv s ∧ μ s = n ∧ Ext C.n M φ M' φ' ∧ St C wb M' φ' (F s) (H s) a w) (μ s0) ⟨s0, M, φ, h0, rfl, Ext.refl _ _ _, hs⟩ ?_
  rintro n a w ⟨s, M', φ', hi, rfl, he, hs'⟩
  refine wp_mono (round s hi wb M' φ' a w hs') ?_
  rintro e a' w' ⟨M'', φ'', fr', h', k1, k2, k3⟩
  cases e <;> simp only [Exit.then, seqK] at k3 ⊢
  · obtain ⟨s', j1, j2, j3⟩ := k3
    obtain ⟨M3, φ3, e3, s3⟩ := j3 wb M'' φ'' a' w' k2
    exact ⟨μ s', j2, s', M3, φ3, j1, rfl, (he.trans k1).trans e3, s3⟩
  all_goals exact ⟨M'', φ'', fr', h', he.trans k1, k2, k3⟩

/-! ### functions -/
def res1 (P : Program) (fr : List AV) (g : GH) : ResultVar → Out
  | .tmp t => ⟨True, fr.getD t (.lit undef), [], []⟩
  | .cell a t => loadA P t g (fr.getD a (.lit undef))

def resP (P : Program) (fr : List AV) (g : GH) : List ResultVar → Prop
  | [] => True
  | r :: rs => (res1 P fr g r).pre ∧ resP P fr g rs

def resV (P : Program) (fr : List AV) (g : GH) (rs : List ResultVar) : AV :=
  match rs.map fun r => (res1 P fr g r).v with
  | [v] => v
  | vs => .tup vs

def resSem (a : Act) : ResultVar → Sem Value
  | .tmp t => pure (a.tmps.getD t undef)
  | .cell x t => do loadVar t (← asAddr (a.tmps.getD x undef))

theorem run_res1 {P : Program} {w0 w : World} {M : Mem} {φ : Phi} {g : GH} {fr : List AV} {a : Act} (hw : Wr w0 M φ g w) (hf : FrOk M φ fr a) (r : ResultVar) (hp : (res1 P fr g r).pre) :
    ∃ v, (resSem a r).run P w = .ok v w ∧ Rep M φ (res1 P fr g r).v v := by
  cases r with
  | tmp t => exact ⟨_, rfl, rep_ev hf (.tmp t)⟩
  | cell x t =>
    have hx : Rep M φ (fr.getD x (.lit undef)) (a.tmps.getD x undef) := rep_ev hf (.tmp x)
    obtain ⟨v, h1, h2⟩ := loadA_run (P := P) hw hx hp
    refine ⟨v, ?_, h2⟩
    simp only [resSem, Instr.loadAt, Sem.run_bind] at h1 ⊢
    generalize a.tmps.getD x undef = xv at h1 hx
    cases xv <;> simp only [Instr.sureAddr, run_stuck, Result.andThen_halt, reduceCtorEq] at h1
    rename_i q
    cases q with
    | none => simp only [run_stuck, Result.andThen_halt, reduceCtorEq] at h1
    | some q => simpa [asAddr] using h1

theorem run_mapM_res {P : Program} {w0 w : World} {M : Mem} {φ : Phi} {g : GH} {fr : List AV} {a : Act} (hw : Wr w0 M φ g w) (hf : FrOk M φ fr a) : ∀ (rs : List ResultVar), resP P fr g rs →
    ∃ vs : List Value, (rs.mapM (resSem a)).run P w = .ok vs w ∧ RepL M φ (rs.map fun r => (res1 P fr g r).v) vs
  | [], _ => ⟨[], by simp, RepL.nil⟩
  | r :: rs, hp => by
    obtain ⟨v, h1, h2⟩ := run_res1 hw hf r hp.1
    obtain ⟨vs, h3, h4⟩ := run_mapM_res hw hf rs hp.2
    refine ⟨v :: vs, ?_, RepL.cons h2 h4⟩
    simp only [List.mapM_cons, Sem.run_bind, h1, Result.andThen_ok, h3, Sem.run_pure]

theorem run_results {P : Program} {w0 w : World} {M : Mem} {φ : Phi} {g : GH} {fr : List AV} {a : Act} (hw : Wr w0 M φ g w) (hf : FrOk M φ fr a) (fn : Func) (hp : resP P fr g fn.results.toList) :
    ∃ v, (results fn a.tmps).run P w = .ok v w ∧ Rep M φ (resV P fr g fn.results.toList) v := by
  obtain ⟨vs, h1, h2⟩ := run_mapM_res hw hf fn.results.toList hp
  have hrun : (results fn a.tmps).run P w = .ok (if h : vs.toArray.size = 1 then vs.toArray[0] else .tuple vs.toArray) w := by
    have he : results fn a.tmps = (do let vs ← fn.results.mapM (resSem a); pure (if h : vs.size = 1 then vs[0] else .tuple vs)) := by
      unfold results
      congr 1
    rw [he, Sem.run_bind, Array.mapM_eq_mapM_toList]
    simp only [Sem.run_map, h1, Result.andThen_ok, Sem.run_pure]
  refine ⟨_, hrun, ?_⟩
  unfold resV
  match hm : fn.results.toList.map (fun r => (res1 P fr g r).v), vs, h2 with
  | [x], [v], h2 => simpa using h2.2 0 x v rfl rfl
  | [], [], h2 => exact .tup rfl (by simp)
  | x :: y :: l, u :: v :: k, h2 => simpa using Rep.tup (by simpa using h2.1) (fun i x v h3 h4 => h2.2 i x v h3 (by simpa using h4))
  | [x], [], h2 => have := h2.1; simp at this
  | [x], u :: v :: k, h2 => have := h2.1; simp at this
  | [], u :: k, h2 => have := h2.1; simp at this
  | x :: y :: l, [], h2 => have := h2.1; simp at this
  | x :: y :: l, [u], h2 => have := h2.1; simp at this

/-- What a function's body must come to. -/
def FnPost (C : Cfg) (rs : List ResultVar) (R : AV → GH → Prop) (e : Exit) (fr : List AV) (h : HP) : Prop :=
  (e = .normal ∨ e = .ret) ∧ ∃ fr' h', Imp C fr h fr' h' ∧ resP C.P fr' (h'.get C.n) rs ∧ ∃ res, leA (resV C.P fr' (h'.get C.n) rs) res ∧ res.only (· < C.n) ∧ R res fun id => if id < C.n then h'.out id else none

theorem CallAt.of_T {P : Program} {f : FuncId} {fn : Func} {c : Code} {args : List AV} {g : GH} {R : AV → GH → Prop} (nm : Nat → Option Nat) (md : Nat → Nat) (hf : P.funcs[f]? = some fn) (hb : fn.body = some c) (rs : List ResultVar) (hrs : fn.results.toList = rs) (nt : Nat) (hnt : fn.ntmps = nt) (n : Nat)
    (ht : (∀ id, n ≤ id → g id = none) → T ⟨P, n, nt, nm, md⟩ c (FnPost ⟨P, n, nt, nm, md⟩ rs R) (args ++ List.replicate (nt - args.length) (.lit undef)) ⟨g, []⟩) : CallAt P n f args g R := by
  intro w0 M φ w vs hdom hw hargs
  refine calls_of_wp hf hb ?_
  subst hnt hrs
  have hg : ∀ id, n ≤ id → g id = none := by
    intro id hid
    cases hgi : g id with
    | none => rfl
    | some b =>
      obtain ⟨hd, hp, _⟩ := hw.blk id b hgi
      have := hdom id _ hd hp; omega
  have hget : (⟨g, []⟩ : HP).get n = g := by
    funext id
    unfold HP.get
    by_cases h : id < n
    · rw [if_pos h]
    · rw [if_neg h, hg id (by omega)]; rfl
  have hst : St ⟨P, n, fn.ntmps, nm, md⟩ w0 M φ (args ++ List.replicate (fn.ntmps - args.length) (.lit undef)) ⟨g, []⟩ { tmps := vs ++ Array.replicate (fn.ntmps - vs.size) undef, defers := [] } w := by
    refine ⟨?_, rfl, by rw [hget]; exact hw, fun id ver hd hp => Nat.lt_of_lt_of_le (hdom id ver hd hp) (Nat.le_add_right _ _), ?_⟩
    · have hl : args.length = vs.size := by simpa using hargs.1
      have hrep : RepL M φ (List.replicate (fn.ntmps - args.length) (.lit undef)) (List.replicate (fn.ntmps - vs.size) undef) := by
        rw [hl]
        refine ⟨by simp, ?_⟩
        intro i x v h1 h2
        rw [List.eq_of_mem_replicate (List.mem_of_getElem? h1), List.eq_of_mem_replicate (List.mem_of_getElem? h2)]
        exact .lit _
      have := hargs.append hrep
      simpa [FrOk] using this
    · intro id b hid hb
      rw [hget] at hb
      obtain ⟨hd, hp, hok⟩ := hw.blk id b hb
      cases b with
      | tok v => trivial
      | cells v cs =>
        intro x hx
        obtain ⟨i, hi, rfl⟩ := List.getElem_of_mem hx
        have hr : ∃ u, Rep M φ cs[i] u := by
          cases hd with
          | box r =>
            obtain ⟨_, _, arr, e, ha, hs, hxr⟩ := hok
            exact ⟨arr[i], hxr i cs[i] _ (by simp [hi]) (by simp)⟩
          | row r sz cap =>
            cases r with
            | none => obtain ⟨rfl, _⟩ := hok; simp at hi
            | some r =>
              obtain ⟨_, _, arr, e, ha, hs, hl, hxr⟩ := hok
              exact ⟨arr[i], hxr i cs[i] _ (by simp [hi]) (by simp)⟩
          | tk r own sz len cap => cases r <;> cases own <;> exact hok.elim
        obtain ⟨u, hu⟩ := hr
        exact hu.only hdom
  refine wp_mono (ht hg w0 M φ _ w hst) ?_
  rintro e a' w' ⟨M', φ', fr, h, k1, k2, k3⟩
  obtain ⟨he, fr', h', himp, hrp, res, hle, hlt, hR⟩ := k3
  obtain ⟨M2, φ2, e2, s2⟩ := himp w0 M' φ' a' w' k2
  obtain ⟨v, hv1, hv2⟩ := run_results s2.wr s2.fr fn hrp
  have hres := rep_cut (p := (· < n)) (rep_leA hv2 hle) hlt
  have hext := k1.trans e2
  have hfin : Wr w0 M2 (φ2.cut' (· < n)) (fun id => if id < n then h'.out id else none) w' := by
    refine s2.wr.cut ?_ ?_
    · intro id b hb
      by_cases hid : id < n
      · rw [if_pos hid] at hb
        have hb' : h'.get n id = some b := by unfold HP.get; rw [if_pos hid]; exact hb
        exact ⟨hb', hid, s2.out id b hid hb'⟩
      · rw [if_neg hid] at hb; cases hb
    · intro id b hid hb
      rw [if_pos hid]
      unfold HP.get at hb
      rw [if_pos hid] at hb; exact hb
  have post : ∃ M' φ' v' res g', Ending.returned v = .returned v' ∧ Mem.le M M' ∧ Phi.le φ φ' ∧ (∀ id ver hd, φ' id ver = some hd → id < n) ∧ Wr w0 M' φ' g' w' ∧ Rep M' φ' res v' ∧ R res g' :=
    ⟨M2, φ2.cut' (· < n), v, res, _, rfl, hext.1, fun id ver hd hp => by
      have hid := hdom id ver hd hp
      rw [cut_pos (p := fun x => x < n) hid]; exact hext.2 id ver hd hid hp, fun id ver hd hp => (cut_some hp).1, hfin, hres, hR⟩
  rcases he with rfl | rfl
  · exact ⟨s2.defers, v, hv1, post⟩
  · exact ⟨s2.defers, v, hv1, post⟩

theorem CallC.of_T {P : Program} {f : FuncId} {fn : Func} {c : Code} {args : List AV} {g : GH} {R : AV → GH → Prop} (nm : Nat → Option Nat) (md : Nat → Nat) (hf : P.funcs[f]? = some fn) (hb : fn.body = some c) (rs : List ResultVar) (hrs : fn.results.toList = rs) (nt : Nat) (hnt : fn.ntmps = nt)
    (ht : ∀ n, (∀ id, n ≤ id → g id = none) → T ⟨P, n, nt, nm, md⟩ c (FnPost ⟨P, n, nt, nm, md⟩ rs R) (args ++ List.replicate (nt - args.length) (.lit undef)) ⟨g, []⟩) : CallC P f args g R :=
  fun n => CallAt.of_T nm md hf hb rs hrs nt hnt n (ht n)

end Go.Av
