/- Plain words. -/
import Derived.Test.YtcnhpclfflcdfaaDoorRAvZ
import Derived.Test.YtcnhpclfflcdfaaDoorRLexN
/- Expressions as trees. -/
namespace Go.Av
set_option linter.unusedVariables false
set_option linter.unusedSimpArgs false
/-! ### expressions -/
inductive Rx where
  | mk (k : Int) (l : ByteArray) (b : Bool) (ps : List Rx)
namespace Rx
def k : Rx → Int | .mk k _ _ _ => k
def l : Rx → ByteArray | .mk _ l _ _ => l
def b : Rx → Bool | .mk _ _ b _ => b
def ps : Rx → List Rx | .mk _ _ _ ps => ps
end Rx
theorem Rx.lt {p r : Rx} (h : p ∈ r.ps) : SizeOf.sizeOf p < SizeOf.sizeOf r := by
  obtain ⟨k, l, b, ps⟩ := r
  have := List.sizeOf_lt_of_mem (show p ∈ ps from h)
  simp only [Rx.mk.sizeOf_spec]
  omega
mutual
def rA : Rx → AV
  | .mk k l b ps => .agg [.lit (.int .i64 k), .lit (.string l), .lit (.bool b), .isl none (rAs ps) .no]
def rAs : List Rx → List AV
  | [] => []
  | p :: ps => rA p :: rAs ps
end
theorem rAs_map : ∀ ps : List Rx, rAs ps = ps.map rA
  | [] => by rw [rAs]; rfl
  | p :: ps => by rw [rAs, rAs_map ps]; rfl
theorem rA_eq (r : Rx) : rA r = .agg [.lit (.int .i64 r.k), .lit (.string r.l), .lit (.bool r.b), .isl none (r.ps.map rA) .no] := by
  obtain ⟨k, l, b, ps⟩ := r
  rw [rA, rAs_map]; rfl
/-- no expression -/
def rx0 : Rx := .mk 0 ⟨#[]⟩ false []
theorem rA_getD (ps : List Rx) (i : Nat) (h : i < ps.length) : (ps.map rA).getD i .any = rA (ps.getD i rx0) := by
  simp [List.getD_eq_getElem?_getD, h]
theorem rA_cells (r : Rx) : (rA r).cells = [.lit (.int .i64 r.k), .lit (.string r.l), .lit (.bool r.b), .isl none (r.ps.map rA) .no] := by rw [rA_eq]; rfl
theorem elsOk_rA (ps : List Rx) : elsOk 4 (ps.map rA) ↔ True := by
  refine ⟨fun _ => trivial, fun _ e he => ?_⟩
  obtain ⟨p, -, rfl⟩ := List.mem_map.1 he
  rw [rA_cells]
  exact ⟨rfl, rfl⟩
theorem szOk_rA (ps : List Rx) : szOk 4 (ps.map rA) ↔ True := by
  refine ⟨fun _ => trivial, fun _ e he => ?_⟩
  obtain ⟨p, -, rfl⟩ := List.mem_map.1 he
  rw [rA_cells]; rfl
theorem rx_getD_mem {ps : List Rx} {i : Nat} (h : i < ps.length) : ps.getD i rx0 ∈ ps := by
  rw [List.getD_eq_getElem?_getD, List.getElem?_eq_getElem h]; exact List.getElem_mem h
/-! how many lie in it, itself too -/
mutual
def Rx.nodes : Rx → Nat
  | .mk _ _ _ ps => 1 + nodesL ps
def nodesL : List Rx → Nat
  | [] => 0
  | p :: ps => p.nodes + nodesL ps
end
theorem nodesL_eq : ∀ ps : List Rx, nodesL ps = (ps.map Rx.nodes).sum
  | [] => by rw [nodesL]; rfl
  | p :: ps => by rw [nodesL, nodesL_eq ps, List.map_cons, List.sum_cons]
theorem Rx.nodes_eq (r : Rx) : r.nodes = 1 + (r.ps.map Rx.nodes).sum := by
  obtain ⟨k, l, b, ps⟩ := r
  rw [Rx.nodes, nodesL_eq]; rfl
theorem sum_mem {f : Rx → Nat} {p : Rx} : ∀ {ps : List Rx}, p ∈ ps → f p ≤ (ps.map f).sum
  | q :: ps, h => by
    rw [List.map_cons, List.sum_cons]
    rcases List.mem_cons.1 h with rfl | h
    · omega
    · have := sum_mem (f := f) h; omega
theorem Rx.nodes_lt {p r : Rx} (h : p ∈ r.ps) : p.nodes < r.nodes := by
  rw [r.nodes_eq]
  have := sum_mem (f := Rx.nodes) h
  omega
theorem Rx.nodes_pos (r : Rx) : 0 < r.nodes := by rw [r.nodes_eq]; omega
theorem len_le_sum : ∀ (ps : List Rx), ps.length ≤ (ps.map Rx.nodes).sum
  | [] => Nat.le_refl _
  | p :: ps => by
    rw [List.map_cons, List.sum_cons, List.length_cons]
    have := len_le_sum ps
    have := p.nodes_pos
    omega
theorem Rx.len_lt (r : Rx) : r.ps.length < r.nodes := by
  rw [r.nodes_eq]; have := len_le_sum r.ps; omega
/-- a function that changes named memory: its end -/
theorem FnPost_e1 {C : Cfg} {rs : List ResultVar} {g : GH} {e : Exit} {fr : List AV} {h : HP} (hg : ∀ id, C.n ≤ id → g id = none) (he : e = .normal ∨ e = .ret) (res : AV) (wr : List (Nat × Blk)) (hw : ∀ p, p ∈ wr → p.1 < C.n)
    (ho : h.out = gputs g wr) (hn : res.only (· < C.n)) (hp : resP C.P fr (h.get C.n) rs ∧ leA (resV C.P fr (h.get C.n) rs) res) : FnPost C rs (fun r g' => r = res ∧ g' = gputs g wr) e fr h := by
  obtain ⟨h1, fr', h', i, p, res', l, o, ⟨-, r1, r2⟩⟩ := FnPost_effX (X := Unit) hg he (fun _ => res) (fun _ => wr) () hw ho hn hp
  exact ⟨h1, fr', h', i, p, res', l, o, r1, r2⟩
theorem gput_gput (g : GH) (id : Nat) (b b' : Blk) : gput (gput g id b) id b' = gput g id b' := by
  funext k; unfold gput; split <;> rfl
theorem gput_self {g : GH} {id : Nat} {b : Blk} (h : g id = some b) : gput g id b = g := by
  funext k; unfold gput; split
  · rename_i e; rw [e, h]
  · rfl
theorem gputs_one (g : GH) (id : Nat) (b : Blk) : gputs g [(id, b)] = gput g id b := by exact Eq.trans rfl rfl
theorem mem_one {id n : Nat} {b : Blk} (h : id < n) : ∀ p, p ∈ [(id, b)] → p.1 < n := by
  intro p hp; rw [List.mem_singleton] at hp; subst hp; exact h
/-! ### what lies in memory of one's own, said less of -/
def leB : Blk → Blk → Prop
  | .cells v cs, .cells v' cs' => v = v' ∧ leL cs cs'
  | .tok v, .tok v' => v = v'
  | _, _ => False
def leLL : List (Nat × Blk) → List (Nat × Blk) → Prop
  | [], [] => True
  | (k, b) :: l, (k', b') :: l' => k = k' ∧ leB b b' ∧ leLL l l'
  | _, _ => False
theorem leL_refl : ∀ l, leL l l
  | [] => trivial
  | a :: l => ⟨leA_refl a, leL_refl l⟩
theorem leB_refl (b : Blk) : leB b b := by cases b <;> simp [leB, leL_refl]
theorem leB_ver {b b' : Blk} (h : leB b b') : b'.ver = b.ver := by
  cases b <;> cases b' <;> simp only [leB] at h
  · exact h.1.symm
  · exact h.symm
theorem leL_at : ∀ {l m : List AV}, leL l m → l.length = m.length ∧ ∀ (j : Nat) (x' : AV), m[j]? = some x' → ∃ x, l[j]? = some x ∧ leA x x'
  | [], [], _ => ⟨rfl, fun j x' h => by simp at h⟩
  | a :: l, b :: m, h => by
    obtain ⟨h1, h2⟩ := leL_at h.2
    refine ⟨by simp [h1], fun j x' hj => ?_⟩
    cases j with
    | zero => simp at hj; subst hj; exact ⟨a, rfl, h.1⟩
    | succ j => simp at hj; simpa using h2 j x' hj
  | [], b :: m, h => h.elim
  | a :: l, [], h => h.elim
theorem BlkOk.le {B : Nat} {M : Mem} {φ : Phi} {w : World} {b b' : Blk} {hd : Hd} (h : BlkOk B M φ w b hd) (hl : leB b b') : BlkOk B M φ w b' hd := by
  cases b with
  | tok v =>
    cases b' with
    | tok v' => simp only [leB] at hl; subst hl; exact h
    | cells v' cs' => exact hl.elim
  | cells v cs =>
    cases b' with
    | tok v' => exact hl.elim
    | cells v' cs' =>
      obtain ⟨rfl, hl⟩ := hl
      obtain ⟨h1, h2⟩ := leL_at hl
      have key : ∀ (arr : Array Value), (∀ (j : Nat) (x : AV) (v : Value), cs[j]? = some x → arr[j]? = some v → Rep M φ x v) → ∀ (j : Nat) (x : AV) (v : Value), cs'[j]? = some x → arr[j]? = some v → Rep M φ x v := by
        intro arr hr j x' u hj hu
        obtain ⟨x, e1, e2⟩ := h2 j x' hj
        exact rep_leA (hr j x u e1 hu) e2
      cases hd with
      | box r =>
        obtain ⟨a1, a2, arr, e, a3, a4, a5⟩ := h
        exact ⟨a1, a2, arr, e, a3, by rw [a4, h1], key arr a5⟩
      | row r sz cap =>
        cases r with
        | none =>
          obtain ⟨a1, a2⟩ := h
          subst a1
          exact ⟨List.eq_nil_of_length_eq_zero (by rw [← h1]; rfl), a2⟩
        | some r =>
          obtain ⟨a1, a2, arr, e, a3, a4, a5, a6⟩ := h
          exact ⟨a1, a2, arr, e, a3, a4, by rw [← h1]; exact a5, key arr a6⟩
      | tk r own sz len cap => exact h.elim
theorem look_leLL : ∀ {l m : List (Nat × Blk)}, leLL l m → ∀ d, (look l d = none ∧ look m d = none) ∨ ∃ b b', look l d = some b ∧ look m d = some b' ∧ leB b b'
  | [], [], _, d => .inl ⟨rfl, rfl⟩
  | (k, b) :: l, (k', b') :: m, h, d => by
    obtain ⟨rfl, h1, h2⟩ := h
    rw [look_cons, look_cons]
    split
    · exact .inr ⟨b, b', rfl, rfl, h1⟩
    · exact look_leLL h2 d
  | [], _ :: _, h, _ => h.elim
  | _ :: _, [], h, _ => h.elim
theorem imp_cells {C : Cfg} {fr : List AV} {o : GH} {loc loc' : List (Nat × Blk)} (h : leLL loc loc') : Imp C fr ⟨o, loc⟩ fr ⟨o, loc'⟩ := by
  have hk : ∀ id, (HP.get ⟨o, loc⟩ C.n id = none ∧ HP.get ⟨o, loc'⟩ C.n id = none) ∨ ∃ b b', HP.get ⟨o, loc⟩ C.n id = some b ∧ HP.get ⟨o, loc'⟩ C.n id = some b' ∧ leB b b' := by
    intro id
    unfold HP.get
    split
    · cases hoi : o id with
      | none => exact .inl ⟨hoi, hoi⟩
      | some b => exact .inr ⟨b, b, hoi, hoi, leB_refl b⟩
    · exact look_leLL h _
  intro w0 M φ a w hs
  refine ⟨M, φ, Ext.refl _ _ _, hs.fr, hs.defers, ⟨hs.wr.below, hs.wr.base, hs.wr.mem, ?_, ?_, ?_⟩, hs.dom, ?_⟩
  · intro id b' hb'
    rcases hk id with ⟨-, e⟩ | ⟨b, b2, e1, e2, e3⟩
    · rw [e] at hb'; cases hb'
    · rw [e2] at hb'; cases hb'
      obtain ⟨hd, h1, h2⟩ := hs.wr.blk id b e1
      exact ⟨hd, by rw [leB_ver e3]; exact h1, h2.le e3⟩
  · intro id id' b b' hd hd' r h1 h2 h3 h4 h5 h6
    rcases hk id with ⟨-, e⟩ | ⟨c, c2, e1, e2, e3⟩
    · rw [e] at h1; cases h1
    · rcases hk id' with ⟨-, e⟩ | ⟨d, d2, f1, f2, f3⟩
      · rw [e] at h2; cases h2
      · rw [e2] at h1; cases h1
        rw [f2] at h2; cases h2
        rw [leB_ver e3] at h3
        rw [leB_ver f3] at h4
        exact hs.wr.inj id id' c d hd hd' r e1 f1 h3 h4 h5 h6
  · intro id ver hd hp
    obtain ⟨b, h1, h2⟩ := hs.wr.dom id ver hd hp
    rcases hk id with ⟨e, -⟩ | ⟨c, c2, e1, e2, e3⟩
    · rw [e] at h1; cases h1
    · rw [e1] at h1; cases h1
      exact ⟨c2, e2, by rw [leB_ver e3]; exact h2⟩
  · intro id b hid hb
    refine hs.out id b hid ?_
    unfold HP.get at hb ⊢
    rw [if_pos hid] at hb ⊢
    exact hb
def setL (loc : List (Nat × Blk)) (d : Nat) (b : Blk) : List (Nat × Blk) := match loc with
  | [] => []
  | (k, c) :: l => if k = d then (k, b) :: l else (k, c) :: setL l d b
theorem leLL_refl : ∀ l, leLL l l
  | [] => trivial
  | (k, b) :: l => ⟨rfl, leB_refl b, leLL_refl l⟩
theorem leLL_set {d : Nat} {b b' : Blk} (hb : leB b b') : ∀ {loc : List (Nat × Blk)}, look loc d = some b → leLL loc (setL loc d b')
  | [], h => by simp [look] at h
  | (k, c) :: l, h => by
    rw [look_cons] at h
    unfold setL
    split
    · rename_i e
      rw [if_pos e] at h
      cases h
      exact ⟨rfl, hb, leLL_refl l⟩
    · rename_i e
      rw [if_neg e] at h
      exact ⟨rfl, leB_refl c, leLL_set hb h⟩
theorem look_set {d : Nat} {b b' : Blk} : ∀ {loc : List (Nat × Blk)}, look loc d = some b → look (setL loc d b') d = some b'
  | [], h => by simp [look] at h
  | (k, c) :: l, h => by
    rw [look_cons] at h
    unfold setL
    split
    · rename_i e
      rw [look_cons, if_pos e]
    · rename_i e
      rw [if_neg e] at h
      rw [look_cons, if_neg e]
      exact look_set h
theorem rA_only (r : Rx) {p : Nat → Prop} : (rA r).only p := by
  rw [rA_eq]
  refine .agg ?_
  intro x hx
  simp only [List.mem_cons, List.not_mem_nil, or_false] at hx
  rcases hx with rfl | rfl | rfl | rfl
  · exact .lit _
  · exact .lit _
  · exact .lit _
  · exact (only_no _ _ _).2 trivial
theorem rA_res (r : Rx) : 4 ≤ (rA r).cells.length ∧ leA (.agg (List.take 4 (rA r).cells)) (rA r) := by
  rw [rA_cells]
  exact ⟨Nat.le_refl 4, leA_of_eq (by rw [rA_eq]; rfl)⟩
/-- an expression's cells, as they may lie in memory -/
def rxB (r : Rx) (cs : List AV) : Prop := leL cs [.lit (.int .i64 r.k), .lit (.string r.l), .lit (.bool r.b), .isl none (r.ps.map rA) .no]
theorem rxB_refl (r : Rx) : rxB r (rA r).cells := by unfold rxB; rw [rA_cells]; exact leL_refl _
theorem rxB_mk (k : Int) (l : ByteArray) (b : Bool) (nl : Option Bool) (ps : List Rx) (tok : Tk) : rxB (.mk k l b ps) [.lit (.int .i64 k), .lit (.string l), .lit (.bool b), .isl nl (ps.map rA) tok] :=
  ⟨leA_refl _, leA_refl _, leA_refl _, ⟨.inl rfl, rfl, .inl rfl⟩, trivial⟩
/-- a function's end that hands back an expression out of memory of its own -/
theorem FnPost_rx {C : Cfg} {d : Nat} {t : TypeId} {g : GH} {e : Exit} {fr : List AV} {o : GH} {loc : List (Nat × Blk)} (hg : ∀ id, C.n ≤ id → g id = none) (he : e = .normal ∨ e = .ret) (r : Rx) (wr : List (Nat × Blk)) (hw : ∀ p, p ∈ wr → p.1 < C.n)
    (ho : o = gputs g wr) (cs : List AV) (hl : look loc d = some (.cells 0 cs)) (hle : rxB r cs)
    (hp : ∀ loc', look loc' d = some (.cells 0 (rA r).cells) → resP C.P fr (HP.get ⟨o, loc'⟩ C.n) [.cell d t] ∧ leA (resV C.P fr (HP.get ⟨o, loc'⟩ C.n) [.cell d t]) (rA r)) :
    FnPost C [.cell d t] (fun r' g' => r' = rA r ∧ g' = gputs g wr) e fr ⟨o, loc⟩ := by
  have hb : leB (.cells 0 cs) (.cells 0 (rA r).cells) := ⟨rfl, by unfold rxB at hle; rw [rA_cells]; exact hle⟩
  refine FnPost_imp (imp_cells (leLL_set hb hl)) ?_
  · exact FnPost_e1 hg he (rA r) wr hw ho (rA_only r) (hp _ (look_set hl))
theorem FnPost_rx0 {C : Cfg} {d : Nat} {t : TypeId} {g : GH} {e : Exit} {fr : List AV} {loc : List (Nat × Blk)} (hg : ∀ id, C.n ≤ id → g id = none) (he : e = .normal ∨ e = .ret) (r : Rx)
    (cs : List AV) (hl : look loc d = some (.cells 0 cs)) (hle : rxB r cs)
    (hp : ∀ loc', look loc' d = some (.cells 0 (rA r).cells) → resP C.P fr (HP.get ⟨g, loc'⟩ C.n) [.cell d t] ∧ leA (resV C.P fr (HP.get ⟨g, loc'⟩ C.n) [.cell d t]) (rA r)) :
    FnPost C [.cell d t] (fun r' g' => r' = rA r ∧ g' = g) e fr ⟨g, loc⟩ := by
  have := FnPost_rx hg he r [] (by simp) (gputs_nil g).symm cs hl hle hp
  rwa [gputs_nil] at this
end Go.Av

