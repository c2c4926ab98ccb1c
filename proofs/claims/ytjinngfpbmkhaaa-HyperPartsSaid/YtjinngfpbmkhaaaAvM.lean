import Derived.Test.YtjinngfpbmkhaaaAvL
namespace Go.Av
set_option linter.unusedVariables false
set_option linter.unusedSimpArgs false
open Go.RowKit

section
variable {P : Program} {w0 w : World} {M : Mem} {φ : Phi} {g : GH}

/-- What is appended, and how the run goes. -/
structure AppX (P : Program) (t u e : TypeId) (ty : TypeId) (ti : TyI) (M : Mem) (w : World) (x : Value) (m : List AV) : Prop where
  ex : ∃ (z : Value) (news : Array Value), z.cells.size = ti.size ∧ RepL M Phi.none (m.flatMap AV.cells) news.toList ∧
    (∀ base sLen sCap, sLen + m.length ≤ sCap → (Builtin.append_ #[t, u] ty #[.slice base sLen sCap, x]).run P w = match base with
      | none => .ok (.slice none (sLen + m.length) sCap) w
      | some a => ((storeCells (a.add (sLen * ti.size)) news.toList).run P w).andThen fun _ w' => .ok (.slice (some a) (sLen + m.length) sCap) w') ∧
    (∀ base sLen sCap olds, (Builtin.firstCells ti.size sLen (.slice base sLen sCap)).run P w.drew = .ok olds w.drew → ¬ sLen + m.length ≤ sCap → (sLen + m.length) * (2 * ti.bytes) ≤ 281474976710656 →
      (Builtin.append_ #[t, u] ty #[.slice base sLen sCap, x]).run P w = .ok (.slice (some ⟨w.heap.size, 0, none⟩) (sLen + m.length) (grownCap w (sLen + m.length) sCap e))
        (w.drew.alloc (.cells (olds ++ news ++ Builtin.zeroCells z.cells (grownCap w (sLen + m.length) sCap e - (sLen + m.length))) e)))

theorem firstCells_isl (hw : Wr w0 M φ g w) {nl : Option Bool} {l : List AV} {tok : Tk} {a : Option Addr} {len cap sz : Nat} (h : Rep M φ (.isl nl l tok) (.slice a len cap)) (hsz : szOk sz l) :
    ∃ vs : List Value, RepL M Phi.none (l.flatMap AV.cells) vs ∧ len = l.length ∧ len ≤ cap ∧ (a = none → cap = 0) ∧ (∀ r, a = some r → ∀ k v, vs[k]? = some v → r.spot = none ∧ M r.block (r.off + k) = some v) ∧
      (Builtin.firstCells sz len (.slice a len cap)).run P w = .ok vs.toArray w ∧ (Builtin.firstCells sz len (.slice a len cap)).run P w.drew = .ok vs.toArray w.drew := by
  obtain ⟨vs, h1, h2, h3, h4, h5⟩ := isl_cells hw h hsz
  have hl := flat_len hsz
  have hvl : vs.length = len * sz := by rw [← h1.1, hl, h2]
  refine ⟨vs, h1, h2, h3, h4, h5, ?_, ?_⟩
  · cases a with
    | none =>
      have hl0 : len = 0 := by have := h4 rfl; omega
      have : vs = [] := List.length_eq_zero_iff.1 (by rw [hvl, hl0]; simp)
      subst this; exact run_firstCells_none w sz len len cap
    | some r =>
      refine run_firstCells_some w sz len r len cap vs hvl ?_
      intro j v hj
      obtain ⟨k1, k2⟩ := h5 r rfl j v hj
      obtain ⟨b, o, sp⟩ := r
      simp only at k1; subst k1
      rw [addr_add]; exact hw.mem _ _ _ k2
  · cases a with
    | none =>
      have hl0 : len = 0 := by have := h4 rfl; omega
      have : vs = [] := List.length_eq_zero_iff.1 (by rw [hvl, hl0]; simp)
      subst this; exact run_firstCells_none w.drew sz len len cap
    | some r =>
      refine run_firstCells_some w.drew sz len r len cap vs hvl ?_
      intro j v hj
      obtain ⟨k1, k2⟩ := h5 r rfl j v hj
      obtain ⟨b, o, sp⟩ := r
      simp only at k1; subst k1
      rw [addr_add, World.cell?_drew]; exact hw.mem _ _ _ k2

theorem zOk_inv {e : TypeId} {ti : TyI} (h : zOk P e ti = true) : ∃ z i, P.info? e = some i ∧ i.zero = some z ∧ z.cells.size = ti.size := by
  unfold zOk at h
  cases hz : zeroI P e with
  | none => rw [hz] at h; cases h
  | some l =>
    rw [hz] at h
    obtain ⟨i, v, h1, h2, rfl⟩ := zeroI_inv hz
    simp at h
    exact ⟨v, i, h1, h2, h⟩

theorem kindT5 {u : TypeId} (h : kindT P u = 5) : ∃ d, P.underlying u = some d ∧ notInt d = true := by
  obtain ⟨e, he⟩ := (kindT_inv P u).2.2.2.1 h; exact ⟨_, he, rfl⟩

theorem encB_rep (s : ByteArray) : RepL M Phi.none ((encB s).flatMap AV.cells) (s.data.toList.map fun b => Value.int .u8 b.toNat) := by
  have : (encB s).flatMap AV.cells = encB s := by
    unfold encB
    induction s.data.toList with
    | nil => rfl
    | cons b l ih => simp only [List.map_cons, List.flatMap_cons, ih]; rfl
  rw [this]
  refine ⟨by simp [encB], ?_⟩
  intro i x v h1 h2
  unfold encB at h1
  simp only [List.getElem?_map, Option.map_eq_some_iff] at h1 h2
  obtain ⟨b, k1, rfl⟩ := h1
  obtain ⟨c, k2, rfl⟩ := h2
  rw [k1] at k2; cases k2
  exact .lit _

theorem zero_cells {z : Value} {sz : Nat} {ag : Bool} (hz : z.cells.size = sz) (hidf : (z.cells.toList.map ofConst).all AV.idf = true) (hag : ag = false → sz = 1) :
    (if ag then AV.agg (z.cells.toList.map ofConst) else (z.cells.toList.map ofConst).headD .any).cells = z.cells.toList.map ofConst := by
  cases ag with
  | true => rfl
  | false =>
    have h1 := hag rfl
    match hl : z.cells.toList with
    | [] => have : z.cells.toList.length = sz := by simpa using hz
            rw [hl] at this; simp at this; omega
    | [v] =>
      rw [hl] at hidf
      simp only [Bool.false_eq_true, if_false, List.map_cons, List.map_nil, List.headD_cons, List.all_cons, List.all_nil, Bool.and_true] at hidf ⊢
      unfold ofConst at hidf ⊢
      split <;> simp_all [AV.cells, AV.idf]
    | v :: v2 :: l => have : z.cells.toList.length = sz := by simpa using hz
                      rw [hl] at this; simp at this; omega

theorem zero_flat {c : List AV} {x : AV} (hc : x.cells = c) (n : Nat) : (List.replicate n x).flatMap AV.cells = (List.replicate n c).flatten := by
  induction n with
  | zero => rfl
  | succ n ih => simp only [List.replicate_succ, List.flatMap_cons, List.flatten_cons, ih, hc]

theorem rep_zero_els {z : Value} {sz n : Nat} {ag : Bool} (hz : z.cells.size = sz) (hidf : (z.cells.toList.map ofConst).all AV.idf = true) (hag : ag = false → sz = 1) :
    RepL M Phi.none ((List.replicate n (if ag then AV.agg (z.cells.toList.map ofConst) else (z.cells.toList.map ofConst).headD .any)).flatMap AV.cells) (if n * sz = 0 then #[] else Builtin.zeroCells z.cells n).toList := by
  have hc := zero_cells hz hidf hag
  rw [zero_flat hc]
  have hvals : (if n * sz = 0 then #[] else Builtin.zeroCells z.cells n).toList = (List.replicate n z.cells.toList).flatten := by
    have hlen : ∀ n, (List.replicate n z.cells.toList).flatten.length = n * sz := by
      intro n; simp [hz]
    by_cases h0 : n * sz = 0
    · rw [if_pos h0]
      have := hlen n
      rw [h0] at this
      exact (List.length_eq_zero_iff.1 this).symm
    · rw [if_neg h0]
      apply List.ext_getElem?
      intro j
      have hsz0 : 0 < sz := Nat.pos_of_ne_zero (by intro e; simp [e] at h0)
      have key : ∀ (n j : Nat), j < n * sz → (List.replicate n z.cells.toList).flatten[j]? = z.cells.toList[j % sz]? := by
        intro n
        induction n with
        | zero => intro j hj; simp at hj
        | succ n ih =>
          intro j hj
          rw [List.replicate_succ, List.flatten_cons]
          by_cases h1 : j < sz
          · rw [List.getElem?_append_left (by simpa [hz] using h1), Nat.mod_eq_of_lt h1]
          · rw [List.getElem?_append_right (by simpa [hz] using h1)]
            have e1 : z.cells.toList.length = sz := by simpa using hz
            rw [e1, ih (j - sz) (by rw [Nat.add_mul] at hj; omega), ← Nat.mod_eq_sub_mod (by omega)]
      by_cases hj : j < n * sz
      · rw [key n j hj]
        have : j % sz < z.cells.size := by rw [hz]; exact Nat.mod_lt _ hsz0
        simp [Builtin.zeroCells, hz, hj]
        rw [getElem!_pos z.cells (j % sz) this, Array.getElem?_eq_getElem this]
      · rw [List.getElem?_eq_none (by simp [Builtin.zeroCells, hz]; omega), List.getElem?_eq_none (by rw [hlen]; omega)]
  rw [hvals]
  have hr : RepL M Phi.none (z.cells.toList.map ofConst) z.cells.toList := repL_ofConst _
  clear hvals hc
  induction n with
  | zero => exact RepL.nil
  | succ n ih => simp only [List.replicate_succ, List.flatten_cons]; exact hr.append ih

theorem appM_x (hw : Wr w0 M φ g w) {t u e ty : TypeId} {ti : TyI} {x : AV} {xv : Value} (hu : P.underlying t = some (.slice e)) (hti : tyI P e = some ti) (hx : Rep M φ x xv) (hp : (appM P e ti u x).pre) (hz : zOk P e ti = true) (hb0 : ti.bytes ≠ 0)
    (hsz : szOk ti.size (appM P e ti u x).v.els) (hb : ((appM P e ti u x).v.els.length) * (2 * ti.bytes) ≤ 281474976710656) : AppX P t u e ty ti M w xv (appM P e ti u x).v.els := by
  obtain ⟨z, i, hz1, hz2, hz3⟩ := zOk_inv hz
  unfold appM at hp hsz hb ⊢
  split at hp
  · rename_i nl m tok
    obtain ⟨d, hd, hdn⟩ := kindT5 hp
    simp only [AV.els] at hsz hb ⊢
    obtain ⟨a, len, cap, rfl⟩ : ∃ a len cap, xv = .slice a len cap := by cases hx; exact ⟨_, _, _, rfl⟩
    obtain ⟨vs, h1, h2, h3, h4, h5, h6, h7⟩ := firstCells_isl (P := P) hw hx hsz
    subst h2
    exact ⟨z, vs.toArray, hz3, h1, fun base sLen sCap hroom => run_app_room ty hu hd hdn hti base sLen sCap _ m.length vs.toArray rfl h6 hroom,
      fun base sLen sCap olds ho hroom hb' => run_app_grow ty hu hd hdn hti base sLen sCap _ m.length olds vs.toArray rfl ho h7 hroom hb' hb0 z ⟨i, hz1, hz2⟩⟩
  · rename_i s
    obtain ⟨hk, hi8⟩ := hp
    simp only [AV.els] at hsz hb ⊢
    have hxv := lit_inv hx
    subst hxv
    have hd := (kindT_inv P u).2.1 hk
    have hlen : (encB s).length = s.size := by simp [encB]
    have hfc : ∀ w, (Builtin.firstCells ti.size s.size (.string s)).run P w = .ok (s.data.map fun b => Value.int .u8 b.toNat) w := by
      intro w
      have : s.extract 0 s.size = s := by simp
      simp [Builtin.firstCells, this]
    rw [hlen] at hb
    refine ⟨z, (s.data.map fun b => Value.int .u8 b.toNat), hz3, by simpa using encB_rep s, ?_, ?_⟩
    · rw [hlen]; exact fun base sLen sCap hroom => run_app_room ty hu hd rfl hti base sLen sCap _ s.size _ rfl (hfc w) hroom
    · rw [hlen]; exact fun base sLen sCap olds ho hroom hb' => run_app_grow ty hu hd rfl hti base sLen sCap _ s.size olds _ rfl ho (hfc w.drew) hroom hb' hb0 z ⟨i, hz1, hz2⟩
  · rename_i k
    cases hzi : zeroI P e with
    | none => rw [hzi] at hp; exact hp.elim
    | some zl =>
      rw [hzi] at hp hsz hb
      obtain ⟨hk, h0, h1, h2, h3, hag⟩ := hp
      obtain ⟨i', v', j1, j2, rfl⟩ := zeroI_inv hzi
      rw [hz1] at j1; cases j1
      rw [hz2] at j2; have hzv : z = v' := Option.some.inj j2; subst hzv
      replace hb : (List.replicate k.toNat (if ti.agg then AV.agg (z.cells.toList.map ofConst) else (z.cells.toList.map ofConst).headD .any)).length * (2 * ti.bytes) ≤ 281474976710656 := hb
      rw [List.length_replicate] at hb
      show AppX P t u e ty ti M w xv (List.replicate k.toNat (if ti.agg then AV.agg (z.cells.toList.map ofConst) else (z.cells.toList.map ofConst).headD .any))
      have hxv := lit_inv hx
      subst hxv
      obtain ⟨k', hd⟩ := (kindT_inv P u).2.2.2.2.2 hk
      have hkb : k * ti.bytes ≤ 281474976710656 := by
        have h5 : k.toNat * ti.bytes ≤ k.toNat * (2 * ti.bytes) := Nat.mul_le_mul_left _ (by omega)
        have h6 : k.toNat * ti.bytes ≤ 281474976710656 := by omega
        have h7 : ((k.toNat * ti.bytes : Nat) : Int) ≤ ((281474976710656 : Nat) : Int) := Int.ofNat_le.2 h6
        rw [Int.natCast_mul, Int.toNat_of_nonneg h0] at h7
        exact h7
      refine ⟨z, _, hz3, rep_zero_els hz3 h3 hag, ?_, ?_⟩
      · intro base sLen sCap hroom
        rw [List.length_replicate] at hroom ⊢
        exact run_app_room0 ty hu hd hti base sLen sCap k z ⟨i, hz1, hz2⟩ h0 h1 hkb hroom
      · intro base sLen sCap olds ho hroom hb'
        rw [List.length_replicate] at hroom hb' ⊢
        exact run_app_grow0 ty hu hd hti base sLen sCap k z ⟨i, hz1, hz2⟩ h0 h1 hkb olds ho hroom hb' hb0
  · exact hp.elim

end
end Go.Av
