import Derived.Test.YtjinngfpbmkhaaaAvE
import Derived.Laws.BytesArg
import Derived.Lib.ConvBytes
import Derived.Laws.Pointers
namespace Go.Av
set_option linter.unusedVariables false
set_option linter.unusedSimpArgs false
open Go.RowKit

section
variable {P : Program} {w0 w : World} {M : Mem} {φ : Phi} {g : GH}

theorem Gives.congr {s s' : Sem Value} {v : AV} {wr : List (Nat × Blk)} (h : Gives P s w0 M φ g w v wr) (e : s'.run P w = s.run P w) : Gives P s' w0 M φ g w v wr := by
  obtain ⟨x, w', M', φ', h1, h2⟩ := h
  exact ⟨x, w', M', φ', by rw [e]; exact h1, h2⟩

theorem lenA_gives (hw : Wr w0 M φ g w) {t ty : TypeId} {x : AV} {xv : Value} (ha : Rep M φ x xv) (hp : (lenA P t x).pre) :
    Gives P (Builtin.len_ #[t] ty #[xv]) w0 M φ g w (lenA P t x).v (lenA P t x).wr := by
  unfold lenA at hp ⊢
  split at hp
  · rename_i nl l tok
    obtain ⟨e, hu⟩ := (kindT_inv P t).2.2.2.1 hp
    cases ha with
    | @isl _ _ _ _ a len cap sz cv hlen hcap hnl hnil hsz hsp hm hr hfull htok =>
      refine Gives.pure hw (x := .int .i64 (l.length : Int)) ?_ (.lit _)
      simp [Builtin.len_, run_underlying hu, goInt, hlen]
  · rename_i id ver sz off len
    obtain ⟨e, hu⟩ := (kindT_inv P t).2.2.2.1 hp
    cases ha with
    | osl h hC hcap hnone hz ha =>
      refine Gives.pure hw (x := .int .i64 (len : Int)) ?_ (.lit _)
      simp [Builtin.len_, run_underlying hu, goInt]
  · rename_i s
    have hu := (kindT_inv P t).2.1 hp
    cases ha
    refine Gives.pure hw (x := .int .i64 (s.size : Int)) ?_ (.lit _)
    simp [Builtin.len_, run_underlying hu, goInt]
  · exact hp.elim

theorem eqGuard_run (op : BinOp) (t : TypeId) (x y : Operand) {a b : Value} (h : (match a, b with | .nilIface, .nilIface => false | .agg _, .agg _ => false | _, _ => true) = true) (w : World) :
    (eqGuard op t x y a b).run P w = .ok () w := by
  unfold eqGuard
  cases a <;> cases b <;> first | (simp at h; done) | (simp; done)

theorem nilB_gives (hw : Wr w0 M φ g w) {op : BinOp} {b : Bool} {s : Sem Value} (h : op = .eql → s.run P w = .ok (.bool b) w) (h' : op = .neq → s.run P w = .ok (.bool (!b)) w) (hp : (nilB op b).pre) :
    Gives P s w0 M φ g w (nilB op b).v [] := by
  cases op <;> simp only [nilB] at hp ⊢ <;> first | exact hp.elim | skip
  · exact Gives.pure hw (h rfl) (.lit _)
  · exact Gives.pure hw (h' rfl) (.lit _)

theorem run_equalIn_ptr_nil (d : Nat) {t e : TypeId} (hu : P.underlying t = some (.pointer e)) (p : Option Addr) (w : World) : (Op.equalIn (d + 1) t (.pointer p) (.pointer none)).run P w = .ok p.isNone w := by
  cases p <;> simp [Op.equalIn, run_underlying hu]

theorem run_equal_ptr_nil {t e : TypeId} (hu : P.underlying t = some (.pointer e)) (p : Option Addr) (w : World) : (Op.equal t (.pointer p) (.pointer none)).run P w = .ok p.isNone w :=
  run_equalIn_ptr_nil 9999 hu p w

theorem run_equalIn_sl_nil (d : Nat) {t e : TypeId} (hu : P.underlying t = some (.slice e)) (p : Option Addr) (l c l' c' : Nat) (w : World) :
    (Op.equalIn (d + 1) t (.slice p l c) (.slice none l' c')).run P w = .ok p.isNone w := by
  cases p <;> simp [Op.equalIn, run_underlying hu]

theorem run_equal_sl_nil {t e : TypeId} (hu : P.underlying t = some (.slice e)) (p : Option Addr) (l c l' c' : Nat) (w : World) :
    (Op.equal t (.slice p l c) (.slice none l' c')).run P w = .ok p.isNone w := run_equalIn_sl_nil 9999 hu p l c l' c' w

theorem nilB_ptr (hw : Wr w0 M φ g w) {op : BinOp} {t e : TypeId} (hu : P.underlying t = some (.pointer e)) (p : Option Addr) (hp : (nilB op p.isNone).pre) :
    Gives P (binOp op t (.pointer p) (.pointer none)) w0 M φ g w (nilB op p.isNone).v [] := by
  refine nilB_gives hw (fun e => ?_) (fun e => ?_) hp <;> subst e
  · show (do pure (Value.bool (← Op.equal t (.pointer p) (.pointer none))) : Sem Value).run P w = _
    simp [run_equal_ptr_nil hu p w]
  · show (do pure (Value.bool (!(← Op.equal t (.pointer p) (.pointer none)))) : Sem Value).run P w = _
    simp [run_equal_ptr_nil hu p w]

theorem nilB_sl (hw : Wr w0 M φ g w) {op : BinOp} {t e : TypeId} (hu : P.underlying t = some (.slice e)) (p : Option Addr) (l c l' c' : Nat) (hp : (nilB op p.isNone).pre) :
    Gives P (binOp op t (.slice p l c) (.slice none l' c')) w0 M φ g w (nilB op p.isNone).v [] := by
  refine nilB_gives hw (fun e => ?_) (fun e => ?_) hp <;> subst e
  · show (do pure (Value.bool (← Op.equal t (.slice p l c) (.slice none l' c'))) : Sem Value).run P w = _
    simp [run_equal_sl_nil hu p l c l' c' w]
  · show (do pure (Value.bool (!(← Op.equal t (.slice p l c) (.slice none l' c')))) : Sem Value).run P w = _
    simp [run_equal_sl_nil hu p l c l' c' w]

theorem nilB_wr (op : BinOp) (b : Bool) : (nilB op b).wr = [] := by cases op <;> rfl
theorem binI_wr (op : BinOp) (k : IntKind) (a b : Int) : (binI op k a b).wr = [] := by cases op <;> rfl

theorem eqT_inv {t : TypeId} {fs : List (Nat × Nat)} (h : eqT P t = some fs) : P.underlying t = some (.struct (P.fieldsOf t)) ∧ P.stoodInHeld t = false ∧ P.eqGuardType P.depth t = false ∧
    (∀ f, f ∈ (P.fieldsOf t).toList → f.name ≠ "_" ∧ (kindT P f.type = 1 ∨ kindT P f.type = 2 ∨ kindT P f.type = 3)) ∧ fs = (P.fieldsOf t).toList.map fun f => (f.offset, kindT P f.type) := by
  unfold eqT at h
  split at h
  · rename_i fa hfa
    have hf : P.fieldsOf t = fa := by unfold Program.fieldsOf; rw [hfa]
    split at h
    · rename_i hc
      cases h
      simp only [Bool.and_eq_true, List.all_eq_true, Bool.not_eq_true', bne_iff_ne, ne_eq, Bool.or_eq_true, beq_iff_eq] at hc
      rw [hf]
      refine ⟨hfa, hc.1.2, hc.2, fun f hm => ⟨(hc.1.1 f hm).1, ?_⟩, rfl⟩
      rcases (hc.1.1 f hm).2 with (h | h) | h
      · exact .inl h
      · exact .inr (.inl h)
      · exact .inr (.inr h)
    · cases h
  · cases h

theorem run_part_flat {t : TypeId} {xs : Array Value} {o : Nat} {v : Value} (hk : kindT P t = 1 ∨ kindT P t = 2 ∨ kindT P t = 3) (hv : xs[o]? = some v) (w : World) : (part t xs o).run P w = .ok v w := by
  have ha : (isAgg t).run P w = .ok false w := by
    rcases hk with h | h | h
    · simp [isAgg, underlying, (kindT_inv P t).1 h]
    · obtain ⟨k, hk⟩ := (kindT_inv P t).2.2.2.2.2 h
      simp [isAgg, underlying, hk]
    · simp [isAgg, underlying, (kindT_inv P t).2.1 h]
  simp [part, ha, hv]

theorem run_eqFields_flat {xs ys : Array Value} {cs ds : List AV} (hc : cs.length = xs.size) (hd : ds.length = ys.size) (hx : ∀ (i : Nat) (x : AV) (v : Value), cs[i]? = some x → xs[i]? = some v → Rep M φ x v)
    (hy : ∀ (i : Nat) (x : AV) (v : Value), ds[i]? = some x → ys[i]? = some v → Rep M φ x v) (d : Nat) (w : World) : ∀ (fs : List Field),
    (∀ f, f ∈ fs → f.name ≠ "_" ∧ (kindT P f.type = 1 ∨ kindT P f.type = 2 ∨ kindT P f.type = 3)) → eqP cs ds (fs.map fun f => (f.offset, kindT P f.type)) → (Op.eqFields (d + 1) xs ys fs).run P w = .ok (eqB cs ds (fs.map fun f => (f.offset, kindT P f.type))) w
  | [], _, _ => rfl
  | f :: fs, hf, hp => by
    obtain ⟨hn, hk⟩ := hf f (by simp)
    obtain ⟨⟨h1, h2, h3⟩, h4⟩ := hp
    have ih := run_eqFields_flat hc hd hx hy d w fs (fun g hg => hf g (by simp [hg])) h4
    have e1 : xs[f.offset]? = some (xs[f.offset]'(by omega)) := by simp [show f.offset < xs.size by omega]
    have e2 : ys[f.offset]? = some (ys[f.offset]'(by omega)) := by simp [show f.offset < ys.size by omega]
    have r1 := hx f.offset _ _ (cells_getD h1) e1
    have r2 := hy f.offset _ _ (cells_getD h2) e2
    have p1 := run_part_flat (P := P) hk e1 w
    have p2 := run_part_flat (P := P) hk e2 w
    generalize xs[f.offset]'(by omega) = xv at *
    generalize ys[f.offset]'(by omega) = yv at *
    have key : (Op.equalIn (d + 1) f.type xv yv).run P w = .ok (eqB1 (cs.getD f.offset .any) (ds.getD f.offset .any)) w := by
      generalize cs.getD f.offset .any = a at *
      generalize ds.getD f.offset .any = b at *
      unfold eqP1 at h3
      split at h3
      · obtain ⟨k1, rfl⟩ := h3
        obtain ⟨k, hku⟩ := (kindT_inv P f.type).2.2.2.2.2 k1
        rw [lit_inv r1, lit_inv r2, run_equalIn_int w d f.type _ k _ _ hku]; rfl
      · rw [lit_inv r1, lit_inv r2, run_equalIn_string w d f.type _ _ ((kindT_inv P f.type).2.1 h3)]
        simp only [eqB1, ByteArray.toList_eq]
      · rw [lit_inv r1, lit_inv r2, run_equalIn_bool' w d f.type _ _ ((kindT_inv P f.type).1 h3)]; rfl
      · exact h3.elim
    simp only [Op.eqFields, List.map_cons, eqB]
    rw [if_pos hn]
    simp only [Sem.run_bind, p1, p2, key, Result.andThen_ok]
    cases eqB1 (cs.getD f.offset .any) (ds.getD f.offset .any)
    · simp
    · simpa using ih

theorem binA_gives (hw : Wr w0 M φ g w) {op : BinOp} {t : TypeId} {x y : AV} {xv yv : Value} (ha : Rep M φ x xv) (hb : Rep M φ y yv) (ox oy : Operand) (hp : (binA P op t x y).pre) :
    Gives P (do eqGuard op t ox oy xv yv; binOp op t xv yv) w0 M φ g w (binA P op t x y).v (binA P op t x y).wr := by
  unfold binA at hp ⊢
  split at hp
  · rename_i cs ds
    cases he : eqT P t with
    | none => rw [he] at hp; exact hp.elim
    | some fs =>
      rw [he] at hp
      obtain ⟨hp1, hp2⟩ := hp
      obtain ⟨hu, hs, hg, hf, rfl⟩ := eqT_inv he
      cases ha with
      | @agg _ _ xs hl hr =>
        cases hb with
        | @agg _ _ ys hl' hr' =>
          have hrun := run_eqFields_flat (P := P) hl hl' hr hr' 9998 w _ hf hp1
          have heq := run_equalIn_agg (P := P) w 9999 t xs ys hu hs
          rw [hrun] at heq
          refine Gives.congr (s := binOp op t (.agg xs) (.agg ys)) ?_ (by simp [run_eqGuard_agg w op t ox oy xs ys hg])
          refine nilB_gives hw (b := eqB cs ds _) (fun e => by subst e; rw [run_eql_struct, heq]; rfl) (fun e => by subst e; rw [run_neq_struct, heq]; rfl) ?_
          cases op <;> first | exact hp2 | trivial
  · rename_i k a k' b
    cases ha; cases hb
    refine Gives.congr (s := binOp op t (.int k a) (.int k' b)) ?_ (by simp [eqGuard_run op t ox oy (a := .int k a) (b := .int k' b) rfl w])
    cases hsh : isSh op with
    | true =>
      simp only [hsh, if_true] at hp ⊢
      exact binSh_gives hw t hp
    | false =>
      simp only [hsh, Bool.false_eq_true, if_false] at hp ⊢
      by_cases hk : k = k'
      · subst hk
        simp only [if_true] at hp ⊢
        exact binI_gives hw t hsh hp
      · simp only [hk, if_false] at hp
        exact hp.elim
  · rename_i a b
    cases ha; cases hb
    exact Gives.congr (s := binOp op t (.string a) (.string b)) (binS_gives hw t hp) (by simp [eqGuard_run op t ox oy (a := .string a) (b := .string b) rfl w])
  · rename_i a b
    cases ha; cases hb
    obtain ⟨h1, h2⟩ := hp
    have hu := (kindT_inv P t).1 h1
    refine Gives.congr (s := binOp op t (.bool a) (.bool b)) ?_ (by simp [eqGuard_run op t ox oy (a := .bool a) (b := .bool b) rfl w])
    exact nilB_gives hw (fun e => by subst e; exact run_eql_bool w t a b hu) (fun e => by subst e; exact run_neq_bool w t a b hu) h2
  · cases ha; cases hb
    obtain ⟨h1, h2⟩ := hp
    obtain ⟨e, hu⟩ := (kindT_inv P t).2.2.1 h1
    refine Gives.congr (s := binOp op t (.pointer none) (.pointer none)) ?_ (by simp [eqGuard_run op t ox oy (a := .pointer none) (b := .pointer none) rfl w])
    exact nilB_ptr hw hu none h2
  · rename_i id ver off
    cases hb
    obtain ⟨h1, h2⟩ := hp
    obtain ⟨e, hu⟩ := (kindT_inv P t).2.2.1 h1
    cases ha with
    | @ptr _ _ _ _ r hd h3 h4 =>
      refine Gives.congr (s := binOp op t (.pointer (some ⟨r, off, none⟩)) (.pointer none)) ?_ (by simp [eqGuard_run op t ox oy (a := .pointer (some ⟨r, off, none⟩)) (b := .pointer none) rfl w])
      exact nilB_ptr hw hu (some ⟨r, off, none⟩) h2
  · cases hb
    obtain ⟨h1, h2⟩ := hp
    obtain ⟨e, hu⟩ := (kindT_inv P t).2.2.1 h1
    cases ha with
    | @iptr _ cs r off cv h3 h4 =>
      refine Gives.congr (s := binOp op t (.pointer (some ⟨r, off, none⟩)) (.pointer none)) ?_ (by simp [eqGuard_run op t ox oy (a := .pointer (some ⟨r, off, none⟩)) (b := .pointer none) rfl w])
      exact nilB_ptr hw hu (some ⟨r, off, none⟩) h2
  · rename_i b l tok
    obtain ⟨h1, h2⟩ := hp
    obtain ⟨e, hu⟩ := (kindT_inv P t).2.2.2.1 h1
    cases hb with
    | @isl _ _ _ _ a2 len2 cap2 sz2 cv2 hlen2 hcap2 hnl2 hnil2 hsz2 hsp2 hm2 hr2 hfull2 htok2 =>
      have h3 := hnl2 true rfl
      cases a2 with
      | some a => simp at h3
      | none =>
        cases ha with
        | @isl _ _ _ _ a len cap sz cv hlen hcap hnl hnil hsz hsp hm hr hfull htok =>
          have h4 := hnl b rfl
          refine Gives.congr (s := binOp op t (.slice a len cap) (.slice none len2 cap2)) ?_ (by simp [eqGuard_run op t ox oy (a := .slice a len cap) (b := .slice none len2 cap2) rfl w])
          subst h4
          exact nilB_sl hw hu a len cap len2 cap2 h2
  · exact hp.elim

theorem mxA_gives (hw : Wr w0 M φ g w) {big : Bool} {xs : List AV} {vs : Array Value} (hl : xs.length = vs.size) (hr : ∀ (i : Nat) (x : AV) (v : Value), xs[i]? = some x → vs[i]? = some v → Rep M φ x v)
    (ts : Array TypeId) (ty : TypeId) (hp : (mxA big xs).pre) : Gives P (if big then Builtin.max_ ts ty vs else Builtin.min_ ts ty vs) w0 M φ g w (mxA big xs).v (mxA big xs).wr := by
  unfold mxA at hp ⊢
  split at hp
  · rename_i k a k' b
    obtain ⟨vs⟩ := vs
    match vs, hl with
    | [v1, v2], _ =>
      have h1 := hr 0 _ v1 rfl rfl
      have h2 := hr 1 _ v2 rfl rfl
      cases h1; cases h2
      cases big
      · exact Gives.pure hw (run_min_int2 w ts ty k k' a b) (.lit _)
      · exact Gives.pure hw (run_max_int2 w ts ty k k' a b) (.lit _)
  · exact hp.elim

theorem cells_one {x : AV} (h : ∀ cs, x ≠ .agg cs) : x.cells = [x] := by cases x <;> first | rfl | exact absurd rfl (h _)

theorem convA_gives (hw : Wr w0 M φ g w) {src dst : TypeId} {x : AV} {xv : Value} (hsrc : (P.underlying src).isSome = true) (ha : Rep M φ x xv) (hp : (convA P src dst x).pre) :
    Gives P (convert src dst xv) w0 M φ g w (convA P src dst x).v (convA P src dst x).wr := by
  obtain ⟨d, hsrc⟩ := Option.isSome_iff_exists.1 hsrc
  unfold convA at hp ⊢
  split at hp
  · rename_i k n
    cases ha
    cases hi : intT P dst with
    | none => simp only [hi] at hp; exact hp.elim
    | some k' =>
      simp only [hi] at hp ⊢
      exact Gives.pure hw (by simp [convert, run_underlying hsrc, run_underlying (intT_inv hi), Conv.intToInt]) (.lit _)
  · rename_i s
    cases ha
    by_cases hk : kindT P dst = 3
    · simp only [hk, if_true] at hp ⊢
      exact Gives.pure hw (by simp [convert, run_underlying hsrc, run_underlying ((kindT_inv P dst).2.1 hk)]) (.lit _)
    · simp only [hk, if_false] at hp ⊢
      cases he : slT P dst with
      | none => simp only [he] at hp; exact hp.elim
      | some e =>
        simp only [he] at hp ⊢
        have hu := slT_inv he
        have hue := intT_inv hp
        have hrun := Lib.run_convert_string_bytes (P := P) w src dst e s hsrc hu hue
        have hcap : s.size ≤ grownCap w s.size 0 e := by
          unfold grownCap; simp [Question.cut]
        have hW : Wr w0 (memAdd M w.heap.size (fun j => if j < s.size then some (.int .u8 (s.data.toList.getD j 0).toNat) else none)) φ g (Lib.bytesWorld w e s) := by
          refine hw.grow ?_ ?_ (memAdd_le fun j _ _ => hw.none_new j) ?_
          · have hsz := hw.below.size
            refine hw.below.trans ⟨by rfl, by rfl, by rfl, by rw [Lib.bytesWorld_size]; omega, fun k hk => Lib.bytesWorld_at_old w e s k (by omega)⟩
          · intro r j v hm
            by_cases e1 : r = w.heap.size
            · subst e1
              unfold memAdd at hm
              simp only [if_true] at hm
              by_cases hj : j < s.size
              · simp only [hj, if_true] at hm
                rw [Lib.bytesWorld_cell w e s j hj]; exact hm
              · simp only [hj, if_false, hw.none_new] at hm; cases hm
            · rw [memAdd_other e1] at hm
              rw [Lib.bytesWorld_old w e s _ (hw.lt_of_mem hm)]
              exact hw.mem r j v hm
          · intro r hr
            exact ⟨Lib.bytesWorld_at_old w e s r hr, fun j => memAdd_other (by omega) j⟩
        refine ⟨_, _, _, φ, hrun, memAdd_le fun j _ _ => hw.none_new j, Phi.le.refl _, fun _ _ _ h => .inl h, ?_, hW⟩
        have hlen : (encB s).length = s.size := by simp [encB]
        have hget : ∀ (i : Nat) (y : AV), (encB s)[i]? = some y → i < s.size ∧ y = .lit (.int .u8 (s.data.toList.getD i 0).toNat) := by
          intro i y hy
          have hi : i < s.size := by rw [← hlen]; exact (List.getElem?_eq_some_iff.1 hy).1
          refine ⟨hi, ?_⟩
          simp only [encB, List.getElem?_map] at hy
          have hl : i < s.data.toList.length := by simpa using hi
          rw [List.getElem?_eq_getElem hl] at hy
          simp only [Option.map_some, Option.some.injEq] at hy
          rw [← hy, List.getD_eq_getElem?_getD, List.getElem?_eq_getElem hl]
          rfl
        refine .isl 1 (fun i _ => .int .u8 (s.data.toList.getD i 0).toNat) hlen.symm hcap (by simp) (by simp) ?_ (by intro r hr _; cases hr; rfl) ?_ ?_ (by simp) (by simp)
        · intro y hy
          obtain ⟨i, hi, rfl⟩ := List.getElem_of_mem hy
          obtain ⟨_, h2⟩ := hget i _ (List.getElem?_eq_getElem hi)
          rw [h2]; rfl
        · intro r hr i y c z h1 h2
          cases hr
          obtain ⟨h3, rfl⟩ := hget i y h1
          have hc : c = 0 := by
            cases c with
            | zero => rfl
            | succ c => simp [AV.cells] at h2
          subst hc
          refine memAdd_same ?_
          simp [h3]
        · intro i y c z h1 h2
          obtain ⟨h3, rfl⟩ := hget i y h1
          have hc : c = 0 := by
            cases c with
            | zero => rfl
            | succ c => simp [AV.cells] at h2
          subst hc
          simp only [AV.cells, List.getElem?_cons_zero, Option.some.injEq] at h2
          subst h2
          exact .lit _
  · rename_i nl l tok
    cases he : slT P src with
    | none => simp only [he] at hp; exact hp.elim
    | some e =>
      simp only [he] at hp ⊢
      obtain ⟨h1, h2, h3⟩ := hp
      have hu := slT_inv he
      have hue := intT_inv h2
      have hud := (kindT_inv P dst).2.1 h1
      generalize hs : strOf l = s at h3 ⊢
      subst h3
      have hlen : (encB s).length = s.size := by simp [encB]
      cases ha with
      | @isl _ _ _ _ a len cap sz cv hlen' hcap hnl hnil hsz hsp hm hr hfull htok =>
        cases a with
        | none =>
          have hc := hnil rfl
          have hs0 : s.size = 0 := by omega
          refine Gives.pure hw (x := .string s) ?_ (.lit _)
          rw [run_convert_bytes_nil w src e hu hue len cap dst hud]
          congr 2
          obtain ⟨d⟩ := s
          have : d = #[] := by simpa [ByteArray.size] using hs0
          subst this; rfl
        | some a =>
          obtain ⟨r, off, sp⟩ := a
          by_cases hne : encB s = []
          · have hs0 : s.size = 0 := by rw [← hlen, hne]; rfl
            have hl0 : len = 0 := by omega
            subst hl0
            refine Gives.pure hw (x := .string s) ?_ (.lit _)
            have : (loadCells ⟨r, off, sp⟩ 0).run P w = .ok (([] : List Int).map (Value.int .u8)).toArray w := rfl
            rw [run_convert_bytes_string w src dst e _ 0 cap hu hue hud, run_bytesToString w _ 0 cap [] this]
            congr 2
            obtain ⟨d⟩ := s
            have : d = #[] := by simpa [ByteArray.size] using hs0
            subst this; rfl
          · have hsp' := hsp _ rfl hne
            simp only at hsp'
            subst hsp'
            have hsz1 : sz = 1 := by
              obtain ⟨y, hy⟩ := List.exists_mem_of_ne_nil _ hne
              have h5 := hsz y hy
              simp only [encB, List.mem_map] at hy
              obtain ⟨b, _, rfl⟩ := hy
              simpa [AV.cells] using h5.symm
            subst hsz1
            have := run_convert_bytes_arg (P := P) w src e hu hue r off len cap (s.data.toList.map fun b => (b.toNat : Int)) (by simp [hlen', hlen]) (by
              intro i hi
              have hl : i < s.data.toList.length := by rw [hlen'] at hi; simpa [encB] using hi
              have hgi : (encB s)[i]? = some (.lit (.int .u8 (s.data.toList[i].toNat : Int))) := by simp only [encB, List.getElem?_map, List.getElem?_eq_getElem hl, Option.map_some]
              have hmm := hm _ rfl i _ 0 _ hgi rfl
              have hrr := hr i _ 0 _ hgi rfl
              have hcv := lit_inv hrr
              have := hw.mem _ _ _ hmm
              simp only [Nat.mul_one, Nat.add_zero] at this
              rw [this, hcv]
              rw [List.getD_eq_getElem?_getD, List.getElem?_map, List.getElem?_eq_getElem hl]; rfl) dst hud
            refine Gives.pure hw (x := .string s) ?_ (.lit _)
            rw [this]
            congr 2
            obtain ⟨⟨d⟩⟩ := s
            simp [strOfNums, Function.comp_def]
  · exact hp.elim

end
end Go.Av
