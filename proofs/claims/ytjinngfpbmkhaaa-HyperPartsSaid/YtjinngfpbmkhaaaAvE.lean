import Derived.Test.YtjinngfpbmkhaaaAvD
namespace Go.Av
set_option linter.unusedVariables false
set_option linter.unusedSimpArgs false
open Go.RowKit

section
variable {P : Program} {w0 w : World} {M : Mem} {φ : Phi} {g : GH}

theorem fieldAddrA_gives (hw : Wr w0 M φ g w) {s : TypeId} {f : Nat} {x : AV} {xv : Value} (ha : Rep M φ x xv) (hp : (fieldAddrA P s f x).pre) :
    Gives P (Instr.fieldAt s xv f) w0 M φ g w (fieldAddrA P s f x).v (fieldAddrA P s f x).wr := by
  have key : ∀ {o sz : Nat} {ag : Bool} (r off : Nat), fldI P s f = some (o, sz, ag) → sz ≠ 0 → (Instr.fieldAt s (.pointer (some ⟨r, off, none⟩)) f).run P w = .ok (.pointer (some ⟨r, off + o, none⟩)) w := by
    intro o sz ag r off hf hne
    obtain ⟨fs, fd, ti, h1, h2, h3, h4, h5, h6⟩ := fldI_inv hf
    simp [Instr.fieldAt, run_underlying h1, h2, Instr.sureAddr, fieldPlace, run_sizeOf_ty h3, h5, hne, addr_add, h4]
  cases x <;> simp only [fieldAddrA] at hp ⊢ <;> first | exact hp.elim | skip
  · cases hf : fldI P s f with
    | none => rw [hf] at hp; exact hp.elim
    | some q =>
      obtain ⟨o, sz, ag⟩ := q
      rw [hf] at hp
      cases ha with
      | ptr h1 h2 => exact Gives.pure hw (key _ _ hf hp) (.ptr h1 h2)
  · cases hf : fldI P s f with
    | none => rw [hf] at hp; exact hp.elim
    | some q =>
      obtain ⟨o, sz, ag⟩ := q
      rw [hf] at hp
      cases ha with
      | @iptr _ _ r off cv hm hr =>
        refine Gives.pure hw (key _ _ hf hp) (.iptr (fun c => cv (o + c)) ?_ ?_)
        · intro c x hx
          have := hm (o + c) x (by simpa using hx)
          rw [← Nat.add_assoc] at this; exact this
        · intro c x hx
          exact hr (o + c) x (by simpa using hx)

theorem fieldA_gives (hw : Wr w0 M φ g w) {s : TypeId} {f : Nat} {x : AV} {xv : Value} (ha : Rep M φ x xv) (hp : (fieldA P s f x).pre) :
    Gives P (Instr.field s xv f) w0 M φ g w (fieldA P s f x).v (fieldA P s f x).wr := by
  cases x <;> simp only [fieldA] at hp ⊢ <;> first | exact hp.elim | skip
  rename_i cs
  cases hf : fldI P s f with
  | none => rw [hf] at hp; exact hp.elim
  | some q =>
    obtain ⟨o, sz, ag⟩ := q
    rw [hf] at hp
    obtain ⟨hle, hne⟩ := hp
    obtain ⟨fs, fd, ti, h1, h2, h3, h4, h5, h6⟩ := fldI_inv hf
    cases ha with
    | @agg _ _ vs hl hr =>
      cases hag : ag with
      | true =>
        refine Gives.pure hw (x := .agg (vs.extract o (o + sz))) ?_ ?_
        · simp [Instr.field, run_underlying h1, h2, asAgg, part, run_isAgg_ty h3, h6, hag, run_sizeOf_ty h3, h5, h4]
        · simp only [if_true]
          refine .agg (by simp; omega) ?_
          intro i x v k1 k2
          have hi : i < sz := by have := (List.getElem?_eq_some_iff.1 k1).1; simp at this; omega
          rw [List.getElem?_take_of_lt hi, List.getElem?_drop] at k1
          rw [Array.getElem?_extract] at k2
          split at k2
          · exact hr (o + i) x v k1 k2
          · cases k2
      | false =>
        have hlt : o < vs.size := by omega
        refine Gives.pure hw (x := vs[o]) ?_ ?_
        · simp [Instr.field, run_underlying h1, h2, asAgg, part, run_isAgg_ty h3, h6, hag, h4, hlt]
        · simp only [Bool.false_eq_true, if_false]
          exact hr o _ _ (by simp [List.getD_eq_getElem?_getD, show o < cs.length by omega]) (by simp [hlt])

theorem cells_getD {l : List AV} {i : Nat} (h : i < l.length) : l[i]? = some (l.getD i .any) := by simp [List.getD_eq_getElem?_getD, h]

theorem indexAddrA_gives (hw : Wr w0 M φ g w) {t : TypeId} {x y : AV} {xv yv : Value} (ha : Rep M φ x xv) (hb : Rep M φ y yv) (hp : (indexAddrA P t x y).pre) :
    Gives P (Instr.indexAt t xv yv) w0 M φ g w (indexAddrA P t x y).v (indexAddrA P t x y).wr := by
  unfold indexAddrA at hp ⊢
  split at hp
  · rename_i nl l tok k i
    cases hb
    cases hs : slT P t with
    | none => rw [hs] at hp; exact hp.elim
    | some e =>
      cases hti : tyI P e with
      | none => rw [hs] at hp; simp only [hti] at hp; exact hp.elim
      | some ti =>
        rw [hs] at hp
        simp only [hti] at hp ⊢
        obtain ⟨h0, h1, h2⟩ := hp
        have hu := slT_inv hs
        have hi : i.toNat < l.length := by omega
        cases ha with
        | @isl _ _ _ _ a len cap sz cv hlen hcap hnl hnil hsz hsp hm hr hfull htok =>
          cases a with
          | none => have := hnil rfl; omega
          | some a =>
            have hget := cells_getD hi
            have hszi : ti.size = sz := by rw [← h2]; exact hsz _ (List.mem_of_getElem? hget)
            have hsp' := hsp a rfl (by intro e; subst e; simp at hi)
            obtain ⟨r, off, sp⟩ := a
            simp only at hsp'
            subst hsp'
            refine Gives.pure hw (x := .pointer (some ⟨r, off + i.toNat * sz, none⟩)) ?_ (.iptr (fun c => cv i.toNat c) ?_ ?_)
            · have : 0 ≤ i ∧ i < (len : Int) := by omega
              simp [Instr.indexAt, asIntOf, run_underlying hu, this, run_sizeOf_ty hti, addr_add, hszi]
            · intro c x hx
              exact hm _ rfl i.toNat _ c x hget hx
            · intro c x hx
              exact hr i.toNat _ c x hget hx
  · rename_i id ver sz off len k i
    cases hb
    cases hs : slT P t with
    | none => rw [hs] at hp; exact hp.elim
    | some e =>
      cases hti : tyI P e with
      | none => rw [hs] at hp; simp only [hti] at hp; exact hp.elim
      | some ti =>
        rw [hs] at hp
        simp only [hti] at hp ⊢
        obtain ⟨h0, h1, h2⟩ := hp
        have hu := slT_inv hs
        cases ha with
        | @osl _ _ _ _ _ _ a cap C r h hC hcap hnone hz ha =>
          cases r with
          | none =>
            have := hz rfl
            omega
          | some q =>
            have ha' := ha q rfl (by omega)
            subst ha'
            refine Gives.pure hw (x := .pointer (some ⟨q, off * sz + i.toNat * sz, none⟩)) ?_ (.ptr h rfl)
            have : 0 ≤ i ∧ i < (len : Int) := by omega
            simp [Instr.indexAt, asIntOf, run_underlying hu, this, run_sizeOf_ty hti, addr_add, h2]
  · exact hp.elim

theorem indexA_gives (hw : Wr w0 M φ g w) {t : TypeId} {x y : AV} {xv yv : Value} (ha : Rep M φ x xv) (hb : Rep M φ y yv) (hp : (indexA P t x y).pre) :
    Gives P (Instr.index t xv yv) w0 M φ g w (indexA P t x y).v (indexA P t x y).wr := by
  unfold indexA at hp ⊢
  split at hp
  · rename_i s k i
    cases ha; cases hb
    obtain ⟨h1, h2, h3⟩ := hp
    have hu := (kindT_inv P t).2.1 h1
    refine Gives.pure hw (x := .int .u8 (byteAt s i.toNat)) ?_ (.lit _)
    have hlt : i.toNat < s.size := by omega
    have hd : s.data.toList.getD i.toNat 0 = s[i.toNat] := by
      rw [List.getD_eq_getElem?_getD, List.getElem?_eq_getElem (by simpa using hlt)]; rfl
    simp only [Instr.index, asIntOf, Sem.run_bind, Sem.run_pure, Result.andThen_ok, run_underlying hu, h2, if_true, ByteArray.getElem?_lt' s _ hlt, byteAt, hd]
  · exact hp.elim

theorem pickA_gives (hw : Wr w0 M φ g w) {c x y : AV} {cv xv yv : Value} (hc : Rep M φ c cv) (ha : Rep M φ x xv) (hb : Rep M φ y yv) (hp : (pickA c x y).pre) :
    Gives P (do pure (if ← asBool cv then xv else yv)) w0 M φ g w (pickA c x y).v (pickA c x y).wr := by
  unfold pickA at hp ⊢
  split at hp
  · rename_i t
    cases hc
    refine Gives.pure hw (x := if t then xv else yv) (by simp [asBool]) ?_
    cases t <;> simp [ha, hb]
  · exact hp.elim

theorem extractA_gives (hw : Wr w0 M φ g w) {i : Nat} {x : AV} {xv : Value} (ha : Rep M φ x xv) (hp : (extractA i x).pre) :
    Gives P (Instr.extract xv i) w0 M φ g w (extractA i x).v (extractA i x).wr := by
  unfold extractA at hp ⊢
  split at hp
  · rename_i vs
    cases ha with
    | @tup _ _ us hl hr =>
      have hlt : i < us.size := by have : i < vs.length := hp; omega
      exact Gives.pure hw (x := us[i]) (by simp [Instr.extract, hlt]) (hr i _ _ (cells_getD hp) (by simp [hlt]))
  · exact hp.elim

theorem unA_gives (hw : Wr w0 M φ g w) {op : UnOp} {x : AV} {xv : Value} (ha : Rep M φ x xv) (hp : (unA op x).pre) :
    Gives P (Op.unary op xv) w0 M φ g w (unA op x).v (unA op x).wr := by
  unfold unA at hp ⊢
  split at hp
  · cases ha
    split at hp
    · exact Gives.pure hw rfl (.lit _)
    · exact hp.elim
  · cases ha
    split at hp
    · exact Gives.pure hw rfl (.lit _)
    · exact Gives.pure hw rfl (.lit _)
    · exact hp.elim
  · exact hp.elim

theorem binI_gives (hw : Wr w0 M φ g w) {op : BinOp} {k : IntKind} {a b : Int} (t : TypeId) (hsh : isSh op = false) (hp : (binI op k a b).pre) :
    Gives P (binOp op t (.int k a) (.int k b)) w0 M φ g w (binI op k a b).v (binI op k a b).wr := by
  cases op <;> simp only [isSh, Bool.true_eq_false] at hsh <;> simp only [binI] at hp ⊢ <;> first
    | exact hp.elim
    | (refine Gives.pure hw ?_ (.lit _); simp [binOp, Op.intArith, Op.intBits, Op.intCmp, Op.intDiv, hp]; done)
    | (refine Gives.pure hw ?_ (.lit _); simp [binOp, Op.intArith, Op.intBits, Op.intCmp, Op.intDiv, hp]; by_cases h : a = b <;> simp [h])

theorem binSh_gives (hw : Wr w0 M φ g w) {op : BinOp} {k k' : IntKind} {a b : Int} (t : TypeId) (hp : (binSh op k a b).pre) :
    Gives P (binOp op t (.int k a) (.int k' b)) w0 M φ g w (binSh op k a b).v (binSh op k a b).wr := by
  cases op <;> simp only [binSh] at hp ⊢ <;> first
    | exact hp.elim
    | skip
  all_goals
    have hp' : ¬ b < 0 := by omega
    refine Gives.pure hw ?_ (.lit _)
    simp only [binOp, Op.shift, hp', if_false]
    first | rfl | skip
  all_goals
    rw [Int.fdiv_eq_ediv_of_nonneg]
    · rfl
    · exact Int.le_of_lt (Int.pow_pos (by omega))

theorem binS_gives (hw : Wr w0 M φ g w) {op : BinOp} {a b : ByteArray} (t : TypeId) (hp : (binS op a b).pre) :
    Gives P (binOp op t (.string a) (.string b)) w0 M φ g w (binS op a b).v (binS op a b).wr := by
  cases op <;> simp only [binS] at hp ⊢ <;> first
    | exact hp.elim
    | skip
  all_goals
    refine Gives.pure hw ?_ (.lit _)
    simp only [binOp, Op.stringOp, ByteArray.toList_eq]
    first | rfl | skip
  rw [if_neg (by simp [IntKind.max, IntKind.bits, IntKind.signed]; omega)]
  rfl

end
end Go.Av
