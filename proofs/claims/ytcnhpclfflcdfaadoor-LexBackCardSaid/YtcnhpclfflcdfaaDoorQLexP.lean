import Derived.Test.YtcnhpclfflcdfaaDoorQValD
import Derived.Test.YtcnhpclfflcdfaaDoorQLexN
import Derived.Test.YtcnhpclfflcdfaaDoorQBld
import Derived.WalkKit
import Derived.RowKit3
import Derived.Shelf.Strings.OnBuilder
/- A query's words as one text: the walk of lex.Print, world by world (a strings.Builder). -/
namespace Go.Proofs.YtcnhpclfflcdfaaDoorQ.Lex
open Go Go.Av Go.Proofs.YtcnhpclfflcdfaaDoorQ.Val
set_option linter.unusedSimpArgs false
set_option linter.unusedVariables false
/-- one word's text -/
noncomputable def txtS (w : Wd) : ByteArray := if w.1 = 3 then (if goodB w.2.2.1 w.2.2.2.1 w.2.2.2.2.1 = false ∨ w.2.2.1 = 0 then ⟨#[]⟩ else prV w.2.2.1 w.2.2.2.1 w.2.2.2.2.1) else w.2.1
theorem text_c (w : Wd) (hs : w.2.2.2.2.1.size ≤ 1000) (g : GH) : PureC Tryd.prog 64 [wA w] g (SS (txtS w)) := by
  obtain ⟨k, t, vk, vn, vt, at'⟩ := w
  simp only at hs
  refine CallC.body (fun _ => none) (fun _ => 0) Tryd.func64 rfl Tryd.results64 Tryd.ntmps64 ?_
  intro n0 hn0
  simp only [go_sem]
  by_cases h : k = 3
  · simp only [go_sem, h]
    by_cases hg : goodB vk vn vt = false ∨ vk = 0
    · refine WE_pure _ _ _ _ _ _ _ _ (print0_c vk vn vt hs hg _) ?_
      simp only [go_sem]
      refine FnPost_end hn0 (by simp) rfl (only_lit _ _) ?_
      simp only [go_sem]
      refine leA_str ?_
      unfold txtS; rw [if_pos rfl, if_pos hg]
    · have hgb : goodB vk vn vt = true := by
        cases e : goodB vk vn vt
        · exact absurd (.inl e) hg
        · rfl
      refine WE_pure _ _ _ _ _ _ _ _ (print_c vk vn vt hs hgb (fun e => hg (.inr e)) _) ?_
      simp only [go_sem]
      refine FnPost_end hn0 (by simp) rfl (only_lit _ _) ?_
      simp only [go_sem]
      refine leA_str ?_
      unfold txtS; rw [if_pos rfl, if_neg hg]
  · simp only [go_sem, h]
    refine FnPost_end hn0 (by simp) rfl (only_lit _ _) ?_
    simp only [go_sem]
    refine leA_str ?_
    unfold txtS; rw [if_neg h]

noncomputable def outL (ws : List Wd) : Nat → ByteArray
  | 0 => ⟨#[]⟩
  | k + 1 => (if 0 < k then outL ws k ++ (⟨#[32]⟩ : ByteArray) else outL ws k) ++ txtS (ws.getD k (0, ⟨#[]⟩, 0, 0, ⟨#[]⟩, 0))
/-- any words' text -/
noncomputable def printS (ws : List Wd) : ByteArray := outL ws ws.length
abbrev wV (w : Wd) : Value := .agg #[.int .i64 w.1, .string w.2.1, .int .i64 w.2.2.1, .int .i64 w.2.2.2.1, .string w.2.2.2.2.1, .int .i64 w.2.2.2.2.2]
open Go.RowKit
theorem text_w (w : Wd) (hs : w.2.2.2.2.1.size ≤ 1000) (W : World) (hB : BaseW W) :
    Calls Tryd.prog 64 #[wV w] W fun e W' => e = .returned (.string (txtS w)) ∧ Below W.heap.size W W' := by
  refine law_calls (args := [wA w]) (text_c w hs _) W #[wV w] hB ⟨rfl, ?_⟩
  intro i a v ha hv
  match i, ha, hv with
  | 0, ha, hv => 
    cases ha; cases hv
    refine Rep.agg rfl ?_
    intro i x v h1 h2
    match i, h1, h2 with
    | 0, h1, h2 => cases h1; cases h2; exact .lit _
    | 1, h1, h2 => cases h1; cases h2; exact .lit _
    | 2, h1, h2 => cases h1; cases h2; exact .lit _
    | 3, h1, h2 => cases h1; cases h2; exact .lit _
    | 4, h1, h2 => cases h1; cases h2; exact .lit _
    | 5, h1, h2 => cases h1; cases h2; exact .lit _
    | i + 6, h1, h2 => simp at h1
  | i + 1, ha, hv => simp at ha
theorem bld_below {T e : TypeId} {B b : Nat} {bs : List Value} {w w' : World} (h : Lib.IsBuilderF T e B b bs w) (hb : Below w.heap.size w w') : Lib.IsBuilderF T e B b bs w' := by
  have own : ∀ {v : Value} {n : Nat} {xs : List Value}, w.ownsRowF B e 1 v n xs → w'.ownsRowF B e 1 v n xs := by
    intro v n xs h
    refine ⟨h.1, ?_⟩
    rcases h.2 with hn | ⟨g, cap, cur, fz, rfl, hg, hgg, rest⟩
    · exact .inl hn
    · exact .inr ⟨g, cap, cur, fz, rfl, hg, by rw [hb.block g (Array.getElem?_eq_some_iff.1 hgg).1]; exact hgg, rest⟩
  rcases h with ⟨hB, v, h1, h2, h3⟩ | ⟨hB, v, h1, h2, h3⟩
  · exact .inl ⟨hB, v, by rw [hb.block b (Array.getElem?_eq_some_iff.1 h1).1]; exact h1, own h2, h3⟩
  · exact .inr ⟨hB, v, by rw [hb.block b (Array.getElem?_eq_some_iff.1 h1).1]; exact h1, own h2, h3⟩
theorem cells_of {w : World} {b : Nat} {cs : Array Value} {t : TypeId} {fz : Nat × Nat} (h : w.heap[b]? = some (.cells cs t fz)) (j : Nat) : w.cell? ⟨b, j, none⟩ = cs[j]? := by
  unfold World.cell?
  simp [h]
theorem base_below {w w' : World} (h : BaseW w) (hb : Below w.heap.size w w') : BaseW w' := by
  intro p hp
  obtain ⟨t, fz, h1⟩ := h p hp
  exact ⟨t, fz, by rw [hb.block _ (Array.getElem?_eq_some_iff.1 h1).1]; exact h1⟩
theorem bld_lt {T e : TypeId} {B b : Nat} {bs : List Value} {w : World} (h : Lib.IsBuilderF T e B b bs w) : b < w.heap.size := by
  rcases h with ⟨_, v, h1, _⟩ | ⟨_, v, h1, _⟩ <;> exact (Array.getElem?_eq_some_iff.1 h1).1
theorem data_app (a b : ByteArray) : (a ++ b).data.toList = a.data.toList ++ b.data.toList := by rw [ByteArray.data_append, Array.toList_append]
theorem outL_size (ws : List Wd) (h : ∀ w, w ∈ ws → (txtS w).size ≤ 5000) : ∀ k, k ≤ ws.length → (outL ws k).size ≤ k * 5001
  | 0, _ => by rw [outL]; exact Nat.zero_le _
  | k + 1, hk => by
    have ih := outL_size ws h k (by omega)
    have hq : ws[k]? = some ws[k] := List.getElem?_eq_getElem hk
    have h2 := h _ (List.mem_of_getElem? hq)
    rw [outL, List.getD_eq_getElem?_getD, hq, Option.getD_some, ByteArray.size_append]
    have h3 : (if 0 < k then outL ws k ++ (⟨#[32]⟩ : ByteArray) else outL ws k).size ≤ (outL ws k).size + 1 := by
      split
      · rw [ByteArray.size_append]; exact Nat.le_refl _
      · omega
    omega
set_option maxHeartbeats 4000000 in
set_option maxRecDepth 100000 in
theorem print_w (ws : List Wd) (hs : ∀ w, w ∈ ws → w.2.2.2.2.1.size ≤ 1000) (ht : ∀ w, w ∈ ws → (txtS w).size ≤ 5000) (hn : ws.length ≤ 1000) (b off cap : Nat) (W : World) (hB : BaseW W) (hc : ∀ (i : Nat) w, ws[i]? = some w → ∀ (j : Nat) v, ([.int .i64 w.1, .string w.2.1, .int .i64 w.2.2.1, .int .i64 w.2.2.2.1, .string w.2.2.2.2.1, .int .i64 w.2.2.2.2.2] : List Value)[j]? = some v → W.cell? ⟨b, off + i * 6 + j, none⟩ = some v) :
    Calls Tryd.prog 23 #[.slice (some ⟨b, off, none⟩) ws.length cap] W fun e W' => e = .returned (.string (printS ws)) ∧ Below W.heap.size W W' := by
  have Hc := Any.hidU hc
  have Hs := Any.hidU hs
  have Ht := Any.hidU ht
  clear hc hs ht
  go_enter Tryd.func23, Tryd.ntmps23
  go_wp2
  go_loopw [8] (fun i wr => ∃ k : Nat, k ≤ ws.length ∧ i = .int .i64 k ∧ Hid (Lib.IsBuilderF 75 5 W.heap.size W.heap.size (Lib.byteCells (outL ws k).data.toList) wr) ∧ Hid (Below W.heap.size W wr)) (fun i _ => ws.length - (intOf i).toNat)
  case atStart => exact ⟨0, Nat.zero_le _, rfl, Any.hidU (.of (Lib.fresh_isBuilder _ _ W)), Any.hidU ((Below.refl W.heap.size W).alloc (Nat.le_refl _) _)⟩
  case round =>
    obtain ⟨k, hk, rfl, HB, HW⟩ := hrel
    have hBw : W.heap.size ≤ wr.heap.size := HW.out.size
    have hlk := outL_size ws Ht.out k hk
    have Hlk := Any.hidU hlk
    clear hlk
    by_cases hlt : k < ws.length
    · obtain ⟨q, hq⟩ : ∃ q, ws[k]? = some q := ⟨_, List.getElem?_eq_getElem hlt⟩
      have hg : ∀ (j : Nat) v, ([.int .i64 q.1, .string q.2.1, .int .i64 q.2.2.1, .int .i64 q.2.2.2.1, .string q.2.2.2.2.1, .int .i64 q.2.2.2.2.2] : List Value)[j]? = some v → wr.cell? ⟨b, off + k * 6 + j, none⟩ = some v := by
        intro j v h
        have h1 := Hc.out k q hq j v h
        have hb : b < W.heap.size := by
          rcases Nat.lt_or_ge b W.heap.size with h' | h'
          · exact h'
          · simp [World.cell?, Array.getElem?_eq_none h'] at h1
        rw [HW.out.cell hb]; exact h1
      have c0 : wr.cell? ⟨b, off + k * 6, none⟩ = some (.int .i64 q.1) := hg 0 _ rfl
      have c1 : wr.cell? ⟨b, off + k * 6 + 1, none⟩ = some (.string q.2.1) := hg 1 _ rfl
      have c2 : wr.cell? ⟨b, off + k * 6 + 2, none⟩ = some (.int .i64 q.2.2.1) := hg 2 _ rfl
      have c3 : wr.cell? ⟨b, off + k * 6 + 3, none⟩ = some (.int .i64 q.2.2.2.1) := hg 3 _ rfl
      have c4 : wr.cell? ⟨b, off + k * 6 + 4, none⟩ = some (.string q.2.2.2.2.1) := hg 4 _ rfl
      have c5 : wr.cell? ⟨b, off + k * 6 + 5, none⟩ = some (.int .i64 q.2.2.2.2.2) := hg 5 _ rfl
      have hqs := Hs.out q (List.mem_of_getElem? hq)
      have hqt := Ht.out q (List.mem_of_getElem? hq)
      have Hq := Any.hidU hq
      have hout : outL ws (k + 1) = (if 0 < k then outL ws k ++ (⟨#[32]⟩ : ByteArray) else outL ws k) ++ txtS q := by
        rw [outL, List.getD_eq_getElem?_getD, hq, Option.getD_some]
      have Hout := Any.hidU hout
      clear hg hq hout
      go_wp2_with fail
      · obtain ⟨h0, -⟩ : 0 < k ∧ True := ⟨by omega, trivial⟩
        have hal := (Below.refl wr.heap.size wr).alloc (Nat.le_refl _) (Obj.cells #[Value.int IntKind.i64 q.1, Value.string q.2.1, Value.int IntKind.i64 q.2.2.1, Value.int IntKind.i64 q.2.2.2.1, Value.string q.2.2.2.2.1, Value.int IntKind.i64 q.2.2.2.2.2] 70)
        have hB1 := bld_below HB.out hal
        refine (Tryd.mWriteByte W.heap.size W.heap.size _ 32 _ hB1 (by rw [Lib.byteCells_length, ← Lib.size_eq]; have := Hlk.out; omega) (Nat.le_trans hBw hal.size)).mono ?_
        rintro e w2 ⟨rfl, h2, hb2, ho2⟩
        have d := ho2 wr.heap.size _ (heap_alloc_new wr _) (fun e => by have := Option.some.inj e; have := bld_lt HB.out; omega) (by intro c fz e; cases e)
        have d0 := cells_of d 0
        have d1 := cells_of d 1
        have d2 := cells_of d 2
        have d3 := cells_of d 3
        have d4 := cells_of d 4
        have d5 := cells_of d 5
        simp at d0 d1 d2 d3 d4 d5
        have HB2 := Any.hidU h2
        have HW2 := Any.hidU ((HW.out.trans (hal.mono hBw)).trans hb2)
        clear h2 hb2 hB1 hal ho2 d
        go_wp2_with fail
        refine (text_w q hqs w2 (base_below hB HW2.out)).mono ?_
        rintro e w3 ⟨rfl, hb3⟩
        have HB3 := Any.hidU (bld_below (Or.inr HB2.out) hb3)
        have HW3 := Any.hidU (HW2.out.trans (hb3.mono HW2.out.size))
        clear hb3
        go_wp2_with fail
        refine (Tryd.mWriteString W.heap.size W.heap.size _ (txtS q) _ HB3.out (by rw [List.length_append, Lib.byteCells_length, ← Lib.size_eq]; have := Hlk.out; simp; omega) HW3.out.size).mono ?_
        rintro e w4 ⟨rfl, h4, hb4, -⟩
        have HB4 := Any.hidU h4
        have HW4 := Any.hidU (HW3.out.trans hb4)
        clear h4 hb4
        go_wp2
        refine ⟨⟨k + 1, by omega, by go_num, ?_, HW4⟩, by simp [intOf]; omega⟩
        rw [Hout.out, if_pos (by omega), data_app, data_app, Lib.byteCells_append, Lib.byteCells_append]
        exact Or.inr HB4.out
      · obtain ⟨h0, -⟩ : ¬ 0 < k ∧ True := ⟨by omega, trivial⟩
        have hal := (Below.refl wr.heap.size wr).alloc (Nat.le_refl _) (Obj.cells #[Value.int IntKind.i64 q.1, Value.string q.2.1, Value.int IntKind.i64 q.2.2.1, Value.int IntKind.i64 q.2.2.2.1, Value.string q.2.2.2.2.1, Value.int IntKind.i64 q.2.2.2.2.2] 70)
        have HB1 := Any.hidU (bld_below HB.out hal)
        have HW1 := Any.hidU (HW.out.trans (hal.mono hBw))
        clear hal
        refine (text_w q hqs _ (base_below hB HW1.out)).mono ?_
        rintro e w3 ⟨rfl, hb3⟩
        have HB3 := Any.hidU (bld_below HB1.out hb3)
        have HW3 := Any.hidU (HW1.out.trans (hb3.mono HW1.out.size))
        clear hb3
        go_wp2_with fail
        refine (Tryd.mWriteString W.heap.size W.heap.size _ (txtS q) _ HB3.out (by rw [Lib.byteCells_length, ← Lib.size_eq]; have := Hlk.out; omega) HW3.out.size).mono ?_
        rintro e w4 ⟨rfl, h4, hb4, -⟩
        have HB4 := Any.hidU h4
        have HW4 := Any.hidU (HW3.out.trans hb4)
        clear h4 hb4
        go_wp2
        refine ⟨⟨k + 1, by omega, by go_num, ?_, HW4⟩, by simp [intOf]; omega⟩
        rw [Hout.out, if_neg (by omega), data_app, Lib.byteCells_append]
        exact Or.inr HB4.out
    · have hk' : k = ws.length := by omega
      subst hk'
      go_wp2_with fail
      refine (Tryd.mString W.heap.size W.heap.size _ wr HB.out hBw).mono ?_
      rintro e w2 ⟨rfl, -, hb2, -⟩
      have HW2 := Any.hidU (HW.out.trans hb2)
      clear hb2
      go_wp2
      go_ret
      exact ⟨rfl, HW2.out⟩
set_option maxRecDepth 100000 in
theorem print_w0 (a : Option Addr) (cap : Nat) (W : World) :
    Calls Tryd.prog 23 #[.slice a 0 cap] W fun e W' => e = .returned (.string ⟨#[]⟩) ∧ Below W.heap.size W W' := by
  go_enter Tryd.func23, Tryd.ntmps23
  go_wp2
  go_loopw [8] (fun i wr => i = .int .i64 0 ∧ Hid (Lib.IsBuilderF 75 5 W.heap.size W.heap.size (Lib.byteCells []) wr) ∧ Hid (Below W.heap.size W wr)) (fun _ _ => 0)
  case atStart => exact ⟨rfl, Any.hidU (.of (Lib.fresh_isBuilder _ _ W)), Any.hidU ((Below.refl W.heap.size W).alloc (Nat.le_refl _) _)⟩
  case round =>
    obtain ⟨rfl, HB, HW⟩ := hrel
    have hBw : W.heap.size ≤ wr.heap.size := HW.out.size
    go_wp2_with fail
    refine (Tryd.mString W.heap.size W.heap.size _ wr HB.out hBw).mono ?_
    rintro e w2 ⟨rfl, -, hb2, -⟩
    have HW2 := Any.hidU (HW.out.trans hb2)
    clear hb2
    go_wp2
    go_ret
    exact ⟨rfl, HW2.out⟩
theorem Print_c (ws : List Wd) (hs : ∀ w, w ∈ ws → w.2.2.2.2.1.size ≤ 1000) (ht : ∀ w, w ∈ ws → (txtS w).size ≤ 5000) (hn : ws.length ≤ 1000) (nl : Option Bool) (tok : Tk) (g : GH) : PureC Tryd.prog 23 [.isl nl (ws.map wA) tok] g (SS (printS ws)) := by
  intro n w0 M φ w vs hdom hw hargs
  obtain ⟨l⟩ := vs
  have h0 := hargs.1
  match l, h0 with
  | [v], _ =>
    have hv := hargs.2 0 _ v rfl rfl
    have key : Calls Tryd.prog 23 #[v] w fun e W' => e = .returned (.string (printS ws)) ∧ Below w.heap.size w W' := by
      cases hv with
      | @isl _ _ _ _ a len cap sz cv hlen hcap hnl hnil hsz hsp hm hr hfull htok =>
        cases ws with
        | nil => subst hlen; exact print_w0 a cap w
        | cons q r =>
          cases a with
          | none => have := hnil rfl; simp at hlen; omega
          | some d =>
            obtain ⟨b, off, spot⟩ := d
            have := hsp _ rfl (by simp)
            simp only at this
            subst this
            have hz : sz = 6 := (hsz (wA q) (by simp)).symm
            subst hz
            have hl : len = (q :: r).length := by rw [hlen, List.length_map]
            rw [hl]
            refine print_w (q :: r) hs ht hn b off cap w hw.baseNow ?_
            intro i x hi j v hj
            have hi' : ((q :: r).map wA)[i]? = some (wA x) := by rw [List.getElem?_map, hi]; rfl
            have hc' : (wA x).cells[j]? = some (.lit v) := by
              match j, hj with
              | 0, hj => cases hj; rfl
              | 1, hj => cases hj; rfl
              | 2, hj => cases hj; rfl
              | 3, hj => cases hj; rfl
              | 4, hj => cases hj; rfl
              | 5, hj => cases hj; rfl
              | j + 6, hj => simp at hj
            have h1 := hm _ rfl i _ j _ hi' hc'
            rw [lit_inv (hr i _ j _ hi' hc')] at h1
            exact hw.mem _ _ _ h1
    refine key.mono ?_
    rintro e w' ⟨rfl, bel⟩
    have hlt : ∀ r j v, M r j = some v → r < w.heap.size := fun r j v hm => cell_lt (hw.mem r j v hm)
    refine ⟨M, φ, _, _, g, rfl, Mem.le.refl _, Phi.le.refl _, hdom, ?_, .lit _, rfl, rfl⟩
    exact hw.grow (hw.below.trans (bel.mono hw.below.size)) (fun r j v hm => by rw [bel.cell (p := ⟨r, j, none⟩) (hlt r j v hm)]; exact hw.mem r j v hm) (Mem.le.refl _) fun r hr => ⟨bel.block r hr, fun _ => rfl⟩
end Go.Proofs.YtcnhpclfflcdfaaDoorQ.Lex
