import Derived.Test.YtcnhpclfflcdfaaDoorRRegM
/- Expressions: rows that match. -/
namespace Go.Proofs.YtcnhpclfflcdfaaDoorR.Reg
open Go Go.Av Go.Proofs.YtcnhpclfflcdfaaDoorR.Val Go.Proofs.YtcnhpclfflcdfaaDoorR.Lex
set_option linter.unusedSimpArgs false
set_option linter.unusedVariables false
def sta (n : Nat) : List Bool := true :: List.replicate n false
theorem sta_len (n : Nat) : (sta n).length = n + 1 := by simp [sta]
theorem sta_eq (n : Nat) : AV.lit (Value.bool true) :: List.replicate n (AV.lit (Value.bool false)) = Bl (sta n) := by
  show _ = AV.lit (Value.bool true) :: (List.replicate n false).map BB
  rw [List.map_replicate]
set_option maxRecDepth 100000 in
set_option maxHeartbeats 2000000 in
theorem match_c (ws : List Sy) (hws : ws.length ≤ 10000) (r : Rx) (hn : r.nodes ≤ 1000000) (hs : smallR r) (hg : goodR nameB r = true) (F : List Bool → List Bool) (hF : ∀ bs, bs.length = ws.length + 1 → (F bs).length = ws.length + 1) (hE : EndsC ws r F) (g : GH) : PureC Tryd.prog 72 [rA r, .isl none (Syl ws) .no] g (BB ((F (sta ws.length)).getD ws.length false)) := by
  obtain ⟨z, hz⟩ : ∃ z, sta ws.length = z := ⟨_, rfl⟩
  have hgc := good_c r hn hs
  rw [hg] at hgc
  have hzl : z.length = ws.length + 1 := by rw [← hz, sta_len]
  have hre := rA_eq r
  rw [hz, hre]
  refine CallC.body (fun _ => none) (fun d => if d = 12 then 2 else 0) Tryd.func72 rfl Tryd.results72 Tryd.ntmps72 ?_
  intro n0 hn0
  simp only [go_sem, rA_cells]
  rw [← hre]
  refine WE_pure _ _ _ _ _ _ _ _ (hgc _) ?_
  simp only [go_sem]
  have ew : IntKind.i64.wrap ((ws.length : Int) + 1) = ((ws.length + 1 : Nat) : Int) := by rw [wrap_i64]; omega
  have hzz : AV.lit (Value.bool true) :: List.replicate ws.length ([AV.lit (Value.bool false)].headD AV.any) = Bl z := by
    rw [← hz]; exact sta_eq _
  have hrr : ∀ m, (List.replicate (m + 1) ([AV.lit (Value.bool false)].headD AV.any)).length = m + 1 := fun m => List.length_replicate
  have hFl := hF z hzl
  have gf := Bl_get (F z) ws.length (by omega)
  simp only [go_sem, List.length_map, ew, Int.toNat_natCast]
  refine ⟨⟨by omega, by omega⟩, by omega, ?_⟩
  rw [hzz, ← hre, ← hzl]
  refine WE_pure _ _ _ _ _ _ _ _ (hE z _ (.osl (n0 + 12) 0 1 0 z.length) hzl (.inr ⟨n0 + 12, 0, rfl, by rw [get_loc]; rfl⟩)) ?_
  simp only [go_sem]
  generalize F z = Fz at *
  simp only [go_sem, gf, List.length_map]
  refine ⟨by omega, ?_⟩
  refine FnPost_end hn0 (by simp) rfl (by simp only [only_tup, List.mem_cons, List.not_mem_nil, or_false, forall_eq_or_imp, forall_eq, only_any, only_lit', only_full, only_no, only_iptr, only_agg, only_bfn, and_self, and_true, true_and, implies_true, or_false]) ?_
  simp only [go_sem]
  exact leA_refl _
theorem Match_c (ws : List Sy) (hws : ws.length ≤ 10000) (r : Rx) (hn : r.nodes ≤ 1000000) (hs : smallR r) (hg : goodR nameB r = true) (F : List Bool → List Bool) (hF : ∀ bs, bs.length = ws.length + 1 → (F bs).length = ws.length + 1) (hE : EndsC ws r F) (g : GH) : PureC Tryd.prog 33 [rA r, .isl none (Syl ws) .no] g (BB ((F (sta ws.length)).getD ws.length false)) := by
  have hm := match_c ws hws r hn hs hg F hF hE
  have hre := rA_eq r
  rw [hre] at hm ⊢
  refine CallC.body (fun _ => none) (fun _ => 0) Tryd.func33 rfl Tryd.results33 Tryd.ntmps33 ?_
  intro n0 hn0
  simp only [go_sem, rA_cells]
  refine WE_pure _ _ _ _ _ _ _ _ (hm _) ?_
  simp only [go_sem]
  refine FnPost_end hn0 (by simp) rfl (by simp only [only_tup, List.mem_cons, List.not_mem_nil, or_false, forall_eq_or_imp, forall_eq, only_any, only_lit', only_full, only_no, only_iptr, only_agg, only_bfn, and_self, and_true, true_and, implies_true, or_false]) ?_
  simp only [go_sem]
  exact leA_refl _
theorem Empty_c (r : Rx) (hn : r.nodes ≤ 1000000) (hs : smallR r) (hg : goodR nameB r = true) (F : List Bool → List Bool) (hF : ∀ bs, bs.length = 1 → (F bs).length = 1) (hE : EndsC [] r F) (g : GH) : PureC Tryd.prog 34 [rA r] g (BB ((F [true]).getD 0 false)) := by
  have hm := match_c [] (Nat.zero_le _) r hn hs hg F hF hE
  have hre := rA_eq r
  rw [hre] at hm ⊢
  refine CallC.body (fun _ => none) (fun _ => 0) Tryd.func34 rfl Tryd.results34 Tryd.ntmps34 ?_
  intro n0 hn0
  simp only [go_sem, rA_cells]
  have hm0 : ∀ g, PureC Tryd.prog 72 [.agg [.lit (.int .i64 r.k), .lit (.string r.l), .lit (.bool r.b), .isl none (r.ps.map rA) .no], .isl (some true) [] .full] g (BB ((F [true]).getD 0 false)) := fun g => PureC.le (args' := [.agg [.lit (.int .i64 r.k), .lit (.string r.l), .lit (.bool r.b), .isl none (r.ps.map rA) .no], .isl none (Syl []) .no]) ⟨leA_refl _, ⟨.inl rfl, rfl, .inl rfl⟩, trivial⟩ (hm g)
  refine WE_pure _ _ _ _ _ _ _ _ (hm0 _) ?_
  simp only [go_sem]
  refine FnPost_end hn0 (by simp) rfl (by simp only [only_tup, List.mem_cons, List.not_mem_nil, or_false, forall_eq_or_imp, forall_eq, only_any, only_lit', only_full, only_no, only_iptr, only_agg, only_bfn, and_self, and_true, true_and, implies_true, or_false]) ?_
  simp only [go_sem]
  exact leA_refl _
/-! ### the living call -/
/-- a.(b|^c)* -/
def liveT : ByteArray := ⟨#[97, 46, 40, 98, 124, 94, 99, 41, 42]⟩
def syR (l : UInt8) (b : Bool) : Rx := .mk 2 ⟨#[l]⟩ b []
def altR : Rx := .mk 4 ⟨#[]⟩ false [syR 98 false, syR 99 true]
def staR : Rx := .mk 5 ⟨#[]⟩ false [altR]
def liveR : Rx := .mk 3 ⟨#[]⟩ false [syR 97 false, staR]
theorem live_rows : rowsN (wordsF liveT).1 ((wordsF liveT).1.length + 1) (0, 0) = (liveR, 9, 0) := by kernel_rfl
theorem live_words : (wordsF liveT).2 = (0, 0) := by kernel_rfl
theorem live_len : (wordsF liveT).1.length = 9 := by kernel_rfl
theorem one_name (l : UInt8) (h : letB (byteAt ⟨#[l]⟩ 0) = true) : nameB ⟨#[l]⟩ = true := by
  have hs : (⟨#[l]⟩ : ByteArray).size = 1 := rfl
  refine nameB_yes ⟨by omega, by omega, fun i hi => ?_⟩
  have : i = 0 := by
    have : (⟨#[l]⟩ : ByteArray).size = 1 := rfl
    omega
  subst this
  exact .inl h
theorem form_sy (l : UInt8) (b : Bool) (h : letB (byteAt ⟨#[l]⟩ 0) = true) : formR nameB (syR l b) = true := by
  unfold syR
  rw [formR, formL, symB, if_pos rfl, one_name l h]
  rfl
theorem live_good : goodR nameB liveR = true := by
  have h1 : formR nameB altR = true := by
    unfold altR
    rw [formR, formL, formL, formL, form_sy 98 false rfl, form_sy 99 true rfl]; rfl
  have h2 : formR nameB staR = true := by
    unfold staR
    rw [formR, formL, formL, h1]; rfl
  have h3 : formR nameB liveR = true := by
    unfold liveR
    rw [formR, formL, formL, formL, form_sy 97 false rfl, h2]; rfl
  unfold goodR
  rw [h3]; rfl
theorem live_read : parseF nameB (wordsF liveT) = (liveR, 9, 0) := by
  have hr : readF nameB (wordsF liveT).1 = (liveR, 9, 0) := by
    unfold readF
    rw [live_rows, live_good]; rfl
  unfold parseF
  rw [hr, live_words, live_len]; rfl
def FA (n : Nat) (ws : List Sy) (bs : List Bool) : List Bool := altL ([syR 98 false, syR 99 true].map fun p => symF (p.l, p.b) ws) (nul (n + 1)) bs
def FS (n : Nat) (ws : List Sy) (bs : List Bool) : List Bool := againL (FA n ws) (noL bs + 1) bs
def FL (n : Nat) (ws : List Sy) (bs : List Bool) : List Bool := FS n ws (symF (⟨#[97]⟩, false) ws bs)
theorem againL_len (F : List Bool → List Bool) : ∀ (f : Nat) (bs : List Bool), (againL F f bs).length = bs.length
  | 0, bs => rfl
  | f + 1, bs => by
    rw [againL]; split
    · rw [againL_len F f, joinL_len]
    · exact joinL_len _ _
theorem noL_eq (bs : List Bool) : noL bs = ((List.range bs.length).filter fun i => !(bs.getD i false)).length := by
  unfold noL
  conv => lhs; rw [show bs = (List.range bs.length).map fun i => bs.getD i false from bl_ext (by simp) (fun i hi => by simp [List.getD_eq_getElem?_getD, hi])]
  rw [List.filter_map, List.length_map]; rfl
theorem filter_lt {l : List Nat} {p q : Nat → Bool} (h : ∀ i ∈ l, p i = true → q i = true) (hx : ∃ i ∈ l, p i = false ∧ q i = true) : (l.filter p).length < (l.filter q).length := by
  induction l with
  | nil => obtain ⟨i, hi, -⟩ := hx; simp at hi
  | cons a l ih =>
    have hle : (l.filter p).length ≤ (l.filter q).length := by
      clear ih hx
      induction l with
      | nil => simp
      | cons b l ih2 =>
        have ih3 := ih2 (fun i hi => h i (by rcases List.mem_cons.1 hi with rfl | hi <;> simp_all))
        rw [List.filter_cons, List.filter_cons]
        cases hp : p b
        · cases hq : q b <;> simp <;> omega
        · rw [h b (by simp) hp]; simp; omega
    rw [List.filter_cons, List.filter_cons]
    obtain ⟨i, hi, h1, h2⟩ := hx
    rcases List.mem_cons.1 hi with rfl | hi
    · rw [h1, h2]; simp; omega
    · have := ih (fun j hj => h j (List.mem_cons_of_mem _ hj)) ⟨i, hi, h1, h2⟩
      cases hp : p a
      · cases hq : q a <;> simp <;> omega
      · rw [h a (by simp) hp]; simp; omega
theorem again_less {bs more : List Bool} (hl : more.length = bs.length) (h : joinG bs more = true) : noL (joinL bs more) < noL bs := by
  rw [noL_eq, noL_eq, joinL_len]
  unfold joinG at h
  obtain ⟨i, hi, hx⟩ := List.any_eq_true.1 h
  rw [List.mem_range, hl] at hi
  rw [Bool.and_eq_true] at hx
  refine filter_lt ?_ ⟨i, List.mem_range.2 hi, ?_, hx.2⟩
  · intro j hj hn
    rw [joinL_get _ _ _ (List.mem_range.1 hj)] at hn
    cases hb : bs.getD j false
    · rfl
    · rw [hb] at hn; cases hn
  · rw [joinL_get _ _ _ hi, hx.1]; simp
theorem FA_len (ws : List Sy) (bs : List Bool) : (FA ws.length ws bs).length = ws.length + 1 := by
  unfold FA; rw [altL_len, nul_len]
theorem live_sy (ws : List Sy) (hws : ws.length ≤ 10000) (l : UInt8) (b : Bool) : EndsC ws (syR l b) (symF ((syR l b).l, (syR l b).b) ws) := ends_sym ws hws (syR l b) rfl
theorem live_alt (ws : List Sy) (hws : ws.length ≤ 10000) : EndsC ws altR (FA ws.length ws) :=
  ends_alt ws hws altR rfl (by decide) (fun p => symF (p.l, p.b) ws) (fun p bs _ => symP_len _ _ _ _) fun p hp => by
    unfold altR at hp
    rcases List.mem_cons.1 hp with rfl | hp
    · exact live_sy ws hws _ _
    · rw [List.mem_singleton.1 hp]; exact live_sy ws hws _ _
theorem live_sta (ws : List Sy) (hws : ws.length ≤ 10000) : EndsC ws staR (FS ws.length ws) :=
  ends_star ws hws staR rfl (by decide) (by decide) (FA ws.length ws) (fun bs _ => FA_len ws bs) (fun bs hb h => again_less (by rw [FA_len, hb]) h) (live_alt ws hws)
theorem live_ends (ws : List Sy) (hws : ws.length ≤ 10000) : EndsC ws liveR (FL ws.length ws) :=
  ends_seq ws hws liveR rfl (by decide) (by decide) (fun p => if p.k = 2 then symF (p.l, p.b) ws else FS ws.length ws) (fun p bs hb => by
    split
    · exact symP_len _ _ _ _
    · unfold FS; rw [againL_len, hb]) fun p hp => by
    unfold liveR at hp
    rcases List.mem_cons.1 hp with rfl | hp
    · exact live_sy ws hws _ _
    · rw [List.mem_singleton.1 hp]; exact live_sta ws hws
theorem FL_len (ws : List Sy) (bs : List Bool) : (FL ws.length ws bs).length = ws.length + 1 := by
  unfold FL FS; rw [againL_len]; exact symP_len _ _ _ _
theorem live_small : smallR liveR := by
  simp only [liveR, staR, altR, syR, smallR, smallL]
  decide
def liveW : List Sy := [(⟨#[97]⟩, false), (⟨#[99]⟩, true)]
theorem live_yes : (FL 2 liveW (sta 2)).getD 2 false = true := by kernel_rfl
theorem live_no : (FL 0 [] [true]).getD 0 false = false := by kernel_rfl
theorem lives_c (g : GH) : PureC Tryd.prog 35 [] g (BB true) := by
  have hp : ∀ g, PureC Tryd.prog 36 [SS liveT] g (sdA (liveR, 9, 0)) := fun g => by
    have := Parse_c liveT (by decide) g
    rwa [live_read] at this
  have hm : ∀ g, PureC Tryd.prog 33 [rA liveR, .isl none (Syl liveW) .no] g (BB true) := fun g => by
    have := Match_c liveW (by decide) liveR (by decide) live_small live_good (FL 2 liveW) (fun bs _ => FL_len liveW bs) (live_ends liveW (by decide)) g
    rw [show liveW.length = 2 from rfl, live_yes] at this
    exact this
  have he : ∀ g, PureC Tryd.prog 34 [rA liveR] g (BB false) := fun g => by
    have := Empty_c liveR (by decide) live_small live_good (FL 0 []) (fun bs _ => FL_len [] bs) (live_ends [] (by decide)) g
    rwa [live_no] at this
  have hk : liveR.k = 3 := rfl
  have hre := rA_eq liveR
  generalize liveR = R at *
  rw [hk] at hre
  rw [hre] at hm he
  have hm0 : ∀ g, PureC Tryd.prog 33 [.agg [.lit (.int .i64 3), .lit (.string R.l), .lit (.bool R.b), .isl none (R.ps.map rA) .no], .isl (some false) [.agg [.lit (.string ⟨#[97]⟩), .lit (.bool false)], .agg [.lit (.string ⟨#[99]⟩), .lit (.bool true)]] .full] g (BB true) := fun g => PureC.le (args' := [.agg [.lit (.int .i64 3), .lit (.string R.l), .lit (.bool R.b), .isl none (R.ps.map rA) .no], .isl none (Syl liveW) .no]) ⟨leA_refl _, ⟨.inl rfl, rfl, .inl rfl⟩, trivial⟩ (hm g)
  refine CallC.body (fun _ => none) (fun _ => 0) Tryd.func35 rfl Tryd.results35 Tryd.ntmps35 ?_
  intro n0 hn0
  simp only [go_sem]
  refine WE_pure _ _ _ _ _ _ _ _ (hp _) ?_
  simp only [go_sem, rA_cells, hk]
  refine WE_pure _ _ _ _ _ _ _ _ (hm0 _) ?_
  simp only [go_sem, hk]
  refine WE_pure _ _ _ _ _ _ _ _ (he _) ?_
  simp only [go_sem, hk]
  refine FnPost_end hn0 (by simp) rfl (only_lit _ _) ?_
  simp only [go_sem]
  exact leA_bool rfl
end Go.Proofs.YtcnhpclfflcdfaaDoorR.Reg
