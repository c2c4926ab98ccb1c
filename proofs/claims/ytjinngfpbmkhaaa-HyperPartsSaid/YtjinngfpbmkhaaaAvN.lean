import Derived.Test.YtjinngfpbmkhaaaAvM
namespace Go.Av
set_option linter.unusedVariables false
set_option linter.unusedSimpArgs false
open Go.RowKit

section
variable {P : Program} {w0 w : World} {M : Mem} {φ : Phi} {g : GH}

theorem nlA_some {nl : Option Bool} {b : Bool} (h : nlA nl = some b) : nl = some false ∧ b = false := by
  unfold nlA at h; split at h
  · exact ⟨‹_›, by simpa using h.symm⟩
  · cases h

theorem repL_flat_append {l m : List AV} {vs us : List Value} (h : RepL M φ (l.flatMap AV.cells) vs) (k : RepL M φ (m.flatMap AV.cells) us) : RepL M φ ((l ++ m).flatMap AV.cells) (vs ++ us) := by
  rw [List.flatMap_append]; exact h.append k

theorem szOk_append {n : Nat} {l m : List AV} (h : szOk n l) (k : szOk n m) : szOk n (l ++ m) := by
  intro y hy
  rcases List.mem_append.1 hy with hy | hy
  · exact h y hy
  · exact k y hy

theorem repL_one {cs : List AV} {vs : List Value} (h : RepL M φ cs vs) (hc : cs.all AV.scalar = true) : ∀ v ∈ vs, v.oneCell' = true := by
  intro u hu
  obtain ⟨i, hi, rfl⟩ := List.getElem_of_mem hu
  have hi' : i < cs.length := by rw [h.1]; exact hi
  exact (h.2 i cs[i] _ (by simp [hi']) (by simp [hi])).scalar (List.all_eq_true.1 hc _ (List.getElem_mem hi'))

theorem elsOk_scalar {sz : Nat} {l : List AV} (h : elsOk sz l) : (l.flatMap AV.cells).all AV.scalar = true := by
  have := elsOk_idf h
  rw [List.all_eq_true] at this ⊢
  intro x hx; exact idf_scalar (this x hx)

theorem size_zeroCells' (z : Array Value) (n : Nat) : (Builtin.zeroCells z n).size = n * z.size := by simp [Builtin.zeroCells]

theorem grownCap_ge' (w : World) (need old : Nat) (e : TypeId) : need ≤ grownCap w need old e := by
  unfold grownCap; simp [Question.cut]

/-- the new block of an append, nobody's to write -/
theorem grow_imm (hw : Wr w0 M φ g w) (vs us : List Value) (spare : Array Value) (e : TypeId) :
    Wr w0 (memAdd M w.heap.size ((vs ++ us)[·]?)) φ g (w.drew.alloc (.cells (vs.toArray ++ us.toArray ++ spare) e (0, 0))) := by
  have hd := hw.drew
  refine hd.grow (hd.below.alloc hd.below.size _) (hd.mem_alloc _ e _ ?_) (memAdd_le fun j _ _ => hw.none_new j) fun r hr => ⟨heap_alloc_lt w.drew _ hr, fun j => memAdd_other (by have : r < w.heap.size := hr; omega) j⟩
  intro j v hv
  have hj : j < (vs ++ us).length := (List.getElem?_eq_some_iff.1 hv).1
  rw [Array.getElem?_append_left (by simpa using hj)]
  simpa using hv

theorem appendA_gives (hw : Wr w0 M φ g w) {C : Cfg} (hP : C.P = P) {d : Nat} {ts : Array TypeId} {ty : TypeId} {s x : AV} {sv xv : Value} (hs : Rep M φ s sv) (hx : Rep M φ x xv) (hp : (appendA C d ts.toList g s x).pre) :
    Gives P (Builtin.append_ ts ty #[sv, xv]) w0 M φ g w (appendA C d ts.toList g s x).v (appendA C d ts.toList g s x).wr := by
  subst hP
  obtain ⟨ts⟩ := ts
  unfold appendA at hp ⊢
  simp only at hp ⊢
  split at hp
  case h_2 => exact hp.elim
  rename_i t u
  split at hp
  case h_2 => exact hp.elim
  rename_i e he
  split at hp
  case h_2 => exact hp.elim
  rename_i ti hti
  have hu := slT_inv he
  generalize hmo : appM C.P e ti u x = mo at hp ⊢
  split at hp
  · -- a slice with room under a name
    rename_i nl l k ver
    split at hp
    case h_2 => exact hp.elim
    rename_i v hgk
    obtain ⟨p1, rfl, p2, p3, p4, p5, p6, p7⟩ := hp
    have hX : AppX C.P t u e ty ti M w xv mo.v.els := by
      subst hmo
      exact appM_x hw hu hti hx p1 p6 p5 (elsOk_sz p4) (Nat.le_trans (Nat.mul_le_mul_right _ (by omega)) p2)
    obtain ⟨z, news, hz, hnews, hroomR, hgrowR⟩ := hX.ex
    obtain ⟨a, len, cap, rfl⟩ : ∃ a len cap, sv = .slice a len cap := by cases hs; exact ⟨_, _, _, rfl⟩
    obtain ⟨vs, h1, h2, h3, h4, h5, h6, h7⟩ := firstCells_isl (P := C.P) hw hs (elsOk_sz p3)
    subst h2
    have htok : ∃ own sz', φ k v = some (.tk (a.map (·.block)) own sz' l.length cap) ∧ (own = true → ∀ r, a = some r → r = ⟨r.block, 0, none⟩) ∧ (l ≠ [] → sz' = ti.size) ∧ (∀ b, nl = some b → a.isNone = b) := by
      cases hs with
      | isl sz' cv hlen hcap hnl hnil hsz hsp hm hr hfull htok =>
        obtain ⟨own, h8, h9⟩ := htok k v rfl
        refine ⟨own, sz', h8, h9, ?_, hnl⟩
        intro hne
        obtain ⟨y, hy⟩ := List.exists_mem_of_ne_nil _ hne
        rw [← hsz y hy, (p3 y hy).1]
    obtain ⟨own, sz', hφ, hown, hsz', hnl⟩ := htok
    obtain ⟨hd, hφ', hok⟩ := hw.blk k _ hgk
    have : hd = .tk (a.map (·.block)) own sz' l.length cap := by
      have : φ k v = some hd := hφ'
      rw [hφ] at this; exact (Option.some.inj this).symm
    subst this
    have hver : ∀ b, g k = some b → b.ver < v + 1 := by intro b hb; rw [hgk] at hb; cases hb; simp [Blk.ver]
    have hn : φ k (v + 1) = Option.none := hw.fresh_ver hver
    have hvl : vs.length = l.length * ti.size := by rw [← h1.1, flat_len (elsOk_sz p3)]
    have hnl' : news.toList.length = mo.v.els.length * ti.size := by rw [← hnews.1, flat_len (elsOk_sz p4)]
    by_cases hroom : l.length + mo.v.els.length ≤ cap
    · have hrun := hroomR a l.length cap hroom
      cases own with
      | false =>
        -- no room of one's own: nothing is appended
        have hcl : l.length = cap := by cases a <;> exact hok
        have hm0 : mo.v.els = [] := List.length_eq_zero_iff.1 (by omega)
        have hnews0 : news.toList = [] := List.length_eq_zero_iff.1 (by rw [hnl', hm0]; simp)
        have hrun' : (Builtin.append_ #[t, u] ty #[.slice a l.length cap, xv]).run C.P w = .ok (.slice a l.length cap) w := by
          rw [hrun, hm0, hnews0]
          cases a with
          | none => rfl
          | some r => simp [storeCells]
        refine ⟨_, w, M, φ.add k (v + 1) (.tk (a.map (·.block)) false sz' l.length cap), hrun', Mem.le.refl _, Phi.le_add hn, add_mem, ?_, ?_⟩
        · rw [hm0, List.append_nil]
          cases hs with
          | isl sz'' cv hlen hcap hnl'' hnil hsz hsp hm hr hfull htok =>
            refine .isl sz'' cv hlen hcap (fun b hb => hnl b (by rw [(nlA_some hb).1, (nlA_some hb).2])) hnil hsz hsp hm hr (by simp) ?_
            intro k' ver' hk'
            cases hk'
            obtain ⟨own', h8, h9⟩ := htok k v rfl
            rw [hφ] at h8
            simp only [Option.some.injEq, Hd.tk.injEq] at h8
            exact ⟨false, by simp [Phi.add, h8.2.2.1], by simp⟩
        · refine hw.renew k (.tok (v + 1)) (.tk (a.map (·.block)) false sz' l.length cap) hw.below hw.mem (Mem.le.refl _) hver ?_ ?_
          · intro i b hd r hi hb hpq hr
            exact ⟨rfl, fun _ => rfl, by simp [Hd.blk]⟩
          · cases a <;> exact hcl
      | true =>
        cases a with
        | none => exact hok.elim
        | some r =>
          obtain ⟨b, o, sp⟩ := r
          have hro := hown rfl _ rfl
          simp only [Addr.mk.injEq, true_and] at hro
          obtain ⟨rfl, rfl⟩ := hro
          obtain ⟨hB, hlc, hz0, hn1, arr, e', ha, has⟩ := hok
          have hsz0 : l = [] → cap = 0 := fun e => hz0 (by subst e; rfl)
          have harr : arr.size = cap * ti.size := by
            by_cases hl : l = []
            · rw [has, hsz0 hl]; simp
            · rw [has, hsz' hl]
          have hn2 : ∀ j, l.length * ti.size ≤ j → M b j = none := by
            intro j hj
            by_cases hl : l = []
            · exact hn1 j (by subst hl; simp)
            · exact hn1 j (by rw [hsz' hl]; exact hj)
          have hle : l.length * ti.size + news.toList.length ≤ arr.size := by
            rw [hnl', harr, ← Nat.add_mul]; exact Nat.mul_le_mul_right _ hroom
          have hst := run_storeCells_splice C.P b e' (l.length * ti.size) news.toList 0 arr w ha (by omega) (repL_one hnews (elsOk_scalar p4))
          simp only [Nat.add_zero] at hst
          have hrun' : (Builtin.append_ #[t, u] ty #[.slice (some ⟨b, 0, none⟩) l.length cap, xv]).run C.P w = .ok (.slice (some ⟨b, 0, none⟩) (l.length + mo.v.els.length) cap) (w.setRow b (arrSplice arr (l.length * ti.size) news.toList)) := by
            rw [hrun]
            simp only [addr_add, Nat.zero_add, hst, Result.andThen_ok]
          have hMle : Mem.le M (memAdd M b fun j => if l.length * ti.size ≤ j ∧ j < l.length * ti.size + news.toList.length then news.toList[j - l.length * ti.size]? else none) := by
            refine memAdd_le ?_
            intro j u hj
            split at hj
            · rename_i hc; exact hn2 j hc.1
            · cases hj
          refine ⟨_, _, memAdd M b (fun j => if l.length * ti.size ≤ j ∧ j < l.length * ti.size + news.toList.length then news.toList[j - l.length * ti.size]? else none), φ.add k (v + 1) (.tk (some b) true ti.size (l.length + mo.v.els.length) cap), hrun', hMle, Phi.le_add hn, add_mem, ?_, ?_⟩
          · have := rep_isl_block (M := memAdd M b (fun j => if l.length * ti.size ≤ j ∧ j < l.length * ti.size + news.toList.length then news.toList[j - l.length * ti.size]? else none)) (φ := φ.add k (v + 1) (.tk (some b) true ti.size (l.length + mo.v.els.length) cap)) (szOk_append (elsOk_sz p3) (elsOk_sz p4)) (repL_flat_append (h1.mono hMle (Phi.le.refl _)) (hnews.mono hMle (Phi.le.refl _))) b 0 (by
                intro j v' hv'
                rw [Nat.zero_add]
                by_cases hj : j < vs.length
                · rw [List.getElem?_append_left hj] at hv'
                  have := (h5 _ rfl j v' hv').2
                  simp only [Nat.zero_add] at this
                  exact hMle _ _ _ this
                · rw [List.getElem?_append_right (by omega)] at hv'
                  have hjl := (List.getElem?_eq_some_iff.1 hv').1
                  refine memAdd_same ?_
                  rw [if_pos (by omega), ← hvl]
                  exact hv') (cap := cap) (by simp; omega) (nl := nlA nl) (fun b' hb' => (nlA_some hb').2) (tok := .at k (v + 1)) (by simp) (by
                intro k' ver' hk'; cases hk'
                exact ⟨true, by simp [Phi.add], fun _ => rfl⟩)
            simpa using this
          · refine hw.renew k (.tok (v + 1)) (.tk (some b) true ti.size (l.length + mo.v.els.length) cap) (below_setRow hw.below hB) ?_ hMle hver ?_ ?_
            · intro q j v' hm
              by_cases hq : q = b
              · subst hq
                rw [cell_setRow_same w q j arr _ e' (0, 0) ha, arrSplice_get _ _ _ _ hle]
                unfold memAdd at hm
                simp only [if_true] at hm
                split
                · rename_i hc
                  simp only [hc, and_self, if_true] at hm
                  rw [List.getElem?_eq_getElem (by omega)] at hm ⊢
                  exact hm
                · rename_i hc
                  simp only [hc, if_false] at hm
                  have := hw.mem _ _ _ hm
                  simpa [World.cell?, ha] using this
              · rw [memAdd_other hq] at hm
                rw [cell_setRow_ne w b q j _ hq]
                exact hw.mem q j v' hm
            · intro i b' hd' r' hi hb' hpq hr'
              have hne : r' ≠ b := by
                intro e; subst e
                exact hi (hw.inj i k b' _ hd' _ r' hb' hgk hpq hφ' hr' (by simp [Hd.blk]))
              exact ⟨setRow_other w b r' _ hne, fun j => memAdd_other hne j, by simp [Hd.blk]; exact fun e => hne e.symm⟩
            · refine ⟨hB, hroom, ?_, ?_, _, e', setRow_heap w b arr _ e' (0, 0) ha, by rw [arrSplice_size _ _ _ hle]; exact harr⟩
              · intro h0; exact hz0 (by omega)
              · intro j hj
                have : ¬ (l.length * ti.size ≤ j ∧ j < l.length * ti.size + news.toList.length) := by
                  rw [hnl', ← Nat.add_mul]; omega
                rw [memAdd_none (by simp only [this, if_false])]
                exact hn2 j (by rw [Nat.add_mul] at hj; omega)
    · -- a new block
      have hrun := hgrowR a l.length cap vs.toArray h7 hroom p2
      have hgc := grownCap_ge' w (l.length + mo.v.els.length) cap e
      have hMle : Mem.le M (memAdd M w.heap.size ((vs ++ news.toList)[·]?)) := memAdd_le fun j _ _ => hw.none_new j
      refine ⟨_, _, memAdd M w.heap.size ((vs ++ news.toList)[·]?), φ.add k (v + 1) (.tk (some w.heap.size) true ti.size (l.length + mo.v.els.length) (grownCap w (l.length + mo.v.els.length) cap e)), hrun, hMle, Phi.le_add hn, add_mem, ?_, ?_⟩
      · have := rep_isl_block (M := memAdd M w.heap.size ((vs ++ news.toList)[·]?)) (φ := φ.add k (v + 1) (.tk (some w.heap.size) true ti.size (l.length + mo.v.els.length) (grownCap w (l.length + mo.v.els.length) cap e))) (szOk_append (elsOk_sz p3) (elsOk_sz p4)) (repL_flat_append (h1.mono hMle (Phi.le.refl _)) (hnews.mono hMle (Phi.le.refl _))) w.heap.size 0 (by
            intro j v' hv'
            rw [Nat.zero_add]
            exact memAdd_same hv') (cap := grownCap w (l.length + mo.v.els.length) cap e) (by simpa using hgc) (nl := nlA nl) (fun b' hb' => (nlA_some hb').2) (tok := .at k (v + 1)) (by simp) (by
            intro k' ver' hk'; cases hk'
            exact ⟨true, by simp [Phi.add], fun _ => rfl⟩)
        simpa using this
      · have hd := hw.drew
        have hsize : (vs.toArray ++ news ++ Builtin.zeroCells z.cells (grownCap w (l.length + mo.v.els.length) cap e - (l.length + mo.v.els.length))).size = grownCap w (l.length + mo.v.els.length) cap e * ti.size := by
          have hnn : news.size = mo.v.els.length * ti.size := by simpa using hnl'
          simp only [Array.size_append, List.size_toArray, hvl, hnn, size_zeroCells', hz]
          rw [← Nat.add_mul, ← Nat.add_mul]
          congr 1; omega
        refine hd.alloc_named k (.tok (v + 1)) (.tk (some w.heap.size) true ti.size (l.length + mo.v.els.length) (grownCap w (l.length + mo.v.els.length) cap e)) _ e _ ?_ hver rfl ?_
        · intro j v' hv'
          have hj : j < (vs ++ news.toList).length := (List.getElem?_eq_some_iff.1 hv').1
          rw [Array.getElem?_append_left (by simpa using hj)]
          have : (vs.toArray ++ news)[j]? = (vs ++ news.toList)[j]? := by
            rw [← Array.getElem?_toList]; simp
          rw [this]; exact hv'
        · refine ⟨hd.below.size, hgc, fun h0 => by omega, ?_, _, e, heap_alloc_new _ _, hsize⟩
          intro j hj
          show memAdd M w.drew.heap.size _ w.heap.size j = none
          rw [show w.drew.heap.size = w.heap.size from rfl, memAdd_none (List.getElem?_eq_none (by rw [List.length_append, hvl, hnl', ← Nat.add_mul]; exact hj))]
          exact hw.none_new j
  · -- a slice without room
    rename_i nl l
    have hall : ∃ p0 : (mo.pre ∧ (l.length + mo.v.els.length) * (2 * ti.bytes) ≤ 281474976710656 ∧ elsOk ti.size l ∧ elsOk ti.size mo.v.els ∧ ti.bytes ≠ 0 ∧ zOk C.P e ti = true), True := by
      split at hp
      · exact ⟨hp, trivial⟩
      · exact ⟨hp.1, trivial⟩
    obtain ⟨⟨p1, p2, p3, p4, p5, p6⟩, -⟩ := hall
    have hX : AppX C.P t u e ty ti M w xv mo.v.els := by
      subst hmo
      exact appM_x hw hu hti hx p1 p6 p5 (elsOk_sz p4) (Nat.le_trans (Nat.mul_le_mul_right _ (by omega)) p2)
    obtain ⟨z, news, hz, hnews, hroomR, hgrowR⟩ := hX.ex
    obtain ⟨a, len, cap, rfl⟩ : ∃ a len cap, sv = .slice a len cap := by cases hs; exact ⟨_, _, _, rfl⟩
    obtain ⟨vs, h1, h2, h3, h4, h5, h6, h7⟩ := firstCells_isl (P := C.P) hw hs (elsOk_sz p3)
    subst h2
    have hcl : cap = l.length := by cases hs with | isl sz' cv hlen hcap hnl hnil hsz hsp hm hr hfull htok => exact hfull rfl
    subst hcl
    have hvl : vs.length = l.length * ti.size := by rw [← h1.1, flat_len (elsOk_sz p3)]
    have hnl' : news.toList.length = mo.v.els.length * ti.size := by rw [← hnews.1, flat_len (elsOk_sz p4)]
    -- the value alone
    have val : ∀ (φ' : Phi) (tok : Tk), Phi.le φ φ' → tok ≠ .full →
        (mo.v.els = [] → ∀ k ver, tok = .at k ver → ∃ sz', (l ≠ [] → sz' = ti.size) ∧ φ' k ver = some (.tk (a.map (·.block)) false sz' l.length l.length)) →
        (mo.v.els ≠ [] → ∀ k ver, tok = .at k ver → φ' k ver = some (.tk (some w.heap.size) true ti.size (l.length + mo.v.els.length) (grownCap w (l.length + mo.v.els.length) l.length e))) →
        ∃ x' w' M', (Builtin.append_ #[t, u] ty #[.slice a l.length l.length, xv]).run C.P w = .ok x' w' ∧ Mem.le M M' ∧ Rep M' φ' (.isl (nlA nl) (l ++ mo.v.els) tok) x' ∧
          (mo.v.els = [] → w' = w ∧ M' = M) ∧ (mo.v.els ≠ [] → M' = memAdd M w.heap.size ((vs ++ news.toList)[·]?) ∧
            w' = w.drew.alloc (.cells (vs.toArray ++ news ++ Builtin.zeroCells z.cells (grownCap w (l.length + mo.v.els.length) l.length e - (l.length + mo.v.els.length))) e)) := by
      intro φ' tok hφle htf htn htg
      by_cases hm0 : mo.v.els = []
      · have hnews0 : news.toList = [] := List.length_eq_zero_iff.1 (by rw [hnl', hm0]; simp)
        have hrun' : (Builtin.append_ #[t, u] ty #[.slice a l.length l.length, xv]).run C.P w = .ok (.slice a l.length l.length) w := by
          rw [hroomR a l.length l.length (by rw [hm0]; simp), hm0, hnews0]
          cases a with
          | none => rfl
          | some r => simp [storeCells]
        refine ⟨_, w, M, hrun', Mem.le.refl _, ?_, fun _ => ⟨rfl, rfl⟩, fun h => absurd hm0 h⟩
        rw [hm0, List.append_nil]
        cases hs with
        | isl sz'' cv hlen hcap hnl'' hnil hsz hsp hm hr hfull htok =>
          by_cases hl : l = []
          · subst hl
            cases tok with
            | full => exact absurd rfl htf
            | no => exact .isl sz'' cv hlen hcap (fun b hb => hnl'' b (by rw [(nlA_some hb).1, (nlA_some hb).2])) hnil hsz hsp hm hr (by simp) (by simp)
            | «at» k ver =>
              obtain ⟨sz', hsz', hφ'⟩ := htn hm0 k ver rfl
              exact .isl sz' cv hlen hcap (fun b hb => hnl'' b (by rw [(nlA_some hb).1, (nlA_some hb).2])) hnil (by simp) hsp (by simp) (by simp) (by simp) (by
                intro k' ver' hk; cases hk; exact ⟨false, hφ', by simp⟩)
          · have hsz1 : sz'' = ti.size := by
              obtain ⟨y, hy⟩ := List.exists_mem_of_ne_nil _ hl
              rw [← hsz y hy, (p3 y hy).1]
            subst hsz1
            refine .isl ti.size cv hlen hcap (fun b hb => hnl'' b (by rw [(nlA_some hb).1, (nlA_some hb).2])) hnil hsz hsp hm hr (fun e => absurd e htf) ?_
            intro k ver hk
            obtain ⟨sz', hsz', hφ'⟩ := htn hm0 k ver hk
            rw [hsz' hl] at hφ'
            exact ⟨false, hφ', by simp⟩
      · have hroom : ¬ l.length + mo.v.els.length ≤ l.length := by
          have : mo.v.els.length ≠ 0 := fun h => hm0 (List.length_eq_zero_iff.1 h)
          omega
        have hrun := hgrowR a l.length l.length vs.toArray h7 hroom p2
        have hgc := grownCap_ge' w (l.length + mo.v.els.length) l.length e
        have hMle : Mem.le M (memAdd M w.heap.size ((vs ++ news.toList)[·]?)) := memAdd_le fun j _ _ => hw.none_new j
        refine ⟨_, _, _, hrun, hMle, ?_, fun h => absurd h hm0, fun _ => ⟨rfl, rfl⟩⟩
        have := rep_isl_block (M := memAdd M w.heap.size ((vs ++ news.toList)[·]?)) (φ := φ') (szOk_append (elsOk_sz p3) (elsOk_sz p4)) (repL_flat_append (h1.mono hMle (Phi.le.refl _)) (hnews.mono hMle (Phi.le.refl _))) w.heap.size 0 (by
            intro j v' hv'
            rw [Nat.zero_add]
            exact memAdd_same hv') (cap := grownCap w (l.length + mo.v.els.length) l.length e) (by simpa using hgc) (nl := nlA nl) (fun b' hb' => (nlA_some hb').2) (tok := tok) (fun h => absurd h htf) (by
            intro k' ver' hk'
            exact ⟨true, by simpa using htg hm0 k' ver' hk', fun _ => rfl⟩)
        simpa using this
    have hsize : (vs.toArray ++ news ++ Builtin.zeroCells z.cells (grownCap w (l.length + mo.v.els.length) l.length e - (l.length + mo.v.els.length))).size = grownCap w (l.length + mo.v.els.length) l.length e * ti.size := by
      have hgc := grownCap_ge' w (l.length + mo.v.els.length) l.length e
      have hnn : news.size = mo.v.els.length * ti.size := by simpa using hnl'
      simp only [Array.size_append, List.size_toArray, hvl, hnn, size_zeroCells', hz]
      rw [← Nat.add_mul, ← Nat.add_mul]
      congr 1; omega
    have harr : ∀ (j : Nat) (v' : Value), (vs ++ news.toList)[j]? = some v' → (vs.toArray ++ news ++ Builtin.zeroCells z.cells (grownCap w (l.length + mo.v.els.length) l.length e - (l.length + mo.v.els.length)))[j]? = some v' := by
      intro j v' hv'
      have hj : j < (vs ++ news.toList).length := (List.getElem?_eq_some_iff.1 hv').1
      rw [Array.getElem?_append_left (by simpa using hj)]
      have : (vs.toArray ++ news)[j]? = (vs ++ news.toList)[j]? := by
        rw [← Array.getElem?_toList]; simp
      rw [this]; exact hv'
    split at hp
    · obtain ⟨x', w', M', hr1, hr2, hr3, hr4, hr5⟩ := val φ .no (Phi.le.refl _) (by simp) (by simp) (by simp)
      refine ⟨x', w', M', φ, hr1, hr2, Phi.le.refl _, fun _ _ _ h => .inl h, hr3, ?_⟩
      by_cases hm0 : mo.v.els = []
      · obtain ⟨rfl, rfl⟩ := hr4 hm0; exact hw
      · obtain ⟨rfl, rfl⟩ := hr5 hm0
        have hd := hw.drew
        exact hd.grow (hd.below.alloc hd.below.size _) (hd.mem_alloc _ e _ harr) (memAdd_le fun j _ _ => hw.none_new j) fun r hr => ⟨heap_alloc_lt w.drew _ hr, fun j => memAdd_other (by have : r < w.heap.size := hr; omega) j⟩
    · have hn : φ (C.id d) (nextV g (C.id d)) = Option.none := hw.fresh_ver (nextV_lt g _)
      by_cases hm0 : mo.v.els = []
      · have hsz' : ∃ sz', True ∧ (l ≠ [] → sz' = ti.size) := ⟨ti.size, trivial, fun _ => rfl⟩
        obtain ⟨x', w', M', hr1, hr2, hr3, hr4, hr5⟩ := val (φ.add (C.id d) (nextV g (C.id d)) (.tk (a.map (·.block)) false ti.size l.length l.length)) (.at (C.id d) (nextV g (C.id d))) (Phi.le_add hn) (by simp)
          (fun _ k ver hk => by cases hk; exact ⟨ti.size, fun _ => rfl, by simp [Phi.add]⟩) (fun h => absurd hm0 h)
        obtain ⟨rfl, rfl⟩ := hr4 hm0
        refine ⟨x', w', M', _, hr1, hr2, Phi.le_add hn, add_mem, hr3, ?_⟩
        refine hw.renew (C.id d) (.tok (nextV g (C.id d))) _ hw.below hw.mem (Mem.le.refl _) (nextV_lt g _) ?_ ?_
        · intro i b hd r hi hb hpq hr
          exact ⟨rfl, fun _ => rfl, by simp [Hd.blk]⟩
        · cases a <;> rfl
      · obtain ⟨x', w', M', hr1, hr2, hr3, hr4, hr5⟩ := val (φ.add (C.id d) (nextV g (C.id d)) (.tk (some w.heap.size) true ti.size (l.length + mo.v.els.length) (grownCap w (l.length + mo.v.els.length) l.length e))) (.at (C.id d) (nextV g (C.id d))) (Phi.le_add hn) (by simp)
          (fun h => absurd h hm0) (fun _ k ver hk => by cases hk; simp [Phi.add])
        obtain ⟨rfl, rfl⟩ := hr5 hm0
        refine ⟨x', _, _, _, hr1, hr2, Phi.le_add hn, add_mem, hr3, ?_⟩
        have hd := hw.drew
        refine hd.alloc_named (C.id d) (.tok (nextV g (C.id d))) _ _ e _ harr (nextV_lt g _) rfl ?_
        have hgc := grownCap_ge' w (l.length + mo.v.els.length) l.length e
        refine ⟨hd.below.size, hgc, fun h0 => ?_, ?_, _, e, heap_alloc_new _ _, hsize⟩
        · have : mo.v.els.length ≠ 0 := fun h => hm0 (List.length_eq_zero_iff.1 h)
          omega
        · intro j hj
          show memAdd M w.drew.heap.size _ w.heap.size j = none
          rw [show w.drew.heap.size = w.heap.size from rfl, memAdd_none (List.getElem?_eq_none (by rw [List.length_append, hvl, hnl', ← Nat.add_mul]; exact hj))]
          exact hw.none_new j
  · -- a slice of one's own to write
    rename_i id ver sz off len
    split at hp
    case h_2 => exact hp.elim
    rename_i v cs hgk
    obtain ⟨p1, rfl, rfl, rfl, pc, p2, p4, p5, p6, p7⟩ := hp
    have hX : AppX C.P t u e ty ti M w xv mo.v.els := by
      subst hmo
      exact appM_x hw hu hti hx p1 p6 p5 (elsOk_sz p4) (Nat.le_trans (Nat.mul_le_mul_right _ (by omega)) p2)
    obtain ⟨z, news, hz, hnews, hroomR, hgrowR⟩ := hX.ex
    have hver : ∀ b, g id = some b → b.ver < v + 1 := by intro b hb; rw [hgk] at hb; cases hb; simp [Blk.ver]
    have hn : φ id (v + 1) = Option.none := hw.fresh_ver hver
    have hnl' : news.toList.length = mo.v.els.length * ti.size := by rw [← hnews.1, flat_len (elsOk_sz p4)]
    obtain ⟨hd, hφ', hok⟩ := hw.blk id _ hgk
    have hφ' : φ id v = some hd := hφ'
    cases hs with
    | @osl _ _ _ _ _ _ a cap Cc r hφ hC hcap hnone hz0 ha =>
      rw [hφ] at hφ'
      obtain rfl := Option.some.inj hφ'
      have hCc : Cc = cap := by omega
      subst hCc
      cases r with
      | none =>
        obtain ⟨rfl, hcz⟩ := hok
        subst hcz
        have hl0 : len = 0 := by omega
        subst hl0
        have ha0 : a = none := hnone.2 rfl
        subst ha0
        by_cases hm0 : mo.v.els = []
        · have hnews0 : news.toList = [] := List.length_eq_zero_iff.1 (by rw [hnl', hm0]; simp)
          have hrun' : (Builtin.append_ #[t, u] ty #[.slice none 0 0, xv]).run C.P w = .ok (.slice none 0 0) w := by
            rw [hroomR none 0 0 (by rw [hm0]; simp), hm0]; simp
          refine ⟨_, w, M, φ.add id (v + 1) (.row none ti.size 0), hrun', Mem.le.refl _, Phi.le_add hn, add_mem, ?_, ?_⟩
          · rw [hm0]
            exact .osl (r := none) (C := 0) (by simp [Phi.add]) (by simp) (by simp) (by simp) (by simp) (by simp)
          · refine hw.renew id (.cells (v + 1) ([] ++ mo.v.els.flatMap AV.cells)) _ hw.below hw.mem (Mem.le.refl _) hver ?_ ?_
            · intro i b hd r hi hb hpq hr
              exact ⟨rfl, fun _ => rfl, by simp [Hd.blk]⟩
            · rw [hm0]; exact ⟨rfl, rfl⟩
        · have hroom : ¬ 0 + mo.v.els.length ≤ 0 := by
            have : mo.v.els.length ≠ 0 := fun h => hm0 (List.length_eq_zero_iff.1 h)
            omega
          have hrun := hgrowR none 0 0 #[] (run_firstCells_none _ _ _ _ _) hroom p2
          have hgc := grownCap_ge' w (0 + mo.v.els.length) 0 e
          refine ⟨_, _, M, φ.add id (v + 1) (.row (some w.heap.size) ti.size (grownCap w (0 + mo.v.els.length) 0 e)), hrun, Mem.le.refl _, Phi.le_add hn, add_mem, ?_, ?_⟩
          · exact .osl (r := some w.heap.size) (C := grownCap w (0 + mo.v.els.length) 0 e) (by simp [Phi.add]) (by omega) hgc (by simp) (by simp) (by intro q hq _; cases hq; simp)
          · have hd := hw.drew
            have hnn : news.size = mo.v.els.length * ti.size := by simpa using hnl'
            have := hd.alloc_named id (.cells (v + 1) ([] ++ mo.v.els.flatMap AV.cells)) (.row (some w.heap.size) ti.size (grownCap w (0 + mo.v.els.length) 0 e)) (#[] ++ news ++ Builtin.zeroCells z.cells (grownCap w (0 + mo.v.els.length) 0 e - (0 + mo.v.els.length))) e (fun _ => none) (by simp) hver rfl (by
              rw [memAdd_nothing]
              refine ⟨hd.below.size, fun j => hw.none_new j, _, e, heap_alloc_new _ _, ?_, ?_, ?_⟩
              · simp only [Array.size_append, List.size_toArray, List.length_nil, hnn, size_zeroCells', hz]
                rw [Nat.zero_add, ← Nat.add_mul]; congr 1; omega
              · simp only [List.nil_append, Array.size_append, List.size_toArray, List.length_nil]
                rw [hnews.1]; simp
              · intro j x' v' hj1 hj2
                simp only [List.nil_append] at hj1
                have hjl : j < news.size := by rw [hnn, ← flat_len (elsOk_sz p4)]; exact (List.getElem?_eq_some_iff.1 hj1).1
                rw [Array.getElem?_append_left (by simpa using hjl)] at hj2
                exact (hnews.2 j x' v' hj1 (by simpa using hj2)).mono (Mem.le.refl _) (Phi.none_le _))
            rw [memAdd_nothing] at this
            exact this
      | some q =>
        obtain ⟨hB, hMn, arr, e', harr, hasz, hcl, hrep⟩ := hok
        have hcsl : cs.length = len * ti.size := pc.symm
        by_cases hroom : len + mo.v.els.length ≤ Cc
        · have hrun := hroomR a len Cc hroom
          have hle : len * ti.size + news.toList.length ≤ arr.size := by
            rw [hnl', hasz, ← Nat.add_mul]; exact Nat.mul_le_mul_right _ hroom
          have hst := run_storeCells_splice C.P q e' (len * ti.size) news.toList 0 arr w harr (by omega) (repL_one hnews (elsOk_scalar p4))
          simp only [Nat.add_zero] at hst
          have hrun' : ∃ sv', (Builtin.append_ #[t, u] ty #[.slice a len Cc, xv]).run C.P w = .ok sv' (w.setRow q (arrSplice arr (len * ti.size) news.toList)) ∧
              Rep M (φ.add id (v + 1) (.row (some q) ti.size Cc)) (.osl id (v + 1) ti.size 0 (len + mo.v.els.length)) sv' := by
            by_cases hc0 : Cc = 0
            · have hl0 : len = 0 := by omega
              have hm0 : mo.v.els = [] := List.length_eq_zero_iff.1 (by omega)
              have hnews0 : news.toList = [] := List.length_eq_zero_iff.1 (by rw [hnl', hm0]; simp)
              have hsp : arrSplice arr (len * ti.size) news.toList = arr := by rw [hnews0]; simp [arrSplice]
              refine ⟨.slice a (len + mo.v.els.length) Cc, ?_, .osl (r := some q) (C := Cc) (by simp [Phi.add]) (by omega) (by omega) hnone (by simp) (by intro q' hq' hne; exact absurd hc0 hne)⟩
              rw [hrun, hsp, setRow_self w q arr e' (0, 0) harr, hnews0]
              cases a with
              | none => rfl
              | some r => simp [storeCells]
            · have ha' := ha q rfl hc0
              subst ha'
              refine ⟨.slice (some ⟨q, 0 * ti.size, none⟩) (len + mo.v.els.length) Cc, ?_, .osl (r := some q) (C := Cc) (by simp [Phi.add]) (by omega) (by omega) (by simp) (by simp) (by intro q' hq' hne; cases hq'; rfl)⟩
              rw [hrun]
              simp only [addr_add, Nat.zero_mul, Nat.zero_add, hst, Result.andThen_ok]
          obtain ⟨sv', hrun', hsv'⟩ := hrun'
          refine ⟨sv', _, M, φ.add id (v + 1) (.row (some q) ti.size Cc), hrun', Mem.le.refl _, Phi.le_add hn, add_mem, hsv', ?_⟩
          refine hw.renew id (.cells (v + 1) (cs ++ mo.v.els.flatMap AV.cells)) (.row (some q) ti.size Cc) (below_setRow hw.below hB) ?_ (Mem.le.refl _) hver ?_ ?_
          · intro r j v' hm
            have : r ≠ q := by intro e; subst e; rw [hMn] at hm; cases hm
            rw [cell_setRow_ne w q r j _ this]
            exact hw.mem r j v' hm
          · intro i b' hd' r' hi hb' hpq hr'
            have hne : r' ≠ q := by
              intro e; subst e
              exact hi (hw.inj i id b' _ hd' _ r' hb' hgk hpq hφ hr' rfl)
            exact ⟨setRow_other w q r' _ hne, fun _ => rfl, by simp [Hd.blk]; exact fun e => hne e.symm⟩
          · refine ⟨hB, hMn, _, e', setRow_heap w q arr _ e' (0, 0) harr, by rw [arrSplice_size _ _ _ hle]; exact hasz, ?_, ?_⟩
            · rw [arrSplice_size _ _ _ hle, List.length_append, hnews.1, hcsl]; exact hle
            · intro j x' v' hj1 hj2
              rw [arrSplice_get _ _ _ _ hle] at hj2
              by_cases hj : j < cs.length
              · rw [List.getElem?_append_left hj] at hj1
                rw [if_neg (by omega)] at hj2
                exact (hrep j x' v' hj1 hj2).mono (Mem.le.refl _) (Phi.le_add hn)
              · rw [List.getElem?_append_right (by omega)] at hj1
                have hjl := (List.getElem?_eq_some_iff.1 hj1).1
                rw [hnews.1] at hjl
                rw [if_pos (by omega), ← hcsl] at hj2
                exact (hnews.2 _ x' v' hj1 hj2).mono (Mem.le.refl _) (Phi.none_le _)
        · have hfc : (Builtin.firstCells ti.size len (.slice a len Cc)).run C.P w.drew = .ok (arr.toList.take (len * ti.size)).toArray w.drew := by
            have hcl' : len * ti.size ≤ arr.size := by omega
            have hl : (arr.toList.take (len * ti.size)).length = len * ti.size := by simp; omega
            by_cases hc0 : Cc = 0
            · have hl0 : len = 0 := by omega
              subst hl0
              cases a with
              | none => simp [Builtin.firstCells]
              | some r => simp [Builtin.firstCells, loadCells, loadCellsFrom]
            · have ha' := ha q rfl hc0
              subst ha'
              refine run_firstCells_some w.drew ti.size len _ len Cc _ hl ?_
              intro j v' hj
              have hjl : j < len * ti.size := by rw [← hl]; exact (List.getElem?_eq_some_iff.1 hj).1
              rw [List.getElem?_take_of_lt hjl] at hj
              rw [addr_add, World.cell?_drew]
              simp only [Nat.zero_mul, Nat.zero_add, World.cell?, harr]
              simpa using hj
          have hrun := hgrowR a len Cc _ hfc hroom p2
          have hgc := grownCap_ge' w (len + mo.v.els.length) Cc e
          have hd := hw.drew
          have hnn : news.size = mo.v.els.length * ti.size := by simpa using hnl'
          have htk : (arr.toList.take (len * ti.size)).length = len * ti.size := by simp; omega
          refine ⟨_, _, M, φ.add id (v + 1) (.row (some w.heap.size) ti.size (grownCap w (len + mo.v.els.length) Cc e)), hrun, Mem.le.refl _, Phi.le_add hn, add_mem, ?_, ?_⟩
          · exact .osl (r := some w.heap.size) (C := grownCap w (len + mo.v.els.length) Cc e) (by simp [Phi.add]) (by omega) hgc (by simp) (by simp) (by intro q' hq' _; cases hq'; simp)
          · have := hd.alloc_named id (.cells (v + 1) (cs ++ mo.v.els.flatMap AV.cells)) (.row (some w.heap.size) ti.size (grownCap w (len + mo.v.els.length) Cc e))
              ((arr.toList.take (len * ti.size)).toArray ++ news ++ Builtin.zeroCells z.cells (grownCap w (len + mo.v.els.length) Cc e - (len + mo.v.els.length))) e (fun _ => none) (by simp) hver rfl (by
              rw [memAdd_nothing]
              refine ⟨hd.below.size, fun j => hw.none_new j, _, e, heap_alloc_new _ _, ?_, ?_, ?_⟩
              · simp only [Array.size_append, List.size_toArray, htk, hnn, size_zeroCells', hz]
                rw [← Nat.add_mul, ← Nat.add_mul]; congr 1; omega
              · simp only [Array.size_append, List.size_toArray, htk]
                rw [List.length_append, hnews.1, hcsl]; simp
              · intro j x' v' hj1 hj2
                have e1 : ((arr.toList.take (len * ti.size)).toArray ++ news).size = cs.length + news.toList.length := by simp only [Array.size_append, List.size_toArray, htk, hcsl]; simp
                have hjlt : j < cs.length + news.toList.length := by
                  have := (List.getElem?_eq_some_iff.1 hj1).1
                  rw [List.length_append, hnews.1] at this; exact this
                rw [Array.getElem?_append_left (by rw [e1]; exact hjlt)] at hj2
                by_cases hj : j < cs.length
                · rw [List.getElem?_append_left hj] at hj1
                  rw [Array.getElem?_append_left (by simp only [List.size_toArray, htk]; omega), List.getElem?_toArray, List.getElem?_take_of_lt (by omega)] at hj2
                  exact (hrep j x' v' hj1 (by simpa using hj2)).mono (Mem.le.refl _) (Phi.le_add hn)
                · rw [List.getElem?_append_right (by omega)] at hj1
                  rw [Array.getElem?_append_right (by simp only [List.size_toArray, htk]; omega)] at hj2
                  simp only [List.size_toArray, htk] at hj2
                  rw [← hcsl] at hj2
                  exact (hnews.2 _ x' v' hj1 (by simpa using hj2)).mono (Mem.le.refl _) (Phi.none_le _))
            rw [memAdd_nothing] at this
            exact this
  · exact hp.elim

theorem makeSliceA_gives (hw : Wr w0 M φ g w) {C : Cfg} (hP : C.P = P) {d : Nat} {t : TypeId} {x y : AV} {xv yv : Value} (hx : Rep M φ x xv) (hy : Rep M φ y yv) (hp : (makeSliceA C d t g x y).pre) :
    Gives P (Instr.makeSlice t xv yv) w0 M φ g w (makeSliceA C d t g x y).v (makeSliceA C d t g x y).wr := by
  subst hP
  unfold makeSliceA at hp ⊢
  split at hp
  case h_2 => exact hp.elim
  rename_i k n k' m
  cases hx; cases hy
  split at hp
  case h_2 => exact hp.elim
  rename_i e he
  split at hp
  case h_2 => exact hp.elim
  rename_i ti z hti hz
  have hu := slT_inv he
  obtain ⟨i, zv, hi, hzv, rfl⟩ := zeroI_inv hz
  have hp0 : n = m ∧ 0 ≤ n ∧ n * ti.bytes ≤ 281474976710656 ∧ n ≤ 9223372036854775807 ∧ (zv.cells.toList.map ofConst).length = ti.size ∧ (zv.cells.toList.map ofConst).all AV.idf = true ∧ (ti.agg = false → ti.size = 1) := by
    simp only at hp; split at hp
    · exact hp
    · exact hp.1
  obtain ⟨rfl, h0, h1, h2, h3, h4, h5⟩ := hp0
  have hzs : zv.cells.size = ti.size := by simpa using h3
  obtain ⟨i', d', hi', hd', hs, hby, _⟩ := tyI_inv hti
  rw [hi] at hi'; cases hi'
  have hw1 : IntKind.i64.wrap n = n := wrap_i64_in (by omega) h2
  have hel : zeroEl ti (zv.cells.toList.map ofConst) = (if ti.agg then AV.agg (zv.cells.toList.map ofConst) else (zv.cells.toList.map ofConst).headD .any) := rfl
  have hrep := rep_zero_els (M := M) (n := n.toNat) hzs h4 h5
  have hrun : (Instr.makeSlice t (.int k n) (.int k' n)).run C.P w = .ok (.slice (some ⟨w.heap.size, 0, none⟩) n.toNat n.toNat) (w.alloc (.cells (if n.toNat * ti.size = 0 then #[] else Builtin.zeroCells zv.cells n.toNat) e (0, 0))) := by
    have hb : ¬ (281474976710656 < (i.bytes : Int) * n) := by rw [← hby, Int.mul_comm]; omega
    have hn0 : ¬ n < 0 := by omega
    have hsz := run_sizeOf_ty hti w
    by_cases hz0 : n.toNat * ti.size = 0
    · simp [Instr.makeSlice, run_underlying hu, typeInfo, hi, asInt, asIntOf, hw1, hb, hn0, hsz, hz0, newRow]
      rw [show (Array.map (fun _ => default) (Array.range 0) : Array Value) = #[] from Array.eq_empty_of_size_eq_zero (by simp)]
    · have hzr : (zeroValue e).run C.P w = .ok zv w := by simp [zeroValue, typeInfo, hi, hzv]
      simp [Instr.makeSlice, run_underlying hu, typeInfo, hi, asInt, asIntOf, hw1, hb, hn0, hsz, hz0, hzr, newRow, Builtin.zeroCells, hzs]
  have hsz : szOk ti.size (List.replicate n.toNat (zeroEl ti (zv.cells.toList.map ofConst))) := by
    intro y hy
    rw [List.eq_of_mem_replicate hy, hel, zero_cells hzs h4 h5]; exact h3
  have hszArr : (if n.toNat * ti.size = 0 then #[] else Builtin.zeroCells zv.cells n.toNat).size = n.toNat * ti.size := by
    have := hrep.1
    rw [← hel, flat_len hsz] at this
    simpa using this.symm
  simp only at hp ⊢
  split at hp
  · refine ⟨_, _, _, φ, hrun, memAdd_le fun j _ _ => hw.none_new j, Phi.le.refl _, fun _ _ _ h => .inl h, ?_, hw.alloc_imm _ e⟩
    have := rep_isl_block (M := memAdd M w.heap.size ((if n.toNat * ti.size = 0 then #[] else Builtin.zeroCells zv.cells n.toNat)[·]?)) (φ := φ) hsz (hrep.mono (memAdd_le fun j _ _ => hw.none_new j) (Phi.le.refl _)) w.heap.size 0
      (fun k v hv => by rw [Nat.zero_add]; exact memAdd_same (by simpa using hv)) (cap := n.toNat) (by simp) (nl := some false) (by simp) (tok := .full) (by simp) (by simp)
    simpa using this
  · have hn : φ (C.id d) (nextV g (C.id d)) = Option.none := hw.fresh_ver (nextV_lt g _)
    have hcs : (if ti.agg then (List.replicate n.toNat (zv.cells.toList.map ofConst)).flatten else List.replicate n.toNat ((zv.cells.toList.map ofConst).headD .any)) = (List.replicate n.toNat (zeroEl ti (zv.cells.toList.map ofConst))).flatMap AV.cells := by
      cases hag : ti.agg with
      | true => rw [zero_flat (x := zeroEl ti (zv.cells.toList.map ofConst)) (c := zv.cells.toList.map ofConst) (by rw [hel, hag]; rfl)]; rfl
      | false =>
        have hc := zero_cells hzs h4 h5
        rw [hag] at hc
        simp only [Bool.false_eq_true, if_false] at hc ⊢
        have hel' : zeroEl ti (zv.cells.toList.map ofConst) = (zv.cells.toList.map ofConst).headD .any := by rw [hel, hag]; rfl
        rw [hel']
        have hc1 : ((zv.cells.toList.map ofConst).headD .any).cells = [(zv.cells.toList.map ofConst).headD .any] := by
          rw [hc]
          have hlen := h5 hag
          match hl : zv.cells.toList.map ofConst with
          | [] => rw [hl] at h3; simp at h3; omega
          | [v] => rfl
          | v :: v2 :: l => rw [hl] at h3; simp at h3; omega
        generalize (zv.cells.toList.map ofConst).headD .any = x at hc1
        induction n.toNat with
        | zero => rfl
        | succ n ih => simp only [List.replicate_succ, List.flatMap_cons, ← ih, hc1]; rfl
    rw [hcs]
    refine ⟨_, _, M, φ.add (C.id d) (nextV g (C.id d)) (.row (some w.heap.size) ti.size n.toNat), hrun, Mem.le.refl _, Phi.le_add hn, add_mem, ?_, ?_⟩
    · exact .osl (r := some w.heap.size) (C := n.toNat) (by simp [Phi.add]) (by omega) (Nat.le_refl _) (by simp) (by simp) (by intro q hq _; cases hq; simp)
    · have := hw.alloc_named (C.id d) (.cells (nextV g (C.id d)) ((List.replicate n.toNat (zeroEl ti (zv.cells.toList.map ofConst))).flatMap AV.cells)) (.row (some w.heap.size) ti.size n.toNat) _ e (fun _ => none) (by simp) (nextV_lt g _) rfl
        ⟨hw.below.size, fun j => by rw [memAdd_nothing]; exact hw.none_new j, _, e, heap_alloc_new _ _, hszArr, by rw [flat_len hsz, hszArr]; simp, fun j x v hj1 hj2 => by
          rw [memAdd_nothing]
          exact (hrep.2 j x v hj1 (by simpa using hj2)).mono (Mem.le.refl _) (Phi.none_le _)⟩
      rw [memAdd_nothing] at this
      exact this

end
end Go.Av
