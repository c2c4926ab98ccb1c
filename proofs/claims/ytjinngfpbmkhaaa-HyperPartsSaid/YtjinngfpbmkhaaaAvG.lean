import Derived.Test.YtjinngfpbmkhaaaAvF
namespace Go.Av
set_option linter.unusedVariables false
set_option linter.unusedSimpArgs false
open Go.RowKit

section
variable {P : Program} {w0 w : World} {M : Mem} {φ : Phi} {g : GH}

inductive RepO (M : Mem) (φ : Phi) : Option AV → Option Value → Prop where
  | none : RepO M φ none none
  | some {x v} (h : Rep M φ x v) : RepO M φ (some x) (some v)

theorem bnd_inv {x : Option AV} {v : Option Value} {d i : Int} (h : RepO M φ x v) (hb : bnd x d = some i) : (v = none ∧ i = d) ∨ ∃ k, v = some (.int k i) := by
  cases h with
  | none => simp only [bnd, Option.some.injEq] at hb; exact .inl ⟨rfl, hb.symm⟩
  | some h =>
    right
    unfold bnd at hb
    split at hb
    · rename_i e; cases e
    · rename_i k j e
      cases hb
      cases e
      exact ⟨k, by rw [lit_inv h]⟩
    · cases hb

/-- A slice of a slice: the value that comes of it. -/
theorem run_slice_sl {t e : TypeId} {ti : TyI} (hu : P.underlying t = some (.slice e)) (hti : tyI P e = some ti) (a : Option Addr) (len cap : Nat) (lo hi : Option Value) (l h : Int)
    (hlo : (lo = none ∧ l = 0) ∨ ∃ k, lo = some (.int k l)) (hhi : (hi = none ∧ h = len) ∨ ∃ k, hi = some (.int k h)) (h0 : 0 ≤ l) (h1 : l ≤ h) (h2 : h ≤ cap) (w : World) :
    (Instr.sliceAt t (.slice a len cap) lo hi none).run P w = .ok (.slice (if cap = l.toNat then a else a.map (·.add (l.toNat * ti.size))) (h.toNat - l.toNat) (cap - l.toNat)) w := by
  have hsz := run_sizeOf_ty hti w
  have eh : (h.toNat : Int) = h := Int.toNat_of_nonneg (by omega)
  have hh : 0 ≤ h := by omega
  rcases hlo with ⟨rfl, rfl⟩ | ⟨k, rfl⟩ <;> rcases hhi with ⟨rfl, rfl⟩ | ⟨k', rfl⟩ <;>
    simp [Instr.sliceAt, run_underlying hu, Instr.slice, Instr.sliceBounds, run_sliceBound, *]

theorem run_slice_sl3 {t e : TypeId} {ti : TyI} (hu : P.underlying t = some (.slice e)) (hti : tyI P e = some ti) (a : Option Addr) (len cap : Nat) (lo : Option Value) (hi mx : Value) (l h m : Int)
    (hlo : (lo = none ∧ l = 0) ∨ ∃ k, lo = some (.int k l)) (hhi : ∃ k, hi = .int k h) (hmx : ∃ k, mx = .int k m) (h0 : 0 ≤ l) (h1 : l ≤ h) (h2 : h ≤ m) (h3 : m ≤ cap) (w : World) :
    (Instr.sliceAt t (.slice a len cap) lo (some hi) (some mx)).run P w = .ok (.slice (if m.toNat = l.toNat then a else a.map (·.add (l.toNat * ti.size))) (h.toNat - l.toNat) (m.toNat - l.toNat)) w := by
  have hsz := run_sizeOf_ty hti w
  have eh : (h.toNat : Int) = h := Int.toNat_of_nonneg (by omega)
  have em : (m.toNat : Int) = m := Int.toNat_of_nonneg (by omega)
  have hh : 0 ≤ h := by omega
  have hm : 0 ≤ m := by omega
  obtain ⟨k', rfl⟩ := hhi
  obtain ⟨k'', rfl⟩ := hmx
  rcases hlo with ⟨rfl, rfl⟩ | ⟨k, rfl⟩ <;>
    simp [Instr.sliceAt, run_underlying hu, Instr.slice, Instr.sliceBounds, run_sliceBound, *]

/-- A part of a slice that nobody writes. -/
theorem rep_sub {nl : Option Bool} {l : List AV} {tok : Tk} {a : Option Addr} {len cap : Nat} (h : Rep M φ (.isl nl l tok) (.slice a len cap)) (i j c sz : Nat) (hsz : ∀ e, e ∈ l → e.cells.length = sz) (hij : i ≤ j) (hj : j ≤ l.length)
    (hc : j - i ≤ c) (hc2 : a = none → c = 0) (full : Bool) (hf : full = true → c = j - i) (stay : Prop) [Decidable stay] (hstay : stay → j = i) :
    Rep M φ (.isl nl ((l.take j).drop i) (if full then .full else .no)) (.slice (if stay then a else a.map (·.add (i * sz))) (j - i) c) := by
  cases h with
  | isl sz' cv hlen hcap hnl hnil hsz' hsp hm hr hfull htok =>
    have hget : ∀ (k : Nat) (e : AV), ((l.take j).drop i)[k]? = some e → l[i + k]? = some e ∧ i + k < j := by
      intro k e he
      rw [List.getElem?_drop] at he
      have hlt : i + k < j := by have := (List.getElem?_eq_some_iff.1 he).1; simp at this; omega
      rw [List.getElem?_take_of_lt hlt] at he
      exact ⟨he, hlt⟩
    refine .isl sz (fun k c => cv (i + k) c) (by simp; omega) hc (fun b hb => ?_) (fun ha => ?_) ?_ ?_ ?_ ?_ ?_ ?_
    · rw [← hnl b hb]; split <;> simp
    · split at ha
      · exact hc2 ha
      · exact hc2 (by simpa using ha)
    · intro e he
      exact hsz e (List.mem_of_mem_take (List.mem_of_mem_drop he))
    · intro r hr' hne
      have hne' : l ≠ [] := by intro e; subst e; simp at hne
      split at hr'
      · exact hsp r hr' hne'
      · cases a with
        | none => simp at hr'
        | some q =>
          simp only [Option.map_some, Option.some.injEq] at hr'
          subst hr'
          unfold Addr.add
          split
          · exact hsp q rfl hne'
          · rfl
    · intro r hr' k e c x he hx
      obtain ⟨h1, h2⟩ := hget k e he
      split at hr'
      · rename_i hs
        have := hstay hs
        omega
      · cases a with
        | none => simp at hr'
        | some q =>
          simp only [Option.map_some, Option.some.injEq] at hr'
          subst hr'
          have h3 := hm q rfl (i + k) e c x h1 hx
          have hszz : sz' = sz := by rw [← hsz' e (List.mem_of_getElem? h1), hsz e (List.mem_of_getElem? h1)]
          subst hszz
          have h4 : (q.add (i * sz')).block = q.block ∧ (q.add (i * sz')).off = q.off + i * sz' := by unfold Addr.add; split <;> simp_all
          rw [h4.1, h4.2, ← h3]
          congr 1
          rw [Nat.add_mul]; omega
    · intro k e c x he hx
      exact hr (i + k) e c x (hget k e he).1 hx
    · intro hf'
      cases full <;> simp at hf'
      exact hf rfl
    · intro k ver ht
      cases full <;> simp at ht

theorem run_slice_str {t : TypeId} (hu : P.underlying t = some .string) (s : ByteArray) (lo hi : Option Value) (l h : Int)
    (hlo : (lo = none ∧ l = 0) ∨ ∃ k, lo = some (.int k l)) (hhi : (hi = none ∧ h = s.size) ∨ ∃ k, hi = some (.int k h)) (h0 : 0 ≤ l) (h1 : l ≤ h) (h2 : h ≤ s.size) (w : World) :
    (Instr.sliceAt t (.string s) lo hi none).run P w = .ok (.string (s.extract l.toNat h.toNat)) w := by
  have eh : (h.toNat : Int) = h := Int.toNat_of_nonneg (by omega)
  have hh : 0 ≤ h := by omega
  rcases hlo with ⟨rfl, rfl⟩ | ⟨k, rfl⟩ <;> rcases hhi with ⟨rfl, rfl⟩ | ⟨k', rfl⟩ <;>
    simp [Instr.sliceAt, run_underlying hu, Instr.slice, Instr.sliceBounds, run_sliceBound, *]

theorem sliceA_gives (hw : Wr w0 M φ g w) {t : TypeId} {x : AV} {xv : Value} {lo hi mx : Option AV} {lov hiv mxv : Option Value} (ha : Rep M φ x xv) (hlo : RepO M φ lo lov) (hhi : RepO M φ hi hiv) (hmx : RepO M φ mx mxv)
    (hp : (sliceA P t x lo hi mx).pre) : Gives P (Instr.sliceAt t xv lov hiv mxv) w0 M φ g w (sliceA P t x lo hi mx).v (sliceA P t x lo hi mx).wr := by
  unfold sliceA at hp ⊢
  split at hp
  · rename_i s
    split at hp
    · rename_i l h e1 e2
      cases hmx
      obtain ⟨h1, h2, h3, h4⟩ := hp
      rw [lit_inv ha]
      exact Gives.pure hw (run_slice_str ((kindT_inv P t).2.1 h1) s lov hiv l h (bnd_inv hlo e1) (bnd_inv hhi e2) h2 h3 h4 w) (.lit _)
    · exact hp.elim
  · rename_i nl xs tok
    split at hp
    · rename_i e hs
      have hu := slT_inv hs
      obtain ⟨a, len, cap, rfl⟩ : ∃ a len cap, xv = .slice a len cap := by cases ha; exact ⟨_, _, _, rfl⟩
      have hlen : len = xs.length ∧ len ≤ cap ∧ (a = none → cap = 0) := by cases ha; exact ⟨‹_›, ‹_›, ‹_›⟩
      obtain ⟨hl1, hl2, hl3⟩ := hlen
      split at hp
      · rename_i ti hti
        split at hp
        · rename_i l h e1 e2
          cases hmx
          obtain ⟨hsz', h1, h2, h3⟩ := hp
          have hhi' := bnd_inv hhi e2
          refine Gives.pure hw (run_slice_sl hu hti a len cap lov hiv l h (bnd_inv hlo e1) (by rw [hl1]; exact hhi') h1 h2 (by omega) w) ?_
          exact rep_sub ha l.toNat h.toNat (cap - l.toNat) ti.size hsz' (by omega) (by omega) (by omega) (fun e => by have := hl3 e; omega) false (by simp) _ (fun e => by omega)
        · rename_i l h _ k m e1 e2
          cases hmx with
          | some hmx' =>
          cases hhi with
          | @some _ hv hhi' =>
          obtain ⟨hsz', h1, h2, rfl, h3⟩ := hp
          have hhi'' := bnd_inv (.some hhi') e2
          have hh : ∃ k, hv = Value.int k h := by rcases hhi'' with ⟨h5, _⟩ | ⟨k, h5⟩; cases h5; cases h5; exact ⟨k, rfl⟩
          refine Gives.pure hw (run_slice_sl3 hu hti a len cap lov _ _ l h h (bnd_inv hlo e1) hh ⟨_, lit_inv hmx'⟩ h1 h2 (Int.le_refl _) (by omega) w) ?_
          exact rep_sub ha l.toNat h.toNat (h.toNat - l.toNat) ti.size hsz' (by omega) (by omega) (by omega) (fun e => by have := hl3 e; omega) true (by simp) _ (fun e => e)
        · exact hp.elim
      · exact hp.elim
    · exact hp.elim
  · rename_i id ver sz off len
    split at hp
    · rename_i e hs
      have hu := slT_inv hs
      split at hp
      · rename_i ti l h hti e1 e2
        cases hmx
        obtain ⟨rfl, h1, h2, h3⟩ := hp
        have hhi' := bnd_inv hhi e2
        cases ha with
        | @osl _ _ _ _ _ _ a cap C r hφ hC hcap hnone hz ha =>
          refine Gives.pure hw (run_slice_sl hu hti a len cap lov hiv l h (bnd_inv hlo e1) hhi' h1 h2 (by omega) w) ?_
          refine .osl hφ (by omega) (by omega) ?_ hz ?_
          · split
            · exact hnone
            · cases a <;> simp [hnone] <;> simp [← hnone]
          · intro q hq hc
            have hne : ¬ cap = l.toNat := by omega
            rw [if_neg hne, ha q hq (by omega)]
            simp only [Option.map_some, addr_add, Nat.add_mul]
      · exact hp.elim
    · exact hp.elim
  · exact hp.elim

end
end Go.Av
