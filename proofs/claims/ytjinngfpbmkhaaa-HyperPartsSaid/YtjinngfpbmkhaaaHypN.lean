import Derived.Test.YtjinngfpbmkhaaaSetM
import Derived.Test.YtjinngfpbmkhaaaAvZ
/-! Plain words about hypergraphs. -/
namespace Go.Av
set_option linter.unusedVariables false
set_option linter.unusedSimpArgs false
/-- what is told of the room behind an edge -/
def tkb (b : Bool) : Tk := if b then .full else .no
@[go_sem] theorem free_tkb (b : Bool) : Tk.free (tkb b) = true := by cases b <;> rfl
@[go_sem] theorem erase_tkb (b : Bool) : Tk.erase (tkb b) = tkb b := by cases b <;> rfl
theorem only_tkb (p : Nat → Prop) (nl : Option Bool) (l : List AV) (b : Bool) : (AV.isl nl l (tkb b)).only p ↔ True := by
  cases b
  · exact only_no p nl l
  · exact only_full p nl l
/-- edges, as they are handed in: whether they are told to be nil, to be full, and their numbers -/
abbrev Edges := List (Option Bool × Bool × List Int)
abbrev El (E : Edges) : List AV := E.map fun p => .isl p.1 (Il p.2.2) (tkb p.2.1)
def inN (N : Int) (v : Int) : Bool := decide (0 ≤ v) && decide (v < N)
def goodH (N : Int) (E : Edges) : Bool := (E.all fun e => e.2.2.all (inN N)) && decide (0 ≤ N) && decide (N ≤ 64) && decide (E.length ≤ 64)
def fewH (E : Edges) (i : Nat) : Edges := (E.take i).map fun e => (none, false, e.2.2.take 6)
def withH (E : Edges) (i : Nat) : Edges := (E.take i).map fun e => (none, false, e.2.2)
def eG (E : Edges) (i : Nat) : Option Bool × Bool × List Int := E.getD i (none, false, [])
theorem El_get (E : Edges) (i : Nat) (h : i < E.length) : (El E).getD i .any = .isl (eG E i).1 (Il (eG E i).2.2) (tkb (eG E i).2.1) := by
  unfold eG; simp [List.getD_eq_getElem?_getD, h]
theorem El_app (E : Edges) (e : List Int) : El E ++ [.isl none (Il e) .no] = El (E ++ [(none, false, e)]) := by simp [tkb]
theorem fewH_succ (E : Edges) (i : Nat) (h : i < E.length) : fewH E i ++ [(none, false, (eG E i).2.2.take 6)] = fewH E (i + 1) := by
  unfold fewH eG
  rw [List.take_succ_eq_append_getElem h, List.map_append]
  simp [List.getD_eq_getElem?_getD, h]
theorem withH_succ (E : Edges) (i : Nat) (h : i < E.length) : withH E i ++ [(none, false, (eG E i).2.2)] = withH E (i + 1) := by
  unfold withH eG
  rw [List.take_succ_eq_append_getElem h, List.map_append]
  simp [List.getD_eq_getElem?_getD, h]
theorem elsOk_El (E : Edges) : elsOk 1 (El E) ↔ True := by
  refine ⟨fun _ => trivial, fun _ e he => ?_⟩
  obtain ⟨p, -, rfl⟩ := List.mem_map.1 he
  exact ⟨rfl, by simp [AV.cells, AV.idf, free_tkb]⟩
/-- the first place where it is so, or -1 -/
def idxF (p : Int → Bool) : List Int → Nat → Option Nat
  | [], _ => none
  | x :: l, i => if p x then some i else idxF p l (i + 1)
def firstI (p : Int → Bool) (l : List Int) : Int := match l.findIdx? p with | some i => (i : Int) | none => -1
theorem firstI_at (p : Int → Bool) (l : List Int) (i : Nat) (hi : i < l.length) (h1 : ∀ j, j < i → p (l.getD j 0) = false) (h2 : p (l.getD i 0) = true) : firstI p l = (i : Int) := by
  unfold firstI
  have : l.findIdx? p = some i := by
    rw [List.findIdx?_eq_some_iff_getElem]
    refine ⟨hi, by simpa [List.getD_eq_getElem?_getD, hi] using h2, fun j hj => ?_⟩
    have := h1 j hj
    simpa [List.getD_eq_getElem?_getD, show j < l.length by omega] using this
  rw [this]
theorem firstI_none (p : Int → Bool) (l : List Int) (h : ∀ j, j < l.length → p (l.getD j 0) = false) : firstI p l = -1 := by
  unfold firstI
  have : l.findIdx? p = none := by
    rw [List.findIdx?_eq_none_iff]
    intro x hx
    obtain ⟨j, hj, rfl⟩ := List.getElem_of_mem hx
    have := h j hj
    simpa [List.getD_eq_getElem?_getD, hj] using this
  rw [this]
theorem firstI_any (p : Int → Bool) (l : List Int) : decide (0 ≤ firstI p l) = l.any p := by
  unfold firstI
  cases h : l.findIdx? p with
  | none =>
    rw [List.findIdx?_eq_none_iff] at h
    have : l.any p = false := by rw [List.any_eq_false]; intro x hx; simp [h x hx]
    rw [this]; decide
  | some i =>
    obtain ⟨hi, hp, _⟩ := List.findIdx?_eq_some_iff_getElem.1 h
    have : l.any p = true := List.any_eq_true.2 ⟨l[i], List.getElem_mem hi, hp⟩
    rw [this]; simp
/-- the first pair of which it is so -/
def earF (P : Int → Int → Bool) (left : List Int) : Int × Int :=
  match left.findSome? fun i => (left.find? (P i)).map fun k => (i, k) with
  | some p => p
  | none => (-1, -1)
theorem find_at (p : Int → Bool) (l : List Int) (j : Nat) (hj : j < l.length) (h1 : ∀ k, k < j → p (l.getD k 0) = false) (h2 : p (l.getD j 0) = true) : l.find? p = some (l.getD j 0) := by
  have e : l.getD j 0 = l[j] := by simp [List.getD_eq_getElem?_getD, hj]
  rw [e] at h2 ⊢
  rw [List.find?_eq_some_iff_getElem]
  refine ⟨h2, j, hj, rfl, fun k hk => ?_⟩
  have := h1 k hk
  simpa [List.getD_eq_getElem?_getD, show k < l.length by omega] using this
theorem find_no (p : Int → Bool) (l : List Int) (h1 : ∀ k, k < l.length → p (l.getD k 0) = false) : l.find? p = none := by
  rw [List.find?_eq_none]
  intro x hx
  obtain ⟨k, hk, rfl⟩ := List.getElem_of_mem hx
  have := h1 k hk
  simpa [List.getD_eq_getElem?_getD, hk] using this
theorem findSome_at {β : Type} (f : Int → Option β) : ∀ (l : List Int) (i : Nat) (b : β), i < l.length → (∀ k, k < i → f (l.getD k 0) = none) → f (l.getD i 0) = some b → l.findSome? f = some b
  | [], i, b, hi, _, _ => by simp at hi
  | x :: l, 0, b, _, _, h2 => by
    have : f x = some b := h2
    simp [List.findSome?, this]
  | x :: l, i + 1, b, hi, h1, h2 => by
    have h0 : f x = none := h1 0 (by omega)
    rw [List.findSome?, h0]
    exact findSome_at f l i b (by simpa using hi) (fun k hk => h1 (k + 1) (by omega)) h2
theorem findSome_no {β : Type} (f : Int → Option β) : ∀ (l : List Int), (∀ k, k < l.length → f (l.getD k 0) = none) → l.findSome? f = none
  | [], _ => rfl
  | x :: l, h1 => by
    have h0 : f x = none := h1 0 (by simp)
    rw [List.findSome?, h0]
    exact findSome_no f l fun k hk => h1 (k + 1) (by simpa using hk)
theorem earF_at (P : Int → Int → Bool) (left : List Int) (i j : Nat) (hi : i < left.length) (hj : j < left.length) (h1 : ∀ a, a < i → ∀ b, b < left.length → P (left.getD a 0) (left.getD b 0) = false)
    (h2 : ∀ b, b < j → P (left.getD i 0) (left.getD b 0) = false) (h3 : P (left.getD i 0) (left.getD j 0) = true) : earF P left = (left.getD i 0, left.getD j 0) := by
  unfold earF
  rw [findSome_at _ left i (left.getD i 0, left.getD j 0) hi (fun k hk => by rw [find_no _ _ (h1 k hk)]; rfl) (by rw [find_at _ _ j hj h2 h3]; rfl)]
theorem earF_none (P : Int → Int → Bool) (left : List Int) (h1 : ∀ a, a < left.length → ∀ b, b < left.length → P (left.getD a 0) (left.getD b 0) = false) : earF P left = (-1, -1) := by
  unfold earF
  rw [findSome_no _ left fun k hk => by rw [find_no _ _ (h1 k hk)]; rfl]
/-- edges as sets -/
abbrev Sl (W : List (List W64)) : List AV := W.map fun ws => .iptr [.isl none (Wl ws) .no]
def wG (W : List (List W64)) (i : Nat) : List W64 := W.getD i []
theorem Sl_get (W : List (List W64)) (i : Nat) (h : i < W.length) : (Sl W).getD i .any = .iptr [.isl none (Wl (wG W i)) .no] := by
  unfold wG; simp [List.getD_eq_getElem?_getD, h]
theorem Sl_app (W : List (List W64)) (ws : List W64) : Sl W ++ [.iptr [.isl none (Wl ws) .no]] = Sl (W ++ [ws]) := by simp
theorem elsOk_Sl (W : List (List W64)) : elsOk 1 (Sl W) ↔ True := by
  refine ⟨fun _ => trivial, fun _ e he => ?_⟩
  obtain ⟨p, -, rfl⟩ := List.mem_map.1 he
  exact ⟨rfl, rfl⟩
def othersW (W : List (List W64)) (i : Int) (left : List Int) : List W64 := left.foldl (fun o k => if k ≠ i then trimW (opW orW o (wG W k.toNat)) else o) []
def sharedW (W : List (List W64)) (left : List Int) (i : Int) : List W64 := trimW (opW andW (wG W i.toNat) (othersW W i left))
def earP (W : List (List W64)) (left : List Int) (i k : Int) : Bool := decide (k ≠ i) && decide (trimW (opW minW (sharedW W left i) (wG W k.toNat)) = [])
theorem trimW_le (f : W64 → W64 → W64) (ws vs : List W64) (m : Nat) (h1 : ws.length ≤ m) (h2 : vs.length ≤ m) : (trimW (opW f ws vs)).length ≤ m := by
  rw [trimW_len]
  have := trimN_le (opW f ws vs) (opW f ws vs).length
  rw [opW_len] at this
  rw [opW_len]; omega
theorem othersW_succ (W : List (List W64)) (i : Int) (left : List Int) (j : Nat) (h : j < left.length) : othersW W i (left.take (j + 1)) = if left.getD j 0 ≠ i then trimW (opW orW (othersW W i (left.take j)) (wG W (left.getD j 0).toNat)) else othersW W i (left.take j) := by
  unfold othersW
  rw [List.take_succ_eq_append_getElem h, List.foldl_append]
  simp [List.getD_eq_getElem?_getD, h]
theorem othersW_le (W : List (List W64)) (i : Int) (m : Nat) (hW : ∀ j, (wG W j).length ≤ m) : ∀ (left : List Int), (othersW W i left).length ≤ m := by
  have key : ∀ (left : List Int) (o : List W64), o.length ≤ m → (left.foldl (fun o k => if k ≠ i then trimW (opW orW o (wG W k.toNat)) else o) o).length ≤ m := by
    intro left
    induction left with
    | nil => exact fun o h => h
    | cons x l ih =>
      intro o h
      refine ih _ ?_
      show (if x ≠ i then trimW (opW orW o (wG W x.toNat)) else o).length ≤ m
      split
      · exact trimW_le _ _ _ _ h (hW _)
      · exact h
  exact fun left => key left [] (by simp)
def setsH (E : Edges) (i : Nat) : List (List W64) := (E.take i).map fun e => (e.2.2.foldl addI [])
theorem setsH_succ (E : Edges) (i : Nat) (h : i < E.length) : setsH E i ++ [(eG E i).2.2.foldl addI []] = setsH E (i + 1) := by
  unfold setsH eG
  rw [List.take_succ_eq_append_getElem h, List.map_append]
  simp [List.getD_eq_getElem?_getD, h]
/-! ### nothing, as a row of one's own: among what is local -/
theorem leN_self (id sz : Nat) (a : AV) : leN id sz a a = True := eq_true (leN_refl id sz a)
theorem imp_nilL {C : Cfg} {fr fr' : List AV} {o : GH} {L : List (Nat × Blk)} (d sz : Nat) (hd : d < C.nt) (hnone : look L d = none) (hfr : leNL (C.n + d) sz fr fr') : Imp C fr ⟨o, L⟩ fr' ⟨o, insL L d (.cells 0 [])⟩ := by
  refine imp_nilG (C.n + d) sz (by omega) (by rw [get_loc]; exact hnone) (by rw [get_loc, look_insL, if_pos rfl]) ?_ hfr
  intro i hi
  left
  unfold HP.get
  split
  · rfl
  · rename_i h1
    show look (insL L d _) (i - C.n) = look L (i - C.n)
    rw [look_insL, if_neg (by omega)]
end Go.Av
