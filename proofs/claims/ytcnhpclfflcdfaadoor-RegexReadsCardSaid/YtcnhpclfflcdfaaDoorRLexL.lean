import Derived.Test.YtcnhpclfflcdfaaDoorRLexE
/- A query's words: the laws. -/
namespace Go.Proofs.YtcnhpclfflcdfaaDoorR.Lex
open Go Go.Av Go.Proofs.YtcnhpclfflcdfaaDoorR.Val
set_option linter.unusedSimpArgs false
set_option linter.unusedVariables false
theorem words_few (s : ByteArray) : ∀ (f a : Nat) (out : List Wd), (wordsG s f a out).1.length ≤ 1000
  | 0, a, out => by
    rw [wordsG]; split
    · simp
    · simp only; omega
  | f + 1, a, out => by
    rw [wordsG]
    split
    · split
      · exact words_few s f _ _
      · split
        · exact words_few s f _ _
        · simp
    · split
      · simp
      · simp only; omega
/-- (x)-[a]->(y) -/
def liveS : ByteArray := ⟨#[40, 120, 41, 45, 91, 97, 93, 45, 62, 40, 121, 41]⟩
def liveL : List Wd := [(4, ⟨#[40]⟩, 0, 0, ⟨#[]⟩, 0), (1, ⟨#[120]⟩, 0, 0, ⟨#[]⟩, 1), (4, ⟨#[41]⟩, 0, 0, ⟨#[]⟩, 2), (4, ⟨#[45, 91]⟩, 0, 0, ⟨#[]⟩, 3), (1, ⟨#[97]⟩, 0, 0, ⟨#[]⟩, 5), (4, ⟨#[93, 45, 62]⟩, 0, 0, ⟨#[]⟩, 6), (4, ⟨#[40]⟩, 0, 0, ⟨#[]⟩, 9), (1, ⟨#[121]⟩, 0, 0, ⟨#[]⟩, 10), (4, ⟨#[41]⟩, 0, 0, ⟨#[]⟩, 11)]
theorem live_eq : wordsF liveS = (liveL, 0, 0) := by kernel_rfl
theorem live3 : (Wds liveL).getD 3 .any = wA (4, ⟨#[45, 91]⟩, 0, 0, ⟨#[]⟩, 3) := rfl
theorem live5 : (Wds liveL).getD 5 .any = wA (4, ⟨#[93, 45, 62]⟩, 0, 0, ⟨#[]⟩, 6) := rfl
theorem lives_c (g : GH) : PureC Tryd.prog 22 [] g (BB true) := by
  refine CallC.body (fun _ => none) (fun _ => 0) Tryd.func22 rfl Tryd.results22 Tryd.ntmps22 ?_
  intro n0 hn0
  simp only [go_sem]
  have hw : ∀ g, PureC Tryd.prog 24 [SS liveS] g (.tup [.isl none (Wds liveL) .no, I64 0, I64 0]) := fun g => by
    have := Words_c liveS (by decide) g
    rwa [live_eq] at this
  have hl : liveL.length = 9 := rfl
  refine WE_pure _ _ _ _ _ _ _ _ (hw _) ?_
  simp only [go_sem, List.length_map, hl, live3, live5]
  refine FnPost_end hn0 (by simp) rfl (only_lit _ _) ?_
  simp only [go_sem]
  exact leA_bool rfl
end Go.Proofs.YtcnhpclfflcdfaaDoorR.Lex
