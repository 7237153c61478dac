/-
  The statements' own examples (awake) hold.
-/
import Derived.Test.YtgofleplmnibbaaDoorLexF
import Derived.Test.YtgofleplmnibbaaDoorLexH
namespace Go.Proofs.YtgofleplmnibbaaDoor
open Go.RowKit Go.Shelf Lex

theorem words_at {s : Bytes} {l : List Bytes} {n : Int} {w : World} (hG : Glob w) (hs : s.length ≤ 100000) (h : wordsF s = (l, n)) :
    Calls Tryd.prog 9 #[.string ⟨s.toArray⟩] w fun e w' => ∃ v, e = .returned (.tuple #[v, .int .i64 n]) ∧ Strs w.heap.size w' v l ∧ Below w.heap.size w w' := by
  refine (Words_any s w hG hs).mono ?_
  rintro e w' ⟨v, rfl, hS, hb⟩
  rw [h] at hS ⊢
  exact ⟨v, rfl, hS, hb⟩

theorem texts_yes {xs : List Bytes} {u v : Value} {w : World} {lo lo' : Nat} (hu : Strs lo w u xs) (hv : Strs lo' w v xs) :
    Calls Tryd.prog 10 #[u, v] w fun e w' => e = .returned (.bool true) ∧ Below w.heap.size w w' := by
  have := Texts_any xs xs u v w lo lo' hu hv
  rwa [decide_eq_true rfl] at this

theorem ex1 : wordsF [97, 32, 34, 98, 32, 99, 34, 100, 32, 35, 32, 101] = ([[97], [98, 32, 99, 100]], 0) := by decide +kernel
theorem ex2 : wordsF [34, 34] = ([[]], 0) := by decide +kernel
theorem ex3 : wordsF [34, 97] = ([], 12) := by decide +kernel

set_option maxHeartbeats 2000000 in
set_option maxRecDepth 100000 in
theorem awake_any (w : World) (hG : Glob w) :
    Calls Tryd.prog 6 #[] w fun e w' => e = .returned (.bool true) ∧ Below w.heap.size w w' := by
  go_enter Tryd.func6, Tryd.ntmps6
  go_wp2_with fail
  refine (words_at hG (by decide) ex1).mono ?_
  rintro e w1 ⟨v1, rfl, hS1, hb1⟩
  have hG1 := hG.below' hb1
  go_wp2_with fail
  refine (words_at hG1 (by decide) ex2).mono ?_
  rintro e w2 ⟨v2, rfl, hS2, hb2⟩
  have hG2 := hG1.below' hb2
  have hS1' := hS1.below hb2
  go_wp2_with fail
  refine (words_at hG2 (by decide) ex3).mono ?_
  rintro e w3 ⟨v3, rfl, hS3, hb3⟩
  have hS1'' := hS1'.below hb3
  have hS2' := hS2.below hb3
  have hB3 : Below w.heap.size w w3 := (hb1.trans (hb2.mono hb1.size)).trans (hb3.mono (hb1.trans (hb2.mono hb1.size)).size)
  clear hS1 hS1' hS2 hS3 hb1 hb2 hb3
  go_wp2_with fail
  have hA : Below w3.heap.size w3 (w3.alloc (.cells #[.string ⟨#[97]⟩, .string ⟨#[98, 32, 99, 100]⟩] 9)) := (Below.refl _ _).alloc (Nat.le_refl _) _
  refine (texts_yes (hS1''.below hA) (strs_lit w3 9 [[97], [98, 32, 99, 100]] (by decide))).mono ?_
  rintro e w4 ⟨rfl, hb4⟩
  have hB4 : Below w3.heap.size w3 w4 := hA.trans (hb4.mono hA.size)
  go_wp2_with fail
  have hA5 : Below w4.heap.size w4 (w4.alloc (.cells #[.string ⟨#[]⟩] 9)) := (Below.refl _ _).alloc (Nat.le_refl _) _
  refine (texts_yes ((hS2'.below hB4).below hA5) (strs_lit w4 9 [[]] (by decide))).mono ?_
  rintro e w5 ⟨rfl, hb5⟩
  go_wp2_with fail
  go_ret
  exact ⟨rfl, hB3.trans ((hB4.trans ((hA5.trans (hb5.mono hA5.size)).mono hB4.size)).mono hB3.size)⟩

end Go.Proofs.YtgofleplmnibbaaDoor
