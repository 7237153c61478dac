/-
  The laws' examples: awake tells true.
-/
import Derived.Test.YtgofleplmnibbaaGreatDoorRefE
import Derived.Test.YtgofleplmnibbaaGreatDoorLinW
namespace Go.Proofs.YtgofleplmnibbaaGreatDoor
open Go.RowKit Go.Shelf Lex

def TrueBelow (w : World) (e : Ending) (w' : World) : Prop := e = .returned (.bool true) ∧ Below w.heap.size w w'
abbrev lit (w : World) (xs : List Bytes) : World := w.alloc (.cells (xs.map encS).toArray 9)
theorem lit_below (w : World) (xs : List Bytes) : Below w.heap.size w (lit w xs) := (Below.refl _ _).alloc (Nat.le_refl _) _

theorem rule_awake (w : World) (hG : Glob w) :
    Calls Tryz.prog 19 #[.slice (some ⟨w.heap.size, 0, none⟩) 10 10] (lit w wRule) fun e w' => e = .returned (.tuple #[.agg (ruleC vRule), .int .i64 0]) ∧ Below w.heap.size w w' := by
  refine (rule_any wRule _ _ (hG.below' (lit_below w wRule)) ((strs_lit w 9 wRule (by decide)).mono (Nat.zero_le _)) (by decide) (fun x _ => fold_at x)).mono ?_
  rintro e w' ⟨rfl, hb⟩
  rw [awake_rule]
  exact ⟨rfl, (lit_below w wRule).trans (hb.mono (lit_below w wRule).size)⟩
theorem era_awake (w : World) (hG : Glob w) :
    Calls Tryz.prog 21 #[.slice (some ⟨w.heap.size, 0, none⟩) 7 7] (lit w wEra) fun e w' => e = .returned (.tuple #[.agg (eraC vEra), .int .i64 0]) ∧ Below w.heap.size w w' := by
  refine (era_any wEra _ _ (hG.below' (lit_below w wEra)) ((strs_lit w 9 wEra (by decide)).mono (Nat.zero_le _)) (by decide) (fun x _ => fold_at x)).mono ?_
  rintro e w' ⟨rfl, hb⟩
  rw [awake_era]
  exact ⟨rfl, (lit_below w wEra).trans (hb.mono (lit_below w wEra).size)⟩
theorem link_awake (w : World) (hG : Glob w) :
    Calls Tryz.prog 25 #[.slice (some ⟨w.heap.size, 0, none⟩) 3 3] (lit w wLink) fun e w' => e = .returned (.tuple #[.agg #[.string ⟨#[69, 117, 114, 111, 112, 101, 47, 66, 101, 114, 108, 105, 110]⟩, .string ⟨#[69, 117, 114, 111, 112, 101, 47, 79, 115, 108, 111]⟩], .int .i64 0]) ∧ Below w.heap.size w w' := by
  refine (link_any wLink _ _ (hG.below' (lit_below w wLink)) ((strs_lit w 9 wLink (by decide)).mono (Nat.zero_le _)) (by decide)).mono ?_
  rintro e w' ⟨rfl, hb⟩
  rw [awake_link]
  exact ⟨rfl, (lit_below w wLink).trans (hb.mono (lit_below w wLink).size)⟩

set_option maxHeartbeats 4000000 in
set_option maxRecDepth 100000 in
theorem awake_any (w : World) (hG : Glob w) : Calls Tryz.prog 10 #[] w (TrueBelow w) := by
  have h1 := Lib.hid (fun W hW => rule_awake W hW)
  have h2 := Lib.hid (fun W hW => era_awake W hW)
  have h3 := Lib.hid (fun W hW => link_awake W hW)
  go_enter Tryz.func10, Tryz.ntmps10
  go_wp2_with fail
  refine (h1.out w hG).mono ?_
  rintro e w1 ⟨rfl, hb1⟩
  simp only [ruleC, vRule]
  go_wp2_with fail
  obtain ⟨a1, ha1⟩ : ∃ a1, a1 = w1.alloc (.cells (ruleC vRule) 34) := ⟨_, rfl⟩
  have hz1 : a1.heap.size = w1.heap.size + 1 := by rw [ha1]; simp
  have hB1 : Below w.heap.size w a1 := by rw [ha1]; exact hb1.alloc hb1.size _
  have H1 : Hid (a1.heap[w1.heap.size]? = some (.cells (ruleC vRule) 34 (0, 0))) := Lib.hid (by rw [ha1]; exact World.alloc_heap_new _ _)
  simp only [ruleC, vRule] at ha1
  rw [← ha1]
  have c2 := h2.out a1 (hG.below' hB1)
  rw [hz1] at c2
  have HZ1 := Lib.hid hz1
  clear ha1 hb1 hz1
  refine c2.mono ?_
  clear c2
  rintro e w2 ⟨rfl, hb2⟩
  rw [← HZ1.out] at hb2
  simp only [eraC, vEra]
  go_wp2_with fail
  obtain ⟨a2, ha2⟩ : ∃ a2, a2 = w2.alloc (.cells (eraC vEra) 40) := ⟨_, rfl⟩
  have hz2 : a2.heap.size = w2.heap.size + 1 := by rw [ha2]; simp
  have hb2' : Below a1.heap.size a1 a2 := by rw [ha2]; exact hb2.alloc hb2.size _
  have hB2 : Below w.heap.size w a2 := hB1.trans (hb2'.mono hB1.size)
  have H2 : Hid (a2.heap[w2.heap.size]? = some (.cells (eraC vEra) 40 (0, 0))) := Lib.hid (by rw [ha2]; exact World.alloc_heap_new _ _)
  have H1' : Hid (a2.heap[w1.heap.size]? = some (.cells (ruleC vRule) 34 (0, 0))) := Lib.hid ((hb2'.block _ (by rw [HZ1.out]; omega)).trans H1.out)
  simp only [eraC, vEra] at ha2
  rw [← ha2]
  have c3 := h3.out a2 (hG.below' hB2)
  rw [hz2] at c3
  have HZ2 := Lib.hid hz2
  have hs12 : w1.heap.size < a2.heap.size := by have := hb2'.size; rw [HZ1.out] at this; omega
  clear ha2 hb2 hz2 hb2'
  refine c3.mono ?_
  clear c3
  rintro e w3 ⟨rfl, hb3⟩
  rw [← HZ2.out] at hb3
  have q1 := (hb3.block _ hs12).trans H1'.out
  have q2 := (hb3.block _ (show w2.heap.size < a2.heap.size by rw [HZ2.out]; omega)).trans H2.out
  obtain ⟨⟨c0, c1, c2, c3, c4, c5, c6, c7, c8, c9, c10⟩, f0⟩ := cells11 q1
  obtain ⟨⟨d0, d1, d2, d3, d4, d5, d6, d7, d8, d9, d10, d11⟩, g0⟩ := cells12 q2
  have hs1 : w1.heap.size < w3.heap.size := (Array.getElem?_eq_some_iff.1 q1).1
  have hs2 : w2.heap.size < w3.heap.size := (Array.getElem?_eq_some_iff.1 q2).1
  have hB3 : Below w.heap.size w w3 := hB2.trans (hb3.mono hB2.size)
  simp only [vRule] at c0 c1 c2 c3 c4 c5 c6 c7 c8 c9 c10
  simp only [vEra] at d0 d1 d2 d3 d4 d5 d6 d7 d8 d9 d10 d11
  clear q1 q2 f0 g0 hb3 hs12 hB1 hB2
  go_wp2_with fail
  go_ret
  exact ⟨rfl, hB3.alloc hB3.size _⟩

end Go.Proofs.YtgofleplmnibbaaGreatDoor
