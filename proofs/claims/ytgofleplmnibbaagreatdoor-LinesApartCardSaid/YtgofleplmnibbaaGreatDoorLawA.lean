/-
  The law LinesApart: words of one kind of line are none of another one.
-/
import Derived.Test.YtgofleplmnibbaaGreatDoorLaws
namespace Go.Proofs.YtgofleplmnibbaaGreatDoor
open Go.RowKit Go.Shelf Lex
attribute [local go_sem] ba_get

set_option maxHeartbeats 4000000 in
set_option maxRecDepth 100000 in
theorem apart_main (ws : List Bytes) (A : Option Addr) (c : Nat) (w : World) (hG : Glob w) (hS : Strs 0 w (.slice A ws.length c) ws) (hf : fewF ws = true) :
    Calls Tryz.prog 7 #[.slice A ws.length c] w (TrueBelow w) := by
  have hsz := few_size hf
  have cR := Lib.hid (fun (W : World) (hW : Glob W) (hs : Strs 0 W (.slice A ws.length c) ws) => rule_any ws _ W hW hs hsz (fun x _ => fold_at x))
  have cZ := Lib.hid (fun (W : World) (hW : Glob W) (hs : Strs 0 W (.slice A ws.length c) ws) => zone_any ws _ W hW hs hsz (fun x _ => fold_at x))
  have cL := Lib.hid (fun (W : World) (hW : Glob W) (hs : Strs 0 W (.slice A ws.length c) ws) => link_any ws _ W hW hs hsz)
  have cE := Lib.hid (fun (v : Value) (W : World) (hW : Glob W) (hs : Strs 0 W v (ws.drop 2)) => era_any (ws.drop 2) v W hW hs (fun x hm => hsz x (List.mem_of_mem_drop hm)) (fun x _ => fold_at x))
  have kR : (ruleN ws).2 = 0 → ws.length = 10 := ruleN_len
  have kL : (linkN ws).2.2 = 0 → ws.length = 3 := linkN_len
  have kZ := fun h => zoneN_ok (ws := ws) h
  have HS := Lib.hid hS
  have HF := Lib.hid hf
  generalize ruleN ws = pr at cR kR
  generalize zoneN ws = pz at cZ kZ
  generalize linkN ws = pl at cL kL
  obtain ⟨R, er⟩ := pr
  obtain ⟨zs, E, ez⟩ := pz
  obtain ⟨x, y, el⟩ := pl
  simp only at cR cZ cL kR kL kZ
  clear hsz hf hS
  have hlen := few_length HF.out
  by_cases h1 : er = 0
  · have k1 := kR h1
    have n2 : (ez == 0) = false := by rw [beq_eq_false_iff_ne]; intro h; have := (kZ h).1; omega
    have n3 : (el == 0) = false := by rw [beq_eq_false_iff_ne]; intro h; have := kL h; omega
    have l10 : ((ws.length : Int) != 10) = false := by rw [bne_eq_false_iff_eq]; omega
    subst h1
    clear kR kL kZ k1 cE
    go_enter Tryz.func7, Tryz.ntmps7
    go_wp2_with fail
    refine (few_at ws _ c _ HS.out HF.out (strs_max HS.out)).mono ?_
    rintro q w0 ⟨rfl, rfl⟩
    go_wp2_with fail
    refine (cR.out w hG HS.out).mono ?_
    rintro q w1 ⟨rfl, hb1⟩
    simp only [ruleC]
    go_wp2_with fail
    obtain ⟨a1, ha1⟩ : ∃ a1, a1 = w1.alloc (.cells (ruleC R) 34) := ⟨_, rfl⟩
    have hB1 : Below w.heap.size w a1 := by rw [ha1]; exact hb1.alloc hb1.size _
    simp only [ruleC] at ha1
    rw [← ha1]
    clear ha1 hb1
    refine (cZ.out a1 (hG.below' hB1) (HS.out.below hB1)).mono ?_
    rintro q w2 ⟨rfl, hb2⟩
    have hB2' := hB1.trans (hb2.mono hB1.size)
    simp only [eraC]
    go_wp2_with fail
    obtain ⟨a2, ha2⟩ : ∃ a2, a2 = w2.alloc (.cells (eraC E) 40) := ⟨_, rfl⟩
    have hB2 : Below w.heap.size w a2 := by rw [ha2]; exact hB2'.alloc hB2'.size _
    simp only [eraC] at ha2
    rw [← ha2]
    clear ha2 hb2 hB2' hB1
    refine (cL.out a2 (hG.below' hB2) (HS.out.below hB2)).mono ?_
    rintro q w3 ⟨rfl, hb3⟩
    have hB3 := hB2.trans (hb3.mono hB2.size)
    clear hb3 hB2
    go_wp2_with fail
    have hB4 : Below w.heap.size w (w3.alloc (.cells #[.string ⟨x.toArray⟩, .string ⟨y.toArray⟩] 46)) := hB3.alloc hB3.size _
    refine (awake_any _ (hG.below' hB4)).mono ?_
    rintro q w5 ⟨rfl, hb5⟩
    go_wp2_with fail
    go_ret
    exact ⟨rfl, hB4.trans (hb5.mono hB4.size)⟩
  have n1 : (er == 0) = false := beq_eq_false_iff_ne.2 h1
  by_cases h3 : el = 0
  · have k3 := kL h3
    have n2 : (ez == 0) = false := by rw [beq_eq_false_iff_ne]; intro h; have := (kZ h).1; omega
    have l3 : ((ws.length : Int) != 3) = false := by rw [bne_eq_false_iff_eq]; omega
    subst h3
    clear kR kL kZ k3 h1 cE
    go_enter Tryz.func7, Tryz.ntmps7
    go_wp2_with fail
    refine (few_at ws _ c _ HS.out HF.out (strs_max HS.out)).mono ?_
    rintro q w0 ⟨rfl, rfl⟩
    go_wp2_with fail
    refine (cR.out w hG HS.out).mono ?_
    rintro q w1 ⟨rfl, hb1⟩
    simp only [ruleC]
    go_wp2_with fail
    obtain ⟨a1, ha1⟩ : ∃ a1, a1 = w1.alloc (.cells (ruleC R) 34) := ⟨_, rfl⟩
    have hB1 : Below w.heap.size w a1 := by rw [ha1]; exact hb1.alloc hb1.size _
    simp only [ruleC] at ha1
    rw [← ha1]
    clear ha1 hb1
    refine (cZ.out a1 (hG.below' hB1) (HS.out.below hB1)).mono ?_
    rintro q w2 ⟨rfl, hb2⟩
    have hB2' := hB1.trans (hb2.mono hB1.size)
    simp only [eraC]
    go_wp2_with fail
    obtain ⟨a2, ha2⟩ : ∃ a2, a2 = w2.alloc (.cells (eraC E) 40) := ⟨_, rfl⟩
    have hB2 : Below w.heap.size w a2 := by rw [ha2]; exact hB2'.alloc hB2'.size _
    simp only [eraC] at ha2
    rw [← ha2]
    clear ha2 hb2 hB2' hB1
    refine (cL.out a2 (hG.below' hB2) (HS.out.below hB2)).mono ?_
    rintro q w3 ⟨rfl, hb3⟩
    have hB3 := hB2.trans (hb3.mono hB2.size)
    clear hb3 hB2
    go_wp2_with fail
    have hB4 : Below w.heap.size w (w3.alloc (.cells #[.string ⟨x.toArray⟩, .string ⟨y.toArray⟩] 46)) := hB3.alloc hB3.size _
    refine (awake_any _ (hG.below' hB4)).mono ?_
    rintro q w5 ⟨rfl, hb5⟩
    go_wp2_with fail
    go_ret
    exact ⟨rfl, hB4.trans (hb5.mono hB4.size)⟩
  have n3 : (el == 0) = false := beq_eq_false_iff_ne.2 h3
  by_cases h2 : ez = 0
  · obtain ⟨⟨k5, k9⟩, kE, kN⟩ := kZ h2
    have l5 : ¬ (ws.length : Int) < 5 := by omega
    have l9 : ¬ (9 : Int) < ws.length := by omega
    obtain ⟨bk, o, rfl⟩ : ∃ bk o, A = some ⟨bk, o, none⟩ := by
      obtain ⟨bk, o, h, _⟩ := strs_at HS.out (k := 0) (by omega)
      exact ⟨bk, o, h⟩
    obtain ⟨_, hc, _, hS2⟩ := strs_cut HS.out (by omega)
    have HS2 := Lib.hid hS2
    have h1l : 1 < ws.length := by omega
    have hx1 : ws.getD 1 [] = ws[1] := by rw [List.getD_eq_getElem?_getD, List.getElem?_eq_getElem h1l]; rfl
    have cN := Lib.hid (show ∀ W, Glob W → Calls Tryz.prog 12 #[.string ⟨(ws[1]'h1l).toArray⟩] W (fun e w' => e = .returned (.int .i64 0) ∧ Below W.heap.size W w') from fun W hW => by
      have h := name_any (ws[1]'h1l) W hW (Nat.le_trans (few_size HF.out _ (List.getElem_mem h1l)) (by decide))
      rw [show nameF (ws[1]'h1l) = true by rw [← hx1]; exact kN] at h
      exact h)
    have hc' : (ws.length : Int) ≤ c := by omega
    have h2c : ¬ c - 2 = 0 := by omega
    have hc2 : (2 : Int) ≤ c := by omega
    have hw2 : (2 : Int) ≤ ws.length := by omega
    have hl1 : (1 : Int) < ws.length := by omega
    rw [kE] at cE
    subst h2
    clear kR kL kZ kE kN h1 h3 hS2 hx1
    go_enter Tryz.func7, Tryz.ntmps7
    go_wp2_with fail
    refine (few_at ws _ c _ HS.out HF.out (strs_max HS.out)).mono ?_
    rintro q w0 ⟨rfl, rfl⟩
    go_wp2_with fail
    refine (cR.out w hG HS.out).mono ?_
    rintro q w1 ⟨rfl, hb1⟩
    simp only [ruleC]
    go_wp2_with fail
    obtain ⟨a1, ha1⟩ : ∃ a1, a1 = w1.alloc (.cells (ruleC R) 34) := ⟨_, rfl⟩
    have hB1 : Below w.heap.size w a1 := by rw [ha1]; exact hb1.alloc hb1.size _
    simp only [ruleC] at ha1
    rw [← ha1]
    clear ha1 hb1
    refine (cZ.out a1 (hG.below' hB1) (HS.out.below hB1)).mono ?_
    rintro q w2 ⟨rfl, hb2⟩
    have hB2' := hB1.trans (hb2.mono hB1.size)
    simp only [eraC]
    go_wp2_with fail
    obtain ⟨a2, ha2⟩ : ∃ a2, a2 = w2.alloc (.cells (eraC E) 40) := ⟨_, rfl⟩
    have hB2 : Below w.heap.size w a2 := by rw [ha2]; exact hB2'.alloc hB2'.size _
    simp only [eraC] at ha2
    rw [← ha2]
    clear ha2 hb2 hB2' hB1
    refine (cL.out a2 (hG.below' hB2) (HS.out.below hB2)).mono ?_
    rintro q w3 ⟨rfl, hb3⟩
    have hB3 := hB2.trans (hb3.mono hB2.size)
    clear hb3 hB2
    have hS3 := HS2.out.below hB3
    go_wp2_with fail
    obtain ⟨a3, ha3⟩ : ∃ a3, a3 = w3.alloc (.cells #[.string ⟨x.toArray⟩, .string ⟨y.toArray⟩] 46) := ⟨_, rfl⟩
    have hB4 : Below w.heap.size w a3 := by rw [ha3]; exact hB3.alloc hB3.size _
    rw [← ha3]
    clear ha3 hB3 hS3
    refine (cE.out _ a3 (hG.below' hB4) (HS2.out.below hB4)).mono ?_
    rintro q w5 ⟨rfl, hb5⟩
    have hB5 := hB4.trans (hb5.mono hB4.size)
    simp only [eraC]
    go_wp2_with fail
    obtain ⟨a5, ha5⟩ : ∃ a5, a5 = w5.alloc (.cells (eraC E) 40) := ⟨_, rfl⟩
    have hB6 : Below w.heap.size w a5 := by rw [ha5]; exact hB5.alloc hB5.size _
    have hz5 : a5.heap.size = w5.heap.size + 1 := by rw [ha5]; simp
    have H5 : Hid (a5.heap[w5.heap.size]? = some (.cells (eraC E) 40 (0, 0))) := Lib.hid (by rw [ha5]; exact World.alloc_heap_new _ _)
    simp only [eraC] at ha5
    rw [← ha5]
    clear ha5 hb5 hB5 hB4
    have HZ5 := Lib.hid hz5
    clear hz5
    refine (cZ.out a5 (hG.below' hB6) (HS.out.below hB6)).mono ?_
    rintro q w6 ⟨rfl, hb6⟩
    have hB7 := hB6.trans (hb6.mono hB6.size)
    have q5 := (hb6.block _ (by rw [HZ5.out]; omega)).trans H5.out
    have hs5 : w5.heap.size < w6.heap.size := (Array.getElem?_eq_some_iff.1 q5).1
    obtain ⟨⟨d0, d1, d2, d3, d4, d5, d6, d7, d8, d9, d10, d11⟩, g0⟩ := cells12 q5
    obtain ⟨bk', o', hbo, hbk, hcell⟩ := strs_at (HS.out.below hB7) (k := 1) h1l
    obtain ⟨rfl, rfl⟩ : bk' = bk ∧ o' = o := by
      injection hbo with e
      injection e with e1 e2
      exact ⟨e1.symm, e2.symm⟩
    clear hbo hb6 q5 g0
    have hB8 : Below w.heap.size w (w6.alloc (.cells (eraC E) 40)) := hB7.alloc hB7.size _
    simp only [eraC] at hB8 ⊢
    go_wp2_with fail
    refine (cN.out _ (hG.below' hB8)).mono ?_
    rintro q w7 ⟨rfl, hb7⟩
    have hB9 := hB8.trans (hb7.mono hB8.size)
    go_wp2_with fail
    refine (awake_any _ (hG.below' hB9)).mono ?_
    rintro q w8 ⟨rfl, hb8⟩
    go_wp2_with fail
    go_ret
    exact ⟨rfl, hB9.trans (hb8.mono hB9.size)⟩
  have n2 : (ez == 0) = false := beq_eq_false_iff_ne.2 h2
  clear kR kL kZ h1 h2 h3 cE
  go_enter Tryz.func7, Tryz.ntmps7
  go_wp2_with fail
  refine (few_at ws _ c _ HS.out HF.out (strs_max HS.out)).mono ?_
  rintro q w0 ⟨rfl, rfl⟩
  go_wp2_with fail
  refine (cR.out w hG HS.out).mono ?_
  rintro q w1 ⟨rfl, hb1⟩
  simp only [ruleC]
  go_wp2_with fail
  obtain ⟨a1, ha1⟩ : ∃ a1, a1 = w1.alloc (.cells (ruleC R) 34) := ⟨_, rfl⟩
  have hB1 : Below w.heap.size w a1 := by rw [ha1]; exact hb1.alloc hb1.size _
  simp only [ruleC] at ha1
  rw [← ha1]
  clear ha1 hb1
  refine (cZ.out a1 (hG.below' hB1) (HS.out.below hB1)).mono ?_
  rintro q w2 ⟨rfl, hb2⟩
  have hB2' := hB1.trans (hb2.mono hB1.size)
  simp only [eraC]
  go_wp2_with fail
  obtain ⟨a2, ha2⟩ : ∃ a2, a2 = w2.alloc (.cells (eraC E) 40) := ⟨_, rfl⟩
  have hB2 : Below w.heap.size w a2 := by rw [ha2]; exact hB2'.alloc hB2'.size _
  simp only [eraC] at ha2
  rw [← ha2]
  clear ha2 hb2 hB2' hB1
  refine (cL.out a2 (hG.below' hB2) (HS.out.below hB2)).mono ?_
  rintro q w3 ⟨rfl, hb3⟩
  have hB3 := hB2.trans (hb3.mono hB2.size)
  clear hb3 hB2
  go_wp2_with fail
  have hB4 : Below w.heap.size w (w3.alloc (.cells #[.string ⟨x.toArray⟩, .string ⟨y.toArray⟩] 46)) := hB3.alloc hB3.size _
  refine (awake_any _ (hG.below' hB4)).mono ?_
  rintro q w5 ⟨rfl, hb5⟩
  go_wp2_with fail
  go_ret
  exact ⟨rfl, hB4.trans (hb5.mono hB4.size)⟩

theorem apart_any (ws : List Bytes) (v : Value) (w : World) (hG : Glob w) (hS : Strs 0 w v ws) :
    Calls Tryz.prog 7 #[v] w (TrueBelow w) := by
  obtain ⟨A, c, rfl⟩ := strs_form hS
  cases hf : fewF ws with
  | true => exact apart_main ws A c w hG hS hf
  | false =>
    have hF := Lib.hid hf
    clear hf
    go_enter Tryz.func7, Tryz.ntmps7
    go_wp2_with fail
    refine (few_at ws _ c _ hS hF.out (strs_max hS)).mono ?_
    rintro q w0 ⟨rfl, rfl⟩
    go_wp2_with fail
    refine (awake_any _ hG).mono ?_
    rintro q w1 ⟨rfl, hb1⟩
    go_wp2_with fail
    go_ret
    exact ⟨rfl, hb1⟩

end Go.Proofs.YtgofleplmnibbaaGreatDoor
