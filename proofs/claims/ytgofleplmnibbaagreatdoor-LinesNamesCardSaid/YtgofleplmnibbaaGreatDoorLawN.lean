/-
  The law LinesNames: which names, and formats, may be.
-/
import Derived.Test.YtgofleplmnibbaaGreatDoorLaws
import Derived.Test.YtgofleplmnibbaaGreatDoorRef9b
namespace Go.Proofs.YtgofleplmnibbaaGreatDoor
open Go.RowKit Go.Shelf Lex

theorem name9_at {s : Bytes} (hs : s.length ≤ 100000) (w : World) :
    Calls Tryz.prog 13 #[.string ⟨s.toArray⟩] w fun e w' => e = .returned (.bool (nameF s)) ∧ w = w' := by
  rw [refName_eq]; exact name9_any s w hs
theorem set9_at {s : Bytes} (hs : s.length ≤ 100000) (w : World) :
    Calls Tryz.prog 15 #[.string ⟨s.toArray⟩] w fun e w' => e = .returned (.bool (setNameF s)) ∧ w = w' := by
  rw [refSet_eq]; exact set9_any s w hs
theorem form9_at {s : Bytes} (hs : s.length ≤ 50000) (w : World) :
    Calls Tryz.prog 17 #[.string ⟨s.toArray⟩] w fun e w' => e = .returned (.bool (formatF s)) ∧ Below w.heap.size w w' := by
  rw [refForm_eq]; exact form9_any s w hs
set_option maxHeartbeats 2000000 in
set_option maxRecDepth 100000 in
theorem names_any (s : Bytes) (w : World) (hG : Glob w) :
    Calls Tryz.prog 3 #[.string ⟨s.toArray⟩] w (TrueBelow w) := by
  by_cases h100 : 100 < s.length
  · have e100 : (100 : Int) < s.length := by omega
    go_enter Tryz.func3, Tryz.ntmps3
    go_wp2_with fail
    refine (awake_any _ hG).mono ?_
    rintro e w1 ⟨rfl, hb1⟩
    go_wp2_with fail
    go_ret
    exact ⟨rfl, hb1⟩
  · have e100 : ¬ (100 : Int) < s.length := by omega
    have cN := Lib.hid (fun (W : World) (hW : Glob W) => name_any s W hW (by omega))
    have cS := Lib.hid (fun (W : World) (hW : Glob W) => setName_any s W hW (by omega))
    have cF := Lib.hid (fun (W : World) (hW : Glob W) => format_any s W hW (by omega))
    have rN := Lib.hid (fun (W : World) => name9_at (s := s) (by omega) W)
    have rS := Lib.hid (fun (W : World) => set9_at (s := s) (by omega) W)
    have rF := Lib.hid (fun (W : World) => form9_at (s := s) (by omega) W)
    clear h100
    generalize nameF s = bN at *
    generalize setNameF s = bS at *
    generalize formatF s = bF at *
    cases bN <;> cases bS <;> cases bF
    all_goals
      go_enter Tryz.func3, Tryz.ntmps3
      go_wp2_with fail
      refine (cN.out w hG).mono ?_
      rintro e w1 ⟨rfl, hb1⟩
      have hG1 := hG.below' hb1
      go_wp2_with fail
      refine (rN.out _).mono ?_
      rintro e w2 ⟨rfl, rfl⟩
      go_wp2_with fail
      refine (is_at (b := true) (by decide) _).mono ?_
      rintro e w2 ⟨rfl, rfl⟩
      go_wp2_with fail
      refine (cS.out w1 hG1).mono ?_
      rintro e w2 ⟨rfl, hb2⟩
      have hB2 := hb1.trans (hb2.mono hb1.size)
      have hG2 := hG1.below' hb2
      go_wp2_with fail
      refine (rS.out _).mono ?_
      rintro e w3 ⟨rfl, rfl⟩
      go_wp2_with fail
      refine (is_at (b := true) (by decide) _).mono ?_
      rintro e w3 ⟨rfl, rfl⟩
      go_wp2_with fail
      refine (cF.out w2 hG2).mono ?_
      rintro e w3 ⟨rfl, hb3⟩
      have hB3 := hB2.trans (hb3.mono hB2.size)
      have hG3 := hG2.below' hb3
      go_wp2_with fail
      refine (rF.out _).mono ?_
      rintro e w4 ⟨rfl, hb4⟩
      have hB4 := hB3.trans (hb4.mono hB3.size)
      have hG4 := hG3.below' hb4
      go_wp2_with fail
      refine (is_at (b := true) (by decide) _).mono ?_
      rintro e w5 ⟨rfl, rfl⟩
      go_wp2_with fail
      refine (awake_any _ hG4).mono ?_
      rintro e w5 ⟨rfl, hb5⟩
      go_wp2_with fail
      go_ret
      exact ⟨rfl, hB4.trans (hb5.mono hB4.size)⟩

end Go.Proofs.YtgofleplmnibbaaGreatDoor
