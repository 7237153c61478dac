/-
  The references' check of formats, walked.
-/
import Derived.Test.YtgofleplmnibbaaGreatDoorRef9
import Derived.IntWalk
namespace Go.Proofs.YtgofleplmnibbaaGreatDoor
open Go.RowKit Go.Shelf Lex
attribute [local go_sem] ba_get ba_take ba_drop

theorem plain9_at {s : Bytes} {l m : Nat} {b : Bool} (h : refPlain s l m = b) (hs : s.length ≤ 100000) (w : World) :
    Calls Tryz.prog 35 #[.string ⟨s.toArray⟩, .int .i64 l, .int .i64 m] w fun e w' => e = .returned (.bool b) ∧ w' = w := by
  refine (plain9_any s l m w hs).mono ?_
  rintro e w' ⟨rfl, rfl⟩
  exact ⟨by rw [h], rfl⟩
theorem form_at {s : Bytes} {k : Nat} (hk : k < s.length) (h : formAt s k = true) : refForm s = true := by
  unfold refForm
  rw [show (List.range s.length).any (formAt s) = true from List.any_eq_true.2 ⟨k, List.mem_range.2 hk, h⟩, Bool.or_true]

set_option maxHeartbeats 4000000 in
set_option maxRecDepth 100000 in
theorem form9_any (s : Bytes) (w : World) (hs : s.length ≤ 50000) :
    Calls Tryz.prog 17 #[.string ⟨s.toArray⟩] w fun e w' => e = .returned (.bool (refForm s)) ∧ Below w.heap.size w w' := by
  by_cases hz : s = [37, 122]
  · subst hz
    go_enter Tryz.func17, Tryz.ntmps17
    go_wp2_with fail
    go_ret
    exact ⟨rfl, Below.refl _ _⟩
  have hzb : (s == [37, 122]) = false := beq_eq_false_iff_ne.2 hz
  cases hp : refPlain s 3 8 with
  | true =>
    have HF := Lib.hid (show refForm s = true by unfold refForm; rw [hp, Bool.or_true, Bool.true_or])
    have HP := Lib.hid hp
    clear hp hz
    go_enter Tryz.func17, Tryz.ntmps17
    go_wp2_with fail
    refine (plain9_at HP.out (by omega) _).mono ?_
    rintro e w1 ⟨rfl, rfl⟩
    go_wp2_with fail
    go_ret
    exact ⟨by rw [HF.out]; rfl, Below.refl _ _⟩
  | false =>
    have HV := Lib.hid (show refForm s = (List.range s.length).any (formAt s) by unfold refForm; rw [hzb, hp]; rfl)
    have HP := Lib.hid hp
    clear hp hz
    go_enter Tryz.func17, Tryz.ntmps17
    go_wp2_with fail
    refine (plain9_at HP.out (by omega) _).mono ?_
    rintro e w1 ⟨rfl, rfl⟩
    go_wp2_with fail
    clear hzb
    go_loopg [3] (s.length) (fun g i wx => Below w1.heap.size w1 wx ∧ ∃ k : Nat, k ≤ s.length ∧ s.length - k ≤ g ∧ i = .int .i64 k ∧ ∀ j, j < k → formAt s j = false)
    case atStart => exact ⟨Below.refl _ _, 0, by omega, by omega, rfl, fun j h => absurd h (Nat.not_lt_zero _)⟩
    case round =>
      obtain ⟨hbw, k, hk, hg, rfl, ha⟩ := hrel
      have HA := Lib.hid ha
      clear ha
      by_cases hlt : k < s.length
      · have hli : (k : Int) < s.length := by omega
        have W1 := Lib.hid (show IntKind.i64.wrap ((k : Int) + 1) = (k : Int) + 1 from IntWalk.i64_in _ (by omega))
        have W2 := Lib.hid (show IntKind.i64.wrap ((k : Int) + 2) = (k : Int) + 2 from IntWalk.i64_in _ (by omega))
        have T1 := Lib.hid (show ((k : Int) + 1).toNat = k + 1 by omega)
        have T2 := Lib.hid (show ((k : Int) + 2).toNat = k + 2 by omega)
        have Z1 := Lib.hid (show (0 : Int) ≤ (k : Int) + 1 by omega)
        have Z2 := Lib.hid (show (0 : Int) ≤ (k : Int) + 2 by omega)
        have Z3 := Lib.hid (show (0 : Int) ≤ (k : Int) by omega)
        have Z4 := Lib.hid (show (k : Int) ≤ s.length by omega)
        have HT := Lib.hid (show s[k]? = some s[k] from List.getElem?_eq_getElem hlt)
        have H1 := Lib.hid (show (s.take k).length ≤ 100000 by rw [List.length_take]; omega)
        have H2 := Lib.hid (show (s.drop (k + 1)).length ≤ 100000 by rw [List.length_drop]; omega)
        have HDONE : Hid (formAt s k = false → ∀ j, j < k + 1 → formAt s j = false) := Lib.hid (fun h j hj => by
          rcases Nat.lt_succ_iff_lt_or_eq.1 hj with h' | rfl
          · exact HA.out j h'
          · exact h)
        by_cases h47 : s[k].toNat = 47
        · have e47 : ((s[k].toNat : Int) == 47) = true := byte_is (n := 47) h47
          have e37 : ((s[k].toNat : Int) == 37) = false := byte_ne (n := 37) (by omega)
          have HS := Lib.hid (show s[k]? = some 47 by rw [HT.out, u8_of (d := 47) h47])
          have HK : Hid (formAt s k = (refPlain (s.take k) 3 8 && refPlain (s.drop (k + 1)) 3 8)) := Lib.hid (by unfold formAt slashAt pctAt; rw [HS.out]; simp)
          clear h47
          cases hp1 : refPlain (s.take k) 3 8 with
          | true =>
            have HP1 := Lib.hid hp1
            cases hp2 : refPlain (s.drop (k + 1)) 3 8 with
            | true =>
              have HP2 := Lib.hid hp2
              have HF := Lib.hid (form_at hlt (by rw [HK.out, hp1, hp2]; rfl))
              clear hp1 hp2
              go_wp2_with fail
              refine (plain9_at HP1.out H1.out _).mono ?_
              rintro e w2 ⟨rfl, rfl⟩
              go_wp2_with fail
              refine (plain9_at HP2.out H2.out _).mono ?_
              rintro e w3 ⟨rfl, rfl⟩
              go_wp2_with fail
              go_ret
              exact ⟨by rw [HF.out]; rfl, hbw⟩
            | false =>
              have HP2 := Lib.hid hp2
              have HN := Lib.hid (HDONE.out (by rw [HK.out, hp2, Bool.and_false]))
              clear hp1 hp2
              go_wp2_with fail
              refine (plain9_at HP1.out H1.out _).mono ?_
              rintro e w2 ⟨rfl, rfl⟩
              go_wp2_with fail
              refine (plain9_at HP2.out H2.out _).mono ?_
              rintro e w3 ⟨rfl, rfl⟩
              go_wp2_with fail
              have s1 := W1.out
              have t1 := T1.out
              have z1 := Z1.out
              go_quiet (fail)
              try clear s1 t1
              go_wp2_with fail
              go_roundg (s.length - (k + 1))
              case measure => omega
              case rel => exact ⟨below_drewN hbw _, k + 1, by omega, by omega, by go_num, HN.out⟩
          | false =>
            have HP1 := Lib.hid hp1
            have HN := Lib.hid (HDONE.out (by rw [HK.out, hp1]; rfl))
            clear hp1
            go_wp2_with fail
            refine (plain9_at HP1.out H1.out _).mono ?_
            rintro e w2 ⟨rfl, rfl⟩
            go_wp2_with fail
            have s1 := W1.out
            have t1 := T1.out
            have z1 := Z1.out
            go_quiet (fail)
            try clear s1 t1
            go_wp2_with fail
            go_roundg (s.length - (k + 1))
            case measure => omega
            case rel => exact ⟨below_drewN hbw _, k + 1, by omega, by omega, by go_num, HN.out⟩
        · have e47 : ((s[k].toNat : Int) == 47) = false := byte_ne (n := 47) h47
          have HNS := Lib.hid (show (s[k]? == some 47) = false by rw [HT.out, beq_eq_false_iff_ne]; intro h; exact h47 (by rw [Option.some.inj h]; rfl))
          by_cases h37 : s[k].toNat = 37
          · have e37 : ((s[k].toNat : Int) == 37) = true := byte_is (n := 37) h37
            have HS := Lib.hid (show s[k]? = some 37 by rw [HT.out, u8_of (d := 37) h37])
            have HK : Hid (formAt s k = (s[k + 1]? == some 115 && refPlain (s.take k ++ s.drop (k + 2)) 1 6)) := Lib.hid (by unfold formAt slashAt pctAt; rw [HNS.out, HS.out]; simp)
            clear h37 h47
            by_cases hn : k + 1 < s.length
            · have hni : (k : Int) + 1 < s.length := by omega
              have HT1 := Lib.hid (show s[k + 1]? = some s[k + 1] from List.getElem?_eq_getElem hn)
              by_cases h115 : s[k + 1].toNat = 115
              · have e115 : ((s[k + 1].toNat : Int) == 115) = true := byte_is (n := 115) h115
                have HK2 : Hid (formAt s k = refPlain (s.take k ++ s.drop (k + 2)) 1 6) := Lib.hid (by rw [HK.out, HT1.out, u8_of (d := 115) h115]; simp)
                have hadd := fun W => str_add (P := Tryz.prog) (s.take k) (s.drop (k + 2)) (by rw [List.length_take, List.length_drop]; omega) W
                have H3 := Lib.hid (show (s.take k ++ s.drop (k + 2)).length ≤ 100000 by rw [List.length_append, List.length_take, List.length_drop]; omega)
                have hk2 : (k : Int) + 2 ≤ s.length := by omega
                clear h115
                cases hp3 : refPlain (s.take k ++ s.drop (k + 2)) 1 6 with
                | true =>
                  have HP3 := Lib.hid hp3
                  have HF := Lib.hid (form_at hlt (by rw [HK2.out, hp3]))
                  clear hp3
                  go_wp2_with fail
                  have s1 := W1.out
                  have s2 := W2.out
                  have t1 := T1.out
                  have t2 := T2.out
                  have z1 := Z1.out
                  have z2 := Z2.out
                  have z3 := Z3.out
                  have z4 := Z4.out
                  go_quiet ((go_at_call 35; exact Calls.quiet_of_same (plain9_at HP3.out H3.out _)))
                  try clear s1 s2 t1 t2
                  go_wp2_with fail
                  go_ret
                  exact ⟨by rw [HF.out]; rfl, below_drewN hbw _⟩
                | false =>
                  have HP3 := Lib.hid hp3
                  have HN := Lib.hid (HDONE.out (by rw [HK2.out, hp3]))
                  clear hp3
                  go_wp2_with fail
                  have s1 := W1.out
                  have s2 := W2.out
                  have t1 := T1.out
                  have t2 := T2.out
                  have z1 := Z1.out
                  have z2 := Z2.out
                  have z3 := Z3.out
                  have z4 := Z4.out
                  go_quiet ((go_at_call 35; exact Calls.quiet_of_same (plain9_at HP3.out H3.out _)))
                  try clear s1 s2 t1 t2
                  go_wp2_with fail
                  go_roundg (s.length - (k + 1))
                  case measure => omega
                  case rel => exact ⟨below_drewN hbw _, k + 1, by omega, by omega, by go_num, HN.out⟩
              · have e115 : ((s[k + 1].toNat : Int) == 115) = false := byte_ne (n := 115) h115
                have HN := Lib.hid (HDONE.out (by rw [HK.out, HT1.out, show (some s[k + 1] == some (115 : UInt8)) = false by rw [beq_eq_false_iff_ne]; intro h; exact h115 (by rw [Option.some.inj h]; rfl)]; rfl))
                clear h115
                go_wp2_with fail
                have s1 := W1.out
                have t1 := T1.out
                have z1 := Z1.out
                go_quiet (fail)
                try clear s1 t1
                go_wp2_with fail
                go_roundg (s.length - (k + 1))
                case measure => omega
                case rel => exact ⟨below_drewN hbw _, k + 1, by omega, by omega, by go_num, HN.out⟩
            · have hni : ¬ (k : Int) + 1 < s.length := by omega
              have hnb : decide ((k : Int) + 1 < (s.length : Int)) = false := decide_eq_false hni
              have HN := Lib.hid (HDONE.out (by rw [HK.out, List.getElem?_eq_none (by omega)]; rfl))
              go_wp2_with fail
              have s1 := W1.out
              have t1 := T1.out
              have z1 := Z1.out
              go_quiet (fail)
              try clear s1 t1
              go_wp2_with fail
              go_roundg (s.length - (k + 1))
              case measure => omega
              case rel => exact ⟨below_drewN hbw _, k + 1, by omega, by omega, by go_num, HN.out⟩
          · have e37 : ((s[k].toNat : Int) == 37) = false := byte_ne (n := 37) h37
            have HN := Lib.hid (HDONE.out (by unfold formAt slashAt pctAt; rw [HNS.out, show (s[k]? == some 37) = false by rw [HT.out, beq_eq_false_iff_ne]; intro h; exact h37 (by rw [Option.some.inj h]; rfl)]; rfl))
            clear h37 h47
            go_wp2_with fail
            have s1 := W1.out
            have t1 := T1.out
            have z1 := Z1.out
            go_quiet (fail)
            try clear s1 t1
            go_wp2_with fail
            go_roundg (s.length - (k + 1))
            case measure => omega
            case rel => exact ⟨below_drewN hbw _, k + 1, by omega, by omega, by go_num, HN.out⟩
      · obtain rfl : k = s.length := by omega
        have HF := Lib.hid (show refForm s = false by
          rw [HV.out]
          exact List.any_eq_false.2 fun j hj => by rw [HA.out j (List.mem_range.1 hj)]; simp)
        go_wp2_with fail
        go_ret
        exact ⟨by rw [HF.out]; rfl, hbw⟩

end Go.Proofs.YtgofleplmnibbaaGreatDoor
