/-
  The references' checks of texts, walked: letter, digit, Plain, Name, SetName, Format.
-/
import Derived.Test.YtgofleplmnibbaaGreatDoorRefA
namespace Go.Proofs.YtgofleplmnibbaaGreatDoor
open Go.RowKit Go.Shelf Lex

theorem letter_at {c : UInt8} {b : Bool} (h : isLet c = b) (w : World) : Calls Tryz.prog 37 #[.int .u8 c.toNat] w fun e w' => e = .returned (.bool b) ∧ w = w' := by
  subst h
  have hr : (c.toNat < 65) ∨ (65 ≤ c.toNat ∧ c.toNat ≤ 90) ∨ (90 < c.toNat ∧ c.toNat < 97) ∨ (97 ≤ c.toNat ∧ c.toNat ≤ 122) ∨ (122 < c.toNat) := by omega
  rcases hr with hr | hr | hr | hr | hr
  · have a1 : ¬ (97 : Int) ≤ c.toNat := by omega
    have a2 : (c.toNat : Int) ≤ 122 := by omega
    have a3 : ¬ (65 : Int) ≤ c.toNat := by omega
    have a4 : (c.toNat : Int) ≤ 90 := by omega
    rw [show isLet c = false from by unfold isLet; rw [decide_eq_false (show ¬ (97 ≤ c.toNat ∧ c.toNat ≤ 122) from by omega), decide_eq_false (show ¬ (65 ≤ c.toNat ∧ c.toNat ≤ 90) from by omega)]; rfl]
    clear hr
    go_enter Tryz.func37, Tryz.ntmps37
    go_wp2_with fail
    go_ret
    exact ⟨rfl, rfl⟩
  · have a1 : ¬ (97 : Int) ≤ c.toNat := by omega
    have a2 : (c.toNat : Int) ≤ 122 := by omega
    have a3 : (65 : Int) ≤ c.toNat := by omega
    have a4 : (c.toNat : Int) ≤ 90 := by omega
    rw [show isLet c = true from by unfold isLet; rw [decide_eq_true (show 65 ≤ c.toNat ∧ c.toNat ≤ 90 from by omega), Bool.or_true]]
    clear hr
    go_enter Tryz.func37, Tryz.ntmps37
    go_wp2_with fail
    go_ret
    exact ⟨rfl, rfl⟩
  · have a1 : ¬ (97 : Int) ≤ c.toNat := by omega
    have a2 : (c.toNat : Int) ≤ 122 := by omega
    have a3 : (65 : Int) ≤ c.toNat := by omega
    have a4 : ¬ (c.toNat : Int) ≤ 90 := by omega
    rw [show isLet c = false from by unfold isLet; rw [decide_eq_false (show ¬ (97 ≤ c.toNat ∧ c.toNat ≤ 122) from by omega), decide_eq_false (show ¬ (65 ≤ c.toNat ∧ c.toNat ≤ 90) from by omega)]; rfl]
    clear hr
    go_enter Tryz.func37, Tryz.ntmps37
    go_wp2_with fail
    go_ret
    exact ⟨rfl, rfl⟩
  · have a1 : (97 : Int) ≤ c.toNat := by omega
    have a2 : (c.toNat : Int) ≤ 122 := by omega
    have a3 : (65 : Int) ≤ c.toNat := by omega
    have a4 : ¬ (c.toNat : Int) ≤ 90 := by omega
    rw [show isLet c = true from by unfold isLet; rw [decide_eq_true (show 97 ≤ c.toNat ∧ c.toNat ≤ 122 from by omega)]; rfl]
    clear hr
    go_enter Tryz.func37, Tryz.ntmps37
    go_wp2_with fail
    go_ret
    exact ⟨rfl, rfl⟩
  · have a1 : (97 : Int) ≤ c.toNat := by omega
    have a2 : ¬ (c.toNat : Int) ≤ 122 := by omega
    have a3 : (65 : Int) ≤ c.toNat := by omega
    have a4 : ¬ (c.toNat : Int) ≤ 90 := by omega
    rw [show isLet c = false from by unfold isLet; rw [decide_eq_false (show ¬ (97 ≤ c.toNat ∧ c.toNat ≤ 122) from by omega), decide_eq_false (show ¬ (65 ≤ c.toNat ∧ c.toNat ≤ 90) from by omega)]; rfl]
    clear hr
    go_enter Tryz.func37, Tryz.ntmps37
    go_wp2_with fail
    go_ret
    exact ⟨rfl, rfl⟩
theorem digit_at {c : UInt8} {b : Bool} (h : isDig c = b) (w : World) : Calls Tryz.prog 38 #[.int .u8 c.toNat] w fun e w' => e = .returned (.bool b) ∧ w = w' := by
  subst h
  have hr : (c.toNat < 48) ∨ (48 ≤ c.toNat ∧ c.toNat ≤ 57) ∨ (57 < c.toNat) := by omega
  rcases hr with hr | hr | hr
  · have a1 : ¬ (48 : Int) ≤ c.toNat := by omega
    have a2 : (c.toNat : Int) ≤ 57 := by omega
    rw [show isDig c = false from decide_eq_false (by omega)]
    clear hr
    go_enter Tryz.func38, Tryz.ntmps38
    go_wp2_with fail
    go_ret
    exact ⟨rfl, rfl⟩
  · have a1 : (48 : Int) ≤ c.toNat := by omega
    have a2 : (c.toNat : Int) ≤ 57 := by omega
    rw [show isDig c = true from decide_eq_true (by omega)]
    clear hr
    go_enter Tryz.func38, Tryz.ntmps38
    go_wp2_with fail
    go_ret
    exact ⟨rfl, rfl⟩
  · have a1 : (48 : Int) ≤ c.toNat := by omega
    have a2 : ¬ (c.toNat : Int) ≤ 57 := by omega
    rw [show isDig c = false from decide_eq_false (by omega)]
    clear hr
    go_enter Tryz.func38, Tryz.ntmps38
    go_wp2_with fail
    go_ret
    exact ⟨rfl, rfl⟩

theorem byte_ne {c : UInt8} {n : Nat} (h : c.toNat ≠ n) : ((c.toNat : Int) == (n : Int)) = false := by rw [beq_eq_false_iff_ne]; omega
theorem byte_is {c : UInt8} {n : Nat} (h : c.toNat = n) : ((c.toNat : Int) == (n : Int)) = true := by rw [beq_iff_eq]; omega
attribute [local go_sem] ba_get

set_option maxHeartbeats 2000000 in
set_option maxRecDepth 100000 in
theorem plain9_any (s : Bytes) (least most : Nat) (w : World) (hs : s.length ≤ 100000) :
    Calls Tryz.prog 35 #[.string ⟨s.toArray⟩, .int .i64 least, .int .i64 most] w fun e w' => e = .returned (.bool (refPlain s least most)) ∧ w = w' := by
  have HOUT : ∀ k (h : k < s.length), Hid (plainC s[k] = false) → Hid (refPlain s least most = false) := fun k h hc => Lib.hid (by
    unfold refPlain
    rw [show s.all plainC = false from List.all_eq_false.2 ⟨s[k], List.getElem_mem h, by rw [hc.out]; simp⟩]
    rfl)
  go_enter Tryz.func35, Tryz.ntmps35
  go_wp2_with fail
  go_loopg [7] (s.length) (fun g i wx => w = wx ∧ ∃ k : Nat, k ≤ s.length ∧ s.length - k ≤ g ∧ i = .int .i64 k ∧ (s.take k).all plainC = true)
  case atStart => exact ⟨rfl, 0, by omega, by omega, rfl, rfl⟩
  case round =>
    obtain ⟨rfl, k, hk, hg, rfl, ha⟩ := hrel
    have HA := Lib.hid ha
    clear ha
    by_cases hlt : k < s.length
    · have hli : (k : Int) < s.length := by omega
      cases hl : isLet s[k] with
      | true =>
        have HC := Lib.hid (show plainC s[k] = true by unfold plainC; rw [hl]; rfl)
        have HL := Lib.hid hl
        clear hl
        go_wp2_with fail
        refine (letter_at HL.out _).mono ?_
        rintro e w1 ⟨rfl, rfl⟩
        go_wp2_with fail
        go_roundg (s.length - (k + 1))
        case measure => omega
        case rel => exact ⟨rfl, k + 1, by omega, by omega, by go_num, by rw [List.take_succ_eq_append_getElem hlt, List.all_append, HA.out, List.all_cons, HC.out]; rfl⟩
      | false =>
        cases hd : isDig s[k] with
        | true =>
          have HC := Lib.hid (show plainC s[k] = true by unfold plainC; rw [hl, hd]; rfl)
          have HL := Lib.hid hl
          have HD := Lib.hid hd
          clear hl hd
          go_wp2_with fail
          refine (letter_at HL.out _).mono ?_
          rintro e w1 ⟨rfl, rfl⟩
          go_wp2_with fail
          refine (digit_at HD.out _).mono ?_
          rintro e w1 ⟨rfl, rfl⟩
          go_wp2_with fail
          go_roundg (s.length - (k + 1))
          case measure => omega
          case rel => exact ⟨rfl, k + 1, by omega, by omega, by go_num, by rw [List.take_succ_eq_append_getElem hlt, List.all_append, HA.out, List.all_cons, HC.out]; rfl⟩
        | false =>
          by_cases h43 : s[k].toNat = 43
          · have e43 : ((s[k].toNat : Int) == 43) = true := byte_is h43
            have n43 : ((s[k].toNat : Int) != 43) = false := by rw [bne, e43]; rfl
            have HC := Lib.hid (show plainC s[k] = true by have : s[k] = 43 := u8_of h43; rw [this]; rfl)
            have HL := Lib.hid hl
            have HD := Lib.hid hd
            clear hl hd h43
            go_wp2_with fail
            refine (letter_at HL.out _).mono ?_
            rintro e w1 ⟨rfl, rfl⟩
            go_wp2_with fail
            refine (digit_at HD.out _).mono ?_
            rintro e w1 ⟨rfl, rfl⟩
            go_wp2_with fail
            go_roundg (s.length - (k + 1))
            case measure => omega
            case rel => exact ⟨rfl, k + 1, by omega, by omega, by go_num, by rw [List.take_succ_eq_append_getElem hlt, List.all_append, HA.out, List.all_cons, HC.out]; rfl⟩
          · have e43 : ((s[k].toNat : Int) == 43) = false := byte_ne h43
            have n43 : ((s[k].toNat : Int) != 43) = true := by rw [bne, e43]; rfl
            by_cases h45 : s[k].toNat = 45
            · have e45 : ((s[k].toNat : Int) == 45) = true := byte_is h45
              have n45 : ((s[k].toNat : Int) != 45) = false := by rw [bne, e45]; rfl
              have HC := Lib.hid (show plainC s[k] = true by have : s[k] = 45 := u8_of h45; rw [this]; rfl)
              have HL := Lib.hid hl
              have HD := Lib.hid hd
              clear hl hd h45 h43
              go_wp2_with fail
              refine (letter_at HL.out _).mono ?_
              rintro e w1 ⟨rfl, rfl⟩
              go_wp2_with fail
              refine (digit_at HD.out _).mono ?_
              rintro e w1 ⟨rfl, rfl⟩
              go_wp2_with fail
              go_roundg (s.length - (k + 1))
              case measure => omega
              case rel => exact ⟨rfl, k + 1, by omega, by omega, by go_num, by rw [List.take_succ_eq_append_getElem hlt, List.all_append, HA.out, List.all_cons, HC.out]; rfl⟩
            · have e45 : ((s[k].toNat : Int) == 45) = false := byte_ne h45
              have n45 : ((s[k].toNat : Int) != 45) = true := by rw [bne, e45]; rfl
              have HC := Lib.hid (show plainC s[k] = false by unfold plainC; rw [hl, hd, show (s[k] == 43) = false from by rw [beq_eq_false_iff_ne]; intro h; exact h43 (by rw [h]; rfl), show (s[k] == 45) = false from by rw [beq_eq_false_iff_ne]; intro h; exact h45 (by rw [h]; rfl)]; rfl)
              have HL := Lib.hid hl
              have HD := Lib.hid hd
              clear hl hd h43 h45
              go_wp2_with fail
              refine (letter_at HL.out _).mono ?_
              rintro e w1 ⟨rfl, rfl⟩
              go_wp2_with fail
              refine (digit_at HD.out _).mono ?_
              rintro e w1 ⟨rfl, rfl⟩
              go_wp2_with fail
              have HF := HOUT k hlt HC
              go_ret
              exact ⟨by rw [HF.out]; rfl, rfl⟩
    · obtain rfl : k = s.length := by omega
      rw [List.take_length] at HA
      by_cases h1 : least ≤ s.length
      · have e1 : (least : Int) ≤ s.length := by omega
        by_cases h2 : s.length ≤ most
        · have e2 : (s.length : Int) ≤ most := by omega
          have HF := Lib.hid (show refPlain s least most = true by unfold refPlain; rw [HA.out, decide_eq_true h1, decide_eq_true h2]; rfl)
          clear h1 h2
          go_wp2_with fail
          go_ret
          exact ⟨by rw [HF.out]; rfl, rfl⟩
        · have e2 : ¬ (s.length : Int) ≤ most := by omega
          have HF := Lib.hid (show refPlain s least most = false by unfold refPlain; rw [decide_eq_false h2, Bool.and_false])
          clear h1 h2
          go_wp2_with fail
          go_ret
          exact ⟨by rw [HF.out]; rfl, rfl⟩
      · have e1 : ¬ (least : Int) ≤ s.length := by omega
        have HF := Lib.hid (show refPlain s least most = false by unfold refPlain; rw [decide_eq_false h1, Bool.and_false, Bool.false_and])
        clear h1
        go_wp2_with fail
        go_ret
        exact ⟨by rw [HF.out]; rfl, rfl⟩

set_option maxHeartbeats 2000000 in
set_option maxRecDepth 100000 in
theorem set9_any (s : Bytes) (w : World) (hs : s.length ≤ 100000) :
    Calls Tryz.prog 15 #[.string ⟨s.toArray⟩] w fun e w' => e = .returned (.bool (refSet s)) ∧ w = w' := by
  have ret : ∀ b : Bool, refSet s = b → Hid (refSet s = b) := fun b h => Lib.hid h
  by_cases h0 : s.length < 1
  · have HF := ret false (by cases s with | nil => rfl | cons c t => simp at h0)
    have e0 : (s.length : Int) < 1 := by omega
    clear h0
    go_enter Tryz.func15, Tryz.ntmps15
    go_wp2_with fail
    go_ret
    exact ⟨by rw [HF.out]; rfl, rfl⟩
  have e0 : ¬ (s.length : Int) < 1 := by omega
  by_cases h64 : 64 < s.length
  · have HF := ret false (by cases s with | nil => rfl | cons c t => show (decide ((c :: t).length ≤ 64) && headC c && (c :: t).all setC) = false; rw [decide_eq_false (by omega)]; rfl)
    have e64 : (64 : Int) < s.length := by omega
    clear h0 h64
    go_enter Tryz.func15, Tryz.ntmps15
    go_wp2_with fail
    go_ret
    exact ⟨by rw [HF.out]; rfl, rfl⟩
  have e64 : ¬ (64 : Int) < s.length := by omega
  have hp : 0 < s.length := by omega
  have hv : refSet s = (headC s[0] && s.all setC) := by
    cases s with
    | nil => simp at hp
    | cons c t => show (decide ((c :: t).length ≤ 64) && headC c && (c :: t).all setC) = _; rw [decide_eq_true (by omega)]; rfl
  have HV := Lib.hid hv
  clear hv
  have HOUT : ∀ k (h : k < s.length), Hid (setC s[k] = false) → Hid (refSet s = false) := fun k h hc => Lib.hid (by
    rw [HV.out, show s.all setC = false from List.all_eq_false.2 ⟨s[k], List.getElem_mem h, by rw [hc.out]; simp⟩, Bool.and_false])
  have loop : ∀ (H0 : Hid (headC s[0] = true)), True := fun _ => trivial
  cases hl0 : isLet s[0] with
  | false =>
    by_cases h95 : s[0].toNat = 95
    · have e95 : ((s[0].toNat : Int) == 95) = true := byte_is h95
      have n95 : ((s[0].toNat : Int) != 95) = false := by rw [bne, e95]; rfl
      have HH := Lib.hid (show headC s[0] = true by have : s[0] = 95 := u8_of h95; rw [this]; rfl)
      have HL0 := Lib.hid hl0
      clear hl0 h95 h0 h64 loop ret
      go_enter Tryz.func15, Tryz.ntmps15
      go_wp2_with fail
      refine (letter_at HL0.out _).mono ?_
      rintro e w1 ⟨rfl, rfl⟩
      go_wp2_with fail
      go_loopg [3] (s.length) (fun g i wx => w = wx ∧ ∃ k : Nat, k ≤ s.length ∧ s.length - k ≤ g ∧ i = .int .i64 k ∧ (s.take k).all setC = true)
      case atStart => exact ⟨rfl, 0, by omega, by omega, rfl, rfl⟩
      case round =>
        obtain ⟨rfl, k, hk, hg, rfl, ha⟩ := hrel
        have HA := Lib.hid ha
        clear ha
        by_cases hlt : k < s.length
        · have hli : (k : Int) < s.length := by omega
          cases hl : isLet s[k] with
          | true =>
            have HC := Lib.hid (show setC s[k] = true by unfold setC; rw [hl]; rfl)
            have HL := Lib.hid hl
            clear hl
            go_wp2_with fail
            refine (letter_at HL.out _).mono ?_
            rintro e w1 ⟨rfl, rfl⟩
            go_wp2_with fail
            go_roundg (s.length - (k + 1))
            case measure => omega
            case rel => exact ⟨rfl, k + 1, by omega, by omega, by go_num, by rw [List.take_succ_eq_append_getElem hlt, List.all_append, HA.out, List.all_cons, HC.out]; rfl⟩
          | false =>
            cases hd : isDig s[k] with
            | true =>
              have HC := Lib.hid (show setC s[k] = true by unfold setC; rw [hl, hd]; rfl)
              have HL := Lib.hid hl
              have HD := Lib.hid hd
              clear hl hd
              go_wp2_with fail
              refine (letter_at HL.out _).mono ?_
              rintro e w1 ⟨rfl, rfl⟩
              go_wp2_with fail
              refine (digit_at HD.out _).mono ?_
              rintro e w1 ⟨rfl, rfl⟩
              go_wp2_with fail
              go_roundg (s.length - (k + 1))
              case measure => omega
              case rel => exact ⟨rfl, k + 1, by omega, by omega, by go_num, by rw [List.take_succ_eq_append_getElem hlt, List.all_append, HA.out, List.all_cons, HC.out]; rfl⟩
            | false =>
              by_cases h95 : s[k].toNat = 95
              · have e95 : ((s[k].toNat : Int) == 95) = true := byte_is h95
                have n95 : ((s[k].toNat : Int) != 95) = false := by rw [bne, e95]; rfl
                have HC := Lib.hid (show setC s[k] = true by have : s[k] = 95 := u8_of h95; rw [this]; rfl)
                have HL := Lib.hid hl
                have HD := Lib.hid hd
                clear hl hd h95
                go_wp2_with fail
                refine (letter_at HL.out _).mono ?_
                rintro e w1 ⟨rfl, rfl⟩
                go_wp2_with fail
                refine (digit_at HD.out _).mono ?_
                rintro e w1 ⟨rfl, rfl⟩
                go_wp2_with fail
                go_roundg (s.length - (k + 1))
                case measure => omega
                case rel => exact ⟨rfl, k + 1, by omega, by omega, by go_num, by rw [List.take_succ_eq_append_getElem hlt, List.all_append, HA.out, List.all_cons, HC.out]; rfl⟩
              · have e95 : ((s[k].toNat : Int) == 95) = false := byte_ne h95
                have n95 : ((s[k].toNat : Int) != 95) = true := by rw [bne, e95]; rfl
                by_cases h45 : s[k].toNat = 45
                · have e45 : ((s[k].toNat : Int) == 45) = true := byte_is h45
                  have n45 : ((s[k].toNat : Int) != 45) = false := by rw [bne, e45]; rfl
                  have HC := Lib.hid (show setC s[k] = true by have : s[k] = 45 := u8_of h45; rw [this]; rfl)
                  have HL := Lib.hid hl
                  have HD := Lib.hid hd
                  clear hl hd h45 h95
                  go_wp2_with fail
                  refine (letter_at HL.out _).mono ?_
                  rintro e w1 ⟨rfl, rfl⟩
                  go_wp2_with fail
                  refine (digit_at HD.out _).mono ?_
                  rintro e w1 ⟨rfl, rfl⟩
                  go_wp2_with fail
                  go_roundg (s.length - (k + 1))
                  case measure => omega
                  case rel => exact ⟨rfl, k + 1, by omega, by omega, by go_num, by rw [List.take_succ_eq_append_getElem hlt, List.all_append, HA.out, List.all_cons, HC.out]; rfl⟩
                · have e45 : ((s[k].toNat : Int) == 45) = false := byte_ne h45
                  have n45 : ((s[k].toNat : Int) != 45) = true := by rw [bne, e45]; rfl
                  have HC := Lib.hid (show setC s[k] = false by unfold setC; rw [hl, hd, show (s[k] == 95) = false from by rw [beq_eq_false_iff_ne]; intro h; exact h95 (by rw [h]; rfl), show (s[k] == 45) = false from by rw [beq_eq_false_iff_ne]; intro h; exact h45 (by rw [h]; rfl)]; rfl)
                  have HL := Lib.hid hl
                  have HD := Lib.hid hd
                  clear hl hd h95 h45
                  go_wp2_with fail
                  refine (letter_at HL.out _).mono ?_
                  rintro e w1 ⟨rfl, rfl⟩
                  go_wp2_with fail
                  refine (digit_at HD.out _).mono ?_
                  rintro e w1 ⟨rfl, rfl⟩
                  go_wp2_with fail
                  have HF := HOUT k hlt HC
                  go_ret
                  exact ⟨by rw [HF.out]; rfl, rfl⟩
        · obtain rfl : k = s.length := by omega
          rw [List.take_length] at HA
          have HF := Lib.hid (show refSet s = true by rw [HV.out, HH.out, HA.out]; rfl)
          go_wp2_with fail
          go_ret
          exact ⟨by rw [HF.out]; rfl, rfl⟩
    · have e95 : ((s[0].toNat : Int) == 95) = false := byte_ne h95
      have n95 : ((s[0].toNat : Int) != 95) = true := by rw [bne, e95]; rfl
      have HF := ret false (by rw [HV.out]; unfold headC; rw [hl0, show (s[0] == 95) = false from by rw [beq_eq_false_iff_ne]; intro h; exact h95 (by rw [h]; rfl)]; rfl)
      have HL0 := Lib.hid hl0
      clear hl0 h95 h0 h64 loop ret
      go_enter Tryz.func15, Tryz.ntmps15
      go_wp2_with fail
      refine (letter_at HL0.out _).mono ?_
      rintro e w1 ⟨rfl, rfl⟩
      go_wp2_with fail
      go_ret
      exact ⟨by rw [HF.out]; rfl, rfl⟩
  | true =>
      have HH := Lib.hid (show headC s[0] = true by unfold headC; rw [hl0]; rfl)
      have HL0 := Lib.hid hl0
      clear hl0 h0 h64 loop ret
      go_enter Tryz.func15, Tryz.ntmps15
      go_wp2_with fail
      refine (letter_at HL0.out _).mono ?_
      rintro e w1 ⟨rfl, rfl⟩
      go_wp2_with fail
      go_loopg [3] (s.length) (fun g i wx => w = wx ∧ ∃ k : Nat, k ≤ s.length ∧ s.length - k ≤ g ∧ i = .int .i64 k ∧ (s.take k).all setC = true)
      case atStart => exact ⟨rfl, 0, by omega, by omega, rfl, rfl⟩
      case round =>
        obtain ⟨rfl, k, hk, hg, rfl, ha⟩ := hrel
        have HA := Lib.hid ha
        clear ha
        by_cases hlt : k < s.length
        · have hli : (k : Int) < s.length := by omega
          cases hl : isLet s[k] with
          | true =>
            have HC := Lib.hid (show setC s[k] = true by unfold setC; rw [hl]; rfl)
            have HL := Lib.hid hl
            clear hl
            go_wp2_with fail
            refine (letter_at HL.out _).mono ?_
            rintro e w1 ⟨rfl, rfl⟩
            go_wp2_with fail
            go_roundg (s.length - (k + 1))
            case measure => omega
            case rel => exact ⟨rfl, k + 1, by omega, by omega, by go_num, by rw [List.take_succ_eq_append_getElem hlt, List.all_append, HA.out, List.all_cons, HC.out]; rfl⟩
          | false =>
            cases hd : isDig s[k] with
            | true =>
              have HC := Lib.hid (show setC s[k] = true by unfold setC; rw [hl, hd]; rfl)
              have HL := Lib.hid hl
              have HD := Lib.hid hd
              clear hl hd
              go_wp2_with fail
              refine (letter_at HL.out _).mono ?_
              rintro e w1 ⟨rfl, rfl⟩
              go_wp2_with fail
              refine (digit_at HD.out _).mono ?_
              rintro e w1 ⟨rfl, rfl⟩
              go_wp2_with fail
              go_roundg (s.length - (k + 1))
              case measure => omega
              case rel => exact ⟨rfl, k + 1, by omega, by omega, by go_num, by rw [List.take_succ_eq_append_getElem hlt, List.all_append, HA.out, List.all_cons, HC.out]; rfl⟩
            | false =>
              by_cases h95 : s[k].toNat = 95
              · have e95 : ((s[k].toNat : Int) == 95) = true := byte_is h95
                have n95 : ((s[k].toNat : Int) != 95) = false := by rw [bne, e95]; rfl
                have HC := Lib.hid (show setC s[k] = true by have : s[k] = 95 := u8_of h95; rw [this]; rfl)
                have HL := Lib.hid hl
                have HD := Lib.hid hd
                clear hl hd h95
                go_wp2_with fail
                refine (letter_at HL.out _).mono ?_
                rintro e w1 ⟨rfl, rfl⟩
                go_wp2_with fail
                refine (digit_at HD.out _).mono ?_
                rintro e w1 ⟨rfl, rfl⟩
                go_wp2_with fail
                go_roundg (s.length - (k + 1))
                case measure => omega
                case rel => exact ⟨rfl, k + 1, by omega, by omega, by go_num, by rw [List.take_succ_eq_append_getElem hlt, List.all_append, HA.out, List.all_cons, HC.out]; rfl⟩
              · have e95 : ((s[k].toNat : Int) == 95) = false := byte_ne h95
                have n95 : ((s[k].toNat : Int) != 95) = true := by rw [bne, e95]; rfl
                by_cases h45 : s[k].toNat = 45
                · have e45 : ((s[k].toNat : Int) == 45) = true := byte_is h45
                  have n45 : ((s[k].toNat : Int) != 45) = false := by rw [bne, e45]; rfl
                  have HC := Lib.hid (show setC s[k] = true by have : s[k] = 45 := u8_of h45; rw [this]; rfl)
                  have HL := Lib.hid hl
                  have HD := Lib.hid hd
                  clear hl hd h45 h95
                  go_wp2_with fail
                  refine (letter_at HL.out _).mono ?_
                  rintro e w1 ⟨rfl, rfl⟩
                  go_wp2_with fail
                  refine (digit_at HD.out _).mono ?_
                  rintro e w1 ⟨rfl, rfl⟩
                  go_wp2_with fail
                  go_roundg (s.length - (k + 1))
                  case measure => omega
                  case rel => exact ⟨rfl, k + 1, by omega, by omega, by go_num, by rw [List.take_succ_eq_append_getElem hlt, List.all_append, HA.out, List.all_cons, HC.out]; rfl⟩
                · have e45 : ((s[k].toNat : Int) == 45) = false := byte_ne h45
                  have n45 : ((s[k].toNat : Int) != 45) = true := by rw [bne, e45]; rfl
                  have HC := Lib.hid (show setC s[k] = false by unfold setC; rw [hl, hd, show (s[k] == 95) = false from by rw [beq_eq_false_iff_ne]; intro h; exact h95 (by rw [h]; rfl), show (s[k] == 45) = false from by rw [beq_eq_false_iff_ne]; intro h; exact h45 (by rw [h]; rfl)]; rfl)
                  have HL := Lib.hid hl
                  have HD := Lib.hid hd
                  clear hl hd h95 h45
                  go_wp2_with fail
                  refine (letter_at HL.out _).mono ?_
                  rintro e w1 ⟨rfl, rfl⟩
                  go_wp2_with fail
                  refine (digit_at HD.out _).mono ?_
                  rintro e w1 ⟨rfl, rfl⟩
                  go_wp2_with fail
                  have HF := HOUT k hlt HC
                  go_ret
                  exact ⟨by rw [HF.out]; rfl, rfl⟩
        · obtain rfl : k = s.length := by omega
          rw [List.take_length] at HA
          have HF := Lib.hid (show refSet s = true by rw [HV.out, HH.out, HA.out]; rfl)
          go_wp2_with fail
          go_ret
          exact ⟨by rw [HF.out]; rfl, rfl⟩

theorem plain1_at {c : UInt8} {b : Bool} (h : plainC c = b) (w : World) :
    Calls Tryz.prog 35 #[.string ⟨#[c]⟩, .int .i64 1, .int .i64 1] w fun e w' => e = .returned (.bool b) ∧ w = w' := by
  refine (plain9_any [c] 1 1 w (by simp)).mono ?_
  rintro e w' ⟨rfl, rfl⟩
  refine ⟨?_, rfl⟩
  rw [← h]
  show Ending.returned (.bool (([c].all plainC && _) && _)) = _
  simp
theorem one_piece (s : Bytes) (k : Nat) (h : k < s.length) : (⟨s.toArray⟩ : ByteArray).extract k (k + 1) = ⟨#[s[k]]⟩ := by
  rw [ba_extract]
  apply ba_ext
  simp only
  rw [List.take_succ_eq_append_getElem h, List.drop_left' (by rw [List.length_take]; omega)]
theorem nameR_cons (f : Bool) (c : UInt8) (t : Bytes) : nameR f (c :: t) = if c == 47 then !f && nameR true t else !(c == 45 && f) && nameC c && nameR false t := rfl

set_option maxHeartbeats 4000000 in
set_option maxRecDepth 100000 in
theorem name9_any (s : Bytes) (w : World) (hs : s.length ≤ 100000) :
    Calls Tryz.prog 13 #[.string ⟨s.toArray⟩] w fun e w' => e = .returned (.bool (refName s)) ∧ w = w' := by
  by_cases h0 : s.length < 1
  · have HF := Lib.hid (show refName s = false by unfold refName; rw [decide_eq_false (by omega)]; rfl)
    have e0 : (s.length : Int) < 1 := by omega
    clear h0
    go_enter Tryz.func13, Tryz.ntmps13
    go_wp2_with fail
    go_ret
    exact ⟨by rw [HF.out]; rfl, rfl⟩
  have e0 : ¬ (s.length : Int) < 1 := by omega
  by_cases h64 : 64 < s.length
  · have HF := Lib.hid (show refName s = false by unfold refName; rw [decide_eq_false (show ¬ s.length ≤ 64 by omega), Bool.and_false, Bool.false_and])
    have e64 : (64 : Int) < s.length := by omega
    clear h0 h64
    go_enter Tryz.func13, Tryz.ntmps13
    go_wp2_with fail
    go_ret
    exact ⟨by rw [HF.out]; rfl, rfl⟩
  have e64 : ¬ (64 : Int) < s.length := by omega
  have HV := Lib.hid (show refName s = nameR true s by unfold refName; rw [decide_eq_true (by omega), decide_eq_true (by omega)]; rfl)
  clear h0 h64
  go_enter Tryz.func13, Tryz.ntmps13
  go_wp2_with fail
  go_loopg [3] (s.length) (fun g i wx => w = wx ∧ ∃ k : Nat, k ≤ s.length ∧ s.length - k ≤ g ∧ i = .int .i64 k ∧ ∃ f : Bool, nameR f (s.drop k) = nameR true s ∧ (f = true → (k = 0 ∨ s[k - 1]? = some 47) ∧ k < s.length) ∧ (f = false → k ≠ 0 ∧ s[k - 1]? ≠ some 47))
  case atStart => exact ⟨rfl, 0, by omega, by omega, rfl, true, rfl, fun _ => ⟨.inl rfl, by omega⟩, fun h => by cases h⟩
  case round =>
    obtain ⟨rfl, k, hk, hg, rfl, f, ha, hft, hff⟩ := hrel
    by_cases hlt : k < s.length
    · have hli : (k : Int) < s.length := by omega
      have HA := Lib.hid (show nameR f (s[k] :: s.drop (k + 1)) = nameR true s by rw [← List.drop_eq_getElem_cons hlt]; exact ha)
      have HFT := Lib.hid hft
      have HFF := Lib.hid hff
      have HP := Lib.hid (one_piece s k hlt)
      clear ha hft hff
      have hk0 : k = 0 ∨ ∃ j, k = j + 1 := by
        cases k with
        | zero => exact .inl rfl
        | succ j => exact .inr ⟨j, rfl⟩
      cases f with
      | true =>
        rcases hk0 with rfl | ⟨j, rfl⟩
        · clear HFT HFF
          by_cases h47 : s[0].toNat = 47
          · have e47 : ((s[0].toNat : Int) == 47) = true := byte_is h47
            have n47 : ((s[0].toNat : Int) != 47) = false := by rw [bne, e47]; rfl
            have e45 : ((s[0].toNat : Int) == 45) = false := byte_ne (n := 45) (by omega)
            have HC : Hid (s[0] = 47) := Lib.hid (u8_of h47)
            have HF := Lib.hid (show refName s = false by rw [HV.out, ← HA.out]; rw [HC.out]; rfl)
            clear h47
            go_wp2_with fail
            go_ret
            exact ⟨by rw [HF.out]; rfl, rfl⟩
          · have e47 : ((s[0].toNat : Int) == 47) = false := byte_ne h47
            have n47 : ((s[0].toNat : Int) != 47) = true := by rw [bne, e47]; rfl
            have H47 := Lib.hid (show (s[0] == 47) = false from by rw [beq_eq_false_iff_ne]; intro h; exact h47 (by rw [h]; rfl))
            by_cases h45 : s[0].toNat = 45
            · have e45 : ((s[0].toNat : Int) == 45) = true := byte_is h45
              have n95 : ((s[0].toNat : Int) != 95) = true := by rw [bne, show ((s[0].toNat : Int) == 95) = false from byte_ne (n := 95) (by omega)]; rfl
              have HC : Hid (s[0] = 45) := Lib.hid (u8_of h45)
              have HF := Lib.hid (show refName s = false by rw [HV.out, ← HA.out]; rw [HC.out]; rfl)
              clear h47 h45
              go_wp2_with fail
              go_ret
              exact ⟨by rw [HF.out]; rfl, rfl⟩
            · have e45 : ((s[0].toNat : Int) == 45) = false := byte_ne h45
              have H45 := Lib.hid (show (s[0] == 45) = false from by rw [beq_eq_false_iff_ne]; intro h; exact h45 (by rw [h]; rfl))
              by_cases h95 : s[0].toNat = 95
              · have n95 : ((s[0].toNat : Int) != 95) = false := by rw [bne, show ((s[0].toNat : Int) == 95) = true from byte_is (n := 95) h95]; rfl
                have HC : Hid (s[0] = 95) := Lib.hid (u8_of h95)
                have HN := Lib.hid (show nameR false (s.drop (0 + 1)) = nameR true s by rw [← HA.out]; rw [HC.out]; rfl)
                have HQ := Lib.hid (show s[0 + 1 - 1]? = some s[0] from List.getElem?_eq_getElem hlt)
                have HG := Lib.hid (show s[0] ≠ 47 from fun h => h47 (by rw [h]; rfl))
                clear h47 h45 h95
                go_wp2_with fail
                go_roundg (s.length - (0 + 1))
                case measure => omega
                case rel => exact ⟨rfl, 0 + 1, by omega, by omega, by go_num, false, HN.out, (fun h => by cases h), fun _ => ⟨by omega, by rw [HQ.out]; intro h; exact HG.out (Option.some.inj h)⟩⟩
              · have n95 : ((s[0].toNat : Int) != 95) = true := by rw [bne, show ((s[0].toNat : Int) == 95) = false from byte_ne (n := 95) h95]; rfl
                have H95 := Lib.hid (show (s[0] == 95) = false from by rw [beq_eq_false_iff_ne]; intro h; exact h95 (by rw [h]; rfl))
                cases hpl : plainC s[0] with
                | true =>
                  have HN := Lib.hid (show nameR false (s.drop (0 + 1)) = nameR true s by rw [← HA.out]; rw [nameR_cons, H47.out, H45.out]; unfold nameC; rw [hpl]; rfl)
                  have HQ := Lib.hid (show s[0 + 1 - 1]? = some s[0] from List.getElem?_eq_getElem hlt)
                  have HG := Lib.hid (show s[0] ≠ 47 from fun h => h47 (by rw [h]; rfl))
                  have HPL := Lib.hid (show plainC s[0] = true from hpl)
                  have hp := HP.out
                  clear h47 h45 h95 hpl
                  go_wp2_with fail
                  refine (plain1_at HPL.out _).mono ?_
                  rintro e w1 ⟨rfl, rfl⟩
                  clear hp
                  go_wp2_with fail
                  go_roundg (s.length - (0 + 1))
                  case measure => omega
                  case rel => exact ⟨rfl, 0 + 1, by omega, by omega, by go_num, false, HN.out, (fun h => by cases h), fun _ => ⟨by omega, by rw [HQ.out]; intro h; exact HG.out (Option.some.inj h)⟩⟩
                | false =>
                  have HF := Lib.hid (show refName s = false by rw [HV.out, ← HA.out]; rw [nameR_cons, H47.out, H45.out]; unfold nameC; rw [hpl, H95.out]; rfl)
                  have HPL := Lib.hid (show plainC s[0] = false from hpl)
                  have hp := HP.out
                  clear h47 h45 h95 hpl
                  go_wp2_with fail
                  refine (plain1_at HPL.out _).mono ?_
                  rintro e w1 ⟨rfl, rfl⟩
                  clear hp
                  go_wp2_with fail
                  go_ret
                  exact ⟨by rw [HF.out]; rfl, rfl⟩
        · have hjl : j < s.length := by omega
          have hj : s[j] = 47 := by
            rcases (HFT.out rfl).1 with h | h
            · omega
            · rw [Nat.add_sub_cancel, List.getElem?_eq_getElem hjl] at h; exact Option.some.inj h
          have ej : ((s[j].toNat : Int) == 47) = true := byte_is (n := 47) (by rw [hj]; rfl)
          clear HFT HFF hj
          by_cases h47 : s[(j + 1)].toNat = 47
          · have e47 : ((s[(j + 1)].toNat : Int) == 47) = true := byte_is h47
            have n47 : ((s[(j + 1)].toNat : Int) != 47) = false := by rw [bne, e47]; rfl
            have e45 : ((s[(j + 1)].toNat : Int) == 45) = false := byte_ne (n := 45) (by omega)
            have HC : Hid (s[(j + 1)] = 47) := Lib.hid (u8_of h47)
            have HF := Lib.hid (show refName s = false by rw [HV.out, ← HA.out]; rw [HC.out]; rfl)
            clear h47
            go_wp2_with fail
            go_ret
            exact ⟨by rw [HF.out]; rfl, rfl⟩
          · have e47 : ((s[(j + 1)].toNat : Int) == 47) = false := byte_ne h47
            have n47 : ((s[(j + 1)].toNat : Int) != 47) = true := by rw [bne, e47]; rfl
            have H47 := Lib.hid (show (s[(j + 1)] == 47) = false from by rw [beq_eq_false_iff_ne]; intro h; exact h47 (by rw [h]; rfl))
            by_cases h45 : s[(j + 1)].toNat = 45
            · have e45 : ((s[(j + 1)].toNat : Int) == 45) = true := byte_is h45
              have n95 : ((s[(j + 1)].toNat : Int) != 95) = true := by rw [bne, show ((s[(j + 1)].toNat : Int) == 95) = false from byte_ne (n := 95) (by omega)]; rfl
              have HC : Hid (s[(j + 1)] = 45) := Lib.hid (u8_of h45)
              have HF := Lib.hid (show refName s = false by rw [HV.out, ← HA.out]; rw [HC.out]; rfl)
              clear h47 h45
              go_wp2_with fail
              go_ret
              exact ⟨by rw [HF.out]; rfl, rfl⟩
            · have e45 : ((s[(j + 1)].toNat : Int) == 45) = false := byte_ne h45
              have H45 := Lib.hid (show (s[(j + 1)] == 45) = false from by rw [beq_eq_false_iff_ne]; intro h; exact h45 (by rw [h]; rfl))
              by_cases h95 : s[(j + 1)].toNat = 95
              · have n95 : ((s[(j + 1)].toNat : Int) != 95) = false := by rw [bne, show ((s[(j + 1)].toNat : Int) == 95) = true from byte_is (n := 95) h95]; rfl
                have HC : Hid (s[(j + 1)] = 95) := Lib.hid (u8_of h95)
                have HN := Lib.hid (show nameR false (s.drop ((j + 1) + 1)) = nameR true s by rw [← HA.out]; rw [HC.out]; rfl)
                have HQ := Lib.hid (show s[(j + 1) + 1 - 1]? = some s[(j + 1)] from List.getElem?_eq_getElem hlt)
                have HG := Lib.hid (show s[(j + 1)] ≠ 47 from fun h => h47 (by rw [h]; rfl))
                clear h47 h45 h95
                go_wp2_with fail
                go_roundg (s.length - ((j + 1) + 1))
                case measure => omega
                case rel => exact ⟨rfl, (j + 1) + 1, by omega, by omega, by go_num, false, HN.out, (fun h => by cases h), fun _ => ⟨by omega, by rw [HQ.out]; intro h; exact HG.out (Option.some.inj h)⟩⟩
              · have n95 : ((s[(j + 1)].toNat : Int) != 95) = true := by rw [bne, show ((s[(j + 1)].toNat : Int) == 95) = false from byte_ne (n := 95) h95]; rfl
                have H95 := Lib.hid (show (s[(j + 1)] == 95) = false from by rw [beq_eq_false_iff_ne]; intro h; exact h95 (by rw [h]; rfl))
                cases hpl : plainC s[(j + 1)] with
                | true =>
                  have HN := Lib.hid (show nameR false (s.drop ((j + 1) + 1)) = nameR true s by rw [← HA.out]; rw [nameR_cons, H47.out, H45.out]; unfold nameC; rw [hpl]; rfl)
                  have HQ := Lib.hid (show s[(j + 1) + 1 - 1]? = some s[(j + 1)] from List.getElem?_eq_getElem hlt)
                  have HG := Lib.hid (show s[(j + 1)] ≠ 47 from fun h => h47 (by rw [h]; rfl))
                  have HPL := Lib.hid (show plainC s[(j + 1)] = true from hpl)
                  have hp := HP.out
                  clear h47 h45 h95 hpl
                  go_wp2_with fail
                  refine (plain1_at HPL.out _).mono ?_
                  rintro e w1 ⟨rfl, rfl⟩
                  clear hp
                  go_wp2_with fail
                  go_roundg (s.length - ((j + 1) + 1))
                  case measure => omega
                  case rel => exact ⟨rfl, (j + 1) + 1, by omega, by omega, by go_num, false, HN.out, (fun h => by cases h), fun _ => ⟨by omega, by rw [HQ.out]; intro h; exact HG.out (Option.some.inj h)⟩⟩
                | false =>
                  have HF := Lib.hid (show refName s = false by rw [HV.out, ← HA.out]; rw [nameR_cons, H47.out, H45.out]; unfold nameC; rw [hpl, H95.out]; rfl)
                  have HPL := Lib.hid (show plainC s[(j + 1)] = false from hpl)
                  have hp := HP.out
                  clear h47 h45 h95 hpl
                  go_wp2_with fail
                  refine (plain1_at HPL.out _).mono ?_
                  rintro e w1 ⟨rfl, rfl⟩
                  clear hp
                  go_wp2_with fail
                  go_ret
                  exact ⟨by rw [HF.out]; rfl, rfl⟩
      | false =>
        rcases hk0 with rfl | ⟨j, rfl⟩
        · exact absurd rfl (HFF.out rfl).1
        · have hjl : j < s.length := by omega
          have ej : ((s[j].toNat : Int) == 47) = false := byte_ne (n := 47) (fun h => (HFF.out rfl).2 (by rw [Nat.add_sub_cancel, List.getElem?_eq_getElem hjl]; exact congrArg some (u8_of h)))
          clear HFT HFF
          by_cases h47 : s[(j + 1)].toNat = 47
          · have e47 : ((s[(j + 1)].toNat : Int) == 47) = true := byte_is h47
            have n47 : ((s[(j + 1)].toNat : Int) != 47) = false := by rw [bne, e47]; rfl
            have e45 : ((s[(j + 1)].toNat : Int) == 45) = false := byte_ne (n := 45) (by omega)
            have HC : Hid (s[(j + 1)] = 47) := Lib.hid (u8_of h47)
            by_cases hl : (j + 1) + 1 = s.length
            · have el : (((j : Int) + 1) == (s.length : Int) - 1) = true := by rw [beq_iff_eq]; omega
              have HL := Lib.hid hl
              have HF := Lib.hid (show refName s = false by rw [HV.out, ← HA.out]; rw [HC.out, List.drop_eq_nil_of_le (by omega)]; rfl)
              clear h47 hl
              go_wp2_with fail
              go_ret
              exact ⟨by rw [HF.out]; rfl, rfl⟩
            · have el : (((j : Int) + 1) == (s.length : Int) - 1) = false := by rw [beq_eq_false_iff_ne]; omega
              have HL := Lib.hid hl
              have HN := Lib.hid (show nameR true (s.drop ((j + 1) + 1)) = nameR true s by rw [← HA.out]; rw [HC.out]; rfl)
              have HQ := Lib.hid (show s[(j + 1) + 1 - 1]? = some s[(j + 1)] from List.getElem?_eq_getElem hlt)
              have HG := Lib.hid (show s[(j + 1)] = 47 from u8_of h47)
              clear h47 hl
              go_wp2_with fail
              go_roundg (s.length - ((j + 1) + 1))
              case measure => omega
              case rel => exact ⟨rfl, (j + 1) + 1, by omega, by omega, by go_num, true, HN.out, fun _ => ⟨.inr (by rw [HQ.out, HG.out]), by have := HL.out; omega⟩, fun h => by cases h⟩
          · have e47 : ((s[(j + 1)].toNat : Int) == 47) = false := byte_ne h47
            have n47 : ((s[(j + 1)].toNat : Int) != 47) = true := by rw [bne, e47]; rfl
            have H47 := Lib.hid (show (s[(j + 1)] == 47) = false from by rw [beq_eq_false_iff_ne]; intro h; exact h47 (by rw [h]; rfl))
            by_cases h45 : s[(j + 1)].toNat = 45
            · have e45 : ((s[(j + 1)].toNat : Int) == 45) = true := byte_is h45
              have n95 : ((s[(j + 1)].toNat : Int) != 95) = true := by rw [bne, show ((s[(j + 1)].toNat : Int) == 95) = false from byte_ne (n := 95) (by omega)]; rfl
              have HC : Hid (s[(j + 1)] = 45) := Lib.hid (u8_of h45)
              have HN := Lib.hid (show nameR false (s.drop ((j + 1) + 1)) = nameR true s by rw [← HA.out]; rw [HC.out]; rfl)
              have HQ := Lib.hid (show s[(j + 1) + 1 - 1]? = some s[(j + 1)] from List.getElem?_eq_getElem hlt)
              have HG := Lib.hid (show s[(j + 1)] ≠ 47 from fun h => h47 (by rw [h]; rfl))
              have HPL := Lib.hid (show plainC s[(j + 1)] = true from by rw [HC.out]; rfl)
              have hp := HP.out
              clear h47 h45
              go_wp2_with fail
              refine (plain1_at HPL.out _).mono ?_
              rintro e w1 ⟨rfl, rfl⟩
              clear hp
              go_wp2_with fail
              go_roundg (s.length - ((j + 1) + 1))
              case measure => omega
              case rel => exact ⟨rfl, (j + 1) + 1, by omega, by omega, by go_num, false, HN.out, (fun h => by cases h), fun _ => ⟨by omega, by rw [HQ.out]; intro h; exact HG.out (Option.some.inj h)⟩⟩
            · have e45 : ((s[(j + 1)].toNat : Int) == 45) = false := byte_ne h45
              have H45 := Lib.hid (show (s[(j + 1)] == 45) = false from by rw [beq_eq_false_iff_ne]; intro h; exact h45 (by rw [h]; rfl))
              by_cases h95 : s[(j + 1)].toNat = 95
              · have n95 : ((s[(j + 1)].toNat : Int) != 95) = false := by rw [bne, show ((s[(j + 1)].toNat : Int) == 95) = true from byte_is (n := 95) h95]; rfl
                have HC : Hid (s[(j + 1)] = 95) := Lib.hid (u8_of h95)
                have HN := Lib.hid (show nameR false (s.drop ((j + 1) + 1)) = nameR true s by rw [← HA.out]; rw [HC.out]; rfl)
                have HQ := Lib.hid (show s[(j + 1) + 1 - 1]? = some s[(j + 1)] from List.getElem?_eq_getElem hlt)
                have HG := Lib.hid (show s[(j + 1)] ≠ 47 from fun h => h47 (by rw [h]; rfl))
                clear h47 h45 h95
                go_wp2_with fail
                go_roundg (s.length - ((j + 1) + 1))
                case measure => omega
                case rel => exact ⟨rfl, (j + 1) + 1, by omega, by omega, by go_num, false, HN.out, (fun h => by cases h), fun _ => ⟨by omega, by rw [HQ.out]; intro h; exact HG.out (Option.some.inj h)⟩⟩
              · have n95 : ((s[(j + 1)].toNat : Int) != 95) = true := by rw [bne, show ((s[(j + 1)].toNat : Int) == 95) = false from byte_ne (n := 95) h95]; rfl
                have H95 := Lib.hid (show (s[(j + 1)] == 95) = false from by rw [beq_eq_false_iff_ne]; intro h; exact h95 (by rw [h]; rfl))
                cases hpl : plainC s[(j + 1)] with
                | true =>
                  have HN := Lib.hid (show nameR false (s.drop ((j + 1) + 1)) = nameR true s by rw [← HA.out]; rw [nameR_cons, H47.out, H45.out]; unfold nameC; rw [hpl]; rfl)
                  have HQ := Lib.hid (show s[(j + 1) + 1 - 1]? = some s[(j + 1)] from List.getElem?_eq_getElem hlt)
                  have HG := Lib.hid (show s[(j + 1)] ≠ 47 from fun h => h47 (by rw [h]; rfl))
                  have HPL := Lib.hid (show plainC s[(j + 1)] = true from hpl)
                  have hp := HP.out
                  clear h47 h45 h95 hpl
                  go_wp2_with fail
                  refine (plain1_at HPL.out _).mono ?_
                  rintro e w1 ⟨rfl, rfl⟩
                  clear hp
                  go_wp2_with fail
                  go_roundg (s.length - ((j + 1) + 1))
                  case measure => omega
                  case rel => exact ⟨rfl, (j + 1) + 1, by omega, by omega, by go_num, false, HN.out, (fun h => by cases h), fun _ => ⟨by omega, by rw [HQ.out]; intro h; exact HG.out (Option.some.inj h)⟩⟩
                | false =>
                  have HF := Lib.hid (show refName s = false by rw [HV.out, ← HA.out]; rw [nameR_cons, H47.out, H45.out]; unfold nameC; rw [hpl, H95.out]; rfl)
                  have HPL := Lib.hid (show plainC s[(j + 1)] = false from hpl)
                  have hp := HP.out
                  clear h47 h45 h95 hpl
                  go_wp2_with fail
                  refine (plain1_at HPL.out _).mono ?_
                  rintro e w1 ⟨rfl, rfl⟩
                  clear hp
                  go_wp2_with fail
                  go_ret
                  exact ⟨by rw [HF.out]; rfl, rfl⟩
    · obtain rfl : k = s.length := by omega
      have HF := Lib.hid (show refName s = true by
        rw [HV.out, ← ha, List.drop_length]
        cases f with
        | false => rfl
        | true => exact absurd (hft rfl).2 (by omega))
      clear ha hft hff
      go_wp2_with fail
      go_ret
      exact ⟨by rw [HF.out]; rfl, rfl⟩

end Go.Proofs.YtgofleplmnibbaaGreatDoor
