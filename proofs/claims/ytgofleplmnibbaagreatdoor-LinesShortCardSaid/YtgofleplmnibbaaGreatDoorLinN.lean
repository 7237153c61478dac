/-
  dayform.number, dayform.sign.
-/
import Derived.Test.YtgofleplmnibbaaGreatDoorLinI
namespace Go.Proofs.YtgofleplmnibbaaGreatDoor.Lex

def numDay (x : Bytes) : Int × Int := match canonF x with
  | none => (0, 12)
  | some n => if n < 1 ∨ 2 < x.length then (0, 12) else if 31 < n then (0, 10) else (n, 0)
def idxG (x : Bytes) : Int := Lib.index x [62, 61]
def idxL (x : Bytes) : Int := Lib.index x [60, 61]
def sign3 (x : Bytes) : Int × Int := if 0 ≤ idxG x then (idxG x, 2) else (-1, 0)
/-- Where the first sign is, and which kind it tells. -/
def signN (x : Bytes) : Int × Int := if 0 ≤ idxL x ∧ ((sign3 x).1 < 0 ∨ idxL x < (sign3 x).1) then (idxL x, 3) else sign3 x
def signAt (x : Bytes) (k : Nat) : Int × Int := if k ≤ 2 then (-1, 0) else if k = 3 then sign3 x else signN x

end Go.Proofs.YtgofleplmnibbaaGreatDoor.Lex
namespace Go.Proofs.YtgofleplmnibbaaGreatDoor
open Go.RowKit Go.Shelf Lex

set_option maxHeartbeats 2000000 in
set_option maxRecDepth 100000 in
theorem dayNumber_any (x : Bytes) (w : World) (hG : Glob w) (hx : x.length ≤ 100000) :
    Calls Tryz.prog 101 #[.string ⟨x.toArray⟩] w fun e w' => e = .returned (.tuple #[.int .i64 (numDay x).1, .int .i64 (numDay x).2]) ∧ Below w.heap.size w w' := by
  obtain ⟨r, HR⟩ : ∃ r, Hid (numDay x = r) := ⟨_, Lib.hid rfl⟩
  rw [HR.out]
  by_cases hok : ∃ n, Lib.atoiAll x = .ok n
  · obtain ⟨n, hn⟩ := hok
    have hbd := atoi_bounds hn
    by_cases hi : Lib.itoa n = x
    · have hc : canonF x = some n := by unfold canonF; rw [hn]; simp only; rw [if_pos hi]
      have H3 : Hid (r = if n < 1 ∨ 2 < x.length then (0, 12) else if 31 < n then (0, 10) else (n, 0)) := Lib.hid (by rw [← HR.out]; unfold numDay; rw [hc])
      have HN := Lib.hid hn
      have HI := Lib.hid hi
      clear HR hc hn hi
      have hib : (Lib.itoa n == x) = true := by rw [HI.out]; simp
      by_cases ha : n < 1
      · have H5 : Hid (r = (0, 12)) := Lib.hid (by rw [H3.out, if_pos (.inl ha)])
        go_enter Tryz.func101, Tryz.ntmps101
        go_wp2_with fail
        refine (atoi_ok w hx HN.out).mono ?_
        rintro e w2 ⟨rfl, hb2⟩
        go_wp2_with fail
        go_ret2
        exact ⟨by rw [H5.out]; simp, hb2⟩
      · by_cases h2 : 2 < x.length
        · have H5 : Hid (r = (0, 12)) := Lib.hid (by rw [H3.out, if_pos (.inr h2)])
          have h2' : (2 : Int) < x.length := by omega
          go_enter Tryz.func101, Tryz.ntmps101
          go_wp2_with fail
          refine (atoi_ok w hx HN.out).mono ?_
          rintro e w2 ⟨rfl, hb2⟩
          go_wp2_with fail
          go_ret2
          exact ⟨by rw [H5.out]; simp, hb2⟩
        · have h2' : ¬ (2 : Int) < x.length := by omega
          have H4 : Hid (r = if 31 < n then (0, 10) else (n, 0)) := Lib.hid (by rw [H3.out, if_neg (by omega)])
          by_cases h31 : 31 < n
          · have H5 : Hid (r = (0, 10)) := Lib.hid (by rw [H4.out, if_pos h31])
            go_enter Tryz.func101, Tryz.ntmps101
            go_wp2_with fail
            refine (atoi_ok w hx HN.out).mono ?_
            rintro e w2 ⟨rfl, hb2⟩
            have hG2 := hG.below' hb2
            go_wp2_with fail
            refine (itoa_any n w2 hG2 hbd.1 hbd.2).mono ?_
            rintro e w3 ⟨rfl, hb3⟩
            rw [HI.out]
            have hB3 := hb2.trans (hb3.mono hb2.size)
            clear hb3
            go_wp2_with fail
            go_ret2
            exact ⟨by rw [H5.out]; simp, hB3⟩
          · have H5 : Hid (r = (n, 0)) := Lib.hid (by rw [H4.out, if_neg h31])
            go_enter Tryz.func101, Tryz.ntmps101
            go_wp2_with fail
            refine (atoi_ok w hx HN.out).mono ?_
            rintro e w2 ⟨rfl, hb2⟩
            have hG2 := hG.below' hb2
            go_wp2_with fail
            refine (itoa_any n w2 hG2 hbd.1 hbd.2).mono ?_
            rintro e w3 ⟨rfl, hb3⟩
            rw [HI.out]
            have hB3 := hb2.trans (hb3.mono hb2.size)
            clear hb3
            go_wp2_with fail
            go_ret2
            exact ⟨by rw [H5.out]; simp, hB3⟩
    · have hc : canonF x = none := by unfold canonF; rw [hn]; simp only; rw [if_neg hi]
      have H3 : Hid (r = (0, 12)) := Lib.hid (by rw [← HR.out]; unfold numDay; rw [hc])
      have HN := Lib.hid hn
      have hib : (Lib.itoa n == x) = false := by rw [beq_eq_false_iff_ne]; exact hi
      generalize hit : Lib.itoa n = it at *
      have HI := Lib.hid hit
      clear HR hc hn hi hit
      by_cases ha : n < 1
      · go_enter Tryz.func101, Tryz.ntmps101
        go_wp2_with fail
        refine (atoi_ok w hx HN.out).mono ?_
        rintro e w2 ⟨rfl, hb2⟩
        go_wp2_with fail
        go_ret2
        exact ⟨by rw [H3.out]; simp, hb2⟩
      · by_cases h2 : 2 < x.length
        · have h2' : (2 : Int) < x.length := by omega
          go_enter Tryz.func101, Tryz.ntmps101
          go_wp2_with fail
          refine (atoi_ok w hx HN.out).mono ?_
          rintro e w2 ⟨rfl, hb2⟩
          go_wp2_with fail
          go_ret2
          exact ⟨by rw [H3.out]; simp, hb2⟩
        · have h2' : ¬ (2 : Int) < x.length := by omega
          go_enter Tryz.func101, Tryz.ntmps101
          go_wp2_with fail
          refine (atoi_ok w hx HN.out).mono ?_
          rintro e w2 ⟨rfl, hb2⟩
          have hG2 := hG.below' hb2
          go_wp2_with fail
          refine (itoa_any n w2 hG2 hbd.1 hbd.2).mono ?_
          rintro e w3 ⟨rfl, hb3⟩
          rw [HI.out]
          have hB3 := hb2.trans (hb3.mono hb2.size)
          clear hb3
          go_wp2_with fail
          go_ret2
          exact ⟨by rw [H3.out]; simp, hB3⟩
  · have hno : ∀ n, Lib.atoiAll x ≠ .ok n := fun n h => hok ⟨n, h⟩
    have hc : canonF x = none := by
      unfold canonF
      split
      · rename_i n h; exact absurd h (hno n)
      · rfl
    have H3 : Hid (r = (0, 12)) := Lib.hid (by rw [← HR.out]; unfold numDay; rw [hc])
    have HNO := Lib.hid hno
    clear HR hc hno hok
    go_enter Tryz.func101, Tryz.ntmps101
    go_wp2_with fail
    refine (atoi_bad w hG hx HNO.out).mono ?_
    rintro e w2 ⟨⟨m, t, p, rfl⟩, hb2⟩
    go_wp2_with fail
    go_ret2
    exact ⟨by rw [H3.out]; simp, hb2⟩

/-- An array's element, as a value. -/
theorem run_index_arr {P : Program} {t e : TypeId} {n : Nat} (h1 : ∀ w, (underlying t).run P w = .ok (.array n e) w) (h2 : ∀ w, (sizeOf e).run P w = .ok 1 w) (h3 : ∀ w, (isAgg e).run P w = .ok false w) (vs : Array Value) (k : IntKind) (i : Nat) (v : Value) (w : World) (hv : vs[i]? = some v) (hn : i < n) :
    (Instr.index t (.agg vs) (.int k i)).run P w = .ok v w := by
  simp [Instr.index, Sem.run_bind, h1, h2, h3, hv, hn, go_sem]
theorem index_signs (j : Int) (i : Nat) (x : Bytes) (w : World) (hj : j = i) (h : signNames[i]? = some x) :
    (Instr.index 125 (.agg #[.string ⟨#[]⟩, .string ⟨#[]⟩, .string ⟨#[62, 61]⟩, .string ⟨#[60, 61]⟩]) (.int .i64 j)).run Tryz.prog w = .ok (.string ⟨x.toArray⟩) w :=
  have hl : i < 4 := (List.getElem?_eq_some_iff.1 h).1
  hj ▸   run_index_arr (fun w => by simp [go_sem]) (Tryz.sizeOf9) (Tryz.isAgg9) _ _ _ _ w (by
    obtain rfl | rfl | rfl | rfl : i = 0 ∨ i = 1 ∨ i = 2 ∨ i = 3 := by omega
    all_goals (cases h; rfl)) hl
theorem indexAny (s sub : Bytes) (w : World) (hG : Glob w) (hs : s.length ≤ 100000) : Calls Tryz.prog 111 #[.string ⟨s.toArray⟩, .string ⟨sub.toArray⟩] w fun e w' => e = .returned (.int .i64 (Lib.index s sub)) ∧ w = w' := by
  obtain ⟨m, hm⟩ := hG.facts.maxLen
  refine (Tryz.strings_Index ⟨s.toArray⟩ ⟨sub.toArray⟩ m w (by rw [size_mk]; omega) hm).mono ?_
  rintro e w' ⟨rfl, rfl⟩
  exact ⟨rfl, rfl⟩

set_option maxHeartbeats 2000000 in
set_option maxRecDepth 100000 in
theorem sign_any (x : Bytes) (w : World) (hG : Glob w) (hx : x.length ≤ 100000) :
    Calls Tryz.prog 99 #[.string ⟨x.toArray⟩] w fun e w' => e = .returned (.tuple #[.int .i64 (signN x).1, .int .i64 (signN x).2]) ∧ w = w' := by
  have hl := hG.facts.signs
  have s0 := hl 0 _ rfl
  have s1 := hl 1 _ rfl
  have s2 := hl 2 _ rfl
  have s3 := hl 3 _ rfl
  clear hl
  have i0 := Lib.hid (indexAny x [] w hG hx)
  have i2 := Lib.hid (indexAny x [62, 61] w hG hx)
  have i3 := Lib.hid (indexAny x [60, 61] w hG hx)
  have H3 := Lib.hid (show sign3 x = if 0 ≤ idxG x then (idxG x, 2) else (-1, 0) from rfl)
  have H4 := Lib.hid (show signN x = if 0 ≤ idxL x ∧ ((sign3 x).1 < 0 ∨ idxL x < (sign3 x).1) then (idxL x, 3) else sign3 x from rfl)
  have i2' : Hid (Calls Tryz.prog 111 #[.string ⟨x.toArray⟩, .string ⟨#[62, 61]⟩] w fun e w' => e = .returned (.int .i64 (idxG x)) ∧ w = w') := Lib.hid i2.out
  have i3' : Hid (Calls Tryz.prog 111 #[.string ⟨x.toArray⟩, .string ⟨#[60, 61]⟩] w fun e w' => e = .returned (.int .i64 (idxL x)) ∧ w = w') := Lib.hid i3.out
  clear i2 i3
  go_enter Tryz.func99, Tryz.ntmps99
  go_wp2_with fail
  go_loopg [2, 3, 8] 4 (fun g a b i wr => ∃ k : Nat, k ≤ 4 ∧ 4 - k ≤ g ∧ i = .int .i64 k ∧ a = .int .i64 (signAt x k).1 ∧ b = .int .i64 (signAt x k).2 ∧ w = wr)
  case atStart => exact ⟨0, by omega, by omega, rfl, rfl, rfl, rfl⟩
  case round =>
    obtain ⟨k, hk, hg, rfl, rfl, rfl, rfl⟩ := hrel
    have h4 : k = 0 ∨ k = 1 ∨ k = 2 ∨ k = 3 ∨ k = 4 := by omega
    clear hk
    rcases h4 with rfl | rfl | rfl | rfl | rfl
    · have e1 : signAt x 0 = (-1, 0) := rfl
      have ix := fun W => index_signs 0 0 [] W rfl rfl
      go_wp2_with fail
      refine i0.out.mono ?_
      rintro e w1 ⟨rfl, rfl⟩
      go_wp2_with fail
      go_roundg 3
      case measure => omega
      case rel => exact ⟨1, by omega, by omega, rfl, rfl, rfl, rfl⟩
    · have e1 : signAt x 1 = (-1, 0) := rfl
      have ix := fun W => index_signs 1 1 [] W rfl rfl
      go_wp2_with fail
      refine i0.out.mono ?_
      rintro e w1 ⟨rfl, rfl⟩
      go_wp2_with fail
      go_roundg 2
      case measure => omega
      case rel => exact ⟨2, by omega, by omega, rfl, rfl, rfl, rfl⟩
    · have e1 : signAt x 2 = (-1, 0) := rfl
      have ix := fun W => index_signs 2 2 [62, 61] W rfl rfl
      generalize idxG x = g2 at *
      by_cases hp : 0 ≤ g2
      · have H5 : Hid (signAt x 3 = (g2, 2)) := Lib.hid (by show sign3 x = _; rw [H3.out, if_pos hp])
        go_wp2_with fail
        refine i2'.out.mono ?_
        rintro e w1 ⟨rfl, rfl⟩
        go_wp2_with fail
        go_roundg 1
        case measure => omega
        case rel => exact ⟨3, by omega, by omega, rfl, by rw [H5.out], by rw [H5.out], rfl⟩
      · have H5 : Hid (signAt x 3 = (-1, 0)) := Lib.hid (by show sign3 x = _; rw [H3.out, if_neg hp])
        go_wp2_with fail
        refine i2'.out.mono ?_
        rintro e w1 ⟨rfl, rfl⟩
        go_wp2_with fail
        go_roundg 1
        case measure => omega
        case rel => exact ⟨3, by omega, by omega, rfl, by rw [H5.out], by rw [H5.out], rfl⟩
    · have e1 : signAt x 3 = sign3 x := rfl
      have ix := fun W => index_signs 3 3 [60, 61] W rfl rfl
      generalize idxL x = g3 at *
      generalize sign3 x = s3v at *
      obtain ⟨a, b⟩ := s3v
      by_cases hp : 0 ≤ g3
      · by_cases ha : a < 0
        · have H5 : Hid (signAt x 4 = (g3, 3)) := Lib.hid (by show signN x = _; rw [H4.out, if_pos ⟨hp, .inl ha⟩])
          go_wp2_with fail
          refine i3'.out.mono ?_
          rintro e w1 ⟨rfl, rfl⟩
          go_wp2_with fail
          go_roundg 0
          case measure => omega
          case rel => exact ⟨4, by omega, by omega, rfl, by rw [H5.out], by rw [H5.out], rfl⟩
        · by_cases hb : g3 < a
          · have H5 : Hid (signAt x 4 = (g3, 3)) := Lib.hid (by show signN x = _; rw [H4.out, if_pos ⟨hp, .inr hb⟩])
            go_wp2_with fail
            refine i3'.out.mono ?_
            rintro e w1 ⟨rfl, rfl⟩
            go_wp2_with fail
            go_roundg 0
            case measure => omega
            case rel => exact ⟨4, by omega, by omega, rfl, by rw [H5.out], by rw [H5.out], rfl⟩
          · have H5 : Hid (signAt x 4 = (a, b)) := Lib.hid (by show signN x = _; rw [H4.out, if_neg (by simp only; omega)])
            go_wp2_with fail
            refine i3'.out.mono ?_
            rintro e w1 ⟨rfl, rfl⟩
            go_wp2_with fail
            go_roundg 0
            case measure => omega
            case rel => exact ⟨4, by omega, by omega, rfl, by rw [H5.out], by rw [H5.out], rfl⟩
      · have H5 : Hid (signAt x 4 = (a, b)) := Lib.hid (by show signN x = _; rw [H4.out, if_neg (by simp only; omega)])
        go_wp2_with fail
        refine i3'.out.mono ?_
        rintro e w1 ⟨rfl, rfl⟩
        go_wp2_with fail
        go_roundg 0
        case measure => omega
        case rel => exact ⟨4, by omega, by omega, rfl, by rw [H5.out], by rw [H5.out], rfl⟩
    · have e1 : signAt x 4 = signN x := rfl
      go_wp2_with fail
      go_ret2
      exact ⟨rfl, rfl⟩

end Go.Proofs.YtgofleplmnibbaaGreatDoor
