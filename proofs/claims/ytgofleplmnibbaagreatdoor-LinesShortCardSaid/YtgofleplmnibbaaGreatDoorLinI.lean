/-
  strconv's Atoi and Itoa, prefixes, and words.Year.
-/
import Derived.Test.YtgofleplmnibbaaGreatDoorLinH
import Derived.Lib.AtoiAll
namespace Go.Proofs.YtgofleplmnibbaaGreatDoor.Lex

/-- The number that a text is, written as numbers are. -/
def canonF (x : Bytes) : Option Int := match Lib.atoiAll x with
  | .ok n => if Lib.itoa n = x then some n else none
  | _ => none
def untilDash : Bytes → Bytes
  | [] => []
  | c :: t => if c == 45 then t else c :: t
def numYear (x : Bytes) : Int × Int := match canonF x with
  | none => (0, 12)
  | some n => if 9 < (untilDash x).length then (0, 12) else if n < 1 ∨ 4000 < n then (0, 10) else (n, 0)
def yearNames : List Bytes := [[111, 110, 108, 121], [109, 97, 120, 105, 109, 117, 109]]
def yearN (x : Bytes) (from' : Int) : Int × Int := match findF x yearNames with
  | some i => (if i = 0 then from' else 1048576, 0)
  | none => numYear x

end Go.Proofs.YtgofleplmnibbaaGreatDoor.Lex
namespace Go.Proofs.YtgofleplmnibbaaGreatDoor
open Go.RowKit Go.Shelf Lex

theorem below_grow {w : World} (os : Array Obj) : Below w.heap.size w { w with heap := w.heap ++ os } :=
  ⟨rfl, rfl, rfl, by simp, fun i hi => by simp [Array.getElem?_append, hi]⟩
theorem itoa_any (n : Int) (w : World) (hG : Glob w) (h0 : -9223372036854775808 ≤ n) (h1 : n ≤ 9223372036854775807) :
    Calls Tryz.prog 67 #[.int .i64 n] w fun e w' => e = .returned (.string ⟨(Lib.itoa n).toArray⟩) ∧ Below w.heap.size w w' := by
  refine (Tryz.strconv_Itoa n h0 h1 w hG.facts.pow10).mono ?_
  rintro e w' ⟨rfl, k, os, rfl⟩
  exact ⟨rfl, (below_drewN (Below.refl _ _) k).trans (below_grow (w := w.drewN k) os)⟩
theorem atoi_ok {x : Bytes} {n : Int} (w : World) (hx : x.length ≤ 100000) (h : Lib.atoiAll x = .ok n) :
    Calls Tryz.prog 90 #[.string ⟨x.toArray⟩] w fun e w' => e = .returned (.tuple #[.int .i64 n, .nilIface]) ∧ Below w.heap.size w w' := by
  refine (Tryz.strconv_Atoi_ok ⟨x.toArray⟩ (by rw [size_mk]; omega) n h w).mono ?_
  rintro e w' ⟨rfl, hw⟩
  refine ⟨rfl, ?_⟩
  rcases hw with rfl | ⟨t, rfl⟩
  · exact Below.refl _ _
  · exact Lib.bytesWorld_below _ _ _
theorem atoi_bad {x : Bytes} (w : World) (hG : Glob w) (hx : x.length ≤ 100000) (h : ∀ n, Lib.atoiAll x ≠ .ok n) :
    Calls Tryz.prog 90 #[.string ⟨x.toArray⟩] w fun e w' => (∃ m t p, e = .returned (.tuple #[.int .i64 m, .iface t p])) ∧ Below w.heap.size w w' := by
  cases ha : Lib.atoiAll x with
  | ok n => exact absurd ha (h n)
  | «syntax» =>
    obtain ⟨te, pe, hv⟩ := hG.facts.synt
    refine (Tryz.strconv_Atoi_syntax ⟨x.toArray⟩ (by rw [size_mk]; omega) ha _ w hv (.inr ⟨te, pe, rfl⟩)).mono ?_
    rintro e w' ⟨N, rfl, _, _, hb⟩
    exact ⟨⟨_, _, _, rfl⟩, hb⟩
  | range =>
    obtain ⟨te, pe, hv⟩ := hG.facts.rang
    refine (Tryz.strconv_Atoi_range ⟨x.toArray⟩ (by rw [size_mk]; omega) ha _ w hv (.inr ⟨te, pe, rfl⟩)).mono ?_
    rintro e w' ⟨N, rfl, _, _, hb⟩
    exact ⟨⟨_, _, _, rfl⟩, hb⟩
theorem atoi_bounds {x : Bytes} {n : Int} (h : Lib.atoiAll x = .ok n) : -9223372036854775808 ≤ n ∧ n ≤ 9223372036854775807 := by
  unfold Lib.atoiAll at h
  split at h
  · cases h
  · simp only at h
    split at h
    · cases h
    · cases h
    · split at h
      · cases h
      · split at h
        · cases h
        · injection h with h
          split at h <;> omega

theorem dash_prefix (x : Bytes) : ([45] : Bytes).isPrefixOf x = (match x with | [] => false | c :: _ => c == 45) := by
  cases x with
  | nil => rfl
  | cons c t => simp [List.isPrefixOf, Bool.beq_comm]

attribute [local go_sem] ba_drop ba_tail ba_tail' in
theorem slTrimDash_any (x : Bytes) (w : World) (hx : x.length ≤ 100000) : Calls Tryz.prog 133 #[.string ⟨x.toArray⟩, .string ⟨#[45]⟩] w fun e w' => e = .returned (.string ⟨(untilDash x).toArray⟩) ∧ w = w' := by
  have hp := slHasPrefix_any x [45] w (by omega) (by decide)
  rw [dash_prefix] at hp
  cases x with
  | nil =>
    have HP := Lib.hid hp
    clear hp
    go_enter Tryz.func133, Tryz.ntmps133
    go_wp2_with fail
    refine HP.out.mono ?_
    rintro e w1 ⟨rfl, rfl⟩
    go_wp2_with fail
    go_ret
    exact ⟨rfl, rfl⟩
  | cons c t =>
    cases hc : (c == 45) with
    | true =>
      simp only [hc] at hp
      have hu : untilDash (c :: t) = t := by show (if (c == 45) = true then t else c :: t) = t; rw [hc]; rfl
      have HP := Lib.hid hp
      have HU := Lib.hid hu
      rw [HU.out]
      clear hp hu
      go_enter Tryz.func133, Tryz.ntmps133
      go_wp2_with fail
      refine HP.out.mono ?_
      rintro e w1 ⟨rfl, rfl⟩
      go_wp2_with fail
      go_ret
      exact ⟨rfl, rfl⟩
    | false =>
      simp only [hc] at hp
      have hu : untilDash (c :: t) = c :: t := by show (if (c == 45) = true then t else c :: t) = c :: t; rw [hc]; rfl
      have HP := Lib.hid hp
      have HU := Lib.hid hu
      rw [HU.out]
      clear hp hu
      go_enter Tryz.func133, Tryz.ntmps133
      go_wp2_with fail
      refine HP.out.mono ?_
      rintro e w1 ⟨rfl, rfl⟩
      go_wp2_with fail
      go_ret
      exact ⟨rfl, rfl⟩
theorem trimDash_any (x : Bytes) (w : World) (hx : x.length ≤ 100000) : Calls Tryz.prog 91 #[.string ⟨x.toArray⟩, .string ⟨#[45]⟩] w fun e w' => e = .returned (.string ⟨(untilDash x).toArray⟩) ∧ w = w' := by
  have HP := Lib.hid (slTrimDash_any x w hx)
  go_enter Tryz.func91, Tryz.ntmps91
  go_wp2_with fail
  refine HP.out.mono ?_
  rintro e w1 ⟨rfl, rfl⟩
  go_wp2_with fail
  go_ret
  exact ⟨rfl, rfl⟩
theorem untilDash_length (x : Bytes) : (untilDash x).length ≤ x.length := by
  cases x with
  | nil => simp [untilDash]
  | cons c t => show (if (c == 45) = true then t else c :: t).length ≤ _; split <;> simp

set_option maxHeartbeats 2000000 in
set_option maxRecDepth 100000 in
theorem year_any (x : Bytes) (fr : Int) (w : World) (hG : Glob w) (hx : x.length ≤ 100000) :
    Calls Tryz.prog 42 #[.string ⟨x.toArray⟩, .int .i64 fr] w fun e w' => e = .returned (.tuple #[.int .i64 (yearN x fr).1, .int .i64 (yearN x fr).2]) ∧ Below w.heap.size w w' := by
  have hA : Below w.heap.size w (w.alloc (.cells #[.string ⟨#[111, 110, 108, 121]⟩, .string ⟨#[109, 97, 120, 105, 109, 117, 109]⟩] 9)) := (Below.refl _ _).alloc (Nat.le_refl _) _
  have hf := find_any x yearNames _ _ hx (by decide) ((strs_lit w 9 yearNames (by simp [yearNames, maxLen])).mono (Nat.zero_le _))
  obtain ⟨r, HR⟩ : ∃ r, Hid (yearN x fr = r) := ⟨_, Lib.hid rfl⟩
  rw [HR.out]
  cases hfn : findF x yearNames with
  | some i =>
    have hi := findF_lt hfn
    have h1 : findN x yearNames = ((i : Int), 0) := by unfold findN; rw [hfn]
    have h2 : r = (if i = 0 then fr else 1048576, 0) := by rw [← HR.out]; unfold yearN; rw [hfn]
    rw [h1] at hf
    have HF := Lib.hid hf
    have hi2 : i = 0 ∨ i = 1 := by have : i < 2 := hi; omega
    clear h1 hfn hf hi
    rcases hi2 with rfl | rfl
    · obtain rfl : r = (fr, 0) := h2
      go_enter Tryz.func42, Tryz.ntmps42
      go_wp2_with fail
      refine HF.out.mono ?_
      rintro e w1 ⟨rfl, hb1⟩
      go_wp2_with fail
      go_ret2
      have hB1 := hA.trans (hb1.mono hA.size)
      exact ⟨by simp, hB1.alloc hB1.size _⟩
    · obtain rfl : r = (1048576, 0) := h2
      go_enter Tryz.func42, Tryz.ntmps42
      go_wp2_with fail
      refine HF.out.mono ?_
      rintro e w1 ⟨rfl, hb1⟩
      go_wp2_with fail
      go_ret2
      have hB1 := hA.trans (hb1.mono hA.size)
      exact ⟨by simp, hB1.alloc hB1.size _⟩
  | none =>
    have h1 : findN x yearNames = (0, 13) := by unfold findN; rw [hfn]
    have h2 : r = numYear x := by rw [← HR.out]; unfold yearN; rw [hfn]
    rw [h1] at hf
    have HF := Lib.hid hf
    have H2 := Lib.hid h2
    clear h1 hfn hf h2
    by_cases hok : ∃ n, Lib.atoiAll x = .ok n
    · obtain ⟨n, hn⟩ := hok
      have hbd := atoi_bounds hn
      have hT := untilDash_length x
      by_cases hi : Lib.itoa n = x
      · have hc : canonF x = some n := by unfold canonF; rw [hn]; simp only; rw [if_pos hi]
        have H3 : Hid (r = if 9 < (untilDash x).length then (0, 12) else if n < 1 ∨ 4000 < n then (0, 10) else (n, 0)) := Lib.hid (by rw [H2.out]; unfold numYear; rw [hc])
        have HN := Lib.hid hn
        have HI := Lib.hid hi
        clear H2 hc hn hi
        have hib : (Lib.itoa n == x) = true := by rw [HI.out]; simp
        go_enter Tryz.func42, Tryz.ntmps42
        go_wp2_with fail
        refine HF.out.mono ?_
        rintro e w1 ⟨rfl, hb1⟩
        have hB1 := hA.trans (hb1.mono hA.size)
        clear hb1 HF
        go_wp2_with fail
        refine (atoi_ok w1 hx HN.out).mono ?_
        rintro e w2 ⟨rfl, hb2⟩
        have hB2 := hB1.trans (hb2.mono hB1.size)
        have hG2 := hG.below' hB2
        clear hb2
        go_wp2_with fail
        refine (itoa_any n w2 hG2 hbd.1 hbd.2).mono ?_
        rintro e w3 ⟨rfl, hb3⟩
        rw [HI.out]
        have hB3 := hB2.trans (hb3.mono hB2.size)
        clear hb3
        go_wp2_with fail
        refine (trimDash_any x w3 hx).mono ?_
        rintro e w4 ⟨rfl, rfl⟩
        by_cases h9 : 9 < (untilDash x).length
        · have h9' : (9 : Int) < (untilDash x).length := by omega
          have H4 : Hid (r = (0, 12)) := Lib.hid (by rw [H3.out, if_pos h9])
          clear h9 hT
          go_wp2_with fail
          go_ret2
          exact ⟨by rw [H4.out]; simp, hB3⟩
        · have h9' : ¬ (9 : Int) < (untilDash x).length := by omega
          have H4 : Hid (r = if n < 1 ∨ 4000 < n then (0, 10) else (n, 0)) := Lib.hid (by rw [H3.out, if_neg h9])
          clear h9 hT
          by_cases ha : n < 1
          · have H5 : Hid (r = (0, 10)) := Lib.hid (by rw [H4.out, if_pos (.inl ha)])
            go_wp2_with fail
            go_ret2
            exact ⟨by rw [H5.out]; simp, hB3⟩
          · by_cases hb : 4000 < n
            · have H5 : Hid (r = (0, 10)) := Lib.hid (by rw [H4.out, if_pos (.inr hb)])
              go_wp2_with fail
              go_ret2
              exact ⟨by rw [H5.out]; simp, hB3⟩
            · have H5 : Hid (r = (n, 0)) := Lib.hid (by rw [H4.out, if_neg (by omega)])
              go_wp2_with fail
              go_ret2
              exact ⟨by rw [H5.out]; simp, hB3⟩
      · have hc : canonF x = none := by unfold canonF; rw [hn]; simp only; rw [if_neg hi]
        have H3 : Hid (r = (0, 12)) := Lib.hid (by rw [H2.out]; unfold numYear; rw [hc])
        have HN := Lib.hid hn
        have hib : (Lib.itoa n == x) = false := by rw [beq_eq_false_iff_ne]; exact hi
        generalize hit : Lib.itoa n = it at *
        have HI := Lib.hid hit
        clear H2 hc hn hi hit
        go_enter Tryz.func42, Tryz.ntmps42
        go_wp2_with fail
        refine HF.out.mono ?_
        rintro e w1 ⟨rfl, hb1⟩
        have hB1 := hA.trans (hb1.mono hA.size)
        clear hb1 HF
        go_wp2_with fail
        refine (atoi_ok w1 hx HN.out).mono ?_
        rintro e w2 ⟨rfl, hb2⟩
        have hB2 := hB1.trans (hb2.mono hB1.size)
        have hG2 := hG.below' hB2
        clear hb2
        go_wp2_with fail
        refine (itoa_any n w2 hG2 hbd.1 hbd.2).mono ?_
        rintro e w3 ⟨rfl, hb3⟩
        rw [HI.out]
        have hB3 := hB2.trans (hb3.mono hB2.size)
        clear hb3
        go_wp2_with fail
        go_ret2
        exact ⟨by rw [H3.out]; simp, hB3⟩
    · have hno : ∀ n, Lib.atoiAll x ≠ .ok n := fun n h => hok ⟨n, h⟩
      have hc : canonF x = none := by
        unfold canonF
        split
        · rename_i n h; exact absurd h (hno n)
        · rfl
      have H3 : Hid (r = (0, 12)) := Lib.hid (by rw [H2.out]; unfold numYear; rw [hc])
      have HNO := Lib.hid hno
      clear H2 hc hno hok
      go_enter Tryz.func42, Tryz.ntmps42
      go_wp2_with fail
      refine HF.out.mono ?_
      rintro e w1 ⟨rfl, hb1⟩
      have hB1 := hA.trans (hb1.mono hA.size)
      have hG1 := hG.below' hB1
      clear hb1 HF
      go_wp2_with fail
      refine (atoi_bad w1 hG1 hx HNO.out).mono ?_
      rintro e w2 ⟨⟨m, t, p, rfl⟩, hb2⟩
      have hB2 := hB1.trans (hb2.mono hB1.size)
      clear hb2
      go_wp2_with fail
      go_ret2
      exact ⟨by rw [H3.out]; simp, hB2⟩

end Go.Proofs.YtgofleplmnibbaaGreatDoor
