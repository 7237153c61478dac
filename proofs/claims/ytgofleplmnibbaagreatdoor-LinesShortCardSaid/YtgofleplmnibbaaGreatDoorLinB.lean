/-
  lines' checks of texts: plain, SetName, Format.
-/
import Derived.Test.YtgofleplmnibbaaGreatDoorLinA
import Derived.Lib.IndexMore
import Derived.Lib.SlTrimSet
import Derived.Shelf.Strings.SlTrimAscii
namespace Go.Proofs.YtgofleplmnibbaaGreatDoor.Lex

/-- The letters, the digits, '+' and '-'. -/
def plainB : Bytes := [65, 66, 67, 68, 69, 70, 71, 72, 73, 74, 75, 76, 77, 78, 79, 80, 81, 82, 83, 84, 85, 86, 87, 88, 89, 90, 97, 98, 99, 100, 101, 102, 103, 104, 105, 106, 107, 108, 109, 110, 111, 112, 113, 114, 115, 116, 117, 118, 119, 120, 121, 122, 48, 49, 50, 51, 52, 53, 54, 55, 56, 57, 43, 45]
def setB : Bytes := [65, 66, 67, 68, 69, 70, 71, 72, 73, 74, 75, 76, 77, 78, 79, 80, 81, 82, 83, 84, 85, 86, 87, 88, 89, 90, 97, 98, 99, 100, 101, 102, 103, 104, 105, 106, 107, 108, 109, 110, 111, 112, 113, 114, 115, 116, 117, 118, 119, 120, 121, 122, 48, 49, 50, 51, 52, 53, 54, 55, 56, 57, 95, 45]
def headB : Bytes := [65, 66, 67, 68, 69, 70, 71, 72, 73, 74, 75, 76, 77, 78, 79, 80, 81, 82, 83, 84, 85, 86, 87, 88, 89, 90, 97, 98, 99, 100, 101, 102, 103, 104, 105, 106, 107, 108, 109, 110, 111, 112, 113, 114, 115, 116, 117, 118, 119, 120, 121, 122, 95]
def nameB : Bytes := [65, 66, 67, 68, 69, 70, 71, 72, 73, 74, 75, 76, 77, 78, 79, 80, 81, 82, 83, 84, 85, 86, 87, 88, 89, 90, 97, 98, 99, 100, 101, 102, 103, 104, 105, 106, 107, 108, 109, 110, 111, 112, 113, 114, 115, 116, 117, 118, 119, 120, 121, 122, 48, 49, 50, 51, 52, 53, 54, 55, 56, 57, 43, 45, 95, 47]

def plainF (s : Bytes) : Bool := onlyF s plainB 3 8
def headF : Bytes → Bool
  | [] => false
  | c :: _ => inSet headB c
def setNameF (s : Bytes) : Bool := onlyF s setB 1 64 && headF s
def formatF (s : Bytes) : Bool :=
  s == [37, 122] || plainF s || ((Lib.cut s [47]).2.2 && plainF (Lib.cut s [47]).1 && plainF (Lib.cut s [47]).2.1) || ((Lib.cut s [37, 115]).2.2 && onlyF ((Lib.cut s [37, 115]).1 ++ (Lib.cut s [37, 115]).2.1) plainB 1 6)

theorem plainB_low : ∀ c ∈ plainB, c.toNat < 128 := by decide
theorem setB_low : ∀ c ∈ setB, c.toNat < 128 := by decide
theorem nameB_low : ∀ c ∈ nameB, c.toNat < 128 := by decide
theorem cut_length (s sep : Bytes) : (Lib.cut s sep).1.length ≤ s.length ∧ (Lib.cut s sep).2.1.length ≤ s.length := by
  unfold Lib.cut
  split
  · exact ⟨by rw [List.length_take]; omega, by rw [List.length_drop]; omega⟩
  · simp

end Go.Proofs.YtgofleplmnibbaaGreatDoor.Lex
namespace Go.Proofs.YtgofleplmnibbaaGreatDoor
open Go.RowKit Go.Shelf Lex

theorem plain_any (s : Bytes) (w : World) (hG : Glob w) (hs : s.length ≤ 100000) :
    Calls Tryz.prog 40 #[.string ⟨s.toArray⟩] w fun e w' => e = .returned (.bool (plainF s)) ∧ Below w.heap.size w w' := by
  have h := Lib.hid (only_any s plainB 3 8 w hG plainB_low hs (by decide))
  go_enter Tryz.func40, Tryz.ntmps40
  go_wp2_with fail
  refine h.out.mono ?_
  rintro e w1 ⟨rfl, hb⟩
  go_wp2_with fail
  go_ret
  exact ⟨rfl, hb⟩

theorem trim_any (s set : Bytes) (w : World) (hs : s.length ≤ 100000) (hl : set.length ≤ 100000) (hset : ∀ c ∈ set, c.toNat < 128) :
    Calls Tryz.prog 36 #[.string ⟨s.toArray⟩, .string ⟨set.toArray⟩] w fun e w' => e = .returned (.string ⟨(Lib.trimS s set).toArray⟩) ∧ Below w.heap.size w w' :=
  Any.strings_Trim_laid Tryz.lays160 (by kernel_rfl) ⟨s.toArray⟩ ⟨set.toArray⟩ w (by rw [size_mk]; omega) (by rw [size_mk]; omega) (fun _ b hb => hset b (List.mem_of_getElem? hb))

theorem cut_any (s sep : Bytes) (w : World) (hG : Glob w) (hs : s.length ≤ 100000) :
    Calls Tryz.prog 39 #[.string ⟨s.toArray⟩, .string ⟨sep.toArray⟩] w fun e w' => e = .returned (.tuple #[.string ⟨(Lib.cut s sep).1.toArray⟩, .string ⟨(Lib.cut s sep).2.1.toArray⟩, .bool (Lib.cut s sep).2.2]) ∧ Below w.heap.size w w' := by
  obtain ⟨m, hm⟩ := hG.facts.maxLen
  refine (Tryz.strings_Cut ⟨s.toArray⟩ ⟨sep.toArray⟩ m w (by rw [size_mk]; omega) hm).mono ?_
  rintro e w' ⟨rfl, n, rfl⟩
  exact ⟨rfl, below_drewN (Below.refl _ _) n⟩

set_option maxRecDepth 100000 in
theorem setName_any (s : Bytes) (w : World) (hG : Glob w) (hs : s.length ≤ 100000) :
    Calls Tryz.prog 14 #[.string ⟨s.toArray⟩] w fun e w' => e = .returned (.int .i64 (if setNameF s then 0 else 23)) ∧ Below w.heap.size w w' := by
  have h := only_any s setB 1 64 w hG setB_low hs (by decide)
  cases hb : onlyF s setB 1 64 with
  | false =>
    rw [hb] at h
    have hF : setNameF s = false := by unfold setNameF; rw [hb]; rfl
    rw [show (if setNameF s then (0 : Int) else 23) = 23 from by rw [hF]; rfl]
    have H := Lib.hid h
    clear hF h hb
    go_enter Tryz.func14, Tryz.ntmps14
    go_wp2_with fail
    refine H.out.mono ?_
    rintro e w1 ⟨rfl, hb⟩
    go_wp2_with fail
    go_ret
    exact ⟨rfl, hb⟩
  | true =>
    rw [hb] at h
    cases s with
    | nil => cases hb
    | cons c t =>
      have ht := fun w => trim_any [c] headB w (by simp) (by decide) (by decide)
      have hF : setNameF (c :: t) = inSet headB c := by unfold setNameF; rw [hb]; rfl
      have hT : Lib.trimS [c] headB = if inSet headB c then [] else [c] := by
        unfold Lib.trimS Lib.trimLeftS Lib.trimRightS inSet
        have : ∀ b : Bool, b = headB.contains c → List.dropWhile (headB.contains ·) (List.dropWhile (headB.contains ·) [c].reverse).reverse = if b then [] else [c] := by
          rintro b hb
          rw [List.reverse_singleton, List.dropWhile_cons, ← hb]
          cases b
          · rw [if_neg (by simp), List.reverse_singleton, List.dropWhile_cons, ← hb]; rfl
          · rfl
        exact this _ rfl
      have H := Lib.hid h
      rw [hF]
      rw [hT] at ht
      have HT := Lib.hid ht
      clear hF h hb hT ht
      cases hi : inSet headB c with
      | true =>
        rw [hi] at HT
        rw [show (if true then (0 : Int) else 23) = 0 from rfl]
        go_enter Tryz.func14, Tryz.ntmps14
        go_wp2_with fail
        refine H.out.mono ?_
        rintro e w1 ⟨rfl, hb⟩
        go_wp2_with fail
        rw [ba_take]
        refine (HT.out _).mono ?_
        rintro e w2 ⟨rfl, hb2⟩
        go_wp2_with fail
        go_ret
        exact ⟨rfl, hb.trans (hb2.mono hb.size)⟩
      | false =>
        rw [hi] at HT
        rw [show (if false then (0 : Int) else 23) = 23 from rfl]
        go_enter Tryz.func14, Tryz.ntmps14
        go_wp2_with fail
        refine H.out.mono ?_
        rintro e w1 ⟨rfl, hb⟩
        go_wp2_with fail
        rw [ba_take]
        refine (HT.out _).mono ?_
        rintro e w2 ⟨rfl, hb2⟩
        go_wp2_with fail
        go_ret
        exact ⟨rfl, hb.trans (hb2.mono hb.size)⟩

set_option maxRecDepth 100000 in
set_option maxHeartbeats 1000000 in
theorem format_any (s : Bytes) (w : World) (hG : Glob w) (hs : s.length ≤ 50000) :
    Calls Tryz.prog 16 #[.string ⟨s.toArray⟩] w fun e w' => e = .returned (.int .i64 (if formatF s then 0 else 12)) ∧ Below w.heap.size w w' := by
  have c1 := Lib.hid fun W h => cut_any s [47] W h (by omega)
  have c2 := Lib.hid fun W h => cut_any s [37, 115] W h (by omega)
  have l1 := cut_length s [47]
  have l2 := cut_length s [37, 115]
  have HF := Lib.hid (show formatF s = (s == [37, 122] || plainF s || ((Lib.cut s [47]).2.2 && plainF (Lib.cut s [47]).1 && plainF (Lib.cut s [47]).2.1) || ((Lib.cut s [37, 115]).2.2 && onlyF ((Lib.cut s [37, 115]).1 ++ (Lib.cut s [37, 115]).2.1) plainB 1 6)) from rfl)
  generalize Lib.cut s [47] = x at *
  generalize Lib.cut s [37, 115] = y at *
  obtain ⟨a, b, m⟩ := x
  obtain ⟨c, d, n⟩ := y
  simp only at c1 c2 l1 l2 HF
  obtain ⟨r, HR⟩ : ∃ r : Int, Hid ((if formatF s then (0 : Int) else 12) = r) := ⟨_, Lib.hid rfl⟩
  rw [HR.out]
  have fin : ∀ t : Bool, formatF s = t → (if t then (0 : Int) else 12) = r := fun t h => by rw [← h]; exact HR.out
  have FIN := Lib.hid fin
  clear fin
  go_enter Tryz.func16, Tryz.ntmps16
  go_wp2_with fail
  refine (c1.out _ hG).mono ?_
  rintro e w1 ⟨rfl, hb1⟩
  have hG1 := hG.below' hb1
  go_wp2_with fail
  refine (c2.out _ hG1).mono ?_
  rintro e w2 ⟨rfl, hb2⟩
  have hG2 := hG1.below' hb2
  have hB2 := hb1.trans (hb2.mono hb1.size)
  clear hb1 hb2 hG1
  by_cases hz : s = [37, 122]
  · have HZ := Lib.hid hz
    go_wp2_with fail
    go_ret
    exact ⟨by rw [← FIN.out true (by rw [HF.out, HZ.out]; simp)]; rfl, hB2⟩
  · have HZ : Hid ((s == [37, 122]) = false) := Lib.hid (beq_eq_false_iff_ne.2 hz)
    have hzb := HZ.out
    have h3 := Lib.hid (plain_any s w2 hG2 (by omega))
    go_wp2_with fail
    refine h3.out.mono ?_
    rintro e w3 ⟨rfl, hb3⟩
    have hG3 := hG2.below' hb3
    have hB3 := hB2.trans (hb3.mono hB2.size)
    cases hp : plainF s with
    | true =>
      go_wp2_with fail
      go_ret
      exact ⟨by rw [← FIN.out true (by rw [HF.out, HZ.out, hp]; simp)]; rfl, hB3⟩
    | false =>
      cases m with
      | false =>
        cases n with
        | false =>
          go_wp2_with fail
          go_ret
          exact ⟨by rw [← FIN.out false (by rw [HF.out, HZ.out, hp]; simp)]; rfl, hB3⟩
        | true =>
          have ha := fun X => str_add (P := Tryz.prog) c d (by omega) X
          have h9 := Lib.hid (only_any (c ++ d) plainB 1 6 w3 hG3 plainB_low (by rw [List.length_append]; omega) (by decide))
          go_wp2_with fail
          refine h9.out.mono ?_
          rintro e w9 ⟨rfl, hb9⟩
          have hB9 := hB3.trans (hb9.mono hB3.size)
          cases ho : onlyF (c ++ d) plainB 1 6 with
          | false =>
            go_wp2_with fail
            go_ret
            exact ⟨by rw [← FIN.out false (by rw [HF.out, HZ.out, hp, ho]; simp)]; rfl, hB9⟩
          | true =>
            go_wp2_with fail
            go_ret
            exact ⟨by rw [← FIN.out true (by rw [HF.out, HZ.out, hp, ho]; simp)]; rfl, hB9⟩
      | true =>
        have h4 := Lib.hid (plain_any a w3 hG3 (by omega))
        go_wp2_with fail
        refine h4.out.mono ?_
        rintro e w4 ⟨rfl, hb4⟩
        have hG4 := hG3.below' hb4
        have hB4 := hB3.trans (hb4.mono hB3.size)
        cases hpa : plainF a with
        | false =>
          cases n with
          | false =>
            go_wp2_with fail
            go_ret
            exact ⟨by rw [← FIN.out false (by rw [HF.out, HZ.out, hp, hpa]; simp)]; rfl, hB4⟩
          | true =>
            have ha := fun X => str_add (P := Tryz.prog) c d (by omega) X
            have h9 := Lib.hid (only_any (c ++ d) plainB 1 6 w4 hG4 plainB_low (by rw [List.length_append]; omega) (by decide))
            go_wp2_with fail
            refine h9.out.mono ?_
            rintro e w9 ⟨rfl, hb9⟩
            have hB9 := hB4.trans (hb9.mono hB4.size)
            cases ho : onlyF (c ++ d) plainB 1 6 with
            | false =>
              go_wp2_with fail
              go_ret
              exact ⟨by rw [← FIN.out false (by rw [HF.out, HZ.out, hp, hpa, ho]; simp)]; rfl, hB9⟩
            | true =>
              go_wp2_with fail
              go_ret
              exact ⟨by rw [← FIN.out true (by rw [HF.out, HZ.out, hp, hpa, ho]; simp)]; rfl, hB9⟩
        | true =>
          have h5 := Lib.hid (plain_any b w4 hG4 (by omega))
          go_wp2_with fail
          refine h5.out.mono ?_
          rintro e w5 ⟨rfl, hb5⟩
          have hG5 := hG4.below' hb5
          have hB5 := hB4.trans (hb5.mono hB4.size)
          cases hpb : plainF b with
          | true =>
            go_wp2_with fail
            go_ret
            exact ⟨by rw [← FIN.out true (by rw [HF.out, HZ.out, hp, hpa, hpb]; simp)]; rfl, hB5⟩
          | false =>
            cases n with
            | false =>
              go_wp2_with fail
              go_ret
              exact ⟨by rw [← FIN.out false (by rw [HF.out, HZ.out, hp, hpa, hpb]; simp)]; rfl, hB5⟩
            | true =>
              have ha := fun X => str_add (P := Tryz.prog) c d (by omega) X
              have h9 := Lib.hid (only_any (c ++ d) plainB 1 6 w5 hG5 plainB_low (by rw [List.length_append]; omega) (by decide))
              go_wp2_with fail
              refine h9.out.mono ?_
              rintro e w9 ⟨rfl, hb9⟩
              have hB9 := hB5.trans (hb9.mono hB5.size)
              cases ho : onlyF (c ++ d) plainB 1 6 with
              | false =>
                go_wp2_with fail
                go_ret
                exact ⟨by rw [← FIN.out false (by rw [HF.out, HZ.out, hp, hpa, hpb, ho]; simp)]; rfl, hB9⟩
              | true =>
                go_wp2_with fail
                go_ret
                exact ⟨by rw [← FIN.out true (by rw [HF.out, HZ.out, hp, hpa, hpb, ho]; simp)]; rfl, hB9⟩

end Go.Proofs.YtgofleplmnibbaaGreatDoor
