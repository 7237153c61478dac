/-
  lines.year, span, letter, dash, and what Rule and Era parse by functions of their own.
-/
import Derived.Test.YtgofleplmnibbaaGreatDoorLinM
import Derived.Test.YtgofleplmnibbaaGreatDoorLinD
namespace Go.Proofs.YtgofleplmnibbaaGreatDoor.Lex

def yearL (x : Bytes) : Int × Int := if (yearN x (-1)).2 = 0 ∧ ((yearN x (-1)).1 < 0 ∨ (yearN x (-1)).1 = 1048576) then (0, 12) else yearN x (-1)
def spanL (x : Bytes) : Int × Int := if (spanN x).2 = 0 ∧ (90000 ≤ (spanN x).1 ∨ (spanN x).1 ≤ -90000) then (0, 10) else spanN x
def letterL (x : Bytes) : Bytes × Int := if x = [45] then ([], 0) else if onlyF x plainB 1 8 then (x, 0) else ([], 23)
def dashL (x : Bytes) : Bytes × Int := if x = [45] then (x, 0) else ([], 12)
def toL (x : Bytes) (fr : Int) : Int × Int := if (yearN x fr).2 = 0 ∧ (yearN x fr).1 < fr then (0, 17) else yearN x fr
/-- Does a text begin as seconds do? -/
def dashy : Bytes → Bool
  | [] => false
  | c :: _ => decide (0 ≤ Lib.indexByte [48, 49, 50, 51, 52, 53, 54, 55, 56, 57, 45] c)

end Go.Proofs.YtgofleplmnibbaaGreatDoor.Lex
namespace Go.Proofs.YtgofleplmnibbaaGreatDoor
open Go.RowKit Go.Shelf Lex

theorem yearL_any (x : Bytes) (w : World) (hG : Glob w) (hx : x.length ≤ 100000) :
    Calls Tryz.prog 47 #[.string ⟨x.toArray⟩] w fun e w' => e = .returned (.tuple #[.int .i64 (yearL x).1, .int .i64 (yearL x).2]) ∧ Below w.heap.size w w' := by
  have hy := Lib.hid (year_any x (-1) w hG hx)
  obtain ⟨r, HR⟩ : ∃ r, Hid (yearL x = r) := ⟨_, Lib.hid rfl⟩
  rw [HR.out]
  have HR2 := Lib.hid (show (if (yearN x (-1)).2 = 0 ∧ ((yearN x (-1)).1 < 0 ∨ (yearN x (-1)).1 = 1048576) then (0, 12) else yearN x (-1)) = r from HR.out)
  clear HR
  generalize yearN x (-1) = y at *
  obtain ⟨n, e⟩ := y
  simp only at HR2 hy
  by_cases he : e = 0
  · by_cases hn : n < 0
    · have HR3 := Lib.hid (show _ = r by rw [← HR2.out, if_pos ⟨he, .inl hn⟩])
      subst he
      go_enter Tryz.func47, Tryz.ntmps47
      go_wp2_with fail
      refine hy.out.mono ?_
      rintro e w1 ⟨rfl, hb1⟩
      go_wp2_with fail
      go_ret2
      exact ⟨by rw [← HR3.out]; simp, hb1⟩
    · by_cases hf : n = 1048576
      · have HR3 := Lib.hid (show _ = r by rw [← HR2.out, if_pos ⟨he, .inr hf⟩])
        subst he hf
        go_enter Tryz.func47, Tryz.ntmps47
        go_wp2_with fail
        refine hy.out.mono ?_
        rintro e w1 ⟨rfl, hb1⟩
        go_wp2_with fail
        go_ret2
        exact ⟨by rw [← HR3.out]; simp, hb1⟩
      · have HR3 := Lib.hid (show _ = r by rw [← HR2.out, if_neg (by omega)])
        have hfb : (n == 1048576) = false := beq_eq_false_iff_ne.2 hf
        subst he
        go_enter Tryz.func47, Tryz.ntmps47
        go_wp2_with fail
        refine hy.out.mono ?_
        rintro e w1 ⟨rfl, hb1⟩
        go_wp2_with fail
        go_ret2
        exact ⟨by rw [← HR3.out]; simp, hb1⟩
  · have HR3 := Lib.hid (show _ = r by rw [← HR2.out, if_neg (fun h => he h.1)])
    have heb : (e == 0) = false := beq_eq_false_iff_ne.2 he
    go_enter Tryz.func47, Tryz.ntmps47
    go_wp2_with fail
    refine hy.out.mono ?_
    rintro e w1 ⟨rfl, hb1⟩
    go_wp2_with fail
    go_ret2
    exact ⟨by rw [← HR3.out]; simp, hb1⟩

theorem spanL_any (x : Bytes) (w : World) (hG : Glob w) (hx : x.length ≤ 100000) :
    Calls Tryz.prog 55 #[.string ⟨x.toArray⟩] w fun e w' => e = .returned (.tuple #[.int .i64 (spanL x).1, .int .i64 (spanL x).2]) ∧ Below w.heap.size w w' := by
  have hy := Lib.hid (span_any x w hG hx)
  obtain ⟨r, HR⟩ : ∃ r, Hid (spanL x = r) := ⟨_, Lib.hid rfl⟩
  rw [HR.out]
  have HR2 := Lib.hid (show (if (spanN x).2 = 0 ∧ (90000 ≤ (spanN x).1 ∨ (spanN x).1 ≤ -90000) then (0, 10) else spanN x) = r from HR.out)
  clear HR
  generalize spanN x = y at *
  obtain ⟨n, e⟩ := y
  simp only at HR2 hy
  by_cases he : e = 0
  · by_cases hn : 90000 ≤ n
    · have HR3 := Lib.hid (show _ = r by rw [← HR2.out, if_pos ⟨he, .inl hn⟩])
      subst he
      go_enter Tryz.func55, Tryz.ntmps55
      go_wp2_with fail
      refine hy.out.mono ?_
      rintro e w1 ⟨rfl, hb1⟩
      go_wp2_with fail
      go_ret2
      exact ⟨by rw [← HR3.out]; simp, hb1⟩
    · by_cases hf : n ≤ -90000
      · have HR3 := Lib.hid (show _ = r by rw [← HR2.out, if_pos ⟨he, .inr hf⟩])
        subst he
        go_enter Tryz.func55, Tryz.ntmps55
        go_wp2_with fail
        refine hy.out.mono ?_
        rintro e w1 ⟨rfl, hb1⟩
        go_wp2_with fail
        go_ret2
        exact ⟨by rw [← HR3.out]; simp, hb1⟩
      · have HR3 := Lib.hid (show _ = r by rw [← HR2.out, if_neg (by omega)])
        subst he
        go_enter Tryz.func55, Tryz.ntmps55
        go_wp2_with fail
        refine hy.out.mono ?_
        rintro e w1 ⟨rfl, hb1⟩
        go_wp2_with fail
        go_ret2
        exact ⟨by rw [← HR3.out]; simp, hb1⟩
  · have HR3 := Lib.hid (show _ = r by rw [← HR2.out, if_neg (fun h => he h.1)])
    have heb : (e == 0) = false := beq_eq_false_iff_ne.2 he
    go_enter Tryz.func55, Tryz.ntmps55
    go_wp2_with fail
    refine hy.out.mono ?_
    rintro e w1 ⟨rfl, hb1⟩
    go_wp2_with fail
    go_ret2
    exact ⟨by rw [← HR3.out]; simp, hb1⟩

theorem letterL_any (x : Bytes) (w : World) (hG : Glob w) (hx : x.length ≤ 100000) :
    Calls Tryz.prog 56 #[.string ⟨x.toArray⟩] w fun e w' => e = .returned (.tuple #[.string ⟨(letterL x).1.toArray⟩, .int .i64 (letterL x).2]) ∧ Below w.heap.size w w' := by
  by_cases hd : x = [45]
  · subst hd
    go_enter Tryz.func56, Tryz.ntmps56
    go_wp2_with fail
    go_ret2
    exact ⟨rfl, Below.refl _ _⟩
  · have hdb : (x == [45]) = false := beq_eq_false_iff_ne.2 hd
    have ho := only_any x plainB 1 8 w hG plainB_low hx (by decide)
    cases hb : onlyF x plainB 1 8 with
    | true =>
      have hL : letterL x = (x, 0) := by unfold letterL; rw [if_neg hd, if_pos hb]
      rw [hb] at ho
      have HO := Lib.hid ho
      rw [hL]
      clear hL ho hb
      go_enter Tryz.func56, Tryz.ntmps56
      go_wp2_with fail
      refine HO.out.mono ?_
      rintro e w1 ⟨rfl, hb1⟩
      go_wp2_with fail
      go_ret2
      exact ⟨rfl, hb1⟩
    | false =>
      have hL : letterL x = ([], 23) := by unfold letterL; rw [if_neg hd, if_neg (by rw [hb]; decide)]
      rw [hb] at ho
      have HO := Lib.hid ho
      rw [hL]
      clear hL ho hb
      go_enter Tryz.func56, Tryz.ntmps56
      go_wp2_with fail
      refine HO.out.mono ?_
      rintro e w1 ⟨rfl, hb1⟩
      go_wp2_with fail
      go_ret2
      exact ⟨rfl, hb1⟩

theorem dashL_any (x : Bytes) (w : World) :
    Calls Tryz.prog 49 #[.string ⟨x.toArray⟩] w fun e w' => e = .returned (.tuple #[.string ⟨(dashL x).1.toArray⟩, .int .i64 (dashL x).2]) ∧ Below w.heap.size w w' := by
  by_cases hd : x = [45]
  · subst hd
    go_enter Tryz.func49, Tryz.ntmps49
    go_wp2_with fail
    go_ret2
    exact ⟨rfl, Below.refl _ _⟩
  · have hdb : (x == [45]) = false := beq_eq_false_iff_ne.2 hd
    have hdb' : (x != [45]) = true := by rw [bne_iff_ne]; exact hd
    have hL : dashL x = ([], 12) := by unfold dashL; rw [if_neg hd]
    rw [hL]
    clear hL hd
    go_enter Tryz.func49, Tryz.ntmps49
    go_wp2_with fail
    go_ret2
    exact ⟨rfl, Below.refl _ _⟩

theorem toL_any (x : Bytes) (b : Nat) (fr : Int) (w : World) (hG : Glob w) (hx : x.length ≤ 100000) (hc : w.cell? ⟨b, 1, none⟩ = some (.int .i64 fr)) (hbl : b < w.heap.size) :
    Calls Tryz.prog 41 #[.string ⟨x.toArray⟩, .pointer (some ⟨b, 0, none⟩)] w fun e w' => e = .returned (.tuple #[.int .i64 (toL x fr).1, .int .i64 (toL x fr).2]) ∧ Below w.heap.size w w' := by
  have hy := Lib.hid (year_any x fr w hG hx)
  obtain ⟨r, HR⟩ : ∃ r, Hid (toL x fr = r) := ⟨_, Lib.hid rfl⟩
  rw [HR.out]
  have HR2 := Lib.hid (show (if (yearN x fr).2 = 0 ∧ (yearN x fr).1 < fr then (0, 17) else yearN x fr) = r from HR.out)
  clear HR
  generalize yearN x fr = y at *
  obtain ⟨n, e⟩ := y
  simp only at HR2 hy
  by_cases he : e = 0
  · by_cases hn : n < fr
    · have HR3 := Lib.hid (show _ = r by rw [← HR2.out, if_pos ⟨he, hn⟩])
      subst he
      go_enter Tryz.func41, Tryz.ntmps41
      go_wp2_with fail
      refine hy.out.mono ?_
      rintro e w1 ⟨rfl, hb1⟩
      have hc1 := (hb1.cell (p := ⟨b, 1, none⟩) hbl).trans hc
      go_wp2_with fail
      go_ret2
      exact ⟨by rw [← HR3.out]; simp, hb1⟩
    · have HR3 := Lib.hid (show _ = r by rw [← HR2.out, if_neg (fun h => hn h.2)])
      subst he
      go_enter Tryz.func41, Tryz.ntmps41
      go_wp2_with fail
      refine hy.out.mono ?_
      rintro e w1 ⟨rfl, hb1⟩
      have hc1 := (hb1.cell (p := ⟨b, 1, none⟩) hbl).trans hc
      go_wp2_with fail
      go_ret2
      exact ⟨by rw [← HR3.out]; simp, hb1⟩
  · have HR3 := Lib.hid (show _ = r by rw [← HR2.out, if_neg (fun h => he h.1)])
    have heb : (e == 0) = false := beq_eq_false_iff_ne.2 he
    go_enter Tryz.func41, Tryz.ntmps41
    go_wp2_with fail
    refine hy.out.mono ?_
    rintro e w1 ⟨rfl, hb1⟩
    go_wp2_with fail
    go_ret2
    exact ⟨by rw [← HR3.out]; simp, hb1⟩

attribute [local go_sem] ba_take ba_head
/-- Seconds that are saved throughout. -/
theorem rulesSpan_any (x : Bytes) (b : Nat) (sv : Value) (w : World) (hG : Glob w) (hx : x.length ≤ 100000) (hd : dashy x = true) (hc : w.cell? ⟨b, 2, none⟩ = some sv) (hf : w.frozen? ⟨b, 2, none⟩ = false) (hbl : b < w.heap.size) :
    Calls Tryz.prog 64 #[.string ⟨x.toArray⟩, .pointer (some ⟨b, 0, none⟩)] w fun e w' => e = .returned (.tuple #[.string ⟨#[]⟩, .int .i64 (spanL x).2]) ∧ ∃ w1, Below w.heap.size w w1 ∧ w1.setCell ⟨b, 2, none⟩ (.int .i64 (spanL x).1) = w' := by
  have hs := Lib.hid (spanL_any x w hG hx)
  by_cases h45 : x = [45]
  · subst h45
    generalize spanL [45] = y at *
    obtain ⟨n, e⟩ := y
    simp only at hs
    go_enter Tryz.func64, Tryz.ntmps64
    go_wp2_with fail
    refine hs.out.mono ?_
    rintro e w1 ⟨rfl, hb1⟩
    have hc1 := (hb1.cell (p := ⟨b, 2, none⟩) hbl).trans hc
    have hf1 := (hb1.frozen (p := ⟨b, 2, none⟩) hbl).trans hf
    go_wp2_with fail
    go_ret2
    exact ⟨rfl, w1, hb1, rfl⟩
  · cases x with
    | nil => cases hd
    | cons c t =>
      have hdb : (c :: t == [45]) = false := beq_eq_false_iff_ne.2 h45
      have hne : (c :: t == []) = false := rfl
      have hne' : (c :: t != []) = true := rfl
      have ht : (⟨(c :: t).toArray⟩ : ByteArray).extract 0 1 = ⟨#[c]⟩ := by rw [ba_take]; rfl
      have hC := Lib.hid (contains_byte [48, 49, 50, 51, 52, 53, 54, 55, 56, 57, 45] c w true hd)
      generalize spanL (c :: t) = y at *
      obtain ⟨n, e⟩ := y
      simp only at hs
      clear hd h45
      go_enter Tryz.func64, Tryz.ntmps64
      go_wp2_with fail
      refine hC.out.mono ?_
      rintro e w1 ⟨rfl, rfl⟩
      go_wp2_with fail
      refine hs.out.mono ?_
      rintro e w1 ⟨rfl, hb1⟩
      have hc1 := (hb1.cell (p := ⟨b, 2, none⟩) hbl).trans hc
      have hf1 := (hb1.frozen (p := ⟨b, 2, none⟩) hbl).trans hf
      go_wp2_with fail
      go_ret2
      exact ⟨rfl, w1, hb1, rfl⟩

/-- A set's name. -/
theorem rulesName_any (x : Bytes) (b : Nat) (w : World) (hG : Glob w) (hx : x.length ≤ 100000) (hd : dashy x = false) :
    Calls Tryz.prog 64 #[.string ⟨x.toArray⟩, .pointer (some ⟨b, 0, none⟩)] w fun e w' => e = .returned (.tuple #[.string ⟨x.toArray⟩, .int .i64 (if setNameF x then 0 else 23)]) ∧ Below w.heap.size w w' := by
  have hs := Lib.hid (setName_any x w hG hx)
  generalize (if setNameF x then (0 : Int) else 23) = r at *
  cases x with
  | nil =>
    go_enter Tryz.func64, Tryz.ntmps64
    go_wp2_with fail
    refine hs.out.mono ?_
    rintro e w1 ⟨rfl, hb1⟩
    go_wp2_with fail
    go_ret2
    exact ⟨rfl, hb1⟩
  | cons c t =>
    have hdb : (c :: t == [45]) = false := by
      rw [beq_eq_false_iff_ne]
      intro e
      injection e with e1 e2
      subst e1
      have h2 : dashy (45 :: t) = true := by show decide (0 ≤ Lib.indexByte [48, 49, 50, 51, 52, 53, 54, 55, 56, 57, 45] 45) = true; decide
      rw [h2] at hd
      cases hd
    have hne : (c :: t == []) = false := rfl
    have hne' : (c :: t != []) = true := rfl
    have ht : (⟨(c :: t).toArray⟩ : ByteArray).extract 0 1 = ⟨#[c]⟩ := by rw [ba_take]; rfl
    have hC := Lib.hid (contains_byte [48, 49, 50, 51, 52, 53, 54, 55, 56, 57, 45] c w false hd)
    clear hd
    go_enter Tryz.func64, Tryz.ntmps64
    go_wp2_with fail
    refine hC.out.mono ?_
    rintro e w1 ⟨rfl, rfl⟩
    go_wp2_with fail
    refine hs.out.mono ?_
    rintro e w1 ⟨rfl, hb1⟩
    go_wp2_with fail
    go_ret2
    exact ⟨rfl, hb1⟩

end Go.Proofs.YtgofleplmnibbaaGreatDoor
