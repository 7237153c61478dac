/-
  The references' years, months, days, times as plain functions; what a rule's, an era's words tell, by these.
-/
import Derived.Test.YtgofleplmnibbaaGreatDoorRefC
import Derived.Test.YtgofleplmnibbaaGreatDoorFold
import Derived.Test.YtgofleplmnibbaaGreatDoorLinZz
namespace Go.Proofs.YtgofleplmnibbaaGreatDoor.Lex

def monthsL : List Bytes := monthNames.map lowerF
def weekL : List Bytes := weekdayNames.map lowerF
theorem names_full : (∀ x ∈ monthNames, lowerF x ≠ []) ∧ (∀ x ∈ weekdayNames, lowerF x ≠ []) ∧ (∀ x ∈ kindNames, lowerF x ≠ []) ∧ (∀ x ∈ yearNames, lowerF x ≠ []) := by decide
theorem names_low : kindNames.map lowerF = kindNames ∧ yearNames.map lowerF = yearNames := by decide

theorem refFind_ge (w : Bytes) (l : List Bytes) : -1 ≤ refFind w l := by
  have key : ∀ (l : List Bytes) (lw : Bytes) (i n : Nat) (a : Int), -1 ≤ a → -1 ≤ findGo lw i n a l := by
    intro l
    induction l with
    | nil => intro lw i n a h; unfold findGo; split <;> omega
    | cons x r ih =>
      intro lw i n a h
      unfold findGo
      split
      · omega
      · split
        · exact ih _ _ _ _ (by omega)
        · exact ih _ _ _ _ h
  exact key l _ 0 0 (-1) (by omega)
def refMonth (x : Bytes) : Int × Int := if refFind x monthsL < 0 then (0, 13) else (refFind x monthsL + 1, 0)
def refWeek (x : Bytes) : Int × Int := if refFind x weekL < 0 then (0, 13) else (refFind x weekL, 0)
def refKindL (x : Bytes) (want : Int) : Bool := refFind x kindNames == want - 1
theorem month_eq (x : Bytes) : monthN x = refMonth x := by
  unfold monthN refMonth monthsL
  rw [find_eq x monthNames names_full.1]
  cases findF x monthNames with
  | none => rfl
  | some i => simp only; rw [if_neg (by omega)]
theorem week_eq (x : Bytes) : findN x weekdayNames = refWeek x := by
  unfold findN refWeek weekL
  rw [find_eq x weekdayNames names_full.2.1]
  cases findF x weekdayNames with
  | none => rfl
  | some i => simp only; rw [if_neg (by omega)]
theorem kindL_eq (x : Bytes) (want : Int) (h : 1 ≤ want) : decide ((kindN x).2 = 0 ∧ (kindN x).1 = want) = refKindL x want := by
  unfold kindN refKindL
  have := find_eq x kindNames names_full.2.2.1
  rw [names_low.1] at this
  rw [this]
  cases findF x kindNames with
  | none => simp only; rw [decide_eq_false (by simp)]; symm; rw [beq_eq_false_iff_ne]; omega
  | some i =>
    simp only
    by_cases h' : (1 : Int) + i = want
    · rw [decide_eq_true ⟨by trivial, h'⟩]; symm; rw [beq_iff_eq]; omega
    · rw [decide_eq_false (fun h => h' h.2)]; symm; rw [beq_eq_false_iff_ne]; omega
/-- The error of a line's first word. -/
theorem kindE_eq (x : Bytes) (want : Int) (h : 1 ≤ want) : (if (kindN x).2 = 0 ∧ (kindN x).1 = want then (0 : Int) else 13) = if refKindL x want then 0 else 13 := by
  rw [← kindL_eq x want h]
  simp only [decide_eq_true_eq]

/-! ### Years -/
theorem hits_mem (lw : Bytes) : ∀ (l : List Bytes) (i : Nat), ∀ y ∈ hits lw i l, lw.isEmpty = false ∧ ∃ x ∈ l, lw.isPrefixOf (lowerF x) = true
  | [], _, y, h => by simp [hits] at h
  | x :: r, i, y, h => by
    unfold hits at h
    split at h
    · rename_i hx
      exact ⟨hx.1, x, by simp, hx.2⟩
    · obtain ⟨h1, z, hz, h2⟩ := hits_mem lw r (i + 1) y h
      exact ⟨h1, z, by simp [hz], h2⟩
theorem findF_mem {w : Bytes} {l : List Bytes} {i : Nat} (h : findF w l = some i) : ∃ y, y ∈ hits (lowerF w) 0 l := by
  unfold findF at h
  split at h
  · rename_i x hx; exact ⟨x, List.mem_of_find?_eq_some hx⟩
  · split at h
    · rename_i x hx; exact ⟨x, by rw [hx]; simp⟩
    · cases h
theorem word_no_num {x : Bytes} {i : Nat} (h : findF x yearNames = some i) : refNum x = none := by
  obtain ⟨y, hy⟩ := findF_mem h
  obtain ⟨h1, z, hz, hp⟩ := hits_mem _ _ _ y hy
  cases x with
  | nil => simp [lowerF] at h1
  | cons c t =>
    have hc : lowB c = 111 ∨ lowB c = 109 := by
      rw [show lowerF (c :: t) = lowB c :: lowerF t from rfl] at hp
      simp only [yearNames, List.mem_cons, List.not_mem_nil, or_false] at hz
      rcases hz with rfl | rfl
      · left
        have : (lowB c == 111 && _) = true := hp
        exact beq_iff_eq.1 (Bool.and_eq_true _ _ ▸ this).1
      · right
        have : (lowB c == 109 && _) = true := hp
        exact beq_iff_eq.1 (Bool.and_eq_true _ _ ▸ this).1
    have hb : isDig c = false ∧ (c == 45) = false := by
      have := all_bytes (p := fun c => !(lowB c == 111 || lowB c == 109) || (!isDig c && !(c == 45))) (by decide +kernel) c
      rcases hc with hc | hc <;> simpa [hc] using this
    have hu : untilDash (c :: t) = c :: t := by show (if (c == 45) = true then t else c :: t) = c :: t; rw [hb.2]; rfl
    unfold refNum refDigs
    rw [hu]
    have hd : (c :: t).all isDig = false := by rw [List.all_cons, hb.1]; rfl
    rw [hd]
    simp only [Bool.false_eq_true, ↓reduceIte, ite_self]
theorem refYear_ok {x : Bytes} (h : (refYear x).2 = 0) : 1 ≤ (refYear x).1 ∧ (refYear x).1 ≤ 4000 := by
  unfold refYear at h ⊢
  split
  · rename_i hn; rw [hn] at h; exact absurd h (by decide)
  · rename_i n hn
    rw [hn] at h
    simp only at h
    split
    · rename_i hb; rw [if_pos hb] at h; exact absurd h (by decide)
    · simp only; omega
theorem yearL_eq (x : Bytes) : yearL x = refYear x := by
  unfold yearL yearN
  cases h : findF x yearNames with
  | some i =>
    have hr : refYear x = (0, 12) := by unfold refYear; rw [word_no_num h]
    rw [hr]
    simp only
    by_cases h0 : i = 0
    · rw [if_pos h0, if_pos ⟨by trivial, .inl (by decide)⟩]
    · rw [if_neg h0, if_pos ⟨by trivial, .inr (by trivial)⟩]
  | none =>
    simp only
    rw [numYear_eq]
    rw [if_neg]
    rintro ⟨h1, h2⟩
    have := refYear_ok h1
    omega
def refTo (x : Bytes) (fr : Int) : Int × Int :=
  if refFind x yearNames = 0 then (fr, 0) else if refFind x yearNames = 1 then (if 1048576 < fr then (0, 17) else (1048576, 0))
  else if (refYear x).2 ≠ 0 then refYear x else if (refYear x).1 < fr then (0, 17) else refYear x
theorem toL_eq (x : Bytes) (fr : Int) : toL x fr = refTo x fr := by
  unfold toL yearN refTo
  have hf := find_eq x yearNames names_full.2.2.2
  rw [names_low.2] at hf
  rw [hf]
  cases h : findF x yearNames with
  | some i =>
    have hi := findF_lt h
    have hi2 : i < 2 := hi
    obtain rfl | rfl : i = 0 ∨ i = 1 := by omega
    · show (if (0 : Int) = 0 ∧ fr < fr then ((0 : Int), (17 : Int)) else (fr, 0)) = _
      rw [if_neg (by omega)]
      rfl
    · show (if (0 : Int) = 0 ∧ 1048576 < fr then ((0 : Int), (17 : Int)) else (1048576, 0)) = (if 1048576 < fr then (0, 17) else (1048576, 0))
      by_cases hl : 1048576 < fr
      · rw [if_pos ⟨rfl, hl⟩, if_pos hl]
      · rw [if_neg (fun h => hl h.2), if_neg hl]
  | none =>
    show (if (numYear x).2 = 0 ∧ (numYear x).1 < fr then ((0 : Int), (17 : Int)) else numYear x) = (if (refYear x).2 ≠ 0 then refYear x else if (refYear x).1 < fr then (0, 17) else refYear x)
    rw [numYear_eq]
    by_cases h2 : (refYear x).2 = 0
    · rw [if_neg (show ¬ (refYear x).2 ≠ 0 from fun h => h h2)]
      by_cases hl : (refYear x).1 < fr
      · rw [if_pos ⟨h2, hl⟩, if_pos hl]
      · rw [if_neg (fun h => hl h.2), if_neg hl]
    · rw [if_neg (fun h => h2 h.1), if_pos h2]

/-! ### Seconds, times, days -/
def refOff (x : Bytes) : Int × Int := if (refSpan x).2 = 0 ∧ (90000 ≤ (refSpan x).1 ∨ (refSpan x).1 ≤ -90000) then (0, 10) else refSpan x
theorem off_eq (x : Bytes) : spanL x = refOff x := by unfold spanL refOff; rw [span_eq]
def refClockR (rest : Bytes) (kind : Int) : Int × Int × Int := if (refSpan rest).2 = 0 then ((refSpan rest).1, kind, 0) else (0, 0, (refSpan rest).2)
def refClock (x : Bytes) : Int × Int × Int := match x.getLast? with
  | none => refClockR [] 0
  | some c => refClockR (if refCuts c then x.dropLast else x) (refKind c)
theorem clock_eq (x : Bytes) : clockN x = refClock x := by
  unfold clockN refClock clockR refClockR
  cases x.getLast? with
  | none => simp only [span_eq]
  | some c => simp only [span_eq, kind_eq, cuts_eq]
def refFix (x : Bytes) : Int × Int × Int × Int := if (refDayNum x).2 = 0 then (0, 0, (refDayNum x).1, 0) else (0, 0, 0, (refDayNum x).2)
def refLast (x : Bytes) : Int × Int × Int × Int := if (refWeek (x.drop 4)).2 = 0 then (1, (refWeek (x.drop 4)).1, 0, 0) else (0, 0, 0, (refWeek (x.drop 4)).2)
def refSigned (x : Bytes) (k : Nat) (kind : Int) : Int × Int × Int × Int :=
  if (refWeek (x.take k)).2 = 0 then (if (refDayNum (x.drop (k + 2))).2 = 0 then (kind, (refWeek (x.take k)).1, (refDayNum (x.drop (k + 2))).1, 0) else (0, 0, 0, (refDayNum (x.drop (k + 2))).2)) else (0, 0, 0, (refWeek (x.take k)).2)
def refDay (x : Bytes) : Int × Int × Int × Int := match refSign x with
  | some (i, g) => refSigned x i (if g then 2 else 3)
  | none => if 4 ≤ x.length ∧ lowerF (x.take 4) = lastW then refLast x else refFix x
theorem day_eq (x : Bytes) : dayN x = refDay x := by
  unfold dayN refDay
  rw [sign_eq]
  cases refSign x with
  | none =>
    simp only
    rw [if_neg (by decide), fold_last]
    simp only [decide_eq_true_eq]
    unfold dayLast dayFix refLast refFix
    rw [week_eq, numDay_eq]
  | some p =>
    obtain ⟨i, g⟩ := p
    simp only
    rw [if_pos (by omega), Int.toNat_natCast]
    unfold daySign refSigned
    rw [week_eq, numDay_eq]

/-! ### A rule, an era, by the references' words -/
def refLetter (x : Bytes) : Bytes × Int := if x = [45] then ([], 0) else if refPlain x 1 8 then (x, 0) else ([], 23)
theorem letter_eq (x : Bytes) : letterL x = refLetter x := by unfold letterL refLetter; rw [refPlain_eq]
def ruleErR (a0 a1 a2 a3 a4 a5 a6 a7 a8 a9 : Bytes) : List Int := [if refKindL a0 1 then 0 else 13, if refSet a1 then 0 else 23, (refYear a2).2, (refTo a3 (refYear a2).1).2, if a4 = [45] then 0 else 12, (refMonth a5).2, (refDay a6).2.2.2, (refClock a7).2.2, (refOff a8).2, (refLetter a9).2]
def ruleOfR (a1 a2 a3 a5 a6 a7 a8 a9 : Bytes) : RuleV := ⟨a1, (refYear a2).1, (refTo a3 (refYear a2).1).1, (refMonth a5).1, (refDay a6).1, (refDay a6).2.1, (refDay a6).2.2.1, (refClock a7).1, (refClock a7).2.1, (refOff a8).1, (refLetter a9).1⟩
def firstL : List Int → Int
  | [] => 0
  | e :: r => if e ≠ 0 then e else firstL r
theorem firstE_congr {f g : Nat → Int} : ∀ {n : Nat}, (∀ i, i < n → f i = g i) → firstE f n = firstE g n
  | 0, _ => rfl
  | n + 1, h => by rw [firstE, firstE, firstE_congr (fun i hi => h i (by omega)), h n (by omega)]
theorem firstE_succ (f : Nat → Int) : ∀ n, firstE f (n + 1) = if f 0 ≠ 0 then f 0 else firstE (fun k => f (k + 1)) n
  | 0 => by
    show (if firstE f 0 ≠ 0 then firstE f 0 else f 0) = _
    rw [show firstE f 0 = 0 from rfl, show firstE (fun k => f (k + 1)) 0 = 0 from rfl, if_neg (by simp)]
    split
    · rfl
    · rename_i h; simpa using h
  | n + 1 => by
    rw [firstE, firstE_succ f n, firstE]
    by_cases h0 : f 0 ≠ 0
    · rw [if_pos h0, if_pos h0, if_pos h0]
    · rw [if_neg h0, if_neg h0]
theorem firstE_list : ∀ l : List Int, firstE (errs l) l.length = firstL l
  | [] => rfl
  | e :: r => by
    rw [List.length_cons, firstE_succ, firstL, ← firstE_list r]
    rfl
theorem dashL_err (x : Bytes) : (dashL x).2 = if x = [45] then 0 else 12 := by unfold dashL; split <;> rfl
theorem rule_eq (a0 a1 a2 a3 a4 a5 a6 a7 a8 a9 : Bytes) : ruleN [a0, a1, a2, a3, a4, a5, a6, a7, a8, a9] =
    if firstL (ruleErR a0 a1 a2 a3 a4 a5 a6 a7 a8 a9) = 0 then (ruleOfR a1 a2 a3 a5 a6 a7 a8 a9, 0) else (ruleZ, firstL (ruleErR a0 a1 a2 a3 a4 a5 a6 a7 a8 a9)) := by
  have h1 : firstE (ruleEr a0 a1 a2 a3 a4 a5 a6 a7 a8 a9) 10 = firstL (ruleErR a0 a1 a2 a3 a4 a5 a6 a7 a8 a9) := by
    rw [← firstE_list]
    unfold ruleEr ruleErR
    rw [kindE_eq a0 1 (by decide), refSet_eq, yearL_eq, toL_eq, dashL_err, month_eq, day_eq, clock_eq, off_eq, letter_eq]
    rfl
  have h2 : ruleOf a1 a2 a3 a5 a6 a7 a8 a9 = ruleOfR a1 a2 a3 a5 a6 a7 a8 a9 := by
    unfold ruleOf ruleOfR
    rw [yearL_eq, toL_eq, month_eq, day_eq, clock_eq, off_eq, letter_eq]
  show (if firstE (ruleEr a0 a1 a2 a3 a4 a5 a6 a7 a8 a9) 10 = 0 then (ruleOf a1 a2 a3 a5 a6 a7 a8 a9, (0 : Int)) else (ruleZ, firstE (ruleEr a0 a1 a2 a3 a4 a5 a6 a7 a8 a9) 10)) = _
  rw [h1, h2]

end Go.Proofs.YtgofleplmnibbaaGreatDoor.Lex
