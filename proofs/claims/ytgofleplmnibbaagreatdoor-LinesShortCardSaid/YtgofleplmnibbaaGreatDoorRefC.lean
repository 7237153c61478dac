/-
  The references' spans, times and days as plain functions: they tell what the program's tell.
-/
import Derived.Test.YtgofleplmnibbaaGreatDoorRefB
import Derived.Test.YtgofleplmnibbaaGreatDoorLinO
namespace Go.Proofs.YtgofleplmnibbaaGreatDoor.Lex

/-! ### Spans -/
def digN (s : Bytes) : Int := if s = [] then -1 else if s.all isDig then decV 0 s else -1
def refRest : Nat → Int → List Bytes → Option Int
  | _, n, [] => some n
  | i, n, p :: r => if p.length ≠ 2 ∨ digN p < 0 ∨ 59 < digN p then none else refRest (i + 1) (n + (if i = 1 then 60 * digN p else digN p)) r
def refSum : List Bytes → Option Int
  | [] => none
  | a :: r => if 3 < (a :: r).length ∨ 3 < a.length ∨ digN a < 0 then none else refRest 1 (3600 * digN a) r
def refSpan (x : Bytes) : Int × Int :=
  if x = [45] then (0, 0) else match refSum (pieces 58 (untilDash x)) with
  | none => (0, 12)
  | some n => if 604800 ≤ n then (0, 10) else (if negB x then -n else n, 0)

theorem digN_ge (p : Bytes) : -1 ≤ digN p := by unfold digN; split <;> (try split) <;> omega
theorem digN_ok (p : Bytes) : 0 ≤ digN p ↔ p ≠ [] ∧ p.all isDig = true := by
  unfold digN
  by_cases h : p = []
  · rw [if_pos h]; exact iff_of_false (by omega) (fun h' => h'.1 h)
  · rw [if_neg h]
    by_cases hd : p.all isDig = true
    · rw [if_pos hd]; exact iff_of_true (by omega) ⟨h, hd⟩
    · rw [if_neg hd]; exact iff_of_false (by omega) (fun h' => hd h'.2)
theorem digN_val {p : Bytes} (h : 0 ≤ digN p) : digN p = decV 0 p := by
  obtain ⟨h1, h2⟩ := (digN_ok p).1 h
  unfold digN
  rw [if_neg h1, if_pos h2]
theorem numP_zero (p : Bytes) : numP 0 p = if 3 < p.length ∨ digN p < 0 then -1 else digN p := by
  unfold numP
  by_cases h : okNum 0 p = true
  · rw [if_pos h]
    unfold okNum at h
    simp only [↓reduceIte, Bool.and_eq_true, Bool.not_eq_true', List.isEmpty_eq_false_iff, decide_eq_true_eq] at h
    have h0 := (digN_ok p).2 h.1
    rw [if_neg (by omega), digN_val h0]
  · rw [if_neg h]
    split
    · rfl
    · rename_i h'
      obtain ⟨h1, h2⟩ := (digN_ok p).1 (by omega)
      refine absurd ?_ h
      unfold okNum
      simp only [↓reduceIte, Bool.and_eq_true, Bool.not_eq_true', List.isEmpty_eq_false_iff, decide_eq_true_eq]
      exact ⟨⟨h1, h2⟩, by omega⟩
theorem numP_succ (i : Nat) (hi : i ≠ 0) (p : Bytes) : numP i p = if p.length ≠ 2 ∨ digN p < 0 ∨ 59 < digN p then -1 else digN p := by
  unfold numP
  by_cases h : okNum i p = true
  · rw [if_pos h]
    unfold okNum at h
    simp only [if_neg hi, Bool.and_eq_true, Bool.not_eq_true', List.isEmpty_eq_false_iff, decide_eq_true_eq] at h
    have h0 := (digN_ok p).2 h.1
    have hv := digN_val h0
    rw [if_neg (by omega), hv]
  · rw [if_neg h]
    split
    · rfl
    · rename_i h'
      have h0 : 0 ≤ digN p := by omega
      obtain ⟨h1, h2⟩ := (digN_ok p).1 h0
      have hv := digN_val h0
      refine absurd ?_ h
      unfold okNum
      simp only [if_neg hi, Bool.and_eq_true, Bool.not_eq_true', List.isEmpty_eq_false_iff, decide_eq_true_eq]
      exact ⟨⟨h1, h2⟩, by omega, by omega⟩
theorem addS_num {i : Nat} {p : Bytes} {v : Int} (hi : i < 3) (bad : Prop) [Decidable bad] (h : numP i p = if bad then -1 else digN p) (hd : ¬ bad → 0 ≤ digN p) :
    addS (some v) (i, numP i p) = if bad then none else some (v + digN p * (if i = 0 then 3600 else if i = 1 then 60 else 1)) := by
  unfold addS
  simp only
  rw [h]
  by_cases hb : bad
  · rw [if_pos hb, if_pos hb, if_pos (.inl (by decide))]
  · rw [if_neg hb, if_neg hb, if_neg (by have := hd hb; omega)]
abbrev badP (p : Bytes) : Prop := p.length ≠ 2 ∨ digN p < 0 ∨ 59 < digN p
theorem add0 (a : Bytes) : addS (some 0) (0, numP 0 a) = if 3 < a.length ∨ digN a < 0 then none else some (3600 * digN a) := by
  rw [addS_num (by decide) _ (numP_zero a) (fun h => by omega)]
  split
  · rfl
  · rw [if_pos rfl]; congr 1; omega
theorem add1 (b : Bytes) (v : Int) : addS (some v) (1, numP 1 b) = if badP b then none else some (v + 60 * digN b) := by
  rw [addS_num (by decide) (badP b) (numP_succ 1 (by decide) b) (fun h => by unfold badP at h; omega)]
  by_cases h : badP b
  · rw [if_pos h, if_pos h]
  · rw [if_neg h, if_neg h, if_neg (by decide), if_pos rfl]; congr 1; omega
theorem add2 (c : Bytes) (v : Int) : addS (some v) (2, numP 2 c) = if badP c then none else some (v + digN c) := by
  rw [addS_num (by decide) (badP c) (numP_succ 2 (by decide) c) (fun h => by unfold badP at h; omega)]
  by_cases h : badP c
  · rw [if_pos h, if_pos h]
  · rw [if_neg h, if_neg h, if_neg (by decide), if_neg (by decide)]; congr 1; omega
theorem add3 (d : Bytes) (v : Int) : addS (some v) (3, numP 3 d) = none := by unfold addS; simp only; rw [if_pos (.inr (by decide))]
theorem refSum_cons (a : Bytes) (r : List Bytes) : refSum (a :: r) = if 3 < (a :: r).length ∨ 3 < a.length ∨ digN a < 0 then none else refRest 1 (3600 * digN a) r := rfl
theorem refRest_cons (i : Nat) (n : Int) (p : Bytes) (r : List Bytes) : refRest i n (p :: r) = if badP p then none else refRest (i + 1) (n + (if i = 1 then 60 * digN p else digN p)) r := rfl
theorem sum_eq : ∀ l : List Bytes, l ≠ [] → sumS (numsF 0 l) = refSum l
  | [], h => absurd rfl h
  | [a], _ => by
    show addS (some 0) (0, numP 0 a) = _
    rw [add0, refSum_cons]
    by_cases ha : 3 < a.length ∨ digN a < 0
    · rw [if_pos ha, if_pos (.inr ha)]
    · rw [if_neg ha, if_neg (by simp only [List.length_cons, List.length_nil]; omega)]
      rfl
  | [a, b], _ => by
    show addS (addS (some 0) (0, numP 0 a)) (1, numP 1 b) = _
    rw [add0, refSum_cons]
    by_cases ha : 3 < a.length ∨ digN a < 0
    · rw [if_pos ha, if_pos (.inr ha)]; rfl
    · rw [if_neg ha, if_neg (by simp only [List.length_cons, List.length_nil]; omega), add1, refRest_cons]
      by_cases hb : badP b
      · rw [if_pos hb, if_pos hb]
      · rw [if_neg hb, if_neg hb, if_pos rfl]; rfl
  | [a, b, c], _ => by
    show addS (addS (addS (some 0) (0, numP 0 a)) (1, numP 1 b)) (2, numP 2 c) = _
    rw [add0, refSum_cons]
    by_cases ha : 3 < a.length ∨ digN a < 0
    · rw [if_pos ha, if_pos (.inr ha)]; rfl
    · rw [if_neg ha, if_neg (by simp only [List.length_cons, List.length_nil]; omega), add1, refRest_cons]
      by_cases hb : badP b
      · rw [if_pos hb, if_pos hb]; rfl
      · rw [if_neg hb, if_neg hb, add2, refRest_cons, if_pos rfl]
        by_cases hc : badP c
        · rw [if_pos hc, if_pos hc]
        · rw [if_neg hc, if_neg hc]; rfl
  | a :: b :: c :: d :: r, _ => by
    show List.foldl addS (addS (addS (addS (addS (some 0) (0, numP 0 a)) (1, numP 1 b)) (2, numP 2 c)) (3, numP 3 d)) (numsF 4 r) = _
    have key : ∀ o : Option Int, addS o (3, numP 3 d) = none := fun o => by
      cases o with
      | none => rfl
      | some v => exact add3 d v
    rw [key, addS_none, refSum_cons, if_pos (.inl (by simp only [List.length_cons]; omega))]
theorem refRest_ge : ∀ (l : List Bytes) (i : Nat) (n m : Int), 0 ≤ n → refRest i n l = some m → 0 ≤ m
  | [], i, n, m, h, he => by unfold refRest at he; injection he with he; omega
  | p :: r, i, n, m, h, he => by
    unfold refRest at he
    split at he
    · cases he
    · refine refRest_ge r _ _ _ ?_ he
      split <;> omega
theorem refSum_ge {l : List Bytes} {m : Int} (h : refSum l = some m) : 0 ≤ m := by
  cases l with
  | nil => cases h
  | cons a r =>
    rw [refSum_cons] at h
    split at h
    · cases h
    · exact refRest_ge _ _ _ _ (by omega) h
theorem span_eq (x : Bytes) : spanN x = refSpan x := by
  unfold spanN refSpan
  split
  · rfl
  · obtain ⟨p, r, hp⟩ := pieces_cons 58 (untilDash x)
    rw [sum_eq _ (by rw [hp]; simp)]
    cases hs : refSum (pieces 58 (untilDash x)) with
    | none => rfl
    | some n =>
      have := refSum_ge hs
      simp only
      by_cases h : 604800 ≤ n
      · rw [if_pos h, if_neg (by omega)]
      · rw [if_neg h, if_pos (by omega)]

/-! ### Times of a day -/
def refKind (c : UInt8) : Int := if c == 117 || c == 103 || c == 122 then 2 else if c == 115 then 1 else 0
def refCuts (c : UInt8) : Bool := c == 117 || c == 103 || c == 122 || c == 115 || c == 119
theorem kind_eq (c : UInt8) : kindF c 3 = refKind c := by
  have := all_bytes (p := fun c => kindF c 3 == refKind c) (by decide +kernel) c
  simpa using this
theorem cuts_eq (c : UInt8) : cutsF c 3 = refCuts c := by
  have := all_bytes (p := fun c => cutsF c 3 == refCuts c) (by decide +kernel) c
  simpa using this

/-! ### Days -/
def refSign : Bytes → Option (Nat × Bool)
  | a :: b :: t => if b == 61 && (a == 62 || a == 60) then some (0, a == 62) else (refSign (b :: t)).map fun (p : Nat × Bool) => (p.1 + 1, p.2)
  | _ => none
theorem index_cons (a : UInt8) (t sub : Bytes) (h : sub.isPrefixOf (a :: t) = false) : Lib.index (a :: t) sub = if Lib.index t sub == -1 then -1 else Lib.index t sub + 1 := by
  rw [Lib.index, h]
  rfl
theorem sign_eq : ∀ x : Bytes, signN x = match refSign x with
    | none => (-1, 0)
    | some (i, g) => ((i : Int), if g then 2 else 3)
  | [] => rfl
  | [a] => by
    unfold signN sign3 idxG idxL
    have h1 : Lib.index [a] [62, 61] = -1 := by simp [Lib.index, List.isPrefixOf]
    have h2 : Lib.index [a] [60, 61] = -1 := by simp [Lib.index, List.isPrefixOf]
    rw [h1, h2]
    rfl
  | a :: b :: t => by
    have ih := sign_eq (b :: t)
    unfold refSign
    have hG := Lib.index_ge (b :: t) [62, 61]
    have hL := Lib.index_ge (b :: t) [60, 61]
    have pG : ([62, 61] : Bytes).isPrefixOf (a :: b :: t) = (b == 61 && a == 62) := by
      show ((62 : UInt8) == a && ((61 : UInt8) == b && true)) = _
      rw [Bool.and_true, Bool.and_comm, Bool.beq_comm (a := (62 : UInt8)), Bool.beq_comm (a := (61 : UInt8))]
    have pL : ([60, 61] : Bytes).isPrefixOf (a :: b :: t) = (b == 61 && a == 60) := by
      show ((60 : UInt8) == a && ((61 : UInt8) == b && true)) = _
      rw [Bool.and_true, Bool.and_comm, Bool.beq_comm (a := (60 : UInt8)), Bool.beq_comm (a := (61 : UInt8))]
    unfold signN sign3 idxG idxL at ih ⊢
    by_cases hb : (b == 61) = true
    · by_cases hg : (a == 62) = true
      · have ha : a = 62 := by simpa using hg
        subst ha
        have iG : Lib.index (62 :: b :: t) [62, 61] = 0 := by rw [Lib.index, pG, hb]; rfl
        have iL : ¬ (0 ≤ Lib.index (62 :: b :: t) [60, 61] ∧ Lib.index (62 :: b :: t) [60, 61] < 0) := by omega
        rw [iG, hb]
        simp only [Int.le_refl, ↓reduceIte, hg, Bool.true_or, Bool.and_self]
        rw [if_neg]
        · rfl
        · rintro ⟨h1, h2 | h2⟩
          · exact absurd h2 (by decide)
          · omega
      · by_cases hl : (a == 60) = true
        · have ha : a = 60 := by simpa using hl
          subst ha
          have iL : Lib.index (60 :: b :: t) [60, 61] = 0 := by rw [Lib.index, pL, hb]; rfl
          have iG := index_cons 60 (b :: t) [62, 61] (by rw [pG, hb]; rfl)
          rw [iL, hb, if_pos]
          · rfl
          · refine ⟨by decide, ?_⟩
            rw [iG]
            split
            · rename_i h
              rw [if_neg (by omega)]
              exact .inl (by decide)
            · rename_i h
              have : Lib.index (b :: t) [62, 61] ≠ -1 := by simpa using h
              rw [if_pos (by omega)]
              exact .inr (by simp only; omega)
        · have iG := index_cons a (b :: t) [62, 61] (by rw [pG]; simp [hg])
          have iL := index_cons a (b :: t) [60, 61] (by rw [pL]; simp [hl])
          have hg' : (a == 62) = false := by simpa using hg
          have hl' : (a == 60) = false := by simpa using hl
          rw [hb, hg', hl']
          simp only [Bool.or_self, Bool.and_false, Bool.false_eq_true, ↓reduceIte]
          rw [iG, iL]
          exact sign_shift hG hL ih
    · have hb' : (b == 61) = false := by simpa using hb
      have iG := index_cons a (b :: t) [62, 61] (by rw [pG, hb']; rfl)
      have iL := index_cons a (b :: t) [60, 61] (by rw [pL, hb']; rfl)
      rw [hb']
      simp only [Bool.false_and, Bool.false_eq_true, ↓reduceIte]
      rw [iG, iL]
      exact sign_shift hG hL ih
where
  sign_shift {g l : Int} {r : Option (Nat × Bool)} (hG : -1 ≤ g) (hL : -1 ≤ l)
      (ih : (if 0 ≤ l ∧ ((if 0 ≤ g then (g, (2 : Int)) else (-1, 0)).1 < 0 ∨ l < (if 0 ≤ g then (g, (2 : Int)) else (-1, 0)).1) then (l, (3 : Int)) else (if 0 ≤ g then (g, 2) else (-1, 0))) = match r with
        | none => (-1, 0)
        | some (i, g) => ((i : Int), if g then 2 else 3)) :
      (if 0 ≤ (if l == -1 then -1 else l + 1) ∧ ((if 0 ≤ (if g == -1 then -1 else g + 1) then ((if g == -1 then -1 else g + 1), (2 : Int)) else (-1, 0)).1 < 0 ∨ (if l == -1 then -1 else l + 1) < (if 0 ≤ (if g == -1 then -1 else g + 1) then ((if g == -1 then -1 else g + 1), (2 : Int)) else (-1, 0)).1) then ((if l == -1 then -1 else l + 1), (3 : Int)) else (if 0 ≤ (if g == -1 then -1 else g + 1) then ((if g == -1 then -1 else g + 1), 2) else (-1, 0))) = match (r.map fun (p : Nat × Bool) => (p.1 + 1, p.2)) with
        | none => (-1, 0)
        | some (i, g) => ((i : Int), if g then 2 else 3) := by
    have shift : ∀ z : Int, -1 ≤ z → (if z == -1 then (-1 : Int) else z + 1) = if 0 ≤ z then z + 1 else -1 := fun z hz => by
      by_cases h : z = -1
      · subst h; rfl
      · rw [if_neg (by simpa using h), if_pos (by omega)]
    rw [shift g hG, shift l hL]
    by_cases g0 : 0 ≤ g
    · rw [if_pos g0] at ih ⊢
      rw [if_pos (show (0 : Int) ≤ g + 1 by omega)]
      by_cases l0 : 0 ≤ l
      · rw [if_pos l0]
        simp only at ih ⊢
        by_cases hlg : l < g
        · rw [if_pos ⟨l0, .inr hlg⟩] at ih
          rw [if_pos ⟨by omega, .inr (by omega)⟩]
          cases r with
          | none => exact absurd (congrArg Prod.fst ih) (by simp only; omega)
          | some p => obtain ⟨i, b⟩ := p; simp only [Prod.mk.injEq] at ih; simp only [Option.map_some, Prod.mk.injEq]; exact ⟨by omega, ih.2⟩
        · rw [if_neg (by omega)] at ih
          rw [if_neg (by omega)]
          cases r with
          | none => exact absurd (congrArg Prod.fst ih) (by simp only; omega)
          | some p => obtain ⟨i, b⟩ := p; simp only [Prod.mk.injEq] at ih; simp only [Option.map_some, Prod.mk.injEq]; exact ⟨by omega, ih.2⟩
      · rw [if_neg l0]
        rw [if_neg (by omega)] at ih
        rw [if_neg (by omega)]
        cases r with
        | none => exact absurd (congrArg Prod.fst ih) (by simp only; omega)
        | some p => obtain ⟨i, b⟩ := p; simp only [Prod.mk.injEq] at ih; simp only [Option.map_some, Prod.mk.injEq]; exact ⟨by omega, ih.2⟩
    · rw [if_neg g0] at ih ⊢
      rw [if_neg (show ¬ (0 : Int) ≤ -1 by decide)]
      by_cases l0 : 0 ≤ l
      · rw [if_pos l0]
        rw [if_pos ⟨l0, .inl (by decide)⟩] at ih
        rw [if_pos ⟨by omega, .inl (by decide)⟩]
        cases r with
        | none => exact absurd (congrArg Prod.fst ih) (by simp only; omega)
        | some p => obtain ⟨i, b⟩ := p; simp only [Prod.mk.injEq] at ih; simp only [Option.map_some, Prod.mk.injEq]; exact ⟨by omega, ih.2⟩
      · rw [if_neg l0]
        rw [if_neg (by omega)] at ih
        rw [if_neg (by omega)]
        cases r with
        | none => rfl
        | some p => obtain ⟨i, b⟩ := p; simp only [Prod.mk.injEq] at ih; omega

theorem fold_last (s : Bytes) : Lib.equalFold s lastW = decide (lowerF s = lastW) := by
  have key : ∀ (t s : Bytes), (∀ y ∈ t, y ∈ lastW) → Lib.equalFold s t = decide (lowerF s = t) := by
    intro t
    induction t with
    | nil =>
      intro s _
      cases s with
      | nil => rfl
      | cons c s => unfold Lib.equalFold lowerF; simp
    | cons y t ih =>
      intro s hy
      cases s with
      | nil => unfold Lib.equalFold lowerF; simp
      | cons c s =>
        have h1 : Lib.foldEq c y = decide (lowB c = y) := by
          have hm := hy y (by simp)
          simp only [lastW, List.mem_cons, List.not_mem_nil, or_false] at hm
          have h : ∀ y ∈ lastW, ∀ c, Lib.foldEq c y = decide (lowB c = y) := by
            intro y hy c
            have := all_bytes (p := fun c => lastW.all fun y => Lib.foldEq c y == decide (lowB c = y)) (by decide +kernel) c
            simpa using List.all_eq_true.1 this y hy
          exact h y (hy y (by simp)) c
        unfold Lib.equalFold
        rw [h1, ih s (fun z hz => hy z (by simp [hz]))]
        unfold lowerF
        rw [List.map_cons, Bool.eq_iff_iff]
        simp
  exact key lastW s (fun y hy => hy)

end Go.Proofs.YtgofleplmnibbaaGreatDoor.Lex
