/-
  The plain law of the lexer: the words of a line that words make are these, whatever gaps stand between; the words of a line may be joined again.
-/
import Derived.Test.YtgofleplmnibbaaDoorLexP
import Derived.Lib.Join
namespace Go.Proofs.YtgofleplmnibbaaDoor.Lex

/-- A word as it stands in a line. -/
def quoteW (w : Bytes) : Bytes := if w = [] ∨ w.any (inSet [32, 9, 35]) = true then 34 :: (w ++ [34]) else w
def badWord (w : Bytes) : Bool := w.any (inSet [0, 10, 13, 34])
/-- The line of words, and the number of what is wrong with them. -/
def joinF (ws : List Bytes) : Bytes × Int :=
  if 32 < ws.length then ([], 14) else if ws.any badWord then ([], 12) else (Lib.join (ws.map quoteW) [32], 0)
/-- A line's words, and the number of what is wrong with it. -/
def wordsF (s : Bytes) : List Bytes × Int :=
  if s.any (inSet [0, 10, 13]) then ([], 12) else if (wordsL s).2 = false then ([], 12) else if 32 < (wordsL s).1.length then ([], 14) else ((wordsL s).1, 0)

/-- Where a word ends: at the line's end, at a gap, at a comment. -/
def ends (r : Bytes) : Prop := ∀ c t, r = c :: t → (isGap c || c == 35) = true
theorem ends_nil : ends [] := fun _ _ h => by cases h
theorem ends_gap {c : UInt8} {t : Bytes} (h : isGap c = true) : ends (c :: t) := fun _ _ e => by cases e; rw [h]; rfl

theorem scan_end {r acc : Bytes} (h : ends r) : scan r false acc = some (acc, r) := by
  cases r with
  | nil => rfl
  | cons c t => rw [scan, if_pos (h c t rfl)]

theorem plainByte {c : UInt8} (h1 : inSet [0, 10, 13, 34] c = false) (h2 : inSet [32, 9, 35] c = false) : (isGap c || c == 35) = false ∧ (c == 34) = false := by
  unfold inSet at h1 h2
  simp at h1 h2
  unfold isGap
  simp [h1, h2]

theorem scan_plain {r : Bytes} (hr : ends r) : ∀ (w acc : Bytes), w.any (inSet [0, 10, 13, 34]) = false → w.any (inSet [32, 9, 35]) = false → scan (w ++ r) false acc = some (acc ++ w, r)
  | [], acc, _, _ => by rw [List.nil_append, List.append_nil, scan_end hr]
  | c :: w, acc, h1, h2 => by
    rw [List.any_cons, Bool.or_eq_false_iff] at h1 h2
    obtain ⟨p1, p2⟩ := plainByte h1.1 h2.1
    rw [List.cons_append, scan, p1, p2]
    simp only [Bool.false_eq_true, ↓reduceIte]
    rw [scan_plain hr w _ h1.2 h2.2]
    simp

theorem scan_quoted {r : Bytes} (hr : ends r) : ∀ (w acc : Bytes), w.any (inSet [0, 10, 13, 34]) = false → scan (w ++ (34 :: r)) true acc = some (acc ++ w, r)
  | [], acc, _ => by rw [List.nil_append, scan]; simp only [beq_self_eq_true, ↓reduceIte]; rw [scan_end hr, List.append_nil]
  | c :: w, acc, h1 => by
    rw [List.any_cons, Bool.or_eq_false_iff] at h1
    have : (c == 34) = false := by
      have := h1.1
      unfold inSet at this
      simp at this
      simp [this]
    rw [List.cons_append, scan, this]
    simp only [Bool.false_eq_true, ↓reduceIte]
    rw [scan_quoted hr w _ h1.2]
    simp

/-- A word as it stands in a line, and what ends it: the word is read. -/
theorem scan_word {w r : Bytes} (hw : badWord w = false) (hr : ends r) : scan (quoteW w ++ r) false [] = some (w, r) := by
  unfold badWord at hw
  unfold quoteW
  split
  · rw [List.cons_append, scan]
    simp only [show (isGap 34 || (34 : UInt8) == 35) = false from by decide, Bool.false_eq_true, ↓reduceIte, beq_self_eq_true]
    rw [List.append_assoc, List.singleton_append, scan_quoted hr w _ hw, List.nil_append]
  · rename_i h
    rw [scan_plain hr w _ hw (by cases h2 : w.any (inSet [32, 9, 35]) <;> simp_all), List.nil_append]

theorem quoted_head {w : Bytes} (hw : badWord w = false) : ∃ c t, quoteW w = c :: t ∧ isGap c = false ∧ (c == 35) = false := by
  unfold quoteW
  split
  · exact ⟨34, _, rfl, by decide, by decide⟩
  · rename_i h
    cases w with
    | nil => simp at h
    | cons c t =>
      refine ⟨c, t, rfl, ?_⟩
      have h2 : inSet [32, 9, 35] c = false := by
        cases h3 : inSet [32, 9, 35] c
        · rfl
        · exact absurd (.inr (by rw [List.any_cons, h3]; rfl)) h
      have h1 : inSet [0, 10, 13, 34] c = false := by
        unfold badWord at hw
        rw [List.any_cons, Bool.or_eq_false_iff] at hw
        exact hw.1
      obtain ⟨p1, _⟩ := plainByte h1 h2
      rw [Bool.or_eq_false_iff] at p1
      exact p1

theorem skip_gaps {g r : Bytes} (hg : g.all isGap = true) : skipGaps (g ++ r) = skipGaps r := by
  unfold skipGaps
  induction g with
  | nil => rfl
  | cons c t ih =>
    rw [List.all_cons, Bool.and_eq_true] at hg
    rw [List.cons_append, List.dropWhile_cons_of_pos hg.1, ih hg.2]

/-- One more word ahead. -/
theorem words_cons {g w r : Bytes} (hg : g.all isGap = true) (hw : badWord w = false) (hr : ends r) : wordsL (g ++ (quoteW w ++ r)) = (w :: (wordsL r).1, (wordsL r).2) := by
  obtain ⟨c, t, hq, hc, hh⟩ := quoted_head hw
  have hs : skipGaps (g ++ (quoteW w ++ r)) = c :: (t ++ r) := by
    rw [skip_gaps hg, hq, List.cons_append]
    unfold skipGaps
    rw [List.dropWhile_cons_of_neg (by rw [hc]; simp)]
  have hsc := scan_word hw hr
  rw [hq, List.cons_append] at hsc
  rw [wordsL_eq, hs]
  simp only [hh, hsc]
  rfl

/-- Words, each with gaps ahead. -/
def laid : List (Bytes × Bytes) → Bytes
  | [] => []
  | (g, w) :: l => g ++ (quoteW w ++ laid l)

theorem laid_append (l m : List (Bytes × Bytes)) : laid (l ++ m) = laid l ++ laid m := by
  induction l with
  | nil => rfl
  | cons x l ih => obtain ⟨g, w⟩ := x; simp [laid, ih]

theorem words_laid : ∀ (l : List (Bytes × Bytes)) (r : Bytes), (∀ x ∈ l, x.1.all isGap = true ∧ badWord x.2 = false) → (∀ x ∈ l.drop 1, x.1 ≠ []) → ends r →
    wordsL (laid l ++ r) = (l.map (·.2) ++ (wordsL r).1, (wordsL r).2)
  | [], r, _, _, _ => by simp [laid]
  | (g, w) :: l, r, h, h1, hr => by
    have hx := h (g, w) (by simp)
    have hend : ends (laid l ++ r) := by
      cases l with
      | nil => exact hr
      | cons y l =>
        obtain ⟨g2, w2⟩ := y
        have hne := h1 (g2, w2) (by simp)
        have hg2 := (h (g2, w2) (by simp)).1
        cases g2 with
        | nil => exact absurd rfl hne
        | cons c t =>
          simp only [laid, List.cons_append]
          rw [List.all_cons, Bool.and_eq_true] at hg2
          exact ends_gap hg2.1
    have := words_laid l r (fun x hx => h x (by simp [hx])) (fun x hx => h1 x (by simp only [List.drop_succ_cons, List.drop_zero]; exact List.mem_of_mem_drop hx)) hr
    simp only [laid]
    rw [List.append_assoc, List.append_assoc, words_cons hx.1 hx.2 hend, this]
    rfl

theorem joinTail_laid (r : List Bytes) : Lib.joinTail [32] (r.map quoteW) = laid (r.map fun w => ([32], w)) := by
  induction r with
  | nil => rfl
  | cons w r ih =>
    unfold Lib.joinTail at ih ⊢
    simp only [List.map_cons, List.flatten_cons, laid]
    rw [ih]
    simp
theorem join_laid (w : Bytes) (r : List Bytes) : Lib.join ((w :: r).map quoteW) [32] = laid (([], w) :: r.map fun w => ([32], w)) := by
  rw [List.map_cons, Lib.join_cons, joinTail_laid]
  rfl

/-- No byte of a line that is wrong whatever stands around it. -/
theorem quoted_none {w : Bytes} (hw : badWord w = false) : (quoteW w).any (inSet [0, 10, 13]) = false := by
  have h1 : w.any (inSet [0, 10, 13]) = false := by
    unfold badWord at hw
    rw [List.any_eq_false] at hw ⊢
    intro x hx
    have := hw x hx
    unfold inSet at this ⊢
    simp at this ⊢
    simp [this]
  unfold quoteW
  split
  · rw [List.any_cons, List.any_append, h1]; decide
  · exact h1
theorem laid_none : ∀ (l : List (Bytes × Bytes)), (∀ x ∈ l, x.1.all isGap = true ∧ badWord x.2 = false) → (laid l).any (inSet [0, 10, 13]) = false
  | [], _ => rfl
  | (g, w) :: l, h => by
    have hx := h (g, w) (by simp)
    have hg : g.any (inSet [0, 10, 13]) = false := by
      rw [List.any_eq_false]
      intro c hc
      have := List.all_eq_true.1 hx.1 c hc
      unfold isGap at this
      unfold inSet
      simp at this ⊢
      rcases this with rfl | rfl <;> decide
    simp only [laid]
    rw [List.any_append, List.any_append, hg, quoted_none hx.2, laid_none l (fun x hx => h x (by simp [hx]))]
    rfl

/-- Words laid with gaps ahead, and something that has no words behind: these are the line's words. -/
theorem wordsF_laid (l : List (Bytes × Bytes)) (r : Bytes) (h : ∀ x ∈ l, x.1.all isGap = true ∧ badWord x.2 = false) (h1 : ∀ x ∈ l.drop 1, x.1 ≠ []) (hr : ends r) (hw : wordsL r = ([], true)) (hn : r.any (inSet [0, 10, 13]) = false) (hl : l.length ≤ 32) :
    wordsF (laid l ++ r) = (l.map (·.2), 0) := by
  unfold wordsF
  rw [List.any_append, laid_none l h, hn, words_laid l r h h1 hr, hw]
  simp
  exact hl

/-- P7.3: the words of a line that words make are these. -/
theorem wordsF_join (ws : List Bytes) (hl : ws.length ≤ 32) (hb : ws.any badWord = false) : wordsF (Lib.join (ws.map quoteW) [32]) = (ws, 0) := by
  have hb' : ∀ w ∈ ws, badWord w = false := fun w hw => by
    rw [List.any_eq_false] at hb
    simpa using hb w hw
  cases ws with
  | nil => decide +kernel
  | cons w r =>
    rw [join_laid, ← List.append_nil (laid _), wordsF_laid _ [] ?_ ?_ ends_nil (by decide +kernel) rfl (by simpa using hl)]
    · simp [Function.comp_def]
    · intro x hx
      rcases List.mem_cons.1 hx with rfl | hx
      · exact ⟨rfl, hb' w (by simp)⟩
      · obtain ⟨y, hy, rfl⟩ := List.mem_map.1 hx
        exact ⟨by show ([32] : Bytes).all isGap = true; decide, hb' y (by simp [hy])⟩
    · intro x hx
      obtain ⟨y, hy, rfl⟩ := List.mem_map.1 (by simpa using hx)
      simp

end Go.Proofs.YtgofleplmnibbaaDoor.Lex
