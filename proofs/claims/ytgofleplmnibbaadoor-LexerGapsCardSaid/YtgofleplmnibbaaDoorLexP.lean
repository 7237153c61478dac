/-
  Plain functions of the lexer's layer: gaps, one word, the words of a line; nothing of the program stands here.
-/
import Derived.Test.YtgofleplmnibbaaDoorRunes
import Derived.Lib.IndexMore
import Derived.Lib.SlTrimSet
namespace Go.Proofs.YtgofleplmnibbaaDoor.Lex

def isGap (c : UInt8) : Bool := c == 32 || c == 9

/-- What is ahead of the first quote, and what is behind it. -/
def cutQ : Bytes → Option (Bytes × Bytes)
  | [] => none
  | c :: s => if c == 34 then some ([], s) else (cutQ s).map fun p => (c :: p.1, p.2)

/-- A word and what is behind it: s is left to read, q: in quotes, acc has been read. -/
def scan : Bytes → Bool → Bytes → Option (Bytes × Bytes)
  | [], q, acc => if q then none else some (acc, [])
  | c :: t, true, acc => if c == 34 then scan t false acc else scan t true (acc ++ [c])
  | c :: t, false, acc => if isGap c || c == 35 then some (acc, c :: t) else if c == 34 then scan t true acc else scan t false (acc ++ [c])

theorem scan_quote : ∀ (t acc : Bytes), scan t true acc = (cutQ t).bind fun p => scan p.2 false (acc ++ p.1)
  | [], acc => rfl
  | c :: t, acc => by
    rw [scan, cutQ]
    by_cases h : (c == 34) = true
    · rw [if_pos h, if_pos h]; simp
    · rw [if_neg h, if_neg h, scan_quote t]
      cases cutQ t with
      | none => rfl
      | some p => rw [Option.map_some, Option.bind_some, Option.bind_some, List.append_assoc]; rfl

theorem cutQ_index : ∀ (s : Bytes), Lib.cut s [34] = match cutQ s with | some (a, b) => (a, b, true) | none => (s, [], false)
  | [] => rfl
  | c :: s => by
    have ih := cutQ_index s
    unfold Lib.cut at ih ⊢
    rw [Lib.index_one] at ih ⊢
    unfold Lib.indexByte cutQ
    by_cases h : (c == 34) = true
    · simp [h]
    · simp only [h, Bool.false_eq_true, ↓reduceIte]
      have hge := Lib.indexByte_ge s 34
      by_cases h1 : (Lib.indexByte s 34 == -1) = true
      · simp only [beq_iff_eq] at h1
        rw [h1] at ih ⊢
        simp at ih ⊢
        cases hc : cutQ s with
        | none => simp
        | some p => rw [hc] at ih; simp at ih
      · simp only [beq_iff_eq] at h1
        rw [if_pos (by omega)] at ih
        have h2 : (Lib.indexByte s 34 == -1) = false := beq_eq_false_iff_ne.2 h1
        rw [h2]
        simp only [Bool.false_eq_true, ↓reduceIte]
        rw [if_pos (by omega)]
        cases hc : cutQ s with
        | none => rw [hc] at ih; simp at ih
        | some p =>
          rw [hc] at ih
          simp only [Prod.mk.injEq, and_true] at ih
          have e1 : (Lib.indexByte s 34 + 1).toNat = (Lib.indexByte s 34).toNat + 1 := by omega
          have e2 : (Lib.indexByte s 34 + 1).toNat + [(34 : UInt8)].length = ((Lib.indexByte s 34).toNat + [(34 : UInt8)].length) + 1 := by omega
          rw [e2, e1, List.take_succ_cons, List.drop_succ_cons, ih.1, ih.2]
          rfl

theorem cutQ_length : ∀ {s a b : Bytes}, cutQ s = some (a, b) → a.length + b.length + 1 = s.length
  | [], _, _, h => by simp [cutQ] at h
  | c :: s, a, b, h => by
    unfold cutQ at h
    by_cases hc : (c == 34) = true
    · simp [hc] at h; obtain ⟨rfl, rfl⟩ := h; simp
    · simp only [hc, Bool.false_eq_true, ↓reduceIte, Option.map_eq_some_iff] at h
      obtain ⟨p, hp, he⟩ := h
      obtain ⟨rfl, rfl⟩ := Prod.mk.inj he
      have := cutQ_length (s := s) (a := p.1) (b := p.2) (by rw [hp])
      simp; omega

theorem scan_length : ∀ {s acc w r : Bytes} {q : Bool}, scan s q acc = some (w, r) → r.length ≤ s.length ∧ w.length + r.length ≤ acc.length + s.length
  | [], acc, w, r, q, h => by
    cases q <;> simp [scan] at h
    obtain ⟨rfl, rfl⟩ := h; simp
  | c :: t, acc, w, r, true, h => by
    unfold scan at h
    split at h
    · have := scan_length h; simp; omega
    · have := scan_length h; simp at this ⊢; omega
  | c :: t, acc, w, r, false, h => by
    unfold scan at h
    split at h
    · simp at h; obtain ⟨rfl, rfl⟩ := h; simp
    · split at h
      · have := scan_length h; simp; omega
      · have := scan_length h; simp at this ⊢; omega

/-- Behind a byte that is no gap and no comment's, something has been read. -/
theorem scan_less {c : UInt8} {t acc w r : Bytes} (hc : (isGap c || c == 35) = false) (h : scan (c :: t) false acc = some (w, r)) : r.length ≤ t.length := by
  unfold scan at h
  rw [if_neg (by rw [hc]; simp)] at h
  split at h
  · exact (scan_length h).1
  · exact (scan_length h).1

def skipGaps (s : Bytes) : Bytes := s.dropWhile isGap

/-- The words of a line, one behind the other; the Bool: are all of them whole? fuel: more than the line's length. -/
def wordsN : Nat → Bytes → List Bytes × Bool
  | 0, _ => ([], true)
  | n + 1, line => match skipGaps line with
    | [] => ([], true)
    | c :: t => if c == 35 then ([], true) else match scan (c :: t) false [] with
      | none => ([], false)
      | some (w, r) => let (l, b) := wordsN n r; (w :: l, b)

def wordsL (line : Bytes) : List Bytes × Bool := wordsN (line.length + 1) line

theorem skipGaps_length (s : Bytes) : (skipGaps s).length ≤ s.length := by
  unfold skipGaps
  exact (List.dropWhile_sublist _).length_le

theorem skipGaps_head {s : Bytes} {c : UInt8} {t : Bytes} (h : skipGaps s = c :: t) : isGap c = false := by
  unfold skipGaps at h
  have := List.head?_dropWhile_not isGap s
  rw [h] at this
  simpa using this

theorem wordsN_more : ∀ (n m : Nat) (line : Bytes), line.length < n → n ≤ m → wordsN m line = wordsN n line
  | 0, _, _, h, _ => absurd h (by omega)
  | n + 1, 0, _, _, h => absurd h (by omega)
  | n + 1, m + 1, line, h, hm => by
    unfold wordsN
    cases hs : skipGaps line with
    | nil => rfl
    | cons c t =>
      simp only
      by_cases hc : (c == 35) = true
      · simp [hc]
      · simp only [hc, Bool.false_eq_true, ↓reduceIte]
        cases hw : scan (c :: t) false [] with
        | none => rfl
        | some p =>
          obtain ⟨w, r⟩ := p
          have h1 := scan_less (by rw [skipGaps_head hs]; simpa using hc) hw
          have h2 := skipGaps_length line
          rw [hs] at h2
          simp only [List.length_cons] at h2
          simp only
          rw [wordsN_more n m r (by omega) (by omega)]

theorem wordsL_eq (line : Bytes) : wordsL line = match skipGaps line with
    | [] => ([], true)
    | c :: t => if c == 35 then ([], true) else match scan (c :: t) false [] with
      | none => ([], false)
      | some (w, r) => (w :: (wordsL r).1, (wordsL r).2) := by
  unfold wordsL
  rw [wordsN]
  cases hs : skipGaps line with
  | nil => rfl
  | cons c t =>
    simp only
    by_cases hc : (c == 35) = true
    · simp [hc]
    · simp only [hc, Bool.false_eq_true, ↓reduceIte]
      cases hw : scan (c :: t) false [] with
      | none => rfl
      | some p =>
        obtain ⟨w, r⟩ := p
        have h1 := scan_less (by rw [skipGaps_head hs]; simpa using hc) hw
        have h2 := skipGaps_length line
        rw [hs] at h2
        simp only [List.length_cons] at h2
        simp only
        rw [wordsN_more (r.length + 1) line.length r (by omega) (by omega)]

end Go.Proofs.YtgofleplmnibbaaDoor.Lex
