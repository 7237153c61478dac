/-
  The references' checks of texts as plain functions: they tell what lines' checks tell.
-/
import Derived.Test.YtgofleplmnibbaaGreatDoorLinD
import Derived.Test.YtgofleplmnibbaaGreatDoorLinJ
namespace Go.Proofs.YtgofleplmnibbaaGreatDoor.Lex

def isLet (c : UInt8) : Bool := decide (97 ≤ c.toNat ∧ c.toNat ≤ 122) || decide (65 ≤ c.toNat ∧ c.toNat ≤ 90)
def plainC (c : UInt8) : Bool := isLet c || isDig c || c == 43 || c == 45
def nameC (c : UInt8) : Bool := plainC c || c == 95
def setC (c : UInt8) : Bool := isLet c || isDig c || c == 95 || c == 45
def headC (c : UInt8) : Bool := isLet c || c == 95
theorem all_bytes {p : UInt8 → Bool} (h : ∀ n : Fin 256, p (UInt8.ofNat n.val) = true) (c : UInt8) : p c = true := by
  have := h ⟨c.toNat, c.toNat_lt⟩
  simpa using this
theorem inPlain (c : UInt8) : inSet plainB c = plainC c := by
  have := all_bytes (p := fun c => inSet plainB c == plainC c) (by decide +kernel) c
  simpa using this
theorem inName (c : UInt8) : inSet nameB c = (nameC c || c == 47) := by
  have := all_bytes (p := fun c => inSet nameB c == (nameC c || c == 47)) (by decide +kernel) c
  simpa using this
theorem inSetC (c : UInt8) : inSet setB c = setC c := by
  have := all_bytes (p := fun c => inSet setB c == setC c) (by decide +kernel) c
  simpa using this
theorem inHead (c : UInt8) : inSet headB c = headC c := by
  have := all_bytes (p := fun c => inSet headB c == headC c) (by decide +kernel) c
  simpa using this

/-! ### Plain -/
def refPlain (s : Bytes) (least most : Nat) : Bool := s.all plainC && decide (least ≤ s.length) && decide (s.length ≤ most)
theorem refPlain_eq (s : Bytes) (least most : Nat) : onlyF s plainB least most = refPlain s least most := by
  unfold onlyF refPlain
  rw [show inSet plainB = plainC from funext inPlain]

/-! ### Name -/
/-- What is left of a name; first: a part begins here. -/
def nameR : Bool → Bytes → Bool
  | first, [] => !first
  | first, c :: t => if c == 47 then !first && nameR true t else !(c == 45 && first) && nameC c && nameR false t
def refName (s : Bytes) : Bool := decide (1 ≤ s.length) && decide (s.length ≤ 64) && nameR true s
theorem pieces_cons (c : UInt8) (s : Bytes) : ∃ p r, pieces c s = p :: r := by
  cases s with
  | nil => exact ⟨_, _, rfl⟩
  | cons x t =>
    unfold pieces
    split
    · exact ⟨_, _, rfl⟩
    · split <;> exact ⟨_, _, rfl⟩
theorem nameR_eq : ∀ s : Bytes, nameR true s = (s.all (inSet nameB) && (pieces 47 s).all goodPiece) ∧ nameR false s = (s.all (inSet nameB) && (pieces 47 s).tail.all goodPiece)
  | [] => ⟨rfl, rfl⟩
  | c :: t => by
    obtain ⟨h1, h2⟩ := nameR_eq t
    obtain ⟨p, r, hp⟩ := pieces_cons 47 t
    unfold nameR pieces
    rw [List.all_cons, inName]
    by_cases hc : (c == 47) = true
    · simp only [hc, ↓reduceIte, Bool.or_true, Bool.true_and, Bool.not_true, Bool.false_and, Bool.not_false, List.tail_cons]
      refine ⟨?_, h1⟩
      simp [goodPiece]
    · have hc' : (c == 47) = false := by simpa using hc
      simp only [hc', Bool.false_eq_true, ↓reduceIte, Bool.or_false, Bool.and_true, Bool.and_false, Bool.not_false, Bool.true_and]
      rw [hp] at h2 ⊢
      simp only [List.tail_cons] at h2 ⊢
      rw [h2]
      refine ⟨?_, by rw [Bool.and_assoc]⟩
      simp only [List.all_cons, goodPiece, bne]
      cases c == 45 <;> cases nameC c <;> cases t.all (inSet nameB) <;> cases r.all goodPiece <;> rfl
theorem refName_eq (s : Bytes) : nameF s = refName s := by
  unfold nameF refName onlyF
  rw [(nameR_eq s).1]
  cases s.all (inSet nameB) <;> cases decide (1 ≤ s.length) <;> cases decide (s.length ≤ 64) <;> simp

/-! ### SetName -/
def refSet : Bytes → Bool
  | [] => false
  | c :: t => decide ((c :: t).length ≤ 64) && headC c && (c :: t).all setC
theorem refSet_eq (s : Bytes) : setNameF s = refSet s := by
  cases s with
  | nil => rfl
  | cons c t =>
    show (onlyF (c :: t) setB 1 64 && inSet headB c) = (decide ((c :: t).length ≤ 64) && headC c && (c :: t).all setC)
    unfold onlyF
    rw [show inSet setB = setC from funext inSetC, inHead]
    simp only [List.length_cons, show decide (1 ≤ t.length + 1) = true from by simp]
    cases (c :: t).all setC <;> cases headC c <;> cases decide (t.length + 1 ≤ 64) <;> rfl

/-! ### Format -/
def slashAt (s : Bytes) (i : Nat) : Bool := s[i]? == some 47 && refPlain (s.take i) 3 8 && refPlain (s.drop (i + 1)) 3 8
def pctAt (s : Bytes) (i : Nat) : Bool := s[i]? == some 37 && s[i + 1]? == some 115 && refPlain (s.take i ++ s.drop (i + 2)) 1 6
def formAt (s : Bytes) (i : Nat) : Bool := slashAt s i || pctAt s i
def refForm (s : Bytes) : Bool := s == [37, 122] || refPlain s 3 8 || (List.range s.length).any (formAt s)

theorem occ1 (s : Bytes) (c : UInt8) (i : Nat) : Lib.occAt s [c] i = (s[i]? == some c) := by
  unfold Lib.occAt
  rw [← List.head?_drop]
  cases s.drop i with
  | nil => rfl
  | cons x t =>
    show (c == x && true) = (some x == some c)
    rw [Bool.and_true, Bool.eq_iff_iff, beq_iff_eq, beq_iff_eq, Option.some.injEq]
    exact eq_comm
theorem occ2 (s : Bytes) (c d : UInt8) (i : Nat) : Lib.occAt s [c, d] i = (s[i]? == some c && s[i + 1]? == some d) := by
  unfold Lib.occAt
  have h : s[i + 1]? = (s.drop i).tail.head? := by rw [List.tail_drop, List.head?_drop]
  rw [h, ← List.head?_drop]
  cases s.drop i with
  | nil => rfl
  | cons x t =>
    cases t with
    | nil => show (c == x && false) = (some x == some c && false); simp
    | cons y t =>
      show (c == x && (d == y && true)) = (some x == some c && some y == some d)
      rw [Bool.and_true, Bool.eq_iff_iff, Bool.and_eq_true, Bool.and_eq_true, beq_iff_eq, beq_iff_eq, beq_iff_eq, beq_iff_eq, Option.some.injEq, Option.some.injEq]
      exact and_congr eq_comm eq_comm
theorem plain_no {s : Bytes} {a b : Nat} (h : refPlain s a b = true) {c : UInt8} (hc : plainC c = false) : c ∉ s := by
  intro hm
  unfold refPlain at h
  simp only [Bool.and_eq_true] at h
  have := List.all_eq_true.1 h.1.1 c hm
  rw [hc] at this
  cases this
/-- A part that is plain ahead of i: nothing that is not plain stands there. -/
theorem noOcc_plain {s : Bytes} {i : Nat} {c : UInt8} {sub : Bytes} (h : ∀ x ∈ s.take i, plainC x = true) (hc : plainC c = false) (hs : ∃ t, sub = c :: t) : Lib.NoOcc s sub i := by
  intro j hj
  obtain ⟨t, rfl⟩ := hs
  unfold Lib.occAt
  cases hd : s.drop j with
  | nil => rfl
  | cons x r =>
    have hx : s[j]? = some x := by rw [← List.head?_drop, hd]; rfl
    have hm : x ∈ s.take i := List.mem_of_getElem? (i := j) (by rw [List.getElem?_take_of_lt hj]; exact hx)
    have := h x hm
    show (c == x && _) = false
    have hne : (c == x) = false := by
      rw [beq_eq_false_iff_ne]
      rintro rfl
      rw [hc] at this
      cases this
    rw [hne]; rfl
theorem plain_all {s : Bytes} {a b : Nat} (h : refPlain s a b = true) : ∀ x ∈ s, plainC x = true := by
  unfold refPlain at h
  simp only [Bool.and_eq_true] at h
  exact List.all_eq_true.1 h.1.1

theorem slash_eq (s : Bytes) : ((Lib.cut s [47]).2.2 && plainF (Lib.cut s [47]).1 && plainF (Lib.cut s [47]).2.1) = (List.range s.length).any (slashAt s) := by
  unfold plainF
  rw [refPlain_eq, refPlain_eq]
  have key : ∀ i : Nat, slashAt s i = true → Lib.index s [47] = i := by
    intro i h
    unfold slashAt at h
    simp only [Bool.and_eq_true] at h
    have hi : i ≤ s.length := by
      have := h.1.1
      rcases Nat.lt_or_ge i s.length with h' | h'
      · omega
      · rw [List.getElem?_eq_none h'] at this; cases this
    exact Lib.index_hit (noOcc_plain (plain_all h.1.2) (by decide) ⟨[], rfl⟩) hi (by rw [occ1]; exact h.1.1)
  rcases Lib.index_spec s [47] with ⟨h1, h2⟩ | ⟨i, h1, hil, ho, _⟩
  · have hc : Lib.cut s [47] = (s, [], false) := by unfold Lib.cut; rw [if_neg (by omega)]
    rw [hc]
    simp only [Bool.false_and]
    refine (List.any_eq_false.2 fun i hi hs => ?_).symm
    have := key i hs
    omega
  · have hc : Lib.cut s [47] = (s.take i, s.drop (i + 1), true) := by
      unfold Lib.cut
      rw [if_pos (by omega), h1]
      rfl
    rw [hc, Bool.eq_iff_iff]
    simp only [Bool.true_and, List.any_eq_true, List.mem_range]
    rw [occ1] at ho
    constructor
    · intro h
      refine ⟨i, ?_, ?_⟩
      · rcases Nat.lt_or_ge i s.length with h' | h'
        · exact h'
        · rw [List.getElem?_eq_none h'] at ho; cases ho
      · unfold slashAt
        rw [ho, Bool.true_and]
        exact h
    · rintro ⟨j, _, hj⟩
      have := key j hj
      obtain rfl : j = i := by omega
      unfold slashAt at hj
      rw [ho, Bool.true_and] at hj
      exact hj
theorem pct_eq (s : Bytes) : ((Lib.cut s [37, 115]).2.2 && onlyF ((Lib.cut s [37, 115]).1 ++ (Lib.cut s [37, 115]).2.1) plainB 1 6) = (List.range s.length).any (pctAt s) := by
  rw [refPlain_eq]
  have key : ∀ i : Nat, pctAt s i = true → Lib.index s [37, 115] = i := by
    intro i h
    unfold pctAt at h
    simp only [Bool.and_eq_true] at h
    have hi : i ≤ s.length := by
      have := h.1.1
      rcases Nat.lt_or_ge i s.length with h' | h'
      · omega
      · rw [List.getElem?_eq_none h'] at this; cases this
    exact Lib.index_hit (noOcc_plain (fun x hx => plain_all h.2 x (List.mem_append_left _ hx)) (by decide) ⟨[115], rfl⟩) hi (by rw [occ2, h.1.1, h.1.2]; rfl)
  rcases Lib.index_spec s [37, 115] with ⟨h1, h2⟩ | ⟨i, h1, hil, ho, _⟩
  · have hc : Lib.cut s [37, 115] = (s, [], false) := by unfold Lib.cut; rw [if_neg (by omega)]
    rw [hc]
    simp only [Bool.false_and]
    refine (List.any_eq_false.2 fun i hi hs => ?_).symm
    have := key i hs
    omega
  · have hc : Lib.cut s [37, 115] = (s.take i, s.drop (i + 2), true) := by
      unfold Lib.cut
      rw [if_pos (by omega), h1]
      rfl
    rw [hc, Bool.eq_iff_iff]
    simp only [Bool.true_and, List.any_eq_true, List.mem_range]
    rw [occ2] at ho
    constructor
    · intro h
      refine ⟨i, ?_, ?_⟩
      · rcases Nat.lt_or_ge i s.length with h' | h'
        · exact h'
        · rw [List.getElem?_eq_none h'] at ho; cases ho
      · unfold pctAt
        rw [ho, Bool.true_and]
        exact h
    · rintro ⟨j, _, hj⟩
      have := key j hj
      obtain rfl : j = i := by omega
      unfold pctAt at hj
      rw [ho, Bool.true_and] at hj
      exact hj
theorem refForm_eq (s : Bytes) : formatF s = refForm s := by
  unfold formatF refForm
  rw [slash_eq, pct_eq]
  unfold plainF
  rw [refPlain_eq, Bool.or_assoc, ← show (List.range s.length).any (formAt s) = ((List.range s.length).any (slashAt s) || (List.range s.length).any (pctAt s)) from ?_]
  rw [Bool.eq_iff_iff]
  simp only [Bool.or_eq_true, List.any_eq_true, formAt]
  constructor
  · rintro ⟨x, hx, h | h⟩
    · exact .inl ⟨x, hx, h⟩
    · exact .inr ⟨x, hx, h⟩
  · rintro (⟨x, hx, h⟩ | ⟨x, hx, h⟩)
    · exact ⟨x, hx, .inl h⟩
    · exact ⟨x, hx, .inr h⟩

end Go.Proofs.YtgofleplmnibbaaGreatDoor.Lex
