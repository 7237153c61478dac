/-
  The references' numbers and words as plain functions: they tell what the program's tell.
-/
import Derived.Test.YtgofleplmnibbaaGreatDoorRefA
import Derived.Test.YtgofleplmnibbaaGreatDoorLinP
import Derived.Lib.AtoiTie
namespace Go.Proofs.YtgofleplmnibbaaGreatDoor.Lex

/-! ### Numbers -/
def refDigs (neg : Bool) (t : Bytes) : Option Int :=
  if t.length < 1 ∨ 9 < t.length ∨ (1 < t.length ∧ t.head? = some 48) ∨ (neg = true ∧ t = [48]) then none
  else if t.all isDig then some (if neg then -(decV 0 t : Int) else decV 0 t) else none
/-- The number that a text is. -/
def refNum (x : Bytes) : Option Int := refDigs (negB x) (untilDash x)

theorem decFrom_eq : ∀ (l : Bytes) (acc : Nat), Lib.decFrom acc l = if l.all isDig then some (decV acc l) else none
  | [], acc => rfl
  | c :: t, acc => by
    unfold Lib.decFrom Lib.digitVal
    rw [List.all_cons]
    by_cases h : 48 ≤ c.toNat ∧ c.toNat ≤ 57
    · have hd : isDig c = true := decide_eq_true h
      simp only [if_pos h, hd, Bool.true_and]
      rw [decFrom_eq t, decV_cons]
    · have hd : isDig c = false := decide_eq_false h
      simp only [if_neg h, hd, Bool.false_and]
      rfl
theorem decNat_eq (l : Bytes) : Lib.decNat l = if l ≠ [] ∧ l.all isDig = true then some (decV 0 l) else none := by
  unfold Lib.decNat
  cases l with
  | nil => rfl
  | cons c t =>
    rw [decFrom_eq]
    simp only [List.isEmpty_cons, Bool.false_eq_true, ↓reduceIte, ne_eq, reduceCtorEq, not_false_eq_true, true_and]
theorem decV_snoc (l : Bytes) (acc : Nat) (c : UInt8) : decV acc (l ++ [c]) = decV acc l * 10 + (c.toNat - 48) := by
  unfold decV
  rw [List.foldl_append]
  rfl
theorem decV_pos {c : UInt8} {t : Bytes} (h : (c :: t).all isDig = true) (hc : c ≠ 48) : 1 ≤ decV 0 (c :: t) := by
  have key : ∀ (t : Bytes) (acc : Nat), acc ≤ decV acc t := by
    intro t
    induction t with
    | nil => intro acc; exact Nat.le_refl _
    | cons d t ih => intro acc; rw [decV_cons]; exact Nat.le_trans (by omega) (ih _)
  rw [List.all_cons, Bool.and_eq_true] at h
  have h1 := of_decide_eq_true h.1
  have h2 : c.toNat ≠ 48 := fun e => hc (UInt8.toNat_inj.1 e)
  rw [decV_cons]
  exact Nat.le_trans (by omega) (key t _)
theorem dig_back {c : UInt8} (h : isDig c = true) : UInt8.ofNat (48 + (c.toNat - 48)) = c := by
  have := of_decide_eq_true h
  apply UInt8.toNat_inj.1
  rw [show 48 + (c.toNat - 48) = c.toNat from by omega]
  simp
/-- Digits without a nought ahead are those of their number. -/
theorem decDigits_of : ∀ (n : Nat) (l : Bytes), l.length = n → l ≠ [] → l.all isDig = true → (l.length = 1 ∨ l.head? ≠ some 48) → Lib.decDigits (decV 0 l) = l := by
  intro n
  induction n with
  | zero => intro l hl hne; exact absurd (List.length_eq_zero_iff.1 hl) hne
  | succ n ih =>
    intro l hl hne hd hh
    obtain ⟨i, c, rfl⟩ : ∃ i c, l = i ++ [c] := ⟨l.dropLast, l.getLast hne, (List.dropLast_concat_getLast hne).symm⟩
    rw [List.all_append, Bool.and_eq_true] at hd
    have hc : isDig c = true := by simpa using hd.2
    have hcb := of_decide_eq_true hc
    rw [decV_snoc]
    cases i with
    | nil =>
      rw [Lib.decDigits, dif_pos (by simp [decV]; omega)]
      simp only [decV, List.foldl_nil, Nat.zero_mul, Nat.zero_add, List.nil_append]
      rw [dig_back hc]
    | cons d r =>
      have hd48 : d ≠ 48 := by
        rcases hh with h | h
        · simp at h
        · simpa using h
      have hp := decV_pos hd.1 hd48
      rw [Lib.decDigits, dif_neg (by omega)]
      rw [show (decV 0 (d :: r) * 10 + (c.toNat - 48)) / 10 = decV 0 (d :: r) from by omega, show (decV 0 (d :: r) * 10 + (c.toNat - 48)) % 10 = c.toNat - 48 from by omega, dig_back hc]
      rw [ih (d :: r) (by simp at hl ⊢; omega) (by simp) hd.1 (.inr (by simpa using hd48))]
theorem nDigits_le : ∀ (k u : Nat), u < 10 ^ k → 1 ≤ k → Lib.nDigits u ≤ k
  | 0, _, _, h => absurd h (by decide)
  | k + 1, u, h, _ => by
    by_cases hu : u < 10
    · rw [Lib.nDigits_small hu]; omega
    · rw [Lib.nDigits_big hu]
      rw [Nat.pow_succ] at h
      have hk : 1 ≤ k := by
        cases k with
        | zero => simp at h; omega
        | succ k => omega
      have := nDigits_le k (u / 10) (by omega) hk
      omega
theorem decDigits_not {l : Bytes} (hd : l.all isDig = true) (hl : 1 < l.length) (h : l.head? = some 48) : Lib.decDigits (decV 0 l) ≠ l := by
  intro he
  cases l with
  | nil => simp at hl
  | cons c t =>
    obtain rfl : c = 48 := by simpa using h
    have hlen : (Lib.decDigits (decV 0 (48 :: t))).length = t.length + 1 := by rw [he]; rfl
    rw [Lib.decDigits_length] at hlen
    have ht : 1 ≤ t.length := by simp at hl; omega
    rw [List.all_cons, Bool.and_eq_true] at hd
    have h1 := decV_lt t 0 1 hd.2 (by decide)
    rw [Nat.one_mul] at h1
    have h2 : decV 0 (48 :: t) = decV 0 t := by rw [decV_cons]; rfl
    have := nDigits_le t.length _ h1 ht
    rw [h2] at hlen
    omega
theorem decDigits_head (u : Nat) : ∃ c t, Lib.decDigits u = c :: t ∧ isDig c = true := by
  induction u using Nat.strongRecOn with
  | _ u ih =>
    rw [Lib.decDigits]
    by_cases h : u < 10
    · rw [dif_pos h]
      refine ⟨_, [], rfl, decide_eq_true ?_⟩
      have : (UInt8.ofNat (48 + u)).toNat = 48 + u := by simp; omega
      omega
    · rw [dif_neg h]
      obtain ⟨c, t, he, hc⟩ := ih (u / 10) (by omega)
      exact ⟨c, t ++ [UInt8.ofNat (48 + u % 10)], by rw [he]; rfl, hc⟩
theorem itoa_decV_neg (t : Bytes) (hne : t ≠ []) (hd : t.all isDig = true) : Lib.itoa (-(decV 0 t : Int)) = 45 :: t ↔ ¬ (1 < t.length ∧ t.head? = some 48) ∧ t ≠ [48] := by
  unfold Lib.itoa
  by_cases h0 : decV 0 t = 0
  · rw [if_neg (by omega)]
    have hb : ¬ (¬ (1 < t.length ∧ t.head? = some 48) ∧ t ≠ [48]) := by
      rintro ⟨h1, h2⟩
      cases t with
      | nil => exact hne rfl
      | cons c r =>
        by_cases hc : c = 48
        · subst hc
          cases r with
          | nil => exact h2 rfl
          | cons d r => exact h1 ⟨by simp, rfl⟩
        · have := decV_pos hd hc
          omega
    refine iff_of_false ?_ hb
    rw [h0]
    intro h
    rw [show (-((0 : Nat) : Int)).toNat = 0 from rfl, Lib.decDigits, dif_pos (by decide)] at h
    injection h with h _
    exact absurd h (by decide)
  · rw [if_pos (by omega), show (-(decV 0 t : Int)).natAbs = decV 0 t from by omega]
    have h48 : t ≠ [48] := by rintro rfl; exact h0 rfl
    constructor
    · intro h
      injection h with _ h
      exact ⟨fun ⟨h1, h2⟩ => decDigits_not hd h1 h2 h, h48⟩
    · rintro ⟨h1, _⟩
      rw [decDigits_of _ t rfl hne hd ?_]
      by_cases hl : 1 < t.length
      · exact .inr (fun h => h1 ⟨hl, h⟩)
      · refine .inl ?_
        have : 1 ≤ t.length := List.length_pos_iff.2 hne
        omega
theorem itoa_decV_pos (t : Bytes) (hne : t ≠ []) (hd : t.all isDig = true) : Lib.itoa (decV 0 t : Int) = t ↔ ¬ (1 < t.length ∧ t.head? = some 48) := by
  unfold Lib.itoa
  rw [if_neg (by omega), Int.toNat_natCast]
  constructor
  · exact fun h ⟨h1, h2⟩ => decDigits_not hd h1 h2 h
  · intro h1
    refine decDigits_of _ t rfl hne hd ?_
    by_cases hl : 1 < t.length
    · exact .inr (fun h => h1 ⟨hl, h⟩)
    · refine .inl ?_
      have : 1 ≤ t.length := List.length_pos_iff.2 hne
      omega

/-- The canonical numbers of up to nine digits are the reference's. -/
theorem canon_short (x : Bytes) (h9 : (untilDash x).length ≤ 9) : canonF x = refNum x := by
  cases x with
  | nil => rfl
  | cons c t =>
    have hl : (c :: t).length ≤ 18 := by
      have h : (if (c == 45) = true then t else c :: t).length ≤ 9 := h9
      split at h <;> simp only [List.length_cons] at h ⊢ <;> omega
    unfold canonF refNum refDigs
    rw [Lib.atoiAll_short _ hl, show Lib.atoi (c :: t) = if (c == 45) = true then (Lib.decNat t).map fun (m : Nat) => -(m : Int) else if (c == 43) = true then (Lib.decNat t).map fun (m : Nat) => (m : Int) else (Lib.decNat (c :: t)).map fun (m : Nat) => (m : Int) from rfl]
    by_cases hc : (c == 45) = true
    · have hu : untilDash (c :: t) = t := by show (if (c == 45) = true then t else c :: t) = t; rw [if_pos hc]
      have hn : negB (c :: t) = true := hc
      have hce : c = 45 := by simpa using hc
      rw [hu] at h9 ⊢
      rw [hn, if_pos hc, decNat_eq]
      by_cases hd : t ≠ [] ∧ t.all isDig = true
      · rw [if_pos hd]
        have hi := itoa_decV_neg t hd.1 hd.2
        have h1 : ¬ t.length < 1 := by have := List.length_pos_iff.2 hd.1; omega
        simp only [Option.map_some, Lib.NumEnd.ofOption]
        rw [hce]
        by_cases hb : ¬ (1 < t.length ∧ t.head? = some 48) ∧ t ≠ [48]
        · rw [if_pos (hi.2 hb), if_neg (by
            rintro (h | h | h | h)
            · exact h1 h
            · omega
            · exact hb.1 h
            · exact hb.2 h.2), if_pos hd.2]
          rfl
        · rw [if_neg (fun h => hb (hi.1 h)), if_pos]
          by_cases h2 : 1 < t.length ∧ t.head? = some 48
          · exact .inr (.inr (.inl h2))
          · exact .inr (.inr (.inr ⟨by trivial, Decidable.byContradiction fun h => hb ⟨h2, h⟩⟩))
      · rw [if_neg hd]
        simp only [Option.map_none, Lib.NumEnd.ofOption]
        split
        · rfl
        · rename_i h
          rw [if_neg]
          intro ha
          refine hd ⟨?_, ha⟩
          rintro rfl
          exact h (.inl (by decide))
    · have hu : untilDash (c :: t) = c :: t := by show (if (c == 45) = true then t else c :: t) = c :: t; rw [if_neg hc]
      have hn : negB (c :: t) = false := by simpa [negB] using hc
      rw [hu] at h9 ⊢
      rw [hn, if_neg hc]
      by_cases hp : (c == 43) = true
      · have hce : c = 43 := by simpa using hp
        rw [if_pos hp]
        have hr : ((c :: t).all isDig) = false := by rw [hce, List.all_cons]; rfl
        rw [hr]
        simp only [Bool.false_eq_true, ↓reduceIte, ite_self]
        cases hm : Lib.decNat t with
        | none => rfl
        | some m =>
          simp only [Option.map_some, Lib.NumEnd.ofOption]
          rw [if_neg]
          intro h
          unfold Lib.itoa at h
          rw [if_neg (by omega)] at h
          obtain ⟨d, r, h1, h2⟩ := decDigits_head ((m : Int)).toNat
          rw [h1] at h
          injection h with h _
          rw [h, hce] at h2
          exact absurd h2 (by decide)
      · rw [if_neg hp, decNat_eq]
        by_cases hd : (c :: t).all isDig = true
        · rw [if_pos ⟨by simp, hd⟩]
          have hi := itoa_decV_pos (c :: t) (by simp) hd
          simp only [Option.map_some, Lib.NumEnd.ofOption]
          by_cases hb : 1 < (c :: t).length ∧ (c :: t).head? = some 48
          · rw [if_neg (fun h => hi.1 h hb), if_pos (.inr (.inr (.inl hb)))]
          · rw [if_pos (hi.2 hb), if_neg (by
              rintro (h | h | h | h)
              · simp at h
              · omega
              · exact hb h
              · exact absurd h.1 (by decide)), if_pos hd]
            rfl
        · rw [if_neg (fun h => hd h.2)]
          simp only [Option.map_none, Lib.NumEnd.ofOption, hd, Bool.false_eq_true, ↓reduceIte, ite_self]
theorem refNum_long {x : Bytes} (h : 9 < (untilDash x).length) : refNum x = none := by
  unfold refNum refDigs
  rw [if_pos (.inr (.inl h))]
def refYear (x : Bytes) : Int × Int := match refNum x with
  | none => (0, 12)
  | some n => if n < 1 ∨ 4000 < n then (0, 10) else (n, 0)
theorem numYear_eq (x : Bytes) : numYear x = refYear x := by
  unfold numYear refYear
  by_cases h9 : (untilDash x).length ≤ 9
  · rw [canon_short x h9]
    cases refNum x with
    | none => rfl
    | some n => simp only; rw [if_neg (by omega)]
  · rw [refNum_long (by omega)]
    cases canonF x with
    | none => rfl
    | some n => simp only; rw [if_pos (by omega)]
/-- dayform's number. -/
def refDayNum (x : Bytes) : Int × Int :=
  if x.length < 1 ∨ 2 < x.length ∨ x.head? = some 48 then (0, 12) else if x.all isDig then (if 31 < decV 0 x then (0, 10) else (decV 0 x, 0)) else (0, 12)
theorem numDay_eq (x : Bytes) : numDay x = refDayNum x := by
  unfold numDay refDayNum
  by_cases h2 : 2 < x.length
  · rw [if_pos (.inr (.inl h2))]
    cases canonF x with
    | none => rfl
    | some n => simp only; rw [if_pos (.inr h2)]
  · have hu := untilDash_length x
    rw [canon_short x (by omega)]
    unfold refNum refDigs
    cases x with
    | nil => rfl
    | cons c t =>
      by_cases hc : (c == 45) = true
      · have hce : c = 45 := by simpa using hc
        have hr : ((c :: t).all isDig) = false := by rw [hce, List.all_cons]; rfl
        have hn : negB (c :: t) = true := hc
        rw [hr, hn]
        simp only [Bool.false_eq_true, ↓reduceIte, ite_self]
        split
        · rfl
        · rename_i n h
          split at h
          · cases h
          · split at h
            · injection h with h
              rw [if_pos (.inl (by omega))]
            · cases h
      · have hu : untilDash (c :: t) = c :: t := by show (if (c == 45) = true then t else c :: t) = c :: t; rw [if_neg hc]
        have hn : negB (c :: t) = false := by simpa [negB] using hc
        rw [hu, hn]
        by_cases h48 : c = 48
        · subst h48
          rw [if_pos (show _ ∨ _ ∨ (48 :: t).head? = some 48 from .inr (.inr rfl))]
          cases t with
          | nil => rfl
          | cons d r => rw [if_pos (.inr (.inr (.inl ⟨by simp, rfl⟩)))]
        · have n1 : ¬ ((c :: t).length < 1 ∨ 9 < (c :: t).length ∨ (1 < (c :: t).length ∧ (c :: t).head? = some 48) ∨ (false = true ∧ c :: t = [48])) := by
            rintro (h | h | h | h)
            · simp at h
            · omega
            · exact h48 (by simpa using h.2)
            · exact absurd h.1 (by decide)
          have n2 : ¬ ((c :: t).length < 1 ∨ 2 < (c :: t).length ∨ (c :: t).head? = some 48) := by
            rintro (h | h | h)
            · simp at h
            · exact h2 h
            · exact h48 (by simpa using h)
          rw [if_neg n1, if_neg n2]
          by_cases hd : (c :: t).all isDig = true
          · have hp := decV_pos hd h48
            rw [if_pos hd, if_pos hd]
            simp only [Bool.false_eq_true, ↓reduceIte]
            rw [if_neg (by omega)]
            by_cases h31 : 31 < decV 0 (c :: t)
            · rw [if_pos (by omega), if_pos h31]
            · rw [if_neg (by omega), if_neg h31]
          · rw [if_neg hd, if_neg hd]

/-! ### Words -/
def findGo (lw : Bytes) : Nat → Nat → Int → List Bytes → Int
  | _, n, a, [] => if n ≠ 1 then -1 else a
  | i, n, a, x :: r => if x = lw then i else if lw ≠ [] ∧ lw.length < x.length ∧ x.take lw.length = lw then findGo lw (i + 1) (n + 1) i r else findGo lw (i + 1) n a r
def refFind (w : Bytes) (l : List Bytes) : Int := findGo (lowerF w) 0 0 (-1) l
def hitAt (h : List (Nat × Bool)) (n : Nat) (a : Int) : Int := match h.find? (·.2) with
  | some x => x.1
  | none => if n + h.length ≠ 1 then -1 else match h with
    | [] => a
    | x :: _ => x.1
theorem findGo_eq (lw : Bytes) : ∀ (l : List Bytes) (i n : Nat) (a : Int), (∀ x ∈ l, lowerF x ≠ []) → findGo lw i n a (l.map lowerF) = hitAt (hits lw i l) n a
  | [], i, n, a, _ => by
    unfold findGo hits hitAt
    simp
  | x :: r, i, n, a, hne => by
    have hx := hne x (by simp)
    have ih := fun i n a => findGo_eq lw r i n a (fun y hy => hne y (by simp [hy]))
    rw [List.map_cons, findGo, hits]
    by_cases h1 : lowerF x = lw
    · rw [if_pos h1, if_pos]
      · unfold hitAt
        rw [List.find?_cons_of_pos (by simpa using h1)]
      · rw [h1]
        refine ⟨?_, by rw [isPrefix_take]; simp⟩
        cases lw with
        | nil => exact absurd h1 hx
        | cons c t => rfl
    · rw [if_neg h1]
      by_cases h2 : lw ≠ [] ∧ lw.length < (lowerF x).length ∧ (lowerF x).take lw.length = lw
      · rw [if_pos h2, if_pos, ih]
        · unfold hitAt
          rw [List.find?_cons_of_neg (by simpa using h1)]
          cases (hits lw (i + 1) r).find? (·.2) with
          | some y => rfl
          | none =>
            simp only [List.length_cons]
            by_cases hn : n + 1 + (hits lw (i + 1) r).length ≠ 1
            · rw [if_pos hn, if_pos (by omega)]
            · rw [if_neg hn, if_neg (by omega)]
              have h0 : (hits lw (i + 1) r).length = 0 := by omega
              rw [List.length_eq_zero_iff.1 h0]
        · refine ⟨?_, by rw [isPrefix_take]; exact decide_eq_true ⟨by omega, h2.2.2⟩⟩
          cases lw with
          | nil => exact absurd rfl h2.1
          | cons c t => rfl
      · rw [if_neg h2, if_neg, ih]
        rintro ⟨h3, h4⟩
        rw [isPrefix_take] at h4
        obtain ⟨h5, h6⟩ := of_decide_eq_true h4
        refine h2 ⟨fun h => by rw [h] at h3; simp at h3, ?_, h6⟩
        rcases Nat.lt_or_ge lw.length (lowerF x).length with h | h
        · exact h
        · rw [List.take_of_length_le h] at h6
          exact absurd h6 h1
theorem find_eq (w : Bytes) (l : List Bytes) (h : ∀ x ∈ l, lowerF x ≠ []) : refFind w (l.map lowerF) = match findF w l with
    | some i => (i : Int)
    | none => -1 := by
  unfold refFind findF
  rw [findGo_eq _ _ _ _ _ h]
  unfold hitAt
  cases (hits (lowerF w) 0 l).find? (·.2) with
  | some x => rfl
  | none =>
    simp only
    cases hits (lowerF w) 0 l with
    | nil => rfl
    | cons x r =>
      cases r with
      | nil => rfl
      | cons y r => rw [if_pos (by simp)]

end Go.Proofs.YtgofleplmnibbaaGreatDoor.Lex
