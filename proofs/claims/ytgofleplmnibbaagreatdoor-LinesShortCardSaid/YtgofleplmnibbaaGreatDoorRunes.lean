/-
  Ranging over a string's runes: no byte below 128 is passed over; nothing of the program stands here.
-/
import Derived.Lib.OthersKept
import Derived.Lib.RuneBytes
import Derived.Laws.RangeAny
import Derived.WalkKit
namespace Go.Proofs.YtgofleplmnibbaaGreatDoor.Lex
open Go.RowKit

abbrev Bytes := List UInt8

theorem getb (s : ByteArray) (i : Nat) (h : i < s.size) : s.get! i = s[i]'h := by
  simp [ByteArray.get!, getElem!_pos, h]; rfl

/-- A rune that does not begin with an ASCII byte is made of bytes from 128 on. -/
theorem decode_span (s : ByteArray) (pos : Nat) (h : pos < s.size) (ha : 128 ≤ (s[pos]'h).toNat) :
    1 ≤ (Utf8.decode s pos).2 ∧ pos + (Utf8.decode s pos).2 ≤ s.size ∧ ∀ k, k < (Utf8.decode s pos).2 → 128 ≤ (s.get! (pos + k)).toNat := by
  have h0 : (s.get! (pos + 0)).toNat = (s[pos]'h).toNat := by rw [Nat.add_zero, getb s pos h]
  have hone : ∀ k, k < 1 → 128 ≤ (s.get! (pos + k)).toNat := fun k hk => by
    have : k = 0 := by omega
    subst this; omega
  have hn : ¬ (s.get! (pos + 0)).toNat < 128 := by omega
  simp only [Utf8.decode, hn, ↓reduceIte]
  split
  · rename_i hc
    simp only [Bool.and_eq_true, decide_eq_true_eq, beq_iff_eq] at hc
    split
    · refine ⟨by simp, by simp; omega, fun k hk => ?_⟩
      simp only at hk
      obtain rfl | rfl : k = 0 ∨ k = 1 := by omega
      · omega
      · omega
    · exact ⟨by simp, by simp; omega, hone⟩
  · split
    · rename_i hc
      simp only [Bool.and_eq_true, decide_eq_true_eq, beq_iff_eq] at hc
      split
      · refine ⟨by simp, by simp; omega, fun k hk => ?_⟩
        simp only at hk
        obtain rfl | rfl | rfl : k = 0 ∨ k = 1 ∨ k = 2 := by omega
        all_goals omega
      · exact ⟨by simp, by simp; omega, hone⟩
    · split
      · rename_i hc
        simp only [Bool.and_eq_true, decide_eq_true_eq, beq_iff_eq] at hc
        split
        · refine ⟨by simp, by simp; omega, fun k hk => ?_⟩
          simp only at hk
          obtain rfl | rfl | rfl | rfl : k = 0 ∨ k = 1 ∨ k = 2 ∨ k = 3 := by omega
          all_goals omega
        · exact ⟨by simp, by simp; omega, hone⟩
      · exact ⟨by simp, by simp; omega, hone⟩

theorem size_mk (s : List UInt8) : (⟨s.toArray⟩ : ByteArray).size = s.length := by simp [ByteArray.size]
theorem get_mk (s : List UInt8) (i : Nat) (h : i < s.length) : (⟨s.toArray⟩ : ByteArray).get! i = s[i] := by
  rw [getb _ i (by rw [size_mk]; exact h)]; rfl

/-- Bytes of a part from pos on, so many, all from 128 on: none of them meets p. -/
theorem any_high (s : List UInt8) (p : UInt8 → Bool) (hp : ∀ c : UInt8, 128 ≤ c.toNat → p c = false) : ∀ (n pos : Nat), pos + n ≤ s.length → (∀ k, k < n → 128 ≤ ((⟨s.toArray⟩ : ByteArray).get! (pos + k)).toNat) →
    (s.drop pos).any p = (s.drop (pos + n)).any p
  | 0, _, _, _ => rfl
  | n + 1, pos, hl, h => by
    have h0 := h 0 (by omega)
    rw [Nat.add_zero, get_mk s pos (by omega)] at h0
    rw [List.drop_eq_getElem_cons (by omega), List.any_cons, hp _ h0, Bool.false_or]
    rw [any_high s p hp n (pos + 1) (by omega) (fun k hk => by have := h (k + 1) (by omega); rwa [show pos + (k + 1) = pos + 1 + k from by omega] at this)]
    rw [show pos + 1 + n = pos + (n + 1) from by omega]

/-- One rune further: an ASCII byte is looked at by itself; another rune meets nothing. -/
theorem rune_low (s : List UInt8) (p : UInt8 → Bool) (pos : Nat) (h : pos < s.length) (ha : s[pos].toNat < 128) :
    Utf8.decode ⟨s.toArray⟩ pos = (s[pos].toNat, 1) ∧ (s.drop pos).any p = (p s[pos] || (s.drop (pos + 1)).any p) := by
  refine ⟨?_, by rw [List.drop_eq_getElem_cons h, List.any_cons]⟩
  have := decode_ascii ⟨s.toArray⟩ pos (by rw [size_mk]; exact h) ha
  exact this
theorem rune_high (s : List UInt8) (p : UInt8 → Bool) (hp : ∀ c : UInt8, 128 ≤ c.toNat → p c = false) (pos : Nat) (h : pos < s.length) (ha : 128 ≤ s[pos].toNat) :
    128 ≤ (Utf8.decode ⟨s.toArray⟩ pos).1 ∧ 1 ≤ (Utf8.decode ⟨s.toArray⟩ pos).2 ∧ pos + (Utf8.decode ⟨s.toArray⟩ pos).2 ≤ s.length ∧ (s.drop pos).any p = (s.drop (pos + (Utf8.decode ⟨s.toArray⟩ pos).2)).any p := by
  have hs : pos < (⟨s.toArray⟩ : ByteArray).size := by rw [size_mk]; exact h
  have hb : 128 ≤ ((⟨s.toArray⟩ : ByteArray)[pos]'hs).toNat := ha
  obtain ⟨h1, h2, h3⟩ := decode_span _ pos hs hb
  rw [size_mk] at h2
  exact ⟨(decode_high _ pos hs hb).1, h1, h2, any_high s p hp _ pos h2 h3⟩

def inSet (set : Bytes) (c : UInt8) : Bool := set.contains c
theorem inSet_high {set : Bytes} (hset : ∀ c ∈ set, c.toNat < 128) (c : UInt8) (hc : 128 ≤ c.toNat) : inSet set c = false := by
  unfold inSet
  cases h : set.contains c
  · rfl
  · have := hset c (by simpa using h); omega
/-- One rune further, against a set of ASCII bytes. -/
theorem rune_step (s set : Bytes) (hset : ∀ c ∈ set, c.toNat < 128) (pos : Nat) (h : pos < s.length) :
    1 ≤ (Utf8.decode ⟨s.toArray⟩ pos).2 ∧ pos + (Utf8.decode ⟨s.toArray⟩ pos).2 ≤ s.length ∧
    (∀ x ∈ set, x.toNat = (Utf8.decode ⟨s.toArray⟩ pos).1 → inSet set s[pos] = true ∧ (Utf8.decode ⟨s.toArray⟩ pos).1 = s[pos].toNat ∧ (s.drop pos).any (inSet set) = true) ∧
    ((∀ x ∈ set, x.toNat ≠ (Utf8.decode ⟨s.toArray⟩ pos).1) → (s.drop pos).any (inSet set) = (s.drop (pos + (Utf8.decode ⟨s.toArray⟩ pos).2)).any (inSet set)) := by
  by_cases ha : s[pos].toNat < 128
  · obtain ⟨h1, h2⟩ := rune_low s (inSet set) pos h ha
    rw [h1, h2]
    refine ⟨Nat.le_refl _, by omega, fun x hx he => ?_, fun hn => ?_⟩
    · have : s[pos] = x := UInt8.toNat_inj.1 he.symm
      have hm : inSet set s[pos] = true := by unfold inSet; rw [this]; simpa using hx
      exact ⟨hm, rfl, by rw [hm]; rfl⟩
    · have hm : inSet set s[pos] = false := by
        unfold inSet
        cases hc : set.contains s[pos]
        · rfl
        · exact absurd rfl (hn _ (by simpa using hc))
      rw [hm]; rfl
  · obtain ⟨h1, h2, h3, h4⟩ := rune_high s (inSet set) (inSet_high hset) pos h (by omega)
    exact ⟨h2, h3, fun x hx he => by have := hset x hx; omega, fun _ => h4⟩

end Go.Proofs.YtgofleplmnibbaaGreatDoor.Lex
