/-
  clock.digits, and what decimal digits spell.
-/
import Derived.Test.YtgofleplmnibbaaGreatDoorLinB
import Derived.Test.YtgofleplmnibbaaGreatDoorLinI
namespace Go.Proofs.YtgofleplmnibbaaGreatDoor.Lex

def digitsB : Bytes := [48, 49, 50, 51, 52, 53, 54, 55, 56, 57]
def isDig (c : UInt8) : Bool := decide (48 ≤ c.toNat ∧ c.toNat ≤ 57)
theorem inDigits (c : UInt8) : inSet digitsB c = isDig c := by
  have key : ∀ n : Fin 256, inSet digitsB (UInt8.ofNat n.val) = isDig (UInt8.ofNat n.val) := by decide +kernel
  have := key ⟨c.toNat, UInt8.toNat_lt c⟩
  rwa [UInt8.ofNat_toNat] at this
/-- The number that digits spell, behind acc. -/
def decV (acc : Nat) (l : Bytes) : Nat := l.foldl (fun a c => a * 10 + (c.toNat - 48)) acc
theorem decV_cons (acc : Nat) (c : UInt8) (t : Bytes) : decV acc (c :: t) = decV (acc * 10 + (c.toNat - 48)) t := by
  unfold decV
  rw [List.foldl_cons]
theorem decV_lt : ∀ (l : Bytes) (acc B : Nat), l.all isDig = true → acc < B → decV acc l < B * 10 ^ l.length
  | [], acc, B, _, h => by rw [List.length_nil, Nat.pow_zero, Nat.mul_one]; exact h
  | c :: t, acc, B, hd, h => by
    rw [List.all_cons, Bool.and_eq_true] at hd
    have hc := of_decide_eq_true hd.1
    have := decV_lt t (acc * 10 + (c.toNat - 48)) (B * 10) hd.2 (by omega)
    rw [decV_cons, List.length_cons, Nat.pow_succ, Nat.mul_comm (10 ^ t.length) 10, ← Nat.mul_assoc]
    exact this
theorem parse_small : ∀ (l : Bytes) (acc B : Nat), l.all isDig = true → acc < B → B * 10 ^ l.length ≤ 1000000000000000000 → Lib.parseUint10 acc l = .ok (decV acc l)
  | [], acc, B, _, _, _ => rfl
  | c :: t, acc, B, hd, h, hk => by
    rw [List.all_cons, Bool.and_eq_true] at hd
    have hc := of_decide_eq_true hd.1
    rw [List.length_cons, Nat.pow_succ, Nat.mul_comm (10 ^ t.length) 10, ← Nat.mul_assoc] at hk
    have hp : 1 ≤ 10 ^ t.length := Nat.one_le_pow _ _ (by decide)
    have hB : B * 10 ≤ 1000000000000000000 := Nat.le_trans (Nat.le_mul_of_pos_right _ hp) hk
    rw [Lib.parseUint10, if_pos hc, if_neg (by omega), if_neg (by omega), parse_small t _ (B * 10) hd.2 (by omega) hk, decV_cons]
theorem atoi_digits {l : Bytes} (hne : l ≠ []) (hd : l.all isDig = true) (hl : l.length ≤ 18) : Lib.atoiAll l = .ok (decV 0 l : Int) := by
  cases l with
  | nil => exact absurd rfl hne
  | cons c t =>
    have h18 : 10 ^ (c :: t).length ≤ 10 ^ 18 := Nat.pow_le_pow_right (by decide) hl
    have h3 : (10 : Nat) ^ 18 = 1000000000000000000 := rfl
    rw [h3] at h18
    have hp := parse_small (c :: t) 0 1 hd (by decide) (by rw [Nat.one_mul]; exact h18)
    have hlt := decV_lt (c :: t) 0 1 hd (by decide)
    rw [Nat.one_mul] at hlt
    rw [List.all_cons, Bool.and_eq_true] at hd
    have hc := of_decide_eq_true hd.1
    unfold Lib.atoiAll
    simp only
    rw [if_neg (by omega)]
    unfold Lib.parseMag
    rw [if_neg (by simp), hp]
    simp only
    rw [if_neg (by omega), if_neg (by omega), if_neg (by omega)]

theorem trimS_nil (s set : Bytes) : Lib.trimS s set = [] ↔ s.all (inSet set) = true := by
  have h1 : Lib.trimS s set = (rtrim (inSet set) s).dropWhile (inSet set) := rfl
  rw [h1, dropWhile_nil]
  constructor
  · intro h
    rcases snoc_cases (rtrim (inSet set) s) with he | ⟨l, b, he⟩
    · unfold rtrim at he
      rw [List.reverse_eq_nil_iff, dropWhile_nil] at he
      rw [List.all_eq_true]
      exact fun x hx => he x (List.mem_reverse.2 hx)
    · have hb := h b (by rw [he]; simp)
      have hd : s.reverse.dropWhile (inSet set) = b :: l.reverse := by
        have := congrArg List.reverse he
        unfold rtrim at this
        rw [List.reverse_reverse] at this
        rw [this]; simp
      have hn := List.head?_dropWhile_not (inSet set) s.reverse
      rw [hd] at hn
      simp [hb] at hn
  · intro h x hx
    rw [List.all_eq_true] at h
    unfold rtrim at hx
    exact h x (List.mem_reverse.1 ((List.dropWhile_sublist _).subset (List.mem_reverse.1 hx)))

end Go.Proofs.YtgofleplmnibbaaGreatDoor.Lex
namespace Go.Proofs.YtgofleplmnibbaaGreatDoor
open Go.RowKit Go.Shelf Lex

theorem digits_none (x : Bytes) (w : World) (hx : x.length ≤ 100000) (h : x = [] ∨ x.all isDig = false) :
    Calls Tryz.prog 162 #[.string ⟨x.toArray⟩] w fun e w' => e = .returned (.tuple #[.int .i64 0, .bool false]) ∧ Below w.heap.size w w' := by
  rcases h with rfl | h
  · go_enter Tryz.func162, Tryz.ntmps162
    go_wp2_with fail
    go_ret2
    exact ⟨rfl, Below.refl _ _⟩
  · have hne : x ≠ [] := by rintro rfl; cases h
    have hem : x.isEmpty = false := by simpa using hne
    have ht : Lib.trimS x digitsB ≠ [] := by
      intro e
      rw [trimS_nil] at e
      have : x.all (inSet digitsB) = x.all isDig := by congr 1; exact funext inDigits
      rw [this, h] at e
      cases e
    have hte : (Lib.trimS x digitsB).isEmpty = false := by simpa using ht
    have hT := Lib.hid (trim_any x digitsB w hx (by decide) (by decide))
    generalize Lib.trimS x digitsB = y at *
    clear ht hne h
    go_enter Tryz.func162, Tryz.ntmps162
    go_wp2_with fail
    refine hT.out.mono ?_
    rintro e w1 ⟨rfl, hb1⟩
    go_wp2_with fail
    go_ret2
    exact ⟨rfl, hb1⟩

theorem trim_digits {x : Bytes} (h : x.all isDig = true) : Lib.trimS x digitsB = [] := by
  rw [trimS_nil]
  have : x.all (inSet digitsB) = x.all isDig := by congr 1; exact funext inDigits
  rw [this]; exact h

theorem digits_good (x : Bytes) (w : World) (hx : x.length ≤ 18) (hne : x ≠ []) (hd : x.all isDig = true) :
    Calls Tryz.prog 162 #[.string ⟨x.toArray⟩] w fun e w' => e = .returned (.tuple #[.int .i64 (decV 0 x), .bool true]) ∧ Below w.heap.size w w' := by
  have hem : x.isEmpty = false := by simpa using hne
  have ht := trim_any x digitsB w (by omega) (by decide) (by decide)
  rw [trim_digits hd] at ht
  have hT := Lib.hid ht
  have hA := Lib.hid (atoi_digits hne hd hx)
  clear hne hd ht
  generalize decV 0 x = n at *
  go_enter Tryz.func162, Tryz.ntmps162
  go_wp2_with fail
  refine hT.out.mono ?_
  rintro e w1 ⟨rfl, hb1⟩
  go_wp2_with fail
  refine (atoi_ok w1 (by omega) hA.out).mono ?_
  rintro e w2 ⟨rfl, hb2⟩
  have hB := hb1.trans (hb2.mono hb1.size)
  go_wp2_with fail
  go_quiet (fail)
  go_wp2_with fail
  go_ret2
  exact ⟨rfl, below_drewN hB _⟩

theorem digits_long (x : Bytes) (w : World) (hG : Glob w) (hx : x.length ≤ 100000) (hne : x ≠ []) (hd : x.all isDig = true) :
    Calls Tryz.prog 162 #[.string ⟨x.toArray⟩] w fun e w' => (∃ m b, e = .returned (.tuple #[.int .i64 m, .bool b])) ∧ Below w.heap.size w w' := by
  have hem : x.isEmpty = false := by simpa using hne
  have ht := trim_any x digitsB w (by omega) (by decide) (by decide)
  rw [trim_digits hd] at ht
  have hT := Lib.hid ht
  clear hne hd ht
  by_cases hok : ∃ n, Lib.atoiAll x = .ok n
  · obtain ⟨n, hn⟩ := hok
    have hA := Lib.hid hn
    clear hn
    go_enter Tryz.func162, Tryz.ntmps162
    go_wp2_with fail
    refine hT.out.mono ?_
    rintro e w1 ⟨rfl, hb1⟩
    go_wp2_with fail
    refine (atoi_ok w1 hx hA.out).mono ?_
    rintro e w2 ⟨rfl, hb2⟩
    have hB := hb1.trans (hb2.mono hb1.size)
    go_wp2_with fail
    go_quiet (fail)
    go_wp2_with fail
    go_ret2
    exact ⟨⟨_, _, rfl⟩, below_drewN hB _⟩
  · have hno := Lib.hid (show ∀ n, Lib.atoiAll x ≠ .ok n from fun n h => hok ⟨n, h⟩)
    clear hok
    go_enter Tryz.func162, Tryz.ntmps162
    go_wp2_with fail
    refine hT.out.mono ?_
    rintro e w1 ⟨rfl, hb1⟩
    go_wp2_with fail
    refine (atoi_bad w1 (hG.below' hb1) hx hno.out).mono ?_
    rintro e w2 ⟨⟨m, t, p, rfl⟩, hb2⟩
    have hB := hb1.trans (hb2.mono hb1.size)
    go_wp2_with fail
    go_quiet (fail)
    go_wp2_with fail
    go_ret2
    exact ⟨⟨_, _, rfl⟩, below_drewN hB _⟩

end Go.Proofs.YtgofleplmnibbaaGreatDoor
