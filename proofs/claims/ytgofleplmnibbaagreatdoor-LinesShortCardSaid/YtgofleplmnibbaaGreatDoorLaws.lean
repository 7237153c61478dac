/-
  What the laws of lines share: few, is; which lengths lines have; the law LinesApart.
-/
import Derived.Test.YtgofleplmnibbaaGreatDoorAwake
import Derived.Test.YtgofleplmnibbaaGreatDoorLinZx
namespace Go.Proofs.YtgofleplmnibbaaGreatDoor.Lex

def fewF (ws : List Bytes) : Bool := ws.all (fun x => decide (x.length ≤ 80)) && decide (ws.length ≤ 14)
theorem few_size {ws : List Bytes} (h : fewF ws = true) : ∀ x ∈ ws, x.length ≤ 50000 := by
  unfold fewF at h
  rw [Bool.and_eq_true] at h
  intro x hx
  have := of_decide_eq_true (List.all_eq_true.1 h.1 x hx)
  omega
theorem few_length {ws : List Bytes} (h : fewF ws = true) : ws.length ≤ 14 := by
  unfold fewF at h
  rw [Bool.and_eq_true] at h
  exact of_decide_eq_true h.2
theorem ruleN_len {ws : List Bytes} (h : (ruleN ws).2 = 0) : ws.length = 10 := by
  unfold ruleN at h
  split at h
  · rfl
  · exact absurd h (by decide)
theorem linkN_len {ws : List Bytes} (h : (linkN ws).2.2 = 0) : ws.length = 3 := by
  unfold linkN at h
  split at h
  · rfl
  · exact absurd h (by decide)
theorem firstL_zero : ∀ {l : List Int}, firstL l = 0 → ∀ x ∈ l, x = 0
  | [], _, x, h => by cases h
  | e :: r, h, x, hx => by
    unfold firstL at h
    by_cases he : e = 0
    · rw [if_neg (fun h => h he)] at h
      rcases List.mem_cons.1 hx with rfl | hx
      · exact he
      · exact firstL_zero h x hx
    · rw [if_pos he] at h; exact absurd h he
theorem zoneN_ok {ws : List Bytes} (h : (zoneN ws).2.2 = 0) : (5 ≤ ws.length ∧ ws.length ≤ 9) ∧ eraN (ws.drop 2) = ((zoneN ws).2.1, 0) ∧ nameF (ws.getD 1 []) = true := by
  unfold zoneN at h ⊢
  by_cases h5 : ws.length < 5 ∨ 9 < ws.length
  · rw [if_pos h5] at h; exact absurd h (by decide)
  · rw [if_neg h5] at h ⊢
    have hf := firstE_list [if (kindN (ws.getD 0 [])).2 = 0 ∧ (kindN (ws.getD 0 [])).1 = 2 then 0 else 13, if nameF (ws.getD 1 []) then 0 else 23]
    simp only [List.length_cons, List.length_nil] at hf
    rw [hf] at h ⊢
    by_cases h0 : firstL [if (kindN (ws.getD 0 [])).2 = 0 ∧ (kindN (ws.getD 0 [])).1 = 2 then 0 else 13, if nameF (ws.getD 1 []) then 0 else 23] = 0
    · rw [if_pos h0] at h ⊢
      by_cases he : (eraN (ws.drop 2)).2 = 0
      · rw [if_pos he] at h ⊢
        refine ⟨by omega, Prod.ext rfl he, ?_⟩
        have h1 := firstL_zero h0 (if nameF (ws.getD 1 []) then 0 else 23) (by simp)
        cases hn : nameF (ws.getD 1 []) with
        | true => rfl
        | false => rw [hn] at h1; exact absurd h1 (by decide)
      · rw [if_neg he] at h; exact absurd h he
    · rw [if_neg h0] at h; exact absurd h h0

end Go.Proofs.YtgofleplmnibbaaGreatDoor.Lex
namespace Go.Proofs.YtgofleplmnibbaaGreatDoor
open Go.RowKit Go.Shelf Lex
attribute [local go_sem] ba_get

theorem strs_max {lo : Nat} {W : World} {v : Value} {xs : List Bytes} (h : Strs lo W v xs) : xs.length ≤ maxLen := by
  obtain ⟨A, c, _, h1, h2, _⟩ := h
  exact Nat.le_trans h1 h2

set_option maxRecDepth 100000 in
theorem few_at {b : Bool} (ws : List Bytes) (A : Option Addr) (c : Nat) (w : World) (hS : Strs 0 w (.slice A ws.length c) ws) (h : fewF ws = b) (hl : ws.length ≤ maxLen) :
    Calls Tryz.prog 18 #[.slice A ws.length c] w fun e w' => e = .returned (.bool b) ∧ w = w' := by
  have HB := Lib.hid h
  clear h
  unfold maxLen at hl
  go_enter Tryz.func18, Tryz.ntmps18
  go_wp2_with fail
  go_loopg [3] (ws.length) (fun g i wx => w = wx ∧ ∃ k : Nat, k ≤ ws.length ∧ ws.length - k ≤ g ∧ i = .int .i64 k ∧ (ws.take k).all (fun x => decide (x.length ≤ 80)) = true)
  case atStart => exact ⟨rfl, 0, by omega, by omega, rfl, rfl⟩
  case round =>
    obtain ⟨rfl, k, hk, hg, rfl, ha⟩ := hrel
    have HA := Lib.hid ha
    clear ha
    by_cases hlt : k < ws.length
    · obtain ⟨bk, o, rfl, hbk, hcell⟩ := strs_at hS hlt
      have hli : (k : Int) < ws.length := by omega
      have HI := Lib.hid (List.take_succ_eq_append_getElem hlt)
      by_cases h80 : ws[k].length ≤ 80
      · have e80 : ¬ (80 : Int) < ws[k].length := by omega
        have HC := Lib.hid (decide_eq_true h80)
        clear h80
        go_wp2_with fail
        go_roundg (ws.length - (k + 1))
        case measure => omega
        case rel => exact ⟨rfl, k + 1, by omega, by omega, by go_num, by rw [HI.out, List.all_append, HA.out, List.all_cons, HC.out]; rfl⟩
      · have e80 : (80 : Int) < ws[k].length := by omega
        have HC := Lib.hid (show b = false by
          rw [← HB.out]
          unfold fewF
          rw [show ws.all (fun x => decide (x.length ≤ 80)) = false from List.all_eq_false.2 ⟨ws[k], List.getElem_mem hlt, by simp; omega⟩]
          rfl)
        clear h80
        go_wp2_with fail
        go_ret
        exact ⟨by rw [HC.out]; rfl, rfl⟩
    · obtain rfl : k = ws.length := by omega
      rw [List.take_length] at HA
      by_cases h14 : ws.length ≤ 14
      · have e14 : (ws.length : Int) ≤ 14 := by omega
        have HC := Lib.hid (show b = true by rw [← HB.out]; unfold fewF; rw [HA.out, decide_eq_true h14]; rfl)
        clear h14
        go_wp2_with fail
        go_ret
        exact ⟨by rw [HC.out]; rfl, rfl⟩
      · have e14 : ¬ (ws.length : Int) ≤ 14 := by omega
        have HC := Lib.hid (show b = false by rw [← HB.out]; unfold fewF; rw [decide_eq_false h14, Bool.and_false])
        clear h14
        go_wp2_with fail
        go_ret
        exact ⟨by rw [HC.out]; rfl, rfl⟩

theorem is_at {e wr : Int} {r b : Bool} (h : (if r then e == 0 else e == wr) = b) (w : World) :
    Calls Tryz.prog 11 #[.int .i64 e, .bool r, .int .i64 wr] w fun q w' => q = .returned (.bool b) ∧ w = w' := by
  cases r with
  | true =>
    have HB := Lib.hid (show (e == 0) = b from h)
    clear h
    go_enter Tryz.func11, Tryz.ntmps11
    go_wp2_with fail
    go_ret
    exact ⟨by rw [← HB.out]; rfl, rfl⟩
  | false =>
    have HB := Lib.hid (show (e == wr) = b from h)
    clear h
    go_enter Tryz.func11, Tryz.ntmps11
    go_wp2_with fail
    go_ret
    exact ⟨by rw [← HB.out]; rfl, rfl⟩

end Go.Proofs.YtgofleplmnibbaaGreatDoor
