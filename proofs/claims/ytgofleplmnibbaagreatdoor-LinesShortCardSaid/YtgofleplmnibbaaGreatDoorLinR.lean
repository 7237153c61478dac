/-
  What reads a word by what parses it.
-/
import Derived.Test.YtgofleplmnibbaaGreatDoorLinQ
namespace Go.Proofs.YtgofleplmnibbaaGreatDoor
open Go.RowKit Go.Shelf Lex

theorem valueInt_make (to : Addr) (g : Nat) (lb : Array Value) (w : World) :
    Calls Tryz.prog 46 #[.pointer (some to), .func (.func g) #[] lb] w fun e w' => e = .returned (.func (.func 96) #[] #[.pointer (some ⟨w.heap.size + 1, 0, none⟩), .pointer (some ⟨w.heap.size, 0, none⟩)]) ∧ (w.alloc (.cells #[.pointer (some to)] 79)).alloc (.cells #[.func (.func g) #[] lb] 69) = w' := by
  go_enter Tryz.func46, Tryz.ntmps46
  go_wp2
  go_ret
  exact ⟨by simp, rfl⟩

set_option maxHeartbeats 4000000 in
set_option maxRecDepth 100000 in
theorem valueInt1_any (w0 : World) (rb b1 b2 tb off g : Nat) (lb : Array Value) (n : Int) (er : Int) (Q : World → World → Prop) (x : Bytes) (ws : List Bytes) (w : World) (hR : Reads w0 rb w (x :: ws))
    (h1 : w.cell? ⟨b1, 0, none⟩ = some (.func (.func g) #[] lb)) (n1 : b1 ≠ rb)
    (eg : ∀ args w, (callFunc g args).run Tryz.prog w = .ok (.enter g args) w)
    (hg : ∀ v' W, w.drew.setCell ⟨rb, 0, none⟩ v' = W → Calls Tryz.prog g (#[.string ⟨x.toArray⟩] ++ lb) W fun e w' => e = .returned (.tuple #[.int .i64 n, .int .i64 er]) ∧ Q W w')
    (hQ : ∀ v' W W', w.drew.setCell ⟨rb, 0, none⟩ v' = W → Q W W' → (W'.cell? ⟨b2, 0, none⟩ = some (.pointer (some ⟨tb, off, none⟩)) ∧ b2 < W'.heap.size ∧ tb < W'.heap.size) ∧ ((∃ o, W'.cell? ⟨tb, off, none⟩ = some o)) ∧ W'.frozen? ⟨tb, off, none⟩ = false) :
    Calls Tryz.prog 96 #[nextV rb, .pointer (some ⟨b1, 0, none⟩), .pointer (some ⟨b2, 0, none⟩)] w fun e w' => e = .returned (.int .i64 er) ∧ ∃ v' W W', w.drew.setCell ⟨rb, 0, none⟩ v' = W ∧ Strs 0 w0 v' ws ∧ Q W W' ∧ (W'.setCell ⟨tb, off, none⟩ (.int .i64 n)) = w' := by
  have HN := Lib.hid (show Calls Tryz.prog 92 #[.pointer (some ⟨rb, 0, none⟩)] w.drew _ from reads_next (ws := ws) (x := x) (by
    exact ⟨hR.1.drew, hR.2⟩))
  have HC : Hid (∀ v' W, w.drew.setCell ⟨rb, 0, none⟩ v' = W → W.cell? ⟨b1, 0, none⟩ = some (.func (.func g) #[] lb)) := Lib.hid (by
    rintro v' W rfl
    rw [World.cell?_setCell_other (h := by intro e; injection e with e1; exact n1 e1.symm)]; exact h1)
  have HG := Lib.hid hg
  have HQ := Lib.hid hQ
  unfold nextV
  obtain ⟨n, hn⟩ : ∃ n : Nat, Hid (1 ≤ n) := ⟨9, Lib.hid (by omega)⟩
  have hmix : Tryz.prog.follows .mixedOrders = true := by kernel_rfl
  clear hR hg hQ
  refine (callsIn_wide (n := n)).1 ?_
  refine callsIn_of_wp_marks Tryz.func96 rfl trivial ?_ rfl
  simp only [Tryz.ntmps96, List.size_toArray, List.length_cons, List.length_nil, Nat.reduceAdd, Nat.reduceSub, Array.replicate_succ, Array.replicate_zero, List.push_toArray, List.append_toArray, List.nil_append, List.cons_append]
  gi_wp2_with fail
  first | gi_region_with_o (first | (refine wide_call HN.out ?_; rintro e w1 ⟨rfl, v', hw1, hS⟩; have q1 := HC.out v' w1 hw1; have HW1 := Lib.hid hw1; clear hw1) | (refine wide_call (HG.out v' w1 HW1.out) ?_; rintro e w2 ⟨rfl, hq2⟩)) | (trace_state; fail)
  all_goals (obtain ⟨⟨p1, l1, l2⟩, ⟨o0, p20⟩, p30⟩ := HQ.out v' w1 w2 HW1.out hq2; clear q1)
  all_goals gi_wp2_with fail
  all_goals exact ⟨.int .i64 er, by simp [results, Tryz.results96, go_sem], rfl, v', w1, w2, HW1.out, hS, hq2, rfl⟩

theorem valueStr_make (to : Addr) (g : Nat) (lb : Array Value) (w : World) :
    Calls Tryz.prog 48 #[.pointer (some to), .func (.func g) #[] lb] w fun e w' => e = .returned (.func (.func 97) #[] #[.pointer (some ⟨w.heap.size + 1, 0, none⟩), .pointer (some ⟨w.heap.size, 0, none⟩)]) ∧ (w.alloc (.cells #[.pointer (some to)] 77)).alloc (.cells #[.func (.func g) #[] lb] 81) = w' := by
  go_enter Tryz.func48, Tryz.ntmps48
  go_wp2
  go_ret
  exact ⟨by simp, rfl⟩

set_option maxHeartbeats 4000000 in
set_option maxRecDepth 100000 in
theorem valueStr1_any (w0 : World) (rb b1 b2 tb off g : Nat) (lb : Array Value) (s : Bytes) (er : Int) (Q : World → World → Prop) (x : Bytes) (ws : List Bytes) (w : World) (hR : Reads w0 rb w (x :: ws))
    (h1 : w.cell? ⟨b1, 0, none⟩ = some (.func (.func g) #[] lb)) (n1 : b1 ≠ rb)
    (eg : ∀ args w, (callFunc g args).run Tryz.prog w = .ok (.enter g args) w)
    (hg : ∀ v' W, w.drew.setCell ⟨rb, 0, none⟩ v' = W → Calls Tryz.prog g (#[.string ⟨x.toArray⟩] ++ lb) W fun e w' => e = .returned (.tuple #[.string ⟨s.toArray⟩, .int .i64 er]) ∧ Q W w')
    (hQ : ∀ v' W W', w.drew.setCell ⟨rb, 0, none⟩ v' = W → Q W W' → (W'.cell? ⟨b2, 0, none⟩ = some (.pointer (some ⟨tb, off, none⟩)) ∧ b2 < W'.heap.size ∧ tb < W'.heap.size) ∧ ((∃ o, W'.cell? ⟨tb, off, none⟩ = some o)) ∧ W'.frozen? ⟨tb, off, none⟩ = false) :
    Calls Tryz.prog 97 #[nextV rb, .pointer (some ⟨b1, 0, none⟩), .pointer (some ⟨b2, 0, none⟩)] w fun e w' => e = .returned (.int .i64 er) ∧ ∃ v' W W', w.drew.setCell ⟨rb, 0, none⟩ v' = W ∧ Strs 0 w0 v' ws ∧ Q W W' ∧ (W'.setCell ⟨tb, off, none⟩ (.string ⟨s.toArray⟩)) = w' := by
  have HN := Lib.hid (show Calls Tryz.prog 92 #[.pointer (some ⟨rb, 0, none⟩)] w.drew _ from reads_next (ws := ws) (x := x) (by
    exact ⟨hR.1.drew, hR.2⟩))
  have HC : Hid (∀ v' W, w.drew.setCell ⟨rb, 0, none⟩ v' = W → W.cell? ⟨b1, 0, none⟩ = some (.func (.func g) #[] lb)) := Lib.hid (by
    rintro v' W rfl
    rw [World.cell?_setCell_other (h := by intro e; injection e with e1; exact n1 e1.symm)]; exact h1)
  have HG := Lib.hid hg
  have HQ := Lib.hid hQ
  unfold nextV
  obtain ⟨n, hn⟩ : ∃ n : Nat, Hid (1 ≤ n) := ⟨9, Lib.hid (by omega)⟩
  have hmix : Tryz.prog.follows .mixedOrders = true := by kernel_rfl
  clear hR hg hQ
  refine (callsIn_wide (n := n)).1 ?_
  refine callsIn_of_wp_marks Tryz.func97 rfl trivial ?_ rfl
  simp only [Tryz.ntmps97, List.size_toArray, List.length_cons, List.length_nil, Nat.reduceAdd, Nat.reduceSub, Array.replicate_succ, Array.replicate_zero, List.push_toArray, List.append_toArray, List.nil_append, List.cons_append]
  gi_wp2_with fail
  first | gi_region_with_o (first | (refine wide_call HN.out ?_; rintro e w1 ⟨rfl, v', hw1, hS⟩; have q1 := HC.out v' w1 hw1; have HW1 := Lib.hid hw1; clear hw1) | (refine wide_call (HG.out v' w1 HW1.out) ?_; rintro e w2 ⟨rfl, hq2⟩)) | (trace_state; fail)
  all_goals (obtain ⟨⟨p1, l1, l2⟩, ⟨o0, p20⟩, p30⟩ := HQ.out v' w1 w2 HW1.out hq2; clear q1)
  all_goals gi_wp2_with fail
  all_goals exact ⟨.int .i64 er, by simp [results, Tryz.results97, go_sem], rfl, v', w1, w2, HW1.out, hS, hq2, rfl⟩

end Go.Proofs.YtgofleplmnibbaaGreatDoor
