/-
  The reader of words: next, and what reads a word.
-/
import Derived.Test.YtgofleplmnibbaaGreatDoorCells
import Derived.Test.YtgofleplmnibbaaGreatDoorLinP
import Derived.Shelf.RegionOpen
namespace Go.Proofs.YtgofleplmnibbaaGreatDoor
open Go.RowKit Go.Shelf Lex

/-- The reader at block rb has the words ws left, that lie in the world w0. -/
def Reads (w0 : World) (rb : Nat) (W : World) (ws : List Bytes) : Prop := Below w0.heap.size w0 W ∧ ∃ v, W.heap[rb]? = some (.cells #[v] 72 (0, 0)) ∧ Strs 0 w0 v ws

set_option maxRecDepth 100000 in
theorem next_at (rb : Nat) (x : Bytes) (ws : List Bytes) (A : Option Addr) (c : Nat) (w0 w : World) (hB : Below w0.heap.size w0 w) (hb : w.heap[rb]? = some (.cells #[.slice A (ws.length + 1) c] 72 (0, 0))) (hS : Strs 0 w0 (.slice A (ws.length + 1) c) (x :: ws)) :
    Calls Tryz.prog 92 #[.pointer (some ⟨rb, 0, none⟩)] w fun e w' => e = .returned (.string ⟨x.toArray⟩) ∧ ∃ v', w.setCell ⟨rb, 0, none⟩ v' = w' ∧ Strs 0 w0 v' ws := by
  obtain ⟨A', c', hv, hc, hm, hr⟩ := hS
  injection hv with e1 e2 e3
  subst e1 e3
  obtain ⟨bk, o, rfl, _, hlt, hx⟩ := hr (by simp)
  have h0 := (hB.cell (p := ⟨bk, o + 0, none⟩) hlt).trans (hx 0 x rfl)
  rw [Nat.add_zero] at h0
  have hc0 : w.cell? ⟨rb, 0, none⟩ = some (.slice (some ⟨bk, o, none⟩) (ws.length + 1) c) := blk_cell hb rfl
  have hf0 : w.frozen? ⟨rb, 0, none⟩ = false := Lib.frozen_of_heap hb 0
  simp only [List.length_cons] at hc hm
  have hc' : (ws.length : Int) + 1 ≤ c := by omega
  have HX := Lib.hid hx
  have HM := Lib.hid hm
  clear hx hr hm e2
  go_enter Tryz.func92, Tryz.ntmps92
  go_wp2_with fail
  · go_ret
    refine ⟨rfl, _, rfl, _, _, rfl, by omega, Nat.zero_le _, fun h => ?_⟩
    exfalso
    omega
  · go_ret
    refine ⟨rfl, _, rfl, _, _, rfl, by omega, by have := HM.out; omega, fun h => ⟨bk, o + 1, rfl, Nat.zero_le _, hlt, fun j y hj => ?_⟩⟩
    have := HX.out (j + 1) y hj
    rwa [show o + (j + 1) = o + 1 + j from by omega] at this

/-- What a reading of a word leaves: the reader is one on, and one cell is written. -/
theorem reads_next {w0 : World} {rb : Nat} {x : Bytes} {ws : List Bytes} {w : World} (h : Reads w0 rb w (x :: ws)) :
    Calls Tryz.prog 92 #[.pointer (some ⟨rb, 0, none⟩)] w fun e w' => e = .returned (.string ⟨x.toArray⟩) ∧ ∃ v', w.setCell ⟨rb, 0, none⟩ v' = w' ∧ Strs 0 w0 v' ws := by
  obtain ⟨hB, v, hb, hS⟩ := h
  obtain ⟨A, c, rfl⟩ := strs_form hS
  exact next_at rb x ws A c w0 w hB hb hS

def nextV (rb : Nat) : Value := .func (.func 92) #[.pointer (some ⟨rb, 0, none⟩)] #[]

theorem kind_make (want : Int) (w : World) :
    Calls Tryz.prog 44 #[.int .i64 want] w fun e w' => e = .returned (.func (.func 93) #[] #[.pointer (some ⟨w.heap.size, 0, none⟩)]) ∧ w.alloc (.cells #[.int .i64 want] 3) = w' := by
  go_enter Tryz.func44, Tryz.ntmps44
  go_wp2
  go_ret
  exact ⟨rfl, rfl⟩

theorem kind1_any (w0 : World) (rb b : Nat) (want : Int) (x : Bytes) (ws : List Bytes) (w : World) (hx : x.length ≤ 100000) (hR : Reads w0 rb w (x :: ws)) (hb : w.cell? ⟨b, 0, none⟩ = some (.int .i64 want)) (hne : b ≠ rb) (hbl : b < w.heap.size) :
    Calls Tryz.prog 93 #[nextV rb, .pointer (some ⟨b, 0, none⟩)] w fun e w' => e = .returned (.int .i64 (if (kindN x).2 = 0 ∧ (kindN x).1 = want then 0 else 13)) ∧ ∃ v', Strs 0 w0 v' ws ∧ Below w.heap.size (w.setCell ⟨rb, 0, none⟩ v') w' := by
  have HN := Lib.hid (reads_next hR)
  unfold nextV
  have hbb : ∀ v', (w.setCell ⟨rb, 0, none⟩ v').cell? ⟨b, 0, none⟩ = some (.int .i64 want) := fun v' => by
    rw [World.cell?_setCell_other (h := by intro e; injection e with e1; exact hne e1.symm)]; exact hb
  have HBB := Lib.hid hbb
  clear hbb hb hR
  have HK := fun W => Lib.hid (kind_any x W hx)
  obtain ⟨r, HR⟩ : ∃ r, Hid ((if (kindN x).2 = 0 ∧ (kindN x).1 = want then (0 : Int) else 13) = r) := ⟨_, Lib.hid rfl⟩
  rw [HR.out]
  generalize kindN x = kd at *
  obtain ⟨k, ek⟩ := kd
  simp only at HR HK
  by_cases he : ek = 0
  · by_cases hk : k = want
    · have HR2 : Hid ((0 : Int) = r) := Lib.hid (by rw [← HR.out, if_pos ⟨he, hk⟩])
      subst he hk
      go_enter Tryz.func93, Tryz.ntmps93
      go_wp2_with fail
      refine HN.out.mono ?_
      rintro e w1 ⟨rfl, v', rfl, hS⟩
      have hc := HBB.out v'
      go_wp2_with fail
      refine (HK _).out.mono ?_
      rintro e w1 ⟨rfl, hb1⟩
      have hc1 := (hb1.cell (p := ⟨b, 0, none⟩) (by simpa [World.setCell] using hbl)).trans hc
      go_wp2_with fail
      go_ret
      exact ⟨by rw [← HR2.out]; rfl, v', hS, by simpa [World.setCell] using hb1⟩
    · have HR2 : Hid ((13 : Int) = r) := Lib.hid (by rw [← HR.out, if_neg (fun h => hk h.2)])
      have hkb : (k != want) = true := by rw [bne_iff_ne]; exact hk
      subst he
      go_enter Tryz.func93, Tryz.ntmps93
      go_wp2_with fail
      refine HN.out.mono ?_
      rintro e w1 ⟨rfl, v', rfl, hS⟩
      have hc := HBB.out v'
      go_wp2_with fail
      refine (HK _).out.mono ?_
      rintro e w1 ⟨rfl, hb1⟩
      have hc1 := (hb1.cell (p := ⟨b, 0, none⟩) (by simpa [World.setCell] using hbl)).trans hc
      go_wp2_with fail
      go_ret
      exact ⟨by rw [← HR2.out]; rfl, v', hS, by simpa [World.setCell] using hb1⟩
  · have HR2 : Hid ((13 : Int) = r) := Lib.hid (by rw [← HR.out, if_neg (fun h => he h.1)])
    have heb : (ek != 0) = true := by rw [bne_iff_ne]; exact he
    go_enter Tryz.func93, Tryz.ntmps93
    go_wp2_with fail
    refine HN.out.mono ?_
    rintro e w1 ⟨rfl, v', rfl, hS⟩
    go_wp2_with fail
    refine (HK _).out.mono ?_
    rintro e w1 ⟨rfl, hb1⟩
    go_wp2_with fail
    go_ret
    exact ⟨by rw [← HR2.out]; rfl, v', hS, by simpa [World.setCell] using hb1⟩

theorem name_make (to : Addr) (g : Nat) (w : World) :
    Calls Tryz.prog 45 #[.pointer (some to), .func (.func g) #[] #[]] w fun e w' => e = .returned (.func (.func 95) #[] #[.pointer (some ⟨w.heap.size, 0, none⟩), .pointer (some ⟨w.heap.size + 1, 0, none⟩)]) ∧ (w.alloc (.cells #[.pointer (some to)] 77)).alloc (.cells #[.func (.func g) #[] #[]] 25) = w' := by
  go_enter Tryz.func45, Tryz.ntmps45
  go_wp2
  go_ret
  exact ⟨by simp, rfl⟩

set_option maxHeartbeats 2000000 in
set_option maxRecDepth 100000 in
/-- A name is read, and checked. -/
theorem name1_any (w0 : World) (rb b1 b2 tb off g : Nat) (er : Int) (old : Value) (x : Bytes) (ws : List Bytes) (w : World) (hR : Reads w0 rb w (x :: ws))
    (h1 : w.cell? ⟨b1, 0, none⟩ = some (.pointer (some ⟨tb, off, none⟩))) (h2 : w.cell? ⟨b2, 0, none⟩ = some (.func (.func g) #[] #[])) (ht : w.cell? ⟨tb, off, none⟩ = some old) (hf : w.frozen? ⟨tb, off, none⟩ = false)
    (n1 : b1 ≠ rb) (n2 : b2 ≠ rb) (n3 : tb ≠ rb) (m1 : b1 ≠ tb) (m2 : b2 ≠ tb)
    (eg : ∀ args w, (callFunc g args).run Tryz.prog w = .ok (.enter g args) w) (hg : ∀ W, Glob W → Calls Tryz.prog g #[.string ⟨x.toArray⟩] W fun e w' => e = .returned (.int .i64 er) ∧ Below W.heap.size W w') (hG : ∀ v', Glob ((w.setCell ⟨rb, 0, none⟩ v').setCell ⟨tb, off, none⟩ (.string ⟨x.toArray⟩))) :
    Calls Tryz.prog 95 #[nextV rb, .pointer (some ⟨b1, 0, none⟩), .pointer (some ⟨b2, 0, none⟩)] w fun e w' => e = .returned (.int .i64 er) ∧ ∃ v', Strs 0 w0 v' ws ∧ Below w.heap.size ((w.setCell ⟨rb, 0, none⟩ v').setCell ⟨tb, off, none⟩ (.string ⟨x.toArray⟩)) w' := by
  have HN := Lib.hid (show Calls Tryz.prog 92 #[.pointer (some ⟨rb, 0, none⟩)] w.drew _ from reads_next (ws := ws) (x := x) (by
    exact ⟨hR.1.drew, hR.2⟩))
  have HC : Hid (∀ v' W, w.drew.setCell ⟨rb, 0, none⟩ v' = W → W.cell? ⟨b1, 0, none⟩ = some (.pointer (some ⟨tb, off, none⟩)) ∧ W.cell? ⟨tb, off, none⟩ = some old ∧ W.frozen? ⟨tb, off, none⟩ = false ∧ W.cell? ⟨b2, 0, none⟩ = some (.func (.func g) #[] #[]) ∧ Below w.heap.size (w.setCell ⟨rb, 0, none⟩ v') W) := Lib.hid (by
    rintro v' W rfl
    rw [World.cell?_setCell_other (h := by intro e; injection e with e1; exact n1 e1.symm), World.cell?_setCell_other (h := by intro e; injection e with e1; exact n3 e1.symm), World.cell?_setCell_other (h := by intro e; injection e with e1; exact n2 e1.symm), World.frozen?_setCell]; exact ⟨h1, ht, hf, h2, ⟨rfl, rfl, rfl, Nat.le_refl _, fun _ _ => rfl⟩⟩)
  have HD : Hid (∀ v' W W', w.drew.setCell ⟨rb, 0, none⟩ v' = W → W.setCell ⟨tb, off, none⟩ (.string ⟨x.toArray⟩) = W' → W'.cell? ⟨b1, 0, none⟩ = some (.pointer (some ⟨tb, off, none⟩)) ∧ W'.cell? ⟨b2, 0, none⟩ = some (.func (.func g) #[] #[]) ∧ W'.cell? ⟨tb, off, none⟩ = some (.string ⟨x.toArray⟩) ∧ Calls Tryz.prog g #[.string ⟨x.toArray⟩] W'.drew fun e w' => e = .returned (.int .i64 er) ∧ Below w.heap.size ((w.setCell ⟨rb, 0, none⟩ v').setCell ⟨tb, off, none⟩ (.string ⟨x.toArray⟩)) w') := Lib.hid (by
    rintro v' W W' hW rfl
    obtain ⟨q1, q2, q3, q4, _⟩ := HC.out v' W hW
    subst hW
    refine ⟨?_, ?_, World.cell?_setCell_same _ _ _ q2, ?_⟩
    · rw [World.cell?_setCell_other (h := by intro e; injection e with e1; exact m1 e1.symm)]; exact q1
    · rw [World.cell?_setCell_other (h := by intro e; injection e with e1; exact m2 e1.symm)]; exact q4
    · have hb0 : Below w.heap.size ((w.setCell ⟨rb, 0, none⟩ v').setCell ⟨tb, off, none⟩ (.string ⟨x.toArray⟩)) ((w.drew.setCell ⟨rb, 0, none⟩ v').setCell ⟨tb, off, none⟩ (.string ⟨x.toArray⟩)).drew := ⟨rfl, rfl, rfl, Nat.le_refl _, fun _ _ => rfl⟩
      refine (hg ((w.drew.setCell ⟨rb, 0, none⟩ v').setCell ⟨tb, off, none⟩ (.string ⟨x.toArray⟩)).drew ((hG v').below' ⟨rfl, rfl, rfl, Nat.le_refl _, fun _ _ => rfl⟩)).mono ?_
      rintro e w' ⟨rfl, hb⟩
      exact ⟨rfl, hb0.trans (hb.mono (by simp [World.setCell]))⟩)
  unfold nextV
  obtain ⟨n, hn⟩ : ∃ n : Nat, Hid (1 ≤ n) := ⟨9, Lib.hid (by omega)⟩
  have hmix : Tryz.prog.follows .mixedOrders = true := by kernel_rfl
  clear hR hg hG ht h2
  refine (callsIn_wide (n := n)).1 ?_
  refine callsIn_of_wp_marks Tryz.func95 rfl trivial ?_ rfl
  simp only [Tryz.ntmps95, List.size_toArray, List.length_cons, List.length_nil, Nat.reduceAdd, Nat.reduceSub, Array.replicate_succ, Array.replicate_zero, List.push_toArray, List.append_toArray, List.nil_append, List.cons_append]
  gi_wp2_with fail
  first | gi_region_with_o (refine wide_call HN.out ?_; rintro e w1 ⟨rfl, v', hw1, hS⟩; obtain ⟨q1, q2, q3, q4, q5⟩ := HC.out v' w1 hw1; have HW1 := Lib.hid hw1; clear hw1) | fail
  all_goals (obtain ⟨w2, hw2⟩ : ∃ w2, w2 = w1.setCell ⟨tb, off, none⟩ (.string ⟨x.toArray⟩) := ⟨_, rfl⟩; obtain ⟨p1, p2, p3, p4⟩ := HD.out v' w1 w2 HW1.out hw2.symm; clear q1 q2 q3 q4; have HP4 := Lib.hid p4; clear p4)
  all_goals gi_wp2_with fail
  all_goals (rw [← hw2]; clear hw2)
  all_goals (first | gi_region_with_o (refine wide_call HP4.out ?_; rintro e w3 ⟨rfl, hb1⟩) | (trace_state; fail))
  all_goals gi_wp2_with fail
  all_goals exact ⟨.int .i64 er, by simp [results, Tryz.results95, go_sem], rfl, v', hS, hb1⟩

end Go.Proofs.YtgofleplmnibbaaGreatDoor
