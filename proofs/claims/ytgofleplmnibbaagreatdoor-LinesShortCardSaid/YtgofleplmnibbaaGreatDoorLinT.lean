/-
  What reads a word by what parses it, into a struct: a time of a day.
-/
import Derived.Test.YtgofleplmnibbaaGreatDoorLinS
namespace Go.Proofs.YtgofleplmnibbaaGreatDoor
open Go.RowKit Go.Shelf Lex

theorem valueClk_make (to : Addr) (g : Nat) (lb : Array Value) (w : World) :
    Calls Tryz.prog 53 #[.pointer (some to), .func (.func g) #[] lb] w fun e w' => e = .returned (.func (.func 103) #[] #[.pointer (some ⟨w.heap.size + 1, 0, none⟩), .pointer (some ⟨w.heap.size, 0, none⟩)]) ∧ (w.alloc (.cells #[.pointer (some to)] 86)).alloc (.cells #[.func (.func g) #[] lb] 87) = w' := by
  go_enter Tryz.func53, Tryz.ntmps53
  go_wp2
  go_ret
  exact ⟨by simp, rfl⟩

set_option maxHeartbeats 8000000 in
set_option maxRecDepth 100000 in
theorem valueClk1_any (w0 : World) (rb b1 b2 tb off g : Nat) (sc kd : Int) (er : Int) (old0 old1 : Value) (x : Bytes) (ws : List Bytes) (w : World) (hR : Reads w0 rb w (x :: ws))
    (h1 : w.cell? ⟨b1, 0, none⟩ = some (.func (.func g) #[] #[])) (h2 : w.cell? ⟨b2, 0, none⟩ = some (.pointer (some ⟨tb, off, none⟩))) (n1 : b1 ≠ rb) (n2 : b2 ≠ rb) (n3 : tb ≠ rb) (l1 : b1 < w.heap.size) (l2 : b2 < w.heap.size) (l3 : tb < w.heap.size) (l4 : rb < w.heap.size)
    (ht : w.cell? ⟨tb, off, none⟩ = some old0 ∧ w.cell? ⟨tb, off + 1, none⟩ = some old1) (hf : w.frozen? ⟨tb, off, none⟩ = false ∧ w.frozen? ⟨tb, off + 1, none⟩ = false)
    (eg : ∀ args w, (callFunc g args).run Tryz.prog w = .ok (.enter g args) w)
    (hg : ∀ W, Glob W → Calls Tryz.prog g #[.string ⟨x.toArray⟩] W fun e w' => e = .returned (.tuple #[.agg #[.int .i64 sc, .int .i64 kd], .int .i64 er]) ∧ Below W.heap.size W w')
    (hGl : ∀ v', Glob (w.setCell ⟨rb, 0, none⟩ v')) :
    Calls Tryz.prog 103 #[nextV rb, .pointer (some ⟨b1, 0, none⟩), .pointer (some ⟨b2, 0, none⟩)] w fun e w' => e = .returned (.int .i64 er) ∧ ∃ v', Strs 0 w0 v' ws ∧ Below w.heap.size (((w.setCell ⟨rb, 0, none⟩ v').setCell ⟨tb, off, none⟩ (.int .i64 sc)).setCell ⟨tb, off + 1, none⟩ (.int .i64 kd)) w' := by
  have hd : Below w.heap.size w w.drew := (Below.refl _ w).drew
  have h1d : (w.drew.alloc (.cells #[.int .i64 0, .int .i64 0] 32)).cell? ⟨b1, 0, none⟩ = some (.func (.func g) #[] #[]) := ((hd.alloc (Nat.le_refl _) _).cell (p := ⟨b1, 0, none⟩) l1).trans h1
  have HN := Lib.hid (fun W (h : Below w.heap.size w W) => reads_grown (ws := ws) (x := x) hR h)
  have hsz : ∀ v', (w.setCell ⟨rb, 0, none⟩ v').heap.size = w.heap.size := fun v' => by simp [World.setCell]
  have HC : Hid (∀ W v' W1, Below w.heap.size w W → W.setCell ⟨rb, 0, none⟩ v' = W1 → W1.cell? ⟨b1, 0, none⟩ = some (.func (.func g) #[] #[]) ∧ Below w.heap.size (w.setCell ⟨rb, 0, none⟩ v') W1) := Lib.hid (by
    rintro W v' W1 h rfl
    refine ⟨?_, below_both h l4 _⟩
    rw [World.cell?_setCell_other (h := by intro e; injection e with e1; exact n1 e1.symm)]
    exact (h.cell (p := ⟨b1, 0, none⟩) l1).trans h1)
  have HG : Hid (∀ v' W, Below w.heap.size (w.setCell ⟨rb, 0, none⟩ v') W → Calls Tryz.prog g #[.string ⟨x.toArray⟩] W fun e w' => e = .returned (.tuple #[.agg #[.int .i64 sc, .int .i64 kd], .int .i64 er]) ∧ Below W.heap.size W w') := Lib.hid (fun v' W h => hg W ((hGl v').below' (by rw [hsz]; exact h)))
  have HT : Hid (∀ v' W, Below w.heap.size (w.setCell ⟨rb, 0, none⟩ v') W → W.cell? ⟨b2, 0, none⟩ = some (.pointer (some ⟨tb, off, none⟩)) ∧ (W.cell? ⟨tb, off, none⟩ = some old0 ∧ W.cell? ⟨tb, off + 1, none⟩ = some old1) ∧ (W.frozen? ⟨tb, off, none⟩ = false ∧ W.frozen? ⟨tb, off + 1, none⟩ = false) ∧ w.heap.size ≤ W.heap.size) := Lib.hid (fun v' W h => by
    have hs := h.size
    rw [hsz] at hs
    have ot : ∀ k, (w.setCell ⟨rb, 0, none⟩ v').cell? ⟨tb, k, none⟩ = w.cell? ⟨tb, k, none⟩ := fun k => by rw [World.cell?_setCell_other (h := by intro e; injection e with e1; exact n3 e1.symm)]
    refine ⟨?_, ?_, ?_, hs⟩
    · rw [h.cell (p := ⟨b2, 0, none⟩) l2, World.cell?_setCell_other (h := by intro e; injection e with e1; exact n2 e1.symm)]; exact h2
    · refine ⟨(h.cell (p := ⟨tb, off, none⟩) l3).trans ((ot _).trans ht.1), (h.cell (p := ⟨tb, off + 1, none⟩) l3).trans ((ot _).trans ht.2)⟩
    · refine ⟨(h.frozen (p := ⟨tb, off, none⟩) l3).trans (by rw [World.frozen?_setCell]; exact hf.1), (h.frozen (p := ⟨tb, off + 1, none⟩) l3).trans (by rw [World.frozen?_setCell]; exact hf.2)⟩)
  unfold nextV
  obtain ⟨n, hn⟩ : ∃ n : Nat, Hid (1 ≤ n) := ⟨9, Lib.hid (by omega)⟩
  have hmix : Tryz.prog.follows .mixedOrders = true := by kernel_rfl
  clear hR hg hGl ht hf h2 hsz
  refine (callsIn_wide (n := n)).1 ?_
  refine callsIn_of_wp_marks Tryz.func103 rfl trivial ?_ rfl
  simp only [Tryz.ntmps103, List.size_toArray, List.length_cons, List.length_nil, Nat.reduceAdd, Nat.reduceSub, Array.replicate_succ, Array.replicate_zero, List.push_toArray, List.append_toArray, List.nil_append, List.cons_append]
  gi_wp2_with fail
  rename_i KK hK0
  have REST : Hid (∀ (v' : Value) (b5 : Nat) (w5 : World), Strs 0 w0 v' ws → Below w.heap.size (w.setCell ⟨rb, 0, none⟩ v') w5 → w.heap.size ≤ b5 → w5.heap[b5]? = some (.cells #[.int .i64 sc, .int .i64 kd] 32 (0, 0)) →
      KK { tmps := #[.func (.func 92) #[.pointer (some ⟨rb, 0, none⟩)] #[], .pointer (some ⟨b1, 0, none⟩), .pointer (some ⟨b2, 0, none⟩), undef, .int .i64 0, .pointer (some ⟨b5, 0, none⟩), .int .i64 er, .tuple #[.agg #[.int .i64 sc, .int .i64 kd], .int .i64 er], .func (.func g) #[] #[], .func (.func 92) #[.pointer (some ⟨rb, 0, none⟩)] #[], .string ⟨x.toArray⟩, .tuple #[.agg #[.int .i64 sc, .int .i64 kd], .int .i64 er], .agg #[.int .i64 sc, .int .i64 kd], .int .i64 er, undef, undef, undef, undef], defers := [] } w5) := Lib.hid (by
    intro v' b5 w5 hS t5 hb5 s5
    obtain ⟨u2, u3, u4, u6⟩ := HT.out v' w5 t5
    obtain ⟨⟨d0, d1⟩, g0, g1⟩ := cells2 s5
    obtain ⟨e0, e1⟩ := u3
    obtain ⟨k0, k1⟩ := u4
    refine hK0 _ _ ?_
    clear hK0 s5
    gi_wp2_with fail
    exact ⟨.int .i64 er, by simp [results, Tryz.results103, go_sem], rfl, v', hS, below_bothS (below_bothS (t5) (by simp [World.setCell]) l3) (by simp [World.setCell]) l3⟩)
  first | gi_region_with_o (first
    | (refine wide_call (HN.out w.drew hd) ?_; rintro e w1 ⟨rfl, v', hw1, hS⟩; obtain ⟨q1, q5⟩ := HC.out _ v' w1 hd hw1; have q6 := (HT.out v' w1 q5).2.2.2; have q7 : (w1.alloc (.cells #[.int .i64 0, .int .i64 0] 32)).cell? ⟨b1, 0, none⟩ = some (.func (.func g) #[] #[]) := (((Below.refl _ w1).alloc (Nat.le_refl _) _).cell (p := ⟨b1, 0, none⟩) (Nat.lt_of_lt_of_le l1 q6)).trans q1; clear hw1)
    | (refine wide_call (HN.out (w.drew.alloc (.cells #[.int .i64 0, .int .i64 0] 32)) (hd.alloc (Nat.le_refl _) _)) ?_; rintro e w1 ⟨rfl, v', hw1, hS⟩; obtain ⟨q1, q5⟩ := HC.out _ v' w1 (hd.alloc (Nat.le_refl _) _) hw1; have q6 := (HT.out v' w1 q5).2.2.2; have z1 := Lib.hid (show w1.heap[w.heap.size]? = some (.cells #[.int .i64 0, .int .i64 0] 32 (0, 0)) from hw1 ▸ blk_other (Nat.ne_of_gt l4) (World.alloc_heap_new w.drew _)); clear hw1)
    | (refine wide_call (HG.out v' w1 q5) ?_; have z1' := z1.out; rintro e w2 ⟨rfl, hb2⟩; have r5 := q5.trans (hb2.mono q6); have r6 := (HT.out v' w2 r5).2.2.2; have z2 := (hb2.block _ (Array.getElem?_eq_some_iff.1 z1').1).trans z1'; obtain ⟨⟨c0, c1⟩, f0, f1⟩ := cells2 z2; have Z2 := Lib.hid z2; clear hb2 z1' z2)
    | (refine wide_call (HG.out v' w1 q5) ?_; rintro e w2 ⟨rfl, hb2⟩; have r5 := q5.trans (hb2.mono q6); have r6 := (HT.out v' w2 r5).2.2.2; clear hb2)
    | (refine wide_call (HG.out v' (w1.alloc (.cells #[.int .i64 0, .int .i64 0] 32)) (q5.alloc q6 _)) ?_; rintro e w2 ⟨rfl, hb2⟩; have r5 := (q5.alloc q6 _).trans (hb2.mono (Nat.le_trans q6 (by simp))); have r6 := (HT.out v' w2 r5).2.2.2; have z3 := (hb2.block _ (by simp)).trans (World.alloc_heap_new w1 (.cells #[.int .i64 0, .int .i64 0] 32)); obtain ⟨⟨c0, c1⟩, f0, f1⟩ := cells2 z3; have Z3 := Lib.hid z3; clear hb2 z3)) | (trace_state; fail)
  all_goals first | exact REST.out v' _ _ hS (r5.alloc r6 _) r6 (World.alloc_heap_new w2 _) | exact REST.out v' _ _ hS (((r5.setCell (p := ⟨w.heap.size, 0, none⟩) (Nat.le_refl _) _).setCell (p := ⟨w.heap.size, 1, none⟩) (Nat.le_refl _) _)) (Nat.le_refl _) (blk_set 1 (.int .i64 kd) (blk_set 0 (.int .i64 sc) (Z2.out))) | exact REST.out v' _ _ hS (((r5.setCell (p := ⟨w1.heap.size, 0, none⟩) q6 _).setCell (p := ⟨w1.heap.size, 1, none⟩) q6 _)) q6 (blk_set 1 (.int .i64 kd) (blk_set 0 (.int .i64 sc) (Z3.out))) | (trace_state; fail)

end Go.Proofs.YtgofleplmnibbaaGreatDoor
