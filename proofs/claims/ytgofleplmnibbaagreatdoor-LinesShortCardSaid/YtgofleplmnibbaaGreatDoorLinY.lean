/-
  Era's own parsing of rules, as steps of the reader.
-/
import Derived.Test.YtgofleplmnibbaaGreatDoorLinV
namespace Go.Proofs.YtgofleplmnibbaaGreatDoor
open Go.RowKit Go.Shelf Lex

variable {w W0 : World} {S : Nat → List Nat} {r rb : Nat} {T : TypeId} {ws : List Bytes} {cs : Nat → Array Value} {er : Nat → Int} {k N : Nat} {A : World} {x : Bytes}

/-- A set's name is parsed. -/
theorem step_rulesName {b1 b2 off : Nat} {old : Value} (hw : Below w.heap.size w W0) (hG : Glob w) (hS : ∀ k, S k ⊆ S (k + 1)) (hSN : ∀ k, k ≤ N → S k ⊆ S N) (hSw : ∀ b ∈ S k, w.heap.size ≤ b) (hA : Stage w W0 S r rb T ws cs er k A) (hk : k < N) (hx : ws[k]? = some x) (hxl : x.length ≤ 100000)
    (hb1 : W0.cell? ⟨b1, 0, none⟩ = some (.func (.func 64) #[] #[.pointer (some ⟨r, 0, none⟩)])) (hb2 : W0.cell? ⟨b2, 0, none⟩ = some (.pointer (some ⟨r, off, none⟩))) (l1 : b1 < W0.heap.size) (l2 : b2 < W0.heap.size) (n1 : b1 ∉ S k) (n2 : b2 ∉ S k) (hrb : rb ∈ S k) (hrs : r ∈ S k) (hr : r ≠ rb)
    (hd : dashy x = false) (her : er k = if setNameF x then 0 else 23)
    (hold : (cs k)[off]? = some old) (hcs : cs (k + 1) = (cs k).setIfInBounds off (.string ⟨x.toArray⟩)) :
    Steps w W0 S r rb T ws cs er N k A 97 #[.pointer (some ⟨b1, 0, none⟩), .pointer (some ⟨b2, 0, none⟩)] := by
  have hBA := hA.kept.below hw hSw
  have hl2 := Nat.lt_of_lt_of_le l2 hA.kept.size
  have hlr := (Array.getElem?_eq_some_iff.1 hA.str).1
  have hsz : ∀ v', (A.drew.setCell ⟨rb, 0, none⟩ v').heap.size = A.heap.size := fun v' => by simp [World.setCell]
  refine (valueStr1_any w rb b1 b2 r off 64 #[.pointer (some ⟨r, 0, none⟩)] x (er k) (fun W W' => Below W.heap.size W W') x (ws.drop (k + 1)) A (stage_reads hw hSw hA hx) ((hA.kept.cell l1 n1).trans hb1) (fun h => n1 (h ▸ hrb)) (enters_of Tryz.func64 (by kernel_rfl) rfl) (fun v' W hW => ?_) (fun v' W W' hW hQ => ?_)).mono ?_
  · subst hW
    rw [her]
    exact rulesName_any x r _ (hG.below' ((hBA.setCell (p := ⟨rb, 0, none⟩) (hSw _ hrb) v').trans (drew_set _ _ _ _))) hxl hd
  · subst hW
    have hs := hQ.size
    rw [hsz] at hs hQ
    have hstr := (hQ.block r hlr).trans (blk_other (p := ⟨rb, 0, none⟩) (v := v') hr (show A.drew.heap[r]? = _ from hA.str))
    refine ⟨⟨?_, Nat.lt_of_lt_of_le hl2 hs, Nat.lt_of_lt_of_le hlr hs⟩, ⟨old, blk_cell hstr hold⟩, Lib.frozen_of_heap hstr off⟩
    rw [hQ.cell (p := ⟨b2, 0, none⟩) hl2, World.cell?_setCell_other (h := by intro e; injection e with e1; exact n2 (e1 ▸ hrb))]
    exact (hA.kept.cell l2 n2).trans hb2
  · rintro e A' ⟨rfl, v', W, W', rfl, hv, hQ, rfl⟩
    obtain ⟨v, h1, _⟩ := hA.rd
    rw [hsz] at hQ
    have hB : Below A.heap.size (A.setCell ⟨rb, 0, none⟩ v') W' := (drew_set _ _ _ _).trans hQ
    refine ⟨er k, rfl, stage_post hw hS hSN hA hk (below_bothS (p := ⟨r, off, none⟩) (v := .string ⟨x.toArray⟩) hB (by simp [World.setCell]) hlr) ⟨rfl, rfl, rfl⟩ (by simp [World.setCell]) (fun c hc => ?_) (by rw [hcs]; exact blk_set off _ (blk_other hr hA.str)) (blk_other (Ne.symm hr) (one_setCell h1)) hv⟩
    have hcr : c ≠ r := fun h => hc (hS k (h ▸ hrs))
    have hcb : c ≠ rb := fun h => hc (hS k (h ▸ hrb))
    exact (Below.heap_setCell _ ⟨r, off, none⟩ _ _ hcr).trans (Below.heap_setCell _ ⟨rb, 0, none⟩ _ _ hcb)

/-- What is saved throughout is parsed: it goes into another cell of the struct. -/
theorem step_rulesSpan {b1 b2 off : Nat} {old sv : Value} (hw : Below w.heap.size w W0) (hG : Glob w) (hS : ∀ k, S k ⊆ S (k + 1)) (hSN : ∀ k, k ≤ N → S k ⊆ S N) (hSw : ∀ b ∈ S k, w.heap.size ≤ b) (hA : Stage w W0 S r rb T ws cs er k A) (hk : k < N) (hx : ws[k]? = some x) (hxl : x.length ≤ 100000)
    (hb1 : W0.cell? ⟨b1, 0, none⟩ = some (.func (.func 64) #[] #[.pointer (some ⟨r, 0, none⟩)])) (hb2 : W0.cell? ⟨b2, 0, none⟩ = some (.pointer (some ⟨r, off, none⟩))) (l1 : b1 < W0.heap.size) (l2 : b2 < W0.heap.size) (n1 : b1 ∉ S k) (n2 : b2 ∉ S k) (hrb : rb ∈ S k) (hrs : r ∈ S k) (hr : r ≠ rb)
    (hd : dashy x = true) (her : er k = (spanL x).2) (hoff : off ≠ 2)
    (hold : (cs k)[off]? = some old) (hsv : (cs k)[2]? = some sv) (hcs : cs (k + 1) = ((cs k).setIfInBounds 2 (.int .i64 (spanL x).1)).setIfInBounds off (.string ⟨#[]⟩)) :
    Steps w W0 S r rb T ws cs er N k A 97 #[.pointer (some ⟨b1, 0, none⟩), .pointer (some ⟨b2, 0, none⟩)] := by
  have hBA := hA.kept.below hw hSw
  have hl2 := Nat.lt_of_lt_of_le l2 hA.kept.size
  have hlr := (Array.getElem?_eq_some_iff.1 hA.str).1
  have hsz : ∀ v', (A.drew.setCell ⟨rb, 0, none⟩ v').heap.size = A.heap.size := fun v' => by simp [World.setCell]
  have hstr0 : ∀ v', (A.drew.setCell ⟨rb, 0, none⟩ v').heap[r]? = some (.cells (cs k) T (0, 0)) := fun v' => blk_other (p := ⟨rb, 0, none⟩) (v := v') hr (show A.drew.heap[r]? = _ from hA.str)
  have hP := fun (W : World) hW hc hf hl => rulesSpan_any x r sv W hW hxl hd hc hf hl
  generalize (spanL x).1 = n at *
  refine (valueStr1_any w rb b1 b2 r off 64 #[.pointer (some ⟨r, 0, none⟩)] [] (er k) (fun W W' => ∃ W1, Below W.heap.size W W1 ∧ W1.setCell ⟨r, 2, none⟩ (.int .i64 n) = W') x (ws.drop (k + 1)) A (stage_reads hw hSw hA hx) ((hA.kept.cell l1 n1).trans hb1) (fun h => n1 (h ▸ hrb)) (enters_of Tryz.func64 (by kernel_rfl) rfl) (fun v' W hW => ?_) (fun v' W W' hW hQ => ?_)).mono ?_
  · subst hW
    rw [her]
    exact hP _ (hG.below' ((hBA.setCell (p := ⟨rb, 0, none⟩) (hSw _ hrb) v').trans (drew_set _ _ _ _))) (blk_cell (hstr0 v') hsv) (Lib.frozen_of_heap (hstr0 v') 2) (by rw [hsz]; exact hlr)
  · subst hW
    obtain ⟨W1, hQ, rfl⟩ := hQ
    have hs := hQ.size
    rw [hsz] at hs hQ
    have hstr := blk_set 2 (.int .i64 n) ((hQ.block r hlr).trans (hstr0 v'))
    refine ⟨⟨?_, by simp [World.setCell]; omega, by simp [World.setCell]; omega⟩, ⟨old, blk_cell hstr ?_⟩, Lib.frozen_of_heap hstr off⟩
    · rw [World.cell?_setCell_other (h := by intro e; injection e with e1; exact n2 (e1 ▸ hrs)), hQ.cell (p := ⟨b2, 0, none⟩) hl2, World.cell?_setCell_other (h := by intro e; injection e with e1; exact n2 (e1 ▸ hrb))]
      exact (hA.kept.cell l2 n2).trans hb2
    · rw [Array.getElem?_setIfInBounds_ne (Ne.symm hoff)]; exact hold
  · rintro e A' ⟨rfl, v', W, W', rfl, hv, ⟨W1, hQ, rfl⟩, rfl⟩
    obtain ⟨v, h1, _⟩ := hA.rd
    rw [hsz] at hQ
    have hB : Below A.heap.size (A.setCell ⟨rb, 0, none⟩ v') W1 := (drew_set _ _ _ _).trans hQ
    refine ⟨er k, rfl, stage_post hw hS hSN hA hk (below_bothS (p := ⟨r, off, none⟩) (v := .string ⟨#[]⟩) (below_bothS (p := ⟨r, 2, none⟩) (v := .int .i64 n) hB (by simp [World.setCell]) hlr) (by simp [World.setCell]) hlr) ⟨rfl, rfl, rfl⟩ (by simp [World.setCell]) (fun c hc => ?_) (by rw [hcs]; exact blk_set off _ (blk_set 2 _ (blk_other hr hA.str))) (blk_other (Ne.symm hr) (blk_other (Ne.symm hr) (one_setCell h1))) hv⟩
    have hcr : c ≠ r := fun h => hc (hS k (h ▸ hrs))
    have hcb : c ≠ rb := fun h => hc (hS k (h ▸ hrb))
    exact (Below.heap_setCell _ ⟨r, off, none⟩ _ _ hcr).trans ((Below.heap_setCell _ ⟨r, 2, none⟩ _ _ hcr).trans (Below.heap_setCell _ ⟨rb, 0, none⟩ _ _ hcb))

end Go.Proofs.YtgofleplmnibbaaGreatDoor
