/-
  What reads words, one behind the other, into a struct: what a step leaves.
-/
import Derived.Test.YtgofleplmnibbaaGreatDoorLinR
import Derived.Test.YtgofleplmnibbaaGreatDoorLinS
import Derived.Test.YtgofleplmnibbaaGreatDoorLinT
import Derived.Test.YtgofleplmnibbaaGreatDoorLinU
namespace Go.Proofs.YtgofleplmnibbaaGreatDoor
open Go.RowKit Go.Shelf Lex

/-- Nothing has turned but the blocks of S, and what is new. -/
structure Kept (S : List Nat) (W A : World) : Prop where
  os : A.os = W.os
  tape : A.tape = W.tape
  output : A.output = W.output
  size : W.heap.size ≤ A.heap.size
  block : ∀ b, b < W.heap.size → b ∉ S → A.heap[b]? = W.heap[b]?
theorem Kept.cell {S : List Nat} {W A : World} (h : Kept S W A) {b o : Nat} (hb : b < W.heap.size) (hn : b ∉ S) : A.cell? ⟨b, o, none⟩ = W.cell? ⟨b, o, none⟩ := World.cell?_of_block (h.block b hb hn)
theorem Kept.below {S : List Nat} {w W A : World} (h : Kept S W A) (hw : Below w.heap.size w W) (hS : ∀ b ∈ S, w.heap.size ≤ b) : Below w.heap.size w A :=
  ⟨h.os.trans hw.os, h.tape.trans hw.tape, h.output.trans hw.output, Nat.le_trans hw.size h.size, fun k hk => (h.block k (Nat.lt_of_lt_of_le hk hw.size) (fun hm => by have := hS k hm; omega)).trans (hw.block k hk)⟩

/-- The first k words have been read. -/
structure Stage (w W0 : World) (S : Nat → List Nat) (r rb : Nat) (T : TypeId) (ws : List Bytes) (cs : Nat → Array Value) (er : Nat → Int) (k : Nat) (A : World) : Prop where
  kept : Kept (S k) W0 A
  ok : ∀ i, i < k → er i = 0
  str : A.heap[r]? = some (.cells (cs k) T (0, 0))
  rd : ∃ v, A.heap[rb]? = some (.cells #[v] 72 (0, 0)) ∧ Strs 0 w v (ws.drop k)
/-- A word was wrong. -/
def Wrong (W0 : World) (S : List Nat) (N : Nat) (er : Nat → Int) (e : Int) (A : World) : Prop := Kept S W0 A ∧ ∃ k, k < N ∧ (∀ i, i < k → er i = 0) ∧ er k = e ∧ e ≠ 0

variable {w W0 : World} {S : Nat → List Nat} {r rb : Nat} {T : TypeId} {ws : List Bytes} {cs : Nat → Array Value} {er : Nat → Int} {k N : Nat} {A : World} {x : Bytes}

/-- What a step has to leave. -/
def Steps (w W0 : World) (S : Nat → List Nat) (r rb : Nat) (T : TypeId) (ws : List Bytes) (cs : Nat → Array Value) (er : Nat → Int) (N k : Nat) (A : World) (f : Nat) (lb : Array Value) : Prop :=
  Calls Tryz.prog f (#[nextV rb] ++ lb) A fun e A' => ∃ e', e = .returned (.int .i64 e') ∧ (e' = 0 → Stage w W0 S r rb T ws cs er (k + 1) A') ∧ (e' ≠ 0 → Wrong W0 (S N) N er e' A')

theorem stage_post {B A' : World} {v' : Value} (_hw : Below w.heap.size w W0) (hS : ∀ k, S k ⊆ S (k + 1)) (hSN : ∀ k, k ≤ N → S k ⊆ S N) (hA : Stage w W0 S r rb T ws cs er k A) (hk : k < N)
    (hB : Below A.heap.size B A') (hos : B.os = A.os ∧ B.tape = A.tape ∧ B.output = A.output) (hbs : B.heap.size = A.heap.size) (hBo : ∀ b, b ∉ S (k + 1) → B.heap[b]? = A.heap[b]?)
    (hBr : B.heap[r]? = some (.cells (cs (k + 1)) T (0, 0))) (hBrb : B.heap[rb]? = some (.cells #[v'] 72 (0, 0))) (hv : Strs 0 w v' (ws.drop (k + 1))) :
    (er k = 0 → Stage w W0 S r rb T ws cs er (k + 1) A') ∧ (er k ≠ 0 → Wrong W0 (S N) N er (er k) A') := by
  have hK : Kept (S (k + 1)) W0 A' := ⟨hB.os.trans (hos.1.trans hA.kept.os), hB.tape.trans (hos.2.1.trans hA.kept.tape), hB.output.trans (hos.2.2.trans hA.kept.output), Nat.le_trans hA.kept.size (hbs ▸ hB.size), fun b hb hn => by
    rw [hB.block b (Nat.lt_of_lt_of_le hb hA.kept.size), hBo b hn]
    exact hA.kept.block b hb (fun hm => hn (hS k hm))⟩
  have lt : ∀ {b o}, B.heap[b]? = some o → b < A.heap.size := fun h => hbs ▸ (Array.getElem?_eq_some_iff.1 h).1
  refine ⟨fun h0 => ⟨hK, fun i hi => ?_, (hB.block _ (lt hBr)).trans hBr, v', (hB.block _ (lt hBrb)).trans hBrb, hv⟩, fun h0 => ⟨⟨hK.os, hK.tape, hK.output, hK.size, fun b hb hn => hK.block b hb (fun hm => hn (hSN (k + 1) hk hm))⟩, k, hk, hA.ok, rfl, h0⟩⟩
  rcases Nat.lt_succ_iff_lt_or_eq.1 hi with h | rfl
  · exact hA.ok i h
  · exact h0

theorem stage_reads (hw : Below w.heap.size w W0) (hSw : ∀ b ∈ S k, w.heap.size ≤ b) (hA : Stage w W0 S r rb T ws cs er k A) (hx : ws[k]? = some x) : Reads w rb A (x :: ws.drop (k + 1)) := by
  obtain ⟨v, h1, h2⟩ := hA.rd
  obtain ⟨hk, rfl⟩ := List.getElem?_eq_some_iff.1 hx
  rw [List.drop_eq_getElem_cons hk] at h2
  exact ⟨hA.kept.below hw hSw, v, h1, h2⟩

theorem step_kind {b : Nat} {want : Int} (hw : Below w.heap.size w W0) (hS : ∀ k, S k ⊆ S (k + 1)) (hSN : ∀ k, k ≤ N → S k ⊆ S N) (hSw : ∀ b ∈ S k, w.heap.size ≤ b) (hA : Stage w W0 S r rb T ws cs er k A) (hk : k < N) (hx : ws[k]? = some x) (hxl : x.length ≤ 100000)
    (hb : W0.cell? ⟨b, 0, none⟩ = some (.int .i64 want)) (hbl : b < W0.heap.size) (hbn : b ∉ S k) (hrb : rb ∈ S k) (hr : r ≠ rb) (hrb1 : rb ∈ S (k + 1))
    (hcs : cs (k + 1) = cs k) (her : er k = if (kindN x).2 = 0 ∧ (kindN x).1 = want then 0 else 13) :
    Steps w W0 S r rb T ws cs er N k A 93 #[.pointer (some ⟨b, 0, none⟩)] := by
  refine (kind1_any w rb b want x (ws.drop (k + 1)) A hxl (stage_reads hw hSw hA hx) ((hA.kept.cell hbl hbn).trans hb) (fun h => hbn (h ▸ hrb)) (Nat.lt_of_lt_of_le hbl hA.kept.size)).mono ?_
  rintro e A' ⟨rfl, v', hv, hB⟩
  obtain ⟨v, h1, _⟩ := hA.rd
  have hp := stage_post (B := A.setCell ⟨rb, 0, none⟩ v') hw hS hSN hA hk hB ⟨rfl, rfl, rfl⟩ (by simp [World.setCell]) (fun c hc => Below.heap_setCell _ _ _ _ (fun h => hc (h ▸ hrb1))) (by rw [hcs]; exact blk_other hr hA.str) (one_setCell h1) hv
  exact ⟨er k, by rw [← her], hp⟩

theorem step_name {b1 b2 off g : Nat} {old : Value} (hw : Below w.heap.size w W0) (hG : Glob w) (hS : ∀ k, S k ⊆ S (k + 1)) (hSN : ∀ k, k ≤ N → S k ⊆ S N) (hSw : ∀ b ∈ S k, w.heap.size ≤ b) (hA : Stage w W0 S r rb T ws cs er k A) (hk : k < N) (hx : ws[k]? = some x)
    (hb1 : W0.cell? ⟨b1, 0, none⟩ = some (.pointer (some ⟨r, off, none⟩))) (hb2 : W0.cell? ⟨b2, 0, none⟩ = some (.func (.func g) #[] #[])) (l1 : b1 < W0.heap.size) (l2 : b2 < W0.heap.size) (n1 : b1 ∉ S k) (n2 : b2 ∉ S k) (hrb : rb ∈ S k) (hrs : r ∈ S k) (hr : r ≠ rb)
    (eg : ∀ args w, (callFunc g args).run Tryz.prog w = .ok (.enter g args) w) (hg : ∀ W, Glob W → Calls Tryz.prog g #[.string ⟨x.toArray⟩] W fun e w' => e = .returned (.int .i64 (er k)) ∧ Below W.heap.size W w')
    (hold : (cs k)[off]? = some old) (hcs : cs (k + 1) = (cs k).setIfInBounds off (.string ⟨x.toArray⟩)) :
    Steps w W0 S r rb T ws cs er N k A 95 #[.pointer (some ⟨b1, 0, none⟩), .pointer (some ⟨b2, 0, none⟩)] := by
  have hBA := hA.kept.below hw hSw
  refine (name1_any w rb b1 b2 r off g (er k) old x (ws.drop (k + 1)) A (stage_reads hw hSw hA hx) ((hA.kept.cell l1 n1).trans hb1) ((hA.kept.cell l2 n2).trans hb2) (blk_cell hA.str hold) (Lib.frozen_of_heap hA.str off) (fun h => n1 (h ▸ hrb)) (fun h => n2 (h ▸ hrb)) hr (fun h => n1 (h ▸ hrs)) (fun h => n2 (h ▸ hrs)) eg hg
    (fun v' => hG.below' ((hBA.setCell (p := ⟨rb, 0, none⟩) (hSw _ hrb) _).setCell (p := ⟨r, off, none⟩) (hSw _ hrs) _))).mono ?_
  rintro e A' ⟨rfl, v', hv, hB⟩
  obtain ⟨v, h1, _⟩ := hA.rd
  refine ⟨er k, rfl, stage_post hw hS hSN hA hk hB ⟨rfl, rfl, rfl⟩ (by simp [World.setCell]) (fun c hc => ?_) (by rw [hcs]; exact blk_set off _ (blk_other hr hA.str)) (blk_other (Ne.symm hr) (one_setCell h1)) hv⟩
  have hcr : c ≠ r := fun h => hc (hS k (h ▸ hrs))
  have hcb : c ≠ rb := fun h => hc (hS k (h ▸ hrb))
  exact (Below.heap_setCell _ ⟨r, off, none⟩ _ _ hcr).trans (Below.heap_setCell _ ⟨rb, 0, none⟩ _ _ hcb)

/-- The kinds of what parses a word and leaves what was there. -/
def Parses (g : Nat) (x : Bytes) (v : Value) (e : Int) : Prop := ∀ W, Glob W → Calls Tryz.prog g #[.string ⟨x.toArray⟩] W fun q w' => q = .returned (.tuple #[v, .int .i64 e]) ∧ Below W.heap.size W w'

theorem drew_set (A : World) (p : Addr) (v : Value) (n : Nat) : Below n (A.setCell p v) (A.drew.setCell p v) := ⟨rfl, rfl, rfl, Nat.le_refl _, fun _ _ => rfl⟩

/-- A number is parsed, by a function that may have captured something. -/
theorem step_int {b1 b2 off g : Nat} {lb : Array Value} {n : Int} {old : Value} (hw : Below w.heap.size w W0) (hS : ∀ k, S k ⊆ S (k + 1)) (hSN : ∀ k, k ≤ N → S k ⊆ S N) (hSw : ∀ b ∈ S k, w.heap.size ≤ b) (hA : Stage w W0 S r rb T ws cs er k A) (hk : k < N) (hx : ws[k]? = some x)
    (hb1 : W0.cell? ⟨b1, 0, none⟩ = some (.func (.func g) #[] lb)) (hb2 : W0.cell? ⟨b2, 0, none⟩ = some (.pointer (some ⟨r, off, none⟩))) (l1 : b1 < W0.heap.size) (l2 : b2 < W0.heap.size) (n1 : b1 ∉ S k) (n2 : b2 ∉ S k) (hrb : rb ∈ S k) (hrs : r ∈ S k) (hr : r ≠ rb)
    (eg : ∀ args w, (callFunc g args).run Tryz.prog w = .ok (.enter g args) w)
    (hg : ∀ W, Below w.heap.size w W → W.heap[r]? = some (.cells (cs k) T (0, 0)) → Calls Tryz.prog g (#[.string ⟨x.toArray⟩] ++ lb) W fun e w' => e = .returned (.tuple #[.int .i64 n, .int .i64 (er k)]) ∧ Below W.heap.size W w')
    (hold : (cs k)[off]? = some old) (hcs : cs (k + 1) = (cs k).setIfInBounds off (.int .i64 n)) :
    Steps w W0 S r rb T ws cs er N k A 96 #[.pointer (some ⟨b1, 0, none⟩), .pointer (some ⟨b2, 0, none⟩)] := by
  have hBA := hA.kept.below hw hSw
  have hl2 := Nat.lt_of_lt_of_le l2 hA.kept.size
  have hlr := (Array.getElem?_eq_some_iff.1 hA.str).1
  have hsz : ∀ v', (A.drew.setCell ⟨rb, 0, none⟩ v').heap.size = A.heap.size := fun v' => by simp [World.setCell]
  refine (valueInt1_any w rb b1 b2 r off g lb n (er k) (fun W W' => Below W.heap.size W W') x (ws.drop (k + 1)) A (stage_reads hw hSw hA hx) ((hA.kept.cell l1 n1).trans hb1) (fun h => n1 (h ▸ hrb)) eg (fun v' W hW => ?_) (fun v' W W' hW hQ => ?_)).mono ?_
  · subst hW
    exact hg _ ((hBA.setCell (p := ⟨rb, 0, none⟩) (hSw _ hrb) v').trans (drew_set _ _ _ _)) (blk_other hr hA.str)
  · subst hW
    have hs := hQ.size
    rw [hsz] at hs hQ
    have hstr := (hQ.block r hlr).trans (blk_other (p := ⟨rb, 0, none⟩) (v := v') hr (show A.drew.heap[r]? = _ from hA.str))
    refine ⟨⟨?_, Nat.lt_of_lt_of_le hl2 hs, Nat.lt_of_lt_of_le hlr hs⟩, ⟨old, blk_cell hstr hold⟩, Lib.frozen_of_heap hstr off⟩
    rw [hQ.cell (p := ⟨b2, 0, none⟩) hl2, World.cell?_setCell_other (h := by intro e; injection e with e1; exact n2 (e1 ▸ hrb))]
    exact (hA.kept.cell l2 n2).trans hb2
  · rintro e A' ⟨rfl, v', W, W', rfl, hv, hQ, rfl⟩
    obtain ⟨v, h1, _⟩ := hA.rd
    rw [hsz] at hQ
    have hB : Below A.heap.size (A.setCell ⟨rb, 0, none⟩ v') W' := (drew_set _ _ _ _).trans hQ
    refine ⟨er k, rfl, stage_post hw hS hSN hA hk (below_bothS (p := ⟨r, off, none⟩) (v := .int .i64 n) hB (by simp [World.setCell]) hlr) ⟨rfl, rfl, rfl⟩ (by simp [World.setCell]) (fun c hc => ?_) (by rw [hcs]; exact blk_set off _ (blk_other hr hA.str)) (blk_other (Ne.symm hr) (one_setCell h1)) hv⟩
    have hcr : c ≠ r := fun h => hc (hS k (h ▸ hrs))
    have hcb : c ≠ rb := fun h => hc (hS k (h ▸ hrb))
    exact (Below.heap_setCell _ ⟨r, off, none⟩ _ _ hcr).trans (Below.heap_setCell _ ⟨rb, 0, none⟩ _ _ hcb)

/-- A text is parsed. -/
theorem step_str {b1 b2 off g : Nat} {y : Bytes} {old : Value} (hw : Below w.heap.size w W0) (hG : Glob w) (hS : ∀ k, S k ⊆ S (k + 1)) (hSN : ∀ k, k ≤ N → S k ⊆ S N) (hSw : ∀ b ∈ S k, w.heap.size ≤ b) (hA : Stage w W0 S r rb T ws cs er k A) (hk : k < N) (hx : ws[k]? = some x)
    (hb1 : W0.cell? ⟨b1, 0, none⟩ = some (.func (.func g) #[] #[])) (hb2 : W0.cell? ⟨b2, 0, none⟩ = some (.pointer (some ⟨r, off, none⟩))) (l1 : b1 < W0.heap.size) (l2 : b2 < W0.heap.size) (n1 : b1 ∉ S k) (n2 : b2 ∉ S k) (hrb : rb ∈ S k) (hrs : r ∈ S k) (hr : r ≠ rb)
    (eg : ∀ args w, (callFunc g args).run Tryz.prog w = .ok (.enter g args) w) (hg : Parses g x (.string ⟨y.toArray⟩) (er k))
    (hold : (cs k)[off]? = some old) (hcs : cs (k + 1) = (cs k).setIfInBounds off (.string ⟨y.toArray⟩)) :
    Steps w W0 S r rb T ws cs er N k A 97 #[.pointer (some ⟨b1, 0, none⟩), .pointer (some ⟨b2, 0, none⟩)] := by
  have hBA := hA.kept.below hw hSw
  have hl2 := Nat.lt_of_lt_of_le l2 hA.kept.size
  have hlr := (Array.getElem?_eq_some_iff.1 hA.str).1
  have hsz : ∀ v', (A.drew.setCell ⟨rb, 0, none⟩ v').heap.size = A.heap.size := fun v' => by simp [World.setCell]
  refine (valueStr1_any w rb b1 b2 r off g #[] y (er k) (fun W W' => Below W.heap.size W W') x (ws.drop (k + 1)) A (stage_reads hw hSw hA hx) ((hA.kept.cell l1 n1).trans hb1) (fun h => n1 (h ▸ hrb)) eg (fun v' W hW => ?_) (fun v' W W' hW hQ => ?_)).mono ?_
  · subst hW
    exact hg _ (hG.below' ((hBA.setCell (p := ⟨rb, 0, none⟩) (hSw _ hrb) v').trans (drew_set _ _ _ _)))
  · subst hW
    have hs := hQ.size
    rw [hsz] at hs hQ
    have hstr := (hQ.block r hlr).trans (blk_other (p := ⟨rb, 0, none⟩) (v := v') hr (show A.drew.heap[r]? = _ from hA.str))
    refine ⟨⟨?_, Nat.lt_of_lt_of_le hl2 hs, Nat.lt_of_lt_of_le hlr hs⟩, ⟨old, blk_cell hstr hold⟩, Lib.frozen_of_heap hstr off⟩
    rw [hQ.cell (p := ⟨b2, 0, none⟩) hl2, World.cell?_setCell_other (h := by intro e; injection e with e1; exact n2 (e1 ▸ hrb))]
    exact (hA.kept.cell l2 n2).trans hb2
  · rintro e A' ⟨rfl, v', W, W', rfl, hv, hQ, rfl⟩
    obtain ⟨v, h1, _⟩ := hA.rd
    rw [hsz] at hQ
    have hB : Below A.heap.size (A.setCell ⟨rb, 0, none⟩ v') W' := (drew_set _ _ _ _).trans hQ
    refine ⟨er k, rfl, stage_post hw hS hSN hA hk (below_bothS (p := ⟨r, off, none⟩) (v := .string ⟨y.toArray⟩) hB (by simp [World.setCell]) hlr) ⟨rfl, rfl, rfl⟩ (by simp [World.setCell]) (fun c hc => ?_) (by rw [hcs]; exact blk_set off _ (blk_other hr hA.str)) (blk_other (Ne.symm hr) (one_setCell h1)) hv⟩
    have hcr : c ≠ r := fun h => hc (hS k (h ▸ hrs))
    have hcb : c ≠ rb := fun h => hc (hS k (h ▸ hrb))
    exact (Below.heap_setCell _ ⟨r, off, none⟩ _ _ hcr).trans (Below.heap_setCell _ ⟨rb, 0, none⟩ _ _ hcb)

/-- A text is parsed, and goes nowhere that matters. -/
theorem step_dash {b1 b2 nb g : Nat} {y : Bytes} {old : Value} (hw : Below w.heap.size w W0) (hG : Glob w) (hS : ∀ k, S k ⊆ S (k + 1)) (hSN : ∀ k, k ≤ N → S k ⊆ S N) (hSw : ∀ b ∈ S k, w.heap.size ≤ b) (hA : Stage w W0 S r rb T ws cs er k A) (hk : k < N) (hx : ws[k]? = some x)
    (hb1 : W0.cell? ⟨b1, 0, none⟩ = some (.func (.func g) #[] #[])) (hb2 : W0.cell? ⟨b2, 0, none⟩ = some (.pointer (some ⟨nb, 0, none⟩))) (l1 : b1 < W0.heap.size) (l2 : b2 < W0.heap.size) (n1 : b1 ∉ S k) (n2 : b2 ∉ S k) (hrb : rb ∈ S k) (hr : r ≠ rb)
    (eg : ∀ args w, (callFunc g args).run Tryz.prog w = .ok (.enter g args) w) (hg : Parses g x (.string ⟨y.toArray⟩) (er k))
    (hnb : W0.heap[nb]? = some (.cells #[old] 9 (0, 0))) (m1 : nb ∉ S k) (m2 : nb ∈ S (k + 1)) (hrn : r ≠ nb) (hrbn : rb ≠ nb) (hcs : cs (k + 1) = cs k) :
    Steps w W0 S r rb T ws cs er N k A 97 #[.pointer (some ⟨b1, 0, none⟩), .pointer (some ⟨b2, 0, none⟩)] := by
  have hBA := hA.kept.below hw hSw
  have hl2 := Nat.lt_of_lt_of_le l2 hA.kept.size
  have hln0 := (Array.getElem?_eq_some_iff.1 hnb).1
  have hln := Nat.lt_of_lt_of_le hln0 hA.kept.size
  have hnA := (hA.kept.block nb hln0 m1).trans hnb
  have hsz : ∀ v', (A.drew.setCell ⟨rb, 0, none⟩ v').heap.size = A.heap.size := fun v' => by simp [World.setCell]
  refine (valueStr1_any w rb b1 b2 nb 0 g #[] y (er k) (fun W W' => Below W.heap.size W W') x (ws.drop (k + 1)) A (stage_reads hw hSw hA hx) ((hA.kept.cell l1 n1).trans hb1) (fun h => n1 (h ▸ hrb)) eg (fun v' W hW => ?_) (fun v' W W' hW hQ => ?_)).mono ?_
  · subst hW
    exact hg _ (hG.below' ((hBA.setCell (p := ⟨rb, 0, none⟩) (hSw _ hrb) v').trans (drew_set _ _ _ _)))
  · subst hW
    have hs := hQ.size
    rw [hsz] at hs hQ
    have hstr := (hQ.block nb hln).trans (blk_other (p := ⟨rb, 0, none⟩) (v := v') (Ne.symm hrbn) (show A.drew.heap[nb]? = _ from hnA))
    refine ⟨⟨?_, Nat.lt_of_lt_of_le hl2 hs, Nat.lt_of_lt_of_le hln hs⟩, ⟨old, blk_cell hstr rfl⟩, Lib.frozen_of_heap hstr 0⟩
    rw [hQ.cell (p := ⟨b2, 0, none⟩) hl2, World.cell?_setCell_other (h := by intro e; injection e with e1; exact n2 (e1 ▸ hrb))]
    exact (hA.kept.cell l2 n2).trans hb2
  · rintro e A' ⟨rfl, v', W, W', rfl, hv, hQ, rfl⟩
    obtain ⟨v, h1, _⟩ := hA.rd
    rw [hsz] at hQ
    have hB : Below A.heap.size (A.setCell ⟨rb, 0, none⟩ v') W' := (drew_set _ _ _ _).trans hQ
    refine ⟨er k, rfl, stage_post hw hS hSN hA hk (below_bothS (p := ⟨nb, 0, none⟩) (v := .string ⟨y.toArray⟩) hB (by simp [World.setCell]) hln) ⟨rfl, rfl, rfl⟩ (by simp [World.setCell]) (fun c hc => ?_) (by rw [hcs]; exact blk_other hrn (blk_other hr hA.str)) (blk_other hrbn (one_setCell h1)) hv⟩
    have hcr : c ≠ nb := fun h => hc (h ▸ m2)
    have hcb : c ≠ rb := fun h => hc (hS k (h ▸ hrb))
    exact (Below.heap_setCell _ ⟨nb, 0, none⟩ _ _ hcr).trans (Below.heap_setCell _ ⟨rb, 0, none⟩ _ _ hcb)

/-- A day is parsed. -/
theorem step_day {b1 b2 off g : Nat} {kd wk dn : Int} {o0 o1 o2 : Value} (hw : Below w.heap.size w W0) (hG : Glob w) (hS : ∀ k, S k ⊆ S (k + 1)) (hSN : ∀ k, k ≤ N → S k ⊆ S N) (hSw : ∀ b ∈ S k, w.heap.size ≤ b) (hA : Stage w W0 S r rb T ws cs er k A) (hk : k < N) (hx : ws[k]? = some x)
    (hb1 : W0.cell? ⟨b1, 0, none⟩ = some (.func (.func g) #[] #[])) (hb2 : W0.cell? ⟨b2, 0, none⟩ = some (.pointer (some ⟨r, off, none⟩))) (l1 : b1 < W0.heap.size) (l2 : b2 < W0.heap.size) (n1 : b1 ∉ S k) (n2 : b2 ∉ S k) (hrb : rb ∈ S k) (hrs : r ∈ S k) (hr : r ≠ rb)
    (eg : ∀ args w, (callFunc g args).run Tryz.prog w = .ok (.enter g args) w) (hg : Parses g x (.agg #[.int .i64 kd, .int .i64 wk, .int .i64 dn]) (er k))
    (h0 : (cs k)[off]? = some o0) (h1 : (cs k)[off + 1]? = some o1) (h2 : (cs k)[off + 2]? = some o2) (hcs : cs (k + 1) = (((cs k).setIfInBounds off (.int .i64 kd)).setIfInBounds (off + 1) (.int .i64 wk)).setIfInBounds (off + 2) (.int .i64 dn)) :
    Steps w W0 S r rb T ws cs er N k A 98 #[.pointer (some ⟨b1, 0, none⟩), .pointer (some ⟨b2, 0, none⟩)] := by
  have hBA := hA.kept.below hw hSw
  have hlr := (Array.getElem?_eq_some_iff.1 hA.str).1
  obtain ⟨v, hv1, _⟩ := hA.rd
  have hlrb := (Array.getElem?_eq_some_iff.1 hv1).1
  refine (valueDay1_any w rb b1 b2 r off g kd wk dn (er k) o0 o1 o2 x (ws.drop (k + 1)) A (stage_reads hw hSw hA hx) ((hA.kept.cell l1 n1).trans hb1) ((hA.kept.cell l2 n2).trans hb2) (fun h => n1 (h ▸ hrb)) (fun h => n2 (h ▸ hrb)) hr (Nat.lt_of_lt_of_le l1 hA.kept.size) (Nat.lt_of_lt_of_le l2 hA.kept.size) hlr hlrb
    ⟨blk_cell hA.str h0, blk_cell hA.str h1, blk_cell hA.str h2⟩ ⟨Lib.frozen_of_heap hA.str _, Lib.frozen_of_heap hA.str _, Lib.frozen_of_heap hA.str _⟩ eg hg (fun v' => hG.below' (hBA.setCell (p := ⟨rb, 0, none⟩) (hSw _ hrb) v'))).mono ?_
  rintro e A' ⟨rfl, v', hv, hB⟩
  refine ⟨er k, rfl, stage_post hw hS hSN hA hk hB ⟨rfl, rfl, rfl⟩ (by simp [World.setCell]) (fun c hc => ?_) (by rw [hcs]; exact blk_set (off + 2) _ (blk_set (off + 1) _ (blk_set off _ (blk_other hr hA.str)))) (blk_other (Ne.symm hr) (blk_other (Ne.symm hr) (blk_other (Ne.symm hr) (one_setCell hv1)))) hv⟩
  have hcr : c ≠ r := fun h => hc (hS k (h ▸ hrs))
  have hcb : c ≠ rb := fun h => hc (hS k (h ▸ hrb))
  exact (Below.heap_setCell _ ⟨r, off + 2, none⟩ _ _ hcr).trans ((Below.heap_setCell _ ⟨r, off + 1, none⟩ _ _ hcr).trans ((Below.heap_setCell _ ⟨r, off, none⟩ _ _ hcr).trans (Below.heap_setCell _ ⟨rb, 0, none⟩ _ _ hcb)))

/-- A time of a day is parsed. -/
theorem step_clk {b1 b2 off g : Nat} {sc kd : Int} {o0 o1 : Value} (hw : Below w.heap.size w W0) (hG : Glob w) (hS : ∀ k, S k ⊆ S (k + 1)) (hSN : ∀ k, k ≤ N → S k ⊆ S N) (hSw : ∀ b ∈ S k, w.heap.size ≤ b) (hA : Stage w W0 S r rb T ws cs er k A) (hk : k < N) (hx : ws[k]? = some x)
    (hb1 : W0.cell? ⟨b1, 0, none⟩ = some (.func (.func g) #[] #[])) (hb2 : W0.cell? ⟨b2, 0, none⟩ = some (.pointer (some ⟨r, off, none⟩))) (l1 : b1 < W0.heap.size) (l2 : b2 < W0.heap.size) (n1 : b1 ∉ S k) (n2 : b2 ∉ S k) (hrb : rb ∈ S k) (hrs : r ∈ S k) (hr : r ≠ rb)
    (eg : ∀ args w, (callFunc g args).run Tryz.prog w = .ok (.enter g args) w) (hg : Parses g x (.agg #[.int .i64 sc, .int .i64 kd]) (er k))
    (h0 : (cs k)[off]? = some o0) (h1 : (cs k)[off + 1]? = some o1) (hcs : cs (k + 1) = ((cs k).setIfInBounds off (.int .i64 sc)).setIfInBounds (off + 1) (.int .i64 kd)) :
    Steps w W0 S r rb T ws cs er N k A 103 #[.pointer (some ⟨b1, 0, none⟩), .pointer (some ⟨b2, 0, none⟩)] := by
  have hBA := hA.kept.below hw hSw
  have hlr := (Array.getElem?_eq_some_iff.1 hA.str).1
  obtain ⟨v, hv1, _⟩ := hA.rd
  have hlrb := (Array.getElem?_eq_some_iff.1 hv1).1
  refine (valueClk1_any w rb b1 b2 r off g sc kd (er k) o0 o1 x (ws.drop (k + 1)) A (stage_reads hw hSw hA hx) ((hA.kept.cell l1 n1).trans hb1) ((hA.kept.cell l2 n2).trans hb2) (fun h => n1 (h ▸ hrb)) (fun h => n2 (h ▸ hrb)) hr (Nat.lt_of_lt_of_le l1 hA.kept.size) (Nat.lt_of_lt_of_le l2 hA.kept.size) hlr hlrb
    ⟨blk_cell hA.str h0, blk_cell hA.str h1⟩ ⟨Lib.frozen_of_heap hA.str _, Lib.frozen_of_heap hA.str _⟩ eg hg (fun v' => hG.below' (hBA.setCell (p := ⟨rb, 0, none⟩) (hSw _ hrb) v'))).mono ?_
  rintro e A' ⟨rfl, v', hv, hB⟩
  refine ⟨er k, rfl, stage_post hw hS hSN hA hk hB ⟨rfl, rfl, rfl⟩ (by simp [World.setCell]) (fun c hc => ?_) (by rw [hcs]; exact blk_set (off + 1) _ (blk_set off _ (blk_other hr hA.str))) (blk_other (Ne.symm hr) (blk_other (Ne.symm hr) (one_setCell hv1))) hv⟩
  have hcr : c ≠ r := fun h => hc (hS k (h ▸ hrs))
  have hcb : c ≠ rb := fun h => hc (hS k (h ▸ hrb))
  exact (Below.heap_setCell _ ⟨r, off + 1, none⟩ _ _ hcr).trans ((Below.heap_setCell _ ⟨r, off, none⟩ _ _ hcr).trans (Below.heap_setCell _ ⟨rb, 0, none⟩ _ _ hcb))

end Go.Proofs.YtgofleplmnibbaaGreatDoor
