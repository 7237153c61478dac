/-
  clock.numbers: the numbers between a text's colons, as what a range over them is handed.
-/
import Derived.Test.YtgofleplmnibbaaGreatDoorLinC
import Derived.Test.YtgofleplmnibbaaGreatDoorLinJ
import Derived.Test.YtgofleplmnibbaaGreatDoorRangeK
namespace Go.Proofs.YtgofleplmnibbaaGreatDoor.Lex

def okNum (i : Nat) (p : Bytes) : Bool := !p.isEmpty && p.all isDig && (if i = 0 then decide (p.length ≤ 3) else decide (p.length = 2 ∧ decV 0 p < 60))
def numP (i : Nat) (p : Bytes) : Int := if okNum i p then decV 0 p else -1
def numsF : Nat → List Bytes → List (Nat × Int)
  | _, [] => []
  | i, p :: r => (i, numP i p) :: numsF (i + 1) r
theorem numsF_length : ∀ (i : Nat) (l : List Bytes), (numsF i l).length = l.length
  | _, [] => rfl
  | i, p :: r => by rw [numsF, List.length_cons, List.length_cons, numsF_length]
theorem numsF_snoc : ∀ (i : Nat) (l : List Bytes) (p : Bytes), numsF i (l ++ [p]) = numsF i l ++ [(i + l.length, numP (i + l.length) p)]
  | i, [], p => by simp [numsF]
  | i, q :: r, p => by rw [List.cons_append, numsF, numsF_snoc (i + 1) r p, numsF, List.length_cons, List.cons_append, show i + 1 + r.length = i + (r.length + 1) from by omega]
theorem numsF_prefix {l m : List Bytes} (h : l <+: m) : numsF 0 l <+: numsF 0 m := by
  obtain ⟨t, rfl⟩ := h
  have : ∀ (i : Nat) (l t : List Bytes), ∃ u, numsF i l ++ u = numsF i (l ++ t) := by
    intro i l
    induction l generalizing i with
    | nil => exact fun t => ⟨_, rfl⟩
    | cons p r ih =>
      intro t
      obtain ⟨u, hu⟩ := ih (i + 1) t
      exact ⟨u, by rw [List.cons_append, numsF, numsF, List.cons_append, hu]⟩
  exact this 0 l t

end Go.Proofs.YtgofleplmnibbaaGreatDoor.Lex
namespace Go.Proofs.YtgofleplmnibbaaGreatDoor
open Go.RowKit Go.Shelf Lex
attribute [local go_sem] Oper.semAt_some

def encN (x : Nat × Int) : Array Value := #[.int .i64 x.1, .int .i64 x.2]
/-- What a round keeps: all below n₀, the captured block b, and all from base on. -/
def keepN (n₀ b base : Nat) (A C : World) : Prop := Below n₀ A C ∧ ∀ k, (k = b ∨ base ≤ k) → k < A.heap.size → C.heap[k]? = A.heap[k]?

theorem undef_no {b : Bool} (h : some undef = some (Value.bool b)) : False := by
  injection h with h
  cases h

theorem ownFrom_J {α β : Type} {J : List α → World → Prop} {B base : Nat} (f : β → List α) (hJ : ∀ s A C, J s A → Below base A C → J s C) (hB : base ≤ B) : OwnFrom B (fun (pre : β) A => J (f pre) A ∧ base ≤ A.heap.size) :=
  fun s A C row ⟨h, hz⟩ hg hr => ⟨hJ _ _ _ h ⟨hg.os, hg.tape, hg.output, hg.size, fun k hk => hg.block k (by omega) (fun e => by have := (hr k e.symm).1; omega)⟩, Nat.le_trans hz hg.size⟩

theorem keepN_from {n₀ b base B : Nat} {A A1 A2 : World} (h1 : Below A.heap.size A A1) (h2 : keepN n₀ b base A1 A2) (hB : base ≤ B) : KeepsFrom B A A2 :=
  ⟨Nat.le_trans h1.size h2.1.size, fun k o hk ho _ => by
    have hlt : k < A.heap.size := (Array.getElem?_eq_some_iff.1 ho).1
    exact (h2.2 k (.inr (by omega)) (Nat.lt_of_lt_of_le hlt h1.size)).trans ((h1.block k hlt).trans ho)⟩
theorem keepN_S {n₀ b base c : Nat} {A A1 A2 : World} (h1 : Below A.heap.size A A1) (h2 : keepN n₀ b base A1 A2) (hB : base ≤ c) (hc : c + 2 < A.heap.size) (hn : n₀ ≤ A.heap.size) : keepS n₀ c A A2 := by
  have key : ∀ k, base ≤ k → k < A.heap.size → A2.heap[k]? = A.heap[k]? := fun k hk hlt => (h2.2 k (.inr hk) (Nat.lt_of_lt_of_le hlt h1.size)).trans (h1.block k hlt)
  exact ⟨(h1.mono hn).trans h2.1, key c hB (by omega), key (c + 1) (by omega) (by omega), key (c + 2) (by omega) hc⟩
theorem keepS_set {n₀ c i : Nat} {A A2 : World} (v : Value) (h : keepS n₀ c A A2) (hi : i < c) (hn : n₀ ≤ i) : keepS n₀ c A (A2.setCell ⟨i, 0, none⟩ v) :=
  ⟨h.1.setCell (p := ⟨i, 0, none⟩) hn _, (Below.heap_setCell _ _ _ _ (by simp; omega)).trans h.2.1, (Below.heap_setCell _ _ _ _ (by simp; omega)).trans h.2.2.1, (Below.heap_setCell _ _ _ _ (by simp; omega)).trans h.2.2.2⟩

set_option maxHeartbeats 8000000 in
set_option maxRecDepth 100000 in
theorem numbers1_seq (s : Bytes) (b n : Nat) (w0 w : World) (hG0 : Glob w0) (h0w : Below w0.heap.size w0 w) (hs : s.length ≤ 100000) (hb : w.heap[b]? = some (.cells #[.string ⟨s.toArray⟩] 9 (0, 0))) (_hn : w0.heap.size ≤ b) :
    SeqK Fence.wide n Tryz.prog 161 #[.pointer (some ⟨b, 0, none⟩)] encN (keepN w0.heap.size b (w.heap.size + 2)) (fun A C => Below (w.heap.size + 2) A C) (fun xs => xs = numsF 0 (pieces 58 s)) (fun pre => pre <+: numsF 0 (pieces 58 s)) (pieces 58 s).length w := by
  intro l J Jx W hW hlt hJ hJx hY h0
  have hbl : b < w.heap.size := (Array.getElem?_eq_some_iff.1 hb).1
  have hbW := (hW.block b (by omega)).trans hb
  have cb : W.cell? ⟨b, 0, none⟩ = some (.string ⟨s.toArray⟩) := by rw [Lib.cell_of_heap hbW]; rfl
  have hs0 := h0w.size
  have hbW' : b < W.heap.size := by omega
  obtain ⟨n', h1⟩ : ∃ n' : Nat, Hid (1 ≤ n') := ⟨9, Lib.hid (by omega)⟩
  refine callsIn_wide.2 ((callsIn_wide (n := n')).1 ?_)
  refine callsIn_of_wp_marks Tryz.func161 rfl trivial ?_ rfl
  simp only [Tryz.ntmps161, List.size_toArray, List.length_cons, List.length_nil, Nat.reduceAdd, Nat.reduceSub, Array.replicate_succ, Array.replicate_zero, List.push_toArray, List.append_toArray, List.nil_append, List.cons_append]
  gi_wp2_with fail
  obtain ⟨w2, hw2⟩ : ∃ w2, w2 = (W.alloc (.cells #[.func (.yield l) #[] #[]] 179)).alloc (.cells #[.int .i64 0] 3) := ⟨_, rfl⟩
  have hz2 : W.heap.size + 2 ≤ w2.heap.size := by rw [hw2]; simp
  have y2 : Boxed w2 W.heap.size 179 (.func (.yield l) #[] #[]) := by rw [hw2]; exact (Boxed.new W _ _).alloc _
  have i2 : Boxed w2 (W.heap.size + 1) 3 (.int .i64 0) := by rw [hw2]; have := Boxed.new (W.alloc (.cells #[.func (.yield l) #[] #[]] 179)) 3 (.int .i64 0); rwa [World.size_alloc] at this
  have hBW : Below W.heap.size W w2 := by rw [hw2]; exact ((Below.refl _ W).alloc (Nat.le_refl _) _).alloc (by simp) _
  rw [← hw2]
  clear hw2
  refine wide_call (SplitSeq_any s 58 w2) ?_
  rintro e w3 ⟨rfl, hw3⟩
  have hB23 : Below w2.heap.size w2 w3 := by rw [← hw3]; exact splitW_below _ _ _
  have y3 : Boxed w3 W.heap.size 179 (.func (.yield l) #[] #[]) := (hB23.block _ (by omega)).trans y2
  have i3 : Boxed w3 (W.heap.size + 1) 3 (.int .i64 0) := (hB23.block _ (by omega)).trans i2
  have hz3 : w2.heap.size + 3 ≤ w3.heap.size := by rw [← hw3, splitW_size]; exact Nat.le_refl _
  obtain ⟨s0, s1, s2⟩ : w3.heap[w2.heap.size]? = _ ∧ w3.heap[w2.heap.size + 1]? = _ ∧ w3.heap[w2.heap.size + 2]? = _ := by rw [← hw3]; exact splitW_at w2 s 58
  have hBW3 : Below W.heap.size W w3 := hBW.trans (hB23.mono hBW.size)
  have hj3 : J [] w3 := hJ _ _ _ h0 (hBW3.mono hlt)
  have h0W : Below w0.heap.size w0 W := h0w.trans (hW.mono hs0)
  have h03 : Below w0.heap.size w0 w3 := h0W.trans (hBW3.mono h0W.size)
  clear hw3 y2 i2 hBW hB23
  have hseq := split1_seq 58 s w2.heap.size w0.heap.size (n' - 1) w3 hs s0 s1 s2 (by omega)
  unfold splitV
  gi_wp2_with fail
  refine wpIn_range rfl h1.out (gf := 125) (lb := #[.pointer (some ⟨w2.heap.size + 1, 0, none⟩), .pointer (some ⟨w2.heap.size, 0, none⟩), .pointer (some ⟨w2.heap.size + 2, 0, none⟩)]) rfl trivial (enters_of Tryz.func125 (by kernel_rfl) rfl) hseq
    (fun h k => ⟨h.1.trans k.1, k.2.1.trans h.2.1, k.2.2.1.trans h.2.2.1, k.2.2.2.trans h.2.2.2⟩) (fun W l o o' hl hlo ho hw => ⟨belowK_b (w := w3) (by omega) W l o o' hl hlo ho hw, World.putObj_heap_other (by omega), World.putObj_heap_other (by omega), World.putObj_heap_other (by omega)⟩)
    (fun A C hg => KeepsFrom.of_grownBy hg (fun j e => by cases e; omega)) (fun _ => rfl)
    (fun pre A => ((J (numsF 0 pre) A ∧ w.heap.size + 2 ≤ A.heap.size) ∧ (Boxed A W.heap.size 179 (.func (.yield l) #[] #[]) ∧ Boxed A (W.heap.size + 1) 3 (.int .i64 pre.length))) ∧ (Below w0.heap.size w0 A ∧ w3.heap.size ≤ A.heap.size))
    (fun c pre A => c = .ret ∧ (Jx (numsF 0 pre) A ∧ w.heap.size + 2 ≤ A.heap.size))
    ?hIv ?hIxv ?hI ?hIx ?h0
    (fun x a' _ => a' = { tmps := #[.func (.yield l) #[] #[], .pointer (some ⟨b, 0, none⟩), .pointer (some ⟨W.heap.size, 0, none⟩), .pointer (some ⟨W.heap.size + 1, 0, none⟩), .string ⟨x.toArray⟩, undef, undef, undef, .string ⟨s.toArray⟩, splitV w2.heap.size, .string ⟨x.toArray⟩, undef, undef, undef, undef, undef, undef, undef, undef, undef, undef, undef, undef, undef, undef, undef, undef, undef, undef, undef, undef, undef, undef, undef, undef, undef, undef, undef, undef, undef, undef, undef, undef, undef, undef, undef, undef, undef], defers := [] })
    (fun _ _ _ _ _ _ h _ _ => h) ?assign ?body ?done ?stop
  case hIv =>
    rintro pre A C ⟨⟨⟨hj, hz⟩, hy, hi⟩, hB, hz3'⟩ hg
    exact ⟨⟨⟨hJ _ _ _ hj (below_only hg (by omega) hz), Nat.le_trans hz hg.size⟩, box_only hy hg (by omega), box_only hi hg (by omega)⟩, hB.trans (below_only hg (by omega) hB.size), Nat.le_trans hz3' hg.size⟩
  case hIxv =>
    rintro c pre A C ⟨hc, hj, hz⟩ hg
    exact ⟨hc, hJx _ _ _ hj (below_only hg (by omega) hz), Nat.le_trans hz hg.size⟩
  case hI =>
    exact OwnFrom.and (OwnFrom.and (ownFrom_J (numsF 0) hJ (by omega)) (OwnFrom.and (Own.from (boxed_own _ _ (fun _ => .func (.yield l) #[] #[])) _) (Own.from (boxed_own _ _ (fun pre : List Bytes => .int .i64 pre.length)) _))) (OwnFrom.and (ownFrom_below (Nat.le_refl _) (by omega)) (fun _ _ _ _ h hg _ => Nat.le_trans h hg.size))
  case hIx =>
    exact fun c => OwnFrom.and (ownFrom_pure _ (fun _ => c = .ret)) (ownFrom_J (numsF 0) hJx (by omega))
  case h0 => exact ⟨⟨⟨hj3, by omega⟩, y3, i3⟩, h03, Nat.le_refl _⟩
  case assign =>
    intro l2 pre x A K hi hK
    dsimp only [encB]
    gi_wp2
    exact hK _ _ (KeepsFrom.refl _ _) ⟨Below.refl _ _, rfl, rfl, rfl⟩ hi rfl
  case body =>
    rintro l2 pre x a' A ⟨⟨⟨hj, hz⟩, hy, hi⟩, hB, hz3'⟩ rfl hlt2 hsp
    have cy := hy.cell
    have ci := hi.cell
    have fi := hi.frozen
    have hxl : x.length ≤ 100000 := Nat.le_trans (pieces_size 58 s x (hsp.subset (by simp))) hs
    have hpl : pre.length < 100001 := by have := pieces_length 58 s; omega
    have hGA : Glob A := hG0.below' hB
    have F1 : Hid (∀ A1, Below A.heap.size A A1 → J (numsF 0 pre) A1 ∧ Boxed A1 (W.heap.size + 1) 3 (.int .i64 pre.length) ∧ A1.cell? ⟨W.heap.size, 0, none⟩ = some (.func (.yield l) #[] #[]) ∧ A1.cell? ⟨W.heap.size + 1, 0, none⟩ = some (.int .i64 pre.length)) := Lib.hid (by
      intro A1 hb1
      have hy1 : Boxed A1 W.heap.size 179 (.func (.yield l) #[] #[]) := (hb1.block _ hy.lt).trans hy
      have hi1 : Boxed A1 (W.heap.size + 1) 3 (.int .i64 pre.length) := (hb1.block _ hi.lt).trans hi
      exact ⟨hJ _ _ _ hj (hb1.mono hz), hi1, hy1.cell, hi1.cell⟩)
    have F2 : Hid (∀ A1 A2, Below A.heap.size A A1 → keepN w0.heap.size b (w.heap.size + 2) A1 A2 → A2.cell? ⟨W.heap.size + 1, 0, none⟩ = some (.int .i64 pre.length) ∧ A2.frozen? ⟨W.heap.size + 1, 0, none⟩ = false) := Lib.hid (by
      intro A1 A2 hb1 hk
      have hi1 : Boxed A1 (W.heap.size + 1) 3 (.int .i64 pre.length) := (hb1.block _ hi.lt).trans hi
      have hi2 : Boxed A2 (W.heap.size + 1) 3 (.int .i64 pre.length) := (hk.2 _ (.inr (by omega)) hi1.lt).trans hi1
      exact ⟨hi2.cell, hi2.frozen⟩)
    have FIN : Hid (∀ A1 A2, Below A.heap.size A A1 → J (numsF 0 pre ++ [(pre.length, numP pre.length x)]) A2 → keepN w0.heap.size b (w.heap.size + 2) A1 A2 → roundPost w3.heap.size (keepS w0.heap.size w2.heap.size) (fun pre A => ((J (numsF 0 pre) A ∧ w.heap.size + 2 ≤ A.heap.size) ∧ (Boxed A W.heap.size 179 (.func (.yield l) #[] #[]) ∧ Boxed A (W.heap.size + 1) 3 (.int .i64 pre.length))) ∧ (Below w0.heap.size w0 A ∧ w3.heap.size ≤ A.heap.size)) (fun c pre A => c = .ret ∧ (Jx (numsF 0 pre) A ∧ w.heap.size + 2 ≤ A.heap.size)) (pre ++ [x]) A .normal { tmps := #[], defers := [] } (A2.setCell ⟨W.heap.size + 1, 0, none⟩ (.int .i64 ((pre.length : Int) + 1)))) := Lib.hid (by
      intro A1 A2 hb1 hJ' hk
      have hk2 := hk.1.size
      have hy1 : Boxed A1 W.heap.size 179 (.func (.yield l) #[] #[]) := (hb1.block _ hy.lt).trans hy
      have hi1 : Boxed A1 (W.heap.size + 1) 3 (.int .i64 pre.length) := (hb1.block _ hi.lt).trans hi
      have hi2 : Boxed A2 (W.heap.size + 1) 3 (.int .i64 pre.length) := (hk.2 _ (.inr (by omega)) hi1.lt).trans hi1
      have hy2 : Boxed A2 W.heap.size 179 (.func (.yield l) #[] #[]) := (hk.2 _ (.inr (by omega)) hy1.lt).trans hy1
      refine ⟨(keepN_from hb1 hk (by omega)).trans ((KeepsOthers.setCell A2 ⟨W.heap.size + 1, 0, none⟩ _).from _), keepS_set _ (keepN_S hb1 hk (by omega) (by omega) (by omega)) (by omega) (by omega), ⟨⟨⟨?_, ?_⟩, hy2.kept (grownBy_setCell' _ _ _) (by simp), ?_⟩, ?_, ?_⟩⟩
      · rw [numsF_snoc, Nat.zero_add]
        exact hJ _ _ _ hJ' ((Below.refl _ A2).setCell (p := ⟨W.heap.size + 1, 0, none⟩) (by simp; omega) _)
      · have := hb1.size; simp [World.setCell]; omega
      · have := hi2.set (.int .i64 ((pre.length : Int) + 1))
        simpa using this
      · exact (hB.trans ((hb1.mono hB.size).trans hk.1)).setCell (p := ⟨W.heap.size + 1, 0, none⟩) (by simp; omega) _
      · have := hb1.size; simp [World.setCell]; omega)
    have FIX : Hid (∀ A1 A2, Below A.heap.size A A1 → Jx (numsF 0 pre ++ [(pre.length, numP pre.length x)]) A2 → keepN w0.heap.size b (w.heap.size + 2) A1 A2 → KeepsFrom w3.heap.size A A2 ∧ (Jx (numsF 0 (pre ++ [x])) A2 ∧ w.heap.size + 2 ≤ A2.heap.size)) := Lib.hid (by
      intro A1 A2 hb1 hJx' hk
      refine ⟨keepN_from hb1 hk (by omega), ?_, ?_⟩
      · rw [numsF_snoc, Nat.zero_add]; exact hJx'
      · have := hb1.size; have := hk.1.size; omega)
    by_cases hbad : x = [] ∨ x.all isDig = false
    · have HN := Lib.hid (digits_none x A hxl hbad)
      have HV0 : Hid (numP pre.length x = -1) := Lib.hid (by unfold numP okNum; rcases hbad with h | h <;> simp [h])
      clear hbad
      gi_wp2_with fail
      refine round_call (HN.out) ?_
      rintro e A1 ⟨rfl, hb1⟩
      obtain ⟨hj1, hi1, cy1, ci1⟩ := F1.out A1 hb1
      have HV : Hid (numP pre.length x = -1) := Lib.hid (HV0.out)
      obtain ⟨fn, tmps, assign, body, hy', hR⟩ := yieldAt_wide (l' := l2) (m' := n' - 1 - 1 - 1) (hY (numsF 0 pre) (pre.length, -1) A1 hj1 (by rw [numsF_length]; exact hlt2) (by have := numsF_prefix hsp; rw [numsF_snoc, Nat.zero_add, HV.out] at this; exact this))
      dsimp only [encN] at hy'
      gi_wp2_with fail
      all_goals try (first | (rename_i _ _ hu _; exact (undef_no hu).elim) | (refine (undef_no (b := ?bb) ?hh).elim; case hh => assumption))
      all_goals
        refine ⟨fun h => absurd h (by decide), hR.mono ?_⟩
        rintro e A2 (⟨rfl, hJ', hk⟩ | ⟨rfl, hJx', hk⟩)
        · rw [← HV.out] at hJ'
          obtain ⟨ci2, fi2⟩ := F2.out A1 A2 hb1 hk
          gi_wp2_with fail
          exact FIN.out A1 A2 hb1 hJ' hk
        · rw [← HV.out] at hJx'
          gi_wp2_with fail
          obtain ⟨hk1, hk2⟩ := FIX.out A1 A2 hb1 hJx' hk
          exact ⟨hk1, rfl, hk2⟩
    · have hne : x ≠ [] := fun h => hbad (.inl h)
      have hem : x.isEmpty = false := by simpa using hne
      have hd : x.all isDig = true := by cases h : x.all isDig; exact absurd (.inr h) hbad; rfl
      have HOK : Hid (numP pre.length x = if (if pre.length = 0 then decide (x.length ≤ 3) else decide (x.length = 2 ∧ decV 0 x < 60)) = true then (decV 0 x : Int) else -1) := Lib.hid (by unfold numP okNum; rw [hem, hd]; rfl)
      by_cases h18 : x.length ≤ 18
      · have hdc := Lib.hid (digits_good x A h18 hne hd)
        generalize decV 0 x = dv at *
        clear hd hne hem hbad
        by_cases hp0 : pre.length = 0
        · have tp : ((pre.length : Int) == 0) = true := by rw [beq_iff_eq]; omega
          have tg : ¬ (0 : Int) < pre.length := by omega
          have HP0 := Lib.hid hp0
          clear hp0
          by_cases h3 : x.length ≤ 3
          · have h3' : (x.length : Int) ≤ 3 := by omega
            have d3 : decide ((x.length : Int) ≤ 3) = true := decide_eq_true h3'
            gi_wp2_with fail
            refine round_call (hdc.out) ?_
            rintro e A1 ⟨rfl, hb1⟩
            obtain ⟨hj1, hi1, cy1, ci1⟩ := F1.out A1 hb1
            have HV : Hid (numP pre.length x = (dv : Int)) := Lib.hid (by rw [HOK.out, if_pos HP0.out, decide_eq_true h3]; rfl)
            obtain ⟨fn, tmps, assign, body, hy', hR⟩ := yieldAt_wide (l' := l2) (m' := n' - 1 - 1 - 1) (hY (numsF 0 pre) (pre.length, (dv : Int)) A1 hj1 (by rw [numsF_length]; exact hlt2) (by have := numsF_prefix hsp; rw [numsF_snoc, Nat.zero_add, HV.out] at this; exact this))
            dsimp only [encN] at hy'
            gi_wp2_with fail
            all_goals try (first | (rename_i _ _ hu _; exact (undef_no hu).elim) | (refine (undef_no (b := ?bb) ?hh).elim; case hh => assumption))
            all_goals
              refine ⟨fun h => absurd h (by decide), hR.mono ?_⟩
              rintro e A2 (⟨rfl, hJ', hk⟩ | ⟨rfl, hJx', hk⟩)
              · rw [← HV.out] at hJ'
                obtain ⟨ci2, fi2⟩ := F2.out A1 A2 hb1 hk
                gi_wp2_with fail
                exact FIN.out A1 A2 hb1 hJ' hk
              · rw [← HV.out] at hJx'
                gi_wp2_with fail
                obtain ⟨hk1, hk2⟩ := FIX.out A1 A2 hb1 hJx' hk
                exact ⟨hk1, rfl, hk2⟩
          · have h3' : ¬ (x.length : Int) ≤ 3 := by omega
            have d3 : decide ((x.length : Int) ≤ 3) = false := decide_eq_false h3'
            gi_wp2_with fail
            refine round_call (hdc.out) ?_
            rintro e A1 ⟨rfl, hb1⟩
            obtain ⟨hj1, hi1, cy1, ci1⟩ := F1.out A1 hb1
            have HV : Hid (numP pre.length x = -1) := Lib.hid (by rw [HOK.out, if_pos HP0.out, decide_eq_false h3]; rfl)
            obtain ⟨fn, tmps, assign, body, hy', hR⟩ := yieldAt_wide (l' := l2) (m' := n' - 1 - 1 - 1) (hY (numsF 0 pre) (pre.length, -1) A1 hj1 (by rw [numsF_length]; exact hlt2) (by have := numsF_prefix hsp; rw [numsF_snoc, Nat.zero_add, HV.out] at this; exact this))
            dsimp only [encN] at hy'
            gi_wp2_with fail
            all_goals try (first | (rename_i _ _ hu _; exact (undef_no hu).elim) | (refine (undef_no (b := ?bb) ?hh).elim; case hh => assumption))
            all_goals
              refine ⟨fun h => absurd h (by decide), hR.mono ?_⟩
              rintro e A2 (⟨rfl, hJ', hk⟩ | ⟨rfl, hJx', hk⟩)
              · rw [← HV.out] at hJ'
                obtain ⟨ci2, fi2⟩ := F2.out A1 A2 hb1 hk
                gi_wp2_with fail
                exact FIN.out A1 A2 hb1 hJ' hk
              · rw [← HV.out] at hJx'
                gi_wp2_with fail
                obtain ⟨hk1, hk2⟩ := FIX.out A1 A2 hb1 hJx' hk
                exact ⟨hk1, rfl, hk2⟩
        · have tp : ((pre.length : Int) == 0) = false := by rw [beq_eq_false_iff_ne]; omega
          have tg : (0 : Int) < pre.length := by omega
          by_cases h2 : x.length = 2
          · have t2 : ((x.length : Int) == 2) = true := by rw [beq_iff_eq]; omega
            have H2 := Lib.hid h2
            clear h2
            by_cases h60 : dv < 60
            · have h60' : (dv : Int) < 60 := by omega
              have d60 : decide ((dv : Int) < 60) = true := decide_eq_true h60'
              gi_wp2_with fail
              refine round_call (hdc.out) ?_
              rintro e A1 ⟨rfl, hb1⟩
              obtain ⟨hj1, hi1, cy1, ci1⟩ := F1.out A1 hb1
              have HV : Hid (numP pre.length x = (dv : Int)) := Lib.hid (by rw [HOK.out, if_neg hp0, decide_eq_true ⟨H2.out, h60⟩]; rfl)
              obtain ⟨fn, tmps, assign, body, hy', hR⟩ := yieldAt_wide (l' := l2) (m' := n' - 1 - 1 - 1) (hY (numsF 0 pre) (pre.length, (dv : Int)) A1 hj1 (by rw [numsF_length]; exact hlt2) (by have := numsF_prefix hsp; rw [numsF_snoc, Nat.zero_add, HV.out] at this; exact this))
              dsimp only [encN] at hy'
              gi_wp2_with fail
              all_goals try (first | (rename_i _ _ hu _; exact (undef_no hu).elim) | (refine (undef_no (b := ?bb) ?hh).elim; case hh => assumption))
              all_goals
                refine ⟨fun h => absurd h (by decide), hR.mono ?_⟩
                rintro e A2 (⟨rfl, hJ', hk⟩ | ⟨rfl, hJx', hk⟩)
                · rw [← HV.out] at hJ'
                  obtain ⟨ci2, fi2⟩ := F2.out A1 A2 hb1 hk
                  gi_wp2_with fail
                  exact FIN.out A1 A2 hb1 hJ' hk
                · rw [← HV.out] at hJx'
                  gi_wp2_with fail
                  obtain ⟨hk1, hk2⟩ := FIX.out A1 A2 hb1 hJx' hk
                  exact ⟨hk1, rfl, hk2⟩
            · have h60' : ¬ (dv : Int) < 60 := by omega
              have d60 : decide ((dv : Int) < 60) = false := decide_eq_false h60'
              gi_wp2_with fail
              refine round_call (hdc.out) ?_
              rintro e A1 ⟨rfl, hb1⟩
              obtain ⟨hj1, hi1, cy1, ci1⟩ := F1.out A1 hb1
              have HV : Hid (numP pre.length x = -1) := Lib.hid (by rw [HOK.out, if_neg hp0, decide_eq_false (fun h => h60 h.2)]; rfl)
              obtain ⟨fn, tmps, assign, body, hy', hR⟩ := yieldAt_wide (l' := l2) (m' := n' - 1 - 1 - 1) (hY (numsF 0 pre) (pre.length, -1) A1 hj1 (by rw [numsF_length]; exact hlt2) (by have := numsF_prefix hsp; rw [numsF_snoc, Nat.zero_add, HV.out] at this; exact this))
              dsimp only [encN] at hy'
              gi_wp2_with fail
              all_goals try (first | (rename_i _ _ hu _; exact (undef_no hu).elim) | (refine (undef_no (b := ?bb) ?hh).elim; case hh => assumption))
              all_goals
                refine ⟨fun h => absurd h (by decide), hR.mono ?_⟩
                rintro e A2 (⟨rfl, hJ', hk⟩ | ⟨rfl, hJx', hk⟩)
                · rw [← HV.out] at hJ'
                  obtain ⟨ci2, fi2⟩ := F2.out A1 A2 hb1 hk
                  gi_wp2_with fail
                  exact FIN.out A1 A2 hb1 hJ' hk
                · rw [← HV.out] at hJx'
                  gi_wp2_with fail
                  obtain ⟨hk1, hk2⟩ := FIX.out A1 A2 hb1 hJx' hk
                  exact ⟨hk1, rfl, hk2⟩
          · have t2 : ((x.length : Int) == 2) = false := by rw [beq_eq_false_iff_ne]; omega
            gi_wp2_with fail
            refine round_call (hdc.out) ?_
            rintro e A1 ⟨rfl, hb1⟩
            obtain ⟨hj1, hi1, cy1, ci1⟩ := F1.out A1 hb1
            have HV : Hid (numP pre.length x = -1) := Lib.hid (by rw [HOK.out, if_neg hp0, decide_eq_false (fun h => h2 h.1)]; rfl)
            obtain ⟨fn, tmps, assign, body, hy', hR⟩ := yieldAt_wide (l' := l2) (m' := n' - 1 - 1 - 1) (hY (numsF 0 pre) (pre.length, -1) A1 hj1 (by rw [numsF_length]; exact hlt2) (by have := numsF_prefix hsp; rw [numsF_snoc, Nat.zero_add, HV.out] at this; exact this))
            dsimp only [encN] at hy'
            gi_wp2_with fail
            all_goals try (first | (rename_i _ _ hu _; exact (undef_no hu).elim) | (refine (undef_no (b := ?bb) ?hh).elim; case hh => assumption))
            all_goals
              refine ⟨fun h => absurd h (by decide), hR.mono ?_⟩
              rintro e A2 (⟨rfl, hJ', hk⟩ | ⟨rfl, hJx', hk⟩)
              · rw [← HV.out] at hJ'
                obtain ⟨ci2, fi2⟩ := F2.out A1 A2 hb1 hk
                gi_wp2_with fail
                exact FIN.out A1 A2 hb1 hJ' hk
              · rw [← HV.out] at hJx'
                gi_wp2_with fail
                obtain ⟨hk1, hk2⟩ := FIX.out A1 A2 hb1 hJx' hk
                exact ⟨hk1, rfl, hk2⟩
      · have hdc := Lib.hid (digits_long x A hGA hxl hne hd)
        generalize decV 0 x = dv at *
        clear hd hne hem hbad
        by_cases hp0 : pre.length = 0
        · have tp : ((pre.length : Int) == 0) = true := by rw [beq_iff_eq]; omega
          have tg : ¬ (0 : Int) < pre.length := by omega
          have HP0 := Lib.hid hp0
          clear hp0
          have h3' : ¬ (x.length : Int) ≤ 3 := by omega
          have d3 : decide ((x.length : Int) ≤ 3) = false := decide_eq_false h3'
          gi_wp2_with fail
          refine round_call (hdc.out) ?_
          rintro e A1 ⟨⟨m, bb, rfl⟩, hb1⟩
          obtain ⟨hj1, hi1, cy1, ci1⟩ := F1.out A1 hb1
          have HV : Hid (numP pre.length x = -1) := Lib.hid (by rw [HOK.out, if_pos HP0.out, decide_eq_false (by omega)]; rfl)
          obtain ⟨fn, tmps, assign, body, hy', hR⟩ := yieldAt_wide (l' := l2) (m' := n' - 1 - 1 - 1) (hY (numsF 0 pre) (pre.length, -1) A1 hj1 (by rw [numsF_length]; exact hlt2) (by have := numsF_prefix hsp; rw [numsF_snoc, Nat.zero_add, HV.out] at this; exact this))
          dsimp only [encN] at hy'
          cases bb
          · gi_wp2_with fail
            all_goals try (first | (rename_i _ _ hu _; exact (undef_no hu).elim) | (refine (undef_no (b := ?bb) ?hh).elim; case hh => assumption))
            all_goals
              refine ⟨fun h => absurd h (by decide), hR.mono ?_⟩
              rintro e A2 (⟨rfl, hJ', hk⟩ | ⟨rfl, hJx', hk⟩)
              · rw [← HV.out] at hJ'
                obtain ⟨ci2, fi2⟩ := F2.out A1 A2 hb1 hk
                gi_wp2_with fail
                exact FIN.out A1 A2 hb1 hJ' hk
              · rw [← HV.out] at hJx'
                gi_wp2_with fail
                obtain ⟨hk1, hk2⟩ := FIX.out A1 A2 hb1 hJx' hk
                exact ⟨hk1, rfl, hk2⟩
          · gi_wp2_with fail
            all_goals try (first | (rename_i _ _ hu _; exact (undef_no hu).elim) | (refine (undef_no (b := ?bb) ?hh).elim; case hh => assumption))
            all_goals
              refine ⟨fun h => absurd h (by decide), hR.mono ?_⟩
              rintro e A2 (⟨rfl, hJ', hk⟩ | ⟨rfl, hJx', hk⟩)
              · rw [← HV.out] at hJ'
                obtain ⟨ci2, fi2⟩ := F2.out A1 A2 hb1 hk
                gi_wp2_with fail
                exact FIN.out A1 A2 hb1 hJ' hk
              · rw [← HV.out] at hJx'
                gi_wp2_with fail
                obtain ⟨hk1, hk2⟩ := FIX.out A1 A2 hb1 hJx' hk
                exact ⟨hk1, rfl, hk2⟩
        · have tp : ((pre.length : Int) == 0) = false := by rw [beq_eq_false_iff_ne]; omega
          have tg : (0 : Int) < pre.length := by omega
          have t2 : ((x.length : Int) == 2) = false := by rw [beq_eq_false_iff_ne]; omega
          gi_wp2_with fail
          refine round_call (hdc.out) ?_
          rintro e A1 ⟨⟨m, bb, rfl⟩, hb1⟩
          obtain ⟨hj1, hi1, cy1, ci1⟩ := F1.out A1 hb1
          have HV : Hid (numP pre.length x = -1) := Lib.hid (by rw [HOK.out, if_neg hp0, decide_eq_false (fun h => absurd h.1 (by omega))]; rfl)
          obtain ⟨fn, tmps, assign, body, hy', hR⟩ := yieldAt_wide (l' := l2) (m' := n' - 1 - 1 - 1) (hY (numsF 0 pre) (pre.length, -1) A1 hj1 (by rw [numsF_length]; exact hlt2) (by have := numsF_prefix hsp; rw [numsF_snoc, Nat.zero_add, HV.out] at this; exact this))
          dsimp only [encN] at hy'
          cases bb
          · gi_wp2_with fail
            all_goals try (first | (rename_i _ _ hu _; exact (undef_no hu).elim) | (refine (undef_no (b := ?bb) ?hh).elim; case hh => assumption))
            all_goals
              refine ⟨fun h => absurd h (by decide), hR.mono ?_⟩
              rintro e A2 (⟨rfl, hJ', hk⟩ | ⟨rfl, hJx', hk⟩)
              · rw [← HV.out] at hJ'
                obtain ⟨ci2, fi2⟩ := F2.out A1 A2 hb1 hk
                gi_wp2_with fail
                exact FIN.out A1 A2 hb1 hJ' hk
              · rw [← HV.out] at hJx'
                gi_wp2_with fail
                obtain ⟨hk1, hk2⟩ := FIX.out A1 A2 hb1 hJx' hk
                exact ⟨hk1, rfl, hk2⟩
          · gi_wp2_with fail
            all_goals try (first | (rename_i _ _ hu _; exact (undef_no hu).elim) | (refine (undef_no (b := ?bb) ?hh).elim; case hh => assumption))
            all_goals
              refine ⟨fun h => absurd h (by decide), hR.mono ?_⟩
              rintro e A2 (⟨rfl, hJ', hk⟩ | ⟨rfl, hJx', hk⟩)
              · rw [← HV.out] at hJ'
                obtain ⟨ci2, fi2⟩ := F2.out A1 A2 hb1 hk
                gi_wp2_with fail
                exact FIN.out A1 A2 hb1 hJ' hk
              · rw [← HV.out] at hJx'
                gi_wp2_with fail
                obtain ⟨hk1, hk2⟩ := FIX.out A1 A2 hb1 hJx' hk
                exact ⟨hk1, rfl, hk2⟩
  case done =>
    rintro D xs A hD rfl ⟨⟨⟨hj, hz⟩, hy, hi⟩, hB, hz3'⟩ hK
    gi_wp2_with fail
    refine ⟨by simp, .inl ⟨_, _, rfl, run_takeDeferred hK, ?_⟩⟩
    exact ⟨_, results_none rfl _ _ _, ⟨_, rfl⟩, .inl ⟨_, rfl, hJ _ _ _ hj (belowK_b (w := w3) (by omega) _ D _ _ hD hK rfl rfl)⟩⟩
  case stop =>
    rintro D c pre A hD hp ⟨rfl, hj, hz⟩ hK
    gi_wp2_with fail
    refine ⟨by simp, .inl ⟨_, _, rfl, run_takeDeferred hK, ?_⟩⟩
    exact ⟨_, results_none rfl _ _ _, ⟨_, rfl⟩, .inr ⟨_, numsF_prefix hp, hJx _ _ _ hj (belowK_b (w := w3) (by omega) _ D _ _ hD hK rfl rfl)⟩⟩

end Go.Proofs.YtgofleplmnibbaaGreatDoor
