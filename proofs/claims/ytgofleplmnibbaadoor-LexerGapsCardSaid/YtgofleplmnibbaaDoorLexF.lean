/-
  The lexer's Words: a line's words, or what is wrong with it.
-/
import Derived.Test.YtgofleplmnibbaaDoorLexB
import Derived.Test.YtgofleplmnibbaaDoorLexE
import Derived.Test.YtgofleplmnibbaaDoorStrs
import Derived.Test.YtgofleplmnibbaaDoorLexQ
namespace Go.Proofs.YtgofleplmnibbaaDoor
open Go.RowKit Go.Shelf Lex
attribute [local go_sem] Oper.semAt_some

def WordsPost (s : Bytes) (w : World) (e : Ending) (w' : World) : Prop :=
  ∃ v, e = .returned (.tuple #[v, .int .i64 (wordsF s).2]) ∧ Strs w.heap.size w' v (wordsF s).1 ∧ Below w.heap.size w w'


set_option maxHeartbeats 2000000 in
set_option maxRecDepth 100000 in
theorem words_bad (s : Bytes) (w : World) (hs : s.length ≤ 100000) (hbad : s.any (inSet [0, 10, 13]) = true) :
    Calls Tryd.prog 9 #[.string ⟨s.toArray⟩] w (WordsPost s w) := by
  have hC : ∀ W, Calls Tryd.prog 14 #[.string ⟨s.toArray⟩, .string ⟨#[0, 10, 13]⟩] W fun e w' => e = .returned (.bool true) ∧ Below W.heap.size W w' := fun W => hbad ▸ containsAny_any s W hs
  have HC := Lib.hid hC
  have HB := Lib.hid hbad
  clear hC hbad
  go_enter Tryd.func9, Tryd.ntmps9
  go_wp2_with fail
  refine (HC.out _).mono ?_
  rintro e w1 ⟨rfl, hb1⟩
  have b2 : Boxed w1 w.heap.size 22 (.slice none 0 0) := (hb1.block _ (by simp; omega)).trans ((Boxed.new w _ _).alloc _)
  have b3 : Boxed w1 (w.heap.size + 1) 24 (.int .i64 0) := (hb1.block _ (by simp)).trans (by have := Boxed.new (w.alloc (.cells #[.slice none 0 0] 22)) 24 (.int .i64 0); rwa [World.size_alloc] at this)
  have c2 := b2.cell
  have c3 := b3.cell
  have f2 := b2.frozen
  have f3 := b3.frozen
  go_wp2_with fail
  have b2' := (b2.set (.slice none 0 0)).kept (grownBy_setCell' _ (w.heap.size + 1) (.int .i64 12)) (by simp)
  have b3' := (b3.kept (grownBy_setCell' _ w.heap.size (.slice none 0 0)) (by simp)).set (.int .i64 12)
  have hB : Below w.heap.size w ((w1.setCell ⟨w.heap.size, 0, none⟩ (.slice none 0 0)).setCell ⟨w.heap.size + 1, 0, none⟩ (.int .i64 12)) :=
    ((((((Below.refl _ w).alloc (Nat.le_refl _) _).alloc (by simp) _).trans (hb1.mono (by simp; omega))).setCell (p := ⟨w.heap.size, 0, none⟩) (Nat.le_refl _) _).setCell (p := ⟨w.heap.size + 1, 0, none⟩) (by simp) _)
  generalize ((w1.setCell ⟨w.heap.size, 0, none⟩ (.slice none 0 0)).setCell ⟨w.heap.size + 1, 0, none⟩ (.int .i64 12)) = W at *
  have c2' := b2'.cell
  have c3' := b3'.cell
  refine bodyPost_ret (v := .tuple #[.slice none 0 0, .int .i64 12]) (by simp [results, Tryd.results9, go_sem, c2', c3']) rfl ?_
  refine ⟨.slice none 0 0, by simp only [wordsF, HB.out, ↓reduceIte], ?_, hB⟩
  simp only [wordsF, HB.out, ↓reduceIte]
  exact Strs.nil _ _

/-! ### What the loop collects -/
def encW (x : Bytes × Bool) : Value := .string ⟨x.1.toArray⟩
theorem pairs_all {s : Bytes} (h : ∀ x ∈ pairs s, x.2 = true) : (wordsL s).2 = true ∧ (pairs s).map (·.1) = (wordsL s).1 := by
  unfold pairs at h ⊢
  cases hb : (wordsL s).2
  · rw [hb] at h
    exact absurd (h ([], false) (by simp)) (by simp)
  · simp [Function.comp_def]
theorem pairs_any {s : Bytes} {x : Bytes × Bool} (h : x ∈ pairs s) (hx : x.2 = false) : (wordsL s).2 = false := by
  unfold pairs at h
  cases hb : (wordsL s).2
  · rfl
  · rw [hb] at h
    simp at h
    obtain ⟨a, _, rfl⟩ := h
    simp at hx
theorem pairs_length (s : Bytes) : (pairs s).length ≤ s.length + 1 := by
  have key : ∀ n line, (wordsN n line).1.length ≤ line.length := by
    intro n
    induction n with
    | zero => intro line; simp [wordsN]
    | succ n ih =>
      intro line
      unfold wordsN
      cases hs : skipGaps line with
      | nil => simp
      | cons c t =>
        simp only
        by_cases hc : (c == 35) = true
        · simp [hc]
        · simp only [hc, Bool.false_eq_true, ↓reduceIte]
          cases hw : scan (c :: t) false [] with
          | none => simp
          | some p =>
            obtain ⟨w, r⟩ := p
            have h1 := scan_less (by rw [skipGaps_head hs]; simpa using hc) hw
            have h2 := skipGaps_length line
            rw [hs] at h2
            have := ih r
            simp at h2 ⊢
            omega
  have := key (s.length + 1) s
  unfold pairs wordsL
  split <;> simp <;> omega

/-- A loop's steps that turn block b alone leave the caller's other blocks. -/
theorem box_only {A C : World} {B b : Nat} {t : TypeId} {v : Value} (h : Boxed A B t v) (hg : A.grownBy C (some b)) (hne : B ≠ b) : Boxed C B t v := h.kept hg (by simpa using hne)

/-- How Words ends behind its loop: the results out of their boxes. -/
theorem words_end {s : Bytes} {w W : World} {n D : Nat} {a : Act} {A : Option Addr} {len cap : Nat} {e : Int} (hK : W.heap[D]? = some (.deferred (some []))) (hd : a.defers = [{ target := .collected D, args := #[] }])
    (h2 : Boxed W w.heap.size 22 (.slice A len cap)) (h3 : Boxed W (w.heap.size + 1) 24 (.int .i64 e)) (t2 : a.tmps[2]? = some (.pointer (some ⟨w.heap.size, 0, none⟩))) (t3 : a.tmps[3]? = some (.pointer (some ⟨w.heap.size + 1, 0, none⟩)))
    (hp : WordsPost s w (.returned (.tuple #[.slice A len cap, .int .i64 e])) (W.putObj D (.deferred none))) :
    bodyPostM Fence.wide n Tryd.prog Tryd.f9 (WordsPost s w) .ret a W := by
  have c2 := (box_put (o' := .deferred none) h2 hK rfl).cell
  have c3 := (box_put (o' := .deferred none) h3 hK rfl).cell
  obtain ⟨tmps, defers⟩ := a
  simp only at hd t2 t3
  subst hd
  refine ⟨by simp, .inl ⟨_, _, rfl, run_takeDeferred hK, ?_⟩⟩
  refine ⟨_, ?_, hp⟩
  simp [results, Tryd.results9, go_sem, c2, c3, t2, t3]

set_option maxHeartbeats 4000000 in
set_option maxRecDepth 100000 in
theorem words_main (s : Bytes) (w : World) (hG : Glob w) (hs : s.length ≤ 100000) (hbad : s.any (inSet [0, 10, 13]) = false) :
    Calls Tryd.prog 9 #[.string ⟨s.toArray⟩] w (WordsPost s w) := by
  have hC : ∀ W, Calls Tryd.prog 14 #[.string ⟨s.toArray⟩, .string ⟨#[0, 10, 13]⟩] W fun e w' => e = .returned (.bool false) ∧ Below W.heap.size W w' := fun W => hbad ▸ containsAny_any s W hs
  have HC := Lib.hid hC
  have HB := Lib.hid hbad
  clear hC hbad
  obtain ⟨n, h1⟩ : ∃ n : Nat, Hid (1 ≤ n) := ⟨9, Lib.hid (by omega)⟩
  refine (callsIn_wide (n := n)).1 ?_
  refine callsIn_of_wp_marks Tryd.func9 rfl trivial ?_ rfl
  simp only [Tryd.ntmps9, List.size_toArray, List.length_cons, List.length_nil, Nat.reduceAdd, Nat.reduceSub, Array.replicate_succ, Array.replicate_zero, List.push_toArray, List.append_toArray, List.nil_append, List.cons_append]
  gi_wp2_with fail
  refine wide_call (HC.out _) ?_
  rintro e w1 ⟨rfl, hb1⟩
  have hw1 : w.heap.size + 2 ≤ w1.heap.size := by have := hb1.size; simpa using this
  have b2 : Boxed w1 w.heap.size 22 (.slice none 0 0) := (hb1.block _ (by simp; omega)).trans ((Boxed.new w _ _).alloc _)
  have b3 : Boxed w1 (w.heap.size + 1) 24 (.int .i64 0) := (hb1.block _ (by simp)).trans (by have := Boxed.new (w.alloc (.cells #[.slice none 0 0] 22)) 24 (.int .i64 0); rwa [World.size_alloc] at this)
  have hB1 : Below w.heap.size w w1 := (((Below.refl _ w).alloc (Nat.le_refl _) _).alloc (by simp) _).trans (hb1.mono (by simp; omega))
  have hG1 := hG.below' hB1
  clear hb1
  gi_wp2_with fail
  refine wide_call (words_any s _) ?_
  rintro e w2 ⟨rfl, hw2⟩
  have bo : Boxed w2 w1.heap.size 22 (.slice none 0 0) := by rw [← hw2]; exact (Boxed.new w1 _ _).alloc _
  have bl : Boxed w2 (w1.heap.size + 1) 9 (.string ⟨s.toArray⟩) := by rw [← hw2]; have := Boxed.new (w1.alloc (.cells #[.slice none 0 0] 22)) 9 (.string ⟨s.toArray⟩); rwa [World.size_alloc] at this
  have b2' : Boxed w2 w.heap.size 22 (.slice none 0 0) := by rw [← hw2]; exact (b2.alloc _).alloc _
  have b3' : Boxed w2 (w.heap.size + 1) 24 (.int .i64 0) := by rw [← hw2]; exact (b3.alloc _).alloc _
  have hB2 : Below w.heap.size w w2 := by rw [← hw2]; exact (hB1.alloc (by omega) _).alloc (by simp; omega) _
  have hG2 := hG.below' hB2
  have hz2 : w2.heap.size = w1.heap.size + 2 := by rw [← hw2]; simp
  clear hw2 b2 b3 hB1 hG1
  have hseq := words1_seq s (w1.heap.size + 1) w.heap.size (n - 1) w2 hs bl (by omega) hG.2 hG2
  gi_wp2_with fail
  have hplen := pairs_length s
  obtain ⟨i0, hi, hz0, hz1, hz2⟩ := info_parts infoStr
  refine wpIn_range rfl h1.out (gf := 20) (lb := #[.pointer (some ⟨w1.heap.size + 1, 0, none⟩)]) rfl trivial (enters_of Tryd.func20 (by kernel_rfl) rfl) hseq
    (fun h k => ⟨h.1.trans k.1, k.2.trans h.2⟩) (fun W l o o' hl hlo ho hw => ⟨belowK_b (w := w2) (by omega) W l o o' hl hlo ho hw, World.putObj_heap_other (by omega)⟩)
    (fun A C hg => KeepsFrom.of_grownBy hg (fun j e => by cases e; omega)) (fun _ => rfl)
    (fun pre W => ((∃ v, Boxed W w1.heap.size 22 v ∧ W.ownsRow (w1.heap.size + 1 + 1) 9 1 v pre.length (pre.map encW)) ∧ (Boxed W w.heap.size 22 (.slice none 0 0) ∧ Boxed W (w.heap.size + 1) 24 (.int .i64 0))) ∧ ((∀ x ∈ pre, x.2 = true) ∧ (Below w.heap.size w W ∧ w2.heap.size ≤ W.heap.size)))
    (fun c pre W => c = .ret ∧ (∃ x ∈ pre, x.2 = false) ∧ (Boxed W w.heap.size 22 (.slice none 0 0) ∧ Boxed W (w.heap.size + 1) 24 (.int .i64 12)) ∧ Below w.heap.size w W)
    ?hIv ?hIxv ?hI ?hIx ?h0
    (fun x a' _ => a' = { tmps := #[.string ⟨s.toArray⟩, undef, .pointer (some ⟨w.heap.size, 0, none⟩), .pointer (some ⟨w.heap.size + 1, 0, none⟩), .pointer (some ⟨w1.heap.size, 0, none⟩), .string ⟨x.1.toArray⟩, .bool x.2, .string ⟨s.toArray⟩, .bool false, .string ⟨s.toArray⟩, .func (.func 20) #[] #[.pointer (some ⟨w1.heap.size + 1, 0, none⟩)], .string ⟨x.1.toArray⟩, .bool x.2, undef, undef, undef, undef, undef, undef, undef, undef, undef, undef], defers := [] })
    (fun _ _ _ _ _ _ h _ _ => h) ?assign ?body ?done ?stop
  case hIv =>
    rintro pre A C ⟨⟨⟨v, hv, hrow⟩, h2, h3⟩, hall, hB, hz⟩ hg
    exact ⟨⟨⟨v, box_only hv hg (by omega), hrow.kept hg (ownsRow_not hrow)⟩, box_only h2 hg (by omega), box_only h3 hg (by omega)⟩, hall, hB.trans (below_only hg (by omega) hB.size), Nat.le_trans hz hg.size⟩
  case hIxv =>
    rintro c pre A C ⟨hc, hx, ⟨h2, h3⟩, hB⟩ hg
    exact ⟨hc, hx, ⟨box_only h2 hg (by omega), box_only h3 hg (by omega)⟩, hB.trans (below_only hg (by omega) hB.size)⟩
  case hI =>
    exact OwnFrom.and (OwnFrom.and (Own.from (fun s A C row ⟨v, hv, hr⟩ hg hrow => by
      obtain ⟨v, h1, h2, _⟩ := holdsRow_own (w1.heap.size + 1 + 1) w1.heap.size 22 9 1 (fun pre => pre.length) (fun pre => pre.map encW) (fun _ _ => True) s A C row ⟨v, hv, hr, trivial⟩ hg hrow
      exact ⟨v, h1, h2⟩) _) (OwnFrom.and (Own.from (boxed_own _ _ (fun _ => .slice none 0 0)) _) (Own.from (boxed_own _ _ (fun _ => .int .i64 0)) _))) (OwnFrom.and (ownFrom_pure _ (fun pre : List (Bytes × Bool) => ∀ x ∈ pre, x.2 = true)) (OwnFrom.and (ownFrom_below (Nat.le_refl _) (by omega)) (fun _ _ _ _ h hg _ => Nat.le_trans h hg.size)))
  case hIx =>
    exact fun c => OwnFrom.and (ownFrom_pure _ (fun _ => c = .ret)) (OwnFrom.and (ownFrom_pure _ (fun pre : List (Bytes × Bool) => ∃ x ∈ pre, x.2 = false)) (OwnFrom.and (OwnFrom.and (Own.from (boxed_own _ _ (fun _ => .slice none 0 0)) _) (Own.from (boxed_own _ _ (fun _ => .int .i64 12)) _)) (ownFrom_below (Nat.le_refl _) (by omega))))
  case h0 => exact ⟨⟨⟨_, bo, World.ownsRow_nil _ _ _ _⟩, b2', b3'⟩, by simp, hB2, Nat.le_refl _⟩
  case assign =>
    intro l pre x W K hi hK
    dsimp only [encP]
    gi_wp2
    exact hK _ _ (KeepsFrom.refl _ _) ⟨Below.refl _ _, rfl⟩ hi rfl
  case body =>
    rintro l pre x a' W ⟨⟨⟨v, hv, hrow⟩, h2, h3⟩, hall, hB, hz⟩ rfl hlt
    cases hx : x.2 with
    | false =>
      have HX := Lib.hid hx
      have c2 := h2.cell
      have c3 := h3.cell
      have f2 := h2.frozen
      have f3 := h3.frozen
      gi_wp2
      have k2 := KeepsOthers.setCell W ⟨w.heap.size, 0, none⟩ (.slice none 0 0)
      have k3 := KeepsOthers.setCell (W.setCell ⟨w.heap.size, 0, none⟩ (.slice none 0 0)) ⟨w.heap.size + 1, 0, none⟩ (.int .i64 12)
      exact ⟨(k2.trans k3).from _, rfl, ⟨x, by simp, HX.out⟩, ⟨(h2.set (.slice none 0 0)).kept (grownBy_setCell' _ _ _) (by simp), (h3.kept (grownBy_setCell' _ w.heap.size (.slice none 0 0)) (by simp)).set _⟩, (hB.setCell (p := ⟨w.heap.size, 0, none⟩) (Nat.le_refl _) _).setCell (p := ⟨w.heap.size + 1, 0, none⟩) (by simp) _⟩
    | true =>
      have HX := Lib.hid hx
      have hc := hv.cell
      have hsz := hB.size
      have hlo := hv.lt
      have hpl : pre.length + 1 ≤ 100001 := by omega
      have hl2 : w1.heap.size + 1 < W.heap.size := by omega
      have HALL := Lib.hid hall
      clear hall
      gi_wp2_with (gi_at_builtin; refine wpListIn_append_own _ rfl _ _ 22 rfl (w1.heap.size + 1 + 1) 9 i0 (.string ⟨#[]⟩) 1 16 Tryd.underlying22 hi hz0 hz1 hz2 rfl (by decide) _ _ _ rfl (hrow.alloc _) ⟨W.heap.size, 0, none⟩ 1 1 [.string ⟨x.1.toArray⟩] rfl rfl (cell_one_new _ _ _) (by simp [Value.oneCell']) (by unfold maxLen; omega) (by omega) (by simp; omega) ?_; intro v' wx hown' hgrow _; obtain ⟨g', cap', rfl⟩ := ownsRow_succ hown'; obtain ⟨hv1, hv2, hr2, hk2, hb2⟩ := hv.appended (by decide) (ownsRow_base hrow (n₀ := w.heap.size) (by omega)) hB.size (by omega) (ownsRow_base hown' (n₀ := w.heap.size) (by omega)) hgrow; have hc1 := hv1.cell; have hf1 := hv1.frozen)
      exact ⟨hk2.from _, ⟨hb2, block_app hrow hgrow (by omega) (by omega)⟩, ⟨⟨_, hv2, by have := hown'.kept (grownBy_setCell' wx w1.heap.size (.slice (some ⟨g', 0, none⟩) (pre.length + 1) cap')) (.inr (hv1.not_row (by decide) hown').symm); simpa [encW] using this⟩, box_app h2 (by decide) hrow hgrow (by omega), box_app h3 (by decide) hrow hgrow (by omega)⟩,
        fun y hy => (List.mem_append.1 hy).elim (HALL.out y) (fun hy => by rw [List.mem_singleton.1 hy]; exact HX.out), hB.trans hb2, Nat.le_trans hz hk2.size⟩
  case done =>
    rintro D xs W hD rfl ⟨⟨⟨v, hv, hrow⟩, h2, h3⟩, hall, hB, hz⟩ hK
    obtain ⟨hw, hl⟩ := pairs_all hall
    have hc := hv.cell
    have c2 := h2.cell
    have c3 := h3.cell
    have f2 := h2.frozen
    have f3 := h3.frozen
    have HW := Lib.hid hw
    have HL := Lib.hid hl
    clear hw hl hall
    have hlen : (pairs s).length = (wordsL s).1.length := by rw [← HL.out, List.length_map]
    obtain ⟨A, cap, rfl⟩ : ∃ A cap, v = .slice A (pairs s).length cap := by
      rcases hrow.2 with ⟨rfl, h0⟩ | ⟨g, cap, cur, rfl, _⟩
      · exact ⟨none, 0, by rw [h0]⟩
      · exact ⟨_, _, rfl⟩
    have HLEN := Lib.hid hlen
    clear hlen
    by_cases hm : 32 < (pairs s).length
    · have hw2 : wordsF s = ([], 14) := by unfold wordsF; rw [HB.out, HW.out, if_neg (by simp), if_neg (by simp), if_pos (by rw [← HLEN.out]; exact hm)]
      have HF := Lib.hid hw2
      clear hw2
      gi_wp2_with fail
      have k := ((KeepsOthers.setCell W ⟨w.heap.size, 0, none⟩ (.slice none 0 0)).trans (KeepsOthers.setCell _ ⟨w.heap.size + 1, 0, none⟩ (.int .i64 14))).same D _ hK rfl
      refine words_end k rfl ((h2.set (.slice none 0 0)).kept (grownBy_setCell' _ _ _) (by simp)) ((h3.kept (grownBy_setCell' _ w.heap.size (.slice none 0 0)) (by simp)).set _) rfl rfl ⟨_, by rw [HF.out], by rw [HF.out]; exact Strs.nil _ _, ?_⟩
      exact ((hB.setCell (p := ⟨w.heap.size, 0, none⟩) (Nat.le_refl _) _).setCell (p := ⟨w.heap.size + 1, 0, none⟩) (by simp) _).trans (belowK_b (w := w) (Nat.le_refl _) _ D _ _ (by omega) k rfl rfl)
    · have hw2 : wordsF s = ((wordsL s).1, 0) := by unfold wordsF; rw [HB.out, HW.out, if_neg (by simp), if_neg (by simp), if_neg (by rw [← HLEN.out]; exact hm)]
      have HF := Lib.hid hw2
      clear hw2
      gi_wp2_with fail
      have k := ((KeepsOthers.setCell W ⟨w.heap.size, 0, none⟩ (.slice A (pairs s).length cap)).trans (KeepsOthers.setCell _ ⟨w.heap.size + 1, 0, none⟩ (.int .i64 0))).same D _ hK rfl
      refine words_end k rfl ((h2.set (.slice A (pairs s).length cap)).kept (grownBy_setCell' _ _ _) (by simp)) ((h3.kept (grownBy_setCell' _ w.heap.size (.slice A (pairs s).length cap)) (by simp)).set _) rfl rfl ⟨_, by rw [HF.out], ?_, ?_⟩
      · rw [HF.out]
        refine Strs.of_own (e := 9) ?_
        have r1 := (hrow.kept (grownBy_setCell' W w.heap.size (.slice A (pairs s).length cap)) (.inr (h2.not_row (by decide) hrow).symm))
        have r2 := r1.kept (grownBy_setCell' _ (w.heap.size + 1) (.int .i64 0)) (.inr ((h3.kept (grownBy_setCell' _ w.heap.size (.slice A (pairs s).length cap)) (by simp)).not_row (by decide) r1).symm)
        have r3 := ownsRow_base (ownsRow_putObj r2 (.deferred none) k rfl) (n₀ := w.heap.size) (by omega)
        simp only [← HL.out, List.length_map, List.map_map]
        exact r3
      · exact ((hB.setCell (p := ⟨w.heap.size, 0, none⟩) (Nat.le_refl _) _).setCell (p := ⟨w.heap.size + 1, 0, none⟩) (by simp) _).trans (belowK_b (w := w) (Nat.le_refl _) _ D _ _ (by omega) k rfl rfl)
  case stop =>
    rintro D c pre W hD hp ⟨rfl, ⟨x, hx, hxf⟩, ⟨h2, h3⟩, hB⟩ hK
    have hbad2 := pairs_any (hp.subset hx) hxf
    have hw2 : wordsF s = ([], 12) := by unfold wordsF; rw [HB.out, if_neg (by simp), if_pos hbad2]
    have HF := Lib.hid hw2
    clear hbad2 hxf hx hp hw2
    gi_wp2_with fail
    exact words_end hK rfl h2 h3 rfl rfl ⟨_, by rw [HF.out], by rw [HF.out]; exact Strs.nil _ _, hB.trans (belowK_b (w := w) (Nat.le_refl _) _ D _ _ (by omega) hK rfl rfl)⟩

theorem Words_any (s : Bytes) (w : World) (hG : Glob w) (hs : s.length ≤ 100000) :
    Calls Tryd.prog 9 #[.string ⟨s.toArray⟩] w (WordsPost s w) := by
  cases h : s.any (inSet [0, 10, 13]) with
  | true => exact words_bad s w hs h
  | false => exact words_main s w hG hs h

end Go.Proofs.YtgofleplmnibbaaDoor
