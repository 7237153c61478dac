/-
  lines.Name: which names may be.
-/
import Derived.Test.YtgofleplmnibbaaGreatDoorLinC
namespace Go.Proofs.YtgofleplmnibbaaGreatDoor.Lex

def goodPiece : Bytes → Bool
  | [] => false
  | c :: _ => c != 45
def nameF (s : Bytes) : Bool := onlyF s nameB 1 64 && (pieces 47 s).all goodPiece


end Go.Proofs.YtgofleplmnibbaaGreatDoor.Lex
namespace Go.Proofs.YtgofleplmnibbaaGreatDoor
open Go.RowKit Go.Shelf Lex
attribute [local go_sem] Oper.semAt_some ba_head

set_option maxHeartbeats 4000000 in
set_option maxRecDepth 100000 in
theorem name_true (s : Bytes) (w : World) (hG : Glob w) (hs : s.length ≤ 100000) (ho : onlyF s nameB 1 64 = true) :
    Calls Tryz.prog 12 #[.string ⟨s.toArray⟩] w fun e w' => e = .returned (.int .i64 (if nameF s then 0 else 23)) ∧ Below w.heap.size w w' := by
  have hO := fun W h => only_any s nameB 1 64 W h nameB_low hs (by decide)
  rw [ho] at hO
  have HO := Lib.hid hO
  have HF : Hid (nameF s = (true && (pieces 47 s).all goodPiece)) := Lib.hid (by unfold nameF; rw [ho])
  clear hO ho
  obtain ⟨r, HR⟩ : ∃ r : Int, Hid ((if nameF s then (0 : Int) else 23) = r) := ⟨_, Lib.hid rfl⟩
  rw [HR.out]
  have HLEN := Lib.hid (pieces_length 47 s)
  obtain ⟨n, h1⟩ : ∃ n : Nat, Hid (1 ≤ n) := ⟨9, Lib.hid (by omega)⟩
  refine (callsIn_wide (n := n)).1 ?_
  refine callsIn_of_wp_marks Tryz.func12 rfl trivial ?_ rfl
  simp only [Tryz.ntmps12, List.size_toArray, List.length_cons, List.length_nil, Nat.reduceAdd, Nat.reduceSub, Array.replicate_succ, Array.replicate_zero, List.push_toArray, List.append_toArray, List.nil_append, List.cons_append]
  gi_wp2_with fail
  refine wpIn_scope_wide ?_
  gi_wp2_with fail
  refine wide_call (HO.out _ (hG.alloc _)) ?_
  rintro e w1 ⟨rfl, hb1⟩
  have hw1 : w.heap.size + 1 ≤ w1.heap.size := by have := hb1.size; simpa using this
  have b0 : Boxed w1 w.heap.size 24 (.int .i64 0) := (hb1.block _ (by simp)).trans (Boxed.new w _ _)
  have hB1 : Below w.heap.size w w1 := ((Below.refl _ w).alloc (Nat.le_refl _) _).trans (hb1.mono (by simp))
  clear hb1
  have c0 := b0.cell
  have f0 := b0.frozen
  gi_wp2_with fail
  refine wpIn_label ?_
  obtain ⟨w2, hw2⟩ : ∃ w2, w2 = w1 := ⟨_, rfl⟩
  have b2 : Boxed w2 w.heap.size 24 (.int .i64 0) := by rw [hw2]; exact b0
  have hB2 : Below w.heap.size w w2 := by rw [hw2]; exact hB1
  have hw2' : w.heap.size + 1 ≤ w2.heap.size := by rw [hw2]; exact hw1
  rw [← hw2]
  clear hw2 c0 f0 b0 hB1 hw1
  gi_wp2_with fail
  refine wide_call (SplitSeq_any s 47 w2) ?_
  rintro e w3 ⟨rfl, hw3⟩
  have b3 : Boxed w3 w.heap.size 24 (.int .i64 0) := by rw [← hw3]; exact ((splitW_below w2 s 47).block _ (by omega)).trans b2
  have hB3 : Below w.heap.size w w3 := by rw [← hw3]; exact hB2.trans ((splitW_below w2 s 47).mono hB2.size)
  have hz3 : w3.heap.size = w2.heap.size + 3 := by rw [← hw3]; exact splitW_size _ _ _
  obtain ⟨s0, s1, s2⟩ : w3.heap[w2.heap.size]? = _ ∧ w3.heap[w2.heap.size + 1]? = _ ∧ w3.heap[w2.heap.size + 2]? = _ := by rw [← hw3]; exact splitW_at w2 s 47
  clear hw3 b2 hB2
  have hseq := split1_seq 47 s w2.heap.size w.heap.size (n - 1) w3 hs s0 s1 s2 (by omega)
  unfold splitV
  gi_wp2_with fail
  refine wpIn_range rfl h1.out (gf := 125) (lb := #[.pointer (some ⟨w2.heap.size + 1, 0, none⟩), .pointer (some ⟨w2.heap.size, 0, none⟩), .pointer (some ⟨w2.heap.size + 2, 0, none⟩)]) rfl trivial (enters_of Tryz.func125 (by kernel_rfl) rfl) hseq
    (fun h k => ⟨h.1.trans k.1, k.2.1.trans h.2.1, k.2.2.1.trans h.2.2.1, k.2.2.2.trans h.2.2.2⟩) (fun W l o o' hl hlo ho hw => ⟨belowK_b (w := w3) (by omega) W l o o' hl hlo ho hw, World.putObj_heap_other (by omega), World.putObj_heap_other (by omega), World.putObj_heap_other (by omega)⟩)
    (fun A C hg => KeepsFrom.of_grownBy hg (fun j e => by cases e; omega)) (fun _ => rfl)
    (fun pre W => Boxed W w.heap.size 24 (.int .i64 0) ∧ ((∀ x ∈ pre, goodPiece x = true) ∧ (Below w.heap.size w W ∧ w3.heap.size ≤ W.heap.size)))
    (fun c pre W => c = .exit 0 ∧ (∃ x ∈ pre, goodPiece x = false) ∧ Boxed W w.heap.size 24 (.int .i64 23) ∧ Below w.heap.size w W)
    ?hIv ?hIxv ?hI ?hIx ?h0
    (fun x a' _ => a' = { tmps := #[.string ⟨s.toArray⟩, undef, .int .i64 0, .pointer (some ⟨w.heap.size, 0, none⟩), .string ⟨x.toArray⟩, .string ⟨s.toArray⟩, .bool true, .bool false, .string ⟨s.toArray⟩, splitV w2.heap.size, .string ⟨x.toArray⟩, undef, undef, undef, undef, undef, undef, undef, undef], defers := [] })
    (fun _ _ _ _ _ _ h _ _ => h) ?assign ?body ?done ?stop
  case hIv =>
    rintro pre A C ⟨h2, hall, hB, hz⟩ hg
    exact ⟨box_only h2 hg (by omega), hall, hB.trans (below_only hg (by omega) hB.size), Nat.le_trans hz hg.size⟩
  case hIxv =>
    rintro c pre A C ⟨hc, hx, h2, hB⟩ hg
    exact ⟨hc, hx, box_only h2 hg (by omega), hB.trans (below_only hg (by omega) hB.size)⟩
  case hI =>
    exact OwnFrom.and (Own.from (boxed_own _ _ (fun _ => .int .i64 0)) _) (OwnFrom.and (ownFrom_pure _ (fun pre : List Bytes => ∀ x ∈ pre, goodPiece x = true)) (OwnFrom.and (ownFrom_below (Nat.le_refl _) (by omega)) (fun _ _ _ _ h hg _ => Nat.le_trans h hg.size)))
  case hIx =>
    exact fun c => OwnFrom.and (ownFrom_pure _ (fun _ => c = .exit 0)) (OwnFrom.and (ownFrom_pure _ (fun pre : List Bytes => ∃ x ∈ pre, goodPiece x = false)) (OwnFrom.and (Own.from (boxed_own _ _ (fun _ => .int .i64 23)) _) (ownFrom_below (Nat.le_refl _) (by omega))))
  case h0 => exact ⟨b3, by simp, hB3, Nat.le_refl _⟩
  case assign =>
    intro l pre x W K hi hK
    dsimp only [encB]
    gi_wp2
    exact hK _ _ (KeepsFrom.refl _ _) ⟨Below.refl _ _, rfl, rfl, rfl⟩ hi rfl
  case body =>
    rintro l pre x a' W ⟨h2, hall, hB, hz⟩ rfl hlt _
    have c2 := h2.cell
    have f2 := h2.frozen
    have HALL := Lib.hid hall
    clear hall
    have stop : ∀ a, goodPiece x = false → roundPost w3.heap.size (keepS w.heap.size w2.heap.size) (fun pre W => Boxed W w.heap.size 24 (.int .i64 0) ∧ ((∀ x ∈ pre, goodPiece x = true) ∧ (Below w.heap.size w W ∧ w3.heap.size ≤ W.heap.size))) (fun c pre W => c = .exit 0 ∧ (∃ x ∈ pre, goodPiece x = false) ∧ Boxed W w.heap.size 24 (.int .i64 23) ∧ Below w.heap.size w W) (pre ++ [x]) W (.exit 0) a (W.setCell ⟨w.heap.size, 0, none⟩ (.int .i64 23)) := fun a hx =>
      ⟨(KeepsOthers.setCell W ⟨w.heap.size, 0, none⟩ (.int .i64 23)).from _, rfl, ⟨x, by simp, hx⟩, h2.set _, hB.setCell (p := ⟨w.heap.size, 0, none⟩) (Nat.le_refl _) _⟩
    have STOP := Lib.hid stop
    clear stop
    cases x with
    | nil =>
      gi_wp2
      exact STOP.out _ rfl
    | cons c t =>
      by_cases hc : c = 45
      · have h45 : ((c.toNat : Int) == 45) = true := by subst hc; rfl
        have HC := Lib.hid hc
        clear hc
        gi_wp2
        exact STOP.out _ (by rw [HC.out]; rfl)
      · have h45 : ((c.toNat : Int) == 45) = false := by
          rw [beq_eq_false_iff_ne]; intro h; exact hc (u8_of (by have e45 : (45 : UInt8).toNat = 45 := rfl; omega))
        have HC := Lib.hid hc
        clear hc
        gi_wp2
        exact ⟨KeepsFrom.refl _ _, ⟨Below.refl _ _, rfl, rfl, rfl⟩, h2, fun y hy => (List.mem_append.1 hy).elim (HALL.out y) (fun hy => by rw [List.mem_singleton.1 hy]; simp [goodPiece, HC.out]), hB, hz⟩
  case done =>
    rintro D xs W hD rfl ⟨h2, hall, hB, hz⟩ hK
    have c2 := h2.cell
    have f2 := h2.frozen
    have HR' : r = 0 := by rw [← HR.out, HF.out, List.all_eq_true.2 hall]; rfl
    have HRV := Lib.hid HR'
    clear HR' hall
    gi_wp2_with fail
    rw [Exit.noGoto_ret]
    gi_wp2_with fail
    refine ⟨by simp, .inl ⟨_, _, rfl, run_takeDeferred hK, ?_⟩⟩
    exact ⟨.int .i64 0, by simp [results, Tryz.results12, go_sem], by rw [HRV.out], hB.trans (belowK_b (w := w) (Nat.le_refl _) _ D _ _ (by omega) hK rfl rfl)⟩
  case stop =>
    rintro D c pre W hD hp ⟨rfl, ⟨x, hx, hxf⟩, h2, hB⟩ hK
    have c2 := h2.cell
    have f2 := h2.frozen
    have HR' : r = 23 := by
      have : (pieces 47 s).all goodPiece = false := List.all_eq_false.2 ⟨x, hp.subset hx, by rw [hxf]; simp⟩
      rw [← HR.out, HF.out, this]; rfl
    have HRV := Lib.hid HR'
    clear HR' hxf hx hp
    gi_wp2_with fail
    rw [Exit.noGoto_ret]
    gi_wp2_with fail
    refine ⟨by simp, .inl ⟨_, _, rfl, run_takeDeferred hK, ?_⟩⟩
    exact ⟨.int .i64 23, by simp [results, Tryz.results12, go_sem], by rw [HRV.out], hB.trans (belowK_b (w := w) (Nat.le_refl _) _ D _ _ (by omega) hK rfl rfl)⟩

set_option maxHeartbeats 4000000 in
set_option maxRecDepth 100000 in
theorem name_false (s : Bytes) (w : World) (hG : Glob w) (hs : s.length ≤ 100000) (ho : onlyF s nameB 1 64 = false) :
    Calls Tryz.prog 12 #[.string ⟨s.toArray⟩] w fun e w' => e = .returned (.int .i64 (if nameF s then 0 else 23)) ∧ Below w.heap.size w w' := by
  have hO := fun W h => only_any s nameB 1 64 W h nameB_low hs (by decide)
  rw [ho] at hO
  have HO := Lib.hid hO
  have HF : Hid (nameF s = (false && (pieces 47 s).all goodPiece)) := Lib.hid (by unfold nameF; rw [ho])
  clear hO ho
  obtain ⟨r, HR⟩ : ∃ r : Int, Hid ((if nameF s then (0 : Int) else 23) = r) := ⟨_, Lib.hid rfl⟩
  rw [HR.out]
  have HLEN := Lib.hid (pieces_length 47 s)
  obtain ⟨n, h1⟩ : ∃ n : Nat, Hid (1 ≤ n) := ⟨9, Lib.hid (by omega)⟩
  refine (callsIn_wide (n := n)).1 ?_
  refine callsIn_of_wp_marks Tryz.func12 rfl trivial ?_ rfl
  simp only [Tryz.ntmps12, List.size_toArray, List.length_cons, List.length_nil, Nat.reduceAdd, Nat.reduceSub, Array.replicate_succ, Array.replicate_zero, List.push_toArray, List.append_toArray, List.nil_append, List.cons_append]
  gi_wp2_with fail
  refine wpIn_scope_wide ?_
  gi_wp2_with fail
  refine wide_call (HO.out _ (hG.alloc _)) ?_
  rintro e w1 ⟨rfl, hb1⟩
  have hw1 : w.heap.size + 1 ≤ w1.heap.size := by have := hb1.size; simpa using this
  have b0 : Boxed w1 w.heap.size 24 (.int .i64 0) := (hb1.block _ (by simp)).trans (Boxed.new w _ _)
  have hB1 : Below w.heap.size w w1 := ((Below.refl _ w).alloc (Nat.le_refl _) _).trans (hb1.mono (by simp))
  clear hb1
  have c0 := b0.cell
  have f0 := b0.frozen
  gi_wp2_with fail
  refine wpIn_label ?_
  obtain ⟨w2, hw2⟩ : ∃ w2, w2 = w1.setCell ⟨w.heap.size, 0, none⟩ (.int .i64 23) := ⟨_, rfl⟩
  have b2 : Boxed w2 w.heap.size 24 (.int .i64 23) := by rw [hw2]; exact b0.set _
  have hB2 : Below w.heap.size w w2 := by rw [hw2]; exact hB1.setCell (p := ⟨w.heap.size, 0, none⟩) (Nat.le_refl _) _
  have hw2' : w.heap.size + 1 ≤ w2.heap.size := by rw [hw2]; simpa using hw1
  rw [← hw2]
  clear hw2 c0 f0 b0 hB1 hw1
  gi_wp2_with fail
  refine wide_call (SplitSeq_any s 47 w2) ?_
  rintro e w3 ⟨rfl, hw3⟩
  have b3 : Boxed w3 w.heap.size 24 (.int .i64 23) := by rw [← hw3]; exact ((splitW_below w2 s 47).block _ (by omega)).trans b2
  have hB3 : Below w.heap.size w w3 := by rw [← hw3]; exact hB2.trans ((splitW_below w2 s 47).mono hB2.size)
  have hz3 : w3.heap.size = w2.heap.size + 3 := by rw [← hw3]; exact splitW_size _ _ _
  obtain ⟨s0, s1, s2⟩ : w3.heap[w2.heap.size]? = _ ∧ w3.heap[w2.heap.size + 1]? = _ ∧ w3.heap[w2.heap.size + 2]? = _ := by rw [← hw3]; exact splitW_at w2 s 47
  clear hw3 b2 hB2
  have hseq := split1_seq 47 s w2.heap.size w.heap.size (n - 1) w3 hs s0 s1 s2 (by omega)
  unfold splitV
  gi_wp2_with fail
  refine wpIn_range rfl h1.out (gf := 125) (lb := #[.pointer (some ⟨w2.heap.size + 1, 0, none⟩), .pointer (some ⟨w2.heap.size, 0, none⟩), .pointer (some ⟨w2.heap.size + 2, 0, none⟩)]) rfl trivial (enters_of Tryz.func125 (by kernel_rfl) rfl) hseq
    (fun h k => ⟨h.1.trans k.1, k.2.1.trans h.2.1, k.2.2.1.trans h.2.2.1, k.2.2.2.trans h.2.2.2⟩) (fun W l o o' hl hlo ho hw => ⟨belowK_b (w := w3) (by omega) W l o o' hl hlo ho hw, World.putObj_heap_other (by omega), World.putObj_heap_other (by omega), World.putObj_heap_other (by omega)⟩)
    (fun A C hg => KeepsFrom.of_grownBy hg (fun j e => by cases e; omega)) (fun _ => rfl)
    (fun pre W => Boxed W w.heap.size 24 (.int .i64 23) ∧ ((∀ x ∈ pre, goodPiece x = true) ∧ (Below w.heap.size w W ∧ w3.heap.size ≤ W.heap.size)))
    (fun c pre W => c = .exit 0 ∧ (∃ x ∈ pre, goodPiece x = false) ∧ Boxed W w.heap.size 24 (.int .i64 23) ∧ Below w.heap.size w W)
    ?hIv ?hIxv ?hI ?hIx ?h0
    (fun x a' _ => a' = { tmps := #[.string ⟨s.toArray⟩, undef, .int .i64 0, .pointer (some ⟨w.heap.size, 0, none⟩), .string ⟨x.toArray⟩, .string ⟨s.toArray⟩, .bool false, .bool true, .string ⟨s.toArray⟩, splitV w2.heap.size, .string ⟨x.toArray⟩, undef, undef, undef, undef, undef, undef, undef, undef], defers := [] })
    (fun _ _ _ _ _ _ h _ _ => h) ?assign ?body ?done ?stop
  case hIv =>
    rintro pre A C ⟨h2, hall, hB, hz⟩ hg
    exact ⟨box_only h2 hg (by omega), hall, hB.trans (below_only hg (by omega) hB.size), Nat.le_trans hz hg.size⟩
  case hIxv =>
    rintro c pre A C ⟨hc, hx, h2, hB⟩ hg
    exact ⟨hc, hx, box_only h2 hg (by omega), hB.trans (below_only hg (by omega) hB.size)⟩
  case hI =>
    exact OwnFrom.and (Own.from (boxed_own _ _ (fun _ => .int .i64 23)) _) (OwnFrom.and (ownFrom_pure _ (fun pre : List Bytes => ∀ x ∈ pre, goodPiece x = true)) (OwnFrom.and (ownFrom_below (Nat.le_refl _) (by omega)) (fun _ _ _ _ h hg _ => Nat.le_trans h hg.size)))
  case hIx =>
    exact fun c => OwnFrom.and (ownFrom_pure _ (fun _ => c = .exit 0)) (OwnFrom.and (ownFrom_pure _ (fun pre : List Bytes => ∃ x ∈ pre, goodPiece x = false)) (OwnFrom.and (Own.from (boxed_own _ _ (fun _ => .int .i64 23)) _) (ownFrom_below (Nat.le_refl _) (by omega))))
  case h0 => exact ⟨b3, by simp, hB3, Nat.le_refl _⟩
  case assign =>
    intro l pre x W K hi hK
    dsimp only [encB]
    gi_wp2
    exact hK _ _ (KeepsFrom.refl _ _) ⟨Below.refl _ _, rfl, rfl, rfl⟩ hi rfl
  case body =>
    rintro l pre x a' W ⟨h2, hall, hB, hz⟩ rfl hlt _
    have c2 := h2.cell
    have f2 := h2.frozen
    have HALL := Lib.hid hall
    clear hall
    have stop : ∀ a, goodPiece x = false → roundPost w3.heap.size (keepS w.heap.size w2.heap.size) (fun pre W => Boxed W w.heap.size 24 (.int .i64 23) ∧ ((∀ x ∈ pre, goodPiece x = true) ∧ (Below w.heap.size w W ∧ w3.heap.size ≤ W.heap.size))) (fun c pre W => c = .exit 0 ∧ (∃ x ∈ pre, goodPiece x = false) ∧ Boxed W w.heap.size 24 (.int .i64 23) ∧ Below w.heap.size w W) (pre ++ [x]) W (.exit 0) a (W.setCell ⟨w.heap.size, 0, none⟩ (.int .i64 23)) := fun a hx =>
      ⟨(KeepsOthers.setCell W ⟨w.heap.size, 0, none⟩ (.int .i64 23)).from _, rfl, ⟨x, by simp, hx⟩, h2.set _, hB.setCell (p := ⟨w.heap.size, 0, none⟩) (Nat.le_refl _) _⟩
    have STOP := Lib.hid stop
    clear stop
    cases x with
    | nil =>
      gi_wp2
      exact STOP.out _ rfl
    | cons c t =>
      by_cases hc : c = 45
      · have h45 : ((c.toNat : Int) == 45) = true := by subst hc; rfl
        have HC := Lib.hid hc
        clear hc
        gi_wp2
        exact STOP.out _ (by rw [HC.out]; rfl)
      · have h45 : ((c.toNat : Int) == 45) = false := by
          rw [beq_eq_false_iff_ne]; intro h; exact hc (u8_of (by have e45 : (45 : UInt8).toNat = 45 := rfl; omega))
        have HC := Lib.hid hc
        clear hc
        gi_wp2
        exact ⟨KeepsFrom.refl _ _, ⟨Below.refl _ _, rfl, rfl, rfl⟩, h2, fun y hy => (List.mem_append.1 hy).elim (HALL.out y) (fun hy => by rw [List.mem_singleton.1 hy]; simp [goodPiece, HC.out]), hB, hz⟩
  case done =>
    rintro D xs W hD rfl ⟨h2, hall, hB, hz⟩ hK
    have c2 := h2.cell
    have f2 := h2.frozen
    have HR' : r = 23 := by rw [← HR.out, HF.out, List.all_eq_true.2 hall]; rfl
    have HRV := Lib.hid HR'
    clear HR' hall
    gi_wp2_with fail
    rw [Exit.noGoto_ret]
    gi_wp2_with fail
    refine ⟨by simp, .inl ⟨_, _, rfl, run_takeDeferred hK, ?_⟩⟩
    exact ⟨.int .i64 23, by simp [results, Tryz.results12, go_sem], by rw [HRV.out], hB.trans (belowK_b (w := w) (Nat.le_refl _) _ D _ _ (by omega) hK rfl rfl)⟩
  case stop =>
    rintro D c pre W hD hp ⟨rfl, ⟨x, hx, hxf⟩, h2, hB⟩ hK
    have c2 := h2.cell
    have f2 := h2.frozen
    have HR' : r = 23 := by
      have : (pieces 47 s).all goodPiece = false := List.all_eq_false.2 ⟨x, hp.subset hx, by rw [hxf]; simp⟩
      rw [← HR.out, HF.out, this]; rfl
    have HRV := Lib.hid HR'
    clear HR' hxf hx hp
    gi_wp2_with fail
    rw [Exit.noGoto_ret]
    gi_wp2_with fail
    refine ⟨by simp, .inl ⟨_, _, rfl, run_takeDeferred hK, ?_⟩⟩
    exact ⟨.int .i64 23, by simp [results, Tryz.results12, go_sem], by rw [HRV.out], hB.trans (belowK_b (w := w) (Nat.le_refl _) _ D _ _ (by omega) hK rfl rfl)⟩

theorem name_any (s : Bytes) (w : World) (hG : Glob w) (hs : s.length ≤ 100000) :
    Calls Tryz.prog 12 #[.string ⟨s.toArray⟩] w fun e w' => e = .returned (.int .i64 (if nameF s then 0 else 23)) ∧ Below w.heap.size w w' := by
  cases h : onlyF s nameB 1 64 with
  | true => exact name_true s w hG hs h
  | false => exact name_false s w hG hs h

end Go.Proofs.YtgofleplmnibbaaGreatDoor
