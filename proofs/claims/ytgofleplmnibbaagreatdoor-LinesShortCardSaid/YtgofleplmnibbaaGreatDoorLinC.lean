/-
  strings.SplitSeq at a byte, as what a range over it is handed.
-/
import Derived.Test.YtgofleplmnibbaaGreatDoorLinB
import Derived.Test.YtgofleplmnibbaaGreatDoorRange
import Derived.Lib.IndexLaws
namespace Go.Proofs.YtgofleplmnibbaaGreatDoor.Lex

/-- A text's pieces between the bytes c. -/
def pieces (c : UInt8) : Bytes → List Bytes
  | [] => [[]]
  | x :: t => if x == c then [] :: pieces c t else match pieces c t with
    | [] => [[x]]
    | p :: r => (x :: p) :: r
theorem pieces_none {c : UInt8} : ∀ {s : Bytes}, Lib.indexByte s c = -1 → pieces c s = [s]
  | [], _ => rfl
  | x :: t, h => by
    unfold Lib.indexByte at h
    by_cases hx : (x == c) = true
    · rw [if_pos hx] at h; exact absurd h (by decide)
    · rw [if_neg hx] at h
      have hge := Lib.indexByte_ge t c
      by_cases ht : (Lib.indexByte t c == -1) = true
      · unfold pieces
        rw [if_neg hx, pieces_none (by simpa using ht)]
      · rw [if_neg ht] at h
        simp at ht
        omega
theorem pieces_some {c : UInt8} : ∀ {s : Bytes} {i : Nat}, Lib.indexByte s c = i → i < s.length ∧ pieces c s = s.take i :: pieces c (s.drop (i + 1))
  | [], i, h => by unfold Lib.indexByte at h; omega
  | x :: t, i, h => by
    unfold Lib.indexByte at h
    by_cases hx : (x == c) = true
    · rw [if_pos hx] at h
      have : i = 0 := by omega
      subst this
      rw [pieces, if_pos hx]
      exact ⟨by simp, by simp⟩
    · rw [if_neg hx] at h
      have hge := Lib.indexByte_ge t c
      by_cases ht : (Lib.indexByte t c == -1) = true
      · rw [if_pos ht] at h; omega
      · rw [if_neg ht] at h
        obtain ⟨j, hj⟩ : ∃ j : Nat, i = j + 1 := ⟨i - 1, by simp at ht; omega⟩
        subst hj
        obtain ⟨h1, h2⟩ := pieces_some (c := c) (s := t) (i := j) (by omega)
        refine ⟨by simp; omega, ?_⟩
        rw [pieces, if_neg hx, h2]
        simp

theorem pieces_length (c : UInt8) : ∀ s : Bytes, (pieces c s).length ≤ s.length + 1
  | [] => by simp [pieces]
  | x :: t => by
    have ih := pieces_length c t
    unfold pieces
    split
    · simp; omega
    · split
      · simp
      · rename_i h; rw [h] at ih; simp at ih ⊢; omega
theorem pieces_size (c : UInt8) : ∀ (s p : Bytes), p ∈ pieces c s → p.length ≤ s.length
  | [], p, h => by simp [pieces] at h; simp [h]
  | x :: t, p, h => by
    have ih := pieces_size c t
    unfold pieces at h
    split at h
    · rcases List.mem_cons.1 h with rfl | h
      · simp
      · have := ih p h; simp; omega
    · split at h
      · simp at h; simp [h]
      · rename_i q r hq
        rcases List.mem_cons.1 h with rfl | h
        · have := ih q (by rw [hq]; simp); simp; omega
        · have := ih p (by rw [hq]; simp [h]); simp; omega
end Go.Proofs.YtgofleplmnibbaaGreatDoor.Lex
namespace Go.Proofs.YtgofleplmnibbaaGreatDoor
open Go.RowKit Go.Shelf Lex

def encB (x : Bytes) : Array Value := #[.string ⟨x.toArray⟩]
/-- What a round keeps: all below n₀, and the blocks of what the iterator has captured. -/
def keepS (n₀ b : Nat) (A C : World) : Prop := Below n₀ A C ∧ C.heap[b]? = A.heap[b]? ∧ C.heap[b + 1]? = A.heap[b + 1]? ∧ C.heap[b + 2]? = A.heap[b + 2]?

attribute [local go_sem] ba_take ba_drop
set_option maxHeartbeats 1000000 in
set_option maxRecDepth 100000 in
theorem split1_seq (c : UInt8) (s : Bytes) (b n₀ n : Nat) (w : World) (hs : s.length ≤ 100000) (hb : w.heap[b]? = some (.cells #[.string ⟨s.toArray⟩] 9 (0, 0))) (hb1 : w.heap[b + 1]? = some (.cells #[.string ⟨#[c]⟩] 9 (0, 0)))
    (hb2 : w.heap[b + 2]? = some (.cells #[.int .i64 0] 3 (0, 0))) (_hn : n₀ ≤ b) :
    SeqV Fence.wide n Tryz.prog 125 #[.pointer (some ⟨b + 1, 0, none⟩), .pointer (some ⟨b, 0, none⟩), .pointer (some ⟨b + 2, 0, none⟩)] encB (keepS n₀ b) (fun A C => A.grownBy C (some b)) (fun xs => xs = pieces c s) (fun pre => pre <+: pieces c s) (pieces c s).length w := by
  intro l J Jx W hW hlt hJ hJx hY h0
  have hbl : b + 2 < w.heap.size := (Array.getElem?_eq_some_iff.1 hb2).1
  have hbW := (hW.block b (by omega)).trans hb
  have hbW1 := (hW.block (b + 1) (by omega)).trans hb1
  have hbW2 := (hW.block (b + 2) (by omega)).trans hb2
  have cs1 : W.cell? ⟨b + 1, 0, none⟩ = some (.string ⟨#[c]⟩) := by rw [Lib.cell_of_heap hbW1]; rfl
  refine callsIn_of_wp Tryz.func125 rfl trivial ?_ rfl
  simp only [Tryz.ntmps125, List.size_toArray, List.length_cons, List.length_nil, Nat.reduceAdd, Nat.reduceSub, Array.replicate_succ, Array.replicate_zero, List.push_toArray, List.append_toArray, List.nil_append, List.cons_append]
  gi_wp2
  clear cs1
  gi_loopg [] (s.length) (fun k wr => ∃ (pre : List Bytes) (t : Bytes), pieces c s = pre ++ pieces c t ∧ t.length ≤ k ∧ t.length ≤ 100000 ∧ wr.heap[b]? = some (.cells #[.string ⟨t.toArray⟩] 9 (0, 0)) ∧ wr.heap[b + 1]? = some (.cells #[.string ⟨#[c]⟩] 9 (0, 0)) ∧ wr.heap[b + 2]? = some (.cells #[.int .i64 0] 3 (0, 0)) ∧ J pre wr)
  case atStart => exact ⟨[], s, rfl, Nat.le_refl _, hs, hbW, hbW1, hbW2, h0⟩
  case round =>
    obtain ⟨pre, t, hp, hk, ht, hr0, hr1, hr2, hj⟩ := hrel
    have HP := Lib.hid hp
    clear hp
    have hc0 : wr.cell? ⟨b, 0, none⟩ = some (.string ⟨t.toArray⟩) := by rw [Lib.cell_of_heap hr0]; rfl
    have hc1 : wr.cell? ⟨b + 1, 0, none⟩ = some (.string ⟨#[c]⟩) := by rw [Lib.cell_of_heap hr1]; rfl
    have hc2 : wr.cell? ⟨b + 2, 0, none⟩ = some (.int .i64 0) := by rw [Lib.cell_of_heap hr2]; rfl
    have hI := Tryz.strings_Index_one ⟨t.toArray⟩ c wr
    have hge := Lib.indexByte_ge t c
    simp only at hI
    by_cases hneg : Lib.indexByte t c = -1
    · have HPN := Lib.hid (pieces_none hneg)
      rw [hneg] at hI
      clear hneg hge
      have HPL := Lib.hid (congrArg List.length HP.out)
      gi_wp2_with fail
      refine wide_call hI ?_
      rintro e w1 ⟨rfl, rfl⟩
      obtain ⟨fn, tmps, assign, body, hy, hR⟩ := hY pre t w1 hj (by rw [HPL.out, HPN.out]; simp) (by rw [HP.out, HPN.out]; exact List.prefix_refl _)
      dsimp only [encB] at hy
      gi_wp2_with fail
      refine ⟨fun h => absurd h (by decide), hR.mono ?_⟩
      rintro e W' (⟨rfl, hJ', hk⟩ | ⟨rfl, hJx'⟩)
      · gi_wp2_with fail
        refine bodyPost_end (results_none rfl _ _ _) rfl ?_
        exact ⟨⟨_, rfl⟩, .inl ⟨pre ++ [t], by rw [HP.out, HPN.out], hJ'⟩⟩
      · gi_wp2_with fail
        refine bodyPost_end (results_none rfl _ _ _) rfl ?_
        exact ⟨⟨_, rfl⟩, .inr ⟨pre ++ [t], by rw [HP.out, HPN.out]; exact List.prefix_refl _, hJx'⟩⟩
    · obtain ⟨i, hi⟩ : ∃ i : Nat, Lib.indexByte t c = i := ⟨(Lib.indexByte t c).toNat, by omega⟩
      obtain ⟨hil, hps⟩ := pieces_some hi
      have HPS := Lib.hid hps
      rw [hi] at hI
      clear hneg hge hi hps
      have HPL := Lib.hid (congrArg List.length HP.out)
      have hi0 : ¬ (i : Int) < 0 := by omega
      have hid1 : (t.drop (i + 1)).length = t.length - (i + 1) := List.length_drop
      gi_wp2_with fail
      refine wide_call hI ?_
      rintro e w1 ⟨rfl, rfl⟩
      obtain ⟨fn, tmps, assign, body, hy, hR⟩ := hY pre (t.take i) w1 hj (by rw [HPL.out, HPS.out]; simp) (by rw [HP.out, HPS.out]; exact ⟨pieces c (t.drop (i + 1)), by simp⟩)
      dsimp only [encB] at hy
      gi_wp2_with fail
      refine ⟨fun h => absurd h (by decide), hR.mono ?_⟩
      rintro e W' (⟨rfl, hJ', hk⟩ | ⟨rfl, hJx'⟩)
      · have h0' := hk.2.1.trans hr0
        have h1' := hk.2.2.1.trans hr1
        have h2' := hk.2.2.2.trans hr2
        have hc0' : W'.cell? ⟨b, 0, none⟩ = some (.string ⟨t.toArray⟩) := by rw [Lib.cell_of_heap h0']; rfl
        have hc1' : W'.cell? ⟨b + 1, 0, none⟩ = some (.string ⟨#[c]⟩) := by rw [Lib.cell_of_heap h1']; rfl
        have hf4 : W'.frozen? ⟨b, 0, none⟩ = false := Lib.frozen_of_heap h0' 0
        clear hk
        gi_wp2_with fail
        go_roundg (t.drop (i + 1)).length
        case measure => omega
        case rel => exact ⟨pre ++ [t.take i], t.drop (i + 1), by rw [HP.out, HPS.out]; simp, Nat.le_refl _, by omega, one_setCell h0', (Below.heap_setCell _ _ _ _ (by simp)).trans h1', (Below.heap_setCell _ _ _ _ (by simp)).trans h2', hJ _ _ _ hJ' (only_setCell _ _ _ _)⟩
      · gi_wp2_with fail
        refine bodyPost_ret (results_none rfl _ _ _) rfl ?_
        exact ⟨⟨_, rfl⟩, .inr ⟨pre ++ [t.take i], by rw [HP.out, HPS.out]; exact ⟨pieces c (t.drop (i + 1)), by simp⟩, hJx'⟩⟩

/-- The three boxes that SplitSeq's iterator has captured. -/
def splitW (w : World) (s : Bytes) (c : UInt8) : World := ((w.alloc (.cells #[.string ⟨s.toArray⟩] 9)).alloc (.cells #[.string ⟨#[c]⟩] 9)).alloc (.cells #[.int .i64 0] 3)
def splitV (b : Nat) : Value := .func (.func 125) #[] #[.pointer (some ⟨b + 1, 0, none⟩), .pointer (some ⟨b, 0, none⟩), .pointer (some ⟨b + 2, 0, none⟩)]
theorem splitSeq_any (s : Bytes) (c : UInt8) (w : World) :
    Calls Tryz.prog 80 #[.string ⟨s.toArray⟩, .string ⟨#[c]⟩, .int .i64 0] w fun e w' => e = .returned (splitV w.heap.size) ∧ splitW w s c = w' := by
  unfold splitV splitW
  go_enter Tryz.func80, Tryz.ntmps80
  go_wp2
  go_ret
  refine ⟨?_, rfl⟩
  simp
theorem SplitSeq_any (s : Bytes) (c : UInt8) (w : World) :
    Calls Tryz.prog 34 #[.string ⟨s.toArray⟩, .string ⟨#[c]⟩] w fun e w' => e = .returned (splitV w.heap.size) ∧ splitW w s c = w' := by
  go_enter Tryz.func34, Tryz.ntmps34
  go_wp2_with fail
  refine (splitSeq_any s c w).mono ?_
  rintro e w1 ⟨rfl, hw⟩
  go_wp2
  go_ret
  exact ⟨rfl, hw⟩
theorem splitW_size (w : World) (s : Bytes) (c : UInt8) : (splitW w s c).heap.size = w.heap.size + 3 := by simp [splitW]
theorem splitW_at (w : World) (s : Bytes) (c : UInt8) : (splitW w s c).heap[w.heap.size]? = some (.cells #[.string ⟨s.toArray⟩] 9 (0, 0)) ∧ (splitW w s c).heap[w.heap.size + 1]? = some (.cells #[.string ⟨#[c]⟩] 9 (0, 0)) ∧ (splitW w s c).heap[w.heap.size + 2]? = some (.cells #[.int .i64 0] 3 (0, 0)) := by
  unfold splitW
  refine ⟨?_, ?_, ?_⟩
  · exact ((Boxed.new w _ _).alloc _).alloc _
  · have := (Boxed.new (w.alloc (.cells #[.string ⟨s.toArray⟩] 9)) 9 (.string ⟨#[c]⟩)).alloc (.cells #[.int .i64 0] 3)
    rwa [World.size_alloc] at this
  · have := Boxed.new ((w.alloc (.cells #[.string ⟨s.toArray⟩] 9)).alloc (.cells #[.string ⟨#[c]⟩] 9)) 3 (.int .i64 0)
    rwa [World.size_alloc, World.size_alloc] at this
theorem splitW_below (w : World) (s : Bytes) (c : UInt8) : Below w.heap.size w (splitW w s c) :=
  (((Below.refl _ w).alloc (Nat.le_refl _) _).alloc (by simp) _).alloc (by simp; omega) _

end Go.Proofs.YtgofleplmnibbaaGreatDoor
