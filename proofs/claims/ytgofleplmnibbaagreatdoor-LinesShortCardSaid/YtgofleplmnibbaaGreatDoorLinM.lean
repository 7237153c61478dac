/-
  clock.Parse.
-/
import Derived.Test.YtgofleplmnibbaaGreatDoorLinL
import Derived.Test.YtgofleplmnibbaaGreatDoorLinN
import Derived.Test.YtgofleplmnibbaaGreatDoorCells
namespace Go.Proofs.YtgofleplmnibbaaGreatDoor.Lex

/-- Which kind's letters have the byte c, among the first i kinds; and whether any have. -/
def letB (c : UInt8) (i : Nat) : Bool := decide (0 ≤ Lib.indexByte (clockLetters.getD i []) c)
def kindF (c : UInt8) : Nat → Int
  | 0 => 0
  | i + 1 => if letB c i then i else kindF c i
def cutsF (c : UInt8) : Nat → Bool
  | 0 => false
  | i + 1 => if letB c i then true else cutsF c i
/-- What is left behind i kinds. -/
def restF (l x : Bytes) (c : UInt8) (i : Nat) : Bytes := if cutsF c i then l else x
def clockR (rest : Bytes) (kind : Int) : Int × Int × Int := if (spanN rest).2 = 0 then ((spanN rest).1, kind, 0) else (0, 0, (spanN rest).2)
/-- Seconds, kind, and what is wrong. -/
def clockN (x : Bytes) : Int × Int × Int := match x.getLast? with
  | none => clockR [] 0
  | some c => clockR (if cutsF c 3 then x.dropLast else x) (kindF c 3)

end Go.Proofs.YtgofleplmnibbaaGreatDoor.Lex
namespace Go.Proofs.YtgofleplmnibbaaGreatDoor
open Go.RowKit Go.Shelf Lex

theorem index_letters (j : Int) (i : Nat) (x : Bytes) (w : World) (hj : j = i) (h : clockLetters[i]? = some x) :
    (Instr.index 126 (.agg #[.string ⟨#[119]⟩, .string ⟨#[115]⟩, .string ⟨#[117, 103, 122]⟩]) (.int .i64 j)).run Tryz.prog w = .ok (.string ⟨x.toArray⟩) w :=
  have hl : i < 3 := (List.getElem?_eq_some_iff.1 h).1
  hj ▸ run_index_arr (fun w => by simp [go_sem]) (Tryz.sizeOf9) (Tryz.isAgg9) _ _ _ _ w (by
    obtain rfl | rfl | rfl : i = 0 ∨ i = 1 ∨ i = 2 := by omega
    all_goals (cases h; rfl)) hl
theorem contains_byte (l : Bytes) (c : UInt8) (w : World) (b : Bool) (h : decide (0 ≤ Lib.indexByte l c) = b) : Calls Tryz.prog 65 #[.string ⟨l.toArray⟩, .string ⟨#[c]⟩] w fun e w' => e = .returned (.bool b) ∧ w = w' := by
  refine (Tryz.strings_Contains_one ⟨l.toArray⟩ c w).mono ?_
  rintro e w' ⟨rfl, rfl⟩
  exact ⟨by rw [← h], rfl⟩

set_option maxHeartbeats 2000000 in
set_option maxRecDepth 100000 in
theorem clockParse_any (x : Bytes) (w : World) (hG : Glob w) (hx : x.length ≤ 100000) :
    Calls Tryz.prog 54 #[.string ⟨x.toArray⟩] w fun e w' => e = .returned (.tuple #[.agg #[.int .i64 (clockN x).1, .int .i64 (clockN x).2.1], .int .i64 (clockN x).2.2]) ∧ Below w.heap.size w w' := by
  have hl := hG.facts.letters
  obtain ⟨r, HR⟩ : ∃ r, Hid (clockN x = r) := ⟨_, Lib.hid rfl⟩
  rw [HR.out]
  obtain ⟨w1, hw1⟩ : ∃ w1, w1 = w.alloc (.cells #[.int .i64 0, .int .i64 0] 32) := ⟨_, rfl⟩
  have hB1 : Below w.heap.size w w1 := by rw [hw1]; exact (Below.refl _ w).alloc (Nat.le_refl _) _
  have hz1 : w.heap.size < w1.heap.size := by rw [hw1]; simp
  have hg0 : ∀ k, (⟨2, k, none⟩ : Addr).block < w.heap.size := fun k => texts_size hl
  have l0 := (hB1.cell (hg0 0)).trans (hl 0 _ rfl)
  have l1 := (hB1.cell (hg0 1)).trans (hl 1 _ rfl)
  have l2 := (hB1.cell (hg0 2)).trans (hl 2 _ rfl)
  have b1 : w1.heap[w.heap.size]? = some (.cells #[.int .i64 0, .int .i64 0] 32 (0, 0)) := by rw [hw1]; exact World.alloc_heap_new _ _
  have hG1 : Glob w1 := hG.below' hB1
  have HW1 := Lib.hid hw1
  rw [hw1] at l0 l1 l2
  clear hg0 hl hw1
  rcases snoc_cases x with he | ⟨l, c, he⟩
  · have HR2 : Hid (clockR [] 0 = r) := Lib.hid (by rw [← HR.out, he]; rfl)
    subst he
    clear HR
    go_enter Tryz.func54, Tryz.ntmps54
    go_wp2_with fail
    rw [← HW1.out]
    clear l0 l1 l2
    go_wp2_with fail
    go_loopg [4, 5, 12] 3 (fun g a b i wr => ∃ k : Nat, k ≤ 3 ∧ 3 - k ≤ g ∧ i = .int .i64 k ∧ a = .int .i64 0 ∧ b = .string ⟨#[]⟩ ∧ w1 = wr)
    case atStart => exact ⟨0, by omega, by omega, rfl, rfl, rfl, rfl⟩
    case round =>
      obtain ⟨k, hk, hg, rfl, rfl, rfl, rfl⟩ := hrel
      have h4 : k = 0 ∨ k = 1 ∨ k = 2 ∨ k = 3 := by omega
      clear hk
      rcases h4 with rfl | rfl | rfl | rfl
      · have ix := fun W => index_letters 0 0 [119] W rfl rfl
        go_wp2_with fail
        go_roundg 2
        case measure => omega
        case rel => exact ⟨1, by omega, by omega, rfl, rfl, rfl, rfl⟩
      · have ix := fun W => index_letters 1 1 [115] W rfl rfl
        go_wp2_with fail
        go_roundg 1
        case measure => omega
        case rel => exact ⟨2, by omega, by omega, rfl, rfl, rfl, rfl⟩
      · have ix := fun W => index_letters 2 2 [117, 103, 122] W rfl rfl
        go_wp2_with fail
        go_roundg 0
        case measure => omega
        case rel => exact ⟨3, by omega, by omega, rfl, rfl, rfl, rfl⟩
      · go_wp2_with fail
        refine (span_any [] w1 hG1 (Nat.zero_le _)).mono ?_
        rintro e w2 ⟨rfl, hb2⟩
        have HR2 := Lib.hid (show (if (spanN ([] : Bytes)).2 = 0 then ((spanN ([] : Bytes)).1, (0 : Int), (0 : Int)) else (0, 0, (spanN ([] : Bytes)).2)) = r from HR2.out)
        generalize spanN ([] : Bytes) = sp at *
        obtain ⟨n, e⟩ := sp
        have hb0 : w2.heap[w.heap.size]? = some (.cells #[.int .i64 0, .int .i64 0] 32 (0, 0)) := (hb2.block _ hz1).trans b1
        have ca0 : w2.cell? ⟨w.heap.size, 0, none⟩ = some (.int .i64 0) := by rw [Lib.cell_of_heap hb0]; rfl
        have ca1 : w2.cell? ⟨w.heap.size, 1, none⟩ = some (.int .i64 0) := by rw [Lib.cell_of_heap hb0]; rfl
        have fa0 : w2.frozen? ⟨w.heap.size, 0, none⟩ = false := Lib.frozen_of_heap hb0 0
        have fa1 : w2.frozen? ⟨w.heap.size, 1, none⟩ = false := Lib.frozen_of_heap hb0 1
        have HB0 := Lib.hid hb0
        clear hb0
        by_cases he0 : e = 0
        · have HR3 : Hid ((n, 0, 0) = r) := Lib.hid (by rw [← HR2.out]; rw [if_pos he0])
          subst he0
          go_wp2_with fail
          (try simp only [Exit.inBlock, Exit.then])
          refine bodyPost_ret_by (v := .tuple #[.agg #[.int .i64 n, .int .i64 0], .int .i64 0]) ?_ rfl ?_
          · have hb9 := blk_set 1 (.int .i64 (0)) (blk_set 0 (.int .i64 (n)) HB0.out)
            have d0 := blk_cell (i := 0) hb9 rfl
            have d1 := blk_cell (i := 1) hb9 rfl
            rw [results_cell_tmp rfl]
            simp [go_sem, d0, d1]
          · refine ⟨by rw [← HR3.out], ?_⟩
            exact ((hB1.trans (hb2.mono hB1.size)).setCell (p := ⟨w.heap.size, 0, none⟩) (Nat.le_refl _) _).setCell (p := ⟨w.heap.size, 1, none⟩) (Nat.le_refl _) _
        · have HR3 : Hid ((0, 0, e) = r) := Lib.hid (by rw [← HR2.out]; rw [if_neg he0])
          have heb : (e != 0) = true := by rw [bne_iff_ne]; exact he0
          go_wp2_with fail
          (try simp only [Exit.inBlock, Exit.then])
          refine bodyPost_ret_by (v := .tuple #[.agg #[.int .i64 0, .int .i64 0], .int .i64 e]) ?_ rfl ?_
          · have hb9 := blk_set 1 (.int .i64 (0)) (blk_set 0 (.int .i64 (0)) HB0.out)
            have d0 := blk_cell (i := 0) hb9 rfl
            have d1 := blk_cell (i := 1) hb9 rfl
            rw [results_cell_tmp rfl]
            simp [go_sem, d0, d1]
          · refine ⟨by rw [← HR3.out], ?_⟩
            exact ((hB1.trans (hb2.mono hB1.size)).setCell (p := ⟨w.heap.size, 0, none⟩) (Nat.le_refl _) _).setCell (p := ⟨w.heap.size, 1, none⟩) (Nat.le_refl _) _
  · have HL : Hid (x.length = l.length + 1) := Lib.hid (by rw [he]; simp)
    have hn : x.length = l.length + 1 := HL.out
    have hx1 : (⟨x.toArray⟩ : ByteArray).extract l.length (l.length + 1) = ⟨#[c]⟩ := by rw [ba_extract, ← hn, List.take_length, he, List.drop_left]
    have hx2 : (⟨x.toArray⟩ : ByteArray).extract 0 l.length = ⟨l.toArray⟩ := by rw [ba_take, he, List.take_left]
    have hne : (x == []) = false := by rw [he]; simp
    have HR2 : Hid (clockR (restF l x c 3) (kindF c 3) = r) := Lib.hid (by rw [← HR.out, he]; unfold clockN restF; simp)
    have hll : l.length ≤ 99999 := by omega
    clear HR he
    go_enter Tryz.func54, Tryz.ntmps54
    go_wp2_with fail
    rw [← HW1.out]
    clear l0 l1 l2
    go_wp2_with fail
    go_loopg [4, 5, 12] 3 (fun g a b i wr => ∃ k : Nat, k ≤ 3 ∧ 3 - k ≤ g ∧ i = .int .i64 k ∧ a = .int .i64 (kindF c k) ∧ b = .string ⟨(restF l x c k).toArray⟩ ∧ Below w1.heap.size w1 wr)
    case atStart => exact ⟨0, by omega, by omega, rfl, rfl, rfl, Below.refl _ _⟩
    case round =>
      obtain ⟨k, hk, hg, rfl, rfl, rfl, hbr⟩ := hrel
      have h4 : k = 0 ∨ k = 1 ∨ k = 2 ∨ k = 3 := by omega
      clear hk
      rcases h4 with rfl | rfl | rfl | rfl
      · have ix := fun W => index_letters 0 0 [119] W rfl rfl
        cases hb : letB c 0 with
        | true =>
          have HB := Lib.hid hb
          have K1 : Hid (kindF c 1 = 0 ∧ restF l x c 1 = l) := Lib.hid (by unfold restF kindF cutsF; rw [hb]; exact ⟨rfl, rfl⟩)
          clear hb
          go_wp2_with fail
          refine (contains_byte [119] c wr true HB.out).mono ?_
          rintro e w2 ⟨rfl, rfl⟩
          go_wp2_with fail
          go_quiet (fail)
          go_wp2_with fail
          go_roundg 2
          case measure => omega
          case rel => exact ⟨1, by omega, by omega, rfl, by rw [K1.out.1], by rw [K1.out.2], below_drewN hbr _⟩
        | false =>
          have HB := Lib.hid hb
          have K1 : Hid (kindF c 1 = kindF c 0 ∧ restF l x c 1 = restF l x c 0) := Lib.hid (by unfold restF; rw [show cutsF c 1 = if letB c 0 then true else cutsF c 0 from rfl, show kindF c 1 = if letB c 0 then (0 : Int) else kindF c 0 from rfl, hb]; exact ⟨rfl, rfl⟩)
          clear hb
          go_wp2_with fail
          refine (contains_byte [119] c wr false HB.out).mono ?_
          rintro e w2 ⟨rfl, rfl⟩
          go_wp2_with fail
          go_roundg 2
          case measure => omega
          case rel => exact ⟨1, by omega, by omega, rfl, by rw [K1.out.1], by rw [K1.out.2], hbr⟩
      · have ix := fun W => index_letters 1 1 [115] W rfl rfl
        cases hb : letB c 1 with
        | true =>
          have HB := Lib.hid hb
          have K1 : Hid (kindF c 2 = 1 ∧ restF l x c 2 = l) := Lib.hid (by unfold restF kindF cutsF; rw [hb]; exact ⟨rfl, rfl⟩)
          clear hb
          go_wp2_with fail
          refine (contains_byte [115] c wr true HB.out).mono ?_
          rintro e w2 ⟨rfl, rfl⟩
          go_wp2_with fail
          go_quiet (fail)
          go_wp2_with fail
          go_roundg 1
          case measure => omega
          case rel => exact ⟨2, by omega, by omega, rfl, by rw [K1.out.1], by rw [K1.out.2], below_drewN hbr _⟩
        | false =>
          have HB := Lib.hid hb
          have K1 : Hid (kindF c 2 = kindF c 1 ∧ restF l x c 2 = restF l x c 1) := Lib.hid (by unfold restF; rw [show cutsF c 2 = if letB c 1 then true else cutsF c 1 from rfl, show kindF c 2 = if letB c 1 then (1 : Int) else kindF c 1 from rfl, hb]; exact ⟨rfl, rfl⟩)
          clear hb
          go_wp2_with fail
          refine (contains_byte [115] c wr false HB.out).mono ?_
          rintro e w2 ⟨rfl, rfl⟩
          go_wp2_with fail
          go_roundg 1
          case measure => omega
          case rel => exact ⟨2, by omega, by omega, rfl, by rw [K1.out.1], by rw [K1.out.2], hbr⟩
      · have ix := fun W => index_letters 2 2 [117, 103, 122] W rfl rfl
        cases hb : letB c 2 with
        | true =>
          have HB := Lib.hid hb
          have K1 : Hid (kindF c 3 = 2 ∧ restF l x c 3 = l) := Lib.hid (by unfold restF kindF cutsF; rw [hb]; exact ⟨rfl, rfl⟩)
          clear hb
          go_wp2_with fail
          refine (contains_byte [117, 103, 122] c wr true HB.out).mono ?_
          rintro e w2 ⟨rfl, rfl⟩
          go_wp2_with fail
          go_quiet (fail)
          go_wp2_with fail
          go_roundg 0
          case measure => omega
          case rel => exact ⟨3, by omega, by omega, rfl, by rw [K1.out.1], by rw [K1.out.2], below_drewN hbr _⟩
        | false =>
          have HB := Lib.hid hb
          have K1 : Hid (kindF c 3 = kindF c 2 ∧ restF l x c 3 = restF l x c 2) := Lib.hid (by unfold restF; rw [show cutsF c 3 = if letB c 2 then true else cutsF c 2 from rfl, show kindF c 3 = if letB c 2 then (2 : Int) else kindF c 2 from rfl, hb]; exact ⟨rfl, rfl⟩)
          clear hb
          go_wp2_with fail
          refine (contains_byte [117, 103, 122] c wr false HB.out).mono ?_
          rintro e w2 ⟨rfl, rfl⟩
          go_wp2_with fail
          go_roundg 0
          case measure => omega
          case rel => exact ⟨3, by omega, by omega, rfl, by rw [K1.out.1], by rw [K1.out.2], hbr⟩
      · have hGr := hG1.below' hbr
        go_wp2_with fail
        refine (span_any _ wr hGr (by unfold restF; split <;> omega)).mono ?_
        rintro e w2 ⟨rfl, hb2⟩
        have HR2 := Lib.hid (show (if (spanN (restF l x c 3)).2 = 0 then ((spanN (restF l x c 3)).1, kindF c 3, (0 : Int)) else (0, 0, (spanN (restF l x c 3)).2)) = r from HR2.out)
        generalize spanN (restF l x c 3) = sp at *
        obtain ⟨n, e⟩ := sp
        have hb0 : w2.heap[w.heap.size]? = some (.cells #[.int .i64 0, .int .i64 0] 32 (0, 0)) := (hb2.block _ (Nat.lt_of_lt_of_le hz1 hbr.size)).trans ((hbr.block _ hz1).trans b1)
        have ca0 : w2.cell? ⟨w.heap.size, 0, none⟩ = some (.int .i64 0) := by rw [Lib.cell_of_heap hb0]; rfl
        have ca1 : w2.cell? ⟨w.heap.size, 1, none⟩ = some (.int .i64 0) := by rw [Lib.cell_of_heap hb0]; rfl
        have fa0 : w2.frozen? ⟨w.heap.size, 0, none⟩ = false := Lib.frozen_of_heap hb0 0
        have fa1 : w2.frozen? ⟨w.heap.size, 1, none⟩ = false := Lib.frozen_of_heap hb0 1
        have HB0 := Lib.hid hb0
        clear hb0
        by_cases he0 : e = 0
        · have HR3 : Hid ((n, kindF c 3, 0) = r) := Lib.hid (by rw [← HR2.out]; rw [if_pos he0])
          subst he0
          go_wp2_with fail
          (try simp only [Exit.inBlock, Exit.then])
          refine bodyPost_ret_by (v := .tuple #[.agg #[.int .i64 n, .int .i64 (kindF c 3)], .int .i64 0]) ?_ rfl ?_
          · have hb9 := blk_set 1 (.int .i64 (kindF c 3)) (blk_set 0 (.int .i64 (n)) HB0.out)
            have d0 := blk_cell (i := 0) hb9 rfl
            have d1 := blk_cell (i := 1) hb9 rfl
            rw [results_cell_tmp rfl]
            simp [go_sem, d0, d1]
          · refine ⟨by rw [← HR3.out], ?_⟩
            exact (((hB1.trans (hbr.mono hB1.size)).trans (hb2.mono (hB1.trans (hbr.mono hB1.size)).size)).setCell (p := ⟨w.heap.size, 0, none⟩) (Nat.le_refl _) _).setCell (p := ⟨w.heap.size, 1, none⟩) (Nat.le_refl _) _
        · have HR3 : Hid ((0, 0, e) = r) := Lib.hid (by rw [← HR2.out]; rw [if_neg he0])
          have heb : (e != 0) = true := by rw [bne_iff_ne]; exact he0
          go_wp2_with fail
          (try simp only [Exit.inBlock, Exit.then])
          refine bodyPost_ret_by (v := .tuple #[.agg #[.int .i64 0, .int .i64 0], .int .i64 e]) ?_ rfl ?_
          · have hb9 := blk_set 1 (.int .i64 (0)) (blk_set 0 (.int .i64 (0)) HB0.out)
            have d0 := blk_cell (i := 0) hb9 rfl
            have d1 := blk_cell (i := 1) hb9 rfl
            rw [results_cell_tmp rfl]
            simp [go_sem, d0, d1]
          · refine ⟨by rw [← HR3.out], ?_⟩
            exact (((hB1.trans (hbr.mono hB1.size)).trans (hb2.mono (hB1.trans (hbr.mono hB1.size)).size)).setCell (p := ⟨w.heap.size, 0, none⟩) (Nat.le_refl _) _).setCell (p := ⟨w.heap.size, 1, none⟩) (Nat.le_refl _) _

end Go.Proofs.YtgofleplmnibbaaGreatDoor
