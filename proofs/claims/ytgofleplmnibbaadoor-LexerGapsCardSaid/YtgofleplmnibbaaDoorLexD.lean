/-
  strings.ContainsAny at the bytes that no line may have (0, 10, 13), whatever the text.
-/
import Derived.Test.YtgofleplmnibbaaDoorLexC
namespace Go.Proofs.YtgofleplmnibbaaDoor
open Go.RowKit Go.Shelf Lex

set_option maxHeartbeats 2000000 in
set_option maxRecDepth 100000 in
theorem indexRune_err (w : World) :
    Calls Tryd.prog 25 #[.string ⟨#[0, 10, 13]⟩, .int .i32 65533] w fun e w' => e = .returned (.int .i64 (-1)) ∧ Below w.heap.size w w' := by
  go_enter Tryd.func25, Tryd.ntmps25
  go_wp2
  go_loopg [] 3 (fun k wr => ∃ pos, pos ≤ 3 ∧ 3 - pos ≤ k ∧ wr.heap[w.heap.size]? = some (.stringIter ⟨#[0, 10, 13]⟩ pos) ∧ Below w.heap.size w wr)
  case atStart => exact ⟨0, by omega, by omega, World.iter_heap _ _ _, (Below.refl _ _).alloc (Nat.le_refl _) _⟩
  case round =>
    obtain ⟨pos, hpl, hk, hit, hbw⟩ := hrel
    have key : ∀ (b : Nat) (wn : World), (∀ ty, (Instr.next (.pointer (some ⟨w.heap.size, 0, none⟩)) true ty).run Tryd.prog wr = .ok (.tuple #[.bool true, .int .i64 pos, .int .i32 b]) wn) → True := fun _ _ _ => trivial
    clear key
    obtain rfl | rfl | rfl | rfl : pos = 0 ∨ pos = 1 ∨ pos = 2 ∨ pos = 3 := by omega
    · have hnx := fun ty => Lib.run_next_ascii_at (P := Tryd.prog) wr w.heap.size ⟨#[0, 10, 13]⟩ 0 ty hit (by decide) (by decide)
      go_wp2
      go_roundg 2
      case measure => omega
      case rel => exact ⟨1, by omega, by omega, Lib.iterAt_heap _ _ _ _ _ hit, Lib.below_iterAt hbw (Nat.le_refl _) _ _⟩
    · have hnx := fun ty => Lib.run_next_ascii_at (P := Tryd.prog) wr w.heap.size ⟨#[0, 10, 13]⟩ 1 ty hit (by decide) (by decide)
      go_wp2
      go_roundg 1
      case measure => omega
      case rel => exact ⟨2, by omega, by omega, Lib.iterAt_heap _ _ _ _ _ hit, Lib.below_iterAt hbw (Nat.le_refl _) _ _⟩
    · have hnx := fun ty => Lib.run_next_ascii_at (P := Tryd.prog) wr w.heap.size ⟨#[0, 10, 13]⟩ 2 ty hit (by decide) (by decide)
      go_wp2
      go_roundg 0
      case measure => omega
      case rel => exact ⟨3, by omega, by omega, Lib.iterAt_heap _ _ _ _ _ hit, Lib.below_iterAt hbw (Nat.le_refl _) _ _⟩
    · have hnx := fun ty => Lib.run_next_end_at (P := Tryd.prog) wr w.heap.size ⟨#[0, 10, 13]⟩ 3 ty hit (by decide)
      go_wp2
      go_ret
      exact ⟨rfl, hbw⟩

set_option maxHeartbeats 2000000 in
set_option maxRecDepth 100000 in
theorem indexRune_bad (r : Int) (w : World) (h1 : 128 ≤ r) (h2 : r ≠ 65533) (h3 : Lib.validRune r = false) :
    Calls Tryd.prog 25 #[.string ⟨#[0, 10, 13]⟩, .int .i32 r] w fun e w' => e = .returned (.int .i64 (-1)) ∧ Below w.heap.size w w' := by
  have hb : (r == 65533) = false := beq_eq_false_iff_ne.2 h2
  clear h2
  have hv : ∀ w, Calls Tryd.prog 38 #[.int .i32 r] w fun e w' => e = .returned (.bool false) ∧ w' = w := fun w => h3 ▸ Tryd.utf8_ValidRune r w
  clear h3
  have HV := Lib.hid hv
  clear hv
  go_enter Tryd.func25, Tryd.ntmps25
  go_wp2_with (go_at_call 38; refine (HV.out _).mono ?_; rintro e w' ⟨rfl, rfl⟩)
  go_ret
  exact ⟨rfl, Below.refl _ _⟩

theorem quiet_add_same {P : Program} {f : FuncId} {args : Array Value} {w : World} {a n : Nat} {v : Value}
    (h : Calls P f args (w.drewN (a + n)) fun e w' => e = .returned v ∧ w' = w.drewN (a + n)) :
    Calls P f args (w.drewN (a + n)) fun e w'' => e = .returned v ∧ ∃ m, w'' = w.drewN (a + m) :=
  h.mono fun _ _ ⟨he, hm⟩ => ⟨he, n, hm⟩
theorem indexByte_no : ∀ (s : Bytes) (x : UInt8), (∀ b ∈ s, b ≠ x) → Lib.indexByte s x = -1
  | [], _, _ => rfl
  | b :: s, x, h => by
    unfold Lib.indexByte
    rw [if_neg (by simpa using h b (by simp)), indexByte_no s x (fun c hc => h c (by simp [hc]))]
    rfl
theorem idx_no (s : ByteArray) (x : UInt8) (h : ∀ b ∈ s.data.toList, b ≠ x) (w : World) :
    Calls Tryd.prog 37 #[.string s, .int .u8 x.toNat] w fun e w' => e = .returned (.int .i64 (-1)) ∧ w' = w := by
  have := Tryd.strings_IndexByte s x.toNat w
  rw [show ((x.toNat : Int).toNat.toUInt8) = x from by simp, indexByte_no _ _ h] at this
  exact this
theorem ba2 (b0 x : UInt8) (h : 1 < (⟨#[b0, x]⟩ : ByteArray).size) : (⟨#[b0, x]⟩ : ByteArray)[1]'h = x := rfl
theorem ba3 (b0 b1 x : UInt8) (h : 2 < (⟨#[b0, b1, x]⟩ : ByteArray).size) : (⟨#[b0, b1, x]⟩ : ByteArray)[2]'h = x := rfl
attribute [local go_sem] ba2 ba3

set_option maxHeartbeats 2000000 in
set_option maxRecDepth 100000 in
theorem indexRune_two (r : Int) (w : World) (b0 x : UInt8) (hx : 128 ≤ x.toNat) (h1 : 128 ≤ r) (h2 : r ≠ 65533) (h3 : Lib.validRune r = true) (he : Utf8.encode r = ⟨#[b0, x]⟩) :
    Calls Tryd.prog 25 #[.string ⟨#[0, 10, 13]⟩, .int .i32 r] w fun e w' => e = .returned (.int .i64 (-1)) ∧ Below w.heap.size w w' := by
  have hb : (r == 65533) = false := beq_eq_false_iff_ne.2 h2
  clear h2
  have hd : decide (r < 128) = false := decide_eq_false (by omega)
  have hne : ((((⟨#[0, 10, 13]⟩ : ByteArray)[1]'(by decide)).toNat : Int) != (x.toNat : Int)) = true := by
    rw [bne_iff_ne]; show (10 : Int) ≠ _; omega
  have hw2 : IntKind.i64.wrap 2 = 2 := by decide
  have hi : ∀ w, Calls Tryd.prog 37 #[.string ((⟨#[0, 10, 13]⟩ : ByteArray).extract 2 3), .int .u8 x.toNat] w fun e w' => e = .returned (.int .i64 (-1)) ∧ w' = w := fun w =>
    idx_no _ x (fun b hb => by
      have : b ∈ ([0, 10, 13] : List UInt8) := by
        rw [Lib.extract_data] at hb
        exact List.mem_of_mem_drop (List.mem_of_mem_take hb)
      rintro rfl
      simp at this
      rcases this with rfl | rfl | rfl <;> simp at hx) w
  have HI := Lib.hid hi
  have hv : ∀ w, Calls Tryd.prog 38 #[.int .i32 r] w fun e w' => e = .returned (.bool true) ∧ w' = w := fun w => h3 ▸ Tryd.utf8_ValidRune r w
  have HV := Lib.hid hv
  clear hv hi h3
  go_enter Tryd.func25, Tryd.ntmps25
  go_wp2_with (go_at_call 38; refine (HV.out _).mono ?_; rintro e w' ⟨rfl, rfl⟩)
  go_step3
  go_wp2
  refine wp_loop_rounds 1 ?_
  rw [rounds_succ]
  go_wp2
  go_step3
  go_wp2
  go_quiet (fail)
  go_wp2
  go_quiet ((go_at_call 37; exact quiet_add_same (HI.out _)))
  go_wp2
  simp only [Exit.inBlock, Exit.then, Exit.noGoto_ret]
  go_ret
  exact ⟨rfl, below_drewN (Below.refl _ _) _⟩

set_option maxHeartbeats 2000000 in
set_option maxRecDepth 100000 in
theorem indexRune_three (r : Int) (w : World) (b0 b1 x : UInt8) (hx : 128 ≤ x.toNat) (h1 : 128 ≤ r) (h2 : r ≠ 65533) (h3 : Lib.validRune r = true) (he : Utf8.encode r = ⟨#[b0, b1, x]⟩) :
    Calls Tryd.prog 25 #[.string ⟨#[0, 10, 13]⟩, .int .i32 r] w fun e w' => e = .returned (.int .i64 (-1)) ∧ Below w.heap.size w w' := by
  have hb : (r == 65533) = false := beq_eq_false_iff_ne.2 h2
  clear h2
  have hd : decide (r < 128) = false := decide_eq_false (by omega)
  have hne : ((((⟨#[0, 10, 13]⟩ : ByteArray)[2]'(by decide)).toNat : Int) != (x.toNat : Int)) = true := by
    rw [bne_iff_ne]; show (13 : Int) ≠ _; omega
  have hw2 : IntKind.i64.wrap 3 = 3 := by decide
  have hi : ∀ w, Calls Tryd.prog 37 #[.string ((⟨#[0, 10, 13]⟩ : ByteArray).extract 3 3), .int .u8 x.toNat] w fun e w' => e = .returned (.int .i64 (-1)) ∧ w' = w := fun w =>
    idx_no _ x (fun b hb => by
      have : b ∈ ([0, 10, 13] : List UInt8) := by
        rw [Lib.extract_data] at hb
        exact List.mem_of_mem_drop (List.mem_of_mem_take hb)
      rintro rfl
      simp at this
      rcases this with rfl | rfl | rfl <;> simp at hx) w
  have HI := Lib.hid hi
  have hv : ∀ w, Calls Tryd.prog 38 #[.int .i32 r] w fun e w' => e = .returned (.bool true) ∧ w' = w := fun w => h3 ▸ Tryd.utf8_ValidRune r w
  have HV := Lib.hid hv
  clear hv hi h3
  go_enter Tryd.func25, Tryd.ntmps25
  go_wp2_with (go_at_call 38; refine (HV.out _).mono ?_; rintro e w' ⟨rfl, rfl⟩)
  go_step3
  go_wp2
  refine wp_loop_rounds 1 ?_
  rw [rounds_succ]
  go_wp2
  go_step3
  go_wp2
  go_quiet (fail)
  go_wp2
  go_quiet ((go_at_call 37; exact quiet_add_same (HI.out _)))
  go_wp2
  simp only [Exit.inBlock, Exit.then, Exit.noGoto_ret]
  go_ret
  exact ⟨rfl, below_drewN (Below.refl _ _) _⟩

set_option maxHeartbeats 2000000 in
set_option maxRecDepth 100000 in
theorem indexRune_four (r : Int) (w : World) (b0 b1 b2 x : UInt8) (h1 : 128 ≤ r) (h2 : r ≠ 65533) (h3 : Lib.validRune r = true) (he : Utf8.encode r = ⟨#[b0, b1, b2, x]⟩) :
    Calls Tryd.prog 25 #[.string ⟨#[0, 10, 13]⟩, .int .i32 r] w fun e w' => e = .returned (.int .i64 (-1)) ∧ Below w.heap.size w w' := by
  have hb : (r == 65533) = false := beq_eq_false_iff_ne.2 h2
  clear h2
  have hd : decide (r < 128) = false := decide_eq_false (by omega)
  have hv : ∀ w, Calls Tryd.prog 38 #[.int .i32 r] w fun e w' => e = .returned (.bool true) ∧ w' = w := fun w => h3 ▸ Tryd.utf8_ValidRune r w
  have HV := Lib.hid hv
  clear hv h3
  go_enter Tryd.func25, Tryd.ntmps25
  go_wp2_with (go_at_call 38; refine (HV.out _).mono ?_; rintro e w' ⟨rfl, rfl⟩)
  go_step3
  go_wp2
  refine wp_loop_rounds 1 ?_
  rw [rounds_succ]
  go_wp2
  simp only [Exit.inBlock, Exit.noGoto_ret]
  go_ret
  exact ⟨rfl, Below.refl _ _⟩

/-- Whatever rune from 128 on: it is none of 0, 10, 13. -/
theorem indexRune_high (r : Nat) (w : World) (h1 : 128 ≤ r) :
    Calls Tryd.prog 25 #[.string ⟨#[0, 10, 13]⟩, .int .i32 r] w fun e w' => e = .returned (.int .i64 (-1)) ∧ Below w.heap.size w w' := by
  by_cases h2 : (r : Int) = 65533
  · rw [h2]; exact indexRune_err w
  · cases h3 : Lib.validRune r with
    | false => exact indexRune_bad r w (by omega) h2 h3
    | true =>
      have hv : Utf8.valid (r : Int) = true := by
        unfold Lib.validRune at h3
        unfold Utf8.valid
        simp at h3 ⊢
        omega
      have hhi : r ≤ 1114111 := by
        unfold Utf8.valid at hv
        simp at hv
        omega
      have he : Utf8.encode (r : Int) = if r < 0x800 then ⟨#[UInt8.ofNat (0xC0 + r / 64), UInt8.ofNat (0x80 + r % 64)]⟩
          else if r < 0x10000 then ⟨#[UInt8.ofNat (0xE0 + r / 4096), UInt8.ofNat (0x80 + r / 64 % 64), UInt8.ofNat (0x80 + r % 64)]⟩
          else ⟨#[UInt8.ofNat (0xF0 + r / 262144), UInt8.ofNat (0x80 + r / 4096 % 64), UInt8.ofNat (0x80 + r / 64 % 64), UInt8.ofNat (0x80 + r % 64)]⟩ := by
        unfold Utf8.encode
        simp only [hv, ↓reduceIte, Int.toNat_natCast]
        rw [if_neg (by omega)]
      by_cases ha : r < 0x800
      · rw [if_pos ha] at he
        exact indexRune_two r w _ _ (by simp; omega) (by omega) h2 h3 he
      · rw [if_neg ha] at he
        by_cases hb : r < 0x10000
        · rw [if_pos hb] at he
          exact indexRune_three r w _ _ _ (by simp; omega) (by omega) h2 h3 he
        · rw [if_neg hb] at he
          exact indexRune_four r w _ _ _ _ (by omega) h2 h3 he

end Go.Proofs.YtgofleplmnibbaaDoor
