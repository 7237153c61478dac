/-
  Contracts of gap and word of the lexer at this dump: what each call returns and what it leaves.
-/
import Derived.Test.YtgofleplmnibbaaDoorBase
import Derived.Test.YtgofleplmnibbaaDoorLexP
import Derived.Shelf.Strings.SlTrimAscii
namespace Go.Proofs.YtgofleplmnibbaaDoor
open Go.RowKit Go.Shelf Lex

/-! ### gap -/
theorem gap_eq (c : UInt8) : (decide ((0 : Int) ≤ Lib.indexByte [32, 9] c)) = isGap c := by
  unfold isGap Lib.indexByte Lib.indexByte Lib.indexByte
  by_cases h1 : (32 : UInt8) = c
  · subst h1; rfl
  · by_cases h2 : (9 : UInt8) = c
    · subst h2; rfl
    · have e1 : (c == 32) = false := beq_eq_false_iff_ne.2 (fun e => h1 e.symm)
      have e2 : (c == 9) = false := beq_eq_false_iff_ne.2 (fun e => h2 e.symm)
      simp [h1, h2, e1, e2]

set_option maxHeartbeats 400000 in
theorem gap_any (c : UInt8) (w : World) :
    Calls Tryd.prog 32 #[.int .u8 c.toNat] w fun e w' => e = .returned (.bool (isGap c)) ∧ w = w' := by
  go_enter Tryd.func32, Tryd.ntmps32
  go_wp2_with (go_at_call 37; refine (Tryd.strings_IndexByte _ _ _).mono ?_; rintro e w' ⟨rfl, rfl⟩)
  go_ret
  exact ⟨by rw [← gap_eq]; rfl, rfl⟩

/-! ### Cut at a quote -/
theorem cut_yes {s a b : Bytes} {w : World} (hG : Glob w) (hs : s.length < 4294967281) (h : cutQ s = some (a, b)) :
    Calls Tryd.prog 33 #[.string ⟨s.toArray⟩, .string ⟨#[34]⟩] w fun e w' => e = .returned (.tuple #[.string ⟨a.toArray⟩, .string ⟨b.toArray⟩, .bool true]) ∧ Below w.heap.size w w' := by
  obtain ⟨m, hm⟩ := hG.facts.maxLen
  refine (Tryd.strings_Cut ⟨s.toArray⟩ ⟨#[34]⟩ m w (by simpa [ByteArray.size] using hs) hm).mono ?_
  rintro e w' ⟨rfl, n, rfl⟩
  refine ⟨?_, below_drewN (Below.refl _ _) n⟩
  have e := cutQ_index s
  rw [h] at e
  simp only at e
  rw [e]
theorem cut_no {s : Bytes} {w : World} (hG : Glob w) (hs : s.length < 4294967281) (h : cutQ s = none) :
    Calls Tryd.prog 33 #[.string ⟨s.toArray⟩, .string ⟨#[34]⟩] w fun e w' => e = .returned (.tuple #[.string ⟨s.toArray⟩, .string ⟨#[]⟩, .bool false]) ∧ Below w.heap.size w w' := by
  obtain ⟨m, hm⟩ := hG.facts.maxLen
  refine (Tryd.strings_Cut ⟨s.toArray⟩ ⟨#[34]⟩ m w (by simpa [ByteArray.size] using hs) hm).mono ?_
  rintro e w' ⟨rfl, n, rfl⟩
  refine ⟨?_, below_drewN (Below.refl _ _) n⟩
  have e := cutQ_index s
  rw [h] at e
  simp only at e
  rw [e]

/-! ### word -/
def wordV (s : Bytes) : Value := match scan s false [] with
  | some (a, b) => .tuple #[.string ⟨a.toArray⟩, .string ⟨b.toArray⟩, .bool true]
  | none => .tuple #[.string ⟨#[]⟩, .string ⟨#[]⟩, .bool false]
theorem gap_yes {c : UInt8} (h : isGap c = true) (w : World) : Calls Tryd.prog 32 #[.int .u8 c.toNat] w fun e w' => e = .returned (.bool true) ∧ w = w' := h ▸ gap_any c w
theorem gap_no {c : UInt8} (h : isGap c = false) (w : World) : Calls Tryd.prog 32 #[.int .u8 c.toNat] w fun e w' => e = .returned (.bool false) ∧ w = w' := h ▸ gap_any c w

attribute [local go_sem] ba_head ba_tail ba_tail'
set_option maxHeartbeats 1000000 in
theorem word_any (s : Bytes) (w : World) (hG : Glob w) (hs : s.length ≤ 100000) :
    Calls Tryd.prog 22 #[.string ⟨s.toArray⟩] w fun e w' => e = .returned (wordV s) ∧ Below w.heap.size w w' := by
  go_enter Tryd.func22, Tryd.ntmps22
  go_wp2
  go_step3
  go_wp2
  go_step3
  go_wp2
  go_loopg [0] (s.length) (fun n v wr => ∃ t acc : Bytes, v = .string ⟨t.toArray⟩ ∧ t.length ≤ n ∧ acc.length + t.length ≤ s.length ∧ scan s false [] = scan t false acc ∧ Lib.IsBuilder 44 5 w.heap.size w.heap.size (Lib.byteCells acc) wr ∧ Below w.heap.size w wr)
  case atStart =>
    refine ⟨s, [], rfl, Nat.le_refl _, by simp, rfl, ?_, (Below.refl _ _).alloc (Nat.le_refl _) _⟩
    exact builder_new w
  case round =>
    obtain ⟨t, acc, rfl, hn, hl, hsc, hbd, hbw⟩ := hrel
    have HS := Lib.hid hsc
    clear hsc
    cases t with
    | nil =>
      go_wp2_with (go_at_call 18; refine (string_any w.heap.size _ acc _ hbd hbw.size).mono ?_; rintro e w1 ⟨rfl, hb1⟩)
      rw [Exit.noGoto_ret]
      go_ret3
      exact ⟨by rw [wordV, HS.out]; rfl, hbw.trans hb1⟩
    | cons c t =>
      have hs1 : scan (c :: t) false acc = if isGap c || c == 35 then some (acc, c :: t) else if c == 34 then scan t true acc else scan t false (acc ++ [c]) := by rw [scan]
      have H1 := Lib.hid hs1
      clear hs1
      by_cases hg : isGap c = true
      · go_wp2_with (first | (go_at_call 32; refine (gap_yes hg _).mono ?_; rintro e w' ⟨rfl, rfl⟩) | (go_at_call 18; refine (string_any w.heap.size _ acc _ hbd hbw.size).mono ?_; rintro e w1 ⟨rfl, hb1⟩))
        rw [Exit.noGoto_ret]
        go_ret3
        exact ⟨by rw [wordV, HS.out, H1.out, hg]; rfl, hbw.trans hb1⟩
      · have hg' : isGap c = false := by simpa using hg
        clear hg
        by_cases hc : c = 35
        · have h35 : ((c.toNat : Int) == 35) = true := by subst hc; rfl
          have HC := Lib.hid hc
          clear hc
          go_wp2_with (first | (go_at_call 32; refine (gap_no hg' _).mono ?_; rintro e w' ⟨rfl, rfl⟩) | (go_at_call 18; refine (string_any w.heap.size _ acc _ hbd hbw.size).mono ?_; rintro e w1 ⟨rfl, hb1⟩))
          rw [Exit.noGoto_ret]
          go_ret3
          exact ⟨by rw [wordV, HS.out, H1.out, hg', HC.out]; rfl, hbw.trans hb1⟩
        · have h35 : ((c.toNat : Int) == 35) = false := by
            rw [beq_eq_false_iff_ne]; intro h; exact hc (u8_of (by have e35 : (35 : UInt8).toNat = 35 := rfl; omega))
          have hc' : (c == 35) = false := beq_eq_false_iff_ne.2 hc
          have HC := Lib.hid hc'
          clear hc' hc
          by_cases hq : c = 34
          · have h34 : ((c.toNat : Int) == 34) = true := by subst hq; rfl
            have HQ := Lib.hid hq
            clear hq
            have hcs : t.length < 4294967281 := by simp at hl; omega
            have hGr := hG.below' hbw
            cases hcut : cutQ t with
            | none =>
              have HT := Lib.hid hcut
              clear hcut
              go_wp2_with (first | (go_at_call 32; refine (gap_no hg' _).mono ?_; rintro e w' ⟨rfl, rfl⟩) | (go_at_call 33; refine (cut_no hGr hcs HT.out).mono ?_; rintro e w1 ⟨rfl, hb1⟩))
              rw [Exit.noGoto_ret]
              go_ret3
              exact ⟨by rw [wordV, HS.out, H1.out, hg', HC.out, HQ.out, scan_quote, HT.out]; rfl, hbw.trans (hb1.mono hbw.size)⟩
            | some p =>
              obtain ⟨a, b⟩ := p
              have HT := Lib.hid hcut
              clear hcut
              have hle := cutQ_length HT.out
              have hap : (Lib.byteCells acc).length + (⟨a.toArray⟩ : ByteArray).size ≤ 140737488355328 := by rw [Lib.byteCells_length]; simp [ByteArray.size] at hl ⊢; omega
              go_wp2_with (first | (go_at_call 32; refine (gap_no hg' _).mono ?_; rintro e w' ⟨rfl, rfl⟩) | (go_at_call 33; refine (cut_yes hGr hcs HT.out).mono ?_; rintro e w1 ⟨rfl, hb1⟩) | (go_at_call 17; refine (writeString_any w.heap.size _ _ _ _ (hbd.below hb1 (Nat.le_refl _)) hap (Nat.le_trans hbw.size hb1.size)).mono ?_; rintro e w2 ⟨rfl, hbd2, hb2⟩))
              go_roundg b.length
              case measure => simp at hn; omega
              case rel => exact ⟨b, acc ++ a, rfl, Nat.le_refl _, by simp at hl ⊢; omega, by rw [HS.out, H1.out, hg', HC.out, HQ.out, scan_quote, HT.out]; rfl, by rw [byteCells_app]; exact .inr hbd2, (hbw.trans (hb1.mono hbw.size)).trans hb2⟩
          · have h34 : ((c.toNat : Int) == 34) = false := by
              rw [beq_eq_false_iff_ne]; intro h; exact hq (u8_of (by have e34 : (34 : UInt8).toNat = 34 := rfl; omega))
            have hq' : (c == 34) = false := beq_eq_false_iff_ne.2 hq
            have HQ := Lib.hid hq'
            clear hq' hq
            have hap : (Lib.byteCells acc).length + 1 ≤ 140737488355328 := by rw [Lib.byteCells_length]; simp at hl; omega
            go_wp2_with (first | (go_at_call 32; refine (gap_no hg' _).mono ?_; rintro e w' ⟨rfl, rfl⟩) | (go_at_call 34; refine (writeByte_any w.heap.size _ _ _ _ hbd hap hbw.size).mono ?_; rintro e w2 ⟨rfl, hbd2, hb2⟩))
            go_roundg t.length
            case measure => simp at hn; omega
            case rel => exact ⟨t, acc ++ [c], rfl, Nat.le_refl _, by simp at hl ⊢; omega, by rw [HS.out, H1.out, hg', HC.out, HQ.out]; rfl, by rw [byteCells_snoc]; exact .inr hbd2, hbw.trans hb2⟩

theorem word_yes {s a b : Bytes} {w : World} (hG : Glob w) (hs : s.length ≤ 100000) (h : scan s false [] = some (a, b)) :
    Calls Tryd.prog 22 #[.string ⟨s.toArray⟩] w fun e w' => e = .returned (.tuple #[.string ⟨a.toArray⟩, .string ⟨b.toArray⟩, .bool true]) ∧ Below w.heap.size w w' := by
  have := word_any s w hG hs
  unfold wordV at this
  rwa [h] at this
theorem word_no {s : Bytes} {w : World} (hG : Glob w) (hs : s.length ≤ 100000) (h : scan s false [] = none) :
    Calls Tryd.prog 22 #[.string ⟨s.toArray⟩] w fun e w' => e = .returned (.tuple #[.string ⟨#[]⟩, .string ⟨#[]⟩, .bool false]) ∧ Below w.heap.size w w' := by
  have := word_any s w hG hs
  unfold wordV at this
  rwa [h] at this

end Go.Proofs.YtgofleplmnibbaaDoor
