/-
  The lexer's iterator over a line's words: what it hands to the loop that ranges over it.
-/
import Derived.Test.YtgofleplmnibbaaDoorLexA
import Derived.Test.YtgofleplmnibbaaDoorRange
namespace Go.Proofs.YtgofleplmnibbaaDoor
open Go.RowKit Go.Shelf Lex
attribute [local go_sem] Oper.semAt_some

theorem trim_gaps (s : Bytes) : Lib.trimLeftS s [32, 9] = skipGaps s := by
  unfold Lib.trimLeftS skipGaps
  congr 1
  funext c
  unfold isGap
  by_cases h1 : c = 32 <;> by_cases h2 : c = 9 <;> simp [h1, h2]

theorem trimLeft_any (s : Bytes) (w : World) :
    Calls Tryd.prog 21 #[.string ⟨s.toArray⟩, .string ⟨#[32, 9]⟩] w fun e w' => e = .returned (.string ⟨(skipGaps s).toArray⟩) ∧ Below w.heap.size w w' := by
  refine (Any.strings_TrimLeft_laid Tryd.lays161 (by kernel_rfl) ⟨s.toArray⟩ ⟨#[32, 9]⟩ w (by decide) (ascii_of_all (by decide))).mono ?_
  rintro e w' ⟨rfl, hb⟩
  exact ⟨by rw [← trim_gaps], hb⟩

/-- What the loop over a line's words is handed: each word; behind them, if one is not whole, the empty one and false. -/
def pairs (s : Bytes) : List (Bytes × Bool) := (wordsL s).1.map (·, true) ++ (if (wordsL s).2 then [] else [([], false)])
def encP (x : Bytes × Bool) : Array Value := #[.string ⟨x.1.toArray⟩, .bool x.2]
theorem pairs_none {s : Bytes} (h : skipGaps s = []) : pairs s = [] := by unfold pairs; rw [wordsL_eq, h]; rfl
theorem pairs_hash {s t : Bytes} (h : skipGaps s = 35 :: t) : pairs s = [] := by unfold pairs; rw [wordsL_eq, h]; rfl
theorem pairs_bad {s t : Bytes} {c : UInt8} (h : skipGaps s = c :: t) (hc : (c == 35) = false) (hw : scan (c :: t) false [] = none) : pairs s = [([], false)] := by
  unfold pairs; rw [wordsL_eq, h]; simp only [hc, hw]; rfl
theorem pairs_word {s t w r : Bytes} {c : UInt8} (h : skipGaps s = c :: t) (hc : (c == 35) = false) (hw : scan (c :: t) false [] = some (w, r)) : pairs s = (w, true) :: pairs r := by
  unfold pairs; rw [wordsL_eq, h]; simp only [hc, hw]; rfl

/-- What a round keeps: all below n₀, and the block in which the line lies. -/
def keepL (n₀ b : Nat) (A C : World) : Prop := Below n₀ A C ∧ C.heap[b]? = A.heap[b]?

attribute [local go_sem] ba_head ba_tail ba_tail'
set_option maxHeartbeats 1000000 in
set_option maxRecDepth 100000 in
theorem words1_seq (s : Bytes) (b n₀ n : Nat) (w : World) (hs : s.length ≤ 100000) (hb : w.heap[b]? = some (.cells #[.string ⟨s.toArray⟩] 9 (0, 0))) (hn : n₀ ≤ b) (hN : NG ≤ n₀) (hG : Glob w) :
    SeqV Fence.wide n Tryd.prog 20 #[.pointer (some ⟨b, 0, none⟩)] encP (keepL n₀ b) (fun A C => A.grownBy C (some b)) (fun xs => xs = pairs s) (fun pre => pre <+: pairs s) (pairs s).length w := by
  intro l J Jx W hW hlt hJ hJx hY h0
  have hbl : b < w.heap.size := (Array.getElem?_eq_some_iff.1 hb).1
  have hbW : W.heap[b]? = some (.cells #[.string ⟨s.toArray⟩] 9 (0, 0)) := (hW.block b hbl).trans hb
  have hGW := hG.below' hW
  refine callsIn_of_wp Tryd.func20 rfl trivial ?_ rfl
  simp only [Tryd.ntmps20, List.size_toArray, List.length_cons, List.length_nil, Nat.reduceAdd, Nat.reduceSub, Array.replicate_succ, Array.replicate_zero, List.push_toArray, List.append_toArray, List.nil_append, List.cons_append]
  gi_wp2
  gi_loopg [] (s.length) (fun k wr => ∃ (pre : List (Bytes × Bool)) (t : Bytes), pairs s = pre ++ pairs t ∧ t.length ≤ k ∧ t.length ≤ 100000 ∧ wr.heap[b]? = some (.cells #[.string ⟨t.toArray⟩] 9 (0, 0)) ∧ Glob wr ∧ J pre wr)
  case atStart => exact ⟨[], s, rfl, Nat.le_refl _, hs, hbW, hGW, h0⟩
  case round =>
    obtain ⟨pre, t, hp, hk, ht, hbr, hGr, hj⟩ := hrel
    have hblr : b < wr.heap.size := (Array.getElem?_eq_some_iff.1 hbr).1
    have HP := Lib.hid hp
    clear hp
    have hc0 : wr.cell? ⟨b, 0, none⟩ = some (.string ⟨t.toArray⟩) := by rw [Lib.cell_of_heap hbr]; rfl
    gi_wp2_with fail
    refine wide_call (trimLeft_any t _) ?_
    rintro e w1 ⟨rfl, hb1⟩
    have hbr1 := (hb1.block b hblr).trans hbr
    have hc1 : w1.cell? ⟨b, 0, none⟩ = some (.string ⟨t.toArray⟩) := by rw [Lib.cell_of_heap hbr1]; rfl
    have hf1 : w1.frozen? ⟨b, 0, none⟩ = false := Lib.frozen_of_heap hbr1 0
    have hle := skipGaps_length t
    have hG1 := hGr.below' hb1
    cases hsk : skipGaps t with
    | nil =>
      have HSK := Lib.hid hsk
      gi_wp2_with fail
      refine bodyPost_ret (results_none rfl _ _ _) rfl ?_
      exact ⟨⟨_, rfl⟩, .inl ⟨pre, by rw [HP.out, pairs_none HSK.out, List.append_nil], hJ _ _ _ hj (only_trans (only_below hb1 _) (only_setCell _ _ _ _))⟩⟩
    | cons c t' =>
      have hle' : t'.length + 1 ≤ t.length := by rw [hsk] at hle; exact hle
      by_cases hc : c = 35
      · have h35 : ((c.toNat : Int) == 35) = true := by subst hc; rfl
        have HSK := Lib.hid hsk
        have HC := Lib.hid hc
        clear hc
        gi_wp2_with fail
        refine bodyPost_ret (results_none rfl _ _ _) rfl ?_
        exact ⟨⟨_, rfl⟩, .inl ⟨pre, by rw [HP.out, pairs_hash (by rw [HSK.out, HC.out]), List.append_nil], hJ _ _ _ hj (only_trans (only_below hb1 _) (only_setCell _ _ _ _))⟩⟩
      · have h35 : ((c.toNat : Int) == 35) = false := by
          rw [beq_eq_false_iff_ne]; intro h; exact hc (u8_of (by have e35 : (35 : UInt8).toNat = 35 := rfl; omega))
        have hc' : (c == 35) = false := beq_eq_false_iff_ne.2 hc
        have HC := Lib.hid hc'
        clear hc'
        clear hc
        obtain ⟨w2, hw2⟩ : ∃ w2, w2 = w1.setCell ⟨b, 0, none⟩ (.string ⟨(c :: t').toArray⟩) := ⟨_, rfl⟩
        have hbelow2 : Below b w1 w2 := by rw [hw2]; exact (Below.refl b w1).setCell (p := ⟨b, 0, none⟩) (Nat.le_refl _) _
        have hG2 : Glob w2 := hG1.below hbelow2 (by omega)
        have hb2 : w2.heap[b]? = some (.cells #[.string ⟨(c :: t').toArray⟩] 9 (0, 0)) := by rw [hw2]; exact one_setCell hbr1
        have hj2 : J pre w2 := hJ _ _ _ hj (by rw [hw2]; exact only_trans (only_below hb1 _) (only_setCell _ _ _ _))
        have hs2 : b < w2.heap.size := (Array.getElem?_eq_some_iff.1 hb2).1
        have hc2 : w2.cell? ⟨b, 0, none⟩ = some (.string ⟨(c :: t').toArray⟩) := by rw [Lib.cell_of_heap hb2]; rfl
        have HSK := Lib.hid hsk
        have HW := Lib.hid hw2
        clear hw2
        cases hscan : scan (c :: t') false [] with
        | none =>
          have HSC := Lib.hid hscan
          clear hscan
          have HPR := pairs_bad HSK.out HC.out HSC.out
          gi_wp2_with fail
          rw [← HW.out]
          gi_wp2_with fail
          refine wide_call (word_no hG2 (by simp; omega) HSC.out) ?_
          rintro e w3 ⟨rfl, hb3⟩
          have hb3' := (hb3.block b hs2).trans hb2
          have hj3 : J pre w3 := hJ _ _ _ hj2 (only_below hb3 _)
          have HPL := Lib.hid (congrArg List.length HP.out)
          obtain ⟨fn, tmps, assign, body, hy, hR⟩ := hY pre ([], false) w3 hj3 (by rw [HPL.out, HPR]; simp)
          dsimp only [encP] at hy
          clear HPR
          gi_wp2_with fail
          refine ⟨fun h => absurd h (by decide), hR.mono ?_⟩
          rintro e W' (⟨rfl, hJ', hk⟩ | ⟨rfl, hJx'⟩)
          · gi_wp2_with fail
            refine bodyPost_ret (results_none rfl _ _ _) rfl ?_
            exact ⟨⟨_, rfl⟩, .inl ⟨pre ++ [([], false)], by rw [HP.out, pairs_bad HSK.out HC.out HSC.out], hJ'⟩⟩
          · gi_wp2_with fail
            refine bodyPost_ret (results_none rfl _ _ _) rfl ?_
            exact ⟨⟨_, rfl⟩, .inr ⟨pre ++ [([], false)], by rw [HP.out, pairs_bad HSK.out HC.out HSC.out]; exact List.prefix_refl _, hJx'⟩⟩
        | some q =>
          obtain ⟨x, r⟩ := q
          have HSC := Lib.hid hscan
          clear hscan
          have hrl := scan_less (by rw [skipGaps_head HSK.out, HC.out]; rfl) HSC.out
          have HPR := pairs_word HSK.out HC.out HSC.out
          have HPL := Lib.hid (congrArg List.length HP.out)
          have hlen : pre.length < (pairs s).length := by rw [HPL.out, HPR]; simp
          have HPR' := Lib.hid HPR
          clear HPR
          gi_wp2_with fail
          rw [← HW.out]
          gi_wp2_with fail
          refine wide_call (word_yes hG2 (by simp; omega) HSC.out) ?_
          rintro e w3 ⟨rfl, hb3⟩
          have hb3' := (hb3.block b hs2).trans hb2
          have hj3 : J pre w3 := hJ _ _ _ hj2 (only_below hb3 _)
          obtain ⟨fn, tmps, assign, body, hy, hR⟩ := hY pre (x, true) w3 hj3 hlen
          dsimp only [encP] at hy
          gi_wp2_with fail
          refine ⟨fun h => absurd h (by decide), hR.mono ?_⟩
          rintro e W' (⟨rfl, hJ', hk⟩ | ⟨rfl, hJx'⟩)
          · have hb4 := hk.2.trans hb3'
            have hc4 : W'.cell? ⟨b, 0, none⟩ = some (.string ⟨(c :: t').toArray⟩) := by rw [Lib.cell_of_heap hb4]; rfl
            have hf4 : W'.frozen? ⟨b, 0, none⟩ = false := Lib.frozen_of_heap hb4 0
            have hG4 : Glob W' := (hG2.below' hb3).below hk.1 hN
            clear hk
            gi_wp2_with fail
            go_roundg r.length
            case measure => omega
            case rel => exact ⟨pre ++ [(x, true)], r, by rw [HP.out, HPR'.out]; simp, Nat.le_refl _, by omega, one_setCell hb4, hG4.below ((Below.refl b W').setCell (p := ⟨b, 0, none⟩) (Nat.le_refl _) _) (by omega), hJ _ _ _ hJ' (only_setCell _ _ _ _)⟩
          · gi_wp2_with fail
            refine bodyPost_ret (results_none rfl _ _ _) rfl ?_
            exact ⟨⟨_, rfl⟩, .inr ⟨pre ++ [(x, true)], by rw [HP.out, HPR'.out]; exact ⟨pairs r, by simp⟩, hJx'⟩⟩

set_option maxHeartbeats 400000 in
theorem words_any (s : Bytes) (w : World) :
    Calls Tryd.prog 15 #[.string ⟨s.toArray⟩] w fun e w' => e = .returned (.func (.func 20) #[] #[.pointer (some ⟨w.heap.size, 0, none⟩)]) ∧ w.alloc (.cells #[.string ⟨s.toArray⟩] 9) = w' := by
  go_enter Tryd.func15, Tryd.ntmps15
  go_wp2
  go_ret
  exact ⟨rfl, rfl⟩

end Go.Proofs.YtgofleplmnibbaaDoor
