/-
  The statement LexerOnce: its plain law and its walk.
-/
import Derived.Test.YtgofleplmnibbaaDoorLexJ
namespace Go.Proofs.YtgofleplmnibbaaDoor
open Go.RowKit Go.Shelf Lex

theorem good_byte {c : UInt8} (h : inSet [0, 10, 13] c = false) (hq : (c == 34) = false) : inSet [0, 10, 13, 34] c = false := by
  unfold inSet at h ⊢
  simp at h hq ⊢
  simp [h, hq]

theorem bad_snoc {acc : Bytes} {c : UInt8} (ha : badWord acc = false) (h : inSet [0, 10, 13] c = false) (hq : (c == 34) = false) : badWord (acc ++ [c]) = false := by
  unfold badWord at ha ⊢
  rw [List.any_append, ha, List.any_cons, good_byte h hq]
  rfl

/-- A word of a line that has no wrong byte has none. -/
theorem scan_good : ∀ {s acc w r : Bytes} {q : Bool}, scan s q acc = some (w, r) → s.any (inSet [0, 10, 13]) = false → badWord acc = false → badWord w = false ∧ r.any (inSet [0, 10, 13]) = false
  | [], acc, w, r, q, h, _, ha => by
    cases q <;> simp [scan] at h
    obtain ⟨rfl, rfl⟩ := h
    exact ⟨ha, rfl⟩
  | c :: t, acc, w, r, true, h, hs, ha => by
    rw [List.any_cons, Bool.or_eq_false_iff] at hs
    unfold scan at h
    split at h
    · exact scan_good h hs.2 ha
    · exact scan_good h hs.2 (bad_snoc ha hs.1 (by rename_i h'; simpa using h'))
  | c :: t, acc, w, r, false, h, hs, ha => by
    have hs' := hs
    rw [List.any_cons, Bool.or_eq_false_iff] at hs
    unfold scan at h
    split at h
    · simp at h
      obtain ⟨rfl, rfl⟩ := h
      exact ⟨ha, hs'⟩
    · split at h
      · exact scan_good h hs.2 ha
      · exact scan_good h hs.2 (bad_snoc ha hs.1 (by rename_i h'; simpa using h'))

theorem wordsN_good : ∀ (n : Nat) (line : Bytes), line.any (inSet [0, 10, 13]) = false → ∀ x ∈ (wordsN n line).1, badWord x = false ∧ x.length ≤ line.length
  | 0, _, _, x, hx => by simp [wordsN] at hx
  | n + 1, line, hl, x, hx => by
    unfold wordsN at hx
    have hk : (skipGaps line).any (inSet [0, 10, 13]) = false := by
      rw [List.any_eq_false] at hl ⊢
      exact fun y hy => hl y (by unfold skipGaps at hy; exact (List.dropWhile_sublist _).subset hy)
    have h2 := skipGaps_length line
    cases hs : skipGaps line with
    | nil => rw [hs] at hx; simp at hx
    | cons c t =>
      rw [hs] at hx hk h2
      simp only at hx
      by_cases hc : (c == 35) = true
      · simp [hc] at hx
      · simp only [hc, Bool.false_eq_true, ↓reduceIte] at hx
        cases hw : scan (c :: t) false [] with
        | none => rw [hw] at hx; simp at hx
        | some p =>
          obtain ⟨w, r⟩ := p
          rw [hw] at hx
          simp only [List.mem_cons] at hx
          obtain ⟨g1, g2⟩ := scan_good hw hk rfl
          have h3 := (scan_length hw).2
          simp only [List.length_nil] at h3
          rcases hx with rfl | hx
          · exact ⟨g1, by omega⟩
          · obtain ⟨k1, k2⟩ := wordsN_good n r g2 x hx
            exact ⟨k1, by omega⟩

theorem wordsF_good {s : Bytes} {l : List Bytes} (h : wordsF s = (l, 0)) : l.length ≤ 32 ∧ l.any badWord = false ∧ ∀ x ∈ l, x.length ≤ s.length := by
  unfold wordsF at h
  split at h
  · exact absurd (Prod.mk.inj h).2 (by decide)
  · rename_i hb
    split at h
    · exact absurd (Prod.mk.inj h).2 (by decide)
    · split at h
      · exact absurd (Prod.mk.inj h).2 (by decide)
      · obtain ⟨rfl, _⟩ := Prod.mk.inj h
        have := wordsN_good (s.length + 1) s (by simpa using hb)
        refine ⟨by omega, ?_, fun x hx => (this x hx).2⟩
        rw [List.any_eq_false]
        exact fun x hx => by rw [(this x hx).1]; simp

theorem wordsF_none {s : Bytes} {l : List Bytes} {n : Int} (h : wordsF s = (l, n)) (hn : n ≠ 0) : l = [] := by
  unfold wordsF at h
  split at h
  · exact (Prod.mk.inj h).1.symm
  · split at h
    · exact (Prod.mk.inj h).1.symm
    · split at h
      · exact (Prod.mk.inj h).1.symm
      · exact absurd (Prod.mk.inj h).2.symm hn

theorem joinF_of {l : List Bytes} (h : l.length ≤ 32) (hb : l.any badWord = false) : joinF l = (Lib.join (l.map quoteW) [32], 0) := by
  unfold joinF; rw [if_neg (by omega), hb]; rfl
theorem joinF_one {x : Bytes} (hb : badWord x = false) : joinF [x] = (quoteW x, 0) := by
  rw [joinF_of (by simp) (by simp [hb])]; simp [Lib.join_one]
theorem wordsF_one {x : Bytes} (hb : badWord x = false) : wordsF (quoteW x) = ([x], 0) := by
  have := wordsF_join [x] (by simp) (by simp [hb])
  simpa [Lib.join_one] using this
theorem joined_length {l : List Bytes} {k : Nat} (h : l.length ≤ 32) (hx : ∀ x ∈ l, x.length ≤ k) : (Lib.join (l.map quoteW) [32]).length ≤ 32 * (k + 3) := by
  have := join_length [32] (k + 2) (l.map quoteW) (fun y hy => by
    obtain ⟨z, hz, rfl⟩ := List.mem_map.1 hy
    have h1 := quoted_length z
    have h2 := hx z hz
    omega)
  simp only [List.length_map, List.length_cons, List.length_nil] at this
  exact Nat.le_trans this (Nat.mul_le_mul h (by omega))

theorem join_at {ws : List Bytes} {J : Bytes} {n : Int} {v : Value} {w : World} {lo : Nat} (hS : Strs lo w v ws) (hsz : ∀ x ∈ ws, x.length ≤ 90000) (h : joinF ws = (J, n)) :
    Calls Tryd.prog 7 #[v] w fun e w' => e = .returned (.tuple #[.string ⟨J.toArray⟩, .int .i64 n]) ∧ Below w.heap.size w w' := by
  refine (Join_any ws v w lo hS hsz).mono ?_
  rintro e w' ⟨rfl, hb⟩
  rw [h]
  exact ⟨rfl, hb⟩

set_option maxHeartbeats 8000000 in
set_option maxRecDepth 100000 in
theorem once_main (s : Bytes) (l : List Bytes) (w : World) (hG : Glob w) (hs : s.length ≤ 300) (hw : wordsF s = (l, 0)) :
    Calls Tryd.prog 5 #[.string ⟨s.toArray⟩] w (TrueBelow w) := by
  have hs' : ¬ (300 : Int) < s.length := by omega
  obtain ⟨h32, hbad, hsz⟩ := wordsF_good hw
  have hj := joinF_of h32 hbad
  have hJl := joined_length h32 (fun x hx => Nat.le_trans (hsz x hx) hs)
  have hb := wordsF_join l h32 hbad
  have HW := Lib.hid hw
  have HBAD := Lib.hid hbad
  have HSZ := Lib.hid hsz
  generalize Lib.join (l.map quoteW) [32] = J at *
  have HJ := Lib.hid hj
  have HB := Lib.hid hb
  clear hw hbad hsz hj hb
  go_enter Tryd.func5, Tryd.ntmps5
  go_wp2_with fail
  refine (words_at hG (by omega) HW.out).mono ?_
  rintro e w1 ⟨v1, rfl, hS1, hb1⟩
  obtain ⟨A, c, rfl⟩ := strs_form hS1
  have hG1 := hG.below' hb1
  go_wp2_with fail
  refine (join_at hS1 (fun x hx => by have := HSZ.out x hx; omega) HJ.out).mono ?_
  rintro e w2 ⟨rfl, hb2⟩
  have hS2 := hS1.below hb2
  have hG2 := hG1.below' hb2
  have hB2 := hb1.trans (hb2.mono hb1.size)
  clear hS1 hb1 hb2 hG1
  go_wp2_with fail
  refine (words_at hG2 (by omega) HB.out).mono ?_
  rintro e w3 ⟨v3, rfl, hS3, hb3⟩
  have hS2' := hS2.below hb3
  have hG3 := hG2.below' hb3
  have hB3 := hB2.trans (hb3.mono hB2.size)
  clear hS2 hb3 hG2 hB2
  go_wp2_with fail
  refine (texts_yes hS2' hS3).mono ?_
  rintro e w4 ⟨rfl, hb4⟩
  have hS4 := (hS2'.below hb4).mono (Nat.zero_le _)
  have hG4 := hG3.below' hb4
  have hB4 := hB3.trans (hb4.mono hB3.size)
  clear hS2' hS3 hb4 hG3 hB3
  go_wp2_with fail
  go_loopg [9] (l.length) (fun g i wr => ∃ k : Nat, k ≤ l.length ∧ l.length - k ≤ g ∧ i = .int .i64 k ∧ Below w4.heap.size w4 wr)
  case atStart => exact ⟨0, by omega, by omega, rfl, Below.refl _ _⟩
  case round =>
    obtain ⟨k, hk, hg, rfl, hbr⟩ := hrel
    have hSr := hS4.below hbr
    have hGr := hG4.below' hbr
    have hBr := hB4.trans (hbr.mono hB4.size)
    by_cases hlt : k < l.length
    · obtain ⟨bk, o, rfl, hbk, hcell⟩ := strs_at hSr hlt
      have hli : (k : Int) < l.length := by omega
      have hx : badWord l[k] = false := by have := HBAD.out; rw [List.any_eq_false] at this; simpa using this l[k] (List.getElem_mem hlt)
      have hxl : l[k].length ≤ 300 := Nat.le_trans (HSZ.out _ (List.getElem_mem hlt)) hs
      generalize hxe : l[k] = x at *
      have HXE := Lib.hid hxe
      clear hxe
      have hql := quoted_length x
      have HJ1 := Lib.hid (joinF_one hx)
      have HW1 := Lib.hid (wordsF_one hx)
      clear hx
      go_wp2_with fail
      have hA : Below wr.heap.size wr (wr.alloc (.cells #[.string ⟨x.toArray⟩] 9)) := (Below.refl _ _).alloc (Nat.le_refl _) _
      refine (join_at (strs_lit wr 9 [x] (by simp [maxLen])) (fun y hy => by rw [List.mem_singleton] at hy; subst hy; omega) HJ1.out).mono ?_
      rintro e w5 ⟨rfl, hb5⟩
      have hb5' := hA.trans (hb5.mono hA.size)
      have hG5 := hGr.below' hb5'
      have hB5 := hbr.trans (hb5'.mono hbr.size)
      have hB5' := hBr.trans (hb5'.mono hBr.size)
      clear hA hb5 hb5' hSr hGr hBr hbr hcell hbk
      go_wp2_with fail
      refine (words_at hG5 (by omega) HW1.out).mono ?_
      rintro e w6 ⟨v6, rfl, hS6, hb6⟩
      have hG6 := hG5.below' hb6
      have hB6 := hB5.trans (hb6.mono hB5.size)
      have hB6' := hB5'.trans (hb6.mono hB5'.size)
      have hSr := hS4.below hB6
      clear hb6 hG5 hB5 hB5'
      obtain ⟨bk', o', hbo, hbk, hcell⟩ := strs_at hSr hlt
      obtain ⟨rfl, rfl⟩ : bk' = bk ∧ o' = o := by
        injection hbo with e
        injection e with e1 e2
        exact ⟨e1.symm, e2.symm⟩
      clear hbo
      rw [HXE.out] at hcell
      go_wp2_with fail
      have hA : Below w6.heap.size w6 (w6.alloc (.cells #[.string ⟨x.toArray⟩] 9)) := (Below.refl _ _).alloc (Nat.le_refl _) _
      refine (texts_yes (hS6.below hA) (strs_lit w6 9 [x] (by simp [maxLen]))).mono ?_
      rintro e w7 ⟨rfl, hb7⟩
      have hb7' := hA.trans (hb7.mono hA.size)
      have hB7 := hB6.trans (hb7'.mono hB6.size)
      clear hA hb7 hb7' hS6 hB6 hB6' hSr hcell
      go_wp2_with fail
      go_roundg (l.length - (k + 1))
      case measure => omega
      case rel => exact ⟨k + 1, by omega, by omega, by go_num, hB7⟩
    · obtain rfl : k = l.length := by omega
      go_wp2_with fail
      refine (awake_any _ hGr).mono ?_
      rintro e w5 ⟨rfl, hb5⟩
      go_wp2_with fail
      go_ret
      exact ⟨rfl, hBr.trans (hb5.mono hBr.size)⟩

theorem once_any (s : Bytes) (w : World) (hG : Glob w) :
    Calls Tryd.prog 5 #[.string ⟨s.toArray⟩] w (TrueBelow w) := by
  by_cases hs : 300 < s.length
  · have hs' : (300 : Int) < s.length := by omega
    go_enter Tryd.func5, Tryd.ntmps5
    go_wp2_with fail
    refine (awake_any _ hG).mono ?_
    rintro e w1 ⟨rfl, hb1⟩
    go_wp2_with fail
    go_ret
    exact ⟨rfl, hb1⟩
  · have hs' : ¬ (300 : Int) < s.length := by omega
    cases hw : wordsF s with
    | mk l n =>
      by_cases h0 : n = 0
      · subst h0
        exact once_main s l w hG (by omega) hw
      · obtain rfl := wordsF_none hw h0
        have hn0 : (n != 0) = true := by rw [bne_iff_ne]; exact h0
        have HW := Lib.hid hw
        clear hw h0
        go_enter Tryd.func5, Tryd.ntmps5
        go_wp2_with fail
        refine (words_at hG (by omega) HW.out).mono ?_
        rintro e w1 ⟨v1, rfl, hS1, hb1⟩
        obtain ⟨A, c, rfl⟩ := strs_form hS1
        have hG1 := hG.below' hb1
        go_wp2_with fail
        refine (awake_any _ hG1).mono ?_
        rintro e w2 ⟨rfl, hb2⟩
        go_wp2_with fail
        go_ret
        exact ⟨rfl, hb1.trans (hb2.mono hb1.size)⟩

end Go.Proofs.YtgofleplmnibbaaDoor
