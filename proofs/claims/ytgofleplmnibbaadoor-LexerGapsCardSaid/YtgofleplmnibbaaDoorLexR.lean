/-
  The statement LexerGaps: its plain law and its walk.
-/
import Derived.Test.YtgofleplmnibbaaDoorLexO
namespace Go.Proofs.YtgofleplmnibbaaDoor
open Go.RowKit Go.Shelf Lex

/-- v is a slice of so many integers. -/
def Ints (W : World) (v : Value) (n : Nat) : Prop :=
  ∃ A c, v = .slice A n c ∧ (0 < n → ∃ bk o, A = some ⟨bk, o, none⟩ ∧ bk < W.heap.size ∧ ∀ j, j < n → ∃ z, W.cell? ⟨bk, o + j, none⟩ = some (.int .i64 z))

/-- A pair as the loop lays it. -/
def goodPair (x : Bytes × Bytes) : Prop := (x.1.all isGap = true ∧ x.1 ≠ [] ∧ x.1.length ≤ 3) ∧ badWord x.2 = false ∧ x.2.length ≤ 30
theorem laid_length : ∀ (l : List (Bytes × Bytes)), (∀ x ∈ l, goodPair x) → (laid l).length ≤ 35 * l.length
  | [], _ => by simp [laid]
  | (g, w) :: l, h => by
    have h1 := (h (g, w) (by simp)).1.2.2
    have h2 := (h (g, w) (by simp)).2.2
    have h3 := quoted_length w
    have ih := laid_length l (fun x hx => h x (by simp [hx]))
    simp only [laid, List.length_append, List.length_cons] at *
    omega
theorem laid_snoc (l : List (Bytes × Bytes)) (g w : Bytes) : laid (l ++ [(g, w)]) = laid l ++ (g ++ quoteW w) := by
  rw [laid_append]; simp [laid]

theorem gaps_a {l : List (Bytes × Bytes)} (h : ∀ x ∈ l, goodPair x) (hl : l.length ≤ 20) : wordsF (laid l ++ [32, 32]) = (l.map (·.2), 0) :=
  wordsF_laid l [32, 32] (fun x hx => ⟨(h x hx).1.1, (h x hx).2.1⟩) (fun x hx => (h x (List.mem_of_mem_drop hx)).1.2.1) (ends_gap (by decide)) (by decide +kernel) (by decide) (by omega)
theorem gaps_b {l : List (Bytes × Bytes)} (h : ∀ x ∈ l, goodPair x) (hl : l.length ≤ 20) {c : Bytes} (hc : c.any (inSet [0, 10, 13]) = false) : wordsF (laid l ++ 32 :: 35 :: c) = (l.map (·.2), 0) := by
  refine wordsF_laid l (32 :: 35 :: c) (fun x hx => ⟨(h x hx).1.1, (h x hx).2.1⟩) (fun x hx => (h x (List.mem_of_mem_drop hx)).1.2.1) (ends_gap (by decide)) ?_ ?_ (by omega)
  · rw [wordsL_eq]
    have : skipGaps (32 :: 35 :: c) = 35 :: c := by
      unfold skipGaps
      rw [List.dropWhile_cons_of_pos (by decide), List.dropWhile_cons_of_neg (by decide)]
    rw [this]
    rfl
  · rw [List.any_cons, List.any_cons, hc]; decide
theorem gaps_bad {l c : Bytes} (hc : c.any (inSet [0, 10, 13]) = true) : wordsF (l ++ 32 :: 35 :: c) = ([], 12) := by
  unfold wordsF
  rw [List.any_append, List.any_cons, List.any_cons, hc]
  simp

theorem joinF_bad {x : Bytes} (hb : badWord x = true) : joinF [x] = ([], 12) := by
  unfold joinF; rw [if_neg (by simp), if_pos (by simp [hb])]

theorem not_three (c : UInt8) (h : inSet [0, 10, 13] c = false) : ((c.toNat : Int) == 0) = false ∧ ((c.toNat : Int) == 10) = false ∧ ((c.toNat : Int) == 13) = false := by
  unfold inSet at h
  simp at h
  obtain ⟨h1, h2, h3⟩ := h
  have key : ∀ d : UInt8, c ≠ d → ((c.toNat : Int) == (d.toNat : Int)) = false := fun d hd => by
    rw [beq_eq_false_iff_ne]; intro e; exact hd (u8_of (by omega))
  exact ⟨key 0 h1, key 10 h2, key 13 h3⟩
theorem one_of_three (c : UInt8) (h : inSet [0, 10, 13] c = true) :
    ((c.toNat : Int) == 0) = true ∨ (((c.toNat : Int) == 0) = false ∧ ((c.toNat : Int) == 10) = true) ∨ (((c.toNat : Int) == 0) = false ∧ ((c.toNat : Int) == 10) = false ∧ ((c.toNat : Int) == 13) = true) := by
  unfold inSet at h
  simp at h
  rcases h with rfl | rfl | rfl <;> decide

attribute [local go_sem] ba_get in
set_option maxHeartbeats 8000000 in
set_option maxRecDepth 100000 in
theorem gaps_main (ws : List Bytes) (A B : Option Addr) (c d n : Nat) (cm : Bytes) (w : World) (hG : Glob w) (hS : Strs 0 w (.slice A ws.length c) ws) (hI : Ints w (.slice B n d) n) (hn : ws.length ≤ 20) (hc : cm.length ≤ 40) :
    Calls Tryd.prog 4 #[.slice A ws.length c, .slice B n d, .string ⟨cm.toArray⟩] w (TrueBelow w) := by
  have hn' : ¬ (20 : Int) < ws.length := by omega
  have hc' : ¬ (40 : Int) < cm.length := by omega
  go_enter Tryd.func4, Tryd.ntmps4
  go_wp2_with fail
  go_loopg [7, 8] (ws.length) (fun g s i wr => ∃ k : Nat, k ≤ ws.length ∧ ws.length - k ≤ g ∧ i = .int .i64 k ∧ (∃ gs : List (Bytes × Bytes), gs.length = k ∧ gs.map (·.2) = ws.take k ∧ (∀ x ∈ gs, goodPair x) ∧ s = .string ⟨(laid gs).toArray⟩) ∧ Below w.heap.size w wr)
  case atStart => exact ⟨0, by omega, by omega, rfl, ⟨[], rfl, rfl, by simp, rfl⟩, Below.refl _ _⟩
  case round =>
    obtain ⟨k, hk, hg, rfl, ⟨gs, hgl, hgm, hgood, rfl⟩, hbr⟩ := hrel
    have HGM := Lib.hid hgm
    have HGOOD := Lib.hid hgood
    have HGL := Lib.hid hgl
    clear hgm hgood hgl
    have hSr := hS.below hbr
    have hGr := hG.below' hbr
    by_cases hlt : k < ws.length
    · obtain ⟨bk, o, rfl, hbk, hcell⟩ := strs_at hSr hlt
      have hli : (k : Int) < ws.length := by omega
      generalize hxe : ws[k] = x at *
      have HXE := Lib.hid hxe
      clear hxe
      by_cases hx : 30 < x.length
      · have hx' : (30 : Int) < x.length := by omega
        go_wp2_with fail
        refine (awake_any _ hGr).mono ?_
        rintro e w1 ⟨rfl, hb1⟩
        go_wp2_with fail
        go_ret
        exact ⟨rfl, hbr.trans (hb1.mono hbr.size)⟩
      · have hx' : ¬ (30 : Int) < x.length := by omega
        have hA : Below wr.heap.size wr (wr.alloc (.cells #[.string ⟨x.toArray⟩] 9)) := (Below.refl _ _).alloc (Nat.le_refl _) _
        cases hb : badWord x with
        | true =>
          have HJ := Lib.hid (joinF_bad hb)
          go_wp2_with fail
          refine (join_at (strs_lit wr 9 [x] (by simp [maxLen])) (fun y hy => by rw [List.mem_singleton] at hy; subst hy; omega) HJ.out).mono ?_
          rintro e w1 ⟨rfl, hb1⟩
          have hB1 := hbr.trans ((hA.trans (hb1.mono hA.size)).mono hbr.size)
          have hG1 := hG.below' hB1
          go_wp2_with fail
          refine (awake_any _ hG1).mono ?_
          rintro e w2 ⟨rfl, hb2⟩
          go_wp2_with fail
          go_ret
          exact ⟨rfl, hB1.trans (hb2.mono hB1.size)⟩
        | false =>
          have HJ := Lib.hid (joinF_one hb)
          go_wp2_with fail
          refine (join_at (strs_lit wr 9 [x] (by simp [maxLen])) (fun y hy => by rw [List.mem_singleton] at hy; subst hy; omega) HJ.out).mono ?_
          rintro e w1 ⟨rfl, hb1⟩
          have hB1 := hbr.trans ((hA.trans (hb1.mono hA.size)).mono hbr.size)
          clear hA hb1 hSr hGr hcell
          have done : ∀ g : Bytes, g.all isGap = true ∧ g ≠ [] ∧ g.length ≤ 3 → ∃ k' : Nat, k' ≤ ws.length ∧ ws.length - k' ≤ ws.length - (k + 1) ∧ Value.int .i64 ((k : Int) + 1) = .int .i64 k' ∧ (∃ gs' : List (Bytes × Bytes), gs'.length = k' ∧ gs'.map (·.2) = ws.take k' ∧ (∀ x ∈ gs', goodPair x) ∧ Value.string ⟨(laid gs ++ (g ++ quoteW x)).toArray⟩ = .string ⟨(laid gs').toArray⟩) ∧ Below w.heap.size w w1 := fun g hgap =>
            ⟨k + 1, by omega, by omega, by go_num, ⟨gs ++ [(g, x)], by simp [HGL.out], by rw [List.map_append, HGM.out, List.take_succ_eq_append_getElem hlt, HXE.out]; rfl, fun y hy => by
              rcases List.mem_append.1 hy with hy | hy
              · exact HGOOD.out y hy
              · rw [List.mem_singleton] at hy; subst hy; exact ⟨hgap, hb, by show x.length ≤ 30; omega⟩, by rw [laid_snoc]⟩, hB1⟩
          have HD := Lib.hid done
          clear done
          have hll := laid_length gs HGOOD.out
          rw [HGL.out] at hll
          have hql := quoted_length x
          by_cases hkn : k < n
          · have hkn' : (k : Int) < n := by omega
            obtain ⟨B', d', hv, hI'⟩ := hI
            obtain ⟨bk', o', hBe, hbk', hz⟩ := hI' (by omega)
            obtain rfl : B = some ⟨bk', o', none⟩ := by injection hv with e1 e2 e3; rw [e1, hBe]
            clear hv hI' hBe
            obtain ⟨z, hz⟩ := hz k hkn
            have hz1 : w1.cell? ⟨bk', o' + k, none⟩ = some (.int .i64 z) := (hB1.cell (p := ⟨bk', o' + k, none⟩) hbk').trans hz
            clear hz
            have a0 := fun X => str_add (P := Tryd.prog) (laid gs) [32] (by simp; omega) X
            have a1 := fun X => str_add (P := Tryd.prog) (laid gs ++ [32]) (quoteW x) (by simp; omega) X
            have b0 := fun X => str_add (P := Tryd.prog) (laid gs) [9] (by simp; omega) X
            have b1 := fun X => str_add (P := Tryd.prog) (laid gs ++ [9]) (quoteW x) (by simp; omega) X
            have c0 := fun X => str_add (P := Tryd.prog) (laid gs) [32, 9, 32] (by simp; omega) X
            have c1 := fun X => str_add (P := Tryd.prog) (laid gs ++ [32, 9, 32]) (quoteW x) (by simp; omega) X
            simp only [List.append_assoc, List.cons_append, List.nil_append] at a0 a1 b0 b1 c0 c1
            go_wp2_with fail
            · go_roundg (ws.length - (k + 1))
              case measure => omega
              case rel => exact HD.out [9] (by decide)
            · go_roundg (ws.length - (k + 1))
              case measure => omega
              case rel => exact HD.out [32, 9, 32] (by decide)
            · go_roundg (ws.length - (k + 1))
              case measure => omega
              case rel => exact HD.out [32] (by decide)
          · have hkn' : ¬ (k : Int) < n := by omega
            have a0 := fun X => str_add (P := Tryd.prog) (laid gs) [32] (by simp; omega) X
            have a1 := fun X => str_add (P := Tryd.prog) (laid gs ++ [32]) (quoteW x) (by simp; omega) X
            simp only [List.append_assoc, List.cons_append, List.nil_append] at a0 a1
            go_wp2_with fail
            go_roundg (ws.length - (k + 1))
            case measure => omega
            case rel => exact HD.out [32] (by decide)
    · obtain rfl : k = ws.length := by omega
      have hgw : gs.map (·.2) = ws := by rw [HGM.out, List.take_length]
      have hll := laid_length gs HGOOD.out
      rw [HGL.out] at hll
      have hlen : gs.length ≤ 20 := by rw [HGL.out]; exact hn
      have HA : Hid (wordsF (laid gs ++ [32, 32]) = (ws, 0)) := Lib.hid (by rw [← hgw]; exact gaps_a HGOOD.out hlen)
      have HGW := Lib.hid hgw
      clear hgw
      have a0 := fun X => str_add (P := Tryd.prog) (laid gs) [32, 32] (by simp; omega) X
      have a1 := fun X => str_add (P := Tryd.prog) (laid gs) [32, 35] (by simp; omega) X
      have a2 := fun X => str_add (P := Tryd.prog) (laid gs ++ [32, 35]) cm (by simp; omega) X
      simp only [List.append_assoc, List.cons_append, List.nil_append] at a0 a1 a2
      go_wp2_with fail
      refine (words_at hGr (by simp; omega) HA.out).mono ?_
      rintro e w1 ⟨v1, rfl, hS1, hb1⟩
      have hB1 := hbr.trans (hb1.mono hbr.size)
      have hG1 := hG.below' hB1
      cases hcm : cm.any (inSet [0, 10, 13]) with
      | true =>
        have HB := Lib.hid (gaps_bad (l := laid gs) hcm)
        go_wp2_with fail
        refine (words_at hG1 (by simp; omega) HB.out).mono ?_
        rintro e w2 ⟨v2, rfl, hS2, hb2⟩
        obtain ⟨A2, c2, rfl⟩ := strs_form hS2
        have hB2 := hB1.trans (hb2.mono hB1.size)
        have hG2 := hG.below' hB2
        have hS1' := hS1.below hb2
        have hSw := hS.below hB2
        go_wp2_with fail
        refine (texts_yes hS1' hSw).mono ?_
        rintro e w3 ⟨rfl, hb3⟩
        have hB3 := hB2.trans (hb3.mono hB2.size)
        have hG3 := hG.below' hB3
        clear hS1 hS1' hSw hS2 hb1 hb2 hb3 hG1 hG2 hB1 hB2 hbr hSr hGr
        have HCM := Lib.hid hcm
        clear hcm
        go_wp2_with fail
        go_loopg [17] (cm.length) (fun g i wr => ∃ k : Nat, k ≤ cm.length ∧ cm.length - k ≤ g ∧ i = .int .i64 k ∧ (cm.take k).any (inSet [0, 10, 13]) = false ∧ w3 = wr)
        case atStart => exact ⟨0, by omega, by omega, rfl, rfl, rfl⟩
        case round =>
          obtain ⟨m, hm, hmg, rfl, hmok, rfl⟩ := hrel
          have HM := Lib.hid hmok
          clear hmok
          by_cases hmx : m < cm.length
          · have hmi : (m : Int) < cm.length := by omega
            have HT := Lib.hid (List.take_succ_eq_append_getElem hmx)
            cases hb : inSet [0, 10, 13] cm[m] with
            | true =>
              rcases one_of_three _ hb with t0 | ⟨t0, t1⟩ | ⟨t0, t1, t2⟩
              · clear hb
                go_wp2_with fail
                refine (awake_any _ hG3).mono ?_
                rintro e w4 ⟨rfl, hb4⟩
                go_wp2_with fail
                go_ret
                exact ⟨rfl, hB3.trans (hb4.mono hB3.size)⟩
              · clear hb
                go_wp2_with fail
                refine (awake_any _ hG3).mono ?_
                rintro e w4 ⟨rfl, hb4⟩
                go_wp2_with fail
                go_ret
                exact ⟨rfl, hB3.trans (hb4.mono hB3.size)⟩
              · clear hb
                go_wp2_with fail
                refine (awake_any _ hG3).mono ?_
                rintro e w4 ⟨rfl, hb4⟩
                go_wp2_with fail
                go_ret
                exact ⟨rfl, hB3.trans (hb4.mono hB3.size)⟩
            | false =>
              obtain ⟨t0, t1, t2⟩ := not_three _ hb
              have HB := Lib.hid hb
              clear hb
              go_wp2_with fail
              go_roundg (cm.length - (m + 1))
              case measure => omega
              case rel => exact ⟨m + 1, by omega, by omega, by go_num, by rw [HT.out, List.any_append, HM.out]; simp [HB.out], rfl⟩
          · obtain rfl : m = cm.length := by omega
            have := HM.out
            rw [List.take_length, HCM.out] at this
            cases this
      | false =>
        have HB : Hid (wordsF (laid gs ++ 32 :: 35 :: cm) = (ws, 0)) := Lib.hid (by rw [← HGW.out]; exact gaps_b HGOOD.out hlen hcm)
        go_wp2_with fail
        refine (words_at hG1 (by simp; omega) HB.out).mono ?_
        rintro e w2 ⟨v2, rfl, hS2, hb2⟩
        have hB2 := hB1.trans (hb2.mono hB1.size)
        have hG2 := hG.below' hB2
        have hS1' := hS1.below hb2
        have hSw := hS.below hB2
        go_wp2_with fail
        refine (texts_yes hS1' hSw).mono ?_
        rintro e w3 ⟨rfl, hb3⟩
        have hB3 := hB2.trans (hb3.mono hB2.size)
        have hG3 := hG.below' hB3
        have hS3 := hS2.below hb3
        have hSw3 := hSw.below hb3
        clear hS1 hS1' hSw hS2 hb1 hb2 hb3 hG1 hG2 hB1 hB2 hbr hSr hGr
        have HCM := Lib.hid hcm
        clear hcm
        go_wp2_with fail
        go_loopg [17] (cm.length) (fun g i wr => ∃ k : Nat, k ≤ cm.length ∧ cm.length - k ≤ g ∧ i = .int .i64 k ∧ w3 = wr)
        case atStart => exact ⟨0, by omega, by omega, rfl, rfl⟩
        case round =>
          obtain ⟨m, hm, hmg, rfl, rfl⟩ := hrel
          by_cases hmx : m < cm.length
          · have hmi : (m : Int) < cm.length := by omega
            have hb : inSet [0, 10, 13] cm[m] = false := by
              have := HCM.out
              rw [List.any_eq_false] at this
              simpa using this cm[m] (List.getElem_mem hmx)
            obtain ⟨t0, t1, t2⟩ := not_three _ hb
            clear hb
            go_wp2_with fail
            go_roundg (cm.length - (m + 1))
            case measure => omega
            case rel => exact ⟨m + 1, by omega, by omega, by go_num, rfl⟩
          · obtain rfl : m = cm.length := by omega
            have hmi : ¬ (cm.length : Int) < cm.length := by omega
            go_wp2_with fail
            refine (texts_yes hS3 hSw3).mono ?_
            rintro e w4 ⟨rfl, hb4⟩
            have hB4 := hB3.trans (hb4.mono hB3.size)
            have hG4 := hG.below' hB4
            go_wp2_with fail
            refine (awake_any _ hG4).mono ?_
            rintro e w5 ⟨rfl, hb5⟩
            go_wp2_with fail
            go_ret
            exact ⟨rfl, hB4.trans (hb5.mono hB4.size)⟩

theorem gaps_any (ws : List Bytes) (u v : Value) (n : Nat) (cm : Bytes) (w : World) (hG : Glob w) (hS : Strs 0 w u ws) (hI : Ints w v n) :
    Calls Tryd.prog 4 #[u, v, .string ⟨cm.toArray⟩] w (TrueBelow w) := by
  obtain ⟨A, c, rfl⟩ := strs_form hS
  obtain ⟨B, d, rfl, hI'⟩ := hI
  by_cases hn : 20 < ws.length
  · have hn' : (20 : Int) < ws.length := by omega
    go_enter Tryd.func4, Tryd.ntmps4
    go_wp2_with fail
    refine (awake_any _ hG).mono ?_
    rintro e w1 ⟨rfl, hb1⟩
    go_wp2_with fail
    go_ret
    exact ⟨rfl, hb1⟩
  · have hn' : ¬ (20 : Int) < ws.length := by omega
    by_cases hc : 40 < cm.length
    · have hc' : (40 : Int) < cm.length := by omega
      go_enter Tryd.func4, Tryd.ntmps4
      go_wp2_with fail
      refine (awake_any _ hG).mono ?_
      rintro e w1 ⟨rfl, hb1⟩
      go_wp2_with fail
      go_ret
      exact ⟨rfl, hb1⟩
    · exact gaps_main ws A B c d n cm w hG hS ⟨B, d, rfl, hI'⟩ (by omega) (by omega)

end Go.Proofs.YtgofleplmnibbaaDoor
