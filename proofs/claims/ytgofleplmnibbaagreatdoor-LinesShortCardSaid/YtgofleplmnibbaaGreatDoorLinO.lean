/-
  dayform.Parse.
-/
import Derived.Test.YtgofleplmnibbaaGreatDoorLinN
import Derived.Test.YtgofleplmnibbaaGreatDoorCells
import Derived.Lib.IndexMore
namespace Go.Proofs.YtgofleplmnibbaaGreatDoor.Lex

def lastW : Bytes := [108, 97, 115, 116]
def dayFix (x : Bytes) : Int × Int × Int × Int := if (numDay x).2 = 0 then (0, 0, (numDay x).1, 0) else (0, 0, 0, (numDay x).2)
def dayLast (x : Bytes) : Int × Int × Int × Int := if (findN (x.drop 4) weekdayNames).2 = 0 then (1, (findN (x.drop 4) weekdayNames).1, 0, 0) else (0, 0, 0, (findN (x.drop 4) weekdayNames).2)
def daySign (x : Bytes) (k : Nat) (kind : Int) : Int × Int × Int × Int :=
  if (findN (x.take k) weekdayNames).2 = 0 then (if (numDay (x.drop (k + 2))).2 = 0 then (kind, (findN (x.take k) weekdayNames).1, (numDay (x.drop (k + 2))).1, 0) else (0, 0, 0, (numDay (x.drop (k + 2))).2)) else (0, 0, 0, (findN (x.take k) weekdayNames).2)
/-- Kind, day of the week, number, and what is wrong. -/
def dayN (x : Bytes) : Int × Int × Int × Int :=
  if 0 ≤ (signN x).1 then daySign x (signN x).1.toNat (signN x).2
  else if 4 ≤ x.length ∧ Lib.equalFold (x.take 4) lastW = true then dayLast x else dayFix x
theorem signN_room (x : Bytes) (h : 0 ≤ (signN x).1) : (signN x).1 + 2 ≤ x.length ∧ ((signN x).2 = 2 ∨ (signN x).2 = 3) := by
  have hg := Lib.index_room x [62, 61]
  have hl := Lib.index_room x [60, 61]
  simp only [List.length_cons, List.length_nil] at hg hl
  have eg : idxG x = Lib.index x [62, 61] := rfl
  have el : idxL x = Lib.index x [60, 61] := rfl
  unfold signN at h ⊢
  split
  · rename_i h1
    exact ⟨by have := hl (by omega); simp only; omega, .inr rfl⟩
  · rename_i h1
    rw [if_neg h1] at h
    unfold sign3 at h ⊢
    split
    · exact ⟨by have := hg (by omega); simp only; omega, .inl rfl⟩
    · rename_i h2
      rw [if_neg h2] at h
      simp at h

end Go.Proofs.YtgofleplmnibbaaGreatDoor.Lex
namespace Go.Proofs.YtgofleplmnibbaaGreatDoor
open Go.RowKit Go.Shelf Lex

/-- EqualFold tells of a text's first four bytes what it has to. -/
def FoldAt (x : Bytes) : Prop := 4 ≤ x.length → ∀ w : World, Glob w → Calls Tryz.prog 102 #[.string ⟨(x.take 4).toArray⟩, .string ⟨#[108, 97, 115, 116]⟩] w fun e w' => e = .returned (.bool (Lib.equalFold (x.take 4) lastW)) ∧ Below w.heap.size w w'
theorem foldAt_ascii (x : Bytes) (h : ∀ c ∈ x.take 4, c.toNat < 128) : FoldAt x := by
  intro h4 w hG
  refine (Tryz.strings_EqualFold ⟨(x.take 4).toArray⟩ ⟨#[108, 97, 115, 116]⟩ w (by rw [size_mk, List.length_take]; omega) (fun j b hj => h b (List.mem_of_getElem? hj)) (fun j b hj => by
    have : ∀ b ∈ lastW, b.toNat < 128 := by decide
    exact this b (List.mem_of_getElem? hj))).mono ?_
  rintro e w' ⟨rfl, rfl⟩
  exact ⟨rfl, Below.refl _ _⟩

theorem dayRet {W : World} {b : Nat} {k wk n e : Int} {tmps : Array Value} {R : Ending → World → Prop} (h2 : tmps.getD 2 undef = .pointer (some ⟨b, 0, none⟩)) (h3 : tmps.getD 3 undef = .int .i64 e)
    (hb : W.heap[b]? = some (.cells #[.int .i64 k, .int .i64 wk, .int .i64 n] 30 (0, 0))) (hR : R (.returned (.tuple #[.agg #[.int .i64 k, .int .i64 wk, .int .i64 n], .int .i64 e])) W) :
    bodyPost Tryz.prog Tryz.f52 R .ret { tmps := tmps, defers := [] } W := by
  obtain ⟨⟨c0, c1, c2⟩, _⟩ := cells3 hb
  refine bodyPost_ret_by ?_ rfl hR
  rw [results_cell_tmp rfl, h2, h3]
  simp [go_sem, c0, c1, c2]

attribute [local go_sem] ba_take ba_drop
set_option maxHeartbeats 4000000 in
set_option maxRecDepth 100000 in
theorem dayParse_any (x : Bytes) (w : World) (hG : Glob w) (hx : x.length ≤ 100000) (hF : FoldAt x) :
    Calls Tryz.prog 52 #[.string ⟨x.toArray⟩] w fun e w' => e = .returned (.tuple #[.agg #[.int .i64 (dayN x).1, .int .i64 (dayN x).2.1, .int .i64 (dayN x).2.2.1], .int .i64 (dayN x).2.2.2]) ∧ Below w.heap.size w w' := by
  obtain ⟨r, HR⟩ : ∃ r, Hid (dayN x = r) := ⟨_, Lib.hid rfl⟩
  rw [HR.out]
  obtain ⟨w1, hw1⟩ : ∃ w1, w1 = (w.alloc (.cells #[.int .i64 0, .int .i64 0, .int .i64 0] 30)).alloc (.cells #[.int .i64 0, .int .i64 0, .int .i64 0] 30) := ⟨_, rfl⟩
  have hB1 : Below w.heap.size w w1 := by rw [hw1]; exact ((Below.refl _ w).alloc (Nat.le_refl _) _).alloc (by simp) _
  have hz1 : w.heap.size + 2 ≤ w1.heap.size := by rw [hw1]; simp
  have b0 : w1.heap[w.heap.size]? = some (.cells #[.int .i64 0, .int .i64 0, .int .i64 0] 30 (0, 0)) := by rw [hw1]; exact (Below.heap_alloc _ _ _ (by simp)).trans (World.alloc_heap_new _ _)
  have b1 : w1.heap[w.heap.size + 1]? = some (.cells #[.int .i64 0, .int .i64 0, .int .i64 0] 30 (0, 0)) := by rw [hw1]; have := World.alloc_heap_new (w.alloc (.cells #[.int .i64 0, .int .i64 0, .int .i64 0] 30)) (.cells #[.int .i64 0, .int .i64 0, .int .i64 0] 30); rwa [World.size_alloc] at this
  have hG1 : Glob w1 := hG.below' hB1
  have hS := Lib.hid (sign_any x w1 hG1 hx)
  have hR := Lib.hid (signN_room x)
  have HW1 := Lib.hid hw1
  have HB0 := Lib.hid b0
  have HB1 := Lib.hid b1
  have HD : Hid (dayN x = if 0 ≤ (signN x).1 then daySign x (signN x).1.toNat (signN x).2 else if 4 ≤ x.length ∧ Lib.equalFold (x.take 4) lastW = true then dayLast x else dayFix x) := Lib.hid rfl
  clear hw1 b0 b1
  generalize signN x = sg at *
  obtain ⟨pl, kind⟩ := sg
  simp only at hS hR HD
  by_cases hat : 0 ≤ pl
  · obtain ⟨k, rfl⟩ : ∃ k : Nat, pl = k := ⟨pl.toNat, by omega⟩
    obtain ⟨hkl, hkd⟩ := hR.out hat
    have HD2 : Hid (daySign x k kind = r) := Lib.hid (by rw [← HR.out, HD.out, if_pos hat]; rfl)
    have hkl' : k + 2 ≤ x.length := by omega
    clear HD HR hat hkl hR
    obtain ⟨rw, HRW⟩ : ∃ rw, Hid (findN (x.take k) weekdayNames = rw) := ⟨_, Lib.hid rfl⟩
    obtain ⟨rn, HRN⟩ : ∃ rn, Hid (numDay (x.drop (k + 2)) = rn) := ⟨_, Lib.hid rfl⟩
    have HD3 : Hid ((if rw.2 = 0 then (if rn.2 = 0 then (kind, rw.1, rn.1, (0 : Int)) else (0, 0, 0, rn.2)) else (0, 0, 0, rw.2)) = r) := Lib.hid (by rw [← HD2.out]; unfold daySign; rw [HRW.out, HRN.out])
    obtain ⟨wk, e1⟩ := rw
    obtain ⟨n, e2⟩ := rn
    simp only at HD3
    go_enter Tryz.func52, Tryz.ntmps52
    go_wp2_with fail
    rw [← HW1.out]
    refine hS.out.mono ?_
    rintro e w2 ⟨rfl, rfl⟩
    go_wp2_with fail
    refine (weekday_any (x.take k) w1 hG1 (by rw [List.length_take]; omega)).mono ?_
    rintro e w2 ⟨rfl, hb2⟩
    rw [HRW.out]
    have q0 := (hb2.block _ (show w.heap.size < w1.heap.size by omega)).trans HB0.out
    have q1 := (hb2.block _ (show w.heap.size + 1 < w1.heap.size by omega)).trans HB1.out
    obtain ⟨⟨c0, c1, c2⟩, f0, f1, f2⟩ := cells3 q0
    obtain ⟨⟨d0, d1, d2⟩, g0, g1, g2⟩ := cells3 q1
    have Q0 := Lib.hid q0
    have Q1 := Lib.hid q1
    have hG2 := hG1.below' hb2
    have hB2 := hB1.trans (hb2.mono hB1.size)
    have hz2 := hb2.size
    clear q0 q1 hb2 HB0 HB1 hB1
    by_cases he1 : e1 = 0
    · have HD4 : Hid ((if e2 = 0 then (kind, wk, n, (0 : Int)) else (0, 0, 0, e2)) = r) := Lib.hid (by rw [← HD3.out, if_pos he1])
      subst he1
      clear HD3
      obtain ⟨w3, hw3⟩ : ∃ w3, w3 = w2.setCell ⟨w.heap.size + 1, 1, none⟩ (.int .i64 wk) := ⟨_, rfl⟩
      have q1 := blk_set 1 (.int .i64 wk) Q1.out
      have q0 := (Below.heap_setCell w2 ⟨w.heap.size + 1, 1, none⟩ (.int .i64 wk) w.heap.size (by simp)).trans Q0.out
      have hG3 : Glob w3 := hG.below' (by rw [hw3]; exact hB2.setCell (p := ⟨w.heap.size + 1, 1, none⟩) (by simp) _)
      have hB3 : Below w.heap.size w w3 := by rw [hw3]; exact hB2.setCell (p := ⟨w.heap.size + 1, 1, none⟩) (by simp) _
      have hz3 : w2.heap.size ≤ w3.heap.size := by rw [hw3]; simp [World.setCell]
      rw [← hw3] at q0 q1
      have hsg := hG3.facts.signs
      have s2 := hsg 2 _ rfl
      have s3 := hsg 3 _ rfl
      rw [hw3] at s2 s3
      have HW3 := Lib.hid hw3
      have Q0' := Lib.hid q0
      have Q1' := Lib.hid q1
      clear hw3 hsg q0 q1
      rcases hkd with rfl | rfl
      all_goals
        go_wp2_with fail
        rw [← HW3.out]
        clear c0 c1 c2 f0 f1 f2 d0 d1 d2 g0 g1 g2 s2 s3
        go_wp2_with fail
        refine (dayNumber_any (x.drop (k + 2)) w3 hG3 (by rw [List.length_drop]; omega)).mono ?_
        rintro e w4 ⟨rfl, hb4⟩
        rw [HRN.out]
        have q0 := (hb4.block _ (show w.heap.size < w3.heap.size by omega)).trans Q0'.out
        have q1 := (hb4.block _ (show w.heap.size + 1 < w3.heap.size by omega)).trans Q1'.out
        simp only [List.setIfInBounds_toArray, List.set_cons_succ, List.set_cons_zero] at q1
        obtain ⟨⟨c0, c1, c2⟩, f0, f1, f2⟩ := cells3 q0
        obtain ⟨⟨d0, d1, d2⟩, g0, g1, g2⟩ := cells3 q1
        have Q0 := Lib.hid q0
        have hB4 := hB3.trans (hb4.mono hB3.size)
        clear q0 q1
        by_cases he2 : e2 = 0
        · have HD5 := Lib.hid (show _ = r by rw [← HD4.out, if_pos he2])
          subst he2
          go_wp2_with fail
          refine dayRet rfl rfl (blk_set 2 _ (blk_set 1 _ (blk_set 0 _ (blk_other (by simp) (blk_other (by simp) Q0.out))))) ?_
          refine ⟨by rw [← HD5.out], ?_⟩
          exact ((((hB4.setCell (p := ⟨w.heap.size + 1, 2, none⟩) (by simp) _).setCell (p := ⟨w.heap.size + 1, 0, none⟩) (by simp) _).setCell (p := ⟨w.heap.size, 0, none⟩) (by simp) _).setCell (p := ⟨w.heap.size, 1, none⟩) (by simp) _).setCell (p := ⟨w.heap.size, 2, none⟩) (by simp) _
        · have HD5 := Lib.hid (show _ = r by rw [← HD4.out, if_neg he2])
          have heb : (e2 != 0) = true := by rw [bne_iff_ne]; exact he2
          go_wp2_with fail
          refine dayRet rfl rfl (blk_set 2 _ (blk_set 1 _ (blk_set 0 _ (blk_other (by simp) (blk_other (by simp) Q0.out))))) ?_
          refine ⟨by rw [← HD5.out], ?_⟩
          exact ((((hB4.setCell (p := ⟨w.heap.size + 1, 2, none⟩) (by simp) _).setCell (p := ⟨w.heap.size + 1, 0, none⟩) (by simp) _).setCell (p := ⟨w.heap.size, 0, none⟩) (by simp) _).setCell (p := ⟨w.heap.size, 1, none⟩) (by simp) _).setCell (p := ⟨w.heap.size, 2, none⟩) (by simp) _
    · have HD4 : Hid ((0, 0, 0, e1) = r) := Lib.hid (by rw [← HD3.out, if_neg he1])
      have heb : (e1 == 0) = false := beq_eq_false_iff_ne.2 he1
      have heb' : (e1 != 0) = true := by rw [bne_iff_ne]; exact he1
      go_wp2_with fail
      refine dayRet rfl rfl (blk_set 2 _ (blk_set 1 _ (blk_set 0 _ (blk_other (by simp) (blk_other (by simp) Q0.out))))) ?_
      refine ⟨by rw [← HD4.out], ?_⟩
      exact ((((hB2.setCell (p := ⟨w.heap.size + 1, 1, none⟩) (by simp) _).setCell (p := ⟨w.heap.size + 1, 0, none⟩) (by simp) _).setCell (p := ⟨w.heap.size, 0, none⟩) (by simp) _).setCell (p := ⟨w.heap.size, 1, none⟩) (by simp) _).setCell (p := ⟨w.heap.size, 2, none⟩) (by simp) _
  · by_cases h4 : 4 ≤ x.length
    · have h4' : (4 : Int) ≤ x.length := by omega
      have hE := Lib.hid (hF h4 w1 hG1)
      have HD2 : Hid (dayN x = if Lib.equalFold (x.take 4) lastW = true then dayLast x else dayFix x) := Lib.hid (by rw [HD.out, if_neg hat]; simp only [h4, true_and])
      generalize Lib.equalFold (x.take 4) lastW = ef at *
      cases ef with
      | true =>
        have HD3 : Hid (dayLast x = r) := Lib.hid (by rw [← HR.out, HD2.out, if_pos rfl])
        obtain ⟨rw, HRW⟩ : ∃ rw, Hid (findN (x.drop 4) weekdayNames = rw) := ⟨_, Lib.hid rfl⟩
        have HD4 : Hid ((if rw.2 = 0 then (1, rw.1, (0 : Int), (0 : Int)) else (0, 0, 0, rw.2)) = r) := Lib.hid (by rw [← HD3.out]; unfold dayLast; rw [HRW.out])
        obtain ⟨wk, e1⟩ := rw
        simp only at HD4
        clear HD HD2 HD3 HR hR
        have c11 := cells3 HB1.out
        have c00 := cells3 HB0.out
        go_enter Tryz.func52, Tryz.ntmps52
        go_wp2_with fail
        rw [← HW1.out]
        refine hS.out.mono ?_
        rintro e w2 ⟨rfl, rfl⟩
        go_wp2_with fail
        refine hE.out.mono ?_
        rintro e w2 ⟨rfl, hb2⟩
        have q0 := (hb2.block _ (show w.heap.size < w1.heap.size by omega)).trans HB0.out
        have q1 := (hb2.block _ (show w.heap.size + 1 < w1.heap.size by omega)).trans HB1.out
        obtain ⟨⟨c0, c1, c2⟩, f0, f1, f2⟩ := cells3 q0
        obtain ⟨⟨d0, d1, d2⟩, g0, g1, g2⟩ := cells3 q1
        have hG2 := hG1.below' hb2
        have hB2 := hB1.trans (hb2.mono hB1.size)
        have hz2 := hb2.size
        obtain ⟨w3, hw3⟩ : ∃ w3, w3 = w2.setCell ⟨w.heap.size + 1, 0, none⟩ (.int .i64 1) := ⟨_, rfl⟩
        have p1 := blk_set 0 (.int .i64 1) q1
        have p0 := (Below.heap_setCell w2 ⟨w.heap.size + 1, 0, none⟩ (.int .i64 1) w.heap.size (by simp)).trans q0
        have hB3 : Below w.heap.size w w3 := by rw [hw3]; exact hB2.setCell (p := ⟨w.heap.size + 1, 0, none⟩) (by simp) _
        have hG3 : Glob w3 := hG.below' hB3
        have hz3 : w2.heap.size ≤ w3.heap.size := by rw [hw3]; simp [World.setCell]
        rw [← hw3] at p0 p1
        have HW3 := Lib.hid hw3
        have P0 := Lib.hid p0
        have P1 := Lib.hid p1
        clear q0 q1 p0 p1 hb2 HB0 HB1 hB1 hw3 c00 c11
        go_wp2_with fail
        rw [← HW3.out]
        clear c0 c1 c2 f0 f1 f2 d0 d1 d2 g0 g1 g2
        refine (weekday_any (x.drop 4) w3 hG3 (by rw [List.length_drop]; omega)).mono ?_
        rintro e w4 ⟨rfl, hb4⟩
        rw [HRW.out]
        have q0 := (hb4.block _ (show w.heap.size < w3.heap.size by omega)).trans P0.out
        have q1 := (hb4.block _ (show w.heap.size + 1 < w3.heap.size by omega)).trans P1.out
        simp only [List.setIfInBounds_toArray, List.set_cons_zero] at q1
        obtain ⟨⟨c0, c1, c2⟩, f0, f1, f2⟩ := cells3 q0
        obtain ⟨⟨d0, d1, d2⟩, g0, g1, g2⟩ := cells3 q1
        have Q0 := Lib.hid q0
        have hB4 := hB3.trans (hb4.mono hB3.size)
        clear q0 q1
        by_cases he2 : e1 = 0
        · have HD5 := Lib.hid (show _ = r by rw [← HD4.out, if_pos he2])
          subst he2
          go_wp2_with fail
          refine dayRet rfl rfl (blk_set 2 _ (blk_set 1 _ (blk_set 0 _ (blk_other (by simp) Q0.out)))) ?_
          refine ⟨by rw [← HD5.out], ?_⟩
          exact (((hB4.setCell (p := ⟨w.heap.size + 1, 1, none⟩) (by simp) _).setCell (p := ⟨w.heap.size, 0, none⟩) (by simp) _).setCell (p := ⟨w.heap.size, 1, none⟩) (by simp) _).setCell (p := ⟨w.heap.size, 2, none⟩) (by simp) _
        · have HD5 := Lib.hid (show _ = r by rw [← HD4.out, if_neg he2])
          have heb : (e1 != 0) = true := by rw [bne_iff_ne]; exact he2
          go_wp2_with fail
          refine dayRet rfl rfl (blk_set 2 _ (blk_set 1 _ (blk_set 0 _ (blk_other (by simp) Q0.out)))) ?_
          refine ⟨by rw [← HD5.out], ?_⟩
          exact (((hB4.setCell (p := ⟨w.heap.size + 1, 1, none⟩) (by simp) _).setCell (p := ⟨w.heap.size, 0, none⟩) (by simp) _).setCell (p := ⟨w.heap.size, 1, none⟩) (by simp) _).setCell (p := ⟨w.heap.size, 2, none⟩) (by simp) _
      | false =>
        have HD3 : Hid (dayFix x = r) := Lib.hid (by rw [← HR.out, HD2.out, if_neg (by decide)])
        clear HD HD2 HR hR
        go_enter Tryz.func52, Tryz.ntmps52
        go_wp2_with fail
        rw [← HW1.out]
        refine hS.out.mono ?_
        rintro e w2 ⟨rfl, rfl⟩
        go_wp2_with fail
        refine hE.out.mono ?_
        rintro e w2 ⟨rfl, hb2⟩
        have p0 := (hb2.block _ (show w.heap.size < w1.heap.size by omega)).trans HB0.out
        have p1 := (hb2.block _ (show w.heap.size + 1 < w1.heap.size by omega)).trans HB1.out
        have hG2 := hG1.below' hb2
        have hB2 := hB1.trans (hb2.mono hB1.size)
        have hz2 := hb2.size
        have P0 := Lib.hid p0
        have P1 := Lib.hid p1
        clear p0 p1 hb2
        go_wp2_with fail
        obtain ⟨rn, HRN⟩ : ∃ rn, Hid (numDay x = rn) := ⟨_, Lib.hid rfl⟩
        have HD4 : Hid ((if rn.2 = 0 then ((0 : Int), (0 : Int), rn.1, (0 : Int)) else (0, 0, 0, rn.2)) = r) := Lib.hid (by rw [← HD3.out]; unfold dayFix; rw [HRN.out])
        obtain ⟨n, e2⟩ := rn
        simp only at HD4
        refine (dayNumber_any x w2 hG2 hx).mono ?_
        rintro e w4 ⟨rfl, hb4⟩
        rw [HRN.out]
        have q0 := (hb4.block _ (show w.heap.size < w2.heap.size by omega)).trans P0.out
        have q1 := (hb4.block _ (show w.heap.size + 1 < w2.heap.size by omega)).trans P1.out
        obtain ⟨⟨c0, c1, c2⟩, f0, f1, f2⟩ := cells3 q0
        obtain ⟨⟨d0, d1, d2⟩, g0, g1, g2⟩ := cells3 q1
        have Q0 := Lib.hid q0
        have hB4 := hB2.trans (hb4.mono hB2.size)
        clear q0 q1
        by_cases he2 : e2 = 0
        · have HD5 := Lib.hid (show _ = r by rw [← HD4.out, if_pos he2])
          subst he2
          go_wp2_with fail
          refine dayRet rfl rfl (blk_set 2 _ (blk_set 1 _ (blk_set 0 _ (blk_other (by simp) Q0.out)))) ?_
          refine ⟨by rw [← HD5.out], ?_⟩
          exact (((hB4.setCell (p := ⟨w.heap.size + 1, 2, none⟩) (by simp) _).setCell (p := ⟨w.heap.size, 0, none⟩) (by simp) _).setCell (p := ⟨w.heap.size, 1, none⟩) (by simp) _).setCell (p := ⟨w.heap.size, 2, none⟩) (by simp) _
        · have HD5 := Lib.hid (show _ = r by rw [← HD4.out, if_neg he2])
          have heb : (e2 != 0) = true := by rw [bne_iff_ne]; exact he2
          go_wp2_with fail
          refine dayRet rfl rfl (blk_set 2 _ (blk_set 1 _ (blk_set 0 _ (blk_other (by simp) Q0.out)))) ?_
          refine ⟨by rw [← HD5.out], ?_⟩
          exact (((hB4.setCell (p := ⟨w.heap.size + 1, 2, none⟩) (by simp) _).setCell (p := ⟨w.heap.size, 0, none⟩) (by simp) _).setCell (p := ⟨w.heap.size, 1, none⟩) (by simp) _).setCell (p := ⟨w.heap.size, 2, none⟩) (by simp) _
    · have h4' : ¬ (4 : Int) ≤ x.length := by omega
      have HD3 : Hid (dayFix x = r) := Lib.hid (by rw [← HR.out, HD.out, if_neg hat, if_neg (fun h => h4 h.1)])
      clear HD HR hR
      go_enter Tryz.func52, Tryz.ntmps52
      go_wp2_with fail
      rw [← HW1.out]
      refine hS.out.mono ?_
      rintro e w2 ⟨rfl, rfl⟩
      go_wp2_with fail
      have hG2 := hG1
      have hB2 := hB1
      obtain ⟨rn, HRN⟩ : ∃ rn, Hid (numDay x = rn) := ⟨_, Lib.hid rfl⟩
      have HD4 : Hid ((if rn.2 = 0 then ((0 : Int), (0 : Int), rn.1, (0 : Int)) else (0, 0, 0, rn.2)) = r) := Lib.hid (by rw [← HD3.out]; unfold dayFix; rw [HRN.out])
      obtain ⟨n, e2⟩ := rn
      simp only at HD4
      refine (dayNumber_any x w1 hG2 hx).mono ?_
      rintro e w4 ⟨rfl, hb4⟩
      rw [HRN.out]
      have q0 := (hb4.block _ (show w.heap.size < w1.heap.size by omega)).trans HB0.out
      have q1 := (hb4.block _ (show w.heap.size + 1 < w1.heap.size by omega)).trans HB1.out
      obtain ⟨⟨c0, c1, c2⟩, f0, f1, f2⟩ := cells3 q0
      obtain ⟨⟨d0, d1, d2⟩, g0, g1, g2⟩ := cells3 q1
      have Q0 := Lib.hid q0
      have hB4 := hB2.trans (hb4.mono hB2.size)
      clear q0 q1
      by_cases he2 : e2 = 0
      · have HD5 := Lib.hid (show _ = r by rw [← HD4.out, if_pos he2])
        subst he2
        go_wp2_with fail
        refine dayRet rfl rfl (blk_set 2 _ (blk_set 1 _ (blk_set 0 _ (blk_other (by simp) Q0.out)))) ?_
        refine ⟨by rw [← HD5.out], ?_⟩
        exact (((hB4.setCell (p := ⟨w.heap.size + 1, 2, none⟩) (by simp) _).setCell (p := ⟨w.heap.size, 0, none⟩) (by simp) _).setCell (p := ⟨w.heap.size, 1, none⟩) (by simp) _).setCell (p := ⟨w.heap.size, 2, none⟩) (by simp) _
      · have HD5 := Lib.hid (show _ = r by rw [← HD4.out, if_neg he2])
        have heb : (e2 != 0) = true := by rw [bne_iff_ne]; exact he2
        go_wp2_with fail
        refine dayRet rfl rfl (blk_set 2 _ (blk_set 1 _ (blk_set 0 _ (blk_other (by simp) Q0.out)))) ?_
        refine ⟨by rw [← HD5.out], ?_⟩
        exact (((hB4.setCell (p := ⟨w.heap.size + 1, 2, none⟩) (by simp) _).setCell (p := ⟨w.heap.size, 0, none⟩) (by simp) _).setCell (p := ⟨w.heap.size, 1, none⟩) (by simp) _).setCell (p := ⟨w.heap.size, 2, none⟩) (by simp) _

end Go.Proofs.YtgofleplmnibbaaGreatDoor
