/-
  lines.Era: the walk.
-/
import Derived.Test.YtgofleplmnibbaaGreatDoorLinZ
namespace Go.Proofs.YtgofleplmnibbaaGreatDoor.Lex

def eraOf (ws : List Bytes) (en : Bool) : EraV := ⟨(spanL (ws.getD 0 [])).1, if dashy (ws.getD 1 []) then [] else ws.getD 1 [], if dashy (ws.getD 1 []) then (spanL (ws.getD 1 [])).1 else 0, ws.getD 2 [], en, (yearL (ws.getD 3 [])).1, (monthN (ws.getD 4 [])).1, (dayN (ws.getD 5 [])).1, (dayN (ws.getD 5 [])).2.1, (dayN (ws.getD 5 [])).2.2.1, (clockN (ws.getD 6 [])).1, (clockN (ws.getD 6 [])).2.1⟩
def eraEr (ws : List Bytes) : Nat → Int := errs [(spanL (ws.getD 0 [])).2, if dashy (ws.getD 1 []) then (spanL (ws.getD 1 [])).2 else if setNameF (ws.getD 1 []) then 0 else 23, if formatF (ws.getD 2 []) then 0 else 12, (yearL (ws.getD 3 [])).2, (monthN (ws.getD 4 [])).2, (dayN (ws.getD 5 [])).2.2.2, (clockN (ws.getD 6 [])).2.2]
/-- An era, and what is wrong. -/
def eraN (ws : List Bytes) : EraV × Int :=
  if ws.length < 3 ∨ 7 < ws.length then (eraZ, 14)
  else if firstE (eraEr ws) ws.length = 0 then (if 3 < ws.length then eraAt (eraOf ws true) 1 ws.length else eraAt (eraOf ws false) 0 ws.length, 0)
  else (eraZ, firstE (eraEr ws) ws.length)

end Go.Proofs.YtgofleplmnibbaaGreatDoor.Lex
namespace Go.Proofs.YtgofleplmnibbaaGreatDoor
open Go.RowKit Go.Shelf Lex

theorem cells12 {w : World} {b : Nat} {T : TypeId} {R : EraV} (h : w.heap[b]? = some (.cells (eraC R) T (0, 0))) :
    (w.cell? ⟨b, 0, none⟩ = some (.int .i64 R.of) ∧ w.cell? ⟨b, 1, none⟩ = some (.string ⟨R.ru.toArray⟩) ∧ w.cell? ⟨b, 2, none⟩ = some (.int .i64 R.sv) ∧ w.cell? ⟨b, 3, none⟩ = some (.string ⟨R.fo.toArray⟩) ∧ w.cell? ⟨b, 4, none⟩ = some (.bool R.en) ∧ w.cell? ⟨b, 5, none⟩ = some (.int .i64 R.yr) ∧ w.cell? ⟨b, 6, none⟩ = some (.int .i64 R.mo) ∧ w.cell? ⟨b, 7, none⟩ = some (.int .i64 R.kd) ∧ w.cell? ⟨b, 8, none⟩ = some (.int .i64 R.wk) ∧ w.cell? ⟨b, 9, none⟩ = some (.int .i64 R.dn) ∧ w.cell? ⟨b, 10, none⟩ = some (.int .i64 R.sc) ∧ w.cell? ⟨b, 11, none⟩ = some (.int .i64 R.ck)) ∧ ∀ i, w.frozen? ⟨b, i, none⟩ = false :=
  ⟨⟨blk_cell h rfl, blk_cell h rfl, blk_cell h rfl, blk_cell h rfl, blk_cell h rfl, blk_cell h rfl, blk_cell h rfl, blk_cell h rfl, blk_cell h rfl, blk_cell h rfl, blk_cell h rfl, blk_cell h rfl⟩, fun i => Lib.frozen_of_heap h i⟩
theorem era_sets {W : World} {b : Nat} {R : EraV} {T : TypeId} (v0 v1 v2 v3 v4 v5 v6 v7 v8 v9 v10 v11 : Value) (h : W.heap[b]? = some (.cells (eraC R) T (0, 0))) : ((((((((((((W.setCell ⟨b, 0, none⟩ v0).setCell ⟨b, 1, none⟩ v1).setCell ⟨b, 2, none⟩ v2).setCell ⟨b, 3, none⟩ v3).setCell ⟨b, 4, none⟩ v4).setCell ⟨b, 5, none⟩ v5).setCell ⟨b, 6, none⟩ v6).setCell ⟨b, 7, none⟩ v7).setCell ⟨b, 8, none⟩ v8).setCell ⟨b, 9, none⟩ v9).setCell ⟨b, 10, none⟩ v10).setCell ⟨b, 11, none⟩ v11).heap[b]? = some (.cells #[v0, v1, v2, v3, v4, v5, v6, v7, v8, v9, v10, v11] T (0, 0)) := by
  have := blk_set 11 v11 (blk_set 10 v10 (blk_set 9 v9 (blk_set 8 v8 (blk_set 7 v7 (blk_set 6 v6 (blk_set 5 v5 (blk_set 4 v4 (blk_set 3 v3 (blk_set 2 v2 (blk_set 1 v1 (blk_set 0 v0 (h))))))))))))
  simpa only [eraC, List.setIfInBounds_toArray, List.set_cons_succ, List.set_cons_zero] using this
theorem eraRet {W : World} {b : Nat} {R : EraV} {e : Int} {tmps : Array Value} {Q : Ending → World → Prop} (h2 : tmps.getD 2 undef = .pointer (some ⟨b, 0, none⟩)) (h3 : tmps.getD 3 undef = .int .i64 e)
    (hb : W.heap[b]? = some (.cells (eraC R) 40 (0, 0))) (hR : Q (.returned (.tuple #[.agg (eraC R), .int .i64 e])) W) :
    bodyPost Tryz.prog Tryz.f21 Q .ret { tmps := tmps, defers := [] } W := by
  obtain ⟨⟨c0, c1, c2, c3, c4, c5, c6, c7, c8, c9, c10, c11⟩, _⟩ := cells12 hb
  refine bodyPost_ret_by ?_ rfl hR
  rw [results_cell_tmp rfl, h2, h3]
  simp [go_sem, eraC, c0, c1, c2, c3, c4, c5, c6, c7, c8, c9, c10, c11]

theorem getD_of {ws : List Bytes} {k : Nat} {x : Bytes} (h : ws[k]? = some x) : ws.getD k [] = x := by rw [List.getD_eq_getElem?_getD, h]; rfl

set_option maxHeartbeats 2000000 in
set_option maxRecDepth 100000 in
theorem era_firstN (w : World) (hG : Glob w) (A : Option Addr) (c : Nat) (ws : List Bytes) (en : Bool) (i1 : Int) (h7 : ws.length ≤ 7) (hS : Strs 0 w (.slice A ws.length c) ws) (hx : ∀ x ∈ ws, x.length ≤ 50000) (hF : ∀ x ∈ ws, FoldAt x) :
    Calls Tryz.prog 43 #[.pointer (some ⟨w.heap.size + 2, 0, none⟩), .slice (some ⟨w.heap.size + 17, 0, none⟩) 7 7] (allocs w (eraObjs w (eraOf ws en) i1 A ws.length c)).drew fun e w' => ∃ er, e = .returned (.int .i64 er) ∧ Below w.heap.size w w' ∧ w'.heap[w.heap.size]? = some (.cells (eraC eraZ) 40 (0, 0)) ∧ firstE (eraEr ws) ws.length = er ∧ (er = 0 → w'.heap[w.heap.size + 1]? = some (.cells (eraC (eraAt (eraOf ws en) i1 ws.length)) 40 (0, 0))) := by
  have hl : ∀ x ∈ ws, x.length ≤ 100000 := fun x hm => Nat.le_trans (hx x hm) (by decide)
  have mm : ∀ {k : Nat} {x : Bytes}, ws[k]? = some x → x ∈ ws := fun h => List.mem_of_getElem? h
  refine era_first w hG A ws.length c ws rfl h7 hS hl _ _ _ _ en _ _ _ _ _ _ _ i1 _ _ _ _ _ _ _ ?_ ?_ ?_ ?_ ?_ ?_ ?_ _ rfl _ rfl
  · intro x h; rw [getD_of h]; exact fun W hW => spanL_any x W hW (hl x (mm h))
  · intro x h
    rw [getD_of h]
    cases hd : dashy x with
    | true => exact .inl ⟨rfl, rfl, rfl, rfl⟩
    | false => exact .inr ⟨rfl, rfl, rfl, rfl⟩
  · intro x h; rw [getD_of h]; exact ⟨rfl, fun W hW => format_any x W hW (hx x (mm h))⟩
  · intro x h; rw [getD_of h]; exact fun W hW => yearL_any x W hW (hl x (mm h))
  · intro x h; rw [getD_of h]; exact fun W hW => month_any x W hW (hl x (mm h))
  · intro x h; rw [getD_of h]; exact fun W hW => dayParse_any x W hW (hl x (mm h)) (hF x (mm h))
  · intro x h; rw [getD_of h]; exact fun W hW => clockParse_any x W hW (hl x (mm h))

set_option maxHeartbeats 8000000 in
set_option maxRecDepth 100000 in
theorem era_any (ws : List Bytes) (v : Value) (w : World) (hG : Glob w) (hS : Strs 0 w v ws) (hx : ∀ x ∈ ws, x.length ≤ 50000) (hF : ∀ x ∈ ws, FoldAt x) :
    Calls Tryz.prog 21 #[v] w fun e w' => e = .returned (.tuple #[.agg (eraC (eraN ws).1), .int .i64 (eraN ws).2]) ∧ Below w.heap.size w w' := by
  obtain ⟨A, c, rfl⟩ := strs_form hS
  obtain ⟨res, HR⟩ : ∃ res, Hid (eraN ws = res) := ⟨_, Lib.hid rfl⟩
  rw [HR.out]
  obtain ⟨m, hn⟩ : ∃ m : Nat, Hid (1 ≤ m) := ⟨9, Lib.hid (by omega)⟩
  have hmix : Tryz.prog.follows .mixedOrders = true := by kernel_rfl
  by_cases h3 : ws.length < 3
  · have HX : Hid ((eraZ, (14 : Int)) = res) := Lib.hid (by rw [← HR.out]; unfold eraN; rw [if_pos (.inl h3)])
    have h3' : (ws.length : Int) < 3 := by omega
    go_enter Tryz.func21, Tryz.ntmps21
    go_wp2_with fail
    refine eraRet rfl rfl (R := eraZ) (World.alloc_heap_new _ _) ?_
    exact ⟨by rw [← HX.out], (Below.refl _ w).alloc (Nat.le_refl _) _⟩
  · have h3' : ¬ (ws.length : Int) < 3 := by omega
    by_cases h7 : 7 < ws.length
    · have HX : Hid ((eraZ, (14 : Int)) = res) := Lib.hid (by rw [← HR.out]; unfold eraN; rw [if_pos (.inr h7)])
      have h7' : (7 : Int) < ws.length := by omega
      go_enter Tryz.func21, Tryz.ntmps21
      go_wp2_with fail
      refine eraRet rfl rfl (R := eraZ) (World.alloc_heap_new _ _) ?_
      exact ⟨by rw [← HX.out], (Below.refl _ w).alloc (Nat.le_refl _) _⟩
    · have h7' : ¬ (7 : Int) < ws.length := by omega
      by_cases h4 : 3 < ws.length
      · have h4' : (3 : Int) < ws.length := by omega
        have HFI := Lib.hid (era_firstN w hG A c ws true 1 (by omega) hS hx hF)
        have HX0 : Hid ((if firstE (eraEr ws) ws.length = 0 then (eraAt (eraOf ws true) 1 ws.length, (0 : Int)) else (eraZ, firstE (eraEr ws) ws.length)) = res) := Lib.hid (by rw [← HR.out]; unfold eraN; rw [if_neg (show ¬ (ws.length < 3 ∨ 7 < ws.length) from by omega), if_pos (show 3 < ws.length from h4)])
        clear hx hF hS HR h3 h7 h4
        refine (callsIn_wide (n := m)).1 ?_
        refine callsIn_of_wp Tryz.func21 rfl trivial ?_ rfl
        simp only [Tryz.ntmps21, List.size_toArray, List.length_cons, List.length_nil, Nat.reduceAdd, Nat.reduceSub, Array.replicate_succ, Array.replicate_zero, List.push_toArray, List.append_toArray, List.nil_append, List.cons_append]
        gi_wp2_with fail
        first | gi_region_with_o (first
          | (refine wide_call (valueInt_make _ _ _ _) ?_; rintro e W ⟨rfl, rfl⟩)
          | (refine wide_call (valueStr_make _ _ _ _) ?_; rintro e W ⟨rfl, rfl⟩)
          | (refine wide_call (name_make _ _ _) ?_; rintro e W ⟨rfl, rfl⟩)
          | (refine wide_call (valueDay_make _ _ _ _) ?_; rintro e W ⟨rfl, rfl⟩)
          | (refine wide_call (valueClk_make _ _ _ _) ?_; rintro e W ⟨rfl, rfl⟩)
          | (refine wide_call HFI.out ?_; rintro e A' ⟨er, rfl, hB, hr0, hE, hok⟩; have HE := Lib.hid hE; have HOK := Lib.hid hok; have HR0 := Lib.hid hr0; clear hE hok hr0)) | (trace_state; fail)
        clear HFI
        obtain ⟨⟨c0, c1, c2, c3, c4, c5, c6, c7, c8, c9, c10, c11⟩, f0⟩ := cells12 HR0.out
        by_cases he : er = 0
        · have hs := HOK.out he
          obtain ⟨⟨d0, d1, d2, d3, d4, d5, d6, d7, d8, d9, d10, d11⟩, g0⟩ := cells12 hs
          have HX : Hid ((eraAt (eraOf ws true) 1 ws.length, (0 : Int)) = res) := Lib.hid (by rw [← HX0.out, HE.out, if_pos he])
          generalize eraAt (eraOf ws true) 1 ws.length = R9 at *
          subst he
          clear hs
          gi_wp2_with fail
          refine eraRet rfl rfl (R := R9) (era_sets _ _ _ _ _ _ _ _ _ _ _ _ HR0.out) ?_
          exact ⟨by rw [← HX.out], ((((((((((((hB.setCell (p := ⟨w.heap.size, 0, none⟩) (Nat.le_refl _) _).setCell (p := ⟨w.heap.size, 1, none⟩) (Nat.le_refl _) _).setCell (p := ⟨w.heap.size, 2, none⟩) (Nat.le_refl _) _).setCell (p := ⟨w.heap.size, 3, none⟩) (Nat.le_refl _) _).setCell (p := ⟨w.heap.size, 4, none⟩) (Nat.le_refl _) _).setCell (p := ⟨w.heap.size, 5, none⟩) (Nat.le_refl _) _).setCell (p := ⟨w.heap.size, 6, none⟩) (Nat.le_refl _) _).setCell (p := ⟨w.heap.size, 7, none⟩) (Nat.le_refl _) _).setCell (p := ⟨w.heap.size, 8, none⟩) (Nat.le_refl _) _).setCell (p := ⟨w.heap.size, 9, none⟩) (Nat.le_refl _) _).setCell (p := ⟨w.heap.size, 10, none⟩) (Nat.le_refl _) _).setCell (p := ⟨w.heap.size, 11, none⟩) (Nat.le_refl _) _)⟩
        · have heb : (er != 0) = true := by rw [bne_iff_ne]; exact he
          have HX : Hid ((eraZ, er) = res) := Lib.hid (by rw [← HX0.out, HE.out, if_neg he])
          gi_wp2_with fail
          refine eraRet rfl rfl (R := eraZ) (era_sets _ _ _ _ _ _ _ _ _ _ _ _ HR0.out) ?_
          exact ⟨by rw [← HX.out], ((((((((((((hB.setCell (p := ⟨w.heap.size, 0, none⟩) (Nat.le_refl _) _).setCell (p := ⟨w.heap.size, 1, none⟩) (Nat.le_refl _) _).setCell (p := ⟨w.heap.size, 2, none⟩) (Nat.le_refl _) _).setCell (p := ⟨w.heap.size, 3, none⟩) (Nat.le_refl _) _).setCell (p := ⟨w.heap.size, 4, none⟩) (Nat.le_refl _) _).setCell (p := ⟨w.heap.size, 5, none⟩) (Nat.le_refl _) _).setCell (p := ⟨w.heap.size, 6, none⟩) (Nat.le_refl _) _).setCell (p := ⟨w.heap.size, 7, none⟩) (Nat.le_refl _) _).setCell (p := ⟨w.heap.size, 8, none⟩) (Nat.le_refl _) _).setCell (p := ⟨w.heap.size, 9, none⟩) (Nat.le_refl _) _).setCell (p := ⟨w.heap.size, 10, none⟩) (Nat.le_refl _) _).setCell (p := ⟨w.heap.size, 11, none⟩) (Nat.le_refl _) _)⟩
      · have h4' : ¬ (3 : Int) < ws.length := by omega
        have HFI := Lib.hid (era_firstN w hG A c ws false 0 (by omega) hS hx hF)
        have HX0 : Hid ((if firstE (eraEr ws) ws.length = 0 then (eraAt (eraOf ws false) 0 ws.length, (0 : Int)) else (eraZ, firstE (eraEr ws) ws.length)) = res) := Lib.hid (by rw [← HR.out]; unfold eraN; rw [if_neg (show ¬ (ws.length < 3 ∨ 7 < ws.length) from by omega), if_neg (show ¬ 3 < ws.length from h4)])
        clear hx hF hS HR h3 h7 h4
        refine (callsIn_wide (n := m)).1 ?_
        refine callsIn_of_wp Tryz.func21 rfl trivial ?_ rfl
        simp only [Tryz.ntmps21, List.size_toArray, List.length_cons, List.length_nil, Nat.reduceAdd, Nat.reduceSub, Array.replicate_succ, Array.replicate_zero, List.push_toArray, List.append_toArray, List.nil_append, List.cons_append]
        gi_wp2_with fail
        first | gi_region_with_o (first
          | (refine wide_call (valueInt_make _ _ _ _) ?_; rintro e W ⟨rfl, rfl⟩)
          | (refine wide_call (valueStr_make _ _ _ _) ?_; rintro e W ⟨rfl, rfl⟩)
          | (refine wide_call (name_make _ _ _) ?_; rintro e W ⟨rfl, rfl⟩)
          | (refine wide_call (valueDay_make _ _ _ _) ?_; rintro e W ⟨rfl, rfl⟩)
          | (refine wide_call (valueClk_make _ _ _ _) ?_; rintro e W ⟨rfl, rfl⟩)
          | (refine wide_call HFI.out ?_; rintro e A' ⟨er, rfl, hB, hr0, hE, hok⟩; have HE := Lib.hid hE; have HOK := Lib.hid hok; have HR0 := Lib.hid hr0; clear hE hok hr0)) | (trace_state; fail)
        clear HFI
        obtain ⟨⟨c0, c1, c2, c3, c4, c5, c6, c7, c8, c9, c10, c11⟩, f0⟩ := cells12 HR0.out
        by_cases he : er = 0
        · have hs := HOK.out he
          obtain ⟨⟨d0, d1, d2, d3, d4, d5, d6, d7, d8, d9, d10, d11⟩, g0⟩ := cells12 hs
          have HX : Hid ((eraAt (eraOf ws false) 0 ws.length, (0 : Int)) = res) := Lib.hid (by rw [← HX0.out, HE.out, if_pos he])
          generalize eraAt (eraOf ws false) 0 ws.length = R9 at *
          subst he
          clear hs
          gi_wp2_with fail
          refine eraRet rfl rfl (R := R9) (era_sets _ _ _ _ _ _ _ _ _ _ _ _ HR0.out) ?_
          exact ⟨by rw [← HX.out], ((((((((((((hB.setCell (p := ⟨w.heap.size, 0, none⟩) (Nat.le_refl _) _).setCell (p := ⟨w.heap.size, 1, none⟩) (Nat.le_refl _) _).setCell (p := ⟨w.heap.size, 2, none⟩) (Nat.le_refl _) _).setCell (p := ⟨w.heap.size, 3, none⟩) (Nat.le_refl _) _).setCell (p := ⟨w.heap.size, 4, none⟩) (Nat.le_refl _) _).setCell (p := ⟨w.heap.size, 5, none⟩) (Nat.le_refl _) _).setCell (p := ⟨w.heap.size, 6, none⟩) (Nat.le_refl _) _).setCell (p := ⟨w.heap.size, 7, none⟩) (Nat.le_refl _) _).setCell (p := ⟨w.heap.size, 8, none⟩) (Nat.le_refl _) _).setCell (p := ⟨w.heap.size, 9, none⟩) (Nat.le_refl _) _).setCell (p := ⟨w.heap.size, 10, none⟩) (Nat.le_refl _) _).setCell (p := ⟨w.heap.size, 11, none⟩) (Nat.le_refl _) _)⟩
        · have heb : (er != 0) = true := by rw [bne_iff_ne]; exact he
          have HX : Hid ((eraZ, er) = res) := Lib.hid (by rw [← HX0.out, HE.out, if_neg he])
          gi_wp2_with fail
          refine eraRet rfl rfl (R := eraZ) (era_sets _ _ _ _ _ _ _ _ _ _ _ _ HR0.out) ?_
          exact ⟨by rw [← HX.out], ((((((((((((hB.setCell (p := ⟨w.heap.size, 0, none⟩) (Nat.le_refl _) _).setCell (p := ⟨w.heap.size, 1, none⟩) (Nat.le_refl _) _).setCell (p := ⟨w.heap.size, 2, none⟩) (Nat.le_refl _) _).setCell (p := ⟨w.heap.size, 3, none⟩) (Nat.le_refl _) _).setCell (p := ⟨w.heap.size, 4, none⟩) (Nat.le_refl _) _).setCell (p := ⟨w.heap.size, 5, none⟩) (Nat.le_refl _) _).setCell (p := ⟨w.heap.size, 6, none⟩) (Nat.le_refl _) _).setCell (p := ⟨w.heap.size, 7, none⟩) (Nat.le_refl _) _).setCell (p := ⟨w.heap.size, 8, none⟩) (Nat.le_refl _) _).setCell (p := ⟨w.heap.size, 9, none⟩) (Nat.le_refl _) _).setCell (p := ⟨w.heap.size, 10, none⟩) (Nat.le_refl _) _).setCell (p := ⟨w.heap.size, 11, none⟩) (Nat.le_refl _) _)⟩

end Go.Proofs.YtgofleplmnibbaaGreatDoor
