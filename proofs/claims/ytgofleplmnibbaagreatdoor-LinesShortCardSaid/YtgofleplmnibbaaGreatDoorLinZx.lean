/-
  lines.Zone: the walk.
-/
import Derived.Test.YtgofleplmnibbaaGreatDoorLinZy
namespace Go.Proofs.YtgofleplmnibbaaGreatDoor.Lex

/-- A zone's name, its first era, and what is wrong. -/
def zoneN (ws : List Bytes) : Bytes × EraV × Int :=
  if ws.length < 5 ∨ 9 < ws.length then ([], eraZ, 14)
  else if firstE (errs [if (kindN (ws.getD 0 [])).2 = 0 ∧ (kindN (ws.getD 0 [])).1 = 2 then 0 else 13, if nameF (ws.getD 1 []) then 0 else 23]) 2 = 0 then
    (if (eraN (ws.drop 2)).2 = 0 then (ws.getD 1 [], (eraN (ws.drop 2)).1, 0) else ([], eraZ, (eraN (ws.drop 2)).2))
  else ([], eraZ, firstE (errs [if (kindN (ws.getD 0 [])).2 = 0 ∧ (kindN (ws.getD 0 [])).1 = 2 then 0 else 13, if nameF (ws.getD 1 []) then 0 else 23]) 2)

end Go.Proofs.YtgofleplmnibbaaGreatDoor.Lex
namespace Go.Proofs.YtgofleplmnibbaaGreatDoor
open Go.RowKit Go.Shelf Lex

theorem strs_cut {lo : Nat} {W : World} {bk o n c : Nat} {ws : List Bytes} (h : Strs lo W (.slice (some ⟨bk, o, none⟩) n c) ws) (h2 : 2 < ws.length) :
    n = ws.length ∧ n ≤ c ∧ Strs lo W (.slice (some ⟨bk, o, none⟩) 2 c) (ws.take 2) ∧ Strs lo W (.slice (some ⟨bk, o + 2, none⟩) (n - 2) (c - 2)) (ws.drop 2) := by
  obtain ⟨A', c', hv, hc, hm, hr⟩ := h
  injection hv with e1 e2 e3
  subst e1 e3
  obtain ⟨bk', o', hA, hlo, hlt, hx⟩ := hr (by omega)
  injection hA with hA
  injection hA with e4 e5 e6
  subst e4 e5
  refine ⟨e2, by omega, ⟨_, _, by rw [List.length_take, Nat.min_eq_left (by omega)], by rw [List.length_take]; omega, hm, fun _ => ⟨bk, o, rfl, hlo, hlt, fun j x hj => hx j x ?_⟩⟩, ⟨_, _, by rw [List.length_drop, e2], by rw [List.length_drop]; omega, by omega, fun _ => ⟨bk, o + 2, rfl, hlo, hlt, fun j x hj => ?_⟩⟩⟩
  · rw [List.getElem?_take] at hj
    split at hj
    · exact hj
    · cases hj
  · rw [List.getElem?_drop] at hj
    have := hx (2 + j) x hj
    rwa [show o + (2 + j) = o + 2 + j from by omega] at this

theorem drew_heap {W : World} {b : Nat} {o : Option Obj} (h : W.heap[b]? = o) : W.drew.heap[b]? = o := h
theorem zoneRet {W : World} {b : Nat} {R : EraV} {x : Bytes} {e : Int} {tmps : Array Value} {Q : Ending → World → Prop} (h2 : tmps.getD 2 undef = .string ⟨x.toArray⟩) (h3 : tmps.getD 3 undef = .pointer (some ⟨b, 0, none⟩)) (h4 : tmps.getD 4 undef = .int .i64 e)
    (hb : W.heap[b]? = some (.cells (eraC R) 40 (0, 0))) (hR : Q (.returned (.tuple #[.string ⟨x.toArray⟩, .agg (eraC R), .int .i64 e])) W) :
    bodyPost Tryz.prog Tryz.f23 Q .ret { tmps := tmps, defers := [] } W := by
  obtain ⟨⟨c0, c1, c2, c3, c4, c5, c6, c7, c8, c9, c10, c11⟩, _⟩ := cells12 hb
  simp only [Array.getD_eq_getD_getElem?] at h2 h3 h4
  refine bodyPost_ret_by ?_ rfl hR
  simp [results, Tryz.results23, Sem.run_bind, h2, h3, h4, go_sem, eraC, c0, c1, c2, c3, c4, c5, c6, c7, c8, c9, c10, c11]

set_option maxHeartbeats 4000000 in
set_option maxRecDepth 100000 in
theorem zone_any (ws : List Bytes) (v : Value) (w : World) (hG : Glob w) (hS : Strs 0 w v ws) (hx : ∀ x ∈ ws, x.length ≤ 50000) (hF : ∀ x ∈ ws, FoldAt x) :
    Calls Tryz.prog 23 #[v] w fun e w' => e = .returned (.tuple #[.string ⟨(zoneN ws).1.toArray⟩, .agg (eraC (zoneN ws).2.1), .int .i64 (zoneN ws).2.2]) ∧ Below w.heap.size w w' := by
  obtain ⟨A, c, rfl⟩ := strs_form hS
  obtain ⟨res, HR⟩ : ∃ res, Hid (zoneN ws = res) := ⟨_, Lib.hid rfl⟩
  rw [HR.out]
  by_cases h5 : ws.length < 5
  · have HX : Hid ((([] : Bytes), eraZ, (14 : Int)) = res) := Lib.hid (by rw [← HR.out]; unfold zoneN; rw [if_pos (.inl h5)])
    have h5' : (ws.length : Int) < 5 := by omega
    go_enter Tryz.func23, Tryz.ntmps23
    go_wp2_with fail
    refine zoneRet rfl rfl rfl (R := eraZ) (x := []) (World.alloc_heap_new _ _) ?_
    exact ⟨by rw [← HX.out], (Below.refl _ w).alloc (Nat.le_refl _) _⟩
  · have h5' : ¬ (ws.length : Int) < 5 := by omega
    by_cases h9 : 9 < ws.length
    · have HX : Hid ((([] : Bytes), eraZ, (14 : Int)) = res) := Lib.hid (by rw [← HR.out]; unfold zoneN; rw [if_pos (.inr h9)])
      have h9' : (9 : Int) < ws.length := by omega
      go_enter Tryz.func23, Tryz.ntmps23
      go_wp2_with fail
      refine zoneRet rfl rfl rfl (R := eraZ) (x := []) (World.alloc_heap_new _ _) ?_
      exact ⟨by rw [← HX.out], (Below.refl _ w).alloc (Nat.le_refl _) _⟩
    · obtain ⟨bk, o, rfl⟩ : ∃ bk o, A = some ⟨bk, o, none⟩ := by
        obtain ⟨bk, o, h, _⟩ := strs_at hS (k := 0) (by omega)
        exact ⟨bk, o, h⟩
      have h9' : ¬ (9 : Int) < ws.length := by omega
      obtain ⟨_, hc, hS1, hS2⟩ := strs_cut hS (by omega)
      have ht : ws.take 2 = [ws.getD 0 [], ws.getD 1 []] := by
        match ws, h5 with
        | a :: b :: r, _ => rfl
      rw [ht] at hS1
      have hl : ∀ k, k < ws.length → (ws.getD k []).length ≤ 100000 := fun k hk => by
        rw [List.getD_eq_getElem?_getD, List.getElem?_eq_getElem hk]
        exact Nat.le_trans (hx _ (List.getElem_mem hk)) (by decide)
      have HZ := Lib.hid (zone_first w hG (some ⟨bk, o, none⟩) c (ws.getD 0 []) (ws.getD 1 []) hS1 (hl 0 (by omega)) (hl 1 (by omega)) _ _ rfl rfl _ rfl _ rfl)
      have HE2 := Lib.hid (fun (W : World) (hW : Below w.heap.size w W) => era_any (ws.drop 2) _ W (hG.below' hW) (hS2.below hW) (fun x hm => hx x (List.mem_of_mem_drop hm)) (fun x hm => hF x (List.mem_of_mem_drop hm)))
      have hc' : (ws.length : Int) ≤ c := by omega
      have h2c : ¬ c - 2 = 0 := by omega
      have hc2 : (2 : Int) ≤ c := by omega
      have hw2 : (2 : Int) ≤ ws.length := by omega
      have HH : Hid (zoneN ws = res) := HR
      obtain ⟨m, hn⟩ : ∃ m : Nat, Hid (1 ≤ m) := ⟨9, Lib.hid (by omega)⟩
      have hmix : Tryz.prog.follows .mixedOrders = true := by kernel_rfl
      have H5 := Lib.hid h5
      have H9 := Lib.hid h9
      clear hx hF hS hS1 hS2 HR ht hl h5 h9
      refine (callsIn_wide (n := m)).1 ?_
      refine callsIn_of_wp Tryz.func23 rfl trivial ?_ rfl
      simp only [Tryz.ntmps23, List.size_toArray, List.length_cons, List.length_nil, Nat.reduceAdd, Nat.reduceSub, Array.replicate_succ, Array.replicate_zero, List.push_toArray, List.append_toArray, List.nil_append, List.cons_append]
      gi_wp2_with fail
      refine wide_call (kind_make 2 _) ?_
      rintro e W ⟨rfl, rfl⟩
      gi_wp2_with fail
      refine wide_call (name_make ⟨w.heap.size + 1, 0, none⟩ 12 _) ?_
      rintro e W ⟨rfl, rfl⟩
      gi_wp2_with fail
      refine wide_call HZ.out ?_
      rintro e A' ⟨er, rfl, hB, hr0, hE, hok⟩
      have HE := Lib.hid hE
      have HR0 := Lib.hid hr0
      have HOK := Lib.hid hok
      clear hE hr0 hok HZ
      by_cases he : er = 0
      · have hs := HOK.out he
        have hz : w.heap.size + 1 < A'.heap.size := (Array.getElem?_eq_some_iff.1 hs).1
        have HS := Lib.hid hs
        subst he
        clear hs
        gi_wp2_with fail
        refine wide_call (HE2.out A' hB) ?_
        rintro e W2 ⟨rfl, hb2⟩
        have HX0 : Hid ((if (eraN (ws.drop 2)).2 = 0 then (ws.getD 1 [], (eraN (ws.drop 2)).1, (0 : Int)) else ([], eraZ, (eraN (ws.drop 2)).2)) = res) := Lib.hid (by
          have h5 := H5.out
          have h9 := H9.out
          rw [← HH.out]
          unfold zoneN
          rw [if_neg (show ¬ (ws.length < 5 ∨ 9 < ws.length) from by omega), HE.out, if_pos rfl])
        have q0 := (hb2.block w.heap.size (by omega)).trans HR0.out
        have q1 := (hb2.block (w.heap.size + 1) hz).trans HS.out
        have hB2 := hB.trans (hb2.mono hB.size)
        have hz2 : w.heap.size + 1 < W2.heap.size := Nat.lt_of_lt_of_le hz hb2.size
        clear hb2
        generalize eraN (ws.drop 2) = en at *
        obtain ⟨E, ee⟩ := en
        simp only [eraC]
        obtain ⟨w3, hw3⟩ : ∃ w3, w3 = W2.alloc (.cells (eraC E) 40) := ⟨_, rfl⟩
        have hB3 : Below w.heap.size w w3 := by rw [hw3]; exact hB2.alloc (by omega) _
        have p0 : w3.heap[w.heap.size]? = some (.cells (eraC eraZ) 40 (0, 0)) := by rw [hw3]; exact (Below.heap_alloc _ _ _ (by omega)).trans q0
        have p1 : w3.cell? ⟨w.heap.size + 1, 0, none⟩ = some (.string ⟨(ws.getD 1 []).toArray⟩) := by rw [hw3]; exact blk_cell ((Below.heap_alloc _ _ _ hz2).trans q1) rfl
        have p2 : w3.heap[W2.heap.size]? = some (.cells (eraC E) 40 (0, 0)) := by rw [hw3]; exact World.alloc_heap_new _ _
        obtain ⟨⟨c0, c1, c2, c3, c4, c5, c6, c7, c8, c9, c10, c11⟩, f0⟩ := cells12 p0
        obtain ⟨⟨d0, d1, d2, d3, d4, d5, d6, d7, d8, d9, d10, d11⟩, g0⟩ := cells12 p2
        have P0 := Lib.hid p0
        have HC0 := Lib.hid (cells12 p0)
        have HC2 := Lib.hid (cells12 p2)
        have HP1 := Lib.hid p1
        have HW3 := Lib.hid hw3
        have HB3 := Lib.hid hB3
        rw [hw3] at c0 c1 c2 c3 c4 c5 c6 c7 c8 c9 c10 c11 d0 d1 d2 d3 d4 d5 d6 d7 d8 d9 d10 d11 f0 g0 p1
        simp only [eraC] at c0 c1 c2 c3 c4 c5 c6 c7 c8 c9 c10 c11 d0 d1 d2 d3 d4 d5 d6 d7 d8 d9 d10 d11 f0 g0 p1
        clear q0 q1 p0 p2 hw3 HE2
        by_cases hee : ee = 0
        · have HX : Hid ((ws.getD 1 [], E, (0 : Int)) = res) := Lib.hid (by rw [← HX0.out, if_pos hee])
          subst hee
          gi_wp2_with fail
          have hw := HW3.out.symm
          simp only [eraC] at hw
          rw [hw]
          clear hw c0 c1 c2 c3 c4 c5 c6 c7 c8 c9 c10 c11 d0 d1 d2 d3 d4 d5 d6 d7 d8 d9 d10 d11 f0 g0 p1 hB3 hB2 hz2
          obtain ⟨⟨c0, c1, c2, c3, c4, c5, c6, c7, c8, c9, c10, c11⟩, f0⟩ := HC0.out
          obtain ⟨⟨d0, d1, d2, d3, d4, d5, d6, d7, d8, d9, d10, d11⟩, g0⟩ := HC2.out
          have p1 := HP1.out
          gi_region_with_o (fail)
          gi_wp2_with fail
          all_goals
            simp only [List.getElem_toArray, List.getElem_cons_succ, List.getElem_cons_zero, Act.put, List.setIfInBounds_toArray, List.set_cons_succ, List.set_cons_zero]
            refine zoneRet rfl rfl rfl (R := E) (x := ws[1]?.getD []) (drew_heap (era_sets _ _ _ _ _ _ _ _ _ _ _ _ P0.out)) ?_
            exact ⟨by rw [← HX.out, List.getD_eq_getElem?_getD], Below.drew ((((((((((((HB3.out.setCell (p := ⟨w.heap.size, 0, none⟩) (Nat.le_refl _) _).setCell (p := ⟨w.heap.size, 1, none⟩) (Nat.le_refl _) _).setCell (p := ⟨w.heap.size, 2, none⟩) (Nat.le_refl _) _).setCell (p := ⟨w.heap.size, 3, none⟩) (Nat.le_refl _) _).setCell (p := ⟨w.heap.size, 4, none⟩) (Nat.le_refl _) _).setCell (p := ⟨w.heap.size, 5, none⟩) (Nat.le_refl _) _).setCell (p := ⟨w.heap.size, 6, none⟩) (Nat.le_refl _) _).setCell (p := ⟨w.heap.size, 7, none⟩) (Nat.le_refl _) _).setCell (p := ⟨w.heap.size, 8, none⟩) (Nat.le_refl _) _).setCell (p := ⟨w.heap.size, 9, none⟩) (Nat.le_refl _) _).setCell (p := ⟨w.heap.size, 10, none⟩) (Nat.le_refl _) _).setCell (p := ⟨w.heap.size, 11, none⟩) (Nat.le_refl _) _)⟩
        · have heb : (ee != 0) = true := by rw [bne_iff_ne]; exact hee
          have HX : Hid ((([] : Bytes), eraZ, ee) = res) := Lib.hid (by rw [← HX0.out, if_neg hee])
          gi_wp2_with fail
          have hw := HW3.out.symm
          simp only [eraC] at hw
          rw [hw]
          refine zoneRet rfl rfl rfl (R := eraZ) (x := []) (era_sets _ _ _ _ _ _ _ _ _ _ _ _ P0.out) ?_
          exact ⟨by rw [← HX.out], ((((((((((((hB3.setCell (p := ⟨w.heap.size, 0, none⟩) (Nat.le_refl _) _).setCell (p := ⟨w.heap.size, 1, none⟩) (Nat.le_refl _) _).setCell (p := ⟨w.heap.size, 2, none⟩) (Nat.le_refl _) _).setCell (p := ⟨w.heap.size, 3, none⟩) (Nat.le_refl _) _).setCell (p := ⟨w.heap.size, 4, none⟩) (Nat.le_refl _) _).setCell (p := ⟨w.heap.size, 5, none⟩) (Nat.le_refl _) _).setCell (p := ⟨w.heap.size, 6, none⟩) (Nat.le_refl _) _).setCell (p := ⟨w.heap.size, 7, none⟩) (Nat.le_refl _) _).setCell (p := ⟨w.heap.size, 8, none⟩) (Nat.le_refl _) _).setCell (p := ⟨w.heap.size, 9, none⟩) (Nat.le_refl _) _).setCell (p := ⟨w.heap.size, 10, none⟩) (Nat.le_refl _) _).setCell (p := ⟨w.heap.size, 11, none⟩) (Nat.le_refl _) _)⟩
      · obtain ⟨⟨c0, c1, c2, c3, c4, c5, c6, c7, c8, c9, c10, c11⟩, f0⟩ := cells12 HR0.out
        have heb : (er != 0) = true := by rw [bne_iff_ne]; exact he
        have HX : Hid ((([] : Bytes), eraZ, er) = res) := Lib.hid (by
          have h5 := H5.out
          have h9 := H9.out
          rw [← HH.out]
          unfold zoneN
          rw [if_neg (show ¬ (ws.length < 5 ∨ 9 < ws.length) from by omega), HE.out, if_neg he])
        gi_wp2_with fail
        refine zoneRet rfl rfl rfl (R := eraZ) (x := []) (era_sets _ _ _ _ _ _ _ _ _ _ _ _ HR0.out) ?_
        exact ⟨by rw [← HX.out], ((((((((((((hB.setCell (p := ⟨w.heap.size, 0, none⟩) (Nat.le_refl _) _).setCell (p := ⟨w.heap.size, 1, none⟩) (Nat.le_refl _) _).setCell (p := ⟨w.heap.size, 2, none⟩) (Nat.le_refl _) _).setCell (p := ⟨w.heap.size, 3, none⟩) (Nat.le_refl _) _).setCell (p := ⟨w.heap.size, 4, none⟩) (Nat.le_refl _) _).setCell (p := ⟨w.heap.size, 5, none⟩) (Nat.le_refl _) _).setCell (p := ⟨w.heap.size, 6, none⟩) (Nat.le_refl _) _).setCell (p := ⟨w.heap.size, 7, none⟩) (Nat.le_refl _) _).setCell (p := ⟨w.heap.size, 8, none⟩) (Nat.le_refl _) _).setCell (p := ⟨w.heap.size, 9, none⟩) (Nat.le_refl _) _).setCell (p := ⟨w.heap.size, 10, none⟩) (Nat.le_refl _) _).setCell (p := ⟨w.heap.size, 11, none⟩) (Nat.le_refl _) _)⟩

end Go.Proofs.YtgofleplmnibbaaGreatDoor
