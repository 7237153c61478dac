/-
  The law LinesShort: an era whose Until is told in fewer words is that of all four.
-/
import Derived.Test.YtgofleplmnibbaaGreatDoorLaws
namespace Go.Proofs.YtgofleplmnibbaaGreatDoor.Lex

def janB : Bytes := [74, 97, 110]
def oneB : Bytes := [49]
def noughtB : Bytes := [48, 58, 48, 48]
theorem firstL_app : ∀ (l z : List Int), firstL z = 0 → firstL (l ++ z) = firstL l
  | [], z, h => h
  | e :: r, z, h => by
    rw [List.cons_append, firstL, firstL, firstL_app r z h]
theorem jan_eq : refMonth janB = (1, 0) := by kernel_rfl
theorem one_eq : refDay oneB = (0, 0, 1, 0) := by kernel_rfl
theorem nought_eq : refClock noughtB = (0, 0, 0) := by kernel_rfl
theorem era_long (ws : List Bytes) (h3 : 3 < ws.length) (h7 : ws.length ≤ 7) : eraN ws = if firstL (eraErL ws) = 0 then (eraAt (eraOfR ws true) 1 ws.length, 0) else (eraZ, firstL (eraErL ws)) := by
  rw [era_eq, if_neg (by omega), if_pos h3]
def erP (a b c d : Bytes) : List Int := [(refOff a).2, if dashy b then (refOff b).2 else if refSet b then 0 else 23, if refForm c then 0 else 12, (refYear d).2]
theorem short_of {l z : List Int} {E F : EraV} (hz : firstL z = 0) (hE : E = F) : (if firstL l = 0 then (E, (0 : Int)) else (eraZ, firstL l)) = if firstL (l ++ z) = 0 then (F, 0) else (eraZ, firstL (l ++ z)) := by
  rw [firstL_app l z hz, hE]
theorem short4 (a b c d : Bytes) : eraN [a, b, c, d] = eraN [a, b, c, d, janB, oneB, noughtB] := by
  rw [era_long _ (by simp) (by simp), era_long _ (by simp) (by simp)]
  refine short_of (l := erP a b c d) (z := [(refMonth janB).2, (refDay oneB).2.2.2, (refClock noughtB).2.2]) (by rw [jan_eq, one_eq, nought_eq]; rfl) ?_
  show (EraV.mk _ _ _ _ _ _ 1 0 0 1 0 0) = EraV.mk _ _ _ _ _ _ (refMonth janB).1 (refDay oneB).1 (refDay oneB).2.1 (refDay oneB).2.2.1 (refClock noughtB).1 (refClock noughtB).2.1
  rw [jan_eq, one_eq, nought_eq]
  rfl
theorem short5 (a b c d e : Bytes) : eraN [a, b, c, d, e] = eraN [a, b, c, d, e, oneB, noughtB] := by
  rw [era_long _ (by simp) (by simp), era_long _ (by simp) (by simp)]
  refine short_of (l := erP a b c d ++ [(refMonth e).2]) (z := [(refDay oneB).2.2.2, (refClock noughtB).2.2]) (by rw [one_eq, nought_eq]; rfl) ?_
  show (EraV.mk _ _ _ _ _ _ (refMonth e).1 0 0 1 0 0) = EraV.mk _ _ _ _ _ _ (refMonth e).1 (refDay oneB).1 (refDay oneB).2.1 (refDay oneB).2.2.1 (refClock noughtB).1 (refClock noughtB).2.1
  rw [one_eq, nought_eq]
  rfl
theorem short6 (a b c d e f : Bytes) : eraN [a, b, c, d, e, f] = eraN [a, b, c, d, e, f, noughtB] := by
  rw [era_long _ (by simp) (by simp), era_long _ (by simp) (by simp)]
  refine short_of (l := erP a b c d ++ [(refMonth e).2, (refDay f).2.2.2]) (z := [(refClock noughtB).2.2]) (by rw [nought_eq]; rfl) ?_
  show (EraV.mk _ _ _ _ _ _ (refMonth e).1 (refDay f).1 (refDay f).2.1 (refDay f).2.2.1 0 0) = EraV.mk _ _ _ _ _ _ (refMonth e).1 (refDay f).1 (refDay f).2.1 (refDay f).2.2.1 (refClock noughtB).1 (refClock noughtB).2.1
  rw [nought_eq]
  rfl

end Go.Proofs.YtgofleplmnibbaaGreatDoor.Lex
namespace Go.Proofs.YtgofleplmnibbaaGreatDoor
open Go.RowKit Go.Shelf Lex
attribute [local go_sem] ba_get

theorem own_form {W : World} {lo e k : Nat} {v : Value} {xs : List Value} (h : W.ownsRow lo e 1 v k xs) (hk : 0 < k) : ∃ g cap, v = .slice (some ⟨g, 0, none⟩) k cap := by
  rcases h.2 with ⟨rfl, h0⟩ | ⟨g, cap, cur, rfl, _⟩
  · omega
  · exact ⟨g, cap, rfl⟩

set_option maxHeartbeats 4000000 in
set_option maxRecDepth 100000 in
theorem short_main4 (a b c d : Bytes) (A : Option Addr) (cp : Nat) (w : World) (hG : Glob w) (hS : Strs 0 w (.slice A 4 cp) [a, b, c, d]) (hf : fewF [a, b, c, d] = true) :
    Calls Tryz.prog 5 #[.slice A 4 cp] w (TrueBelow w) := by
  have hsz := few_size hf
  have hall : ∀ x ∈ [a, b, c, d] ++ [janB, oneB, noughtB], x.length ≤ 50000 := fun x hx => by
    rcases List.mem_append.1 hx with h | h
    · exact hsz x h
    · have : ∀ y ∈ [janB, oneB, noughtB], y.length ≤ 50000 := by decide
      exact this x h
  have cE := Lib.hid (fun (W : World) (hW : Glob W) (hs : Strs 0 W (.slice A 4 cp) [a, b, c, d]) => era_any [a, b, c, d] _ W hW hs hsz (fun x _ => fold_at x))
  have cF := Lib.hid (fun (v : Value) (W : World) (hW : Glob W) (hs : Strs 0 W v ([a, b, c, d] ++ [janB, oneB, noughtB])) => era_any ([a, b, c, d] ++ [janB, oneB, noughtB]) v W hW hs hall (fun x _ => fold_at x))
  have heq : eraN ([a, b, c, d] ++ [janB, oneB, noughtB]) = eraN [a, b, c, d] := (short4 a b c d).symm
  rw [heq] at cF
  obtain ⟨i0, hi, hz0, hz1, hz2⟩ := info_parts infoStr
  obtain ⟨bk, o, rfl, hbk, _⟩ := strs_at (xs := [a, b, c, d]) hS (k := 0) (by simp)
  have HC : Hid (∀ W, Strs 0 W (.slice (some ⟨bk, o, none⟩) 4 cp) [a, b, c, d] → ∀ (j : Nat) (u : Value), ([a, b, c, d].map encS)[j]? = some u → W.cell? ((⟨bk, o, none⟩ : Addr).add j) = some u) := Lib.hid (fun W hs j u hj => by
    obtain ⟨A', c', hv, _, _, hr⟩ := hs
    injection hv with e1 e2 e3
    obtain ⟨bk', o', hA, _, _, hx⟩ := hr (by simp)
    rw [← e1] at hA
    injection hA with hA
    injection hA with e4 e5 e6
    rw [List.getElem?_map, Option.map_eq_some_iff] at hj
    obtain ⟨y, hy, rfl⟩ := hj
    rw [Addr.add_lit, e4, e5]
    exact hx j y hy)
  have HS := Lib.hid hS
  have HF := Lib.hid hf
  generalize eraN [a, b, c, d] = p at *
  obtain ⟨E, er⟩ := p
  clear hsz hall hS hf heq
  go_enter Tryz.func5, Tryz.ntmps5
  go_wp2_with fail
  refine (few_at [a, b, c, d] _ cp _ HS.out HF.out (strs_max HS.out)).mono ?_
  rintro q w0 ⟨rfl, rfl⟩
  go_wp2_with fail
  refine (cE.out w hG HS.out).mono ?_
  rintro q w1 ⟨rfl, hb1⟩
  have hB1 : Below w.heap.size w (w1.alloc (.cells (eraC E) 40)) := hb1.alloc hb1.size _
  have H1 : Hid ((w1.alloc (.cells (eraC E) 40)).heap[w1.heap.size]? = some (.cells (eraC E) 40 (0, 0))) := Lib.hid (World.alloc_heap_new _ _)
  have hS1 := HS.out.below hB1
  have HB1 := Lib.hid hB1
  simp only [eraC] at hB1 hS1 ⊢
  go_wp2_with (first
    | (at_builtin; refine wpList_append_own _ rfl _ _ 27 rfl (w1.heap.size + 1) 9 i0 (.string ⟨#[]⟩) 1 16 Tryz.underlying27 hi hz0 hz1 hz2 rfl (by decide) _ 0 [] rfl (World.ownsRow_nil _ _ _ _) ⟨bk, o, none⟩ 4 cp ([a, b, c, d].map encS) rfl rfl (HC.out _ hS1) (by simp [Value.oneCell', encS]) (by decide) (by decide) (by simp) ?_; intro v1 x1 own1 grow1 _; have hk1 := (Below.refl _ _).grown grow1 (Nat.le_refl _) (fun j hj => by cases hj); obtain ⟨g1, p1, rfl⟩ := own_form own1 (by decide))
    | (at_builtin; refine wpList_append_own _ rfl _ _ 27 rfl (w1.heap.size + 1) 9 i0 (.string ⟨#[]⟩) 1 16 Tryz.underlying27 hi hz0 hz1 hz2 rfl (by decide) _ 4 _ rfl (own1.alloc _) ⟨x1.heap.size, 0, none⟩ 1 1 [.string ⟨#[74, 97, 110]⟩] rfl rfl (cell_one_new _ _ _) (by simp [Value.oneCell']) (by decide) (by decide) (by have := hk1.size; simp at this ⊢; omega) ?_; intro v2 x2 own2 grow2 _; have hk2 := (hk1.alloc hk1.size _).grown grow2 (by have := hk1.size; simp at this ⊢; omega) (fun j hj => by have := (own1.lt j hj).1; simpa using this); obtain ⟨g2, p2, rfl⟩ := own_form own2 (by decide))
    | (at_builtin; refine wpList_append_own _ rfl _ _ 27 rfl (w1.heap.size + 1) 9 i0 (.string ⟨#[]⟩) 1 16 Tryz.underlying27 hi hz0 hz1 hz2 rfl (by decide) _ 5 _ rfl (own2.alloc _) ⟨x2.heap.size, 0, none⟩ 1 1 [.string ⟨#[49]⟩] rfl rfl (cell_one_new _ _ _) (by simp [Value.oneCell']) (by decide) (by decide) (by have := hk2.size; simp at this ⊢; omega) ?_; intro v3 x3 own3 grow3 _; have hk3 := (hk2.alloc hk2.size _).grown grow3 (by have := hk2.size; simp at this ⊢; omega) (fun j hj => by have := (own2.lt j hj).1; simpa using this); obtain ⟨g3, p3, rfl⟩ := own_form own3 (by decide))
    | (at_builtin; refine wpList_append_own _ rfl _ _ 27 rfl (w1.heap.size + 1) 9 i0 (.string ⟨#[]⟩) 1 16 Tryz.underlying27 hi hz0 hz1 hz2 rfl (by decide) _ 6 _ rfl (own3.alloc _) ⟨x3.heap.size, 0, none⟩ 1 1 [.string ⟨#[48, 58, 48, 48]⟩] rfl rfl (cell_one_new _ _ _) (by simp [Value.oneCell']) (by decide) (by decide) (by have := hk3.size; simp at this ⊢; omega) ?_; intro v4 x4 own4 grow4 _; have hk4 := (hk3.alloc hk3.size _).grown grow4 (by have := hk3.size; simp at this ⊢; omega) (fun j hj => by have := (own3.lt j hj).1; simpa using this); obtain ⟨g4, p4, rfl⟩ := own_form own4 (by decide)))
  have hSl : Strs 0 x4 (.slice (some ⟨g4, 0, none⟩) 7 p4) ([a, b, c, d] ++ [janB, oneB, noughtB]) := (Strs.of_own (e := 9) (by exact own4)).mono (Nat.zero_le _)
  have hBl := HB1.out.trans (hk4.mono HB1.out.size)
  have q1 := (hk4.block w1.heap.size (by simp)).trans H1.out
  have HQ1 := Lib.hid q1
  have HSL := Lib.hid hSl
  have HBL := Lib.hid hBl
  clear own1 hk1 grow1 own2 hk2 grow2 own3 hk3 grow3 own4 hk4 grow4 q1 hSl hBl hB1 hS1
  refine (cF.out _ x4 (hG.below' HBL.out) HSL.out).mono ?_
  rintro q w5 ⟨rfl, hb5⟩
  have hB5 := HBL.out.trans (hb5.mono HBL.out.size)
  have q5 := (hb5.block _ (Array.getElem?_eq_some_iff.1 HQ1.out).1).trans HQ1.out
  have hs5 : w1.heap.size < w5.heap.size := (Array.getElem?_eq_some_iff.1 q5).1
  obtain ⟨⟨d0, d1, d2, d3, d4, d5, d6, d7, d8, d9, d10, d11⟩, g0⟩ := cells12 q5
  have hB6 : Below w.heap.size w (w5.alloc (.cells (eraC E) 40)) := hB5.alloc hB5.size _
  clear q5 g0 hb5
  simp only [eraC] at hB6 ⊢
  go_wp2_with fail
  refine (awake_any _ (hG.below' hB6)).mono ?_
  rintro q w8 ⟨rfl, hb8⟩
  go_wp2_with fail
  go_ret
  exact ⟨rfl, hB6.trans (hb8.mono hB6.size)⟩

set_option maxHeartbeats 4000000 in
set_option maxRecDepth 100000 in
theorem short_main5 (a b c d e : Bytes) (A : Option Addr) (cp : Nat) (w : World) (hG : Glob w) (hS : Strs 0 w (.slice A 5 cp) [a, b, c, d, e]) (hf : fewF [a, b, c, d, e] = true) :
    Calls Tryz.prog 5 #[.slice A 5 cp] w (TrueBelow w) := by
  have hsz := few_size hf
  have hall : ∀ x ∈ [a, b, c, d, e] ++ [oneB, noughtB], x.length ≤ 50000 := fun x hx => by
    rcases List.mem_append.1 hx with h | h
    · exact hsz x h
    · have : ∀ y ∈ [oneB, noughtB], y.length ≤ 50000 := by decide
      exact this x h
  have cE := Lib.hid (fun (W : World) (hW : Glob W) (hs : Strs 0 W (.slice A 5 cp) [a, b, c, d, e]) => era_any [a, b, c, d, e] _ W hW hs hsz (fun x _ => fold_at x))
  have cF := Lib.hid (fun (v : Value) (W : World) (hW : Glob W) (hs : Strs 0 W v ([a, b, c, d, e] ++ [oneB, noughtB])) => era_any ([a, b, c, d, e] ++ [oneB, noughtB]) v W hW hs hall (fun x _ => fold_at x))
  have heq : eraN ([a, b, c, d, e] ++ [oneB, noughtB]) = eraN [a, b, c, d, e] := (short5 a b c d e).symm
  rw [heq] at cF
  obtain ⟨i0, hi, hz0, hz1, hz2⟩ := info_parts infoStr
  obtain ⟨bk, o, rfl, hbk, _⟩ := strs_at (xs := [a, b, c, d, e]) hS (k := 0) (by simp)
  have HC : Hid (∀ W, Strs 0 W (.slice (some ⟨bk, o, none⟩) 5 cp) [a, b, c, d, e] → ∀ (j : Nat) (u : Value), ([a, b, c, d, e].map encS)[j]? = some u → W.cell? ((⟨bk, o, none⟩ : Addr).add j) = some u) := Lib.hid (fun W hs j u hj => by
    obtain ⟨A', c', hv, _, _, hr⟩ := hs
    injection hv with e1 e2 e3
    obtain ⟨bk', o', hA, _, _, hx⟩ := hr (by simp)
    rw [← e1] at hA
    injection hA with hA
    injection hA with e4 e5 e6
    rw [List.getElem?_map, Option.map_eq_some_iff] at hj
    obtain ⟨y, hy, rfl⟩ := hj
    rw [Addr.add_lit, e4, e5]
    exact hx j y hy)
  have HS := Lib.hid hS
  have HF := Lib.hid hf
  generalize eraN [a, b, c, d, e] = p at *
  obtain ⟨E, er⟩ := p
  clear hsz hall hS hf heq
  go_enter Tryz.func5, Tryz.ntmps5
  go_wp2_with fail
  refine (few_at [a, b, c, d, e] _ cp _ HS.out HF.out (strs_max HS.out)).mono ?_
  rintro q w0 ⟨rfl, rfl⟩
  go_wp2_with fail
  refine (cE.out w hG HS.out).mono ?_
  rintro q w1 ⟨rfl, hb1⟩
  have hB1 : Below w.heap.size w (w1.alloc (.cells (eraC E) 40)) := hb1.alloc hb1.size _
  have H1 : Hid ((w1.alloc (.cells (eraC E) 40)).heap[w1.heap.size]? = some (.cells (eraC E) 40 (0, 0))) := Lib.hid (World.alloc_heap_new _ _)
  have hS1 := HS.out.below hB1
  have HB1 := Lib.hid hB1
  simp only [eraC] at hB1 hS1 ⊢
  go_wp2_with (first
    | (at_builtin; refine wpList_append_own _ rfl _ _ 27 rfl (w1.heap.size + 1) 9 i0 (.string ⟨#[]⟩) 1 16 Tryz.underlying27 hi hz0 hz1 hz2 rfl (by decide) _ 0 [] rfl (World.ownsRow_nil _ _ _ _) ⟨bk, o, none⟩ 5 cp ([a, b, c, d, e].map encS) rfl rfl (HC.out _ hS1) (by simp [Value.oneCell', encS]) (by decide) (by decide) (by simp) ?_; intro v1 x1 own1 grow1 _; have hk1 := (Below.refl _ _).grown grow1 (Nat.le_refl _) (fun j hj => by cases hj); obtain ⟨g1, p1, rfl⟩ := own_form own1 (by decide))
    | (at_builtin; refine wpList_append_own _ rfl _ _ 27 rfl (w1.heap.size + 1) 9 i0 (.string ⟨#[]⟩) 1 16 Tryz.underlying27 hi hz0 hz1 hz2 rfl (by decide) _ 5 _ rfl (own1.alloc _) ⟨x1.heap.size, 0, none⟩ 1 1 [.string ⟨#[49]⟩] rfl rfl (cell_one_new _ _ _) (by simp [Value.oneCell']) (by decide) (by decide) (by have := hk1.size; simp at this ⊢; omega) ?_; intro v2 x2 own2 grow2 _; have hk2 := (hk1.alloc hk1.size _).grown grow2 (by have := hk1.size; simp at this ⊢; omega) (fun j hj => by have := (own1.lt j hj).1; simpa using this); obtain ⟨g2, p2, rfl⟩ := own_form own2 (by decide))
    | (at_builtin; refine wpList_append_own _ rfl _ _ 27 rfl (w1.heap.size + 1) 9 i0 (.string ⟨#[]⟩) 1 16 Tryz.underlying27 hi hz0 hz1 hz2 rfl (by decide) _ 6 _ rfl (own2.alloc _) ⟨x2.heap.size, 0, none⟩ 1 1 [.string ⟨#[48, 58, 48, 48]⟩] rfl rfl (cell_one_new _ _ _) (by simp [Value.oneCell']) (by decide) (by decide) (by have := hk2.size; simp at this ⊢; omega) ?_; intro v3 x3 own3 grow3 _; have hk3 := (hk2.alloc hk2.size _).grown grow3 (by have := hk2.size; simp at this ⊢; omega) (fun j hj => by have := (own2.lt j hj).1; simpa using this); obtain ⟨g3, p3, rfl⟩ := own_form own3 (by decide)))
  have hSl : Strs 0 x3 (.slice (some ⟨g3, 0, none⟩) 7 p3) ([a, b, c, d, e] ++ [oneB, noughtB]) := (Strs.of_own (e := 9) (by exact own3)).mono (Nat.zero_le _)
  have hBl := HB1.out.trans (hk3.mono HB1.out.size)
  have q1 := (hk3.block w1.heap.size (by simp)).trans H1.out
  have HQ1 := Lib.hid q1
  have HSL := Lib.hid hSl
  have HBL := Lib.hid hBl
  clear own1 hk1 grow1 own2 hk2 grow2 own3 hk3 grow3 q1 hSl hBl hB1 hS1
  refine (cF.out _ x3 (hG.below' HBL.out) HSL.out).mono ?_
  rintro q w5 ⟨rfl, hb5⟩
  have hB5 := HBL.out.trans (hb5.mono HBL.out.size)
  have q5 := (hb5.block _ (Array.getElem?_eq_some_iff.1 HQ1.out).1).trans HQ1.out
  have hs5 : w1.heap.size < w5.heap.size := (Array.getElem?_eq_some_iff.1 q5).1
  obtain ⟨⟨d0, d1, d2, d3, d4, d5, d6, d7, d8, d9, d10, d11⟩, g0⟩ := cells12 q5
  have hB6 : Below w.heap.size w (w5.alloc (.cells (eraC E) 40)) := hB5.alloc hB5.size _
  clear q5 g0 hb5
  simp only [eraC] at hB6 ⊢
  go_wp2_with fail
  refine (awake_any _ (hG.below' hB6)).mono ?_
  rintro q w8 ⟨rfl, hb8⟩
  go_wp2_with fail
  go_ret
  exact ⟨rfl, hB6.trans (hb8.mono hB6.size)⟩

set_option maxHeartbeats 4000000 in
set_option maxRecDepth 100000 in
theorem short_main6 (a b c d e f : Bytes) (A : Option Addr) (cp : Nat) (w : World) (hG : Glob w) (hS : Strs 0 w (.slice A 6 cp) [a, b, c, d, e, f]) (hf : fewF [a, b, c, d, e, f] = true) :
    Calls Tryz.prog 5 #[.slice A 6 cp] w (TrueBelow w) := by
  have hsz := few_size hf
  have hall : ∀ x ∈ [a, b, c, d, e, f] ++ [noughtB], x.length ≤ 50000 := fun x hx => by
    rcases List.mem_append.1 hx with h | h
    · exact hsz x h
    · have : ∀ y ∈ [noughtB], y.length ≤ 50000 := by decide
      exact this x h
  have cE := Lib.hid (fun (W : World) (hW : Glob W) (hs : Strs 0 W (.slice A 6 cp) [a, b, c, d, e, f]) => era_any [a, b, c, d, e, f] _ W hW hs hsz (fun x _ => fold_at x))
  have cF := Lib.hid (fun (v : Value) (W : World) (hW : Glob W) (hs : Strs 0 W v ([a, b, c, d, e, f] ++ [noughtB])) => era_any ([a, b, c, d, e, f] ++ [noughtB]) v W hW hs hall (fun x _ => fold_at x))
  have heq : eraN ([a, b, c, d, e, f] ++ [noughtB]) = eraN [a, b, c, d, e, f] := (short6 a b c d e f).symm
  rw [heq] at cF
  obtain ⟨i0, hi, hz0, hz1, hz2⟩ := info_parts infoStr
  obtain ⟨bk, o, rfl, hbk, _⟩ := strs_at (xs := [a, b, c, d, e, f]) hS (k := 0) (by simp)
  have HC : Hid (∀ W, Strs 0 W (.slice (some ⟨bk, o, none⟩) 6 cp) [a, b, c, d, e, f] → ∀ (j : Nat) (u : Value), ([a, b, c, d, e, f].map encS)[j]? = some u → W.cell? ((⟨bk, o, none⟩ : Addr).add j) = some u) := Lib.hid (fun W hs j u hj => by
    obtain ⟨A', c', hv, _, _, hr⟩ := hs
    injection hv with e1 e2 e3
    obtain ⟨bk', o', hA, _, _, hx⟩ := hr (by simp)
    rw [← e1] at hA
    injection hA with hA
    injection hA with e4 e5 e6
    rw [List.getElem?_map, Option.map_eq_some_iff] at hj
    obtain ⟨y, hy, rfl⟩ := hj
    rw [Addr.add_lit, e4, e5]
    exact hx j y hy)
  have HS := Lib.hid hS
  have HF := Lib.hid hf
  generalize eraN [a, b, c, d, e, f] = p at *
  obtain ⟨E, er⟩ := p
  clear hsz hall hS hf heq
  go_enter Tryz.func5, Tryz.ntmps5
  go_wp2_with fail
  refine (few_at [a, b, c, d, e, f] _ cp _ HS.out HF.out (strs_max HS.out)).mono ?_
  rintro q w0 ⟨rfl, rfl⟩
  go_wp2_with fail
  refine (cE.out w hG HS.out).mono ?_
  rintro q w1 ⟨rfl, hb1⟩
  have hB1 : Below w.heap.size w (w1.alloc (.cells (eraC E) 40)) := hb1.alloc hb1.size _
  have H1 : Hid ((w1.alloc (.cells (eraC E) 40)).heap[w1.heap.size]? = some (.cells (eraC E) 40 (0, 0))) := Lib.hid (World.alloc_heap_new _ _)
  have hS1 := HS.out.below hB1
  have HB1 := Lib.hid hB1
  simp only [eraC] at hB1 hS1 ⊢
  go_wp2_with (first
    | (at_builtin; refine wpList_append_own _ rfl _ _ 27 rfl (w1.heap.size + 1) 9 i0 (.string ⟨#[]⟩) 1 16 Tryz.underlying27 hi hz0 hz1 hz2 rfl (by decide) _ 0 [] rfl (World.ownsRow_nil _ _ _ _) ⟨bk, o, none⟩ 6 cp ([a, b, c, d, e, f].map encS) rfl rfl (HC.out _ hS1) (by simp [Value.oneCell', encS]) (by decide) (by decide) (by simp) ?_; intro v1 x1 own1 grow1 _; have hk1 := (Below.refl _ _).grown grow1 (Nat.le_refl _) (fun j hj => by cases hj); obtain ⟨g1, p1, rfl⟩ := own_form own1 (by decide))
    | (at_builtin; refine wpList_append_own _ rfl _ _ 27 rfl (w1.heap.size + 1) 9 i0 (.string ⟨#[]⟩) 1 16 Tryz.underlying27 hi hz0 hz1 hz2 rfl (by decide) _ 6 _ rfl (own1.alloc _) ⟨x1.heap.size, 0, none⟩ 1 1 [.string ⟨#[48, 58, 48, 48]⟩] rfl rfl (cell_one_new _ _ _) (by simp [Value.oneCell']) (by decide) (by decide) (by have := hk1.size; simp at this ⊢; omega) ?_; intro v2 x2 own2 grow2 _; have hk2 := (hk1.alloc hk1.size _).grown grow2 (by have := hk1.size; simp at this ⊢; omega) (fun j hj => by have := (own1.lt j hj).1; simpa using this); obtain ⟨g2, p2, rfl⟩ := own_form own2 (by decide)))
  have hSl : Strs 0 x2 (.slice (some ⟨g2, 0, none⟩) 7 p2) ([a, b, c, d, e, f] ++ [noughtB]) := (Strs.of_own (e := 9) (by exact own2)).mono (Nat.zero_le _)
  have hBl := HB1.out.trans (hk2.mono HB1.out.size)
  have q1 := (hk2.block w1.heap.size (by simp)).trans H1.out
  have HQ1 := Lib.hid q1
  have HSL := Lib.hid hSl
  have HBL := Lib.hid hBl
  clear own1 hk1 grow1 own2 hk2 grow2 q1 hSl hBl hB1 hS1
  refine (cF.out _ x2 (hG.below' HBL.out) HSL.out).mono ?_
  rintro q w5 ⟨rfl, hb5⟩
  have hB5 := HBL.out.trans (hb5.mono HBL.out.size)
  have q5 := (hb5.block _ (Array.getElem?_eq_some_iff.1 HQ1.out).1).trans HQ1.out
  have hs5 : w1.heap.size < w5.heap.size := (Array.getElem?_eq_some_iff.1 q5).1
  obtain ⟨⟨d0, d1, d2, d3, d4, d5, d6, d7, d8, d9, d10, d11⟩, g0⟩ := cells12 q5
  have hB6 : Below w.heap.size w (w5.alloc (.cells (eraC E) 40)) := hB5.alloc hB5.size _
  clear q5 g0 hb5
  simp only [eraC] at hB6 ⊢
  go_wp2_with fail
  refine (awake_any _ (hG.below' hB6)).mono ?_
  rintro q w8 ⟨rfl, hb8⟩
  go_wp2_with fail
  go_ret
  exact ⟨rfl, hB6.trans (hb8.mono hB6.size)⟩

set_option maxHeartbeats 1000000 in
set_option maxRecDepth 100000 in
theorem short_any (ws : List Bytes) (v : Value) (w : World) (hG : Glob w) (hS : Strs 0 w v ws) :
    Calls Tryz.prog 5 #[v] w (TrueBelow w) := by
  obtain ⟨A, c, rfl⟩ := strs_form hS
  cases hf : fewF ws with
  | true =>
    by_cases h4 : ws.length < 4
    · have e4 : (ws.length : Int) < 4 := by omega
      have hF := Lib.hid hf
      clear hf
      go_enter Tryz.func5, Tryz.ntmps5
      go_wp2_with fail
      refine (few_at ws _ c _ hS hF.out (strs_max hS)).mono ?_
      rintro q w0 ⟨rfl, rfl⟩
      go_wp2_with fail
      refine (awake_any _ hG).mono ?_
      rintro q w1 ⟨rfl, hb1⟩
      go_wp2_with fail
      go_ret
      exact ⟨rfl, hb1⟩
    · by_cases h6 : 6 < ws.length
      · have e4 : ¬ (ws.length : Int) < 4 := by omega
        have e6 : (6 : Int) < ws.length := by omega
        have hF := Lib.hid hf
        clear hf
        go_enter Tryz.func5, Tryz.ntmps5
        go_wp2_with fail
        refine (few_at ws _ c _ hS hF.out (strs_max hS)).mono ?_
        rintro q w0 ⟨rfl, rfl⟩
        go_wp2_with fail
        refine (awake_any _ hG).mono ?_
        rintro q w1 ⟨rfl, hb1⟩
        go_wp2_with fail
        go_ret
        exact ⟨rfl, hb1⟩
      · obtain h | h | h : ws.length = 4 ∨ ws.length = 5 ∨ ws.length = 6 := by omega
        · obtain ⟨a, b, d, e, rfl⟩ : ∃ a b d e, ws = [a, b, d, e] := by
            match ws, h with
            | [a, b, d, e], _ => exact ⟨a, b, d, e, rfl⟩
          exact short_main4 a b d e A c w hG hS hf
        · obtain ⟨a, b, d, e, f, rfl⟩ : ∃ a b d e f, ws = [a, b, d, e, f] := by
            match ws, h with
            | [a, b, d, e, f], _ => exact ⟨a, b, d, e, f, rfl⟩
          exact short_main5 a b d e f A c w hG hS hf
        · obtain ⟨a, b, d, e, f, g, rfl⟩ : ∃ a b d e f g, ws = [a, b, d, e, f, g] := by
            match ws, h with
            | [a, b, d, e, f, g], _ => exact ⟨a, b, d, e, f, g, rfl⟩
          exact short_main6 a b d e f g A c w hG hS hf
  | false =>
    have hF := Lib.hid hf
    clear hf
    go_enter Tryz.func5, Tryz.ntmps5
    go_wp2_with fail
    refine (few_at ws _ c _ hS hF.out (strs_max hS)).mono ?_
    rintro q w0 ⟨rfl, rfl⟩
    go_wp2_with fail
    refine (awake_any _ hG).mono ?_
    rintro q w1 ⟨rfl, hb1⟩
    go_wp2_with fail
    go_ret
    exact ⟨rfl, hb1⟩

end Go.Proofs.YtgofleplmnibbaaGreatDoor
