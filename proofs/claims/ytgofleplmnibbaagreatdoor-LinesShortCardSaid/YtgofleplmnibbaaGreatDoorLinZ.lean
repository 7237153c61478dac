/-
  lines.Era.
-/
import Derived.Test.YtgofleplmnibbaaGreatDoorLinX
import Derived.Test.YtgofleplmnibbaaGreatDoorLinY
namespace Go.Proofs.YtgofleplmnibbaaGreatDoor.Lex

/-- An era's cells. -/
structure EraV where
  of : Int
  ru : Bytes
  sv : Int
  fo : Bytes
  en : Bool
  yr : Int
  mo : Int
  kd : Int
  wk : Int
  dn : Int
  sc : Int
  ck : Int
def eraZ : EraV := ⟨0, [], 0, [], false, 0, 0, 0, 0, 0, 0, 0⟩
/-- The era when k words have been read; i1: the month, and the day's number, that it begins with. -/
def eraAt (E : EraV) (i1 : Int) : Nat → EraV
  | 0 => ⟨0, [], 0, [], E.en, 0, i1, 0, 0, i1, 0, 0⟩
  | 1 => ⟨E.of, [], 0, [], E.en, 0, i1, 0, 0, i1, 0, 0⟩
  | 2 => ⟨E.of, E.ru, E.sv, [], E.en, 0, i1, 0, 0, i1, 0, 0⟩
  | 3 => ⟨E.of, E.ru, E.sv, E.fo, E.en, 0, i1, 0, 0, i1, 0, 0⟩
  | 4 => ⟨E.of, E.ru, E.sv, E.fo, E.en, E.yr, i1, 0, 0, i1, 0, 0⟩
  | 5 => ⟨E.of, E.ru, E.sv, E.fo, E.en, E.yr, E.mo, 0, 0, i1, 0, 0⟩
  | 6 => ⟨E.of, E.ru, E.sv, E.fo, E.en, E.yr, E.mo, E.kd, E.wk, E.dn, 0, 0⟩
  | _ => ⟨E.of, E.ru, E.sv, E.fo, E.en, E.yr, E.mo, E.kd, E.wk, E.dn, E.sc, E.ck⟩

end Go.Proofs.YtgofleplmnibbaaGreatDoor.Lex
namespace Go.Proofs.YtgofleplmnibbaaGreatDoor
open Go.RowKit Go.Shelf Lex

def eraC (R : EraV) : Array Value := #[.int .i64 R.of, .string ⟨R.ru.toArray⟩, .int .i64 R.sv, .string ⟨R.fo.toArray⟩, .bool R.en, .int .i64 R.yr, .int .i64 R.mo, .int .i64 R.kd, .int .i64 R.wk, .int .i64 R.dn, .int .i64 R.sc, .int .i64 R.ck]
def eraCs (E : EraV) (i1 : Int) (k : Nat) : Array Value := eraC (eraAt E i1 k)
def eraObjs (w : World) (E : EraV) (i1 : Int) (A : Option Addr) (n c : Nat) : List Obj := [.cells (eraC eraZ) 40, .cells (eraC (eraAt E i1 0)) 40, .cells #[.slice A n c] 72, .cells #[.pointer (some ⟨w.heap.size + 1, 0, none⟩)] 79, .cells #[.func (.func 55) #[] #[]] 69, .cells #[.pointer (some ⟨w.heap.size + 1, 1, none⟩)] 77, .cells #[.func (.func 64) #[] #[.pointer (some ⟨w.heap.size + 1, 0, none⟩)]] 81, .cells #[.pointer (some ⟨w.heap.size + 1, 3, none⟩)] 77, .cells #[.func (.func 16) #[] #[]] 25, .cells #[.pointer (some ⟨w.heap.size + 1, 5, none⟩)] 79, .cells #[.func (.func 47) #[] #[]] 69, .cells #[.pointer (some ⟨w.heap.size + 1, 6, none⟩)] 79, .cells #[.func (.func 50) #[] #[]] 69, .cells #[.pointer (some ⟨w.heap.size + 1, 7, none⟩)] 83, .cells #[.func (.func 52) #[] #[]] 84, .cells #[.pointer (some ⟨w.heap.size + 1, 10, none⟩)] 86, .cells #[.func (.func 54) #[] #[]] 87, .cells #[.func (.func 96) #[] #[.pointer (some ⟨w.heap.size + 4, 0, none⟩), .pointer (some ⟨w.heap.size + 3, 0, none⟩)], .func (.func 97) #[] #[.pointer (some ⟨w.heap.size + 6, 0, none⟩), .pointer (some ⟨w.heap.size + 5, 0, none⟩)], .func (.func 95) #[] #[.pointer (some ⟨w.heap.size + 7, 0, none⟩), .pointer (some ⟨w.heap.size + 8, 0, none⟩)], .func (.func 96) #[] #[.pointer (some ⟨w.heap.size + 10, 0, none⟩), .pointer (some ⟨w.heap.size + 9, 0, none⟩)], .func (.func 96) #[] #[.pointer (some ⟨w.heap.size + 12, 0, none⟩), .pointer (some ⟨w.heap.size + 11, 0, none⟩)], .func (.func 98) #[] #[.pointer (some ⟨w.heap.size + 14, 0, none⟩), .pointer (some ⟨w.heap.size + 13, 0, none⟩)], .func (.func 103) #[] #[.pointer (some ⟨w.heap.size + 16, 0, none⟩), .pointer (some ⟨w.heap.size + 15, 0, none⟩)]] 74]

set_option maxHeartbeats 2000000 in
set_option maxRecDepth 100000 in
theorem era_first (w : World) (hG : Glob w) (A : Option Addr) (n c : Nat) (ws : List Bytes) (_hn : ws.length = n) (h7 : ws.length ≤ 7) (hS : Strs 0 w (.slice A n c) ws) (hl : ∀ x ∈ ws, x.length ≤ 100000)
    (of : Int) (ru : Bytes) (sv : Int) (fo : Bytes) (en : Bool) (yr mo kd wk dn sc ck i1 e0 e1 e2 e3 e4 e5 e6 : Int)
    (h0 : ∀ x, ws[0]? = some x → Parses 55 x (.int .i64 of) e0)
    (h1 : ∀ x, ws[1]? = some x → (dashy x = true ∧ ru = [] ∧ sv = (spanL x).1 ∧ e1 = (spanL x).2) ∨ (dashy x = false ∧ ru = x ∧ sv = 0 ∧ e1 = if setNameF x then 0 else 23))
    (h2 : ∀ x, ws[2]? = some x → fo = x ∧ ∀ W, Glob W → Calls Tryz.prog 16 #[.string ⟨x.toArray⟩] W fun e w' => e = .returned (.int .i64 e2) ∧ Below W.heap.size W w')
    (h3 : ∀ x, ws[3]? = some x → Parses 47 x (.int .i64 yr) e3) (h4 : ∀ x, ws[4]? = some x → Parses 50 x (.int .i64 mo) e4)
    (h5 : ∀ x, ws[5]? = some x → Parses 52 x (.agg #[.int .i64 kd, .int .i64 wk, .int .i64 dn]) e5) (h6 : ∀ x, ws[6]? = some x → Parses 54 x (.agg #[.int .i64 sc, .int .i64 ck]) e6)
    (objs : List Obj) (hobjs : objs = eraObjs w ⟨of, ru, sv, fo, en, yr, mo, kd, wk, dn, sc, ck⟩ i1 A n c) (W0 : World) (hW0 : W0 = (allocs w objs).drew) :
    Calls Tryz.prog 43 #[.pointer (some ⟨w.heap.size + 2, 0, none⟩), .slice (some ⟨w.heap.size + 17, 0, none⟩) 7 7] W0 fun e w' => ∃ er, e = .returned (.int .i64 er) ∧ Below w.heap.size w w' ∧ w'.heap[w.heap.size]? = some (.cells (eraC eraZ) 40 (0, 0)) ∧ firstE (errs [e0, e1, e2, e3, e4, e5, e6]) ws.length = er ∧ (er = 0 → w'.heap[w.heap.size + 1]? = some (.cells (eraCs ⟨of, ru, sv, fo, en, yr, mo, kd, wk, dn, sc, ck⟩ i1 ws.length) 40 (0, 0))) := by
  have hB0 : Below w.heap.size w W0 := by rw [hW0]; exact (allocs_below _ _).drew
  have hz0 : W0.heap.size = w.heap.size + 18 := by rw [hW0]; show (allocs w objs).heap.size = _; rw [allocs_size, hobjs]; rfl
  have at0 : ∀ (i : Nat) (o : Obj), objs[i]? = some o → W0.heap[w.heap.size + i]? = some o := fun i o h => by rw [hW0]; exact allocs_at _ _ _ _ h
  have cell0 : ∀ (i : Nat) (v : Value) (T : TypeId), objs[i]? = some (.cells #[v] T (0, 0)) → W0.cell? ⟨w.heap.size + i, 0, none⟩ = some v := fun i v T h => blk_cell (at0 i _ h) rfl
  have hSS : ∀ k : Nat, (fun _ : Nat => [w.heap.size + 1, w.heap.size + 2]) k ⊆ (fun _ : Nat => [w.heap.size + 1, w.heap.size + 2]) (k + 1) := fun k => List.Subset.refl _
  have hSN : ∀ k : Nat, k ≤ ws.length → (fun _ : Nat => [w.heap.size + 1, w.heap.size + 2]) k ⊆ (fun _ : Nat => [w.heap.size + 1, w.heap.size + 2]) ws.length := fun _ _ => List.Subset.refl _
  have hSw : ∀ b ∈ [w.heap.size + 1, w.heap.size + 2], w.heap.size ≤ b := by simp
  have no : ∀ i, i ≠ 1 → i ≠ 2 → w.heap.size + i ∉ [w.heap.size + 1, w.heap.size + 2] := fun i h1 h2 hm => by simp at hm; omega
  have hr1 : w.heap.size + 1 ∈ [w.heap.size + 1, w.heap.size + 2] := by simp
  have hr2 : w.heap.size + 2 ∈ [w.heap.size + 1, w.heap.size + 2] := by simp
  refine (first_any w (w.heap.size + 2) (w.heap.size + 17) [(96, #[.pointer (some ⟨w.heap.size + 4, 0, none⟩), .pointer (some ⟨w.heap.size + 3, 0, none⟩)]), (97, #[.pointer (some ⟨w.heap.size + 6, 0, none⟩), .pointer (some ⟨w.heap.size + 5, 0, none⟩)]), (95, #[.pointer (some ⟨w.heap.size + 7, 0, none⟩), .pointer (some ⟨w.heap.size + 8, 0, none⟩)]), (96, #[.pointer (some ⟨w.heap.size + 10, 0, none⟩), .pointer (some ⟨w.heap.size + 9, 0, none⟩)]), (96, #[.pointer (some ⟨w.heap.size + 12, 0, none⟩), .pointer (some ⟨w.heap.size + 11, 0, none⟩)]), (98, #[.pointer (some ⟨w.heap.size + 14, 0, none⟩), .pointer (some ⟨w.heap.size + 13, 0, none⟩)]), (103, #[.pointer (some ⟨w.heap.size + 16, 0, none⟩), .pointer (some ⟨w.heap.size + 15, 0, none⟩)])] ws
    (Stage w W0 (fun _ => [w.heap.size + 1, w.heap.size + 2]) (w.heap.size + 1) (w.heap.size + 2) 40 ws (eraCs ⟨of, ru, sv, fo, en, yr, mo, kd, wk, dn, sc, ck⟩ i1) (errs [e0, e1, e2, e3, e4, e5, e6])) (Wrong W0 [w.heap.size + 1, w.heap.size + 2] ws.length (errs [e0, e1, e2, e3, e4, e5, e6])) W0 (by simp) ?_ ?_ ?_ ?_).mono ?_
  · intro f hf
    simp only [List.mem_cons, List.not_mem_nil, or_false] at hf
    rcases hf with rfl | rfl | rfl | rfl | rfl | rfl | rfl
    · exact enters_of Tryz.func96 (by kernel_rfl) rfl
    · exact enters_of Tryz.func97 (by kernel_rfl) rfl
    · exact enters_of Tryz.func95 (by kernel_rfl) rfl
    · exact enters_of Tryz.func96 (by kernel_rfl) rfl
    · exact enters_of Tryz.func96 (by kernel_rfl) rfl
    · exact enters_of Tryz.func98 (by kernel_rfl) rfl
    · exact enters_of Tryz.func103 (by kernel_rfl) rfl
  · exact ⟨⟨rfl, rfl, rfl, Nat.le_refl _, fun _ _ _ => rfl⟩, fun i hi => absurd hi (Nat.not_lt_zero _), at0 1 _ (by rw [hobjs]; rfl), _, at0 2 _ (by rw [hobjs]; rfl), hS⟩
  · intro k A' hA
    refine ⟨fun j f hf => ?_, hA.kept.below hB0 hSw, hA.rd⟩
    have hL := (hA.kept.block (w.heap.size + 17) (by omega) (no 17 (by decide) (by decide))).trans (at0 17 _ (by rw [hobjs]; rfl))
    match j, hf with
    | 0, hf => cases hf; exact blk_cell hL rfl
    | 1, hf => cases hf; exact blk_cell hL rfl
    | 2, hf => cases hf; exact blk_cell hL rfl
    | 3, hf => cases hf; exact blk_cell hL rfl
    | 4, hf => cases hf; exact blk_cell hL rfl
    | 5, hf => cases hf; exact blk_cell hL rfl
    | 6, hf => cases hf; exact blk_cell hL rfl
  · intro k f x A' hf hxk hA
    have hk7 : k < 7 := (List.getElem?_eq_some_iff.1 hf).1
    have hkn : k < ws.length := (List.getElem?_eq_some_iff.1 hxk).1
    have hxl := hl x (List.mem_of_getElem? hxk)
    obtain rfl | rfl | rfl | rfl | rfl | rfl | rfl : k = 0 ∨ k = 1 ∨ k = 2 ∨ k = 3 ∨ k = 4 ∨ k = 5 ∨ k = 6 := by omega
    · cases hf
      exact step_int (g := 55) (lb := #[]) (n := of) hB0 hSS hSN hSw hA hkn hxk (cell0 4 _ _ (by rw [hobjs]; rfl)) (cell0 3 _ _ (by rw [hobjs]; rfl)) (by omega) (by omega) (no 4 (by decide) (by decide)) (no 3 (by decide) (by decide)) hr2 hr1 (by simp) (enters_of Tryz.func55 (by kernel_rfl) rfl) (fun W hB _ => h0 x hxk W (hG.below' hB)) rfl rfl
    · cases hf
      rcases h1 x hxk with ⟨hd, rfl, hsv, he⟩ | ⟨hd, rfl, rfl, he⟩
      · exact step_rulesSpan hB0 hG hSS hSN hSw hA hkn hxk hxl (cell0 6 _ _ (by rw [hobjs]; rfl)) (cell0 5 _ _ (by rw [hobjs]; rfl)) (by omega) (by omega) (no 6 (by decide) (by decide)) (no 5 (by decide) (by decide)) hr2 hr1 (by simp) hd he (by decide) rfl rfl (by rw [← hsv]; rfl)
      · exact step_rulesName hB0 hG hSS hSN hSw hA hkn hxk hxl (cell0 6 _ _ (by rw [hobjs]; rfl)) (cell0 5 _ _ (by rw [hobjs]; rfl)) (by omega) (by omega) (no 6 (by decide) (by decide)) (no 5 (by decide) (by decide)) hr2 hr1 (by simp) hd he rfl rfl
    · cases hf
      obtain ⟨rfl, hf2⟩ := h2 x hxk
      exact step_name (g := 16) hB0 hG hSS hSN hSw hA hkn hxk (cell0 7 _ _ (by rw [hobjs]; rfl)) (cell0 8 _ _ (by rw [hobjs]; rfl)) (by omega) (by omega) (no 7 (by decide) (by decide)) (no 8 (by decide) (by decide)) hr2 hr1 (by simp) (enters_of Tryz.func16 (by kernel_rfl) rfl) hf2 rfl rfl
    · cases hf
      exact step_int (g := 47) (lb := #[]) (n := yr) hB0 hSS hSN hSw hA hkn hxk (cell0 10 _ _ (by rw [hobjs]; rfl)) (cell0 9 _ _ (by rw [hobjs]; rfl)) (by omega) (by omega) (no 10 (by decide) (by decide)) (no 9 (by decide) (by decide)) hr2 hr1 (by simp) (enters_of Tryz.func47 (by kernel_rfl) rfl) (fun W hB _ => h3 x hxk W (hG.below' hB)) rfl rfl
    · cases hf
      exact step_int (g := 50) (lb := #[]) (n := mo) hB0 hSS hSN hSw hA hkn hxk (cell0 12 _ _ (by rw [hobjs]; rfl)) (cell0 11 _ _ (by rw [hobjs]; rfl)) (by omega) (by omega) (no 12 (by decide) (by decide)) (no 11 (by decide) (by decide)) hr2 hr1 (by simp) (enters_of Tryz.func50 (by kernel_rfl) rfl) (fun W hB _ => h4 x hxk W (hG.below' hB)) rfl rfl
    · cases hf
      exact step_day (g := 52) (kd := kd) (wk := wk) (dn := dn) hB0 hG hSS hSN hSw hA hkn hxk (cell0 14 _ _ (by rw [hobjs]; rfl)) (cell0 13 _ _ (by rw [hobjs]; rfl)) (by omega) (by omega) (no 14 (by decide) (by decide)) (no 13 (by decide) (by decide)) hr2 hr1 (by simp) (enters_of Tryz.func52 (by kernel_rfl) rfl) (h5 x hxk) rfl rfl rfl rfl
    · cases hf
      exact step_clk (g := 54) (sc := sc) (kd := ck) hB0 hG hSS hSN hSw hA hkn hxk (cell0 16 _ _ (by rw [hobjs]; rfl)) (cell0 15 _ _ (by rw [hobjs]; rfl)) (by omega) (by omega) (no 16 (by decide) (by decide)) (no 15 (by decide) (by decide)) hr2 hr1 (by simp) (enters_of Tryz.func54 (by kernel_rfl) rfl) (h6 x hxk) rfl rfl rfl
  · rintro e A' ⟨er, rfl, hok, hbad⟩
    have hr0 := at0 0 _ (by rw [hobjs]; rfl)
    by_cases he : er = 0
    · have hA := hok he
      have hmin : min 7 ws.length = ws.length := Nat.min_eq_right h7
      simp only [List.length_cons, List.length_nil, Nat.zero_add, Nat.reduceAdd, hmin] at hA
      exact ⟨er, rfl, hA.kept.below hB0 hSw, (hA.kept.block (w.heap.size + 0) (by omega) (no 0 (by decide) (by decide))).trans hr0, by rw [he]; exact firstE_ok hA.ok, fun _ => hA.str⟩
    · obtain ⟨hK, hFE⟩ := wrong_first (hbad he)
      exact ⟨er, rfl, hK.below hB0 hSw, (hK.block (w.heap.size + 0) (by omega) (no 0 (by decide) (by decide))).trans hr0, hFE, fun h => absurd h he⟩

end Go.Proofs.YtgofleplmnibbaaGreatDoor
