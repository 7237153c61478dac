/-
  lines.Zone: its own words.
-/
import Derived.Test.YtgofleplmnibbaaGreatDoorLinZz
namespace Go.Proofs.YtgofleplmnibbaaGreatDoor
open Go.RowKit Go.Shelf Lex

def zoneObjs (w : World) (A : Option Addr) (c : Nat) : List Obj := [.cells (eraC eraZ) 40, .cells #[.string ⟨#[]⟩] 9, .cells #[.slice A 2 c] 72, .cells #[.int .i64 2] 3, .cells #[.pointer (some ⟨w.heap.size + 1, 0, none⟩)] 77, .cells #[.func (.func 12) #[] #[]] 25,
  .cells #[.func (.func 93) #[] #[.pointer (some ⟨w.heap.size + 3, 0, none⟩)], .func (.func 95) #[] #[.pointer (some ⟨w.heap.size + 4, 0, none⟩), .pointer (some ⟨w.heap.size + 5, 0, none⟩)]] 74]
def zoneCs (b : Bytes) : Nat → Array Value
  | 0 => #[.string ⟨#[]⟩]
  | 1 => #[.string ⟨#[]⟩]
  | _ => #[.string ⟨b.toArray⟩]

set_option maxHeartbeats 2000000 in
set_option maxRecDepth 100000 in
theorem zone_first (w : World) (hG : Glob w) (A : Option Addr) (c : Nat) (a b : Bytes) (hS : Strs 0 w (.slice A 2 c) [a, b]) (ha : a.length ≤ 100000) (hb : b.length ≤ 100000) (e0 e1 : Int) (h0 : e0 = if (kindN a).2 = 0 ∧ (kindN a).1 = 2 then 0 else 13) (h1 : e1 = if nameF b then 0 else 23)
    (objs : List Obj) (hobjs : objs = zoneObjs w A c) (W0 : World) (hW0 : W0 = allocs w objs) :
    Calls Tryz.prog 43 #[.pointer (some ⟨w.heap.size + 2, 0, none⟩), .slice (some ⟨w.heap.size + 6, 0, none⟩) 2 2] W0 fun e w' => ∃ er, e = .returned (.int .i64 er) ∧ Below w.heap.size w w' ∧ w'.heap[w.heap.size]? = some (.cells (eraC eraZ) 40 (0, 0)) ∧ firstE (errs [e0, e1]) 2 = er ∧ (er = 0 → w'.heap[w.heap.size + 1]? = some (.cells #[.string ⟨b.toArray⟩] 9 (0, 0))) := by
  have hB0 : Below w.heap.size w W0 := by rw [hW0]; exact allocs_below _ _
  have hz0 : W0.heap.size = w.heap.size + 7 := by rw [hW0, allocs_size, hobjs]; rfl
  have at0 : ∀ (i : Nat) (o : Obj), objs[i]? = some o → W0.heap[w.heap.size + i]? = some o := fun i o h => by rw [hW0]; exact allocs_at _ _ _ _ h
  have cell0 : ∀ (i : Nat) (v : Value) (T : TypeId), objs[i]? = some (.cells #[v] T (0, 0)) → W0.cell? ⟨w.heap.size + i, 0, none⟩ = some v := fun i v T h => blk_cell (at0 i _ h) rfl
  have hSS : ∀ k : Nat, (fun _ : Nat => [w.heap.size + 1, w.heap.size + 2]) k ⊆ (fun _ : Nat => [w.heap.size + 1, w.heap.size + 2]) (k + 1) := fun k => List.Subset.refl _
  have hSw : ∀ b ∈ [w.heap.size + 1, w.heap.size + 2], w.heap.size ≤ b := by simp
  refine (first_any w (w.heap.size + 2) (w.heap.size + 6) [(93, #[.pointer (some ⟨w.heap.size + 3, 0, none⟩)]), (95, #[.pointer (some ⟨w.heap.size + 4, 0, none⟩), .pointer (some ⟨w.heap.size + 5, 0, none⟩)])] [a, b]
    (Stage w W0 (fun _ => [w.heap.size + 1, w.heap.size + 2]) (w.heap.size + 1) (w.heap.size + 2) 9 [a, b] (zoneCs b) (errs [e0, e1])) (Wrong W0 [w.heap.size + 1, w.heap.size + 2] 2 (errs [e0, e1])) W0 (by simp) ?_ ?_ ?_ ?_).mono ?_
  · intro f hf
    simp only [List.mem_cons, List.not_mem_nil, or_false] at hf
    rcases hf with rfl | rfl
    · exact enters_of Tryz.func93 (by kernel_rfl) rfl
    · exact enters_of Tryz.func95 (by kernel_rfl) rfl
  · exact ⟨⟨rfl, rfl, rfl, Nat.le_refl _, fun _ _ _ => rfl⟩, fun i hi => absurd hi (Nat.not_lt_zero _), at0 1 _ (by rw [hobjs]; rfl), _, at0 2 _ (by rw [hobjs]; rfl), hS⟩
  · intro k A' hA
    refine ⟨fun j f hf => ?_, hA.kept.below hB0 hSw, hA.rd⟩
    have hL := (hA.kept.block (w.heap.size + 6) (by omega) (by simp)).trans (at0 6 _ (by rw [hobjs]; rfl))
    match j, hf with
    | 0, hf => cases hf; exact blk_cell hL rfl
    | 1, hf => cases hf; exact blk_cell hL rfl
  · intro k f x A' hf hxk hA
    have hk2 : k < 2 := (List.getElem?_eq_some_iff.1 hxk).1
    obtain rfl | rfl : k = 0 ∨ k = 1 := by omega
    · cases hf; cases hxk
      exact step_kind hB0 hSS (fun _ _ => List.Subset.refl _) hSw hA (by omega) rfl ha (cell0 3 _ _ (by rw [hobjs]; rfl)) (by omega) (by simp) (by simp) (by simp) (by simp) rfl h0
    · cases hf; cases hxk
      exact step_name (g := 12) hB0 hG hSS (fun _ _ => List.Subset.refl _) hSw hA (by omega) rfl (cell0 4 _ _ (by rw [hobjs]; rfl)) (cell0 5 _ _ (by rw [hobjs]; rfl)) (by omega) (by omega) (by simp) (by simp) (by simp) (by simp) (by simp) (enters_of Tryz.func12 (by kernel_rfl) rfl) (fun W hW => by show Calls _ _ _ _ (fun e w' => e = .returned (.int .i64 e1) ∧ _); rw [h1]; exact name_any b W hW hb) rfl rfl
  · rintro e A' ⟨er, rfl, hok, hbad⟩
    have hr0 := at0 0 _ (by rw [hobjs]; rfl)
    by_cases he : er = 0
    · have hA := hok he
      exact ⟨er, rfl, hA.kept.below hB0 hSw, (hA.kept.block (w.heap.size + 0) (by omega) (by simp)).trans hr0, by rw [he]; exact firstE_ok hA.ok, fun _ => hA.str⟩
    · obtain ⟨hK, hF⟩ := wrong_first (hbad he)
      exact ⟨er, rfl, hK.below hB0 hSw, (hK.block (w.heap.size + 0) (by omega) (by simp)).trans hr0, hF, fun h => absurd h he⟩

end Go.Proofs.YtgofleplmnibbaaGreatDoor
