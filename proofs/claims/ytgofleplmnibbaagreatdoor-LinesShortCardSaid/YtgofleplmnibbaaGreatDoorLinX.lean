/-
  lines.Rule.
-/
import Derived.Test.YtgofleplmnibbaaGreatDoorLinW
import Derived.Test.YtgofleplmnibbaaGreatDoorLinO
namespace Go.Proofs.YtgofleplmnibbaaGreatDoor.Lex

/-- A rule's cells. -/
structure RuleV where
  nm : Bytes
  fr : Int
  to : Int
  mo : Int
  kd : Int
  wk : Int
  dn : Int
  sc : Int
  ck : Int
  sv : Int
  le : Bytes
def ruleZ : RuleV := ⟨[], 0, 0, 0, 0, 0, 0, 0, 0, 0, []⟩
def ruleEr (a0 a1 a2 a3 a4 a5 a6 a7 a8 a9 : Bytes) : Nat → Int := errs [if (kindN a0).2 = 0 ∧ (kindN a0).1 = 1 then 0 else 13, if setNameF a1 then 0 else 23, (yearL a2).2, (toL a3 (yearL a2).1).2, (dashL a4).2, (monthN a5).2, (dayN a6).2.2.2, (clockN a7).2.2, (spanL a8).2, (letterL a9).2]
def ruleOf (a1 a2 a3 a5 a6 a7 a8 a9 : Bytes) : RuleV := ⟨a1, (yearL a2).1, (toL a3 (yearL a2).1).1, (monthN a5).1, (dayN a6).1, (dayN a6).2.1, (dayN a6).2.2.1, (clockN a7).1, (clockN a7).2.1, (spanL a8).1, (letterL a9).1⟩
/-- A rule, and what is wrong. -/
def ruleN : List Bytes → RuleV × Int
  | [a0, a1, a2, a3, a4, a5, a6, a7, a8, a9] => if firstE (ruleEr a0 a1 a2 a3 a4 a5 a6 a7 a8 a9) 10 = 0 then (ruleOf a1 a2 a3 a5 a6 a7 a8 a9, 0) else (ruleZ, firstE (ruleEr a0 a1 a2 a3 a4 a5 a6 a7 a8 a9) 10)
  | _ => (ruleZ, 14)
theorem list10 {α : Type} {l : List α} (h : l.length = 10) : ∃ a0 a1 a2 a3 a4 a5 a6 a7 a8 a9, l = [a0, a1, a2, a3, a4, a5, a6, a7, a8, a9] := by
  match l, h with
  | [a0, a1, a2, a3, a4, a5, a6, a7, a8, a9], _ => exact ⟨a0, a1, a2, a3, a4, a5, a6, a7, a8, a9, rfl⟩

end Go.Proofs.YtgofleplmnibbaaGreatDoor.Lex
namespace Go.Proofs.YtgofleplmnibbaaGreatDoor
open Go.RowKit Go.Shelf Lex

def ruleC (R : RuleV) : Array Value := #[.string ⟨R.nm.toArray⟩, .int .i64 R.fr, .int .i64 R.to, .int .i64 R.mo, .int .i64 R.kd, .int .i64 R.wk, .int .i64 R.dn, .int .i64 R.sc, .int .i64 R.ck, .int .i64 R.sv, .string ⟨R.le.toArray⟩]
/-- The rule's cells when k words have been read. -/
def ruleCs (R : RuleV) : Nat → Array Value
  | 0 => ruleC ⟨[], 0, 0, 0, 0, 0, 0, 0, 0, 0, []⟩
  | 1 => ruleC ⟨[], 0, 0, 0, 0, 0, 0, 0, 0, 0, []⟩
  | 2 => ruleC ⟨R.nm, 0, 0, 0, 0, 0, 0, 0, 0, 0, []⟩
  | 3 => ruleC ⟨R.nm, R.fr, 0, 0, 0, 0, 0, 0, 0, 0, []⟩
  | 4 => ruleC ⟨R.nm, R.fr, R.to, 0, 0, 0, 0, 0, 0, 0, []⟩
  | 5 => ruleC ⟨R.nm, R.fr, R.to, 0, 0, 0, 0, 0, 0, 0, []⟩
  | 6 => ruleC ⟨R.nm, R.fr, R.to, R.mo, 0, 0, 0, 0, 0, 0, []⟩
  | 7 => ruleC ⟨R.nm, R.fr, R.to, R.mo, R.kd, R.wk, R.dn, 0, 0, 0, []⟩
  | 8 => ruleC ⟨R.nm, R.fr, R.to, R.mo, R.kd, R.wk, R.dn, R.sc, R.ck, 0, []⟩
  | 9 => ruleC ⟨R.nm, R.fr, R.to, R.mo, R.kd, R.wk, R.dn, R.sc, R.ck, R.sv, []⟩
  | _ => ruleC R

theorem cells11 {w : World} {b : Nat} {T : TypeId} {R : RuleV} (h : w.heap[b]? = some (.cells (ruleC R) T (0, 0))) :
    (w.cell? ⟨b, 0, none⟩ = some (.string ⟨R.nm.toArray⟩) ∧ w.cell? ⟨b, 1, none⟩ = some (.int .i64 R.fr) ∧ w.cell? ⟨b, 2, none⟩ = some (.int .i64 R.to) ∧ w.cell? ⟨b, 3, none⟩ = some (.int .i64 R.mo) ∧ w.cell? ⟨b, 4, none⟩ = some (.int .i64 R.kd) ∧ w.cell? ⟨b, 5, none⟩ = some (.int .i64 R.wk) ∧ w.cell? ⟨b, 6, none⟩ = some (.int .i64 R.dn) ∧ w.cell? ⟨b, 7, none⟩ = some (.int .i64 R.sc) ∧ w.cell? ⟨b, 8, none⟩ = some (.int .i64 R.ck) ∧ w.cell? ⟨b, 9, none⟩ = some (.int .i64 R.sv) ∧ w.cell? ⟨b, 10, none⟩ = some (.string ⟨R.le.toArray⟩)) ∧ ∀ i, w.frozen? ⟨b, i, none⟩ = false :=
  ⟨⟨blk_cell h rfl, blk_cell h rfl, blk_cell h rfl, blk_cell h rfl, blk_cell h rfl, blk_cell h rfl, blk_cell h rfl, blk_cell h rfl, blk_cell h rfl, blk_cell h rfl, blk_cell h rfl⟩, fun i => Lib.frozen_of_heap h i⟩

theorem rule_sets {W : World} {b : Nat} {R : RuleV} {T : TypeId} (v0 v1 v2 v3 v4 v5 v6 v7 v8 v9 v10 : Value) (h : W.heap[b]? = some (.cells (ruleC R) T (0, 0))) : (((((((((((W.setCell ⟨b, 0, none⟩ v0).setCell ⟨b, 1, none⟩ v1).setCell ⟨b, 2, none⟩ v2).setCell ⟨b, 3, none⟩ v3).setCell ⟨b, 4, none⟩ v4).setCell ⟨b, 5, none⟩ v5).setCell ⟨b, 6, none⟩ v6).setCell ⟨b, 7, none⟩ v7).setCell ⟨b, 8, none⟩ v8).setCell ⟨b, 9, none⟩ v9).setCell ⟨b, 10, none⟩ v10).heap[b]? = some (.cells #[v0, v1, v2, v3, v4, v5, v6, v7, v8, v9, v10] T (0, 0)) := by
  have := blk_set 10 v10 (blk_set 9 v9 (blk_set 8 v8 (blk_set 7 v7 (blk_set 6 v6 (blk_set 5 v5 (blk_set 4 v4 (blk_set 3 v3 (blk_set 2 v2 (blk_set 1 v1 (blk_set 0 v0 (h)))))))))))
  simpa only [ruleC, List.setIfInBounds_toArray, List.set_cons_succ, List.set_cons_zero] using this

theorem ruleRet {W : World} {b : Nat} {R : RuleV} {e : Int} {tmps : Array Value} {Q : Ending → World → Prop} (h2 : tmps.getD 2 undef = .pointer (some ⟨b, 0, none⟩)) (h3 : tmps.getD 3 undef = .int .i64 e)
    (hb : W.heap[b]? = some (.cells (ruleC R) 34 (0, 0))) (hR : Q (.returned (.tuple #[.agg (ruleC R), .int .i64 e])) W) :
    bodyPost Tryz.prog Tryz.f19 Q .ret { tmps := tmps, defers := [] } W := by
  obtain ⟨⟨c0, c1, c2, c3, c4, c5, c6, c7, c8, c9, c10⟩, _⟩ := cells11 hb
  refine bodyPost_ret_by ?_ rfl hR
  rw [results_cell_tmp rfl, h2, h3]
  simp [go_sem, ruleC, c0, c1, c2, c3, c4, c5, c6, c7, c8, c9, c10]

def ruleObjs (w : World) (A : Option Addr) (c : Nat) : List Obj := [.cells (ruleC ruleZ) 34, .cells (ruleC ruleZ) 34, .cells #[.string ⟨#[]⟩] 9, .cells #[.slice A 10 c] 72, .cells #[.int .i64 1] 3, .cells #[.pointer (some ⟨w.heap.size + 1, 0, none⟩)] 77, .cells #[.func (.func 14) #[] #[]] 25, .cells #[.pointer (some ⟨w.heap.size + 1, 1, none⟩)] 79, .cells #[.func (.func 47) #[] #[]] 69, .cells #[.pointer (some ⟨w.heap.size + 1, 2, none⟩)] 79, .cells #[.func (.func 41) #[] #[.pointer (some ⟨w.heap.size + 1, 0, none⟩)]] 69, .cells #[.pointer (some ⟨w.heap.size + 2, 0, none⟩)] 77, .cells #[.func (.func 49) #[] #[]] 81, .cells #[.pointer (some ⟨w.heap.size + 1, 3, none⟩)] 79, .cells #[.func (.func 50) #[] #[]] 69, .cells #[.pointer (some ⟨w.heap.size + 1, 4, none⟩)] 83, .cells #[.func (.func 52) #[] #[]] 84, .cells #[.pointer (some ⟨w.heap.size + 1, 7, none⟩)] 86, .cells #[.func (.func 54) #[] #[]] 87, .cells #[.pointer (some ⟨w.heap.size + 1, 9, none⟩)] 79, .cells #[.func (.func 55) #[] #[]] 69, .cells #[.pointer (some ⟨w.heap.size + 1, 10, none⟩)] 77, .cells #[.func (.func 56) #[] #[]] 81, .cells #[.func (.func 93) #[] #[.pointer (some ⟨w.heap.size + 4, 0, none⟩)], .func (.func 95) #[] #[.pointer (some ⟨w.heap.size + 5, 0, none⟩), .pointer (some ⟨w.heap.size + 6, 0, none⟩)], .func (.func 96) #[] #[.pointer (some ⟨w.heap.size + 8, 0, none⟩), .pointer (some ⟨w.heap.size + 7, 0, none⟩)], .func (.func 96) #[] #[.pointer (some ⟨w.heap.size + 10, 0, none⟩), .pointer (some ⟨w.heap.size + 9, 0, none⟩)], .func (.func 97) #[] #[.pointer (some ⟨w.heap.size + 12, 0, none⟩), .pointer (some ⟨w.heap.size + 11, 0, none⟩)], .func (.func 96) #[] #[.pointer (some ⟨w.heap.size + 14, 0, none⟩), .pointer (some ⟨w.heap.size + 13, 0, none⟩)], .func (.func 98) #[] #[.pointer (some ⟨w.heap.size + 16, 0, none⟩), .pointer (some ⟨w.heap.size + 15, 0, none⟩)], .func (.func 103) #[] #[.pointer (some ⟨w.heap.size + 18, 0, none⟩), .pointer (some ⟨w.heap.size + 17, 0, none⟩)], .func (.func 96) #[] #[.pointer (some ⟨w.heap.size + 20, 0, none⟩), .pointer (some ⟨w.heap.size + 19, 0, none⟩)], .func (.func 97) #[] #[.pointer (some ⟨w.heap.size + 22, 0, none⟩), .pointer (some ⟨w.heap.size + 21, 0, none⟩)]] 74]

set_option maxHeartbeats 8000000 in
set_option maxRecDepth 100000 in
theorem rule_first (w : World) (hG : Glob w) (A : Option Addr) (c : Nat) (a0 a1 a2 a3 a4 a5 a6 a7 a8 a9 : Bytes) (hS : Strs 0 w (.slice A 10 c) [a0, a1, a2, a3, a4, a5, a6, a7, a8, a9]) (hl0 : a0.length ≤ 100000)
    (e0 e1 e2 e3 e4 e5 e6 e7 e8 e9 fr to mo kd wk dn sc ck sv : Int) (le dm : Bytes) (h0 : e0 = if (kindN a0).2 = 0 ∧ (kindN a0).1 = 1 then 0 else 13)
    (h1 : ∀ W, Glob W → Calls Tryz.prog 14 #[.string ⟨a1.toArray⟩] W fun e w' => e = .returned (.int .i64 e1) ∧ Below W.heap.size W w') (h2 : Parses 47 a2 (.int .i64 fr) e2)
    (h3 : ∀ W b, Glob W → W.cell? ⟨b, 1, none⟩ = some (.int .i64 fr) → b < W.heap.size → Calls Tryz.prog 41 #[.string ⟨a3.toArray⟩, .pointer (some ⟨b, 0, none⟩)] W fun e w' => e = .returned (.tuple #[.int .i64 to, .int .i64 e3]) ∧ Below W.heap.size W w')
    (h4 : Parses 49 a4 (.string ⟨dm.toArray⟩) e4) (h5 : Parses 50 a5 (.int .i64 mo) e5) (h6 : Parses 52 a6 (.agg #[.int .i64 kd, .int .i64 wk, .int .i64 dn]) e6)
    (h7 : Parses 54 a7 (.agg #[.int .i64 sc, .int .i64 ck]) e7) (h8 : Parses 55 a8 (.int .i64 sv) e8) (h9 : Parses 56 a9 (.string ⟨le.toArray⟩) e9)
    (objs : List Obj) (hobjs : objs = ruleObjs w A c) (W0 : World) (hW0 : W0 = allocs w objs) :
    Calls Tryz.prog 43 #[.pointer (some ⟨w.heap.size + 3, 0, none⟩), .slice (some ⟨w.heap.size + 23, 0, none⟩) 10 10] W0 fun e w' => ∃ er, e = .returned (.int .i64 er) ∧ Below w.heap.size w w' ∧ w'.heap[w.heap.size]? = some (.cells (ruleC ruleZ) 34 (0, 0)) ∧ firstE (errs [e0, e1, e2, e3, e4, e5, e6, e7, e8, e9]) 10 = er ∧ (er = 0 → w'.heap[w.heap.size + 1]? = some (.cells (ruleC ⟨a1, fr, to, mo, kd, wk, dn, sc, ck, sv, le⟩) 34 (0, 0))) := by
  have hB0 : Below w.heap.size w W0 := by rw [hW0]; exact allocs_below _ _
  have hz0 : W0.heap.size = w.heap.size + 24 := by rw [hW0, allocs_size, hobjs]; rfl
  have at0 : ∀ (i : Nat) (o : Obj), objs[i]? = some o → W0.heap[w.heap.size + i]? = some o := fun i o h => by rw [hW0]; exact allocs_at _ _ _ _ h
  have cell0 : ∀ (i : Nat) (v : Value) (T : TypeId), objs[i]? = some (.cells #[v] T (0, 0)) → W0.cell? ⟨w.heap.size + i, 0, none⟩ = some v := fun i v T h => blk_cell (at0 i _ h) rfl
  obtain ⟨S, hS0⟩ : ∃ S : Nat → List Nat, S = (fun k : Nat => if k ≤ 4 then [w.heap.size + 1, w.heap.size + 3] else [w.heap.size + 1, w.heap.size + 3, w.heap.size + 2]) := ⟨_, rfl⟩
  have s_lo : ∀ k, k ≤ 4 → S k = [w.heap.size + 1, w.heap.size + 3] := fun k h => by rw [hS0]; exact if_pos h
  have s_hi : ∀ k, 4 < k → S k = [w.heap.size + 1, w.heap.size + 3, w.heap.size + 2] := fun k h => by rw [hS0]; exact if_neg (by omega)
  have mem : ∀ k b, b ∈ S k → b = w.heap.size + 1 ∨ b = w.heap.size + 3 ∨ b = w.heap.size + 2 := fun k b hb => by
    by_cases h : k ≤ 4
    · rw [s_lo k h] at hb; simp at hb; omega
    · rw [s_hi k (by omega)] at hb; simp at hb; omega
  have hr1 : ∀ k, w.heap.size + 1 ∈ S k := fun k => by by_cases h : k ≤ 4; (rw [s_lo k h]; simp); (rw [s_hi k (by omega)]; simp)
  have hr3 : ∀ k, w.heap.size + 3 ∈ S k := fun k => by by_cases h : k ≤ 4; (rw [s_lo k h]; simp); (rw [s_hi k (by omega)]; simp)
  have sub : ∀ j k, j ≤ k → S j ⊆ S k := fun j k hjk b hb => by
    by_cases h : k ≤ 4
    · rw [s_lo j (by omega)] at hb; rwa [s_lo k h]
    · rw [s_hi k (by omega)]
      rcases mem j b hb with h | h | h <;> simp [h]
  have hSS : ∀ k, S k ⊆ S (k + 1) := fun k => sub k (k + 1) (by omega)
  have hSN : ∀ k, k ≤ 10 → S k ⊆ S 10 := fun k h => sub k 10 h
  have hSw : ∀ k, ∀ b ∈ S k, w.heap.size ≤ b := fun k b hb => by rcases mem k b hb with h | h | h <;> omega
  have no : ∀ k i, i ≠ 1 → i ≠ 2 → i ≠ 3 → w.heap.size + i ∉ S k := fun k i h1 h2 h3 hm => by rcases mem k _ hm with h | h | h <;> omega
  refine (first_any w (w.heap.size + 3) (w.heap.size + 23) [(93, #[.pointer (some ⟨w.heap.size + 4, 0, none⟩)]), (95, #[.pointer (some ⟨w.heap.size + 5, 0, none⟩), .pointer (some ⟨w.heap.size + 6, 0, none⟩)]), (96, #[.pointer (some ⟨w.heap.size + 8, 0, none⟩), .pointer (some ⟨w.heap.size + 7, 0, none⟩)]), (96, #[.pointer (some ⟨w.heap.size + 10, 0, none⟩), .pointer (some ⟨w.heap.size + 9, 0, none⟩)]), (97, #[.pointer (some ⟨w.heap.size + 12, 0, none⟩), .pointer (some ⟨w.heap.size + 11, 0, none⟩)]), (96, #[.pointer (some ⟨w.heap.size + 14, 0, none⟩), .pointer (some ⟨w.heap.size + 13, 0, none⟩)]), (98, #[.pointer (some ⟨w.heap.size + 16, 0, none⟩), .pointer (some ⟨w.heap.size + 15, 0, none⟩)]), (103, #[.pointer (some ⟨w.heap.size + 18, 0, none⟩), .pointer (some ⟨w.heap.size + 17, 0, none⟩)]), (96, #[.pointer (some ⟨w.heap.size + 20, 0, none⟩), .pointer (some ⟨w.heap.size + 19, 0, none⟩)]), (97, #[.pointer (some ⟨w.heap.size + 22, 0, none⟩), .pointer (some ⟨w.heap.size + 21, 0, none⟩)])] [a0, a1, a2, a3, a4, a5, a6, a7, a8, a9]
    (Stage w W0 S (w.heap.size + 1) (w.heap.size + 3) 34 [a0, a1, a2, a3, a4, a5, a6, a7, a8, a9] (ruleCs ⟨a1, fr, to, mo, kd, wk, dn, sc, ck, sv, le⟩) (errs [e0, e1, e2, e3, e4, e5, e6, e7, e8, e9])) (Wrong W0 (S 10) 10 (errs [e0, e1, e2, e3, e4, e5, e6, e7, e8, e9])) W0 (by simp) ?_ ?_ ?_ ?_).mono ?_
  · intro f hf
    simp only [List.mem_cons, List.not_mem_nil, or_false] at hf
    rcases hf with rfl | rfl | rfl | rfl | rfl | rfl | rfl | rfl | rfl | rfl
    · exact enters_of Tryz.func93 (by kernel_rfl) rfl
    · exact enters_of Tryz.func95 (by kernel_rfl) rfl
    · exact enters_of Tryz.func96 (by kernel_rfl) rfl
    · exact enters_of Tryz.func96 (by kernel_rfl) rfl
    · exact enters_of Tryz.func97 (by kernel_rfl) rfl
    · exact enters_of Tryz.func96 (by kernel_rfl) rfl
    · exact enters_of Tryz.func98 (by kernel_rfl) rfl
    · exact enters_of Tryz.func103 (by kernel_rfl) rfl
    · exact enters_of Tryz.func96 (by kernel_rfl) rfl
    · exact enters_of Tryz.func97 (by kernel_rfl) rfl
  · exact ⟨⟨rfl, rfl, rfl, Nat.le_refl _, fun _ _ _ => rfl⟩, fun i hi => absurd hi (Nat.not_lt_zero _), at0 1 _ (by rw [hobjs]; rfl), _, at0 3 _ (by rw [hobjs]; rfl), hS⟩
  · intro k A' hA
    refine ⟨fun j f hf => ?_, hA.kept.below hB0 (hSw k), hA.rd⟩
    have hL := (hA.kept.block (w.heap.size + 23) (by omega) (no k 23 (by decide) (by decide) (by decide))).trans (at0 23 _ (by rw [hobjs]; rfl))
    match j, hf with
    | 0, hf => cases hf; exact blk_cell hL rfl
    | 1, hf => cases hf; exact blk_cell hL rfl
    | 2, hf => cases hf; exact blk_cell hL rfl
    | 3, hf => cases hf; exact blk_cell hL rfl
    | 4, hf => cases hf; exact blk_cell hL rfl
    | 5, hf => cases hf; exact blk_cell hL rfl
    | 6, hf => cases hf; exact blk_cell hL rfl
    | 7, hf => cases hf; exact blk_cell hL rfl
    | 8, hf => cases hf; exact blk_cell hL rfl
    | 9, hf => cases hf; exact blk_cell hL rfl
  · intro k f x A' hf hxk hA
    have hk10 : k < 10 := (List.getElem?_eq_some_iff.1 hxk).1
    obtain rfl | rfl | rfl | rfl | rfl | rfl | rfl | rfl | rfl | rfl : k = 0 ∨ k = 1 ∨ k = 2 ∨ k = 3 ∨ k = 4 ∨ k = 5 ∨ k = 6 ∨ k = 7 ∨ k = 8 ∨ k = 9 := by omega
    · cases hf; cases hxk
      exact step_kind hB0 hSS hSN (hSw _) hA (by omega) rfl hl0 (cell0 4 _ _ (by rw [hobjs]; rfl)) (by omega) (no 0 4 (by decide) (by decide) (by decide)) (hr3 _) (by simp) (hr3 _) rfl h0
    · cases hf; cases hxk
      exact step_name (g := 14) hB0 hG hSS hSN (hSw _) hA (by omega) rfl (cell0 5 _ _ (by rw [hobjs]; rfl)) (cell0 6 _ _ (by rw [hobjs]; rfl)) (by omega) (by omega) (no 1 5 (by decide) (by decide) (by decide)) (no 1 6 (by decide) (by decide) (by decide)) (hr3 _) (hr1 _) (by simp) (enters_of Tryz.func14 (by kernel_rfl) rfl) h1 rfl rfl
    · cases hf; cases hxk
      exact step_int (g := 47) (lb := #[]) (n := fr) hB0 hSS hSN (hSw _) hA (by omega) rfl (cell0 8 _ _ (by rw [hobjs]; rfl)) (cell0 7 _ _ (by rw [hobjs]; rfl)) (by omega) (by omega) (no 2 8 (by decide) (by decide) (by decide)) (no 2 7 (by decide) (by decide) (by decide)) (hr3 _) (hr1 _) (by simp) (enters_of Tryz.func47 (by kernel_rfl) rfl) (fun W hB _ => h2 W (hG.below' hB)) rfl rfl
    · cases hf; cases hxk
      exact step_int (g := 41) (lb := #[.pointer (some ⟨w.heap.size + 1, 0, none⟩)]) (n := to) hB0 hSS hSN (hSw _) hA (by omega) rfl (cell0 10 _ _ (by rw [hobjs]; rfl)) (cell0 9 _ _ (by rw [hobjs]; rfl)) (by omega) (by omega) (no 3 10 (by decide) (by decide) (by decide)) (no 3 9 (by decide) (by decide) (by decide)) (hr3 _) (hr1 _) (by simp) (enters_of Tryz.func41 (by kernel_rfl) rfl) (fun W hB hr => h3 W (w.heap.size + 1) (hG.below' hB) (blk_cell hr rfl) (Array.getElem?_eq_some_iff.1 hr).1) rfl rfl
    · cases hf; cases hxk
      exact step_dash (g := 49) (y := dm) hB0 hG hSS hSN (hSw _) hA (by omega) rfl (cell0 12 _ _ (by rw [hobjs]; rfl)) (cell0 11 _ _ (by rw [hobjs]; rfl)) (by omega) (by omega) (no 4 12 (by decide) (by decide) (by decide)) (no 4 11 (by decide) (by decide) (by decide)) (hr3 _) (by simp) (enters_of Tryz.func49 (by kernel_rfl) rfl) h4 (at0 2 _ (by rw [hobjs]; rfl)) (by rw [s_lo 4 (by omega)]; simp) (by rw [s_hi 5 (by omega)]; simp) (by simp) (by simp) rfl
    · cases hf; cases hxk
      exact step_int (g := 50) (lb := #[]) (n := mo) hB0 hSS hSN (hSw _) hA (by omega) rfl (cell0 14 _ _ (by rw [hobjs]; rfl)) (cell0 13 _ _ (by rw [hobjs]; rfl)) (by omega) (by omega) (no 5 14 (by decide) (by decide) (by decide)) (no 5 13 (by decide) (by decide) (by decide)) (hr3 _) (hr1 _) (by simp) (enters_of Tryz.func50 (by kernel_rfl) rfl) (fun W hB _ => h5 W (hG.below' hB)) rfl rfl
    · cases hf; cases hxk
      exact step_day (g := 52) (kd := kd) (wk := wk) (dn := dn) hB0 hG hSS hSN (hSw _) hA (by omega) rfl (cell0 16 _ _ (by rw [hobjs]; rfl)) (cell0 15 _ _ (by rw [hobjs]; rfl)) (by omega) (by omega) (no 6 16 (by decide) (by decide) (by decide)) (no 6 15 (by decide) (by decide) (by decide)) (hr3 _) (hr1 _) (by simp) (enters_of Tryz.func52 (by kernel_rfl) rfl) h6 rfl rfl rfl rfl
    · cases hf; cases hxk
      exact step_clk (g := 54) (sc := sc) (kd := ck) hB0 hG hSS hSN (hSw _) hA (by omega) rfl (cell0 18 _ _ (by rw [hobjs]; rfl)) (cell0 17 _ _ (by rw [hobjs]; rfl)) (by omega) (by omega) (no 7 18 (by decide) (by decide) (by decide)) (no 7 17 (by decide) (by decide) (by decide)) (hr3 _) (hr1 _) (by simp) (enters_of Tryz.func54 (by kernel_rfl) rfl) h7 rfl rfl rfl
    · cases hf; cases hxk
      exact step_int (g := 55) (lb := #[]) (n := sv) hB0 hSS hSN (hSw _) hA (by omega) rfl (cell0 20 _ _ (by rw [hobjs]; rfl)) (cell0 19 _ _ (by rw [hobjs]; rfl)) (by omega) (by omega) (no 8 20 (by decide) (by decide) (by decide)) (no 8 19 (by decide) (by decide) (by decide)) (hr3 _) (hr1 _) (by simp) (enters_of Tryz.func55 (by kernel_rfl) rfl) (fun W hB _ => h8 W (hG.below' hB)) rfl rfl
    · cases hf; cases hxk
      exact step_str (g := 56) (y := le) hB0 hG hSS hSN (hSw _) hA (by omega) rfl (cell0 22 _ _ (by rw [hobjs]; rfl)) (cell0 21 _ _ (by rw [hobjs]; rfl)) (by omega) (by omega) (no 9 22 (by decide) (by decide) (by decide)) (no 9 21 (by decide) (by decide) (by decide)) (hr3 _) (hr1 _) (by simp) (enters_of Tryz.func56 (by kernel_rfl) rfl) h9 rfl rfl
  · rintro e A' ⟨er, rfl, hok, hbad⟩
    have hr0 := at0 0 _ (by rw [hobjs]; rfl)
    by_cases he : er = 0
    · have hA := hok he
      exact ⟨er, rfl, hA.kept.below hB0 (hSw _), (hA.kept.block (w.heap.size + 0) (by omega) (no _ 0 (by decide) (by decide) (by decide))).trans hr0, by rw [he]; exact firstE_ok hA.ok, fun _ => hA.str⟩
    · obtain ⟨hK, hFE⟩ := wrong_first (hbad he)
      exact ⟨er, rfl, hK.below hB0 (hSw _), (hK.block (w.heap.size + 0) (by omega) (no _ 0 (by decide) (by decide) (by decide))).trans hr0, hFE, fun h => absurd h he⟩

set_option maxHeartbeats 8000000 in
set_option maxRecDepth 100000 in
theorem rule_any (ws : List Bytes) (v : Value) (w : World) (hG : Glob w) (hS : Strs 0 w v ws) (hx : ∀ x ∈ ws, x.length ≤ 50000) (hF : ∀ x ∈ ws, FoldAt x) :
    Calls Tryz.prog 19 #[v] w fun e w' => e = .returned (.tuple #[.agg (ruleC (ruleN ws).1), .int .i64 (ruleN ws).2]) ∧ Below w.heap.size w w' := by
  obtain ⟨A, c, rfl⟩ := strs_form hS
  obtain ⟨res, HR⟩ : ∃ res, Hid (ruleN ws = res) := ⟨_, Lib.hid rfl⟩
  rw [HR.out]
  by_cases h10 : ws.length = 10
  · obtain ⟨a0, a1, a2, a3, a4, a5, a6, a7, a8, a9, rfl⟩ := list10 h10
    have hl : ∀ x ∈ [a0, a1, a2, a3, a4, a5, a6, a7, a8, a9], x.length ≤ 100000 := fun x hm => Nat.le_trans (hx x hm) (by decide)
    have HFI := Lib.hid (rule_first w hG A c a0 a1 a2 a3 a4 a5 a6 a7 a8 a9 hS (hl a0 (by simp)) _ _ _ _ _ _ _ _ _ _ _ _ _ _ _ _ _ _ _ _ _ rfl (fun W hW => setName_any a1 W hW (hl a1 (by simp))) (fun W hW => yearL_any a2 W hW (hl a2 (by simp))) (fun W b hW hc hb => toL_any a3 b (yearL a2).1 W hW (hl a3 (by simp)) hc hb) (fun W _ => dashL_any a4 W) (fun W hW => month_any a5 W hW (hl a5 (by simp))) (fun W hW => dayParse_any a6 W hW (hl a6 (by simp)) (hF a6 (by simp))) (fun W hW => clockParse_any a7 W hW (hl a7 (by simp))) (fun W hW => spanL_any a8 W hW (hl a8 (by simp))) (fun W hW => letterL_any a9 W hW (hl a9 (by simp))) _ rfl _ rfl)
    have HRR : Hid ((if firstE (ruleEr a0 a1 a2 a3 a4 a5 a6 a7 a8 a9) 10 = 0 then ((ruleOf a1 a2 a3 a5 a6 a7 a8 a9), (0 : Int)) else (ruleZ, firstE (ruleEr a0 a1 a2 a3 a4 a5 a6 a7 a8 a9) 10)) = res) := Lib.hid HR.out
    clear hx hl h10 hS hF HR
    go_enter Tryz.func19, Tryz.ntmps19
    go_wp2_with fail
    refine (kind_make 1 _).mono ?_
    rintro e W ⟨rfl, rfl⟩
    go_wp2_with fail
    refine (name_make ⟨w.heap.size + 1, 0, none⟩ 14 _).mono ?_
    rintro e W ⟨rfl, rfl⟩
    go_wp2_with fail
    refine (valueInt_make ⟨w.heap.size + 1, 1, none⟩ 47 #[] _).mono ?_
    rintro e W ⟨rfl, rfl⟩
    go_wp2_with fail
    refine (valueInt_make ⟨w.heap.size + 1, 2, none⟩ 41 #[.pointer (some ⟨w.heap.size + 1, 0, none⟩)] _).mono ?_
    rintro e W ⟨rfl, rfl⟩
    go_wp2_with fail
    refine (valueStr_make ⟨w.heap.size + 2, 0, none⟩ 49 #[] _).mono ?_
    rintro e W ⟨rfl, rfl⟩
    go_wp2_with fail
    refine (valueInt_make ⟨w.heap.size + 1, 3, none⟩ 50 #[] _).mono ?_
    rintro e W ⟨rfl, rfl⟩
    go_wp2_with fail
    refine (valueDay_make ⟨w.heap.size + 1, 4, none⟩ 52 #[] _).mono ?_
    rintro e W ⟨rfl, rfl⟩
    go_wp2_with fail
    refine (valueClk_make ⟨w.heap.size + 1, 7, none⟩ 54 #[] _).mono ?_
    rintro e W ⟨rfl, rfl⟩
    go_wp2_with fail
    refine (valueInt_make ⟨w.heap.size + 1, 9, none⟩ 55 #[] _).mono ?_
    rintro e W ⟨rfl, rfl⟩
    go_wp2_with fail
    refine (valueStr_make ⟨w.heap.size + 1, 10, none⟩ 56 #[] _).mono ?_
    rintro e W ⟨rfl, rfl⟩
    go_wp2_with fail
    refine HFI.out.mono ?_
    clear HFI
    rintro e A' ⟨er, rfl, hB, hr0, hE, hok⟩
    have HE : Hid (firstE (ruleEr a0 a1 a2 a3 a4 a5 a6 a7 a8 a9) 10 = er) := Lib.hid hE
    have HR0 := Lib.hid hr0
    obtain ⟨⟨c0, c1, c2, c3, c4, c5, c6, c7, c8, c9, c10⟩, f0⟩ := cells11 hr0
    clear hE hr0
    by_cases he : er = 0
    · have hs := hok he
      obtain ⟨⟨d0, d1, d2, d3, d4, d5, d6, d7, d8, d9, d10⟩, g0⟩ := cells11 hs
      have HX : Hid (((ruleOf a1 a2 a3 a5 a6 a7 a8 a9), (0 : Int)) = res) := Lib.hid (by rw [← HRR.out, HE.out, if_pos he])
      subst he
      clear hs hok
      go_wp2_with fail
      refine ruleRet rfl rfl (R := (ruleOf a1 a2 a3 a5 a6 a7 a8 a9)) (rule_sets _ _ _ _ _ _ _ _ _ _ _ HR0.out) ?_
      exact ⟨by rw [← HX.out], (((((((((((hB.setCell (p := ⟨w.heap.size, 0, none⟩) (Nat.le_refl _) _).setCell (p := ⟨w.heap.size, 1, none⟩) (Nat.le_refl _) _).setCell (p := ⟨w.heap.size, 2, none⟩) (Nat.le_refl _) _).setCell (p := ⟨w.heap.size, 3, none⟩) (Nat.le_refl _) _).setCell (p := ⟨w.heap.size, 4, none⟩) (Nat.le_refl _) _).setCell (p := ⟨w.heap.size, 5, none⟩) (Nat.le_refl _) _).setCell (p := ⟨w.heap.size, 6, none⟩) (Nat.le_refl _) _).setCell (p := ⟨w.heap.size, 7, none⟩) (Nat.le_refl _) _).setCell (p := ⟨w.heap.size, 8, none⟩) (Nat.le_refl _) _).setCell (p := ⟨w.heap.size, 9, none⟩) (Nat.le_refl _) _).setCell (p := ⟨w.heap.size, 10, none⟩) (Nat.le_refl _) _)⟩
    · have heb : (er != 0) = true := by rw [bne_iff_ne]; exact he
      have HX : Hid ((ruleZ, er) = res) := Lib.hid (by rw [← HRR.out, HE.out, if_neg he])
      clear hok
      go_wp2_with fail
      refine ruleRet rfl rfl (R := ruleZ) (rule_sets _ _ _ _ _ _ _ _ _ _ _ HR0.out) ?_
      exact ⟨by rw [← HX.out], (((((((((((hB.setCell (p := ⟨w.heap.size, 0, none⟩) (Nat.le_refl _) _).setCell (p := ⟨w.heap.size, 1, none⟩) (Nat.le_refl _) _).setCell (p := ⟨w.heap.size, 2, none⟩) (Nat.le_refl _) _).setCell (p := ⟨w.heap.size, 3, none⟩) (Nat.le_refl _) _).setCell (p := ⟨w.heap.size, 4, none⟩) (Nat.le_refl _) _).setCell (p := ⟨w.heap.size, 5, none⟩) (Nat.le_refl _) _).setCell (p := ⟨w.heap.size, 6, none⟩) (Nat.le_refl _) _).setCell (p := ⟨w.heap.size, 7, none⟩) (Nat.le_refl _) _).setCell (p := ⟨w.heap.size, 8, none⟩) (Nat.le_refl _) _).setCell (p := ⟨w.heap.size, 9, none⟩) (Nat.le_refl _) _).setCell (p := ⟨w.heap.size, 10, none⟩) (Nat.le_refl _) _)⟩
  · have HX : Hid ((ruleZ, (14 : Int)) = res) := Lib.hid (by
      rw [← HR.out]
      unfold ruleN
      split
      · simp at h10
      · rfl)
    have h10b : ((ws.length : Int) != 10) = true := by rw [bne_iff_ne]; omega
    go_enter Tryz.func19, Tryz.ntmps19
    go_wp2_with fail
    refine ruleRet rfl rfl (R := ruleZ) (World.alloc_heap_new _ _) ?_
    exact ⟨by rw [← HX.out], (Below.refl _ w).alloc (Nat.le_refl _) _⟩

end Go.Proofs.YtgofleplmnibbaaGreatDoor
