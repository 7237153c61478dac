/-
  A slice of strings that reads as a list of texts.
-/
import Derived.Test.YtgofleplmnibbaaGreatDoorGlob
import Derived.Test.YtgofleplmnibbaaGreatDoorRange
namespace Go.Proofs.YtgofleplmnibbaaGreatDoor
open Go.RowKit Go.Shelf

theorem addr_add0 (g j : Nat) : (⟨g, 0, none⟩ : Addr).add j = ⟨g, j, none⟩ := by
  unfold Addr.add
  split
  · rename_i h; subst h; rfl
  · simp

theorem infoStr : (Tryz.prog.info? 9).map (fun i => (i.zero, i.size, i.bytes)) = some (some (.string ⟨#[]⟩), 1, 16) := by kernel_rfl

def encS (x : List UInt8) : Value := .string ⟨x.toArray⟩

/-- v is a slice of strings that reads as xs; its row lies at or beyond lo. -/
def Strs (lo : Nat) (W : World) (v : Value) (xs : List (List UInt8)) : Prop :=
  ∃ A c, v = .slice A xs.length c ∧ xs.length ≤ c ∧ c ≤ maxLen ∧
    (0 < xs.length → ∃ bk o, A = some ⟨bk, o, none⟩ ∧ lo ≤ bk ∧ bk < W.heap.size ∧ ∀ j x, xs[j]? = some x → W.cell? ⟨bk, o + j, none⟩ = some (.string ⟨x.toArray⟩))

theorem Strs.nil (lo : Nat) (W : World) : Strs lo W (.slice none 0 0) [] := ⟨none, 0, rfl, Nat.le_refl _, Nat.zero_le _, fun h => absurd h (by simp)⟩
theorem Strs.below {lo : Nat} {W W' : World} {v : Value} {xs : List (List UInt8)} (h : Strs lo W v xs) (hb : Below W.heap.size W W') : Strs lo W' v xs := by
  obtain ⟨A, c, hv, hc, hm, hr⟩ := h
  refine ⟨A, c, hv, hc, hm, fun h0 => ?_⟩
  obtain ⟨bk, o, hA, hlo, hlt, hx⟩ := hr h0
  exact ⟨bk, o, hA, hlo, Nat.lt_of_lt_of_le hlt hb.size, fun j x hj => (hb.cell (p := ⟨bk, o + j, none⟩) hlt).trans (hx j x hj)⟩
theorem Strs.setCell {lo : Nat} {W : World} {v : Value} {xs : List (List UInt8)} (h : Strs lo W v xs) {p : Addr} (hp : p.block < lo) (u : Value) : Strs lo (W.setCell p u) v xs := by
  obtain ⟨A, c, hv, hc, hm, hr⟩ := h
  refine ⟨A, c, hv, hc, hm, fun h0 => ?_⟩
  obtain ⟨bk, o, hA, hlo, hlt, hx⟩ := hr h0
  refine ⟨bk, o, hA, hlo, by simpa [World.setCell] using hlt, fun j x hj => ?_⟩
  exact (World.cell?_of_block (w := W) (Below.heap_setCell W p u bk (by omega))).trans (hx j x hj)
theorem Strs.mono {lo lo' : Nat} {W : World} {v : Value} {xs : List (List UInt8)} (h : Strs lo W v xs) (hl : lo' ≤ lo) : Strs lo' W v xs := by
  obtain ⟨A, c, hv, hc, hm, hr⟩ := h
  refine ⟨A, c, hv, hc, hm, fun h0 => ?_⟩
  obtain ⟨bk, o, hA, hlo, hlt, hx⟩ := hr h0
  exact ⟨bk, o, hA, by omega, hlt, hx⟩
theorem Strs.of_own {lo e : Nat} {W : World} {v : Value} {xs : List (List UInt8)} (h : W.ownsRow lo e 1 v xs.length (xs.map encS)) : Strs lo W v xs := by
  rcases h.2 with ⟨rfl, h0⟩ | ⟨g, cap, cur, rfl, hb, hg, hn, hm, hcs, ht⟩
  · cases xs with
    | nil => exact Strs.nil _ _
    | cons x xs => simp at h0
  · refine ⟨_, cap, rfl, hn, hm, fun h0 => ⟨g, 0, rfl, hb, (Array.getElem?_eq_some_iff.1 hg).1, fun j x hj => ?_⟩⟩
    have := h.cells (g := g) rfl j (encS x) (by simp [hj])
    rw [addr_add0] at this
    rw [Nat.zero_add]
    exact this

theorem strs_lit (W : World) (e : TypeId) (xs : List (List UInt8)) (hm : xs.length ≤ maxLen) : Strs W.heap.size (W.alloc (.cells (xs.map encS).toArray e)) (.slice (some ⟨W.heap.size, 0, none⟩) xs.length xs.length) xs := by
  refine ⟨_, _, rfl, Nat.le_refl _, hm, fun _ => ⟨_, 0, rfl, Nat.le_refl _, by simp, fun j x hj => ?_⟩⟩
  rw [World.cell?_alloc_at _ _ _ _ (by simp)]
  simp [encS, hj]

theorem strs_form {lo : Nat} {W : World} {v : Value} {xs : List (List UInt8)} (h : Strs lo W v xs) : ∃ A c, v = .slice A xs.length c := by
  obtain ⟨A, c, rfl, _⟩ := h
  exact ⟨A, c, rfl⟩
theorem strs_at {lo : Nat} {W : World} {A : Option Addr} {c k : Nat} {xs : List (List UInt8)} (h : Strs lo W (.slice A xs.length c) xs) (hk : k < xs.length) :
    ∃ bk o, A = some ⟨bk, o, none⟩ ∧ bk < W.heap.size ∧ W.cell? ⟨bk, o + k, none⟩ = some (.string ⟨xs[k].toArray⟩) := by
  obtain ⟨A', c', hv, hc, hm, hr⟩ := h
  injection hv with e1 e2 e3
  subst e1
  obtain ⟨bk, o, hA, hlo, hlt, hx⟩ := hr (by omega)
  exact ⟨bk, o, hA, hlt, hx k _ (List.getElem?_eq_getElem hk)⟩

end Go.Proofs.YtgofleplmnibbaaGreatDoor
