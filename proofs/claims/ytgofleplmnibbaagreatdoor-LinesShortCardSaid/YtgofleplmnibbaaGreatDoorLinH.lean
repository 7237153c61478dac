/-
  words.Kind, Month, Weekday.
-/
import Derived.Test.YtgofleplmnibbaaGreatDoorLinG
namespace Go.Proofs.YtgofleplmnibbaaGreatDoor.Lex

def kindNames : List Bytes := [[114, 117, 108, 101], [122, 111, 110, 101], [108, 105, 110, 107]]
def kindN (x : Bytes) : Int × Int := match findF x kindNames with
  | some i => (1 + i, 0)
  | none => (0, 13)
def monthN (x : Bytes) : Int × Int := match findF x monthNames with
  | some i => (i + 1, 0)
  | none => (0, 13)
theorem hits_lt (w : Bytes) : ∀ (i : Nat) (ls : List Bytes), ∀ y ∈ hits w i ls, y.1 < i + ls.length
  | _, [], y, hy => by simp [hits] at hy
  | i, x :: r, y, hy => by
    have ih := hits_lt w (i + 1) r y
    unfold hits at hy
    simp only [List.length_cons]
    split at hy
    · rcases List.mem_cons.1 hy with rfl | hy
      · simp
      · have := ih hy; omega
    · have := ih hy; omega
theorem findF_lt {w : Bytes} {ls : List Bytes} {i : Nat} (h : findF w ls = some i) : i < ls.length := by
  unfold findF at h
  split at h
  · rename_i x hx
    have := hits_lt _ 0 ls x (List.mem_of_find?_eq_some hx)
    simp at h
    omega
  · split at h
    · rename_i x hx
      have := hits_lt (lowerF w) 0 ls x (by rw [hx]; simp)
      simp at h
      omega
    · cases h

end Go.Proofs.YtgofleplmnibbaaGreatDoor.Lex
namespace Go.Proofs.YtgofleplmnibbaaGreatDoor
open Go.RowKit Go.Shelf Lex

theorem texts_strs {g : Nat} {l : List Bytes} {w : World} (hg : g < w.heap.size) (hl : l.length ≤ maxLen) (h : Texts g l w) : Strs 0 w (.slice (some ⟨g, 0, none⟩) l.length l.length) l :=
  ⟨_, _, rfl, Nat.le_refl _, hl, fun _ => ⟨g, 0, rfl, Nat.zero_le _, hg, fun j x hj => by rw [Nat.zero_add]; exact h j x hj⟩⟩
theorem texts_size {g : Nat} {x : Bytes} {l : List Bytes} {w : World} (h : Texts g (x :: l) w) : g < w.heap.size := by
  have := h 0 x rfl
  rcases Nat.lt_or_ge g w.heap.size with h' | h'
  · exact h'
  · simp [World.cell?, Array.getElem?_eq_none h'] at this

theorem kind_any (x : Bytes) (w : World) (hx : x.length ≤ 100000) :
    Calls Tryz.prog 94 #[.string ⟨x.toArray⟩] w fun e w' => e = .returned (.tuple #[.int .i64 (kindN x).1, .int .i64 (kindN x).2]) ∧ Below w.heap.size w w' := by
  have hA : Below w.heap.size w (w.alloc (.cells #[.string ⟨#[114, 117, 108, 101]⟩, .string ⟨#[122, 111, 110, 101]⟩, .string ⟨#[108, 105, 110, 107]⟩] 9)) := (Below.refl _ _).alloc (Nat.le_refl _) _
  have hf := find_any x kindNames _ _ hx (by decide) ((strs_lit w 9 kindNames (by simp [kindNames, maxLen])).mono (Nat.zero_le _))
  cases hfn : findF x kindNames with
  | some i =>
    have hi := findF_lt hfn
    have h1 : findN x kindNames = ((i : Int), 0) := by unfold findN; rw [hfn]
    have h2 : kindN x = (1 + (i : Int), 0) := by unfold kindN; rw [hfn]
    rw [h1] at hf
    rw [h2]
    have HF := Lib.hid hf
    have hi3 : i < 3 := hi
    clear h1 h2 hfn hf hi
    go_enter Tryz.func94, Tryz.ntmps94
    go_wp2_with fail
    refine HF.out.mono ?_
    rintro e w1 ⟨rfl, hb1⟩
    go_wp2_with fail
    go_ret2
    exact ⟨by simp, hA.trans (hb1.mono hA.size)⟩
  | none =>
    have h1 : findN x kindNames = (0, 13) := by unfold findN; rw [hfn]
    have h2 : kindN x = (0, 13) := by unfold kindN; rw [hfn]
    rw [h1] at hf
    rw [h2]
    have HF := Lib.hid hf
    clear h1 h2 hfn hf
    go_enter Tryz.func94, Tryz.ntmps94
    go_wp2_with fail
    refine HF.out.mono ?_
    rintro e w1 ⟨rfl, hb1⟩
    go_wp2_with fail
    go_ret2
    exact ⟨by simp, hA.trans (hb1.mono hA.size)⟩

theorem month_any (x : Bytes) (w : World) (hG : Glob w) (hx : x.length ≤ 100000) :
    Calls Tryz.prog 50 #[.string ⟨x.toArray⟩] w fun e w' => e = .returned (.tuple #[.int .i64 (monthN x).1, .int .i64 (monthN x).2]) ∧ Below w.heap.size w w' := by
  have hm := hG.facts.months
  have hf := find_any x monthNames _ w hx (by decide) (texts_strs (texts_size hm) (by decide) hm)
  cases hfn : findF x monthNames with
  | some i =>
    have hi := findF_lt hfn
    have h1 : findN x monthNames = ((i : Int), 0) := by unfold findN; rw [hfn]
    have h2 : monthN x = ((i : Int) + 1, 0) := by unfold monthN; rw [hfn]
    rw [h1] at hf
    rw [h2]
    have HF := Lib.hid hf
    have hi3 : i < 12 := hi
    clear h1 h2 hfn hf hi hm
    go_enter Tryz.func50, Tryz.ntmps50
    go_wp2_with fail
    refine HF.out.mono ?_
    rintro e w1 ⟨rfl, hb1⟩
    go_wp2_with fail
    go_ret2
    exact ⟨by simp, hb1⟩
  | none =>
    have h1 : findN x monthNames = (0, 13) := by unfold findN; rw [hfn]
    have h2 : monthN x = (0, 13) := by unfold monthN; rw [hfn]
    rw [h1] at hf
    rw [h2]
    have HF := Lib.hid hf
    clear h1 h2 hfn hf hm
    go_enter Tryz.func50, Tryz.ntmps50
    go_wp2_with fail
    refine HF.out.mono ?_
    rintro e w1 ⟨rfl, hb1⟩
    go_wp2_with fail
    go_ret2
    exact ⟨by simp, hb1⟩

theorem weekday_any (x : Bytes) (w : World) (hG : Glob w) (hx : x.length ≤ 100000) :
    Calls Tryz.prog 100 #[.string ⟨x.toArray⟩] w fun e w' => e = .returned (.tuple #[.int .i64 (findN x weekdayNames).1, .int .i64 (findN x weekdayNames).2]) ∧ Below w.heap.size w w' := by
  have hm := hG.facts.weekdays
  have HF := Lib.hid (find_any x weekdayNames _ w hx (by decide) (texts_strs (texts_size hm) (by decide) hm))
  clear hm
  generalize findN x weekdayNames = r at *
  go_enter Tryz.func100, Tryz.ntmps100
  go_wp2_with fail
  refine HF.out.mono ?_
  rintro e w1 ⟨rfl, hb1⟩
  go_wp2_with fail
  go_ret2
  exact ⟨by simp, hb1⟩

end Go.Proofs.YtgofleplmnibbaaGreatDoor
