/-
  words.find, Kind, Month, Weekday.
-/
import Derived.Test.YtgofleplmnibbaaGreatDoorLinF
namespace Go.Proofs.YtgofleplmnibbaaGreatDoor.Lex

def lastI (l : List (Nat × Bool)) : Nat := match l.getLast? with
  | some x => x.1
  | none => 0
theorem lastI_snoc (l : List (Nat × Bool)) (x : Nat × Bool) : lastI (l ++ [x]) = x.1 := by unfold lastI; rw [List.getLast?_concat]
/-- What find tells: the place, or that there is none. -/
def findN (w : Bytes) (ls : List Bytes) : Int × Int := match findF w ls with
  | some i => (i, 0)
  | none => (0, 13)
def stopP (pre : List (Nat × Bool)) : Prop := ∃ ini x, pre = ini ++ [x] ∧ (∀ y ∈ ini, y.2 = false) ∧ x.2 = true

theorem findN_stop {w : Bytes} {ls : List Bytes} {pre : List (Nat × Bool)} (hp : pre <+: hits (lowerF w) 0 ls) (h : stopP pre) : findN w ls = ((lastI pre : Int), 0) := by
  obtain ⟨ini, x, rfl, hi, hx⟩ := h
  obtain ⟨t, ht⟩ := hp
  unfold findN findF
  rw [← ht, List.append_assoc, List.find?_append, List.find?_eq_none.2 (fun y hy => by rw [hi y hy]; simp)]
  simp [hx, lastI_snoc]
theorem findN_one {w : Bytes} {ls : List Bytes} (h : ∀ y ∈ hits (lowerF w) 0 ls, y.2 = false) (h1 : (hits (lowerF w) 0 ls).length = 1) : findN w ls = ((lastI (hits (lowerF w) 0 ls) : Int), 0) := by
  unfold findN findF
  rw [List.find?_eq_none.2 (fun y hy => by rw [h y hy]; simp)]
  obtain ⟨x, hx⟩ := List.length_eq_one_iff.1 h1
  rw [hx]
  rfl
theorem findN_none {w : Bytes} {ls : List Bytes} (h : ∀ y ∈ hits (lowerF w) 0 ls, y.2 = false) (h1 : (hits (lowerF w) 0 ls).length ≠ 1) : findN w ls = (0, 13) := by
  unfold findN findF
  rw [List.find?_eq_none.2 (fun y hy => by rw [h y hy]; simp)]
  cases hh : hits (lowerF w) 0 ls with
  | nil => rfl
  | cons x t =>
    cases t with
    | nil => rw [hh] at h1; simp at h1
    | cons y r => rfl

end Go.Proofs.YtgofleplmnibbaaGreatDoor.Lex
namespace Go.Proofs.YtgofleplmnibbaaGreatDoor
open Go.RowKit Go.Shelf Lex
attribute [local go_sem] Oper.semAt_some

set_option maxHeartbeats 4000000 in
set_option maxRecDepth 100000 in
theorem find_any (x : Bytes) (ls : List Bytes) (v : Value) (w : World) (hx : x.length ≤ 100000) (hls : ∀ y ∈ ls, y.length ≤ 100000) (hS : Strs 0 w v ls) :
    Calls Tryz.prog 89 #[.string ⟨x.toArray⟩, v] w fun e w' => e = .returned (.tuple #[.int .i64 (findN x ls).1, .int .i64 (findN x ls).2]) ∧ Below w.heap.size w w' := by
  obtain ⟨A, c, rfl⟩ := strs_form hS
  have hlm : ls.length ≤ 9223372036854775807 := by obtain ⟨_, _, _, h1, h2, _⟩ := hS; unfold maxLen at h2; omega
  have HLEN := Lib.hid (hits_length (lowerF x) 0 ls)
  obtain ⟨r, HR⟩ : ∃ r, Hid (findN x ls = r) := ⟨_, Lib.hid rfl⟩
  rw [HR.out]
  have hxl : (lowerF x).length ≤ 100000 := by unfold lowerF; rw [List.length_map]; exact hx
  obtain ⟨n, h1⟩ : ∃ n : Nat, Hid (1 ≤ n) := ⟨9, Lib.hid (by omega)⟩
  refine (callsIn_wide (n := n)).1 ?_
  refine callsIn_of_wp_marks Tryz.func89 rfl trivial ?_ rfl
  simp only [Tryz.ntmps89, List.size_toArray, List.length_cons, List.length_nil, Nat.reduceAdd, Nat.reduceSub, Array.replicate_succ, Array.replicate_zero, List.push_toArray, List.append_toArray, List.nil_append, List.cons_append]
  gi_wp2_with fail
  refine wpIn_scope_wide ?_
  gi_wp2_with fail
  refine wpIn_label ?_
  gi_wp2_with fail
  obtain ⟨w2, hw2⟩ : ∃ w2, w2 = (w.alloc (.cells #[.int .i64 0] 3)).alloc (.cells #[.int .i64 0] 3) := ⟨_, rfl⟩
  have hz2 : w.heap.size + 2 ≤ w2.heap.size := by rw [hw2]; simp
  have n2 : Boxed w2 w.heap.size 3 (.int .i64 0) := by rw [hw2]; exact (Boxed.new w _ _).alloc _
  have a2 : Boxed w2 (w.heap.size + 1) 3 (.int .i64 0) := by rw [hw2]; have := Boxed.new (w.alloc (.cells #[.int .i64 0] 3)) 3 (.int .i64 0); rwa [World.size_alloc] at this
  have hB2 : Below w.heap.size w w2 := by rw [hw2]; exact ((Below.refl _ w).alloc (Nat.le_refl _) _).alloc (by simp) _
  rw [← hw2]
  clear hw2
  refine wide_call (begun_any x A ls.length c w2 hx) ?_
  rintro e w3 ⟨rfl, s0, s1, hb3⟩
  have n3 : Boxed w3 w.heap.size 3 (.int .i64 0) := (hb3.block _ (by omega)).trans n2
  have a3 : Boxed w3 (w.heap.size + 1) 3 (.int .i64 0) := (hb3.block _ (by omega)).trans a2
  have hB3 : Below w.heap.size w w3 := hB2.trans (hb3.mono hB2.size)
  have hz3 : w2.heap.size + 2 ≤ w3.heap.size := (Array.getElem?_eq_some_iff.1 s1).1
  clear n2 a2 hB2 hb3
  have hseq := begun1_seq (lowerF x) ls A c w2.heap.size (n - 1) w w3 hxl hls hS hB3 s0 s1 (by omega)
  unfold beginV
  gi_wp2_with fail
  refine wpIn_range rfl h1.out (gf := 150) (lb := #[.pointer (some ⟨w2.heap.size + 1, 0, none⟩), .pointer (some ⟨w2.heap.size, 0, none⟩)]) rfl trivial (enters_of Tryz.func150 (by kernel_rfl) rfl) hseq
    (fun h k => ⟨h.1.trans k.1, k.2.1.trans h.2.1, k.2.2.trans h.2.2⟩) (fun W l o o' hl hlo ho hw => ⟨belowK_b (w := w3) (by omega) W l o o' hl hlo ho hw, World.putObj_heap_other (by omega), World.putObj_heap_other (by omega)⟩)
    (fun A C hg => KeepsFrom.of_grownBy hg (fun j e => by cases e; omega)) (fun _ => rfl)
    (fun pre W => (Boxed W w.heap.size 3 (.int .i64 pre.length) ∧ Boxed W (w.heap.size + 1) 3 (.int .i64 (lastI pre))) ∧ ((∀ y ∈ pre, y.2 = false) ∧ (Below w.heap.size w W ∧ w3.heap.size ≤ W.heap.size)))
    (fun c pre W => c = .exit 0 ∧ stopP pre ∧ (Boxed W w.heap.size 3 (.int .i64 1) ∧ Boxed W (w.heap.size + 1) 3 (.int .i64 (lastI pre))) ∧ Below w.heap.size w W)
    ?hIv ?hIxv ?hI ?hIx ?h0
    (fun y a' _ => a' = { tmps := #[.string ⟨x.toArray⟩, .slice A ls.length c, undef, undef, .int .i64 0, .int .i64 0, .pointer (some ⟨w.heap.size, 0, none⟩), .pointer (some ⟨w.heap.size + 1, 0, none⟩), .int .i64 y.1, .bool y.2, .string ⟨x.toArray⟩, .slice A ls.length c, beginV w2.heap.size, .int .i64 y.1, .bool y.2, undef, undef, undef, undef, undef, undef, undef], defers := [] })
    (fun _ _ _ _ _ _ h _ _ => h) ?assign ?body ?done ?stop
  case hIv =>
    rintro pre A C ⟨⟨h2, h3⟩, hall, hB, hz⟩ hg
    exact ⟨⟨box_only h2 hg (by omega), box_only h3 hg (by omega)⟩, hall, hB.trans (below_only hg (by omega) hB.size), Nat.le_trans hz hg.size⟩
  case hIxv =>
    rintro c pre A C ⟨hc, hx, ⟨h2, h3⟩, hB⟩ hg
    exact ⟨hc, hx, ⟨box_only h2 hg (by omega), box_only h3 hg (by omega)⟩, hB.trans (below_only hg (by omega) hB.size)⟩
  case hI =>
    exact OwnFrom.and (OwnFrom.and (Own.from (boxed_own _ _ (fun pre : List (Nat × Bool) => .int .i64 pre.length)) _) (Own.from (boxed_own _ _ (fun pre : List (Nat × Bool) => .int .i64 (lastI pre))) _)) (OwnFrom.and (ownFrom_pure _ (fun pre : List (Nat × Bool) => ∀ y ∈ pre, y.2 = false)) (OwnFrom.and (ownFrom_below (Nat.le_refl _) (by omega)) (fun _ _ _ _ h hg _ => Nat.le_trans h hg.size)))
  case hIx =>
    exact fun c => OwnFrom.and (ownFrom_pure _ (fun _ => c = .exit 0)) (OwnFrom.and (ownFrom_pure _ stopP) (OwnFrom.and (OwnFrom.and (Own.from (boxed_own _ _ (fun _ => .int .i64 1)) _) (Own.from (boxed_own _ _ (fun pre : List (Nat × Bool) => .int .i64 (lastI pre))) _)) (ownFrom_below (Nat.le_refl _) (by omega))))
  case h0 => exact ⟨⟨n3, a3⟩, by simp, hB3, Nat.le_refl _⟩
  case assign =>
    intro l pre y W K hi hK
    dsimp only [encH]
    gi_wp2
    exact hK _ _ (KeepsFrom.refl _ _) ⟨Below.refl _ _, rfl, rfl⟩ hi rfl
  case body =>
    rintro l pre y a' W ⟨⟨h2, h3⟩, hall, hB, hz⟩ rfl hlt _
    have c2 := h2.cell
    have f2 := h2.frozen
    have c3 := h3.cell
    have f3 := h3.frozen
    have HALL := Lib.hid hall
    have hpl : pre.length < 9223372036854775807 := by have := HLEN.out; omega
    clear hall
    cases hy : y.2 with
    | true =>
      have HY := Lib.hid hy
      gi_wp2_with fail
      have k1 := KeepsOthers.setCell W ⟨w.heap.size + 1, 0, none⟩ (.int .i64 y.1)
      have k2 := k1.trans (KeepsOthers.setCell _ ⟨w.heap.size, 0, none⟩ (.int .i64 ((pre.length : Int) + 1)))
      have k3 := k2.trans (KeepsOthers.setCell _ ⟨w.heap.size, 0, none⟩ (.int .i64 1))
      refine ⟨k3.from _, rfl, ⟨pre, y, rfl, HALL.out, HY.out⟩, ⟨?_, ?_⟩, ((hB.setCell (p := ⟨w.heap.size + 1, 0, none⟩) (by simp) _).setCell (p := ⟨w.heap.size, 0, none⟩) (Nat.le_refl _) _).setCell (p := ⟨w.heap.size, 0, none⟩) (Nat.le_refl _) _⟩
      · exact ((h2.kept (grownBy_setCell' _ _ _) (by simp)).set _).set _
      · rw [lastI_snoc]
        exact ((h3.set _).kept (grownBy_setCell' _ _ _) (by simp)).kept (grownBy_setCell' _ _ _) (by simp)
    | false =>
      have HY := Lib.hid hy
      gi_wp2_with fail
      have k1 := KeepsOthers.setCell W ⟨w.heap.size + 1, 0, none⟩ (.int .i64 y.1)
      have k2 := k1.trans (KeepsOthers.setCell _ ⟨w.heap.size, 0, none⟩ (.int .i64 ((pre.length : Int) + 1)))
      have hBk : Below w.heap.size W ((W.setCell ⟨w.heap.size + 1, 0, none⟩ (.int .i64 y.1)).setCell ⟨w.heap.size, 0, none⟩ (.int .i64 ((pre.length : Int) + 1))) := ((Below.refl _ W).setCell (p := ⟨w.heap.size + 1, 0, none⟩) (by simp) _).setCell (p := ⟨w.heap.size, 0, none⟩) (Nat.le_refl _) _
      refine ⟨k2.from _, ⟨hBk, ?_, ?_⟩, ⟨?_, ?_⟩, fun z hz => ?_, hB.trans hBk, Nat.le_trans hz hBk.size⟩
      · rw [Below.heap_setCell _ _ _ _ (by simp; omega), Below.heap_setCell _ _ _ _ (by simp; omega)]
      · rw [Below.heap_setCell _ _ _ _ (by simp; omega), Below.heap_setCell _ _ _ _ (by simp; omega)]
      · have := (h2.kept (grownBy_setCell' W (w.heap.size + 1) (.int .i64 y.1)) (by simp)).set (.int .i64 ((pre.length : Int) + 1))
        simpa using this
      · rw [lastI_snoc]
        exact (h3.set _).kept (grownBy_setCell' _ _ _) (by simp)
      · rcases List.mem_append.1 hz with hz | hz
        · exact HALL.out z hz
        · rw [List.mem_singleton.1 hz]; exact HY.out
  case done =>
    rintro D xs W hD rfl ⟨⟨h2, h3⟩, hall, hB, hz⟩ hK
    have c2 := h2.cell
    have f2 := h2.frozen
    have c3 := h3.cell
    have f3 := h3.frozen
    by_cases h1 : (hits (lowerF x) 0 ls).length = 1
    · have HRV := Lib.hid (findN_one hall h1)
      clear hall
      have t1 : (((hits (lowerF x) 0 ls).length : Int) != 1) = false := by rw [bne_eq_false_iff_eq]; omega
      have H1 := Lib.hid h1
      clear h1
      gi_wp2_with fail
      rw [Exit.noGoto_ret]
      gi_wp2_with fail
      refine ⟨by simp, .inl ⟨_, _, rfl, run_takeDeferred hK, ?_⟩⟩
      exact ⟨.tuple #[.int .i64 (lastI (hits (lowerF x) 0 ls)), .int .i64 0], by simp [results, Tryz.results89, go_sem], by rw [← HR.out, HRV.out], hB.trans (belowK_b (w := w) (Nat.le_refl _) _ D _ _ (by omega) hK rfl rfl)⟩
    · have HRV := Lib.hid (findN_none hall h1)
      clear hall
      have t1 : (((hits (lowerF x) 0 ls).length : Int) != 1) = true := by rw [bne_iff_ne]; omega
      have H1 := Lib.hid h1
      clear h1
      gi_wp2_with fail
      rw [Exit.noGoto_ret]
      gi_wp2_with fail
      refine ⟨by simp, .inl ⟨_, _, rfl, run_takeDeferred hK, ?_⟩⟩
      exact ⟨.tuple #[.int .i64 0, .int .i64 13], by simp [results, Tryz.results89, go_sem], by rw [← HR.out, HRV.out], hB.trans (belowK_b (w := w) (Nat.le_refl _) _ D _ _ (by omega) hK rfl rfl)⟩
  case stop =>
    rintro D c pre W hD hp ⟨rfl, hst, ⟨h2, h3⟩, hB⟩ hK
    have c2 := h2.cell
    have f2 := h2.frozen
    have c3 := h3.cell
    have f3 := h3.frozen
    have HRV := Lib.hid (findN_stop hp hst)
    clear hst hp
    gi_wp2_with fail
    rw [Exit.noGoto_ret]
    gi_wp2_with fail
    refine ⟨by simp, .inl ⟨_, _, rfl, run_takeDeferred hK, ?_⟩⟩
    exact ⟨.tuple #[.int .i64 (lastI pre), .int .i64 0], by simp [results, Tryz.results89, go_sem], by rw [← HR.out, HRV.out], hB.trans (belowK_b (w := w) (Nat.le_refl _) _ D _ _ (by omega) hK rfl rfl)⟩

end Go.Proofs.YtgofleplmnibbaaGreatDoor
