/-
  clock.numbers, Span and Parse.
-/
import Derived.Test.YtgofleplmnibbaaGreatDoorLinK
import Derived.Test.YtgofleplmnibbaaGreatDoorRangeQ
import Derived.Shelf.RegionOpen
namespace Go.Proofs.YtgofleplmnibbaaGreatDoor.Lex

/-- One number more: of hours, of minutes, of seconds. -/
def addS (s : Option Int) (x : Nat × Int) : Option Int := match s with
  | none => none
  | some v => if x.2 < 0 ∨ 3 ≤ x.1 then none else some (v + x.2 * (if x.1 = 0 then 3600 else if x.1 = 1 then 60 else 1))
def sumS (l : List (Nat × Int)) : Option Int := l.foldl addS (some 0)
def negB : Bytes → Bool
  | [] => false
  | c :: _ => c == 45
def spanN (x : Bytes) : Int × Int :=
  if x = [45] then (0, 0) else match sumS (numsF 0 (pieces 58 (untilDash x))) with
  | none => (0, 12)
  | some s => if -604800 < s ∧ s < 604800 then (if negB x then -s else s, 0) else (0, 10)
theorem addS_none : ∀ l : List (Nat × Int), l.foldl addS none = none
  | [] => rfl
  | x :: r => by rw [List.foldl_cons]; exact addS_none r
theorem sumS_stop {p l : List (Nat × Int)} (h : p <+: l) (hn : sumS p = none) : sumS l = none := by
  obtain ⟨t, rfl⟩ := h
  unfold sumS at *
  rw [List.foldl_append, hn]
  exact addS_none t
theorem sumS_snoc (p : List (Nat × Int)) (x : Nat × Int) : sumS (p ++ [x]) = addS (sumS p) x := by
  unfold sumS
  rw [List.foldl_append]
  rfl
theorem numP_bounds (i : Nat) (p : Bytes) : -1 ≤ numP i p ∧ numP i p ≤ 999 := by
  unfold numP
  split
  · rename_i h
    unfold okNum at h
    simp only [Bool.and_eq_true] at h
    obtain ⟨⟨h1, h2⟩, h3⟩ := h
    split at h3
    · have hl := of_decide_eq_true h3
      have := decV_lt p 0 1 h2 (by decide)
      have h4 : 10 ^ p.length ≤ 10 ^ 3 := Nat.pow_le_pow_right (by decide) hl
      have h5 : (10 : Nat) ^ 3 = 1000 := rfl
      omega
    · have := of_decide_eq_true h3
      omega
  · omega
theorem numsF_at : ∀ (l : List Bytes) (i : Nat) (pre : List (Nat × Int)) (x : Nat × Int), pre ++ [x] <+: numsF i l → x.1 = i + pre.length ∧ -1 ≤ x.2 ∧ x.2 ≤ 999
  | [], i, pre, x, h => by simp [numsF] at h
  | p :: r, i, pre, x, h => by
    rw [numsF] at h
    cases pre with
    | nil =>
      obtain ⟨t, ht⟩ := h
      simp at ht
      obtain ⟨h1, _⟩ := ht
      subst h1
      exact ⟨rfl, numP_bounds i p⟩
    | cons y pre =>
      rw [List.cons_append, List.cons_prefix_cons] at h
      have := numsF_at r (i + 1) pre x h.2
      rw [List.length_cons]
      omega
def okS (pre : List (Nat × Int)) : Prop := ∃ S, sumS pre = some S ∧ 0 ≤ S ∧ S ≤ 3600000 * (pre.length : Int) ∧ pre.length ≤ 3
theorem cutDash (x : Bytes) : Lib.trimPrefix x [45] = untilDash x ∧ Lib.hasPrefix x [45] = negB x := by
  cases x with
  | nil => exact ⟨rfl, rfl⟩
  | cons c t =>
    unfold Lib.trimPrefix Lib.hasPrefix untilDash negB
    simp only [List.isPrefixOf, Bool.and_true]
    constructor
    · by_cases h : c = 45
      · subst h; rfl
      · simp [h, Ne.symm h]
    · exact Bool.beq_comm

end Go.Proofs.YtgofleplmnibbaaGreatDoor.Lex
namespace Go.Proofs.YtgofleplmnibbaaGreatDoor
open Go.RowKit Go.Shelf Lex
attribute [local go_sem] Oper.semAt_some

theorem below_put {B l : Nat} (W : World) (o' : Obj) (h : B ≤ l) : Below B W (W.putObj l o') := ⟨rfl, rfl, rfl, by simp [World.putObj], fun k hk => World.putObj_heap_other (by omega)⟩
theorem wrap_small (n : Int) (h0 : -9223372036854775808 ≤ n) (h1 : n ≤ 9223372036854775807) : IntKind.i64.wrap n = n := by
  rw [IntKind.wrap_i64]
  omega
theorem keepsFrom_below {B : Nat} {A C : World} (h : Below A.heap.size A C) : KeepsFrom B A C := KeepsFrom.of_grownBy (only_below h none) (fun j e => by cases e)
def numsV (b : Nat) : Value := .func (.func 161) #[] #[.pointer (some ⟨b, 0, none⟩)]
theorem numbers_any (s : Bytes) (w : World) :
    Calls Tryz.prog 136 #[.string ⟨s.toArray⟩] w fun e w' => e = .returned (numsV w.heap.size) ∧ w.alloc (.cells #[.string ⟨s.toArray⟩] 9) = w' := by
  unfold numsV
  go_enter Tryz.func136, Tryz.ntmps136
  go_wp2
  go_ret
  exact ⟨rfl, rfl⟩
theorem cutDash_any (x : Bytes) (w : World) :
    Calls Tryz.prog 135 #[.string ⟨x.toArray⟩, .string ⟨#[45]⟩] w fun e w' => e = .returned (.tuple #[.string ⟨(untilDash x).toArray⟩, .bool (negB x)]) ∧ w = w' := by
  have h := Tryz.strings_CutPrefix ⟨x.toArray⟩ ⟨#[45]⟩ w
  simp only [cutDash] at h
  exact h.mono fun e w' h => ⟨h.1, h.2.symm⟩
theorem may_any (n : Int) (w : World) (b : Bool) (h : decide (-604800 < n ∧ n < 604800) = b) :
    Calls Tryz.prog 116 #[.int .i64 n] w fun e w' => e = .returned (.bool b) ∧ w = w' := by
  by_cases h1 : (-604800 : Int) < n
  · by_cases h2 : n < 604800
    · obtain rfl : true = b := by rw [← h]; exact (decide_eq_true ⟨h1, h2⟩).symm
      go_enter Tryz.func116, Tryz.ntmps116
      go_wp2_with fail
      go_ret
      exact ⟨rfl, rfl⟩
    · obtain rfl : false = b := by rw [← h]; exact (decide_eq_false (fun h => h2 h.2)).symm
      go_enter Tryz.func116, Tryz.ntmps116
      go_wp2_with fail
      go_ret
      exact ⟨rfl, rfl⟩
  · obtain rfl : false = b := by rw [← h]; exact (decide_eq_false (fun h => h1 h.1)).symm
    go_enter Tryz.func116, Tryz.ntmps116
    go_wp2_with fail
    go_ret
    exact ⟨rfl, rfl⟩

set_option maxHeartbeats 4000000 in
set_option maxRecDepth 100000 in
theorem span_any (x : Bytes) (w : World) (hG : Glob w) (hx : x.length ≤ 100000) :
    Calls Tryz.prog 104 #[.string ⟨x.toArray⟩] w fun e w' => e = .returned (.tuple #[.int .i64 (spanN x).1, .int .i64 (spanN x).2]) ∧ Below w.heap.size w w' := by
  obtain ⟨r, HR⟩ : ∃ r, Hid (spanN x = r) := ⟨_, Lib.hid rfl⟩
  rw [HR.out]
  obtain ⟨n, h1⟩ : ∃ n : Nat, Hid (1 ≤ n) := ⟨9, Lib.hid (by omega)⟩
  by_cases hd : x = [45]
  · have HRV : Hid ((0, 0) = r) := Lib.hid (by rw [← HR.out]; unfold spanN; rw [if_pos hd])
    subst hd
    refine (callsIn_wide (n := n)).1 ?_
    refine callsIn_of_wp_marks Tryz.func104 rfl trivial ?_ rfl
    simp only [Tryz.ntmps104, List.size_toArray, List.length_cons, List.length_nil, Nat.reduceAdd, Nat.reduceSub, Array.replicate_succ, Array.replicate_zero, List.push_toArray, List.append_toArray, List.nil_append, List.cons_append]
    gi_wp2_with fail
    refine wpIn_scope_wide ?_
    gi_wp2_with fail
    rw [Exit.noGoto_ret]
    gi_wp2_with fail
    exact ⟨.tuple #[.int .i64 0, .int .i64 0], by simp [results, Tryz.results104, go_sem], by rw [← HRV.out], Below.refl _ _⟩
  · have hdb : (x == [45]) = false := beq_eq_false_iff_ne.2 hd
    have HRV : Hid ((match sumS (numsF 0 (pieces 58 (untilDash x))) with
      | none => (0, 12)
      | some s => if -604800 < s ∧ s < 604800 then (if negB x then -s else s, 0) else (0, 10)) = r) := Lib.hid (by rw [← HR.out]; unfold spanN; rw [if_neg hd])
    clear HR hd
    refine (callsIn_wide (n := n)).1 ?_
    refine callsIn_of_wp_marks Tryz.func104 rfl trivial ?_ rfl
    simp only [Tryz.ntmps104, List.size_toArray, List.length_cons, List.length_nil, Nat.reduceAdd, Nat.reduceSub, Array.replicate_succ, Array.replicate_zero, List.push_toArray, List.append_toArray, List.nil_append, List.cons_append]
    gi_wp2_with fail
    refine wpIn_scope_wide ?_
    gi_wp2_with fail
    refine wide_call (cutDash_any x w) ?_
    rintro e w1 ⟨rfl, rfl⟩
    gi_wp2_with fail
    refine wpIn_label ?_
    gi_wp2_with fail
    have hul : (untilDash x).length ≤ 100000 := Nat.le_trans (untilDash_length x) hx
    generalize untilDash x = u at *
    generalize negB x = ng at *
    obtain ⟨w1, hw1⟩ : ∃ w1, w1 = w.alloc (.cells #[.int .i64 3600, .int .i64 60, .int .i64 1] 150) := ⟨_, rfl⟩
    have hz1 : w1.heap.size = w.heap.size + 1 := by rw [hw1]; simp
    have hB1 : Below w.heap.size w w1 := by rw [hw1]; exact (Below.refl _ w).alloc (Nat.le_refl _) _
    have hG1 : Glob w1 := hG.below' hB1
    have hk0 : w1.cell? ⟨w.heap.size, 0, none⟩ = some (.int .i64 3600) := by rw [hw1, World.cell?_alloc_at _ _ _ _ (by simp)]; rfl
    have hk1 : w1.cell? ⟨w.heap.size, 1, none⟩ = some (.int .i64 60) := by rw [hw1, World.cell?_alloc_at _ _ _ _ (by simp)]; rfl
    have hk2 : w1.cell? ⟨w.heap.size, 2, none⟩ = some (.int .i64 1) := by rw [hw1, World.cell?_alloc_at _ _ _ _ (by simp)]; rfl
    rw [← hw1, ← hz1]
    have hz1' : w.heap.size < w1.heap.size := by omega
    clear hw1 hz1
    obtain ⟨w2, hw2⟩ : ∃ w2, w2 = (w1.alloc (.cells #[.int .i64 0] 3)).alloc (.cells #[.int .i64 0] 24) := ⟨_, rfl⟩
    have hz2 : w1.heap.size + 2 ≤ w2.heap.size := by rw [hw2]; simp
    have n2 : Boxed w2 w1.heap.size 3 (.int .i64 0) := by rw [hw2]; exact (Boxed.new w1 _ _).alloc _
    have a2 : Boxed w2 (w1.heap.size + 1) 24 (.int .i64 0) := by rw [hw2]; have := Boxed.new (w1.alloc (.cells #[.int .i64 0] 3)) 24 (.int .i64 0); rwa [World.size_alloc] at this
    have hB2 : Below w1.heap.size w1 w2 := by rw [hw2]; exact ((Below.refl _ w1).alloc (Nat.le_refl _) _).alloc (by simp) _
    rw [← hw2]
    clear hw2
    refine wide_call (numbers_any u w2) ?_
    rintro e w3 ⟨rfl, hw3⟩
    have hb3 : w3.heap[w2.heap.size]? = some (.cells #[.string ⟨u.toArray⟩] 9 (0, 0)) := by rw [← hw3]; exact Boxed.new w2 _ _
    have hz3 : w2.heap.size + 1 ≤ w3.heap.size := by rw [← hw3]; simp
    have hb23 : Below w2.heap.size w2 w3 := by rw [← hw3]; exact (Below.refl _ w2).alloc (Nat.le_refl _) _
    clear hw3
    have n3 : Boxed w3 w1.heap.size 3 (.int .i64 0) := (hb23.block _ (by omega)).trans n2
    have a3 : Boxed w3 (w1.heap.size + 1) 24 (.int .i64 0) := (hb23.block _ (by omega)).trans a2
    have hB3 : Below w1.heap.size w1 w3 := hB2.trans (hb23.mono hB2.size)
    clear n2 a2 hB2 hb23
    have hseq := numbers1_seq u w2.heap.size (n - 1) w1 w3 hG1 hB3 hul hb3 (by omega)
    unfold numsV
    gi_wp2_with fail
    refine wpIn_rangeK rfl h1.out (gf := 161) (lb := #[.pointer (some ⟨w2.heap.size, 0, none⟩)]) rfl trivial (enters_of Tryz.func161 (by kernel_rfl) rfl) hseq
      (fun h k => ⟨h.1.trans k.1, fun j hj hl => (k.2 j hj (Nat.lt_of_lt_of_le hl h.1.size)).trans (h.2 j hj hl)⟩) (fun W o o' ho hc => ⟨below_put W o' (by omega), fun k hk hl => World.putObj_heap_other (by omega)⟩)
      (fun A C h hs => ⟨h.block _ (by omega), h.block _ (by omega)⟩) (fun _ => rfl)
      (fun pre A => (Boxed A w1.heap.size 3 (.int .i64 ((sumS pre).getD 0)) ∧ Boxed A (w1.heap.size + 1) 24 (.int .i64 0)) ∧ (okS pre ∧ (Below w1.heap.size w1 A ∧ w3.heap.size ≤ A.heap.size)))
      (fun c pre A => c = .exit 0 ∧ sumS pre = none ∧ Boxed A (w1.heap.size + 1) 24 (.int .i64 12) ∧ Below w1.heap.size w1 A)
      ?hIv ?hIxv ?hI ?hIx ?h0
      (fun y a' _ => a' = { tmps := #[.string ⟨x.toArray⟩, undef, .int .i64 0, .int .i64 0, .string ⟨u.toArray⟩, .bool ng, .pointer (some ⟨w.heap.size, 0, none⟩), .pointer (some ⟨w1.heap.size, 0, none⟩), .pointer (some ⟨w1.heap.size + 1, 0, none⟩), .int .i64 y.1, .int .i64 y.2, .string ⟨x.toArray⟩, .bool false, .tuple #[.string ⟨u.toArray⟩, .bool ng], .string ⟨x.toArray⟩, .tuple #[.string ⟨u.toArray⟩, .bool ng], .string ⟨u.toArray⟩, .bool ng, .agg #[.int .i64 3600, .int .i64 60, .int .i64 1], .string ⟨u.toArray⟩, .func (.func 161) #[] #[.pointer (some ⟨w2.heap.size, 0, none⟩)], .int .i64 y.1, .int .i64 y.2, undef, undef, undef, undef, undef, undef, undef, undef, undef, undef, undef, undef, undef, undef, undef, undef, undef, undef, undef, undef, undef, undef, undef, undef, undef, undef], defers := [] })
      (fun _ _ _ _ _ _ h _ _ => h) ?assign ?body ?done ?stop
    case hIv =>
      rintro pre A C ⟨⟨h2, h3⟩, hok, hB, hz⟩ hg
      exact ⟨⟨(hg.block _ (by omega)).trans h2, (hg.block _ (by omega)).trans h3⟩, hok, hB.trans (hg.mono (by omega)), Nat.le_trans hz hg.size⟩
    case hIxv =>
      rintro c pre A C ⟨hc, hx, h3, hB⟩ hg
      exact ⟨hc, hx, (hg.block _ (by omega)).trans h3, hB.trans (hg.mono (by omega))⟩
    case hI =>
      exact OwnFrom.and (OwnFrom.and (Own.from (boxed_own _ _ (fun pre : List (Nat × Int) => .int .i64 ((sumS pre).getD 0))) _) (Own.from (boxed_own _ _ (fun _ => .int .i64 0)) _)) (OwnFrom.and (ownFrom_pure _ okS) (OwnFrom.and (ownFrom_below (Nat.le_refl _) (by omega)) (fun _ _ _ _ h hg _ => Nat.le_trans h hg.size)))
    case hIx =>
      exact fun c => OwnFrom.and (ownFrom_pure _ (fun _ => c = .exit 0)) (OwnFrom.and (ownFrom_pure _ (fun pre => sumS pre = none)) (OwnFrom.and (Own.from (boxed_own _ _ (fun _ => .int .i64 12)) _) (ownFrom_below (Nat.le_refl _) (by omega))))
    case h0 => exact ⟨⟨n3, a3⟩, ⟨0, rfl, by decide, by simp, by simp⟩, hB3, Nat.le_refl _⟩
    case assign =>
      intro l pre y W K hi hK
      dsimp only [encN]
      gi_wp2
      exact hK _ _ (KeepsFrom.refl _ _) ⟨Below.refl _ _, fun _ _ _ => rfl⟩ hi rfl
    case body =>
      rintro l2 pre ⟨i, v⟩ a' A ⟨⟨h2, h3⟩, ⟨S, hS, hS0, hSm, hpl⟩, hB, hz⟩ rfl hlt hsp
      have hat := numsF_at _ 0 pre (i, v) hsp
      simp only at hat
      have c2 : A.cell? ⟨w1.heap.size, 0, none⟩ = some (.int .i64 S) := by rw [h2.cell, hS]; rfl
      have f2 := h2.frozen
      have c3 := h3.cell
      have f3 := h3.frozen
      have HS := Lib.hid hS
      have HI : Hid (i = pre.length) := Lib.hid (by omega)
      clear hS
      have hv1 := hat.2.1
      have hv2 := hat.2.2
      clear hat
      by_cases hv : v < 0
      · have HN : Hid (sumS (pre ++ [(i, v)]) = none) := Lib.hid (by rw [sumS_snoc, HS.out]; unfold addS; simp only; rw [if_pos (.inl hv)])
        gi_wp2_with fail
        have k1 := KeepsOthers.setCell A ⟨w1.heap.size + 1, 0, none⟩ (.int .i64 12)
        refine ⟨k1.from _, ⟨(Below.refl _ A).setCell (p := ⟨w1.heap.size + 1, 0, none⟩) (by simp) _, fun k hk hl => Below.heap_setCell _ _ _ _ (by simp; omega)⟩, rfl, HN.out, h3.set _, hB.setCell (p := ⟨w1.heap.size + 1, 0, none⟩) (by simp) _⟩
      · by_cases hi3 : 3 ≤ i
        · have HN : Hid (sumS (pre ++ [(i, v)]) = none) := Lib.hid (by rw [sumS_snoc, HS.out]; unfold addS; simp only; rw [if_pos (.inr hi3)])
          have hi3' : (3 : Int) ≤ i := by omega
          gi_wp2_with fail
          have k1 := KeepsOthers.setCell A ⟨w1.heap.size + 1, 0, none⟩ (.int .i64 12)
          refine ⟨k1.from _, ⟨(Below.refl _ A).setCell (p := ⟨w1.heap.size + 1, 0, none⟩) (by simp) _, fun k hk hl => Below.heap_setCell _ _ _ _ (by simp; omega)⟩, rfl, HN.out, h3.set _, hB.setCell (p := ⟨w1.heap.size + 1, 0, none⟩) (by simp) _⟩
        · have hm : S ≤ 7200000 ∧ pre.length < 3 := by have := HI.out; omega
          have FIN : Hid (∀ (A' : World) (S' : Int), Below A.heap.size A A' → A'.heap.size = A.heap.size → sumS (pre ++ [(i, v)]) = some S' → 0 ≤ S' ∧ S' ≤ S + 3600000 → roundPostK w3.heap.size (keepN w1.heap.size w2.heap.size (w3.heap.size + 2)) (fun pre A => (Boxed A w1.heap.size 3 (.int .i64 ((sumS pre).getD 0)) ∧ Boxed A (w1.heap.size + 1) 24 (.int .i64 0)) ∧ (okS pre ∧ (Below w1.heap.size w1 A ∧ w3.heap.size ≤ A.heap.size))) (fun c pre A => c = .exit 0 ∧ sumS pre = none ∧ Boxed A (w1.heap.size + 1) 24 (.int .i64 12) ∧ Below w1.heap.size w1 A) (pre ++ [(i, v)]) A .normal { tmps := #[], defers := [] } (A'.setCell ⟨w1.heap.size, 0, none⟩ (.int .i64 S'))) := Lib.hid (by
            intro A' S' hb hsz hS' hbd
            have hl := h2.lt
            have hl3 := h3.lt
            have k1 := KeepsOthers.setCell A' ⟨w1.heap.size, 0, none⟩ (.int .i64 S')
            have h2' : Boxed A' w1.heap.size 3 (.int .i64 ((sumS pre).getD 0)) := (hb.block _ hl).trans h2
            have h3' : Boxed A' (w1.heap.size + 1) 24 (.int .i64 0) := (hb.block _ hl3).trans h3
            refine ⟨(keepsFrom_below hb).trans (k1.from _), ⟨(hb.mono (by omega)).setCell (p := ⟨w1.heap.size, 0, none⟩) (by simp) _, fun k hk hl => (Below.heap_setCell _ _ _ _ (by simp; omega)).trans (hb.block _ hl)⟩, ⟨?_, h3'.kept (grownBy_setCell' _ _ _) (by simp)⟩, ⟨S', hS', hbd.1, by rw [List.length_append, List.length_singleton]; omega, by rw [List.length_append, List.length_singleton]; omega⟩, (hB.trans (hb.mono hB.size)).setCell (p := ⟨w1.heap.size, 0, none⟩) (by simp) _, by simp [World.setCell]; omega⟩
            rw [hS']
            exact h2'.set _)
          have hk0' : A.cell? ⟨w.heap.size, 0, none⟩ = some (.int .i64 3600) := (hB.cell (p := ⟨w.heap.size, 0, none⟩) (by simp; omega)).trans hk0
          have hk1' : A.cell? ⟨w.heap.size, 1, none⟩ = some (.int .i64 60) := (hB.cell (p := ⟨w.heap.size, 1, none⟩) (by simp; omega)).trans hk1
          have hk2' : A.cell? ⟨w.heap.size, 2, none⟩ = some (.int .i64 1) := (hB.cell (p := ⟨w.heap.size, 2, none⟩) (by simp; omega)).trans hk2
          have hmix : Tryz.prog.follows .mixedOrders = true := by kernel_rfl
          obtain rfl | rfl | rfl : i = 0 ∨ i = 1 ∨ i = 2 := by omega
          · have HN : Hid (sumS (pre ++ [(0, v)]) = some (S + v * 3600)) := Lib.hid (by rw [sumS_snoc, HS.out]; unfold addS; simp only; rw [if_neg (by omega)]; simp)
            have E : Hid (IntKind.i64.wrap (S + IntKind.i64.wrap (v * 3600)) = S + v * 3600) := Lib.hid (by rw [wrap_small (v * 3600) (by omega) (by omega), wrap_small (S + v * 3600) (by omega) (by omega)])
            have E2 : Hid (IntKind.i64.wrap (S + IntKind.i64.wrap v) = S + v) := Lib.hid (by rw [wrap_small v (by omega) (by omega), wrap_small (S + v) (by omega) (by omega)])
            gi_wp2_with fail
            gi_region_with_o (fail)
            all_goals (gi_wp2_with fail; first | rw [E.out] | rw [E2.out])
            all_goals exact FIN.out _ _ (Below.refl _ A).drew rfl HN.out (by omega)
          · have HN : Hid (sumS (pre ++ [(1, v)]) = some (S + v * 60)) := Lib.hid (by rw [sumS_snoc, HS.out]; unfold addS; simp only; rw [if_neg (by omega)]; simp)
            have E : Hid (IntKind.i64.wrap (S + IntKind.i64.wrap (v * 60)) = S + v * 60) := Lib.hid (by rw [wrap_small (v * 60) (by omega) (by omega), wrap_small (S + v * 60) (by omega) (by omega)])
            have E2 : Hid (IntKind.i64.wrap (S + IntKind.i64.wrap v) = S + v) := Lib.hid (by rw [wrap_small v (by omega) (by omega), wrap_small (S + v) (by omega) (by omega)])
            gi_wp2_with fail
            gi_region_with_o (fail)
            all_goals (gi_wp2_with fail; first | rw [E.out] | rw [E2.out])
            all_goals exact FIN.out _ _ (Below.refl _ A).drew rfl HN.out (by omega)
          · have HN : Hid (sumS (pre ++ [(2, v)]) = some (S + v)) := Lib.hid (by rw [sumS_snoc, HS.out]; unfold addS; simp only; rw [if_neg (by omega)]; simp)
            have E : Hid (IntKind.i64.wrap (S + IntKind.i64.wrap (v * 1)) = S + v) := Lib.hid (by rw [wrap_small (v * 1) (by omega) (by omega), wrap_small (S + v * 1) (by omega) (by omega)]; omega)
            have E2 : Hid (IntKind.i64.wrap (S + IntKind.i64.wrap v) = S + v) := Lib.hid (by rw [wrap_small v (by omega) (by omega), wrap_small (S + v) (by omega) (by omega)])
            gi_wp2_with fail
            gi_region_with_o (fail)
            all_goals (gi_wp2_with fail; first | rw [E.out] | rw [E2.out] | skip)
            all_goals exact FIN.out _ _ (Below.refl _ A).drew rfl HN.out (by omega)
    case done =>
      rintro D xs A hD rfl ⟨⟨h2, h3⟩, ⟨S, hS, hS0, hSm, hpl⟩, hB, hz⟩ hK
      have c2 : A.cell? ⟨w1.heap.size, 0, none⟩ = some (.int .i64 S) := by rw [h2.cell, hS]; rfl
      have c3 := h3.cell
      have HR2 : Hid ((if -604800 < S ∧ S < 604800 then (if ng then -S else S, 0) else (0, 10)) = r) := Lib.hid (by rw [← HRV.out, hS])
      clear HRV hS
      have FIN : Hid (Below w.heap.size w (A.putObj D (.deferred none))) := Lib.hid ((hB1.trans (hB.mono (by omega))).trans (belowK_b (w := w) (Nat.le_refl _) _ D _ _ (by omega) hK rfl rfl))
      have hS3 : S ≤ 10800000 := by omega
      by_cases hm : -604800 < S ∧ S < 604800
      · have HM := Lib.hid (decide_eq_true hm)
        have HR3 : Hid ((if ng then -S else S, 0) = r) := Lib.hid (by rw [← HR2.out, if_pos hm])
        clear HR2 hm
        cases ng with
        | false =>
          gi_wp2_with fail
          refine wide_call (may_any S A true HM.out) ?_
          rintro e A' ⟨rfl, rfl⟩
          gi_wp2_with fail
          rw [Exit.noGoto_ret]
          gi_wp2_with fail
          refine ⟨by simp, .inl ⟨_, _, rfl, run_takeDeferred hK, ?_⟩⟩
          exact ⟨.tuple #[.int .i64 S, .int .i64 0], by simp [results, Tryz.results104, go_sem], by rw [← HR3.out]; rfl, FIN.out⟩
        | true =>
          gi_wp2_with fail
          refine wide_call (may_any S A true HM.out) ?_
          rintro e A' ⟨rfl, rfl⟩
          gi_wp2_with fail
          rw [Exit.noGoto_ret]
          gi_wp2_with fail
          refine ⟨by simp, .inl ⟨_, _, rfl, run_takeDeferred hK, ?_⟩⟩
          exact ⟨.tuple #[.int .i64 (-S), .int .i64 0], by simp [results, Tryz.results104, go_sem], by rw [← HR3.out]; rfl, FIN.out⟩
      · have HM := Lib.hid (decide_eq_false hm)
        have HR3 : Hid ((0, 10) = r) := Lib.hid (by rw [← HR2.out, if_neg hm])
        clear HR2 hm
        gi_wp2_with fail
        refine wide_call (may_any S A false HM.out) ?_
        rintro e A' ⟨rfl, rfl⟩
        gi_wp2_with fail
        rw [Exit.noGoto_ret]
        gi_wp2_with fail
        refine ⟨by simp, .inl ⟨_, _, rfl, run_takeDeferred hK, ?_⟩⟩
        exact ⟨.tuple #[.int .i64 0, .int .i64 10], by simp [results, Tryz.results104, go_sem], by rw [← HR3.out], FIN.out⟩
    case stop =>
      rintro D c pre A hD hp ⟨rfl, hst, h3, hB⟩ hK
      have c3 := h3.cell
      have HR2 : Hid ((0, 12) = r) := Lib.hid (by rw [← HRV.out, sumS_stop hp hst])
      clear HRV hst hp
      have FIN : Hid (∀ k, Below w.heap.size w ((A.drewN k).putObj D (.deferred none))) := Lib.hid (fun k => (below_drewN (hB1.trans (hB.mono (by omega))) k).trans (belowK_b (w := w) (Nat.le_refl _) _ D _ _ (by omega) (show (A.drewN k).heap[D]? = some (.deferred (some [])) from hK) rfl rfl))
      gi_wp2_with fail
      gi_quiet (fail)
      gi_wp2_with fail
      rw [Exit.noGoto_ret]
      gi_wp2_with fail
      refine ⟨by simp, .inl ⟨_, _, rfl, run_takeDeferred (show (A.drewN nq).heap[D]? = some (.deferred (some [])) from hK), ?_⟩⟩
      exact ⟨.tuple #[.int .i64 0, .int .i64 12], by simp [results, Tryz.results104, go_sem], by rw [← HR2.out], FIN.out nq⟩

end Go.Proofs.YtgofleplmnibbaaGreatDoor
