/-
  lines.Link.
-/
import Derived.Test.YtgofleplmnibbaaGreatDoorLinV
namespace Go.Proofs.YtgofleplmnibbaaGreatDoor.Lex

/-- The first of errors. -/
def firstE (er : Nat → Int) : Nat → Int
  | 0 => 0
  | n + 1 => if firstE er n ≠ 0 then firstE er n else er n
theorem firstE_ok {er : Nat → Int} : ∀ {n : Nat}, (∀ i, i < n → er i = 0) → firstE er n = 0
  | 0, _ => rfl
  | n + 1, h => by
    rw [firstE, firstE_ok (fun i hi => h i (by omega)), if_neg (by simp)]
    exact h n (by omega)
theorem firstE_at {er : Nat → Int} {k : Nat} (h : ∀ i, i < k → er i = 0) (hk : er k ≠ 0) : ∀ {n : Nat}, k < n → firstE er n = er k
  | 0, hn => absurd hn (Nat.not_lt_zero _)
  | n + 1, hn => by
    rw [firstE]
    rcases Nat.lt_succ_iff_lt_or_eq.1 hn with h1 | rfl
    · rw [firstE_at h hk h1, if_pos hk]
    · rw [firstE_ok h, if_neg (by simp)]
def errs (l : List Int) (k : Nat) : Int := l.getD k 0
def linkEr (a b c : Bytes) : Nat → Int := errs [if (kindN a).2 = 0 ∧ (kindN a).1 = 3 then 0 else 13, if nameF b then 0 else 23, if nameF c then 0 else 23]
/-- A link: what it leads to, its name, and what is wrong. -/
def linkN : List Bytes → Bytes × Bytes × Int
  | [a, b, c] => if firstE (linkEr a b c) 3 = 0 then (b, c, 0) else ([], [], firstE (linkEr a b c) 3)
  | _ => ([], [], 14)

end Go.Proofs.YtgofleplmnibbaaGreatDoor.Lex
namespace Go.Proofs.YtgofleplmnibbaaGreatDoor
open Go.RowKit Go.Shelf Lex

def allocs (w : World) : List Obj → World
  | [] => w
  | o :: l => allocs (w.alloc o) l
theorem allocs_below : ∀ (l : List Obj) (w : World), Below w.heap.size w (allocs w l)
  | [], w => Below.refl _ _
  | o :: l, w => by
    have h1 : Below w.heap.size w (w.alloc o) := (Below.refl _ w).alloc (Nat.le_refl _) o
    exact h1.trans ((allocs_below l (w.alloc o)).mono h1.size)
theorem allocs_size : ∀ (l : List Obj) (w : World), (allocs w l).heap.size = w.heap.size + l.length
  | [], w => rfl
  | o :: l, w => by rw [allocs, allocs_size l, World.size_alloc, List.length_cons]; omega
theorem allocs_at : ∀ (l : List Obj) (w : World) (i : Nat) (o : Obj), l[i]? = some o → (allocs w l).heap[w.heap.size + i]? = some o
  | [], _, _, _, h => by simp at h
  | a :: l, w, 0, o, h => by
    obtain rfl : a = o := by simpa using h
    rw [allocs, Nat.add_zero, (allocs_below l (w.alloc a)).block _ (by simp)]
    exact World.alloc_heap_new _ _
  | a :: l, w, i + 1, o, h => by
    rw [allocs]
    have := allocs_at l (w.alloc a) i o (by simpa using h)
    rw [World.size_alloc] at this
    rwa [show w.heap.size + (i + 1) = w.heap.size + 1 + i from by omega]

theorem wrong_first {W0 : World} {S : List Nat} {N : Nat} {er : Nat → Int} {e : Int} {A : World} (h : Wrong W0 S N er e A) : Kept S W0 A ∧ firstE er N = e := by
  obtain ⟨hk, k, h1, h2, h3, h4⟩ := h
  exact ⟨hk, by rw [firstE_at h2 (h3 ▸ h4) h1, h3]⟩

def lks (_w : World) (b c : Bytes) : Nat → Array Value
  | 0 => #[.string ⟨#[]⟩, .string ⟨#[]⟩]
  | 1 => #[.string ⟨#[]⟩, .string ⟨#[]⟩]
  | 2 => #[.string ⟨b.toArray⟩, .string ⟨#[]⟩]
  | _ => #[.string ⟨b.toArray⟩, .string ⟨c.toArray⟩]

theorem linkRet {W : World} {b : Nat} {x y : Bytes} {e : Int} {tmps : Array Value} {R : Ending → World → Prop} (h2 : tmps.getD 2 undef = .pointer (some ⟨b, 0, none⟩)) (h3 : tmps.getD 3 undef = .int .i64 e)
    (hb : W.heap[b]? = some (.cells #[.string ⟨x.toArray⟩, .string ⟨y.toArray⟩] 46 (0, 0))) (hR : R (.returned (.tuple #[.agg #[.string ⟨x.toArray⟩, .string ⟨y.toArray⟩], .int .i64 e])) W) :
    bodyPost Tryz.prog Tryz.f25 R .ret { tmps := tmps, defers := [] } W := by
  obtain ⟨⟨c0, c1⟩, _⟩ := cells2 hb
  refine bodyPost_ret_by ?_ rfl hR
  rw [results_cell_tmp rfl, h2, h3]
  simp [go_sem, c0, c1]

set_option maxHeartbeats 4000000 in
set_option maxRecDepth 100000 in
theorem link_any (ws : List Bytes) (v : Value) (w : World) (hG : Glob w) (hS : Strs 0 w v ws) (hx : ∀ x ∈ ws, x.length ≤ 50000) :
    Calls Tryz.prog 25 #[v] w fun e w' => e = .returned (.tuple #[.agg #[.string ⟨(linkN ws).1.toArray⟩, .string ⟨(linkN ws).2.1.toArray⟩], .int .i64 (linkN ws).2.2]) ∧ Below w.heap.size w w' := by
  obtain ⟨A, c, rfl⟩ := strs_form hS
  by_cases h3 : ws.length = 3
  · obtain ⟨a, b, d, rfl⟩ : ∃ a b d, ws = [a, b, d] := by
      match ws, h3 with
      | [a, b, d], _ => exact ⟨a, b, d, rfl⟩
    have ha : a.length ≤ 100000 := Nat.le_trans (hx a (by simp)) (by decide)
    have hb : b.length ≤ 100000 := Nat.le_trans (hx b (by simp)) (by decide)
    have hd : d.length ≤ 100000 := Nat.le_trans (hx d (by simp)) (by decide)
    obtain ⟨objs, hobjs⟩ : ∃ objs : List Obj, objs = [.cells #[.string ⟨#[]⟩, .string ⟨#[]⟩] 46, .cells #[.string ⟨#[]⟩, .string ⟨#[]⟩] 46, .cells #[.slice A 3 c] 72, .cells #[.int .i64 3] 3, .cells #[.pointer (some ⟨w.heap.size + 1, 0, none⟩)] 77, .cells #[.func (.func 12) #[] #[]] 25, .cells #[.pointer (some ⟨w.heap.size + 1, 1, none⟩)] 77, .cells #[.func (.func 12) #[] #[]] 25,
      .cells #[.func (.func 93) #[] #[.pointer (some ⟨w.heap.size + 3, 0, none⟩)], .func (.func 95) #[] #[.pointer (some ⟨w.heap.size + 4, 0, none⟩), .pointer (some ⟨w.heap.size + 5, 0, none⟩)], .func (.func 95) #[] #[.pointer (some ⟨w.heap.size + 6, 0, none⟩), .pointer (some ⟨w.heap.size + 7, 0, none⟩)]] 74] := ⟨_, rfl⟩
    obtain ⟨W0, hW0⟩ : ∃ W0, W0 = allocs w objs := ⟨_, rfl⟩
    have hB0 : Below w.heap.size w W0 := by rw [hW0]; exact allocs_below _ _
    have hz0 : W0.heap.size = w.heap.size + 9 := by rw [hW0, allocs_size, hobjs]; rfl
    have at0 : ∀ (i : Nat) (o : Obj), objs[i]? = some o → W0.heap[w.heap.size + i]? = some o := fun i o h => by rw [hW0]; exact allocs_at _ _ _ _ h
    have cell0 : ∀ (i : Nat) (v : Value) (T : TypeId), objs[i]? = some (.cells #[v] T (0, 0)) → W0.cell? ⟨w.heap.size + i, 0, none⟩ = some v := fun i v T h => blk_cell (at0 i _ h) rfl
    have FIRST : Hid (Calls Tryz.prog 43 #[.pointer (some ⟨w.heap.size + 2, 0, none⟩), .slice (some ⟨w.heap.size + 8, 0, none⟩) 3 3] W0 fun e w' => ∃ er, e = .returned (.int .i64 er) ∧ Below w.heap.size w w' ∧ w'.heap[w.heap.size]? = some (.cells #[.string ⟨#[]⟩, .string ⟨#[]⟩] 46 (0, 0)) ∧ firstE (linkEr a b d) 3 = er ∧ (er = 0 → w'.heap[w.heap.size + 1]? = some (.cells #[.string ⟨b.toArray⟩, .string ⟨d.toArray⟩] 46 (0, 0)))) := Lib.hid (by
      have hSS : ∀ k : Nat, (fun _ : Nat => [w.heap.size + 1, w.heap.size + 2]) k ⊆ (fun _ : Nat => [w.heap.size + 1, w.heap.size + 2]) (k + 1) := fun k => List.Subset.refl _
      have hSw : ∀ b ∈ [w.heap.size + 1, w.heap.size + 2], w.heap.size ≤ b := by simp
      refine (first_any w (w.heap.size + 2) (w.heap.size + 8) [(93, #[.pointer (some ⟨w.heap.size + 3, 0, none⟩)]), (95, #[.pointer (some ⟨w.heap.size + 4, 0, none⟩), .pointer (some ⟨w.heap.size + 5, 0, none⟩)]), (95, #[.pointer (some ⟨w.heap.size + 6, 0, none⟩), .pointer (some ⟨w.heap.size + 7, 0, none⟩)])] [a, b, d]
        (Stage w W0 (fun _ => [w.heap.size + 1, w.heap.size + 2]) (w.heap.size + 1) (w.heap.size + 2) 46 [a, b, d] (lks w b d) (linkEr a b d)) (Wrong W0 [w.heap.size + 1, w.heap.size + 2] 3 (linkEr a b d)) W0 (by simp) ?_ ?_ ?_ ?_).mono ?_
      · intro f hf
        simp only [List.mem_cons, List.not_mem_nil, or_false] at hf
        rcases hf with rfl | rfl | rfl
        · exact enters_of Tryz.func93 (by kernel_rfl) rfl
        · exact enters_of Tryz.func95 (by kernel_rfl) rfl
        · exact enters_of Tryz.func95 (by kernel_rfl) rfl
      · exact ⟨⟨rfl, rfl, rfl, Nat.le_refl _, fun _ _ _ => rfl⟩, fun i hi => absurd hi (Nat.not_lt_zero _), at0 1 _ (by rw [hobjs]; rfl), _, at0 2 _ (by rw [hobjs]; rfl), hS⟩
      · intro k A' hA
        refine ⟨fun j f hf => ?_, hA.kept.below hB0 hSw, hA.rd⟩
        have hL := (hA.kept.block (w.heap.size + 8) (by omega) (by simp)).trans (at0 8 _ (by rw [hobjs]; rfl))
        match j, hf with
        | 0, hf => cases hf; exact blk_cell hL rfl
        | 1, hf => cases hf; exact blk_cell hL rfl
        | 2, hf => cases hf; exact blk_cell hL rfl
      · intro k f x A' hf hxk hA
        match k, hf, hxk with
        | 0, hf, hxk =>
          cases hf; cases hxk
          exact step_kind hB0 hSS (fun _ _ => List.Subset.refl _) hSw hA (by omega) rfl ha (cell0 3 _ _ (by rw [hobjs]; rfl)) (by omega) (by simp) (by simp) (by simp) (by simp) rfl rfl
        | 1, hf, hxk =>
          cases hf; cases hxk
          exact step_name hB0 hG hSS (fun _ _ => List.Subset.refl _) hSw hA (by omega) rfl (cell0 4 _ _ (by rw [hobjs]; rfl)) (cell0 5 _ _ (by rw [hobjs]; rfl)) (by omega) (by omega) (by simp) (by simp) (by simp) (by simp) (by simp) (enters_of Tryz.func12 (by kernel_rfl) rfl) (fun W hW => name_any b W hW hb) rfl rfl
        | 2, hf, hxk =>
          cases hf; cases hxk
          exact step_name hB0 hG hSS (fun _ _ => List.Subset.refl _) hSw hA (by omega) rfl (cell0 6 _ _ (by rw [hobjs]; rfl)) (cell0 7 _ _ (by rw [hobjs]; rfl)) (by omega) (by omega) (by simp) (by simp) (by simp) (by simp) (by simp) (enters_of Tryz.func12 (by kernel_rfl) rfl) (fun W hW => name_any d W hW hd) rfl rfl
      · rintro e A' ⟨er, rfl, hok, hbad⟩
        have hr0 := at0 0 _ (by rw [hobjs]; rfl)
        by_cases he : er = 0
        · have hA := hok he
          exact ⟨er, rfl, hA.kept.below hB0 hSw, (hA.kept.block (w.heap.size + 0) (by omega) (by simp)).trans hr0, by rw [he]; exact firstE_ok hA.ok, fun _ => hA.str⟩
        · obtain ⟨hK, hF⟩ := wrong_first (hbad he)
          exact ⟨er, rfl, hK.below hB0 hSw, (hK.block (w.heap.size + 0) (by omega) (by simp)).trans hr0, hF, fun h => absurd h he⟩)
    obtain ⟨res, HR⟩ : ∃ res, Hid (linkN [a, b, d] = res) := ⟨_, Lib.hid rfl⟩
    rw [HR.out]
    have HRR : Hid ((if firstE (linkEr a b d) 3 = 0 then (b, d, (0 : Int)) else ([], [], firstE (linkEr a b d) 3)) = res) := Lib.hid HR.out
    have HW0 : Hid (W0 = allocs w objs) := Lib.hid hW0
    rw [hobjs] at HW0
    clear at0 cell0 hz0 hW0 hobjs hx ha hb hd h3 hS
    go_enter Tryz.func25, Tryz.ntmps25
    go_wp2_with fail
    refine (kind_make 3 _).mono ?_
    rintro e W ⟨rfl, rfl⟩
    go_wp2_with fail
    refine (name_make ⟨w.heap.size + 1, 0, none⟩ 12 _).mono ?_
    rintro e W ⟨rfl, rfl⟩
    go_wp2_with fail
    refine (name_make ⟨w.heap.size + 1, 1, none⟩ 12 _).mono ?_
    rintro e W ⟨rfl, rfl⟩
    go_wp2_with fail
    have F := FIRST.out
    rw [HW0.out] at F
    refine F.mono ?_
    clear F FIRST HW0
    rintro e A' ⟨er, rfl, hB, hr0, hE, hok⟩
    have HE := Lib.hid hE
    have HR0 := Lib.hid hr0
    obtain ⟨⟨c0, c1⟩, f0, f1⟩ := cells2 hr0
    clear hE hr0
    by_cases he : er = 0
    · have hs := hok he
      obtain ⟨⟨d0, d1⟩, g0, g1⟩ := cells2 hs
      have HX : Hid ((b, d, (0 : Int)) = res) := Lib.hid (by rw [← HRR.out, HE.out, if_pos he])
      subst he
      clear hs hok
      go_wp2_with fail
      refine linkRet rfl rfl (blk_set 1 _ (blk_set 0 _ HR0.out)) ?_
      exact ⟨by rw [← HX.out], (hB.setCell (p := ⟨w.heap.size, 0, none⟩) (Nat.le_refl _) _).setCell (p := ⟨w.heap.size, 1, none⟩) (Nat.le_refl _) _⟩
    · have heb : (er != 0) = true := by rw [bne_iff_ne]; exact he
      have HX : Hid ((([] : Bytes), ([] : Bytes), er) = res) := Lib.hid (by rw [← HRR.out, HE.out, if_neg he])
      clear hok
      go_wp2_with fail
      refine linkRet rfl rfl (blk_set 1 _ (blk_set 0 _ HR0.out)) ?_
      exact ⟨by rw [← HX.out], (hB.setCell (p := ⟨w.heap.size, 0, none⟩) (Nat.le_refl _) _).setCell (p := ⟨w.heap.size, 1, none⟩) (Nat.le_refl _) _⟩
  · have HR : Hid (linkN ws = ([], [], 14)) := Lib.hid (by
      unfold linkN
      split
      · simp at h3
      · rfl)
    rw [HR.out]
    have h3b : ((ws.length : Int) != 3) = true := by rw [bne_iff_ne]; omega
    go_enter Tryz.func25, Tryz.ntmps25
    go_wp2_with fail
    refine linkRet rfl rfl (World.alloc_heap_new _ _) ?_
    exact ⟨rfl, (Below.refl _ w).alloc (Nat.le_refl _) _⟩

end Go.Proofs.YtgofleplmnibbaaGreatDoor
