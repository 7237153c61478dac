/-
  The reader's first: the first error of what reads words, as long as there are any.
-/
import Derived.Test.YtgofleplmnibbaaGreatDoorLinQ
namespace Go.Proofs.YtgofleplmnibbaaGreatDoor
open Go.RowKit Go.Shelf Lex

theorem list_ne {α : Type} {l : List α} {k : Nat} (h : k < l.length) : ∃ x r, l.drop k = x :: r ∧ l[k]? = some x :=
  ⟨l[k], l.drop (k + 1), List.drop_eq_getElem_cons h, List.getElem?_eq_getElem h⟩

set_option maxHeartbeats 4000000 in
set_option maxRecDepth 100000 in
theorem first_any (w0 : World) (rb L : Nat) (fs : List (Nat × Array Value)) (ws : List Bytes) (J : Nat → World → Prop) (Jx : Int → World → Prop) (w : World) (hfl : fs.length ≤ 100)
    (eg : ∀ f ∈ fs, ∀ args w, (callFunc f.1 args).run Tryz.prog w = .ok (.enter f.1 args) w) (h0 : J 0 w)
    (hJ : ∀ k A, J k A → (∀ (j : Nat) f, fs[j]? = some f → A.cell? ⟨L, j, none⟩ = some (.func (.func f.1) #[] f.2)) ∧ Reads w0 rb A (ws.drop k))
    (hstep : ∀ (k : Nat) f x A, fs[k]? = some f → ws[k]? = some x → J k A → Calls Tryz.prog f.1 (#[nextV rb] ++ f.2) A fun e A' => ∃ er, e = .returned (.int .i64 er) ∧ (er = 0 → J (k + 1) A') ∧ (er ≠ 0 → Jx er A')) :
    Calls Tryz.prog 43 #[.pointer (some ⟨rb, 0, none⟩), .slice (some ⟨L, 0, none⟩) fs.length fs.length] w fun e w' => ∃ er, e = .returned (.int .i64 er) ∧ (er = 0 → J (min fs.length ws.length) w') ∧ (er ≠ 0 → Jx er w') := by
  have HEG := Lib.hid eg
  have HJ := Lib.hid hJ
  have HS := Lib.hid hstep
  have HL := Lib.hid hfl
  obtain ⟨n, h1⟩ : ∃ n : Nat, Hid (1 ≤ n) := ⟨9, Lib.hid (by omega)⟩
  have hfl' : fs.length ≤ 100 := hfl
  clear eg hJ hstep hfl
  refine (callsIn_wide (n := n)).1 ?_
  refine callsIn_of_wp_marks Tryz.func43 rfl trivial ?_ rfl
  simp only [Tryz.ntmps43, List.size_toArray, List.length_cons, List.length_nil, Nat.reduceAdd, Nat.reduceSub, Array.replicate_succ, Array.replicate_zero, List.push_toArray, List.append_toArray, List.nil_append, List.cons_append]
  gi_wp2_with fail
  refine wpIn_scope_wide ?_
  gi_wp2_with fail
  refine wpIn_label ?_
  gi_wp2_with fail
  gi_loopg [5, 10] (fs.length) (fun g o i wr => ∃ k : Nat, k ≤ fs.length ∧ fs.length - k ≤ g ∧ i = .int .i64 k ∧ o = .int .i64 0 ∧ k ≤ ws.length ∧ J k wr)
  case atStart => exact ⟨0, by omega, by omega, rfl, rfl, by omega, h0⟩
  case round =>
    obtain ⟨k, hk, hg, rfl, rfl, hkw, hj⟩ := hrel
    obtain ⟨hfn, hrd⟩ := HJ.out k wr hj
    have HFN := Lib.hid hfn
    have HRD := Lib.hid hrd
    clear hfn hrd
    by_cases hkl : k < fs.length
    · obtain ⟨⟨f, lb⟩, hf⟩ : ∃ f, fs[k]? = some f := ⟨_, List.getElem?_eq_getElem hkl⟩
      have hcf := HFN.out k _ hf
      have hmem : (f, lb) ∈ fs := List.mem_of_getElem? hf
      have hef := HEG.out _ hmem
      simp only at hcf hef
      obtain ⟨_, v, hrb, hS⟩ := HRD.out
      obtain ⟨A, c, rfl⟩ := strs_form hS
      have hcr : wr.cell? ⟨rb, 0, none⟩ = some (.slice A (ws.drop k).length c) := blk_cell hrb rfl
      have hki : (k : Int) < fs.length := by omega
      by_cases hkw2 : k < ws.length
      · obtain ⟨x, r, hxr, hx⟩ := list_ne hkw2
        have HX := Lib.hid hx
        have HF := Lib.hid hf
        rw [hxr] at hcr
        simp only [List.length_cons] at hcr
        have hne : ((r.length : Int) + 1 == 0) = false := by rw [beq_eq_false_iff_ne]; omega
        clear hxr hx hf hmem hrb hS
        gi_wp2_with fail
        refine wide_call (HS.out k _ x wr HF.out HX.out hj) ?_
        rintro e w1 ⟨er, rfl, hok, hbad⟩
        by_cases he : er = 0
        · have hj1 := hok he
          subst he
          clear hok hbad
          gi_wp2_with fail
          go_roundg (fs.length - (k + 1))
          case measure => omega
          case rel => exact ⟨k + 1, by omega, by omega, rfl, rfl, by omega, hj1⟩
        · have hj1 := hbad he
          have heb : (er != 0) = true := by rw [bne_iff_ne]; exact he
          have HE := Lib.hid he
          clear hok hbad
          gi_wp2_with fail
          rw [Exit.noGoto_ret]
          gi_wp2_with fail
          exact ⟨.int .i64 er, by simp [results, Tryz.results43, go_sem], er, rfl, fun h => absurd h HE.out, fun _ => hj1⟩
      · have hkw3 : k = ws.length := by omega
        have hz : (ws.drop k).length = 0 := by rw [List.length_drop]; omega
        rw [hz] at hcr
        have HJ2 : Hid (J (min fs.length ws.length) wr) := Lib.hid (by rw [show min fs.length ws.length = k from by omega]; exact hj)
        clear hkw3 hz hrb hS hf hmem
        gi_wp2_with fail
        rw [Exit.noGoto_ret]
        gi_wp2_with fail
        exact ⟨.int .i64 0, by simp [results, Tryz.results43, go_sem], 0, rfl, fun _ => HJ2.out, fun h => absurd rfl h⟩
    · have HJ2 : Hid (J (min fs.length ws.length) wr) := Lib.hid (by rw [show min fs.length ws.length = k from by omega]; exact hj)
      have hki : ¬ (k : Int) < fs.length := by omega
      gi_wp2_with fail
      exact ⟨.int .i64 0, by simp [results, Tryz.results43, go_sem], 0, rfl, fun _ => HJ2.out, fun h => absurd rfl h⟩

end Go.Proofs.YtgofleplmnibbaaGreatDoor
