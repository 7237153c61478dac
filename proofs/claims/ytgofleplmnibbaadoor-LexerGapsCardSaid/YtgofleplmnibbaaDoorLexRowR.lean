/-
  LexerGaps, as a statement of every input: gaps ahead, behind and between do not count, nor do comments. The listed tables are tied to the program's text.
-/
import Derived.Test.YtgofleplmnibbaaDoorLexR
import Derived.Test.YtgofleplmnibbaaDoorRow
import Derived.Test.YtgofleplmnibbaaDoorCards
import Derived.Test.YtgofleplmnibbaaDoorTie
namespace Go.Proofs.YtgofleplmnibbaaDoor
open Go.ChangeShapes Go.WideShapes Go.ChangeAt Go.RowKit Go.Shelf

/-! ### A slice of integers that came in -/
theorem open_ints_arg {H : Type} {enc : TypeId × Value → H} {w : World} {base : Nat} {spare : Nat → Bool} {held : Bool} {fuel : Nat} {a0 : Option Addr} {len cap : Nat} {x : DataW H × List MemPlace}
    (h : DataW.trod enc Tryd.prog w base spare held fuel 32 [.slice a0 len cap] = some x) (hsp : ∀ b, spare b = true) : Ints w (.slice a0 len cap) len := by
  rcases open_ints Tryd.underlying32 Tryd.underlying3 (by kernel_rfl) h with ⟨he, _⟩ | ⟨a, l, c, zs, he, _, hl, hm, hz, _, hcell, _⟩
  · simp only [List.cons.injEq, and_true, Value.slice.injEq] at he
    obtain ⟨rfl, rfl, rfl⟩ := he
    exact ⟨none, 0, rfl, fun h => absurd h (by simp)⟩
  · simp only [List.cons.injEq, and_true, Value.slice.injEq] at he
    obtain ⟨rfl, rfl, rfl⟩ := he
    rw [hsp, if_pos rfl] at hz
    refine ⟨some a, cap, rfl, fun h0 => ?_⟩
    obtain ⟨b, off, spot⟩ := a
    have hspot : spot = none := by simpa [Addr.add] using World.cell?_spot (hcell 0 (by omega))
    subst hspot
    refine ⟨b, off, rfl, block_lt (a := ⟨b, off, none⟩) (by have := hcell 0 (by omega); simpa [Addr.add] using this), fun j hj => ?_⟩
    have hc := hcell j (by omega)
    rw [Go.WideShapes.add_plain] at hc
    exact ⟨_, hc⟩

set_option maxRecDepth 100000 in
theorem gaps_lifted (os : Os) (started : os.Started) (H : Type) (enc : TypeId × Value → H) :
    ReturnsInHanded {} Tryd.checked os 4 .any (fun w args => (Rows.lexerGapsSpec.pre enc Tryd.prog Tryd.f4 [] false w args ∧ laidMetH Tryd.prog Rows.lexerGapsRow.laid w) ∧ sizedMet enc Tryd.prog Tryd.f4 (OpenSpec.ofChange Rows.lexerGapsSpec) false w args)
      (Rows.lexerGapsSpec.post enc Tryd.prog Tryd.f4 false true false false) := by
  refine lift_shaped (C := Tryd.checked) (X := fun w _ => laidMetH Tryd.prog Rows.lexerGapsRow.laid w) (fun _ _ _ hh h => h.of_heap hh) own started (by kernel_rfl) Tryd.func4
    (ChangeSpec.witness_shaped (enc := enc) (C := Tryd.checked) (os := os) (X := fun w _ => laidMetH Tryd.prog Rows.lexerGapsRow.laid w) false (World.laidAll Tryd.prog os Rows.lexerGapsRow.laid) #[.slice none 0 0, .slice none 0 0, .string ⟨#[]⟩] 8 (World.laidAll_os _ _ _)
      (World.shaped_of_ZipB (by kernel_rfl) (by kernel_rfl)) (by kernel_rfl) (by kernel_rfl) (by kernel_rfl)
      (by rw [MakeChecks.laidMetH_plain _ _ _ (by kernel_rfl)]; exact laidMet_laidAll _ (by kernel_rfl) (by kernel_rfl))) ?_
  intro W base args ds gs before hval0 hW _ hL hsh
  have hW' := hW
  obtain ⟨p, q, hA0, hV, rfl, _, _⟩ := hW
  have hA : DataW.TrodAll enc Tryd.prog W 0 (fun _ => true) true Tryd.f4.params.toList args.toList ds p := hA0
  rw [Tryd.params4] at hA
  obtain ⟨v0, v1, v2, d0, d1, d2, p0, p1, p2, rfl, rfl, rfl, h0, h1, h2⟩ := trodAll_three hA
  obtain ⟨rfl, rfl⟩ := trodVars_none hV
  simp only [List.append_nil] at hW'
  rw [MakeChecks.laidMetH_plain _ _ _ (by kernel_rfl)] at hL
  have hT : Lib.Utf8Tabs 1 2 W :=
    utf8Tabs_of_reads Tryd.lays260 u8Extra (Pinned.utf8First_eq ▸ Lib.laidMet.reads hL (.tail _ (.head _))) (accept_eq ▸ Lib.laidMet.reads hL (.head _))
  have hG : Glob W := glob_mk (maxLen_of hsh) hT
  obtain ⟨a0, len, cap, rfl⟩ := okWide_slice Tryd.underlying22 (hval0 0 22 v0 (by rw [Tryd.params4]; rfl) rfl)
  obtain ⟨a1, len1, cap1, rfl⟩ := okWide_slice Tryd.underlying32 (hval0 1 32 v1 (by rw [Tryd.params4]; rfl) rfl)
  obtain ⟨s, rfl⟩ := okWide_string Tryd.underlying9 (hval0 2 9 v2 (by rw [Tryd.params4]; rfl) rfl)
  have hlt : ∀ x ∈ p0 ++ p1 ++ p2, x.block < W.heap.size := fun x hx => hW'.lt x hx
  have h0' := h0
  obtain ⟨fuel, hf⟩ := h0
  obtain ⟨v, hv, xs, hS⟩ := open_strs_arg (by simpa [Value.cells] using hf) (fun _ => rfl)
  simp only [List.cons.injEq, and_true] at hv
  subst hv
  have h1' := h1
  obtain ⟨fuel1, hf1⟩ := h1
  have hI := open_ints_arg (by simpa [Value.cells] using hf1) (fun _ => rfl)
  obtain ⟨cm, rfl⟩ : ∃ cm : List UInt8, s = ⟨cm.toArray⟩ := ⟨s.data.toList, by cases s; simp⟩
  refine (gaps_any xs _ _ _ cm W hG hS hI).mono fun e W' ⟨he, hb⟩ => ?_
  subst he
  refine ⟨_, rfl, _, _, _, [], p0 ++ p1 ++ p2, [], hW', trodAll_mk1 (shut_bool Tryd.underlying4 _), ?_, rfl, hb.frame _, fun h => by cases h⟩
  rw [List.append_assoc]
  exact trodAll_mk3 (Below.trod laidOut (by kernel_rfl) (of_decide_eq_true (by kernel_rfl)) h0' hb (fun x hx => hlt x (by simp [hx]))) (Below.trod laidOut (by kernel_rfl) (of_decide_eq_true (by kernel_rfl)) h1' hb (fun x hx => hlt x (by simp [hx]))) (Below.trod laidOut (by kernel_rfl) (of_decide_eq_true (by kernel_rfl)) h2 hb (fun x hx => hlt x (by simp [hx])))

theorem gaps_said : Rows.LexerGapsSaid :=
  OpenClaim.holds_of_wide 4 Tryd.f4 rfl rfl rfl rfl rfl rfl rfl ⟨rfl, rfl, rfl, rfl, rfl⟩ rfl rfl rfl rfl rfl (by kernel_rfl) Tryd.func4 (by kernel_rfl)
    (of_decide_eq_true (by kernel_rfl)) (by unfold Func.isWrapper; rw [if_neg (of_decide_eq_false (by kernel_rfl))]; exact ⟨rfl, rfl⟩)
    (fun os started H enc _ => gaps_lifted os started H enc)

theorem gaps_card : Rows.LexerGapsCardSaid :=
  Claim7.holds_tied_plain_at .later [] [.data, .pinned] true Rows.lexerGapsCard.stood.harness false
    gaps_said (fun _ h => by cases h) (by kernel_rfl) (fun _ h => by cases h) lexerGaps_row_tie rfl ⟨rfl, rfl⟩ (by kernel_rfl) rfl
    (fun f fn hf hfn => by
      obtain rfl : f = 4 := Option.some.inj ((show Tryd.prog.funcNamed Rows.lexerGapsRow.func = some 4 by kernel_rfl).symm.trans hf) |>.symm
      obtain rfl : fn = Tryd.f4 := (Option.some.inj (Tryd.func4.symm.trans hfn)).symm
      exact ⟨by kernel_rfl, fun j t ht => by
        rw [Tryd.params4] at ht
        have hm : t ∈ [22, 32, 9] := by simpa using Array.mem_of_getElem? ht
        have hall : ([22, 32, 9].all fun u => !Tryd.prog.wantsStandIn u) = true := by kernel_rfl
        exact (show Tryd.prog.wantsStandIn t = false by simpa using List.all_eq_true.1 hall t hm)⟩)
    (by kernel_rfl)
#print axioms gaps_card

end Go.Proofs.YtgofleplmnibbaaDoor
