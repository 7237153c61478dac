/-
  From a law's walk to its row and its card: what the laws of lines share.
-/
import Derived.Test.YtgofleplmnibbaaGreatDoorRows
import Derived.Test.YtgofleplmnibbaaGreatDoorBase
import Derived.Test.YtgofleplmnibbaaGreatDoorStrs
import Derived.ProofKit
import Derived.OpenShut
import Derived.SliceStrings
import Derived.Lay
import Derived.LaidOnce
import Derived.SevenTiedAt
import Derived.PinnedBridge
import Derived.Shelf.Vars
import Derived.Lib.LaidU8
import Derived.Lib.LaidTab
import Derived.Lib.LaidRTab
namespace Go.Proofs.YtgofleplmnibbaaGreatDoor
open Go.ChangeShapes Go.WideShapes Go.ChangeAt Go.RowKit Go.Shelf

theorem laidOut : laidOutB Tryz.prog = true := by kernel_rfl
theorem own : ownKnob Tryz.prog.godebug = none := by kernel_rfl

/-- A contract over a world whose shape is known, and that meets X, is what a row asks. -/
theorem lift_shaped {H : Type} {enc : TypeId × Value → H} {C : Checked} {os : Os} {f : FuncId} {fn : Func} {s : ChangeSpec} {conds : List PathCond} {apart fresh handsOn again : Bool} {X : World → Array Value → Prop}
    (hX : ∀ (w w' : World) (args : Array Value), w.heap = w'.heap → X w args → X w' args)
    (own : ownKnob C.prog.godebug = none) (started : os.Started) (noInit : C.prog.inits.idxOf? f = none) (hfn : C.prog.funcs[f]? = some fn)
    (witness : ∃ (w : World) (tape : Tape) (i : Input), w.os = os ∧ (w.forCall tape i).Shaped C.prog ∧ i.vars = [] ∧ Input.okWide C.prog (w.forCall tape i) .any w.heap.size f i ∧
      ((s.pre enc C.prog fn conds apart (w.forCall tape i).memory i.args ∧ X (w.forCall tape i).memory i.args) ∧ sizedMet enc C.prog fn (OpenSpec.ofChange s) apart (w.forCall tape i).memory i.args) ∧ ({} : Assume).holds C.prog (lone (Frame.enter C.prog f i.args .normal) [] (w.forCall tape i)))
    (contract : ∀ (W : World) (base : Nat) (args : Array Value) (ds gs : List (DataW H)) (before : List MemPlace),
      (∀ (j : Nat) t v, fn.params[j]? = some t → args[j]? = some v → Value.okWide C.prog W .any base t v) →
      DataW.Whole enc C.prog fn.params.toList s.vars apart W args.toList ds gs before →
      (DataW.weightsEach C.prog (fn.params.toList ++ s.plain.varTypes C.prog) (ds ++ gs)).all (· ≤ reachBytes) = true → X W args → W.ShapedOpen C.prog →
      Calls C.prog f args W fun e W' => ∃ v, e = .returned v ∧ s.post enc C.prog fn apart fresh handsOn again W args v W') :
    ReturnsInHanded {} C os f .any (fun w args => (s.pre enc C.prog fn conds apart w args ∧ X w args) ∧ sizedMet enc C.prog fn (OpenSpec.ofChange s) apart w args) (s.post enc C.prog fn apart fresh handsOn again) := by
  refine returnsInHanded_of_calls own started noInit witness ?_
  intro w tape i _ hsh _ hok hpre _
  obtain ⟨_, _, _, fn', hfn', _, _, _, _, hval⟩ := hok
  obtain rfl : fn' = fn := Option.some.inj (hfn'.symm.trans hfn)
  obtain ⟨⟨⟨ds, gs, before, hw, _⟩, hx⟩, hz⟩ := hpre
  refine (contract (w.forCall tape i) w.heap.size i.args ds gs before hval (DataW.Whole.of_heap (w' := w.forCall tape i) (by rfl) hw) (hz.weights hw) (hX _ _ _ (by rfl) hx) hsh).mono fun e W' ⟨v, he, hp⟩ => ?_
  subst he
  exact ChangeSpec.post_blind hp

/-! ### The world's own variables, as the row has them -/
theorem block_lt {w : World} {a : Addr} {v : Value} (h : w.cell? a = some v) : a.block < w.heap.size := by
  rcases Nat.lt_or_ge a.block w.heap.size with h' | h'
  · exact h'
  · simp [World.cell?, Array.getElem?_eq_none h'] at h


/-! ### What a variable holds, from how it reads -/
section
variable {H : Type} {enc : TypeId × Value → H} {P : Program} {w : World} {base : Nat} {sp : Nat → Bool} {held : Bool}

theorem trod_ifc {fuel : Nat} {t : TypeId} {ms : Array (String × TypeId)} {cs : List Value} {x : DataW H × List MemPlace} {n : String} {d : DataW H} (ht : P.underlying t = some (.interface ms)) (h : DataW.trod enc P w base sp held fuel t cs = some x) (hx : x.1 = .iface n d) : ∃ u v, cs = [.iface u v] := by
  cases fuel with
  | zero => simp [DataW.trod] at h
  | succ fuel =>
    unfold DataW.trod at h
    rw [ht] at h
    split at h
    case h_11 => cases h; cases hx
    case h_12 => exact ⟨_, _, rfl⟩
    all_goals (first | (cases h; done) | simp_all)

/-- An array of texts that reads as these holds them. -/
theorem cells_of_texts {fuel : Nat} {t e : TypeId} {n : Nat} {cs : List Value} {zs : List (List UInt8)} {p : List MemPlace}
    (ht : P.underlying t = some (.array n e)) (he : P.underlying e = some .string) (hce : P.cellsOf e = 1) (hct : P.cellsOf t = n)
    (h : DataW.trod enc P w base sp held fuel t cs = some (.agg (zs.map fun z => .lit (.string z)), p)) : ∀ (i : Nat) (x : List UInt8), zs[i]? = some x → cs[i]? = some (Value.string ⟨x.toArray⟩) := by
  cases fuel with
  | zero => simp [DataW.trod] at h
  | succ fuel =>
    simp only [DataW.trod, ht, hce, hct, Nat.mul_one] at h
    split at h
    · rename_i hl
      obtain ⟨xs, hm, hx⟩ := Option.map_eq_some_iff.1 h
      have hxs : xs.map (·.1) = zs.map fun z => (DataW.lit (.string z) : DataW H) := by
        have := congrArg Prod.fst hx
        simpa using this
      have hxl : xs.length = n := by simpa using Lib.mapM_length hm
      have hzl : zs.length = n := by
        have := congrArg List.length hxs
        simp at this
        omega
      intro i x hi
      have hin : i < n := by
        have := (List.getElem?_eq_some_iff.1 hi).1
        omega
      obtain ⟨b, hb, hf⟩ := Lib.mapM_at hm i i (by simp [hin])
      obtain ⟨z, hc, rfl, _⟩ := DataW.trod_string he hf
      have h1 : cs[i]? = some (.string z) := by
        have := congrArg (·[0]?) hc
        simpa [List.getElem?_take, List.getElem?_drop] using this
      have h2 : (xs.map (·.1))[i]? = some (DataW.lit (.string z.data.toList) : DataW H) := by simp [hb]
      rw [hxs] at h2
      simp only [List.getElem?_map, Option.map_eq_some_iff, DataW.lit.injEq, Lit.string.injEq] at h2
      obtain ⟨z', hz', rfl⟩ := h2
      rw [hi] at hz'
      obtain rfl := Option.some.inj hz'
      rw [h1]
    · cases h
/-- A slice of pairs of numbers that reads as these holds them. -/
theorem pairs_of_slice {fuel : Nat} {t e : TypeId} {fs : Array Field} {k : IntKind} {cs : List Value} {zs : List (Int × Int)} {x : DataW H × List MemPlace}
    (ht : P.underlying t = some (.slice e)) (he : P.underlying e = some (.struct fs)) (hfs : ∀ (i : Nat) (g : Field), fs[i]? = some g → P.underlying g.type = some (.int k) ∧ g.offset = i ∧ P.cellsOf g.type = 1) (hf2 : fs.size = 2) (hce : P.cellsOf e = 2) (hne : zs ≠ [])
    (h : DataW.trod enc P w base sp held fuel t cs = some x) (hx : x.1 = .slice (zs.map fun z => .agg ([z.1, z.2].map fun y => .lit (.int k y))) []) :
    ∃ b o c, cs = [.slice (some ⟨b, o, none⟩) zs.length c] ∧ ∀ (i : Nat) (z : Int × Int), zs[i]? = some z → w.cell? ⟨b, o + i * 2, none⟩ = some (.int k z.1) ∧ w.cell? ⟨b, o + (i * 2 + 1), none⟩ = some (.int k z.2) := by
  rcases DataW.trod_slice ht h with ⟨hcs, hx'⟩ | ⟨a', len, cap, el, rs, m, rfl, hc0, hx', _, hlc, _, hel, helem, hsp, _⟩
  · rw [hx'] at hx; cases hx
  · rw [hx'] at hx
    simp only [DataW.slice.injEq] at hx
    obtain ⟨eE, _⟩ := hx
    have hlen : len = zs.length := by
      have := congrArg List.length eE
      simp at this
      omega
    subst hlen
    have hrange : ∀ (i : Nat) (z : Int × Int), zs[i]? = some z → ∀ j, j < 2 → w.cell? ((a'.add (i * 2)).add j) = ([.int k z.1, .int k z.2] : List Value)[j]? := by
      intro i z hz j hj
      have hi : i < zs.length := (List.getElem?_eq_some_iff.1 hz).1
      have h1 := helem i hi
      rw [hce] at h1
      obtain ⟨b, hb⟩ : ∃ b, el[i]? = some b := ⟨el[i]'(by omega), List.getElem?_eq_getElem (by omega)⟩
      rw [hb] at h1
      obtain ⟨ce, hcc, hte⟩ := Option.bind_eq_some_iff.1 h1
      have hb1 : b.1 = .agg ([z.1, z.2].map fun y => .lit (.int k y)) := by
        have := congrArg (·[i]?) eE
        simpa [hb, hz] using this
      have hcs := Lib.ints_of_struct (zs := [z.1, z.2]) (p := b.2) he hfs (by rw [hce, hf2]) (by rw [← hb1]; exact hte)
      obtain ⟨_, _, hcc'⟩ := World.cells?_some hcc
      rw [hcc' j hj, hcs]
      rfl
    obtain ⟨R, o, sR⟩ := a'
    obtain ⟨z0, hz0⟩ : ∃ z, zs[0]? = some z := by
      cases zs with
      | nil => exact absurd rfl hne
      | cons z r => exact ⟨z, rfl⟩
    obtain rfl : sR = none := by
      have h00 := hrange 0 z0 hz0 0 (by omega)
      have : (Addr.add (Addr.add ⟨R, o, sR⟩ (0 * 2)) 0) = ⟨R, o, sR⟩ := by simp [Addr.add]
      rw [this] at h00
      exact World.cell?_spot h00
    refine ⟨R, o, cap, hc0, fun i z hz => ?_⟩
    have k0 := hrange i z hz 0 (by omega)
    have k1 := hrange i z hz 1 (by omega)
    rw [Addr.add_lit, Addr.add_lit] at k0 k1
    exact ⟨by simpa using k0, by simpa [Nat.add_assoc] using k1⟩
end

theorem months_of {W : World} (h : Lib.VarReads Tryz.prog W "meridian/words.months" (Rows.laid_meridian_words_months : DataW Unit)) : Texts 0 monthNames W := by
  obtain ⟨g, t, cs, fuel, p, hg, ht, hv, hd⟩ := h
  obtain rfl : g = 0 := Option.some.inj (hg.symm.trans (by kernel_rfl))
  obtain rfl : t = 122 := Option.some.inj (ht.symm.trans (by kernel_rfl))
  have key := cells_of_texts (zs := monthNames) (n := 12) Tryz.underlying122 Tryz.underlying9 (by kernel_rfl) (by kernel_rfl) hd
  intro i x hi
  have hc := key i x hi
  rw [World.var?_cell hg hv i]
  simpa using hc
theorem weekdays_of {W : World} (h : Lib.VarReads Tryz.prog W "meridian/words.weekdays" (Rows.laid_meridian_words_weekdays : DataW Unit)) : Texts 3 weekdayNames W := by
  obtain ⟨g, t, cs, fuel, p, hg, ht, hv, hd⟩ := h
  obtain rfl : g = 3 := Option.some.inj (hg.symm.trans (by kernel_rfl))
  obtain rfl : t = 146 := Option.some.inj (ht.symm.trans (by kernel_rfl))
  have key := cells_of_texts (zs := weekdayNames) (n := 7) Tryz.underlying146 Tryz.underlying9 (by kernel_rfl) (by kernel_rfl) hd
  intro i x hi
  have hc := key i x hi
  rw [World.var?_cell hg hv i]
  simpa using hc
theorem signs_of {W : World} (h : Lib.VarReads Tryz.prog W "meridian/dayform.signs" (Rows.laid_meridian_dayform_signs : DataW Unit)) : Texts 1 signNames W := by
  obtain ⟨g, t, cs, fuel, p, hg, ht, hv, hd⟩ := h
  obtain rfl : g = 1 := Option.some.inj (hg.symm.trans (by kernel_rfl))
  obtain rfl : t = 125 := Option.some.inj (ht.symm.trans (by kernel_rfl))
  have key := cells_of_texts (zs := signNames) (n := 4) Tryz.underlying125 Tryz.underlying9 (by kernel_rfl) (by kernel_rfl) hd
  intro i x hi
  have hc := key i x hi
  rw [World.var?_cell hg hv i]
  simpa using hc
theorem letters_of {W : World} (h : Lib.VarReads Tryz.prog W "meridian/clock.letters" (Rows.laid_meridian_clock_letters : DataW Unit)) : Texts 2 clockLetters W := by
  obtain ⟨g, t, cs, fuel, p, hg, ht, hv, hd⟩ := h
  obtain rfl : g = 2 := Option.some.inj (hg.symm.trans (by kernel_rfl))
  obtain rfl : t = 126 := Option.some.inj (ht.symm.trans (by kernel_rfl))
  have key := cells_of_texts (zs := clockLetters) (n := 3) Tryz.underlying126 Tryz.underlying9 (by kernel_rfl) (by kernel_rfl) hd
  intro i x hi
  have hc := key i x hi
  rw [World.var?_cell hg hv i]
  simpa using hc
theorem pow10_of {W : World} (h : Lib.VarReads Tryz.prog W "internal/strconv.uint64pow10" (Rows.laid_internal_strconv_uint64pow10 : DataW Unit)) : Lib.TabIs Tryz.prog W "internal/strconv.uint64pow10" .u64 Lib.pow10Tab := by
  obtain ⟨g, t, cs, fuel, p, hg, ht, hv, hd⟩ := h
  obtain rfl : t = 204 := Option.some.inj (ht.symm.trans (by
    obtain rfl : g = 12 := Option.some.inj (hg.symm.trans (by kernel_rfl))
    kernel_rfl))
  have key := Lib.cells_of_tab (k := .u64) (zs := Lib.pow10Tab) (n := 20) Tryz.underlying204 Tryz.underlying181 (by kernel_rfl) (by kernel_rfl) (by rw [show (Lib.tabData .u64 Lib.pow10Tab : DataW Unit) = Rows.laid_internal_strconv_uint64pow10 by kernel_rfl]; exact hd)
  unfold Lib.TabIs
  rw [hv, ← key]
theorem foldTab_of {W : World} (h : Lib.VarReads Tryz.prog W "unicode.asciiFold" (Rows.laid_unicode_asciiFold : DataW Unit)) : ∀ (i : Nat) (x : Int), foldTab[i]? = some x → W.cell? ⟨5, i, none⟩ = some (.int .u16 x) := by
  obtain ⟨g, t, cs, fuel, p, hg, ht, hv, hd⟩ := h
  obtain rfl : g = 5 := Option.some.inj (hg.symm.trans (by kernel_rfl))
  obtain rfl : t = 171 := Option.some.inj (ht.symm.trans (by kernel_rfl))
  have key := Lib.cells_of_tab (k := .u16) (zs := foldTab) (n := 128) Tryz.underlying171 Tryz.underlying170 (by kernel_rfl) (by kernel_rfl) (by rw [show (Lib.tabData .u16 foldTab : DataW Unit) = Rows.laid_unicode_asciiFold by kernel_rfl]; exact hd)
  intro i x hi
  rw [World.var?_cell hg hv i]
  have : cs.toList[i]? = some (.int .u16 x) := by rw [key, List.getElem?_map, hi]; rfl
  simpa using this
theorem orbit_of {W : World} (h : Lib.VarReads Tryz.prog W "unicode.caseOrbit" (Rows.laid_unicode_caseOrbit : DataW Unit)) :
    ∃ b o c, W.cell? ⟨6, 0, none⟩ = some (.slice (some ⟨b, o, none⟩) 94 c) ∧ ∀ (i : Nat) (x : Int × Int), orbitTab[i]? = some x → W.cell? ⟨b, o + i * 2, none⟩ = some (.int .u16 x.1) ∧ W.cell? ⟨b, o + (i * 2 + 1), none⟩ = some (.int .u16 x.2) := by
  obtain ⟨g, t, cs, fuel, p, hg, ht, hv, hd⟩ := h
  obtain rfl : g = 6 := Option.some.inj (hg.symm.trans (by kernel_rfl))
  obtain rfl : t = 172 := Option.some.inj (ht.symm.trans (by kernel_rfl))
  obtain ⟨b, o, c, hcs, hz⟩ := pairs_of_slice (k := .u16) (zs := orbitTab) (e := 174) Tryz.underlying172 Tryz.underlying174 (fun q f hq => by
    match q, hq with
    | 0, hq => simp at hq; subst hq; exact ⟨Tryz.underlying170, rfl, by kernel_rfl⟩
    | 1, hq => simp at hq; subst hq; exact ⟨Tryz.underlying170, rfl, by kernel_rfl⟩
    | q + 2, hq => simp at hq) rfl (by kernel_rfl) (by decide) hd (by kernel_rfl)
  refine ⟨b, o, c, ?_, hz⟩
  rw [World.var?_cell hg hv 0]
  have : cs.toList[0]? = some (.slice (some ⟨b, o, none⟩) 94 c) := by rw [hcs]; rfl
  simpa using this
theorem err_of {W : World} {n : String} {k : Nat} {nm : String} {d : DataW Unit} (hk : Tryz.prog.globalNamed n = some k) (hT : (Tryz.prog.globals[k]?).map (·.type) = some 117) (h : Lib.VarReads Tryz.prog W n (.iface nm d)) : ∃ te pe, W.cell? ⟨k, 0, none⟩ = some (.iface te pe) := by
  obtain ⟨g, t, cs, fuel, p, hg, ht, hv, hd⟩ := h
  obtain rfl := Option.some.inj (hk.symm.trans hg)
  obtain rfl := Option.some.inj (hT.symm.trans ht)
  obtain ⟨u, v, hcs⟩ := trod_ifc Tryz.underlying117 hd rfl
  refine ⟨u, v, ?_⟩
  rw [World.var?_cell hg hv 0]
  have : cs.toList[0]? = some (.iface u v) := by rw [hcs]; rfl
  simpa using this

theorem maxLen_of {W : World} (h : W.ShapedOpen Tryz.prog) : ∃ m, W.cell? ⟨4, 0, none⟩ = some (.int .i64 m) :=
  cell_of_shapedOpen_int (t := 3) (zero := #[.int .i64 0]) h (Nat.le_of_ble_eq_true (by kernel_rfl)) (by kernel_rfl) rfl (by kernel_rfl) (by kernel_rfl) Tryz.underlying3
theorem accept_eq : (Rows.laid_unicode_utf8_acceptRanges : DataW Unit) = Lib.acceptData := by kernel_rfl
theorem u8Extra : U8Extra Tryz.prog Tryz.lays260_ren := ⟨by kernel_rfl, by kernel_rfl, by kernel_rfl, by kernel_rfl, by kernel_rfl, by kernel_rfl, by kernel_rfl⟩

/-- What a row's condition gives. -/
theorem facts_of {W : World} (hsh : W.ShapedOpen Tryz.prog) (hL : laidMet Tryz.prog Rows.linesNamesRow.laid W) : GFacts W where
  maxLen := maxLen_of hsh
  tabs := utf8Tabs_of_reads Tryz.lays260 u8Extra (Pinned.utf8First_eq ▸ Lib.laidMet.reads hL (List.mem_of_getElem? (i := 13) rfl)) (accept_eq ▸ Lib.laidMet.reads hL (List.mem_of_getElem? (i := 3) rfl))
  pow10 := pow10_of (Lib.laidMet.reads hL (List.mem_of_getElem? (i := 2) rfl))
  synt := err_of (by kernel_rfl) (by kernel_rfl) (Lib.laidMet.reads hL (List.mem_of_getElem? (i := 5) rfl))
  rang := err_of (by kernel_rfl) (by kernel_rfl) (Lib.laidMet.reads hL (List.mem_of_getElem? (i := 4) rfl))
  months := months_of (Lib.laidMet.reads hL (List.mem_of_getElem? (i := 9) rfl))
  weekdays := weekdays_of (Lib.laidMet.reads hL (List.mem_of_getElem? (i := 10) rfl))
  signs := signs_of (Lib.laidMet.reads hL (List.mem_of_getElem? (i := 11) rfl))
  letters := letters_of (Lib.laidMet.reads hL (List.mem_of_getElem? (i := 8) rfl))
  fold := foldTab_of (Lib.laidMet.reads hL (List.mem_of_getElem? (i := 6) rfl))
  orbit := orbit_of (Lib.laidMet.reads hL (List.mem_of_getElem? (i := 7) rfl))

theorem keep_cell {W w' : World} (hb : Below W.heap.size W w') {a : Addr} {v : Value} (h : W.cell? a = some v) : w'.cell? a = some v := (hb.cell (p := a) (block_lt h)).trans h
theorem facts_below {W w' : World} (h : GFacts W) (hb : Below W.heap.size W w') : GFacts w' where
  maxLen := by obtain ⟨m, hm⟩ := h.maxLen; exact ⟨m, keep_cell hb hm⟩
  tabs := ⟨fun c hc => keep_cell hb (h.tabs.1 c hc), fun i hi => ⟨keep_cell hb (h.tabs.2 i hi).1, keep_cell hb (h.tabs.2 i hi).2⟩⟩
  pow10 := by
    have hp := h.pow10
    unfold Lib.TabIs World.var? at hp ⊢
    cases hg : Tryz.prog.globalNamed "internal/strconv.uint64pow10" with
    | none => rw [hg] at hp; cases hp
    | some g =>
      rw [hg] at hp
      simp only [Option.bind_some] at hp ⊢
      have hlt : g < W.heap.size := by
        rcases Nat.lt_or_ge g W.heap.size with h' | h'
        · exact h'
        · rw [Array.getElem?_eq_none h'] at hp; cases hp
      rw [hb.block g hlt]
      exact hp
  synt := by obtain ⟨t, e, hc⟩ := h.synt; exact ⟨t, e, keep_cell hb hc⟩
  rang := by obtain ⟨t, e, hc⟩ := h.rang; exact ⟨t, e, keep_cell hb hc⟩
  months := fun i x hi => keep_cell hb (h.months i x hi)
  weekdays := fun i x hi => keep_cell hb (h.weekdays i x hi)
  signs := fun i x hi => keep_cell hb (h.signs i x hi)
  letters := fun i x hi => keep_cell hb (h.letters i x hi)
  fold := fun i x hi => keep_cell hb (h.fold i x hi)
  orbit := by
    obtain ⟨b, o, c, hc, ht⟩ := h.orbit
    exact ⟨b, o, c, keep_cell hb hc, fun i x hi => ⟨keep_cell hb (ht i x hi).1, keep_cell hb (ht i x hi).2⟩⟩
theorem glob_of {W : World} (hsh : W.ShapedOpen Tryz.prog) (hL : laidMet Tryz.prog Rows.linesNamesRow.laid W) : Glob W :=
  ⟨W.heap.size, Nat.le_refl _, fun _ hb => facts_below (facts_of hsh hL) hb⟩

/-! ### A slice of strings that came in -/
theorem open_strs_arg {H : Type} {enc : TypeId × Value → H} {w : World} {base : Nat} {spare : Nat → Bool} {held : Bool} {fuel : Nat} {cs : List Value} {x : DataW H × List MemPlace}
    (h : DataW.trod enc Tryz.prog w base spare held fuel 27 cs = some x) (hsp : ∀ b, spare b = true) : ∃ v, cs = [v] ∧ ∃ xs : List (List UInt8), Strs 0 w v xs := by
  rcases open_strings Tryz.underlying27 Tryz.underlying9 (by kernel_rfl) h with ⟨rfl, _⟩ | ⟨a, len, cap, ss, rfl, _, hl, hm, hz, _, hcell, _⟩
  · exact ⟨_, rfl, [], Strs.nil _ _⟩
  · rw [hsp, if_pos rfl] at hz
    have hlen : ((ss.take len).map (·.data.toList)).length = len := by rw [List.length_map, List.length_take]; omega
    refine ⟨_, rfl, (ss.take len).map (·.data.toList), some a, cap, by rw [hlen], by rw [hlen]; exact hl, hm, fun h0 => ?_⟩
    rw [hlen] at h0
    obtain ⟨b, off, spot⟩ := a
    have hspot : spot = none := by simpa [Addr.add] using World.cell?_spot (hcell 0 (by omega))
    subst hspot
    refine ⟨b, off, rfl, Nat.zero_le _, block_lt (a := ⟨b, off, none⟩) (by have := hcell 0 (by omega); simpa [Addr.add] using this), fun j y hj => ?_⟩
    rw [List.getElem?_map, Option.map_eq_some_iff] at hj
    obtain ⟨z, hz', rfl⟩ := hj
    have hjl : j < len := by
      have := (List.getElem?_eq_some_iff.1 hz').1
      rw [List.length_take] at this
      omega
    have hc := hcell j (by omega)
    rw [Go.WideShapes.add_plain] at hc
    rw [hc]
    rw [List.getElem?_take_of_lt hjl] at hz'
    simp [hz']

end Go.Proofs.YtgofleplmnibbaaGreatDoor
