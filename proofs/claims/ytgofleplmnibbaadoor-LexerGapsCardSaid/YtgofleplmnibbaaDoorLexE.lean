/-
  strings.ContainsAny at the bytes that no line may have, whatever the text: IndexAny, its road for short texts and its road for long ones.
-/
import Derived.Test.YtgofleplmnibbaaDoorLexD
import Derived.Shelf.Strings.SlTrimAscii
namespace Go.Proofs.YtgofleplmnibbaaDoor
open Go.RowKit Go.Shelf Lex

theorem none_low : ∀ c ∈ ([0, 10, 13] : Bytes), c.toNat < 128 := by decide

theorem rune_ask (r : Nat) (w : World) : Calls Tryd.prog 25 #[.string ⟨#[0, 10, 13]⟩, .int .i32 r] w fun e w' => (∃ n : Int, e = .returned (.int .i64 n) ∧ (0 ≤ n ↔ ∃ x ∈ ([0, 10, 13] : Bytes), x.toNat = r)) ∧ Below w.heap.size w w' := by
  by_cases h : r < 128
  · refine (Tryd.strings_IndexRune_ascii ⟨#[0, 10, 13]⟩ r w (by omega) (by omega)).mono ?_
    rintro e w' ⟨rfl, rfl⟩
    refine ⟨⟨_, rfl, ?_⟩, Below.refl _ _⟩
    have hc := Lib.contains_iff_indexByte [0, 10, 13] (r.toUInt8)
    have e1 : ((r : Int).toNat.toUInt8) = r.toUInt8 := by simp
    rw [e1]
    have e2 : r.toUInt8.toNat = r := by simp; omega
    constructor
    · intro h0
      have : ([0, 10, 13] : Bytes).contains r.toUInt8 = true := by rw [hc]; simpa using h0
      exact ⟨r.toUInt8, by simpa using this, e2⟩
    · rintro ⟨x, hx, he⟩
      have : x = r.toUInt8 := UInt8.toNat_inj.1 (by omega)
      have : ([0, 10, 13] : Bytes).contains r.toUInt8 = true := by rw [← this]; simpa using hx
      rw [hc] at this
      simpa using this
  · refine (indexRune_high r w (by omega)).mono ?_
    rintro e w' ⟨rfl, hb⟩
    refine ⟨⟨_, rfl, ?_⟩, hb⟩
    constructor
    · intro h0; omega
    · rintro ⟨x, hx, he⟩; have := none_low x hx; omega

theorem indexAny_iff : ∀ (s set : Bytes), 0 ≤ Lib.indexAny s set ↔ s.any (inSet set) = true
  | [], set => by simp [Lib.indexAny]
  | b :: s, set => by
    have ih := indexAny_iff s set
    have hge := Lib.indexAny_ge set s
    unfold Lib.indexAny
    rw [List.any_cons]
    unfold inSet at ih ⊢
    cases h : set.contains b
    · simp only [Bool.false_eq_true, ↓reduceIte, Bool.false_or]
      rw [← ih]
      by_cases h1 : (Lib.indexAny s set == -1) = true
      · rw [if_pos h1]; simp only [beq_iff_eq] at h1; omega
      · rw [if_neg h1]; simp only [beq_iff_eq] at h1; omega
    · simp

set_option maxHeartbeats 2000000 in
set_option maxRecDepth 100000 in
theorem indexAny_short (s : Bytes) (w : World) (h8 : s.length ≤ 8) :
    Calls Tryd.prog 19 #[.string ⟨s.toArray⟩, .string ⟨#[0, 10, 13]⟩] w fun e w' => (∃ n : Int, e = .returned (.int .i64 n) ∧ (0 ≤ n ↔ s.any (inSet [0, 10, 13]) = true)) ∧ Below w.heap.size w w' := by
  have hse : (s.length : Int) ≤ 8 := by omega
  have hsz : (⟨s.toArray⟩ : ByteArray).size = s.length := size_mk s
  have hus : ∀ w, Calls Tryd.prog 26 #[.int .i64 s.length] w fun e w' => e = .returned (.bool false) ∧ w = w' := fun w => by
    refine (Tryd.strings_shouldUseASCIISet (s.length : Int) w).mono ?_
    rintro e w' ⟨rfl, rfl⟩
    exact ⟨by rw [decide_eq_false (by omega)], rfl⟩
  have HUS := Lib.hid hus
  clear hus
  go_enter Tryd.func19, Tryd.ntmps19
  go_wp2_with (go_at_call 26; refine (HUS.out _).mono ?_; rintro e w' ⟨rfl, rfl⟩)
  go_loopg [] (s.length) (fun k wr => ∃ pos, pos ≤ s.length ∧ s.length - pos ≤ k ∧ wr.heap[w.heap.size]? = some (.stringIter ⟨s.toArray⟩ pos) ∧ Below w.heap.size w wr ∧ s.any (inSet [0, 10, 13]) = (s.drop pos).any (inSet [0, 10, 13]))
  case atStart => exact ⟨0, by omega, by omega, World.iter_heap _ _ _, (Below.refl _ _).alloc (Nat.le_refl _) _, rfl⟩
  case round =>
    obtain ⟨pos, hpl, hk, hit, hbw, ha⟩ := hrel
    have HA := Lib.hid ha
    clear ha
    by_cases hlt : pos < s.length
    · have hnx := fun ty => Lib.run_next_any_at (P := Tryd.prog) wr w.heap.size ⟨s.toArray⟩ pos ty hit (by rw [size_mk]; exact hlt)
      obtain ⟨h1, h2, h3, h4⟩ := rune_step s [0, 10, 13] none_low pos hlt
      have H3 := Lib.hid h3
      have H4 := Lib.hid h4
      clear h3 h4
      generalize hd : Utf8.decode ⟨s.toArray⟩ pos = d at *
      clear hd
      have hiti := Lib.iterAt_heap _ _ _ _ (pos + d.2) hit
      have hbi := Lib.below_iterAt hbw (Nat.le_refl _) ⟨s.toArray⟩ (pos + d.2)
      have HIT := Lib.hid hiti
      clear hiti
      go_wp2_with fail
      refine (rune_ask d.1 _).mono ?_
      rintro e w1 ⟨⟨n, rfl, hn⟩, hb1⟩
      have HN := Lib.hid hn
      clear hn
      by_cases h0 : 0 ≤ n
      · have HX := Lib.hid (HN.out.1 h0)
        clear hnx
        go_wp2_with fail
        go_ret
        obtain ⟨x, hx, he⟩ := HX.out
        refine ⟨⟨_, rfl, ?_⟩, hbi.trans (hb1.mono hbi.size)⟩
        rw [HA.out, (H3.out x hx he).2.2]
        simp
      · have HX := Lib.hid (fun h => h0 (HN.out.2 h))
        clear hnx
        go_wp2_with fail
        go_roundg (s.length - (pos + d.2))
        case measure => omega
        case rel => exact ⟨pos + d.2, h2, by omega, (hb1.block _ (Array.getElem?_eq_some_iff.1 HIT.out).1).trans HIT.out, hbi.trans (hb1.mono hbi.size), by rw [HA.out, H4.out (fun x hx he => HX.out ⟨x, hx, he⟩)]⟩
    · have hnx := fun ty => Lib.run_next_end_at (P := Tryd.prog) wr w.heap.size ⟨s.toArray⟩ pos ty hit (by rw [size_mk]; exact hlt)
      go_wp2_with fail
      go_ret
      exact ⟨⟨_, rfl, by rw [HA.out, List.drop_eq_nil_of_le (by omega)]; simp⟩, hbw⟩

theorem indexAny_any (s : Bytes) (w : World) (hs : s.length ≤ 100000) :
    Calls Tryd.prog 19 #[.string ⟨s.toArray⟩, .string ⟨#[0, 10, 13]⟩] w fun e w' => (∃ n : Int, e = .returned (.int .i64 n) ∧ (0 ≤ n ↔ s.any (inSet [0, 10, 13]) = true)) ∧ Below w.heap.size w w' := by
  by_cases h8 : s.length ≤ 8
  · exact indexAny_short s w h8
  · refine (Tryd.strings_IndexAny_long (fun _ => by kernel_rfl) ⟨s.toArray⟩ ⟨#[0, 10, 13]⟩ w (by decide) (by rw [size_mk]; omega) (by rw [size_mk]; omega) (by decide) (ascii_of_all (by decide))).mono ?_
    rintro e w' ⟨rfl, rfl⟩
    refine ⟨⟨_, rfl, ?_⟩, ((Below.refl _ _).alloc (Nat.le_refl _) _).alloc (by simp) _⟩
    exact indexAny_iff s [0, 10, 13]

set_option maxHeartbeats 400000 in
/-- strings.ContainsAny(s, "\x00\n\r"). -/
theorem containsAny_any (s : Bytes) (w : World) (hs : s.length ≤ 100000) :
    Calls Tryd.prog 14 #[.string ⟨s.toArray⟩, .string ⟨#[0, 10, 13]⟩] w fun e w' => e = .returned (.bool (s.any (inSet [0, 10, 13]))) ∧ Below w.heap.size w w' := by
  go_enter Tryd.func14, Tryd.ntmps14
  go_wp2_with fail
  refine (indexAny_any s _ hs).mono ?_
  rintro e w1 ⟨⟨n, rfl, hn⟩, hb1⟩
  have HN := Lib.hid hn
  clear hn
  go_wp2_with fail
  go_ret
  refine ⟨?_, hb1⟩
  have : decide (0 ≤ n) = s.any (inSet [0, 10, 13]) := by rw [Bool.eq_iff_iff, decide_eq_true_iff]; exact HN.out
  rw [← this]; rfl

end Go.Proofs.YtgofleplmnibbaaDoor
