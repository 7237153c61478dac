/-
  unicode.SimpleFold at the runes that the letters of 'last' fold to, and strings.EqualFold of any four bytes and 'last'.
-/
import Derived.Test.YtgofleplmnibbaaGreatDoorLinO
import Derived.ScopeJumps
namespace Go.Proofs.YtgofleplmnibbaaGreatDoor
open Go.RowKit Go.Shelf Lex

set_option maxRecDepth 100000 in
theorem simpleFold_low (k : Nat) (v : Int) (w : World) (hG : Glob w) (h : foldTab[k]? = some v) (hk : k < 128) (h0 : 0 ≤ v) (h1 : v < 65536) :
    Calls Tryz.prog 134 #[.int .i32 k] w fun e w' => e = .returned (.int .i32 v) ∧ w = w' := by
  have hc := hG.facts.fold k v h
  have hk0 : ¬ (k : Int) < 0 := by omega
  have hk1 : ¬ (1114111 : Int) < k := by omega
  have hk2 : (k : Int) < 128 := by omega
  clear hG h
  go_enter Tryz.func134, Tryz.ntmps134
  go_wp2_with fail
  go_ret
  exact ⟨rfl, rfl⟩

theorem fold_of (k : Nat) (v : Int) (w : World) (hG : Glob w) (h : foldTab[k]? = some v) (hk : k < 128) (h0 : 0 ≤ v) (h1 : v < 65536) :
    Calls Tryz.prog 134 #[.int .i32 (OfNat.ofNat k)] w fun e w' => e = .returned (.int .i32 v) ∧ w = w' := simpleFold_low k v w hG h hk h0 h1

set_option maxHeartbeats 2000000 in
set_option maxRecDepth 100000 in
theorem simpleFold_long (w : World) (hG : Glob w) :
    Calls Tryz.prog 134 #[.int .i32 383] w fun e w' => e = .returned (.int .i32 83) ∧ w = w' := by
  obtain ⟨b, o, c, hc, ht⟩ := hG.facts.orbit
  have h47 := (ht 47 _ rfl).1
  have h23 := (ht 23 _ rfl).1
  have h11 := (ht 11 _ rfl).1
  have h5 := (ht 5 _ rfl).1
  have h8 := (ht 8 _ rfl).1
  have h9 := (ht 9 _ rfl).1
  obtain ⟨h10, h10'⟩ := ht 10 _ rfl
  clear hG ht
  go_enter Tryz.func134, Tryz.ntmps134
  go_wp2_with fail
  go_loopg [3, 4] 8 (fun g lo hi wx => w = wx ∧ ((lo = .int .i64 0 ∧ hi = .int .i64 94 ∧ 7 ≤ g) ∨ (lo = .int .i64 0 ∧ hi = .int .i64 47 ∧ 6 ≤ g) ∨ (lo = .int .i64 0 ∧ hi = .int .i64 23 ∧ 5 ≤ g) ∨ (lo = .int .i64 0 ∧ hi = .int .i64 11 ∧ 4 ≤ g) ∨ (lo = .int .i64 6 ∧ hi = .int .i64 11 ∧ 3 ≤ g) ∨ (lo = .int .i64 9 ∧ hi = .int .i64 11 ∧ 2 ≤ g) ∨ (lo = .int .i64 9 ∧ hi = .int .i64 10 ∧ 1 ≤ g) ∨ (lo = .int .i64 10 ∧ hi = .int .i64 10)))
  case atStart => exact ⟨rfl, .inl ⟨rfl, rfl, by omega⟩⟩
  case round =>
    obtain ⟨rfl, h⟩ := hrel
    rcases h with ⟨rfl, rfl, hg⟩ | ⟨rfl, rfl, hg⟩ | ⟨rfl, rfl, hg⟩ | ⟨rfl, rfl, hg⟩ | ⟨rfl, rfl, hg⟩ | ⟨rfl, rfl, hg⟩ | ⟨rfl, rfl, hg⟩ | ⟨rfl, rfl⟩
    · go_wp2_with fail
      go_roundg 6
      case measure => omega
      case rel => exact ⟨rfl, by simp⟩
    · go_wp2_with fail
      go_roundg 5
      case measure => omega
      case rel => exact ⟨rfl, by simp⟩
    · go_wp2_with fail
      go_roundg 4
      case measure => omega
      case rel => exact ⟨rfl, by simp⟩
    · go_wp2_with fail
      go_roundg 3
      case measure => omega
      case rel => exact ⟨rfl, by simp⟩
    · go_wp2_with fail
      go_roundg 2
      case measure => omega
      case rel => exact ⟨rfl, by simp⟩
    · go_wp2_with fail
      go_roundg 1
      case measure => omega
      case rel => exact ⟨rfl, by simp⟩
    · go_wp2_with fail
      go_roundg 0
      case measure => omega
      case rel => exact ⟨rfl, by simp⟩
    · go_wp2_with fail
      go_ret
      exact ⟨rfl, rfl⟩

theorem wp_scope_once {P : Program} {a : Act} {w : World} {Q : Exit → Act → World → Prop} {c rest : Code} (l : Nat) (hf : findLabel c l = some rest)
    (h : c.wp P (Exit.jump l (fun a' w' => rest.wp P (Exit.jump l (fun _ _ => False) Q) a' w') Q) a w) : (Code.scope c).wp P Q a w :=
  wp_scope_jumps l (fun a' w' => rest.wp P (Exit.jump l (fun _ _ => False) Q) a' w') (fun _ _ => 0) hf h (fun _ _ hJ => Code.wp_mono (fun e _ _ hq => by
    cases e
    case goto l' => exact ⟨hq.1, hq.2.elim⟩
    all_goals exact hq) hJ)

theorem decode_two (s : ByteArray) (pos : Nat) (h : pos < s.size) (ha : 128 ≤ (s[pos]'h).toNat) : (Utf8.decode s pos).1 = 65533 ∨ 2 ≤ (Utf8.decode s pos).2 := by
  have h0 : (s.get! (pos + 0)).toNat = (s[pos]'h).toNat := by rw [Nat.add_zero, getb s pos h]
  have hn : ¬ (s.get! (pos + 0)).toNat < 128 := by omega
  simp only [Utf8.decode, hn, ↓reduceIte]
  split
  · split
    · exact .inr (by simp)
    · exact .inl rfl
  · split
    · split
      · exact .inr (by simp)
      · exact .inl rfl
    · split
      · split
        · exact .inr (by simp)
        · exact .inl rfl
      · exact .inl rfl

theorem g4_0 (a b c d : UInt8) (h : 0 < (⟨#[a, b, c, d]⟩ : ByteArray).size) : (⟨#[a, b, c, d]⟩ : ByteArray)[0]'h = a := rfl
theorem l4_0 (h : 0 < (⟨#[108, 97, 115, 116]⟩ : ByteArray).size) : ((⟨#[108, 97, 115, 116]⟩ : ByteArray)[0]'h).toNat = 108 := rfl
theorem g4_1 (a b c d : UInt8) (h : 1 < (⟨#[a, b, c, d]⟩ : ByteArray).size) : (⟨#[a, b, c, d]⟩ : ByteArray)[1]'h = b := rfl
theorem l4_1 (h : 1 < (⟨#[108, 97, 115, 116]⟩ : ByteArray).size) : ((⟨#[108, 97, 115, 116]⟩ : ByteArray)[1]'h).toNat = 97 := rfl
theorem g4_2 (a b c d : UInt8) (h : 2 < (⟨#[a, b, c, d]⟩ : ByteArray).size) : (⟨#[a, b, c, d]⟩ : ByteArray)[2]'h = c := rfl
theorem l4_2 (h : 2 < (⟨#[108, 97, 115, 116]⟩ : ByteArray).size) : ((⟨#[108, 97, 115, 116]⟩ : ByteArray)[2]'h).toNat = 115 := rfl
theorem g4_3 (a b c d : UInt8) (h : 3 < (⟨#[a, b, c, d]⟩ : ByteArray).size) : (⟨#[a, b, c, d]⟩ : ByteArray)[3]'h = d := rfl
theorem l4_3 (h : 3 < (⟨#[108, 97, 115, 116]⟩ : ByteArray).size) : ((⟨#[108, 97, 115, 116]⟩ : ByteArray)[3]'h).toNat = 116 := rfl
attribute [local go_sem] g4_0 g4_1 g4_2 g4_3 l4_0 l4_1 l4_2 l4_3

set_option maxHeartbeats 4000000 in
set_option maxRecDepth 100000 in
theorem fold_high (a b c d : UInt8) (w : World) (hG : Glob w) (hh : ∃ x ∈ [a, b, c, d], 128 ≤ x.toNat) :
    Calls Tryz.prog 102 #[.string ⟨#[a, b, c, d]⟩, .string ⟨#[108, 97, 115, 116]⟩] w fun e w' => e = .returned (.bool false) ∧ Below w.heap.size w w' := by
  go_enter Tryz.func102, Tryz.ntmps102
  go_wp2_with fail
  refine wp_scope_once 0 rfl ?_
  go_wp2_with fail
  go_loopg [5] 4 (fun g s5 wx => w = wx ∧ ∃ i : Nat, i + g = 4 ∧ s5 = .int .i64 i ∧ ∃ x ∈ [a, b, c, d].drop i, 128 ≤ x.toNat)
  case atStart => exact ⟨rfl, 0, rfl, rfl, hh⟩
  case round =>
    obtain ⟨rfl, i, hig, rfl, hx⟩ := hrel
    have HX := Lib.hid hx
    clear hh hx
    obtain rfl | rfl | rfl | rfl | rfl : i = 0 ∨ i = 1 ∨ i = 2 ∨ i = 3 ∨ i = 4 := by omega
    · obtain rfl : gk = 4 := by omega
      by_cases ha : 128 ≤ a.toNat
      · obtain ⟨v, hv, hv1⟩ : ∃ v : Nat, bits .or .u8 (a.toNat : Int) 108 = (v : Int) ∧ 128 ≤ v := ⟨_, u8_or_nat _ 108 (by have := a.toNat_lt; omega) (by decide), Nat.le_trans ha Nat.left_le_or⟩
        have hv2 : (128 : Int) ≤ v := by omega
        go_wp2_with fail
        go_step3
        refine ⟨rfl, ?_⟩
        go_wp2_with fail
        go_loopg [1] 2 (fun g t wr => Below w.heap.size w wr ∧ ((wr.heap[w.heap.size]? = some (.stringIter ⟨#[a, b, c, d]⟩ 0) ∧ t = .string ⟨#[108, 97, 115, 116]⟩ ∧ 1 ≤ g)))
        case atStart => exact ⟨(Below.refl _ _).alloc (Nat.le_refl _) _, World.iter_heap _ _ _, rfl, by omega⟩
        case round =>
          obtain ⟨hbw, h⟩ := hrel
          obtain ⟨hit, rfl, hg⟩ := h
          have hnx := fun ty => Lib.run_next_any_at (P := Tryz.prog) wr w.heap.size ⟨#[a, b, c, d]⟩ 0 ty hit (show 0 < 4 from by decide)
          have hd1 : 128 ≤ (Utf8.decode ⟨#[a, b, c, d]⟩ 0).1 := (decode_high ⟨#[a, b, c, d]⟩ 0 (show 0 < 4 from by decide) ha).1
          have hD := Lib.hid (Tryz.utf8_DecodeRuneInString_ascii ⟨#[108, 97, 115, 116]⟩ 108)
          generalize Utf8.decode ⟨#[a, b, c, d]⟩ 0 = dd at *
          obtain ⟨r, n⟩ := dd
          simp only at hd1 hnx
          have q1 : ((108 : Int) == (r : Int)) = false := by rw [beq_eq_false_iff_ne]; omega
          have q2 : (108 : Int) < (r : Int) := by omega
          have q3 : ¬ (r : Int) < 128 := by omega
          go_wp2_with fail
          refine (hD.out _ rfl (by decide)).mono ?_
          rintro e w1 ⟨rfl, rfl⟩
          have hGr : Glob (wr.iterAt w.heap.size ⟨#[a, b, c, d]⟩ n) := hG.below' (Lib.below_iterAt hbw (Nat.le_refl _) _ _)
          have hbi : Below w.heap.size w (wr.iterAt w.heap.size ⟨#[a, b, c, d]⟩ n) := Lib.below_iterAt hbw (Nat.le_refl _) _ _
          have hiti := Lib.iterAt_heap wr w.heap.size ⟨#[a, b, c, d]⟩ 0 n hit
          obtain ⟨wi, hwi⟩ : ∃ wi, wi = wr.iterAt w.heap.size ⟨#[a, b, c, d]⟩ n := ⟨_, rfl⟩
          rw [← hwi] at hGr hbi hiti ⊢
          clear hwi hit hbw hnx hG
          clear wr
          go_wp2_with fail
          refine (fold_of 108 76 wi hGr rfl (by decide) (by decide) (by decide)).mono ?_
          rintro e w1 ⟨rfl, rfl⟩
          go_wp2_with fail
          go_loopg [13] 1 (fun g z wx => wi = wx ∧ ((z = .int .i32 76 ∧ 1 ≤ g) ∨ z = .int .i32 108))
          case atStart => exact ⟨rfl, .inl ⟨rfl, by omega⟩⟩
          case round =>
            obtain ⟨rfl, ⟨rfl, hg2⟩ | rfl⟩ := hrel
            · have q4 : (76 : Int) < (r : Int) := by omega
              go_wp2_with fail
              refine (fold_of 76 108 wi hGr rfl (by decide) (by decide) (by decide)).mono ?_
              rintro e w1 ⟨rfl, rfl⟩
              go_wp2_with fail
              go_roundg 0
              case measure => omega
              case rel => exact ⟨rfl, .inr rfl⟩
            · go_wp2_with fail
              first | go_ret | (simp only [Exit.jump]; go_ret)
              exact ⟨rfl, hbi⟩
      · obtain ⟨v, hv, hv1⟩ : ∃ v : Nat, bits .or .u8 (a.toNat : Int) 108 = (v : Int) ∧ v < 128 := ⟨_, u8_or_nat _ 108 (by have := a.toNat_lt; omega) (by decide), Nat.or_lt_two_pow (n := 7) (by omega) (by decide)⟩
        have hv2 : ¬ (128 : Int) ≤ v := by omega
        have HN : Hid (∃ x ∈ [a, b, c, d].drop 1, 128 ≤ x.toNat) := Lib.hid (by
          obtain ⟨z, hz, hz2⟩ := HX.out
          simp only [List.drop_succ_cons, List.drop_zero, List.mem_cons, List.not_mem_nil, or_false] at hz ⊢
          rcases hz with rfl | hz
          · exact absurd hz2 ha
          · exact ⟨z, hz, hz2⟩)
        clear HX
        go_wp2_with fail
        all_goals first
          | (go_roundg 3
             case measure => omega
             case rel => exact ⟨rfl, 1, rfl, rfl, HN.out⟩)
          | (simp only [Exit.jump]; go_ret; exact ⟨rfl, Below.refl _ _⟩)
    · obtain rfl : gk = 3 := by omega
      by_cases hb : 128 ≤ b.toNat
      · obtain ⟨v, hv, hv1⟩ : ∃ v : Nat, bits .or .u8 (b.toNat : Int) 97 = (v : Int) ∧ 128 ≤ v := ⟨_, u8_or_nat _ 97 (by have := b.toNat_lt; omega) (by decide), Nat.le_trans hb Nat.left_le_or⟩
        have hv2 : (128 : Int) ≤ v := by omega
        go_wp2_with fail
        go_step3
        refine ⟨rfl, ?_⟩
        go_wp2_with fail
        go_loopg [1] 2 (fun g t wr => Below w.heap.size w wr ∧ ((wr.heap[w.heap.size]? = some (.stringIter ⟨#[b, c, d]⟩ 0) ∧ t = .string ⟨#[97, 115, 116]⟩ ∧ 1 ≤ g)))
        case atStart => exact ⟨(Below.refl _ _).alloc (Nat.le_refl _) _, World.iter_heap _ _ _, rfl, by omega⟩
        case round =>
          obtain ⟨hbw, h⟩ := hrel
          obtain ⟨hit, rfl, hg⟩ := h
          have hnx := fun ty => Lib.run_next_any_at (P := Tryz.prog) wr w.heap.size ⟨#[b, c, d]⟩ 0 ty hit (show 0 < 3 from by decide)
          have hd1 : 128 ≤ (Utf8.decode ⟨#[b, c, d]⟩ 0).1 := (decode_high ⟨#[b, c, d]⟩ 0 (show 0 < 3 from by decide) hb).1
          have hD := Lib.hid (Tryz.utf8_DecodeRuneInString_ascii ⟨#[97, 115, 116]⟩ 97)
          generalize Utf8.decode ⟨#[b, c, d]⟩ 0 = dd at *
          obtain ⟨r, n⟩ := dd
          simp only at hd1 hnx
          have q1 : ((97 : Int) == (r : Int)) = false := by rw [beq_eq_false_iff_ne]; omega
          have q2 : (97 : Int) < (r : Int) := by omega
          have q3 : ¬ (r : Int) < 128 := by omega
          go_wp2_with fail
          refine (hD.out _ rfl (by decide)).mono ?_
          rintro e w1 ⟨rfl, rfl⟩
          have hGr : Glob (wr.iterAt w.heap.size ⟨#[b, c, d]⟩ n) := hG.below' (Lib.below_iterAt hbw (Nat.le_refl _) _ _)
          have hbi : Below w.heap.size w (wr.iterAt w.heap.size ⟨#[b, c, d]⟩ n) := Lib.below_iterAt hbw (Nat.le_refl _) _ _
          have hiti := Lib.iterAt_heap wr w.heap.size ⟨#[b, c, d]⟩ 0 n hit
          obtain ⟨wi, hwi⟩ : ∃ wi, wi = wr.iterAt w.heap.size ⟨#[b, c, d]⟩ n := ⟨_, rfl⟩
          rw [← hwi] at hGr hbi hiti ⊢
          clear hwi hit hbw hnx hG
          clear wr
          go_wp2_with fail
          refine (fold_of 97 65 wi hGr rfl (by decide) (by decide) (by decide)).mono ?_
          rintro e w1 ⟨rfl, rfl⟩
          go_wp2_with fail
          go_loopg [13] 1 (fun g z wx => wi = wx ∧ ((z = .int .i32 65 ∧ 1 ≤ g) ∨ z = .int .i32 97))
          case atStart => exact ⟨rfl, .inl ⟨rfl, by omega⟩⟩
          case round =>
            obtain ⟨rfl, ⟨rfl, hg2⟩ | rfl⟩ := hrel
            · have q4 : (65 : Int) < (r : Int) := by omega
              go_wp2_with fail
              refine (fold_of 65 97 wi hGr rfl (by decide) (by decide) (by decide)).mono ?_
              rintro e w1 ⟨rfl, rfl⟩
              go_wp2_with fail
              go_roundg 0
              case measure => omega
              case rel => exact ⟨rfl, .inr rfl⟩
            · go_wp2_with fail
              first | go_ret | (simp only [Exit.jump]; go_ret)
              exact ⟨rfl, hbi⟩
      · obtain ⟨v, hv, hv1⟩ : ∃ v : Nat, bits .or .u8 (b.toNat : Int) 97 = (v : Int) ∧ v < 128 := ⟨_, u8_or_nat _ 97 (by have := b.toNat_lt; omega) (by decide), Nat.or_lt_two_pow (n := 7) (by omega) (by decide)⟩
        have hv2 : ¬ (128 : Int) ≤ v := by omega
        have HN : Hid (∃ x ∈ [a, b, c, d].drop 2, 128 ≤ x.toNat) := Lib.hid (by
          obtain ⟨z, hz, hz2⟩ := HX.out
          simp only [List.drop_succ_cons, List.drop_zero, List.mem_cons, List.not_mem_nil, or_false] at hz ⊢
          rcases hz with rfl | hz
          · exact absurd hz2 hb
          · exact ⟨z, hz, hz2⟩)
        clear HX
        go_wp2_with fail
        all_goals first
          | (go_roundg 2
             case measure => omega
             case rel => exact ⟨rfl, 2, rfl, rfl, HN.out⟩)
          | (simp only [Exit.jump]; go_ret; exact ⟨rfl, Below.refl _ _⟩)
    · obtain rfl : gk = 2 := by omega
      by_cases hc : 128 ≤ c.toNat
      · obtain ⟨v, hv, hv1⟩ : ∃ v : Nat, bits .or .u8 (c.toNat : Int) 115 = (v : Int) ∧ 128 ≤ v := ⟨_, u8_or_nat _ 115 (by have := c.toNat_lt; omega) (by decide), Nat.le_trans hc Nat.left_le_or⟩
        have hv2 : (128 : Int) ≤ v := by omega
        go_wp2_with fail
        go_step3
        refine ⟨rfl, ?_⟩
        go_wp2_with fail
        go_loopg [1] 2 (fun g t wr => Below w.heap.size w wr ∧ ((wr.heap[w.heap.size]? = some (.stringIter ⟨#[c, d]⟩ 0) ∧ t = .string ⟨#[115, 116]⟩ ∧ 1 ≤ g) ∨ (wr.heap[w.heap.size]? = some (.stringIter ⟨#[c, d]⟩ 2) ∧ t = .string ⟨#[116]⟩)))
        case atStart => exact ⟨(Below.refl _ _).alloc (Nat.le_refl _) _, .inl ⟨World.iter_heap _ _ _, rfl, by omega⟩⟩
        case round =>
          obtain ⟨hbw, h⟩ := hrel
          rcases h with ⟨hit, rfl, hg⟩ | ⟨hit, rfl⟩
          · have hnx := fun ty => Lib.run_next_any_at (P := Tryz.prog) wr w.heap.size ⟨#[c, d]⟩ 0 ty hit (show 0 < 2 from by decide)
            have hd1 : 128 ≤ (Utf8.decode ⟨#[c, d]⟩ 0).1 := (decode_high ⟨#[c, d]⟩ 0 (show 0 < 2 from by decide) hc).1
            have hd2 := Lib.hid (decode_two ⟨#[c, d]⟩ 0 (show 0 < 2 from by decide) hc)
            have hd3 := Lib.hid (decode_span ⟨#[c, d]⟩ 0 (show 0 < 2 from by decide) hc).2.1
            have hD := Lib.hid (Tryz.utf8_DecodeRuneInString_ascii ⟨#[115, 116]⟩ 115)
            generalize Utf8.decode ⟨#[c, d]⟩ 0 = dd at *
            obtain ⟨r, n⟩ := dd
            simp only at hd1 hnx hd2 hd3
            have q1 : ((115 : Int) == (r : Int)) = false := by rw [beq_eq_false_iff_ne]; omega
            have q2 : (115 : Int) < (r : Int) := by omega
            have q3 : ¬ (r : Int) < 128 := by omega
            go_wp2_with fail
            refine (hD.out _ rfl (by decide)).mono ?_
            rintro e w1 ⟨rfl, rfl⟩
            have hGr : Glob (wr.iterAt w.heap.size ⟨#[c, d]⟩ n) := hG.below' (Lib.below_iterAt hbw (Nat.le_refl _) _ _)
            have hbi : Below w.heap.size w (wr.iterAt w.heap.size ⟨#[c, d]⟩ n) := Lib.below_iterAt hbw (Nat.le_refl _) _ _
            have hiti := Lib.iterAt_heap wr w.heap.size ⟨#[c, d]⟩ 0 n hit
            obtain ⟨wi, hwi⟩ : ∃ wi, wi = wr.iterAt w.heap.size ⟨#[c, d]⟩ n := ⟨_, rfl⟩
            rw [← hwi] at hGr hbi hiti ⊢
            clear hwi hit hbw hnx hG
            clear wr
            go_wp2_with fail
            refine (fold_of 115 383 wi hGr rfl (by decide) (by decide) (by decide)).mono ?_
            rintro e w1 ⟨rfl, rfl⟩
            go_wp2_with fail
            go_loopg [13] 2 (fun g z wx => wi = wx ∧ ((z = .int .i32 383 ∧ 2 ≤ g) ∨ (z = .int .i32 83 ∧ 383 < (r : Int) ∧ 1 ≤ g) ∨ (z = .int .i32 115 ∧ 383 < (r : Int))))
            case atStart => exact ⟨rfl, .inl ⟨rfl, by omega⟩⟩
            case round =>
              obtain ⟨rfl, ⟨rfl, hg2⟩ | ⟨rfl, hg3, hg2⟩ | ⟨rfl, hg3⟩⟩ := hrel
              · by_cases hr : (383 : Int) < (r : Int)
                · go_wp2_with fail
                  refine (simpleFold_long wi hGr).mono ?_
                  rintro e w1 ⟨rfl, rfl⟩
                  go_wp2_with fail
                  go_roundg 1
                  case measure => omega
                  case rel => exact ⟨rfl, .inr (.inl ⟨rfl, hr, by omega⟩)⟩
                · by_cases he : r = 383
                  · have hn : n = 2 := by
                      have h1 := hd2.out
                      have h2 := hd3.out
                      have h3 : (⟨#[c, d]⟩ : ByteArray).size = 2 := rfl
                      rw [h3] at h2
                      rcases h1 with h1 | h1
                      · omega
                      · omega
                    subst he hn
                    go_wp2_with fail
                    go_roundg 0
                    case measure => omega
                    case rel => exact ⟨hbi, .inr ⟨hiti, rfl⟩⟩
                  · have hr' : ¬ (383 : Int) < (r : Int) := hr
                    have q5 : ((383 : Int) == (r : Int)) = false := by rw [beq_eq_false_iff_ne]; omega
                    go_wp2_with fail
                    first | go_ret | (simp only [Exit.jump]; go_ret)
                    exact ⟨rfl, hbi⟩
              · have q4 : (83 : Int) < (r : Int) := by omega
                go_wp2_with fail
                refine (fold_of 83 115 wi hGr rfl (by decide) (by decide) (by decide)).mono ?_
                rintro e w1 ⟨rfl, rfl⟩
                go_wp2_with fail
                go_roundg 0
                case measure => omega
                case rel => exact ⟨rfl, .inr (.inr ⟨rfl, hg3⟩)⟩
              · go_wp2_with fail
                first | go_ret | (simp only [Exit.jump]; go_ret)
                exact ⟨rfl, hbi⟩
          · have hnx := fun ty => Lib.run_next_end_at (P := Tryz.prog) wr w.heap.size ⟨#[c, d]⟩ 2 ty hit (show ¬ 2 < 2 from by decide)
            go_wp2_with fail
            first | go_ret | (simp only [Exit.jump]; go_ret)
            exact ⟨rfl, hbw⟩
      · obtain ⟨v, hv, hv1⟩ : ∃ v : Nat, bits .or .u8 (c.toNat : Int) 115 = (v : Int) ∧ v < 128 := ⟨_, u8_or_nat _ 115 (by have := c.toNat_lt; omega) (by decide), Nat.or_lt_two_pow (n := 7) (by omega) (by decide)⟩
        have hv2 : ¬ (128 : Int) ≤ v := by omega
        have HN : Hid (∃ x ∈ [a, b, c, d].drop 3, 128 ≤ x.toNat) := Lib.hid (by
          obtain ⟨z, hz, hz2⟩ := HX.out
          simp only [List.drop_succ_cons, List.drop_zero, List.mem_cons, List.not_mem_nil, or_false] at hz ⊢
          rcases hz with rfl | hz
          · exact absurd hz2 hc
          · exact ⟨z, hz, hz2⟩)
        clear HX
        go_wp2_with fail
        all_goals first
          | (go_roundg 1
             case measure => omega
             case rel => exact ⟨rfl, 3, rfl, rfl, HN.out⟩)
          | (simp only [Exit.jump]; go_ret; exact ⟨rfl, Below.refl _ _⟩)
    · obtain rfl : gk = 1 := by omega
      by_cases hd : 128 ≤ d.toNat
      · obtain ⟨v, hv, hv1⟩ : ∃ v : Nat, bits .or .u8 (d.toNat : Int) 116 = (v : Int) ∧ 128 ≤ v := ⟨_, u8_or_nat _ 116 (by have := d.toNat_lt; omega) (by decide), Nat.le_trans hd Nat.left_le_or⟩
        have hv2 : (128 : Int) ≤ v := by omega
        go_wp2_with fail
        go_step3
        refine ⟨rfl, ?_⟩
        go_wp2_with fail
        go_loopg [1] 2 (fun g t wr => Below w.heap.size w wr ∧ ((wr.heap[w.heap.size]? = some (.stringIter ⟨#[d]⟩ 0) ∧ t = .string ⟨#[116]⟩ ∧ 1 ≤ g)))
        case atStart => exact ⟨(Below.refl _ _).alloc (Nat.le_refl _) _, World.iter_heap _ _ _, rfl, by omega⟩
        case round =>
          obtain ⟨hbw, h⟩ := hrel
          obtain ⟨hit, rfl, hg⟩ := h
          have hnx := fun ty => Lib.run_next_any_at (P := Tryz.prog) wr w.heap.size ⟨#[d]⟩ 0 ty hit (show 0 < 1 from by decide)
          have hd1 : 128 ≤ (Utf8.decode ⟨#[d]⟩ 0).1 := (decode_high ⟨#[d]⟩ 0 (show 0 < 1 from by decide) hd).1
          have hD := Lib.hid (Tryz.utf8_DecodeRuneInString_ascii ⟨#[116]⟩ 116)
          generalize Utf8.decode ⟨#[d]⟩ 0 = dd at *
          obtain ⟨r, n⟩ := dd
          simp only at hd1 hnx
          have q1 : ((116 : Int) == (r : Int)) = false := by rw [beq_eq_false_iff_ne]; omega
          have q2 : (116 : Int) < (r : Int) := by omega
          have q3 : ¬ (r : Int) < 128 := by omega
          go_wp2_with fail
          refine (hD.out _ rfl (by decide)).mono ?_
          rintro e w1 ⟨rfl, rfl⟩
          have hGr : Glob (wr.iterAt w.heap.size ⟨#[d]⟩ n) := hG.below' (Lib.below_iterAt hbw (Nat.le_refl _) _ _)
          have hbi : Below w.heap.size w (wr.iterAt w.heap.size ⟨#[d]⟩ n) := Lib.below_iterAt hbw (Nat.le_refl _) _ _
          have hiti := Lib.iterAt_heap wr w.heap.size ⟨#[d]⟩ 0 n hit
          obtain ⟨wi, hwi⟩ : ∃ wi, wi = wr.iterAt w.heap.size ⟨#[d]⟩ n := ⟨_, rfl⟩
          rw [← hwi] at hGr hbi hiti ⊢
          clear hwi hit hbw hnx hG
          clear wr
          go_wp2_with fail
          refine (fold_of 116 84 wi hGr rfl (by decide) (by decide) (by decide)).mono ?_
          rintro e w1 ⟨rfl, rfl⟩
          go_wp2_with fail
          go_loopg [13] 1 (fun g z wx => wi = wx ∧ ((z = .int .i32 84 ∧ 1 ≤ g) ∨ z = .int .i32 116))
          case atStart => exact ⟨rfl, .inl ⟨rfl, by omega⟩⟩
          case round =>
            obtain ⟨rfl, ⟨rfl, hg2⟩ | rfl⟩ := hrel
            · have q4 : (84 : Int) < (r : Int) := by omega
              go_wp2_with fail
              refine (fold_of 84 116 wi hGr rfl (by decide) (by decide) (by decide)).mono ?_
              rintro e w1 ⟨rfl, rfl⟩
              go_wp2_with fail
              go_roundg 0
              case measure => omega
              case rel => exact ⟨rfl, .inr rfl⟩
            · go_wp2_with fail
              first | go_ret | (simp only [Exit.jump]; go_ret)
              exact ⟨rfl, hbi⟩
      · obtain ⟨v, hv, hv1⟩ : ∃ v : Nat, bits .or .u8 (d.toNat : Int) 116 = (v : Int) ∧ v < 128 := ⟨_, u8_or_nat _ 116 (by have := d.toNat_lt; omega) (by decide), Nat.or_lt_two_pow (n := 7) (by omega) (by decide)⟩
        have hv2 : ¬ (128 : Int) ≤ v := by omega
        exfalso
        obtain ⟨z, hz, hz2⟩ := HX.out
        simp only [List.drop_succ_cons, List.drop_zero, List.mem_cons, List.not_mem_nil, or_false] at hz
        exact hd (hz ▸ hz2)
    · exfalso
      obtain ⟨z, hz, _⟩ := HX.out
      simp at hz

/-- EqualFold tells of any text's first four bytes what it has to. -/
theorem fold_at (x : Bytes) : FoldAt x := by
  by_cases h : ∀ c ∈ x.take 4, c.toNat < 128
  · exact foldAt_ascii x h
  · intro h4 w hG
    obtain ⟨a, b, c, d, t, rfl⟩ : ∃ a b c d t, x = a :: b :: c :: d :: t := by
      match x, h4 with
      | a :: b :: c :: d :: t, _ => exact ⟨a, b, c, d, t, rfl⟩
    have hh : ∃ y ∈ [a, b, c, d], 128 ≤ y.toNat := Classical.byContradiction fun hn => h fun y hy => by
      rcases Nat.lt_or_ge y.toNat 128 with h' | h'
      · exact h'
      · exact absurd ⟨y, hy, h'⟩ hn
    have hf : Lib.equalFold ((a :: b :: c :: d :: t).take 4) lastW = false := by
      show (Lib.foldEq a 108 && (Lib.foldEq b 97 && (Lib.foldEq c 115 && (Lib.foldEq d 116 && true)))) = false
      have key : ∀ (y : UInt8) (z : UInt8), 128 ≤ y.toNat → z.toNat < 128 → Lib.foldEq y z = false := fun y z hy hz => decide_eq_false (by omega)
      obtain ⟨y, hy, hy2⟩ := hh
      simp only [List.mem_cons, List.not_mem_nil, or_false] at hy
      rcases hy with rfl | rfl | rfl | rfl
      · rw [key _ 108 hy2 (by decide)]; rfl
      · rw [key _ 97 hy2 (by decide)]; simp
      · rw [key _ 115 hy2 (by decide)]; simp
      · rw [key _ 116 hy2 (by decide)]; simp
    rw [hf]
    exact fold_high a b c d w hG hh

end Go.Proofs.YtgofleplmnibbaaGreatDoor
