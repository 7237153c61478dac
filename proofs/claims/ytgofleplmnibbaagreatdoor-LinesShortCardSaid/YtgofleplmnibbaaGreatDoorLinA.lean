/-
  lines' own trimming: cutLeft, cutRight, and only; sets of ASCII bytes.
-/
import Derived.Test.YtgofleplmnibbaaGreatDoorStrs
import Derived.Test.YtgofleplmnibbaaGreatDoorRunes
import Derived.Lib.TrimAscii
namespace Go.Proofs.YtgofleplmnibbaaGreatDoor.Lex
open Go.RowKit

/-- Without the bytes of a set at its end. -/
def rtrim (p : UInt8 → Bool) (s : Bytes) : Bytes := (s.reverse.dropWhile p).reverse
theorem rtrim_nil (p : UInt8 → Bool) : rtrim p [] = [] := rfl
theorem rtrim_snoc (p : UInt8 → Bool) (s : Bytes) (c : UInt8) : rtrim p (s ++ [c]) = if p c then rtrim p s else s ++ [c] := by
  unfold rtrim
  rw [List.reverse_append, List.reverse_singleton, List.singleton_append, List.dropWhile_cons]
  split <;> simp

theorem snoc_cases (t : Bytes) : t = [] ∨ ∃ l b, t = l ++ [b] := by
  rcases List.eq_nil_or_concat t with h | ⟨l, b, h⟩
  · exact .inl h
  · exact .inr ⟨l, b, by rw [h, List.concat_eq_append]⟩
/-- The rune at a text's end, behind no ASCII byte, is none. -/
theorem last_high (t : Bytes) (b : UInt8) (h : 128 ≤ b.toNat) : 128 ≤ (Lib.decodeLastL (t ++ [b])).1 := by
  have hg : (t ++ [b]).getD ((t ++ [b]).length - 1) 0 = b := by simp [List.getD]
  unfold Lib.decodeLastL
  rw [if_neg (by simp), hg, if_neg (by omega)]
  simp only
  generalize hk : Lib.lastStart (t ++ [b]) = k
  split
  · rename_i he
    have hw := Lib.decodeL_width ((t ++ [b]).drop k)
    have hkl : k < (t ++ [b]).length := by omega
    have hd : (t ++ [b]).drop k = (t ++ [b])[k] :: (t ++ [b]).drop (k + 1) := List.drop_eq_getElem_cons hkl
    by_cases ha : ((t ++ [b])[k]).toNat < 128
    · have h1 := Lib.decodeL_ascii ((t ++ [b])[k]) ((t ++ [b]).drop (k + 1)) ha
      rw [← hd] at h1
      rw [h1] at he
      simp only [List.length_append, List.length_cons, List.length_nil] at he
      have hkt : k = t.length := by omega
      subst hkt
      simp at ha
      omega
    · unfold Lib.decodeL
      refine (decode_high ⟨((t ++ [b]).drop k).toArray⟩ 0 (by rw [size_mk, List.length_drop]; omega) ?_).1
      have : ∀ h, (⟨((t ++ [b]).drop k).toArray⟩ : ByteArray)[0]'h = (t ++ [b])[k] := by
        rw [hd]
        exact fun h => rfl
      rw [this]
      omega
  · decide

end Go.Proofs.YtgofleplmnibbaaGreatDoor.Lex
namespace Go.Proofs.YtgofleplmnibbaaGreatDoor
open Go.RowKit Go.Shelf Lex

/-- What the inner loop has found among the first q bytes of a set. -/
def among (set : Bytes) (q : Nat) (c : Nat) : Bool := (set.take q).any fun x => c == x.toNat
theorem among_succ {set : Bytes} {q : Nat} (h : q < set.length) (c : Nat) : among set (q + 1) c = (among set q c || (c == set[q].toNat)) := by
  unfold among
  rw [List.take_succ_eq_append_getElem h, List.any_append]
  simp
theorem among_byte (set : Bytes) (c : UInt8) : among set set.length c.toNat = inSet set c := by
  unfold among inSet
  rw [List.take_length, Bool.eq_iff_iff]
  simp only [List.any_eq_true, beq_iff_eq, List.contains_eq_mem, decide_eq_true_eq]
  constructor
  · rintro ⟨x, hx, he⟩
    rwa [u8_of he]
  · intro h
    exact ⟨c, h, rfl⟩
theorem among_high {set : Bytes} (hset : ∀ c ∈ set, c.toNat < 128) {c : Nat} (h : 128 ≤ c) : among set set.length c = false := by
  unfold among
  rw [List.take_length, List.any_eq_false]
  intro x hx
  have := hset x hx
  simp only [beq_iff_eq]
  omega

set_option maxHeartbeats 1000000 in
theorem cutLeft_any (s set : Bytes) (w : World) (hset : ∀ c ∈ set, c.toNat < 128) (hs : s.length ≤ 100000) (hl : set.length ≤ 100000) :
    Calls Tryz.prog 79 #[.string ⟨s.toArray⟩, .string ⟨set.toArray⟩] w fun e w' => e = .returned (.string ⟨(s.dropWhile (inSet set)).toArray⟩) ∧ Below w.heap.size w w' := by
  go_enter Tryz.func79, Tryz.ntmps79
  go_wp2
  go_loopg [] (s.length) (fun k wr => ∃ pos, pos ≤ s.length ∧ s.length - pos ≤ k ∧ wr.heap[w.heap.size]? = some (.stringIter ⟨s.toArray⟩ pos) ∧ Below w.heap.size w wr ∧ s.dropWhile (inSet set) = (s.drop pos).dropWhile (inSet set))
  case atStart => exact ⟨0, by omega, by omega, World.iter_heap _ _ _, (Below.refl _ _).alloc (Nat.le_refl _) _, rfl⟩
  case round =>
    obtain ⟨pos, hpl, hk, hit, hbw, ha⟩ := hrel
    have HA := Lib.hid ha
    clear ha
    by_cases hlt : pos < s.length
    · have hnx := fun ty => Lib.run_next_any_at (P := Tryz.prog) wr w.heap.size ⟨s.toArray⟩ pos ty hit (by rw [size_mk]; exact hlt)
      have hd : among set set.length (Utf8.decode ⟨s.toArray⟩ pos).1 = inSet set s[pos] ∧ (inSet set s[pos] = true → (Utf8.decode ⟨s.toArray⟩ pos).2 = 1) := by
        by_cases hb : s[pos].toNat < 128
        · rw [(rune_low s (inSet set) pos hlt hb).1]
          exact ⟨among_byte _ _, fun _ => rfl⟩
        · have h1 := (rune_high s (inSet set) (inSet_high hset) pos hlt (by omega)).1
          rw [among_high hset h1, inSet_high hset _ (by omega)]
          exact ⟨rfl, fun h => by cases h⟩
      have HD := Lib.hid hd
      clear hd
      have HP := Lib.hid (List.drop_eq_getElem_cons hlt)
      generalize Utf8.decode ⟨s.toArray⟩ pos = d at *
      go_wp2
      obtain ⟨wi, hwi⟩ : ∃ wi, wi = wr.iterAt w.heap.size ⟨s.toArray⟩ (pos + d.2) := ⟨_, rfl⟩
      have hiti : wi.heap[w.heap.size]? = some (.stringIter ⟨s.toArray⟩ (pos + d.2)) := by rw [hwi]; exact Lib.iterAt_heap _ _ _ _ _ hit
      have hbi : Below w.heap.size w wi := by rw [hwi]; exact Lib.below_iterAt hbw (Nat.le_refl _) _ _
      have hsi : w.heap.size < wi.heap.size := (Array.getElem?_eq_some_iff.1 hiti).1
      rw [← hwi]
      clear hwi hit hbw hnx
      clear wr
      go_loopg [7] (set.length) (fun j b wx => ∃ q, q ≤ set.length ∧ set.length - q ≤ j ∧ b = .bool (among set q d.1) ∧ wx.heap[wi.heap.size]? = some (.stringIter ⟨set.toArray⟩ q) ∧ Below wi.heap.size wi wx)
      case atStart => exact ⟨0, by omega, by omega, rfl, World.iter_heap _ _ _, (Below.refl _ _).alloc (Nat.le_refl _) _⟩
      case round =>
        obtain ⟨q, hql, hqk, rfl, hqi, hqb⟩ := hrel
        by_cases hq : q < set.length
        · have hlo := hset set[q] (List.getElem_mem hq)
          have hsq : (⟨set.toArray⟩ : ByteArray)[q]'(by rw [size_mk]; exact hq) = set[q] := rfl
          have hnx := fun ty => Lib.run_next_ascii_at (P := Tryz.prog) wr wi.heap.size ⟨set.toArray⟩ q ty hqi (by rw [size_mk]; exact hq) hlo
          simp only [hsq] at hnx
          have HS := Lib.hid (among_succ hq d.1)
          cases ha : among set q d.1 with
          | true =>
            go_wp2
            go_roundg (set.length - (q + 1))
            case measure => omega
            case rel => exact ⟨q + 1, by omega, by omega, by rw [HS.out, ha]; rfl, Lib.iterAt_heap _ _ _ _ _ hqi, Lib.below_iterAt hqb (Nat.le_refl _) _ _⟩
          | false =>
            by_cases he : d.1 = set[q].toNat
            · have heb : ((d.1 : Int) == (set[q].toNat : Int)) = true := by rw [beq_iff_eq]; omega
              have HE := Lib.hid he
              clear he
              go_wp2
              go_roundg (set.length - (q + 1))
              case measure => omega
              case rel => exact ⟨q + 1, by omega, by omega, by rw [HS.out, HE.out]; simp, Lib.iterAt_heap _ _ _ _ _ hqi, Lib.below_iterAt hqb (Nat.le_refl _) _ _⟩
            · have heb : ((d.1 : Int) == (set[q].toNat : Int)) = false := by rw [beq_eq_false_iff_ne]; omega
              have HE := Lib.hid he
              clear he
              go_wp2
              go_roundg (set.length - (q + 1))
              case measure => omega
              case rel => exact ⟨q + 1, by omega, by omega, by rw [HS.out, ha]; simp [HE.out], Lib.iterAt_heap _ _ _ _ _ hqi, Lib.below_iterAt hqb (Nat.le_refl _) _ _⟩
        · obtain rfl : q = set.length := by omega
          have hnx := fun ty => Lib.run_next_end_at (P := Tryz.prog) wr wi.heap.size ⟨set.toArray⟩ set.length ty hqi (by rw [size_mk]; exact hq)
          cases ha : inSet set s[pos] with
          | true =>
            have hx : among set set.length d.1 = true := by rw [HD.out.1, ha]
            have hd2 := HD.out.2 ha
            go_wp2
            go_roundg (s.length - (pos + d.2))
            case measure => omega
            case rel => exact ⟨pos + d.2, by omega, by omega, (hqb.block _ hsi).trans hiti, hbi.trans (hqb.mono hbi.size), by rw [HA.out, HP.out, List.dropWhile_cons_of_pos ha, hd2]⟩
          | false =>
            have hx : among set set.length d.1 = false := by rw [HD.out.1, ha]
            go_wp2
            go_ret
            refine ⟨?_, hbi.trans (hqb.mono hbi.size)⟩
            rw [HA.out, HP.out, List.dropWhile_cons_of_neg (by rw [ha]; simp)]
            rw [← HP.out, ← ba_drop]
            rfl
    · have hnx := fun ty => Lib.run_next_end_at (P := Tryz.prog) wr w.heap.size ⟨s.toArray⟩ pos ty hit (by rw [size_mk]; exact hlt)
      go_wp2
      go_ret
      exact ⟨by rw [HA.out, List.drop_eq_nil_of_le (by omega)]; rfl, hbw⟩

set_option maxHeartbeats 1000000 in
theorem cutRight_any (s set : Bytes) (w : World) (hG : Glob w) (hset : ∀ c ∈ set, c.toNat < 128) (hs : s.length ≤ 100000) (hl : set.length ≤ 100000) :
    Calls Tryz.prog 78 #[.string ⟨s.toArray⟩, .string ⟨set.toArray⟩] w fun e w' => e = .returned (.string ⟨(rtrim (inSet set) s).toArray⟩) ∧ Below w.heap.size w w' := by
  go_enter Tryz.func78, Tryz.ntmps78
  go_wp2
  go_loopg [0] (s.length) (fun k v wr => ∃ t : Bytes, t.length ≤ k ∧ t.length ≤ s.length ∧ v = .string ⟨t.toArray⟩ ∧ Below w.heap.size w wr ∧ rtrim (inSet set) s = rtrim (inSet set) t)
  case atStart => exact ⟨s, by omega, by omega, rfl, Below.refl _ _, rfl⟩
  case round =>
    obtain ⟨t, hk, htl, rfl, hbw, ha⟩ := hrel
    have HA := Lib.hid ha
    clear ha
    have hGr := hG.below' hbw
    rcases snoc_cases t with ht | ⟨l, b, ht⟩
    · have h0 : ¬ (0 : Int) < t.length := by rw [ht]; simp
      have HT := Lib.hid ht
      clear ht
      go_wp2
      go_ret
      exact ⟨by rw [HA.out, HT.out, rtrim_nil]; rfl, hbw⟩
    · have hlen : t.length = l.length + 1 := by rw [ht]; simp
      have HT := Lib.hid ht
      have hpos : (0 : Int) < t.length := by omega
      have hd : among set set.length (Lib.decodeLastL t).1 = inSet set b ∧ (inSet set b = true → (Lib.decodeLastL t).2 = 1) := by
        rw [ht]
        by_cases hb : b.toNat < 128
        · rw [Lib.decodeLastL_ascii l b hb]
          exact ⟨among_byte _ _, fun _ => rfl⟩
        · have h1 := last_high l b (by omega)
          rw [among_high hset h1, inSet_high hset _ (by omega)]
          exact ⟨rfl, fun h => by cases h⟩
      have hw := Lib.decodeLastL_width t (by omega)
      have HD := Lib.hid hd
      clear hd ht
      have hc := Tryz.utf8_DecodeLastRuneInString ⟨t.toArray⟩ wr (by rw [size_mk]; omega) hGr.facts.tabs
      simp only at hc
      generalize Lib.decodeLastL t = d at *
      go_wp2_with fail
      refine hc.mono ?_
      rintro e wi ⟨rfl, hbi⟩
      have hbi' := hbw.trans (hbi.mono hbw.size)
      clear hc hbw hbi hGr
      clear wr
      go_wp2
      go_loopg [7] (set.length) (fun j b wx => ∃ q, q ≤ set.length ∧ set.length - q ≤ j ∧ b = .bool (among set q d.1) ∧ wx.heap[wi.heap.size]? = some (.stringIter ⟨set.toArray⟩ q) ∧ Below wi.heap.size wi wx)
      case atStart => exact ⟨0, by omega, by omega, rfl, World.iter_heap _ _ _, (Below.refl _ _).alloc (Nat.le_refl _) _⟩
      case round =>
        obtain ⟨q, hql, hqk, rfl, hqi, hqb⟩ := hrel
        by_cases hq : q < set.length
        · have hlo := hset set[q] (List.getElem_mem hq)
          have hsq : (⟨set.toArray⟩ : ByteArray)[q]'(by rw [size_mk]; exact hq) = set[q] := rfl
          have hnx := fun ty => Lib.run_next_ascii_at (P := Tryz.prog) wr wi.heap.size ⟨set.toArray⟩ q ty hqi (by rw [size_mk]; exact hq) hlo
          simp only [hsq] at hnx
          have HS := Lib.hid (among_succ hq d.1)
          cases ha : among set q d.1 with
          | true =>
            go_wp2
            go_roundg (set.length - (q + 1))
            case measure => omega
            case rel => exact ⟨q + 1, by omega, by omega, by rw [HS.out, ha]; rfl, Lib.iterAt_heap _ _ _ _ _ hqi, Lib.below_iterAt hqb (Nat.le_refl _) _ _⟩
          | false =>
            by_cases he : d.1 = set[q].toNat
            · have heb : ((d.1 : Int) == (set[q].toNat : Int)) = true := by rw [beq_iff_eq]; omega
              have HE := Lib.hid he
              clear he
              go_wp2
              go_roundg (set.length - (q + 1))
              case measure => omega
              case rel => exact ⟨q + 1, by omega, by omega, by rw [HS.out, HE.out]; simp, Lib.iterAt_heap _ _ _ _ _ hqi, Lib.below_iterAt hqb (Nat.le_refl _) _ _⟩
            · have heb : ((d.1 : Int) == (set[q].toNat : Int)) = false := by rw [beq_eq_false_iff_ne]; omega
              have HE := Lib.hid he
              clear he
              go_wp2
              go_roundg (set.length - (q + 1))
              case measure => omega
              case rel => exact ⟨q + 1, by omega, by omega, by rw [HS.out, ha]; simp [HE.out], Lib.iterAt_heap _ _ _ _ _ hqi, Lib.below_iterAt hqb (Nat.le_refl _) _ _⟩
        · obtain rfl : q = set.length := by omega
          have hnx := fun ty => Lib.run_next_end_at (P := Tryz.prog) wr wi.heap.size ⟨set.toArray⟩ set.length ty hqi (by rw [size_mk]; exact hq)
          cases ha : inSet set b with
          | true =>
            have hx : among set set.length d.1 = true := by rw [HD.out.1, ha]
            have hd2 := HD.out.2 ha
            have HI := Lib.hid ha
            clear ha
            go_wp2
            go_roundg (l.length)
            case measure => omega
            case rel => exact ⟨l, by omega, by omega, by rw [ba_take, HT.out, List.take_left], hbi'.trans (hqb.mono hbi'.size), by rw [HA.out, HT.out, rtrim_snoc, HI.out]; rfl⟩
          | false =>
            have hx : among set set.length d.1 = false := by rw [HD.out.1, ha]
            have HI := Lib.hid ha
            clear ha
            go_wp2
            go_ret
            exact ⟨by rw [HA.out, HT.out, rtrim_snoc, HI.out]; rfl, hbi'.trans (hqb.mono hbi'.size)⟩

theorem dropWhile_nil {p : UInt8 → Bool} : ∀ {l : Bytes}, l.dropWhile p = [] ↔ ∀ x ∈ l, p x = true
  | [] => by simp
  | c :: t => by
    rw [List.dropWhile_cons]
    by_cases h : p c = true
    · rw [if_pos h, dropWhile_nil]; simp [h]
    · rw [if_neg h]; simp [h]
/-- What is left behind both cuts is nothing just where all bytes are in the set. -/
theorem rtrim_cut (p : UInt8 → Bool) (s : Bytes) : (rtrim p (s.dropWhile p) = []) ↔ s.all p = true := by
  unfold rtrim
  rw [List.reverse_eq_nil_iff, dropWhile_nil]
  constructor
  · intro h
    cases hd : s.dropWhile p with
    | nil => rw [dropWhile_nil] at hd; rw [List.all_eq_true]; exact hd
    | cons c t =>
      have h1 := List.head?_dropWhile_not p s
      rw [hd] at h1 h
      have h2 := h c (by simp)
      simp [h2] at h1
  · intro h c hc
    rw [List.all_eq_true] at h
    exact h c ((List.dropWhile_sublist _).subset (List.mem_reverse.1 hc))

/-- So many bytes, all of a set. -/
def onlyF (s set : Bytes) (least most : Nat) : Bool := s.all (inSet set) && decide (least ≤ s.length) && decide (s.length ≤ most)

set_option maxHeartbeats 1000000 in
theorem only_any (s set : Bytes) (least most : Nat) (w : World) (hG : Glob w) (hset : ∀ c ∈ set, c.toNat < 128) (hs : s.length ≤ 100000) (hl : set.length ≤ 100000) :
    Calls Tryz.prog 33 #[.string ⟨s.toArray⟩, .string ⟨set.toArray⟩, .int .i64 least, .int .i64 most] w fun e w' => e = .returned (.bool (onlyF s set least most)) ∧ Below w.heap.size w w' := by
  have hR := Lib.hid (rtrim_cut (inSet set) s)
  have h1 := cutLeft_any s set w hset hs hl
  have hdl : (s.dropWhile (inSet set)).length ≤ 100000 := Nat.le_trans (List.dropWhile_sublist _).length_le hs
  generalize s.dropWhile (inSet set) = d at *
  go_enter Tryz.func33, Tryz.ntmps33
  go_wp2_with fail
  refine h1.mono ?_
  rintro e w1 ⟨rfl, hb1⟩
  have h2 := cutRight_any d set w1 (hG.below' hb1) hset hdl hl
  generalize rtrim (inSet set) d = r at *
  clear h1
  go_wp2_with fail
  refine h2.mono ?_
  rintro e w2 ⟨rfl, hb2⟩
  have hB := hb1.trans (hb2.mono hb1.size)
  clear h2 hb1 hb2
  by_cases hr : r = []
  · subst hr
    have hall := Lib.hid (hR.out.1 rfl)
    by_cases hl : least ≤ s.length
    · have hl' : (least : Int) ≤ s.length := by omega
      have HL := Lib.hid hl
      clear hl
      go_wp2_with fail
      go_ret
      refine ⟨?_, hB⟩
      rw [show onlyF s set least most = decide (s.length ≤ most) from by unfold onlyF; rw [hall.out, decide_eq_true HL.out]; simp]
      rfl
    · have hl' : ¬ (least : Int) ≤ s.length := by omega
      have HL := Lib.hid hl
      clear hl
      go_wp2_with fail
      go_ret
      refine ⟨?_, hB⟩
      rw [show onlyF s set least most = false from by unfold onlyF; rw [decide_eq_false HL.out]; simp]
      rfl
  · have hall : s.all (inSet set) = false := by
      cases h : s.all (inSet set)
      · rfl
      · exact absurd (hR.out.2 h) hr
    have HALL := Lib.hid hall
    have hr' : r.isEmpty = false := by simpa using hr
    clear hall hr
    go_wp2_with fail
    go_ret
    refine ⟨?_, hB⟩
    rw [show onlyF s set least most = false from by unfold onlyF; rw [HALL.out]; simp]
    rfl

end Go.Proofs.YtgofleplmnibbaaGreatDoor
