/-
  The lexer's hasAny: is one of some ASCII bytes in a text?
-/
import Derived.Test.YtgofleplmnibbaaDoorBase
import Derived.Test.YtgofleplmnibbaaDoorRunes
namespace Go.Proofs.YtgofleplmnibbaaDoor
open Go.RowKit Go.Shelf Lex

set_option maxHeartbeats 1000000 in
theorem hasAny_any (s set : Bytes) (w : World) (hset : ∀ c ∈ set, c.toNat < 128) (hs : s.length ≤ 100000) (hl : set.length ≤ 100000) :
    Calls Tryd.prog 12 #[.string ⟨s.toArray⟩, .string ⟨set.toArray⟩] w fun e w' => e = .returned (.bool (s.any (inSet set))) ∧ Below w.heap.size w w' := by
  go_enter Tryd.func12, Tryd.ntmps12
  go_wp2
  go_loopg [] (s.length) (fun k wr => ∃ pos, pos ≤ s.length ∧ s.length - pos ≤ k ∧ wr.heap[w.heap.size]? = some (.stringIter ⟨s.toArray⟩ pos) ∧ Below w.heap.size w wr ∧ s.any (inSet set) = (s.drop pos).any (inSet set))
  case atStart => exact ⟨0, by omega, by omega, World.iter_heap _ _ _, (Below.refl _ _).alloc (Nat.le_refl _) _, rfl⟩
  case round =>
    obtain ⟨pos, hpl, hk, hit, hbw, ha⟩ := hrel
    have HA := Lib.hid ha
    clear ha
    by_cases hlt : pos < s.length
    · have hnx := fun ty => Lib.run_next_any_at (P := Tryd.prog) wr w.heap.size ⟨s.toArray⟩ pos ty hit (by rw [size_mk]; exact hlt)
      obtain ⟨h1, h2, h3, h4⟩ := rune_step s set hset pos hlt
      have H3 := Lib.hid h3
      have H4 := Lib.hid h4
      clear h3 h4
      generalize hd : Utf8.decode ⟨s.toArray⟩ pos = d at *
      clear hd
      go_wp2
      obtain ⟨wi, hwi⟩ : ∃ wi, wi = wr.iterAt w.heap.size ⟨s.toArray⟩ (pos + d.2) := ⟨_, rfl⟩
      have hiti : wi.heap[w.heap.size]? = some (.stringIter ⟨s.toArray⟩ (pos + d.2)) := by rw [hwi]; exact Lib.iterAt_heap _ _ _ _ _ hit
      have hbi : Below w.heap.size w wi := by rw [hwi]; exact Lib.below_iterAt hbw (Nat.le_refl _) _ _
      have hsi : w.heap.size < wi.heap.size := (Array.getElem?_eq_some_iff.1 hiti).1
      rw [← hwi]
      clear hwi hit hbw hnx
      clear wr
      go_loopg [] (set.length) (fun j wx => ∃ q, q ≤ set.length ∧ set.length - q ≤ j ∧ wx.heap[wi.heap.size]? = some (.stringIter ⟨set.toArray⟩ q) ∧ Below wi.heap.size wi wx ∧ (∀ x ∈ set.take q, x.toNat ≠ d.1))
      case atStart => exact ⟨0, by omega, by omega, World.iter_heap _ _ _, (Below.refl _ _).alloc (Nat.le_refl _) _, by simp⟩
      case round =>
        obtain ⟨q, hql, hqk, hqi, hqb, hqn⟩ := hrel
        have HN := Lib.hid hqn
        clear hqn
        by_cases hq : q < set.length
        · have hlo := hset set[q] (List.getElem_mem hq)
          have hsq : (⟨set.toArray⟩ : ByteArray)[q]'(by rw [size_mk]; exact hq) = set[q] := rfl
          have hnx := fun ty => Lib.run_next_ascii_at (P := Tryd.prog) wr wi.heap.size ⟨set.toArray⟩ q ty hqi (by rw [size_mk]; exact hq) hlo
          simp only [hsq] at hnx
          by_cases he : set[q].toNat = d.1
          · have heb : ((d.1 : Int) == (set[q].toNat : Int)) = true := by rw [beq_iff_eq]; omega
            have HE := Lib.hid he
            clear he
            go_wp2
            go_ret
            exact ⟨by rw [HA.out, (H3.out _ (List.getElem_mem hq) HE.out).2.2]; rfl, Lib.below_iterAt (hbi.trans (hqb.mono hbi.size)) (Nat.le_of_lt hsi) _ _⟩
          · have heb : ((d.1 : Int) == (set[q].toNat : Int)) = false := by rw [beq_eq_false_iff_ne]; omega
            have HE := Lib.hid he
            clear he
            go_wp2
            go_roundg (set.length - (q + 1))
            case measure => omega
            case rel => exact ⟨q + 1, by omega, by omega, Lib.iterAt_heap _ _ _ _ _ hqi, Lib.below_iterAt hqb (Nat.le_refl _) _ _, fun x hx => by
              rw [List.take_succ_eq_append_getElem hq, List.mem_append, List.mem_singleton] at hx
              rcases hx with hx | rfl
              · exact HN.out x hx
              · exact HE.out⟩
        · have hnx := fun ty => Lib.run_next_end_at (P := Tryd.prog) wr wi.heap.size ⟨set.toArray⟩ q ty hqi (by rw [size_mk]; exact hq)
          go_wp2
          go_roundg (s.length - (pos + d.2))
          case measure => omega
          case rel => exact ⟨pos + d.2, h2, by omega, (hqb.block _ hsi).trans hiti, hbi.trans (hqb.mono hbi.size), by rw [HA.out, H4.out (fun x hx => HN.out x (by rw [List.take_of_length_le (by omega)]; exact hx))]⟩
    · have hnx := fun ty => Lib.run_next_end_at (P := Tryd.prog) wr w.heap.size ⟨s.toArray⟩ pos ty hit (by rw [size_mk]; exact hlt)
      go_wp2
      go_ret
      exact ⟨by rw [HA.out, List.drop_eq_nil_of_le (by omega)]; rfl, hbw⟩

end Go.Proofs.YtgofleplmnibbaaDoor
