/-
  words: lower, small.
-/
import Derived.Test.YtgofleplmnibbaaGreatDoorStrs
import Derived.Test.YtgofleplmnibbaaGreatDoorRunes
import Derived.Lib.ConvBytes
import Derived.Lib.AtoiErrMem
import Derived.Laws.IdiomStrings
namespace Go.Proofs.YtgofleplmnibbaaGreatDoor.Lex

/-- A letter as a small one. -/
def lowB (c : UInt8) : UInt8 := if 65 ≤ c.toNat ∧ c.toNat ≤ 90 then UInt8.ofNat (c.toNat + 32) else c
def lowerF (s : Bytes) : Bytes := s.map lowB
theorem lowB_high {c : UInt8} (h : ¬ c.toNat < 128) : lowB c = c := by unfold lowB; rw [if_neg (by omega)]
theorem lowB_toNat (c : UInt8) : ((lowB c).toNat : Int) = if 65 ≤ c.toNat ∧ c.toNat ≤ 90 then (c.toNat : Int) + 32 else c.toNat := by
  unfold lowB
  split
  · rw [UInt8.toNat_ofNat']; omega
  · rfl

end Go.Proofs.YtgofleplmnibbaaGreatDoor.Lex
namespace Go.Proofs.YtgofleplmnibbaaGreatDoor
open Go.RowKit Go.Shelf Lex

theorem small_any (c : UInt8) (w : World) : Calls Tryz.prog 172 #[.int .i32 c.toNat] w fun e w' => e = .returned (.int .i32 ((lowB c).toNat : Int)) ∧ w = w' := by
  have H := Lib.hid (lowB_toNat c)
  have hc := UInt8.toNat_lt c
  by_cases h1 : 65 ≤ c.toNat
  · by_cases h2 : c.toNat ≤ 90
    · have h1' : (65 : Int) ≤ c.toNat := by omega
      have h2' : (c.toNat : Int) ≤ 90 := by omega
      have HE : Hid (((lowB c).toNat : Int) = c.toNat + 32) := Lib.hid (by rw [H.out, if_pos ⟨h1, h2⟩])
      clear H
      go_enter Tryz.func172, Tryz.ntmps172
      go_wp2
      go_ret
      refine ⟨?_, rfl⟩
      rw [HE.out]
      simp
      omega
    · have h1' : (65 : Int) ≤ c.toNat := by omega
      have h2' : ¬ (c.toNat : Int) ≤ 90 := by omega
      have HE : Hid (((lowB c).toNat : Int) = c.toNat) := Lib.hid (by rw [H.out, if_neg (by omega)])
      clear H
      go_enter Tryz.func172, Tryz.ntmps172
      go_wp2
      go_ret
      exact ⟨by rw [HE.out]; rfl, rfl⟩
  · have h1' : ¬ (65 : Int) ≤ c.toNat := by omega
    have HE : Hid (((lowB c).toNat : Int) = c.toNat) := Lib.hid (by rw [H.out, if_neg (by omega)])
    clear H
    go_enter Tryz.func172, Tryz.ntmps172
    go_wp2
    go_ret
    exact ⟨by rw [HE.out]; rfl, rfl⟩

set_option maxHeartbeats 1000000 in
theorem lower_any (s : Bytes) (w : World) (hs : s.length ≤ 100000) :
    Calls Tryz.prog 149 #[.string ⟨s.toArray⟩] w fun e w' => e = .returned (.string ⟨(lowerF s).toArray⟩) ∧ Below w.heap.size w w' := by
  have kc := fun W => Lib.run_convert_string_bytes (P := Tryz.prog) W 9 154 5 ⟨s.toArray⟩ Tryz.underlying9 Tryz.underlying154 Tryz.underlying5
  obtain ⟨W0, hW0⟩ : ∃ W0, W0 = Lib.bytesWorld w 5 ⟨s.toArray⟩ := ⟨_, rfl⟩
  have hb0 : Below w.heap.size w W0 := by rw [hW0]; exact Lib.bytesWorld_below _ _ _
  have hz0 : W0.heap.size = w.heap.size + 1 := by rw [hW0]; exact Lib.bytesWorld_size _ _ _
  have hc0 : ∀ j (hj : j < s.length), W0.cell? ⟨w.heap.size, j, none⟩ = some (.int .u8 (s[j].toNat : Int)) := fun j hj => by
    rw [hW0, Lib.bytesWorld_cell _ _ _ _ (by rw [size_mk]; exact hj)]
    simp [List.getElem?_eq_getElem hj]
  have hf0 : ∀ j, j < s.length → W0.frozen? ⟨w.heap.size, j, none⟩ = false := fun j hj => by
    rw [hW0]
    unfold World.frozen?
    rw [Lib.bytesWorld_at_new]
    have : s.length ≤ (Lib.bytesCells w 5 ⟨s.toArray⟩).size := by unfold Lib.bytesCells; simp
    simp
    omega
  have HC0 := Lib.hid hc0
  have HF0 := Lib.hid hf0
  have HW0 := Lib.hid hW0
  clear hc0 hf0 hW0
  go_enter Tryz.func149, Tryz.ntmps149
  go_wp2_with fail
  rw [← HW0.out]
  clear HW0 kc
  go_wp2_with fail
  go_loopg [10] (s.length) (fun g i wr => ∃ k : Nat, k ≤ s.length ∧ s.length - k ≤ g ∧ i = .int .i64 k ∧ Below w.heap.size w wr ∧ w.heap.size < wr.heap.size ∧ (∀ j (hj : j < s.length), wr.cell? ⟨w.heap.size, j, none⟩ = some (.int .u8 ((if j < k then lowB s[j] else s[j]).toNat : Int))) ∧ (∀ j, j < s.length → wr.frozen? ⟨w.heap.size, j, none⟩ = false))
  case atStart => exact ⟨0, by omega, by omega, rfl, hb0, by omega, fun j hj => by rw [if_neg (by omega)]; exact HC0.out j hj, HF0.out⟩
  case round =>
    obtain ⟨k, hk, hg, rfl, hbr, hzr, hcr, hfr⟩ := hrel
    have HC := Lib.hid hcr
    have HF := Lib.hid hfr
    clear hcr hfr
    by_cases hlt : k < s.length
    · have hli : (k : Int) < s.length := by omega
      have hck := HC.out k hlt
      rw [if_neg (by omega)] at hck
      have hfk := HF.out k hlt
      generalize hx : s[k] = x at *
      have HX := Lib.hid hx
      clear hx
      by_cases hx8 : x.toNat < 128
      · have hx8' : (x.toNat : Int) < 128 := by omega
        go_wp2_with fail
        refine (small_any x wr).mono ?_
        rintro e w1 ⟨rfl, rfl⟩
        go_wp2_with fail
        go_roundg (s.length - (k + 1))
        case measure => omega
        case rel =>
          refine ⟨k + 1, by omega, by omega, by go_num, hbr.setCell (p := ⟨w.heap.size, k, none⟩) (Nat.le_refl _) _, by simpa using hzr, fun j hj => ?_, fun j hj => by simpa using HF.out j hj⟩
          by_cases hjk : j = k
          · subst hjk
            rw [World.cell?_setCell_same _ _ _ hck, if_pos (by omega), HX.out]
            have := UInt8.toNat_lt (lowB x)
            rw [show ((lowB x).toNat : Int) % 256 = (lowB x).toNat from by omega]
          · rw [World.cell?_setCell_other (a := ⟨w.heap.size, k, none⟩) (b := ⟨w.heap.size, j, none⟩) (h := by intro e; injection e with e1 e2; exact hjk e2.symm), HC.out j hj]
            by_cases hj2 : j < k
            · rw [if_pos hj2, if_pos (by omega)]
            · rw [if_neg hj2, if_neg (by omega)]
      · have hx8' : ¬ (x.toNat : Int) < 128 := by omega
        go_wp2_with fail
        go_roundg (s.length - (k + 1))
        case measure => omega
        case rel =>
          refine ⟨k + 1, by omega, by omega, by go_num, hbr, hzr, fun j hj => ?_, HF.out⟩
          rw [HC.out j hj]
          by_cases hjk : j = k
          · subst hjk
            rw [if_neg (by omega), if_pos (by omega), HX.out, lowB_high hx8]
          · by_cases hj2 : j < k
            · rw [if_pos hj2, if_pos (by omega)]
            · rw [if_neg hj2, if_neg (by omega)]
    · obtain rfl : k = s.length := by omega
      have hll : (lowerF s).length = s.length := by simp [lowerF]
      have kb := fun c => run_convert_bytes_back (P := Tryz.prog) wr 154 9 5 ⟨w.heap.size, 0, none⟩ c (lowerF s) Tryz.underlying154 Tryz.underlying5 Tryz.underlying9 (fun j hj => by
        rw [addr_add0, HC.out j (by rw [← hll]; exact hj), if_pos (by rw [← hll]; exact hj)]
        simp [lowerF])
      simp only [hll] at kb
      go_wp2_with fail
      go_ret
      exact ⟨rfl, hbr⟩

end Go.Proofs.YtgofleplmnibbaaGreatDoor
