/-
  The statement LexerJoins: its walk.
-/
import Derived.Test.YtgofleplmnibbaaDoorLexI
namespace Go.Proofs.YtgofleplmnibbaaDoor
open Go.RowKit Go.Shelf Lex

def TrueBelow (w : World) (e : Ending) (w' : World) : Prop := e = .returned (.bool true) ∧ Below w.heap.size w w'

/-- What stands behind the loop: the words are few and short. -/
theorem joinF_ok {ws : List Bytes} (h : (joinF ws).2 = 0) : ws.length ≤ 32 ∧ ws.any badWord = false ∧ joinF ws = (Lib.join (ws.map quoteW) [32], 0) := by
  unfold joinF at h ⊢
  by_cases h1 : 32 < ws.length
  · rw [if_pos h1] at h; exact absurd h (by simp)
  · rw [if_neg h1] at h ⊢
    cases h2 : ws.any badWord
    · simp; omega
    · rw [h2] at h; exact absurd h (by simp)

set_option maxHeartbeats 8000000 in
set_option maxRecDepth 100000 in
theorem joins_main (ws : List Bytes) (A : Option Addr) (c : Nat) (w : World) (hG : Glob w) (hS : Strs 0 w (.slice A ws.length c) ws) (hn : ws.length ≤ 40) :
    Calls Tryd.prog 3 #[.slice A ws.length c] w (TrueBelow w) := by
  have hn' : ¬ (40 : Int) < ws.length := by omega
  go_enter Tryd.func3, Tryd.ntmps3
  go_wp2_with fail
  go_loopg [3] (ws.length) (fun g i wr => ∃ k : Nat, k ≤ ws.length ∧ ws.length - k ≤ g ∧ i = .int .i64 k ∧ (∀ x ∈ ws.take k, x.length ≤ 40) ∧ w = wr)
  case atStart => exact ⟨0, by omega, by omega, rfl, by simp, rfl⟩
  case round =>
    obtain ⟨k, hk, hg, rfl, hok, rfl⟩ := hrel
    have HOK := Lib.hid hok
    clear hok
    by_cases hlt : k < ws.length
    · obtain ⟨bk, o, rfl, hbk, hcell⟩ := strs_at hS hlt
      have hli : (k : Int) < ws.length := by omega
      have HTK := Lib.hid (List.take_succ_eq_append_getElem hlt)
      generalize ws[k] = x at *
      by_cases hx : 40 < x.length
      · have hx' : (40 : Int) < x.length := by omega
        go_wp2_with fail
        refine (awake_any _ hG).mono ?_
        rintro e w1 ⟨rfl, hb1⟩
        go_wp2_with fail
        go_ret
        exact ⟨rfl, hb1⟩
      · have hx' : ¬ (40 : Int) < x.length := by omega
        go_wp2_with fail
        go_roundg (ws.length - (k + 1))
        case measure => omega
        case rel => exact ⟨k + 1, by omega, by omega, by go_num, fun y hy => by
          rw [HTK.out, List.mem_append, List.mem_singleton] at hy
          rcases hy with hy | rfl
          · exact HOK.out y hy
          · omega, rfl⟩
    · obtain rfl : k = ws.length := by omega
      have hsz : ∀ x ∈ ws, x.length ≤ 40 := by have := HOK.out; rwa [List.take_length] at this
      have HSZ := Lib.hid hsz
      clear hsz HOK
      have hJ := Join_any ws _ w 0 hS (fun x hx => by have := HSZ.out x hx; omega)
      go_wp2_with fail
      refine hJ.mono ?_
      rintro e w1 ⟨rfl, hb1⟩
      have hS1 := hS.below hb1
      clear hJ
      have hR := refJoin_any ws _ w1 0 hS1 (fun x hx => by have := HSZ.out x hx; omega)
      go_wp2_with fail
      refine hR.mono ?_
      rintro e w2 ⟨rfl, hb2⟩
      have hS2 := hS1.below hb2
      have hB2 : Below w.heap.size w w2 := hb1.trans (hb2.mono hb1.size)
      have hG2 := hG.below' hB2
      clear hR hS1 hb1 hb2
      cases hj : joinF ws with
      | mk J n =>
        by_cases h0 : n = 0
        · subst h0
          obtain ⟨h32, hbad, hj'⟩ := joinF_ok (ws := ws) (by rw [hj])
          have hJe : J = Lib.join (ws.map quoteW) [32] := by rw [hj] at hj'; exact (Prod.mk.inj hj').1
          have hJl : J.length ≤ 100000 := by
            have := join_length [32] 42 (ws.map quoteW) (fun y hy => by
              obtain ⟨z, hz, rfl⟩ := List.mem_map.1 hy
              have h1 := quoted_length z
              have h2 := HSZ.out z hz
              omega)
            simp only [List.length_map, List.length_cons, List.length_nil] at this
            rw [hJe]
            omega
          have hW : wordsF J = (ws, 0) := by rw [hJe]; exact wordsF_join ws h32 hbad
          have HW := Lib.hid hW
          have HJE := Lib.hid hJe
          clear hj hj' hJe hW hbad h32
          go_wp2_with fail
          refine (words_at hG2 hJl HW.out).mono ?_
          rintro e w3 ⟨v3, rfl, hS3, hb3⟩
          have hS2' := hS2.below hb3
          have hG3 := hG2.below' hb3
          have hB3 := hB2.trans (hb3.mono hB2.size)
          clear hb3 hB2 hS2
          go_wp2_with fail
          refine (texts_yes hS3 hS2').mono ?_
          rintro e w4 ⟨rfl, hb4⟩
          have hG4 := hG3.below' hb4
          have hB4 := hB3.trans (hb4.mono hB3.size)
          clear hb4 hB3 hS3 hS2'
          go_wp2_with fail
          refine (awake_any _ hG4).mono ?_
          rintro e w5 ⟨rfl, hb5⟩
          go_wp2_with fail
          go_ret
          exact ⟨rfl, hB4.trans (hb5.mono hB4.size)⟩
        · have hn0 : (n != 0) = true := by rw [bne_iff_ne]; exact h0
          clear hj h0
          go_wp2_with fail
          refine (awake_any _ hG2).mono ?_
          rintro e w3 ⟨rfl, hb3⟩
          go_wp2_with fail
          go_ret
          exact ⟨rfl, hB2.trans (hb3.mono hB2.size)⟩

theorem joins_any (ws : List Bytes) (v : Value) (w : World) (hG : Glob w) (hS : Strs 0 w v ws) :
    Calls Tryd.prog 3 #[v] w (TrueBelow w) := by
  obtain ⟨A, c, rfl⟩ := strs_form hS
  by_cases hn : 40 < ws.length
  · have hn' : (40 : Int) < ws.length := by omega
    go_enter Tryd.func3, Tryd.ntmps3
    go_wp2_with fail
    refine (awake_any _ hG).mono ?_
    rintro e w1 ⟨rfl, hb1⟩
    go_wp2_with fail
    go_ret
    exact ⟨rfl, hb1⟩
  · exact joins_main ws A c w hG hS (by omega)

end Go.Proofs.YtgofleplmnibbaaDoor
