/-
  Two lists of texts held against each other (Texts), and the reference's Join.
-/
import Derived.Test.YtgofleplmnibbaaDoorLexG
namespace Go.Proofs.YtgofleplmnibbaaDoor
open Go.RowKit Go.Shelf Lex

theorem strs_form {lo : Nat} {W : World} {v : Value} {xs : List Bytes} (h : Strs lo W v xs) : ∃ A c, v = .slice A xs.length c := by
  obtain ⟨A, c, rfl, _⟩ := h
  exact ⟨A, c, rfl⟩

set_option maxHeartbeats 2000000 in
theorem Texts_any (xs ys : List Bytes) (u v : Value) (w : World) (lo lo' : Nat) (hu : Strs lo w u xs) (hv : Strs lo' w v ys) :
    Calls Tryd.prog 10 #[u, v] w fun e w' => e = .returned (.bool (decide (xs = ys))) ∧ Below w.heap.size w w' := by
  obtain ⟨A, c, rfl⟩ := strs_form hu
  obtain ⟨B, d, rfl⟩ := strs_form hv
  have hx : xs.length ≤ 9223372036854775807 := by obtain ⟨_, _, _, h1, h2, _⟩ := hu; unfold maxLen at h2; omega
  by_cases hl : xs.length = ys.length
  · have hl1 : ((xs.length : Int) != (ys.length : Int)) = false := by rw [bne_eq_false_iff_eq]; omega
    have HL := Lib.hid hl
    clear hl
    go_enter Tryd.func10, Tryd.ntmps10
    go_wp2_with fail
    go_loopg [5] (xs.length) (fun g i wr => ∃ k : Nat, k ≤ xs.length ∧ xs.length - k ≤ g ∧ i = .int .i64 k ∧ (∀ j, j < k → xs[j]? = ys[j]?) ∧ Below w.heap.size w wr)
    case atStart => exact ⟨0, by omega, by omega, rfl, fun j hj => absurd hj (by omega), Below.refl _ _⟩
    case round =>
      obtain ⟨k, hk, hg, rfl, heq, hbw⟩ := hrel
      have HE := Lib.hid heq
      clear heq
      by_cases hlt : k < xs.length
      · have hlt' : k < ys.length := by have := HL.out; omega
        obtain ⟨b1, o1, rfl, hb1, hc1⟩ := strs_at hu hlt
        obtain ⟨b2, o2, rfl, hb2, hc2⟩ := strs_at hv hlt'
        have hd1 : wr.cell? ⟨b1, o1 + k, none⟩ = some (.string ⟨xs[k].toArray⟩) := (hbw.cell (p := ⟨b1, o1 + k, none⟩) hb1).trans hc1
        have hd2 : wr.cell? ⟨b2, o2 + k, none⟩ = some (.string ⟨ys[k].toArray⟩) := (hbw.cell (p := ⟨b2, o2 + k, none⟩) hb2).trans hc2
        have hli : (k : Int) < xs.length := by omega
        have hli' : (k : Int) < ys.length := by omega
        clear hc1 hc2
        go_wp2_with fail
        go_quiet (fail)
        go_wp2_with fail
        · have hne : (!xs[k] == ys[k]) = true := by assumption
          go_ret
          refine ⟨?_, below_drewN hbw _⟩
          have : xs ≠ ys := by
            rintro rfl
            simp at hne
          rw [decide_eq_false this]
          rfl
        · have heq : (!xs[k] == ys[k]) = false := by assumption
          have HQ := Lib.hid heq
          clear heq
          go_roundg (xs.length - (k + 1))
          case measure => omega
          case rel =>
            refine ⟨k + 1, by omega, by omega, by go_num, fun j hj => ?_, below_drewN hbw _⟩
            by_cases hjk : j = k
            · subst hjk
              have := HQ.out
              simp only [Bool.not_eq_false', beq_iff_eq] at this
              rw [List.getElem?_eq_getElem hlt, List.getElem?_eq_getElem hlt', this]
            · exact HE.out j (by omega)
      · have hli : ¬ (k : Int) < xs.length := by omega
        go_wp2_with fail
        go_ret
        refine ⟨?_, hbw⟩
        have : xs = ys := List.ext_getElem? fun j => by
          by_cases hj : j < k
          · exact HE.out j hj
          · rw [List.getElem?_eq_none (by omega), List.getElem?_eq_none (by have := HL.out; omega)]
        rw [decide_eq_true this]
        rfl
  · have hl1 : ((xs.length : Int) != (ys.length : Int)) = true := by rw [bne_iff_ne]; omega
    have HL := Lib.hid hl
    clear hl
    go_enter Tryd.func10, Tryd.ntmps10
    go_wp2_with fail
    go_ret
    refine ⟨?_, Below.refl _ _⟩
    rw [decide_eq_false (fun e => HL.out (by rw [e]))]
    rfl

/-! ### The reference's Join -/
theorem badWord_cases (c : UInt8) (h : inSet [0, 10, 13, 34] c = true) : c = 0 ∨ c = 10 ∨ c = 13 ∨ c = 34 := by
  unfold inSet at h; simpa using h
theorem not_bad (c : UInt8) (h : inSet [0, 10, 13, 34] c = false) : ((c.toNat : Int) == 0) = false ∧ ((c.toNat : Int) == 10) = false ∧ ((c.toNat : Int) == 13) = false ∧ ((c.toNat : Int) == 34) = false := by
  unfold inSet at h
  simp at h
  obtain ⟨h1, h2, h3, h4⟩ := h
  have key : ∀ d : UInt8, c ≠ d → ((c.toNat : Int) == (d.toNat : Int)) = false := fun d hd => by
    rw [beq_eq_false_iff_ne]; intro e; exact hd (u8_of (by omega))
  exact ⟨key 0 h1, key 10 h2, key 13 h3, key 34 h4⟩

set_option maxHeartbeats 4000000 in
set_option maxRecDepth 100000 in
theorem refJoin_many (ws : List Bytes) (A : Option Addr) (c : Nat) (w : World) (hn : 32 < ws.length) :
    Calls Tryd.prog 8 #[.slice A ws.length c] w (JoinPost ws w) := by
  have hn' : (32 : Int) < ws.length := by omega
  go_enter Tryd.func8, Tryd.ntmps8
  go_wp2_with fail
  go_ret2
  exact ⟨by rw [show joinF ws = ([], 14) from if_pos hn]; rfl, Below.refl _ _⟩

theorem join_snoc (sep : Bytes) (y : Bytes) : ∀ (ys : List Bytes), ys ≠ [] → Lib.join (ys ++ [y]) sep = Lib.join ys sep ++ sep ++ y
  | [], h => absurd rfl h
  | x :: r, _ => by
    rw [List.cons_append, Lib.join_cons, Lib.join_cons]
    unfold Lib.joinTail
    simp

/-- The quote's mark after k bytes. -/
def qmark (x : Bytes) (k : Nat) : Bool := decide (x = []) || (x.take k).any (inSet [32, 9, 35])
theorem qmark_quoted (x : Bytes) : quoteW x = if qmark x x.length then 34 :: (x ++ [34]) else x := by
  unfold quoteW qmark
  rw [List.take_length]
  by_cases h : x = [] <;> simp [h]
theorem qmark_succ {x : Bytes} {k : Nat} (h : k < x.length) : qmark x (k + 1) = (qmark x k || inSet [32, 9, 35] x[k]) := by
  unfold qmark
  rw [List.take_succ_eq_append_getElem h, List.any_append]
  simp [Bool.or_assoc]
theorem inSet3 (c : UInt8) : inSet [32, 9, 35] c = (((c.toNat : Int) == 32) || ((c.toNat : Int) == 9) || ((c.toNat : Int) == 35)) := by
  have key : ∀ d : UInt8, (c == d) = ((c.toNat : Int) == (d.toNat : Int)) := fun d => by
    rw [Bool.eq_iff_iff, beq_iff_eq, beq_iff_eq]
    constructor
    · rintro rfl; rfl
    · intro h; exact u8_of (by omega)
  unfold inSet
  simp only [List.contains_cons, List.contains_nil, Bool.or_false]
  rw [key 32, key 9, key 35, Bool.or_assoc]
  rfl

attribute [local go_sem] ba_get
set_option maxHeartbeats 8000000 in
set_option maxRecDepth 100000 in
theorem refJoin_main (ws : List Bytes) (A : Option Addr) (c : Nat) (w : World) (hS : Strs 0 w (.slice A ws.length c) ws) (hsz : ∀ x ∈ ws, x.length ≤ 90000) (hn : ws.length ≤ 32) :
    Calls Tryd.prog 8 #[.slice A ws.length c] w (JoinPost ws w) := by
  have hn' : (ws.length : Int) ≤ 32 := by omega
  go_enter Tryd.func8, Tryd.ntmps8
  go_wp2_with fail
  go_loopg [4, 5] (ws.length) (fun g s i wr => ∃ k : Nat, k ≤ ws.length ∧ ws.length - k ≤ g ∧ i = .int .i64 k ∧ s = .string ⟨(Lib.join ((ws.take k).map quoteW) [32]).toArray⟩ ∧ (ws.take k).any badWord = false ∧ w = wr)
  case atStart => exact ⟨0, by omega, by omega, rfl, rfl, rfl, rfl⟩
  case round =>
    obtain ⟨k, hk, hg, rfl, rfl, hok, rfl⟩ := hrel
    have HOK := Lib.hid hok
    clear hok
    by_cases hlt : k < ws.length
    · obtain ⟨bk, o, rfl, hbk, hcell⟩ := strs_at hS hlt
      have hxl := hsz ws[k] (List.getElem_mem hlt)
      have HTK := Lib.hid (List.take_succ_eq_append_getElem hlt)
      have hli : (k : Int) < ws.length := by omega
      have hjl : (Lib.join ((ws.take k).map quoteW) [32]).length ≤ 10000000 := by
        have := join_length [32] 90002 ((ws.take k).map quoteW) (fun y hy => by
          obtain ⟨z, hz, rfl⟩ := List.mem_map.1 hy
          have h1 := quoted_length z
          have h2 := hsz z (List.mem_of_mem_take hz)
          omega)
        simp only [List.length_map, List.length_take, List.length_cons, List.length_nil] at this
        omega
      generalize hx : ws[k] = x at *
      generalize hJ : Lib.join ((ws.take k).map quoteW) [32] = J at *
      have HJ := Lib.hid hJ
      clear hx hJ
      go_wp2_with fail
      go_loopg [6, 7] (x.length) (fun g q i wi => ∃ m : Nat, m ≤ x.length ∧ x.length - m ≤ g ∧ i = .int .i64 m ∧ q = .bool (qmark x m) ∧ (x.take m).any (inSet [0, 10, 13, 34]) = false ∧ w = wi)
      case atStart => exact ⟨0, by omega, by omega, rfl, by unfold qmark; cases x <;> rfl, rfl, rfl⟩
      case round =>
        obtain ⟨m, hm, hmg, rfl, rfl, hmok, rfl⟩ := hrel
        have HM := Lib.hid hmok
        clear hmok
        by_cases hmx : m < x.length
        · have hmi : (m : Int) < x.length := by omega
          have HT := Lib.hid (List.take_succ_eq_append_getElem hmx)
          have HQ := Lib.hid (qmark_succ hmx)
          cases hb : inSet [0, 10, 13, 34] x[m] with
          | true =>
            have hfin : joinF ws = ([], 12) := by
              have h1 : badWord x = true := by
                unfold badWord
                rw [← List.take_append_drop (m + 1) x, List.any_append, HT.out, List.any_append]
                simp [hb]
              have : ws.any badWord = true := by
                rw [← List.take_append_drop (k + 1) ws, List.any_append, HTK.out, List.any_append]
                simp [h1]
              unfold joinF; rw [if_neg (by omega), if_pos this]
            have HF := Lib.hid hfin
            clear hfin
            have key : ∀ d : UInt8, x[m] ≠ d → ((x[m].toNat : Int) == (d.toNat : Int)) = false := fun d hd => by
              rw [beq_eq_false_iff_ne]; intro e; exact hd (u8_of (by omega))
            have hx0 : x[m] = 0 ∨ x[m] ≠ 0 ∧ x[m] = 10 ∨ x[m] ≠ 0 ∧ x[m] ≠ 10 ∧ x[m] = 13 ∨ x[m] ≠ 0 ∧ x[m] ≠ 10 ∧ x[m] ≠ 13 ∧ x[m] = 34 := by
              rcases badWord_cases _ hb with h | h | h | h
              · exact .inl h
              · exact .inr (.inl ⟨by rw [h]; decide, h⟩)
              · exact .inr (.inr (.inl ⟨by rw [h]; decide, by rw [h]; decide, h⟩))
              · exact .inr (.inr (.inr ⟨by rw [h]; decide, by rw [h]; decide, by rw [h]; decide, h⟩))
            rcases hx0 with h | ⟨h0, h⟩ | ⟨h0, h1, h⟩ | ⟨h0, h1, h2, h⟩
            · have t0 : ((x[m].toNat : Int) == 0) = true := by rw [h]; rfl
              clear h key hb
              go_wp2_with fail
              go_ret2
              exact ⟨by rw [HF.out]; rfl, Below.refl _ _⟩
            · have t0 : ((x[m].toNat : Int) == 0) = false := key 0 h0
              have t1 : ((x[m].toNat : Int) == 10) = true := by rw [h]; rfl
              clear h h0 key hb
              go_wp2_with fail
              go_ret2
              exact ⟨by rw [HF.out]; rfl, Below.refl _ _⟩
            · have t0 : ((x[m].toNat : Int) == 0) = false := key 0 h0
              have t1 : ((x[m].toNat : Int) == 10) = false := key 10 h1
              have t2 : ((x[m].toNat : Int) == 13) = true := by rw [h]; rfl
              clear h h0 h1 key hb
              go_wp2_with fail
              go_ret2
              exact ⟨by rw [HF.out]; rfl, Below.refl _ _⟩
            · have t0 : ((x[m].toNat : Int) == 0) = false := key 0 h0
              have t1 : ((x[m].toNat : Int) == 10) = false := key 10 h1
              have t2 : ((x[m].toNat : Int) == 13) = false := key 13 h2
              have t3 : ((x[m].toNat : Int) == 34) = true := by rw [h]; rfl
              clear h h0 h1 h2 key hb
              go_wp2_with fail
              go_ret2
              exact ⟨by rw [HF.out]; rfl, Below.refl _ _⟩
          | false =>
            obtain ⟨t0, t1, t2, t3⟩ := not_bad _ hb
            have HB := Lib.hid hb
            have H3 := Lib.hid (inSet3 x[m])
            clear hb
            have done : ∀ q : Bool, q = qmark x (m + 1) → ∃ m' : Nat, m' ≤ x.length ∧ x.length - m' ≤ x.length - (m + 1) ∧ Value.int .i64 ((m : Int) + 1) = .int .i64 m' ∧ Value.bool q = .bool (qmark x m') ∧ (x.take m').any (inSet [0, 10, 13, 34]) = false := fun q hq =>
              ⟨m + 1, by omega, by omega, by go_num, by rw [hq], by rw [HT.out, List.any_append, HM.out]; simp [HB.out]⟩
            have HD := Lib.hid done
            clear done
            cases hq : qmark x m with
            | true =>
              have HQM := Lib.hid hq
              go_wp2_with fail
              go_roundg (x.length - (m + 1))
              case measure => omega
              case rel => obtain ⟨m', d1, d2, d3, d4, d5⟩ := HD.out true (by rw [HQ.out, HQM.out]; rfl); exact ⟨m', d1, d2, d3, d4, d5, rfl⟩
            | false =>
              have HQM := Lib.hid hq
              cases s1 : ((x[m].toNat : Int) == 32) with
              | true =>
                have S1 := Lib.hid s1
                go_wp2_with fail
                go_roundg (x.length - (m + 1))
                case measure => omega
                case rel => obtain ⟨m', d1, d2, d3, d4, d5⟩ := HD.out true (by rw [HQ.out, HQM.out, H3.out, S1.out]; rfl); exact ⟨m', d1, d2, d3, d4, d5, rfl⟩
              | false =>
                have S1 := Lib.hid s1
                cases s2 : ((x[m].toNat : Int) == 9) with
                | true =>
                  have S2 := Lib.hid s2
                  go_wp2_with fail
                  go_roundg (x.length - (m + 1))
                  case measure => omega
                  case rel => obtain ⟨m', d1, d2, d3, d4, d5⟩ := HD.out true (by rw [HQ.out, HQM.out, H3.out, S1.out, S2.out]; rfl); exact ⟨m', d1, d2, d3, d4, d5, rfl⟩
                | false =>
                  have S2 := Lib.hid s2
                  go_wp2_with fail
                  go_roundg (x.length - (m + 1))
                  case measure => omega
                  case rel => obtain ⟨m', d1, d2, d3, d4, d5⟩ := HD.out _ (by rw [HQ.out, HQM.out, H3.out, S1.out, S2.out, Bool.false_or, Bool.false_or, Bool.false_or]); exact ⟨m', d1, d2, d3, d4, d5, rfl⟩
        · obtain rfl : m = x.length := by omega
          have hbx : badWord x = false := by have := HM.out; rwa [List.take_length] at this
          have hok' : (ws.take (k + 1)).any badWord = false := by rw [HTK.out, List.any_append, HOK.out]; simp [hbx]
          have HOK' := Lib.hid hok'
          clear hok'
          have HQF := Lib.hid (qmark_quoted x)
          have hjn : Lib.join ((ws.take (k + 1)).map quoteW) [32] = if k = 0 then quoteW x else J ++ [32] ++ quoteW x := by
            rw [HTK.out, List.map_append]
            by_cases h0 : k = 0
            · subst h0
              rw [if_pos rfl]
              simp [Lib.join_one]
            · rw [if_neg h0, List.map_cons, List.map_nil, join_snoc _ _ _ (fun e => by have := congrArg List.length e; rw [List.length_map, List.length_take, List.length_nil] at this; omega), HJ.out]
          have HJN := Lib.hid hjn
          clear hjn
          have done : ∀ s : Bytes, s = Lib.join ((ws.take (k + 1)).map quoteW) [32] → ∃ k' : Nat, k' ≤ ws.length ∧ ws.length - k' ≤ ws.length - (k + 1) ∧ Value.int .i64 ((k : Int) + 1) = .int .i64 k' ∧ Value.string ⟨s.toArray⟩ = .string ⟨(Lib.join ((ws.take k').map quoteW) [32]).toArray⟩ ∧ (ws.take k').any badWord = false := fun s hs =>
            ⟨k + 1, by omega, by omega, by go_num, by rw [hs], HOK'.out⟩
          have HD := Lib.hid done
          clear done
          cases hq : qmark x x.length with
          | true =>
            have HQM := Lib.hid hq
            by_cases h0 : k = 0
            · have HZ := Lib.hid h0
              have hk0 : ¬ (0 : Int) < k := by omega
              have hJ0 : J = [] := by have := HJ.out; rw [h0] at this; rw [← this]; rfl
              subst hJ0
              clear h0
              have a1 := fun X => str_add (P := Tryd.prog) [] [34] (by simp) X
              have a2 := fun X => str_add (P := Tryd.prog) [34] x (by simp; omega) X
              have a3 := fun X => str_add (P := Tryd.prog) (34 :: x) [34] (by simp; omega) X
              go_wp2_with fail
              go_roundg (ws.length - (k + 1))
              case measure => omega
              case rel => obtain ⟨m', d1, d2, d3, d4, d5⟩ := HD.out ((34 :: x) ++ [34]) (by rw [HJN.out, if_pos HZ.out, HQF.out, HQM.out]; rfl); exact ⟨m', d1, d2, d3, d4, d5, rfl⟩
            · have HZ := Lib.hid h0
              have hk0 : (0 : Int) < k := by omega
              clear h0
              have a0 := fun X => str_add (P := Tryd.prog) J [32] (by simp; omega) X
              have a1 := fun X => str_add (P := Tryd.prog) (J ++ [32]) [34] (by simp; omega) X
              have a2 := fun X => str_add (P := Tryd.prog) (J ++ [32] ++ [34]) x (by simp; omega) X
              have a3 := fun X => str_add (P := Tryd.prog) (J ++ [32] ++ [34] ++ x) [34] (by simp; omega) X
              simp only [List.append_assoc, List.cons_append, List.nil_append] at a0 a1 a2 a3
              go_wp2_with fail
              go_roundg (ws.length - (k + 1))
              case measure => omega
              case rel => obtain ⟨m', d1, d2, d3, d4, d5⟩ := HD.out (J ++ (32 :: 34 :: (x ++ [34]))) (by rw [HJN.out, if_neg HZ.out, HQF.out, HQM.out]; simp); exact ⟨m', d1, d2, d3, d4, d5, rfl⟩
          | false =>
            have HQM := Lib.hid hq
            by_cases h0 : k = 0
            · have HZ := Lib.hid h0
              have hk0 : ¬ (0 : Int) < k := by omega
              have hJ0 : J = [] := by have := HJ.out; rw [h0] at this; rw [← this]; rfl
              subst hJ0
              clear h0
              have a1 := fun X => str_add (P := Tryd.prog) [] x (by simp; omega) X
              go_wp2_with fail
              go_roundg (ws.length - (k + 1))
              case measure => omega
              case rel => obtain ⟨m', d1, d2, d3, d4, d5⟩ := HD.out x (by rw [HJN.out, if_pos HZ.out, HQF.out, HQM.out]; rfl); exact ⟨m', d1, d2, d3, d4, d5, rfl⟩
            · have HZ := Lib.hid h0
              have hk0 : (0 : Int) < k := by omega
              clear h0
              have a0 := fun X => str_add (P := Tryd.prog) J [32] (by simp; omega) X
              have a1 := fun X => str_add (P := Tryd.prog) (J ++ [32]) x (by simp; omega) X
              simp only [List.append_assoc, List.cons_append, List.nil_append] at a0 a1
              go_wp2_with fail
              go_roundg (ws.length - (k + 1))
              case measure => omega
              case rel => obtain ⟨m', d1, d2, d3, d4, d5⟩ := HD.out (J ++ (32 :: x)) (by rw [HJN.out, if_neg HZ.out, HQF.out, HQM.out]; simp); exact ⟨m', d1, d2, d3, d4, d5, rfl⟩
    · obtain rfl : k = ws.length := by omega
      have hj : joinF ws = (Lib.join (ws.map quoteW) [32], 0) := by
        have := HOK.out
        rw [List.take_length] at this
        unfold joinF; rw [if_neg (by omega), this]; rfl
      have HJ := Lib.hid hj
      clear hj
      go_wp2_with fail
      go_ret2
      exact ⟨by rw [HJ.out]; simp, Below.refl _ _⟩

theorem refJoin_any (ws : List Bytes) (v : Value) (w : World) (lo : Nat) (hS : Strs lo w v ws) (hsz : ∀ x ∈ ws, x.length ≤ 90000) :
    Calls Tryd.prog 8 #[v] w (JoinPost ws w) := by
  obtain ⟨A, c, rfl, hr⟩ := hS
  by_cases h : 32 < ws.length
  · exact refJoin_many ws A c w h
  · exact refJoin_main ws A c w ((show Strs lo w (.slice A ws.length c) ws from ⟨A, c, rfl, hr⟩).mono (Nat.zero_le _)) hsz (by omega)

end Go.Proofs.YtgofleplmnibbaaDoor
