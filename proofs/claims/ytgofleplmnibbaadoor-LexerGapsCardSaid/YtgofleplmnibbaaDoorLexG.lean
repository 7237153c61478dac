/-
  The lexer's Join: the line that words make, or what is wrong with them.
-/
import Derived.Test.YtgofleplmnibbaaDoorLexC
import Derived.Test.YtgofleplmnibbaaDoorLexP
import Derived.Test.YtgofleplmnibbaaDoorStrs
import Derived.Test.YtgofleplmnibbaaDoorLexQ
namespace Go.Proofs.YtgofleplmnibbaaDoor
open Go.RowKit Go.Shelf Lex

theorem quoted_length (w : Bytes) : (quoteW w).length ≤ w.length + 2 := by
  unfold quoteW
  split <;> simp

set_option maxHeartbeats 1000000 in
theorem quoted_any (w : Bytes) (W : World) (hw : w.length ≤ 100000) :
    Calls Tryd.prog 11 #[.string ⟨w.toArray⟩] W fun e W' => e = .returned (.string ⟨(quoteW w).toArray⟩) ∧ Below W.heap.size W W' := by
  cases w with
  | nil =>
    go_enter Tryd.func11, Tryd.ntmps11
    go_wp2_with fail
    go_ret
    exact ⟨rfl, Below.refl _ _⟩
  | cons c t =>
    have hH := hasAny_any (c :: t) [32, 9, 35] W (by decide) hw (by decide)
    cases ha : (c :: t).any (inSet [32, 9, 35]) with
    | false =>
      rw [ha] at hH
      have HH := Lib.hid hH
      have HA := Lib.hid ha
      clear hH ha
      go_enter Tryd.func11, Tryd.ntmps11
      go_wp2_with (go_at_call 12; refine HH.out.mono ?_; rintro e w1 ⟨rfl, hb1⟩)
      go_ret
      exact ⟨by rw [quoteW, if_neg (by rw [HA.out]; simp)]; rfl, hb1⟩
    | true =>
      rw [ha] at hH
      have HH := Lib.hid hH
      have HA := Lib.hid ha
      clear hH ha
      have h1 := fun X => str_add (P := Tryd.prog) [34] (c :: t) (by simp at hw ⊢; omega) X
      have h2 := fun X => str_add (P := Tryd.prog) (34 :: c :: t) [34] (by simp at hw ⊢; omega) X
      go_enter Tryd.func11, Tryd.ntmps11
      go_wp2_with (go_at_call 12; refine HH.out.mono ?_; rintro e w1 ⟨rfl, hb1⟩)
      go_ret
      exact ⟨by rw [quoteW, if_pos (.inr HA.out)]; rfl, hb1⟩

theorem joinTail_length (sep : Bytes) (M : Nat) : ∀ (r : List Bytes), (∀ x ∈ r, x.length ≤ M) → (Lib.joinTail sep r).length ≤ r.length * (sep.length + M)
  | [], _ => by simp [Lib.joinTail]
  | x :: r, h => by
    have ih := joinTail_length sep M r (fun y hy => h y (by simp [hy]))
    have hx := h x (by simp)
    unfold Lib.joinTail at ih ⊢
    simp only [List.map_cons, List.flatten_cons, List.length_append, List.length_cons, Nat.add_mul, Nat.one_mul]
    omega
theorem join_length (sep : Bytes) (M : Nat) (xs : List Bytes) (h : ∀ x ∈ xs, x.length ≤ M) : (Lib.join xs sep).length ≤ xs.length * (sep.length + M) := by
  cases xs with
  | nil => simp [Lib.join_nil]
  | cons x r =>
    rw [Lib.join_cons]
    have := joinTail_length sep M r (fun y hy => h y (by simp [hy]))
    have hx := h x (by simp)
    simp only [List.length_append, List.length_cons, Nat.add_mul, Nat.one_mul]
    omega

def JoinPost (ws : List Bytes) (w : World) (e : Ending) (w' : World) : Prop :=
  e = .returned (.tuple #[.string ⟨(joinF ws).1.toArray⟩, .int .i64 (joinF ws).2]) ∧ Below w.heap.size w w'


set_option maxHeartbeats 1000000 in
theorem join_many (ws : List Bytes) (A : Option Addr) (c : Nat) (w : World) (hn : 32 < ws.length) :
    Calls Tryd.prog 7 #[.slice A ws.length c] w (JoinPost ws w) := by
  have hn' : (32 : Int) < ws.length := by omega
  go_enter Tryd.func7, Tryd.ntmps7
  go_wp2_with fail
  go_ret2
  exact ⟨by rw [show joinF ws = ([], 14) from if_pos hn]; rfl, Below.refl _ _⟩

theorem strs_at {lo : Nat} {W : World} {A : Option Addr} {c k : Nat} {xs : List Bytes} (h : Strs lo W (.slice A xs.length c) xs) (hk : k < xs.length) :
    ∃ bk o, A = some ⟨bk, o, none⟩ ∧ bk < W.heap.size ∧ W.cell? ⟨bk, o + k, none⟩ = some (.string ⟨xs[k].toArray⟩) := by
  obtain ⟨A', c', hv, hc, hm, hr⟩ := h
  injection hv with e1 e2 e3
  subst e1
  obtain ⟨bk, o, hA, hlo, hlt, hx⟩ := hr (by omega)
  exact ⟨bk, o, hA, hlt, hx k _ (List.getElem?_eq_getElem hk)⟩

theorem stringsJoin_any (xs : List Bytes) (v : Value) (W : World) (lo : Nat) (hS : Strs lo W v xs) (hn : xs.length ≤ 100000) (hlen : (Lib.join xs [32]).length ≤ 140737488355328) :
    Calls Tryd.prog 13 #[v, .string ⟨#[32]⟩] W fun e w' => e = .returned (.string ⟨(Lib.join xs [32]).toArray⟩) ∧ Below W.heap.size W w' := by
  obtain ⟨A, c, rfl, hc, hm, hr⟩ := hS
  cases xs with
  | nil =>
    refine (Tryd.strings_Join_none A c ⟨#[32]⟩ W).mono ?_
    rintro e w' ⟨rfl, rfl⟩
    exact ⟨rfl, Below.refl _ _⟩
  | cons x r =>
    obtain ⟨bk, o, rfl, hlo, hlt, hx⟩ := hr (by simp)
    have hmap : ((x :: r).map (fun y => (⟨y.toArray⟩ : ByteArray))).map (·.data.toList) = x :: r := by simp [Function.comp_def]
    have := Tryd.strings_Join bk o c ((x :: r).map (fun y => (⟨y.toArray⟩ : ByteArray))) ⟨#[32]⟩ W (fun j y hj => by
      rw [List.getElem?_map, Option.map_eq_some_iff] at hj
      obtain ⟨z, hz, rfl⟩ := hj
      exact hx j z hz) hlt (by rw [List.length_map]; omega) (by rw [List.length_map]; exact hc) (by rw [hmap]; exact hlen)
    rw [hmap, List.length_map] at this
    exact this

set_option maxHeartbeats 4000000 in
set_option maxRecDepth 100000 in
theorem join_main (ws : List Bytes) (A : Option Addr) (c : Nat) (w : World) (hS : Strs 0 w (.slice A ws.length c) ws) (hsz : ∀ x ∈ ws, x.length ≤ 90000) (hn : ws.length ≤ 32) :
    Calls Tryd.prog 7 #[.slice A ws.length c] w (JoinPost ws w) := by
  have hn' : (ws.length : Int) ≤ 32 := by omega
  obtain ⟨i0, hi, hz0, hz1, hz2⟩ := info_parts infoStr
  go_enter Tryd.func7, Tryd.ntmps7
  go_wp2_with fail
  go_loopg [5, 13] (ws.length) (fun g v5 i wr => ∃ k : Nat, k ≤ ws.length ∧ ws.length - k ≤ g ∧ i = .int .i64 k ∧ wr.ownsRow w.heap.size 9 1 v5 k ((ws.take k).map fun x => encS (quoteW x)) ∧ (ws.take k).any badWord = false ∧ Below w.heap.size w wr)
  case atStart => exact ⟨0, by omega, by omega, rfl, World.ownsRow_nil _ _ _ _, rfl, Below.refl _ _⟩
  case round =>
    obtain ⟨k, hk, hg, rfl, hown, hok, hbw⟩ := hrel
    have HOK := Lib.hid hok
    clear hok
    by_cases hlt : k < ws.length
    · obtain ⟨bk, o, rfl, hbk, hcell⟩ := strs_at hS hlt
      have hc1 : wr.cell? ⟨bk, o + k, none⟩ = some (.string ⟨ws[k].toArray⟩) := (hbw.cell (p := ⟨bk, o + k, none⟩) hbk).trans hcell
      have hxl := hsz ws[k] (List.getElem_mem hlt)
      have HTK := Lib.hid (List.take_succ_eq_append_getElem hlt)
      have hH := hasAny_any ws[k] [0, 10, 13, 34] wr (by decide) (by omega) (by decide)
      clear hcell
      generalize hx : ws[k] = x at *
      clear hx
      cases hb : badWord x with
      | true =>
        rw [show x.any (inSet [0, 10, 13, 34]) = true from hb] at hH
        have HH := Lib.hid hH
        have HB := Lib.hid hb
        clear hH hb
        go_wp2_with (go_at_call 12; refine HH.out.mono ?_; rintro e w1 ⟨rfl, hb1⟩)
        go_ret2
        refine ⟨?_, hbw.trans (hb1.mono hbw.size)⟩
        have : ws.any badWord = true := by
          rw [← List.take_append_drop (k + 1) ws, List.any_append, HTK.out, List.any_append]
          simp [HB.out]
        rw [show joinF ws = ([], 12) from by unfold joinF; rw [if_neg (by omega), if_pos this]]
        rfl
      | false =>
        rw [show x.any (inSet [0, 10, 13, 34]) = false from hb] at hH
        have HH := Lib.hid hH
        have HB := Lib.hid hb
        clear hH hb
        go_wp2_with (go_at_call 12; refine HH.out.mono ?_; rintro e w1 ⟨rfl, hb1⟩)
        refine (quoted_any x w1 (by omega)).mono ?_
        rintro e w2 ⟨rfl, hb2⟩
        have hB2 : Below wr.heap.size wr w2 := hb1.trans (hb2.mono hb1.size)
        have hown2 := ownsRow_below hown hB2
        have hbw2 := hbw.trans (hB2.mono hbw.size)
        have hw2s := hbw2.size
        clear hown hb1 hb2 hB2
        go_wp2_with (at_builtin; refine wpList_append_own _ rfl _ _ 22 rfl w.heap.size 9 i0 (.string ⟨#[]⟩) 1 16 Tryd.underlying22 hi hz0 hz1 hz2 rfl (by decide) _ _ _ rfl (hown2.alloc _) ⟨w2.heap.size, 0, none⟩ 1 1 [.string ⟨(quoteW x).toArray⟩] rfl rfl (cell_one_new _ _ _) (by simp [Value.oneCell']) (by unfold maxLen; omega) (by omega) (by simp; omega) ?_; intro v' w3 hown' hgrow _)
        go_roundg (ws.length - (k + 1))
        case measure => omega
        case rel =>
          refine ⟨k + 1, by omega, by omega, by go_num, ?_, by rw [HTK.out, List.any_append, HOK.out]; simp [HB.out], (hbw2.alloc hw2s _).grown hgrow (by simp; omega) (fun j hj => (hown2.lt j hj).1)⟩
          rw [HTK.out, List.map_append]
          exact hown'
    · obtain rfl : k = ws.length := by omega
      rw [List.take_length] at hown
      have HOK' := Lib.hid (by have := HOK.out; rwa [List.take_length] at this)
      have hj : joinF ws = (Lib.join (ws.map quoteW) [32], 0) := by unfold joinF; rw [if_neg (by omega), HOK'.out]; rfl
      have HJ := Lib.hid hj
      clear hj
      have hSv : Strs w.heap.size wr u5 (ws.map quoteW) := Strs.of_own (e := 9) (by rw [List.length_map, List.map_map]; exact hown)
      have hJL : (Lib.join (ws.map quoteW) [32]).length ≤ 140737488355328 := by
        have := join_length [32] 90002 (ws.map quoteW) (fun y hy => by
          obtain ⟨z, hz, rfl⟩ := List.mem_map.1 hy
          have h1 := quoted_length z
          have h2 := hsz z hz
          omega)
        simp only [List.length_map, List.length_cons, List.length_nil] at this
        omega
      have hC := stringsJoin_any (ws.map quoteW) u5 wr _ hSv (by rw [List.length_map]; omega) hJL
      have HC := Lib.hid hC
      clear hC hSv hJL hown
      go_wp2_with (go_at_call 13; refine HC.out.mono ?_; rintro e w1 ⟨rfl, hb1⟩)
      go_ret2
      exact ⟨by rw [HJ.out]; rfl, hbw.trans (hb1.mono hbw.size)⟩

theorem Join_any (ws : List Bytes) (v : Value) (w : World) (lo : Nat) (hS : Strs lo w v ws) (hsz : ∀ x ∈ ws, x.length ≤ 90000) :
    Calls Tryd.prog 7 #[v] w (JoinPost ws w) := by
  obtain ⟨A, c, rfl, hr⟩ := hS
  by_cases h : 32 < ws.length
  · exact join_many ws A c w h
  · exact join_main ws A c w ((show Strs lo w (.slice A ws.length c) ws from ⟨A, c, rfl, hr⟩).mono (Nat.zero_le _)) hsz (by omega)

end Go.Proofs.YtgofleplmnibbaaDoor
