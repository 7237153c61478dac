/-
  words.find: which of some words a word is, or is short for.
-/
import Derived.Test.YtgofleplmnibbaaGreatDoorLinC
import Derived.Test.YtgofleplmnibbaaGreatDoorLinE
namespace Go.Proofs.YtgofleplmnibbaaGreatDoor.Lex

/-- The places of words that begin with w, and whether they are it. -/
def hits (w : Bytes) : Nat → List Bytes → List (Nat × Bool)
  | _, [] => []
  | i, x :: r => if w.isEmpty = false ∧ w.isPrefixOf (lowerF x) = true then (i, lowerF x == w) :: hits w (i + 1) r else hits w (i + 1) r
def findF (w : Bytes) (ls : List Bytes) : Option Nat :=
  match (hits (lowerF w) 0 ls).find? (·.2) with
  | some x => some x.1
  | none => match hits (lowerF w) 0 ls with
    | [x] => some x.1
    | _ => none
theorem hits_length (w : Bytes) : ∀ (i : Nat) (ls : List Bytes), (hits w i ls).length ≤ ls.length
  | _, [] => by simp [hits]
  | i, x :: r => by
    have := hits_length w (i + 1) r
    unfold hits
    split <;> simp <;> omega

end Go.Proofs.YtgofleplmnibbaaGreatDoor.Lex
namespace Go.Proofs.YtgofleplmnibbaaGreatDoor
open Go.RowKit Go.Shelf Lex
attribute [local go_sem] Oper.semAt_some

theorem isPrefix_take (p s : Bytes) : p.isPrefixOf s = decide (p.length ≤ s.length ∧ s.take p.length = p) := by
  rw [Bool.eq_iff_iff, List.isPrefixOf_iff_prefix, decide_eq_true_iff, List.prefix_iff_eq_take]
  constructor
  · intro h
    refine ⟨?_, h.symm⟩
    rw [h, List.length_take]; omega
  · exact fun h => h.2.symm

attribute [local go_sem] ba_take in
theorem slHasPrefix_any (s p : Bytes) (w : World) (_hs : s.length ≤ 1000000000) (_hp : p.length ≤ 1000000000) : Calls Tryz.prog 157 #[.string ⟨s.toArray⟩, .string ⟨p.toArray⟩] w fun e w' => e = .returned (.bool (p.isPrefixOf s)) ∧ w = w' := by
  have H := Lib.hid (isPrefix_take p s)
  generalize p.isPrefixOf s = b at *
  by_cases hl : p.length ≤ s.length
  · have hl' : (p.length : Int) ≤ s.length := by omega
    have HB : Hid (b = (s.take p.length == p)) := Lib.hid (by rw [H.out, Bool.eq_iff_iff]; simp [hl])
    clear H
    go_enter Tryz.func157, Tryz.ntmps157
    go_wp2
    go_ret
    refine ⟨?_, rfl⟩
    rw [HB.out]
    rfl
  · have hl' : ¬ (p.length : Int) ≤ s.length := by omega
    have HB : Hid (b = false) := Lib.hid (by rw [H.out]; simp [hl])
    clear H
    go_enter Tryz.func157, Tryz.ntmps157
    go_wp2
    go_ret
    exact ⟨by rw [HB.out]; rfl, rfl⟩
theorem hasPrefix_any (s p : Bytes) (w : World) (hs : s.length ≤ 1000000000) (hp : p.length ≤ 1000000000) : Calls Tryz.prog 151 #[.string ⟨s.toArray⟩, .string ⟨p.toArray⟩] w fun e w' => e = .returned (.bool (p.isPrefixOf s)) ∧ w = w' := by
  go_enter Tryz.func151, Tryz.ntmps151
  go_wp2_with fail
  refine (slHasPrefix_any s p w hs hp).mono ?_
  rintro e w' ⟨rfl, rfl⟩
  go_wp2
  go_ret
  exact ⟨rfl, rfl⟩

def beginV (b : Nat) : Value := .func (.func 150) #[] #[.pointer (some ⟨b + 1, 0, none⟩), .pointer (some ⟨b, 0, none⟩)]
theorem begun_any (x : Bytes) (A : Option Addr) (m c : Nat) (w : World) (hs : x.length ≤ 100000) :
    Calls Tryz.prog 130 #[.string ⟨x.toArray⟩, .slice A m c] w fun e w' => e = .returned (beginV w.heap.size) ∧ w'.heap[w.heap.size]? = some (.cells #[.string ⟨(lowerF x).toArray⟩] 9 (0, 0)) ∧ w'.heap[w.heap.size + 1]? = some (.cells #[.slice A m c] 27 (0, 0)) ∧ Below w.heap.size w w' := by
  unfold beginV
  go_enter Tryz.func130, Tryz.ntmps130
  go_wp2_with fail
  refine (lower_any x _ hs).mono ?_
  rintro e w1 ⟨rfl, hb1⟩
  have b0 : Boxed w1 w.heap.size 9 (.string ⟨x.toArray⟩) := (hb1.block _ (by simp; omega)).trans ((Boxed.new w _ _).alloc _)
  have b1 : Boxed w1 (w.heap.size + 1) 27 (.slice A m c) := (hb1.block _ (by simp)).trans (by have := Boxed.new (w.alloc (.cells #[.string ⟨x.toArray⟩] 9)) 27 (.slice A m c); rwa [World.size_alloc] at this)
  have hB : Below w.heap.size w w1 := (((Below.refl _ w).alloc (Nat.le_refl _) _).alloc (by simp) _).trans (hb1.mono (by simp; omega))
  have c0 := b0.cell
  have f0 := b0.frozen
  go_wp2
  go_ret
  exact ⟨by simp, b0.set _, b1.kept (grownBy_setCell' _ _ _) (by simp), hB.setCell (p := ⟨w.heap.size, 0, none⟩) (Nat.le_refl _) _⟩

def encH (x : Nat × Bool) : Array Value := #[.int .i64 x.1, .bool x.2]
/-- What a round keeps: all below n₀, and the blocks of what the iterator has captured. -/
def keepF (n₀ b : Nat) (A C : World) : Prop := Below n₀ A C ∧ C.heap[b]? = A.heap[b]? ∧ C.heap[b + 1]? = A.heap[b + 1]?

set_option maxHeartbeats 2000000 in
set_option maxRecDepth 100000 in
theorem begun1_seq (x : Bytes) (ls : List Bytes) (A : Option Addr) (c b n : Nat) (w0 w : World) (hx : x.length ≤ 100000) (hls : ∀ y ∈ ls, y.length ≤ 100000) (hS : Strs 0 w0 (.slice A ls.length c) ls) (h0w : Below w0.heap.size w0 w) (hb : w.heap[b]? = some (.cells #[.string ⟨x.toArray⟩] 9 (0, 0)))
    (hb1 : w.heap[b + 1]? = some (.cells #[.slice A ls.length c] 27 (0, 0))) (_hn : w0.heap.size ≤ b) :
    SeqV Fence.wide n Tryz.prog 150 #[.pointer (some ⟨b + 1, 0, none⟩), .pointer (some ⟨b, 0, none⟩)] encH (keepF w0.heap.size b) (fun A C => A.grownBy C (some b)) (fun xs => xs = hits x 0 ls) (fun pre => pre <+: hits x 0 ls) (hits x 0 ls).length w := by
  intro l J Jx W hW hlt hJ hJx hY h0
  have hbl : b + 1 < w.heap.size := (Array.getElem?_eq_some_iff.1 hb1).1
  have hbW := (hW.block b (by omega)).trans hb
  have hbW1 := (hW.block (b + 1) (by omega)).trans hb1
  have cs1 : W.cell? ⟨b + 1, 0, none⟩ = some (.slice A ls.length c) := by rw [Lib.cell_of_heap hbW1]; rfl
  have hlm : ls.length ≤ 9223372036854775807 := by obtain ⟨_, _, _, h1, h2, _⟩ := hS; unfold maxLen at h2; omega
  have h0W : Below w0.heap.size w0 W := h0w.trans (hW.mono h0w.size)
  refine callsIn_of_wp Tryz.func150 rfl trivial ?_ rfl
  simp only [Tryz.ntmps150, List.size_toArray, List.length_cons, List.length_nil, Nat.reduceAdd, Nat.reduceSub, Array.replicate_succ, Array.replicate_zero, List.push_toArray, List.append_toArray, List.nil_append, List.cons_append]
  gi_wp2
  clear cs1
  gi_loopg [8] (ls.length) (fun g v wr => ∃ (k : Nat) (pre : List (Nat × Bool)), k ≤ ls.length ∧ ls.length - k ≤ g ∧ v = .int .i64 k ∧ hits x 0 ls = pre ++ hits x k (ls.drop k) ∧ Below w0.heap.size w0 wr ∧ wr.heap[b]? = some (.cells #[.string ⟨x.toArray⟩] 9 (0, 0)) ∧ wr.heap[b + 1]? = some (.cells #[.slice A ls.length c] 27 (0, 0)) ∧ J pre wr)
  case atStart => exact ⟨0, [], by omega, by omega, rfl, rfl, h0W, hbW, hbW1, h0⟩
  case round =>
    obtain ⟨k, pre, hk, hg, rfl, hp, hbr, hr0, hr1, hj⟩ := hrel
    have HP := Lib.hid hp
    clear hp
    by_cases hlk : k < ls.length
    · have hli : (k : Int) < ls.length := by omega
      have hSr := hS.below hbr
      obtain ⟨bk, o, rfl, hbk, hcell⟩ := strs_at hSr hlk
      have hyl := hls ls[k] (List.getElem_mem hlk)
      have HD := Lib.hid (List.drop_eq_getElem_cons hlk)
      generalize hye : ls[k] = y at *
      have HYE := Lib.hid hye
      clear hye
      have hll : (lowerF y).length = y.length := by simp [lowerF]
      gi_wp2_with fail
      refine wide_call (lower_any y _ hyl) ?_
      rintro e w1 ⟨rfl, hb1⟩
      have hr0' := (hb1.block b (Array.getElem?_eq_some_iff.1 hr0).1).trans hr0
      have hr1' := (hb1.block (b + 1) (Array.getElem?_eq_some_iff.1 hr1).1).trans hr1
      have hbr' := hbr.trans (hb1.mono hbr.size)
      have hj' : J pre w1 := hJ _ _ _ hj (only_below hb1 _)
      have hc0 : w1.cell? ⟨b, 0, none⟩ = some (.string ⟨x.toArray⟩) := by rw [Lib.cell_of_heap hr0']; rfl
      clear hr0 hr1 hbr hj hcell hSr hbk hb1
      have hit : ∀ (h : Bool), (decide (x.isEmpty = false ∧ x.isPrefixOf (lowerF y) = true)) = h → hits x k (ls.drop k) = if h then (k, lowerF y == x) :: hits x (k + 1) (ls.drop (k + 1)) else hits x (k + 1) (ls.drop (k + 1)) := fun h hh => by
        rw [HD.out, hits]
        cases h
        · rw [if_neg (of_decide_eq_false hh)]; rfl
        · rw [if_pos (of_decide_eq_true hh)]; rfl
      have HIT := Lib.hid hit
      clear hit
      cases hw : x.isEmpty with
      | true =>
        have HN := HIT.out false (by rw [hw]; rfl)
        have HN' := Lib.hid HN
        clear HN
        gi_wp2_with fail
        refine ⟨trivial, ?_⟩
        gi_wp2_with fail
        refine ⟨fun f h => (by cases h), ?_⟩
        gi_wp2_with fail
        go_roundg (ls.length - (k + 1))
        case measure => omega
        case rel => exact ⟨k + 1, pre, by omega, by omega, by go_num, by rw [HP.out, HN'.out]; rfl, hbr', hr0', hr1', hj'⟩
      | false =>
        cases hpf : x.isPrefixOf (lowerF y) with
        | false =>
          have HN := HIT.out false (by rw [hw, hpf]; rfl)
          have HN' := Lib.hid HN
          have hpx := hasPrefix_any (lowerF y) x w1 (by omega) (by omega)
          rw [hpf] at hpx
          clear HN
          gi_wp2_with fail
          refine wide_call hpx ?_
          rintro e w2 ⟨rfl, rfl⟩
          gi_wp2_with fail
          refine ⟨fun f h => (by cases h), ?_⟩
          gi_wp2_with fail
          go_roundg (ls.length - (k + 1))
          case measure => omega
          case rel => exact ⟨k + 1, pre, by omega, by omega, by go_num, by rw [HP.out, HN'.out]; rfl, hbr', hr0', hr1', hj'⟩
        | true =>
          have HN := HIT.out true (by rw [hw, hpf]; rfl)
          have HN' := Lib.hid HN
          have hpx := hasPrefix_any (lowerF y) x w1 (by omega) (by omega)
          rw [hpf] at hpx
          have HPL := Lib.hid (congrArg List.length HP.out)
          clear HN
          gi_wp2_with fail
          refine wide_call hpx ?_
          rintro e w2 ⟨rfl, rfl⟩
          obtain ⟨fn, tmps, assign, body, hy, hR⟩ := hY pre (k, lowerF y == x) w1 hj' (by rw [HPL.out, HN'.out]; simp) (by rw [HP.out, HN'.out]; exact ⟨hits x (k + 1) (ls.drop (k + 1)), by simp⟩)
          dsimp only [encH] at hy
          gi_wp2_with fail
          refine ⟨fun h => absurd h (by decide), hR.mono ?_⟩
          rintro e W' (⟨rfl, hJ', hk'⟩ | ⟨rfl, hJx'⟩)
          · have h0' := hk'.2.1.trans hr0'
            have h1' := hk'.2.2.trans hr1'
            have hB' := hbr'.trans hk'.1
            clear hk'
            gi_wp2_with fail
            go_roundg (ls.length - (k + 1))
            case measure => omega
            case rel => exact ⟨k + 1, pre ++ [(k, lowerF y == x)], by omega, by omega, by go_num, by rw [HP.out, HN'.out]; simp, hB', h0', h1', hJ'⟩
          · gi_wp2_with fail
            refine bodyPost_ret (results_none rfl _ _ _) rfl ?_
            exact ⟨⟨_, rfl⟩, .inr ⟨pre ++ [(k, lowerF y == x)], by rw [HP.out, HN'.out]; exact ⟨hits x (k + 1) (ls.drop (k + 1)), by simp⟩, hJx'⟩⟩
    · obtain rfl : k = ls.length := by omega
      gi_wp2_with fail
      refine bodyPost_end (results_none rfl _ _ _) rfl ?_
      exact ⟨⟨_, rfl⟩, .inl ⟨pre, by rw [HP.out, List.drop_length]; simp [hits], hj⟩⟩

end Go.Proofs.YtgofleplmnibbaaGreatDoor
