/-
  A region that draws its order, within a round.
-/
import Derived.Test.YtgofleplmnibbaaGreatDoorRangeK
import Derived.Sort.QuietIn
namespace Go.Proofs.YtgofleplmnibbaaGreatDoor
open Go.RowKit Go.Shelf

theorem wpOps_round {F : Fence} {n : Nat} {P : Program} {ops : Array Oper} {Q : Exit → Act → World → Prop} (l0 : Nat) (hro : F.round = none) (hd : ∀ (i : Nat) (o : Oper), ops[i]? = some o → ∀ c, o.op ≠ .defer c) :
    ∀ (is : List Nat) (a : Act) (w : World), wpOpsIn F n P ops Q is a w → wpOpsIn (F.inRound l0) n P ops Q is a w
  | [], _, _, h => h
  | i :: rest, a, w, h => by
    unfold wpOpsIn at *
    cases ho : ops[i]? with
    | none =>
      simp only [ho] at h
      exact wpOps_round l0 hro hd rest a w h
    | some o =>
      simp only [ho] at h
      simp only
      by_cases hw : Region.wanted o (yielded ops a.tmps) = true
      · rw [if_pos hw] at h ⊢
        have h2 := Oper.wpIn_mono (fun a w => wpOps_round l0 hro hd rest a w) h
        unfold Oper.wpIn at h2 ⊢
        rw [hro, Oper.semAt_none] at h2
        rw [Fence.inRound_round, Oper.semAt_some _ _ _ (hd i o ho)]
        exact h2
      · rw [if_neg hw] at h ⊢
        exact ⟨h.1, wpOps_round l0 hro hd rest _ w h.2⟩

def isDef : Op → Bool
  | .defer _ => true
  | _ => false
theorem no_defer {l : List Oper} (h : (l.all fun o => !isDef o.op) = true) : ∀ (i : Nat) (o : Oper), l.toArray[i]? = some o → ∀ c, o.op ≠ .defer c := by
  intro i o hi c e
  rw [List.getElem?_toArray] at hi
  have := (List.all_eq_true.1 h) o (List.mem_of_getElem? hi)
  rw [e] at this
  cases this

/-- One walk of the lexical order serves every order, in a round, too. -/
theorem wpIn_region_quiet_round {F : Fence} {n : Nat} {P : Program} {id : Nat} {Q : Exit → Act → World → Prop} {a : Act} {w : World} {l : List Oper} (l0 : Nat) (hro : F.round = none) (hm : P.follows .mixedOrders = true) (hB : Region.lexB .any l.toArray = true)
    (hd : ∀ (i : Nat) (o : Oper), l.toArray[i]? = some o → ∀ c, o.op ≠ .defer c)
    (h : wpQuietIn F n P l.toArray (fun w' => ∃ n, w' = w.drewN n) (fun a' => ∀ w', (∃ n, w' = w.drewN n) → Q .normal a' w') l a) : (Code.region id l.toArray true).wpIn (F.inRound l0) n P Q a w := by
  refine wpIn_region_draw fun t => wpOps_round l0 hro hd _ _ _ ?_
  simp only [Region.schedule, hm, Bool.true_or, if_true]
  refine wpAnyIn_sound _ t _ a _ ?_
  simp only [Region.lexB, Bool.and_eq_true] at hB
  refine wpAnyIn_of_quiet (C := fun w' => ∃ n, w' = w.drewN n) (Q := fun a' => ∀ w', (∃ n, w' = w.drewN n) → Q .normal a' w') hro (fun _ w' hw' h => h w' hw') _ _ _ _ ⟨1, rfl⟩ ?_
  have := wpAnyQIn_lex (F := F) (n := n) (C := fun w' => ∃ n, w' = w.drewN n) (md := .any) hB.1 l 0 (Array.replicate l.toArray.size false) a (by simp) (by simpa using hB.2) h
  simpa using this

end Go.Proofs.YtgofleplmnibbaaGreatDoor
