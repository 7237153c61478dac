/-
  What an era's words tell, by the references' words; the chapter's examples.
-/
import Derived.Test.YtgofleplmnibbaaGreatDoorRefD
namespace Go.Proofs.YtgofleplmnibbaaGreatDoor.Lex

def eraErL (ws : List Bytes) : List Int := ([(refOff (ws.getD 0 [])).2, if dashy (ws.getD 1 []) then (refOff (ws.getD 1 [])).2 else if refSet (ws.getD 1 []) then 0 else 23, if refForm (ws.getD 2 []) then 0 else 12, (refYear (ws.getD 3 [])).2, (refMonth (ws.getD 4 [])).2, (refDay (ws.getD 5 [])).2.2.2, (refClock (ws.getD 6 [])).2.2] : List Int).take ws.length
def eraOfR (ws : List Bytes) (en : Bool) : EraV := ⟨(refOff (ws.getD 0 [])).1, if dashy (ws.getD 1 []) then [] else ws.getD 1 [], if dashy (ws.getD 1 []) then (refOff (ws.getD 1 [])).1 else 0, ws.getD 2 [], en, (refYear (ws.getD 3 [])).1, (refMonth (ws.getD 4 [])).1, (refDay (ws.getD 5 [])).1, (refDay (ws.getD 5 [])).2.1, (refDay (ws.getD 5 [])).2.2.1, (refClock (ws.getD 6 [])).1, (refClock (ws.getD 6 [])).2.1⟩
theorem firstE_take (l : List Int) (n : Nat) (h : n ≤ l.length) : firstE (errs l) n = firstL (l.take n) := by
  rw [← firstE_list, List.length_take, Nat.min_eq_left h]
  refine firstE_congr fun i hi => ?_
  unfold errs
  rw [List.getD_eq_getElem?_getD, List.getD_eq_getElem?_getD, List.getElem?_take_of_lt hi]
theorem era_eq (ws : List Bytes) : eraN ws = if ws.length < 3 ∨ 7 < ws.length then (eraZ, 14)
    else if firstL (eraErL ws) = 0 then (if 3 < ws.length then eraAt (eraOfR ws true) 1 ws.length else eraAt (eraOfR ws false) 0 ws.length, 0) else (eraZ, firstL (eraErL ws)) := by
  unfold eraN
  by_cases h : ws.length < 3 ∨ 7 < ws.length
  · rw [if_pos h, if_pos h]
  · rw [if_neg h, if_neg h]
    have h1 : firstE (eraEr ws) ws.length = firstL (eraErL ws) := by
      unfold eraEr eraErL
      rw [off_eq, off_eq, refSet_eq, refForm_eq, yearL_eq, month_eq, day_eq, clock_eq]
      exact firstE_take _ _ (by simp only [List.length_cons, List.length_nil]; omega)
    have h2 : ∀ en, eraOf ws en = eraOfR ws en := by
      intro en
      unfold eraOf eraOfR
      rw [off_eq, off_eq, yearL_eq, month_eq, day_eq, clock_eq]
    rw [h1, h2, h2]
theorem link_eq (a b c : Bytes) : linkN [a, b, c] = if firstL [if refKindL a 3 then 0 else 13, if refName b then 0 else 23, if refName c then 0 else 23] = 0 then (b, c, 0) else ([], [], firstL [if refKindL a 3 then 0 else 13, if refName b then 0 else 23, if refName c then 0 else 23]) := by
  have h1 : firstE (linkEr a b c) 3 = firstL [if refKindL a 3 then 0 else 13, if refName b then 0 else 23, if refName c then 0 else 23] := by
    rw [← firstE_list]
    unfold linkEr
    rw [kindE_eq a 3 (by decide), refName_eq, refName_eq]
    rfl
  show (if firstE (linkEr a b c) 3 = 0 then (b, c, (0 : Int)) else ([], [], firstE (linkEr a b c) 3)) = _
  rw [h1]

/-! ### The chapter's examples -/
def wRule : List Bytes := [[82, 117, 108, 101], [69, 85], [49, 57, 56, 49], [109, 97, 120], [45], [77, 97, 114], [108, 97, 115, 116, 83, 117, 110], [49, 58, 48, 48, 117], [49, 58, 48, 48], [83]]
def wEra : List Bytes := [[49, 58, 48, 48], [69, 85], [67, 69, 37, 115, 84], [49, 57, 56, 48], [65, 112, 114], [54], [50, 58, 48, 48, 115]]
def wLink : List Bytes := [[76, 105, 110, 107], [69, 117, 114, 111, 112, 101, 47, 66, 101, 114, 108, 105, 110], [69, 117, 114, 111, 112, 101, 47, 79, 115, 108, 111]]
def vRule : RuleV := ⟨[69, 85], 1981, 1048576, 3, 1, 0, 0, 3600, 2, 3600, [83]⟩
def vEra : EraV := ⟨3600, [69, 85], 0, [67, 69, 37, 115, 84], true, 1980, 4, 0, 0, 6, 7200, 1⟩
theorem awake_rule : ruleN wRule = (vRule, 0) := by
  unfold wRule
  rw [rule_eq]
  kernel_rfl
theorem awake_era : eraN wEra = (vEra, 0) := by
  rw [era_eq]
  kernel_rfl
theorem awake_link : linkN wLink = ([69, 117, 114, 111, 112, 101, 47, 66, 101, 114, 108, 105, 110], [69, 117, 114, 111, 112, 101, 47, 79, 115, 108, 111], 0) := by
  unfold wLink
  rw [link_eq]
  kernel_rfl

end Go.Proofs.YtgofleplmnibbaaGreatDoor.Lex
