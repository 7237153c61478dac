/-
  A range over a function whose iterator ranges over another one itself, and hands on from there: the law for the caller, where a round that is left keeps its word, too.
-/
import Derived.Test.YtgofleplmnibbaaGreatDoorRange
namespace Go.Proofs.YtgofleplmnibbaaGreatDoor
open Go.RowKit Go.Shelf

/-- A round may be handed on from within another one. -/
theorem yieldAt_wide {m m' : Nat} {P : Program} {l l' : Nat} {args : Array Value} {W : World} {R : Ending → World → Prop} (h : YieldAt Fence.wide m P l args W R) : YieldAt (Fence.wide.inRound l') m' P l args W R := by
  obtain ⟨fn, tmps, assign, body, hy, hR⟩ := h
  exact ⟨fn, tmps, assign, body, hy, hR.1, fun c cs _ => hR.2 c cs (room_wide _)⟩

theorem round_call {n l : Nat} {P : Program} {f : FuncId} {args : Array Value} {w : World} {R R' : Ending → World → Prop} (h : Calls P f args w R) (hr : ∀ e w', R e w' → R' e w') :
    Fence.wide.fn f ∧ (Fence.wide.depth.isSome = true → 1 ≤ n) ∧ CallsIn (Fence.wide.inRound l) (n - 1) P f args w R' := ⟨trivial, (fun h => absurd h (by decide)), ((callsIn_wide.2 h).mono hr).inRound l⟩

/-- What an iterator's value gives: its rounds get encs x, one behind the other; Pv: the iterator's own steps, that the caller's words J and Jx bear; Kp: what a round that goes on keeps; S: all have come; Sp: a part has come. -/
def SeqK {α : Type} (F : Fence) (n : Nat) (P : Program) (g : Nat) (lb : Array Value) (encs : α → Array Value) (Kp Pv : World → World → Prop) (S Sp : List α → Prop) (N : Nat) (w : World) : Prop :=
  ∀ (l : Nat) (J Jx : List α → World → Prop) (W : World), Below w.heap.size w W → w.heap.size + 2 ≤ W.heap.size →
    (∀ s A C, J s A → Pv A C → J s C) → (∀ s A C, Jx s A → Pv A C → Jx s C) →
    (∀ pre x W1, J pre W1 → pre.length < N → Sp (pre ++ [x]) → YieldAt F (n - 1) P l (encs x) W1 fun e W' =>
      (e = .returned (.bool true) ∧ J (pre ++ [x]) W' ∧ Kp W1 W') ∨ (e = .returned (.bool false) ∧ Jx (pre ++ [x]) W' ∧ Kp W1 W')) →
    J [] W →
    CallsIn F n P g (#[.func (.yield l) #[] #[]] ++ lb) W fun e W' => (∃ v, e = .returned v) ∧ ((∃ xs, S xs ∧ J xs W') ∨ (∃ pre, Sp pre ∧ Jx pre W'))

/-- How a round's body may be left. -/
def roundPostK {α : Type} (B : Nat) (Kp : World → World → Prop) (I : List α → World → Prop) (Ix : Code → List α → World → Prop) (xs : List α) (W : World) : Exit → Act → World → Prop
  | .normal, _, W' => KeepsFrom B W W' ∧ Kp W W' ∧ I xs W'
  | .ret, _, W' => KeepsFrom B W W' ∧ Kp W W' ∧ Ix .ret xs W'
  | .exit id, _, W' => KeepsFrom B W W' ∧ Kp W W' ∧ Ix (.exit id) xs W'
  | .goto t, _, W' => KeepsFrom B W W' ∧ Kp W W' ∧ Ix (.goto t) xs W'
  | .panic _, _, _ => False
  | .outgrown, _, _ => False

variable {F : Fence} {n : Nat} {P : Program}

theorem wpIn_rangeK {α : Type} {g : Operand} {ps : Array Tmp} {assign body : Code} {Q : Exit → Act → World → Prop} {a : Act} {w : World}
    (hro : F.round = none) (h1 : 1 ≤ n) {gf : Nat} {lb : Array Value} (hg : a.eval g = .func (.func gf) #[] lb) (hFg : F.fn gf) (eg : ∀ args w, (callFunc gf args).run P w = .ok (.enter gf args) w)
    {encs : α → Array Value} {Kp Pv : World → World → Prop} {S Sp : List α → Prop} {N : Nat} (hseq : SeqK F (n - 1) P gf lb encs Kp Pv S Sp N w)
    (hKt : ∀ {A B C : World}, Kp A B → Kp B C → Kp A C) (hKb : ∀ (W : World) (o o' : Obj), W.heap[w.heap.size + 1]? = some o → o.isCells = false → Kp W (W.putObj (w.heap.size + 1) o'))
    (hPv : ∀ A C, Pv A C → w.heap.size + 2 ≤ A.heap.size → C.heap[w.heap.size]? = A.heap[w.heap.size]? ∧ C.heap[w.heap.size + 1]? = A.heap[w.heap.size + 1]?) (hps : ∀ x, (encs x).size = ps.size)
    (I : List α → World → Prop) (Ix : Code → List α → World → Prop) (hIv : ∀ s A C, I s A → Pv A C → I s C) (hIxv : ∀ c s A C, Ix c s A → Pv A C → Ix c s C)
    (hI : OwnFrom w.heap.size I) (hIx : ∀ c, OwnFrom w.heap.size (Ix c)) (h0 : I [] w) (Ax : α → Act → World → Prop) (hAx : ∀ x a', OwnFrom w.heap.size (fun (_ : Unit) W => Ax x a' W))
    (hassign : ∀ (l : Nat) (pre : List α) (x : α) (W : World) (K : Act → World → Prop), I pre W → (∀ a' W', KeepsFrom w.heap.size W W' → Kp W W' → I pre W' → Ax x a' W' → K a' W') →
      assign.wpIn (F.inRound l) (n - 1 - 1) P (Exit.then K (fun _ _ _ => False)) { tmps := (ps.zip (encs x)).foldl (fun t (p, v) => t.setIfInBounds p v) a.tmps, defers := [] } W)
    (hbody : ∀ (l : Nat) (pre : List α) (x : α) (a' : Act) (W : World), I pre W → Ax x a' W → pre.length < N → Sp (pre ++ [x]) → body.wpIn (F.inRound l) (n - 1 - 1) P (roundPostK w.heap.size Kp I Ix (pre ++ [x]) W) a' W)
    (hdone : ∀ (D : Nat) (xs : List α) (W : World), w.heap.size ≤ D → S xs → I xs W → W.heap[D]? = some (.deferred (some [])) → Q .normal { a with defers := { target := .collected D, args := #[] } :: a.defers } W)
    (hstop : ∀ (D : Nat) (c : Code) (pre : List α) (W : World), w.heap.size ≤ D → Sp pre → Ix c pre W → W.heap[D]? = some (.deferred (some [])) → c.wpIn F n P Q { a with defers := { target := .collected D, args := #[] } :: a.defers } W) :
    (Code.rangeFunc g ps assign body).wpIn F n P Q a w := by
  refine wpIn_rangeFunc fun fn hfn => ?_
  rw [hro]
  -- the loop's record in its states; the two new blocks
  generalize hr0 : (fun st pe => ({ state := st, pending := pe, fn, tmps := a.tmps, params := ps, assign, body, defers := w.heap.size } : Loop)) = rec
  have hrec : ∀ st pe, rec st pe = { state := st, pending := pe, fn, tmps := a.tmps, params := ps, assign, body, defers := w.heap.size } := fun st pe => by rw [← hr0]
  let D := w.heap.size
  let L := w.heap.size + 1
  let W1 := (w.alloc (.deferred (some []))).alloc (.loop (rec .ready none))
  have hsz1 : W1.heap.size = w.heap.size + 2 := by simp [W1]
  have hL1 : W1.heap[L]? = some (.loop (rec .ready none)) := by
    have := World.alloc_heap_new (w.alloc (.deferred (some []))) (.loop (rec .ready none)); rwa [World.size_alloc] at this
  have hD1 : W1.heap[D]? = some (.deferred (some [])) := (Below.heap_alloc _ _ _ (by simp [D])).trans (World.alloc_heap_new w _)
  let Bk : LoopState → Option Code → World → Prop := fun st pe W => W.heap[L]? = some (.loop (rec st pe)) ∧ W.heap[D]? = some (.deferred (some []))
  have keepB : ∀ {st pe A C}, Bk st pe A → KeepsFrom w.heap.size A C → Bk st pe C := fun {st pe A C} h k =>
    ⟨k.same _ _ (by simp [L]) h.1 rfl, k.same _ _ (Nat.le_refl _) h.2 rfl⟩
  have keepP : ∀ {st pe A C}, Bk st pe A → Pv A C → Bk st pe C := fun {st pe A C} h p => by
    have hs : w.heap.size + 2 ≤ A.heap.size := (Array.getElem?_eq_some_iff.1 h.1).1
    obtain ⟨h1, h2⟩ := hPv A C p hs
    exact ⟨h2.trans h.1, h1.trans h.2⟩
  have putB : ∀ {st pe st' pe' A}, Bk st pe A → Bk st' pe' (A.putObj L (.loop (rec st' pe'))) := fun {st pe st' pe' A} h =>
    ⟨World.putObj_heap_same (Array.getElem?_eq_some_iff.1 h.1).1, (World.putObj_heap_other (by simp [L, D])).trans h.2⟩
  have rdy : ∀ st pe, ({ rec st pe with state := .busy } : Loop) = rec .busy pe := fun st pe => by rw [hrec, hrec]
  refine ⟨L, [{ target := .collected D, args := #[] }], W1, { target := .fn (.func gf) lb, args := #[.func (.yield L) #[] #[]] }, W1, gf, #[.func (.yield L) #[] #[]] ++ lb, W1, ?_, ?_, ?_, ?_, fun _ => h1, ?_⟩
  · have := run_enterLoop_outer (P := P) (w := w) fn a.tmps ps assign body
    rw [this]; simp only [L, D, W1, hrec]
  · simp only [resolve, hg]; simp [go_sem]
  · intro f' hf'; simp [Target.leads] at hf'; subst hf'; exact hFg
  · simp [invoke, go_sem, eg]
  · refine (hseq L (fun pre W => I pre W ∧ Bk .ready none W) (fun pre W => ∃ c, Ix c pre W ∧ Bk .done (some c) W) W1
      (((Below.refl _ w).alloc (Nat.le_refl _) _).alloc (by simp) _) (by omega)
      (fun s A C h hp => ⟨hIv s A C h.1 hp, keepP h.2 hp⟩) (fun s A C ⟨c, h, hb⟩ hp => ⟨c, hIxv c s A C h hp, keepP hb hp⟩)
      ?_ ⟨hI.alloc _ (hI.alloc _ h0), hL1, hD1⟩).mono ?_
    · -- a round
      rintro pre x W ⟨hi, hb⟩ hlen hsp
      have hy := run_yield (P := P) (args := encs x) hb.1 (by rw [hrec]; exact hps x)
      simp only [hrec] at hy
      refine ⟨fn, _, assign, body, hy, roundIn_of_wpIn hfn (hassign L pre x W _ hi ?_)⟩
      clear hy
      intro a' Wa hka hpa hia hax
      have hba := keepB hb hka
      refine ⟨_, run_beginRound hba.1 (by rw [hrec]), ?_⟩
      rw [rdy]
      have hbb : Bk .busy none (Wa.putObj L (.loop (rec .busy none))) := putB hba
      have hkb : Kp Wa (Wa.putObj L (.loop (rec .busy none))) := hKb _ _ _ hba.1 rfl
      refine wpIn_mono (hbody L pre x a' _ (hI.putObj _ hia (by simp [L]) hba.1 rfl) ((hAx x a').putObj (s := ()) _ hax (by simp [L]) hba.1 rfl) hlen hsp) ?_
      have fin : ∀ (jump : Option Code) (W3 : World), KeepsFrom w.heap.size (Wa.putObj L (.loop (rec .busy none))) W3 →
          Bk .busy none W3 ∧ (Instr.endRound L jump).run P W3 = .ok (.bool jump.isNone) (W3.putObj L (.loop (rec (if jump.isNone then .ready else .done) jump))) ∧
          Bk (if jump.isNone then .ready else .done) jump (W3.putObj L (.loop (rec (if jump.isNone then .ready else .done) jump))) := fun jump W3 hk3 => by
        have h3 := keepB hbb hk3
        have hrun := run_endRound (P := P) jump h3.1
        refine ⟨h3, ?_, putB h3⟩
        rw [hrun]; simp only [hrec]
      have out : ∀ (c : Code) (W3 : World), KeepsFrom w.heap.size (Wa.putObj L (.loop (rec .busy none))) W3 → Kp (Wa.putObj L (.loop (rec .busy none))) W3 → Ix c (pre ++ [x]) W3 →
          ∃ v W4, (Instr.endRound L (some c)).run P W3 = .ok v W4 ∧ ((Ending.returned v = .returned (.bool true) ∧ (I (pre ++ [x]) W4 ∧ Bk .ready none W4) ∧ Kp W W4) ∨ (Ending.returned v = .returned (.bool false) ∧ (∃ c, Ix c (pre ++ [x]) W4 ∧ Bk .done (some c) W4) ∧ Kp W W4)) := fun c W3 hk3 hkp3 hx3 => by
        obtain ⟨h3, hr3, h4⟩ := fin (some c) W3 hk3
        exact ⟨_, _, hr3, .inr ⟨rfl, ⟨c, (hIx c).putObj _ hx3 (by simp [L]) h3.1 rfl, h4⟩, hKt hpa (hKt (hKt hkb hkp3) (hKb _ _ _ h3.1 rfl))⟩⟩
      rintro e a3 W3 hp
      cases e with
      | normal =>
        obtain ⟨hk3, hkp3, hi3⟩ := hp
        obtain ⟨h3, hr3, h4⟩ := fin none W3 hk3
        exact ⟨_, _, hr3, .inl ⟨rfl, ⟨hI.putObj _ hi3 (by simp [L]) h3.1 rfl, h4⟩, hKt hpa (hKt (hKt hkb hkp3) (hKb _ _ _ h3.1 rfl))⟩⟩
      | ret => exact out .ret W3 hp.1 hp.2.1 hp.2.2
      | exit id => exact out (.exit id) W3 hp.1 hp.2.1 hp.2.2
      | goto t => exact out (.goto t) W3 hp.1 hp.2.1 hp.2.2
      | panic ch => exact hp.elim
      | outgrown => exact hp.elim
    · -- the iterator has returned
      rintro e W2 ⟨⟨v, rfl⟩, (⟨xs, hS, hi, hb⟩ | ⟨pre, hSp, c, hi, hb⟩)⟩
      · exact ⟨none, _, by have := run_endLoop (P := P) hb.1 (by rw [hrec]; simp); simp only [hrec] at this; exact this, hdone _ xs _ (Nat.le_refl _) hS (hI.putObj _ hi (by simp [L]) hb.1 rfl) ((World.putObj_heap_other (by simp [L, D])).trans hb.2)⟩
      · exact ⟨some c, _, by have := run_endLoop (P := P) hb.1 (by rw [hrec]; simp); simp only [hrec] at this; exact this, hstop _ c pre _ (Nat.le_refl _) hSp ((hIx c).putObj _ hi (by simp [L]) hb.1 rfl) ((World.putObj_heap_other (by simp [L, D])).trans hb.2)⟩

end Go.Proofs.YtgofleplmnibbaaGreatDoor
