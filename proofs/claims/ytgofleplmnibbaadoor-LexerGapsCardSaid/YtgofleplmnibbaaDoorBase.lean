/-
  What the walks of this seat share: the world's own tables, what is below a block, strings.Builder's writers, Cut at a quote.
-/
import Derived.Test.YtgofleplmnibbaaDoorShelf
import Derived.WalkKit
import Derived.WalkSpells
import Derived.WalkLawsBesides
import Derived.Lib.Hide
import Derived.WalkMore
import Derived.Deep.LoopGhost
import Derived.Deep.QuietTactic
import Derived.BigQuiet
namespace Go.Proofs.YtgofleplmnibbaaDoor
open Go.RowKit Go.Shelf

/-! ### What is below a block, as the walk wants it -/
theorem bcell {W w1 : World} (hb : Below W.heap.size W w1) : (∀ b o, b < W.heap.size → w1.cell? ⟨b, o, none⟩ = W.cell? ⟨b, o, none⟩) ∧ (∀ b o, b < W.heap.size → w1.frozen? ⟨b, o, none⟩ = W.frozen? ⟨b, o, none⟩) :=
  ⟨fun b o h => hb.cell (p := ⟨b, o, none⟩) h, fun b o h => hb.frozen (p := ⟨b, o, none⟩) h⟩
theorem below_drewN {B : Nat} {a w : World} (h : Below B a w) (n : Nat) : Below B a (w.drewN n) := ⟨h.os, h.tape, h.output, h.size, h.block⟩

/-! ### The variables of the library's that are read -/
/-- How many package-level variables there are: each has a block, ahead of all others. -/
def NG : Nat := 2 + 1
structure GFacts (w : World) : Prop where
  maxLen : ∃ m, w.cell? ⟨0, 0, none⟩ = some (.int .i64 m)
  tabs : Lib.Utf8Tabs 1 2 w
/-- They hold in w, and in whatever world leaves the first blocks alone. -/
def Glob (w : World) : Prop := (∀ w', Below NG w w' → GFacts w') ∧ NG ≤ w.heap.size
theorem Glob.below {B : Nat} {w w' : World} (h : Glob w) (hb : Below B w w') (hB : NG ≤ B) : Glob w' :=
  ⟨fun w'' h' => h.1 w'' ((hb.mono hB).trans h'), Nat.le_trans h.2 hb.size⟩
theorem Glob.facts {w : World} (h : Glob w) : GFacts w := h.1 w (Below.refl _ _)
theorem Glob.below' {w w' : World} (h : Glob w) (hb : Below w.heap.size w w') : Glob w' := h.below hb h.2
theorem Glob.alloc {w : World} (h : Glob w) (o : Obj) : Glob (w.alloc o) := h.below' ((Below.refl _ _).alloc (Nat.le_refl _) o)
theorem Glob.drew {w : World} (h : Glob w) : Glob w.drew := h.below' (Below.refl _ _).drew
theorem Glob.drewN {w : World} (h : Glob w) (n : Nat) : Glob (w.drewN n) := h.below' (below_drewN (Below.refl _ _) n)

/-! ### strings.Builder -/
def bld_ren : Go.Shelf.Ren := { Tryd.lays156_ren with f := fun | 167 => 34 | n => Tryd.lays156_ren.f n }
theorem lays166 : Lays.n166 Tryd.prog Tryd.lays156_ren := { Tryd.lays156 with }
theorem lays167 : Lays.n167 Tryd.prog bld_ren := {
  mixed := Tryd.lays156.mixed
  f167 := Tryd.func34.trans (congrArg some (by kernel_rfl))
  f240 := Tryd.lays156.f240
  f276 := Tryd.lays156.f276
  t0 := Tryd.lays156.t0, a0 := Tryd.lays156.a0, z0 := Tryd.lays156.z0, v0 := Tryd.lays156.v0
  t4 := Tryd.lays156.t4, a4 := Tryd.lays156.a4, z4 := Tryd.lays156.z4, v4 := Tryd.lays156.v4
  t5 := Tryd.Builder_Extra_156.t5, a5 := Tryd.Builder_Extra_156.a5, z5 := Tryd.Builder_Extra_156.z5, v5 := Tryd.Builder_Extra_156.v5
  t9 := Tryd.lays156.t9, a9 := Tryd.lays156.a9, z9 := Tryd.lays156.z9, v9 := Tryd.lays156.v9
  t20 := Tryd.lays156.t20, a20 := Tryd.lays156.a20, z20 := Tryd.lays156.z20, v20 := Tryd.lays156.v20
  t37 := Tryd.lays156.t37, a37 := Tryd.lays156.a37, z37 := Tryd.lays156.z37, v37 := Tryd.lays156.v37
  t70 := Tryd.lays156.t70, a70 := Tryd.lays156.a70, z70 := Tryd.lays156.z70, v70 := Tryd.lays156.v70
  t72 := Tryd.lays156.t72, a72 := Tryd.lays156.a72, z72 := Tryd.lays156.z72, v72 := Tryd.lays156.v72
  t75 := Tryd.lays156.t75, a75 := Tryd.lays156.a75, z75 := Tryd.lays156.z75, v75 := Tryd.lays156.v75
  t164 := Tryd.lays156.t164, a164 := Tryd.lays156.a164, z164 := Tryd.lays156.z164, v164 := Tryd.lays156.v164 }
theorem bldExtra : Builder.Extra Tryd.prog bld_ren := { Tryd.Builder_Extra_156 with }

theorem writeString_any (B b : Nat) (bs : List Value) (s : ByteArray) (w : World) (h : Lib.IsBuilder 44 5 B b bs w) (hlen : bs.length + s.size ≤ 140737488355328) (hBw : B ≤ w.heap.size) :
    Calls Tryd.prog 17 #[.pointer (some ⟨b, 0, none⟩), .string s] w fun e w' => e = .returned (.tuple #[.int .i64 s.size, .nilIface]) ∧ (Lib.BuilderAt 44 5 B b (.pointer (some ⟨b, 0, none⟩)) (bs ++ Lib.strCells s) w' ∧ Below B w w') :=
  Any.Builder_WriteString lays166 Tryd.Builder_Extra_156 B b bs s w h hlen hBw
theorem writeByte_any (B b : Nat) (bs : List Value) (c : Int) (w : World) (h : Lib.IsBuilder 44 5 B b bs w) (hlen : bs.length + 1 ≤ 140737488355328) (hBw : B ≤ w.heap.size) :
    Calls Tryd.prog 34 #[.pointer (some ⟨b, 0, none⟩), .int .u8 c] w fun e w' => e = .returned .nilIface ∧ (Lib.BuilderAt 44 5 B b (.pointer (some ⟨b, 0, none⟩)) (bs ++ [.int .u8 c]) w' ∧ Below B w w') :=
  Any.Builder_WriteByte lays167 bldExtra B b bs c w h hlen hBw
theorem string_any (B b : Nat) (l : List UInt8) (w : World) (h : Lib.IsBuilder 44 5 B b (Lib.byteCells l) w) (hBw : B ≤ w.heap.size) :
    Calls Tryd.prog 18 #[.pointer (some ⟨b, 0, none⟩)] w fun e w' => e = .returned (.string ⟨l.toArray⟩) ∧ Below B w w' :=
  Any.Builder_String_any Tryd.lays169 Tryd.Builder_Extra_169 B b l w h hBw

theorem builder_new (w : World) : Lib.IsBuilder 44 5 w.heap.size w.heap.size (Lib.byteCells []) (w.alloc (.cells #[.pointer none, .slice none 0 0] 44)) := by
  exact .inl ⟨Nat.le_refl _, .slice none 0 0, heap_alloc_new w _, World.ownsRow_nil _ _ _ _, by simp [Value.ownBlock]⟩

theorem byteCells_app (a b : List UInt8) : Lib.byteCells (a ++ b) = Lib.byteCells a ++ Lib.strCells ⟨b.toArray⟩ := by simp [Lib.byteCells, Lib.strCells]
theorem byteCells_snoc (a : List UInt8) (c : UInt8) : Lib.byteCells (a ++ [c]) = Lib.byteCells a ++ [.int .u8 c.toNat] := by simp [Lib.byteCells]
theorem _root_.Go.Lib.IsBuilder.below {T e : TypeId} {B b B' : Nat} {bs : List Value} {w w' : World} (h : Lib.IsBuilder T e B b bs w) (hb : Below B' w w') (hB : w.heap.size ≤ B') : Lib.IsBuilder T e B b bs w' := by
  have key : ∀ p, Lib.BuilderAt T e B b p bs w → Lib.BuilderAt T e B b p bs w' := by
    rintro p ⟨h1, v, h2, h3, h4⟩
    have hlt : b < w.heap.size := Lib.BuilderAt.lt ⟨h1, v, h2, h3, h4⟩
    refine ⟨h1, v, (hb.block b (by omega)).trans h2, ?_, h4⟩
    exact h3.kept (row := none) ⟨hb.os, hb.tape, hb.output, hb.size, fun k hk _ => hb.block k (by omega)⟩ (by cases v.ownBlock <;> simp)
  rcases h with h | h
  · exact .inl (key _ h)
  · exact .inr (key _ h)

/-! ### Strings as lists of bytes -/
theorem u8_of {c d : UInt8} (h : c.toNat = d.toNat) : c = d := UInt8.toNat_inj.1 h
theorem ba_head (c : UInt8) (t : List UInt8) (h : 0 < (⟨(c :: t).toArray⟩ : ByteArray).size) : (⟨(c :: t).toArray⟩ : ByteArray)[0]'h = c := rfl
theorem ba_ext {a b : ByteArray} (h : a.data.toList = b.data.toList) : a = b := by
  cases a; cases b; simpa using h
theorem ba_tail (c : UInt8) (t : List UInt8) : (⟨(c :: t).toArray⟩ : ByteArray).extract 1 (⟨(c :: t).toArray⟩ : ByteArray).size = ⟨t.toArray⟩ := by
  apply ba_ext
  rw [Lib.extract_data]
  simp [ByteArray.size]
theorem ba_tail' (c : UInt8) (t : List UInt8) : (⟨(c :: t).toArray⟩ : ByteArray).extract 1 (t.length + 1) = ⟨t.toArray⟩ := ba_tail c t

theorem ba_get (x : List UInt8) (k : Nat) (h : k < (⟨x.toArray⟩ : ByteArray).size) : (⟨x.toArray⟩ : ByteArray)[k]'h = x[k]'(by simpa [ByteArray.size] using h) := rfl
theorem ba_app (a b : List UInt8) : (⟨a.toArray⟩ : ByteArray) ++ ⟨b.toArray⟩ = ⟨(a ++ b).toArray⟩ := by
  apply ba_ext
  simp
/-- '+' of two texts that fit. -/
theorem str_add {P : Program} (a b : List UInt8) (h : a.length + b.length ≤ 9223372036854775807) (W : World) :
    (Op.stringOp .add ⟨a.toArray⟩ ⟨b.toArray⟩).run P W = .ok (.string ⟨(a ++ b).toArray⟩) W := by
  have h' : ¬ (((⟨a.toArray⟩ : ByteArray).size + (⟨b.toArray⟩ : ByteArray).size : Nat) : Int) > IntKind.i64.max := by
    have : (IntKind.i64.max : Int) = 9223372036854775807 := by decide
    rw [this]
    simp [ByteArray.size]
    omega
  unfold Op.stringOp
  simp only [h', ↓reduceIte, ba_app]
  rfl

end Go.Proofs.YtgofleplmnibbaaDoor
