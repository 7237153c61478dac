/-
  The variables of the library's and of the program's that are read: tables that nobody turns.
-/
import Derived.Test.YtgofleplmnibbaaGreatDoorBase
import Derived.Lib.Fold
namespace Go.Proofs.YtgofleplmnibbaaGreatDoor
open Go.RowKit Go.Shelf

/-- The months, the days of a week: their bytes. -/
def monthNames : List (List UInt8) := [[74, 97, 110, 117, 97, 114, 121], [70, 101, 98, 114, 117, 97, 114, 121], [77, 97, 114, 99, 104], [65, 112, 114, 105, 108], [77, 97, 121], [74, 117, 110, 101], [74, 117, 108, 121], [65, 117, 103, 117, 115, 116], [83, 101, 112, 116, 101, 109, 98, 101, 114], [79, 99, 116, 111, 98, 101, 114], [78, 111, 118, 101, 109, 98, 101, 114], [68, 101, 99, 101, 109, 98, 101, 114]]
def weekdayNames : List (List UInt8) := [[83, 117, 110, 100, 97, 121], [77, 111, 110, 100, 97, 121], [84, 117, 101, 115, 100, 97, 121], [87, 101, 100, 110, 101, 115, 100, 97, 121], [84, 104, 117, 114, 115, 100, 97, 121], [70, 114, 105, 100, 97, 121], [83, 97, 116, 117, 114, 100, 97, 121]]
def signNames : List (List UInt8) := [[], [], [62, 61], [60, 61]]
/-- SimpleFold's tables. -/
def foldTab : List Int := [0, 1, 2, 3, 4, 5, 6, 7, 8, 9, 10, 11, 12, 13, 14, 15, 16, 17, 18, 19, 20, 21, 22, 23, 24, 25, 26, 27, 28, 29, 30, 31, 32, 33, 34, 35, 36, 37, 38, 39, 40, 41, 42, 43, 44, 45, 46, 47, 48, 49, 50, 51, 52, 53, 54, 55, 56, 57, 58, 59, 60, 61, 62, 63, 64, 97, 98, 99, 100, 101, 102, 103, 104, 105, 106, 107, 108, 109, 110, 111, 112, 113, 114, 115, 116, 117, 118, 119, 120, 121, 122, 91, 92, 93, 94, 95, 96, 65, 66, 67, 68, 69, 70, 71, 72, 73, 74, 8490, 76, 77, 78, 79, 80, 81, 82, 383, 84, 85, 86, 87, 88, 89, 90, 123, 124, 125, 126, 127]
def orbitTab : List (Int × Int) := [(75, 107), (83, 115), (107, 8490), (115, 383), (181, 924), (197, 229), (223, 7838), (229, 8491), (304, 304), (305, 305), (383, 83), (452, 453), (453, 454), (454, 452), (455, 456), (456, 457), (457, 455), (458, 459), (459, 460), (460, 458), (497, 498), (498, 499), (499, 497), (837, 921), (912, 8147), (914, 946), (917, 949), (920, 952), (921, 953), (922, 954), (924, 956), (928, 960), (929, 961), (931, 962), (934, 966), (937, 969), (944, 8163), (946, 976), (949, 1013), (952, 977), (953, 8126), (954, 1008), (956, 181), (960, 982), (961, 1009), (962, 963), (963, 931), (966, 981), (969, 8486), (976, 914), (977, 1012), (981, 934), (982, 928), (1008, 922), (1009, 929), (1012, 920), (1013, 917), (1042, 1074), (1044, 1076), (1054, 1086), (1057, 1089), (1058, 1090), (1066, 1098), (1074, 7296), (1076, 7297), (1086, 7298), (1089, 7299), (1090, 7300), (1098, 7302), (1122, 1123), (1123, 7303), (7296, 1042), (7297, 1044), (7298, 1054), (7299, 1057), (7300, 7301), (7301, 1058), (7302, 1066), (7303, 1122), (7304, 42570), (7776, 7777), (7777, 7835), (7835, 7776), (7838, 223), (8126, 837), (8147, 912), (8163, 944), (8486, 937), (8490, 75), (8491, 197), (42570, 42571), (42571, 7304), (64261, 64262), (64262, 64261)]
def clockLetters : List (List UInt8) := [[119], [115], [117, 103, 122]]
/-- A variable that is an array of texts. -/
def Texts (g : Nat) (l : List (List UInt8)) (w : World) : Prop := ∀ i x, l[i]? = some x → w.cell? ⟨g, i, none⟩ = some (.string ⟨x.toArray⟩)
structure GFacts (w : World) : Prop where
  maxLen : ∃ m, w.cell? ⟨4, 0, none⟩ = some (.int .i64 m)
  tabs : Lib.Utf8Tabs 8 9 w
  pow10 : Lib.TabIs Tryz.prog w "internal/strconv.uint64pow10" .u64 Lib.pow10Tab
  synt : ∃ te pe, w.cell? ⟨10, 0, none⟩ = some (.iface te pe)
  rang : ∃ te pe, w.cell? ⟨11, 0, none⟩ = some (.iface te pe)
  months : Texts 0 monthNames w
  weekdays : Texts 3 weekdayNames w
  signs : Texts 1 signNames w
  letters : Texts 2 clockLetters w
  fold : ∀ i x, foldTab[i]? = some x → w.cell? ⟨5, i, none⟩ = some (.int .u16 x)
  orbit : ∃ b o c, w.cell? ⟨6, 0, none⟩ = some (.slice (some ⟨b, o, none⟩) 94 c) ∧ ∀ i x, orbitTab[i]? = some x → w.cell? ⟨b, o + i * 2, none⟩ = some (.int .u16 x.1) ∧ w.cell? ⟨b, o + (i * 2 + 1), none⟩ = some (.int .u16 x.2)
/-- They hold in w, and in whatever world leaves what lies below some block alone. -/
def Glob (w : World) : Prop := ∃ B, B ≤ w.heap.size ∧ ∀ w', Below B w w' → GFacts w'
theorem Glob.facts {w : World} (h : Glob w) : GFacts w := by
  obtain ⟨B, _, h⟩ := h
  exact h w (Below.refl _ _)
theorem Glob.below' {w w' : World} (h : Glob w) (hb : Below w.heap.size w w') : Glob w' := by
  obtain ⟨B, h2, h⟩ := h
  exact ⟨B, Nat.le_trans h2 hb.size, fun w'' h' => h w'' ((hb.mono h2).trans h')⟩
theorem Glob.alloc {w : World} (h : Glob w) (o : Obj) : Glob (w.alloc o) := h.below' ((Below.refl _ _).alloc (Nat.le_refl _) o)
theorem Glob.drew {w : World} (h : Glob w) : Glob w.drew := h.below' (Below.refl _ _).drew
theorem Glob.drewN {w : World} (h : Glob w) (n : Nat) : Glob (w.drewN n) := h.below' (below_drewN (Below.refl _ _) n)

end Go.Proofs.YtgofleplmnibbaaGreatDoor
