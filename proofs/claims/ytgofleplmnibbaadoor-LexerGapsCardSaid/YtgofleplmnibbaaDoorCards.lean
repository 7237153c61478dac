/-
  DERIVED. GIVEN WITH THE SEED: THE CARDS: each row of YtgofleplmnibbaaDoorRows.lean that lists a variable, with what it lists TIED to the program's text (the seventh form; the later family's looks); each row that meets fmt, with fmt's text TOLD by the authors' own Lean function (tested against real Go, not proved from fmt's source: count such statements apart). THE CARD IS WHAT COUNTS. Prove the row's statement (the work); the ties are given (YtgofleplmnibbaaDoorTie.lean); close each card by the builder's one call (the guide's Derived/Test/ToyasCard.lean, 'card_holds'). Laid BY PROGRAM, IN A SANDBOX (cutbox-door.mjs). By AI agents, Wed Nov 11 2026. No macro, syntax, notation, axiom, sorry.
-/
import Derived.Test.YtgofleplmnibbaaDoorRows
import GoSem.ClaimSeven
namespace Go.Proofs.YtgofleplmnibbaaDoor
namespace Rows

/-- THE TIED CARD OF 'meridianlaw07.LexerJoins'. -/
def lexerJoinsCard : Claim7 := { stood := { row := lexerJoinsRow, standIns := [], harness := (true, "2225e12581c75288f7285683e1b639bd5a2d87c141dbbb159d1e26a2adcc815d"), looks := false }, kinds := [], alts := [], laidByText := true, laidKinds := [.data, .pinned], laidTests := true, laidLooks := .later }
def LexerJoinsCardSaid : Prop := Claim7.holds Tryd.pinned (.plain (OpenSpec.ofChange lexerJoinsSpec)) lexerJoinsCard

/-- THE TIED CARD OF 'meridianlaw07.LexerGaps'. -/
def lexerGapsCard : Claim7 := { stood := { row := lexerGapsRow, standIns := [], harness := (true, "2225e12581c75288f7285683e1b639bd5a2d87c141dbbb159d1e26a2adcc815d"), looks := false }, kinds := [], alts := [], laidByText := true, laidKinds := [.data, .pinned], laidTests := true, laidLooks := .later }
def LexerGapsCardSaid : Prop := Claim7.holds Tryd.pinned (.plain (OpenSpec.ofChange lexerGapsSpec)) lexerGapsCard

/-- THE TIED CARD OF 'meridianlaw07.LexerOnce'. -/
def lexerOnceCard : Claim7 := { stood := { row := lexerOnceRow, standIns := [], harness := (true, "2225e12581c75288f7285683e1b639bd5a2d87c141dbbb159d1e26a2adcc815d"), looks := false }, kinds := [], alts := [], laidByText := true, laidKinds := [.data, .pinned], laidTests := true, laidLooks := .later }
def LexerOnceCardSaid : Prop := Claim7.holds Tryd.pinned (.plain (OpenSpec.ofChange lexerOnceSpec)) lexerOnceCard

/-- THE SECOND FORM's CARD OF 'meridianlaw07.LexerJoins'. -/
def lexerJoinsUptoCard : Claim7 := { stood := { row := lexerJoinsUptoRow, standIns := [], harness := (true, "2225e12581c75288f7285683e1b639bd5a2d87c141dbbb159d1e26a2adcc815d"), looks := false }, kinds := [], alts := [], laidByText := true, laidKinds := [.data, .pinned], laidTests := true, laidLooks := .later }
def LexerJoinsUptoCardSaid : Prop := Claim7.holds Tryd.pinned (.plain (OpenSpec.upto lexerJoinsSpec)) lexerJoinsUptoCard

/-- THE SECOND FORM's CARD OF 'meridianlaw07.LexerGaps'. -/
def lexerGapsUptoCard : Claim7 := { stood := { row := lexerGapsUptoRow, standIns := [], harness := (true, "2225e12581c75288f7285683e1b639bd5a2d87c141dbbb159d1e26a2adcc815d"), looks := false }, kinds := [], alts := [], laidByText := true, laidKinds := [.data, .pinned], laidTests := true, laidLooks := .later }
def LexerGapsUptoCardSaid : Prop := Claim7.holds Tryd.pinned (.plain (OpenSpec.upto lexerGapsSpec)) lexerGapsUptoCard

/-- THE SECOND FORM's CARD OF 'meridianlaw07.LexerOnce'. -/
def lexerOnceUptoCard : Claim7 := { stood := { row := lexerOnceUptoRow, standIns := [], harness := (true, "2225e12581c75288f7285683e1b639bd5a2d87c141dbbb159d1e26a2adcc815d"), looks := false }, kinds := [], alts := [], laidByText := true, laidKinds := [.data, .pinned], laidTests := true, laidLooks := .later }
def LexerOnceUptoCardSaid : Prop := Claim7.holds Tryd.pinned (.plain (OpenSpec.upto lexerOnceSpec)) lexerOnceUptoCard
end Rows
end Go.Proofs.YtgofleplmnibbaaDoor
