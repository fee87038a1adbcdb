/-
  DERIVED. GIVEN WITH THE SEED: THE CARDS: each row of YthepnjbefngooaaDoorRows.lean that lists a variable, with what it lists TIED to the program's text (the seventh form; the later family's looks); each row that meets fmt, with fmt's text TOLD by the authors' own Lean function (tested against real Go, not proved from fmt's source: count such statements apart). THE CARD IS WHAT COUNTS. Prove the row's statement (the work); the ties are given (YthepnjbefngooaaDoorTie.lean); close each card by the builder's one call (the guide's Derived/Test/ToyasCard.lean, 'card_holds'). Laid BY PROGRAM, IN A SANDBOX (cutbox-door.mjs). By AI agents, Wed Nov 11 2026. No macro, syntax, notation, axiom, sorry.
-/
import Derived.Test.YthepnjbefngooaaDoorRows
import GoSem.ClaimSeven
namespace Go.Proofs.YthepnjbefngooaaDoor
namespace Rows

/-- THE TIED CARD OF 'patchbaykeep2.PktFixes'. -/
def pktFixesCard : Claim7 := { stood := { row := pktFixesRow, standIns := [], harness := (true, "dee8e07c27637262933faa1396b807b66e3cd29d8b145bd2800e054cf6cd17d0"), looks := false }, kinds := [], alts := [], laidByText := true, laidKinds := [.data, .pinned], laidTests := true, laidLooks := .later }
def PktFixesCardSaid : Prop := Claim7.holds Tryd.pinned (.plain (OpenSpec.ofChange pktFixesSpec)) pktFixesCard

/-- THE SECOND FORM's CARD OF 'patchbaykeep2.PktFixes'. -/
def pktFixesUptoCard : Claim7 := { stood := { row := pktFixesUptoRow, standIns := [], harness := (true, "dee8e07c27637262933faa1396b807b66e3cd29d8b145bd2800e054cf6cd17d0"), looks := false }, kinds := [], alts := [], laidByText := true, laidKinds := [.data, .pinned], laidTests := true, laidLooks := .later }
def PktFixesUptoCardSaid : Prop := Claim7.holds Tryd.pinned (.plain (OpenSpec.upto pktFixesSpec)) pktFixesUptoCard
end Rows
end Go.Proofs.YthepnjbefngooaaDoor
