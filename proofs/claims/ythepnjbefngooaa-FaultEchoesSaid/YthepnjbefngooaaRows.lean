/-
  No cell of these rows narrows 'for every input' (looked for: loops, veiled, ifaces, maps, wideKeys, modest, calm, conditions, laid).
  DERIVED. THE GIVEN ROWS OF THIS SEAT. 9 by the template 'for every input the law returns true; each argument reads behind the call as it read before'; 0 by the template 'total and deterministic' (their statements: YthepnjbefngooaaTotals.lean).
  GIVEN WITH THE SEED: the statements are not yours to turn. If you find one false, say at which input.
  Laid BY PROGRAM, IN A SANDBOX (cutbox-rows.mjs): the forced cells as the released guide's own fill.sh prints them over the translation 4b80e4c70208ff55… (all of the seat's roots in one cut). By AI agents, Wed Nov 11 2026. No macro, syntax, notation, axiom, sorry.
-/
import Derived.Test.YthepnjbefngooaaChecked
import GoSem.Claim
import GoSem.ClaimJoined
import GoSem.ClaimMapViews
import Derived.JoinedTies
import Derived.KernelRfl
namespace Go.Proofs.Ythepnjbefngooaa
/- THE CELL 'sum', in the pinned program and in every row, IS THE sha256 OF THE DUMP (.gsa) THAT YthepnjbefngooaaProg.lean LOADS. Nothing in Lean hashes anything: it is a label: what it is worth is what the hold of that sum in a sandbox is worth. -/
noncomputable def Try.pinned : Pinned := { name := "ythepnjbefngooaa", sum := "4b80e4c70208ff550996d84709e1a2b64908221bf5fc203a522741169f7f9522", checked := Try.checked }
namespace Rows
def none {H : Type} : Left H := { results := [], args := [] }

/-- 'patchbaykeep2.CutAgain': WHATEVER THE INPUT: true; the input reads as it did. -/
def cutAgainSpec : ChangeSpec := { name := "cutAgain", fn := fun _ => fun
  | [d1, d2, d3] => { results := [.lit (.bool true)], args := [d1, d2, d3] }
  | _ => none }
def cutAgainRow : OpenClaim := { program := "ythepnjbefngooaa", sum := "4b80e4c70208ff550996d84709e1a2b64908221bf5fc203a522741169f7f9522", func := "patchbay/patchbaykeep2.CutAgain", spec := "cutAgain", apart := false }
def CutAgainSaid : Prop := cutAgainRow.holds Try.pinned (OpenSpec.ofChange cutAgainSpec)

/-- ITS FALSE NEIGHBOUR: 'it returns false'. Refute it at one input. -/
def cutAgainWrong : ChangeSpec := { name := "cutAgain", fn := fun _ => fun
  | [d1, d2, d3] => { results := [.lit (.bool false)], args := [d1, d2, d3] }
  | _ => none }
def CutAgainWrongFalsely : Prop := cutAgainRow.holds Try.pinned (OpenSpec.ofChange cutAgainWrong)

/-- 'patchbaykeep2.CutFewest': WHATEVER THE INPUT: true; the input reads as it did. -/
def cutFewestSpec : ChangeSpec := { name := "cutFewest", fn := fun _ => fun
  | [d1, d2, d3] => { results := [.lit (.bool true)], args := [d1, d2, d3] }
  | _ => none }
def cutFewestRow : OpenClaim := { program := "ythepnjbefngooaa", sum := "4b80e4c70208ff550996d84709e1a2b64908221bf5fc203a522741169f7f9522", func := "patchbay/patchbaykeep2.CutFewest", spec := "cutFewest", apart := false }
def CutFewestSaid : Prop := cutFewestRow.holds Try.pinned (OpenSpec.ofChange cutFewestSpec)

/-- ITS FALSE NEIGHBOUR: 'it returns false'. Refute it at one input. -/
def cutFewestWrong : ChangeSpec := { name := "cutFewest", fn := fun _ => fun
  | [d1, d2, d3] => { results := [.lit (.bool false)], args := [d1, d2, d3] }
  | _ => none }
def CutFewestWrongFalsely : Prop := cutFewestRow.holds Try.pinned (OpenSpec.ofChange cutFewestWrong)

/-- 'patchbaykeep2.PktOrder': WHATEVER THE INPUT: true; the input reads as it did. -/
def pktOrderSpec : ChangeSpec := { name := "pktOrder", fn := fun _ => fun
  | [d1, d2] => { results := [.lit (.bool true)], args := [d1, d2] }
  | _ => none }
def pktOrderRow : OpenClaim := { program := "ythepnjbefngooaa", sum := "4b80e4c70208ff550996d84709e1a2b64908221bf5fc203a522741169f7f9522", func := "patchbay/patchbaykeep2.PktOrder", spec := "pktOrder", apart := false }
def PktOrderSaid : Prop := pktOrderRow.holds Try.pinned (OpenSpec.ofChange pktOrderSpec)

/-- ITS FALSE NEIGHBOUR: 'it returns false'. Refute it at one input. -/
def pktOrderWrong : ChangeSpec := { name := "pktOrder", fn := fun _ => fun
  | [d1, d2] => { results := [.lit (.bool false)], args := [d1, d2] }
  | _ => none }
def PktOrderWrongFalsely : Prop := pktOrderRow.holds Try.pinned (OpenSpec.ofChange pktOrderWrong)

/-- 'patchbaykeep2.PktHops': WHATEVER THE INPUT: true; the input reads as it did. -/
def pktHopsSpec : ChangeSpec := { name := "pktHops", fn := fun _ => fun
  | [d] => { results := [.lit (.bool true)], args := [d] }
  | _ => none }
def pktHopsRow : OpenClaim := { program := "ythepnjbefngooaa", sum := "4b80e4c70208ff550996d84709e1a2b64908221bf5fc203a522741169f7f9522", func := "patchbay/patchbaykeep2.PktHops", spec := "pktHops", apart := false }
def PktHopsSaid : Prop := pktHopsRow.holds Try.pinned (OpenSpec.ofChange pktHopsSpec)

/-- ITS FALSE NEIGHBOUR: 'it returns false'. Refute it at one input. -/
def pktHopsWrong : ChangeSpec := { name := "pktHops", fn := fun _ => fun
  | [d] => { results := [.lit (.bool false)], args := [d] }
  | _ => none }
def PktHopsWrongFalsely : Prop := pktHopsRow.holds Try.pinned (OpenSpec.ofChange pktHopsWrong)

/-- 'patchbaykeep2.FaultQuiet': WHATEVER THE INPUT: true; the input reads as it did. -/
def faultQuietSpec : ChangeSpec := { name := "faultQuiet", fn := fun _ => fun
  | [d1, d2, d3, d4, d5] => { results := [.lit (.bool true)], args := [d1, d2, d3, d4, d5] }
  | _ => none }
def faultQuietRow : OpenClaim := { program := "ythepnjbefngooaa", sum := "4b80e4c70208ff550996d84709e1a2b64908221bf5fc203a522741169f7f9522", func := "patchbay/patchbaykeep2.FaultQuiet", spec := "faultQuiet", apart := false }
def FaultQuietSaid : Prop := faultQuietRow.holds Try.pinned (OpenSpec.ofChange faultQuietSpec)

/-- ITS FALSE NEIGHBOUR: 'it returns false'. Refute it at one input. -/
def faultQuietWrong : ChangeSpec := { name := "faultQuiet", fn := fun _ => fun
  | [d1, d2, d3, d4, d5] => { results := [.lit (.bool false)], args := [d1, d2, d3, d4, d5] }
  | _ => none }
def FaultQuietWrongFalsely : Prop := faultQuietRow.holds Try.pinned (OpenSpec.ofChange faultQuietWrong)

/-- 'patchbaykeep2.CutCovers': WHATEVER THE INPUT: true; the input reads as it did. -/
def cutCoversSpec : ChangeSpec := { name := "cutCovers", fn := fun _ => fun
  | [d1, d2] => { results := [.lit (.bool true)], args := [d1, d2] }
  | _ => none }
def cutCoversRow : OpenClaim := { program := "ythepnjbefngooaa", sum := "4b80e4c70208ff550996d84709e1a2b64908221bf5fc203a522741169f7f9522", func := "patchbay/patchbaykeep2.CutCovers", spec := "cutCovers", apart := false }
def CutCoversSaid : Prop := cutCoversRow.holds Try.pinned (OpenSpec.ofChange cutCoversSpec)

/-- ITS FALSE NEIGHBOUR: 'it returns false'. Refute it at one input. -/
def cutCoversWrong : ChangeSpec := { name := "cutCovers", fn := fun _ => fun
  | [d1, d2] => { results := [.lit (.bool false)], args := [d1, d2] }
  | _ => none }
def CutCoversWrongFalsely : Prop := cutCoversRow.holds Try.pinned (OpenSpec.ofChange cutCoversWrong)

/-- 'patchbaykeep2.PktSpoiled': WHATEVER THE INPUT: true; the input reads as it did. -/
def pktSpoiledSpec : ChangeSpec := { name := "pktSpoiled", fn := fun _ => fun
  | [d1, d2, d3] => { results := [.lit (.bool true)], args := [d1, d2, d3] }
  | _ => none }
def pktSpoiledRow : OpenClaim := { program := "ythepnjbefngooaa", sum := "4b80e4c70208ff550996d84709e1a2b64908221bf5fc203a522741169f7f9522", func := "patchbay/patchbaykeep2.PktSpoiled", spec := "pktSpoiled", apart := false }
def PktSpoiledSaid : Prop := pktSpoiledRow.holds Try.pinned (OpenSpec.ofChange pktSpoiledSpec)

/-- ITS FALSE NEIGHBOUR: 'it returns false'. Refute it at one input. -/
def pktSpoiledWrong : ChangeSpec := { name := "pktSpoiled", fn := fun _ => fun
  | [d1, d2, d3] => { results := [.lit (.bool false)], args := [d1, d2, d3] }
  | _ => none }
def PktSpoiledWrongFalsely : Prop := pktSpoiledRow.holds Try.pinned (OpenSpec.ofChange pktSpoiledWrong)

/-- 'patchbaykeep2.FaultQuotes': WHATEVER THE INPUT: true; the input reads as it did. -/
def faultQuotesSpec : ChangeSpec := { name := "faultQuotes", fn := fun _ => fun
  | [d1, d2, d3] => { results := [.lit (.bool true)], args := [d1, d2, d3] }
  | _ => none }
def faultQuotesRow : OpenClaim := { program := "ythepnjbefngooaa", sum := "4b80e4c70208ff550996d84709e1a2b64908221bf5fc203a522741169f7f9522", func := "patchbay/patchbaykeep2.FaultQuotes", spec := "faultQuotes", apart := false }
def FaultQuotesSaid : Prop := faultQuotesRow.holds Try.pinned (OpenSpec.ofChange faultQuotesSpec)

/-- ITS FALSE NEIGHBOUR: 'it returns false'. Refute it at one input. -/
def faultQuotesWrong : ChangeSpec := { name := "faultQuotes", fn := fun _ => fun
  | [d1, d2, d3] => { results := [.lit (.bool false)], args := [d1, d2, d3] }
  | _ => none }
def FaultQuotesWrongFalsely : Prop := faultQuotesRow.holds Try.pinned (OpenSpec.ofChange faultQuotesWrong)

/-- 'patchbaykeep2.FaultEchoes': WHATEVER THE INPUT: true; the input reads as it did. -/
def faultEchoesSpec : ChangeSpec := { name := "faultEchoes", fn := fun _ => fun
  | [d1, d2, d3, d4, d5] => { results := [.lit (.bool true)], args := [d1, d2, d3, d4, d5] }
  | _ => none }
def faultEchoesRow : OpenClaim := { program := "ythepnjbefngooaa", sum := "4b80e4c70208ff550996d84709e1a2b64908221bf5fc203a522741169f7f9522", func := "patchbay/patchbaykeep2.FaultEchoes", spec := "faultEchoes", apart := false }
def FaultEchoesSaid : Prop := faultEchoesRow.holds Try.pinned (OpenSpec.ofChange faultEchoesSpec)

/-- ITS FALSE NEIGHBOUR: 'it returns false'. Refute it at one input. -/
def faultEchoesWrong : ChangeSpec := { name := "faultEchoes", fn := fun _ => fun
  | [d1, d2, d3, d4, d5] => { results := [.lit (.bool false)], args := [d1, d2, d3, d4, d5] }
  | _ => none }
def FaultEchoesWrongFalsely : Prop := faultEchoesRow.holds Try.pinned (OpenSpec.ofChange faultEchoesWrong)

/- THE SECOND FORM. 'bulk': how many values and letters a reading holds, each counted each time it is reached (what is shared counts as often as it is met; a slice's spare places count too). A statement '..UptoSaid' is the law's where the arguments, and the package variables that the reading takes, are together of bulk at most 1048576: NARROWER than '..Said'. Prove '..Said' where nothing that the law and all that it calls make is longer than what came in: it says more and counts as full. Else prove '..UptoSaid'. A law counts once. -/
mutual
def uptoBulk {H : Type} : DataW H → Nat
  | .lit (.string bytes) => bytes.length + 1
  | .lit _ => 1
  | .nil => 1
  | .ptr d => uptoBulk d + 1
  | .slice elems spare => uptoBulkAll elems + uptoBulkAll spare + 1
  | .agg parts => uptoBulkAll parts + 1
  | .iface _ d => uptoBulk d + 1
  | .map entries => uptoBulkEntries entries + 1
  | .held _ => 1
def uptoBulkAll {H : Type} : List (DataW H) → Nat
  | [] => 0
  | d :: r => uptoBulk d + uptoBulkAll r
def uptoBulkEntries {H : Type} : List (Lit × DataW H) → Nat
  | [] => 0
  | x :: r => uptoBulkEntry x + uptoBulkEntries r
def uptoBulkEntry {H : Type} : Lit × DataW H → Nat
  | (.string bytes, d) => bytes.length + uptoBulk d + 1
  | (_, d) => uptoBulk d + 1
 end
def uptoSmall : (H : Type) → List (DataW H) → Bool := fun _ ds => decide (uptoBulkAll ds ≤ 1048576)
def OpenSpec.upto (s : _root_.Go.ChangeSpec) : _root_.Go.OpenSpec := { _root_.Go.OpenSpec.ofChange s with cond := some uptoSmall }

/-- 'patchbaykeep2.CutAgain', WHERE WHAT IT READS IS OF BULK AT MOST 1048576: true; the input reads as it did. -/
def cutAgainUptoRow : OpenClaim := { program := "ythepnjbefngooaa", sum := "4b80e4c70208ff550996d84709e1a2b64908221bf5fc203a522741169f7f9522", func := "patchbay/patchbaykeep2.CutAgain", spec := "cutAgain", apart := false, narrowed := true }
def CutAgainUptoSaid : Prop := cutAgainUptoRow.holds Try.pinned (OpenSpec.upto cutAgainSpec)

/-- 'patchbaykeep2.CutFewest', WHERE WHAT IT READS IS OF BULK AT MOST 1048576: true; the input reads as it did. -/
def cutFewestUptoRow : OpenClaim := { program := "ythepnjbefngooaa", sum := "4b80e4c70208ff550996d84709e1a2b64908221bf5fc203a522741169f7f9522", func := "patchbay/patchbaykeep2.CutFewest", spec := "cutFewest", apart := false, narrowed := true }
def CutFewestUptoSaid : Prop := cutFewestUptoRow.holds Try.pinned (OpenSpec.upto cutFewestSpec)

/-- 'patchbaykeep2.PktOrder', WHERE WHAT IT READS IS OF BULK AT MOST 1048576: true; the input reads as it did. -/
def pktOrderUptoRow : OpenClaim := { program := "ythepnjbefngooaa", sum := "4b80e4c70208ff550996d84709e1a2b64908221bf5fc203a522741169f7f9522", func := "patchbay/patchbaykeep2.PktOrder", spec := "pktOrder", apart := false, narrowed := true }
def PktOrderUptoSaid : Prop := pktOrderUptoRow.holds Try.pinned (OpenSpec.upto pktOrderSpec)

/-- 'patchbaykeep2.PktHops', WHERE WHAT IT READS IS OF BULK AT MOST 1048576: true; the input reads as it did. -/
def pktHopsUptoRow : OpenClaim := { program := "ythepnjbefngooaa", sum := "4b80e4c70208ff550996d84709e1a2b64908221bf5fc203a522741169f7f9522", func := "patchbay/patchbaykeep2.PktHops", spec := "pktHops", apart := false, narrowed := true }
def PktHopsUptoSaid : Prop := pktHopsUptoRow.holds Try.pinned (OpenSpec.upto pktHopsSpec)

/-- 'patchbaykeep2.FaultQuiet', WHERE WHAT IT READS IS OF BULK AT MOST 1048576: true; the input reads as it did. -/
def faultQuietUptoRow : OpenClaim := { program := "ythepnjbefngooaa", sum := "4b80e4c70208ff550996d84709e1a2b64908221bf5fc203a522741169f7f9522", func := "patchbay/patchbaykeep2.FaultQuiet", spec := "faultQuiet", apart := false, narrowed := true }
def FaultQuietUptoSaid : Prop := faultQuietUptoRow.holds Try.pinned (OpenSpec.upto faultQuietSpec)

/-- 'patchbaykeep2.CutCovers', WHERE WHAT IT READS IS OF BULK AT MOST 1048576: true; the input reads as it did. -/
def cutCoversUptoRow : OpenClaim := { program := "ythepnjbefngooaa", sum := "4b80e4c70208ff550996d84709e1a2b64908221bf5fc203a522741169f7f9522", func := "patchbay/patchbaykeep2.CutCovers", spec := "cutCovers", apart := false, narrowed := true }
def CutCoversUptoSaid : Prop := cutCoversUptoRow.holds Try.pinned (OpenSpec.upto cutCoversSpec)

/-- 'patchbaykeep2.PktSpoiled', WHERE WHAT IT READS IS OF BULK AT MOST 1048576: true; the input reads as it did. -/
def pktSpoiledUptoRow : OpenClaim := { program := "ythepnjbefngooaa", sum := "4b80e4c70208ff550996d84709e1a2b64908221bf5fc203a522741169f7f9522", func := "patchbay/patchbaykeep2.PktSpoiled", spec := "pktSpoiled", apart := false, narrowed := true }
def PktSpoiledUptoSaid : Prop := pktSpoiledUptoRow.holds Try.pinned (OpenSpec.upto pktSpoiledSpec)

/-- 'patchbaykeep2.FaultQuotes', WHERE WHAT IT READS IS OF BULK AT MOST 1048576: true; the input reads as it did. -/
def faultQuotesUptoRow : OpenClaim := { program := "ythepnjbefngooaa", sum := "4b80e4c70208ff550996d84709e1a2b64908221bf5fc203a522741169f7f9522", func := "patchbay/patchbaykeep2.FaultQuotes", spec := "faultQuotes", apart := false, narrowed := true }
def FaultQuotesUptoSaid : Prop := faultQuotesUptoRow.holds Try.pinned (OpenSpec.upto faultQuotesSpec)

/-- 'patchbaykeep2.FaultEchoes', WHERE WHAT IT READS IS OF BULK AT MOST 1048576: true; the input reads as it did. -/
def faultEchoesUptoRow : OpenClaim := { program := "ythepnjbefngooaa", sum := "4b80e4c70208ff550996d84709e1a2b64908221bf5fc203a522741169f7f9522", func := "patchbay/patchbaykeep2.FaultEchoes", spec := "faultEchoes", apart := false, narrowed := true }
def FaultEchoesUptoSaid : Prop := faultEchoesUptoRow.holds Try.pinned (OpenSpec.upto faultEchoesSpec)

end Rows
end Go.Proofs.Ythepnjbefngooaa
