/-
  No cell of these rows narrows 'for every input' (looked for: loops, veiled, ifaces, maps, wideKeys, modest, calm, conditions, laid).
  DERIVED. THE GIVEN ROWS OF THIS SEAT. 4 by the template 'for every input the law returns true; each argument reads behind the call as it read before'; 0 by the template 'total and deterministic' (their statements: YtlhfkkionaemhaaTotals.lean).
  GIVEN WITH THE SEED: the statements are not yours to turn. If you find one false, say at which input.
  Laid BY PROGRAM, IN A SANDBOX (cutbox-rows.mjs): the forced cells as the released guide's own fill.sh prints them over the translation 97c84cebca4a51e8… (all of the seat's roots in one cut). By AI agents, Wed Nov 11 2026. No macro, syntax, notation, axiom, sorry.
-/
import Derived.Test.YtlhfkkionaemhaaChecked
import GoSem.Claim
import GoSem.ClaimJoined
import GoSem.ClaimMapViews
import Derived.JoinedTies
import Derived.KernelRfl
namespace Go.Proofs.Ytlhfkkionaemhaa
/- THE CELL 'sum', in the pinned program and in every row, IS THE sha256 OF THE DUMP (.gsa) THAT YtlhfkkionaemhaaProg.lean LOADS. Nothing in Lean hashes anything: it is a label: what it is worth is what the hold of that sum in a sandbox is worth. -/
noncomputable def Try.pinned : Pinned := { name := "ytlhfkkionaemhaa", sum := "97c84cebca4a51e89a4c55b2d01524e1b48fdd8231dd2d651396e8788ecf0b13", checked := Try.checked }
namespace Rows
def none {H : Type} : Left H := { results := [], args := [] }

/-- 'patchbaykeep2.JoinRoom': WHATEVER THE INPUT: true; the input reads as it did. -/
def joinRoomSpec : ChangeSpec := { name := "joinRoom", fn := fun _ => fun
  | [d1, d2, d3] => { results := [.lit (.bool true)], args := [d1, d2, d3] }
  | _ => none }
def joinRoomRow : OpenClaim := { program := "ytlhfkkionaemhaa", sum := "97c84cebca4a51e89a4c55b2d01524e1b48fdd8231dd2d651396e8788ecf0b13", func := "patchbay/patchbaykeep2.JoinRoom", spec := "joinRoom", inPlace := ["internal/abi.NoEscape"], unfollowed := true, recurses := true, apart := false }
def JoinRoomSaid : Prop := joinRoomRow.holds Try.pinned (OpenSpec.ofChange joinRoomSpec)

/-- ITS FALSE NEIGHBOUR: 'it returns false'. Refute it at one input. -/
def joinRoomWrong : ChangeSpec := { name := "joinRoom", fn := fun _ => fun
  | [d1, d2, d3] => { results := [.lit (.bool false)], args := [d1, d2, d3] }
  | _ => none }
def JoinRoomWrongFalsely : Prop := joinRoomRow.holds Try.pinned (OpenSpec.ofChange joinRoomWrong)

/-- 'patchbaykeep2.JoinAny': WHATEVER THE INPUT: true; the input reads as it did. -/
def joinAnySpec : ChangeSpec := { name := "joinAny", fn := fun _ => fun
  | [d1, d2, d3] => { results := [.lit (.bool true)], args := [d1, d2, d3] }
  | _ => none }
def joinAnyRow : OpenClaim := { program := "ytlhfkkionaemhaa", sum := "97c84cebca4a51e89a4c55b2d01524e1b48fdd8231dd2d651396e8788ecf0b13", func := "patchbay/patchbaykeep2.JoinAny", spec := "joinAny", inPlace := ["internal/abi.NoEscape"], unfollowed := true, recurses := true, apart := false }
def JoinAnySaid : Prop := joinAnyRow.holds Try.pinned (OpenSpec.ofChange joinAnySpec)

/-- ITS FALSE NEIGHBOUR: 'it returns false'. Refute it at one input. -/
def joinAnyWrong : ChangeSpec := { name := "joinAny", fn := fun _ => fun
  | [d1, d2, d3] => { results := [.lit (.bool false)], args := [d1, d2, d3] }
  | _ => none }
def JoinAnyWrongFalsely : Prop := joinAnyRow.holds Try.pinned (OpenSpec.ofChange joinAnyWrong)

/-- 'patchbaykeep2.JoinTwice': WHATEVER THE INPUT: true; the input reads as it did. -/
def joinTwiceSpec : ChangeSpec := { name := "joinTwice", fn := fun _ => fun
  | [d1, d2, d3, d4] => { results := [.lit (.bool true)], args := [d1, d2, d3, d4] }
  | _ => none }
def joinTwiceRow : OpenClaim := { program := "ytlhfkkionaemhaa", sum := "97c84cebca4a51e89a4c55b2d01524e1b48fdd8231dd2d651396e8788ecf0b13", func := "patchbay/patchbaykeep2.JoinTwice", spec := "joinTwice", inPlace := ["internal/abi.NoEscape"], unfollowed := true, recurses := true, apart := false }
def JoinTwiceSaid : Prop := joinTwiceRow.holds Try.pinned (OpenSpec.ofChange joinTwiceSpec)

/-- ITS FALSE NEIGHBOUR: 'it returns false'. Refute it at one input. -/
def joinTwiceWrong : ChangeSpec := { name := "joinTwice", fn := fun _ => fun
  | [d1, d2, d3, d4] => { results := [.lit (.bool false)], args := [d1, d2, d3, d4] }
  | _ => none }
def JoinTwiceWrongFalsely : Prop := joinTwiceRow.holds Try.pinned (OpenSpec.ofChange joinTwiceWrong)

/-- 'patchbaykeep2.JoinApart': WHATEVER THE INPUT: true; the input reads as it did. -/
def joinApartSpec : ChangeSpec := { name := "joinApart", fn := fun _ => fun
  | [d1, d2, d3] => { results := [.lit (.bool true)], args := [d1, d2, d3] }
  | _ => none }
def joinApartRow : OpenClaim := { program := "ytlhfkkionaemhaa", sum := "97c84cebca4a51e89a4c55b2d01524e1b48fdd8231dd2d651396e8788ecf0b13", func := "patchbay/patchbaykeep2.JoinApart", spec := "joinApart", inPlace := ["internal/abi.NoEscape"], unfollowed := true, recurses := true, apart := false }
def JoinApartSaid : Prop := joinApartRow.holds Try.pinned (OpenSpec.ofChange joinApartSpec)

/-- ITS FALSE NEIGHBOUR: 'it returns false'. Refute it at one input. -/
def joinApartWrong : ChangeSpec := { name := "joinApart", fn := fun _ => fun
  | [d1, d2, d3] => { results := [.lit (.bool false)], args := [d1, d2, d3] }
  | _ => none }
def JoinApartWrongFalsely : Prop := joinApartRow.holds Try.pinned (OpenSpec.ofChange joinApartWrong)

/- THE SECOND FORM. 'bulk': how many values and letters a reading holds, each counted each time it is reached (what is shared counts as often as it is met; a slice's spare places count too). A statement '..UptoSaid' is the law's where the arguments, and the package variables that the reading takes, are together of bulk at most 1048576: NARROWER than '..Said'. Prove '..Said' where nothing that the law and all that it calls make is longer than what came in: it says more and counts as full. Else prove '..UptoSaid'. A law counts once. -/
mutual
def uptoBulk {H : Type} : DataW H → Nat
  | .lit (.string bytes) => bytes.length + 1
  | .lit _ => 1
  | .nil => 1
  | .ptr d => uptoBulk d + 1
  | .slice elems spare => uptoBulkAll elems + uptoBulkAll spare + 1
  | .agg parts => uptoBulkAll parts + 1
  | .iface _ d => uptoBulk d + 1
  | .map entries => uptoBulkEntries entries + 1
  | .held _ => 1
def uptoBulkAll {H : Type} : List (DataW H) → Nat
  | [] => 0
  | d :: r => uptoBulk d + uptoBulkAll r
def uptoBulkEntries {H : Type} : List (Lit × DataW H) → Nat
  | [] => 0
  | x :: r => uptoBulkEntry x + uptoBulkEntries r
def uptoBulkEntry {H : Type} : Lit × DataW H → Nat
  | (.string bytes, d) => bytes.length + uptoBulk d + 1
  | (_, d) => uptoBulk d + 1
 end
def uptoSmall : (H : Type) → List (DataW H) → Bool := fun _ ds => decide (uptoBulkAll ds ≤ 1048576)
def OpenSpec.upto (s : _root_.Go.ChangeSpec) : _root_.Go.OpenSpec := { _root_.Go.OpenSpec.ofChange s with cond := some uptoSmall }

/-- 'patchbaykeep2.JoinRoom', WHERE WHAT IT READS IS OF BULK AT MOST 1048576: true; the input reads as it did. -/
def joinRoomUptoRow : OpenClaim := { program := "ytlhfkkionaemhaa", sum := "97c84cebca4a51e89a4c55b2d01524e1b48fdd8231dd2d651396e8788ecf0b13", func := "patchbay/patchbaykeep2.JoinRoom", spec := "joinRoom", inPlace := ["internal/abi.NoEscape"], unfollowed := true, recurses := true, apart := false, narrowed := true }
def JoinRoomUptoSaid : Prop := joinRoomUptoRow.holds Try.pinned (OpenSpec.upto joinRoomSpec)

/-- 'patchbaykeep2.JoinAny', WHERE WHAT IT READS IS OF BULK AT MOST 1048576: true; the input reads as it did. -/
def joinAnyUptoRow : OpenClaim := { program := "ytlhfkkionaemhaa", sum := "97c84cebca4a51e89a4c55b2d01524e1b48fdd8231dd2d651396e8788ecf0b13", func := "patchbay/patchbaykeep2.JoinAny", spec := "joinAny", inPlace := ["internal/abi.NoEscape"], unfollowed := true, recurses := true, apart := false, narrowed := true }
def JoinAnyUptoSaid : Prop := joinAnyUptoRow.holds Try.pinned (OpenSpec.upto joinAnySpec)

/-- 'patchbaykeep2.JoinTwice', WHERE WHAT IT READS IS OF BULK AT MOST 1048576: true; the input reads as it did. -/
def joinTwiceUptoRow : OpenClaim := { program := "ytlhfkkionaemhaa", sum := "97c84cebca4a51e89a4c55b2d01524e1b48fdd8231dd2d651396e8788ecf0b13", func := "patchbay/patchbaykeep2.JoinTwice", spec := "joinTwice", inPlace := ["internal/abi.NoEscape"], unfollowed := true, recurses := true, apart := false, narrowed := true }
def JoinTwiceUptoSaid : Prop := joinTwiceUptoRow.holds Try.pinned (OpenSpec.upto joinTwiceSpec)

/-- 'patchbaykeep2.JoinApart', WHERE WHAT IT READS IS OF BULK AT MOST 1048576: true; the input reads as it did. -/
def joinApartUptoRow : OpenClaim := { program := "ytlhfkkionaemhaa", sum := "97c84cebca4a51e89a4c55b2d01524e1b48fdd8231dd2d651396e8788ecf0b13", func := "patchbay/patchbaykeep2.JoinApart", spec := "joinApart", inPlace := ["internal/abi.NoEscape"], unfollowed := true, recurses := true, apart := false, narrowed := true }
def JoinApartUptoSaid : Prop := joinApartUptoRow.holds Try.pinned (OpenSpec.upto joinApartSpec)

end Rows
end Go.Proofs.Ytlhfkkionaemhaa
