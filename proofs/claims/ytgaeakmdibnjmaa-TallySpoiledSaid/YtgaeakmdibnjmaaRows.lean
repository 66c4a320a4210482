/-
  No cell of these rows narrows 'for every input' (looked for: loops, veiled, ifaces, maps, wideKeys, modest, calm, conditions, laid).
  DERIVED. THE GIVEN ROWS OF THIS SEAT. 7 by the template 'for every input the law returns true; each argument reads behind the call as it read before'; 0 by the template 'total and deterministic' (their statements: YtgaeakmdibnjmaaTotals.lean).
  GIVEN WITH THE SEED: the statements are not yours to turn. If you find one false, say at which input.
  Laid BY PROGRAM, IN A SANDBOX (cutbox-rows.mjs): the forced cells as the released guide's own fill.sh prints them over the translation 7a126a55be8910d9… (all of the seat's roots in one cut). By AI agents, Wed Nov 11 2026. No macro, syntax, notation, axiom, sorry.
-/
import Derived.Test.YtgaeakmdibnjmaaChecked
import GoSem.Claim
import GoSem.ClaimJoined
import GoSem.ClaimMapViews
import Derived.JoinedTies
import Derived.KernelRfl
namespace Go.Proofs.Ytgaeakmdibnjmaa
/- THE CELL 'sum', in the pinned program and in every row, IS THE sha256 OF THE DUMP (.gsa) THAT YtgaeakmdibnjmaaProg.lean LOADS. Nothing in Lean hashes anything: it is a label: what it is worth is what the hold of that sum in a sandbox is worth. -/
noncomputable def Try.pinned : Pinned := { name := "ytgaeakmdibnjmaa", sum := "7a126a55be8910d9d4171bc9a48d655f7811ca6de267bfca3105966eb4e82e8a", checked := Try.checked }
namespace Rows
def none {H : Type} : Left H := { results := [], args := [] }

/-- 'chartroomlaw15.TallyAddSpec': WHATEVER THE INPUT: true; the input reads as it did. -/
def tallyAddSpecSpec : ChangeSpec := { name := "tallyAddSpec", fn := fun _ => fun
  | [d1, d2, d3] => { results := [.lit (.bool true)], args := [d1, d2, d3] }
  | _ => none }
def tallyAddSpecRow : OpenClaim := { program := "ytgaeakmdibnjmaa", sum := "7a126a55be8910d9d4171bc9a48d655f7811ca6de267bfca3105966eb4e82e8a", func := "chartroom/chartroomlaw15.TallyAddSpec", spec := "tallyAddSpec", inPlace := ["slices.overlaps[chartroom/api.Tally]"], unfollowed := true, recurses := true, apart := false }
def TallyAddSpecSaid : Prop := tallyAddSpecRow.holds Try.pinned (OpenSpec.ofChange tallyAddSpecSpec)

/-- ITS FALSE NEIGHBOUR: 'it returns false'. Refute it at one input. -/
def tallyAddSpecWrong : ChangeSpec := { name := "tallyAddSpec", fn := fun _ => fun
  | [d1, d2, d3] => { results := [.lit (.bool false)], args := [d1, d2, d3] }
  | _ => none }
def TallyAddSpecWrongFalsely : Prop := tallyAddSpecRow.holds Try.pinned (OpenSpec.ofChange tallyAddSpecWrong)

/-- 'chartroomlaw15.TallyJoinSpec': WHATEVER THE INPUT: true; the input reads as it did. -/
def tallyJoinSpecSpec : ChangeSpec := { name := "tallyJoinSpec", fn := fun _ => fun
  | [d1, d2] => { results := [.lit (.bool true)], args := [d1, d2] }
  | _ => none }
def tallyJoinSpecRow : OpenClaim := { program := "ytgaeakmdibnjmaa", sum := "7a126a55be8910d9d4171bc9a48d655f7811ca6de267bfca3105966eb4e82e8a", func := "chartroom/chartroomlaw15.TallyJoinSpec", spec := "tallyJoinSpec", inPlace := ["slices.overlaps[chartroom/api.Tally]"], unfollowed := true, recurses := true, apart := false }
def TallyJoinSpecSaid : Prop := tallyJoinSpecRow.holds Try.pinned (OpenSpec.ofChange tallyJoinSpecSpec)

/-- ITS FALSE NEIGHBOUR: 'it returns false'. Refute it at one input. -/
def tallyJoinSpecWrong : ChangeSpec := { name := "tallyJoinSpec", fn := fun _ => fun
  | [d1, d2] => { results := [.lit (.bool false)], args := [d1, d2] }
  | _ => none }
def TallyJoinSpecWrongFalsely : Prop := tallyJoinSpecRow.holds Try.pinned (OpenSpec.ofChange tallyJoinSpecWrong)

/-- 'chartroomlaw15.TallyOrder': WHATEVER THE INPUT: true; the input reads as it did. -/
def tallyOrderSpec : ChangeSpec := { name := "tallyOrder", fn := fun _ => fun
  | [d1, d2, d3, d4, d5] => { results := [.lit (.bool true)], args := [d1, d2, d3, d4, d5] }
  | _ => none }
def tallyOrderRow : OpenClaim := { program := "ytgaeakmdibnjmaa", sum := "7a126a55be8910d9d4171bc9a48d655f7811ca6de267bfca3105966eb4e82e8a", func := "chartroom/chartroomlaw15.TallyOrder", spec := "tallyOrder", inPlace := ["slices.overlaps[chartroom/api.Tally]"], unfollowed := true, recurses := true, apart := false }
def TallyOrderSaid : Prop := tallyOrderRow.holds Try.pinned (OpenSpec.ofChange tallyOrderSpec)

/-- ITS FALSE NEIGHBOUR: 'it returns false'. Refute it at one input. -/
def tallyOrderWrong : ChangeSpec := { name := "tallyOrder", fn := fun _ => fun
  | [d1, d2, d3, d4, d5] => { results := [.lit (.bool false)], args := [d1, d2, d3, d4, d5] }
  | _ => none }
def TallyOrderWrongFalsely : Prop := tallyOrderRow.holds Try.pinned (OpenSpec.ofChange tallyOrderWrong)

/-- 'chartroomlaw15.TallyLattice': WHATEVER THE INPUT: true; the input reads as it did. -/
def tallyLatticeSpec : ChangeSpec := { name := "tallyLattice", fn := fun _ => fun
  | [d1, d2, d3] => { results := [.lit (.bool true)], args := [d1, d2, d3] }
  | _ => none }
def tallyLatticeRow : OpenClaim := { program := "ytgaeakmdibnjmaa", sum := "7a126a55be8910d9d4171bc9a48d655f7811ca6de267bfca3105966eb4e82e8a", func := "chartroom/chartroomlaw15.TallyLattice", spec := "tallyLattice", inPlace := ["slices.overlaps[chartroom/api.Tally]"], unfollowed := true, recurses := true, apart := false }
def TallyLatticeSaid : Prop := tallyLatticeRow.holds Try.pinned (OpenSpec.ofChange tallyLatticeSpec)

/-- ITS FALSE NEIGHBOUR: 'it returns false'. Refute it at one input. -/
def tallyLatticeWrong : ChangeSpec := { name := "tallyLattice", fn := fun _ => fun
  | [d1, d2, d3] => { results := [.lit (.bool false)], args := [d1, d2, d3] }
  | _ => none }
def TallyLatticeWrongFalsely : Prop := tallyLatticeRow.holds Try.pinned (OpenSpec.ofChange tallyLatticeWrong)

/-- 'chartroomlaw15.TallyLater': WHATEVER THE INPUT: true; the input reads as it did. -/
def tallyLaterSpec : ChangeSpec := { name := "tallyLater", fn := fun _ => fun
  | [d1, d2, d3] => { results := [.lit (.bool true)], args := [d1, d2, d3] }
  | _ => none }
def tallyLaterRow : OpenClaim := { program := "ytgaeakmdibnjmaa", sum := "7a126a55be8910d9d4171bc9a48d655f7811ca6de267bfca3105966eb4e82e8a", func := "chartroom/chartroomlaw15.TallyLater", spec := "tallyLater", inPlace := ["slices.overlaps[chartroom/api.Tally]"], unfollowed := true, recurses := true, apart := false }
def TallyLaterSaid : Prop := tallyLaterRow.holds Try.pinned (OpenSpec.ofChange tallyLaterSpec)

/-- ITS FALSE NEIGHBOUR: 'it returns false'. Refute it at one input. -/
def tallyLaterWrong : ChangeSpec := { name := "tallyLater", fn := fun _ => fun
  | [d1, d2, d3] => { results := [.lit (.bool false)], args := [d1, d2, d3] }
  | _ => none }
def TallyLaterWrongFalsely : Prop := tallyLaterRow.holds Try.pinned (OpenSpec.ofChange tallyLaterWrong)

/-- 'chartroomlaw15.TallyParted': WHATEVER THE INPUT: true; the input reads as it did. -/
def tallyPartedSpec : ChangeSpec := { name := "tallyParted", fn := fun _ => fun
  | [d1, d2, d3, d4, d5] => { results := [.lit (.bool true)], args := [d1, d2, d3, d4, d5] }
  | _ => none }
def tallyPartedRow : OpenClaim := { program := "ytgaeakmdibnjmaa", sum := "7a126a55be8910d9d4171bc9a48d655f7811ca6de267bfca3105966eb4e82e8a", func := "chartroom/chartroomlaw15.TallyParted", spec := "tallyParted", inPlace := ["slices.overlaps[chartroom/api.Tally]"], unfollowed := true, recurses := true, apart := false }
def TallyPartedSaid : Prop := tallyPartedRow.holds Try.pinned (OpenSpec.ofChange tallyPartedSpec)

/-- ITS FALSE NEIGHBOUR: 'it returns false'. Refute it at one input. -/
def tallyPartedWrong : ChangeSpec := { name := "tallyParted", fn := fun _ => fun
  | [d1, d2, d3, d4, d5] => { results := [.lit (.bool false)], args := [d1, d2, d3, d4, d5] }
  | _ => none }
def TallyPartedWrongFalsely : Prop := tallyPartedRow.holds Try.pinned (OpenSpec.ofChange tallyPartedWrong)

/-- 'chartroomlaw15.TallySpoiled': WHATEVER THE INPUT: true; the input reads as it did. -/
def tallySpoiledSpec : ChangeSpec := { name := "tallySpoiled", fn := fun _ => fun
  | [d1, d2, d3] => { results := [.lit (.bool true)], args := [d1, d2, d3] }
  | _ => none }
def tallySpoiledRow : OpenClaim := { program := "ytgaeakmdibnjmaa", sum := "7a126a55be8910d9d4171bc9a48d655f7811ca6de267bfca3105966eb4e82e8a", func := "chartroom/chartroomlaw15.TallySpoiled", spec := "tallySpoiled", inPlace := ["slices.overlaps[chartroom/api.Tally]"], unfollowed := true, recurses := true, apart := false }
def TallySpoiledSaid : Prop := tallySpoiledRow.holds Try.pinned (OpenSpec.ofChange tallySpoiledSpec)

/-- ITS FALSE NEIGHBOUR: 'it returns false'. Refute it at one input. -/
def tallySpoiledWrong : ChangeSpec := { name := "tallySpoiled", fn := fun _ => fun
  | [d1, d2, d3] => { results := [.lit (.bool false)], args := [d1, d2, d3] }
  | _ => none }
def TallySpoiledWrongFalsely : Prop := tallySpoiledRow.holds Try.pinned (OpenSpec.ofChange tallySpoiledWrong)

/- THE SECOND FORM. 'bulk': how many values and letters a reading holds, each counted each time it is reached (what is shared counts as often as it is met; a slice's spare places count too). A statement '..UptoSaid' is the law's where the arguments, and the package variables that the reading takes, are together of bulk at most 1048576: NARROWER than '..Said'. Prove '..Said' where nothing that the law and all that it calls make is longer than what came in: it says more and counts as full. Else prove '..UptoSaid'. A law counts once. -/
mutual
def uptoBulk {H : Type} : DataW H → Nat
  | .lit (.string bytes) => bytes.length + 1
  | .lit _ => 1
  | .nil => 1
  | .ptr d => uptoBulk d + 1
  | .slice elems spare => uptoBulkAll elems + uptoBulkAll spare + 1
  | .agg parts => uptoBulkAll parts + 1
  | .iface _ d => uptoBulk d + 1
  | .map entries => uptoBulkEntries entries + 1
  | .held _ => 1
def uptoBulkAll {H : Type} : List (DataW H) → Nat
  | [] => 0
  | d :: r => uptoBulk d + uptoBulkAll r
def uptoBulkEntries {H : Type} : List (Lit × DataW H) → Nat
  | [] => 0
  | x :: r => uptoBulkEntry x + uptoBulkEntries r
def uptoBulkEntry {H : Type} : Lit × DataW H → Nat
  | (.string bytes, d) => bytes.length + uptoBulk d + 1
  | (_, d) => uptoBulk d + 1
 end
def uptoSmall : (H : Type) → List (DataW H) → Bool := fun _ ds => decide (uptoBulkAll ds ≤ 1048576)
def OpenSpec.upto (s : _root_.Go.ChangeSpec) : _root_.Go.OpenSpec := { _root_.Go.OpenSpec.ofChange s with cond := some uptoSmall }

/-- 'chartroomlaw15.TallyAddSpec', WHERE WHAT IT READS IS OF BULK AT MOST 1048576: true; the input reads as it did. -/
def tallyAddSpecUptoRow : OpenClaim := { program := "ytgaeakmdibnjmaa", sum := "7a126a55be8910d9d4171bc9a48d655f7811ca6de267bfca3105966eb4e82e8a", func := "chartroom/chartroomlaw15.TallyAddSpec", spec := "tallyAddSpec", inPlace := ["slices.overlaps[chartroom/api.Tally]"], unfollowed := true, recurses := true, apart := false, narrowed := true }
def TallyAddSpecUptoSaid : Prop := tallyAddSpecUptoRow.holds Try.pinned (OpenSpec.upto tallyAddSpecSpec)

/-- 'chartroomlaw15.TallyJoinSpec', WHERE WHAT IT READS IS OF BULK AT MOST 1048576: true; the input reads as it did. -/
def tallyJoinSpecUptoRow : OpenClaim := { program := "ytgaeakmdibnjmaa", sum := "7a126a55be8910d9d4171bc9a48d655f7811ca6de267bfca3105966eb4e82e8a", func := "chartroom/chartroomlaw15.TallyJoinSpec", spec := "tallyJoinSpec", inPlace := ["slices.overlaps[chartroom/api.Tally]"], unfollowed := true, recurses := true, apart := false, narrowed := true }
def TallyJoinSpecUptoSaid : Prop := tallyJoinSpecUptoRow.holds Try.pinned (OpenSpec.upto tallyJoinSpecSpec)

/-- 'chartroomlaw15.TallyOrder', WHERE WHAT IT READS IS OF BULK AT MOST 1048576: true; the input reads as it did. -/
def tallyOrderUptoRow : OpenClaim := { program := "ytgaeakmdibnjmaa", sum := "7a126a55be8910d9d4171bc9a48d655f7811ca6de267bfca3105966eb4e82e8a", func := "chartroom/chartroomlaw15.TallyOrder", spec := "tallyOrder", inPlace := ["slices.overlaps[chartroom/api.Tally]"], unfollowed := true, recurses := true, apart := false, narrowed := true }
def TallyOrderUptoSaid : Prop := tallyOrderUptoRow.holds Try.pinned (OpenSpec.upto tallyOrderSpec)

/-- 'chartroomlaw15.TallyLattice', WHERE WHAT IT READS IS OF BULK AT MOST 1048576: true; the input reads as it did. -/
def tallyLatticeUptoRow : OpenClaim := { program := "ytgaeakmdibnjmaa", sum := "7a126a55be8910d9d4171bc9a48d655f7811ca6de267bfca3105966eb4e82e8a", func := "chartroom/chartroomlaw15.TallyLattice", spec := "tallyLattice", inPlace := ["slices.overlaps[chartroom/api.Tally]"], unfollowed := true, recurses := true, apart := false, narrowed := true }
def TallyLatticeUptoSaid : Prop := tallyLatticeUptoRow.holds Try.pinned (OpenSpec.upto tallyLatticeSpec)

/-- 'chartroomlaw15.TallyLater', WHERE WHAT IT READS IS OF BULK AT MOST 1048576: true; the input reads as it did. -/
def tallyLaterUptoRow : OpenClaim := { program := "ytgaeakmdibnjmaa", sum := "7a126a55be8910d9d4171bc9a48d655f7811ca6de267bfca3105966eb4e82e8a", func := "chartroom/chartroomlaw15.TallyLater", spec := "tallyLater", inPlace := ["slices.overlaps[chartroom/api.Tally]"], unfollowed := true, recurses := true, apart := false, narrowed := true }
def TallyLaterUptoSaid : Prop := tallyLaterUptoRow.holds Try.pinned (OpenSpec.upto tallyLaterSpec)

/-- 'chartroomlaw15.TallyParted', WHERE WHAT IT READS IS OF BULK AT MOST 1048576: true; the input reads as it did. -/
def tallyPartedUptoRow : OpenClaim := { program := "ytgaeakmdibnjmaa", sum := "7a126a55be8910d9d4171bc9a48d655f7811ca6de267bfca3105966eb4e82e8a", func := "chartroom/chartroomlaw15.TallyParted", spec := "tallyParted", inPlace := ["slices.overlaps[chartroom/api.Tally]"], unfollowed := true, recurses := true, apart := false, narrowed := true }
def TallyPartedUptoSaid : Prop := tallyPartedUptoRow.holds Try.pinned (OpenSpec.upto tallyPartedSpec)

/-- 'chartroomlaw15.TallySpoiled', WHERE WHAT IT READS IS OF BULK AT MOST 1048576: true; the input reads as it did. -/
def tallySpoiledUptoRow : OpenClaim := { program := "ytgaeakmdibnjmaa", sum := "7a126a55be8910d9d4171bc9a48d655f7811ca6de267bfca3105966eb4e82e8a", func := "chartroom/chartroomlaw15.TallySpoiled", spec := "tallySpoiled", inPlace := ["slices.overlaps[chartroom/api.Tally]"], unfollowed := true, recurses := true, apart := false, narrowed := true }
def TallySpoiledUptoSaid : Prop := tallySpoiledUptoRow.holds Try.pinned (OpenSpec.upto tallySpoiledSpec)

end Rows
end Go.Proofs.Ytgaeakmdibnjmaa
