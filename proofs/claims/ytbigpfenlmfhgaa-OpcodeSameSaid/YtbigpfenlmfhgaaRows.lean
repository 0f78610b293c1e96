/-
  No cell of these rows narrows 'for every input' (looked for: loops, veiled, ifaces, maps, wideKeys, modest, calm, conditions, laid).
  DERIVED. THE GIVEN ROWS OF THIS SEAT. 4 by the template 'for every input the law returns true; each argument reads behind the call as it read before'; 0 by the template 'total and deterministic' (their statements: YtbigpfenlmfhgaaTotals.lean).
  GIVEN WITH THE SEED: the statements are not yours to turn. If you find one false, say at which input.
  Laid BY PROGRAM, IN A SANDBOX (cutbox-rows.mjs): the forced cells as the released guide's own fill.sh prints them over the translation 131f5d78dd166718… (all of the seat's roots in one cut). By AI agents, Wed Nov 11 2026. No macro, syntax, notation, axiom, sorry.
-/
import Derived.Test.YtbigpfenlmfhgaaChecked
import GoSem.Claim
import GoSem.ClaimJoined
import GoSem.ClaimMapViews
import Derived.JoinedTies
import Derived.KernelRfl
namespace Go.Proofs.Ytbigpfenlmfhgaa
/- THE CELL 'sum', in the pinned program and in every row, IS THE sha256 OF THE DUMP (.gsa) THAT YtbigpfenlmfhgaaProg.lean LOADS. Nothing in Lean hashes anything: it is a label: what it is worth is what the hold of that sum in a sandbox is worth. -/
noncomputable def Try.pinned : Pinned := { name := "ytbigpfenlmfhgaa", sum := "131f5d78dd166718d42d4c65a9c0d238f9ad0480e4ae7836bbaccd1133c43a4b", checked := Try.checked }
namespace Rows
def none {H : Type} : Left H := { results := [], args := [] }

/-- 'batonlaw27.ClaimRuns': WHATEVER THE INPUT: true; the input reads as it did. -/
def claimRunsSpec : ChangeSpec := { name := "claimRuns", fn := fun _ => fun
  | [d] => { results := [.lit (.bool true)], args := [d] }
  | _ => none }
def claimRunsRow : OpenClaim := { program := "ytbigpfenlmfhgaa", sum := "131f5d78dd166718d42d4c65a9c0d238f9ad0480e4ae7836bbaccd1133c43a4b", func := "baton/batonlaw27.ClaimRuns", spec := "claimRuns", inPlace := ["slices.overlaps[baton/roster.Device]"], unfollowed := true, recurses := true, apart := false }
def ClaimRunsSaid : Prop := claimRunsRow.holds Try.pinned (OpenSpec.ofChange claimRunsSpec)

/-- ITS FALSE NEIGHBOUR: 'it returns false'. Refute it at one input. -/
def claimRunsWrong : ChangeSpec := { name := "claimRuns", fn := fun _ => fun
  | [d] => { results := [.lit (.bool false)], args := [d] }
  | _ => none }
def ClaimRunsWrongFalsely : Prop := claimRunsRow.holds Try.pinned (OpenSpec.ofChange claimRunsWrong)

/-- 'batonlaw27.ClaimSpent': WHATEVER THE INPUT: true; the input reads as it did. -/
def claimSpentSpec : ChangeSpec := { name := "claimSpent", fn := fun _ => fun
  | [d1, d2, d3] => { results := [.lit (.bool true)], args := [d1, d2, d3] }
  | _ => none }
def claimSpentRow : OpenClaim := { program := "ytbigpfenlmfhgaa", sum := "131f5d78dd166718d42d4c65a9c0d238f9ad0480e4ae7836bbaccd1133c43a4b", func := "baton/batonlaw27.ClaimSpent", spec := "claimSpent", inPlace := ["slices.overlaps[baton/roster.Device]"], unfollowed := true, recurses := true, apart := false }
def ClaimSpentSaid : Prop := claimSpentRow.holds Try.pinned (OpenSpec.ofChange claimSpentSpec)

/-- ITS FALSE NEIGHBOUR: 'it returns false'. Refute it at one input. -/
def claimSpentWrong : ChangeSpec := { name := "claimSpent", fn := fun _ => fun
  | [d1, d2, d3] => { results := [.lit (.bool false)], args := [d1, d2, d3] }
  | _ => none }
def ClaimSpentWrongFalsely : Prop := claimSpentRow.holds Try.pinned (OpenSpec.ofChange claimSpentWrong)

/-- 'batonlaw27.ClaimRises': WHATEVER THE INPUT: true; the input reads as it did. -/
def claimRisesSpec : ChangeSpec := { name := "claimRises", fn := fun _ => fun
  | [d1, d2] => { results := [.lit (.bool true)], args := [d1, d2] }
  | _ => none }
def claimRisesRow : OpenClaim := { program := "ytbigpfenlmfhgaa", sum := "131f5d78dd166718d42d4c65a9c0d238f9ad0480e4ae7836bbaccd1133c43a4b", func := "baton/batonlaw27.ClaimRises", spec := "claimRises", inPlace := ["slices.overlaps[baton/roster.Device]"], unfollowed := true, recurses := true, apart := false }
def ClaimRisesSaid : Prop := claimRisesRow.holds Try.pinned (OpenSpec.ofChange claimRisesSpec)

/-- ITS FALSE NEIGHBOUR: 'it returns false'. Refute it at one input. -/
def claimRisesWrong : ChangeSpec := { name := "claimRises", fn := fun _ => fun
  | [d1, d2] => { results := [.lit (.bool false)], args := [d1, d2] }
  | _ => none }
def ClaimRisesWrongFalsely : Prop := claimRisesRow.holds Try.pinned (OpenSpec.ofChange claimRisesWrong)

/-- 'batonlaw28.OpcodeSame': WHATEVER THE INPUT: true; the input reads as it did. -/
def opcodeSameSpec : ChangeSpec := { name := "opcodeSame", fn := fun _ => fun
  | [d1, d2] => { results := [.lit (.bool true)], args := [d1, d2] }
  | _ => none }
def opcodeSameRow : OpenClaim := { program := "ytbigpfenlmfhgaa", sum := "131f5d78dd166718d42d4c65a9c0d238f9ad0480e4ae7836bbaccd1133c43a4b", func := "baton/batonlaw28.OpcodeSame", spec := "opcodeSame", inPlace := ["slices.overlaps[baton/roster.Device]"], unfollowed := true, recurses := true, apart := false }
def OpcodeSameSaid : Prop := opcodeSameRow.holds Try.pinned (OpenSpec.ofChange opcodeSameSpec)

/-- ITS FALSE NEIGHBOUR: 'it returns false'. Refute it at one input. -/
def opcodeSameWrong : ChangeSpec := { name := "opcodeSame", fn := fun _ => fun
  | [d1, d2] => { results := [.lit (.bool false)], args := [d1, d2] }
  | _ => none }
def OpcodeSameWrongFalsely : Prop := opcodeSameRow.holds Try.pinned (OpenSpec.ofChange opcodeSameWrong)

/- THE SECOND FORM. 'bulk': how many values and letters a reading holds, each counted each time it is reached (what is shared counts as often as it is met; a slice's spare places count too). A statement '..UptoSaid' is the law's where the arguments, and the package variables that the reading takes, are together of bulk at most 1048576: NARROWER than '..Said'. Prove '..Said' where nothing that the law and all that it calls make is longer than what came in: it says more and counts as full. Else prove '..UptoSaid'. A law counts once. -/
mutual
def uptoBulk {H : Type} : DataW H → Nat
  | .lit (.string bytes) => bytes.length + 1
  | .lit _ => 1
  | .nil => 1
  | .ptr d => uptoBulk d + 1
  | .slice elems spare => uptoBulkAll elems + uptoBulkAll spare + 1
  | .agg parts => uptoBulkAll parts + 1
  | .iface _ d => uptoBulk d + 1
  | .map entries => uptoBulkEntries entries + 1
  | .held _ => 1
def uptoBulkAll {H : Type} : List (DataW H) → Nat
  | [] => 0
  | d :: r => uptoBulk d + uptoBulkAll r
def uptoBulkEntries {H : Type} : List (Lit × DataW H) → Nat
  | [] => 0
  | x :: r => uptoBulkEntry x + uptoBulkEntries r
def uptoBulkEntry {H : Type} : Lit × DataW H → Nat
  | (.string bytes, d) => bytes.length + uptoBulk d + 1
  | (_, d) => uptoBulk d + 1
 end
def uptoSmall : (H : Type) → List (DataW H) → Bool := fun _ ds => decide (uptoBulkAll ds ≤ 1048576)
def OpenSpec.upto (s : _root_.Go.ChangeSpec) : _root_.Go.OpenSpec := { _root_.Go.OpenSpec.ofChange s with cond := some uptoSmall }

/-- 'batonlaw27.ClaimRuns', WHERE WHAT IT READS IS OF BULK AT MOST 1048576: true; the input reads as it did. -/
def claimRunsUptoRow : OpenClaim := { program := "ytbigpfenlmfhgaa", sum := "131f5d78dd166718d42d4c65a9c0d238f9ad0480e4ae7836bbaccd1133c43a4b", func := "baton/batonlaw27.ClaimRuns", spec := "claimRuns", inPlace := ["slices.overlaps[baton/roster.Device]"], unfollowed := true, recurses := true, apart := false, narrowed := true }
def ClaimRunsUptoSaid : Prop := claimRunsUptoRow.holds Try.pinned (OpenSpec.upto claimRunsSpec)

/-- 'batonlaw27.ClaimSpent', WHERE WHAT IT READS IS OF BULK AT MOST 1048576: true; the input reads as it did. -/
def claimSpentUptoRow : OpenClaim := { program := "ytbigpfenlmfhgaa", sum := "131f5d78dd166718d42d4c65a9c0d238f9ad0480e4ae7836bbaccd1133c43a4b", func := "baton/batonlaw27.ClaimSpent", spec := "claimSpent", inPlace := ["slices.overlaps[baton/roster.Device]"], unfollowed := true, recurses := true, apart := false, narrowed := true }
def ClaimSpentUptoSaid : Prop := claimSpentUptoRow.holds Try.pinned (OpenSpec.upto claimSpentSpec)

/-- 'batonlaw27.ClaimRises', WHERE WHAT IT READS IS OF BULK AT MOST 1048576: true; the input reads as it did. -/
def claimRisesUptoRow : OpenClaim := { program := "ytbigpfenlmfhgaa", sum := "131f5d78dd166718d42d4c65a9c0d238f9ad0480e4ae7836bbaccd1133c43a4b", func := "baton/batonlaw27.ClaimRises", spec := "claimRises", inPlace := ["slices.overlaps[baton/roster.Device]"], unfollowed := true, recurses := true, apart := false, narrowed := true }
def ClaimRisesUptoSaid : Prop := claimRisesUptoRow.holds Try.pinned (OpenSpec.upto claimRisesSpec)

/-- 'batonlaw28.OpcodeSame', WHERE WHAT IT READS IS OF BULK AT MOST 1048576: true; the input reads as it did. -/
def opcodeSameUptoRow : OpenClaim := { program := "ytbigpfenlmfhgaa", sum := "131f5d78dd166718d42d4c65a9c0d238f9ad0480e4ae7836bbaccd1133c43a4b", func := "baton/batonlaw28.OpcodeSame", spec := "opcodeSame", inPlace := ["slices.overlaps[baton/roster.Device]"], unfollowed := true, recurses := true, apart := false, narrowed := true }
def OpcodeSameUptoSaid : Prop := opcodeSameUptoRow.holds Try.pinned (OpenSpec.upto opcodeSameSpec)

end Rows
end Go.Proofs.Ytbigpfenlmfhgaa
