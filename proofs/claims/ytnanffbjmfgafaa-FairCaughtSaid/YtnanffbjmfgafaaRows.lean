/-
  NARROWER THAN 'FOR EVERY INPUT', by the rows' own cells (each row's printed sentence says how): FairEither: loops · FairMore: loops.
  DERIVED. THE GIVEN ROWS OF THIS SEAT. 7 by the template 'for every input the law returns true; each argument reads behind the call as it read before'; 0 by the template 'total and deterministic' (their statements: YtnanffbjmfgafaaTotals.lean).
  GIVEN WITH THE SEED: the statements are not yours to turn. If you find one false, say at which input.
  Laid BY PROGRAM, IN A SANDBOX (cutbox-rows.mjs): the forced cells as the released guide's own fill.sh prints them over the translation 4e986ab0ebdda2f6… (all of the seat's roots in one cut). By AI agents, Wed Nov 11 2026. No macro, syntax, notation, axiom, sorry.
-/
import Derived.Test.YtnanffbjmfgafaaChecked
import GoSem.Claim
import GoSem.ClaimJoined
import GoSem.ClaimMapViews
import Derived.JoinedTies
import Derived.KernelRfl
namespace Go.Proofs.Ytnanffbjmfgafaa
/- THE CELL 'sum', in the pinned program and in every row, IS THE sha256 OF THE DUMP (.gsa) THAT YtnanffbjmfgafaaProg.lean LOADS. Nothing in Lean hashes anything: it is a label: what it is worth is what the hold of that sum in a sandbox is worth. -/
noncomputable def Try.pinned : Pinned := { name := "ytnanffbjmfgafaa", sum := "4e986ab0ebdda2f6748289ba0843c02de1e47dc75521890ee9c9c82b8eb2bbc2", checked := Try.checked }
namespace Rows
def none {H : Type} : Left H := { results := [], args := [] }

/-- 'foregonelaw31.FairEither': WHATEVER THE INPUT: true; the input reads as it did. -/
def fairEitherSpec : ChangeSpec := { name := "fairEither", fn := fun _ => fun
  | [d1, d2, d3] => { results := [.lit (.bool true)], args := [d1, d2, d3] }
  | _ => none }
def fairEitherRow : OpenClaim := { program := "ytnanffbjmfgafaa", sum := "4e986ab0ebdda2f6748289ba0843c02de1e47dc75521890ee9c9c82b8eb2bbc2", func := "foregone/foregonelaw31.FairEither", spec := "fairEither", unfollowed := true, recurses := true, loops := true, apart := false }
def FairEitherSaid : Prop := fairEitherRow.holds Try.pinned (OpenSpec.ofChange fairEitherSpec)

/-- ITS FALSE NEIGHBOUR: 'it returns false'. Refute it at one input. -/
def fairEitherWrong : ChangeSpec := { name := "fairEither", fn := fun _ => fun
  | [d1, d2, d3] => { results := [.lit (.bool false)], args := [d1, d2, d3] }
  | _ => none }
def FairEitherWrongFalsely : Prop := fairEitherRow.holds Try.pinned (OpenSpec.ofChange fairEitherWrong)

/-- 'foregonelaw31.FairMore': WHATEVER THE INPUT: true; the input reads as it did. -/
def fairMoreSpec : ChangeSpec := { name := "fairMore", fn := fun _ => fun
  | [d1, d2, d3, d4] => { results := [.lit (.bool true)], args := [d1, d2, d3, d4] }
  | _ => none }
def fairMoreRow : OpenClaim := { program := "ytnanffbjmfgafaa", sum := "4e986ab0ebdda2f6748289ba0843c02de1e47dc75521890ee9c9c82b8eb2bbc2", func := "foregone/foregonelaw31.FairMore", spec := "fairMore", unfollowed := true, recurses := true, loops := true, apart := false }
def FairMoreSaid : Prop := fairMoreRow.holds Try.pinned (OpenSpec.ofChange fairMoreSpec)

/-- ITS FALSE NEIGHBOUR: 'it returns false'. Refute it at one input. -/
def fairMoreWrong : ChangeSpec := { name := "fairMore", fn := fun _ => fun
  | [d1, d2, d3, d4] => { results := [.lit (.bool false)], args := [d1, d2, d3, d4] }
  | _ => none }
def FairMoreWrongFalsely : Prop := fairMoreRow.holds Try.pinned (OpenSpec.ofChange fairMoreWrong)

/-- 'foregonelaw31.FairArrowed': WHATEVER THE INPUT: true; the input reads as it did. -/
def fairArrowedSpec : ChangeSpec := { name := "fairArrowed", fn := fun _ => fun
  | [d1, d2, d3, d4] => { results := [.lit (.bool true)], args := [d1, d2, d3, d4] }
  | _ => none }
def fairArrowedRow : OpenClaim := { program := "ytnanffbjmfgafaa", sum := "4e986ab0ebdda2f6748289ba0843c02de1e47dc75521890ee9c9c82b8eb2bbc2", func := "foregone/foregonelaw31.FairArrowed", spec := "fairArrowed", unfollowed := true, recurses := true, apart := false }
def FairArrowedSaid : Prop := fairArrowedRow.holds Try.pinned (OpenSpec.ofChange fairArrowedSpec)

/-- ITS FALSE NEIGHBOUR: 'it returns false'. Refute it at one input. -/
def fairArrowedWrong : ChangeSpec := { name := "fairArrowed", fn := fun _ => fun
  | [d1, d2, d3, d4] => { results := [.lit (.bool false)], args := [d1, d2, d3, d4] }
  | _ => none }
def FairArrowedWrongFalsely : Prop := fairArrowedRow.holds Try.pinned (OpenSpec.ofChange fairArrowedWrong)

/-- 'foregonelaw31.FairParts': WHATEVER THE INPUT: true; the input reads as it did. -/
def fairPartsSpec : ChangeSpec := { name := "fairParts", fn := fun _ => fun
  | [d1, d2, d3] => { results := [.lit (.bool true)], args := [d1, d2, d3] }
  | _ => none }
def fairPartsRow : OpenClaim := { program := "ytnanffbjmfgafaa", sum := "4e986ab0ebdda2f6748289ba0843c02de1e47dc75521890ee9c9c82b8eb2bbc2", func := "foregone/foregonelaw31.FairParts", spec := "fairParts", unfollowed := true, recurses := true, apart := false }
def FairPartsSaid : Prop := fairPartsRow.holds Try.pinned (OpenSpec.ofChange fairPartsSpec)

/-- ITS FALSE NEIGHBOUR: 'it returns false'. Refute it at one input. -/
def fairPartsWrong : ChangeSpec := { name := "fairParts", fn := fun _ => fun
  | [d1, d2, d3] => { results := [.lit (.bool false)], args := [d1, d2, d3] }
  | _ => none }
def FairPartsWrongFalsely : Prop := fairPartsRow.holds Try.pinned (OpenSpec.ofChange fairPartsWrong)

/-- 'foregonelaw31.FairCaught': WHATEVER THE INPUT: true; the input reads as it did. -/
def fairCaughtSpec : ChangeSpec := { name := "fairCaught", fn := fun _ => fun
  | [d1, d2] => { results := [.lit (.bool true)], args := [d1, d2] }
  | _ => none }
def fairCaughtRow : OpenClaim := { program := "ytnanffbjmfgafaa", sum := "4e986ab0ebdda2f6748289ba0843c02de1e47dc75521890ee9c9c82b8eb2bbc2", func := "foregone/foregonelaw31.FairCaught", spec := "fairCaught", unfollowed := true, recurses := true, apart := false }
def FairCaughtSaid : Prop := fairCaughtRow.holds Try.pinned (OpenSpec.ofChange fairCaughtSpec)

/-- ITS FALSE NEIGHBOUR: 'it returns false'. Refute it at one input. -/
def fairCaughtWrong : ChangeSpec := { name := "fairCaught", fn := fun _ => fun
  | [d1, d2] => { results := [.lit (.bool false)], args := [d1, d2] }
  | _ => none }
def FairCaughtWrongFalsely : Prop := fairCaughtRow.holds Try.pinned (OpenSpec.ofChange fairCaughtWrong)

/-- 'foregonelaw31.FairCores': WHATEVER THE INPUT: true; the input reads as it did. -/
def fairCoresSpec : ChangeSpec := { name := "fairCores", fn := fun _ => fun
  | [d] => { results := [.lit (.bool true)], args := [d] }
  | _ => none }
def fairCoresRow : OpenClaim := { program := "ytnanffbjmfgafaa", sum := "4e986ab0ebdda2f6748289ba0843c02de1e47dc75521890ee9c9c82b8eb2bbc2", func := "foregone/foregonelaw31.FairCores", spec := "fairCores", unfollowed := true, recurses := true, apart := false }
def FairCoresSaid : Prop := fairCoresRow.holds Try.pinned (OpenSpec.ofChange fairCoresSpec)

/-- ITS FALSE NEIGHBOUR: 'it returns false'. Refute it at one input. -/
def fairCoresWrong : ChangeSpec := { name := "fairCores", fn := fun _ => fun
  | [d] => { results := [.lit (.bool false)], args := [d] }
  | _ => none }
def FairCoresWrongFalsely : Prop := fairCoresRow.holds Try.pinned (OpenSpec.ofChange fairCoresWrong)

/-- 'foregonelaw31.FairThrough': WHATEVER THE INPUT: true; the input reads as it did. -/
def fairThroughSpec : ChangeSpec := { name := "fairThrough", fn := fun _ => fun
  | [d] => { results := [.lit (.bool true)], args := [d] }
  | _ => none }
def fairThroughRow : OpenClaim := { program := "ytnanffbjmfgafaa", sum := "4e986ab0ebdda2f6748289ba0843c02de1e47dc75521890ee9c9c82b8eb2bbc2", func := "foregone/foregonelaw31.FairThrough", spec := "fairThrough", unfollowed := true, recurses := true, apart := false }
def FairThroughSaid : Prop := fairThroughRow.holds Try.pinned (OpenSpec.ofChange fairThroughSpec)

/-- ITS FALSE NEIGHBOUR: 'it returns false'. Refute it at one input. -/
def fairThroughWrong : ChangeSpec := { name := "fairThrough", fn := fun _ => fun
  | [d] => { results := [.lit (.bool false)], args := [d] }
  | _ => none }
def FairThroughWrongFalsely : Prop := fairThroughRow.holds Try.pinned (OpenSpec.ofChange fairThroughWrong)

/- THE SECOND FORM. 'bulk': how many values and letters a reading holds, each counted each time it is reached (what is shared counts as often as it is met; a slice's spare places count too). A statement '..UptoSaid' is the law's where the arguments, and the package variables that the reading takes, are together of bulk at most 1048576: NARROWER than '..Said'. Prove '..Said' where nothing that the law and all that it calls make is longer than what came in: it says more and counts as full. Else prove '..UptoSaid'. A law counts once. -/
mutual
def uptoBulk {H : Type} : DataW H → Nat
  | .lit (.string bytes) => bytes.length + 1
  | .lit _ => 1
  | .nil => 1
  | .ptr d => uptoBulk d + 1
  | .slice elems spare => uptoBulkAll elems + uptoBulkAll spare + 1
  | .agg parts => uptoBulkAll parts + 1
  | .iface _ d => uptoBulk d + 1
  | .map entries => uptoBulkEntries entries + 1
  | .held _ => 1
def uptoBulkAll {H : Type} : List (DataW H) → Nat
  | [] => 0
  | d :: r => uptoBulk d + uptoBulkAll r
def uptoBulkEntries {H : Type} : List (Lit × DataW H) → Nat
  | [] => 0
  | x :: r => uptoBulkEntry x + uptoBulkEntries r
def uptoBulkEntry {H : Type} : Lit × DataW H → Nat
  | (.string bytes, d) => bytes.length + uptoBulk d + 1
  | (_, d) => uptoBulk d + 1
 end
def uptoSmall : (H : Type) → List (DataW H) → Bool := fun _ ds => decide (uptoBulkAll ds ≤ 1048576)
def OpenSpec.upto (s : _root_.Go.ChangeSpec) : _root_.Go.OpenSpec := { _root_.Go.OpenSpec.ofChange s with cond := some uptoSmall }

/-- 'foregonelaw31.FairEither', WHERE WHAT IT READS IS OF BULK AT MOST 1048576: true; the input reads as it did. -/
def fairEitherUptoRow : OpenClaim := { program := "ytnanffbjmfgafaa", sum := "4e986ab0ebdda2f6748289ba0843c02de1e47dc75521890ee9c9c82b8eb2bbc2", func := "foregone/foregonelaw31.FairEither", spec := "fairEither", unfollowed := true, recurses := true, loops := true, apart := false, narrowed := true }
def FairEitherUptoSaid : Prop := fairEitherUptoRow.holds Try.pinned (OpenSpec.upto fairEitherSpec)

/-- 'foregonelaw31.FairMore', WHERE WHAT IT READS IS OF BULK AT MOST 1048576: true; the input reads as it did. -/
def fairMoreUptoRow : OpenClaim := { program := "ytnanffbjmfgafaa", sum := "4e986ab0ebdda2f6748289ba0843c02de1e47dc75521890ee9c9c82b8eb2bbc2", func := "foregone/foregonelaw31.FairMore", spec := "fairMore", unfollowed := true, recurses := true, loops := true, apart := false, narrowed := true }
def FairMoreUptoSaid : Prop := fairMoreUptoRow.holds Try.pinned (OpenSpec.upto fairMoreSpec)

/-- 'foregonelaw31.FairArrowed', WHERE WHAT IT READS IS OF BULK AT MOST 1048576: true; the input reads as it did. -/
def fairArrowedUptoRow : OpenClaim := { program := "ytnanffbjmfgafaa", sum := "4e986ab0ebdda2f6748289ba0843c02de1e47dc75521890ee9c9c82b8eb2bbc2", func := "foregone/foregonelaw31.FairArrowed", spec := "fairArrowed", unfollowed := true, recurses := true, apart := false, narrowed := true }
def FairArrowedUptoSaid : Prop := fairArrowedUptoRow.holds Try.pinned (OpenSpec.upto fairArrowedSpec)

/-- 'foregonelaw31.FairParts', WHERE WHAT IT READS IS OF BULK AT MOST 1048576: true; the input reads as it did. -/
def fairPartsUptoRow : OpenClaim := { program := "ytnanffbjmfgafaa", sum := "4e986ab0ebdda2f6748289ba0843c02de1e47dc75521890ee9c9c82b8eb2bbc2", func := "foregone/foregonelaw31.FairParts", spec := "fairParts", unfollowed := true, recurses := true, apart := false, narrowed := true }
def FairPartsUptoSaid : Prop := fairPartsUptoRow.holds Try.pinned (OpenSpec.upto fairPartsSpec)

/-- 'foregonelaw31.FairCaught', WHERE WHAT IT READS IS OF BULK AT MOST 1048576: true; the input reads as it did. -/
def fairCaughtUptoRow : OpenClaim := { program := "ytnanffbjmfgafaa", sum := "4e986ab0ebdda2f6748289ba0843c02de1e47dc75521890ee9c9c82b8eb2bbc2", func := "foregone/foregonelaw31.FairCaught", spec := "fairCaught", unfollowed := true, recurses := true, apart := false, narrowed := true }
def FairCaughtUptoSaid : Prop := fairCaughtUptoRow.holds Try.pinned (OpenSpec.upto fairCaughtSpec)

/-- 'foregonelaw31.FairCores', WHERE WHAT IT READS IS OF BULK AT MOST 1048576: true; the input reads as it did. -/
def fairCoresUptoRow : OpenClaim := { program := "ytnanffbjmfgafaa", sum := "4e986ab0ebdda2f6748289ba0843c02de1e47dc75521890ee9c9c82b8eb2bbc2", func := "foregone/foregonelaw31.FairCores", spec := "fairCores", unfollowed := true, recurses := true, apart := false, narrowed := true }
def FairCoresUptoSaid : Prop := fairCoresUptoRow.holds Try.pinned (OpenSpec.upto fairCoresSpec)

/-- 'foregonelaw31.FairThrough', WHERE WHAT IT READS IS OF BULK AT MOST 1048576: true; the input reads as it did. -/
def fairThroughUptoRow : OpenClaim := { program := "ytnanffbjmfgafaa", sum := "4e986ab0ebdda2f6748289ba0843c02de1e47dc75521890ee9c9c82b8eb2bbc2", func := "foregone/foregonelaw31.FairThrough", spec := "fairThrough", unfollowed := true, recurses := true, apart := false, narrowed := true }
def FairThroughUptoSaid : Prop := fairThroughUptoRow.holds Try.pinned (OpenSpec.upto fairThroughSpec)

end Rows
end Go.Proofs.Ytnanffbjmfgafaa
