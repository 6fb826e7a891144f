/-
  No cell of these rows narrows 'for every input' (looked for: loops, veiled, ifaces, maps, wideKeys, modest, calm, conditions, laid).
  DERIVED. THE GIVEN ROWS OF THIS SEAT. 6 by the template 'for every input the law returns true; each argument reads behind the call as it read before'; 0 by the template 'total and deterministic' (their statements: YthoajajgbafngaaTotals.lean).
  GIVEN WITH THE SEED: the statements are not yours to turn. If you find one false, say at which input.
  Laid BY PROGRAM, IN A SANDBOX (cutbox-rows.mjs): the forced cells as the released guide's own fill.sh prints them over the translation bfcaf40c4ade088a… (all of the seat's roots in one cut). By AI agents, Wed Nov 11 2026. No macro, syntax, notation, axiom, sorry.
-/
import Derived.Test.YthoajajgbafngaaChecked
import GoSem.Claim
import GoSem.ClaimJoined
import GoSem.ClaimMapViews
import Derived.JoinedTies
import Derived.KernelRfl
namespace Go.Proofs.Ythoajajgbafngaa
/- THE CELL 'sum', in the pinned program and in every row, IS THE sha256 OF THE DUMP (.gsa) THAT YthoajajgbafngaaProg.lean LOADS. Nothing in Lean hashes anything: it is a label: what it is worth is what the hold of that sum in a sandbox is worth. -/
noncomputable def Try.pinned : Pinned := { name := "ythoajajgbafngaa", sum := "bfcaf40c4ade088aad85d8b21e46f9daec978b95ad8a8c11bcf45f443a14ab33", checked := Try.checked }
namespace Rows
def none {H : Type} : Left H := { results := [], args := [] }

/-- 'intervalmonlaw32.NetRuns': WHATEVER THE INPUT: true; the input reads as it did. -/
def netRunsSpec : ChangeSpec := { name := "netRuns", fn := fun _ => fun
  | [d1, d2] => { results := [.lit (.bool true)], args := [d1, d2] }
  | _ => none }
def netRunsRow : OpenClaim := { program := "ythoajajgbafngaa", sum := "bfcaf40c4ade088aad85d8b21e46f9daec978b95ad8a8c11bcf45f443a14ab33", func := "intervalmon/intervalmonlaw32.NetRuns", spec := "netRuns", apart := false }
def NetRunsSaid : Prop := netRunsRow.holds Try.pinned (OpenSpec.ofChange netRunsSpec)

/-- ITS FALSE NEIGHBOUR: 'it returns false'. Refute it at one input. -/
def netRunsWrong : ChangeSpec := { name := "netRuns", fn := fun _ => fun
  | [d1, d2] => { results := [.lit (.bool false)], args := [d1, d2] }
  | _ => none }
def NetRunsWrongFalsely : Prop := netRunsRow.holds Try.pinned (OpenSpec.ofChange netRunsWrong)

/-- 'intervalmonlaw32.NetArguments': WHATEVER THE INPUT: true; the input reads as it did. -/
def netArgumentsSpec : ChangeSpec := { name := "netArguments", fn := fun _ => fun
  | [d1, d2, d3, d4, d5] => { results := [.lit (.bool true)], args := [d1, d2, d3, d4, d5] }
  | _ => none }
def netArgumentsRow : OpenClaim := { program := "ythoajajgbafngaa", sum := "bfcaf40c4ade088aad85d8b21e46f9daec978b95ad8a8c11bcf45f443a14ab33", func := "intervalmon/intervalmonlaw32.NetArguments", spec := "netArguments", apart := false }
def NetArgumentsSaid : Prop := netArgumentsRow.holds Try.pinned (OpenSpec.ofChange netArgumentsSpec)

/-- ITS FALSE NEIGHBOUR: 'it returns false'. Refute it at one input. -/
def netArgumentsWrong : ChangeSpec := { name := "netArguments", fn := fun _ => fun
  | [d1, d2, d3, d4, d5] => { results := [.lit (.bool false)], args := [d1, d2, d3, d4, d5] }
  | _ => none }
def NetArgumentsWrongFalsely : Prop := netArgumentsRow.holds Try.pinned (OpenSpec.ofChange netArgumentsWrong)

/-- 'intervalmonlaw32.NetConserves': WHATEVER THE INPUT: true; the input reads as it did. -/
def netConservesSpec : ChangeSpec := { name := "netConserves", fn := fun _ => fun
  | [d1, d2] => { results := [.lit (.bool true)], args := [d1, d2] }
  | _ => none }
def netConservesRow : OpenClaim := { program := "ythoajajgbafngaa", sum := "bfcaf40c4ade088aad85d8b21e46f9daec978b95ad8a8c11bcf45f443a14ab33", func := "intervalmon/intervalmonlaw32.NetConserves", spec := "netConserves", apart := false }
def NetConservesSaid : Prop := netConservesRow.holds Try.pinned (OpenSpec.ofChange netConservesSpec)

/-- ITS FALSE NEIGHBOUR: 'it returns false'. Refute it at one input. -/
def netConservesWrong : ChangeSpec := { name := "netConserves", fn := fun _ => fun
  | [d1, d2] => { results := [.lit (.bool false)], args := [d1, d2] }
  | _ => none }
def NetConservesWrongFalsely : Prop := netConservesRow.holds Try.pinned (OpenSpec.ofChange netConservesWrong)

/-- 'intervalmonlaw32.NetOrder': WHATEVER THE INPUT: true; the input reads as it did. -/
def netOrderSpec : ChangeSpec := { name := "netOrder", fn := fun _ => fun
  | [d1, d2, d3] => { results := [.lit (.bool true)], args := [d1, d2, d3] }
  | _ => none }
def netOrderRow : OpenClaim := { program := "ythoajajgbafngaa", sum := "bfcaf40c4ade088aad85d8b21e46f9daec978b95ad8a8c11bcf45f443a14ab33", func := "intervalmon/intervalmonlaw32.NetOrder", spec := "netOrder", apart := false }
def NetOrderSaid : Prop := netOrderRow.holds Try.pinned (OpenSpec.ofChange netOrderSpec)

/-- ITS FALSE NEIGHBOUR: 'it returns false'. Refute it at one input. -/
def netOrderWrong : ChangeSpec := { name := "netOrder", fn := fun _ => fun
  | [d1, d2, d3] => { results := [.lit (.bool false)], args := [d1, d2, d3] }
  | _ => none }
def NetOrderWrongFalsely : Prop := netOrderRow.holds Try.pinned (OpenSpec.ofChange netOrderWrong)

/-- 'intervalmonlaw32.NetPartition': WHATEVER THE INPUT: true; the input reads as it did. -/
def netPartitionSpec : ChangeSpec := { name := "netPartition", fn := fun _ => fun
  | [d1, d2, d3] => { results := [.lit (.bool true)], args := [d1, d2, d3] }
  | _ => none }
def netPartitionRow : OpenClaim := { program := "ythoajajgbafngaa", sum := "bfcaf40c4ade088aad85d8b21e46f9daec978b95ad8a8c11bcf45f443a14ab33", func := "intervalmon/intervalmonlaw32.NetPartition", spec := "netPartition", apart := false }
def NetPartitionSaid : Prop := netPartitionRow.holds Try.pinned (OpenSpec.ofChange netPartitionSpec)

/-- ITS FALSE NEIGHBOUR: 'it returns false'. Refute it at one input. -/
def netPartitionWrong : ChangeSpec := { name := "netPartition", fn := fun _ => fun
  | [d1, d2, d3] => { results := [.lit (.bool false)], args := [d1, d2, d3] }
  | _ => none }
def NetPartitionWrongFalsely : Prop := netPartitionRow.holds Try.pinned (OpenSpec.ofChange netPartitionWrong)

/-- 'intervalmonlaw32.NetOwn': WHATEVER THE INPUT: true; the input reads as it did. -/
def netOwnSpec : ChangeSpec := { name := "netOwn", fn := fun _ => fun
  | [d] => { results := [.lit (.bool true)], args := [d] }
  | _ => none }
def netOwnRow : OpenClaim := { program := "ythoajajgbafngaa", sum := "bfcaf40c4ade088aad85d8b21e46f9daec978b95ad8a8c11bcf45f443a14ab33", func := "intervalmon/intervalmonlaw32.NetOwn", spec := "netOwn", apart := false }
def NetOwnSaid : Prop := netOwnRow.holds Try.pinned (OpenSpec.ofChange netOwnSpec)

/-- ITS FALSE NEIGHBOUR: 'it returns false'. Refute it at one input. -/
def netOwnWrong : ChangeSpec := { name := "netOwn", fn := fun _ => fun
  | [d] => { results := [.lit (.bool false)], args := [d] }
  | _ => none }
def NetOwnWrongFalsely : Prop := netOwnRow.holds Try.pinned (OpenSpec.ofChange netOwnWrong)

/- THE SECOND FORM. 'bulk': how many values and letters a reading holds, each counted each time it is reached (what is shared counts as often as it is met; a slice's spare places count too). A statement '..UptoSaid' is the law's where the arguments, and the package variables that the reading takes, are together of bulk at most 1048576: NARROWER than '..Said'. Prove '..Said' where nothing that the law and all that it calls make is longer than what came in: it says more and counts as full. Else prove '..UptoSaid'. A law counts once. -/
mutual
def uptoBulk {H : Type} : DataW H → Nat
  | .lit (.string bytes) => bytes.length + 1
  | .lit _ => 1
  | .nil => 1
  | .ptr d => uptoBulk d + 1
  | .slice elems spare => uptoBulkAll elems + uptoBulkAll spare + 1
  | .agg parts => uptoBulkAll parts + 1
  | .iface _ d => uptoBulk d + 1
  | .map entries => uptoBulkEntries entries + 1
  | .held _ => 1
def uptoBulkAll {H : Type} : List (DataW H) → Nat
  | [] => 0
  | d :: r => uptoBulk d + uptoBulkAll r
def uptoBulkEntries {H : Type} : List (Lit × DataW H) → Nat
  | [] => 0
  | x :: r => uptoBulkEntry x + uptoBulkEntries r
def uptoBulkEntry {H : Type} : Lit × DataW H → Nat
  | (.string bytes, d) => bytes.length + uptoBulk d + 1
  | (_, d) => uptoBulk d + 1
 end
def uptoSmall : (H : Type) → List (DataW H) → Bool := fun _ ds => decide (uptoBulkAll ds ≤ 1048576)
def OpenSpec.upto (s : _root_.Go.ChangeSpec) : _root_.Go.OpenSpec := { _root_.Go.OpenSpec.ofChange s with cond := some uptoSmall }

/-- 'intervalmonlaw32.NetRuns', WHERE WHAT IT READS IS OF BULK AT MOST 1048576: true; the input reads as it did. -/
def netRunsUptoRow : OpenClaim := { program := "ythoajajgbafngaa", sum := "bfcaf40c4ade088aad85d8b21e46f9daec978b95ad8a8c11bcf45f443a14ab33", func := "intervalmon/intervalmonlaw32.NetRuns", spec := "netRuns", apart := false, narrowed := true }
def NetRunsUptoSaid : Prop := netRunsUptoRow.holds Try.pinned (OpenSpec.upto netRunsSpec)

/-- 'intervalmonlaw32.NetArguments', WHERE WHAT IT READS IS OF BULK AT MOST 1048576: true; the input reads as it did. -/
def netArgumentsUptoRow : OpenClaim := { program := "ythoajajgbafngaa", sum := "bfcaf40c4ade088aad85d8b21e46f9daec978b95ad8a8c11bcf45f443a14ab33", func := "intervalmon/intervalmonlaw32.NetArguments", spec := "netArguments", apart := false, narrowed := true }
def NetArgumentsUptoSaid : Prop := netArgumentsUptoRow.holds Try.pinned (OpenSpec.upto netArgumentsSpec)

/-- 'intervalmonlaw32.NetConserves', WHERE WHAT IT READS IS OF BULK AT MOST 1048576: true; the input reads as it did. -/
def netConservesUptoRow : OpenClaim := { program := "ythoajajgbafngaa", sum := "bfcaf40c4ade088aad85d8b21e46f9daec978b95ad8a8c11bcf45f443a14ab33", func := "intervalmon/intervalmonlaw32.NetConserves", spec := "netConserves", apart := false, narrowed := true }
def NetConservesUptoSaid : Prop := netConservesUptoRow.holds Try.pinned (OpenSpec.upto netConservesSpec)

/-- 'intervalmonlaw32.NetOrder', WHERE WHAT IT READS IS OF BULK AT MOST 1048576: true; the input reads as it did. -/
def netOrderUptoRow : OpenClaim := { program := "ythoajajgbafngaa", sum := "bfcaf40c4ade088aad85d8b21e46f9daec978b95ad8a8c11bcf45f443a14ab33", func := "intervalmon/intervalmonlaw32.NetOrder", spec := "netOrder", apart := false, narrowed := true }
def NetOrderUptoSaid : Prop := netOrderUptoRow.holds Try.pinned (OpenSpec.upto netOrderSpec)

/-- 'intervalmonlaw32.NetPartition', WHERE WHAT IT READS IS OF BULK AT MOST 1048576: true; the input reads as it did. -/
def netPartitionUptoRow : OpenClaim := { program := "ythoajajgbafngaa", sum := "bfcaf40c4ade088aad85d8b21e46f9daec978b95ad8a8c11bcf45f443a14ab33", func := "intervalmon/intervalmonlaw32.NetPartition", spec := "netPartition", apart := false, narrowed := true }
def NetPartitionUptoSaid : Prop := netPartitionUptoRow.holds Try.pinned (OpenSpec.upto netPartitionSpec)

/-- 'intervalmonlaw32.NetOwn', WHERE WHAT IT READS IS OF BULK AT MOST 1048576: true; the input reads as it did. -/
def netOwnUptoRow : OpenClaim := { program := "ythoajajgbafngaa", sum := "bfcaf40c4ade088aad85d8b21e46f9daec978b95ad8a8c11bcf45f443a14ab33", func := "intervalmon/intervalmonlaw32.NetOwn", spec := "netOwn", apart := false, narrowed := true }
def NetOwnUptoSaid : Prop := netOwnUptoRow.holds Try.pinned (OpenSpec.upto netOwnSpec)

end Rows
end Go.Proofs.Ythoajajgbafngaa
