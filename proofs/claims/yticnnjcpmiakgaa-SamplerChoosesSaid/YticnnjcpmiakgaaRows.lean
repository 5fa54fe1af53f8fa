/-
  No cell of these rows narrows 'for every input' (looked for: loops, veiled, ifaces, maps, wideKeys, modest, calm, conditions, laid).
  DERIVED. THE GIVEN ROWS OF THIS SEAT. 5 by the template 'for every input the law returns true; each argument reads behind the call as it read before'; 0 by the template 'total and deterministic' (their statements: YticnnjcpmiakgaaTotals.lean).
  GIVEN WITH THE SEED: the statements are not yours to turn. If you find one false, say at which input.
  Laid BY PROGRAM, IN A SANDBOX (cutbox-rows.mjs): the forced cells as the released guide's own fill.sh prints them over the translation f6610746a5a639e7… (all of the seat's roots in one cut). By AI agents, Wed Nov 11 2026. No macro, syntax, notation, axiom, sorry.
-/
import Derived.Test.YticnnjcpmiakgaaChecked
import GoSem.Claim
import GoSem.ClaimJoined
import GoSem.ClaimMapViews
import Derived.JoinedTies
import Derived.KernelRfl
namespace Go.Proofs.Yticnnjcpmiakgaa
/- THE CELL 'sum', in the pinned program and in every row, IS THE sha256 OF THE DUMP (.gsa) THAT YticnnjcpmiakgaaProg.lean LOADS. Nothing in Lean hashes anything: it is a label: what it is worth is what the hold of that sum in a sandbox is worth. -/
noncomputable def Try.pinned : Pinned := { name := "yticnnjcpmiakgaa", sum := "f6610746a5a639e7370263b2f1f7234034436d05f3c4a185a101ef24fae582d3", checked := Try.checked }
namespace Rows
def none {H : Type} : Left H := { results := [], args := [] }

/-- 'marshallinglaw25.SamplerKnown': WHATEVER THE INPUT: true; the input reads as it did. -/
def samplerKnownSpec : ChangeSpec := { name := "samplerKnown", fn := fun _ => fun
  | [] => { results := [.lit (.bool true)], args := [] }
  | _ => none }
def samplerKnownRow : OpenClaim := { program := "yticnnjcpmiakgaa", sum := "f6610746a5a639e7370263b2f1f7234034436d05f3c4a185a101ef24fae582d3", func := "marshalling/marshallinglaw25.SamplerKnown", spec := "samplerKnown", unfollowed := true, recurses := true, apart := false }
def SamplerKnownSaid : Prop := samplerKnownRow.holds Try.pinned (OpenSpec.ofChange samplerKnownSpec)

/-- ITS FALSE NEIGHBOUR: 'it returns false'. Refute it at one input. -/
def samplerKnownWrong : ChangeSpec := { name := "samplerKnown", fn := fun _ => fun
  | [] => { results := [.lit (.bool false)], args := [] }
  | _ => none }
def SamplerKnownWrongFalsely : Prop := samplerKnownRow.holds Try.pinned (OpenSpec.ofChange samplerKnownWrong)

/-- 'marshallinglaw25.SamplerChooses': WHATEVER THE INPUT: true; the input reads as it did. -/
def samplerChoosesSpec : ChangeSpec := { name := "samplerChooses", fn := fun _ => fun
  | [d1, d2] => { results := [.lit (.bool true)], args := [d1, d2] }
  | _ => none }
def samplerChoosesRow : OpenClaim := { program := "yticnnjcpmiakgaa", sum := "f6610746a5a639e7370263b2f1f7234034436d05f3c4a185a101ef24fae582d3", func := "marshalling/marshallinglaw25.SamplerChooses", spec := "samplerChooses", unfollowed := true, recurses := true, apart := false }
def SamplerChoosesSaid : Prop := samplerChoosesRow.holds Try.pinned (OpenSpec.ofChange samplerChoosesSpec)

/-- ITS FALSE NEIGHBOUR: 'it returns false'. Refute it at one input. -/
def samplerChoosesWrong : ChangeSpec := { name := "samplerChooses", fn := fun _ => fun
  | [d1, d2] => { results := [.lit (.bool false)], args := [d1, d2] }
  | _ => none }
def SamplerChoosesWrongFalsely : Prop := samplerChoosesRow.holds Try.pinned (OpenSpec.ofChange samplerChoosesWrong)

/-- 'marshallinglaw25.SamplerMeans': WHATEVER THE INPUT: true; the input reads as it did. -/
def samplerMeansSpec : ChangeSpec := { name := "samplerMeans", fn := fun _ => fun
  | [d1, d2, d3] => { results := [.lit (.bool true)], args := [d1, d2, d3] }
  | _ => none }
def samplerMeansRow : OpenClaim := { program := "yticnnjcpmiakgaa", sum := "f6610746a5a639e7370263b2f1f7234034436d05f3c4a185a101ef24fae582d3", func := "marshalling/marshallinglaw25.SamplerMeans", spec := "samplerMeans", unfollowed := true, recurses := true, apart := false }
def SamplerMeansSaid : Prop := samplerMeansRow.holds Try.pinned (OpenSpec.ofChange samplerMeansSpec)

/-- ITS FALSE NEIGHBOUR: 'it returns false'. Refute it at one input. -/
def samplerMeansWrong : ChangeSpec := { name := "samplerMeans", fn := fun _ => fun
  | [d1, d2, d3] => { results := [.lit (.bool false)], args := [d1, d2, d3] }
  | _ => none }
def SamplerMeansWrongFalsely : Prop := samplerMeansRow.holds Try.pinned (OpenSpec.ofChange samplerMeansWrong)

/-- 'marshallinglaw25.SamplerScale': WHATEVER THE INPUT: true; the input reads as it did. -/
def samplerScaleSpec : ChangeSpec := { name := "samplerScale", fn := fun _ => fun
  | [d1, d2, d3] => { results := [.lit (.bool true)], args := [d1, d2, d3] }
  | _ => none }
def samplerScaleRow : OpenClaim := { program := "yticnnjcpmiakgaa", sum := "f6610746a5a639e7370263b2f1f7234034436d05f3c4a185a101ef24fae582d3", func := "marshalling/marshallinglaw25.SamplerScale", spec := "samplerScale", unfollowed := true, recurses := true, apart := false }
def SamplerScaleSaid : Prop := samplerScaleRow.holds Try.pinned (OpenSpec.ofChange samplerScaleSpec)

/-- ITS FALSE NEIGHBOUR: 'it returns false'. Refute it at one input. -/
def samplerScaleWrong : ChangeSpec := { name := "samplerScale", fn := fun _ => fun
  | [d1, d2, d3] => { results := [.lit (.bool false)], args := [d1, d2, d3] }
  | _ => none }
def SamplerScaleWrongFalsely : Prop := samplerScaleRow.holds Try.pinned (OpenSpec.ofChange samplerScaleWrong)

/-- 'marshallinglaw25.SamplerTwice': WHATEVER THE INPUT: true; the input reads as it did. -/
def samplerTwiceSpec : ChangeSpec := { name := "samplerTwice", fn := fun _ => fun
  | [d1, d2] => { results := [.lit (.bool true)], args := [d1, d2] }
  | _ => none }
def samplerTwiceRow : OpenClaim := { program := "yticnnjcpmiakgaa", sum := "f6610746a5a639e7370263b2f1f7234034436d05f3c4a185a101ef24fae582d3", func := "marshalling/marshallinglaw25.SamplerTwice", spec := "samplerTwice", unfollowed := true, recurses := true, apart := false }
def SamplerTwiceSaid : Prop := samplerTwiceRow.holds Try.pinned (OpenSpec.ofChange samplerTwiceSpec)

/-- ITS FALSE NEIGHBOUR: 'it returns false'. Refute it at one input. -/
def samplerTwiceWrong : ChangeSpec := { name := "samplerTwice", fn := fun _ => fun
  | [d1, d2] => { results := [.lit (.bool false)], args := [d1, d2] }
  | _ => none }
def SamplerTwiceWrongFalsely : Prop := samplerTwiceRow.holds Try.pinned (OpenSpec.ofChange samplerTwiceWrong)

/- THE SECOND FORM. 'bulk': how many values and letters a reading holds, each counted each time it is reached (what is shared counts as often as it is met; a slice's spare places count too). A statement '..UptoSaid' is the law's where the arguments, and the package variables that the reading takes, are together of bulk at most 1048576: NARROWER than '..Said'. Prove '..Said' where nothing that the law and all that it calls make is longer than what came in: it says more and counts as full. Else prove '..UptoSaid'. A law counts once. -/
mutual
def uptoBulk {H : Type} : DataW H → Nat
  | .lit (.string bytes) => bytes.length + 1
  | .lit _ => 1
  | .nil => 1
  | .ptr d => uptoBulk d + 1
  | .slice elems spare => uptoBulkAll elems + uptoBulkAll spare + 1
  | .agg parts => uptoBulkAll parts + 1
  | .iface _ d => uptoBulk d + 1
  | .map entries => uptoBulkEntries entries + 1
  | .held _ => 1
def uptoBulkAll {H : Type} : List (DataW H) → Nat
  | [] => 0
  | d :: r => uptoBulk d + uptoBulkAll r
def uptoBulkEntries {H : Type} : List (Lit × DataW H) → Nat
  | [] => 0
  | x :: r => uptoBulkEntry x + uptoBulkEntries r
def uptoBulkEntry {H : Type} : Lit × DataW H → Nat
  | (.string bytes, d) => bytes.length + uptoBulk d + 1
  | (_, d) => uptoBulk d + 1
 end
def uptoSmall : (H : Type) → List (DataW H) → Bool := fun _ ds => decide (uptoBulkAll ds ≤ 1048576)
def OpenSpec.upto (s : _root_.Go.ChangeSpec) : _root_.Go.OpenSpec := { _root_.Go.OpenSpec.ofChange s with cond := some uptoSmall }

/-- 'marshallinglaw25.SamplerKnown', WHERE WHAT IT READS IS OF BULK AT MOST 1048576: true; the input reads as it did. -/
def samplerKnownUptoRow : OpenClaim := { program := "yticnnjcpmiakgaa", sum := "f6610746a5a639e7370263b2f1f7234034436d05f3c4a185a101ef24fae582d3", func := "marshalling/marshallinglaw25.SamplerKnown", spec := "samplerKnown", unfollowed := true, recurses := true, apart := false, narrowed := true }
def SamplerKnownUptoSaid : Prop := samplerKnownUptoRow.holds Try.pinned (OpenSpec.upto samplerKnownSpec)

/-- 'marshallinglaw25.SamplerChooses', WHERE WHAT IT READS IS OF BULK AT MOST 1048576: true; the input reads as it did. -/
def samplerChoosesUptoRow : OpenClaim := { program := "yticnnjcpmiakgaa", sum := "f6610746a5a639e7370263b2f1f7234034436d05f3c4a185a101ef24fae582d3", func := "marshalling/marshallinglaw25.SamplerChooses", spec := "samplerChooses", unfollowed := true, recurses := true, apart := false, narrowed := true }
def SamplerChoosesUptoSaid : Prop := samplerChoosesUptoRow.holds Try.pinned (OpenSpec.upto samplerChoosesSpec)

/-- 'marshallinglaw25.SamplerMeans', WHERE WHAT IT READS IS OF BULK AT MOST 1048576: true; the input reads as it did. -/
def samplerMeansUptoRow : OpenClaim := { program := "yticnnjcpmiakgaa", sum := "f6610746a5a639e7370263b2f1f7234034436d05f3c4a185a101ef24fae582d3", func := "marshalling/marshallinglaw25.SamplerMeans", spec := "samplerMeans", unfollowed := true, recurses := true, apart := false, narrowed := true }
def SamplerMeansUptoSaid : Prop := samplerMeansUptoRow.holds Try.pinned (OpenSpec.upto samplerMeansSpec)

/-- 'marshallinglaw25.SamplerScale', WHERE WHAT IT READS IS OF BULK AT MOST 1048576: true; the input reads as it did. -/
def samplerScaleUptoRow : OpenClaim := { program := "yticnnjcpmiakgaa", sum := "f6610746a5a639e7370263b2f1f7234034436d05f3c4a185a101ef24fae582d3", func := "marshalling/marshallinglaw25.SamplerScale", spec := "samplerScale", unfollowed := true, recurses := true, apart := false, narrowed := true }
def SamplerScaleUptoSaid : Prop := samplerScaleUptoRow.holds Try.pinned (OpenSpec.upto samplerScaleSpec)

/-- 'marshallinglaw25.SamplerTwice', WHERE WHAT IT READS IS OF BULK AT MOST 1048576: true; the input reads as it did. -/
def samplerTwiceUptoRow : OpenClaim := { program := "yticnnjcpmiakgaa", sum := "f6610746a5a639e7370263b2f1f7234034436d05f3c4a185a101ef24fae582d3", func := "marshalling/marshallinglaw25.SamplerTwice", spec := "samplerTwice", unfollowed := true, recurses := true, apart := false, narrowed := true }
def SamplerTwiceUptoSaid : Prop := samplerTwiceUptoRow.holds Try.pinned (OpenSpec.upto samplerTwiceSpec)

end Rows
end Go.Proofs.Yticnnjcpmiakgaa
