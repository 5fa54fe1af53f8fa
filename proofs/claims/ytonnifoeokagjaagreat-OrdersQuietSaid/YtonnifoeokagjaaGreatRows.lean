/-
  No cell of these rows narrows 'for every input' (looked for: loops, veiled, ifaces, maps, wideKeys, modest, calm, conditions, laid).
  DERIVED. THE GIVEN ROWS OF THIS SEAT. 3 by the template 'for every input the law returns true; each argument reads behind the call as it read before'; 0 by the template 'total and deterministic' (their statements: YtonnifoeokagjaaGreatTotals.lean).
  GIVEN WITH THE SEED: the statements are not yours to turn. If you find one false, say at which input.
  Laid BY PROGRAM, IN A SANDBOX (cutbox-rows.mjs): the forced cells as the released guide's own fill.sh prints them over the translation 7db3ca4f761eccd8… (all of the seat's roots in one cut). By AI agents, Wed Nov 11 2026. No macro, syntax, notation, axiom, sorry.
-/
import Derived.Test.YtonnifoeokagjaaGreatChecked
import GoSem.Claim
import GoSem.ClaimJoined
import GoSem.ClaimMapViews
import Derived.JoinedTies
import Derived.KernelRfl
namespace Go.Proofs.YtonnifoeokagjaaGreat
/- THE CELL 'sum', in the pinned program and in every row, IS THE sha256 OF THE DUMP (.gsa) THAT YtonnifoeokagjaaGreatProg.lean LOADS. Nothing in Lean hashes anything: it is a label: what it is worth is what the hold of that sum in a sandbox is worth. -/
noncomputable def Tryz.pinned : Pinned := { name := "ytonnifoeokagjaagreat", sum := "7db3ca4f761eccd8d9e60083cc8e182451416620884a77959414bbc35775e2f5", checked := Tryz.checked }
namespace Rows
def none {H : Type} : Left H := { results := [], args := [] }

/-- 'marshallinglaw24.OrdersKnown': WHATEVER THE INPUT: true; the input reads as it did. -/
def ordersKnownSpec : ChangeSpec := { name := "ordersKnown", fn := fun _ => fun
  | [] => { results := [.lit (.bool true)], args := [] }
  | _ => none }
def ordersKnownRow : OpenClaim := { program := "ytonnifoeokagjaagreat", sum := "7db3ca4f761eccd8d9e60083cc8e182451416620884a77959414bbc35775e2f5", func := "marshalling/marshallinglaw24.OrdersKnown", spec := "ordersKnown", inPlace := ["internal/bytealg.abigen_runtime_cmpstring", "sync/atomic.LoadUint64", "sync/atomic.CompareAndSwapUint64", "sync/atomic.StorePointer", "sync/atomic.LoadUint32", "(*internal/sync.Mutex).Lock", "internal/race.Disable", "sync/atomic.CompareAndSwapInt32", "internal/race.Enable", "internal/race.Acquire", "(*internal/sync.Mutex).lockSlow", "internal/sync.runtime_canSpin", "internal/sync.runtime_doSpin", "internal/sync.throw", "internal/sync.runtime_nanotime", "internal/sync.runtime_SemacquireMutex", "sync/atomic.AddInt32", "(*internal/sync.Mutex).Unlock", "internal/race.ReleaseMerge", "(*internal/sync.Mutex).unlockSlow", "internal/sync.fatal", "internal/sync.runtime_Semrelease", "sync/atomic.StoreUint32", "sync/atomic.LoadPointer"], unfollowed := true, recurses := true, apart := false }
def OrdersKnownSaid : Prop := ordersKnownRow.holds Tryz.pinned (OpenSpec.ofChange ordersKnownSpec)

/-- ITS FALSE NEIGHBOUR: 'it returns false'. Refute it at one input. -/
def ordersKnownWrong : ChangeSpec := { name := "ordersKnown", fn := fun _ => fun
  | [] => { results := [.lit (.bool false)], args := [] }
  | _ => none }
def OrdersKnownWrongFalsely : Prop := ordersKnownRow.holds Tryz.pinned (OpenSpec.ofChange ordersKnownWrong)

/-- 'marshallinglaw24.OrdersPlans': WHATEVER THE INPUT: true; the input reads as it did. -/
def ordersPlansSpec : ChangeSpec := { name := "ordersPlans", fn := fun _ => fun
  | [d1, d2, d3, d4] => { results := [.lit (.bool true)], args := [d1, d2, d3, d4] }
  | _ => none }
def ordersPlansRow : OpenClaim := { program := "ytonnifoeokagjaagreat", sum := "7db3ca4f761eccd8d9e60083cc8e182451416620884a77959414bbc35775e2f5", func := "marshalling/marshallinglaw24.OrdersPlans", spec := "ordersPlans", inPlace := ["internal/bytealg.abigen_runtime_cmpstring", "sync/atomic.LoadUint64", "sync/atomic.CompareAndSwapUint64", "sync/atomic.StorePointer", "sync/atomic.LoadUint32", "(*internal/sync.Mutex).Lock", "internal/race.Disable", "sync/atomic.CompareAndSwapInt32", "internal/race.Enable", "internal/race.Acquire", "(*internal/sync.Mutex).lockSlow", "internal/sync.runtime_canSpin", "internal/sync.runtime_doSpin", "internal/sync.throw", "internal/sync.runtime_nanotime", "internal/sync.runtime_SemacquireMutex", "sync/atomic.AddInt32", "(*internal/sync.Mutex).Unlock", "internal/race.ReleaseMerge", "(*internal/sync.Mutex).unlockSlow", "internal/sync.fatal", "internal/sync.runtime_Semrelease", "sync/atomic.StoreUint32", "sync/atomic.LoadPointer"], unfollowed := true, recurses := true, apart := false }
def OrdersPlansSaid : Prop := ordersPlansRow.holds Tryz.pinned (OpenSpec.ofChange ordersPlansSpec)

/-- ITS FALSE NEIGHBOUR: 'it returns false'. Refute it at one input. -/
def ordersPlansWrong : ChangeSpec := { name := "ordersPlans", fn := fun _ => fun
  | [d1, d2, d3, d4] => { results := [.lit (.bool false)], args := [d1, d2, d3, d4] }
  | _ => none }
def OrdersPlansWrongFalsely : Prop := ordersPlansRow.holds Tryz.pinned (OpenSpec.ofChange ordersPlansWrong)

/-- 'marshallinglaw24.OrdersQuiet': WHATEVER THE INPUT: true; the input reads as it did. -/
def ordersQuietSpec : ChangeSpec := { name := "ordersQuiet", fn := fun _ => fun
  | [d1, d2, d3, d4] => { results := [.lit (.bool true)], args := [d1, d2, d3, d4] }
  | _ => none }
def ordersQuietRow : OpenClaim := { program := "ytonnifoeokagjaagreat", sum := "7db3ca4f761eccd8d9e60083cc8e182451416620884a77959414bbc35775e2f5", func := "marshalling/marshallinglaw24.OrdersQuiet", spec := "ordersQuiet", inPlace := ["internal/bytealg.abigen_runtime_cmpstring", "sync/atomic.LoadUint64", "sync/atomic.CompareAndSwapUint64", "sync/atomic.StorePointer", "sync/atomic.LoadUint32", "(*internal/sync.Mutex).Lock", "internal/race.Disable", "sync/atomic.CompareAndSwapInt32", "internal/race.Enable", "internal/race.Acquire", "(*internal/sync.Mutex).lockSlow", "internal/sync.runtime_canSpin", "internal/sync.runtime_doSpin", "internal/sync.throw", "internal/sync.runtime_nanotime", "internal/sync.runtime_SemacquireMutex", "sync/atomic.AddInt32", "(*internal/sync.Mutex).Unlock", "internal/race.ReleaseMerge", "(*internal/sync.Mutex).unlockSlow", "internal/sync.fatal", "internal/sync.runtime_Semrelease", "sync/atomic.StoreUint32", "sync/atomic.LoadPointer"], unfollowed := true, recurses := true, apart := false }
def OrdersQuietSaid : Prop := ordersQuietRow.holds Tryz.pinned (OpenSpec.ofChange ordersQuietSpec)

/-- ITS FALSE NEIGHBOUR: 'it returns false'. Refute it at one input. -/
def ordersQuietWrong : ChangeSpec := { name := "ordersQuiet", fn := fun _ => fun
  | [d1, d2, d3, d4] => { results := [.lit (.bool false)], args := [d1, d2, d3, d4] }
  | _ => none }
def OrdersQuietWrongFalsely : Prop := ordersQuietRow.holds Tryz.pinned (OpenSpec.ofChange ordersQuietWrong)

/- THE SECOND FORM. 'bulk': how many values and letters a reading holds, each counted each time it is reached (what is shared counts as often as it is met; a slice's spare places count too). A statement '..UptoSaid' is the law's where the arguments, and the package variables that the reading takes, are together of bulk at most 1048576: NARROWER than '..Said'. Prove '..Said' where nothing that the law and all that it calls make is longer than what came in: it says more and counts as full. Else prove '..UptoSaid'. A law counts once. -/
mutual
def uptoBulk {H : Type} : DataW H → Nat
  | .lit (.string bytes) => bytes.length + 1
  | .lit _ => 1
  | .nil => 1
  | .ptr d => uptoBulk d + 1
  | .slice elems spare => uptoBulkAll elems + uptoBulkAll spare + 1
  | .agg parts => uptoBulkAll parts + 1
  | .iface _ d => uptoBulk d + 1
  | .map entries => uptoBulkEntries entries + 1
  | .held _ => 1
def uptoBulkAll {H : Type} : List (DataW H) → Nat
  | [] => 0
  | d :: r => uptoBulk d + uptoBulkAll r
def uptoBulkEntries {H : Type} : List (Lit × DataW H) → Nat
  | [] => 0
  | x :: r => uptoBulkEntry x + uptoBulkEntries r
def uptoBulkEntry {H : Type} : Lit × DataW H → Nat
  | (.string bytes, d) => bytes.length + uptoBulk d + 1
  | (_, d) => uptoBulk d + 1
 end
def uptoSmall : (H : Type) → List (DataW H) → Bool := fun _ ds => decide (uptoBulkAll ds ≤ 1048576)
def OpenSpec.upto (s : _root_.Go.ChangeSpec) : _root_.Go.OpenSpec := { _root_.Go.OpenSpec.ofChange s with cond := some uptoSmall }

/-- 'marshallinglaw24.OrdersKnown', WHERE WHAT IT READS IS OF BULK AT MOST 1048576: true; the input reads as it did. -/
def ordersKnownUptoRow : OpenClaim := { program := "ytonnifoeokagjaagreat", sum := "7db3ca4f761eccd8d9e60083cc8e182451416620884a77959414bbc35775e2f5", func := "marshalling/marshallinglaw24.OrdersKnown", spec := "ordersKnown", inPlace := ["internal/bytealg.abigen_runtime_cmpstring", "sync/atomic.LoadUint64", "sync/atomic.CompareAndSwapUint64", "sync/atomic.StorePointer", "sync/atomic.LoadUint32", "(*internal/sync.Mutex).Lock", "internal/race.Disable", "sync/atomic.CompareAndSwapInt32", "internal/race.Enable", "internal/race.Acquire", "(*internal/sync.Mutex).lockSlow", "internal/sync.runtime_canSpin", "internal/sync.runtime_doSpin", "internal/sync.throw", "internal/sync.runtime_nanotime", "internal/sync.runtime_SemacquireMutex", "sync/atomic.AddInt32", "(*internal/sync.Mutex).Unlock", "internal/race.ReleaseMerge", "(*internal/sync.Mutex).unlockSlow", "internal/sync.fatal", "internal/sync.runtime_Semrelease", "sync/atomic.StoreUint32", "sync/atomic.LoadPointer"], unfollowed := true, recurses := true, apart := false, narrowed := true }
def OrdersKnownUptoSaid : Prop := ordersKnownUptoRow.holds Tryz.pinned (OpenSpec.upto ordersKnownSpec)

/-- 'marshallinglaw24.OrdersPlans', WHERE WHAT IT READS IS OF BULK AT MOST 1048576: true; the input reads as it did. -/
def ordersPlansUptoRow : OpenClaim := { program := "ytonnifoeokagjaagreat", sum := "7db3ca4f761eccd8d9e60083cc8e182451416620884a77959414bbc35775e2f5", func := "marshalling/marshallinglaw24.OrdersPlans", spec := "ordersPlans", inPlace := ["internal/bytealg.abigen_runtime_cmpstring", "sync/atomic.LoadUint64", "sync/atomic.CompareAndSwapUint64", "sync/atomic.StorePointer", "sync/atomic.LoadUint32", "(*internal/sync.Mutex).Lock", "internal/race.Disable", "sync/atomic.CompareAndSwapInt32", "internal/race.Enable", "internal/race.Acquire", "(*internal/sync.Mutex).lockSlow", "internal/sync.runtime_canSpin", "internal/sync.runtime_doSpin", "internal/sync.throw", "internal/sync.runtime_nanotime", "internal/sync.runtime_SemacquireMutex", "sync/atomic.AddInt32", "(*internal/sync.Mutex).Unlock", "internal/race.ReleaseMerge", "(*internal/sync.Mutex).unlockSlow", "internal/sync.fatal", "internal/sync.runtime_Semrelease", "sync/atomic.StoreUint32", "sync/atomic.LoadPointer"], unfollowed := true, recurses := true, apart := false, narrowed := true }
def OrdersPlansUptoSaid : Prop := ordersPlansUptoRow.holds Tryz.pinned (OpenSpec.upto ordersPlansSpec)

/-- 'marshallinglaw24.OrdersQuiet', WHERE WHAT IT READS IS OF BULK AT MOST 1048576: true; the input reads as it did. -/
def ordersQuietUptoRow : OpenClaim := { program := "ytonnifoeokagjaagreat", sum := "7db3ca4f761eccd8d9e60083cc8e182451416620884a77959414bbc35775e2f5", func := "marshalling/marshallinglaw24.OrdersQuiet", spec := "ordersQuiet", inPlace := ["internal/bytealg.abigen_runtime_cmpstring", "sync/atomic.LoadUint64", "sync/atomic.CompareAndSwapUint64", "sync/atomic.StorePointer", "sync/atomic.LoadUint32", "(*internal/sync.Mutex).Lock", "internal/race.Disable", "sync/atomic.CompareAndSwapInt32", "internal/race.Enable", "internal/race.Acquire", "(*internal/sync.Mutex).lockSlow", "internal/sync.runtime_canSpin", "internal/sync.runtime_doSpin", "internal/sync.throw", "internal/sync.runtime_nanotime", "internal/sync.runtime_SemacquireMutex", "sync/atomic.AddInt32", "(*internal/sync.Mutex).Unlock", "internal/race.ReleaseMerge", "(*internal/sync.Mutex).unlockSlow", "internal/sync.fatal", "internal/sync.runtime_Semrelease", "sync/atomic.StoreUint32", "sync/atomic.LoadPointer"], unfollowed := true, recurses := true, apart := false, narrowed := true }
def OrdersQuietUptoSaid : Prop := ordersQuietUptoRow.holds Tryz.pinned (OpenSpec.upto ordersQuietSpec)

end Rows
end Go.Proofs.YtonnifoeokagjaaGreat
