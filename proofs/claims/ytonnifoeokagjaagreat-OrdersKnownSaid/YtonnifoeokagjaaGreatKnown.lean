/-
  OrdersKnown, called in whatever world, returns true and leaves what was there as it was. No condition.
-/
import Derived.Test.YtonnifoeokagjaaGreatRunK1
import Derived.Test.YtonnifoeokagjaaGreatRunK2
import Derived.Test.YtonnifoeokagjaaGreatRunK3
import Derived.Test.YtonnifoeokagjaaGreatRunF
namespace Go.Proofs.YtonnifoeokagjaaGreat
open Go Go.RowKit
open Abs

theorem known_calls (w : World) : Calls Tryz.prog 3 #[] w fun e w' => e = .returned (.bool true) ∧ Below w.heap.size w w' := by
  intro cs
  obtain ⟨f1, cs1, w1, s1, m1⟩ := runTo_sound pk (start_sound kstart_eq w cs) seg1
  obtain ⟨f2, cs2, w2, s2, m2⟩ := runTo_sound pk m1 seg2
  obtain ⟨f3, w3, s3, h1, h2, h3⟩ := runEnd_sound pk m2 seg3
  exact ⟨_, w3, f3, ⟨rfl, h3⟩, (s1.trans s2).trans s3, h1, h2⟩

end Go.Proofs.YtonnifoeokagjaaGreat
