/-
  OrdersKnown: the chapter's examples: the law returns true, whatever the memory in which it is called. No condition.
-/
import Derived.Test.YtonnifoeokagjaaGreatKnown
import Derived.Test.YtonnifoeokagjaaGreatKnownJ1
import Derived.Test.YtonnifoeokagjaaGreatKnownJ2
import Derived.Test.YtonnifoeokagjaaGreatKnownJ3
import Derived.Test.YtonnifoeokagjaaGreatKnownJ4
import Derived.Test.YtonnifoeokagjaaGreatKnownJ5
import Derived.Test.YtonnifoeokagjaaGreatKnownJ6
import Derived.ProofKit
namespace Go.Proofs.YtonnifoeokagjaaGreat
open Go.ChangeShapes Go.WideShapes Go.ChangeAt Go.RowKit

theorem Tryz.own : ownKnob Tryz.prog.godebug = none := by kernel_rfl

set_option maxRecDepth 100000 in
theorem known_lifted (os : Os) (started : os.Started) (H : Type) (enc : TypeId × Value → H) :
    ReturnsInHanded {} Tryz.checked os 3 .any (Rows.ordersKnownSpec.pre6 enc Tryz.prog Tryz.f3 Rows.ordersKnownRow.domain false) (Rows.ordersKnownSpec.post enc Tryz.prog Tryz.f3 false true false false) := by
  refine returnsInHanded_of_change (C := Tryz.checked) Tryz.own started (by kernel_rfl) Tryz.func3
    (ChangeSpec.witness6 (enc := enc) (C := Tryz.checked) false ⟨#[], #[], []⟩ 8 (by kernel_rfl) (by kernel_rfl) (by kernel_rfl) (by kernel_rfl)) ?_
  intro W base args ds gs before hval0 hW hcnd _
  have hW' := hW
  obtain ⟨p, q, hA0, hV, rfl, hfz, hnd⟩ := hW
  have hA : DataW.TrodAll enc Tryz.prog W 0 (fun _ => true) true Tryz.f3.params.toList args.toList ds p := hA0
  rw [Tryz.params3] at hA
  obtain ⟨hargs, rfl, rfl⟩ := trodAll_nil hA
  obtain rfl : args = #[] := by cases args; simp_all
  obtain ⟨rfl, rfl⟩ := trodVars_none hV
  clear hA0 hval0
  simp only [List.append_nil] at hW'
  refine (known_calls W).mono fun e W' ⟨he, hb⟩ => ?_
  subst he
  exact ⟨_, rfl, _, _, _, [], _, [], hW', trodAll_mk1 (shut_bool Tryz.underlying4 _), trodAll_mk0, rfl, hb.frame _, fun h => by cases h⟩

theorem known_closed : joinedFacts Tryz.prog 3 Tryz.f3 Rows.ordersKnownSpec Rows.ordersKnownRow = true := by
  unfold joinedFacts
  rw [laid_out, maps_rowed, in_place, un_followed, re_curses, vars_named]
  kernel_rfl

theorem known_holds : Rows.OrdersKnownSaid :=
  OpenClaim.holds_of_wide 3 Tryz.f3 rfl rfl rfl rfl rfl rfl rfl ⟨rfl, rfl, rfl, rfl, rfl⟩ rfl rfl rfl rfl rfl (by kernel_rfl) Tryz.func3 known_closed
    (of_decide_eq_true (by kernel_rfl)) (by unfold Func.isWrapper; rw [if_neg (of_decide_eq_false (by kernel_rfl))]; exact ⟨rfl, rfl⟩)
    (fun os started H enc _ => known_lifted os started H enc)

#print axioms known_holds
end Go.Proofs.YtonnifoeokagjaaGreat
