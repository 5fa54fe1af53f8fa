/-
  Binary operations of the abstract machine are those of the machine. No condition.
-/
import Derived.Test.YtonnifoeokagjaaGreatRunQ1
namespace Go.Proofs.YtonnifoeokagjaaGreat
open Go Go.RowKit
namespace Abs

theorem asInt_sound {r : Rho} {a : AV} {x : Value} {k : IntKind} {n : Int} (h : asInt? a = some (k, n)) (hv : VR r a x) : x = .int k n := by
  unfold asInt? at h
  split at h
  · cases hv
    split at h
    · injection h with h; injection h with h1 h2; subst h1; subst h2; rfl
    · cases h
  · cases h
theorem intG_sound {r : Rho} {a : AV} {x : Value} {n : Int} (h : intG a = some n) (hv : VR r a x) : ∃ k, x = .int k n := by
  unfold intG at h
  split at h
  · cases hv
    injection h with h; subst h; exact ⟨_, rfl⟩
  · cases h

theorem eqGuard_odd {P : Program} {op : BinOp} {t : TypeId} {x y : Operand} {u v : Value} (ho : Odd u v) (w : World) : (eqGuard op t x y u v).run P w = .ok () w := by
  unfold eqGuard
  obtain ⟨h1, h2, _⟩ := ho
  cases op <;> simp only [Bool.not_true, Bool.not_false, if_true, Bool.false_eq_true, if_false, Sem.run_pure] <;> try rfl
  all_goals
    split
    · exact absurd ⟨rfl, rfl⟩ h1
    · exact absurd rfl (h2 _)
    · rfl

theorem binOp_eql_odd {P : Program} {t : TypeId} {u v : Value} (ho : Odd u v) {q : Bool} {w : World} (h : (Op.equalIn (9999 + 1) t u v).run P w = .ok q w) :
    (binOp .eql t u v).run P w = .ok (.bool q) w ∧ (binOp .neq t u v).run P w = .ok (.bool (!q)) w := by
  obtain ⟨_, _, h3, h4, h5, h6⟩ := ho
  have e1 : binOp .eql t u v = (Op.equal t u v >>= fun b => pure (.bool b)) := by
    unfold binOp
    split <;> first | rfl | (exfalso; first | exact h3 _ _ rfl | exact h4 _ rfl | exact h5 _ _ rfl | exact h6 _ _ _ rfl | simp_all)
  have e2 : binOp .neq t u v = (Op.equal t u v >>= fun b => pure (.bool (!b))) := by
    unfold binOp
    split <;> first | rfl | (exfalso; first | exact h3 _ _ rfl | exact h4 _ rfl | exact h5 _ _ rfl | exact h6 _ _ _ rfl | simp_all)
  have e3 : (Op.equal t u v).run P w = .ok q w := h
  rw [e1, e2]
  constructor <;> simp [e3]

theorem abinS_sound (P : Program) {r : Rho} {h : Heap} {nx : Nat} {w0 w : World} (hr : HR r h nx w0 w) {op : BinOp} {t : TypeId} {x y : Operand} {a b v : AV} {u u' : Value} (ha : VR r a u) (hb : VR r b u')
    (he : abinS P h op t x y a b = some v) : ∃ z, ((do eqGuard op t x y u u'; binOp op t u u' : Sem Value)).run P w = .ok z w ∧ VR r v z := by
  have key : abinE P h op t a b = some v → ∃ z, ((do eqGuard op t x y u u'; binOp op t u u' : Sem Value)).run P w = .ok z w ∧ VR r v z := by
    intro he
    unfold abinE at he
    split at he
    · split at he
      · rename_i q hq
        injection he with he; subst he
        obtain ⟨h1, h2⟩ := aeql_sound P hr ha hb hq 9999
        exact ⟨_, by simp only [Sem.run_bind, eqGuard_odd h2, Result.andThen_ok, (binOp_eql_odd h2 h1).1], .g _⟩
      · cases he
    · split at he
      · rename_i q hq
        injection he with he; subst he
        obtain ⟨h1, h2⟩ := aeql_sound P hr ha hb hq 9999
        exact ⟨_, by simp only [Sem.run_bind, eqGuard_odd h2, Result.andThen_ok, (binOp_eql_odd h2 h1).2], .g _⟩
      · cases he
    · cases he
  unfold abinS at he
  split at he
  · rename_i p hp
    split at he
    · rename_i p' hp'
      obtain rfl := toG_sound _ _ _ hp ha
      obtain rfl := toG_sound _ _ _ hp' hb
      unfold abinG at he
      split at he
      · rename_i z hz
        injection he with he; subst he
        exact ⟨z, pureRun_sound P _ _ hz w, .g z⟩
      · cases he
    · exact key he
  · exact key he

theorem abin_sound (P : Program) {r : Rho} {h : Heap} {nx : Nat} {w0 w : World} (hr : HR r h nx w0 w) {op : BinOp} {t : TypeId} {x y : Operand} {a b v : AV} {u u' : Value} (ha : VR r a u) (hb : VR r b u')
    (he : abin P h op t x y a b = some v) : ∃ z, ((do eqGuard op t x y u u'; binOp op t u u' : Sem Value)).run P w = .ok z w ∧ VR r v z := by
  unfold abin at he
  split at he
  · rename_i k m hk
    split at he
    · rename_i k' n hk'
      split at he
      · rename_i hkk
        subst hkk
        split at he
        · rename_i z hz
          injection he with he; subst he
          obtain rfl := asInt_sound hk ha
          obtain rfl := asInt_sound hk' hb
          unfold intOp at hz
          split at hz
          all_goals first | (injection hz with hz; subst hz) | cases hz
          · exact ⟨_, by simp [eqGuard, binOp, Op.intArith, wrapF_eq], .g _⟩
          · exact ⟨_, by simp [eqGuard, binOp, Op.intArith, wrapF_eq], .g _⟩
          · exact ⟨_, by simp [eqGuard, binOp, Op.intCmp], .g _⟩
          · exact ⟨_, by simp [eqGuard, binOp, Op.intCmp], .g _⟩
          · exact ⟨_, by simp [eqGuard, binOp, Op.intCmp], .g _⟩
          · exact ⟨_, by simp [eqGuard, binOp, Op.intCmp], .g _⟩
          · exact ⟨_, by simp [eqGuard, binOp, Op.intCmp], .g _⟩
          · exact ⟨_, by simp [eqGuard, binOp, Op.intCmp], .g _⟩
        · exact abinS_sound P hr ha hb he
      · exact abinS_sound P hr ha hb he
    · exact abinS_sound P hr ha hb he
  · exact abinS_sound P hr ha hb he

end Abs
end Go.Proofs.YtonnifoeokagjaaGreat
