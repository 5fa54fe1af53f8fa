/-
  The steps of the machine itself, at a frame that runs or returns. No condition.
-/
import Derived.Test.YtonnifoeokagjaaGreatRunE4
import Derived.Defers
namespace Go.Proofs.YtonnifoeokagjaaGreat
open Go Go.RowKit
namespace Abs

/-! The steps of the machine itself, at a frame that runs. -/
section steps
variable {P : Program} {f : Frame} {k : List Item} {cs : List Frame} {w : World}

theorem c_to {i : Item} {todo : List Item} (hm : f.mode = .run) (ht : f.todo = i :: k)
    (h : (i = .code .skip ∧ todo = k) ∨ (∃ id, i = .inBlock id ∧ todo = k) ∨ (∃ a b, i = .code (.seq a b) ∧ todo = .code a :: .code b :: k) ∨ (∃ id b, i = .code (.block id b) ∧ todo = .code b :: .inBlock id :: k) ∨
      (∃ b, i = .code (.loop b) ∧ todo = .code b :: .inLoop b :: k) ∨ (∃ b, i = .inLoop b ∧ todo = .code b :: .inLoop b :: k) ∨ (∃ id ops, i = .code (.region id ops false) ∧ todo = .inRegion ops (List.range ops.size) :: k) ∨
      (∃ ops, i = .inRegion ops [] ∧ todo = k)) :
    step P (lone f cs w) = .next (lone { f with todo } cs w) := by
  obtain ⟨fn, tmps, td, defers, mode, kind, roundOf⟩ := f
  simp only at hm ht
  subst hm; subst ht
  refine step_lone_go ?_
  rcases h with ⟨rfl, rfl⟩ | ⟨id, rfl, rfl⟩ | ⟨a, b, rfl, rfl⟩ | ⟨id, b, rfl, rfl⟩ | ⟨b, rfl, rfl⟩ | ⟨b, rfl, rfl⟩ | ⟨id, ops, rfl, rfl⟩ | ⟨ops, rfl, rfl⟩ <;> simp [stepG, stepG.exec]

theorem c_cond {c : Operand} {x y : Code} {t : Bool} (hm : f.mode = .run) (ht : f.todo = .code (.cond c x y) :: k) (h : f.eval c = .bool t) :
    step P (lone f cs w) = .next (lone { f with todo := .code (if t then x else y) :: k } cs w) := by
  obtain ⟨fn, tmps, td, defers, mode, kind, roundOf⟩ := f
  simp only at hm ht
  subst hm; subst ht
  exact step_lone_go (by simp [stepG, stepG.exec, h])

theorem c_exit {id : Nat} {k' : List Item} (hm : f.mode = .run) (ht : f.todo = .code (.exit id) :: k) (h : exitTo id k = some k') :
    step P (lone f cs w) = .next (lone { f with todo := k' } cs w) := by
  obtain ⟨fn, tmps, td, defers, mode, kind, roundOf⟩ := f
  simp only at hm ht
  subst hm; subst ht
  exact step_lone_go (by simp [stepG, stepG.exec, h])

theorem c_draw {id : Nat} {ops : Array Oper} (hx : P.follows .mixedOrders = true) (hm : f.mode = .run) (ht : f.todo = .code (.region id ops true) :: k) :
    ∃ t, step P (lone f cs w) = .next (lone { f with todo := .inRegion ops (Region.linearise .any ops t) :: k } cs { w with drawn := w.drawn + 1 }) := by
  obtain ⟨fn, tmps, td, defers, mode, kind, roundOf⟩ := f
  simp only at hm ht
  subst hm; subst ht
  exact ⟨w.tape w.drawn (.order fn id), step_lone_go (by simp [stepG, stepG.exec, choose, Sem.run, Question.forced, Question.cut, Region.schedule, hx])⟩

theorem c_ret {todo : List Item} (hm : f.mode = .run) (hr : f.roundOf = none) (ht : f.todo = [] ∨ ∃ k, f.todo = .code .ret :: k) (he : todo = f.todo) :
    step P (lone f cs w) = .next (lone { f with mode := .returning } cs w) := by
  obtain ⟨fn, tmps, td, defers, mode, kind, roundOf⟩ := f
  simp only at hm ht hr
  subst hm; subst hr
  rcases ht with rfl | ⟨k, rfl⟩ <;> exact step_lone_go (by simp [stepG, stepG.exec])

theorem c_skip {ops : Array Oper} {i : Nat} {rest : List Nat} (hm : f.mode = .run) (ht : f.todo = .inRegion ops (i :: rest) :: k) (h : ((ops[i]?).map (Region.wanted · (yielded ops f.tmps))).getD false = false) :
    step P (lone f cs w) = .next (lone (f.finish undef) cs w) := by
  obtain ⟨fn, tmps, td, defers, mode, kind, roundOf⟩ := f
  simp only at hm ht h
  subst hm; subst ht
  exact step_lone_go (by simp [stepG, stepG.exec, h])

theorem c_oper {ops : Array Oper} {i : Nat} {rest : List Nat} {o : Oper} (hm : f.mode = .run) (ht : f.todo = .inRegion ops (i :: rest) :: k) (ho : ops[i]? = some o) (hw : Region.wanted o (yielded ops f.tmps) = true)
    (hd : f.roundOf = none ∨ ∀ c, o.op ≠ .defer c) :
    stepG P true { frame := f, callers := cs, status := .running, dying := none } w = stepG.apply P true f cs none (execOp f.eval o) w := by
  obtain ⟨fn, tmps, td, defers, mode, kind, roundOf⟩ := f
  simp only at hm ht hw hd
  subst hm; subst ht
  simp only [stepG, stepG.exec, ho, Option.map_some, Option.getD_some, hw, if_true, stepG.oper, Frame.oper?]
  split
  · rename_i hdef
    rcases hd with hd | hd
    · cases hd
    · exact absurd hdef (hd _)
  · rfl

/-- the step at f0 is the application of s at f -/
def Applies (P : Program) (f0 : Frame) (w0 : World) (f : Frame) (cs : List Frame) (s : Sem Next) (w : World) : Prop :=
  ∀ st, (stepG.apply P true f cs none s w).bare = st → (stepG P true { frame := f0, callers := cs, status := .running, dying := none } w0).bare = st

theorem Applies.of_eq {s : Sem Next} (hg : stepG P true { frame := f, callers := cs, status := .running, dying := none } w = stepG.apply P true f cs none s w) : Applies P f w f cs s w := fun st h => by rw [hg]; exact h

theorem c_value {f0 : Frame} {w0 : World} {s : Sem Next} {n : Next} {v : Value} {w' : World} (hg : Applies P f0 w0 f cs s w)
    (hr : s.run P w = .ok n w') (hn : n = .value v ∨ (n = .skip ∧ v = undef)) : step P (lone f0 cs w0) = .next (lone (f.finish v) cs w') := by
  refine step_lone_go (hg _ ?_)
  rcases hn with rfl | ⟨rfl, rfl⟩ <;> simp [stepG.apply, hr]

theorem c_enter {f0 : Frame} {w0 : World} {s : Sem Next} {g : FuncId} {args : Array Value} {w' : World} (hg : Applies P f0 w0 f cs s w)
    (hr : s.run P w = .ok (.enter g args) w') (ht : ∀ d r v k, f.todo ≠ .call d true r v :: k) : step P (lone f0 cs w0) = .next (lone (Frame.enter P g args .normal) (f :: cs) w') := by
  refine step_lone_go (hg _ ?_)
  simp only [stepG.apply, Sem.runT_eq, if_true, hr, GStep.bare_after]
  rfl

theorem c_defer {f0 : Frame} {w0 : World} {s : Sem Next} {d : Deferred} {w' : World} (hg : Applies P f0 w0 f cs s w)
    (hr : s.run P w = .ok (.defer d) w') : step P (lone f0 cs w0) = .next (lone ({ f with defers := d :: f.defers }.finish undef) cs w') := by
  refine step_lone_go (hg _ ?_)
  simp [stepG.apply, hr]

theorem c_round {f0 : Frame} {w0 : World} {s : Sem Next} {l : Nat} {g : FuncId} {tmps : Array Value} {a b : Code} {w' : World} (hg : Applies P f0 w0 f cs s w)
    (hr : s.run P w = .ok (.round l g tmps a b) w') : step P (lone f0 cs w0) = .next (lone (Frame.round l g tmps a b .normal) (f :: cs) w') := by
  refine step_lone_go (hg _ ?_)
  simp [stepG.apply, hr]

theorem c_begin {l : Nat} {w' : World} (hm : f.mode = .run) (ht : f.todo = .beginRound :: k) (hl : f.roundOf = some l) (hr : (Instr.beginRound l).run P w = .ok () w') :
    step P (lone f cs w) = .next (lone (f.finish undef) cs w') := by
  obtain ⟨fn, tmps, td, defers, mode, kind, roundOf⟩ := f
  simp only at hm ht hl
  subst hm; subst ht; subst hl
  exact step_lone_go (by simp [stepG, stepG.exec, stepG.apply, hr])

theorem c_endRange {l : Nat} {j : Option Code} {w' : World} (hm : f.mode = .run) (ht : f.todo = .endRangeFunc l :: k) (hr : (Instr.endLoop l).run P w = .ok j w') :
    step P (lone f cs w) = .next (lone { f with todo := (j.map Item.code).toList ++ k } cs w') := by
  obtain ⟨fn, tmps, td, defers, mode, kind, roundOf⟩ := f
  simp only at hm ht
  subst hm; subst ht
  exact step_lone_go (by simp [stepG, stepG.exec, hr])

theorem c_range {g : Operand} {params : Array Tmp} {a b : Code} {l : Nat} {mark : List Deferred} {w' : World} (hm : f.mode = .run) (ht : f.todo = .code (.rangeFunc g params a b) :: k)
    (hr : (Instr.enterLoop f.fn f.tmps params a b f.roundOf).run P w = .ok (l, mark) w') :
    Applies P f w { f with todo := .inRangeFunc l :: k, defers := mark ++ f.defers } cs (do let d ← Deferred.ofValue (f.eval g) #[.func (.yield l) #[] #[]]; invoke d.target d.args) w' := by
  intro st hst
  obtain ⟨fn, tmps, td, defers, mode, kind, roundOf⟩ := f
  simp only at hm ht hr hst
  subst hm; subst ht
  subst hst
  simp only [stepG, stepG.exec, Sem.runT_eq, hr, GStep.bare_after]
  simp only [resolve, List.map_toArray, List.map_cons, List.map_nil, Frame.eval]

theorem c_endRound {c : Frame} {l : Nat} {jump : Option Code} {v : Value} {w' : World} (hm : f.mode = .run) (hk : f.kind = .normal) (hl : f.roundOf = some l)
    (ht : (f.todo = [] ∧ jump = none) ∨ (∃ k, f.todo = .code .ret :: k ∧ jump = some .ret) ∨ (∃ id k, f.todo = .code (.exit id) :: k ∧ exitTo id k = none ∧ jump = some (.exit id)))
    (hr : (Instr.endRound l jump).run P w = .ok v w') : step P (lone f (c :: cs) w) = .next (lone (c.finish v) cs w') := by
  obtain ⟨fn, tmps, td, defers, mode, kind, roundOf⟩ := f
  simp only at hm ht hl hk
  subst hm; subst hl; subst hk
  rcases ht with ⟨rfl, rfl⟩ | ⟨k, rfl, rfl⟩ | ⟨id, k, rfl, he, rfl⟩
  · exact step_lone_go (by simp [stepG, stepG.exec, hr, doReturn])
  · exact step_lone_go (by simp [stepG, stepG.exec, hr, doReturn])
  · exact step_lone_go (by simp [stepG, stepG.exec, he, hr, doReturn])

theorem c_coll {b : Nat} {args : Array Value} {ds calls : List Deferred} {w' : World} (hm : f.mode = .returning) (hd : f.defers = { target := .collected b, args } :: ds) (hr : (Instr.takeDeferred b).run P w = .ok calls w') :
    step P (lone f cs w) = .next (lone { f with defers := calls ++ ds } cs w') := by
  obtain ⟨fn, tmps, td, defers, mode, kind, roundOf⟩ := f
  simp only at hm hd
  subst hm; subst hd
  exact step_lone_go (by simp [stepG, unwind, hr])

theorem c_deferred {g : FuncId} {cap args : Array Value} {ds : List Deferred} (hm : f.mode = .returning) (hd : f.defers = { target := .fn (.func g) cap, args } :: ds)
    (hr : (callFunc g (args ++ cap)).run P w = .ok (.enter g (args ++ cap)) w) :
    step P (lone f cs w) = .next (lone (Frame.enter P g (args ++ cap) .deferred) ({ f with defers := ds } :: cs) w) := by
  obtain ⟨fn', tmps, td, defers, mode, kind, roundOf⟩ := f
  simp only at hm hd
  subst hm; subst hd
  exact step_lone_go (by simp [stepG, unwind, callDeferred, invoke, hr])

theorem c_return {c : Frame} {fn : Func} {v : Value} (hm : f.mode = .returning) (hd : f.defers = []) (hk : f.kind = .normal) (hf : P.funcs[f.fn]? = some fn) (hr : (results fn f.tmps).run P w = .ok v w) :
    step P (lone f (c :: cs) w) = .next (lone (c.finish v) cs w) := step_leave_returned ⟨hm, hd, hk, fn, hf, hr⟩

theorem c_returnD {c : Frame} {fn : Func} {v : Value} (hm : f.mode = .returning) (hd : f.defers = []) (hk : f.kind = .deferred) (hf : P.funcs[f.fn]? = some fn) (hr : (results fn f.tmps).run P w = .ok v w) (hc : c.mode = .returning) :
    step P (lone f (c :: cs) w) = .next (lone c cs w) := by
  obtain ⟨fn', tmps, td, defers, mode, kind, roundOf⟩ := f
  simp only at hm hd hk hf hr
  subst hm; subst hd; subst hk
  exact step_lone_go (by simp [stepG, unwind, doReturn, hf, hr, hc])
end steps

end Abs
end Go.Proofs.YtonnifoeokagjaaGreat
