/-
  Every operation with an effect of the abstract machine is the machine's own. No condition.
-/
import Derived.Test.YtonnifoeokagjaaGreatRunE3
namespace Go.Proofs.YtonnifoeokagjaaGreat
open Go Go.RowKit
namespace Abs

theorem EOK.congr {P : Program} {r : Rho} {h : Heap} {nx : Nat} {w0 w : World} {s s' : Sem Next} (hs : s'.run P w = s.run P w) {er : ER} (he : EOK P r h nx w0 w s er) : EOK P r h nx w0 w s' er := by
  cases er <;> simp only [EOK, hs] at he ⊢ <;> exact he

theorem callV_sound {P : Program} {xt : FuncId → Option Ext} (pk : PK P xt) {r : Rho} {h : Heap} {nx : Nat} {w0 w : World} (hr : HR r h nx w0 w) {a : AV} {x : Value} (hx : VR r a x) {args : List AV} {as : List Value} (ha : VRs r args as) {er : ER}
    (he : acallV P xt h a args = some er) : EOK P r h nx w0 w (do let d ← Deferred.ofValue x as.toArray; invoke d.target d.args) er := by
  unfold acallV at he
  split at he
  · rename_i f cap
    cases hx with
    | fn hc =>
    rename_i c
    have := callF_sound pk hr (ha.append hc) he
    refine this.congr ?_
    simp [Deferred.ofValue, invoke]
  · rename_i l
    cases hx with
    | yld hb =>
    rename_i k n
    split at he
    · rename_i al ho
      split at he
      · rename_i hlen
        injection he with he; subst he
        obtain ⟨lo, hk, hlr⟩ := hr.obj l _ k n ho hb
        refine ⟨k, n, as, lo, al, hb, ho, hk, hlr, ha, hlen, ?_⟩
        have hps : lo.params.size = as.length := by
          have h1 : lo.params.toList = al.params := hlr.2.2.2.2.2.1
          have h2 := ha.length
          have h3 : lo.params.toList.length = as.length := by rw [h1, hlen, h2]
          simpa using h3
        simp [Deferred.ofValue, invoke, Instr.yield, Instr.getLoop, getObj, Sem.run, hk, hps]
      · cases he
    · cases he
  · cases he

theorem ameth_sound {P : Program} {t : TypeId} {name : String} {f : FuncId} (h : ameth P t name = some f) (v : Value) (n : Nat) (w : World) : (method (n + 1) t v name).run P w = .ok (f, v) w := by
  unfold ameth at h
  split at h
  · rename_i i hi
    split at h
    · rename_i m hm
      split at h
      · rename_i hp
        have hp' : m.path.toList = [] := by simpa using hp
        split at h
        · rename_i f' p hf
          have hm' : i.methods.find? (fun x => x.name == name) = some m := by rw [← hm]; simp
          rw [method]
          simp only [Sem.run_bind, run_tinfo hi, Result.andThen_ok, hm', hp', follow, Sem.run_pure, hf]
          split at h
          · rename_i e hu
            split at h
            · rename_i hpp
              injection h with h; subst h; subst hpp
              simp [receiverAt, run_underlying hu, Place.get]
            · cases h
          · rename_i d hd hu
            split at h
            · cases h
            · rename_i hpp
              injection h with h; subst h
              have hpp : p = false := by simpa using hpp
              subst hpp
              simp only [receiverAt, Sem.run_bind, run_underlying hu, Result.andThen_ok]
              cases d <;> first | rfl | exact (hd _ rfl).elim
          · cases h
        · cases h
      · cases h
    · cases h
  · cases h

theorem aeff_sound {P : Program} {xt : FuncId → Option Ext} (pk : PK P xt) {r : Rho} {h : Heap} {nx : Nat} {w0 w : World} (hr : HR r h nx w0 w) {ae : Operand → AV} {ev : Operand → Value} {o : Oper} (hev : ∀ x ∈ o.op.operands.toList, VR r (ae x) (ev x))
    {er : ER} (he : aeff P xt h ae o = some er) : EOK P r h nx w0 w (execOp ev o) er := by
  unfold aeff at he
  obtain ⟨dst, op, type, pos, after, guard⟩ := o
  dsimp only at he hev
  cases op
  case assign x =>
    injection he with he; subst he
    exact ⟨_, ev x, w, by simp [execOp], .inl rfl, hev x (by simp [Op.operands]), hr⟩
  case store t a x =>
    replace he : eStore P h t (ae a) (ae x) = some er := he
    have ha := hev a (by simp [Op.operands])
    have hx := hev x (by simp [Op.operands])
    unfold eStore at he
    split at he
    · rename_i b off e; rw [e] at ha
      split at he
      · rename_i cs hcs
        split at he
        · rename_i n hn
          split at he
          · rename_i hc
            simp only [Bool.and_eq_true, beq_iff_eq] at hc
            have hcells := cells_sound hcs hx
            have hlen := hcells.length
            generalize hua : ev a = u at *
            cases ha with
            | ptr hb =>
            rename_i k m
            refine (eVal_sound (s := Instr.storeAt t (.pointer (some ⟨k, off, none⟩)) (ev x)) he fun h' hst => ?_).congr (by simp [execOp, hua])
            obtain ⟨w', hrun, hr', _⟩ := hstore_sound P hr hb hcells (hcells.oneCells hc.2) hst
            refine ⟨w', ?_, hr'⟩
            have hsz : ¬ (ev x).cells.size ≠ n := by
              simp only [Array.length_toList] at hlen
              omega
            simp [Instr.storeAt, Instr.sureAddr, storeVar, run_tsize hn, hsz, hrun]
          · cases he
        · cases he
      · cases he
    · cases he
  case mapUpdate t m k x =>
    replace he : eVal (amupd P h t (ae m) (ae k) (ae x)) = some er := he
    exact (eVal_sound (s := Instr.mapUpdate t (ev m) (ev k) (ev x)) he fun h' hst => amupd_sound P hr (hev m (by simp [Op.operands])) (hev k (by simp [Op.operands])) (hev x (by simp [Op.operands])) hst).congr (by simp [execOp])
  case insert t m k x =>
    replace he : eVal (amupd P h t (ae m) (ae k) (ae x)) = some er := he
    exact (eVal_sound (s := Instr.mapUpdate t (ev m) (ev k) (ev x)) he fun h' hst => amupd_sound P hr (hev m (by simp [Op.operands])) (hev k (by simp [Op.operands])) (hev x (by simp [Op.operands])) hst).congr (by simp [execOp])
  case call c =>
    replace he : eCall P xt h ae c = some er := he
    obtain ⟨callee, args, argTypes⟩ := c
    simp only [Op.operands, Call.operands] at hev
    have hargs : VRs r (args.toList.map ae) (args.toList.map ev) := VRs.map ae ev _ fun x hx => hev x (by simp; exact .inr (by simpa using hx))
    have hmap : args.map ev = (args.toList.map ev).toArray := by apply Array.ext'; simp
    unfold eCall at he
    dsimp only at he
    split at he
    · rename_i f
      have := callV_sound pk hr (hev f (by simp)) hargs he
      refine this.congr ?_
      simp only [execOp, resolve, hmap]
    · rename_i rcv name
      have hrc := hev rcv (by simp)
      unfold eInvoke at he
      split at he
      · rename_i t v e; rw [e] at hrc
        split at he
        · rename_i f hf
          generalize hur : ev rcv = u at *
          cases hrc with
          | ifc hv =>
          rename_i u
          have := callF_sound pk hr (VRs.cons hv hargs) he
          refine this.congr ?_
          have hm := ameth_sound hf u
          simp only [execOp, resolve, hmap, hur, Sem.run_bind, Sem.run_pure, Result.andThen_ok, invoke]
          have h0 : (#[Value.iface t u] ++ (args.toList.map ev).toArray)[0]? = some (.iface t u) := by simp
          have h1 : (#[Value.iface t u] ++ (args.toList.map ev).toArray).extract 1 (#[Value.iface t u] ++ (args.toList.map ev).toArray).size = (args.toList.map ev).toArray := by
            apply Array.ext'
            simp
            exact List.take_of_length_le (by simp)
          simp only [h0, h1, callMethod, Sem.run_bind, run_program, Result.andThen_ok]
          rw [show P.types.size + Made.depth = (P.types.size + 99) + 1 from rfl, hm]
          simp
        · cases he
      · cases he
    · rename_i b
      split at he
      · split at he
        · rename_i s x hxs
          have hargs' : args = #[s, x] := by rw [← Array.toArray_toList (xs := args), hxs]
          subst hargs'
          have := append_sound (ty := type) P hr (hev s (by simp)) (hev x (by simp)) he
          refine this.congr ?_
          simp [execOp, resolve, invoke, builtin]
        · cases he
      · cases he
  case defer c =>
    replace he : eDeferC ae c = some er := he
    obtain ⟨callee, args, argTypes⟩ := c
    simp only [Op.operands, Call.operands] at hev
    have hargs : VRs r (args.toList.map ae) (args.toList.map ev) := VRs.map ae ev _ fun x hx => hev x (by simp; exact .inr (by simpa using hx))
    have hmap : args.map ev = (args.toList.map ev).toArray := by apply Array.ext'; simp
    unfold eDeferC at he
    dsimp only at he
    split at he
    · rename_i f
      have hf := hev f (by simp)
      unfold eDefer at he
      split at he
      · rename_i fn cap e; rw [e] at hf
        injection he with he; subst he
        generalize huf : ev f = u at *
        cases hf with
        | fn hc =>
        exact ⟨_, by simp [execOp, resolve, huf, Deferred.ofValue, hmap], .fn hc hargs⟩
      · cases he
    · cases he
  all_goals cases he

end Abs
end Go.Proofs.YtonnifoeokagjaaGreat
