/-
  A step of the abstract machine is so many steps of the machine. No condition.
-/
import Derived.Test.YtonnifoeokagjaaGreatRunS9
namespace Go.Proofs.YtonnifoeokagjaaGreat
open Go Go.RowKit
namespace Abs

theorem code_sound {P : Program} {xt : FuncId → Option Ext} (pk : PK P xt) {w0 : World} {base : List Frame} {m m' : AM} {f : Frame} {cs : List Frame} {w : World} {r : Rho} {lo : Nat} (hF : FR r lo m.next m.fr f) (hlo : lo ≤ m.next)
    (hC : CRs r base lo m.callers cs) (hH : HR r m.heap m.next w0 w) (hret : m.fr.ret = false) {c : Code} {k : List AItem} (htodo : m.fr.todo = .code c :: k) (hs : stepCode P xt m c k = some m') : Next1 P w0 base f cs w m' := by
  have hmode : f.mode = .run := by rw [hF.mode, hret]; rfl
  have hpl : ∃ ks, f.todo = .code c :: ks ∧ IRs r k ks ∧ TR r m.fr.slots f.tmps := by
    have htop := hF.top
    rw [htodo] at htop
    generalize hft : f.todo = ft at htop
    cases htop with
    | plain hir htr =>
    cases hir with | cons hi hir =>
    cases hi
    exact ⟨_, rfl, hir, htr⟩
  obtain ⟨ks, hft, hir, htr⟩ := hpl
  unfold stepCode at hs
  cases c with
  | ret => exact leave_sound hF hlo hC hH hret (.inr (.inl ⟨k, htodo, rfl⟩)) hs
  | skip => exact to_sound hF hlo hC hH hret hs hir htr (c_to hmode hft (.inl ⟨rfl, rfl⟩))
  | seq a b => exact to_sound hF hlo hC hH hret hs (.cons (.code a) (.cons (.code b) hir)) htr (c_to hmode hft (.inr (.inr (.inl ⟨a, b, rfl, rfl⟩))))
  | cond c thn els =>
    replace hs : stepCond m thn els k (aev m.fr.slots c) = some m' := hs
    unfold stepCond at hs
    split at hs
    · rename_i b hb
      have hv := aev_sound htr c
      rw [hb] at hv
      generalize hec : f.eval c = u at hv
      cases hv
      exact to_sound hF hlo hC hH hret hs (.cons (.code _) hir) htr (c_cond hmode hft hec)
    · cases hs
  | block id body => exact to_sound hF hlo hC hH hret hs (.cons (.code body) (.cons (.inBlock id) hir)) htr (c_to hmode hft (.inr (.inr (.inr (.inl ⟨id, body, rfl, rfl⟩)))))
  | loop body => exact to_sound hF hlo hC hH hret hs (.cons (.code body) (.cons (.inLoop body) hir)) htr (c_to hmode hft (.inr (.inr (.inr (.inr (.inl ⟨body, rfl, rfl⟩))))))
  | exit id =>
    replace hs : stepExit m id k = some m' := hs
    unfold stepExit at hs
    split at hs
    · rename_i k' hk'
      obtain ⟨ck', h1, h2⟩ := (exit_sound id hir).1 k' hk'
      exact to_sound hF hlo hC hH hret hs h2 htr (c_exit hmode hft h1)
    · rename_i hk'
      exact leave_sound hF hlo hC hH hret (.inr (.inr ⟨id, k, htodo, hk', rfl⟩)) hs
  | region id ops draw =>
    replace hs : stepRegion m ops draw k = some m' := hs
    unfold stepRegion at hs
    cases draw with
    | true => exact draw_sound ⟨xt, pk⟩ hF hlo hC hH hret htodo hs
    | false =>
      simp only [Bool.false_eq_true, if_false] at hs
      refine to_sound hF hlo hC hH hret hs (.cons (.ops ?_) hir) htr (c_to hmode hft (.inr (.inr (.inr (.inr (.inr (.inr (.inl ⟨id, ops, rfl, rfl⟩))))))))
      apply List.ext_getElem?
      intro i
      simp only [List.getElem?_map]
      by_cases hi : i < ops.size
      · simp [hi]
      · rw [List.getElem?_eq_none (by simp; omega), List.getElem?_eq_none (by simp; omega)]; rfl
  | rangeFunc g params assign body => exact range_sound pk hF hlo hC hH hret htodo hs
  | scope _ => cases hs
  | label _ => cases hs
  | goto _ => cases hs
  | refuse _ => cases hs

theorem astep_sound {P : Program} {xt : FuncId → Option Ext} (pk : PK P xt) {w0 : World} {base : List Frame} {m m' : AM} {f : Frame} {cs : List Frame} {w : World} (hm : MR P w0 base m f cs w) (hs : astep P xt m = some m') : Next1 P w0 base f cs w m' := by
  obtain ⟨⟨r, lo, hF, hlo, hC, hH⟩, hsat⟩ := hm
  unfold astep at hs
  split at hs
  · rename_i hret
    exact return_sound ⟨xt, pk⟩ hF hlo hC hH hret hs
  · rename_i hret
    have hret : m.fr.ret = false := by simpa using hret
    have hmode : f.mode = .run := by rw [hF.mode, hret]; rfl
    split at hs
    · rename_i ht
      exact leave_sound hF hlo hC hH hret (.inl ⟨ht, rfl⟩) hs
    · rename_i i k ht
      unfold stepItem at hs
      have hpl : (∀ g, i ≠ .reg g) → ∃ ci ks, f.todo = ci :: ks ∧ IR r i ci ∧ IRs r k ks ∧ TR r m.fr.slots f.tmps := by
        intro hne
        have htop := hF.top
        rw [ht] at htop
        generalize hft : f.todo = ft at htop
        cases htop with
        | plain hir htr =>
          cases hir with | cons hi hir =>
          exact ⟨_, _, rfl, hi, hir, htr⟩
        | reg _ _ _ _ => exact absurd rfl (hne _)
      cases i with
      | code c => exact code_sound pk hF hlo hC hH hret ht hs
      | inBlock id =>
        obtain ⟨ci, ks, hft, hi, hir, htr⟩ := hpl (by simp)
        cases hi
        exact to_sound hF hlo hC hH hret hs hir htr (c_to hmode hft (.inr (.inl ⟨id, rfl, rfl⟩)))
      | inLoop body =>
        obtain ⟨ci, ks, hft, hi, hir, htr⟩ := hpl (by simp)
        cases hi
        exact to_sound hF hlo hC hH hret hs (.cons (.code body) (.cons (.inLoop body) hir)) htr (c_to hmode hft (.inr (.inr (.inr (.inr (.inr (.inl ⟨body, rfl, rfl⟩)))))))
      | ops l ops => exact ops_sound pk hF hlo hC hH hret ht hs
      | reg g => exact stepReg_sound pk hF hlo hC hH hret ht (fun hph => hsat g k ht hph hret) hs
      | endRange l => exact endRange_sound hF hlo hC hH hret ht hs
      | beginRound => exact begin_sound hF hlo hC hH hret ht hs
      | inRange _ => cases hs

theorem asteps_sound {P : Program} {xt : FuncId → Option Ext} (pk : PK P xt) {w0 : World} {base : List Frame} : ∀ (n : Nat) {m m' : AM} {f : Frame} {cs : List Frame} {w : World}, MR P w0 base m f cs w → asteps P xt n m = some m' → Next1 P w0 base f cs w m'
  | 0, m, m', f, cs, w, hm, hs => by
    simp only [asteps, Option.some.injEq] at hs
    subst hs
    exact ⟨f, cs, w, Steps.refl P _, hm⟩
  | n + 1, m, m', f, cs, w, hm, hs => by
    simp only [asteps] at hs
    split at hs
    · rename_i m1 h1
      obtain ⟨f1, cs1, w1, s1, hm1⟩ := astep_sound pk hm h1
      obtain ⟨f2, cs2, w2, s2, hm2⟩ := asteps_sound pk n hm1 hs
      exact ⟨f2, cs2, w2, s1.trans s2, hm2⟩
    · cases hs

/-- the abstract machine as a function of no arguments is entered -/
noncomputable def startOf (P : Program) (g : FuncId) : Option AM := match AFrame.enter P g [] false with
  | some fr => some { fr, callers := [], heap := .nil, next := 0 }
  | none => none

theorem start_sound {P : Program} {g : FuncId} {m : AM} (h : startOf P g = some m) (w : World) (base : List Frame) : MR P w base m (Frame.enter P g #[] .normal) base w := by
  unfold startOf at h
  split at h
  · rename_i fr hen
    injection h with h; subst h
    obtain ⟨e1, e2, ⟨c, e3⟩, e4⟩ := enter_sound (r := fun _ => none) .nil hen 0
    refine MR.mk' (r := fun _ => none) (lo := 0) e1 (Nat.le_refl _) (.nil 0) (HR.start w) fun g' k e => ?_
    have e : fr.todo = .reg g' :: k := e
    rw [e3] at e; cases e
  · cases h

/-- some blocks are forgotten -/
theorem MR.forget {P : Program} {w0 : World} {base : List Frame} {m m' : AM} {f : Frame} {cs : List Frame} {w : World} (hm : MR P w0 base m f cs w) (h1 : m'.fr = m.fr) (h2 : m'.callers = m.callers) (h3 : m.next ≤ m'.next)
    (h4 : ∀ b o, hget m'.heap b = some o → hget m.heap b = some o) (h5 : isReg m.fr.todo = false) : MR P w0 base m' f cs w := by
  obtain ⟨⟨r, lo, hF, hlo, hC, hH⟩, hsat⟩ := hm
  refine MR.mk' (r := r) (lo := lo) (by rw [h1]; exact hF.mono (Rho.le_refl r) h3 fun _ _ => rfl) (by omega) (by rw [h2]; exact hC) ⟨hH.below, fun b x e => ?_, fun b o k n e e' => hH.obj b o k n (h4 b o e) e', fun b b' o o' k n n' e e' => hH.inj b b' o o' k n n' (h4 b o e) (h4 b' o' e')⟩ fun g k e => ?_
  · have := hH.dom b x e
    exact ⟨by omega, this.2⟩
  · rw [h1] at e; rw [e] at h5; cases h5

/-- what the abstract machine comes to at its end -/
noncomputable def endOf (P : Program) (m : AM) : Option AV := match m.callers with
  | [] => match m.fr.defers with
    | [] => if m.fr.ret && !m.fr.deferred && !isReg m.fr.todo then (match P.funcs[m.fr.fn]? with
      | some fn => match aresults P m.heap m.fr.slots fn.results.toList with
        | some vs => some (one vs)
        | none => none
      | none => none) else none
    | _ => none
  | _ => none

theorem end_sound {P : Program} {w0 : World} {base : List Frame} {m : AM} {f : Frame} {cs : List Frame} {w : World} (hm : MR P w0 base m f cs w) {v : Value} (he : endOf P m = some (.g v)) :
    cs = base ∧ f.fn = m.fr.fn ∧ f.leaving P w (.returned v) ∧ Below w0.heap.size w0 w := by
  obtain ⟨⟨r, lo, hF, hlo, hC, hH⟩, _⟩ := hm
  unfold endOf at he
  split at he
  · rename_i hcs
    split at he
    · rename_i hdf
      split at he
      · rename_i hc
        simp only [Bool.and_eq_true, Bool.not_eq_true'] at hc
        obtain ⟨⟨h1, h2⟩, h3⟩ := hc
        split at he
        · rename_i fn hf
          split at he
          · rename_i vs hvs
            injection he with he
            have htr : TR r m.fr.slots f.tmps := by
              have htop := hF.top
              generalize f.todo = q at htop
              generalize m.fr.todo = q' at htop h3
              cases htop with
              | plain _ htr => exact htr
              | reg _ _ _ _ => cases h3
            obtain ⟨u, hu, hrun⟩ := run_results hH htr hvs
            rw [he] at hu
            cases hu
            rw [hcs] at hC
            cases hC
            have hd := hF.defers
            rw [hdf] at hd
            generalize hfd : f.defers = fd at hd
            cases hd
            exact ⟨rfl, hF.fn, ⟨by rw [hF.mode]; exact if_pos h1, hfd, by rw [hF.kind]; exact if_neg (by simp [h2]), fn, by rw [hF.fn]; exact hf, hrun⟩, hH.below⟩
          · cases he
        · cases he
      · cases he
    · cases he
  · cases he

end Abs
end Go.Proofs.YtonnifoeokagjaaGreat
