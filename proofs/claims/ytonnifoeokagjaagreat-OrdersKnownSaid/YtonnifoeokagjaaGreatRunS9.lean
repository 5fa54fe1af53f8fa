/-
  A range over a function is entered; a frame returns. No condition.
-/
import Derived.Test.YtonnifoeokagjaaGreatRunS8
namespace Go.Proofs.YtonnifoeokagjaaGreat
open Go Go.RowKit
namespace Abs

theorem range_sound {P : Program} {xt : FuncId → Option Ext} (pk : PK P xt) {w0 : World} {base : List Frame} {m m' : AM} {f : Frame} {cs : List Frame} {w : World} {r : Rho} {lo : Nat} (hF : FR r lo m.next m.fr f) (hlo : lo ≤ m.next)
    (hC : CRs r base lo m.callers cs) (hH : HR r m.heap m.next w0 w) (hret : m.fr.ret = false) {g : Operand} {params : Array Tmp} {assign body : Code} {k : List AItem} (htodo : m.fr.todo = .code (.rangeFunc g params assign body) :: k)
    (hs : stepRange P xt m g params.toList assign body k = some m') : Next1 P w0 base f cs w m' := by
  have hmode : f.mode = .run := by rw [hF.mode, hret]; rfl
  have htop := hF.top
  rw [htodo] at htop
  generalize hft : f.todo = ft at htop
  cases htop with
  | plain hir htr =>
  cases hir with | cons hi hir =>
  cases hi
  rename_i ks
  obtain ⟨mfr, mcs, mh, mnx⟩ := m
  simp only at hF hlo hC hH hret htr hir
  unfold stepRange at hs
  simp only at hs
  split at hs
  · rename_i hround
    have hro : f.roundOf = none := by
      have hr2 := hF.round
      rw [hround] at hr2
      cases hro : f.roundOf with
      | none => rfl
      | some _ => rw [hro] at hr2; exact hr2.elim
    unfold opEff at hs
    split at hs
    · rename_i er her
      have hn0 : r mnx = none := hH.fresh (Nat.le_refl _)
      have hH1 := alloc_next hH (o := .defs (some [])) (obj := .deferred (some [])) ⟨[], rfl, .nil⟩
      have hle1 := Rho.le_upd (x := (w.heap.size, 0)) hn0
      have hn1 : (r.upd mnx (w.heap.size, 0)) (mnx + 1) = none := hH1.fresh (Nat.le_refl _)
      have hle2 := Rho.le_upd (x := (({ w with heap := w.heap.push (.deferred (some [])) } : World).heap.size, 0)) hn1
      have hH2 := alloc_next hH1 (o := .loop (loopOf mfr params.toList assign body mnx)) (obj := .loop { state := .ready, pending := none, fn := f.fn, tmps := f.tmps, params, assign, body, defers := w.heap.size })
        ⟨_, rfl, rfl, rfl, hF.fn, htr.mono hle1, hF.size, rfl, rfl, rfl, 0, Rho.upd_same _ _ _⟩
      have hle := Rho.le_trans hle1 hle2
      have hsame : ∀ b, b < mnx → ((r.upd mnx (w.heap.size, 0)).upd (mnx + 1) (({ w with heap := w.heap.push (.deferred (some [])) } : World).heap.size, 0)) b = r b := fun b hb => by
        rw [Rho.upd_ne _ _ (by omega), Rho.upd_ne _ _ (by omega)]
      have hrun : (Instr.enterLoop f.fn f.tmps params assign body f.roundOf).run P w = .ok (w.heap.size + 1, [{ target := .collected w.heap.size, args := #[] }])
          { w with heap := (w.heap.push (.deferred (some []))).push (.loop { state := .ready, pending := none, fn := f.fn, tmps := f.tmps, params, assign, body, defers := w.heap.size }) } := by
        rw [hro]; simp [Instr.enterLoop]; rfl
      have hap := c_range (cs := cs) hmode hft hrun
      have hw2 : ({ ({ w with heap := w.heap.push (.deferred (some [])) } : World) with heap := ({ w with heap := w.heap.push (.deferred (some [])) } : World).heap.push (.loop { state := .ready, pending := none, fn := f.fn, tmps := f.tmps, params, assign, body, defers := w.heap.size }) } : World) =
          { w with heap := (w.heap.push (.deferred (some []))).push (.loop { state := .ready, pending := none, fn := f.fn, tmps := f.tmps, params, assign, body, defers := w.heap.size }) } := rfl
      rw [hw2] at hH2
      have hsz : ({ w with heap := w.heap.push (.deferred (some [])) } : World).heap.size = w.heap.size + 1 := by simp
      rw [hsz] at hH2 hle hsame
      have hyld : VR ((r.upd mnx (w.heap.size, 0)).upd (mnx + 1) (w.heap.size + 1, 0)) (.yld (mnx + 1)) (.func (.yield (w.heap.size + 1)) #[] #[]) := .yld (Rho.upd_same _ _ _)
      have hmk : ((r.upd mnx (w.heap.size, 0)).upd (mnx + 1) (w.heap.size + 1, 0)) mnx = some (w.heap.size, 0) := by rw [Rho.upd_ne _ _ (by omega)]; exact Rho.upd_same _ _ _
      have hok := callV_sound pk hH2 ((aev_sound htr g).mono hle) (.cons hyld .nil) her
      have hF' : FR ((r.upd mnx (w.heap.size, 0)).upd (mnx + 1) (w.heap.size + 1, 0)) lo (mnx + 2) ((mfr.wTodo (.inRange (mnx + 1) :: k)).wDefers (.coll mnx :: mfr.defers))
          { f with todo := .inRangeFunc (w.heap.size + 1) :: ks, defers := [{ target := .collected w.heap.size, args := #[] }] ++ f.defers } :=
        ⟨hF.fn, hF.size, .cons (.coll hmk) (hF.defers.mono hle), hF.mode, hF.kind, hF.round.mono hle, .plain (.cons (.inRange (Rho.upd_same _ _ _)) (hir.mono hle)) (htr.mono hle)⟩
      obtain ⟨f2, cs2, w2, h5, h6⟩ := upon_sound (m := (AM.mk mfr mcs mh mnx).wAll mfr (hset (hset mh mnx (.defs (some []))) (mnx + 1) (.loop (loopOf mfr params.toList assign body mnx))) 2) hF' (by omega) (Nat.le_refl _)
        (hC.mono hle fun b hb => hsame b (by omega)) hH2 hap hok hs
      exact ⟨f2, cs2, w2, .one h5, h6⟩
    · cases hs
  · rename_i l hround
    split at hs
    · rename_i al ho
      have hr2 := hF.round
      rw [hround] at hr2
      cases hro : f.roundOf with
      | none => rw [hro] at hr2; exact hr2.elim
      | some kk =>
      rw [hro] at hr2
      obtain ⟨n, hl⟩ := hr2
      obtain ⟨lo', hlr, hk, hget, hlt⟩ := run_loop (P := P) hH hl ho
      obtain ⟨nd, hdef⟩ := hlr.2.2.2.2.2.2.2.2
      unfold opEff at hs
      split at hs
      · rename_i er her
        have hn0 : r mnx = none := hH.fresh (Nat.le_refl _)
        have hle := Rho.le_upd (x := (w.heap.size, 0)) hn0
        have hsame : ∀ b, b < mnx → r.upd mnx (w.heap.size, 0) b = r b := fun b hb => Rho.upd_ne _ _ (by omega)
        have hH2 := alloc_next hH (o := .loop (loopOf mfr params.toList assign body al.defers)) (obj := .loop { state := .ready, pending := none, fn := f.fn, tmps := f.tmps, params, assign, body, defers := lo'.defers })
          ⟨_, rfl, rfl, rfl, hF.fn, htr, hF.size, rfl, rfl, rfl, nd, hdef⟩
        have hrun : (Instr.enterLoop f.fn f.tmps params assign body f.roundOf).run P w = .ok (w.heap.size, [])
            { w with heap := w.heap.push (.loop { state := .ready, pending := none, fn := f.fn, tmps := f.tmps, params, assign, body, defers := lo'.defers }) } := by
          rw [hro]; simp [Instr.enterLoop, hget]
        have hap := c_range (cs := cs) hmode hft hrun
        have hyld : VR (r.upd mnx (w.heap.size, 0)) (.yld mnx) (.func (.yield w.heap.size) #[] #[]) := .yld (Rho.upd_same _ _ _)
        have hok := callV_sound pk hH2 ((aev_sound htr g).mono hle) (.cons hyld .nil) her
        have hF' : FR (r.upd mnx (w.heap.size, 0)) lo (mnx + 1) (mfr.wTodo (.inRange mnx :: k)) { f with todo := .inRangeFunc w.heap.size :: ks, defers := [] ++ f.defers } :=
          ⟨hF.fn, hF.size, hF.defers.mono hle, hF.mode, hF.kind, hF.round.mono hle, .plain (.cons (.inRange (Rho.upd_same _ _ _)) (hir.mono hle)) (htr.mono hle)⟩
        obtain ⟨f2, cs2, w2, h5, h6⟩ := upon_sound (m := (AM.mk mfr mcs mh mnx).wAll mfr (hset mh mnx (.loop (loopOf mfr params.toList assign body al.defers))) 1) hF' (by omega) (Nat.le_refl _)
          (hC.mono hle fun b hb => hsame b (by omega)) hH2 hap hok hs
        exact ⟨f2, cs2, w2, .one h5, h6⟩
      · cases hs
    · cases hs

/-- a result variable is read -/
def rv (t : Array Value) : ResultVar → Sem Value
  | .tmp a => pure (t.getD a undef)
  | .cell a ty => do loadVar ty (← asAddr (t.getD a undef))

theorem results_eq (fn : Func) (t : Array Value) : results fn t = (do let vs ← fn.results.mapM (rv t); pure (if h : vs.size = 1 then vs[0] else .tuple vs)) := by
  unfold results
  congr 2

theorem aresults_sound {P : Program} {r : Rho} {h : Heap} {nx : Nat} {w0 w : World} (hr : HR r h nx w0 w) {s : BT AV} {t : Array Value} (ht : TR r s t) : ∀ (l : List ResultVar) (vs : List AV), aresults P h s l = some vs →
    ∃ us, VRs r vs us ∧ (l.mapM (rv t)).run P w = .ok us w
  | [], vs, hv => by
    simp only [aresults, Option.some.injEq] at hv
    subst hv
    exact ⟨[], .nil, by simp⟩
  | .tmp a :: l, vs, hv => by
    simp only [aresults] at hv
    split at hv
    · rename_i q hq
      injection hv with hv; subst hv
      obtain ⟨us, h1, h2⟩ := aresults_sound hr ht l q hq
      refine ⟨_, .cons (ht a) h1, ?_⟩
      simp only [List.mapM_cons, rv, Sem.run_bind, Sem.run_pure, Result.andThen_ok, h2]
    · cases hv
  | .cell a ty :: l, vs, hv => by
    simp only [aresults] at hv
    split at hv
    · rename_i v hl
      split at hv
      · rename_i q hq
        injection hv with hv; subst hv
        obtain ⟨us, h1, h2⟩ := aresults_sound hr ht l q hq
        obtain ⟨k, off, u, hx, hrun, hvu⟩ := aload_sound P hr (ht a) hl
        refine ⟨_, .cons hvu h1, ?_⟩
        simp only [List.mapM_cons, rv, hx, asAddr, hrun, Sem.run_bind, Sem.run_pure, Result.andThen_ok, h2]
      · cases hv
    · cases hv

theorem run_results {P : Program} {r : Rho} {h : Heap} {nx : Nat} {w0 w : World} (hr : HR r h nx w0 w) {s : BT AV} {t : Array Value} (ht : TR r s t) {fn : Func} {vs : List AV} (hv : aresults P h s fn.results.toList = some vs) :
    ∃ u, VR r (one vs) u ∧ (results fn t).run P w = .ok u w := by
  obtain ⟨us, h1, h2⟩ := aresults_sound hr ht _ _ hv
  refine ⟨if h : us.toArray.size = 1 then us.toArray[0] else .tuple us.toArray, ?_, ?_⟩
  · cases h1 with
    | nil => exact .tup .nil
    | cons h3 h4 =>
      cases h4 with
      | nil => simpa [one] using h3
      | cons h5 h6 =>
        simp only [one, List.size_toArray, List.length_cons]
        rw [dif_neg (by omega)]
        exact .tup (.cons h3 (.cons h5 h6))
  · rw [results_eq, Array.mapM_eq_mapM_toList]
    simp only [Sem.run_bind, Sem.run_map, h2, Result.andThen_ok, Sem.run_pure]

theorem return_sound {P : Program} {w0 : World} {base : List Frame} {m m' : AM} {f : Frame} {cs : List Frame} {w : World} {r : Rho} {lo : Nat} (pk : ∃ xt, PK P xt) (hF : FR r lo m.next m.fr f) (hlo : lo ≤ m.next)
    (hC : CRs r base lo m.callers cs) (hH : HR r m.heap m.next w0 w) (hret : m.fr.ret = true) (hs : areturn P m = some m') : Next1 P w0 base f cs w m' := by
  obtain ⟨xt, pk⟩ := pk
  have hmode : f.mode = .returning := by rw [hF.mode, hret]; rfl
  have hdef := hF.defers
  obtain ⟨mfr, mcs, mh, mnx⟩ := m
  simp only at hF hlo hC hH hret hdef
  unfold areturn at hs
  simp only at hs
  split at hs
  · rename_i b ds had
    rw [had] at hdef
    generalize hfd : f.defers = fd at hdef
    cases hdef with
    | cons hd hds =>
    cases hd with | coll hb =>
    rename_i fds k n
    split at hs
    · rename_i calls ho
      injection hs with hs; subst hs
      obtain ⟨l, hk, hdr⟩ := hH.obj b _ k n ho hb
      have hlt := (hH.dom b _ hb).2.2
      have hrun : (Instr.takeDeferred k).run P w = .ok l { w with heap := w.heap.setIfInBounds k (.deferred none) } := by
        simp [Instr.takeDeferred, getObj, Sem.run, hk, setObj]
      have hst := c_coll (cs := cs) hmode hfd hrun
      refine ⟨_, cs, _, .one hst, MR.mk' (r := r) (lo := lo) ⟨hF.fn, hF.size, hdr.append hds, hF.mode, hF.kind, hF.round, hF.top⟩ hlo hC (hH.set hb ho trivial (o' := .defs none) rfl (turned_setObj hlt)) fun g k' e hp hr => ?_⟩
      have hr : mfr.ret = false := hr
      rw [hret] at hr; cases hr
    · cases hs
  · rename_i g cap args ds had
    rw [had] at hdef
    generalize hfd : f.defers = fd at hdef
    cases hdef with
    | cons hd hds =>
    cases hd with | fn hc ha =>
    rename_i fds c as
    split at hs
    · rename_i fr hen
      injection hs with hs; subst hs
      obtain ⟨e1, e2, ⟨cc, e3⟩, e4⟩ := enter_sound (ha.append hc) hen mnx
      have hfn : ∃ fn cd, P.funcs[g]? = some fn ∧ fn.body = some cd := by
        unfold AFrame.enter at hen
        split at hen
        · rename_i fn hf
          split at hen
          · rename_i cd hb; exact ⟨fn, cd, hf, hb⟩
          · cases hen
        · cases hen
      obtain ⟨fn, cd, hf, hb⟩ := hfn
      have hn := pk.nonum g fn hf
      have hn' : ¬ fn.name = "runtime.NumGoroutine" := by simpa using hn
      have hrun : (callFunc g (as.toArray ++ c.toArray)).run P w = .ok (.enter g (as.toArray ++ c.toArray)) w := by simp [callFunc, hf, hn', hb]
      have hst := c_deferred (cs := cs) hmode hfd hrun
      have harr : as.toArray ++ c.toArray = (as ++ c).toArray := by simp
      rw [harr] at hst
      refine ⟨_, _, w, .one hst, MR.mk' (r := r) (lo := mnx) e1 (Nat.le_refl _) (.cons ⟨hF.fn, hF.size, hds, hF.mode, hF.kind, hF.round, hF.top⟩ hlo hC) hH fun g' k' e => ?_⟩
      have e : fr.todo = .reg g' :: k' := e
      rw [e3] at e; cases e
    · cases hs
  · rename_i had
    rw [had] at hdef
    generalize hfd : f.defers = fd at hdef
    cases hdef
    split at hs
    · cases hs
    · rename_i c acs hcs
      split at hs
      · cases hs
      · rename_i hreg
        have htr : TR r mfr.slots f.tmps := by
          have htop := hF.top
          generalize f.todo = q at htop
          generalize mfr.todo = q' at htop hreg
          cases htop with
          | plain _ htr => exact htr
          | reg _ _ _ _ => exact absurd rfl hreg
        split at hs
        · rename_i fn hf
          split at hs
          · rename_i vs hvs
            obtain ⟨u, hu, hrun⟩ := run_results hH htr hvs
            have hf' : P.funcs[f.fn]? = some fn := by rw [hF.fn]; exact hf
            cases hC with
            | cons hc hl2 hC =>
            rename_i lo2 c' cs'
            unfold returnTo at hs
            split at hs
            · rename_i hdd
              have hkd : f.kind = .deferred := by rw [hF.kind]; exact if_pos hdd
              split at hs
              · rename_i hcr
                injection hs with hs; subst hs
                have hcm : c'.mode = .returning := by rw [hc.mode]; exact if_pos hcr
                have hst := c_returnD (cs := cs') hmode hfd hkd hf' hrun hcm
                refine ⟨_, cs', w, .one hst, MR.mk' (r := r) (lo := lo2) (hc.mono (Rho.le_refl r) hlo fun _ _ => rfl) (by show lo2 ≤ mnx; omega) hC hH fun g k' e hp hr => ?_⟩
                exact Bool.noConfusion (hr.symm.trans hcr)
              · cases hs
            · rename_i hdd
              have hkd : f.kind = .normal := by rw [hF.kind]; exact if_neg hdd
              split at hs
              · rename_i fr hfin
                injection hs with hs; subst hs
                have hst := c_return (c := c') (cs := cs') hmode hfd hkd hf' hrun
                obtain ⟨ht1, ht2⟩ := finish_todo hfin
                refine ⟨_, cs', w, .one hst, MR.mk' (r := r) (lo := lo2) ((finish_sound hc hfin hu).mono (Rho.le_refl r) hlo fun _ _ => rfl) (by show lo2 ≤ mnx; omega) hC hH fun g k' e hp => ?_⟩
                rw [ht2 g k' e] at hp; cases hp
              · cases hs
          · cases hs
        · cases hs

end Abs
end Go.Proofs.YtonnifoeokagjaaGreat
