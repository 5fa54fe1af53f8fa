/-
  Rounds of a range over a function, and the end of a frame. No condition.
-/
import Derived.Test.YtonnifoeokagjaaGreatRunS7
namespace Go.Proofs.YtonnifoeokagjaaGreat
open Go Go.RowKit
namespace Abs

theorem run_loop {P : Program} {r : Rho} {h : Heap} {nx : Nat} {w0 w : World} (hr : HR r h nx w0 w) {l k n : Nat} (hl : r l = some (k, n)) {al : ALoop} (ho : hget h l = some (.loop al)) :
    ∃ lo, LR r al lo ∧ w.heap[k]? = some (.loop lo) ∧ (Instr.getLoop k).run P w = .ok lo w ∧ k < w.heap.size := by
  obtain ⟨lo, hk, hlr⟩ := hr.obj l _ k n ho hl
  exact ⟨lo, hlr, hk, by simp [Instr.getLoop, getObj, Sem.run, hk], (hr.dom l _ hl).2.2⟩

theorem run_setObj {P : Program} {w : World} {k : Nat} {x : Obj} {o : Obj} (hk : w.heap[k]? = some o) (ho : ∀ c e f, o ≠ .cells c e f) : (setObj k x).run P w = .ok () { w with heap := w.heap.setIfInBounds k x } := by
  cases o <;> simp_all [setObj, Sem.run]

/-- a loop is turned to another state -/
theorem set_loop {r : Rho} {h : Heap} {nx : Nat} {w0 w : World} (hr : HR r h nx w0 w) {l k n : Nat} (hl : r l = some (k, n)) {al : ALoop} (ho : hget h l = some (.loop al)) {lo : Loop} (hlr : LR r al lo) (hk : k < w.heap.size) (st : LoopState) (p : Option Code) :
    HR r (hset h l (.loop (al.wState st p))) nx w0 { w with heap := w.heap.setIfInBounds k (.loop { lo with state := st, pending := p }) } := by
  refine hr.set hl ho trivial (o' := .loop (al.wState st p)) ⟨_, rfl, ?_⟩ (turned_setObj hk)
  obtain ⟨_, _, a3, a4, a5, a6, a7, a8, a9⟩ := hlr
  exact ⟨rfl, rfl, a3, a4, a5, a6, a7, a8, a9⟩

theorem begin_sound {P : Program} {w0 : World} {base : List Frame} {m m' : AM} {f : Frame} {cs : List Frame} {w : World} {r : Rho} {lo : Nat} (hF : FR r lo m.next m.fr f) (hlo : lo ≤ m.next)
    (hC : CRs r base lo m.callers cs) (hH : HR r m.heap m.next w0 w) (hret : m.fr.ret = false) {k : List AItem} (htodo : m.fr.todo = .beginRound :: k) (hs : stepBegin m k = some m') : Next1 P w0 base f cs w m' := by
  have hmode : f.mode = .run := by rw [hF.mode, hret]; rfl
  have htop := hF.top
  rw [htodo] at htop
  generalize hft : f.todo = ft at htop
  cases htop with
  | plain hir htr =>
  cases hir with | cons hi hir =>
  cases hi
  unfold stepBegin at hs
  split at hs
  · rename_i l hround
    split at hs
    · rename_i al ho
      split at hs
      · rename_i hst
        injection hs with hs; subst hs
        have hr2 := hF.round
        rw [hround] at hr2
        cases hro : f.roundOf with
        | none => rw [hro] at hr2; exact hr2.elim
        | some kk =>
        rw [hro] at hr2
        obtain ⟨n, hl⟩ := hr2
        obtain ⟨lo', hlr, hk, hget, hlt⟩ := run_loop (P := P) hH hl ho
        have hrun : (Instr.beginRound kk).run P w = .ok () { w with heap := w.heap.setIfInBounds kk (.loop { lo' with state := .busy }) } := by
          have h1 : lo'.state = .ready := hlr.1.trans hst
          simp [Instr.beginRound, hget, run_setObj hk (by simp), h1]
        have hstp := c_begin (cs := cs) hmode hft hro hrun
        have hpend : lo'.pending = al.pending := hlr.2.1
        have hset := set_loop hH hl ho hlr hlt .busy al.pending
        have hloop : ({ lo' with state := .busy, pending := al.pending } : Loop) = { lo' with state := .busy } := by rw [← hpend]
        rw [hloop] at hset
        obtain ⟨fn, tmps, td, defers, mode, kind, roundOf⟩ := f
        simp only at hft
        subst hft
        obtain ⟨mfr, mcs, mh, mnx⟩ := m
        refine ⟨_, cs, _, .one hstp, MR.mk' (r := r) (lo := lo) ⟨hF.fn, hF.size, hF.defers, hF.mode, hF.kind, hF.round, .plain hir htr⟩ hlo hC hset fun g k' e => ?_⟩
        have e : k = .reg g :: k' := e
        rw [e] at hir
        cases hir with | cons hi _ => cases hi
      · cases hs
    · cases hs
  · cases hs

theorem endRange_sound {P : Program} {w0 : World} {base : List Frame} {m m' : AM} {f : Frame} {cs : List Frame} {w : World} {r : Rho} {lo : Nat} (hF : FR r lo m.next m.fr f) (hlo : lo ≤ m.next)
    (hC : CRs r base lo m.callers cs) (hH : HR r m.heap m.next w0 w) (hret : m.fr.ret = false) {l : Nat} {k : List AItem} (htodo : m.fr.todo = .endRange l :: k) (hs : stepEndRange m l k (hget m.heap l) = some m') : Next1 P w0 base f cs w m' := by
  have hmode : f.mode = .run := by rw [hF.mode, hret]; rfl
  have htop := hF.top
  rw [htodo] at htop
  generalize hft : f.todo = ft at htop
  cases htop with
  | plain hir htr =>
  cases hir with | cons hi hir =>
  cases hi with | endRange hl =>
  rename_i is kk n
  cases ho : hget m.heap l with
  | none => rw [ho] at hs; cases hs
  | some o =>
  rw [ho] at hs
  cases o with
  | loop al =>
    simp only [stepEndRange] at hs
    obtain ⟨lo', hlr, hk, hget, hlt⟩ := run_loop (P := P) hH hl ho
    have hstate : lo'.state = al.state := hlr.1
    have hpend : lo'.pending = al.pending := hlr.2.1
    have key : al.state ≠ .busy → some (m.wFrH (m.fr.wTodo ((match al.pending with | some c => [AItem.code c] | none => []) ++ k)) (hset m.heap l (.loop (al.wState .exhausted al.pending)))) = some m' → Next1 P w0 base f cs w m' := by
      intro hb hs
      injection hs with hs; subst hs
      have hrun : (Instr.endLoop kk).run P w = .ok al.pending { w with heap := w.heap.setIfInBounds kk (.loop { lo' with state := .exhausted }) } := by
        have h1 : ¬ lo'.state = LoopState.busy := by rw [hstate]; exact hb
        simp [Instr.endLoop, hget, run_setObj hk (by simp), h1, hpend]
      have hstp := c_endRange (cs := cs) hmode hft hrun
      have hset := set_loop hH hl ho hlr hlt .exhausted al.pending
      have hloop : ({ lo' with state := .exhausted, pending := al.pending } : Loop) = { lo' with state := .exhausted } := by rw [← hpend]
      rw [hloop] at hset
      have hir' : IRs r ((match al.pending with | some c => [AItem.code c] | none => []) ++ k) ((al.pending.map Item.code).toList ++ is) := by
        cases al.pending with
        | none => exact hir
        | some c => exact .cons (.code c) hir
      obtain ⟨mfr, mcs, mh, mnx⟩ := m
      refine ⟨_, cs, _, .one hstp, MR.mk' (r := r) (lo := lo) ⟨hF.fn, hF.size, hF.defers, hF.mode, hF.kind, hF.round, .plain hir' htr⟩ hlo hC hset fun g k' e => ?_⟩
      have e : (match al.pending with | some c => [AItem.code c] | none => []) ++ k = .reg g :: k' := e
      rw [e] at hir'
      generalize ((al.pending.map Item.code).toList ++ is) = q at hir'
      cases hir' with | cons hi _ => cases hi
    split at hs
    · cases hs
    · rename_i hb
      exact key hb hs
  | cells _ _ => cases hs
  | cellsx _ _ _ => cases hs
  | map _ _ => cases hs
  | defs _ => cases hs
  | dead => cases hs

/-- the frame leaves its code -/
theorem leave_sound {P : Program} {w0 : World} {base : List Frame} {m m' : AM} {f : Frame} {cs : List Frame} {w : World} {r : Rho} {lo : Nat} (hF : FR r lo m.next m.fr f) (hlo : lo ≤ m.next)
    (hC : CRs r base lo m.callers cs) (hH : HR r m.heap m.next w0 w) (hret : m.fr.ret = false) {jump : Option Code}
    (htodo : (m.fr.todo = [] ∧ jump = none) ∨ (∃ k, m.fr.todo = .code .ret :: k ∧ jump = some .ret) ∨ (∃ id k, m.fr.todo = .code (.exit id) :: k ∧ aexit id k = none ∧ jump = some (.exit id))) (hs : leave m jump = some m') : Next1 P w0 base f cs w m' := by
  have hmode : f.mode = .run := by rw [hF.mode, hret]; rfl
  have hplain : ∃ ft, f.todo = ft ∧ IRs r m.fr.todo ft ∧ TR r m.fr.slots f.tmps := by
    have htop := hF.top
    generalize hft : f.todo = ft at htop
    generalize hat : m.fr.todo = at' at htop htodo
    cases htop with
    | plain hir htr => exact ⟨ft, rfl, hir, htr⟩
    | reg _ _ _ _ => rcases htodo with ⟨h, _⟩ | ⟨k, h, _⟩ | ⟨id, k, h, _⟩ <;> cases h
  obtain ⟨ft, hft, hir, htr⟩ := hplain
  have hctodo : (f.todo = [] ∧ jump = none) ∨ (∃ k, f.todo = .code .ret :: k ∧ jump = some .ret) ∨ (∃ id k, f.todo = .code (.exit id) :: k ∧ exitTo id k = none ∧ jump = some (.exit id)) := by
    rw [hft]
    rcases htodo with ⟨h, h2⟩ | ⟨k, h, h2⟩ | ⟨id, k, h, h2, h3⟩
    · rw [h] at hir; cases hir; exact .inl ⟨rfl, h2⟩
    · rw [h] at hir; cases hir with | cons hi hir => cases hi; exact .inr (.inl ⟨_, rfl, h2⟩)
    · rw [h] at hir; cases hir with | cons hi hir => cases hi; exact .inr (.inr ⟨id, _, rfl, (exit_sound id hir).2 h2, h3⟩)
  unfold leave at hs
  split at hs
  · rename_i hround
    have hro : f.roundOf = none := by
      have hr2 := hF.round
      rw [hround] at hr2
      cases hro : f.roundOf with
      | none => rfl
      | some _ => rw [hro] at hr2; exact hr2.elim
    have fin : some (m.wFr m.fr.wRet) = some m' → (f.todo = [] ∨ ∃ k, f.todo = .code .ret :: k) → Next1 P w0 base f cs w m' := by
      intro hs ht
      injection hs with hs; subst hs
      have hst := c_ret (P := P) (cs := cs) (w := w) hmode hro ht rfl
      obtain ⟨mfr, mcs, mh, mnx⟩ := m
      refine ⟨_, cs, w, .one hst, MR.mk' (r := r) (lo := lo) ⟨hF.fn, hF.size, hF.defers, rfl, hF.kind, hF.round, hF.top⟩ hlo hC hH fun g k' e hp hr => ?_⟩
      cases hr
    split at hs
    · refine fin hs ?_
      rcases hctodo with ⟨h, h2⟩ | ⟨k, h, h2⟩ | ⟨id, k, h, _, h2⟩
      · exact .inl h
      · cases h2
      · cases h2
    · refine fin hs ?_
      rcases hctodo with ⟨h, h2⟩ | ⟨k, h, h2⟩ | ⟨id, k, h, _, h2⟩
      · cases h2
      · exact .inr ⟨k, h⟩
      · cases h2
    · cases hs
  · rename_i l hround
    split at hs
    · cases hs
    rename_i hkind
    unfold endRound at hs
    split at hs
    · rename_i al c acs ho hcs
      split at hs
      · rename_i fr hfin
        injection hs with hs; subst hs
        have hr2 := hF.round
        rw [hround] at hr2
        cases hro : f.roundOf with
        | none => rw [hro] at hr2; exact hr2.elim
        | some kk =>
        rw [hro] at hr2
        obtain ⟨n, hl⟩ := hr2
        obtain ⟨lo', hlr, hk, hget, hlt⟩ := run_loop (P := P) hH hl ho
        have hrun : (Instr.endRound kk jump).run P w = .ok (.bool jump.isNone) { w with heap := w.heap.setIfInBounds kk (.loop { lo' with state := if jump.isNone then .ready else .done, pending := jump }) } := by
          simp [Instr.endRound, hget, run_setObj hk (by simp)]
        have hset := set_loop hH hl ho hlr hlt (if jump.isNone then .ready else .done) jump
        rw [hcs] at hC
        have hkn : f.kind = .normal := by rw [hF.kind, if_neg hkind]
        obtain ⟨mfr, mcs, mh, mnx⟩ := m
        simp only at hlo
        cases hC with
        | cons hc hl2 hC =>
        rename_i lo2 c' cs'
        have hst := c_endRound (P := P) (c := c') (cs := cs') hmode hkn hro hctodo hrun
        obtain ⟨ht1, ht2⟩ := finish_todo hfin
        refine ⟨_, cs', _, .one hst, MR.mk' (r := r) (lo := lo2) ((finish_sound hc hfin (.g _)).mono (Rho.le_refl r) hlo fun _ _ => rfl) (by show lo2 ≤ mnx; omega) hC hset fun g k' e hp => ?_⟩
        rw [ht2 g k' e] at hp; cases hp
      · cases hs
    · cases hs

end Abs
end Go.Proofs.YtonnifoeokagjaaGreat
