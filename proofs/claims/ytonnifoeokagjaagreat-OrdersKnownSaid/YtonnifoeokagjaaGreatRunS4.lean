/-
  A list of operations in its own order: each step is the machine's. No condition.
-/
import Derived.Test.YtonnifoeokagjaaGreatRunS3
namespace Go.Proofs.YtonnifoeokagjaaGreat
open Go Go.RowKit
namespace Abs

theorem aev_sound {r : Rho} {s : BT AV} {f : Frame} (h : TR r s f.tmps) (x : Operand) : VR r (aev s x) (f.eval x) := by
  cases x with
  | tmp t => exact h t
  | const v => exact .g v
  | global g => exact .g _
  | func g => exact .fn .nil

theorem exit_sound {r : Rho} (id : Nat) : ∀ {a : List AItem} {c : List Item}, IRs r a c → (∀ a', aexit id a = some a' → ∃ c', exitTo id c = some c' ∧ IRs r a' c') ∧ (aexit id a = none → exitTo id c = none)
  | _, _, .nil => ⟨fun _ h => (by simp [aexit] at h), fun _ => rfl⟩
  | _, _, .cons (a := a) (as := as) h t => by
    have ih := exit_sound id t
    cases h with
    | inBlock id' =>
      simp only [aexit, exitTo]
      by_cases hid : (id' == id) = true
      · simp only [hid, if_true]
        exact ⟨fun a' e => by injection e with e; subst e; exact ⟨_, rfl, t⟩, fun e => by cases e⟩
      · simp only [hid]
        exact ih
    | code c => simpa [aexit, exitTo] using ih
    | inLoop b => simpa [aexit, exitTo] using ih
    | ops e => simpa [aexit, exitTo] using ih
    | inRange e => simpa [aexit, exitTo] using ih
    | endRange e => simpa [aexit, exitTo] using ih
    | beginRound => simpa [aexit, exitTo] using ih

theorem wanted_sound {r : Rho} {s : BT AV} {t : Array Value} {ops : Array Oper} {o : Oper} {b : Bool} (h : awanted ops s o = some b)
    (hs : ∀ j w o' d, o.guard = some (j, w) → ops[j]? = some o' → o'.dst = some d → VR r (slot s d) (t.getD d undef)) : Region.wanted o (yielded ops t) = b := by
  unfold awanted at h
  unfold Region.wanted
  split at h
  · rename_i hg; injection h with h; rw [hg]; exact h
  · rename_i j want hg
    rw [hg]
    split at h
    · rename_i o' ho
      split at h
      · rename_i d hd
        have hv := hs j want o' d hg ho hd
        have hget : t.getD d undef = (t[d]?).getD undef := Array.getD_eq_getD_getElem? ..
        split at h
        · rename_i q hq
          rw [hq] at hv
          injection h with h; subst h
          rw [hget] at hv
          simp only [yielded, ho, Option.bind_some, hd]
          cases ht : t[d]? with
          | none => rw [ht] at hv; cases hv
          | some u =>
            rw [ht] at hv
            simp only [Option.getD_some] at hv
            cases hv
            cases q <;> cases want <;> rfl
        · rename_i q hq
          rw [hq] at hv
          injection h with h; subst h
          rw [hget] at hv
          simp only [yielded, ho, Option.bind_some, hd]
          cases ht : t[d]? with
          | none => rfl
          | some u =>
            rw [ht] at hv
            simp only [Option.getD_some] at hv
            cases hv
            rfl
        · cases h
      · cases h
    · cases h

/-- the operands of an operation, where each slot stands for its variable -/
theorem opnds_sound {r : Rho} {s : BT AV} {f : Frame} (h : TR r s f.tmps) (o : Oper) : ∀ x ∈ o.op.operands.toList, VR r (aev s x) (f.eval x) := fun x _ => aev_sound h x

theorem aeff_defer {P : Program} {xt : FuncId → Option Ext} {h : Heap} {ae : Operand → AV} {o : Oper} {er : ER} (he : aeff P xt h ae o = some er) {c : Call} (hc : o.op = .defer c) : ∃ d, er = .defer d := by
  unfold aeff at he
  rw [hc] at he
  replace he : eDeferC ae c = some er := he
  unfold eDeferC at he
  split at he
  · unfold eDefer at he
    split at he
    · injection he with he; exact ⟨_, he.symm⟩
    · cases he
  · cases he

theorem upon_defer_round {P : Program} {m : AM} {wait : AFrame} {d : AD} {l : Nat} (h : wait.roundOf = some l) : upon P m wait (.defer d) = none := by
  simp [upon, h]

/-- an allocating quiet operation, upon the heap -/
theorem alloc_next {r : Rho} {h : Heap} {nx : Nat} {w0 w : World} (hr : HR r h nx w0 w) {o : AO} {obj : Obj} (hor : OR r o 0 (some obj)) :
    HR (r.upd nx (w.heap.size, 0)) (hset h nx o) (nx + 1) w0 { w with heap := w.heap.push obj } :=
  hr.alloc (hr.fresh (Nat.le_refl _)) (Nat.lt_succ_self _) (Nat.le_succ _) (by simp [hget_hset]) (fun b x e => by
    rw [hget_hset, if_neg]
    have := (hr.dom b x e).1
    omega) hor

theorem QOK.obj {P : Program} {r : Rho} {ev : Operand → Value} {o : Oper} {w : World} {q : QR} (h : QOK P r ev o w q) {ob : AO} (hq : q.obj = some ob) :
    ∃ x u, (execOp ev o).run P w = .ok (.value u) { w with heap := w.heap.push x } ∧ OR r ob 0 (some x) ∧ ∀ (r' : Rho) (id : Nat), r' id = some (w.heap.size, 0) → VR r' (q.av id) u := by
  cases q with
  | val v => cases hq
  | newP o' =>
    injection hq with hq; subst hq
    obtain ⟨x, h1, h2⟩ := h
    exact ⟨x, _, h1, h2, fun r' id e => .ptr e⟩
  | newS o' len cap =>
    injection hq with hq; subst hq
    obtain ⟨x, h1, h2⟩ := h
    exact ⟨x, _, h1, h2, fun r' id e => .sl e⟩
  | newM o' =>
    injection hq with hq; subst hq
    obtain ⟨x, h1, h2⟩ := h
    exact ⟨x, _, h1, h2, fun r' id e => .mp e⟩

/-- what a step owes -/
def Next1 (P : Program) (w0 : World) (base : List Frame) (f : Frame) (cs : List Frame) (w : World) (m' : AM) : Prop :=
  ∃ f' cs' w', Steps P (lone f cs w) (lone f' cs' w') ∧ MR P w0 base m' f' cs' w'

theorem to_sound {P : Program} {w0 : World} {base : List Frame} {m m' : AM} {f : Frame} {cs : List Frame} {w : World} {r : Rho} {lo : Nat} (hF : FR r lo m.next m.fr f) (hlo : lo ≤ m.next) (hC : CRs r base lo m.callers cs) (hH : HR r m.heap m.next w0 w)
    (hret : m.fr.ret = false) {todo : List AItem} {ctodo : List Item} (ht : to m todo = some m') (hir : IRs r todo ctodo) (htr : TR r m.fr.slots f.tmps) (hst : step P (lone f cs w) = .next (lone { f with todo := ctodo } cs w)) : Next1 P w0 base f cs w m' := by
  unfold to at ht
  injection ht with ht; subst ht
  obtain ⟨mfr, mcs, mh, mnx⟩ := m
  refine ⟨_, cs, w, .one hst, MR.mk' (r := r) (lo := lo) ⟨hF.fn, hF.size, hF.defers, hF.mode, hF.kind, hF.round, .plain hir htr⟩ hlo hC hH fun g k e => ?_⟩
  have e : todo = .reg g :: k := e
  rw [e] at hir
  cases hir with | cons hi _ => cases hi

theorem ops_sound {P : Program} {xt : FuncId → Option Ext} (pk : PK P xt) {w0 : World} {base : List Frame} {m m' : AM} {f : Frame} {cs : List Frame} {w : World} {r : Rho} {lo : Nat} (hF : FR r lo m.next m.fr f) (hlo : lo ≤ m.next)
    (hC : CRs r base lo m.callers cs) (hH : HR r m.heap m.next w0 w) (hret : m.fr.ret = false) {l : List Oper} {ops : Array Oper} {k : List AItem} (htodo : m.fr.todo = .ops l ops :: k) (hs : stepOps P xt m l ops k = some m') : Next1 P w0 base f cs w m' := by
  have hmode : f.mode = .run := by rw [hF.mode, hret]; rfl
  have htop := hF.top
  rw [htodo] at htop
  generalize hft : f.todo = ft at htop
  cases htop with
  | plain hir htr =>
  cases hir with | cons hi hir =>
  cases hi with | ops hidx =>
  rename_i is idx
  unfold stepOps at hs
  split at hs
  · -- the end
    have : idx = [] := by simpa using hidx
    subst this
    exact to_sound hF hlo hC hH hret hs hir htr (c_to hmode hft (.inr (.inr (.inr (.inr (.inr (.inr (.inr ⟨ops, rfl, rfl⟩))))))))
  · rename_i o l
    cases idx with
    | nil => simp at hidx
    | cons i rest =>
    simp only [List.map_cons, List.cons.injEq] at hidx
    obtain ⟨hio, hrest⟩ := hidx
    unfold aop at hs
    split at hs
    · rename_i b hw
      have hwant : Region.wanted o (yielded ops f.tmps) = b := wanted_sound hw fun _ _ _ d _ _ _ => htr d
      cases b with
      | false =>
        simp only [Bool.false_eq_true, if_false] at hs
        unfold opSkip at hs
        split at hs
        · rename_i fr hput
          injection hs with hs; subst hs
          obtain ⟨rfl, hd⟩ := put_spec' hput
          have hst := c_skip (P := P) (cs := cs) (w := w) hmode hft (by simp [hio, hwant])
          rw [finish_region f hft hio] at hst
          obtain ⟨mfr, mcs, mh, mnx⟩ := m
          refine ⟨_, cs, w, .one hst, MR.mk' (r := r) (lo := lo) ⟨hF.fn, by rw [tput_size]; exact hF.size, hF.defers, hF.mode, hF.kind, hF.round, .plain (.cons (.ops hrest) hir) (htr.put (fun n hn => by rw [hF.size]; exact hd n hn) (.g _))⟩ hlo hC hH fun g k' e => ?_⟩
          have e : AItem.ops l ops :: k = .reg g :: k' := e
          cases e
        · cases hs
      | true =>
        simp only [if_true] at hs
        split at hs
        · -- an effect
          unfold opEff at hs
          split at hs
          · rename_i er her
            have hd : f.roundOf = none ∨ ∀ c, o.op ≠ .defer c := by
              cases hro : f.roundOf with
              | none => exact .inl rfl
              | some l' =>
                right
                intro c hc
                obtain ⟨d, rfl⟩ := aeff_defer her hc
                have hr2 := hF.round
                rw [hro] at hr2
                cases har : m.fr.roundOf with
                | none => rw [har] at hr2; exact hr2
                | some l2 => rw [upon_defer_round har] at hs; cases hs
            have hg := c_oper (P := P) (cs := cs) (w := w) hmode hft hio hwant hd
            have hok := aeff_sound pk hH (opnds_sound htr o) her
            obtain ⟨f', cs', w', h1, h2⟩ := upon_sound hF hlo (Nat.le_refl _) hC hH (.of_eq hg) hok hs
            exact ⟨f', cs', w', .one h1, h2⟩
          · cases hs
        · -- a quiet one
          rename_i heff
          have hnd : f.roundOf = none ∨ ∀ c, o.op ≠ .defer c := .inr fun c hc => by rw [hc] at heff; simp [effectful] at heff
          have hg := c_oper (P := P) (cs := cs) (w := w) hmode hft hio hwant hnd
          unfold opQuiet at hs
          split at hs
          · rename_i q hq
            have hok := aquiet_sound P hH (opnds_sound htr o) hq
            split at hs
            · rename_i hob
              cases q with
              | newP _ => cases hob
              | newS _ _ _ => cases hob
              | newM _ => cases hob
              | val v =>
              split at hs
              · rename_i fr hput
                injection hs with hs; subst hs
                obtain ⟨rfl, hd⟩ := put_spec' hput
                obtain ⟨u, hrun, hv⟩ := hok
                have hst := c_value (.of_eq hg) hrun (.inl rfl)
                rw [finish_region f hft hio] at hst
                obtain ⟨mfr, mcs, mh, mnx⟩ := m
                refine ⟨_, cs, w, .one hst, MR.mk' (r := r) (lo := lo) ⟨hF.fn, by rw [tput_size]; exact hF.size, hF.defers, hF.mode, hF.kind, hF.round, .plain (.cons (.ops hrest) hir) (htr.put (fun n hn => by rw [hF.size]; exact hd n hn) hv)⟩ hlo hC hH fun g k' e => ?_⟩
                have e : AItem.ops l ops :: k = .reg g :: k' := e
                cases e
              · cases hs
            · rename_i ob hob
              split at hs
              · rename_i fr hput
                injection hs with hs; subst hs
                obtain ⟨rfl, hd⟩ := put_spec' hput
                obtain ⟨x, u, hrun, hor, hv⟩ := hok.obj hob
                have hst := c_value (.of_eq hg) hrun (.inl rfl)
                rw [finish_region f hft hio] at hst
                obtain ⟨mfr, mcs, mh, mnx⟩ := m
                have hnone : r mnx = none := hH.fresh (Nat.le_refl _)
                have hle := Rho.le_upd (x := (w.heap.size, 0)) hnone
                have hsame : ∀ b, b < mnx → r.upd mnx (w.heap.size, 0) b = r b := fun b hb => Rho.upd_ne _ _ (by omega)
                have hF' := hF.mono hle (Nat.le_succ mnx) hsame
                refine ⟨_, cs, _, .one hst, MR.mk' (r := r.upd mnx (w.heap.size, 0)) (lo := lo) ⟨hF'.fn, by rw [tput_size]; exact hF'.size, hF'.defers, hF'.mode, hF'.kind, hF'.round, .plain (.cons (.ops hrest) (hir.mono hle)) ((htr.mono hle).put (fun n hn => by rw [hF.size]; exact hd n hn) (hv _ _ (Rho.upd_same _ _ _)))⟩
                  (by show lo ≤ mnx + 1; simp only at hlo; omega) (hC.mono hle fun b hb => hsame b (by simp only at hlo; omega)) (alloc_next hH hor) fun g k' e => ?_⟩
                have e : AItem.ops l ops :: k = .reg g :: k' := e
                cases e
              · cases hs
          · cases hs
    · cases hs

end Abs
end Go.Proofs.YtonnifoeokagjaaGreat
