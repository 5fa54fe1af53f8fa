/-
  An effect, upon the machine: calls, rounds and deferred calls. No condition.
-/
import Derived.Test.YtonnifoeokagjaaGreatRunS2
namespace Go.Proofs.YtonnifoeokagjaaGreat
open Go Go.RowKit
namespace Abs

theorem slot_putArgs : ∀ (l : List AV) (i : Nat) (t : BT AV) (n : Nat), slot (putArgs l i t) n = if i ≤ n then (match l[n - i]? with | some v => v | none => slot t n) else slot t n
  | [], i, t, n => by simp [putArgs]
  | v :: l, i, t, n => by
    rw [putArgs, slot_putArgs l (i + 1) _ n, slot_sset]
    by_cases h1 : i + 1 ≤ n
    · have h2 : i ≤ n := by omega
      have h3 : n - i = (n - (i + 1)) + 1 := by omega
      have h4 : ¬ n = i := by omega
      simp [h1, h2, h3, h4]
    · by_cases h2 : n = i
      · subst h2; simp; intro h; omega
      · have h3 : ¬ i ≤ n := by omega
        simp [h1, h2, h3]

theorem enter_sound {P : Program} {r : Rho} {g : FuncId} {args : List AV} {as : List Value} {d : Bool} {a : AFrame} (ha : VRs r args as) (he : AFrame.enter P g args d = some a) (n : Nat) :
    FR r n n a (Frame.enter P g as.toArray (if d then .deferred else .normal)) ∧ a.ret = false ∧ (∃ c, a.todo = [.code c]) ∧ a.roundOf = none := by
  unfold AFrame.enter at he
  split at he
  · rename_i fn hf
    split at he
    · rename_i c hb
      split at he
      · rename_i hlen
        injection he with he; subst he
        have hl := ha.length
        refine ⟨⟨rfl, ?_, .nil, rfl, rfl, trivial, ?_⟩, rfl, ⟨c, rfl⟩, rfl⟩
        · simp [Frame.enter, hf]; omega
        · have ht : (Frame.enter P g as.toArray (if d then CallKind.deferred else CallKind.normal)).todo = [.code c] := by simp [Frame.enter, hf, hb]
          rw [ht]
          refine .plain (.cons (.code c) .nil) fun i => ?_
          rw [slot_putArgs]
          simp only [Nat.zero_le, if_true, Nat.sub_zero, slot_nil]
          have htm : (Frame.enter P g as.toArray (if d then CallKind.deferred else CallKind.normal)).tmps = as.toArray ++ Array.replicate (fn.ntmps - as.length) undef := by simp [Frame.enter, hf]
          rw [htm]
          cases hi : args[i]? with
          | some v =>
            obtain ⟨u, hu, hvu⟩ := ha.get hi
            have hlt := (List.getElem?_eq_some_iff.1 hu).1
            have : (as.toArray ++ Array.replicate (fn.ntmps - as.length) undef).getD i undef = u := by
              rw [Array.getD_eq_getD_getElem?, Array.getElem?_append_left (by simpa using hlt)]
              simp [hu]
            rw [this]; exact hvu
          | none =>
            have hge := List.getElem?_eq_none_iff.1 hi
            have : (as.toArray ++ Array.replicate (fn.ntmps - as.length) undef).getD i undef = undef := by
              rw [Array.getD_eq_getD_getElem?, Array.getElem?_append_right (by simp; omega)]
              simp only [Array.getElem?_replicate]
              split <;> rfl
            rw [this]; exact .g _
      · cases he
    · cases he
  · cases he

theorem putParams_sound {r : Rho} : ∀ (ps : List Tmp) (vs : List AV) (as : List Value) (t t' : BT AV) (arr : Array Value), putParams ps vs arr.size t = some t' → VRs r vs as → TR r t arr →
    TR r t' ((ps.zip as).foldl (fun tmps (x : Tmp × Value) => tmps.setIfInBounds x.1 x.2) arr) ∧ ((ps.zip as).foldl (fun tmps (x : Tmp × Value) => tmps.setIfInBounds x.1 x.2) arr).size = arr.size
  | [], vs, as, t, t', arr, h, hv, ht => by
    cases vs with
    | nil => simp only [putParams, Option.some.injEq] at h; subst h; exact ⟨ht, rfl⟩
    | cons v vs => simp [putParams] at h
  | p :: ps, vs, as, t, t', arr, h, hv, ht => by
    cases hv with
    | nil => simp [putParams] at h
    | cons hv hvs =>
    simp only [putParams] at h
    split at h
    · rename_i hp
      simp only [List.zip_cons_cons, List.foldl_cons]
      have := putParams_sound ps _ _ _ t' (arr.setIfInBounds p _) (by simpa using h) hvs (ht.set hp hv)
      exact ⟨this.1, by rw [this.2]; simp⟩
    · cases h

theorem finish_todo {a a' : AFrame} {v : AV} (h : a.finish v = some a') : a'.ret = a.ret ∧ ∀ g k, a'.todo = .reg g :: k → g.phase = .unsat := by
  unfold AFrame.finish at h
  split at h
  · split at h
    · rename_i b hput
      injection h with h; subst h
      obtain ⟨rfl, _⟩ := put_spec' hput
      exact ⟨rfl, fun g k e => by simp [AFrame.wTodo] at e⟩
    · cases h
  · split at h
    · split at h
      · rename_i b hput
        injection h with h; subst h
        obtain ⟨rfl, _⟩ := put_spec' hput
        refine ⟨rfl, fun g k e => ?_⟩
        simp only [AFrame.wTodo, List.cons.injEq, AItem.reg.injEq] at e
        rw [← e.1]; rfl
      · cases h
    · cases h
  · injection h with h; subst h
    exact ⟨rfl, fun g k e => by simp [AFrame.wTodo] at e⟩
  · cases h

theorem FR.notCall {r : Rho} {lo hi : Nat} {a : AFrame} {f : Frame} (h : FR r lo hi a f) : ∀ d x v k, f.todo ≠ .call d true x v :: k := by
  intro d x v k e
  have := h.top
  rw [e] at this
  generalize a.todo = q at this
  cases this with
  | plain hir _ => cases hir with | cons hi _ => cases hi

theorem MR.mk' {P : Program} {w0 : World} {base : List Frame} {m : AM} {f : Frame} {cs : List Frame} {w : World} {r : Rho} {lo : Nat} (h1 : FR r lo m.next m.fr f) (h2 : lo ≤ m.next) (h3 : CRs r base lo m.callers cs) (h4 : HR r m.heap m.next w0 w)
    (h5 : ∀ g k, m.fr.todo = .reg g :: k → g.phase = .sat → m.fr.ret = false → checkAll P g (maskOf g.effs) m.fr.slots m.heap g.infos = true) : MR P w0 base m f cs w := ⟨⟨r, lo, h1, h2, h3, h4⟩, h5⟩

theorem upon_sound {P : Program} {base : List Frame} {w0 : World} {m m' : AM} {wait : AFrame} {er : ER} {f0 f : Frame} {cs : List Frame} {wa wb : World} {s : Sem Next} {r : Rho} {lo hi : Nat}
    (hF : FR r lo hi wait f) (hlo : lo ≤ hi) (hhi : hi ≤ m.next) (hC : CRs r base lo m.callers cs) (hH : HR r m.heap m.next w0 wb)
    (hg : Applies P f0 wa f cs s wb) (he : EOK P r m.heap m.next w0 wb s er) (hu : upon P m wait er = some m') :
    ∃ f' cs' w', step P (lone f0 cs wa) = .next (lone f' cs' w') ∧ MR P w0 base m' f' cs' w' := by
  obtain ⟨mfr, mcs, mh, mnx⟩ := m
  simp only at hhi hC hH he
  cases er with
  | val v h' =>
    obtain ⟨n, u, w', hrun, hn, hv, hH'⟩ := he
    simp only [upon] at hu
    split at hu
    · rename_i fr hfin
      injection hu with hu; subst hu
      obtain ⟨ht1, ht2⟩ := finish_todo hfin
      exact ⟨_, cs, w', c_value hg hrun hn, MR.mk' (r := r) (lo := lo) ((finish_sound hF hfin hv).mono (Rho.le_refl _) hhi fun _ _ => rfl) (by show lo ≤ mnx; omega) hC hH' fun g k e hs => by rw [ht2 g k e] at hs; cases hs⟩
    · cases hu
  | newx o len h' =>
    obtain ⟨k, N, w', hrun, hlen, hnone, hH'⟩ := he
    simp only [upon] at hu
    split at hu
    · rename_i fr hfin
      injection hu with hu; subst hu
      obtain ⟨ht1, ht2⟩ := finish_todo hfin
      have hle := Rho.le_upd (x := (k, N)) hnone
      have hsame : ∀ b, b < hi → r.upd mnx (k, N) b = r b := fun b hb => Rho.upd_ne _ _ (by omega)
      have hF' := hF.mono hle (Nat.le_refl hi) hsame
      have hv : VR (r.upd mnx (k, N)) (.slx mnx 0 0 len) (.slice (some ⟨k, 0, none⟩) len N) := VR.slx (j := 0) (Rho.upd_same _ _ _) (by omega)
      exact ⟨_, cs, w', c_value hg hrun (.inl rfl), MR.mk' (r := r.upd mnx (k, N)) (lo := lo) ((finish_sound hF' hfin hv).mono (Rho.le_refl _) (by show hi ≤ mnx + 1; omega) fun _ _ => rfl) (by show lo ≤ mnx + 1; omega)
        (hC.mono hle fun b hb => hsame b (by omega)) hH' fun g k e hs => by rw [ht2 g k e] at hs; cases hs⟩
    · cases hu
  | enter g args =>
    obtain ⟨as, hrun, hv⟩ := he
    simp only [upon] at hu
    split at hu
    · rename_i fr hen
      injection hu with hu; subst hu
      obtain ⟨e1, e2, ⟨c, e3⟩, e4⟩ := enter_sound hv hen mnx
      exact ⟨_, f :: cs, wb, c_enter hg hrun hF.notCall, MR.mk' (r := r) (lo := mnx) e1 (Nat.le_refl _) (.cons (hF.mono (Rho.le_refl _) hhi fun _ _ => rfl) (by omega) hC) hH fun g k e => by
        have : fr.todo = .reg g :: k := e
        rw [e3] at this; cases this⟩
    · cases hu
  | defer d =>
    obtain ⟨d', hrun, hd⟩ := he
    simp only [upon] at hu
    split at hu
    · rename_i hro
      split at hu
      · rename_i fr hfin
        injection hu with hu; subst hu
        obtain ⟨ht1, ht2⟩ := finish_todo hfin
        have hF' : FR r lo hi (wait.wDefers (d :: wait.defers)) { f with defers := d' :: f.defers } := ⟨hF.fn, hF.size, .cons hd hF.defers, hF.mode, hF.kind, hF.round, hF.top⟩
        exact ⟨_, cs, wb, c_defer hg hrun, MR.mk' (r := r) (lo := lo) ((finish_sound hF' hfin (.g _)).mono (Rho.le_refl _) hhi fun _ _ => rfl) (by show lo ≤ mnx; omega) hC hH fun g k e hs => by rw [ht2 g k e] at hs; cases hs⟩
      · cases hu
    · cases hu
  | round l args =>
    obtain ⟨k, n, as, lo', al, hl, hob, hk, hlr, hv, hlen, hrun⟩ := he
    simp only [upon, hob] at hu
    split at hu
    · rename_i slots hps
      injection hu with hu; subst hu
      obtain ⟨l1, l2, l3, l4, l5, l6, l7, l8, l9⟩ := hlr
      have hpp := putParams_sound al.params args as al.slots slots lo'.tmps (by rw [l5]; exact hps) hv l4
      have hfold : (lo'.params.zip as.toArray).foldl (fun tmps (x : Tmp × Value) => tmps.setIfInBounds x.1 x.2) lo'.tmps = (al.params.zip as).foldl (fun tmps (x : Tmp × Value) => tmps.setIfInBounds x.1 x.2) lo'.tmps := by
        rw [← Array.foldl_toList, Array.toList_zip, l6]
      refine ⟨_, f :: cs, wb, c_round hg hrun, MR.mk' (r := r) (lo := mnx) ⟨l3, ?_, .nil, rfl, rfl, ⟨n, hl⟩, ?_⟩ (Nat.le_refl _) (.cons (hF.mono (Rho.le_refl _) hhi fun _ _ => rfl) (by omega) hC) hH fun g k e => by
        have : [AItem.code al.assign, .beginRound, .code al.body] = .reg g :: k := e
        cases this⟩
      · show ((lo'.params.zip as.toArray).foldl (fun tmps (x : Tmp × Value) => tmps.setIfInBounds x.1 x.2) lo'.tmps).size = al.size
        rw [hfold, hpp.2, l5]
      · show TopR r slots ((lo'.params.zip as.toArray).foldl (fun tmps (x : Tmp × Value) => tmps.setIfInBounds x.1 x.2) lo'.tmps) _ _ [.code al.assign, .beginRound, .code al.body] [.code lo'.assign, .beginRound, .code lo'.body]
        rw [hfold, l7, l8]
        exact .plain (.cons (.code _) (.cons .beginRound (.cons (.code _) .nil))) hpp.1
    · cases hu

end Abs
end Go.Proofs.YtonnifoeokagjaaGreat
