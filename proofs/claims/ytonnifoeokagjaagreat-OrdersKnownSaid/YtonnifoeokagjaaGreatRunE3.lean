/-
  Stores into maps, atomics and calls of the abstract machine are those of the machine. No condition.
-/
import Derived.Test.YtonnifoeokagjaaGreatRunE2
import Derived.Conc.AtomicLaws2
namespace Go.Proofs.YtonnifoeokagjaaGreat
open Go Go.RowKit
namespace Abs

theorem sameNow_bits {kd : TypeDesc} (hk : keyKind kd = true) {x y : Value} (h : Instr.sameNow kd x y = some true) : Instr.sameBits 10000 y x = true := by
  cases kd <;> simp [keyKind] at hk
  unfold Instr.sameNow at h
  split at h
  · split at h
    · rename_i hk
      subst hk
      simp at h
      simp [Instr.sameBits, h]
    · cases h
  · rename_i h1; cases h1
  · rename_i h1; cases h1
  · cases h

theorem turned_setObj {w : World} {k : Nat} {o : Obj} (hk : k < w.heap.size) : Turned w { w with heap := w.heap.setIfInBounds k o } k o :=
  ⟨rfl, rfl, rfl, by simp, fun j hj => by simp [Array.getElem?_setIfInBounds_ne (Ne.symm hj)], by simp [hk]⟩

theorem amupd_sound (P : Program) {r : Rho} {h h' : Heap} {nx : Nat} {w0 w : World} (hr : HR r h nx w0 w) {t : TypeId} {m k v : AV} {xm xk xv : Value} (hm : VR r m xm) (hk : VR r k xk) (hv : VR r v xv)
    (he : amupd P h t m k v = some h') : ∃ w', (Instr.mapUpdate t xm xk xv).run P w = .ok () w' ∧ HR r h' nx w0 w' := by
  unfold amupd at he
  split at he
  · rename_i kt et hu
    split at he
    · rename_i kd hkd
      split at he
      · rename_i hkind
        split at he
        · rename_i b
          cases hm with
          | mp hb =>
          rename_i g n
          split at he
          · rename_i es clock ho
            obtain ⟨ms, hg, hms⟩ := hr.obj b _ g n ho hb
            have hglt : g < w.heap.size := (hr.dom b _ hb).2.2
            cases hq : afind kd k es 0 with
            | none => rw [hq] at he; cases he
            | some q =>
              rw [hq] at he
              rcases afind_sound hk es ms 0 q hq hms with ⟨rfl, h2⟩ | ⟨j, a, u, rfl, h2, h3, _, e, h5, h6⟩
              · simp only [putIn, Option.some.injEq] at he
                subst he
                refine ⟨_, ?_, hr.set hb ho trivial (o' := .map (es ++ [(k, v, clock)]) (clock + 1)) ⟨_, rfl, hms.push hk hv⟩ (turned_setObj hglt)⟩
                simp only [Instr.mapUpdate, Sem.run_bind, run_underlying hu, Result.andThen_ok, getObj, setObj, Sem.run, hg, run_checkKey hkd hkind, run_findKey hkd h2]
                simp
              · simp only [putIn, Option.some.injEq, modL_eq] at he
                subst he
                have hkey := sameNow_bits hkind h6
                simp only [Nat.sub_zero] at h5
                have hstay : ∀ w : World, (Instr.keyThatStays (((ms.toArray[j]?).map (·.key)).getD xk) xk).run P w = .ok xk w := by
                  intro w
                  simp [Instr.keyThatStays, h5, hkey]
                refine ⟨_, ?_, hr.set hb ho trivial (o' := .map (es.modify j fun e => (k, v, e.2.2)) clock) ⟨_, rfl, hms.modify hk hv j⟩ (turned_setObj hglt)⟩
                have harr : (ms.toArray.modify j fun e => { e with key := xk, val := xv }) = (ms.modify j fun e => { e with key := xk, val := xv }).toArray := by
                  apply Array.ext'; simp
                simp only [Instr.mapUpdate, Sem.run_bind, run_underlying hu, Result.andThen_ok, getObj, setObj, Sem.run, hg, run_checkKey hkd hkind, run_findKey hkd h2, hstay, harr]
          · cases he
        · cases he
      · cases he
    · cases he
  · cases he

theorem store1_sound (P : Program) {r : Rho} {h h' : Heap} {nx : Nat} {w0 w : World} (hr : HR r h nx w0 w) {b k m off : Nat} (hb : r b = some (k, m)) {v : AV} {u : Value} (hv : VR r v u) (hc : v.isCell = true)
    (hs : hstore h b off [v] = some h') : ∃ w', (∀ md, (store ⟨k, off, none⟩ u md).run P w = .ok () w') ∧ HR r h' nx w0 w' := by
  have hu := isCell_sound hc hv
  obtain ⟨w', hrun, hr', _⟩ := hstore_sound P hr hb (.cons hv .nil) (by simpa using hu) hs
  refine ⟨w', fun md => ?_, hr'⟩
  simp only [storeCells, Sem.run_bind, add_at, Nat.add_zero] at hrun
  have h1 : (store ⟨k, off, none⟩ u .plain).run P w = .ok () w' := by
    cases hst : (store ⟨k, off, none⟩ u .plain).run P w with
    | ok a w1 => rw [hst] at hrun; simp at hrun; simp [hrun]
    | halt a w1 => rw [hst] at hrun; simp at hrun
  rw [run_store P w _ u _ hu] at h1 ⊢
  cases hcell : w.cell? ⟨k, off, none⟩ with
  | some x => rw [hcell] at h1; exact h1
  | none =>
    exfalso
    unfold hstore at hs
    split at hs
    · rename_i cs e ho
      obtain ⟨c, hk, hc⟩ := hr.obj b _ k m ho hb
      have hcl := hc.length
      split at hs
      · rename_i q hq
        obtain ⟨_, hle⟩ := putL_eq _ _ _ _ hq
        simp only [List.length_cons, List.length_nil] at hle
        simp [World.cell?, hk] at hcell
        omega
      · cases hs
    · rename_i cs e es ho
      obtain ⟨c, c', hk, hc, hl⟩ := hr.obj b _ k m ho hb
      have hcl := hc.length
      split at hs
      · rename_i q hq
        obtain ⟨_, hle⟩ := putL_eq _ _ _ _ hq
        simp only [List.length_cons, List.length_nil] at hle
        simp [World.cell?, hk] at hcell
        omega
      · cases hs
    · cases hs

theorem load1_sound {r : Rho} {h : Heap} {nx : Nat} {w0 w : World} (hr : HR r h nx w0 w) {b k m off : Nat} (hb : r b = some (k, m)) {v : AV} (hl : hload h b off 1 = some [v]) :
    ∃ u, VR r v u ∧ w.cell? ⟨k, off, none⟩ = some u ∧ w.frozen? ⟨k, off, none⟩ = false ∧ ∃ c e, w.heap[k]? = some (.cells c e (0, 0)) := by
  obtain ⟨vs, hvs, hlen, hcell, c, e, hk, _⟩ := hload_sound hr hb hl
  cases hvs with
  | cons hv ht =>
  rename_i u us
  cases ht
  have := hcell 0 u rfl
  rw [add_at, Nat.add_zero] at this
  exact ⟨u, hv, this, by simp [World.frozen?, hk], c, e, hk⟩

/-- what is known of the program's functions without a body -/
def extRow : Ext → (Array Value → Sem Value) → Prop
  | .cmp, f => f = Extern.BytealgCompare.compare
  | .load t, f => f = Extern.Atomic.loadT t
  | .store, f => f = Extern.Atomic.storeT
  | .cas t, f => f = Extern.Atomic.casT t
  | .add k, f => f = Extern.Atomic.update (Op.intArith .add) k true
  | .mark1, f => ∃ m, f = Extern.Race.marked m
  | .mark0, f => ∃ m, f = fun _ => do mark m; pure Extern.Race.none_

structure PK (P : Program) (xt : FuncId → Option Ext) : Prop where
  nonum : ∀ (f : FuncId) (fn : Func), P.funcs[f]? = some fn → (fn.name == "runtime.NumGoroutine") = false
  ext : ∀ (f : FuncId) (e : Ext), xt f = some e → ∃ (fn : Func) (row : Array Value → Sem Value), P.funcs[f]? = some fn ∧ fn.body = none ∧ Extern.findNext fn = none ∧ Extern.find fn = some row ∧ extRow e row
  mixed : P.follows .mixedOrders = true

theorem eVal_sound {P : Program} {r : Rho} {h : Heap} {nx : Nat} {w0 w : World} {s : Sem Unit} {x : Option Heap} {er : ER} (he : eVal x = some er) (k : ∀ h', x = some h' → ∃ w', s.run P w = .ok () w' ∧ HR r h' nx w0 w') :
    EOK P r h nx w0 w (do s; pure .skip) er := by
  unfold eVal at he
  split at he
  · rename_i h'
    injection he with he; subst he
    obtain ⟨w', hrun, hr'⟩ := k h' rfl
    exact ⟨.skip, undef, w', by simp [hrun], .inr ⟨rfl, rfl⟩, .g _, hr'⟩
  · cases he

theorem run_storeT {P : Program} {a : Addr} {u : Value} {w w' : World} (h : (store a u .atomic).run P w = .ok () w') : (Extern.Atomic.storeT [.pointer (some a), u].toArray).run P w = .ok Extern.Atomic.none_ w' := by
  show (do store a u .atomic; pure Extern.Atomic.none_ : Sem Value).run P w = _
  simp only [Sem.run_bind, h, Result.andThen_ok, Sem.run_pure]

theorem ext_sound {P : Program} {r : Rho} {h : Heap} {nx : Nat} {w0 w : World} (hr : HR r h nx w0 w) {e : Ext} {row : Array Value → Sem Value} (hrow : extRow e row) {args : List AV} {as : List Value} (ha : VRs r args as) {er : ER}
    (he : acallX h e args = some er) : EOK P r h nx w0 w (do pure (.value (← row as.toArray))) er := by
  unfold acallX at he
  split at he
  · -- cmp
    obtain rfl := hrow
    split at he
    · injection he with he; subst he
      cases ha with | cons h1 ha =>
      cases ha with | cons h2 ha =>
      cases ha; cases h1; cases h2
      exact ⟨_, _, w, rfl, .inl rfl, .g _, hr⟩
    · cases he
  · -- load
    obtain rfl := hrow
    split at he
    · cases ha with | cons h1 ha =>
      cases ha
      cases h1 with | ptr hb =>
      unfold xLoad at he
      split at he
      · rename_i v hl
        obtain ⟨u, hu, hrun, _, _⟩ := load1_sound hr hb hl
        split at he
        · split at he
          · rename_i k' n hp
            obtain rfl := asInt_sound hp hu
            split at he
            · rename_i hkk
              injection he with he; subst he
              exact ⟨_, _, w, run_val (show (Extern.Atomic.read _ _).run P w = _ by simp [Extern.Atomic.read, hrun, hkk]), .inl rfl, hu, hr⟩
            · cases he
          · cases he
        · split at he
          · rename_i hU
            injection he with he; subst he
            have : ∃ a, u = .pointer a := by
              unfold isU at hU
              split at hU
              · cases hu; exact ⟨_, rfl⟩
              · cases hu; exact ⟨_, rfl⟩
              · cases hU
            obtain ⟨a, rfl⟩ := this
            exact ⟨_, _, w, run_val (show (Extern.Atomic.read _ _).run P w = _ by simp [Extern.Atomic.read, hrun]), .inl rfl, hu, hr⟩
          · cases he
      · cases he
    · cases he
  · -- store
    obtain rfl := hrow
    split at he
    · cases ha with | cons h1 ha =>
      cases ha with | cons h2 ha =>
      cases ha
      cases h1 with | ptr hb =>
      unfold xStore at he
      split at he
      · rename_i hcell
        unfold eVal at he
        split at he
        · rename_i h' hst
          injection he with he; subst he
          obtain ⟨w', hrun, hr'⟩ := store1_sound P hr hb h2 hcell hst
          exact ⟨_, _, w', run_val (run_storeT (hrun .atomic)), .inl rfl, .g _, hr'⟩
        · cases he
      · cases he
    · cases he
  · -- compare and swap
    obtain rfl := hrow
    split at he
    · cases ha with | cons h1 ha =>
      cases ha with | cons h2 ha =>
      cases ha with | cons h3 ha =>
      cases ha
      cases h1 with | ptr hb =>
      unfold xCas at he
      split at he
      · rename_i k'
        split at he
        · rename_i v hl
          obtain ⟨u, hu, hrun, hfr, c, e, hk⟩ := load1_sound hr hb hl
          split at he
          · rename_i k z hz
            obtain rfl := asInt_sound hz hu
            split at he
            · rename_i k1 x hx
              obtain rfl := asInt_sound hx h2
              split at he
              · rename_i k2 y hy
                obtain rfl := asInt_sound hy h3
                split at he
                · rename_i hkk
                  obtain ⟨rfl, rfl, rfl⟩ := hkk
                  unfold casTo at he
                  split at he
                  · rename_i hzx
                    subst hzx
                    split at he
                    · rename_i h' hst
                      injection he with he; subst he
                      obtain ⟨w', hstore, hr'⟩ := store1_sound P hr hb (.g _) rfl hst
                      have hw := hstore .atomic
                      rw [run_store P w _ _ _ rfl, hrun] at hw
                      simp only [hfr] at hw
                      injection hw with _ hw
                      subst hw
                      exact ⟨_, _, _, run_val (Go.Conc.run_cas_hit_entry hrun hfr), .inl rfl, .g _, hr'⟩
                    · cases he
                  · rename_i hzx
                    injection he with he; subst he
                    exact ⟨_, _, w, run_val (Go.Conc.run_cas_miss_entry hrun hfr hzx), .inl rfl, .g _, hr⟩
                · cases he
              · cases he
            · cases he
          · cases he
        · cases he
      · cases he
    · cases he
  · -- add
    obtain rfl := hrow
    split at he
    · cases ha with | cons h1 ha =>
      cases ha with | cons h2 ha =>
      cases ha
      cases h1 with | ptr hb =>
      unfold xAdd at he
      split at he
      · rename_i v hl
        obtain ⟨u, hu, hrun, hfr, c, e, hk⟩ := load1_sound hr hb hl
        split at he
        · rename_i k2 x hx
          obtain rfl := asInt_sound hx hu
          split at he
          · rename_i k1 y hy
            obtain rfl := asInt_sound hy h2
            split at he
            · rename_i hkk
              obtain ⟨rfl, rfl⟩ := hkk
              split at he
              · rename_i h' hst
                injection he with he; subst he
                obtain ⟨w', hstore, hr'⟩ := store1_sound P hr hb (.g _) rfl hst
                have hw := hstore .atomic
                rw [run_store P w _ _ _ rfl, hrun, wrapF_eq] at hw
                simp only [hfr] at hw
                injection hw with _ hw
                subst hw
                refine ⟨_, _, _, run_val (Go.Conc.run_add_entry hrun hfr), .inl rfl, ?_, hr'⟩
                rw [wrapF_eq]; exact .g _
              · cases he
            · cases he
          · cases he
        · cases he
      · cases he
    · cases he
  · -- a mark at an address
    obtain ⟨m, rfl⟩ := hrow
    split at he
    · cases ha with | cons h1 ha =>
      cases ha
      rename_i v u
      split at he
      · rename_i hp
        injection he with he; subst he
        have : ∃ a, u = .pointer (some a) := by
          unfold isPtr at hp
          split at hp
          · cases h1; exact ⟨_, rfl⟩
          · cases h1; exact ⟨_, rfl⟩
          · cases hp
        obtain ⟨a, rfl⟩ := this
        have hat : (Extern.Race.at_ [Value.pointer (some a)].toArray : Sem Addr) = pure a := by simp [Extern.Race.at_]
        exact ⟨_, _, w, by simp only [Extern.Race.marked, hat]; simp; rfl, .inl rfl, .g _, hr⟩
      · cases he
    · cases he
  · -- a mark
    obtain ⟨m, rfl⟩ := hrow
    split at he
    · cases ha
      injection he with he; subst he
      exact ⟨_, _, w, by simp; rfl, .inl rfl, .g _, hr⟩
    · cases he

theorem callF_sound {P : Program} {xt : FuncId → Option Ext} (pk : PK P xt) {r : Rho} {h : Heap} {nx : Nat} {w0 w : World} (hr : HR r h nx w0 w) {f : FuncId} {args : List AV} {as : List Value} (ha : VRs r args as) {er : ER}
    (he : acallF P xt h f args = some er) : EOK P r h nx w0 w (callFunc f as.toArray) er := by
  unfold acallF at he
  split at he
  · split at he
    · rename_i fn hf
      split at he
      · rename_i c hb
        injection he with he; subst he
        have hn := pk.nonum f fn hf
        refine ⟨as, ?_, ha⟩
        have hn' : ¬ fn.name = "runtime.NumGoroutine" := by simpa using hn
        simp [callFunc, hf, hn', hb]
      · cases he
    · cases he
  · rename_i e hx
    obtain ⟨fn, row, hf, hb, h1, h2, h3⟩ := pk.ext f e hx
    have hn := pk.nonum f fn hf
    have hn' : ¬ fn.name = "runtime.NumGoroutine" := by simpa using hn
    have := ext_sound (P := P) (w := w) hr h3 ha he
    have hrun : ∀ w, (callFunc f as.toArray).run P w = (do pure (.value (← row as.toArray)) : Sem Next).run P w := by
      intro w
      simp [callFunc, hf, hn', hb, h1, h2]
    cases er <;> simp only [EOK, hrun] at this ⊢ <;> exact this

end Abs
end Go.Proofs.YtonnifoeokagjaaGreat
