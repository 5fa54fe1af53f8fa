/-
  Every quiet operation of the abstract machine is the machine's own. No condition.
-/
import Derived.Test.YtonnifoeokagjaaGreatRunQ4
namespace Go.Proofs.YtonnifoeokagjaaGreat
open Go Go.RowKit
namespace Abs

/-- what a quiet operation comes to -/
def QOK (P : Program) (r : Rho) (ev : Operand → Value) (o : Oper) (w : World) : QR → Prop
  | .val v => ∃ u, (execOp ev o).run P w = .ok (.value u) w ∧ VR r v u
  | .newP ob => ∃ x, (execOp ev o).run P w = .ok (.value (.pointer (some ⟨w.heap.size, 0, none⟩))) { w with heap := w.heap.push x } ∧ OR r ob 0 (some x)
  | .newS ob len cap => ∃ x, (execOp ev o).run P w = .ok (.value (.slice (some ⟨w.heap.size, 0, none⟩) len cap)) { w with heap := w.heap.push x } ∧ OR r ob 0 (some x)
  | .newM ob => ∃ x, (execOp ev o).run P w = .ok (.value (.map (some w.heap.size))) { w with heap := w.heap.push x } ∧ OR r ob 0 (some x)

theorem QOK.qv {P : Program} {r : Rho} {ev : Operand → Value} {o : Oper} {w : World} {a : Option AV} {q : QR} (h : qv a = some q)
    (k : ∀ v, a = some v → ∃ u, (execOp ev o).run P w = .ok (.value u) w ∧ VR r v u) : QOK P r ev o w q := by
  unfold Abs.qv at h
  split at h
  · rename_i v
    injection h with h; subst h
    exact k v rfl
  · cases h

theorem VRO.map {r : Rho} {ae : Operand → AV} {ev : Operand → Value} {x : Option Operand} (h : ∀ y, x = some y → VR r (ae y) (ev y)) : VRO r (x.map ae) (x.map ev) := by
  cases x with
  | none => trivial
  | some y => exact h y rfl

theorem range0 : Array.range 0 = #[] := by apply Array.ext <;> simp

theorem natG_sound {r : Rho} {a : AV} {x : Value} {n : Nat} (h : natG a = some n) (hv : VR r a x) : ∃ k, x = .int k n := by
  unfold natG at h
  split at h
  · rename_i m hm
    injection h with h; subst h
    exact intG_sound hm hv
  · cases h

theorem VRs.toArray_cells {r : Rho} {cs : List AV} {a : Array Value} (h : VRs r cs a.toList) (e : TypeId) : OR r (.cells cs e) 0 (some (.cells a e (0, 0))) := ⟨a.toList, by simp, h⟩

theorem aquiet_sound (P : Program) {r : Rho} {h : Heap} {nx : Nat} {w0 w : World} (hr : HR r h nx w0 w) {ae : Operand → AV} {ev : Operand → Value} {o : Oper} (hev : ∀ x ∈ o.op.operands.toList, VR r (ae x) (ev x))
    {q : QR} (hq : aquiet P h ae o = some q) : QOK P r ev o w q := by
  unfold aquiet at hq
  obtain ⟨dst, op, type, pos, after, guard⟩ := o
  dsimp only at hq hev
  cases op
  case move x =>
    injection hq with hq; subst hq
    exact ⟨_, by simp [execOp], hev x (by simp [Op.operands])⟩
  case pick c a b =>
    replace hq : qPick (ae c) (ae a) (ae b) = some q := hq
    have hc := hev c (by simp [Op.operands])
    unfold qPick at hq
    split at hq
    · rename_i t ht
      injection hq with hq; subst hq
      rw [ht] at hc
      have hc' : ev c = .bool t := by
        generalize ev c = u at hc
        cases hc; rfl
      refine ⟨if t then ev a else ev b, by simp [execOp, hc', asBool], ?_⟩
      cases t
      · exact hev b (by simp [Op.operands])
      · exact hev a (by simp [Op.operands])
    · cases hq
  case load t a =>
    refine QOK.qv (show qv (aload P h t (ae a)) = some q from hq) fun v hv => ?_
    obtain ⟨k, off, u, hx, hl, hvu⟩ := aload_sound P hr (hev a (by simp [Op.operands])) hv
    exact ⟨u, by simp [execOp, hx, Instr.loadAt, Instr.sureAddr, hl], hvu⟩
  case nilCheck x =>
    replace hq : qNil (ae x) = some q := hq
    have hx := hev x (by simp [Op.operands])
    unfold qNil at hq
    split at hq
    · rename_i e; rw [e] at hx
      injection hq with hq; subst hq
      refine ⟨_, ?_, hx⟩
      generalize hu : ev x = u at *
      cases hx
      simp [execOp, hu]
    · rename_i e; rw [e] at hx
      injection hq with hq; subst hq
      refine ⟨_, ?_, hx⟩
      generalize hu : ev x = u at *
      cases hx
      simp [execOp, hu]
    · rename_i e; rw [e] at hx
      injection hq with hq; subst hq
      refine ⟨_, ?_, hx⟩
      generalize hu : ev x = u at *
      cases hx
      simp [execOp, hu]
    · cases hq
  case fieldAddr s x f =>
    replace hq : qField P s f (ae x) = some q := hq
    have hx := hev x (by simp [Op.operands])
    unfold qField at hq
    split at hq
    · rename_i b off e; rw [e] at hx
      split at hq
      · rename_i n hn
        injection hq with hq; subst hq
        generalize hu : ev x = u at *
        cases hx with
        | ptr hb =>
        unfold fieldOf at hn
        split at hn
        · rename_i fs hfs
          split at hn
          · rename_i fl hfl
            split at hn
            · rename_i m hm
              injection hn with hn; subst hn
              refine ⟨_, ?_, .ptr hb⟩
              simp [execOp, hu, Instr.fieldAt, run_underlying hfs, hfl, Instr.sureAddr, fieldPlace, run_tsize hm, add_at]
            · cases hn
          · cases hn
        · cases hn
      · cases hq
    · cases hq
  case binOp op t x y yt =>
    refine QOK.qv (show qv (abin P h op t x y (ae x) (ae y)) = some q from hq) fun v hv => ?_
    obtain ⟨z, hz, hvz⟩ := abin_sound P hr (hev x (by simp [Op.operands])) (hev y (by simp [Op.operands])) hv
    exact ⟨z, by simp only [execOp]; simp only [Sem.run_bind] at hz ⊢; simp only [hz, Result.andThen_ok, Sem.run_pure], hvz⟩
  case extract x i =>
    replace hq : qExt i (ae x) = some q := hq
    have hx := hev x (by simp [Op.operands])
    unfold qExt at hq
    split at hq
    · rename_i vs e; rw [e] at hx
      refine QOK.qv hq fun v hv => ?_
      rw [nthL_eq] at hv
      generalize hu : ev x = u at *
      cases hx with
      | tup hvs =>
      obtain ⟨y, hy, hvy⟩ := hvs.get hv
      exact ⟨y, by simp [execOp, hu, Instr.extract, hy], hvy⟩
    · cases hq
  case indexAddr t x i =>
    replace hq : qIdx P t (ae x) (ae i) = some q := hq
    have hx := hev x (by simp [Op.operands])
    have hi := hev i (by simp [Op.operands])
    have key : ∀ {e : TypeId} {b off len k m : Nat}, r b = some (k, m) → qIdxAt P e b off len (ae i) = some q →
        ∃ (kk : IntKind) (n : Int) (size : Nat), ev i = .int kk n ∧ 0 ≤ n ∧ n < len ∧ tsize P e = some size ∧ q = .val (.ptr b (off + n.toNat * size)) := by
      intro e b off len k m hb hq
      unfold qIdxAt at hq
      split at hq
      · rename_i n hn
        obtain ⟨kk, hk⟩ := intG_sound hn hi
        split at hq
        · rename_i mm hm
          obtain ⟨h0, h1, h2⟩ := aindex_sound hm
          split at hq
          · rename_i size hs
            injection hq with hq; subst hq
            exact ⟨kk, n, size, hk, h0, h1, hs, by rw [h2]⟩
          · cases hq
        · cases hq
      · cases hq
    unfold qIdx at hq
    split at hq
    · rename_i e hu
      split at hq
      · rename_i b off len cap e'; rw [e'] at hx
        generalize hux : ev x = u at *
        cases hx with
        | sl hb =>
        obtain ⟨kk, n, size, hk, h0, h1, hs, rfl⟩ := key hb hq
        refine ⟨_, ?_, .ptr hb⟩
        simp [execOp, hux, hk, Instr.indexAt, asIntOf, run_underlying hu, h0, h1, run_tsize hs, add_at]
      · rename_i b off j len e'; rw [e'] at hx
        generalize hux : ev x = u at *
        cases hx with
        | slx hb hn =>
        obtain ⟨kk, n, size, hk, h0, h1, hs, rfl⟩ := key hb hq
        refine ⟨_, ?_, .ptr hb⟩
        simp [execOp, hux, hk, Instr.indexAt, asIntOf, run_underlying hu, h0, h1, run_tsize hs, add_at]
      · cases hq
    · rename_i len e hu
      split at hq
      · rename_i b off e'; rw [e'] at hx
        generalize hux : ev x = u at *
        cases hx with
        | ptr hb =>
        obtain ⟨kk, n, size, hk, h0, h1, hs, rfl⟩ := key hb hq
        refine ⟨_, ?_, .ptr hb⟩
        simp [execOp, hux, hk, Instr.indexAt, Instr.sureAddr, asIntOf, run_underlying hu, h0, h1, run_tsize hs, add_at]
      · cases hq
    · cases hq
  case unOp op t x =>
    replace hq : qUn P op (ae x) = some q := hq
    have hx := hev x (by simp [Op.operands])
    unfold qUn at hq
    split at hq
    · rename_i u hu
      obtain rfl := toG_sound _ _ _ hu hx
      split at hq
      · rename_i z hz
        injection hq with hq; subst hq
        exact ⟨z, by simp [execOp, pureRun_sound P _ _ hz w], .g z⟩
      · cases hq
    · cases hq
  case convert s d x =>
    refine QOK.qv (show qv (aconv P h s d (ae x)) = some q from hq) fun v hv => ?_
    obtain ⟨z, hz, hvz⟩ := aconv_sound P hr (hev x (by simp [Op.operands])) hv
    exact ⟨z, by simp [execOp, hz], hvz⟩
  case index t x i =>
    replace hq : qIndex P t (ae x) (ae i) = some q := hq
    have hx := hev x (by simp [Op.operands])
    have hi := hev i (by simp [Op.operands])
    unfold qIndex at hq
    split at hq
    · rename_i u hu
      obtain rfl := toG_sound _ _ _ hu hx
      split at hq
      · rename_i u' hu'
        obtain rfl := toG_sound _ _ _ hu' hi
        split at hq
        · rename_i z hz
          injection hq with hq; subst hq
          exact ⟨z, by simp [execOp, pureRun_sound P _ _ hz w], .g z⟩
        · cases hq
      · cases hq
    · cases hq
  case slice t x lo hi mx =>
    replace hq : qSlice P t (ae x) (lo.map ae) (hi.map ae) mx = some q := hq
    unfold qSlice at hq
    split at hq
    · refine QOK.qv hq fun v hv => ?_
      obtain ⟨z, hz, hvz⟩ := aslice_sound P (hev x (by simp [Op.operands])) (VRO.map (x := lo) fun y hy => hev y (by simp [Op.operands, hy])) (VRO.map (x := hi) fun y hy => hev y (by simp [Op.operands, hy])) hv w
      exact ⟨z, by simp [execOp, hz], hvz⟩
    · cases hq
  case makeInterface t x =>
    replace hq : qIface P t (ae x) = some q := hq
    unfold qIface at hq
    split at hq
    · cases hq
    · cases hq
    · rename_i d hd hu
      injection hq with hq; subst hq
      refine ⟨_, ?_, .ifc (hev x (by simp [Op.operands]))⟩
      simp only [execOp, Instr.makeInterface, Sem.run_bind, run_underlying hu, Result.andThen_ok]
      cases d <;> first | rfl | exact (hd _ rfl).elim
  case makeFunc fn first cap =>
    replace hq : qFn fn first cap ae = some q := hq
    unfold qFn at hq
    split at hq
    · rename_i f
      split at hq
      · rename_i hf
        injection hq with hq; subst hq
        have hf' : first = #[] := by simpa using hf
        subst hf'
        refine ⟨_, ?_, .fn (VRs.map ae ev cap.toList fun x hx => hev x (by simpa [Op.operands] using hx))⟩
        simp only [execOp, Instr.makeFunc, Sem.run_bind, Sem.run_pure, Result.andThen_ok]
        have : cap.map ev = (cap.toList.map ev).toArray := by apply Array.ext'; simp
        rw [this, Array.map_empty]
      · cases hq
    · cases hq
  case lookup t x i ok =>
    refine QOK.qv (show qv (alookup P h t (ae x) (ae i) ok) = some q from hq) fun v hv => ?_
    obtain ⟨z, hz, hvz⟩ := alookup_sound P hr (hev x (by simp [Op.operands])) (hev i (by simp [Op.operands])) hv
    exact ⟨z, by simp [execOp, hz], hvz⟩
  case alloc elem =>
    replace hq : qAlloc P elem = some q := hq
    unfold qAlloc at hq
    split at hq
    · rename_i z hz
      injection hq with hq; subst hq
      obtain ⟨v, hv, rfl⟩ := tzero_V hz
      refine ⟨_, ?_, VRs.toArray_cells (VRs.of_g _) elem⟩
      simp [execOp, Instr.alloc, run_tzeroV hv, newVar, newRow]
    · cases hq
  case box elem x =>
    replace hq : qBox elem (ae x) = some q := hq
    unfold qBox at hq
    split at hq
    · rename_i cs hcs
      injection hq with hq; subst hq
      have := cells_sound hcs (hev x (by simp [Op.operands]))
      refine ⟨_, ?_, VRs.toArray_cells this elem⟩
      simp [execOp, Instr.box, newVar, newRow]
    · cases hq
  case build t parts =>
    replace hq : qBuild P ae t parts.toList = some q := hq
    have hps : ∀ x ∈ parts.toList, VR r (ae x.2) (ev x.2) := fun x hx => hev x.2 (by simp only [Op.operands]; simp; exact ⟨x.1, by simpa using hx⟩)
    unfold qBuild at hq
    split at hq
    · rename_i z hz
      obtain ⟨v, hv, rfl⟩ := tzero_V hz
      unfold tzeroV at hv
      split at hv
      · rename_i it hit
        have key : ∀ {place : Nat → Option (Nat × Nat)} {q}, qAgg (aparts place ae parts.toList (v.cells.toList.map .g)) = some q →
            ∃ (us : Array Value) (cs : List AV), Instr.fill place v.cells (parts.toList.map fun p => (p.1, ev p.2)) = some us ∧ q = .val (.agg cs) ∧ VRs r cs us.toList := by
          intro place q hq
          unfold qAgg at hq
          split at hq
          · rename_i cs hcs
            injection hq with hq; subst hq
            obtain ⟨us, h1, h2⟩ := aparts_sound parts.toList _ cs v.cells hcs (VRs.of_g _) hps
            exact ⟨us, cs, h1, rfl, h2⟩
          · cases hq
        have fin : ∀ (us : Array Value) (cs : List AV), VRs r cs us.toList → P.built t (parts.toList.map fun p => (p.1, ev p.2)) = some us → QOK P r ev ⟨dst, .build t parts, type, pos, after, guard⟩ w (.val (.agg cs)) := by
          intro us cs hvs hbu
          refine ⟨_, ?_, .agg hvs⟩
          have := run_build (P := P) w t (parts.map fun (i, x) => (i, ev x)) us (by simpa using hbu)
          simp [execOp, this]
        split at hq
        · rename_i fs hu
          split at hq
          · rename_i pl hpl
            obtain ⟨us, cs, h1, rfl, h2⟩ := key hq
            refine fin us cs h2 ?_
            simp only [fieldsOf, hu] at hpl
            simp only [Program.built, hit, hu, hv, hpl]
            rw [← h1]
            congr 1
            funext i
            simp [nthL_eq]
          · cases hq
        · rename_i n e hu
          split at hq
          · rename_i size hs
            obtain ⟨us, cs, h1, rfl, h2⟩ := key hq
            refine fin us cs h2 ?_
            unfold tsize at hs
            split at hs
            · rename_i ie hie
              injection hs with hs; subst hs
              simp only [Program.built, hit, hu, hv, hie]
              exact h1
            · cases hs
          · cases hq
        · cases hq
      · cases hv
    · cases hq
  case buildSlice t len parts =>
    replace hq : qBuildS P ae t len parts.toList = some q := hq
    have hps : ∀ x ∈ parts.toList, VR r (ae x.2) (ev x.2) := fun x hx => hev x.2 (by simp only [Op.operands]; simp; exact ⟨x.1, by simpa using hx⟩)
    unfold qBuildS at hq
    split at hq
    · rename_i e hu
      split at hq
      · rename_i size hs
        split at hq
        · rename_i z hz
          split at hq
          · rename_i hc
            obtain ⟨v, hv, rfl⟩ := tzero_V hz
            simp only [Bool.and_eq_true, decide_eq_true_eq, beq_iff_eq, Array.length_toList] at hc
            unfold qSliceOf at hq
            split at hq
            · rename_i cs hcs
              injection hq with hq; subst hq
              obtain ⟨us, h1, h2⟩ := aparts_sound parts.toList _ cs (repL len v.cells.toList).toArray hcs (by simpa using (VRs.of_g v.cells.toList).rep len) hps
              refine ⟨_, ?_, VRs.toArray_cells h2 e⟩
              have hzz : (Array.range (len * size)).map (fun i => v.cells[i % v.cells.size]!) = (repL len v.cells.toList).toArray := zeros_eq v.cells len _ (by rw [hc.2])
              have hlim : ¬ len * size > 2 ^ 24 := by omega
              by_cases h0 : len * size = 0
              · have hrep : (repL len v.cells.toList).toArray = #[] := by rw [← hzz, h0, range0, Array.map_empty]
                rw [hrep] at h1
                simp [execOp, Instr.buildSlice, run_underlying hu, run_tsize hs, h0, range0, h1, newRow]
              · simp only [gt_iff_lt, Nat.not_lt] at hlim
                simp [execOp, Instr.buildSlice, run_underlying hu, run_tsize hs, hlim, h0, run_tzeroV hv, hzz, h1, newRow]
            · cases hq
          · cases hq
        · cases hq
      · cases hq
    · cases hq
  case makeMap t x =>
    replace hq : qMap P t (x.map ae) = some q := hq
    unfold qMap at hq
    cases x with
    | none =>
      injection hq with hq; subst hq
      exact ⟨_, by simp [execOp, Instr.makeMap], [], rfl, .nil⟩
    | some x =>
      have hx := hev x (by simp [Op.operands])
      simp only [Option.map_some] at hq
      split at hq
      · rename_i k e hu
        split at hq
        · rename_i p hp
          injection hq with hq; subst hq
          have hi := asInt_sound (k := p.1) (n := p.2) hp hx
          exact ⟨_, by simp [execOp, Instr.makeMap, run_underlying hu, hi, asInt, asIntOf], [], rfl, .nil⟩
        · cases hq
      · cases hq
  case makeSlice t l c =>
    replace hq : qMakeS P t (ae l) (ae c) = some q := hq
    unfold qMakeS at hq
    split at hq
    · rename_i e hu
      split at hq
      · rename_i ln hl
        split at hq
        · rename_i cn hcn
          obtain ⟨kl, hl'⟩ := natG_sound hl (hev l (by simp [Op.operands]))
          obtain ⟨kc, hc'⟩ := natG_sound hcn (hev c (by simp [Op.operands]))
          unfold qMkS at hq
          split at hq
          · rename_i size hs
            split at hq
            · rename_i bytes hby
              split at hq
              · rename_i z hz
                split at hq
                · rename_i hc
                  injection hq with hq; subst hq
                  obtain ⟨v, hv, rfl⟩ := tzero_V hz
                  simp only [Bool.and_eq_true, decide_eq_true_eq, beq_iff_eq, Array.length_toList] at hc
                  obtain ⟨⟨⟨h1, h2⟩, h3⟩, h4⟩ := hc
                  obtain ⟨i, hi, hib⟩ := run_tbytes hby w
                  have hzz : (Array.range (cn * size)).map (fun i => v.cells[i % v.cells.size]!) = (repL cn v.cells.toList).toArray := zeros_eq v.cells cn _ (by rw [h4])
                  refine ⟨_, ?_, repL cn v.cells.toList, rfl, (VRs.of_g v.cells.toList).rep cn⟩
                  have wl : IntKind.i64.wrap (ln : Int) = ln := by rw [IntKind.wrap_i64]; omega
                  have wc : IntKind.i64.wrap (cn : Int) = cn := by rw [IntKind.wrap_i64]; omega
                  have hprod : bytes * cn ≤ 65536 * 65536 := Nat.mul_le_mul h3 h2
                  have hprod' : ((bytes : Int) * (cn : Int)) ≤ 4294967296 := by
                    have : ((bytes * cn : Nat) : Int) ≤ ((65536 * 65536 : Nat) : Int) := Int.ofNat_le.2 hprod
                    simpa using this
                  have c1 : ¬ ((cn : Int) < 0) := by omega
                  have c2 : ¬ (281474976710656 < (bytes : Int) * (cn : Int)) := by omega
                  have c3 : ¬ ((ln : Int) < 0) := by omega
                  have c4 : ¬ (cn < ln) := by omega
                  by_cases h0 : cn * size = 0
                  · have hrep : (repL cn v.cells.toList).toArray = #[] := by rw [← hzz, h0, range0, Array.map_empty]
                    simp only [execOp, Instr.makeSlice, hl', hc', Sem.run_bind, run_underlying hu, Result.andThen_ok, asInt, asIntOf, Sem.run_pure, hi, hib, wl, wc]
                    simp [c1, c2, c3, c4, run_tsize hs, h0, newRow, hrep, range0]
                  · simp only [execOp, Instr.makeSlice, hl', hc', Sem.run_bind, run_underlying hu, Result.andThen_ok, asInt, asIntOf, Sem.run_pure, hi, hib, wl, wc]
                    simp [c1, c2, c3, c4, run_tsize hs, h0, newRow, run_tzeroV hv, hzz]
                · cases hq
              · cases hq
            · cases hq
          · cases hq
        · cases hq
      · cases hq
    · cases hq
  case call c =>
    replace hq : qCall P h ae c = some q := hq
    obtain ⟨callee, args, argTypes⟩ := c
    simp only [Op.operands, Call.operands] at hev
    unfold qCall at hq
    dsimp only at hq
    split at hq
    · rename_i b
      split at hq
      · rename_i x hargs
        have hargs' : args = #[x] := by rw [← Array.toArray_toList (xs := args), hargs]
        subst hargs'
        have hx := hev x (by simp)
        split at hq
        · rename_i t ht
          have ht' : argTypes = #[t] := by rw [← Array.toArray_toList (xs := argTypes), ht]
          subst ht'
          split at hq
          · refine QOK.qv hq fun v hv => ?_
            obtain ⟨z, hz, hvz⟩ := alen_sound P (ty := type) hr hx hv
            exact ⟨z, by simp [execOp, resolve, invoke, builtin, hz], hvz⟩
          · split at hq
            · rename_i e hu
              unfold qCap at hq
              split at hq
              · rename_i b off len cap e'; rw [e'] at hx
                injection hq with hq; subst hq
                generalize hux : ev x = u at *
                cases hx
                exact ⟨_, by simp [execOp, resolve, invoke, builtin, hux, Builtin.cap_, run_underlying hu], .g _⟩
              · rename_i ad len cap e'; rw [e'] at hx
                injection hq with hq; subst hq
                generalize hux : ev x = u at *
                cases hx
                exact ⟨_, by simp [execOp, resolve, invoke, builtin, hux, Builtin.cap_, run_underlying hu], .g _⟩
              · cases hq
            · cases hq
          · cases hq
        · cases hq
      · rename_i x y hargs
        have hargs' : args = #[x, y] := by rw [← Array.toArray_toList (xs := args), hargs]
        subst hargs'
        split at hq
        · unfold qMin at hq
          split at hq
          · rename_i u hu
            have hxu := toG_sound _ _ _ hu (hev x (by simp))
            split at hq
            · rename_i u' hu'
              have hyu := toG_sound _ _ _ hu' (hev y (by simp))
              split at hq
              · rename_i z hz
                injection hq with hq; subst hq
                have := pureRun_sound P _ _ hz w
                exact ⟨z, by simp [execOp, resolve, invoke, builtin, Builtin.min_, hxu, hyu, this], .g z⟩
              · cases hq
            · cases hq
          · cases hq
        · cases hq
      · cases hq
    · cases hq
  all_goals cases hq

end Abs
end Go.Proofs.YtonnifoeokagjaaGreat
