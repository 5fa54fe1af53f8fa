/-
  What append is handed, and its three ways. No condition.
-/
import Derived.Test.YtonnifoeokagjaaGreatRunQ5
import Derived.Laws.Append
import Derived.Laws.AppendOwn
namespace Go.Proofs.YtonnifoeokagjaaGreat
open Go Go.RowKit
namespace Abs

/-- what an append is handed behind its slice: cells, or so many zeros -/
def Src (P : Program) (t' : TypeId) (z : Value) (size n : Nat) (x : Value) (new : List Value) (w : World) : Prop :=
  (∃ e', P.underlying t' = some (.slice e') ∧ Builtin.lenOf x = pure n ∧ ∀ w', w'.heap = w.heap → (Builtin.firstCells size n x).run P w' = .ok new.toArray w') ∨
  (∃ kn k, P.underlying t' = some (.int kn) ∧ x = .int k n ∧ new = repL n z.cells.toList)

section
variable {P : Program} (w : World) {t t' ty e : TypeId} {i : TypeInfo} {z : Value} (ht : P.underlying t = some (.slice e)) (hi : P.info? e = some i) (hz : i.zero = some z)
  (hb : i.bytes < 65536) (hs : 0 < i.size) {n : Nat} (hn : n < 65536) {x : Value} {new : List Value} (hsrc : Src P t' z i.size n x new w)

include ht hi hz hb hs hn hsrc

omit hz hb hs in
theorem ap_same (h0 : n = 0) {base : Option Addr} {sLen sCap : Nat} (hc : sLen ≤ sCap) :
    (Builtin.append_ #[t, t'] ty #[.slice base sLen sCap, x]).run P w = .ok (.slice base sLen sCap) w := by
  subst h0
  rcases hsrc with ⟨e', ht', hl, hf⟩ | ⟨kn, k, ht', rfl, rfl⟩
  · have hnew : new = [] := by
      have := hf w rfl
      have h2 : (Builtin.firstCells i.size 0 x).run P w = .ok #[] w := by
        cases x <;> simp [Builtin.lenOf] at hl
        all_goals first | (cases hl; done) | skip
        · rename_i s; simp [Builtin.firstCells] at this ⊢
        · rename_i a _ _; cases a <;> simp [Builtin.firstCells, loadCells, loadCellsFrom]
      rw [h2] at this
      injection this with this
      simpa using this.symm
    subst hnew
    have hf' := hf w rfl
    cases base with
    | none => simp [Builtin.append_, run_underlying ht, run_underlying ht', sizeOf, typeInfo, hi, hl, hf', hc]
    | some a => simp [Builtin.append_, run_underlying ht, run_underlying ht', sizeOf, typeInfo, hi, hl, hf', hc, storeCells]
  · have hw : IntKind.i64.wrap (0 : Int) = 0 := by rw [IntKind.wrap_i64]; omega
    cases base with
    | none => simp [Builtin.append_, run_underlying ht, run_underlying ht', sizeOf, typeInfo, hi, hc, asInt, asIntOf, hw]
    | some a => simp [Builtin.append_, run_underlying ht, run_underlying ht', sizeOf, typeInfo, hi, hc, asInt, asIntOf, hw, storeCells]

theorem ap_room {a : Addr} {sLen sCap : Nat} (h0 : n ≠ 0) (hc : sLen + n ≤ sCap) {w' : World} (hst : (storeCells (a.add (sLen * i.size)) new).run P w = .ok () w') :
    (Builtin.append_ #[t, t'] ty #[.slice (some a) sLen sCap, x]).run P w = .ok (.slice (some a) (sLen + n) sCap) w' := by
  rcases hsrc with ⟨e', ht', hl, hf⟩ | ⟨kn, k, ht', rfl, rfl⟩
  · have hf' := hf w rfl
    simp [Builtin.append_, run_underlying ht, run_underlying ht', sizeOf, typeInfo, hi, hl, hf', hc, hst]
  · have hw : IntKind.i64.wrap (n : Int) = n := by rw [IntKind.wrap_i64]; omega
    have hneg : ¬ ((n : Int) < 0) := by omega
    have hprod : ((n : Int) * (i.bytes : Int)) ≤ 4294967296 := by
      have h1 : n * i.bytes ≤ 65536 * 65536 := Nat.mul_le_mul (by omega) (by omega)
      have : ((n * i.bytes : Nat) : Int) ≤ ((65536 * 65536 : Nat) : Int) := Int.ofNat_le.2 h1
      simpa using this
    have h48 : ¬ (281474976710656 < (n : Int) * (i.bytes : Int)) := by omega
    have hns : ¬ (n * i.size = 0) := Nat.mul_ne_zero h0 (by omega)
    have hzc : Builtin.zeroCells z.cells n = (repL n z.cells.toList).toArray := zeros_eq z.cells n _ rfl
    simp [Builtin.append_, run_underlying ht, run_underlying ht', sizeOf, typeInfo, zeroValue, hi, hz, hc, asInt, asIntOf, hw, hneg, h48, hns, hzc, hst]

theorem ap_grow {base : Option Addr} {sLen sCap : Nat} (h0 : n ≠ 0) (hc : sCap < sLen + n) (hlen : sLen + n < 131072) {old : Array Value} (hfo : (Builtin.firstCells i.size sLen (.slice base sLen sCap)).run P w.drew = .ok old w.drew) :
    (Builtin.append_ #[t, t'] ty #[.slice base sLen sCap, x]).run P w = .ok (.slice (some ⟨w.heap.size, 0, none⟩) (sLen + n) (grownCap w (sLen + n) sCap e))
      (w.drew.alloc (.cells (old ++ new.toArray ++ Builtin.zeroCells z.cells (grownCap w (sLen + n) sCap e - (sLen + n))) e)) := by
  have hnc : ¬ (sLen + n ≤ sCap) := by omega
  have h63' : ¬ (9223372036854775807 < ((sLen : Int) + (n : Int))) := by omega
  have hmul : (sLen + n) * i.bytes ≤ 131072 * 65536 := Nat.mul_le_mul (by omega) (by omega)
  have h48' : ¬ (281474976710656 < Builtin.nextslicecap (sLen + n) sCap * i.bytes) := by
    have := growslice_fits (need := sLen + n) (old := sCap) (bytes := i.bytes) hc (by omega)
    omega
  rcases hsrc with ⟨e', ht', hl, hf⟩ | ⟨kn, k, ht', rfl, rfl⟩
  · have hf' := hf w.drew rfl
    simp [Builtin.append_, run_underlying ht, run_underlying ht', sizeOf, typeInfo, zeroValue, hi, hz, hl, hnc, h63', h48', Question.forced, hf', hfo, newRow, grownCap]
  · have hw : IntKind.i64.wrap (n : Int) = n := by rw [IntKind.wrap_i64]; omega
    have hneg : ¬ ((n : Int) < 0) := by omega
    have hprod : ((n : Int) * (i.bytes : Int)) ≤ 4294967296 := by
      have h1 : n * i.bytes ≤ 65536 * 65536 := Nat.mul_le_mul (by omega) (by omega)
      have : ((n * i.bytes : Nat) : Int) ≤ ((65536 * 65536 : Nat) : Int) := Int.ofNat_le.2 h1
      simpa using this
    have h48 : ¬ (281474976710656 < (n : Int) * (i.bytes : Int)) := by omega
    have hns : ¬ (n * i.size = 0) := Nat.mul_ne_zero h0 (by omega)
    have hzc : Builtin.zeroCells z.cells n = (repL n z.cells.toList).toArray := zeros_eq z.cells n _ rfl
    simp [Builtin.append_, run_underlying ht, run_underlying ht', sizeOf, typeInfo, zeroValue, hi, hz, asInt, asIntOf, hw, hneg, h48, hns, hzc, hnc, h63', h48', Question.forced, hfo, newRow, grownCap]
end


theorem hload_cells {P : Program} {r : Rho} {h : Heap} {nx : Nat} {w0 w : World} (hr : HR r h nx w0 w) {b k m off n : Nat} (hb : r b = some (k, m)) {l : List AV} (hl : hload h b off n = some l) :
    ∃ vs, VRs r l vs ∧ vs.length = n ∧ ∀ (w' : World), w'.heap = w.heap → (loadCells ⟨k, off, none⟩ n).run P w' = .ok vs.toArray w' := by
  obtain ⟨vs, hvs, hlen, hcell, _⟩ := hload_sound hr hb hl
  refine ⟨vs, hvs, hlen, fun w' hw => ?_⟩
  have := run_loadCells_list (P := P) w' ⟨k, off, none⟩ vs (fun j v hj => by
    have := hcell j v hj
    simp only [World.cell?, hw] at this ⊢
    exact this)
  rw [hlen] at this
  exact this

theorem anew_sound (P : Program) {r : Rho} {h : Heap} {nx : Nat} {w0 w : World} (hr : HR r h nx w0 w) {size n : Nat} {z : Value} {t' : TypeId} {a : AV} {x : Value} (hx : VR r a x) {l : List AV}
    (he : anew P h size (z.cells.toList.map .g) t' a = some (n, l)) : ∃ new, VRs r l new ∧ Src P t' z size n x new w ∧ (z.cells.size = size → new.length = n * size) := by
  unfold anew at he
  split at he
  · rename_i kn ht'
    split at he
    · rename_i m hm
      injection he with he; injection he with h1 h2; subst h1; subst h2
      obtain ⟨k, rfl⟩ := natG_sound hm hx
      exact ⟨_, (VRs.of_g _).rep _, .inr ⟨kn, k, ht', rfl, rfl⟩, fun hz => by rw [repL_length]; simp [hz]⟩
    · cases he
  · rename_i e' ht'
    unfold acellsOf at he
    split at he
    · cases hx
      split at he
      · rename_i hn
        injection he with he; injection he with h1 h2; subst h1; subst h2; subst hn
        exact ⟨[], .nil, .inl ⟨e', ht', rfl, fun w' _ => rfl⟩, fun _ => by simp⟩
      · cases he
    · cases hx with
      | sl hb =>
      split at he
      · rename_i q hq
        injection he with he; injection he with h1 h2; subst h1; subst h2
        obtain ⟨vs, hvs, hlen, hrun⟩ := hload_cells (P := P) hr hb hq
        exact ⟨vs, hvs, .inl ⟨e', ht', rfl, fun w' hw => hrun w' hw⟩, fun _ => hlen⟩
      · cases he
    · cases hx with
      | slx hb hn =>
      split at he
      · rename_i q hq
        injection he with he; injection he with h1 h2; subst h1; subst h2
        obtain ⟨vs, hvs, hlen, hrun⟩ := hload_cells (P := P) hr hb hq
        exact ⟨vs, hvs, .inl ⟨e', ht', rfl, fun w' hw => hrun w' hw⟩, fun _ => hlen⟩
      · cases he
    · cases hx with
      | sle =>
      injection he with he; injection he with h1 h2; subst h1; subst h2
      exact ⟨[], .nil, .inl ⟨e', ht', rfl, fun w' _ => by simp [Builtin.firstCells, loadCells, loadCellsFrom]⟩, fun _ => by simp⟩
    · cases he
  · cases he

/-- what an operation with an effect comes to -/
def EOK (P : Program) (r : Rho) (h : Heap) (nx : Nat) (w0 w : World) (s : Sem Next) : ER → Prop
  | .val v h' => ∃ n u w', s.run P w = .ok n w' ∧ (n = .value u ∨ (n = .skip ∧ u = undef)) ∧ VR r v u ∧ HR r h' nx w0 w'
  | .newx o len h' => ∃ k N w', s.run P w = .ok (.value (.slice (some ⟨k, 0, none⟩) len N)) w' ∧ len ≤ N ∧ r nx = none ∧ HR (r.upd nx (k, N)) (hset h' nx o) (nx + 1) w0 w'
  | .enter f args => ∃ as : List Value, s.run P w = .ok (.enter f as.toArray) w ∧ VRs r args as
  | .defer d => ∃ d', s.run P w = .ok (.defer d') w ∧ DR r d d'
  | .round l args => ∃ k n as lo al, r l = some (k, n) ∧ hget h l = some (.loop al) ∧ w.heap[k]? = some (.loop lo) ∧ LR r al lo ∧ VRs r args as ∧ al.params.length = args.length ∧
      s.run P w = .ok (.round k lo.fn ((lo.params.zip as.toArray).foldl (fun tmps (t, a) => tmps.setIfInBounds t a) lo.tmps) lo.assign lo.body) w

theorem zeroCells_size (z : Array Value) (n : Nat) : (Builtin.zeroCells z n).size = n * z.size := by simp [Builtin.zeroCells]

theorem VRs.oneCells {r : Rho} {l : List AV} {us : List Value} (hv : VRs r l us) (h : l.all AV.isCell = true) : ∀ u ∈ us, u.oneCell' = true := by
  intro u hu
  obtain ⟨x, hx, hxu⟩ := hv.mem u hu
  exact isCell_sound (List.all_eq_true.1 h x hx) hxu

theorem drew_heap (w : World) : w.drew.heap = w.heap := rfl

end Abs
end Go.Proofs.YtonnifoeokagjaaGreat
