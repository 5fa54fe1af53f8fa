/-
  Composites, look-ups and lengths of the abstract machine are those of the machine. No condition.
-/
import Derived.Test.YtonnifoeokagjaaGreatRunQ3
namespace Go.Proofs.YtonnifoeokagjaaGreat
open Go Go.RowKit
namespace Abs

theorem foldl_fill (off : Nat) : ∀ (us : List Value) (j : Nat) (cells : Array Value), off + j + us.length ≤ cells.size →
    ((us.zipIdx j).foldl (fun cs (x : Value × Nat) => cs.setIfInBounds (off + x.2) x.1) cells).toList = cells.toList.take (off + j) ++ us ++ cells.toList.drop (off + j + us.length)
  | [], j, cells, _ => by simp
  | u :: us, j, cells, h => by
    simp only [List.length_cons] at h
    rw [List.zipIdx_cons, List.foldl_cons, foldl_fill off us (j + 1) _ (by simp; omega)]
    simp only [Array.toList_setIfInBounds]
    have := list_seg_step cells.toList (off + j) u us (by simp; omega)
    rw [Nat.add_assoc off j 1] at this
    rw [this]
    simp

theorem aparts_sound {r : Rho} {place : Nat → Option (Nat × Nat)} {ae : Operand → AV} {ev : Operand → Value} : ∀ (ps : List (Nat × Operand)) (cs out : List AV) (vs : Array Value),
    aparts place ae ps cs = some out → VRs r cs vs.toList → (∀ x ∈ ps, VR r (ae x.2) (ev x.2)) →
    ∃ us : Array Value, Instr.fill place vs (ps.map fun p => (p.1, ev p.2)) = some us ∧ VRs r out us.toList
  | [], cs, out, vs, h, hv, _ => by
    simp only [aparts, Option.some.injEq] at h
    subst h
    exact ⟨vs, rfl, hv⟩
  | x :: ps, cs, out, vs, h, hv, hx => by
    simp only [aparts] at h
    split at h
    · rename_i q hq
      unfold apart at hq
      split at hq
      · cases hq
      · rename_i p hp
        split at hq
        · cases hq
        · rename_i ws hws
          split at hq
          · rename_i hlen
            obtain ⟨rfl, hle⟩ := putL_eq _ _ _ _ hq
            have hc := cells_sound hws (hx x (by simp))
            have hcl := hc.length
            have hvl := hv.length
            simp only [Array.length_toList] at hcl hvl
            have hfold := foldl_fill p.1 (ev x.2).cells.toList 0 vs (by simp; omega)
            obtain ⟨us, h1, h2⟩ := aparts_sound ps _ out ((ev x.2).cells.zipIdx.foldl (fun cs (x : Value × Nat) => cs.setIfInBounds (p.1 + x.2) x.1) vs) h
              (by
                rw [← Array.foldl_toList, Array.toList_zipIdx, hfold]
                simp only [Nat.add_zero]
                refine ((hv.take _).append hc).append ?_
                rw [show (ev x.2).cells.toList.length = ws.length by simp [hcl]]
                exact hv.drop _)
              (fun y hy => hx y (by simp [hy]))
            refine ⟨us, ?_, h2⟩
            simp only [List.map_cons, Instr.fill, hp]
            rw [if_neg]
            · exact h1
            · have e1 : (ev x.2).cells.size = p.2 := by omega
              have e2 : ¬ p.1 + (ev x.2).cells.size > vs.size := by omega
              simp [e1]; omega
          · cases hq
    · cases h

theorem repL_get {α : Type} (l : List α) : ∀ (n i : Nat), i < n * l.length → (repL n l)[i]? = l[i % l.length]?
  | 0, i, h => by simp at h
  | n + 1, i, h => by
    simp only [repL]
    by_cases hi : i < l.length
    · rw [List.getElem?_append_left hi, Nat.mod_eq_of_lt hi]
    · rw [List.getElem?_append_right (by omega), repL_get l n (i - l.length) (by rw [Nat.succ_mul] at h; omega)]
      congr 1
      rw [← Nat.mod_eq_sub_mod (by omega)]

theorem zeros_eq (z : Array Value) (c m : Nat) (hm : m = c * z.size) : ((Array.range m).map fun i => z[i % z.size]!) = (repL c z.toList).toArray := by
  subst hm
  apply Array.ext'
  apply List.ext_getElem?
  intro i
  by_cases hi : i < c * z.size
  · have hz : 0 < z.size := by
      rcases Nat.eq_zero_or_pos z.size with h0 | h0
      · rw [h0] at hi; simp at hi
      · exact h0
    have hmod : i % z.size < z.size := Nat.mod_lt _ hz
    have := repL_get z.toList c i (by simpa using hi)
    simp only [Array.length_toList] at this
    rw [this]
    simp [hi, hmod]
  · have := repL_length z.toList c
    simp only [Array.length_toList] at this
    rw [List.getElem?_eq_none (by simp; omega), List.getElem?_eq_none (by simp only [this]; omega)]

theorem keyEq_sound {r : Rho} {kd : TypeDesc} {k a : AV} {x y : Value} {q : Bool} (h : keyEq kd k a = some q) (hx : VR r k x) (hy : VR r a y) : Instr.sameNow kd x y = some q := by
  unfold keyEq at h
  split at h
  · split at h
    · cases hx; cases hy; exact h
    · cases h
  · cases h

theorem afind_sound {r : Rho} {kd : TypeDesc} {k : AV} {x : Value} (hx : VR r k x) : ∀ (es : List (AV × AV × Nat)) (ms : List MapEntry) (i : Nat) (q : Option (Nat × AV)), afind kd k es i = some q → MRs r es ms →
    (q = none ∧ Instr.findNow kd x ms i = some none) ∨ (∃ j v u, q = some (j, v) ∧ Instr.findNow kd x ms i = some (some (j, u)) ∧ VR r v u ∧ i ≤ j ∧ ∃ e, ms[j - i]? = some e ∧ Instr.sameNow kd x e.key = some true)
  | [], ms, i, q, h, hm => by
    cases hm
    simp only [afind, Option.some.injEq] at h
    subst h
    exact .inl ⟨rfl, rfl⟩
  | e :: es, ms, i, q, h, hm => by
    cases hm with
    | cons hk hv ht =>
    simp only [afind] at h
    split at h
    · rename_i hke
      injection h with h; subst h
      have := keyEq_sound hke hx hk
      refine .inr ⟨i, _, _, rfl, by simp only [Instr.findNow, this], hv, Nat.le_refl _, _, by simp; rfl, this⟩
    · rename_i hke
      have := keyEq_sound hke hx hk
      rcases afind_sound hx es _ (i + 1) q h ht with ⟨h1, h2⟩ | ⟨j, v, u, h1, h2, h3, h4, e, h5, h6⟩
      · exact .inl ⟨h1, by simp only [Instr.findNow, this]; exact h2⟩
      · refine .inr ⟨j, v, u, h1, by simp only [Instr.findNow, this]; exact h2, h3, by omega, e, ?_, h6⟩
        have : j - i = (j - (i + 1)) + 1 := by omega
        rw [this]; simpa using h5
    · cases h

theorem run_checkKey {P : Program} {kt : TypeId} {kd : TypeDesc} (hk : P.underlying kt = some kd) (hkind : keyKind kd = true) (b : Bool) (v : Value) (w : World) : (Instr.checkKey b 10000 kt v).run P w = .ok () w := by
  rw [show (10000 : Nat) = 9999 + 1 from rfl, Instr.checkKey]
  simp only [Sem.run_bind, run_underlying hk, Result.andThen_ok]
  cases kd <;> simp [keyKind] at hkind <;> rfl

theorem run_findKey {P : Program} {kt : TypeId} {kd : TypeDesc} (hk : P.underlying kt = some kd) {v : Value} {ms : List MapEntry} {q : Option (Nat × Value)} (h : Instr.findNow kd v ms 0 = some q) (w : World) :
    (Instr.findKey kt v ms).run P w = .ok q w := by
  simp [Instr.findKey, run_underlying hk, h]

theorem found_sound {r : Rho} {z : Value} {ok : Bool} {q : Option (Nat × AV)} {v : AV} {p : Option (Nat × Value)} (h : found z ok (some q) = some v)
    (hq : (q = none ∧ p = none) ∨ (∃ j v u, q = some (j, v) ∧ p = some (j, u) ∧ VR r v u)) :
    VR r v (if ok then .tuple #[(match p with | some x => x.2 | none => z), .bool p.isSome] else (match p with | some x => x.2 | none => z)) := by
  rcases hq with ⟨rfl, rfl⟩ | ⟨j, a, u, rfl, rfl, hv⟩
  · simp only [found, Option.some.injEq] at h
    subst h
    cases ok
    · exact .g _
    · exact .tup (.cons (.g _) (.cons (.g _) .nil))
  · simp only [found, Option.some.injEq] at h
    subst h
    cases ok
    · exact hv
    · exact .tup (.cons hv (.cons (.g _) .nil))

theorem alookup_sound (P : Program) {r : Rho} {h : Heap} {nx : Nat} {w0 w : World} (hr : HR r h nx w0 w) {t : TypeId} {a k v : AV} {x y : Value} {ok : Bool} (hx : VR r a x) (hy : VR r k y) (he : alookup P h t a k ok = some v) :
    ∃ z, (Instr.lookup t x y ok).run P w = .ok z w ∧ VR r v z := by
  unfold alookup at he
  split at he
  · rename_i kt et hu
    split at he
    · rename_i kd hk
      split at he
      · rename_i z hz
        split at he
        · rename_i hkind
          split at he
          · rename_i es hes
            have hent : ∃ ms, MRs r es ms ∧ ((x = .map none ∧ ms = []) ∨ ∃ g clock, x = .map (some g) ∧ w.heap[g]? = some (.map ms.toArray clock)) := by
              unfold mapOf at hes
              split at hes
              · cases hx; injection hes with hes; subst hes; exact ⟨[], .nil, .inl ⟨rfl, rfl⟩⟩
              · rename_i b
                cases hx with
                | mp hb =>
                rename_i g m
                split at hes
                · rename_i es' clock ho
                  injection hes with hes; subst hes
                  obtain ⟨ms, hg, hm⟩ := hr.obj b _ g m ho hb
                  exact ⟨ms, hm, .inr ⟨g, clock, rfl, hg⟩⟩
                · cases hes
              · cases hes
            obtain ⟨ms, hms, hx'⟩ := hent
            cases hq : afind kd k es 0 with
            | none => rw [hq] at he; cases he
            | some q =>
              rw [hq] at he
              have hcase : ∃ p, Instr.findNow kd y ms 0 = some p ∧ ((q = none ∧ p = none) ∨ (∃ j v u, q = some (j, v) ∧ p = some (j, u) ∧ VR r v u)) := by
                rcases afind_sound hy es ms 0 q hq hms with ⟨h1, h2⟩ | ⟨j, v, u, h1, h2, h3, _⟩
                · exact ⟨none, h2, .inl ⟨h1, rfl⟩⟩
                · exact ⟨_, h2, .inr ⟨j, v, u, h1, rfl, h3⟩⟩
              obtain ⟨p, hp, hpq⟩ := hcase
              refine ⟨_, ?_, found_sound he hpq⟩
              rcases hx' with ⟨rfl, rfl⟩ | ⟨g, clock, rfl, hg⟩
              · cases p with
                | none => cases ok <;> simp [Instr.lookup, run_underlying hu, run_checkKey hk hkind, run_findKey hk hp, run_tzeroV hz]
                | some p => cases ok <;> simp [Instr.lookup, run_underlying hu, run_checkKey hk hkind, run_findKey hk hp]
              · cases p with
                | none => cases ok <;> simp [Instr.lookup, run_underlying hu, run_checkKey hk hkind, run_findKey hk hp, run_tzeroV hz, getObj, Sem.run, hg]
                | some p => cases ok <;> simp [Instr.lookup, run_underlying hu, run_checkKey hk hkind, run_findKey hk hp, getObj, Sem.run, hg]
          · cases he
        · cases he
      · cases he
    · cases he
  · cases he

theorem alen_sound (P : Program) {r : Rho} {h : Heap} {nx : Nat} {w0 w : World} (hr : HR r h nx w0 w) {t ty : TypeId} {a v : AV} {x : Value} (hx : VR r a x) (he : alen P t h a = some v) :
    ∃ z, (Builtin.len_ #[t] ty #[x]).run P w = .ok z w ∧ VR r v z := by
  unfold alen at he
  split at he
  · rename_i hu
    split at he
    · cases hx
      injection he with he; subst he
      exact ⟨_, by simp [Builtin.len_, run_underlying hu], .g _⟩
    · cases he
  · rename_i e hu
    split at he
    · cases hx; injection he with he; subst he
      exact ⟨_, by simp [Builtin.len_, run_underlying hu], .g _⟩
    · cases hx; injection he with he; subst he
      exact ⟨_, by simp [Builtin.len_, run_underlying hu], .g _⟩
    · cases hx; injection he with he; subst he
      exact ⟨_, by simp [Builtin.len_, run_underlying hu], .g _⟩
    · cases hx; injection he with he; subst he
      exact ⟨_, by simp [Builtin.len_, run_underlying hu], .g _⟩
    · cases he
  · rename_i e e' hu
    split at he
    · cases hx; injection he with he; subst he
      exact ⟨_, by simp [Builtin.len_, run_underlying hu], .g _⟩
    · rename_i b
      cases hx with
      | mp hb =>
      rename_i g m
      split at he
      · rename_i es clock ho
        injection he with he; subst he
        obtain ⟨ms, hg, hm⟩ := hr.obj b _ g m ho hb
        have hl := hm.length
        rw [hl]
        exact ⟨_, by simp [Builtin.len_, run_underlying hu, getObj, Sem.run, hg], .g _⟩
      · cases he
    · cases he
  · cases he

end Abs
end Go.Proofs.YtonnifoeokagjaaGreat
