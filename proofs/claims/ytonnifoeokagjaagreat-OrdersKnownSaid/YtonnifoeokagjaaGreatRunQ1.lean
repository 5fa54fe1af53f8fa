/-
  Loads and comparisons of the abstract machine are those of the machine. No condition.
-/
import Derived.Test.YtonnifoeokagjaaGreatRunH
namespace Go.Proofs.YtonnifoeokagjaaGreat
open Go Go.RowKit
namespace Abs

section
variable {P : Program}
theorem run_tinfo {t : TypeId} {i : TypeInfo} (h : P.info? t = some i) (w : World) : (typeInfo t).run P w = .ok i w := by simp [typeInfo, h]
theorem run_tsize {t : TypeId} {n : Nat} (h : tsize P t = some n) (w : World) : (sizeOf t).run P w = .ok n w := by
  unfold tsize at h
  split at h
  · rename_i i hi
    injection h with h
    simp [sizeOf, run_tinfo hi, h]
  · cases h
theorem run_tagg {t : TypeId} {b : Bool} (h : tagg P t = some b) (w : World) : (isAgg t).run P w = .ok b w := by
  unfold tagg at h
  split at h
  · rename_i fs hf; injection h with h; subst h; simp [isAgg, run_underlying hf]
  · rename_i n e hf; injection h with h; subst h; simp [isAgg, run_underlying hf]
  · rename_i d h1 h2 hd
    injection h with h; subst h
    simp only [isAgg, Sem.run_bind, run_underlying hd, Result.andThen_ok]
    cases d <;> first | rfl | exact (h1 _ rfl).elim | exact (h2 _ _ rfl).elim
  · cases h
theorem run_tzeroV {t : TypeId} {v : Value} (h : tzeroV P t = some v) (w : World) : (zeroValue t).run P w = .ok v w := by
  unfold tzeroV at h
  split at h
  · rename_i i hi
    simp [zeroValue, run_tinfo hi, h]
  · cases h
theorem tzero_V {t : TypeId} {l : List Value} (h : tzero P t = some l) : ∃ v, tzeroV P t = some v ∧ v.cells.toList = l := by
  unfold tzero at h
  unfold tzeroV
  split at h
  · rename_i i hi
    split at h
    · rename_i v hv
      injection h with h
      exact ⟨v, hv, h⟩
    · cases h
  · cases h
theorem run_tbytes {t : TypeId} {n : Nat} (h : tbytes P t = some n) (w : World) : ∃ i, (typeInfo t).run P w = .ok i w ∧ i.bytes = n := by
  unfold tbytes at h
  split at h
  · rename_i i hi
    injection h with h
    exact ⟨i, run_tinfo hi w, h⟩
  · cases h
end

theorem hload1 {r : Rho} {h : Heap} {nx : Nat} {w0 w : World} (hr : HR r h nx w0 w) {b k m off : Nat} (hb : r b = some (k, m)) {o : AO} (ho : hget h b = some o) {cs : List AV} (hc : o.cells? = some cs)
    {v : AV} (hv : nthL off cs = some v) : ∃ u, w.cell? ⟨k, off, none⟩ = some u ∧ VR r v u := by
  obtain ⟨c, c', e, hk, hcs⟩ := hr.cells hb ho hc
  rw [nthL_eq] at hv
  obtain ⟨u, hu, hvu⟩ := hcs.get hv
  have hlt := (List.getElem?_eq_some_iff.1 hu).1
  exact ⟨u, by simp [World.cell?, hk, List.getElem?_append_left hlt, hu], hvu⟩

theorem aload_sound (P : Program) {r : Rho} {h : Heap} {nx : Nat} {w0 w : World} (hr : HR r h nx w0 w) {t : TypeId} {a v : AV} {x : Value} (hx : VR r a x) (hl : aload P h t a = some v) :
    ∃ k off u, x = .pointer (some ⟨k, off, none⟩) ∧ (loadVar t ⟨k, off, none⟩).run P w = .ok u w ∧ VR r v u := by
  unfold aload at hl
  split at hl
  · rename_i b off
    cases hx with
    | ptr hb =>
      rename_i k m
      split at hl
      · rename_i n ha hs
        split at hl
        · rename_i l hll
          injection hl with hl; subst hl
          obtain ⟨vs, hvs, hlen, hcell, _⟩ := hload_sound hr hb hll
          refine ⟨k, off, .agg vs.toArray, rfl, ?_, .agg hvs⟩
          have := run_loadCells_list (P := P) w ⟨k, off, none⟩ vs hcell
          rw [hlen] at this
          simp [loadVar, run_tagg ha, run_tsize hs, this]
        · cases hl
      · rename_i n ha hs
        split at hl
        · rename_i o ho
          split at hl
          · rename_i cs hc
            obtain ⟨u, hu, hvu⟩ := hload1 hr hb ho hc hl
            exact ⟨k, off, u, rfl, by simp [loadVar, run_tagg ha, hu], hvu⟩
          · cases hl
        · cases hl
      · cases hl
  · cases hl

theorem isSl_sound {r : Rho} {a : AV} {x : Value} (h : isSl a = true) (hv : VR r a x) : ∃ ad l c, x = .slice (some ad) l c := by
  cases hv <;> simp [isSl] at h
  · exact ⟨_, _, _, rfl⟩
  · exact ⟨_, _, _, rfl⟩
theorem nilSl_sound {r : Rho} {a : AV} {x : Value} (h : nilSl a = true) (hv : VR r a x) : ∃ l c, x = .slice none l c := by
  cases hv <;> try (simp [nilSl] at h; done)
  cases x <;> try (simp [nilSl] at h; done)
  rename_i ad _ _; cases ad
  · exact ⟨_, _, rfl⟩
  · simp [nilSl] at h
theorem isMp_sound {r : Rho} {a : AV} {x : Value} (h : isMp a = true) (hv : VR r a x) : ∃ k, x = .map (some k) := by
  cases hv <;> simp [isMp] at h
  exact ⟨_, rfl⟩
theorem nilMp_sound {r : Rho} {a : AV} {x : Value} (h : nilMp a = true) (hv : VR r a x) : x = .map none := by
  cases hv <;> try (simp [nilMp] at h; done)
  cases x <;> try (simp [nilMp] at h; done)
  rename_i k; cases k
  · rfl
  · simp [nilMp] at h
theorem isFn_sound {r : Rho} {a : AV} {x : Value} (h : isFn a = true) (hv : VR r a x) : ∃ f b c, x = .func f b c := by
  cases hv <;> simp [isFn] at h
  · exact ⟨_, _, _, rfl⟩
  · exact ⟨_, _, _, rfl⟩
theorem nilFn_sound {r : Rho} {a : AV} {x : Value} (h : nilFn a = true) (hv : VR r a x) : x = .nilFunc := by
  cases hv <;> try (simp [nilFn] at h; done)
  cases x <;> first | rfl | simp [nilFn] at h
theorem isIf_sound {r : Rho} {a : AV} {x : Value} (h : isIf a = true) (hv : VR r a x) : ∃ t v, x = .iface t v := by
  cases hv <;> simp [isIf] at h
  exact ⟨_, _, rfl⟩
theorem nilIf_sound {r : Rho} {a : AV} {x : Value} (h : nilIf a = true) (hv : VR r a x) : x = .nilIface := by
  cases hv <;> try (simp [nilIf] at h; done)
  cases x <;> first | rfl | simp [nilIf] at h

/-- not a value whose comparison goes another way -/
def Odd (x y : Value) : Prop := ¬ (x = .nilIface ∧ y = .nilIface) ∧ (∀ cs, x ≠ .agg cs) ∧ (∀ k n, x ≠ .int k n) ∧ (∀ s, x ≠ .string s) ∧ (∀ k n, x ≠ .float k n) ∧ (∀ k n m, x ≠ .complex k n m)

theorem unlike_cases {p q b : Bool} (h : unlike p q = some b) : b = false ∧ (p = true ∨ q = true) := by
  unfold unlike at h
  split at h
  · rename_i hp
    injection h with h
    exact ⟨h.symm, by simpa using hp⟩
  · cases h

theorem aeql_sound (P : Program) {r : Rho} {h : Heap} {nx : Nat} {w0 w : World} (hr : HR r h nx w0 w) {t : TypeId} {a b : AV} {x y : Value} (hx : VR r a x) (hy : VR r b y) {q : Bool} (he : aeql P h t a b = some q) (d : Nat) :
    (Op.equalIn (d + 1) t x y).run P w = .ok q w ∧ Odd x y := by
  unfold aeql at he
  split at he
  · rename_i e hu
    unfold eqPtr at he
    split at he
    · rename_i b1 off
      cases hx with
      | ptr h1 =>
      rename_i k m
      split at he
      · rename_i b' off'
        cases hy with
        | ptr h2 =>
        rename_i k' m'
        refine ⟨?_, by simp [Odd]⟩
        split at he
        · rename_i s hs
          have hsz := run_tsize hs w
          by_cases hbb : b1 = b'
          · subst hbb
            rw [h1] at h2; injection h2 with h2; injection h2 with h2 h3; subst h2
            simp only [BEq.rfl, if_true, Option.some.injEq] at he
            subst he
            rw [Op.equalIn]
            simp only [Sem.run_bind, run_underlying hu, Result.andThen_ok, hsz]
            have e1 : ((⟨k, off, none⟩ : Addr) == ⟨k, off', none⟩) = (off == off') := by rw [Bool.eq_iff_iff]; simp
            simp [sameAddr, e1]
          · have hbeq : (b1 == b') = false := by simpa using hbb
            simp only [hbeq, Bool.false_eq_true, if_false] at he
            split at he
            · rename_i o ho
              split at he
              · rename_i o' ho'
                split at he
                · rename_i hcc
                  injection he with he; subst he
                  simp only [Bool.and_eq_true, Option.isSome_iff_exists] at hcc
                  obtain ⟨⟨cs, hc⟩, ⟨cs', hc'⟩⟩ := hcc
                  obtain ⟨c, d1, e1, hk, _⟩ := hr.cells h1 ho hc
                  obtain ⟨c', d2, e2, hk', _⟩ := hr.cells h2 ho' hc'
                  have hne : k ≠ k' := by
                    intro hkk
                    subst hkk
                    refine hbb (hr.inj b1 b' o o' k m m' ho ho' ?_ ?_ h1 h2)
                    · cases o <;> simp [AO.cells?] at hc <;> trivial
                    · cases o' <;> simp [AO.cells?] at hc' <;> trivial
                  have hkne : (k == k') = false := by simpa using hne
                  rw [Op.equalIn]
                  simp only [Sem.run_bind, run_underlying hu, Result.andThen_ok, hsz]
                  simp [sameAddr, hne, noView, viewAt, mayBeOne, stringish, World.frozen?, World.shape?, hk, hk']
                · cases he
              · cases he
            · cases he
        · cases he
      · cases hy
        injection he with he; subst he
        refine ⟨?_, by simp [Odd]⟩
        rw [Op.equalIn]; simp only [Sem.run_bind, run_underlying hu, Result.andThen_ok]; rfl
      · cases he
    · cases hx
      split at he
      · cases hy
        injection he with he; subst he
        refine ⟨?_, by simp [Odd]⟩
        rw [Op.equalIn]; simp only [Sem.run_bind, run_underlying hu, Result.andThen_ok]; rfl
      · cases he
    · cases he
  · rename_i e hu
    obtain ⟨rfl, hpq⟩ := unlike_cases he
    simp only [Bool.and_eq_true] at hpq
    rcases hpq with ⟨h1, h2⟩ | ⟨h1, h2⟩
    · obtain ⟨ad, l, c, rfl⟩ := isSl_sound h1 hx
      obtain ⟨l', c', rfl⟩ := nilSl_sound h2 hy
      exact ⟨by rw [Op.equalIn]; simp only [Sem.run_bind, run_underlying hu, Result.andThen_ok]; rfl, by simp [Odd]⟩
    · obtain ⟨l, c, rfl⟩ := nilSl_sound h1 hx
      obtain ⟨ad, l', c', rfl⟩ := isSl_sound h2 hy
      exact ⟨by rw [Op.equalIn]; simp only [Sem.run_bind, run_underlying hu, Result.andThen_ok]; rfl, by simp [Odd]⟩
  · rename_i e e' hu
    obtain ⟨rfl, hpq⟩ := unlike_cases he
    simp only [Bool.and_eq_true] at hpq
    rcases hpq with ⟨h1, h2⟩ | ⟨h1, h2⟩
    · obtain ⟨k, rfl⟩ := isMp_sound h1 hx
      obtain rfl := nilMp_sound h2 hy
      exact ⟨by rw [Op.equalIn]; simp only [Sem.run_bind, run_underlying hu, Result.andThen_ok]; rfl, by simp [Odd]⟩
    · obtain rfl := nilMp_sound h1 hx
      obtain ⟨k, rfl⟩ := isMp_sound h2 hy
      exact ⟨by rw [Op.equalIn]; simp only [Sem.run_bind, run_underlying hu, Result.andThen_ok]; rfl, by simp [Odd]⟩
  · rename_i e e' e'' hu
    obtain ⟨rfl, hpq⟩ := unlike_cases he
    simp only [Bool.and_eq_true] at hpq
    rcases hpq with ⟨h1, h2⟩ | ⟨h1, h2⟩
    · obtain ⟨f, b, c, rfl⟩ := isFn_sound h1 hx
      obtain rfl := nilFn_sound h2 hy
      exact ⟨by rw [Op.equalIn]; simp only [Sem.run_bind, run_underlying hu, Result.andThen_ok]; rfl, by simp [Odd]⟩
    · obtain rfl := nilFn_sound h1 hx
      obtain ⟨f, b, c, rfl⟩ := isFn_sound h2 hy
      exact ⟨by rw [Op.equalIn]; simp only [Sem.run_bind, run_underlying hu, Result.andThen_ok]; rfl, by simp [Odd]⟩
  · rename_i e hu
    obtain ⟨rfl, hpq⟩ := unlike_cases he
    simp only [Bool.and_eq_true] at hpq
    rcases hpq with ⟨h1, h2⟩ | ⟨h1, h2⟩
    · obtain ⟨t', v, rfl⟩ := isIf_sound h1 hx
      obtain rfl := nilIf_sound h2 hy
      exact ⟨by rw [Op.equalIn]; simp only [Sem.run_bind, run_underlying hu, Result.andThen_ok]; rfl, by simp [Odd]⟩
    · obtain rfl := nilIf_sound h1 hx
      obtain ⟨t', v, rfl⟩ := isIf_sound h2 hy
      exact ⟨by rw [Op.equalIn]; simp only [Sem.run_bind, run_underlying hu, Result.andThen_ok]; rfl, by simp [Odd]⟩
  · cases he

end Abs
end Go.Proofs.YtonnifoeokagjaaGreat
