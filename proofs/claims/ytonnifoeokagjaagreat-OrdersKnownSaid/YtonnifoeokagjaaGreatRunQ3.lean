/-
  Conversions and slice expressions of the abstract machine are those of the machine. No condition.
-/
import Derived.Test.YtonnifoeokagjaaGreatRunQ2
import Derived.Laws.BytesString
import Derived.Laws.Tables
namespace Go.Proofs.YtonnifoeokagjaaGreat
open Go Go.RowKit
namespace Abs

theorem abytes_sound {r : Rho} : ∀ (cs : List AV) (vs : List Value) (l : List UInt8), abytes cs = some l → VRs r cs vs → ∃ ns : List Int, vs = ns.map (Value.int .u8) ∧ l = ns.map fun n => UInt8.ofNat n.toNat
  | [], vs, l, h, hv => by
    cases hv
    simp only [abytes, Option.some.injEq] at h
    subst h
    exact ⟨[], rfl, rfl⟩
  | a :: cs, vs, l, h, hv => by
    cases hv with
    | cons hv ht =>
    unfold abytes at h
    split at h
    · rename_i h1; cases h1
    · rename_i n as' h1
      injection h1 with h1 h2; subst h1; subst h2
      split at h
      · rename_i q hq
        injection h with h; subst h
        obtain ⟨ns, rfl, rfl⟩ := abytes_sound _ _ q hq ht
        cases hv
        exact ⟨n :: ns, rfl, rfl⟩
      · cases h
    · cases h

theorem foldl_push (ns : List Int) : ∀ (s : ByteArray), ns.foldl (fun r n => r.push (UInt8.ofNat n.toNat)) s = ⟨s.data ++ (ns.map fun n => UInt8.ofNat n.toNat).toArray⟩ := by
  induction ns with
  | nil => intro s; cases s; simp
  | cons n ns ih =>
    intro s
    simp only [List.foldl_cons, ih]
    congr 1
    show s.data.push _ ++ _ = _
    simp

theorem convB_sound (P : Program) {r : Rho} {h : Heap} {nx : Nat} {w0 w : World} (hr : HR r h nx w0 w) {s d : TypeId} {b off len k m cap : Nat} (hb : r b = some (k, m)) {v : AV} (he : convB P h s d b off len = some v) :
    ∃ z, (convert s d (.slice (some ⟨k, off, none⟩) len cap)).run P w = .ok z w ∧ VR r v z := by
  unfold convB at he
  split at he
  · rename_i e hs
    split at he
    · rename_i hd
      split at he
      · rename_i hu
        split at he
        · rename_i cs hc
          split at he
          · rename_i l hl
            injection he with he; subst he
            obtain ⟨vs, hvs, hlen, hcell, _⟩ := hload_sound hr hb hc
            obtain ⟨ns, rfl, rfl⟩ := abytes_sound cs vs l hl hvs
            have hload := run_loadCells_list (P := P) w ⟨k, off, none⟩ _ hcell
            rw [hlen] at hload
            refine ⟨_, ?_, .g _⟩
            rw [run_convert_bytes_string w s d e _ len cap hs hu hd, run_bytesToString w _ len cap ns hload, foldl_push]
            simp [ByteArray.empty, ByteArray.emptyWithCapacity]
            rfl
          · cases he
        · cases he
      · cases he
    · cases he
  · cases he

theorem convP_sound (P : Program) {r : Rho} {h : Heap} {nx : Nat} {w0 w : World} (hr : HR r h nx w0 w) {s d : TypeId} {b off k m : Nat} (hb : r b = some (k, m)) {v : AV} (he : convP P h s d b off = some v) :
    ∃ z, (convert s d (.pointer (some ⟨k, off, none⟩))).run P w = .ok z w ∧ VR r v z := by
  unfold convP at he
  split at he
  · rename_i t hs
    split at he
    · rename_i hd
      split at he
      · rename_i n hn
        split at he
        · rename_i cs e ho
          split at he
          · rename_i hlt
            injection he with he; subst he
            obtain ⟨c, hk, hcs⟩ := hr.obj b _ k m ho hb
            have hlen := hcs.length
            refine ⟨_, ?_, .ptr hb⟩
            have hnot : ¬ c.length ≤ off := by omega
            simp [convert, run_underlying hs, run_underlying hd, Conv.unsafePointer, Conv.seenAt, viewAt, cellsIn, World.shape?, hk, run_tsize hn, hnot]
          · cases he
        · cases he
      · cases he
    · cases he
  · rename_i hs
    split at he
    · rename_i u hd
      split at he
      · rename_i n hn
        split at he
        · rename_i cs e ho
          split at he
          · rename_i hl
            injection he with he; subst he
            obtain ⟨c, hk, hcs⟩ := hr.obj b _ k m ho hb
            have hlen := hcs.length
            refine ⟨_, ?_, .ptr hb⟩
            rw [hlen] at hl
            simp [convert, run_underlying hs, run_underlying hd, Conv.unsafePointer, Conv.seenAt, viewAt, World.shape?, hk, run_tsize hn, variablesAt, hl]
          · cases he
        · cases he
      · cases he
    · cases he
  · cases he

theorem aconv_sound (P : Program) {r : Rho} {h : Heap} {nx : Nat} {w0 w : World} (hr : HR r h nx w0 w) {s d : TypeId} {a v : AV} {x : Value} (hx : VR r a x) (he : aconv P h s d a = some v) :
    ∃ z, (convert s d x).run P w = .ok z w ∧ VR r v z := by
  unfold aconv at he
  split at he
  · cases hx
    split at he
    · rename_i z hz
      injection he with he; subst he
      exact ⟨z, pureRun_sound P _ _ hz w, .g z⟩
    · cases he
  · cases hx with | sl hb => exact convB_sound P hr hb he
  · cases hx with | slx hb hn => exact convB_sound P hr hb he
  · cases hx with | ptr hb => exact convP_sound P hr hb he
  · cases he

theorem abound_sound {i : Int} {hi n : Nat} (h : abound i hi = some n) : 0 ≤ i ∧ i ≤ hi ∧ i.toNat = n := by
  unfold abound at h
  split at h
  · split at h
    · injection h with h; subst h
      rename_i m hm
      exact ⟨Int.natCast_nonneg m, Int.ofNat_le.2 hm, rfl⟩
    · cases h
  · cases h
theorem aindex_sound {len n : Nat} {i : Int} (h : aindex len i = some n) : 0 ≤ i ∧ i < len ∧ i.toNat = n := by
  unfold aindex at h
  split at h
  · split at h
    · injection h with h; subst h
      rename_i m hm
      exact ⟨Int.natCast_nonneg m, Int.ofNat_lt.2 hm, rfl⟩
    · cases h
  · cases h

theorem run_sliceBound {P : Program} {k : IntKind} {i : Int} {y : Nat} {c : BoundsCode} {w : World} (h0 : 0 ≤ i) (h1 : i ≤ y) : (Instr.sliceBound (.int k i) y c).run P w = .ok i.toNat w := by
  simp [Instr.sliceBound, asIntOf, h0, h1]

/-- the two bounds of a slice expression -/
def VRO (r : Rho) (a : Option AV) (x : Option Value) : Prop := match a, x with
  | none, none => True
  | some a, some x => VR r a x
  | _, _ => False

theorem boundOr_sound {P : Program} {r : Rho} {d hi n : Nat} {a : Option AV} {x : Option Value} (hx : VRO r a x) (h : boundOr d hi a = some n) :
    (x = none ∧ n = d) ∨ (n ≤ hi ∧ ∃ v, x = some v ∧ ∀ (y : Nat) c (w : World), hi ≤ y → (Instr.sliceBound v y c).run P w = .ok n w) := by
  unfold boundOr at h
  split at h
  · injection h with h
    cases x with
    | none => exact .inl ⟨rfl, h.symm⟩
    | some _ => exact hx.elim
  · split at h
    · rename_i v i hi'
      cases x with
      | none => exact hx.elim
      | some u =>
        obtain ⟨k, rfl⟩ := intG_sound hi' hx
        obtain ⟨h0, h1, h2⟩ := abound_sound h
        refine .inr ⟨by omega, _, rfl, fun y c w hy => ?_⟩
        rw [run_sliceBound h0 (by omega), h2]
    · cases h

theorem run_sliceBounds {P : Program} {len cap l h : Nat} {lo hi : Option Value} {w : World}
    (hh : (hi = none ∧ h = len) ∨ (∃ v, hi = some v ∧ ∀ c (w : World), (Instr.sliceBound v cap c).run P w = .ok h w))
    (hl : (lo = none ∧ l = 0) ∨ (∃ v, lo = some v ∧ ∀ c (w : World), (Instr.sliceBound v h c).run P w = .ok l w)) :
    (Instr.sliceBounds true len cap lo hi none).run P w = .ok (l, h, cap) w := by
  unfold Instr.sliceBounds
  rcases hh with ⟨rfl, rfl⟩ | ⟨v, rfl, hh⟩ <;> rcases hl with ⟨rfl, rfl⟩ | ⟨u, rfl, hl⟩ <;> simp_all

theorem run_sliceAt_slice {P : Program} {t e : TypeId} (hu : P.underlying t = some (.slice e)) {size : Nat} (hs : tsize P e = some size) {len cap l h : Nat} {lo hi : Option Value} {w : World}
    (hb : (Instr.sliceBounds true len cap lo hi none).run P w = .ok (l, h, cap) w) (ad : Option Addr) :
    (Instr.sliceAt t (.slice ad len cap) lo hi none).run P w = .ok (.slice (if cap = l then ad else ad.map (·.add (l * size))) (h - l) (cap - l)) w := by
  simp [Instr.sliceAt, Instr.slice, run_underlying hu, hb, run_tsize hs]

theorem aslice_sound (P : Program) {r : Rho} {t : TypeId} {a v : AV} {x : Value} {lo hi : Option AV} {lo' hi' : Option Value} (hx : VR r a x) (hlo : VRO r lo lo') (hhi : VRO r hi hi')
    (he : aslice P t a lo hi = some v) (w : World) : ∃ z, (Instr.sliceAt t x lo' hi' none).run P w = .ok z w ∧ VR r v z := by
  unfold aslice at he
  split at he
  · rename_i b off len cap
    cases hx with
    | sl hb =>
    rename_i k n
    split at he
    · rename_i e hu
      split at he
      · rename_i size hs
        unfold slSl at he
        split at he
        · rename_i h hh
          split at he
          · rename_i l hl
            injection he with he; subst he
            have h1 := boundOr_sound (P := P) hhi hh
            have h2 := boundOr_sound (P := P) hlo hl
            have hbd := run_sliceBounds (P := P) (len := len) (cap := cap) (l := l) (h := h) (lo := lo') (hi := hi') (w := w)
              (h1.imp id fun ⟨_, v, e, f⟩ => ⟨v, e, fun c w => f cap c w (Nat.le_refl _)⟩)
              (h2.imp id fun ⟨_, v, e, f⟩ => ⟨v, e, fun c w => f h c w (Nat.le_refl _)⟩)
            refine ⟨_, run_sliceAt_slice hu hs hbd _, ?_⟩
            by_cases hc : cap = l
            · simp only [hc, if_true]; exact .sl hb
            · simp only [hc, if_false, Option.map_some, add_at]; exact .sl hb
          · cases he
        · cases he
      · cases he
    · cases he
  · rename_i b off j len
    cases hx with
    | slx hb hn =>
    rename_i k n
    split at he
    · rename_i e hu
      split at he
      · rename_i size hs
        unfold slSlx at he
        split at he
        · rename_i h hh
          split at he
          · rename_i l hl
            have h1 := boundOr_sound (P := P) hhi hh
            have h2 := boundOr_sound (P := P) hlo hl
            have hle : h ≤ len := by rcases h1 with ⟨_, rfl⟩ | ⟨h1, _⟩ <;> omega
            have hlh : l ≤ h := by rcases h2 with ⟨_, rfl⟩ | ⟨h2, _⟩ <;> omega
            have hbd := run_sliceBounds (P := P) (len := len) (cap := n - j) (l := l) (h := h) (lo := lo') (hi := hi') (w := w)
              (h1.imp id fun ⟨_, v, e, f⟩ => ⟨v, e, fun c w => f _ c w (by omega)⟩)
              (h2.imp id fun ⟨_, v, e, f⟩ => ⟨v, e, fun c w => f h c w (Nat.le_refl _)⟩)
            refine ⟨_, run_sliceAt_slice hu hs hbd _, ?_⟩
            split at he
            · rename_i hlt
              injection he with he; subst he
              have hc : ¬ n - j = l := by omega
              simp only [hc, if_false, Option.map_some, add_at]
              rw [Nat.sub_sub]
              exact .slx hb (by omega)
            · split at he
              · rename_i h0
                subst h0
                injection he with he; subst he
                have : (if n - j = 0 then some (⟨k, off, none⟩ : Addr) else (some ⟨k, off, none⟩ : Option Addr).map (·.add (0 * size))) = some ⟨k, off, none⟩ := by
                  simp [Addr.add]
                rw [this]
                exact .slx hb (by omega)
              · injection he with he; subst he
                have : h - l = 0 := by omega
                rw [this]
                by_cases hc : n - j = l
                · simp only [hc, if_true]; exact .sle
                · simp only [hc, if_false, Option.map_some]; exact .sle
          · cases he
        · cases he
      · cases he
    · cases he
  · cases hx with
    | sle =>
    rename_i ad c
    split at he
    · rename_i e hu
      split at he
      · rename_i size hs
        unfold slSle at he
        split at he
        · rename_i h hh
          split at he
          · rename_i l hl
            injection he with he; subst he
            have h1 := boundOr_sound (P := P) hhi hh
            have h2 := boundOr_sound (P := P) hlo hl
            have hle : h = 0 := by rcases h1 with ⟨_, rfl⟩ | ⟨h1, _⟩ <;> omega
            have hlh : l = 0 := by rcases h2 with ⟨_, rfl⟩ | ⟨h2, _⟩ <;> omega
            subst hle; subst hlh
            have hbd := run_sliceBounds (P := P) (len := 0) (cap := c) (l := 0) (h := 0) (lo := lo') (hi := hi') (w := w)
              (h1.imp id fun ⟨_, v, e, f⟩ => ⟨v, e, fun c w => f _ c w (by omega)⟩)
              (h2.imp id fun ⟨_, v, e, f⟩ => ⟨v, e, fun c w => f _ c w (Nat.le_refl _)⟩)
            refine ⟨_, run_sliceAt_slice hu hs hbd _, ?_⟩
            by_cases hc : c = 0
            · simp only [hc, if_true]; exact .sle
            · simp only [hc, if_false, Option.map_some]; exact .sle
          · cases he
        · cases he
      · cases he
    · cases he
  · cases hx
    unfold slG at he
    have key : ∀ (a : Option AV) (x : Option Value) (g : Option Value), toGO a = some g → VRO r a x → x = g := by
      intro a x g hg hv
      unfold toGO at hg
      split at hg
      · injection hg with hg; subst hg
        cases x with
        | none => rfl
        | some _ => exact hv.elim
      · split at hg
        · rename_i u hu
          injection hg with hg; subst hg
          cases x with
          | none => exact hv.elim
          | some y => rw [toG_sound _ _ _ hu hv]
        · cases hg
    split at he
    · rename_i l hl
      split at he
      · rename_i h hh
        split at he
        · rename_i z hz
          injection he with he; subst he
          obtain rfl := key _ _ _ hl hlo
          obtain rfl := key _ _ _ hh hhi
          exact ⟨z, pureRun_sound P _ _ hz w, .g z⟩
        · cases he
      · cases he
    · cases he
  · cases he

end Abs
end Go.Proofs.YtonnifoeokagjaaGreat
