/-
  Opening an argument of the sampler's laws: a slice of loads.
-/
import Derived.Test.YticnnjcpmiakgaaWalkD
import Derived.ProofKit
import Derived.OpenShut
import Derived.Deep.Slices
import Derived.Deep.Fields
import Derived.ChangeSame
namespace Go.Proofs.Yticnnjcpmiakgaa
open Go.ChangeShapes Go.WideShapes Go.ChangeAt Go.RowKit Go.Deep

theorem Try.own : ownKnob Try.prog.godebug = none := by kernel_rfl
theorem Try.laidOut : laidOutB Try.prog = true := by kernel_rfl
theorem Try.cells30 : Try.prog.cellsOf 30 = 4 := by kernel_rfl

section
variable {H : Type} {enc : TypeId × Value → H} {w : World} {spare : Nat → Bool} {held : Bool}

theorem add_plain (b off j : Nat) : (⟨b, off, none⟩ : Addr).add j = ⟨b, off + j, none⟩ := by unfold Addr.add; split <;> simp_all

end

section
variable {H : Type} {enc : TypeId × Value → H} {P : Program} {w : World} {base : Nat} {spare : Nat → Bool} {held : Bool}
/-- A slice of structs, any number of one-cell fields: where its elements lie (after the guide's page on structs). -/
theorem open_slice_fields {t e : TypeId} {fs : Array Field} {fuel : Nat} {cs : List Value} {x : DataW H × List MemPlace} (ht : P.underlying t = some (.slice e)) (he : P.underlying e = some (.struct fs))
    (hone : oneCellFields P fs = true) (hC : P.cellsOf e = fs.size) (h : DataW.trod enc P w base spare held fuel t cs = some x) :
    (cs = [.slice none 0 0] ∧ x = (.nil, [])) ∨
    ∃ (a : Addr) (len cap m : Nat) (D : Nat → DataW H) (Pl : Nat → List MemPlace), cs = [.slice (some a) len cap] ∧ base ≤ a.block ∧ len ≤ cap ∧ cap ≤ maxLen ∧ m = (if spare a.block then cap else len) ∧
      x = (.slice ((List.range len).map D) ((List.range (m - len)).map fun j => D (len + j)), MemPlace.row a (m * fs.size) ++ (List.range m).flatMap Pl) ∧
      ∀ i, i < m → ∃ (ys : List (DataW H × List MemPlace)) (n : Nat), D i = .agg (ys.map (·.1)) ∧ Pl i = ys.flatMap (·.2) ∧ ys.length = fs.size ∧
        ∀ (j : Nat) (f : Field), fs[j]? = some f → ∃ (v : Value) (y : DataW H × List MemPlace), w.cell? (a.add (i * fs.size + j)) = some v ∧ ys[j]? = some y ∧ DataW.trod enc P w base spare held n f.type [v] = some y := by
  rcases open_slice ht h with h0 | ⟨a, len, cap, m, n, D, Pl, hcs, hb, hl, hm, hmm, hx, hi⟩
  · exact .inl h0
  · refine .inr ⟨a, len, cap, m, D, Pl, hcs, hb, hl, hm, hmm, by rw [hC] at hx; exact hx, fun i him => ?_⟩
    obtain ⟨cs', hc, ht'⟩ := hi i him
    rw [hC] at hc
    obtain ⟨ys, n', hn', hy, hlen, hyl, hf⟩ := DataW.trod_struct he ht'
    obtain ⟨_, hcl, hat⟩ := World.cells?_some hc
    simp only [Prod.mk.injEq] at hy
    refine ⟨ys, n', hy.1, hy.2, hyl, fun j f hj => ?_⟩
    obtain ⟨ho, hk⟩ := hone_of hone j f hj
    have hjl : j < fs.size := (Array.getElem?_eq_some_iff.1 hj).1
    have hcell := hat j hjl
    have hv : cs'[j]? = some (cs'[j]'(by omega)) := List.getElem?_eq_getElem (by omega)
    have h1 := hf j f hj
    rw [ho, hk] at h1
    have hone' : (cs'.drop j).take 1 = [cs'[j]'(by omega)] := by
      rw [List.drop_eq_getElem_cons (by omega)]
      rfl
    rw [hone'] at h1
    have hys : ys[j]? = some (ys[j]'(by omega)) := List.getElem?_eq_getElem (by omega)
    refine ⟨_, _, ?_, hys, h1.trans hys⟩
    rw [← Go.Deep.add_add, hcell, hv]

end

section
variable {H : Type} {enc : TypeId × Value → H} {w : World} {spare : Nat → Bool} {held : Bool}

/-- A slice of loads that can be read: where its loads lie. -/
theorem open_loads {r : Reach} {b0 : Nat} {v : Value} {d : DataW H} {p : List MemPlace} (hv : Value.okWide Try.prog w r b0 31 v) (h : DataW.Trod enc Try.prog w 0 spare held 31 v d p) :
    ∃ A n cap L, v = .slice A n cap ∧ Sl w A n L ∧ Kinds n L := by
  obtain ⟨a0, n, cap, rfl⟩ := okWide_slice Try.underlying31 hv
  obtain ⟨fuel, hf⟩ := h
  rcases open_slice_fields Try.underlying31 Try.underlying30 (by kernel_rfl) Try.cells30 hf with ⟨hcs, _⟩ | ⟨a, len, cap', m, D, Pl, hcs, hb, hl, hm, hmm, hx, hi⟩
  · simp [Value.cells] at hcs
    obtain ⟨rfl, rfl, rfl⟩ := hcs
    exact ⟨none, 0, 0, fun _ => ⟨0, 0, 0, 0⟩, rfl, fun h => absurd h (by omega), fun i h => absurd h (by omega)⟩
  · simp [Value.cells] at hcs
    obtain ⟨rfl, rfl, rfl⟩ := hcs
    have hnm : n ≤ m := by rw [hmm]; split <;> omega
    have key : ∀ i, i < n → ∃ x : Ld, w.cell? (a.add (i * 4 + 0)) = some (.int .i64 x.keys) ∧ w.cell? (a.add (i * 4 + 1)) = some (.int .i64 x.reads) ∧ w.cell? (a.add (i * 4 + 2)) = some (.int .i64 x.writes) ∧ w.cell? (a.add (i * 4 + 3)) = some (.int .u8 x.kind) ∧ 0 ≤ x.kind ∧ x.kind ≤ 255 := by
      intro i hin
      obtain ⟨ys, nn, _, _, _, hf⟩ := hi i (by omega)
      obtain ⟨v0, y0, e0, _, t0⟩ := hf 0 _ rfl
      obtain ⟨v1, y1, e1, _, t1⟩ := hf 1 _ rfl
      obtain ⟨v2, y2, e2, _, t2⟩ := hf 2 _ rfl
      obtain ⟨v3, y3, e3, _, t3⟩ := hf 3 _ rfl
      obtain ⟨q0, s0, _, _⟩ := DataW.trod_int Try.underlying3 t0
      obtain ⟨q1, s1, _, _⟩ := DataW.trod_int Try.underlying3 t1
      obtain ⟨q2, s2, _, _⟩ := DataW.trod_int Try.underlying3 t2
      obtain ⟨q3, s3, _, w3⟩ := DataW.trod_int Try.underlying5 t3
      simp only [List.cons.injEq, and_true] at s0 s1 s2 s3
      subst s0 s1 s2 s3
      have b3 := bounds_u8 w3
      exact ⟨⟨q0, q1, q2, q3⟩, e0, e1, e2, e3, b3.1, b3.2⟩
    refine ⟨some a, n, cap, fun i => if h : i < n then (key i h).choose else ⟨0, 0, 0, 0⟩, rfl, fun hn => ?_, fun i hin => ?_⟩
    · obtain ⟨b, off, spot⟩ := a
      have hs : spot = none := by
        obtain ⟨x, h0, _⟩ := key 0 hn
        rcases spot with _ | s
        · rfl
        · simp [Addr.add, World.cell?] at h0
          split at h0 <;> simp_all
      subst hs
      refine ⟨b, off, rfl, fun i hin => ?_⟩
      simp only [dif_pos hin]
      have hsp := (key i hin).choose_spec
      generalize (key i hin).choose = x at hsp ⊢
      obtain ⟨h0, h1, h2, h3, _⟩ := hsp
      rw [add_plain] at h0 h1 h2 h3
      exact ⟨h0, h1, h2, h3⟩
    · simp only [dif_pos hin]
      obtain ⟨_, _, _, _, h⟩ := (key i hin).choose_spec
      exact h
end

end Go.Proofs.Yticnnjcpmiakgaa
