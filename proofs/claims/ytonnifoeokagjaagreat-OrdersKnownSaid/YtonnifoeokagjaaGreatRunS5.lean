/-
  The orders that a region may draw. No condition.
-/
import Derived.Test.YtonnifoeokagjaaGreatRunS4
namespace Go.Proofs.YtonnifoeokagjaaGreat
open Go Go.RowKit
namespace Abs

theorem all_len : ∀ (n : Nat) (l : List Nat), (∀ j, j < n → j ∈ l) → n ≤ l.length
  | 0, _, _ => Nat.zero_le _
  | n + 1, l, h => by
    have hn := h n (Nat.lt_succ_self _)
    have := all_len n (l.erase n) fun j hj => (List.mem_erase_of_ne (by omega)).2 (h j (by omega))
    rw [List.length_erase_of_mem hn] at this
    have hl := List.length_pos_of_mem hn
    omega

theorem least (p : Nat → Prop) : ∀ (n : Nat), (∃ j, j < n ∧ p j) → ∃ j, j < n ∧ p j ∧ ∀ i, i < j → ¬ p i
  | 0, h => by obtain ⟨j, hj, _⟩ := h; omega
  | n + 1, h => by
    by_cases hn : ∃ j, j < n ∧ p j
    · obtain ⟨j, h1, h2, h3⟩ := least p n hn
      exact ⟨j, by omega, h2, h3⟩
    · obtain ⟨j, hj, hp⟩ := h
      refine ⟨j, hj, hp, fun i hi hpi => hn ⟨i, by omega, hpi⟩⟩

theorem foldl_anc (acc : List Nat) (j : Nat) : ∀ (es : List Edge) (s : Nat),
    (es.foldl (fun s e => if Region.binds .any e then s ||| 2 ^ e.on ||| (match nthL e.on acc with | some x => x | none => 0) else s) s).testBit j = true →
    s.testBit j = true ∨ ∃ e ∈ es, Region.binds .any e = true ∧ (e.on = j ∨ ∃ a, acc[e.on]? = some a ∧ a.testBit j = true)
  | [], s, h => .inl h
  | e :: es, s, h => by
    simp only [List.foldl_cons] at h
    rcases foldl_anc acc j es _ h with h1 | ⟨e', he', h2⟩
    · split at h1
      · rename_i hb
        rw [Nat.testBit_or, Nat.testBit_or] at h1
        simp only [Bool.or_eq_true] at h1
        rcases h1 with (h1 | h1) | h1
        · exact .inl h1
        · right
          refine ⟨e, by simp, hb, .inl ?_⟩
          rw [Nat.testBit_two_pow] at h1
          simpa using h1
        · right
          refine ⟨e, by simp, hb, .inr ?_⟩
          rw [nthL_eq] at h1
          cases ha : acc[e.on]? with
          | none => rw [ha] at h1; simp at h1
          | some a => rw [ha] at h1; exact ⟨a, rfl, h1⟩
      · exact .inl h1
    · exact .inr ⟨e', by simp [he'], h2⟩

theorem ancs_anc : ∀ (l : List Oper) (i : Nat) (acc : List Nat), acc.length = i → ∀ x ∈ ancs l i acc, ∀ j, x.anc.testBit j = true →
    ∃ e ∈ x.o.after.toList, Region.binds .any e = true ∧ (e.on = j ∨ (∃ a, acc[e.on]? = some a ∧ a.testBit j = true) ∨ ∃ y ∈ ancs l i acc, y.i = e.on ∧ y.anc.testBit j = true)
  | [], _, _, _, x, h, _, _ => by simp [ancs] at h
  | o :: l, i, acc, hlen, x, h, j, hj => by
    simp only [ancs, List.mem_cons] at h
    rcases h with rfl | h
    · simp only at hj
      rcases foldl_anc acc j _ 0 hj with h1 | ⟨e, he, hb, h2⟩
      · simp at h1
      · exact ⟨e, he, hb, h2.imp id .inl⟩
    · obtain ⟨e, he, hb, h2⟩ := ancs_anc l (i + 1) _ (by simp [hlen]) x h j hj
      refine ⟨e, he, hb, ?_⟩
      rcases h2 with h2 | ⟨a, ha, h2⟩ | ⟨y, hy, h2⟩
      · exact .inl h2
      · by_cases hlt : e.on < acc.length
        · rw [List.getElem?_append_left hlt] at ha
          exact .inr (.inl ⟨a, ha, h2⟩)
        · rw [List.getElem?_append_right (by omega)] at ha
          have h0 : e.on - acc.length = 0 := by
            cases hq : e.on - acc.length with
            | zero => rfl
            | succ q => rw [hq] at ha; simp at ha
          rw [h0] at ha
          simp only [List.getElem?_cons_zero, Option.some.injEq] at ha
          refine .inr (.inr ⟨⟨i, o, _, effectful o.op⟩, by simp only [ancs]; exact List.mem_cons_self, by show i = e.on; omega, ?_⟩)
          rw [← ha] at h2
          exact h2
      · exact .inr (.inr ⟨y, by simp only [ancs]; exact List.mem_cons_of_mem _ hy, h2⟩)

theorem ancs_sorted : ∀ (l : List Oper) (i : Nat) (acc : List Nat), (ancs l i acc).Pairwise (fun x y => x.i < y.i)
  | [], _, _ => by simp only [ancs]; exact List.Pairwise.nil
  | o :: l, i, acc => by
    simp only [ancs]
    refine List.pairwise_cons.2 ⟨fun y hy => ?_, ancs_sorted l _ _⟩
    have := (ancs_mem l _ _ y hy).1
    show i < y.i
    omega

theorem regOk_edges {ops : Array Oper} {A : List RInfo} (h : regOk ops A = true) {x : RInfo} (hx : x ∈ A) {e : Edge} (he : e ∈ x.o.after.toList) (hb : Region.binds .any e = true) : e.on < x.i := by
  simp only [regOk, Bool.and_eq_true, List.all_eq_true] at h
  have := h.1.1 x hx e he
  simpa [hb] using this

/-- the orders that a region may draw -/
theorem linear_facts {ops : Array Oper} {A : List RInfo} (hA : A = ancs ops.toList 0 []) (hok : regOk ops A = true) :
    ∀ (fuel t : Nat) (listed : Array Bool) (acc : List Nat), listed.size = ops.size → (∀ j, listed.getD j false = true ↔ j ∈ acc) → acc.Nodup → (∀ j ∈ acc, j < ops.size) → acc.length + fuel = ops.size →
    (∀ x ∈ A, x.i ∈ acc → ∀ j, x.anc.testBit j = true → j ∈ acc) → acc.Pairwise (fun j i => ∀ x ∈ A, x.i = i → x.anc.testBit j = false) →
    let σ := Region.linearise.go .any ops fuel t listed acc
    σ.Nodup ∧ (∀ j, j ∈ σ ↔ j < ops.size) ∧ σ.Pairwise (fun i j => ∀ x ∈ A, x.i = i → x.anc.testBit j = false)
  | 0, t, listed, acc, hsz, hl, hnd, hlt, hlen, hclo, hord => by
    simp only [Region.linearise.go]
    refine ⟨List.pairwise_reverse.2 (hnd.imp fun h => Ne.symm h), fun j => ?_, by rw [List.pairwise_reverse]; exact hord⟩
    rw [List.mem_reverse]
    refine ⟨hlt j, fun hj => ?_⟩
    refine Classical.byContradiction fun hn => ?_
    have h1 : (j :: acc).Nodup := List.nodup_cons.2 ⟨hn, hnd⟩
    have h2 := h1.length_le_of_subset (l₂ := List.range ops.size) fun x hx => by
      rcases List.mem_cons.1 hx with rfl | hx
      · exact List.mem_range.2 hj
      · exact List.mem_range.2 (hlt x hx)
    simp only [List.length_cons, List.length_range] at h2
    omega
  | fuel + 1, t, listed, acc, hsz, hl, hnd, hlt, hlen, hclo, hord => by
    have hun : ∃ j, j < ops.size ∧ ¬ j ∈ acc := by
      refine Classical.byContradiction fun hn => ?_
      have := all_len ops.size acc fun j hj => Classical.byContradiction fun h => hn ⟨j, hj, h⟩
      omega
    obtain ⟨j, hj, hjn, hmin⟩ := least (fun j => ¬ j ∈ acc) _ hun
    have hmem : ∀ i, i < ops.size → ∃ x ∈ A, x.i = i ∧ ops[i]? = some x.o := by
      intro i hi
      obtain ⟨x, hx, he⟩ := ancs_has ops.toList 0 [] i (by simpa using hi)
      have h3 := (ancs_mem _ _ _ _ hx).2.2.1
      refine ⟨x, by rw [hA]; exact hx, by omega, ?_⟩
      have : i = x.i - 0 := by omega
      rw [this]; simpa using h3
    have hunl : ∀ i, i < ops.size → (listed.getD i true = false ↔ ¬ i ∈ acc) := by
      intro i hi
      rw [← hl i]
      simp [Array.getD_eq_getD_getElem?, hsz, hi]
    have hready : j ∈ Region.ready .any ops listed := by
      rw [mem_ready]
      obtain ⟨x, hx, he, ho⟩ := hmem j hj
      refine ⟨(hunl j hj).2 hjn, x.o, ho, fun e hee hb => ?_⟩
      have hlt' := regOk_edges hok hx (by simpa using hee) hb
      rw [hl]
      exact Classical.byContradiction fun h => hmin e.on (by omega) h
    have hrs : ∀ (rs : List Nat), j ∈ rs → ∃ i, rs[t % rs.length]? = some i ∧ i ∈ rs := by
      intro rs hj
      have hpos := List.length_pos_of_mem hj
      have hm := Nat.mod_lt t hpos
      exact ⟨rs[t % rs.length], List.getElem?_eq_getElem hm, List.getElem_mem hm⟩
    obtain ⟨i, hi, hir⟩ := hrs _ hready
    have hgo : Region.linearise.go .any ops (fuel + 1) t listed acc = Region.linearise.go .any ops fuel (t / (Region.ready .any ops listed).length) (listed.setIfInBounds i true) (i :: acc) := by
      simp only [Region.linearise.go]
      change (match (Region.ready .any ops listed)[t % (Region.ready .any ops listed).length]? with
        | some i => Region.linearise.go .any ops fuel (t / (Region.ready .any ops listed).length) (listed.setIfInBounds i true) (i :: acc)
        | none => acc.reverse) = _
      rw [hi]
    rw [hgo]
    obtain ⟨hi1, o, hio, hdeps⟩ := mem_ready.1 hir
    have hilt : i < ops.size := (Array.getElem?_eq_some_iff.1 hio).1
    have hin : ¬ i ∈ acc := (hunl i hilt).1 hi1
    have hancs : ∀ x ∈ A, x.i = i → ∀ q, x.anc.testBit q = true → q ∈ acc := by
      intro x hx hxi q hq
      have hxA := hx
      rw [hA] at hxA
      obtain ⟨e, he, hb, h2⟩ := ancs_anc ops.toList 0 [] rfl x hxA q hq
      have hxo : ops[x.i]? = some x.o := by
        have h3 := (ancs_mem _ _ _ _ hxA).2.2.1
        simpa using h3
      rw [hxi, hio] at hxo
      injection hxo with hxo
      have hon : e.on ∈ acc := (hl e.on).1 (hdeps e (by rw [hxo]; simpa using he) hb)
      rcases h2 with h2 | ⟨a, ha, _⟩ | ⟨y, hy, hye, hyq⟩
      · rw [← h2]; exact hon
      · simp at ha
      · exact hclo y (by rw [hA]; exact hy) (by rw [hye]; exact hon) q hyq
    refine linear_facts hA hok fuel _ _ (i :: acc) (by simp [hsz]) (fun q => ?_) (List.nodup_cons.2 ⟨hin, hnd⟩) (fun q hq => ?_) (by simp only [List.length_cons]; omega) (fun x hx hxa q hq => ?_) (List.pairwise_cons.2 ⟨fun q hq x hx hxq => ?_, hord⟩)
    · by_cases hqi : q = i
      · subst hqi
        simp [Array.getD_eq_getD_getElem?, hsz, hilt]
      · rw [getD_set_ne false (Ne.symm hqi), hl q]
        simp [hqi]
    · rcases List.mem_cons.1 hq with rfl | hq
      · exact hilt
      · exact hlt q hq
    · rcases List.mem_cons.1 hxa with hxi | hxa
      · exact List.mem_cons_of_mem _ (hancs x hx hxi q hq)
      · exact List.mem_cons_of_mem _ (hclo x hx hxa q hq)
    · cases hb : x.anc.testBit i with
      | false => rfl
      | true => exact absurd (hclo x hx (by rw [hxq]; exact hq) i hb) hin

theorem linear_start {ops : Array Oper} (hok : regOk ops (ancs ops.toList 0 []) = true) (t : Nat) :
    (Region.linearise .any ops t).Nodup ∧ (∀ j, j ∈ Region.linearise .any ops t ↔ j < ops.size) ∧ (Region.linearise .any ops t).Pairwise (fun i j => ∀ x ∈ ancs ops.toList 0 [], x.i = i → x.anc.testBit j = false) := by
  refine linear_facts rfl hok ops.size t (Array.replicate ops.size false) [] (by simp) (fun j => ?_) List.nodup_nil (by simp) (by simp) (by simp) List.Pairwise.nil
  simp only [List.not_mem_nil, iff_false]
  rw [Array.getD_eq_getD_getElem?]
  simp only [Array.getElem?_replicate]
  split <;> simp

end Abs
end Go.Proofs.YtonnifoeokagjaaGreat
