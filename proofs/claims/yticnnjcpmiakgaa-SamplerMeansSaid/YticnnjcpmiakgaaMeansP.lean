/-
  SamplerMeans, the plain law: what an order says of the part that it names.
-/
import Derived.Test.YticnnjcpmiakgaaPlain
namespace Go.Proofs.Yticnnjcpmiakgaa

/-- Is one of the first k asked anything? -/
def askedB (L : Nat → Ld) : Nat → Bool
  | 0 => false
  | k + 1 => askedB L k || decide (0 < (L k).reads) || decide (0 < (L k).writes)

theorem hold_pos (n : Int) : 0 < hold n ↔ 0 < n := by unfold hold; split <;> (try split) <;> omega
theorem hold_ge8 (n : Int) : 8 ≤ hold n ↔ 8 ≤ n := by unfold hold; split <;> (try split) <;> omega
theorem hold_le4 (n : Int) : hold n ≤ 4 ↔ n ≤ 4 := by unfold hold; split <;> (try split) <;> omega

theorem weight_pos (x : Ld) : 0 < x.weight ↔ 0 < x.reads ∨ 0 < x.writes := by
  have h1 := hold_pos x.reads
  have h2 := hold_pos x.writes
  have b1 := (hold_bd x.reads).1
  have b2 := (hold_bd x.writes).1
  unfold Ld.weight
  omega

theorem asked_iff (L : Nat → Ld) (k : Nat) : askedB L k = true ↔ sumOf L k ≠ 0 := by
  induction k with
  | zero => simp [askedB, sumOf]
  | succ k ih =>
    have h := weight_pos (L k)
    have hb := (sumOf_bd L k).1
    have hw := (weight_bd (L k)).1
    simp only [askedB, Bool.or_eq_true, decide_eq_true_eq, ih, sumOf]
    omega

theorem hot_max (L : Nat → Ld) (k : Nat) : ∀ i, i < k → (L i).weight ≤ (L (hotOf L k)).weight := by
  induction k with
  | zero => intro i h; omega
  | succ k ih =>
    intro i h
    rcases Nat.lt_or_ge i k with hlt | hge
    · have := ih i hlt
      unfold hotOf; split <;> omega
    · obtain rfl : i = k := by omega
      unfold hotOf; split <;> omega

theorem sum_some (L : Nat → Ld) (k : Nat) (h : sumOf L k ≠ 0) : ∃ i, i < k ∧ 0 < (L i).weight := by
  induction k with
  | zero => exact absurd rfl h
  | succ k ih =>
    by_cases hk : sumOf L k = 0
    · refine ⟨k, by omega, ?_⟩
      have hw := (weight_bd (L k)).1
      simp only [sumOf] at h
      omega
    · obtain ⟨i, hi, hw⟩ := ih hk
      exact ⟨i, by omega, hw⟩

theorem hot_busy (L : Nat → Ld) (n : Nat) (h : sumOf L n ≠ 0) : hotOf L n < n ∧ (0 < (L (hotOf L n)).reads ∨ 0 < (L (hotOf L n)).writes) := by
  obtain ⟨i, hi, hw⟩ := sum_some L n h
  have hm := hot_max L n i hi
  exact ⟨hotOf_lt L n (by omega), (weight_pos _).1 (by omega)⟩

theorem join_some (L : Nat → Ld) : ∀ m i j, joinOf L i m = some j → i ≤ j ∧ j < i + m ∧ (L j).keys ≤ 4 ∧ (L (j + 1)).keys ≤ 4 := by
  intro m
  induction m with
  | zero => intro i j h; cases h
  | succ m ih =>
    intro i j h
    unfold joinOf at h
    split at h
    · rename_i hq
      injection h with h
      subst h
      have b1 := (hold_bd (L i).keys).1
      have b2 := (hold_bd (L (i + 1)).keys).1
      exact ⟨by omega, by omega, (hold_le4 _).1 (by omega), (hold_le4 _).1 (by omega)⟩
    · obtain ⟨h1, h2, h3⟩ := ih _ _ h
      exact ⟨by omega, by omega, h3⟩

theorem other_is (kind draw : Int) : 1 ≤ otherOf kind draw ∧ otherOf kind draw ≤ 3 ∧ otherOf kind draw ≠ kind := by
  unfold otherOf; repeat' split
  all_goals omega

theorem to_is (x : Ld) (draw : Int) : 1 ≤ toOf x draw ∧ toOf x draw ≤ 3 ∧ toOf x draw ≠ x.kind := by
  unfold toOf; split
  · rename_i h; exact ⟨by omega, by omega, fun e => h.2 e.symm⟩
  · exact other_is _ _

/-- What an order says. -/
theorem choose_means (L : Nat → Ld) (n : Nat) (draw k a b : Int) (h : chooseOf n L draw = some (k, a, b)) : ∃ i : Nat, a = i ∧ i < n ∧
    ((k = 4 ∧ b = 0 ∧ (0 < (L i).reads ∨ 0 < (L i).writes) ∧ 8 ≤ (L i).keys ∧ n < 16) ∨ (k = 5 ∧ b = 0 ∧ i + 1 < n ∧ (L i).keys ≤ 4 ∧ (L (i + 1)).keys ≤ 4) ∨
      (k = 3 ∧ (0 < (L i).reads ∨ 0 < (L i).writes) ∧ 1 ≤ b ∧ b ≤ 3 ∧ b ≠ (L i).kind)) := by
  unfold chooseOf at h
  split at h
  · cases h
  · rename_i hz
    obtain ⟨hlt, hbusy⟩ := hot_busy L n hz
    split at h
    · rename_i hc
      simp only [Option.some.injEq, Prod.mk.injEq] at h
      obtain ⟨rfl, rfl, rfl⟩ := h
      exact ⟨_, rfl, hlt, .inl ⟨rfl, rfl, hbusy, (hold_ge8 _).1 hc.1, hc.2.2⟩⟩
    · split at h
      · rename_i j hj
        simp only [Option.some.injEq, Prod.mk.injEq] at h
        obtain ⟨rfl, rfl, rfl⟩ := h
        obtain ⟨_, h2, h3, h4⟩ := join_some L _ _ _ hj
        exact ⟨_, rfl, by omega, .inr (.inl ⟨rfl, rfl, by omega, h3, h4⟩)⟩
      · simp only [Option.some.injEq, Prod.mk.injEq] at h
        obtain ⟨rfl, rfl, rfl⟩ := h
        obtain ⟨t1, t2, t3⟩ := to_is (L (hotOf L n)) draw
        exact ⟨_, rfl, hlt, .inr (.inr ⟨rfl, hbusy, t1, t2, t3⟩)⟩

theorem choose_even (L : Nat → Ld) (n : Nat) (draw : Int) : chooseOf n L (draw % 2) = chooseOf n L draw := by
  have h : ∀ x : Ld, toOf x (draw % 2) = toOf x draw := fun x => by
    unfold toOf otherOf
    rw [show draw % 2 % 2 = draw % 2 by omega]
  unfold chooseOf
  simp only [h]

theorem choose_draws (L : Nat → Ld) (n : Nat) (d e : Int) : (chooseOf n L d = none ∧ chooseOf n L e = none) ∨ ∃ k a b b', chooseOf n L d = some (k, a, b) ∧ chooseOf n L e = some (k, a, b') := by
  unfold chooseOf
  split
  · exact .inl ⟨rfl, rfl⟩
  · split
    · exact .inr ⟨_, _, _, _, rfl, rfl⟩
    · split
      · exact .inr ⟨_, _, _, _, rfl, rfl⟩
      · exact .inr ⟨_, _, _, _, rfl, rfl⟩

theorem choose_none (L : Nat → Ld) (n : Nat) (d : Int) : chooseOf n L d = none ↔ sumOf L n = 0 := by
  constructor
  · intro h
    unfold chooseOf at h
    split at h
    · assumption
    · split at h
      · cases h
      · split at h <;> cases h
  · intro h
    unfold chooseOf
    rw [if_pos h]

end Go.Proofs.Yticnnjcpmiakgaa
