/-
  SamplerScale, the plain law: loads that are asked so many times as often have the same order; a part more that is asked nothing changes nothing.
-/
import Derived.Test.YticnnjcpmiakgaaTwice
namespace Go.Proofs.Yticnnjcpmiakgaa
open Go.RowKit

theorem and_mask (n : Int) : bits .and .i64 n 1048575 = n % 1048576 := by
  have hm : (BitVec.ofInt 64 1048575).toNat = 2 ^ 20 - 1 := by decide
  have key : (BitVec.ofInt 64 n &&& BitVec.ofInt 64 1048575).toNat = (n % ((2 ^ 64 : Nat) : Int)).toNat % 2 ^ 20 := by
    rw [BitVec.toNat_and, BitVec.toNat_ofInt, hm, Nat.and_two_pow_sub_one_eq_mod]
  show IntKind.i64.wrap ((BitVec.ofInt 64 n &&& BitVec.ofInt 64 1048575).toNat : Nat) = n % 1048576
  rw [key, IntKind.wrap_i64]
  omega

theorem mask_bd (n : Int) : 0 ≤ bits .and .i64 n 1048575 ∧ bits .and .i64 n 1048575 ≤ 1048575 := by rw [and_mask]; omega

theorem hold_of {n : Int} (h0 : 0 ≤ n) (h1 : n ≤ 1099511627776) : hold n = n := by unfold hold; rw [if_neg (by omega), if_neg (by omega)]

/-- Loads whose numbers are small. -/
def Small (L : Nat → Ld) : Prop := ∀ i, 0 ≤ (L i).reads ∧ (L i).reads ≤ 1048575 ∧ 0 ≤ (L i).writes ∧ (L i).writes ≤ 1048575

/-- The loads, asked m times as often. -/
def times (L : Nat → Ld) (m : Int) : Nat → Ld := fun i => ⟨(L i).keys, (L i).reads * m, (L i).writes * m, (L i).kind⟩

theorem mul_bd {x m : Int} (h0 : 0 ≤ x) (h1 : x ≤ 1048575) (m0 : 1 ≤ m) (m1 : m ≤ 1000) : 0 ≤ x * m ∧ x * m ≤ 1048575000 := by
  constructor
  · exact Int.mul_nonneg h0 (by omega)
  · have := Int.mul_le_mul h1 m1 (by omega) (by omega)
    omega

theorem weight_small {L : Nat → Ld} (h : Small L) (i : Nat) : (L i).weight = (L i).reads + (L i).writes := by
  obtain ⟨a, b, c, d⟩ := h i
  unfold Ld.weight
  rw [hold_of a (by omega), hold_of c (by omega)]

theorem weight_times {L : Nat → Ld} (h : Small L) {m : Int} (m0 : 1 ≤ m) (m1 : m ≤ 1000) (i : Nat) : (times L m i).weight = (L i).weight * m := by
  obtain ⟨a, b, c, d⟩ := h i
  have h1 := mul_bd a b m0 m1
  have h2 := mul_bd c d m0 m1
  rw [weight_small h, Int.add_mul]
  show hold ((L i).reads * m) + hold ((L i).writes * m) = _
  rw [hold_of h1.1 (by omega), hold_of h2.1 (by omega)]

theorem lt_mul {a b m : Int} (m0 : 1 ≤ m) : a * m < b * m ↔ a < b := Int.mul_lt_mul_right (by omega)

theorem hot_times {L : Nat → Ld} (h : Small L) {m : Int} (m0 : 1 ≤ m) (m1 : m ≤ 1000) (n : Nat) : hotOf (times L m) n = hotOf L n := by
  induction n with
  | zero => rfl
  | succ n ih =>
    simp only [hotOf, ih, weight_times h m0 m1, lt_mul m0]

theorem sum_times {L : Nat → Ld} (h : Small L) {m : Int} (m0 : 1 ≤ m) (m1 : m ≤ 1000) (n : Nat) : sumOf (times L m) n = sumOf L n * m := by
  induction n with
  | zero => simp [sumOf]
  | succ n ih => simp only [sumOf, ih, weight_times h m0 m1, Int.add_mul]

theorem to_times {L : Nat → Ld} (h : Small L) {m : Int} (m0 : 1 ≤ m) (m1 : m ≤ 1000) (i : Nat) (draw : Int) : toOf (times L m i) draw = toOf (L i) draw := by
  obtain ⟨a, b, c, d⟩ := h i
  have h1 := mul_bd a b m0 m1
  have h2 := mul_bd c d m0 m1
  have e : (hold (times L m i).reads < hold (times L m i).writes) = (hold (L i).reads < hold (L i).writes) := by
    show (hold ((L i).reads * m) < hold ((L i).writes * m)) = _
    rw [hold_of h1.1 (by omega), hold_of h2.1 (by omega), hold_of a (by omega), hold_of c (by omega)]
    exact propext (lt_mul m0)
  unfold toOf
  simp only [e, show (times L m i).kind = (L i).kind from rfl]

theorem choose_times {L : Nat → Ld} (h : Small L) {m : Int} (m0 : 1 ≤ m) (m1 : m ≤ 1000) (n : Nat) (draw : Int) : chooseOf n (times L m) draw = chooseOf n L draw := by
  unfold chooseOf
  rw [hot_times h m0 m1, sum_times h m0 m1, to_times h m0 m1, weight_times h m0 m1, join_swap (L := L) (L' := times L m) (fun _ => rfl)]
  have hz : (sumOf L n * m = 0) = (sumOf L n = 0) := propext ⟨fun e => by
    rcases Int.mul_eq_zero.1 e with e | e
    · exact e
    · omega, fun e => by rw [e, Int.zero_mul]⟩
  have hs : (sumOf L n * m - (L (hotOf L n)).weight * m < (L (hotOf L n)).weight * m) = (sumOf L n - (L (hotOf L n)).weight < (L (hotOf L n)).weight) := by
    rw [← Int.sub_mul]; exact propext (lt_mul m0)
  have hk : (times L m (hotOf L n)).keys = (L (hotOf L n)).keys := rfl
  simp only [hz, hs, hk]

/-- One part more, behind all, that is asked nothing. -/
def more (L : Nat → Ld) (n : Nat) (x : Ld) : Nat → Ld := fun i => if i < n then L i else x

theorem more_lt (L : Nat → Ld) (n : Nat) (x : Ld) {i : Nat} (h : i < n) : more L n x i = L i := if_pos h
theorem more_at (L : Nat → Ld) (n : Nat) (x : Ld) : more L n x n = x := if_neg (by omega)

theorem hot_more (L : Nat → Ld) (n : Nat) (x : Ld) : ∀ k, k ≤ n → 0 < k → hotOf (more L n x) k = hotOf L k := by
  intro k
  induction k with
  | zero => intro _ h; omega
  | succ k ih =>
    intro hk _
    rcases Nat.eq_zero_or_pos k with rfl | hp
    · simp [hotOf]
    · have hh := hotOf_lt L k hp
      simp only [hotOf, ih (by omega) hp, more_lt L n x (show k < n by omega), more_lt L n x (show hotOf L k < n by omega)]

theorem sum_more (L : Nat → Ld) (n : Nat) (x : Ld) : ∀ k, k ≤ n → sumOf (more L n x) k = sumOf L k := by
  intro k
  induction k with
  | zero => intro _; rfl
  | succ k ih =>
    intro hk
    simp only [sumOf, ih (by omega), more_lt L n x (show k < n by omega)]

theorem join_more (L : Nat → Ld) (n : Nat) (x : Ld) : ∀ m i, i + m < n → joinOf (more L n x) i m = joinOf L i m := by
  intro m
  induction m with
  | zero => intro i _; rfl
  | succ m ih =>
    intro i h
    simp only [joinOf, more_lt L n x (show i < n by omega), more_lt L n x (show i + 1 < n by omega), ih (i + 1) (by omega)]

theorem join_snoc (L : Nat → Ld) : ∀ m i, joinOf L i (m + 1) = (match joinOf L i m with | some j => some j | none => if hold (L (i + m)).keys + hold (L (i + m + 1)).keys ≤ 4 then some (i + m) else none) := by
  intro m
  induction m with
  | zero => intro i; simp [joinOf]
  | succ m ih =>
    intro i
    rw [joinOf, ih (i + 1), joinOf]
    split
    · rfl
    · rw [show i + 1 + m = i + (m + 1) by omega]

theorem choose_more {L : Nat → Ld} {n : Nat} (hn : n ≤ 14) (draw : Int) : chooseOf (n + 1) (more L n ⟨100, 0, 0, 2⟩) draw = chooseOf n L draw := by
  have hx : (⟨100, 0, 0, 2⟩ : Ld).weight = 0 := rfl
  have hsum : sumOf (more L n ⟨100, 0, 0, 2⟩) (n + 1) = sumOf L n := by rw [sumOf, sum_more L n _ n (Nat.le_refl _), more_at, hx]; omega
  rcases Nat.eq_zero_or_pos n with rfl | hp
  · unfold chooseOf
    rw [hsum]
    simp [sumOf]
  · have hh := hotOf_lt L n hp
    have hhot : hotOf (more L n ⟨100, 0, 0, 2⟩) (n + 1) = hotOf L n := by
      rw [hotOf, hot_more L n _ n (Nat.le_refl _) hp, more_at, hx, more_lt L n _ hh, if_neg]
      have := (weight_bd (L (hotOf L n))).1
      omega
    have hj : joinOf (more L n ⟨100, 0, 0, 2⟩) 0 (n + 1 - 1) = joinOf L 0 (n - 1) := by
      obtain ⟨m, rfl⟩ : ∃ m, n = m + 1 := ⟨n - 1, by omega⟩
      rw [Nat.add_sub_cancel, Nat.add_sub_cancel, join_snoc, join_more L (m + 1) _ m 0 (by omega), Nat.zero_add, more_at, more_lt L (m + 1) _ (show m < m + 1 by omega)]
      have hb := (hold_bd (L m).keys).1
      have h100 : hold (⟨100, 0, 0, 2⟩ : Ld).keys = 100 := rfl
      rw [h100, if_neg (by omega)]
      split
      · rename_i j h; exact h.symm
      · rename_i h; exact h.symm
    unfold chooseOf
    rw [hsum, hhot, hj, more_lt L n _ hh]
    have hc : (8 ≤ hold (L (hotOf L n)).keys ∧ sumOf L n - (L (hotOf L n)).weight < (L (hotOf L n)).weight ∧ n + 1 < 16) = (8 ≤ hold (L (hotOf L n)).keys ∧ sumOf L n - (L (hotOf L n)).weight < (L (hotOf L n)).weight ∧ n < 16) :=
      propext ⟨fun ⟨a, b, _⟩ => ⟨a, b, by omega⟩, fun ⟨a, b, _⟩ => ⟨a, b, by omega⟩⟩
    simp only [hc]

theorem flat_more (L : Nat → Ld) (n : Nat) (x : Ld) : ∀ k, k ≤ n → flat (more L n x) k = flat L k := by
  intro k
  induction k with
  | zero => intro _; rfl
  | succ k ih =>
    intro hk
    simp only [flat, ih (by omega), more_lt L n x (show k < n by omega)]

end Go.Proofs.Yticnnjcpmiakgaa
