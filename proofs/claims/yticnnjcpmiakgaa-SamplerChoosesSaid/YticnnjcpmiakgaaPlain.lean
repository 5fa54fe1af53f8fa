/-
  The plain laws of the sampler (chapter 25), no program in sight: what Choose answers as a function of the loads, that the document's rule by rule definition gives the same, and what the laws ask of it.
-/
namespace Go.Proofs.Yticnnjcpmiakgaa

/-- A load, as numbers. -/
structure Ld where
  keys : Int
  reads : Int
  writes : Int
  kind : Int

def hold (n : Int) : Int := if n < 0 then 0 else if 1099511627776 < n then 1099511627776 else n

def Ld.held (x : Ld) : Ld := ⟨hold x.keys, hold x.reads, hold x.writes, x.kind⟩

def Ld.weight (x : Ld) : Int := hold x.reads + hold x.writes

theorem hold_bd (n : Int) : 0 ≤ hold n ∧ hold n ≤ 1099511627776 := by
  unfold hold; split
  · omega
  · split <;> omega

theorem weight_bd (x : Ld) : 0 ≤ x.weight ∧ x.weight ≤ 2199023255552 := by
  have := hold_bd x.reads; have := hold_bd x.writes; unfold Ld.weight; omega

/-- The place of the one that is asked most, of the first k. -/
def hotOf (L : Nat → Ld) : Nat → Nat
  | 0 => 0
  | k + 1 => if (L (hotOf L k)).weight < (L k).weight then k else hotOf L k

/-- How often the first k are asked, together. -/
def sumOf (L : Nat → Ld) : Nat → Int
  | 0 => 0
  | k + 1 => sumOf L k + (L k).weight

theorem hotOf_lt (L : Nat → Ld) (k : Nat) (h : 0 < k) : hotOf L k < k := by
  induction k with
  | zero => omega
  | succ k ih =>
    unfold hotOf; split
    · omega
    · rcases Nat.eq_zero_or_pos k with rfl | hk
      · simp [hotOf]
      · have := ih hk; omega

theorem hotOf_le (L : Nat → Ld) (k : Nat) : hotOf L k ≤ k := by
  rcases Nat.eq_zero_or_pos k with rfl | hk
  · simp [hotOf]
  · have := hotOf_lt L k hk; omega

theorem sumOf_bd (L : Nat → Ld) (k : Nat) : 0 ≤ sumOf L k ∧ sumOf L k ≤ 2199023255552 * (k : Int) := by
  induction k with
  | zero => simp [sumOf]
  | succ k ih =>
    have := weight_bd (L k)
    unfold sumOf; omega

/-- The first of the pairs from i on, m of them, that are few together. -/
def joinOf (L : Nat → Ld) (i : Nat) : Nat → Option Nat
  | 0 => none
  | m + 1 => if hold (L i).keys + hold (L (i + 1)).keys ≤ 4 then some i else joinOf L (i + 1) m

/-- Another kind, by a draw. -/
def otherOf (kind draw : Int) : Int :=
  if draw % 2 = 0 then (if kind = 1 then 2 else 1) else (if kind = 1 then 3 else if kind = 2 then 3 else 2)

/-- What a migration leads to. -/
def toOf (x : Ld) (draw : Int) : Int := if hold x.reads < hold x.writes ∧ x.kind ≠ 1 then 1 else otherOf x.kind draw

/-- An order: its kind, its part, its second number; none where nothing was asked. -/
def chooseOf (n : Nat) (L : Nat → Ld) (draw : Int) : Option (Int × Int × Int) :=
  if sumOf L n = 0 then none
  else if 8 ≤ hold (L (hotOf L n)).keys ∧ sumOf L n - (L (hotOf L n)).weight < (L (hotOf L n)).weight ∧ n < 16 then some (4, hotOf L n, 0)
  else match joinOf L 0 (n - 1) with
    | some i => some (5, i, 0)
    | none => some (3, hotOf L n, toOf (L (hotOf L n)) draw)

end Go.Proofs.Yticnnjcpmiakgaa
