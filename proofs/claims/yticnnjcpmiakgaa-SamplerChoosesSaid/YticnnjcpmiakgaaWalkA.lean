/-
  Walks over the sampler's small functions: hold, weight, held, the closure at, other, equal; the reference's hold and Weight.
-/
import Derived.Test.YticnnjcpmiakgaaRows
import Derived.Test.YticnnjcpmiakgaaPlain
import Derived.WalkKit
import Derived.WalkSpells
import Derived.WalkLawsBesides
import Derived.StillTailTactics
import Derived.BigQuiet
import Derived.Deep.QuietTactic
import Derived.Lib.Hide
import Derived.Deep.RegionWith
import Derived.Deep.RegionHeld3
import Derived.Deep.Light
import Derived.Deep.AppendLies
import Derived.Deep.DeepMust
namespace Go.Proofs.Yticnnjcpmiakgaa
open Go.RowKit

abbrev Ld.val (x : Ld) : Value := .agg #[.int .i64 x.keys, .int .i64 x.reads, .int .i64 x.writes, .int .u8 x.kind]

theorem ret_int {k : IntKind} {a b : Int} (h : a = b) : Ending.returned (.int k a) = .returned (.int k b) := by rw [h]

set_option maxHeartbeats 400000 in
theorem hold_calls (n : Int) (w : World) :
    Calls Try.prog 18 #[.int .i64 n] w fun e w' => e = .returned (.int .i64 (hold n)) ∧ w = w' := by
  go_enter Try.func18, Try.ntmps18
  go_wp2
  all_goals go_ret
  all_goals exact ⟨ret_int (by unfold hold; omega), rfl⟩

set_option maxHeartbeats 400000 in
theorem refhold_calls (n : Int) (w : World) :
    Calls Try.prog 17 #[.int .i64 n] w fun e w' => e = .returned (.int .i64 (hold n)) ∧ w = w' := by
  go_enter Try.func17, Try.ntmps17
  go_wp2
  all_goals go_ret
  all_goals exact ⟨ret_int (by unfold hold; omega), rfl⟩

set_option maxHeartbeats 400000 in
theorem weight_calls (k r x d : Int) (w : World) (h1 : 0 ≤ r) (h2 : r ≤ 1099511627776) (h3 : 0 ≤ x) (h4 : x ≤ 1099511627776) :
    Calls Try.prog 14 #[.agg #[.int .i64 k, .int .i64 r, .int .i64 x, .int .u8 d]] w fun e w' => e = .returned (.int .i64 (r + x)) ∧ Below w.heap.size w w' := by
  go_enter Try.func14, Try.ntmps14
  go_wp2
  go_ret
  exact ⟨rfl, (Below.refl _ _).alloc (Nat.le_refl _) _⟩

theorem quiet_left {P : Program} {f : FuncId} {args : Array Value} {w : World} {n : Nat} {v : Value}
    (h : Calls P f args (w.drewN n) fun e w' => e = .returned v ∧ w.drewN n = w') : Calls P f args (w.drewN n) fun e w' => e = .returned v ∧ ∃ m, w' = w.drewN m :=
  h.mono fun _ _ ⟨he, hm⟩ => ⟨he, n, hm.symm⟩

theorem still_left {P : Program} {f : FuncId} {args : Array Value} {w : World} {v : Value}
    (h : Calls P f args w fun e w' => e = .returned v ∧ w = w') : Calls P f args w fun e w' => e = .returned v ∧ w' = w :=
  h.mono fun _ _ ⟨he, hm⟩ => ⟨he, hm.symm⟩

theorem below_drewN {B : Nat} {a w : World} (h : Below B a w) (n : Nat) : Below B a (w.drewN n) := ⟨h.os, h.tape, h.output, h.size, h.block⟩

theorem bcell {W w1 : World} (hb : Below W.heap.size W w1) : (∀ b o, b < W.heap.size → w1.cell? ⟨b, o, none⟩ = W.cell? ⟨b, o, none⟩) ∧ (∀ b o, b < W.heap.size → w1.frozen? ⟨b, o, none⟩ = W.frozen? ⟨b, o, none⟩) :=
  ⟨fun b o h => hb.cell (p := ⟨b, o, none⟩) h, fun b o h => hb.frozen (p := ⟨b, o, none⟩) h⟩

theorem draw_eq (W : World) : ({ heap := W.heap, tape := W.tape, drawn := W.drawn + 1, os := W.os, output := W.output } : World) = W.drew := rfl

set_option maxHeartbeats 400000 in
theorem refweight_calls (k r x d : Int) (w : World) :
    Calls Try.prog 16 #[.agg #[.int .i64 k, .int .i64 r, .int .i64 x, .int .u8 d]] w fun e w' => e = .returned (.int .i64 (hold r + hold x)) ∧ Below w.heap.size w w' := by
  have b1 := hold_bd r
  have b2 := hold_bd x
  go_enter Try.func16, Try.ntmps16
  go_wp2_with fail
  go_quiet ((go_at_call 17; exact quiet_left (refhold_calls _ _)))
  go_wp2
  go_ret
  exact ⟨rfl, below_drewN ((Below.refl _ _).alloc (Nat.le_refl _) _) _⟩

set_option maxHeartbeats 1000000 in
theorem held_calls (k r x d : Int) (w : World) :
    Calls Try.prog 13 #[.agg #[.int .i64 k, .int .i64 r, .int .i64 x, .int .u8 d]] w fun e w' => e = .returned (.agg #[.int .i64 (hold k), .int .i64 (hold r), .int .i64 (hold x), .int .u8 d]) ∧ Below w.heap.size w w' := by
  go_enter Try.func13, Try.ntmps13
  go_wp2
  refine wp_region_still_tail 13 (by kernel_rfl) (by kernel_rfl) ?_
  simp only [List.take_succ_cons, List.take_zero, List.drop_succ_cons, List.drop_zero, draw_eq]
  repeat still_step
  still_call (still_left (hold_calls _ _))
  repeat still_step
  still_call (still_left (hold_calls _ _))
  repeat still_step
  still_call (still_left (hold_calls _ _))
  repeat still_step
  refine wpStill_nil ?_
  go_wp2
  exact bodyPost_ret (v := .agg #[.int .i64 (hold k), .int .i64 (hold r), .int .i64 (hold x), .int .u8 d]) (by simp [results, Try.results13, go_sem]) rfl
    ⟨rfl, (((Below.refl _ _).alloc (Nat.le_refl _) _).alloc (by simp) _).drew⟩

/-- The loads of a slice, where they lie. -/
def Elems (w : World) (a : Addr) (n : Nat) (L : Nat → Ld) : Prop :=
  ∀ i, i < n → w.cell? (a.add (4 * i)) = some (.int .i64 (L i).keys) ∧ w.cell? (a.add (4 * i + 1)) = some (.int .i64 (L i).reads) ∧
    w.cell? (a.add (4 * i + 2)) = some (.int .i64 (L i).writes) ∧ w.cell? (a.add (4 * i + 3)) = some (.int .u8 (L i).kind)

set_option maxHeartbeats 1000000 in
theorem at_calls (b off i n cap B : Nat) (k r x d : Int) (w : World) (hs : w.cell? ⟨B, 0, none⟩ = some (.slice (some ⟨b, off, none⟩) n cap)) (hi : i < n)
    (h0 : w.cell? ⟨b, off + i * 4, none⟩ = some (.int .i64 k)) (h1 : w.cell? ⟨b, off + i * 4 + 1, none⟩ = some (.int .i64 r))
    (h2 : w.cell? ⟨b, off + i * 4 + 2, none⟩ = some (.int .i64 x)) (h3 : w.cell? ⟨b, off + i * 4 + 3, none⟩ = some (.int .u8 d)) :
    Calls Try.prog 12 #[.int .i64 i, .pointer (some ⟨B, 0, none⟩)] w fun e w' => e = .returned (.agg #[.int .i64 (hold k), .int .i64 (hold r), .int .i64 (hold x), .int .u8 d]) ∧ Below w.heap.size w w' := by
  have hb := World.block_lt_of_cell? w _ h0
  have hB := World.block_lt_of_cell? w _ hs
  simp only at hb hB
  go_enter Try.func12, Try.ntmps12
  go_wp2_with fail
  refine (held_calls _ _ _ _ _).mono ?_
  rintro e w1 ⟨rfl, hb1⟩
  obtain ⟨hc, hf⟩ := bcell hb1
  go_wp2
  exact bodyPost_ret (v := .agg #[.int .i64 (hold k), .int .i64 (hold r), .int .i64 (hold x), .int .u8 d]) (by simp [results, Try.results12, go_sem, hc]) rfl
    ⟨rfl, ((((((Below.refl _ _).alloc (Nat.le_refl _) _).trans (hb1.mono (by simp))).setCell (by simp) _).setCell (by simp) _).setCell (by simp) _).setCell (by simp) _⟩

end Go.Proofs.Yticnnjcpmiakgaa
