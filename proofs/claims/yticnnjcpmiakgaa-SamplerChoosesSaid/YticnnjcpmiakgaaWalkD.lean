/-
  Walks over the sampler: Choose at any slice, an empty one too; awake.
-/
import Derived.Test.YticnnjcpmiakgaaWalkC
namespace Go.Proofs.Yticnnjcpmiakgaa
open Go.RowKit

/-- A slice value over loads; of an empty one nothing is asked. -/
def Sl (w : World) (A : Option Addr) (n : Nat) (L : Nat → Ld) : Prop := 0 < n → ∃ b off, A = some ⟨b, off, none⟩ ∧ Lds w b off n L

/-- The kinds fit a byte. -/
def Kinds (n : Nat) (L : Nat → Ld) : Prop := ∀ i, i < n → 0 ≤ (L i).kind ∧ (L i).kind ≤ 255

theorem Sl.below {w w' : World} {A : Option Addr} {n : Nat} {L : Nat → Ld} (h : Sl w A n L) (hb : Below w.heap.size w w') : Sl w' A n L := fun hn => by
  obtain ⟨b, off, rfl, hL⟩ := h hn
  have hlt := World.block_lt_of_cell? w _ (hL 0 hn).1
  exact ⟨b, off, rfl, hL.below hb hlt⟩

set_option maxHeartbeats 1000000 in
theorem choose_empty (A : Option Addr) (cap : Nat) (draw : Int) (w : World) :
    Calls Try.prog 8 #[.slice A 0 cap, .int .u32 draw] w fun e w' => e = .returned (.tuple #[ent 0 0 0, .bool false]) ∧ Below w.heap.size w w' := by
  go_enter Try.func8, Try.ntmps8
  go_wp2
  refine wp_loop_rounds 1 ?_
  rw [rounds_succ]
  go_wp2
  exact bodyPost_ret (v := .tuple #[ent 0 0 0, .bool false]) (by simp [results, Try.results8, go_sem]) rfl
    ⟨rfl, ((Below.refl _ _).alloc (Nat.le_refl _) _).alloc (by simp) _⟩

theorem choose_any (A : Option Addr) (n cap : Nat) (L : Nat → Ld) (draw : Int) (w : World) (hL : Sl w A n L) (hk : Kinds n L) (hn1 : n ≤ 1001) (hd0 : 0 ≤ draw) (hd1 : draw ≤ 4294967295) :
    Calls Try.prog 8 #[.slice A n cap, .int .u32 draw] w fun e w' => e = .returned (.tuple #[chosen (chooseOf n L draw), .bool (chooseOf n L draw).isSome]) ∧ Below w.heap.size w w' := by
  rcases Nat.eq_zero_or_pos n with rfl | hn
  · exact choose_empty A cap draw w
  · obtain ⟨b, off, rfl, h⟩ := hL hn
    exact choose_calls b off n cap L draw w h hk hn hn1 hd0 hd1

def ofL (l : List Ld) : Nat → Ld := fun i => l.getD i ⟨0, 0, 0, 0⟩

theorem alloc_at_ {w : World} {B : Nat} (h : w.heap.size = B) (o : Obj) : (w.alloc o).heap[B]? = some o := h ▸ heap_alloc_new w o

theorem Sl_one' {w : World} {B : Nat} (a : Ld) (h : w.heap[B]? = some (.cells #[.int .i64 a.keys, .int .i64 a.reads, .int .i64 a.writes, .int .u8 a.kind] 30 (0, 0))) : Sl w (some ⟨B, 0, none⟩) 1 (ofL [a]) := fun _ => by
  refine ⟨_, _, rfl, fun i hi => ?_⟩
  obtain rfl : i = 0 := by omega
  all_goals simp [World.cell?, h, ofL]

theorem Sl_one (w : World) (a : Ld) : Sl (w.alloc (.cells #[.int .i64 a.keys, .int .i64 a.reads, .int .i64 a.writes, .int .u8 a.kind] 30)) (some ⟨w.heap.size, 0, none⟩) 1 (ofL [a]) := Sl_one' a (heap_alloc_new w _)

theorem Sl_two' {w : World} {B : Nat} (a b : Ld) (h : w.heap[B]? = some (.cells #[.int .i64 a.keys, .int .i64 a.reads, .int .i64 a.writes, .int .u8 a.kind, .int .i64 b.keys, .int .i64 b.reads, .int .i64 b.writes, .int .u8 b.kind] 30 (0, 0))) : Sl w (some ⟨B, 0, none⟩) 2 (ofL [a, b]) := fun _ => by
  refine ⟨_, _, rfl, fun i hi => ?_⟩
  obtain rfl | rfl : i = 0 ∨ i = 1 := by omega
  all_goals simp [World.cell?, h, ofL]

theorem Sl_two (w : World) (a b : Ld) : Sl (w.alloc (.cells #[.int .i64 a.keys, .int .i64 a.reads, .int .i64 a.writes, .int .u8 a.kind, .int .i64 b.keys, .int .i64 b.reads, .int .i64 b.writes, .int .u8 b.kind] 30)) (some ⟨w.heap.size, 0, none⟩) 2 (ofL [a, b]) := Sl_two' a b (heap_alloc_new w _)

theorem Sl_three' {w : World} {B : Nat} (a b c : Ld) (h : w.heap[B]? = some (.cells #[.int .i64 a.keys, .int .i64 a.reads, .int .i64 a.writes, .int .u8 a.kind, .int .i64 b.keys, .int .i64 b.reads, .int .i64 b.writes, .int .u8 b.kind, .int .i64 c.keys, .int .i64 c.reads, .int .i64 c.writes, .int .u8 c.kind] 30 (0, 0))) : Sl w (some ⟨B, 0, none⟩) 3 (ofL [a, b, c]) := fun _ => by
  refine ⟨_, _, rfl, fun i hi => ?_⟩
  obtain rfl | rfl | rfl : i = 0 ∨ i = 1 ∨ i = 2 := by omega
  all_goals simp [World.cell?, h, ofL]

theorem Sl_three (w : World) (a b c : Ld) : Sl (w.alloc (.cells #[.int .i64 a.keys, .int .i64 a.reads, .int .i64 a.writes, .int .u8 a.kind, .int .i64 b.keys, .int .i64 b.reads, .int .i64 b.writes, .int .u8 b.kind, .int .i64 c.keys, .int .i64 c.reads, .int .i64 c.writes, .int .u8 c.kind] 30)) (some ⟨w.heap.size, 0, none⟩) 3 (ofL [a, b, c]) := Sl_three' a b c (heap_alloc_new w _)

theorem Kinds_of (l : List Ld) (h : l.all (fun x => decide (0 ≤ x.kind) && decide (x.kind ≤ 255)) = true) : Kinds l.length (ofL l) := by
  intro i hi
  have := List.all_eq_true.1 h l[i] (List.getElem_mem hi)
  simp only [Bool.and_eq_true, decide_eq_true_eq] at this
  simpa [ofL, List.getD_eq_getElem?_getD, List.getElem?_eq_getElem hi] using this

/-- Choose at some loads of which all is known. -/
theorem choose_known (l : List Ld) (r : Option (Int × Int × Int)) (draw : Int) {A : Option Addr} {cap : Nat} {w : World} (hL : Sl w A l.length (ofL l)) (hr : chooseOf l.length (ofL l) draw = r)
    (hk : l.all (fun x => decide (0 ≤ x.kind) && decide (x.kind ≤ 255)) = true) (hn : l.length ≤ 1001) (hd0 : 0 ≤ draw) (hd1 : draw ≤ 4294967295) :
    Calls Try.prog 8 #[.slice A l.length cap, .int .u32 draw] w fun e w' => e = .returned (.tuple #[chosen r, .bool r.isSome]) ∧ Below w.heap.size w w' := by
  subst hr
  exact choose_any A _ cap _ draw w hL (Kinds_of l hk) hn hd0 hd1

set_option maxHeartbeats 1000000 in
theorem awake_calls (w : World) : Calls Try.prog 9 #[] w fun e w' => e = .returned (.bool true) ∧ Below w.heap.size w w' := by
  go_enter Try.func9, Try.ntmps9
  go_wp2_with fail
  refine (choose_known [⟨10, 5, 0, 2⟩, ⟨10, 1, 1, 2⟩] (some (4, 0, 0)) 0 (Sl_two _ _ _) (by decide) (by decide) (by decide) (by omega) (by omega)).mono ?_
  rintro e w1 ⟨rfl, hb⟩
  simp only [chosen, Option.isSome]
  go_wp2
  go_ret
  exact ⟨rfl, (((Below.refl _ _).alloc (Nat.le_refl _) _).trans (hb.mono (by simp))).alloc (Nat.le_trans (by simp) hb.size) _⟩

/-- Below, and nothing has gone: for a chain of steps. -/
def Bl (w W : World) : Prop := Below w.heap.size w W ∧ w.heap.size ≤ W.heap.size
theorem Bl.refl (w : World) : Bl w w := ⟨Below.refl _ _, Nat.le_refl _⟩
theorem Bl.alloc {w W : World} (h : Bl w W) (o : Obj) : Bl w (W.alloc o) := ⟨h.1.alloc h.2 o, Nat.le_trans h.2 (by simp)⟩
theorem Bl.drew {w W : World} (h : Bl w W) : Bl w W.drew := ⟨h.1.drew, h.2⟩
theorem Bl.drewN {w W : World} (h : Bl w W) (n : Nat) : Bl w (W.drewN n) := ⟨below_drewN h.1 n, h.2⟩
theorem Bl.then_ {w W W' : World} (h : Bl w W) (hb : Below W.heap.size W W') : Bl w W' := ⟨h.1.trans (hb.mono h.2), Nat.le_trans h.2 hb.size⟩

/-- A block that holds an order. -/
def EntAt (w : World) (B : Nat) (k a b : Int) : Prop :=
  w.heap[B]? = some (.cells #[.int .u8 k, .int .i64 a, .int .i64 b, .int .u8 0, .string ⟨#[]⟩, .string ⟨#[]⟩, .string ⟨#[]⟩, .bool false, .bool false, .slice none 0 0] 26 (0, 0))

theorem EntAt.new (w : World) (k a b : Int) : EntAt (w.alloc (.cells #[.int .u8 k, .int .i64 a, .int .i64 b, .int .u8 0, .string ⟨#[]⟩, .string ⟨#[]⟩, .string ⟨#[]⟩, .bool false, .bool false, .slice none 0 0] 26)) w.heap.size k a b := heap_alloc_new w _

theorem EntAt.lt {w : World} {B : Nat} {k a b : Int} (h : EntAt w B k a b) : B < w.heap.size := by
  rcases Nat.lt_or_ge B w.heap.size with hlt | hge
  · exact hlt
  · unfold EntAt at h; rw [Array.getElem?_eq_none hge] at h; cases h

theorem EntAt.below {w w' : World} {B : Nat} {k a b : Int} (h : EntAt w B k a b) (hb : Below w.heap.size w w') : EntAt w' B k a b := (hb.block B h.lt).trans h
theorem EntAt.alloc {w : World} {B : Nat} {k a b : Int} (h : EntAt w B k a b) (o : Obj) : EntAt (w.alloc o) B k a b := (Below.heap_alloc w o B h.lt).trans h
theorem EntAt.drewN {w : World} {B : Nat} {k a b : Int} (h : EntAt w B k a b) (n : Nat) : EntAt (w.drewN n) B k a b := h

theorem EntAt.cells {w : World} {B : Nat} {k a b : Int} (h : EntAt w B k a b) :
    w.cell? ⟨B, 0, none⟩ = some (.int .u8 k) ∧ w.cell? ⟨B, 1, none⟩ = some (.int .i64 a) ∧ w.cell? ⟨B, 2, none⟩ = some (.int .i64 b) ∧ w.cell? ⟨B, 3, none⟩ = some (.int .u8 0) ∧ w.cell? ⟨B, 4, none⟩ = some (.string ⟨#[]⟩) ∧
    w.cell? ⟨B, 5, none⟩ = some (.string ⟨#[]⟩) ∧ w.cell? ⟨B, 6, none⟩ = some (.string ⟨#[]⟩) ∧ w.cell? ⟨B, 7, none⟩ = some (.bool false) ∧ w.cell? ⟨B, 8, none⟩ = some (.bool false) ∧ w.cell? ⟨B, 9, none⟩ = some (.slice none 0 0) := by
  unfold EntAt at h
  simp [World.cell?, h]

theorem Sl.alloc {w : World} {A : Option Addr} {n : Nat} {L : Nat → Ld} (h : Sl w A n L) (o : Obj) : Sl (w.alloc o) A n L := h.below ((Below.refl _ _).alloc (Nat.le_refl _) o)

end Go.Proofs.Yticnnjcpmiakgaa
