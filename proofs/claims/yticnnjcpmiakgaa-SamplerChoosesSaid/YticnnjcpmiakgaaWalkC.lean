/-
  Walks over the sampler's laws: equal, at two orders that are one.
-/
import Derived.Test.YticnnjcpmiakgaaWalkB
import Derived.Deep.DeepCutAuto
namespace Go.Proofs.Yticnnjcpmiakgaa
open Go.RowKit

/-- An order as a value: its kind, its numbers; no operation. -/
abbrev ent (k a b : Int) : Value :=
  .agg #[.int .u8 k, .int .i64 a, .int .i64 b, .int .u8 0, .string ⟨#[]⟩, .string ⟨#[]⟩, .string ⟨#[]⟩, .bool false, .bool false, .slice none 0 0]

set_option maxHeartbeats 1000000 in
theorem equal_calls (k a b : Int) (w : World) :
    Calls Try.prog 10 #[ent k a b, ent k a b] w fun e w' => e = .returned (.bool true) ∧ Below w.heap.size w w' := by
  go_enter Try.func10, Try.ntmps10
  go_wp2
  go_ret
  exact ⟨rfl, ((Below.refl _ _).alloc (Nat.le_refl _) _).alloc (by simp) _⟩

/-- The loads of a slice, where they lie. -/
def Lds (w : World) (b off n : Nat) (L : Nat → Ld) : Prop :=
  ∀ i, i < n → w.cell? ⟨b, off + i * 4, none⟩ = some (.int .i64 (L i).keys) ∧ w.cell? ⟨b, off + i * 4 + 1, none⟩ = some (.int .i64 (L i).reads) ∧
    w.cell? ⟨b, off + i * 4 + 2, none⟩ = some (.int .i64 (L i).writes) ∧ w.cell? ⟨b, off + i * 4 + 3, none⟩ = some (.int .u8 (L i).kind)

theorem Lds.below {w w' : World} {b off n M : Nat} {L : Nat → Ld} (h : Lds w b off n L) (hb : Below M w w') (hM : b < M) : Lds w' b off n L := by
  intro i hi
  obtain ⟨h0, h1, h2, h3⟩ := h i hi
  exact ⟨(hb.cell (p := ⟨b, _, none⟩) hM).trans h0, (hb.cell (p := ⟨b, _, none⟩) hM).trans h1, (hb.cell (p := ⟨b, _, none⟩) hM).trans h2, (hb.cell (p := ⟨b, _, none⟩) hM).trans h3⟩

theorem at_rel {w0 w : World} {b off n cap B M : Nat} {L : Nat → Ld} (j : Int) (hL : Lds w0 b off n L) (hs : w0.cell? ⟨B, 0, none⟩ = some (.slice (some ⟨b, off, none⟩) n cap)) (hb : Below M w0 w)
    (hM : M ≤ w.heap.size) (hbM : b < M) (hBM : B < M) (h0 : 0 ≤ j) (h1 : j < n) :
    Calls Try.prog 12 #[.int .i64 j, .pointer (some ⟨B, 0, none⟩)] w fun e w' =>
      e = .returned (.agg #[.int .i64 (hold (L j.toNat).keys), .int .i64 (hold (L j.toNat).reads), .int .i64 (hold (L j.toNat).writes), .int .u8 (L j.toNat).kind]) ∧ Below M w0 w' ∧ M ≤ w'.heap.size := by
  obtain ⟨i, rfl⟩ := Int.eq_ofNat_of_zero_le h0
  obtain ⟨c0, c1, c2, c3⟩ := (hL.below hb hbM) i (by omega)
  rw [Int.toNat_natCast]
  refine (at_calls b off i n cap B _ _ _ _ w ((hb.cell (p := ⟨B, 0, none⟩) hBM).trans hs) (by omega) c0 c1 c2 c3).mono fun e w' ⟨he, hw⟩ => ⟨he, hb.trans (hw.mono hM), Nat.le_trans hM hw.size⟩

theorem weight_rel {w0 w : World} {M : Nat} (k r x d : Int) (hb : Below M w0 w) (hM : M ≤ w.heap.size) :
    Calls Try.prog 14 #[.agg #[.int .i64 (hold k), .int .i64 (hold r), .int .i64 (hold x), .int .u8 d]] w fun e w' => e = .returned (.int .i64 (hold r + hold x)) ∧ Below M w0 w' ∧ M ≤ w'.heap.size :=
  (weight_calls _ _ _ _ w (hold_bd _).1 (hold_bd _).2 (hold_bd _).1 (hold_bd _).2).mono fun _ _ ⟨he, hw⟩ => ⟨he, hb.trans (hw.mono hM), Nat.le_trans hM hw.size⟩

/-- What is chosen, as a value. -/
def chosen : Option (Int × Int × Int) → Value
  | none => ent 0 0 0
  | some (k, a, b) => ent k a b

theorem hotOf_hit (L : Nat → Ld) (k : Nat) (h : hold (L (hotOf L k)).reads + hold (L (hotOf L k)).writes < hold (L k).reads + hold (L k).writes) : hotOf L (k + 1) = k := by
  rw [hotOf, if_pos]; exact h
theorem hotOf_miss (L : Nat → Ld) (k : Nat) (h : hold (L k).reads + hold (L k).writes ≤ hold (L (hotOf L k)).reads + hold (L (hotOf L k)).writes) : hotOf L (k + 1) = hotOf L k := by
  rw [hotOf, if_neg]; unfold Ld.weight; omega

abbrev ent0 : Array Value := #[.int .u8 0, .int .i64 0, .int .i64 0, .int .u8 0, .string ⟨#[]⟩, .string ⟨#[]⟩, .string ⟨#[]⟩, .bool false, .bool false, .slice none 0 0]

/-- The cells of a block that holds an order that says nothing. -/
structure Ent0 (w : World) (B : Nat) : Prop where
  c0 : w.cell? ⟨B, 0, none⟩ = some (.int .u8 0)
  c1 : w.cell? ⟨B, 1, none⟩ = some (.int .i64 0)
  c2 : w.cell? ⟨B, 2, none⟩ = some (.int .i64 0)
  c3 : w.cell? ⟨B, 3, none⟩ = some (.int .u8 0)
  c4 : w.cell? ⟨B, 4, none⟩ = some (.string ⟨#[]⟩)
  c5 : w.cell? ⟨B, 5, none⟩ = some (.string ⟨#[]⟩)
  c6 : w.cell? ⟨B, 6, none⟩ = some (.string ⟨#[]⟩)
  c7 : w.cell? ⟨B, 7, none⟩ = some (.bool false)
  c8 : w.cell? ⟨B, 8, none⟩ = some (.bool false)
  c9 : w.cell? ⟨B, 9, none⟩ = some (.slice none 0 0)
  fz : ∀ i, w.frozen? ⟨B, i, none⟩ = false

theorem Ent0.of {w : World} {B : Nat} (h : w.heap[B]? = some (.cells ent0 26 (0, 0))) : Ent0 w B := by
  constructor <;> simp [World.cell?, World.frozen?, h]

theorem keep13 {w0 w2 W w'' : World} {X B M : Nat} {a0 a1 a2 a3 sl : Value} (y0 : W.cell? ⟨X, 0, none⟩ = some a0) (y1 : W.cell? ⟨X, 1, none⟩ = some a1) (y2 : W.cell? ⟨X, 2, none⟩ = some a2) (y3 : W.cell? ⟨X, 3, none⟩ = some a3)
    (ys : W.cell? ⟨B, 0, none⟩ = some sl) (yb : Below M w0 W) (yc : Below (X + 1) w2 W) (yd : X + 1 ≤ W.heap.size) (yM : M ≤ W.heap.size) (hbb : Below W.heap.size W w'') :
    w''.cell? ⟨X, 0, none⟩ = some a0 ∧ w''.cell? ⟨X, 1, none⟩ = some a1 ∧ w''.cell? ⟨X, 2, none⟩ = some a2 ∧ w''.cell? ⟨X, 3, none⟩ = some a3 ∧ w''.cell? ⟨B, 0, none⟩ = some sl ∧
      Below M w0 w'' ∧ Below (X + 1) w2 w'' ∧ X + 1 ≤ w''.heap.size ∧ M ≤ w''.heap.size := by
  have hB := World.block_lt_of_cell? W _ ys
  simp only at hB
  exact ⟨(hbb.cell (p := ⟨X, 0, none⟩) yd).trans y0, (hbb.cell (p := ⟨X, 1, none⟩) yd).trans y1, (hbb.cell (p := ⟨X, 2, none⟩) yd).trans y2, (hbb.cell (p := ⟨X, 3, none⟩) yd).trans y3, (hbb.cell (p := ⟨B, 0, none⟩) hB).trans ys,
    yb.trans (hbb.mono yM), yc.trans (hbb.mono yd), Nat.le_trans yd hbb.size, Nat.le_trans yM hbb.size⟩

structure S13 (w0 w2 : World) (X B M : Nat) (a0 a1 a2 a3 sl : Value) (W : World) : Prop where
  y0 : W.cell? ⟨X, 0, none⟩ = some a0
  y1 : W.cell? ⟨X, 1, none⟩ = some a1
  y2 : W.cell? ⟨X, 2, none⟩ = some a2
  y3 : W.cell? ⟨X, 3, none⟩ = some a3
  ys : W.cell? ⟨B, 0, none⟩ = some sl
  yb : Below M w0 W
  yc : Below (X + 1) w2 W
  yd : X + 1 ≤ W.heap.size
  ye : M ≤ W.heap.size

theorem S13.step {w0 w2 W w'' : World} {X B M : Nat} {a0 a1 a2 a3 sl : Value} (h : S13 w0 w2 X B M a0 a1 a2 a3 sl W) (hbb : Below W.heap.size W w'') : S13 w0 w2 X B M a0 a1 a2 a3 sl w'' := by
  obtain ⟨y0, y1, y2, y3, ys, yb, yc, yd, ye⟩ := h
  obtain ⟨z0, z1, z2, z3, zs, zb, zc, zd, ze⟩ := keep13 y0 y1 y2 y3 ys yb yc yd ye hbb
  exact ⟨z0, z1, z2, z3, zs, zb, zc, zd, ze⟩

theorem S13.conj {w0 w2 W : World} {X B M : Nat} {a0 a1 a2 a3 sl : Value} (h : S13 w0 w2 X B M a0 a1 a2 a3 sl W) :
    W.cell? ⟨X, 0, none⟩ = some a0 ∧ W.cell? ⟨X, 1, none⟩ = some a1 ∧ W.cell? ⟨X, 2, none⟩ = some a2 ∧ W.cell? ⟨X, 3, none⟩ = some a3 ∧ W.cell? ⟨B, 0, none⟩ = some sl ∧ Below M w0 W ∧ Below (X + 1) w2 W ∧ X + 1 ≤ W.heap.size ∧ M ≤ W.heap.size :=
  ⟨h.y0, h.y1, h.y2, h.y3, h.ys, h.yb, h.yc, h.yd, h.ye⟩

theorem otherOf_bd (kind draw : Int) : 1 ≤ otherOf kind draw ∧ otherOf kind draw ≤ 3 := by
  unfold otherOf; repeat' split
  all_goals omega

theorem run_field30 (k r x d : Int) (w : World) : (Instr.field 30 (.agg #[.int .i64 k, .int .i64 r, .int .i64 x, .int .u8 d]) 0).run Try.prog w = .ok (.int .i64 k) w := by kernel_rfl

attribute [local go_sem] run_field30

theorem joinOf_hit (L : Nat → Ld) (m n : Nat) (h : m < n) (hq : hold (L m).keys + hold (L (m + 1)).keys ≤ 4) : joinOf L m (n - m) = some m := by
  obtain ⟨j, hj⟩ : ∃ j, n - m = j + 1 := ⟨n - m - 1, by omega⟩
  rw [hj, joinOf, if_pos hq]
theorem joinOf_miss (L : Nat → Ld) (m n : Nat) (h : m < n) (hq : 4 < hold (L m).keys + hold (L (m + 1)).keys) : joinOf L m (n - m) = joinOf L (m + 1) (n - (m + 1)) := by
  obtain ⟨j, hj⟩ : ∃ j, n - m = j + 1 := ⟨n - m - 1, by omega⟩
  rw [hj, joinOf, if_neg (by omega), show n - (m + 1) = j from by omega]

set_option maxRecDepth 100000 in
set_option maxHeartbeats 4000000 in
theorem choose_calls (b off n cap : Nat) (L : Nat → Ld) (draw : Int) (w : World) (hL : Lds w b off n L) (hkd : ∀ i, i < n → 0 ≤ (L i).kind ∧ (L i).kind ≤ 255) (hn : 0 < n) (hn1 : n ≤ 1001) (hd0 : 0 ≤ draw) (hd1 : draw ≤ 4294967295) :
    Calls Try.prog 8 #[.slice (some ⟨b, off, none⟩) n cap, .int .u32 draw] w fun e w' => e = .returned (.tuple #[chosen (chooseOf n L draw), .bool (chooseOf n L draw).isSome]) ∧ Below w.heap.size w w' := by
  have hbw := World.block_lt_of_cell? w _ (hL 0 hn).1
  simp only at hbw
  go_enter Try.func8, Try.ntmps8
  go_wp2
  obtain ⟨w0, hw0⟩ : ∃ w0, w0 = (w.alloc (.cells #[.slice (some ⟨b, off, none⟩) n cap] 31)).alloc (.cells #[.int .u8 0, .int .i64 0, .int .i64 0, .int .u8 0, .string ⟨#[]⟩, .string ⟨#[]⟩, .string ⟨#[]⟩, .bool false, .bool false, .slice none 0 0] 26) := ⟨_, rfl⟩
  have hM0 : w0.heap.size = w.heap.size + 2 := by rw [hw0]; simp
  have hbel0 : Below w.heap.size w w0 := by rw [hw0]; exact ((Below.refl _ _).alloc (Nat.le_refl _) _).alloc (by simp) _
  have hs0 : w0.cell? ⟨w.heap.size, 0, none⟩ = some (.slice (some ⟨b, off, none⟩) n cap) := by
    rw [hw0, World.cell?_alloc_past _ _ _ (by simp), World.cell?_alloc_at _ _ _ _ rfl]; rfl
  have hE0 : w0.heap[w.heap.size + 1]? = some (.cells #[.int .u8 0, .int .i64 0, .int .i64 0, .int .u8 0, .string ⟨#[]⟩, .string ⟨#[]⟩, .string ⟨#[]⟩, .bool false, .bool false, .slice none 0 0] 26) := by
    rw [hw0]; have h := heap_alloc_new (w.alloc (.cells #[.slice (some ⟨b, off, none⟩) n cap] 31)) (.cells #[.int .u8 0, .int .i64 0, .int .i64 0, .int .u8 0, .string ⟨#[]⟩, .string ⟨#[]⟩, .string ⟨#[]⟩, .bool false, .bool false, .slice none 0 0] 26); simpa using h
  have hL0 : Lds w0 b off n L := hL.below hbel0 hbw
  have Hw0 := Lib.hid hw0
  have HE0 := Lib.hid hE0
  have HM0 := Lib.hid hM0
  have hM1 : w.heap.size + 2 ≤ w0.heap.size := by omega
  change Code.wp _ _ _ _ ((w.alloc (.cells #[.slice (some ⟨b, off, none⟩) n cap] 31)).alloc (.cells #[.int .u8 0, .int .i64 0, .int .i64 0, .int .u8 0, .string ⟨#[]⟩, .string ⟨#[]⟩, .string ⟨#[]⟩, .bool false, .bool false, .slice none 0 0] 26))
  rw [← hw0]
  clear hw0 hE0 hM0 hL
  go_loopw [6, 7, 9, 16] (fun hot sum _ i wr => ∃ k : Nat, k ≤ n ∧ i = .int .i64 k ∧ hot = .int .i64 (hotOf L k) ∧ sum = .int .i64 (sumOf L k) ∧ Below (w.heap.size + 2) w0 wr ∧ w.heap.size + 2 ≤ wr.heap.size)
    (fun _ _ _ i _ => n - (intOf i).toNat)
  case atStart => exact ⟨0, by omega, rfl, rfl, rfl, Below.refl _ _, hM1⟩
  case round =>
    obtain ⟨k, g1, rfl, rfl, rfl, hbel, hM⟩ := hrel
    by_cases hlt : k < n
    · have hh := hotOf_le L k
      have hhl : hotOf L k < n := by omega
      have sb := sumOf_bd L k
      have e1 := hold_bd (L k).reads
      have e2 := hold_bd (L k).writes
      have e3 := hold_bd (L (hotOf L k)).reads
      have e4 := hold_bd (L (hotOf L k)).writes
      go_wp2_with (first
        | (go_at_call 12; refine (at_rel _ hL0 hs0 (by assumption) (by assumption) (by omega) (by omega) (by omega) (by omega)).mono ?_; rintro e w' ⟨rfl, hb1, hb2⟩; simp only [Int.toNat_natCast])
        | (go_at_call 14; refine (weight_rel _ _ _ _ (by assumption) (by assumption)).mono ?_; rintro e w' ⟨rfl, hb1, hb2⟩))
      · go_roundw
        case rel => exact ⟨k + 1, by omega, by go_num, by rw [hotOf_hit L k (by assumption)], rfl, by assumption, by assumption⟩
        case measure => simp [intOf]; omega
      · go_roundw
        case rel => exact ⟨k + 1, by omega, by go_num, by rw [hotOf_miss L k (by assumption)], rfl, by assumption, by assumption⟩
        case measure => simp [intOf]; omega
    · obtain rfl : k = n := by omega
      clear hlt g1
      have sb := sumOf_bd L k
      by_cases hz : sumOf L k = 0
      · have hc0 : (sumOf L k == 0) = true := by rw [hz]; rfl
        have Hz := Lib.hid hz
        clear hz
        obtain ⟨k0, k1, k2, k3, k4, k5, k6, k7, k8, k9, kf⟩ := Ent0.of ((hbel.block (w.heap.size + 1) (by omega)).trans HE0.out)
        go_wp2
        exact bodyPost_ret (v := .tuple #[ent 0 0 0, .bool false]) (by simp [results, Try.results8, go_sem, k0, k1, k2, k3, k4, k5, k6, k7, k8, k9]) rfl
          ⟨by rw [chooseOf, if_pos Hz.out]; rfl, by
            iterate 10 (refine Below.setCell ?_ (by simp) _)
            exact hbel0.trans (hbel.mono (by omega))⟩
      · have hh := hotOf_lt L k hn
        have hc0 : (sumOf L k == 0) = false := by simpa using hz
        have Hz := Lib.hid hz
        clear hz
        have e0 := hold_bd (L (hotOf L k)).keys
        have e1 := hold_bd (L (hotOf L k)).reads
        have e2 := hold_bd (L (hotOf L k)).writes
        go_upto_region 13 with (go_at_call 12; refine (at_rel _ hL0 hs0 (by assumption) (by assumption) (by omega) (by omega) (by omega) (by omega)).mono ?_; rintro e w' ⟨rfl, hb1, hb2⟩; simp only [Int.toNat_natCast])
        obtain ⟨w2, hw2⟩ : ∃ w2, w2 = w'.alloc (.cells #[.int .i64 (hold (L (hotOf L k)).keys), .int .i64 (hold (L (hotOf L k)).reads), .int .i64 (hold (L (hotOf L k)).writes), .int .u8 (L (hotOf L k)).kind] 30) := ⟨_, rfl⟩
        have hX : w2.heap[w'.heap.size]? = some (.cells #[.int .i64 (hold (L (hotOf L k)).keys), .int .i64 (hold (L (hotOf L k)).reads), .int .i64 (hold (L (hotOf L k)).writes), .int .u8 (L (hotOf L k)).kind] 30) := by
          rw [hw2]; exact heap_alloc_new _ _
        have hb3 : Below (w.heap.size + 2) w0 w2 := by rw [hw2]; exact hb1.alloc hb2 _
        have hb4 : w'.heap.size + 1 ≤ w2.heap.size := by rw [hw2]; simp
        have hb5 : w.heap.size + 2 ≤ w2.heap.size := by omega
        rw [← hw2]
        clear hw2
        generalize w'.heap.size = X at *
        clear hb1
        have x0 : w2.cell? ⟨X, 0, none⟩ = some (.int .i64 (hold (L (hotOf L k)).keys)) := by simp [World.cell?, hX]
        have x1 : w2.cell? ⟨X, 1, none⟩ = some (.int .i64 (hold (L (hotOf L k)).reads)) := by simp [World.cell?, hX]
        have x2 : w2.cell? ⟨X, 2, none⟩ = some (.int .i64 (hold (L (hotOf L k)).writes)) := by simp [World.cell?, hX]
        have x3 : w2.cell? ⟨X, 3, none⟩ = some (.int .u8 (L (hotOf L k)).kind) := by simp [World.cell?, hX]
        have hs2 : w2.cell? ⟨w.heap.size, 0, none⟩ = some (.slice (some ⟨b, off, none⟩) k cap) := (hb3.cell (p := ⟨w.heap.size, 0, none⟩) (by simp)).trans hs0
        have HX := Lib.hid hX
        clear hX
        go_cut [58] (fun c W => c = .bool (decide (8 ≤ hold (L (hotOf L k)).keys ∧ sumOf L k - (L (hotOf L k)).weight < (L (hotOf L k)).weight ∧ k < 16)) ∧ W.cell? ⟨X, 0, none⟩ = some (.int .i64 (hold (L (hotOf L k)).keys)) ∧ W.cell? ⟨X, 1, none⟩ = some (.int .i64 (hold (L (hotOf L k)).reads)) ∧ W.cell? ⟨X, 2, none⟩ = some (.int .i64 (hold (L (hotOf L k)).writes)) ∧ W.cell? ⟨X, 3, none⟩ = some (.int .u8 (L (hotOf L k)).kind) ∧
                W.cell? ⟨w.heap.size, 0, none⟩ = some (.slice (some ⟨b, off, none⟩) k cap) ∧ Below (w.heap.size + 2) w0 W ∧ Below (X + 1) w2 W ∧ X + 1 ≤ W.heap.size ∧ w.heap.size + 2 ≤ W.heap.size)
        case first =>
          by_cases h8 : 8 ≤ hold (L (hotOf L k)).keys
          · have hws : IntKind.i64.wrap (sumOf L k - (hold (L (hotOf L k)).reads + hold (L (hotOf L k)).writes)) = sumOf L k - (hold (L (hotOf L k)).reads + hold (L (hotOf L k)).writes) := IntWalk.i64_in _ (by omega)
            by_cases hw : sumOf L k - (hold (L (hotOf L k)).reads + hold (L (hotOf L k)).writes) < hold (L (hotOf L k)).reads + hold (L (hotOf L k)).writes
            · have hdw : decide (sumOf L k - (hold (L (hotOf L k)).reads + hold (L (hotOf L k)).writes) < hold (L (hotOf L k)).reads + hold (L (hotOf L k)).writes) = true := decide_eq_true hw
              go_region_held3 (fun W => W.cell? ⟨X, 0, none⟩ = some (.int .i64 (hold (L (hotOf L k)).keys)) ∧ W.cell? ⟨X, 1, none⟩ = some (.int .i64 (hold (L (hotOf L k)).reads)) ∧ W.cell? ⟨X, 2, none⟩ = some (.int .i64 (hold (L (hotOf L k)).writes)) ∧ W.cell? ⟨X, 3, none⟩ = some (.int .u8 (L (hotOf L k)).kind) ∧
                W.cell? ⟨w.heap.size, 0, none⟩ = some (.slice (some ⟨b, off, none⟩) k cap) ∧ Below (w.heap.size + 2) w0 W ∧ Below (X + 1) w2 W ∧ X + 1 ≤ W.heap.size ∧ w.heap.size + 2 ≤ W.heap.size)
              (first | exact ⟨x0, x1, x2, x3, hs2, hb3.drew, (Below.refl _ _).drew, hb4, hb5⟩ | (go_split_ands; exact keep13 (by assumption) (by assumption) (by assumption) (by assumption) (by assumption) (by assumption) (by assumption) (by assumption) (by assumption) hbb))
              ((go_at_call 14; refine (weight_calls _ _ _ _ _ (hold_bd _).1 (hold_bd _).2 (hold_bd _).1 (hold_bd _).2).mono ?_; rintro e w'' ⟨rfl, hbb⟩))
              go_wp2_with fail
              go_meet
              go_split_ands
              exact ⟨congrArg Value.bool (decide_eq_decide.2 ⟨fun h => ⟨h8, hw, by omega⟩, fun h => by omega⟩), by assumption, by assumption, by assumption, by assumption, by assumption, by assumption, by assumption, by assumption, by assumption⟩
            · have hdw : decide (sumOf L k - (hold (L (hotOf L k)).reads + hold (L (hotOf L k)).writes) < hold (L (hotOf L k)).reads + hold (L (hotOf L k)).writes) = false := decide_eq_false hw
              have hS13 : S13 w0 w2 X w.heap.size (w.heap.size + 2) (.int .i64 (hold (L (hotOf L k)).keys)) (.int .i64 (hold (L (hotOf L k)).reads)) (.int .i64 (hold (L (hotOf L k)).writes)) (.int .u8 (L (hotOf L k)).kind) (.slice (some ⟨b, off, none⟩) k cap) w2.drew :=
                ⟨x0, x1, x2, x3, hs2, hb3.drew, (Below.refl _ _).drew, hb4, hb5⟩
              go_region_with ((go_at_call 14; refine (weight_calls _ _ _ _ _ (hold_bd _).1 (hold_bd _).2 (hold_bd _).1 (hold_bd _).2).mono ?_; rintro e w'' ⟨rfl, hbb⟩; have hT := S13.step (W := _) (by assumption) hbb; clear hbb; have hT0 := hT.y0; have hT1 := hT.y1; have hT2 := hT.y2; have hT3 := hT.y3; have hTs := hT.ys))
              all_goals
                (go_wp2_with fail
                 go_meet
                 exact ⟨congrArg Value.bool (decide_eq_false (fun h => by have h1 : sumOf L k - (hold (L (hotOf L k)).reads + hold (L (hotOf L k)).writes) < hold (L (hotOf L k)).reads + hold (L (hotOf L k)).writes := h.2.1; omega)).symm, S13.conj (by assumption)⟩)
          · have h8' : decide (8 ≤ hold (L (hotOf L k)).keys) = false := decide_eq_false h8
            have h8n := Lib.hid h8
            go_quiet (fail)
            go_wp2_with fail
            go_meet
            exact ⟨congrArg Value.bool (decide_eq_false (fun h => by have := h8n.out; have := h.1; omega)).symm, x0, x1, x2, x3, hs2, below_drewN hb3 _, below_drewN (Below.refl _ _) _, hb4, hb5⟩
        case rest =>
          clear x0 x1 x2 x3 hs2 hb4 hb5 HX
          obtain ⟨rfl, x0, x1, x2, x3, hs2, hb6, hb7, hb4, hb5⟩ := hcut
          by_cases hc : 8 ≤ hold (L (hotOf L k)).keys ∧ sumOf L k - (L (hotOf L k)).weight < (L (hotOf L k)).weight ∧ k < 16
          · have hd : decide (8 ≤ hold (L (hotOf L k)).keys ∧ sumOf L k - (L (hotOf L k)).weight < (L (hotOf L k)).weight ∧ k < 16) = true := decide_eq_true hc
            rw [hd]
            obtain ⟨k0, k1, k2, k3, k4, k5, k6, k7, k8, k9, kf⟩ := Ent0.of ((hb6.block (w.heap.size + 1) (by omega)).trans HE0.out)
            have Hc := Lib.hid hc
            clear hc hd
            go_wp2
            exact bodyPost_ret (v := .tuple #[ent 4 (hotOf L k) 0, .bool true]) (by simp [results, Try.results8, go_sem, k0, k1, k2, k3, k4, k5, k6, k7, k8, k9]) rfl
              ⟨by rw [chooseOf, if_neg Hz.out, if_pos Hc.out]; rfl, by
                iterate 10 (refine Below.setCell ?_ (by simp) _)
                exact hbel0.trans (hb6.mono (by omega))⟩
          · have hd : decide (8 ≤ hold (L (hotOf L k)).keys ∧ sumOf L k - (L (hotOf L k)).weight < (L (hotOf L k)).weight ∧ k < 16) = false := decide_eq_false hc
            rw [hd]
            have Hc := Lib.hid hc
            clear hc hd
            have hb8 : Below (w.heap.size + 2) w0 wc := by assumption
            go_wp2
            have hK1 : (k : Int) - 1 = ((k - 1 : Nat) : Int) := by omega
            have hLc : Lds wc b off k L := hL0.below hb8 (by omega)
            clear hs0 hL0
            go_loopw [11, 64] (fun _ i wr => ∃ m : Nat, m ≤ k - 1 ∧ i = .int .i64 m ∧ joinOf L 0 (k - 1) = joinOf L m (k - 1 - m) ∧ Below (X + 1) wc wr ∧ X + 1 ≤ wr.heap.size)
              (fun _ i _ => k - (intOf i).toNat)
            case atStart => exact ⟨0, by omega, rfl, rfl, Below.refl _ _, hb4⟩
            case round =>
              obtain ⟨m, g1, rfl, hj, c2, c4⟩ := hrel
              have HJ := Lib.hid hj
              clear hj
              by_cases hlt : m < k - 1
              · have f0 := hold_bd (L m).keys
                have f1 := hold_bd (L (m + 1)).keys
                have hm1 : ((m : Int) + 1).toNat = m + 1 := by omega
                by_cases hq : hold (L m).keys + hold (L (m + 1)).keys ≤ 4
                · go_wp2_with (go_at_call 12; refine (at_rel _ hLc hs2 (by assumption) (by assumption) (by omega) (by omega) (by omega) (by omega)).mono ?_; rintro e w' ⟨rfl, hb1, hb2⟩; simp only [Int.toNat_natCast, hm1]; obtain ⟨k0, k1, k2, k3, k4, k5, k6, k7, k8, k9, kf⟩ := Ent0.of (((hb8.trans (hb1.mono (by omega))).block (w.heap.size + 1) (by omega)).trans HE0.out))
                  exact bodyPost_ret (v := .tuple #[ent 5 m 0, .bool true]) (by simp [results, Try.results8, go_sem, *]) rfl
                    ⟨by rw [chooseOf, if_neg Hz.out, if_neg Hc.out, HJ.out, joinOf_hit L m (k - 1) hlt hq]; rfl, by
                      iterate 10 (refine Below.setCell ?_ (by simp) _)
                      exact hbel0.trans ((hb8.mono (by omega)).trans (Below.mono (B := X + 1) (by assumption) (by omega)))⟩
                · have hq' : 4 < hold (L m).keys + hold (L (m + 1)).keys := by omega
                  go_wp2_with (go_at_call 12; refine (at_rel _ hLc hs2 (by assumption) (by assumption) (by omega) (by omega) (by omega) (by omega)).mono ?_; rintro e w' ⟨rfl, hb1, hb2⟩; simp only [Int.toNat_natCast, hm1])
                  go_roundw
                  case rel => exact ⟨m + 1, by omega, by go_num, by rw [HJ.out, joinOf_miss L m (k - 1) hlt hq'], by assumption, by assumption⟩
                  case measure => simp [intOf]; omega
              · obtain rfl : m = k - 1 := by omega
                have HJ' : joinOf L 0 (k - 1) = none := by rw [HJ.out, Nat.sub_self, joinOf]
                have HJ2 := Lib.hid HJ'
                clear HJ HJ' hlt g1
                have z1 : wr.cell? ⟨X, 1, none⟩ = some (.int .i64 (hold (L (hotOf L k)).reads)) := (c2.cell (p := ⟨X, 1, none⟩) (by simp)).trans x1
                have z2 : wr.cell? ⟨X, 2, none⟩ = some (.int .i64 (hold (L (hotOf L k)).writes)) := (c2.cell (p := ⟨X, 2, none⟩) (by simp)).trans x2
                have z3 : wr.cell? ⟨X, 3, none⟩ = some (.int .u8 (L (hotOf L k)).kind) := (c2.cell (p := ⟨X, 3, none⟩) (by simp)).trans x3
                clear x0 x1 x2 x3 hs2
                obtain ⟨q0, q1⟩ := hkd (hotOf L k) hh
                have hoo := otherOf_bd (L (hotOf L k)).kind draw
                by_cases hwr : hold (L (hotOf L k)).reads < hold (L (hotOf L k)).writes
                · by_cases hk1 : (L (hotOf L k)).kind = 1
                  · have hkb : ((L (hotOf L k)).kind != 1) = false := by simp [hk1]
                    have HK := Lib.hid hk1
                    clear hk1
                    go_wp2_with (go_at_call 15; refine (other_calls _ _ _ (by assumption) (by assumption) (by assumption) (by assumption)).mono ?_; rintro e w' ⟨rfl, hb1⟩; obtain ⟨k0, k1, k2, k3, k4, k5, k6, k7, k8, k9, kf⟩ := Ent0.of (((hb8.trans ((c2.trans (hb1.mono c4)).mono (by omega))).block (w.heap.size + 1) (by omega)).trans HE0.out); have y1 := (hb1.cell (p := ⟨X, 1, none⟩) c4).trans z1; have y2 := (hb1.cell (p := ⟨X, 2, none⟩) c4).trans z2; have y3 := (hb1.cell (p := ⟨X, 3, none⟩) c4).trans z3)
                    exact bodyPost_ret (v := .tuple #[ent 3 (hotOf L k) (otherOf (L (hotOf L k)).kind draw), .bool true]) (by simp [results, Try.results8, go_sem, *]) rfl
                      ⟨by rw [chooseOf, if_neg Hz.out, if_neg Hc.out, HJ2.out]; simp only [chosen, Option.isSome]; rw [toOf, if_neg (fun h => h.2 HK.out)], by
                        iterate 10 (refine Below.setCell ?_ (by simp) _)
                        exact hbel0.trans ((hb8.mono (by omega)).trans ((c2.mono (by omega)).trans (Below.mono (B := wr.heap.size) (by assumption) (by omega))))⟩
                  · have hkb : ((L (hotOf L k)).kind != 1) = true := by simp [hk1]
                    have HK := Lib.hid hk1
                    clear hk1
                    go_wp2_with (go_at_call 15; refine (other_calls _ _ _ (by assumption) (by assumption) (by assumption) (by assumption)).mono ?_; rintro e w' ⟨rfl, hb1⟩; obtain ⟨k0, k1, k2, k3, k4, k5, k6, k7, k8, k9, kf⟩ := Ent0.of (((hb8.trans ((c2.trans (hb1.mono c4)).mono (by omega))).block (w.heap.size + 1) (by omega)).trans HE0.out); have y1 := (hb1.cell (p := ⟨X, 1, none⟩) c4).trans z1; have y2 := (hb1.cell (p := ⟨X, 2, none⟩) c4).trans z2; have y3 := (hb1.cell (p := ⟨X, 3, none⟩) c4).trans z3)
                    exact bodyPost_ret (v := .tuple #[ent 3 (hotOf L k) (1), .bool true]) (by simp [results, Try.results8, go_sem, *]) rfl
                      ⟨by rw [chooseOf, if_neg Hz.out, if_neg Hc.out, HJ2.out]; simp only [chosen, Option.isSome]; rw [toOf, if_pos ⟨hwr, HK.out⟩], by
                        iterate 10 (refine Below.setCell ?_ (by simp) _)
                        exact hbel0.trans ((hb8.mono (by omega)).trans ((c2.mono (by omega)).trans (Below.mono (B := wr.heap.size) (by assumption) (by omega))))⟩
                · go_wp2_with (go_at_call 15; refine (other_calls _ _ _ (by assumption) (by assumption) (by assumption) (by assumption)).mono ?_; rintro e w' ⟨rfl, hb1⟩; obtain ⟨k0, k1, k2, k3, k4, k5, k6, k7, k8, k9, kf⟩ := Ent0.of (((hb8.trans ((c2.trans (hb1.mono c4)).mono (by omega))).block (w.heap.size + 1) (by omega)).trans HE0.out); have y1 := (hb1.cell (p := ⟨X, 1, none⟩) c4).trans z1; have y2 := (hb1.cell (p := ⟨X, 2, none⟩) c4).trans z2; have y3 := (hb1.cell (p := ⟨X, 3, none⟩) c4).trans z3)
                  exact bodyPost_ret (v := .tuple #[ent 3 (hotOf L k) (otherOf (L (hotOf L k)).kind draw), .bool true]) (by simp [results, Try.results8, go_sem, *]) rfl
                    ⟨by rw [chooseOf, if_neg Hz.out, if_neg Hc.out, HJ2.out]; simp only [chosen, Option.isSome]; rw [toOf, if_neg (fun h => by omega)], by
                      iterate 10 (refine Below.setCell ?_ (by simp) _)
                      exact hbel0.trans ((hb8.mono (by omega)).trans ((c2.mono (by omega)).trans (Below.mono (B := wr.heap.size) (by assumption) (by omega))))⟩

end Go.Proofs.Yticnnjcpmiakgaa
