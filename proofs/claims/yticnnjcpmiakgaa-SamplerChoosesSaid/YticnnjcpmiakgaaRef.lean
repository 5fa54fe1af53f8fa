/-
  The walk over the reference's Choose: it answers what the program's does.
-/
import Derived.Test.YticnnjcpmiakgaaWalkD
import Derived.Deep.DeepCutAuto
namespace Go.Proofs.Yticnnjcpmiakgaa
open Go.RowKit

theorem refweight_rel {w0 w : World} {M : Nat} (k r x d : Int) (hb : Below M w0 w) (hM : M ≤ w.heap.size) :
    Calls Try.prog 16 #[.agg #[.int .i64 k, .int .i64 r, .int .i64 x, .int .u8 d]] w fun e w' => e = .returned (.int .i64 (hold r + hold x)) ∧ Below M w0 w' ∧ M ≤ w'.heap.size :=
  (refweight_calls _ _ _ _ w).mono fun _ _ ⟨he, hw⟩ => ⟨he, hb.trans (hw.mono hM), Nat.le_trans hM hw.size⟩

/-- The place of the one that is asked most, as the reference keeps it: none at first. -/
def hotR (L : Nat → Ld) (k : Nat) : Int := if k = 0 then -1 else hotOf L k
theorem hotR_zero (L : Nat → Ld) : hotR L 0 = -1 := rfl
theorem hotR_pos (L : Nat → Ld) (k : Nat) (h : 0 < k) : hotR L k = hotOf L k := if_neg (by omega)

theorem hotR_one (L : Nat → Ld) : hotR L 1 = 0 := by simp [hotR, hotOf]
theorem hotR_hit (L : Nat → Ld) (k : Nat) (h : (L (hotOf L k)).weight < (L k).weight) : hotR L (k + 1) = k := by rw [hotR_pos L _ (by omega), hotOf, if_pos h]
theorem hotR_miss (L : Nat → Ld) (k : Nat) (h : ¬ (L (hotOf L k)).weight < (L k).weight) : hotR L (k + 1) = hotOf L k := by rw [hotR_pos L _ (by omega), hotOf, if_neg h]

theorem EntAt.frozen {w : World} {B : Nat} {k a b : Int} (h : EntAt w B k a b) : ∀ i, w.frozen? ⟨B, i, none⟩ = false := fun i => by
  unfold EntAt at h
  simp [World.frozen?, h]

/-- Four cells of a load. -/
structure At4 (W : World) (b o : Nat) (x : Ld) : Prop where
  c0 : W.cell? ⟨b, o, none⟩ = some (.int .i64 x.keys)
  c1 : W.cell? ⟨b, o + 1, none⟩ = some (.int .i64 x.reads)
  c2 : W.cell? ⟨b, o + 2, none⟩ = some (.int .i64 x.writes)
  c3 : W.cell? ⟨b, o + 3, none⟩ = some (.int .u8 x.kind)

theorem Lds.at4 {W : World} {b off n : Nat} {L : Nat → Ld} (h : Lds W b off n L) (i : Nat) (hi : i < n) : At4 W b (off + i * 4) (L i) := by
  obtain ⟨h0, h1, h2, h3⟩ := h i hi
  exact ⟨h0, h1, h2, h3⟩

theorem keepR {w0 W w'' : World} {b off n i j M : Nat} {L : Nat → Ld} (hL0 : Lds w0 b off n L) (hbM : b < M) (hi : i < n) (hj : j < n) (yb : Below M w0 W) (yM : M ≤ W.heap.size) (hbb : Below W.heap.size W w'') :
    w''.cell? ⟨b, off + i * 4, none⟩ = some (.int .i64 (L i).keys) ∧ w''.cell? ⟨b, off + i * 4 + 1, none⟩ = some (.int .i64 (L i).reads) ∧ w''.cell? ⟨b, off + i * 4 + 2, none⟩ = some (.int .i64 (L i).writes) ∧ w''.cell? ⟨b, off + i * 4 + 3, none⟩ = some (.int .u8 (L i).kind) ∧
    w''.cell? ⟨b, off + j * 4, none⟩ = some (.int .i64 (L j).keys) ∧ w''.cell? ⟨b, off + j * 4 + 1, none⟩ = some (.int .i64 (L j).reads) ∧ w''.cell? ⟨b, off + j * 4 + 2, none⟩ = some (.int .i64 (L j).writes) ∧ w''.cell? ⟨b, off + j * 4 + 3, none⟩ = some (.int .u8 (L j).kind) ∧
    Below M w0 w'' ∧ M ≤ w''.heap.size := by
  have hb := yb.trans (hbb.mono yM)
  obtain ⟨y0, y1, y2, y3⟩ := (hL0.below hb hbM).at4 i hi
  obtain ⟨z0, z1, z2, z3⟩ := (hL0.below hb hbM).at4 j hj
  exact ⟨y0, y1, y2, y3, z0, z1, z2, z3, hb, Nat.le_trans yM hbb.size⟩

set_option maxRecDepth 100000 in
set_option maxHeartbeats 4000000 in
theorem ref_calls (b off n cap : Nat) (L : Nat → Ld) (draw : Int) (w : World) (hL : Lds w b off n L) (hkd : Kinds n L) (hn : 0 < n) (hn1 : n ≤ 1001) (hd0 : 0 ≤ draw) (hd1 : draw ≤ 4294967295) :
    Calls Try.prog 11 #[.slice (some ⟨b, off, none⟩) n cap, .int .u32 draw] w fun e w' => e = .returned (.tuple #[chosen (chooseOf n L draw), .bool (chooseOf n L draw).isSome]) ∧ Below w.heap.size w w' := by
  have hbw := World.block_lt_of_cell? w _ (hL 0 hn).1
  simp only at hbw
  go_enter Try.func11, Try.ntmps11
  go_wp2
  obtain ⟨w0, hw0⟩ : ∃ w0, w0 = w.alloc (.cells #[.int .u8 0, .int .i64 0, .int .i64 0, .int .u8 0, .string ⟨#[]⟩, .string ⟨#[]⟩, .string ⟨#[]⟩, .bool false, .bool false, .slice none 0 0] 26) := ⟨_, rfl⟩
  have hbel0 : Bl w w0 := by rw [hw0]; exact (Bl.refl w).alloc _
  have hE0 : EntAt w0 w.heap.size 0 0 0 := by rw [hw0]; exact EntAt.new w 0 0 0
  have hL0 : Lds w0 b off n L := hL.below hbel0.1 hbw
  have hM1 : w.heap.size + 1 ≤ w0.heap.size := by rw [hw0]; simp
  rw [← hw0]
  have HE0 := Lib.hid hE0
  clear hw0 hL hE0
  go_loopw [6, 7, 8] (fun all hot i wr => ∃ k : Nat, k ≤ n ∧ i = .int .i64 k ∧ hot = .int .i64 (hotR L k) ∧ all = .int .i64 (sumOf L k) ∧ Below (w.heap.size + 1) w0 wr ∧ w.heap.size + 1 ≤ wr.heap.size)
    (fun _ _ i _ => n - (intOf i).toNat)
  case atStart => exact ⟨0, by omega, rfl, rfl, rfl, Below.refl _ _, hM1⟩
  case round =>
    obtain ⟨k, g1, rfl, rfl, rfl, hbel, hM⟩ := hrel
    by_cases hlt : k < n
    · have sb := sumOf_bd L k
      have e1 := hold_bd (L k).reads
      have e2 := hold_bd (L k).writes
      have hbM : b < w.heap.size + 1 := by omega
      obtain ⟨c0, c1, c2, c3⟩ := (hL0.below hbel hbM).at4 k hlt
      rcases Nat.eq_zero_or_pos k with rfl | hp
      · rw [hotR_zero]
        rw [Nat.zero_mul, Nat.add_zero] at c0 c1 c2 c3
        go_upto_region 7 with (go_at_call 16; refine (refweight_rel _ _ _ _ (by assumption) (by assumption)).mono ?_; rintro e w' ⟨rfl, hb1, hb2⟩)
        go_quiet (fail)
        go_wp2_with fail
        go_roundw
        case rel => exact ⟨1, by omega, by go_num, by rw [hotR_one], by simp [sumOf, Ld.weight], below_drewN (by assumption) _, by assumption⟩
        case measure => simp [intOf]; omega
      · rw [hotR_pos L k hp]
        have hh := hotOf_lt L k hp
        have e3 := hold_bd (L (hotOf L k)).reads
        have e4 := hold_bd (L (hotOf L k)).writes
        go_upto_region 7 with (go_at_call 16; refine (refweight_rel _ _ _ _ (by assumption) (by assumption)).mono ?_; rintro e w' ⟨rfl, hb1, hb2⟩)
        have hl0 : decide ((hotOf L k : Int) < 0) = false := decide_eq_false (by omega)
        have hx0 : (0 : Int) ≤ (k : Int) := by omega
        have hx1 : (k : Int) < (n : Int) := by omega
        have hx2 : (0 : Int) ≤ (hotOf L k : Int) := by omega
        have hx3 : (hotOf L k : Int) < (n : Int) := by omega
        obtain ⟨y0, y1, y2, y3⟩ := (hL0.below hb1 hbM).at4 k hlt
        obtain ⟨z0, z1, z2, z3⟩ := (hL0.below hb1 hbM).at4 (hotOf L k) (by omega)
        go_cut [40] (fun c W => c = .bool (decide ((L (hotOf L k)).weight < (L k).weight)) ∧ Below (w.heap.size + 1) w0 W ∧ w.heap.size + 1 ≤ W.heap.size)
        case first =>
          go_region_held3 (fun W => W.cell? ⟨b, off + k * 4, none⟩ = some (.int .i64 (L k).keys) ∧ W.cell? ⟨b, off + k * 4 + 1, none⟩ = some (.int .i64 (L k).reads) ∧ W.cell? ⟨b, off + k * 4 + 2, none⟩ = some (.int .i64 (L k).writes) ∧ W.cell? ⟨b, off + k * 4 + 3, none⟩ = some (.int .u8 (L k).kind) ∧ W.cell? ⟨b, off + hotOf L k * 4, none⟩ = some (.int .i64 (L (hotOf L k)).keys) ∧ W.cell? ⟨b, off + hotOf L k * 4 + 1, none⟩ = some (.int .i64 (L (hotOf L k)).reads) ∧ W.cell? ⟨b, off + hotOf L k * 4 + 2, none⟩ = some (.int .i64 (L (hotOf L k)).writes) ∧ W.cell? ⟨b, off + hotOf L k * 4 + 3, none⟩ = some (.int .u8 (L (hotOf L k)).kind) ∧ Below (w.heap.size + 1) w0 W ∧ w.heap.size + 1 ≤ W.heap.size)
            (first | exact ⟨y0, y1, y2, y3, z0, z1, z2, z3, hb1.drew, hb2⟩ | (go_split_ands; exact keepR hL0 hbM hlt (by omega) (by assumption) (by assumption) hbb))
            ((go_at_call 16; refine (refweight_calls _ _ _ _ _).mono ?_; rintro e w'' ⟨rfl, hbb⟩))
          go_wp2_with fail
          go_meet
          go_split_ands
          exact ⟨rfl, by assumption, by assumption⟩
        case rest =>
          obtain ⟨rfl, d1, d2⟩ := hcut
          by_cases hw : (L (hotOf L k)).weight < (L k).weight
          · rw [decide_eq_true hw]
            go_wp2
            go_roundw
            case rel => exact ⟨k + 1, by omega, by go_num, by rw [hotR_hit L k hw], rfl, d1, d2⟩
            case measure => simp [intOf]; omega
          · rw [decide_eq_false hw]
            go_wp2
            go_roundw
            case rel => exact ⟨k + 1, by omega, by go_num, by rw [hotR_miss L k hw], rfl, d1, d2⟩
            case measure => simp [intOf]; omega
    · obtain rfl : k = n := by omega
      clear hlt g1
      rw [hotR_pos L k hn]
      have hbM : b < w.heap.size + 1 := by omega
      have hh := hotOf_lt L k hn
      have sb := sumOf_bd L k
      obtain ⟨z0, z1, z2, z3⟩ := (hL0.below hbel hbM).at4 (hotOf L k) hh
      by_cases hz : sumOf L k = 0
      · have hc0 : (sumOf L k == 0) = true := by rw [hz]; rfl
        have Hz := Lib.hid hz
        clear hz
        have hEr : EntAt wr w.heap.size 0 0 0 := (hbel.block w.heap.size (by omega)).trans HE0.out
        obtain ⟨k0, k1, k2, k3, k4, k5, k6, k7, k8, k9⟩ := hEr.cells
        have kf := hEr.frozen
        go_wp2
        exact bodyPost_ret (v := .tuple #[ent 0 0 0, .bool false]) (by simp [results, Try.results11, go_sem, *]) rfl
          ⟨by rw [chooseOf, if_pos Hz.out]; rfl, by
            iterate 10 (refine Below.setCell ?_ (by simp) _)
            exact hbel0.1.trans (hbel.mono (by omega))⟩
      · have hc0 : (sumOf L k == 0) = false := by simpa using hz
        have Hz := Lib.hid hz
        clear hz
        have e0 := hold_bd (L (hotOf L k)).keys
        have e1 := hold_bd (L (hotOf L k)).reads
        have e2 := hold_bd (L (hotOf L k)).writes
        go_upto_region 11 with fail
        go_cut [70] (fun c W => c = .bool (decide (8 ≤ hold (L (hotOf L k)).keys ∧ sumOf L k - (L (hotOf L k)).weight < (L (hotOf L k)).weight ∧ k < 16)) ∧ Below (w.heap.size + 1) w0 W ∧ w.heap.size + 1 ≤ W.heap.size)
        case first =>
          by_cases h8 : 8 ≤ hold (L (hotOf L k)).keys
          · by_cases hw : sumOf L k < 2 * (hold (L (hotOf L k)).reads + hold (L (hotOf L k)).writes)
            · go_wp2_with (first | (go_at_call 17; refine (refhold_calls _ _).mono ?_; rintro e w' ⟨rfl, rfl⟩) | (go_at_call 16; refine (refweight_rel _ _ _ _ (by assumption) (by assumption)).mono ?_; rintro e w' ⟨rfl, hb1, hb2⟩))
              go_meet
              exact ⟨congrArg Value.bool (decide_eq_decide.2 ⟨fun h => ⟨h8, by unfold Ld.weight; omega, by omega⟩, fun h => by omega⟩), by assumption, by assumption⟩
            · have hw' : 2 * (hold (L (hotOf L k)).reads + hold (L (hotOf L k)).writes) ≤ sumOf L k := by omega
              go_wp2_with (first | (go_at_call 17; refine (refhold_calls _ _).mono ?_; rintro e w' ⟨rfl, rfl⟩) | (go_at_call 16; refine (refweight_rel _ _ _ _ (by assumption) (by assumption)).mono ?_; rintro e w' ⟨rfl, hb1, hb2⟩))
              go_meet
              exact ⟨congrArg Value.bool (decide_eq_false (fun h => by have h1 := h.2.1; unfold Ld.weight at h1; omega)).symm, by assumption, by assumption⟩
          · have h8' : hold (L (hotOf L k)).keys < 8 := by omega
            go_wp2_with (first | (go_at_call 17; refine (refhold_calls _ _).mono ?_; rintro e w' ⟨rfl, rfl⟩) | (go_at_call 16; refine (refweight_rel _ _ _ _ (by assumption) (by assumption)).mono ?_; rintro e w' ⟨rfl, hb1, hb2⟩))
            go_meet
            exact ⟨congrArg Value.bool (decide_eq_false (fun h => by have h1 := h.1; omega)).symm, by assumption, by assumption⟩
        case rest =>
          obtain ⟨rfl, hb6, hb7⟩ := hcut
          by_cases hc : 8 ≤ hold (L (hotOf L k)).keys ∧ sumOf L k - (L (hotOf L k)).weight < (L (hotOf L k)).weight ∧ k < 16
          · rw [decide_eq_true hc]
            have Hc := Lib.hid hc
            clear hc
            have hEr : EntAt wc w.heap.size 0 0 0 := (hb6.block w.heap.size (by omega)).trans HE0.out
            obtain ⟨k0, k1, k2, k3, k4, k5, k6, k7, k8, k9⟩ := hEr.cells
            have kf := hEr.frozen
            go_wp2
            exact bodyPost_ret (v := .tuple #[ent 4 (hotOf L k) 0, .bool true]) (by simp [results, Try.results11, go_sem, *]) rfl
              ⟨by rw [chooseOf, if_neg Hz.out, if_pos Hc.out]; rfl, by
                iterate 10 (refine Below.setCell ?_ (by simp) _)
                exact hbel0.1.trans (hb6.mono (by omega))⟩
          · rw [decide_eq_false hc]
            have Hc := Lib.hid hc
            clear hc z0 z1 z2 z3 hbel hM
            have hLc : Lds wc b off k L := hL0.below hb6 hbM
            go_wp2
            go_loopw [9] (fun i wr => ∃ m : Nat, m ≤ k - 1 ∧ i = .int .i64 m ∧ joinOf L 0 (k - 1) = joinOf L m (k - 1 - m) ∧ Below (w.heap.size + 1) w0 wr ∧ w.heap.size + 1 ≤ wr.heap.size)
              (fun i _ => k - (intOf i).toNat)
            case atStart => exact ⟨0, by omega, rfl, rfl, hb6, hb7⟩
            case round =>
              obtain ⟨m, g1, rfl, hj, c2, c4⟩ := hrel
              have HJ := Lib.hid hj
              clear hj
              by_cases hlt : m < k - 1
              · have f0 := hold_bd (L m).keys
                have f1 := hold_bd (L (m + 1)).keys
                obtain ⟨c0, _, _, _⟩ := (hL0.below c2 hbM).at4 m (by omega)
                obtain ⟨d0, _, _, _⟩ := (hL0.below c2 hbM).at4 (m + 1) (by omega)
                have hm1 : ((m : Int) + 1).toNat = m + 1 := by omega
                have hx0 : (0 : Int) ≤ (m : Int) := by omega
                have hx1 : (m : Int) < (k : Int) := by omega
                have hx2 : (0 : Int) ≤ (m : Int) + 1 := by omega
                have hx3 : (m : Int) + 1 < (k : Int) := by omega
                have hwm : IntKind.i64.wrap ((m : Int) + 1) = (m : Int) + 1 := IntWalk.i64_in _ (by omega)
                have hws : IntKind.i64.wrap (hold (L m).keys + hold (L (m + 1)).keys) = hold (L m).keys + hold (L (m + 1)).keys := IntWalk.i64_in _ (by omega)
                by_cases hq : hold (L m).keys + hold (L (m + 1)).keys ≤ 4
                · have hqd : decide (hold (L m).keys + hold (L (m + 1)).keys ≤ 4) = true := decide_eq_true hq
                  go_upto_region 16 with fail
                  go_quiet ((go_at_call 17; exact quiet_left (refhold_calls _ _)))
                  have hEr : EntAt wr w.heap.size 0 0 0 := (c2.block w.heap.size (by omega)).trans HE0.out
                  obtain ⟨k0, k1, k2, k3, k4, k5, k6, k7, k8, k9⟩ := hEr.cells
                  have kf := hEr.frozen
                  go_wp2
                  exact bodyPost_ret (v := .tuple #[ent 5 m 0, .bool true]) (by simp [results, Try.results11, go_sem, *]) rfl
                    ⟨by rw [chooseOf, if_neg Hz.out, if_neg Hc.out, HJ.out, joinOf_hit L m (k - 1) hlt hq]; rfl, by
                      iterate 10 (refine Below.setCell ?_ (by simp) _)
                      exact hbel0.1.trans (below_drewN (c2.mono (by omega)) _)⟩
                · have hq' : 4 < hold (L m).keys + hold (L (m + 1)).keys := by omega
                  have hqd : decide (hold (L m).keys + hold (L (m + 1)).keys ≤ 4) = false := decide_eq_false hq
                  go_upto_region 16 with fail
                  go_quiet ((go_at_call 17; exact quiet_left (refhold_calls _ _)))
                  go_wp2
                  go_roundw
                  case rel => exact ⟨m + 1, by omega, by go_num, by rw [HJ.out, joinOf_miss L m (k - 1) hlt hq'], below_drewN c2 _, c4⟩
                  case measure => simp [intOf]; omega
              · obtain rfl : m = k - 1 := by omega
                have HJ' : joinOf L 0 (k - 1) = none := by rw [HJ.out, Nat.sub_self, joinOf]
                have HJ2 := Lib.hid HJ'
                clear HJ HJ' hlt g1
                obtain ⟨c0, z1, z2, z3⟩ := (hL0.below c2 hbM).at4 (hotOf L k) hh
                obtain ⟨q0, q1⟩ := hkd (hotOf L k) hh
                have hx0 : (0 : Int) ≤ (hotOf L k : Int) := by omega
                have hx1 : (hotOf L k : Int) < (k : Int) := by omega
                have hle : ((k - 1 : Nat) : Int) + 1 = k := by omega
                go_upto_region 19 with fail
                have hEr : EntAt wr w.heap.size 0 0 0 := (c2.block w.heap.size (by omega)).trans HE0.out
                obtain ⟨k0, k1, k2, k3, k4, k5, k6, k7, k8, k9⟩ := hEr.cells
                have kf := hEr.frozen
                clear hEr c0
                by_cases hwr : hold (L (hotOf L k)).reads < hold (L (hotOf L k)).writes
                · have hdw : decide (hold (L (hotOf L k)).reads < hold (L (hotOf L k)).writes) = true := decide_eq_true hwr
                  by_cases hk1 : (L (hotOf L k)).kind = 1
                  · have kb1 : ((L (hotOf L k)).kind == 1) = true := by simp [hk1]
                    have kc1 : ((L (hotOf L k)).kind != 1) = false := by simp [hk1]
                    have kb2 : ((L (hotOf L k)).kind == 2) = false := by simp [hk1]
                    have HK := Lib.hid hk1
                    clear hk1
                    by_cases hd : draw % 2 = 0
                    · have hdb : (draw % 2 == 0) = true := by simp [hd]
                      have HD := Lib.hid hd
                      clear hd
                      go_quiet ((go_at_call 17; exact quiet_left (refhold_calls _ _)))
                      go_wp2
                      exact bodyPost_ret (v := .tuple #[ent 3 (hotOf L k) 2, .bool true]) (by simp [results, Try.results11, go_sem, *]) rfl
                        ⟨by rw [chooseOf, if_neg Hz.out, if_neg Hc.out, HJ2.out]; simp only [chosen, Option.isSome]; rw [show toOf (L (hotOf L k)) draw = 2 from (by unfold toOf otherOf; rw [if_neg (fun h => h.2 HK.out), if_pos HD.out, if_pos HK.out])], by
                          iterate 10 (refine Below.setCell ?_ (by simp) _)
                          exact hbel0.1.trans (below_drewN (c2.mono (by omega)) _)⟩
                    · have hdb : (draw % 2 == 0) = false := by simp [hd]
                      have HD := Lib.hid hd
                      clear hd
                      go_quiet ((go_at_call 17; exact quiet_left (refhold_calls _ _)))
                      go_wp2
                      exact bodyPost_ret (v := .tuple #[ent 3 (hotOf L k) 3, .bool true]) (by simp [results, Try.results11, go_sem, *]) rfl
                        ⟨by rw [chooseOf, if_neg Hz.out, if_neg Hc.out, HJ2.out]; simp only [chosen, Option.isSome]; rw [show toOf (L (hotOf L k)) draw = 3 from (by unfold toOf otherOf; rw [if_neg (fun h => h.2 HK.out), if_neg HD.out, if_pos HK.out])], by
                          iterate 10 (refine Below.setCell ?_ (by simp) _)
                          exact hbel0.1.trans (below_drewN (c2.mono (by omega)) _)⟩
                  · have kc1 : ((L (hotOf L k)).kind != 1) = true := by simp [hk1]
                    have HK := Lib.hid hk1
                    clear hk1
                    go_quiet ((go_at_call 17; exact quiet_left (refhold_calls _ _)))
                    go_wp2
                    exact bodyPost_ret (v := .tuple #[ent 3 (hotOf L k) 1, .bool true]) (by simp [results, Try.results11, go_sem, *]) rfl
                      ⟨by rw [chooseOf, if_neg Hz.out, if_neg Hc.out, HJ2.out]; simp only [chosen, Option.isSome]; rw [show toOf (L (hotOf L k)) draw = 1 from (by unfold toOf; rw [if_pos ⟨hwr, HK.out⟩])], by
                        iterate 10 (refine Below.setCell ?_ (by simp) _)
                        exact hbel0.1.trans (below_drewN (c2.mono (by omega)) _)⟩
                · have hdw : decide (hold (L (hotOf L k)).reads < hold (L (hotOf L k)).writes) = false := decide_eq_false hwr
                  have HW := Lib.hid hwr
                  clear hwr
                  by_cases hk1 : (L (hotOf L k)).kind = 1
                  · have kb1 : ((L (hotOf L k)).kind == 1) = true := by simp [hk1]
                    have kb2 : ((L (hotOf L k)).kind == 2) = false := by simp [hk1]
                    have HK := Lib.hid hk1
                    clear hk1
                    by_cases hd : draw % 2 = 0
                    · have hdb : (draw % 2 == 0) = true := by simp [hd]
                      have HD := Lib.hid hd
                      clear hd
                      go_quiet ((go_at_call 17; exact quiet_left (refhold_calls _ _)))
                      go_wp2
                      exact bodyPost_ret (v := .tuple #[ent 3 (hotOf L k) 2, .bool true]) (by simp [results, Try.results11, go_sem, *]) rfl
                        ⟨by rw [chooseOf, if_neg Hz.out, if_neg Hc.out, HJ2.out]; simp only [chosen, Option.isSome]; rw [show toOf (L (hotOf L k)) draw = 2 from (by unfold toOf otherOf; rw [if_neg (fun h => by have h1 := HW.out; have h2 := h.1; omega), if_pos HD.out, if_pos HK.out])], by
                          iterate 10 (refine Below.setCell ?_ (by simp) _)
                          exact hbel0.1.trans (below_drewN (c2.mono (by omega)) _)⟩
                    · have hdb : (draw % 2 == 0) = false := by simp [hd]
                      have HD := Lib.hid hd
                      clear hd
                      go_quiet ((go_at_call 17; exact quiet_left (refhold_calls _ _)))
                      go_wp2
                      exact bodyPost_ret (v := .tuple #[ent 3 (hotOf L k) 3, .bool true]) (by simp [results, Try.results11, go_sem, *]) rfl
                        ⟨by rw [chooseOf, if_neg Hz.out, if_neg Hc.out, HJ2.out]; simp only [chosen, Option.isSome]; rw [show toOf (L (hotOf L k)) draw = 3 from (by unfold toOf otherOf; rw [if_neg (fun h => by have h1 := HW.out; have h2 := h.1; omega), if_neg HD.out, if_pos HK.out])], by
                          iterate 10 (refine Below.setCell ?_ (by simp) _)
                          exact hbel0.1.trans (below_drewN (c2.mono (by omega)) _)⟩
                  · by_cases hk2 : (L (hotOf L k)).kind = 2
                    · have kb1 : ((L (hotOf L k)).kind == 1) = false := by simp [hk1]
                      have kb2 : ((L (hotOf L k)).kind == 2) = true := by simp [hk2]
                      have HK := Lib.hid hk1
                      have HK2 := Lib.hid hk2
                      clear hk1 hk2
                      by_cases hd : draw % 2 = 0
                      · have hdb : (draw % 2 == 0) = true := by simp [hd]
                        have HD := Lib.hid hd
                        clear hd
                        go_quiet ((go_at_call 17; exact quiet_left (refhold_calls _ _)))
                        go_wp2
                        exact bodyPost_ret (v := .tuple #[ent 3 (hotOf L k) 1, .bool true]) (by simp [results, Try.results11, go_sem, *]) rfl
                          ⟨by rw [chooseOf, if_neg Hz.out, if_neg Hc.out, HJ2.out]; simp only [chosen, Option.isSome]; rw [show toOf (L (hotOf L k)) draw = 1 from (by unfold toOf otherOf; rw [if_neg (fun h => by have h1 := HW.out; have h2 := h.1; omega), if_pos HD.out, if_neg HK.out])], by
                            iterate 10 (refine Below.setCell ?_ (by simp) _)
                            exact hbel0.1.trans (below_drewN (c2.mono (by omega)) _)⟩
                      · have hdb : (draw % 2 == 0) = false := by simp [hd]
                        have HD := Lib.hid hd
                        clear hd
                        go_quiet ((go_at_call 17; exact quiet_left (refhold_calls _ _)))
                        go_wp2
                        exact bodyPost_ret (v := .tuple #[ent 3 (hotOf L k) 3, .bool true]) (by simp [results, Try.results11, go_sem, *]) rfl
                          ⟨by rw [chooseOf, if_neg Hz.out, if_neg Hc.out, HJ2.out]; simp only [chosen, Option.isSome]; rw [show toOf (L (hotOf L k)) draw = 3 from (by unfold toOf otherOf; rw [if_neg (fun h => by have h1 := HW.out; have h2 := h.1; omega), if_neg HD.out, if_neg HK.out, if_pos HK2.out])], by
                            iterate 10 (refine Below.setCell ?_ (by simp) _)
                            exact hbel0.1.trans (below_drewN (c2.mono (by omega)) _)⟩
                    · have kb1 : ((L (hotOf L k)).kind == 1) = false := by simp [hk1]
                      have kb2 : ((L (hotOf L k)).kind == 2) = false := by simp [hk2]
                      have HK := Lib.hid hk1
                      have HK2 := Lib.hid hk2
                      clear hk1 hk2
                      by_cases hd : draw % 2 = 0
                      · have hdb : (draw % 2 == 0) = true := by simp [hd]
                        have HD := Lib.hid hd
                        clear hd
                        go_quiet ((go_at_call 17; exact quiet_left (refhold_calls _ _)))
                        go_wp2
                        exact bodyPost_ret (v := .tuple #[ent 3 (hotOf L k) 1, .bool true]) (by simp [results, Try.results11, go_sem, *]) rfl
                          ⟨by rw [chooseOf, if_neg Hz.out, if_neg Hc.out, HJ2.out]; simp only [chosen, Option.isSome]; rw [show toOf (L (hotOf L k)) draw = 1 from (by unfold toOf otherOf; rw [if_neg (fun h => by have h1 := HW.out; have h2 := h.1; omega), if_pos HD.out, if_neg HK.out])], by
                            iterate 10 (refine Below.setCell ?_ (by simp) _)
                            exact hbel0.1.trans (below_drewN (c2.mono (by omega)) _)⟩
                      · have hdb : (draw % 2 == 0) = false := by simp [hd]
                        have HD := Lib.hid hd
                        clear hd
                        go_quiet ((go_at_call 17; exact quiet_left (refhold_calls _ _)))
                        go_wp2
                        exact bodyPost_ret (v := .tuple #[ent 3 (hotOf L k) 2, .bool true]) (by simp [results, Try.results11, go_sem, *]) rfl
                          ⟨by rw [chooseOf, if_neg Hz.out, if_neg Hc.out, HJ2.out]; simp only [chosen, Option.isSome]; rw [show toOf (L (hotOf L k)) draw = 2 from (by unfold toOf otherOf; rw [if_neg (fun h => by have h1 := HW.out; have h2 := h.1; omega), if_neg HD.out, if_neg HK.out, if_neg HK2.out])], by
                            iterate 10 (refine Below.setCell ?_ (by simp) _)
                            exact hbel0.1.trans (below_drewN (c2.mono (by omega)) _)⟩

set_option maxHeartbeats 1000000 in
theorem ref_empty (A : Option Addr) (cap : Nat) (draw : Int) (w : World) :
    Calls Try.prog 11 #[.slice A 0 cap, .int .u32 draw] w fun e w' => e = .returned (.tuple #[ent 0 0 0, .bool false]) ∧ Below w.heap.size w w' := by
  go_enter Try.func11, Try.ntmps11
  go_wp2
  refine wp_loop_rounds 1 ?_
  rw [rounds_succ]
  go_wp2
  exact bodyPost_ret (v := .tuple #[ent 0 0 0, .bool false]) (by simp [results, Try.results11, go_sem]) rfl
    ⟨rfl, (Below.refl _ _).alloc (Nat.le_refl _) _⟩

theorem ref_any (A : Option Addr) (n cap : Nat) (L : Nat → Ld) (draw : Int) (w : World) (hL : Sl w A n L) (hk : Kinds n L) (hn1 : n ≤ 1001) (hd0 : 0 ≤ draw) (hd1 : draw ≤ 4294967295) :
    Calls Try.prog 11 #[.slice A n cap, .int .u32 draw] w fun e w' => e = .returned (.tuple #[chosen (chooseOf n L draw), .bool (chooseOf n L draw).isSome]) ∧ Below w.heap.size w w' := by
  rcases Nat.eq_zero_or_pos n with rfl | hn
  · exact ref_empty A cap draw w
  · obtain ⟨b, off, rfl, h⟩ := hL hn
    exact ref_calls b off n cap L draw w h hk hn hn1 hd0 hd1

end Go.Proofs.Yticnnjcpmiakgaa
