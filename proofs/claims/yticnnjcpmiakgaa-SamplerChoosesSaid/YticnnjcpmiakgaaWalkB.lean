/-
  Walks over the sampler: other (a kind that is not one's own, by a draw).
-/
import Derived.Test.YticnnjcpmiakgaaWalkA
namespace Go.Proofs.Yticnnjcpmiakgaa
open Go.RowKit

theorem Try.info3 : (Try.prog.info? 3).map (fun i => (i.zero, i.size, i.bytes)) = some (some (.int .i64 0), 1, 8) := by kernel_rfl

/-- The kinds up to m that are not the one. -/
def Kds (kind : Int) (m : Nat) : List Int := ([1, 2, 3].take m).filter (fun x => !(x == kind))

theorem Kds_len (kind : Int) (m : Nat) : (Kds kind m).length ≤ 3 := by
  unfold Kds; exact Nat.le_trans (List.length_filter_le _ _) (by simp; omega)

theorem Kds_hit (kind : Int) (k : Nat) (h1 : 1 ≤ k) (h3 : k ≤ 3) (h : (k : Int) ≠ kind) : Kds kind k = Kds kind (k - 1) ++ [(k : Int)] := by
  obtain rfl | rfl | rfl : k = 1 ∨ k = 2 ∨ k = 3 := by omega
  all_goals (unfold Kds; simp [List.filter_cons]; grind)

theorem Kds_miss (kind : Int) (k : Nat) (h1 : 1 ≤ k) (h3 : k ≤ 3) (h : (k : Int) = kind) : Kds kind k = Kds kind (k - 1) := by
  obtain rfl | rfl | rfl : k = 1 ∨ k = 2 ∨ k = 3 := by omega
  all_goals (unfold Kds; simp [List.filter_cons]; grind)

theorem Kds_two (kind draw : Int) : ∃ x y zs, Kds kind 3 = x :: y :: zs ∧ 0 ≤ x ∧ x ≤ 255 ∧ 0 ≤ y ∧ y ≤ 255 ∧ (draw % 2 = 0 → otherOf kind draw = x) ∧ (draw % 2 = 1 → otherOf kind draw = y) := by
  by_cases h1 : kind = 1
  · subst h1
    exact ⟨2, 3, [], by decide, by omega, by omega, by omega, by omega, by intro h; simp [otherOf, h], by intro h; simp [otherOf, h]⟩
  · by_cases h2 : kind = 2
    · subst h2
      exact ⟨1, 3, [], by decide, by omega, by omega, by omega, by omega, by intro h; simp [otherOf, h], by intro h; simp [otherOf, h]⟩
    · by_cases h3 : kind = 3
      · subst h3
        exact ⟨1, 2, [], by decide, by omega, by omega, by omega, by omega, by intro h; simp [otherOf, h], by intro h; simp [otherOf, h]⟩
      · refine ⟨1, 2, [3], ?_, by omega, by omega, by omega, by omega, by intro h; simp [otherOf, h, h1], by intro h; simp [otherOf, h, h1, h2]⟩
        unfold Kds
        simp [List.filter_cons]
        grind

set_option maxHeartbeats 1000000 in
theorem other_calls (kind draw : Int) (w : World) (hk0 : 0 ≤ kind) (hk1 : kind ≤ 255) (hd0 : 0 ≤ draw) (hd1 : draw ≤ 4294967295) :
    Calls Try.prog 15 #[.int .u8 kind, .int .u32 draw] w fun e w' => e = .returned (.int .u8 (otherOf kind draw)) ∧ Below w.heap.size w w' := by
  obtain ⟨i0, hi, hz0, hz1, hz2⟩ := info_parts Try.info3
  go_enter Try.func15, Try.ntmps15
  go_wp2
  go_loopw [5, 6] (fun v i wr => ∃ k : Nat, 1 ≤ k ∧ k ≤ 4 ∧ i = .int .i64 k ∧ wr.ownsRow w.heap.size 3 1 v (Kds kind (k - 1)).length ((Kds kind (k - 1)).map (Value.int .i64)) ∧ Below w.heap.size w wr)
    (fun _ i _ => 4 - (intOf i).toNat)
  case atStart => exact ⟨1, by omega, by omega, rfl, World.ownsRow_nil _ _ _ _, Below.refl _ _⟩
  case round =>
    obtain ⟨k, g1, g4, rfl, hown, hbel⟩ := hrel
    have hlen := Kds_len kind (k - 1)
    have hsz := hbel.size
    by_cases hlt : k ≤ 3
    · by_cases heq : (k : Int) = kind
      · subst heq
        go_wp2
        go_roundw
        case rel => exact ⟨k + 1, by omega, by omega, by go_num, by rw [Nat.add_sub_cancel, Kds_miss _ k g1 hlt rfl]; exact hown, hbel⟩
        case measure => simp [intOf]; omega
      · have e := Kds_hit kind k g1 hlt heq
        have HE := Lib.hid e
        clear e
        go_wp2_with (at_builtin; refine wpList_append_own _ rfl _ _ 48 rfl w.heap.size 3 i0 (.int .i64 0) 1 8 Try.underlying48 hi hz0 hz1 hz2 rfl (by decide) _ _ _ rfl (hown.alloc _) ⟨wr.heap.size, 0, none⟩ 1 1 [.int .i64 k] rfl rfl (World.news_of_block (cs := #[.int .i64 k]) (t := 3) (fr := (0, 0)) (heap_alloc_new wr _)) (by simp [Value.oneCell']) (by unfold maxLen; omega) (by omega) (by simp; omega) ?_; intro v' w1 hown1 hgrow _)
        go_roundw
        case rel =>
          refine ⟨k + 1, by omega, by omega, by go_num, ?_, (hbel.alloc (by omega) _).grown hgrow (by simp; omega) (fun j hj => (hown.lt j hj).1)⟩
          rw [Nat.add_sub_cancel, HE.out]
          simpa using hown1
        case measure => simp [intOf]; omega
    · obtain rfl : k = 4 := by omega
      obtain ⟨x, y, zs, hxy, x0, x1, y0, y1, ho0, ho1⟩ := Kds_two kind draw
      simp only [Nat.reduceSub, hxy] at hown
      clear hxy hlen
      obtain ⟨g, cap, rfl, _, hg⟩ := hown.form (by simp)
      have hc : wr.cell? ⟨g, (draw % 2).toNat, none⟩ = some (.int .i64 (otherOf kind draw)) := by
        have c0 := hown.cells (g := g) rfl 0 _ rfl
        have c1 := hown.cells (g := g) rfl 1 _ rfl
        by_cases hd : draw % 2 = 0
        · rw [hd, ho0 hd]; simpa [Addr.add] using c0
        · have hd : draw % 2 = 1 := by omega
          rw [hd, ho1 hd]; simpa [Addr.add] using c1
      have ho : 0 ≤ otherOf kind draw ∧ otherOf kind draw ≤ 255 := by
        by_cases hd : draw % 2 = 0
        · rw [ho0 hd]; omega
        · rw [ho1 (by omega)]; omega
      have hm0 : 0 ≤ draw % 2 := by omega
      have hm1 : draw % 2 < ((x :: y :: zs).length : Int) := by simp; omega
      clear hown ho0 ho1
      go_wp2
      go_ret
      exact ⟨rfl, hbel⟩

end Go.Proofs.Yticnnjcpmiakgaa
