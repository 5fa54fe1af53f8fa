/-
  The walk over SamplerKnown: the chapter's examples.
-/
import Derived.Test.YticnnjcpmiakgaaWalkD
namespace Go.Proofs.Yticnnjcpmiakgaa
open Go.RowKit

set_option maxRecDepth 100000 in
set_option maxHeartbeats 4000000 in
theorem known_calls (w : World) : Calls Try.prog 3 #[] w fun e w' => e = .returned (.bool true) ∧ Below w.heap.size w w' := by
  go_enter Try.func3, Try.ntmps3
  go_wp2_with fail
  refine (choose_known [⟨10, 5, 0, 2⟩, ⟨1, 6, 0, 2⟩, ⟨3, 0, 0, 2⟩] (some (5, 1, 0)) 0 (Sl_three' _ _ _ (alloc_at_ (by simp) _)) (by decide) (by decide) (by decide) (by omega) (by omega)).mono ?_
  rintro e w1 ⟨rfl, hb1⟩
  simp only [chosen, Option.isSome]
  go_wp2_with fail
  refine (choose_known [⟨9, 1, 2, 2⟩, ⟨9, 3, 0, 3⟩, ⟨9, 0, 0, 2⟩] (some (3, 0, 1)) 0 (Sl_three' _ _ _ (alloc_at_ (by simp) _)) (by decide) (by decide) (by decide) (by omega) (by omega)).mono ?_
  rintro e w2 ⟨rfl, hb2⟩
  have HS2 : Sl ((w1.alloc (.cells #[.int .u8 5, .int .i64 1, .int .i64 0, .int .u8 0, .string ⟨#[]⟩, .string ⟨#[]⟩, .string ⟨#[]⟩, .bool false, .bool false, .slice none 0 0] 26)).alloc (.cells #[.int .i64 9, .int .i64 1, .int .i64 2, .int .u8 2, .int .i64 9, .int .i64 3, .int .i64 0, .int .u8 3, .int .i64 9, .int .i64 0, .int .i64 0, .int .u8 2] 30)) (some ⟨w1.heap.size + 1, 0, none⟩) 3 (ofL [⟨9, 1, 2, 2⟩, ⟨9, 3, 0, 3⟩, ⟨9, 0, 0, 2⟩]) := Sl_three' _ _ _ (alloc_at_ (by simp) _)
  simp only [chosen, Option.isSome]
  go_wp2_with fail
  refine (choose_known [⟨9, 1, 2, 2⟩, ⟨9, 3, 0, 3⟩, ⟨9, 0, 0, 2⟩] (some (3, 0, 1)) 1 ((HS2.below hb2).alloc _) (by decide) (by decide) (by decide) (by omega) (by omega)).mono ?_
  rintro e w3 ⟨rfl, hb3⟩
  simp only [chosen, Option.isSome]
  go_wp2_with fail
  refine (choose_known [⟨9, 3, 0, 3⟩, ⟨9, 3, 0, 2⟩] (some (3, 0, 1)) 0 (Sl_two' _ _ (alloc_at_ (by simp) _)) (by decide) (by decide) (by decide) (by omega) (by omega)).mono ?_
  rintro e w4 ⟨rfl, hb4⟩
  have HS4 : Sl ((w3.alloc (.cells #[.int .u8 3, .int .i64 0, .int .i64 1, .int .u8 0, .string ⟨#[]⟩, .string ⟨#[]⟩, .string ⟨#[]⟩, .bool false, .bool false, .slice none 0 0] 26)).alloc (.cells #[.int .i64 9, .int .i64 3, .int .i64 0, .int .u8 3, .int .i64 9, .int .i64 3, .int .i64 0, .int .u8 2] 30)) (some ⟨w3.heap.size + 1, 0, none⟩) 2 (ofL [⟨9, 3, 0, 3⟩, ⟨9, 3, 0, 2⟩]) := Sl_two' _ _ (alloc_at_ (by simp) _)
  simp only [chosen, Option.isSome]
  go_wp2_with fail
  refine (choose_known [⟨9, 3, 0, 3⟩, ⟨9, 3, 0, 2⟩] (some (3, 0, 2)) 7 ((HS4.below hb4).alloc _) (by decide) (by decide) (by decide) (by omega) (by omega)).mono ?_
  rintro e w5 ⟨rfl, hb5⟩
  simp only [chosen, Option.isSome]
  go_wp2_with fail
  refine (choose_known [⟨9, 0, 0, 2⟩] (none) 0 (Sl_one' _ (alloc_at_ (by simp) _)) (by decide) (by decide) (by decide) (by omega) (by omega)).mono ?_
  rintro e w6 ⟨rfl, hb6⟩
  simp only [chosen, Option.isSome]
  go_wp2_with fail
  refine (choose_known [] (none) 0 (fun h => absurd h (by decide)) (by decide) (by decide) (by decide) (by omega) (by omega)).mono ?_
  rintro e w7 ⟨rfl, hb7⟩
  simp only [chosen, Option.isSome]
  go_wp2_with fail
  refine (awake_calls _).mono ?_
  rintro e w8 ⟨rfl, hb8⟩
  have E1 : EntAt w8 w1.heap.size 5 1 0 := by repeat (first | (with_reducible exact EntAt.new _ _ _ _) | (with_reducible refine EntAt.alloc ?_ _) | (with_reducible refine EntAt.below ?_ (by assumption)))
  have E2 : EntAt w8 w2.heap.size 3 0 1 := by repeat (first | (with_reducible exact EntAt.new _ _ _ _) | (with_reducible refine EntAt.alloc ?_ _) | (with_reducible refine EntAt.below ?_ (by assumption)))
  have E3 : EntAt w8 w3.heap.size 3 0 1 := by repeat (first | (with_reducible exact EntAt.new _ _ _ _) | (with_reducible refine EntAt.alloc ?_ _) | (with_reducible refine EntAt.below ?_ (by assumption)))
  have E4 : EntAt w8 w4.heap.size 3 0 1 := by repeat (first | (with_reducible exact EntAt.new _ _ _ _) | (with_reducible refine EntAt.alloc ?_ _) | (with_reducible refine EntAt.below ?_ (by assumption)))
  have E5 : EntAt w8 w5.heap.size 3 0 2 := by repeat (first | (with_reducible exact EntAt.new _ _ _ _) | (with_reducible refine EntAt.alloc ?_ _) | (with_reducible refine EntAt.below ?_ (by assumption)))
  have C1 := E1.cells
  go_wp2_with fail
  refine (equal_calls 5 1 0 _).mono ?_
  rintro e w9 ⟨rfl, hb9⟩
  clear C1
  have C2 := (E2.below hb9).cells
  go_wp2_with fail
  refine (equal_calls 3 0 1 _).mono ?_
  rintro e w10 ⟨rfl, hb10⟩
  clear C2
  have C2 := ((E2.below hb9).below hb10).cells
  have C3 := ((E3.below hb9).below hb10).cells
  go_wp2_with fail
  refine (equal_calls 3 0 1 _).mono ?_
  rintro e w11 ⟨rfl, hb11⟩
  clear C2 C3
  have C4 := (((E4.below hb9).below hb10).below hb11).cells
  go_wp2_with fail
  refine (equal_calls 3 0 1 _).mono ?_
  rintro e w12 ⟨rfl, hb12⟩
  clear C4
  have C5 := ((((E5.below hb9).below hb10).below hb11).below hb12).cells
  go_wp2_with fail
  refine (equal_calls 3 0 2 _).mono ?_
  rintro e w13 ⟨rfl, hb13⟩
  clear C5
  go_wp2
  go_ret
  have HB : Bl w w13 := by repeat (first | (with_reducible exact Bl.refl _) | (with_reducible refine Bl.alloc ?_ _) | (with_reducible refine Bl.then_ ?_ (by assumption)))
  exact ⟨rfl, HB.1⟩

end Go.Proofs.Yticnnjcpmiakgaa
