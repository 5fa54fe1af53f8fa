/-
  The walk over SamplerScale.
-/
import Derived.Test.YticnnjcpmiakgaaScaleP
namespace Go.Proofs.Yticnnjcpmiakgaa
open Go.RowKit

/-- The loads as they are brought to small numbers. -/
def Lm (L : Nat → Ld) : Nat → Ld := fun j => ⟨bits .and .i64 (L j).keys 1048575, bits .and .i64 (L j).reads 1048575, bits .and .i64 (L j).writes 1048575, (L j).kind⟩

theorem Lm_small (L : Nat → Ld) : Small (Lm L) := fun _ => ⟨(mask_bd _).1, (mask_bd _).2, (mask_bd _).1, (mask_bd _).2⟩

theorem chosen_form (r : Option (Int × Int × Int)) : ∃ k a b o, chosen r = ent k a b ∧ r.isSome = o := by
  rcases r with _ | ⟨k, a, b⟩
  · exact ⟨0, 0, 0, false, rfl, rfl⟩
  · exact ⟨k, a, b, true, rfl, rfl⟩

theorem own_below {w w' : World} {B : Nat} {e : TypeId} {size : Nat} {v : Value} {n : Nat} {xs : List Value} (h : w.ownsRow B e size v n xs) (hb : Below w.heap.size w w') : w'.ownsRow B e size v n xs :=
  ownsRow_of_block h fun g hg => hb.block g (h.lt g hg).2

set_option maxRecDepth 100000 in
set_option maxHeartbeats 4000000 in
theorem scale_calls (A : Option Addr) (n cap : Nat) (L : Nat → Ld) (f draw : Int) (w : World) (hL : Sl w A n L) (hk : Kinds n L) (hf0 : 0 ≤ f) (hf1 : f ≤ 65535) (hd0 : 0 ≤ draw) (hd1 : draw ≤ 4294967295) :
    Calls Try.prog 6 #[.slice A n cap, .int .u16 f, .int .u32 draw] w fun e w' => e = .returned (.bool true) ∧ Below w.heap.size w w' := by
  obtain ⟨i0, hi, hz0, hz1, hz2⟩ := info_parts Try.info30
  by_cases hn : n ≤ 14
  · have m0 : 1 ≤ 1 + f % 1000 := by omega
    have m1 : 1 + f % 1000 ≤ 1000 := by omega
    go_enter Try.func6, Try.ntmps6
    go_wp2_with (go_at_call 9; refine (awake_calls _).mono ?_; rintro e w0 ⟨rfl, hb0⟩)
    generalize 1 + f % 1000 = m at *
    have hs0 := hb0.size
    have hL0 := hL.below hb0
    go_loopw [8, 9, 10] (fun va vb i wr => ∃ k : Nat, k ≤ n ∧ i = .int .i64 k ∧ wr.ownsRow w0.heap.size 30 4 va k (flat (Lm L) k) ∧
        wr.ownsRow w0.heap.size 30 4 vb k (flat (times (Lm L) m) k) ∧ (∀ g, va.ownBlock = some g → vb.ownBlock ≠ some g) ∧ Below w0.heap.size w0 wr)
      (fun _ _ i _ => n - (intOf i).toNat)
    case atStart => exact ⟨0, by omega, rfl, World.ownsRow_nil _ _ _ _, World.ownsRow_nil _ _ _ _, by simp [Value.ownBlock], Below.refl _ _⟩
    case round =>
      obtain ⟨k, g1, rfl, hoa, hob, hab, hbel⟩ := hrel
      have hab := Lib.hid hab
      by_cases hlt : k < n
      · obtain ⟨b, off, rfl, hLd⟩ := hL0 (by omega)
        have hblt := World.block_lt_of_cell? w0 _ (hLd k hlt).1
        simp only at hblt
        obtain ⟨c0, c1, c2, c3⟩ := (hLd.below hbel hblt) k hlt
        have hsz := hbel.size
        have u1 := mul_bd (mask_bd (L k).reads).1 (mask_bd (L k).reads).2 m0 m1
        have u2 := mul_bd (mask_bd (L k).writes).1 (mask_bd (L k).writes).2 m0 m1
        go_wp2_with (first
          | (at_builtin; refine wpList_append_own_at _ rfl (.tmp 49) (.tmp 51) 31 rfl w0.heap.size 30 i0 _ 4 32 Try.underlying31 hi hz0 hz1 hz2 rfl (by decide) _ _ _ rfl ((hoa.alloc _).alloc _) ⟨wr.heap.size + 1, 0, none⟩ 1 1 [.int .i64 (bits .and .i64 (L k).keys 1048575), .int .i64 (bits .and .i64 (L k).reads 1048575), .int .i64 (bits .and .i64 (L k).writes 1048575), .int .u8 (L k).kind] rfl rfl (World.news_of_block (cs := #[.int .i64 (bits .and .i64 (L k).keys 1048575), .int .i64 (bits .and .i64 (L k).reads 1048575), .int .i64 (bits .and .i64 (L k).writes 1048575), .int .u8 (L k).kind]) (t := 30) (fr := (0, 0)) (alloc_at_ (by simp) _)) (by simp [Value.oneCell']) (by unfold maxLen; omega) (by omega) (by simp; omega) ?_; intro va' w1 hown1 hg1 _ hat1; obtain ⟨x0, x1, x2, x3, xf, hob1, hab1, hXa, hXb, hbel1, hsz1⟩ := tw_mid hoa hob hab.out hbel hsz hg1 hat1; have hab1 := Lib.hid hab1; clear hg1 hat1)
          | (at_builtin; refine wpList_append_own_at _ rfl (.tmp 63) (.tmp 65) 31 rfl w0.heap.size 30 i0 _ 4 32 Try.underlying31 hi hz0 hz1 hz2 rfl (by decide) _ _ _ rfl ((own_set2 hob1 hXb).alloc _) ⟨w1.heap.size, 0, none⟩ 1 1 [.int .i64 (bits .and .i64 (L k).keys 1048575), .int .i64 (bits .and .i64 (L k).reads 1048575 * m), .int .i64 (bits .and .i64 (L k).writes 1048575 * m), .int .u8 (L k).kind] rfl rfl (World.news_of_block (cs := #[.int .i64 (bits .and .i64 (L k).keys 1048575), .int .i64 (bits .and .i64 (L k).reads 1048575 * m), .int .i64 (bits .and .i64 (L k).writes 1048575 * m), .int .u8 (L k).kind]) (t := 30) (fr := (0, 0)) (alloc_at_ (by simp [World.setCell]) _)) (by simp [Value.oneCell']) (by unfold maxLen; omega) (by omega) (by simp [World.setCell]; omega) ?_; intro vb' w3 hown3 hg3 _ hat3; obtain ⟨hoa3, hab3, hbel3⟩ := tw_end hown1 hob1 hab1.out hXa hsz hbel1 (by omega) hg3 hat3; have hab3 := Lib.hid hab3; clear hg3 hat3))
        go_roundw
        case rel => exact ⟨k + 1, by omega, by go_num, hoa3, hown3, hab3.out, hbel3⟩
        case measure => simp [intOf]; omega
      · obtain rfl : k = n := by omega
        have hB := hbel.size
        obtain ⟨Aa, ca, rfl, hSa⟩ := Sl.of_own hoa
        obtain ⟨Ab, cb, rfl, hSb⟩ := Sl.of_own hob
        have hka : Kinds k (Lm L) := hk
        have hkb : Kinds k (times (Lm L) m) := hk
        have hkc : Kinds (k + 1) (more (Lm L) k ⟨100, 0, 0, 2⟩) := fun i hi => by
          unfold more; split
          · rename_i h; exact hka i h
          · exact ⟨by decide, by decide⟩
        have R2 := Lib.hid (choose_times (Lm_small L) m0 m1 k draw)
        have R3 := Lib.hid (choose_more (L := Lm L) hn draw)
        obtain ⟨qk, qa, qb, qo, q1, q2⟩ := chosen_form (chooseOf k (Lm L) draw)
        have Q1 := Lib.hid q1
        have Q2 := Lib.hid q2
        clear q1 q2 hob hab hlt hk hL0
        go_wp2_with fail
        refine (choose_any Aa k ca _ draw _ hSa hka (by omega) hd0 hd1).mono ?_
        rintro e w2 ⟨rfl, hb2⟩
        rw [Q1.out, Q2.out]
        go_wp2_with fail
        refine (choose_any Ab k cb _ draw _ ((hSb.below hb2).alloc _) hkb (by omega) hd0 hd1).mono ?_
        rintro e w3 ⟨rfl, hb3⟩
        rw [R2.out, Q1.out, Q2.out]
        have E1 := ((EntAt.new w2 qk qa qb).below hb3).alloc (.cells #[.int .u8 qk, .int .i64 qa, .int .i64 qb, .int .u8 0, .string ⟨#[]⟩, .string ⟨#[]⟩, .string ⟨#[]⟩, .bool false, .bool false, .slice none 0 0] 26)
        have E2 := EntAt.new w3 qk qa qb
        have C1 := E1.cells
        go_wp2_with fail
        refine (equal_calls qk qa qb _).mono ?_
        rintro e w4 ⟨rfl, hb4⟩
        clear C1
        have hoa4 := (own_below ((own_below hoa hb2).alloc (.cells #[.int .u8 qk, .int .i64 qa, .int .i64 qb, .int .u8 0, .string ⟨#[]⟩, .string ⟨#[]⟩, .string ⟨#[]⟩, .bool false, .bool false, .slice none 0 0] 26)) hb3).alloc (.cells #[.int .u8 qk, .int .i64 qa, .int .i64 qb, .int .u8 0, .string ⟨#[]⟩, .string ⟨#[]⟩, .string ⟨#[]⟩, .bool false, .bool false, .slice none 0 0] 26)
        have hoa5 := own_below hoa4 hb4
        have hB4 : w0.heap.size ≤ w4.heap.size := by
          have h2 := hb2.size
          have h3 := hb3.size
          have h4 := hb4.size
          simp at h3 h4
          omega
        go_wp2_with (at_builtin; refine wpList_append_own_at _ rfl (.tmp 89) (.tmp 91) 31 rfl w0.heap.size 30 i0 _ 4 32 Try.underlying31 hi hz0 hz1 hz2 rfl (by decide) _ _ _ rfl (hoa5.alloc _) ⟨w4.heap.size, 0, none⟩ 1 1 [.int .i64 100, .int .i64 0, .int .i64 0, .int .u8 2] rfl rfl (World.news_of_block (cs := #[.int .i64 100, .int .i64 0, .int .i64 0, .int .u8 2]) (t := 30) (fr := (0, 0)) (heap_alloc_new w4 _)) (by simp [Value.oneCell']) (by unfold maxLen; omega) (by omega) (by simp; omega) ?_; intro vc w5 hown5 hg5 _ hat5; clear hat5; have hown6 : w5.ownsRow w0.heap.size 30 4 vc (k + 1) (flat (more (Lm L) k ⟨100, 0, 0, 2⟩) (k + 1)) := (by rw [flat, flat_more (Lm L) k _ k (Nat.le_refl _), more_at]; exact hown5); clear hown5; obtain ⟨Ac, cc, rfl, hSc⟩ := Sl.of_own hown6)
        have hlt2 : wr.heap.size ≤ w2.heap.size := hb2.size
        have E1' : EntAt w5 w2.heap.size qk qa qb := by
          have E := (E1.below hb4).alloc (.cells #[.int .i64 100, .int .i64 0, .int .i64 0, .int .u8 2] 30)
          exact (hg5.block w2.heap.size E.lt (fun e => by have := (hoa.lt _ e.symm).2; omega)).trans E
        have HB4 : Bl w w4 := ((((((Bl.refl w).then_ hb0).then_ hbel).then_ hb2).alloc _).then_ hb3 |>.alloc _).then_ hb4
        have HB5 : Bl w w5 := ⟨(HB4.1.alloc HB4.2 _).grown hg5 (by have := HB4.2; simp; omega) (fun j hj => by have := (hoa.lt j hj).1; omega), by have h1 := hg5.size; have h2 := HB4.2; simp at h1; omega⟩
        go_wp2_with fail
        refine (choose_any Ac (k + 1) cc _ draw _ hSc hkc (by omega) hd0 hd1).mono ?_
        rintro e w6 ⟨rfl, hb6⟩
        rw [R3.out, Q1.out, Q2.out]
        have E3 := EntAt.new w6 qk qa qb
        have C1 := ((E1'.below hb6).alloc (.cells #[.int .u8 qk, .int .i64 qa, .int .i64 qb, .int .u8 0, .string ⟨#[]⟩, .string ⟨#[]⟩, .string ⟨#[]⟩, .bool false, .bool false, .slice none 0 0] 26)).cells
        go_wp2_with fail
        refine (equal_calls qk qa qb _).mono ?_
        rintro e w7 ⟨rfl, hb7⟩
        go_wp2
        go_ret
        exact ⟨rfl, (((HB5.then_ hb6).alloc _).then_ hb7).1⟩
  · have hn' : 14 < n := by omega
    go_enter Try.func6, Try.ntmps6
    go_wp2_with (go_at_call 9; refine (awake_calls _).mono ?_; rintro e w0 ⟨rfl, hb0⟩)
    go_ret
    exact ⟨rfl, hb0⟩

end Go.Proofs.Yticnnjcpmiakgaa
