/-
  The walk over SamplerTwice, its loop: two slices are built beside each other.
-/
import Derived.Test.YticnnjcpmiakgaaWalkD
import Derived.Maps.AppendAt
namespace Go.Proofs.Yticnnjcpmiakgaa
open Go.RowKit

theorem Try.info30 : (Try.prog.info? 30).map (fun i => (i.zero, i.size, i.bytes)) = some (some (.agg #[.int .i64 0, .int .i64 0, .int .i64 0, .int .u8 0]), 4, 32) := by kernel_rfl

/-- The cells of the first k of some loads. -/
def flat (L : Nat → Ld) : Nat → List Value
  | 0 => []
  | k + 1 => flat L k ++ [.int .i64 (L k).keys, .int .i64 (L k).reads, .int .i64 (L k).writes, .int .u8 (L k).kind]

theorem flat_length (L : Nat → Ld) (k : Nat) : (flat L k).length = k * 4 := by
  induction k with
  | zero => rfl
  | succ k ih => simp [flat, ih]; omega

theorem flat_get (L : Nat → Ld) (k i : Nat) (h : i < k) : (flat L k)[i * 4]? = some (.int .i64 (L i).keys) ∧ (flat L k)[i * 4 + 1]? = some (.int .i64 (L i).reads) ∧
    (flat L k)[i * 4 + 2]? = some (.int .i64 (L i).writes) ∧ (flat L k)[i * 4 + 3]? = some (.int .u8 (L i).kind) := by
  induction k with
  | zero => omega
  | succ k ih =>
    have hl := flat_length L k
    by_cases hi : i < k
    · obtain ⟨h0, h1, h2, h3⟩ := ih hi
      simp only [flat]
      rw [List.getElem?_append_left (by omega), List.getElem?_append_left (by omega), List.getElem?_append_left (by omega), List.getElem?_append_left (by omega)]
      exact ⟨h0, h1, h2, h3⟩
    · obtain rfl : i = k := by omega
      simp only [flat]
      rw [List.getElem?_append_right (by omega), List.getElem?_append_right (by omega), List.getElem?_append_right (by omega), List.getElem?_append_right (by omega)]
      simp [hl]

/-- A row of the call's own that holds loads is a slice over loads. -/
theorem Sl.of_own {w : World} {B n : Nat} {v : Value} {L : Nat → Ld} (h : w.ownsRow B 30 4 v n (flat L n)) : ∃ A cap, v = .slice A n cap ∧ Sl w A n L := by
  rcases Nat.eq_zero_or_pos n with rfl | hn
  · rcases h.2 with ⟨rfl, _⟩ | ⟨g, cap, cur, rfl, _⟩
    · exact ⟨none, 0, rfl, fun h => absurd h (by omega)⟩
    · exact ⟨_, cap, rfl, fun h => absurd h (by omega)⟩
  · obtain ⟨g, cap, rfl, _, _⟩ := h.form hn
    refine ⟨_, cap, rfl, fun _ => ⟨g, 0, rfl, fun i hi => ?_⟩⟩
    obtain ⟨h0, h1, h2, h3⟩ := flat_get L n i hi
    have hc := h.cells (g := g) rfl
    have ha : ∀ j, (⟨g, 0, none⟩ : Addr).add j = ⟨g, 0 + j, none⟩ := fun j => by unfold Addr.add; split <;> simp_all
    exact ⟨by have := hc _ _ h0; rwa [ha] at this, by have := hc _ _ h1; rwa [ha] at this, by have := hc _ _ h2; rwa [ha] at this, by have := hc _ _ h3; rwa [ha] at this⟩

/-- A row of the call's own hangs on its block alone. -/
theorem ownsRow_of_block {w w' : World} {B : Nat} {e : TypeId} {size : Nat} {v : Value} {n : Nat} {xs : List Value} (h : w.ownsRow B e size v n xs) (hb : ∀ g, v.ownBlock = some g → w'.heap[g]? = w.heap[g]?) : w'.ownsRow B e size v n xs := by
  refine ⟨h.1, ?_⟩
  rcases h.2 with h2 | ⟨g, cap, cur, rfl, hB, hg, r⟩
  · exact .inl h2
  · exact .inr ⟨g, cap, cur, rfl, hB, (hb g rfl).trans hg, r⟩

theorem tw_mid {w0 wr w1 : World} {B k : Nat} {va vb va' : Value} {xa xb : List Value} {a0 a1 a2 a3 : Value} {o2 : Obj} (hoa : wr.ownsRow B 30 4 va k xa) (hob : wr.ownsRow B 30 4 vb k xb)
    (hab : ∀ g, va.ownBlock = some g → vb.ownBlock ≠ some g) (hbel : Below B w0 wr) (hB : B ≤ wr.heap.size) (hg : ((wr.alloc (.cells #[a0, a1, a2, a3] 30)).alloc o2).grownBy w1 va.ownBlock)
    (hat : va'.ownBlock = va.ownBlock ∨ va'.ownBlock = some ((wr.alloc (.cells #[a0, a1, a2, a3] 30)).alloc o2).heap.size) :
    w1.cell? ⟨wr.heap.size, 0, none⟩ = some a0 ∧ w1.cell? ⟨wr.heap.size, 1, none⟩ = some a1 ∧ w1.cell? ⟨wr.heap.size, 2, none⟩ = some a2 ∧ w1.cell? ⟨wr.heap.size, 3, none⟩ = some a3 ∧ (∀ i, w1.frozen? ⟨wr.heap.size, i, none⟩ = false) ∧
    w1.ownsRow B 30 4 vb k xb ∧ (∀ g, va'.ownBlock = some g → vb.ownBlock ≠ some g) ∧ va'.ownBlock ≠ some wr.heap.size ∧ vb.ownBlock ≠ some wr.heap.size ∧ Below B w0 w1 ∧ wr.heap.size + 2 ≤ w1.heap.size := by
  have hX : w1.heap[wr.heap.size]? = some (.cells #[a0, a1, a2, a3] 30 (0, 0)) := by
    rw [hg.block wr.heap.size (by simp; omega) (fun e => by have := (hoa.lt _ e.symm).2; omega), Below.heap_alloc _ _ _ (by simp)]
    exact heap_alloc_new _ _
  have hsz := hg.size
  simp at hsz
  refine ⟨by simp [World.cell?, hX], by simp [World.cell?, hX], by simp [World.cell?, hX], by simp [World.cell?, hX], fun i => by simp [World.frozen?, hX], ?_, ?_, ?_, ?_, ?_, hsz⟩
  · refine ownsRow_of_block hob fun g hgb => ?_
    have hl := (hob.lt g hgb).2
    rw [hg.block g (by simp; omega) (fun e => hab g e.symm hgb), Below.heap_alloc _ _ _ (by simp; omega), Below.heap_alloc _ _ _ hl]
  · intro g hga hgb
    rcases hat with h | h
    · exact hab g (h ▸ hga) hgb
    · have hl := (hob.lt g hgb).2
      rw [h] at hga
      simp at hga
      omega
  · intro e
    rcases hat with h | h
    · have := (hoa.lt _ (h ▸ e)).2; omega
    · rw [h] at e; simp at e; omega
  · intro e
    have := (hob.lt _ e).2; omega
  · exact ((hbel.alloc hB _).alloc (by simp; omega) _).grown hg (by simp; omega) (fun j hj => (hoa.lt j hj).1)

theorem tw_end {w0 w1 w3 : World} {B k X : Nat} {va vb vb' : Value} {xa xb : List Value} {u v : Value} {o3 : Obj} (hoa : w1.ownsRow B 30 4 va (k + 1) xa) (hob : w1.ownsRow B 30 4 vb k xb)
    (hab : ∀ g, va.ownBlock = some g → vb.ownBlock ≠ some g) (hXa : va.ownBlock ≠ some X) (hBX : B ≤ X) (hbel : Below B w0 w1) (hB : B ≤ w1.heap.size)
    (hg : (((w1.setCell ⟨X, 1, none⟩ u).setCell ⟨X, 2, none⟩ v).alloc o3).grownBy w3 vb.ownBlock)
    (hat : vb'.ownBlock = vb.ownBlock ∨ vb'.ownBlock = some (((w1.setCell ⟨X, 1, none⟩ u).setCell ⟨X, 2, none⟩ v).alloc o3).heap.size) :
    w3.ownsRow B 30 4 va (k + 1) xa ∧ (∀ g, va.ownBlock = some g → vb'.ownBlock ≠ some g) ∧ Below B w0 w3 := by
  refine ⟨?_, ?_, ?_⟩
  · refine ownsRow_of_block hoa fun g hga => ?_
    have hl := (hoa.lt g hga).2
    have hne : g ≠ X := fun e => hXa (e ▸ hga)
    rw [hg.block g (by simp [World.setCell]; omega) (fun e => hab g hga e.symm), Below.heap_alloc _ _ _ (by simp [World.setCell]; omega), Below.heap_setCell _ _ _ _ (by simpa using hne), Below.heap_setCell _ _ _ _ (by simpa using hne)]
  · intro g hga hgb
    rcases hat with h | h
    · exact hab g hga (h ▸ hgb)
    · rw [h] at hgb
      have hl := (hoa.lt g hga).2
      simp [World.setCell] at hgb
      omega
  · exact (((hbel.setCell (p := ⟨X, 1, none⟩) hBX u).setCell (p := ⟨X, 2, none⟩) hBX v).alloc (by simp [World.setCell]; omega) _).grown hg (by simp [World.setCell]; omega) (fun j hj => (hob.lt j hj).1)

theorem own_set2 {w : World} {B n X : Nat} {v a b : Value} {xs : List Value} (h : w.ownsRow B 30 4 v n xs) (hX : v.ownBlock ≠ some X) : ((w.setCell ⟨X, 1, none⟩ a).setCell ⟨X, 2, none⟩ b).ownsRow B 30 4 v n xs :=
  ownsRow_of_block h fun g hg => by
    have hne : g ≠ X := fun e => hX (e ▸ hg)
    rw [Below.heap_setCell _ _ _ _ (by simpa using hne), Below.heap_setCell _ _ _ _ (by simpa using hne)]

theorem hot_swap {L L' : Nat → Ld} (h : ∀ i, (L' i).weight = (L i).weight) (n : Nat) : hotOf L' n = hotOf L n := by
  induction n with
  | zero => rfl
  | succ n ih => simp only [hotOf, ih, h]
theorem sum_swap {L L' : Nat → Ld} (h : ∀ i, (L' i).weight = (L i).weight) (n : Nat) : sumOf L' n = sumOf L n := by
  induction n with
  | zero => rfl
  | succ n ih => simp only [sumOf, ih, h]
theorem join_swap {L L' : Nat → Ld} (h : ∀ i, (L' i).keys = (L i).keys) (n : Nat) : ∀ i, joinOf L' i n = joinOf L i n := by
  induction n with
  | zero => intro i; rfl
  | succ n ih => intro i; simp only [joinOf, ih, h]

/-- What counts for a split, a join and a migration is how often a part is asked, not by whom. -/
theorem choose_swap {L L' : Nat → Ld} (hw : ∀ i, (L' i).weight = (L i).weight) (hk : ∀ i, (L' i).keys = (L i).keys) (n : Nat) (draw : Int) :
    (chooseOf n L draw = none ∧ chooseOf n L' draw = none) ∨ ∃ k a b b', chooseOf n L draw = some (k, a, b) ∧ chooseOf n L' draw = some (k, a, b') := by
  unfold chooseOf
  rw [sum_swap hw, hot_swap hw, hk, hw, join_swap hk]
  split
  · exact .inl ⟨rfl, rfl⟩
  · split
    · exact .inr ⟨_, _, _, _, rfl, rfl⟩
    · split
      · exact .inr ⟨_, _, _, _, rfl, rfl⟩
      · exact .inr ⟨_, _, _, _, rfl, rfl⟩

/-- What is made of a load first, and what second. -/
def La (L : Nat → Ld) : Nat → Ld := fun j => ⟨(L j).keys, bits .and .i64 (L j).reads 1048575, bits .and .i64 (L j).writes 1048575, (L j).kind⟩
def Lb (L : Nat → Ld) : Nat → Ld := fun j => ⟨(L j).keys, bits .and .i64 (L j).writes 1048575, bits .and .i64 (L j).reads 1048575, (L j).kind⟩

set_option maxRecDepth 100000 in
set_option maxHeartbeats 2000000 in
theorem twice_calls (A : Option Addr) (n cap : Nat) (L : Nat → Ld) (draw : Int) (w : World) (hL : Sl w A n L) (hk : Kinds n L) (hd0 : 0 ≤ draw) (hd1 : draw ≤ 4294967295) :
    Calls Try.prog 7 #[.slice A n cap, .int .u32 draw] w fun e w' => e = .returned (.bool true) ∧ Below w.heap.size w w' := by
  obtain ⟨i0, hi, hz0, hz1, hz2⟩ := info_parts Try.info30
  by_cases hn : n ≤ 16
  · go_enter Try.func7, Try.ntmps7
    go_wp2_with (go_at_call 9; refine (awake_calls _).mono ?_; rintro e w0 ⟨rfl, hb0⟩)
    have hs0 := hb0.size
    have hL0 := hL.below hb0
    go_loopw [5, 6, 7] (fun va vb i wr => ∃ k : Nat, k ≤ n ∧ i = .int .i64 k ∧ wr.ownsRow w0.heap.size 30 4 va k (flat (La L) k) ∧
        wr.ownsRow w0.heap.size 30 4 vb k (flat (Lb L) k) ∧ (∀ g, va.ownBlock = some g → vb.ownBlock ≠ some g) ∧ Below w0.heap.size w0 wr)
      (fun _ _ i _ => n - (intOf i).toNat)
    case atStart => exact ⟨0, by omega, rfl, World.ownsRow_nil _ _ _ _, World.ownsRow_nil _ _ _ _, by simp [Value.ownBlock], Below.refl _ _⟩
    case round =>
      obtain ⟨k, g1, rfl, hoa, hob, hab, hbel⟩ := hrel
      have hab := Lib.hid hab
      by_cases hlt : k < n
      · obtain ⟨b, off, rfl, hLd⟩ := hL0 (by omega)
        have hblt := World.block_lt_of_cell? w0 _ (hLd k hlt).1
        simp only at hblt
        obtain ⟨c0, c1, c2, c3⟩ := (hLd.below hbel hblt) k hlt
        have hsz := hbel.size
        go_wp2_with (first
          | (at_builtin; refine wpList_append_own_at _ rfl (.tmp 36) (.tmp 38) 31 rfl w0.heap.size 30 i0 _ 4 32 Try.underlying31 hi hz0 hz1 hz2 rfl (by decide) _ _ _ rfl ((hoa.alloc _).alloc _) ⟨wr.heap.size + 1, 0, none⟩ 1 1 [.int .i64 (L k).keys, .int .i64 (bits .and .i64 (L k).reads 1048575), .int .i64 (bits .and .i64 (L k).writes 1048575), .int .u8 (L k).kind] rfl rfl (World.news_of_block (cs := #[.int .i64 (L k).keys, .int .i64 (bits .and .i64 (L k).reads 1048575), .int .i64 (bits .and .i64 (L k).writes 1048575), .int .u8 (L k).kind]) (t := 30) (fr := (0, 0)) (alloc_at_ (by simp) _)) (by simp [Value.oneCell']) (by unfold maxLen; omega) (by omega) (by simp; omega) ?_; intro va' w1 hown1 hg1 _ hat1; obtain ⟨x0, x1, x2, x3, xf, hob1, hab1, hXa, hXb, hbel1, hsz1⟩ := tw_mid hoa hob hab.out hbel hsz hg1 hat1; have hab1 := Lib.hid hab1; clear hg1 hat1)
          | (at_builtin; refine wpList_append_own_at _ rfl (.tmp 46) (.tmp 48) 31 rfl w0.heap.size 30 i0 _ 4 32 Try.underlying31 hi hz0 hz1 hz2 rfl (by decide) _ _ _ rfl ((own_set2 hob1 hXb).alloc _) ⟨w1.heap.size, 0, none⟩ 1 1 [.int .i64 (L k).keys, .int .i64 (bits .and .i64 (L k).writes 1048575), .int .i64 (bits .and .i64 (L k).reads 1048575), .int .u8 (L k).kind] rfl rfl (World.news_of_block (cs := #[.int .i64 (L k).keys, .int .i64 (bits .and .i64 (L k).writes 1048575), .int .i64 (bits .and .i64 (L k).reads 1048575), .int .u8 (L k).kind]) (t := 30) (fr := (0, 0)) (alloc_at_ (by simp [World.setCell]) _)) (by simp [Value.oneCell']) (by unfold maxLen; omega) (by omega) (by simp [World.setCell]; omega) ?_; intro vb' w3 hown3 hg3 _ hat3; obtain ⟨hoa3, hab3, hbel3⟩ := tw_end hown1 hob1 hab1.out hXa hsz hbel1 (by omega) hg3 hat3; have hab3 := Lib.hid hab3; clear hg3 hat3))
        go_roundw
        case rel => exact ⟨k + 1, by omega, by go_num, hoa3, hown3, hab3.out, hbel3⟩
        case measure => simp [intOf]; omega
      · obtain rfl : k = n := by omega
        have hB := hbel.size
        obtain ⟨Aa, ca, rfl, hSa⟩ := Sl.of_own hoa
        obtain ⟨Ab, cb, rfl, hSb⟩ := Sl.of_own hob
        have hka : Kinds k (La L) := hk
        have hkb : Kinds k (Lb L) := hk
        have hsw := choose_swap (L := La L) (L' := Lb L) (fun i => by simp only [Ld.weight, La, Lb]; omega) (fun i => rfl) k draw
        clear hoa hob hab hlt hk hL0
        rcases hsw with ⟨r1, r2⟩ | ⟨qk, qa, qb, qb', r1, r2⟩
        · have R1 := Lib.hid r1
          have R2 := Lib.hid r2
          clear r1 r2
          go_wp2_with fail
          refine (choose_any Aa k ca _ draw _ hSa hka (by omega) hd0 hd1).mono ?_
          rintro e w2 ⟨rfl, hb2⟩
          rw [R1.out]
          simp only [chosen, Option.isSome]
          go_wp2_with fail
          refine (choose_any Ab k cb _ draw _ ((hSb.below hb2).alloc _) hkb (by omega) hd0 hd1).mono ?_
          rintro e w3 ⟨rfl, hb3⟩
          rw [R2.out]
          simp only [chosen, Option.isSome]
          have E1 := (EntAt.new w2 0 0 0).below hb3
          have C1 := (E1.alloc (.cells #[.int .u8 0, .int .i64 0, .int .i64 0, .int .u8 0, .string ⟨#[]⟩, .string ⟨#[]⟩, .string ⟨#[]⟩, .bool false, .bool false, .slice none 0 0] 26)).cells
          go_wp2
          go_ret
          have HB : Bl w w3 := (((Bl.refl w).then_ hb0).then_ (hbel.mono (Nat.le_refl _))).then_ hb2 |>.alloc _ |>.then_ hb3
          exact ⟨rfl, (HB.alloc _).1⟩
        · have R1 := Lib.hid r1
          have R2 := Lib.hid r2
          clear r1 r2
          go_wp2_with fail
          refine (choose_any Aa k ca _ draw _ hSa hka (by omega) hd0 hd1).mono ?_
          rintro e w2 ⟨rfl, hb2⟩
          rw [R1.out]
          simp only [chosen, Option.isSome]
          go_wp2_with fail
          refine (choose_any Ab k cb _ draw _ ((hSb.below hb2).alloc _) hkb (by omega) hd0 hd1).mono ?_
          rintro e w3 ⟨rfl, hb3⟩
          rw [R2.out]
          simp only [chosen, Option.isSome]
          have E1 := (EntAt.new w2 qk qa qb).below hb3
          have C1 := (E1.alloc (.cells #[.int .u8 qk, .int .i64 qa, .int .i64 qb', .int .u8 0, .string ⟨#[]⟩, .string ⟨#[]⟩, .string ⟨#[]⟩, .bool false, .bool false, .slice none 0 0] 26)).cells
          go_wp2
          go_ret
          have HB : Bl w w3 := (((Bl.refl w).then_ hb0).then_ (hbel.mono (Nat.le_refl _))).then_ hb2 |>.alloc _ |>.then_ hb3
          exact ⟨rfl, (HB.alloc _).1⟩
  · have hn' : 16 < n := by omega
    go_enter Try.func7, Try.ntmps7
    go_wp2_with (go_at_call 9; refine (awake_calls _).mono ?_; rintro e w0 ⟨rfl, hb0⟩)
    go_ret
    exact ⟨rfl, hb0⟩

end Go.Proofs.Yticnnjcpmiakgaa
