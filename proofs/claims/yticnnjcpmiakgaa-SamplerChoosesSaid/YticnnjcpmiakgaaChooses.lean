/-
  The walk over SamplerChooses: the program's order is the document's.
-/
import Derived.Test.YticnnjcpmiakgaaRef
import Derived.Test.YticnnjcpmiakgaaScale
import Derived.Laws.AppendOwnNone
namespace Go.Proofs.Yticnnjcpmiakgaa
open Go.RowKit

theorem Try.info36 : (Try.prog.info? 36).map (fun i => (i.zero, i.size, i.bytes)) = some (some (.agg #[.int .i64 0, .int .i64 0, .int .i64 0, .int .u8 0]), 4, 32) := by kernel_rfl

theorem flat_one (L : Nat → Ld) : ∀ k, ∀ u ∈ flat L k, u.oneCell' = true := by
  intro k
  induction k with
  | zero => intro u h; cases h
  | succ k ih =>
    intro u h
    simp only [flat, List.mem_append] at h
    rcases h with h | h
    · exact ih u h
    · simp at h; rcases h with rfl | rfl | rfl | rfl <;> rfl

theorem flat_cell {w : World} {b off n : Nat} {L : Nat → Ld} (h : Lds w b off n L) : ∀ k, k ≤ n → ∀ j u, (flat L k)[j]? = some u → w.cell? ((⟨b, off, none⟩ : Addr).add j) = some u := by
  have ha : ∀ j, (⟨b, off, none⟩ : Addr).add j = ⟨b, off + j, none⟩ := fun j => by unfold Addr.add; split <;> simp_all
  intro k
  induction k with
  | zero => intro _ j u hu; simp [flat] at hu
  | succ k ih =>
    intro hk j u hu
    have hl := flat_length L k
    simp only [flat] at hu
    rcases Nat.lt_or_ge j (flat L k).length with hj | hj
    · rw [List.getElem?_append_left hj] at hu
      exact ih (by omega) j u hu
    · rw [List.getElem?_append_right hj] at hu
      obtain ⟨h0, h1, h2, h3⟩ := h k (by omega)
      rw [ha]
      obtain ⟨d, hd⟩ : ∃ d, j = k * 4 + d := ⟨j - k * 4, by omega⟩
      subst hd
      rw [hl, Nat.add_sub_cancel_left] at hu
      match d, hu with
      | 0, hu => simp at hu; subst hu; exact h0
      | 1, hu => simp at hu; subst hu; exact h1
      | 2, hu => simp at hu; subst hu; exact h2
      | 3, hu => simp at hu; subst hu; exact h3
      | d + 4, hu => simp at hu

theorem Sl_own {w : World} {B n c : Nat} {e : TypeId} {A : Option Addr} {L : Nat → Ld} (h : w.ownsRow B e 4 (.slice A n c) n (flat L n)) : Sl w A n L := fun hn => by
  obtain ⟨g, cap, hv, _, _⟩ := h.form hn
  injection hv with hA _ _
  subst hA
  refine ⟨g, 0, rfl, fun i hi => ?_⟩
  obtain ⟨h0, h1, h2, h3⟩ := flat_get L n i hi
  have hc := h.cells (g := g) rfl
  have ha : ∀ j, (⟨g, 0, none⟩ : Addr).add j = ⟨g, 0 + j, none⟩ := fun j => by unfold Addr.add; split <;> simp_all
  exact ⟨by have := hc _ _ h0; rwa [ha] at this, by have := hc _ _ h1; rwa [ha] at this, by have := hc _ _ h2; rwa [ha] at this, by have := hc _ _ h3; rwa [ha] at this⟩

theorem own_form {w : World} {B n : Nat} {e : TypeId} {v : Value} {xs : List Value} (h : w.ownsRow B e 4 v n xs) : ∃ A c, v = .slice A n c := by
  rcases h.2 with ⟨rfl, rfl⟩ | ⟨g, cap, cur, rfl, _⟩
  · exact ⟨none, 0, rfl⟩
  · exact ⟨_, cap, rfl⟩

set_option maxRecDepth 100000 in
set_option maxHeartbeats 4000000 in
theorem chooses_calls (A : Option Addr) (n cap : Nat) (L : Nat → Ld) (draw : Int) (w : World) (hL : Sl w A n L) (hk : Kinds n L) (hA : A = none → cap = 0) (hd0 : 0 ≤ draw) (hd1 : draw ≤ 4294967295) :
    Calls Try.prog 4 #[.slice A n cap, .int .u32 draw] w fun e w' => e = .returned (.bool true) ∧ Below w.heap.size w w' := by
  obtain ⟨i0, hi, hz0, hz1, hz2⟩ := info_parts Try.info30
  obtain ⟨i1, hj, hy0, hy1, hy2⟩ := info_parts Try.info36
  by_cases hn : n ≤ 1000
  · go_enter Try.func4, Try.ntmps4
    go_upto_region 6 with (go_at_call 9; refine (awake_calls _).mono ?_; rintro e w0 ⟨rfl, hb0⟩)
    have hS0 := hL.below hb0
    have hs0 := hb0.size
    have hmade : (w0.alloc (.cells #[] 30)).ownsRow w0.heap.size 30 4 (.slice (some ⟨w0.heap.size, 0, none⟩) 0 0) 0 [] := World.ownsRow_made w0 #[] 0 (Nat.le_refl _) (Nat.zero_le _) rfl
    go_cut [6] (fun vo W => ∃ g co, vo = .slice (some ⟨g, 0, none⟩) n co ∧ g < W.heap.size ∧ W.ownsRow w0.heap.size 30 4 (.slice (some ⟨g, 0, none⟩) n co) n (flat L n) ∧ Below w0.heap.size w0 W)
    case first =>
      rcases A with _ | ad
      · have h0 : cap = 0 := hA rfl
        subst h0
        have hn0 : n = 0 := by
          rcases Nat.eq_zero_or_pos n with h | h
          · exact h
          · obtain ⟨b, off, e, _⟩ := hL h; cases e
        subst hn0
        go_wp2_with fail
        go_meet
        exact ⟨_, _, rfl, by simp, hmade, (Below.refl _ _).alloc (Nat.le_refl _) _⟩
      · have hnews : ∀ j u, (flat L n)[j]? = some u → (w0.alloc (.cells #[] 30)).cell? (ad.add j) = some u := by
          rcases Nat.eq_zero_or_pos n with rfl | hp
          · intro j u hu; simp [flat] at hu
          · obtain ⟨b, off, e, hLd⟩ := hS0 hp
            injection e with e
            subst e
            have hb := World.block_lt_of_cell? w0 _ (hLd 0 hp).1
            exact flat_cell (hLd.below ((Below.refl _ _).alloc (Nat.le_refl _) _) hb) n (Nat.le_refl _)
        have hfl := flat_length L n
        have Hn := Lib.hid hnews
        have Hm := Lib.hid hmade
        have Hl := Lib.hid hfl
        clear hnews hmade hfl
        go_wp2_with (at_builtin; refine wpList_append_own_at _ rfl (.tmp 18) (.tmp 19) 31 rfl w0.heap.size 30 i0 _ 4 32 Try.underlying31 hi hz0 hz1 hz2 rfl (by decide) (.slice (some ⟨w0.heap.size, 0, none⟩) 0 0) 0 [] rfl Hm.out ad n cap (flat L n) rfl Hl.out Hn.out (flat_one L n) (by unfold maxLen; omega) (by omega) (by simp) ?_; intro vo w1 hown hg hnil hat)
        have hown' : w1.ownsRow w0.heap.size 30 4 vo n (flat L n) := by simpa using hown
        have hlt : ∀ g, vo.ownBlock = some g → g < w1.heap.size := fun g h => (hown.lt g h).2
        have hb1 : Below w0.heap.size w0 w1 := ((Below.refl _ _).alloc (Nat.le_refl _) _).grown hg (by simp) (fun j h => by have h2 : w0.heap.size = j := (by simpa [Value.ownBlock] using h); omega)
        have hne : vo ≠ .slice none 0 0 := by intro e; simp [e] at hnil
        go_meet
        rcases hown'.2 with ⟨h, _⟩ | ⟨g, co, cur, rfl, _⟩
        · exact absurd h hne
        · exact ⟨g, co, rfl, hlt g rfl, hown', hb1⟩
    case rest =>
      obtain ⟨g, co, rfl, hgl, hvo, hbel⟩ := hcut
      go_wp2
      go_loopw [5, 7] (fun vm i wr => ∃ k : Nat, k ≤ n ∧ i = .int .i64 k ∧ wr.ownsRow w0.heap.size 36 4 vm k (flat L k) ∧ wr.ownsRow w0.heap.size 30 4 (.slice (some ⟨g, 0, none⟩) n co) n (flat L n) ∧ vm.ownBlock ≠ some g ∧ Below w0.heap.size w0 wr)
        (fun _ i _ => n - (intOf i).toNat)
      case atStart => exact ⟨0, by omega, rfl, World.ownsRow_nil _ _ _ _, hvo, by simp [Value.ownBlock], hbel⟩
      case round =>
        obtain ⟨k, g1, rfl, hom, hoo, hne, hbr⟩ := hrel
        have hne := Lib.hid hne
        by_cases hlt : k < n
        · obtain ⟨b, off, rfl, hLd⟩ := hS0 (by omega)
          have hblt := World.block_lt_of_cell? w0 _ (hLd k hlt).1
          simp only at hblt
          obtain ⟨c0, c1, c2, c3⟩ := (hLd.below hbr hblt) k hlt
          have hsz := hbr.size
          have hgr := (hoo.lt g rfl).2
          go_wp2_with (at_builtin; refine wpList_append_own_at _ rfl (.tmp 27) (.tmp 32) 35 rfl w0.heap.size 36 i1 _ 4 32 Try.underlying35 hj hy0 hy1 hy2 rfl (by decide) _ _ _ rfl (hom.alloc _) ⟨wr.heap.size, 0, none⟩ 1 1 [.int .i64 (L k).keys, .int .i64 (L k).reads, .int .i64 (L k).writes, .int .u8 (L k).kind] rfl rfl (World.news_of_block (cs := #[.int .i64 (L k).keys, .int .i64 (L k).reads, .int .i64 (L k).writes, .int .u8 (L k).kind]) (t := 36) (fr := (0, 0)) (heap_alloc_new wr _)) (by simp [Value.oneCell']) (by unfold maxLen; omega) (by omega) (by simp; omega) ?_; intro vm' w1 hown1 hg1 _ hat1)
          have hoo1 : w1.ownsRow w0.heap.size 30 4 (.slice (some ⟨g, 0, none⟩) n co) n (flat L n) := ownsRow_of_block hoo fun g' hg' => by
            have e : g' = g := by simpa [Value.ownBlock] using hg'.symm
            subst e
            rw [hg1.block g' (by simp; omega) (fun e => hne.out e.symm), Below.heap_alloc _ _ _ hgr]
          have hne1 : vm'.ownBlock ≠ some g := by
            intro e
            rcases hat1 with h | h
            · exact hne.out (h ▸ e)
            · rw [h] at e; simp at e; omega
          have hb1 : Below w0.heap.size w0 w1 := (hbr.alloc hsz _).grown hg1 (by simp; omega) (fun j hj' => (hom.lt j hj').1)
          have hne1 := Lib.hid hne1
          clear hat1 hg1
          go_wp2
          go_roundw
          case rel => exact ⟨k + 1, by omega, by go_num, hown1, hoo1, hne1.out, hb1⟩
          case measure => simp [intOf]; omega
        · obtain rfl : k = n := by omega
          obtain ⟨Am, cm, rfl⟩ := own_form hom
          obtain ⟨qk, qa, qb, qo, q1, q2⟩ := chosen_form (chooseOf k L draw)
          have Q1 := Lib.hid q1
          have Q2 := Lib.hid q2
          have hsr := hbr.size
          have hSr : Sl wr A k L := by
            intro hp
            obtain ⟨b, off, e, hLd⟩ := hS0 hp
            exact ⟨b, off, e, hLd.below hbr (World.block_lt_of_cell? w0 _ (hLd 0 hp).1)⟩
          clear q1 q2 hlt hvo hbel hne
          go_wp2_with fail
          refine (choose_any _ k co L draw _ (Sl_own hoo) hk (by omega) hd0 hd1).mono ?_
          rintro e w2 ⟨rfl, hb2⟩
          rw [Q1.out, Q2.out]
          go_wp2_with fail
          refine (ref_any Am k cm L draw _ (((Sl_own hom).below hb2).alloc _) hk (by omega) hd0 hd1).mono ?_
          rintro e w3 ⟨rfl, hb3⟩
          rw [Q1.out, Q2.out]
          have HBr : Bl w wr := ((Bl.refl w).then_ hb0).then_ hbr
          have HB3 : Bl w (w3.alloc (.cells #[.int .u8 qk, .int .i64 qa, .int .i64 qb, .int .u8 0, .string ⟨#[]⟩, .string ⟨#[]⟩, .string ⟨#[]⟩, .bool false, .bool false, .slice none 0 0] 26)) := (((HBr.then_ hb2).alloc _).then_ hb3).alloc _
          have E1 : EntAt (w3.alloc (.cells #[.int .u8 qk, .int .i64 qa, .int .i64 qb, .int .u8 0, .string ⟨#[]⟩, .string ⟨#[]⟩, .string ⟨#[]⟩, .bool false, .bool false, .slice none 0 0] 26)) w2.heap.size qk qa qb := ((EntAt.new w2 qk qa qb).below hb3).alloc _
          have E2 : EntAt (w3.alloc (.cells #[.int .u8 qk, .int .i64 qa, .int .i64 qb, .int .u8 0, .string ⟨#[]⟩, .string ⟨#[]⟩, .string ⟨#[]⟩, .bool false, .bool false, .slice none 0 0] 26)) w3.heap.size qk qa qb := EntAt.new w3 qk qa qb
          have hoo3 := Lib.hid (Sl_own ((own_below ((own_below hoo hb2).alloc (.cells #[.int .u8 qk, .int .i64 qa, .int .i64 qb, .int .u8 0, .string ⟨#[]⟩, .string ⟨#[]⟩, .string ⟨#[]⟩, .bool false, .bool false, .slice none 0 0] 26)) hb3).alloc (.cells #[.int .u8 qk, .int .i64 qa, .int .i64 qb, .int .u8 0, .string ⟨#[]⟩, .string ⟨#[]⟩, .string ⟨#[]⟩, .bool false, .bool false, .slice none 0 0] 26)))
          have hS3 := Lib.hid ((((hSr.below hb2).alloc (.cells #[.int .u8 qk, .int .i64 qa, .int .i64 qb, .int .u8 0, .string ⟨#[]⟩, .string ⟨#[]⟩, .string ⟨#[]⟩, .bool false, .bool false, .slice none 0 0] 26)).below hb3).alloc (.cells #[.int .u8 qk, .int .i64 qa, .int .i64 qb, .int .u8 0, .string ⟨#[]⟩, .string ⟨#[]⟩, .string ⟨#[]⟩, .bool false, .bool false, .slice none 0 0] 26))
          go_wp2
          generalize w3.alloc (.cells #[.int .u8 qk, .int .i64 qa, .int .i64 qb, .int .u8 0, .string ⟨#[]⟩, .string ⟨#[]⟩, .string ⟨#[]⟩, .bool false, .bool false, .slice none 0 0] 26) = W at *
          generalize w2.heap.size = X at *
          generalize w3.heap.size = Y at *
          clear hb0 hb2 hb3 hL hS0 hom hoo hSr hbr
          have hE1 := Lib.hid E1
          have hE2 := Lib.hid E2
          clear E1 E2
          go_loopw [12] (fun i wr => ∃ m d : Nat, m ≤ k ∧ i = .int .i64 m ∧ wr = W.drewN d) (fun i _ => k - (intOf i).toNat)
          case atStart => exact ⟨0, 0, by omega, rfl, rfl⟩
          case round =>
            obtain ⟨m, d, g2, rfl, rfl⟩ := hrel
            by_cases hlt : m < k
            · obtain ⟨b, off, rfl, hLd⟩ := hS3.out (by omega)
              obtain ⟨c0, c1, c2, c3⟩ := hLd m hlt
              obtain ⟨b2, off2, e2, hLd2⟩ := hoo3.out (by omega)
              obtain ⟨d0, d1, d2, d3⟩ := hLd2 m hlt
              simp only [Option.some.injEq, Addr.mk.injEq, and_true] at e2
              obtain ⟨rfl, rfl⟩ := e2
              rw [Nat.zero_add] at d0 d1 d2 d3
              have hg30 := Try.eqGuardType30
              have hs30 := Try.stoodInHeld30
              have hx0 : (0 : Int) ≤ (m : Int) := by omega
              have hx1 : (m : Int) < (k : Int) := by omega
              clear hLd hLd2
              go_upto_region 16 with fail
              go_quiet (fail)
              go_wp2_with fail
              go_roundw
              case rel => exact ⟨m + 1, _, by omega, by go_num, rfl⟩
              case measure => simp [intOf]; omega
            · obtain rfl : m = k := by omega
              have C1 := (hE1.out.drewN d).cells
              have C2 := (hE2.out.drewN d).cells
              go_wp2_with fail
              refine (equal_calls qk qa qb _).mono ?_
              rintro e w4 ⟨rfl, hb4⟩
              go_wp2
              go_ret
              exact ⟨rfl, ((HB3.drewN d).then_ hb4).1⟩
  · have hn' : 1000 < n := by omega
    go_enter Try.func4, Try.ntmps4
    go_wp2_with (go_at_call 9; refine (awake_calls _).mono ?_; rintro e w0 ⟨rfl, hb0⟩)
    go_ret
    exact ⟨rfl, hb0⟩

end Go.Proofs.Yticnnjcpmiakgaa
