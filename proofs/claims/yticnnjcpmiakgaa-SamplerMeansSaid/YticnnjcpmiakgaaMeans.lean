/-
  The walk over SamplerMeans.
-/
import Derived.Test.YticnnjcpmiakgaaWalkD
import Derived.Test.YticnnjcpmiakgaaMeansP
namespace Go.Proofs.Yticnnjcpmiakgaa
open Go.RowKit

theorem and_one_u32 (E : Int) (h0 : 0 ≤ E) (h1 : E ≤ 4294967295) : bits BinOp.and IntKind.u32 E 1 = E % 2 := by
  rw [u32_and E 1 h0 (by omega) (by omega) (by omega), show (1 : Int).toNat = 1 from rfl, Nat.and_one_is_mod]
  omega

theorem askedB_hit1 {L : Nat → Ld} {k : Nat} (h : askedB L k = true) : askedB L (k + 1) = true := by simp [askedB, h]
theorem askedB_hit2 {L : Nat → Ld} {k : Nat} (h : 0 < (L k).reads) : askedB L (k + 1) = true := by simp [askedB, h]
theorem askedB_next {L : Nat → Ld} {k : Nat} (h : askedB L k = false) (h1 : ¬ 0 < (L k).reads) : askedB L (k + 1) = decide (0 < (L k).writes) := by simp [askedB, h, h1]

set_option maxRecDepth 100000 in
set_option maxHeartbeats 4000000 in
theorem means_calls (A : Option Addr) (n cap : Nat) (L : Nat → Ld) (draw other : Int) (w : World) (hL : Sl w A n L) (hk : Kinds n L) (hd0 : 0 ≤ draw) (hd1 : draw ≤ 4294967295) (ho0 : 0 ≤ other) (ho1 : other ≤ 4294967295) :
    Calls Try.prog 5 #[.slice A n cap, .int .u32 draw, .int .u32 other] w fun e w' => e = .returned (.bool true) ∧ Below w.heap.size w w' := by
  by_cases hn : n ≤ 1000
  · go_enter Try.func5, Try.ntmps5
    go_wp2_with (go_at_call 9; refine (awake_calls _).mono ?_; rintro e w0 ⟨rfl, hb0⟩)
    have HK := Lib.hid (choose_even L n draw)
    obtain ⟨qk, qa, qb, qb', qo, q1, q2, q3, q4⟩ : ∃ qk qa qb qb' qo, chosen (chooseOf n L draw) = ent qk qa qb ∧ (chooseOf n L draw).isSome = qo ∧ chosen (chooseOf n L other) = ent qk qa qb' ∧ (chooseOf n L other).isSome = qo := by
      rcases choose_draws L n draw other with ⟨h1, h2⟩ | ⟨k, a, b, b', h1, h2⟩
      · exact ⟨0, 0, 0, 0, false, by rw [h1]; rfl, by rw [h1]; rfl, by rw [h2]; rfl, by rw [h2]; rfl⟩
      · exact ⟨k, a, b, b', true, by rw [h1]; rfl, by rw [h1]; rfl, by rw [h2]; rfl, by rw [h2]; rfl⟩
    have Q1 := Lib.hid q1
    have Q2 := Lib.hid q2
    have Q3 := Lib.hid q3
    have Q4 := Lib.hid q4
    clear q1 q2 q3 q4
    have hS0 := hL.below hb0
    refine (choose_any A n cap L draw _ hS0 hk (by omega) hd0 hd1).mono ?_
    rintro e w1 ⟨rfl, hb1⟩
    rw [Q1.out, Q2.out]
    go_wp2_with fail
    rw [and_one_u32 draw hd0 hd1]
    refine (choose_any A n cap L (draw % 2) _ ((hS0.below hb1).alloc _) hk (by omega) (by omega) (by omega)).mono ?_
    rintro e w2 ⟨rfl, hb2⟩
    rw [HK.out, Q1.out, Q2.out]
    go_wp2_with fail
    refine (choose_any A n cap L other _ ((((hS0.below hb1).alloc _).below hb2).alloc _) hk (by omega) ho0 ho1).mono ?_
    rintro e w3 ⟨rfl, hb3⟩
    rw [Q3.out, Q4.out]
    have HB3 : Bl w (w3.alloc (.cells #[.int .u8 qk, .int .i64 qa, .int .i64 qb', .int .u8 0, .string ⟨#[]⟩, .string ⟨#[]⟩, .string ⟨#[]⟩, .bool false, .bool false, .slice none 0 0] 26)) := (((((((Bl.refl w).then_ hb0).then_ hb1).alloc _).then_ hb2).alloc _).then_ hb3).alloc _
    have E1 : EntAt (w3.alloc (.cells #[.int .u8 qk, .int .i64 qa, .int .i64 qb', .int .u8 0, .string ⟨#[]⟩, .string ⟨#[]⟩, .string ⟨#[]⟩, .bool false, .bool false, .slice none 0 0] 26)) w1.heap.size qk qa qb := (((((EntAt.new w1 qk qa qb).below hb2).alloc (.cells #[.int .u8 qk, .int .i64 qa, .int .i64 qb, .int .u8 0, .string ⟨#[]⟩, .string ⟨#[]⟩, .string ⟨#[]⟩, .bool false, .bool false, .slice none 0 0] 26)).below hb3).alloc _)
    have E2 : EntAt (w3.alloc (.cells #[.int .u8 qk, .int .i64 qa, .int .i64 qb', .int .u8 0, .string ⟨#[]⟩, .string ⟨#[]⟩, .string ⟨#[]⟩, .bool false, .bool false, .slice none 0 0] 26)) w2.heap.size qk qa qb := ((EntAt.new w2 qk qa qb).below hb3).alloc _
    have E3 : EntAt (w3.alloc (.cells #[.int .u8 qk, .int .i64 qa, .int .i64 qb', .int .u8 0, .string ⟨#[]⟩, .string ⟨#[]⟩, .string ⟨#[]⟩, .bool false, .bool false, .slice none 0 0] 26)) w3.heap.size qk qa qb' := EntAt.new w3 qk qa qb'
    have hS3 : Sl (w3.alloc (.cells #[.int .u8 qk, .int .i64 qa, .int .i64 qb', .int .u8 0, .string ⟨#[]⟩, .string ⟨#[]⟩, .string ⟨#[]⟩, .bool false, .bool false, .slice none 0 0] 26)) A n L := (((((hS0.below hb1).alloc (.cells #[.int .u8 qk, .int .i64 qa, .int .i64 qb, .int .u8 0, .string ⟨#[]⟩, .string ⟨#[]⟩, .string ⟨#[]⟩, .bool false, .bool false, .slice none 0 0] 26)).below hb2).alloc (.cells #[.int .u8 qk, .int .i64 qa, .int .i64 qb, .int .u8 0, .string ⟨#[]⟩, .string ⟨#[]⟩, .string ⟨#[]⟩, .bool false, .bool false, .slice none 0 0] 26)).below hb3).alloc _
    go_wp2
    generalize w3.alloc (.cells #[.int .u8 qk, .int .i64 qa, .int .i64 qb', .int .u8 0, .string ⟨#[]⟩, .string ⟨#[]⟩, .string ⟨#[]⟩, .bool false, .bool false, .slice none 0 0] 26) = W at *
    generalize w1.heap.size = X at *
    generalize w2.heap.size = Y at *
    generalize w3.heap.size = Z at *
    clear hb0 hb1 hb2 hb3 hL hS0
    have hE1 := Lib.hid E1
    have hE2 := Lib.hid E2
    have hE3 := Lib.hid E3
    have hS3' := Lib.hid hS3
    clear E1 E2 E3 hS3
    go_loop [13, 14] (fun q i => ∃ k : Nat, k ≤ n ∧ i = .int .i64 k ∧ q = .bool (askedB L k)) (fun _ i => n - (intOf i).toNat)
    case atStart => exact ⟨0, by omega, rfl, rfl⟩
    case round =>
      obtain ⟨k, g1, rfl, rfl⟩ := hrel
      by_cases hlt : k < n
      · obtain ⟨b, off, rfl, hLd⟩ := hS3'.out (by omega)
        obtain ⟨c0, c1, c2, c3⟩ := hLd k hlt
        clear hLd
        by_cases ha : askedB L k = true
        · have HN := Lib.hid (askedB_hit1 ha)
          go_wp2
          go_round
          case rel => exact ⟨k + 1, by omega, by go_num, by rw [HN.out]⟩
          case measure => simp [intOf]; omega
        · have ha : askedB L k = false := by simpa using ha
          by_cases hr : 0 < (L k).reads
          · have HN := Lib.hid (askedB_hit2 hr)
            go_wp2
            go_round
            case rel => exact ⟨k + 1, by omega, by go_num, by rw [HN.out]⟩
            case measure => simp [intOf]; omega
          · have HN := Lib.hid (askedB_next ha hr)
            have hr' : (L k).reads ≤ 0 := by omega
            by_cases hwr : 0 < (L k).writes
            · go_wp2
              go_round
              case rel => exact ⟨k + 1, by omega, by go_num, by rw [HN.out, decide_eq_true hwr]⟩
              case measure => simp [intOf]; omega
            · have hw' : (L k).writes ≤ 0 := by omega
              go_wp2
              go_round
              case rel => exact ⟨k + 1, by omega, by go_num, by rw [HN.out, decide_eq_false hwr]⟩
              case measure => simp [intOf]; omega
      · obtain rfl : k = n := by omega
        have hqo : askedB L k = qo := by
          rw [← Q2.out]
          cases h : chooseOf k L draw with
          | none => have := (choose_none L k draw).1 h; exact Bool.eq_false_iff.2 (fun e => (asked_iff L k).1 e this)
          | some r => exact (asked_iff L k).2 (fun e => by rw [(choose_none L k draw).2 e] at h; cases h)
        rw [hqo]
        clear hqo
        have C1 := hE1.out.cells
        have C2 := hE2.out.cells
        go_wp2_with fail
        refine (equal_calls qk qa qb _).mono ?_
        rintro e w4 ⟨rfl, hb4⟩
        clear C1 C2
        have C1 := (hE1.out.below hb4).cells
        have C3 := (hE3.out.below hb4).cells
        cases h : chooseOf k L draw with
        | none =>
          have e1 := Q1.out
          have e2 := Q2.out
          rw [h] at e1 e2
          simp only [chosen, Value.agg.injEq, Array.mk.injEq, List.cons.injEq, Value.int.injEq, true_and, and_true, Option.isSome] at e1 e2
          obtain ⟨rfl, rfl, rfl⟩ := e1
          subst e2
          go_wp2_with fail
          refine (equal_calls 0 0 0 _).mono ?_
          rintro e w5 ⟨rfl, hb5⟩
          go_wp2
          go_ret
          exact ⟨rfl, ((HB3.then_ hb4).then_ hb5).1⟩
        | some r =>
          obtain ⟨k', a', b'⟩ := r
          have e1 := Q1.out
          have e2 := Q2.out
          rw [h] at e1 e2
          simp only [chosen, Value.agg.injEq, Array.mk.injEq, List.cons.injEq, Value.int.injEq, true_and, and_true, Option.isSome] at e1 e2
          obtain ⟨rfl, rfl, rfl⟩ := e1
          subst e2
          obtain ⟨i, rfl, hik, hcase⟩ := choose_means L k draw _ _ _ h
          obtain ⟨b, off, rfl, hLd⟩ := hS3'.out (by omega)
          have hbW := World.block_lt_of_cell? W _ (hLd i hik).1
          simp only at hbW
          have hLd4 := hLd.below hb4 hbW
          have hsz4 := hb4.size
          obtain ⟨c0, c1, c2, c3⟩ := hLd4 i hik
          have C4 := ((hE1.out.below hb4).alloc (.cells #[.int .i64 (L i).keys, .int .i64 (L i).reads, .int .i64 (L i).writes, .int .u8 (L i).kind] 30)).cells
          have hLd5 : Lds (w4.alloc (.cells #[.int .i64 (L i).keys, .int .i64 (L i).reads, .int .i64 (L i).writes, .int .u8 (L i).kind] 30)) b off k L := hLd4.below ((Below.refl _ _).alloc (Nat.le_refl _) _) (by omega)
          clear hLd hLd4 h Q1 Q2 Q3 Q4 HK
          rcases hcase with ⟨rfl, rfl, hbusy, hkeys, hk16⟩ | ⟨rfl, rfl, hi1, hkeys, hkeys1⟩ | ⟨rfl, hbusy, hb1, hb3, hbk⟩
          · rcases Int.lt_or_le 0 (L i).reads with hr | hr
            · clear hbusy
              go_wp2
              go_ret
              exact ⟨rfl, ((HB3.then_ hb4).alloc _).1⟩
            · have hwr : 0 < (L i).writes := by omega
              clear hbusy
              go_wp2
              go_ret
              exact ⟨rfl, ((HB3.then_ hb4).alloc _).1⟩
          · obtain ⟨d0, _, _, _⟩ := hLd5 (i + 1) hi1
            rcases Int.lt_or_le 0 (L i).reads with hr | hr
            · go_wp2
              go_ret
              exact ⟨rfl, ((HB3.then_ hb4).alloc _).1⟩
            · rcases Int.lt_or_le 0 (L i).writes with hwr | hwr
              · go_wp2
                go_ret
                exact ⟨rfl, ((HB3.then_ hb4).alloc _).1⟩
              · go_wp2
                go_ret
                exact ⟨rfl, ((HB3.then_ hb4).alloc _).1⟩
          · obtain ⟨kk0, kk1⟩ := hk i hik
            have hne' : (b' != (L i).kind) = true := by simpa using hbk
            clear hbk
            rcases Int.lt_or_le 0 (L i).reads with hr | hr
            · clear hbusy
              go_wp2
              go_ret
              exact ⟨rfl, ((HB3.then_ hb4).alloc _).1⟩
            · have hwr : 0 < (L i).writes := by omega
              clear hbusy
              go_wp2
              go_ret
              exact ⟨rfl, ((HB3.then_ hb4).alloc _).1⟩
  · have hn' : 1000 < n := by omega
    go_enter Try.func5, Try.ntmps5
    go_wp2_with (go_at_call 9; refine (awake_calls _).mono ?_; rintro e w0 ⟨rfl, hb0⟩)
    go_ret
    exact ⟨rfl, hb0⟩

end Go.Proofs.Yticnnjcpmiakgaa
