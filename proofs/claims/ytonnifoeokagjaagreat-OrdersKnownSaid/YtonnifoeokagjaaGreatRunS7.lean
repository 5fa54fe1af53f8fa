/-
  A region that draws its order: its effects. No condition.
-/
import Derived.Test.YtonnifoeokagjaaGreatRunS6
namespace Go.Proofs.YtonnifoeokagjaaGreat
open Go Go.RowKit
namespace Abs

theorem wSlots_slots (a : AFrame) (s : BT AV) : (a.wSlots s).slots = s ∧ (a.wSlots s).size = a.size := ⟨rfl, rfl⟩

theorem saturate_spec {P : Program} {g : AReg} {rem : Nat} : ∀ (l : List RInfo) (a : AFrame) (h : Heap) (a' : AFrame) (h' : Heap), saturate P g rem l a h = some (a', h') →
    (∃ s, a' = a.wSlots s ∧ ∀ n, (∃ x ∈ l, newOf g.last x = true ∧ x.o.dst = some n) ∨ slot s n = slot a.slots n) ∧
    (∀ b, (∃ x ∈ l, newOf g.last x = true ∧ b = g.base + x.i) ∨ hget h' b = hget h b)
  | [], a, h, a', h', hs => by
    simp only [saturate, Option.some.injEq, Prod.mk.injEq] at hs
    obtain ⟨rfl, rfl⟩ := hs
    exact ⟨⟨a.slots, rfl, fun _ => .inr rfl⟩, fun _ => .inr rfl⟩
  | x :: l, a, h, a', h', hs => by
    have fin : ∀ {b : AFrame} {v : AV} {h1 : Heap}, a.put x.o.dst v = some b → newOf g.last x = true → saturate P g rem l b h1 = some (a', h') → (∀ c, c = g.base + x.i ∨ hget h1 c = hget h c) →
        (∃ s, a' = a.wSlots s ∧ ∀ n, (∃ y ∈ x :: l, newOf g.last y = true ∧ y.o.dst = some n) ∨ slot s n = slot a.slots n) ∧
        (∀ b, (∃ y ∈ x :: l, newOf g.last y = true ∧ b = g.base + y.i) ∨ hget h' b = hget h b) := by
      intro b v h1 hput hnew hs hh
      obtain ⟨rfl, _⟩ := put_spec' hput
      obtain ⟨⟨s, rfl, h2⟩, h3⟩ := saturate_spec l _ _ a' h' hs
      refine ⟨⟨s, rfl, fun n => ?_⟩, fun b => ?_⟩
      · rcases h2 n with ⟨y, hy, h4⟩ | h4
        · exact .inl ⟨y, List.mem_cons_of_mem _ hy, h4⟩
        · by_cases hd : x.o.dst = some n
          · exact .inl ⟨x, by simp, hnew, hd⟩
          · right
            rw [h4]
            show slot (sput x.o.dst a.slots v) n = _
            rw [slot_sput, if_neg hd]
      · rcases h3 b with ⟨y, hy, h4⟩ | h4
        · exact .inl ⟨y, List.mem_cons_of_mem _ hy, h4⟩
        · rcases hh b with h5 | h5
          · exact .inl ⟨x, by simp, hnew, h5⟩
          · exact .inr (h4.trans h5)
    simp only [saturate] at hs
    split at hs
    · rename_i hc
      simp only [Bool.and_eq_true] at hc
      split at hs
      · split at hs
        · rename_i q hq
          split at hs
          · rename_i b hput
            refine fin hput hc.2 hs fun c => ?_
            split
            · rw [hget_hset]
              by_cases hcb : c = g.base + x.i
              · exact .inl hcb
              · right; rw [if_neg hcb]
            · exact .inr rfl
          · cases hs
        · cases hs
      · split at hs
        · rename_i b hput
          exact fin hput hc.2 hs fun c => .inr rfl
        · cases hs
      · cases hs
    · obtain ⟨⟨s, h1, h2⟩, h3⟩ := saturate_spec l a h a' h' hs
      refine ⟨⟨s, h1, fun n => ?_⟩, fun b => ?_⟩
      · rcases h2 n with ⟨y, hy, h4⟩ | h4
        · exact .inl ⟨y, List.mem_cons_of_mem _ hy, h4⟩
        · exact .inr h4
      · rcases h3 b with ⟨y, hy, h4⟩ | h4
        · exact .inl ⟨y, List.mem_cons_of_mem _ hy, h4⟩
        · exact .inr h4

theorem checkAll_phase {P : Program} {g : AReg} {p : Phase} {rem : Nat} {s : BT AV} {h : Heap} : ∀ (l : List RInfo), checkAll P (g.wPhase p) rem s h l = checkAll P g rem s h l
  | [] => rfl
  | x :: l => by
    simp only [checkAll, checkAll_phase l]
    rfl

theorem stepSat_sound {P : Program} {w0 : World} {base : List Frame} {m m' : AM} {f : Frame} {cs : List Frame} {w : World} {r : Rho} {lo : Nat} (hF : FR r lo m.next m.fr f) (hlo : lo ≤ m.next)
    (hC : CRs r base lo m.callers cs) (hH : HR r m.heap m.next w0 w) {g : AReg} {k : List AItem} (htodo : m.fr.todo = .reg g :: k) (hph : g.phase = .unsat)
    (hs : stepSat P m g k (saturate P g (maskOf g.effs) g.infos m.fr m.heap) = some m') : Next1 P w0 base f cs w m' := by
  cases hsat : saturate P g (maskOf g.effs) g.infos m.fr m.heap with
  | none => rw [hsat] at hs; cases hs
  | some p =>
  obtain ⟨a', h'⟩ := p
  rw [hsat] at hs
  simp only [stepSat] at hs
  split at hs
  · rename_i hck
    injection hs with hs; subst hs
    obtain ⟨⟨s, rfl, hslots⟩, hheap⟩ := saturate_spec _ _ _ _ _ hsat
    have htop := hF.top
    rw [htodo] at htop
    generalize hft : f.todo = ft at htop
    cases htop with
    | plain hir _ => cases hir with | cons hi _ => cases hi
    | reg hk hg h1 h2 =>
    rename_i A todo k'
    have hmem : ∀ x ∈ g.infos, x ∈ A ∧ x.eff = false := by
      intro x hx
      rw [hg.infos] at hx
      have := List.mem_filter.1 hx
      exact ⟨this.1, by simpa using this.2⟩
    have hnew : ∀ x ∈ g.infos, newOf g.last x = true → x.i ∈ todo := fun x hx hn => hg.unsat hph x (hmem x hx).1 (hmem x hx).2 hn
    have hH' : HR r h' m.next w0 w := hH.heap fun b y e => by
      rcases hheap b with ⟨x, hx, hn, rfl⟩ | h
      · have := hg.unborn x (hmem x hx).1 (hmem x hx).2 (hnew x hx hn)
        rw [this] at e; cases e
      · exact h
    have hg' : RegR r s f.tmps (g.wPhase .sat) A todo := by
      constructor
      · exact hg.anc
      · exact hg.ok
      · exact hg.dlt
      · exact hg.infos
      · exact hg.effs
      · exact hg.effsA
      · exact hg.sorted
      · exact hg.nodup
      · exact hg.lt
      · exact hg.order
      · exact hg.closed
      · exact hg.unborn
      · intro n
        rcases hslots n with ⟨x, hx, hn, hd⟩ | h
        · exact .inl ⟨x, (hmem x hx).1, (hmem x hx).2, hnew x hx hn, hd⟩
        · rw [h]; exact hg.slots n
      · intro h; cases h
      · intro _ x hx hxe hp
        exact hg.past (.inl hph) x hx hxe hp
      · intro h; cases h
    obtain ⟨mfr, mcs, mh, mnx⟩ := m
    refine ⟨f, cs, w, Steps.refl P _, MR.mk' (r := r) (lo := lo) ⟨hF.fn, hF.size, hF.defers, hF.mode, hF.kind, hF.round, ?_⟩ hlo hC hH' fun g' k'' e hp => ?_⟩
    · show TopR r s f.tmps lo mnx (.reg (g.wPhase .sat) :: k) f.todo
      rw [hft]
      exact .reg (g := g.wPhase .sat) hk hg' h1 h2
    · have e : AItem.reg (g.wPhase .sat) :: k = .reg g' :: k'' := e
      injection e with e _
      injection e with e; subst e
      intro _
      refine Eq.trans (checkAll_phase _) ?_
      exact hck
  · cases hs

theorem stepReg_sound {P : Program} {xt : FuncId → Option Ext} (pk : PK P xt) {w0 : World} {base : List Frame} {m m' : AM} {f : Frame} {cs : List Frame} {w : World} {r : Rho} {lo : Nat} (hF : FR r lo m.next m.fr f) (hlo : lo ≤ m.next)
    (hC : CRs r base lo m.callers cs) (hH : HR r m.heap m.next w0 w) (hret : m.fr.ret = false) {g : AReg} {k : List AItem} (htodo : m.fr.todo = .reg g :: k)
    (hck : g.phase = .sat → checkAll P g (maskOf g.effs) m.fr.slots m.heap g.infos = true) (hs : stepReg P xt m g k = some m') : Next1 P w0 base f cs w m' := by
  unfold stepReg at hs
  split at hs
  · rename_i hph
    exact stepSat_sound hF hlo hC hH htodo hph hs
  · rename_i hph
    have htop := hF.top
    rw [htodo] at htop
    generalize hft : f.todo = ft at htop
    cases htop with
    | plain hir _ => cases hir with | cons hi _ => cases hi
    | reg hk hg h1 h2 =>
    rename_i A todo k'
    obtain ⟨todo', r', f', w', s1, s2, s3, s4, s5, s6, s7, s8⟩ := reg_run htodo hret hph (hck hph) todo r f w hft hF hg h1 h2 hC hH
    have hmode : f'.mode = .run := by rw [s3.mode, hret]; rfl
    split at hs
    · rename_i heff
      rcases s8 with ⟨rfl, _⟩ | ⟨e, rest, todo'', he, _⟩
      · have htr : TR r' m.fr.slots f'.tmps := by
          intro n
          rcases s4.slots n with ⟨x, _, _, hx, _⟩ | h
          · cases hx
          · exact h
        obtain ⟨f2, cs2, w2, h3, h4⟩ := to_sound s3 hlo s5 s6 hret hs (hk.mono s7) htr (c_to hmode s2 (.inr (.inr (.inr (.inr (.inr (.inr (.inr ⟨_, rfl, rfl⟩))))))))
        exact ⟨f2, cs2, w2, s1.trans h3, h4⟩
      · rw [heff] at he; cases he
    · rename_i e rest heff
      rcases s8 with ⟨_, he⟩ | ⟨e', rest', todo'', he, rfl⟩
      · rw [heff] at he; cases he
      · rw [heff] at he
        injection he with h3 h4; subst h3; subst h4
        obtain ⟨heA, heE⟩ := s4.effsA e (by rw [heff]; simp)
        obtain ⟨heo, _, _⟩ := s4.oper heA
        unfold stepRegEff at hs
        split at hs
        · rename_i b hw
          have hwant := reg_wanted s4 heA hw
          have hkk : IRs r' k k' := hk.mono s7
          cases b with
          | false =>
            simp only [Bool.false_eq_true, if_false] at hs
            unfold opSkip at hs
            split at hs
            · rename_i fr hput
              injection hs with hs; subst hs
              obtain ⟨rfl, hd⟩ := put_spec' hput
              have hst := c_skip (P := P) (cs := cs) (w := w') hmode s2 (by simp [heo, hwant])
              rw [finish_region f' s2 heo] at hst
              obtain ⟨mfr, mcs, mh, mnx⟩ := m
              refine ⟨_, cs, w', s1.trans (.one hst), MR.mk' (r := r') (lo := lo) ⟨s3.fn, by rw [tput_size]; exact s3.size, s3.defers, s3.mode, s3.kind, s3.round, .reg (g := g.after rest e) hkk (s4.next heff (.g _) fun n hn => by rw [s3.size]; exact hd n hn) h1 h2⟩ hlo s5 s6 fun g' k'' e' hp => ?_⟩
              have e' : AItem.reg (g.after rest e) :: k = .reg g' :: k'' := e'
              injection e' with e' _
              injection e' with e'; subst e'
              cases hp
            · cases hs
          | true =>
            simp only [if_true] at hs
            unfold opEff at hs
            split at hs
            · rename_i er her
              have hd : f'.roundOf = none ∨ ∀ c, e.o.op ≠ .defer c := by
                cases hro : f'.roundOf with
                | none => exact .inl rfl
                | some l' =>
                  right
                  intro c hc
                  obtain ⟨d, rfl⟩ := aeff_defer her hc
                  have hr2 := s3.round
                  rw [hro] at hr2
                  cases har : m.fr.roundOf with
                  | none => rw [har] at hr2; exact hr2
                  | some l2 =>
                    have : (m.fr.wTodo (.reg (g.wPhase .wait) :: k)).roundOf = some l2 := har
                    rw [upon_defer_round this] at hs; cases hs
              have hgo := c_oper (P := P) (cs := cs) (w := w') hmode s2 heo hwant hd
              have hok := aeff_sound pk s6 (reg_opnds s4 heA) her
              have hgw : RegR r' m.fr.slots f'.tmps (g.wPhase .wait) A (e.i :: todo'') := by
                constructor
                · exact s4.anc
                · exact s4.ok
                · exact s4.dlt
                · exact s4.infos
                · exact s4.effs
                · exact s4.effsA
                · exact s4.sorted
                · exact s4.nodup
                · exact s4.lt
                · exact s4.order
                · exact s4.closed
                · exact s4.unborn
                · exact s4.slots
                · intro h; cases h
                · intro h; rcases h with h | h <;> cases h
                · intro _; exact ⟨e, rest, todo'', heff, rfl⟩
              have hFw : FR r' lo m.next (m.fr.wTodo (.reg (g.wPhase .wait) :: k)) f' := ⟨s3.fn, s3.size, s3.defers, s3.mode, s3.kind, s3.round, by
                show TopR r' m.fr.slots f'.tmps lo m.next (.reg (g.wPhase .wait) :: k) f'.todo
                rw [s2]
                exact .reg (g := g.wPhase .wait) hkk hgw h1 h2⟩
              obtain ⟨f2, cs2, w2, h5, h6⟩ := upon_sound hFw hlo (Nat.le_refl _) s5 s6 (.of_eq hgo) hok hs
              exact ⟨f2, cs2, w2, s1.trans (.one h5), h6⟩
            · cases hs
        · cases hs
  · cases hs

end Abs
end Go.Proofs.YtonnifoeokagjaaGreat
