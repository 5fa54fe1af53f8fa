/-
  A region that draws its order: whatever is drawn, the quiet operations come to what the abstract machine says. No condition.
-/
import Derived.Test.YtonnifoeokagjaaGreatRunS5
namespace Go.Proofs.YtonnifoeokagjaaGreat
open Go Go.RowKit
namespace Abs

theorem dstOk_mem {n : Nat} : ∀ {l : List RInfo}, dstOk n l = true → ∀ x ∈ l, ∀ d, x.o.dst = some d → d < n
  | [], _, x, hx, _, _ => by cases hx
  | y :: l, h, x, hx, d, hd => by
    simp only [dstOk, Bool.and_eq_true] at h
    rcases List.mem_cons.1 hx with rfl | hx
    · have := h.1
      rw [hd] at this
      simpa using this
    · exact dstOk_mem h.2 x hx d hd

theorem TopR.regK {r : Rho} {s : BT AV} {t : Array Value} {lo hi : Nat} {g : AReg} {k : List AItem} {i : Item} {k' : List Item} (h : TopR r s t lo hi (.reg g :: k) (i :: k')) : IRs r k k' := by
  generalize hq : (AItem.reg g :: k) = q at h
  generalize hq' : (i :: k') = q' at h
  cases h with
  | plain hir _ =>
    subst hq; subst hq'
    cases hir with | cons hi _ => cases hi
  | reg hk _ _ _ =>
    injection hq with _ hq; subst hq
    injection hq' with _ hq'; subst hq'
    exact hk

/-- the region is entered, its order drawn -/
theorem draw_sound {P : Program} (pk : ∃ xt, PK P xt) {w0 : World} {base : List Frame} {m m' : AM} {f : Frame} {cs : List Frame} {w : World} {r : Rho} {lo : Nat} (hF : FR r lo m.next m.fr f) (hlo : lo ≤ m.next)
    (hC : CRs r base lo m.callers cs) (hH : HR r m.heap m.next w0 w) (hret : m.fr.ret = false) {id : Nat} {ops : Array Oper} {k : List AItem} (htodo : m.fr.todo = .code (.region id ops true) :: k)
    (hs : stepDraw m ops k (ancs ops.toList 0 []) = some m') : Next1 P w0 base f cs w m' := by
  obtain ⟨xt, pk⟩ := pk
  have hmode : f.mode = .run := by rw [hF.mode, hret]; rfl
  have htop := hF.top
  rw [htodo] at htop
  generalize hft : f.todo = ft at htop
  cases htop with
  | plain hir htr =>
  cases hir with | cons hi hir =>
  cases hi
  unfold stepDraw at hs
  split at hs
  · rename_i hok
    simp only [Bool.and_eq_true] at hok
    obtain ⟨hok, hdst⟩ := hok
    injection hs with hs; subst hs
    obtain ⟨t, hst⟩ := c_draw (P := P) (cs := cs) (w := w) pk.mixed hmode hft
    obtain ⟨h1, h2, h3⟩ := linear_start hok t
    obtain ⟨mfr, mcs, mh, mnx⟩ := m
    simp only at hF hlo hC hH htr hir
    refine ⟨_, cs, _, .one hst, MR.mk' (r := r) (lo := lo) ⟨hF.fn, hF.size, hF.defers, hF.mode, hF.kind, hF.round,
      .reg (g := { phase := .unsat, infos := (ancs ops.toList 0 []).filter (!·.eff), effs := (ancs ops.toList 0 []).filter (·.eff), last := none, base := mnx, ops }) hir (A := ancs ops.toList 0 []) ?_ hlo (Nat.le_refl _)⟩
      (by show lo ≤ mnx + ops.size; omega) hC (hH.drew.next (by show mnx ≤ mnx + ops.size; omega)) fun g k' e hph => ?_⟩
    · have hall : ∀ x ∈ ancs ops.toList 0 [], x.i ∈ Region.linearise .any ops t := fun x hx => (h2 x.i).2 (by
        have := (ancs_mem _ _ _ _ hx).2.1
        simpa using this)
      constructor
      · rfl
      · exact hok
      · intro x hx d hd; rw [hF.size]; exact dstOk_mem hdst x hx d hd
      · rfl
      · intro x hx he
        exact ⟨fun _ => List.mem_filter.2 ⟨hx, he⟩, fun _ => hall x hx⟩
      · intro x hx; exact List.mem_filter.1 hx
      · exact (ancs_sorted _ _ _).filter _
      · exact h1
      · exact fun i hi => (h2 i).1 hi
      · exact h3
      · exact fun x hx _ _ hn => absurd (hall x hx) hn
      · intro x hx _ _
        exact hH.fresh (by show mnx ≤ mnx + x.i; omega)
      · exact fun n => .inr (htr n)
      · exact fun _ x hx _ _ => hall x hx
      · intro _ x hx _ hp; simp [pastOf] at hp
      · intro h; cases h
    · have e : AItem.reg _ :: k = .reg g :: k' := e
      injection e with e _
      injection e with e
      rw [← e] at hph; cases hph
  · cases hs

theorem regOk_quiet {ops : Array Oper} {A : List RInfo} (h : regOk ops A = true) {x : RInfo} (hx : x ∈ A) (hq : x.eff = false) {d : Tmp} (hd : x.o.dst = some d) :
    ¬ d ∈ x.o.looksAt ops ∧ ∀ y ∈ A, y.i ≠ x.i → (d ∈ y.o.looksAt ops ∨ y.o.dst = some d) → y.anc.testBit x.i = true := by
  simp only [regOk, Bool.and_eq_true, List.all_eq_true] at h
  have h1 := h.2 x hx
  rw [hq, hd] at h1
  simp only [Bool.false_or, Bool.and_eq_true, Bool.not_eq_true', List.all_eq_true] at h1
  refine ⟨fun hc => ?_, fun y hy hne hc => ?_⟩
  · have := h1.1
    simp [hc] at this
  · have h2 := h1.2 y hy
    simp only [Bool.or_eq_true, beq_iff_eq, hne, false_or, Bool.not_eq_true'] at h2
    rcases h2 with h2 | h2
    · exfalso
      rcases hc with hc | hc
      · simp [hc] at h2
      · simp [hc] at h2
    · exact h2

theorem regOk_effs {ops : Array Oper} {A : List RInfo} (h : regOk ops A = true) {x y : RInfo} (hx : x ∈ A) (hy : y ∈ A) (hxe : x.eff = true) (hye : y.eff = true) (hlt : x.i < y.i) : y.anc.testBit x.i = true := by
  simp only [regOk, Bool.and_eq_true, List.all_eq_true] at h
  have h1 := h.1.2 x hx
  rw [hxe] at h1
  simp only [Bool.not_true, Bool.false_or, List.all_eq_true] at h1
  have h2 := h1 y hy
  rw [hye] at h2
  simpa [hlt] using h2

/-- what an operation at the head looks at stands for what it is -/
theorem reg_looks {r : Rho} {s : BT AV} {t : Array Value} {g : AReg} {A : List RInfo} {x : RInfo} {rest : List Nat} (hg : RegR r s t g A (x.i :: rest)) (hx : x ∈ A) (n : Tmp) (hn : n ∈ x.o.looksAt g.ops) : VR r (slot s n) (t.getD n undef) := by
  rcases hg.slots n with ⟨y, hy, hye, hyt, hyd⟩ | h
  · exfalso
    obtain ⟨h1, h2⟩ := regOk_quiet hg.ok hy hye hyd
    by_cases hxy : x.i = y.i
    · have := hg.inj hx hy hxy
      subst this
      exact h1 hn
    · have h3 := h2 x hx hxy (.inl hn)
      have h4 := (List.pairwise_cons.1 hg.order).1 y.i (by
        rcases List.mem_cons.1 hyt with h | h
        · exact absurd h.symm hxy
        · exact h) x hx rfl
      rw [h4] at h3; cases h3
  · exact h

theorem reg_opnds {r : Rho} {s : BT AV} {f : Frame} {g : AReg} {A : List RInfo} {x : RInfo} {rest : List Nat} (hg : RegR r s f.tmps g A (x.i :: rest)) (hx : x ∈ A) : ∀ y ∈ x.o.op.operands.toList, VR r (aev s y) (f.eval y) := by
  intro y hy
  cases y with
  | tmp n => exact reg_looks hg hx n (List.mem_append_left _ (List.mem_filterMap.2 ⟨.tmp n, hy, rfl⟩))
  | const v => exact .g v
  | global g => exact .g _
  | func g => exact .fn .nil

theorem reg_wanted {r : Rho} {s : BT AV} {t : Array Value} {g : AReg} {A : List RInfo} {x : RInfo} {rest : List Nat} (hg : RegR r s t g A (x.i :: rest)) (hx : x ∈ A) {b : Bool} (h : awanted g.ops s x.o = some b) : Region.wanted x.o (yielded g.ops t) = b :=
  wanted_sound h fun j w o' d hgd ho hd => reg_looks hg hx d (List.mem_append_right _ (by simp [hgd, ho, hd]))

/-- a quiet operation of the region is made -/
theorem RegR.quiet {r : Rho} {s : BT AV} {t : Array Value} {g : AReg} {A : List RInfo} {x : RInfo} {rest : List Nat} (hg : RegR r s t g A (x.i :: rest)) (hx : x ∈ A) (hxe : x.eff = false) (hph : g.phase = .sat) {r' : Rho}
    (hle : Rho.le r r') (hsame : ∀ b, b ≠ g.base + x.i → r' b = r b) {u : Value} (hu : ∀ d, x.o.dst = some d → VR r' (slot s d) u ∧ d < t.size) : RegR r' s (tput x.o.dst t u) g A rest := by
  have hnd := List.nodup_cons.1 hg.nodup
  have hord := List.pairwise_cons.1 hg.order
  constructor
  · exact hg.anc
  · exact hg.ok
  · intro y hy d hd; rw [tput_size]; exact hg.dlt y hy d hd
  · exact hg.infos
  · intro y hy hye
    rw [← hg.effs y hy hye]
    constructor
    · exact fun h => List.mem_cons_of_mem _ h
    · intro h
      rcases List.mem_cons.1 h with h | h
      · have := hg.inj hy hx h; subst this; rw [hxe] at hye; cases hye
      · exact h
  · exact hg.effsA
  · exact hg.sorted
  · exact hnd.2
  · exact fun i hi => hg.lt i (List.mem_cons_of_mem _ hi)
  · exact hord.2
  · intro y hy z hz hyt hb
    by_cases hyx : y.i = x.i
    · intro hzt
      have := hord.1 z.i hzt y hy hyx
      rw [this] at hb; cases hb
    · intro hzt
      exact hg.closed y hy z hz (by simp [hyx, hyt]) hb (List.mem_cons_of_mem _ hzt)
  · intro y hy hye hyt
    rw [hsame _ (fun h => hnd.1 (by
      have : y.i = x.i := by omega
      rw [← this]; exact hyt))]
    exact hg.unborn y hy hye (List.mem_cons_of_mem _ hyt)
  · intro n
    rw [tput_getD _ _ _ (fun m hm => (hu m hm).2)]
    by_cases hn : x.o.dst = some n
    · right; simp only [hn, if_true]; exact (hu n hn).1
    · simp only [hn, if_false]
      rcases hg.slots n with ⟨y, hy, hye, hyt, hyd⟩ | h
      · rcases List.mem_cons.1 hyt with h | h
        · have := hg.inj hy hx h; subst this; exact absurd hyd hn
        · exact .inl ⟨y, hy, hye, h, hyd⟩
      · exact .inr (h.mono hle)
  · intro h; rw [hph] at h; cases h
  · intro h y hy hye hp hyt
    exact hg.past h y hy hye hp (List.mem_cons_of_mem _ hyt)
  · intro h; rw [hph] at h; cases h

theorem checkAll_mem {P : Program} {g : AReg} {rem : Nat} {s : BT AV} {h : Heap} : ∀ {l : List RInfo}, checkAll P g rem s h l = true → ∀ x ∈ l, readyIn rem x = true → pastOf g.last x = false → checkOne P g s h x = true
  | [], _, x, hx, _, _ => by cases hx
  | y :: l, hc, x, hx, h1, h2 => by
    simp only [checkAll, Bool.and_eq_true, Bool.or_eq_true, Bool.not_eq_true'] at hc
    rcases List.mem_cons.1 hx with rfl | hx
    · rcases hc.1 with (hc | hc) | hc
      · rw [h1] at hc; cases hc
      · rw [h2] at hc; cases hc
      · exact hc
    · exact checkAll_mem hc.2 x hx h1 h2

theorem land_mask (a : Nat) : ∀ (l : List RInfo), (∀ x ∈ l, a.testBit x.i = false) → a &&& maskOf l = 0
  | [], _ => by simp [maskOf]
  | x :: l, h => by
    simp only [maskOf]
    apply Nat.eq_of_testBit_eq
    intro j
    have ih := land_mask a l fun y hy => h y (by simp [hy])
    have ih' : (a &&& maskOf l).testBit j = false := by rw [ih]; simp
    rw [Nat.testBit_and] at ih' ⊢
    rw [Nat.testBit_or, Nat.testBit_two_pow]
    by_cases hj : x.i = j
    · have := h x (by simp); rw [hj] at this; simp [this]
    · simp [hj, ih']

/-- the quiet operations ahead of the next effect are made -/
theorem reg_run {P : Program} {w0 : World} {base : List Frame} {lo nx : Nat} {g : AReg} {A : List RInfo} {k : List AItem} {k' : List Item} {h : Heap} {a : AFrame} {acs : List AFrame} {cs : List Frame} (hat : a.todo = .reg g :: k) (hret : a.ret = false)
    (hph : g.phase = .sat) (hck : checkAll P g (maskOf g.effs) a.slots h g.infos = true) :
    ∀ (todo : List Nat) (r : Rho) (f : Frame) (w : World), f.todo = .inRegion g.ops todo :: k' → FR r lo nx a f → RegR r a.slots f.tmps g A todo → lo ≤ g.base → g.base + g.ops.size ≤ nx → CRs r base lo acs cs → HR r h nx w0 w →
      ∃ (todo' : List Nat) (r' : Rho) (f' : Frame) (w' : World), Steps P (lone f cs w) (lone f' cs w') ∧ f'.todo = .inRegion g.ops todo' :: k' ∧ FR r' lo nx a f' ∧ RegR r' a.slots f'.tmps g A todo' ∧ CRs r' base lo acs cs ∧ HR r' h nx w0 w' ∧
        Rho.le r r' ∧ ((todo' = [] ∧ g.effs = []) ∨ ∃ e rest todo'', g.effs = e :: rest ∧ todo' = e.i :: todo'')
  | [], r, f, w, hft, hF, hg, h1, h2, hC, hH => by
    refine ⟨[], r, f, w, Steps.refl P _, hft, hF, hg, hC, hH, Rho.le_refl r, .inl ⟨rfl, ?_⟩⟩
    cases he : g.effs with
    | nil => rfl
    | cons e rest =>
      obtain ⟨ha, hee⟩ := hg.effsA e (by rw [he]; simp)
      have := (hg.effs e ha hee).2 (by rw [he]; simp)
      cases this
  | i :: rest, r, f, w, hft, hF, hg, h1, h2, hC, hH => by
    obtain ⟨x, hx, rfl⟩ := hg.has (hg.lt i (by simp))
    obtain ⟨hxo, hxeff, hxlt⟩ := hg.oper hx
    have hnd := List.nodup_cons.1 hg.nodup
    have hord := List.pairwise_cons.1 hg.order
    have hmode : f.mode = .run := by rw [hF.mode, hret]; rfl
    cases hxe : x.eff with
    | true =>
      have hxm := (hg.effs x hx hxe).1 (by simp)
      cases he : g.effs with
      | nil => rw [he] at hxm; cases hxm
      | cons e rest' =>
        refine ⟨_, r, f, w, Steps.refl P _, hft, hF, hg, hC, hH, Rho.le_refl r, .inr ⟨e, rest', rest, rfl, ?_⟩⟩
        rw [he] at hxm
        rcases List.mem_cons.1 hxm with rfl | hxm
        · rfl
        · exfalso
          obtain ⟨hea, hee⟩ := hg.effsA e (by rw [he]; simp)
          have hs := hg.sorted
          rw [he] at hs
          have hlt := (List.pairwise_cons.1 hs).1 x hxm
          have hb := regOk_effs hg.ok hea hx hee hxe hlt
          have het := (hg.effs e hea hee).2 (by rw [he]; simp)
          rcases List.mem_cons.1 het with h | h
          · omega
          · have := hord.1 e.i h x hx rfl
            rw [this] at hb; cases hb
    | false =>
      have hready : readyIn (maskOf g.effs) x = true := by
        simp only [readyIn, beq_iff_eq]
        refine land_mask _ _ fun y hy => ?_
        obtain ⟨hya, hye⟩ := hg.effsA y hy
        have hyt := (hg.effs y hya hye).2 hy
        rcases List.mem_cons.1 hyt with h | h
        · have := hg.inj hya hx h; subst this; rw [hxe] at hye; cases hye
        · exact hord.1 y.i h x hx rfl
      have hpast : pastOf g.last x = false := by
        cases hp : pastOf g.last x with
        | false => rfl
        | true => exact absurd (List.mem_cons_self) (hg.past (.inr hph) x hx hxe hp)
      have hone := checkAll_mem hck x (by rw [hg.infos]; exact List.mem_filter.2 ⟨hx, by simp [hxe]⟩) hready hpast
      have hnd' : f.roundOf = none ∨ ∀ c, x.o.op ≠ .defer c := .inr fun c hc => by rw [hxe, hc] at hxeff; simp [effectful] at hxeff
      have hdlt : ∀ d, x.o.dst = some d → d < f.tmps.size := hg.dlt x hx
      unfold checkOne at hone
      split at hone
      · rename_i hw
        have hwant := reg_wanted hg hx hw
        have hgo := c_oper (P := P) (cs := cs) (w := w) hmode hft hxo hwant hnd'
        split at hone
        · rename_i q hq
          simp only [Bool.and_eq_true] at hone
          have hok := aquiet_sound P hH (reg_opnds hg hx) hq
          have hslot : ∀ d, x.o.dst = some d → slot a.slots d = q.av (g.base + x.i) := by
            intro d hd
            have := hone.1
            rw [hd] at this
            exact avEq_sound _ _ this
          cases hob : q.obj with
          | none =>
            cases q with
            | newP _ => cases hob
            | newS _ _ _ => cases hob
            | newM _ => cases hob
            | val v =>
            obtain ⟨u, hrun, hv⟩ := hok
            have hst := c_value (.of_eq hgo) hrun (.inl rfl)
            rw [finish_region f hft hxo] at hst
            have hg' := hg.quiet hx hxe hph (Rho.le_refl r) (fun _ _ => rfl) (u := u) fun d hd => ⟨by rw [hslot d hd]; exact hv, hdlt d hd⟩
            obtain ⟨t1, r1, f1, w1, s1, rest1⟩ := reg_run hat hret hph hck rest r { f with tmps := tput x.o.dst f.tmps u, todo := .inRegion g.ops rest :: k' } w rfl
              ⟨hF.fn, by rw [tput_size]; exact hF.size, hF.defers, hF.mode, hF.kind, hF.round, by rw [hat]; exact .reg (by have := hF.top; rw [hat, hft] at this; exact this.regK) hg' h1 h2⟩ hg' h1 h2 hC hH
            exact ⟨t1, r1, f1, w1, .head hst s1, rest1⟩
          | some ob =>
            obtain ⟨xo, u, hrun, hor, hv⟩ := hok.obj hob
            have hst := c_value (.of_eq hgo) hrun (.inl rfl)
            rw [finish_region f hft hxo] at hst
            have hun := hg.unborn x hx hxe (by simp)
            have hle := Rho.le_upd (x := (w.heap.size, 0)) hun
            have hsame : ∀ b, b ≠ g.base + x.i → r.upd (g.base + x.i) (w.heap.size, 0) b = r b := fun b hb => Rho.upd_ne _ _ hb
            have hobj := hone.2
            rw [hob] at hobj
            simp only at hobj
            split at hobj
            · rename_i o' ho'
              have ho'' := aoEq_sound _ _ hobj
              subst ho''
              have hH' := hH.alloc hun (show g.base + x.i < nx by omega) (Nat.le_refl _) ho' (fun _ _ _ => rfl) hor
              have hg' := hg.quiet hx hxe hph hle hsame (u := u) fun d hd => ⟨by rw [hslot d hd]; exact hv _ _ (Rho.upd_same _ _ _), hdlt d hd⟩
              have hC' := hC.mono hle fun b hb => hsame b (by omega)
              have hk : IRs (r.upd (g.base + x.i) (w.heap.size, 0)) k k' := (by have := hF.top; rw [hat, hft] at this; exact this.regK.mono hle)
              obtain ⟨t1, r1, f1, w1, s1, s2, s3, s4, s5, s6, s7, s8⟩ := reg_run hat hret hph hck rest _ { f with tmps := tput x.o.dst f.tmps u, todo := .inRegion g.ops rest :: k' } _ rfl
                ⟨hF.fn, by rw [tput_size]; exact hF.size, hF.defers.mono hle, hF.mode, hF.kind, hF.round.mono hle, by rw [hat]; exact .reg hk hg' h1 h2⟩ hg' h1 h2 hC' hH'
              exact ⟨t1, r1, f1, w1, .head hst s1, s2, s3, s4, s5, s6, Rho.le_trans hle s7, s8⟩
            · cases hobj
        · cases hone
      · rename_i hw
        have hwant := reg_wanted hg hx hw
        have hst := c_skip (P := P) (cs := cs) (w := w) hmode hft (by simp [hxo, hwant])
        rw [finish_region f hft hxo] at hst
        have hg' := hg.quiet hx hxe hph (Rho.le_refl r) (fun _ _ => rfl) (u := undef) fun d hd => ⟨by
          rw [hd] at hone
          rw [avEq_sound _ _ hone]; exact .g _, hdlt d hd⟩
        obtain ⟨t1, r1, f1, w1, s1, rest1⟩ := reg_run hat hret hph hck rest r { f with tmps := tput x.o.dst f.tmps undef, todo := .inRegion g.ops rest :: k' } w rfl
          ⟨hF.fn, by rw [tput_size]; exact hF.size, hF.defers, hF.mode, hF.kind, hF.round, by rw [hat]; exact .reg (by have := hF.top; rw [hat, hft] at this; exact this.regK) hg' h1 h2⟩ hg' h1 h2 hC hH
        exact ⟨t1, r1, f1, w1, .head hst s1, rest1⟩
      · cases hone

end Abs
end Go.Proofs.YtonnifoeokagjaaGreat
