/-
  Frames of the abstract machine stand for frames: the relation. No condition.
-/
import Derived.Test.YtonnifoeokagjaaGreatRunS1
namespace Go.Proofs.YtonnifoeokagjaaGreat
open Go Go.RowKit
namespace Abs

inductive IR (r : Rho) : AItem → Item → Prop
  | code (c : Code) : IR r (.code c) (.code c)
  | inBlock (id : Nat) : IR r (.inBlock id) (.inBlock id)
  | inLoop (b : Code) : IR r (.inLoop b) (.inLoop b)
  | ops {l : List Oper} {ops : Array Oper} {idx : List Nat} (h : idx.map (ops[·]?) = l.map some) : IR r (.ops l ops) (.inRegion ops idx)
  | inRange {l k n : Nat} (h : r l = some (k, n)) : IR r (.inRange l) (.inRangeFunc k)
  | endRange {l k n : Nat} (h : r l = some (k, n)) : IR r (.endRange l) (.endRangeFunc k)
  | beginRound : IR r .beginRound .beginRound

theorem IR.mono {r r' : Rho} (h : Rho.le r r') {a : AItem} {i : Item} : IR r a i → IR r' a i
  | .code c => .code c
  | .inBlock id => .inBlock id
  | .inLoop b => .inLoop b
  | .ops e => .ops e
  | .inRange e => .inRange (h _ _ e)
  | .endRange e => .endRange (h _ _ e)
  | .beginRound => .beginRound

inductive IRs (r : Rho) : List AItem → List Item → Prop
  | nil : IRs r [] []
  | cons {a : AItem} {i : Item} {as : List AItem} {is : List Item} (h : IR r a i) (t : IRs r as is) : IRs r (a :: as) (i :: is)

theorem IRs.mono {r r' : Rho} (h : Rho.le r r') : ∀ {a : List AItem} {i : List Item}, IRs r a i → IRs r' a i
  | _, _, .nil => .nil
  | _, _, .cons e t => .cons (e.mono h) (IRs.mono h t)

/-- what is known of a region that has drawn its order -/
structure RegR (r : Rho) (s : BT AV) (t : Array Value) (g : AReg) (A : List RInfo) (todo : List Nat) : Prop where
  anc : A = ancs g.ops.toList 0 []
  ok : regOk g.ops A = true
  dlt : ∀ x ∈ A, ∀ d, x.o.dst = some d → d < t.size
  infos : g.infos = A.filter (!·.eff)
  effs : ∀ x ∈ A, x.eff = true → (x.i ∈ todo ↔ x ∈ g.effs)
  effsA : ∀ x ∈ g.effs, x ∈ A ∧ x.eff = true
  sorted : g.effs.Pairwise (fun x y => x.i < y.i)
  nodup : todo.Nodup
  lt : ∀ i ∈ todo, i < g.ops.size
  order : todo.Pairwise (fun i j => ∀ x ∈ A, x.i = i → x.anc.testBit j = false)
  closed : ∀ x ∈ A, ∀ y ∈ A, x.i ∉ todo → x.anc.testBit y.i = true → y.i ∉ todo
  unborn : ∀ x ∈ A, x.eff = false → x.i ∈ todo → r (g.base + x.i) = none
  slots : ∀ n, (∃ x ∈ A, x.eff = false ∧ x.i ∈ todo ∧ x.o.dst = some n) ∨ VR r (slot s n) (t.getD n undef)
  unsat : g.phase = .unsat → ∀ x ∈ A, x.eff = false → newOf g.last x = true → x.i ∈ todo
  past : (g.phase = .unsat ∨ g.phase = .sat) → ∀ x ∈ A, x.eff = false → pastOf g.last x = true → x.i ∉ todo
  wait : g.phase = .wait → ∃ e rest todo', g.effs = e :: rest ∧ todo = e.i :: todo'

theorem RegR.mono {r r' : Rho} (h : Rho.le r r') {s : BT AV} {t : Array Value} {g : AReg} {A : List RInfo} {todo : List Nat} (hg : RegR r s t g A todo) (hu : ∀ b, g.base ≤ b → b < g.base + g.ops.size → r' b = r b) : RegR r' s t g A todo where
  anc := hg.anc
  ok := hg.ok
  dlt := hg.dlt
  infos := hg.infos
  effs := hg.effs
  effsA := hg.effsA
  sorted := hg.sorted
  nodup := hg.nodup
  lt := hg.lt
  order := hg.order
  closed := hg.closed
  unborn x hx he hi := by rw [hu _ (by omega) (by have := hg.lt _ hi; omega)]; exact hg.unborn x hx he hi
  slots n := (hg.slots n).imp id (VR.mono h)
  unsat := hg.unsat
  past := hg.past
  wait := hg.wait

inductive TopR (r : Rho) (s : BT AV) (t : Array Value) (lo hi : Nat) : List AItem → List Item → Prop
  | plain {ai : List AItem} {ci : List Item} (h : IRs r ai ci) (ht : TR r s t) : TopR r s t lo hi ai ci
  | reg {g : AReg} {A : List RInfo} {todo : List Nat} {k : List AItem} {k' : List Item} (hk : IRs r k k') (hg : RegR r s t g A todo) (h1 : lo ≤ g.base) (h2 : g.base + g.ops.size ≤ hi) :
      TopR r s t lo hi (.reg g :: k) (.inRegion g.ops todo :: k')

theorem TopR.mono {r r' : Rho} (h : Rho.le r r') {s : BT AV} {t : Array Value} {lo hi hi' : Nat} (hh : hi ≤ hi') (hu : ∀ b, b < hi → r' b = r b) {a : List AItem} {c : List Item} : TopR r s t lo hi a c → TopR r' s t lo hi' a c
  | .plain e ht => .plain (e.mono h) (ht.mono h)
  | .reg hk hg h1 h2 => .reg (hk.mono h) (hg.mono h fun b _ hb => hu b (by omega)) h1 (by omega)

def RoundR (r : Rho) : Option Nat → Option Nat → Prop
  | none, none => True
  | some l, some k => ∃ n, r l = some (k, n)
  | _, _ => False

theorem RoundR.mono {r r' : Rho} (h : Rho.le r r') {a b : Option Nat} (e : RoundR r a b) : RoundR r' a b := by
  cases a <;> cases b <;> first | exact e | (obtain ⟨n, e⟩ := e; exact ⟨n, h _ _ e⟩)

structure FR (r : Rho) (lo hi : Nat) (a : AFrame) (f : Frame) : Prop where
  fn : f.fn = a.fn
  size : f.tmps.size = a.size
  defers : DRs r a.defers f.defers
  mode : f.mode = if a.ret then .returning else .run
  kind : f.kind = if a.deferred then .deferred else .normal
  round : RoundR r a.roundOf f.roundOf
  top : TopR r a.slots f.tmps lo hi a.todo f.todo

theorem FR.mono {r r' : Rho} (h : Rho.le r r') {lo hi hi' : Nat} (hh : hi ≤ hi') (hu : ∀ b, b < hi → r' b = r b) {a : AFrame} {f : Frame} (e : FR r lo hi a f) : FR r' lo hi' a f :=
  ⟨e.fn, e.size, e.defers.mono h, e.mode, e.kind, e.round.mono h, e.top.mono h hh hu⟩

inductive CRs (r : Rho) (base : List Frame) : Nat → List AFrame → List Frame → Prop
  | nil (n : Nat) : CRs r base n [] base
  | cons {n lo : Nat} {a : AFrame} {f : Frame} {as : List AFrame} {fs : List Frame} (h : FR r lo n a f) (hl : lo ≤ n) (t : CRs r base lo as fs) : CRs r base n (a :: as) (f :: fs)

theorem CRs.mono {r r' : Rho} {base : List Frame} (h : Rho.le r r') : ∀ {n : Nat} {as : List AFrame} {fs : List Frame}, (∀ b, b < n → r' b = r b) → CRs r base n as fs → CRs r' base n as fs
  | _, _, _, _, .nil n => .nil n
  | _, _, _, hu, .cons e hl t => .cons (e.mono h (Nat.le_refl _) hu) hl (CRs.mono h (fun b hb => hu b (by omega)) t)

/-- the abstract machine and the machine -/
structure MR (P : Program) (w0 : World) (base : List Frame) (m : AM) (f : Frame) (cs : List Frame) (w : World) : Prop where
  ex : ∃ r lo, FR r lo m.next m.fr f ∧ lo ≤ m.next ∧ CRs r base lo m.callers cs ∧ HR r m.heap m.next w0 w
  sat : ∀ g k, m.fr.todo = .reg g :: k → g.phase = .sat → m.fr.ret = false → checkAll P g (maskOf g.effs) m.fr.slots m.heap g.infos = true

theorem put_spec {a a' : AFrame} {d : Option Tmp} {v : AV} (h : a.put d v = some a') :
    (d = none ∧ a' = a) ∨ ∃ n, d = some n ∧ n < a.size ∧ a' = a.wSlots (sset a.slots n v) := by
  unfold AFrame.put at h
  split at h
  · injection h with h; exact .inl ⟨rfl, h.symm⟩
  · split at h
    · rename_i n hn
      injection h with h; exact .inr ⟨n, rfl, hn, h.symm⟩
    · cases h

/-- what 'finish' does to the slots -/
def tput (d : Option Tmp) (t : Array Value) (u : Value) : Array Value := match d with
  | some d => t.setIfInBounds d u
  | none => t
noncomputable def sput (d : Option Tmp) (s : BT AV) (v : AV) : BT AV := match d with
  | some d => sset s d v
  | none => s

theorem put_spec' {a a' : AFrame} {d : Option Tmp} {v : AV} (h : a.put d v = some a') : a' = a.wSlots (sput d a.slots v) ∧ (∀ n, d = some n → n < a.size) := by
  rcases put_spec h with ⟨rfl, rfl⟩ | ⟨n, rfl, hn, rfl⟩
  · exact ⟨rfl, fun n h => by cases h⟩
  · exact ⟨rfl, fun m h => by injection h with h; subst h; exact hn⟩

theorem tput_size (d : Option Tmp) (t : Array Value) (u : Value) : (tput d t u).size = t.size := by cases d <;> simp [tput]

theorem TR.put {r : Rho} {s : BT AV} {t : Array Value} (e : TR r s t) {d : Option Tmp} (hd : ∀ n, d = some n → n < t.size) {v : AV} {u : Value} (hv : VR r v u) : TR r (sput d s v) (tput d t u) := by
  cases d with
  | none => exact e
  | some d => exact e.set (hd d rfl) hv

theorem slot_sput (d : Option Tmp) (s : BT AV) (v : AV) (n : Nat) : slot (sput d s v) n = if d = some n then v else slot s n := by
  cases d with
  | none => rfl
  | some d =>
    simp only [sput, slot_sset, Option.some.injEq]
    by_cases h : n = d
    · subst h; simp
    · have : ¬ d = n := fun e => h e.symm
      simp [h, this]

theorem tput_getD (d : Option Tmp) (t : Array Value) (u : Value) (hd : ∀ n, d = some n → n < t.size) (n : Nat) : (tput d t u).getD n undef = if d = some n then u else t.getD n undef := by
  cases d with
  | none => rfl
  | some d =>
    simp only [tput, Option.some.injEq]
    by_cases h : d = n
    · subst h; simp [hd d rfl]
    · simp [h, Array.getD_eq_getD_getElem?, Array.getElem?_setIfInBounds_ne h]

theorem ancs_mem : ∀ (l : List Oper) (i : Nat) (acc : List Nat) (x : RInfo), x ∈ ancs l i acc → i ≤ x.i ∧ x.i < i + l.length ∧ l[x.i - i]? = some x.o ∧ x.eff = effectful x.o.op
  | [], _, _, _, h => by simp [ancs] at h
  | o :: l, i, acc, x, h => by
    simp only [ancs, List.mem_cons] at h
    rcases h with rfl | h
    · simp
    · obtain ⟨h1, h2, h3, h4⟩ := ancs_mem l (i + 1) _ x h
      refine ⟨by omega, by simp; omega, ?_, h4⟩
      have : x.i - i = (x.i - (i + 1)) + 1 := by omega
      rw [this]; simpa using h3

theorem ancs_inj : ∀ (l : List Oper) (i : Nat) (acc : List Nat) (x y : RInfo), x ∈ ancs l i acc → y ∈ ancs l i acc → x.i = y.i → x = y
  | [], _, _, _, _, h, _, _ => by simp [ancs] at h
  | o :: l, i, acc, x, y, hx, hy, he => by
    simp only [ancs, List.mem_cons] at hx hy
    rcases hx with rfl | hx <;> rcases hy with rfl | hy
    · rfl
    · have := (ancs_mem l (i + 1) _ y hy).1
      simp at he; omega
    · have := (ancs_mem l (i + 1) _ x hx).1
      simp at he; omega
    · exact ancs_inj l (i + 1) _ x y hx hy he

theorem ancs_has : ∀ (l : List Oper) (i : Nat) (acc : List Nat) (j : Nat), j < l.length → ∃ x ∈ ancs l i acc, x.i = i + j
  | [], _, _, j, h => by simp at h
  | o :: l, i, acc, 0, _ => ⟨_, by simp only [ancs]; exact List.mem_cons_self, rfl⟩
  | o :: l, i, acc, j + 1, h => by
    obtain ⟨x, hx, he⟩ := ancs_has l (i + 1) (acc ++ [o.after.toList.foldl (fun s e => if Region.binds .any e then s ||| 2 ^ e.on ||| (match nthL e.on acc with | some x => x | none => 0) else s) 0]) j (by simp at h; omega)
    exact ⟨x, by simp only [ancs]; exact List.mem_cons_of_mem _ hx, by omega⟩

section
variable {r : Rho} {s : BT AV} {t : Array Value} {g : AReg} {A : List RInfo} {todo : List Nat} (hg : RegR r s t g A todo)
include hg
theorem RegR.oper {x : RInfo} (hx : x ∈ A) : g.ops[x.i]? = some x.o ∧ x.eff = effectful x.o.op ∧ x.i < g.ops.size := by
  rw [hg.anc] at hx
  obtain ⟨_, h2, h3, h4⟩ := ancs_mem _ _ _ _ hx
  simp at h2 h3
  exact ⟨h3, h4, h2⟩
theorem RegR.inj {x y : RInfo} (hx : x ∈ A) (hy : y ∈ A) (h : x.i = y.i) : x = y := by
  rw [hg.anc] at hx hy
  exact ancs_inj _ _ _ _ _ hx hy h
theorem RegR.has {i : Nat} (h : i < g.ops.size) : ∃ x ∈ A, x.i = i := by
  obtain ⟨x, hx, he⟩ := ancs_has g.ops.toList 0 [] i (by simpa using h)
  exact ⟨x, by rw [hg.anc]; exact hx, by omega⟩
end

/-- a region behind an effect -/
theorem RegR.next {r : Rho} {s : BT AV} {t : Array Value} {g : AReg} {A : List RInfo} {e : RInfo} {rest : List RInfo} {todo : List Nat} (hg : RegR r s t g A (e.i :: todo)) (he : g.effs = e :: rest)
    {v : AV} {u : Value} (hv : VR r v u) (hd : ∀ n, e.o.dst = some n → n < t.size) : RegR r (sput e.o.dst s v) (tput e.o.dst t u) (g.after rest e) A todo := by
  obtain ⟨heA, heE⟩ := hg.effsA e (by rw [he]; simp)
  have hnd := List.nodup_cons.1 hg.nodup
  have hord := List.pairwise_cons.1 hg.order
  have hsrt := hg.sorted
  rw [he] at hsrt
  have hsrt := List.pairwise_cons.1 hsrt
  have hafter : ∀ (rest : List RInfo) (e : RInfo), (g.after rest e).ops = g.ops ∧ (g.after rest e).infos = g.infos ∧ (g.after rest e).effs = rest ∧ (g.after rest e).base = g.base ∧ (g.after rest e).phase = .unsat ∧ (g.after rest e).last = some e := fun _ _ => ⟨rfl, rfl, rfl, rfl, rfl, rfl⟩
  obtain ⟨a1, a2, a3, a4, a5, a6⟩ := hafter rest e
  have hq : ∀ x ∈ A, x.eff = false → (x.i ∈ todo ↔ x.i ∈ e.i :: todo) := by
    intro x hx hxe
    constructor
    · exact fun h => List.mem_cons_of_mem _ h
    · intro h
      rcases List.mem_cons.1 h with h | h
      · exact absurd (hg.inj hx heA h) (fun e' => by subst e'; rw [heE] at hxe; cases hxe)
      · exact h
  constructor
  · rw [a1]; exact hg.anc
  · rw [a1]; exact hg.ok
  · intro x hx d hd'; rw [tput_size]; exact hg.dlt x hx d hd'
  · rw [a2]; exact hg.infos
  · intro x hx hxe
    rw [a3]
    have := hg.effs x hx hxe
    rw [he] at this
    constructor
    · intro h
      rcases List.mem_cons.1 (this.1 (List.mem_cons_of_mem _ h)) with h1 | h1
      · subst h1; exact absurd h hnd.1
      · exact h1
    · intro h
      rcases List.mem_cons.1 (this.2 (List.mem_cons_of_mem _ h)) with h1 | h1
      · have := hsrt.1 x h; omega
      · exact h1
  · intro x hx; rw [a3] at hx; exact hg.effsA x (by rw [he]; exact List.mem_cons_of_mem _ hx)
  · rw [a3]; exact hsrt.2
  · exact hnd.2
  · intro i hi; rw [a1]; exact hg.lt i (List.mem_cons_of_mem _ hi)
  · exact hord.2
  · intro x hx y hy hxt hb
    by_cases hxe : x.i = e.i
    · intro hyt
      have := hord.1 y.i hyt x hx hxe
      rw [this] at hb; cases hb
    · intro hyt
      exact hg.closed x hx y hy (by simp [hxe, hxt]) hb (List.mem_cons_of_mem _ hyt)
  · intro x hx hxe hxt
    rw [a4]
    exact hg.unborn x hx hxe (List.mem_cons_of_mem _ hxt)
  · intro n
    rw [slot_sput, tput_getD _ _ _ hd]
    by_cases hn : e.o.dst = some n
    · right; simp only [hn, if_true]; exact hv
    · simp only [hn, if_false]
      rcases hg.slots n with ⟨x, hx, hxe, hxt, hxd⟩ | h
      · exact .inl ⟨x, hx, hxe, (hq x hx hxe).2 hxt, hxd⟩
      · exact .inr h
  · intro _ x hx hxe hnew
    rw [a6] at hnew
    simp only [newOf] at hnew
    rw [hq x hx hxe]
    refine Classical.byContradiction fun hxt => ?_
    exact hg.closed x hx e heA hxt hnew (by simp)
  · intro _ x hx hxe hpast
    rw [a6] at hpast
    simp only [pastOf] at hpast
    intro hxt
    have := hord.1 x.i hxt e heA rfl
    rw [this] at hpast; cases hpast
  · intro h; rw [a5] at h; cases h

theorem finish_region (f : Frame) {ops : Array Oper} {i : Nat} {rest : List Nat} {k : List Item} (ht : f.todo = .inRegion ops (i :: rest) :: k) {o : Oper} (ho : ops[i]? = some o) (u : Value) :
    f.finish u = { f with tmps := tput o.dst f.tmps u, todo := .inRegion ops rest :: k } := by
  obtain ⟨fn, tmps, td, defers, mode, kind, roundOf⟩ := f
  simp only at ht
  subst ht
  simp only [Frame.finish, ho, Option.bind_some]
  cases o.dst <;> rfl

theorem finish_sound {r : Rho} {lo hi : Nat} {a a' : AFrame} {f : Frame} (h : FR r lo hi a f) {v : AV} {u : Value} (hf : a.finish v = some a') (hv : VR r v u) : FR r lo hi a' (f.finish u) := by
  obtain ⟨hfn, hsize, hdefers, hmode, hkind, hround, htop⟩ := h
  obtain ⟨afn, aslots, asize, atodo, adefers, aret, adef, around⟩ := a
  unfold AFrame.finish at hf
  simp only at *
  split at hf
  · -- a list of operations
    rename_i o l ops k
    split at hf
    · rename_i b hput
      injection hf with hf; subst hf
      obtain ⟨rfl, hd⟩ := put_spec' hput
      generalize hft : f.todo = ft at htop
      cases htop with
      | plain hir htr =>
      cases hir with | cons hi ht =>
      cases hi with | ops hidx =>
      rename_i is idx
      cases idx with
      | nil => simp at hidx
      | cons i rest =>
      simp only [List.map_cons, List.cons.injEq] at hidx
      rw [finish_region f hft hidx.1 u]
      exact ⟨hfn, by rw [tput_size]; exact hsize, hdefers, hmode, hkind, hround, .plain (.cons (.ops hidx.2) ht) (htr.put (fun n hn => by rw [hsize]; exact hd n hn) hv)⟩
    · cases hf
  · rename_i g k
    split at hf
    · rename_i e rest hph heff
      split at hf
      · rename_i b hput
        injection hf with hf; subst hf
        obtain ⟨rfl, hd⟩ := put_spec' hput
        generalize hft : f.todo = ft at htop
        cases htop with
        | plain hir _ => cases hir with | cons hi _ => cases hi
        | reg hk hg h1 h2 =>
        rename_i A todo k'
        obtain ⟨e', rest', todo', he', ht'⟩ := hg.wait hph
        rw [heff] at he'
        injection he' with h3 h4; subst h3; subst h4; subst ht'
        obtain ⟨heA, _⟩ := hg.effsA e (by rw [heff]; simp)
        rw [finish_region f hft (hg.oper heA).1 u]
        exact ⟨hfn, by rw [tput_size]; exact hsize, hdefers, hmode, hkind, hround, .reg (g := g.after rest e) hk (hg.next heff hv (fun n hn => by rw [hsize]; exact hd n hn)) h1 h2⟩
      · cases hf
    · cases hf
  · rename_i l k
    injection hf with hf; subst hf
    generalize hft : f.todo = ft at htop
    cases htop with
    | plain hir htr =>
    cases hir with | cons hi ht =>
    cases hi with | inRange hl =>
    obtain ⟨fn, tmps, td, defers, mode, kind, roundOf⟩ := f
    simp only at hft
    subst hft
    exact ⟨hfn, hsize, hdefers, hmode, hkind, hround, .plain (.cons (.endRange hl) ht) htr⟩
  · cases hf

end Abs
end Go.Proofs.YtonnifoeokagjaaGreat
