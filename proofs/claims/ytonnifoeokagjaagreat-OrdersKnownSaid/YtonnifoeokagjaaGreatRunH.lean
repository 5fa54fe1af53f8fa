/-
  The abstract heap stands for a world: the relation, and what turning a block does to it. No condition.
-/
import Derived.Test.YtonnifoeokagjaaGreatRunV
namespace Go.Proofs.YtonnifoeokagjaaGreat
open Go Go.RowKit
namespace Abs

inductive DR (r : Rho) : AD → Deferred → Prop
  | fn {f : FuncId} {cap args : List AV} {c as : List Value} (h : VRs r cap c) (h' : VRs r args as) : DR r (.fn f cap args) { target := .fn (.func f) c.toArray, args := as.toArray }
  | coll {b k n : Nat} (h : r b = some (k, n)) : DR r (.coll b) { target := .collected k, args := #[] }

theorem DR.mono {r r' : Rho} (h : Rho.le r r') {a : AD} {d : Deferred} : DR r a d → DR r' a d
  | .fn e e' => .fn (e.mono h) (e'.mono h)
  | .coll e => .coll (h _ _ e)

inductive DRs (r : Rho) : List AD → List Deferred → Prop
  | nil : DRs r [] []
  | cons {a : AD} {d : Deferred} {as : List AD} {ds : List Deferred} (h : DR r a d) (t : DRs r as ds) : DRs r (a :: as) (d :: ds)

theorem DRs.mono {r r' : Rho} (h : Rho.le r r') : ∀ {a : List AD} {d : List Deferred}, DRs r a d → DRs r' a d
  | _, _, .nil => .nil
  | _, _, .cons e t => .cons (e.mono h) (t.mono h)

theorem DRs.append {r : Rho} : ∀ {a a' : List AD} {v v' : List Deferred}, DRs r a v → DRs r a' v' → DRs r (a ++ a') (v ++ v')
  | _, _, _, _, .nil, h => h
  | _, _, _, _, .cons e t, h => .cons e (DRs.append t h)

def TR (r : Rho) (t : BT AV) (a : Array Value) : Prop := ∀ i, VR r (slot t i) (a.getD i undef)

theorem TR.mono {r r' : Rho} (h : Rho.le r r') {t : BT AV} {a : Array Value} (e : TR r t a) : TR r' t a := fun i => (e i).mono h

theorem TR.set {r : Rho} {t : BT AV} {a : Array Value} (e : TR r t a) {d : Nat} (hd : d < a.size) {v : AV} {u : Value} (hv : VR r v u) : TR r (sset t d v) (a.setIfInBounds d u) := by
  intro i
  rw [slot_sset]
  by_cases h : i = d
  · subst h; simpa [hd] using hv
  · have := e i
    simp only [h, if_false]
    simpa [Array.getD_eq_getD_getElem?, Array.getElem?_setIfInBounds_ne (Ne.symm h)] using this

inductive MRs (r : Rho) : List (AV × AV × Nat) → List MapEntry → Prop
  | nil : MRs r [] []
  | cons {k v : AV} {n : Nat} {k' v' : Value} {as : List (AV × AV × Nat)} {ms : List MapEntry} (hk : VR r k k') (hv : VR r v v') (t : MRs r as ms) : MRs r ((k, v, n) :: as) ({ key := k', val := v', born := n } :: ms)

theorem MRs.mono {r r' : Rho} (h : Rho.le r r') : ∀ {a : List (AV × AV × Nat)} {d : List MapEntry}, MRs r a d → MRs r' a d
  | _, _, .nil => .nil
  | _, _, .cons e e' t => .cons (e.mono h) (e'.mono h) (t.mono h)

theorem MRs.length {r : Rho} : ∀ {a : List (AV × AV × Nat)} {d : List MapEntry}, MRs r a d → a.length = d.length
  | _, _, .nil => rfl
  | _, _, .cons _ _ t => by simp [MRs.length t]

theorem MRs.push {r : Rho} {k v : AV} {n : Nat} {k' v' : Value} (hk : VR r k k') (hv : VR r v v') : ∀ {a : List (AV × AV × Nat)} {d : List MapEntry}, MRs r a d → MRs r (a ++ [(k, v, n)]) (d ++ [{ key := k', val := v', born := n }])
  | _, _, .nil => .cons hk hv .nil
  | _, _, .cons a b t => .cons a b (MRs.push hk hv t)

theorem MRs.modify {r : Rho} {k v : AV} {k' v' : Value} (hk : VR r k k') (hv : VR r v v') : ∀ {a : List (AV × AV × Nat)} {d : List MapEntry}, MRs r a d → ∀ i, MRs r (a.modify i fun e => (k, v, e.2.2)) (d.modify i fun e => { e with key := k', val := v' })
  | _, _, .nil, i => by simpa using MRs.nil
  | _, _, .cons a b t, 0 => .cons hk hv t
  | _, _, .cons a b t, i + 1 => .cons a b (MRs.modify hk hv t i)

def LR (r : Rho) (l : ALoop) (x : Loop) : Prop :=
  x.state = l.state ∧ x.pending = l.pending ∧ x.fn = l.fn ∧ TR r l.slots x.tmps ∧ x.tmps.size = l.size ∧ x.params.toList = l.params ∧ x.assign = l.assign ∧ x.body = l.body ∧ ∃ n, r l.defers = some (x.defers, n)

theorem LR.mono {r r' : Rho} (h : Rho.le r r') {l : ALoop} {x : Loop} (e : LR r l x) : LR r' l x := by
  obtain ⟨a, b, c, d, f, g, i, j, n, k⟩ := e
  exact ⟨a, b, c, d.mono h, f, g, i, j, n, h _ _ k⟩

def OR (r : Rho) (o : AO) (n : Nat) (x : Option Obj) : Prop :=
  match o with
  | .cells cs e => ∃ c, x = some (.cells c.toArray e (0, 0)) ∧ VRs r cs c
  | .cellsx cs e es => ∃ c c', x = some (.cells (c ++ c').toArray e (0, 0)) ∧ VRs r cs c ∧ (c ++ c').length = n * es
  | .map es clock => ∃ l, x = some (.map l.toArray clock) ∧ MRs r es l
  | .loop l => ∃ y, x = some (.loop y) ∧ LR r l y
  | .defs none => x = some (.deferred none)
  | .defs (some ds) => ∃ l, x = some (.deferred (some l)) ∧ DRs r ds l
  | .dead => True

theorem OR.mono {r r' : Rho} (h : Rho.le r r') {o : AO} {n : Nat} {x : Option Obj} (e : OR r o n x) : OR r' o n x := by
  cases o with
  | cells cs el => obtain ⟨c, e, v⟩ := e; exact ⟨c, e, v.mono h⟩
  | cellsx cs el es => obtain ⟨c, c', e, v, l⟩ := e; exact ⟨c, c', e, v.mono h, l⟩
  | map es cl => obtain ⟨l, e, v⟩ := e; exact ⟨l, e, v.mono h⟩
  | loop l => obtain ⟨y, e, v⟩ := e; exact ⟨y, e, v.mono h⟩
  | defs c =>
    cases c with
    | none => exact e
    | some ds => obtain ⟨l, e, v⟩ := e; exact ⟨l, e, v.mono h⟩
  | dead => trivial

def AO.live : AO → Prop
  | .dead => False
  | _ => True

structure HR (r : Rho) (h : Heap) (next : Nat) (w0 w : World) : Prop where
  below : Below w0.heap.size w0 w
  dom : ∀ b x, r b = some x → b < next ∧ w0.heap.size ≤ x.1 ∧ x.1 < w.heap.size
  obj : ∀ b o k n, hget h b = some o → r b = some (k, n) → OR r o n w.heap[k]?
  inj : ∀ b b' o o' k n n', hget h b = some o → hget h b' = some o' → o.live → o'.live → r b = some (k, n) → r b' = some (k, n') → b = b'

theorem HR.fresh {r : Rho} {h : Heap} {nx : Nat} {w0 w : World} (hr : HR r h nx w0 w) {b : Nat} (hb : nx ≤ b) : r b = none := by
  cases e : r b with
  | none => rfl
  | some x => exact absurd (hr.dom b x e).1 (by omega)

theorem HR.start (w : World) : HR (fun _ => Option.none) .nil 0 w w :=
  ⟨Below.refl _ _, fun _ _ h => (by cases h), fun _ _ _ _ _ h => (by cases h), fun _ _ _ _ _ _ _ _ _ _ _ h => (by cases h)⟩

theorem HR.drew {r : Rho} {h : Heap} {nx : Nat} {w0 w : World} (hr : HR r h nx w0 w) : HR r h nx w0 { w with drawn := w.drawn + 1 } :=
  ⟨⟨hr.below.os, hr.below.tape, hr.below.output, hr.below.size, hr.below.block⟩, hr.dom, hr.obj, hr.inj⟩

theorem HR.next {r : Rho} {h : Heap} {nx nx' : Nat} {w0 w : World} (hr : HR r h nx w0 w) (hn : nx ≤ nx') : HR r h nx' w0 w :=
  ⟨hr.below, fun b x e => ⟨Nat.lt_of_lt_of_le (hr.dom b x e).1 hn, (hr.dom b x e).2⟩, hr.obj, hr.inj⟩

/-- the heap may be turned where nothing is mapped -/
theorem HR.heap {r : Rho} {h h' : Heap} {nx : Nat} {w0 w : World} (hr : HR r h nx w0 w) (hh : ∀ b x, r b = some x → hget h' b = hget h b) : HR r h' nx w0 w :=
  ⟨hr.below, hr.dom, fun b o k n e e' => hr.obj b o k n (by rw [← hh b _ e']; exact e) e',
   fun b b' o o' k n n' e e' l l' f f' => hr.inj b b' o o' k n n' (by rw [← hh b _ f]; exact e) (by rw [← hh b' _ f']; exact e') l l' f f'⟩

/-- w' is w but for block k, which is now obj -/
structure Turned (w w' : World) (k : Nat) (obj : Obj) : Prop where
  os : w'.os = w.os
  tape : w'.tape = w.tape
  output : w'.output = w.output
  size : w'.heap.size = w.heap.size
  other : ∀ j, j ≠ k → w'.heap[j]? = w.heap[j]?
  this : w'.heap[k]? = some obj

theorem HR.set {r : Rho} {h : Heap} {nx : Nat} {w0 w w' : World} (hr : HR r h nx w0 w) {b k n : Nat} (hb : r b = some (k, n)) {o o' : AO} (ho : hget h b = some o) (hl : o.live)
    {obj : Obj} (hor : OR r o' n (some obj)) (ht : Turned w w' k obj) : HR r (hset h b o') nx w0 w' := by
  have hk := hr.dom b _ hb
  refine ⟨⟨ht.os.trans hr.below.os, ht.tape.trans hr.below.tape, ht.output.trans hr.below.output, by rw [ht.size]; exact hr.below.size, fun j hj => ?_⟩, fun c x e => ?_, fun c q k' n' e e' => ?_, fun c c' q q' k' n₁ n₂ e e' l l' f f' => ?_⟩
  · rw [ht.other j (by simp at hk; omega)]; exact hr.below.block j hj
  · have := hr.dom c x e; rw [ht.size]; exact this
  · rw [hget_hset] at e
    by_cases hc : c = b
    · subst hc
      rw [hb] at e'; injection e' with e'; injection e' with e1 e2; subst e1; subst e2
      simp at e; subst e
      rw [ht.this]; exact hor
    · simp only [hc, if_false] at e
      by_cases hk' : k' = k
      · subst hk'
        cases q with
        | dead => trivial
        | _ => exact absurd (hr.inj c b _ _ k' n' n e ho trivial hl e' hb) hc
      · rw [ht.other k' hk']; exact hr.obj c q k' n' e e'
  · rw [hget_hset] at e e'
    have hx : ∃ p, hget h c = some p ∧ p.live := by
      by_cases hc : c = b
      · subst hc; exact ⟨o, ho, hl⟩
      · simp only [hc, if_false] at e; exact ⟨q, e, l⟩
    have hy : ∃ p, hget h c' = some p ∧ p.live := by
      by_cases hc : c' = b
      · subst hc; exact ⟨o, ho, hl⟩
      · simp only [hc, if_false] at e'; exact ⟨q', e', l'⟩
    obtain ⟨p, hp, lp⟩ := hx
    obtain ⟨p', hp', lp'⟩ := hy
    exact hr.inj c c' p p' k' n₁ n₂ hp hp' lp lp' f f'

/-- a new block -/
theorem HR.alloc {r : Rho} {h h' : Heap} {nx nx' : Nat} {w0 w : World} (hr : HR r h nx w0 w) {id n : Nat} (hid : r id = none) (hlt : id < nx') (hle : nx ≤ nx')
    {o : AO} {obj : Obj} (ho : hget h' id = some o) (hh : ∀ b x, r b = some x → hget h' b = hget h b) (hor : OR r o n (some obj)) :
    HR (r.upd id (w.heap.size, n)) h' nx' w0 { w with heap := w.heap.push obj } := by
  have hle' := Rho.le_upd (x := (w.heap.size, n)) hid
  refine ⟨⟨hr.below.os, hr.below.tape, hr.below.output, ?_, fun j hj => ?_⟩, fun c x e => ?_, fun c q k' n' e e' => ?_, fun c c' q q' k' n₁ n₂ e e' l l' f f' => ?_⟩
  · have := hr.below.size; simp; omega
  · have := hr.below.size
    show (w.heap.push obj)[j]? = _
    rw [Array.getElem?_push, if_neg (by omega)]
    exact hr.below.block j hj
  · by_cases hc : c = id
    · subst hc
      rw [Rho.upd_same] at e; injection e with e; subst e
      have := hr.below.size
      exact ⟨hlt, this, by simp⟩
    · rw [Rho.upd_ne _ _ hc] at e
      have := hr.dom c x e
      refine ⟨by omega, this.2.1, ?_⟩
      have := this.2.2
      simp; omega
  · show OR _ q n' (w.heap.push obj)[k']?
    by_cases hc : c = id
    · subst hc
      rw [Rho.upd_same] at e'; injection e' with e'; injection e' with e1 e2; subst e1; subst e2
      rw [ho] at e; injection e with e; subst e
      rw [Array.getElem?_push, if_pos rfl]
      exact hor.mono hle'
    · rw [Rho.upd_ne _ _ hc] at e'
      have := (hr.dom c _ e').2.2
      simp only at this
      rw [Array.getElem?_push, if_neg (by omega)]
      exact (hr.obj c q k' n' (by rw [← hh c _ e']; exact e) e').mono hle'
  · by_cases hc : c = id <;> by_cases hc' : c' = id
    · rw [hc, hc']
    · subst hc
      rw [Rho.upd_same] at f; injection f with f; injection f with f1 f2
      rw [Rho.upd_ne _ _ hc'] at f'
      have := (hr.dom c' _ f').2.2
      simp at this; omega
    · subst hc'
      rw [Rho.upd_same] at f'; injection f' with f'; injection f' with f1 f2
      rw [Rho.upd_ne _ _ hc] at f
      have := (hr.dom c _ f).2.2
      simp at this; omega
    · rw [Rho.upd_ne _ _ hc] at f
      rw [Rho.upd_ne _ _ hc'] at f'
      exact hr.inj c c' q q' k' n₁ n₂ (by rw [← hh c _ f]; exact e) (by rw [← hh c' _ f']; exact e') l l' f f'

/-- a new name for an old block, whose old name is struck dead -/
theorem HR.moved {r : Rho} {h : Heap} {nx : Nat} {w0 w w' : World} (hr : HR r h nx w0 w) {b k n : Nat} (hb : r b = some (k, n)) {o o' : AO} (ho : hget h b = some o) (hl : o.live) (hn : b ≠ nx)
    {n' : Nat} {obj : Obj} (hor : OR r o' n' (some obj)) (ht : Turned w w' k obj) :
    HR (r.upd nx (k, n')) (hset (hset h b .dead) nx o') (nx + 1) w0 w' := by
  have hnx : r nx = none := hr.fresh (Nat.le_refl _)
  have hle' := Rho.le_upd (x := (k, n')) hnx
  have h1 : HR r (hset h b .dead) nx w0 w' := hr.set hb ho hl (o' := .dead) (n := n) (obj := obj) trivial ht
  have hk := hr.dom b _ hb
  refine ⟨h1.below, fun c x e => ?_, fun c q k' m e e' => ?_, fun c c' q q' k' n₁ n₂ e e' l l' f f' => ?_⟩
  · by_cases hc : c = nx
    · subst hc
      rw [Rho.upd_same] at e; injection e with e; subst e
      refine ⟨by omega, hk.2.1, ?_⟩
      rw [ht.size]; exact hk.2.2
    · rw [Rho.upd_ne _ _ hc] at e
      have := h1.dom c x e
      exact ⟨by omega, this.2⟩
  · rw [hget_hset] at e
    by_cases hc : c = nx
    · subst hc
      rw [Rho.upd_same] at e'; injection e' with e'; injection e' with e1 e2; subst e1; subst e2
      simp at e; subst e
      rw [ht.this]; exact hor.mono hle'
    · simp only [hc, if_false] at e
      rw [Rho.upd_ne _ _ hc] at e'
      exact (h1.obj c q k' m e e').mono hle'
  · rw [hget_hset] at e e'
    have key : ∀ c q n₁, c ≠ nx → hget (hset h b .dead) c = some q → q.live → r c = some (k, n₁) → False := by
      intro c q n₁ hc e l f
      rw [hget_hset] at e
      by_cases hcb : c = b
      · subst hcb; simp at e; subst e; exact l
      · simp only [hcb, if_false] at e
        exact hcb (hr.inj c b q o k n₁ n e ho l hl f hb)
    by_cases hc : c = nx <;> by_cases hc' : c' = nx
    · rw [hc, hc']
    · subst hc
      rw [Rho.upd_same] at f; injection f with f; injection f with f1 f2; subst f1
      rw [Rho.upd_ne _ _ hc'] at f'
      simp only [hc', if_false] at e'
      exact (key c' q' n₂ hc' e' l' f').elim
    · subst hc'
      rw [Rho.upd_same] at f'; injection f' with f'; injection f' with f1 f2; subst f1
      rw [Rho.upd_ne _ _ hc] at f
      simp only [hc, if_false] at e
      exact (key c q n₁ hc e l f).elim
    · rw [Rho.upd_ne _ _ hc] at f
      rw [Rho.upd_ne _ _ hc'] at f'
      simp only [hc, if_false] at e
      simp only [hc', if_false] at e'
      exact h1.inj c c' q q' k' n₁ n₂ e e' l l' f f'

/-- an old name struck dead, the world unturned -/
theorem HR.kill {r : Rho} {h : Heap} {nx : Nat} {w0 w : World} (hr : HR r h nx w0 w) (b : Nat) : HR r (hset h b .dead) nx w0 w := by
  refine ⟨hr.below, hr.dom, fun c q k' m e e' => ?_, fun c c' q q' k' n₁ n₂ e e' l l' f f' => ?_⟩
  · rw [hget_hset] at e
    by_cases hc : c = b
    · simp [hc] at e; subst e; trivial
    · simp only [hc, if_false] at e; exact hr.obj c q k' m e e'
  · rw [hget_hset] at e e'
    have key : ∀ c q, (if c = b then some AO.dead else hget h c) = some q → q.live → hget h c = some q := by
      intro c q e l
      by_cases hc : c = b
      · simp [hc] at e; subst e; exact l.elim
      · simpa [hc] using e
    exact hr.inj c c' q q' k' n₁ n₂ (key c q e l) (key c' q' e' l') l l' f f'

theorem HR.cells {r : Rho} {h : Heap} {nx : Nat} {w0 w : World} (hr : HR r h nx w0 w) {b k n : Nat} (hb : r b = some (k, n)) {o : AO} (ho : hget h b = some o) {cs : List AV} (hc : o.cells? = some cs) :
    ∃ (c c' : List Value) (e : TypeId), w.heap[k]? = some (.cells (c ++ c').toArray e (0, 0)) ∧ VRs r cs c := by
  have := hr.obj b o k n ho hb
  cases o <;> simp [AO.cells?] at hc
  · obtain ⟨c, e, v⟩ := this; subst hc; exact ⟨c, [], _, by simpa using e, v⟩
  · obtain ⟨c, c', e, v, _⟩ := this; subst hc; exact ⟨c, c', _, e, v⟩

theorem add_at (k off i : Nat) : (⟨k, off, none⟩ : Addr).add i = ⟨k, off + i, none⟩ := by
  unfold Addr.add; split <;> simp_all

theorem hload_sound {r : Rho} {h : Heap} {nx : Nat} {w0 w : World} (hr : HR r h nx w0 w) {b k m off n : Nat} (hb : r b = some (k, m)) {l : List AV} (hl : hload h b off n = some l) :
    ∃ vs, VRs r l vs ∧ vs.length = n ∧ (∀ (j : Nat) (v : Value), vs[j]? = some v → w.cell? ((⟨k, off, none⟩ : Addr).add j) = some v) ∧ ∃ c e, w.heap[k]? = some (.cells c e (0, 0)) ∧ off + n ≤ c.size := by
  unfold hload at hl
  split at hl
  · rename_i o ho
    split at hl
    · rename_i cs hc
      obtain ⟨c, c', e, hk, hv⟩ := hr.cells hb ho hc
      split at hl
      · rename_i q hq
        obtain ⟨rfl, h1⟩ := dropL_eq _ _ _ hq
        obtain ⟨rfl, h2⟩ := takeL_eq _ _ _ hl
        have hlen := hv.length
        refine ⟨(c.drop off).take n, (hv.drop off).take n, ?_, fun j v hj => ?_, _, e, hk, ?_⟩
        · simp at h2 ⊢; omega
        · rw [add_at]
          have hj' : c[off + j]? = some v := by
            simp only [List.getElem?_take, List.getElem?_drop] at hj
            split at hj
            · exact hj
            · cases hj
          have hlt := (List.getElem?_eq_some_iff.1 hj').1
          simp [World.cell?, hk, List.getElem?_append_left hlt, hj']
        · simp at h2 ⊢; omega
      · cases hl
    · cases hl
  · cases hl

theorem turned_setRow {w : World} {k : Nat} {c : Array Value} {e : TypeId} (hk : w.heap[k]? = some (.cells c e (0, 0))) (c' : Array Value) : Turned w (w.setRow k c') k (.cells c' e (0, 0)) := by
  refine ⟨rfl, rfl, rfl, by simp [World.setRow], fun j hj => ?_, setRow_heap w k c c' e (0, 0) hk⟩
  simp only [World.setRow, Array.getElem?_modify]
  rw [if_neg (Ne.symm hj)]

theorem hstore_sound (P : Program) {r : Rho} {h h' : Heap} {nx : Nat} {w0 w : World} (hr : HR r h nx w0 w) {b k m off : Nat} (hb : r b = some (k, m)) {vs : List AV} {us : List Value} (hv : VRs r vs us)
    (h1 : ∀ u ∈ us, u.oneCell' = true) (hs : hstore h b off vs = some h') :
    ∃ w', (storeCells ⟨k, off, none⟩ us).run P w = .ok () w' ∧ HR r h' nx w0 w' ∧ w'.heap.size = w.heap.size := by
  have hlen := hv.length
  unfold hstore at hs
  split at hs
  · rename_i cs e ho
    obtain ⟨c, hk, hc⟩ := hr.obj b _ k m ho hb
    have hcl := hc.length
    split at hs
    · rename_i q hq
      injection hs with hs; subst hs
      obtain ⟨rfl, hle⟩ := putL_eq _ _ _ _ hq
      have hrun := run_storeCells_at P k off e us 0 c.toArray w hk (by simp; omega) h1
      refine ⟨_, hrun, hr.set hb ho trivial (o' := .cells _ e) ⟨_, rfl, ?_⟩ (turned_setRow hk _), by simp [World.setRow]⟩
      simp only [Nat.add_zero]
      exact ((hc.take _).append hv).append (hlen ▸ hc.drop _)
    · cases hs
  · rename_i cs e es ho
    obtain ⟨c, c', hk, hc, hl⟩ := hr.obj b _ k m ho hb
    have hcl := hc.length
    split at hs
    · rename_i q hq
      injection hs with hs; subst hs
      obtain ⟨rfl, hle⟩ := putL_eq _ _ _ _ hq
      have hrun := run_storeCells_at P k off e us 0 (c ++ c').toArray w hk (by simp; omega) h1
      refine ⟨_, hrun, hr.set hb ho trivial (o' := .cellsx _ e es) ⟨c.take off ++ us ++ c.drop (off + us.length), c', ?_, ?_, ?_⟩ (turned_setRow hk _), by simp [World.setRow]⟩
      · simp only [Nat.add_zero]
        congr 3
        have a1 : (c ++ c').take off = c.take off := List.take_append_of_le_length (by omega)
        have a2 : (c ++ c').drop (off + us.length) = c.drop (off + us.length) ++ c' := List.drop_append_of_le_length (by omega)
        simp [a1, a2]
      · exact ((hc.take _).append hv).append (hlen ▸ hc.drop _)
      · simp at hl ⊢; omega
    · cases hs
  · cases hs

end Abs
end Go.Proofs.YtonnifoeokagjaaGreat
