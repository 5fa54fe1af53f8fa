/-
  The abstract values stand for values: the relation and its lemmas. No condition.
-/
import Derived.Test.YtonnifoeokagjaaGreatRunM
import Derived.Laws.BitsLemmas
import Derived.Laws.CopyRow
import Derived.Laws.Cells
namespace Go.Proofs.YtonnifoeokagjaaGreat
open Go Go.RowKit
namespace Abs

namespace BT
variable {α : Type}
theorem get_nil (n : Nat) : (nil : BT α).get n = none := rfl
theorem get_zero (t : BT α) : t.get 0 = t.val := by cases t <;> rfl
theorem beq2 (m : Nat) : Nat.beq (Nat.mod m 2) 0 = decide (m % 2 = 0) := by
  by_cases h : m % 2 = 0
  · simp only [h, decide_true]; show Nat.beq (m % 2) 0 = true; rw [h]; rfl
  · simp only [h, decide_false]
    show Nat.beq (m % 2) 0 = false
    cases hh : m % 2 with
    | zero => exact absurd hh h
    | succ k => rfl
theorem get_succ (t : BT α) (m : Nat) : t.get (m + 1) = if m % 2 = 0 then t.left.get (m / 2) else t.right.get (m / 2) := by
  cases t with
  | nil => simp [get_nil, left, right]
  | node v l r =>
    show Bool.rec (motive := fun _ => Option α) (r.get (Nat.div m 2)) (l.get (Nat.div m 2)) (Nat.beq (Nat.mod m 2) 0) = _
    rw [beq2]
    by_cases h : m % 2 = 0 <;> simp only [h, decide_true, decide_false, left, right, if_true, if_false] <;> rfl
theorem set_zero (f : Nat) (t : BT α) (a : α) : set (f + 1) t 0 a = node (some a) t.left t.right := by cases t <;> rfl
theorem set_succ (f : Nat) (t : BT α) (m : Nat) (a : α) : set (f + 1) t (m + 1) a = if m % 2 = 0 then node t.val (set f t.left (m / 2) a) t.right else node t.val t.left (set f t.right (m / 2) a) := by
  cases t with
  | nil =>
    show Bool.rec (motive := fun _ => BT α) (node none nil (set f nil (Nat.div m 2) a)) (node none (set f nil (Nat.div m 2) a) nil) (Nat.beq (Nat.mod m 2) 0) = _
    rw [beq2]
    by_cases h : m % 2 = 0 <;> simp only [h, decide_true, decide_false, left, right, val, if_true, if_false] <;> rfl
  | node v l r =>
    show Bool.rec (motive := fun _ => BT α) (node v l (set f r (Nat.div m 2) a)) (node v (set f l (Nat.div m 2) a) r) (Nat.beq (Nat.mod m 2) 0) = _
    rw [beq2]
    by_cases h : m % 2 = 0 <;> simp only [h, decide_true, decide_false, left, right, val, if_true, if_false] <;> rfl
theorem get_set : ∀ (f : Nat) (t : BT α) (n m : Nat) (a : α), n + 1 < 2 ^ f → (set f t n a).get m = if m = n then some a else t.get m
  | 0, _, n, _, _, h => by simp at h
  | f + 1, t, n, m, a, h => by
    cases n with
    | zero =>
      rw [set_zero]
      cases m with
      | zero => simp [get_zero, val]
      | succ m => simp [get_succ, left, right]
    | succ n =>
      have hn : n / 2 + 1 < 2 ^ f := by rw [Nat.pow_succ] at h; omega
      rw [set_succ]
      by_cases hp : n % 2 = 0
      · rw [if_pos hp]
        cases m with
        | zero => simp [get_zero, val]
        | succ m =>
          simp only [get_succ, left, right, get_set f _ _ _ _ hn]
          by_cases hm : m % 2 = 0
          · simp only [hm, if_true]
            by_cases he : m = n
            · subst he; simp
            · have : m / 2 ≠ n / 2 := by omega
              simp [this, he]
          · have : m ≠ n := by intro e; subst e; exact hm hp
            simp [hm, this]
      · rw [if_neg hp]
        cases m with
        | zero => simp [get_zero, val]
        | succ m =>
          simp only [get_succ, left, right, get_set f _ _ _ _ hn]
          by_cases hm : m % 2 = 0
          · have : m ≠ n := by intro e; subst e; exact hp hm
            simp [hm, this]
          · simp only [hm, if_false]
            by_cases he : m = n
            · subst he; simp
            · have : m / 2 ≠ n / 2 := by omega
              simp [this, he]
theorem two_pow_gt (n : Nat) : n + 1 < 2 ^ (n + 1) ∨ n = 0 := by
  induction n with
  | zero => exact .inr rfl
  | succ n ih =>
    left
    rw [Nat.pow_succ]
    rcases ih with h | h
    · omega
    · subst h; simp
end BT

theorem hget_hset (h : Heap) (b c : Nat) (o : AO) : hget (hset h b o) c = if c = b then some o else hget h c := by
  unfold hget hset
  rcases BT.two_pow_gt b with hb | rfl
  · exact BT.get_set _ _ _ _ _ hb
  · rw [BT.set_zero]
    cases c with
    | zero => simp [BT.get_zero, BT.val]
    | succ m => simp [BT.get_succ, BT.left, BT.right]

theorem slot_sset (t : BT AV) (i j : Nat) (v : AV) : slot (sset t i v) j = if j = i then v else slot t j := by
  unfold slot sset
  have : (BT.set (i + 1) t i v).get j = if j = i then some v else t.get j := by
    rcases BT.two_pow_gt i with hb | rfl
    · exact BT.get_set _ _ _ _ _ hb
    · rw [BT.set_zero]
      cases j with
      | zero => simp [BT.get_zero, BT.val]
      | succ m => simp [BT.get_succ, BT.left, BT.right]
  rw [this]
  by_cases h : j = i <;> simp [h]

theorem slot_nil (i : Nat) : slot .nil i = .g undef := rfl

abbrev Rho := Nat → Option (Nat × Nat)
def Rho.upd (r : Rho) (b : Nat) (x : Nat × Nat) : Rho := fun c => if c = b then some x else r c
def Rho.le (r r' : Rho) : Prop := ∀ b x, r b = some x → r' b = some x

theorem Rho.le_refl (r : Rho) : Rho.le r r := fun _ _ h => h
theorem Rho.le_trans {a b c : Rho} (h : Rho.le a b) (k : Rho.le b c) : Rho.le a c := fun _ _ e => k _ _ (h _ _ e)
theorem Rho.le_upd {r : Rho} {b : Nat} {x : Nat × Nat} (h : r b = none) : Rho.le r (r.upd b x) := by
  intro c y e
  unfold Rho.upd
  by_cases hc : c = b
  · subst hc; rw [h] at e; cases e
  · simp [hc, e]
theorem Rho.upd_same (r : Rho) (b : Nat) (x : Nat × Nat) : r.upd b x b = some x := by simp [Rho.upd]
theorem Rho.upd_ne (r : Rho) {b c : Nat} (x : Nat × Nat) (h : c ≠ b) : r.upd b x c = r c := by simp [Rho.upd, h]

mutual
inductive VR (r : Rho) : AV → Value → Prop
  | g (v : Value) : VR r (.g v) v
  | ptr {b off k n : Nat} (h : r b = some (k, n)) : VR r (.ptr b off) (.pointer (some ⟨k, off, none⟩))
  | sl {b off len cap k n : Nat} (h : r b = some (k, n)) : VR r (.sl b off len cap) (.slice (some ⟨k, off, none⟩) len cap)
  | slx {b off j len k n : Nat} (h : r b = some (k, n)) (hn : j + len ≤ n) : VR r (.slx b off j len) (.slice (some ⟨k, off, none⟩) len (n - j))
  | sle {a : Addr} {c : Nat} : VR r .sle (.slice (some a) 0 c)
  | mp {b k n : Nat} (h : r b = some (k, n)) : VR r (.mp b) (.map (some k))
  | yld {b k n : Nat} (h : r b = some (k, n)) : VR r (.yld b) (.func (.yield k) #[] #[])
  | fn {f : FuncId} {cap : List AV} {c : List Value} (h : VRs r cap c) : VR r (.fn f cap) (.func (.func f) #[] c.toArray)
  | ifc {t : TypeId} {v : AV} {u : Value} (h : VR r v u) : VR r (.ifc t v) (.iface t u)
  | agg {cs : List AV} {c : List Value} (h : VRs r cs c) : VR r (.agg cs) (.agg c.toArray)
  | tup {cs : List AV} {c : List Value} (h : VRs r cs c) : VR r (.tup cs) (.tuple c.toArray)
inductive VRs (r : Rho) : List AV → List Value → Prop
  | nil : VRs r [] []
  | cons {a : AV} {v : Value} {as : List AV} {vs : List Value} (h : VR r a v) (t : VRs r as vs) : VRs r (a :: as) (v :: vs)
end

mutual
theorem VR.mono {r r' : Rho} (h : Rho.le r r') : ∀ {a : AV} {v : Value}, VR r a v → VR r' a v
  | _, _, .g v => .g v
  | _, _, .ptr e => .ptr (h _ _ e)
  | _, _, .sl e => .sl (h _ _ e)
  | _, _, .slx e l => .slx (h _ _ e) l
  | _, _, .sle => .sle
  | _, _, .mp e => .mp (h _ _ e)
  | _, _, .yld e => .yld (h _ _ e)
  | _, _, .fn e => .fn (VRs.mono h e)
  | _, _, .ifc e => .ifc (VR.mono h e)
  | _, _, .agg e => .agg (VRs.mono h e)
  | _, _, .tup e => .tup (VRs.mono h e)
theorem VRs.mono {r r' : Rho} (h : Rho.le r r') : ∀ {a : List AV} {v : List Value}, VRs r a v → VRs r' a v
  | _, _, .nil => .nil
  | _, _, .cons e t => .cons (VR.mono h e) (VRs.mono h t)
end

theorem VRs.length {r : Rho} : ∀ {a : List AV} {v : List Value}, VRs r a v → a.length = v.length
  | _, _, .nil => rfl
  | _, _, .cons _ t => by simp [VRs.length t]

theorem VRs.append {r : Rho} : ∀ {a a' : List AV} {v v' : List Value}, VRs r a v → VRs r a' v' → VRs r (a ++ a') (v ++ v')
  | _, _, _, _, .nil, h => h
  | _, _, _, _, .cons e t, h => .cons e (VRs.append t h)

theorem VRs.get {r : Rho} : ∀ {a : List AV} {v : List Value}, VRs r a v → ∀ {i : Nat} {x : AV}, a[i]? = some x → ∃ y, v[i]? = some y ∧ VR r x y
  | _, _, .nil, _, _, h => by simp at h
  | _, _, .cons e t, 0, x, h => by simp at h; subst h; exact ⟨_, rfl, e⟩
  | _, _, .cons e t, i + 1, x, h => by
    simp only [List.getElem?_cons_succ] at h ⊢
    exact VRs.get t h

theorem VRs.drop {r : Rho} : ∀ {a : List AV} {v : List Value}, VRs r a v → ∀ n, VRs r (a.drop n) (v.drop n)
  | _, _, h, 0 => h
  | _, _, .nil, _ + 1 => .nil
  | _, _, .cons _ t, n + 1 => VRs.drop t n

theorem VRs.take {r : Rho} : ∀ {a : List AV} {v : List Value}, VRs r a v → ∀ n, VRs r (a.take n) (v.take n)
  | _, _, _, 0 => by simpa using VRs.nil
  | _, _, .nil, _ + 1 => .nil
  | _, _, .cons e t, n + 1 => .cons e (VRs.take t n)

theorem VRs.of_g {r : Rho} : ∀ (l : List Value), VRs r (l.map .g) l
  | [] => .nil
  | v :: l => .cons (.g v) (VRs.of_g l)

theorem VRs.rep {r : Rho} {a : List AV} {v : List Value} (h : VRs r a v) : ∀ n, VRs r (repL n a) (repL n v)
  | 0 => .nil
  | n + 1 => h.append (VRs.rep h n)

theorem VRs.map {r : Rho} {α : Type} (f : α → AV) (g : α → Value) : ∀ (l : List α), (∀ x ∈ l, VR r (f x) (g x)) → VRs r (l.map f) (l.map g)
  | [], _ => .nil
  | x :: l, h => .cons (h x (by simp)) (VRs.map f g l fun y hy => h y (by simp [hy]))

theorem VRs.mem {r : Rho} : ∀ {a : List AV} {v : List Value}, VRs r a v → ∀ y ∈ v, ∃ x ∈ a, VR r x y
  | _, _, .nil, _, h => by cases h
  | _, _, .cons e t, y, h => by
    rcases List.mem_cons.1 h with rfl | h
    · exact ⟨_, by simp, e⟩
    · obtain ⟨x, hx, hv⟩ := VRs.mem t y h
      exact ⟨x, by simp [hx], hv⟩

theorem nthL_eq {α : Type} : ∀ (n : Nat) (l : List α), nthL n l = l[n]?
  | _, [] => by simp; rfl
  | 0, _ :: _ => rfl
  | n + 1, _ :: l => by
    show nthL n l = _
    simp [nthL_eq n l]
theorem takeL_eq {α : Type} : ∀ (n : Nat) (l r : List α), takeL n l = some r → r = l.take n ∧ n ≤ l.length
  | 0, _, _, h => by
    have h : some [] = some _ := h
    injection h with h; simp [← h]
  | n + 1, [], _, h => by
    have h : none = some _ := h
    cases h
  | n + 1, a :: l, r, h => by
    have h : Option.rec (motive := fun _ => Option (List α)) none (fun r => some (a :: r)) (takeL n l) = some r := h
    cases hq : takeL n l with
    | none => rw [hq] at h; cases h
    | some q =>
      rw [hq] at h
      have h : some (a :: q) = some r := h
      obtain ⟨h1, h2⟩ := takeL_eq n l q hq
      injection h with h; subst h; simp [h1]; exact h2
theorem dropL_eq {α : Type} : ∀ (n : Nat) (l r : List α), dropL n l = some r → r = l.drop n ∧ n ≤ l.length
  | 0, l, _, h => by
    have h : some l = some _ := h
    injection h with h; simp [← h]
  | n + 1, [], _, h => by
    have h : none = some _ := h
    cases h
  | n + 1, a :: l, r, h => by
    obtain ⟨h1, h2⟩ := dropL_eq n l r h
    simp [h1]; exact h2
theorem putL_eq {α : Type} : ∀ (n : Nat) (l vs r : List α), putL n l vs = some r → r = l.take n ++ vs ++ l.drop (n + vs.length) ∧ n + vs.length ≤ l.length
  | 0, [], [], r, h => by
    have h : some [] = some r := h
    injection h with h; simp [← h]
  | 0, a :: l, [], r, h => by
    have h : some (a :: l) = some r := h
    injection h with h; simp [← h]
  | 0, a :: l, v :: vs, r, h => by
    have h : Option.rec (motive := fun _ => Option (List α)) none (fun r => some (v :: r)) (putL 0 l vs) = some r := h
    cases hq : putL 0 l vs with
    | none => rw [hq] at h; cases h
    | some q =>
      rw [hq] at h
      have h : some (v :: q) = some r := h
      obtain ⟨h1, h2⟩ := putL_eq 0 l vs q hq
      injection h with h; subst h
      refine ⟨?_, by simp at h2 ⊢; omega⟩
      have h1' : q = vs ++ l.drop vs.length := by simpa using h1
      rw [h1']
      simp
  | 0, [], _ :: _, r, h => by
    have h : none = some r := h
    cases h
  | n + 1, [], vs, r, h => by
    have h : none = some r := h
    cases h
  | n + 1, a :: l, vs, r, h => by
    have h : Option.rec (motive := fun _ => Option (List α)) none (fun r => some (a :: r)) (putL n l vs) = some r := h
    cases hq : putL n l vs with
    | none => rw [hq] at h; cases h
    | some q =>
      rw [hq] at h
      have h : some (a :: q) = some r := h
      obtain ⟨h1, h2⟩ := putL_eq n l vs q hq
      injection h with h; subst h
      refine ⟨?_, by simp; omega⟩
      rw [h1]
      simp [Nat.add_right_comm n 1]
theorem repL_length {α : Type} (l : List α) : ∀ n, (repL n l).length = n * l.length
  | 0 => by simp [repL]
  | n + 1 => by simp [repL, repL_length l n, Nat.succ_mul, Nat.add_comm]
theorem modL_eq {α : Type} (f : α → α) : ∀ (n : Nat) (l : List α), modL f n l = l.modify n f
  | _, [] => by simp [modL]
  | 0, _ :: _ => rfl
  | n + 1, _ :: l => by simp [modL, modL_eq f n l]

mutual
theorem toG_sound {r : Rho} : ∀ (a : AV) (v u : Value), a.toG = some v → VR r a u → u = v
  | .g w, v, u, h, hv => by cases hv; simp [AV.toG] at h; exact h
  | .ptr .., _, _, h, _ => by simp [AV.toG] at h
  | .sl .., _, _, h, _ => by simp [AV.toG] at h
  | .slx .., _, _, h, _ => by simp [AV.toG] at h
  | .sle, _, _, h, _ => by simp [AV.toG] at h
  | .mp _, _, _, h, _ => by simp [AV.toG] at h
  | .yld _, _, _, h, _ => by simp [AV.toG] at h
  | .fn .., _, _, h, _ => by simp [AV.toG] at h
  | .ifc t a, v, u, h, hv => by
    cases hv with
    | ifc hv =>
      simp only [AV.toG] at h
      split at h
      · rename_i w hw
        injection h with h; subst h
        rw [toG_sound a w _ hw hv]
      · cases h
  | .agg cs, v, u, h, hv => by
    cases hv with
    | agg hv =>
      simp only [AV.toG] at h
      split at h
      · rename_i w hw
        injection h with h; subst h
        rw [toGs_sound cs w _ hw hv]
      · cases h
  | .tup _, _, _, h, _ => by simp [AV.toG] at h
theorem toGs_sound {r : Rho} : ∀ (a : List AV) (v u : List Value), AV.toGs a = some v → VRs r a u → u = v
  | [], v, u, h, hv => by cases hv; simp [AV.toGs] at h; exact h.symm ▸ rfl
  | a :: as, v, u, h, hv => by
    cases hv with
    | cons hv ht =>
      simp only [AV.toGs] at h
      split at h
      · rename_i w hw
        split at h
        · rename_i l hl
          injection h with h; subst h
          rw [toG_sound a w _ hw hv, toGs_sound as l _ hl ht]
        · cases h
      · cases h
end

theorem cells_sound {r : Rho} {a : AV} {cs : List AV} {u : Value} (h : a.cells = some cs) (hv : VR r a u) : VRs r cs u.cells.toList := by
  cases hv with
  | g =>
    cases u <;> simp only [AV.cells, Option.some.injEq] at h <;> first | (subst h; exact .cons (.g _) .nil) | skip
    case agg c => subst h; exact VRs.of_g _
    case tuple => cases h
  | agg hv => simp only [AV.cells, Option.some.injEq] at h; subst h; simpa [Value.cells] using hv
  | tup hv => simp [AV.cells] at h
  | ptr e => simp only [AV.cells, Option.some.injEq] at h; subst h; exact .cons (.ptr e) .nil
  | sl e => simp only [AV.cells, Option.some.injEq] at h; subst h; exact .cons (.sl e) .nil
  | slx e l => simp only [AV.cells, Option.some.injEq] at h; subst h; exact .cons (.slx e l) .nil
  | sle => simp only [AV.cells, Option.some.injEq] at h; subst h; exact .cons .sle .nil
  | mp e => simp only [AV.cells, Option.some.injEq] at h; subst h; exact .cons (.mp e) .nil
  | yld e => simp only [AV.cells, Option.some.injEq] at h; subst h; exact .cons (.yld e) .nil
  | fn e => simp only [AV.cells, Option.some.injEq] at h; subst h; exact .cons (.fn e) .nil
  | ifc e => simp only [AV.cells, Option.some.injEq] at h; subst h; exact .cons (.ifc e) .nil

theorem isCell_sound {r : Rho} {a : AV} {u : Value} (h : a.isCell = true) (hv : VR r a u) : u.oneCell' = true := by
  cases hv with
  | g => cases u <;> simp_all [AV.isCell, Value.oneCell']
  | agg _ => simp [AV.isCell] at h
  | tup _ => simp [AV.isCell] at h
  | _ => rfl

mutual
theorem veq_sound (a b : Value) (h : veq a b = true) : a = b := by
  match a, b, h with
  | .bool a, .bool b, h => simp [veq] at h; rw [h]
  | .int k a, .int k' b, h => simp [veq] at h; rw [h.1, h.2]
  | .string ⟨⟨a⟩⟩, .string ⟨⟨b⟩⟩, h => simp [veq] at h; rw [h]
  | .pointer none, .pointer none, _ => rfl
  | .pointer (some a), .pointer (some b), h => simp [veq] at h; rw [h]
  | .slice none a b, .slice none c d, h => simp [veq] at h; rw [h.1, h.2]
  | .map none, .map none, _ => rfl
  | .nilFunc, .nilFunc, _ => rfl
  | .nilIface, .nilIface, _ => rfl
  | .func (.func f) ⟨[]⟩ ⟨[]⟩, .func (.func g) ⟨[]⟩ ⟨[]⟩, h => simp [veq] at h; rw [h]
  | .tuple ⟨[]⟩, .tuple ⟨[]⟩, _ => rfl
  | .agg ⟨a⟩, .agg ⟨b⟩, h => rw [veqs_sound a b (by simpa [veq] using h)]
theorem veqs_sound : ∀ (a b : List Value), veqs a b = true → a = b
  | [], [], _ => rfl
  | [], _ :: _, h => by simp [veqs] at h
  | _ :: _, [], h => by simp [veqs] at h
  | a :: as, b :: bs, h => by
    simp only [veqs, Bool.and_eq_true] at h
    rw [veq_sound a b h.1, veqs_sound as bs h.2]
end

mutual
theorem avEq_sound : ∀ (a b : AV), avEq a b = true → a = b
  | .g a, b, h => by cases b <;> simp [avEq] at h; rw [veq_sound _ _ h]
  | .ptr .., b, h => by cases b <;> simp_all [avEq]
  | .sl .., b, h => by cases b <;> simp_all [avEq]
  | .slx .., b, h => by cases b <;> simp_all [avEq]
  | .sle, b, h => by cases b <;> simp_all [avEq]
  | .mp _, b, h => by cases b <;> simp_all [avEq]
  | .yld _, b, h => by cases b <;> simp_all [avEq]
  | .fn f c, b, h => by
    cases b <;> simp [avEq] at h
    rw [h.1, avsEq_sound _ _ h.2]
  | .ifc t a, b, h => by
    cases b <;> simp [avEq] at h
    rw [h.1, avEq_sound _ _ h.2]
  | .agg cs, b, h => by
    cases b <;> simp [avEq] at h
    rw [avsEq_sound _ _ h]
  | .tup cs, b, h => by
    cases b <;> simp [avEq] at h
    rw [avsEq_sound _ _ h]
theorem avsEq_sound : ∀ (a b : List AV), avsEq a b = true → a = b
  | [], [], _ => rfl
  | [], _ :: _, h => by simp [avsEq] at h
  | _ :: _, [], h => by simp [avsEq] at h
  | a :: as, b :: bs, h => by
    simp only [avsEq, Bool.and_eq_true] at h
    rw [avEq_sound a b h.1, avsEq_sound as bs h.2]
end

theorem aoEq_sound (a b : AO) (h : aoEq a b = true) : a = b := by
  unfold aoEq at h
  split at h
  · simp only [Bool.and_eq_true, beq_iff_eq] at h
    rw [h.1, avsEq_sound _ _ h.2]
  · rfl
  · cases h

theorem wrapF_eq (k : IntKind) (n : Int) : wrapF k n = k.wrap n := by
  unfold wrapF
  cases k <;> try rfl
  simp only
  split
  · rename_i h
    simp only [i64ok, Bool.and_eq_true, decide_eq_true_eq] at h
    rw [IntKind.wrap_i64]
    omega
  · rfl

theorem pureRun_sound {α : Type} (P : Program) : ∀ (s : Sem α) (a : α), pureRun P s = some a → ∀ w, s.run P w = .ok a w
  | .pure b, a, h, w => by simp [pureRun] at h; simp [Sem.run, h]
  | .program k, a, h, w => by
    simp only [pureRun] at h
    simp only [Sem.run]
    exact pureRun_sound P (k P) a h w
  | .mark m k, a, h, w => by
    simp only [pureRun] at h
    simp only [Sem.run]
    exact pureRun_sound P k a h w
  | .load .., _, h, _ => by simp [pureRun] at h
  | .store .., _, h, _ => by simp [pureRun] at h
  | .new .., _, h, _ => by simp [pureRun] at h
  | .shape .., _, h, _ => by simp [pureRun] at h
  | .freeze .., _, h, _ => by simp [pureRun] at h
  | .frozen .., _, h, _ => by simp [pureRun] at h
  | .getObj .., _, h, _ => by simp [pureRun] at h
  | .setObj .., _, h, _ => by simp [pureRun] at h
  | .choose .., _, h, _ => by simp [pureRun] at h
  | .sys .., _, h, _ => by simp [pureRun] at h
  | .halt .., _, h, _ => by simp [pureRun] at h

end Abs
end Go.Proofs.YtonnifoeokagjaaGreat
