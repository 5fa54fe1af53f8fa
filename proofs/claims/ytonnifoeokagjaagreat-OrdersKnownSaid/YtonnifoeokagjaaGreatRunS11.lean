/-
  What is not needed any more is forgotten. No condition.
-/
import Derived.Test.YtonnifoeokagjaaGreatRunS10
namespace Go.Proofs.YtonnifoeokagjaaGreat
open Go Go.RowKit
namespace Abs

/-- the blocks that are kept -/
noncomputable def keep (h : Heap) : List Nat → Heap → Heap
  | [], acc => acc
  | b :: l, acc => keep h l (match hget h b with | some o => hset acc b o | none => acc)
/-- the slots, laid anew -/
noncomputable def resl (s : BT AV) : Nat → BT AV
  | 0 => .nil
  | n + 1 => sset (resl s n) n (slot s n)
noncomputable def tidy (ks : List Nat) (m : AM) : AM := ⟨m.fr.wSlots (resl m.fr.slots m.fr.size), m.callers, keep m.heap ks .nil, m.next⟩

noncomputable def hlist : List (Nat × AO) → Heap → Heap
  | [], acc => acc
  | x :: l, acc => hlist l (hset acc x.1 x.2)
noncomputable def slist : List AV → Nat → BT AV → BT AV
  | [], _, acc => acc
  | v :: l, i, acc => slist l (i + 1) (sset acc i v)
/-- the code behind so many statements -/
def behind : Nat → Code → Code
  | 0, c => c
  | n + 1, .seq _ b => behind n b
  | _ + 1, c => c

theorem keep_sub (h : Heap) : ∀ (l : List Nat) (acc : Heap), (∀ b o, hget acc b = some o → hget h b = some o) → ∀ b o, hget (keep h l acc) b = some o → hget h b = some o
  | [], _, ha, b, o, hb => ha b o hb
  | c :: l, acc, ha, b, o, hb => by
    refine keep_sub h l _ (fun b' o' hb' => ?_) b o hb
    split at hb'
    · rename_i o2 ho2
      rw [hget_hset] at hb'
      by_cases hc : b' = c
      · subst hc
        simp only [if_true, Option.some.injEq] at hb'
        subst hb'
        exact ho2
      · simp only [hc, if_false] at hb'
        exact ha b' o' hb'
    · exact ha b' o' hb'

theorem hget_nil (b : Nat) : hget .nil b = none := rfl

theorem slot_resl (s : BT AV) : ∀ (n i : Nat), slot (resl s n) i = if i < n then slot s i else .g undef
  | 0, i => by simp [resl, slot_nil]
  | n + 1, i => by
    simp only [resl, slot_sset, slot_resl s n i]
    by_cases h : i = n
    · subst h; simp
    · by_cases h2 : i < n
      · have h3 : i < n + 1 := by omega
        simp [h, h2, h3]
      · have h3 : ¬ i < n + 1 := by omega
        simp [h, h2, h3]

theorem MR.tidy {P : Program} {w0 : World} {base : List Frame} {m : AM} {f : Frame} {cs : List Frame} {w : World} (hm : MR P w0 base m f cs w) (ks : List Nat) (h5 : isReg m.fr.todo = false) : MR P w0 base (tidy ks m) f cs w := by
  obtain ⟨⟨r, lo, hF, hlo, hC, hH⟩, hsat⟩ := hm
  have hsub := keep_sub m.heap ks .nil (fun b o hb => by rw [hget_nil] at hb; cases hb)
  refine MR.mk' (r := r) (lo := lo) ⟨hF.fn, hF.size, hF.defers, hF.mode, hF.kind, hF.round, ?_⟩ hlo hC ⟨hH.below, hH.dom, fun b o k n e e' => hH.obj b o k n (hsub b o e) e', fun b b' o o' k n n' e e' => hH.inj b b' o o' k n n' (hsub b o e) (hsub b' o' e')⟩ fun g k e => ?_
  · have htop := hF.top
    show TopR r (resl m.fr.slots m.fr.size) f.tmps lo m.next m.fr.todo f.todo
    generalize m.fr.todo = q at htop h5
    generalize f.todo = q' at htop
    cases htop with
    | plain hir htr =>
      refine .plain hir fun i => ?_
      rw [slot_resl]
      by_cases hi : i < m.fr.size
      · simp only [hi, if_true]; exact htr i
      · simp only [hi, if_false]
        have : f.tmps.getD i undef = undef := by
          rw [Array.getD_eq_getD_getElem?, Array.getElem?_eq_none (by rw [hF.size]; omega)]
          rfl
        rw [this]; exact .g _
    | reg _ _ _ _ => cases h5
  · have e : m.fr.todo = .reg g :: k := e
    rw [e] at h5; cases h5

end Abs
end Go.Proofs.YtonnifoeokagjaaGreat
