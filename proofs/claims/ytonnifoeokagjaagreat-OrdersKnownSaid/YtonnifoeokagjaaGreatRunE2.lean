/-
  append of the abstract machine is the machine's own, whatever capacity is drawn. No condition.
-/
import Derived.Test.YtonnifoeokagjaaGreatRunE1
namespace Go.Proofs.YtonnifoeokagjaaGreat
open Go Go.RowKit
namespace Abs

theorem HR.newx {r : Rho} {h h' : Heap} {nx : Nat} {w0 w : World} (hr : HR r h' nx w0 w) (hh : h' = h) {e : TypeId} {size N : Nat} {cs : List AV} {c c' : List Value} (hv : VRs r cs c) (hl : (c ++ c').length = N * size) {a : Array Value} (ha : a = (c ++ c').toArray) :
    HR (r.upd nx (w.heap.size, N)) (hset h nx (.cellsx cs e size)) (nx + 1) w0 (w.drew.alloc (.cells a e)) := by
  subst hh; subst ha
  refine (hr.drew).alloc (o := .cellsx cs e size) (hr.fresh (Nat.le_refl _)) (Nat.lt_succ_self _) (Nat.le_succ _) (by simp [hget_hset]) (fun b x e => ?_) ⟨c, c', rfl, hv, hl⟩
  rw [hget_hset, if_neg]
  have := (hr.dom b x e).1
  omega

theorem run_val {P : Program} {s : Sem Value} {v : Value} {w w' : World} (h : s.run P w = .ok v w') : (do pure (.value (← s)) : Sem Next).run P w = .ok (.value v) w' := by
  simp only [Sem.run_bind, h, Result.andThen_ok, Sem.run_pure]

theorem append_sound (P : Program) {r : Rho} {h : Heap} {nx : Nat} {w0 w : World} (hr : HR r h nx w0 w) {types : Array TypeId} {ty : TypeId} {s x : AV} {vs vx : Value} (hs : VR r s vs) (hx : VR r x vx) {er : ER}
    (he : aappend P h types s x = some er) : EOK P r h nx w0 w (do pure (.value (← Builtin.append_ types ty #[vs, vx]))) er := by
  unfold aappend at he
  split at he
  · rename_i t t' hty
    have hty' : types = #[t, t'] := by rw [← Array.toArray_toList (xs := types), hty]
    subst hty'
    split at he
    · rename_i e ht
      unfold apAt at he
      split at he
      · rename_i size hsize
        split at he
        · rename_i bytes hbytes
          split at he
          · rename_i zl hz
            split at he
            · rename_i p hp
              split at he
              · rename_i hok
                obtain ⟨n, l⟩ := p
                unfold tzero at hz
                unfold tsize at hsize
                unfold tbytes at hbytes
                split at hz
                · rename_i i hi
                  simp only [hi, Option.some.injEq] at hsize hbytes
                  split at hz
                  · rename_i z hzz
                    injection hz with hz; subst hz
                    simp only [apOk, Bool.and_eq_true, decide_eq_true_eq, beq_iff_eq, Array.length_toList] at hok
                    obtain ⟨⟨⟨⟨o1, o2⟩, o3⟩, o4⟩, o5⟩ := hok
                    obtain ⟨new, hnew, hsrc, hlen⟩ := anew_sound (w := w) P hr hx hp
                    have hlen := hlen o5
                    subst hsize; subst hbytes
                    unfold apTo at he
                    simp only at he
                    split at he
                    · -- nothing is appended
                      rename_i h0
                      have key : ∀ {base : Option Addr} {sLen sCap : Nat}, sLen ≤ sCap → (Builtin.append_ #[t, t'] ty #[.slice base sLen sCap, vx]).run P w = .ok (.slice base sLen sCap) w :=
                        fun hc => ap_same w ht hi o4 hsrc h0 hc
                      unfold apNone at he
                      split at he
                      · split at he
                        · rename_i hc
                          injection he with he; subst he
                          cases hs with
                          | sl hb =>
                          exact ⟨_, _, w, run_val (key hc), .inl rfl, .sl hb, hr⟩
                        · cases he
                      · injection he with he; subst he
                        rename_i b off j len
                        cases hs with
                        | slx hb hn =>
                        rename_i k N
                        have hk := key (base := some ⟨k, off, none⟩) (sLen := len) (sCap := N - j) (by omega)
                        exact ⟨_, _, w, run_val hk, .inl rfl, .slx hb hn, hr⟩
                      · injection he with he; subst he
                        cases hs
                        exact ⟨_, _, w, run_val (key (Nat.le_refl _)), .inl rfl, .g _, hr⟩
                      · cases he
                    · rename_i h0
                      split at he
                      · -- nil
                        injection he with he; subst he
                        cases hs
                        have hrun := ap_grow (P := P) w (ty := ty) ht hi hzz o3 o1 o4 hsrc (base := none) (sLen := 0) (sCap := 0) h0 (by omega) (by omega) (old := #[]) rfl
                        have hge := grownCap_ge w (0 + n) 0 e
                        simp only [Nat.zero_add] at hrun hge
                        refine ⟨w.heap.size, grownCap w n 0 e, _, run_val hrun, by omega, hr.fresh (Nat.le_refl _), ?_⟩
                        have hzl : (Builtin.zeroCells z.cells (grownCap w n 0 e - n)).size = (grownCap w n 0 e - n) * i.size := by rw [zeroCells_size, o5]
                        refine hr.newx rfl hnew (c' := (Builtin.zeroCells z.cells (grownCap w n 0 e - n)).toList) ?_ (by simp)
                        simp only [List.length_append, Array.length_toList, hzl, hlen, ← Nat.add_mul]
                        congr 1
                        omega
                      · -- an exact slice
                        rename_i b off len cap
                        cases hs with
                        | sl hb =>
                        rename_i k m
                        unfold apSl at he
                        split at he
                        · rename_i hc
                          split at he
                          · rename_i hcell
                            split at he
                            · rename_i h' hst
                              injection he with he; subst he
                              obtain ⟨w', hrun, hr', _⟩ := hstore_sound P hr hb hnew (hnew.oneCells hcell) hst
                              have := ap_room (P := P) w (ty := ty) ht hi hzz o3 o1 o4 hsrc (a := ⟨k, off, none⟩) h0 hc (by rw [add_at]; exact hrun)
                              exact ⟨_, _, w', run_val this, .inl rfl, .sl hb, hr'⟩
                            · cases he
                          · cases he
                        · rename_i hc
                          split at he
                          · cases he
                          · rename_i hsm
                            split at he
                            · rename_i old hold
                              injection he with he; subst he
                              obtain ⟨ovs, hovs, holen, horun⟩ := hload_cells (P := P) hr hb hold
                              have hrun := ap_grow (P := P) w (ty := ty) ht hi hzz o3 o1 o4 hsrc (base := some ⟨k, off, none⟩) (sLen := len) (sCap := cap) h0 (by omega) (by omega) (old := ovs.toArray) (horun w.drew rfl)
                              have hge := grownCap_ge w (len + n) cap e
                              refine ⟨w.heap.size, grownCap w (len + n) cap e, _, run_val hrun, by omega, hr.fresh (Nat.le_refl _), ?_⟩
                              have hzl : (Builtin.zeroCells z.cells (grownCap w (len + n) cap e - (len + n))).size = (grownCap w (len + n) cap e - (len + n)) * i.size := by rw [zeroCells_size, o5]
                              refine hr.newx rfl (hovs.append hnew) (c' := (Builtin.zeroCells z.cells (grownCap w (len + n) cap e - (len + n))).toList) ?_ (by simp)
                              simp only [List.length_append, Array.length_toList, hzl, hlen, holen, ← Nat.add_mul]
                              congr 1
                              omega
                            · cases he
                      · -- an inexact one
                        rename_i b off j len
                        cases hs with
                        | slx hb hn =>
                        rename_i k N
                        unfold apSlx at he
                        split at he
                        · rename_i cs e' es ho
                          split at he
                          · rename_i hes
                            obtain ⟨rfl, hoff, rfl⟩ := hes
                            obtain ⟨c, c', hk, hcs, hcl⟩ := hr.obj b _ k N ho hb
                            have hcsl := hcs.length
                            split at he
                            · cases he
                            · rename_i hcell
                              have hcell : l.all AV.isCell = true := by simpa using hcell
                              split at he
                              · rename_i hle
                                split at he
                                · rename_i h' hst
                                  injection he with he; subst he
                                  obtain ⟨w', hrun, hr', _⟩ := hstore_sound P hr hb hnew (hnew.oneCells hcell) hst
                                  have hcap : j + (len + n) ≤ N := by
                                    have h1 : (j + (len + n)) * i.size ≤ N * i.size := by
                                      rw [← hcl, List.length_append, ← hcsl, Nat.add_mul, ← hoff]
                                      omega
                                    exact Nat.le_of_mul_le_mul_right h1 o1
                                  have := ap_room (P := P) w (ty := ty) ht hi hzz o3 o1 o4 hsrc (a := ⟨k, off, none⟩) (sLen := len) (sCap := N - j) h0 (by omega) (by rw [add_at]; exact hrun)
                                  exact ⟨_, _, w', run_val this, .inl rfl, .slx hb hcap, hr'⟩
                                · cases he
                              · split at he
                                · rename_i hmv
                                  obtain ⟨hcs', rfl, hsm⟩ := hmv
                                  injection he with he; subst he
                                  have hoff0 : off = 0 := by rw [hoff]; simp
                                  subst hoff0
                                  have hclen : c.length = len * i.size := by omega
                                  have hblt := (hr.dom b _ hb).1
                                  by_cases hroom : len + n ≤ N
                                  · -- in place
                                    have hfit : 0 + (len * i.size) + new.length ≤ (c ++ c').toArray.size := by
                                      have : (len + n) * i.size ≤ N * i.size := Nat.mul_le_mul_right _ hroom
                                      rw [Nat.add_mul] at this
                                      simp only [List.size_toArray, hcl, hlen]
                                      omega
                                    have hst := run_storeCells_at P k (len * i.size) e' new 0 (c ++ c').toArray w hk (by simpa using hfit) (hnew.oneCells hcell)
                                    have := ap_room (P := P) w (ty := ty) ht hi hzz o3 o1 o4 hsrc (a := ⟨k, 0, none⟩) (sLen := len) (sCap := N - 0) h0 (by omega) (by rw [add_at, Nat.zero_add]; exact hst)
                                    refine ⟨k, N, _, run_val this, hroom, hr.fresh (Nat.le_refl _), ?_⟩
                                    refine hr.moved hb ho trivial (by omega) (o' := .cellsx (cs ++ l) e' i.size) (n' := N) ⟨c ++ new, c'.drop new.length, ?_, hcs.append hnew, ?_⟩ (turned_setRow hk _)
                                    · have a1 : (c ++ c').take (len * i.size + 0) = c := by rw [Nat.add_zero, ← hclen]; simp
                                      have a2 : (c ++ c').drop (len * i.size + 0 + new.length) = c'.drop new.length := by
                                        rw [Nat.add_zero, ← hclen, ← List.drop_drop]; simp
                                      simp only [a1, a2]
                                    · simp only [List.size_toArray] at hfit
                                      simp only [List.length_append, List.length_drop] at hcl hfit ⊢
                                      omega
                                  · -- anew
                                    have hload : hload h b 0 (len * i.size) = some cs := by
                                      have hd : dropL 0 cs = some cs := rfl
                                      have htk : ∀ (m : Nat) (q : List AV), m = q.length → takeL m q = some q := by
                                        intro m q hm
                                        subst hm
                                        induction q with
                                        | nil => rfl
                                        | cons a q ih =>
                                          show Option.rec (motive := fun _ => Option (List AV)) none (fun r => some (a :: r)) (takeL q.length q) = _
                                          rw [ih]
                                      simp only [Abs.hload, ho, AO.cells?, hd]
                                      exact htk _ _ (by omega)
                                    obtain ⟨ovs, hovs, holen, horun⟩ := hload_cells (P := P) hr hb hload
                                    have hrun := ap_grow (P := P) w (ty := ty) ht hi hzz o3 o1 o4 hsrc (base := some ⟨k, 0, none⟩) (sLen := len) (sCap := N - 0) h0 (by omega) (by omega) (old := ovs.toArray) (horun w.drew rfl)
                                    have hge := grownCap_ge w (len + n) (N - 0) e'
                                    refine ⟨w.heap.size, grownCap w (len + n) (N - 0) e', _, run_val hrun, by omega, hr.fresh (Nat.le_refl _), ?_⟩
                                    have hzl : (Builtin.zeroCells z.cells (grownCap w (len + n) (N - 0) e' - (len + n))).size = (grownCap w (len + n) (N - 0) e' - (len + n)) * i.size := by rw [zeroCells_size, o5]
                                    refine (hr.kill b).newx rfl (hovs.append hnew) (c' := (Builtin.zeroCells z.cells (grownCap w (len + n) (N - 0) e' - (len + n))).toList) ?_ (by simp)
                                    simp only [List.length_append, Array.length_toList, hzl, hlen, holen, ← Nat.add_mul]
                                    congr 1
                                    omega
                                · cases he
                          · cases he
                        · cases he
                      · cases he
                  · cases hz
                · cases hz
              · cases he
            · cases he
          · cases he
        · cases he
      · cases he
    · cases he
  · cases he

end Abs
end Go.Proofs.YtonnifoeokagjaaGreat
