/-
  What is known of the functions of the program that have no body. No condition.
-/
import Derived.Test.YtonnifoeokagjaaGreatRunD
namespace Go.Proofs.YtonnifoeokagjaaGreat
open Go Go.RowKit
namespace Abs

theorem find145 : Extern.find Tryz.f145 = some (Extern.BytealgCompare.compare) := by kernel_rfl
theorem next145 : Extern.findNext Tryz.f145 = none := by kernel_rfl
theorem none145 : Tryz.f145.body = none := by kernel_rfl
theorem find126 : Extern.find Tryz.f126 = some (Extern.Atomic.loadT (.int .u64)) := by kernel_rfl
theorem next126 : Extern.findNext Tryz.f126 = none := by kernel_rfl
theorem none126 : Tryz.f126.body = none := by kernel_rfl
theorem find138 : Extern.find Tryz.f138 = some (Extern.Atomic.loadT (.int .u32)) := by kernel_rfl
theorem next138 : Extern.findNext Tryz.f138 = none := by kernel_rfl
theorem none138 : Tryz.f138.body = none := by kernel_rfl
theorem find122 : Extern.find Tryz.f122 = some (Extern.Atomic.loadT .ptr) := by kernel_rfl
theorem next122 : Extern.findNext Tryz.f122 = none := by kernel_rfl
theorem none122 : Tryz.f122.body = none := by kernel_rfl
theorem find135 : Extern.find Tryz.f135 = some (Extern.Atomic.casT (.int .u64)) := by kernel_rfl
theorem next135 : Extern.findNext Tryz.f135 = none := by kernel_rfl
theorem none135 : Tryz.f135.body = none := by kernel_rfl
theorem find173 : Extern.find Tryz.f173 = some (Extern.Atomic.casT (.int .i32)) := by kernel_rfl
theorem next173 : Extern.findNext Tryz.f173 = none := by kernel_rfl
theorem none173 : Tryz.f173.body = none := by kernel_rfl
theorem find178 : Extern.find Tryz.f178 = some (Extern.Atomic.update (Op.intArith .add) .i32 true) := by kernel_rfl
theorem next178 : Extern.findNext Tryz.f178 = none := by kernel_rfl
theorem none178 : Tryz.f178.body = none := by kernel_rfl
theorem find156 : Extern.find Tryz.f156 = some (Extern.Atomic.storeT) := by kernel_rfl
theorem next156 : Extern.findNext Tryz.f156 = none := by kernel_rfl
theorem none156 : Tryz.f156.body = none := by kernel_rfl
theorem find121 : Extern.find Tryz.f121 = some (Extern.Atomic.storeT) := by kernel_rfl
theorem next121 : Extern.findNext Tryz.f121 = none := by kernel_rfl
theorem none121 : Tryz.f121.body = none := by kernel_rfl
theorem find172 : Extern.find Tryz.f172 = some ((fun _ => do mark .disable; pure Extern.Race.none_)) := by kernel_rfl
theorem next172 : Extern.findNext Tryz.f172 = none := by kernel_rfl
theorem none172 : Tryz.f172.body = none := by kernel_rfl
theorem find174 : Extern.find Tryz.f174 = some ((fun _ => do mark .enable; pure Extern.Race.none_)) := by kernel_rfl
theorem next174 : Extern.findNext Tryz.f174 = none := by kernel_rfl
theorem none174 : Tryz.f174.body = none := by kernel_rfl
theorem find175 : Extern.find Tryz.f175 = some (Extern.Race.marked .acquire) := by kernel_rfl
theorem next175 : Extern.findNext Tryz.f175 = none := by kernel_rfl
theorem none175 : Tryz.f175.body = none := by kernel_rfl
theorem find177 : Extern.find Tryz.f177 = some (Extern.Race.marked .releaseMerge) := by kernel_rfl
theorem next177 : Extern.findNext Tryz.f177 = none := by kernel_rfl
theorem none177 : Tryz.f177.body = none := by kernel_rfl

theorem nonum_all : Tryz.prog.funcs.toList.all (fun fn => !(fn.name == "runtime.NumGoroutine")) = true := by kernel_rfl
theorem mixed_orders : Tryz.prog.follows .mixedOrders = true := by kernel_rfl

theorem pk : PK Tryz.prog xt where
  nonum f fn h := by
    have h1 : (!(fn.name == "runtime.NumGoroutine")) = true := List.all_eq_true.1 nonum_all fn (Array.mem_toList_iff.2 (Array.mem_of_getElem? h))
    cases hb : (fn.name == "runtime.NumGoroutine") with
    | false => rfl
    | true => rw [hb] at h1; cases h1
  ext f e h := by
    unfold xt at h
    by_cases hf : (f == 145) = true
    · rw [if_pos hf] at h
      have hf : f = 145 := by simpa using hf
      subst hf
      injection h with h; subst h
      exact ⟨Tryz.f145, _, Tryz.func145, none145, next145, find145, rfl⟩
    rw [if_neg hf] at h
    clear hf
    by_cases hf : (f == 126) = true
    · rw [if_pos hf] at h
      have hf : f = 126 := by simpa using hf
      subst hf
      injection h with h; subst h
      exact ⟨Tryz.f126, _, Tryz.func126, none126, next126, find126, rfl⟩
    rw [if_neg hf] at h
    clear hf
    by_cases hf : (f == 138) = true
    · rw [if_pos hf] at h
      have hf : f = 138 := by simpa using hf
      subst hf
      injection h with h; subst h
      exact ⟨Tryz.f138, _, Tryz.func138, none138, next138, find138, rfl⟩
    rw [if_neg hf] at h
    clear hf
    by_cases hf : (f == 122) = true
    · rw [if_pos hf] at h
      have hf : f = 122 := by simpa using hf
      subst hf
      injection h with h; subst h
      exact ⟨Tryz.f122, _, Tryz.func122, none122, next122, find122, rfl⟩
    rw [if_neg hf] at h
    clear hf
    by_cases hf : (f == 135) = true
    · rw [if_pos hf] at h
      have hf : f = 135 := by simpa using hf
      subst hf
      injection h with h; subst h
      exact ⟨Tryz.f135, _, Tryz.func135, none135, next135, find135, rfl⟩
    rw [if_neg hf] at h
    clear hf
    by_cases hf : (f == 173) = true
    · rw [if_pos hf] at h
      have hf : f = 173 := by simpa using hf
      subst hf
      injection h with h; subst h
      exact ⟨Tryz.f173, _, Tryz.func173, none173, next173, find173, rfl⟩
    rw [if_neg hf] at h
    clear hf
    by_cases hf : (f == 178) = true
    · rw [if_pos hf] at h
      have hf : f = 178 := by simpa using hf
      subst hf
      injection h with h; subst h
      exact ⟨Tryz.f178, _, Tryz.func178, none178, next178, find178, rfl⟩
    rw [if_neg hf] at h
    clear hf
    by_cases hf : (f == 156) = true
    · rw [if_pos hf] at h
      have hf : f = 156 := by simpa using hf
      subst hf
      injection h with h; subst h
      exact ⟨Tryz.f156, _, Tryz.func156, none156, next156, find156, rfl⟩
    rw [if_neg hf] at h
    clear hf
    by_cases hf : (f == 121) = true
    · rw [if_pos hf] at h
      have hf : f = 121 := by simpa using hf
      subst hf
      injection h with h; subst h
      exact ⟨Tryz.f121, _, Tryz.func121, none121, next121, find121, rfl⟩
    rw [if_neg hf] at h
    clear hf
    by_cases hf : (f == 172) = true
    · rw [if_pos hf] at h
      have hf : f = 172 := by simpa using hf
      subst hf
      injection h with h; subst h
      exact ⟨Tryz.f172, _, Tryz.func172, none172, next172, find172, ⟨_, rfl⟩⟩
    rw [if_neg hf] at h
    clear hf
    by_cases hf : (f == 174) = true
    · rw [if_pos hf] at h
      have hf : f = 174 := by simpa using hf
      subst hf
      injection h with h; subst h
      exact ⟨Tryz.f174, _, Tryz.func174, none174, next174, find174, ⟨_, rfl⟩⟩
    rw [if_neg hf] at h
    clear hf
    by_cases hf : (f == 175) = true
    · rw [if_pos hf] at h
      have hf : f = 175 := by simpa using hf
      subst hf
      injection h with h; subst h
      exact ⟨Tryz.f175, _, Tryz.func175, none175, next175, find175, ⟨_, rfl⟩⟩
    rw [if_neg hf] at h
    clear hf
    by_cases hf : (f == 177) = true
    · rw [if_pos hf] at h
      have hf : f = 177 := by simpa using hf
      subst hf
      injection h with h; subst h
      exact ⟨Tryz.f177, _, Tryz.func177, none177, next177, find177, ⟨_, rfl⟩⟩
    rw [if_neg hf] at h
    clear hf
    cases h
  mixed := mixed_orders

end Abs
end Go.Proofs.YtonnifoeokagjaaGreat
