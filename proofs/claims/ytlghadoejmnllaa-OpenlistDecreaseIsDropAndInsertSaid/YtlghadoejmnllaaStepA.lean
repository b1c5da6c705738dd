/- form, step: one operation of a queue. -/
import Derived.Test.YtlghadoejmnllaaQueueD
namespace Go.Proofs.Ytlghadoejmnllaa
open Go.RowKit

def formC (k i y : Int) : Int :=
  if k < 1 ∨ 4 < k then 4 else if i < 0 ∨ 30 < i ∨ y < 0 ∨ 1000000 < y then 3 else if (k = 3 ∧ i ≠ 0) ∨ (2 < k ∧ y ≠ 0) then 5 else 0

theorem ret_i64 {a b : Int} (h : a = b) : Ending.returned (.int .i64 a) = .returned (.int .i64 b) := by rw [h]

set_option maxHeartbeats 1000000 in
theorem form_any (w : World) (k i y : Int) :
    Calls Try.prog 33 #[.agg #[.int .i64 k, .int .i64 i, .int .i64 y]] w fun e w' => e = .returned (.int .i64 (formC k i y)) ∧ Keeps (fun _ => False) w w' := by
  have HK : Hid (∀ o, Keeps (fun _ => False) w (w.alloc o)) := fun o => (Keeps.refl _ _).alloc o
  by_cases c1 : k < 1
  · have hr : Hid (formC k i y = 4) := by unfold Hid formC; (repeat' split) <;> first | rfl | omega
    go_enter Try.func33, Try.ntmps33
    go_wp2
    go_ret
    exact ⟨ret_i64 hr.out.symm, HK.out _⟩
  · skip
    by_cases c2 : 4 < k
    · have hr : Hid (formC k i y = 4) := by unfold Hid formC; (repeat' split) <;> first | rfl | omega
      go_enter Try.func33, Try.ntmps33
      go_wp2
      go_ret
      exact ⟨ret_i64 hr.out.symm, HK.out _⟩
    · skip
      by_cases c3 : i < 0
      · have hr : Hid (formC k i y = 3) := by unfold Hid formC; (repeat' split) <;> first | rfl | omega
        go_enter Try.func33, Try.ntmps33
        go_wp2
        go_ret
        exact ⟨ret_i64 hr.out.symm, HK.out _⟩
      · skip
        by_cases c4 : 30 < i
        · have hr : Hid (formC k i y = 3) := by unfold Hid formC; (repeat' split) <;> first | rfl | omega
          go_enter Try.func33, Try.ntmps33
          go_wp2
          go_ret
          exact ⟨ret_i64 hr.out.symm, HK.out _⟩
        · skip
          by_cases c5 : y < 0
          · have hr : Hid (formC k i y = 3) := by unfold Hid formC; (repeat' split) <;> first | rfl | omega
            go_enter Try.func33, Try.ntmps33
            go_wp2
            go_ret
            exact ⟨ret_i64 hr.out.symm, HK.out _⟩
          · skip
            by_cases c6 : 1000000 < y
            · have hr : Hid (formC k i y = 3) := by unfold Hid formC; (repeat' split) <;> first | rfl | omega
              go_enter Try.func33, Try.ntmps33
              go_wp2
              go_ret
              exact ⟨ret_i64 hr.out.symm, HK.out _⟩
            · skip
              by_cases c7 : k = 3
              · subst c7
                by_cases c8 : i = 0
                · subst c8
                  by_cases c9 : y = 0
                  · subst c9
                    have hr : Hid (formC 3 0 0 = 0) := by unfold Hid formC; (repeat' split) <;> first | rfl | omega
                    go_enter Try.func33, Try.ntmps33
                    go_wp2
                    go_ret
                    exact ⟨ret_i64 hr.out.symm, HK.out _⟩
                  · have b9 : (y != 0) = true := by simpa using c9
                    have hr : Hid (formC 3 0 y = 5) := by unfold Hid formC; (repeat' split) <;> first | rfl | omega
                    go_enter Try.func33, Try.ntmps33
                    go_wp2
                    go_ret
                    exact ⟨ret_i64 hr.out.symm, HK.out _⟩
                · have b8 : (i != 0) = true := by simpa using c8
                  have hr : Hid (formC 3 i y = 5) := by unfold Hid formC; (repeat' split) <;> first | rfl | omega
                  go_enter Try.func33, Try.ntmps33
                  go_wp2
                  go_ret
                  exact ⟨ret_i64 hr.out.symm, HK.out _⟩
              · have b7 : (k == 3) = false := by simpa using c7
                by_cases c8 : 2 < k
                · by_cases c9 : y = 0
                  · subst c9
                    have hr : Hid (formC k i 0 = 0) := by unfold Hid formC; (repeat' split) <;> first | rfl | omega
                    go_enter Try.func33, Try.ntmps33
                    go_wp2
                    go_ret
                    exact ⟨ret_i64 hr.out.symm, HK.out _⟩
                  · have b9 : (y != 0) = true := by simpa using c9
                    have hr : Hid (formC k i y = 5) := by unfold Hid formC; (repeat' split) <;> first | rfl | omega
                    go_enter Try.func33, Try.ntmps33
                    go_wp2
                    go_ret
                    exact ⟨ret_i64 hr.out.symm, HK.out _⟩
                · have hr : Hid (formC k i y = 0) := by unfold Hid formC; (repeat' split) <;> first | rfl | omega
                  go_enter Try.func33, Try.ntmps33
                  go_wp2
                  go_ret
                  exact ⟨ret_i64 hr.out.symm, HK.out _⟩

end Go.Proofs.Ytlghadoejmnllaa
