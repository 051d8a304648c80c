/- TasksNext: what its row asks of the program's tables, one by one. -/
import Derived.Test.YtdganbddgobfdaaRow
import Derived.Test.YtdganbddgobfdaaRows
namespace Go.Proofs.Ytdganbddgobfdaa.tasksNext
open Go
theorem j0 : jf0 Try.checked.prog 3 Try.f3 Rows.tasksNextSpec Rows.tasksNextRow = true := by kernel_rfl
theorem j1 : jf1 Try.checked.prog 3 Try.f3 Rows.tasksNextSpec Rows.tasksNextRow = true := by kernel_rfl
theorem j2 : jf2 Try.checked.prog 3 Try.f3 Rows.tasksNextSpec Rows.tasksNextRow = true := by kernel_rfl
theorem j3 : jf3 Try.checked.prog 3 Try.f3 Rows.tasksNextSpec Rows.tasksNextRow = true := by kernel_rfl
theorem j4 : jf4 Try.checked.prog 3 Try.f3 Rows.tasksNextSpec Rows.tasksNextRow = true := by kernel_rfl
theorem j5 : jf5 Try.checked.prog 3 Try.f3 Rows.tasksNextSpec Rows.tasksNextRow = true := by kernel_rfl
theorem j6 : jf6 Try.checked.prog 3 Try.f3 Rows.tasksNextSpec Rows.tasksNextRow = true := by kernel_rfl
theorem j7 : jf7 Try.checked.prog 3 Try.f3 Rows.tasksNextSpec Rows.tasksNextRow = true := by kernel_rfl
theorem j8 : jf8 Try.checked.prog 3 Try.f3 Rows.tasksNextSpec Rows.tasksNextRow = true := by kernel_rfl
theorem j9 : jf9 Try.checked.prog 3 Try.f3 Rows.tasksNextSpec Rows.tasksNextRow = true := by kernel_rfl
theorem j10 : jf10 Try.checked.prog 3 Try.f3 Rows.tasksNextSpec Rows.tasksNextRow = true := by kernel_rfl
theorem j11 : jf11 Try.checked.prog 3 Try.f3 Rows.tasksNextSpec Rows.tasksNextRow = true := by kernel_rfl
theorem j12 : jf12 Try.checked.prog 3 Try.f3 Rows.tasksNextSpec Rows.tasksNextRow = true := by kernel_rfl
theorem j13 : jf13 Try.checked.prog 3 Try.f3 Rows.tasksNextSpec Rows.tasksNextRow = true := by kernel_rfl
theorem j14 : jf14 Try.checked.prog 3 Try.f3 Rows.tasksNextSpec Rows.tasksNextRow = true := by kernel_rfl
theorem j15 : jf15 Try.checked.prog 3 Try.f3 Rows.tasksNextSpec Rows.tasksNextRow = true := by kernel_rfl
theorem j16 : jf16 Try.checked.prog 3 Try.f3 Rows.tasksNextSpec Rows.tasksNextRow = true := by kernel_rfl
theorem j17 : jf17 Try.checked.prog 3 Try.f3 Rows.tasksNextSpec Rows.tasksNextRow = true := by kernel_rfl
theorem j18 : jf18 Try.checked.prog 3 Try.f3 Rows.tasksNextSpec Rows.tasksNextRow = true := by kernel_rfl
theorem j19 : jf19 Try.checked.prog 3 Try.f3 Rows.tasksNextSpec Rows.tasksNextRow = true := by kernel_rfl
theorem j20 : jf20 Try.checked.prog 3 Try.f3 Rows.tasksNextSpec Rows.tasksNextRow = true := by kernel_rfl
theorem j21 : jf21 Try.checked.prog 3 Try.f3 Rows.tasksNextSpec Rows.tasksNextRow = true := by kernel_rfl
theorem j22 : jf22 Try.checked.prog 3 Try.f3 Rows.tasksNextSpec Rows.tasksNextRow = true := by kernel_rfl
theorem j23 : jf23 Try.checked.prog 3 Try.f3 Rows.tasksNextSpec Rows.tasksNextRow = true := by kernel_rfl
theorem j24 : jf24 Try.checked.prog 3 Try.f3 Rows.tasksNextSpec Rows.tasksNextRow = true := by kernel_rfl
theorem j25 : jf25 Try.checked.prog 3 Try.f3 Rows.tasksNextSpec Rows.tasksNextRow = true := by kernel_rfl
theorem j26 : jf26 Try.checked.prog 3 Try.f3 Rows.tasksNextSpec Rows.tasksNextRow = true := by kernel_rfl
theorem j27 : jf27 Try.checked.prog 3 Try.f3 Rows.tasksNextSpec Rows.tasksNextRow = true := by kernel_rfl
theorem j28 : jf28 Try.checked.prog 3 Try.f3 Rows.tasksNextSpec Rows.tasksNextRow = true := by kernel_rfl
theorem j29 : jf29 Try.checked.prog 3 Try.f3 Rows.tasksNextSpec Rows.tasksNextRow = true := by kernel_rfl
theorem j30 : jf30 Try.checked.prog 3 Try.f3 Rows.tasksNextSpec Rows.tasksNextRow = true := by kernel_rfl
theorem j31 : jf31 Try.checked.prog 3 Try.f3 Rows.tasksNextSpec Rows.tasksNextRow = true := by kernel_rfl
theorem joined : joinedFacts Try.checked.prog 3 Try.f3 Rows.tasksNextSpec Rows.tasksNextRow = true := joined_of j0 j1 j2 j3 j4 j5 j6 j7 j8 j9 j10 j11 j12 j13 j14 j15 j16 j17 j18 j19 j20 j21 j22 j23 j24 j25 j26 j27 j28 j29 j30 j31
theorem named : Try.checked.prog.funcNamed Rows.tasksNextRow.func = some 3 := by kernel_rfl
theorem own : ownKnob Try.prog.godebug = none := by kernel_rfl
theorem laidOut : laidOutB Try.prog = true := by kernel_rfl
theorem noInit : Try.checked.prog.inits.idxOf? 3 = none := by kernel_rfl
theorem inst : Try.f3.isInstance Try.checked.prog Rows.tasksNextRow.origin Rows.tasksNextRow.targs := of_decide_eq_true (by kernel_rfl)
theorem wrap : Try.f3.isWrapper Try.checked.prog Rows.tasksNextRow.wrapper Rows.tasksNextRow.mainSum := by unfold Func.isWrapper; first | (rw [if_pos (by decide +kernel)]; kernel_rfl) | (rw [if_neg (by decide +kernel)]; exact ⟨rfl, rfl⟩)
theorem row_of (h : ∀ os : Os, os.Started → ∀ (H : Type) (enc : TypeId × Value → H), (∀ a b, enc a = enc b → a = b) → ReturnsInHanded Rows.tasksNextRow.assume Try.checked os 3 .any (Rows.tasksNextRow.pre enc Try.checked.prog Try.f3 (OpenSpec.ofChange Rows.tasksNextSpec)) (Rows.tasksNextSpec.post enc Try.checked.prog Try.f3 Rows.tasksNextRow.apart Rows.tasksNextRow.fresh Rows.tasksNextRow.handsOn Rows.tasksNextRow.again)) : Rows.TasksNextSaid :=
  OpenClaim.holds_of_wide (p := Try.pinned) 3 Try.f3 rfl rfl rfl rfl rfl rfl rfl ⟨rfl, rfl, rfl, rfl, rfl⟩ rfl rfl rfl rfl rfl named Try.func3 joined inst wrap h
end Go.Proofs.Ytdganbddgobfdaa.tasksNext
