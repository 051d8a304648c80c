/- The perms: the chapter's rows, at their numbers. -/
import Derived.Test.YtdganbddgobfdaaP11
namespace Go.Proofs.Ytdganbddgobfdaa
open Go.Proofs.Try
def k0 : Nat := wordN 0 (List.range 15)
def kq : Nat := wordN 1 (insL k0 0 0)
def kr : Nat := wordN 2 (insL kq 1 0)
def ks : Nat := wordN 3 (insL kr 2 2)
def kt : Nat := wordN 2 (remL ks 2 1)
def ku : Nat := wordN 1 (digs ks 15)
def kv : Nat := wordN 2 ([2, 0] ++ missN [2, 0] 15)
theorem okL_nil : okL [] := ⟨by simp, by simp⟩
theorem ofP_nil : ofP [] = (k0, 0) := by rw [ofP, if_pos okL_nil]; congr 1
theorem ofP_11 : ofP [1, 1] = (0, 2) := by rw [ofP, if_neg (fun h => by have := h.2; simp at this)]
theorem ofP_20 : ofP [2, 0] = (kv, 0) := by rw [ofP, if_pos ⟨by simp, by simp⟩]; rfl
theorem k0_ok : k0 < 18446744073709551616 ∧ k0 % 16 = 0 ∧ good k0 15 := by decide +kernel
theorem kq_ok : kq < 18446744073709551616 ∧ kq % 16 = 1 ∧ good kq 15 := by decide +kernel
theorem kr_ok : kr < 18446744073709551616 ∧ kr % 16 = 2 ∧ good kr 15 := by decide +kernel
theorem ks_ok : ks < 18446744073709551616 ∧ ks % 16 = 3 ∧ good ks 15 := by decide +kernel
theorem kt_ok : kt < 18446744073709551616 ∧ kt % 16 = 2 ∧ good kt 15 := by decide +kernel
theorem ku_ok : ku < 18446744073709551616 ∧ ku % 16 = 1 ∧ good ku 15 := by decide +kernel
theorem kv_ok : kv < 18446744073709551616 ∧ kv % 16 = 2 ∧ good kv 15 := by decide +kernel
theorem k_vals : dig k0 0 = 0 ∧ dig kq 1 = 1 ∧ dig kr 2 = 2 ∧ dig ks 1 = 0 ∧ usedL kr = [1, 0] ∧ usedL ks = [1, 0, 2] ∧ usedL kt = [1, 2] ∧ (freeL kt).take 2 = [0, 3] ∧ usedL ku = [1] ∧ ((digs ks 15).take 3).drop 1 = [0, 2] ∧ (freeL kv).take 2 = [1, 3] ∧ (freeL kt).length = 13 ∧ (freeL kv).length = 13 ∧ ¬ good 0 15 := by decide +kernel
end Go.Proofs.Ytdganbddgobfdaa
