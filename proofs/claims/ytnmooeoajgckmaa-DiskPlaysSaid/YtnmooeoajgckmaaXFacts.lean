/- Part of the proof (text XFacts): an engine, rules or contracts of the functions; it states nothing of the claim by itself. -/
import Derived.Test.YtnmooeoajgckmaaXMix
import Derived.Test.YtnmooeoajgckmaaQLib
set_option linter.unusedVariables false
set_option linter.unusedSimpArgs false
namespace Go.Proofs
open Go Go.Q
@[simp] theorem Try.isBool4 : isBoolT Try.prog 4 = true := by kernel_rfl
@[simp] theorem Try.isPtr15 : isPtr Try.prog 15 = true := by kernel_rfl
@[simp] theorem Try.isPtr16 : isPtr Try.prog 16 = true := by kernel_rfl
@[simp] theorem Try.isPtr17 : isPtr Try.prog 17 = true := by kernel_rfl
@[simp] theorem Try.isSl22 : isSl Try.prog 22 = true := by kernel_rfl
@[simp] theorem Try.isPtr23 : isPtr Try.prog 23 = true := by kernel_rfl
@[simp] theorem Try.isSl35 : isSl Try.prog 35 = true := by kernel_rfl
@[simp] theorem Try.isSl36 : isSl Try.prog 36 = true := by kernel_rfl
@[simp] theorem Try.isSl37 : isSl Try.prog 37 = true := by kernel_rfl
@[simp] theorem Try.isSl53 : isSl Try.prog 53 = true := by kernel_rfl
@[simp] theorem Try.isSl54 : isSl Try.prog 54 = true := by kernel_rfl
@[simp] theorem Try.isSl57 : isSl Try.prog 57 = true := by kernel_rfl
@[simp] theorem Try.isPtr64 : isPtr Try.prog 64 = true := by kernel_rfl
@[simp] theorem Try.isSl72 : isSl Try.prog 72 = true := by kernel_rfl
@[simp] theorem Try.isSl74 : isSl Try.prog 74 = true := by kernel_rfl
@[simp] theorem Try.isPtr75 : isPtr Try.prog 75 = true := by kernel_rfl
@[simp] theorem Try.isSl89 : isSl Try.prog 89 = true := by kernel_rfl
@[simp] theorem Try.isPtr105 : isPtr Try.prog 105 = true := by kernel_rfl
@[simp] theorem Try.isPtr121 : isPtr Try.prog 121 = true := by kernel_rfl
end Go.Proofs
