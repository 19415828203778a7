/- Part of the proof (text XMix): an engine, rules or contracts of the functions; it states nothing of the claim by itself. -/
import Derived.Test.YtnmooeoajgckmaaProg
import Derived.Test.YtnmooeoajgckmaaQEngG
import Derived.KernelRfl
set_option linter.unusedVariables false
set_option linter.unusedSimpArgs false
namespace Go.Proofs
theorem Try.mixed : Try.prog.follows .mixedOrders = true := by kernel_rfl
end Go.Proofs
