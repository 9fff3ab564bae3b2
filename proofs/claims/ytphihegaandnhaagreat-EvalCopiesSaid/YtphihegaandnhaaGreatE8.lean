/-
Lists are values in the evaluator (EvalCopies): for any list of numbers, any place and any number the law's call returns true and leaves its arguments as they were. No conditions.
-/
import Derived.Test.YtphihegaandnhaaGreatE6
import Derived.Test.YtphihegaandnhaaGreatE7
namespace Go.Proofs.YtphihegaandnhaaGreat
theorem evalCopies_holds : Rows.EvalCopiesSaid := holds_of Ec.law_runs
end Go.Proofs.YtphihegaandnhaaGreat
