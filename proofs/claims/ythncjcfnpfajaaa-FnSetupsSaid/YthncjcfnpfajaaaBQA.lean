/- What the laws' own copies, comparisons and marks tell. No condition. -/
import Derived.Test.YthncjcfnpfajaaaUWords
import Derived.Test.YthncjcfnpfajaaaQA
namespace Go.Proofs.Ythncjcfnpfajaaa.Pure
open Go Go.Proofs.YthncjcfnpfajaaaA Go.Proofs.YthncjcfnpfajaaaU Go.Proofs.Ythncjcfnpfajaaa.QA
set_option linter.unusedVariables false
set_option linter.unusedSimpArgs false
theorem w64_id {z : Int} (h1 : -9223372036854775808 ≤ z) (h2 : z < 9223372036854775808) : w64 z = z := w_id h1 h2
end Go.Proofs.Ythncjcfnpfajaaa.Pure
