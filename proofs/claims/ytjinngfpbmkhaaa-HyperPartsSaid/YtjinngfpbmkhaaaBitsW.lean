import Derived.Test.YtjinngfpbmkhaaaBitsZig
namespace Go.Proofs.Ytjinngfpbmkhaaa.Bits
open Go Go.Av
set_option linter.unusedSimpArgs false
set_option linter.unusedVariables false
end Go.Proofs.Ytjinngfpbmkhaaa.Bits
