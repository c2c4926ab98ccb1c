import Derived.Test.YtjinngfpbmkhaaaTy
import Derived.Test.YtjinngfpbmkhaaaNum
namespace Go.Proofs.Ytjinngfpbmkhaaa.Bits
open Go Go.Av
set_option linter.unusedSimpArgs false
set_option linter.unusedVariables false
abbrev I64 (n : Int) : AV := .lit (.int .i64 n)
abbrev U64 (n : Int) : AV := .lit (.int .u64 n)
abbrev BB (b : Bool) : AV := .lit (.bool b)
end Go.Proofs.Ytjinngfpbmkhaaa.Bits
