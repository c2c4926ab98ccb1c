import Derived.Test.YtmnjmeebadpgjabTy
import Derived.Test.YtmnjmeebadpgjabNum
namespace Go.Proofs.Ytmnjmeebadpgjab.Bits
open Go Go.Av
set_option linter.unusedSimpArgs false
set_option linter.unusedVariables false
abbrev I64 (n : Int) : AV := .lit (.int .i64 n)
abbrev U64 (n : Int) : AV := .lit (.int .u64 n)
abbrev BB (b : Bool) : AV := .lit (.bool b)
end Go.Proofs.Ytmnjmeebadpgjab.Bits
