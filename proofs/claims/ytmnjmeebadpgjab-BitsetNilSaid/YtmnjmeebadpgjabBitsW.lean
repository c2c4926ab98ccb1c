import Derived.Test.YtmnjmeebadpgjabBitsZig
namespace Go.Proofs.Ytmnjmeebadpgjab.Bits
open Go Go.Av
set_option linter.unusedSimpArgs false
set_option linter.unusedVariables false
end Go.Proofs.Ytmnjmeebadpgjab.Bits
