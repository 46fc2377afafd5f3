/- The printed rows call a word of the print by a shorter name; here it stands under that name. -/
import Derived.Test.YtgkghmhgpfjddaaWSized
namespace Go.Proofs.Ytgkghmhgpfjddaa.PrintWords
abbrev sized_ints := @Go.Proofs.YtgkghmhgpfjddaaW.PrintWords.sized_ints
end Go.Proofs.Ytgkghmhgpfjddaa.PrintWords
