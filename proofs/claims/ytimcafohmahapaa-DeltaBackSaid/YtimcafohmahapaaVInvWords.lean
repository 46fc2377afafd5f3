/- Texts of this seat laid together: WInvWords. -/
import Derived.Test.YtimcafohmahapaaVInv
import Derived.Test.YtimcafohmahapaaVFootNe

-- WInvWords
-- PRINTED BY print.sh 35421559b90ae4d0a3588c463048766b98c2df88dd9212a6774a882060cdf62d: not written by this session
namespace Go.Proofs.YtimcafohmahapaaW.PrintWords
open Go.RowKit
end Go.Proofs.YtimcafohmahapaaW.PrintWords
namespace Go.Proofs.YtimcafohmahapaaW.PrintLast
section
variable {ops : Array Oper} {a : Act} {o og : Oper} {g : Nat} {t : Tmp} {u : Bool}
end
end Go.Proofs.YtimcafohmahapaaW.PrintLast
