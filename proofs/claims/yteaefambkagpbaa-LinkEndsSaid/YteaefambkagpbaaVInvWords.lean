/- Texts of this seat laid together: WInvWords. -/
import Derived.Test.YteaefambkagpbaaVInv
import Derived.Test.YteaefambkagpbaaVFootNe

-- WInvWords
-- PRINTED BY print.sh 35421559b90ae4d0a3588c463048766b98c2df88dd9212a6774a882060cdf62d: not written by this session
namespace Go.Proofs.YteaefambkagpbaaW.PrintWords
open Go.RowKit
end Go.Proofs.YteaefambkagpbaaW.PrintWords
namespace Go.Proofs.YteaefambkagpbaaW.PrintLast
section
variable {ops : Array Oper} {a : Act} {o og : Oper} {g : Nat} {t : Tmp} {u : Bool}
end
end Go.Proofs.YteaefambkagpbaaW.PrintLast
