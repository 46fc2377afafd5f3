/- Texts of this seat laid together: WRepsOne. -/
import Derived.Test.YteaefambkagpbaaVWords

-- WRepsOne
-- PRINTED BY print.sh 35421559b90ae4d0a3588c463048766b98c2df88dd9212a6774a882060cdf62d: not written by this session
/-! ### 55. Reps told from the front, no append: for rows of one-cell elements and of wider ones -/
namespace Go.Proofs.YteaefambkagpbaaW.PrintWords
end Go.Proofs.YteaefambkagpbaaW.PrintWords
