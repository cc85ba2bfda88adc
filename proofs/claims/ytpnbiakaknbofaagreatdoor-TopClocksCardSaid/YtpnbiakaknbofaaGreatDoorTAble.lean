import Derived.Test.YtpnbiakaknbofaaGreatDoorTPre
namespace Go.Proofs.YtpnbiakaknbofaaGreatDoor.G
open Go.VM Go.Proofs
def own (pl : Int) : List Int → Int
  | [] => 0
  | x :: l => (if ownr x = pl then 1 else 0) + own pl l
section
variable {r : RU} {p : PO}
end
end Go.Proofs.YtpnbiakaknbofaaGreatDoor.G
