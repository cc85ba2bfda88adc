import Derived.Test.YticbohfmkiafiaaVMV
import Derived.ProofKit
import Derived.LaidMore
import Derived.OpenShut
import Derived.Stop.Joined
namespace Go.VM
open Go.RowKit Go.ChangeShapes Go.WideShapes Go.ChangeAt
end Go.VM
