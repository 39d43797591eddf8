/- What is told of snapshots: the pure model. No condition. -/
import Derived.Test.YtfgkocpmgoaljaaXidS
namespace Go.Proofs.Ytfgkocpmgoaljaa.Xid

def doneOf (T : List One) (id : Int) : Nat := if countsOf T id then numberOf T (topOf T id : Int) else 0
def ownOf (T : List One) (me id : Int) : Bool := me != 0 && countsOf T id && ((topOf T id : Int) == me)
def oldOf (T : List One) (att id : Int) : Bool := decide (0 < (doneOf T id : Int)) && decide ((doneOf T id : Int) ≤ att)
def seesOf (T : List One) (att me id : Int) : Bool := ownOf T me id || oldOf T att id
def laterOf (T : List One) (att me id : Int) : Bool := decide (0 < (doneOf T id : Int)) && !seesOf T att me id

end Go.Proofs.Ytfgkocpmgoaljaa.Xid
