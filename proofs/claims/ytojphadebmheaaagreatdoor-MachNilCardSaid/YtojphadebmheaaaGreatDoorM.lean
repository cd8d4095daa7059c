/- The modes of calls. -/
import Derived.Test.YtojphadebmheaaaGreatDoorProg
import Derived.KernelRfl
import Derived.Test.YtojphadebmheaaaGreatDoorC3
namespace Go.Proofs.YtojphadebmheaaaGreatDoor
open Go Go.Proofs.Ago
/-- How a function is called: 0 threaded, 1 on plain data, 2 on plain data if its arguments are. -/
def mdN : Nat := 5152957483721542206007410184167537486928058402562922437334258857659965165961718753326299218649175003526593117376367426262710045250015991407331519320300998190445772574976597
def md (f : Nat) : Nat := mdN / 4 ^ f % 4
end Go.Proofs.YtojphadebmheaaaGreatDoor
