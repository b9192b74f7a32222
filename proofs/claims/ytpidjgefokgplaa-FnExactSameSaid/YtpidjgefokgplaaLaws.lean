/- What stands for functions of Go's library. -/
import Derived.Test.YtpidjgefokgplaaLim
import Derived.Lib.IndexMore
namespace Go.DM
open Go
def lawContains : List D → Store → Option (D × Store)
  | [.str s, .str t], σ => if s.length < 4294967281 then some (.bool (Lib.contains s t), σ) else none
  | _, _ => none
end Go.DM
