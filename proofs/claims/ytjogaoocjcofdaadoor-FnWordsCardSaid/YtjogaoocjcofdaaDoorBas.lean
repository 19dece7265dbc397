/- What the texts on strings lean on: words on worlds. -/
import Derived.Test.YtjogaoocjcofdaaDoorCopy
import Derived.Test.YtjogaoocjcofdaaDoorApt
import Derived.WalkSpells
namespace Go.Proofs.YtjogaoocjcofdaaDoor
open Go.RowKit

theorem ret_s {a b : ByteArray} (h : a = b) : Ending.returned (.string a) = .returned (.string b) := by rw [h]

end Go.Proofs.YtjogaoocjcofdaaDoor
