/- slices.Equal over pieces, delta.Normal, delta.Equivalent: what they return. Condition: the pieces read as values of their type. -/
import Derived.Test.YtibmnkdeepmabaaPlain
namespace Go.Proofs.Ytibmnkdeepmabaa
open Go.RowKit

def normB (l : List Pc) : Bool := if errL l = 0 then sameB l (formS l) else false
def equivB (a b : List Pc) : Bool := if equivE a b = 0 then sameB (formS a) (formS b) else false

end Go.Proofs.Ytibmnkdeepmabaa
