/- The by-value logic, part T: the program's tables: which block each lies in, and what it holds. -/
import Derived.Orders
namespace Go.Proofs.Ytcdkgeeookcoeaa
def tabs : List (Nat × List Value) := []
end Go.Proofs.Ytcdkgeeookcoeaa
