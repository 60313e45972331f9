/- The by-value logic, part T: the program's tables: which block each lies in, and what it holds. -/
import Derived.Orders
namespace Go.Proofs.YtphndngifjgeoaaGreatDoor
def tabs : List (Nat × List Value) := [(0, [.int .u8 0, .int .u8 1, .int .u8 28, .int .u8 2, .int .u8 29, .int .u8 14, .int .u8 24, .int .u8 3, .int .u8 30, .int .u8 22, .int .u8 20, .int .u8 15, .int .u8 25, .int .u8 17, .int .u8 4, .int .u8 8, .int .u8 31, .int .u8 27, .int .u8 13, .int .u8 23, .int .u8 21, .int .u8 19, .int .u8 16, .int .u8 7, .int .u8 26, .int .u8 12, .int .u8 18, .int .u8 6, .int .u8 11, .int .u8 5, .int .u8 10, .int .u8 9])]
/-- Which calls of a function that lies in a slot may turn this frame's boxes, by the types of what is handed over. -/
def heavyTs : Option (Array TypeId) := some #[29, 29]
end Go.Proofs.YtphndngifjgeoaaGreatDoor
