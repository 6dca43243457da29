/-! ### 0. What a seat's library reads of a variable of its own: the block of an int, whatever it holds -/
namespace Go.Al
def ambG : Option Nat := some 0
end Go.Al
