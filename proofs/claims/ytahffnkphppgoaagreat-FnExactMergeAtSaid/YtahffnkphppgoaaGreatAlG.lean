namespace Go.Al
def ambG : Option Nat := some 0
end Go.Al
