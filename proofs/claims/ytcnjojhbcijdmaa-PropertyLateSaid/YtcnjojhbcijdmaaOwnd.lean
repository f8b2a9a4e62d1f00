import Derived.Test.YtcnjojhbcijdmaaGen
namespace Go.Proofs.Ytcnjojhbcijdmaa
/-- a block that the call itself has made -/
def Own (w : World) (b : Nat) : Prop := w.heap.size ≤ b
end Go.Proofs.Ytcnjojhbcijdmaa
