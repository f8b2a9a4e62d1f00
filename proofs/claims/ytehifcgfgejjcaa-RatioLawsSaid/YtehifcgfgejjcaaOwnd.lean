import Derived.Test.YtehifcgfgejjcaaGen
namespace Go.Proofs.Ytehifcgfgejjcaa
/-- a block that the call itself has made -/
def Own (w : World) (b : Nat) : Prop := w.heap.size ≤ b
end Go.Proofs.Ytehifcgfgejjcaa
