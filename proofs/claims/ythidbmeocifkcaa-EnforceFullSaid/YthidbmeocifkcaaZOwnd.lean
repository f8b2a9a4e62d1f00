import Derived.Test.YthidbmeocifkcaaG1
namespace Go.Proofs.Ythidbmeocifkcaa
/-- a block that the call itself has made -/
def Own (w : World) (b : Nat) : Prop := w.heap.size ≤ b
end Go.Proofs.Ythidbmeocifkcaa
