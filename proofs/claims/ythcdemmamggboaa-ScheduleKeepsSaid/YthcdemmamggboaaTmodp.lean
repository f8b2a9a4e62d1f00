import Derived.Test.YthcdemmamggboaaTmod
namespace Go.Proofs.Ythcdemmamggboaa
open Go.RowKit
def psecsOk (t : Tsk) : Bool := secsOkP t.cost [] t.secs
def nameIn (t : Tsk) (pre : List Tsk) : Bool := pre.any fun o => decide (o.name.data.toList = t.name.data.toList)
def prioIn (t : Tsk) (pre : List Tsk) : Bool := pre.any fun o => decide (o.prio = t.prio)
def pchkT : List Tsk → List Tsk → Int
  | _, [] => 0
  | pre, t :: ts => if tskBad t || nameIn t pre || prioIn t pre || !psecsOk t then 2 else pchkT (pre ++ [t]) ts
def pchk (l : List Tsk) : Int := if (decide (8 < l.length) || manySecs l) then 3 else if l.length = 0 then 2 else pchkT [] l
end Go.Proofs.Ythcdemmamggboaa
