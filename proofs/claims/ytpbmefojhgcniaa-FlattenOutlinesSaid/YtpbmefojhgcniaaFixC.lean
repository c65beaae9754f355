/- The contracts of the layer fixed: Mul, Add, Sub, MulDiv, Div, and those of its reference. -/
import Derived.Test.YtpbmefojhgcniaaFixB
namespace Go.Proofs.Ytpbmefojhgcniaa
open Go.RowKit
set_option linter.unusedVariables false
def opV (x : Int) (l : List Int) : Int := if l.all mayB then outV x else 0
def opE (x : Int) (l : List Int) : Int := if l.all mayB then outE x else 10
def mdV (a b c : Int) : Int := if [a, b, c].all mayB then (if c = 0 then 0 else outV (nearQ (a * b) c)) else 0
def mdE (a b c : Int) : Int := if [a, b, c].all mayB then (if c = 0 then 1 else outE (nearQ (a * b) c)) else 10
end Go.Proofs.Ytpbmefojhgcniaa
