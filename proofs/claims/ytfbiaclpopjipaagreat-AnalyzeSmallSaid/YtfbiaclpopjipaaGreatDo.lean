/- Plain: what the reference's Conflict returns. -/
import Derived.Test.YtfbiaclpopjipaaGreatDh
import Derived.Test.YtfbiaclpopjipaaGreatDf
namespace Go.Proofs.YtfbiaclpopjipaaGreat
open Go.RowKit

def rVars (its : List RIt) (l : List Int) : List Int := (l.filter fun x => decide (0 < rL its x)).map fun x => (litV x : Int)
def rLits (its : List RIt) (s : RSt) : List Int := rSorted s.l (s.l.map fun x => -(rP its (litV x)))
def rBack (its : List RIt) (s : RSt) : Int := if 1 < s.l.length then rL its ((rLits its s).getD 1 0) else 0
def rLevels (its : List RIt) (c : List Int) : Int := if clauseB c = true then ((rLvs its [] c).length : Nat) else 0
def rMet (its : List RIt) (s : RSt) : List Int := rSorted (rVars its s.met) (rVars its s.met)
def rHints (id : Int) (s : RSt) : List Int := rSorted s.hints s.keys ++ [id]
end Go.Proofs.YtfbiaclpopjipaaGreat
