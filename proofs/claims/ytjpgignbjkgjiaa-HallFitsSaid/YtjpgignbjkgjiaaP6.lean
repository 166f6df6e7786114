/-
  Plain words of chapter 10 (hall), the sixth part: what customers see. No program in sight.
-/
import Derived.Test.YtjpgignbjkgjiaaP5
namespace Go.Proofs.Ytjpgignbjkgjiaa
def markF (a b v : Int) (F : Nat → Int) : Nat → Int := fun i => if a ≤ (i : Int) ∧ (i : Int) < b then v else F i
def vBase (ha : Hal) : Nat → Int := fun i => if nth ha.st i = 0 then 3 else 0
def vOther (ha : Hal) (l : List Camp) (p : List Int) (cu : Int) : Nat → Nat → Int
  | 0 => vBase ha
  | k + 1 => if (cth l k).cu = cu then vOther ha l p cu k else markF (nth p k - ha.cl) (nth p k + (cth l k).ho + ha.cl) 3 (vOther ha l p cu k)
def vOwn (l : List Camp) (p : List Int) (cu own : Int) (F : Nat → Int) : Nat → Nat → Int
  | 0 => F
  | k + 1 => if (cth l k).cu = cu then (if own = 1 then markF (nth p k) (nth p k + (cth l k).ho) own (vOwn l p cu own F k) else markF (nth p k - (cth l k).pr) (nth p k) own (vOwn l p cu own F k)) else vOwn l p cu own F k
def viewF (ha : Hal) (l : List Camp) (p : List Int) (cu : Int) : Nat → Int := vOwn l p cu 1 (vOwn l p cu 2 (vOther ha l p cu l.length) l.length) l.length
def viewE (ha : Hal) (l : List Camp) (p : List Int) (cu : Int) : Int := if errS ha l p = 0 then (if wi cu 0 20 then 0 else 3) else errS ha l p
def viewL (ha : Hal) (l : List Camp) (p : List Int) (cu : Int) : List Int := if viewE ha l p cu = 0 then fl ha.st.length (viewF ha l p cu) else []
def ownOf (q : Nat) : Int := if q = 0 then 2 else 1
def vStage (ha : Hal) (l : List Camp) (p : List Int) (cu : Int) : Nat → Nat → Int
  | 0 => vOther ha l p cu l.length
  | q + 1 => vOwn l p cu (ownOf q) (vStage ha l p cu q) l.length
theorem vStage_two (ha : Hal) (l : List Camp) (p : List Int) (cu : Int) : vStage ha l p cu 2 = viewF ha l p cu := rfl
end Go.Proofs.Ytjpgignbjkgjiaa
