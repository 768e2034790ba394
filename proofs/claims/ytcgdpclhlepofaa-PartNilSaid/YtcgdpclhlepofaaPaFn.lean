/- A part's nodes gone over, as plain functions of words. No program in sight. -/
import Derived.Test.YtcgdpclhlepofaaQueueFn
namespace Go.Proofs.Ytcgdpclhlepofaa
open Go.RowKit

/-- k: how many nodes more may come; next: the next link; n: how many nodes there were; step: what is done at a node with its word -/
def pEach (step : Int → Int → List Int → St → Int × List Int × St) (count : Int) : Nat → Int → Int → List Int → St → Int × List Int × St
  | 0, _, _, l, s => (0, l, s)
  | k + 1, next, n, l, s =>
    if (next == 0) = true then (0, l, s) else
    match sget s (IntKind.u64.wrap (next - 1)) with
    | (w, e, s1) => if (e != 0) = true then (e, l, s1) else
      match step (IntKind.u64.wrap (next - 1)) w l s1 with
      | (e2, l2, s2) => if (e2 != 0) = true then (e2, l2, s2) else
        match sget s2 (uAdd (IntKind.u64.wrap (next - 1)) 1) with
        | (nx, e3, s3) => if (e3 != 0) = true then (e3, l2, s3) else
          if ((nx == 0) == (n + 1 == count)) = true then pEach step count k nx (n + 1) l2 s3 else (360, l2, s3)
def pAll (step : Int → Int → List Int → St → Int × List Int × St) (kind first count : Int) (s : St) : Int × List Int × St :=
  if kind ≠ 1 ∧ kind ≠ 2 then (2, [], s) else if 65536 < count ∨ ((first == 0) != (count == 0)) = true then (360, [], s) else pEach step count 65537 first 0 [] s
def stRead : Int → Int → List Int → St → Int × List Int × St := fun _ w l s => (0, l ++ [w], s)
def stNode : Int → Int → List Int → St → Int × List Int × St := fun n _ l s => (0, l ++ [n], s)
def stTurn (f : Int → Int) : Int → Int → List Int → St → Int × List Int × St := fun n w l s => match sput s n (f w) with | (e, s1) => (e, l, s1)
def pRead (kind first count : Int) (s : St) : List Int × Int × St := match pAll stRead kind first count s with | (e, l, s1) => if (e != 0) = true then ([], e, s1) else (l, 0, s1)
def pTurn (f : Int → Int) (kind first count : Int) (s : St) : Int × St := match pAll (stTurn f) kind first count s with | (e, _, s1) => (e, s1)
def pNodes (kind first count : Int) (s : St) : List Int × Int × St := match pAll stNode kind first count s with | (e, l, s1) => (l, e, s1)

/-- the words of some cells are put to 0, one behind the other -/
def pZero : List Int → St → Int × St
  | [], s => (0, s)
  | a :: l, s => match sput s a 0 with | (e, s1) => if (e != 0) = true then (e, s1) else pZero l s1
def pCut (first count : Int) (zs : List Int) (s : St) : Int × Int × Int × St :=
  match sget s first with
  | (f, e, s1) => if (e != 0) = true then (0, 0, e, s1) else
    match sget s1 count with
    | (c, e2, s2) => if (e2 != 0) = true then (0, 0, e2, s2) else
      match pZero zs s2 with | (e3, s3) => if (e3 != 0) = true then (0, 0, e3, s3) else (f, c, 0, s3)
def pQueue (q : Int) (s : St) : Int × Int × Int × St := pCut q (uAdd q 2) [q, uAdd q 1, uAdd q 2] s
/-- words are put, one behind the other -/
def pPuts (q : Int) : List Int → Int → St → Int × St
  | [], _, s => (0, s)
  | x :: l, i, s => match sput s (uAdd q i) x with | (e, s1) => if (e != 0) = true then (e, s1) else pPuts q l (i + 1) s1
def lastOf (l : List Int) : Int := match l.getLast? with | some x => uAdd x 1 | none => 0
def pBack (q kind first count : Int) (s : St) : Int × St :=
  if kind ≠ 1 then (2, s) else
  match sget s q with
  | (f, e, s1) => if (e != 0) = true then (e, s1) else if (f != 0) = true then (2, s1) else
    match pNodes kind first count s1 with
    | (l, e2, s2) => if (e2 != 0) = true then (e2, s2) else pPuts q [first, lastOf l, count] 0 s2
end Go.Proofs.Ytcgdpclhlepofaa
