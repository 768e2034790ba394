/- The room's calls, as plain functions of words: what each answers, what stands behind it. No program in sight. -/
import Derived.Test.YthabfblcmbjlnaaSt
namespace Go.Proofs.Ythabfblcmbjlnaa
open Go.RowKit

/-- an address, reckoned in 64 digits -/
def uAdd (a b : Int) : Int := IntKind.u64.wrap (a + b)
theorem uAdd_bd (a b : Int) : 0 ≤ uAdd a b ∧ uAdd a b ≤ 18446744073709551615 := by unfold uAdd; rw [wrap_u64_mod]; omega
theorem uAdd_uAdd (a b c : Int) : uAdd (uAdd a b) c = uAdd a (b + c) := by unfold uAdd; rw [wrap_u64_mod, wrap_u64_mod, wrap_u64_mod]; omega

def rEnds (s : St) (a : Int) : Int × Int × Int × St :=
  match sget s a with
  | (x, e, s1) => if (e != 0) = false then (match sget s1 (uAdd a 1) with | (y, f, s2) => (x, y, f, s2)) else (0, 0, e, s1)

def rTake (s : St) (a z : Int) : Int × Int × St :=
  if z < 1 ∨ 16 < z then (0, 2, s) else
  match sget s (uAdd (uAdd a 1) z) with
  | (x, e, s1) => if (e != 0) = false then
      (if (x != 0) = false then
        match sget s1 a with
        | (n, e2, s2) => if (e2 != 0) = false then
            (match sget s2 (uAdd a 1) with
            | (m, e3, s3) => if (e3 != 0) = false then
                (if m < n ∨ m - n < z then (0, 9, s3) else
                match sput s3 a (n + z) with
                | (e4, s4) => if (e4 != 0) = false then (n, 0, s4) else (0, e4, s4))
              else (0, e3, s3))
          else (0, e2, s2)
      else
        match sget s1 (IntKind.u64.wrap (x - 1)) with
        | (y, e2, s2) => if (e2 != 0) = false then
            (match sput s2 (uAdd (uAdd a 1) z) y with
            | (e3, s3) => if (e3 != 0) = false then (IntKind.u64.wrap (x - 1), 0, s3) else (0, e3, s3))
          else (0, e2, s2))
    else (0, e, s1)

def rGive (s : St) (a p z : Int) : Int × St :=
  if z < 1 ∨ 16 < z then (2, s) else
  match sget s (uAdd (uAdd a 1) z) with
  | (x, e, s1) => if (e != 0) = false then
      (match sput s1 p x with
      | (e2, s2) => if (e2 != 0) = false then sput s2 (uAdd (uAdd a 1) z) (uAdd p 1) else (e2, s2))
    else (e, s1)

def rLeft (s : St) (a : Int) : Int × Int × St :=
  match sget s a with
  | (n, e, s1) => if (e != 0) = false then
      (match sget s1 (uAdd a 1) with
      | (m, e2, s2) => if (e2 != 0) = false then (if m < n then (0, 0, s2) else (m - n, 0, s2)) else (0, e2, s2))
    else (0, e, s1)

def layGo : Nat → Int → St → Int × St
  | 0, _, s => (0, s)
  | k + 1, a, s => match sput s a 0 with
    | (e, s1) => if (e != 0) = false then layGo k (uAdd a 1) s1 else (e, s1)

def rLay (s : St) (a x y : Int) : Int × St :=
  if y < x then (2, s) else
  match sput s a x with
  | (e, s1) => if (e != 0) = false then
      (match sput s1 (uAdd a 1) y with
      | (e2, s2) => if (e2 != 0) = false then layGo 16 (uAdd (uAdd a 1) 1) s2 else (e2, s2))
    else (e, s1)

/-- k: how many more may be told -/
def givenGo : Nat → Int → List Int → St → List Int × Int × St
  | 0, a, l, s => match sget s a with
    | (x, e, s1) => if (e != 0) = false then (if (x != 0) = false then (l, 0, s1) else ([], 2, s1)) else ([], e, s1)
  | k + 1, a, l, s => match sget s a with
    | (x, e, s1) => if (e != 0) = false then (if (x != 0) = false then (l, 0, s1) else givenGo k (IntKind.u64.wrap (x - 1)) (l ++ [IntKind.u64.wrap (x - 1)]) s1) else ([], e, s1)

def rGiven (s : St) (a z : Int) : List Int × Int × St :=
  if z < 1 ∨ 16 < z then ([], 2, s) else givenGo 65536 (uAdd (uAdd a 1) z) [] s
end Go.Proofs.Ythabfblcmbjlnaa
