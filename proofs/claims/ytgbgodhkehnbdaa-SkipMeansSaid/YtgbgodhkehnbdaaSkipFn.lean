/- The skip list's calls, as plain functions of words. No program in sight. -/
import Derived.Test.YtgbgodhkehnbdaaRoomFn
namespace Go.Proofs.Ytgbgodhkehnbdaa
open Go.RowKit

/-- eight cells from a on are laid: k: how many are still to be -/
def skLayGo : Nat → Int → Int → St → Int × St
  | 0, _, _, s => (0, s)
  | n + 1, a, k, s => match sput s (uAdd a k) 0 with
    | (e, s1) => if (e != 0) = false then skLayGo n a (k + 1) s1 else (e, s1)
def skLay (s : St) (a : Int) : Int × St := skLayGo 8 a 0 s

/-- what a search has found: of each level the last link's cell, and the link; the word that was got last -/
structure Found where
  cell : List Int
  link : List Int
  word : Int

/-- fuel: how many links more may be followed or levels gone down; words: how many words were got -/
def skGo (x : Int) (past : Bool) : Nat → Int → Nat → Nat → Found → St → Found × Int × St
  | 0, _, _, _, f, s => (f, 0, s)
  | n + 1, base, k, words, f, s =>
    let c := uAdd base k
    match sget s c with
    | (link, e, s1) => if (e != 0) = false then
        let f1 : Found := { f with cell := f.cell.set k c, link := f.link.set k link }
        if (link != 0) = false then
          if 0 < k then skGo x past n base (k - 1) words f1 s1 else (f1, 0, s1)
        else if 65536 < words + 1 then (f1, 320, s1) else
          match sget s1 (IntKind.u64.wrap (link - 1)) with
          | (w, e2, s2) =>
            let f2 : Found := { f1 with word := w }
            if (e2 != 0) = false then
              if w < x ∨ (past = true ∧ w = x) then skGo x past n (uAdd link 1) k (words + 1) f2 s2
              else if 0 < k then skGo x past n base (k - 1) (words + 1) f2 s2 else (f2, 0, s2)
            else (f2, e2, s2)
      else (f, e, s1)
def noFound : Found := ⟨List.replicate 8 0, List.replicate 8 0, 0⟩
def skSearch (s : St) (a x : Int) (past : Bool) : Found × Int × St := skGo x past 65545 a 7 0 noFound s
def Found.has (f : Found) (x : Int) : Bool := (f.link.getD 0 0 != 0) && f.word == x

/-- what the closure 'put' does -/
def cput (e : Int) (s : St) (a x : Int) : Int × St := if (e == 0) = true then sput s a x else (e, s)
/-- n levels from k on are linked -/
def skLink (node : Int) (f : Found) : Nat → Nat → Int → St → Int × St
  | 0, _, e, s => (e, s)
  | n + 1, k, e, s => match cput e s (uAdd (uAdd node 2) k) (f.link.getD k 0) with
    | (e1, s1) => match cput e1 s1 (f.cell.getD k 0) (uAdd node 1) with
      | (e2, s2) => skLink node f n (k + 1) e2 s2
/-- a node is laid, and linked -/
def skNode (node x : Int) (n : Nat) (f : Found) (s : St) : Bool × Int × St :=
  match cput 0 s node x with
  | (e3, s3) => match cput e3 s3 (uAdd node 1) n with
    | (e4, s4) => match skLink node f n 0 e4 s4 with
      | (e5, s5) => (e5 == 0, e5, s5)

def skInsert (s : St) (r a x : Int) (level : Int) : Bool × Int × St :=
  match skSearch s a x false with
  | (f, e, s1) => if (e != 0) = true ∨ f.has x = true then (false, e, s1) else
    match rTake s1 r (max 1 (min level 8) + 2) with
    | (node, e2, s2) => if (e2 != 0) = false then skNode node x (max 1 (min level 8)).toNat f s2 else (false, e2, s2)

/-- n levels from k on are linked around a node -/
def skUnlink (node : Int) (f : Found) : Nat → Nat → St → Int × St
  | 0, _, s => (0, s)
  | n + 1, k, s => match sget s (uAdd (uAdd node 2) k) with
    | (link, e, s1) => if (e != 0) = false then
        match sput s1 (f.cell.getD k 0) link with
        | (e2, s2) => if (e2 != 0) = false then skUnlink node f n (k + 1) s2 else (e2, s2)
      else (e, s1)

/-- a node of so many levels is linked around, and given back -/
def skRem (r node : Int) (f : Found) (level : Int) (s : St) : Bool × Int × St :=
  if 8 ≤ IntKind.u64.wrap (level - 1) then (false, 320, s) else
  match skUnlink node f level.toNat 0 s with
  | (e3, s3) => if (e3 != 0) = false then
      match rGive s3 r node (level + 2) with
      | (e4, s4) => (e4 == 0, e4, s4)
    else (false, e3, s3)
def skRemove (s : St) (r a x : Int) : Bool × Int × St :=
  match skSearch s a x false with
  | (f, e, s1) => if (e != 0) = true ∨ f.has x = false then (false, e, s1) else
    match sget s1 (uAdd (IntKind.u64.wrap (f.link.getD 0 0 - 1)) 1) with
    | (level, e2, s2) => if (e2 != 0) = false then skRem r (IntKind.u64.wrap (f.link.getD 0 0 - 1)) f level s2 else (false, e2, s2)

def skHas (s : St) (a x : Int) : Bool × Int × St :=
  match skSearch s a x false with
  | (f, e, s1) => ((e == 0) && f.has x, e, s1)

def skFirst (s : St) (a : Int) : Int × Bool × Int × St :=
  match sget s a with
  | (link, e, s1) => if (e != 0) = true ∨ (link == 0) = true then (0, false, e, s1) else
    match sget s1 (IntKind.u64.wrap (link - 1)) with
    | (w, e2, s2) => if (e2 != 0) = false then (w, true, 0, s2) else (0, false, e2, s2)

def skAfter (s : St) (a x : Int) : Int × Bool × Int × St :=
  match skSearch s a x true with
  | (f, e, s1) => if (e != 0) = true ∨ (f.link.getD 0 0 == 0) = true then (0, false, e, s1) else (f.word, true, 0, s1)

/-- k: how many words more may be told -/
def skKeysGo : Nat → Int → List Int → St → List Int × Int × St
  | 0, a, l, s => match sget s a with
    | (link, e, s1) => if (e != 0) = false then (if (link == 0) = true then (l, 0, s1) else ([], 320, s1)) else ([], e, s1)
  | n + 1, a, l, s => match sget s a with
    | (link, e, s1) => if (e != 0) = false then (if (link == 0) = true then (l, 0, s1) else
        match sget s1 (IntKind.u64.wrap (link - 1)) with
        | (w, e2, s2) => if (e2 != 0) = false then skKeysGo n (uAdd link 1) (l ++ [w]) s2 else ([], e2, s2)) else ([], e, s1)
def skKeys (s : St) (a : Int) : List Int × Int × St := skKeysGo 65536 a [] s

def skLevelGo : List Int → Int → Int
  | [], n => n
  | x :: l, n => if x % 2 = 0 then n else skLevelGo l (n + 1)
def skLevel (l : List Int) : Int := min (skLevelGo l 1) 8
end Go.Proofs.Ytgbgodhkehnbdaa
