/- The queue's calls, as plain functions of words. No program in sight. -/
import Derived.Test.YtcgdpclhlepofaaRoomFn
namespace Go.Proofs.Ytcgdpclhlepofaa
open Go.RowKit

/-- a get and a put of a block whose first refusal is kept -/
def bget (e : Int) (s : St) (a : Int) : Int × Int × St := if (e != 0) = false then sget s a else (0, e, s)
def bput (e : Int) (s : St) (a x : Int) : Int × St := if (e == 0) = true then sput s a x else (e, s)

/-- n cells from the kth on -/
def qLayGo (q : Int) : Nat → Int → Int → St → Int × St
  | 0, _, e, s => (e, s)
  | n + 1, k, e, s => match bput e s (uAdd q k) 0 with | (e1, s1) => qLayGo q n (k + 1) e1 s1
def qNew (s : St) (a : Int) : Int × Int × St :=
  match rTake s a 3 with
  | (q, e, s0) => match qLayGo q 3 0 e s0 with
  | (e3, s3) => if (e3 != 0) = false then (q, 0, s3) else (0, e3, s3)

def qPut (s : St) (a q x : Int) : Int × St :=
  match rTake s a 2 with
  | (n, e0, s0) => match bput e0 s0 n x with
  | (e1, s1) => match bput e1 s1 (uAdd n 1) 0 with
  | (e2, s2) => match bget e2 s2 (uAdd q 1) with
  | (en, e3, s3) => match (if (en == 0) = true then bput e3 s3 q (uAdd n 1) else bput e3 s3 (uAdd (IntKind.u64.wrap (en - 1)) 1) (uAdd n 1)) with
  | (e4, s4) => match bput e4 s4 (uAdd q 1) (uAdd n 1) with
  | (e5, s5) => match bget e5 s5 (uAdd q 2) with
  | (c, e6, s6) => bput e6 s6 (uAdd q 2) (uAdd c 1)

def qTake (s : St) (a q : Int) : Int × Bool × Int × St :=
  match bget 0 s q with
  | (n, e0, s0) => if (e0 != 0) = true ∨ (n == 0) = true then (0, false, e0, s0) else
    match bget e0 s0 (IntKind.u64.wrap (n - 1)) with
    | (x, e1, s1) => match bget e1 s1 (uAdd (IntKind.u64.wrap (n - 1)) 1) with
    | (bh, e2, s2) => match bput e2 s2 q bh with
    | (e3, s3) => match (if (bh == 0) = true then bput e3 s3 (uAdd q 1) 0 else (e3, s3)) with
    | (e4, s4) => match bget e4 s4 (uAdd q 2) with
    | (c, e5, s5) => match bput e5 s5 (uAdd q 2) (IntKind.u64.wrap (c - 1)) with
    | (e6, s6) => match (if (e6 == 0) = true then rGive s6 a (IntKind.u64.wrap (n - 1)) 2 else (e6, s6)) with
    | (e7, s7) => if (e7 != 0) = true then (0, false, e7, s7) else (x, true, 0, s7)

def qFirst (s : St) (q : Int) : Int × Bool × Int × St :=
  match bget 0 s q with
  | (n, e0, s0) => if (e0 != 0) = true ∨ (n == 0) = true then (0, false, e0, s0) else
    match bget e0 s0 (IntKind.u64.wrap (n - 1)) with
    | (x, e1, s1) => (x, e1 == 0, e1, s1)

def qLen (s : St) (q : Int) : Int × Int × St := sget s (uAdd q 2)

/-- a chain's nodes: k: how many links more may be followed; n: the next link, b: the last one, en: where it should end -/
def qChain (many : Int) : Nat → Int → Int → Int → List Int → St → List Int × Int × Int × Int × St
  | 0, _, b, en, l, s => (l, b, en, 0, s)
  | k + 1, n, b, en, l, s =>
    if (n == 0) = true then (l, b, en, 0, s) else
    if ((l.length : Int) == many) = true then (l, b, uAdd b 1, 0, s) else
    match sget s (uAdd (IntKind.u64.wrap (n - 1)) 1) with
    | (m, e, s1) => if (e != 0) = false then qChain many k m n en (l ++ [IntKind.u64.wrap (n - 1)]) s1 else (l ++ [IntKind.u64.wrap (n - 1)], n, en, e, s1)

def qNodes (s : St) (q : Int) : List Int × Int × St :=
  match bget 0 s q with
  | (n, e0, s0) => match bget e0 s0 (uAdd q 2) with
  | (many, e1, s1) => match bget e1 s1 (uAdd q 1) with
  | (en, e2, s2) => if (e2 != 0) = true then ([], e2, s2) else
    match (if 65536 < many then ([], 0, 1, 0, s2) else qChain many 65538 n 0 en [] s2) with
    | (l, b, en2, e3, s3) => if (e3 != 0) = true then ([], e3, s3) else
      if (en2 != b) = true ∨ ((l.length : Int) != many) = true then ([], 330, s3) else (l, 0, s3)

/-- the words of nodes, from the first on -/
def qWordsGo : List Int → Int → St → List Int × Int × St
  | [], e, s => ([], e, s)
  | n :: l, e, s => match bget e s n with | (x, e1, s1) => match qWordsGo l e1 s1 with | (r, e2, s2) => (x :: r, e2, s2)
def qWords (s : St) (q : Int) : List Int × Int × St :=
  match qNodes s q with
  | (l, e, s1) => match qWordsGo l e s1 with | (r, e2, s2) => if (e2 != 0) = true then ([], e2, s2) else (r, 0, s2)

def qGiveGo (a : Int) : List Int → Int → St → Int × St
  | [], e, s => (e, s)
  | n :: l, e, s => match (if (e == 0) = true then rGive s a n 2 else (e, s)) with | (e1, s1) => qGiveGo a l e1 s1
def qDrop (s : St) (a q : Int) : Int × St :=
  match qNodes s q with
  | (l, e, s1) => match qGiveGo a l e s1 with
  | (e2, s2) => if (e2 == 0) = true then rGive s2 a q 3 else (e2, s2)

theorem bget_err {e : Int} {s s' : St} {a x e' : Int} (h : bget e s a = (x, e', s')) (he : e' ≠ 0) : x = 0 := by
  unfold bget at h
  split at h
  · unfold sget at h
    split at h
    · simp at h; exact h.1.symm
    · split at h
      · simp at h; exact h.1.symm
      · simp at h; exact absurd h.2.1.symm he
  · simp at h; exact h.1.symm
theorem qChain_end {many n b en : Int} {k : Nat} {l : List Int} {s : St} (h : n = 0) : qChain many k n b en l s = (l, b, en, 0, s) := by
  cases k
  · rfl
  · rw [qChain, if_pos (by simpa using h)]
theorem qChain_long {many n b en : Int} {k : Nat} {l : List Int} {s : St} (h : n ≠ 0) (hl : (l.length : Int) = many) : qChain many (k + 1) n b en l s = (l, b, uAdd b 1, 0, s) := by
  rw [qChain, if_neg (by simpa using h), if_pos (by simpa using hl)]
theorem qChain_step {many n b en : Int} {k : Nat} {l : List Int} {s : St} {m e : Int} {s1 : St} (h : n ≠ 0) (hl : (l.length : Int) ≠ many) (hq : bget 0 s (uAdd (IntKind.u64.wrap (n - 1)) 1) = (m, e, s1)) :
    qChain many (k + 1) n b en l s = if e = 0 then qChain many k m n en (l ++ [IntKind.u64.wrap (n - 1)]) s1 else (l ++ [IntKind.u64.wrap (n - 1)], n, en, e, s1) := by
  have hq : sget s (uAdd (IntKind.u64.wrap (n - 1)) 1) = (m, e, s1) := by unfold bget at hq; rwa [if_pos (by decide)] at hq
  rw [qChain, if_neg (by simpa using h), if_neg (by simpa using hl), hq]
  simp only
  by_cases he : e = 0
  · rw [if_pos (by simpa using he), if_pos he]
  · rw [if_neg (by simpa using he), if_neg he]

/-- What is told of a chain at its end. -/
def chEnd (many : Int) (r : List Int × Int × Int × Int × St) : List Int × Int × St :=
  match r with
  | (l, b, en2, e3, s3) => if (e3 != 0) = true then ([], e3, s3) else if (en2 != b) = true ∨ ((l.length : Int) != many) = true then ([], 330, s3) else (l, 0, s3)

end Go.Proofs.Ytcgdpclhlepofaa
