/- The list's calls, as plain functions of words: what each answers, what stands behind it. No program in sight. -/
import Derived.Test.YtcohopobjppmaaaRoomFn
namespace Go.Proofs.Ytcohopobjppmaaa
open Go.RowKit
set_option linter.unusedVariables false

/-- a hand: e is the first error -/
def hget (s : St) (e a : Int) : Int × Int × St :=
  if e ≠ 0 then (0, e, s) else
  match sget s a with
  | (x, er, s1) => if er ≠ 0 then (0, er, s1) else (x, 0, s1)
def hput (s : St) (e a x : Int) : Int × St := if e = 0 then sput s a x else (e, s)
def htake (s : St) (e a z : Int) : Int × Int × St := if e ≠ 0 then (0, e, s) else rTake s a z
def hgive (s : St) (e a p z : Int) : Int × St := if e = 0 then rGive s a p z else (e, s)
def hbad (e : Int) : Int := if e = 0 then 310 else e
theorem hget_no {s : St} {e : Int} (h : e ≠ 0) (a : Int) : hget s e a = (0, e, s) := if_pos h
theorem hget_er {s s1 : St} {a x er : Int} (h : sget s a = (x, er, s1)) (he : er ≠ 0) : hget s 0 a = (0, er, s1) := by unfold hget; rw [if_neg (by simp), h]; simp only; rw [if_pos he]
theorem hget_ok {s s1 : St} {a x : Int} (h : sget s a = (x, 0, s1)) : hget s 0 a = (x, 0, s1) := by unfold hget; rw [if_neg (by simp), h]; simp
theorem hput_no {s : St} {e : Int} (h : e ≠ 0) (a x : Int) : hput s e a x = (e, s) := if_neg h
theorem hput_ok (s : St) (a x : Int) : hput s 0 a x = sput s a x := if_pos rfl
theorem htake_no {s : St} {e : Int} (h : e ≠ 0) (a z : Int) : htake s e a z = (0, e, s) := if_pos h
theorem htake_ok (s : St) (a z : Int) : htake s 0 a z = rTake s a z := if_neg (by simp)
theorem hgive_no {s : St} {e : Int} (h : e ≠ 0) (a p z : Int) : hgive s e a p z = (e, s) := if_neg h
theorem hgive_ok (s : St) (a p z : Int) : hgive s 0 a p z = rGive s a p z := if_pos rfl

/-- where a search has ended: the cell that leads on, the node (plus 1), its key, how many nodes are ahead -/
structure Pl where
  from_ : Int
  next : Int
  key : Int
  ahead : Int
/-- k: how many rounds more there may be; ks: the keys that were asked about -/
def fGo (q : Int → Bool) (count : Int) : Nat → Int → Pl → List Int → Int → St → Option (Pl × List Int × Int × St)
  | 0, _, _, _, _, _ => none
  | k + 1, last, p, ks, e, s =>
    match hget s e p.from_ with
    | (nx, e1, s1) =>
      if e1 ≠ 0 then some ({ p with next := nx }, ks, e1, s1)
      else if nx = 0 then some ({ p with next := nx }, ks, if p.ahead = count then 0 else 310, s1)
      else match hget s1 0 (IntKind.u64.wrap (nx - 1)) with
      | (key, e2, s2) =>
        if e2 ≠ 0 then some ({ p with next := nx, key := key }, ks, e2, s2)
        else if count ≤ p.ahead ∨ 0 < p.ahead ∧ key ≤ last then some ({ p with next := nx, key := key }, ks, 310, s2)
        else if q key = false then some ({ p with next := nx, key := key }, ks ++ [key], 0, s2)
        else fGo q count k key { from_ := nx, next := nx, key := key, ahead := uAdd p.ahead 1 } (ks ++ [key]) 0 s2
def hfind (q : Int → Bool) (k : Nat) (s : St) (e l : Int) : Option (Pl × List Int × Int × St) :=
  match hget s e l with
  | (count, e1, s1) => fGo q count k 0 { from_ := uAdd l 1, next := 0, key := 0, ahead := 0 } [] e1 s1
section
variable {q : Int → Bool} {count last nx e e1 e2 key : Int} {k : Nat} {p : Pl} {ks : List Int} {s s1 s2 : St}
theorem fGo_e1 (h : hget s e p.from_ = (nx, e1, s1)) (he : e1 ≠ 0) : fGo q count (k + 1) last p ks e s = some ({ p with next := nx }, ks, e1, s1) := by
  rw [fGo, h]; simp only; rw [if_pos he]
theorem fGo_end (h : hget s e p.from_ = (0, 0, s1)) : fGo q count (k + 1) last p ks e s = some ({ p with next := 0 }, ks, if p.ahead = count then 0 else 310, s1) := by
  rw [fGo, h]; simp
theorem fGo_e2 (h : hget s e p.from_ = (nx, 0, s1)) (hn : nx ≠ 0) (h2 : hget s1 0 (IntKind.u64.wrap (nx - 1)) = (key, e2, s2)) (he : e2 ≠ 0) : fGo q count (k + 1) last p ks e s = some ({ p with next := nx, key := key }, ks, e2, s2) := by
  rw [fGo, h]; simp only; rw [if_neg (by simp), if_neg hn, h2]; simp only; rw [if_pos he]
theorem fGo_bad (h : hget s e p.from_ = (nx, 0, s1)) (hn : nx ≠ 0) (h2 : hget s1 0 (IntKind.u64.wrap (nx - 1)) = (key, 0, s2)) (hb : count ≤ p.ahead ∨ 0 < p.ahead ∧ key ≤ last) : fGo q count (k + 1) last p ks e s = some ({ p with next := nx, key := key }, ks, 310, s2) := by
  rw [fGo, h]; simp only; rw [if_neg (by simp), if_neg hn, h2]; simp only; rw [if_neg (by simp), if_pos hb]
theorem fGo_stop (h : hget s e p.from_ = (nx, 0, s1)) (hn : nx ≠ 0) (h2 : hget s1 0 (IntKind.u64.wrap (nx - 1)) = (key, 0, s2)) (hb : ¬ (count ≤ p.ahead ∨ 0 < p.ahead ∧ key ≤ last)) (hq : q key = false) : fGo q count (k + 1) last p ks e s = some ({ p with next := nx, key := key }, ks ++ [key], 0, s2) := by
  rw [fGo, h]; simp only; rw [if_neg (by simp), if_neg hn, h2]; simp only; rw [if_neg (by simp), if_neg hb, if_pos hq]
theorem fGo_on (h : hget s e p.from_ = (nx, 0, s1)) (hn : nx ≠ 0) (h2 : hget s1 0 (IntKind.u64.wrap (nx - 1)) = (key, 0, s2)) (hb : ¬ (count ≤ p.ahead ∨ 0 < p.ahead ∧ key ≤ last)) (hq : q key = true) : fGo q count (k + 1) last p ks e s = fGo q count k key { from_ := nx, next := nx, key := key, ahead := uAdd p.ahead 1 } (ks ++ [key]) 0 s2 := by
  rw [fGo, h]; simp only; rw [if_neg (by simp), if_neg hn, h2]; simp only; rw [if_neg (by simp), if_neg hb, if_neg (by simp [hq])]
end
/-! The calls. -/
def lNew (s : St) (a : Int) : Int × Int × St :=
  match htake s 0 a 2 with
  | (l, e1, s1) => match hput s1 e1 l 0 with
    | (e2, s2) => match hput s2 e2 (uAdd l 1) 0 with
      | (e3, s3) => if e3 ≠ 0 then (0, e3, s3) else (l, 0, s3)
/-- behind the search: p, e -/
def lIns (p : Pl) (e : Int) (s : St) (a l key : Int) : Bool × Int × St :=
  match htake s e a 2 with
  | (n, e2, s2) => match hget s2 e2 l with
    | (count, e3, s3) => match hput s3 e3 n key with
      | (e4, s4) => match hput s4 e4 (uAdd n 1) p.next with
        | (e5, s5) => match hput s5 e5 p.from_ (uAdd n 1) with
          | (e6, s6) => match hput s6 e6 l (uAdd count 1) with
            | (e7, s7) => (e7 == 0, e7, s7)
def there (p : Pl) (key e : Int) : Bool := e == 0 && p.next != 0 && p.key == key
def lInsR (p : Pl) (e : Int) (s : St) (a l key : Int) : Bool × Int × St := if e ≠ 0 ∨ there p key e = true then (false, e, s) else lIns p e s a l key
def lRem (p : Pl) (e : Int) (s : St) (a l : Int) : Bool × Int × St :=
  match hget s e p.next with
  | (x, e2, s2) => match hput s2 e2 p.from_ x with
    | (e3, s3) => match hget s3 e3 l with
      | (c, e4, s4) => match hput s4 e4 l (IntKind.u64.wrap (c - 1)) with
        | (e5, s5) => match hgive s5 e5 a (IntKind.u64.wrap (p.next - 1)) 2 with
          | (e6, s6) => (e6 == 0, e6, s6)
def lRemR (p : Pl) (e : Int) (s : St) (a l key : Int) : Bool × Int × St := if e ≠ 0 ∨ there p key e = false then (false, e, s) else lRem p e s a l
/-- where so many nodes more lie -/
def nodesGo : Nat → Int → List Int → Int → St → List Int × Int × St
  | 0, _, out, e, s => (out, e, s)
  | k + 1, a, out, e, s => if e ≠ 0 then ([], e, s) else
    match hget s e a with
    | (x, e1, s1) => nodesGo k x (out ++ [IntKind.u64.wrap (a - 1)]) e1 s1
def nodesR (k : Nat) (e : Int) (s : St) (l : Int) : List Int × Int × St :=
  match hget s e (uAdd l 1) with
  | (a, e1, s1) => nodesGo k a [] e1 s1
theorem nodesGo_no {k : Nat} {a e : Int} {out : List Int} {s : St} (h : e ≠ 0) : nodesGo (k + 1) a out e s = ([], e, s) := if_pos h
theorem nodesGo_on {k : Nat} {a x e1 : Int} {out : List Int} {s s1 : St} (h : hget s 0 a = (x, e1, s1)) : nodesGo (k + 1) a out 0 s = nodesGo k x (out ++ [IntKind.u64.wrap (a - 1)]) e1 s1 := by
  rw [nodesGo, if_neg (by simp), h]
theorem nodesGo_bd : ∀ (k : Nat) (a e : Int) (out : List Int) (s : St), (∀ x ∈ out, 0 ≤ x ∧ x ≤ 18446744073709551615) → ∀ x ∈ (nodesGo k a out e s).1, 0 ≤ x ∧ x ≤ 18446744073709551615
  | 0, _, _, _, _, h => h
  | k + 1, a, e, out, s, h => by
    rw [nodesGo]
    split
    · intro x hx; simp at hx
    · split
      refine nodesGo_bd k _ _ _ _ fun x hx => ?_
      rcases List.mem_append.1 hx with hx | hx
      · exact h x hx
      · obtain rfl : x = IntKind.u64.wrap (a - 1) := by simpa using hx
        rw [IntKind.wrap_u64]; omega
theorem nodesR_bd (k : Nat) (e l : Int) (s : St) : ∀ x ∈ (nodesR k e s l).1, 0 ≤ x ∧ x ≤ 18446744073709551615 := by
  unfold nodesR
  split
  exact nodesGo_bd _ _ _ _ _ (by simp)
/-- nodes given back, one behind the other -/
def giveAll (a : Int) : List Int → Int → St → Int × St
  | [], e, s => (e, s)
  | p :: ps, e, s => match hgive s e a p 2 with
    | (e1, s1) => giveAll a ps e1 s1
/-- behind the search -/
def lClr (k : Nat) (e : Int) (s : St) (a l : Int) : Int × Int × St :=
  match nodesR k e s l with
  | (ns, e2, s2) => match hput s2 e2 l 0 with
    | (e3, s3) => match hput s3 e3 (uAdd l 1) 0 with
      | (e4, s4) => match giveAll a ns e4 s4 with
        | (e5, s5) => if e5 ≠ 0 then (0, e5, s5) else ((ns.length : Int), 0, s5)
end Go.Proofs.Ytcohopobjppmaaa
