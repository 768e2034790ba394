/- Histories, plain: an event in form, what is wrong with the next one, the state behind it. No program in sight. -/
namespace Go.Proofs.Ytloiadhdkgkjkaa
set_option linter.unusedVariables false

structure Ev where
  th : Int
  kd : Int
  ad : Int
  wd : Int
  ow : Bool
  er : Int

def Ev.zero : Ev := ⟨0, 0, 0, 0, false, 0⟩
def pairK (k : Int) : Bool := k == 2 || k == 3 || k == 10 || k == 11
def singK (k : Int) : Bool := k == 1 || k == 4 || k == 6
/-- In form. -/
def fmd (e : Ev) : Bool :=
  decide (0 ≤ e.th) && decide (e.th < 8) && decide (1 ≤ e.kd) && decide (e.kd ≤ 12) && (pairK e.kd || e.ad == 0) && (pairK e.kd || singK e.kd || e.wd == 0) && (e.kd == 2 || !e.ow) &&
    (!(e.kd == 1 || e.kd == 4) || e.wd % 2 == 0) && (if e.kd = 9 then decide (4 ≤ e.er) && decide (e.er ≤ 6) else e.er == 0)

structure Tr where
  th : Int
  first : Nat
  last : Nat
  sn : Int
  how : Int
  rd : Nat
  wr : Nat
structure Th where
  how : Nat
  sn : Int
  ws : List (Int × Int)
  tr : Nat
structure St where
  th : Nat → Th
  num : Int
  hold : Int
  tries : List Tr

/-- How a thread is behind an event, and 1; 0: it may not have it. -/
def tb (how : Nat) (k : Int) : Nat :=
  if how = 0 then (if k = 1 then 2 else if k = 10 ∨ k = 11 then 1 else if k = 9 ∨ k = 12 then 4 else 0)
  else if how = 1 then (if k = 2 ∨ k = 3 ∨ k = 4 then 2 else if k = 5 then 3 else if k = 6 ∨ k = 7 ∨ k = 8 then 1 else if k = 9 then 4 else 0)
  else if how = 2 then (if k = 6 then 1 else 0)
  else 0
theorem tb_lt (how : Nat) (k : Int) : tb how k ≤ 4 := by
  unfold tb
  repeat' split
  all_goals omega

/-- The last word written at an address. -/
def written (l : List (Int × Int)) (a : Int) : Option Int := (l.reverse.find? fun p => p.1 == a).map (·.2)
theorem written_nil (a : Int) : written [] a = none := rfl
theorem written_snoc (l : List (Int × Int)) (p : Int × Int) (a : Int) : written (l ++ [p]) a = if p.1 = a then some p.2 else written l a := by
  unfold written
  rw [List.reverse_append, List.reverse_singleton, List.singleton_append, List.find?_cons]
  by_cases h : p.1 = a
  · simp [h]
  · rw [if_neg h, show (p.1 == a) = false by simpa using h]
theorem written_none {l : List (Int × Int)} : (∀ a, written l a = none) ↔ l = [] := by
  constructor
  · intro h
    cases hl : l.reverse with
    | nil => simpa using hl
    | cons p r =>
      have := h p.1
      unfold written at this
      rw [hl] at this
      simp at this
  · rintro rfl a
    rfl

def wordOk (t : Th) (num : Int) (e : Ev) : Bool :=
  if e.kd = 1 then e.wd == 2 * num
  else if e.kd = 4 then e.wd == 2 * num && decide (t.sn < e.wd)
  else if e.kd = 5 then t.sn == 2 * num
  else if e.kd = 6 then (if t.how = 2 then e.wd == num + 1 else e.wd == t.sn / 2)
  else true
def ownOk (t : Th) (e : Ev) : Bool :=
  if e.kd = 2 then (match written t.ws e.ad with | some x => e.ow && x == e.wd | none => !e.ow)
  else if e.kd = 5 then !t.ws.isEmpty
  else if e.kd = 6 then (decide (t.how = 2) || t.ws.isEmpty)
  else true
def lockK (k : Int) : Bool := k == 1 || k == 4 || k == 5

/-- What is wrong with the next event; lk: is the lock held by another one? -/
def wrg (t : Th) (num : Int) (lk : Bool) (e : Ev) : Int :=
  if fmd e = false then 201
  else if tb t.how e.kd = 0 ∨ (t.how = 0 ∧ e.kd = 9 ∧ e.er ≠ 4) then 230
  else if (lockK e.kd && lk) = true then 231
  else if wordOk t num e = false then 232
  else if ownOk t e = false then 233
  else 0
def wrong (s : St) (e : Ev) : Int := wrg (s.th e.th.toNat) s.num (decide (0 ≤ s.hold)) e

/-- The thread behind an event that can be. -/
def tkT (t : Th) (e : Ev) (n : Nat) : Th :=
  { how := tb t.how e.kd - 1
    sn := if e.kd = 1 ∨ e.kd = 4 then e.wd else t.sn
    ws := if e.kd = 1 then [] else if e.kd = 3 then t.ws ++ [(e.ad, e.wd)] else t.ws
    tr := if e.kd = 1 then n else t.tr }
def updT (x : Tr) (i : Nat) (e : Ev) : Tr :=
  { th := x.th, first := x.first, last := i
    sn := if e.kd = 1 ∨ e.kd = 4 then e.wd else x.sn
    how := if e.kd = 6 ∨ e.kd = 7 ∨ e.kd = 8 ∨ e.kd = 9 then e.kd else x.how
    rd := if e.kd = 2 ∧ e.ow = false then x.rd + 1 else x.rd
    wr := if e.kd = 3 then x.wr + 1 else x.wr }
def Tr.new (th : Int) (i : Nat) : Tr := ⟨th, i, 0, 0, 0, 0, 0⟩
def Tr.zero : Tr := ⟨0, 0, 0, 0, 0, 0, 0⟩
def modAt {α : Type} (l : List α) (i : Nat) (f : α → α) : List α := l.modify i f
def take (s : St) (i : Nat) (e : Ev) : St :=
  let k := e.th.toNat
  let t := s.th k
  let t' := tkT t e s.tries.length
  let l1 := if e.kd = 1 then s.tries ++ [Tr.new e.th i] else s.tries
  { th := fun j => if j = k then t' else s.th j
    num := if e.kd = 6 ∧ t.how = 2 then e.wd else s.num
    hold := if e.kd = 5 then e.th else if e.kd = 6 ∧ t.how = 2 then -1 else s.hold
    tries := if t.how ≠ 0 ∨ e.kd = 1 then l1.modify t'.tr (fun x => updT x i e) else l1 }
def St.zero : St := ⟨fun _ => ⟨0, 0, [], 0⟩, 0, -1, []⟩
def evAt (l : List Ev) (i : Nat) : Ev := l.getD i Ev.zero
/-- The state behind the first n events. -/
def rn (l : List Ev) : Nat → St
  | 0 => St.zero
  | i + 1 => take (rn l i) i (evAt l i)
/-- The first n events can be. -/
def okTo (l : List Ev) (n : Nat) : Prop := ∀ j, j < n → wrong (rn l j) (evAt l j) = 0
/-- What a look over a history answers: the first event that can't be, its error. -/
def oddIn (l : List Ev) : Nat → Nat → Int × Int
  | _, 0 => (-1, 0)
  | i, fuel + 1 => if wrong (rn l i) (evAt l i) = 0 then oddIn l (i + 1) fuel else (i, wrong (rn l i) (evAt l i))
def odd (l : List Ev) : Int × Int := oddIn l 0 l.length
theorem oddIn_ok {l : List Ev} : ∀ {fuel i : Nat}, (∀ j, i ≤ j → j < i + fuel → wrong (rn l j) (evAt l j) = 0) → oddIn l i fuel = (-1, 0)
  | 0, _, _ => rfl
  | fuel + 1, i, h => by
    unfold oddIn
    rw [if_pos (h i (Nat.le_refl _) (by omega))]
    exact oddIn_ok fun j h1 h2 => h j (by omega) (by omega)
theorem odd_ok {l : List Ev} (h : okTo l l.length) : odd l = (-1, 0) := oddIn_ok fun j _ h2 => h j (by omega)
theorem oddIn_bad {l : List Ev} : ∀ {fuel i n : Nat}, (∀ j, i ≤ j → j < n → wrong (rn l j) (evAt l j) = 0) → i ≤ n → n < i + fuel → wrong (rn l n) (evAt l n) ≠ 0 → oddIn l i fuel = ((n : Int), wrong (rn l n) (evAt l n))
  | 0, i, n, _, h1, h2, _ => by omega
  | fuel + 1, i, n, h, h1, h2, h3 => by
    unfold oddIn
    by_cases e : i = n
    · subst e
      rw [if_neg h3]
    · rw [if_pos (h i (Nat.le_refl _) (by omega))]
      exact oddIn_bad (fun j h1 h2 => h j (by omega) h2) (by omega) (by omega) h3
theorem odd_bad {l : List Ev} {n : Nat} (h : okTo l n) (hn : n < l.length) (h3 : wrong (rn l n) (evAt l n) ≠ 0) : odd l = ((n : Int), wrong (rn l n) (evAt l n)) :=
  oddIn_bad (fun j _ h2 => h j h2) (Nat.zero_le _) (by omega) h3
theorem okTo.succ {l : List Ev} {n : Nat} (h : okTo l n) (h1 : wrong (rn l n) (evAt l n) = 0) : okTo l (n + 1) := fun j hj => by
  by_cases e : j = n
  · subst e; exact h1
  · exact h j (by omega)
end Go.Proofs.Ytloiadhdkgkjkaa
