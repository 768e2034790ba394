/- The room's calls where none is refused, and what they keep: pieces that are out or were given back never have a cell in common. No program in sight. -/
import Derived.Test.YthabfblcmbjlnaaRoomFn
namespace Go.Proofs.Ythabfblcmbjlnaa
open Go.RowKit
set_option linter.unusedVariables false

/-- No call is refused for so many more. -/
def Live (s : St) (m : Int) : Prop := -m ≤ s.left ∧ s.left ≤ -1
def tick (s : St) : St := { s with calls := wrap64 (s.calls + 1), left := wrap64 (s.left - 1) }
theorem wrap64_id {x : Int} (h1 : -9223372036854775808 ≤ x) (h2 : x ≤ 9223372036854775807) : wrap64 x = x := by unfold wrap64; omega
theorem Live.tick {s : St} {m : Int} (h : Live s m) (hm : m ≤ 4611686018427387904) : Live (tick s) (m + 1) := by
  obtain ⟨h1, h2⟩ := h
  unfold Live Go.Proofs.Ythabfblcmbjlnaa.tick
  simp only
  rw [wrap64_id (by omega) (by omega)]
  omega
theorem Live.put {s : St} {m : Int} (h : Live s m) (W : List Int) : Live { s with W := W } m := h
theorem sget_live {s : St} {m : Int} (h : Live s m) {a : Int} (ha : a < s.W.length) : sget s a = (s.W.getD a.toNat 0, 0, tick s) := by
  obtain ⟨h1, h2⟩ := h
  unfold sget
  rw [if_neg (by omega), if_neg (by omega)]
  rfl
theorem sput_live {s : St} {m : Int} (h : Live s m) {a : Int} (ha : a < s.W.length) (x : Int) : sput s a x = (0, { tick s with W := s.W.set a.toNat x }) := by
  obtain ⟨h1, h2⟩ := h
  unfold sput
  rw [if_neg (by omega), if_neg (by omega)]
  rfl
theorem uAdd_id {a b : Int} (h1 : 0 ≤ a + b) (h2 : a + b ≤ 18446744073709551615) : uAdd a b = a + b := by unfold uAdd; rw [wrap_u64_mod]; omega
theorem uw_id {a : Int} (h1 : 0 ≤ a) (h2 : a ≤ 18446744073709551615) : IntKind.u64.wrap a = a := by rw [wrap_u64_mod]; omega

/-- the cell of the pieces of size z that were given back -/
def hd (z : Int) : Nat := (1 + z).toNat

theorem getD_set_ (l : List Int) (i j : Nat) (x : Int) : (l.set i x).getD j 0 = if i = j ∧ j < l.length then x else l.getD j 0 := by
  rw [List.getD_eq_getElem?_getD, List.getD_eq_getElem?_getD, List.getElem?_set]
  by_cases h : i = j
  · subst h
    by_cases h2 : i < l.length
    · simp [h2]
    · simp [h2]
  · simp [h]
theorem getD_ne {l : List Int} {i j : Nat} (x : Int) (h : i ≠ j) : (l.set i x).getD j 0 = l.getD j 0 := by rw [getD_set_, if_neg (by omega)]
theorem getD_eq {l : List Int} {i : Nat} (x : Int) (h : i < l.length) : (l.set i x).getD i 0 = x := by rw [getD_set_, if_pos ⟨rfl, h⟩]

theorem layGo_live : ∀ (k : Nat) (a : Int) (s : St) (m : Int), Live s m → m + k ≤ 4611686018427387904 → 0 ≤ a → a + k ≤ s.W.length → (s.W.length : Int) ≤ 9223372036854775807 →
    ∃ s', layGo k a s = (0, s') ∧ Live s' (m + k) ∧ s'.code = s.code ∧ s'.W.length = s.W.length ∧ ∀ j, s'.W.getD j 0 = if a.toNat ≤ j ∧ j < a.toNat + k then 0 else s.W.getD j 0
  | 0, a, s, m, h, hm, ha, hl, _ => ⟨s, rfl, by simpa using h, rfl, rfl, fun j => by rw [if_neg (by omega)]⟩
  | k + 1, a, s, m, h, hm, ha, hl, hl2 => by
    obtain ⟨s', h1, h2, h3, h4, h5⟩ := layGo_live k (a + 1) { tick s with W := s.W.set a.toNat 0 } (m + 1) ((h.tick (by omega)).put _) (by omega) (by omega) (by simp; omega) (by simpa using hl2)
    refine ⟨s', ?_, by rw [show m + ((k + 1 : Nat) : Int) = m + 1 + k by omega]; exact h2, h3, by simpa using h4, fun j => ?_⟩
    · rw [layGo, sput_live h (by omega)]
      simp only [bne_self_eq_false, if_true]
      rw [uAdd_id (by omega) (by omega)]
      exact h1
    · rw [h5, show (a + 1).toNat = a.toNat + 1 by omega]
      simp only
      rw [getD_set_]
      have : a.toNat < s.W.length := by omega
      split
      · rw [if_pos (by omega)]
      · split
        · rw [if_pos (by omega)]
        · rw [if_neg (by omega)]

theorem rLay_live {s : St} {m x y : Int} (h : Live s m) (hm : m ≤ 4611686018427380000) (hl : 18 ≤ s.W.length) (hl2 : (s.W.length : Int) ≤ 9223372036854775807) (hxy : x ≤ y) :
    ∃ s', rLay s 0 x y = (0, s') ∧ Live s' (m + 18) ∧ s'.code = s.code ∧ s'.W.length = s.W.length ∧ ∀ j, s'.W.getD j 0 = if j = 0 then x else if j = 1 then y else if j < 18 then 0 else s.W.getD j 0 := by
  obtain ⟨s', h1, h2, h3, h4, h5⟩ := layGo_live 16 2 { tick { tick s with W := s.W.set 0 x } with W := (s.W.set 0 x).set 1 y } (m + 2)
    (by have := ((h.tick (by omega)).put (s.W.set 0 x)).tick (by omega); rw [show m + 2 = m + 1 + 1 by omega]; exact this.put _) (by omega) (by omega) (by show (2 : Int) + (16 : Nat) ≤ (((s.W.set 0 x).set 1 y).length : Int); simp; omega) (by show (((s.W.set 0 x).set 1 y).length : Int) ≤ _; simpa using hl2)
  refine ⟨s', ?_, by rw [show m + 18 = m + 2 + ((16 : Nat) : Int) by omega]; exact h2, h3, by simpa using h4, fun j => ?_⟩
  · unfold rLay
    rw [if_neg (by omega), sput_live h (by omega)]
    simp only [bne_self_eq_false, if_true]
    rw [uAdd_id (by omega) (by omega), sput_live ((h.tick (by omega)).put _) (by simp; omega)]
    simp only [bne_self_eq_false, if_true]
    rw [uAdd_id (by omega) (by omega)]
    exact h1
  · rw [h5]
    have e : ({ tick { tick s with W := s.W.set 0 x } with W := (s.W.set 0 x).set 1 y } : St).W = (s.W.set 0 x).set 1 y := rfl
    rw [e]
    by_cases j0 : j = 0
    · subst j0
      rw [if_neg (by omega), if_pos rfl, getD_ne _ (by omega), getD_eq _ (by omega)]
    · rw [if_neg j0]
      by_cases j1 : j = 1
      · subst j1
        rw [if_neg (by omega), if_pos rfl, getD_eq _ (by simp; omega)]
      · rw [if_neg j1]
        by_cases j2 : j < 18
        · rw [if_pos j2, if_pos (by omega)]
        · rw [if_neg j2, if_neg (by omega), getD_ne _ (by omega), getD_ne _ (by omega)]

/-- A piece is given back. -/
theorem rGive_live {s : St} {m p z : Int} (h : Live s m) (hm : m ≤ 4611686018427380000) (hz : 1 ≤ z) (hz2 : z ≤ 16) (hl : 18 ≤ s.W.length) (hl2 : (s.W.length : Int) ≤ 4611686018427387904) (hp : 0 ≤ p) (hp2 : p < s.W.length) :
    ∃ s', rGive s 0 p z = (0, s') ∧ Live s' (m + 3) ∧ s'.code = s.code ∧ s'.W = (s.W.set p.toNat (s.W.getD (hd z) 0)).set (hd z) (p + 1) := by
  have e1 : uAdd (uAdd 0 1) z = 1 + z := by rw [uAdd_uAdd, uAdd_id (by omega) (by omega)]; omega
  have L1 := h.tick (by omega)
  have L2 := (L1.tick (by omega)).put (s.W.set p.toNat (s.W.getD (hd z) 0))
  have L3 := (L2.tick (by omega)).put ((s.W.set p.toNat (s.W.getD (hd z) 0)).set (hd z) (p + 1))
  refine ⟨{ tick { tick (tick s) with W := s.W.set p.toNat (s.W.getD (hd z) 0) } with W := (s.W.set p.toNat (s.W.getD (hd z) 0)).set (hd z) (p + 1) }, ?_, by rw [show m + 3 = m + 1 + 1 + 1 by omega]; exact L3, rfl, rfl⟩
  unfold rGive
  rw [if_neg (by omega), e1, sget_live h (by omega)]
  simp only [bne_self_eq_false, if_true]
  rw [sput_live L1 (by show p < s.W.length; omega)]
  simp only [bne_self_eq_false, if_true]
  rw [uAdd_id (by omega) (by omega)]
  exact sput_live L2 (by simp; omega) (p + 1)

/-- A piece is taken: one of its size that was given back, else of the cells that are left. -/
theorem rTake_back {s : St} {m z : Int} (h : Live s m) (hm : m ≤ 4611686018427380000) (hz : 1 ≤ z) (hz2 : z ≤ 16) (hl : 18 ≤ s.W.length) (hl2 : (s.W.length : Int) ≤ 4611686018427387904) (hx : 1 ≤ s.W.getD (hd z) 0) (hx2 : s.W.getD (hd z) 0 ≤ s.W.length) :
    ∃ s', rTake s 0 z = (s.W.getD (hd z) 0 - 1, 0, s') ∧ Live s' (m + 3) ∧ s'.code = s.code ∧ s'.W = s.W.set (hd z) (s.W.getD (s.W.getD (hd z) 0 - 1).toNat 0) := by
  have e1 : uAdd (uAdd 0 1) z = 1 + z := by rw [uAdd_uAdd, uAdd_id (by omega) (by omega)]; omega
  have L1 := h.tick (by omega)
  have L2 := L1.tick (by omega)
  have L3 := (L2.tick (by omega)).put (s.W.set (hd z) (s.W.getD (s.W.getD (hd z) 0 - 1).toNat 0))
  refine ⟨{ tick (tick (tick s)) with W := s.W.set (hd z) (s.W.getD (s.W.getD (hd z) 0 - 1).toNat 0) }, ?_, by rw [show m + 3 = m + 1 + 1 + 1 by omega]; exact L3, rfl, rfl⟩
  have e2 : (s.W.getD (1 + z).toNat 0 != 0) = true := by show (s.W.getD (hd z) 0 != 0) = true; rw [bne_iff_ne]; omega
  unfold rTake
  rw [if_neg (by omega), e1, sget_live h (by omega)]
  simp only [bne_self_eq_false, if_true, e2, if_false, Bool.true_eq_false]
  rw [show s.W.getD (1 + z).toNat 0 = s.W.getD (hd z) 0 from rfl, uw_id (by omega) (by omega), sget_live L1 (by show _ < (s.W.length : Int); omega)]
  simp only [bne_self_eq_false, if_true]
  rw [sput_live L2 (by show _ < (s.W.length : Int); omega)]
  rfl

theorem rTake_new {s : St} {m z : Int} (h : Live s m) (hm : m ≤ 4611686018427380000) (hz : 1 ≤ z) (hz2 : z ≤ 16) (hl : 18 ≤ s.W.length) (hl2 : (s.W.length : Int) ≤ 4611686018427387904) (hx : s.W.getD (hd z) 0 = 0) (hn : s.W.getD 0 0 + z ≤ s.W.getD 1 0) :
    ∃ s', rTake s 0 z = (s.W.getD 0 0, 0, s') ∧ Live s' (m + 4) ∧ s'.code = s.code ∧ s'.W = s.W.set 0 (s.W.getD 0 0 + z) := by
  have e1 : uAdd (uAdd 0 1) z = 1 + z := by rw [uAdd_uAdd, uAdd_id (by omega) (by omega)]; omega
  have L1 := h.tick (by omega)
  have L2 := L1.tick (by omega)
  have L3 := L2.tick (by omega)
  have L4 := (L3.tick (by omega)).put (s.W.set 0 (s.W.getD 0 0 + z))
  refine ⟨{ tick (tick (tick (tick s))) with W := s.W.set 0 (s.W.getD 0 0 + z) }, ?_, by rw [show m + 4 = m + 1 + 1 + 1 + 1 by omega]; exact L4, rfl, rfl⟩
  have e2 : (s.W.getD (1 + z).toNat 0 != 0) = false := by show (s.W.getD (hd z) 0 != 0) = false; rw [hx]; rfl
  unfold rTake
  rw [if_neg (by omega), e1, sget_live h (by omega)]
  simp only [bne_self_eq_false, if_true, e2]
  rw [sget_live L1 (by show _ < (s.W.length : Int); omega)]
  simp only [bne_self_eq_false, if_true]
  rw [uAdd_id (by omega) (by omega), sget_live L2 (by show _ < (s.W.length : Int); omega)]
  simp only [bne_self_eq_false, if_true]
  have e3 : (tick s).W.getD (0 : Int).toNat 0 = s.W.getD 0 0 := rfl
  have e4 : (tick (tick s)).W.getD (0 + 1 : Int).toNat 0 = s.W.getD 1 0 := rfl
  rw [e3, e4, if_neg (by omega), sput_live L3 (by show _ < (s.W.length : Int); omega)]
  rfl

theorem rTake_none {s : St} {m z : Int} (h : Live s m) (hm : m ≤ 4611686018427380000) (hz : 1 ≤ z) (hz2 : z ≤ 16) (hl : 18 ≤ s.W.length) (hl2 : (s.W.length : Int) ≤ 4611686018427387904) (hx : s.W.getD (hd z) 0 = 0) (hn : s.W.getD 1 0 < s.W.getD 0 0 + z) :
    ∃ s', rTake s 0 z = (0, 9, s') ∧ Live s' (m + 4) ∧ s'.code = s.code ∧ s'.W = s.W := by
  have e1 : uAdd (uAdd 0 1) z = 1 + z := by rw [uAdd_uAdd, uAdd_id (by omega) (by omega)]; omega
  have L1 := h.tick (by omega)
  have L2 := L1.tick (by omega)
  have L3 := L2.tick (by omega)
  refine ⟨tick (tick (tick s)), ?_, ?_, rfl, rfl⟩
  · have e2 : (s.W.getD (1 + z).toNat 0 != 0) = false := by show (s.W.getD (hd z) 0 != 0) = false; rw [hx]; rfl
    unfold rTake
    rw [if_neg (by omega), e1, sget_live h (by omega)]
    simp only [bne_self_eq_false, if_true, e2]
    rw [sget_live L1 (by show _ < (s.W.length : Int); omega)]
    simp only [bne_self_eq_false, if_true]
    rw [uAdd_id (by omega) (by omega), sget_live L2 (by show _ < (s.W.length : Int); omega)]
    simp only [bne_self_eq_false, if_true]
    have e3 : (tick s).W.getD (0 : Int).toNat 0 = s.W.getD 0 0 := rfl
    have e4 : (tick (tick s)).W.getD (0 + 1 : Int).toNat 0 = s.W.getD 1 0 := rfl
    rw [e3, e4, if_pos (by omega)]
  · obtain ⟨h1, h2⟩ := L3
    exact ⟨by omega, h2⟩

theorem rLeft_live {s : St} {m : Int} (h : Live s m) (hm : m ≤ 4611686018427380000) (hl : 18 ≤ s.W.length) (hn : s.W.getD 0 0 ≤ s.W.getD 1 0) :
    ∃ s', rLeft s 0 = (s.W.getD 1 0 - s.W.getD 0 0, 0, s') ∧ Live s' (m + 2) ∧ s'.code = s.code ∧ s'.W = s.W := by
  have L1 := h.tick (by omega)
  have L2 := L1.tick (by omega)
  refine ⟨tick (tick s), ?_, by rw [show m + 2 = m + 1 + 1 by omega]; exact L2, rfl, rfl⟩
  unfold rLeft
  rw [sget_live h (by omega)]
  simp only [bne_self_eq_false, if_true]
  rw [uAdd_id (by omega) (by omega), sget_live L1 (by show _ < (s.W.length : Int); omega)]
  simp only [bne_self_eq_false, if_true]
  have e3 : s.W.getD (0 : Int).toNat 0 = s.W.getD 0 0 := rfl
  have e4 : (tick s).W.getD (0 + 1 : Int).toNat 0 = s.W.getD 1 0 := rfl
  rw [e3, e4, if_neg (by omega)]

/-! What the room keeps. -/

/-- two pieces without a common cell -/
def Disj (p q : Int × Int) : Prop := p.1 + p.2 ≤ q.1 ∨ q.1 + q.2 ≤ p.1
theorem Disj.symm {p q : Int × Int} (h : Disj p q) : Disj q p := Or.symm h
/-- what stands in the cell that leads to the pieces of a size: the last that was given back, and one more -/
def topOf (l : List Int) : Int := match l.getLast? with | some x => x + 1 | none => 0
theorem topOf_nil : topOf [] = 0 := rfl
theorem topOf_snoc (l : List Int) (x : Int) : topOf (l ++ [x]) = x + 1 := by simp [topOf]

structure Rm (W : List Int) (fr to : Int) (out : List (Int × Int)) (back : Nat → List Int) : Prop where
  len : W.length = 300
  fr0 : 18 ≤ fr
  to0 : to ≤ 300
  nx0 : fr ≤ W.getD 0 0
  nx1 : W.getD 0 0 ≤ to
  end_ : W.getD 1 0 = to
  top : ∀ z, 1 ≤ z → z ≤ 16 → W.getD (1 + z) 0 = topOf (back z)
  chain : ∀ z, 1 ≤ z → z ≤ 16 → ∀ l x r, back z = l ++ x :: r → W.getD x.toNat 0 = topOf l
  outIn : ∀ p ∈ out, fr ≤ p.1 ∧ 1 ≤ p.2 ∧ p.2 ≤ 16 ∧ p.1 + p.2 ≤ W.getD 0 0
  backIn : ∀ z, 1 ≤ z → z ≤ 16 → ∀ x ∈ back z, fr ≤ x ∧ x + z ≤ W.getD 0 0
  oo : out.Pairwise Disj
  ob : ∀ p ∈ out, ∀ z, 1 ≤ z → z ≤ 16 → ∀ x ∈ back z, Disj p (x, z)
  bb : ∀ z, 1 ≤ z → z ≤ 16 → (back z).Pairwise fun x y => Disj (x, (z : Int)) (y, z)
  bc : ∀ z z', 1 ≤ z → z ≤ 16 → 1 ≤ z' → z' ≤ 16 → z ≠ z' → ∀ x ∈ back z, ∀ y ∈ back z', Disj (x, (z : Int)) (y, z')

/-- Cells that belong to no piece that was given back, and do not stand in the header, may turn. -/
theorem Rm.turn {W W' : List Int} {fr to : Int} {out : List (Int × Int)} {back : Nat → List Int} (h : Rm W fr to out back) (hl : W'.length = W.length)
    (hh : ∀ j, j < 18 → W'.getD j 0 = W.getD j 0) (hb : ∀ z, 1 ≤ z → z ≤ 16 → ∀ x ∈ back z, W'.getD x.toNat 0 = W.getD x.toNat 0) : Rm W' fr to out back :=
  ⟨(hl.trans h.len), (h.fr0), (h.to0), (by rw [hh 0 (by omega)]; exact h.nx0), (by rw [hh 0 (by omega)]; exact h.nx1), (by rw [hh 1 (by omega)]; exact h.end_), (fun z h1 h2 => by rw [hh _ (by omega)]; exact h.top z h1 h2), (fun z h1 h2 l x r e => by rw [hb z h1 h2 x (by rw [e]; simp)]; exact h.chain z h1 h2 l x r e), (by rw [hh 0 (by omega)]; exact h.outIn), (by rw [hh 0 (by omega)]; exact h.backIn), (h.oo), (h.ob), (h.bb), (h.bc)⟩

theorem Rm.start {W : List Int} {fr to : Int} (hl : W.length = 300) (h0 : 18 ≤ fr) (h1 : fr ≤ to) (h2 : to ≤ 300) (hw : ∀ j, W.getD j 0 = if j = 0 then fr else if j = 1 then to else 0) : Rm W fr to [] (fun _ => []) :=
  ⟨(hl), (h0), (h2), (by rw [hw]; simp), (by rw [hw]; simpa using h1), (by rw [hw]; simp), (fun z h1 h2 => by rw [hw, if_neg (by omega), if_neg (by omega)]; rfl), (fun z _ _ l x r e => by simp at e), (fun p hp => by simp at hp), (fun z _ _ x hx => by simp at hx), (.nil), (fun p hp => by simp at hp), (fun _ _ _ => .nil), (fun _ _ _ _ _ _ _ x hx => by simp at hx)⟩

/-- A piece that is out is given back. -/
theorem Rm.give {W : List Int} {fr to : Int} {o1 o2 : List (Int × Int)} {back : Nat → List Int} {p : Int} {z : Nat} (h : Rm W fr to (o1 ++ (p, (z : Int)) :: o2) back) :
    Rm ((W.set p.toNat (W.getD (1 + z) 0)).set (1 + z) (p + 1)) fr to (o1 ++ o2) (fun y => if y = z then back z ++ [p] else back y) := by
  have hp := h.outIn (p, z) (by simp)
  simp only at hp
  have f0 := h.fr0
  have t0 := h.to0
  have nx := h.nx1
  have hl := h.len
  obtain ⟨q1, q2, q3, q4⟩ := hp
  have z1 : 1 ≤ z := by omega
  have z2 : z ≤ 16 := by omega
  have other : ∀ y, 1 ≤ y → y ≤ 16 → ∀ x ∈ back y, x.toNat ≠ p.toNat ∧ x.toNat ≠ 1 + z := fun y y1 y2 x hx => by
    have a := h.ob (p, z) (by simp) y y1 y2 x hx
    have b := h.backIn y y1 y2 x hx
    unfold Disj at a
    simp only at a
    omega
  have hdr : ∀ j, j < 18 → j ≠ 1 + z → ((W.set p.toNat (W.getD (1 + z) 0)).set (1 + z) (p + 1)).getD j 0 = W.getD j 0 := fun j hj hne => by
    rw [getD_ne _ (by omega), getD_ne _ (by omega)]
  have hsub : ∀ q ∈ o1 ++ o2, q ∈ o1 ++ (p, (z : Int)) :: o2 := fun q hq => by
    simp only [List.mem_append, List.mem_cons] at hq ⊢
    rcases hq with h | h
    · exact .inl h
    · exact .inr (.inr h)
  have hpo : ∀ q ∈ o1 ++ o2, Disj q (p, z) := fun q hq => by
    have hoo := h.oo
    rw [List.pairwise_append] at hoo
    obtain ⟨_, b1, b2⟩ := hoo
    rw [List.pairwise_cons] at b1
    rcases List.mem_append.1 hq with hq | hq
    · exact b2 q hq _ (by simp)
    · exact (b1.1 q hq).symm
  refine ⟨(by simpa using hl), (f0), (t0), (by rw [hdr 0 (by omega) (by omega)]; exact h.nx0), (by rw [hdr 0 (by omega) (by omega)]; exact nx), (by rw [hdr 1 (by omega) (by omega)]; exact h.end_), (fun y y1 y2 => ?_), (fun y y1 y2 l x r e => ?_), (fun q hq => by rw [hdr 0 (by omega) (by omega)]; exact h.outIn q (hsub q hq)), (fun y y1 y2 x hx => ?_), ?_, (fun q hq y y1 y2 x hx => ?_), (fun y y1 y2 => ?_), (fun y y' y1 y2 y3 y4 hne x hx x' hx' => ?_)⟩
  · by_cases hy : y = z
    · subst hy
      rw [if_pos rfl, topOf_snoc, getD_eq _ (by simp; omega)]
    · rw [if_neg hy, hdr _ (by omega) (by omega)]
      exact h.top y y1 y2
  · by_cases hy : y = z
    · subst hy
      rw [if_pos rfl] at e
      rcases List.eq_nil_or_concat r with rfl | ⟨r', x', rfl⟩
      · have e' := List.append_inj' e rfl
        obtain ⟨rfl, e2⟩ := e'
        obtain rfl : p = x := by simpa using e2
        rw [getD_ne _ (by omega), getD_eq _ (by omega)]
        exact h.top y y1 y2
      · have e' : back y ++ [p] = (l ++ x :: r') ++ [x'] := by rw [e]; simp
        obtain ⟨e1, _⟩ := List.append_inj' e' rfl
        have := other y y1 y2 x (by rw [e1]; simp)
        rw [getD_ne _ (by omega), getD_ne _ (by omega)]
        exact h.chain y y1 y2 l x r' e1
    · rw [if_neg hy] at e
      have := other y y1 y2 x (by rw [e]; simp)
      rw [getD_ne _ (by omega), getD_ne _ (by omega)]
      exact h.chain y y1 y2 l x r e
  · rw [hdr 0 (by omega) (by omega)]
    by_cases hy : y = z
    · subst hy
      rw [if_pos rfl] at hx
      rcases List.mem_append.1 hx with hx | hx
      · exact h.backIn y y1 y2 x hx
      · obtain rfl : x = p := by simpa using hx
        exact ⟨q1, q4⟩
    · rw [if_neg hy] at hx
      exact h.backIn y y1 y2 x hx
  · have hoo := h.oo
    rw [List.pairwise_append] at hoo ⊢
    obtain ⟨b0, b1, b2⟩ := hoo
    rw [List.pairwise_cons] at b1
    exact ⟨b0, b1.2, fun a ha b hb => b2 a ha b (by simp [hb])⟩
  · by_cases hy : y = z
    · subst hy
      rw [if_pos rfl] at hx
      rcases List.mem_append.1 hx with hx | hx
      · exact h.ob q (hsub q hq) y y1 y2 x hx
      · obtain rfl : x = p := by simpa using hx
        exact hpo q hq
    · rw [if_neg hy] at hx
      exact h.ob q (hsub q hq) y y1 y2 x hx
  · by_cases hy : y = z
    · subst hy
      rw [if_pos rfl, List.pairwise_append]
      refine ⟨h.bb y y1 y2, by simp, fun a ha b hb => ?_⟩
      obtain rfl : b = p := by simpa using hb
      exact (h.ob (b, y) (by simp) y y1 y2 a ha).symm
    · rw [if_neg hy]
      exact h.bb y y1 y2
  · by_cases hy : y = z
    · subst hy
      rw [if_pos rfl] at hx
      rw [if_neg (Ne.symm hne)] at hx'
      rcases List.mem_append.1 hx with hx | hx
      · exact h.bc y y' y1 y2 y3 y4 hne x hx x' hx'
      · obtain rfl : x = p := by simpa using hx
        exact h.ob (x, y) (by simp) y' y3 y4 x' hx'
    · rw [if_neg hy] at hx
      by_cases hy' : y' = z
      · subst hy'
        rw [if_pos rfl] at hx'
        rcases List.mem_append.1 hx' with hx' | hx'
        · exact h.bc y y' y1 y2 y3 y4 hne x hx x' hx'
        · obtain rfl : x' = p := by simpa using hx'
          exact (h.ob (x', y') (by simp) y y1 y2 x hx).symm
      · rw [if_neg hy'] at hx'
        exact h.bc y y' y1 y2 y3 y4 hne x hx x' hx'

/-- One that was given back is taken: the last of its size. -/
theorem Rm.back {W : List Int} {fr to : Int} {out : List (Int × Int)} {back : Nat → List Int} {p : Int} {z : Nat} {l : List Int} (h : Rm W fr to out back) (z1 : 1 ≤ z) (z2 : z ≤ 16) (e : back z = l ++ [p]) :
    W.getD (1 + z) 0 = p + 1 ∧ Rm (W.set (1 + z) (W.getD p.toNat 0)) fr to (out ++ [(p, (z : Int))]) (fun y => if y = z then l else back y) ∧ fr ≤ p ∧ p + z ≤ to ∧ ∀ q ∈ out, Disj q (p, z) := by
  have f0 := h.fr0
  have t0 := h.to0
  have nx := h.nx1
  have hl := h.len
  have hp := h.backIn z z1 z2 p (by rw [e]; simp)
  have hsub : ∀ y, 1 ≤ y → y ≤ 16 → ∀ x ∈ (if y = z then l else back y), x ∈ back y := fun y _ _ x hx => by
    by_cases hy : y = z
    · subst hy; rw [if_pos rfl] at hx; rw [e]; simp [hx]
    · rwa [if_neg hy] at hx
  have hdr : ∀ j, j ≠ 1 + z → (W.set (1 + z) (W.getD p.toNat 0)).getD j 0 = W.getD j 0 := fun j hne => getD_ne _ (by omega)
  have hpd : ∀ y, 1 ≤ y → y ≤ 16 → ∀ x ∈ (if y = z then l else back y), Disj (p, (z : Int)) (x, y) := fun y y1 y2 x hx => by
    by_cases hy : y = z
    · subst hy
      rw [if_pos rfl] at hx
      have := h.bb y y1 y2
      rw [e, List.pairwise_append] at this
      exact (this.2.2 x hx p (by simp)).symm
    · rw [if_neg hy] at hx
      exact h.bc z y z1 z2 y1 y2 (Ne.symm hy) p (by rw [e]; simp) x hx
  refine ⟨by rw [h.top z z1 z2, e, topOf_snoc], ⟨(by simpa using hl), (f0), (t0), (by rw [hdr 0 (by omega)]; exact h.nx0), (by rw [hdr 0 (by omega)]; exact nx), (by rw [hdr 1 (by omega)]; exact h.end_), (fun y y1 y2 => ?_), (fun y y1 y2 l' x r e' => ?_), (fun q hq => ?_), (fun y y1 y2 x hx => by rw [hdr 0 (by omega)]; exact h.backIn y y1 y2 x (hsub y y1 y2 x hx)), ?_, (fun q hq y y1 y2 x hx => ?_), (fun y y1 y2 => ?_), (fun y y' y1 y2 y3 y4 hne x hx x' hx' => h.bc y y' y1 y2 y3 y4 hne x (hsub y y1 y2 x hx) x' (hsub y' y3 y4 x' hx'))⟩, hp.1, by omega, fun q hq => h.ob q hq z z1 z2 p (by rw [e]; simp)⟩
  · by_cases hy : y = z
    · subst hy
      rw [if_pos rfl, getD_eq _ (by omega)]
      exact h.chain y y1 y2 l p [] e
    · rw [if_neg hy, hdr _ (by omega)]
      exact h.top y y1 y2
  · have hx : x ∈ back y := hsub y y1 y2 x (by rw [e']; simp)
    have := h.backIn y y1 y2 x hx
    rw [hdr _ (by omega)]
    by_cases hy : y = z
    · subst hy
      rw [if_pos rfl] at e'
      exact h.chain y y1 y2 l' x (r ++ [p]) (by rw [e, e']; simp)
    · rw [if_neg hy] at e'
      exact h.chain y y1 y2 l' x r e'
  · rw [hdr 0 (by omega)]
    rcases List.mem_append.1 hq with hq | hq
    · exact h.outIn q hq
    · obtain rfl : q = (p, (z : Int)) := by simpa using hq
      exact ⟨hp.1, by simp only; omega, by simp only; omega, hp.2⟩
  · rw [List.pairwise_append]
    refine ⟨h.oo, by simp, fun a ha b hb => ?_⟩
    obtain rfl : b = (p, (z : Int)) := by simpa using hb
    exact h.ob a ha z z1 z2 p (by rw [e]; simp)
  · rcases List.mem_append.1 hq with hq | hq
    · exact h.ob q hq y y1 y2 x (hsub y y1 y2 x hx)
    · obtain rfl : q = (p, (z : Int)) := by simpa using hq
      exact hpd y y1 y2 x hx
  · by_cases hy : y = z
    · subst hy
      rw [if_pos rfl]
      have := h.bb y y1 y2
      rw [e, List.pairwise_append] at this
      exact this.1
    · rw [if_neg hy]; exact h.bb y y1 y2

/-- A new one is taken. -/
theorem Rm.new {W : List Int} {fr to : Int} {out : List (Int × Int)} {back : Nat → List Int} {z : Nat} (h : Rm W fr to out back) (z1 : 1 ≤ z) (z2 : z ≤ 16) (hn : W.getD 0 0 + z ≤ to) :
    Rm (W.set 0 (W.getD 0 0 + z)) fr to (out ++ [(W.getD 0 0, (z : Int))]) back ∧ ∀ q ∈ out, Disj q (W.getD 0 0, z) := by
  have f0 := h.fr0
  have t0 := h.to0
  have nx := h.nx1
  have nx0 := h.nx0
  have hl := h.len
  have hdr : ∀ j, j ≠ 0 → (W.set 0 (W.getD 0 0 + z)).getD j 0 = W.getD j 0 := fun j hne => getD_ne _ (by omega)
  have h00 : (W.set 0 (W.getD 0 0 + z)).getD 0 0 = W.getD 0 0 + z := getD_eq _ (by omega)
  have hd1 : ∀ q ∈ out, Disj q (W.getD 0 0, z) := fun q hq => by
    have := h.outIn q hq
    exact .inl this.2.2.2
  refine ⟨⟨(by simpa using hl), (f0), (t0), (by rw [h00]; omega), (by rw [h00]; omega), (by rw [hdr 1 (by omega)]; exact h.end_), (fun y y1 y2 => by rw [hdr _ (by omega)]; exact h.top y y1 y2), (fun y y1 y2 l x r e => ?_), (fun q hq => ?_), (fun y y1 y2 x hx => ?_), ?_, (fun q hq y y1 y2 x hx => ?_), (h.bb), (h.bc)⟩, hd1⟩
  · have := h.backIn y y1 y2 x (by rw [e]; simp)
    rw [hdr _ (by omega)]; exact h.chain y y1 y2 l x r e
  · rw [h00]
    rcases List.mem_append.1 hq with hq | hq
    · have := h.outIn q hq
      exact ⟨this.1, this.2.1, this.2.2.1, by omega⟩
    · obtain rfl : q = (W.getD 0 0, (z : Int)) := by simpa using hq
      exact ⟨nx0, by simp only; omega, by simp only; omega, by simp only; omega⟩
  · rw [h00]
    have := h.backIn y y1 y2 x hx
    exact ⟨this.1, by omega⟩
  · rw [List.pairwise_append]
    refine ⟨h.oo, by simp, fun a ha b hb => ?_⟩
    obtain rfl : b = (W.getD 0 0, (z : Int)) := by simpa using hb
    exact hd1 a ha
  · rcases List.mem_append.1 hq with hq | hq
    · exact h.ob q hq y y1 y2 x hx
    · obtain rfl : q = (W.getD 0 0, (z : Int)) := by simpa using hq
      have := h.backIn y y1 y2 x hx
      exact .inr this.2
end Go.Proofs.Ythabfblcmbjlnaa
