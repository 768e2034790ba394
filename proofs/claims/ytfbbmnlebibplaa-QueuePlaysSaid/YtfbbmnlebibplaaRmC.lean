/- The room's calls where none is refused. No program in sight. -/
import Derived.Test.YtfbbmnlebibplaaRm
namespace Go.Proofs.Ytfbbmnlebibplaa
open Go.RowKit
set_option linter.unusedVariables false

theorem Rm.perm {W : List Int} {fr to : Int} {out out' : List (Int × Int)} {back : Nat → List Int} (h : Rm W fr to out back) (hp : out.Perm out') : Rm W fr to out' back :=
  ⟨h.fr0, h.to0, h.nx0, h.nx1, h.end_, h.top, h.chain, fun p hp' => h.outIn p (hp.mem_iff.2 hp'), h.backIn, (hp.pairwise_iff (fun h => Disj.symm h)).1 h.oo, fun p hp' => h.ob p (hp.mem_iff.2 hp'), h.bb, h.bc⟩

theorem layGo_ok' : ∀ (k : Nat) (a : Int) (s : St) (n : Nat), Ok s (n + k) → 0 ≤ a → a + k ≤ s.W.length → (s.W.length : Int) ≤ 9223372036854775807 →
    ∃ s', layGo k a s = (0, s') ∧ Ok s' n ∧ s'.W.length = s.W.length ∧ ∀ j, s'.W.getD j 0 = if a.toNat ≤ j ∧ j < a.toNat + k then 0 else s.W.getD j 0
  | 0, a, s, n, h, ha, hl, _ => ⟨s, rfl, h, rfl, fun j => by rw [if_neg (by omega)]⟩
  | k + 1, a, s, n, h, ha, hl, hl2 => by
    have h' : Ok s ((n + k) + 1) := h
    obtain ⟨s', h1, h2, h4, h5⟩ := layGo_ok' k (a + 1) { gone s (true, a, 0) with W := s.W.set a.toNat 0 } n ((h'.gone _).setW _) (by omega) (by simp; omega) (by simpa using hl2)
    refine ⟨s', ?_, h2, by simpa using h4, fun j => ?_⟩
    · rw [layGo, sput_live h (by omega)]
      simp only [bne_self_eq_false, if_true]
      rw [uAdd_id (by omega) (by omega)]
      exact h1
    · rw [h5, show (a + 1).toNat = a.toNat + 1 by omega]
      simp only
      rw [getD_set_]
      have : a.toNat < s.W.length := by omega
      split
      · rw [if_pos (by omega)]
      · split
        · rw [if_pos (by omega)]
        · rw [if_neg (by omega)]

theorem lay_ok {s : St} {n : Nat} {x y : Int} (h : Ok s (n + 18)) (hl : 18 ≤ s.W.length) (hl2 : (s.W.length : Int) ≤ 9223372036854775807) (hxy : x ≤ y) :
    ∃ s', rLay s 0 x y = (0, s') ∧ Ok s' n ∧ s'.W.length = s.W.length ∧ ∀ j, s'.W.getD j 0 = if j = 0 then x else if j = 1 then y else if j < 18 then 0 else s.W.getD j 0 := by
  have h1 : Ok s ((n + 16 + 1) + 1) := h
  have o1 := (h1.gone (true, 0, x)).setW (s.W.set 0 x)
  have o2 := (o1.gone (true, 1, y)).setW ((s.W.set 0 x).set 1 y)
  obtain ⟨s', k1, k2, k4, k5⟩ := layGo_ok' 16 2 { gone { gone s (true, 0, x) with W := s.W.set 0 x } (true, 1, y) with W := (s.W.set 0 x).set 1 y } n o2 (by omega) (by show (2 : Int) + (16 : Nat) ≤ (((s.W.set 0 x).set 1 y).length : Int); simp; omega) (by show (((s.W.set 0 x).set 1 y).length : Int) ≤ _; simpa using hl2)
  refine ⟨s', ?_, k2, by simpa using k4, fun j => ?_⟩
  · unfold rLay
    rw [if_neg (by omega), sput_live h (by omega)]
    simp only [bne_self_eq_false, if_true]
    rw [uAdd_id (by omega) (by omega), show (0 + 1 : Int) = 1 by omega, show ((0 : Int).toNat) = 0 from rfl, sput_live o1 (by simp; omega)]
    simp only [bne_self_eq_false, if_true]
    rw [uAdd_id (by omega) (by omega)]
    exact k1
  · rw [k5]
    have e : ({ gone { gone s (true, 0, x) with W := s.W.set 0 x } (true, 1, y) with W := (s.W.set 0 x).set 1 y } : St).W = (s.W.set 0 x).set 1 y := rfl
    rw [e]
    by_cases j0 : j = 0
    · subst j0
      rw [if_neg (by omega), if_pos rfl, getD_ne _ (by omega), getD_eq _ (by omega)]
    · rw [if_neg j0]
      by_cases j1 : j = 1
      · subst j1
        rw [if_neg (by omega), if_pos rfl, getD_eq _ (by simp; omega)]
      · rw [if_neg j1]
        by_cases j2 : j < 18
        · rw [if_pos j2, if_pos (by omega)]
        · rw [if_neg j2, if_neg (by omega), getD_ne _ (by omega), getD_ne _ (by omega)]

/-- A piece is given back. -/
theorem give_ok {s : St} {n : Nat} {fr to p : Int} {z : Nat} {o1 o2 : List (Int × Int)} {back : Nat → List Int} (h : Ok s (n + 3)) (hr : Rm s.W fr to (o1 ++ (p, (z : Int)) :: o2) back) (hl2 : (s.W.length : Int) ≤ 4611686018427387904) :
    ∃ s', rGive s 0 p z = (0, s') ∧ Ok s' n ∧ s'.W = (s.W.set p.toNat (s.W.getD (1 + z) 0)).set (1 + z) (p + 1) ∧ Rm s'.W fr to (o1 ++ o2) (fun y => if y = z then back z ++ [p] else back y) := by
  have hp := hr.outIn (p, z) (by simp)
  simp only at hp
  have f0 := hr.fr0
  have t0 := hr.to0
  have nx := hr.nx1
  have hg := hr.give
  have h1 : Ok s ((n + 1 + 1) + 1) := h
  have e1 : uAdd (uAdd 0 1) z = 1 + z := by rw [uAdd_uAdd, uAdd_id (by omega) (by omega)]; omega
  have ez : ((1 : Int) + z).toNat = 1 + z := by omega
  have o1' := h1.gone (false, 1 + (z : Int), 0)
  have o2' := (o1'.gone (true, p, s.W.getD (1 + z) 0)).setW (s.W.set p.toNat (s.W.getD (1 + z) 0))
  have o3 := (o2'.gone (true, 1 + (z : Int), p + 1)).setW ((s.W.set p.toNat (s.W.getD (1 + z) 0)).set (1 + z) (p + 1))
  refine ⟨_, ?_, o3, rfl, hg⟩
  unfold rGive
  rw [if_neg (by omega), e1, sget_live h (by omega)]
  simp only [bne_self_eq_false, if_true, ez]
  rw [sput_live o1' (by show p < s.W.length; omega)]
  simp only [bne_self_eq_false, if_true]
  rw [uAdd_id (by omega) (by omega)]
  exact sput_live o2' (by simp; omega) (p + 1)

/-- A piece is taken, or there is none. -/
theorem take_ok {s : St} {n : Nat} {fr to : Int} {z : Nat} {out : List (Int × Int)} {back : Nat → List Int} (h : Ok s (n + 4)) (hr : Rm s.W fr to out back) (z1 : 1 ≤ z) (z2 : z ≤ 16) (hl2 : (s.W.length : Int) ≤ 4611686018427387904) :
    (back z = [] ∧ to < s.W.getD 0 0 + z ∧ ∃ s', rTake s 0 z = (0, 9, s') ∧ Ok s' n ∧ s'.W = s.W) ∨
    ∃ p s' back', rTake s 0 z = (p, 0, s') ∧ Ok s' n ∧ fr ≤ p ∧ p + z ≤ to ∧ Rm s'.W fr to (out ++ [(p, (z : Int))]) back' ∧ (∀ q ∈ out, Disj q (p, z)) ∧ s'.W.length = s.W.length ∧ (∀ j, 18 ≤ j → s'.W.getD j 0 = s.W.getD j 0) ∧ s'.W.getD 0 0 ≤ s.W.getD 0 0 + z ∧
      ((back z = [] ∧ back' = back ∧ p = s.W.getD 0 0 ∧ s'.W.getD 0 0 = s.W.getD 0 0 + z) ∨ ∃ l, back z = l ++ [p] ∧ (back' = fun y => if y = z then l else back y) ∧ s'.W.getD 0 0 = s.W.getD 0 0) := by
  have f0 := hr.fr0
  have t0 := hr.to0
  have nx := hr.nx1
  have nx0 := hr.nx0
  have en := hr.end_
  have h1 : Ok s ((n + 1 + 1 + 1) + 1) := h
  have e1 : uAdd (uAdd 0 1) z = 1 + z := by rw [uAdd_uAdd, uAdd_id (by omega) (by omega)]; omega
  have ez : ((1 : Int) + z).toNat = 1 + z := by omega
  have g1 := h1.gone (false, 1 + (z : Int), 0)
  have g2 := g1.gone (false, 0, 0)
  have g3 := g2.gone (false, 1, 0)
  have ht := hr.top z z1 z2
  rcases List.eq_nil_or_concat (back z) with hb | ⟨l, p, hb⟩
  · rw [hb, topOf_nil] at ht
    have e2 : (s.W.getD (1 + z) 0 != 0) = false := by rw [ht]; rfl
    have T : rTake s 0 z = (if s.W.getD 1 0 < s.W.getD 0 0 ∨ s.W.getD 1 0 - s.W.getD 0 0 < z then (0, 9, gone (gone (gone s (false, 1 + (z : Int), 0)) (false, 0, 0)) (false, 1, 0)) else
        match sput (gone (gone (gone s (false, 1 + (z : Int), 0)) (false, 0, 0)) (false, 1, 0)) 0 (s.W.getD 0 0 + z) with
        | (e4, s4) => if (e4 != 0) = false then (s.W.getD 0 0, 0, s4) else (0, e4, s4)) := by
      unfold rTake
      rw [if_neg (by omega), e1, sget_live h (by omega)]
      simp only [bne_self_eq_false, if_true, ez, e2]
      rw [sget_live g1 (by show _ < (s.W.length : Int); omega)]
      simp only [bne_self_eq_false, if_true]
      rw [uAdd_id (by omega) (by omega), show (0 + 1 : Int) = 1 by omega, sget_live g2 (by show _ < (s.W.length : Int); omega)]
      simp only [bne_self_eq_false, if_true]
      rfl
    by_cases hn : s.W.getD 0 0 + z ≤ to
    · right
      obtain ⟨q1, q2⟩ := hr.new z1 z2 hn
      have g4 := (g3.gone (true, 0, s.W.getD 0 0 + z)).setW (s.W.set 0 (s.W.getD 0 0 + z))
      have e0 : (s.W.set 0 (s.W.getD 0 0 + z)).getD 0 0 = s.W.getD 0 0 + z := getD_eq _ (by omega)
      refine ⟨s.W.getD 0 0, _, back, ?_, g4, nx0, hn, q1, q2, by simp, fun j hj => getD_ne _ (by omega), by rw [e0]; exact Int.le_refl _, .inl ⟨hb, rfl, rfl, e0⟩⟩
      rw [T, if_neg (by omega), sput_live g3 (by show _ < (s.W.length : Int); omega)]
      rfl
    · left
      exact ⟨hb, by omega, _, by rw [T, if_pos (by omega)], g3.mono (by omega), rfl⟩
  · rw [List.concat_eq_append] at hb
    right
    obtain ⟨q1, q2, q3, q4, q5⟩ := hr.back z1 z2 hb
    have e2 : (s.W.getD (1 + z) 0 != 0) = true := by rw [q1, bne_iff_ne]; omega
    have k2 := g1.gone (false, p, 0)
    have k3 := (k2.gone (true, 1 + (z : Int), s.W.getD p.toNat 0)).setW (s.W.set (1 + z) (s.W.getD p.toNat 0))
    have e0 : (s.W.set (1 + z) (s.W.getD p.toNat 0)).getD 0 0 = s.W.getD 0 0 := getD_ne _ (by omega)
    refine ⟨p, _, _, ?_, k3.mono (by omega), q3, q4, q2, q5, by simp, fun j hj => getD_ne _ (by omega), by show (s.W.set (1 + z) (s.W.getD p.toNat 0)).getD 0 0 ≤ _; rw [e0]; omega, .inr ⟨l, hb, rfl, e0⟩⟩
    unfold rTake
    rw [if_neg (by omega), e1, sget_live h (by omega)]
    simp only [bne_self_eq_false, if_true, ez, e2, if_false, Bool.true_eq_false]
    rw [q1, uw_id (by omega) (by omega), show p + 1 - 1 = p by omega, sget_live g1 (by show _ < (s.W.length : Int); omega)]
    simp only [bne_self_eq_false, if_true]
    rw [sput_live k2 (by show _ < (s.W.length : Int); omega)]
    simp only [bne_self_eq_false, if_true, ez]
    rfl
end Go.Proofs.Ytfbbmnlebibplaa
