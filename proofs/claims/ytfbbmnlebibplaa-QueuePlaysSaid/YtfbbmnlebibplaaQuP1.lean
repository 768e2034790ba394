/- Queues in a room, on plain words: a queue made, a word put in. No program in sight. -/
import Derived.Test.YtfbbmnlebibplaaQuP0
namespace Go.Proofs.Ytfbbmnlebibplaa
open Go.RowKit
set_option linter.unusedVariables false

/-- behind a put, behind a get -/
def wrt (s : St) (a x : Int) : St := { gone s (true, a, x) with W := s.W.set a.toNat x }
def rdt (s : St) (a : Int) : St := gone s (false, a, 0)
theorem wrt_W (s : St) (a x : Int) : (wrt s a x).W = s.W.set a.toNat x := rfl
theorem rdt_W (s : St) (a : Int) : (rdt s a).W = s.W := rfl
theorem wrt_ok {s : St} {n : Nat} (h : Ok s (n + 1)) (a x : Int) : Ok (wrt s a x) n := (h.gone _).setW _
theorem rdt_ok {s : St} {n : Nat} (h : Ok s (n + 1)) (a : Int) : Ok (rdt s a) n := h.gone _
theorem bput_0 {s : St} {n : Nat} (h : Ok s (n + 1)) {a : Int} (ha : a < s.W.length) (x : Int) : bput 0 s a x = (0, wrt s a x) := by unfold bput; rw [if_pos (by decide), sput_live h ha]; rfl
theorem bget_live {s : St} {n : Nat} (h : Ok s (n + 1)) {a : Int} (ha : a < s.W.length) : bget 0 s a = (s.W.getD a.toNat 0, 0, rdt s a) := by rw [bget_0, sget_live h ha]; rfl
theorem gs {W : List Int} {i j : Int} (x : Int) (hi : 0 ≤ i) (hl : i < W.length) (hj : 0 ≤ j) : (W.set i.toNat x).getD j.toNat 0 = if i = j then x else W.getD j.toNat 0 := by
  rw [getD_set_]
  by_cases e : i = j
  · subst e; rw [if_pos ⟨rfl, by omega⟩, if_pos rfl]
  · rw [if_neg (by omega), if_neg e]
theorem bput_no {e : Int} (he : e ≠ 0) (s : St) (a x : Int) : bput e s a x = (e, s) := by unfold bput; rw [if_neg (by simpa using he)]

theorem qLayGo_s (q : Int) (n : Nat) (k e : Int) (s : St) {e1 : Int} {s1 : St} (h : bput e s (uAdd q k) 0 = (e1, s1)) : qLayGo q (n + 1) k e s = qLayGo q n (k + 1) e1 s1 := by rw [qLayGo, h]
theorem qNew_law {s r : St} {n m : Nat} {c : Int} {qs : List Qr} {back : Nat → List Int} (hs : Ok s (n + 7)) (hr : Ok r (m + 4)) (h : Qi s.W r.W c qs back) :
    (∃ s' r', qNew s 0 = (0, 9, s') ∧ rTake r 0 3 = (0, 9, r') ∧ Ok s' n ∧ Ok r' m ∧ s'.W = s.W ∧ r'.W = r.W) ∨
    ∃ p s' r' back', qNew s 0 = (p, 0, s') ∧ rTake r 0 3 = (p, 0, r') ∧ Ok s' n ∧ Ok r' m ∧ 0 ≤ p ∧ p ≤ 4611686018427387904 ∧ s'.W.length = s.W.length ∧ r'.W.length = r.W.length ∧ Qi s'.W r'.W c (qs ++ [⟨p, [], []⟩]) back' := by
  have hs3 : Ok s ((n + 3) + 4) := hs
  rcases take_two (z := 3) hs3 hr h.rm h.rr h.eq0 (by omega) (by omega) h.lw h.lr with ⟨s', r', a1, a2, a3, a4, a5, a6⟩ | ⟨p, s1, r', back', a1, a2, a3, a4, a5, a6, a7, a8, a9, a10, a11, a12, a13⟩
  · left
    refine ⟨s', r', ?_, a2, a3.mono (by omega), a4, a5, a6⟩
    have e : qLayGo 0 3 0 9 s' = (9, s') := (qLayGo_s _ _ _ _ _ (bput_no (by decide) _ _ _)).trans ((qLayGo_s _ _ _ _ _ (bput_no (by decide) _ _ _)).trans (qLayGo_s _ _ _ _ _ (bput_no (by decide) _ _ _)))
    have a1 : rTake s 0 3 = (0, 9, s') := a1
    unfold qNew
    simp only [a1, e]
    rfl
  · right
    have t0 := a7.to0
    have hlw := h.lw
    have hl1 : p + 3 ≤ (s1.W.length : Int) := by simpa using Int.le_trans a6 t0
    have b1 : Ok s1 ((n + 2) + 1) := a3
    have b2 := wrt_ok b1 p 0
    have b3 := wrt_ok b2 (p + 1) 0
    have b4 := wrt_ok b3 (p + 2) 0
    have hmem : ((p, (3 : Int)) : Int × Int) ∈ outs qs ++ [(p, ((3 : Nat) : Int))] := by simp
    have r1 := a7.put (j := p) hmem (by simp only; omega) (by simp only; omega) 0
    have r2 := r1.put (j := p + 1) hmem (by simp only; omega) (by simp only; omega) 0
    have r3 := r2.put (j := p + 2) hmem (by simp only; omega) (by simp only; omega) 0
    have hW : (wrt (wrt (wrt s1 p 0) (p + 1) 0) (p + 2) 0).W = ((s1.W.set p.toNat 0).set (p + 1).toNat 0).set (p + 2).toNat 0 := rfl
    have hg : ∀ j : Int, 0 ≤ j → (((s1.W.set p.toNat 0).set (p + 1).toNat 0).set (p + 2).toNat 0).getD j.toNat 0 = if p + 2 = j then 0 else if p + 1 = j then 0 else if p = j then 0 else s1.W.getD j.toNat 0 := fun j hj => by
      rw [gs _ (by omega) (by simp; omega) hj, gs _ (by omega) (by simp; omega) hj, gs _ (by omega) (by omega) hj]
    refine ⟨p, _, r', back', ?_, a2, b4, a4, by omega, by omega, ?_, a12, ?_⟩
    · have u0 : uAdd p 0 = p := by rw [uAdd_id (by omega) (by omega)]; omega
      have u1 : uAdd p (0 + 1) = p + 1 := by rw [uAdd_id (by omega) (by omega)]; omega
      have u2 : uAdd p (0 + 1 + 1) = p + 2 := by rw [uAdd_id (by omega) (by omega)]; omega
      have h0 : bput 0 s1 (uAdd p 0) 0 = (0, wrt s1 p 0) := by rw [u0, bput_0 b1 (by omega)]
      have h1 : bput 0 (wrt s1 p 0) (uAdd p (0 + 1)) 0 = (0, wrt (wrt s1 p 0) (p + 1) 0) := by rw [u1, bput_0 b2 (by rw [wrt_W]; simp; omega)]
      have h2 : bput 0 (wrt (wrt s1 p 0) (p + 1) 0) (uAdd p (0 + 1 + 1)) 0 = (0, wrt (wrt (wrt s1 p 0) (p + 1) 0) (p + 2) 0) := by rw [u2, bput_0 b3 (by rw [wrt_W, wrt_W]; simp; omega)]
      have e : qLayGo p 3 0 0 s1 = (0, wrt (wrt (wrt s1 p 0) (p + 1) 0) (p + 2) 0) := (qLayGo_s _ _ _ _ _ h0).trans ((qLayGo_s _ _ _ _ _ h1).trans (qLayGo_s _ _ _ _ _ h2))
      have a1 : rTake s 0 3 = (p, 0, s1) := a1
      unfold qNew
      simp only [a1, e]
      rfl
    · rw [hW]; simp [a11]
    · have ho : outs (qs ++ [⟨p, [], []⟩]) = outs qs ++ [(p, ((3 : Nat) : Int))] := by rw [outs_append]; simp [outs, pcs]
      refine ⟨by rw [ho, hW]; exact r3, by rw [ho]; exact a8, ?_, fun q hq => ?_, by rw [hW]; simp; omega, by rw [a12]; exact h.lr⟩
      · rw [hW, show (0 : Nat) = ((0 : Int)).toNat from rfl, hg 0 (by omega), if_neg (by omega), if_neg (by omega), if_neg (by omega)]
        exact a9
      · rcases List.mem_append.1 hq with hq | hq
        · refine (h.st q hq).keep fun pc hpc j hj1 hj2 => ?_
          have hpo : pc ∈ outs qs := by unfold outs; exact List.mem_flatMap.2 ⟨q, hq, hpc⟩
          have hd := a10 pc hpo
          have hi := h.rm.outIn pc hpo
          unfold Disj at hd
          simp only at hd
          rw [hW, hg j (by omega), if_neg (by omega), if_neg (by omega), if_neg (by omega)]
          exact a13 _ (by omega)
        · obtain rfl : q = ⟨p, [], []⟩ := by simpa using hq
          rw [hW]
          refine ⟨?_, ?_, ?_, trivial⟩
          · rw [hg _ (by simp only; omega)]; simp [hdOr]
          · rw [hg _ (by simp only; omega)]; simp [topOf_nil]
          · rw [hg _ (by simp only; omega)]; simp
end Go.Proofs.Ytfbbmnlebibplaa
