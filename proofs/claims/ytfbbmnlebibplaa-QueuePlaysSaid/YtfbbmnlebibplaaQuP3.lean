/- Queues in a room, on plain words: a word taken out; what is told. No program in sight. -/
import Derived.Test.YtfbbmnlebibplaaQuP2
namespace Go.Proofs.Ytfbbmnlebibplaa
open Go.RowKit
set_option linter.unusedVariables false

theorem topOf_cons {n : Int} {ns : List Int} (h : ns ≠ []) : topOf (n :: ns) = topOf ns := by
  unfold topOf
  cases ns with
  | nil => exact absurd rfl h
  | cons m t => simp [List.getLast?_cons_cons]

theorem qTake_none {s : St} {n : Nat} {c : Int} {R : List Int} {qs : List Qr} {q : Qr} {back : Nat → List Int} (hs : Ok s (n + 1)) (h : Qi s.W R c qs back) (hq : q ∈ qs) (h0 : q.nodes = []) :
    qTake s 0 q.hd = (0, false, 0, rdt s q.hd) := by
  obtain ⟨g1, g2, g3, g4⟩ := h.inn hq (pcs_hd q)
  simp only at g1 g2 g3 g4
  have f0 : bget 0 s q.hd = (0, 0, rdt s q.hd) := by rw [bget_live hs (by omega), (h.st q hq).first, h0]; rfl
  unfold qTake
  simp only [f0]
  rfl

theorem qTake_law {s r : St} {n m : Nat} {c : Int} {a b : List Qr} {d : Int} {ns : List Int} {y : Int} {ys : List Int} {nd : Int} {back : Nat → List Int} (hs : Ok s (n + 10)) (hr : Ok r (m + 3)) (h : Qi s.W r.W c (a ++ ⟨d, nd :: ns, y :: ys⟩ :: b) back) :
    ∃ s' r' back', qTake s 0 d = (y, true, 0, s') ∧ rGive r 0 nd 2 = (0, r') ∧ Ok s' n ∧ Ok r' m ∧ s'.W.length = s.W.length ∧ r'.W.length = r.W.length ∧ Qi s'.W r'.W c (a ++ ⟨d, ns, ys⟩ :: b) back' := by
  have hq : (⟨d, nd :: ns, y :: ys⟩ : Qr) ∈ a ++ ⟨d, nd :: ns, y :: ys⟩ :: b := by simp
  obtain ⟨g1, g2, g3, g4⟩ := h.inn hq (pcs_hd _)
  obtain ⟨k1, k2, k3, k4⟩ := h.inn hq (pcs_nd (n := nd) (by simp))
  simp only at g1 g2 g3 g4 k1 k2 k3 k4
  have hlw := h.lw
  have hlr := h.lr
  have hA := h.apt
  have hst := h.st _ hq
  have hcnt := h.cnt
  have hto := h.rm.to0
  simp only [List.length_cons] at hcnt
  have dhn := hA.hn nd (by simp)
  unfold Disj at dhn
  simp only at dhn
  obtain ⟨w1, w2, w3⟩ := hst.lnk
  have wl := hst.last
  have wc := hst.count
  simp only at wl wc
  have hmh : ((d, (3 : Int)) : Int × Int) ∈ outs (a ++ ⟨d, nd :: ns, y :: ys⟩ :: b) := mem_outs hq (pcs_hd _)
  have b0 : Ok s ((n + 9) + 1) := hs
  have b1 := rdt_ok b0 d
  have b2 := rdt_ok b1 nd
  have b3 := rdt_ok b2 (nd + 1)
  have b4 := wrt_ok b3 d (hdOr ns 0)
  have r4 := h.rm.put (j := d) hmh (by simp only; omega) (by simp only; omega) (hdOr ns 0)
  have hlen4 : (s.W.set d.toNat (hdOr ns 0)).length = s.W.length := by simp
  -- the end, where no node is left
  obtain ⟨s5, f4, b5, l5, r5, hg5⟩ : ∃ s5, (if (hdOr ns 0 == 0) = true then bput 0 (wrt (rdt (rdt (rdt s d) nd) (nd + 1)) d (hdOr ns 0)) (uAdd d 1) 0 else (0, wrt (rdt (rdt (rdt s d) nd) (nd + 1)) d (hdOr ns 0))) = (0, s5) ∧ Ok s5 ((n + 4) + 1) ∧ s5.W.length = s.W.length ∧ Rm s5.W 18 c (outs (a ++ ⟨d, nd :: ns, y :: ys⟩ :: b)) back ∧
      ∀ j : Int, 0 ≤ j → s5.W.getD j.toNat 0 = if d + 1 = j then topOf ns else if d = j then hdOr ns 0 else s.W.getD j.toNat 0 := by
    cases ns with
    | nil =>
      refine ⟨wrt (wrt (rdt (rdt (rdt s d) nd) (nd + 1)) d 0) (d + 1) 0, ?_, wrt_ok b4 _ _, ?_, r4.put (j := d + 1) hmh (by simp only; omega) (by simp only; omega) 0, fun j hj => ?_⟩
      · show (if ((0 : Int) == 0) = true then _ else _) = _
        rw [if_pos (by decide), uAdd_id (by omega) (by omega)]
        exact bput_0 b4 (by rw [wrt_W, rdt_W, rdt_W, rdt_W]; simp; omega) _
      · rw [wrt_W, wrt_W, rdt_W, rdt_W, rdt_W]; simp
      · show ((s.W.set d.toNat 0).set (d + 1).toNat 0).getD j.toNat 0 = _
        rw [gs _ (by omega) (by simp; omega) hj, gs _ (by omega) (by omega) hj]
        rfl
    | cons m t =>
      obtain ⟨e1, e2, e3, e4⟩ := h.inn hq (pcs_nd (n := m) (by simp))
      simp only at e1 e2 e3 e4
      refine ⟨wrt (rdt (rdt (rdt s d) nd) (nd + 1)) d (m + 1), ?_, b4.mono (by omega), ?_, r4, fun j hj => ?_⟩
      · show (if ((m + 1 : Int) == 0) = true then _ else _) = _
        rw [if_neg (by simp; omega)]
        rfl
      · rw [wrt_W, rdt_W, rdt_W, rdt_W]; simp
      · show (s.W.set d.toNat (m + 1)).getD j.toNat 0 = _
        rw [gs _ (by omega) (by omega) hj]
        by_cases hj1 : d + 1 = j
        · rw [if_neg (by omega), if_pos hj1, ← hj1, wl, topOf_cons (by simp)]
        · rw [if_neg hj1]
          rfl
  have b6 := rdt_ok b5 (d + 2)
  have b7 := wrt_ok b6 (d + 2) (ns.length : Int)
  have r7 := r5.put (j := d + 2) hmh (by simp only; omega) (by simp only; omega) (ns.length : Int)
  have hout : outs (a ++ ⟨d, nd :: ns, y :: ys⟩ :: b) = (outs a ++ [(d, 3)]) ++ (nd, ((2 : Nat) : Int)) :: (ns.map (fun n => (n, 2)) ++ outs b) := by rw [outs_mid]; simp [pcs]
  have hout2 : outs (a ++ ⟨d, ns, ys⟩ :: b) = (outs a ++ [(d, 3)]) ++ (ns.map (fun n => (n, 2)) ++ outs b) := by rw [outs_mid]; simp [pcs]
  have e7W : (wrt (rdt s5 (d + 2)) (d + 2) (ns.length : Int)).W = s5.W.set (d + 2).toNat (ns.length : Int) := rfl
  have b7' : Ok (wrt (rdt s5 (d + 2)) (d + 2) (ns.length : Int)) (n + 3) := b7
  have rr := h.rr
  rw [hout] at r7 rr
  obtain ⟨s8, q8, o8, W8, rm8⟩ := give_ok b7' (by rw [e7W]; exact r7) (by rw [e7W]; simp; omega)
  obtain ⟨r8, p8, o9, V8, rv8⟩ := give_ok hr rr hlr
  rw [← hout2] at rm8 rv8
  have hg7 : ∀ j : Int, 0 ≤ j → (s5.W.set (d + 2).toNat (ns.length : Int)).getD j.toNat 0 = if d + 2 = j then (ns.length : Int) else if d + 1 = j then topOf ns else if d = j then hdOr ns 0 else s.W.getD j.toNat 0 := fun j hj => by
    rw [gs _ (by omega) (by omega) hj, hg5 j hj]
  have hg8 : ∀ j : Int, 0 ≤ j → j ≠ 3 → j ≠ nd → s8.W.getD j.toNat 0 = (s5.W.set (d + 2).toNat (ns.length : Int)).getD j.toNat 0 := fun j hj h3 hn => by
    rw [W8, e7W, getD_ne _ (by omega), getD_ne _ (by omega)]
  refine ⟨s8, r8, _, ?_, p8, o8, o9, ?_, ?_, rm8, rv8, ?_, fun q' hq' => ?_, ?_, ?_⟩
  · have f0 : bget 0 s d = (nd + 1, 0, rdt s d) := by rw [bget_live b0 (by omega), hst.first]; rfl
    have u0 : IntKind.u64.wrap (nd + 1 - 1) = nd := by rw [show nd + 1 - 1 = nd by omega, uw_id (by omega) (by omega)]
    have u1 : uAdd nd 1 = nd + 1 := uAdd_id (by omega) (by omega)
    have u2 : uAdd d 2 = d + 2 := uAdd_id (by omega) (by omega)
    have f1 : bget 0 (rdt s d) nd = (y, 0, rdt (rdt s d) nd) := by rw [bget_live b1 (by rw [rdt_W]; omega), rdt_W, w1]
    have f2 : bget 0 (rdt (rdt s d) nd) (uAdd nd 1) = (hdOr ns 0, 0, rdt (rdt (rdt s d) nd) (nd + 1)) := by rw [u1, bget_live b2 (by rw [rdt_W, rdt_W]; omega), rdt_W, rdt_W, w2]
    have f3 : bput 0 (rdt (rdt (rdt s d) nd) (nd + 1)) d (hdOr ns 0) = (0, wrt (rdt (rdt (rdt s d) nd) (nd + 1)) d (hdOr ns 0)) := bput_0 b3 (by rw [rdt_W, rdt_W, rdt_W]; omega) _
    have v5 : s5.W.getD (d + 2).toNat 0 = (ns.length : Int) + 1 := by rw [hg5 _ (by omega), if_neg (by omega), if_neg (by omega), wc]; simp
    have f5 : bget 0 s5 (uAdd d 2) = ((ns.length : Int) + 1, 0, rdt s5 (d + 2)) := by rw [u2, bget_live b5 (by omega), v5]
    have u3 : IntKind.u64.wrap ((ns.length : Int) + 1 - 1) = ns.length := by rw [show (ns.length : Int) + 1 - 1 = ns.length by omega, uw_id (by omega) (by omega)]
    have f6 : bput 0 (rdt s5 (d + 2)) (uAdd d 2) (IntKind.u64.wrap ((ns.length : Int) + 1 - 1)) = (0, wrt (rdt s5 (d + 2)) (d + 2) (ns.length : Int)) := by rw [u2, u3, bput_0 b6 (by rw [rdt_W]; omega)]
    have f7 : (if ((0 : Int) == 0) = true then rGive (wrt (rdt s5 (d + 2)) (d + 2) (ns.length : Int)) 0 nd 2 else (0, wrt (rdt s5 (d + 2)) (d + 2) (ns.length : Int))) = (0, s8) := by rw [if_pos (by decide)]; exact q8
    have hne : (nd + 1 == 0) = false := by simp; omega
    unfold qTake
    simp only [f0, hne, u0, f1, f2, f3, f4, f5, f6, f7]
    simp
  · rw [W8, e7W]; simp [l5]
  · rw [V8]; simp
  · rw [show (0 : Nat) = ((0 : Int)).toNat from rfl, hg8 0 (by omega) (by omega) (by omega), hg7 0 (by omega), if_neg (by omega), if_neg (by omega), if_neg (by omega)]
    show s.W.getD 0 0 = r8.W.getD 0 0
    rw [V8, getD_ne _ (by omega), getD_ne _ (by omega)]
    exact h.eq0
  · by_cases hold : q' ∈ a ∨ q' ∈ b
    · have hq'' : q' ∈ a ++ ⟨d, nd :: ns, y :: ys⟩ :: b := by rcases hold with h | h <;> simp [h]
      refine (h.st q' hq'').keep fun u hu j hj1 hj2 => ?_
      have d1 := hA.oth q' hold u hu _ (pcs_hd _)
      have d2 := hA.oth q' hold u hu (nd, 2) (pcs_nd (by simp))
      obtain ⟨i1, i2, i3, i4⟩ := h.inn hq'' hu
      unfold Disj at d1 d2
      simp only at d1 d2
      rw [hg8 j (by omega) (by omega) (by omega), hg7 j (by omega), if_neg (by omega), if_neg (by omega), if_neg (by omega)]
    · have hq3 : q' = ⟨d, ns, ys⟩ := by
        rcases List.mem_append.1 hq' with h1 | h1
        · exact absurd (.inl h1) hold
        · rcases List.mem_cons.1 h1 with h1 | h1
          · exact h1
          · exact absurd (.inr h1) hold
      subst hq3
      refine ⟨?_, ?_, ?_, w3.keep fun x hx => ?_⟩
      · simp only
        rw [hg8 d (by omega) (by omega) (by omega), hg7 d (by omega), if_neg (by omega), if_neg (by omega), if_pos rfl]
      · simp only
        rw [hg8 (d + 1) (by omega) (by omega) (by omega), hg7 (d + 1) (by omega), if_neg (by omega), if_pos rfl]
      · simp only
        rw [hg8 (d + 2) (by omega) (by omega) (by omega), hg7 (d + 2) (by omega), if_pos rfl]
      · have hnn := hA.nn
        simp only at hnn
        rw [List.pairwise_cons] at hnn
        have d1 := hnn.1 x hx
        have d2 := hA.hn x (by simp [hx])
        obtain ⟨i1, i2, i3, i4⟩ := h.inn hq (pcs_nd (n := x) (by simp [hx]))
        unfold Disj at d1 d2
        simp only at d1 d2 i1 i2 i3 i4
        constructor
        · rw [hg8 x (by omega) (by omega) (by omega), hg7 x (by omega), if_neg (by omega), if_neg (by omega), if_neg (by omega)]
        · rw [hg8 (x + 1) (by omega) (by omega) (by omega), hg7 (x + 1) (by omega), if_neg (by omega), if_neg (by omega), if_neg (by omega)]
  · rw [W8, e7W]; simp; omega
  · rw [V8]; simp; exact hlr
end Go.Proofs.Ytfbbmnlebibplaa
