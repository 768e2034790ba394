/- Queues in a room, on plain words: a word taken out; what is told. No program in sight. -/
import Derived.Test.YtcgdpclhlepofaaPPl1
import Derived.Test.YtcgdpclhlepofaaPPl2
namespace Go.Proofs.Ytcgdpclhlepofaa
open Go.RowKit
set_option linter.unusedVariables false

theorem topOf_cons {n : Int} {ns : List Int} (h : ns ≠ []) : topOf (n :: ns) = topOf ns := by
  unfold topOf
  cases ns with
  | nil => exact absurd rfl h
  | cons m t => simp [List.getLast?_cons_cons]

theorem qTake_none {s : St} {n : Nat} {c : Int} {R : List Int} {qs : List Qr} {q : Qr} {back : Nat → List Int} (hs : Ok s (n + 1)) (h : Qi s.W R c qs back) (hq : q ∈ qs) (h0 : q.nodes = []) :
    qTake s 0 q.hd = (0, false, 0, rdt s q.hd) := by
  obtain ⟨g1, g2, g3, g4⟩ := h.inn hq (pcs_hd q)
  simp only at g1 g2 g3 g4
  have f0 : bget 0 s q.hd = (0, 0, rdt s q.hd) := by rw [bget_live hs (by omega), (h.st q hq).first, h0]; rfl
  unfold qTake
  simp only [f0]
  rfl

theorem qTake_law {s r : St} {n m : Nat} {c : Int} {a b : List Qr} {d : Int} {ns : List Int} {y : Int} {ys : List Int} {nd : Int} {back : Nat → List Int} (hs : Ok s (n + 10)) (hr : Ok r (m + 3)) (h : Qi s.W r.W c (a ++ ⟨d, nd :: ns, y :: ys⟩ :: b) back) :
    ∃ s' r' back', qTake s 0 d = (y, true, 0, s') ∧ rGive r 0 nd 2 = (0, r') ∧ Ok s' n ∧ Ok r' m ∧ s'.W.length = s.W.length ∧ r'.W.length = r.W.length ∧ Qi s'.W r'.W c (a ++ ⟨d, ns, ys⟩ :: b) back' := by
  have hq : (⟨d, nd :: ns, y :: ys⟩ : Qr) ∈ a ++ ⟨d, nd :: ns, y :: ys⟩ :: b := by simp
  obtain ⟨g1, g2, g3, g4⟩ := h.inn hq (pcs_hd _)
  obtain ⟨k1, k2, k3, k4⟩ := h.inn hq (pcs_nd (n := nd) (by simp))
  simp only at g1 g2 g3 g4 k1 k2 k3 k4
  have hlw := h.lw
  have hlr := h.lr
  have hA := h.apt
  have hst := h.st _ hq
  have hcnt := h.cnt
  have hto := h.rm.to0
  simp only [List.length_cons] at hcnt
  have dhn := hA.hn nd (by simp)
  unfold Disj at dhn
  simp only at dhn
  obtain ⟨w1, w2, w3⟩ := hst.lnk
  have wl := hst.last
  have wc := hst.count
  simp only at wl wc
  have hmh : ((d, (3 : Int)) : Int × Int) ∈ outs (a ++ ⟨d, nd :: ns, y :: ys⟩ :: b) := mem_outs hq (pcs_hd _)
  have b0 : Ok s ((n + 9) + 1) := hs
  have b1 := rdt_ok b0 d
  have b2 := rdt_ok b1 nd
  have b3 := rdt_ok b2 (nd + 1)
  have b4 := wrt_ok b3 d (hdOr ns 0)
  have r4 := h.rm.put (j := d) hmh (by simp only; omega) (by simp only; omega) (hdOr ns 0)
  have hlen4 : (s.W.set d.toNat (hdOr ns 0)).length = s.W.length := by simp
  -- the end, where no node is left
  obtain ⟨s5, f4, b5, l5, r5, hg5⟩ : ∃ s5, (if (hdOr ns 0 == 0) = true then bput 0 (wrt (rdt (rdt (rdt s d) nd) (nd + 1)) d (hdOr ns 0)) (uAdd d 1) 0 else (0, wrt (rdt (rdt (rdt s d) nd) (nd + 1)) d (hdOr ns 0))) = (0, s5) ∧ Ok s5 ((n + 4) + 1) ∧ s5.W.length = s.W.length ∧ Rm s5.W 18 c (outs (a ++ ⟨d, nd :: ns, y :: ys⟩ :: b)) back ∧
      ∀ j : Int, 0 ≤ j → s5.W.getD j.toNat 0 = if d + 1 = j then topOf ns else if d = j then hdOr ns 0 else s.W.getD j.toNat 0 := by
    cases ns with
    | nil =>
      refine ⟨wrt (wrt (rdt (rdt (rdt s d) nd) (nd + 1)) d 0) (d + 1) 0, ?_, wrt_ok b4 _ _, ?_, r4.put (j := d + 1) hmh (by simp only; omega) (by simp only; omega) 0, fun j hj => ?_⟩
      · show (if ((0 : Int) == 0) = true then _ else _) = _
        rw [if_pos (by decide), uAdd_id (by omega) (by omega)]
        exact bput_0 b4 (by rw [wrt_W, rdt_W, rdt_W, rdt_W]; simp; omega) _
      · rw [wrt_W, wrt_W, rdt_W, rdt_W, rdt_W]; simp
      · show ((s.W.set d.toNat 0).set (d + 1).toNat 0).getD j.toNat 0 = _
        rw [gs _ (by omega) (by simp; omega) hj, gs _ (by omega) (by omega) hj]
        rfl
    | cons m t =>
      obtain ⟨e1, e2, e3, e4⟩ := h.inn hq (pcs_nd (n := m) (by simp))
      simp only at e1 e2 e3 e4
      refine ⟨wrt (rdt (rdt (rdt s d) nd) (nd + 1)) d (m + 1), ?_, b4.mono (by omega), ?_, r4, fun j hj => ?_⟩
      · show (if ((m + 1 : Int) == 0) = true then _ else _) = _
        rw [if_neg (by simp; omega)]
        rfl
      · rw [wrt_W, rdt_W, rdt_W, rdt_W]; simp
      · show (s.W.set d.toNat (m + 1)).getD j.toNat 0 = _
        rw [gs _ (by omega) (by omega) hj]
        by_cases hj1 : d + 1 = j
        · rw [if_neg (by omega), if_pos hj1, ← hj1, wl, topOf_cons (by simp)]
        · rw [if_neg hj1]
          rfl
  have b6 := rdt_ok b5 (d + 2)
  have b7 := wrt_ok b6 (d + 2) (ns.length : Int)
  have r7 := r5.put (j := d + 2) hmh (by simp only; omega) (by simp only; omega) (ns.length : Int)
  have hout : outs (a ++ ⟨d, nd :: ns, y :: ys⟩ :: b) = (outs a ++ [(d, 3)]) ++ (nd, ((2 : Nat) : Int)) :: (ns.map (fun n => (n, 2)) ++ outs b) := by rw [outs_mid]; simp [pcs]
  have hout2 : outs (a ++ ⟨d, ns, ys⟩ :: b) = (outs a ++ [(d, 3)]) ++ (ns.map (fun n => (n, 2)) ++ outs b) := by rw [outs_mid]; simp [pcs]
  have e7W : (wrt (rdt s5 (d + 2)) (d + 2) (ns.length : Int)).W = s5.W.set (d + 2).toNat (ns.length : Int) := rfl
  have b7' : Ok (wrt (rdt s5 (d + 2)) (d + 2) (ns.length : Int)) (n + 3) := b7
  have rr := h.rr
  rw [hout] at r7 rr
  obtain ⟨s8, q8, o8, W8, rm8⟩ := give_ok b7' (by rw [e7W]; exact r7) (by rw [e7W]; simp; omega)
  obtain ⟨r8, p8, o9, V8, rv8⟩ := give_ok hr rr hlr
  rw [← hout2] at rm8 rv8
  have hg7 : ∀ j : Int, 0 ≤ j → (s5.W.set (d + 2).toNat (ns.length : Int)).getD j.toNat 0 = if d + 2 = j then (ns.length : Int) else if d + 1 = j then topOf ns else if d = j then hdOr ns 0 else s.W.getD j.toNat 0 := fun j hj => by
    rw [gs _ (by omega) (by omega) hj, hg5 j hj]
  have hg8 : ∀ j : Int, 0 ≤ j → j ≠ 3 → j ≠ nd → s8.W.getD j.toNat 0 = (s5.W.set (d + 2).toNat (ns.length : Int)).getD j.toNat 0 := fun j hj h3 hn => by
    rw [W8, e7W, getD_ne _ (by omega), getD_ne _ (by omega)]
  refine ⟨s8, r8, _, ?_, p8, o8, o9, ?_, ?_, rm8, rv8, ?_, fun q' hq' => ?_, ?_, ?_⟩
  · have f0 : bget 0 s d = (nd + 1, 0, rdt s d) := by rw [bget_live b0 (by omega), hst.first]; rfl
    have u0 : IntKind.u64.wrap (nd + 1 - 1) = nd := by rw [show nd + 1 - 1 = nd by omega, uw_id (by omega) (by omega)]
    have u1 : uAdd nd 1 = nd + 1 := uAdd_id (by omega) (by omega)
    have u2 : uAdd d 2 = d + 2 := uAdd_id (by omega) (by omega)
    have f1 : bget 0 (rdt s d) nd = (y, 0, rdt (rdt s d) nd) := by rw [bget_live b1 (by rw [rdt_W]; omega), rdt_W, w1]
    have f2 : bget 0 (rdt (rdt s d) nd) (uAdd nd 1) = (hdOr ns 0, 0, rdt (rdt (rdt s d) nd) (nd + 1)) := by rw [u1, bget_live b2 (by rw [rdt_W, rdt_W]; omega), rdt_W, rdt_W, w2]
    have f3 : bput 0 (rdt (rdt (rdt s d) nd) (nd + 1)) d (hdOr ns 0) = (0, wrt (rdt (rdt (rdt s d) nd) (nd + 1)) d (hdOr ns 0)) := bput_0 b3 (by rw [rdt_W, rdt_W, rdt_W]; omega) _
    have v5 : s5.W.getD (d + 2).toNat 0 = (ns.length : Int) + 1 := by rw [hg5 _ (by omega), if_neg (by omega), if_neg (by omega), wc]; simp
    have f5 : bget 0 s5 (uAdd d 2) = ((ns.length : Int) + 1, 0, rdt s5 (d + 2)) := by rw [u2, bget_live b5 (by omega), v5]
    have u3 : IntKind.u64.wrap ((ns.length : Int) + 1 - 1) = ns.length := by rw [show (ns.length : Int) + 1 - 1 = ns.length by omega, uw_id (by omega) (by omega)]
    have f6 : bput 0 (rdt s5 (d + 2)) (uAdd d 2) (IntKind.u64.wrap ((ns.length : Int) + 1 - 1)) = (0, wrt (rdt s5 (d + 2)) (d + 2) (ns.length : Int)) := by rw [u2, u3, bput_0 b6 (by rw [rdt_W]; omega)]
    have f7 : (if ((0 : Int) == 0) = true then rGive (wrt (rdt s5 (d + 2)) (d + 2) (ns.length : Int)) 0 nd 2 else (0, wrt (rdt s5 (d + 2)) (d + 2) (ns.length : Int))) = (0, s8) := by rw [if_pos (by decide)]; exact q8
    have hne : (nd + 1 == 0) = false := by simp; omega
    unfold qTake
    simp only [f0, hne, u0, f1, f2, f3, f4, f5, f6, f7]
    simp
  · rw [W8, e7W]; simp [l5]
  · rw [V8]; simp
  · rw [show (0 : Nat) = ((0 : Int)).toNat from rfl, hg8 0 (by omega) (by omega) (by omega), hg7 0 (by omega), if_neg (by omega), if_neg (by omega), if_neg (by omega)]
    show s.W.getD 0 0 = r8.W.getD 0 0
    rw [V8, getD_ne _ (by omega), getD_ne _ (by omega)]
    exact h.eq0
  · by_cases hold : q' ∈ a ∨ q' ∈ b
    · have hq'' : q' ∈ a ++ ⟨d, nd :: ns, y :: ys⟩ :: b := by rcases hold with h | h <;> simp [h]
      refine (h.st q' hq'').keep fun u hu j hj1 hj2 => ?_
      have d1 := hA.oth q' hold u hu _ (pcs_hd _)
      have d2 := hA.oth q' hold u hu (nd, 2) (pcs_nd (by simp))
      obtain ⟨i1, i2, i3, i4⟩ := h.inn hq'' hu
      unfold Disj at d1 d2
      simp only at d1 d2
      rw [hg8 j (by omega) (by omega) (by omega), hg7 j (by omega), if_neg (by omega), if_neg (by omega), if_neg (by omega)]
    · have hq3 : q' = ⟨d, ns, ys⟩ := by
        rcases List.mem_append.1 hq' with h1 | h1
        · exact absurd (.inl h1) hold
        · rcases List.mem_cons.1 h1 with h1 | h1
          · exact h1
          · exact absurd (.inr h1) hold
      subst hq3
      refine ⟨?_, ?_, ?_, w3.keep fun x hx => ?_⟩
      · simp only
        rw [hg8 d (by omega) (by omega) (by omega), hg7 d (by omega), if_neg (by omega), if_neg (by omega), if_pos rfl]
      · simp only
        rw [hg8 (d + 1) (by omega) (by omega) (by omega), hg7 (d + 1) (by omega), if_neg (by omega), if_pos rfl]
      · simp only
        rw [hg8 (d + 2) (by omega) (by omega) (by omega), hg7 (d + 2) (by omega), if_pos rfl]
      · have hnn := hA.nn
        simp only at hnn
        rw [List.pairwise_cons] at hnn
        have d1 := hnn.1 x hx
        have d2 := hA.hn x (by simp [hx])
        obtain ⟨i1, i2, i3, i4⟩ := h.inn hq (pcs_nd (n := x) (by simp [hx]))
        unfold Disj at d1 d2
        simp only at d1 d2 i1 i2 i3 i4
        constructor
        · rw [hg8 x (by omega) (by omega) (by omega), hg7 x (by omega), if_neg (by omega), if_neg (by omega), if_neg (by omega)]
        · rw [hg8 (x + 1) (by omega) (by omega) (by omega), hg7 (x + 1) (by omega), if_neg (by omega), if_neg (by omega), if_neg (by omega)]
  · rw [W8, e7W]; simp; omega
  · rw [V8]; simp; exact hlr
end Go.Proofs.Ytcgdpclhlepofaa
/- Queues in a room, on plain words: what is told of a queue; a queue given back; the pieces that were given back. No program in sight. -/
namespace Go.Proofs.Ytcgdpclhlepofaa
open Go.RowKit
set_option linter.unusedVariables false

theorem chainGo_lnk {W : List Int} {most : Int} : ∀ {ns xs : List Int} {acc : List Int} {k : Nat}, Lnk W ns xs 0 → (∀ n ∈ ns, 0 ≤ n ∧ n + 1 < (W.length : Int)) → ((acc.length : Int) + ns.length = most) → ns.length < k → chainGo W most k (hdOr ns 0) acc = (acc ++ ns, true)
  | [], xs, acc, k + 1, _, _, h, _ => by rw [chainGo, if_pos (.inl rfl), List.append_nil]
  | n :: ns, x :: xs, acc, k + 1, hl, hin, h, hk => by
    have hn := hin n (by simp)
    simp only [List.length_cons] at h hk
    show chainGo W most (k + 1) (n + 1) acc = _
    rw [chainGo, if_neg (by omega), if_neg (by omega), hl.2.1, show n + 1 - 1 = n by omega]
    rw [chainGo_lnk hl.2.2 (fun m hm => hin m (by simp [hm])) (by simp; omega) (by omega)]
    simp
  | n :: ns, [], _, _ + 1, hl, _, _, _ => hl.elim
  | _, _, _, 0, _, _, _, hk => by omega

/-- A queue that stands is whole. -/
theorem Qi.whole {W R : List Int} {c : Int} {qs : List Qr} {back : Nat → List Int} (h : Qi W R c qs back) {q : Qr} (hq : q ∈ qs) (hn : (q.nodes.length : Int) ≤ 65536) : Go.Proofs.Ytcgdpclhlepofaa.whole W q.hd = (q.nodes, true) := by
  obtain ⟨g1, g2, g3, g4⟩ := h.inn hq (pcs_hd q)
  simp only at g1 g2 g3 g4
  have hst := h.st q hq
  unfold Go.Proofs.Ytcgdpclhlepofaa.whole
  rw [if_neg (by omega), hst.count, if_neg (by omega), hst.first, chainGo_lnk (acc := []) hst.lnk (fun n hn => by
    have := h.inn hq (pcs_nd hn)
    simp only at this
    omega) (by simp) (by omega)]
  simp only [List.nil_append]
  rw [if_pos ⟨rfl, hst.count.symm, hst.last⟩]
theorem Qi.cnt' {W R : List Int} {c : Int} {qs : List Qr} {q : Qr} {back : Nat → List Int} (h : Qi W R c qs back) (hq : q ∈ qs) : 2 * (q.nodes.length : Int) ≤ c - 18 := by
  obtain ⟨a, b, rfl⟩ := List.append_of_mem hq
  exact h.cnt

theorem qFirst_law {s : St} {n : Nat} {c : Int} {R : List Int} {qs : List Qr} {q : Qr} {back : Nat → List Int} (hs : Ok s (n + 2)) (h : Qi s.W R c qs back) (hq : q ∈ qs) :
    ∃ s', qFirst s q.hd = (q.words.headD 0, !q.words.isEmpty, 0, s') ∧ Ok s' n ∧ s'.W = s.W := by
  obtain ⟨g1, g2, g3, g4⟩ := h.inn hq (pcs_hd q)
  simp only at g1 g2 g3 g4
  have hst := h.st q hq
  have hlw := h.lw
  have b0 : Ok s ((n + 1) + 1) := hs
  have b1 := rdt_ok b0 q.hd
  have f0 : bget 0 s q.hd = (hdOr q.nodes 0, 0, rdt s q.hd) := by rw [bget_live b0 (by omega), hst.first]
  obtain ⟨d, nodes, words⟩ := q
  cases nodes with
  | nil =>
    cases words with
    | nil =>
      refine ⟨rdt s d, ?_, b1.mono (by omega), rfl⟩
      have f0 : bget 0 s d = (0, 0, rdt s d) := f0
      unfold qFirst
      simp only [f0]
      rfl
    | cons x xs => exact hst.lnk.elim
  | cons nd ns =>
    cases words with
    | nil => exact hst.lnk.elim
    | cons x xs =>
      obtain ⟨k1, k2, k3, k4⟩ := h.inn hq (pcs_nd (n := nd) (by simp))
      simp only at k1 k2 k3 k4
      have f0 : bget 0 s d = (nd + 1, 0, rdt s d) := f0
      have u0 : IntKind.u64.wrap (nd + 1 - 1) = nd := by rw [show nd + 1 - 1 = nd by omega, uw_id (by omega) (by omega)]
      have f1 : bget 0 (rdt s d) nd = (x, 0, rdt (rdt s d) nd) := by rw [bget_live b1 (by rw [rdt_W]; omega), rdt_W, hst.lnk.1]
      have hne : (nd + 1 == 0) = false := by simp; omega
      refine ⟨rdt (rdt s d) nd, ?_, rdt_ok b1 _, rfl⟩
      unfold qFirst
      simp only [f0, hne, u0, f1]
      simp
theorem qLen_law {s : St} {n : Nat} {c : Int} {R : List Int} {qs : List Qr} {q : Qr} {back : Nat → List Int} (hs : Ok s (n + 1)) (h : Qi s.W R c qs back) (hq : q ∈ qs) :
    ∃ s', qLen s q.hd = ((q.words.length : Int), 0, s') ∧ Ok s' n ∧ s'.W = s.W := by
  obtain ⟨g1, g2, g3, g4⟩ := h.inn hq (pcs_hd q)
  simp only at g1 g2 g3 g4
  have hst := h.st q hq
  have hlw := h.lw
  refine ⟨rdt s (q.hd + 2), ?_, rdt_ok hs _, rfl⟩
  unfold qLen
  rw [uAdd_id (by omega) (by omega), ← bget_0, bget_live hs (by omega), hst.count, hst.lnk.len]

/-- what the document's Drop gives back, one behind the other -/
def rGives : List Int → St → St
  | [], r => r
  | n :: ns, r => rGives ns (rGive r 0 n 2).2

theorem gives_law {c : Int} : ∀ (ns : List Int) (s r : St) (n m : Nat) (o1 o2 : List (Int × Int)) (back : Nat → List Int), Ok s (n + 3 * ns.length) → Ok r (m + 3 * ns.length) → Rm s.W 18 c (o1 ++ (ns.map (fun n => (n, (2 : Int))) ++ o2)) back → Rm r.W 18 c (o1 ++ (ns.map (fun n => (n, (2 : Int))) ++ o2)) back → s.W.getD 0 0 = r.W.getD 0 0 → (s.W.length : Int) ≤ 4611686018427387904 → (r.W.length : Int) ≤ 4611686018427387904 →
    ∃ s' back', qGiveGo 0 ns 0 s = (0, s') ∧ Ok s' n ∧ Ok (rGives ns r) m ∧ s'.W.length = s.W.length ∧ (rGives ns r).W.length = r.W.length ∧ Rm s'.W 18 c (o1 ++ o2) back' ∧ Rm (rGives ns r).W 18 c (o1 ++ o2) back' ∧ s'.W.getD 0 0 = (rGives ns r).W.getD 0 0 ∧ (∀ u ∈ o1 ++ o2, ∀ j : Int, u.1 ≤ j → j < u.1 + u.2 → s'.W.getD j.toNat 0 = s.W.getD j.toNat 0)
  | [], s, r, n, m, o1, o2, back, hs, hr, h1, h2, h0, _, _ => ⟨s, back, rfl, hs, hr, rfl, rfl, h1, h2, h0, fun _ _ _ _ _ => rfl⟩
  | x :: ns, s, r, n, m, o1, o2, back, hs, hr, h1, h2, h0, hl1, hl2 => by
    have hs' : Ok s ((n + 3 * ns.length) + 3) := hs.mono (by simp; omega)
    have hr' : Ok r ((m + 3 * ns.length) + 3) := hr.mono (by simp; omega)
    have e : o1 ++ ((x :: ns).map (fun n => (n, (2 : Int))) ++ o2) = o1 ++ (x, ((2 : Nat) : Int)) :: (ns.map (fun n => (n, (2 : Int))) ++ o2) := by simp
    rw [e] at h1 h2
    obtain ⟨s1, q1, k1, W1, m1⟩ := give_ok hs' h1 hl1
    obtain ⟨r1, p1, l1, V1, m2⟩ := give_ok hr' h2 hl2
    have hx := h1.outIn (x, ((2 : Nat) : Int)) (by simp)
    have hto := h1.to0
    have hnx := h1.nx1
    simp only at hx
    have hw0 : s1.W.getD 0 0 = r1.W.getD 0 0 := by rw [W1, V1, getD_ne _ (by omega), getD_ne _ (by omega), getD_ne _ (by omega), getD_ne _ (by omega)]; exact h0
    obtain ⟨s2, back2, q2, k2, l2, L1, L2, n1, n2, n0, hk⟩ := gives_law ns s1 r1 n m o1 o2 _ k1 l1 m1 m2 hw0 (by rw [W1]; simpa using hl1) (by rw [V1]; simpa using hl2)
    have er : rGives (x :: ns) r = rGives ns r1 := by rw [rGives]; have p1 : rGive r 0 x 2 = (0, r1) := p1; rw [p1]
    have es : qGiveGo 0 (x :: ns) 0 s = qGiveGo 0 ns 0 s1 := by
      have q1 : rGive s 0 x 2 = (0, s1) := q1
      have : (if ((0 : Int) == 0) = true then rGive s 0 x 2 else (0, s)) = (0, s1) := by rw [if_pos (by decide)]; exact q1
      rw [qGiveGo, this]
    refine ⟨s2, back2, es.trans q2, k2, by rw [er]; exact l2, by rw [L1, W1]; simp, by rw [er, L2, V1]; simp, n1, by rw [er]; exact n2, by rw [er]; exact n0, fun u hu j hj1 hj2 => ?_⟩
    rw [hk u hu j hj1 hj2, W1]
    have hu' : u ∈ o1 ++ (x, ((2 : Nat) : Int)) :: (ns.map (fun n => (n, (2 : Int))) ++ o2) := by
      rcases List.mem_append.1 hu with h | h <;> simp [h]
    have hi := h1.outIn u hu'
    have hd : Disj u (x, ((2 : Nat) : Int)) := by
      have hoo := h1.oo
      rw [List.pairwise_append, List.pairwise_cons] at hoo
      obtain ⟨_, ⟨b1, _⟩, b2⟩ := hoo
      rcases List.mem_append.1 hu with h | h
      · exact b2 u h _ (by simp)
      · exact (b1 u (by simp [h])).symm
    unfold Disj at hd
    simp only at hd
    rw [getD_ne _ (by omega), getD_ne _ (by omega)]

theorem qDrop_good {s r : St} {n m : Nat} {c : Int} {a b : List Qr} {q : Qr} {back : Nat → List Int} (hs : Ok s (n + 70000 + 3 * q.nodes.length)) (hf : Fits s) (hr : Ok r (m + 3 + 3 * q.nodes.length)) (h : Qi s.W r.W c (a ++ q :: b) back) (hc : c ≤ 100000) :
    ∃ s' back', qDrop s 0 q.hd = (0, s') ∧ Ok s' n ∧ Ok (rGive (rGives q.nodes r) 0 q.hd 3).2 m ∧ s'.W.length = s.W.length ∧ (rGive (rGives q.nodes r) 0 q.hd 3).2.W.length = r.W.length ∧ Qi s'.W (rGive (rGives q.nodes r) 0 q.hd 3).2.W c (a ++ b) back' := by
  have hq : q ∈ a ++ q :: b := by simp
  have hcnt := h.cnt
  have hlw := h.lw
  have hlr := h.lr
  obtain ⟨g1, g2, g3, g4⟩ := h.inn hq (pcs_hd q)
  simp only at g1 g2 g3 g4
  have hwh := h.whole hq (by omega)
  obtain ⟨hT, _⟩ := qNodes_law (m := n + 3 + 3 * q.nodes.length) (s := s) (hs.mono (by omega)) hf (by omega) hwh
  rcases hn : qNodes s q.hd with ⟨l1, e1, s1⟩
  rw [hn] at hT
  obtain ⟨t1, t2, t3, t4⟩ := hT rfl
  simp only at t1 t2 t3 t4
  subst t1
  subst t2
  have hout : outs (a ++ q :: b) = (outs a ++ [(q.hd, ((3 : Nat) : Int))]) ++ (q.nodes.map (fun n => (n, (2 : Int))) ++ outs b) := by rw [outs_mid]; simp [pcs]
  have r1 := h.rm
  have r2 := h.rr
  rw [hout] at r1 r2
  rw [← t3] at r1
  obtain ⟨s2, back2, q2, k2, l2, L1, L2, n1, n2, n0, hk⟩ := gives_law q.nodes s1 r (n + 3) (m + 3) _ _ back t4 hr r1 r2 (by rw [t3]; exact h.eq0) (by rw [t3]; exact hlw) hlr
  have e3 : (outs a ++ [(q.hd, ((3 : Nat) : Int))]) ++ outs b = outs a ++ (q.hd, ((3 : Nat) : Int)) :: outs b := by simp
  rw [e3] at n1 n2
  obtain ⟨s3, q3, k3, W3, m3⟩ := give_ok k2 n1 (by rw [L1, t3]; exact hlw)
  obtain ⟨r3, p3, l3, V3, v3⟩ := give_ok l2 n2 (by rw [L2]; exact hlr)
  have er : (rGive (rGives q.nodes r) 0 q.hd 3).2 = r3 := by have p3 : rGive (rGives q.nodes r) 0 q.hd 3 = (0, r3) := p3; rw [p3]
  rw [er]
  refine ⟨s3, _, ?_, k3, l3, by rw [W3]; simp [L1, t3], by rw [V3]; simp [L2], ⟨by rw [outs_append]; exact m3, by rw [outs_append]; exact v3, ?_, fun q' hq' => ?_, by rw [W3]; simp [L1, t3]; exact hlw, by rw [V3]; simp [L2]; exact hlr⟩⟩
  · have q3 : rGive s2 0 q.hd 3 = (0, s3) := q3
    unfold qDrop
    simp only [hn, q2]
    rw [if_pos (by decide)]
    exact q3
  · rw [W3, V3, getD_ne _ (by omega), getD_ne _ (by omega), getD_ne _ (by omega), getD_ne _ (by omega)]
    exact n0
  · have hold : q' ∈ a ∨ q' ∈ b := List.mem_append.1 hq'
    have hq'' : q' ∈ a ++ q :: b := by rcases hold with h | h <;> simp [h]
    refine (h.st q' hq'').keep fun u hu j hj1 hj2 => ?_
    have hmem : u ∈ (outs a ++ [(q.hd, ((3 : Nat) : Int))]) ++ outs b := by
      rcases hold with h | h
      · simp [mem_outs h hu]
      · simp [mem_outs h hu]
    have d1 := h.apt.oth q' hold u hu _ (pcs_hd q)
    obtain ⟨i1, i2, i3, i4⟩ := h.inn hq'' hu
    unfold Disj at d1
    simp only at d1
    rw [W3, getD_ne _ (by omega), getD_ne _ (by omega), hk u hmem j hj1 hj2, t3]

theorem givenGo_end {k : Nat} {a x : Int} {l : List Int} {s s' : St} (h : sget s a = (x, 0, s')) (hx : x = 0) : givenGo k a l s = (l, 0, s') := by
  cases k <;> (rw [givenGo]; simp only [h, hx]; rfl)
theorem givenGo_long {a x : Int} {l : List Int} {s s' : St} (h : sget s a = (x, 0, s')) (hx : x ≠ 0) : givenGo 0 a l s = ([], 2, s') := by
  rw [givenGo]; simp only [h]; rw [if_pos (by decide), if_neg (by simpa using hx)]
theorem givenGo_next {k : Nat} {a x : Int} {l : List Int} {s s' : St} (h : sget s a = (x, 0, s')) (hx : x ≠ 0) : givenGo (k + 1) a l s = givenGo k (IntKind.u64.wrap (x - 1)) (l ++ [IntKind.u64.wrap (x - 1)]) s' := by
  rw [givenGo]; simp only [h]; rw [if_pos (by decide), if_neg (by simpa using hx)]
/-- What was given back is told alike of two rooms that stand alike. -/
theorem givenGo_two {s0 r0 : List Int} {z : Nat} {out : List (Int × Int)} {c : Int} {back : Nat → List Int} (h1 : Rm s0 18 c out back) (h2 : Rm r0 18 c out back) (z1 : 1 ≤ z) (z2 : z ≤ 16) (hl1 : (s0.length : Int) ≤ 4611686018427387904) : ∀ (k : Nat) (b rest : List Int) (a : Int) (l : List Int) (s r : St) (n m : Nat), back z = b ++ rest → s.W = s0 → r.W = r0 → Ok s (n + k + 1) → Ok r (m + k + 1) → 0 ≤ a → a < (s0.length : Int) → a < (r0.length : Int) → s0.getD a.toNat 0 = topOf b → r0.getD a.toNat 0 = topOf b →
    ∃ l' e s' r', givenGo k a l s = (l', e, s') ∧ givenGo k a l r = (l', e, r') ∧ s'.W = s0 ∧ r'.W = r0 ∧ Ok s' n ∧ Ok r' m := by
  intro k
  induction k with
  | zero =>
    intro b rest a l s r n m hb es er hs hr ha ha1 ha2 e1 e2
    have hs' : Ok s (n + 1) := hs
    have hr' : Ok r (m + 1) := hr
    have f1 : sget s a = (topOf b, 0, gone s (false, a, 0)) := by rw [sget_live hs' (by rw [es]; exact ha1), es, e1]
    have f2 : sget r a = (topOf b, 0, gone r (false, a, 0)) := by rw [sget_live hr' (by rw [er]; exact ha2), er, e2]
    by_cases h0 : topOf b = 0
    · exact ⟨l, 0, gone s (false, a, 0), gone r (false, a, 0), givenGo_end f1 h0, givenGo_end f2 h0, es, er, hs'.gone _, hr'.gone _⟩
    · exact ⟨[], 2, gone s (false, a, 0), gone r (false, a, 0), givenGo_long f1 h0, givenGo_long f2 h0, es, er, hs'.gone _, hr'.gone _⟩
  | succ k ih =>
    intro b rest a l s r n m hb es er hs hr ha ha1 ha2 e1 e2
    have hs' : Ok s ((n + k + 1) + 1) := hs
    have hr' : Ok r ((m + k + 1) + 1) := hr
    have f1 : sget s a = (topOf b, 0, gone s (false, a, 0)) := by rw [sget_live hs' (by rw [es]; exact ha1), es, e1]
    have f2 : sget r a = (topOf b, 0, gone r (false, a, 0)) := by rw [sget_live hr' (by rw [er]; exact ha2), er, e2]
    have hcat := List.eq_nil_or_concat b
    simp only [List.concat_eq_append] at hcat
    rcases hcat with rfl | ⟨b', x, rfl⟩
    · exact ⟨l, 0, gone s (false, a, 0), gone r (false, a, 0), givenGo_end f1 topOf_nil, givenGo_end f2 topOf_nil, es, er, (hs'.gone (false, a, 0)).mono (by omega), (hr'.gone (false, a, 0)).mono (by omega)⟩
    · have hx := h1.backIn z z1 z2 x (by rw [hb]; simp)
      have hxr := h2.nx1
      have hxt := h2.to0
      have hx1 := h1.nx1
      have hxt1 := h1.to0
      have hx2 := h2.backIn z z1 z2 x (by rw [hb]; simp)
      have ht : topOf (b' ++ [x]) = x + 1 := topOf_snoc _ _
      have h0 : x + 1 ≠ 0 := by omega
      have u : IntKind.u64.wrap (x + 1 - 1) = x := by rw [show x + 1 - 1 = x by omega, uw_id (by omega) (by omega)]
      have c1 := h1.chain z z1 z2 b' x rest (by rw [hb]; simp)
      have c2 := h2.chain z z1 z2 b' x rest (by rw [hb]; simp)
      rw [ht] at f1 f2
      obtain ⟨l', e, s', r', q1, q2, q3, q4, q5, q6⟩ := ih b' (x :: rest) x (l ++ [x]) (gone s (false, a, 0)) (gone r (false, a, 0)) n m (by rw [hb]; simp) es er (hs'.gone _) (hr'.gone _) (by omega) (by omega) (by omega) c1 c2
      exact ⟨l', e, s', r', by rw [givenGo_next f1 h0, u]; exact q1, by rw [givenGo_next f2 h0, u]; exact q2, q3, q4, q5, q6⟩
theorem given_two {s r : St} {n m : Nat} {c : Int} {qs : List Qr} {back : Nat → List Int} {z : Nat} (hs : Ok s (n + 65537)) (hr : Ok r (m + 65537)) (h : Qi s.W r.W c qs back) (z1 : 1 ≤ z) (z2 : z ≤ 16) :
    ∃ l e s' r', rGiven s 0 z = (l, e, s') ∧ rGiven r 0 z = (l, e, r') ∧ s'.W = s.W ∧ r'.W = r.W ∧ Ok s' n ∧ Ok r' m := by
  have e1 : uAdd (uAdd 0 1) z = 1 + z := by rw [uAdd_uAdd, uAdd_id (by omega) (by omega)]; omega
  have f0 := h.rm.fr0
  have t0 := h.rm.to0
  have nx := h.rm.nx1
  have nx0 := h.rm.nx0
  have t1 := h.rr.to0
  have hz : ((1 : Int) + z).toNat = 1 + z := by omega
  obtain ⟨l, e, s', r', k1, k2, k3, k4, k5, k6⟩ := givenGo_two h.rm h.rr z1 z2 h.lw 65536 (back z) [] (1 + (z : Int)) [] s r n m (by simp) rfl rfl (hs.mono (by omega)) (hr.mono (by omega)) (by omega) (by omega) (by omega) (by rw [hz]; exact h.rm.top z z1 z2) (by rw [hz]; exact h.rr.top z z1 z2)
  refine ⟨l, e, s', r', ?_, ?_, k3, k4, k5, k6⟩
  · unfold rGiven; rw [if_neg (by omega), e1]; exact k1
  · unfold rGiven; rw [if_neg (by omega), e1]; exact k2
end Go.Proofs.Ytcgdpclhlepofaa
/- One queue in a room, and pieces that are out beside it, on plain words. No program in sight. Printed by part/mkpqp.py. -/
namespace Go.Proofs.Ytcgdpclhlepofaa
open Go.RowKit
set_option linter.unusedVariables false
/-- One queue, and pieces that are out. -/
structure Qx (W : List Int) (c : Int) (q : Qr) (X : List (Int × Int)) (back : Nat → List Int) : Prop where
  rm : Rm W 18 c (pcs q ++ X) back
  st : Qst W q
  lw : (W.length : Int) ≤ 4611686018427387904
theorem Qx.inn {W : List Int} {c : Int} {q : Qr} {X : List (Int × Int)} {back : Nat → List Int} (h : Qx W c q X back) {p : Int × Int} (hp : p ∈ pcs q) : 18 ≤ p.1 ∧ p.1 + p.2 ≤ c ∧ p.1 + p.2 ≤ (W.length : Int) := by
  have h1 := h.rm.outIn p (List.mem_append_left X hp)
  have h2 := h.rm.nx1
  have h3 := h.rm.to0
  omega
theorem Qx.xin {W : List Int} {c : Int} {q : Qr} {X : List (Int × Int)} {back : Nat → List Int} (h : Qx W c q X back) {p : Int × Int} (hp : p ∈ X) : 18 ≤ p.1 ∧ p.1 + p.2 ≤ c ∧ p.1 + p.2 ≤ (W.length : Int) := by
  have h1 := h.rm.outIn p (List.mem_append_right (pcs q) hp)
  have h2 := h.rm.nx1
  have h3 := h.rm.to0
  omega
theorem Qx.xo {W : List Int} {c : Int} {q : Qr} {X : List (Int × Int)} {back : Nat → List Int} (h : Qx W c q X back) : ∀ u ∈ pcs q, ∀ v ∈ X, Disj u v := by
  have ho := h.rm.oo
  rw [List.pairwise_append] at ho
  exact ho.2.2
structure Aqt (q : Qr) : Prop where
  hn : ∀ n ∈ q.nodes, Disj (q.hd, 3) (n, 2)
  nn : q.nodes.Pairwise fun x y => Disj (x, 2) (y, 2)
theorem Qx.apt {W : List Int} {c : Int} {q : Qr} {X : List (Int × Int)} {back : Nat → List Int} (h : Qx W c q X back) : Aqt q := by
  have ho := h.rm.oo
  rw [List.pairwise_append] at ho
  obtain ⟨h3, _, _⟩ := ho
  unfold pcs at h3
  rw [List.pairwise_cons] at h3
  obtain ⟨h5, h6⟩ := h3
  exact ⟨fun n hn => h5 _ (List.mem_map.2 ⟨n, hn, rfl⟩), List.pairwise_map.1 h6⟩
theorem Qx.cnt {W : List Int} {c : Int} {q : Qr} {X : List (Int × Int)} {back : Nat → List Int} (h : Qx W c q X back) : 2 * (q.nodes.length : Int) ≤ c - 18 := by
  have h0 := h.inn (pcs_hd q)
  refine cnt_le _ q.nodes 18 c (Nat.le_refl _) h.apt.nn (fun x hx => ?_) (by simp only at h0; omega)
  have := h.inn (pcs_nd hx)
  simp only at this
  omega
theorem qPut_x {s : St} {n : Nat} {c : Int} {q : Qr} {X : List (Int × Int)} {back : Nat → List Int} (x : Int) (hs : Ok s (n + 11)) (h : Qx s.W c q X back) (hcap : back 2 = [] → s.W.getD 0 0 + 2 ≤ c) :
    ∃ p s' back', qPut s 0 q.hd x = (0, s') ∧ Ok s' n ∧ 0 ≤ p ∧ p ≤ 4611686018427387904 ∧ s'.W.length = s.W.length ∧ Qx s'.W c ⟨q.hd, q.nodes ++ [p], q.words ++ [x]⟩ X back' ∧ s'.W.getD 0 0 ≤ s.W.getD 0 0 + 2 ∧ (∀ u ∈ X, ∀ j : Int, u.1 ≤ j → j < u.1 + u.2 → s'.W.getD j.toNat 0 = s.W.getD j.toNat 0) := by
  have hs3 : Ok s ((n + 7) + 4) := hs
  obtain ⟨g1, g2, g3⟩ := h.inn (pcs_hd q)
  simp only at g1 g2 g3
  have hlw := h.lw
  have hA := h.apt
  have hst := h.st
  rcases take_ok (z := 2) hs3 h.rm (by omega) (by omega) h.lw with ⟨a1, a2, _⟩ | ⟨p, s1, back', a1, a3, a5, a6, a7, a10, a11, a13, a14, -⟩
  · exact absurd a2 (by have := hcap a1; omega)
  · have t0 := a7.to0
    have hl1 : p + 2 ≤ (s1.W.length : Int) := by simpa using Int.le_trans a6 t0
    have e18 : ∀ j : Int, 18 ≤ j → s1.W.getD j.toNat 0 = s.W.getD j.toNat 0 := fun j hj => a13 _ (by omega)
    have dh : Disj (q.hd, 3) (p, 2) := a10 _ (List.mem_append_left X (pcs_hd q))
    have hmp : ((p, (2 : Int)) : Int × Int) ∈ (pcs q ++ X) ++ [(p, ((2 : Nat) : Int))] := by simp
    have hmh : ((q.hd, (3 : Int)) : Int × Int) ∈ (pcs q ++ X) ++ [(p, ((2 : Nat) : Int))] := List.mem_append_left _ (List.mem_append_left X (pcs_hd q))
    -- where the last link lies
    obtain ⟨L, hL⟩ : ∃ L : Int, (q.nodes = [] ∧ L = q.hd) ∨ ∃ ns d, q.nodes = ns ++ [d] ∧ L = d + 1 := by
      rcases List.eq_nil_or_concat q.nodes with e | ⟨ns, d, e⟩
      · exact ⟨q.hd, .inl ⟨e, rfl⟩⟩
      · exact ⟨d + 1, .inr ⟨ns, d, by simpa using e, rfl⟩⟩
    have HL := Lib.hid hL
    clear hL
    have hLin : ∃ pc ∈ pcs q, pc.1 ≤ L ∧ L < pc.1 + pc.2 := by
      rcases HL.out with ⟨e, rfl⟩ | ⟨ns, d, e, rfl⟩
      · exact ⟨_, pcs_hd q, by simp, by simp only; omega⟩
      · exact ⟨(d, 2), pcs_nd (by rw [e]; simp), by simp only; omega, by simp only; omega⟩
    obtain ⟨pc, hpc, hL1, hL2⟩ := hLin
    obtain ⟨i1, i2, i3⟩ := h.inn hpc
    have dpc : Disj pc (p, 2) := a10 _ (List.mem_append_left X hpc)
    have hmL : pc ∈ (pcs q ++ X) ++ [(p, ((2 : Nat) : Int))] := List.mem_append_left _ (List.mem_append_left X hpc)
    have hL3 : L ≠ q.hd + 1 ∧ L ≠ q.hd + 2 := by
      rcases HL.out with ⟨e, rfl⟩ | ⟨ns, d, e, rfl⟩
      · omega
      · have := hA.hn d (by rw [e]; simp)
        unfold Disj at this
        simp only at this
        omega
    unfold Disj at dh dpc
    simp only at dh dpc
    have b1 : Ok s1 ((n + 6) + 1) := a3
    have b2 := wrt_ok b1 p x
    have b3 := wrt_ok b2 (p + 1) 0
    have b4 := rdt_ok b3 (q.hd + 1)
    have b5 := wrt_ok b4 L (p + 1)
    have b6 := wrt_ok b5 (q.hd + 1) (p + 1)
    have b7 := rdt_ok b6 (q.hd + 2)
    have b8 := wrt_ok b7 (q.hd + 2) (q.nodes.length + 1)
    have r1 := a7.put (j := p) hmp (by simp only; omega) (by simp only; omega) x
    have r2 := r1.put (j := p + 1) hmp (by simp only; omega) (by simp only; omega) 0
    have r3 := r2.put (j := L) hmL hL1 hL2 (p + 1)
    have r4 := r3.put (j := q.hd + 1) hmh (by simp only; omega) (by simp only; omega) (p + 1)
    have r5 := r4.put (j := q.hd + 2) hmh (by simp only; omega) (by simp only; omega) (q.nodes.length + 1)
    obtain ⟨W', hW'⟩ : ∃ W', W' = ((((s1.W.set p.toNat x).set (p + 1).toNat 0).set L.toNat (p + 1)).set (q.hd + 1).toNat (p + 1)).set (q.hd + 2).toNat ((q.nodes.length : Int) + 1) := ⟨_, rfl⟩
    have hlen1 : (s1.W.length : Int) = s.W.length := by rw [a11]
    have hg : ∀ j : Int, 0 ≤ j → W'.getD j.toNat 0 = if q.hd + 2 = j then (q.nodes.length : Int) + 1 else if q.hd + 1 = j then p + 1 else if L = j then p + 1 else if p + 1 = j then 0 else if p = j then x else s1.W.getD j.toNat 0 := fun j hj => by
      rw [hW', gs _ (by omega) (by simp; omega) hj, gs _ (by omega) (by simp; omega) hj, gs _ (by omega) (by simp; omega) hj, gs _ (by omega) (by simp; omega) hj, gs _ (by omega) (by omega) hj]
    have v1 : ((s1.W.set p.toNat x).set (p + 1).toNat 0).getD (q.hd + 1).toNat 0 = topOf q.nodes := by
      rw [gs _ (by omega) (by simp; omega) (by omega), gs _ (by omega) (by omega) (by omega), if_neg (by omega), if_neg (by omega), e18 _ (by omega)]
      exact hst.last
    have v2 : ((((s1.W.set p.toNat x).set (p + 1).toNat 0).set L.toNat (p + 1)).set (q.hd + 1).toNat (p + 1)).getD (q.hd + 2).toNat 0 = q.nodes.length := by
      rw [gs _ (by omega) (by simp; omega) (by omega), gs _ (by omega) (by simp; omega) (by omega), gs _ (by omega) (by simp; omega) (by omega), gs _ (by omega) (by omega) (by omega), if_neg (by omega), if_neg (by omega), if_neg (by omega), if_neg (by omega), e18 _ (by omega)]
      exact hst.count
    refine ⟨p, wrt (rdt (wrt (wrt (rdt (wrt (wrt s1 p x) (p + 1) 0) (q.hd + 1)) L (p + 1)) (q.hd + 1) (p + 1)) (q.hd + 2)) (q.hd + 2) (q.nodes.length + 1), back', ?_, b8, by omega, by omega, ?_, ?_, ?_, ?_⟩
    · have hcnt := h.cnt
      have hto := h.rm.to0
      have u1 : uAdd p 1 = p + 1 := uAdd_id (by omega) (by omega)
      have u2 : uAdd q.hd 1 = q.hd + 1 := uAdd_id (by omega) (by omega)
      have u3 : uAdd q.hd 2 = q.hd + 2 := uAdd_id (by omega) (by omega)
      have u4 : uAdd (q.nodes.length : Int) 1 = q.nodes.length + 1 := uAdd_id (by omega) (by omega)
      have a1 : rTake s 0 2 = (p, 0, s1) := a1
      have f1 : bput 0 s1 p x = (0, wrt s1 p x) := bput_0 b1 (by omega) _
      have f2 : bput 0 (wrt s1 p x) (uAdd p 1) 0 = (0, wrt (wrt s1 p x) (p + 1) 0) := by rw [u1, bput_0 b2 (by rw [wrt_W]; simp; omega)]
      have f3 : bget 0 (wrt (wrt s1 p x) (p + 1) 0) (uAdd q.hd 1) = (topOf q.nodes, 0, rdt (wrt (wrt s1 p x) (p + 1) 0) (q.hd + 1)) := by
        rw [u2, bget_live b3 (by rw [wrt_W, wrt_W]; simp; omega), wrt_W, wrt_W, v1]
      have f4 : (if (topOf q.nodes == 0) = true then bput 0 (rdt (wrt (wrt s1 p x) (p + 1) 0) (q.hd + 1)) q.hd (uAdd p 1) else bput 0 (rdt (wrt (wrt s1 p x) (p + 1) 0) (q.hd + 1)) (uAdd (IntKind.u64.wrap (topOf q.nodes - 1)) 1) (uAdd p 1)) = (0, wrt (rdt (wrt (wrt s1 p x) (p + 1) 0) (q.hd + 1)) L (p + 1)) := by
        rw [u1]
        rcases HL.out with ⟨e, e2⟩ | ⟨ns, d, e, e2⟩
        · rw [e, topOf_nil, if_pos (by decide), e2]
          exact bput_0 b4 (by rw [rdt_W, wrt_W, wrt_W]; simp; omega) _
        · rw [e, topOf_snoc, if_neg (by simp; omega), uw_id (by omega) (by omega), uAdd_id (by omega) (by omega), show d + 1 - 1 + 1 = L by omega]
          exact bput_0 b4 (by rw [rdt_W, wrt_W, wrt_W]; simp; omega) _
      have f5 : bput 0 (wrt (rdt (wrt (wrt s1 p x) (p + 1) 0) (q.hd + 1)) L (p + 1)) (uAdd q.hd 1) (uAdd p 1) = (0, wrt (wrt (rdt (wrt (wrt s1 p x) (p + 1) 0) (q.hd + 1)) L (p + 1)) (q.hd + 1) (p + 1)) := by
        rw [u1, u2, bput_0 b5 (by rw [wrt_W, rdt_W, wrt_W, wrt_W]; simp; omega)]
      have f6 : bget 0 (wrt (wrt (rdt (wrt (wrt s1 p x) (p + 1) 0) (q.hd + 1)) L (p + 1)) (q.hd + 1) (p + 1)) (uAdd q.hd 2) = ((q.nodes.length : Int), 0, rdt (wrt (wrt (rdt (wrt (wrt s1 p x) (p + 1) 0) (q.hd + 1)) L (p + 1)) (q.hd + 1) (p + 1)) (q.hd + 2)) := by
        rw [u3, bget_live b6 (by rw [wrt_W, wrt_W, rdt_W, wrt_W, wrt_W]; simp; omega), wrt_W, wrt_W, rdt_W, wrt_W, wrt_W, v2]
      have f7 : bput 0 (rdt (wrt (wrt (rdt (wrt (wrt s1 p x) (p + 1) 0) (q.hd + 1)) L (p + 1)) (q.hd + 1) (p + 1)) (q.hd + 2)) (uAdd q.hd 2) (uAdd (q.nodes.length : Int) 1) = (0, wrt (rdt (wrt (wrt (rdt (wrt (wrt s1 p x) (p + 1) 0) (q.hd + 1)) L (p + 1)) (q.hd + 1) (p + 1)) (q.hd + 2)) (q.hd + 2) (q.nodes.length + 1)) := by
        rw [u3, u4, bput_0 b7 (by rw [rdt_W, wrt_W, wrt_W, rdt_W, wrt_W, wrt_W]; simp; omega)]
      unfold qPut
      simp only [a1, f1, f2, f3, f4, f5, f6, f7]
    · show (((((s1.W.set p.toNat x).set (p + 1).toNat 0).set L.toNat (p + 1)).set (q.hd + 1).toNat (p + 1)).set (q.hd + 2).toNat ((q.nodes.length : Int) + 1)).length = _
      simp [a11]
    · have eW : (wrt (rdt (wrt (wrt (rdt (wrt (wrt s1 p x) (p + 1) 0) (q.hd + 1)) L (p + 1)) (q.hd + 1) (p + 1)) (q.hd + 2)) (q.hd + 2) (q.nodes.length + 1)).W = W' := hW'.symm
      rw [eW]
      have hperm : ((pcs q ++ X) ++ [(p, ((2 : Nat) : Int))]).Perm (pcs ⟨q.hd, q.nodes ++ [p], q.words ++ [x]⟩ ++ X) := by
        have e : pcs ⟨q.hd, q.nodes ++ [p], q.words ++ [x]⟩ = pcs q ++ [(p, 2)] := by simp [pcs]
        rw [e]
        simp only [List.append_assoc]
        exact List.Perm.append_left _ List.perm_append_comm
      rw [← hW'] at r5
      refine ⟨r5.perm hperm, ?_, by rw [hW']; simp; omega⟩
      have wp : W'.getD p.toNat 0 = x := by rw [hg p (by omega), if_neg (by omega), if_neg (by omega), if_neg (by omega), if_neg (by omega), if_pos rfl]
      have wp1 : W'.getD (p + 1).toNat 0 = 0 := by rw [hg (p + 1) (by omega), if_neg (by omega), if_neg (by omega), if_neg (by omega), if_pos rfl]
      refine ⟨?_, ?_, ?_, ?_⟩
      · simp only
        rcases HL.out with ⟨e, rfl⟩ | ⟨ns, d, e, rfl⟩
        · rw [hg q.hd (by omega), if_neg (by omega), if_neg (by omega), if_pos rfl, e]; rfl
        · have hd := hA.hn d (by rw [e]; simp)
          unfold Disj at hd
          simp only at hd
          rw [hg q.hd (by omega), if_neg (by omega), if_neg (by omega), if_neg (by omega), if_neg (by omega), if_neg (by omega), e18 _ (by omega), hst.first, e]
          cases ns <;> rfl
      · simp only
        rw [hg (q.hd + 1) (by omega), if_neg (by omega), if_pos rfl, topOf_snoc]
      · simp only
        rw [hg (q.hd + 2) (by omega), if_pos rfl]; simp
      · simp only
        rcases HL.out with ⟨e, rfl⟩ | ⟨ns, d, e, rfl⟩
        · have hw : q.words = [] := List.eq_nil_of_length_eq_zero (by rw [← hst.lnk.len, e]; rfl)
          rw [e, hw]
          exact ⟨wp, wp1, trivial⟩
        · have hlk := hst.lnk
          have hnn := hA.nn
          rw [e] at hlk hnn ⊢
          rw [List.pairwise_append] at hnn
          have hdd := hA.hn d (by rw [e]; simp)
          have hdp := a10 _ (List.mem_append_left X (pcs_nd (q := q) (n := d) (by rw [e]; simp)))
          obtain ⟨f1, f2, f3⟩ := h.inn (pcs_nd (q := q) (n := d) (by rw [e]; simp))
          unfold Disj at hdd hdp
          simp only at hdd hdp f1 f2 f3
          refine Lnk.snoc (Lnk.lead (W := s.W) hlk (fun y hy => ?_) ?_ ?_) wp wp1
          · have hyd := hnn.2.2 y hy d (by simp)
            have hyh := hA.hn y (by rw [e]; simp [hy])
            have hyp := a10 _ (List.mem_append_left X (pcs_nd (q := q) (n := y) (by rw [e]; simp [hy])))
            obtain ⟨f1, f2, f3⟩ := h.inn (pcs_nd (q := q) (n := y) (by rw [e]; simp [hy]))
            unfold Disj at hyd hyh hyp
            simp only at hyd hyh hyp f1 f2 f3
            constructor
            · rw [hg y (by omega), if_neg (by omega), if_neg (by omega), if_neg (by omega), if_neg (by omega), if_neg (by omega), e18 _ (by omega)]
            · rw [hg (y + 1) (by omega), if_neg (by omega), if_neg (by omega), if_neg (by omega), if_neg (by omega), if_neg (by omega), e18 _ (by omega)]
          · rw [hg d (by omega), if_neg (by omega), if_neg (by omega), if_neg (by omega), if_neg (by omega), if_neg (by omega), e18 _ (by omega)]
          · rw [hg (d + 1) (by omega), if_neg (by omega), if_neg (by omega), if_pos rfl]
    · show (((((s1.W.set p.toNat x).set (p + 1).toNat 0).set L.toNat (p + 1)).set (q.hd + 1).toNat (p + 1)).set (q.hd + 2).toNat ((q.nodes.length : Int) + 1)).getD 0 0 ≤ _
      rw [← hW']
      rw [show (0 : Nat) = ((0 : Int)).toNat from rfl, hg 0 (by omega), if_neg (by omega), if_neg (by omega), if_neg (by omega), if_neg (by omega), if_neg (by omega)]
      exact a14
    · intro u hu j hj1 hj2
      show (((((s1.W.set p.toNat x).set (p + 1).toNat 0).set L.toNat (p + 1)).set (q.hd + 1).toNat (p + 1)).set (q.hd + 2).toNat ((q.nodes.length : Int) + 1)).getD j.toNat 0 = _
      rw [← hW']
      have d1 := h.xo _ (pcs_hd q) u hu
      have d2 := h.xo _ hpc u hu
      have d3 := a10 u (List.mem_append_right _ hu)
      obtain ⟨m1, m2, m3⟩ := h.xin hu
      unfold Disj at d1 d2 d3
      simp only at d1 d2 d3
      rw [hg j (by omega), if_neg (by omega), if_neg (by omega), if_neg (by omega), if_neg (by omega), if_neg (by omega)]
      exact e18 j (by omega)
theorem qTake_x {s : St} {n : Nat} {c : Int} {d : Int} {ns : List Int} {y : Int} {ys : List Int} {nd : Int} {X : List (Int × Int)} {back : Nat → List Int} (hs : Ok s (n + 10)) (h : Qx s.W c ⟨d, nd :: ns, y :: ys⟩ X back) :
    ∃ s' back', qTake s 0 d = (y, true, 0, s') ∧ Ok s' n ∧ s'.W.length = s.W.length ∧ Qx s'.W c ⟨d, ns, ys⟩ X back' ∧ (∀ u ∈ X, ∀ j : Int, u.1 ≤ j → j < u.1 + u.2 → s'.W.getD j.toNat 0 = s.W.getD j.toNat 0) := by
  obtain ⟨g1, g2, g3⟩ := h.inn (pcs_hd _)
  obtain ⟨k1, k2, k3⟩ := h.inn (pcs_nd (n := nd) (by simp))
  simp only at g1 g2 g3 k1 k2 k3
  have hlw := h.lw
  have hA := h.apt
  have hst := h.st
  have hcnt := h.cnt
  have hto := h.rm.to0
  simp only [List.length_cons] at hcnt
  have dhn := hA.hn nd (by simp)
  unfold Disj at dhn
  simp only at dhn
  obtain ⟨w1, w2, w3⟩ := hst.lnk
  have wl := hst.last
  have wc := hst.count
  simp only at wl wc
  have hmh : ((d, (3 : Int)) : Int × Int) ∈ (pcs ⟨d, nd :: ns, y :: ys⟩ ++ X) := List.mem_append_left X (pcs_hd _)
  have b0 : Ok s ((n + 9) + 1) := hs
  have b1 := rdt_ok b0 d
  have b2 := rdt_ok b1 nd
  have b3 := rdt_ok b2 (nd + 1)
  have b4 := wrt_ok b3 d (hdOr ns 0)
  have r4 := h.rm.put (j := d) hmh (by simp only; omega) (by simp only; omega) (hdOr ns 0)
  have hlen4 : (s.W.set d.toNat (hdOr ns 0)).length = s.W.length := by simp
  -- the end, where no node is left
  obtain ⟨s5, f4, b5, l5, r5, hg5⟩ : ∃ s5, (if (hdOr ns 0 == 0) = true then bput 0 (wrt (rdt (rdt (rdt s d) nd) (nd + 1)) d (hdOr ns 0)) (uAdd d 1) 0 else (0, wrt (rdt (rdt (rdt s d) nd) (nd + 1)) d (hdOr ns 0))) = (0, s5) ∧ Ok s5 ((n + 4) + 1) ∧ s5.W.length = s.W.length ∧ Rm s5.W 18 c ((pcs ⟨d, nd :: ns, y :: ys⟩ ++ X)) back ∧
      ∀ j : Int, 0 ≤ j → s5.W.getD j.toNat 0 = if d + 1 = j then topOf ns else if d = j then hdOr ns 0 else s.W.getD j.toNat 0 := by
    cases ns with
    | nil =>
      refine ⟨wrt (wrt (rdt (rdt (rdt s d) nd) (nd + 1)) d 0) (d + 1) 0, ?_, wrt_ok b4 _ _, ?_, r4.put (j := d + 1) hmh (by simp only; omega) (by simp only; omega) 0, fun j hj => ?_⟩
      · show (if ((0 : Int) == 0) = true then _ else _) = _
        rw [if_pos (by decide), uAdd_id (by omega) (by omega)]
        exact bput_0 b4 (by rw [wrt_W, rdt_W, rdt_W, rdt_W]; simp; omega) _
      · rw [wrt_W, wrt_W, rdt_W, rdt_W, rdt_W]; simp
      · show ((s.W.set d.toNat 0).set (d + 1).toNat 0).getD j.toNat 0 = _
        rw [gs _ (by omega) (by simp; omega) hj, gs _ (by omega) (by omega) hj]
        rfl
    | cons m t =>
      obtain ⟨e1, e2, e3⟩ := h.inn (pcs_nd (n := m) (by simp))
      simp only at e1 e2 e3
      refine ⟨wrt (rdt (rdt (rdt s d) nd) (nd + 1)) d (m + 1), ?_, b4.mono (by omega), ?_, r4, fun j hj => ?_⟩
      · show (if ((m + 1 : Int) == 0) = true then _ else _) = _
        rw [if_neg (by simp; omega)]
        rfl
      · rw [wrt_W, rdt_W, rdt_W, rdt_W]; simp
      · show (s.W.set d.toNat (m + 1)).getD j.toNat 0 = _
        rw [gs _ (by omega) (by omega) hj]
        by_cases hj1 : d + 1 = j
        · rw [if_neg (by omega), if_pos hj1, ← hj1, wl, topOf_cons (by simp)]
        · rw [if_neg hj1]
          rfl
  have b6 := rdt_ok b5 (d + 2)
  have b7 := wrt_ok b6 (d + 2) (ns.length : Int)
  have r7 := r5.put (j := d + 2) hmh (by simp only; omega) (by simp only; omega) (ns.length : Int)
  have hout : (pcs ⟨d, nd :: ns, y :: ys⟩ ++ X) = [((d : Int), (3 : Int))] ++ (nd, ((2 : Nat) : Int)) :: (ns.map (fun n => (n, 2)) ++ X) := by simp [pcs]
  have hout2 : (pcs ⟨d, ns, ys⟩ ++ X) = [((d : Int), (3 : Int))] ++ (ns.map (fun n => (n, 2)) ++ X) := by simp [pcs]
  have e7W : (wrt (rdt s5 (d + 2)) (d + 2) (ns.length : Int)).W = s5.W.set (d + 2).toNat (ns.length : Int) := rfl
  have b7' : Ok (wrt (rdt s5 (d + 2)) (d + 2) (ns.length : Int)) (n + 3) := b7
  rw [hout] at r7
  obtain ⟨s8, q8, o8, W8, rm8⟩ := give_ok b7' (by rw [e7W]; exact r7) (by rw [e7W]; simp; omega)
  rw [← hout2] at rm8
  have hg7 : ∀ j : Int, 0 ≤ j → (s5.W.set (d + 2).toNat (ns.length : Int)).getD j.toNat 0 = if d + 2 = j then (ns.length : Int) else if d + 1 = j then topOf ns else if d = j then hdOr ns 0 else s.W.getD j.toNat 0 := fun j hj => by
    rw [gs _ (by omega) (by omega) hj, hg5 j hj]
  have hg8 : ∀ j : Int, 0 ≤ j → j ≠ 3 → j ≠ nd → s8.W.getD j.toNat 0 = (s5.W.set (d + 2).toNat (ns.length : Int)).getD j.toNat 0 := fun j hj h3 hn => by
    rw [W8, e7W, getD_ne _ (by omega), getD_ne _ (by omega)]
  refine ⟨s8, _, ?_, o8, ?_, ⟨rm8, ?_, ?_⟩, fun u hu j hj1 hj2 => ?_⟩
  · have f0 : bget 0 s d = (nd + 1, 0, rdt s d) := by rw [bget_live b0 (by omega), hst.first]; rfl
    have u0 : IntKind.u64.wrap (nd + 1 - 1) = nd := by rw [show nd + 1 - 1 = nd by omega, uw_id (by omega) (by omega)]
    have u1 : uAdd nd 1 = nd + 1 := uAdd_id (by omega) (by omega)
    have u2 : uAdd d 2 = d + 2 := uAdd_id (by omega) (by omega)
    have f1 : bget 0 (rdt s d) nd = (y, 0, rdt (rdt s d) nd) := by rw [bget_live b1 (by rw [rdt_W]; omega), rdt_W, w1]
    have f2 : bget 0 (rdt (rdt s d) nd) (uAdd nd 1) = (hdOr ns 0, 0, rdt (rdt (rdt s d) nd) (nd + 1)) := by rw [u1, bget_live b2 (by rw [rdt_W, rdt_W]; omega), rdt_W, rdt_W, w2]
    have f3 : bput 0 (rdt (rdt (rdt s d) nd) (nd + 1)) d (hdOr ns 0) = (0, wrt (rdt (rdt (rdt s d) nd) (nd + 1)) d (hdOr ns 0)) := bput_0 b3 (by rw [rdt_W, rdt_W, rdt_W]; omega) _
    have v5 : s5.W.getD (d + 2).toNat 0 = (ns.length : Int) + 1 := by rw [hg5 _ (by omega), if_neg (by omega), if_neg (by omega), wc]; simp
    have f5 : bget 0 s5 (uAdd d 2) = ((ns.length : Int) + 1, 0, rdt s5 (d + 2)) := by rw [u2, bget_live b5 (by omega), v5]
    have u3 : IntKind.u64.wrap ((ns.length : Int) + 1 - 1) = ns.length := by rw [show (ns.length : Int) + 1 - 1 = ns.length by omega, uw_id (by omega) (by omega)]
    have f6 : bput 0 (rdt s5 (d + 2)) (uAdd d 2) (IntKind.u64.wrap ((ns.length : Int) + 1 - 1)) = (0, wrt (rdt s5 (d + 2)) (d + 2) (ns.length : Int)) := by rw [u2, u3, bput_0 b6 (by rw [rdt_W]; omega)]
    have f7 : (if ((0 : Int) == 0) = true then rGive (wrt (rdt s5 (d + 2)) (d + 2) (ns.length : Int)) 0 nd 2 else (0, wrt (rdt s5 (d + 2)) (d + 2) (ns.length : Int))) = (0, s8) := by rw [if_pos (by decide)]; exact q8
    have hne : (nd + 1 == 0) = false := by simp; omega
    unfold qTake
    simp only [f0, hne, u0, f1, f2, f3, f4, f5, f6, f7]
    simp
  · rw [W8, e7W]; simp [l5]
  · refine ⟨?_, ?_, ?_, w3.keep fun x hx => ?_⟩
    · simp only
      rw [hg8 d (by omega) (by omega) (by omega), hg7 d (by omega), if_neg (by omega), if_neg (by omega), if_pos rfl]
    · simp only
      rw [hg8 (d + 1) (by omega) (by omega) (by omega), hg7 (d + 1) (by omega), if_neg (by omega), if_pos rfl]
    · simp only
      rw [hg8 (d + 2) (by omega) (by omega) (by omega), hg7 (d + 2) (by omega), if_pos rfl]
    · have hnn := hA.nn
      simp only at hnn
      rw [List.pairwise_cons] at hnn
      have d1 := hnn.1 x hx
      have d2 := hA.hn x (by simp [hx])
      obtain ⟨i1, i2, i3⟩ := h.inn (pcs_nd (n := x) (by simp [hx]))
      unfold Disj at d1 d2
      simp only at d1 d2 i1 i2 i3
      constructor
      · rw [hg8 x (by omega) (by omega) (by omega), hg7 x (by omega), if_neg (by omega), if_neg (by omega), if_neg (by omega)]
      · rw [hg8 (x + 1) (by omega) (by omega) (by omega), hg7 (x + 1) (by omega), if_neg (by omega), if_neg (by omega), if_neg (by omega)]
  · rw [W8, e7W]; simp; omega
  · have d1 := h.xo _ (pcs_hd _) u hu
    have d2 := h.xo (nd, 2) (pcs_nd (by simp)) u hu
    obtain ⟨m1, m2, m3⟩ := h.xin hu
    unfold Disj at d1 d2
    simp only at d1 d2
    rw [hg8 j (by omega) (by omega) (by omega), hg7 j (by omega), if_neg (by omega), if_neg (by omega), if_neg (by omega)]
end Go.Proofs.Ytcgdpclhlepofaa
/- A part's nodes gone over, as plain functions of words. No program in sight. -/
namespace Go.Proofs.Ytcgdpclhlepofaa
open Go.RowKit

/-- k: how many nodes more may come; next: the next link; n: how many nodes there were; step: what is done at a node with its word -/
def pEach (step : Int → Int → List Int → St → Int × List Int × St) (count : Int) : Nat → Int → Int → List Int → St → Int × List Int × St
  | 0, _, _, l, s => (0, l, s)
  | k + 1, next, n, l, s =>
    if (next == 0) = true then (0, l, s) else
    match sget s (IntKind.u64.wrap (next - 1)) with
    | (w, e, s1) => if (e != 0) = true then (e, l, s1) else
      match step (IntKind.u64.wrap (next - 1)) w l s1 with
      | (e2, l2, s2) => if (e2 != 0) = true then (e2, l2, s2) else
        match sget s2 (uAdd (IntKind.u64.wrap (next - 1)) 1) with
        | (nx, e3, s3) => if (e3 != 0) = true then (e3, l2, s3) else
          if ((nx == 0) == (n + 1 == count)) = true then pEach step count k nx (n + 1) l2 s3 else (360, l2, s3)
def pAll (step : Int → Int → List Int → St → Int × List Int × St) (kind first count : Int) (s : St) : Int × List Int × St :=
  if kind ≠ 1 ∧ kind ≠ 2 then (2, [], s) else if 65536 < count ∨ ((first == 0) != (count == 0)) = true then (360, [], s) else pEach step count 65537 first 0 [] s
def stRead : Int → Int → List Int → St → Int × List Int × St := fun _ w l s => (0, l ++ [w], s)
def stNode : Int → Int → List Int → St → Int × List Int × St := fun n _ l s => (0, l ++ [n], s)
def stTurn (f : Int → Int) : Int → Int → List Int → St → Int × List Int × St := fun n w l s => match sput s n (f w) with | (e, s1) => (e, l, s1)
def pRead (kind first count : Int) (s : St) : List Int × Int × St := match pAll stRead kind first count s with | (e, l, s1) => if (e != 0) = true then ([], e, s1) else (l, 0, s1)
def pTurn (f : Int → Int) (kind first count : Int) (s : St) : Int × St := match pAll (stTurn f) kind first count s with | (e, _, s1) => (e, s1)
def pNodes (kind first count : Int) (s : St) : List Int × Int × St := match pAll stNode kind first count s with | (e, l, s1) => (l, e, s1)

/-- the words of some cells are put to 0, one behind the other -/
def pZero : List Int → St → Int × St
  | [], s => (0, s)
  | a :: l, s => match sput s a 0 with | (e, s1) => if (e != 0) = true then (e, s1) else pZero l s1
def pCut (first count : Int) (zs : List Int) (s : St) : Int × Int × Int × St :=
  match sget s first with
  | (f, e, s1) => if (e != 0) = true then (0, 0, e, s1) else
    match sget s1 count with
    | (c, e2, s2) => if (e2 != 0) = true then (0, 0, e2, s2) else
      match pZero zs s2 with | (e3, s3) => if (e3 != 0) = true then (0, 0, e3, s3) else (f, c, 0, s3)
def pQueue (q : Int) (s : St) : Int × Int × Int × St := pCut q (uAdd q 2) [q, uAdd q 1, uAdd q 2] s
/-- words are put, one behind the other -/
def pPuts (q : Int) : List Int → Int → St → Int × St
  | [], _, s => (0, s)
  | x :: l, i, s => match sput s (uAdd q i) x with | (e, s1) => if (e != 0) = true then (e, s1) else pPuts q l (i + 1) s1
def lastOf (l : List Int) : Int := match l.getLast? with | some x => uAdd x 1 | none => 0
def pBack (q kind first count : Int) (s : St) : Int × St :=
  if kind ≠ 1 then (2, s) else
  match sget s q with
  | (f, e, s1) => if (e != 0) = true then (e, s1) else if (f != 0) = true then (2, s1) else
    match pNodes kind first count s1 with
    | (l, e2, s2) => if (e2 != 0) = true then (e2, s2) else pPuts q [first, lastOf l, count] 0 s2
end Go.Proofs.Ytcgdpclhlepofaa
