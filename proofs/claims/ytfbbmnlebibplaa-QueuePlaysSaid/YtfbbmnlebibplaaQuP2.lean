/- Queues in a room, on plain words: a word put into a queue. No program in sight. -/
import Derived.Test.YtfbbmnlebibplaaQuP1
namespace Go.Proofs.Ytfbbmnlebibplaa
open Go.RowKit
set_option linter.unusedVariables false

structure Apt (a b : List Qr) (q : Qr) : Prop where
  hn : ∀ n ∈ q.nodes, Disj (q.hd, 3) (n, 2)
  nn : q.nodes.Pairwise fun x y => Disj (x, 2) (y, 2)
  oth : ∀ q', q' ∈ a ∨ q' ∈ b → ∀ u ∈ pcs q', ∀ v ∈ pcs q, Disj u v
theorem outs_mid (a b : List Qr) (q : Qr) : outs (a ++ q :: b) = outs a ++ (pcs q ++ outs b) := by rw [outs_append, outs_cons]
theorem mem_outs {qs : List Qr} {q : Qr} (hq : q ∈ qs) {p : Int × Int} (hp : p ∈ pcs q) : p ∈ outs qs := List.mem_flatMap.2 ⟨q, hq, hp⟩
theorem Qi.apt {W R : List Int} {c : Int} {a b : List Qr} {q : Qr} {back : Nat → List Int} (h : Qi W R c (a ++ q :: b) back) : Apt a b q := by
  have ho := h.rm.oo
  rw [outs_mid, List.pairwise_append] at ho
  obtain ⟨_, h1, h2⟩ := ho
  rw [List.pairwise_append] at h1
  obtain ⟨h3, _, h4⟩ := h1
  unfold pcs at h3
  rw [List.pairwise_cons] at h3
  obtain ⟨h5, h6⟩ := h3
  refine ⟨fun n hn => h5 _ (List.mem_map.2 ⟨n, hn, rfl⟩), List.pairwise_map.1 h6, fun q' hq' u hu v hv => ?_⟩
  rcases hq' with hq' | hq'
  · exact h2 u (mem_outs hq' hu) v (by simp [hv])
  · exact (h4 v hv u (mem_outs hq' hu)).symm
theorem Qi.inn {W R : List Int} {c : Int} {qs : List Qr} {back : Nat → List Int} (h : Qi W R c qs back) {q : Qr} (hq : q ∈ qs) {p : Int × Int} (hp : p ∈ pcs q) : 18 ≤ p.1 ∧ p.1 + p.2 ≤ c ∧ p.1 + p.2 ≤ (W.length : Int) ∧ p.1 + p.2 ≤ (R.length : Int) := by
  have h1 := h.rm.outIn p (mem_outs hq hp)
  have h2 := h.rm.nx1
  have h3 := h.rm.to0
  have h4 := h.rr.to0
  omega
theorem pcs_hd (q : Qr) : (q.hd, (3 : Int)) ∈ pcs q := by simp [pcs]
theorem pcs_nd {q : Qr} {n : Int} (h : n ∈ q.nodes) : (n, (2 : Int)) ∈ pcs q := by simp [pcs, h]

/-- pieces of two cells without a common cell are few -/
theorem cnt_le : ∀ (n : Nat) (l : List Int) (lo hi : Int), l.length ≤ n → l.Pairwise (fun x y => Disj (x, 2) (y, 2)) → (∀ x ∈ l, lo ≤ x ∧ x + 2 ≤ hi) → lo ≤ hi → 2 * (l.length : Int) ≤ hi - lo
  | _, [], lo, hi, _, _, _, h => by simp; omega
  | 0, y :: t, lo, hi, hn, _, _, _ => by simp at hn
  | n + 1, y :: t, lo, hi, hn, hp, hi', h => by
    rw [List.pairwise_cons] at hp
    obtain ⟨h1, h2⟩ := hp
    have hy := hi' y (by simp)
    have hlen : t.length = (t.filter fun x => decide (x + 2 ≤ y)).length + (t.filter fun x => decide (¬ (decide (x + 2 ≤ y)) = true)).length := by
      rw [← List.countP_eq_length_filter, ← List.countP_eq_length_filter]
      exact List.length_eq_countP_add_countP _
    have hn' : t.length ≤ n := by simpa using hn
    have k1 := cnt_le n (t.filter fun x => decide (x + 2 ≤ y)) lo y (by omega) (h2.filter _) (fun x hx => by
      obtain ⟨hx1, hx2⟩ := List.mem_filter.1 hx
      have := hi' x (by simp [hx1])
      simp at hx2
      omega) (by omega)
    have k2 := cnt_le n (t.filter fun x => decide (¬ (decide (x + 2 ≤ y)) = true)) (y + 2) hi (by omega) (h2.filter _) (fun x hx => by
      obtain ⟨hx1, hx2⟩ := List.mem_filter.1 hx
      have := hi' x (by simp [hx1])
      have hd := h1 x hx1
      unfold Disj at hd
      simp at hx2 hd
      omega) (by omega)
    simp only [List.length_cons]
    omega
theorem Qi.cnt {W R : List Int} {c : Int} {a b : List Qr} {q : Qr} {back : Nat → List Int} (h : Qi W R c (a ++ q :: b) back) : 2 * (q.nodes.length : Int) ≤ c - 18 := by
  have hq : q ∈ a ++ q :: b := by simp
  have h0 := h.inn hq (pcs_hd q)
  refine cnt_le _ q.nodes 18 c (Nat.le_refl _) h.apt.nn (fun x hx => ?_) (by omega)
  have := h.inn hq (pcs_nd hx)
  simp only at this
  omega

theorem qPut_law {s r : St} {n m : Nat} {c : Int} {a b : List Qr} {q : Qr} {back : Nat → List Int} (x : Int) (hs : Ok s (n + 11)) (hr : Ok r (m + 4)) (h : Qi s.W r.W c (a ++ q :: b) back) :
    (∃ s' r', qPut s 0 q.hd x = (9, s') ∧ rTake r 0 2 = (0, 9, r') ∧ Ok s' n ∧ Ok r' m ∧ s'.W = s.W ∧ r'.W = r.W) ∨
    ∃ p s' r' back', qPut s 0 q.hd x = (0, s') ∧ rTake r 0 2 = (p, 0, r') ∧ Ok s' n ∧ Ok r' m ∧ 0 ≤ p ∧ p ≤ 4611686018427387904 ∧ s'.W.length = s.W.length ∧ r'.W.length = r.W.length ∧ Qi s'.W r'.W c (a ++ ⟨q.hd, q.nodes ++ [p], q.words ++ [x]⟩ :: b) back' := by
  have hs3 : Ok s ((n + 7) + 4) := hs
  have hq : q ∈ a ++ q :: b := by simp
  obtain ⟨g1, g2, g3, g4⟩ := h.inn hq (pcs_hd q)
  simp only at g1 g2 g3 g4
  have hlw := h.lw
  have hA := h.apt
  have hst := h.st q hq
  rcases take_two (z := 2) hs3 hr h.rm h.rr h.eq0 (by omega) (by omega) h.lw h.lr with ⟨s', r', a1, a2, a3, a4, a5, a6⟩ | ⟨p, s1, r', back', a1, a2, a3, a4, a5, a6, a7, a8, a9, a10, a11, a12, a13⟩
  · left
    refine ⟨s', r', ?_, a2, a3.mono (by omega), a4, a5, a6⟩
    have a1 : rTake s 0 2 = (0, 9, s') := a1
    have k1 : ∀ s a x, bput 9 s a x = (9, s) := fun s a x => bput_no (by decide) s a x
    have k2 : ∀ s a, bget 9 s a = (0, 9, s) := fun s a => bget_no (by decide) s a
    unfold qPut
    simp only [a1, k1, k2]
    rfl
  · right
    have t0 := a7.to0
    have hl1 : p + 2 ≤ (s1.W.length : Int) := by simpa using Int.le_trans a6 t0
    have e18 : ∀ j : Int, 18 ≤ j → s1.W.getD j.toNat 0 = s.W.getD j.toNat 0 := fun j hj => a13 _ (by omega)
    have dh : Disj (q.hd, 3) (p, 2) := a10 _ (mem_outs hq (pcs_hd q))
    have hmp : ((p, (2 : Int)) : Int × Int) ∈ outs (a ++ q :: b) ++ [(p, ((2 : Nat) : Int))] := by simp
    have hmh : ((q.hd, (3 : Int)) : Int × Int) ∈ outs (a ++ q :: b) ++ [(p, ((2 : Nat) : Int))] := List.mem_append_left _ (mem_outs hq (pcs_hd q))
    -- where the last link lies
    obtain ⟨L, hL⟩ : ∃ L : Int, (q.nodes = [] ∧ L = q.hd) ∨ ∃ ns d, q.nodes = ns ++ [d] ∧ L = d + 1 := by
      rcases List.eq_nil_or_concat q.nodes with e | ⟨ns, d, e⟩
      · exact ⟨q.hd, .inl ⟨e, rfl⟩⟩
      · exact ⟨d + 1, .inr ⟨ns, d, by simpa using e, rfl⟩⟩
    have HL := Lib.hid hL
    clear hL
    have hLin : ∃ pc ∈ pcs q, pc.1 ≤ L ∧ L < pc.1 + pc.2 := by
      rcases HL.out with ⟨e, rfl⟩ | ⟨ns, d, e, rfl⟩
      · exact ⟨_, pcs_hd q, by simp, by simp only; omega⟩
      · exact ⟨(d, 2), pcs_nd (by rw [e]; simp), by simp only; omega, by simp only; omega⟩
    obtain ⟨pc, hpc, hL1, hL2⟩ := hLin
    obtain ⟨i1, i2, i3, i4⟩ := h.inn hq hpc
    have dpc : Disj pc (p, 2) := a10 _ (mem_outs hq hpc)
    have hmL : pc ∈ outs (a ++ q :: b) ++ [(p, ((2 : Nat) : Int))] := List.mem_append_left _ (mem_outs hq hpc)
    have hL3 : L ≠ q.hd + 1 ∧ L ≠ q.hd + 2 := by
      rcases HL.out with ⟨e, rfl⟩ | ⟨ns, d, e, rfl⟩
      · omega
      · have := hA.hn d (by rw [e]; simp)
        unfold Disj at this
        simp only at this
        omega
    unfold Disj at dh dpc
    simp only at dh dpc
    have b1 : Ok s1 ((n + 6) + 1) := a3
    have b2 := wrt_ok b1 p x
    have b3 := wrt_ok b2 (p + 1) 0
    have b4 := rdt_ok b3 (q.hd + 1)
    have b5 := wrt_ok b4 L (p + 1)
    have b6 := wrt_ok b5 (q.hd + 1) (p + 1)
    have b7 := rdt_ok b6 (q.hd + 2)
    have b8 := wrt_ok b7 (q.hd + 2) (q.nodes.length + 1)
    have r1 := a7.put (j := p) hmp (by simp only; omega) (by simp only; omega) x
    have r2 := r1.put (j := p + 1) hmp (by simp only; omega) (by simp only; omega) 0
    have r3 := r2.put (j := L) hmL hL1 hL2 (p + 1)
    have r4 := r3.put (j := q.hd + 1) hmh (by simp only; omega) (by simp only; omega) (p + 1)
    have r5 := r4.put (j := q.hd + 2) hmh (by simp only; omega) (by simp only; omega) (q.nodes.length + 1)
    obtain ⟨W', hW'⟩ : ∃ W', W' = ((((s1.W.set p.toNat x).set (p + 1).toNat 0).set L.toNat (p + 1)).set (q.hd + 1).toNat (p + 1)).set (q.hd + 2).toNat ((q.nodes.length : Int) + 1) := ⟨_, rfl⟩
    have hlen1 : (s1.W.length : Int) = s.W.length := by rw [a11]
    have hg : ∀ j : Int, 0 ≤ j → W'.getD j.toNat 0 = if q.hd + 2 = j then (q.nodes.length : Int) + 1 else if q.hd + 1 = j then p + 1 else if L = j then p + 1 else if p + 1 = j then 0 else if p = j then x else s1.W.getD j.toNat 0 := fun j hj => by
      rw [hW', gs _ (by omega) (by simp; omega) hj, gs _ (by omega) (by simp; omega) hj, gs _ (by omega) (by simp; omega) hj, gs _ (by omega) (by simp; omega) hj, gs _ (by omega) (by omega) hj]
    have v1 : ((s1.W.set p.toNat x).set (p + 1).toNat 0).getD (q.hd + 1).toNat 0 = topOf q.nodes := by
      rw [gs _ (by omega) (by simp; omega) (by omega), gs _ (by omega) (by omega) (by omega), if_neg (by omega), if_neg (by omega), e18 _ (by omega)]
      exact hst.last
    have v2 : ((((s1.W.set p.toNat x).set (p + 1).toNat 0).set L.toNat (p + 1)).set (q.hd + 1).toNat (p + 1)).getD (q.hd + 2).toNat 0 = q.nodes.length := by
      rw [gs _ (by omega) (by simp; omega) (by omega), gs _ (by omega) (by simp; omega) (by omega), gs _ (by omega) (by simp; omega) (by omega), gs _ (by omega) (by omega) (by omega), if_neg (by omega), if_neg (by omega), if_neg (by omega), if_neg (by omega), e18 _ (by omega)]
      exact hst.count
    refine ⟨p, wrt (rdt (wrt (wrt (rdt (wrt (wrt s1 p x) (p + 1) 0) (q.hd + 1)) L (p + 1)) (q.hd + 1) (p + 1)) (q.hd + 2)) (q.hd + 2) (q.nodes.length + 1), r', back', ?_, a2, b8, a4, by omega, by omega, ?_, a12, ?_⟩
    · have hcnt := h.cnt
      have hto := h.rm.to0
      have u1 : uAdd p 1 = p + 1 := uAdd_id (by omega) (by omega)
      have u2 : uAdd q.hd 1 = q.hd + 1 := uAdd_id (by omega) (by omega)
      have u3 : uAdd q.hd 2 = q.hd + 2 := uAdd_id (by omega) (by omega)
      have u4 : uAdd (q.nodes.length : Int) 1 = q.nodes.length + 1 := uAdd_id (by omega) (by omega)
      have a1 : rTake s 0 2 = (p, 0, s1) := a1
      have f1 : bput 0 s1 p x = (0, wrt s1 p x) := bput_0 b1 (by omega) _
      have f2 : bput 0 (wrt s1 p x) (uAdd p 1) 0 = (0, wrt (wrt s1 p x) (p + 1) 0) := by rw [u1, bput_0 b2 (by rw [wrt_W]; simp; omega)]
      have f3 : bget 0 (wrt (wrt s1 p x) (p + 1) 0) (uAdd q.hd 1) = (topOf q.nodes, 0, rdt (wrt (wrt s1 p x) (p + 1) 0) (q.hd + 1)) := by
        rw [u2, bget_live b3 (by rw [wrt_W, wrt_W]; simp; omega), wrt_W, wrt_W, v1]
      have f4 : (if (topOf q.nodes == 0) = true then bput 0 (rdt (wrt (wrt s1 p x) (p + 1) 0) (q.hd + 1)) q.hd (uAdd p 1) else bput 0 (rdt (wrt (wrt s1 p x) (p + 1) 0) (q.hd + 1)) (uAdd (IntKind.u64.wrap (topOf q.nodes - 1)) 1) (uAdd p 1)) = (0, wrt (rdt (wrt (wrt s1 p x) (p + 1) 0) (q.hd + 1)) L (p + 1)) := by
        rw [u1]
        rcases HL.out with ⟨e, e2⟩ | ⟨ns, d, e, e2⟩
        · rw [e, topOf_nil, if_pos (by decide), e2]
          exact bput_0 b4 (by rw [rdt_W, wrt_W, wrt_W]; simp; omega) _
        · rw [e, topOf_snoc, if_neg (by simp; omega), uw_id (by omega) (by omega), uAdd_id (by omega) (by omega), show d + 1 - 1 + 1 = L by omega]
          exact bput_0 b4 (by rw [rdt_W, wrt_W, wrt_W]; simp; omega) _
      have f5 : bput 0 (wrt (rdt (wrt (wrt s1 p x) (p + 1) 0) (q.hd + 1)) L (p + 1)) (uAdd q.hd 1) (uAdd p 1) = (0, wrt (wrt (rdt (wrt (wrt s1 p x) (p + 1) 0) (q.hd + 1)) L (p + 1)) (q.hd + 1) (p + 1)) := by
        rw [u1, u2, bput_0 b5 (by rw [wrt_W, rdt_W, wrt_W, wrt_W]; simp; omega)]
      have f6 : bget 0 (wrt (wrt (rdt (wrt (wrt s1 p x) (p + 1) 0) (q.hd + 1)) L (p + 1)) (q.hd + 1) (p + 1)) (uAdd q.hd 2) = ((q.nodes.length : Int), 0, rdt (wrt (wrt (rdt (wrt (wrt s1 p x) (p + 1) 0) (q.hd + 1)) L (p + 1)) (q.hd + 1) (p + 1)) (q.hd + 2)) := by
        rw [u3, bget_live b6 (by rw [wrt_W, wrt_W, rdt_W, wrt_W, wrt_W]; simp; omega), wrt_W, wrt_W, rdt_W, wrt_W, wrt_W, v2]
      have f7 : bput 0 (rdt (wrt (wrt (rdt (wrt (wrt s1 p x) (p + 1) 0) (q.hd + 1)) L (p + 1)) (q.hd + 1) (p + 1)) (q.hd + 2)) (uAdd q.hd 2) (uAdd (q.nodes.length : Int) 1) = (0, wrt (rdt (wrt (wrt (rdt (wrt (wrt s1 p x) (p + 1) 0) (q.hd + 1)) L (p + 1)) (q.hd + 1) (p + 1)) (q.hd + 2)) (q.hd + 2) (q.nodes.length + 1)) := by
        rw [u3, u4, bput_0 b7 (by rw [rdt_W, wrt_W, wrt_W, rdt_W, wrt_W, wrt_W]; simp; omega)]
      unfold qPut
      simp only [a1, f1, f2, f3, f4, f5, f6, f7]
    · show (((((s1.W.set p.toNat x).set (p + 1).toNat 0).set L.toNat (p + 1)).set (q.hd + 1).toNat (p + 1)).set (q.hd + 2).toNat ((q.nodes.length : Int) + 1)).length = _
      simp [a11]
    · have eW : (wrt (rdt (wrt (wrt (rdt (wrt (wrt s1 p x) (p + 1) 0) (q.hd + 1)) L (p + 1)) (q.hd + 1) (p + 1)) (q.hd + 2)) (q.hd + 2) (q.nodes.length + 1)).W = W' := hW'.symm
      rw [eW]
      have hperm : (outs (a ++ q :: b) ++ [(p, ((2 : Nat) : Int))]).Perm (outs (a ++ ⟨q.hd, q.nodes ++ [p], q.words ++ [x]⟩ :: b)) := by
        rw [outs_mid, outs_mid]
        have e : pcs ⟨q.hd, q.nodes ++ [p], q.words ++ [x]⟩ = pcs q ++ [(p, 2)] := by simp [pcs]
        rw [e]
        simp only [List.append_assoc]
        exact List.Perm.append_left _ (List.Perm.append_left _ List.perm_append_comm)
      rw [← hW'] at r5
      refine ⟨r5.perm hperm, a8.perm hperm, ?_, fun q' hq' => ?_, by rw [hW']; simp; omega, by rw [a12]; exact h.lr⟩
      · rw [show (0 : Nat) = ((0 : Int)).toNat from rfl, hg 0 (by omega), if_neg (by omega), if_neg (by omega), if_neg (by omega), if_neg (by omega), if_neg (by omega)]
        exact a9
      · by_cases hold : q' ∈ a ∨ q' ∈ b
        · have hq'' : q' ∈ a ++ q :: b := by rcases hold with h | h <;> simp [h]
          refine (h.st q' hq'').keep fun u hu j hj1 hj2 => ?_
          have d1 := hA.oth q' hold u hu _ (pcs_hd q)
          have d2 := hA.oth q' hold u hu _ hpc
          have d3 := a10 u (mem_outs hq'' hu)
          obtain ⟨k1, k2, k3, k4⟩ := h.inn hq'' hu
          unfold Disj at d1 d2 d3
          simp only at d1 d2 d3
          rw [hg j (by omega), if_neg (by omega), if_neg (by omega), if_neg (by omega), if_neg (by omega), if_neg (by omega)]
          exact e18 j (by omega)
        · have hq3 : q' = ⟨q.hd, q.nodes ++ [p], q.words ++ [x]⟩ := by
            rcases List.mem_append.1 hq' with h1 | h1
            · exact absurd (.inl h1) hold
            · rcases List.mem_cons.1 h1 with h1 | h1
              · exact h1
              · exact absurd (.inr h1) hold
          subst hq3
          have wp : W'.getD p.toNat 0 = x := by rw [hg p (by omega), if_neg (by omega), if_neg (by omega), if_neg (by omega), if_neg (by omega), if_pos rfl]
          have wp1 : W'.getD (p + 1).toNat 0 = 0 := by rw [hg (p + 1) (by omega), if_neg (by omega), if_neg (by omega), if_neg (by omega), if_pos rfl]
          refine ⟨?_, ?_, ?_, ?_⟩
          · simp only
            rcases HL.out with ⟨e, rfl⟩ | ⟨ns, d, e, rfl⟩
            · rw [hg q.hd (by omega), if_neg (by omega), if_neg (by omega), if_pos rfl, e]; rfl
            · have hd := hA.hn d (by rw [e]; simp)
              unfold Disj at hd
              simp only at hd
              rw [hg q.hd (by omega), if_neg (by omega), if_neg (by omega), if_neg (by omega), if_neg (by omega), if_neg (by omega), e18 _ (by omega), hst.first, e]
              cases ns <;> rfl
          · simp only
            rw [hg (q.hd + 1) (by omega), if_neg (by omega), if_pos rfl, topOf_snoc]
          · simp only
            rw [hg (q.hd + 2) (by omega), if_pos rfl]; simp
          · simp only
            rcases HL.out with ⟨e, rfl⟩ | ⟨ns, d, e, rfl⟩
            · have hw : q.words = [] := List.eq_nil_of_length_eq_zero (by rw [← hst.lnk.len, e]; rfl)
              rw [e, hw]
              exact ⟨wp, wp1, trivial⟩
            · have hlk := hst.lnk
              have hnn := hA.nn
              rw [e] at hlk hnn ⊢
              rw [List.pairwise_append] at hnn
              have hdd := hA.hn d (by rw [e]; simp)
              have hdp := a10 _ (mem_outs hq (pcs_nd (q := q) (n := d) (by rw [e]; simp)))
              obtain ⟨f1, f2, f3, f4⟩ := h.inn hq (pcs_nd (q := q) (n := d) (by rw [e]; simp))
              unfold Disj at hdd hdp
              simp only at hdd hdp f1 f2 f3 f4
              refine Lnk.snoc (Lnk.lead (W := s.W) hlk (fun y hy => ?_) ?_ ?_) wp wp1
              · have hyd := hnn.2.2 y hy d (by simp)
                have hyh := hA.hn y (by rw [e]; simp [hy])
                have hyp := a10 _ (mem_outs hq (pcs_nd (q := q) (n := y) (by rw [e]; simp [hy])))
                obtain ⟨f1, f2, f3, f4⟩ := h.inn hq (pcs_nd (q := q) (n := y) (by rw [e]; simp [hy]))
                unfold Disj at hyd hyh hyp
                simp only at hyd hyh hyp f1 f2 f3 f4
                constructor
                · rw [hg y (by omega), if_neg (by omega), if_neg (by omega), if_neg (by omega), if_neg (by omega), if_neg (by omega), e18 _ (by omega)]
                · rw [hg (y + 1) (by omega), if_neg (by omega), if_neg (by omega), if_neg (by omega), if_neg (by omega), if_neg (by omega), e18 _ (by omega)]
              · rw [hg d (by omega), if_neg (by omega), if_neg (by omega), if_neg (by omega), if_neg (by omega), if_neg (by omega), e18 _ (by omega)]
              · rw [hg (d + 1) (by omega), if_neg (by omega), if_neg (by omega), if_pos rfl]
end Go.Proofs.Ytfbbmnlebibplaa
