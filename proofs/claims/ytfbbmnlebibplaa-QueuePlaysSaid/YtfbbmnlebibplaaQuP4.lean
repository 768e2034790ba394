/- Queues in a room, on plain words: what is told of a queue; a queue given back; the pieces that were given back. No program in sight. -/
import Derived.Test.YtfbbmnlebibplaaQuP3
namespace Go.Proofs.Ytfbbmnlebibplaa
open Go.RowKit
set_option linter.unusedVariables false

theorem chainGo_lnk {W : List Int} {most : Int} : ∀ {ns xs : List Int} {acc : List Int} {k : Nat}, Lnk W ns xs 0 → (∀ n ∈ ns, 0 ≤ n ∧ n + 1 < (W.length : Int)) → ((acc.length : Int) + ns.length = most) → ns.length < k → chainGo W most k (hdOr ns 0) acc = (acc ++ ns, true)
  | [], xs, acc, k + 1, _, _, h, _ => by rw [chainGo, if_pos (.inl rfl), List.append_nil]
  | n :: ns, x :: xs, acc, k + 1, hl, hin, h, hk => by
    have hn := hin n (by simp)
    simp only [List.length_cons] at h hk
    show chainGo W most (k + 1) (n + 1) acc = _
    rw [chainGo, if_neg (by omega), if_neg (by omega), hl.2.1, show n + 1 - 1 = n by omega]
    rw [chainGo_lnk hl.2.2 (fun m hm => hin m (by simp [hm])) (by simp; omega) (by omega)]
    simp
  | n :: ns, [], _, _ + 1, hl, _, _, _ => hl.elim
  | _, _, _, 0, _, _, _, hk => by omega

/-- A queue that stands is whole. -/
theorem Qi.whole {W R : List Int} {c : Int} {qs : List Qr} {back : Nat → List Int} (h : Qi W R c qs back) {q : Qr} (hq : q ∈ qs) (hn : (q.nodes.length : Int) ≤ 65536) : Go.Proofs.Ytfbbmnlebibplaa.whole W q.hd = (q.nodes, true) := by
  obtain ⟨g1, g2, g3, g4⟩ := h.inn hq (pcs_hd q)
  simp only at g1 g2 g3 g4
  have hst := h.st q hq
  unfold Go.Proofs.Ytfbbmnlebibplaa.whole
  rw [if_neg (by omega), hst.count, if_neg (by omega), hst.first, chainGo_lnk (acc := []) hst.lnk (fun n hn => by
    have := h.inn hq (pcs_nd hn)
    simp only at this
    omega) (by simp) (by omega)]
  simp only [List.nil_append]
  rw [if_pos ⟨rfl, hst.count.symm, hst.last⟩]
theorem Qi.cnt' {W R : List Int} {c : Int} {qs : List Qr} {q : Qr} {back : Nat → List Int} (h : Qi W R c qs back) (hq : q ∈ qs) : 2 * (q.nodes.length : Int) ≤ c - 18 := by
  obtain ⟨a, b, rfl⟩ := List.append_of_mem hq
  exact h.cnt

theorem qFirst_law {s : St} {n : Nat} {c : Int} {R : List Int} {qs : List Qr} {q : Qr} {back : Nat → List Int} (hs : Ok s (n + 2)) (h : Qi s.W R c qs back) (hq : q ∈ qs) :
    ∃ s', qFirst s q.hd = (q.words.headD 0, !q.words.isEmpty, 0, s') ∧ Ok s' n ∧ s'.W = s.W := by
  obtain ⟨g1, g2, g3, g4⟩ := h.inn hq (pcs_hd q)
  simp only at g1 g2 g3 g4
  have hst := h.st q hq
  have hlw := h.lw
  have b0 : Ok s ((n + 1) + 1) := hs
  have b1 := rdt_ok b0 q.hd
  have f0 : bget 0 s q.hd = (hdOr q.nodes 0, 0, rdt s q.hd) := by rw [bget_live b0 (by omega), hst.first]
  obtain ⟨d, nodes, words⟩ := q
  cases nodes with
  | nil =>
    cases words with
    | nil =>
      refine ⟨rdt s d, ?_, b1.mono (by omega), rfl⟩
      have f0 : bget 0 s d = (0, 0, rdt s d) := f0
      unfold qFirst
      simp only [f0]
      rfl
    | cons x xs => exact hst.lnk.elim
  | cons nd ns =>
    cases words with
    | nil => exact hst.lnk.elim
    | cons x xs =>
      obtain ⟨k1, k2, k3, k4⟩ := h.inn hq (pcs_nd (n := nd) (by simp))
      simp only at k1 k2 k3 k4
      have f0 : bget 0 s d = (nd + 1, 0, rdt s d) := f0
      have u0 : IntKind.u64.wrap (nd + 1 - 1) = nd := by rw [show nd + 1 - 1 = nd by omega, uw_id (by omega) (by omega)]
      have f1 : bget 0 (rdt s d) nd = (x, 0, rdt (rdt s d) nd) := by rw [bget_live b1 (by rw [rdt_W]; omega), rdt_W, hst.lnk.1]
      have hne : (nd + 1 == 0) = false := by simp; omega
      refine ⟨rdt (rdt s d) nd, ?_, rdt_ok b1 _, rfl⟩
      unfold qFirst
      simp only [f0, hne, u0, f1]
      simp
theorem qLen_law {s : St} {n : Nat} {c : Int} {R : List Int} {qs : List Qr} {q : Qr} {back : Nat → List Int} (hs : Ok s (n + 1)) (h : Qi s.W R c qs back) (hq : q ∈ qs) :
    ∃ s', qLen s q.hd = ((q.words.length : Int), 0, s') ∧ Ok s' n ∧ s'.W = s.W := by
  obtain ⟨g1, g2, g3, g4⟩ := h.inn hq (pcs_hd q)
  simp only at g1 g2 g3 g4
  have hst := h.st q hq
  have hlw := h.lw
  refine ⟨rdt s (q.hd + 2), ?_, rdt_ok hs _, rfl⟩
  unfold qLen
  rw [uAdd_id (by omega) (by omega), ← bget_0, bget_live hs (by omega), hst.count, hst.lnk.len]

/-- what the document's Drop gives back, one behind the other -/
def rGives : List Int → St → St
  | [], r => r
  | n :: ns, r => rGives ns (rGive r 0 n 2).2

theorem gives_law {c : Int} : ∀ (ns : List Int) (s r : St) (n m : Nat) (o1 o2 : List (Int × Int)) (back : Nat → List Int), Ok s (n + 3 * ns.length) → Ok r (m + 3 * ns.length) → Rm s.W 18 c (o1 ++ (ns.map (fun n => (n, (2 : Int))) ++ o2)) back → Rm r.W 18 c (o1 ++ (ns.map (fun n => (n, (2 : Int))) ++ o2)) back → s.W.getD 0 0 = r.W.getD 0 0 → (s.W.length : Int) ≤ 4611686018427387904 → (r.W.length : Int) ≤ 4611686018427387904 →
    ∃ s' back', qGiveGo 0 ns 0 s = (0, s') ∧ Ok s' n ∧ Ok (rGives ns r) m ∧ s'.W.length = s.W.length ∧ (rGives ns r).W.length = r.W.length ∧ Rm s'.W 18 c (o1 ++ o2) back' ∧ Rm (rGives ns r).W 18 c (o1 ++ o2) back' ∧ s'.W.getD 0 0 = (rGives ns r).W.getD 0 0 ∧ (∀ u ∈ o1 ++ o2, ∀ j : Int, u.1 ≤ j → j < u.1 + u.2 → s'.W.getD j.toNat 0 = s.W.getD j.toNat 0)
  | [], s, r, n, m, o1, o2, back, hs, hr, h1, h2, h0, _, _ => ⟨s, back, rfl, hs, hr, rfl, rfl, h1, h2, h0, fun _ _ _ _ _ => rfl⟩
  | x :: ns, s, r, n, m, o1, o2, back, hs, hr, h1, h2, h0, hl1, hl2 => by
    have hs' : Ok s ((n + 3 * ns.length) + 3) := hs.mono (by simp; omega)
    have hr' : Ok r ((m + 3 * ns.length) + 3) := hr.mono (by simp; omega)
    have e : o1 ++ ((x :: ns).map (fun n => (n, (2 : Int))) ++ o2) = o1 ++ (x, ((2 : Nat) : Int)) :: (ns.map (fun n => (n, (2 : Int))) ++ o2) := by simp
    rw [e] at h1 h2
    obtain ⟨s1, q1, k1, W1, m1⟩ := give_ok hs' h1 hl1
    obtain ⟨r1, p1, l1, V1, m2⟩ := give_ok hr' h2 hl2
    have hx := h1.outIn (x, ((2 : Nat) : Int)) (by simp)
    have hto := h1.to0
    have hnx := h1.nx1
    simp only at hx
    have hw0 : s1.W.getD 0 0 = r1.W.getD 0 0 := by rw [W1, V1, getD_ne _ (by omega), getD_ne _ (by omega), getD_ne _ (by omega), getD_ne _ (by omega)]; exact h0
    obtain ⟨s2, back2, q2, k2, l2, L1, L2, n1, n2, n0, hk⟩ := gives_law ns s1 r1 n m o1 o2 _ k1 l1 m1 m2 hw0 (by rw [W1]; simpa using hl1) (by rw [V1]; simpa using hl2)
    have er : rGives (x :: ns) r = rGives ns r1 := by rw [rGives]; have p1 : rGive r 0 x 2 = (0, r1) := p1; rw [p1]
    have es : qGiveGo 0 (x :: ns) 0 s = qGiveGo 0 ns 0 s1 := by
      have q1 : rGive s 0 x 2 = (0, s1) := q1
      have : (if ((0 : Int) == 0) = true then rGive s 0 x 2 else (0, s)) = (0, s1) := by rw [if_pos (by decide)]; exact q1
      rw [qGiveGo, this]
    refine ⟨s2, back2, es.trans q2, k2, by rw [er]; exact l2, by rw [L1, W1]; simp, by rw [er, L2, V1]; simp, n1, by rw [er]; exact n2, by rw [er]; exact n0, fun u hu j hj1 hj2 => ?_⟩
    rw [hk u hu j hj1 hj2, W1]
    have hu' : u ∈ o1 ++ (x, ((2 : Nat) : Int)) :: (ns.map (fun n => (n, (2 : Int))) ++ o2) := by
      rcases List.mem_append.1 hu with h | h <;> simp [h]
    have hi := h1.outIn u hu'
    have hd : Disj u (x, ((2 : Nat) : Int)) := by
      have hoo := h1.oo
      rw [List.pairwise_append, List.pairwise_cons] at hoo
      obtain ⟨_, ⟨b1, _⟩, b2⟩ := hoo
      rcases List.mem_append.1 hu with h | h
      · exact b2 u h _ (by simp)
      · exact (b1 u (by simp [h])).symm
    unfold Disj at hd
    simp only at hd
    rw [getD_ne _ (by omega), getD_ne _ (by omega)]

theorem qDrop_good {s r : St} {n m : Nat} {c : Int} {a b : List Qr} {q : Qr} {back : Nat → List Int} (hs : Ok s (n + 70000 + 3 * q.nodes.length)) (hf : Fits s) (hr : Ok r (m + 3 + 3 * q.nodes.length)) (h : Qi s.W r.W c (a ++ q :: b) back) (hc : c ≤ 100000) :
    ∃ s' back', qDrop s 0 q.hd = (0, s') ∧ Ok s' n ∧ Ok (rGive (rGives q.nodes r) 0 q.hd 3).2 m ∧ s'.W.length = s.W.length ∧ (rGive (rGives q.nodes r) 0 q.hd 3).2.W.length = r.W.length ∧ Qi s'.W (rGive (rGives q.nodes r) 0 q.hd 3).2.W c (a ++ b) back' := by
  have hq : q ∈ a ++ q :: b := by simp
  have hcnt := h.cnt
  have hlw := h.lw
  have hlr := h.lr
  obtain ⟨g1, g2, g3, g4⟩ := h.inn hq (pcs_hd q)
  simp only at g1 g2 g3 g4
  have hwh := h.whole hq (by omega)
  obtain ⟨hT, _⟩ := qNodes_law (m := n + 3 + 3 * q.nodes.length) (s := s) (hs.mono (by omega)) hf (by omega) hwh
  rcases hn : qNodes s q.hd with ⟨l1, e1, s1⟩
  rw [hn] at hT
  obtain ⟨t1, t2, t3, t4⟩ := hT rfl
  simp only at t1 t2 t3 t4
  subst t1
  subst t2
  have hout : outs (a ++ q :: b) = (outs a ++ [(q.hd, ((3 : Nat) : Int))]) ++ (q.nodes.map (fun n => (n, (2 : Int))) ++ outs b) := by rw [outs_mid]; simp [pcs]
  have r1 := h.rm
  have r2 := h.rr
  rw [hout] at r1 r2
  rw [← t3] at r1
  obtain ⟨s2, back2, q2, k2, l2, L1, L2, n1, n2, n0, hk⟩ := gives_law q.nodes s1 r (n + 3) (m + 3) _ _ back t4 hr r1 r2 (by rw [t3]; exact h.eq0) (by rw [t3]; exact hlw) hlr
  have e3 : (outs a ++ [(q.hd, ((3 : Nat) : Int))]) ++ outs b = outs a ++ (q.hd, ((3 : Nat) : Int)) :: outs b := by simp
  rw [e3] at n1 n2
  obtain ⟨s3, q3, k3, W3, m3⟩ := give_ok k2 n1 (by rw [L1, t3]; exact hlw)
  obtain ⟨r3, p3, l3, V3, v3⟩ := give_ok l2 n2 (by rw [L2]; exact hlr)
  have er : (rGive (rGives q.nodes r) 0 q.hd 3).2 = r3 := by have p3 : rGive (rGives q.nodes r) 0 q.hd 3 = (0, r3) := p3; rw [p3]
  rw [er]
  refine ⟨s3, _, ?_, k3, l3, by rw [W3]; simp [L1, t3], by rw [V3]; simp [L2], ⟨by rw [outs_append]; exact m3, by rw [outs_append]; exact v3, ?_, fun q' hq' => ?_, by rw [W3]; simp [L1, t3]; exact hlw, by rw [V3]; simp [L2]; exact hlr⟩⟩
  · have q3 : rGive s2 0 q.hd 3 = (0, s3) := q3
    unfold qDrop
    simp only [hn, q2]
    rw [if_pos (by decide)]
    exact q3
  · rw [W3, V3, getD_ne _ (by omega), getD_ne _ (by omega), getD_ne _ (by omega), getD_ne _ (by omega)]
    exact n0
  · have hold : q' ∈ a ∨ q' ∈ b := List.mem_append.1 hq'
    have hq'' : q' ∈ a ++ q :: b := by rcases hold with h | h <;> simp [h]
    refine (h.st q' hq'').keep fun u hu j hj1 hj2 => ?_
    have hmem : u ∈ (outs a ++ [(q.hd, ((3 : Nat) : Int))]) ++ outs b := by
      rcases hold with h | h
      · simp [mem_outs h hu]
      · simp [mem_outs h hu]
    have d1 := h.apt.oth q' hold u hu _ (pcs_hd q)
    obtain ⟨i1, i2, i3, i4⟩ := h.inn hq'' hu
    unfold Disj at d1
    simp only at d1
    rw [W3, getD_ne _ (by omega), getD_ne _ (by omega), hk u hmem j hj1 hj2, t3]

theorem givenGo_end {k : Nat} {a x : Int} {l : List Int} {s s' : St} (h : sget s a = (x, 0, s')) (hx : x = 0) : givenGo k a l s = (l, 0, s') := by
  cases k <;> (rw [givenGo]; simp only [h, hx]; rfl)
theorem givenGo_long {a x : Int} {l : List Int} {s s' : St} (h : sget s a = (x, 0, s')) (hx : x ≠ 0) : givenGo 0 a l s = ([], 2, s') := by
  rw [givenGo]; simp only [h]; rw [if_pos (by decide), if_neg (by simpa using hx)]
theorem givenGo_next {k : Nat} {a x : Int} {l : List Int} {s s' : St} (h : sget s a = (x, 0, s')) (hx : x ≠ 0) : givenGo (k + 1) a l s = givenGo k (IntKind.u64.wrap (x - 1)) (l ++ [IntKind.u64.wrap (x - 1)]) s' := by
  rw [givenGo]; simp only [h]; rw [if_pos (by decide), if_neg (by simpa using hx)]
/-- What was given back is told alike of two rooms that stand alike. -/
theorem givenGo_two {s0 r0 : List Int} {z : Nat} {out : List (Int × Int)} {c : Int} {back : Nat → List Int} (h1 : Rm s0 18 c out back) (h2 : Rm r0 18 c out back) (z1 : 1 ≤ z) (z2 : z ≤ 16) (hl1 : (s0.length : Int) ≤ 4611686018427387904) : ∀ (k : Nat) (b rest : List Int) (a : Int) (l : List Int) (s r : St) (n m : Nat), back z = b ++ rest → s.W = s0 → r.W = r0 → Ok s (n + k + 1) → Ok r (m + k + 1) → 0 ≤ a → a < (s0.length : Int) → a < (r0.length : Int) → s0.getD a.toNat 0 = topOf b → r0.getD a.toNat 0 = topOf b →
    ∃ l' e s' r', givenGo k a l s = (l', e, s') ∧ givenGo k a l r = (l', e, r') ∧ s'.W = s0 ∧ r'.W = r0 ∧ Ok s' n ∧ Ok r' m := by
  intro k
  induction k with
  | zero =>
    intro b rest a l s r n m hb es er hs hr ha ha1 ha2 e1 e2
    have hs' : Ok s (n + 1) := hs
    have hr' : Ok r (m + 1) := hr
    have f1 : sget s a = (topOf b, 0, gone s (false, a, 0)) := by rw [sget_live hs' (by rw [es]; exact ha1), es, e1]
    have f2 : sget r a = (topOf b, 0, gone r (false, a, 0)) := by rw [sget_live hr' (by rw [er]; exact ha2), er, e2]
    by_cases h0 : topOf b = 0
    · exact ⟨l, 0, gone s (false, a, 0), gone r (false, a, 0), givenGo_end f1 h0, givenGo_end f2 h0, es, er, hs'.gone _, hr'.gone _⟩
    · exact ⟨[], 2, gone s (false, a, 0), gone r (false, a, 0), givenGo_long f1 h0, givenGo_long f2 h0, es, er, hs'.gone _, hr'.gone _⟩
  | succ k ih =>
    intro b rest a l s r n m hb es er hs hr ha ha1 ha2 e1 e2
    have hs' : Ok s ((n + k + 1) + 1) := hs
    have hr' : Ok r ((m + k + 1) + 1) := hr
    have f1 : sget s a = (topOf b, 0, gone s (false, a, 0)) := by rw [sget_live hs' (by rw [es]; exact ha1), es, e1]
    have f2 : sget r a = (topOf b, 0, gone r (false, a, 0)) := by rw [sget_live hr' (by rw [er]; exact ha2), er, e2]
    have hcat := List.eq_nil_or_concat b
    simp only [List.concat_eq_append] at hcat
    rcases hcat with rfl | ⟨b', x, rfl⟩
    · exact ⟨l, 0, gone s (false, a, 0), gone r (false, a, 0), givenGo_end f1 topOf_nil, givenGo_end f2 topOf_nil, es, er, (hs'.gone (false, a, 0)).mono (by omega), (hr'.gone (false, a, 0)).mono (by omega)⟩
    · have hx := h1.backIn z z1 z2 x (by rw [hb]; simp)
      have hxr := h2.nx1
      have hxt := h2.to0
      have hx1 := h1.nx1
      have hxt1 := h1.to0
      have hx2 := h2.backIn z z1 z2 x (by rw [hb]; simp)
      have ht : topOf (b' ++ [x]) = x + 1 := topOf_snoc _ _
      have h0 : x + 1 ≠ 0 := by omega
      have u : IntKind.u64.wrap (x + 1 - 1) = x := by rw [show x + 1 - 1 = x by omega, uw_id (by omega) (by omega)]
      have c1 := h1.chain z z1 z2 b' x rest (by rw [hb]; simp)
      have c2 := h2.chain z z1 z2 b' x rest (by rw [hb]; simp)
      rw [ht] at f1 f2
      obtain ⟨l', e, s', r', q1, q2, q3, q4, q5, q6⟩ := ih b' (x :: rest) x (l ++ [x]) (gone s (false, a, 0)) (gone r (false, a, 0)) n m (by rw [hb]; simp) es er (hs'.gone _) (hr'.gone _) (by omega) (by omega) (by omega) c1 c2
      exact ⟨l', e, s', r', by rw [givenGo_next f1 h0, u]; exact q1, by rw [givenGo_next f2 h0, u]; exact q2, q3, q4, q5, q6⟩
theorem given_two {s r : St} {n m : Nat} {c : Int} {qs : List Qr} {back : Nat → List Int} {z : Nat} (hs : Ok s (n + 65537)) (hr : Ok r (m + 65537)) (h : Qi s.W r.W c qs back) (z1 : 1 ≤ z) (z2 : z ≤ 16) :
    ∃ l e s' r', rGiven s 0 z = (l, e, s') ∧ rGiven r 0 z = (l, e, r') ∧ s'.W = s.W ∧ r'.W = r.W ∧ Ok s' n ∧ Ok r' m := by
  have e1 : uAdd (uAdd 0 1) z = 1 + z := by rw [uAdd_uAdd, uAdd_id (by omega) (by omega)]; omega
  have f0 := h.rm.fr0
  have t0 := h.rm.to0
  have nx := h.rm.nx1
  have nx0 := h.rm.nx0
  have t1 := h.rr.to0
  have hz : ((1 : Int) + z).toNat = 1 + z := by omega
  obtain ⟨l, e, s', r', k1, k2, k3, k4, k5, k6⟩ := givenGo_two h.rm h.rr z1 z2 h.lw 65536 (back z) [] (1 + (z : Int)) [] s r n m (by simp) rfl rfl (hs.mono (by omega)) (hr.mono (by omega)) (by omega) (by omega) (by omega) (by rw [hz]; exact h.rm.top z z1 z2) (by rw [hz]; exact h.rr.top z z1 z2)
  refine ⟨l, e, s', r', ?_, ?_, k3, k4, k5, k6⟩
  · unfold rGiven; rw [if_neg (by omega), e1]; exact k1
  · unfold rGiven; rw [if_neg (by omega), e1]; exact k2
end Go.Proofs.Ytfbbmnlebibplaa
