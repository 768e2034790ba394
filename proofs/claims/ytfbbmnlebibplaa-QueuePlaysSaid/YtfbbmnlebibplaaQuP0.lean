/- Queues in a room, on plain words: what a queue's cells have, and what keeps them. No program in sight. -/
import Derived.Test.YtfbbmnlebibplaaQuR0
import Derived.Test.YtfbbmnlebibplaaRmC
namespace Go.Proofs.Ytfbbmnlebibplaa
open Go.RowKit
set_option linter.unusedVariables false

/-- a queue: where it is, its nodes, their words -/
structure Qr where
  hd : Int
  nodes : List Int
  words : List Int
def pcs (q : Qr) : List (Int × Int) := (q.hd, 3) :: q.nodes.map fun n => (n, 2)
def outs (qs : List Qr) : List (Int × Int) := qs.flatMap pcs
theorem outs_append (a b : List Qr) : outs (a ++ b) = outs a ++ outs b := by unfold outs; simp
theorem outs_cons (q : Qr) (b : List Qr) : outs (q :: b) = pcs q ++ outs b := by unfold outs; simp
theorem outs_nil : outs [] = [] := rfl
def hdOr : List Int → Int → Int
  | [], e => e
  | n :: _, _ => n + 1
/-- nodes that lead to each other, with these words; the last one leads to e -/
def Lnk (W : List Int) : List Int → List Int → Int → Prop
  | [], [], _ => True
  | n :: ns, x :: xs, e => W.getD n.toNat 0 = x ∧ W.getD (n + 1).toNat 0 = hdOr ns e ∧ Lnk W ns xs e
  | _, _, _ => False
structure Qst (W : List Int) (q : Qr) : Prop where
  first : W.getD q.hd.toNat 0 = hdOr q.nodes 0
  last : W.getD (q.hd + 1).toNat 0 = topOf q.nodes
  count : W.getD (q.hd + 2).toNat 0 = q.nodes.length
  lnk : Lnk W q.nodes q.words 0

theorem Lnk.len {W : List Int} : ∀ {ns xs : List Int} {e : Int}, Lnk W ns xs e → ns.length = xs.length
  | [], [], _, _ => rfl
  | n :: ns, x :: xs, e, h => by have := Lnk.len h.2.2; simp [this]
  | [], _ :: _, _, h => h.elim
  | _ :: _, [], _, h => h.elim
theorem Lnk.keep {W W' : List Int} : ∀ {ns xs : List Int} {e : Int}, Lnk W ns xs e → (∀ n ∈ ns, W'.getD n.toNat 0 = W.getD n.toNat 0 ∧ W'.getD (n + 1).toNat 0 = W.getD (n + 1).toNat 0) → Lnk W' ns xs e
  | [], [], _, _, _ => trivial
  | n :: ns, x :: xs, e, h, hk => ⟨(hk n (by simp)).1.trans h.1, (hk n (by simp)).2.trans h.2.1, Lnk.keep h.2.2 fun m hm => hk m (by simp [hm])⟩
  | [], _ :: _, _, h, _ => h.elim
  | _ :: _, [], _, h, _ => h.elim
theorem Lnk.words {W : List Int} : ∀ {ns xs : List Int} {e : Int}, Lnk W ns xs e → ns.map (fun n => W.getD n.toNat 0) = xs
  | [], [], _, _ => rfl
  | n :: ns, x :: xs, e, h => by rw [List.map_cons, h.1, Lnk.words h.2.2]
  | [], _ :: _, _, h => h.elim
  | _ :: _, [], _, h => h.elim
/-- the last node is led elsewhere -/
theorem Lnk.lead {W W' : List Int} : ∀ {ns xs : List Int} {m e e' : Int}, Lnk W (ns ++ [m]) xs e → (∀ n ∈ ns, W'.getD n.toNat 0 = W.getD n.toNat 0 ∧ W'.getD (n + 1).toNat 0 = W.getD (n + 1).toNat 0) → W'.getD m.toNat 0 = W.getD m.toNat 0 → W'.getD (m + 1).toNat 0 = e' → Lnk W' (ns ++ [m]) xs e'
  | [], [x], m, e, e', h, _, h1, h2 => ⟨h1.trans h.1, h2, trivial⟩
  | n :: ns, x :: xs, m, e, e', h, hk, h1, h2 => by
    refine ⟨(hk n (by simp)).1.trans h.1, (hk n (by simp)).2.trans (h.2.1.trans ?_), Lnk.lead h.2.2 (fun k hk' => hk k (by simp [hk'])) h1 h2⟩
    cases ns <;> rfl
  | [], [], _, _, _, h, _, _, _ => h.elim
  | [], _ :: _ :: _, _, _, _, h, _, _, _ => h.2.2.elim
  | _ :: _, [], _, _, _, h, _, _, _ => h.elim
theorem Lnk.snoc {W : List Int} : ∀ {ns xs : List Int} {n x : Int}, Lnk W ns xs (n + 1) → W.getD n.toNat 0 = x → W.getD (n + 1).toNat 0 = 0 → Lnk W (ns ++ [n]) (xs ++ [x]) 0
  | [], [], n, x, _, h1, h2 => ⟨h1, h2, trivial⟩
  | m :: ns, y :: xs, n, x, h, h1, h2 => by
    refine ⟨h.1, h.2.1.trans ?_, Lnk.snoc h.2.2 h1 h2⟩
    cases ns <;> rfl
  | [], _ :: _, _, _, h, _, _ => h.elim
  | _ :: _, [], _, _, h, _, _ => h.elim

/-- Cells of the queue's pieces stand: so does the queue. -/
theorem Qst.keep {W W' : List Int} {q : Qr} (h : Qst W q) (hk : ∀ p ∈ pcs q, ∀ j : Int, p.1 ≤ j → j < p.1 + p.2 → W'.getD j.toNat 0 = W.getD j.toNat 0) : Qst W' q := by
  have k0 := hk (q.hd, 3) (by simp [pcs])
  simp only at k0
  exact ⟨(k0 q.hd (by omega) (by omega)).trans h.first, (k0 (q.hd + 1) (by omega) (by omega)).trans h.last, (k0 (q.hd + 2) (by omega) (by omega)).trans h.count, h.lnk.keep fun n hn => by
    have k1 := hk (n, 2) (by simp [pcs, hn])
    simp only at k1
    exact ⟨k1 n (by omega) (by omega), k1 (n + 1) (by omega) (by omega)⟩⟩

/-- A cell of a piece that is out may turn. -/
theorem Rm.put {W : List Int} {fr to : Int} {out : List (Int × Int)} {back : Nat → List Int} (h : Rm W fr to out back) {p : Int × Int} (hp : p ∈ out) {j : Int} (h1 : p.1 ≤ j) (h2 : j < p.1 + p.2) (x : Int) : Rm (W.set j.toNat x) fr to out back := by
  have hi := h.outIn p hp
  have f0 := h.fr0
  have t0 := h.to0
  have nx := h.nx1
  refine h.turn (by simp) (fun k hk => getD_ne _ (by omega)) fun z z1 z2 y hy => getD_ne _ ?_
  have hb := h.backIn z z1 z2 y hy
  have hd := h.ob p hp z z1 z2 y hy
  unfold Disj at hd
  simp only at hd
  omega

/-- What all of a room's queues keep: in the program's words, and in the document's own room. -/
structure Qi (W R : List Int) (c : Int) (qs : List Qr) (back : Nat → List Int) : Prop where
  rm : Rm W 18 c (outs qs) back
  rr : Rm R 18 c (outs qs) back
  eq0 : W.getD 0 0 = R.getD 0 0
  st : ∀ q ∈ qs, Qst W q
  lw : (W.length : Int) ≤ 4611686018427387904
  lr : (R.length : Int) ≤ 4611686018427387904
/-- Two rooms that stand alike answer alike. -/
theorem take_two {s r : St} {n m : Nat} {fr to : Int} {z : Nat} {out : List (Int × Int)} {back : Nat → List Int} (hs : Ok s (n + 4)) (hr : Ok r (m + 4)) (h1 : Rm s.W fr to out back) (h2 : Rm r.W fr to out back) (e0 : s.W.getD 0 0 = r.W.getD 0 0) (z1 : 1 ≤ z) (z2 : z ≤ 16) (hl : (s.W.length : Int) ≤ 4611686018427387904) (hl2 : (r.W.length : Int) ≤ 4611686018427387904) :
    (∃ s' r', rTake s 0 z = (0, 9, s') ∧ rTake r 0 z = (0, 9, r') ∧ Ok s' n ∧ Ok r' m ∧ s'.W = s.W ∧ r'.W = r.W) ∨
    ∃ p s' r' back', rTake s 0 z = (p, 0, s') ∧ rTake r 0 z = (p, 0, r') ∧ Ok s' n ∧ Ok r' m ∧ fr ≤ p ∧ p + z ≤ to ∧ Rm s'.W fr to (out ++ [(p, (z : Int))]) back' ∧ Rm r'.W fr to (out ++ [(p, (z : Int))]) back' ∧ s'.W.getD 0 0 = r'.W.getD 0 0 ∧ (∀ q ∈ out, Disj q (p, z)) ∧ s'.W.length = s.W.length ∧ r'.W.length = r.W.length ∧ (∀ j, 18 ≤ j → s'.W.getD j 0 = s.W.getD j 0) := by
  rcases take_ok hs h1 z1 z2 hl with ⟨a1, a2, s', a3, a4, a5⟩ | ⟨p, s', back', a1, a2, a3, a4, a5, a6, a7, a8, a9, a10⟩
  · rcases take_ok hr h2 z1 z2 hl2 with ⟨b1, b2, r', b3, b4, b5⟩ | ⟨p, r', back', b1, b2, b3, b4, b5, b6, b7, b8, b9, b10⟩
    · exact .inl ⟨s', r', a3, b3, a4, b4, a5, b5⟩
    · rcases b10 with ⟨c1, c2, c3, c4⟩ | ⟨l, c1, _⟩
      · have := b5.nx1; omega
      · rw [a1] at c1; simp at c1
  · rcases take_ok hr h2 z1 z2 hl2 with ⟨b1, b2, r', b3, b4, b5⟩ | ⟨p', r', back'', b1, b2, b3, b4, b5, b6, b7, b8, b9, b10⟩
    · rcases a10 with ⟨c1, c2, c3, c4⟩ | ⟨l, c1, _⟩
      · have := a5.nx1; omega
      · rw [b1] at c1; simp at c1
    · have key : p = p' ∧ back' = back'' ∧ s'.W.getD 0 0 = r'.W.getD 0 0 := by
        rcases a10 with ⟨c1, c2, c3, c4⟩ | ⟨l, c1, c2, c3⟩
        · rcases b10 with ⟨d1, d2, d3, d4⟩ | ⟨l', d1, d2, d3⟩
          · exact ⟨by rw [c3, d3, e0], by rw [c2, d2], by rw [c4, d4, e0]⟩
          · rw [c1] at d1; simp at d1
        · rcases b10 with ⟨d1, d2, d3, d4⟩ | ⟨l', d1, d2, d3⟩
          · rw [d1] at c1; simp at c1
          · rw [c1] at d1
            obtain ⟨rfl, hp⟩ := List.append_inj' d1 rfl
            exact ⟨by simpa using hp, by rw [c2, d2], by rw [c3, d3, e0]⟩
      obtain ⟨rfl, rfl, k3⟩ := key
      exact .inr ⟨p, s', r', back', a1, b1, a2, b2, a3, a4, a5, b5, k3, a6, a7, b7, a8⟩
end Go.Proofs.Ytfbbmnlebibplaa
