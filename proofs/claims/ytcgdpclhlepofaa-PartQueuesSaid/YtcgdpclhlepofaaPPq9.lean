/- PartQueues on plain words: the law's stages. No program in sight. -/
import Derived.Deep.LoopGhost
import Derived.Deep.RegionWith
import Derived.Laws.EntriesVeiled
import Derived.Test.YtcgdpclhlepofaaPPq1
import Derived.Test.YtcgdpclhlepofaaPPq5
import Derived.Test.YtcgdpclhlepofaaPPq6
import Derived.Test.YtcgdpclhlepofaaPPq7
import Derived.Test.YtcgdpclhlepofaaPPq8
namespace Go.Proofs.Ytcgdpclhlepofaa
open Go.RowKit
set_option linter.unusedVariables false
set_option maxHeartbeats 1000000
theorem laid_at (n : Nat) (hn : 18 ≤ n) (hn2 : n ≤ 1000000) : (laidSt n).W.length = n ∧ (laidSt n).left < 0 ∧ Rm (laidSt n).W 18 n [] (fun _ => []) ∧ (laidSt n).W.getD 0 0 = 18 := by
  have h : Ok (⟨List.replicate n 0, -1, 0, 0⟩ : St) (1000 + 18) := ⟨by simp, by unfold Bud; simp⟩
  obtain ⟨s', h1, h2, h3, h4⟩ := lay_ok (x := 18) (y := n) h (by simp; omega) (by simp; omega) (by omega)
  have e : laidSt n = { s' with calls := 0 } := by unfold laidSt; rw [h1]
  rw [e]
  have hl : s'.W.length = n := by rw [h3]; simp
  refine ⟨hl, h2.1, Rm.start (by omega) (by omega) (by rw [hl]; exact Int.le_refl _) (fun j => ?_), by rw [h4 0]; rfl⟩
  rw [h4 j]
  by_cases h0 : j = 0
  · rw [if_pos h0, if_pos h0]
  · rw [if_neg h0, if_neg h0]
    by_cases h1 : j = 1
    · rw [if_pos h1, if_pos h1]
    · rw [if_neg h1, if_neg h1]
      split
      · rfl
      · simp [List.getD_eq_getElem?_getD, List.getElem?_replicate]; split <;> rfl
/-- A queue in a room that has given nothing back. -/
theorem qNew_x {s : St} {n : Nat} {c : Int} {back : Nat → List Int} (hs : Ok s (n + 7)) (hr : Rm s.W 18 c [] back) (hlw : (s.W.length : Int) ≤ 4611686018427387904) (hb3 : back 3 = []) (hcap : s.W.getD 0 0 + 3 ≤ c) :
    ∃ s', qNew s 0 = (s.W.getD 0 0, 0, s') ∧ Ok s' n ∧ s'.W.length = s.W.length ∧ Qx s'.W c ⟨s.W.getD 0 0, [], []⟩ [] back ∧ s'.W.getD 0 0 = s.W.getD 0 0 + 3 := by
  have hs3 : Ok s ((n + 3) + 4) := hs
  rcases take_ok (z := 3) hs3 hr (by omega) (by omega) hlw with ⟨a1, a2, _⟩ | ⟨p, s1, back', a1, a3, a5, a6, a7, a10, a11, a13, a14, a15⟩
  · exact absurd a2 (by omega)
  · obtain ⟨eb, ep, e0⟩ : back' = back ∧ p = s.W.getD 0 0 ∧ s1.W.getD 0 0 = s.W.getD 0 0 + 3 := by
      rcases a15 with ⟨-, eb, ep, e0⟩ | ⟨l, hl, -⟩
      · exact ⟨eb, ep, e0⟩
      · rw [hb3] at hl; simp at hl
    subst eb
    have t0 := a7.to0
    have hl1 : p + 3 ≤ (s1.W.length : Int) := by simpa using Int.le_trans a6 t0
    have b1 : Ok s1 ((n + 2) + 1) := a3
    have b2 := wrt_ok b1 p 0
    have b3 := wrt_ok b2 (p + 1) 0
    have b4 := wrt_ok b3 (p + 2) 0
    have hmem : ((p, (3 : Int)) : Int × Int) ∈ ([] : List (Int × Int)) ++ [(p, ((3 : Nat) : Int))] := by simp
    have r1 := a7.put (j := p) hmem (by simp only; omega) (by simp only; omega) 0
    have r2 := r1.put (j := p + 1) hmem (by simp only; omega) (by simp only; omega) 0
    have r3 := r2.put (j := p + 2) hmem (by simp only; omega) (by simp only; omega) 0
    have hW : (wrt (wrt (wrt s1 p 0) (p + 1) 0) (p + 2) 0).W = ((s1.W.set p.toNat 0).set (p + 1).toNat 0).set (p + 2).toNat 0 := rfl
    have hg : ∀ j : Int, 0 ≤ j → (((s1.W.set p.toNat 0).set (p + 1).toNat 0).set (p + 2).toNat 0).getD j.toNat 0 = if p + 2 = j then 0 else if p + 1 = j then 0 else if p = j then 0 else s1.W.getD j.toNat 0 := fun j hj => by
      rw [gs _ (by omega) (by simp; omega) hj, gs _ (by omega) (by simp; omega) hj, gs _ (by omega) (by omega) hj]
    refine ⟨_, ?_, b4, ?_, ?_, ?_⟩
    · have u0 : uAdd p 0 = p := by rw [uAdd_id (by omega) (by omega)]; omega
      have u1 : uAdd p (0 + 1) = p + 1 := by rw [uAdd_id (by omega) (by omega)]; omega
      have u2 : uAdd p (0 + 1 + 1) = p + 2 := by rw [uAdd_id (by omega) (by omega)]; omega
      have h0 : bput 0 s1 (uAdd p 0) 0 = (0, wrt s1 p 0) := by rw [u0, bput_0 b1 (by omega)]
      have h1 : bput 0 (wrt s1 p 0) (uAdd p (0 + 1)) 0 = (0, wrt (wrt s1 p 0) (p + 1) 0) := by rw [u1, bput_0 b2 (by rw [wrt_W]; simp; omega)]
      have h2 : bput 0 (wrt (wrt s1 p 0) (p + 1) 0) (uAdd p (0 + 1 + 1)) 0 = (0, wrt (wrt (wrt s1 p 0) (p + 1) 0) (p + 2) 0) := by rw [u2, bput_0 b3 (by rw [wrt_W, wrt_W]; simp; omega)]
      have e : qLayGo p 3 0 0 s1 = (0, wrt (wrt (wrt s1 p 0) (p + 1) 0) (p + 2) 0) := (qLayGo_s _ _ _ _ _ h0).trans ((qLayGo_s _ _ _ _ _ h1).trans (qLayGo_s _ _ _ _ _ h2))
      have a1 : rTake s 0 3 = (p, 0, s1) := a1
      rw [← ep]
      unfold qNew
      simp only [a1, e]
      rfl
    · rw [hW]; simp [a11]
    · rw [← ep, hW]
      refine ⟨?_, ⟨?_, ?_, ?_, trivial⟩, by simp; omega⟩
      · have e : pcs ⟨p, [], []⟩ ++ [] = ([] : List (Int × Int)) ++ [(p, ((3 : Nat) : Int))] := by simp [pcs]
        rw [e]
        exact r3
      · rw [hg _ (by simp only; omega)]; simp [hdOr]
      · rw [hg _ (by simp only; omega)]; simp [topOf_nil]
      · rw [hg _ (by simp only; omega)]; simp
    · rw [hW, show (0 : Nat) = ((0 : Int)).toNat from rfl, hg 0 (by omega), if_neg (by omega), if_neg (by omega), if_neg (by omega)]
      exact e0
/-- A queue at 18 that holds A, a chain ns of the words xs beside it; g pieces of two cells were given back. -/
def Stg (s : St) (ns xs A : List Int) (b : Int) (g : Nat) : Prop := ∃ nodes back, Qx s.W 1000 ⟨18, nodes, A⟩ (ndp ns) back ∧ Chn s.W ns xs ∧ s.left < 0 ∧ s.W.getD 0 0 ≤ b ∧ (back 2).length = g
section
variable {s : St} {ns xs A : List Int} {b : Int} {g : Nat}
theorem Stg.ok (h : Stg s ns xs A b g) {n : Nat} (hb : Bud s n) : Ok s n := let ⟨_, _, _, _, h, _⟩ := h; ⟨h, hb⟩
theorem Stg.calls (h : Stg s ns xs A b g) (c : Int) : Stg { s with calls := c } ns xs A b g := h
theorem Stg.same {s' : St} (h : Stg s ns xs A b g) (hW : s'.W = s.W) {n : Nat} (hl : Ok s' n) : Stg s' ns xs A b g := by
  obtain ⟨nodes, back, h1, h2, h3, h4, h5⟩ := h
  exact ⟨nodes, back, by rw [hW]; exact h1, by rw [hW]; exact h2, hl.1, by rw [hW]; exact h4, h5⟩
theorem Stg.bds (h : Stg s ns xs A b g) : ns.length = xs.length ∧ 2 * ns.length ≤ 982 ∧ 2 * A.length ≤ 982 ∧ 2 * g ≤ 982 ∧ 0 ≤ hdOr ns 0 ∧ hdOr ns 0 ≤ 1000 := by
  obtain ⟨nodes, back, h1, h2, h3, h4, h5⟩ := h
  have a1 := h2.lnk.len
  have a2 := cnt_le _ ns 18 1000 (Nat.le_refl _) h2.nn (fun x hx => by have := h1.xin (p := (x, 2)) (List.mem_map.2 ⟨x, hx, rfl⟩); simp only at this; omega) (by omega)
  have a3 := h1.cnt
  have a4 := h1.st.lnk.len
  simp only at a3 a4
  have a5 := cnt_le _ (back 2) 18 1000 (Nat.le_refl _) (by have := h1.rm.bb 2 (by omega) (by omega); simpa using this) (fun x hx => by have := h1.rm.backIn 2 (by omega) (by omega) x hx; have := h1.rm.nx1; omega) (by omega)
  have a6 : 0 ≤ hdOr ns 0 ∧ hdOr ns 0 ≤ 1000 := by
    cases ns with
    | nil => simp [hdOr]
    | cons n t => have := h1.xin (p := (n, 2)) (List.mem_map.2 ⟨n, by simp, rfl⟩); simp only at this; simp only [hdOr]; omega
  omega
theorem stg_put {n : Nat} (x : Int) (h : Stg s ns xs A b g) (hb : Bud s (n + 11)) (hc : b + 2 ≤ 1000) : ∃ s' g', qPut s 0 18 x = (0, s') ∧ Stg s' ns xs (A ++ [x]) (b + 2) g' ∧ Bud s' n := by
  have hO := h.ok hb
  obtain ⟨nodes, back, h1, h2, h3, h4, h5⟩ := h
  obtain ⟨p, s', back', e1, e2, -, -, e5, e6, e7, e8⟩ := qPut_x x hO h1 fun _ => by omega
  exact ⟨s', _, e1, ⟨_, back', e6, h2.keep e5 e8, e2.1, by omega, rfl⟩, e2.2⟩
theorem stg_queue {n : Nat} (h : Stg s [] [] A b g) (hb : Bud s (n + 5)) : ∃ ns s', pQueue 18 s = (hdOr ns 0, (A.length : Int), 0, s') ∧ s'.calls = s.calls + 5 ∧ Stg s' ns A [] b g := by
  have hO := h.ok hb
  obtain ⟨nodes, back, h1, h2, h3, h4, h5⟩ := h
  obtain ⟨s', e1, e2, e3, e4, e5, e6, e7⟩ := pQueue_x (q := ⟨18, nodes, A⟩) hO h1
  have hl := h1.st.lnk.len
  simp only at e1 e5 e6 hl
  exact ⟨nodes, s', by rw [e1, hl], e3, [], back, e5, e6, e2.1, by rw [e7]; exact h4, h5⟩
theorem stg_read {n : Nat} (h : Stg s ns xs A b g) (hb : Bud s (n + 1000)) : ∃ s', pRead 1 (hdOr ns 0) xs.length s = (xs, 0, s') ∧ Stg s' ns xs A b g := by
  obtain ⟨a1, a2, a3, a4, a5, a6⟩ := h.bds
  have hO : Ok s (n + 2 * ns.length) := (h.ok hb).mono (by omega)
  obtain ⟨_, _, _, h2, _⟩ := id h
  obtain ⟨s', e1, e2, e3⟩ := pRead_x h2 hO (by omega)
  exact ⟨s', by rw [← a1]; exact e1, h.same e3 e2⟩
theorem stg_words {n : Nat} (h : Stg s ns xs A b g) (hf : Fits s) (hb : Bud s (n + 131080)) : ∃ s', qWords s 18 = (A, 0, s') ∧ Stg s' ns xs A b g := by
  have hO := h.ok hb
  have hbd := h.bds
  obtain ⟨nodes, back, h1, h2, h3, h4, h5⟩ := id h
  have hl := h1.st.lnk.len
  simp only at hl
  have hw := h1.whole (by simp only; omega)
  simp only at hw
  obtain ⟨t1, t2, t3, t4⟩ := (qWords_law hO hf (by omega) hw).1 rfl
  have hx := h1.st.lnk.words
  simp only at hx
  rw [hx] at t1
  exact ⟨_, Prod.ext t1 (Prod.ext t2 rfl), h.same t3 t4⟩
theorem stg_turn {n : Nat} (f : Int → Int) (h : Stg s ns xs A b g) (hb : Bud s (n + 1500)) : ∃ s', pTurn f 1 (hdOr ns 0) xs.length s = (0, s') ∧ Stg s' ns (xs.map f) A b g := by
  obtain ⟨a1, a2, a3, a4, a5, a6⟩ := h.bds
  have hO : Ok s (n + 3 * ns.length) := (h.ok hb).mono (by omega)
  obtain ⟨nodes, back, h1, h2, h3, h4, h5⟩ := h
  obtain ⟨s', e1, e2, e3, e4, e5⟩ := pTurn_x (f := f) h2 hO (by omega)
  have hin : ∀ y ∈ ns, 18 ≤ y := fun y hy => by have := h1.xin (p := (y, 2)) (List.mem_map.2 ⟨y, hy, rfl⟩); simp only at this; omega
  have hh : ∀ j, j < 18 → s'.W.getD j 0 = s.W.getD j 0 := fun j hj => by
    have := e5 (j : Int) (by omega) fun y hy => by have := hin y hy; omega
    simpa using this
  have hrm : Rm s'.W 18 1000 (pcs ⟨18, nodes, A⟩ ++ ndp ns) back := h1.rm.turn e3 hh fun z z1 z2 x hx => by
    have hi := h1.rm.backIn z z1 z2 x hx
    refine e5 x (by omega) fun y hy e => ?_
    have d := h1.rm.ob (y, 2) (List.mem_append_right _ (List.mem_map.2 ⟨y, hy, rfl⟩)) z z1 z2 x hx
    unfold Disj at d
    simp only at d
    omega
  exact ⟨s', by rw [← a1]; exact e1, nodes, back, h1.turn e3 e5 hrm, e4, e2.1, by rw [hh 0 (by omega)]; exact h4, h5⟩
theorem stg_no {n : Nat} (h : Stg s ns xs A b g) (hA : A ≠ []) (hb : Bud s (n + 1)) (f c : Int) : ∃ s', pBack 18 1 f c s = (2, s') ∧ Stg s' ns xs A b g := by
  have hO := h.ok hb
  obtain ⟨nodes, back, h1, _⟩ := id h
  have hl := h1.st.lnk.len
  simp only at hl
  obtain ⟨s', e1, e2, e3⟩ := pBack_no hO h1 (fun e => hA (by simp only at e; subst e; exact List.eq_nil_of_length_eq_zero hl.symm)) f c
  exact ⟨s', e1, h.same e3 e2⟩
theorem stg_take {n : Nat} {y : Int} {A : List Int} (h : Stg s ns xs (y :: A) b g) (hb : Bud s (n + 10)) : ∃ s' g', qTake s 0 18 = (y, true, 0, s') ∧ Stg s' ns xs A 1000 g' := by
  have hO := h.ok hb
  obtain ⟨nodes, back, h1, h2, h3, h4, h5⟩ := h
  cases nodes with
  | nil => exact h1.st.lnk.elim
  | cons nd nodes =>
    obtain ⟨s', back', e1, e2, e3, e4, e5⟩ := qTake_x hO h1
    exact ⟨s', _, e1, nodes, back', e4, h2.keep e3 e5, e2.1, e4.rm.nx1, rfl⟩
theorem stg_back {n : Nat} (h : Stg s ns xs [] b g) (hb : Bud s (n + 1000)) : ∃ s', pBack 18 1 (hdOr ns 0) xs.length s = (0, s') ∧ Stg s' [] [] xs b g := by
  obtain ⟨a1, a2, a3, a4, a5, a6⟩ := h.bds
  have hO : Ok s (n + 4 + 2 * ns.length) := (h.ok hb).mono (by omega)
  obtain ⟨nodes, back, h1, h2, h3, h4, h5⟩ := h
  have hl := h1.st.lnk.len
  simp only at hl
  obtain rfl : nodes = [] := List.eq_nil_of_length_eq_zero (by rw [hl]; rfl)
  obtain ⟨s', e1, e2, e3, e4, e5⟩ := pBack_yes hO h1 h2 (by omega)
  exact ⟨s', by rw [← a1]; exact e1, ns, back, e4, ⟨trivial, fun _ h => by simp at h, .nil, e4.lw⟩, e2.1, by rw [e5]; exact h4, h5⟩
theorem stg_len {n : Nat} (h : Stg s ns xs A b g) (hb : Bud s (n + 1)) : ∃ s', qLen s 18 = ((A.length : Int), 0, s') ∧ Stg s' ns xs A b g := by
  have hO := h.ok hb
  obtain ⟨nodes, back, h1, _⟩ := id h
  obtain ⟨g1, g2, g3⟩ := h1.inn (pcs_hd _)
  simp only at g1 g2 g3
  have hl := h1.st.lnk.len
  have hc := h1.st.count
  simp only at hl hc
  refine ⟨rdt s (18 + 2), ?_, h.same rfl (rdt_ok hO _)⟩
  unfold qLen
  rw [uAdd_id (by omega) (by omega), sget_rdt hO (by omega), hc, hl]
theorem givenGo_one {W : List Int} {z : Nat} {out : List (Int × Int)} {c : Int} {back : Nat → List Int} (h1 : Rm W 18 c out back) (z1 : 1 ≤ z) (z2 : z ≤ 16) (hl1 : (W.length : Int) ≤ 4611686018427387904) : ∀ (k : Nat) (b rest : List Int) (a : Int) (l : List Int) (s : St) (n : Nat), back z = b ++ rest → b.length ≤ k → s.W = W → Ok s (n + k + 1) → 0 ≤ a → a < (W.length : Int) → W.getD a.toNat 0 = topOf b →
    ∃ l' s', givenGo k a l s = (l', 0, s') ∧ l'.length = l.length + b.length ∧ s'.W = W ∧ Ok s' n := by
  intro k
  induction k with
  | zero =>
    intro b rest a l s n hb hk es hs ha ha1 e1
    obtain rfl : b = [] := List.eq_nil_of_length_eq_zero (by omega)
    have hs' : Ok s (n + 1) := hs
    have f1 : sget s a = (0, 0, gone s (false, a, 0)) := by rw [sget_live hs' (by rw [es]; exact ha1), es, e1]; rfl
    exact ⟨l, gone s (false, a, 0), givenGo_end f1 rfl, rfl, es, hs'.gone _⟩
  | succ k ih =>
    intro b rest a l s n hb hk es hs ha ha1 e1
    have hs' : Ok s ((n + k + 1) + 1) := hs
    have f1 : sget s a = (topOf b, 0, gone s (false, a, 0)) := by rw [sget_live hs' (by rw [es]; exact ha1), es, e1]
    have hcat := List.eq_nil_or_concat b
    simp only [List.concat_eq_append] at hcat
    rcases hcat with rfl | ⟨b', x, rfl⟩
    · exact ⟨l, gone s (false, a, 0), givenGo_end f1 topOf_nil, rfl, es, (hs'.gone (false, a, 0)).mono (by omega)⟩
    · have hx := h1.backIn z z1 z2 x (by rw [hb]; simp)
      have hx1 := h1.nx1
      have hxt1 := h1.to0
      have ht : topOf (b' ++ [x]) = x + 1 := topOf_snoc _ _
      have h0 : x + 1 ≠ 0 := by omega
      have u : IntKind.u64.wrap (x + 1 - 1) = x := by rw [show x + 1 - 1 = x by omega, uw_id (by omega) (by omega)]
      have c1 := h1.chain z z1 z2 b' x rest (by rw [hb]; simp)
      rw [ht] at f1
      obtain ⟨l', s', q1, q2, q3, q4⟩ := ih b' (x :: rest) x (l ++ [x]) (gone s (false, a, 0)) n (by rw [hb]; simp) (by simp at hk; omega) es (hs'.gone _) (by omega) (by omega) c1
      exact ⟨l', s', by rw [givenGo_next f1 h0, u]; exact q1, by rw [q2]; simp; omega, q3, q4⟩
theorem stg_given {n : Nat} (h : Stg s ns xs A b g) (hb : Bud s (n + 65537)) : ∃ l s', rGiven s 0 2 = (l, 0, s') ∧ l.length = g ∧ Stg s' ns xs A b g := by
  have hO : Ok s (n + 65536 + 1) := h.ok hb
  have hbd := h.bds
  obtain ⟨nodes, back, h1, h2, h3, h4, h5⟩ := id h
  obtain ⟨g1, g2, g3⟩ := h1.inn (pcs_hd _)
  simp only at g1 g2 g3
  obtain ⟨l, s', k1, k2, k3, k4⟩ := givenGo_one h1.rm (z := 2) (by omega) (by omega) h1.lw 65536 (back 2) [] 3 [] s n (by simp) (by omega) rfl hO (by omega) (by omega) (h1.rm.top 2 (by omega) (by omega))
  refine ⟨l, s', ?_, by rw [k2, h5]; simp, h.same k3 k4⟩
  unfold rGiven
  rw [if_neg (by omega)]
  exact k1
def pGiveGo : List Int → St → Int × St
  | [], s => (0, s)
  | x :: l, s => match rGive s 0 x 2 with | (e, s1) => if (e != 0) = true then (e, s1) else pGiveGo l s1
def pGive (kind first count : Int) (s : St) : Int × St := match pNodes kind first count s with | (l, e, s1) => if (e != 0) = true then (e, s1) else pGiveGo l s1
theorem pGiveGo_x {c : Int} {o1 : List (Int × Int)} : ∀ (ns : List Int) (s : St) (n : Nat) (back : Nat → List Int), Ok s (n + 3 * ns.length) → Rm s.W 18 c (o1 ++ ndp ns) back → (s.W.length : Int) ≤ 4611686018427387904 →
    ∃ s' back', pGiveGo ns s = (0, s') ∧ Ok s' n ∧ s'.W.length = s.W.length ∧ Rm s'.W 18 c o1 back' ∧ (back' 2).length = (back 2).length + ns.length ∧ s'.W.getD 0 0 = s.W.getD 0 0 ∧ (∀ u ∈ o1, ∀ j : Int, u.1 ≤ j → j < u.1 + u.2 → s'.W.getD j.toNat 0 = s.W.getD j.toNat 0)
  | [], s, n, back, hs, h1, _ => ⟨s, back, rfl, hs, rfl, by simpa [ndp] using h1, rfl, rfl, fun _ _ _ _ _ => rfl⟩
  | x :: ns, s, n, back, hs, h1, hl1 => by
    have hs' : Ok s ((n + 3 * ns.length) + 3) := hs.mono (by simp; omega)
    have e : o1 ++ ndp (x :: ns) = o1 ++ (x, ((2 : Nat) : Int)) :: ndp ns := by simp [ndp]
    rw [e] at h1
    obtain ⟨s1, q1, k1, W1, m1⟩ := give_ok hs' h1 hl1
    have hx := h1.outIn (x, ((2 : Nat) : Int)) (by simp)
    have hto := h1.to0
    have hnx := h1.nx1
    simp only at hx
    obtain ⟨s2, back2, q2, k2, L2, r2, c2, z2, hk⟩ := pGiveGo_x ns s1 n _ k1 m1 (by rw [W1]; simpa using hl1)
    have q1 : rGive s 0 x 2 = (0, s1) := q1
    refine ⟨s2, back2, ?_, k2, by rw [L2, W1]; simp, r2, by rw [c2]; simp; omega, by rw [z2, W1, getD_ne _ (by omega), getD_ne _ (by omega)], fun u hu j hj1 hj2 => ?_⟩
    · rw [pGiveGo, q1]
      exact q2
    · rw [hk u hu j hj1 hj2, W1]
      have hi := h1.outIn u (List.mem_append_left _ hu)
      have hd : Disj u (x, ((2 : Nat) : Int)) := by
        have hoo := h1.oo
        rw [List.pairwise_append] at hoo
        exact hoo.2.2 u hu _ (by simp)
      unfold Disj at hd
      simp only at hd
      rw [getD_ne _ (by omega), getD_ne _ (by omega)]
theorem stg_nodes {n : Nat} (h : Stg s ns xs A b g) (hb : Bud s (n + 1000)) : ∃ s1, pNodes 1 (hdOr ns 0) xs.length s = (ns, 0, s1) ∧ (∀ x ∈ ns, 0 ≤ x ∧ x ≤ 18446744073709551615) ∧ ns.length ≤ 491 := by
  obtain ⟨a1, a2, a3, a4, a5, a6⟩ := h.bds
  have hO : Ok s (n + 2 * ns.length) := (h.ok hb).mono (by omega)
  obtain ⟨nodes, back, h1, h2, h3, h4, h5⟩ := h
  obtain ⟨s1, e1, e2, e3⟩ := pNodes_x h2 hO (by omega)
  exact ⟨s1, by rw [← a1]; exact e1, fun x hx => by have := h2.inn x hx; have := h2.lw; omega, by omega⟩
theorem Stg.wide {b' : Int} (h : Stg s ns xs A b g) (hb : b ≤ b') : Stg s ns xs A b' g := by
  obtain ⟨nodes, back, h1, h2, h3, h4, h5⟩ := h
  exact ⟨nodes, back, h1, h2, h3, by omega, h5⟩
theorem stg_give {n : Nat} (h : Stg s ns xs [] b g) (hb : Bud s (n + 2500)) : ∃ s', pGive 1 (hdOr ns 0) xs.length s = (0, s') ∧ Stg s' [] [] [] b (g + xs.length) := by
  obtain ⟨a1, a2, a3, a4, a5, a6⟩ := h.bds
  have hO : Ok s ((n + 3 * ns.length) + 2 * ns.length) := (h.ok hb).mono (by omega)
  obtain ⟨nodes, back, h1, h2, h3, h4, h5⟩ := h
  obtain ⟨s1, e1, e2, e3⟩ := pNodes_x h2 hO (by omega)
  obtain ⟨s2, back2, q2, k2, L2, r2, c2, z2, hk⟩ := pGiveGo_x (o1 := pcs ⟨18, nodes, []⟩) ns s1 n back e2 (by rw [e3]; exact h1.rm) (by rw [e3]; exact h1.lw)
  rw [e3] at hk z2 L2
  have hlw := h1.lw
  refine ⟨s2, ?_, nodes, back2, ⟨by simpa [ndp] using r2, h1.st.keep hk, by rw [L2]; exact hlw⟩, ⟨trivial, fun _ h => by simp at h, .nil, by rw [L2]; exact hlw⟩, k2.1, by rw [z2]; exact h4, by rw [c2, h5, a1]⟩
  unfold pGive
  rw [← a1, e1]
  exact q2
end
/-- The room laid, the queue made. -/
theorem stg_new : ∃ s', qNew (laidSt 1000) 0 = (18, 0, s') ∧ Stg s' [] [] [] 21 0 ∧ Bud s' 4000000 := by
  obtain ⟨l1, l2, l3, l4⟩ := laid_at 1000 (by omega) (by omega)
  have hb : Ok (laidSt 1000) (4000000 + 7) := ⟨l2, by
    unfold Bud
    decide +kernel⟩
  obtain ⟨s', e1, e2, e3, e4, e5⟩ := qNew_x hb l3 (by rw [l1]; omega) rfl (by rw [l4]; omega)
  rw [l4] at e1 e4 e5
  exact ⟨s', e1, ⟨[], _, e4, ⟨trivial, fun _ h => by simp at h, .nil, e4.lw⟩, e2.1, by omega, rfl⟩, e2.2⟩
theorem stg_fillGo : ∀ (l A : List Int) (s : St) (b : Int) (g n : Nat), Stg s [] [] A b g → Bud s (n + 11 * l.length) → b + 2 * l.length ≤ 1000 →
    ∃ s' g', fillGo 18 l true s = (true, s') ∧ Stg s' [] [] (A ++ l) (b + 2 * l.length) g'
  | [], A, s, b, g, n, h, _, _ => ⟨s, g, rfl, by simpa using h⟩
  | x :: l, A, s, b, g, n, h, hb, hc => by
    simp only [List.length_cons] at hb hc
    have hb' : Bud s ((n + 11 * l.length) + 11) := hb.mono (by omega)
    obtain ⟨s1, g1, e1, h1, b1⟩ := stg_put x h hb' (by omega)
    obtain ⟨s2, g2, e2, h2⟩ := stg_fillGo l (A ++ [x]) s1 (b + 2) g1 n h1 b1 (by omega)
    refine ⟨s2, g2, ?_, ?_⟩
    · rw [fillGo, e1]; exact e2
    · have e : b + 2 * ((x :: l).length : Int) = b + 2 + 2 * (l.length : Int) := by simp; omega
      rw [e]
      simpa using h2
theorem stg_fill (l : List Int) (hl : l.length ≤ 300) : ∃ s' g', fillSt l = (18, true, s') ∧ Stg s' [] [] l (21 + 2 * l.length) g' := by
  obtain ⟨s1, e1, h1, b1⟩ := stg_new
  obtain ⟨s2, g2, e2, h2⟩ := stg_fillGo l [] s1 21 0 0 h1 (b1.mono (by omega)) (by omega)
  refine ⟨s2, g2, ?_, by simpa using h2⟩
  unfold fillSt
  rw [e1]
  simp only
  have : ((0 : Int) == 0) = true := rfl
  rw [this, e2]
end Go.Proofs.Ytcgdpclhlepofaa
/- part.Read and part.nodes by contract once more: what they answer is new. part.Give. -/
namespace Go.Proofs.Ytcgdpclhlepofaa
open Go.RowKit
set_option maxHeartbeats 4000000
set_option linter.unusedVariables false
set_option linter.unusedSimpArgs false

set_option maxRecDepth 100000 in
theorem preadw_b {t n : Nat} {F F0 : Nat → Prop} {s : St} {kind first count : Int} {w w0 : World}
    (hw : Txw w t F s) (hf : Fits s) (hb : Bud s (n + 3 * 65537)) (h1 : 0 ≤ first) (h1' : first ≤ 18446744073709551615) (h2 : 0 ≤ count) (h2' : count ≤ 18446744073709551615) (hm : Fr F0 w0 F w) :
    Calls Try.prog 9 #[.agg #[.int .i64 kind, .int .u64 first, .int .u64 count], .func (.func 13) #[.pointer (some ⟨t, 0, none⟩)] #[]] w fun e w' =>
      ∃ v l er s', Hid (pRead kind first count s = (l, er, s')) ∧ e = .returned (.tuple #[v, .int .i64 er]) ∧ LftV t n 0 F0 w0 s' v l w' ∧ ∀ k, own v k → F k ∨ w.heap.size ≤ k := by
  have hTw := (hw.alloc (.cells #[.int .i64 kind, .int .u64 first, .int .u64 count] 25))
  have hE : (w.alloc (.cells #[.int .i64 kind, .int .u64 first, .int .u64 count] 25)).heap.size = w.heap.size + 1 := by simp
  have hJ := JSl.new (w := w) (w1 := w.alloc (.cells #[.int .i64 kind, .int .u64 first, .int .u64 count] 25)) fun k hk => hTw.lt k hk
  rw [hE] at hJ
  have hT := hTw.alloc (.cells #[.slice none 0 0] 32)
  have hM := (((Fr.refl F w).alloc (.cells #[.int .i64 kind, .int .u64 first, .int .u64 count] 25)).alloc (.cells #[.slice none 0 0] 32)).into (G := fun k => F k ∨ k = w.heap.size + 1) fun k hk => hk.elim .inl fun h => .inr (.inr (by rw [h]; omega))
  have dp := (Blk.new w 25 #[.int .i64 kind, .int .u64 first, .int .u64 count])
  have dp0 := (dp.alloc (.cells #[.slice none 0 0] 32)).cell 0
  have dp1 := (dp.alloc (.cells #[.slice none 0 0] 32)).cell 1
  have dp2 := (dp.alloc (.cells #[.slice none 0 0] 32)).cell 2
  simp only [List.getElem?_toArray, List.getElem?_cons_zero, List.getElem?_cons_succ] at dp0 dp1 dp2
  go_enter Try.func9, Try.ntmps9
  go_wp2_with fail
  refine (each_b (cb := w.heap.size + 1) (readc_law t (w.heap.size + 1)) hT hJ (fun k hk => by rw [hk]; simp) hf hb h1 h1' h2 h2' hM).mono ?_
  rintro _ w3 ⟨er, l, s3, hq, rfl, hL⟩
  obtain ⟨hlen, f3, b3, F3, G3, hT3, ⟨A, cp, hB3, hv3, hF3, hG3, ho3⟩, hM3⟩ := hL
  have dc3 := hB3.cell 0
  simp only [List.getElem?_toArray, List.getElem?_cons_zero] at dc3
  have hM4 : Fr F0 w0 F3 w3 := hm.trans (hM3.into fun k hk => .inl (.inl hk))
  have hge : Hid (∀ k, own (.slice A l.length cp) k → F k ∨ w.heap.size ≤ k) := Lib.hid fun k hk => hM3.new k (.inr ((hG3 k).2 (.inr hk)))
  have hV : Hid (LftV t n 0 F0 w0 s3 (.slice A l.length cp) l w3) := Lib.hid ⟨f3, b3, hv3, fun _ _ => Nat.zero_le _, F3, hT3, hM4, fun k hk => (ho3 k hk).1⟩
  have hN : Hid (LftV t n 0 F0 w0 s3 (.slice none 0 0) [] w3) := Lib.hid ⟨f3, b3, Wl.nil _, fun _ _ => Nat.zero_le _, F3, hT3, hM4, fun k hk => nomatch hk⟩
  clear hT hJ hM dp dp0 dp1 dp2 hT3 hB3 hv3 hF3 hG3 ho3 hM3 hM4 hw hm
  by_cases he : er = 0
  · subst he
    have hq2 : Hid (pRead kind first count s = (l, 0, s3)) := Lib.hid (by unfold pRead; rw [hq.out]; rfl)
    clear hq
    go_wp2
    go_ret2
    exact ⟨_, l, 0, s3, hq2, rfl, hV.out, hge.out⟩
  · have z : (er != 0) = true := by simpa using he
    have hq2 : Hid (pRead kind first count s = ([], er, s3)) := Lib.hid (by unfold pRead; rw [hq.out]; simp only; rw [if_pos z])
    clear hq he
    go_wp2
    go_ret2
    exact ⟨_, [], er, s3, hq2, rfl, hN.out, fun k hk => nomatch hk⟩

theorem pGiveGo_drop {ns : List Int} {j : Nat} (hj : j < ns.length) {s s1 : St} {e : Int} (h : rGive s 0 (ns.getD j 0) 2 = (e, s1)) : pGiveGo (ns.drop j) s = if (e != 0) = true then (e, s1) else pGiveGo (ns.drop (j + 1)) s1 := by
  rw [List.drop_eq_getElem_cons hj]
  have e1 : ns[j] = ns.getD j 0 := by rw [List.getD_eq_getElem?_getD, List.getElem?_eq_getElem hj]; rfl
  rw [e1, pGiveGo, h]
set_option maxRecDepth 100000 in
/-- part.Give of a part whose nodes are told. -/
theorem pgive_b {t n : Nat} {F F0 : Nat → Prop} {s s1 : St} {kind first count : Int} {ns : List Int} {w w0 : World}
    (hw : Txw w t F s) (hf : Fits s) (hb : Bud s (n + 3 * ns.length + 3 * 65537)) (h1 : 0 ≤ first) (h1' : first ≤ 18446744073709551615) (h2 : 0 ≤ count) (h2' : count ≤ 18446744073709551615) (hm : Fr F0 w0 F w) (hq : pNodes kind first count s = (ns, 0, s1)) (hnb : ∀ x ∈ ns, 0 ≤ x ∧ x ≤ 18446744073709551615) (hnl : ns.length ≤ 65537) :
    Calls Try.prog 15 #[.iface 26 (.pointer (some ⟨t, 0, none⟩)), .int .u64 0, .agg #[.int .i64 kind, .int .u64 first, .int .u64 count]] w fun e w' =>
      ∃ er s', Hid (pGive kind first count s = (er, s')) ∧ e = .returned (.int .i64 er) ∧ Lft t n F0 w0 s' w' := by
  have hT := hw.alloc (.cells #[.int .i64 kind, .int .u64 first, .int .u64 count] 25)
  have hM := hm.alloc (.cells #[.int .i64 kind, .int .u64 first, .int .u64 count] 25)
  have hB := Blk.new w 25 #[.int .i64 kind, .int .u64 first, .int .u64 count]
  have HQ : Hid (pGive kind first count s = pGiveGo ns s1) := Lib.hid (by unfold pGive; rw [hq]; rfl)
  have HQ1 := Lib.hid hq
  have HNB := Lib.hid hnb
  have d0 := hB.cell 0
  have d1 := hB.cell 1
  have d2 := hB.cell 2
  simp only [List.getElem?_toArray, List.getElem?_cons_zero, List.getElem?_cons_succ] at d0 d1 d2
  clear hw hm hq hnb hB
  go_enter Try.func15, Try.ntmps15
  go_wp2_with fail
  generalize w.alloc (.cells #[.int .i64 kind, .int .u64 first, .int .u64 count] 25) = w1 at *
  generalize w.heap.size = pb at *
  refine (pnodes_b (n := n + 3 * ns.length) hT hf hb h1 h1' h2 h2' (Fr.refl F _)).mono ?_
  rintro _ w5 ⟨v5, l5, e5, s5, q5, rfl, f5, b5, hv5, hvo5, F5, hT5, hm5, hvF5⟩
  obtain ⟨rfl, rfl, rfl⟩ : ns = l5 ∧ 0 = e5 ∧ s1 = s5 := by have := HQ1.out.symm.trans q5.out; simpa using this
  have HT5 := Lib.hid hT5
  have HM5 := Lib.hid (hM.trans hm5)
  have HV5 := Lib.hid hv5
  obtain ⟨A5, c5, rfl, hc5⟩ := hv5.shape
  have HVF := Lib.hid hvF5
  have hli : (ns.length : Int) ≤ 65537 := by omega
  clear hT hM hf hb hT5 hm5 hv5 q5 d0 d1 d2 hvo5 hvF5
  go_wp2_with fail
  go_loopg [23] ns.length (fun gk c23 wr => ∃ (j : Nat) (sx : St) (Fx : Nat → Prop), gk + j = ns.length ∧ c23 = .int .i64 (j : Int) ∧ Hid (pGiveGo ns s1 = pGiveGo (ns.drop j) sx) ∧ Fits sx ∧ Bud sx (n + 3 * gk) ∧ Hid (Txw wr t Fx sx) ∧ Hid (Fr F0 w0 Fx wr) ∧ Hid (Wl wr (.slice A5 ns.length c5) ns) ∧ Hid (∀ k, own (.slice A5 ns.length c5) k → ¬ Fx k))
  case atStart => exact ⟨0, s1, F5, rfl, rfl, Lib.hid (by simp), f5, b5, HT5, HM5, HV5, HVF⟩
  case round =>
    obtain ⟨j, sx, Fx, hgk, rfl, HPZ, fx, bx, HT, HM, HV, HZP⟩ := hrel
    have HG := Lib.hid hgk
    clear hgk HT5 HM5 HV5 HVF f5 b5
    by_cases hj : j < ns.length
    · obtain ⟨g, rfl⟩ : ∃ g, gk = g + 1 := ⟨gk - 1, by have := HG.out; omega⟩
      obtain ⟨gz, oz, hA, _, hc, _⟩ := HV.out.upd hj
      have hAz := Lib.hid hA
      subst hA
      have hzj := HNB.out _ (show ns.getD j 0 ∈ ns by rw [List.getD_eq_getElem?_getD, List.getElem?_eq_getElem hj]; exact List.getElem_mem hj)
      have hji : (j : Int) < ns.length := by omega
      have hPZ := Lib.hid fun (e : Int) (s9 : St) (h : rGive sx 0 (ns.getD j 0) 2 = (e, s9)) => HPZ.out.trans (pGiveGo_drop hj h)
      obtain ⟨hzj1, hzj2⟩ := hzj
      clear HPZ
      generalize ns.getD j 0 = zj at *
      have bx : Bud sx ((n + 3 * g) + 3) := bx
      go_wp2_with fail
      refine (give_b HT.out fx bx (by omega) hzj1 hzj2 (by omega) (Fr.refl Fx _)).mono ?_
      rintro _ w7 ⟨e7, s7, q7, rfl, f7, b7, F7, hT7, hm7⟩
      have HT7 := Lib.hid hT7
      have HM7 := Lib.hid (HM.out.trans hm7)
      have HV7 := Lib.hid (HV.out.fr hm7 HZP.out)
      have HZP7 : Hid (∀ k, own (.slice (some ⟨gz, oz, none⟩) ns.length c5) k → ¬ F7 k) := Lib.hid fun k hk h => (hm7.new k h).elim (HZP.out k hk) fun h2 => by have := HV.out.lt k hk; omega
      have hPZ7 := Lib.hid (hPZ.out e7 s7 q7.out)
      clear hT7 hm7 HT HM HV HZP hPZ q7 hc
      by_cases he : e7 = 0
      · subst he
        have hPZ8 : Hid (pGiveGo ns s1 = pGiveGo (ns.drop (j + 1)) s7) := Lib.hid (by rw [hPZ7.out, if_neg (by decide)])
        clear hPZ7
        go_wp2
        go_roundg g
        case measure => omega
        case rel => exact ⟨j + 1, s7, F7, by have := HG.out; omega, by go_num, hPZ8, f7, b7, HT7, HM7, HV7, HZP7⟩
      · have z : (e7 != 0) = true := by simpa using he
        have hx : Hid (pGive kind first count s = (e7, s7)) := Lib.hid (by rw [HQ.out, hPZ7.out, if_pos z])
        clear he
        go_wp2
        go_ret
        exact ⟨e7, s7, hx, rfl, f7, b7.mono (by omega), F7, HT7.out, HM7.out⟩
    · obtain rfl : j = ns.length := by have := HG.out; omega
      obtain rfl : gk = 0 := by have := HG.out; omega
      have hfin : Hid (pGive kind first count s = (0, sx)) := Lib.hid (by rw [HQ.out, HPZ.out]; simp [pGiveGo])
      clear hj
      go_wp2
      go_ret
      exact ⟨0, sx, hfin, rfl, fx, bx.mono (by omega), Fx, HT.out, HM.out⟩
end Go.Proofs.Ytcgdpclhlepofaa
/- room.Given over the statement's own tx, by contract. -/
namespace Go.Proofs.Ytcgdpclhlepofaa
open Go.RowKit
set_option maxHeartbeats 4000000
set_option linter.unusedVariables false
set_option linter.unusedSimpArgs false

/-- what is told from a link on that was got -/
def gvn (k : Nat) (x e : Int) (l : List Int) (s : St) : List Int × Int × St :=
  if (e != 0) = true then ([], e, s) else if (x == 0) = true then (l, 0, s) else match k with
    | 0 => ([], 2, s)
    | k + 1 => givenGo k (IntKind.u64.wrap (x - 1)) (l ++ [IntKind.u64.wrap (x - 1)]) s
theorem givenGo_gvn {k : Nat} {a x e : Int} {l : List Int} {s s1 : St} (h : sget s a = (x, e, s1)) : givenGo k a l s = gvn k x e l s1 := by
  unfold gvn
  by_cases he : e = 0
  · subst he
    rw [if_neg (by decide)]
    by_cases hx : x = 0
    · subst hx
      cases k <;> (rw [givenGo]; simp only [h]; rfl)
    · have hx2 : ¬ (x == 0) = true := by simpa using hx
      have hx3 : ¬ (x != 0) = false := by simpa using hx
      cases k
      · rw [givenGo]; simp only [h]; rw [if_pos (by decide), if_neg hx3, if_neg hx2]
      · rw [givenGo]; simp only [h]; rw [if_pos (by decide), if_neg hx3, if_neg hx2]
  · have h1 : (e != 0) = true := by simpa using he
    have h2 : ¬ (e != 0) = false := by simpa using he
    cases k
    · rw [givenGo]; simp only [h]; rw [if_neg h2, if_pos h1]
    · rw [givenGo]; simp only [h]; rw [if_neg h2, if_pos h1]
set_option maxRecDepth 100000 in
theorem rgiven_b {t n : Nat} {F F0 : Nat → Prop} {s : St} {a z : Int} {w w0 : World} (hw : Txw w t F s) (hf : Fits s) (hb : Bud s (n + 65537)) (ha : 0 ≤ a) (z1 : 1 ≤ z) (z2 : z ≤ 16) (hm : Fr F0 w0 F w) :
    Calls Try.prog 25 #[.iface 26 (.pointer (some ⟨t, 0, none⟩)), .int .u64 a, .int .u64 z] w fun e w' =>
      ∃ v l er s', Hid (rGiven s a z = (l, er, s')) ∧ e = .returned (.tuple #[v, .int .i64 er]) ∧ LftV t n w.heap.size F0 w0 s' v l w' := by
  have hL : Hid (rGiven s a z = givenGo 65536 (uAdd (uAdd a 1) z) [] s) := Lib.hid (by unfold rGiven; rw [if_neg (by omega)])
  have hms := hm.size
  have HM := Lib.hid hm
  have HW := Lib.hid hw
  have hz0 : w.heap.size ≤ w.heap.size := Nat.le_refl _
  clear hm hw
  go_enter Try.func25, Try.ntmps25
  go_wp2
  go_step3
  go_wp2_with (go_at_call 45; refine (fits_ok _ _ z1 z2 _).mono ?_; rintro e w' ⟨rfl, rfl⟩)
  go_step3
  go_wp2
  generalize hBe : w.heap.size = B at *
  have HB := Lib.hid hBe
  clear hBe
  go_loopg [9, 10] 65536 (fun gk c9 c10 wr => ∃ (l : List Int) (A : Option Addr) (cp : Nat) (av : Int) (s2 : St) (F2 : Nat → Prop), gk + l.length = 65536 ∧ c9 = .slice A l.length cp ∧ c10 = .int .u64 av ∧ 0 ≤ av ∧ Hid (rGiven s a z = givenGo gk av l s2) ∧ Fits s2 ∧ Bud s2 (n + gk + 1) ∧ Hid (Txw wr t F2 s2) ∧ Hid (Fr F0 w0 F2 wr) ∧ Hid (Wl wr (.slice A l.length cp) l) ∧ Hid (∀ k, own (.slice A l.length cp) k → B ≤ k ∧ ¬ F2 k) ∧ B ≤ wr.heap.size)
  case atStart => exact ⟨[], none, 0, _, s, F, rfl, rfl, rfl, (uw_bd _).1, hL, hf, hb.mono (by omega), HW, HM, Lib.hid (Wl.nil _), Lib.hid (fun k hk => nomatch hk), (by have := HB.out; omega)⟩
  case round =>
    obtain ⟨l, A, cp, av, s2, F2, hgk, rfl, rfl, hav, hR, f2, b2, HW2, HM2, HV2, HO2, hz2⟩ := hrel
    have hll : (l.length : Int) ≤ 65536 := by omega
    have hgk' := Lib.hid hgk
    have b2 : Bud s2 ((n + gk) + 1) := b2
    clear HW HM hL hf hb hgk
    go_wp2_with fail
    refine (tget_b HW2.out f2 b2 hav (Fr.refl F2 _)).mono ?_
    rintro _ w3 ⟨x, e, s3, q3, dx, dx', rfl, f3, b3, F3, hT3, hm3⟩
    have hR3 : Hid (rGiven s a z = gvn gk x e l s3) := Lib.hid (by rw [hR.out, givenGo_gvn q3.out])
    have HV3 := Lib.hid (HV2.out.fr hm3 fun k hk => (HO2.out k hk).2)
    have HO3 : Hid (∀ k, own (.slice A l.length cp) k → B ≤ k ∧ ¬ F3 k) := Lib.hid fun k hk => ⟨(HO2.out k hk).1, fun h => (hm3.new k h).elim (HO2.out k hk).2 fun h2 => by have := HV2.out.lt k hk; omega⟩
    have HM3 := Lib.hid (HM2.out.trans hm3)
    have HT3 := Lib.hid hT3
    have hz3 := Nat.le_trans hz2 hm3.size
    have HL := Lib.hid (show LftV t n B F0 w0 s3 (.slice A l.length cp) l w3 from ⟨f3, b3.mono (by omega), HV3.out, fun k hk => (HO3.out k hk).1, F3, HT3.out, HM3.out, fun k hk => (HO3.out k hk).2⟩)
    have HN := Lib.hid (show LftV t n B F0 w0 s3 (.slice none 0 0) [] w3 from ⟨f3, b3.mono (by omega), Wl.nil _, (fun k hk => nomatch hk), F3, HT3.out, HM3.out, (fun k hk => nomatch hk)⟩)
    clear HW2 HM2 HV2 HO2 hm3 hT3 q3 hR f2 b2
    by_cases he : e = 0
    case neg =>
      have h1 : (e != 0) = true := by simpa using he
      have hq : Hid (rGiven s a z = ([], e, s3)) := Lib.hid (by rw [hR3.out]; unfold gvn; rw [if_pos h1])
      clear he hR3
      go_wp2
      rw [Exit.noGoto_ret]
      go_ret2
      exact ⟨_, [], e, s3, hq, rfl, by rw [HB.out]; exact HN.out⟩
    subst he
    by_cases hx : x = 0
    · have h1 : (x == 0) = true := by simpa using hx
      have hq : Hid (rGiven s a z = (l, 0, s3)) := Lib.hid (by rw [hR3.out]; unfold gvn; rw [if_neg (by decide), if_pos h1])
      clear hx hR3
      go_wp2
      rw [Exit.noGoto_ret]
      go_ret2
      exact ⟨_, l, 0, s3, hq, rfl, by rw [HB.out]; exact HL.out⟩
    have h1 : (x == 0) = false := by simpa using hx
    by_cases hl : l.length = 65536
    · obtain rfl : gk = 0 := by have := hgk'.out; omega
      have h2 : ((l.length : Int) == 65536) = true := by simp [hl]
      have hq : Hid (rGiven s a z = ([], 2, s3)) := Lib.hid (by rw [hR3.out]; unfold gvn; rw [if_neg (by decide), if_neg (by simpa using hx)])
      clear hx hl hR3
      go_wp2
      rw [Exit.noGoto_ret]
      go_ret2
      exact ⟨_, [], 2, s3, hq, rfl, by rw [HB.out]; exact HN.out⟩
    have h2 : ((l.length : Int) == 65536) = false := by simp; omega
    obtain ⟨m, rfl⟩ : ∃ m, gk = m + 1 := ⟨gk - 1, by have := hgk'.out; omega⟩
    have hR4 : Hid (rGiven s a z = givenGo m (IntKind.u64.wrap (x - 1)) (l ++ [IntKind.u64.wrap (x - 1)]) s3) := Lib.hid (by rw [hR3.out]; unfold gvn; rw [if_neg (by decide), if_neg (by simpa using hx)])
    have hxx := Lib.hid (show (l.length + 1) * 8 ≤ 140737488355328 by omega)
    clear hx hl hR3 HL HN
    go_wp2_with (at_builtin; refine wpList_word w3 rfl (.tmp 42) (.tmp 44) rfl (.slice A l.length cp) l (IntKind.u64.wrap (x - 1)) rfl HV3.out rfl hxx.out ?_; intro A4 c4 w4 hc4 hv4 hm4)
    have hnb : ∀ k, F3 k → ¬ own (.slice A l.length cp) k := fun k hk ho => (HO3.out k ho).2 hk
    have HW4 := Lib.hid (HT3.out.fr hm4 hnb)
    have ho4 : Hid (∀ k, own (.slice A4 (l.length + 1) c4) k → B ≤ k ∧ ¬ F3 k) := Lib.hid fun k hk => (hm4.new k hk).elim (fun h => HO3.out k h) fun h => ⟨by omega, fun h2 => by have := HT3.out.lt k h2; omega⟩
    have hM4 := Lib.hid (HM3.out.beside hm4 fun k hk => by have := (HO3.out k hk).1; have := HB.out; omega)
    have hz4 := Nat.le_trans hz3 hm4.size
    have HV4 := Lib.hid hv4
    clear HT3 HM3 HV3 HO3 hm4 hnb hv4
    go_roundg m
    case measure => omega
    case rel => exact ⟨l ++ [IntKind.u64.wrap (x - 1)], A4, c4, _, s3, F3, by have := hgk'.out; simp; omega, by simp, rfl, (uw_bd _).1, hR4, f3, b3, HW4, hM4, by simpa using HV4, by simpa using ho4, hz4⟩
end Go.Proofs.Ytcgdpclhlepofaa
/- A part's words turned by the law's own function (PartQueues), by contract. -/
namespace Go.Proofs.Ytcgdpclhlepofaa
open Go.RowKit
set_option maxHeartbeats 4000000
set_option linter.unusedVariables false
set_option linter.unusedSimpArgs false

/-- The captured put and the captured function. -/
def JTm (t c1 c2 mb : Nat) (more : Int) (w : World) (F G : Nat → Prop) (l : List Int) : Prop :=
  Blk w c1 66 #[.func (.func 11) #[.pointer (some ⟨t, 0, none⟩)] #[]] ∧ Blk w c2 37 #[.func (.func 20) #[] #[.pointer (some ⟨mb, 0, none⟩)]] ∧ ¬ F c1 ∧ ¬ F c2 ∧ Blk w mb 23 #[.int .u64 more] ∧ ¬ F mb ∧ l = [] ∧ ∀ k, ¬ G k
theorem JTm.keep {t c1 c2 mb : Nat} {more : Int} {w w' : World} {F F' G : Nat → Prop} {l : List Int} (h : JTm t c1 c2 mb more w F G l) (hf : Fr F w F' w') : JTm t c1 c2 mb more w' F' G l := by
  obtain ⟨h1, h2, h3, h4, h7, h8, h5, h6⟩ := h
  exact ⟨hf.blk h1 h3, hf.blk h2 h4, fun h => (hf.new c1 h).elim h3 fun h => by have := h1.lt; omega, fun h => (hf.new c2 h).elim h4 fun h => by have := h2.lt; omega, hf.blk h7 h8, fun h => (hf.new mb h).elim h8 fun h => by have := h7.lt; omega, h5, h6⟩

def addM (more x : Int) : Int := IntKind.u64.wrap (x + more)
theorem addm_b (more x : Int) {w : World} {mb : Nat} (h : Blk w mb 23 #[.int .u64 more]) : Calls Try.prog 20 #[.int .u64 x, .pointer (some ⟨mb, 0, none⟩)] w fun e w' => e = .returned (.int .u64 (addM more x)) ∧ w = w' := by
  have d := (h.cell 0).trans (show _ = some (.int .u64 more) from rfl)
  clear h
  go_enter Try.func20, Try.ntmps20
  go_wp2
  go_ret
  exact ⟨rfl, rfl⟩
set_option maxRecDepth 100000 in
theorem turnm_call {t c1 c2 mb n : Nat} {more : Int} {F G : Nat → Prop} {s : St} {l : List Int} {nd wd : Int} {w : World} (hw : Txw w t F s) (hf : Fits s) (hb : Bud s (n + 1)) (h1 : 0 ≤ nd) (hj : JTm t c1 c2 mb more w F G l) :
    Calls Try.prog 35 #[.int .u64 nd, .int .u64 wd, .pointer (some ⟨c1, 0, none⟩), .pointer (some ⟨c2, 0, none⟩)] w fun e w' => ∃ er l' s', Hid (stTurn (addM more) nd wd l s = (er, l', s')) ∧ e = .returned (.int .i64 er) ∧ l'.length ≤ l.length + 1 ∧ Fits s' ∧ Bud s' n ∧ ∃ F' G', Txw w' t F' s' ∧ JTm t c1 c2 mb more w' F' G' l' ∧ Fr (fun k => F k ∨ G k) w (fun k => F' k ∨ G' k) w' := by
  have hj' := hj
  obtain ⟨hB1, hB2, hF1, hF2, hBm, hFm, rfl, hG⟩ := hj'
  have d1 := hB1.cell 0
  have d2 := hB2.cell 0
  simp only [List.getElem?_toArray, List.getElem?_cons_zero] at d1 d2
  have hTd := hw.drew
  have hMd := (Fr.refl F w).drew
  have e1 : w.drew.cell? ⟨c1, 0, none⟩ = some (.func (.func 11) #[.pointer (some ⟨t, 0, none⟩)] #[]) := d1
  have e2 : w.drew.cell? ⟨c2, 0, none⟩ = some (.func (.func 20) #[] #[.pointer (some ⟨mb, 0, none⟩)]) := d2
  obtain ⟨u1, u2⟩ := uw_bd (wd + more)
  have HJ := Lib.hid hj
  have HW := Lib.hid hw
  have hb : Bud s (n + 1) := hb
  clear hj hB1 hB2 hG hw
  go_enter Try.func35, Try.ntmps35
  go_wp2_with fail
  go_region_with (first | (go_at_call 20; refine (addm_b more wd (show Blk w.drew mb _ _ from hBm)).mono ?_; rintro _ _ ⟨rfl, rfl⟩) | (go_at_call 11; refine (tput_b hTd hf hb h1 u1 u2 hMd).mono ?_; rintro _ w3 ⟨er, s3, q, rfl, f3, b3, F3, hT3, hM3⟩))
  all_goals
    have hK := HJ.out.keep (hM3)
    have hq2 : Hid (stTurn (addM more) nd wd [] s = (er, [], s3)) := Lib.hid (by unfold stTurn addM; rw [q.out])
    have hfin : Hid (Fr (fun k => F k ∨ G k) w (fun k => F3 k ∨ G k) w3) := Lib.hid (hM3.side G)
    clear q hTd hMd
    go_wp2
    go_ret
    exact ⟨er, [], s3, hq2, rfl, by simp, f3, b3, F3, G, hT3, hK, hfin.out⟩
theorem turnm_law (t c1 c2 mb : Nat) (more : Int) : JLaw t (stTurn (addM more)) (JTm t c1 c2 mb more) 35 (fun nd wd => #[.int .u64 nd, .int .u64 wd, .pointer (some ⟨c1, 0, none⟩), .pointer (some ⟨c2, 0, none⟩)]) :=
  ⟨fun _ _ => rfl, fun _ h2 h3 => h3.keep h2, fun h1 h2 h3 _ h5 _ _ _ h9 => turnm_call h1 h2 h3 h5 h9⟩
end Go.Proofs.Ytcgdpclhlepofaa
/- A part turned by the law's own function (PartQueues), by contract. -/
namespace Go.Proofs.Ytcgdpclhlepofaa
open Go.RowKit
set_option maxHeartbeats 4000000
set_option linter.unusedVariables false
set_option linter.unusedSimpArgs false

set_option maxRecDepth 100000 in
theorem pturnm_b {t n mb : Nat} {more : Int} {F F0 : Nat → Prop} {s : St} {kind first count : Int} {w w0 : World}
    (hw : Txw w t F s) (hf : Fits s) (hb : Bud s (n + 3 * 65537)) (h1 : 0 ≤ first) (h1' : first ≤ 18446744073709551615) (h2 : 0 ≤ count) (h2' : count ≤ 18446744073709551615) (hm : Fr F0 w0 F w) (hmb : Blk w mb 23 #[.int .u64 more]) (hnm : ¬ F mb) :
    Calls Try.prog 10 #[.agg #[.int .i64 kind, .int .u64 first, .int .u64 count], .func (.func 13) #[.pointer (some ⟨t, 0, none⟩)] #[], .func (.func 11) #[.pointer (some ⟨t, 0, none⟩)] #[], .func (.func 20) #[] #[.pointer (some ⟨mb, 0, none⟩)]] w fun e w' =>
      ∃ er s', Hid (pTurn (addM more) kind first count s = (er, s')) ∧ e = .returned (.int .i64 er) ∧ Lft t n F0 w0 s' w' := by
  have hE1 : (w.alloc (.cells #[.int .i64 kind, .int .u64 first, .int .u64 count] 25)).heap.size = w.heap.size + 1 := by simp
  have hE2 : ((w.alloc (.cells #[.int .i64 kind, .int .u64 first, .int .u64 count] 25)).alloc (.cells #[.func (.func 20) #[] #[.pointer (some ⟨mb, 0, none⟩)]] 37)).heap.size = w.heap.size + 2 := by simp
  have dp := (Blk.new w 25 #[.int .i64 kind, .int .u64 first, .int .u64 count])
  have df := Blk.new (w.alloc (.cells #[.int .i64 kind, .int .u64 first, .int .u64 count] 25)) 37 #[.func (.func 20) #[] #[.pointer (some ⟨mb, 0, none⟩)]]
  rw [hE1] at df
  have df0 := df.cell 0
  have dp0 := (dp.alloc (.cells #[.func (.func 20) #[] #[.pointer (some ⟨mb, 0, none⟩)]] 37)).cell 0
  simp only [List.getElem?_toArray, List.getElem?_cons_zero, List.getElem?_cons_succ] at df0
  go_enter Try.func10, Try.ntmps10
  go_wp2_with fail
  have hB2 := df.alloc (.cells #[.func (.func 11) #[.pointer (some ⟨t, 0, none⟩)] #[]] 66)
  have hB1 := Blk.new ((w.alloc (.cells #[.int .i64 kind, .int .u64 first, .int .u64 count] 25)).alloc (.cells #[.func (.func 20) #[] #[.pointer (some ⟨mb, 0, none⟩)]] 37)) 66 #[.func (.func 11) #[.pointer (some ⟨t, 0, none⟩)] #[]]
  rw [hE2] at hB1
  have hT := ((hw.alloc (.cells #[.int .i64 kind, .int .u64 first, .int .u64 count] 25)).alloc (.cells #[.func (.func 20) #[] #[.pointer (some ⟨mb, 0, none⟩)]] 37)).alloc (.cells #[.func (.func 11) #[.pointer (some ⟨t, 0, none⟩)] #[]] 66)
  have hM := (((hm.alloc (.cells #[.int .i64 kind, .int .u64 first, .int .u64 count] 25)).alloc (.cells #[.func (.func 20) #[] #[.pointer (some ⟨mb, 0, none⟩)]] 37)).alloc (.cells #[.func (.func 11) #[.pointer (some ⟨t, 0, none⟩)] #[]] 66)).into (G := fun k => F k ∨ False) fun k hk => hk.elim .inl fun h => h.elim
  have hJ : JTm t (w.heap.size + 2) (w.heap.size + 1) mb more (((w.alloc (.cells #[.int .i64 kind, .int .u64 first, .int .u64 count] 25)).alloc (.cells #[.func (.func 20) #[] #[.pointer (some ⟨mb, 0, none⟩)]] 37)).alloc (.cells #[.func (.func 11) #[.pointer (some ⟨t, 0, none⟩)] #[]] 66)) F (fun _ => False) [] :=
    ⟨hB1, hB2, fun h => by have := hw.lt _ h; omega, fun h => by have := hw.lt _ h; omega, ((hmb.alloc _).alloc _).alloc _, hnm, rfl, fun _ h => h⟩
  refine (each2_b (c1 := w.heap.size + 2) (c2 := w.heap.size + 1) (turnm_law t (w.heap.size + 2) (w.heap.size + 1) mb more) hT hJ (fun k hk => hk.elim) hf hb h1 h1' h2 h2' hM).mono ?_
  rintro _ w3 ⟨er, l, s3, hq, rfl, hlen, f3, b3, F3, G3, hT3, hJ3, hM3⟩
  have hfin : Hid (Lft t n F0 w0 s3 w3) := Lib.hid ⟨f3, b3, F3, hT3, hM3.into fun k hk => .inl (.inl hk)⟩
  have hq2 : Hid (pTurn (addM more) kind first count s = (er, s3)) := Lib.hid (by unfold pTurn; rw [hq.out])
  clear hT hJ hM dp df df0 dp0 hT3 hJ3 hM3 hw hm hq hB1 hB2
  go_wp2
  go_ret
  exact ⟨er, s3, hq2, rfl, hfin.out⟩
end Go.Proofs.Ytcgdpclhlepofaa
/- One law for every append, which tells besides that the slice appended to reads on as before. -/
namespace Go.Proofs.Ytcgdpclhlepofaa
open Go.RowKit
section
variable {w w' : World} {B : Nat} {e : TypeId} {size : Nat} {v : Value} {n : Nat} {xs : List Value}
/-- append, whatever is appended to a slice that the call has made: the slice itself reads on as before. -/
theorem wpList_app2 {P : Program} (w : World) {ops : Array Oper} {rest : List Oper} {o : Oper} {a : Act} {Q : Exit → Act → World → Prop} (hg : o.guard = none) (s x : Operand) (t : TypeId)
    (hop : o.op = Op.call { callee := Callee.builtin Builtin.append, args := #[s, x], argTypes := #[t, t] }) (e : TypeId) (i : TypeInfo) (z : Value) (size bytes : Nat) (h1 : P.underlying t = some (.slice e)) (h2 : P.info? e = some i) (h3 : i.zero = some z) (h4 : i.size = size) (h5 : i.bytes = bytes) (h6 : z.cells.size = size) (h7 : 0 < size)
    (B : Nat) (v : Value) (n : Nat) (xs : List Value) (hs : a.eval s = v) (hrow : Rowv w B e size v n xs) (u : Value) (m : Nat) (news : List Value) (hx : a.eval x = u) (hsrc : Src w u m size news) (b1 : n + m ≤ maxLen) (b2 : (n + m) * bytes ≤ 140737488355328) (hB : B ≤ w.heap.size)
    (hK : ∀ v' w', Rowv w' B e size v' (n + m) (xs ++ news) → Rowv w' B e size v n xs → w.grownBy w' v.ownBlock → ((∃ A c, v = .slice A n c ∧ v' = .slice A (n + m) c) ∨ ∃ k, v'.ownBlock = some k ∧ w.heap.size ≤ k) → wpList P ops Q rest (a.put o.dst v') w') :
    wpList P ops Q (o :: rest) a w := by
  rcases hsrc with ⟨rfl, rfl, rfl⟩ | ⟨ad, c, rfl, hn, hc, h1c⟩
  · refine wpList_plain hg fun K hK' => ?_
    have hrun : (Builtin.append_ #[t, t] o.type #[v, .slice none 0 0]).run P w = .ok v w := by
      rcases hrow.2 with ⟨rfl, rfl⟩ | ⟨g, off, cap, cur, rfl, _, _, hnc, _⟩
      · simp [Builtin.append_, run_underlying h1, sizeOf, typeInfo, h2, Builtin.lenOf, Builtin.firstCells]
      · simp [Builtin.append_, run_underlying h1, sizeOf, typeInfo, h2, Builtin.lenOf, Builtin.firstCells, hnc, storeCells]
    unfold Oper.wp
    simp [execOp, hop, resolve, invoke, builtin, hs, hx, hrun, Result.andThen]
    obtain ⟨A0, c0, hv0, _⟩ := hrow.shape
    exact hK' _ _ (hK v w (by simpa using hrow) hrow ⟨rfl, rfl, rfl, Nat.le_refl _, fun _ _ _ => rfl⟩ (.inl ⟨A0, c0, hv0, hv0⟩))
  · rcases hrow.2 with ⟨rfl, rfl⟩ | ⟨g, off, cap, cur, rfl, k2, k3, k4, k5, k6, k7⟩
    · have e0 : xs = [] := List.eq_nil_of_length_eq_zero (by simpa using hrow.1)
      subst e0
      refine wpList_append_own w hg s x t hop w.heap.size e i z size bytes h1 h2 h3 h4 h5 h6 h7 (.slice none 0 0) 0 [] hs (World.ownsRow_nil w w.heap.size e size) ad m c news hx hn hc h1c b1 b2 (Nat.le_refl _) ?_
      intro v' w' hown hgr hnil
      have hr := Rowv.of_own hown
      refine hK v' w' (hr.base fun k hk => Nat.le_trans hB (hr.lt hk).1) (Rowv.nil _ _ _ _) hgr ?_
      by_cases hm : m = 0
      · left; exact ⟨none, 0, rfl, by rw [hnil.2 ⟨rfl, hm⟩, hm]⟩
      · rcases hown.2 with ⟨h, _⟩ | ⟨g, cap, cur, rfl, hb, hh, _⟩
        · exact absurd (hnil.1 h).2 hm
        · exact .inr ⟨g, rfl, hb⟩
    · have hcell : ∀ j, w.cell? ⟨g, off + j, none⟩ = cur[off + j]? := fun j => by simp [World.cell?, k3]
      have hmul : (n + m) * size = n * size + m * size := Nat.add_mul n m size
      refine wpList_append_arg w hg s x t hop e i z size bytes h1 h2 h3 h4 h5 h6 h7 g off n cap xs hs hrow.1 (fun j u hj => ?_) ad m c news hx hn hc h1c (fun hr j hj => ?_) b1 b2 (fun hr => ?_) (fun _ v' w' hown hgr => ?_)
      · have hjl : j < n * size := by rw [← hrow.1]; exact (List.getElem?_eq_some_iff.1 hj).1
        rw [hcell, ← hj, ← k7, List.getElem?_take, if_pos hjl, List.getElem?_drop, Array.getElem?_toList]
      · have hle : (n + m) * size ≤ cap * size := Nat.mul_le_mul_right _ hr
        refine ⟨?_, by simp [World.frozen?, k3]⟩
        rw [Nat.add_assoc, hcell, Array.getElem?_eq_getElem (by omega)]
        rfl
      · have hle : (n + m) * size ≤ cap * size := Nat.mul_le_mul_right _ hr
        obtain ⟨q1, q2, q3, q4, q5, q6⟩ := heap_setCells g news (off + n * size) w cur k3
        have hget : ∀ j, j < n * size → (setAll cur (off + n * size) news)[off + j]? = cur[off + j]? := fun j hj => by rw [setAll_get, if_neg (by omega)]
        have hold : Rowv (w.setCells g (off + n * size) news) B e size (.slice (some ⟨g, off, none⟩) n cap) n xs := ⟨hrow.1, .inr ⟨g, off, cap, _, rfl, k2, q1, k4, k5, by rw [setAll_size]; exact k6, by
          apply List.ext_getElem?
          intro j
          rw [List.getElem?_take, List.getElem?_drop, Array.getElem?_toList]
          by_cases hj : j < n * size
          · rw [if_pos hj, hget j hj, ← k7, List.getElem?_take, if_pos hj, List.getElem?_drop, Array.getElem?_toList]
          · rw [if_neg hj, List.getElem?_eq_none (by rw [hrow.1]; omega)]⟩⟩
        refine hK _ _ ⟨by rw [List.length_append, hrow.1, hn, hmul], .inr ⟨g, off, cap, _, rfl, k2, q1, hr, k5, by rw [setAll_size]; exact k6, ?_⟩⟩ hold ⟨q4, q5, q6, by rw [q3]; exact Nat.le_refl _, fun k _ hk => q2 k fun h => hk (by rw [h]; rfl)⟩ (.inl ⟨_, cap, rfl, rfl⟩)
        apply List.ext_getElem?
        intro j
        rw [List.getElem?_take, List.getElem?_drop, Array.getElem?_toList, setAll_get]
        by_cases hj : j < (n + m) * size
        · rw [if_pos hj]
          by_cases hj2 : j < n * size
          · rw [if_neg (by omega), List.getElem?_append_left (by rw [hrow.1]; exact hj2), ← k7, List.getElem?_take, if_pos hj2, List.getElem?_drop, Array.getElem?_toList]
          · rw [if_pos (by omega), List.getElem?_append_right (by rw [hrow.1]; omega), hrow.1]
            congr 1
            omega
        · rw [if_neg hj, List.getElem?_eq_none (by rw [List.length_append, hrow.1, hn]; omega)]
      · have hr := Rowv.of_own hown
        have hb : ∀ k, v'.ownBlock = some k → w.heap.size ≤ k := fun k hk => (hr.lt hk).1
        refine hK v' w' (hr.base fun k hk => Nat.le_trans hB (hb k hk)) (hrow.keepLt fun k _ hk _ => hgr.block k hk fun h => nomatch h) ⟨hgr.os, hgr.tape, hgr.output, hgr.size, fun k h _ => hgr.block k h (fun h => nomatch h)⟩ ?_
        rcases hown.2 with ⟨rfl, h⟩ | ⟨g', cap', cur', rfl, hb', _⟩
        · omega
        · exact .inr ⟨g', rfl, hb'⟩
end
end Go.Proofs.Ytcgdpclhlepofaa
