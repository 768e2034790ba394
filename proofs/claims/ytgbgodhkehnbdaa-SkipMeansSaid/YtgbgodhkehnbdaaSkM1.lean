/- A skip list in a room, on plain words: a word put in, a word taken out. -/
import Derived.Test.YtgbgodhkehnbdaaSkM0
namespace Go.Proofs.Ytgbgodhkehnbdaa
open Go.RowKit
set_option linter.unusedVariables false

/-- the levels from k on are linked to a new node -/
def lnk (p : Nat) (lk : Nat → Int) (ce : Nat → Nat) : Nat → Nat → List Int → List Int
  | 0, _, W => W
  | m + 1, k, W => lnk p lk ce m (k + 1) ((W.set (p + 2 + k) (lk k)).set (ce k) ((p : Int) + 1))
section
variable {p : Nat} {lk : Nat → Int} {ce : Nat → Nat}
theorem lnk_length : ∀ (m k : Nat) (W : List Int), (lnk p lk ce m k W).length = W.length
  | 0, _, _ => rfl
  | m + 1, k, W => by rw [lnk, lnk_length m]; simp
theorem lnk_other {c : Nat} : ∀ (m k : Nat) (W : List Int), (∀ j, k ≤ j → j < k + m → c ≠ p + 2 + j ∧ c ≠ ce j) → (lnk p lk ce m k W).getD c 0 = W.getD c 0
  | 0, _, _, _ => rfl
  | m + 1, k, W, h => by
    rw [lnk, lnk_other m (k + 1) _ fun j h1 h2 => h j (by omega) (by omega), getD_ne _ (Ne.symm (h k (by omega) (by omega)).2), getD_ne _ (Ne.symm (h k (by omega) (by omega)).1)]
theorem lnk_node : ∀ (m k : Nat) (W : List Int) (j : Nat), k ≤ j → j < k + m → p + 2 + j < W.length → (∀ i, k ≤ i → i < k + m → ce i ≠ p + 2 + j) → (lnk p lk ce m k W).getD (p + 2 + j) 0 = lk j
  | 0, k, W, j, h1, h2, _, _ => by omega
  | m + 1, k, W, j, h1, h2, hl, hc => by
    rw [lnk]
    by_cases hj : k = j
    · subst hj
      rw [lnk_other m (k + 1) _ fun j h1 h2 => ⟨by omega, Ne.symm (hc j (by omega) (by omega))⟩, getD_ne _ (hc k (by omega) (by omega)), getD_eq _ hl]
    · exact lnk_node m (k + 1) _ j (by omega) (by omega) (by simpa using hl) fun i h1 h2 => hc i (by omega) (by omega)
theorem lnk_cell : ∀ (m k : Nat) (W : List Int) (j : Nat), k ≤ j → j < k + m → ce j < W.length → (∀ i, k ≤ i → i < k + m → i ≠ j → ce i ≠ ce j) → (∀ i, k ≤ i → i < k + m → p + 2 + i ≠ ce j) → (lnk p lk ce m k W).getD (ce j) 0 = (p : Int) + 1
  | 0, k, W, j, h1, h2, _, _, _ => by omega
  | m + 1, k, W, j, h1, h2, hl, hc, hp => by
    rw [lnk]
    by_cases hj : k = j
    · subst hj
      rw [lnk_other m (k + 1) _ fun j h1 h2 => ⟨Ne.symm (hp j (by omega) (by omega)), Ne.symm (hc j (by omega) (by omega) (by omega))⟩, getD_eq _ (by simpa using hl)]
    · exact lnk_cell m (k + 1) _ j (by omega) (by omega) (by simpa using hl) (fun i h1 h2 => hc i (by omega) (by omega)) fun i h1 h2 => hp i (by omega) (by omega)
end

theorem cput_live {s : St} {n : Nat} (h : Ok s n) {a : Int} (ha : a < s.W.length) (x : Int) : cput 0 s a x = (0, { gone s (true, a, x) with W := s.W.set a.toNat x }) := by
  unfold cput
  rw [if_pos (by decide)]
  exact sput_live h ha x

theorem skLink_live {p : Nat} {f : Found} (lk : Nat → Int) (ce : Nat → Nat) (hp : (p : Int) ≤ 2000) : ∀ (m k : Nat) (s : St) (N : Nat), Ok s (N + 2 * m) → s.W.length = 2000 → k + m ≤ 8 → p + 2 + k + m ≤ 2000 → (∀ j, k ≤ j → j < k + m → f.cell.getD j 0 = (ce j : Int) ∧ f.link.getD j 0 = lk j ∧ ce j < 2000) →
    ∃ s', skLink (p : Int) f m k 0 s = (0, s') ∧ Ok s' N ∧ s'.W = lnk p lk ce m k s.W
  | 0, k, s, N, h, _, _, _, _ => ⟨s, rfl, h, rfl⟩
  | m + 1, k, s, N, h, hl, hk, hpm, hf => by
    obtain ⟨h1, h2, h3⟩ := hf k (by omega) (by omega)
    have e1 : uAdd (uAdd (p : Int) 2) (k : Int) = ((p + 2 + k : Nat) : Int) := by rw [uAdd_id (a := (p : Int)) (by omega) (by omega), uAdd_id (by omega) (by omega)]; omega
    have e2 : uAdd (p : Int) 1 = (p : Int) + 1 := uAdd_id (by omega) (by omega)
    have O0 : Ok s ((N + 2 * m + 1) + 1) := h
    have O1 := (O0.gone (true, ((p + 2 + k : Nat) : Int), lk k)).setW (s.W.set (p + 2 + k) (lk k))
    have O2 := (O1.gone (true, (ce k : Int), (p : Int) + 1)).setW ((s.W.set (p + 2 + k) (lk k)).set (ce k) ((p : Int) + 1))
    obtain ⟨s', g1, g2, g3⟩ := skLink_live lk ce hp m (k + 1) _ N O2 (by simpa using hl) (by omega) (by omega) fun j hj1 hj2 => hf j (by omega) (by omega)
    refine ⟨s', ?_, g2, g3⟩
    rw [skLink, e1, h2, cput_live h (by rw [hl]; omega)]
    simp only [Int.toNat_natCast]
    rw [h1, e2, cput_live O1 (by simp; omega)]
    simp only [Int.toNat_natCast]
    exact g1

section
variable {W : List Int} {nodes : List Nd} {back : Nat → List Int}
/-- two nodes are one, or have no cell in common -/
theorem SL.apart (h : SL W nodes back) {l1 l2 l3 : List Nd} {a b : Nd} (e : nodes = l1 ++ a :: l2 ++ b :: l3) : a.p + a.lv + 2 ≤ b.p ∨ b.p + b.lv + 2 ≤ a.p := by
  have h1 := h.room.oo
  unfold pieces at h1
  rw [e, List.pairwise_map, List.pairwise_append] at h1
  have h2 := h1.2.2 a (by simp) b (by simp)
  unfold Disj at h2
  simp only at h2
  omega
theorem SL.same_or (h : SL W nodes back) {a b : Nd} (ha : a ∈ nodes) (hb : b ∈ nodes) : a = b ∨ a.p + a.lv + 2 ≤ b.p ∨ b.p + b.lv + 2 ≤ a.p := by
  obtain ⟨l1, l2, rfl⟩ := List.append_of_mem ha
  rcases List.mem_append.1 hb with hb | hb
  · obtain ⟨m1, m2, rfl⟩ := List.append_of_mem hb
    exact .inr (h.apart (l1 := m1) (l2 := m2) (l3 := l2) (by simp)).symm
  · rcases List.mem_cons.1 hb with rfl | hb
    · exact .inl rfl
    · obtain ⟨m1, m2, rfl⟩ := List.append_of_mem hb
      exact .inr (h.apart (l1 := l1) (l2 := m1) (l3 := m2) (by simp))
/-- the last links' cells of two levels differ -/
theorem SL.cells_ne (h : SL W nodes back) {a : List Nd} (ha : ∀ nd ∈ a, nd ∈ nodes) {i j : Nat} (hi : i < 8) (hj : j < 8) (hij : i ≠ j) : pcl i (20 + i) a ≠ pcl j (20 + j) a := by
  rcases h.cell ha i with e1 | ⟨n1, m1, l1, e1⟩
  · rcases h.cell ha j with e2 | ⟨n2, m2, l2, e2⟩
    · omega
    · have := h.piece (ha n2 m2); omega
  · have p1 := h.piece (ha n1 m1)
    rcases h.cell ha j with e2 | ⟨n2, m2, l2, e2⟩
    · omega
    · rcases h.same_or (ha n1 m1) (ha n2 m2) with rfl | h3
      · omega
      · omega

theorem split3 {α : Type} {pre post l1 l2 : List α} {x nd : α} (h : pre ++ x :: post = l1 ++ nd :: l2) :
    (∃ m, pre = l1 ++ nd :: m ∧ l2 = m ++ x :: post) ∨ (l1 = pre ∧ nd = x ∧ l2 = post) ∨ ∃ m, l1 = pre ++ x :: m ∧ post = m ++ nd :: l2 := by
  rcases List.append_eq_append_iff.1 h with ⟨a, h1, h2⟩ | ⟨a, h1, h2⟩
  · cases a with
    | nil =>
      simp only [List.nil_append, List.cons.injEq] at h2
      exact .inr (.inl ⟨by simpa using h1, h2.1.symm, h2.2.symm⟩)
    | cons y a =>
      simp only [List.cons_append, List.cons.injEq] at h2
      obtain ⟨rfl, h2⟩ := h2
      exact .inr (.inr ⟨a, h1, h2⟩)
  · cases a with
    | nil =>
      simp only [List.nil_append, List.cons.injEq] at h2
      exact .inr (.inl ⟨by simpa using h1.symm, h2.1, h2.2⟩)
    | cons y a =>
      simp only [List.cons_append, List.cons.injEq] at h2
      obtain ⟨rfl, h2⟩ := h2
      exact .inl ⟨a, h1, h2⟩

/-- A node is linked in. -/
theorem SL.insert (h : SL W nodes back) {pre post : List Nd} (e : nodes = pre ++ post) {p n : Nat} {x : Int} {back' : Nat → List Int} {W2 : List Int} (hn1 : 1 ≤ n) (hn2 : n ≤ 8) (hlt : ∀ nd ∈ pre, nd.key < x) (hgt : ∀ nd ∈ post, x < nd.key) (hfew : nodes.length < 1000)
    (hr : Rm W2 40 2000 (pieces nodes ++ [((p : Int), ((n + 2 : Nat) : Int))]) back') (hd : ∀ q ∈ pieces nodes, Disj q ((p : Int), ((n + 2 : Nat) : Int))) (hl : W2.length = 2000) (hW : ∀ j, 18 ≤ j → W2.getD j 0 = W.getD j 0) :
    SL (lnk p (fun k => nxt k post) (fun k => pcl k (20 + k) pre) n 0 ((W2.set p x).set (p + 1) n)) (pre ++ ⟨p, n, x⟩ :: post) back' := by
  have hpp := hr.outIn ((p : Int), ((n + 2 : Nat) : Int)) (by simp)
  have hnx := hr.nx1
  simp only at hpp
  have hpre : ∀ nd ∈ pre, nd ∈ nodes := fun nd hnd => by rw [e]; simp [hnd]
  have hdis : ∀ nd ∈ nodes, nd.p + nd.lv + 2 ≤ p ∨ p + n + 2 ≤ nd.p := fun nd hnd => by
    have := hd ((nd.p : Int), ((nd.lv + 2 : Nat) : Int)) (List.mem_map.2 ⟨nd, hnd, rfl⟩)
    unfold Disj at this
    simp only at this
    omega
  have hcp : ∀ k, k < 8 → pcl k (20 + k) pre < p ∨ p + n + 2 ≤ pcl k (20 + k) pre := fun k hk => by
    rcases h.cell hpre k with e1 | ⟨nd, hm, hlv, e1⟩
    · omega
    · have := hdis nd (hpre nd hm)
      omega
  obtain ⟨W3, hW3⟩ : ∃ W3, W3 = (W2.set p x).set (p + 1) (n : Int) := ⟨_, rfl⟩
  have hl3 : W3.length = 2000 := by rw [hW3]; simpa using hl
  have g3 : ∀ c, c ≠ p → c ≠ p + 1 → W3.getD c 0 = W2.getD c 0 := fun c h1 h2 => by rw [hW3, getD_ne _ (by omega), getD_ne _ (by omega)]
  rw [← hW3]
  obtain ⟨W4, hW4⟩ : ∃ W4, W4 = lnk p (fun k => nxt k post) (fun k => pcl k (20 + k) pre) n 0 W3 := ⟨_, rfl⟩
  rw [← hW4]
  have hl4 : W4.length = 2000 := by rw [hW4, lnk_length, hl3]
  -- a cell that is neither the node's nor a last link's
  have oth : ∀ c, (c < p ∨ p + n + 2 ≤ c) → (∀ k, k < n → c ≠ pcl k (20 + k) pre) → W4.getD c 0 = W2.getD c 0 := fun c h1 h2 => by
    rw [hW4, lnk_other n 0 W3 fun j _ hj => ⟨by omega, h2 j (by omega)⟩]
    exact g3 c (by omega) (by omega)
  have cel : ∀ k, k < n → W4.getD (pcl k (20 + k) pre) 0 = (p : Int) + 1 := fun k hk => by
    rw [hW4]
    exact lnk_cell (ce := fun k => pcl k (20 + k) pre) n 0 W3 k (by omega) (by omega) (by rw [hl3]; exact (h.cell_lt hpre (by omega)).2) (fun i _ hi hik => h.cells_ne hpre (by omega) (by omega) hik) fun i _ hi => by have := hcp k (by omega); omega
  have nod : ∀ k, k < n → W4.getD (p + 2 + k) 0 = nxt k post := fun k hk => by
    rw [hW4]
    exact lnk_node (lk := fun k => nxt k post) n 0 W3 k (by omega) (by omega) (by rw [hl3]; omega) fun i _ hi => by have := hcp i (by omega); omega
  have hperm : (pieces nodes ++ [((p : Int), ((n + 2 : Nat) : Int))]).Perm (pieces (pre ++ ⟨p, n, x⟩ :: post)) := by
    rw [e]
    unfold pieces
    simp only [List.map_append, List.map_cons, List.append_assoc]
    exact List.Perm.append_left _ List.perm_append_comm
  have hback : ∀ y, 1 ≤ y → y ≤ 16 → ∀ b ∈ back' y, ∀ nd ∈ nodes, b.toNat < nd.p ∨ nd.p + nd.lv + 2 ≤ b.toNat := fun y y1 y2 b hb nd hnd => by
    have h1 := hr.ob ((nd.p : Int), ((nd.lv + 2 : Nat) : Int)) (List.mem_append_left _ (List.mem_map.2 ⟨nd, hnd, rfl⟩)) y y1 y2 b hb
    have h2 := hr.backIn y y1 y2 b hb
    unfold Disj at h1
    simp only at h1
    omega
  refine ⟨?_, ?_, ?_, ?_, ?_, hl4, ?_⟩
  · refine (hr.perm hperm).turn (hl4.trans hl.symm) (fun j hj => oth j (by omega) fun k hk => by have := (h.cell_lt hpre (k := k) (by omega)).1; omega) fun y y1 y2 b hb => oth _ ?_ fun k hk => ?_
    · have h1 := hr.ob ((p : Int), ((n + 2 : Nat) : Int)) (by simp) y y1 y2 b hb
      have h2 := hr.backIn y y1 y2 b hb
      unfold Disj at h1
      simp only at h1
      omega
    · have h2 := hr.backIn y y1 y2 b hb
      rcases h.cell hpre k with e1 | ⟨nd, hm, hlv, e1⟩
      · omega
      · have := hback y y1 y2 b hb nd (hpre nd hm)
        omega
  · intro nd hnd
    rcases List.mem_append.1 hnd with hnd | hnd
    · exact h.lvs nd (hpre nd hnd)
    · rcases List.mem_cons.1 hnd with rfl | hnd
      · exact ⟨hn1, hn2⟩
      · exact h.lvs nd (by rw [e]; simp [hnd])
  · intro k hk
    rcases last_of k (20 + k) pre with ⟨hno, hpc⟩ | ⟨a, nd, b, rfl, hb, hlv, hpc⟩
    · rw [nxt_none hno]
      by_cases hkn : k < n
      · have := cel k hkn
        rw [hpc] at this
        rw [this]
        show _ = if k < n then _ else _
        rw [if_pos hkn]
      · rw [oth (20 + k) (by omega) fun i hi => by
          have := h.cells_ne hpre (i := i) (j := k) (by omega) hk (by omega)
          rw [hpc] at this
          exact Ne.symm this, hW _ (by omega), h.hd k hk, e, nxt_none hno]
        show _ = if k < n then _ else _
        rw [if_neg hkn]
    · rw [oth (20 + k) (by omega) fun i hi hc => by
        rcases h.cell hpre i with e1 | ⟨n1, m1, l1, e1⟩
        · have hik : i = k := by omega
          subst hik
          have := h.piece (hpre nd (by simp))
          omega
        · have := h.piece (hpre n1 m1); omega, hW _ (by omega), h.hd k hk, e]
      rcases first_of k (a ++ nd :: b) with hf | ⟨c, m, d, ec, hc1, hc2⟩
      · exact absurd hlv (hf nd (by simp))
      · rw [ec, List.append_assoc, List.append_assoc, List.cons_append, List.cons_append, nxt_some hc1 hc2, nxt_some hc1 hc2]
  · intro l1 nd l2 hsp
    rcases split3 hsp with ⟨m, hm1, hm2⟩ | ⟨rfl, rfl, rfl⟩ | ⟨m, hm1, hm2⟩
    · have hnd : nd ∈ nodes := hpre nd (by rw [hm1]; simp)
      have hpn := h.piece hnd
      have hdn := hdis nd hnd
      obtain ⟨c1, c2, c3⟩ := h.cel l1 nd (m ++ post) (by rw [e, hm1]; simp)
      -- no last link's cell is this one of the node, but perhaps the one of the level
      have hne : ∀ i, i < n → ∀ c, nd.p ≤ c → c < nd.p + nd.lv + 2 → c ≠ nd.p + 2 + i → c ≠ pcl i (20 + i) pre := fun i hi c h1 h2 h3 => by
        rcases h.cell hpre i with e1 | ⟨n1, m1, q1, e1⟩
        · omega
        · rcases h.same_or hnd (hpre n1 m1) with rfl | h4
          · omega
          · omega
      refine ⟨?_, ?_, fun k hk => ?_⟩
      · rw [oth nd.p (by omega) fun i hi => hne i hi _ (by omega) (by omega) (by omega), hW _ (by omega)]; exact c1
      · rw [oth (nd.p + 1) (by omega) fun i hi => hne i hi _ (by omega) (by omega) (by omega), hW _ (by omega)]; exact c2
      · rw [hm2]
        have hpc : pcl k (20 + k) pre = pcl k (nd.p + 2 + k) m := by
          rw [hm1, show l1 ++ nd :: m = (l1 ++ [nd]) ++ m by simp, pcl_append, pcl_last hk]
        rcases first_of k m with hf | ⟨a, q, b, rfl, hq1, hq2⟩
        · rw [pcl_none hf] at hpc
          rw [nxt_none hf]
          by_cases hkn : k < n
          · rw [← hpc, cel k hkn]
            show _ = if k < n then _ else _
            rw [if_pos hkn]
          · rw [oth _ (by omega) fun i hi => hne i hi _ (by omega) (by omega) (by omega), hW _ (by omega), c3 k hk, nxt_none hf]
            show _ = if k < n then _ else _
            rw [if_neg hkn]
        · rw [List.append_assoc, List.cons_append, nxt_some hq1 hq2]
          have hnk : nd.p + 2 + k ≠ pcl k (20 + k) pre := by
            rw [hpc]
            rcases last_of k (nd.p + 2 + k) (a ++ q :: b) with ⟨hno, _⟩ | ⟨a2, q2, b2, e2, _, hl2', e3⟩
            · exact absurd hq2 (hno q (by simp))
            · rw [e3]
              have := h.apart (l1 := l1) (a := nd) (l2 := a2) (b := q2) (l3 := b2 ++ post) (by rw [e, hm1, e2]; simp)
              omega
          rw [oth _ (by omega) fun i hi => by
            by_cases hik : i = k
            · subst hik; exact hnk
            · exact hne i hi _ (by omega) (by omega) (by omega), hW _ (by omega), c3 k hk, List.append_assoc, List.cons_append, nxt_some hq1 hq2]
    · have h0 : ∀ c, c = p ∨ c = p + 1 → W4.getD c 0 = W3.getD c 0 := fun c hc => by
        rw [hW4, lnk_other n 0 W3 fun j _ hj => ⟨by omega, by have := hcp j (by omega); omega⟩]
      refine ⟨?_, ?_, fun k hk => nod k hk⟩
      · rw [h0 p (.inl rfl), hW3, getD_ne _ (by omega), getD_eq _ (by omega)]
      · rw [h0 (p + 1) (.inr rfl), hW3, getD_eq _ (by simp; omega)]
    · have hnd : nd ∈ nodes := by rw [e, hm2]; simp
      have hpn := h.piece hnd
      have hdn := hdis nd hnd
      obtain ⟨c1, c2, c3⟩ := h.cel (pre ++ m) nd l2 (by rw [e, hm2]; simp)
      have hne : ∀ i, i < n → ∀ c, nd.p ≤ c → c < nd.p + nd.lv + 2 → c ≠ pcl i (20 + i) pre := fun i hi c h1 h2 => by
        rcases h.cell hpre i with e1 | ⟨n1, m1, q1, e1⟩
        · omega
        · obtain ⟨a1, a2, rfl⟩ := List.append_of_mem m1
          have := h.apart (l1 := a1) (a := n1) (l2 := a2 ++ m) (b := nd) (l3 := l2) (by rw [e, hm2]; simp)
          omega
      refine ⟨?_, ?_, fun k hk => ?_⟩
      · rw [oth nd.p (by omega) fun i hi => hne i hi _ (by omega) (by omega), hW _ (by omega)]; exact c1
      · rw [oth (nd.p + 1) (by omega) fun i hi => hne i hi _ (by omega) (by omega), hW _ (by omega)]; exact c2
      · rw [oth _ (by omega) fun i hi => hne i hi _ (by omega) (by omega), hW _ (by omega)]; exact c3 k hk
  · rw [List.pairwise_append]
    have hs := h.srt
    rw [e, List.pairwise_append] at hs
    refine ⟨hs.1, List.pairwise_cons.2 ⟨fun b hb => hgt b hb, hs.2.1⟩, fun a ha b hb => ?_⟩
    rcases List.mem_cons.1 hb with rfl | hb
    · exact hlt a ha
    · exact hs.2.2 a ha b hb
  · rw [e] at hfew
    simp at hfew ⊢
    omega
end
end Go.Proofs.Ytgbgodhkehnbdaa
