/- A skip list in a room, on plain words: a word taken out. -/
import Derived.Test.YtgbgodhkehnbdaaSkM1
namespace Go.Proofs.Ytgbgodhkehnbdaa
open Go.RowKit
set_option linter.unusedVariables false

/-- the levels from k on are linked around a node -/
def unl (lk : Nat → Int) (ce : Nat → Nat) : Nat → Nat → List Int → List Int
  | 0, _, W => W
  | m + 1, k, W => unl lk ce m (k + 1) (W.set (ce k) (lk k))
section
variable {p : Nat} {lk : Nat → Int} {ce : Nat → Nat}
theorem unl_length : ∀ (m k : Nat) (W : List Int), (unl lk ce m k W).length = W.length
  | 0, _, _ => rfl
  | m + 1, k, W => by rw [unl, unl_length m]; simp
theorem unl_other {c : Nat} : ∀ (m k : Nat) (W : List Int), (∀ j, k ≤ j → j < k + m → c ≠ ce j) → (unl lk ce m k W).getD c 0 = W.getD c 0
  | 0, _, _, _ => rfl
  | m + 1, k, W, h => by rw [unl, unl_other m (k + 1) _ fun j h1 h2 => h j (by omega) (by omega), getD_ne _ (Ne.symm (h k (by omega) (by omega)))]
theorem unl_cell : ∀ (m k : Nat) (W : List Int) (j : Nat), k ≤ j → j < k + m → ce j < W.length → (∀ i, k ≤ i → i < k + m → i ≠ j → ce i ≠ ce j) → (unl lk ce m k W).getD (ce j) 0 = lk j
  | 0, k, W, j, h1, h2, _, _ => by omega
  | m + 1, k, W, j, h1, h2, hl, hc => by
    rw [unl]
    by_cases hj : k = j
    · subst hj
      rw [unl_other m (k + 1) _ fun j h1 h2 => Ne.symm (hc j (by omega) (by omega) (by omega)), getD_eq _ hl]
    · exact unl_cell m (k + 1) _ j (by omega) (by omega) (by simpa using hl) fun i h1 h2 => hc i (by omega) (by omega)
end

theorem skUnlink_live {p : Nat} {f : Found} (lk : Nat → Int) (ce : Nat → Nat) (hp : (p : Int) ≤ 2000) : ∀ (m k : Nat) (s : St) (N : Nat), Ok s (N + 2 * m) → s.W.length = 2000 → k + m ≤ 8 → p + 2 + k + m ≤ 2000 → (∀ j, k ≤ j → j < k + m → f.cell.getD j 0 = (ce j : Int) ∧ s.W.getD (p + 2 + j) 0 = lk j ∧ ce j < 2000) → (∀ i j, k ≤ i → i < k + m → k ≤ j → j < k + m → ce i ≠ p + 2 + j) →
    ∃ s', skUnlink (p : Int) f m k s = (0, s') ∧ Ok s' N ∧ s'.W = unl lk ce m k s.W
  | 0, k, s, N, h, _, _, _, _, _ => ⟨s, rfl, h, rfl⟩
  | m + 1, k, s, N, h, hl, hk, hpm, hf, hne => by
    obtain ⟨h1, h2, h3⟩ := hf k (by omega) (by omega)
    have e1 : uAdd (uAdd (p : Int) 2) (k : Int) = ((p + 2 + k : Nat) : Int) := by rw [uAdd_id (a := (p : Int)) (by omega) (by omega), uAdd_id (by omega) (by omega)]; omega
    have O0 : Ok s ((N + 2 * m + 1) + 1) := h
    have O1 := O0.gone (false, ((p + 2 + k : Nat) : Int), 0)
    have O2 := (O1.gone (true, (ce k : Int), lk k)).setW (s.W.set (ce k) (lk k))
    obtain ⟨s', g1, g2, g3⟩ := skUnlink_live lk ce hp m (k + 1) _ N O2 (by simpa using hl) (by omega) (by omega) (fun j hj1 hj2 => by
      obtain ⟨a1, a2, a3⟩ := hf j (by omega) (by omega)
      refine ⟨a1, ?_, a3⟩
      show (s.W.set (ce k) (lk k)).getD (p + 2 + j) 0 = _
      rw [getD_ne _ (hne k j (by omega) (by omega) (by omega) (by omega))]
      exact a2) fun i j a b c d => hne i j (by omega) (by omega) (by omega) (by omega)
    refine ⟨s', ?_, g2, g3⟩
    rw [skUnlink, e1, sget_live h (by rw [hl]; omega)]
    simp only [bne_self_eq_false, if_true, Int.toNat_natCast]
    rw [h1, h2, sput_live O1 (by show _ < (s.W.length : Int); rw [hl]; omega)]
    simp only [bne_self_eq_false, if_true, Int.toNat_natCast]
    exact g1

theorem split2 {α : Type} {pre post l1 l2 : List α} {nd : α} (h : pre ++ post = l1 ++ nd :: l2) :
    (∃ m, pre = l1 ++ nd :: m ∧ l2 = m ++ post) ∨ ∃ m, l1 = pre ++ m ∧ post = m ++ nd :: l2 := by
  rcases List.append_eq_append_iff.1 h with ⟨a, h1, h2⟩ | ⟨a, h1, h2⟩
  · exact .inr ⟨a, h1, h2⟩
  · cases a with
    | nil => exact .inr ⟨[], by simpa using h1.symm, by simpa using h2.symm⟩
    | cons y a =>
      simp only [List.cons_append, List.cons.injEq] at h2
      obtain ⟨rfl, h2⟩ := h2
      exact .inl ⟨a, h1, h2⟩

section
variable {W : List Int} {nodes : List Nd} {back : Nat → List Int}
/-- what a node's links are turned to keeps the room -/
theorem SL.unlinked (h : SL W nodes back) {pre post : List Nd} {nd : Nd} (e : nodes = pre ++ nd :: post) :
    Rm (unl (fun k => nxt k post) (fun k => pcl k (20 + k) pre) nd.lv 0 W) 40 2000 (pieces pre ++ ((nd.p : Int), ((nd.lv + 2 : Nat) : Int)) :: pieces post) back := by
  have hpre : ∀ m ∈ pre, m ∈ nodes := fun m hm => by rw [e]; simp [hm]
  have hlv := h.lvs nd (by rw [e]; simp)
  have hp : pieces nodes = pieces pre ++ ((nd.p : Int), ((nd.lv + 2 : Nat) : Int)) :: pieces post := by rw [e]; unfold pieces; simp
  rw [← hp]
  refine h.room.turn (by rw [unl_length]) (fun j hj => unl_other _ _ _ fun k _ hk => by have := (h.cell_lt hpre (k := k) (by omega)).1; omega) fun y y1 y2 b hb => unl_other _ _ _ fun k _ hk => ?_
  have h2 := h.room.backIn y y1 y2 b hb
  rcases h.cell hpre k with e1 | ⟨m, hm, hlv, e1⟩
  · omega
  · have h1 := h.room.ob ((m.p : Int), ((m.lv + 2 : Nat) : Int)) (List.mem_map.2 ⟨m, hpre m hm, rfl⟩) y y1 y2 b hb
    unfold Disj at h1
    simp only at h1
    omega

/-- A node is taken out. -/
theorem SL.remove (h : SL W nodes back) {pre post : List Nd} {nd : Nd} (e : nodes = pre ++ nd :: post) {back' : Nat → List Int} {W2 : List Int} {v w : Int}
    (e2 : W2 = ((unl (fun k => nxt k post) (fun k => pcl k (20 + k) pre) nd.lv 0 W).set nd.p v).set (1 + (nd.lv + 2)) w) (hr : Rm W2 40 2000 (pieces pre ++ pieces post) back') : SL W2 (pre ++ post) back' := by
  have hpre : ∀ m ∈ pre, m ∈ nodes := fun m hm => by rw [e]; simp [hm]
  have hpo : ∀ m ∈ post, m ∈ nodes := fun m hm => by rw [e]; simp [hm]
  have hnd : nd ∈ nodes := by rw [e]; simp
  have hpn := h.piece hnd
  obtain ⟨W1, hW1⟩ : ∃ W1, W1 = unl (fun k => nxt k post) (fun k => pcl k (20 + k) pre) nd.lv 0 W := ⟨_, rfl⟩
  rw [← hW1] at e2
  have hl1 : W1.length = 2000 := by rw [hW1, unl_length, h.len]
  have hl2 : W2.length = 2000 := by rw [e2]; simpa using hl1
  have g2 : ∀ c, 18 ≤ c → c ≠ nd.p → W2.getD c 0 = W1.getD c 0 := fun c h1 h2 => by rw [e2, getD_ne _ (by omega), getD_ne _ (by omega)]
  have oth : ∀ c, (∀ k, k < nd.lv → c ≠ pcl k (20 + k) pre) → W1.getD c 0 = W.getD c 0 := fun c h2 => by rw [hW1, unl_other _ _ _ fun j _ hj => h2 j (by omega)]
  have cel : ∀ k, k < nd.lv → W1.getD (pcl k (20 + k) pre) 0 = nxt k post := fun k hk => by
    rw [hW1]
    exact unl_cell (lk := fun k => nxt k post) (ce := fun k => pcl k (20 + k) pre) nd.lv 0 W k (by omega) (by omega) (by rw [h.len]; exact (h.cell_lt hpre (by omega)).2) fun i _ hi hik => h.cells_ne hpre (by omega) (by omega) hik
  have hdis : ∀ m, m ∈ pre ∨ m ∈ post → m.p + m.lv + 2 ≤ nd.p ∨ nd.p + nd.lv + 2 ≤ m.p := fun m hm => by
    rcases hm with hm | hm
    · obtain ⟨a1, a2, rfl⟩ := List.append_of_mem hm
      exact h.apart (l1 := a1) (l2 := a2) (l3 := post) e
    · obtain ⟨a1, a2, rfl⟩ := List.append_of_mem hm
      exact (h.apart (l1 := pre) (a := nd) (l2 := a1) (b := m) (l3 := a2) (by rw [e]; simp)).symm
  have skip : ∀ k, ¬ k < nd.lv → nxt k (nd :: post) = nxt k post := fun k hk => by
    show (if k < nd.lv then _ else _) = _
    rw [if_neg hk]
  refine ⟨?_, ?_, ?_, ?_, ?_, hl2, ?_⟩
  · have : pieces (pre ++ post) = pieces pre ++ pieces post := by unfold pieces; simp
    rw [this]; exact hr
  · intro m hm
    rcases List.mem_append.1 hm with hm | hm
    · exact h.lvs m (hpre m hm)
    · exact h.lvs m (hpo m hm)
  · intro k hk
    rw [g2 _ (by omega) (by omega)]
    rcases last_of k (20 + k) pre with ⟨hno, hpc⟩ | ⟨a, m, b, rfl, hb, hlv, hpc⟩
    · rw [nxt_none hno]
      by_cases hkn : k < nd.lv
      · have := cel k hkn
        rwa [hpc] at this
      · rw [oth (20 + k) fun i hi => by
          have := h.cells_ne hpre (i := i) (j := k) (by omega) hk (by omega)
          rw [hpc] at this
          exact Ne.symm this, h.hd k hk, e, nxt_none hno, skip k hkn]
    · rw [oth (20 + k) fun i hi hc => by
        rcases h.cell hpre i with e1 | ⟨n1, m1, l1, e1⟩
        · have hik : i = k := by omega
          subst hik
          have := h.piece (hpre m (by simp))
          omega
        · have := h.piece (hpre n1 m1); omega, h.hd k hk, e]
      rcases first_of k (a ++ m :: b) with hf | ⟨c, q, d, ec, hc1, hc2⟩
      · exact absurd hlv (hf m (by simp))
      · rw [ec, List.append_assoc, List.append_assoc, List.cons_append, List.cons_append, nxt_some hc1 hc2, nxt_some hc1 hc2]
  · intro l1 m l2 hsp
    rcases split2 hsp with ⟨q, hm1, hm2⟩ | ⟨q, hm1, hm2⟩
    · have hm : m ∈ pre := by rw [hm1]; simp
      have hpm := h.piece (hpre m hm)
      have hdm := hdis m (.inl hm)
      obtain ⟨c1, c2, c3⟩ := h.cel l1 m (q ++ nd :: post) (by rw [e, hm1]; simp)
      have hne : ∀ i, i < nd.lv → ∀ c, m.p ≤ c → c < m.p + m.lv + 2 → c ≠ m.p + 2 + i → c ≠ pcl i (20 + i) pre := fun i hi c h1 h2 h3 => by
        rcases h.cell hpre i with e1 | ⟨n1, m1, q1, e1⟩
        · omega
        · rcases h.same_or (hpre m hm) (hpre n1 m1) with rfl | h4
          · omega
          · omega
      refine ⟨?_, ?_, fun k hk => ?_⟩
      · rw [g2 _ (by omega) (by omega), oth m.p fun i hi => hne i hi _ (by omega) (by omega) (by omega)]; exact c1
      · rw [g2 _ (by omega) (by omega), oth (m.p + 1) fun i hi => hne i hi _ (by omega) (by omega) (by omega)]; exact c2
      · rw [g2 _ (by omega) (by omega), hm2]
        have hpc : pcl k (20 + k) pre = pcl k (m.p + 2 + k) q := by
          rw [hm1, show l1 ++ m :: q = (l1 ++ [m]) ++ q by simp, pcl_append, pcl_last hk]
        rcases first_of k q with hf | ⟨a, t, b, rfl, hq1, hq2⟩
        · rw [pcl_none hf] at hpc
          rw [nxt_none hf]
          by_cases hkn : k < nd.lv
          · rw [← hpc, cel k hkn]
          · rw [oth _ fun i hi => hne i hi _ (by omega) (by omega) (by omega), c3 k hk, nxt_none hf, skip k hkn]
        · rw [List.append_assoc, List.cons_append, nxt_some hq1 hq2]
          have hnk : m.p + 2 + k ≠ pcl k (20 + k) pre := by
            rw [hpc]
            rcases last_of k (m.p + 2 + k) (a ++ t :: b) with ⟨hno, _⟩ | ⟨a2, q2, b2, e2, _, hl2', e3⟩
            · exact absurd hq2 (hno t (by simp))
            · rw [e3]
              have := h.apart (l1 := l1) (a := m) (l2 := a2) (b := q2) (l3 := b2 ++ nd :: post) (by rw [e, hm1, e2]; simp)
              omega
          rw [oth _ fun i hi => by
            by_cases hik : i = k
            · subst hik; exact hnk
            · exact hne i hi _ (by omega) (by omega) (by omega), c3 k hk, List.append_assoc, List.cons_append, nxt_some hq1 hq2]
    · have hm : m ∈ post := by rw [hm2]; simp
      have hpm := h.piece (hpo m hm)
      have hdm := hdis m (.inr hm)
      obtain ⟨c1, c2, c3⟩ := h.cel (pre ++ nd :: q) m l2 (by rw [e, hm2]; simp)
      have hne : ∀ i, i < nd.lv → ∀ c, m.p ≤ c → c < m.p + m.lv + 2 → c ≠ pcl i (20 + i) pre := fun i hi c h1 h2 => by
        rcases h.cell hpre i with e1 | ⟨n1, m1, q1, e1⟩
        · omega
        · obtain ⟨a1, a2, rfl⟩ := List.append_of_mem m1
          have := h.apart (l1 := a1) (a := n1) (l2 := a2 ++ nd :: q) (b := m) (l3 := l2) (by rw [e, hm2]; simp)
          omega
      refine ⟨?_, ?_, fun k hk => ?_⟩
      · rw [g2 _ (by omega) (by omega), oth m.p fun i hi => hne i hi _ (by omega) (by omega)]; exact c1
      · rw [g2 _ (by omega) (by omega), oth (m.p + 1) fun i hi => hne i hi _ (by omega) (by omega)]; exact c2
      · rw [g2 _ (by omega) (by omega), oth _ fun i hi => hne i hi _ (by omega) (by omega)]; exact c3 k hk
  · have hs := h.srt
    rw [e, List.pairwise_append] at hs
    rw [List.pairwise_append]
    exact ⟨hs.1, (List.pairwise_cons.1 hs.2.1).2, fun a ha b hb => hs.2.2 a ha b (by simp [hb])⟩
  · have := h.few
    rw [e] at this
    simp at this ⊢
    omega
end
end Go.Proofs.Ytgbgodhkehnbdaa
