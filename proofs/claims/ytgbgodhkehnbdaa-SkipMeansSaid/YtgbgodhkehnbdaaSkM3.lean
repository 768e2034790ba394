/- A skip list in a room, on plain words: what each call answers. -/
import Derived.Test.YtgbgodhkehnbdaaSkM2
namespace Go.Proofs.Ytgbgodhkehnbdaa
open Go.RowKit
set_option linter.unusedVariables false

def keysOf (l : List Nd) : List Int := l.map Nd.key
theorem nxt0 {nd : Nd} {r : List Nd} (h : 1 ≤ nd.lv) : nxt 0 (nd :: r) = (nd.p : Int) + 1 := by
  show (if _ then _ else _) = _
  rw [if_pos (by omega)]

section
variable {W : List Int} {nodes : List Nd} {back : Nat → List Int}
theorem Found.has_no {f : Found} {x : Int} {post : List Nd} (h1 : f.link.getD 0 0 = nxt 0 post) (h2 : ∀ nd r, post = nd :: r → f.word = nd.key) (h3 : ∀ nd r, post = nd :: r → nd.key ≠ x) : f.has x = false := by
  unfold Found.has
  cases post with
  | nil => rw [h1]; rfl
  | cons nd r => rw [h2 nd r rfl, beq_false_of_ne (h3 nd r rfl), Bool.and_false]
theorem Found.has_yes {f : Found} {x : Int} {nd : Nd} {r : List Nd} (h1 : f.link.getD 0 0 = nxt 0 (nd :: r)) (h2 : f.word = nd.key) (hl : 1 ≤ nd.lv) (hk : nd.key = x) : f.has x = true := by
  unfold Found.has
  rw [h1, nxt0 hl, h2, hk, bne_iff_ne.2 (by omega : (nd.p : Int) + 1 ≠ 0)]
  simp

/-- the words below, and those not below -/
theorem SL.around (h : SL W nodes back) {pre post : List Nd} {nd : Nd} (e : nodes = pre ++ nd :: post) : (∀ m ∈ pre, m.key < nd.key) ∧ ∀ m ∈ post, nd.key < m.key := by
  have hs := h.srt
  rw [e, List.pairwise_append] at hs
  exact ⟨fun m hm => hs.2.2 m hm nd (by simp), fun m hm => (List.pairwise_cons.1 hs.2.1).1 m hm⟩

/-- a search for a word that is there -/
theorem SL.at (h : SL W nodes back) {pre post : List Nd} {nd : Nd} (e : nodes = pre ++ nd :: post) {s : St} {N : Nat} (hW : s.W = W) (hO : Ok s (N + 3000)) :
    ∃ f s', skSearch s 20 nd.key false = (f, 0, s') ∧ Lk s s' ∧ Ok s' N ∧ f.has nd.key = true ∧ (∀ j, j < 8 → f.cell.getD j 0 = (pcl j (20 + j) pre : Nat) ∧ f.link.getD j 0 = nxt j (nd :: post)) := by
  obtain ⟨a1, a2⟩ := h.around e
  obtain ⟨f, s', g1, g2, g3, g4, g5, g6, g7⟩ := sk_search (x := nd.key) (past := false) h (pre := pre) (post := nd :: post) e (fun m hm => .inl (a1 m hm)) (fun m hm hl => by
    rcases hl with hl | ⟨hl, _⟩
    · rcases List.mem_cons.1 hm with rfl | hm
      · omega
      · have := a2 m hm; omega
    · cases hl) hW hO
  exact ⟨f, s', g1, g2, g3, Found.has_yes (g6 0 (by omega)).2 (g7 nd post rfl) (h.lvs nd (by rw [e]; simp)).1 rfl, g6⟩
/-- a search for a word that is not there -/
theorem SL.off (h : SL W nodes back) {pre post : List Nd} {x : Int} (e : nodes = pre ++ post) (a1 : ∀ m ∈ pre, m.key < x) (a2 : ∀ m ∈ post, x < m.key) {s : St} {N : Nat} (hW : s.W = W) (hO : Ok s (N + 3000)) :
    ∃ f s', skSearch s 20 x false = (f, 0, s') ∧ Lk s s' ∧ Ok s' N ∧ f.has x = false ∧ (∀ j, j < 8 → f.cell.getD j 0 = (pcl j (20 + j) pre : Nat) ∧ f.link.getD j 0 = nxt j post) := by
  obtain ⟨f, s', g1, g2, g3, g4, g5, g6, g7⟩ := sk_search (x := x) (past := false) h (pre := pre) (post := post) e (fun m hm => .inl (a1 m hm)) (fun m hm hl => by
    rcases hl with hl | ⟨hl, _⟩
    · have := a2 m hm; omega
    · cases hl) hW hO
  exact ⟨f, s', g1, g2, g3, Found.has_no (g6 0 (by omega)).2 g7 (fun nd r hr => by have := a2 nd (by rw [hr]; simp); omega), g6⟩

theorem SL.has_at (h : SL W nodes back) {pre post : List Nd} {nd : Nd} (e : nodes = pre ++ nd :: post) {s : St} {N : Nat} (hW : s.W = W) (hO : Ok s (N + 3000)) :
    ∃ s', skHas s 20 nd.key = (true, 0, s') ∧ Lk s s' ∧ Ok s' N := by
  obtain ⟨f, s', g1, g2, g3, g4, g5⟩ := h.at e hW hO
  exact ⟨s', by unfold skHas; rw [g1]; simp only; rw [g4]; rfl, g2, g3⟩
theorem SL.has_off (h : SL W nodes back) {pre post : List Nd} {x : Int} (e : nodes = pre ++ post) (a1 : ∀ m ∈ pre, m.key < x) (a2 : ∀ m ∈ post, x < m.key) {s : St} {N : Nat} (hW : s.W = W) (hO : Ok s (N + 3000)) :
    ∃ s', skHas s 20 x = (false, 0, s') ∧ Lk s s' ∧ Ok s' N := by
  obtain ⟨f, s', g1, g2, g3, g4, g5⟩ := h.off e a1 a2 hW hO
  exact ⟨s', by unfold skHas; rw [g1]; simp only; rw [g4]; rfl, g2, g3⟩

theorem SL.insert_at (h : SL W nodes back) {pre post : List Nd} {nd : Nd} (e : nodes = pre ++ nd :: post) (level : Int) {s : St} {N : Nat} (hW : s.W = W) (hO : Ok s (N + 3000)) :
    ∃ s', skInsert s 0 20 nd.key level = (false, 0, s') ∧ Lk s s' ∧ Ok s' N := by
  obtain ⟨f, s', g1, g2, g3, g4, g5⟩ := h.at e hW hO
  exact ⟨s', by unfold skInsert; rw [g1]; simp only; rw [if_pos (.inr g4)], g2, g3⟩
theorem SL.remove_off (h : SL W nodes back) {pre post : List Nd} {x : Int} (e : nodes = pre ++ post) (a1 : ∀ m ∈ pre, m.key < x) (a2 : ∀ m ∈ post, x < m.key) {s : St} {N : Nat} (hW : s.W = W) (hO : Ok s (N + 3000)) :
    ∃ s', skRemove s 0 20 x = (false, 0, s') ∧ Lk s s' ∧ Ok s' N := by
  obtain ⟨f, s', g1, g2, g3, g4, g5⟩ := h.off e a1 a2 hW hO
  exact ⟨s', by unfold skRemove; rw [g1]; simp only; rw [if_pos (.inr g4)], g2, g3⟩

theorem SL.insert_off (h : SL W nodes back) {pre post : List Nd} {x : Int} (e : nodes = pre ++ post) (a1 : ∀ m ∈ pre, m.key < x) (a2 : ∀ m ∈ post, x < m.key) (level : Int) (hroom : W.getD 0 0 ≤ 1990) (hfew : nodes.length < 1000) {s : St} {N : Nat} (hW : s.W = W) (hO : Ok s (N + 3100)) :
    ∃ s' nd back', skInsert s 0 20 x level = (true, 0, s') ∧ Ok s' N ∧ nd.key = x ∧ SL s'.W (pre ++ nd :: post) back' ∧ s'.W.getD 0 0 ≤ W.getD 0 0 + 10 := by
  obtain ⟨f, s1, g1, g2, g3, g4, g5⟩ := h.off (N := N + 100) e a1 a2 hW (hO.mono (by omega))
  have hW1 : s1.W = W := g2.1.trans hW
  obtain ⟨n, hn⟩ : ∃ n : Nat, (n : Int) = max 1 (min level 8) := ⟨(max 1 (min level 8)).toNat, by omega⟩
  have n1 : 1 ≤ n := by omega
  have n2 : n ≤ 8 := by omega
  have hl := h.len
  have ez : max 1 (min level 8) + 2 = ((n + 2 : Nat) : Int) := by omega
  have en : (max 1 (min level 8)).toNat = n := by omega
  rcases take_ok (n := N + 96) (z := n + 2) g3 (by rw [hW1]; exact h.room) (by omega) (by omega) (by rw [hW1, hl]; omega) with ⟨_, t1, _⟩ | ⟨p, s2, back', t1, t2, t3, t4, t5, t6, t7, t8, t9, _⟩
  · rw [hW1] at t1; omega
  · obtain ⟨q, rfl⟩ : ∃ q : Nat, p = (q : Int) := ⟨p.toNat, by omega⟩
    have hpre : ∀ nd ∈ pre, nd ∈ nodes := fun nd hnd => by rw [e]; simp [hnd]
    have hl2 : s2.W.length = 2000 := by rw [t7, hW1, hl]
    have O3 := (Ok.gone (n := N + 95) t2 (true, (q : Int), x)).setW (s2.W.set q x)
    have O4 := (Ok.gone (n := N + 94) O3 (true, (q : Int) + 1, (n : Int))).setW ((s2.W.set q x).set (q + 1) n)
    obtain ⟨s', k1, k2, k3⟩ := skLink_live (p := q) (f := f) (fun k => nxt k post) (fun k => pcl k (20 + k) pre) (by omega) n 0 _ (N + 78) (O4.mono (by omega)) (by show ((s2.W.set q x).set (q + 1) n).length = 2000; simpa using hl2) (by omega) (by omega) fun j _ hj => ⟨(g5 j (by omega)).1, (g5 j (by omega)).2, (h.cell_lt hpre (by omega)).2⟩
    have hSL := h.insert e (p := q) (n := n) (x := x) (back' := back') (W2 := s2.W) n1 n2 a1 a2 hfew t5 t6 hl2 (fun j hj => by rw [t8 j hj, hW1])
    have k3' : s'.W = lnk q (fun k => nxt k post) (fun k => pcl k (20 + k) pre) n 0 ((s2.W.set q x).set (q + 1) n) := k3
    refine ⟨s', ⟨q, n, x⟩, back', ?_, k2.mono (by omega), rfl, by rw [k3']; exact hSL, ?_⟩
    · unfold skInsert
      rw [g1]
      simp only
      rw [if_neg (by rw [g4]; simp), ez, t1]
      simp only [bne_self_eq_false, if_true]
      unfold skNode
      rw [cput_live t2 (by omega)]
      simp only [Int.toNat_natCast]
      rw [uAdd_id (by omega) (by omega), cput_live O3 (by simp; omega)]
      simp only [en]
      rw [show ((q : Int) + 1).toNat = q + 1 by omega]
      rw [k1]
      rfl
    · rw [k3', lnk_other n 0 _ fun j _ hj => ⟨by omega, by have := (h.cell_lt hpre (k := j) (by omega)).1; omega⟩, getD_ne _ (by omega), getD_ne _ (by omega)]
      rw [hW1] at t9
      omega

theorem SL.remove_at (h : SL W nodes back) {pre post : List Nd} {nd : Nd} (e : nodes = pre ++ nd :: post) {s : St} {N : Nat} (hW : s.W = W) (hO : Ok s (N + 3100)) :
    ∃ s' back', skRemove s 0 20 nd.key = (true, 0, s') ∧ Ok s' N ∧ SL s'.W (pre ++ post) back' ∧ s'.W.getD 0 0 = W.getD 0 0 := by
  obtain ⟨f, s1, g1, g2, g3, g4, g5⟩ := h.at (N := N + 100) e hW (hO.mono (by omega))
  have hW1 : s1.W = W := g2.1.trans hW
  have hl := h.len
  have hnd : nd ∈ nodes := by rw [e]; simp
  have hpn := h.piece hnd
  have hpre : ∀ m ∈ pre, m ∈ nodes := fun m hm => by rw [e]; simp [hm]
  obtain ⟨c1, c2, c3⟩ := h.cel pre nd post e
  have hnode : IntKind.u64.wrap (f.link.getD 0 0 - 1) = (nd.p : Int) := by rw [(g5 0 (by omega)).2, nxt0 hpn.2.2.1, uw_id (by omega) (by omega)]; omega
  have hg := sget_live g3 (a := ((nd.p + 1 : Nat) : Int)) (by rw [hW1, hl]; omega)
  rw [Int.toNat_natCast, hW1, c2] at hg
  have O2 := Ok.gone (n := N + 99) g3 (false, ((nd.p + 1 : Nat) : Int), 0)
  obtain ⟨s3, k1, k2, k3⟩ := skUnlink_live (p := nd.p) (f := f) (fun k => nxt k post) (fun k => pcl k (20 + k) pre) (by omega) nd.lv 0 _ (N + 80) (O2.mono (by omega)) (by show s1.W.length = 2000; rw [hW1, hl]) (by omega) (by omega)
    (fun j _ hj => ⟨(g5 j (by omega)).1, by show s1.W.getD _ 0 = _; rw [hW1]; exact c3 j (by omega), (h.cell_lt hpre (by omega)).2⟩)
    (fun i j _ hi _ hj => by
      rcases h.cell hpre i with e1 | ⟨n1, m1, q1, e1⟩
      · omega
      · obtain ⟨a1, a2, rfl⟩ := List.append_of_mem m1
        have := h.apart (l1 := a1) (a := n1) (l2 := a2) (b := nd) (l3 := post) e
        omega)
  have k3' : s3.W = unl (fun k => nxt k post) (fun k => pcl k (20 + k) pre) nd.lv 0 W := by
    rw [k3]
    show unl _ _ _ _ s1.W = _
    rw [hW1]
  have hr := h.unlinked e
  rw [← k3'] at hr
  have hl3 : s3.W.length = 2000 := by rw [k3', unl_length, hl]
  obtain ⟨s', m1, m2, m3, m4⟩ := give_ok (n := N) (k2.mono (by omega)) hr (by rw [hl3]; omega)
  refine ⟨s', _, ?_, m2, h.remove e (by rw [m3, k3', Int.toNat_natCast]) m4, ?_⟩
  · unfold skRemove
    rw [g1]
    simp only
    rw [if_neg (by rw [g4]; simp), hnode, uAdd_id (by omega) (by omega), show (nd.p : Int) + 1 = ((nd.p + 1 : Nat) : Int) by omega, hg]
    simp only [bne_self_eq_false, if_true]
    unfold skRem
    rw [if_neg (by rw [uw_id (by omega) (by omega)]; omega), Int.toNat_natCast, k1]
    simp only [bne_self_eq_false, if_true]
    rw [show (nd.lv : Int) + 2 = ((nd.lv + 2 : Nat) : Int) by omega, m1]
    rfl
  · rw [m3, getD_ne _ (by omega), Int.toNat_natCast, getD_ne _ (by omega), k3', unl_other _ _ _ fun j _ hj => by have := (h.cell_lt hpre (k := j) (by omega)).1; omega]

theorem SL.first_nil (h : SL W nodes back) (e : nodes = []) {s : St} {N : Nat} (hW : s.W = W) (hO : Ok s (N + 2)) : ∃ s', skFirst s 20 = (0, false, 0, s') ∧ Lk s s' ∧ Ok s' N := by
  have hg := sget_live hO (a := 20) (by rw [hW, h.len]; omega)
  rw [hW, show ((20 : Int).toNat) = 20 + 0 from rfl, h.hd 0 (by omega), e] at hg
  refine ⟨_, ?_, Lk.get s 20, (Ok.gone (n := N + 1) hO _).mono (by omega)⟩
  unfold skFirst
  rw [hg]
  rfl
theorem SL.first_cons (h : SL W nodes back) {nd : Nd} {r : List Nd} (e : nodes = nd :: r) {s : St} {N : Nat} (hW : s.W = W) (hO : Ok s (N + 2)) : ∃ s', skFirst s 20 = (nd.key, true, 0, s') ∧ Lk s s' ∧ Ok s' N := by
  have hl := h.len
  have hpn := h.piece (nd := nd) (by rw [e]; simp)
  have hg := sget_live hO (a := 20) (by rw [hW, hl]; omega)
  rw [hW, show ((20 : Int).toNat) = 20 + 0 from rfl, h.hd 0 (by omega), e, nxt0 hpn.2.2.1] at hg
  have O1 := Ok.gone (n := N + 1) hO (false, 20, 0)
  have hg2 := sget_live O1 (a := (nd.p : Int)) (by show _ < (s.W.length : Int); rw [hW, hl]; omega)
  rw [Int.toNat_natCast, gone_W, hW, (h.cel [] nd r e).1] at hg2
  refine ⟨_, ?_, (Lk.get s 20).trans (Lk.get _ (nd.p : Int)), Ok.gone (n := N) O1 _⟩
  unfold skFirst
  rw [hg]
  simp only
  rw [if_neg (by simp; omega), uw_id (by omega) (by omega), show (nd.p : Int) + 1 - 1 = nd.p by omega, hg2]
  rfl

theorem SL.after_ (h : SL W nodes back) {pre post : List Nd} {x : Int} (e : nodes = pre ++ post) (a1 : ∀ m ∈ pre, m.key ≤ x) (a2 : ∀ m ∈ post, x < m.key) {s : St} {N : Nat} (hW : s.W = W) (hO : Ok s (N + 3000)) :
    ∃ s', Lk s s' ∧ Ok s' N ∧ ((post = [] ∧ skAfter s 20 x = (0, false, 0, s')) ∨ ∃ nd r, post = nd :: r ∧ skAfter s 20 x = (nd.key, true, 0, s')) := by
  obtain ⟨f, s', g1, g2, g3, g4, g5, g6, g7⟩ := sk_search (x := x) (past := true) h (pre := pre) (post := post) e (fun m hm => by have := a1 m hm; rcases Int.lt_or_eq_of_le this with h | h; exact .inl h; exact .inr ⟨rfl, h⟩) (fun m hm hl => by
    have := a2 m hm
    rcases hl with hl | ⟨_, hl⟩ <;> omega) hW hO
  refine ⟨s', g2, g3, ?_⟩
  have h0 := (g6 0 (by omega)).2
  cases post with
  | nil =>
    left
    refine ⟨rfl, ?_⟩
    unfold skAfter
    rw [g1]
    simp only
    rw [if_pos (.inr (by rw [h0]; rfl))]
  | cons nd r =>
    right
    refine ⟨nd, r, rfl, ?_⟩
    have hpn := h.piece (nd := nd) (by rw [e]; simp)
    unfold skAfter
    rw [g1]
    simp only
    rw [if_neg (by rw [h0, nxt0 hpn.2.2.1]; simp; omega), g7 nd r rfl]

theorem keys_go (h : SL W nodes back) : ∀ (b a : List Nd) (fuel : Nat) (c : Nat) (l : List Int) (s : St) (N : Nat), nodes = a ++ b → b.length ≤ fuel → c < 2000 → W.getD c 0 = nxt 0 b → s.W = W → Ok s (N + 2 * b.length + 1) →
    ∃ s', skKeysGo fuel (c : Int) l s = (l ++ keysOf b, 0, s') ∧ Lk s s' ∧ Ok s' N
  | [], a, fuel, c, l, s, N, e, hf, hc, hv, hW, hO => by
    have hg := sget_live hO (a := (c : Int)) (by rw [hW, h.len]; omega)
    rw [Int.toNat_natCast, hW, hv] at hg
    refine ⟨gone s (false, (c : Int), 0), ?_, Lk.get s _, Ok.gone (n := N) hO _⟩
    have e0 : l ++ keysOf [] = l := List.append_nil l
    rw [e0]
    cases fuel with
    | zero => unfold skKeysGo; rw [hg]; rfl
    | succ n => unfold skKeysGo; rw [hg]; rfl
  | nd :: r, a, fuel, c, l, s, N, e, hf, hc, hv, hW, hO => by
    obtain ⟨n, rfl⟩ : ∃ n, fuel = n + 1 := ⟨fuel - 1, by simp at hf; omega⟩
    have hl := h.len
    have hpn := h.piece (nd := nd) (by rw [e]; simp)
    rw [nxt0 hpn.2.2.1] at hv
    obtain ⟨c1, c2, c3⟩ := h.cel a nd r e
    have hO' : Ok s ((N + 2 * r.length + 1 + 1) + 1) := hO.mono (by simp; omega)
    have hg := sget_live hO' (a := (c : Int)) (by rw [hW, hl]; omega)
    rw [Int.toNat_natCast, hW, hv] at hg
    have O1 := hO'.gone (false, (c : Int), 0)
    have hg2 := sget_live O1 (a := (nd.p : Int)) (by show _ < (s.W.length : Int); rw [hW, hl]; omega)
    rw [Int.toNat_natCast, gone_W, hW, c1] at hg2
    have O2 := O1.gone (false, (nd.p : Int), 0)
    obtain ⟨s', k1, k2, k3⟩ := keys_go h r (a ++ [nd]) n (nd.p + 2) (l ++ [nd.key]) (gone (gone s (false, (c : Int), 0)) (false, (nd.p : Int), 0)) N (by rw [e]; simp) (by simp at hf; omega) (by omega) (c3 0 (by omega)) hW O2
    refine ⟨s', ?_, ((Lk.get s (c : Int)).trans (Lk.get _ (nd.p : Int))).trans k2, k3⟩
    unfold skKeysGo
    rw [hg]
    simp only [bne_self_eq_false, if_true]
    rw [if_neg (by simp; omega), uw_id (by omega) (by omega), show (nd.p : Int) + 1 - 1 = nd.p by omega, hg2]
    simp only [bne_self_eq_false, if_true]
    rw [uAdd_id (by omega) (by omega), show (nd.p : Int) + 1 + 1 = ((nd.p + 2 : Nat) : Int) by omega, k1]
    simp [keysOf]
theorem SL.keys (h : SL W nodes back) {s : St} {N : Nat} (hW : s.W = W) (hO : Ok s (N + 2001)) : ∃ s', skKeys s 20 = (keysOf nodes, 0, s') ∧ Lk s s' ∧ Ok s' N := by
  have hf := h.few
  exact keys_go h nodes [] 65536 20 [] s N rfl (by omega) (by omega) (h.hd 0 (by omega)) hW (hO.mono (by omega))
end
end Go.Proofs.Ytgbgodhkehnbdaa
