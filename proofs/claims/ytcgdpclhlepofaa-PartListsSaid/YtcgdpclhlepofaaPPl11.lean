/- PartLists on plain words: the law's stages, call by call. No program in sight. -/
import Derived.Deep.LoopGhost
import Derived.Test.YtcgdpclhlepofaaRows
import Derived.ProofKit
import Derived.OpenShut
import Derived.ChangeOld
import Derived.Below
import Derived.SizedLaws
import Derived.Deep.Slices
import Derived.Deep.Fields
import Derived.ChangeSame
import Derived.Carry
import Derived.Test.YtcgdpclhlepofaaPPl4
import Derived.Test.YtcgdpclhlepofaaPPl5
import Derived.Test.YtcgdpclhlepofaaPPl7
import Derived.Test.YtcgdpclhlepofaaPPl8
import Derived.Test.YtcgdpclhlepofaaPPl9
import Derived.Test.YtcgdpclhlepofaaPPl10
namespace Go.Proofs.Ytcgdpclhlepofaa
open Go.RowKit
set_option linter.unusedVariables false
set_option linter.unusedSimpArgs false
set_option maxHeartbeats 1000000
theorem dw_head {q : Int → Bool} : ∀ {l : List Int} {x : Int}, (l.dropWhile q).head? = some x → q x = false
  | [], _, h => by simp at h
  | y :: l, x, h => by
    rw [List.dropWhile_cons] at h
    split at h
    · exact dw_head h
    · rename_i hy
      obtain rfl : y = x := by simpa using h
      simpa using hy
section
variable {s : St} {ns xs A : List Int} {b : Int} {g : Nat}
theorem LSt.wide {b' : Int} (h : LSt s ns xs A b g) (hb : b ≤ b') : LSt s ns xs A b' g := by
  obtain ⟨nodes, back, Q, h1, h2, h3, h4, h5⟩ := h
  exact ⟨nodes, back, Q, h1, h2, h3, by omega, h5⟩
theorem LSt.rise (h : LSt s ns xs A b g) : A.Pairwise (· < ·) := let ⟨_, _, _, h1, _⟩ := h; h1.rise
theorem lst_insert {n N : Nat} (key : Int) (h : LSt s ns xs A b g) (hb : Bud s ((n + 9) + 3000)) (hN : 1000 ≤ N) (hc : b + 2 ≤ 2000) :
    ∃ p' ks' s1, hfind (fun x => decide (x < key)) N s 0 18 = some (p', ks', 0, s1) ∧ ∃ s' g', lInsR p' 0 s1 0 18 key = (newK A key, 0, s') ∧ LSt s' ns xs (insK A key) (b + 2) g' := by
  obtain ⟨p', s1, e1, h1, b1, ⟨npre, npost, k1, k2, k3, k4, nodes, back, Q, hn, hL, hC, hl, hw, hg, hnn⟩, k5⟩ := lst_find h (fun x => decide (x < key)) hb hN fun x hx => dw_head hx
  have hrise := h.rise
  subst hn
  refine ⟨p', _, s1, e1, ?_⟩
  by_cases hk : (A.dropWhile (fun x => decide (x < key))).head? = some key
  · have ht : there p' key 0 = true := by
      rcases hd : A.dropWhile (fun x => decide (x < key)) with _ | ⟨y, r⟩
      · rw [hd] at hk; simp at hk
      · rw [hd] at hk
        obtain rfl : y = key := by simpa using hk
        have e5 := k5 y r hd
        have hne : npost ≠ [] := fun e => by have := k4.2 e; rw [hd] at this; simp at this
        rcases npost with _ | ⟨m, t⟩
        · exact absurd rfl hne
        · have := hnn m (by simp)
          unfold there
          rw [e5, k3]
          have : (hdOr (m :: t) 0 != 0) = true := by simp [hdOr]; omega
          simp [this]
    refine ⟨s1, g, ?_, ?_⟩
    · unfold lInsR newK
      rw [if_pos (.inr ht), hk]; simp
    · unfold insK
      rw [if_pos hk]
      exact h1.wide (by omega)
  · have ht : there p' key 0 = false := by
      rcases hd : A.dropWhile (fun x => decide (x < key)) with _ | ⟨y, r⟩
      · have : npost = [] := k4.1 hd
        unfold there
        rw [k3, this]; simp [hdOr]
      · rw [hd] at hk
        have hy : y ≠ key := by simpa using hk
        unfold there
        rw [k5 y r hd]
        have : (y == key) = false := by simpa using hy
        simp [this]
    have hA : A.takeWhile (fun x => decide (x < key)) ++ A.dropWhile (fun x => decide (x < key)) = A := List.takeWhile_append_dropWhile
    have hLx : Lx s1.W 2000 18 (npre ++ npost) (A.takeWhile (fun x => decide (x < key)) ++ A.dropWhile (fun x => decide (x < key))) (ndp ns ++ Q) back := by rw [hA]; exact hL
    have hgt : ∀ x ∈ A.dropWhile (fun x => decide (x < key)), key < x := by
      rcases hd : A.dropWhile (fun x => decide (x < key)) with _ | ⟨y, r⟩
      · simp
      · have hy : y ≠ key := by rw [hd] at hk; simpa using hk
        have hq : decide (y < key) = false := dw_head (q := fun x => decide (x < key)) (l := A) (by rw [hd]; rfl)
        have hq : ¬ y < key := by simpa using hq
        have hr := hrise
        rw [← hA, hd, List.pairwise_append, List.pairwise_cons] at hr
        intro x hx
        rcases List.mem_cons.1 hx with rfl | hx
        · omega
        · have := hr.2.1.1 x hx; omega
    obtain ⟨nn, s', back', q1, q2, q3, q4, q5, q6⟩ := lIns_x (key := key) (p' := p') (n := n) ⟨hl, b1⟩ hLx k1 (fun x hx => by have := mem_tw hx; simpa using this) hgt k2 k3 (fun _ => by omega)
    refine ⟨s', _, ?_, npre ++ nn :: npost, back', Q, ?_, hC.keep q3 fun u hu => q6 u (List.mem_append_left _ hu), q2.1, by omega, rfl⟩
    · unfold lInsR newK
      rw [if_neg (by rw [ht]; simp), q1]
      simp [hk]
    · unfold insK
      rw [if_neg hk]
      exact q4
theorem lst_keys {n N : Nat} (h : LSt s ns xs A b g) (hb : Bud s (n + 3000)) (hN : 1000 ≤ N) :
    ∃ p' s', hfind (fun _ => true) N s 0 18 = some (p', A, 0, s') ∧ LSt s' ns xs A b g ∧ keysOf A p' 0 = (A, 0) := by
  have hbd := h.bds
  have hO := h.ok hb
  obtain ⟨nodes, back, Q, h1, h2, h3, h4, h5⟩ := id h
  have hl := h1.lnk.len
  have h1' : Lx s.W 2000 18 (nodes ++ []) (A ++ []) (ndp ns ++ Q) back := by simpa using h1
  obtain ⟨p', s', e1, e2, e3, e4, e5, e6⟩ := hfind_x (q := fun _ => true) (k := N) (n := n) h1' hl (hO.mono (by omega)) (by omega) (by omega) (fun x hx => rfl) (fun x r e => by cases e)
  refine ⟨p', s', by simpa using e1, h.same e3 e2, ?_⟩
  have e5 : p'.next = 0 := e5
  have ef : firstOf p' 0 = (0, false, 0) := by unfold firstOf; rw [if_pos (.inr e5)]
  unfold keysOf
  rw [ef]
  rfl
theorem lst_read {n : Nat} (h : LSt s ns xs A b g) (hb : Bud s (n + 2000)) : ∃ s', pRead 2 (hdOr ns 0) xs.length s = (xs, 0, s') ∧ LSt s' ns xs A b g := by
  obtain ⟨a1, a2, a3, a4, a5, a6⟩ := h.bds
  have hO : Ok s (n + 2 * ns.length) := (h.ok hb).mono (by omega)
  obtain ⟨_, _, _, _, h2, _⟩ := id h
  obtain ⟨s', e1, e2, e3⟩ := pRead_x h2 hO (by omega)
  exact ⟨s', by rw [pRead_2, ← a1]; exact e1, h.same e3 e2⟩
theorem lst_nodes {n : Nat} (h : LSt s ns xs A b g) (hb : Bud s (n + 2000)) : ∃ s1, pNodes 2 (hdOr ns 0) xs.length s = (ns, 0, s1) ∧ (∀ x ∈ ns, 0 ≤ x ∧ x ≤ 18446744073709551615) ∧ ns.length ≤ 991 := by
  obtain ⟨a1, a2, a3, a4, a5, a6⟩ := h.bds
  have hO : Ok s (n + 2 * ns.length) := (h.ok hb).mono (by omega)
  obtain ⟨nodes, back, Q, h1, h2, h3, h4, h5⟩ := h
  obtain ⟨s1, e1, e2, e3⟩ := pNodes_x h2 hO (by omega)
  exact ⟨s1, by rw [pNodes_2, ← a1]; exact e1, fun x hx => by have := h2.inn x hx; have := h2.lw; omega, by omega⟩
theorem lst_given {n : Nat} (h : LSt s ns xs A b g) (hb : Bud s (n + 65537)) : ∃ l s', rGiven s 0 2 = (l, 0, s') ∧ l.length = g ∧ LSt s' ns xs A b g := by
  have hO : Ok s (n + 65536 + 1) := h.ok hb
  have hbd := h.bds
  obtain ⟨nodes, back, Q, h1, h2, h3, h4, h5⟩ := id h
  obtain ⟨g1, g2, g3⟩ := h1.lin
  obtain ⟨l, s', k1, k2, k3, k4⟩ := givenGo_one h1.rm (z := 2) (by omega) (by omega) h1.lw 65536 (back 2) [] 3 [] s n (by simp) (by omega) rfl hO (by omega) (by omega) (h1.rm.top 2 (by omega) (by omega))
  refine ⟨l, s', ?_, by rw [k2, h5]; simp, h.same k3 k4⟩
  unfold rGiven
  rw [if_neg (by omega)]
  exact k1
theorem lst_give {n : Nat} (h : LSt s ns xs A b g) (hb : Bud s (n + 5000)) : ∃ s', pGive 2 (hdOr ns 0) xs.length s = (0, s') ∧ LSt s' [] [] A b (g + xs.length) := by
  obtain ⟨a1, a2, a3, a4, a5, a6⟩ := h.bds
  have hO : Ok s ((n + 3 * ns.length) + 2 * ns.length) := (h.ok hb).mono (by omega)
  obtain ⟨nodes, back, Q, h1, h2, h3, h4, h5⟩ := h
  obtain ⟨s1, e1, e2, e3⟩ := pNodes_x h2 hO (by omega)
  have hp : ((18, 2) :: (ndp nodes ++ (ndp ns ++ Q)) : List (Int × Int)).Perm (((18, 2) :: (ndp nodes ++ Q)) ++ ndp ns) := by
    show ((18, 2) :: (ndp nodes ++ (ndp ns ++ Q)) : List (Int × Int)).Perm ((18, 2) :: (ndp nodes ++ Q ++ ndp ns))
    rw [List.append_assoc]
    exact List.Perm.cons _ (List.Perm.append_left _ List.perm_append_comm)
  obtain ⟨s2, back2, q2, k2, L2, r2, c2, z2, hk⟩ := pGiveGo_x (o1 := (18, 2) :: (ndp nodes ++ Q)) ns s1 n back e2 (by rw [e3]; exact h1.rm.perm hp) (by rw [e3]; exact h1.lw)
  rw [e3] at hk z2 L2
  have hlw := h1.lw
  refine ⟨s2, ?_, nodes, back2, Q, ⟨by simpa [ndp] using r2, ?_, ?_, ?_, h1.rise, by rw [L2]; exact hlw⟩, ⟨trivial, fun _ h => by simp at h, .nil, by rw [L2]; exact hlw⟩, k2.1, by rw [z2]; exact h4, by rw [c2, h5, a1]⟩
  · rw [pGive_2]
    unfold pGive
    rw [← a1, e1]
    exact q2
  · rw [hk (18, 2) (by simp) _ (by simp only; omega) (by simp only; omega)]; exact h1.first
  · rw [hk (18, 2) (by simp) 18 (by simp only; omega) (by simp only; omega)]; exact h1.count
  · refine h1.lnk.keep fun m hm => ?_
    have hmem : ((m, 2) : Int × Int) ∈ (18, 2) :: (ndp nodes ++ Q) := List.mem_cons_of_mem _ (List.mem_append_left _ (List.mem_map.2 ⟨m, hm, rfl⟩))
    exact ⟨hk _ hmem m (by simp only; omega) (by simp only; omega), hk _ hmem (m + 1) (by simp only; omega) (by simp only; omega)⟩
theorem lst_list {n : Nat} (h : LSt s [] [] A b g) (hb : Bud s (n + 4)) : ∃ ns s', pList 18 s = (hdOr ns 0, (A.length : Int), 0, s') ∧ s'.calls = s.calls + 4 ∧ LSt s' ns A [] b g := by
  have hs := h.ok hb
  obtain ⟨nodes, back, Q, h1, h2, h3, h4, h5⟩ := h
  obtain ⟨g1, g2, g3⟩ := h1.lin
  obtain ⟨D1, D2, D3, D4⟩ := h1.dis
  have hl := h1.lnk.len
  have hlw := h1.lw
  have b0 : Ok s ((n + 3) + 1) := hs
  have b1 := rdt_ok b0 (18 + 1)
  have b2 := rdt_ok b1 18
  have b3 := wrt_ok b2 18 0
  have b4 := wrt_ok b3 (18 + 1) 0
  have u1 : uAdd 18 1 = 18 + 1 := uAdd_id (by omega) (by omega)
  have hmh : ((18, (2 : Int)) : Int × Int) ∈ (18, 2) :: (ndp nodes ++ (ndp [] ++ Q)) := List.mem_cons_self
  have r1 := h1.rm.put (j := 18) hmh (by simp only; omega) (by simp only; omega) 0
  have r2 := r1.put (j := 18 + 1) hmh (by simp only; omega) (by simp only; omega) 0
  have hg : ∀ j : Int, 0 ≤ j → ((s.W.set (18 : Int).toNat 0).set ((18 : Int) + 1).toNat 0).getD j.toNat 0 = if (18 : Int) + 1 = j then 0 else if (18 : Int) = j then 0 else s.W.getD j.toNat 0 := fun j hj => by
    rw [gs _ (by omega) (by simp; omega) hj, gs _ (by omega) (by omega) hj]
  have hW : (wrt (wrt (rdt (rdt s (18 + 1)) 18) 18 0) (18 + 1) 0).W = (s.W.set (18 : Int).toNat 0).set ((18 : Int) + 1).toNat 0 := rfl
  refine ⟨nodes, wrt (wrt (rdt (rdt s (18 + 1)) 18) 18 0) (18 + 1) 0, ?_, ?_, [], back, Q, ?_, ?_, b4.1, ?_, h5⟩
  · have f1 : sget s (18 + 1) = (hdOr nodes 0, 0, rdt s (18 + 1)) := by rw [sget_rdt b0 (by omega), h1.first]
    have f2 : sget (rdt s (18 + 1)) 18 = ((nodes.length : Int), 0, rdt (rdt s (18 + 1)) 18) := by rw [sget_rdt b1 (by rw [rdt_W]; omega), rdt_W, h1.count]
    have f3 : sput (rdt (rdt s (18 + 1)) 18) 18 0 = (0, wrt (rdt (rdt s (18 + 1)) 18) 18 0) := sput_wrt b2 (by rw [rdt_W, rdt_W]; omega) 0
    have f4 : sput (wrt (rdt (rdt s (18 + 1)) 18) 18 0) (18 + 1) 0 = (0, wrt (wrt (rdt (rdt s (18 + 1)) 18) 18 0) (18 + 1) 0) := sput_wrt b3 (by rw [wrt_W, rdt_W, rdt_W]; simp; omega) 0
    unfold pList pCut
    rw [u1]
    simp only [f1, f2, pZero, f3, f4]
    rw [hl]
    rfl
  · show (((s.calls + 1) + 1) + 1) + 1 = _; omega
  · rw [hW]
    refine ⟨by simpa [ndp] using r2, ?_, ?_, trivial, .nil, by simp; exact hlw⟩
    · rw [hg _ (by omega), if_pos rfl]; rfl
    · rw [hg _ (by omega), if_neg (by omega), if_pos rfl]; rfl
  · rw [hW]
    refine ⟨h1.lnk.keep fun m hm => ?_, fun m hm => by have := h1.nin hm; simp; omega, D2, by simp; exact hlw⟩
    have d := D1 m hm
    have i := h1.nin hm
    unfold Disj at d
    simp only at d
    exact ⟨by rw [hg _ (by omega), if_neg (by omega), if_neg (by omega)], by rw [hg _ (by omega), if_neg (by omega), if_neg (by omega)]⟩
  · rw [hW, show (0 : Nat) = ((0 : Int)).toNat from rfl, hg 0 (by omega), if_neg (by omega), if_neg (by omega)]
    exact h4
end
end Go.Proofs.Ytcgdpclhlepofaa
/- part.List by contract; queue.New beside a list, a list in a fresh room, plain. -/
namespace Go.Proofs.Ytcgdpclhlepofaa
open Go.RowKit
set_option maxHeartbeats 4000000
set_option linter.unusedVariables false
set_option linter.unusedSimpArgs false

set_option maxRecDepth 100000 in
theorem plist_b {t n : Nat} {F F0 : Nat → Prop} {s : St} {q : Int} {w w0 : World}
    (hw : Txw w t F s) (hf : Fits s) (hb : Bud s (n + 4)) (h1 : 0 ≤ q) (h1' : q ≤ 18446744073709551615) (hm : Fr F0 w0 F w) :
    Calls Try.prog 8 #[.iface 26 (.pointer (some ⟨t, 0, none⟩)), .int .u64 q] w fun e w' =>
      ∃ f c er s', Hid (pList q s = (f, c, er, s')) ∧ 0 ≤ f ∧ f ≤ 18446744073709551615 ∧ 0 ≤ c ∧ c ≤ 18446744073709551615 ∧ e = .returned (.tuple #[partv 2 f c er, .int .i64 er]) ∧ Lft t n F0 w0 s' w' := by
  have hE1 : (w.alloc (.cells #[.int .i64 0, .int .u64 0, .int .u64 0] 25)).heap.size = w.heap.size + 1 := by simp
  have hBr := Blk.new w 25 #[.int .i64 0, .int .u64 0, .int .u64 0]
  have hT := (hw.alloc (.cells #[.int .i64 0, .int .u64 0, .int .u64 0] 25)).alloc (.cells (u64s [q, uAdd q 1]).toArray 23)
  have hM := (hm.alloc (.cells #[.int .i64 0, .int .u64 0, .int .u64 0] 25)).alloc (.cells (u64s [q, uAdd q 1]).toArray 23)
  have hL := Lies.new (w.alloc (.cells #[.int .i64 0, .int .u64 0, .int .u64 0] 25)) [q, uAdd q 1] (by simp)
  have hBr2 := hBr.alloc (.cells (u64s [q, uAdd q 1]).toArray 23)
  rw [hE1] at hL
  have hFr : ¬ F w.heap.size := fun h => by have := hw.lt _ h; omega
  have hFl : ¬ F (w.heap.size + 1) := fun h => by have := hw.lt _ h; omega
  have hsz : w0.heap.size ≤ w.heap.size := hm.size
  clear hw hm
  go_enter Try.func8, Try.ntmps8
  go_wp2_with fail
  have u1 : ∀ a : Int, IntKind.u64.wrap (q + a) = uAdd q a := fun a => rfl
  simp only [u1]
  refine (pcut_b (kd := 2) (n := n) hT hf (by simpa using hb) hL (by simp) (fun k hk => by
    obtain rfl : w.heap.size + 1 = k := by simpa [own, Value.ownBlock] using hk
    exact hFl) (fun k hk => by
    obtain rfl : w.heap.size + 1 = k := by simpa [own, Value.ownBlock] using hk
    simp) (fun x hx => by
    simp at hx
    rcases hx with rfl | rfl
    · omega
    · exact uAdd_bd _ _) (uAdd_bd _ _).1 (uAdd_bd _ _).2 h1 h1' (Fr.refl F _)).mono ?_
  rintro _ w3 ⟨f, c, er, s3, q3, df, df', dc, dc', rfl, f3, b3, F3, hT3, hm3⟩
  have hB3 := hm3.blk hBr2 hFr
  have hF3 : ¬ F3 w.heap.size := hm3.not_in hBr2.lt hFr
  have hM3 := hM.trans hm3
  have q3 : Hid (pList q s = (f, c, er, s3)) := q3
  have z0 := hB3.frozen 0
  have z1 := hB3.frozen 1
  have z2 := hB3.frozen 2
  have d0 := hB3.cell 0
  have d1 := hB3.cell 1
  have d2 := hB3.cell 2
  simp only [List.getElem?_toArray, List.getElem?_cons_zero, List.getElem?_cons_succ] at d0 d1 d2
  have HFIN : Hid (∀ (a : Int) (b c : Int), Lft t n F0 w0 s3 (((w3.setCell ⟨w.heap.size, 0, none⟩ (.int .i64 a)).setCell ⟨w.heap.size, 1, none⟩ (.int .u64 b)).setCell ⟨w.heap.size, 2, none⟩ (.int .u64 c)) ∧ Blk (((w3.setCell ⟨w.heap.size, 0, none⟩ (.int .i64 a)).setCell ⟨w.heap.size, 1, none⟩ (.int .u64 b)).setCell ⟨w.heap.size, 2, none⟩ (.int .u64 c)) w.heap.size 25 #[.int .i64 a, .int .u64 b, .int .u64 c]) := Lib.hid fun a b c =>
    ⟨⟨f3, b3, F3, ((hT3.set (p := ⟨w.heap.size, 0, none⟩) hF3 _).set (p := ⟨w.heap.size, 1, none⟩) hF3 _).set (p := ⟨w.heap.size, 2, none⟩) hF3 _, ((hM3.set (p := ⟨w.heap.size, 0, none⟩) (.inr (.inr hsz)) _).set (p := ⟨w.heap.size, 1, none⟩) (.inr (.inr hsz)) _).set (p := ⟨w.heap.size, 2, none⟩) (.inr (.inr hsz)) _⟩,
      by simpa using ((hB3.set_ 0 (.int .i64 a)).set_ 1 (.int .u64 b)).set_ 2 (.int .u64 c)⟩
  clear hBr hT hM hL hBr2 hFr hFl hB3 hM3 hm3 hT3 hF3 hf hb
  by_cases he : er = 0
  · subst he
    have hv : partv ((2 : Nat) : Int) f c 0 = .agg #[.int .i64 2, .int .u64 f, .int .u64 c] := if_pos rfl
    rw [hv]
    obtain ⟨hL, hB⟩ := HFIN.out 2 f c
    have hL := Lib.hid hL
    have x0 := hB.cell 0
    have x1 := hB.cell 1
    have x2 := hB.cell 2
    simp only [List.getElem?_toArray, List.getElem?_cons_zero, List.getElem?_cons_succ] at x0 x1 x2
    clear hv hB HFIN
    go_wp2
    refine bodyPost_ret (v := .tuple #[.agg #[.int .i64 2, .int .u64 f, .int .u64 c], .int .i64 0]) (by simp [results, Try.f8, go_sem, x0, x1, x2]) rfl ?_
    exact ⟨f, c, 0, s3, q3, df, df', dc, dc', by unfold partv; rw [if_pos rfl], hL.out⟩
  · rw [partv_no he]
    obtain ⟨hL, hB⟩ := HFIN.out 0 0 0
    have hL := Lib.hid hL
    have x0 := hB.cell 0
    have x1 := hB.cell 1
    have x2 := hB.cell 2
    simp only [List.getElem?_toArray, List.getElem?_cons_zero, List.getElem?_cons_succ] at x0 x1 x2
    have HE := Lib.hid he
    clear hB HFIN he
    go_wp2
    refine bodyPost_ret (v := .tuple #[.agg #[.int .i64 0, .int .u64 0, .int .u64 0], .int .i64 er]) (by simp [results, Try.f8, go_sem, x0, x1, x2]) rfl ?_
    exact ⟨f, c, er, s3, q3, df, df', dc, dc', by rw [partv_no HE.out], hL.out⟩
/-- A queue's head taken beside whatever is out. -/
theorem qNew_any {s : St} {n : Nat} {c : Int} {out : List (Int × Int)} {back : Nat → List Int} (hs : Ok s (n + 7)) (hr : Rm s.W 18 c out back) (hlw : (s.W.length : Int) ≤ 4611686018427387904) (hcap : s.W.getD 0 0 + 3 ≤ c) :
    ∃ p s' back', qNew s 0 = (p, 0, s') ∧ Ok s' n ∧ s'.W.length = s.W.length ∧ Rm s'.W 18 c (out ++ [(p, 3)]) back' ∧ s'.W.getD 0 0 ≤ s.W.getD 0 0 + 3 ∧ (back' 2).length = (back 2).length ∧ ∀ u ∈ out, ∀ j : Int, u.1 ≤ j → j < u.1 + u.2 → s'.W.getD j.toNat 0 = s.W.getD j.toNat 0 := by
  have hs3 : Ok s ((n + 3) + 4) := hs
  rcases take_ok (z := 3) hs3 hr (by omega) (by omega) hlw with ⟨a1, a2, _⟩ | ⟨p, s1, back', a1, a3, a5, a6, a7, a10, a11, a13, a14, a15⟩
  · exact absurd a2 (by omega)
  · have hbk : (back' 2).length = (back 2).length := by
      rcases a15 with ⟨-, eb, -, -⟩ | ⟨l, -, eb, -⟩
      · rw [eb]
      · rw [eb]; rfl
    have t0 := a7.to0
    have hl1 : p + 3 ≤ (s1.W.length : Int) := by simpa using Int.le_trans a6 t0
    have b1 : Ok s1 ((n + 2) + 1) := a3
    have b2 := wrt_ok b1 p 0
    have b3 := wrt_ok b2 (p + 1) 0
    have b4 := wrt_ok b3 (p + 2) 0
    have hmem : ((p, (3 : Int)) : Int × Int) ∈ out ++ [(p, ((3 : Nat) : Int))] := by simp
    have r1 := a7.put (j := p) hmem (by simp only; omega) (by simp only; omega) 0
    have r2 := r1.put (j := p + 1) hmem (by simp only; omega) (by simp only; omega) 0
    have r3 := r2.put (j := p + 2) hmem (by simp only; omega) (by simp only; omega) 0
    have hW : (wrt (wrt (wrt s1 p 0) (p + 1) 0) (p + 2) 0).W = ((s1.W.set p.toNat 0).set (p + 1).toNat 0).set (p + 2).toNat 0 := rfl
    have hg : ∀ j : Int, 0 ≤ j → (((s1.W.set p.toNat 0).set (p + 1).toNat 0).set (p + 2).toNat 0).getD j.toNat 0 = if p + 2 = j then 0 else if p + 1 = j then 0 else if p = j then 0 else s1.W.getD j.toNat 0 := fun j hj => by
      rw [gs _ (by omega) (by simp; omega) hj, gs _ (by omega) (by simp; omega) hj, gs _ (by omega) (by omega) hj]
    refine ⟨p, _, back', ?_, b4, ?_, ?_, ?_, hbk, ?_⟩
    · have u0 : uAdd p 0 = p := by rw [uAdd_id (by omega) (by omega)]; omega
      have u1 : uAdd p (0 + 1) = p + 1 := by rw [uAdd_id (by omega) (by omega)]; omega
      have u2 : uAdd p (0 + 1 + 1) = p + 2 := by rw [uAdd_id (by omega) (by omega)]; omega
      have h0 : bput 0 s1 (uAdd p 0) 0 = (0, wrt s1 p 0) := by rw [u0, bput_0 b1 (by omega)]
      have h1 : bput 0 (wrt s1 p 0) (uAdd p (0 + 1)) 0 = (0, wrt (wrt s1 p 0) (p + 1) 0) := by rw [u1, bput_0 b2 (by rw [wrt_W]; simp; omega)]
      have h2 : bput 0 (wrt (wrt s1 p 0) (p + 1) 0) (uAdd p (0 + 1 + 1)) 0 = (0, wrt (wrt (wrt s1 p 0) (p + 1) 0) (p + 2) 0) := by rw [u2, bput_0 b3 (by rw [wrt_W, wrt_W]; simp; omega)]
      have e : qLayGo p 3 0 0 s1 = (0, wrt (wrt (wrt s1 p 0) (p + 1) 0) (p + 2) 0) := (qLayGo_s _ _ _ _ _ h0).trans ((qLayGo_s _ _ _ _ _ h1).trans (qLayGo_s _ _ _ _ _ h2))
      have a1 : rTake s 0 3 = (p, 0, s1) := a1
      unfold qNew
      simp only [a1, e]
      rfl
    · rw [hW]; simp [a11]
    · rw [hW]; exact r3
    · rw [hW, show (0 : Nat) = ((0 : Int)).toNat from rfl, hg 0 (by omega), if_neg (by omega), if_neg (by omega), if_neg (by omega)]
      exact a14
    · intro u hu j hj1 hj2
      have hd := a10 u hu
      have hi := hr.outIn u hu
      unfold Disj at hd
      simp only at hd
      rw [hW, hg j (by omega), if_neg (by omega), if_neg (by omega), if_neg (by omega)]
      exact a13 _ (by omega)
theorem lst_qnew {s : St} {ns xs A : List Int} {b : Int} {g n : Nat} (h : LSt s ns xs A b g) (hb : Bud s (n + 7)) (hc : b + 3 ≤ 2000) : ∃ p s', qNew s 0 = (p, 0, s') ∧ LSt s' ns xs A (b + 3) g := by
  have hO := h.ok hb
  obtain ⟨nodes, back, Q, h1, h2, h3, h4, h5⟩ := h
  obtain ⟨p, s', back', e1, e2, e3, e4, e5, e6, e7⟩ := qNew_any hO h1.rm h1.lw (by omega)
  refine ⟨p, s', e1, nodes, back', Q ++ [(p, 3)], ⟨?_, ?_, ?_, ?_, h1.rise, by rw [e3]; exact h1.lw⟩, h2.keep e3 fun u hu => e7 u (List.mem_cons_of_mem _ (List.mem_append_right _ (List.mem_append_left _ hu))), e2.1, by omega, by rw [e6, h5]⟩
  · simpa [List.append_assoc] using e4
  · rw [e7 (18, 2) (by simp) _ (by simp only; omega) (by simp only; omega)]; exact h1.first
  · rw [e7 (18, 2) (by simp) 18 (by simp only; omega) (by simp only; omega)]; exact h1.count
  · refine h1.lnk.keep fun m hm => ?_
    have hmem : ((m, 2) : Int × Int) ∈ (18, 2) :: (ndp nodes ++ (ndp ns ++ Q)) := List.mem_cons_of_mem _ (List.mem_append_left _ (List.mem_map.2 ⟨m, hm, rfl⟩))
    exact ⟨e7 _ hmem m (by simp only; omega) (by simp only; omega), e7 _ hmem (m + 1) (by simp only; omega) (by simp only; omega)⟩
/-- The room laid, the list made. -/
theorem lst_new : ∃ s', lNew (laidSt 2000) 0 = (18, 0, s') ∧ LSt s' [] [] [] 20 0 := by
  obtain ⟨l1, l2, l3, l4⟩ := laid_at 2000 (by omega) (by omega)
  have hb : Ok (laidSt 2000) ((0 + 2) + 4) := ⟨l2, by
    unfold Bud
    decide +kernel⟩
  rcases take_ok (z := 2) hb l3 (by omega) (by omega) (by rw [l1]; omega) with ⟨a1, a2, _⟩ | ⟨p, s1, back', a1, a3, a5, a6, a7, a10, a11, a13, a14, a15⟩
  · exact absurd a2 (by rw [l4]; omega)
  · obtain ⟨eb, ep, e0⟩ : back' = (fun _ => []) ∧ p = 18 ∧ s1.W.getD 0 0 = 20 := by
      rcases a15 with ⟨-, eb, ep, e0⟩ | ⟨l, hl, -⟩
      · exact ⟨eb, by rw [ep, l4], by rw [e0, l4]; omega⟩
      · simp at hl
    subst eb
    subst ep
    have b1 : Ok s1 ((0 + 1) + 1) := a3
    have b2 := wrt_ok b1 18 0
    have b3 := wrt_ok b2 (18 + 1) 0
    have u1 : uAdd 18 1 = 18 + 1 := uAdd_id (by omega) (by omega)
    have hmem : ((18, (2 : Int)) : Int × Int) ∈ ([] : List (Int × Int)) ++ [(18, ((2 : Nat) : Int))] := by simp
    have r1 := a7.put (j := 18) hmem (by simp only; omega) (by simp only; omega) 0
    have r2 := r1.put (j := 18 + 1) hmem (by simp only; omega) (by simp only; omega) 0
    have hW : (wrt (wrt s1 18 0) (18 + 1) 0).W = (s1.W.set (18 : Int).toNat 0).set ((18 : Int) + 1).toNat 0 := rfl
    have hg : ∀ j : Int, 0 ≤ j → ((s1.W.set (18 : Int).toNat 0).set ((18 : Int) + 1).toNat 0).getD j.toNat 0 = if (18 : Int) + 1 = j then 0 else if (18 : Int) = j then 0 else s1.W.getD j.toNat 0 := fun j hj => by
      rw [gs _ (by omega) (by simp; omega) hj, gs _ (by omega) (by omega) hj]
    have hlw : (((s1.W.set (18 : Int).toNat 0).set ((18 : Int) + 1).toNat 0).length : Int) ≤ 4611686018427387904 := by simp; omega
    refine ⟨wrt (wrt s1 18 0) (18 + 1) 0, ?_, [], fun _ => [], [], ⟨?_, ?_, ?_, trivial, .nil, hlw⟩, ⟨trivial, fun _ h => by simp at h, .nil, hlw⟩, b3.1, ?_, rfl⟩
    · have a1 : htake (laidSt 2000) 0 0 2 = (18, 0, s1) := (htake_ok _ _ _).trans a1
      have f1 : hput s1 0 18 0 = (0, wrt s1 18 0) := hput_wrt b1 (by omega) _
      have f2 : hput (wrt s1 18 0) 0 (uAdd 18 1) 0 = (0, wrt (wrt s1 18 0) (18 + 1) 0) := by rw [u1]; exact hput_wrt b2 (by rw [wrt_W]; simp; omega) _
      unfold lNew
      simp only [a1, f1, f2]
      rfl
    · rw [hW]; simpa [ndp] using r2
    · rw [hW, hg _ (by omega), if_pos rfl]; rfl
    · rw [hW, hg _ (by omega), if_neg (by omega), if_pos rfl]; rfl
    · rw [hW, show (0 : Nat) = ((0 : Int)).toNat from rfl, hg 0 (by omega), if_neg (by omega), if_neg (by omega)]
      show s1.W.getD 0 0 ≤ 20
      omega
end Go.Proofs.Ytcgdpclhlepofaa
/- part.Read and part.nodes by contract once more: what they answer is new. part.Give. -/
namespace Go.Proofs.Ytcgdpclhlepofaa
open Go.RowKit
set_option maxHeartbeats 4000000
set_option linter.unusedVariables false
set_option linter.unusedSimpArgs false

set_option maxRecDepth 100000 in
theorem preadw_b {t n : Nat} {F F0 : Nat → Prop} {s : St} {kind first count : Int} {w w0 : World}
    (hw : Txw w t F s) (hf : Fits s) (hb : Bud s (n + 3 * 65537)) (h1 : 0 ≤ first) (h1' : first ≤ 18446744073709551615) (h2 : 0 ≤ count) (h2' : count ≤ 18446744073709551615) (hm : Fr F0 w0 F w) :
    Calls Try.prog 9 #[.agg #[.int .i64 kind, .int .u64 first, .int .u64 count], .func (.func 13) #[.pointer (some ⟨t, 0, none⟩)] #[]] w fun e w' =>
      ∃ v l er s', Hid (pRead kind first count s = (l, er, s')) ∧ e = .returned (.tuple #[v, .int .i64 er]) ∧ LftV t n 0 F0 w0 s' v l w' ∧ ∀ k, own v k → F k ∨ w.heap.size ≤ k := by
  have hTw := (hw.alloc (.cells #[.int .i64 kind, .int .u64 first, .int .u64 count] 25))
  have hE : (w.alloc (.cells #[.int .i64 kind, .int .u64 first, .int .u64 count] 25)).heap.size = w.heap.size + 1 := by simp
  have hJ := JSl.new (w := w) (w1 := w.alloc (.cells #[.int .i64 kind, .int .u64 first, .int .u64 count] 25)) fun k hk => hTw.lt k hk
  rw [hE] at hJ
  have hT := hTw.alloc (.cells #[.slice none 0 0] 32)
  have hM := (((Fr.refl F w).alloc (.cells #[.int .i64 kind, .int .u64 first, .int .u64 count] 25)).alloc (.cells #[.slice none 0 0] 32)).into (G := fun k => F k ∨ k = w.heap.size + 1) fun k hk => hk.elim .inl fun h => .inr (.inr (by rw [h]; omega))
  have dp := (Blk.new w 25 #[.int .i64 kind, .int .u64 first, .int .u64 count])
  have dp0 := (dp.alloc (.cells #[.slice none 0 0] 32)).cell 0
  have dp1 := (dp.alloc (.cells #[.slice none 0 0] 32)).cell 1
  have dp2 := (dp.alloc (.cells #[.slice none 0 0] 32)).cell 2
  simp only [List.getElem?_toArray, List.getElem?_cons_zero, List.getElem?_cons_succ] at dp0 dp1 dp2
  go_enter Try.func9, Try.ntmps9
  go_wp2_with fail
  refine (each_b (cb := w.heap.size + 1) (readc_law t (w.heap.size + 1)) hT hJ (fun k hk => by rw [hk]; simp) hf hb h1 h1' h2 h2' hM).mono ?_
  rintro _ w3 ⟨er, l, s3, hq, rfl, hL⟩
  obtain ⟨hlen, f3, b3, F3, G3, hT3, ⟨A, cp, hB3, hv3, hF3, hG3, ho3⟩, hM3⟩ := hL
  have dc3 := hB3.cell 0
  simp only [List.getElem?_toArray, List.getElem?_cons_zero] at dc3
  have hM4 : Fr F0 w0 F3 w3 := hm.trans (hM3.into fun k hk => .inl (.inl hk))
  have hge : Hid (∀ k, own (.slice A l.length cp) k → F k ∨ w.heap.size ≤ k) := Lib.hid fun k hk => hM3.new k (.inr ((hG3 k).2 (.inr hk)))
  have hV : Hid (LftV t n 0 F0 w0 s3 (.slice A l.length cp) l w3) := Lib.hid ⟨f3, b3, hv3, fun _ _ => Nat.zero_le _, F3, hT3, hM4, fun k hk => (ho3 k hk).1⟩
  have hN : Hid (LftV t n 0 F0 w0 s3 (.slice none 0 0) [] w3) := Lib.hid ⟨f3, b3, Wl.nil _, fun _ _ => Nat.zero_le _, F3, hT3, hM4, fun k hk => nomatch hk⟩
  clear hT hJ hM dp dp0 dp1 dp2 hT3 hB3 hv3 hF3 hG3 ho3 hM3 hM4 hw hm
  by_cases he : er = 0
  · subst he
    have hq2 : Hid (pRead kind first count s = (l, 0, s3)) := Lib.hid (by unfold pRead; rw [hq.out]; rfl)
    clear hq
    go_wp2
    go_ret2
    exact ⟨_, l, 0, s3, hq2, rfl, hV.out, hge.out⟩
  · have z : (er != 0) = true := by simpa using he
    have hq2 : Hid (pRead kind first count s = ([], er, s3)) := Lib.hid (by unfold pRead; rw [hq.out]; simp only; rw [if_pos z])
    clear hq he
    go_wp2
    go_ret2
    exact ⟨_, [], er, s3, hq2, rfl, hN.out, fun k hk => nomatch hk⟩

theorem pGiveGo_drop {ns : List Int} {j : Nat} (hj : j < ns.length) {s s1 : St} {e : Int} (h : rGive s 0 (ns.getD j 0) 2 = (e, s1)) : pGiveGo (ns.drop j) s = if (e != 0) = true then (e, s1) else pGiveGo (ns.drop (j + 1)) s1 := by
  rw [List.drop_eq_getElem_cons hj]
  have e1 : ns[j] = ns.getD j 0 := by rw [List.getD_eq_getElem?_getD, List.getElem?_eq_getElem hj]; rfl
  rw [e1, pGiveGo, h]
set_option maxRecDepth 100000 in
/-- part.Give of a part whose nodes are told. -/
theorem pgive_b {t n : Nat} {F F0 : Nat → Prop} {s s1 : St} {kind first count : Int} {ns : List Int} {w w0 : World}
    (hw : Txw w t F s) (hf : Fits s) (hb : Bud s (n + 3 * ns.length + 3 * 65537)) (h1 : 0 ≤ first) (h1' : first ≤ 18446744073709551615) (h2 : 0 ≤ count) (h2' : count ≤ 18446744073709551615) (hm : Fr F0 w0 F w) (hq : pNodes kind first count s = (ns, 0, s1)) (hnb : ∀ x ∈ ns, 0 ≤ x ∧ x ≤ 18446744073709551615) (hnl : ns.length ≤ 65537) :
    Calls Try.prog 15 #[.iface 26 (.pointer (some ⟨t, 0, none⟩)), .int .u64 0, .agg #[.int .i64 kind, .int .u64 first, .int .u64 count]] w fun e w' =>
      ∃ er s', Hid (pGive kind first count s = (er, s')) ∧ e = .returned (.int .i64 er) ∧ Lft t n F0 w0 s' w' := by
  have hT := hw.alloc (.cells #[.int .i64 kind, .int .u64 first, .int .u64 count] 25)
  have hM := hm.alloc (.cells #[.int .i64 kind, .int .u64 first, .int .u64 count] 25)
  have hB := Blk.new w 25 #[.int .i64 kind, .int .u64 first, .int .u64 count]
  have HQ : Hid (pGive kind first count s = pGiveGo ns s1) := Lib.hid (by unfold pGive; rw [hq]; rfl)
  have HQ1 := Lib.hid hq
  have HNB := Lib.hid hnb
  have d0 := hB.cell 0
  have d1 := hB.cell 1
  have d2 := hB.cell 2
  simp only [List.getElem?_toArray, List.getElem?_cons_zero, List.getElem?_cons_succ] at d0 d1 d2
  clear hw hm hq hnb hB
  go_enter Try.func15, Try.ntmps15
  go_wp2_with fail
  generalize w.alloc (.cells #[.int .i64 kind, .int .u64 first, .int .u64 count] 25) = w1 at *
  generalize w.heap.size = pb at *
  refine (pnodes_b (n := n + 3 * ns.length) hT hf hb h1 h1' h2 h2' (Fr.refl F _)).mono ?_
  rintro _ w5 ⟨v5, l5, e5, s5, q5, rfl, f5, b5, hv5, hvo5, F5, hT5, hm5, hvF5⟩
  obtain ⟨rfl, rfl, rfl⟩ : ns = l5 ∧ 0 = e5 ∧ s1 = s5 := by have := HQ1.out.symm.trans q5.out; simpa using this
  have HT5 := Lib.hid hT5
  have HM5 := Lib.hid (hM.trans hm5)
  have HV5 := Lib.hid hv5
  obtain ⟨A5, c5, rfl, hc5⟩ := hv5.shape
  have HVF := Lib.hid hvF5
  have hli : (ns.length : Int) ≤ 65537 := by omega
  clear hT hM hf hb hT5 hm5 hv5 q5 d0 d1 d2 hvo5 hvF5
  go_wp2_with fail
  go_loopg [23] ns.length (fun gk c23 wr => ∃ (j : Nat) (sx : St) (Fx : Nat → Prop), gk + j = ns.length ∧ c23 = .int .i64 (j : Int) ∧ Hid (pGiveGo ns s1 = pGiveGo (ns.drop j) sx) ∧ Fits sx ∧ Bud sx (n + 3 * gk) ∧ Hid (Txw wr t Fx sx) ∧ Hid (Fr F0 w0 Fx wr) ∧ Hid (Wl wr (.slice A5 ns.length c5) ns) ∧ Hid (∀ k, own (.slice A5 ns.length c5) k → ¬ Fx k))
  case atStart => exact ⟨0, s1, F5, rfl, rfl, Lib.hid (by simp), f5, b5, HT5, HM5, HV5, HVF⟩
  case round =>
    obtain ⟨j, sx, Fx, hgk, rfl, HPZ, fx, bx, HT, HM, HV, HZP⟩ := hrel
    have HG := Lib.hid hgk
    clear hgk HT5 HM5 HV5 HVF f5 b5
    by_cases hj : j < ns.length
    · obtain ⟨g, rfl⟩ : ∃ g, gk = g + 1 := ⟨gk - 1, by have := HG.out; omega⟩
      obtain ⟨gz, oz, hA, _, hc, _⟩ := HV.out.upd hj
      have hAz := Lib.hid hA
      subst hA
      have hzj := HNB.out _ (show ns.getD j 0 ∈ ns by rw [List.getD_eq_getElem?_getD, List.getElem?_eq_getElem hj]; exact List.getElem_mem hj)
      have hji : (j : Int) < ns.length := by omega
      have hPZ := Lib.hid fun (e : Int) (s9 : St) (h : rGive sx 0 (ns.getD j 0) 2 = (e, s9)) => HPZ.out.trans (pGiveGo_drop hj h)
      obtain ⟨hzj1, hzj2⟩ := hzj
      clear HPZ
      generalize ns.getD j 0 = zj at *
      have bx : Bud sx ((n + 3 * g) + 3) := bx
      go_wp2_with fail
      refine (give_b HT.out fx bx (by omega) hzj1 hzj2 (by omega) (Fr.refl Fx _)).mono ?_
      rintro _ w7 ⟨e7, s7, q7, rfl, f7, b7, F7, hT7, hm7⟩
      have HT7 := Lib.hid hT7
      have HM7 := Lib.hid (HM.out.trans hm7)
      have HV7 := Lib.hid (HV.out.fr hm7 HZP.out)
      have HZP7 : Hid (∀ k, own (.slice (some ⟨gz, oz, none⟩) ns.length c5) k → ¬ F7 k) := Lib.hid fun k hk h => (hm7.new k h).elim (HZP.out k hk) fun h2 => by have := HV.out.lt k hk; omega
      have hPZ7 := Lib.hid (hPZ.out e7 s7 q7.out)
      clear hT7 hm7 HT HM HV HZP hPZ q7 hc
      by_cases he : e7 = 0
      · subst he
        have hPZ8 : Hid (pGiveGo ns s1 = pGiveGo (ns.drop (j + 1)) s7) := Lib.hid (by rw [hPZ7.out, if_neg (by decide)])
        clear hPZ7
        go_wp2
        go_roundg g
        case measure => omega
        case rel => exact ⟨j + 1, s7, F7, by have := HG.out; omega, by go_num, hPZ8, f7, b7, HT7, HM7, HV7, HZP7⟩
      · have z : (e7 != 0) = true := by simpa using he
        have hx : Hid (pGive kind first count s = (e7, s7)) := Lib.hid (by rw [HQ.out, hPZ7.out, if_pos z])
        clear he
        go_wp2
        go_ret
        exact ⟨e7, s7, hx, rfl, f7, b7.mono (by omega), F7, HT7.out, HM7.out⟩
    · obtain rfl : j = ns.length := by have := HG.out; omega
      obtain rfl : gk = 0 := by have := HG.out; omega
      have hfin : Hid (pGive kind first count s = (0, sx)) := Lib.hid (by rw [HQ.out, HPZ.out]; simp [pGiveGo])
      clear hj
      go_wp2
      go_ret
      exact ⟨0, sx, hfin, rfl, fx, bx.mono (by omega), Fx, HT.out, HM.out⟩
end Go.Proofs.Ytcgdpclhlepofaa
/- room.Given over the statement's own tx, by contract. -/
namespace Go.Proofs.Ytcgdpclhlepofaa
open Go.RowKit
set_option maxHeartbeats 4000000
set_option linter.unusedVariables false
set_option linter.unusedSimpArgs false

/-- what is told from a link on that was got -/
def gvn (k : Nat) (x e : Int) (l : List Int) (s : St) : List Int × Int × St :=
  if (e != 0) = true then ([], e, s) else if (x == 0) = true then (l, 0, s) else match k with
    | 0 => ([], 2, s)
    | k + 1 => givenGo k (IntKind.u64.wrap (x - 1)) (l ++ [IntKind.u64.wrap (x - 1)]) s
theorem givenGo_gvn {k : Nat} {a x e : Int} {l : List Int} {s s1 : St} (h : sget s a = (x, e, s1)) : givenGo k a l s = gvn k x e l s1 := by
  unfold gvn
  by_cases he : e = 0
  · subst he
    rw [if_neg (by decide)]
    by_cases hx : x = 0
    · subst hx
      cases k <;> (rw [givenGo]; simp only [h]; rfl)
    · have hx2 : ¬ (x == 0) = true := by simpa using hx
      have hx3 : ¬ (x != 0) = false := by simpa using hx
      cases k
      · rw [givenGo]; simp only [h]; rw [if_pos (by decide), if_neg hx3, if_neg hx2]
      · rw [givenGo]; simp only [h]; rw [if_pos (by decide), if_neg hx3, if_neg hx2]
  · have h1 : (e != 0) = true := by simpa using he
    have h2 : ¬ (e != 0) = false := by simpa using he
    cases k
    · rw [givenGo]; simp only [h]; rw [if_neg h2, if_pos h1]
    · rw [givenGo]; simp only [h]; rw [if_neg h2, if_pos h1]
set_option maxRecDepth 100000 in
theorem rgiven_b {t n : Nat} {F F0 : Nat → Prop} {s : St} {a z : Int} {w w0 : World} (hw : Txw w t F s) (hf : Fits s) (hb : Bud s (n + 65537)) (ha : 0 ≤ a) (z1 : 1 ≤ z) (z2 : z ≤ 16) (hm : Fr F0 w0 F w) :
    Calls Try.prog 25 #[.iface 26 (.pointer (some ⟨t, 0, none⟩)), .int .u64 a, .int .u64 z] w fun e w' =>
      ∃ v l er s', Hid (rGiven s a z = (l, er, s')) ∧ e = .returned (.tuple #[v, .int .i64 er]) ∧ LftV t n w.heap.size F0 w0 s' v l w' := by
  have hL : Hid (rGiven s a z = givenGo 65536 (uAdd (uAdd a 1) z) [] s) := Lib.hid (by unfold rGiven; rw [if_neg (by omega)])
  have hms := hm.size
  have HM := Lib.hid hm
  have HW := Lib.hid hw
  have hz0 : w.heap.size ≤ w.heap.size := Nat.le_refl _
  clear hm hw
  go_enter Try.func25, Try.ntmps25
  go_wp2
  go_step3
  go_wp2_with (go_at_call 45; refine (fits_ok _ _ z1 z2 _).mono ?_; rintro e w' ⟨rfl, rfl⟩)
  go_step3
  go_wp2
  generalize hBe : w.heap.size = B at *
  have HB := Lib.hid hBe
  clear hBe
  go_loopg [9, 10] 65536 (fun gk c9 c10 wr => ∃ (l : List Int) (A : Option Addr) (cp : Nat) (av : Int) (s2 : St) (F2 : Nat → Prop), gk + l.length = 65536 ∧ c9 = .slice A l.length cp ∧ c10 = .int .u64 av ∧ 0 ≤ av ∧ Hid (rGiven s a z = givenGo gk av l s2) ∧ Fits s2 ∧ Bud s2 (n + gk + 1) ∧ Hid (Txw wr t F2 s2) ∧ Hid (Fr F0 w0 F2 wr) ∧ Hid (Wl wr (.slice A l.length cp) l) ∧ Hid (∀ k, own (.slice A l.length cp) k → B ≤ k ∧ ¬ F2 k) ∧ B ≤ wr.heap.size)
  case atStart => exact ⟨[], none, 0, _, s, F, rfl, rfl, rfl, (uw_bd _).1, hL, hf, hb.mono (by omega), HW, HM, Lib.hid (Wl.nil _), Lib.hid (fun k hk => nomatch hk), (by have := HB.out; omega)⟩
  case round =>
    obtain ⟨l, A, cp, av, s2, F2, hgk, rfl, rfl, hav, hR, f2, b2, HW2, HM2, HV2, HO2, hz2⟩ := hrel
    have hll : (l.length : Int) ≤ 65536 := by omega
    have hgk' := Lib.hid hgk
    have b2 : Bud s2 ((n + gk) + 1) := b2
    clear HW HM hL hf hb hgk
    go_wp2_with fail
    refine (tget_b HW2.out f2 b2 hav (Fr.refl F2 _)).mono ?_
    rintro _ w3 ⟨x, e, s3, q3, dx, dx', rfl, f3, b3, F3, hT3, hm3⟩
    have hR3 : Hid (rGiven s a z = gvn gk x e l s3) := Lib.hid (by rw [hR.out, givenGo_gvn q3.out])
    have HV3 := Lib.hid (HV2.out.fr hm3 fun k hk => (HO2.out k hk).2)
    have HO3 : Hid (∀ k, own (.slice A l.length cp) k → B ≤ k ∧ ¬ F3 k) := Lib.hid fun k hk => ⟨(HO2.out k hk).1, fun h => (hm3.new k h).elim (HO2.out k hk).2 fun h2 => by have := HV2.out.lt k hk; omega⟩
    have HM3 := Lib.hid (HM2.out.trans hm3)
    have HT3 := Lib.hid hT3
    have hz3 := Nat.le_trans hz2 hm3.size
    have HL := Lib.hid (show LftV t n B F0 w0 s3 (.slice A l.length cp) l w3 from ⟨f3, b3.mono (by omega), HV3.out, fun k hk => (HO3.out k hk).1, F3, HT3.out, HM3.out, fun k hk => (HO3.out k hk).2⟩)
    have HN := Lib.hid (show LftV t n B F0 w0 s3 (.slice none 0 0) [] w3 from ⟨f3, b3.mono (by omega), Wl.nil _, (fun k hk => nomatch hk), F3, HT3.out, HM3.out, (fun k hk => nomatch hk)⟩)
    clear HW2 HM2 HV2 HO2 hm3 hT3 q3 hR f2 b2
    by_cases he : e = 0
    case neg =>
      have h1 : (e != 0) = true := by simpa using he
      have hq : Hid (rGiven s a z = ([], e, s3)) := Lib.hid (by rw [hR3.out]; unfold gvn; rw [if_pos h1])
      clear he hR3
      go_wp2
      rw [Exit.noGoto_ret]
      go_ret2
      exact ⟨_, [], e, s3, hq, rfl, by rw [HB.out]; exact HN.out⟩
    subst he
    by_cases hx : x = 0
    · have h1 : (x == 0) = true := by simpa using hx
      have hq : Hid (rGiven s a z = (l, 0, s3)) := Lib.hid (by rw [hR3.out]; unfold gvn; rw [if_neg (by decide), if_pos h1])
      clear hx hR3
      go_wp2
      rw [Exit.noGoto_ret]
      go_ret2
      exact ⟨_, l, 0, s3, hq, rfl, by rw [HB.out]; exact HL.out⟩
    have h1 : (x == 0) = false := by simpa using hx
    by_cases hl : l.length = 65536
    · obtain rfl : gk = 0 := by have := hgk'.out; omega
      have h2 : ((l.length : Int) == 65536) = true := by simp [hl]
      have hq : Hid (rGiven s a z = ([], 2, s3)) := Lib.hid (by rw [hR3.out]; unfold gvn; rw [if_neg (by decide), if_neg (by simpa using hx)])
      clear hx hl hR3
      go_wp2
      rw [Exit.noGoto_ret]
      go_ret2
      exact ⟨_, [], 2, s3, hq, rfl, by rw [HB.out]; exact HN.out⟩
    have h2 : ((l.length : Int) == 65536) = false := by simp; omega
    obtain ⟨m, rfl⟩ : ∃ m, gk = m + 1 := ⟨gk - 1, by have := hgk'.out; omega⟩
    have hR4 : Hid (rGiven s a z = givenGo m (IntKind.u64.wrap (x - 1)) (l ++ [IntKind.u64.wrap (x - 1)]) s3) := Lib.hid (by rw [hR3.out]; unfold gvn; rw [if_neg (by decide), if_neg (by simpa using hx)])
    have hxx := Lib.hid (show (l.length + 1) * 8 ≤ 140737488355328 by omega)
    clear hx hl hR3 HL HN
    go_wp2_with (at_builtin; refine wpList_word w3 rfl (.tmp 42) (.tmp 44) rfl (.slice A l.length cp) l (IntKind.u64.wrap (x - 1)) rfl HV3.out rfl hxx.out ?_; intro A4 c4 w4 hc4 hv4 hm4)
    have hnb : ∀ k, F3 k → ¬ own (.slice A l.length cp) k := fun k hk ho => (HO3.out k ho).2 hk
    have HW4 := Lib.hid (HT3.out.fr hm4 hnb)
    have ho4 : Hid (∀ k, own (.slice A4 (l.length + 1) c4) k → B ≤ k ∧ ¬ F3 k) := Lib.hid fun k hk => (hm4.new k hk).elim (fun h => HO3.out k h) fun h => ⟨by omega, fun h2 => by have := HT3.out.lt k h2; omega⟩
    have hM4 := Lib.hid (HM3.out.beside hm4 fun k hk => by have := (HO3.out k hk).1; have := HB.out; omega)
    have hz4 := Nat.le_trans hz3 hm4.size
    have HV4 := Lib.hid hv4
    clear HT3 HM3 HV3 HO3 hm4 hnb hv4
    go_roundg m
    case measure => omega
    case rel => exact ⟨l ++ [IntKind.u64.wrap (x - 1)], A4, c4, _, s3, F3, by have := hgk'.out; simp; omega, by simp, rfl, (uw_bd _).1, hR4, f3, b3, HW4, hM4, by simpa using HV4, by simpa using ho4, hz4⟩
end Go.Proofs.Ytcgdpclhlepofaa
/- A list laid; a key put in, by contract. -/
namespace Go.Proofs.Ytcgdpclhlepofaa
open Go.RowKit
set_option maxHeartbeats 4000000
set_option linter.unusedVariables false
set_option linter.unusedSimpArgs false

set_option maxRecDepth 100000 in
theorem new_b {t n : Nat} {F F0 : Nat → Prop} {s : St} {a : Int} {w w0 : World}
    (hw : Txw w t F s) (hf : Fits s) (hb : Bud s (n + 6)) (ha : 0 ≤ a) (hm : Fr F0 w0 F w) :
    Calls Try.prog 28 #[.iface 26 (.pointer (some ⟨t, 0, none⟩)), .int .u64 a] w fun en w' =>
      ∃ x e' s', Hid (lNew s a = (x, e', s')) ∧ 0 ≤ x ∧ x ≤ 18446744073709551615 ∧ en = .returned (.tuple #[.int .u64 x, .int .i64 e']) ∧ Lft t n F0 w0 s' w' := by
  have T1 := hw.alloc (.cells #[.iface 26 (.pointer (some ⟨t, 0, none⟩)), .int .i64 0] 81)
  have H1 : Hnd (w.alloc (.cells #[.iface 26 (.pointer (some ⟨t, 0, none⟩)), .int .i64 0] 81)) w.heap.size t 0 := Blk.new w _ _
  have n1 : ¬ F w.heap.size := fun c => by have := hw.lt _ c; omega
  have hM := Lib.hid (hm.alloc (.cells #[.iface 26 (.pointer (some ⟨t, 0, none⟩)), .int .i64 0] 81))
  have hs := hm.size
  have f1 := hf
  have b1 := hb
  have m1 := Fr.refl (fun k => F k ∨ k = w.heap.size) (w.alloc (.cells #[.iface 26 (.pointer (some ⟨t, 0, none⟩)), .int .i64 0] 81))
  clear hw hm hf hb
  go_enter Try.func28, Try.ntmps28
  go_wp2_with fail
  generalize w.alloc (.cells #[.iface 26 (.pointer (some ⟨t, 0, none⟩)), .int .i64 0] 81) = w1 at *
  generalize w.heap.size = h at *
  refine (htake_b (n := n + 2) T1 H1 n1 f1 (b1.mono (by omega)) (by first | assumption | omega | exact (uw_bd _).1) (by omega) m1).mono ?_; rintro _ w2 ⟨x2, e2, s2, q2, dx2, dy2, rfl, f2, b2, F2, T2, H2, n2, m2⟩; clear T1 H1 n1 f1 b1 m1
  go_wp2_with fail
  refine (hput_b (n := n + 1) T2 H2 n2 f2 (b2.mono (by omega)) (by first | assumption | omega | exact (uw_bd _).1) (by first | assumption | omega | exact (uw_bd _).1) (by first | assumption | omega | exact (uw_bd _).2) m2).mono ?_; rintro _ w3 ⟨e3, s3, q3, rfl, f3, b3, F3, T3, H3, n3, m3⟩; clear T2 H2 n2 f2 b2 m2
  go_wp2_with fail
  refine (hput_b (n := n) T3 H3 n3 f3 (b3.mono (by omega)) (by first | assumption | omega | exact (uw_bd _).1) (by first | assumption | omega | exact (uw_bd _).1) (by first | assumption | omega | exact (uw_bd _).2) m3).mono ?_; rintro _ w4 ⟨e4, s4, q4, rfl, f4, b4, F4, T4, H4, n4, m4⟩; clear T3 H3 n3 f3 b3 m3
  obtain ⟨-, d1, -⟩ := H4.cells
  have hL := Lib.hid (LftH.drop (show LftH t h n _ _ s4 e4 w4 from ⟨f4, b4, F4, T4, H4, n4, m4⟩) hM.out hs)
  have hq : Hid (lNew s a = if e4 ≠ 0 then (0, e4, s4) else (x2, 0, s4)) := Lib.hid (by unfold lNew; rw [q2.out]; simp only; rw [q3.out]; simp only; rw [show uAdd x2 1 = IntKind.u64.wrap (x2 + 1) from rfl, q4.out])
  clear T4 H4 n4 m4 f4 b4 q2 q3 q4 hM
  by_cases he : e4 = 0
  · subst he
    have hq : Hid (lNew s a = (x2, 0, s4)) := Lib.hid (by rw [hq.out]; simp)
    go_wp2_with fail
    go_ret2
    exact ⟨x2, 0, s4, hq, dx2, dy2, rfl, hL.out⟩
  · have z : (e4 != 0) = true := by simpa using he
    have hq : Hid (lNew s a = (0, e4, s4)) := Lib.hid (by rw [hq.out, if_pos he])
    clear he
    go_wp2_with fail
    go_quiet (fail)
    go_wp2
    go_ret2
    exact ⟨0, e4, s4, hq, by omega, by omega, rfl, hL.out.drewN _⟩

set_option maxRecDepth 100000 in
theorem insert_b {t n N : Nat} {F F0 : Nat → Prop} {s s1 : St} {e1 a l key : Int} {w w0 : World} {p' : Pl} {ks' : List Int}
    (hw : Txw w t F s) (hf : Fits s) (hb : Bud s (n + 9 + 2 * N + 1)) (hN : N ≤ 60000) (ha : 0 ≤ a) (hl : 0 ≤ l) (hl' : l ≤ 18446744073709551615) (hk : 0 ≤ key) (hk' : key ≤ 18446744073709551615) (hR : hfind (fun x => decide (x < key)) N s 0 l = some (p', ks', e1, s1)) (hm : Fr F0 w0 F w) :
    Calls Try.prog 29 #[.iface 26 (.pointer (some ⟨t, 0, none⟩)), .int .u64 a, .int .u64 l, .int .u64 key] w fun en w' =>
      en = .returned (.tuple #[.bool (lInsR p' e1 s1 a l key).1, .int .i64 (lInsR p' e1 s1 a l key).2.1]) ∧ Lft t n F0 w0 (lInsR p' e1 s1 a l key).2.2 w' := by
  have T1 := hw.alloc (.cells #[.iface 26 (.pointer (some ⟨t, 0, none⟩)), .int .i64 0] 81)
  have H1 : Hnd (w.alloc (.cells #[.iface 26 (.pointer (some ⟨t, 0, none⟩)), .int .i64 0] 81)) w.heap.size t 0 := Blk.new w _ _
  have n1 : ¬ F w.heap.size := fun c => by have := hw.lt _ c; omega
  have hM := Lib.hid (hm.alloc (.cells #[.iface 26 (.pointer (some ⟨t, 0, none⟩)), .int .i64 0] 81))
  have hs := hm.size
  clear hw hm
  go_enter Try.func29, Try.ntmps29
  go_wp2_with fail
  generalize w.alloc (.cells #[.iface 26 (.pointer (some ⟨t, 0, none⟩)), .int .i64 0] 81) = w1 at *
  generalize w.heap.size = h at *
  refine (at_b (n := n + 9) T1 H1 n1 hf hb hN hl hl' hR (Fr.refl _ _)).mono ?_
  rintro _ w6 ⟨rfl, hBd, hL⟩
  have hP := Blk.new w6 84 (plc p')
  obtain ⟨f2, b2, F2, T20, H20, n2, m20⟩ := hL
  have hpn : ¬ (F2 w6.heap.size ∨ w6.heap.size = h) := fun c => c.elim (fun c => by have := T20.lt _ c; omega) fun c => by have := Blk.lt H20; omega
  have T2 := T20.alloc (.cells (plc p') 84)
  have H2 : Hnd (w6.alloc (.cells (plc p') 84)) h t e1 := Blk.alloc H20 _
  have mA := Lib.hid (m20.alloc (.cells (plc p') 84))
  have m2 := Fr.refl (fun k => F2 k ∨ k = h) (w6.alloc (.cells (plc p') 84))
  clear T1 H1 n1 hf hb hR T20 H20 m20
  simp only [plc] at hP T2 H2 m2 mA ⊢
  obtain ⟨-, d1, -⟩ := H2.cells
  have hBd := Lib.hid hBd
  obtain ⟨B1, B2, B3, B4, -⟩ := hBd.out
  have hL1 := Lib.hid (LftH.drop (show LftH t h n _ _ s1 e1 _ from ⟨f2, b2.mono (by omega), F2, T2, H2, n2, mA.out⟩) hM.out hs)
  have hcs : Hid ((e1 != 0) = true ∨ ((e1 != 0) = false ∧ there p' key e1 = true) ∨ ((e1 != 0) = false ∧ there p' key e1 = false)) := Lib.hid (by cases (e1 != 0) <;> cases there p' key e1 <;> simp)
  rcases hcs.out with g1 | ⟨g1, g2⟩ | ⟨g1, g2⟩
  · have hq : Hid (lInsR p' e1 s1 a l key = (false, e1, s1)) := Lib.hid (if_pos (.inl (by simpa using g1)))
    clear hcs T2 H2 m2 mA hM f2 b2 n2
    go_wp2_with fail
    go_quiet (fail)
    go_wp2
    go_ret2
    rw [hq.out]
    exact ⟨rfl, hL1.out.drewN _⟩
  · have hq : Hid (lInsR p' e1 s1 a l key = (false, e1, s1)) := Lib.hid (if_pos (.inr g2))
    clear hcs T2 H2 m2 mA hM f2 b2 n2
    rw [g2]
    go_wp2_with fail
    go_quiet (fail)
    go_wp2
    go_ret2
    rw [hq.out]
    exact ⟨rfl, hL1.out.drewN _⟩
  · have hq : Hid (lInsR p' e1 s1 a l key = lIns p' e1 s1 a l key) := Lib.hid (if_neg (by rw [g2]; simpa using g1))
    clear hcs hL1
    have f2 := f2
    go_wp2_with fail
    generalize w6.alloc (.cells #[.int .u64 p'.from_, .int .u64 p'.next, .int .u64 p'.key, .int .u64 p'.ahead] 84) = w7 at *
    generalize w6.heap.size = pb at *
    refine (htake_b (n := n + 5) T2 H2 n2 f2 (b2.mono (by omega)) (by first | assumption | omega | exact (uw_bd _).1) (by omega) m2).mono ?_; rintro _ w3 ⟨x3, e3, s3, q3, dx3, dy3, rfl, f3, b3, F3, T3, H3, n3, m3⟩; clear T2 H2 n2 f2 b2 m2
    go_wp2_with fail
    refine (hget_b (n := n + 4) T3 H3 n3 f3 (b3.mono (by omega)) (by first | assumption | omega | exact (uw_bd _).1) m3).mono ?_; rintro _ w4 ⟨x4, e4, s4, q4, dx4, dy4, rfl, f4, b4, F4, T4, H4, n4, m4⟩; clear T3 H3 n3 f3 b3 m3
    go_wp2_with fail
    refine (hput_b (n := n + 3) T4 H4 n4 f4 (b4.mono (by omega)) (by first | assumption | omega | exact (uw_bd _).1) (by first | assumption | omega | exact (uw_bd _).1) (by first | assumption | omega | exact (uw_bd _).2) m4).mono ?_; rintro _ w5 ⟨e5, s5, q5, rfl, f5, b5, F5, T5, H5, n5, m5⟩; clear T4 H4 n4 f4 b4 m4
    have P5 := (m5.blk hP hpn).cell 1
    simp only [List.getElem?_toArray, List.getElem?_cons_zero, List.getElem?_cons_succ] at P5
    go_wp2_with fail
    refine (hput_b (n := n + 2) T5 H5 n5 f5 (b5.mono (by omega)) (by first | assumption | omega | exact (uw_bd _).1) (by first | assumption | omega | exact (uw_bd _).1) (by first | assumption | omega | exact (uw_bd _).2) m5).mono ?_; rintro _ w6 ⟨e6, s6, q6, rfl, f6, b6, F6, T6, H6, n6, m6⟩; clear T5 H5 n5 f5 b5 m5
    have P6 := (m6.blk hP hpn).cell 0
    simp only [List.getElem?_toArray, List.getElem?_cons_zero, List.getElem?_cons_succ] at P6
    go_wp2_with fail
    refine (hput_b (n := n + 1) T6 H6 n6 f6 (b6.mono (by omega)) (by first | assumption | omega | exact (uw_bd _).1) (by first | assumption | omega | exact (uw_bd _).1) (by first | assumption | omega | exact (uw_bd _).2) m6).mono ?_; rintro _ w7 ⟨e7, s7, q7, rfl, f7, b7, F7, T7, H7, n7, m7⟩; clear T6 H6 n6 f6 b6 m6
    go_wp2_with fail
    refine (hput_b (n := n) T7 H7 n7 f7 (b7.mono (by omega)) (by first | assumption | omega | exact (uw_bd _).1) (by first | assumption | omega | exact (uw_bd _).1) (by first | assumption | omega | exact (uw_bd _).2) m7).mono ?_; rintro _ w8 ⟨e8, s8, q8, rfl, f8, b8, F8, T8, H8, n8, m8⟩; clear T7 H7 n7 f7 b7 m7
    obtain ⟨-, d8, -⟩ := H8.cells
    have hL := Lib.hid (LftH.drop (show LftH t h n _ _ s8 e8 w8 from ⟨f8, b8, F8, T8, H8, n8, mA.out.trans m8⟩) hM.out hs)
    have hq := Lib.hid (hq.out.trans (show lIns p' e1 s1 a l key = (e8 == 0, e8, s8) by
      unfold lIns
      rw [q3.out]; simp only
      rw [q4.out]; simp only
      rw [q5.out]; simp only
      rw [show uAdd x3 1 = IntKind.u64.wrap (x3 + 1) from rfl, q6.out]; simp only
      rw [q7.out]; simp only
      rw [show uAdd x4 1 = IntKind.u64.wrap (x4 + 1) from rfl, q8.out]))
    clear T8 H8 m8 mA hM f8 b8 n8 q3 q4 q5 q6 q7 q8 P5 P6 hP
    go_wp2_with fail
    go_quiet (fail)
    go_wp2
    go_ret2
    rw [hq.out]
    exact ⟨rfl, hL.out.drewN _⟩
end Go.Proofs.Ytcgdpclhlepofaa
/- Arguments opened: slices of whole numbers, slices of structs of whole numbers. -/
namespace Go.Proofs.Ytcgdpclhlepofaa
open Go.ChangeShapes Go.WideShapes Go.ChangeAt Go.RowKit Go.Deep

section
variable {H : Type} {enc : TypeId × Value → H} {P : Program} {w : World} {base : Nat} {spare : Nat → Bool} {held : Bool}
/-- A slice of structs of one-cell fields: each field's cell and reading. -/
theorem open_slice_fields {t e : TypeId} {fs : Array Field} {fuel : Nat} {cs : List Value} {x : DataW H × List MemPlace} (ht : P.underlying t = some (.slice e)) (he : P.underlying e = some (.struct fs))
    (hone : oneCellFields P fs = true) (hC : P.cellsOf e = fs.size) (h : DataW.trod enc P w base spare held fuel t cs = some x) :
    (cs = [.slice none 0 0] ∧ x = (.nil, [])) ∨
    ∃ (a : Addr) (len cap m : Nat) (D : Nat → DataW H) (Pl : Nat → List MemPlace), cs = [.slice (some a) len cap] ∧ base ≤ a.block ∧ len ≤ cap ∧ cap ≤ maxLen ∧ m = (if spare a.block then cap else len) ∧
      x = (.slice ((List.range len).map D) ((List.range (m - len)).map fun j => D (len + j)), MemPlace.row a (m * fs.size) ++ (List.range m).flatMap Pl) ∧
      ∀ i, i < m → ∃ (ys : List (DataW H × List MemPlace)) (n : Nat), D i = .agg (ys.map (·.1)) ∧ Pl i = ys.flatMap (·.2) ∧ ys.length = fs.size ∧
        ∀ (j : Nat) (f : Field), fs[j]? = some f → ∃ (v : Value) (y : DataW H × List MemPlace), w.cell? (a.add (i * fs.size + j)) = some v ∧ ys[j]? = some y ∧ DataW.trod enc P w base spare held n f.type [v] = some y := by
  rcases open_slice ht h with h0 | ⟨a, len, cap, m, n, D, Pl, hcs, hb, hl, hm, hmm, hx, hi⟩
  · exact .inl h0
  · refine .inr ⟨a, len, cap, m, D, Pl, hcs, hb, hl, hm, hmm, by rw [hC] at hx; exact hx, fun i him => ?_⟩
    obtain ⟨cs', hc, ht'⟩ := hi i him
    rw [hC] at hc
    obtain ⟨ys, n', hn', hy, hlen, hyl, hf⟩ := DataW.trod_struct he ht'
    obtain ⟨_, hcl, hat⟩ := World.cells?_some hc
    simp only [Prod.mk.injEq] at hy
    refine ⟨ys, n', hy.1, hy.2, hyl, fun j f hj => ?_⟩
    obtain ⟨ho, hk⟩ := hone_of hone j f hj
    have hjl : j < fs.size := (Array.getElem?_eq_some_iff.1 hj).1
    have hcell := hat j hjl
    have hv : cs'[j]? = some (cs'[j]'(by omega)) := List.getElem?_eq_getElem (by omega)
    have h1 := hf j f hj
    rw [ho, hk] at h1
    have hone' : (cs'.drop j).take 1 = [cs'[j]'(by omega)] := by
      rw [List.drop_eq_getElem_cons (by omega)]
      rfl
    rw [hone'] at h1
    have hys : ys[j]? = some (ys[j]'(by omega)) := List.getElem?_eq_getElem (by omega)
    refine ⟨_, _, ?_, hys, h1.trans hys⟩
    rw [← Go.Deep.add_add, hcell, hv]

theorem addr_block {a : Addr} {n : Nat} : (a.add n).block = a.block := by unfold Addr.add; split <;> rfl
theorem addr_flat {a : Addr} {i j : Nat} (hj : j ≠ 0) : a.add (i + j) = ⟨(a.add i).block, (a.add i).off + j, none⟩ := by
  unfold Addr.add
  rw [if_neg (by omega)]
  split
  · rename_i h; subst h; simp
  · simp [Nat.add_assoc]
theorem spotless {a : Addr} {n : Nat} {v : Value} (h : w.cell? (a.add n) = some v) : a.add n = ⟨a.block, a.off + n, none⟩ := by
  unfold Addr.add at *
  split
  · rename_i hn
    subst hn
    simp only [if_true] at h
    unfold World.cell? at h
    cases a with
    | mk b o s =>
      cases s with
      | none => rfl
      | some s =>
        simp only [Option.isSome_some, if_true] at h
        split at h <;> cases h
  · rfl

/-- A slice of words that came in. -/
structure WordsIn (w : World) (A : Option Addr) (l : List Int) (c : Nat) : Prop where
  nil : A = none → l = [] ∧ c = 0
  cell : ∀ ad, A = some ad → ∀ j, j < l.length → w.cell? (ad.add j) = some (.int .u64 (l.getD j 0))
  bd : ∀ x ∈ l, 0 ≤ x ∧ x ≤ 18446744073709551615
  len : l.length * 8 ≤ 140737488351232
  cap : l.length ≤ c

/-- A slice of structs of whole numbers that came in. -/
structure RowsIn (w : World) (A : Option Addr) (n c : Nat) (ks : List IntKind) : Prop where
  nil : A = none → n = 0 ∧ c = 0
  cell : ∀ ad, A = some ad → ∀ i, i < n → ∀ j k, ks[j]? = some k → ∃ z, w.cell? (ad.add (i * ks.length + j)) = some (.int k z) ∧ (Lit.int k z).wf = true
  len : n * (8 * ks.length) ≤ 140737488351232

theorem open_words {ts : List TypeId} {ds : List (DataW H)} {j : Nat} {t e : TypeId} {A : Option Addr} {len cap : Nat} {d : DataW H} {p : List MemPlace} (hsz : (DataW.weightsEach P ts ds).all (· ≤ reachBytes) = true) (hj : ts[j]? = some t) (hd : ds[j]? = some d)
    (ht : P.underlying t = some (.slice e)) (he : P.underlying e = some (.int .u64)) (hc : P.cellsOf e = 1) (hb : P.bytesOf e = 8) (h : DataW.Trod enc P w base spare held t (.slice A len cap) d p) : ∃ l, l.length = len ∧ WordsIn w A l cap := by
  obtain ⟨fuel, hf⟩ := h
  rcases open_ints ht he hc hf with ⟨hcs, hx⟩ | ⟨x, l, c, zs, hcs, _, hl, hm, hz, hx, hcell, hwz⟩
  · simp [Value.cells] at hcs
    obtain ⟨rfl, rfl, rfl⟩ := hcs
    exact ⟨[], rfl, fun _ => ⟨rfl, rfl⟩, (fun ad h => nomatch h), by simp, by simp, by simp⟩
  · simp [Value.cells] at hcs
    obtain ⟨rfl, rfl, rfl⟩ := hcs
    have hlz : len ≤ zs.length := by rw [hz]; split <;> omega
    simp only [Prod.mk.injEq] at hx
    have := sized_slice hsz hj (hd.trans (by rw [hx.1])) ht
    rw [hb] at this
    simp only [lits, List.length_map, List.length_take, List.length_drop, reachBytes] at this
    refine ⟨zs.take len, by simp; omega, (fun h => nomatch h), fun ad h i hi => ?_, fun z hz => ?_, by simp; omega, by simp; omega⟩
    · injection h with h
      subst h
      simp only [List.length_take] at hi
      rw [hcell i (by omega)]
      simp [List.getD_eq_getElem?_getD, show i < len by omega]
    · have := hwz z (List.mem_of_mem_take hz)
      simp [Lit.wf, IntKind.min, IntKind.max, IntKind.signed, IntKind.bits] at this
      omega

theorem open_rows {ts : List TypeId} {ds : List (DataW H)} {j : Nat} {t e : TypeId} {A : Option Addr} {len cap : Nat} {d : DataW H} {p : List MemPlace} (hsz : (DataW.weightsEach P ts ds).all (· ≤ reachBytes) = true) (hj : ts[j]? = some t) (hd : ds[j]? = some d)
    {fs : Array Field} {ks : List IntKind} (ht : P.underlying t = some (.slice e)) (he : P.underlying e = some (.struct fs)) (hone : oneCellFields P fs = true) (hC : P.cellsOf e = fs.size) (hb : 8 * ks.length ≤ P.bytesOf e) (hn : ks.length = fs.size) (hk : (fs.toList.map fun f => P.underlying f.type) = ks.map fun k => some (.int k))
    (h : DataW.Trod enc P w base spare held t (.slice A len cap) d p) : RowsIn w A len cap ks := by
  obtain ⟨fuel, hf⟩ := h
  rcases open_slice_fields ht he hone hC hf with ⟨hcs, hx⟩ | ⟨a, l, c, m, D, Pl, hcs, _, hl, hm, hmm, hx, hel⟩
  · simp [Value.cells] at hcs
    obtain ⟨rfl, rfl, rfl⟩ := hcs
    exact ⟨fun _ => ⟨rfl, rfl⟩, (fun ad h => nomatch h), by simp⟩
  · simp [Value.cells] at hcs
    obtain ⟨rfl, rfl, rfl⟩ := hcs
    have hlm : len ≤ m := by rw [hmm]; split <;> omega
    simp only [Prod.mk.injEq] at hx
    have := sized_slice hsz hj (hd.trans (by rw [hx.1])) ht
    simp only [List.length_map, List.length_range, reachBytes] at this
    have h8 : (len + (m - len)) * (8 * ks.length) ≤ (len + (m - len)) * P.bytesOf e := Nat.mul_le_mul_left _ hb
    have h9 : len * (8 * ks.length) ≤ (len + (m - len)) * (8 * ks.length) := Nat.mul_le_mul_right _ (by omega)
    refine ⟨(fun h => nomatch h), fun ad h i hi j' k hjk => ?_, by omega⟩
    injection h with h
    subst h
    obtain ⟨ys, n, _, _, _, hfl⟩ := hel i (by omega)
    have hjl : j' < ks.length := (List.getElem?_eq_some_iff.1 hjk).1
    have hjf : j' < fs.size := by omega
    obtain ⟨v, y, hcell, _, ht'⟩ := hfl j' fs[j'] (Array.getElem?_eq_getElem hjf)
    have e1 : ((fs.toList.map fun f => P.underlying f.type))[j']? = some (P.underlying fs[j'].type) := by simp [hjf]
    rw [hk, List.getElem?_map, hjk] at e1
    simp only [Option.map_some, Option.some.injEq] at e1
    obtain ⟨z, hz, _, hw⟩ := DataW.trod_int e1.symm ht'
    injection hz with hz
    subst hz
    exact ⟨z, by rw [hn]; exact hcell, hw⟩
end
end Go.Proofs.Ytcgdpclhlepofaa
/- Arguments that read as lists of words. -/
namespace Go.Proofs.Ytcgdpclhlepofaa
open Go.RowKit
theorem WordsIn.lies {w : World} {A : Option Addr} {l : List Int} {c : Nat} (h : WordsIn w A l c) : Lies w (.slice A l.length c) l := by
  refine ⟨A, c, rfl, h.cap, fun e => (h.nil e).2, fun j hj => ?_⟩
  cases A with
  | none => have := (h.nil rfl).1; subst this; simp at hj
  | some ad =>
    have h0 := h.cell ad rfl 0 (by omega)
    have hj' := h.cell ad rfl j hj
    have e0 := spotless h0
    have e1 : ad = ⟨ad.block, ad.off, none⟩ := by
      have : ad.add 0 = ad := by unfold Addr.add; rw [if_pos rfl]
      rw [this] at e0
      simpa using e0
    refine ⟨ad.block, ad.off, by rw [← e1], ?_⟩
    rw [e1, Addr.add_lit] at hj'
    exact hj'
end Go.Proofs.Ytcgdpclhlepofaa
