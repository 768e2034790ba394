/- A redo log: Back of what is there, by contract. -/
import Derived.Deep.LoopGhost
import Derived.Test.YtfhpnlaabgkpjaaDoorPLg12
import Derived.Test.YtfhpnlaabgkpjaaDoorPLg16
import Derived.Test.YtfhpnlaabgkpjaaDoorPLg17
namespace Go.Proofs.YtfhpnlaabgkpjaaDoor
open Go.RowKit Go.Shelf
set_option maxHeartbeats 8000000
set_option linter.unusedVariables false
set_option linter.unusedSimpArgs false

section
variable {w w' : World} {r most : Nat} {F G G' : Nat → Prop} {o L : List (Int × Int)} {p : List (Int × Int × Bool)} {vl vp : Value} {t : Nat} {T : Tbl Int}
set_option maxRecDepth 100000 in
theorem wback_yes {n : Nat} (hT : Tab w) (h : RoW w r F most (redo L) (pasts L)) (h1F : ¬ F 1) (hl : (redo L).length ≤ 1048576) (hL : L.length ≤ 4611686018427387904) (hn : n ≤ L.length) :
    Calls Tryd.prog 20 #[.pointer (some ⟨r, 0, none⟩), .int .i64 (n : Int)] w fun e w' => e = .returned (.int .i64 0) ∧ ∃ F', RoW w' r F' most (redo (L.take n)) (pasts (L.take n)) ∧ Fr F w F' w' := by
  obtain ⟨vl, vp, t, G0, T0, rfl, h, hix, hk⟩ := h
  have hmx : Tryd.prog.follows .mixedOrders = true := by kernel_rfl
  obtain ⟨A, cp, rfl, hcp⟩ := Sl.shape h.ol
  obtain ⟨Ap, cpp, rfl, hcpp⟩ := Sl.shape h.pw
  rw [pasts_len] at hcpp
  have c0 : w.cell? ⟨r, 0, none⟩ = some (.bool true) := h.blk.cell 0
  have c2 : w.cell? ⟨r, 2, none⟩ = some (.slice A (redo L).length cp) := h.blk.cell 2
  have c4 : w.cell? ⟨r, 4, none⟩ = some (.slice Ap L.length cpp) := by have := h.blk.cell 4; rw [pasts_len] at this; exact this
  have hF0 : Hid (RoF r (.slice A (redo L).length cp) (.slice Ap (pasts L).length cpp) G0 r) := Lib.hid (.inl rfl)
  have C := Lib.hid (wnone_b c0)
  have H := Lib.hid h
  have hnl : (n : Int) ≤ (L.length : Int) := by omega
  have hLi : (L.length : Int) ≤ 4611686018427387904 := by omega
  have hz1 : decide (n > L.length) = false := decide_eq_false (by omega)
  have hoi : ((redo L).length : Int) ≤ 1048576 := by omega
  have ho1 := Lib.hid (show 0 + (redo L).length ≤ 9223372036854775807 by omega)
  have ho2 := Lib.hid (show (0 + (redo L).length) * 16 ≤ 140737488355328 by omega)
  replace hix := Lib.hid hix
  replace hk := Lib.hid hk
  have hT1 := Lib.hid hT.lt
  replace hT := Lib.hid hT
  have hcm : Hid (cpp ≤ maxLen) := Lib.hid (by
    rcases h.pw.2 with ⟨e, _⟩ | ⟨_, _, _, _, e, _, _, _, h, _⟩
    · injection e with _ _ e; unfold maxLen; omega
    · injection e with _ _ e; omega)
  clear h c0 hcp
  go_enter Tryd.func20, Tryd.ntmps20
  go_wp2_with fail
  refine C.out.mono ?_
  rintro _ u ⟨rfl, rfl⟩
  go_wp2_with (at_builtin; refine wpList_cells w rfl (.const (.slice none 0 0)) (.tmp 25) rfl (.slice none 0 0) (.slice A (redo L).length cp) [] (redo L) rfl (Sl.nil _) rfl H.out.ol ho1.out ho2.out ?_; intro A3 cp3 w3 hc3 hv3 hm3; have V3 := Lib.hid hv3; have M3 := Lib.hid hm3; clear hv3 hm3)
  have e0 : ([] : List (Int × Int)).length + (redo L).length = (redo L).length := Nat.zero_add _
  rw [e0, List.nil_append] at V3
  rw [e0] at M3
  have m3 : Hid (Fr (fun _ => False) w (own (.slice A3 (redo L).length cp3)) w3) := Lib.hid (M3.out.wide fun k hk => (own_nil' _ _ _ hk).elim)
  have K0 : Hid (BkS w w3 (RoF r (.slice A (redo L).length cp) (.slice Ap (pasts L).length cpp) G0) r most t (redo L) (.slice A (redo L).length cp) Ap cpp L A3 cp3 (redo L) G0 T0) := Lib.hid (by
    have ro := H.out.new_ m3.out
    rw [pasts_len] at ro
    refine ⟨ro, rfl, hix.out, hk.out, V3.out, fun b hb => ?_, ?_, hT.out.frs m3.out fun h => h⟩
    · have h2 := (m3.out.new b hb).elim (fun h => h.elim) id
      refine ⟨h2, fun hb2 => ?_⟩
      have := H.out.lt b (by rw [pasts_len]; exact hb2)
      omega
    · refine ((Fr.refl _ w).beside m3.out fun _ h => h.elim).into fun k hk => ?_
      rcases hk with hk | hk
      · exact .inl (by rw [pasts_len]; exact hk)
      · exact .inr (.inr ((m3.out.new k hk).elim (fun h => h.elim) id)))
  clear V3 M3 m3 H hix hk hT c2 c4 C
  go_loopg [5] (L.length - n) (fun gk c5 wr => ∃ (Lj : List (Int × Int)) (A5 : Option Addr) (cp5 : Nat) (o5 : List (Int × Int)) (G : Nat → Prop) (T : Tbl Int), Lj.length = n + gk ∧ Lj.length ≤ L.length ∧ Hid (Lj = L.take Lj.length) ∧ c5 = .slice A5 o5.length cp5 ∧ Hid (BkS w wr (RoF r (.slice A (redo L).length cp) (.slice Ap (pasts L).length cpp) G0) r most t (redo L) (.slice A (redo L).length cp) Ap cpp Lj A5 cp5 o5 G T))
  case atStart => exact ⟨L, A3, cp3, redo L, G0, T0, by omega, by omega, Lib.hid (by rw [List.take_length]), rfl, K0⟩
  case round =>
    clear K0
    obtain ⟨Lj, A5, cp5, o5, G, T, hgl, hLl, hLj, rfl, HK⟩ := hrel
    have c4 : wr.cell? ⟨r, 4, none⟩ = some (.slice Ap Lj.length cpp) := HK.out.ro.blk.cell 4
    rcases Nat.eq_zero_or_pos gk with hg0 | hgp
    · obtain rfl : gk = 0 := hg0
      have hln : Lj.length = n := by omega
      have c2 : wr.cell? ⟨r, 2, none⟩ = some (.slice A (redo L).length cp) := HK.out.ro.blk.cell 2
      have z2 := HK.out.ro.blk.frozen 2
      have hd : decide (n < Lj.length) = false := decide_eq_false (by omega)
      have hd2 : decide ((Lj.length : Int) > (n : Int)) = false := decide_eq_false (by omega)
      have hfin : Hid (Lj = L.take n) := Lib.hid (by rw [← hln]; exact hLj.out)
      clear hgl hLj hln
      go_wp2
      go_ret
      have ha := HK.out.ro.entsAt HK.out.cl
      refine ⟨rfl, _, ⟨.slice A5 o5.length cp5, .slice Ap Lj.length cpp, t, G, T, rfl, ?_, ?_, HK.out.k⟩, (HK.out.fr.set (p := ⟨r, 2, none⟩) (.inr (.inl hF0.out)) _).into ?_⟩
      · rw [← hfin.out, ← HK.out.o]; exact ha
      · rw [← hfin.out, ← HK.out.o]; exact HK.out.ix
      · rintro k (hk | hk | hk | hk)
        · exact .inl (.inl (.inl hk))
        · exact .inl (.inr hk)
        · exact .inl (.inl (.inr (.inr (.inl hk))))
        · exact .inl (.inl (.inr (.inr (.inr hk))))
    · obtain ⟨g, rfl⟩ : ∃ g, gk = g + 1 := ⟨gk - 1, by omega⟩
      obtain ⟨L', c, rfl⟩ : ∃ L' c, Lj = L' ++ [c] := ⟨Lj.dropLast, Lj.getLast (by intro e; rw [e] at hgl; simp at hgl), (List.dropLast_concat_getLast _).symm⟩
      have hj0 : (L' ++ [c]).length = L'.length + 1 := by simp
      have hpl : L'.length < (pasts (L' ++ [c])).length := by rw [pasts_len, hj0]; omega
      have hpw : Hid ((pasts (L' ++ [c]))[L'.length]'hpl = wasOf (redo L') c) := Lib.hid (by simp only [pasts_snoc]; rw [List.getElem_append_right (by rw [pasts_len]; exact Nat.le_refl _)]; simp [pasts_len])
      obtain ⟨gp, offp, rfl, _, hcw⟩ := Sl.cell encWas_len (by decide) HK.out.ro.pw hpl
      obtain ⟨wt, hwt⟩ : ∃ u, Hid ((wasOf (redo L') c).1 = u) := ⟨_, Lib.hid rfl⟩
      obtain ⟨wx, hwx⟩ : ∃ u, Hid ((wasOf (redo L') c).2.1 = u) := ⟨_, Lib.hid rfl⟩
      obtain ⟨wf, hwf⟩ : ∃ u, Hid ((wasOf (redo L') c).2.2 = u) := ⟨_, Lib.hid rfl⟩
      have d0 : wr.cell? ⟨gp, offp + L'.length * 3, none⟩ = some (.int .i64 wt) := by
        have := (hcw _ hpl 0 (by decide)).1
        rw [hpw.out] at this
        rw [← hwt.out]
        simpa [encWas] using this
      have d1 : wr.cell? ⟨gp, offp + L'.length * 3 + 1, none⟩ = some (.int .u64 wx) := by
        have := (hcw _ hpl 1 (by decide)).1
        rw [hpw.out, ← Nat.add_assoc] at this
        rw [← hwx.out]
        simpa [encWas] using this
      have d2 : wr.cell? ⟨gp, offp + L'.length * 3 + 2, none⟩ = some (.bool wf) := by
        have := (hcw _ hpl 2 (by decide)).1
        rw [hpw.out, ← Nat.add_assoc] at this
        rw [← hwf.out]
        simpa [encWas] using this
      rw [hj0] at c4
      have hd : decide (n < L'.length + 1) = true := decide_eq_true (by omega)
      have hd2 : decide (((L'.length + 1 : Nat) : Int) > (n : Int)) = true := decide_eq_true (by omega)
      have hjl : (L'.length : Int) ≤ 4611686018427387904 := by omega
      have hw1 : IntKind.i64.wrap ((L'.length : Int) + 1 - 1) = (L'.length : Int) := by rw [IntWalk.i64_in _ (by omega)]; omega
      have hw2 : IntKind.i64.wrap (L'.length : Int) = (L'.length : Int) := by rw [IntWalk.i64_in _ (by omega)]
      have hjc : (L'.length : Int) ≤ (cpp : Int) := by omega
      have hjt : ((L'.length : Int) < (L'.length : Int) + 1) = True := eq_true (by omega)
      have hj00 : (0 : Int) ≤ (L'.length : Int) := by omega
      clear hcw
      go_wp2_with fail
      refine wp_region_mixH (fun W => W.cell? ⟨r, 4, none⟩ = some (.slice (some ⟨gp, offp, none⟩) (L'.length + 1) cpp) ∧ W.cell? ⟨gp, offp + L'.length * 3, none⟩ = some (.int .i64 wt) ∧ W.cell? ⟨gp, offp + L'.length * 3 + 1, none⟩ = some (.int .u64 wx) ∧ W.cell? ⟨gp, offp + L'.length * 3 + 2, none⟩ = some (.bool wf)) [3, 3, 3, 0, 3, 3, 3, 0, 3, 3, 3, 0, 2, 2] (List.range 14) (by kernel_rfl) (by kernel_rfl) (fun _ _ h => h) ⟨c4, d0, d1, d2⟩ ?_
      repeat (first | ((first | refine wpMixH_pure rfl rfl (fun K hK => ?_) | refine wpMixH_loc rfl rfl (fun K hK => ?_) | refine wpMixH_any rfl rfl (fun K hK => ?_)); go_simp; refine hK _ _ ?_; clear hK K) | (refine wpMixH_any rfl rfl (fun K hK => ?_); rw [if_pos (by go_simp)]; apply Exists.intro; refine And.intro (fun w2 hS2 => ?_) (hK _ _ ?_); (focus (obtain ⟨hs1, hs2, hs3, hs4⟩ := hS2; go_simp; rfl)); clear hK K))
      refine wpMixH_loud rfl rfl (fun m1 K hK => ?_)
      go_wp2_with fail
      refine hK _ _ (fun _ => ⟨cell_alloc_ c4, cell_alloc_ d0, cell_alloc_ d1, cell_alloc_ d2⟩) ?_; clear hK K
      repeat (first | ((first | refine wpMixH_pure rfl rfl (fun K hK => ?_) | refine wpMixH_loc rfl rfl (fun K hK => ?_) | refine wpMixH_any rfl rfl (fun K hK => ?_)); go_simp; refine hK _ _ ?_; clear hK K) | (refine wpMixH_any rfl rfl (fun K hK => ?_); rw [if_pos (by go_simp)]; apply Exists.intro; refine And.intro (fun w2 hS2 => ?_) (hK _ _ ?_); (focus (obtain ⟨hs1, hs2, hs3, hs4⟩ := hS2; go_simp; rfl)); clear hK K))
      refine wpMixH_loud rfl rfl (fun m2 K hK => ?_)
      have nb : Blk (((wr.drewN (1 + m1)).alloc (.cells #[.int .i64 0, .int .u64 0, .bool false] 87)).drewN m2) wr.heap.size 87 #[.int .i64 0, .int .u64 0, .bool false] := (Blk.new (wr.drewN (1 + m1)) 87 #[.int .i64 0, .int .u64 0, .bool false]).drewN m2
      have k0 : (((wr.drewN (1 + m1)).alloc (.cells #[.int .i64 0, .int .u64 0, .bool false] 87)).drewN m2).cell? ⟨wr.heap.size, 0, none⟩ = some (.int .i64 0) := nb.cell 0
      have k1 : (((wr.drewN (1 + m1)).alloc (.cells #[.int .i64 0, .int .u64 0, .bool false] 87)).drewN m2).cell? ⟨wr.heap.size, 1, none⟩ = some (.int .u64 0) := nb.cell 1
      have k2 : (((wr.drewN (1 + m1)).alloc (.cells #[.int .i64 0, .int .u64 0, .bool false] 87)).drewN m2).cell? ⟨wr.heap.size, 2, none⟩ = some (.bool false) := nb.cell 2
      have y0 := nb.frozen 0
      have y1 := nb.frozen 1
      have y2 := nb.frozen 2
      go_wp2_with fail
      refine hK _ _ (fun h => (Bool.false_ne_true ((Eq.symm (by kernel_rfl)).trans h)).elim) ?_; clear hK K
      refine wpMixH_nil (fun m3 => ?_)
      have fb : Fr (fun _ => False) wr (fun _ => False) (((((((wr.drewN (1 + m1)).alloc (.cells #[.int .i64 0, .int .u64 0, .bool false] 87)).drewN m2).setCell ⟨wr.heap.size, 0, none⟩ (.int .i64 wt)).setCell ⟨wr.heap.size, 1, none⟩ (.int .u64 wx)).setCell ⟨wr.heap.size, 2, none⟩ (.bool wf)).drewN m3) := ((((((((Fr.refl (fun _ => False) wr).drewN (1 + m1)).alloc _).drewN m2).set (p := ⟨wr.heap.size, 0, none⟩) (.inr (.inr (Nat.le_refl _))) _).set (p := ⟨wr.heap.size, 1, none⟩) (.inr (.inr (Nat.le_refl _))) _).set (p := ⟨wr.heap.size, 2, none⟩) (.inr (.inr (Nat.le_refl _))) _).drewN m3)
      have B8 : Hid (Blk (((((((wr.drewN (1 + m1)).alloc (.cells #[.int .i64 0, .int .u64 0, .bool false] 87)).drewN m2).setCell ⟨wr.heap.size, 0, none⟩ (.int .i64 wt)).setCell ⟨wr.heap.size, 1, none⟩ (.int .u64 wx)).setCell ⟨wr.heap.size, 2, none⟩ (.bool wf)).drewN m3) wr.heap.size 87 #[.int .i64 wt, .int .u64 wx, .bool wf]) := Lib.hid ((((nb.set_ 0 _).set_ 1 _).set_ 2 _).drewN m3)
      have K8 := Lib.hid (HK.out.new_ fb)
      have hbb : Hid (¬ RoF r (.slice A (redo L).length cp) (.slice (some ⟨gp, offp, none⟩) (L' ++ [c]).length cpp) G wr.heap.size ∧ ¬ own (.slice A5 o5.length cp5) wr.heap.size) := Lib.hid ⟨fun hx => Nat.lt_irrefl _ (HK.out.ro.lt _ hx), fun hx => Nat.lt_irrefl _ (Sl.lt HK.out.cl _ hx)⟩
      clear fb nb k0 k1 k2 y0 y1 y2 HK c4 d0 d1 d2
      generalize ((((((wr.drewN (1 + m1)).alloc (.cells #[.int .i64 0, .int .u64 0, .bool false] 87)).drewN m2).setCell ⟨wr.heap.size, 0, none⟩ (.int .i64 wt)).setCell ⟨wr.heap.size, 1, none⟩ (.int .u64 wx)).setCell ⟨wr.heap.size, 2, none⟩ (.bool wf)).drewN m3 = w8 at *
      generalize wr.heap.size = bb at *
      have c4 : w8.cell? ⟨r, 4, none⟩ = some (.slice (some ⟨gp, offp, none⟩) (L'.length + 1) cpp) := by have := K8.out.ro.blk.cell 4; rw [hj0] at this; exact this
      have z4 := K8.out.ro.blk.frozen 4
      go_wp2_with fail
      refine wp_region_mixH (fun _ => True) [3, 3, 3, 3, 1, 3, 3, 3, 1, 3, 3, 3, 3, 3, 2] (List.range 15) (by kernel_rfl) (by kernel_rfl) (fun _ _ h => h) trivial ?_
      repeat ((first | refine wpMixH_pure rfl rfl (fun K hK => ?_) | refine wpMixH_loc rfl rfl (fun K hK => ?_) | refine wpMixH_any rfl rfl (fun K hK => ?_)); go_simp; refine hK _ _ ?_; clear hK K)
      refine wpMixH_loud rfl rfl (fun m4 K hK => ?_)
      go_wp2_with fail
      refine hK _ _ (fun h => (Bool.false_ne_true ((Eq.symm (by kernel_rfl)).trans h)).elim) ?_; clear hK K
      refine wpMixH_nil (fun m5 => ?_)
      obtain ⟨s1, s2, s3, s4, s5⟩ := (K8.out.drewN (1 + m4)).strike hF0.out
      have R9 : Hid (RoA (((w8.drewN (1 + m4)).setCell ⟨r, 4, none⟩ (.slice (some ⟨gp, offp, none⟩) L'.length cpp)).drewN m5) r most (redo L) (pasts L') (.slice A (redo L).length cp) (.slice (some ⟨gp, offp, none⟩) L'.length cpp) t G T) := Lib.hid (RoA.drewN s1 m5)
      have V9 : Hid (Cl (((w8.drewN (1 + m4)).setCell ⟨r, 4, none⟩ (.slice (some ⟨gp, offp, none⟩) L'.length cpp)).drewN m5) (.slice A5 o5.length cp5) o5) := Lib.hid (Sl.drewN s2 m5)
      have F9 := Lib.hid (s4.drewN m5)
      have T9 : Hid (Tab (((w8.drewN (1 + m4)).setCell ⟨r, 4, none⟩ (.slice (some ⟨gp, offp, none⟩) L'.length cpp)).drewN m5)) := Lib.hid (s5.keep rfl)
      replace s3 := Lib.hid s3
      have B9 : Hid (Blk (((w8.drewN (1 + m4)).setCell ⟨r, 4, none⟩ (.slice (some ⟨gp, offp, none⟩) L'.length cpp)).drewN m5) bb 87 #[.int .i64 wt, .int .u64 wx, .bool wf]) := Lib.hid (((B8.out.drewN (1 + m4)).far (p := ⟨r, 4, none⟩) (fun e => hbb.out.1 (.inl e)) _).drewN m5)
      have ho5 := Lib.hid K8.out.o
      have hol5 : Hid (o5.length ≤ (redo L).length) := Lib.hid (by rw [K8.out.o, hLj.out]; exact redo_mono L _)
      have hbG : Hid (¬ G bb) := Lib.hid fun hg => hbb.out.1 (.inr (.inr (.inr hg)))
      have hix := Lib.hid K8.out.ix
      have hk := Lib.hid K8.out.k
      clear K8 B8 hbb s1 s2 s4 s5 c4 z4
      generalize ((w8.drewN (1 + m4)).setCell ⟨r, 4, none⟩ (.slice (some ⟨gp, offp, none⟩) L'.length cpp)).drewN m5 = w9 at *
      have b0 : w9.cell? ⟨bb, 0, none⟩ = some (.int .i64 wt) := B9.out.cell 0
      have b1 : w9.cell? ⟨bb, 1, none⟩ = some (.int .u64 wx) := B9.out.cell 1
      have b2 : w9.cell? ⟨bb, 2, none⟩ = some (.bool wf) := B9.out.cell 2
      have hrs : Hid (o5 = rput (redo L') c) := Lib.hid (by rw [ho5.out, redo_snoc])
      have hLj2 : Hid (L' = L.take L'.length) := Lib.hid (by
        have e := congrArg (List.take L'.length) hLj.out
        rw [List.take_left, hj0, List.take_take, Nat.min_eq_left (by omega)] at e
        exact e)
      have hgl2 : L'.length = n + g := by omega
      have hLl2 : L'.length ≤ L.length := by omega
      clear ho5 hLj B9
      by_cases hin : idx (redo L') c.1 < (redo L').length
      · obtain ⟨hw, hr5⟩ : wasOf (redo L') c = ((idx (redo L') c.1 : Int), ((redo L').getD (idx (redo L') c.1) (0, 0)).2, false) ∧ o5 = (redo L').set (idx (redo L') c.1) c := by
          refine ⟨if_pos hin, ?_⟩
          rw [hrs.out]
          exact if_pos hin
        have hwt2 := hwt.out
        have hwx2 := hwx.out
        have hwf2 := hwf.out
        rw [hw] at hwt2 hwx2 hwf2
        dsimp only at hwt2 hwx2 hwf2
        subst hwt2 hwf2
        have hi5 : idx (redo L') c.1 < o5.length := by rw [hr5, List.length_set]; exact hin
        have hbk : Hid (o5.set (idx (redo L') c.1) (c.1, wx) = redo L') := Lib.hid (by
          rw [hr5, List.set_set, ← hwx2, List.getD_eq_getElem?_getD, List.getElem?_eq_getElem hin]
          apply List.ext_getElem
          · simp
          · intro k h1 h2
            rw [List.getElem_set]
            split
            · rename_i e
              subst e
              exact Prod.ext (idx_get hin).symm rfl
            · rfl)
        have h5i : Hid ((o5[idx (redo L') c.1]'hi5).1 = c.1) := Lib.hid (by simp only [hr5, List.getElem_set_self])
        obtain ⟨g5, off5, rfl, hg5, hcl5⟩ := Sl.cell encC_len (by decide) V9.out hi5
        obtain ⟨z, hz⟩ : ∃ z, Hid ((o5[idx (redo L') c.1]'hi5).2 = z) := ⟨_, Lib.hid rfl⟩
        have c1 : w9.cell? ⟨g5, off5 + idx (redo L') c.1 * 2 + 1, none⟩ = some (.int .u64 z) := by
          have := (hcl5 _ hi5 1 (by decide)).1
          rw [← Nat.add_assoc] at this
          rw [this, ← hz.out]
          rfl
        have z1 : w9.frozen? ⟨g5, off5 + idx (redo L') c.1 * 2 + 1, none⟩ = false := by
          have := (hcl5 _ hi5 1 (by decide)).2
          rwa [← Nat.add_assoc] at this
        have V10 : Hid (Cl (w9.setCell ⟨g5, off5 + idx (redo L') c.1 * 2 + 1, none⟩ (.int .u64 wx)) (.slice (some ⟨g5, off5, none⟩) (redo L').length cp5) (redo L')) := Lib.hid (by
          have := Sl.upd encC_len V9.out hi5 (j := 1) (by decide) (.int .u64 wx) (c.1, wx) (by show [Value.int .u64 c.1, Value.int .u64 wx] = [Value.int .u64 (o5[idx (redo L') c.1]'hi5).1, Value.int .u64 wx]; rw [h5i.out])
          rw [← Nat.add_assoc, hbk.out] at this
          have e9 : o5.length = (redo L').length := by rw [hr5, List.length_set]
          rw [← e9]
          exact this)
        have e9 : Hid (o5.length = (redo L').length) := Lib.hid (by rw [hr5, List.length_set])
        have hiz : ((idx (redo L') c.1 : Nat) : Int) < (o5.length : Int) := by omega
        have hix2 : Hid (Ixd T (redo L')) := Lib.hid (by
          have := hix.out.set (n := idx (redo L') c.1) (c := (c.1, wx)) fun hi => h5i.out.symm
          rwa [hbk.out] at this)
        clear hcl5 hin hr5 hw hwx2
        generalize idx (redo L') c.1 = i at *
        go_wp2
        go_roundg g
        case measure => omega
        case rel =>
          have f10 : Fr (own (.slice (some ⟨g5, off5, none⟩) o5.length cp5)) w9 (own (.slice (some ⟨g5, off5, none⟩) o5.length cp5)) (w9.setCell ⟨g5, off5 + i * 2 + 1, none⟩ (.int .u64 wx)) := (Fr.refl _ w9).set (p := ⟨g5, off5 + i * 2 + 1, none⟩) (.inl (by simp [own, Value.ownBlock])) _
          refine ⟨L', some ⟨g5, off5, none⟩, cp5, redo L', G, T, hgl2, hLl2, hLj2, by rw [e9.out], Lib.hid ⟨R9.out.fr f10 fun b hb hb2 => (s3.out b hb2).2 hb, rfl, hix2.out, hk.out, V10.out, fun b hb => s3.out b (own_len hb), ?_, T9.out.frs f10 fun h1 => ?_⟩⟩
          · exact (F9.out.set (p := ⟨g5, off5 + i * 2 + 1, none⟩) (.inl (.inr (by simp [own, Value.ownBlock]))) _).into fun k hk => .inl (hk.imp id fun h => own_len h)
          · have := (s3.out 1 h1).1
            have := hT1.out
            omega
      · obtain ⟨hw, hr5⟩ : wasOf (redo L') c = (((redo L').length : Int), 0, true) ∧ o5 = redo L' ++ [c] := by
          refine ⟨if_neg hin, ?_⟩
          rw [hrs.out]
          exact if_neg hin
        have hwt2 := hwt.out
        have hwf2 := hwf.out
        rw [hw] at hwt2 hwf2
        dsimp only at hwt2 hwf2
        subst hwt2 hwf2
        have hl5 : o5.length = (redo L').length + 1 := by rw [hr5]; simp
        have hi5 : (redo L').length < o5.length := by omega
        have h5i : (o5[(redo L').length]'hi5) = c := by simp only [hr5]; rw [List.getElem_append_right (Nat.le_refl _)]; simp
        obtain ⟨g5, off5, rfl, hg5, hcl5⟩ := Sl.cell encC_len (by decide) V9.out hi5
        have d0 : w9.cell? ⟨g5, off5 + (redo L').length * 2, none⟩ = some (.int .u64 c.1) := by
          have := (hcl5 _ hi5 0 (by decide)).1
          rw [h5i] at this
          simpa [encC] using this
        have c3 : w9.cell? ⟨r, 3, none⟩ = some (.pointer (some ⟨t, 0, none⟩)) := R9.out.blk.cell 3
        have hix5 : Ixd T (redo L' ++ [(c.1, c.2)]) := by have := hix.out; rw [hr5] at this; exact this
        have hTk := hk.out
        have hix2 := Lib.hid (hix5.take (by omega))
        have hk2 : Hid ((T.take 0 c.1).k ≤ 22) := Lib.hid (by rw [Tbl.take_k]; exact hTk)
        have hol : (o5.length : Int) ≤ 1048576 + 1 := by
          have h1 := hol5.out
          omega
        have hTl : T.l.length = o5.length := by rw [hix.out.l, List.length_map]
        have X1 := Lib.hid (fun k => takeI_tb (key := c.1) (w := w9.drewN k) (T9.out.keep rfl) (R9.out.tb.drewN k) (by omega) (by omega))
        have hcp5 : Hid ((redo L').length ≤ cp5 ∧ (cp5 : Int) ≤ 9223372036854775807) := Lib.hid (by
          obtain ⟨A', cp', e, hc⟩ := Sl.shape V9.out
          injection e with e1 e2 e3
          have hcm : cp5 ≤ maxLen := by
            rcases V9.out.2 with ⟨e, _⟩ | ⟨_, _, _, _, e, _, _, _, h, _⟩
            · injection e with _ _ e; unfold maxLen; omega
            · injection e with _ _ e; omega
          unfold maxLen at hcm
          exact ⟨by omega, by omega⟩)
        have hlz : ((redo L').length : Int) < (o5.length : Int) := by omega
        have hlc : ((redo L').length : Int) ≤ (cp5 : Int) := by have := hcp5.out.1; omega
        have hlc2 : decide ((redo L').length ≤ cp5) = true := decide_eq_true hcp5.out.1
        have hcpi := hcp5.out.2
        have hcut := Lib.hid (Sl.cut encC_len V9.out (m := (redo L').length) (c := cp5) (by omega) hcp5.out.1 (Nat.le_refl _))
        rw [show o5.take (redo L').length = redo L' by rw [hr5, List.take_left]] at hcut
        clear hcl5 hin hw h5i hix5 hTl hr5 hl5
        generalize hkk : (redo L').length = kk at *
        replace hkk := Lib.hid hkk
        go_wp2_with fail
        refine wp_region_mixH (fun _ => True) [3, 3, 3, 1, 3, 3, 1, 3, 3, 1, 2] (List.range 11) (by kernel_rfl) (by kernel_rfl) (fun _ _ h => h) trivial ?_
        repeat ((first | refine wpMixH_pure rfl rfl (fun K hK => ?_) | refine wpMixH_loc rfl rfl (fun K hK => ?_) | refine wpMixH_any rfl rfl (fun K hK => ?_)); go_simp; refine hK _ _ ?_; clear hK K)
        refine wpMixH_loud rfl rfl (fun m6 K hK => ?_)
        go_wp2_with fail
        refine (X1.out _).mono ?_
        rintro _ w10 ⟨rfl, G2, t2, f2⟩
        obtain ⟨R10, F10⟩ := (RoA.drewN R9.out (1 + m6)).tabl t2 f2
        replace R10 := Lib.hid R10
        have hd5 : Hid (∀ b, own (.slice (some ⟨g5, off5, none⟩) o5.length cp5) b → ¬ G b) := Lib.hid fun b hb hg => (s3.out b hb).2 (.inr (.inr (.inr hg)))
        have V10 : Hid (Cl w10 (.slice (some ⟨g5, off5, none⟩) kk cp5) (redo L')) := Lib.hid (Sl.fr (Sl.drewN hcut.out (1 + m6)) f2 fun b hb => hd5.out b (own_len hb))
        have b10 : w10.cell? ⟨bb, 0, none⟩ = some (.int .i64 (kk : Int)) := f2.cell_ b0 hbG.out
        have F10' : Hid (Fr (RoF r (.slice A (redo L).length cp) (.slice (some ⟨gp, offp, none⟩) (pasts L).length cpp) G0) w (fun b => RoF r (.slice A (redo L).length cp) (.slice (some ⟨gp, offp, none⟩) L'.length cpp) G2 b ∨ own (.slice (some ⟨g5, off5, none⟩) o5.length cp5) b) w10) := Lib.hid (by
          have e1 := F9.out.drewN (1 + m6)
          refine (e1.trans (F10.wide fun k hk => .inl hk)).into fun k hk => ?_
          rcases hk with hk | hk
          · exact .inl hk
          · exact (e1.new k (.inr hk)).elim (fun h => .inr (.inl h)) fun h => .inr (.inr h))
        have T10 : Hid (Tab w10) := Lib.hid ((T9.out.keep (w' := w9.drewN (1 + m6)) rfl).frs f2 fun hg => (F9.out.new 1 (.inl (.inr (.inr (.inr hg))))).elim h1F fun h => by have := hT1.out; omega)
        have hGG : Hid (∀ b, G2 b → ¬ own (.slice (some ⟨g5, off5, none⟩) o5.length cp5) b) := Lib.hid fun b hg hb => (f2.new b hg).elim (fun h => hd5.out b hb h) fun h => by have := Sl.lt V9.out b hb; have h' : w9.heap.size ≤ b := h; omega
        clear t2 F10 F9 R9 V9 hcut X1 T9 d0 c3
        go_wp2_with fail
        refine hK _ _ (fun h => (Bool.false_ne_true ((Eq.symm (by kernel_rfl)).trans h)).elim) ?_; clear hK K
        repeat ((first | refine wpMixH_pure rfl rfl (fun K hK => ?_) | refine wpMixH_loc rfl rfl (fun K hK => ?_) | refine wpMixH_any rfl rfl (fun K hK => ?_)); go_simp; refine hK _ _ ?_; clear hK K)
        refine wpMixH_nil (fun m7 => ?_)
        go_wp2
        go_roundg g
        case measure => omega
        case rel =>
          refine ⟨L', some ⟨g5, off5, none⟩, cp5, redo L', G2, T.take 0 c.1, hgl2, hLl2, hLj2, by rw [hkk.out], Lib.hid ⟨RoA.drewN R10.out m7, rfl, hix2.out, hk2.out, by rw [hkk.out]; exact Sl.drewN V10.out m7, fun b hb => ?_, ?_, T10.out.keep rfl⟩⟩
          · have hb5 := s3.out b (own_len hb)
            refine ⟨hb5.1, fun hb2 => ?_⟩
            rcases hb2 with hb2 | hb2 | hb2 | hb2
            · exact hb5.2 (.inl hb2)
            · exact hb5.2 (.inr (.inl hb2))
            · exact hb5.2 (.inr (.inr (.inl hb2)))
            · exact hGG.out b hb2 (own_len hb)
          · exact (F10'.out.drewN m7).into fun k hk => .inl (hk.imp id fun h => own_len h)
end
end Go.Proofs.YtfhpnlaabgkpjaaDoor
/- LogsBack: three redo logs in one world. -/
namespace Go.Proofs.YtfhpnlaabgkpjaaDoor
open Go.RowKit Go.Shelf
set_option maxHeartbeats 8000000
set_option linter.unusedVariables false
set_option linter.unusedSimpArgs false

def L3 {α : Type} (z a b c : α) : Nat → α := fun j => if j = 0 then a else if j = 1 then b else if j = 2 then c else z
theorem L3_z0 {α : Type} (z a b c : α) : L3 z a b c 0 = a := rfl
theorem L3_z1 {α : Type} (z a b c : α) : L3 z a b c 1 = b := rfl
theorem L3_z2 {α : Type} (z a b c : α) : L3 z a b c 2 = c := rfl
theorem L3_0 {α : Type} (z a b c v : α) : upd (L3 z a b c) 0 v = L3 z v b c := by
  funext j; unfold upd L3; split <;> rfl
theorem L3_1 {α : Type} (z a b c v : α) : upd (L3 z a b c) 1 v = L3 z a v c := by
  funext j; unfold upd L3
  by_cases h : j = 1
  · subst h; rfl
  · rw [if_neg h, if_neg h, if_neg h]
theorem L3_2 {α : Type} (z a b c v : α) : upd (L3 z a b c) 2 v = L3 z a b v := by
  funext j; unfold upd L3
  by_cases h : j = 2
  · subst h; rfl
  · rw [if_neg h, if_neg h, if_neg h]
structure TL (w wr : World) (r : Nat → Nat) (X : Nat → Nat → Prop) (L : Nat → List (Int × Int)) : Prop where
  ro : ∀ j, j < 3 → RoW wr (r j) (X j) 1000000 (redo (L j)) (pasts (L j))
  dis : ∀ j k, j < 3 → k < 3 → j ≠ k → ∀ b, X j b → ¬ X k b
  off : ∀ j, j < 3 → ∀ b, X j b → w.heap.size ≤ b
  fr : Fr (fun _ => False) w (fun _ => False) wr
  tab : Tab w
  len : ∀ j, j < 3 → (L j).length ≤ 2000
  nn : ∀ j, j < 3 → ∀ c ∈ L j, 0 ≤ c.1 ∧ c.1 ≤ 18446744073709551615
section
variable {w wr w' : World} {r : Nat → Nat} {X : Nat → Nat → Prop} {L : Nat → List (Int × Int)} {j : Nat}
theorem TL.tabr (h : TL w wr r X L) : Tab wr := h.tab.frs h.fr fun h => h
theorem TL.new_ {F : Nat → Prop} (h : TL w wr r X L) (hf : Fr (fun _ => False) wr F w') : TL w w' r X L :=
  ⟨fun j hj => (h.ro j hj).fr hf fun _ _ h => h, h.dis, h.off, h.fr.beside hf fun _ h => h.elim, h.tab, h.len, h.nn⟩
theorem TL.drewN (h : TL w wr r X L) (k : Nat) : TL w (wr.drewN k) r X L := h.new_ ((Fr.refl (fun _ => False) wr).drewN k)
theorem TL.one (h : TL w wr r X L) (hj : j < 3) : ¬ X j 1 := fun h1 => by have := h.off j hj 1 h1; have := h.tab.lt; omega
theorem TL.step (h : TL w wr r X L) (hj : j < 3) {X' : Nat → Prop} {l' : List (Int × Int)} (hf : Fr (X j) wr X' w') (hp : RoW w' (r j) X' 1000000 (redo l') (pasts l')) (hl : l'.length ≤ 2000) (hn : ∀ c ∈ l', 0 ≤ c.1 ∧ c.1 ≤ 18446744073709551615) : TL w w' r (upd X j X') (upd L j l') := by
  have hge := h.fr.size
  have hlt := fun j (hj : j < 3) => (h.ro j hj).lt
  refine ⟨fun i hi => ?_, fun i k hi hk hik b hb => ?_, fun i hi b hb => ?_, h.fr.beside hf fun k hk => h.off j hj k hk, h.tab, fun i hi => ?_, fun i hi => ?_⟩
  · by_cases e : i = j
    · subst e; rw [upd_self, upd_self]; exact hp
    · rw [upd_ne _ _ e, upd_ne _ _ e]; exact (h.ro i hi).fr hf fun b hb => h.dis i j hi hj e b hb
  · by_cases e : i = j
    · subst e
      rw [upd_self] at hb
      rw [upd_ne _ _ (Ne.symm hik)]
      exact fun hk' => (hf.new b hb).elim (fun h1 => h.dis i k hi hk hik b h1 hk') fun h1 => by have := hlt k hk b hk'; omega
    · rw [upd_ne _ _ e] at hb
      by_cases e2 : k = j
      · subst e2
        rw [upd_self]
        exact fun hk' => (hf.new b hk').elim (fun h1 => h.dis i k hi hk hik b hb h1) fun h1 => by have := hlt i hi b hb; omega
      · rw [upd_ne _ _ e2]; exact h.dis i k hi hk hik b hb
  · by_cases e : i = j
    · subst e
      rw [upd_self] at hb
      exact (hf.new b hb).elim (h.off i hi b) fun h1 => Nat.le_trans hge h1
    · rw [upd_ne _ _ e] at hb; exact h.off i hi b hb
  · by_cases e : i = j
    · subst e; rw [upd_self]; exact hl
    · rw [upd_ne _ _ e]; exact h.len i hi
  · by_cases e : i = j
    · subst e; rw [upd_self]; exact hn
    · rw [upd_ne _ _ e]; exact h.nn i hi
theorem TL.put {a x : Int} (h : TL w wr r X L) (hj : j < 3) (hlen : (L j).length < 2000) (ha : 0 ≤ a ∧ a ≤ 18446744073709551615) :
    Calls Tryd.prog 16 #[.pointer (some ⟨r j, 0, none⟩), .int .u64 a, .int .u64 x] wr fun e w' => e = .returned (.int .i64 0) ∧ ∃ X', TL w w' r X' (upd L j (L j ++ [(a, x)])) := by
  have hr := redo_len (L := L j)
  have hp := pasts_len (L := L j)
  have hn : ∀ c ∈ L j ++ [(a, x)], 0 ≤ c.1 ∧ c.1 ≤ 18446744073709551615 := fun c hc => (List.mem_append.1 hc).elim (h.nn j hj c) fun h => by rw [List.mem_singleton.1 h]; exact ha
  by_cases hi : idx (redo (L j)) a < (redo (L j)).length
  · refine (wput_over (x := x) h.tabr (h.ro j hj) (by omega) (by omega) hi).mono ?_
    rintro _ w1 ⟨rfl, F', h1, f1⟩
    exact ⟨rfl, _, h.step hj f1 (by rw [redo_snoc, pasts_snoc]; exact h1) (by simp; omega) hn⟩
  · refine (wput_new (x := x) h.tabr (h.ro j hj) (h.one hj) (by decide) (by omega) hi (by omega)).mono ?_
    rintro _ w1 ⟨rfl, F', h1, f1⟩
    exact ⟨rfl, _, h.step hj f1 (by rw [redo_snoc, pasts_snoc]; exact h1) (by simp; omega) hn⟩
theorem TL.back {n : Nat} (h : TL w wr r X L) (hj : j < 3) (hn : n ≤ (L j).length) :
    Calls Tryd.prog 20 #[.pointer (some ⟨r j, 0, none⟩), .int .i64 (n : Int)] wr fun e w' => e = .returned (.int .i64 0) ∧ ∃ X', TL w w' r X' (upd L j ((L j).take n)) := by
  have hr := redo_len (L := L j)
  have hl := h.len j hj
  refine (wback_yes h.tabr (h.ro j hj) (h.one hj) (by omega) (by omega) hn).mono ?_
  rintro _ w1 ⟨rfl, F', h1, f1⟩
  exact ⟨rfl, _, h.step hj f1 h1 (by rw [List.length_take]; omega) fun c hc => h.nn j hj c (List.mem_of_mem_take hc)⟩
/-- Over's answer, in one form -/
def codeR (R : Option (List Int)) : Int := if R.isSome then 0 else 4
theorem TL.over {cs : List Int} {v : Value} (h : TL w wr r X L) (hj : j < 3) (hv : Lies wr v cs) (hc : cs.length * 8 ≤ 140737488355328) :
    Calls Tryd.prog 18 #[.pointer (some ⟨r j, 0, none⟩), v] wr fun e w' => ∃ u, e = .returned (.tuple #[u, .int .i64 (codeR (overGo cs.length (redo (L j)) cs))]) ∧ Lies w' u ((overGo cs.length (redo (L j)) cs).getD []) ∧ TL w w' r X L ∧ ∀ v l, Lies wr v l → Lies w' v l := by
  have hr := redo_len (L := L j)
  have hl := h.len j hj
  refine (wover_b (h.ro j hj) (by omega) (fun c hc => h.nn j hj c (redo_mem _ c hc)) hv hc).mono ?_
  intro e w1 hO
  generalize overGo cs.length (redo (L j)) cs = R at *
  cases R with
  | none =>
    obtain ⟨rfl, f1⟩ := hO
    exact ⟨_, rfl, (Wl.nil w1).lies, h.new_ f1, fun v l hv => hv.frz f1⟩
  | some out =>
    obtain ⟨u, rfl, hu, f1⟩ := hO
    exact ⟨_, rfl, hu.lies, h.new_ f1, fun v l hv => hv.frz f1⟩
theorem TL.len_ (h : TL w wr r X L) (hj : j < 3) : Calls Tryd.prog 21 #[.pointer (some ⟨r j, 0, none⟩)] wr fun e w' => e = .returned (.int .i64 ((redo (L j)).length : Int)) ∧ wr = w' := wlen_b (h.ro j hj)
theorem TL.mark (h : TL w wr r X L) (hj : j < 3) : Calls Tryd.prog 17 #[.pointer (some ⟨r j, 0, none⟩)] wr fun e w' => e = .returned (.int .i64 ((L j).length : Int)) ∧ wr = w' := by
  have := wmark_b (h.ro j hj)
  rwa [pasts_len] at this
/-- Over, twice over: what the answers' numbers can be -/
theorem codes_cases {la lb : List (Int × Int)} {cs : List Int} (ha : ∀ c ∈ la, 0 ≤ c.1 ∧ c.1 ≤ 18446744073709551615) (hb : ∀ c ∈ lb, 0 ≤ c.1 ∧ c.1 ≤ 18446744073709551615) :
    codeR (overGo cs.length (redo la) cs) = 4 ∨ (codeR (overGo cs.length (redo la) cs) = 0 ∧ codeR (overGo ((overGo cs.length (redo la) cs).getD []).length (redo lb) ((overGo cs.length (redo la) cs).getD [])) = 4) ∨
      (codeR (overGo cs.length (redo la) cs) = 0 ∧ codeR (overGo ((overGo cs.length (redo la) cs).getD []).length (redo lb) ((overGo cs.length (redo la) cs).getD [])) = 0 ∧ codeR (overGo cs.length (redo (la ++ lb)) cs) = 0 ∧
        (overGo ((overGo cs.length (redo la) cs).getD []).length (redo lb) ((overGo cs.length (redo la) cs).getD [])).getD [] = (overGo cs.length (redo (la ++ lb)) cs).getD []) := by
  cases h1 : overGo cs.length (redo la) cs with
  | none => exact .inl rfl
  | some f =>
    have hf := overGo_len _ _ _ h1
    show _ ∨ (_ ∧ codeR (overGo f.length (redo lb) f) = 4) ∨ (_ ∧ codeR (overGo f.length (redo lb) f) = 0 ∧ _ ∧ (overGo f.length (redo lb) f).getD [] = _)
    cases h2 : overGo f.length (redo lb) f with
    | none => exact .inr (.inl ⟨rfl, rfl⟩)
    | some g =>
      rw [hf] at h2
      rw [over_two la lb cs f g (fun c hc => (ha c hc).1) (fun c hc => (hb c hc).1) h1 h2]
      exact .inr (.inr ⟨rfl, rfl, rfl, rfl⟩)
theorem over_getD_len {n : Nat} {o : List (Int × Int)} {cs : List Int} : ((overGo n o cs).getD []).length ≤ cs.length := by
  cases h1 : overGo n o cs with
  | none => exact Nat.zero_le _
  | some f => exact Nat.le_of_eq (overGo_len _ _ _ h1)
/-- three logs, made -/
theorem TL.start {w1 w2 w3 : World} {r0 r1 r2 : Nat} {F0 F1 F2 : Nat → Prop} (hT : Tab w) (h0 : RoW w1 r0 F0 1000000 [] []) (f0 : Fr (fun _ => False) w F0 w1) (h1 : RoW w2 r1 F1 1000000 [] []) (f1 : Fr (fun _ => False) w1 F1 w2) (h2 : RoW w3 r2 F2 1000000 [] []) (f2 : Fr (fun _ => False) w2 F2 w3) :
    TL w w3 (L3 0 r0 r1 r2) (L3 (fun _ => False) F0 F1 F2) (L3 [] [] [] []) := by
  have z0 := f0.size
  have z1 := f1.size
  have z2 := f2.size
  have a0 : ∀ b, F0 b → w.heap.size ≤ b ∧ b < w1.heap.size := fun b hb => ⟨(f0.new b hb).elim (fun h => h.elim) id, h0.lt b hb⟩
  have a1 : ∀ b, F1 b → w1.heap.size ≤ b ∧ b < w2.heap.size := fun b hb => ⟨(f1.new b hb).elim (fun h => h.elim) id, h1.lt b hb⟩
  have a2 : ∀ b, F2 b → w2.heap.size ≤ b ∧ b < w3.heap.size := fun b hb => ⟨(f2.new b hb).elim (fun h => h.elim) id, h2.lt b hb⟩
  have c3 : ∀ j, j < 3 → j = 0 ∨ j = 1 ∨ j = 2 := fun j hj => by omega
  refine ⟨fun j hj => ?_, fun j k hj hk hjk b hb hb2 => ?_, fun j hj b hb => ?_, ((((Fr.refl (fun _ => False) w).beside f0 fun _ h => h.elim).beside f1 fun _ h => h.elim).beside f2 fun _ h => h.elim), hT, fun j hj => ?_, fun j hj c hc => ?_⟩
  · rcases c3 j hj with rfl | rfl | rfl
    · exact (h0.fr f1 fun _ _ h => h).fr f2 fun _ _ h => h
    · exact h1.fr f2 fun _ _ h => h
    · exact h2
  · rcases c3 j hj with rfl | rfl | rfl <;> rcases c3 k hk with rfl | rfl | rfl
    · exact hjk rfl
    · have := a0 b hb; have := a1 b hb2; omega
    · have := a0 b hb; have := a2 b hb2; omega
    · have := a1 b hb; have := a0 b hb2; omega
    · exact hjk rfl
    · have := a1 b hb; have := a2 b hb2; omega
    · have := a2 b hb; have := a0 b hb2; omega
    · have := a2 b hb; have := a1 b hb2; omega
    · exact hjk rfl
  · rcases c3 j hj with rfl | rfl | rfl
    · exact (a0 b hb).1
    · have := (a1 b hb).1; omega
    · have := (a2 b hb).1; omega
  · rcases c3 j hj with rfl | rfl | rfl <;> exact Nat.zero_le _
  · rcases c3 j hj with rfl | rfl | rfl <;> exact absurd hc (by simp [L3])
end
/-- the list of entries that came in -/
theorem rows_list {W : World} {A : Option Addr} {n c : Nat} (h : RowsIn W A n c [.u64, .u64]) : ∃ l : List (Int × Int), l.length = n ∧ (∀ x ∈ l, 0 ≤ x.1 ∧ x.1 ≤ 18446744073709551615) ∧
    ∀ i (hi : i < l.length), ∃ ad, A = some ad ∧ W.cell? (ad.add (i * 2)) = some (.int .u64 (l[i]'hi).1) ∧ W.cell? ⟨(ad.add (i * 2)).block, (ad.add (i * 2)).off + 1, none⟩ = some (.int .u64 (l[i]'hi).2) := by
  cases A with
  | none =>
    obtain ⟨rfl, _⟩ := h.nil rfl
    exact ⟨[], rfl, by simp, fun i hi => by simp at hi⟩
  | some ad =>
    have q : ∀ i : Fin n, ∃ x : Int × Int, (0 ≤ x.1 ∧ x.1 ≤ 18446744073709551615) ∧ W.cell? (ad.add (i.1 * 2)) = some (.int .u64 x.1) ∧ W.cell? ⟨(ad.add (i.1 * 2)).block, (ad.add (i.1 * 2)).off + 1, none⟩ = some (.int .u64 x.2) := fun i => by
      obtain ⟨a, a0, d0⟩ := h.cell ad rfl i.1 i.2 0 _ rfl
      obtain ⟨x, a1, d1⟩ := h.cell ad rfl i.1 i.2 1 _ rfl
      rw [addr_flat (by omega)] at a1
      exact ⟨(a, x), bd_u64 d0, a0, a1⟩
    refine ⟨List.ofFn fun i => (q i).choose, by simp, fun x hx => ?_, fun i hi => ⟨ad, rfl, ?_⟩⟩
    · obtain ⟨i, rfl⟩ := List.mem_ofFn.1 hx
      exact (q i).choose_spec.1
    · have hin : i < n := by simpa using hi
      have := (q ⟨i, hin⟩).choose_spec.2
      simpa using this
end Go.Proofs.YtfhpnlaabgkpjaaDoor
