/- A list gone over, by contract. -/
import Derived.Test.YtcohopobjppmaaaLiB
namespace Go.Proofs.Ytcohopobjppmaaa
open Go.RowKit
set_option maxHeartbeats 4000000
set_option linter.unusedVariables false
set_option linter.unusedSimpArgs false

set_option maxRecDepth 100000 in
theorem find_b {t h n N gf : Nat} {F F0 G : Nat → Prop} {s s' : St} {e e' l : Int} {w w0 : World} {J : World → (Nat → Prop) → (Nat → Prop) → List Int → Prop} {q : Int → Bool} {cap : Array Value} {p' : Pl} {ks' : List Int}
    (HJ : PLaw q J gf fun key => #[.int .u64 key] ++ cap)
    (hw : Txw w t F s) (hh : Hnd w h t e) (hn : ¬ F h) (hj : J w (fun k => F k ∨ k = h) G []) (hf : Fits s) (hb : Bud s (n + 2 * N + 1)) (hN : N ≤ 60000) (hl : 0 ≤ l) (hl' : l ≤ 18446744073709551615) (hR : hfind q N s e l = some (p', ks', e', s'))
    (hm : Fr F0 w0 (fun k => (F k ∨ k = h) ∨ G k) w) :
    Calls Try.prog 46 #[.pointer (some ⟨h, 0, none⟩), .int .u64 l, .func (.func gf) #[] cap] w fun en w' =>
      en = .returned (.agg (plc p')) ∧ p'.Bd ∧ ks'.length ≤ N ∧ LftF t h n F0 w0 J s' e' ks' w' := by
  have HJ := Lib.hid HJ
  have hrb := Blk.new w 81 #[.int .u64 0, .int .u64 0, .int .u64 0, .int .u64 0]
  have hTw := hw.alloc (.cells #[.int .u64 0, .int .u64 0, .int .u64 0, .int .u64 0] 81)
  have hHw : Hnd (w.alloc (.cells #[.int .u64 0, .int .u64 0, .int .u64 0, .int .u64 0] 81)) h t e := Blk.alloc hh _
  have hJw : J (w.alloc (.cells #[.int .u64 0, .int .u64 0, .int .u64 0, .int .u64 0] 81)) (fun k => F k ∨ k = h) G [] := HJ.out.keep hj (fun k hk => Below.heap_alloc w _ k (HJ.out.lt hj k hk).1) fun k hk => (HJ.out.lt hj k hk).2
  have hMw := hm.alloc (.cells #[.int .u64 0, .int .u64 0, .int .u64 0, .int .u64 0] 81)
  have hnr : ¬ F w.heap.size ∧ ¬ G w.heap.size := ⟨fun c => by have := hw.lt _ c; omega, fun c => by have := (HJ.out.lt hj _ c).1; omega⟩
  have hr0 := hm.size
  have hR := Lib.hid hR
  clear hw hh hj hm
  go_enter Try.func46, Try.ntmps46
  go_wp2_with fail
  go_step3
  generalize hWe : w.alloc (.cells #[.int .u64 0, .int .u64 0, .int .u64 0, .int .u64 0] 81) = w1 at *
  generalize hre : w.heap.size = rb at *
  clear hWe hre
  go_wp2_with fail
  refine (hget_b (n := n + 2 * N) hTw hHw hn hf hb hl (Fr.refl _ _)).mono ?_
  rintro _ w2 ⟨count, e2, s2, q2, dc, dc', rfl, hL2⟩
  have hL2 := Lib.hid hL2
  have K0 : ∃ F2, Hid (Fnd t h w2.heap.size rb (n + 2 * N) F0 w0 J (w2.alloc (.cells #[.int .u64 (IntKind.u64.wrap (l + 1)), .int .u64 0, .int .u64 0, .int .u64 0] 81)) F2 G s2 e2 { from_ := uAdd l 1, next := 0, key := 0, ahead := 0 } []) := by
    obtain ⟨f, b, F', c, d, g, m⟩ := hL2.out
    have hjl := HJ.out.lt hJw
    have ms := m.size
    have hneh : rb ≠ h := Blk.ne_ hrb hHw (by decide)
    have hrl := hrb.lt
    refine ⟨F', Lib.hid ⟨c.alloc _, Blk.alloc d _, g, f, b, ?_, (hMw.trans (m.side G)).alloc _, Blk.new _ _ _, (m.blk hrb fun x => x.elim hnr.1 hneh).alloc _, ⟨by have := hMw.size; omega, hr0, by omega⟩, ⟨fun x => by have := c.lt _ x; omega, fun x => by have := (hjl _ x).1; omega⟩, ⟨fun x => (m.new rb (.inl x)).elim (fun x => x.elim hnr.1 hneh) fun x => by omega, hnr.2⟩⟩⟩
    exact HJ.out.keep hJw (fun x hx => (Below.heap_alloc w2 _ x (by have := (hjl x hx).1; omega)).trans (m.block x (hjl x hx).1 (hjl x hx).2)) fun x hx y => (m.new x y).elim (hjl x hx).2 fun y => by have := (hjl x hx).1; omega
  obtain ⟨F2, K0⟩ := K0
  have hq0 : Hid (fGo q count N 0 { from_ := uAdd l 1, next := 0, key := 0, ahead := 0 } [] e2 s2 = some (p', ks', e', s')) := by
    have h := hR.out
    unfold hfind at h
    rw [q2.out] at h
    exact Lib.hid h
  clear hR q2 hL2 hTw hHw hJw hMw hnr hr0 hrb hn hf hb
  go_wp2_with fail
  generalize w2.alloc (.cells #[.int .u64 (IntKind.u64.wrap (l + 1)), .int .u64 0, .int .u64 0, .int .u64 0] 81) = w3 at *
  generalize w2.heap.size = pb at *
  go_step3
  go_wp2_with fail
  go_loopg [9] N (fun gk c9 wr => ∃ (last : Int) (p : Pl) (ks : List Int) (e1 : Int) (s1 : St) (F1 G1 : Nat → Prop), c9 = .int .u64 last ∧ 0 ≤ last ∧ last ≤ 18446744073709551615 ∧ p.Bd ∧ ks.length + gk = N ∧ Hid (fGo q count gk last p ks e1 s1 = some (p', ks', e', s')) ∧ Hid (Fnd t h pb rb (n + 2 * gk) F0 w0 J wr F1 G1 s1 e1 p ks))
  case atStart => exact ⟨0, _, [], e2, s2, F2, G, rfl, by omega, by omega, ⟨(uAdd_bd l 1).1, (uAdd_bd l 1).2, by simp, by simp, by simp, by simp, by simp, by simp⟩, by simp, hq0, K0⟩
  case round =>
    obtain ⟨last, p, ks, e1, s1, F1, G1, rfl, dl, dl', hB, hks, hq, hK⟩ := hrel
    clear hq0 K0
    obtain ⟨m, rfl⟩ : ∃ m, gk = m + 1 := by
      rcases gk with _ | m
      · have := hq.out; simp [fGo] at this
      · exact ⟨m, rfl⟩
    obtain ⟨c0, c1, c2, c3, z0, z1, z2, z3⟩ := hK.out.cells
    have hB := Lib.hid hB
    have hks := Lib.hid hks
    go_wp2_with fail
    refine (hget_b (n := n + 2 * m + 1) hK.out.tx hK.out.hd hK.out.hn hK.out.f hK.out.b hB.out.1 (Fr.refl _ _)).mono ?_
    rintro _ w4 ⟨nx, e4, s4, q4, dx, dx', rfl, hL4⟩
    obtain ⟨F4, K4⟩ := hK.out.turn HJ.out hL4
    clear hK hL4 c0 c1 c2 c3 z0 z1 z2 z3
    have K5 := Lib.hid (K4.next HJ.out nx)
    obtain ⟨-, c1, -, -, -, z1, -, -⟩ := K4.cells
    obtain ⟨c0, c1', c2, c3, z0, z1', z2, z3⟩ := K5.out.cells
    obtain ⟨-, d1, -⟩ := K5.out.hd.cells
    obtain ⟨r0, r1, r2, r3, y0, y1, y2, y3⟩ := K5.out.rcells
    clear K4
    by_cases he : e4 = 0
    case neg =>
      have he' : (e4 != 0) = true := by simpa using he
      have hr := hq.out.symm.trans (fGo_e1 (k := m) q4.out he)
      obtain ⟨rfl, rfl, rfl, rfl⟩ : p' = { p with next := nx } ∧ ks' = ks ∧ e' = e4 ∧ s' = s4 := by simpa using hr
      have HB := hB.out
      clear hq hr he
      obtain ⟨hBr, hL⟩ := Fnd.fin HJ.out ((K5.out).mono (m := n) (by omega)) rfl rfl rfl rfl; have hL := Lib.hid hL; have b0 := hBr.cell 0; have b1 := hBr.cell 1; have b2 := hBr.cell 2; have b3 := hBr.cell 3; simp only [plc, List.getElem?_toArray, List.getElem?_cons_zero, List.getElem?_cons_succ] at b0 b1 b2 b3; clear hBr; go_wp2_with fail; (try rw [Exit.noGoto_ret]); refine bodyPost_ret (v := .agg (plc { p with next := nx })) (by simp [results, Try.func46, go_sem, b0, b1, b2, b3, plc]) rfl ?_; exact ⟨rfl, ⟨HB.1, HB.2.1, dx, dx', HB.2.2.2.2⟩, by have := hks.out; simp; omega, hL.out⟩
    subst he
    by_cases hnx : nx = 0
    · subst hnx
      have hr := hq.out.symm.trans (fGo_end (k := m) q4.out)
      obtain ⟨rfl, rfl, hE, rfl⟩ : p' = { p with next := 0 } ∧ ks' = ks ∧ e' = (if p.ahead = count then 0 else 310) ∧ s' = s4 := by simpa using hr
      have HB := hB.out
      clear hq hr
      by_cases hcnt : p.ahead = count
      · have hz : (p.ahead != count) = false := by simpa using hcnt
        rw [if_pos hcnt] at hE
        subst hE
        clear hcnt
        obtain ⟨hBr, hL⟩ := Fnd.fin HJ.out ((K5.out).mono (m := n) (by omega)) rfl rfl rfl rfl; have hL := Lib.hid hL; have b0 := hBr.cell 0; have b1 := hBr.cell 1; have b2 := hBr.cell 2; have b3 := hBr.cell 3; simp only [plc, List.getElem?_toArray, List.getElem?_cons_zero, List.getElem?_cons_succ] at b0 b1 b2 b3; clear hBr; go_wp2_with fail; (try rw [Exit.noGoto_ret]); refine bodyPost_ret (v := .agg (plc { p with next := 0 })) (by simp [results, Try.func46, go_sem, b0, b1, b2, b3, plc]) rfl ?_; exact ⟨rfl, ⟨HB.1, HB.2.1, by simp, by simp, HB.2.2.2.2⟩, by have := hks.out; simp; omega, hL.out⟩
      · have hz : (p.ahead != count) = true := by simpa using hcnt
        rw [if_neg hcnt] at hE
        subst hE
        clear hcnt
        go_wp2_with fail
        refine (hbad_b (n := n + 2 * m + 1) K5.out.tx K5.out.hd K5.out.hn K5.out.f K5.out.b (Fr.refl _ _)).mono ?_
        rintro _ w6 ⟨rfl, hL6⟩
        obtain ⟨F6, K6⟩ := K5.out.turn HJ.out hL6
        have K6 := Lib.hid K6
        clear hL6 K5 c0 c1 c1' c2 c3 z0 z1 z1' z2 z3 d1 r0 r1 r2 r3 y0 y1 y2 y3
        obtain ⟨c0, c1, c2, c3, z0, z1, z2, z3⟩ := (K6.out).cells; obtain ⟨-, d1, -⟩ := (K6.out).hd.cells; obtain ⟨r0, r1, r2, r3, y0, y1, y2, y3⟩ := (K6.out).rcells
        obtain ⟨hBr, hL⟩ := Fnd.fin HJ.out ((K6.out).mono (m := n) (by omega)) rfl rfl rfl rfl; have hL := Lib.hid hL; have b0 := hBr.cell 0; have b1 := hBr.cell 1; have b2 := hBr.cell 2; have b3 := hBr.cell 3; simp only [plc, List.getElem?_toArray, List.getElem?_cons_zero, List.getElem?_cons_succ] at b0 b1 b2 b3; clear hBr; go_wp2_with fail; (try rw [Exit.noGoto_ret]); refine bodyPost_ret (v := .agg (plc { p with next := 0 })) (by simp [results, Try.func46, go_sem, b0, b1, b2, b3, plc]) rfl ?_; exact ⟨rfl, ⟨HB.1, HB.2.1, by simp, by simp, HB.2.2.2.2⟩, by have := hks.out; simp; omega, hL.out⟩
    have hz : (nx == 0) = false := by simpa using hnx
    obtain ⟨u1, u2⟩ := uw_bd (nx - 1)
    have Hnx := Lib.hid hnx
    clear hnx
    go_wp2_with fail
    refine (hget_b (n := n + 2 * m) K5.out.tx K5.out.hd K5.out.hn K5.out.f K5.out.b u1 (Fr.refl _ _)).mono ?_
    rintro _ w6 ⟨key, e6, s6, q6, dk, dk', rfl, hL6⟩
    obtain ⟨F6, K6⟩ := K5.out.turn HJ.out hL6
    clear hL6 K5 c0 c1 c1' c2 c3 z0 z1 z1' z2 z3 d1 r0 r1 r2 r3 y0 y1 y2 y3
    have K7 := Lib.hid (K6.key HJ.out key)
    obtain ⟨-, -, C2, -, -, -, Z2, -⟩ := K6.cells
    clear K6
    obtain ⟨c0, c1, c2, c3, z0, z1, z2, z3⟩ := (K7.out).cells; obtain ⟨-, d1, -⟩ := (K7.out).hd.cells; obtain ⟨r0, r1, r2, r3, y0, y1, y2, y3⟩ := (K7.out).rcells
    by_cases he : e6 = 0
    case neg =>
      have he' : (e6 != 0) = true := by simpa using he
      have hr := hq.out.symm.trans (fGo_e2 (k := m) q4.out Hnx.out q6.out he)
      obtain ⟨rfl, rfl, rfl, rfl⟩ : p' = { p with next := nx, key := key } ∧ ks' = ks ∧ e' = e6 ∧ s' = s6 := by simpa using hr
      have HB := hB.out
      clear hq hr he
      obtain ⟨hBr, hL⟩ := Fnd.fin HJ.out ((K7.out).mono (m := n) (by omega)) rfl rfl rfl rfl; have hL := Lib.hid hL; have b0 := hBr.cell 0; have b1 := hBr.cell 1; have b2 := hBr.cell 2; have b3 := hBr.cell 3; simp only [plc, List.getElem?_toArray, List.getElem?_cons_zero, List.getElem?_cons_succ] at b0 b1 b2 b3; clear hBr; go_wp2_with fail; (try rw [Exit.noGoto_ret]); refine bodyPost_ret (v := .agg (plc { p with next := nx, key := key })) (by simp [results, Try.func46, go_sem, b0, b1, b2, b3, plc]) rfl ?_; exact ⟨rfl, ⟨HB.1, HB.2.1, dx, dx', dk, dk', HB.2.2.2.2.2.2⟩, by have := hks.out; simp; omega, hL.out⟩
    subst he
    have hHB := hB.out.2.2.2.2.2.2
    by_cases hbad : count ≤ p.ahead ∨ 0 < p.ahead ∧ key ≤ last
    · have hr := hq.out.symm.trans (fGo_bad (k := m) q4.out Hnx.out q6.out hbad)
      obtain ⟨rfl, rfl, rfl, rfl⟩ : p' = { p with next := nx, key := key } ∧ ks' = ks ∧ e' = 310 ∧ s' = s6 := by simpa using hr
      have HB := hB.out
      have hcases : Hid ((decide (count ≤ p.ahead) = true) ∨ (decide (count ≤ p.ahead) = false ∧ decide (0 < p.ahead) = true ∧ decide (key ≤ last) = true)) := Lib.hid (by
        by_cases h1 : count ≤ p.ahead
        · exact .inl (decide_eq_true h1)
        · exact .inr ⟨decide_eq_false h1, decide_eq_true (hbad.resolve_left h1).1, decide_eq_true (hbad.resolve_left h1).2⟩)
      clear hq hr hbad
      rcases hcases.out with g1 | ⟨g1, g2, g3⟩
      all_goals
        clear hcases
        go_wp2_with fail
        refine (hbad_b (n := n + 2 * m) K7.out.tx K7.out.hd K7.out.hn K7.out.f K7.out.b (Fr.refl _ _)).mono ?_
        rintro _ w8 ⟨rfl, hL8⟩
        obtain ⟨F8, K8⟩ := K7.out.turn HJ.out hL8
        have K8 := Lib.hid K8
        clear hL8 K7 c0 c1 c2 c3 z0 z1 z2 z3 d1 r0 r1 r2 r3 y0 y1 y2 y3 C2 Z2
        obtain ⟨c0, c1, c2, c3, z0, z1, z2, z3⟩ := (K8.out).cells; obtain ⟨-, d1, -⟩ := (K8.out).hd.cells; obtain ⟨r0, r1, r2, r3, y0, y1, y2, y3⟩ := (K8.out).rcells
        obtain ⟨hBr, hL⟩ := Fnd.fin HJ.out ((K8.out).mono (m := n) (by omega)) rfl rfl rfl rfl; have hL := Lib.hid hL; have b0 := hBr.cell 0; have b1 := hBr.cell 1; have b2 := hBr.cell 2; have b3 := hBr.cell 3; simp only [plc, List.getElem?_toArray, List.getElem?_cons_zero, List.getElem?_cons_succ] at b0 b1 b2 b3; clear hBr; go_wp2_with fail; (try rw [Exit.noGoto_ret]); refine bodyPost_ret (v := .agg (plc { p with next := nx, key := key })) (by simp [results, Try.func46, go_sem, b0, b1, b2, b3, plc]) rfl ?_; exact ⟨rfl, ⟨HB.1, HB.2.1, dx, dx', dk, dk', HB.2.2.2.2.2.2⟩, by have := hks.out; simp; omega, hL.out⟩
    have hcases : Hid (decide (count ≤ p.ahead) = false ∧ (decide (0 < p.ahead) = false ∨ (decide (0 < p.ahead) = true ∧ decide (key ≤ last) = false))) := Lib.hid (by
        refine ⟨decide_eq_false fun h1 => hbad (.inl h1), ?_⟩
        by_cases h1 : 0 < p.ahead
        · exact .inr ⟨decide_eq_true h1, decide_eq_false fun h2 => hbad (.inr ⟨h1, h2⟩)⟩
        · exact .inl (decide_eq_false h1))
    have Hbad := Lib.hid hbad
    clear hbad
    obtain ⟨g1, hcs⟩ := hcases.out
    rcases hcs with g2 | ⟨g2, g3⟩
    all_goals
      clear hcases
      have HE := HJ.out.ent
      go_wp2_with fail
      clear HE
      refine (HJ.out.call (fun k hk => hk.elim (K7.out.tx.lt k) fun h => h ▸ Blk.lt K7.out.hd) (by have := hks.out; omega) dk dk' K7.out.j).mono ?_
      rintro _ w8 ⟨rfl, G8, hJ8, hm8⟩
      have K8 := Lib.hid (K7.out.asked HJ.out hJ8 hm8)
      clear hJ8 hm8 K7 c0 c1 c2 c3 z0 z1 z2 z3 d1 r0 r1 r2 r3 y0 y1 y2 y3 C2 Z2
      obtain ⟨c0, c1, c2, c3, z0, z1, z2, z3⟩ := (K8.out).cells; obtain ⟨-, d1, -⟩ := (K8.out).hd.cells; obtain ⟨r0, r1, r2, r3, y0, y1, y2, y3⟩ := (K8.out).rcells
      cases hqk : q key
      · have hr := hq.out.symm.trans (fGo_stop (k := m) q4.out Hnx.out q6.out Hbad.out hqk)
        obtain ⟨rfl, rfl, rfl, rfl⟩ : p' = { p with next := nx, key := key } ∧ ks' = ks ++ [key] ∧ e' = 0 ∧ s' = s6 := by simpa using hr
        have HB := hB.out
        clear hq hr
        obtain ⟨hBr, hL⟩ := Fnd.fin HJ.out ((K8.out).mono (m := n) (by omega)) rfl rfl rfl rfl; have hL := Lib.hid hL; have b0 := hBr.cell 0; have b1 := hBr.cell 1; have b2 := hBr.cell 2; have b3 := hBr.cell 3; simp only [plc, List.getElem?_toArray, List.getElem?_cons_zero, List.getElem?_cons_succ] at b0 b1 b2 b3; clear hBr; go_wp2_with fail; (try rw [Exit.noGoto_ret]); refine bodyPost_ret (v := .agg (plc { p with next := nx, key := key })) (by simp [results, Try.func46, go_sem, b0, b1, b2, b3, plc]) rfl ?_; exact ⟨rfl, ⟨HB.1, HB.2.1, dx, dx', dk, dk', HB.2.2.2.2.2.2⟩, by have := hks.out; simp; omega, hL.out⟩
      · have hr := hq.out.symm.trans (fGo_on (k := m) q4.out Hnx.out q6.out Hbad.out hqk)
        go_wp2_with fail
        have K9 := Lib.hid ((K8.out.fro HJ.out nx).ahd HJ.out (IntKind.u64.wrap (p.ahead + 1)))
        clear K8
        go_roundg m
        case measure => omega
        case rel => exact ⟨key, { from_ := nx, next := nx, key := key, ahead := uAdd p.ahead 1 }, ks ++ [key], 0, s6, F6, G8, rfl, dk, dk', ⟨dx, dx', dx, dx', dk, dk', uAdd_bd _ _⟩, by have := hks.out; simp; omega, Lib.hid hr.symm, K9⟩
  all_goals skip
end Go.Proofs.Ytcohopobjppmaaa
