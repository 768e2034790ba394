/- The document's queues: Take and Drop by contract. -/
import Derived.Test.YtfbbmnlebibplaaQuM
namespace Go.Proofs.Ytfbbmnlebibplaa
open Go.RowKit
set_option maxHeartbeats 4000000
set_option linter.unusedVariables false
set_option linter.unusedSimpArgs false

theorem reftake_none {b g : Nat} {X : Nat → Prop} {d : Int} {words : List Int} {w : World} (hQ : Qm w g X ⟨d, [], words⟩) :
    Calls Try.prog 23 #[.pointer (some ⟨g, 0, none⟩), .pointer (some ⟨b, 0, none⟩)] w fun e w' => e = .returned (.tuple #[.int .u64 0, .bool false]) ∧ w = w' := by
  obtain ⟨A, c, A', c', k0, k1, k2, k3, k4, k5, k6⟩ := hQ.cells
  simp only [List.length_nil] at k1
  clear hQ k0 k2 k3 k4 k5 k6
  go_enter Try.func23, Try.ntmps23
  go_wp2
  go_ret2
  exact ⟨rfl, rfl⟩
/-- a list without its first word -/
theorem Wl.tail1 {w : World} {A : Option Addr} {x : Int} {l : List Int} (h : Wl w (.slice A (x :: l).length 1) (x :: l)) : Wl w (.slice A 0 0) l := by
  have h0 : Rowv w 0 33 1 (.slice A (l.length + 1) 1) (l.length + 1) (u64s (x :: l)) := h
  obtain ⟨g, off, cap, hv, _, _, hcap, _⟩ := Rowv.at_ h0 (by omega)
  injection hv with hA _ hc
  have hl : l = [] := List.eq_nil_of_length_eq_zero (by omega)
  subst hl
  exact Rowv.behindAll h0
theorem Wl.tail2 {w : World} {g o c : Nat} {x : Int} {l : List Int} (h : Wl w (.slice (some ⟨g, o, none⟩) (x :: l).length c) (x :: l)) (hc : 1 < c) : Wl w (.slice (some ⟨g, o + 1, none⟩) l.length (c - 1)) l := by
  have h0 : Rowv w 0 33 1 (.slice (some ⟨g, o, none⟩) (l.length + 1) c) (l.length + 1) (u64s (x :: l)) := h
  have := Rowv.behind (m := 1) h0 (by omega) (by omega)
  unfold Wl
  simpa [u64s] using this
/-- The list of a queue without its first node, without its first word. -/
theorem Qm.cut {w : World} {g : Nat} {X : Nat → Prop} {d nd y : Int} {ns ys : List Int} {vn vw sn sw : Value} (hB : Blk w g 42 #[.int .u64 d, vn, vw]) (hn : Wl w sn ns) (hw : Wl w sw ys) (on : ∀ k, own sn k ↔ own vn k) (ow : ∀ k, own sw k ↔ own vw k) (hd : ∀ k, own vn k → ¬ own vw k) (hX : ∀ k, X k ↔ (k = g ∨ own vn k ∨ own vw k)) :
    Qm ((w.setCell ⟨g, 1, none⟩ sn).setCell ⟨g, 2, none⟩ sw) g X ⟨d, ns, ys⟩ := by
  have h1 := (hB.set_ 1 sn).set_ 2 sw
  have hgn : ¬ own sn g := hn.ne_ hB (by decide)
  have hgw : ¬ own sw g := hw.ne_ hB (by decide)
  exact ⟨sn, sw, by simpa using h1, (hn.set (p := ⟨g, 1, none⟩) hgn _).set (p := ⟨g, 2, none⟩) hgn _, (hw.set (p := ⟨g, 1, none⟩) hgw _).set (p := ⟨g, 2, none⟩) hgw _, fun k h => by rw [ow k]; exact hd k ((on k).1 h), fun k => by rw [on k, ow k]; exact hX k⟩

set_option maxRecDepth 100000 in
theorem reftake_yes {b g n : Nat} {F X : Nat → Prop} {r r' : St} {nd y d : Int} {ns ys : List Int} {w : World} (hw : Wld w b F r) (hf : Fits r) (hb : Bud r (n + 3)) (hq : Hid (rGive r 0 nd 2 = (0, r'))) (h1 : 0 ≤ nd) (h2 : nd ≤ 18446744073709551615)
    (hQ : Qm w g X ⟨d, nd :: ns, y :: ys⟩) (hXF : ∀ k, X k → ¬ F k) (hn : ns.length ≤ 1000000) (hn' : ys.length ≤ 1000000) :
    Calls Try.prog 23 #[.pointer (some ⟨g, 0, none⟩), .pointer (some ⟨b, 0, none⟩)] w fun e w' => ∃ F', e = .returned (.tuple #[.int .u64 y, .bool true]) ∧ LftR b n F w r' F' w' ∧ Qm w' g X ⟨d, ns, ys⟩ ∧ (∀ k, F' k → ¬ X k) ∧ Fr (fun k => F k ∨ X k) w (fun k => F' k ∨ X k) w' := by
  obtain ⟨vn, vw, hB, hvn, hvw, hnw, hX⟩ := id hQ
  obtain ⟨An, cn, rfl, hcn⟩ := hvn.shape
  obtain ⟨Aw, cw, rfl, hcw⟩ := hvw.shape
  simp only [List.length_cons] at hB hvn hvw hcn hcw hnw hX
  have dB1 := hB.cell 1
  have dB2 := hB.cell 2
  simp only [List.getElem?_toArray, List.getElem?_cons_zero, List.getElem?_cons_succ] at dB1 dB2
  obtain ⟨gn, on, hAn, _, cN, _, _⟩ := hvn.upd (j := 0) (by simp)
  obtain ⟨gw, ow, hAw, _, cW, _, _⟩ := hvw.upd (j := 0) (by simp)
  subst hAn
  subst hAw
  simp only [List.getD_cons_zero, Nat.add_zero] at cN cW
  have HQ := Lib.hid hQ
  have HX := Lib.hid hX
  have hcn' : (1 : Int) ≤ cn := by omega
  have hcw' : (1 : Int) ≤ cw := by omega
  have hb : Bud r (n + 3) := hb
  clear hQ hB hvn hvw hnw hX
  go_enter Try.func23, Try.ntmps23
  go_wp2_with fail
  refine (wgive_b hw hf hb (by omega) h1 h2 (by omega) (by omega) (Fr.refl _ _)).mono ?_
  rintro e w1 ⟨er, s1, q1, rfl, f1, b1, F1, hw1, hm1⟩
  obtain ⟨rfl, rfl⟩ : 0 = er ∧ r' = s1 := by have := hq.out.symm.trans q1.out; simpa using this
  have hQ1 := HQ.out.fr hm1 hXF
  have hXF1 : ∀ k, X k → k < w1.heap.size ∧ ¬ F1 k := hm1.apart fun k hk => ⟨HQ.out.lt k hk, hXF k hk⟩
  obtain ⟨vn, vw, hB1, hvn1, hvw1, hnw1, hX1⟩ := hQ1
  have dC1 := hB1.cell 1
  have dC2 := hB1.cell 2
  have zC1 := hB1.frozen 1
  have zC2 := hB1.frozen 2
  have hXg : X g := (hX1 g).2 (.inl rfl)
  have hkB : Blk w1 g 42 #[.int .u64 d, vn, vw] := hB1
  have hBw : w1.heap[g]? = w.heap[g]? := hm1.block g (HQ.out.lt g hXg) (hXF g hXg)
  have c1 : w1.cell? ⟨g, 1, none⟩ = w.cell? ⟨g, 1, none⟩ := by unfold World.cell?; simp only [hBw]
  have c2 : w1.cell? ⟨g, 2, none⟩ = w.cell? ⟨g, 2, none⟩ := by unfold World.cell?; simp only [hBw]
  rw [c1, dB1] at dC1
  rw [c2, dB2] at dC2
  simp only [List.getElem?_toArray, List.getElem?_cons_zero, List.getElem?_cons_succ, Option.some.injEq] at dC1 dC2
  subst dC1
  subst dC2
  have e1 := c1.trans dB1
  have e2 := c2.trans dB2
  clear c1 c2 hBw hkB
  have hK := Lib.hid fun (sn sw : Value) (hn : Wl w1 sn ns) (hw : Wl w1 sw ys) (on : ∀ k, own sn k ↔ own (.slice (some ⟨gn, on, none⟩) (ns.length + 1) cn) k) (ow : ∀ k, own sw k ↔ own (.slice (some ⟨gw, ow, none⟩) (ys.length + 1) cw) k) => Qm.cut (nd := nd) (y := y) hB1 hn hw on ow hnw1 hX1
  have hFg : ¬ F1 g := (hXF1 g hXg).2
  have hW2 := Lib.hid fun (sn sw : Value) => (show LftR b n F w r' F1 ((w1.setCell ⟨g, 1, none⟩ sn).setCell ⟨g, 2, none⟩ sw) from ⟨f1, b1, (hw1.set (p := ⟨g, 1, none⟩) hFg sn).set (p := ⟨g, 2, none⟩) hFg sw⟩)
  have hM2 := Lib.hid fun (sn sw : Value) => (show Fr (fun k => F k ∨ X k) w (fun k => F1 k ∨ X k) ((w1.setCell ⟨g, 1, none⟩ sn).setCell ⟨g, 2, none⟩ sw) from ((hm1.side X).set (p := ⟨g, 1, none⟩) (.inl (.inr hXg)) sn).set (p := ⟨g, 2, none⟩) (.inl (.inr hXg)) sw)
  have hFX := Lib.hid fun k (hk : F1 k) (hx : X k) => (hXF1 k hx).2 hk
  have hvn1' := Lib.hid hvn1
  have hvw1' := Lib.hid hvw1
  clear hw hf hb hq q1 hm1 hXF1 hB1 hvn1 hvw1 hnw1 hX1 hw1 HQ HX hXF f1 b1
  have hown : ∀ (A : Option Addr) (a b a' b' : Nat) k, own (.slice A a b) k ↔ own (.slice A a' b') k := fun A _ _ _ _ k => ⟨own_len, own_len⟩
  have HO := Lib.hid hown
  clear hown
  rcases Nat.lt_or_ge 1 cn with g1 | g1
  · have en : (cn = 1) = False := by simp; omega
    rcases Nat.lt_or_ge 1 cw with g2 | g2
    · have ew : (cw = 1) = False := by simp; omega
      go_wp2
      go_ret2
      exact ⟨F1, rfl, hW2.out _ _, hK.out _ _ (hvn1'.out.tail2 g1) (hvw1'.out.tail2 g2) (fun k => by simp [own, Value.ownBlock]) (fun k => by simp [own, Value.ownBlock]), hFX.out, hM2.out _ _⟩
    · obtain rfl : cw = 1 := by omega
      go_wp2
      go_ret2
      exact ⟨F1, rfl, hW2.out _ _, hK.out _ _ (hvn1'.out.tail2 g1) hvw1'.out.tail1 (fun k => by simp [own, Value.ownBlock]) (fun k => by simp [own, Value.ownBlock]), hFX.out, hM2.out _ _⟩
  · obtain rfl : cn = 1 := by omega
    rcases Nat.lt_or_ge 1 cw with g2 | g2
    · have ew : (cw = 1) = False := by simp; omega
      go_wp2
      go_ret2
      exact ⟨F1, rfl, hW2.out _ _, hK.out _ _ hvn1'.out.tail1 (hvw1'.out.tail2 g2) (fun k => by simp [own, Value.ownBlock]) (fun k => by simp [own, Value.ownBlock]), hFX.out, hM2.out _ _⟩
    · obtain rfl : cw = 1 := by omega
      go_wp2
      go_ret2
      exact ⟨F1, rfl, hW2.out _ _, hK.out _ _ hvn1'.out.tail1 hvw1'.out.tail1 (fun k => by simp [own, Value.ownBlock]) (fun k => by simp [own, Value.ownBlock]), hFX.out, hM2.out _ _⟩

theorem rGives_drop {l : List Int} {i : Nat} (h : i < l.length) (r : St) : rGives (l.drop i) r = rGives (l.drop (i + 1)) (rGive r 0 (l.getD i 0) 2).2 := by
  rw [List.drop_eq_getElem_cons h, rGives, List.getD_eq_getElem?_getD, List.getElem?_eq_getElem h]
  rfl
set_option maxRecDepth 100000 in
theorem refdrop_b {b g n : Nat} {F X : Nat → Prop} {r : St} {q : Qr} {w : World} (hw : Wld w b F r) (hf : Fits r) (hb : Bud r (n + 3 + 3 * q.nodes.length)) (hd : 0 ≤ q.hd) (hd' : q.hd ≤ 18446744073709551615) (hnb : ∀ x ∈ q.nodes, 0 ≤ x ∧ x ≤ 18446744073709551615)
    (hQ : Qm w g X q) (hXF : ∀ k, X k → ¬ F k) (hn : q.nodes.length ≤ 1000000) :
    Calls Try.prog 27 #[.pointer (some ⟨g, 0, none⟩), .pointer (some ⟨b, 0, none⟩)] w fun e w' => ∃ F', e = .returned (.tuple #[]) ∧ LftR b n F w (rGive (rGives q.nodes r) 0 q.hd 3).2 F' w' ∧ Fr F w F' w' := by
  obtain ⟨d, nodes, words⟩ := q
  simp only at hb hd hd' hnb hn ⊢
  go_enter Try.func27, Try.ntmps27
  go_wp2
  have HQ := Lib.hid hQ
  have HN := Lib.hid hnb
  have HXF := Lib.hid hXF
  clear hQ hnb hXF
  go_loopg [4] nodes.length (fun gk c4 wr => ∃ (i : Nat) (r1 : St) (F1 : Nat → Prop), gk + i = nodes.length ∧ c4 = .int .i64 (i : Int) ∧ Hid (rGives nodes r = rGives (nodes.drop i) r1) ∧ Fits r1 ∧ Bud r1 (n + 3 + 3 * gk) ∧ Wld wr b F1 r1 ∧ Fr F w F1 wr)
  case atStart => exact ⟨0, r, F, rfl, rfl, Lib.hid (by simp), hf, hb, hw, Fr.refl _ _⟩
  case round =>
    obtain ⟨i, r1, F1, hgk, rfl, hR, f1, b1, hw1, hm1⟩ := hrel
    have hQ1 := Lib.hid (HQ.out.fr hm1 HXF.out)
    obtain ⟨A, c, A', c', k0, k1, k2, hc, hc', kN, kW⟩ := hQ1.out.cells
    have hgk' := Lib.hid hgk
    simp only at k0 k1
    have KN := Lib.hid kN
    clear hw hf hb kN kW k2 hgk
    by_cases hi : i < nodes.length
    · obtain ⟨m, rfl⟩ : ∃ m, gk = m + 1 := ⟨gk - 1, by have := hgk'.out; omega⟩
      obtain ⟨_, _, e1, _, _, kj⟩ := KN.out
      obtain ⟨g1, o1, hA1, cj⟩ := kj i hi
      injection e1 with e1a e1b e1c
      subst e1a
      subst hA1
      have hnd := HN.out _ (show nodes.getD i 0 ∈ nodes by rw [List.getD_eq_getElem?_getD, List.getElem?_eq_getElem hi]; exact List.getElem_mem hi)
      have hR2 := Lib.hid (hR.out.trans (rGives_drop hi r1))
      generalize nodes.getD i 0 = nd at *
      obtain ⟨hnd1, hnd2⟩ := hnd
      have b1' : Bud r1 ((n + 3 + 3 * m) + 3) := b1.mono (by omega)
      have hi' : (i : Int) < nodes.length := by omega
      clear KN kj b1 hR e1b e1c
      go_wp2_with fail
      refine (wgive_b hw1 f1 b1' (by omega) hnd1 hnd2 (by omega) (by omega) (Fr.refl _ _)).mono ?_
      rintro e w3 ⟨er, s3, q3, rfl, f3, b3, F3, hw3, hm3⟩
      have hR3 : Hid (rGives nodes r = rGives (nodes.drop (i + 1)) s3) := Lib.hid (by rw [hR2.out, q3.out])
      have hM3 := Lib.hid (hm1.trans hm3)
      have hw3' := Lib.hid hw3
      clear hw1 hm1 hm3 q3 hR2 k1 k0 cj hw3
      go_wp2
      go_roundg m
      case measure => omega
      case rel => exact ⟨i + 1, s3, F3, by have := hgk'.out; omega, by go_num, hR3, f3, b3, hw3'.out, hM3.out⟩
    · obtain rfl : i = nodes.length := by have := hgk'.out; omega
      obtain rfl : gk = 0 := by have := hgk'.out; omega
      have hR2 : Hid (rGives nodes r = r1) := Lib.hid (by rw [hR.out]; simp; rfl)
      have b1' : Bud r1 (n + 3) := b1
      clear KN b1 hR hi
      go_wp2_with fail
      refine (wgive_b hw1 f1 b1' (by omega) hd hd' (by omega) (by omega) (Fr.refl _ _)).mono ?_
      rintro e w3 ⟨er, s3, q3, rfl, f3, b3, F3, hw3, hm3⟩
      have hR3 : Hid ((rGive (rGives nodes r) 0 d 3).2 = s3) := Lib.hid (by rw [hR2.out, q3.out])
      have hM3 := Lib.hid (hm1.trans hm3)
      have hw3' := Lib.hid hw3
      clear hw1 hm1 hm3 q3 hR2 k1 k0 hw3
      go_wp2
      go_end0
      exact ⟨F3, rfl, by rw [hR3.out]; exact ⟨f3, b3, hw3'.out⟩, hM3.out⟩
end Go.Proofs.Ytfbbmnlebibplaa
