/- A list cleared, by contract. -/
import Derived.Test.YtcohopobjppmaaaLiK
namespace Go.Proofs.Ytcohopobjppmaaa
open Go.RowKit
set_option maxHeartbeats 4000000
set_option linter.unusedVariables false
set_option linter.unusedSimpArgs false

set_option maxRecDepth 100000 in
theorem clear_b {t n N : Nat} {F F0 : Nat → Prop} {s s1 : St} {e1 a l : Int} {w w0 : World} {p' : Pl} {ks' : List Int}
    (hw : Txw w t F s) (hf : Fits s) (hb : Bud s (n + 3 * N + 2 + N + 1 + 2 * N + 1)) (hN : N ≤ 60000) (ha : 0 ≤ a) (hl : 0 ≤ l) (hl' : l ≤ 18446744073709551615) (hR : hfind (fun _ => true) N s 0 l = some (p', ks', e1, s1)) (hm : Fr F0 w0 F w) :
    Calls Try.prog 27 #[.iface 31 (.pointer (some ⟨t, 0, none⟩)), .int .u64 a, .int .u64 l] w fun en w' =>
      en = .returned (.tuple #[.int .u64 (lClr ks'.length e1 s1 a l).1, .int .i64 (lClr ks'.length e1 s1 a l).2.1]) ∧ Lft t n F0 w0 (lClr ks'.length e1 s1 a l).2.2 w' := by
  have T1 := hw.alloc (.cells #[.iface 31 (.pointer (some ⟨t, 0, none⟩)), .int .i64 0] 73)
  have H1 : Hnd (w.alloc (.cells #[.iface 31 (.pointer (some ⟨t, 0, none⟩)), .int .i64 0] 73)) w.heap.size t 0 := Blk.new w _ _
  have n1 : ¬ F w.heap.size := fun c => by have := hw.lt _ c; omega
  have hM := Lib.hid (hm.alloc (.cells #[.iface 31 (.pointer (some ⟨t, 0, none⟩)), .int .i64 0] 73))
  have hs := hm.size
  have hkl := hfind_len hR
  clear hw hm
  go_enter Try.func27, Try.ntmps27
  go_wp2_with fail
  generalize w.alloc (.cells #[.iface 31 (.pointer (some ⟨t, 0, none⟩)), .int .i64 0] 73) = w1 at *
  generalize w.heap.size = h at *
  refine (nodes_b (n := n + 3 * N + 2) T1 H1 n1 hf hb hN hl hl' hR (Fr.refl _ _)).mono ?_
  rintro _ w2 ⟨v, ns, e2, s2, q2, rfl, hln, hL⟩
  have hbd := nodesR_bd ks'.length e1 l s1
  rw [q2.out] at hbd
  have hbd := Lib.hid hbd
  obtain ⟨A, cp, rfl, hcp⟩ := hL.2.2.1.shape
  obtain ⟨f2, b2, W2, F2, T2, H2, n2, o2, m2⟩ := hL
  have m2r := Fr.refl (fun k => F2 k ∨ k = h) w2
  clear T1 H1 n1 hf hb hR
  go_wp2_with fail
  refine (hput_b (n := n + 3 * N + 1) T2 H2 n2 f2 b2 hl (by omega) (by omega) m2r).mono ?_
  rintro _ w3 ⟨e3, s3, q3, rfl, hL3⟩
  obtain ⟨f3, b3, W3, F3, T3, H3, n3, o3, m3⟩ := LftN.turn W2 o2 m2 hL3
  clear T2 H2 n2 f2 b2 W2 o2 m2 m2r hL3
  have m3r := Fr.refl (fun k => F3 k ∨ k = h) w3
  go_wp2_with fail
  refine (hput_b (n := n + 3 * N) T3 H3 n3 f3 b3 (uw_bd _).1 (by omega) (by omega) m3r).mono ?_
  rintro _ w4 ⟨e4, s4, q4, rfl, hL4⟩
  have hL4 := Lib.hid (LftN.turn W3 o3 m3 hL4)
  clear T3 H3 n3 f3 b3 W3 o3 m3 m3r
  have hq : Hid (∀ e5 s5, giveAll a ns e4 s4 = (e5, s5) → lClr ks'.length e1 s1 a l = if e5 ≠ 0 then (0, e5, s5) else ((ns.length : Int), 0, s5)) := Lib.hid fun e5 s5 h => by
    unfold lClr
    rw [q2.out]; simp only
    rw [q3.out]; simp only
    rw [show uAdd l 1 = IntKind.u64.wrap (l + 1) from rfl, q4.out]; simp only
    rw [h]
  obtain ⟨R, hRR⟩ : ∃ R, giveAll a ns e4 s4 = R := ⟨_, rfl⟩
  obtain ⟨e5, s5⟩ := R
  have hq := Lib.hid (hq.out e5 s5 hRR)
  have hR0 : Hid (giveAll a (ns.drop 0) e4 s4 = (e5, s5)) := Lib.hid hRR
  have hL4 : Hid (LftN t h (n + 3 * ns.length) (fun k => F k ∨ k = h) w1 s4 e4 (.slice A ns.length cp) ns w4) := Lib.hid (hL4.out.mono (by omega))
  have hnb : ns.length ≤ 60000 := by omega
  clear q2 q3 q4 hRR hln hkl
  generalize hnl : ns.length = nl at *
  go_wp2_with fail
  go_loopg [29] nl (fun gk c29 wr => ∃ (i : Nat) (ei : Int) (si : St), i + gk = nl ∧ c29 = .int .i64 (i : Int) ∧ Hid (giveAll a (ns.drop i) ei si = (e5, s5)) ∧ Hid (LftN t h (n + 3 * gk) (fun k => F k ∨ k = h) w1 si ei (.slice A nl cp) ns wr))
  case atStart => exact ⟨0, e4, s4, by omega, rfl, hR0, hL4⟩
  case round =>
    obtain ⟨i, ei, si, hi, rfl, hg, hL⟩ := hrel
    clear hL4 hR0
    obtain ⟨f4, b4, W4, F4, T4, H4, n4, o4, m4⟩ := id hL.out
    obtain ⟨-, d4, -⟩ := H4.cells
    by_cases hlt : i < nl
    · have hf0 : decide (i < nl) = true := decide_eq_true hlt
      obtain ⟨m, rfl⟩ : ∃ m, gk = m + 1 := ⟨gk - 1, by omega⟩
      have W4' : Wl wr (.slice A ns.length cp) ns := by rw [hnl]; exact W4
      obtain ⟨g, o, rfl, -, hc, -⟩ := W4'.upd (j := i) (by omega)
      have hil : i < ns.length := by omega
      have hxe : ns.getD i 0 = ns[i] := by rw [List.getD_eq_getElem?_getD, List.getElem?_eq_getElem hil]; rfl
      obtain ⟨hx0, hx1⟩ := hbd.out ns[i] (List.getElem_mem hil)
      rw [hxe] at hc
      have hdr : ns.drop i = ns[i] :: ns.drop (i + 1) := List.drop_eq_getElem_cons hil
      rw [hdr] at hg
      generalize ns[i] = x at *
      have bi : (i : Int) < nl := by omega
      have hcc : nl ≤ cp := hcp
      have hii : Hid (i + (m + 1) = nl) := Lib.hid hi
      have b4 : Bud si ((n + 3 * m) + 3) := b4
      clear W4' hxe hdr hil
      have W4 := Lib.hid W4
      have o4 := Lib.hid o4
      have m4 := Lib.hid m4
      clear hL hi
      go_wp2_with fail
      refine (hgive_b (n := n + 3 * m) T4 H4 n4 f4 b4 ha hx0 hx1 (by omega) (Fr.refl _ _)).mono ?_
      rintro _ w7 ⟨e7, s7, q7, rfl, hL7⟩
      have hL7 := Lib.hid (LftN.turn W4.out o4.out m4.out hL7)
      have hg : Hid (giveAll a (ns.drop (i + 1)) e7 s7 = (e5, s5)) := Lib.hid (by
        have := hg.out
        rw [giveAll, q7.out] at this
        exact this)
      clear T4 H4 n4 f4 b4 W4 o4 m4 q7
      go_wp2_with fail
      go_roundg m
      case measure => omega
      case rel => exact ⟨i + 1, e7, s7, by have := hii.out; omega, by simp, hg, hL7⟩
    · have hf0 : decide (i < nl) = false := decide_eq_false hlt
      obtain rfl : gk = 0 := by omega
      have hin : i = nl := by omega
      subst hin
      have hdr : ns.drop i = [] := List.drop_eq_nil_of_le (by omega)
      rw [hdr] at hg
      obtain ⟨rfl, rfl⟩ : ei = e5 ∧ si = s5 := by simpa [giveAll] using hg.out
      have hfin : Hid (Lft t n F0 w0 si wr) := Lib.hid (LftH.drop (show LftH t h n _ _ si ei wr from ⟨f4, b4.mono (by omega), F4, T4, H4, n4, m4.into fun k hk => .inl (.inl hk)⟩) hM.out hs)
      clear hL T4 H4 n4 f4 b4 W4 o4 m4 hg hdr hi
      by_cases he : ei = 0
      · subst he
        have hq : Hid (lClr ks'.length e1 s1 a l = ((i : Int), 0, si)) := Lib.hid (by rw [hq.out, if_neg (by simp)])
        have hwu : IntKind.u64.wrap (i : Int) = (i : Int) := by rw [IntKind.wrap_u64]; omega
        go_wp2_with fail
        go_ret2
        rw [hq.out]
        exact ⟨by simp [hwu], hfin.out⟩
      · have z : (ei != 0) = true := by simpa using he
        have hq : Hid (lClr ks'.length e1 s1 a l = (0, ei, si)) := Lib.hid (by rw [hq.out, if_pos he])
        clear he
        go_wp2_with fail
        go_quiet (fail)
        go_wp2
        go_ret2
        rw [hq.out]
        exact ⟨rfl, hfin.out.drewN _⟩
end Go.Proofs.Ytcohopobjppmaaa
