/- The queue by its contracts: its nodes. -/
import Derived.Test.YtcgdpclhlepofaaQuB
import Derived.Test.YtcgdpclhlepofaaLft
import Derived.Deep.LoopGhost
namespace Go.Proofs.Ytcgdpclhlepofaa
open Go.RowKit
set_option maxHeartbeats 4000000
set_option linter.unusedVariables false
set_option linter.unusedSimpArgs false

set_option maxRecDepth 100000 in
theorem qunodes_b {t n : Nat} {F F0 : Nat → Prop} {s : St} {p : Int} {w w0 : World} (hw : Txw w t F s) (hf : Fits s) (hb : Bud s (n + 65541)) (hp : 0 ≤ p) (hp' : p ≤ 18446744073709551615) (hm : Fr F0 w0 F w) :
    Calls Try.prog 44 #[.iface 26 (.pointer (some ⟨t, 0, none⟩)), .int .u64 p] w fun e w' => ∃ v l er s', Hid (qNodes s p = (l, er, s')) ∧ e = .returned (.tuple #[v, .int .i64 er]) ∧ LftV t n w.heap.size F0 w0 s' v l w' := by
  go_enter Try.func44, Try.ntmps44
  go_wp2_with fail
  go_step3
  have hQ := Qb.new hw 0
  have hmQ := hm.alloc (.cells #[.iface 26 (.pointer (some ⟨t, 0, none⟩)), .int .i64 0] 74)
  have hE : w0.heap.size ≤ w.heap.size := hm.size
  have hB : w.heap.size < (w.alloc (.cells #[.iface 26 (.pointer (some ⟨t, 0, none⟩)), .int .i64 0] 74)).heap.size := by simp
  clear hw hm
  go_wp2_with fail
  generalize w.alloc (.cells #[.iface 26 (.pointer (some ⟨t, 0, none⟩)), .int .i64 0] 74) = w2 at *
  generalize hbe : w.heap.size = bb at *
  have HB := Lib.hid hbe
  clear hbe
  have hb : Bud s ((n + 65540) + 1) := hb
  refine (qget_b hQ hf hb hp hmQ (.inr hE)).mono ?_
  rintro _ w3 ⟨n1, e1, s1, q1, dn, dn', rfl, f1, b1, F1, hQ1, hm1⟩
  have dE1 := hQ1.cell
  have b1 : Bud s1 ((n + 65539) + 1) := b1
  clear hQ hmQ hf hb
  go_wp2_with fail
  refine (qget_b hQ1 f1 b1 (uw_bd _).1 hm1 (.inr hE)).mono ?_
  rintro _ w4 ⟨many, e2, s2, q2, dm, dm', rfl, f2, b2, F2, hQ2, hm2⟩
  have dE2 := hQ2.cell
  have q2 : Hid (bget e1 s1 (uAdd p 2) = (many, e2, s2)) := q2
  have b2 : Bud s2 ((n + 65538) + 1) := b2
  clear hQ1 hm1 dE1 f1 b1
  go_wp2_with fail
  refine (qget_b hQ2 f2 b2 (uw_bd _).1 hm2 (.inr hE)).mono ?_
  rintro _ w6 ⟨en, e3, s3, q3, den, den', rfl, f3, b3, F3, hQ3, hm3⟩
  have dE3 := hQ3.cell
  have q3 : Hid (bget e2 s2 (uAdd p 1) = (en, e3, s3)) := q3
  clear hQ2 hm2 dE2 f2 b2
  have hN : Hid (qNodes s p = if (e3 != 0) = true then ([], e3, s3) else chEnd many (if 65536 < many then ([], 0, 1, 0, s3) else qChain many 65538 n1 0 en [] s3)) := Lib.hid (by
    unfold qNodes chEnd
    rw [q1.out]; simp only; rw [q2.out]; simp only; rw [q3.out])
  have hne : Hid (e3 ≠ 0 → n1 = 0 ∨ True) := Lib.hid fun _ => .inr trivial
  clear q1 q2 q3 hne
  go_upto_if 30 with (fail)
  go_cut [7, 9] (fun c7 c9 wx => wx = w6 ∧ ∃ n2 en2 : Int, c7 = .int .u64 n2 ∧ c9 = .int .u64 en2 ∧ 0 ≤ n2 ∧ n2 ≤ 18446744073709551615 ∧ 0 ≤ en2 ∧ en2 ≤ 18446744073709551615 ∧ (n2 = 0 ∨ many ≤ 65536) ∧ Hid (qNodes s p = if (e3 != 0) = true then ([], e3, s3) else chEnd many (qChain many 65538 n2 0 en2 [] s3)))
  case first =>
    by_cases hmn : 65536 < many
    · have hr : Hid (qNodes s p = if (e3 != 0) = true then ([], e3, s3) else chEnd many (qChain many 65538 0 0 1 [] s3)) := Lib.hid (by rw [hN.out, if_pos hmn]; rfl)
      clear hN
      go_wp2
      go_meet
      exact ⟨rfl, 0, 1, rfl, rfl, by omega, by omega, by omega, by omega, .inl rfl, hr⟩
    · have hr : Hid (qNodes s p = if (e3 != 0) = true then ([], e3, s3) else chEnd many (qChain many 65538 n1 0 en [] s3)) := Lib.hid (by rw [hN.out, if_neg hmn])
      have hmn2 : many ≤ 65536 := by omega
      clear hN hmn
      go_wp2
      go_meet
      exact ⟨rfl, n1, en, rfl, rfl, dn, dn', den, den', .inr hmn2, hr⟩
  case rest =>
    obtain ⟨rfl, n2, en2, rfl, rfl, dn2, dn2', den2, den2', hcase, hN2⟩ := hcut
    clear hN
    have hcase := Lib.hid hcase
    have hB6 := hQ3.blk.lt
    have hq3 := Lib.hid hQ3
    have hM3 := Lib.hid hm3
    clear hQ3 hm3
    go_wp2_with fail
    go_step3
    go_wp2_with fail
    go_loopg [7, 9, 10, 11] 65538 (fun gk c7 c9 c10 c11 wr => ∃ (l : List Int) (A : Option Addr) (cp : Nat) (nn b e : Int) (s1 : St) (F1 : Nat → Prop), gk + l.length = 65538 ∧ c7 = .int .u64 nn ∧ 0 ≤ nn ∧ nn ≤ 18446744073709551615 ∧ c9 = .int .u64 en2 ∧ c10 = .slice A l.length cp ∧ c11 = .int .u64 b ∧ 0 ≤ b ∧ b ≤ 18446744073709551615 ∧ Hid (nn = 0 ∨ (l.length : Int) ≤ many ∧ many ≤ 65536) ∧ Hid (qNodes s p = if (e != 0) = true then ([], e, s1) else chEnd many (qChain many gk nn b en2 l s1)) ∧ Fits s1 ∧ Bud s1 (n + gk) ∧ Qb wr t bb F1 s1 e ∧ Fr F0 w0 F1 wr ∧ Wl wr (.slice A l.length cp) l ∧ (∀ k, own (.slice A l.length cp) k → bb < k ∧ ¬ F1 k) ∧ bb < wr.heap.size)
    case atStart => exact ⟨[], none, 0, n2, 0, e3, s3, F3, rfl, rfl, dn2, dn2', rfl, rfl, rfl, by omega, by omega, Lib.hid (hcase.out.imp id fun h => ⟨by simp; omega, h⟩), hN2, f3, b3, hq3.out, hM3.out, Wl.nil _, (fun k hk => nomatch hk), hB6⟩
    case round =>
      obtain ⟨l, A, cp, nn, b, e, s1, F1, hgk, rfl, dnn, dnn', rfl, rfl, rfl, db, db', hcs, hR, hf1, hb1, hQ1, hm1, hv1, ho1, hz1⟩ := hrel
      clear hq3 hM3 b3 f3 hB6 hN2 hcase dE3
      have hll : (l.length : Int) ≤ 65538 := by omega
      have Ho1 := Lib.hid ho1
      have hgk' := Lib.hid hgk
      have dE := hQ1.cell
      clear ho1 hgk
      have hlf : ∀ nq : Nat, LftV t n bb F0 w0 s1 (.slice A l.length cp) l (wr.drewN nq) := fun nq => ⟨hf1, hb1.mono (by omega), hv1.drewN nq, fun k hk => Nat.le_of_lt (Ho1.out k hk).1, F1, hQ1.tx.drewN nq, hm1.drewN nq, fun k hk => (Ho1.out k hk).2⟩
      have HL := Lib.hid hlf
      have hlf0 : ∀ nq : Nat, Lft t n F0 w0 s1 (wr.drewN nq) := fun nq => ⟨hf1, hb1.mono (by omega), F1, hQ1.tx.drewN nq, hm1.drewN nq⟩
      have HL0 := Lib.hid hlf0
      clear hlf hlf0
      by_cases he : e = 0
      case neg =>
        have hz : (e != 0) = true := by simpa using he
        have hz2 : (e == 0) = false := by simpa using he
        have hq : Hid (qNodes s p = ([], e, s1)) := Lib.hid (by rw [hR.out, if_pos hz])
        clear he hR hQ1 hm1 hv1
        by_cases h0 : nn = 0
        all_goals
          first | (have h0' : (nn != 0) = false := by simpa using h0) | (have h0' : (nn != 0) = true := by simpa using h0)
          clear h0
          go_wp2
          go_quiet (fail)
          go_wp2
          rw [Exit.noGoto_ret]
          go_ret2
          exact ⟨_, [], e, s1, hq, rfl, LftV.nil (HL0.out _)⟩
      subst he
      by_cases h0 : nn = 0
      · have h0' : (nn != 0) = false := by simpa using h0
        have hR : Hid (qNodes s p = if (en2 != b) = true ∨ ((l.length : Int) != many) = true then ([], 330, s1) else (l, 0, s1)) := Lib.hid (by rw [hR.out, if_neg (by decide), qChain_end h0]; rfl)
        clear h0 hQ1 hm1 hv1
        by_cases h1 : en2 = b
        · have h1' : (en2 != b) = false := by simpa using h1
          by_cases h2 : (l.length : Int) = many
          · have h2' : ((l.length : Int) != many) = false := by simpa using h2
            have hq : Hid (qNodes s p = (l, 0, s1)) := Lib.hid (by rw [hR.out, if_neg (by rw [h1', h2']; simp)])
            clear h1 h2 hR
            go_wp2
            rw [Exit.noGoto_ret]
            go_ret2
            exact ⟨_, l, 0, s1, hq, rfl, by rw [HB.out]; exact HL.out 0⟩
          · have h2' : ((l.length : Int) != many) = true := by simpa using h2
            have hq : Hid (qNodes s p = ([], 330, s1)) := Lib.hid (by rw [hR.out, if_pos (.inr h2')])
            clear h1 h2 hR
            go_wp2
            rw [Exit.noGoto_ret]
            go_ret2
            exact ⟨_, [], 330, s1, hq, rfl, LftV.nil (HL0.out 0)⟩
        · have h1' : (en2 != b) = true := by simpa using h1
          have hq : Hid (qNodes s p = ([], 330, s1)) := Lib.hid (by rw [hR.out, if_pos (.inl h1')])
          clear h1 hR
          go_wp2
          rw [Exit.noGoto_ret]
          go_ret2
          exact ⟨_, [], 330, s1, hq, rfl, LftV.nil (HL0.out 0)⟩
      have h0' : (nn != 0) = true := by simpa using h0
      have hcs' := hcs.out.resolve_left h0
      obtain ⟨hcs1, hcs2⟩ := hcs'
      have hlm : (l.length : Int) ≤ 65536 := by omega
      obtain ⟨m, rfl⟩ : ∃ m, gk = m + 1 := ⟨gk - 1, by have := hgk'.out; omega⟩
      by_cases h2 : (l.length : Int) = many
      · have h2' : ((l.length : Int) == many) = true := by simpa using h2
        have hw1 : (IntKind.u64.wrap (b + 1) != b) = true := by rw [wrap_u64_mod]; simp; omega
        have hq : Hid (qNodes s p = ([], 330, s1)) := Lib.hid (by
          rw [hR.out, if_neg (by decide), qChain_long h0 h2]
          unfold chEnd
          simp only
          rw [if_neg (by decide), if_pos (.inl hw1)])
        clear h0 h2 hR hQ1 hm1 hv1
        go_wp2
        rw [Exit.noGoto_ret]
        go_ret2
        exact ⟨_, [], 330, s1, hq, rfl, LftV.nil (HL0.out 0)⟩
      have h2' : ((l.length : Int) == many) = false := by simpa using h2
      obtain ⟨u1, u2⟩ := uw_bd (nn - 1)
      have hls : (l.length : Int) < many := by omega
      have H0 := Lib.hid h0
      have H2 := Lib.hid h2
      clear h0 h2 HL HL0
      have hb1 : Bud s1 ((n + m) + 1) := hb1
      have hx := Lib.hid (show (l.length + 1) * 8 ≤ 140737488355328 by omega)
      go_wp2_with (at_builtin; refine wpList_word wr rfl (.tmp 47) (.tmp 50) rfl (.slice A l.length cp) l (IntKind.u64.wrap (nn - 1)) rfl hv1 rfl hx.out ?_; intro A4 c4 w4 hc4 hv4 hm4)
      have hnb : ∀ k, F1 k → ¬ own (.slice A l.length cp) k := fun k hk ho => (Ho1.out k ho).2 hk
      have hbo : ¬ own (.slice A l.length cp) bb := fun ho => by have := (Ho1.out bb ho).1; omega
      have hQ4 := hQ1.fr hm4 hnb hbo
      have dE4 := hQ4.cell
      have ho4 : ∀ k, own (.slice A4 (l.length + 1) c4) k → bb < k ∧ ¬ F1 k := fun k hk => (hm4.new k hk).elim (fun h => Ho1.out k h) fun h => ⟨by omega, fun h2 => by have := hQ1.tx.lt k h2; omega⟩
      have hm4' : Fr F0 w0 F1 w4 := hm1.beside hm4 fun k hk => by have := (Ho1.out k hk).1; omega
      have hz4 := Nat.lt_of_lt_of_le hz1 hm4.size
      have Ho4 := Lib.hid ho4
      have Hm4 := Lib.hid hm4'
      clear hQ1 hm1 dE hnb hbo ho4 hm4 hm4'
      refine (qget_b (F0 := fun k => F1 k ∨ k = bb) hQ4 hf1 hb1 (uw_bd _).1 ((Fr.refl F1 w4).wide fun _ h => .inl h) (.inl (.inr rfl))).mono ?_
      rintro _ w5 ⟨x5, e5, s5, q5, dx5, dx5', rfl, f5, b5, F5, hQ5, hm5⟩
      have q5 : Hid (bget 0 s1 (uAdd (IntKind.u64.wrap (nn - 1)) 1) = (x5, e5, s5)) := q5
      have hG : ∀ k, own (.slice A4 (l.length + 1) c4) k → ¬ (F1 k ∨ k = bb) := fun k hk h => h.elim (Ho4.out k hk).2 fun h => by have := (Ho4.out k hk).1; omega
      have hv5 := Lib.hid (hv4.fr hm5 (by simpa using hG))
      have ho5 : ∀ k, own (.slice A4 (l.length + 1) c4) k → bb < k ∧ ¬ F5 k := fun k hk => ⟨(Ho4.out k hk).1, fun h => (hm5.new k h).elim (hG k hk) fun h2 => by have := hv4.lt k (own_len hk); omega⟩
      have hM5 : Hid (Fr F0 w0 F5 w5) := Lib.hid ((Hm4.out.into (G := fun k => F1 k ∨ k = bb) fun k hk => hk.elim .inl fun h => .inr (.inr (by rw [h]; exact hE))).trans hm5)
      have hz5 := Nat.lt_of_lt_of_le hz4 hm5.size
      have hQ5' := Lib.hid hQ5
      have ho5' := Lib.hid ho5
      have hR5 : Hid (qNodes s p = if (e5 != 0) = true then ([], e5, s5) else chEnd many (qChain many m x5 nn en2 (l ++ [IntKind.u64.wrap (nn - 1)]) s5)) := Lib.hid (by
        rw [hR.out, if_neg (by decide), qChain_step H0.out H2.out q5.out]
        by_cases h5 : e5 = 0
        · rw [if_pos h5, if_neg (by simp [h5])]
        · rw [if_neg h5, if_pos (by simpa using h5)]
          unfold chEnd
          simp only
          rw [if_pos (by simpa using h5)])
      clear hQ4 dE4 hv4 hm5 hQ5 ho5 hG q5 hR
      go_wp2
      go_roundg m
      case measure => omega
      case rel => exact ⟨l ++ [IntKind.u64.wrap (nn - 1)], A4, c4, x5, nn, e5, s5, F5, by have := hgk'.out; simp; omega, rfl, dx5, dx5', rfl, by simp, rfl, dnn, dnn', Lib.hid (.inr ⟨by simp; omega, hcs2⟩), hR5, f5, b5, hQ5'.out, hM5.out, by simpa using hv5.out, by simpa using ho5'.out, hz5⟩
end Go.Proofs.Ytcgdpclhlepofaa
