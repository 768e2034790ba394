/- The queue by its contracts: given back whole. -/
import Derived.Test.YtfbbmnlebibplaaQuD
namespace Go.Proofs.Ytfbbmnlebibplaa
open Go.RowKit
set_option maxHeartbeats 4000000
set_option linter.unusedVariables false
set_option linter.unusedSimpArgs false

theorem qGiveGo_step {a : Int} {l : List Int} {j : Nat} (hj : j < l.length) {e : Int} {s : St} {e1 : Int} {s1 : St} (h : (if (e == 0) = true then rGive s a (l.getD j 0) 2 else (e, s)) = (e1, s1)) : qGiveGo a (l.drop j) e s = qGiveGo a (l.drop (j + 1)) e1 s1 := by
  rw [List.drop_eq_getElem_cons hj, qGiveGo]
  rw [List.getD_eq_getElem?_getD, List.getElem?_eq_getElem hj] at h
  simp only [Option.getD_some] at h
  rw [h]

set_option maxRecDepth 100000 in
theorem qudrop_b {t n : Nat} {F F0 : Nat → Prop} {s : St} {a p : Int} {w w0 : World} (hw : Txw w t F s) (hf : Fits s) (hb : Bud s (n + 262160)) (ha : 0 ≤ a) (hp : 0 ≤ p) (hp' : p ≤ 18446744073709551615) (hm : Fr F0 w0 F w) :
    Calls Try.prog 15 #[.iface 24 (.pointer (some ⟨t, 0, none⟩)), .int .u64 a, .int .u64 p] w fun e w' => ∃ er s', Hid (qDrop s a p = (er, s')) ∧ e = .returned (.int .i64 er) ∧ Lft t n F0 w0 s' w' := by
  have hms := hm.size
  go_enter Try.func15, Try.ntmps15
  go_wp2_with fail
  refine (qunodes_b (n := n + 196619) hw hf (hb.mono (by omega)) hp hp' hm).mono ?_
  rintro e w1 ⟨v, l, e1, s1, q1, rfl, f1, b1, hv1, ho1, F1, hw1, hm1, hn1⟩
  obtain ⟨A, cp, rfl, hcp⟩ := hv1.shape
  have hlb := Lib.hid (qNodes_bd q1.out)
  have hll := qNodes_len q1.out
  have hL : Hid (qDrop s a p = match qGiveGo a l e1 s1 with | (e2, s2) => if (e2 == 0) = true then rGive s2 a p 3 else (e2, s2)) := Lib.hid (by unfold qDrop; rw [q1.out])
  have hoQ : ∀ k, own (.slice A l.length cp) k → ¬ F1 k := fun k hk => hn1 k hk
  have Ho := Lib.hid hoQ
  have b1 : Bud s1 (n + 3 * l.length + 3) := b1.mono (by omega)
  have hcpi : (l.length : Int) ≤ cp := by omega
  clear hw hm hf hb q1 ho1 hn1 hoQ hcp
  go_wp2_with fail
  go_loopg [19, 8] l.length (fun gk c19 c8 wr => ∃ (j : Nat) (e2 : Int) (s2 : St) (F2 : Nat → Prop), gk + j = l.length ∧ c19 = .int .i64 (j : Int) ∧ c8 = .int .i64 e2 ∧ Hid (qGiveGo a l e1 s1 = qGiveGo a (l.drop j) e2 s2) ∧ Fits s2 ∧ Bud s2 (n + 3 * gk + 3) ∧ Txw wr t F2 s2 ∧ Fr F0 w0 F2 wr ∧ Wl wr (.slice A l.length cp) l ∧ ∀ k, own (.slice A l.length cp) k → ¬ F2 k)
  case atStart => exact ⟨0, e1, s1, F1, rfl, rfl, rfl, Lib.hid rfl, f1, b1, hw1, hm1, hv1, Ho.out⟩
  case round =>
    obtain ⟨j, e2, s2, F2, hgk, rfl, rfl, hR, hf2, hb2, hw2, hm2, hv2, ho2⟩ := hrel
    have Ho2 := Lib.hid ho2
    have hgk' := Lib.hid hgk
    clear hw1 hm1 hv1 Ho b1 f1 ho2 hgk
    by_cases hlt : j < l.length
    · obtain ⟨m, rfl⟩ : ∃ m, gk = m + 1 := ⟨gk - 1, by have := hgk'.out; omega⟩
      have hb2 : Bud s2 ((n + 3 * m + 3) + 3) := hb2.mono (by omega)
      have hji : (j : Int) < l.length := by omega
      obtain ⟨g, o, rfl, hg, c1, z1, hset⟩ := hv2.upd (j := j) hlt
      have hyb := hlb.out (l.getD j 0) (by rw [List.getD_eq_getElem?_getD, List.getElem?_eq_getElem hlt]; exact List.getElem_mem hlt)
      obtain ⟨y, hy⟩ : ∃ y, l.getD j 0 = y := ⟨_, rfl⟩
      have Hy := Lib.hid hy
      rw [hy] at hyb c1
      obtain ⟨hy1, hy2⟩ := hyb
      have hlt' := Lib.hid hlt
      have hv2' := Lib.hid hv2
      clear hlt hy hset hv2
      by_cases he : e2 = 0
      · subst he
        go_wp2_with fail
        refine (give_b hw2 hf2 hb2 ha hy1 hy2 (by omega) (Fr.refl _ _)).mono ?_
        rintro _ w5 ⟨e5, s5, q5, rfl, f5, b5, F5, hw5, hm5⟩
        have hv5 := Lib.hid (hv2'.out.fr hm5 Ho2.out)
        have ho5 := Lib.hid (fun k hk => hm5.not_in (hv2'.out.lt k hk) (Ho2.out k hk))
        have hM5 := Lib.hid (hm2.trans hm5)
        have hw5' := Lib.hid hw5
        have hR5 : Hid (qGiveGo a l e1 s1 = qGiveGo a (l.drop (j + 1)) e5 s5) := Lib.hid (by
          have hstep : (if ((0 : Int) == 0) = true then rGive s2 a (l.getD j 0) 2 else (0, s2)) = (e5, s5) := by rw [if_pos (by decide), Hy.out]; exact q5.out
          rw [hR.out, qGiveGo_step hlt'.out hstep])
        clear hw2 hm2 hw5 hm5 q5 hR c1 z1
        go_wp2
        go_roundg m
        case measure => omega
        case rel => exact ⟨j + 1, e5, s5, F5, by have := hgk'.out; omega, by go_num, rfl, hR5, f5, b5, hw5'.out, hM5.out, hv5.out, ho5.out⟩
      · have hz : (e2 == 0) = false := by simpa using he
        have hR5 : Hid (qGiveGo a l e1 s1 = qGiveGo a (l.drop (j + 1)) e2 s2) := Lib.hid (by
          have hstep : (if (e2 == 0) = true then rGive s2 a (l.getD j 0) 2 else (e2, s2)) = (e2, s2) := by rw [if_neg (by simp [hz])]
          rw [hR.out, qGiveGo_step hlt'.out hstep])
        have hM5 := Lib.hid hm2
        have hw5' := Lib.hid hw2
        clear hw2 hm2 hR he
        go_wp2
        go_roundg m
        case measure => omega
        case rel => exact ⟨j + 1, e2, s2, F2, by have := hgk'.out; omega, by go_num, rfl, hR5, hf2, hb2.mono (by omega), hw5'.out, hM5.out, hv2'.out, Ho2.out⟩
    · obtain rfl : j = l.length := by have := hgk'.out; omega
      obtain rfl : gk = 0 := by have := hgk'.out; omega
      have hq : Hid (qDrop s a p = if (e2 == 0) = true then rGive s2 a p 3 else (e2, s2)) := Lib.hid (by
        rw [hL.out, hR.out, List.drop_length]
        rfl)
      have hV := Lib.hid hv2
      clear hv2 hlt
      by_cases he : e2 = 0
      · subst he
        go_wp2_with fail
        refine (give_b hw2 hf2 (hb2.mono (n := n + 3) (by omega)) ha hp hp' (by omega) hm2).mono ?_
        rintro _ w5 ⟨e5, s5, q5, rfl, f5, b5, F5, hw5, hm5⟩
        have hq' : Hid (qDrop s a p = (e5, s5)) := Lib.hid (by rw [hq.out, if_pos (by decide)]; exact q5.out)
        have hw5' := Lib.hid hw5
        have hm5' := Lib.hid hm5
        clear hw2 hm2 hw5 hm5 q5
        go_wp2
        go_ret
        exact ⟨e5, s5, hq', rfl, f5, b5, F5, hw5'.out, hm5'.out⟩
      · have hz : (e2 == 0) = false := by simpa using he
        have hq' : Hid (qDrop s a p = (e2, s2)) := Lib.hid (by rw [hq.out, if_neg (by simp [hz])])
        have hw5' := Lib.hid hw2
        have hm5' := Lib.hid hm2
        clear he hw2 hm2
        go_wp2
        go_ret
        exact ⟨e2, s2, hq', rfl, hf2, hb2.mono (by omega), F2, hw5'.out, hm5'.out⟩
end Go.Proofs.Ytfbbmnlebibplaa
