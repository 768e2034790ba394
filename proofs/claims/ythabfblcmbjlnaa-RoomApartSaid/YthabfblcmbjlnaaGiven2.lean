/- The document's Given by contract. -/
import Derived.Test.YthabfblcmbjlnaaGiven
namespace Go.Proofs.Ythabfblcmbjlnaa
open Go.RowKit
set_option maxHeartbeats 2000000
set_option linter.unusedVariables false

theorem wgiven_b {b g cap : Nat} {s : St} {a z : Int} {w w0 : World} (B : Nat) (hw : Wld w b g cap s) (hf : Fits s) (ha : 0 ≤ a) (hz : 0 ≤ z) (hm : Mod b g w0 w) (hB : B ≤ w.heap.size) (hB0 : w0.heap.size ≤ B) (hb : b < B) (hg : g < B) :
    Calls Try.prog 20 #[.pointer (some ⟨b, 0, none⟩), .int .u64 a, .int .u64 z] w fun e w' =>
      ∃ v l er s', Hid (rGiven s a z = (l, er, s')) ∧ Own w' B v l ∧ Fits s' ∧ e = .returned (.tuple #[v, .int .i64 er]) ∧ Wld w' b g cap s' ∧ Mod b g w0 w' := by
  by_cases hzz : z < 1 ∨ 16 < z
  · go_enter Try.func20, Try.ntmps20
    go_wp2
    all_goals try (exfalso; omega)
    all_goals go_ret2
    all_goals refine ⟨_, [], _, _, ?_, Own.nil _ _, by assumption, rfl, by assumption, by assumption⟩
    all_goals (unfold Hid; unfold rGiven; rw [if_pos hzz])
  · obtain ⟨z1, z2⟩ : 1 ≤ z ∧ z ≤ 16 := by omega
    have hL : Hid (rGiven s a z = givenGo 65536 (IntKind.u64.wrap (IntKind.u64.wrap (a + 1) + z)) [] s) := by unfold Hid; unfold rGiven; rw [if_neg hzz]; rfl
    clear hzz
    go_enter Try.func20, Try.ntmps20
    go_wp2_with (go_at_call 24; refine (wget_b (by assumption) (by assumption) (by first | omega | exact (uw_bd _).1) (Mod.refl _ _ _)).mono ?_; rintro e w' ⟨x, er, s', q, dx, dx', f', rfl, hw', hm'⟩)
    go_loopg [8, 9, 10] 65536 (fun gk c8 c9 c10 wr => ∃ (l : List Int) (A : Option Addr) (cp : Nat) (av x er : Int) (s1 s2 : St), gk + l.length = 65536 ∧ c8 = .int .u64 x ∧ c9 = .int .i64 er ∧ c10 = .slice A l.length cp ∧ Own wr B (.slice A l.length cp) l ∧ 0 ≤ x ∧ x ≤ 18446744073709551615 ∧ Hid (rGiven s a z = givenGo gk av l s1) ∧ Hid (sget s1 av = (x, er, s2)) ∧ Fits s2 ∧ Wld wr b g cap s2 ∧ Mod b g w0 wr ∧ B ≤ wr.heap.size)
    case atStart => exact ⟨[], none, 0, _, _, _, _, _, rfl, rfl, rfl, rfl, Own.nil _ _, dx, dx', hL, q, f', hw', hm.trans hm', by have := hm'.size; omega⟩
    case round =>
      obtain ⟨l, A, cp, av, x, er, s1, s2, hlen, rfl, rfl, rfl, hown, hx0, hx1, hL1, hq, hf1, hw1, hm1, hB1⟩ := hrel
      go_wp2_with (first | (go_at_call 24; refine (wget_b (by assumption) (by assumption) (by first | omega | exact (uw_bd _).1) (Mod.refl _ _ _)).mono ?_; rintro e w' ⟨x2, er2, s3, q2, dx2, dx2', f2, rfl, hw2, hm2⟩) | (at_builtin; refine wpList_app1 wr rfl (.tmp 35) (.tmp 38) rfl B A l cp (IntKind.u64.wrap (x - 1)) rfl hown rfl (by omega) hB1 ?_; intro g2 cap2 w2 hown2 hbel2 _; have hw1b := hw1.below hbel2 hb hg; have hs2 := hbel2.size))
      · have hc : ((l.length : Int) == 65536) = true := by assumption
        have hx : (x != 0) = true := by assumption
        have hz : er = 0 := by assumption
        have e0 : l.length = 65536 := by have := eq_of_beq hc; omega
        obtain rfl : gk = 0 := by omega
        go_ret2
        exact ⟨_, [], 2, s2, Lib.hid (hL1.out.trans (given_long hq.out (by rw [hz]; rfl) hx)), Own.nil _ _, hf1, rfl, hw1, hm1⟩
      · have hc : ((l.length : Int) == 65536) = false := by assumption
        have hx : (x != 0) = true := by assumption
        have hz : er = 0 := by assumption
        have e0 : l.length ≠ 65536 := by intro h; rw [h] at hc; cases hc
        obtain ⟨k, rfl⟩ : ∃ k, gk = k + 1 := ⟨gk - 1, by omega⟩
        have hs3 := hm2.size
        go_roundg k
        case measure => omega
        case rel => exact ⟨l ++ [IntKind.u64.wrap (x - 1)], some ⟨g2, 0, none⟩, cap2, IntKind.u64.wrap (x - 1), x2, er2, s2, s3, (by simp; omega), rfl, rfl, (by simp), (by simpa using hown2.mod hm2 hb hg), dx2, dx2', Lib.hid (hL1.out.trans (given_more hq.out (by rw [hz]; rfl) hx)), q2, f2, hw2, (hm1.then_below hbel2 hB0).trans hm2, by omega⟩
      · have hx : (x != 0) = false := by assumption
        have hz : er = 0 := by assumption
        subst hz
        go_ret2
        exact ⟨_, l, 0, s2, Lib.hid (hL1.out.trans (given_end hq.out rfl hx)), hown, hf1, rfl, hw1, hm1⟩
      · have hz : (er != 0) = true := by assumption
        go_ret2
        exact ⟨_, [], er, s2, Lib.hid (hL1.out.trans (given_err hq.out hz)), Own.nil _ _, hf1, rfl, hw1, hm1⟩
end Go.Proofs.Ythabfblcmbjlnaa
