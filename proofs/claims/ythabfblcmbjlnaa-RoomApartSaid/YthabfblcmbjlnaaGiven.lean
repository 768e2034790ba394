/- The pieces that were given back, told by the program and by the document: one plain function of the words. -/
import Derived.Test.YthabfblcmbjlnaaOwn
import Derived.Deep.LoopGhost
import Derived.WalkMore
namespace Go.Proofs.Ythabfblcmbjlnaa
open Go.RowKit
set_option maxHeartbeats 2000000
set_option linter.unusedVariables false

theorem given_err {k : Nat} {a : Int} {l : List Int} {s s' : St} {x er : Int} (h : sget s a = (x, er, s')) (he : (er != 0) = true) : givenGo k a l s = ([], er, s') := by
  cases k <;> rw [givenGo, h] <;> simp only <;> rw [if_neg (by simp [he])]
theorem given_end {k : Nat} {a : Int} {l : List Int} {s s' : St} {x er : Int} (h : sget s a = (x, er, s')) (he : (er != 0) = false) (hx : (x != 0) = false) : givenGo k a l s = (l, 0, s') := by
  cases k <;> rw [givenGo, h] <;> simp only <;> rw [if_pos he, if_pos hx]
theorem given_long {a : Int} {l : List Int} {s s' : St} {x er : Int} (h : sget s a = (x, er, s')) (he : (er != 0) = false) (hx : (x != 0) = true) : givenGo 0 a l s = ([], 2, s') := by
  rw [givenGo, h]; simp only; rw [if_pos he, if_neg (by simp [hx])]
theorem given_more {k : Nat} {a : Int} {l : List Int} {s s' : St} {x er : Int} (h : sget s a = (x, er, s')) (he : (er != 0) = false) (hx : (x != 0) = true) : givenGo (k + 1) a l s = givenGo k (IntKind.u64.wrap (x - 1)) (l ++ [IntKind.u64.wrap (x - 1)]) s' := by
  rw [givenGo, h]; simp only; rw [if_pos he, if_neg (by simp [hx])]

theorem given_b {t b g cap : Nat} {s : St} {a z : Int} {w w0 : World} (B : Nat) (hw : Txw w t b g cap s) (hf : Fits s) (ha : 0 ≤ a) (hz : 0 ≤ z) (hm : Mod b g w0 w) (hB : B ≤ w.heap.size) (hB0 : w0.heap.size ≤ B) (ht : t < B) (hb : b < B) (hg : g < B) :
    Calls Try.prog 19 #[.iface 24 (.pointer (some ⟨t, 0, none⟩)), .int .u64 a, .int .u64 z] w fun e w' =>
      ∃ v l er s', Hid (rGiven s a z = (l, er, s')) ∧ Own w' B v l ∧ Fits s' ∧ e = .returned (.tuple #[v, .int .i64 er]) ∧ Txw w' t b g cap s' ∧ Mod b g w0 w' := by
  by_cases hzz : z < 1 ∨ 16 < z
  · go_enter Try.func19, Try.ntmps19
    go_wp2
    go_step3
    go_wp2_with (go_at_call 21; refine (fits_no _ _ (by assumption) _).mono ?_; rintro e w' ⟨rfl, rfl⟩)
    rw [Exit.noGoto_ret]
    go_ret2
    refine ⟨_, [], _, _, ?_, Own.nil _ _, ?_, rfl, by assumption, by assumption⟩
    · unfold Hid; unfold rGiven; rw [if_pos hzz]
    · assumption
  · obtain ⟨z1, z2⟩ : 1 ≤ z ∧ z ≤ 16 := by omega
    have hL : Hid (rGiven s a z = givenGo 65536 (IntKind.u64.wrap (IntKind.u64.wrap (a + 1) + z)) [] s) := by unfold Hid; unfold rGiven; rw [if_neg hzz]; rfl
    clear hzz
    go_enter Try.func19, Try.ntmps19
    go_wp2
    go_step3
    go_wp2_with (go_at_call 21; refine (fits_ok _ _ (by assumption) (by assumption) _).mono ?_; rintro e w' ⟨rfl, rfl⟩)
    go_step3
    go_wp2
    go_loopg [9, 10] 65536 (fun gk c9 c10 wr => ∃ (l : List Int) (A : Option Addr) (cp : Nat) (av : Int) (s1 : St), gk + l.length = 65536 ∧ c9 = .slice A l.length cp ∧ Own wr B (.slice A l.length cp) l ∧ c10 = .int .u64 av ∧ 0 ≤ av ∧ Hid (rGiven s a z = givenGo gk av l s1) ∧ Fits s1 ∧ Txw wr t b g cap s1 ∧ Mod b g w0 wr ∧ B ≤ wr.heap.size)
    case atStart => exact ⟨[], none, 0, _, s, rfl, rfl, Own.nil _ _, rfl, (uw_bd _).1, hL, hf, hw, hm, hB⟩
    case round =>
      obtain ⟨l, A, cp, av, s1, hlen, rfl, hown, rfl, hav, hL1, hf1, hw1, hm1, hB1⟩ := hrel
      go_wp2_with (first | (go_at_call 40; refine (tget_b (by assumption) (by assumption) (by assumption) (Mod.refl _ _ _)).mono ?_; rintro e w' ⟨x, er, s', q, dx, dx', f', rfl, hw', hm'⟩) | (at_builtin; refine wpList_app1 w' rfl (.tmp 42) (.tmp 44) rfl B A l cp (IntKind.u64.wrap (x - 1)) rfl (hown.mod hm' hb hg) rfl (by omega) (Nat.le_trans hB1 hm'.size) ?_; intro g2 cap2 w2 hown2 hbel2 _))
      · have hz : (er != 0) = true := by assumption
        rw [Exit.noGoto_ret]
        go_ret2
        exact ⟨_, [], er, s', Lib.hid (hL1.out.trans (given_err q.out hz)), Own.nil _ _, f', rfl, hw', hm1.trans hm'⟩
      · have hz : (er != 0) = false := by assumption
        have hx : (x == 0) = true := by assumption
        rw [Exit.noGoto_ret]
        go_ret2
        exact ⟨_, l, 0, s', Lib.hid (hL1.out.trans (given_end q.out hz (by rw [bne, hx]; rfl))), hown.mod hm' hb hg, f', rfl, hw', hm1.trans hm'⟩
      · have hz : (er != 0) = false := by assumption
        have hx : (x == 0) = false := by assumption
        have hc : ((l.length : Int) == 65536) = true := by assumption
        have e0 : l.length = 65536 := by have := eq_of_beq hc; omega
        obtain rfl : gk = 0 := by omega
        rw [Exit.noGoto_ret]
        go_ret2
        exact ⟨_, [], 2, s', Lib.hid (hL1.out.trans (given_long q.out hz (by rw [bne, hx]; rfl))), Own.nil _ _, f', rfl, hw', hm1.trans hm'⟩
      · have hz : (er != 0) = false := by assumption
        have hx : (x == 0) = false := by assumption
        have hc : ((l.length : Int) == 65536) = false := by assumption
        have e0 : l.length ≠ 65536 := by intro h; rw [h] at hc; cases hc
        obtain ⟨k, rfl⟩ : ∃ k, gk = k + 1 := ⟨gk - 1, by omega⟩
        have hs2 := hbel2.size
        have hs1 := hm'.size
        go_roundg k
        case measure => omega
        case rel => exact ⟨l ++ [IntKind.u64.wrap (x - 1)], some ⟨g2, 0, none⟩, cap2, _, s', (by simp; omega), (by simp), (by simpa using hown2), rfl, (uw_bd _).1, Lib.hid (hL1.out.trans (given_more q.out hz (by rw [bne, hx]; rfl))), f', hw'.below hbel2 ht hb hg, (hm1.trans hm').then_below hbel2 hB0, by omega⟩
end Go.Proofs.Ythabfblcmbjlnaa
