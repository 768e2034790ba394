/- ListWild: over any words every call ends; Keys tells the keys of a list that is sound, and refuses any other one. -/
import Derived.Test.YtcohopobjppmaaaLiU
import Derived.Test.YtcohopobjppmaaaLiS
import Derived.Test.YtcohopobjppmaaaLiN
import Derived.Test.YtcohopobjppmaaaIn
namespace Go.Proofs.Ytcohopobjppmaaa
open Go.RowKit
set_option maxHeartbeats 4000000
set_option linter.unusedVariables false
set_option linter.unusedSimpArgs false

def WildP (t n : Nat) (F0 : Nat → Prop) (w0 : World) (e : Ending) (w' : World) : Prop := ∃ v s', e = .returned v ∧ Lft t n F0 w0 s' w'
theorem LftK.drop {t n : Nat} {F0 : Nat → Prop} {w0 w' : World} {s' : St} {v : Value} {l : List Int} (h : LftK t n F0 w0 s' v l w') : Lft t n F0 w0 s' w' :=
  let ⟨a, b, _, F', c, d, _⟩ := h; ⟨a, b, F', c, d.into fun k hk => .inl (.inl hk)⟩
theorem dowild_b {t n : Nat} {F F0 : Nat → Prop} {s : St} {a l k on key : Int} {w w0 : World}
    (hw : Txw w t F s) (hf : Fits s) (hb : Bud s (n + 6 * (s.W.length + 1) + 20)) (hW : s.W.length + 1 ≤ 60000) (hfl : s.fail < 0) (ha : 0 ≤ a) (hl : 0 ≤ l) (hl' : l ≤ 18446744073709551615) (hk : 0 ≤ key) (hk' : key ≤ 18446744073709551615) (hm : Fr F0 w0 F w) :
    Calls Try.prog 7 #[.iface 31 (.pointer (some ⟨t, 0, none⟩)), .int .u64 a, .int .u64 l, .agg #[.int .i64 k, .int .i64 on, .int .u64 key]] w (WildP t n F0 w0) := by
  have hs := fun q => hfind_some q s l hfl (by omega)
  by_cases h0 : k < 1 ∨ 9 < k
  · exact (do0_b (N := s.W.length + 1) (s' := s) (e' := 0) (p' := ⟨0, 0, 0, 0⟩) (ks' := []) hw hf hb hW ha hl hl' hk hk' h0 hm).mono fun e w' ⟨q1, q2⟩ => ⟨_, _, q1, q2⟩
  · rcases (show k = 1 ∨ k = 2 ∨ k = 3 ∨ k = 4 ∨ k = 5 ∨ k = 6 ∨ k = 7 ∨ k = 8 ∨ k = 9 by omega) with rfl | rfl | rfl | rfl | rfl | rfl | rfl | rfl | rfl
    · obtain ⟨p, ks, e, s', hR⟩ := hs (fun x => decide (x < key))
      exact (do1_b hw hf hb hW ha hl hl' hk hk' hR rfl hm).mono fun e w' ⟨q1, q2⟩ => ⟨_, _, q1, q2⟩
    · obtain ⟨p, ks, e, s', hR⟩ := hs (fun x => decide (x < key))
      exact (do2_b hw hf hb hW ha hl hl' hk hk' hR rfl hm).mono fun e w' ⟨q1, q2⟩ => ⟨_, _, q1, q2⟩
    · obtain ⟨p, ks, e, s', hR⟩ := hs (fun x => decide (x < key))
      exact (do3_b hw hf hb hW ha hl hl' hk hk' hR rfl hm).mono fun e w' ⟨q1, q2⟩ => ⟨_, _, q1, q2⟩
    · exact (do4_b (p' := ⟨0, 0, 0, 0⟩) (ks' := []) hw hf hb hW ha hl hl' hk hk' rfl hm).mono fun e w' ⟨q1, q2⟩ => ⟨_, _, q1, q2⟩
    · obtain ⟨p, ks, e, s', hR⟩ := hs (fun x => decide (x ≤ key))
      exact (do5_b hw hf hb hW ha hl hl' hk hk' hR rfl hm).mono fun e w' ⟨q1, q2⟩ => ⟨_, _, q1, q2⟩
    · obtain ⟨p, ks, e, s', hR⟩ := hs (fun _ => false)
      exact (do6_b hw hf hb hW ha hl hl' hk hk' hR rfl hm).mono fun e w' ⟨q1, q2⟩ => ⟨_, _, q1, q2⟩
    · obtain ⟨p, ks, e, s', hR⟩ := hs (fun _ => true)
      exact (do7_b hw hf hb hW ha hl hl' hk hk' hR rfl hm).mono fun e w' ⟨v, q1, q2⟩ => ⟨_, _, q1, q2.drop⟩
    · obtain ⟨p, ks, e, s', hR⟩ := hs (fun _ => true)
      exact (do8_b hw hf hb hW ha hl hl' hk hk' hR rfl hm).mono fun e w' ⟨q1, q2⟩ => ⟨_, _, q1, q2⟩
    · obtain ⟨p, ks, e, s', hR⟩ := hs (fun _ => true)
      exact (do9_b hw hf hb hW ha hl hl' hk hk' hR rfl hm).mono fun e w' ⟨x, e2, s3, _, q1, q2⟩ => ⟨_, _, q1, q2⟩
theorem keysOf_ok {W : List Int} {l e : Int} {ks : List Int} {p : Pl} (h : (stands W l).2 = true → e = 0 ∧ p.next = 0 ∧ ks = (stands W l).1) (hs : (stands W l).2 = true) : keysOf ks p e = ((stands W l).1, 0) := by
  obtain ⟨rfl, h2, rfl⟩ := h hs
  unfold keysOf firstOf
  simp [h2]
theorem keysOf_no {e : Int} {ks : List Int} {p : Pl} (h : e = 4 ∨ e = 310) : keysOf ks p e = ([], e) := by
  unfold keysOf firstOf
  rcases h with rfl | rfl <;> simp
theorem Lft.below {t n : Nat} {w0 w' : World} {s' : St} (h : Lft t n (fun _ => False) w0 s' w') : Below w0.heap.size w0 w' :=
  let ⟨_, _, F', _, m⟩ := h; m.below (fun _ h => h.elim) (Nat.le_refl _)
theorem wild_fits {l : List Int} (h : ∀ x ∈ l, 0 ≤ x ∧ x ≤ 18446744073709551615) (hl : l.length ≤ 60000) : Fits ⟨l, 0, 0, -1, 0⟩ := ⟨h, by simp only; omega, by simp, by simp⟩
theorem wild_bud {l : List Int} {n : Nat} (hq : n ≤ 500) (hn : l.length = n) : Bud ⟨l, 0, 0, -1, 0⟩ (1 + 6 * (l.length + 1) + 20) := by unfold Bud; simp only; omega
theorem below_unN {B n : Nat} {w w' : World} (h : Below B (w.drewN n) w') : Below B w w' := ⟨h.os, h.tape, h.output, h.size, h.block⟩
theorem Wl.len {w : World} {v : Value} {l : List Int} (h : Wl w v l) : (l.length : Int) ≤ 9223372036854775807 := by
  obtain ⟨_, ⟨_, h⟩ | ⟨_, _, _, _, _, _, _, h1, h2, _⟩⟩ := h
  · omega
  · unfold maxLen at h2; omega
theorem LftK.below {t n : Nat} {w0 w' : World} {s' : St} {v : Value} {l : List Int} (h : LftK t n (fun _ => False) w0 s' v l w') : Below w0.heap.size w0 w' := h.drop.below
set_option maxRecDepth 100000 in
theorem listWild_walk {W : World} {A : Option Addr} {words : List Int} {c : Nat} (hw : WordsIn W A words c) (l : Int) (wl : (Lit.int .u64 l).wf = true) (k on key : Int) (wk : (Lit.int .i64 k).wf = true) (won : (Lit.int .i64 on).wf = true) (wkey : (Lit.int .u64 key).wf = true) :
    Calls Try.prog 3 #[.slice A words.length c, .int .u64 l, .agg #[.int .i64 k, .int .i64 on, .int .u64 key]] W fun e w' => e = .returned (.bool true) ∧ Below W.heap.size W w' := by
  have hLw := hw.lies
  have h64 := hw.bd
  have hcap := hw.cap
  obtain ⟨hl0, hl1⟩ := bd_u64 wl
  obtain ⟨hk0, hk1⟩ := bd_u64 wkey
  have hlen : words.length ≤ 9223372036854775807 := by have := hw.len; omega
  have hB0 := Lib.hid ((Below.refl W.heap.size W).alloc (Nat.le_refl _) (.cells #[.int .i64 k, .int .i64 on, .int .u64 key] 25))
  have hL1 := hLw.alloc (.cells #[.int .i64 k, .int .i64 on, .int .u64 key] 25)
  have hS := Blk.new W 25 #[.int .i64 k, .int .i64 on, .int .u64 key]
  clear wl wk won wkey hLw
  by_cases hbig : words.length ≤ 500
  case neg =>
    have z : decide ((500 : Int) < words.length) = true := decide_eq_true (by omega)
    clear hL1 hS hw h64
    generalize words.length = n at *
    go_enter Try.func3, Try.ntmps3
    go_wp2_with fail
    refine (known_b _).mono ?_
    rintro _ w5 ⟨rfl, h5⟩
    have hb := Lib.hid (hB0.out.trans (h5.mono (by simp)))
    clear h5
    go_wp2_with fail
    go_ret
    exact ⟨rfl, hb.out⟩
  case pos =>
    have z : decide ((500 : Int) < words.length) = false := decide_eq_false (by omega)
    have s0 := hS.cell 0
    have s1 := hS.cell 1
    have s2 := hS.cell 2
    simp only [List.getElem?_toArray, List.getElem?_cons_zero, List.getElem?_cons_succ] at s0 s1 s2
    have hO := Lib.hid fun (w : World) (h : Lies w (.slice A words.length c) words) => over_b h (by omega)
    have hL1 := Lib.hid hL1
    have hS := Lib.hid hS
    have hq := Lib.hid hbig
    have h64 := Lib.hid h64
    have hst := Lib.hid fun (w : World) (h : Lies w (.slice A words.length c) words) => stands_b h h64.out (by omega) hl0 hl1
    generalize hn : words.length = n at *
    have hn := Lib.hid hn
    clear hw hbig
    go_enter Try.func3, Try.ntmps3
    go_wp2_with fail
    refine wp_region_mix (fun W' => W'.cell? ⟨W.heap.size, 0, none⟩ = some (.int .i64 k) ∧ W'.cell? ⟨W.heap.size, 1, none⟩ = some (.int .i64 on) ∧ W'.cell? ⟨W.heap.size, 2, none⟩ = some (.int .u64 key)) [3, 2, 3, 3, 0, 2] [0, 3, 4, 1, 2, 5] (by kernel_rfl) (by kernel_rfl) (fun _ _ h => h) ⟨s0, s1, s2⟩ ?_
    repeat (first | ((first | refine wpMix_pure rfl rfl (fun K hK => ?_) | refine wpMix_loc rfl rfl (fun K hK => ?_) | refine wpMix_any rfl rfl (fun K hK => ?_)); go_simp; refine hK _ _ ?_; clear hK K) | (refine wpMix_any rfl rfl (fun K hK => ?_); rw [if_pos (by go_simp)]; apply Exists.intro; refine And.intro (fun w2 hS2 => ?_) (hK _ _ ?_); (focus (obtain ⟨hs1, hs2, hs3⟩ := hS2; go_simp; rfl)); clear hK K))
    refine wpMix_loud rfl rfl (fun k1 K hK => ?_)
    go_wp2_with fail
    refine (hO.out _ (hL1.out.drewN (1 + k1))).mono ?_
    rintro _ w2 ⟨t2, F2, rfl, T2, m2⟩
    have hS2 := Lib.hid (m2.blk (hS.out.drewN (1 + k1)) (fun h => h))
    have u0 := hS2.out.cell 0
    have u1 := hS2.out.cell 1
    have u2 := hS2.out.cell 2
    simp only [List.getElem?_toArray, List.getElem?_cons_zero, List.getElem?_cons_succ] at u0 u1 u2
    have m2 := Lib.hid m2
    have T2 := Lib.hid T2
    clear s0 s1 s2
    go_wp2_with fail
    refine hK _ _ (fun _ => ⟨u0, u1, u2⟩) ?_; clear hK K
    repeat (first | ((first | refine wpMix_pure rfl rfl (fun K hK => ?_) | refine wpMix_loc rfl rfl (fun K hK => ?_) | refine wpMix_any rfl rfl (fun K hK => ?_)); go_simp; refine hK _ _ ?_; clear hK K) | (refine wpMix_any rfl rfl (fun K hK => ?_); rw [if_pos (by go_simp)]; apply Exists.intro; refine And.intro (fun w2 hS2 => ?_) (hK _ _ ?_); (focus (obtain ⟨hs1, hs2, hs3⟩ := hS2; go_simp; rfl)); clear hK K))
    refine wpMix_loud rfl rfl (fun k2 K hK => ?_)
    go_wp2_with fail
    refine (dowild_b (n := 1) (T2.out.drewN k2) (wild_fits h64.out (by have := hn.out; have := hq.out; omega)) (wild_bud hq.out hn.out) (by simp only; have := hq.out; have := hn.out; omega) (by simp) (by omega) hl0 hl1 hk0 hk1 (m2.out.drewN k2)).mono ?_
    rintro _ w3 ⟨v3, s3, rfl, hL3⟩
    have hL4 := Lib.hid ((hL1.out.drewN (1 + k1)).below hL3.below)
    have hB4 := Lib.hid (hB0.out.trans ((below_unN hL3.below).mono (by simp)))
    have hS4 := Lib.hid ((hS.out.drewN (1 + k1)).below hL3.below (by simp))
    have u0 := hS4.out.cell 0
    have u1 := hS4.out.cell 1
    have u2 := hS4.out.cell 2
    simp only [List.getElem?_toArray, List.getElem?_cons_zero, List.getElem?_cons_succ] at u0 u1 u2
    clear hL3 T2 m2 hS2 hS hL1 hB0
    go_wp2_with fail
    refine hK _ _ (fun _ => ⟨u0, u1, u2⟩) ?_; clear hK K
    repeat ((first | refine wpMix_pure rfl rfl (fun K hK => ?_) | refine wpMix_loc rfl rfl (fun K hK => ?_) | refine wpMix_any rfl rfl (fun K hK => ?_)); go_simp; refine hK _ _ ?_; clear hK K)
    refine wpMix_nil (fun k3 => ?_)
    have hL4 := Lib.hid (hL4.out.drewN k3)
    have hB4 := Lib.hid (below_drewNs hB4.out k3)
    clear hS4 u0 u1 u2
    generalize w3.drewN k3 = w4 at *
    go_wp2_with fail
    refine (hO.out _ hL4.out).mono ?_
    rintro _ w5 ⟨t5, F5, rfl, T5, m5⟩
    obtain ⟨p6, ks6, e6, s6, hR⟩ := hfind_some (fun _ => true) ⟨words, 0, 0, -1, 0⟩ l (by simp) (by simp only; have := hq.out; have := hn.out; omega)
    have hv := hfind_stands (by simp) h64.out (by simp only; have := hq.out; have := hn.out; omega) hl0 hR
    have hK := Lib.hid (keys_b (n := 1) T5 (wild_fits h64.out (by have := hn.out; have := hq.out; omega)) ((wild_bud hq.out hn.out).mono (by simp only; omega)) (by simp only; have := hq.out; have := hn.out; omega) hl0 hl1 hR m5)
    simp only at hv
    have hw4 : w4.heap.size ≤ w5.heap.size := m5.size
    clear T5 m5 hR
    by_cases hst2 : (stands words l).2 = true
    · rw [keysOf_ok hv.1 hst2] at hK
      have hst' := hst.out
      unfold StandsP at hst'
      rw [hst2] at hst'
      have hst' := Lib.hid hst'
      clear hv hst
      obtain ⟨lo, hlo⟩ : ∃ lo, (stands words l).1 = lo := ⟨_, rfl⟩
      rw [hlo] at hK hst'
      have hlo := Lib.hid hlo
      go_wp2_with fail
      refine hK.out.mono ?_
      rintro _ w6 ⟨v6, rfl, hL6⟩
      have hb6 := hL6.below
      have W6 := hL6.2.2.1
      have hL7 := hL4.out.below hb6
      have hB7 := Lib.hid (hB4.out.trans (hb6.mono (by have := hB4.out.size; omega)))
      clear hL6 hb6 hK
      go_wp2_with fail
      refine (hst'.out _ hL7).mono ?_
      rintro _ w7 ⟨v7, rfl, W7, hb7⟩
      have q6 := W6.lies.below hb7
      have q7 := W7.lies
      have hB8 := Lib.hid (hB7.out.trans (hb7.mono (by have := hB7.out.size; omega)))
      obtain ⟨A6, c6, rfl, hc6, -⟩ := id q6
      obtain ⟨A7, c7, rfl, hc7, -⟩ := id q7
      have hll : (lo.length : Int) ≤ 9223372036854775807 := W7.len
      have hT : Hid (Calls Try.prog 11 #[.slice A6 lo.length c6, .slice A7 lo.length c7] w7 fun e w' => (∃ n, w' = w7.drewN n) ∧ e = .returned (.bool true)) := Lib.hid ((words_b q6 q7 hll).mono fun e w' ⟨q1, q2⟩ => ⟨q1, by rw [q2, decide_eq_true rfl]⟩)
      clear W6 W7 hb7 q6 q7 hL7 hst' hB7
      generalize lo.length = m at *
      go_wp2_with fail
      refine hT.out.mono ?_
      rintro _ w8 ⟨⟨n8, rfl⟩, rfl⟩
      go_wp2_with fail
      refine (known_b _).mono ?_
      rintro _ w9 ⟨rfl, h9⟩
      have hb := Lib.hid (hB8.out.trans ((below_unN h9).mono (by have := hB8.out.size; exact this)))
      clear h9
      go_wp2_with fail
      go_ret
      exact ⟨rfl, hb.out⟩
    · have hst2 : (stands words l).2 = false := by simpa using hst2
      have hee := hv.2 hst2
      rw [keysOf_no hee] at hK
      have hst' := hst.out
      unfold StandsP at hst'
      rw [hst2] at hst'
      have hst' := Lib.hid hst'
      clear hv hst
      obtain ⟨lo, hlo⟩ : ∃ lo, (stands words l).1 = lo := ⟨_, rfl⟩
      rw [hlo] at hst'
      have hlo := Lib.hid hlo
      rcases hee with rfl | rfl
      all_goals
        go_wp2_with fail
        refine hK.out.mono ?_
        rintro _ w6 ⟨v6, rfl, hL6⟩
        have hb6 := hL6.below
        have W6 := hL6.2.2.1
        have hL7 := hL4.out.below hb6
        have hB7 := Lib.hid (hB4.out.trans (hb6.mono (by have := hB4.out.size; omega)))
        clear hL6 hb6 hK
        obtain ⟨A6, c6, rfl, hc6⟩ := W6.shape
        go_wp2_with fail
        refine (hst'.out _ hL7).mono ?_
        rintro _ w7 ⟨v7, rfl, W7, hb7⟩
        have hB8 := Lib.hid (hB7.out.trans (hb7.mono (by have := hB7.out.size; omega)))
        clear W6 W7 hb7 hL7 hst' hB7
        simp only [List.length_nil]
        go_wp2_with fail
        refine (known_b _).mono ?_
        rintro _ w9 ⟨rfl, h9⟩
        have hb := Lib.hid (hB8.out.trans (h9.mono (by have := hB8.out.size; exact this)))
        clear h9
        go_wp2_with fail
        go_ret
        exact ⟨rfl, hb.out⟩
end Go.Proofs.Ytcohopobjppmaaa
