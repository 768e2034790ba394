/- The skip list by its contracts: a word taken out. -/
import Derived.Test.YtgbgodhkehnbdaaSkD
namespace Go.Proofs.Ytgbgodhkehnbdaa
open Go.RowKit
set_option maxHeartbeats 2000000
set_option linter.unusedVariables false
set_option linter.unusedSimpArgs false

theorem skremove_b {t n : Nat} {F F0 : Nat → Prop} {s : St} {r a x : Int} {w w0 : World} (hw : Txw w t F s) (hf : Fits s) (hb : Bud s (n + 131112)) (hr : 0 ≤ r) (ha : 0 ≤ a) (hx : 0 ≤ x) (hx' : x ≤ 18446744073709551615) (hm : Fr F0 w0 F w) :
    Calls Try.prog 15 #[.iface 29 (.pointer (some ⟨t, 0, none⟩)), .int .u64 r, .int .u64 a, .int .u64 x] w fun e w' => ∃ b er s', Hid (skRemove s r a x = (b, er, s')) ∧ e = .returned (.tuple #[.bool b, .int .i64 er]) ∧ Lft t n F0 w0 s' w' := by
  have hms := hm.size
  go_enter Try.func15, Try.ntmps15
  go_wp2_with fail
  refine (sksearch_b (n := n + 22) hw hf (hb.mono (by omega)) ha (Fr.refl _ _)).mono ?_
  rintro e w1 ⟨f, er, s1, P, q, rfl, f1, b1, F1, hw1, hmr, hP⟩
  have hfb := Lib.hid (skSearch_bd q.out hf)
  have hm1 := hm.trans hmr
  clear hmr hw hm hf hb
  by_cases he : er = 0
  case neg =>
    have hz : (er != 0) = true := by simpa using he
    have hq : Hid (skRemove s r a x = (false, er, s1)) := Lib.hid (by unfold skRemove; rw [q.out]; simp only; rw [if_pos (.inl hz)])
    clear hP
    go_wp2
    go_ret2
    exact ⟨_, er, s1, hq, rfl, f1, b1.mono (by omega), F1, hw1, hm1⟩
  subst he
  obtain ⟨fb, rfl, hfbl, hfd, hnf⟩ := hP rfl
  clear hP
  have HW := Lib.hid hw1
  have HM := Lib.hid hm1
  have HF := Lib.hid hfd
  have hnew : w0.heap.size ≤ fb := Nat.le_trans hms hfbl
  clear hw1 hm1 hfbl
  by_cases hx1 : f.has x = true
  case neg =>
    have hx2 : f.has x = false := by simpa using hx1
    have hq : Hid (skRemove s r a x = (false, 0, s1)) := Lib.hid (by unfold skRemove; rw [q.out]; simp only; rw [if_pos (.inr hx2)])
    clear hx1
    go_wp2_with (go_at_call 28; refine (fhas_b HF.out).mono ?_; rintro e w2 ⟨rfl, rfl⟩)
    go_ret2
    exact ⟨_, 0, s1, hq, rfl, f1, b1.mono (by omega), F1, HW.out, HM.out⟩
  have d0 := hfd.atl 0 (by omega)
  have hlk := getD_bd hfb.out.link 0
  obtain ⟨lk, hlkE⟩ : ∃ v, f.link.getD 0 0 = v := ⟨_, rfl⟩
  rw [hlkE] at d0 hlk
  have hq1 : Hid (skRemove s r a x = match sget s1 (uAdd (IntKind.u64.wrap (lk - 1)) 1) with
    | (level, e2, s2) => if (e2 != 0) = false then skRem r (IntKind.u64.wrap (lk - 1)) f level s2 else (false, e2, s2)) := Lib.hid (by
    unfold skRemove
    rw [q.out]
    simp only
    rw [if_neg (by simp [hx1]), hlkE])
  clear hlkE hfd
  go_wp2_with (go_at_call 28; refine (fhas_b HF.out).mono ?_; rintro e w2 ⟨rfl, rfl⟩)
  refine (tget_b (n := n + 21) HW.out f1 b1 (uw_bd _).1 (Fr.refl _ _)).mono ?_
  rintro e w2 ⟨lv, e2, s2, q2, dv, dv', rfl, f2, b2, F2, hw2, hm2⟩
  have hn2 : ¬ F2 fb := (hm2.apart (G := fun j => j = fb) (fun j hj => by subst hj; exact ⟨HF.out.blk.lt, hnf⟩) fb rfl).2
  have HF2 := Lib.hid (HF.out.fr hm2 hnf)
  have HM2 := Lib.hid (HM.out.trans hm2)
  have HW2 := Lib.hid hw2
  clear HF HM HW hm2 hw2 d0 hnf
  by_cases he : e2 = 0
  case neg =>
    have hz : (e2 != 0) = true := by simpa using he
    have hq : Hid (skRemove s r a x = (false, e2, s2)) := Lib.hid (by rw [hq1.out, show sget s1 (uAdd (IntKind.u64.wrap (lk - 1)) 1) = (lv, e2, s2) from q2.out]; simp only; rw [if_neg (by simp [hz])])
    clear he
    go_wp2
    go_ret2
    exact ⟨_, e2, s2, hq, rfl, f2, b2.mono (by omega), F2, HW2.out, HM2.out⟩
  subst he
  have hq2 : Hid (skRemove s r a x = skRem r (IntKind.u64.wrap (lk - 1)) f lv s2) := Lib.hid (by rw [hq1.out, show sget s1 (uAdd (IntKind.u64.wrap (lk - 1)) 1) = (lv, 0, s2) from q2.out]; rfl)
  clear hq1 q2 q
  by_cases hlv : 8 ≤ IntKind.u64.wrap (lv - 1)
  · have hq : Hid (skRemove s r a x = (false, 320, s2)) := Lib.hid (by rw [hq2.out]; unfold skRem; rw [if_pos hlv])
    go_wp2
    go_ret2
    exact ⟨_, 320, s2, hq, rfl, f2, b2.mono (by omega), F2, HW2.out, HM2.out⟩
  obtain ⟨nl, rfl⟩ : ∃ nl : Nat, lv = (nl : Int) := ⟨lv.toNat, by omega⟩
  have hnl : 1 ≤ nl ∧ nl ≤ 8 := by rw [wrap_u64_mod] at hlv; omega
  obtain ⟨nl1, nl2⟩ := hnl
  have nli1 : (1 : Int) ≤ nl := by omega
  have nli2 : (nl : Int) ≤ 8 := by omega
  have hq3 : Hid (skRemove s r a x = match skUnlink (IntKind.u64.wrap (lk - 1)) f nl 0 s2 with
    | (e3, s3) => if (e3 != 0) = false then
        match rGive s3 r (IntKind.u64.wrap (lk - 1)) (nl + 2) with
        | (e4, s4) => (e4 == 0, e4, s4)
      else (false, e3, s3)) := Lib.hid (by rw [hq2.out]; unfold skRem; rw [if_neg hlv]; rfl)
  have hnd := uw_bd (lk - 1)
  obtain ⟨node, hnode⟩ : ∃ v, IntKind.u64.wrap (lk - 1) = v := ⟨_, rfl⟩
  rw [hnode] at hq3 hnd
  clear hlv hq2 hlk dv dv'
  go_wp2
  go_loopg [55] nl (fun gk c55 wr => ∃ (k : Nat) (s7 : St) (F7 : Nat → Prop), gk + k = nl ∧ c55 = .int .u64 (k : Int) ∧ Hid (skUnlink node f nl 0 s2 = skUnlink node f gk k s7) ∧ Fits s7 ∧ Bud s7 (n + 3 + 2 * gk) ∧ Txw wr t F7 s7 ∧ Fr F0 w0 F7 wr ∧ Fnd wr fb f ∧ ¬ F7 fb)
  case atStart => exact ⟨0, s2, F2, rfl, rfl, Lib.hid rfl, f2, b2.mono (by omega), HW2.out, HM2.out, HF2.out, hn2⟩
  case round =>
    obtain ⟨k, s7, F7, hgk, rfl, hL7, f7, b7, hW7, hM7, hF7, hn7⟩ := hrel
    have HW7 := Lib.hid hW7
    have HM7 := Lib.hid hM7
    have HF7 := Lib.hid hF7
    clear HW2 HM2 HF2 hW7 hM7 hF7
    by_cases hlt : k < nl
    · obtain ⟨m, rfl⟩ : ∃ m, gk = m + 1 := ⟨gk - 1, by omega⟩
      have hkn : (k : Int) < nl := by omega
      have hk8 : k < 8 := by omega
      have hk8i : (k : Int) < 8 := by omega
      have hk0i : (0 : Int) ≤ k := by omega
      have hgk' := Lib.hid hgk
      have b7' : Bud s7 ((n + 3 + 2 * m + 1) + 1) := b7
      have hck := getD_bd hfb.out.cell k
      have hLno : Hid (∀ v e8 s8, sget s7 (uAdd (uAdd node 2) k) = (v, e8, s8) → (e8 != 0) = true → skUnlink node f nl 0 s2 = (e8, s8)) := Lib.hid fun v e8 s8 h1 h2 => by
        rw [hL7.out, skUnlink, h1]
        simp only
        rw [if_neg (by simp [h2])]
      have hLno2 : Hid (∀ v s8 e9 s9, sget s7 (uAdd (uAdd node 2) k) = (v, 0, s8) → sput s8 (f.cell.getD k 0) v = (e9, s9) → (e9 != 0) = true → skUnlink node f nl 0 s2 = (e9, s9)) := Lib.hid fun v s8 e9 s9 h1 h2 h3 => by
        rw [hL7.out, skUnlink, h1]
        simp only
        rw [if_pos (by decide), h2]
        simp only
        rw [if_neg (by simp [h3])]
      have hLok : Hid (∀ v s8 s9, sget s7 (uAdd (uAdd node 2) k) = (v, 0, s8) → sput s8 (f.cell.getD k 0) v = (0, s9) → skUnlink node f nl 0 s2 = skUnlink node f m (k + 1) s9) := Lib.hid fun v s8 s9 h1 h2 => by
        rw [hL7.out, skUnlink, h1]
        simp only
        rw [if_pos (by decide), h2]
        simp only
        rw [if_pos (by decide)]
      generalize hckE : f.cell.getD k 0 = ck at *
      have HckE := Lib.hid hckE
      clear hckE hgk b7 hlt hL7
      go_wp2_with fail
      refine (tget_b (n := n + 3 + 2 * m + 1) HW7.out f7 b7' (uw_bd _).1 (Fr.refl _ _)).mono ?_
      rintro e w8 ⟨v, e8, s8, q8, dv, dv', rfl, f8, b8, F8, hw8, hm8⟩
      have hn8 : ¬ F8 fb := (hm8.apart (G := fun j => j = fb) (fun j hj => by subst hj; exact ⟨HF7.out.blk.lt, hn7⟩) fb rfl).2
      have hF8 := HF7.out.fr hm8 hn7
      have e8a := hF8.atc k hk8
      rw [HckE.out] at e8a
      have HF8 := Lib.hid hF8
      have HM8 := Lib.hid (HM7.out.trans hm8)
      have HW8 := Lib.hid hw8
      clear HF7 HM7 HW7 hm8 hw8 hF8 hn7
      by_cases he : e8 = 0
      case neg =>
        have hz : (e8 != 0) = true := by simpa using he
        have hz2 : (e8 == 0) = false := by simpa using he
        have hq : Hid (skRemove s r a x = (false, e8, s8)) := Lib.hid (by rw [hq3.out, hLno.out v e8 s8 q8.out hz]; simp only; rw [if_neg (by simp [hz])])
        clear he
        go_wp2
        go_ret2
        exact ⟨_, e8, s8, hq, rfl, f8, b8.mono (by omega), F8, HW8.out, HM8.out⟩
      subst he
      go_wp2
      refine wp_region_mix (fun W' => W'.cell? ⟨fb, k, none⟩ = some (.int .u64 ck)) [3, 3, 3, 3, 3, 3, 0, 3, 2, 3, 3, 2, 3] (List.range 13) (by kernel_rfl) (by kernel_rfl) (fun _ _ h => h) e8a ?_
      repeat (first | ((first | refine wpMix_pure rfl rfl (fun K hK => ?_) | refine wpMix_loc rfl rfl (fun K hK => ?_) | refine wpMix_any rfl rfl (fun K hK => ?_)); go_simp; refine hK _ _ ?_; clear hK K) | (refine wpMix_any rfl rfl (fun K hK => ?_); rw [if_pos (by go_simp)]; apply Exists.intro; refine And.intro (fun w2 hS2 => ?_) (hK _ _ ?_); (focus (obtain hs1 := hS2; go_simp; rfl)); clear hK K))
      refine wpMix_loud rfl rfl (fun n4 K hK => ?_)
      go_wp2
      refine hK _ _ (fun _ => e8a) ?_; clear hK K
      repeat (first | ((first | refine wpMix_pure rfl rfl (fun K hK => ?_) | refine wpMix_loc rfl rfl (fun K hK => ?_) | refine wpMix_any rfl rfl (fun K hK => ?_)); go_simp; refine hK _ _ ?_; clear hK K) | (refine wpMix_any rfl rfl (fun K hK => ?_); rw [if_pos (by go_simp)]; apply Exists.intro; refine And.intro (fun w2 hS2 => ?_) (hK _ _ ?_); (focus (obtain hs1 := hS2; go_simp; rfl)); clear hK K))
      refine wpMix_loud rfl rfl (fun n5 K hK => ?_)
      have b8' : Bud s8 ((n + 3 + 2 * m) + 1) := b8
      go_wp2_with fail
      refine (tput_b (n := n + 3 + 2 * m) (HW8.out.drewN _) f8 b8' hck.1 dv dv' (Fr.refl _ _)).mono ?_
      rintro e w9 ⟨e9, s9, q9, rfl, f9, b9, F9, hw9, hm9⟩
      have hn9 : ¬ F9 fb := (hm9.apart (G := fun j => j = fb) (fun j hj => by subst hj; exact ⟨by simpa using HF8.out.blk.lt, hn8⟩) fb rfl).2
      have HF9 := Lib.hid ((HF8.out.drewN _).fr hm9 hn8)
      have HM9 := Lib.hid ((HM8.out.drewN _).trans hm9)
      have HW9 := Lib.hid hw9
      clear HF8 HM8 HW8 hm9 hw9 hn8 e8a
      go_wp2
      refine hK _ _ (fun h => (Bool.false_ne_true ((Eq.symm (by kernel_rfl)).trans h)).elim) ?_; clear hK K
      repeat ((first | refine wpMix_pure rfl rfl (fun K hK => ?_) | refine wpMix_loc rfl rfl (fun K hK => ?_) | refine wpMix_any rfl rfl (fun K hK => ?_)); go_simp; refine hK _ _ ?_; clear hK K)
      refine wpMix_nil (fun n6 => ?_)
      by_cases he9 : e9 = 0
      · subst he9
        have hq := Lib.hid (hLok.out v s8 s9 q8.out q9.out)
        clear hLok hLno hLno2 q8 q9
        go_wp2
        go_roundg m
        case measure => omega
        case rel => exact ⟨k + 1, s9, F9, by have := hgk'.out; omega, by go_num, hq, f9, b9, HW9.out.drewN _, HM9.out.drewN _, HF9.out.drewN _, hn9⟩
      · have hz : (e9 != 0) = true := by simpa using he9
        have hq : Hid (skRemove s r a x = (false, e9, s9)) := Lib.hid (by rw [hq3.out, hLno2.out v s8 e9 s9 q8.out q9.out hz]; simp only; rw [if_neg (by simp [hz])])
        clear hLok hLno hLno2 q8 q9 he9
        go_wp2
        go_ret2
        exact ⟨_, e9, s9, hq, rfl, f9, b9.mono (by omega), F9, HW9.out.drewN _, HM9.out.drewN _⟩
    · obtain rfl : gk = 0 := by omega
      obtain rfl : k = nl := by omega
      have hq4 : Hid (skRemove s r a x = match rGive s7 r node (k + 2) with | (e4, s4) => (e4 == 0, e4, s4)) := Lib.hid (by rw [hq3.out, hL7.out]; rfl)
      clear hq3 hL7 hgk
      go_wp2_with fail
      refine (give_b (n := n) HW7.out f7 b7 hr hnd.1 hnd.2 (by omega) HM7.out).mono ?_
      rintro e w9 ⟨e9, s9, q9, rfl, f9, b9, F9, hw9, hm9⟩
      have hq : Hid (skRemove s r a x = (e9 == 0, e9, s9)) := Lib.hid (by rw [hq4.out, q9.out])
      go_wp2
      go_ret2
      exact ⟨_, e9, s9, hq, rfl, f9, b9, F9, hw9, hm9⟩
end Go.Proofs.Ytgbgodhkehnbdaa
