/- The skip list by its contracts: a word put in. -/
import Derived.Test.YtgbgodhkehnbdaaSkC
import Derived.Deep.DeepCutAuto
namespace Go.Proofs.Ytgbgodhkehnbdaa
open Go.RowKit
set_option maxHeartbeats 2000000
set_option linter.unusedVariables false
set_option linter.unusedSimpArgs false

/-- What an Insert has in memory behind its search. -/
structure Ins (w : World) (t eb tb fb : Nat) (F : Nat → Prop) (s : St) (e : Int) (f : Found) : Prop where
  tx : Txw w t F s
  hE : Blk w eb 34 #[.int .i64 e]
  hT : Blk w tb 59 #[.iface 29 (.pointer (some ⟨t, 0, none⟩))]
  fnd : Fnd w fb f
  nE : ¬ F eb
  nT : ¬ F tb
  nF : ¬ F fb
section
variable {w w' : World} {t eb tb fb : Nat} {F F' : Nat → Prop} {s s' : St} {e : Int} {f : Found}
theorem Ins.step (h : Ins w t eb tb fb F s e f) (hw : Txw w' t F' s') (hf : Fr F w F' w') : Ins w' t eb tb fb F' s' e f := by
  have ap := fun k (hk : k < w.heap.size) (hn : ¬ F k) => (hf.apart (G := fun j => j = k) (fun j hj => by subst hj; exact ⟨hk, hn⟩) k rfl).2
  exact ⟨hw, hf.blk h.hE h.nE, hf.blk h.hT h.nT, h.fnd.fr hf h.nF, ap eb h.hE.lt h.nE, ap tb h.hT.lt h.nT, ap fb h.fnd.blk.lt h.nF⟩
theorem Ins.err (h : Ins w t eb tb fb F s e f) (e' : Int) : Ins (w.setCell ⟨eb, 0, none⟩ (.int .i64 e')) t eb tb fb F s e' f :=
  ⟨h.tx.set h.nE _, by simpa using h.hE.set_ 0 (.int .i64 e'), h.hT.far (Blk.ne_ h.hT h.hE (by decide)) _, ⟨h.fnd.c, h.fnd.l, h.fnd.blk.far (Blk.ne_ h.fnd.blk h.hE (by decide)) _⟩, h.nE, h.nT, h.nF⟩
theorem Ins.drewN (h : Ins w t eb tb fb F s e f) (n : Nat) : Ins (w.drewN n) t eb tb fb F s e f := ⟨h.tx, h.hE, h.hT, h.fnd.drewN n, h.nE, h.nT, h.nF⟩
end

def LftI (t eb tb fb n : Nat) (F0 : Nat → Prop) (w0 : World) (s' : St) (e' : Int) (f : Found) (w' : World) : Prop := Fits s' ∧ Bud s' n ∧ ∃ F', Ins w' t eb tb fb F' s' e' f ∧ Fr F0 w0 F' w'
theorem cput_b {t eb tb fb n : Nat} {F F0 : Nat → Prop} {s : St} {a x e : Int} {f : Found} {w w0 : World} (h : Ins w t eb tb fb F s e f) (hf : Fits s) (hb : Bud s (n + 1)) (ha : 0 ≤ a) (hx : 0 ≤ x) (hx' : x ≤ 18446744073709551615) (hm : Fr F0 w0 F w) (hE : w0.heap.size ≤ eb) :
    Calls Try.prog 33 #[.int .u64 a, .int .u64 x, .pointer (some ⟨eb, 0, none⟩), .pointer (some ⟨tb, 0, none⟩)] w fun en w' => ∃ e' s', Hid (cput e s a x = (e', s')) ∧ en = .returned (.tuple #[]) ∧ LftI t eb tb fb n F0 w0 s' e' f w' := by
  have d0 := h.hE.cell 0
  have d1 := h.hT.cell 0
  have z0 := h.hE.frozen 0
  simp only [List.getElem?_toArray, List.getElem?_cons_zero] at d0 d1
  by_cases he : e = 0
  · subst he
    go_enter Try.func33, Try.ntmps33
    go_wp2_with fail
    refine (tput_b h.tx hf hb ha hx hx' (Fr.refl _ _)).mono ?_
    rintro _ w1 ⟨er, s1, q, rfl, f1, b1, F1, hw1, hm1⟩
    have h1 := h.step hw1 hm1
    have d2 := h1.hE.cell 0
    have z2 := h1.hE.frozen 0
    simp only [List.getElem?_toArray, List.getElem?_cons_zero] at d2
    have h2 := Lib.hid (h1.err er)
    have hm2 := Lib.hid ((hm.trans hm1).set (p := ⟨eb, 0, none⟩) (.inr (.inr hE)) (.int .i64 er))
    have hq : Hid (cput 0 s a x = (er, s1)) := Lib.hid (by unfold cput; rw [if_pos (by decide)]; exact q.out)
    clear h hm h1 hm1 hw1 d0 z0 q
    go_wp2
    go_end0
    exact ⟨er, s1, hq, rfl, f1, b1, F1, h2.out, hm2.out⟩
  · have hz : (e == 0) = false := by simpa using he
    have hq : Hid (cput e s a x = (e, s)) := Lib.hid (by unfold cput; rw [if_neg (by simp [hz])])
    have h2 := Lib.hid h
    have hm2 := Lib.hid hm
    clear h hm he
    go_enter Try.func33, Try.ntmps33
    go_wp2
    go_end0
    exact ⟨e, s, hq, rfl, hf, hb.mono (by omega), F, h2.out, hm2.out⟩

theorem skinsert_b {t n : Nat} {F F0 : Nat → Prop} {s : St} {r a x lv : Int} {w w0 : World} (hw : Txw w t F s) (hf : Fits s) (hb : Bud s (n + 131112)) (hr : 0 ≤ r) (ha : 0 ≤ a) (hx : 0 ≤ x) (hx' : x ≤ 18446744073709551615) (hl : -9223372036854775808 ≤ lv) (hl' : lv ≤ 9223372036854775807) (hm : Fr F0 w0 F w) :
    Calls Try.prog 24 #[.iface 29 (.pointer (some ⟨t, 0, none⟩)), .int .u64 r, .int .u64 a, .int .u64 x, .int .i64 lv] w fun e w' => ∃ b er s', Hid (skInsert s r a x lv = (b, er, s')) ∧ e = .returned (.tuple #[.bool b, .int .i64 er]) ∧ Lft t n F0 w0 s' w' := by
  have hms := hm.size
  go_enter Try.func24, Try.ntmps24
  go_wp2_with fail
  refine (sksearch_b (n := n + 22) (hw.alloc _) hf (hb.mono (by omega)) ha (Fr.refl _ _)).mono ?_
  rintro e w1 ⟨f, er, s1, P, q, rfl, f1, b1, F1, hw1, hmr, hP⟩
  have hfb := Lib.hid (skSearch_bd q.out hf)
  have hnt : ¬ F w.heap.size := fun h => by have := hw.lt _ h; omega
  have hTb : Blk w1 w.heap.size 59 #[.iface 29 (.pointer (some ⟨t, 0, none⟩))] := hmr.blk (Blk.new _ _ _) hnt
  have hnt1 : ¬ F1 w.heap.size := (hmr.apart (G := fun j => j = w.heap.size) (fun j hj => by subst hj; exact ⟨by simp, hnt⟩) w.heap.size rfl).2
  have hm1 := (hm.alloc (.cells #[.iface 29 (.pointer (some ⟨t, 0, none⟩))] 59)).trans hmr
  clear hmr hw hm hf hb hnt
  by_cases he : er = 0
  case neg =>
    have hz : (er != 0) = true := by simpa using he
    have hq : Hid (skInsert s r a x lv = (false, er, s1)) := Lib.hid (by unfold skInsert; rw [q.out]; simp only; rw [if_pos (.inl hz)])
    have hw2 := Lib.hid (hw1.alloc (.cells #[.int .i64 er] 34))
    have hm2 := Lib.hid (hm1.alloc (.cells #[.int .i64 er] 34))
    clear hP hm1 hw1 hTb
    go_wp2
    go_quiet (fail)
    go_wp2
    go_ret2
    exact ⟨_, er, s1, hq, rfl, f1, b1.mono (by omega), F1, hw2.out.drewN _, hm2.out.drewN _⟩
  subst he
  obtain ⟨fb, rfl, hfbl, hfd, hnf⟩ := hP rfl
  clear hP
  have hi : Ins (w1.alloc (.cells #[.int .i64 0] 34)) t w1.heap.size w.heap.size fb F1 s1 0 f :=
    ⟨hw1.alloc _, Blk.new _ _ _, hTb.alloc _, hfd.alloc _, fun h => by have := hw1.lt _ h; omega, hnt1, hnf⟩
  have hI := Lib.hid hi
  have hm2 := Lib.hid (hm1.alloc (.cells #[.int .i64 0] 34))
  have hE0 : w0.heap.size ≤ w1.heap.size := hm1.size
  have hfd2 := Lib.hid (hfd.alloc (.cells #[.int .i64 0] 34))
  clear hi hTb hm1 hw1 hfd hfbl hnt1 hnf
  by_cases hx1 : f.has x = true
  · have hq : Hid (skInsert s r a x lv = (false, 0, s1)) := Lib.hid (by unfold skInsert; rw [q.out]; simp only; rw [if_pos (.inr hx1)])
    go_wp2_with (go_at_call 28; refine (fhas_b hfd2.out).mono ?_; rintro e w2 ⟨rfl, rfl⟩)
    go_quiet (fail)
    go_wp2
    go_ret2
    exact ⟨_, 0, s1, hq, rfl, f1, b1.mono (by omega), F1, hI.out.tx.drewN _, hm2.out.drewN _⟩
  have hx2 : f.has x = false := by simpa using hx1
  clear hx1
  obtain ⟨nl, hnl⟩ : ∃ nl : Nat, (nl : Int) = max 1 (min lv 8) := ⟨(max 1 (min lv 8)).toNat, by omega⟩
  have hq1 : Hid (skInsert s r a x lv = match rTake s1 r (nl + 2) with
    | (node, e2, s2) => if (e2 != 0) = false then skNode node x nl f s2 else (false, e2, s2)) := Lib.hid (by
    unfold skInsert
    rw [q.out]
    simp only
    rw [if_neg (by simp [hx2]), ← hnl]
    rfl)
  have nl1 : 1 ≤ nl := by omega
  have nl2 : nl ≤ 8 := by omega
  have Hnl := Lib.hid hnl
  clear hnl
  go_upto_region 4 with (go_at_call 28; refine (fhas_b hfd2.out).mono ?_; rintro e w2 ⟨rfl, rfl⟩)
  go_cut [4] (fun c4 wx => c4 = .int .i64 (nl : Int) ∧ wx = w1.alloc (.cells #[.int .i64 0] 34))
  case first =>
    clear nl1 nl2
    go_wp2
    all_goals go_meet
    all_goals exact ⟨congrArg (Value.int .i64) (by have := Hnl.out; omega), rfl⟩
  case rest =>
    obtain ⟨rfl, rfl⟩ := hcut
    have dT := hI.out.hT.cell 0
    have zE := hI.out.hE.frozen 0
    have dE := hI.out.hE.cell 0
    simp only [List.getElem?_toArray, List.getElem?_cons_zero] at dT dE
    have nli : (nl : Int) ≤ 8 := by omega
    generalize hW2 : w1.alloc (.cells #[.int .i64 0] 34) = w2 at *
    generalize hEB : w1.heap.size = eb at *
    generalize hTB : w.heap.size = tb at *
    clear hfd2 hW2 hEB hTB
    go_wp2_with fail
    refine (take_b (n := n + 18) hI.out.tx f1 b1 hr (by omega) (Fr.refl _ _)).mono ?_
    rintro e w3 ⟨node, e3, s3, q3, dn, dn', rfl, f3, b3, F3, hw3, hm3⟩
    have hI3 := hI.out.step hw3 hm3
    have d3 := hI3.hE.cell 0
    have z3 := hI3.hE.frozen 0
    simp only [List.getElem?_toArray, List.getElem?_cons_zero] at d3
    have hI4 := Lib.hid (hI3.err e3)
    have hm4 := Lib.hid ((hm2.out.trans hm3).set (p := ⟨eb, 0, none⟩) (.inr (.inr hE0)) (.int .i64 e3))
    clear hI3 hm3 hw3 dT zE dE hI hm2
    by_cases he : e3 = 0
    case neg =>
      have hz : (e3 != 0) = true := by simpa using he
      have hq : Hid (skInsert s r a x lv = (false, e3, s3)) := Lib.hid (by rw [hq1.out, q3.out]; simp only; rw [if_neg (by simp [hz])])
      have d4 := hI4.out.hE.cell 0
      simp only [List.getElem?_toArray, List.getElem?_cons_zero] at d4
      clear he
      go_wp2
      go_quiet (fail)
      go_wp2
      go_ret2
      exact ⟨_, e3, s3, hq, rfl, f3, b3.mono (by omega), F3, hI4.out.tx.drewN _, hm4.out.drewN _⟩
    subst he
    have hq : Hid (skInsert s r a x lv = skNode node x nl f s3) := Lib.hid (by rw [hq1.out, q3.out]; rfl)
    have d4 := hI4.out.hE.cell 0
    simp only [List.getElem?_toArray, List.getElem?_cons_zero] at d4
    clear hq1 q3 q
    go_wp2_with fail
    refine (cput_b (n := n + 17) hI4.out f3 b3 dn hx hx' hm4.out hE0).mono ?_
    rintro _ w5 ⟨e5, s5, q5, rfl, f5, b5, F5, hI5, hm5⟩
    go_wp2_with fail
    refine (cput_b (n := n + 16) hI5 f5 b5 (uw_bd _).1 (by omega) (by omega) hm5 hE0).mono ?_
    rintro _ w6 ⟨e6, s6, q6, rfl, f6, b6, F6, hI6, hm6⟩
    have hI6' := Lib.hid hI6
    have hm6' := Lib.hid hm6
    have hL : Hid (skInsert s r a x lv = match skLink node f nl 0 e6 s6 with | (e5, s5) => (e5 == 0, e5, s5)) := Lib.hid (by
      rw [hq.out]
      unfold skNode
      rw [q5.out]
      simp only
      rw [show cput e5 s5 (uAdd node 1) nl = (e6, s6) from q6.out])
    clear hI5 hm5 hI6 hm6 hI4 hm4 d4 d3 z3 q5 q6 hq
    go_wp2_with fail
    go_loopg [59] nl (fun gk c59 wr => ∃ (k : Nat) (e7 : Int) (s7 : St) (F7 : Nat → Prop), gk + k = nl ∧ c59 = .int .i64 (k : Int) ∧ Hid (skLink node f nl 0 e6 s6 = skLink node f gk k e7 s7) ∧ Fits s7 ∧ Bud s7 (n + 2 * gk) ∧ Ins wr t eb tb fb F7 s7 e7 f ∧ Fr F0 w0 F7 wr)
    case atStart => exact ⟨0, e6, s6, F6, rfl, rfl, Lib.hid rfl, f6, b6.mono (by omega), hI6'.out, hm6'.out⟩
    case round =>
      obtain ⟨k, e7, s7, F7, hgk, rfl, hL7, f7, b7, hI7, hm7⟩ := hrel
      clear hI6' hm6'
      by_cases hlt : k < nl
      · obtain ⟨m, rfl⟩ : ∃ m, gk = m + 1 := ⟨gk - 1, by omega⟩
        have hkn : (k : Int) < nl := by omega
        have hk8 : k < 8 := by omega
        have hk8i : (k : Int) < 8 := by omega
        have hgk' := Lib.hid hgk
        have d7 := hI7.fnd.atl k hk8
        have e7a := hI7.fnd.atc k hk8
        have b7' : Bud s7 ((n + 2 * m + 1) + 1) := b7
        have hlk := getD_bd hfb.out.link k
        have hck := getD_bd hfb.out.cell k
        have hLs : Hid (∀ e8 s8 e9 s9, cput e7 s7 (uAdd (uAdd node 2) k) (f.link.getD k 0) = (e8, s8) → cput e8 s8 (f.cell.getD k 0) (uAdd node 1) = (e9, s9) → skLink node f nl 0 e6 s6 = skLink node f m (k + 1) e9 s9) := Lib.hid fun e8 s8 e9 s9 h1 h2 => by
          rw [hL7.out, skLink, h1]
          simp only
          rw [h2]
        generalize f.link.getD k 0 = lk at *
        generalize hckE : f.cell.getD k 0 = ck at *
        have HckE := Lib.hid hckE
        clear hckE
        clear hgk b7 hlt hL7
        go_wp2_with fail
        refine (cput_b (n := n + 2 * m + 1) hI7 f7 b7' (uw_bd _).1 hlk.1 hlk.2 hm7 hE0).mono ?_
        rintro _ w8 ⟨e8, s8, q8, rfl, f8, b8, F8, hI8, hm8⟩
        have e8a := hI8.fnd.atc k hk8
        rw [HckE.out] at e8a
        have hI8' := Lib.hid hI8
        have hm8' := Lib.hid hm8
        clear hI7 hm7 hI8 hm8 d7 e7a
        go_wp2_with fail
        refine (cput_b (n := n + 2 * m) hI8'.out f8 b8 hck.1 (uw_bd _).1 (uw_bd _).2 hm8'.out hE0).mono ?_
        rintro _ w9 ⟨e9, s9, q9, rfl, f9, b9, F9, hI9, hm9⟩
        have hI9' := Lib.hid hI9
        have hm9' := Lib.hid hm9
        clear hI8' hm8' hI9 hm9 e8a
        go_wp2_with fail
        go_roundg m
        case measure => omega
        case rel => exact ⟨k + 1, e9, s9, F9, by have := hgk'.out; omega, by go_num, Lib.hid (hLs.out _ _ _ _ q8.out q9.out), f9, b9, hI9'.out, hm9'.out⟩
      · obtain rfl : gk = 0 := by omega
        have hkn : (nl : Int) ≤ k := by omega
        have d7 := hI7.hE.cell 0
        simp only [List.getElem?_toArray, List.getElem?_cons_zero] at d7
        have hq : Hid (skInsert s r a x lv = (e7 == 0, e7, s7)) := Lib.hid (by rw [hL.out, hL7.out]; rfl)
        have hI7' := Lib.hid hI7
        have hm7' := Lib.hid hm7
        clear hI7 hm7 hgk hlt
        go_wp2
        go_quiet (fail)
        go_wp2
        go_ret2
        exact ⟨_, e7, s7, hq, rfl, f7, b7, F7, hI7'.out.tx.drewN _, hm7'.out.drewN _⟩
end Go.Proofs.Ytgbgodhkehnbdaa
