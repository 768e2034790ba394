/- SkipMeans: a step on two sets, walked. -/
import Derived.Test.YtgbgodhkehnbdaaSkM5
namespace Go.Proofs.Ytgbgodhkehnbdaa
open Go.RowKit
set_option maxHeartbeats 40000000
set_option linter.unusedVariables false
set_option linter.unusedSimpArgs false

/-- a box beside the two sets -/
structure Bxd (w : World) (bb : Nat) (cs : Array Value) (F G : Nat → Prop) : Prop where
  blk : Blk w bb 48 cs
  nF : ¬ F bb
  nG : ¬ G bb
theorem Bxd.left {w w' : World} {bb : Nat} {cs : Array Value} {F G F' : Nat → Prop} (h : Bxd w bb cs F G) (hm : Fr F w F' w') : Bxd w' bb cs F' G :=
  ⟨hm.blk h.blk h.nF, (hm.apart (G := fun k => k = bb) (fun k hk => by subst hk; exact ⟨h.blk.lt, h.nF⟩) bb rfl).2, h.nG⟩
theorem Bxd.right {w w' : World} {bb : Nat} {cs : Array Value} {F G G' : Nat → Prop} (h : Bxd w bb cs F G) (hm : Fr G w G' w') : Bxd w' bb cs F G' :=
  ⟨hm.blk h.blk h.nG, h.nF, (hm.apart (G := fun k => k = bb) (fun k hk => by subst hk; exact ⟨h.blk.lt, h.nG⟩) bb rfl).2⟩

/-- where the word stands, if it does -/
theorem there_cases (l : List Int) (x : Int) : (lplace l x < l.length ∧ (l.getD (lplace l x) 0 == x) = lthere l x) ∨ (l.length ≤ lplace l x ∧ lthere l x = false) := by
  by_cases h : lplace l x < l.length
  · exact .inl ⟨h, by unfold lthere; simp [h]⟩
  · exact .inr ⟨by omega, by unfold lthere; simp [h]⟩

theorem hdr_eq {W V : List Int} (hW : W.length = 2000) (hV : V.length = 2000) (h : ∀ k, k < 8 → V.getD (20 + k) 0 = W.getD (20 + k) 0) : (W.drop 20).take 8 = (V.drop 20).take 8 := by
  apply List.ext_getElem
  · simp; omega
  · intro i h1 h2
    have hi : i < 8 := by simp at h1; omega
    have := h i hi
    rw [List.getD_eq_getElem?_getD, List.getD_eq_getElem?_getD, List.getElem?_eq_getElem (by omega), List.getElem?_eq_getElem (by omega)] at this
    simpa using this.symm

set_option maxRecDepth 100000 in
theorem means_b {t u c : Nat} {B : Nat → Prop} {w0 w : World} {v : Value} {F G : Nat → Prop} {s r : St} {l : List Int} (h : Two B w0 w t u v F G s r l l l c) (hc : c < 150) (hs : s.log = []) (hr : r.log = []) (kind level rm rat x y other : Int)
    (hx : 0 ≤ x) (hx' : x ≤ 18446744073709551615) (hl : -9223372036854775808 ≤ level) (hl' : level ≤ 9223372036854775807) (ho : -9223372036854775808 ≤ other) (ho' : other ≤ 9223372036854775807) :
    Calls Try.prog 19 #[.pointer (some ⟨t, 0, none⟩), .pointer (some ⟨u, 0, none⟩), v, .agg #[.int .i64 kind, .int .i64 level, .int .u64 rm, .int .u64 rat, .int .u64 x, .int .u64 y], .int .i64 other] w fun e w' =>
      e = .returned (.bool true) ∧ ∃ F' G' s' r', Two B w0 w' t u v F' G' s' r' l (lnext kind l x) (lnext kind l x) (c + 1) := by
  have hn := h.st.count
  obtain ⟨A, cp, rfl, hcp⟩ := h.vl.shape
  have H1 := Lib.hid (h.alloc (.cells #[.int .i64 kind, .int .i64 level, .int .u64 rm, .int .u64 rat, .int .u64 x, .int .u64 y] 48))
  have hbx : Bxd (w.alloc (.cells #[.int .i64 kind, .int .i64 level, .int .u64 rm, .int .u64 rat, .int .u64 x, .int .u64 y] 48)) w.heap.size #[.int .i64 kind, .int .i64 level, .int .u64 rm, .int .u64 rat, .int .u64 x, .int .u64 y] F G :=
    ⟨Blk.new w _ _, fun hf => by have := h.tx.lt _ hf; omega, fun hf => by have := h.ux.lt _ hf; omega⟩
  have HB := Lib.hid hbx
  have hln : (l.length : Int) ≤ 150 := by omega
  have hlc : (l.length : Int) ≤ cp := by omega
  have hpl := lplace_le l x
  have hpi : (lplace l x : Int) ≤ 150 := by omega
  have hpi0 : (0 : Int) ≤ (lplace l x : Int) := by omega
  clear h hbx hcp
  go_enter Try.func19, Try.ntmps19
  go_upto_region 2 with (go_at_call 30; refine (place_b H1.out.vl.lies (by omega)).mono ?_; rintro e _ ⟨rfl, rfl⟩)
  generalize hw1 : w.alloc (.cells #[.int .i64 kind, .int .i64 level, .int .u64 rm, .int .u64 rat, .int .u64 x, .int .u64 y] 48) = w1 at *
  generalize hbb : w.heap.size = bb at *
  clear hw1 hbb
  go_cut [12] (fun c12 wx => c12 = .bool (lthere l x) ∧ ∃ n, wx = w1.drewN n)
  case first =>
    have d4 := HB.out.blk.cell 4
    simp only [List.getElem?_toArray, List.getElem?_cons_zero, List.getElem?_cons_succ] at d4
    have hL := H1.out.vl.lies
    clear H1 HB hpl
    rcases there_cases l x with ⟨hlt, he⟩ | ⟨hge, he⟩
    · obtain ⟨A', cp', e, _, _, hcc⟩ := hL
      injection e with e1 e2 e3
      subst e1
      subst e3
      obtain ⟨g, o, rfl, d⟩ := hcc _ hlt
      have He := Lib.hid he
      generalize l.getD (lplace l x) 0 = z at *
      have hpi2 : (lplace l x : Int) < l.length := by omega
      generalize lplace l x = p at *
      clear hcc e2 he hlt
      refine wp_region_mix (fun _ => True) [3, 3, 3, 3, 3, 3, 3, 3, 1, 3, 1, 3, 3, 3] (List.range 14) (by kernel_rfl) (by kernel_rfl) (fun _ _ h => h) trivial ?_
      repeat ((first | refine wpMix_pure rfl rfl (fun K hK => ?_) | refine wpMix_loc rfl rfl (fun K hK => ?_) | refine wpMix_any rfl rfl (fun K hK => ?_)); go_simp; refine hK _ _ ?_; clear hK K)
      refine wpMix_nil (fun n1 => ?_)
      go_wp2
      go_meet
      exact ⟨congrArg Value.bool He.out, 1 + n1, drewN_drewN w1 1 n1⟩
    · have He := Lib.hid he
      have hpi2 : (l.length : Int) ≤ lplace l x := by omega
      generalize lplace l x = p at *
      have hdec : (p < l.length) = False := eq_false (by omega)
      clear hL d4 he hge
      refine wp_region_mix (fun _ => True) [3, 3, 3, 3, 3, 3, 3, 3, 1, 3, 1, 3, 3, 3] (List.range 14) (by kernel_rfl) (by kernel_rfl) (fun _ _ h => h) trivial ?_
      repeat ((first | refine wpMix_pure rfl rfl (fun K hK => ?_) | refine wpMix_loc rfl rfl (fun K hK => ?_) | refine wpMix_any rfl rfl (fun K hK => ?_)); go_simp; refine hK _ _ ?_; clear hK K)
      refine wpMix_nil (fun n1 => ?_)
      go_wp2
      go_meet
      exact ⟨congrArg Value.bool He.out.symm, 1 + n1, drewN_drewN w1 1 n1⟩
  case rest =>
    obtain ⟨rfl, n1, rfl⟩ := hcut
    have H2 := Lib.hid (H1.out.drewN n1)
    have HB2 : Hid (Bxd (w1.drewN n1) bb #[.int .i64 kind, .int .i64 level, .int .u64 rm, .int .u64 rat, .int .u64 x, .int .u64 y] F G) := Lib.hid ⟨HB.out.blk.drewN n1, HB.out.nF, HB.out.nG⟩
    clear H1 HB
    generalize w1.drewN n1 = w2 at *
    have dk := HB2.out.blk.cell 0
    have dl := HB2.out.blk.cell 1
    have dx := HB2.out.blk.cell 4
    simp only [List.getElem?_toArray, List.getElem?_cons_zero, List.getElem?_cons_succ] at dk dl dx
    have hbs : Hid (Bud s 600000) := Lib.hid (by unfold Bud; rw [hs]; simp)
    have hbr : Hid (Bud r 600000) := Lib.hid (by unfold Bud; rw [hr]; simp)
    have hpl' := Lib.hid hpl
    have Hlog := Lib.hid hs
    clear hs hr hpl
    by_cases k3 : kind = 3
    · subst k3
      obtain ⟨s3, q3, hs3⟩ := set_insert H2.out.st (hbs.out.mono (by omega)) (by omega) x level
      obtain ⟨r4, q4, hr4⟩ := set_insert H2.out.sr (hbr.out.mono (by omega)) (by omega) x other
      have Q3 := Lib.hid q3
      have Q4 := Lib.hid q4
      have HS3 := Lib.hid hs3
      have HR4 := Lib.hid hr4
      clear q3 q4 hs3 hr4
      generalize hth : lthere l x = th at *
      clear hth
      go_wp2_with fail
      refine (skinsert_b (n := 300000) H2.out.tx H2.out.fs (hbs.out.mono (by omega)) (by omega) (by omega) hx hx' hl hl' (Fr.refl _ _)).mono ?_
      rintro e w3 ⟨b3, e3, s3', q, rfl, f3, bu3, F3, hw3, hm3⟩
      obtain ⟨rfl, rfl, rfl⟩ : (!th) = b3 ∧ 0 = e3 ∧ s3 = s3' := by have := Q3.out.symm.trans q.out; simpa using this
      have H3 := Lib.hid (H2.out.left hw3 f3 HS3.out hm3 (Nat.le_succ c))
      have HB3 := Lib.hid (HB2.out.left hm3)
      have dx3 := HB3.out.blk.cell 4
      simp only [List.getElem?_toArray, List.getElem?_cons_zero, List.getElem?_cons_succ] at dx3
      clear q f3 bu3 hw3 hm3 H2 HB2 Q3 HS3 dk dl dx
      go_wp2_with fail
      refine (skinsert_b (n := 300000) H3.out.ux H3.out.fr (hbr.out.mono (by omega)) (by omega) (by omega) hx hx' ho ho' (Fr.refl _ _)).mono ?_
      rintro e w4 ⟨b4, e4, r4', q, rfl, f4, bu4, G4, hw4, hm4⟩
      obtain ⟨rfl, rfl, rfl⟩ : (!th) = b4 ∧ 0 = e4 ∧ r4 = r4' := by have := Q4.out.symm.trans q.out; simpa using this
      have H4 := Lib.hid (H3.out.right hw4 f4 HR4.out hm4 (Nat.le_refl _))
      clear q f4 bu4 hw4 hm4 H3 HB3 Q4 HR4 dx3 hbs hbr Hlog
      go_wp2_with (go_at_call 16; refine (num_b _ _).mono ?_; rintro e _ ⟨rfl, rfl⟩)
      go_ret
      exact ⟨by simp, F3, G4, s3, r4, H4.out⟩
    have k3' : (kind == 3) = false := by simpa using k3
    by_cases k4 : kind = 4
    · subst k4
      clear k3 k3'
      obtain ⟨s3, q3, hs3⟩ := set_remove H2.out.st (hbs.out.mono (by omega)) x
      obtain ⟨r4, q4, hr4⟩ := set_remove H2.out.sr (hbr.out.mono (by omega)) x
      have Q3 := Lib.hid q3
      have Q4 := Lib.hid q4
      have HS3 := Lib.hid hs3
      have HR4 := Lib.hid hr4
      clear q3 q4 hs3 hr4
      generalize hth : lthere l x = th at *
      clear hth
      go_wp2_with fail
      refine (skremove_b (n := 300000) H2.out.tx H2.out.fs (hbs.out.mono (by omega)) (by omega) (by omega) hx hx' (Fr.refl _ _)).mono ?_
      rintro e w3 ⟨b3, e3, s3', q, rfl, f3, bu3, F3, hw3, hm3⟩
      obtain ⟨rfl, rfl, rfl⟩ : th = b3 ∧ 0 = e3 ∧ s3 = s3' := by have := Q3.out.symm.trans q.out; simpa using this
      have H3 := Lib.hid (H2.out.left hw3 f3 HS3.out hm3 (Nat.le_refl c))
      have HB3 := Lib.hid (HB2.out.left hm3)
      have dx3 := HB3.out.blk.cell 4
      simp only [List.getElem?_toArray, List.getElem?_cons_zero, List.getElem?_cons_succ] at dx3
      clear q f3 bu3 hw3 hm3 H2 HB2 Q3 HS3 dk dl dx
      go_wp2_with fail
      refine (skremove_b (n := 300000) H3.out.ux H3.out.fr (hbr.out.mono (by omega)) (by omega) (by omega) hx hx' (Fr.refl _ _)).mono ?_
      rintro e w4 ⟨b4, e4, r4', q, rfl, f4, bu4, G4, hw4, hm4⟩
      obtain ⟨rfl, rfl, rfl⟩ : th = b4 ∧ 0 = e4 ∧ r4 = r4' := by have := Q4.out.symm.trans q.out; simpa using this
      have H4 := Lib.hid ((H3.out.right hw4 f4 HR4.out hm4 (Nat.le_refl _)).mono (Nat.le_succ c))
      clear q f4 bu4 hw4 hm4 H3 HB3 Q4 HR4 dx3 hbs hbr Hlog
      go_wp2_with (go_at_call 16; refine (num_b _ _).mono ?_; rintro e _ ⟨rfl, rfl⟩)
      go_ret
      exact ⟨by simp, F3, G4, s3, r4, H4.out⟩
    have k4' : (kind == 4) = false := by simpa using k4
    have hnx : Hid (lnext kind l x = l) := Lib.hid (by unfold lnext; rw [if_neg k3, if_neg k4])
    clear k3 k4
    by_cases k56 : kind = 5 ∨ kind = 6
    · obtain ⟨s3, q3, lk3, hs3⟩ := set_has H2.out.st (hbs.out.mono (by omega)) x
      have Q3 := Lib.hid q3
      have HS3 := Lib.hid hs3
      have L3 := Lib.hid lk3
      clear q3 hs3 lk3
      generalize hth : lthere l x = th at *
      clear hth
      rcases k56 with rfl | rfl
      all_goals go_wp2_with fail
      all_goals refine (skhas_b (n := 300000) H2.out.tx H2.out.fs (hbs.out.mono (by omega)) (by omega) (Fr.refl _ _)).mono ?_
      all_goals rintro e w3 ⟨b3, e3, s3', q, rfl, f3, bu3, F3, hw3, hm3⟩
      all_goals obtain ⟨rfl, rfl, rfl⟩ : th = b3 ∧ 0 = e3 ∧ s3 = s3' := by have := Q3.out.symm.trans q.out; simpa using this
      all_goals have H3 := Lib.hid (H2.out.left hw3 f3 HS3.out hm3 (Nat.le_refl c))
      all_goals obtain ⟨s4, q4, lk4, hs4⟩ := set_first H3.out.st (bu3.mono (by omega))
      all_goals have Q4 := Lib.hid q4
      all_goals have HS4 := Lib.hid hs4
      all_goals have L4 := Lib.hid (L3.out.trans lk4)
      all_goals clear q4 hs4 lk4 q f3 hw3 hm3 H2 HB2 Q3 HS3 dk dl dx L3
      all_goals go_wp2_with fail
      all_goals refine (skfirst_b (n := 200000) H3.out.tx H3.out.fs (bu3.mono (by omega)) (by omega) (Fr.refl _ _)).mono ?_
      all_goals rintro e w4 ⟨x4, b4, e4, s4', q, _, _, rfl, f4, bu4, F4, hw4, hm4⟩
      all_goals obtain ⟨rfl, rfl, rfl, rfl⟩ : l.getD 0 0 = x4 ∧ decide (0 < l.length) = b4 ∧ 0 = e4 ∧ s4 = s4' := by have := Q4.out.symm.trans q.out; simpa only [Prod.mk.injEq] using this
      all_goals have H4 := Lib.hid ((H3.out.left hw4 f4 HS4.out hm4 (Nat.le_refl c)).mono (Nat.le_succ c))
      all_goals have hlk : Hid (∀ p ∈ s4.log, p.1 = false) := Lib.hid (by obtain ⟨_, m, h1, h2⟩ := L4.out; rw [h1, Hlog.out]; simpa using h2)
      all_goals have hbu := Lib.hid (bu4.mono (Nat.zero_le 200000))
      all_goals clear q f4 hw4 hm4 H3 Q4 HS4 hbs hbr Hlog L4 bu3 bu4
      all_goals
        cases l with
        | nil =>
          go_wp2_with (first | (go_at_call 16; refine (num_b _ _).mono ?_; rintro e _ ⟨rfl, rfl⟩) | (go_at_call 31; refine (looks_b H4.out.tx hbu.out hlk.out).mono ?_; rintro e _ ⟨rfl, n4, rfl⟩))
          go_ret
          exact ⟨by simp, F4, G, s4, r, by rw [hnx.out]; exact H4.out.drewN _⟩
        | cons y l' =>
          obtain ⟨A', cp', e, _, _, hcc⟩ := H4.out.vl.lies
          injection e with e1 e2 e3
          subst e1
          subst e3
          obtain ⟨g, o, rfl, d⟩ := hcc 0 (by simp)
          simp only [Nat.add_zero] at d
          have hl0 : decide (0 < (y :: l').length) = true := by simp
          rw [hl0]
          have hgy : (y :: l').getD 0 0 = y := rfl
          rw [hgy] at d ⊢
          generalize hll : (y :: l').length = ll at *
          have hlp : (0 : Int) < ll := by rw [← hll]; simp
          clear hcc e2 hl0 hgy
          go_wp2_with (first | (go_at_call 16; refine (num_b _ _).mono ?_; rintro e _ ⟨rfl, rfl⟩) | (go_at_call 31; refine (looks_b H4.out.tx hbu.out hlk.out).mono ?_; rintro e _ ⟨rfl, n4, rfl⟩))
          go_ret
          exact ⟨by simp, F4, G, s4, r, by rw [hnx.out, hll]; exact H4.out.drewN _⟩
    have k5' : (kind == 5) = false := by simp at k56; simpa using k56.1
    have k6' : (kind == 6) = false := by simp at k56; simpa using k56.2
    clear k56
    by_cases k7 : kind = 7
    · subst k7
      clear k3' k4' k5' k6'
      obtain ⟨s3, q3, lk3, hs3⟩ := set_after H2.out.st (hbs.out.mono (by omega)) x
      have Q3 := Lib.hid q3
      have HS3 := Lib.hid hs3
      have L3 := Lib.hid lk3
      have haf : lafter l x ≤ 151 := by unfold lafter; split <;> omega
      have hth0 : Hid ((lthere l x = true → lafter l x = lplace l x + 1) ∧ (lthere l x = false → lafter l x = lplace l x)) := Lib.hid (by unfold lafter; exact ⟨fun h => by rw [if_pos h], fun h => by rw [if_neg (by rw [h]; simp)]⟩)
      clear q3 hs3 lk3
      generalize hth : lthere l x = th at *
      clear hth
      go_wp2_with fail
      refine (skafter_b (n := 300000) H2.out.tx H2.out.fs (hbs.out.mono (by omega)) (by omega) (Fr.refl _ _)).mono ?_
      rintro e w3 ⟨x3, b3, e3, s3', q, rfl, f3, bu3, F3, hw3, hm3⟩
      obtain ⟨rfl, rfl, rfl, rfl⟩ : l.getD (lafter l x) 0 = x3 ∧ decide (lafter l x < l.length) = b3 ∧ 0 = e3 ∧ s3 = s3' := by have := Q3.out.symm.trans q.out; simpa only [Prod.mk.injEq] using this
      have H4 := Lib.hid ((H2.out.left hw3 f3 HS3.out hm3 (Nat.le_refl c)).mono (Nat.le_succ c))
      have hlk : Hid (∀ p ∈ s3.log, p.1 = false) := Lib.hid (by obtain ⟨_, m, h1, h2⟩ := L3.out; rw [h1, Hlog.out]; simpa using h2)
      have hbu := Lib.hid (bu3.mono (Nat.zero_le 300000))
      have Hth := Lib.hid hth0.out
      clear q f3 bu3 hw3 hm3 H2 HB2 Q3 HS3 dk dl dx L3 hbs hbr Hlog hth0
      have hL := H4.out.vl.lies
      obtain ⟨A', cp', e, _, _, hcc⟩ := hL
      injection e with e1 e2 e3
      subst e1
      subst e3
      have fin : ∀ n, Two B w0 (w3.drewN n) t u (.slice A l.length cp) F3 G s3 r l (lnext 7 l x) (lnext 7 l x) (c + 1) := fun n => H4.out.drewN n
      have Fin := Lib.hid fin
      have HTx := Lib.hid H4.out.tx
      clear fin H4 e2 hnx
      by_cases haq : lafter l x < l.length
      · obtain ⟨g, o, rfl, d⟩ := hcc _ haq
        have hde : decide (lafter l x < l.length) = true := by simpa using haq
        rw [hde]
        generalize l.getD (lafter l x) 0 = z at *
        generalize lafter l x = q at *
        generalize lplace l x = p at *
        have hqi : (q : Int) < l.length := by omega
        clear hcc hde haq
        cases th with
        | true =>
          obtain rfl : q = p + 1 := Hth.out.1 rfl
          have e1 : ((p + 1 : Nat) : Int) = (p : Int) + 1 := by omega
          rw [e1] at hqi
          clear Hth
          go_wp2_with (first | (go_at_call 16; refine (num_b _ _).mono ?_; rintro e _ ⟨rfl, rfl⟩) | (go_at_call 31; refine (looks_b HTx.out hbu.out hlk.out).mono ?_; rintro e _ ⟨rfl, n4, rfl⟩))
          go_ret
          exact ⟨by first | (simp; done) | (simp; omega), F3, G, s3, r, Fin.out _⟩
        | false =>
          obtain rfl : q = p := Hth.out.2 rfl
          clear Hth
          go_wp2_with (first | (go_at_call 16; refine (num_b _ _).mono ?_; rintro e _ ⟨rfl, rfl⟩) | (go_at_call 31; refine (looks_b HTx.out hbu.out hlk.out).mono ?_; rintro e _ ⟨rfl, n4, rfl⟩))
          go_ret
          exact ⟨by first | (simp; done) | (simp; omega), F3, G, s3, r, Fin.out _⟩
      · have hde : decide (lafter l x < l.length) = false := by simpa using haq
        rw [hde]
        generalize l.getD (lafter l x) 0 = z at *
        generalize lafter l x = q at *
        generalize lplace l x = p at *
        have hqi : (l.length : Int) ≤ q := by omega
        clear hcc hde haq
        cases th with
        | true =>
          obtain rfl : q = p + 1 := Hth.out.1 rfl
          have e1 : ((p + 1 : Nat) : Int) = (p : Int) + 1 := by omega
          rw [e1] at hqi
          clear Hth
          go_wp2_with (first | (go_at_call 16; refine (num_b _ _).mono ?_; rintro e _ ⟨rfl, rfl⟩) | (go_at_call 31; refine (looks_b HTx.out hbu.out hlk.out).mono ?_; rintro e _ ⟨rfl, n4, rfl⟩))
          go_ret
          exact ⟨by first | (simp; done) | (simp; omega), F3, G, s3, r, Fin.out _⟩
        | false =>
          obtain rfl : q = p := Hth.out.2 rfl
          clear Hth
          go_wp2_with (first | (go_at_call 16; refine (num_b _ _).mono ?_; rintro e _ ⟨rfl, rfl⟩) | (go_at_call 31; refine (looks_b HTx.out hbu.out hlk.out).mono ?_; rintro e _ ⟨rfl, n4, rfl⟩))
          go_ret
          exact ⟨by first | (simp; done) | (simp; omega), F3, G, s3, r, Fin.out _⟩
    have k7' : (kind == 7) = false := by simpa using k7
    clear k7
    cases hth : lthere l x with
    | true =>
      go_wp2
      go_ret
      exact ⟨by simp, F, G, s, r, by rw [hnx.out]; exact H2.out.mono (Nat.le_succ c)⟩
    | false =>
      obtain ⟨s4, q4, hback⟩ := set_back H2.out.st (hbs.out.mono (by omega)) (by omega) x level hth
      have Q4 := Lib.hid q4
      have HBk := Lib.hid hback
      have hlen := H2.out.st.len
      obtain ⟨g, cap, t0, hcap, _, tl⟩ := H2.out.tx.lies
      have hL := tl 20 8 (by omega)
      obtain ⟨m, hm⟩ : ∃ m, m = (s.W.drop 20).take 8 := ⟨_, rfl⟩
      have hml : m.length = 8 := by rw [hm]; simp; omega
      rw [← hm] at hL
      rw [hlen] at t0 hcap
      have HM := Lib.hid hm
      have hcap1 : (28 : Int) ≤ cap := by omega
      have hcap2 : (2000 : Int) ≤ cap := by omega
      have hcap3 : (20 : Int) ≤ cap := by omega
      have hne : (cap = 20) = False := eq_false (by omega)
      have hLs := Lib.hid hL
      have hms : (0 + m.length) * 8 ≤ 140737488355328 := by omega
      clear hL hm tl hcap q4 hback hpl' hpi hpi0 hlen
      go_wp2_with (at_builtin; refine wpList_words _ rfl (.const (.slice none 0 0)) (.tmp 229) rfl (.slice none 0 0) (.slice (some ⟨g, 20, none⟩) 8 (cap - 20)) [] m rfl (Wl.nil _) rfl hLs.out hms ?_; intro A1 c1 w3 hc1 hw1 hf1; simp only [List.nil_append, List.length_nil, Nat.zero_add] at hw1 hc1 hf1 ⊢; have hb3 := Lib.hid (hf1.below (B := w2.heap.size) (fun k hk => nomatch hk) (Nat.le_refl _)); have ho3 := Lib.hid (hf1.ge (B := w2.heap.size) (fun k hk => nomatch hk) (Nat.le_refl _)); have hv3 := Lib.hid hw1; have H3 := Lib.hid (H2.out.list (H2.out.vl.keep fun k hk => hb3.out.block k (H2.out.vl.lt k hk)) hb3.out (fun k hk => .inl hk)); have HB3 : Hid (Bxd w3 bb _ F G) := Lib.hid ⟨HB2.out.blk.below hb3.out HB2.out.blk.lt, HB2.out.nF, HB2.out.nG⟩; have dx3 := HB3.out.blk.cell 4; have dl3 := HB3.out.blk.cell 1; simp only [List.getElem?_toArray, List.getElem?_cons_zero, List.getElem?_cons_succ] at dx3 dl3; clear hw1 hf1)
      have hap3 : Hid (∀ k, own (.slice A1 m.length c1) k → k < w3.heap.size ∧ ¬ F k) := Lib.hid fun k hk => ⟨hv3.out.lt k hk, fun hf => by have := ho3.out k hk; have := H2.out.tx.lt k hf; omega⟩
      clear H2 HB2 hb3 ho3 dk dl dx t0 hLs
      refine (skinsert_b (n := 300000) H3.out.tx H3.out.fs (hbs.out.mono (by omega)) (by omega) (by omega) hx hx' hl hl' (Fr.refl _ _)).mono ?_
      rintro e w4 ⟨b4, e4, s4', q, rfl, f4, bu4, F4, hw4, hm4⟩
      obtain ⟨rfl, rfl, rfl⟩ : true = b4 ∧ 0 = e4 ∧ s4 = s4' := by have := Q4.out.symm.trans q.out; simpa using this
      obtain ⟨s5, q5, hs5, hd5⟩ := HBk.out (bu4.mono (by omega))
      have Q5 := Lib.hid q5
      have HB4 := Lib.hid (HB3.out.left hm4)
      have dx4 := HB4.out.blk.cell 4
      simp only [List.getElem?_toArray, List.getElem?_cons_zero, List.getElem?_cons_succ] at dx4
      have hv4 := Lib.hid (hv3.out.fr hm4 fun k hk => (hap3.out k hk).2)
      have hap4 := Lib.hid (hm4.apart (G := own (.slice A1 m.length c1)) hap3.out)
      have HM4 := Lib.hid hm4
      have HW4 := Lib.hid hw4
      have HF4 := Lib.hid f4
      have HS5 := Lib.hid hs5
      have HD5 := Lib.hid hd5
      clear q q5 hw4 hm4 f4 hs5 hd5 HB3 dx3 dl3 hv3 hap3 Q4 HBk
      go_wp2_with fail
      refine (skremove_b (n := 100000) HW4.out HF4.out (bu4.mono (by omega)) (by omega) (by omega) hx hx' (Fr.refl _ _)).mono ?_
      rintro e w5 ⟨b5, e5, s5', q, rfl, f5, bu5, F5, hw5, hm5⟩
      obtain ⟨rfl, rfl, rfl⟩ : true = b5 ∧ 0 = e5 ∧ s5 = s5' := by have := Q5.out.symm.trans q.out; simpa using this
      have hlen := H3.out.st.len
      have H5 := Lib.hid (H3.out.left hw5 f5 HS5.out (HM4.out.trans hm5) (Nat.le_succ c))
      have hv5 := Lib.hid (hv4.out.fr hm5 fun k hk => (hap4.out k hk).2)
      obtain ⟨g5, cap5, t5, hcap5, _, tl5⟩ := hw5.lies
      have hlen5 := H5.out.st.len
      have hL5 := tl5 20 8 (by omega)
      rw [hlen5] at t5 hcap5
      have heq : m = (s5.W.drop 20).take 8 := by rw [HM.out]; exact hdr_eq hlen hlen5 HD5.out
      rw [← heq] at hL5
      have HL5 := Lib.hid hL5
      have hd5' : (28 : Int) ≤ cap5 := by omega
      have hd6' : (2000 : Int) ≤ cap5 := by omega
      have hd7' : (20 : Int) ≤ cap5 := by omega
      have hne5 : (cap5 = 20) = False := eq_false (by omega)
      clear q hw5 hm5 f5 H3 HB4 dx4 hv4 hap4 HM4 HW4 HF4 HS5 HD5 Q5 tl5 hL5 heq HM hlen hlen5 hcap5 bu4 bu5 hbs hbr Hlog
      have hvL : Hid (Lies w5 (.slice A1 8 c1) m) := Lib.hid (by have h8 := hv5.out.lies; rw [hml] at h8; exact h8)
      go_wp2_with (first | (go_at_call 16; refine (num_b _ _).mono ?_; rintro e _ ⟨rfl, rfl⟩) | (go_at_call 22; refine (same_b (l := m) hvL.out HL5.out (by omega)).mono ?_; rintro e _ ⟨rfl, n5, rfl⟩))
      go_ret
      exact ⟨by simp, F5, G, s5, r, by rw [hnx.out]; exact H5.out.drewN _⟩
end Go.Proofs.Ytgbgodhkehnbdaa
