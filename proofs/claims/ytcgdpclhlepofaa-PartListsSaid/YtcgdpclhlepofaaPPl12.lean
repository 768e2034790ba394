/- The chapter's examples, on plain words. -/
import Derived.Deep.DeepMust
import Derived.Deep.LoopGhost
import Derived.Deep.DeepCutAuto
import Derived.IntWalk
import Derived.OrdersIn
import Derived.TacticsIn
import Derived.RangeFuncCalls
import Derived.Test.YtcgdpclhlepofaaPPl1
import Derived.Test.YtcgdpclhlepofaaPPl4
import Derived.Test.YtcgdpclhlepofaaPPl9
import Derived.Test.YtcgdpclhlepofaaPPl10
import Derived.Test.YtcgdpclhlepofaaPPl11
namespace Go.Proofs.Ytcgdpclhlepofaa
open Go.RowKit
@[irreducible] def kp1 : St := (fillSt [5, 6, 7]).2.2
@[irreducible] def kp2 : St := (pQueue 18 kp1).2.2.2
@[irreducible] def kp3 : St := (pRead 1 22 3 kp2).2.2
@[irreducible] def kp4 : St := (qWords kp3 18).2.2
@[irreducible] def kp5 : St := (pTurn dbl 1 22 3 kp4).2
@[irreducible] def kp6 : St := (pBack 18 1 22 3 kp5).2
@[irreducible] def kp7 : St := (qWords kp6 18).2.2
theorem kp1_a : (fillSt [5, 6, 7]).1 = 18 := by decide +kernel
theorem kp1_b : (fillSt [5, 6, 7]).2.1 = true := by decide +kernel
theorem kp1_c : kp1 = (fillSt [5, 6, 7]).2.2 := by kernel_rfl
theorem kp1_e : fillSt [5, 6, 7] = (18, true, kp1) := trip kp1_a kp1_b kp1_c.symm
theorem kp2_e : pQueue 18 kp1 = (22, 3, 0, kp2) := quad (by decide +kernel) (by decide +kernel) (by decide +kernel) (by rw [kp2])
theorem kp3_e : pRead 1 22 3 kp2 = ([5, 6, 7], 0, kp3) := trip (by decide +kernel) (by decide +kernel) (by rw [kp3])
theorem kp4_e : qWords kp3 18 = ([], 0, kp4) := trip (by decide +kernel) (by decide +kernel) (by rw [kp4])
theorem kp5_e : pTurn dbl 1 22 3 kp4 = (0, kp5) := twin (by decide +kernel) (by rw [kp5])
theorem kp6_e : pBack 18 1 22 3 kp5 = (0, kp6) := twin (by decide +kernel) (by rw [kp6])
theorem kp7_e : qWords kp6 18 = ([10, 12, 14], 0, kp7) := trip (by decide +kernel) (by decide +kernel) (by rw [kp7])
theorem kp0_e : (fillSt []).1 = 18 ∧ (fillSt []).2.1 = true := ⟨by decide +kernel, by decide +kernel⟩
end Go.Proofs.Ytcgdpclhlepofaa
/- The chapter's examples. -/
namespace Go.Proofs.Ytcgdpclhlepofaa
open Go.RowKit
set_option maxHeartbeats 4000000
set_option linter.unusedVariables false
set_option linter.unusedSimpArgs false

def TrueP (B : Nat) (w : World) (e : Ending) (w' : World) : Prop := e = .returned (.bool true) ∧ Below B w w'
set_option maxRecDepth 100000 in
theorem works_b (w : World) : Calls Try.prog 18 #[] w (TrueP w.heap.size w) := by
  have hl := Lies.new w [5, 6, 7] (by simp)
  have HB0 := Lib.hid ((Below.refl w.heap.size w).alloc (Nat.le_refl _) (.cells #[.int .u64 5, .int .u64 6, .int .u64 7] 23))
  go_enter Try.func18, Try.ntmps18
  go_wp2_with fail
  refine (filled_b hl (by simp) (by simp)).mono ?_
  rintro _ w1 ⟨t, q, ok, s1, F1, q1, dq, dq', rfl, f1, b1, hw1, ho1, hb1⟩
  obtain ⟨rfl, rfl, rfl⟩ : 18 = q ∧ true = ok ∧ kp1 = s1 := by have := kp1_e.symm.trans q1.out; simpa using this
  have HB1 := Lib.hid (HB0.out.trans (hb1.mono (by simp)))
  have HO1 : Hid (∀ k, F1 k → w.heap.size ≤ k) := Lib.hid fun k hk => by have := ho1 k hk; simp at this; omega
  clear hl HB0 ho1 hb1 q1
  go_wp2_with fail
  refine (pqueue_b (n := 3000000000) hw1 f1 (b1.mono (by omega)) (by omega) (by omega) (Fr.refl F1 _)).mono ?_
  rintro _ w2 ⟨f, c, er, s2, q2, _, _, _, _, rfl, f2, b2, F2, hw2, hm2⟩
  obtain ⟨rfl, rfl, rfl, rfl⟩ : 22 = f ∧ 3 = c ∧ 0 = er ∧ kp2 = s2 := by have := kp2_e.symm.trans q2.out; simpa using this
  have HB2 := Lib.hid (HB1.out.trans (hm2.below HO1.out HB1.out.size))
  have HO2 : Hid (∀ k, F2 k → w.heap.size ≤ k) := Lib.hid (hm2.ge HO1.out HB1.out.size)
  have hv : partv 1 22 3 0 = .agg #[.int .i64 1, .int .u64 22, .int .u64 3] := if_pos rfl
  rw [hv]
  -- the part's own box
  have hw2' := hw2.alloc (.cells #[.int .i64 1, .int .u64 22, .int .u64 3] 25)
  have HP2 := Lib.hid (Blk.new w2 25 #[.int .i64 1, .int .u64 22, .int .u64 3])
  have HPF2 : Hid (¬ F2 w2.heap.size) := Lib.hid fun h => by have := hw2.lt _ h; omega
  have HB2' := Lib.hid (HB2.out.alloc HB2.out.size (.cells #[.int .i64 1, .int .u64 22, .int .u64 3] 25))
  clear hw1 hm2 hw2 HB1 HO1 q2 hv f1 b1
  go_wp2_with fail
  generalize w2.alloc (.cells #[.int .i64 1, .int .u64 22, .int .u64 3] 25) = w3 at *
  generalize w2.heap.size = pb at *
  refine (preadv_b (n := 2000000000) hw2' f2 (b2.mono (by omega)) (by omega) (by omega) (by omega) (by omega) (Fr.refl F2 _)).mono ?_
  rintro _ w4 ⟨va, la, er, s4, q4, rfl, f4, b4, hva, hvao, F4, hw4, hm4, hvF⟩
  obtain ⟨rfl, rfl, rfl⟩ : [5, 6, 7] = la ∧ 0 = er ∧ kp3 = s4 := by have := kp3_e.symm.trans q4.out; simpa using this
  have HB4 := Lib.hid (HB2'.out.trans (hm4.below HO2.out HB2'.out.size))
  have HO4 : Hid (∀ k, F4 k → w.heap.size ≤ k) := Lib.hid (hm4.ge HO2.out HB2'.out.size)
  have HP4 := Lib.hid (hm4.blk HP2.out HPF2.out)
  have HPF4 : Hid (¬ F4 pb) := Lib.hid (hm4.not_in HP2.out.lt HPF2.out)
  have HVA4 := Lib.hid hva
  have HVF4 := Lib.hid hvF
  obtain ⟨Aa, ca, rfl, hca⟩ := hva.shape
  clear hm4 hva hvao hvF q4 hw2' HB2 HB2' HO2 HP2 HPF2 f2 b2
  go_wp2_with fail
  refine (quwords_b (n := 1500000000) hw4 f4 (b4.mono (by omega)) (by omega) (by omega) (Fr.refl F4 _)).mono ?_
  rintro _ w5 ⟨vb, lb, er, s5, q5, rfl, f5, b5, hvb, hvbo, F5, hw5, hm5, hvbF⟩
  obtain ⟨rfl, rfl, rfl⟩ : [] = lb ∧ 0 = er ∧ kp4 = s5 := by have := kp4_e.symm.trans q5.out; simpa using this
  have HB5 := Lib.hid (HB4.out.trans (hm5.below HO4.out HB4.out.size))
  have HO5 : Hid (∀ k, F5 k → w.heap.size ≤ k) := Lib.hid (hm5.ge HO4.out HB4.out.size)
  have HP5 := Lib.hid (hm5.blk HP4.out HPF4.out)
  have HPF5 : Hid (¬ F5 pb) := Lib.hid (hm5.not_in HP4.out.lt HPF4.out)
  have HVF5 : Hid (∀ k, own (.slice Aa [5, 6, 7].length ca) k → k < w5.heap.size ∧ ¬ F5 k) := Lib.hid (hm5.apart fun k hk => ⟨HVA4.out.lt k hk, HVF4.out k hk⟩)
  have HVA5 := Lib.hid (HVA4.out.fr hm5 HVF4.out)
  obtain ⟨Ab, cb, rfl, hcb⟩ := hvb.shape
  clear hm5 hvb hvbo hvbF q5 hw4 HB4 HO4 HP4 HPF4 HVA4 HVF4 f4 b4
  obtain ⟨p0, p1, p2⟩ : w5.cell? ⟨pb, 0, none⟩ = some (.int .i64 1) ∧ w5.cell? ⟨pb, 1, none⟩ = some (.int .u64 22) ∧ w5.cell? ⟨pb, 2, none⟩ = some (.int .u64 3) := ⟨HP5.out.cell 0, HP5.out.cell 1, HP5.out.cell 2⟩
  go_wp2_with fail
  refine (pturnv_b (n := 1000000000) hw5 f5 (b5.mono (by omega)) (by omega) (by omega) (by omega) (by omega) (Fr.refl F5 _)).mono ?_
  rintro _ w6 ⟨er, s6, q6, rfl, f6, b6, F6, hw6, hm6⟩
  obtain ⟨rfl, rfl⟩ : 0 = er ∧ kp5 = s6 := by have := kp5_e.symm.trans q6.out; simpa using this
  have HB6 := Lib.hid (HB5.out.trans (hm6.below HO5.out HB5.out.size))
  have HO6 : Hid (∀ k, F6 k → w.heap.size ≤ k) := Lib.hid (hm6.ge HO5.out HB5.out.size)
  have HP6 := Lib.hid (hm6.blk HP5.out HPF5.out)
  have HPF6 : Hid (¬ F6 pb) := Lib.hid (hm6.not_in HP5.out.lt HPF5.out)
  have HVF6 : Hid (∀ k, own (.slice Aa [5, 6, 7].length ca) k → k < w6.heap.size ∧ ¬ F6 k) := Lib.hid (hm6.apart HVF5.out)
  have HVA6 := Lib.hid (HVA5.out.fr hm6 fun k hk => (HVF5.out k hk).2)
  clear hm6 q6 hw5 HB5 HO5 HP5 HPF5 HVA5 HVF5 f5 b5 p0 p1 p2
  obtain ⟨p0, p1, p2⟩ : w6.cell? ⟨pb, 0, none⟩ = some (.int .i64 1) ∧ w6.cell? ⟨pb, 1, none⟩ = some (.int .u64 22) ∧ w6.cell? ⟨pb, 2, none⟩ = some (.int .u64 3) := ⟨HP6.out.cell 0, HP6.out.cell 1, HP6.out.cell 2⟩
  go_wp2_with fail
  refine (pback_b (n := 500000000) hw6 f6 (b6.mono (by omega)) (by omega) (by omega) (by omega) (by omega) (by omega) (by omega) (Fr.refl F6 _)).mono ?_
  rintro _ w7 ⟨er, s7, q7, rfl, f7, b7, F7, hw7, hm7⟩
  obtain ⟨rfl, rfl⟩ : 0 = er ∧ kp6 = s7 := by have := kp6_e.symm.trans q7.out; simpa using this
  have HB7 := Lib.hid (HB6.out.trans (hm7.below HO6.out HB6.out.size))
  have HO7 : Hid (∀ k, F7 k → w.heap.size ≤ k) := Lib.hid (hm7.ge HO6.out HB6.out.size)
  have HP7 := Lib.hid (hm7.blk HP6.out HPF6.out)
  have HPF7 : Hid (¬ F7 pb) := Lib.hid (hm7.not_in HP6.out.lt HPF6.out)
  have HVF7 : Hid (∀ k, own (.slice Aa [5, 6, 7].length ca) k → k < w7.heap.size ∧ ¬ F7 k) := Lib.hid (hm7.apart HVF6.out)
  have HVA7 := Lib.hid (HVA6.out.fr hm7 fun k hk => (HVF6.out k hk).2)
  clear hm7 q7 hw6 HB6 HO6 HP6 HPF6 HVA6 HVF6 f6 b6 p0 p1 p2
  go_wp2_with fail
  refine (quwords_b (n := 100000000) hw7 f7 (b7.mono (by omega)) (by omega) (by omega) (Fr.refl F7 _)).mono ?_
  rintro _ w8 ⟨vc, lc, er, s8, q8, rfl, f8, b8, hvc, hvco, F8, hw8, hm8, hvcF⟩
  obtain ⟨rfl, rfl, rfl⟩ : [10, 12, 14] = lc ∧ 0 = er ∧ kp7 = s8 := by have := kp7_e.symm.trans q8.out; simpa using this
  have HB8 := Lib.hid (HB7.out.trans (hm8.below HO7.out HB7.out.size))
  have HP8 := Lib.hid (hm8.blk HP7.out HPF7.out)
  have HA8 := Lib.hid (HVA7.out.fr hm8 fun k hk => (HVF7.out k hk).2).lies
  have HC8 := Lib.hid hvc.lies
  obtain ⟨Ac, cc, rfl, hcc⟩ := hvc.shape
  clear hm8 q8 hw7 HB7 HO7 HP7 HPF7 HVA7 HVF7 f7 b7 hvc hvco hvcF hw8 f8 b8
  obtain ⟨p0, p1, p2⟩ : w8.cell? ⟨pb, 0, none⟩ = some (.int .i64 1) ∧ w8.cell? ⟨pb, 1, none⟩ = some (.int .u64 22) ∧ w8.cell? ⟨pb, 2, none⟩ = some (.int .u64 3) := ⟨HP8.out.cell 0, HP8.out.cell 1, HP8.out.cell 2⟩
  have HL1 := Lib.hid (Lies.new w8 [5, 6, 7] (by simp))
  have HA8' := Lib.hid (HA8.out.alloc (.cells #[.int .u64 5, .int .u64 6, .int .u64 7] 23))
  go_wp2_with (go_at_call 17; refine (num_b _ _).mono ?_; rintro e _ ⟨rfl, rfl⟩)
  refine (words_b (l1 := [5, 6, 7]) (l2 := [5, 6, 7]) HA8'.out HL1.out (by simp)).mono ?_
  rintro _ _ ⟨⟨n9, rfl⟩, rfl⟩
  have HC9 := Lib.hid ((HC8.out.alloc (.cells #[.int .u64 5, .int .u64 6, .int .u64 7] 23)).drewN n9)
  have HB9 := Lib.hid (below_drewNs (HB8.out.alloc HB8.out.size (.cells #[.int .u64 5, .int .u64 6, .int .u64 7] 23)) n9)
  clear HL1 HA8' HA8 HC8 HB8 HP8 p0 p1 p2
  generalize (w8.alloc (.cells #[.int .u64 5, .int .u64 6, .int .u64 7] 23)).drewN n9 = w9 at *
  have HL2 := Lib.hid (Lies.new w9 [10, 12, 14] (by simp))
  have HC9' := Lib.hid (HC9.out.alloc (.cells #[.int .u64 10, .int .u64 12, .int .u64 14] 23))
  go_wp2_with (go_at_call 17; refine (num_b _ _).mono ?_; rintro e _ ⟨rfl, rfl⟩)
  refine (words_b (l1 := [10, 12, 14]) (l2 := [10, 12, 14]) HC9'.out HL2.out (by simp)).mono ?_
  rintro _ _ ⟨⟨n10, rfl⟩, rfl⟩
  have HB10 := Lib.hid (below_drewNs (HB9.out.alloc HB9.out.size (.cells #[.int .u64 10, .int .u64 12, .int .u64 14] 23)) n10)
  go_wp2
  go_ret
  exact ⟨rfl, HB10.out⟩
end Go.Proofs.Ytcgdpclhlepofaa
/- A region that draws its order, two of whose writing operations may change places: a walk of what comes ahead, and two walks from there on. -/
namespace Go.Proofs.Ytcgdpclhlepofaa
section
variable {P : Program} {ops : Array Oper} {S : World → Prop} {Q : Exit → Act → World → Prop} {mk : Nat → Nat} {E : Act → World → Prop}

/-- The walk of a prefix; E: what must hold behind it. -/
def wpMixE (P : Program) (ops : Array Oper) (S : World → Prop) (Q : Exit → Act → World → Prop) (mk : Nat → Nat) (E : Act → World → Prop) : List Nat → Act → World → Prop
  | [], a, w => E a w
  | i :: rest, a, w => mixAt P .any ops S Q mk i (wpMixE P ops S Q mk E rest) a w
/-- The order of a prefix. -/
def mixOrdP (md : Region.Mode) (ops : Array Oper) (mk : Nat → Nat) : List Nat → Array Bool → Bool
  | [], _ => true
  | i :: rest, listed => (if mk i = 2 then decide (Region.ready md ops listed = [i]) else (Region.ready md ops listed).contains i && Region.free md ops listed i && (mk i == 0 || mk i == 3 || loudsWait md ops mk i listed)) && mixOrdP md ops mk rest (listed.setIfInBounds i true)
def listedBy : List Nat → Array Bool → Array Bool
  | [], l => l
  | i :: rest, l => listedBy rest (l.setIfInBounds i true)

theorem mixAny_of_mixE (hsel : Region.noSelect ops = true) (f : Nat) : ∀ (ord : List Nat) (listed : Array Bool) (a : Act) (w : World), Closed .any ops listed → mixOrdP .any ops mk ord listed = true →
    (∀ a w, Closed .any ops (listedBy ord listed) → E a w → mixAny P .any ops S Q mk f (listedBy ord listed) a w) → wpMixE P ops S Q mk E ord a w → mixAny P .any ops S Q mk (ord.length + f) listed a w
  | [], listed, a, w, hcl, _, hE, h => by
    have := hE a w hcl h
    rw [List.length_nil, Nat.zero_add]
    exact this
  | i :: rest, listed, a, w, hcl, hB, hE, h => by
    rw [mixOrdP, Bool.and_eq_true] at hB
    obtain ⟨hB1, hB2⟩ := hB
    unfold wpMixE at h
    have e : (i :: rest).length + f = (rest.length + f) + 1 := by simp; omega
    rw [e]
    by_cases hm : mk i = 2
    · rw [if_pos hm] at hB1
      have hr : Region.ready .any ops listed = [i] := of_decide_eq_true hB1
      refine ⟨fun h0 => (by rw [h0] at hr; cases hr), fun j hj => ?_⟩
      rw [hr] at hj
      obtain rfl : j = i := by simpa using hj
      have hcl' := hcl.set (i := j) (by rw [hr]; simp)
      exact mixAt_mono (fun a' w' _ h' => mixAny_of_mixE hsel f rest _ a' w' hcl' hB2 hE h') (fun a' h' => mixAny_of_mixE hsel f rest _ a' w hcl' hB2 hE h') h
    · rw [if_neg hm] at hB1
      simp only [Bool.and_eq_true, Bool.or_eq_true, beq_iff_eq] at hB1
      obtain ⟨⟨hr, hf⟩, hl⟩ := hB1
      have hr' : i ∈ Region.ready .any ops listed := by simpa using hr
      obtain ⟨_, oi, hoi, _⟩ := mem_ready.1 hr'
      unfold mixAt at h
      simp only [hoi] at h
      obtain ⟨v, hy, hK⟩ := mixYields_of hm h
      exact mixAny_first hoi rfl hm (Region.noSelect_spec hsel) (rest.length + f) listed a w hcl (fun h0 h3 j hj hj2 hun => loudsWait_spec (hl.resolve_left (fun h => h.elim h0 h3)) j hj hj2 hun) (Region.free_spec hoi hf) hr' hy
        (mixAny_of_mixE hsel f rest _ _ w (hcl.set hr') hB2 hE hK)

def mixB2 (ops : Array Oper) (ms pre : List Nat) (i j : Nat) (t1 t2 : List Nat) : Bool :=
  Region.noSelect ops && decide (pre.length + (t1.length + 1) = ops.size) && decide (t1.length = t2.length) && mixOrdP .any ops (fun i => ms.getD i 2) pre (Array.replicate ops.size false) &&
  decide (Region.ready .any ops (listedBy pre (Array.replicate ops.size false)) = [i, j]) &&
  mixOrd .any ops (fun i => ms.getD i 2) t1 ((listedBy pre (Array.replicate ops.size false)).setIfInBounds i true) && mixOrd .any ops (fun i => ms.getD i 2) t2 ((listedBy pre (Array.replicate ops.size false)).setIfInBounds j true)

theorem wp_region_mix2 {id : Nat} {a : Act} {w : World} {l : List Oper} (S : World → Prop) (ms pre : List Nat) (i j : Nat) (t1 t2 : List Nat) (hm : P.follows .mixedOrders = true) (hB : mixB2 l.toArray ms pre i j t1 t2 = true) (hS : ∀ w n, S w → S (w.drewN n)) (hs : S w.drew)
    (h : wpMixE P l.toArray S Q (fun i => ms.getD i 2) (fun a w => wpMix P l.toArray S Q (fun i => ms.getD i 2) (i :: t1) a w ∧ wpMix P l.toArray S Q (fun i => ms.getD i 2) (j :: t2) a w) pre a w.drew) : (Code.region id l.toArray true).wp P Q a w := by
  simp only [mixB2, Bool.and_eq_true, decide_eq_true_eq] at hB
  obtain ⟨⟨⟨⟨⟨⟨hsel, hlen⟩, hl12⟩, hord⟩, hrd⟩, ho1⟩, ho2⟩ := hB
  refine wp_region_any hm ?_
  have hcl : Closed .any l.toArray (Array.replicate l.toArray.size false) := fun j oj _ hl => by
    rcases Nat.lt_or_ge j l.toArray.size with h | h
    · simp at h hl; simp [h] at hl
    · simp at h hl; simp [h] at hl
  have key := mixAny_sound hS _ _ _ _ hcl (fun _ => hs) (mixAny_of_mixE hsel (t1.length + 1) pre _ a w.drew hcl hord (fun a w hcl' ⟨h1, h2⟩ => by
    refine ⟨fun h0 => (by rw [h0] at hrd; cases hrd), fun k hk => ?_⟩
    rw [hrd] at hk
    have hc1 := hcl'.set (i := i) (by rw [hrd]; simp)
    have hc2 := hcl'.set (i := j) (by rw [hrd]; simp)
    rcases List.mem_cons.1 hk with rfl | hk
    · unfold wpMix at h1
      exact mixAt_mono (fun a' w' _ h' => mixAny_of_mix hsel t1 _ a' w' hc1 ho1 h') (fun a' h' => mixAny_of_mix hsel t1 _ a' w hc1 ho1 h') h1
    · obtain rfl : k = j := by simpa using hk
      unfold wpMix at h2
      rw [hl12]
      exact mixAt_mono (fun a' w' _ h' => mixAny_of_mix hsel t2 _ a' w' hc2 ho2 h') (fun a' h' => mixAny_of_mix hsel t2 _ a' w hc2 ho2 h') h2) h) 0
  rw [hlen] at key
  exact key

theorem wpMixE_nil {a : Act} {w : World} (h : E a w) : wpMixE P ops S Q mk E [] a w := h
theorem wpMixE_any {i : Nat} {rest : List Nat} {a : Act} {w : World} {o : Oper} (ho : ops[i]? = some o) (hm : mk i = 0)
    (h : ∀ K : Act → World → Prop, (∀ a w, wpMixE P ops S Q mk E rest a w → K a w) → if Region.wanted o (yielded ops a.tmps) then ∃ v, (∀ w', S w' → o.quietAt P a (fun w'' => w'' = w') w' v) ∧ K (a.put o.dst v) w else K (a.put o.dst undef) w) : wpMixE P ops S Q mk E (i :: rest) a w := by
  unfold wpMixE mixAt mixOp mixQ
  simp only [ho, hm]
  exact h _ fun _ _ h => h
theorem wpMixE_pure {i : Nat} {rest : List Nat} {a : Act} {w : World} {o : Oper} (ho : ops[i]? = some o) (hm : mk i = 3)
    (h : ∀ K : Act → World → Prop, (∀ a w, wpMixE P ops S Q mk E rest a w → K a w) → if Region.wanted o (yielded ops a.tmps) then ∃ v, (∀ w', o.quietAt P a (fun w'' => w'' = w') w' v) ∧ K (a.put o.dst v) w else K (a.put o.dst undef) w) : wpMixE P ops S Q mk E (i :: rest) a w := by
  unfold wpMixE mixAt mixOp mixQ
  simp only [ho, hm]
  exact h _ fun _ _ h => h
end
end Go.Proofs.Ytcgdpclhlepofaa
/- A region that draws its order, one of whose writing operations may come ahead of, between, or behind two others that stand in one order: a walk of what comes ahead, and three walks from there on. -/
namespace Go.Proofs.Ytcgdpclhlepofaa
section
variable {P : Program} {ops : Array Oper} {S : World → Prop} {Q : Exit → Act → World → Prop} {mk : Nat → Nat} {E : Act → World → Prop}
theorem wpMixE_loud {i : Nat} {rest : List Nat} {a : Act} {w : World} {o : Oper} (ho : ops[i]? = some o) (hm : mk i = 2)
    (h : ∀ n (K : Act → World → Prop), (∀ a w, (needB ops mk i = true → S w) → wpMixE P ops S Q mk E rest a w → K a w) → wpList P ops (Exit.then K (noPan Q)) [o] a (w.drewN n)) : wpMixE P ops S Q mk E (i :: rest) a w := by
  unfold wpMixE mixAt mixOp
  simp only [ho, hm, if_true]
  split
  · rename_i hw
    intro n
    have h1 := h n (fun a w => (needs .any ops mk i → S w) ∧ wpMixE P ops S Q mk E rest a w) (fun _ _ h1 h2 => ⟨fun hn => h1 (needB_of hn), h2⟩)
    unfold wpList at h1
    rw [if_pos hw] at h1
    rcases h1 with h1 | ⟨h1, a', w', h2⟩
    · refine .inl ?_
      have h1' := Oper.wp_mono (K' := fun a' w' => (needs .any ops mk i → S w') ∧ wpMixE P ops S Q mk E rest a' w') (fun a w h => h) h1
      unfold Oper.wp at *
      generalize (execOp a.eval o).run P (w.drewN n) = r at *
      cases r with
      | ok x w' =>
        cases x <;> simp only [Oper.upon] at h1' ⊢ <;> exact h1'
      | halt x w' =>
        cases x <;> simp only [Oper.upon] at h1' ⊢ <;> exact h1'
    · exact .inr ⟨h1, a', w', h2⟩
  · rename_i hw
    have h1 := h 0 (fun a w' => wpMixE P ops S Q mk E rest a w') (fun _ _ _ h2 => h2)
    unfold wpList at h1
    rw [if_neg hw] at h1
    exact h1
/-- pre: what comes ahead; behind it i and j are ready; i, i2 stand in this order; j comes ahead of i (j :: t2), between them (i :: j :: u2) or behind them (i :: i2 :: u1). -/
def mixB3 (ops : Array Oper) (ms pre : List Nat) (i j i2 : Nat) (t2 u1 u2 : List Nat) : Bool :=
  Region.noSelect ops && decide (pre.length + (u1.length + 2) = ops.size) && decide (u1.length = u2.length) && decide (t2.length = u1.length + 1) && mixOrdP .any ops (fun i => ms.getD i 2) pre (Array.replicate ops.size false) &&
  decide (Region.ready .any ops (listedBy pre (Array.replicate ops.size false)) = [i, j]) &&
  decide (Region.ready .any ops ((listedBy pre (Array.replicate ops.size false)).setIfInBounds i true) = [i2, j]) &&
  mixOrd .any ops (fun i => ms.getD i 2) t2 ((listedBy pre (Array.replicate ops.size false)).setIfInBounds j true) &&
  mixOrd .any ops (fun i => ms.getD i 2) u1 (((listedBy pre (Array.replicate ops.size false)).setIfInBounds i true).setIfInBounds i2 true) &&
  mixOrd .any ops (fun i => ms.getD i 2) u2 (((listedBy pre (Array.replicate ops.size false)).setIfInBounds i true).setIfInBounds j true)

theorem wp_region_mix3 {id : Nat} {a : Act} {w : World} {l : List Oper} (S : World → Prop) (ms pre : List Nat) (i j i2 : Nat) (t2 u1 u2 : List Nat) (hm : P.follows .mixedOrders = true) (hB : mixB3 l.toArray ms pre i j i2 t2 u1 u2 = true) (hS : ∀ w n, S w → S (w.drewN n)) (hs : S w.drew)
    (h : wpMixE P l.toArray S Q (fun i => ms.getD i 2) (fun a w => wpMixE P l.toArray S Q (fun i => ms.getD i 2) (fun a w => wpMix P l.toArray S Q (fun i => ms.getD i 2) (i2 :: u1) a w ∧ wpMix P l.toArray S Q (fun i => ms.getD i 2) (j :: u2) a w) [i] a w ∧ wpMix P l.toArray S Q (fun i => ms.getD i 2) (j :: t2) a w) pre a w.drew) : (Code.region id l.toArray true).wp P Q a w := by
  simp only [mixB3, Bool.and_eq_true, decide_eq_true_eq] at hB
  obtain ⟨⟨⟨⟨⟨⟨⟨⟨⟨hsel, hlen⟩, hl12⟩, hlt⟩, hord⟩, hrd⟩, hrd2⟩, ho2⟩, hu1⟩, hu2⟩ := hB
  refine wp_region_any hm ?_
  have hcl : Closed .any l.toArray (Array.replicate l.toArray.size false) := fun j oj _ hl => by
    rcases Nat.lt_or_ge j l.toArray.size with h | h
    · simp at h hl; simp [h] at hl
    · simp at h hl; simp [h] at hl
  have key := mixAny_sound hS _ _ _ _ hcl (fun _ => hs) (mixAny_of_mixE hsel (u1.length + 1 + 1) pre _ a w.drew hcl hord (fun a w hcl' ⟨h1, h2⟩ => by
    refine ⟨fun h0 => (by rw [h0] at hrd; cases hrd), fun k hk => ?_⟩
    rw [hrd] at hk
    have hc1 := hcl'.set (i := i) (by rw [hrd]; simp)
    have hc2 := hcl'.set (i := j) (by rw [hrd]; simp)
    rcases List.mem_cons.1 hk with rfl | hk
    · unfold wpMixE at h1
      have step : ∀ a' w', wpMixE P l.toArray S Q (fun i => ms.getD i 2) (fun a w => wpMix P l.toArray S Q (fun i => ms.getD i 2) (i2 :: u1) a w ∧ wpMix P l.toArray S Q (fun i => ms.getD i 2) (j :: u2) a w) [] a' w' → mixAny P .any l.toArray S Q (fun i => ms.getD i 2) (u1.length + 1) ((listedBy pre (Array.replicate l.toArray.size false)).setIfInBounds k true) a' w' := fun a' w' hh => by
        obtain ⟨g1, g2⟩ : wpMix P l.toArray S Q (fun i => ms.getD i 2) (i2 :: u1) a' w' ∧ wpMix P l.toArray S Q (fun i => ms.getD i 2) (j :: u2) a' w' := hh
        refine ⟨fun h0 => (by rw [h0] at hrd2; cases hrd2), fun k2 hk2 => ?_⟩
        rw [hrd2] at hk2
        have hd1 := hc1.set (i := i2) (by rw [hrd2]; simp)
        have hd2 := hc1.set (i := j) (by rw [hrd2]; simp)
        rcases List.mem_cons.1 hk2 with rfl | hk2
        · unfold wpMix at g1
          exact mixAt_mono (fun a' w' _ h' => mixAny_of_mix hsel u1 _ a' w' hd1 hu1 h') (fun a' h' => mixAny_of_mix hsel u1 _ a' w' hd1 hu1 h') g1
        · obtain rfl : k2 = j := by simpa using hk2
          unfold wpMix at g2
          rw [hl12]
          exact mixAt_mono (fun a' w' _ h' => mixAny_of_mix hsel u2 _ a' w' hd2 hu2 h') (fun a' h' => mixAny_of_mix hsel u2 _ a' w' hd2 hu2 h') g2
      exact mixAt_mono (fun a' w' _ h' => step a' w' h') (fun a' h' => step a' w h') h1
    · obtain rfl : k = j := by simpa using hk
      unfold wpMix at h2
      rw [← hlt]
      exact mixAt_mono (fun a' w' _ h' => mixAny_of_mix hsel t2 _ a' w' hc2 ho2 h') (fun a' h' => mixAny_of_mix hsel t2 _ a' w hc2 ho2 h') h2) h) 0
  rw [show pre.length + (u1.length + 1 + 1) = l.toArray.size by rw [← hlen]] at key
  exact key
end
end Go.Proofs.Ytcgdpclhlepofaa
/- PartLists: what stands in memory: the tx, the lists that the calls have told, the parts in their boxes. -/
namespace Go.Proofs.Ytcgdpclhlepofaa
open Go.RowKit
set_option linter.unusedVariables false
set_option maxHeartbeats 1000000
set_option linter.unusedSimpArgs false
structure PL (W w : World) (t : Nat) (F : Nat → Prop) (s : St) (L : List (Value × List Int)) (P : List (Nat × Int × Int)) : Prop where
  tx : Txw w t F s
  fits : Fits s
  bel : Below W.heap.size W w
  ge : ∀ k, F k → W.heap.size ≤ k
  ls : ∀ p ∈ L, Wl w p.1 p.2 ∧ ∀ k, own p.1 k → ¬ F k ∧ W.heap.size ≤ k
  dis : L.Pairwise fun p q => ∀ k, own p.1 k → ¬ own q.1 k
  ps : ∀ x ∈ P, Blk w x.1 25 #[.int .i64 2, .int .u64 x.2.1, .int .u64 x.2.2] ∧ ¬ F x.1 ∧ W.heap.size ≤ x.1 ∧ ∀ p ∈ L, ¬ own p.1 x.1
section
variable {W w w' : World} {t n : Nat} {F : Nat → Prop} {s s' : St} {L : List (Value × List Int)} {P : List (Nat × Int × Int)}
theorem PL.fr (h : PL W w t F s L P) {F' : Nat → Prop} (hT : Txw w' t F' s') (hf : Fits s') (hm : Fr F w F' w') : PL W w' t F' s' L P where
  tx := hT
  fits := hf
  bel := h.bel.trans (hm.below h.ge h.bel.size)
  ge := hm.ge h.ge h.bel.size
  ls := fun p hp => ⟨(h.ls p hp).1.fr hm fun k hk => ((h.ls p hp).2 k hk).1, fun k hk => ⟨fun hF => (hm.new _ hF).elim ((h.ls p hp).2 k hk).1 fun h1 => by have := (h.ls p hp).1.lt k hk; omega, ((h.ls p hp).2 k hk).2⟩⟩
  dis := h.dis
  ps := fun x hx => ⟨hm.blk (h.ps x hx).1 (h.ps x hx).2.1, fun hF => (hm.new _ hF).elim (h.ps x hx).2.1 fun h1 => by have := (h.ps x hx).1.lt; omega, (h.ps x hx).2.2⟩
theorem PL.step (h : PL W w t F s L P) (hL : Lft t n F w s' w') : ∃ F', PL W w' t F' s' L P ∧ Bud s' n := by
  obtain ⟨f, b, F', hT, hm⟩ := hL
  exact ⟨F', h.fr hT f hm, b⟩
theorem PL.list (h : PL W w t F s L P) {B : Nat} {v : Value} {l : List Int} (hV : LftV t n B F w s' v l w') (hn : ∀ k, own v k → F k ∨ w.heap.size ≤ k) : ∃ F', PL W w' t F' s' (L ++ [(v, l)]) P ∧ Bud s' n := by
  obtain ⟨f, b, hv, -, F', hT, hm, ho⟩ := hV
  have h2 := h.fr hT f hm
  refine ⟨F', ⟨h2.tx, h2.fits, h2.bel, h2.ge, fun p hp => ?_, ?_, fun x hx => ⟨(h2.ps x hx).1, (h2.ps x hx).2.1, (h2.ps x hx).2.2.1, fun p hp => ?_⟩⟩, b⟩
  · rcases List.mem_append.1 hp with hp | hp
    · exact h2.ls p hp
    · obtain rfl : p = (v, l) := by simpa using hp
      refine ⟨hv, fun k hk => ⟨ho k hk, ?_⟩⟩
      rcases hn k hk with h1 | h1
      · exact h.ge k h1
      · exact Nat.le_trans h.bel.size h1
  · rw [List.pairwise_append]
    refine ⟨h.dis, by simp, fun p hp q hq k hk hk2 => ?_⟩
    obtain rfl : q = (v, l) := by simpa using hq
    rcases hn k hk2 with h1 | h1
    · exact ((h.ls p hp).2 k hk).1 h1
    · have := (h.ls p hp).1.lt k hk; omega
  · rcases List.mem_append.1 hp with hp | hp
    · exact (h2.ps x hx).2.2.2 p hp
    · obtain rfl : p = (v, l) := by simpa using hp
      intro hk
      rcases hn _ hk with h1 | h1
      · exact (h.ps x hx).2.1 h1
      · have := (h.ps x hx).1.lt; omega
theorem PL.alloc (h : PL W w t F s L P) (o : Obj) : PL W (w.alloc o) t F s L P where
  tx := h.tx.alloc o
  fits := h.fits
  bel := h.bel.alloc h.bel.size o
  ge := h.ge
  ls := fun p hp => ⟨(h.ls p hp).1.alloc o, (h.ls p hp).2⟩
  dis := h.dis
  ps := fun x hx => ⟨(h.ps x hx).1.alloc o, (h.ps x hx).2⟩
theorem PL.part (h : PL W w t F s L P) (f c : Int) : PL W (w.alloc (.cells #[.int .i64 2, .int .u64 f, .int .u64 c] 25)) t F s L (P ++ [(w.heap.size, f, c)]) := by
  have h2 := h.alloc (.cells #[.int .i64 2, .int .u64 f, .int .u64 c] 25)
  refine ⟨h2.tx, h2.fits, h2.bel, h2.ge, h2.ls, h2.dis, fun x hx => ?_⟩
  rcases List.mem_append.1 hx with hx | hx
  · exact h2.ps x hx
  · obtain rfl : x = (w.heap.size, f, c) := by simpa using hx
    exact ⟨Blk.new _ _ _, fun hF => by have := h.tx.lt _ hF; simp only at this; omega, h.bel.size, fun p hp hk => by have := (h.ls p hp).1.lt _ hk; simp only at this; omega⟩
theorem PL.bel' (h : PL W w t F s L P) : Below W.heap.size W w := h.bel
theorem PL.cell (h : PL W w t F s L P) {x : Nat × Int × Int} (hx : x ∈ P) : w.cell? ⟨x.1, 0, none⟩ = some (.int .i64 2) ∧ w.cell? ⟨x.1, 1, none⟩ = some (.int .u64 x.2.1) ∧ w.cell? ⟨x.1, 2, none⟩ = some (.int .u64 x.2.2) :=
  ⟨(h.ps x hx).1.cell 0, (h.ps x hx).1.cell 1, (h.ps x hx).1.cell 2⟩
/-- the calls are counted from 0 on -/
theorem PL.ncalls (h : PL W w t F s L P) (n : Int) : ∃ b, w.cell? ⟨t, 0, none⟩ = some (.pointer (some ⟨b, 0, none⟩)) ∧ w.cell? ⟨b, 3, none⟩ = some (.int .i64 s.calls) ∧ w.frozen? ⟨b, 3, none⟩ = false ∧ PL W (w.setCell ⟨b, 3, none⟩ (.int .i64 n)) t F { s with calls := n } L P := by
  obtain ⟨b, k0, k3, z3, hFb, hT5⟩ := h.tx.ncalls n
  exact ⟨b, k0, k3, z3, h.fr hT5 ⟨h.fits.words, h.fits.len, h.fits.code⟩ ((Fr.refl F w).set (p := ⟨b, 3, none⟩) (.inl hFb) _)⟩
theorem PL.drop (h : PL W w t F s L P) : PL W w t F s [] P :=
  ⟨h.tx, h.fits, h.bel, h.ge, (fun p hp => nomatch hp), .nil, fun x hx => ⟨(h.ps x hx).1, (h.ps x hx).2.1, (h.ps x hx).2.2.1, (fun p hp => nomatch hp)⟩⟩
end
theorem PL.drewN {W w : World} {t : Nat} {F : Nat → Prop} {s : St} {L : List (Value × List Int)} {P : List (Nat × Int × Int)} (h : PL W w t F s L P) (n : Nat) : PL W (w.drewN n) t F s L P :=
  ⟨h.tx.drewN n, h.fits, below_drewNs h.bel n, h.ge, fun p hp => ⟨(h.ls p hp).1.drewN n, (h.ls p hp).2⟩, h.dis, h.ps⟩
/-- a list that is none of the call's own -/
theorem PL.nil {W w : World} {t : Nat} {F : Nat → Prop} {s : St} {L : List (Value × List Int)} {P : List (Nat × Int × Int)} (h : PL W w t F s L P) : PL W w t F s (L ++ [(.slice none 0 0, [])]) P :=
  ⟨h.tx, h.fits, h.bel, h.ge, fun p hp => (by
    rcases List.mem_append.1 hp with hp | hp
    · exact h.ls p hp
    · obtain rfl : p = (.slice none 0 0, []) := by simpa using hp
      exact ⟨Wl.nil _, (fun k hk => nomatch hk)⟩), (by
    rw [List.pairwise_append]
    refine ⟨h.dis, by simp, fun p hp q hq k hk hk2 => ?_⟩
    obtain rfl : q = (.slice none 0 0, []) := by simpa using hq
    exact nomatch hk2), fun x hx => ⟨(h.ps x hx).1, (h.ps x hx).2.1, (h.ps x hx).2.2.1, fun p hp => (by
    rcases List.mem_append.1 hp with hp | hp
    · exact (h.ps x hx).2.2.2 p hp
    · obtain rfl : p = (.slice none 0 0, []) := by simpa using hp
      exact fun hk => nomatch hk)⟩⟩
/-- the only list gives way to another, of blocks of its own or new ones -/
theorem PL.swap {W w w' : World} {t : Nat} {F : Nat → Prop} {s : St} {v v' : Value} {l l' : List Int} (h : PL W w t F s [(v, l)] []) (hb : Below w.heap.size w w') (hv : Wl w' v' l') (hn : ∀ k, own v' k → w.heap.size ≤ k) : PL W w' t F s [(v', l')] [] :=
  ⟨h.tx.keep fun k hk => hb.block k (h.tx.lt k hk), h.fits, h.bel.trans (hb.mono h.bel.size), h.ge, fun p hp => (by
    obtain rfl : p = (v', l') := by simpa using hp
    exact ⟨hv, fun k hk => ⟨fun hF => by have := h.tx.lt k hF; have := hn k hk; omega, Nat.le_trans h.bel.size (hn k hk)⟩⟩), by simp, (fun x hx => nomatch hx)⟩
end Go.Proofs.Ytcgdpclhlepofaa
/- Slices of a list of words: its head, its rest. -/
namespace Go.Proofs.Ytcgdpclhlepofaa
open Go.RowKit
set_option linter.unusedVariables false
theorem Lies.take {w : World} {A : Option Addr} {l : List Int} {n c i : Nat} (h : Lies w (.slice A n c) l) (hi : i ≤ n) : Lies w (.slice A i c) (l.take i) := by
  obtain ⟨A', c', hv, hc, h0, hx⟩ := h
  injection hv with h1 h2 h3
  subst h1
  subst h3
  refine ⟨A, c, by rw [List.length_take, Nat.min_eq_left (by omega)], by rw [List.length_take]; omega, h0, fun j hj => ?_⟩
  rw [List.length_take] at hj
  obtain ⟨g, o, e, hcell⟩ := hx j (by omega)
  refine ⟨g, o, e, hcell.trans ?_⟩
  simp only [List.getD_eq_getElem?_getD]
  rw [List.getElem?_take, if_pos (by omega)]
theorem Lies.drop {w : World} {g o : Nat} {l : List Int} {n c i : Nat} (h : Lies w (.slice (some ⟨g, o, none⟩) n c) l) (hi : i ≤ n) : Lies w (.slice (some ⟨g, o + i, none⟩) (n - i) (c - i)) (l.drop i) := by
  obtain ⟨A', c', hv, hc, h0, hx⟩ := h
  injection hv with h1 h2 h3
  subst h1
  subst h3
  refine ⟨some ⟨g, o + i, none⟩, c - i, by rw [List.length_drop, h2], by rw [List.length_drop]; omega, (fun e => nomatch e), fun j hj => ?_⟩
  rw [List.length_drop] at hj
  obtain ⟨g', o', e, hcell⟩ := hx (i + j) (by omega)
  injection e with e
  injection e with e1 e2
  subst e1
  subst e2
  refine ⟨g, o + i, rfl, ?_⟩
  rw [show o + i + j = o + (i + j) by omega, hcell]
  simp only [List.getD_eq_getElem?_getD]
  rw [List.getElem?_drop]
end Go.Proofs.Ytcgdpclhlepofaa
/- One law for every append, which tells besides that the slice appended to reads on as before. -/
namespace Go.Proofs.Ytcgdpclhlepofaa
open Go.RowKit
section
variable {w w' : World} {B : Nat} {e : TypeId} {size : Nat} {v : Value} {n : Nat} {xs : List Value}
/-- append, whatever is appended to a slice that the call has made: the slice itself reads on as before. -/
theorem wpList_app2 {P : Program} (w : World) {ops : Array Oper} {rest : List Oper} {o : Oper} {a : Act} {Q : Exit → Act → World → Prop} (hg : o.guard = none) (s x : Operand) (t : TypeId)
    (hop : o.op = Op.call { callee := Callee.builtin Builtin.append, args := #[s, x], argTypes := #[t, t] }) (e : TypeId) (i : TypeInfo) (z : Value) (size bytes : Nat) (h1 : P.underlying t = some (.slice e)) (h2 : P.info? e = some i) (h3 : i.zero = some z) (h4 : i.size = size) (h5 : i.bytes = bytes) (h6 : z.cells.size = size) (h7 : 0 < size)
    (B : Nat) (v : Value) (n : Nat) (xs : List Value) (hs : a.eval s = v) (hrow : Rowv w B e size v n xs) (u : Value) (m : Nat) (news : List Value) (hx : a.eval x = u) (hsrc : Src w u m size news) (b1 : n + m ≤ maxLen) (b2 : (n + m) * bytes ≤ 140737488355328) (hB : B ≤ w.heap.size)
    (hK : ∀ v' w', Rowv w' B e size v' (n + m) (xs ++ news) → Rowv w' B e size v n xs → w.grownBy w' v.ownBlock → ((∃ A c, v = .slice A n c ∧ v' = .slice A (n + m) c) ∨ ∃ k, v'.ownBlock = some k ∧ w.heap.size ≤ k) → wpList P ops Q rest (a.put o.dst v') w') :
    wpList P ops Q (o :: rest) a w := by
  rcases hsrc with ⟨rfl, rfl, rfl⟩ | ⟨ad, c, rfl, hn, hc, h1c⟩
  · refine wpList_plain hg fun K hK' => ?_
    have hrun : (Builtin.append_ #[t, t] o.type #[v, .slice none 0 0]).run P w = .ok v w := by
      rcases hrow.2 with ⟨rfl, rfl⟩ | ⟨g, off, cap, cur, rfl, _, _, hnc, _⟩
      · simp [Builtin.append_, run_underlying h1, sizeOf, typeInfo, h2, Builtin.lenOf, Builtin.firstCells]
      · simp [Builtin.append_, run_underlying h1, sizeOf, typeInfo, h2, Builtin.lenOf, Builtin.firstCells, hnc, storeCells]
    unfold Oper.wp
    simp [execOp, hop, resolve, invoke, builtin, hs, hx, hrun, Result.andThen]
    obtain ⟨A0, c0, hv0, _⟩ := hrow.shape
    exact hK' _ _ (hK v w (by simpa using hrow) hrow ⟨rfl, rfl, rfl, Nat.le_refl _, fun _ _ _ => rfl⟩ (.inl ⟨A0, c0, hv0, hv0⟩))
  · rcases hrow.2 with ⟨rfl, rfl⟩ | ⟨g, off, cap, cur, rfl, k2, k3, k4, k5, k6, k7⟩
    · have e0 : xs = [] := List.eq_nil_of_length_eq_zero (by simpa using hrow.1)
      subst e0
      refine wpList_append_own w hg s x t hop w.heap.size e i z size bytes h1 h2 h3 h4 h5 h6 h7 (.slice none 0 0) 0 [] hs (World.ownsRow_nil w w.heap.size e size) ad m c news hx hn hc h1c b1 b2 (Nat.le_refl _) ?_
      intro v' w' hown hgr hnil
      have hr := Rowv.of_own hown
      refine hK v' w' (hr.base fun k hk => Nat.le_trans hB (hr.lt hk).1) (Rowv.nil _ _ _ _) hgr ?_
      by_cases hm : m = 0
      · left; exact ⟨none, 0, rfl, by rw [hnil.2 ⟨rfl, hm⟩, hm]⟩
      · rcases hown.2 with ⟨h, _⟩ | ⟨g, cap, cur, rfl, hb, hh, _⟩
        · exact absurd (hnil.1 h).2 hm
        · exact .inr ⟨g, rfl, hb⟩
    · have hcell : ∀ j, w.cell? ⟨g, off + j, none⟩ = cur[off + j]? := fun j => by simp [World.cell?, k3]
      have hmul : (n + m) * size = n * size + m * size := Nat.add_mul n m size
      refine wpList_append_arg w hg s x t hop e i z size bytes h1 h2 h3 h4 h5 h6 h7 g off n cap xs hs hrow.1 (fun j u hj => ?_) ad m c news hx hn hc h1c (fun hr j hj => ?_) b1 b2 (fun hr => ?_) (fun _ v' w' hown hgr => ?_)
      · have hjl : j < n * size := by rw [← hrow.1]; exact (List.getElem?_eq_some_iff.1 hj).1
        rw [hcell, ← hj, ← k7, List.getElem?_take, if_pos hjl, List.getElem?_drop, Array.getElem?_toList]
      · have hle : (n + m) * size ≤ cap * size := Nat.mul_le_mul_right _ hr
        refine ⟨?_, by simp [World.frozen?, k3]⟩
        rw [Nat.add_assoc, hcell, Array.getElem?_eq_getElem (by omega)]
        rfl
      · have hle : (n + m) * size ≤ cap * size := Nat.mul_le_mul_right _ hr
        obtain ⟨q1, q2, q3, q4, q5, q6⟩ := heap_setCells g news (off + n * size) w cur k3
        have hget : ∀ j, j < n * size → (setAll cur (off + n * size) news)[off + j]? = cur[off + j]? := fun j hj => by rw [setAll_get, if_neg (by omega)]
        have hold : Rowv (w.setCells g (off + n * size) news) B e size (.slice (some ⟨g, off, none⟩) n cap) n xs := ⟨hrow.1, .inr ⟨g, off, cap, _, rfl, k2, q1, k4, k5, by rw [setAll_size]; exact k6, by
          apply List.ext_getElem?
          intro j
          rw [List.getElem?_take, List.getElem?_drop, Array.getElem?_toList]
          by_cases hj : j < n * size
          · rw [if_pos hj, hget j hj, ← k7, List.getElem?_take, if_pos hj, List.getElem?_drop, Array.getElem?_toList]
          · rw [if_neg hj, List.getElem?_eq_none (by rw [hrow.1]; omega)]⟩⟩
        refine hK _ _ ⟨by rw [List.length_append, hrow.1, hn, hmul], .inr ⟨g, off, cap, _, rfl, k2, q1, hr, k5, by rw [setAll_size]; exact k6, ?_⟩⟩ hold ⟨q4, q5, q6, by rw [q3]; exact Nat.le_refl _, fun k _ hk => q2 k fun h => hk (by rw [h]; rfl)⟩ (.inl ⟨_, cap, rfl, rfl⟩)
        apply List.ext_getElem?
        intro j
        rw [List.getElem?_take, List.getElem?_drop, Array.getElem?_toList, setAll_get]
        by_cases hj : j < (n + m) * size
        · rw [if_pos hj]
          by_cases hj2 : j < n * size
          · rw [if_neg (by omega), List.getElem?_append_left (by rw [hrow.1]; exact hj2), ← k7, List.getElem?_take, if_pos hj2, List.getElem?_drop, Array.getElem?_toList]
          · rw [if_pos (by omega), List.getElem?_append_right (by rw [hrow.1]; omega), hrow.1]
            congr 1
            omega
        · rw [if_neg hj, List.getElem?_eq_none (by rw [List.length_append, hrow.1, hn]; omega)]
      · have hr := Rowv.of_own hown
        have hb : ∀ k, v'.ownBlock = some k → w.heap.size ≤ k := fun k hk => (hr.lt hk).1
        refine hK v' w' (hr.base fun k hk => Nat.le_trans hB (hb k hk)) (hrow.keepLt fun k _ hk _ => hgr.block k hk fun h => nomatch h) ⟨hgr.os, hgr.tape, hgr.output, hgr.size, fun k h _ => hgr.block k h (fun h => nomatch h)⟩ ?_
        rcases hown.2 with ⟨rfl, h⟩ | ⟨g', cap', cur', rfl, hb', _⟩
        · omega
        · exact .inr ⟨g', rfl, hb'⟩
end
end Go.Proofs.Ytcgdpclhlepofaa
/- Lists of words that are written over and grown, each with a mark of its own: none shows another one's (parleykit.Apart). -/
namespace Go.Proofs.Ytcgdpclhlepofaa
open Go.RowKit
set_option maxHeartbeats 4000000
set_option linter.unusedVariables false
set_option linter.unusedSimpArgs false

theorem sl_info : (Try.prog.info? 32).map (fun i => (i.zero, i.size, i.bytes)) = some (some (.slice none 0 0), 1, 24) := by kernel_rfl
/-- The lists that are told: where they are told of, which they are. -/
structure Ls (w : World) (A : Option Addr) (n : Nat) (V : Nat → Value) : Prop where
  at_ : ∀ i, i < n → ∃ g o, A = some ⟨g, o, none⟩ ∧ w.cell? ⟨g, o + i, none⟩ = some (V i) ∧ ∃ cs, Blk w g 32 cs
theorem Ls.keep {w w' : World} {A : Option Addr} {n : Nat} {V : Nat → Value} (h : Ls w A n V) (hk : ∀ g cs, Blk w g 32 cs → w'.heap[g]? = w.heap[g]?) : Ls w' A n V := ⟨fun i hi => by
  obtain ⟨g, o, h1, h2, cs, h3⟩ := h.at_ i hi
  have e := hk g cs h3
  exact ⟨g, o, h1, by unfold World.cell? at *; simp only [e]; exact h2, cs, e.trans h3⟩⟩
/-- the mark of the i-th list -/
def mk (i : Nat) : Int := 1099511627776 + i
def marks (n i : Nat) : List Int := List.replicate n (mk i)
theorem marks_len (n i : Nat) : (marks n i).length = n := by simp [marks]
theorem marks_get {n i j : Nat} (h : j < n) : (marks n i).getD j 0 = mk i := by simp [marks, List.getD_eq_getElem?_getD, h]
theorem marks_succ (n i : Nat) : marks n i ++ [mk i] = marks (n + 1) i := by simp [marks, List.replicate_succ']
/-- a list whose first k words are marked -/
def half (l : List Int) (k i : Nat) : List Int := marks k i ++ l.drop k
theorem half_len {l : List Int} {k i : Nat} (h : k ≤ l.length) : (half l k i).length = l.length := by simp [half, marks]; omega
theorem half_zero (l : List Int) (i : Nat) : half l 0 i = l := by simp [half, marks]
theorem half_all (l : List Int) (i : Nat) : half l l.length i = marks l.length i := by simp [half]
theorem half_set {l : List Int} {k i : Nat} (h : k < l.length) : (half l k i).set k (mk i) = half l (k + 1) i := by
  unfold half
  rw [List.set_append_right _ _ (by rw [marks_len]; exact Nat.le_refl _), marks_len, Nat.sub_self, List.drop_eq_getElem_cons h, List.set_cons_zero, ← marks_succ]
  simp
/-- what the first loop has done: the lists ahead of the i-th are marked, of that one the first k words -/
def turned (L : Nat → List Int) (i k j : Nat) : List Int := if j < i then marks (L j).length j else if j = i then half (L j) k j else L j
theorem turned_len (L : Nat → List Int) {i k j : Nat} (h : j = i → k ≤ (L j).length) : (turned L i k j).length = (L j).length := by
  unfold turned
  split
  · exact marks_len _ _
  · split
    · exact half_len (h (by assumption))
    · rfl
theorem turned_next (L : Nat → List Int) (i j : Nat) : turned L i (L i).length j = turned L (i + 1) 0 j := by
  unfold turned
  by_cases h1 : j < i
  · rw [if_pos h1, if_pos (by omega)]
  · rw [if_neg h1]
    by_cases h2 : j = i
    · subst h2; rw [if_pos rfl, if_pos (by omega), half_all]
    · rw [if_neg h2, if_neg (by omega)]
      by_cases h3 : j = i + 1
      · rw [if_pos h3, half_zero]
      · rw [if_neg h3]
/-- What stands between two rounds of the second loop: the first i lists have been grown, the longer ones are told of in v. -/
structure Lg (B : Nat) (w0 w : World) (A : Option Addr) (n i : Nat) (V N : Nat → Value) (L : Nat → List Int) (v : Value) : Prop where
  ls : Ls w A n V
  old : ∀ j, j < n → Lies w (V j) (marks (L j).length j)
  wl : ∀ j, i ≤ j → j < n → Wl w (V j) (marks (L j).length j)
  new : ∀ j, j < i → Lies w (N j) (marks ((L j).length + 20) j)
  row : Rowv w B 32 1 v i ((List.range i).map N)
  ow : ∀ j, j < i → ∀ k, own (N j) k → k < w.heap.size ∧ (own (V j) k ∨ B ≤ k) ∧ ¬ own v k
  lt : ∀ j, j < n → ∀ k, Go.Proofs.Ytcgdpclhlepofaa.own (V j) k → k < B
  at_ : ∀ g o, A = some ⟨g, o, none⟩ → 0 < n → g < B
  typ : ∀ j, j < n → ∀ g o, A = some ⟨g, o, none⟩ → ¬ Go.Proofs.Ytcgdpclhlepofaa.own (V j) g
  ap : ∀ i j k, i < n → j < n → Go.Proofs.Ytcgdpclhlepofaa.own (V i) k → Go.Proofs.Ytcgdpclhlepofaa.own (V j) k → i = j
  fr : Fr (fun k => ∃ i, i < n ∧ Go.Proofs.Ytcgdpclhlepofaa.own (V i) k) w0 (fun k => ∃ i, i < n ∧ Go.Proofs.Ytcgdpclhlepofaa.own (V i) k) w
  base : B ≤ w.heap.size
  b0 : w0.heap.size ≤ B
theorem Ls.keep' {w w' : World} {A : Option Addr} {n : Nat} {V : Nat → Value} (h : Ls w A n V) (hk : ∀ g o, A = some ⟨g, o, none⟩ → 0 < n → w'.heap[g]? = w.heap[g]?) : Ls w' A n V := ⟨fun i hi => by
  obtain ⟨g, o, h1, h2, cs, h3⟩ := h.at_ i hi
  have e := hk g o h1 (by omega)
  exact ⟨g, o, h1, by unfold World.cell? at *; simp only [e]; exact h2, cs, e.trans h3⟩⟩
theorem Lies.fr {w w' : World} {v : Value} {l : List Int} {G G' : Nat → Prop} (h : Lies w v l) (hf : Fr G w G' w') (hG : ∀ k, own v k → ¬ G k) : Lies w' v l := by
  obtain ⟨A, cp, rfl, hc, h0, h⟩ := h
  refine ⟨A, cp, rfl, hc, h0, fun j hj => ?_⟩
  obtain ⟨g, of, rfl, hcell⟩ := h j hj
  have hlt : g < w.heap.size := Nat.lt_of_not_le fun hh => by
    unfold World.cell? at hcell
    rw [Array.getElem?_eq_none hh] at hcell
    cases hcell
  have e := hf.block g hlt (hG g rfl)
  exact ⟨g, of, rfl, by unfold World.cell? at *; simp only [e]; exact hcell⟩
theorem Lies.cap {w : World} {A : Option Addr} {n c c0 : Nat} {l : List Int} (h : Lies w (.slice A n c) l) (h1 : n ≤ c0) (h2 : A = none → c0 = 0) : Lies w (.slice A n c0) l := by
  obtain ⟨A', cp, e, hc, h0, h⟩ := h
  injection e with e1 e2 e3
  subst e1
  subst e2
  exact ⟨A, c0, rfl, h1, h2, h⟩
/-- One word more, told in full. -/
theorem wpList_word2 {ops : Array Oper} {rest : List Oper} {o : Oper} {a : Act} {Q : Exit → Act → World → Prop} (wr : World) (hgd : o.guard = none) (s x : Operand)
    (ho : o.op = .call { callee := .builtin .append, args := #[s, x], argTypes := #[32, 32] })
    (v : Value) (l : List Int) (y : Int) (hs : a.eval s = v) (hl : Wl wr v l)
    (hx : a.eval x = .slice (some ⟨wr.heap.size, 0, none⟩) 1 1) (hlen : (l.length + 1) * 8 ≤ 140737488355328)
    (h : ∀ A cap w', l.length + 1 ≤ cap → Wl w' (.slice A (l.length + 1) cap) (l ++ [y]) → Wl w' v l → Fr (own v) wr (own (.slice A (l.length + 1) cap)) w' → ((∃ c, v = .slice A l.length c) ∨ ∀ k, own (.slice A (l.length + 1) cap) k → wr.heap.size ≤ k) → wpList Try.prog ops Q rest (a.put o.dst (.slice A (l.length + 1) cap)) w') :
    wpList Try.prog ops Q (o :: rest) a (wr.alloc (.cells #[.int .u64 y] 23)) := by
  obtain ⟨i0, hi, hz0, hz1, hz2⟩ := info_parts u64_info
  refine wpList_app2 _ hgd s x 32 ho 23 i0 (.int .u64 0) 1 8 Try.underlying32 hi hz0 hz1 hz2 rfl (by decide) 0 v l.length (u64s l) hs (Rowv.alloc hl _) _ 1 [.int .u64 y] hx
    (Src.lit wr (vs := [.int .u64 y]) rfl (by simp [Value.oneCell']) 1) (by unfold maxLen; omega) (by omega) (Nat.zero_le _) ?_
  intro v' w' hrow hold hgr hown
  obtain ⟨A, cap, rfl, hc, _⟩ := hrow.shape
  refine h A cap w' hc ?_ hold ?_ ?_
  · unfold Wl
    rw [show (l ++ [y]).length = l.length + 1 by simp, show u64s (l ++ [y]) = u64s l ++ [.int .u64 y] by simp [u64s]]
    exact hrow
  · refine ((((Fr.refl (own v) wr).alloc _).grown hgr (fun k hk => .inl hk))).into fun k hk => ?_
    rcases hown with ⟨A', c', e1, e2⟩ | ⟨k', e, hk'⟩
    · rw [e1]
      injection e2 with e2 _ _
      subst e2
      exact .inl (own_len hk)
    · unfold own at hk
      rw [hk] at e
      injection e with e
      subst e
      exact .inr (.inr (by simp at hk'; omega))
  · rcases hown with ⟨A', c', e1, e2⟩ | ⟨k', e, hk'⟩
    · injection e2 with e2 _ _
      subst e2
      exact .inl ⟨c', e1⟩
    · refine .inr fun k hk => ?_
      unfold own at hk
      rw [hk] at e
      injection e with e
      subst e
      simp at hk'
      omega
/-- One list more has been grown, and is told of. -/
theorem lg_step {B : Nat} {w0 w w2 w3 : World} {A : Option Addr} {n i : Nat} {V N : Nat → Value} {L : Nat → List Int} {v v' u : Value} (h : Lg B w0 w A n i V N L v) (hi : i < n) (hf : Fr (own (V i)) w (own u) w2) (hu : Wl w2 u (marks ((L i).length + 20) i)) (ho : Lies w2 (V i) (marks (L i).length i))
    (hr : Rowv w3 B 32 1 v' (i + 1) ((List.range i).map N ++ [u])) (hg : Fr (own v) w2 (own v') w3) : Lg B w0 w3 A n (i + 1) V (fun j => if j = i then u else N j) L v' := by
  have hvB : ∀ k, own v k → B ≤ k := fun k hk => (h.row.lt hk).1
  have hBs : B ≤ w.heap.size := h.base
  have hub : ∀ k, own u k → own (V i) k ∨ B ≤ k := fun k hk => (hf.new k hk).imp id fun h1 => by omega
  have huv : ∀ k, own u k → ¬ own v k := fun k hk hv => by
    have hvl := (h.row.lt hv).2
    rcases hf.new k hk with h1 | h1
    · have := h.lt i hi k h1; have := hvB k hv; omega
    · omega
  have hsz := hf.size
  have hsz3 := hg.size
  refine ⟨?_, fun j hj => ?_, fun j hj hjn => ?_, fun j hj => ?_, ?_, fun j hj k hk => ?_, h.lt, h.at_, h.typ, h.ap, ?_, by omega, h.b0⟩
  · refine (h.ls.keep' fun g o hA hn => hf.block g (by have := h.at_ g o hA hn; omega) (h.typ i hi g o hA)).keep' fun g o hA hn => hg.block g (by have := h.at_ g o hA hn; omega) fun hv => by have := hvB g hv; have := h.at_ g o hA hn; omega
  · by_cases e : j = i
    · subst e
      exact ho.fr hg fun k hk hv => by have := h.lt j hj k hk; have := hvB k hv; omega
    · exact ((h.old j hj).fr hf fun k hk hi' => e (h.ap j i k hj hi hk hi')).fr hg fun k hk hv => by have := h.lt j hj k hk; have := hvB k hv; omega
  · exact ((h.wl j (by omega) hjn).fr hf fun k hk hi' => by have := h.ap j i k hjn hi hk hi'; omega).fr hg fun k hk hv => by have := h.lt j hjn k hk; have := hvB k hv; omega
  · by_cases e : j = i
    · subst e
      rw [if_pos rfl]
      exact hu.lies.fr hg huv
    · rw [if_neg e]
      have hj' : j < i := by omega
      refine ((h.new j hj').fr hf fun k hk hi' => ?_).fr hg fun k hk => (h.ow j hj' k hk).2.2
      rcases (h.ow j hj' k hk).2.1 with h1 | h1
      · exact e (h.ap j i k (by omega) hi h1 hi')
      · have := h.lt i hi k hi'; omega
  · have e : (List.range (i + 1)).map (fun j => if j = i then u else N j) = (List.range i).map N ++ [u] := by
      rw [List.range_succ, List.map_append]
      congr 1
      · exact List.map_congr_left fun j hj => if_neg (by have := List.mem_range.1 hj; omega)
      · simp
    rw [e]
    exact hr
  · by_cases e : j = i
    · subst e
      rw [if_pos rfl] at hk
      refine ⟨Nat.lt_of_lt_of_le (hu.lt k hk) hsz3, hub k hk, fun hv => (hg.new k hv).elim (huv k hk) fun h1 => by have := hu.lt k hk; omega⟩
    · rw [if_neg e] at hk
      have hj' : j < i := by omega
      obtain ⟨h1, h2, h3⟩ := h.ow j hj' k hk
      exact ⟨by omega, h2, fun hv => (hg.new k hv).elim h3 fun h4 => by omega⟩
  · refine (h.fr.trans (((hf.wide (G := fun k => ∃ i, i < n ∧ own (V i) k) fun k hk => ⟨i, hi, hk⟩).into (G := fun k => ∃ i, i < n ∧ own (V i) k) fun k hk => .inr (.inl hk)))).beside hg fun k hk => ?_
    have := hvB k hk
    have := h.b0
    omega
end Go.Proofs.Ytcgdpclhlepofaa
/- A list of words put together out of three: what stands between the appends. -/
namespace Go.Proofs.Ytcgdpclhlepofaa
open Go.RowKit
set_option linter.unusedVariables false
/-- V holds l, in blocks that are newer than the world w0 -/
structure Wq (w0 w : World) (V : Value) (l : List Int) : Prop where
  wl : Wl w V l
  bel : Below w0.heap.size w0 w
  ge : ∀ k, own V k → w0.heap.size ≤ k
section
variable {w0 w w' : World} {V V' : Value} {l l' : List Int} {key : Int} {g : Nat}
theorem Wq.app (h : Wq w0 w V l) (hw : Wl w' V' l') (hf : Fr (own V) w (own V') w') : Wq w0 w' V' l' :=
  ⟨hw, h.bel.trans (hf.below h.ge h.bel.size), hf.ge h.ge h.bel.size⟩
theorem Wq.alloc (h : Wq w0 w V l) (o : Obj) : Wq w0 (w.alloc o) V l := ⟨h.wl.alloc o, h.bel.alloc h.bel.size o, h.ge⟩
theorem Wq.drewN (h : Wq w0 w V l) (n : Nat) : Wq w0 (w.drewN n) V l := ⟨h.wl.drewN n, below_drewNs h.bel n, h.ge⟩
theorem Wq.start (hb : Below w0.heap.size w0 w) : Wq w0 (w.alloc (.cells #[] 23)) (.slice (some ⟨w.heap.size, 0, none⟩) 0 0) [] :=
  ⟨Wl.new w [] (by simp), hb.alloc hb.size _, fun k hk => by
    obtain rfl : w.heap.size = k := by simpa [own, Value.ownBlock] using hk
    exact hb.size⟩
theorem own_new {s n c : Nat} : ∀ k, own (.slice (some ⟨s, 0, none⟩) n c) k → s ≤ k := fun k hk => by
  obtain rfl : s = k := by simpa [own, Value.ownBlock] using hk
  exact Nat.le_refl _
/-- one word in a literal, in a block that is none of V's -/
structure Wk (w : World) (V : Value) (g : Nat) (key : Int) : Prop where
  lies : Lies w (.slice (some ⟨g, 0, none⟩) 1 1) [key]
  ne : ∀ k, own (.slice (some ⟨g, 0, none⟩) 1 1) k → ¬ own V k
theorem Wk.new (w : World) (V : Value) (hV : ∀ k, own V k → k < w.heap.size) (key : Int) : Wk (w.alloc (.cells #[.int .u64 key] 23)) V w.heap.size key :=
  ⟨Lies.new w [key] (by simp), fun k hk hV2 => by
    obtain rfl : w.heap.size = k := by simpa [own, Value.ownBlock] using hk
    have := hV _ hV2
    omega⟩
theorem Wk.app (h : Wk w V g key) (hw : Wl w' V' l') (hf : Fr (own V) w (own V') w') (hg : g < w.heap.size) : Wk w' V' g key :=
  ⟨h.lies.fr hf h.ne, fun k hk hV => (hf.new k hV).elim (fun h1 => h.ne k hk h1) fun h1 => by
    obtain rfl : g = k := by simpa [own, Value.ownBlock] using hk
    omega⟩
theorem Wk.lt (h : Wk w V g key) : g < w.heap.size := by
  obtain ⟨A, c, e, _, _, hx⟩ := h.lies
  rw [Value.slice.injEq] at e
  obtain ⟨e, -, -⟩ := e
  obtain ⟨g', o, e2, hc⟩ := hx 0 (by simp)
  rw [e2] at e
  injection e with e
  injection e with e _
  subst e
  exact Nat.lt_of_not_le fun hh => by
    unfold World.cell? at hc
    rw [Array.getElem?_eq_none hh] at hc
    cases hc
theorem Wk.turn (h : Wk w V g key) (o : Obj) (hV : ∀ k, own V' k → w.heap.size ≤ k) : Wk (w.alloc o) V' g key :=
  ⟨h.lies.alloc o, fun k hk hv => by
    obtain rfl : g = k := by simpa [own, Value.ownBlock] using hk
    have := hV _ hv
    have := h.lt
    omega⟩
theorem Wk.alloc (h : Wk w V g key) (o : Obj) : Wk (w.alloc o) V g key := ⟨h.lies.alloc o, h.ne⟩
theorem Wk.drewN (h : Wk w V g key) (n : Nat) : Wk (w.drewN n) V g key := ⟨h.lies.drewN n, h.ne⟩
end
/-- a list that list.Keys told -/
theorem PL.keys {W w w' : World} {t n : Nat} {F : Nat → Prop} {s s' : St} {L : List (Value × List Int)} {P : List (Nat × Int × Int)} {v : Value} {l : List Int} (h : PL W w t F s L P) (hK : LftK t n F w s' v l w') : ∃ F', PL W w' t F' s' (L ++ [(v, l)]) P ∧ Bud s' n := by
  obtain ⟨f, b, hv, F', hT, hm, ho⟩ := hK
  exact h.list (B := 0) ⟨f, b, hv, (fun _ _ => Nat.zero_le _), F', hT, hm.into fun k hk => .inl (.inl hk), ho⟩ (fun k hk => hm.new k (.inr hk))
/-- all but the last list of the call's own are let go -/
theorem PL.tail {W w : World} {t : Nat} {F : Nat → Prop} {s : St} {x : Value × List Int} {L : List (Value × List Int)} {P : List (Nat × Int × Int)} (h : PL W w t F s (x :: L) P) : PL W w t F s L P :=
  ⟨h.tx, h.fits, h.bel, h.ge, fun p hp => h.ls p (List.mem_cons_of_mem _ hp), (List.pairwise_cons.1 h.dis).2, fun y hy => ⟨(h.ps y hy).1, (h.ps y hy).2.1, (h.ps y hy).2.2.1, fun p hp => (h.ps y hy).2.2.2 p (List.mem_cons_of_mem _ hp)⟩⟩
end Go.Proofs.Ytcgdpclhlepofaa
/- A region that draws its order within a round of a range over a function: the one walk of XMix serves there too. -/
namespace Go.Proofs.Ytcgdpclhlepofaa
set_option linter.unusedVariables false
set_option linter.unusedSimpArgs false
section
variable {P : Program} {ops : Array Oper} {md : Region.Mode} {Q : Exit → Act → World → Prop} {n r : Nat}

def plainOp (o : Oper) : Bool := match o.op with
  | .defer _ => false
  | _ => true
theorem plainOp_spec {o : Oper} (h : plainOp o = true) : ∀ c, o.op ≠ .defer c := fun c e => by
  unfold plainOp at h
  rw [e] at h
  cases h
/-- no row of the library's among what it may do -/
theorem wpIn_of_wp {o : Oper} {a : Act} {w : World} {K : Act → World → Prop} (ho : plainOp o = true) (hL : ¬ LetsOut Q) (h : o.wp P a w K Q) : o.wpIn (Fence.wide.inRound r) n P a w K Q := by
  refine ⟨fun _ _ => trivial, ?_⟩
  rw [Oper.semAt_eq _ _ _ (plainOp_spec ho)]
  unfold Oper.wp at h
  generalize (execOp a.eval o).run P w = x at *
  cases x with
  | ok x w' =>
    cases x <;> simp only [Oper.upon] at h <;> simp only [Oper.uponIn] <;> try exact h
    case enter f args =>
      refine ⟨(fun h => (by cases h)), CallsIn.inRound r (callsIn_wide.2 (Calls.mono h fun e w'' he => ?_))⟩
      cases e <;> exact he
    case row row args => exact ⟨(fun h => (by cases h)), fun c cs _ => let ⟨v, w', q, s⟩ := h c cs; ⟨v, w', q, stepsIn_wide.2 s⟩⟩
  | halt x w' =>
    cases x <;> simp only [Oper.upon] at h <;> simp only [Oper.uponIn] <;> exact h
theorem wpAnyIn_of_any (hd : ∀ (i : Nat) (o : Oper), ops[i]? = some o → plainOp o = true) (hL : ¬ LetsOut Q) : ∀ (fuel : Nat) (listed : Array Bool) (a : Act) (w : World), wpAny P md ops Q fuel listed a w → wpAnyIn (Fence.wide.inRound r) n P md ops Q fuel listed a w
  | 0, _, _, _, h => h
  | fuel + 1, listed, a, w, h => ⟨h.1, fun i hi => by
      have h1 := h.2 i hi
      unfold wpOp at h1
      unfold wpOpIn
      split
      · rename_i hn
        simp only [hn] at h1
        exact wpAnyIn_of_any hd hL fuel _ _ _ h1
      · rename_i o ho
        simp only [ho] at h1
        split
        · rename_i hw
          rw [if_pos hw] at h1
          rcases h1 with h1 | h1
          · exact Oper.wpIn_mono (fun a w h => wpAnyIn_of_any hd hL fuel _ a w h) (wpIn_of_wp (hd i o ho) hL h1)
          · exact (hL h1.2).elim
        · rename_i hw
          rw [if_neg hw] at h1
          exact ⟨fun _ _ => trivial, wpAnyIn_of_any hd hL fuel _ _ _ h1⟩⟩
theorem wpIn_region_mix {id : Nat} {a : Act} {w : World} {l : List Oper} (S : World → Prop) (ms ord : List Nat) (hm : P.follows .mixedOrders = true) (hB : mixB .any l.toArray ms ord = true) (hdf : l.all plainOp = true) (hL : ¬ LetsOut Q) (hS : ∀ w n, S w → S (w.drewN n)) (hs : S w.drew)
    (h : wpMix P l.toArray S Q (fun i => ms.getD i 2) ord a w.drew) : (Code.region id l.toArray true).wpIn (Fence.wide.inRound r) n P Q a w := by
  simp only [mixB, Bool.and_eq_true, decide_eq_true_eq] at hB
  obtain ⟨⟨hsel, hlen⟩, hord⟩ := hB
  refine wpIn_region_any hm (wpAnyIn_of_any (fun i o ho => ?_) hL _ _ _ _ ?_)
  · have : o ∈ l := List.mem_of_getElem? (by simpa using ho)
    exact List.all_eq_true.1 hdf o this
  have hcl : Closed .any l.toArray (Array.replicate l.toArray.size false) := fun j oj _ hl => by
    rcases Nat.lt_or_ge j l.toArray.size with h | h
    · simp at h hl; simp [h] at hl
    · simp at h hl; simp [h] at hl
  have := mixAny_sound hS _ _ _ _ hcl (fun _ => hs) (mixAny_of_mix hsel ord _ a w.drew hcl hord h) 0
  rw [hlen] at this
  exact this
end
end Go.Proofs.Ytcgdpclhlepofaa
