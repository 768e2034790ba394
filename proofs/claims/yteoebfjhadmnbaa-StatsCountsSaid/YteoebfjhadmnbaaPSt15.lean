/- stats.Shares and stats.Waits by contract, of a history that can't be. -/
import Derived.Test.YteoebfjhadmnbaaPSt2
import Derived.Test.YteoebfjhadmnbaaPSt5
import Derived.Test.YteoebfjhadmnbaaPSt12
import Derived.Test.YteoebfjhadmnbaaPSt13
namespace Go.Proofs.Yteoebfjhadmnbaa
open Go.RowKit
set_option maxHeartbeats 4000000
set_option linter.unusedVariables false
set_option linter.unusedSimpArgs false
set_option maxRecDepth 100000 in
theorem shares_odd {w : World} {A : Option Addr} {cp : Nat} {l : List Ev} (hL : LiesV w (.slice A l.length cp) l) {q1 q2 : Int} (hq : odd l = (q1, q2)) (hq2 : q2 ≠ 0) :
    Calls Try.prog 7 #[.slice A l.length cp] w fun x w' => x = .returned (.tuple #[.slice none 0 0, .agg #[.int .i64 q1, .int .i64 q2]]) ∧ Below w.heap.size w w' := by
  have B0 := Lib.hid (Blk.new w 30 #[.int .i64 0, .int .i64 0])
  have bel0 : Hid (Below w.heap.size w (w.alloc (.cells #[.int .i64 0, .int .i64 0] 30))) := Lib.hid ((Below.refl _ _).alloc (Nat.le_refl _) _)
  have C := Lib.hid (check_b (hL.below bel0.out (Nat.le_refl _)))
  rw [hq] at C
  clear hL hq
  have hqa : (q2 == 0) = false := by simp [hq2]
  have hqb : (q2 != 0) = true := by simp [hq2]
  go_enter Try.func7, Try.ntmps7
  go_wp2_with fail
  refine C.out.mono ?_
  rintro e w1 ⟨rfl, hb1⟩
  dsimp only
  have B1 := B0.out.below hb1 B0.out.lt
  have bel1 := bel0.out.trans (hb1.mono (by simp))
  have B2 := B1.alloc (.cells #[.int .i64 q1, .int .i64 q2] 30)
  have b0 := B2.cell 0
  have b1 := B2.cell 1
  have f0 := B2.frozen 0
  have f1 := B2.frozen 1
  simp only [List.getElem?_toArray, List.getElem?_cons_zero, List.getElem?_cons_succ] at b0 b1
  have hsz1 : w.heap.size ≤ w1.heap.size := bel1.size
  have hne : w.heap.size ≠ w1.heap.size := Nat.ne_of_lt B1.lt
  have HW := Lib.hid (bel1.alloc hsz1 (.cells #[.int .i64 q1, .int .i64 q2] 30))
  clear bel1 hb1 bel0 C B2 B1 B0
  go_wp2
  refine wp_region_mixH (fun _ => True) [1, 3, 2] (List.range 3) (by kernel_rfl) (by kernel_rfl) (fun _ _ h => h) trivial ?_
  repeat ((first | refine wpMixH_pure rfl rfl (fun K hK => ?_) | refine wpMixH_loc rfl rfl (fun K hK => ?_) | refine wpMixH_any rfl rfl (fun K hK => ?_)); go_simp; refine hK _ _ ?_; clear hK K)
  refine wpMixH_loud rfl rfl (fun n1 K hK => ?_)
  go_wp2
  refine hK _ _ (fun _ => trivial) ?_; clear hK K
  refine wpMixH_nil (fun n2 => ?_)
  go_wp2
  refine bodyPost_ret (v := .tuple #[.slice none 0 0, .agg #[.int .i64 q1, .int .i64 q2]]) (by simp [results, Try.results7, go_sem, b0, b1, f0, f1]) rfl ⟨rfl, ?_⟩
  (repeat (first | with_reducible exact (HW).out | (with_reducible refine below_drewNs ?_ _) | (with_reducible refine Below.setCell ?_ ?_ _; rotate_left; focus (first | (with_reducible exact Nat.le_refl _) | (have hsz_ := (HW).out.size; simp only; omega))) | (with_reducible refine Below.alloc ?_ ?_ _; rotate_left; focus (first | (with_reducible exact (HW).out.size) | (have hsz_ := (HW).out.size; simp; omega)))))
set_option maxRecDepth 100000 in
theorem waits_odd {w : World} {A : Option Addr} {cp : Nat} {l : List Ev} (hL : LiesV w (.slice A l.length cp) l) {q1 q2 : Int} (hq : odd l = (q1, q2)) (hq2 : q2 ≠ 0) :
    Calls Try.prog 8 #[.slice A l.length cp] w fun x w' => x = .returned (.tuple #[.slice none 0 0, .agg #[.int .i64 q1, .int .i64 q2]]) ∧ Below w.heap.size w w' := by
  have B0 := Lib.hid (Blk.new w 30 #[.int .i64 0, .int .i64 0])
  have bel0 : Hid (Below w.heap.size w (w.alloc (.cells #[.int .i64 0, .int .i64 0] 30))) := Lib.hid ((Below.refl _ _).alloc (Nat.le_refl _) _)
  have C := Lib.hid (tries_b (hL.below bel0.out (Nat.le_refl _)))
  have hno : ¬ okTo l l.length := fun h => hq2 (by have := odd_ok h; rw [hq] at this; injection this)
  have hod : ∀ n, n < l.length → okTo l n → wrong (rn l n) (evAt l n) ≠ 0 → q1 = n ∧ q2 = wrong (rn l n) (evAt l n) := fun n h1 h2 h3 => by have := hq.symm.trans (odd_at h1 h2 h3); simpa using this
  clear hL hq
  replace hod := Lib.hid hod
  replace hno := Lib.hid hno
  have hqa : (q2 == 0) = false := by simp [hq2]
  have hqb : (q2 != 0) = true := by simp [hq2]
  go_enter Try.func8, Try.ntmps8
  go_wp2_with fail
  refine C.out.mono ?_
  rintro e w1 ⟨hb1, (⟨hok, -⟩ | ⟨n, hn, hok, hw, rfl⟩)⟩
  · exact absurd hok hno.out
  obtain ⟨e1, e2⟩ := hod.out n hn hok hw
  rw [← e1, ← e2]
  clear e1 e2 hok hw hn hod hno
  have B1 := B0.out.below hb1 B0.out.lt
  have bel1 := bel0.out.trans (hb1.mono (by simp))
  have B2 := B1.alloc (.cells #[.int .i64 q1, .int .i64 q2] 30)
  have b0 := B2.cell 0
  have b1 := B2.cell 1
  have f0 := B2.frozen 0
  have f1 := B2.frozen 1
  simp only [List.getElem?_toArray, List.getElem?_cons_zero, List.getElem?_cons_succ] at b0 b1
  have hsz1 : w.heap.size ≤ w1.heap.size := bel1.size
  have hne : w.heap.size ≠ w1.heap.size := Nat.ne_of_lt B1.lt
  have HW := Lib.hid (bel1.alloc hsz1 (.cells #[.int .i64 q1, .int .i64 q2] 30))
  clear bel1 hb1 bel0 C B2 B1 B0
  go_wp2
  refine wp_region_mixH (fun _ => True) [1, 3, 2] (List.range 3) (by kernel_rfl) (by kernel_rfl) (fun _ _ h => h) trivial ?_
  repeat ((first | refine wpMixH_pure rfl rfl (fun K hK => ?_) | refine wpMixH_loc rfl rfl (fun K hK => ?_) | refine wpMixH_any rfl rfl (fun K hK => ?_)); go_simp; refine hK _ _ ?_; clear hK K)
  refine wpMixH_loud rfl rfl (fun n1 K hK => ?_)
  go_wp2
  refine hK _ _ (fun _ => trivial) ?_; clear hK K
  refine wpMixH_nil (fun n2 => ?_)
  go_wp2
  refine bodyPost_ret (v := .tuple #[.slice none 0 0, .agg #[.int .i64 q1, .int .i64 q2]]) (by simp [results, Try.results8, go_sem, b0, b1, f0, f1]) rfl ⟨rfl, ?_⟩
  (repeat (first | with_reducible exact (HW).out | (with_reducible refine below_drewNs ?_ _) | (with_reducible refine Below.setCell ?_ ?_ _; rotate_left; focus (first | (with_reducible exact Nat.le_refl _) | (have hsz_ := (HW).out.size; simp only; omega))) | (with_reducible refine Below.alloc ?_ ?_ _; rotate_left; focus (first | (with_reducible exact (HW).out.size) | (have hsz_ := (HW).out.size; simp; omega)))))
end Go.Proofs.Yteoebfjhadmnbaa
/- A quotient of whole numbers that is not above one, as a float: it is between nought and one. -/
namespace Go.Proofs.Yteoebfjhadmnbaa
open Go.RowKit Ieee
set_option linter.unusedVariables false
set_option linter.unusedSimpArgs false
theorem cut_le (way : Toward) (neg : Bool) (n d k : Nat) (h : n < 2 ^ d * k) : way.cut neg n d ≤ k := by
  have hp : 0 < 2 ^ d := Nat.two_pow_pos d
  have hk : 0 < k := by
    rcases Nat.eq_zero_or_pos k with h0 | h0
    · subst h0; omega
    · exact h0
  have hlow : n / (1 <<< min d (n.log2 + 2)) < k := by
    rw [Nat.shiftLeft_eq, Nat.one_mul]
    by_cases hd : d ≤ n.log2 + 2
    · rw [Nat.min_eq_left hd]
      exact Nat.div_lt_of_lt_mul h
    · rw [Nat.min_eq_right (by omega)]
      have h1 : n < 2 ^ (n.log2 + 1) := Nat.lt_log2_self
      have h2 : 2 ^ (n.log2 + 1) ≤ 2 ^ (n.log2 + 2) := Nat.pow_le_pow_right (by omega) (by omega)
      rw [Nat.div_eq_of_lt (by omega)]
      exact hk
  unfold Toward.cut
  dsimp only
  generalize n / (1 <<< min d (n.log2 + 2)) = q at *
  generalize n % (1 <<< min d (n.log2 + 2)) = r at *
  have : ∀ b : Bool, b.toNat ≤ 1 := fun b => by cases b <;> decide
  exact Nat.le_trans (Nat.add_le_add_left (this _) q) hlow
def one64 : Nat := 4607182418800017408
/-- what is not above one is written not above one -/
theorem near_one (m p : Nat) (h : m ≤ 2 ^ p) : double.nearest false m (-(p : Int)) ≤ one64 := by
  unfold Format.nearest
  by_cases hm : m = 0
  · rw [if_pos hm]; decide
  rw [if_neg hm]
  have hfb : (double.fractionBits : Int) = 52 := rfl
  have hlp : double.leastPlace = -1074 := rfl
  have hbi : double.binade = 4503599627370496 := rfl
  have hin : double.infRung = 9218868437227405312 := rfl
  simp only [hfb, hlp, hbi, hin, word_eq, Bool.false_eq_true, if_false]
  unfold one64
  refine Nat.le_trans (Nat.min_le_left _ _) ?_
  by_cases he : m = 2 ^ p
  · subst he
    have hl : (2 ^ p).log2 = p := Nat.log2_two_pow
    rw [hl]
    have h1 : max (-(p : Int) + p - 52) (-1074) = -52 := by omega
    rw [h1]
    have h2 : Toward.even.cut false (2 ^ p <<< (-(p : Int) - -52).toNat) (-52 - -(p : Int)).toNat = 4503599627370496 := by
      by_cases h52 : 52 ≤ p
      · rw [show (-(p : Int) - -52).toNat = 0 by omega, show (-52 - -(p : Int)).toNat = p - 52 by omega, Nat.shiftLeft_zero, show 2 ^ p = 4503599627370496 * 2 ^ (p - 52) by rw [show (4503599627370496 : Nat) = 2 ^ 52 by decide, ← Nat.pow_add]; congr 1; omega]
        exact cut_exact _ _ _ _ (by decide)
      · rw [show (-52 - -(p : Int)).toNat = 0 by omega, cut_none, show (-(p : Int) - -52).toNat = 52 - p by omega, Nat.shiftLeft_eq, ← Nat.pow_add, show p + (52 - p) = 52 by omega]
    rw [h2]
    decide
  · have hlt : m < 2 ^ p := by omega
    have hlg : m.log2 < p := (Nat.log2_lt hm).2 hlt
    have hml : m < 2 ^ (m.log2 + 1) := Nat.lt_log2_self
    generalize hL : max (-(p : Int) + m.log2 - 52) (-1074) = last
    have hx : (last - -1074).toNat ≤ 1021 := by omega
    have hc : Toward.even.cut false (m <<< (-(p : Int) - last).toNat) (last - -(p : Int)).toNat ≤ 9007199254740992 := by
      refine cut_le _ _ _ _ _ ?_
      rw [Nat.shiftLeft_eq, show (9007199254740992 : Nat) = 2 ^ 53 by decide]
      by_cases hd : -(p : Int) < last
      · rw [show (-(p : Int) - last).toNat = 0 by omega, Nat.pow_zero, Nat.mul_one, ← Nat.pow_add]
        exact Nat.lt_of_lt_of_le hml (Nat.pow_le_pow_right (by omega) (by omega))
      · rw [show (last - -(p : Int)).toNat = 0 by omega, Nat.pow_zero, Nat.one_mul]
        refine Nat.lt_of_lt_of_le (Nat.mul_lt_mul_of_pos_right hml (Nat.two_pow_pos _)) ?_
        rw [← Nat.pow_add]
        exact Nat.pow_le_pow_right (by omega) (by omega)
    exact Nat.le_trans (Nat.add_le_add (Nat.mul_le_mul_right 4503599627370496 hx) hc) (by decide)
/-- a quotient that is not above one -/
theorem quot_one {m n e f : Nat} {i j : Int} (hi : i = -1074 + (e : Int)) (hj : j = -1074 + (f : Int)) (hn : n ≠ 0) (h : m * 2 ^ e ≤ n * 2 ^ f) :
    ∃ d, (Datum.number false m i).quotient 54 (.number false n j) = some d ∧ double.write d ≤ one64 := by
  refine ⟨_, by unfold Datum.quotient; dsimp only; rw [if_neg hn], ?_⟩
  show double.nearest (false ^^ false) _ _ ≤ _
  by_cases hm : m = 0
  · subst hm
    rw [Nat.zero_shiftLeft, Nat.zero_div, Nat.zero_mod]
    unfold Format.nearest
    rw [if_pos (by rfl)]
    decide
  generalize hmo : 54 + n.log2 - m.log2 = more
  have hD : m <<< more = m * 2 ^ more := Nat.shiftLeft_eq _ _
  have hDe : m * 2 ^ more * 2 ^ e ≤ n * 2 ^ (f + more) := by
    have := Nat.mul_le_mul_right (2 ^ more) h
    rw [Nat.pow_add]
    calc m * 2 ^ more * 2 ^ e = m * 2 ^ e * 2 ^ more := by rw [Nat.mul_right_comm]
      _ ≤ n * 2 ^ f * 2 ^ more := this
      _ = n * (2 ^ f * 2 ^ more) := Nat.mul_assoc _ _ _
  have hDn : n < m * 2 ^ more := by
    have h1 : 2 ^ m.log2 ≤ m := Nat.log2_self_le hm
    have h2 : n < 2 ^ (n.log2 + 1) := Nat.lt_log2_self
    refine Nat.lt_of_lt_of_le h2 (Nat.le_trans ?_ (Nat.mul_le_mul_right _ h1))
    rw [← Nat.pow_add]
    exact Nat.pow_le_pow_right (by omega) (by omega)
  have hef : e < f + more := by
    have h1 : n * 2 ^ e < n * 2 ^ (f + more) := Nat.lt_of_lt_of_le (Nat.mul_lt_mul_of_pos_right hDn (Nat.two_pow_pos e)) hDe
    exact (Nat.pow_lt_pow_iff_right (by omega)).1 (Nat.lt_of_mul_lt_mul_left h1)
  obtain ⟨K, hK⟩ : ∃ K, f + more = e + K := ⟨f + more - e, by omega⟩
  have hq : m * 2 ^ more ≤ n * 2 ^ K := by
    rw [hK, Nat.pow_add] at hDe
    refine Nat.le_of_mul_le_mul_right ?_ (Nat.two_pow_pos e)
    calc m * 2 ^ more * 2 ^ e ≤ n * (2 ^ e * 2 ^ K) := hDe
      _ = n * 2 ^ K * 2 ^ e := by rw [Nat.mul_assoc, Nat.mul_comm (2 ^ e)]
  have hpl : i - j - (more : Int) - 1 = -((K + 1 : Nat) : Int) := by omega
  rw [hD, hpl]
  refine near_one _ _ ?_
  have hn0 : 0 < n := by omega
  generalize m * 2 ^ more = D at *
  have h1 : D / n ≤ 2 ^ K := Nat.div_le_of_le_mul hq
  have hdm := Nat.div_add_mod D n
  rw [Nat.pow_succ]
  by_cases h2 : D / n = 2 ^ K
  · have h3 : D % n = 0 := by
      rw [h2] at hdm
      omega
    rw [h3, h2]
    simp
    omega
  · have : (D % n != 0).toNat ≤ 1 := by cases (D % n != 0) <;> decide
    omega
theorem foi_nat {c : Nat} (hc : c ≤ 9007199254740992) : ∃ r, r < 9218868437227405312 ∧ mg r = c * unit1 ∧ floatOfInt .f64 (c : Int) = r := by
  obtain ⟨r, h1, h2, h3⟩ := write_int false c hc
  refine ⟨r, h1, h2, ?_⟩
  have : floatOfInt .f64 (c : Int) = double.write (.number (decide ((c : Int) < 0)) (c : Int).natAbs 0) := rfl
  rw [this, Int.natAbs_natCast, show decide ((c : Int) < 0) = false by simp, h3]
  rfl
theorem read_small {r : Nat} (h : r < 9218868437227405312) : double.read r = .number false (magOf r) (-1074 + (expOf r : Nat)) := by
  have := read_num r (by omega)
  have e1 : r % 9223372036854775808 = r := Nat.mod_eq_of_lt (by omega)
  have e2 : r / 9223372036854775808 = 0 := Nat.div_eq_of_lt (by omega)
  rw [this, e1, e2]
  rfl
theorem quo_unit {c a : Nat} (h : c ≤ a) (h0 : 0 < a) (ha : a ≤ 9007199254740992) : ∃ r, floatBits .quo .f64 (floatOfInt .f64 (c : Int)) (floatOfInt .f64 (a : Int)) = some r ∧ r ≤ one64 ∧ fop .quo (cl (floatOfInt .f64 (c : Int))) (cl (floatOfInt .f64 (a : Int))) = some r := by
  obtain ⟨x, x1, x2, x3⟩ := foi_nat (c := c) (by omega)
  obtain ⟨y, y1, y2, y3⟩ := foi_nat ha
  have hx : isnan x = false := by unfold isnan; simp; omega
  have hy : isnan y = false := by unfold isnan; simp; omega
  have hn : magOf y ≠ 0 := fun hh => by
    rw [mg_eq, hh, Nat.zero_mul] at y2
    have := unit1_pos
    rcases Nat.mul_eq_zero.1 y2.symm with h | h <;> omega
  obtain ⟨d, d1, d2⟩ := quot_one (m := magOf x) (n := magOf y) (e := expOf x) (f := expOf y) rfl rfl hn (by rw [← mg_eq, ← mg_eq, x2, y2]; exact Nat.mul_le_mul_right _ h)
  have hfb : floatBits .quo .f64 x y = some (double.write d) := by
    show double.div x y = _
    unfold Format.div
    rw [read_small x1, read_small y1, show double.fractionBits + 2 = 54 from rfl, d1]
    rfl
  rw [x3, y3]
  exact ⟨_, hfb, d2, by unfold cl; rw [hx, hy]; exact hfb⟩
/-- such a number in the program's comparisons -/
theorem unit_cmp {r : Nat} (h : r ≤ one64) : fLt r 0 = false ∧ fLt one64 r = false ∧ fLt 0 r = decide (0 < r) ∧ fEq r 0 = decide (r = 0) ∧ isnan r = false := by
  have h1 : r ≤ 4607182418800017408 := h
  have hn : isnan r = false := by unfold isnan; simp; omega
  have hs : sr r = r := by
    have e1 : r % 9223372036854775808 = r := Nat.mod_eq_of_lt (by omega)
    have e2 : r / 9223372036854775808 = 0 := Nat.div_eq_of_lt (by omega)
    unfold sr
    rw [e1, e2]
    simp
  have h0 : sr 0 = 0 := rfl
  have ho : sr one64 = 4607182418800017408 := by decide
  refine ⟨?_, ?_, ?_, ?_, hn⟩
  · unfold fLt; rw [hs, h0]; simp
  · unfold fLt; rw [hs, ho]; simp; intro _ _; omega
  · unfold fLt; rw [hs, h0, hn]; simp [show isnan 0 = false by decide]
  · unfold fEq; rw [hs, h0, hn]; simp [show isnan 0 = false by decide]
end Go.Proofs.Yteoebfjhadmnbaa
/- stats.Busy by contract. -/
namespace Go.Proofs.Yteoebfjhadmnbaa
open Go.RowKit
set_option maxHeartbeats 4000000
set_option linter.unusedVariables false
set_option linter.unusedSimpArgs false
def bzH (h : Int) (e : Ev) : Int := if e.kd = 5 then e.th else h
def bzStep (p : Int × Int) (e : Ev) : Int × Int := (if 0 ≤ bzH p.2 e then p.1 + 1 else p.1, if e.kd = 6 ∧ bzH p.2 e = e.th then -1 else bzH p.2 e)
/-- how many events there were under a lock; who holds it -/
def bzF (l : List Ev) : Nat → Int × Int
  | 0 => (0, -1)
  | k + 1 => bzStep (bzF l k) (evAt l k)
theorem bzF_bd (l : List Ev) : ∀ k, 0 ≤ (bzF l k).1 ∧ (bzF l k).1 ≤ k
  | 0 => by simp [bzF]
  | k + 1 => by
    have := bzF_bd l k
    unfold bzF bzStep
    dsimp only
    split <;> omega
def bzR (l : List Ev) : Nat := (floatBits .quo .f64 (floatOfInt .f64 (bzF l l.length).1) (floatOfInt .f64 (l.length : Int))).getD 0
def busyF (l : List Ev) : Nat := if (odd l).2 ≠ 0 ∨ l.length = 0 then 0 else bzR l
theorem bz_fb {l : List Ev} (h : l.length * 48 ≤ 140737488351280) (h0 : l.length ≠ 0) : floatBits .quo .f64 (floatOfInt .f64 (bzF l l.length).1) (floatOfInt .f64 (l.length : Int)) = some (bzR l) ∧ bzR l ≤ one64 := by
  have hb := bzF_bd l l.length
  obtain ⟨r, h1, h2, -⟩ := quo_unit (c := (bzF l l.length).1.toNat) (a := l.length) (by omega) (by omega) (by omega)
  rw [show (((bzF l l.length).1.toNat : Nat) : Int) = (bzF l l.length).1 by omega] at h1
  unfold bzR
  rw [h1]
  exact ⟨rfl, h2⟩
theorem busyF_le {l : List Ev} (h : l.length * 48 ≤ 140737488351280) : busyF l ≤ one64 := by
  unfold busyF
  split
  · decide
  · exact (bz_fb h (by omega)).2
attribute [-go_sem] run_fquo
set_option maxRecDepth 100000 in
theorem busy_b {w : World} {A : Option Addr} {cp : Nat} {l : List Ev} (hL : LiesV w (.slice A l.length cp) l) :
    Calls Try.prog 9 #[.slice A l.length cp] w fun x w' => x = .returned (.tuple #[.float .f64 (busyF l), .agg #[.int .i64 (odd l).1, .int .i64 (odd l).2]]) ∧ Below w.heap.size w w' := by
  have hlen := Lib.hid hL.len
  have hni : (l.length : Int) ≤ 9223372036854775807 := by have := hlen.out; omega
  have B0 := Lib.hid (Blk.new w 30 #[.int .i64 0, .int .i64 0])
  have bel0 : Hid (Below w.heap.size w (w.alloc (.cells #[.int .i64 0, .int .i64 0] 30))) := Lib.hid ((Below.refl _ _).alloc (Nat.le_refl _) _)
  have C := Lib.hid (check_b (hL.below bel0.out (Nat.le_refl _)))
  replace hL := Lib.hid hL
  have HR := Lib.hid (show busyF l = if (odd l).2 ≠ 0 ∨ l.length = 0 then 0 else bzR l from rfl)
  obtain ⟨q1, q2, hq⟩ : ∃ q1 q2, odd l = (q1, q2) := ⟨_, _, rfl⟩
  rw [hq] at C HR ⊢
  dsimp only at HR ⊢
  clear hq
  go_enter Try.func9, Try.ntmps9
  go_wp2_with fail
  refine C.out.mono ?_
  rintro e w1 ⟨rfl, hb1⟩
  dsimp only
  have B1 := B0.out.below hb1 B0.out.lt
  have bel1 := bel0.out.trans (hb1.mono (by simp))
  have B2 := B1.alloc (.cells #[.int .i64 q1, .int .i64 q2] 30)
  have hsz1 : w.heap.size ≤ w1.heap.size := bel1.size
  have hne : w.heap.size ≠ w1.heap.size := Nat.ne_of_lt B1.lt
  have HW := Lib.hid (bel1.alloc hsz1 (.cells #[.int .i64 q1, .int .i64 q2] 30))
  have D2 := Lib.hid (Blk.new w1 30 #[.int .i64 q1, .int .i64 q2])
  replace B2 := Lib.hid B2
  clear bel1 hb1 bel0 C B1 B0
  by_cases hz : q2 ≠ 0 ∨ l.length = 0
  · have HR2 := HR.out
    rw [if_pos hz] at HR2
    replace HR2 := Lib.hid HR2
    have b0 := B2.out.cell 0
    have b1 := B2.out.cell 1
    have f0 := B2.out.frozen 0
    have f1 := B2.out.frozen 1
    simp only [List.getElem?_toArray, List.getElem?_cons_zero, List.getElem?_cons_succ] at b0 b1
    clear HR
    by_cases hq2 : q2 = 0
    · have hln : (l.length : Int) = 0 := by have := hz.resolve_left (fun h => h hq2); omega
      have hqa : (q2 == 0) = true := by simp [hq2]
      have hqb : (q2 != 0) = false := by simp [hq2]
      clear hz hq2
      go_wp2
      refine wp_region_mixH (fun _ => True) [1, 3, 2] (List.range 3) (by kernel_rfl) (by kernel_rfl) (fun _ _ h => h) trivial ?_
      repeat ((first | refine wpMixH_pure rfl rfl (fun K hK => ?_) | refine wpMixH_loc rfl rfl (fun K hK => ?_) | refine wpMixH_any rfl rfl (fun K hK => ?_)); go_simp; refine hK _ _ ?_; clear hK K)
      refine wpMixH_loud rfl rfl (fun n1 K hK => ?_)
      go_wp2
      refine hK _ _ (fun _ => trivial) ?_; clear hK K
      refine wpMixH_nil (fun n2 => ?_)
      go_wp2
      refine bodyPost_ret (v := .tuple #[.float .f64 0, .agg #[.int .i64 q1, .int .i64 q2]]) (by simp [results, Try.results9, go_sem, b0, b1, f0, f1]) rfl ⟨by rw [HR2.out], ?_⟩
      (repeat (first | with_reducible exact (HW).out | (with_reducible refine below_drewNs ?_ _) | (with_reducible refine Below.setCell ?_ ?_ _; rotate_left; focus (first | (with_reducible exact Nat.le_refl _) | (have hsz_ := (HW).out.size; simp only; omega))) | (with_reducible refine Below.alloc ?_ ?_ _; rotate_left; focus (first | (with_reducible exact (HW).out.size) | (have hsz_ := (HW).out.size; simp; omega)))))
    · have hqa : (q2 == 0) = false := by simp [hq2]
      have hqb : (q2 != 0) = true := by simp [hq2]
      clear hz
      go_wp2
      refine wp_region_mixH (fun _ => True) [1, 3, 2] (List.range 3) (by kernel_rfl) (by kernel_rfl) (fun _ _ h => h) trivial ?_
      repeat ((first | refine wpMixH_pure rfl rfl (fun K hK => ?_) | refine wpMixH_loc rfl rfl (fun K hK => ?_) | refine wpMixH_any rfl rfl (fun K hK => ?_)); go_simp; refine hK _ _ ?_; clear hK K)
      refine wpMixH_loud rfl rfl (fun n1 K hK => ?_)
      go_wp2
      refine hK _ _ (fun _ => trivial) ?_; clear hK K
      refine wpMixH_nil (fun n2 => ?_)
      go_wp2
      refine bodyPost_ret (v := .tuple #[.float .f64 0, .agg #[.int .i64 q1, .int .i64 q2]]) (by simp [results, Try.results9, go_sem, b0, b1, f0, f1]) rfl ⟨by rw [HR2.out], ?_⟩
      (repeat (first | with_reducible exact (HW).out | (with_reducible refine below_drewNs ?_ _) | (with_reducible refine Below.setCell ?_ ?_ _; rotate_left; focus (first | (with_reducible exact Nat.le_refl _) | (have hsz_ := (HW).out.size; simp only; omega))) | (with_reducible refine Below.alloc ?_ ?_ _; rotate_left; focus (first | (with_reducible exact (HW).out.size) | (have hsz_ := (HW).out.size; simp; omega)))))
  · have hqz : q2 = 0 := Decidable.byContradiction fun h => hz (.inl h)
    have hl0 : l.length ≠ 0 := fun h => hz (.inr h)
    have HR2 := HR.out
    rw [if_neg hz] at HR2
    replace HR2 := Lib.hid HR2
    subst hqz
    clear HR hz
    have HF := Lib.hid (bz_fb hlen.out hl0)
    have hln : ((l.length : Int) == 0) = false := beq_eq_false_iff_ne.2 (by omega)
    have d1 := D2.out.cell 1
    simp only [List.getElem?_toArray, List.getElem?_cons_zero, List.getElem?_cons_succ] at d1
    go_upto_region 4 with (fail)
    generalize w1.alloc (.cells #[.int .i64 q1, .int .i64 0] 30) = w2 at *
    generalize w1.heap.size = b4 at *
    clear d1
    go_wp2_with fail
    go_loopg [5, 6, 22] l.length (fun gk c5 c6 c22 wr => ∃ (k : Nat), gk + k = l.length ∧ c5 = .int .i64 (bzF l k).1 ∧ c6 = .int .i64 (bzF l k).2 ∧ c22 = .int .i64 (k : Int) ∧ Hid (Below w.heap.size w wr) ∧ Hid (Blk wr w.heap.size 30 #[.int .i64 0, .int .i64 0]) ∧ Hid (Blk wr b4 30 #[.int .i64 q1, .int .i64 0]))
    case atStart => exact ⟨0, rfl, rfl, rfl, rfl, HW, B2, D2⟩
    case round =>
      obtain ⟨k, hgk, rfl, rfl, rfl, HWr, HB, HD⟩ := hrel
      have HG := Lib.hid hgk
      clear hgk HW B2 D2
      by_cases hk : k < l.length
      · obtain ⟨g, rfl⟩ : ∃ g, gk = g + 1 := ⟨gk - 1, by have := HG.out; omega⟩
        obtain ⟨-, gz, oz, rfl, -, d0, d1, d2, d3, d4, d5⟩ := (hL.out.below HWr.out (Nat.le_refl _)).ev hk
        have hki : (k : Int) < l.length := by omega
        have hT := Lib.hid (show bzF l (k + 1) = bzStep (bzF l k) (evAt l k) from rfl)
        have hbd := bzF_bd l k
        obtain ⟨n, h, hnh⟩ : ∃ n h, bzF l k = (n, h) := ⟨_, _, rfl⟩
        rw [hnh] at hT hbd ⊢
        dsimp only at hbd ⊢
        have hn0 : 0 ≤ n := hbd.1
        have hn1 : n + 1 ≤ 9223372036854775807 := by omega
        clear hbd hnh
        generalize evAt l k = e at *
        obtain ⟨th, kd, ad, wd, ow, er⟩ := e
        dsimp only [bzStep, bzH] at *
        have HW2 := Lib.hid (HWr.out.alloc HWr.out.size (.cells #[.int .i64 th, .int .i64 kd, .int .u64 ad, .int .u64 wd, .bool ow, .int .i64 er] 27))
        have HB2 := Lib.hid (HB.out.alloc (.cells #[.int .i64 th, .int .i64 kd, .int .u64 ad, .int .u64 wd, .bool ow, .int .i64 er] 27))
        have HD2 := Lib.hid (HD.out.alloc (.cells #[.int .i64 th, .int .i64 kd, .int .u64 ad, .int .u64 wd, .bool ow, .int .i64 er] 27))
        clear HWr HB HD
        by_cases h5 : kd = 5
        · have k5 : (kd == 5) = true := by simp [h5]
          have k6 : (kd == 6) = false := by simp [h5]
          by_cases hh : 0 ≤ th
          · have hT2 := Lib.hid (show bzF l (k + 1) = (n + 1, th) by rw [hT.out]; simp [h5, hh])
            clear hT h5
            go_wp2
            go_roundg g
            case measure => omega
            case rel => exact ⟨k + 1, by have := HG.out; omega, by rw [hT2.out], by rw [hT2.out], by go_num, HW2, HB2, HD2⟩
          · have hT2 := Lib.hid (show bzF l (k + 1) = (n, th) by rw [hT.out]; simp [h5, hh])
            clear hT h5
            go_wp2
            go_roundg g
            case measure => omega
            case rel => exact ⟨k + 1, by have := HG.out; omega, by rw [hT2.out], by rw [hT2.out], by go_num, HW2, HB2, HD2⟩
        · have k5 : (kd == 5) = false := by simp [h5]
          by_cases h6 : kd = 6
          · have k6 : (kd == 6) = true := by simp [h6]
            by_cases ht : h = th
            · have kt : (h == th) = true := by simp [ht]
              by_cases hh : 0 ≤ h
              · have hT2 := Lib.hid (show bzF l (k + 1) = (n + 1, -1) by rw [hT.out]; simp [h5, hh, h6, ht]; omega)
                clear hT h5 h6 ht
                go_wp2
                go_roundg g
                case measure => omega
                case rel => exact ⟨k + 1, by have := HG.out; omega, by rw [hT2.out], by rw [hT2.out], by go_num, HW2, HB2, HD2⟩
              · have hT2 := Lib.hid (show bzF l (k + 1) = (n, -1) by rw [hT.out]; simp [h5, hh, h6, ht]; omega)
                clear hT h5 h6 ht
                go_wp2
                go_roundg g
                case measure => omega
                case rel => exact ⟨k + 1, by have := HG.out; omega, by rw [hT2.out], by rw [hT2.out], by go_num, HW2, HB2, HD2⟩
            · have kt : (h == th) = false := by simp [ht]
              by_cases hh : 0 ≤ h
              · have hT2 := Lib.hid (show bzF l (k + 1) = (n + 1, h) by rw [hT.out]; simp [h5, hh, h6, ht])
                clear hT h5 h6
                go_wp2
                go_roundg g
                case measure => omega
                case rel => exact ⟨k + 1, by have := HG.out; omega, by rw [hT2.out], by rw [hT2.out], by go_num, HW2, HB2, HD2⟩
              · have hT2 := Lib.hid (show bzF l (k + 1) = (n, h) by rw [hT.out]; simp [h5, hh, h6, ht])
                clear hT h5 h6
                go_wp2
                go_roundg g
                case measure => omega
                case rel => exact ⟨k + 1, by have := HG.out; omega, by rw [hT2.out], by rw [hT2.out], by go_num, HW2, HB2, HD2⟩
          · have k6 : (kd == 6) = false := by simp [h6]
            by_cases hh : 0 ≤ h
            · have hT2 := Lib.hid (show bzF l (k + 1) = (n + 1, h) by rw [hT.out]; simp [h5, hh, h6])
              clear hT h5 h6
              go_wp2
              go_roundg g
              case measure => omega
              case rel => exact ⟨k + 1, by have := HG.out; omega, by rw [hT2.out], by rw [hT2.out], by go_num, HW2, HB2, HD2⟩
            · have hT2 := Lib.hid (show bzF l (k + 1) = (n, h) by rw [hT.out]; simp [h5, hh, h6])
              clear hT h5 h6
              go_wp2
              go_roundg g
              case measure => omega
              case rel => exact ⟨k + 1, by have := HG.out; omega, by rw [hT2.out], by rw [hT2.out], by go_num, HW2, HB2, HD2⟩
      · obtain rfl : k = l.length := by have := HG.out; omega
        clear hk
        have b0 := HB.out.cell 0
        have b1 := HB.out.cell 1
        have f0 := HB.out.frozen 0
        have f1 := HB.out.frozen 1
        have d0 := HD.out.cell 0
        have d1 := HD.out.cell 1
        simp only [List.getElem?_toArray, List.getElem?_cons_zero, List.getElem?_cons_succ] at b0 b1 d0 d1
        have hfq : ∀ W, (binOp .quo 36 (.float .f64 (floatOfInt .f64 (bzF l l.length).1)) (.float .f64 (floatOfInt .f64 (l.length : Int)))).run Try.prog W = .ok (.float .f64 (bzR l)) W := fun W => run_float_arith (P := Try.prog) W .quo 36 .f64 _ _ _ HF.out.1
        generalize bzR l = r at *
        go_wp2
        refine wp_region_mixH (fun _ => True) [3, 3, 3, 3, 3, 3, 1, 3, 2] (List.range 9) (by kernel_rfl) (by kernel_rfl) (fun _ _ h => h) trivial ?_
        repeat ((first | refine wpMixH_pure rfl rfl (fun K hK => ?_) | refine wpMixH_loc rfl rfl (fun K hK => ?_) | refine wpMixH_any rfl rfl (fun K hK => ?_)); go_simp; refine hK _ _ ?_; clear hK K)
        refine wpMixH_loud rfl rfl (fun n1 K hK => ?_)
        go_wp2
        refine hK _ _ (fun _ => trivial) ?_; clear hK K
        refine wpMixH_nil (fun n2 => ?_)
        go_wp2
        refine bodyPost_ret (v := .tuple #[.float .f64 r, .agg #[.int .i64 q1, .int .i64 0]]) (by simp [results, Try.results9, go_sem, b0, b1, f0, f1]) rfl ⟨by rw [HR2.out], ?_⟩
        (repeat (first | with_reducible exact (HWr).out | (with_reducible refine below_drewNs ?_ _) | (with_reducible refine Below.setCell ?_ ?_ _; rotate_left; focus (first | (with_reducible exact Nat.le_refl _) | (have hsz_ := (HWr).out.size; simp only; omega))) | (with_reducible refine Below.alloc ?_ ?_ _; rotate_left; focus (first | (with_reducible exact (HWr).out.size) | (have hsz_ := (HWr).out.size; simp; omega)))))
end Go.Proofs.Yteoebfjhadmnbaa
/- StatsCounts, plain: the shares' numbers add up to the events; a share's rate. -/
namespace Go.Proofs.Yteoebfjhadmnbaa
open Go.RowKit
set_option linter.unusedVariables false
set_option linter.unusedSimpArgs false
def kept (e : Ev) : Bool := e.kd != 5 && e.kd != 10 && e.kd != 11 && e.kd != 12 && !e.ow
def EvK (e : Ev) : Prop := (0 ≤ e.th ∧ e.th < 8) ∧ (1 ≤ e.kd ∧ e.kd ≤ 12) ∧ (e.kd ≠ 2 → e.ow = false)
theorem evK_ok {l : List Ev} (hok : okTo l l.length) : ∀ i, i < l.length → EvK (evAt l i) := fun i hi => by
  obtain ⟨hf, _⟩ := wrong_zero (hok i hi)
  obtain ⟨h0, h1, h2⟩ := fmd_bd hf
  refine ⟨h0, ⟨h1, h2⟩, fun h => ?_⟩
  unfold fmd at hf
  simp only [Bool.and_eq_true, Bool.or_eq_true, beq_iff_eq, Bool.not_eq_true'] at hf
  exact hf.1.1.2.resolve_left h
def anSum (a : An) : Int := a.n 1 + a.n 6 + a.n 7 + a.n 8 + a.n 9 + a.n 4 + a.re + a.n 3
theorem an_step {e : Ev} (h : EvK e) (a : An) : anSum (anStep a e) = anSum a + (if kept e then 1 else 0) ∧ (anStep a e).n 6 = a.n 6 + (if e.kd == 6 then 1 else 0) := by
  obtain ⟨th, kd, ad, wd, ow, er⟩ := e
  obtain ⟨-, ⟨h1, h2⟩, h3⟩ := h
  simp only at h1 h2 h3
  have : kd = 1 ∨ kd = 2 ∨ kd = 3 ∨ kd = 4 ∨ kd = 5 ∨ kd = 6 ∨ kd = 7 ∨ kd = 8 ∨ kd = 9 ∨ kd = 10 ∨ kd = 11 ∨ kd = 12 := by omega
  rcases this with rfl | rfl | rfl | rfl | rfl | rfl | rfl | rfl | rfl | rfl | rfl | rfl
  case inr.inl => cases ow <;> simp [anSum, anStep, kept] <;> omega
  all_goals
    obtain rfl : ow = false := h3 (by decide)
    simp [anSum, anStep, kept] <;> omega
theorem fold_an : ∀ (es : List Ev) (a : An), (∀ e ∈ es, EvK e) → anSum (es.foldl anStep a) = anSum a + (es.countP kept : Nat) ∧ (es.foldl anStep a).n 6 = a.n 6 + (es.countP (fun e => e.kd == 6) : Nat)
  | [], a, _ => by simp
  | e :: es, a, h => by
    obtain ⟨h1, h2⟩ := fold_an es (anStep a e) fun x hx => h x (List.mem_cons_of_mem _ hx)
    obtain ⟨h3, h4⟩ := an_step (h e List.mem_cons_self) a
    rw [List.foldl_cons, h1, h2, h3, h4, List.countP_cons, List.countP_cons]
    constructor <;> split <;> simp_all <;> omega
theorem fold_al : ∀ (es : List Ev) (a : An), 0 ≤ a.al → a.al ≤ a.n 6 → 0 ≤ (es.foldl anStep a).al ∧ (es.foldl anStep a).al ≤ (es.foldl anStep a).n 6
  | [], a, h0, h => ⟨h0, h⟩
  | e :: es, a, h0, h => by
    rw [List.foldl_cons]
    refine fold_al es _ ?_ ?_
    · simp only [anStep]; split <;> omega
    · by_cases h6 : e.kd = 6
      · simp only [anStep, h6]
        simp
        split <;> omega
      · have h7 : ¬ 6 = e.kd.toNat := by omega
        simp only [anStep, h6, h7, false_and, if_false]
        exact h
theorem mem_ofN {l : List Ev} {t : Int} {e : Ev} (h : e ∈ ofN l t l.length) : ∃ i, i < l.length ∧ e = evAt l i := by
  obtain ⟨h1, -⟩ := List.mem_filter.1 h
  obtain ⟨i, hi, rfl⟩ := List.mem_map.1 h1
  exact ⟨i, List.mem_range.1 hi, rfl⟩
theorem evs_all (l : List Ev) : (List.range l.length).map (evAt l) = l := by
  refine List.ext_getElem (by simp) fun i h1 h2 => ?_
  simp [evAt, List.getD_eq_getElem?_getD, h2]
theorem ofN_all (l : List Ev) (t : Int) : ofN l t l.length = l.filter (fun e => e.th == t) := by unfold ofN; rw [evs_all]
theorem an_ofN {l : List Ev} (hok : okTo l l.length) (t : Int) : anSum (anT l t) = ((ofN l t l.length).countP kept : Nat) ∧ (anT l t).n 6 = ((ofN l t l.length).countP (fun e => e.kd == 6) : Nat) ∧ 0 ≤ (anT l t).al ∧ (anT l t).al ≤ (anT l t).n 6 := by
  unfold anT anF
  rw [List.take_length]
  have h : ∀ e ∈ ofN l t l.length, EvK e := fun e he => by obtain ⟨i, hi, rfl⟩ := mem_ofN he; exact evK_ok hok i hi
  obtain ⟨h1, h2⟩ := fold_an _ an0 h
  obtain ⟨h3, h4⟩ := fold_al (ofN l t l.length) an0 (by simp [an0]) (by simp [an0])
  exact ⟨by rw [h1]; simp [anSum, an0], by rw [h2]; simp [an0], h3, h4⟩
/-- counting by threads -/
def upTo (p : Ev → Bool) (l : List Ev) : Nat → Nat
  | 0 => 0
  | t + 1 => upTo p l t + (l.filter (fun e => e.th == (t : Int))).countP p
theorem upTo_eq (p : Ev → Bool) (l : List Ev) (h : ∀ e ∈ l, 0 ≤ e.th) : ∀ T : Nat, upTo p l T = l.countP (fun e => p e && decide (e.th < T))
  | 0 => by
    unfold upTo
    symm
    rw [List.countP_eq_zero]
    intro e he
    have := h e he
    simp; intro _; omega
  | T + 1 => by
    unfold upTo
    rw [upTo_eq p l h T, List.countP_filter]
    clear h
    induction l with
    | nil => rfl
    | cons e es ih =>
      have h3 : ((T + 1 : Nat) : Int) = (T : Int) + 1 := by omega
      simp only [List.countP_cons]
      have key : (if (p e && decide (e.th < (T : Int))) = true then 1 else 0) + (if (p e && (e.th == (T : Int))) = true then 1 else 0) = (if (p e && decide (e.th < ((T + 1 : Nat) : Int))) = true then 1 else 0) := by
        rw [h3]
        cases p e
        · simp
        · by_cases h1 : e.th < T
          · have h2 : ¬ e.th = T := by omega
            have h4 : e.th < (T : Int) + 1 := by omega
            simp only [h1, h2, h4, Bool.true_and, decide_true, beq_iff_eq, if_true, if_false]
          · by_cases h2 : e.th = T
            · have h4 : e.th < (T : Int) + 1 := by omega
              simp only [h1, h4, Bool.true_and, decide_true, decide_false, beq_iff_eq, h2, if_true, Bool.false_eq_true, if_false]
              simp; omega
            · have h4 : ¬ e.th < (T : Int) + 1 := by omega
              simp only [h1, h2, h4, Bool.true_and, decide_false, beq_iff_eq, Bool.false_eq_true, if_false]
      omega
def shN (s : Sh) : Int := s.be + s.co + s.st + s.ab + s.fa + s.mo + s.re + s.wr
def sumZ : List Int → Int
  | [] => 0
  | x :: xs => x + sumZ xs
theorem sumZ_append : ∀ a b : List Int, sumZ (a ++ b) = sumZ a + sumZ b
  | [], b => by simp [sumZ]
  | x :: xs, b => by simp [sumZ, sumZ_append xs b]; omega
/-- what a share is -/
structure ShOk (N : Nat) (s : Sh) : Prop where
  al : s.al ≤ s.co
  be : 0 ≤ s.be ∧ s.be ≤ N
  co : 0 ≤ s.co ∧ s.co ≤ N
  st : 0 ≤ s.st ∧ s.st ≤ N
  ab : 0 ≤ s.ab ∧ s.ab ≤ N
  fa : 0 ≤ s.fa ∧ s.fa ≤ N
  mo : 0 ≤ s.mo ∧ s.mo ≤ N
  re : 0 ≤ s.re ∧ s.re ≤ N
  wr : 0 ≤ s.wr ∧ s.wr ≤ N
  th : 0 ≤ s.th ∧ s.th < 2147483648
  ra : s.ra ≤ one64
theorem shl_sum {l : List Ev} (hok : okTo l l.length) (hlen : l.length * 48 ≤ 140737488351280) : ∀ (T : Nat) (ss : List Sh), T ≤ 2147483648 → ShL l T ss →
    sumZ (ss.map shN) = (upTo kept l T : Nat) ∧ sumZ (ss.map (·.co)) = (upTo (fun e => e.kd == 6) l T : Nat) ∧ (∀ s ∈ ss, ShOk l.length s ∧ s.th < T) ∧ ss.Pairwise (fun a b => a.th < b.th)
  | 0, ss, _, h => by
    obtain rfl : ss = [] := h
    simp [sumZ, upTo]
  | T + 1, ss, hT, h => by
    unfold ShL at h
    unfold upTo
    rw [← ofN_all]
    by_cases he : ofN l (T : Int) l.length = []
    · rw [if_pos he] at h
      obtain ⟨h1, h2, h3, h4⟩ := shl_sum hok hlen T ss (by omega) h
      rw [he]
      exact ⟨by rw [h1]; simp, by rw [h2]; simp, fun s hs => ⟨(h3 s hs).1, by have := (h3 s hs).2; omega⟩, h4⟩
    · rw [if_neg he] at h
      obtain ⟨ss0, r, g1, g2, g3, rfl⟩ := h
      obtain ⟨h1, h2, h3, h4⟩ := shl_sum hok hlen T ss0 (by omega) g1
      obtain ⟨a1, a2, a3, a4⟩ := an_ofN hok (T : Int)
      have hb : AnOk l.length (anT l (T : Int)) := by
        have hk := anOk_F (es := ofN l (T : Int) l.length) _ (Nat.le_refl _)
        have hle : (ofN l (T : Int) l.length).length ≤ l.length := by rw [ofN_all]; exact List.length_filter_le _ _
        exact ⟨fun j => by have := hk.n j; unfold anT; omega, by have := hk.al; unfold anT; omega, by have := hk.re; unfold anT; omega⟩
      have hra : r ≤ one64 := by
        unfold rateC at g2
        have b6 := hb.n 6
        have b7 := hb.n 7
        generalize (anT l (T : Int)).n 6 = c at *
        generalize (anT l (T : Int)).n 7 = s at *
        have hcl : ∀ x, cl r = some x → r = x := fun x hx => by
          unfold cl at hx
          split at hx
          · cases hx
          · injection hx
        by_cases hp : 0 < c + s
        · rw [if_pos hp] at g2
          obtain ⟨q, q1, q2, q3⟩ := quo_unit (c := c.toNat) (a := (c + s).toNat) (by omega) (by omega) (by omega)
          rw [show ((c.toNat : Nat) : Int) = c by omega, show (((c + s).toNat : Nat) : Int) = c + s by omega] at q3
          rw [q3] at g2
          rw [hcl _ g2]
          exact q2
        · rw [if_neg hp] at g2
          rw [hcl _ g2]
          decide
      refine ⟨?_, ?_, ?_, ?_⟩
      · rw [List.map_append, sumZ_append, h1]
        have : sumZ [shN (shOf (T : Int) (anT l (T : Int)) r)] = anSum (anT l (T : Int)) := by simp [sumZ, shN, shOf, anSum]
        simp only [List.map_cons, List.map_nil]
        rw [this, a1]
        omega
      · rw [List.map_append, sumZ_append, h2]
        have : sumZ [(shOf (T : Int) (anT l (T : Int)) r).co] = (anT l (T : Int)).n 6 := by simp [sumZ, shOf]
        simp only [List.map_cons, List.map_nil]
        rw [this, a2]
        omega
      · intro s hs
        rcases List.mem_append.1 hs with h | h
        · exact ⟨(h3 s h).1, by have := (h3 s h).2; omega⟩
        · obtain rfl : s = shOf (T : Int) (anT l (T : Int)) r := by simpa using h
          exact ⟨⟨a4, hb.n _, hb.n _, hb.n _, hb.n _, hb.n _, hb.n _, hb.re, hb.n _, by simp only [shOf]; omega, hra⟩, by simp only [shOf]; omega⟩
      · rw [List.pairwise_append]
        refine ⟨h4, by simp, fun a ha b hb' => ?_⟩
        obtain rfl : b = shOf (T : Int) (anT l (T : Int)) r := by simpa using hb'
        have := (h3 a ha).2
        simp only [shOf]
        omega
theorem thr_gt {l : List Ev} (h : ∀ i, i < l.length → EvK (evAt l i)) : ∀ k, k ≤ l.length → ∀ i, i < k → (evAt l i).th < thrF l k
  | 0, _, i, hi => by omega
  | k + 1, hk, i, hi => by
    have hb := (h k (by omega)).1
    have ih := thr_gt h k (by omega)
    unfold thrF
    rw [if_pos (by omega)]
    by_cases hik : i = k
    · subst hik; omega
    · have := ih i (by omega); omega
/-- what StatsCounts asks of the shares -/
theorem shares_law {l : List Ev} (hok : okTo l l.length) (hlen : l.length * 48 ≤ 140737488351280) {ss : List Sh} (h : ShL l (thrF l l.length).toNat ss) :
    sumZ (ss.map shN) = (l.countP kept : Nat) ∧ sumZ (ss.map (·.co)) = ((commF l l.length).length : Nat) ∧ (∀ s ∈ ss, ShOk l.length s) ∧ ss.Pairwise (fun a b => a.th < b.th) := by
  have hb := thrF_bd l l.length
  obtain ⟨h1, h2, h3, h4⟩ := shl_sum hok hlen _ ss (by omega) h
  have hk := evK_ok hok
  have hm : ∀ e ∈ l, ∃ i, i < l.length ∧ e = evAt l i := fun e he => by
    rw [← evs_all l] at he
    obtain ⟨i, hi, rfl⟩ := List.mem_map.1 he
    exact ⟨i, List.mem_range.1 hi, rfl⟩
  have hth : ∀ e ∈ l, 0 ≤ e.th := fun e he => by obtain ⟨i, hi, rfl⟩ := hm e he; exact (hk i hi).1.1
  have hup : ∀ p : Ev → Bool, upTo p l (thrF l l.length).toNat = l.countP p := fun p => by
    rw [upTo_eq p l hth]
    refine List.countP_congr fun e he => ?_
    obtain ⟨i, hi, rfl⟩ := hm e he
    have := thr_gt hk l.length (Nat.le_refl _) i hi
    have h2 : (evAt l i).th < ((thrF l l.length).toNat : Int) := by omega
    simp only [h2, decide_true, Bool.and_true]
  refine ⟨by rw [h1, hup], ?_, fun s hs => (h3 s hs).1, h4⟩
  rw [h2, hup]
  unfold commF
  rw [List.length_map]
  conv => lhs; rw [← evs_all l]
  rw [List.countP_map, List.countP_eq_length_filter]
  rfl
end Go.Proofs.Yteoebfjhadmnbaa
/- StatsCounts, plain: each wait is two at least. -/
namespace Go.Proofs.Yteoebfjhadmnbaa
open Go.RowKit
set_option linter.unusedVariables false
set_option linter.unusedSimpArgs false
theorem firsts_modify (ts : List Tr) (i n : Nat) (e : Ev) : (ts.modify i (fun x => updT x n e)).map (·.first) = ts.map (·.first) := by
  refine List.ext_getElem (by simp) fun j h1 h2 => ?_
  simp only [List.getElem_map, List.getElem_modify]
  split <;> rfl
theorem tries_first (l : List Ev) : ∀ n, ((rn l n).tries.map (·.first)).Pairwise (· < ·) ∧ ∀ x ∈ (rn l n).tries, x.first < n ∧ (x.how = 6 → x.first < x.last)
  | 0 => by simp [rn, St.zero]
  | n + 1 => by
    obtain ⟨h1, h2⟩ := tries_first l n
    have k1 : ((if (evAt l n).kd = 1 then (rn l n).tries ++ [Tr.new (evAt l n).th n] else (rn l n).tries).map (·.first)).Pairwise (· < ·) := by
      split
      · rw [List.map_append, List.pairwise_append]
        refine ⟨h1, by simp, fun a ha b hb => ?_⟩
        obtain ⟨x, hx, rfl⟩ := List.mem_map.1 ha
        obtain rfl : b = n := by simpa [Tr.new] using hb
        exact (h2 x hx).1
      · exact h1
    have k2 : ∀ x ∈ (if (evAt l n).kd = 1 then (rn l n).tries ++ [Tr.new (evAt l n).th n] else (rn l n).tries), (x.first < n ∧ (x.how = 6 → x.first < x.last)) ∨ ((evAt l n).kd = 1 ∧ x.first = n ∧ x.how = 0) := fun x hx => by
      split at hx
      · rcases List.mem_append.1 hx with h | h
        · exact .inl (h2 x h)
        · obtain rfl : x = Tr.new (evAt l n).th n := by simpa using h
          exact .inr ⟨by assumption, rfl, rfl⟩
      · exact .inl (h2 x hx)
    simp only [rn, take]
    split
    · refine ⟨by rw [firsts_modify]; exact k1, fun x hx => ?_⟩
      rcases mem_modify hx with h | ⟨y, hy, rfl⟩
      · rcases k2 x h with ⟨a, b⟩ | ⟨a, b, c⟩
        · exact ⟨by omega, b⟩
        · exact ⟨by omega, fun h => by rw [c] at h; cases h⟩
      · rcases k2 y hy with ⟨a, b⟩ | ⟨a, b, c⟩
        · exact ⟨by simp only [updT]; omega, fun _ => by simp only [updT]; omega⟩
        · refine ⟨by simp only [updT]; omega, fun h => ?_⟩
          simp only [updT, a, c] at h
          simp at h
    · refine ⟨k1, fun x hx => ?_⟩
      rcases k2 x hx with ⟨a, b⟩ | ⟨a, b, c⟩
      · exact ⟨by omega, b⟩
      · exact ⟨by omega, fun h => by rw [c] at h; cases h⟩
theorem wt_inv {ts : List Tr} (hp : (ts.map (·.first)).Pairwise (· < ·)) (h6 : ∀ x ∈ ts, x.how = 6 → x.first < x.last) : ∀ k, k ≤ ts.length →
    (∀ j i, k ≤ i → ∀ hi : i < ts.length, (wtF ts k).fr j ≤ ts[i].first) ∧ (∀ a v, (wtF ts k).st a = some v → v < a)
  | 0, _ => ⟨fun j i _ hi => by simp [wtF, ws0], fun a v h => by simp [wtF, ws0] at h⟩
  | k + 1, hk => by
    obtain ⟨h1, h2⟩ := wt_inv hp h6 k (by omega)
    rw [wtF_one (by omega)]
    have hlt : ∀ i, k + 1 ≤ i → ∀ hi : i < ts.length, ts[k].first < ts[i].first := fun i hki hi => by
      have := List.pairwise_iff_getElem.1 hp k i (by simp; omega) (by simp; omega) (by omega)
      simpa using this
    have f1 : ∀ j, wtF1 (wtF ts k) ts[k] j ≤ ts[k].first := fun j => by
      have := h1 j k (Nat.le_refl _) (by omega)
      unfold wtF1
      split
      · dsimp only
        split <;> omega
      · exact this
    constructor
    · intro j i hki hi
      have a := f1 j
      have b := hlt i hki hi
      simp only [wtStep]
      split
      · dsimp only
        split <;> omega
      · omega
    · intro a v hv
      simp only [wtStep] at hv
      split at hv
      · rename_i hh
        dsimp only at hv
        split at hv
        · rename_i ha
          injection hv with hv
          have := f1 ts[k].th.toNat
          have := h6 _ (List.getElem_mem (by omega : k < ts.length)) hh
          omega
        · exact h2 a v hv
      · exact h2 a v hv
theorem waits_two {l : List Ev} (hok : okTo l l.length) : ∀ x ∈ waitsF l, 2 ≤ x := fun x hx => by
  unfold waitsF at hx
  obtain ⟨a, ha, rfl⟩ := List.mem_map.1 hx
  unfold commF at ha
  obtain ⟨i, hi, rfl⟩ := List.mem_map.1 ha
  obtain ⟨hi1, hi2⟩ := List.mem_filter.1 hi
  have hil := List.mem_range.1 hi1
  have hk : (evAt l i).kd = 6 := by simpa using hi2
  obtain ⟨t1, t2⟩ := tries_first l l.length
  obtain ⟨-, h2⟩ := wt_inv t1 (fun x hx => (t2 x hx).2) _ (Nat.le_refl _)
  unfold waitAt
  cases hs : (wtF (rn l l.length).tries (rn l l.length).tries.length).st (i : Int) with
  | some v =>
    have := h2 _ _ hs
    simp only [Option.getD_some]
    omega
  | none =>
    simp only [Option.getD_none]
    have : i ≠ 0 := fun h0 => by
      subst h0
      obtain ⟨-, hw, -⟩ := wrong_zero (hok 0 hil)
      refine hw ?_
      rw [hk]
      rfl
    omega
theorem waits_len (l : List Ev) : (waitsF l).length = (commF l l.length).length := by unfold waitsF; rw [List.length_map]
end Go.Proofs.Yteoebfjhadmnbaa
