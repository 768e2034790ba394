/- The nearest double of a whole number: the program's and the document's, by one contract. -/
import Derived.Test.YtconppelbjjkjaaWordWhole
import Derived.Test.YtconppelbjjkjaaFloat3
namespace Go.Proofs.Ytconppelbjjkjaa
open Go.RowKit
set_option maxHeartbeats 400000

@[go_sem] theorem unary_neg_float (k : FloatKind) (b : Nat) : Op.unary .neg (.float k b) = pure (.float k (Op.negFloat k b)) := rfl

theorem conv_in (n : Int) : ∀ w, (convert 2 23 (.int .i64 n)).run Try.prog w = .ok (.float .f64 (ofNum n)) w := by
  intro w
  exact run_convert_int_float (P := Try.prog) w 2 23 .i64 .f64 n (by kernel_rfl) Try.underlying23
theorem conv_un (n : Int) : ∀ w, (convert 22 23 (.int .u64 n)).run Try.prog w = .ok (.float .f64 (ofNum n)) w := by
  intro w
  exact run_convert_int_float (P := Try.prog) w 22 23 .u64 .f64 n (by kernel_rfl) Try.underlying23

theorem nearest_any (x : Int) (h1 : -9223372036854775808 ≤ x) (h2 : x ≤ 9223372036854775807) (w : World) :
    Calls Try.prog 44 #[.int .i64 x] w fun e w' => e = .returned (.tuple #[.float .f64 (ofNum x), .bool (nearIs x)]) ∧ Still w w' := by
  obtain ⟨n1, n2, n3, n4⟩ := near_law x h1 h2
  have hcv := conv_in x
  cases hi : wholeIs (ofNum x) with
  | false =>
    have hr := Lib.hid (show false = nearIs x by rw [← n1, hi]; rfl)
    clear n1 n3 n4
    go_enter Try.func44, Try.ntmps44
    go_wp2_with fail
    refine (whole_any _ n2 _).mono ?_
    rintro e w1 ⟨rfl, hs⟩
    go_wp2_with fail
    go_ret2
    exact ⟨ret_fb rfl hr.out, hs⟩
  | true =>
    have hr := Lib.hid (show (wholeOf (ofNum x) == x) = nearIs x by rw [← n1, hi]; rfl)
    clear n1 n3 n4
    go_enter Try.func44, Try.ntmps44
    go_wp2_with fail
    refine (whole_any _ n2 _).mono ?_
    rintro e w1 ⟨rfl, hs⟩
    go_wp2_with fail
    go_ret2
    exact ⟨ret_fb rfl hr.out, hs⟩

/-- all that the document's way to the nearest asks of a word, its unit, its head -/
theorem unit_facts (n : Nat) (hn : n ≤ 9223372036854775808) :
    ∃ m q l u : Int, m = n ∧ u = ((2 ^ over n : Nat) : Int) ∧ 1 ≤ u ∧ u ≤ 2048 ∧ 0 ≤ q ∧ q < 9007199254740992 ∧ m / u = q ∧ q * u = l ∧ 0 ≤ l ∧ l ≤ m ∧ m - l < u ∧ l / u = q ∧ (l + u) / u = q + 1 ∧ ((m - l == 0) = decide (n % 2 ^ over n = 0)) ∧
      (kept n : Int) = (if u < (m - l) * 2 then q + 1 else if (m - l) * 2 = u ∧ q % 2 = 1 then q + 1 else q) := by
  have ho := over_le n (by omega)
  have hp := Nat.two_pow_pos (over n)
  have hu : 2 ^ over n ≤ 2048 := by
    calc 2 ^ over n ≤ 2 ^ 11 := Nat.pow_le_pow_right (by omega) ho
      _ = 2048 := rfl
  have hd := head_lt n
  have h1 := Nat.div_add_mod n (2 ^ over n)
  have h2 := Nat.mod_lt n hp
  have hk : kept n = if 2 ^ over n < 2 * (n % 2 ^ over n) then n / 2 ^ over n + 1 else if 2 * (n % 2 ^ over n) = 2 ^ over n ∧ n / 2 ^ over n % 2 = 1 then n / 2 ^ over n + 1 else n / 2 ^ over n := by
    unfold kept
    by_cases c1 : 2 ^ over n < 2 * (n % 2 ^ over n)
    · simp [c1]
    · by_cases c2 : 2 * (n % 2 ^ over n) = 2 ^ over n
      · by_cases c3 : n / 2 ^ over n % 2 = 1
        · simp [c2, c3]
        · simp [c2, c3]
      · have c2' : ¬ 2 ^ over n = 2 * (n % 2 ^ over n) := fun h => c2 h.symm
        simp [c1, c2, c2']
  rw [hk]
  generalize 2 ^ over n = u at *
  generalize hq : n / u = q at *
  generalize hr : n % u = r at *
  have hl : ((q : Int) * (u : Int)) = ((u * q : Nat) : Int) := by rw [Nat.mul_comm]; simp
  refine ⟨n, q, (u * q : Nat), u, rfl, rfl, by omega, by omega, by omega, by omega, ?_, hl, by omega, by omega, by omega, ?_, ?_, ?_, ?_⟩
  · rw [← Int.natCast_ediv, hq]
  · rw [← Int.natCast_ediv, Nat.mul_div_cancel_left _ hp]
  · have : ((u * q : Nat) : Int) + (u : Int) = ((u * (q + 1) : Nat) : Int) := by rw [Nat.mul_succ]; omega
    rw [this, ← Int.natCast_ediv, Nat.mul_div_cancel_left _ hp]; omega
  · rw [Bool.eq_iff_iff]; simp only [beq_iff_eq, decide_eq_true_eq]; omega
  · by_cases c1 : u < 2 * r
    · have t1 : (u : Int) < ((n : Int) - ((u * q : Nat) : Int)) * 2 := by omega
      rw [if_pos c1, if_pos t1]; omega
    · have t1 : ¬ (u : Int) < ((n : Int) - ((u * q : Nat) : Int)) * 2 := by omega
      rw [if_neg c1, if_neg t1]
      by_cases c2 : 2 * r = u ∧ q % 2 = 1
      · have t2 : ((n : Int) - ((u * q : Nat) : Int)) * 2 = u ∧ (q : Int) % 2 = 1 := by omega
        rw [if_pos c2, if_pos t2]; omega
      · have t2 : ¬ (((n : Int) - ((u * q : Nat) : Int)) * 2 = u ∧ (q : Int) % 2 = 1) := by omega
        rw [if_neg c2, if_neg t2]

theorem mul_run (a b p : Nat) (h : floatBits .mul .f64 a b = some p) : ∀ w, (binOp .mul 23 (.float .f64 a) (.float .f64 b)).run Try.prog w = .ok (.float .f64 p) w :=
  fun w => run_float_arith (P := Try.prog) w .mul 23 .f64 a b p h

theorem wrap_same (x : Int) (h0 : 0 ≤ x) (h1 : x ≤ 18446744073709551615) : IntKind.u64.wrap x = x := by rw [wrap_u64_mod]; omega

set_option maxHeartbeats 2000000 in
theorem nearest_ref_pos (x : Int) (h1 : -9223372036854775808 ≤ x) (h2 : x ≤ 9223372036854775807) (hx : ¬ x < 0) (w : World) :
    Calls Try.prog 45 #[.int .i64 x] w fun e w' => e = .returned (.tuple #[.float .f64 (ofNum x), .bool (nearIs x)]) ∧ w = w' := by
  obtain ⟨pp, hmul, hpos, hneg⟩ := halving x h1 h2
  obtain ⟨m, q, l, u, e1, e2, u1, u2, q1, q2, e3, e4, l1, l2, l3, e5, e6, e7, e8⟩ := unit_facts x.natAbs (by omega)
  have hres := Lib.hid (hpos hx)
  have hnear := Lib.hid e7
  have hm0 : 0 ≤ m := by omega
  have hm1 : m ≤ 9223372036854775808 := by omega
  have hin : IntKind.u64.wrap x = m := by rw [wrap_u64_mod]; omega
  rw [← e2] at hmul
  have f1 := Lib.hid e1
  have f2 := Lib.hid e2
  have w1 : m / u = q := e3
  have w2 : IntKind.u64.wrap (q * u) = l := by rw [e4]; exact wrap_same l l1 (by omega)
  have w3 : l / u = q := e5
  have w4 : (l + u) / u = q + 1 := e6
  have hover := Lib.hid (fun j => head_more x.natAbs j)
  clear hpos hneg h1 h2 e1 e2 e3 e4 e5 e6 e7
  go_enter Try.func45, Try.ntmps45
  go_wp2
  go_loop [6] (fun t => ∃ v : Int, 1 ≤ v ∧ v ≤ 2048 ∧ Hid (∃ j, j ≤ over x.natAbs ∧ v = ((2 ^ j : Nat) : Int)) ∧ t = .int .u64 v) (fun t => 4096 - (intOf t).toNat)
  case atStart => exact ⟨1, by omega, by omega, Lib.hid ⟨0, by omega, rfl⟩, rfl⟩
  case round =>
    obtain ⟨v, v1, v2, hv, rfl⟩ := hrel
    by_cases hc : v < u
    · have hd : decide ((9007199254740992 : Int) ≤ m / v) = true := by
        obtain ⟨j, hj, rfl⟩ := hv.out
        have hl : j < over x.natAbs := by
          by_cases hh : j = over x.natAbs
          · rw [hh, ← f2.out] at hc; omega
          · omega
        have := hover.out j hl
        rw [f1.out, ← Int.natCast_ediv]
        generalize x.natAbs / 2 ^ j = d at this ⊢
        exact decide_eq_true (by omega)
      have hv2 : Hid (∃ j, j ≤ over x.natAbs ∧ v * 2 = ((2 ^ j : Nat) : Int)) := by
        obtain ⟨j, hj, hvj⟩ := hv.out
        refine Lib.hid ⟨j + 1, ?_, by rw [Nat.pow_succ]; omega⟩
        by_cases hh : j = over x.natAbs
        · rw [hh, ← f2.out] at hvj; omega
        · omega
      have hv3 : v * 2 ≤ 2048 := by
        obtain ⟨j, hj, hvj⟩ := hv2.out
        have h11 : (2 : Nat) ^ j ≤ 2 ^ over x.natAbs := Nat.pow_le_pow_right (by omega) hj
        have := f2.out
        omega
      clear w1 w2 w3 w4
      go_wp2
      go_round
      case rel => exact ⟨v * 2, by omega, hv3, hv2, rfl⟩
      case measure => simp [intOf]; omega
    · have hvu : v = u := by
        obtain ⟨j, hj, hvj⟩ := hv.out
        have h11 : (2 : Nat) ^ j ≤ 2 ^ over x.natAbs := Nat.pow_le_pow_right (by omega) hj
        have := f2.out
        omega
      clear hc hv v1 v2
      subst hvu
      by_cases c1 : v < (m - l) * 2
      · rw [if_pos c1] at e8
        rw [e8] at hmul
        have hmr := mul_run _ _ _ hmul
        have k1 := conv_un (q + 1)
        have k2 := conv_un v
        clear e8 hmul
        go_wp2
        go_ret2
        exact ⟨ret_fb hres.out hnear.out, rfl⟩
      · rw [if_neg c1] at e8
        by_cases c2 : (m - l) * 2 = v
        · have b2 : ((m - l) * 2 == v) = true := by simpa using c2
          have c2' := Lib.hid c2
          by_cases c3 : q % 2 = 1
          · have b3 : (q % 2 == 1) = true := by simpa using c3
            rw [if_pos ⟨c2, c3⟩] at e8
            rw [e8] at hmul
            have hmr := mul_run _ _ _ hmul
            have k1 := conv_un (q + 1)
            have k2 := conv_un v
            clear e8 hmul c2 c3
            go_wp2
            go_ret2
            exact ⟨ret_fb hres.out hnear.out, rfl⟩
          · have b3 : (q % 2 == 1) = false := by simpa using c3
            rw [if_neg (fun h => c3 h.2)] at e8
            rw [e8] at hmul
            have hmr := mul_run _ _ _ hmul
            have k1 := conv_un q
            have k2 := conv_un v
            clear e8 hmul c2 c3
            go_wp2
            go_ret2
            exact ⟨ret_fb hres.out hnear.out, rfl⟩
        · have b2 : ((m - l) * 2 == v) = false := by simpa using c2
          rw [if_neg (fun h => c2 h.1)] at e8
          rw [e8] at hmul
          have hmr := mul_run _ _ _ hmul
          have k1 := conv_un q
          have k2 := conv_un v
          clear e8 hmul c2
          go_wp2
          go_ret2
          exact ⟨ret_fb hres.out hnear.out, rfl⟩

set_option maxHeartbeats 2000000 in
theorem nearest_ref_neg (x : Int) (h1 : -9223372036854775808 ≤ x) (h2 : x ≤ 9223372036854775807) (hx : x < 0) (w : World) :
    Calls Try.prog 45 #[.int .i64 x] w fun e w' => e = .returned (.tuple #[.float .f64 (ofNum x), .bool (nearIs x)]) ∧ w = w' := by
  obtain ⟨pp, hmul, hpos, hneg⟩ := halving x h1 h2
  obtain ⟨m, q, l, u, e1, e2, u1, u2, q1, q2, e3, e4, l1, l2, l3, e5, e6, e7, e8⟩ := unit_facts x.natAbs (by omega)
  have hres := Lib.hid (hneg hx)
  have hnear := Lib.hid e7
  have hm0 : 0 ≤ m := by omega
  have hm1 : m ≤ 9223372036854775808 := by omega
  have hin : IntKind.u64.wrap (-IntKind.u64.wrap x) = m := by rw [wrap_u64_mod, wrap_u64_mod]; omega
  rw [← e2] at hmul
  have f1 := Lib.hid e1
  have f2 := Lib.hid e2
  have w1 : m / u = q := e3
  have w2 : IntKind.u64.wrap (q * u) = l := by rw [e4]; exact wrap_same l l1 (by omega)
  have w3 : l / u = q := e5
  have w4 : (l + u) / u = q + 1 := e6
  have hover := Lib.hid (fun j => head_more x.natAbs j)
  clear hpos hneg h1 h2 e1 e2 e3 e4 e5 e6 e7
  go_enter Try.func45, Try.ntmps45
  go_wp2
  go_loop [6] (fun t => ∃ v : Int, 1 ≤ v ∧ v ≤ 2048 ∧ Hid (∃ j, j ≤ over x.natAbs ∧ v = ((2 ^ j : Nat) : Int)) ∧ t = .int .u64 v) (fun t => 4096 - (intOf t).toNat)
  case atStart => exact ⟨1, by omega, by omega, Lib.hid ⟨0, by omega, rfl⟩, rfl⟩
  case round =>
    obtain ⟨v, v1, v2, hv, rfl⟩ := hrel
    by_cases hc : v < u
    · have hd : decide ((9007199254740992 : Int) ≤ m / v) = true := by
        obtain ⟨j, hj, rfl⟩ := hv.out
        have hl : j < over x.natAbs := by
          by_cases hh : j = over x.natAbs
          · rw [hh, ← f2.out] at hc; omega
          · omega
        have := hover.out j hl
        rw [f1.out, ← Int.natCast_ediv]
        generalize x.natAbs / 2 ^ j = d at this ⊢
        exact decide_eq_true (by omega)
      have hv2 : Hid (∃ j, j ≤ over x.natAbs ∧ v * 2 = ((2 ^ j : Nat) : Int)) := by
        obtain ⟨j, hj, hvj⟩ := hv.out
        refine Lib.hid ⟨j + 1, ?_, by rw [Nat.pow_succ]; omega⟩
        by_cases hh : j = over x.natAbs
        · rw [hh, ← f2.out] at hvj; omega
        · omega
      have hv3 : v * 2 ≤ 2048 := by
        obtain ⟨j, hj, hvj⟩ := hv2.out
        have h11 : (2 : Nat) ^ j ≤ 2 ^ over x.natAbs := Nat.pow_le_pow_right (by omega) hj
        have := f2.out
        omega
      clear w1 w2 w3 w4
      go_wp2
      go_round
      case rel => exact ⟨v * 2, by omega, hv3, hv2, rfl⟩
      case measure => simp [intOf]; omega
    · have hvu : v = u := by
        obtain ⟨j, hj, hvj⟩ := hv.out
        have h11 : (2 : Nat) ^ j ≤ 2 ^ over x.natAbs := Nat.pow_le_pow_right (by omega) hj
        have := f2.out
        omega
      clear hc hv v1 v2
      subst hvu
      by_cases c1 : v < (m - l) * 2
      · rw [if_pos c1] at e8
        rw [e8] at hmul
        have hmr := mul_run _ _ _ hmul
        have k1 := conv_un (q + 1)
        have k2 := conv_un v
        clear e8 hmul
        go_wp2
        go_ret2
        exact ⟨ret_fb hres.out hnear.out, rfl⟩
      · rw [if_neg c1] at e8
        by_cases c2 : (m - l) * 2 = v
        · have b2 : ((m - l) * 2 == v) = true := by simpa using c2
          have c2' := Lib.hid c2
          by_cases c3 : q % 2 = 1
          · have b3 : (q % 2 == 1) = true := by simpa using c3
            rw [if_pos ⟨c2, c3⟩] at e8
            rw [e8] at hmul
            have hmr := mul_run _ _ _ hmul
            have k1 := conv_un (q + 1)
            have k2 := conv_un v
            clear e8 hmul c2 c3
            go_wp2
            go_ret2
            exact ⟨ret_fb hres.out hnear.out, rfl⟩
          · have b3 : (q % 2 == 1) = false := by simpa using c3
            rw [if_neg (fun h => c3 h.2)] at e8
            rw [e8] at hmul
            have hmr := mul_run _ _ _ hmul
            have k1 := conv_un q
            have k2 := conv_un v
            clear e8 hmul c2 c3
            go_wp2
            go_ret2
            exact ⟨ret_fb hres.out hnear.out, rfl⟩
        · have b2 : ((m - l) * 2 == v) = false := by simpa using c2
          rw [if_neg (fun h => c2 h.1)] at e8
          rw [e8] at hmul
          have hmr := mul_run _ _ _ hmul
          have k1 := conv_un q
          have k2 := conv_un v
          clear e8 hmul c2
          go_wp2
          go_ret2
          exact ⟨ret_fb hres.out hnear.out, rfl⟩

theorem nearest_ref (x : Int) (h1 : -9223372036854775808 ≤ x) (h2 : x ≤ 9223372036854775807) (w : World) :
    Calls Try.prog 45 #[.int .i64 x] w fun e w' => e = .returned (.tuple #[.float .f64 (ofNum x), .bool (nearIs x)]) ∧ w = w' := by
  by_cases hx : x < 0
  · exact nearest_ref_neg x h1 h2 hx w
  · exact nearest_ref_pos x h1 h2 hx w

theorem wordNearest_walk (a0 : Int) (w0 : (Lit.int .i64 a0).wf = true) (w : World) :
    Calls Try.prog 9 #[.int .i64 a0] w fun e w' => e = .returned (.bool true) ∧ Below w.heap.size w w' := by
  obtain ⟨h0, h1⟩ := bd_i64 w0
  clear w0
  have s1 := alike_self (ofNum a0)
  go_enter Try.func9, Try.ntmps9
  go_wp2_with fail
  refine (nearest_any _ h0 h1 _).mono ?_
  rintro e w1 ⟨rfl, hs⟩
  go_wp2_with fail
  refine (nearest_ref _ h0 h1 _).mono ?_
  rintro e w' ⟨rfl, rfl⟩
  go_wp2_with fail
  refine (alike_any _ _ _).mono ?_
  rintro e w' ⟨rfl, rfl⟩
  go_wp2_with fail
  refine (known_any _).mono ?_
  rintro e w' ⟨rfl, rfl⟩
  go_wp2_with fail
  go_ret
  exact ⟨rfl, hs.1⟩
end Go.Proofs.Ytconppelbjjkjaa
