/- slices.Compact over cells of the call's own, by contract. -/
import Derived.Test.YtloiadhdkgkjkaaMp
import Derived.WideKeyEntry
import Derived.DeepKeys5
import Derived.Test.YtloiadhdkgkjkaaPMn1
import Derived.Test.YtloiadhdkgkjkaaPMn4
namespace Go.Proofs.Ytloiadhdkgkjkaa
open Go.RowKit
set_option maxHeartbeats 4000000
set_option linter.unusedVariables false
set_option linter.unusedSimpArgs false
theorem cell_equal (a x b y : Int) (w : World) : (Op.equalIn 10000 45 (.agg #[.int .u64 a, .int .u64 x]) (.agg #[.int .u64 b, .int .u64 y])).run Try.prog w = .ok (decide (a = b) && decide (x = y)) w := by
  have h1 : Try.prog.underlying 45 = some _ := Try.underlying45
  have h2 : Try.prog.underlying 35 = some _ := Try.underlying35
  have c1 : Try.prog.cellsOf 35 = 1 := by kernel_rfl
  have e : ∀ (t : TypeId) (n m : Int) (d : Nat), Try.prog.underlying t = some (TypeDesc.int .u64) → (Op.equalIn (d + 1) t (.int .u64 n) (.int .u64 m)).run Try.prog w = .ok (decide (n = m)) w := by
    intro t n m d ht
    have hb : (n == m) = decide (n = m) := by by_cases h : n = m <;> simp [h]
    simp [Op.equalIn, run_underlying ht, hb]
  have hd : 10000 = 9998 + 1 + 1 := rfl
  rw [hd]
  generalize 9998 = d at *
  rw [Op.equalIn]
  simp [run_underlying h1, part, e, h2, c1, sizeOf, typeInfo]
  by_cases h : a = b <;> by_cases h' : x = y <;> simp [h, h']
theorem cell_eql (a x b y : Int) (w : World) : (binOp .eql 45 (.agg #[.int .u64 a, .int .u64 x]) (.agg #[.int .u64 b, .int .u64 y])).run Try.prog w = .ok (.bool (decide (a = b) && decide (x = y))) w := by
  have hsi : Try.prog.stoodInHeld 45 = false := by kernel_rfl
  simp [binOp, Op.equal, Op.maxDepth, cell_equal, hsi]
theorem cell_neq (a x b y : Int) (w : World) : (binOp .neq 45 (.agg #[.int .u64 a, .int .u64 x]) (.agg #[.int .u64 b, .int .u64 y])).run Try.prog w = .ok (.bool (!(decide (a = b) && decide (x = y)))) w := by
  have hsi : Try.prog.stoodInHeld 45 = false := by kernel_rfl
  simp [binOp, Op.equal, Op.maxDepth, cell_equal, hsi]
/-- A list without those that are as the one ahead of them: of its first n. -/
def ddT (l : List (Int × Int)) : Nat → List (Int × Int)
  | 0 => []
  | n + 1 => if n = 0 ∨ l.getD n (0, 0) ≠ l.getD (n - 1) (0, 0) then ddT l n ++ [l.getD n (0, 0)] else ddT l n
def compC (l : List (Int × Int)) : List (Int × Int) := ddT l l.length
theorem ddT_le (l : List (Int × Int)) : ∀ n, (ddT l n).length ≤ n
  | 0 => by simp [ddT]
  | n + 1 => by have := ddT_le l n; unfold ddT; split <;> simp <;> omega
theorem ddT_yes {l : List (Int × Int)} {n : Nat} (h : l.getD n (0, 0) ≠ l.getD (n - 1) (0, 0)) : ddT l (n + 1) = ddT l n ++ [l.getD n (0, 0)] := by
  rw [ddT, if_pos (.inr h)]
theorem ddT_no {l : List (Int × Int)} {n : Nat} (h0 : 0 < n) (h : l.getD n (0, 0) = l.getD (n - 1) (0, 0)) : ddT l (n + 1) = ddT l n := by
  rw [ddT, if_neg (by rintro (h1 | h1); · omega
                      · exact h1 h)]
theorem ddT_pre {l : List (Int × Int)} : ∀ n, n ≤ l.length → (∀ j, 1 ≤ j → j < n → l.getD j (0, 0) ≠ l.getD (j - 1) (0, 0)) → ddT l n = l.take n
  | 0, _, _ => by simp [ddT]
  | n + 1, hn, h => by
    have ih := ddT_pre n (by omega) fun j h1 h2 => h j h1 (by omega)
    rw [ddT, if_pos (by by_cases e : n = 0; · exact .inl e
                        · exact .inr (h n (by omega) (by omega))), ih, List.take_succ_eq_append_getElem (by omega), List.getD_eq_getElem?_getD, List.getElem?_eq_getElem (by omega)]
    rfl
/-- What stands within Compact's second loop: so many of L's cells are what stays, the rest from here on is as it was. -/
structure CpI (l L : List (Int × Int)) (n m : Nat) : Prop where
  len : L.length = l.length
  eq : m = (ddT l n).length
  lo : L.take m = ddT l n
  hi : ∀ j, n - 1 ≤ j → L.getD j (0, 0) = l.getD j (0, 0)
  lt : m + 1 ≤ n
theorem CpI.start {l : List (Int × Int)} {k : Nat} (hk : k < l.length) (h0 : 0 < k) (h : ∀ j, 1 ≤ j → j < k → l.getD j (0, 0) ≠ l.getD (j - 1) (0, 0)) (he : l.getD k (0, 0) = l.getD (k - 1) (0, 0)) : CpI l l (k + 1) k := by
  have e := ddT_pre k (by omega) h
  have e2 := ddT_no h0 he
  exact ⟨rfl, by rw [e2, e, List.length_take]; omega, by rw [e2, e], fun _ _ => rfl, by omega⟩
theorem CpI.skip {l L : List (Int × Int)} {n m : Nat} (h : CpI l L n m) (h0 : 0 < n) (he : l.getD n (0, 0) = l.getD (n - 1) (0, 0)) : CpI l L (n + 1) m := by
  have e := ddT_no h0 he
  exact ⟨h.len, by rw [e]; exact h.eq, by rw [e]; exact h.lo, fun j hj => h.hi j (by omega), by have := h.lt; omega⟩
theorem CpI.put {l L : List (Int × Int)} {n m : Nat} (h : CpI l L n m) (hn : n < l.length) (he : l.getD n (0, 0) ≠ l.getD (n - 1) (0, 0)) : CpI l (L.set m (l.getD n (0, 0))) (n + 1) (m + 1) := by
  have e := ddT_yes he
  have hm := h.eq
  have hlt := h.lt
  have hL := h.len
  refine ⟨by rw [List.length_set]; exact h.len, by rw [e, List.length_append, ← hm]; rfl, ?_, fun j hj => ?_, by omega⟩
  · rw [List.take_succ_eq_append_getElem (by rw [List.length_set]; omega), List.getElem_set_self, List.take_set_of_le (Nat.le_refl m), h.lo, e]
  · rw [List.getD_eq_getElem?_getD, List.getElem?_set_ne (by omega), ← List.getD_eq_getElem?_getD]
    exact h.hi j (by omega)
/-- Cells behind those that stay, turned: those that stay are there. -/
theorem Sl.head {w : World} {g o n cp : Nat} {L : List (Int × Int)} (h : Sl 45 2 encC w (.slice (some ⟨g, o, none⟩) n cp) L) {m : Nat} (hm : m ≤ L.length) (vs : List Value) :
    Sl 45 2 encC (w.setCells g (o + m * 2) vs) (.slice (some ⟨g, o, none⟩) m cp) (L.take m) ∧ Fr (own (.slice (some ⟨g, o, none⟩) n cp)) w (own (.slice (some ⟨g, o, none⟩) m cp)) (w.setCells g (o + m * 2) vs) := by
  obtain ⟨h0, h⟩ := h
  rcases h with ⟨h1, h2⟩ | ⟨g', off', cap', cur, h1, h2, h3, h4, h5, h6, h7⟩
  · cases h1
  injection h1 with h1a h1b h1c
  simp only [Option.some.injEq, Addr.mk.injEq, and_true] at h1a
  obtain ⟨rfl, rfl⟩ := h1a
  subst h1b h1c
  obtain ⟨q1, q2, q3, q4, q5, q6⟩ := heap_setCells g vs (o + m * 2) w cur h3
  refine ⟨?_, q4, q5, q6, by rw [q3]; exact Nat.le_refl _, fun k _ hF => q2 k fun e => hF (by subst e; simp [own, Value.ownBlock]), fun k hk => .inl (by simpa [own, Value.ownBlock] using hk)⟩
  unfold Sl
  have hml : (L.take m).length = m := by rw [List.length_take]; omega
  rw [hml]
  refine ⟨by rw [flat_len encC_len, hml], .inr ⟨g, o, cp, _, rfl, Nat.zero_le _, q1, by omega, h5, by rw [setAll_size]; exact h6, ?_⟩⟩
  rw [flat_take encC_len, ← h7]
  apply List.ext_getElem?
  intro j
  have hmm : m * 2 ≤ L.length * 2 := Nat.mul_le_mul_right 2 hm
  rw [List.getElem?_take, List.getElem?_take, List.getElem?_drop, List.getElem?_take, List.getElem?_drop]
  by_cases hj : j < m * 2
  · rw [if_pos hj, if_pos hj, if_pos (by omega), Array.getElem?_toList, setAll_get, if_neg (by omega), Array.getElem?_toList]
  · rw [if_neg hj, if_neg hj]
theorem run_clear_cells (w : World) (ty : TypeId) (g o n c : Nat) (hn : 0 < n) (hc : ∀ j, j < n * 2 → (w.cell? ⟨g, o + j, none⟩).isSome = true ∧ w.frozen? ⟨g, o + j, none⟩ = false) :
    ∃ vs, (Builtin.clear_ #[43] ty #[.slice (some ⟨g, o, none⟩) n c]).run Try.prog w = .ok (.tuple #[]) (w.setCells g o vs) := by
  have hl : (Builtin.zeroCells #[Value.int .u64 0, .int .u64 0] n).toList.length = n * 2 := by simp [Builtin.zeroCells]
  have hst := run_storeCells_cells (P := Try.prog) g o (Builtin.zeroCells #[Value.int .u64 0, .int .u64 0] n).toList 0 w (fun j hj => (hc j (by omega)).1) (fun j hj => (hc j (by omega)).2) (fun v hv => by
    have : ∃ k : Nat, (#[Value.int .u64 0, .int .u64 0] : Array Value)[k % 2]! = v := by
      simp only [Builtin.zeroCells, Array.toList_map, List.mem_map] at hv
      obtain ⟨k, _, e⟩ := hv
      exact ⟨k, e⟩
    obtain ⟨k, rfl⟩ := this
    rcases (show k % 2 = 0 ∨ k % 2 = 1 by omega) with e | e <;> rw [e] <;> rfl)
  simp only [Nat.add_zero] at hst
  refine ⟨(Builtin.zeroCells #[Value.int .u64 0, .int .u64 0] n).toList, ?_⟩
  obtain ⟨m, rfl⟩ : ∃ m, n = m + 1 := ⟨n - 1, by omega⟩
  simp [Builtin.clear_, run_underlying Try.underlying43, Try.zeroValue45, Value.cells, hst]
set_option maxRecDepth 100000 in
theorem compactC_b {w : World} {A : Option Addr} {cp : Nat} {l : List (Int × Int)} (h : Sl 45 2 encC w (.slice A l.length cp) l) (hll : l.length ≤ 4611686018427387904) :
    Calls Try.prog 46 #[.slice A l.length cp] w fun x w' => x = .returned (.slice A (compC l).length cp) ∧ Sl 45 2 encC w' (.slice A (compC l).length cp) (compC l) ∧ Fr (own (.slice A l.length cp)) w (own (.slice A (compC l).length cp)) w' := by
  have hcap := h.shape
  have hlen : (l.length : Int) ≤ 4611686018427387904 := by omega
  have hEq := cell_eql
  have hNe := cell_neq
  by_cases h2 : l.length < 2
  · have e : compC l = l := by
      unfold compC
      rw [ddT_pre _ (Nat.le_refl _) (fun j h1 h2 => by omega), List.take_length]
    have h2' : (l.length : Int) < 2 := by omega
    rw [e]
    replace h := Lib.hid h
    go_enter Try.func46, Try.ntmps46
    go_wp2
    go_ret
    exact ⟨rfl, h.out, Fr.refl _ _⟩
  obtain ⟨g, off, rfl, hg, hc⟩ := h.cell encC_len (by decide) (show 0 < l.length by omega)
  have hcp : l.length ≤ cp ∧ cp ≤ 9223372036854775807 := by
    rcases h.2 with ⟨h1, _⟩ | ⟨g', off', cap', cur, h1, _, _, h4, h5, _⟩
    · cases h1
    · injection h1 with _ _ h1c
      subst h1c
      unfold maxLen at h5
      exact ⟨h4, by omega⟩
  have h2' : ¬ (l.length : Int) < 2 := by omega
  have hc' := Lib.hid hc
  replace h := Lib.hid h
  clear hc hcap
  go_enter Try.func46, Try.ntmps46
  go_wp2
  go_loopw [3] (fun c wr => ∃ (k m : Nat), 1 ≤ k ∧ k ≤ l.length ∧ c = .int .i64 (k : Int) ∧ wr = w.drewN m ∧ Hid (∀ j, 1 ≤ j → j < k → l.getD j (0, 0) ≠ l.getD (j - 1) (0, 0))) (fun c _ => l.length - (intOf c).toNat)
  case atStart => exact ⟨1, 0, Nat.le_refl _, by omega, rfl, rfl, Lib.hid fun j h1 h2 => by omega⟩
  case round =>
    obtain ⟨k, m0, hk1, hk, rfl, rfl, hall⟩ := hrel
    by_cases hlt : k < l.length
    · have b1 : (k : Int) < l.length := by omega
      have b2 : (k : Int) - 1 < l.length := by omega
      have b3 : (0 : Int) ≤ (k : Int) - 1 := by omega
      have w1 := IntWalk.i64_in (n := (k : Int) + 1) (by omega)
      have w2 := IntWalk.i64_in (n := (k : Int) - 1) (by omega)
      have x0 := (hc'.out k hlt 0 (by decide)).1
      have x1 := (hc'.out k hlt 1 (by decide)).1
      have y0 := (hc'.out (k - 1) (by omega) 0 (by decide)).1
      have y1 := (hc'.out (k - 1) (by omega) 1 (by decide)).1
      have ex : l.getD k (0, 0) = l[k] := by rw [List.getD_eq_getElem?_getD, List.getElem?_eq_getElem hlt]; rfl
      have ey : l.getD (k - 1) (0, 0) = l[k - 1] := by rw [List.getD_eq_getElem?_getD, List.getElem?_eq_getElem (by omega)]; rfl
      have hP : Hid (l[k] = l[k - 1] → CpI l l (k + 1) k) := Lib.hid fun he => CpI.start hlt (by omega) hall.out (by rw [ex, ey]; exact he)
      have hQ : Hid (l[k] ≠ l[k - 1] → ∀ j, 1 ≤ j → j < k + 1 → l.getD j (0, 0) ≠ l.getD (j - 1) (0, 0)) := Lib.hid fun he j h1 h2 => by
        by_cases e : j = k
        · subst e; rw [ex, ey]; exact he
        · exact hall.out j h1 (by omega)
      clear ex ey hall
      simp only [encC, List.getElem?_cons_zero, List.getElem?_cons_succ, Nat.add_zero] at x0 x1 y0 y1
      generalize l[k] = X at *
      generalize l[k - 1] = Y at *
      obtain ⟨X0, X1⟩ := X
      obtain ⟨Y0, Y1⟩ := Y
      dsimp only at x0 x1 y0 y1
      obtain ⟨kk, rfl⟩ : ∃ kk, k = kk + 1 := ⟨k - 1, by omega⟩
      rw [Nat.add_sub_cancel] at y0 y1
      generalize hK1 : kk + 1 = K1 at *
      have hwr : IntKind.i64.wrap ((K1 : Int) - 1) = (kk : Int) := by rw [IntWalk.i64_in _ (by omega)]; omega
      have b4 : (kk : Int) < l.length := by omega
      replace hK1 := Lib.hid hK1
      clear b2 b3 w2
      have x0' : (w.drewN m0).cell? ⟨g, off + K1 * 2, none⟩ = some (.int .u64 X0) := x0
      have x1' : (w.drewN m0).cell? ⟨g, off + K1 * 2 + 1, none⟩ = some (.int .u64 X1) := x1
      have y0' : (w.drewN m0).cell? ⟨g, off + kk * 2, none⟩ = some (.int .u64 Y0) := y0
      have y1' : (w.drewN m0).cell? ⟨g, off + kk * 2 + 1, none⟩ = some (.int .u64 Y1) := y1
      clear x0 x1 y0 y1
      have hXY := Lib.hid (And.intro x0' (And.intro x1' (And.intro y0' y1')))
      obtain ⟨wz, hwr0⟩ : ∃ wz, wz = w.drewN m0 := ⟨_, rfl⟩
      rw [← hwr0] at x0' x1' y0' y1' hXY ⊢
      replace hwr0 := Lib.hid hwr0
      by_cases he : X0 = Y0 ∧ X1 = Y1
      · obtain ⟨rfl, rfl⟩ := he
        have hC := Lib.hid (hP.out rfl)
        have hE2 : ∀ w, (binOp .eql 45 (.agg #[.int .u64 X0, .int .u64 X1]) (.agg #[.int .u64 X0, .int .u64 X1])).run Try.prog w = .ok (.bool true) w := fun w => by rw [hEq]; simp
        have hcK : (cp = K1) = False := eq_false (by have := hcp.1; omega)
        clear hP hQ x0' x1' y0' y1' hE2
        have hE2 : ∀ w, (binOp .eql 45 (.agg #[.int .u64 X0, .int .u64 X1]) (.agg #[.int .u64 X0, .int .u64 X1])).run Try.prog w = .ok (.bool true) w := fun w => by rw [hEq]; simp
        clear hEq
        obtain ⟨x0', x1', y0', y1'⟩ := hXY.out
        go_wp2_with fail
        go_quiet (fail)
        go_wp2
        clear x0' x1' y0' y1' hE2
        go_loopw [3, 5] (fun c3 c5 w2 => ∃ (n m : Nat) (L : List (Int × Int)), 1 ≤ n ∧ K1 + n ≤ l.length ∧ c3 = .int .i64 (m : Int) ∧ c5 = .int .i64 (n : Int) ∧ Hid (CpI l L (K1 + n) m) ∧ Hid (Sl 45 2 encC w2 (.slice (some ⟨g, off, none⟩) l.length cp) L) ∧ Hid (Fr (own (.slice (some ⟨g, off, none⟩) l.length cp)) w (own (.slice (some ⟨g, off, none⟩) l.length cp)) w2)) (fun _ c5 _ => l.length - (intOf c5).toNat)
        case atStart => exact ⟨1, K1, l, Nat.le_refl _, by omega, rfl, rfl, hC, Lib.hid (by rw [hwr0.out]; exact (h.out.drewN _).drewN _), Lib.hid (by rw [hwr0.out]; exact ((Fr.refl _ _).drewN _).drewN _)⟩
        case round =>
          obtain ⟨n, m, L, hn1, hn, rfl, rfl, hI, hS, hF⟩ := hrel
          have hLl := hI.out.len
          have hmlt := hI.out.lt
          by_cases hlt2 : K1 + n < l.length
          · obtain ⟨nn, rfl⟩ : ∃ nn, n = nn + 1 := ⟨n - 1, by omega⟩
            obtain ⟨g', o', e1, hg', hcc⟩ := hS.out.cell encC_len (by decide) (show 0 < L.length by omega)
            injection e1 with e1
            injection e1 with e1 e2
            subst e1 e2
            have p0 := (hcc (K1 + (nn + 1)) (by omega) 0 (by decide)).1
            have p1 := (hcc (K1 + (nn + 1)) (by omega) 1 (by decide)).1
            have q0 := (hcc (K1 + nn) (by omega) 0 (by decide)).1
            have q1 := (hcc (K1 + nn) (by omega) 1 (by decide)).1
            obtain ⟨s0, f0⟩ := hcc m (by omega) 0 (by decide)
            obtain ⟨s1, f1⟩ := hcc m (by omega) 1 (by decide)
            have eP := hI.out.hi (K1 + (nn + 1)) (by omega)
            have eQ := hI.out.hi (K1 + nn) (by omega)
            have eP2 : L[K1 + (nn + 1)]'(by omega) = l.getD (K1 + (nn + 1)) (0, 0) := by rw [← eP, List.getD_eq_getElem?_getD, List.getElem?_eq_getElem (by omega)]; rfl
            have eQ2 : L[K1 + nn]'(by omega) = l.getD (K1 + nn) (0, 0) := by rw [← eQ, List.getD_eq_getElem?_getD, List.getElem?_eq_getElem (by omega)]; rfl
            rw [eP2] at p0 p1
            rw [eQ2] at q0 q1
            have hPut : Hid (l.getD (K1 + (nn + 1)) (0, 0) ≠ l.getD (K1 + nn) (0, 0) → CpI l (L.set m (l.getD (K1 + (nn + 1)) (0, 0))) (K1 + (nn + 1 + 1)) (m + 1)) := Lib.hid fun he => by
              have := hI.out.put (by omega) he
              exact this
            have hSkip : Hid (l.getD (K1 + (nn + 1)) (0, 0) = l.getD (K1 + nn) (0, 0) → CpI l L (K1 + (nn + 1 + 1)) m) := Lib.hid fun he => hI.out.skip (by omega) he
            generalize l.getD (K1 + (nn + 1)) (0, 0) = P at *
            generalize l.getD (K1 + nn) (0, 0) = Q at *
            have hSet : Hid (∀ n' : Nat, Sl 45 2 encC (((wr.drewN n').setCell ⟨g, off + m * 2, none⟩ (.int .u64 P.1)).setCell ⟨g, off + m * 2 + 1, none⟩ (.int .u64 P.2)) (.slice (some ⟨g, off, none⟩) l.length cp) (L.set m P) ∧ Fr (own (.slice (some ⟨g, off, none⟩) l.length cp)) w (own (.slice (some ⟨g, off, none⟩) l.length cp)) (((wr.drewN n').setCell ⟨g, off + m * 2, none⟩ (.int .u64 P.1)).setCell ⟨g, off + m * 2 + 1, none⟩ (.int .u64 P.2))) := Lib.hid fun n' => by
              have u1 := (hS.out.drewN n').upd encC_len (i := m) (j := 0) (by omega) (by decide) (.int .u64 P.1) (P.1, (L[m]'(by omega)).2) rfl
              have u2 := u1.upd encC_len (i := m) (j := 1) (by rw [List.length_set]; omega) (by decide) (.int .u64 P.2) P (by rw [List.getElem_set_self]; rfl)
              rw [List.set_set] at u2
              exact ⟨u2, ((hF.out.drewN n').set (p := ⟨g, off + m * 2, none⟩) (.inl (by simp [own, Value.ownBlock])) _).set (p := ⟨g, off + m * 2 + 1, none⟩) (.inl (by simp [own, Value.ownBlock])) _⟩
            obtain ⟨P0, P1⟩ := P
            obtain ⟨Q0, Q1⟩ := Q
            simp only [encC, List.getElem?_cons_zero, List.getElem?_cons_succ, Nat.add_zero] at p0 p1 q0 q1 s0 s1 f0 f1
            rw [show off + (K1 + (nn + 1)) * 2 = off + K1 * 2 + (nn + 1) * 2 by omega] at p0
            rw [show off + ((K1 + (nn + 1)) * 2 + 1) = off + K1 * 2 + (nn + 1) * 2 + 1 by omega] at p1
            rw [show off + (K1 + nn) * 2 = off + K1 * 2 + nn * 2 by omega] at q0
            rw [show off + ((K1 + nn) * 2 + 1) = off + K1 * 2 + nn * 2 + 1 by omega] at q1
            rw [show off + (m * 2 + 1) = off + m * 2 + 1 by omega] at s1 f1
            generalize (L[m]'(by omega)).1 = o0 at s0
            generalize (L[m]'(by omega)).2 = o1 at s1
            clear eP eQ eP2 eQ2 hcc
            generalize hN : nn + 1 = N at *
            have hwr : IntKind.i64.wrap ((N : Int) - 1) = (nn : Int) := by rw [IntWalk.i64_in _ (by omega)]; omega
            have c1 : (N : Int) < ((l.length - K1 : Nat) : Int) := by omega
            have c2 : (nn : Int) < ((l.length - K1 : Nat) : Int) := by omega
            have c3 : (m : Int) < (l.length : Int) := by omega
            have w3 := IntWalk.i64_in (n := (N : Int) + 1) (by omega)
            have w4 := IntWalk.i64_in (n := (m : Int) + 1) (by omega)
            replace hN := Lib.hid hN
            by_cases he : P0 = Q0 ∧ P1 = Q1
            · obtain ⟨rfl, rfl⟩ := he
              have hNE : ∀ w, (binOp .neq 45 (.agg #[.int .u64 P0, .int .u64 P1]) (.agg #[.int .u64 P0, .int .u64 P1])).run Try.prog w = .ok (.bool false) w := fun w => by rw [hNe]; simp
              have hI2 := Lib.hid (hSkip.out rfl)
              clear hPut hSkip hSet hI hNe
              go_wp2_with fail
              go_quiet (fail)
              go_wp2
              go_roundw
              case rel => exact ⟨N + 1, m, L, by omega, by omega, rfl, by go_num, hI2, Lib.hid (hS.out.drewN _), Lib.hid (hF.out.drewN _)⟩
              case measure => simp [intOf]; omega
            · have hNE : ∀ w, (binOp .neq 45 (.agg #[.int .u64 P0, .int .u64 P1]) (.agg #[.int .u64 Q0, .int .u64 Q1])).run Try.prog w = .ok (.bool true) w := fun w => by
                rw [hNe]
                have : (decide (P0 = Q0) && decide (P1 = Q1)) = false := by simpa using he
                rw [this]; rfl
              have hI2 := Lib.hid (hPut.out (fun e => he (by injection e with e1 e2; exact ⟨e1, e2⟩)))
              replace he := Lib.hid he
              clear hPut hSkip hI hNe
              go_wp2_with fail
              go_quiet (fail)
              go_wp2
              go_roundw
              case rel => exact ⟨N + 1, m + 1, _, by omega, by omega, by go_num, by go_num, hI2, Lib.hid (hSet.out _).1, Lib.hid (hSet.out _).2⟩
              case measure => simp [intOf]; omega
          · have hend : K1 + n = l.length := by omega
            obtain ⟨g', o', e1, hg', hcc⟩ := hS.out.cell encC_len (by decide) (show 0 < L.length by omega)
            injection e1 with e1
            injection e1 with e1 e2
            subst e1 e2
            have hcl : Hid (∀ ty, ∃ vs, (Builtin.clear_ #[43] ty #[.slice (some ⟨g, off + m * 2, none⟩) (l.length - m) (cp - m)]).run Try.prog wr = .ok (.tuple #[]) (wr.setCells g (off + m * 2) vs)) := Lib.hid fun ty => run_clear_cells wr ty g (off + m * 2) (l.length - m) (cp - m) (by omega) fun j hj => by
              obtain ⟨k1, k2⟩ := hcc (m + j / 2) (by omega) (j % 2) (by omega)
              rw [show off + ((m + j / 2) * 2 + j % 2) = off + m * 2 + j by omega] at k1 k2
              refine ⟨?_, k2⟩
              rw [k1, List.getElem?_eq_getElem (by rw [encC_len]; omega)]
              rfl
            have hm0 := hI.out.eq
            have hlo := hI.out.lo
            rw [hend] at hm0 hlo
            have hR : Hid (∀ vs, Sl 45 2 encC (wr.setCells g (off + m * 2) vs) (.slice (some ⟨g, off, none⟩) m cp) (compC l) ∧ Fr (own (.slice (some ⟨g, off, none⟩) l.length cp)) w (own (.slice (some ⟨g, off, none⟩) m cp)) (wr.setCells g (off + m * 2) vs) ∧ (compC l).length = m) := Lib.hid fun vs => by
              obtain ⟨r1, r2⟩ := hS.out.head (m := m) (by omega) vs
              unfold compC
              rw [← hlo]
              exact ⟨r1, hF.out.trans r2, by rw [hlo, hm0]⟩
            have hcm : (cp = m) = False := eq_false (by have := hcp.1; omega)
            have c1 : ¬ (n : Int) < ((l.length - K1 : Nat) : Int) := by omega
            have c3 : (m : Int) ≤ (l.length : Int) := by omega
            clear hcc hm0 hlo
            obtain ⟨vs, hrun⟩ := hcl.out 0
            go_wp2
            go_ret
            obtain ⟨r1, r2, r3⟩ := hR.out vs
            exact ⟨by rw [r3]; rfl, by rw [r3]; exact r1, by rw [r3]; exact r2⟩
      · have hC := Lib.hid (hQ.out (fun e => he (by injection e with e1 e2; exact ⟨e1, e2⟩)))
        have hE2 : ∀ w, (binOp .eql 45 (.agg #[.int .u64 X0, .int .u64 X1]) (.agg #[.int .u64 Y0, .int .u64 Y1])).run Try.prog w = .ok (.bool false) w := fun w => by
          rw [hEq]
          have : (decide (X0 = Y0) && decide (X1 = Y1)) = false := by simpa using he
          rw [this]
        clear hP hQ hEq he
        go_wp2_with fail
        go_quiet (fail)
        go_wp2
        go_roundw
        case rel => exact ⟨K1 + 1, m0 + nq, by omega, by omega, by go_num, by rw [hwr0.out, drewN_drewN], hC⟩
        case measure => simp [intOf]; omega
    · have e : k = l.length := by omega
      subst e
      have e : compC l = l := by
        unfold compC
        rw [ddT_pre _ (Nat.le_refl _) hall.out, List.take_length]
      have e2 : Hid (compC l = l) := Lib.hid e
      clear e hall hk1 hk hlt
      go_wp2
      go_ret
      rw [e2.out]
      exact ⟨rfl, h.out.drewN _, (Fr.refl _ _).drewN _⟩
end Go.Proofs.Ytloiadhdkgkjkaa
/- Maps whose keys are structs of two words (api.Cell), of the call's own: what block b holds, as a function of the key; look-up, 'm[k]++' in its two steps. -/
namespace Go.Proofs.Ytloiadhdkgkjkaa
open Go.RowKit Go.MapKept Go.ChangeMaps
open Go.WideMaps (KeyLaw)
set_option linter.unusedVariables false
set_option linter.unusedSimpArgs false
def kv (p : Int × Int) : Value := .agg #[.int .u64 p.1, .int .u64 p.2]
theorem kv_inj {p q : Int × Int} (h : kv p = kv q) : p = q := by
  unfold kv at h
  obtain ⟨a, b⟩ := p
  obtain ⟨c, d⟩ := q
  simpa using h
/-- Both words of a cell are words. -/
def inB (p : Int × Int) : Prop := (0 ≤ p.1 ∧ p.1 ≤ 18446744073709551615) ∧ 0 ≤ p.2 ∧ p.2 ≤ 18446744073709551615
/-- The entries say f. -/
def Mes (es : Array MapEntry) (clock n : Nat) (f : Int × Int → Option Value) : Prop :=
  es.size ≤ n ∧ Stamped es clock ∧ (∀ x ∈ es.toList, ∃ p, inB p ∧ x.key = kv p ∧ f p = some x.val) ∧ (∀ p, f p ≠ none → ∃ x ∈ es.toList, x.key = kv p)
def Mq (w : World) (b n : Nat) (f : Int × Int → Option Value) : Prop := ∃ es clock, w.heap[b]? = some (.map es clock) ∧ Mes es clock n f
def updO (f : Int × Int → Option Value) (p : Int × Int) (v : Value) : Int × Int → Option Value := fun q => if q = p then some v else f q
theorem Mes.push {es : Array MapEntry} {clock n : Nat} {f : Int × Int → Option Value} (h : Mes es clock n f) {p : Int × Int} (hp : inB p) (hn : ∀ x ∈ es.toList, x.key ≠ kv p) (val : Value) : Mes (es.push ⟨kv p, val, clock⟩) (clock + 1) (n + 1) (updO f p val) := by
  obtain ⟨h1, h2, h3, h4⟩ := h
  refine ⟨by simp; omega, stamped_push h2 hn, fun y hy => ?_, fun k hkk => ?_⟩
  · rw [Array.toList_push, List.mem_append, List.mem_singleton] at hy
    rcases hy with hy | rfl
    · obtain ⟨k', e0, e1, e2⟩ := h3 y hy
      refine ⟨k', e0, e1, ?_⟩
      unfold updO
      rw [if_neg (fun e3 : k' = p => hn y hy (by rw [e1, e3]))]
      exact e2
    · exact ⟨p, hp, rfl, by simp [updO]⟩
  · by_cases hka : k = p
    · exact ⟨_, by rw [Array.toList_push, List.mem_append, List.mem_singleton]; exact .inr rfl, by rw [hka]⟩
    · unfold updO at hkk
      rw [if_neg hka] at hkk
      obtain ⟨y, hy, e⟩ := h4 k hkk
      exact ⟨y, by rw [Array.toList_push, List.mem_append]; exact .inl hy, e⟩
theorem Mes.set {es : Array MapEntry} {clock n : Nat} {f : Int × Int → Option Value} (h : Mes es clock n f) {p : Int × Int} (hp : inB p) {j : Nat} {x : MapEntry} (g1 : es.toList[j]? = some x) (g2 : x.key = kv p) (val : Value) : Mes (es.modify j fun e => { e with val := val }) clock n (updO f p val) := by
  obtain ⟨h1, hs, h3, h4⟩ := h
  have hj : es[j]? = some x := by simpa using g1
  refine ⟨by simpa using h1, stamped_modify hs j _ (fun _ _ => rfl) (fun y _ hy => rfl), fun y hy => ?_, fun k hkk => ?_⟩
  · obtain ⟨i, y0, hi, rfl⟩ := mem_modify_at hy
    by_cases hij : j = i
    · rw [if_pos hij]
      subst hij
      rw [g1] at hi
      injection hi with hi
      subst hi
      exact ⟨p, hp, g2, by simp [updO]⟩
    · rw [if_neg hij]
      obtain ⟨k', e0, e1, e2⟩ := h3 y0 (List.mem_of_getElem? hi)
      refine ⟨k', e0, e1, ?_⟩
      unfold updO
      rw [if_neg (fun e3 : k' = p => hij (stamped_keys hs g1 hi (by rw [g2, e1, e3])))]
      exact e2
  · have hmem : ∀ i y0, es.toList[i]? = some y0 → (if j = i then { y0 with val := val } else y0) ∈ (es.modify j fun e => { e with val := val }).toList := fun i y0 hi => by
      rw [List.mem_iff_getElem?]
      refine ⟨i, ?_⟩
      rw [Array.getElem?_toList, Array.getElem?_modify]
      have : es[i]? = some y0 := by simpa using hi
      by_cases hij : j = i
      · rw [if_pos hij, if_pos hij, this]; rfl
      · rw [if_neg hij, if_neg hij, this]
    by_cases hka : k = p
    · exact ⟨_, hmem j x g1, by rw [if_pos rfl, hka]; exact g2⟩
    · unfold updO at hkk
      rw [if_neg hka] at hkk
      obtain ⟨y, hy, e⟩ := h4 k hkk
      obtain ⟨i, hi⟩ := List.mem_iff_getElem?.1 hy
      refine ⟨_, hmem i y hi, ?_⟩
      by_cases hij : j = i
      · rw [if_pos hij]; exact e
      · rw [if_neg hij]; exact e
section
variable {P : Program} {w w' : World} {b n : Nat} {f : Int × Int → Option Value}
theorem Mq.new (w : World) : Mq (w.alloc (.map #[] 0)) w.heap.size 0 (fun _ => none) :=
  ⟨#[], 0, heap_alloc_new w _, by simp, stamped_empty 0, by simp, by simp⟩
theorem Mq.lt (h : Mq w b n f) : b < w.heap.size := by
  obtain ⟨es, clock, h, _⟩ := h
  rcases Nat.lt_or_ge b w.heap.size with hl | hg
  · exact hl
  · rw [Array.getElem?_eq_none hg] at h; cases h
theorem Mq.keep (h : Mq w b n f) (hk : w'.heap[b]? = w.heap[b]?) : Mq w' b n f := by
  obtain ⟨es, clock, h, r⟩ := h
  exact ⟨es, clock, hk.trans h, r⟩
theorem Mq.alloc (h : Mq w b n f) (o : Obj) : Mq (w.alloc o) b n f := h.keep (Below.heap_alloc w o b h.lt)
theorem Mq.drewN (h : Mq w b n f) (m : Nat) : Mq (w.drewN m) b n f := h
theorem Mq.below (h : Mq w b n f) (hb : Below w.heap.size w w') : Mq w' b n f := h.keep (hb.block b h.lt)
theorem Mq.far (h : Mq w b n f) {p : Addr} (hp : b ≠ p.block) (u : Value) : Mq (w.setCell p u) b n f := h.keep (Below.heap_setCell w p u b hp)
theorem Mq.mono (h : Mq w b n f) {m : Nat} (hm : n ≤ m) : Mq w b m f := by
  obtain ⟨es, clock, h, h2, r⟩ := h
  exact ⟨es, clock, h, by omega, r⟩
theorem Mq.congr {g : Int × Int → Option Value} (h : Mq w b n f) (hg : ∀ k, g k = f k) : Mq w b n g := by
  obtain rfl : g = f := funext hg
  exact h
theorem Mq.ne_ {k : Nat} {t : TypeId} {cs : Array Value} (h : Mq w b n f) (hb : Blk w k t cs) : b ≠ k := by
  rintro rfl
  obtain ⟨es, clock, h, _⟩ := h
  unfold Blk at hb
  rw [h] at hb
  cases hb
theorem Mq.ne_row {B : Nat} {e : TypeId} {size m : Nat} {v : Value} {xs : List Value} (h : Mq w b n f) (hr : Rowv w B e size v m xs) : v.ownBlock ≠ some b := by
  rcases hr.2 with ⟨rfl, _⟩ | ⟨g, off, cap, cur, rfl, h2, h3, _⟩
  · exact fun h => nomatch h
  · intro hk
    obtain rfl : g = b := by simpa [Value.ownBlock] using hk
    obtain ⟨es, clock, h, _⟩ := h
    rw [h] at h3
    cases h3
/-- 'm[k]'. -/
theorem Mq.lookup (h : Mq w b n f) {t k e : TypeId} (ht : P.underlying t = some (.map k e)) (K : KeyLaw P k) (hky : ∀ p, inB p → ∃ l, keyOf P k (kv p) = some l) {z : Value} (hz : (zeroValue e).run P w = .ok z w) {p : Int × Int} (hp : inB p) (c : Bool) :
    (Instr.lookup t (.map (some b)) (kv p) c).run P w = .ok (if c then .tuple #[(f p).getD z, .bool (f p).isSome] else (f p).getD z) w := by
  obtain ⟨es, clock, hb, hn, hs, h3, h4⟩ := h
  obtain ⟨kl, hkl⟩ := hky p hp
  have hall : ∀ e ∈ es.toList, ∃ l, keyOf P k e.key = some l := fun x hx => by
    obtain ⟨q, hq, e1, _⟩ := h3 x hx
    rw [e1]; exact hky q hq
  have hc := K.check w es.isEmpty hkl
  rcases K.find w hkl es.toList hall with ⟨g1, g2⟩ | ⟨j, x, g1, g2, g3⟩
  · have e0 : f p = none := by
      cases hf : f p with
      | none => rfl
      | some v =>
        obtain ⟨x, hx, e⟩ := h4 p (by rw [hf]; simp)
        exact absurd e (g2 x hx)
    rw [e0]
    cases c <;> simp [Instr.lookup, run_underlying ht, MapKept.run_getObj_map hb, hc, g1, hz, Result.andThen]
  · have e0 : f p = some x.val := by
      obtain ⟨q, hq, e1, e2⟩ := h3 x (List.mem_of_getElem? g2)
      rw [g3] at e1
      rw [kv_inj e1]; exact e2
    rw [e0]
    cases c <;> simp [Instr.lookup, run_underlying ht, MapKept.run_getObj_map hb, hc, g1, Result.andThen]
/-- The entry of a key, made if it is not there; then its store. -/
theorem Mq.entry (h : Mq w b n f) {t k e : TypeId} (ht : P.underlying t = some (.map k e)) (K : KeyLaw P k) (hky : ∀ p, inB p → ∃ l, keyOf P k (kv p) = some l) {z : Value} (hz : (zeroValue e).run P w = .ok z w) {p : Int × Int} (hp : inB p) :
    ∃ (st : Nat) (w1 : World), (Instr.mapEntry t (.map (some b)) (kv p)).run P w = .ok (.tuple #[(f p).getD z, goInt st]) w1 ∧ Mq w1 b (n + 1) (updO f p ((f p).getD z)) ∧ w.grownBy w1 (some b) ∧ w1.heap.size = w.heap.size ∧
      ∀ (w2 : World) (val : Value), w2.heap[b]? = w1.heap[b]? → ∃ w3, (Instr.entryStore t (.map (some b)) (goInt st) val).run P w2 = .ok () w3 ∧ Mq w3 b (n + 1) (updO f p val) ∧ w2.grownBy w3 (some b) ∧ w3.heap.size = w2.heap.size := by
  obtain ⟨es, clock, hb, hM⟩ := h
  have hM0 := hM
  obtain ⟨hn, hs, h3, h4⟩ := hM
  obtain ⟨kl, hkl⟩ := hky p hp
  have hall : ∀ e ∈ es.toList, ∃ l, keyOf P k e.key = some l := fun x hx => by
    obtain ⟨q, hq, e1, _⟩ := h3 x hx
    rw [e1]; exact hky q hq
  have hgrow : ∀ (W : World) (o : Obj), W.grownBy (setBlock W b o) (some b) ∧ (setBlock W b o).heap.size = W.heap.size := fun W o => ⟨⟨rfl, rfl, rfl, by simp [setBlock], fun i _ hi => by
    show (W.heap.setIfInBounds b o)[i]? = _
    rw [Array.getElem?_setIfInBounds_ne (fun e => hi (by rw [e]))]⟩, by simp [setBlock]⟩
  have hupd2 : ∀ v v', updO (updO f p v) p v' = updO f p v' := fun v v' => by
    funext q
    unfold updO
    by_cases hq : q = p
    · rw [if_pos hq, if_pos hq]
    · rw [if_neg hq, if_neg hq, if_neg hq]
  -- the store, whatever the entries
  have hstore : ∀ (es1 : Array MapEntry) (c1 m : Nat) (v1 : Value) (j : Nat) (x : MapEntry), Mes es1 c1 m (updO f p v1) → es1.toList[j]? = some x → x.key = kv p → ∀ (w2 : World) (val : Value), w2.heap[b]? = some (.map es1 c1) → ∃ w3, (Instr.entryStore t (.map (some b)) (goInt x.born) val).run P w2 = .ok () w3 ∧ Mq w3 b m (updO f p val) ∧ w2.grownBy w3 (some b) ∧ w3.heap.size = w2.heap.size := by
    intro es1 c1 m v1 j x hM1 g1 g2 w2 val hw2
    have hidx : es1.findIdx? (fun e => ((e.born : Nat) : Int) == ((x.born : Nat) : Int)) = some j := by
      rw [WideElems.findIdx_arr]
      exact WideElems.findIdx_born hM1.2.1.2.1 g1
    refine ⟨setBlock w2 b (.map (es1.modify j fun e => { e with val := val }) c1), by simp [Instr.entryStore, MapKept.run_getObj_map hw2, asInt, asIntOf, goInt, hidx, MapKept.run_setObj_map _ hw2, Result.andThen, setBlock], ?_, hgrow _ _⟩
    have := hM1.set hp g1 g2 val
    rw [hupd2] at this
    exact ⟨_, _, (MapKept.heap_set hw2).1, this⟩
  rcases K.find w hkl es.toList hall with ⟨g1, g2⟩ | ⟨j, x, g1, g2, g3⟩
  · have e0 : f p = none := by
      cases hf : f p with
      | none => rfl
      | some v =>
        obtain ⟨x, hx, e⟩ := h4 p (by rw [hf]; simp)
        exact absurd e (g2 x hx)
    rw [e0]
    have hP := hM0.push hp g2 z
    refine ⟨clock, setBlock w b (.map (es.push ⟨kv p, z, clock⟩) (clock + 1)), by simp [Instr.mapEntry, run_underlying ht, MapKept.run_getObj_map hb, K.check w false hkl, g1, hz, MapKept.run_setObj_map _ hb, Result.andThen, setBlock], ⟨_, _, (MapKept.heap_set hb).1, hP⟩, (hgrow _ _).1, (hgrow _ _).2, fun w2 val hw2 => ?_⟩
    have hw2' : w2.heap[b]? = some (.map (es.push ⟨kv p, z, clock⟩) (clock + 1)) := by rw [hw2]; exact (MapKept.heap_set hb).1
    exact hstore _ _ _ _ es.size ⟨kv p, z, clock⟩ hP (by simp) rfl w2 val hw2'
  · have hj : es[j]? = some x := by simpa using g2
    have e0 : f p = some x.val := by
      obtain ⟨q, hq, e1, e2⟩ := h3 x (List.mem_of_getElem? g2)
      rw [g3] at e1
      rw [kv_inj e1]; exact e2
    have hsame : es.modify j (fun e => { e with key := kv p }) = es := by
      apply Array.ext'
      rw [Array.toList_modify, modify_eq_set _ _ _ _ g2]
      have : ({ x with key := kv p } : MapEntry) = x := by rw [← g3]
      rw [this]
      exact WideElems.set_self _ _ _ g2
    have hfe : updO f p x.val = f := by
      funext q
      unfold updO
      by_cases hq : q = p
      · rw [if_pos hq, hq, e0]
      · rw [if_neg hq]
    have hP : Mes es clock (n + 1) (updO f p x.val) := by rw [hfe]; exact ⟨by omega, hs, h3, h4⟩
    rw [e0]
    refine ⟨x.born, setBlock w b (.map es clock), by simp [Instr.mapEntry, run_underlying ht, MapKept.run_getObj_map hb, K.check w false hkl, g1, hj, g3, K.stays w hkl, hsame, MapKept.run_setObj_map _ hb, Result.andThen, setBlock], ⟨_, _, (MapKept.heap_set hb).1, hP⟩, (hgrow _ _).1, (hgrow _ _).2, fun w2 val hw2 => ?_⟩
    have hw2' : w2.heap[b]? = some (.map es clock) := by rw [hw2]; exact (MapKept.heap_set hb).1
    exact hstore _ _ _ _ j x hP g2 g3 w2 val hw2'
end
section
variable {P : Program} (w : World) {ops : Array Oper} {rest : List Oper} {o : Oper} {a : Act} {Q : Exit → Act → World → Prop}
theorem wpList_entry_mq (hg : o.guard = none) (m x : Operand) (t : TypeId) (hop : o.op = Op.mapEntry t m x) {key : Value} (hx : a.eval x = key) {b st : Nat} {v0 : Value} {w1 : World} (hm : a.eval m = .map (some b))
    (hrun : (Instr.mapEntry t (.map (some b)) key).run P w = .ok (.tuple #[v0, goInt st]) w1)
    (hK : wpList P ops Q rest (a.put o.dst (.tuple #[v0, goInt st])) w1) : wpList P ops Q (o :: rest) a w := by
  refine wpList_plain hg fun K' hK' => ?_
  unfold Oper.wp
  simp [execOp, hop, hm, hx, hrun, Result.andThen]
  exact hK' _ _ hK
theorem wpList_entryStore_mq (hg : o.guard = none) (m s x : Operand) (t : TypeId) (hop : o.op = Op.entryStore t m s x) {val : Value} (hx : a.eval x = val) {b st : Nat} {w1 : World} (hm : a.eval m = .map (some b)) (hs : a.eval s = goInt st)
    (hrun : (Instr.entryStore t (.map (some b)) (goInt st) val).run P w = .ok () w1)
    (hK : wpList P ops Q rest (a.put o.dst undef) w1) : wpList P ops Q (o :: rest) a w := by
  refine wpList_plain hg fun K' hK' => ?_
  unfold Oper.wp
  simp [execOp, hop, hm, hx, hs, hrun, Result.andThen]
  exact hK' _ _ hK
end
theorem cellKey_law : KeyLaw Try.prog 45 := deep_law_gate (by kernel_rfl) (of_decide_eq_true (by kernel_rfl)) (of_decide_eq_true (by kernel_rfl)) (by kernel_rfl) (by kernel_rfl)
set_option maxRecDepth 100000 in
theorem cellKey_of {p : Int × Int} (hp : inB p) : ∃ l, keyOf Try.prog 45 (kv p) = some l := by
  obtain ⟨a, b⟩ := p
  obtain ⟨⟨ha, ha'⟩, hb, hb'⟩ := hp
  have wa : (Lit.int .u64 a).wf = true := by simp [Lit.wf, IntKind.min, IntKind.max, IntKind.bits, IntKind.signed] <;> omega
  have wb : (Lit.int .u64 b).wf = true := by simp [Lit.wf, IntKind.min, IntKind.max, IntKind.bits, IntKind.signed] <;> omega
  have c1 : Try.prog.cellsOf 45 = 2 := by kernel_rfl
  have c2 : Try.prog.cellsOf 35 = 1 := by kernel_rfl
  have c3 : Try.prog.keyType 45 = true := by kernel_rfl
  obtain ⟨m, hm⟩ : ∃ m, Try.prog.types.size = m + 1 := ⟨Try.prog.types.size - 1, by have : 0 < Try.prog.types.size := of_decide_eq_true (by kernel_rfl); omega⟩
  have c4 : (Value.agg #[.int .u64 a, .int .u64 b]).formed Try.prog 45 = true := by
    kernel_rfl
  unfold keyOf kv
  simp only [Try.underlying45, c3, c4, Bool.and_true, if_true, hm]
  unfold Program.keyLits
  simp [Try.underlying45, Value.cells, c1, c2]
  unfold Program.keyLits
  simp [Try.underlying35, wa, wb]
end Go.Proofs.Ytloiadhdkgkjkaa
/- opaque.Never, plain: what is counted, what never stood there; bounds on what see gathers. -/
namespace Go.Proofs.Ytloiadhdkgkjkaa
set_option maxHeartbeats 1000000
set_option linter.unusedVariables false
set_option linter.unusedSimpArgs false
/-- All words that see has gathered are words. -/
structure VB (v : Vw) : Prop where
  ce : ∀ a, ∀ p ∈ v.cells a, 0 ≤ p.2 ∧ p.2 ≤ 18446744073709551615
  ws : ∀ t, ∀ p ∈ (v.now t).ws, 0 ≤ p.2 ∧ p.2 ≤ 18446744073709551615
  rd : ∀ x ∈ v.sights, ∀ p ∈ x.reads, inB p
theorem cutL_sub {l : List (Nat × Int)} {n : Nat} {p : Nat × Int} (h : p ∈ cutL l n) : p ∈ l := by
  unfold cutL at h
  split at h
  · exact List.dropLast_subset l h
  · exact h
theorem putAll_word {n : Nat} : ∀ {ws : List (Int × Int)} {c : Nat → List (Nat × Int)}, (∀ a, ∀ p ∈ c a, 0 ≤ p.2 ∧ p.2 ≤ 18446744073709551615) → (∀ p ∈ ws, 0 ≤ p.2 ∧ p.2 ≤ 18446744073709551615) → ∀ a, ∀ p ∈ putAll c n ws a, 0 ≤ p.2 ∧ p.2 ≤ 18446744073709551615
  | [], c, h, _ => h
  | q :: ws, c, h, hq => by
    refine putAll_word (ws := ws) (c := putC c n q) (fun a p hp => ?_) (fun p hp => hq p (List.mem_cons_of_mem _ hp))
    unfold putC at hp
    split at hp
    · rcases List.mem_append.1 hp with hp | hp
      · exact h a p (cutL_sub hp)
      · rw [List.mem_singleton] at hp
        subst hp
        exact hq q (List.mem_cons_self ..)
    · exact h a p hp
theorem VB.start (first : List Int) (h : ∀ x ∈ first, 0 ≤ x ∧ x ≤ 18446744073709551615) : VB (vw0 first) where
  ce := fun a p hp => by
    simp only [vw0, List.mem_singleton] at hp
    subst hp
    dsimp only
    rw [List.getD_eq_getElem?_getD]
    rcases Nat.lt_or_ge a first.length with ha | ha
    · rw [List.getElem?_eq_getElem ha]; exact h _ (List.getElem_mem ha)
    · rw [List.getElem?_eq_none ha]; simp
  ws := fun t p hp => by simp [vw0] at hp
  rd := fun x hx => by simp [vw0] at hx
theorem upd_ws {now : Nat → Nw} {k : Nat} {x : Nw} (h : ∀ t, ∀ p ∈ (now t).ws, 0 ≤ p.2 ∧ p.2 ≤ 18446744073709551615) (hx : ∀ p ∈ x.ws, 0 ≤ p.2 ∧ p.2 ≤ 18446744073709551615) : ∀ t, ∀ p ∈ (upd now k x t).ws, 0 ≤ p.2 ∧ p.2 ≤ 18446744073709551615 := fun t p hp => by
  unfold upd at hp
  split at hp
  · exact hx p hp
  · exact h t p hp
theorem VB.ev {v : Vw} {e : Ev} {T : List Tr} (h : VB v) (he : EvWf e) : VB (vEv T v e) := by
  obtain ⟨-, -, ha, hw, -⟩ := he
  unfold vEv
  dsimp only
  split
  · refine ⟨h.ce, upd_ws h.ws (by simp), fun x hx => ?_⟩
    rcases List.mem_append.1 hx with hx | hx
    · exact h.rd x hx
    · rw [List.mem_singleton] at hx; subst hx; simp
  split
  · split
    · exact h
    · refine ⟨h.ce, h.ws, fun x hx => ?_⟩
      rcases List.mem_or_eq_of_mem_set hx with hx | hx
      · exact h.rd x hx
      · subst hx
        intro p hp
        dsimp only at hp
        rcases List.mem_append.1 hp with hp | hp
        · rcases sg_zero_or (l := v.sights) (v.now e.th.toNat).tri with hz | hz
          · rw [hz] at hp; simp [Sg.zero] at hp
          · exact h.rd _ hz p hp
        · rw [List.mem_singleton] at hp
          subst hp
          exact ⟨ha, hw⟩
  split
  · refine ⟨h.ce, upd_ws h.ws (fun p hp => ?_), h.rd⟩
    rcases List.mem_append.1 hp with hp | hp
    · exact h.ws _ p hp
    · rw [List.mem_singleton] at hp
      subst hp
      exact hw
  split
  · exact ⟨h.ce, upd_ws h.ws (h.ws _), h.rd⟩
  split
  · exact ⟨putAll_word h.ce (h.ws _), h.ws, h.rd⟩
  · exact h
theorem VB.tail {v : Vw} (h : VB v) (i : Nat) (e : Ev) : VB (vTl v i e) := by
  unfold vTl
  dsimp only
  split
  · refine ⟨h.ce, h.ws, fun x hx => ?_⟩
    rcases List.mem_or_eq_of_mem_set hx with hx | hx
    · exact h.rd x hx
    · subst hx
      rcases sg_zero_or (l := v.sights) (v.now e.th.toNat).tri with hz | hz
      · rw [hz]; simp [Sg.zero]
      · exact h.rd (v.sights.getD (v.now e.th.toNat).tri Sg.zero) hz
  · exact h
theorem evAt_mem {l : List Ev} {k : Nat} (h : k < l.length) : evAt l k ∈ l := by
  unfold evAt
  rw [List.getD_eq_getElem?_getD, List.getElem?_eq_getElem h]
  exact List.getElem_mem h
theorem VB.vn {first : List Int} {T : List Tr} {l : List Ev} (hb : ∀ x ∈ first, 0 ≤ x ∧ x ≤ 18446744073709551615) (hl : ∀ e ∈ l, EvWf e) : ∀ {k : Nat}, k ≤ l.length → VB (vn first T l k)
  | 0, _ => VB.start first hb
  | k + 1, hk => ((VB.vn hb hl (k := k) (by omega)).ev (hl _ (evAt_mem (by omega)))).tail _ _
def rdN (v : Vw) : Nat := (v.sights.map fun x => x.reads.length).sum
theorem sum_set (f : Sg → Nat) (c : Nat) : ∀ (l : List Sg) (q : Nat) (y : Sg), (q < l.length → f y ≤ f (l.getD q Sg.zero) + c) → ((l.set q y).map f).sum ≤ (l.map f).sum + c
  | [], q, y, _ => by simp
  | x :: l, 0, y, h => by have := h (by simp); simp at this ⊢; omega
  | x :: l, q + 1, y, h => by
    have ih := sum_set f c l q y (fun hq => by have := h (by simpa using hq); simpa using this)
    simp only [List.set_cons_succ, List.map_cons, List.sum_cons]
    omega
theorem rdN_ev (T : List Tr) (v : Vw) (e : Ev) : rdN (vEv T v e) ≤ rdN v + 1 := by
  unfold vEv
  dsimp only
  split
  · simp [rdN]
  split
  · split
    · omega
    · exact sum_set _ 1 _ _ _ (fun _ => by simp)
  split
  · exact Nat.le_succ _
  split
  · exact Nat.le_succ _
  split
  · exact Nat.le_succ _
  · exact Nat.le_succ _
theorem rdN_tl (v : Vw) (i : Nat) (e : Ev) : rdN (vTl v i e) ≤ rdN v := by
  unfold vTl
  dsimp only
  split
  · exact sum_set (fun x => x.reads.length) 0 _ _ _ (fun _ => by simp)
  · exact Nat.le_refl _
theorem rdN_vn (first : List Int) (T : List Tr) (l : List Ev) : ∀ k, rdN (vn first T l k) ≤ k
  | 0 => by simp [vn, vw0, rdN]
  | k + 1 => by
    unfold vn
    have := rdN_vn first T l k
    have := rdN_ev T (vn first T l k) (evAt l k)
    have := rdN_tl (vEv T (vn first T l k) (evAt l k)) k (evAt l k)
    omega
/-- This word stood in this cell once. -/
def seenB (cells : Nat → List (Nat × Int)) (c : Int × Int) : Bool := (cells c.1.toNat).any fun p => p.2 == c.2
/-- What was read, and never stood there, in the order of the attempts. -/
def nevK (v : Vw) (k j : Nat) : List (Int × Int) := (((v.sights.take k).flatMap fun x => x.reads) ++ ((v.sights.getD k Sg.zero).reads.take j)).filter fun c => !(seenB v.cells c)
def nevU (v : Vw) : List (Int × Int) := (v.sights.flatMap fun x => x.reads).filter fun c => !(seenB v.cells c)
def neverL (v : Vw) : List (Int × Int) := compC (srtC (nevU v))
theorem nevK_all (v : Vw) : nevK v v.sights.length 0 = nevU v := by
  unfold nevK nevU
  rw [List.take_length, List.take_zero, List.append_nil]
theorem nevK_next {v : Vw} {k : Nat} (hk : k < v.sights.length) : nevK v k (v.sights.getD k Sg.zero).reads.length = nevK v (k + 1) 0 := by
  unfold nevK
  rw [List.take_length, List.take_zero, List.append_nil, List.take_succ_eq_append_getElem hk, List.flatMap_append]
  simp [List.getD_eq_getElem?_getD, List.getElem?_eq_getElem hk]
theorem nevK_step {v : Vw} {k j : Nat} {c : Int × Int} (hc : (v.sights.getD k Sg.zero).reads[j]? = some c) : nevK v k (j + 1) = if seenB v.cells c = true then nevK v k j else nevK v k j ++ [c] := by
  unfold nevK
  rw [List.take_add_one, hc, ← List.append_assoc, List.filter_append]
  by_cases h : seenB v.cells c = true
  · rw [if_pos h]; simp [h]
  · rw [if_neg h]; simp [h]
theorem sum_take_le (f : Sg → Nat) : ∀ (l : List Sg) (k : Nat), ((l.take k).map f).sum + (if k < l.length then f (l.getD k Sg.zero) else 0) ≤ (l.map f).sum
  | [], k => by simp
  | x :: l, 0 => by simp
  | x :: l, k + 1 => by
    have ih := sum_take_le f l k
    simp only [List.take_succ_cons, List.map_cons, List.sum_cons, List.length_cons, List.getD_cons_succ, Nat.add_lt_add_iff_right]
    omega
theorem nevK_len (v : Vw) {k : Nat} (j : Nat) (hk : k < v.sights.length) : (nevK v k j).length ≤ rdN v := by
  unfold nevK
  refine Nat.le_trans (List.length_filter_le _ _) ?_
  rw [List.length_append, List.length_flatMap, List.length_take]
  have := sum_take_le (fun x => x.reads.length) v.sights k
  rw [if_pos hk] at this
  unfold rdN
  omega
theorem nevU_len (v : Vw) : (nevU v).length ≤ rdN v := by
  unfold nevU rdN
  refine Nat.le_trans (List.length_filter_le _ _) ?_
  rw [List.length_flatMap]
  exact Nat.le_refl _
/-- A map that counts. -/
def fC (cnt : Int × Int → Nat) (p : Int × Int) : Option Value := if cnt p = 0 then none else some (.int .i64 (cnt p))
theorem fC_get (cnt : Int × Int → Nat) (p : Int × Int) : (fC cnt p).getD (.int .i64 0) = .int .i64 (cnt p) := by
  unfold fC
  by_cases h : cnt p = 0
  · rw [if_pos h, h]; rfl
  · rw [if_neg h]; rfl
def addC (cnt : Int × Int → Nat) (p : Int × Int) : Int × Int → Nat := fun q => if q = p then cnt p + 1 else cnt q
theorem fC_add (cnt : Int × Int → Nat) (p : Int × Int) : updO (fC cnt) p (.int .i64 ((cnt p + 1 : Nat) : Int)) = fC (addC cnt p) := by
  funext q
  unfold updO fC addC
  by_cases h : q = p
  · rw [if_pos h, if_pos h, if_neg (by omega)]
  · rw [if_neg h, if_neg h]
/-- So often it was counted: the cells that were visited, and of cell a so many words. -/
def cntV (size : Nat) (cells : Nat → List (Nat × Int)) (vis : Nat → Bool) (a k : Nat) (p : Int × Int) : Nat :=
  if 0 ≤ p.1 ∧ p.1 < (size : Int) then (if p.1.toNat = a then ((cells a).take k).countP (fun q => q.2 == p.2) else if vis p.1.toNat = true then (cells p.1.toNat).countP (fun q => q.2 == p.2) else 0) else 0
theorem cntV_start {size : Nat} {cells : Nat → List (Nat × Int)} (a : Nat) : cntV size cells (fun _ => false) a 0 = fun _ => 0 := by
  funext p
  unfold cntV
  simp
theorem cntV_in {size a : Nat} {cells : Nat → List (Nat × Int)} {vis : Nat → Bool} (ha : vis a = false) : cntV size cells vis size 0 = cntV size cells vis a 0 := by
  funext p
  unfold cntV
  simp only [List.take_zero]
  by_cases h : 0 ≤ p.1 ∧ p.1 < (size : Int)
  · rw [if_pos h, if_pos h, if_neg (by omega)]
    by_cases h1 : p.1.toNat = a
    · rw [if_pos h1, h1, ha]; rfl
    · rw [if_neg h1]
  · rw [if_neg h, if_neg h]
theorem cntV_out {size a : Nat} {cells : Nat → List (Nat × Int)} {vis : Nat → Bool} : cntV size cells vis a (cells a).length = cntV size cells (upd vis a true) size 0 := by
  funext p
  unfold cntV
  by_cases h : 0 ≤ p.1 ∧ p.1 < (size : Int)
  · rw [if_pos h, if_pos h, List.take_length, if_neg (show ¬ p.1.toNat = size by omega)]
    by_cases h1 : p.1.toNat = a
    · rw [if_pos h1, if_pos (by rw [h1, upd_at]), h1]
    · rw [if_neg h1, upd_ne _ _ h1]
  · rw [if_neg h, if_neg h]
theorem cntV_add {size a k : Nat} {cells : Nat → List (Nat × Int)} {vis : Nat → Bool} (ha : a < size) {q : Nat × Int} (hq : (cells a)[k]? = some q) : addC (cntV size cells vis a k) ((a : Int), q.2) = cntV size cells vis a (k + 1) := by
  funext p
  unfold addC
  by_cases h : p = ((a : Int), q.2)
  · rw [if_pos h]
    subst h
    unfold cntV
    dsimp only
    rw [if_pos (show 0 ≤ (a : Int) ∧ (a : Int) < (size : Int) from ⟨by omega, by omega⟩), if_pos (Int.toNat_natCast a), List.take_add_one, hq, List.countP_append]
    simp [ha]
  · rw [if_neg h]
    unfold cntV
    by_cases h0 : 0 ≤ p.1 ∧ p.1 < (size : Int)
    · rw [if_pos h0, if_pos h0]
      by_cases h1 : p.1.toNat = a
      · rw [if_pos h1, if_pos h1, List.take_add_one, hq, List.countP_append]
        have hne : (q.2 == p.2) = false := by
          rw [beq_eq_false_iff_ne]
          intro e
          exact h (Prod.ext (by show p.1 = (a : Int); omega) e.symm)
        simp [hne]
      · rw [if_neg h1, if_neg h1]
    · rw [if_neg h0, if_neg h0]
theorem cntV_le {size : Nat} {cells : Nat → List (Nat × Int)} {vis : Nat → Bool} {a k n : Nat} (hn : ∀ b, b < size → (cells b).length ≤ n) (ha : a < size) (p : Int × Int) : cntV size cells vis a k p ≤ n := by
  unfold cntV
  split
  · rename_i h
    split
    · refine Nat.le_trans List.countP_le_length ?_
      rw [List.length_take]
      have := hn a ha
      omega
    · split
      · exact Nat.le_trans List.countP_le_length (hn _ (by omega))
      · exact Nat.zero_le _
  · exact Nat.zero_le _
theorem cntV_seen {size : Nat} {cells : Nat → List (Nat × Int)} {vis : Nat → Bool} (hv : ∀ b, b < size → vis b = true) {p : Int × Int} (hp : 0 ≤ p.1 ∧ p.1 < (size : Int)) : (cntV size cells vis size 0 p = 0) ↔ seenB cells p = false := by
  unfold cntV seenB
  rw [if_pos hp, if_neg (by omega), if_pos (hv _ (by omega)), List.countP_eq_zero, List.any_eq_false]
end Go.Proofs.Ytloiadhdkgkjkaa
/- opaque: what Together and Never answer, plain; their contracts' sentences. -/
namespace Go.Proofs.Ytloiadhdkgkjkaa
open Go.RowKit
set_option maxHeartbeats 4000000
set_option linter.unusedVariables false
set_option linter.unusedSimpArgs false
/-- What Together answers: its error, the numbers. -/
def togA (first : List Int) (l : List Ev) (words : List (Int × Int)) : (Int × Int) × List Nat :=
  if (seeOdd first.length l).2 ≠ 0 then (seeOdd first.length l, [])
  else if words.any (fun c => decide (c.1 ≥ (first.length : Int))) = true then ((-1, 4), [])
  else ((-1, 0), togK (vAll first l).cells words ((vAll first l).commits + 1))
/-- What Never answers, behind its error. -/
def nevA (first : List Int) (l : List Ev) : List (Int × Int) := if (seeOdd first.length l).2 ≠ 0 then [] else neverL (vAll first l)
def TogetherC : Prop := ∀ (w : World) (Fv Hv : Value) (first : List Int) (l : List Ev) (Aw : Option Addr) (cw : Nat) (words : List (Int × Int)), OpIn w Fv Hv first l → LiesP w (.slice Aw words.length cw) words → words.length ≤ 9223372036854775807 → (∀ p ∈ words, 0 ≤ p.1) →
  Calls Try.prog 17 #[Fv, Hv, .slice Aw words.length cw] w fun x w' => Below w.heap.size w w' ∧ ∃ ov, x = .returned (.tuple #[ov, .agg #[.int .i64 (togA first l words).1.1, .int .i64 (togA first l words).1.2]]) ∧ Sl 3 1 encI w' ov (togA first l words).2 ∧ ∀ q, own ov q → w.heap.size ≤ q
def NeverC : Prop := ∀ (w : World) (Fv Hv : Value) (first : List Int) (l : List Ev), OpIn w Fv Hv first l →
  Calls Try.prog 19 #[Fv, Hv] w fun x w' => Below w.heap.size w w' ∧ ∃ ov, x = .returned (.tuple #[ov, .agg #[.int .i64 (seeOdd first.length l).1, .int .i64 (seeOdd first.length l).2]]) ∧ Sl 45 2 encC w' ov (nevA first l) ∧ ∀ q, own ov q → w.heap.size ≤ q
end Go.Proofs.Ytloiadhdkgkjkaa
/- The document's answer for chapter 16: the cells behind each number of commits; lists of lists of words in memory. -/
namespace Go.Proofs.Ytloiadhdkgkjkaa
open Go.RowKit
set_option maxHeartbeats 40000000
set_option linter.unusedVariables false
set_option linter.unusedSimpArgs false
/-- A slice's head: where, how long, how much room. -/
def encW (x : Option Addr × Nat × Nat) : List Value := [.slice x.1 x.2.1 x.2.2]
theorem encW_len (x : Option Addr × Nat × Nat) : (encW x).length = 1 := rfl
theorem encW_one (x : Option Addr × Nat × Nat) : ∀ u ∈ encW x, u.oneCell' = true := by
  intro u hu
  simp only [encW, List.mem_cons, List.not_mem_nil, or_false] at hu
  subst hu
  rfl
def headV (x : Option Addr × Nat × Nat) : Value := .slice x.1 x.2.1 x.2.2
theorem headO_info : (Try.prog.info? 22).map (fun i => (i.zero, i.size, i.bytes)) = some (some (.slice none 0 0), 1, 24) := by kernel_rfl
theorem wpList_headO {ops : Array Oper} {rest : List Oper} {o : Oper} {a : Act} {Q : Exit → Act → World → Prop} (wr : World) (hgd : o.guard = none) (s x : Operand)
    (ho : o.op = .call { callee := .builtin .append, args := #[s, x], argTypes := #[75, 75] })
    (v : Value) (l : List (Option Addr × Nat × Nat)) (y : Option Addr × Nat × Nat) (hs : a.eval s = v) (hl : Sl 22 1 encW wr v l) (hx : a.eval x = .slice (some ⟨wr.heap.size, 0, none⟩) 1 1) (hb1 : l.length + 1 ≤ 9223372036854775807) (hlen : (l.length + 1) * 24 ≤ 140737488355328)
    (h : ∀ A cap w', l.length + 1 ≤ cap → Sl 22 1 encW w' (.slice A (l.length + 1) cap) (l ++ [y]) → Fr (own v) wr (own (.slice A (l.length + 1) cap)) w' → wpList Try.prog ops Q rest (a.put o.dst (.slice A (l.length + 1) cap)) w') :
    wpList Try.prog ops Q (o :: rest) a (wr.alloc (.cells #[.slice y.1 y.2.1 y.2.2] 22)) :=
  wpList_one (enc := encW) encW_len encW_one wr hgd s x 75 ho Try.underlying75 headO_info rfl (by decide) v l y hs hl hx hb1 hlen h
/-- A list of lists of words, each in a block of its own; none of it lies below B. -/
structure StsW (B : Nat) (w : World) (ov : Value) (vs : List (Option Addr × Nat × Nat)) (L : List (List Int)) : Prop where
  sl : Sl 22 1 encW w ov vs
  len : vs.length = L.length
  at_ : ∀ i (hi : i < vs.length), Wl w (headV (vs[i]'hi)) (L.getD i [])
  geo : ∀ q, own ov q → B ≤ q
  gev : ∀ x ∈ vs, ∀ q, own (headV x) q → B ≤ q
theorem StsW.keep {B : Nat} {w w' : World} {ov : Value} {vs : List (Option Addr × Nat × Nat)} {L : List (List Int)} (h : StsW B w ov vs L) (h1 : ∀ q, own ov q → q < w.heap.size → w'.heap[q]? = w.heap[q]?) (h2 : ∀ x ∈ vs, ∀ q, own (headV x) q → q < w.heap.size → w'.heap[q]? = w.heap[q]?) : StsW B w' ov vs L where
  sl := h.sl.keep fun k hk => h1 k hk (h.sl.lt k hk)
  len := h.len
  at_ := fun i hi => (h.at_ i hi).keep fun k hk => h2 _ (List.getElem_mem hi) k hk ((h.at_ i hi).lt k hk)
  geo := h.geo
  gev := h.gev
theorem StsW.below {B : Nat} {w w' : World} {ov : Value} {vs : List (Option Addr × Nat × Nat)} {L : List (List Int)} (h : StsW B w ov vs L) (hb : Below w.heap.size w w') : StsW B w' ov vs L :=
  h.keep (fun q _ hq => hb.block q hq) (fun _ _ q _ hq => hb.block q hq)
theorem StsW.drewN {B : Nat} {w : World} {ov : Value} {vs : List (Option Addr × Nat × Nat)} {L : List (List Int)} (h : StsW B w ov vs L) (n : Nat) : StsW B (w.drewN n) ov vs L := ⟨h.sl, h.len, h.at_, h.geo, h.gev⟩
theorem flat_u64 : ∀ m : List Int, m.flatMap (fun n => [Value.int .u64 n]) = u64s m
  | [] => rfl
  | a :: m => by rw [List.flatMap_cons, flat_u64 m]; rfl
theorem wl_sl {w : World} {v : Value} {m : List Int} (h : Wl w v m) : Sl 35 1 (fun n => [Value.int .u64 n]) w v m := by
  unfold Sl
  rw [flat_u64]
  exact h
theorem StsW.snoc {B : Nat} {w w' : World} {ov ov' : Value} {vs : List (Option Addr × Nat × Nat)} {L : List (List Int)} {x : Option Addr × Nat × Nat} {m : List Int} (h : StsW B w ov vs L) (hw : Wl w (headV x) m) (hx : ∀ q, own (headV x) q → B ≤ q)
    (hS : Sl 22 1 encW w' ov' (vs ++ [x])) (hF : Fr (own ov) w (own ov') w') (hB : B ≤ w.heap.size) : StsW B w' ov' (vs ++ [x]) (L ++ [m]) where
  sl := hS
  len := by rw [List.length_append, List.length_append, h.len]; rfl
  at_ := fun i hi => by
    by_cases hi2 : i < vs.length
    · rw [List.getElem_append_left hi2, List.getD_eq_getElem?_getD, List.getElem?_append_left (by rw [← h.len]; exact hi2), ← List.getD_eq_getElem?_getD]
      refine (h.at_ i hi2).keep fun k hk => hF.block k ((h.at_ i hi2).lt k hk) fun ho => ?_
      obtain ⟨cs, hb⟩ := h.sl.ofBlk ho
      exact absurd hk (Sl.ne_ (e := 35) (show Sl 35 1 (fun n => [Value.int .u64 n]) w _ (L.getD i []) from wl_sl (h.at_ i hi2)) hb (by decide))
    · have e : i = vs.length := by rw [List.length_append] at hi; simp at hi; omega
      subst e
      rw [List.getElem_append_right (Nat.le_refl _)]
      simp only [Nat.sub_self, List.getElem_cons_zero]
      rw [h.len, List.getD_eq_getElem?_getD, List.getElem?_append_right (Nat.le_refl _)]
      simp only [Nat.sub_self, List.getElem?_cons_zero, Option.getD_some]
      refine hw.keep fun k hk => hF.block k (hw.lt k hk) fun ho => ?_
      obtain ⟨cs, hb⟩ := h.sl.ofBlk ho
      exact absurd hk (Sl.ne_ (e := 35) (show Sl 35 1 (fun n => [Value.int .u64 n]) w _ m from wl_sl hw) hb (by decide))
  geo := hF.ge h.geo hB
  gev := fun y hy q hq => by
    rw [List.mem_append, List.mem_singleton] at hy
    rcases hy with hy | hy
    · exact h.gev y hy q hq
    · subst hy; exact hx q hq
/-- 'append([]uint64(nil), m...)'. -/
theorem wpList_wcopy {ops : Array Oper} {rest : List Oper} {o : Oper} {a : Act} {Q : Exit → Act → World → Prop} (wr : World) (hgd : o.guard = none) (s x : Operand)
    (ho : o.op = .call { callee := .builtin .append, args := #[s, x], argTypes := #[22, 22] })
    (u : Value) (m : List Int) (hs : a.eval s = .slice none 0 0) (hx : a.eval x = u) (hm : Lies wr u m) (hlen : m.length * 8 ≤ 140737488355328)
    (h : ∀ A cap w', m.length ≤ cap → Wl w' (.slice A m.length cap) m → Below wr.heap.size wr w' → (∀ q, own (.slice A m.length cap) q → wr.heap.size ≤ q) → wpList Try.prog ops Q rest (a.put o.dst (.slice A m.length cap)) w') :
    wpList Try.prog ops Q (o :: rest) a wr := by
  refine wpList_words wr hgd s x ho (.slice none 0 0) u [] m hs (Wl.nil _) hx hm (by simpa using hlen) ?_
  intro A cap w' h1 h2 h3
  simp only [List.length_nil, Nat.zero_add, List.nil_append] at h1 h2 h3 ⊢
  exact h A cap w' h1 h2 (h3.below (fun q hq => absurd hq (no_own_nil q)) (Nat.le_refl _)) (h3.ge (fun q hq => absurd hq (no_own_nil q)) (Nat.le_refl _))
/-- The Writes of a thread in n events from a place on, laid into the cells. -/
def apF (l : List Ev) (th : Int) (fr : Nat) (now : List Int) : Nat → List Int
  | 0 => now
  | n + 1 => if (evAt l (fr + n)).th = th ∧ (evAt l (fr + n)).kd = 3 then (apF l th fr now n).set (evAt l (fr + n)).ad.toNat (evAt l (fr + n)).wd else apF l th fr now n
theorem apF_len (l : List Ev) (th : Int) (fr : Nat) (now : List Int) : ∀ n, (apF l th fr now n).length = now.length
  | 0 => rfl
  | n + 1 => by
    unfold apF
    split
    · rw [List.length_set]; exact apF_len l th fr now n
    · exact apF_len l th fr now n
def stS (first : List Int) (l : List Ev) (W : List Nat) : Nat → List Int × List (List Int)
  | 0 => (first, [first])
  | j + 1 =>
    let c := W.getD j 0
    let th := (evAt l c).th
    let b := begF l th (c + 1)
    let now := apF l th b (stS first l W j).1 (c - b)
    (now, (stS first l W j).2 ++ [now])
theorem stS_len (first : List Int) (l : List Ev) (W : List Nat) : ∀ j, (stS first l W j).1.length = first.length ∧ (stS first l W j).2.length = j + 1
  | 0 => ⟨rfl, rfl⟩
  | j + 1 => by
    obtain ⟨h1, h2⟩ := stS_len first l W j
    unfold stS
    dsimp only
    exact ⟨by rw [apF_len]; exact h1, by rw [List.length_append, h2]; rfl⟩
theorem begF_le (l : List Ev) (t : Int) : ∀ n, begF l t (n + 1) ≤ n
  | 0 => by unfold begF; split <;> simp [begF]
  | n + 1 => by
    have := begF_le l t n
    unfold begF
    split
    · exact Nat.le_refl _
    · omega
end Go.Proofs.Ytloiadhdkgkjkaa
/- The document's answer for chapter 16: States by contract. -/
namespace Go.Proofs.Ytloiadhdkgkjkaa
open Go.RowKit
set_option maxHeartbeats 40000000
set_option linter.unusedVariables false
set_option linter.unusedSimpArgs false
set_option maxRecDepth 100000 in
theorem rstates_b {w : World} {Fv : Value} {A : Option Addr} {cp : Nat} {first : List Int} {l : List Ev} (hF : Lies w Fv first) (hL : LiesV w (.slice A l.length cp) l) (hth : ∀ k, k < l.length → 0 ≤ (evAt l k).th ∧ (evAt l k).th < 8)
    (had : ∀ k, k < l.length → (evAt l k).kd = 3 → 0 ≤ (evAt l k).ad ∧ (evAt l k).ad < (first.length : Int)) (hfl : first.length ≤ 65536) :
    Calls Try.prog 31 #[Fv, .slice A l.length cp] w fun x w' => Below w.heap.size w w' ∧ ∃ ov vs, x = .returned ov ∧ StsW w.heap.size w' ov vs (stS first l (wrS l l.length).2 (wrS l l.length).2.length).2 := by
  have hln := hL.len
  have hlen : (l.length : Int) ≤ 9223372036854775807 := by omega
  have C1 := Lib.hid (fun W (h : LiesV W (.slice A l.length cp) l) => rwriting_b h hth)
  have hWl := wrS_lt l l.length
  have hWn := wrS_len l l.length
  generalize (wrS l l.length).2 = W at *
  obtain ⟨Af, cf, rfl, -⟩ := (show ∃ A cp, Fv = .slice A first.length cp ∧ True from by obtain ⟨A, cp, h1, _⟩ := hF; exact ⟨A, cp, h1, trivial⟩)
  replace hL := Lib.hid hL
  replace hF := Lib.hid hF
  replace hth := Lib.hid hth
  replace had := Lib.hid had
  replace hWl := Lib.hid hWl
  have hf8 : Hid (first.length * 8 ≤ 140737488355328) := Lib.hid (by omega)
  go_enter Try.func31, Try.ntmps31
  go_wp2_with (at_builtin; first | (refine wpList_wcopy w rfl _ _ rfl _ first rfl rfl hF.out hf8.out ?_; intro A1 cap1 w1 hc1 hW1 hb1 ho1) | (refine wpList_wcopy w1 rfl _ _ rfl _ first rfl rfl hW1.lies hf8.out ?_; intro A2 cap2 w2 hc2 hW2 hb2 ho2))
  have hb2' := hb1.trans (hb2.mono hb1.size)
  have ho2' : ∀ q, own (.slice A2 first.length cap2) q → w.heap.size ≤ q := fun q hq => Nat.le_trans hb1.size (ho2 q hq)
  have hN2 := hW1.keep (w' := w2) fun k hk => hb2.block k (hW1.lt k hk)
  have hap : ∀ q, own (.slice A2 first.length cap2) q → ¬ own (.slice A1 first.length cap1) q := fun q h1 h2 => by have := ho2 q h1; have := hW1.lt q h2; omega
  obtain ⟨w3, hw3⟩ : ∃ w3, w3 = w2.alloc (.cells #[.slice A2 first.length cap2] 22) := ⟨_, rfl⟩
  have hT3 : StsW w.heap.size w3 (.slice (some ⟨w2.heap.size, 0, none⟩) 1 1) [(A2, first.length, cap2)] [first] := by
    rw [hw3]
    refine ⟨Sl.new (e := 22) encW_len w2 [(A2, first.length, cap2)] (by simp), rfl, fun i hi => ?_, fun q hq => ?_, fun x hx q hq => ?_⟩
    · have e : i = 0 := by simpa using hi
      subst e
      exact hW2.alloc _
    · have e : w2.heap.size = q := by simpa [own, Value.ownBlock] using hq
      have := hb2'.size
      omega
    · rw [List.mem_singleton] at hx
      subst hx
      exact ho2' q hq
  have hN3 : Wl w3 (.slice A1 first.length cap1) first := by rw [hw3]; exact hN2.alloc _
  have hb3 : Below w.heap.size w w3 := by rw [hw3]; exact hb2'.alloc hb2'.size _
  have C2 := Lib.hid (C1.out w3 (hL.out.below hb3 (Nat.le_refl _)))
  replace hw3 := Lib.hid hw3
  replace ho1 := Lib.hid ho1
  clear hW1 hb1 hW2 hb2 ho2 hb2' ho2' hN2 hc1 hc2 C1 hF
  go_wp2_with fail
  rw [← hw3.out]
  refine C2.out.mono ?_
  rintro _ w4 ⟨hb4, ovW, rfl, hSW, hoW⟩
  obtain ⟨AW, cW, rfl, -⟩ := hSW.shape
  have hT4 := Lib.hid (hT3.below hb4)
  have hN4 := Lib.hid (hN3.keep (w' := w4) fun k hk => hb4.block k (hN3.lt k hk))
  have hbw4 := Lib.hid (hb3.trans (hb4.mono hb3.size))
  replace hSW := Lib.hid hSW
  have hap4 : Hid (∀ x ∈ [(A2, first.length, cap2)], ∀ q, own (headV x) q → ¬ own (.slice A1 first.length cap1) q) := Lib.hid fun x hx q hq => by
    rw [List.mem_singleton] at hx
    subst hx
    exact hap q hq
  have hWlen : (W.length : Int) ≤ 9223372036854775807 := by omega
  clear hb4 hoW C2 hT3 hN3 hb3 hap
  go_wp2
  go_loopw [6, 8] (fun c6 c8 wr => ∃ (j : Nat) (vs : List (Option Addr × Nat × Nat)), j ≤ W.length ∧ c8 = .int .i64 (j : Int) ∧ Hid (StsW w.heap.size wr c6 vs (stS first l W j).2) ∧ Hid (Wl wr (.slice A1 first.length cap1) (stS first l W j).1) ∧ Hid (∀ x ∈ vs, ∀ q, own (headV x) q → ¬ own (.slice A1 first.length cap1) q) ∧ Hid (Sl 3 1 encI wr (.slice AW W.length cW) W) ∧ Hid (Below w.heap.size w wr)) (fun _ c8 _ => W.length - (intOf c8).toNat)
  case atStart => exact ⟨0, _, Nat.zero_le _, rfl, hT4, hN4, hap4, hSW, hbw4⟩
  case round =>
    obtain ⟨j, vs, hj, rfl, hT, hN, hap, hS, hbr⟩ := hrel
    clear hT4 hN4 hap4 hSW hbw4
    by_cases hlt : j < W.length
    · have hc : W.getD j 0 < l.length := by rw [List.getD_eq_getElem?_getD, List.getElem?_eq_getElem hlt]; exact hWl.out _ (List.getElem_mem hlt)
      obtain ⟨gW, oW, rfl, -, cW0⟩ := hS.out.cell encI_len (by decide) hlt
      have k0 := (cW0 j hlt 0 (by decide)).1
      simp only [encI, List.getElem?_cons_zero, Nat.add_zero, Nat.mul_one] at k0
      have hsu : Hid (stS first l W (j + 1) = (apF l (evAt l (W.getD j 0)).th (begF l (evAt l (W.getD j 0)).th (W.getD j 0 + 1)) (stS first l W j).1 (W.getD j 0 - begF l (evAt l (W.getD j 0)).th (W.getD j 0 + 1)), (stS first l W j).2 ++ [apF l (evAt l (W.getD j 0)).th (begF l (evAt l (W.getD j 0)).th (W.getD j 0 + 1)) (stS first l W j).1 (W.getD j 0 - begF l (evAt l (W.getD j 0)).th (W.getD j 0 + 1))])) := Lib.hid rfl
      have e0 : W[j] = W.getD j 0 := by rw [List.getD_eq_getElem?_getD, List.getElem?_eq_getElem hlt]; rfl
      rw [e0] at k0
      generalize W.getD j 0 = c at *
      have CB := Lib.hid (rbegin_b (hL.out.below hbr.out (Nat.le_refl _)) hc)
      have hbc := begF_le l (evAt l c).th c
      obtain ⟨th, hthc⟩ : ∃ th, (evAt l c).th = th := ⟨_, rfl⟩
      rw [hthc] at CB hsu hbc
      generalize begF l th (c + 1) = b at *
      have hsl := (stS_len first l W j).1
      have hs2 := (stS_len first l W j).2
      generalize stS first l W j = s at *
      obtain ⟨now, L⟩ := s
      dsimp only at hT hN hsu hsl hs2
      have b1 : (j : Int) < W.length := by omega
      have hWj := Lib.hid e0
      clear cW0 e0
      replace hthc := Lib.hid hthc
      replace hs2 := Lib.hid hs2
      go_wp2_with fail
      refine CB.out.mono ?_
      rintro _ _ ⟨rfl, n1, rfl⟩
      obtain ⟨wq, hwq⟩ : ∃ wq, wq = wr.drewN n1 := ⟨_, rfl⟩
      have hTq := Lib.hid (hT.out.drewN n1)
      have hNq := Lib.hid (hN.out.drewN n1)
      have hSq := Lib.hid (hS.out.drewN n1)
      have hbq := Lib.hid (below_drewNs hbr.out n1)
      have kq : (wr.drewN n1).cell? ⟨gW, oW + j, none⟩ = some (.int .i64 c) := k0
      rw [← hwq] at hTq hNq hSq hbq kq ⊢
      clear hT hN hS hbr k0 CB hwq
      go_wp2
      go_loopw [9] (fun c9 wr => ∃ n : Nat, n ≤ c - b ∧ c9 = .int .i64 ((b + n : Nat) : Int) ∧ Hid (Wl wr (.slice A1 first.length cap1) (apF l th b now n)) ∧ Hid (Fr (own (.slice A1 first.length cap1)) wq (own (.slice A1 first.length cap1)) wr)) (fun c9 _ => c + 1 - (intOf c9).toNat)
      case atStart => exact ⟨0, Nat.zero_le _, rfl, hNq, Lib.hid (Fr.refl _ _)⟩
      case round =>
        obtain ⟨n, hn, rfl, hNn, hFr⟩ := hrel
        have hbn := Lib.hid (hbq.out.trans (hFr.out.below ho1.out hbq.out.size))
        have hSn := Lib.hid (hSq.out.fr hFr.out (fun k h1 h2 => by obtain ⟨cs, hb⟩ := hSq.out.ofBlk h1; exact Sl.ne_ (wl_sl hNq.out) hb (by decide) h2))
        obtain ⟨gW', oW', eW, -, cW0⟩ := hSn.out.cell encI_len (by decide) hlt
        injection eW with eW
        injection eW with e1 e2
        subst e1 e2
        have kn := (cW0 j hlt 0 (by decide)).1
        rw [hWj.out] at kn
        simp only [encI, List.getElem?_cons_zero, Nat.add_zero, Nat.mul_one] at kn
        clear cW0
        by_cases hnc : n < c - b
        · have hmc : b + n < c := by omega
          have hml : b + n < l.length := by omega
          obtain ⟨g, o, rfl, hce⟩ := (hL.out.below hbn.out (Nat.le_refl _)).at hc
          obtain ⟨y0, -, -, -, -, -⟩ := hce c hc
          obtain ⟨d0, d1, d2, d3, -, -⟩ := hce (b + n) hml
          rw [hthc.out] at y0
          have hu : Hid (apF l th b now (n + 1) = if (evAt l (b + n)).th = th ∧ (evAt l (b + n)).kd = 3 then (apF l th b now n).set (evAt l (b + n)).ad.toNat (evAt l (b + n)).wd else apF l th b now n) := Lib.hid rfl
          have hadn := had.out (b + n) hml
          generalize evAt l (b + n) = ev at *
          obtain ⟨x0, x1, ad, wd, ow, er⟩ := ev
          dsimp only at d0 d1 d2 d3 hu hadn
          have hcI : (c : Int) < (l.length : Int) := by omega
          generalize hm : b + n = m at *
          have hmI : (m : Int) < (c : Int) := by omega
          have hmI2 : (m : Int) < (l.length : Int) := by omega
          have w1 := IntWalk.i64_in (n := (m : Int) + 1) (by omega)
          replace hm := Lib.hid hm
          clear hce
          by_cases g0 : x0 = th
          · have g1 : (x0 == th) = true := by simpa using g0
            by_cases g2 : x1 = 3
            · have g3 : (x1 == 3) = true := by simpa using g2
              obtain ⟨ha0, ha1⟩ := hadn g2
              obtain ⟨a, rfl⟩ := Int.eq_ofNat_of_zero_le ha0
              rw [if_pos ⟨g0, g2⟩, Int.toNat_natCast] at hu
              have hal : a < (apF l th b now n).length := by rw [apF_len, hsl]; omega
              have hlenN : (apF l th b now n).length = first.length := by rw [apF_len, hsl]
              rw [← hlenN] at hNn
              obtain ⟨gN, oN, rfl, hgN, kc, kf, hset⟩ := Wl.upd hNn.out hal
              have hset2 := Lib.hid (hset wd)
              have hFs := Lib.hid (hFr.out.set (p := ⟨gN, oN + a, none⟩) (.inl (by simp [own, Value.ownBlock])) (.int .u64 wd))
              replace g0 := Lib.hid g0
              replace g2 := Lib.hid g2
              go_wp2
              go_quiet (fail)
              go_wp2
              obtain ⟨wz, hwz⟩ : ∃ wz, wz = wr.drewN nq := ⟨_, rfl⟩
              have z2 : (wr.drewN nq).cell? ⟨g, o + m * 6 + 2, none⟩ = some (.int .u64 a) := d2
              have z3 : (wr.drewN nq).cell? ⟨g, o + m * 6 + 3, none⟩ = some (.int .u64 wd) := d3
              have zc : (wr.drewN nq).cell? ⟨gN, oN + a, none⟩ = some (.int .u64 ((apF l th b now n).getD a 0)) := kc
              have zf : (wr.drewN nq).frozen? ⟨gN, oN + a, none⟩ = false := kf
              have hset3 := Lib.hid (fun j jj => ((show Wl (((wr.drewN nq).drewN j).setCell ⟨gN, oN + a, none⟩ (.int .u64 wd)) _ _ from hset2.out)).drewN jj)
              have hFs3 := Lib.hid (fun j jj => (((hFr.out.drewN nq).drewN j).set (p := ⟨gN, oN + a, none⟩) (.inl (by simp [own, Value.ownBlock])) (.int .u64 wd)).drewN jj)
              rw [← hwz] at z2 z3 zc zf hset3 hFs3 ⊢
              have ha1' : (a : Int) < (first.length : Int) := ha1
              clear hset2 hFs hset kc kf hNn hFr hbn hSn kn d0 d1 d2 d3 y0 hwz
              refine wp_region_mixH (fun _ => True) [3, 3, 3, 3, 3, 1, 3, 3, 3, 3, 1, 3, 2] (List.range 13) (by kernel_rfl) (by kernel_rfl) (fun _ _ h => h) trivial ?_
              (repeat ((first | refine wpMixH_pure rfl rfl (fun K hK => ?_) | refine wpMixH_loc rfl rfl (fun K hK => ?_) | refine wpMixH_any rfl rfl (fun K hK => ?_)); go_simp; refine hK _ _ ?_; clear hK K))
              refine wpMixH_loud rfl rfl (fun n3 K hK => ?_)
              go_wp2
              refine hK _ _ (fun _ => trivial) ?_; clear hK K
              refine wpMixH_nil (fun n4 => ?_)
              go_wp2
              go_roundw
              case rel => exact ⟨n + 1, by omega, by have := hm.out; go_num, Lib.hid (by rw [hu.out]; have h9 := hset3.out (1 + n3) n4; rw [List.length_set, hlenN] at h9; exact h9), Lib.hid (hFs3.out _ _)⟩
              case measure => have := hm.out; simp [intOf]; omega
            · have g3 : (x1 == 3) = false := by simpa using g2
              rw [if_neg (fun h => g2 h.2)] at hu
              replace g0 := Lib.hid g0
              replace g2 := Lib.hid g2
              go_wp2
              go_quiet (fail)
              go_wp2
              go_roundw
              case rel => exact ⟨n + 1, by omega, by have := hm.out; go_num, Lib.hid (by rw [hu.out]; exact hNn.out.drewN _), Lib.hid (hFr.out.drewN _)⟩
              case measure => have := hm.out; simp [intOf]; omega
          · have g1 : (x0 == th) = false := by simpa using g0
            rw [if_neg (fun h => g0 h.1)] at hu
            replace g0 := Lib.hid g0
            go_wp2
            go_quiet (fail)
            go_wp2
            go_roundw
            case rel => exact ⟨n + 1, by omega, by have := hm.out; go_num, Lib.hid (by rw [hu.out]; exact hNn.out.drewN _), Lib.hid (hFr.out.drewN _)⟩
            case measure => have := hm.out; simp [intOf]; omega
        · have hnc2 : n = c - b := by omega
          have hcI : ¬ ((b + n : Nat) : Int) < (c : Int) := by omega
          subst hnc2
          generalize hm : b + (c - b) = m at *
          replace hm := Lib.hid hm
          have hlenN : (apF l th b now (c - b)).length = first.length := by rw [apF_len, hsl]
          have hTn := hTq.out.keep (w' := wr) (fun q h1 h2 => hFr.out.block q h2 fun ho => by obtain ⟨cs, hb⟩ := hTq.out.sl.ofBlk h1; exact Sl.ne_ (wl_sl hNq.out) hb (by decide) ho) (fun x hx q h1 h2 => hFr.out.block q h2 (hap.out x hx q h1))
          generalize apF l th b now (c - b) = N at *
          have hvl : Hid ((vs.length + 1) * 24 ≤ 140737488355328) := Lib.hid (by rw [hTn.len, hs2.out]; omega)
          have hN8 : Hid (N.length * 8 ≤ 140737488355328) := Lib.hid (by rw [hlenN]; exact hf8.out)
          have FIN : Hid (∀ A5 cap5 w5 A6 cap6 w6, Wl w5 (.slice A5 N.length cap5) N → Below wr.heap.size wr w5 → (∀ q, own (.slice A5 N.length cap5) q → wr.heap.size ≤ q) → Sl 22 1 encW w6 (.slice A6 (vs.length + 1) cap6) (vs ++ [(A5, N.length, cap5)]) → Fr (own _) w5 (own (.slice A6 (vs.length + 1) cap6)) w6 →
              StsW w.heap.size w6 (.slice A6 (vs.length + 1) cap6) (vs ++ [(A5, N.length, cap5)]) (L ++ [N]) ∧ Wl w6 (.slice A1 first.length cap1) N ∧ (∀ x ∈ vs ++ [(A5, N.length, cap5)], ∀ q, own (headV x) q → ¬ own (.slice A1 first.length cap1) q) ∧ Sl 3 1 encI w6 (.slice (some ⟨gW, oW, none⟩) W.length cW) W ∧ Below w.heap.size w w6) := Lib.hid fun A5 cap5 w5 A6 cap6 w6 h5 hb5 ho5 hS6 hF6 => by
            have hT5 := hTn.below hb5
            have hN5 := hNn.out.keep (w' := w5) fun k hk => hb5.block k (hNn.out.lt k hk)
            have hS5 := hSn.out.keep (w' := w5) fun k hk => hb5.block k (hSn.out.lt k hk)
            have hbw5 := hbn.out.trans (hb5.mono hbn.out.size)
            refine ⟨hT5.snoc h5 (fun q hq => Nat.le_trans hbn.out.size (ho5 q hq)) hS6 hF6 hbw5.size, ?_, ?_, ?_, hbw5.trans (hF6.below hT5.geo hbw5.size)⟩
            · exact hN5.fr hF6 fun k h1 h2 => by obtain ⟨cs, hb⟩ := hT5.sl.ofBlk h2; exact Sl.ne_ (wl_sl hN5) hb (by decide) h1
            · intro x hx q h1 h2
              rw [List.mem_append, List.mem_singleton] at hx
              rcases hx with hx | hx
              · exact hap.out x hx q h1 h2
              · subst hx
                have := ho5 q h1
                have := hNn.out.lt q h2
                omega
            · exact hS5.fr hF6 fun k h1 h2 => by obtain ⟨cs, hb⟩ := hT5.sl.ofBlk h2; exact Sl.ne_ hS5 hb (by decide) h1
          have hT5 : Hid (∀ w5, Below wr.heap.size wr w5 → Sl 22 1 encW w5 _ vs) := Lib.hid fun w5 hb5 => (hTn.below hb5).sl
          have hLi := Lib.hid hNn.out.lies
          replace hlenN := Lib.hid hlenN
          clear hTn hFr hNn hbn hSn hTq hNq hSq hbq kq
          go_wp2_with (at_builtin; first | (refine wpList_wcopy wr rfl (.const (.slice none 0 0)) (.tmp 72) rfl _ N rfl rfl hLi.out hN8.out ?_; intro A5 cap5 w5 hc5 hW5 hb5 ho5; have hT6 := hT5.out w5 hb5) | (refine wpList_headO w5 rfl (.tmp 71) (.tmp 74) rfl _ vs (A5, N.length, cap5) rfl hT6 rfl (by have := hvl.out; omega) hvl.out ?_; intro A6 cap6 w6 hc6 hS6 hF6; have FN := Lib.hid (FIN.out A5 cap5 w5 A6 cap6 w6 hW5 hb5 ho5 hS6 hF6); clear hS6 hF6 hT6 hW5 hb5 ho5))
          go_roundw
          case rel => exact ⟨j + 1, _, hlt, by go_num, Lib.hid (by rw [hsu.out]; exact FN.out.1), Lib.hid (by rw [hsu.out]; exact FN.out.2.1), Lib.hid FN.out.2.2.1, Lib.hid FN.out.2.2.2.1, Lib.hid FN.out.2.2.2.2⟩
          case measure => simp [intOf]; omega
    · have hj2 : j = W.length := by omega
      subst hj2
      go_wp2
      go_ret
      exact ⟨hbr.out, _, vs, rfl, hT.out⟩
end Go.Proofs.Ytloiadhdkgkjkaa
/- The document's answer for chapter 16: Wrong by contract. -/
namespace Go.Proofs.Ytloiadhdkgkjkaa
open Go.RowKit
set_option maxHeartbeats 40000000
set_option linter.unusedVariables false
set_option linter.unusedSimpArgs false
theorem evAt_get {l : List Ev} {k : Nat} (h : k < l.length) : evAt l k = l[k] := by unfold evAt; rw [List.getD_eq_getElem?_getD, List.getElem?_eq_getElem h]; rfl
theorem rwrong_b (a e : Int) (he : -9223372036854775808 ≤ e ∧ e ≤ 9223372036854775807) (w : World) : Calls Try.prog 39 #[.int .i64 a, .int .i64 e] w fun x w' => x = .returned (.agg #[.int .i64 a, .int .i64 e]) ∧ Below w.heap.size w w' := by
  have w1 := IntWalk.i64_in (n := e) he
  have hb1 := (Below.refl w.heap.size w).alloc (Nat.le_refl _) (.cells #[.int .i64 0, .int .i64 0] 28)
  have hR := Blk.new w 28 #[.int .i64 0, .int .i64 0]
  have c0 := hR.cell 0
  have c1 := hR.cell 1
  have f0 := hR.frozen 0
  have f1 := hR.frozen 1
  simp only [List.getElem?_toArray, List.getElem?_cons_zero, List.getElem?_cons_succ] at c0 c1
  clear hR
  replace hb1 := Lib.hid hb1
  go_enter Try.func39, Try.ntmps39
  go_wp2
  refine bodyPost_ret (v := .agg #[.int .i64 a, .int .i64 e]) (by simp [results, Try.results39, go_sem, c0, c1, f0, f1]) rfl ⟨rfl, (Below.refl _ _).alloc (Nat.le_refl _) _⟩
set_option maxRecDepth 100000 in
theorem rWrong_b {w : World} {Fv : Value} {A : Option Addr} {cp : Nat} {first : List Int} {l : List Ev} (hF : Lies w Fv first) (hL : LiesV w (.slice A l.length cp) l) (hwf : ∀ e ∈ l, EvWf e) (hsz : l.length * 48 + 480 ≤ 140737488355328) (hfl : first.length ≤ 9223372036854775807) :
    Calls Try.prog 30 #[Fv, .slice A l.length cp] w fun x w' => x = .returned (.agg #[.int .i64 (seeOdd first.length l).1, .int .i64 (seeOdd first.length l).2]) ∧ Below w.heap.size w w' := by
  obtain ⟨Af, cf, rfl, -⟩ := (show ∃ A cp, Fv = .slice A first.length cp ∧ True from by obtain ⟨A, cp, h1, _⟩ := hF; exact ⟨A, cp, h1, trivial⟩)
  clear hF
  have hlen : (l.length : Int) ≤ 9223372036854775807 := by omega
  have hfl' : (first.length : Int) ≤ 9223372036854775807 := by omega
  have hu64 := IntWalk.u64_in (n := (first.length : Int)) (by omega)
  have hR1 := Lib.hid (Blk.new w 28 #[.int .i64 0, .int .i64 0])
  have hb1 := Lib.hid ((Below.refl w.heap.size w).alloc (Nat.le_refl _) (.cells #[.int .i64 0, .int .i64 0] 28))
  have C1 := Lib.hid (fun W (h : LiesV W (.slice A l.length cp) l) => rcheck_b h hwf hsz)
  by_cases hn : first.length = 0 ∨ 65536 < first.length
  · have hseq : Hid (seeOdd first.length l = (-1, 2)) := Lib.hid (by unfold seeOdd; rw [if_pos hn])
    by_cases h0 : first.length = 0
    · have g0 : (first.length : Int) < 1 := by omega
      replace h0 := Lib.hid h0
      replace hn := Lib.hid hn
      go_enter Try.func30, Try.ntmps30
      have CW := Lib.hid (rwrong_b (-1) 2 (by decide))
      go_wp2_with fail
      refine (CW.out _).mono ?_
      rintro _ w2 ⟨rfl, hb2⟩
      have hR2 := hR1.out.below hb2 hR1.out.lt
      have hbe := Lib.hid (hb1.out.trans (hb2.mono hb1.out.size))
      have r0 := hR2.cell 0
      have r1 := hR2.cell 1
      have f0 := hR2.frozen 0
      have f1 := hR2.frozen 1
      simp only [List.getElem?_toArray, List.getElem?_cons_zero, List.getElem?_cons_succ] at r0 r1
      clear hb2 hR2 CW
      go_wp2
      refine bodyPost_ret (v := .agg #[.int .i64 (-1), .int .i64 2]) (by simp [results, Try.results30, go_sem, r0, r1, f0, f1]) rfl ⟨by rw [hseq.out], (hbe.out.setCell (Nat.le_refl _) _).setCell (Nat.le_refl _) _⟩
    · have g0 : ¬ (first.length : Int) < 1 := by omega
      have g1 : (65536 : Int) < (first.length : Int) := by omega
      replace h0 := Lib.hid h0
      replace hn := Lib.hid hn
      go_enter Try.func30, Try.ntmps30
      have CW := Lib.hid (rwrong_b (-1) 2 (by decide))
      go_wp2_with fail
      refine (CW.out _).mono ?_
      rintro _ w2 ⟨rfl, hb2⟩
      have hR2 := hR1.out.below hb2 hR1.out.lt
      have hbe := Lib.hid (hb1.out.trans (hb2.mono hb1.out.size))
      have r0 := hR2.cell 0
      have r1 := hR2.cell 1
      have f0 := hR2.frozen 0
      have f1 := hR2.frozen 1
      simp only [List.getElem?_toArray, List.getElem?_cons_zero, List.getElem?_cons_succ] at r0 r1
      clear hb2 hR2 CW
      go_wp2
      refine bodyPost_ret (v := .agg #[.int .i64 (-1), .int .i64 2]) (by simp [results, Try.results30, go_sem, r0, r1, f0, f1]) rfl ⟨by rw [hseq.out], (hbe.out.setCell (Nat.le_refl _) _).setCell (Nat.le_refl _) _⟩
  have hseq : Hid (seeOdd first.length l = if (odd l).2 ≠ 0 then odd l else if 0 ≤ idxE plainE l then (idxE plainE l, 260) else if 0 ≤ idxE (farE first.length) l then (idxE (farE first.length) l, 4) else (-1, 0)) := Lib.hid (by unfold seeOdd; rw [if_neg hn])
  have g0 : ¬ (first.length : Int) < 1 := by omega
  have g1 : ¬ (65536 : Int) < (first.length : Int) := by omega
  have hL1 := Lib.hid (hL.below hb1.out (Nat.le_refl _))
  replace hn := Lib.hid hn
  go_enter Try.func30, Try.ntmps30
  go_wp2_with fail
  refine (C1.out _ hL1.out).mono ?_
  rintro _ w2 ⟨rfl, hb2⟩
  have hR2 := hR1.out.below hb2 hR1.out.lt
  have hbw2 := hb1.out.trans (hb2.mono hb1.out.size)
  obtain ⟨o1, ho1⟩ : ∃ o1, (odd l).1 = o1 := ⟨_, rfl⟩
  obtain ⟨o2, ho2⟩ : ∃ o2, (odd l).2 = o2 := ⟨_, rfl⟩
  have hod : Hid (odd l = (o1, o2)) := Lib.hid (by rw [← ho1, ← ho2])
  rw [ho1, ho2]
  replace ho1 := Lib.hid ho1
  replace ho2 := Lib.hid ho2
  obtain ⟨w3, hw3⟩ : ∃ w3, w3 = w2.alloc (.cells #[.int .i64 o1, .int .i64 o2] 28) := ⟨_, rfl⟩
  have hR3 : Hid (Blk w3 w.heap.size 28 #[.int .i64 0, .int .i64 0]) := Lib.hid (by rw [hw3]; exact hR2.alloc _)
  have hO3 : Hid (Blk w3 w2.heap.size 28 #[.int .i64 o1, .int .i64 o2]) := Lib.hid (by rw [hw3]; exact Blk.new _ _ _)
  have hb3 : Hid (Below w.heap.size w w3) := Lib.hid (by rw [hw3]; exact hbw2.alloc hbw2.size _)
  have hne : w.heap.size ≠ w2.heap.size := Nat.ne_of_lt hR2.lt
  have hL3 := Lib.hid (hL.below hb3.out (Nat.le_refl _))
  subst hw3
  have x0 := (hO3.out.cell 0).trans (show _ = some (.int .i64 o1) from rfl)
  have x1 := (hO3.out.cell 1).trans (show _ = some (.int .i64 o2) from rfl)
  clear hb2 hR2 hbw2 C1 hL1 hb1 hR1
  by_cases ho : o2 = 0
  · have ho3 : (o2 != 0) = false := by simpa using ho
    replace ho := Lib.hid ho
    rw [hod.out, if_neg (by show ¬ o2 ≠ 0; rw [ho.out]; simp)] at hseq
    go_wp2_with fail
    go_loopw [6] (fun c wr => ∃ k : Nat, k ≤ l.length ∧ c = .int .i64 (k : Int) ∧ wr = (w2.alloc (.cells #[.int .i64 o1, .int .i64 o2] 28)) ∧ Hid (∀ j, j < k → plainE (evAt l j) = false)) (fun c _ => l.length - (intOf c).toNat)
    case atStart => exact ⟨0, Nat.zero_le _, rfl, rfl, Lib.hid fun j hj => by omega⟩
    case round =>
      obtain ⟨k, hk, rfl, rfl, hall⟩ := hrel
      by_cases hlt : k < l.length
      · have b1 : (k : Int) < l.length := by omega
        have w1 := IntWalk.i64_in (n := (k : Int) + 1) (by omega)
        obtain ⟨g, o, rfl, hc⟩ := hL3.out.at hlt
        obtain ⟨-, d1, -, -, -, -⟩ := hc k hlt
        have hyes : plainE (evAt l k) = true → Hid (seeOdd first.length l = ((k : Int), 260)) := fun h => Lib.hid (by
          have e : idxE plainE l = (k : Int) := idxE_some hlt (by rw [← evAt_get hlt]; exact h) (fun j hj => by rw [← evAt_get (by omega)]; exact hall.out j hj)
          rw [hseq.out, e, if_pos (by omega)])
        obtain ⟨x1, hx1⟩ : ∃ x, (evAt l k).kd = x := ⟨_, rfl⟩
        rw [hx1] at d1
        unfold plainE at hyes
        rw [hx1] at hyes
        clear hc
        by_cases g10 : x1 = 10
        · have f10 : (x1 == 10) = true := by simpa using g10
          have hseq := hyes (by rw [f10]; rfl)
          clear hyes
          replace g10 := Lib.hid g10
          have CW := Lib.hid (rwrong_b (k) 260 (by decide))
          go_wp2_with fail
          refine (CW.out _).mono ?_
          rintro _ w9 ⟨rfl, hb2⟩
          have hR2 := hR3.out.below hb2 hR3.out.lt
          have hbe := Lib.hid (hb3.out.trans (hb2.mono hb3.out.size))
          have r0 := hR2.cell 0
          have r1 := hR2.cell 1
          have f0 := hR2.frozen 0
          have f1 := hR2.frozen 1
          simp only [List.getElem?_toArray, List.getElem?_cons_zero, List.getElem?_cons_succ] at r0 r1
          clear hb2 hR2 CW
          go_wp2
          refine bodyPost_ret (v := .agg #[.int .i64 k, .int .i64 260]) (by simp [results, Try.results30, go_sem, r0, r1, f0, f1]) rfl ⟨by rw [hseq.out], (hbe.out.setCell (Nat.le_refl _) _).setCell (Nat.le_refl _) _⟩
        · have f10 : (x1 == 10) = false := by simpa using g10
          by_cases g11 : x1 = 11
          · have f11 : (x1 == 11) = true := by simpa using g11
            have hseq := hyes (by rw [f11, Bool.or_true])
            clear hyes
            replace g11 := Lib.hid g11
            replace g10 := Lib.hid g10
            have CW := Lib.hid (rwrong_b (k) 260 (by decide))
            go_wp2_with fail
            refine (CW.out _).mono ?_
            rintro _ w9 ⟨rfl, hb2⟩
            have hR2 := hR3.out.below hb2 hR3.out.lt
            have hbe := Lib.hid (hb3.out.trans (hb2.mono hb3.out.size))
            have r0 := hR2.cell 0
            have r1 := hR2.cell 1
            have f0 := hR2.frozen 0
            have f1 := hR2.frozen 1
            simp only [List.getElem?_toArray, List.getElem?_cons_zero, List.getElem?_cons_succ] at r0 r1
            clear hb2 hR2 CW
            go_wp2
            refine bodyPost_ret (v := .agg #[.int .i64 k, .int .i64 260]) (by simp [results, Try.results30, go_sem, r0, r1, f0, f1]) rfl ⟨by rw [hseq.out], (hbe.out.setCell (Nat.le_refl _) _).setCell (Nat.le_refl _) _⟩
          · have f11 : (x1 == 11) = false := by simpa using g11
            have hno : Hid (plainE (evAt l k) = false) := Lib.hid (by unfold plainE; rw [hx1, f10, f11]; rfl)
            clear hyes
            replace g11 := Lib.hid g11
            replace g10 := Lib.hid g10
            go_wp2
            go_roundw
            case rel => exact ⟨k + 1, hlt, by go_num, by trivial, Lib.hid fun j hj => by
              by_cases e : j = k
              · subst e; exact hno.out
              · exact hall.out j (by omega)⟩
            case measure => simp [intOf]; omega
      · have hk2 : k = l.length := by omega
        subst hk2
        have hp : idxE plainE l = -1 := idxE_none fun j hj => by rw [← evAt_get hj]; exact hall.out j hj
        rw [hp, if_neg (by decide)] at hseq
        clear hall
        go_wp2_with fail
        go_loopw [7] (fun c wr => ∃ k : Nat, k ≤ l.length ∧ c = .int .i64 (k : Int) ∧ wr = (w2.alloc (.cells #[.int .i64 o1, .int .i64 o2] 28)) ∧ Hid (∀ j, j < k → farE first.length (evAt l j) = false)) (fun c _ => l.length - (intOf c).toNat)
        case atStart => exact ⟨0, Nat.zero_le _, rfl, rfl, Lib.hid fun j hj => by omega⟩
        case round =>
          obtain ⟨k, hk, rfl, rfl, hall⟩ := hrel
          by_cases hlt : k < l.length
          · have b1 : (k : Int) < l.length := by omega
            have w1 := IntWalk.i64_in (n := (k : Int) + 1) (by omega)
            obtain ⟨g, o, rfl, hc⟩ := hL3.out.at hlt
            obtain ⟨-, d1, d2, -, -, -⟩ := hc k hlt
            have hyes : farE first.length (evAt l k) = true → Hid (seeOdd first.length l = ((k : Int), 4)) := fun h => Lib.hid (by
              have e : idxE (farE first.length) l = (k : Int) := idxE_some hlt (by rw [← evAt_get hlt]; exact h) (fun j hj => by rw [← evAt_get (by omega)]; exact hall.out j hj)
              rw [hseq.out, e, if_pos (by omega)])
            obtain ⟨x1, hx1⟩ : ∃ x, (evAt l k).kd = x := ⟨_, rfl⟩
            obtain ⟨x2, hx2⟩ : ∃ x, (evAt l k).ad = x := ⟨_, rfl⟩
            rw [hx1] at d1
            rw [hx2] at d2
            unfold farE at hyes
            rw [hx1, hx2] at hyes
            clear hc
            by_cases gk : x1 = 2 ∨ x1 = 3
            · have fk : (x1 == 2 || x1 == 3) = true := by simpa using gk
              by_cases ga : (first.length : Int) ≤ x2
              · have hseq := hyes (by rw [fk, decide_eq_true ga]; rfl)
                clear hyes
                rcases gk with rfl | rfl
                · replace fk := Lib.hid fk
                  have CW := Lib.hid (rwrong_b (k) 4 (by decide))
                  go_wp2_with fail
                  refine (CW.out _).mono ?_
                  rintro _ w9 ⟨rfl, hb2⟩
                  have hR2 := hR3.out.below hb2 hR3.out.lt
                  have hbe := Lib.hid (hb3.out.trans (hb2.mono hb3.out.size))
                  have r0 := hR2.cell 0
                  have r1 := hR2.cell 1
                  have f0 := hR2.frozen 0
                  have f1 := hR2.frozen 1
                  simp only [List.getElem?_toArray, List.getElem?_cons_zero, List.getElem?_cons_succ] at r0 r1
                  clear hb2 hR2 CW
                  go_wp2
                  refine bodyPost_ret (v := .agg #[.int .i64 k, .int .i64 4]) (by simp [results, Try.results30, go_sem, r0, r1, f0, f1]) rfl ⟨by rw [hseq.out], (hbe.out.setCell (Nat.le_refl _) _).setCell (Nat.le_refl _) _⟩
                · replace fk := Lib.hid fk
                  have CW := Lib.hid (rwrong_b (k) 4 (by decide))
                  go_wp2_with fail
                  refine (CW.out _).mono ?_
                  rintro _ w9 ⟨rfl, hb2⟩
                  have hR2 := hR3.out.below hb2 hR3.out.lt
                  have hbe := Lib.hid (hb3.out.trans (hb2.mono hb3.out.size))
                  have r0 := hR2.cell 0
                  have r1 := hR2.cell 1
                  have f0 := hR2.frozen 0
                  have f1 := hR2.frozen 1
                  simp only [List.getElem?_toArray, List.getElem?_cons_zero, List.getElem?_cons_succ] at r0 r1
                  clear hb2 hR2 CW
                  go_wp2
                  refine bodyPost_ret (v := .agg #[.int .i64 k, .int .i64 4]) (by simp [results, Try.results30, go_sem, r0, r1, f0, f1]) rfl ⟨by rw [hseq.out], (hbe.out.setCell (Nat.le_refl _) _).setCell (Nat.le_refl _) _⟩
              · have hno : Hid (farE first.length (evAt l k) = false) := Lib.hid (by unfold farE; rw [hx1, hx2, decide_eq_false ga, Bool.and_false])
                clear hyes
                rcases gk with rfl | rfl
                · replace fk := Lib.hid fk
                  go_wp2
                  go_roundw
                  case rel => exact ⟨k + 1, hlt, by go_num, by trivial, Lib.hid fun j hj => by
                    by_cases e : j = k
                    · subst e; exact hno.out
                    · exact hall.out j (by omega)⟩
                  case measure => simp [intOf]; omega
                · replace fk := Lib.hid fk
                  go_wp2
                  go_roundw
                  case rel => exact ⟨k + 1, hlt, by go_num, by trivial, Lib.hid fun j hj => by
                    by_cases e : j = k
                    · subst e; exact hno.out
                    · exact hall.out j (by omega)⟩
                  case measure => simp [intOf]; omega
            · have f2 : (x1 == 2) = false := by simp; omega
              have f3 : (x1 == 3) = false := by simp; omega
              have hno : Hid (farE first.length (evAt l k) = false) := Lib.hid (by unfold farE; rw [hx1, f2, f3]; rfl)
              clear hyes
              replace gk := Lib.hid gk
              go_wp2
              go_roundw
              case rel => exact ⟨k + 1, hlt, by go_num, by trivial, Lib.hid fun j hj => by
                by_cases e : j = k
                · subst e; exact hno.out
                · exact hall.out j (by omega)⟩
              case measure => simp [intOf]; omega
          · have hk2 : k = l.length := by omega
            subst hk2
            have hp : idxE (farE first.length) l = -1 := idxE_none fun j hj => by rw [← evAt_get hj]; exact hall.out j hj
            rw [hp, if_neg (by decide)] at hseq
            clear hall
            have CW := Lib.hid (rwrong_b (-1) 0 (by decide))
            go_wp2_with fail
            refine (CW.out _).mono ?_
            rintro _ w9 ⟨rfl, hb2⟩
            have hR2 := hR3.out.below hb2 hR3.out.lt
            have hbe := Lib.hid (hb3.out.trans (hb2.mono hb3.out.size))
            have r0 := hR2.cell 0
            have r1 := hR2.cell 1
            have f0 := hR2.frozen 0
            have f1 := hR2.frozen 1
            simp only [List.getElem?_toArray, List.getElem?_cons_zero, List.getElem?_cons_succ] at r0 r1
            clear hb2 hR2 CW
            go_wp2
            refine bodyPost_ret (v := .agg #[.int .i64 (-1), .int .i64 0]) (by simp [results, Try.results30, go_sem, r0, r1, f0, f1]) rfl ⟨by rw [hseq.out], (hbe.out.setCell (Nat.le_refl _) _).setCell (Nat.le_refl _) _⟩
  · have ho3 : (o2 != 0) = true := by simpa using ho
    rw [hod.out, if_pos ho] at hseq
    have r0 := (hR3.out.cell 0).trans (show _ = some (.int .i64 0) from rfl)
    have r1 := (hR3.out.cell 1).trans (show _ = some (.int .i64 0) from rfl)
    have f0 := hR3.out.frozen 0
    have f1 := hR3.out.frozen 1
    replace ho := Lib.hid ho
    go_wp2
    refine bodyPost_ret (v := .agg #[.int .i64 o1, .int .i64 o2]) (by simp [results, Try.results30, go_sem, r0, r1, f0, f1]) rfl ⟨by rw [hseq.out], (hb3.out.setCell (Nat.le_refl _) _).setCell (Nat.le_refl _) _⟩
end Go.Proofs.Ytloiadhdkgkjkaa
