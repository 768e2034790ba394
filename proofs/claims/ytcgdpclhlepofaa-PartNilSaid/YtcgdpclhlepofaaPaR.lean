/- A part laid back, by contract. -/
import Derived.Test.YtcgdpclhlepofaaPaQ
namespace Go.Proofs.Ytcgdpclhlepofaa
open Go.RowKit
set_option maxHeartbeats 4000000
set_option linter.unusedVariables false
set_option linter.unusedSimpArgs false

theorem pPuts_drop {q : Int} {l : List Int} {j : Nat} (hj : j < l.length) {s s1 : St} {e : Int} (h : sput s (uAdd q j) (l.getD j 0) = (e, s1)) : pPuts q (l.drop j) j s = if (e != 0) = true then (e, s1) else pPuts q (l.drop (j + 1)) (j + 1) s1 := by
  rw [List.drop_eq_getElem_cons hj]
  have e1 : l[j] = l.getD j 0 := by rw [List.getD_eq_getElem?_getD, List.getElem?_eq_getElem hj]; rfl
  rw [e1, pPuts, h]
theorem lastOf_bd (l : List Int) : 0 ≤ lastOf l ∧ lastOf l ≤ 18446744073709551615 := by
  unfold lastOf
  split
  · exact uAdd_bd _ _
  · omega
set_option maxRecDepth 100000 in
theorem pback_b {t n : Nat} {F F0 : Nat → Prop} {s : St} {q kind first count : Int} {w w0 : World}
    (hw : Txw w t F s) (hf : Fits s) (hb : Bud s (n + 3 + 3 * 65537 + 1)) (h1 : 0 ≤ q) (h1' : q ≤ 18446744073709551615) (h2 : 0 ≤ first) (h2' : first ≤ 18446744073709551615) (h3 : 0 ≤ count) (h3' : count ≤ 18446744073709551615) (hm : Fr F0 w0 F w) :
    Calls Try.prog 16 #[.iface 26 (.pointer (some ⟨t, 0, none⟩)), .int .u64 q, .agg #[.int .i64 kind, .int .u64 first, .int .u64 count]] w fun e w' =>
      ∃ er s', Hid (pBack q kind first count s = (er, s')) ∧ e = .returned (.int .i64 er) ∧ Lft t n F0 w0 s' w' := by
  have hT := hw.alloc (.cells #[.int .i64 kind, .int .u64 first, .int .u64 count] 25)
  have hM := hm.alloc (.cells #[.int .i64 kind, .int .u64 first, .int .u64 count] 25)
  have hB := Blk.new w 25 #[.int .i64 kind, .int .u64 first, .int .u64 count]
  have hBF : ¬ F w.heap.size := fun h => by have := hw.lt _ h; omega
  clear hw hm
  by_cases hk : kind = 1
  case neg =>
    have z : (kind != 1) = true := by simpa using hk
    have hx : Hid (pBack q kind first count s = (2, s)) := Lib.hid (by unfold pBack; rw [if_pos hk])
    have hT := Lib.hid hT
    have hM := Lib.hid hM
    clear hk hB
    go_enter Try.func16, Try.ntmps16
    go_wp2
    first | (go_ret; exact ⟨2, s, hx, rfl, hf, hb.mono (by omega), F, hT.out, hM.out⟩) | (go_step3; go_wp2; trace_state; sorry)
  subst hk
  have d0 := hB.cell 0
  have d1 := hB.cell 1
  have d2 := hB.cell 2
  simp only [List.getElem?_toArray, List.getElem?_cons_zero, List.getElem?_cons_succ] at d0 d1 d2
  have HB := Lib.hid hB
  go_enter Try.func16, Try.ntmps16
  go_wp2_with fail
  generalize w.alloc (.cells #[.int .i64 1, .int .u64 first, .int .u64 count] 25) = w1 at *
  generalize w.heap.size = pb at *
  have hb' : Bud s ((n + 3 + 3 * 65537) + 1) := hb
  refine (tget_b hT hf hb' h1 (Fr.refl F _)).mono ?_
  rintro _ w3 ⟨f, e3, s3, q3, df, df', rfl, f3, b3, F3, hT3, hm3⟩
  have HB3 := Lib.hid (hm3.blk HB.out hBF)
  have hF3 : ¬ F3 pb := hm3.not_in HB.out.lt hBF
  have HT3 := Lib.hid hT3
  have HM3 := Lib.hid (hM.trans hm3)
  clear hT hM hB hm3 hT3 HB d0 d1 d2 hb hb' hf
  by_cases he : e3 = 0
  case neg =>
    have z : (e3 != 0) = true := by simpa using he
    have hx : Hid (pBack q 1 first count s = (e3, s3)) := Lib.hid (by unfold pBack; rw [if_neg (by decide), q3.out]; simp only; rw [if_pos z])
    clear he
    go_wp2
    go_ret
    exact ⟨e3, s3, hx, rfl, f3, b3.mono (by omega), F3, HT3.out, HM3.out⟩
  subst he
  by_cases hf0 : f = 0
  case neg =>
    have z : (f != 0) = true := by simpa using hf0
    have hx : Hid (pBack q 1 first count s = (2, s3)) := Lib.hid (by unfold pBack; rw [if_neg (by decide), q3.out]; simp only; rw [if_neg (by decide), if_pos z])
    clear hf0
    go_wp2
    go_ret
    exact ⟨2, s3, hx, rfl, f3, b3.mono (by omega), F3, HT3.out, HM3.out⟩
  subst hf0
  have d0 := HB3.out.cell 0
  have d1 := HB3.out.cell 1
  have d2 := HB3.out.cell 2
  simp only [List.getElem?_toArray, List.getElem?_cons_zero, List.getElem?_cons_succ] at d0 d1 d2
  have hQ : Hid (pBack q 1 first count s = match pNodes 1 first count s3 with | (l, e2, s2) => if (e2 != 0) = true then (e2, s2) else pPuts q [first, lastOf l, count] 0 s2) := Lib.hid (by unfold pBack; rw [if_neg (by decide), q3.out]; simp only; rw [if_neg (by decide), if_neg (by decide)])
  clear q3 df df'
  go_wp2_with fail
  refine (pnodes_b (n := n + 3) HT3.out f3 (b3.mono (by omega)) h2 h2' h3 h3' (Fr.refl F3 _)).mono ?_
  rintro _ w5 ⟨v5, l5, e5, s5, q5, rfl, f5, b5, hv5, hvo5, F5, hT5, hm5, hvF5⟩
  have HB5 := Lib.hid (hm5.blk HB3.out hF3)
  have hF5 : ¬ F5 pb := hm5.not_in HB3.out.lt hF3
  have HT5 := Lib.hid hT5
  have HM5 := Lib.hid (HM3.out.trans hm5)
  have HV5 := Lib.hid hv5
  obtain ⟨A5, c5, rfl, hc5⟩ := hv5.shape
  have HVF := Lib.hid hvF5
  clear hT5 hm5 hv5 HB3 HT3 HM3 f3 b3 d0 d1 d2 hvF5 hF3
  by_cases he : e5 = 0
  case neg =>
    have z : (e5 != 0) = true := by simpa using he
    have hx : Hid (pBack q 1 first count s = (e5, s5)) := Lib.hid (by rw [hQ.out, q5.out]; simp only; rw [if_pos z])
    clear he
    go_wp2
    go_ret
    exact ⟨e5, s5, hx, rfl, f5, b5.mono (by omega), F5, HT5.out, HM5.out⟩
  subst he
  have hQ2 : Hid (pBack q 1 first count s = pPuts q [first, lastOf l5, count] 0 s5) := Lib.hid (by rw [hQ.out, q5.out]; simp only; rw [if_neg (by decide)])
  have d0 := HB5.out.cell 0
  have d1 := HB5.out.cell 1
  have d2 := HB5.out.cell 2
  simp only [List.getElem?_toArray, List.getElem?_cons_zero, List.getElem?_cons_succ] at d0 d1 d2
  clear hQ q5
  -- the last node's link
  have hll : Hid ((l5 = [] ∧ lastOf l5 = 0) ∨ ∃ (g o : Nat) (x : Int), A5 = some ⟨g, o, none⟩ ∧ 0 < l5.length ∧ w5.cell? ⟨g, o + (l5.length - 1), none⟩ = some (.int .u64 x) ∧ lastOf l5 = IntKind.u64.wrap (x + 1)) := Lib.hid (by
    by_cases hl : l5 = []
    · exact .inl ⟨hl, by rw [hl]; rfl⟩
    · right
      have hpos : 0 < l5.length := List.length_pos_iff.2 hl
      obtain ⟨g, o, hA, _, hc, _⟩ := HV5.out.upd (j := l5.length - 1) (by omega)
      refine ⟨g, o, l5.getD (l5.length - 1) 0, hA, hpos, hc, ?_⟩
      unfold lastOf
      rw [List.getLast?_eq_getElem?, List.getD_eq_getElem?_getD, List.getElem?_eq_getElem (by omega)]
      rfl)
  have hlb := lastOf_bd l5
  have hlen5 : Hid (l5.length ≤ 9223372036854775807) := Lib.hid (by
    rcases HV5.out.2 with ⟨_, h0⟩ | ⟨_, _, _, _, _, _, _, h4, h5, _⟩
    · omega
    · unfold maxLen at h5; omega)
  have hli : (l5.length : Int) ≤ 9223372036854775807 := by have := hlen5.out; omega
  obtain ⟨la, hla⟩ : ∃ la, lastOf l5 = la := ⟨_, rfl⟩
  rw [hla] at hQ2 hlb hll
  clear hla
  have HT6 := Lib.hid (HT5.out.alloc (.cells #[.int .u64 first, .int .u64 la, .int .u64 count] 23))
  have HM6 := Lib.hid (HM5.out.alloc (.cells #[.int .u64 first, .int .u64 la, .int .u64 count] 23))
  have HL6 : Hid (Lies (w5.alloc (.cells #[.int .u64 first, .int .u64 la, .int .u64 count] 23)) (.slice (some ⟨w5.heap.size, 0, none⟩) 3 3) [first, la, count]) := Lib.hid (Lies.new w5 [first, la, count] (by simp))
  have hF6 : Hid (∀ k, own (.slice (some ⟨w5.heap.size, 0, none⟩) 3 3) k → ¬ F5 k ∧ k < (w5.alloc (.cells #[.int .u64 first, .int .u64 la, .int .u64 count] 23)).heap.size) := Lib.hid fun k hk => by
    obtain rfl : w5.heap.size = k := by simpa [own, Value.ownBlock] using hk
    exact ⟨fun h => by have := HT5.out.lt _ h; omega, by simp⟩
  have HLB := Lib.hid hlb
  clear hlb
  have key : Hid (∀ (g o : Nat) (x : Int), 0 < l5.length → Hid (IntKind.i64.wrap ((l5.length : Int) - 1) = (l5.length : Int) - 1 ∧ ((l5.length : Int) - 1).toNat = l5.length - 1)) := Lib.hid fun _ _ _ hp => Lib.hid ⟨IntWalk.i64_in _ (by omega), by omega⟩
  rcases hll.out with ⟨hl0, rfl⟩ | ⟨g, o, x, hA, hpos, hcx, hlx⟩
  · have hl2 : l5.length = 0 := by rw [hl0]; rfl
    rw [hl2] at hc5 hli
    rw [hl2]
    clear hll hl0 hl2 HV5 HVF hvo5 hlen5 key HT5 HM5
    go_wp2_with fail
    generalize w5.alloc (.cells #[.int .u64 first, .int .u64 0, .int .u64 count] 23) = w6 at *
    generalize w5.heap.size = lb at *
    clear d0 d1 d2
    go_loopg [61] 3 (fun gk c61 wr => ∃ (j : Nat) (sx : St) (Fx : Nat → Prop), gk + j = 3 ∧ c61 = .int .i64 (j : Int) ∧ Hid (pBack q 1 first count s = pPuts q ([first, 0, count].drop j) j sx) ∧ Fits sx ∧ Bud sx (n + gk) ∧ Hid (Txw wr t Fx sx) ∧ Hid (Fr F0 w0 Fx wr) ∧ Hid (Lies wr (.slice (some ⟨lb, 0, none⟩) 3 3) [first, 0, count]) ∧ Hid (∀ k, own (.slice (some ⟨lb, 0, none⟩) 3 3) k → ¬ Fx k ∧ k < wr.heap.size))
    case atStart => exact ⟨0, s5, F5, rfl, rfl, hQ2, f5, b5, HT6, HM6, HL6, hF6⟩
    case round =>
      obtain ⟨j, sx, Fx, hgk, rfl, HP, fx, bx, HT, HM, HL, HO⟩ := hrel
      have HG := Lib.hid hgk
      clear hgk HT6 HM6 HL6 hF6 f5 b5 hQ2
      by_cases hj : j < 3
      · obtain ⟨g1, rfl⟩ : ∃ g1, gk = g1 + 1 := ⟨gk - 1, by have := HG.out; omega⟩
        obtain ⟨A2, c2, e1, hc2, _, hcs⟩ := HL.out
        rw [Value.slice.injEq] at e1
        obtain ⟨rfl, -, rfl⟩ := e1
        obtain ⟨gz, oz, hA, hc⟩ := hcs j hj
        simp only [Option.some.injEq, Addr.mk.injEq, and_true] at hA
        obtain ⟨rfl, rfl⟩ := hA
        rw [Nat.zero_add] at hc
        have hP2 := Lib.hid fun (e : Int) (s1 : St) (h : sput sx (uAdd q j) (([first, 0, count] : List Int).getD j 0) = (e, s1)) => HP.out.trans (pPuts_drop (l := [first, 0, count]) hj h)
        have hxb : 0 ≤ ([first, 0, count] : List Int).getD j 0 ∧ ([first, 0, count] : List Int).getD j 0 ≤ 18446744073709551615 := by
          rcases (show j = 0 ∨ j = 1 ∨ j = 2 by omega) with rfl | rfl | rfl
          · exact ⟨h2, h2'⟩
          · exact HLB.out
          · exact ⟨h3, h3'⟩
        obtain ⟨hx1, hx2⟩ := hxb
        have hji : (j : Int) < 3 := by omega
        have hjw : IntKind.u64.wrap (j : Int) = j := IntWalk.u64_in _ (by omega)
        have hu : IntKind.u64.wrap (q + j) = uAdd q j := rfl
        clear hcs HP
        generalize ([first, 0, count] : List Int).getD j 0 = xj at *
        have bx : Bud sx ((n + g1) + 1) := bx
        go_wp2_with fail
        refine (tput_b HT.out fx bx (uAdd_bd _ _).1 hx1 hx2 (Fr.refl Fx _)).mono ?_
        rintro _ w7 ⟨e7, s7, q7, rfl, f7, b7, F7, hT7, hm7⟩
        have HT7 := Lib.hid hT7
        have HM7 := Lib.hid (HM.out.trans hm7)
        have HL7 := Lib.hid (lies_fr HL.out hm7 fun k hk => (HO.out k hk).1)
        have HO7 : Hid (∀ k, own (.slice (some ⟨lb, 0, none⟩) 3 3) k → ¬ F7 k ∧ k < w7.heap.size) := Lib.hid fun k hk => ⟨fun h => (hm7.new k h).elim (HO.out k hk).1 fun h2 => by have := (HO.out k hk).2; omega, by have := (HO.out k hk).2; have := hm7.size; omega⟩
        have hP7 := Lib.hid (hP2.out e7 s7 q7.out)
        clear hT7 hm7 HT HM HL HO hP2 q7 hc
        by_cases he : e7 = 0
        · subst he
          have hP8 : Hid (pBack q 1 first count s = pPuts q ([first, 0, count].drop (j + 1)) ((j + 1 : Nat) : Int) s7) := Lib.hid (by rw [hP7.out, if_neg (by decide)]; simp)
          clear hP7 hu hjw
          go_wp2
          go_roundg g1
          case measure => omega
          case rel => exact ⟨j + 1, s7, F7, by have := HG.out; omega, by go_num, hP8, f7, b7, HT7, HM7, HL7, HO7⟩
        · have z : (e7 != 0) = true := by simpa using he
          have hx : Hid (pBack q 1 first count s = (e7, s7)) := Lib.hid (by rw [hP7.out, if_pos z])
          clear hP7 hu hjw he
          go_wp2
          go_ret
          exact ⟨e7, s7, hx, rfl, f7, b7.mono (by omega), F7, HT7.out, HM7.out⟩
      · obtain rfl : j = 3 := by have := HG.out; omega
        obtain rfl : gk = 0 := by have := HG.out; omega
        have hx : Hid (pBack q 1 first count s = (0, sx)) := Lib.hid (by rw [HP.out]; rfl)
        clear hj
        go_wp2
        go_ret
        exact ⟨0, sx, hx, rfl, fx, bx, Fx, HT.out, HM.out⟩
  · subst hA
    obtain ⟨k1, k2⟩ := (key.out g o x hpos).out
    have hpi : (0 : Int) < l5.length := by omega
    have hxw : IntKind.u64.wrap (x + 1) = la := hlx.symm
    have hk3 : (l5.length : Int) - 1 < l5.length := by omega
    have hk4 : 0 ≤ (l5.length : Int) - 1 := by omega
    have hk5 : l5.length - 1 < l5.length := by omega
    clear hll HV5 HVF hvo5 hlen5 key HT5 HM5 hlx
    generalize l5.length = ll at *
    go_wp2_with fail
    generalize w5.alloc (.cells #[.int .u64 first, .int .u64 la, .int .u64 count] 23) = w6 at *
    generalize w5.heap.size = lb at *
    clear d0 d1 d2
    go_loopg [61] 3 (fun gk c61 wr => ∃ (j : Nat) (sx : St) (Fx : Nat → Prop), gk + j = 3 ∧ c61 = .int .i64 (j : Int) ∧ Hid (pBack q 1 first count s = pPuts q ([first, la, count].drop j) j sx) ∧ Fits sx ∧ Bud sx (n + gk) ∧ Hid (Txw wr t Fx sx) ∧ Hid (Fr F0 w0 Fx wr) ∧ Hid (Lies wr (.slice (some ⟨lb, 0, none⟩) 3 3) [first, la, count]) ∧ Hid (∀ k, own (.slice (some ⟨lb, 0, none⟩) 3 3) k → ¬ Fx k ∧ k < wr.heap.size))
    case atStart => exact ⟨0, s5, F5, rfl, rfl, hQ2, f5, b5, HT6, HM6, HL6, hF6⟩
    case round =>
      obtain ⟨j, sx, Fx, hgk, rfl, HP, fx, bx, HT, HM, HL, HO⟩ := hrel
      have HG := Lib.hid hgk
      clear hgk HT6 HM6 HL6 hF6 f5 b5 hQ2
      by_cases hj : j < 3
      · obtain ⟨g1, rfl⟩ : ∃ g1, gk = g1 + 1 := ⟨gk - 1, by have := HG.out; omega⟩
        obtain ⟨A2, c2, e1, hc2, _, hcs⟩ := HL.out
        rw [Value.slice.injEq] at e1
        obtain ⟨rfl, -, rfl⟩ := e1
        obtain ⟨gz, oz, hA, hc⟩ := hcs j hj
        simp only [Option.some.injEq, Addr.mk.injEq, and_true] at hA
        obtain ⟨rfl, rfl⟩ := hA
        rw [Nat.zero_add] at hc
        have hP2 := Lib.hid fun (e : Int) (s1 : St) (h : sput sx (uAdd q j) (([first, la, count] : List Int).getD j 0) = (e, s1)) => HP.out.trans (pPuts_drop (l := [first, la, count]) hj h)
        have hxb : 0 ≤ ([first, la, count] : List Int).getD j 0 ∧ ([first, la, count] : List Int).getD j 0 ≤ 18446744073709551615 := by
          rcases (show j = 0 ∨ j = 1 ∨ j = 2 by omega) with rfl | rfl | rfl
          · exact ⟨h2, h2'⟩
          · exact HLB.out
          · exact ⟨h3, h3'⟩
        obtain ⟨hx1, hx2⟩ := hxb
        have hji : (j : Int) < 3 := by omega
        have hjw : IntKind.u64.wrap (j : Int) = j := IntWalk.u64_in _ (by omega)
        have hu : IntKind.u64.wrap (q + j) = uAdd q j := rfl
        clear hcs HP
        generalize ([first, la, count] : List Int).getD j 0 = xj at *
        have bx : Bud sx ((n + g1) + 1) := bx
        go_wp2_with fail
        refine (tput_b HT.out fx bx (uAdd_bd _ _).1 hx1 hx2 (Fr.refl Fx _)).mono ?_
        rintro _ w7 ⟨e7, s7, q7, rfl, f7, b7, F7, hT7, hm7⟩
        have HT7 := Lib.hid hT7
        have HM7 := Lib.hid (HM.out.trans hm7)
        have HL7 := Lib.hid (lies_fr HL.out hm7 fun k hk => (HO.out k hk).1)
        have HO7 : Hid (∀ k, own (.slice (some ⟨lb, 0, none⟩) 3 3) k → ¬ F7 k ∧ k < w7.heap.size) := Lib.hid fun k hk => ⟨fun h => (hm7.new k h).elim (HO.out k hk).1 fun h2 => by have := (HO.out k hk).2; omega, by have := (HO.out k hk).2; have := hm7.size; omega⟩
        have hP7 := Lib.hid (hP2.out e7 s7 q7.out)
        clear hT7 hm7 HT HM HL HO hP2 q7 hc
        by_cases he : e7 = 0
        · subst he
          have hP8 : Hid (pBack q 1 first count s = pPuts q ([first, la, count].drop (j + 1)) ((j + 1 : Nat) : Int) s7) := Lib.hid (by rw [hP7.out, if_neg (by decide)]; simp)
          clear hP7 hu hjw
          go_wp2
          go_roundg g1
          case measure => omega
          case rel => exact ⟨j + 1, s7, F7, by have := HG.out; omega, by go_num, hP8, f7, b7, HT7, HM7, HL7, HO7⟩
        · have z : (e7 != 0) = true := by simpa using he
          have hx : Hid (pBack q 1 first count s = (e7, s7)) := Lib.hid (by rw [hP7.out, if_pos z])
          clear hP7 hu hjw he
          go_wp2
          go_ret
          exact ⟨e7, s7, hx, rfl, f7, b7.mono (by omega), F7, HT7.out, HM7.out⟩
      · obtain rfl : j = 3 := by have := HG.out; omega
        obtain rfl : gk = 0 := by have := HG.out; omega
        have hx : Hid (pBack q 1 first count s = (0, sx)) := Lib.hid (by rw [HP.out]; rfl)
        clear hj
        go_wp2
        go_ret
        exact ⟨0, sx, hx, rfl, fx, bx, Fx, HT.out, HM.out⟩
end Go.Proofs.Ytcgdpclhlepofaa
