/- A part laid back, by contract. -/
import Derived.Deep.RegionWith
import Derived.Laws.EntriesVeiled
import Derived.Deep.LoopGhost
import Derived.Test.YtcgdpclhlepofaaPPq1
import Derived.Test.YtcgdpclhlepofaaPPq5
import Derived.Test.YtcgdpclhlepofaaPPq6
import Derived.Test.YtcgdpclhlepofaaPPq7
namespace Go.Proofs.Ytcgdpclhlepofaa
open Go.RowKit
set_option maxHeartbeats 4000000
set_option linter.unusedVariables false
set_option linter.unusedSimpArgs false

theorem pPuts_drop {q : Int} {l : List Int} {j : Nat} (hj : j < l.length) {s s1 : St} {e : Int} (h : sput s (uAdd q j) (l.getD j 0) = (e, s1)) : pPuts q (l.drop j) j s = if (e != 0) = true then (e, s1) else pPuts q (l.drop (j + 1)) (j + 1) s1 := by
  rw [List.drop_eq_getElem_cons hj]
  have e1 : l[j] = l.getD j 0 := by rw [List.getD_eq_getElem?_getD, List.getElem?_eq_getElem hj]; rfl
  rw [e1, pPuts, h]
theorem lastOf_bd (l : List Int) : 0 ≤ lastOf l ∧ lastOf l ≤ 18446744073709551615 := by
  unfold lastOf
  split
  · exact uAdd_bd _ _
  · omega
set_option maxRecDepth 100000 in
theorem pback_b {t n : Nat} {F F0 : Nat → Prop} {s : St} {q kind first count : Int} {w w0 : World}
    (hw : Txw w t F s) (hf : Fits s) (hb : Bud s (n + 3 + 3 * 65537 + 1)) (h1 : 0 ≤ q) (h1' : q ≤ 18446744073709551615) (h2 : 0 ≤ first) (h2' : first ≤ 18446744073709551615) (h3 : 0 ≤ count) (h3' : count ≤ 18446744073709551615) (hm : Fr F0 w0 F w) :
    Calls Try.prog 16 #[.iface 26 (.pointer (some ⟨t, 0, none⟩)), .int .u64 q, .agg #[.int .i64 kind, .int .u64 first, .int .u64 count]] w fun e w' =>
      ∃ er s', Hid (pBack q kind first count s = (er, s')) ∧ e = .returned (.int .i64 er) ∧ Lft t n F0 w0 s' w' := by
  have hT := hw.alloc (.cells #[.int .i64 kind, .int .u64 first, .int .u64 count] 25)
  have hM := hm.alloc (.cells #[.int .i64 kind, .int .u64 first, .int .u64 count] 25)
  have hB := Blk.new w 25 #[.int .i64 kind, .int .u64 first, .int .u64 count]
  have hBF : ¬ F w.heap.size := fun h => by have := hw.lt _ h; omega
  clear hw hm
  by_cases hk : kind = 1
  case neg =>
    have z : (kind != 1) = true := by simpa using hk
    have hx : Hid (pBack q kind first count s = (2, s)) := Lib.hid (by unfold pBack; rw [if_pos hk])
    have hT := Lib.hid hT
    have hM := Lib.hid hM
    clear hk hB
    go_enter Try.func16, Try.ntmps16
    go_wp2
    first | (go_ret; exact ⟨2, s, hx, rfl, hf, hb.mono (by omega), F, hT.out, hM.out⟩) | (go_step3; go_wp2; trace_state; sorry)
  subst hk
  have d0 := hB.cell 0
  have d1 := hB.cell 1
  have d2 := hB.cell 2
  simp only [List.getElem?_toArray, List.getElem?_cons_zero, List.getElem?_cons_succ] at d0 d1 d2
  have HB := Lib.hid hB
  go_enter Try.func16, Try.ntmps16
  go_wp2_with fail
  generalize w.alloc (.cells #[.int .i64 1, .int .u64 first, .int .u64 count] 25) = w1 at *
  generalize w.heap.size = pb at *
  have hb' : Bud s ((n + 3 + 3 * 65537) + 1) := hb
  refine (tget_b hT hf hb' h1 (Fr.refl F _)).mono ?_
  rintro _ w3 ⟨f, e3, s3, q3, df, df', rfl, f3, b3, F3, hT3, hm3⟩
  have HB3 := Lib.hid (hm3.blk HB.out hBF)
  have hF3 : ¬ F3 pb := hm3.not_in HB.out.lt hBF
  have HT3 := Lib.hid hT3
  have HM3 := Lib.hid (hM.trans hm3)
  clear hT hM hB hm3 hT3 HB d0 d1 d2 hb hb' hf
  by_cases he : e3 = 0
  case neg =>
    have z : (e3 != 0) = true := by simpa using he
    have hx : Hid (pBack q 1 first count s = (e3, s3)) := Lib.hid (by unfold pBack; rw [if_neg (by decide), q3.out]; simp only; rw [if_pos z])
    clear he
    go_wp2
    go_ret
    exact ⟨e3, s3, hx, rfl, f3, b3.mono (by omega), F3, HT3.out, HM3.out⟩
  subst he
  by_cases hf0 : f = 0
  case neg =>
    have z : (f != 0) = true := by simpa using hf0
    have hx : Hid (pBack q 1 first count s = (2, s3)) := Lib.hid (by unfold pBack; rw [if_neg (by decide), q3.out]; simp only; rw [if_neg (by decide), if_pos z])
    clear hf0
    go_wp2
    go_ret
    exact ⟨2, s3, hx, rfl, f3, b3.mono (by omega), F3, HT3.out, HM3.out⟩
  subst hf0
  have d0 := HB3.out.cell 0
  have d1 := HB3.out.cell 1
  have d2 := HB3.out.cell 2
  simp only [List.getElem?_toArray, List.getElem?_cons_zero, List.getElem?_cons_succ] at d0 d1 d2
  have hQ : Hid (pBack q 1 first count s = match pNodes 1 first count s3 with | (l, e2, s2) => if (e2 != 0) = true then (e2, s2) else pPuts q [first, lastOf l, count] 0 s2) := Lib.hid (by unfold pBack; rw [if_neg (by decide), q3.out]; simp only; rw [if_neg (by decide), if_neg (by decide)])
  clear q3 df df'
  go_wp2_with fail
  refine (pnodes_b (n := n + 3) HT3.out f3 (b3.mono (by omega)) h2 h2' h3 h3' (Fr.refl F3 _)).mono ?_
  rintro _ w5 ⟨v5, l5, e5, s5, q5, rfl, f5, b5, hv5, hvo5, F5, hT5, hm5, hvF5⟩
  have HB5 := Lib.hid (hm5.blk HB3.out hF3)
  have hF5 : ¬ F5 pb := hm5.not_in HB3.out.lt hF3
  have HT5 := Lib.hid hT5
  have HM5 := Lib.hid (HM3.out.trans hm5)
  have HV5 := Lib.hid hv5
  obtain ⟨A5, c5, rfl, hc5⟩ := hv5.shape
  have HVF := Lib.hid hvF5
  clear hT5 hm5 hv5 HB3 HT3 HM3 f3 b3 d0 d1 d2 hvF5 hF3
  by_cases he : e5 = 0
  case neg =>
    have z : (e5 != 0) = true := by simpa using he
    have hx : Hid (pBack q 1 first count s = (e5, s5)) := Lib.hid (by rw [hQ.out, q5.out]; simp only; rw [if_pos z])
    clear he
    go_wp2
    go_ret
    exact ⟨e5, s5, hx, rfl, f5, b5.mono (by omega), F5, HT5.out, HM5.out⟩
  subst he
  have hQ2 : Hid (pBack q 1 first count s = pPuts q [first, lastOf l5, count] 0 s5) := Lib.hid (by rw [hQ.out, q5.out]; simp only; rw [if_neg (by decide)])
  have d0 := HB5.out.cell 0
  have d1 := HB5.out.cell 1
  have d2 := HB5.out.cell 2
  simp only [List.getElem?_toArray, List.getElem?_cons_zero, List.getElem?_cons_succ] at d0 d1 d2
  clear hQ q5
  -- the last node's link
  have hll : Hid ((l5 = [] ∧ lastOf l5 = 0) ∨ ∃ (g o : Nat) (x : Int), A5 = some ⟨g, o, none⟩ ∧ 0 < l5.length ∧ w5.cell? ⟨g, o + (l5.length - 1), none⟩ = some (.int .u64 x) ∧ lastOf l5 = IntKind.u64.wrap (x + 1)) := Lib.hid (by
    by_cases hl : l5 = []
    · exact .inl ⟨hl, by rw [hl]; rfl⟩
    · right
      have hpos : 0 < l5.length := List.length_pos_iff.2 hl
      obtain ⟨g, o, hA, _, hc, _⟩ := HV5.out.upd (j := l5.length - 1) (by omega)
      refine ⟨g, o, l5.getD (l5.length - 1) 0, hA, hpos, hc, ?_⟩
      unfold lastOf
      rw [List.getLast?_eq_getElem?, List.getD_eq_getElem?_getD, List.getElem?_eq_getElem (by omega)]
      rfl)
  have hlb := lastOf_bd l5
  have hlen5 : Hid (l5.length ≤ 9223372036854775807) := Lib.hid (by
    rcases HV5.out.2 with ⟨_, h0⟩ | ⟨_, _, _, _, _, _, _, h4, h5, _⟩
    · omega
    · unfold maxLen at h5; omega)
  have hli : (l5.length : Int) ≤ 9223372036854775807 := by have := hlen5.out; omega
  obtain ⟨la, hla⟩ : ∃ la, lastOf l5 = la := ⟨_, rfl⟩
  rw [hla] at hQ2 hlb hll
  clear hla
  have HT6 := Lib.hid (HT5.out.alloc (.cells #[.int .u64 first, .int .u64 la, .int .u64 count] 23))
  have HM6 := Lib.hid (HM5.out.alloc (.cells #[.int .u64 first, .int .u64 la, .int .u64 count] 23))
  have HL6 : Hid (Lies (w5.alloc (.cells #[.int .u64 first, .int .u64 la, .int .u64 count] 23)) (.slice (some ⟨w5.heap.size, 0, none⟩) 3 3) [first, la, count]) := Lib.hid (Lies.new w5 [first, la, count] (by simp))
  have hF6 : Hid (∀ k, own (.slice (some ⟨w5.heap.size, 0, none⟩) 3 3) k → ¬ F5 k ∧ k < (w5.alloc (.cells #[.int .u64 first, .int .u64 la, .int .u64 count] 23)).heap.size) := Lib.hid fun k hk => by
    obtain rfl : w5.heap.size = k := by simpa [own, Value.ownBlock] using hk
    exact ⟨fun h => by have := HT5.out.lt _ h; omega, by simp⟩
  have HLB := Lib.hid hlb
  clear hlb
  have key : Hid (∀ (g o : Nat) (x : Int), 0 < l5.length → Hid (IntKind.i64.wrap ((l5.length : Int) - 1) = (l5.length : Int) - 1 ∧ ((l5.length : Int) - 1).toNat = l5.length - 1)) := Lib.hid fun _ _ _ hp => Lib.hid ⟨IntWalk.i64_in _ (by omega), by omega⟩
  rcases hll.out with ⟨hl0, rfl⟩ | ⟨g, o, x, hA, hpos, hcx, hlx⟩
  · have hl2 : l5.length = 0 := by rw [hl0]; rfl
    rw [hl2] at hc5 hli
    rw [hl2]
    clear hll hl0 hl2 HV5 HVF hvo5 hlen5 key HT5 HM5
    go_wp2_with fail
    generalize w5.alloc (.cells #[.int .u64 first, .int .u64 0, .int .u64 count] 23) = w6 at *
    generalize w5.heap.size = lb at *
    clear d0 d1 d2
    go_loopg [61] 3 (fun gk c61 wr => ∃ (j : Nat) (sx : St) (Fx : Nat → Prop), gk + j = 3 ∧ c61 = .int .i64 (j : Int) ∧ Hid (pBack q 1 first count s = pPuts q ([first, 0, count].drop j) j sx) ∧ Fits sx ∧ Bud sx (n + gk) ∧ Hid (Txw wr t Fx sx) ∧ Hid (Fr F0 w0 Fx wr) ∧ Hid (Lies wr (.slice (some ⟨lb, 0, none⟩) 3 3) [first, 0, count]) ∧ Hid (∀ k, own (.slice (some ⟨lb, 0, none⟩) 3 3) k → ¬ Fx k ∧ k < wr.heap.size))
    case atStart => exact ⟨0, s5, F5, rfl, rfl, hQ2, f5, b5, HT6, HM6, HL6, hF6⟩
    case round =>
      obtain ⟨j, sx, Fx, hgk, rfl, HP, fx, bx, HT, HM, HL, HO⟩ := hrel
      have HG := Lib.hid hgk
      clear hgk HT6 HM6 HL6 hF6 f5 b5 hQ2
      by_cases hj : j < 3
      · obtain ⟨g1, rfl⟩ : ∃ g1, gk = g1 + 1 := ⟨gk - 1, by have := HG.out; omega⟩
        obtain ⟨A2, c2, e1, hc2, _, hcs⟩ := HL.out
        rw [Value.slice.injEq] at e1
        obtain ⟨rfl, -, rfl⟩ := e1
        obtain ⟨gz, oz, hA, hc⟩ := hcs j hj
        simp only [Option.some.injEq, Addr.mk.injEq, and_true] at hA
        obtain ⟨rfl, rfl⟩ := hA
        rw [Nat.zero_add] at hc
        have hP2 := Lib.hid fun (e : Int) (s1 : St) (h : sput sx (uAdd q j) (([first, 0, count] : List Int).getD j 0) = (e, s1)) => HP.out.trans (pPuts_drop (l := [first, 0, count]) hj h)
        have hxb : 0 ≤ ([first, 0, count] : List Int).getD j 0 ∧ ([first, 0, count] : List Int).getD j 0 ≤ 18446744073709551615 := by
          rcases (show j = 0 ∨ j = 1 ∨ j = 2 by omega) with rfl | rfl | rfl
          · exact ⟨h2, h2'⟩
          · exact HLB.out
          · exact ⟨h3, h3'⟩
        obtain ⟨hx1, hx2⟩ := hxb
        have hji : (j : Int) < 3 := by omega
        have hjw : IntKind.u64.wrap (j : Int) = j := IntWalk.u64_in _ (by omega)
        have hu : IntKind.u64.wrap (q + j) = uAdd q j := rfl
        clear hcs HP
        generalize ([first, 0, count] : List Int).getD j 0 = xj at *
        have bx : Bud sx ((n + g1) + 1) := bx
        go_wp2_with fail
        refine (tput_b HT.out fx bx (uAdd_bd _ _).1 hx1 hx2 (Fr.refl Fx _)).mono ?_
        rintro _ w7 ⟨e7, s7, q7, rfl, f7, b7, F7, hT7, hm7⟩
        have HT7 := Lib.hid hT7
        have HM7 := Lib.hid (HM.out.trans hm7)
        have HL7 := Lib.hid (lies_fr HL.out hm7 fun k hk => (HO.out k hk).1)
        have HO7 : Hid (∀ k, own (.slice (some ⟨lb, 0, none⟩) 3 3) k → ¬ F7 k ∧ k < w7.heap.size) := Lib.hid fun k hk => ⟨fun h => (hm7.new k h).elim (HO.out k hk).1 fun h2 => by have := (HO.out k hk).2; omega, by have := (HO.out k hk).2; have := hm7.size; omega⟩
        have hP7 := Lib.hid (hP2.out e7 s7 q7.out)
        clear hT7 hm7 HT HM HL HO hP2 q7 hc
        by_cases he : e7 = 0
        · subst he
          have hP8 : Hid (pBack q 1 first count s = pPuts q ([first, 0, count].drop (j + 1)) ((j + 1 : Nat) : Int) s7) := Lib.hid (by rw [hP7.out, if_neg (by decide)]; simp)
          clear hP7 hu hjw
          go_wp2
          go_roundg g1
          case measure => omega
          case rel => exact ⟨j + 1, s7, F7, by have := HG.out; omega, by go_num, hP8, f7, b7, HT7, HM7, HL7, HO7⟩
        · have z : (e7 != 0) = true := by simpa using he
          have hx : Hid (pBack q 1 first count s = (e7, s7)) := Lib.hid (by rw [hP7.out, if_pos z])
          clear hP7 hu hjw he
          go_wp2
          go_ret
          exact ⟨e7, s7, hx, rfl, f7, b7.mono (by omega), F7, HT7.out, HM7.out⟩
      · obtain rfl : j = 3 := by have := HG.out; omega
        obtain rfl : gk = 0 := by have := HG.out; omega
        have hx : Hid (pBack q 1 first count s = (0, sx)) := Lib.hid (by rw [HP.out]; rfl)
        clear hj
        go_wp2
        go_ret
        exact ⟨0, sx, hx, rfl, fx, bx, Fx, HT.out, HM.out⟩
  · subst hA
    obtain ⟨k1, k2⟩ := (key.out g o x hpos).out
    have hpi : (0 : Int) < l5.length := by omega
    have hxw : IntKind.u64.wrap (x + 1) = la := hlx.symm
    have hk3 : (l5.length : Int) - 1 < l5.length := by omega
    have hk4 : 0 ≤ (l5.length : Int) - 1 := by omega
    have hk5 : l5.length - 1 < l5.length := by omega
    clear hll HV5 HVF hvo5 hlen5 key HT5 HM5 hlx
    generalize l5.length = ll at *
    go_wp2_with fail
    generalize w5.alloc (.cells #[.int .u64 first, .int .u64 la, .int .u64 count] 23) = w6 at *
    generalize w5.heap.size = lb at *
    clear d0 d1 d2
    go_loopg [61] 3 (fun gk c61 wr => ∃ (j : Nat) (sx : St) (Fx : Nat → Prop), gk + j = 3 ∧ c61 = .int .i64 (j : Int) ∧ Hid (pBack q 1 first count s = pPuts q ([first, la, count].drop j) j sx) ∧ Fits sx ∧ Bud sx (n + gk) ∧ Hid (Txw wr t Fx sx) ∧ Hid (Fr F0 w0 Fx wr) ∧ Hid (Lies wr (.slice (some ⟨lb, 0, none⟩) 3 3) [first, la, count]) ∧ Hid (∀ k, own (.slice (some ⟨lb, 0, none⟩) 3 3) k → ¬ Fx k ∧ k < wr.heap.size))
    case atStart => exact ⟨0, s5, F5, rfl, rfl, hQ2, f5, b5, HT6, HM6, HL6, hF6⟩
    case round =>
      obtain ⟨j, sx, Fx, hgk, rfl, HP, fx, bx, HT, HM, HL, HO⟩ := hrel
      have HG := Lib.hid hgk
      clear hgk HT6 HM6 HL6 hF6 f5 b5 hQ2
      by_cases hj : j < 3
      · obtain ⟨g1, rfl⟩ : ∃ g1, gk = g1 + 1 := ⟨gk - 1, by have := HG.out; omega⟩
        obtain ⟨A2, c2, e1, hc2, _, hcs⟩ := HL.out
        rw [Value.slice.injEq] at e1
        obtain ⟨rfl, -, rfl⟩ := e1
        obtain ⟨gz, oz, hA, hc⟩ := hcs j hj
        simp only [Option.some.injEq, Addr.mk.injEq, and_true] at hA
        obtain ⟨rfl, rfl⟩ := hA
        rw [Nat.zero_add] at hc
        have hP2 := Lib.hid fun (e : Int) (s1 : St) (h : sput sx (uAdd q j) (([first, la, count] : List Int).getD j 0) = (e, s1)) => HP.out.trans (pPuts_drop (l := [first, la, count]) hj h)
        have hxb : 0 ≤ ([first, la, count] : List Int).getD j 0 ∧ ([first, la, count] : List Int).getD j 0 ≤ 18446744073709551615 := by
          rcases (show j = 0 ∨ j = 1 ∨ j = 2 by omega) with rfl | rfl | rfl
          · exact ⟨h2, h2'⟩
          · exact HLB.out
          · exact ⟨h3, h3'⟩
        obtain ⟨hx1, hx2⟩ := hxb
        have hji : (j : Int) < 3 := by omega
        have hjw : IntKind.u64.wrap (j : Int) = j := IntWalk.u64_in _ (by omega)
        have hu : IntKind.u64.wrap (q + j) = uAdd q j := rfl
        clear hcs HP
        generalize ([first, la, count] : List Int).getD j 0 = xj at *
        have bx : Bud sx ((n + g1) + 1) := bx
        go_wp2_with fail
        refine (tput_b HT.out fx bx (uAdd_bd _ _).1 hx1 hx2 (Fr.refl Fx _)).mono ?_
        rintro _ w7 ⟨e7, s7, q7, rfl, f7, b7, F7, hT7, hm7⟩
        have HT7 := Lib.hid hT7
        have HM7 := Lib.hid (HM.out.trans hm7)
        have HL7 := Lib.hid (lies_fr HL.out hm7 fun k hk => (HO.out k hk).1)
        have HO7 : Hid (∀ k, own (.slice (some ⟨lb, 0, none⟩) 3 3) k → ¬ F7 k ∧ k < w7.heap.size) := Lib.hid fun k hk => ⟨fun h => (hm7.new k h).elim (HO.out k hk).1 fun h2 => by have := (HO.out k hk).2; omega, by have := (HO.out k hk).2; have := hm7.size; omega⟩
        have hP7 := Lib.hid (hP2.out e7 s7 q7.out)
        clear hT7 hm7 HT HM HL HO hP2 q7 hc
        by_cases he : e7 = 0
        · subst he
          have hP8 : Hid (pBack q 1 first count s = pPuts q ([first, la, count].drop (j + 1)) ((j + 1 : Nat) : Int) s7) := Lib.hid (by rw [hP7.out, if_neg (by decide)]; simp)
          clear hP7 hu hjw
          go_wp2
          go_roundg g1
          case measure => omega
          case rel => exact ⟨j + 1, s7, F7, by have := HG.out; omega, by go_num, hP8, f7, b7, HT7, HM7, HL7, HO7⟩
        · have z : (e7 != 0) = true := by simpa using he
          have hx : Hid (pBack q 1 first count s = (e7, s7)) := Lib.hid (by rw [hP7.out, if_pos z])
          clear hP7 hu hjw he
          go_wp2
          go_ret
          exact ⟨e7, s7, hx, rfl, f7, b7.mono (by omega), F7, HT7.out, HM7.out⟩
      · obtain rfl : j = 3 := by have := HG.out; omega
        obtain rfl : gk = 0 := by have := HG.out; omega
        have hx : Hid (pBack q 1 first count s = (0, sx)) := Lib.hid (by rw [HP.out]; rfl)
        clear hj
        go_wp2
        go_ret
        exact ⟨0, sx, hx, rfl, fx, bx, Fx, HT.out, HM.out⟩
end Go.Proofs.Ytcgdpclhlepofaa
/- A part's nodes gone over, by contract. -/
namespace Go.Proofs.Ytcgdpclhlepofaa
open Go.RowKit
set_option maxHeartbeats 4000000
set_option linter.unusedVariables false
set_option linter.unusedSimpArgs false

set_option maxRecDepth 100000 in
theorem each2_b {t n gf c1 c2 : Nat} {F F0 G : Nat → Prop} {s : St} {kind first count : Int} {w w0 : World} {J : World → (Nat → Prop) → (Nat → Prop) → List Int → Prop} {step : Int → Int → List Int → St → Int × List Int × St} (HJ : JLaw t step J gf fun nd wd => #[.int .u64 nd, .int .u64 wd, .pointer (some ⟨c1, 0, none⟩), .pointer (some ⟨c2, 0, none⟩)])
    (hw : Txw w t F s) (hj : J w F G []) (hG : ∀ k, G k → k < w.heap.size) (hf : Fits s) (hb : Bud s (n + 3 * 65537)) (h1 : 0 ≤ first) (h1' : first ≤ 18446744073709551615) (h2 : 0 ≤ count) (h2' : count ≤ 18446744073709551615) (hm : Fr F0 w0 (fun k => F k ∨ G k) w) :
    Calls Try.prog 33 #[.agg #[.int .i64 kind, .int .u64 first, .int .u64 count], .func (.func 13) #[.pointer (some ⟨t, 0, none⟩)] #[], .func (.func gf) #[] #[.pointer (some ⟨c1, 0, none⟩), .pointer (some ⟨c2, 0, none⟩)]] w fun e w' =>
      ∃ er l s', Hid (pAll step kind first count s = (er, l, s')) ∧ e = .returned (.int .i64 er) ∧ LftJ t n F0 w0 J s' l w' := by
  have HJ := Lib.hid HJ
  have hpb := Blk.new w 25 #[.int .i64 kind, .int .u64 first, .int .u64 count]
  have hjw := HJ.out.keep (fun k hk => hw.lt k hk) ((Fr.refl F w).alloc (.cells #[.int .i64 kind, .int .u64 first, .int .u64 count] 25)) hj
  have hTw := hw.alloc (.cells #[.int .i64 kind, .int .u64 first, .int .u64 count] 25)
  have hMw := hm.alloc (.cells #[.int .i64 kind, .int .u64 first, .int .u64 count] 25)
  have hnb : ¬ F w.heap.size := fun h => by have := hw.lt _ h; omega
  have hng : ¬ G w.heap.size := fun h => by have := hG _ h; omega
  have d0 := hpb.cell 0
  have d1 := hpb.cell 1
  have d2 := hpb.cell 2
  simp only [List.getElem?_toArray, List.getElem?_cons_zero, List.getElem?_cons_succ] at d0 d1 d2
  have hL0 := Lib.hid (show LftJ t n F0 w0 J s [] (w.alloc (.cells #[.int .i64 kind, .int .u64 first, .int .u64 count] 25)) from ⟨by simp, hf, hb.mono (by omega), F, G, hTw, hjw, hMw⟩)
  have HP := Lib.hid hpb
  have HT := Lib.hid hTw
  have HM := Lib.hid hMw
  have HI := Lib.hid hjw
  clear hpb hTw hMw hjw hw hj hm hG
  by_cases hk : kind ≠ 1 ∧ kind ≠ 2
  · have hq : Hid (pAll step kind first count s = (2, [], s)) := Lib.hid (by unfold pAll; rw [if_pos hk])
    have k1 : (kind != 1) = true := by simpa using hk.1
    have k2 : (kind != 2) = true := by simpa using hk.2
    clear hk
    go_enter Try.func33, Try.ntmps33
    go_wp2
    go_step3
    go_wp2
    try rw [Exit.noGoto_ret]
    go_ret
    exact ⟨2, [], s, hq, rfl, hL0.out⟩
  have hkc : ((kind != 1) = false ∧ kind = 1) ∨ ((kind != 1) = true ∧ (kind != 2) = false) := by
    by_cases e1 : kind = 1
    · exact .inl ⟨by simpa using e1, e1⟩
    · by_cases e2 : kind = 2
      · exact .inr ⟨by simpa using e1, by simpa using e2⟩
      · exact absurd ⟨e1, e2⟩ hk
  have hA : Hid (pAll step kind first count s = if 65536 < count ∨ ((first == 0) != (count == 0)) = true then (360, [], s) else pEach step count 65537 first 0 [] s) := Lib.hid (by unfold pAll; rw [if_neg hk])
  have hkk : Hid (((kind != 1) = false) ∨ ((kind != 1) = true ∧ (kind != 2) = false)) := Lib.hid (hkc.imp (·.1) id)
  clear hk hkc
  go_enter Try.func33, Try.ntmps33
  go_wp2
  go_step3
  generalize hWe : w.alloc (.cells #[.int .i64 kind, .int .u64 first, .int .u64 count] 25) = w1 at *
  have hpbe : w.heap.size < w1.heap.size := by rw [← hWe]; simp
  generalize hpe : w.heap.size = pb at *
  clear hWe hpe
  by_cases hbad : 65536 < count ∨ ((first == 0) != (count == 0)) = true
  · have hq : Hid (pAll step kind first count s = (360, [], s)) := Lib.hid (by rw [hA.out, if_pos hbad])
    have hbb : Hid ((decide (65536 < count) = true) ∨ (decide (65536 < count) = false ∧ (!((first == 0) == (count == 0))) = true)) := Lib.hid (by
      by_cases e : 65536 < count
      · exact .inl (decide_eq_true e)
      · exact .inr ⟨decide_eq_false e, by simpa [bne] using hbad.resolve_left e⟩)
    clear hbad hA
    rcases hkk.out with k1 | ⟨k1, k2⟩
    all_goals rcases hbb.out with b1 | ⟨b1, b2⟩
    all_goals
      clear hkk hbb
      go_wp2
      try rw [Exit.noGoto_ret]
      go_ret
      exact ⟨360, [], s, hq, rfl, hL0.out⟩
  have hq : Hid (pAll step kind first count s = pEach step count 65537 first 0 [] s) := Lib.hid (by rw [hA.out, if_neg hbad])
  have hc6 : count ≤ 65536 := by omega
  have hcz : (!((first == 0) == (count == 0))) = false := by
    cases hh : (!((first == 0) == (count == 0))) with
    | false => rfl
    | true => exact absurd (.inr (by simpa [bne] using hh)) hbad
  have hfc : Hid (first = 0 ∨ ((0 : Nat) : Int) < count) := Lib.hid (by
    by_cases e : first = 0
    · exact .inl e
    · right
      have e2 : (first == 0) = false := by simpa using e
      rw [e2] at hcz
      have : ¬ count = 0 := fun h => by rw [h] at hcz; simp at hcz
      omega)
  have b1 : decide (65536 < count) = false := decide_eq_false (by omega)
  clear hbad hA hL0
  have hcnt := Lib.hid hc6
  have HD := Lib.hid d2
  rcases hkk.out with k1 | ⟨k1, k2⟩
  all_goals
    clear hkk
    go_wp2_with fail
    go_step3
    go_wp2_with fail
    go_loopg [7, 8] 65537 (fun gk c7 c8 wr => ∃ (k : Nat) (nx : Int) (l : List Int) (s1 : St) (F1 G1 : Nat → Prop), gk + k = 65537 ∧ c7 = .int .u64 nx ∧ c8 = .int .u64 (k : Int) ∧ 0 ≤ nx ∧ nx ≤ 18446744073709551615 ∧ l.length ≤ k ∧ Hid (nx = 0 ∨ (k : Int) < count) ∧ Hid (pAll step kind first count s = pEach step count gk nx (k : Int) l s1) ∧ Fits s1 ∧ Bud s1 (n + 3 * gk) ∧ Txw wr t F1 s1 ∧ Hid (J wr F1 G1 l) ∧ Hid (Fr F0 w0 (fun k => F1 k ∨ G1 k) wr) ∧ Hid (Blk wr pb 25 #[.int .i64 kind, .int .u64 first, .int .u64 count]) ∧ ¬ F1 pb ∧ ¬ G1 pb)
    case atStart => exact ⟨0, first, [], s, F, G, rfl, rfl, rfl, h1, h1', by simp, hfc, hq, hf, hb, HT.out, HI, HM, HP, hnb, hng⟩
    case round =>
      obtain ⟨k, nx, l, s1, F1, G1, hgk, rfl, rfl, dx, dx', hlk, hcs, hR, hf1, hb1, hT1, hJ1, hM1, hP1, hn1, hg1⟩ := hrel
      clear HT HI HM HP hnb hng hf hb hfc hq d0 d1 d2 HD
      have dP := hP1.out.cell 2
      simp only [List.getElem?_toArray, List.getElem?_cons_zero, List.getElem?_cons_succ] at dP
      by_cases h0 : nx = 0
      · have h0' : (nx != 0) = false := by simpa using h0
        have hq : Hid (pAll step kind first count s = (0, l, s1)) := Lib.hid (by rw [hR.out, pEach_end h0])
        have hfin : Hid (LftJ t n F0 w0 J s1 l wr) := Lib.hid ⟨by omega, hf1, hb1.mono (by omega), F1, G1, hT1, hJ1.out, hM1.out⟩
        clear h0 hT1 hcs hR
        go_wp2
        try rw [Exit.noGoto_ret]
        go_ret
        exact ⟨0, l, s1, hq, rfl, hfin.out⟩
      have h0' : (nx != 0) = true := by simpa using h0
      have hkc := hcs.out.resolve_left h0
      obtain ⟨m, rfl⟩ : ∃ m, gk = m + 1 := ⟨gk - 1, by omega⟩
      have H0 := Lib.hid h0
      obtain ⟨u1, u2⟩ := uw_bd (nx - 1)
      have hb1 : Bud s1 ((n + 3 * m + 2) + 1) := hb1
      have HG := Lib.hid hgk
      have HK := Lib.hid hlk
      have HKC := Lib.hid hkc
      have Hn := Lib.hid hn1
      have Hg := Lib.hid hg1
      clear h0 hcs hgk hlk hkc hn1 hg1
      go_wp2_with fail
      refine (tget_b hT1 hf1 hb1 u1 (Fr.refl F1 wr)).mono ?_
      rintro _ w2 ⟨x2, e2, s2, q2, dx2, dx2', rfl, f2, b2, F2, hT2, hm2⟩
      have hJ2 : Hid (J w2 F2 G1 l) := Lib.hid (HJ.out.keep (fun k hk => hT1.lt k hk) hm2 hJ1.out)
      have hM2 : Hid (Fr F0 w0 (fun k => F2 k ∨ G1 k) w2) := Lib.hid (hM1.out.trans (hm2.side G1))
      have hn2 : Hid (¬ F2 pb) := Lib.hid fun h => (hm2.new pb h).elim Hn.out fun h => by have := hP1.out.lt; omega
      have hP2 : Hid (Blk w2 pb 25 #[.int .i64 kind, .int .u64 first, .int .u64 count]) := Lib.hid (hm2.blk hP1.out Hn.out)
      have q2 : Hid (sget s1 (IntKind.u64.wrap (nx - 1)) = (x2, e2, s2)) := q2
      have b2 : Bud s2 ((n + 3 * m + 1) + 1) := b2
      clear hT1 hf1 hb1 hm2 hJ1 hM1 hP1 dP Hn
      by_cases he2 : e2 = 0
      case neg =>
        have z1 : (e2 == 0) = false := by simpa using he2
        have z2 : (e2 != 0) = true := by simpa using he2
        have hq : Hid (pAll step kind first count s = (e2, l, s2)) := Lib.hid (by rw [hR.out, pEach_e1 H0.out q2.out he2])
        have hfin : Hid (LftJ t n F0 w0 J s2 l w2) := Lib.hid ⟨by have := HG.out; have := HK.out; omega, f2, b2.mono (by omega), F2, G1, hT2, hJ2.out, hM2.out⟩
        clear he2 hT2 hR q2
        go_wp2
        try rw [Exit.noGoto_ret]
        go_ret
        exact ⟨e2, l, s2, hq, rfl, hfin.out⟩
      subst he2
      have HE := HJ.out.ent
      go_wp2_with fail
      clear HE
      refine (HJ.out.call (n := n + 3 * m + 1) hT2 f2 b2 (by have := HG.out; have := HK.out; omega) u1 u2 dx2 dx2' hJ2.out).mono ?_
      rintro _ w3 ⟨e3, l3, s3, q3, rfl, hl3, f3, b3, F3, G3, hT3, hJ3, hm3⟩
      have hM3 : Hid (Fr F0 w0 (fun k => F3 k ∨ G3 k) w3) := Lib.hid (hM2.out.trans hm3)
      have hnn : ¬ (F2 pb ∨ G1 pb) := fun h => h.elim hn2.out Hg.out
      have hlt2 := hP2.out.lt
      have hn3 : Hid (¬ F3 pb) := Lib.hid fun h => (hm3.new pb (.inl h)).elim hnn fun h => by omega
      have hg3 : Hid (¬ G3 pb) := Lib.hid fun h => (hm3.new pb (.inr h)).elim hnn fun h => by omega
      have hP3 : Hid (Blk w3 pb 25 #[.int .i64 kind, .int .u64 first, .int .u64 count]) := Lib.hid (hm3.blk hP2.out hnn)
      have hJ3 := Lib.hid hJ3
      have HL3 := Lib.hid hl3
      have b3 : Bud s3 ((n + 3 * m) + 1) := b3
      have hlen3 : Hid (l3.length ≤ 65537) := Lib.hid (by have := HG.out; have := HK.out; omega)
      clear hT2 f2 b2 hJ2 hM2 hP2 hn2 hm3 hnn hlt2 Hg hl3
      by_cases he3 : e3 = 0
      case neg =>
        have z2 : (e3 != 0) = true := by simpa using he3
        have hq : Hid (pAll step kind first count s = (e3, l3, s3)) := Lib.hid (by rw [hR.out, pEach_e2 H0.out q2.out q3.out he3])
        have hfin : Hid (LftJ t n F0 w0 J s3 l3 w3) := Lib.hid ⟨hlen3.out, f3, b3.mono (by omega), F3, G3, hT3, hJ3.out, hM3.out⟩
        clear he3 hT3 hR q2 q3
        go_wp2
        try rw [Exit.noGoto_ret]
        go_ret
        exact ⟨e3, l3, s3, hq, rfl, hfin.out⟩
      subst he3
      go_wp2_with fail
      refine (tget_b hT3 f3 b3 (uw_bd _).1 (Fr.refl F3 w3)).mono ?_
      rintro _ w4 ⟨x4, e4, s4, q4, dx4, dx4', rfl, f4, b4, F4, hT4, hm4⟩
      have q4 : Hid (sget s3 (uAdd (IntKind.u64.wrap (nx - 1)) 1) = (x4, e4, s4)) := q4
      have hJ4 : Hid (J w4 F4 G3 l3) := Lib.hid (HJ.out.keep (fun k hk => hT3.lt k hk) hm4 hJ3.out)
      have hM4 : Hid (Fr F0 w0 (fun k => F4 k ∨ G3 k) w4) := Lib.hid (hM3.out.trans (hm4.side G3))
      have hn4 : Hid (¬ F4 pb) := Lib.hid fun h => (hm4.new pb h).elim hn3.out fun h => by have := hP3.out.lt; omega
      have hP4 : Hid (Blk w4 pb 25 #[.int .i64 kind, .int .u64 first, .int .u64 count]) := Lib.hid (hm4.blk hP3.out hn3.out)
      clear hT3 f3 b3 hm4 hJ3 hM3 hP3 hn3
      have hfin : Hid (LftJ t n F0 w0 J s4 l3 w4) := Lib.hid ⟨hlen3.out, f4, b4.mono (by omega), F4, G3, hT4, hJ4.out, hM4.out⟩
      by_cases he4 : e4 = 0
      case neg =>
        have z2 : (e4 != 0) = true := by simpa using he4
        have hq : Hid (pAll step kind first count s = (e4, l3, s4)) := Lib.hid (by rw [hR.out, pEach_e3 H0.out q2.out q3.out q4.out he4])
        clear he4 hT4 hR q2 q3 q4
        go_wp2
        try rw [Exit.noGoto_ret]
        go_ret
        exact ⟨e4, l3, s4, hq, rfl, hfin.out⟩
      subst he4
      have hR4 : Hid (pAll step kind first count s = if ((x4 == 0) == ((k : Int) + 1 == count)) = true then pEach step count m x4 ((k : Int) + 1) l3 s4 else (360, l3, s4)) := Lib.hid (by rw [hR.out, pEach_4 H0.out q2.out q3.out q4.out])
      have dP4 := hP4.out.cell 2
      simp only [List.getElem?_toArray, List.getElem?_cons_zero, List.getElem?_cons_succ] at dP4
      have hwk : IntKind.u64.wrap ((k : Int) + 1) = (k : Int) + 1 := by rw [wrap_u64_mod]; have := hcnt.out; have := HKC.out; omega
      clear hR q2 q3 q4
      cases hz : ((x4 == 0) == ((k : Int) + 1 == count))
      · have hq : Hid (pAll step kind first count s = (360, l3, s4)) := Lib.hid (by rw [hR4.out, if_neg (by rw [hz]; decide)])
        clear hR4 hT4
        go_wp2
        try rw [Exit.noGoto_ret]
        go_ret
        exact ⟨360, l3, s4, hq, rfl, hfin.out⟩
      · have hq : Hid (pAll step kind first count s = pEach step count m x4 ((k : Int) + 1) l3 s4) := Lib.hid (by rw [hR4.out, if_pos hz])
        have hcs4 : Hid (x4 = 0 ∨ (((k + 1 : Nat) : Int)) < count) := Lib.hid (by
          by_cases e : x4 = 0
          · exact .inl e
          · right
            have e2 : (x4 == 0) = false := by simpa using e
            rw [e2] at hz
            have : ¬ (k : Int) + 1 = count := fun h => by rw [h] at hz; simp at hz
            have := HKC.out
            omega)
        clear hR4
        go_wp2
        go_roundg m
        case measure => omega
        case rel => exact ⟨k + 1, x4, l3, s4, F4, G3, by have := HG.out; omega, rfl, by simp, dx4, dx4', by have := HL3.out; have := HK.out; omega, hcs4, by simpa using hq, f4, b4, hT4, hJ4, hM4, hP4, hn4.out, hg3.out⟩
end Go.Proofs.Ytcgdpclhlepofaa
/- A part's words turned, by contract. -/
namespace Go.Proofs.Ytcgdpclhlepofaa
open Go.RowKit
set_option maxHeartbeats 4000000
set_option linter.unusedVariables false
set_option linter.unusedSimpArgs false

/-- The captured put and the captured function. -/
def JTu (t c1 c2 : Nat) (w : World) (F G : Nat → Prop) (l : List Int) : Prop :=
  Blk w c1 66 #[.func (.func 11) #[.pointer (some ⟨t, 0, none⟩)] #[]] ∧ Blk w c2 37 #[.func (.func 40) #[] #[]] ∧ ¬ F c1 ∧ ¬ F c2 ∧ l = [] ∧ ∀ k, ¬ G k
theorem JTu.keep {t c1 c2 : Nat} {w w' : World} {F F' G : Nat → Prop} {l : List Int} (h : JTu t c1 c2 w F G l) (hf : Fr F w F' w') : JTu t c1 c2 w' F' G l := by
  obtain ⟨h1, h2, h3, h4, h5, h6⟩ := h
  exact ⟨hf.blk h1 h3, hf.blk h2 h4, fun h => (hf.new c1 h).elim h3 fun h => by have := h1.lt; omega, fun h => (hf.new c2 h).elim h4 fun h => by have := h2.lt; omega, h5, h6⟩

theorem dbl_b (x : Int) (w : World) : Calls Try.prog 40 #[.int .u64 x] w fun e w' => e = .returned (.int .u64 (IntKind.u64.wrap (2 * x))) ∧ w' = w := by
  go_enter Try.func40, Try.ntmps40
  go_wp2
  go_ret
  exact ⟨rfl, rfl⟩
def dbl (x : Int) : Int := IntKind.u64.wrap (2 * x)

set_option maxRecDepth 100000 in
theorem turnc_call {t c1 c2 n : Nat} {F G : Nat → Prop} {s : St} {l : List Int} {nd wd : Int} {w : World} (hw : Txw w t F s) (hf : Fits s) (hb : Bud s (n + 1)) (h1 : 0 ≤ nd) (hj : JTu t c1 c2 w F G l) :
    Calls Try.prog 35 #[.int .u64 nd, .int .u64 wd, .pointer (some ⟨c1, 0, none⟩), .pointer (some ⟨c2, 0, none⟩)] w fun e w' => ∃ er l' s', Hid (stTurn dbl nd wd l s = (er, l', s')) ∧ e = .returned (.int .i64 er) ∧ l'.length ≤ l.length + 1 ∧ Fits s' ∧ Bud s' n ∧ ∃ F' G', Txw w' t F' s' ∧ JTu t c1 c2 w' F' G' l' ∧ Fr (fun k => F k ∨ G k) w (fun k => F' k ∨ G' k) w' := by
  have hj' := hj
  obtain ⟨hB1, hB2, hF1, hF2, rfl, hG⟩ := hj'
  have d1 := hB1.cell 0
  have d2 := hB2.cell 0
  simp only [List.getElem?_toArray, List.getElem?_cons_zero] at d1 d2
  have hTd := hw.drew
  have hMd := (Fr.refl F w).drew
  have e1 : w.drew.cell? ⟨c1, 0, none⟩ = some (.func (.func 11) #[.pointer (some ⟨t, 0, none⟩)] #[]) := d1
  have e2 : w.drew.cell? ⟨c2, 0, none⟩ = some (.func (.func 40) #[] #[]) := d2
  obtain ⟨u1, u2⟩ := uw_bd (2 * wd)
  have HJ := Lib.hid hj
  have HW := Lib.hid hw
  have hb : Bud s (n + 1) := hb
  clear hj hB1 hB2 hG hw
  go_enter Try.func35, Try.ntmps35
  go_wp2_with fail
  go_region_with (first | (go_at_call 40; refine (dbl_b wd _).mono ?_; rintro _ _ ⟨rfl, rfl⟩) | (go_at_call 11; refine (tput_b hTd hf hb h1 u1 u2 hMd).mono ?_; rintro _ w3 ⟨er, s3, q, rfl, f3, b3, F3, hT3, hM3⟩))
  all_goals
    have hK := HJ.out.keep (hM3)
    have hq2 : Hid (stTurn dbl nd wd [] s = (er, [], s3)) := Lib.hid (by unfold stTurn dbl; rw [q.out])
    have hfin : Hid (Fr (fun k => F k ∨ G k) w (fun k => F3 k ∨ G k) w3) := Lib.hid (hM3.side G)
    clear q hTd hMd
    go_wp2
    go_ret
    exact ⟨er, [], s3, hq2, rfl, by simp, f3, b3, F3, G, hT3, hK, hfin.out⟩
theorem turnc_law (t c1 c2 : Nat) : JLaw t (stTurn dbl) (JTu t c1 c2) 35 (fun nd wd => #[.int .u64 nd, .int .u64 wd, .pointer (some ⟨c1, 0, none⟩), .pointer (some ⟨c2, 0, none⟩)]) :=
  ⟨fun _ _ => rfl, fun _ h2 h3 => h3.keep h2, fun h1 h2 h3 _ h5 _ _ _ h9 => turnc_call h1 h2 h3 h5 h9⟩
end Go.Proofs.Ytcgdpclhlepofaa
/- A part turned, by contract. -/
namespace Go.Proofs.Ytcgdpclhlepofaa
open Go.RowKit
set_option maxHeartbeats 4000000
set_option linter.unusedVariables false
set_option linter.unusedSimpArgs false

def LftT (t n : Nat) (F0 : Nat → Prop) (w0 : World) (s' : St) (w' : World) : Prop := Lft t n F0 w0 s' w'
set_option maxRecDepth 100000 in
theorem pturnv_b {t n : Nat} {F F0 : Nat → Prop} {s : St} {kind first count : Int} {w w0 : World}
    (hw : Txw w t F s) (hf : Fits s) (hb : Bud s (n + 3 * 65537)) (h1 : 0 ≤ first) (h1' : first ≤ 18446744073709551615) (h2 : 0 ≤ count) (h2' : count ≤ 18446744073709551615) (hm : Fr F0 w0 F w) :
    Calls Try.prog 10 #[.agg #[.int .i64 kind, .int .u64 first, .int .u64 count], .func (.func 13) #[.pointer (some ⟨t, 0, none⟩)] #[], .func (.func 11) #[.pointer (some ⟨t, 0, none⟩)] #[], .func (.func 40) #[] #[]] w fun e w' =>
      ∃ er s', Hid (pTurn dbl kind first count s = (er, s')) ∧ e = .returned (.int .i64 er) ∧ Lft t n F0 w0 s' w' := by
  have hE1 : (w.alloc (.cells #[.int .i64 kind, .int .u64 first, .int .u64 count] 25)).heap.size = w.heap.size + 1 := by simp
  have hE2 : ((w.alloc (.cells #[.int .i64 kind, .int .u64 first, .int .u64 count] 25)).alloc (.cells #[.func (.func 40) #[] #[]] 37)).heap.size = w.heap.size + 2 := by simp
  have dp := (Blk.new w 25 #[.int .i64 kind, .int .u64 first, .int .u64 count])
  have df := Blk.new (w.alloc (.cells #[.int .i64 kind, .int .u64 first, .int .u64 count] 25)) 37 #[.func (.func 40) #[] #[]]
  rw [hE1] at df
  have df0 := df.cell 0
  have dp0 := (dp.alloc (.cells #[.func (.func 40) #[] #[]] 37)).cell 0
  simp only [List.getElem?_toArray, List.getElem?_cons_zero, List.getElem?_cons_succ] at df0
  go_enter Try.func10, Try.ntmps10
  go_wp2_with fail
  have hB2 := df.alloc (.cells #[.func (.func 11) #[.pointer (some ⟨t, 0, none⟩)] #[]] 66)
  have hB1 := Blk.new ((w.alloc (.cells #[.int .i64 kind, .int .u64 first, .int .u64 count] 25)).alloc (.cells #[.func (.func 40) #[] #[]] 37)) 66 #[.func (.func 11) #[.pointer (some ⟨t, 0, none⟩)] #[]]
  rw [hE2] at hB1
  have hT := ((hw.alloc (.cells #[.int .i64 kind, .int .u64 first, .int .u64 count] 25)).alloc (.cells #[.func (.func 40) #[] #[]] 37)).alloc (.cells #[.func (.func 11) #[.pointer (some ⟨t, 0, none⟩)] #[]] 66)
  have hM := (((hm.alloc (.cells #[.int .i64 kind, .int .u64 first, .int .u64 count] 25)).alloc (.cells #[.func (.func 40) #[] #[]] 37)).alloc (.cells #[.func (.func 11) #[.pointer (some ⟨t, 0, none⟩)] #[]] 66)).into (G := fun k => F k ∨ False) fun k hk => hk.elim .inl fun h => h.elim
  have hJ : JTu t (w.heap.size + 2) (w.heap.size + 1) (((w.alloc (.cells #[.int .i64 kind, .int .u64 first, .int .u64 count] 25)).alloc (.cells #[.func (.func 40) #[] #[]] 37)).alloc (.cells #[.func (.func 11) #[.pointer (some ⟨t, 0, none⟩)] #[]] 66)) F (fun _ => False) [] :=
    ⟨hB1, hB2, fun h => by have := hw.lt _ h; omega, fun h => by have := hw.lt _ h; omega, rfl, fun _ h => h⟩
  refine (each2_b (c1 := w.heap.size + 2) (c2 := w.heap.size + 1) (turnc_law t (w.heap.size + 2) (w.heap.size + 1)) hT hJ (fun k hk => hk.elim) hf hb h1 h1' h2 h2' hM).mono ?_
  rintro _ w3 ⟨er, l, s3, hq, rfl, hlen, f3, b3, F3, G3, hT3, hJ3, hM3⟩
  have hfin : Hid (Lft t n F0 w0 s3 w3) := Lib.hid ⟨f3, b3, F3, hT3, hM3.into fun k hk => .inl (.inl hk)⟩
  have hq2 : Hid (pTurn dbl kind first count s = (er, s3)) := Lib.hid (by unfold pTurn; rw [hq.out])
  clear hT hJ hM dp df df0 dp0 hT3 hJ3 hM3 hw hm hq hB1 hB2
  go_wp2
  go_ret
  exact ⟨er, s3, hq2, rfl, hfin.out⟩
end Go.Proofs.Ytcgdpclhlepofaa
/- The document's room over its world, by contract: laying. -/
namespace Go.Proofs.Ytcgdpclhlepofaa
open Go.RowKit
set_option maxHeartbeats 2000000
set_option linter.unusedVariables false
set_option linter.unusedSimpArgs false

theorem layGo_e {k : Nat} {a : Int} {s : St} {er : Int} {s' : St} (h : sput s a 0 = (er, s')) : layGo (k + 1) a s = if (er != 0) = false then layGo k (uAdd a 1) s' else (er, s') := by rw [layGo, h]

theorem wlay_b {b n : Nat} {F F0 : Nat → Prop} {s : St} {a x y : Int} {w w0 : World} (hw : Wld w b F s) (hf : Fits s) (hb : Bud s (n + 18)) (ha : 0 ≤ a) (hx : 0 ≤ x) (hx' : x ≤ 18446744073709551615) (hy : 0 ≤ y) (hy' : y ≤ 18446744073709551615) (hxy : x ≤ y) (hm : Fr F0 w0 F w) :
    Calls Try.prog 46 #[.pointer (some ⟨b, 0, none⟩), .int .u64 a, .int .u64 x, .int .u64 y] w fun e w' => ∃ er s', Hid (rLay s a x y = (er, s')) ∧ e = .returned (.int .i64 er) ∧ LftW b n F0 w0 s' w' := by
  have hL : Hid (rLay s a x y = match sput s a x with
    | (e, s1) => if (e != 0) = false then
        (match sput s1 (uAdd a 1) y with
        | (e2, s2) => if (e2 != 0) = false then layGo 16 (uAdd (uAdd a 1) 1) s2 else (e2, s2))
      else (e, s1)) := Lib.hid (by unfold rLay; rw [if_neg (by omega)])
  go_enter Try.func46, Try.ntmps46
  go_wp2_with fail
  have hb : Bud s ((n + 17) + 1) := hb
  refine (wput_b hw hf hb ha hx hx' hm).mono ?_
  rintro e w1 ⟨e1, s1, q1, rfl, f1, b1, F1, hw1, hm1⟩
  clear hw hm hf hb
  by_cases he : e1 = 0
  case neg =>
    have hz : (e1 != 0) = true := by simpa using he
    have hq : Hid (rLay s a x y = (e1, s1)) := Lib.hid (by rw [hL.out, q1.out]; simp only; rw [if_neg (by simp [hz])])
    clear he q1
    go_wp2
    go_ret
    exact ⟨e1, s1, hq, rfl, f1, b1.mono (by omega), F1, hw1, hm1⟩
  subst he
  have b1 : Bud s1 ((n + 16) + 1) := b1
  go_wp2_with fail
  refine (wput_b hw1 f1 b1 (uw_bd _).1 hy hy' hm1).mono ?_
  rintro e w2 ⟨e2, s2, q2, rfl, f2, b2, F2, hw2, hm2⟩
  have q2 : Hid (sput s1 (uAdd a 1) y = (e2, s2)) := q2
  have hQ : Hid (rLay s a x y = if (e2 != 0) = false then layGo 16 (uAdd (uAdd a 1) 1) s2 else (e2, s2)) := Lib.hid (by rw [hL.out, q1.out]; simp only; rw [if_pos (by decide), q2.out])
  clear hw1 hm1 f1 b1 q1 q2 hL
  go_wp2_with fail
  go_loopg [9, 10] 16 (fun gk c9 c10 wr => ∃ (k : Nat) (e3 : Int) (s3 : St) (F3 : Nat → Prop), gk + k = 17 ∧ 1 ≤ k ∧ c10 = .int .u64 (k : Int) ∧ c9 = .int .i64 e3 ∧ Hid (rLay s a x y = if (e3 != 0) = false then layGo gk (uAdd (uAdd a 1) k) s3 else (e3, s3)) ∧ Fits s3 ∧ Bud s3 (n + gk) ∧ Wld wr b F3 s3 ∧ Fr F0 w0 F3 wr)
  case atStart => exact ⟨1, e2, s2, F2, rfl, by omega, rfl, rfl, hQ, f2, b2, hw2, hm2⟩
  case round =>
    obtain ⟨k, e3, s3, F3, hgk, hk1, rfl, rfl, hR, hf3, hb3, hw3, hm3⟩ := hrel
    have hgk' := Lib.hid hgk
    have hki : (k : Int) ≤ 17 := by omega
    clear hw2 hm2 f2 b2 hQ hgk
    by_cases he : e3 = 0
    case neg =>
      have hz : (e3 != 0) = true := by simpa using he
      have hz2 : (e3 == 0) = false := by simpa using he
      have hq : Hid (rLay s a x y = (e3, s3)) := Lib.hid (by rw [hR.out, if_neg (by simp [hz])])
      have hor : (k : Int) ≤ 16 ∨ 16 < (k : Int) := by omega
      clear he hR
      rcases hor with hor | hor
      all_goals
        go_wp2
        go_ret
        exact ⟨e3, s3, hq, rfl, hf3, hb3.mono (by omega), F3, hw3, hm3⟩
    subst he
    by_cases hlt : k ≤ 16
    · obtain ⟨m, rfl⟩ : ∃ m, gk = m + 1 := ⟨gk - 1, by have := hgk'.out; omega⟩
      have hb3 : Bud s3 ((n + m) + 1) := hb3
      have hki2 : (k : Int) ≤ 16 := by omega
      clear hlt
      go_wp2_with fail
      refine (wput_b hw3 hf3 hb3 (uw_bd _).1 (by omega) (by omega) hm3).mono ?_
      rintro e w4 ⟨e4, s4, q4, rfl, f4, b4, F4, hw4, hm4⟩
      have q4 : Hid (sput s3 (uAdd (uAdd a 1) k) 0 = (e4, s4)) := q4
      have hR4 : Hid (rLay s a x y = if (e4 != 0) = false then layGo m (uAdd (uAdd a 1) ((k + 1 : Nat) : Int)) s4 else (e4, s4)) := Lib.hid (by
        rw [hR.out, if_pos (by decide), layGo_e q4.out, uAdd_uAdd (uAdd a 1) k 1]; rfl)
      clear hw3 hm3 q4 hR
      go_wp2
      go_roundg m
      case measure => omega
      case rel => exact ⟨k + 1, e4, s4, F4, by have := hgk'.out; omega, by omega, by go_num, rfl, hR4, f4, b4, hw4, hm4⟩
    · obtain rfl : gk = 0 := by have := hgk'.out; omega
      have hki2 : 16 < (k : Int) := by omega
      have hq : Hid (rLay s a x y = (0, s3)) := Lib.hid (by rw [hR.out, if_pos (by decide)]; rfl)
      clear hlt hR
      go_wp2
      go_ret
      exact ⟨0, s3, hq, rfl, hf3, hb3, F3, hw3, hm3⟩
end Go.Proofs.Ytcgdpclhlepofaa
/- The document's small queue, on plain words. -/
namespace Go.Proofs.Ytcgdpclhlepofaa
open Go.RowKit
theorem trip {α β γ : Type} {p : α × β × γ} {a : α} {b : β} {c : γ} (h1 : p.1 = a) (h2 : p.2.1 = b) (h3 : p.2.2 = c) : p = (a, b, c) := Prod.ext h1 (Prod.ext h2 h3)
theorem quad {α β γ δ : Type} {p : α × β × γ × δ} {a : α} {b : β} {c : γ} {d : δ} (h1 : p.1 = a) (h2 : p.2.1 = b) (h3 : p.2.2.1 = c) (h4 : p.2.2.2 = d) : p = (a, b, c, d) := Prod.ext h1 (Prod.ext h2 (Prod.ext h3 h4))
theorem twin {α β : Type} {p : α × β} {a : α} {b : β} (h1 : p.1 = a) (h2 : p.2 = b) : p = (a, b) := Prod.ext h1 h2
/-- words with a room at 0, over the cells from 18 on -/
def laidSt (n : Nat) : St := { (rLay ⟨List.replicate n 0, -1, 0, 0⟩ 0 18 n).2 with calls := 0 }
@[irreducible] def kq1 : St := laidSt 60
@[irreducible] def kq2 : St := (qNew kq1 0).2.2
@[irreducible] def kq3 : St := (qPut kq2 0 18 5).2
@[irreducible] def kq4 : St := (qPut kq3 0 18 6).2
@[irreducible] def kq5 : St := (qTake kq4 0 18).2.2.2
@[irreducible] def kq6 : St := (qPut kq5 0 18 7).2
@[irreducible] def kq7 : St := (qWords kq6 18).2.2
@[irreducible] def kq8 : St := (qLen kq7 18).2.2
theorem kq1_e : laidSt 60 = kq1 := by rw [kq1]
theorem kq2_e : qNew kq1 0 = (18, 0, kq2) := trip (by decide +kernel) (by decide +kernel) (by rw [kq2])
theorem kq3_e : qPut kq2 0 18 5 = (0, kq3) := twin (by decide +kernel) (by rw [kq3])
theorem kq4_e : qPut kq3 0 18 6 = (0, kq4) := twin (by decide +kernel) (by rw [kq4])
theorem kq5_e : qTake kq4 0 18 = (5, true, 0, kq5) := quad (by decide +kernel) (by decide +kernel) (by decide +kernel) (by rw [kq5])
theorem kq6_e : qPut kq5 0 18 7 = (0, kq6) := twin (by decide +kernel) (by rw [kq6])
theorem kq7_e : qWords kq6 18 = ([6, 7], 0, kq7) := trip (by decide +kernel) (by decide +kernel) (by rw [kq7])
theorem kq8_e : qLen kq7 18 = (2, 0, kq8) := trip (by decide +kernel) (by decide +kernel) (by rw [kq8])
end Go.Proofs.Ytcgdpclhlepofaa
/- The statements' own room: laid, a queue filled. -/
namespace Go.Proofs.Ytcgdpclhlepofaa
open Go.RowKit
set_option maxHeartbeats 4000000
set_option linter.unusedVariables false
set_option linter.unusedSimpArgs false

theorem num_b (x : Int) (w : World) : Calls Try.prog 17 #[.int .i64 x] w fun e w' => e = .returned (.int .i64 x) ∧ w = w' := by
  go_enter Try.func17, Try.ntmps17
  go_wp2
  go_ret
  exact ⟨rfl, rfl⟩
theorem Wld.make {w : World} {v : Value} {l : List Int} (h : Wl w v l) (lf cd ca : Int) :
    Wld (w.alloc (.cells #[v, .int .i64 lf, .int .i64 cd, .int .i64 ca] 44)) w.heap.size (fun k => k = w.heap.size ∨ Go.Proofs.Ytcgdpclhlepofaa.own v k) ⟨l, lf, cd, ca⟩ := ⟨v, Blk.new _ _ _, h.alloc _, fun _ => Iff.rfl⟩
theorem Txw.make {w : World} {b : Nat} {G : Nat → Prop} {s : St} (h : Wld w b G s) : Txw (w.alloc (.cells #[.pointer (some ⟨b, 0, none⟩)] 47)) w.heap.size (fun k => k = w.heap.size ∨ G k) s :=
  ⟨b, G, Blk.new _ _ _, h.alloc _, fun _ => Iff.rfl⟩
/-- the calls are counted from 0 on -/
theorem Txw.ncalls {w : World} {t : Nat} {F : Nat → Prop} {s : St} (h : Txw w t F s) (n : Int) : ∃ b, w.cell? ⟨t, 0, none⟩ = some (.pointer (some ⟨b, 0, none⟩)) ∧ w.cell? ⟨b, 3, none⟩ = some (.int .i64 s.calls) ∧ w.frozen? ⟨b, 3, none⟩ = false ∧ F b ∧ Txw (w.setCell ⟨b, 3, none⟩ (.int .i64 n)) t F { s with calls := n } := by
  obtain ⟨b, G, h1, h2, h4⟩ := h
  obtain ⟨_, _, c3, _, _, _, z3⟩ := h2.num
  have hn := Txw.not_own h1 h2
  have hne : t ≠ b := fun e => hn (e ▸ h2.own)
  exact ⟨b, by rw [h1.cell]; rfl, c3, z3, (h4 b).2 (.inr h2.own), b, G, h1.far (p := ⟨b, 3, none⟩) hne _, h2.ncalls n, h4⟩
def LaidT (n : Nat) (B : Nat) (w : World) (e : Ending) (w' : World) : Prop := ∃ t F', e = .returned (.pointer (some ⟨t, 0, none⟩)) ∧ Txw w' t F' (laidSt n) ∧ (∀ k, F' k → B ≤ k) ∧ Fits (laidSt n) ∧ Bud (laidSt n) 4611686018427387000 ∧ Below B w w'
theorem laid_b (n : Nat) (hn : 18 ≤ n) (hn' : n ≤ 1000000) (w : World) : Calls Try.prog 27 #[.int .i64 (n : Int)] w (LaidT n w.heap.size w) := by
  have hni : (18 : Int) ≤ (n : Int) := by omega
  have hni' : (n : Int) ≤ 1000000 := by omega
  go_enter Try.func27, Try.ntmps27
  go_wp2_with (refine wpList_zeros w rfl _ _ rfl .i64 .i64 (n : Int) (n : Int) n rfl rfl rfl rfl (by omega) ?_; intro w1 hz1 hb1)
  have hs1 := hb1.size
  have hw1 := Wld.make (lf := -1) (cd := 0) (ca := 0) hz1
  have hT := Txw.make hw1
  have hE : (w1.alloc (.cells #[.slice (some ⟨w.heap.size, 0, none⟩) n n, .int .i64 (-1), .int .i64 0, .int .i64 0] 44)).heap.size = w1.heap.size + 1 := by simp
  rw [hE] at hT
  have hBt := Blk.new (w1.alloc (.cells #[.slice (some ⟨w.heap.size, 0, none⟩) n n, .int .i64 (-1), .int .i64 0, .int .i64 0] 44)) 47 #[.pointer (some ⟨w1.heap.size, 0, none⟩)]
  rw [hE] at hBt
  have hw2 := hw1.alloc (.cells #[.pointer (some ⟨w1.heap.size, 0, none⟩)] 47)
  have hb2 := (hb1.alloc hs1 (.cells #[.slice (some ⟨w.heap.size, 0, none⟩) n n, .int .i64 (-1), .int .i64 0, .int .i64 0] 44)).alloc (by simp; omega) (.cells #[.pointer (some ⟨w1.heap.size, 0, none⟩)] 47)
  have hF : ∀ k, (k = w1.heap.size + 1 ∨ k = w1.heap.size ∨ own (.slice (some ⟨w.heap.size, 0, none⟩) n n) k) → w.heap.size ≤ k := fun k hk => by
    rcases hk with h | h | h
    · omega
    · omega
    · obtain rfl : w.heap.size = k := by simpa [own, Value.ownBlock] using h
      exact Nat.le_refl _
  have hfit : Fits ⟨List.replicate n 0, -1, 0, 0⟩ := ⟨fun x hx => by rw [List.eq_of_mem_replicate hx]; omega, by simp only [List.length_replicate]; omega, by simp⟩
  have hbud : Bud ⟨List.replicate n 0, -1, 0, 0⟩ (4611686018427387000 + 18) := by unfold Bud; simp
  have c0 := hBt.cell 0
  simp only [List.getElem?_toArray, List.getElem?_cons_zero] at c0
  clear hz1 hb1 hw1 hE
  generalize (w1.alloc (.cells #[.slice (some ⟨w.heap.size, 0, none⟩) n n, .int .i64 (-1), .int .i64 0, .int .i64 0] 44)).alloc (.cells #[.pointer (some ⟨w1.heap.size, 0, none⟩)] 47) = w2 at *
  generalize w1.heap.size + 1 = t at *
  generalize w1.heap.size = b at *
  refine (wlay_b (n := 4611686018427387000) hw2 hfit hbud (by omega) (by omega) (by omega) (by omega) (by omega) (by omega) (Fr.refl _ _)).mono ?_
  rintro _ w3 ⟨er, s3, q, rfl, f3, b3, F3, hw3, hm3⟩
  have hs : ({ s3 with calls := 0 } : St) = laidSt n := by unfold laidSt; rw [q.out]
  obtain ⟨_, _, F4, hT4, hm4⟩ := Txw.step (n := 4611686018427387000) hBt hw2 (Fr.refl (fun k => k = t ∨ k = b ∨ own (.slice (some ⟨w.heap.size, 0, none⟩) n n) k) w2) (fun k => Iff.rfl) (show LftW b 4611686018427387000 _ w2 s3 w3 from ⟨f3, b3, F3, hw3, hm3⟩)
  obtain ⟨b', k0, k3, z3, hFb, hT5⟩ := hT4.ncalls 0
  rw [hs] at hT5
  have hF4 := hm4.ge (B := w.heap.size) hF hb2.size
  have HB4 := Lib.hid ((hb2.trans (hm4.below hF hb2.size)).setCell (p := ⟨b', 3, none⟩) (hF4 _ hFb) (.int .i64 0))
  have HT5 := Lib.hid hT5
  have HF4 := Lib.hid hF4
  have hFit : Fits (laidSt n) := by rw [← hs]; exact ⟨f3.words, f3.len, f3.code⟩
  have hBud : Bud (laidSt n) 4611686018427387000 := by rw [← hs]; unfold Bud at *; simp only; omega
  clear hw2 hT hBt hw3 hm3 hT4 hm4 hF hs q f3 b3 hF4 hFb hT5 hb2 c0 hbud hfit
  go_wp2
  go_ret
  exact ⟨t, F4, rfl, HT5.out, HF4.out, hFit, hBud, HB4.out⟩
end Go.Proofs.Ytcgdpclhlepofaa
/- The statements' own queue, filled; the chapter's examples. -/
namespace Go.Proofs.Ytcgdpclhlepofaa
open Go.RowKit
set_option maxHeartbeats 4000000
set_option linter.unusedVariables false
set_option linter.unusedSimpArgs false

def fillGo (q : Int) : List Int → Bool → St → Bool × St
  | [], ok, s => (ok, s)
  | x :: l, ok, s => match qPut s 0 q x with | (e, s1) => fillGo q l ((e == 0) && ok) s1
theorem fillGo_drop {q : Int} {l : List Int} {j : Nat} (hj : j < l.length) {ok : Bool} {s s1 : St} {e : Int} (h : qPut s 0 q (l.getD j 0) = (e, s1)) : fillGo q (l.drop j) ok s = fillGo q (l.drop (j + 1)) ((e == 0) && ok) s1 := by
  rw [List.drop_eq_getElem_cons hj]
  have e1 : l[j] = l.getD j 0 := by rw [List.getD_eq_getElem?_getD, List.getElem?_eq_getElem hj]; rfl
  rw [e1, fillGo, h]
def fillSt (l : List Int) : Int × Bool × St := match qNew (laidSt 1000) 0 with | (q, e, s1) => match fillGo q l (e == 0) s1 with | (ok, s2) => (q, ok, s2)
def FillP (l : List Int) (B : Nat) (w : World) (e : Ending) (w' : World) : Prop := ∃ t q ok s' F', Hid (fillSt l = (q, ok, s')) ∧ 0 ≤ q ∧ q ≤ 18446744073709551615 ∧ e = .returned (.tuple #[.pointer (some ⟨t, 0, none⟩), .int .u64 q, .bool ok]) ∧ Fits s' ∧ Bud s' 4000000000 ∧ Txw w' t F' s' ∧ (∀ k, F' k → B ≤ k) ∧ Below B w w'
set_option maxRecDepth 100000 in
theorem filled_b {v : Value} {l : List Int} {w : World} (h : Lies w v l) (hl : l.length ≤ 300) (hlb : ∀ x ∈ l, 0 ≤ x ∧ x ≤ 18446744073709551615) :
    Calls Try.prog 6 #[v] w (FillP l w.heap.size w) := by
  obtain ⟨A, c, rfl, hc, hnl, _⟩ := id h
  have H := Lib.hid h
  have HLB := Lib.hid hlb
  clear h hlb hnl
  have hli : (l.length : Int) ≤ 300 := by omega
  go_enter Try.func6, Try.ntmps6
  go_wp2_with fail
  refine (laid_b 1000 (by omega) (by omega) w).mono ?_
  rintro _ w1 ⟨t, F1, rfl, hw1, ho1, f1, b1, hb1⟩
  have HB1 := Lib.hid hb1
  have HO1 := Lib.hid ho1
  clear hb1 ho1
  go_wp2_with fail
  refine (qunew_b (n := 4000000000 + 11 * l.length) hw1 f1 (b1.mono (by omega)) (by omega) (Fr.refl F1 _)).mono ?_
  rintro _ w2 ⟨q, e2, s2, q2, dq, dq', rfl, f2, b2, F2, hw2, hm2⟩
  have HB2 := Lib.hid (HB1.out.trans (hm2.below HO1.out HB1.out.size))
  have HO2 : Hid (∀ k, F2 k → w.heap.size ≤ k) := Lib.hid (hm2.ge HO1.out HB1.out.size)
  have HW2 := Lib.hid hw2
  have HS : Hid (fillSt l = match fillGo q l (e2 == 0) s2 with | (ok, s2) => (q, ok, s2)) := Lib.hid (by unfold fillSt; rw [q2.out])
  clear hw1 hw2 hm2 f1 b1 HB1 HO1 q2
  go_wp2_with (go_at_call 17; refine (num_b _ _).mono ?_; rintro e _ ⟨rfl, rfl⟩)
  go_loopg [8, 9] l.length (fun gk c8 c9 wr => ∃ (j : Nat) (ok : Bool) (sx : St) (Fx : Nat → Prop), gk + j = l.length ∧ c8 = .bool ok ∧ c9 = .int .i64 (j : Int) ∧ Hid (fillGo q l (e2 == 0) s2 = fillGo q (l.drop j) ok sx) ∧ Fits sx ∧ Bud sx (4000000000 + 11 * gk) ∧ Hid (Txw wr t Fx sx) ∧ Hid (∀ k, Fx k → w.heap.size ≤ k) ∧ Hid (Below w.heap.size w wr))
  case atStart => exact ⟨0, e2 == 0, s2, F2, rfl, rfl, rfl, Lib.hid (by simp), f2, b2, HW2, HO2, HB2⟩
  case round =>
    obtain ⟨j, ok, sx, Fx, hgk, rfl, rfl, HG1, fx, bx, HW, HO, HB⟩ := hrel
    have HG := Lib.hid hgk
    clear hgk HW2 HO2 HB2 f2 b2
    by_cases hj : j < l.length
    · obtain ⟨g, rfl⟩ : ∃ g, gk = g + 1 := ⟨gk - 1, by have := HG.out; omega⟩
      obtain ⟨A2, c2, e1, hc2, _, hcs⟩ := H.out
      rw [Value.slice.injEq] at e1
      obtain ⟨rfl, -, rfl⟩ := e1
      obtain ⟨gz, oz, rfl, hcl⟩ := hcs j hj
      have hcell : Hid True := Lib.hid trivial
      have hcr : ∀ {w' : World}, Below w.heap.size w w' → w'.cell? ⟨gz, oz + j, none⟩ = some (.int .u64 (l.getD j 0)) := fun hb => by
        have hlt : gz < w.heap.size := Nat.lt_of_not_le fun hh => by
          unfold World.cell? at hcl
          rw [Array.getElem?_eq_none hh] at hcl
          cases hcl
        exact (hb.cell (p := ⟨gz, oz + j, none⟩) hlt).trans hcl
      have hcx := hcr HB.out
      have hxb := HLB.out _ (show l.getD j 0 ∈ l by rw [List.getD_eq_getElem?_getD, List.getElem?_eq_getElem hj]; exact List.getElem_mem hj)
      have hji : (j : Int) < l.length := by omega
      have hP := Lib.hid fun (e : Int) (s1 : St) (h : qPut sx 0 q (l.getD j 0) = (e, s1)) => HG1.out.trans (fillGo_drop hj h)
      obtain ⟨hx1, hx2⟩ := hxb
      clear hcs hcl hcr hcell HG1
      generalize l.getD j 0 = xj at *
      have bx : Bud sx ((4000000000 + 11 * g) + 11) := bx.mono (by omega)
      go_wp2_with fail
      refine (quput_b HW.out fx bx (by omega) dq dq' hx1 hx2 (Fr.refl Fx _)).mono ?_
      rintro _ w7 ⟨e7, s7, q7, rfl, f7, b7, F7, hT7, hm7⟩
      have HP7 := Lib.hid (hP.out e7 s7 q7.out)
      have HT7 := Lib.hid hT7
      have HB7 := Lib.hid (HB.out.trans (hm7.below HO.out HB.out.size))
      have HO7 : Hid (∀ k, F7 k → w.heap.size ≤ k) := Lib.hid (hm7.ge HO.out HB.out.size)
      clear hT7 hm7 HW HB HO hP q7 hcx
      by_cases he : e7 = 0
      · subst he
        have HP8 : Hid (fillGo q l (e2 == 0) s2 = fillGo q (l.drop (j + 1)) ok s7) := Lib.hid (by rw [HP7.out]; simp)
        clear HP7
        go_wp2_with (go_at_call 17; refine (num_b _ _).mono ?_; rintro e _ ⟨rfl, rfl⟩)
        go_roundg g
        case measure => omega
        case rel => exact ⟨j + 1, ok, s7, F7, by have := HG.out; omega, rfl, by go_num, HP8, f7, b7, HT7, HO7, HB7⟩
      · have z : (e7 == 0) = false := by simpa using he
        have HP8 : Hid (fillGo q l (e2 == 0) s2 = fillGo q (l.drop (j + 1)) false s7) := Lib.hid (by rw [HP7.out, z]; rfl)
        clear HP7 he
        go_wp2_with (go_at_call 17; refine (num_b _ _).mono ?_; rintro e _ ⟨rfl, rfl⟩)
        go_roundg g
        case measure => omega
        case rel => exact ⟨j + 1, false, s7, F7, by have := HG.out; omega, rfl, by go_num, HP8, f7, b7, HT7, HO7, HB7⟩
    · obtain rfl : j = l.length := by have := HG.out; omega
      obtain rfl : gk = 0 := by have := HG.out; omega
      have hfin : Hid (fillSt l = (q, ok, sx)) := Lib.hid (by rw [HS.out, HG1.out]; simp [fillGo])
      clear hj
      go_wp2
      go_ret3
      exact ⟨t, q, ok, sx, Fx, hfin, dq, dq', rfl, fx, bx, HW.out, HO.out, HB.out⟩
end Go.Proofs.Ytcgdpclhlepofaa
