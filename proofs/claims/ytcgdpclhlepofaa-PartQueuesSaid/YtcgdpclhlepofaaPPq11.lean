/- PartQueues: its walk. -/
import Derived.Deep.DeepMust
import Derived.Deep.QuietTactic
import Derived.BigQuiet
import Derived.Deep.LoopGhost
import Derived.Test.YtcgdpclhlepofaaPPq10
namespace Go.Proofs.Ytcgdpclhlepofaa
open Go.RowKit
set_option maxHeartbeats 4000000
set_option linter.unusedVariables false
set_option linter.unusedSimpArgs false

theorem PS.drewN {W w : World} {t mb : Nat} {F : Nat → Prop} {s : St} {more : Int} {L : List (Value × List Int)} {P : List (Nat × Int × Int)} (h : PS W w t F s mb more L P) (n : Nat) : PS W (w.drewN n) t F s mb more L P :=
  ⟨h.tx.drewN n, h.fits, below_drewNs h.bel n, h.ge, h.mbk, h.mbF, h.mge, fun p hp => ⟨(h.ls p hp).1.drewN n, (h.ls p hp).2⟩, h.dis, h.ps⟩
theorem wsame_b {va vb : Value} {l : List Int} {w : World} (h1 : Lies w va l) (h2 : Lies w vb l) (hn : (l.length : Int) ≤ 9223372036854775807) :
    Calls Try.prog 22 #[va, vb] w fun e w' => (∃ n, w' = w.drewN n) ∧ e = .returned (.bool true) :=
  (words_b h1 h2 hn).mono fun e w' ⟨h, he⟩ => ⟨h, by rw [he]; simp⟩
theorem take_one {l : List Int} {j : Nat} (h : j < l.length) : l.take j ++ [l.getD j 0] = l.take (j + 1) := by
  rw [List.take_add_one, List.getElem?_eq_getElem h, List.getD_eq_getElem?_getD, List.getElem?_eq_getElem h]; rfl
theorem drop_one {l : List Int} {j : Nat} (h : j < l.length) : l.drop j = l.getD j 0 :: l.drop (j + 1) := by
  rw [List.drop_eq_getElem_cons h, List.getD_eq_getElem?_getD, List.getElem?_eq_getElem h]; rfl

set_option maxRecDepth 100000 in
theorem partQueues_walk {W : World} {Aw Ao : Option Addr} {words others : List Int} {cw co : Nat} (hw : WordsIn W Aw words cw) (ho : WordsIn W Ao others co) (more : Int) (hp : (Lit.int .u64 more).wf = true) (W0 : World) (e0 : W0 = W := by rfl) :
    Calls Try.prog 4 #[.slice Aw words.length cw, .slice Ao others.length co, .int .u64 more] W (TrueP W.heap.size W) := by
  have HLW := Lib.hid hw.lies
  have HLO := Lib.hid ho.lies
  have hlen := hw.len
  have hlen2 := ho.len
  have HBD := Lib.hid hw.bd
  have HBD2 := Lib.hid ho.bd
  obtain ⟨p0, p1⟩ := bd_u64 hp
  have hcw : (words.length : Int) ≤ cw := by have := hw.cap; omega
  have hco : (others.length : Int) ≤ co := by have := ho.cap; omega
  clear hw ho hp
  have hli : (words.length : Int) ≤ 17592186043904 := by omega
  have hli2 : (others.length : Int) ≤ 17592186043904 := by omega
  clear hlen hlen2
  have HB0 := Lib.hid ((Below.refl W.heap.size W).alloc (Nat.le_refl _) (.cells #[.int .u64 more] 23))
  have HMB := Lib.hid (Blk.new W 23 #[.int .u64 more])
  go_enter Try.func4, Try.ntmps4
  by_cases hbig : (300 : Int) < words.length + others.length
  · go_wp2_with fail
    refine (works_b _).mono ?_
    rintro _ w1 ⟨rfl, hb1⟩
    have HB1 := Lib.hid (HB0.out.trans (hb1.mono (by simp)))
    go_wp2
    go_ret
    exact ⟨rfl, HB1.out⟩
  have hb3 : (words.length : Int) + others.length ≤ 300 := by omega
  clear hbig hli hli2
  have hwi : (words.length : Int) ≤ 300 := by omega
  have hoi : (others.length : Int) ≤ 300 := by omega
  go_wp2_with fail
  refine (filled_b (HLW.out.alloc _) (by omega) HBD.out).mono ?_
  rintro _ w1 ⟨t, q, ok, s1, F1, q1, dq, dq', rfl, f1, b1, hw1, ho1, hb1⟩
  obtain ⟨sx, g1, e1, h1⟩ := stg_fill words (by omega)
  obtain ⟨rfl, rfl, rfl⟩ : 18 = q ∧ true = ok ∧ sx = s1 := by have := e1.symm.trans q1.out; simpa using this
  have HS1 := Lib.hid h1
  have HP1 : Hid (PS W w1 t F1 sx W.heap.size more [] []) := Lib.hid ⟨hw1, f1, HB0.out.trans (hb1.mono (by simp)), fun k hk => by have := ho1 k hk; simp at this; omega, (hb1.block W.heap.size (by simp)).trans HMB.out, fun h => by have := ho1 _ h; simp at this; omega, Nat.le_refl _, (fun p hp => nomatch hp), .nil, (fun p hp => nomatch hp)⟩
  clear hw1 f1 hb1 ho1 q1 e1 h1 dq dq' HB0 HMB
  obtain ⟨b, k0, k3, z3, hP2⟩ := HP1.out.ncalls 0
  have HP2 := Lib.hid hP2
  have b2 : Bud { sx with calls := 0 } (3999999990 + 5) := by unfold Bud at *; simp only; omega
  have HS2 := Lib.hid (HS1.out.calls 0)
  clear hP2 HP1 HS1
  go_wp2_with fail
  generalize w1.setCell ⟨b, 3, none⟩ (.int .i64 0) = w2 at *
  refine (pqueue_b (n := 3999999990) HP2.out.tx HP2.out.fits b2 (by omega) (by omega) (Fr.refl _ _)).mono ?_
  rintro _ w3 ⟨f, c, er, s3, q3, df, df', dc, dc', rfl, hL3⟩
  obtain ⟨ns, sy, e3, hc5, h3⟩ := stg_queue HS2.out b2
  obtain ⟨rfl, rfl, rfl, rfl⟩ : hdOr ns 0 = f ∧ (words.length : Int) = c ∧ 0 = er ∧ sy = s3 := by have := e3.symm.trans q3.out; simpa using this
  have hc5 : sy.calls = 5 := by rw [hc5]; rfl
  obtain ⟨F3, hP3, b3⟩ := HP2.out.step hL3
  have hv : partv 1 (hdOr ns 0) words.length 0 = .agg #[.int .i64 1, .int .u64 (hdOr ns 0), .int .u64 (words.length : Int)] := if_pos rfl
  rw [hv]
  have HP4 := Lib.hid (hP3.part (hdOr ns 0) words.length)
  have HS4 := Lib.hid h3
  obtain ⟨b4, j0, j3, -, -⟩ := HP4.out.ncalls 0
  rw [hc5] at j3
  obtain ⟨-, c1, c2⟩ := HP4.out.cell (List.mem_append_right _ (List.mem_singleton.2 rfl))
  simp only at c1 c2
  clear HP2 HS2 hL3 q3 e3 h3 hP3 hv k0 k3 z3 b1 b2
  go_wp2_with (go_at_call 17; refine (num_b _ _).mono ?_; rintro e _ ⟨rfl, rfl⟩)
  generalize w3.alloc (.cells #[.int .i64 1, .int .u64 (hdOr ns 0), .int .u64 (words.length : Int)] 25) = w4 at *
  generalize w3.heap.size = pb at *
  have HP4 : Hid (PS W w4 t F3 sy W.heap.size more [] [(pb, hdOr ns 0, (words.length : Int))]) := HP4
  clear j0 j3 c1 c2 hc5
  clear HP4
  rename_i HP4
  have HP4 : Hid (PS W w4 t F3 sy W.heap.size more [] [(pb, hdOr ns 0, (words.length : Int))]) := HP4
  have b3 : Bud sy (3900000000 + 11 * others.length) := b3.mono (by omega)
  go_loopg [12] others.length (fun gk c12 wr => ∃ (j : Nat) (sx : St) (Fx : Nat → Prop) (gx : Nat), gk + j = others.length ∧ c12 = .int .i64 (j : Int) ∧ Hid (Stg sx ns words (others.take j) (21 + 2 * words.length + 2 * j) gx) ∧ Hid (PS W wr t Fx sx W.heap.size more [] [(pb, hdOr ns 0, (words.length : Int))]) ∧ Bud sx (3900000000 + 11 * gk))
  case atStart => exact ⟨0, sy, F3, g1, rfl, rfl, by simpa using HS4, HP4, b3⟩
  case round =>
    obtain ⟨j, sx, Fx, gx, hgk, rfl, HS, HP, bx⟩ := hrel
    have HG := Lib.hid hgk
    clear hgk HS4 HP4 b3
    by_cases hj : j < others.length
    · obtain ⟨g, rfl⟩ : ∃ g, gk = g + 1 := ⟨gk - 1, by have := HG.out; omega⟩
      obtain ⟨A2, c2, ev, hc2, _, hcs⟩ := HLO.out.below HP.out.bel
      rw [Value.slice.injEq] at ev
      obtain ⟨rfl, -, rfl⟩ := ev
      obtain ⟨gz, oz, rfl, hcl⟩ := hcs j hj
      have hxb := HBD2.out _ (show others.getD j 0 ∈ others by rw [List.getD_eq_getElem?_getD, List.getElem?_eq_getElem hj]; exact List.getElem_mem hj)
      have hji : (j : Int) < others.length := by omega
      have htk := Lib.hid (take_one hj)
      obtain ⟨hx1, hx2⟩ := hxb
      clear hcs
      generalize others.getD j 0 = xj at *
      have bx : Bud sx ((3900000000 + 11 * g) + 11) := bx.mono (by omega)
      go_wp2_with fail
      refine (quput_b HP.out.tx HP.out.fits bx (by omega) (by omega) (by omega) hx1 hx2 (Fr.refl Fx _)).mono ?_
      rintro _ w7 ⟨e7, s7, q7, rfl, hL7⟩
      obtain ⟨sz, g7, u7, h7, -⟩ := stg_put xj HS.out bx (by omega)
      obtain ⟨rfl, rfl⟩ : 0 = e7 ∧ sz = s7 := by have := u7.symm.trans q7.out; simpa using this
      obtain ⟨F7, hP7, b7⟩ := HP.out.step hL7
      rw [htk.out] at h7
      have HS7 := Lib.hid h7
      have HP7 := Lib.hid hP7
      clear HS HP hL7 u7 q7 h7 hP7 hcl
      go_wp2_with (go_at_call 17; refine (num_b _ _).mono ?_; rintro e _ ⟨rfl, rfl⟩)
      go_roundg g
      case measure => omega
      case rel => exact ⟨j + 1, sz, F7, g7, by have := HG.out; omega, by go_num, by rw [show (21 : Int) + 2 * words.length + 2 * ((j + 1 : Nat) : Int) = 21 + 2 * words.length + 2 * j + 2 by omega]; exact HS7, HP7, b7⟩
    · obtain rfl : j = others.length := by have := HG.out; omega
      obtain rfl : gk = 0 := by have := HG.out; omega
      have HS : Hid (Stg sx ns words others (21 + 2 * words.length + 2 * others.length) gx) := by rw [List.take_length] at HS; exact HS
      obtain ⟨c0, c1, c2⟩ := HP.out.cell (List.mem_singleton.2 rfl)
      simp only at c0 c1 c2
      clear hj
      have bx : Bud sx ((3800000000 + 1000) + 3 * 65537) := bx.mono (by omega)
      go_wp2_with fail
      refine (preadw_b HP.out.tx HP.out.fits bx df df' dc dc' (Fr.refl Fx _)).mono ?_
      rintro _ w5 ⟨va, la, er, s5, q5, rfl, hV5, hn5⟩
      obtain ⟨sz, u5, h5⟩ := stg_read HS.out (n := 0) (bx.mono (by omega))
      obtain ⟨rfl, rfl, rfl⟩ : words = la ∧ 0 = er ∧ sz = s5 := by have := u5.symm.trans q5.out; simpa using this
      obtain ⟨Aa, ca, rfl, hca⟩ := hV5.2.2.1.shape
      obtain ⟨F5, hP5, b5⟩ := HP.out.list hV5 hn5
      have HP5 : Hid (PS W w5 t F5 sz W.heap.size more [(.slice Aa words.length ca, words)] [(pb, hdOr ns 0, (words.length : Int))]) := Lib.hid hP5
      have HS5 := Lib.hid h5
      obtain ⟨c0, c1, c2⟩ := hP5.cell (List.mem_singleton.2 rfl)
      simp only at c0 c1 c2
      clear HS HP hV5 hn5 u5 q5 h5 hP5 bx
      have b5 : Bud sz ((3700000000 + 1500) + 3 * 65537) := b5.mono (by omega)
      go_wp2_with fail
      refine (pturnm_b HP5.out.tx HP5.out.fits b5 df df' dc dc' (Fr.refl F5 _) HP5.out.mbk HP5.out.mbF).mono ?_
      rintro _ w6 ⟨er, s6, q6, rfl, hL6⟩
      obtain ⟨sw, u6, h6⟩ := stg_turn (addM more) HS5.out (n := 0) (b5.mono (by omega))
      obtain ⟨rfl, rfl⟩ : 0 = er ∧ sw = s6 := by have := u6.symm.trans q6.out; simpa using this
      obtain ⟨F6, hP6, b6⟩ := HP5.out.step hL6
      have HP6 := Lib.hid hP6
      obtain ⟨bs, hbs⟩ : ∃ bs, words.map (addM more) = bs := ⟨_, rfl⟩
      have hbl : bs.length = words.length := by rw [← hbs]; simp
      have HBG : Hid (∀ i, i < words.length → bs.getD i 0 = IntKind.u64.wrap (words.getD i 0 + more)) := Lib.hid fun i hi => by
        rw [← hbs, List.getD_eq_getElem?_getD, List.getElem?_map, List.getD_eq_getElem?_getD, List.getElem?_eq_getElem hi]; rfl
      rw [hbs] at h6
      have HS6 := Lib.hid h6
      obtain ⟨c0, c1, c2⟩ := hP6.cell (List.mem_singleton.2 rfl)
      simp only at c0 c1 c2
      clear HS5 HP5 hL6 u6 q6 h6 hP6 b5 hbs
      have b6 : Bud sw ((3600000000 + 1000) + 3 * 65537) := b6.mono (by omega)
      go_wp2_with fail
      refine (preadw_b HP6.out.tx HP6.out.fits b6 df df' dc dc' (Fr.refl F6 _)).mono ?_
      rintro _ w8 ⟨vb, lb, er, s8, q8, rfl, hV8, hn8⟩
      obtain ⟨sv, u8, h8⟩ := stg_read HS6.out (n := 0) (b6.mono (by omega))
      rw [hbl] at u8
      obtain ⟨rfl, rfl, rfl⟩ : bs = lb ∧ 0 = er ∧ sv = s8 := by have := u8.symm.trans q8.out; simpa using this
      obtain ⟨Ab, cb, rfl, hcb⟩ := hV8.2.2.1.shape
      rw [hbl] at hV8 hn8 hcb
      rw [hbl]
      obtain ⟨F8, hP8, b8⟩ := HP6.out.list hV8 hn8
      have HP8 : Hid (PS W w8 t F8 sv W.heap.size more [(.slice Aa words.length ca, words), (.slice Ab words.length cb, bs)] [(pb, hdOr ns 0, (words.length : Int))]) := Lib.hid hP8
      have HS8 := Lib.hid h8
      clear HS6 HP6 hV8 hn8 u8 q8 h8 hP8 b6
      have b8 : Bud sv (3500000000 + 131080) := b8.mono (by omega)
      go_wp2_with fail
      refine (quwords_b HP8.out.tx HP8.out.fits b8 (by omega) (by omega) (Fr.refl F8 _)).mono ?_
      rintro _ w9 ⟨vc, lc, er, s9, q9, rfl, hV9⟩
      obtain ⟨su, u9, h9⟩ := stg_words HS8.out HP8.out.fits (n := 0) (b8.mono (by omega))
      obtain ⟨rfl, rfl, rfl⟩ : others = lc ∧ 0 = er ∧ su = s9 := by have := u9.symm.trans q9.out; simpa using this
      obtain ⟨Ac, cc, rfl, hcc⟩ := hV9.2.2.1.shape
      obtain ⟨F9, hP9, b9⟩ := HP8.out.list hV9 (fun k hk => .inr (hV9.2.2.2.1 k hk))
      have HP9 : Hid (PS W w9 t F9 su W.heap.size more [(.slice Aa words.length ca, words), (.slice Ab words.length cb, bs), (.slice Ac others.length cc, others)] [(pb, hdOr ns 0, (words.length : Int))]) := Lib.hid hP9
      have HS9 := Lib.hid h9
      clear HS8 HP8 hV9 u9 q9 h9 hP9 b8
      clear c0 c1 c2
      have HA9 := Lib.hid (HP9.out.ls (.slice Aa words.length ca, words) (by simp)).1.lies
      go_wp2_with (go_at_call 17; refine (num_b _ _).mono ?_; rintro e _ ⟨rfl, rfl⟩)
      refine (wsame_b HA9.out (HLW.out.below HP9.out.bel) (by omega)).mono ?_
      rintro _ _ ⟨⟨n1, rfl⟩, rfl⟩
      have HP10 := Lib.hid (HP9.out.drewN n1)
      clear HP9 HA9
      generalize w9.drewN n1 = w10 at *
      have HC10 := Lib.hid (HP10.out.ls (.slice Ac others.length cc, others) (by simp)).1.lies
      go_wp2_with (go_at_call 17; refine (num_b _ _).mono ?_; rintro e _ ⟨rfl, rfl⟩)
      refine (wsame_b HC10.out (HLO.out.below HP10.out.bel) (by omega)).mono ?_
      rintro _ _ ⟨⟨n2, rfl⟩, rfl⟩
      have HP11 := Lib.hid (HP10.out.drewN n2)
      clear HP10 HC10
      generalize w10.drewN n2 = w11 at *
      go_wp2_with fail
      go_loopg [20] words.length (fun gk c20 wr => ∃ j : Nat, gk + j = words.length ∧ c20 = .int .i64 (j : Int) ∧ Hid (PS W wr t F9 su W.heap.size more [(.slice Aa words.length ca, words), (.slice Ab words.length cb, bs), (.slice Ac others.length cc, others)] [(pb, hdOr ns 0, (words.length : Int))]))
      case atStart => exact ⟨0, rfl, rfl, HP11⟩
      case round =>
        obtain ⟨j, hgk, rfl, HP⟩ := hrel
        have HG := Lib.hid hgk
        clear hgk HP11
        by_cases hj : j < words.length
        · obtain ⟨g, rfl⟩ : ∃ g, gk = g + 1 := ⟨gk - 1, by have := HG.out; omega⟩
          obtain ⟨A2, c2, ev, _, _, hcs⟩ := HLW.out.below HP.out.bel
          rw [Value.slice.injEq] at ev
          obtain ⟨rfl, -, rfl⟩ := ev
          obtain ⟨gz, oz, rfl, hcl⟩ := hcs j hj
          obtain ⟨A3, c3, ev, _, _, hcs3⟩ := (HP.out.ls (.slice Ab words.length cb, bs) (by simp)).1.lies
          rw [Value.slice.injEq] at ev
          obtain ⟨rfl, -, rfl⟩ := ev
          obtain ⟨gy, oy, rfl, hcl3⟩ := hcs3 j (by show j < bs.length; omega)
          rw [HBG.out j hj] at hcl3
          have hmc := (HP.out.mbk.cell 0).trans (show _ = some (.int .u64 more) from rfl)
          have hji : (j : Int) < words.length := by omega
          have hmc : wr.cell? ⟨W.heap.size, 0, none⟩ = some (.int .u64 more) := hmc
          clear hcs hcs3
          generalize words.getD j 0 = xj at *
          go_wp2
          go_quiet (fail)
          go_wp2
          go_roundg g
          case measure => omega
          case rel => exact ⟨j + 1, by have := HG.out; omega, by go_num, Lib.hid (HP.out.drewN _)⟩
        · obtain rfl : j = words.length := by have := HG.out; omega
          obtain rfl : gk = 0 := by have := HG.out; omega
          clear hj HBG
          obtain ⟨c0, c1, c2⟩ := HP.out.cell (List.mem_singleton.2 rfl)
          simp only at c0 c1 c2
          go_upto_region 26 with (fail)
          go_cut [188] (fun c188 wx => c188 = .bool false ∧ ∃ (sx : St) (Fx : Nat → Prop), Hid (Stg sx ns bs others (21 + 2 * words.length + 2 * others.length) gx) ∧ Hid (PS W wx t Fx sx W.heap.size more [(.slice Aa words.length ca, words), (.slice Ab words.length cb, bs), (.slice Ac others.length cc, others)] [(pb, hdOr ns 0, (words.length : Int))]) ∧ Bud sx 3400000000)
          case first =>
            by_cases ho0 : others = []
            · have hz : (decide ((0 : Int) < others.length)) = false := by rw [ho0]; rfl
              have hz2 : (others.length : Int) = 0 := by rw [ho0]; rfl
              have b10 : Bud su 3400000000 := b9.mono (by omega)
              go_wp2_with fail
              go_meet
              exact ⟨rfl, su, F9, HS9, HP, b10⟩
            · have hpos : (0 : Int) < others.length := by
                have := List.length_pos_iff.2 ho0
                omega
              have b10 : Bud su ((3400000000) + 3 + 3 * 65537 + 1) := b9.mono (by omega)
              go_wp2_with fail
              refine (pback_b HP.out.tx HP.out.fits b10 (by omega) (by omega) df df' dc dc' (Fr.refl F9 _)).mono ?_
              rintro _ w12 ⟨er, s12, q12, rfl, hL12⟩
              obtain ⟨sx, u12, h12⟩ := stg_no HS9.out ho0 (n := 0) (b10.mono (by omega)) (hdOr ns 0) words.length
              obtain ⟨rfl, rfl⟩ : 2 = er ∧ sx = s12 := by have := u12.symm.trans q12.out; simpa using this
              obtain ⟨F12, hP12, b12⟩ := HP.out.step hL12
              have HP12 := Lib.hid hP12
              have HS12 := Lib.hid h12
              clear HP hL12 u12 q12 hP12 h12
              go_wp2_with (go_at_call 17; refine (num_b _ _).mono ?_; rintro e _ ⟨rfl, rfl⟩)
              go_meet
              exact ⟨rfl, sx, F12, HS12, HP12, b12⟩
          case rest =>
            obtain ⟨rfl, sc, Fc, HSc, HPc, bc⟩ := hcut
            clear HP HS9 b9 c0 c1 c2
            have HSc := Lib.hid (HSc.out.wide (b' := 1000) (by omega))
            have bc : Bud sc (3300000000 + 10 * others.length) := bc.mono (by omega)
            go_wp2_with fail
            go_loopg [21] others.length (fun gk c21 wr => ∃ (j : Nat) (sx : St) (Fx : Nat → Prop) (gx : Nat), gk + j = others.length ∧ c21 = .int .i64 (j : Int) ∧ Hid (Stg sx ns bs (others.drop j) 1000 gx) ∧ Hid (PS W wr t Fx sx W.heap.size more [(.slice Aa words.length ca, words), (.slice Ab words.length cb, bs), (.slice Ac others.length cc, others)] [(pb, hdOr ns 0, (words.length : Int))]) ∧ Bud sx (3300000000 + 10 * gk))
            case atStart => exact ⟨0, sc, Fc, gx, rfl, rfl, by simpa using HSc, HPc, bc⟩
            case round =>
              obtain ⟨j, sx, Fx, gx, hgk, rfl, HS, HP, bx⟩ := hrel
              have HG := Lib.hid hgk
              clear hgk HSc HPc bc
              by_cases hj : j < others.length
              · obtain ⟨g, rfl⟩ : ∃ g, gk = g + 1 := ⟨gk - 1, by have := HG.out; omega⟩
                have hji : (j : Int) < others.length := by omega
                have HS1 : Hid (Stg sx ns bs (others.getD j 0 :: others.drop (j + 1)) 1000 gx) := by rw [← drop_one hj]; exact HS
                obtain ⟨A2, c2, ev, _, _, hcs⟩ := HLO.out
                rw [Value.slice.injEq] at ev
                obtain ⟨rfl, -, rfl⟩ := ev
                obtain ⟨gz, oz, rfl, _⟩ := hcs j hj
                have hcr : Hid (∀ {w' : World}, Below W.heap.size W w' → w'.cell? ⟨gz, oz + j, none⟩ = some (.int .u64 (others.getD j 0))) := Lib.hid fun hb => by
                  obtain ⟨A3, c3, ev3, _, _, hcs3⟩ := HLO.out.below hb
                  rw [Value.slice.injEq] at ev3
                  obtain ⟨rfl, -, rfl⟩ := ev3
                  obtain ⟨g', o', e', hc'⟩ := hcs3 j hj
                  simp only [Option.some.injEq, Addr.mk.injEq, and_true] at e'
                  obtain ⟨rfl, rfl⟩ := e'
                  exact hc'
                clear hcs HS
                generalize others.getD j 0 = xj at *
                have bx : Bud sx ((3300000000 + 10 * g) + 10) := bx.mono (by omega)
                go_wp2_with fail
                refine (qutake_b HP.out.tx HP.out.fits bx (by omega) (by omega) (by omega) (Fr.refl Fx _)).mono ?_
                rintro _ w13 ⟨x, bo, er, s13, q13, dx, dx', rfl, hL13⟩
                obtain ⟨sz, g13, u13, h13⟩ := stg_take HS1.out bx
                obtain ⟨rfl, rfl, rfl, rfl⟩ : xj = x ∧ true = bo ∧ 0 = er ∧ sz = s13 := by have := u13.symm.trans q13.out; simpa using this
                obtain ⟨F13, hP13, b13⟩ := HP.out.step hL13
                have HP13 := Lib.hid hP13
                have HS13 := Lib.hid h13
                have hcx := hcr.out hP13.bel
                clear HP HS1 hL13 u13 q13 hP13 h13 hcr
                go_wp2
                go_roundg g
                case measure => omega
                case rel => exact ⟨j + 1, sz, F13, g13, by have := HG.out; omega, by go_num, HS13, HP13, b13⟩
              · obtain rfl : j = others.length := by have := HG.out; omega
                obtain rfl : gk = 0 := by have := HG.out; omega
                have HS : Hid (Stg sx ns bs [] 1000 gx) := by rw [List.drop_length] at HS; exact HS
                obtain ⟨c0, c1, c2⟩ := HP.out.cell (List.mem_singleton.2 rfl)
                simp only at c0 c1 c2
                clear hj
                have bx : Bud sx (3200000000 + 3 + 3 * 65537 + 1) := bx.mono (by omega)
                go_wp2_with fail
                refine (pback_b HP.out.tx HP.out.fits bx (by omega) (by omega) df df' dc dc' (Fr.refl Fx _)).mono ?_
                rintro _ w14 ⟨er, s14, q14, rfl, hL14⟩
                obtain ⟨sz, u14, h14⟩ := stg_back HS.out (n := 0) (bx.mono (by omega))
                rw [hbl] at u14
                obtain ⟨rfl, rfl⟩ : 0 = er ∧ sz = s14 := by have := u14.symm.trans q14.out; simpa using this
                obtain ⟨F14, hP14, b14⟩ := HP.out.step hL14
                have HP14 := Lib.hid hP14
                have HS14 := Lib.hid h14
                clear HP HS hL14 u14 q14 hP14 h14 c0 c1 c2 bx
                have b14 : Bud sz (3100000000 + 131080) := b14.mono (by omega)
                go_wp2_with (go_at_call 17; refine (num_b _ _).mono ?_; rintro e _ ⟨rfl, rfl⟩)
                refine (quwords_b HP14.out.tx HP14.out.fits b14 (by omega) (by omega) (Fr.refl F14 _)).mono ?_
                rintro _ w15 ⟨vd, ld, er, s15, q15, rfl, hV15⟩
                obtain ⟨sy2, u15, h15⟩ := stg_words HS14.out HP14.out.fits (n := 0) (b14.mono (by omega))
                obtain ⟨rfl, rfl, rfl⟩ : bs = ld ∧ 0 = er ∧ sy2 = s15 := by have := u15.symm.trans q15.out; simpa using this
                obtain ⟨Ad, cd, rfl, hcd⟩ := hV15.2.2.1.shape
                rw [hbl] at hV15 hcd
                rw [hbl]
                obtain ⟨F15, hP15, b15⟩ := HP14.out.list hV15 (fun k hk => .inr (hV15.2.2.2.1 k hk))
                have HP15 : Hid (PS W w15 t F15 sy2 W.heap.size more [(.slice Aa words.length ca, words), (.slice Ab words.length cb, bs), (.slice Ac others.length cc, others), (.slice Ad words.length cd, bs)] [(pb, hdOr ns 0, (words.length : Int))]) := Lib.hid hP15
                have HS15 := Lib.hid h15
                clear HS14 HP14 hV15 u15 q15 h15 hP15 b14
                have HD15 := Lib.hid (HP15.out.ls (.slice Ad words.length cd, bs) (by simp)).1.lies
                have HE15 := Lib.hid (HP15.out.ls (.slice Ab words.length cb, bs) (by simp)).1.lies
                go_wp2_with fail
                refine (wsame_b HD15.out HE15.out (by omega)).mono ?_
                rintro _ _ ⟨⟨n3, rfl⟩, rfl⟩
                have HP16 := Lib.hid (HP15.out.drewN n3)
                clear HP15 HD15 HE15
                generalize w15.drewN n3 = w16 at *
                go_wp2_with fail
                refine (papart_b HP16.out (by omega) (by omega) (by omega) (by omega)).mono ?_
                rintro _ w17 ⟨rfl, hP17⟩
                have HP17 := Lib.hid hP17
                have b17 : Bud sy2 (3000000000 + 5) := b15.mono (by omega)
                clear HP16 hP17 b15
                go_wp2_with fail
                refine (pqueue_b (n := 3000000000) HP17.out.tx HP17.out.fits b17 (by omega) (by omega) (Fr.refl _ _)).mono ?_
                rintro _ w18 ⟨f, c, er, s18, q18, ef, ef', ec, ec', rfl, hL18⟩
                obtain ⟨ns2, sa, u18, -, h18⟩ := stg_queue HS15.out b17
                rw [hbl] at u18
                obtain ⟨rfl, rfl, rfl, rfl⟩ : hdOr ns2 0 = f ∧ (words.length : Int) = c ∧ 0 = er ∧ sa = s18 := by have := u18.symm.trans q18.out; simpa using this
                obtain ⟨F18, hP18, b18⟩ := HP17.out.step hL18
                have hv : partv 1 (hdOr ns2 0) words.length 0 = .agg #[.int .i64 1, .int .u64 (hdOr ns2 0), .int .u64 (words.length : Int)] := if_pos rfl
                rw [hv]
                have HP19 := Lib.hid (hP18.part (hdOr ns2 0) words.length)
                have HS19 := Lib.hid h18
                have b19 : Bud sa (2900000000 + 65537) := b18.mono (by omega)
                clear HP17 HS15 hL18 u18 q18 h18 hP18 hv b17 b18
                go_wp2_with fail
                generalize w18.alloc (.cells #[.int .i64 1, .int .u64 (hdOr ns2 0), .int .u64 (words.length : Int)] 25) = w19 at *
                generalize w18.heap.size = pd at *
                have HP20 : Hid (PS W w19 t F18 sa W.heap.size more [] [(pb, hdOr ns 0, (words.length : Int)), (pd, hdOr ns2 0, (words.length : Int))]) := HP19
                clear HP19
                refine (rgiven_b (n := 2900000000) HP20.out.tx HP20.out.fits b19 (by omega) (by omega) (by omega) (Fr.refl F18 _)).mono ?_
                rintro _ w21 ⟨ve, le, er, s21, q21, rfl, hV21⟩
                obtain ⟨l21, sb, u21, k21, h21⟩ := stg_given HS19.out b19
                obtain ⟨rfl, rfl, rfl⟩ : l21 = le ∧ 0 = er ∧ sb = s21 := by have := u21.symm.trans q21.out; simpa using this
                have k21b := h21.bds
                have K21 := Lib.hid k21
                obtain ⟨Ae, ce, rfl, hce⟩ := hV21.2.2.1.shape
                obtain ⟨F21, hP21, b21⟩ := HP20.out.list hV21 (fun k hk => .inr (hV21.2.2.2.1 k hk))
                have HP21 : Hid (PS W w21 t F21 sb W.heap.size more [(.slice Ae l21.length ce, l21)] [(pb, hdOr ns 0, (words.length : Int)), (pd, hdOr ns2 0, (words.length : Int))]) := Lib.hid hP21
                have HS21 := Lib.hid h21
                have hli : (l21.length : Int) ≤ 1000 := by omega
                clear k21
                obtain ⟨c0, c1, c2⟩ := hP21.cell (x := (pd, hdOr ns2 0, (words.length : Int))) (by simp)
                simp only at c0 c1 c2
                obtain ⟨sn, n21, n22, n23⟩ := stg_nodes h21 (n := 0) (b21.mono (by omega))
                rw [hbl] at n21
                have N21 := Lib.hid n21
                have N22 := Lib.hid n22
                have b21 : Bud sb (2800000000 + 3 * ns2.length + 3 * 65537) := b21.mono (by omega)
                clear HP20 HS19 hV21 u21 q21 h21 hP21 b19 n21 n22
                have n23 := Lib.hid n23
                replace k21b := Lib.hid k21b
                go_wp2_with fail
                refine (pgive_b HP21.out.tx HP21.out.fits b21 ef ef' ec ec' (Fr.refl F21 _) N21.out N22.out (by have := n23.out; omega)).mono ?_
                rintro _ w22 ⟨er, s22, q22, rfl, hL22⟩
                obtain ⟨sd, u22, h22⟩ := stg_give HS21.out (n := 0) (b21.mono (by omega))
                rw [hbl] at u22
                obtain ⟨rfl, rfl⟩ : 0 = er ∧ sd = s22 := by have := u22.symm.trans q22.out; simpa using this
                obtain ⟨F22, hP22, b22⟩ := HP21.out.step hL22
                have HP22 := Lib.hid hP22
                have HS22 := Lib.hid h22
                have b22 : Bud sd (2700000000 + 65537) := b22.mono (by omega)
                clear HP21 HS21 hL22 u22 q22 h22 hP22 b21 c0 c1 c2 N21 N22
                go_wp2_with (go_at_call 17; refine (num_b _ _).mono ?_; rintro e _ ⟨rfl, rfl⟩)
                refine (rgiven_b (n := 2700000000) HP22.out.tx HP22.out.fits b22 (by omega) (by omega) (by omega) (Fr.refl F22 _)).mono ?_
                rintro _ w23 ⟨vg, lg, er, s23, q23, rfl, hV23⟩
                obtain ⟨l23, se, u23, k23, h23⟩ := stg_given HS22.out b22
                obtain ⟨rfl, rfl, rfl⟩ : l23 = lg ∧ 0 = er ∧ se = s23 := by have := u23.symm.trans q23.out; simpa using this
                obtain ⟨Ag, cg, rfl, hcg⟩ := hV23.2.2.1.shape
                obtain ⟨F23, hP23, b23⟩ := HP22.out.list hV23 (fun k hk => .inr (hV23.2.2.2.1 k hk))
                have HP23 := Lib.hid hP23.drop
                have HS23 := Lib.hid h23
                have hsum : (l23.length : Int) = l21.length + words.length := by rw [k23, hbl, K21.out]; omega
                have b23 : Bud se (2600000000 + 1) := b23.mono (by omega)
                clear HP22 HS22 hV23 u23 q23 h23 hP23 b22 k23
                go_wp2_with fail
                refine (qulen_b HP23.out.tx HP23.out.fits b23 (by omega) (by omega) (Fr.refl F23 _)).mono ?_
                rintro _ w24 ⟨x, er, s24, q24, dx, dx', rfl, hL24⟩
                obtain ⟨sh, u24, h24⟩ := stg_len HS23.out b23
                obtain ⟨rfl, rfl, rfl⟩ : 0 = x ∧ 0 = er ∧ sh = s24 := by have := u24.symm.trans q24.out; simpa using this
                obtain ⟨F24, hP24, b24⟩ := HP23.out.step hL24
                have HB24 := Lib.hid hP24.bel
                clear HP23 HS23 hL24 u24 q24 h24 hP24 b23 dx dx'
                go_wp2_with fail
                refine (works_b _).mono ?_
                rintro _ w25 ⟨rfl, hb25⟩
                have HB25 := Lib.hid (HB24.out.trans (hb25.mono HB24.out.size))
                go_wp2
                go_ret
                exact ⟨rfl, HB25.out⟩
end Go.Proofs.Ytcgdpclhlepofaa
/- The law PartQueues: its statement out of its walk. Whatever the input, it answers true, and the input reads as before. -/
namespace Go.Proofs.Ytcgdpclhlepofaa.partQueues
open Go.ChangeShapes Go.WideShapes Go.ChangeAt Go.RowKit Go.Deep
set_option linter.unusedVariables false
theorem own : ownKnob Try.prog.godebug = none := by kernel_rfl
theorem laidOut : laidOutB Try.prog = true := by kernel_rfl
set_option maxRecDepth 100000 in
theorem lifted (os : Os) (started : os.Started) (H : Type) (enc : TypeId × Value → H) :
    ReturnsInHanded {} Try.checked os 4 .any (Rows.partQueuesSpec.pre6 enc Try.prog Try.f4 Rows.partQueuesRow.domain false) (Rows.partQueuesSpec.post enc Try.prog Try.f4 false true false false) := by
  refine returnsInHanded_of_change_sized (C := Try.checked) own started (by kernel_rfl) Try.func4
    (ChangeSpec.witness6 (enc := enc) (C := Try.checked) false ⟨#[], #[.slice none 0 0, .slice none 0 0, .int .u64 0], []⟩ 8 (by kernel_rfl) (by kernel_rfl) (by kernel_rfl) (by kernel_rfl)) ?_
  intro W base args ds gs before hval0 hW hcnd hsz0 _
  have hval : ∀ (j : Nat) t v, Try.f4.params[j]? = some t → args[j]? = some v → Value.okWide Try.prog W .any base t v := hval0
  have hsz : (DataW.weightsEach Try.prog (Try.f4.params.toList ++ Rows.partQueuesSpec.plain.varTypes Try.prog) (ds ++ gs)).all (· ≤ reachBytes) = true := hsz0
  have hW' := hW
  obtain ⟨p, q, hA0, hV, rfl, hfz, hnd⟩ := hW
  have hA : DataW.TrodAll enc Try.prog W 0 (fun _ => true) true Try.f4.params.toList args.toList ds p := hA0
  rw [Try.params4] at hA hval hsz
  obtain ⟨v0, vs0, d0, ds0, p0, q0, hargs, rfl, rfl, h0, r0⟩ := trodAll_cons hA
  obtain ⟨v1, vs1, d1, ds1, p1, q1, rfl, rfl, rfl, h1, r1⟩ := trodAll_cons r0
  obtain ⟨v2, vs2, d2, ds2, p2, q2, rfl, rfl, rfl, h2, r2⟩ := trodAll_cons r1
  obtain ⟨rfl, rfl, rfl⟩ := trodAll_nil r2
  obtain rfl : args = #[v0, v1, v2] := by cases args; simp_all
  obtain ⟨rfl, rfl⟩ := trodVars_none hV
  obtain ⟨a0, len0, cap0, rfl⟩ := okWide_slice Try.underlying32 (hval 0 32 v0 rfl rfl)
  have k0 := h0
  have lt0 : ∀ x ∈ p0, x.block < W.heap.size := by obtain ⟨m, hm⟩ := k0; exact DataW.trod_lt m _ _ _ hm
  obtain ⟨l0, rfl, w0⟩ := open_words hsz (j := 0) rfl rfl Try.underlying32 Try.underlying23 (by kernel_rfl) (by kernel_rfl) h0
  obtain ⟨a1, len1, cap1, rfl⟩ := okWide_slice Try.underlying32 (hval 1 32 v1 rfl rfl)
  have k1 := h1
  have lt1 : ∀ x ∈ p1, x.block < W.heap.size := by obtain ⟨m, hm⟩ := k1; exact DataW.trod_lt m _ _ _ hm
  obtain ⟨l1, rfl, w1⟩ := open_words hsz (j := 1) rfl rfl Try.underlying32 Try.underlying23 (by kernel_rfl) (by kernel_rfl) h1
  obtain ⟨a2, rfl, rfl, rfl, w2⟩ := open_int Try.underlying23 (hval 2 23 v2 rfl rfl) h2
  clear hA0 hval0 hsz0
  refine (partQueues_walk w0 w1 a2 w2 W).mono fun e W' ⟨he, bel⟩ => ?_
  subst he
  exact ⟨_, rfl, _, _, _, [], _, [], hW', trodAll_mk1 (shut_bool Try.underlying4 _), (trodAll_cons_mk (Below.trod laidOut (by kernel_rfl) (of_decide_eq_true (by kernel_rfl)) k0 bel lt0) (trodAll_cons_mk (Below.trod laidOut (by kernel_rfl) (of_decide_eq_true (by kernel_rfl)) k1 bel lt1) (trodAll_cons_mk (shut_int Try.underlying23 w2) trodAll_mk0))), rfl, bel.frame _, fun h => by cases h⟩

theorem proved : Rows.PartQueuesSaid :=
  OpenClaim.holds_of_wide 4 Try.f4 rfl rfl rfl rfl rfl rfl rfl ⟨rfl, rfl, rfl, rfl, rfl⟩ rfl rfl rfl rfl rfl (by kernel_rfl) Try.func4 (by kernel_rfl)
    (of_decide_eq_true (by kernel_rfl)) (by unfold Func.isWrapper; first | (rw [if_pos (by decide +kernel)]; kernel_rfl) | (rw [if_neg (by decide +kernel)]; exact ⟨rfl, rfl⟩))
    (fun os started H enc _ => lifted os started H enc)
end Go.Proofs.Ytcgdpclhlepofaa.partQueues
