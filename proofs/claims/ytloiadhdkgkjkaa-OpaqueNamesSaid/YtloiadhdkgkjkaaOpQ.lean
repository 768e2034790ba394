/- The document's known history: what the law's closed sentences say of it. -/
import Derived.Test.YtloiadhdkgkjkaaOpP1
namespace Go.Proofs.Ytloiadhdkgkjkaa
open Go.RowKit
set_option maxHeartbeats 4000000
set_option linter.unusedVariables false
set_option linter.unusedSimpArgs false
def wroteL : List Ev := [⟨0, 1, 0, 0, false, 0⟩, ⟨0, 3, 0, 7, false, 0⟩, ⟨0, 3, 1, 8, false, 0⟩, ⟨0, 5, 0, 0, false, 0⟩, ⟨0, 6, 0, 1, false, 0⟩]
def knownL : List Ev := [⟨1, 1, 0, 0, false, 0⟩] ++ wroteL ++ [⟨1, 2, 0, 7, false, 0⟩, ⟨1, 2, 1, 6, false, 0⟩]
theorem k_odd : seeOdd 2 knownL = (-1, 0) := by kernel_rfl
theorem w_odd : seeOdd 2 wroteL = (-1, 0) := by kernel_rfl
theorem k_chk : chkA [5, 6] knownL = 0 := by kernel_rfl
theorem w_chk : chkA [5, 6] wroteL = -1 := by kernel_rfl
theorem w_beh1 : behA [5, 6] wroteL 1 = ((-1, 0), [7, 8]) := by kernel_rfl
theorem w_beh2 : behA [5, 6] wroteL 2 = ((-1, 2), []) := by kernel_rfl
theorem wrote_b (w : World) : Calls Try.prog 36 #[] w fun x w' => Below w.heap.size w w' ∧ ∃ ov, x = .returned ov ∧ Sl 61 6 encV w' ov wroteL ∧ ∀ q, own ov q → w.heap.size ≤ q := by
  go_enter Try.func36, Try.ntmps36
  go_wp2
  go_ret
  refine ⟨(Below.refl _ _).alloc (Nat.le_refl _) _, _, rfl, Sl.new encV_len w wroteL (by decide), ?_⟩
  intro q hq
  have e : w.heap.size = q := by simpa [own, Value.ownBlock] using hq
  omega
theorem Sl.liesV {w : World} {v : Value} {l : List Ev} (h : Sl 61 6 encV w v l) (hwf : ∀ e ∈ l, EvWf e) (hsz : l.length * 48 ≤ 140737488351232 + 48) : LiesV w v l := by
  obtain ⟨A, cp, rfl, hc⟩ := h.shape
  refine ⟨A, cp, rfl, hc, ?_, hwf, hsz, fun j hj => ?_⟩
  · intro hA
    subst hA
    rcases h.2 with ⟨h1, _⟩ | ⟨g, off, cap, cur, h1, _⟩
    · injection h1
    · injection h1 with h1
      cases h1
  · obtain ⟨g, o, rfl, hlt, hc⟩ := h.cell encV_len (by omega) hj
    refine ⟨g, o, rfl, hlt, fun c h6 => ?_⟩
    have := (hc j hj c h6).1
    rw [Nat.add_assoc]
    exact this
theorem LiesV.src {w : World} {v : Value} {l : List Ev} (h : LiesV w v l) : Src w v l.length 6 (l.flatMap encV) := by
  obtain ⟨A, cp, rfl, hc, h0, -, -, h⟩ := h
  cases A with
  | none =>
    obtain rfl := h0 rfl
    obtain rfl : l = [] := List.eq_nil_of_length_eq_zero (by omega)
    exact .inl ⟨rfl, rfl, rfl⟩
  | some ad =>
    refine .inr ⟨ad, cp, rfl, flat_len encV_len l, fun j u hj => ?_, fun u hu => ?_⟩
    · have hjl : j < l.length * 6 := by rw [← flat_len encV_len l]; exact (List.getElem?_eq_some_iff.1 hj).1
      obtain ⟨q, r, hr, rfl⟩ : ∃ q r, r < 6 ∧ j = q * 6 + r := ⟨j / 6, j % 6, Nat.mod_lt _ (by omega), by omega⟩
      have hq : q < l.length := by omega
      obtain ⟨g, o, e, hlt, hcell⟩ := h q hq
      injection e with e
      subst e
      rw [Addr.add_lit, ← Nat.add_assoc, hcell r hr, ← hj, flat_get encV_len l q r hq hr]
    · obtain ⟨x, _, hx⟩ := List.mem_flatMap.1 hu
      exact encV_one x u hx
theorem wpList_evs {ops : Array Oper} {rest : List Oper} {o : Oper} {a : Act} {Q : Exit → Act → World → Prop} (wr : World) (hgd : o.guard = none) (s x : Operand)
    (ho : o.op = .call { callee := .builtin .append, args := #[s, x], argTypes := #[23, 23] })
    (v u : Value) (l m : List Ev) (hs : a.eval s = v) (hl : Sl 61 6 encV wr v l) (hx : a.eval x = u) (hm : Src wr u m.length 6 (m.flatMap encV)) (hb1 : l.length + m.length ≤ 9223372036854775807) (hlen : (l.length + m.length) * 48 ≤ 140737488355328)
    (h : ∀ A cap w', l.length + m.length ≤ cap → Sl 61 6 encV w' (.slice A (l.length + m.length) cap) (l ++ m) → Fr (own v) wr (own (.slice A (l.length + m.length) cap)) w' → wpList Try.prog ops Q rest (a.put o.dst (.slice A (l.length + m.length) cap)) w') :
    wpList Try.prog ops Q (o :: rest) a wr :=
  wpList_all (enc := encV) wr hgd s x 23 ho Try.underlying23 event_info rfl (by decide) v u l m hs hl hx hm hb1 hlen h
theorem wpList_evsN {ops : Array Oper} {rest : List Oper} {o : Oper} {a : Act} {Q : Exit → Act → World → Prop} (n : Nat) (wr : World) (hgd : o.guard = none) (s x : Operand)
    (ho : o.op = .call { callee := .builtin .append, args := #[s, x], argTypes := #[23, 23] })
    (v u : Value) (l m k : List Ev) (hs : a.eval s = v) (hl : Sl 61 6 encV wr v l) (hx : a.eval x = u) (hm : Src wr u m.length 6 (m.flatMap encV)) (hn : l.length + m.length = n) (hk : l ++ m = k) (hb1 : n ≤ 9223372036854775807) (hlen : n * 48 ≤ 140737488355328)
    (h : ∀ A cap w', n ≤ cap → Sl 61 6 encV w' (.slice A n cap) k → Fr (own v) wr (own (.slice A n cap)) w' → wpList Try.prog ops Q rest (a.put o.dst (.slice A n cap)) w') :
    wpList Try.prog ops Q (o :: rest) a wr := by
  subst hn hk
  exact wpList_evs wr hgd s x ho v u l m hs hl hx hm hb1 hlen h
instance (e : Ev) : Decidable (EvWf e) := by unfold EvWf; infer_instance
theorem wrote_wf : ∀ e ∈ wroteL, EvWf e := by decide
theorem known_wf : ∀ e ∈ knownL, EvWf e := by decide
theorem odd_equal (a b c d : Int) (w : World) : (Op.equalIn 10000 28 (.agg #[.int .i64 a, .int .i64 b]) (.agg #[.int .i64 c, .int .i64 d])).run Try.prog w = .ok (decide (a = c) && decide (b = d)) w := by
  have h1 : Try.prog.underlying 28 = some _ := Try.underlying28
  have hi : ∀ (t : TypeId) (n m : Int) (k : IntKind) (d : Nat), Try.prog.underlying t = some (TypeDesc.int k) → (Op.equalIn (d + 1) t (.int k n) (.int k m)).run Try.prog w = .ok (n == m) w := fun t n m k d ht => run_equalIn_int w d t k k n m ht
  have hsi : Try.prog.stoodInHeld 28 = false := by kernel_rfl
  have u1 : Try.prog.underlying 3 = some _ := Try.underlying3
  have u5 : Try.prog.underlying 26 = some _ := Try.underlying26
  have c1 : Try.prog.cellsOf 3 = 1 := by kernel_rfl
  have c5 : Try.prog.cellsOf 26 = 1 := by kernel_rfl
  have hd : 10000 = 9998 + 1 + 1 := rfl
  rw [hd]
  generalize 9998 = e at *
  rw [Op.equalIn]
  simp [run_underlying h1, part, hi, u1, u5, c1, c5, hsi, sizeOf, typeInfo]
  by_cases k0 : a = c <;> simp [k0]
  by_cases k1 : b = d <;> simp [k1]
theorem odd_eql (a b c d : Int) (w : World) : (binOp .eql 28 (.agg #[.int .i64 a, .int .i64 b]) (.agg #[.int .i64 c, .int .i64 d])).run Try.prog w = .ok (.bool (decide (a = c) && decide (b = d))) w := by
  rw [run_eql_struct (P := Try.prog) w 28 #[.int .i64 a, .int .i64 b] #[.int .i64 c, .int .i64 d], odd_equal]
  rfl
theorem odd_neq (a b c d : Int) (w : World) : (binOp .neq 28 (.agg #[.int .i64 a, .int .i64 b]) (.agg #[.int .i64 c, .int .i64 d])).run Try.prog w = .ok (.bool (!(decide (a = c) && decide (b = d)))) w := by
  rw [run_neq_struct (P := Try.prog) w 28 #[.int .i64 a, .int .i64 b] #[.int .i64 c, .int .i64 d], odd_equal]
  rfl
/-- wrote, in a world that a call has come to. -/
theorem OpIn.wrote {w w' : World} {Fv : Value} {ov : Value} (hf : Lies w' Fv [5, 6]) (h : Sl 61 6 encV w' ov wroteL) : OpIn w' Fv ov [5, 6] wroteL :=
  ⟨hf, h.liesV wrote_wf (by decide), wrote_wf, by decide, by decide, by decide⟩
set_option maxRecDepth 100000 in
theorem known_b (CK : CheckC) (BH : BehindC) (w : World) : Calls Try.prog 14 #[] w fun x w' => x = .returned (.bool true) ∧ Below w.heap.size w w' := by
  obtain ⟨w1, hw1⟩ : ∃ w1, w1 = w.alloc (.cells #[.int .u64 5, .int .u64 6] 35) := ⟨_, rfl⟩
  have z1 : w1.heap.size = w.heap.size + 1 := by rw [hw1]; simp
  obtain ⟨w2, hw2⟩ : ∃ w2, w2 = w1.alloc (.cells #[.int .i64 1, .int .i64 1, .int .u64 0, .int .u64 0, .bool false, .int .i64 0] 61) := ⟨_, rfl⟩
  have F1 : Lies w1 (.slice (some ⟨w.heap.size, 0, none⟩) 2 2) [5, 6] := by rw [hw1]; exact Lies.new w [5, 6] (by decide)
  have H2 : Sl 61 6 encV w2 (.slice (some ⟨w.heap.size + 1, 0, none⟩) 1 1) [⟨1, 1, 0, 0, false, 0⟩] := by
    rw [← z1, hw2]
    exact Sl.new (e := 61) encV_len w1 [⟨1, 1, 0, 0, false, 0⟩] (by decide)
  have hb1 : Below w.heap.size w w1 := by rw [hw1]; exact (Below.refl _ _).alloc (Nat.le_refl _) _
  have hb2 : Below w1.heap.size w1 w2 := by rw [hw2]; exact (Below.refl _ _).alloc (Nat.le_refl _) _
  have h2l : ∀ q, own (.slice (some ⟨w.heap.size + 1, 0, none⟩) 1 1) q → w1.heap.size ≤ q := fun q hq => by
    have e : w.heap.size + 1 = q := by simpa [own, Value.ownBlock] using hq
    omega
  rw [hw1] at hw2
  replace hw2 := Lib.hid hw2
  replace hw1 := Lib.hid hw1
  replace h2l := Lib.hid h2l
  replace z1 := Lib.hid z1
  go_enter Try.func14, Try.ntmps14
  go_wp2_with fail
  rw [← hw2.out]
  refine (wrote_b w2).mono ?_
  rintro _ w3 ⟨hb3, ov3, rfl, hS3, ho3⟩
  obtain ⟨A3, c3, rfl⟩ : ∃ A c, ov3 = .slice A 5 c := (show ∃ A c, ov3 = .slice A 5 c from by obtain ⟨A, c, h, _⟩ := hS3.shape; exact ⟨A, c, h⟩)
  have H3 := H2.keep (w' := w3) fun k hk => hb3.block k (H2.lt k hk)
  have hbw3 := Lib.hid (hb2.trans (hb3.mono hb2.size))
  have W3 := hS3.src encV_one
  clear H2 hb3 hb2 hS3
  replace hb1 := Lib.hid hb1
  replace F1 := Lib.hid F1
  clear ho3
  go_wp2_with (at_builtin; first | (refine wpList_evsN 6 w3 rfl (.tmp 13) (.tmp 14) rfl _ _ _ wroteL ([⟨1, 1, 0, 0, false, 0⟩] ++ wroteL) rfl H3 rfl W3 rfl rfl (by decide) (by decide) ?_; intro A4 c4 w4 hc4 H4 f4; have W4 := (Sl.new (e := 61) encV_len w4 [⟨1, 2, 0, 7, false, 0⟩, ⟨1, 2, 1, 6, false, 0⟩] (by decide)).src encV_one) | (refine wpList_evsN 8 (w4.alloc _) rfl (.tmp 16) (.tmp 19) rfl _ _ _ _ knownL rfl (H4.alloc _) rfl W4 rfl rfl (by decide) (by decide) ?_; intro A5 c5 w5 hc5 H5 f5))
  have hbw5 : Below w1.heap.size w1 w5 := by
    have h4 : Below w1.heap.size w1 w4 := hbw3.out.trans (f4.below h2l.out hbw3.out.size)
    have h4' : ∀ q, own (.slice A4 6 c4) q → w1.heap.size ≤ q := f4.ge h2l.out hbw3.out.size
    exact (h4.alloc h4.size _).trans (f5.below h4' (h4.alloc h4.size _).size)
  have O5 : OpIn w5 (.slice (some ⟨w.heap.size, 0, none⟩) 2 2) (.slice A5 8 c5) [5, 6] knownL := ⟨F1.out.below hbw5, H5.liesV known_wf (by decide), known_wf, by decide, by decide, by decide⟩
  clear H5 f5 f4 H4 W4 W3 H3 hc4 hc5 hbw3
  have CK1 := Lib.hid (CK _ _ _ _ _ O5)
  rw [k_chk, show seeOdd ([5, 6] : List Int).length knownL = (-1, 0) from k_odd] at CK1
  clear O5
  replace hbw5 := Lib.hid hbw5
  refine CK1.out.mono ?_
  rintro _ w6 ⟨hb6, rfl⟩
  clear CK1
  have hbw6 := Lib.hid (hbw5.out.trans (hb6.mono hbw5.out.size))
  clear hb6 hbw5
  go_wp2_with fail
  have O6 := Blk.new w6 28 #[.int .i64 (-1), .int .i64 0]
  have hbv6 := hbw6.out.alloc hbw6.out.size (.cells #[.int .i64 (-1), .int .i64 0] 28)
  refine (wrote_b _).mono ?_
  rintro _ w7 ⟨hb7, ov7, rfl, hS7, ho7⟩
  have O7 := O6.below hb7 O6.lt
  have hbw7 := hbv6.trans (hb7.mono hbv6.size)
  have I7 := Lib.hid (BH _ _ _ _ _ 1 (OpIn.wrote (w := w) (F1.out.below hbw7) hS7))
  rw [w_beh1] at I7
  have n7 : w6.heap.size < w7.heap.size := O7.lt
  clear hb7 hS7 ho7 O6 hbv6 hbw6
  replace O7 := Lib.hid O7
  replace hbw7 := Lib.hid hbw7
  replace n7 := Lib.hid n7
  go_wp2_with fail
  refine I7.out.mono ?_
  rintro _ w8 ⟨hb8, ov8, rfl, hW8, ho8⟩
  clear I7
  have O8 := Lib.hid ((O7.out.below hb8 n7.out).alloc (.cells #[.int .i64 (-1), .int .i64 0] 28))
  have P8 := Lib.hid (Blk.new w8 28 #[.int .i64 (-1), .int .i64 0])
  have W8 := Lib.hid (hW8.alloc (.cells #[.int .i64 (-1), .int .i64 0] 28))
  have hbw8 := hbw7.out.trans (hb8.mono hbw7.out.size)
  have hbv8 := Lib.hid (hbw8.alloc hbw8.size (.cells #[.int .i64 (-1), .int .i64 0] 28))
  clear hb8 hbw8 hW8 ho8 O7 hbw7
  go_wp2_with fail
  refine (wrote_b _).mono ?_
  rintro _ w9 ⟨hb9, ov9, rfl, hS9, ho9⟩
  have O9 := Lib.hid (O8.out.below hb9 O8.out.lt)
  have P9 := Lib.hid (P8.out.below hb9 P8.out.lt)
  have W9 := Lib.hid (W8.out.keep (w' := w9) fun k hk => hb9.block k (W8.out.lt k hk))
  have hbw9 := hbv8.out.trans (hb9.mono hbv8.out.size)
  have I9 := Lib.hid (BH _ _ _ _ _ 2 (OpIn.wrote (w := w) (F1.out.below hbw9) hS9))
  rw [w_beh2] at I9
  clear hb9 hS9 ho9 O8 P8 W8 hbv8
  replace hbw9 := Lib.hid hbw9
  go_wp2_with fail
  refine I9.out.mono ?_
  rintro _ wa ⟨hba, ova, rfl, hWa, hoa⟩
  clear I9
  have Oa := Lib.hid ((O9.out.below hba O9.out.lt).alloc (.cells #[.int .i64 (-1), .int .i64 2] 28))
  have Pa := Lib.hid ((P9.out.below hba P9.out.lt).alloc (.cells #[.int .i64 (-1), .int .i64 2] 28))
  have Qa := Lib.hid (Blk.new wa 28 #[.int .i64 (-1), .int .i64 2])
  have Wa := Lib.hid ((W9.out.keep (w' := wa) fun k hk => hba.block k (W9.out.lt k hk)).alloc (.cells #[.int .i64 (-1), .int .i64 2] 28))
  have hbwa := hbw9.out.trans (hba.mono hbw9.out.size)
  have hbva := Lib.hid (hbwa.alloc hbwa.size (.cells #[.int .i64 (-1), .int .i64 2] 28))
  clear hba hbwa hWa hoa O9 P9 W9 hbw9
  go_wp2_with fail
  refine (wrote_b _).mono ?_
  rintro _ wb ⟨hbb, ovb, rfl, hSb, hob⟩
  have Ob := Lib.hid (Oa.out.below hbb Oa.out.lt)
  have Pb := Lib.hid (Pa.out.below hbb Pa.out.lt)
  have Qb := Lib.hid (Qa.out.below hbb Qa.out.lt)
  have Wb := Lib.hid (Wa.out.keep (w' := wb) fun k hk => hbb.block k (Wa.out.lt k hk))
  have hbwb := hbva.out.trans (hbb.mono hbva.out.size)
  have Ib := Lib.hid (CK _ _ _ _ _ (OpIn.wrote (w := w) (F1.out.below hbwb) hSb))
  rw [w_chk, show seeOdd ([5, 6] : List Int).length wroteL = (-1, 0) from w_odd] at Ib
  clear hbb hSb hob Oa Pa Qa Wa hbva
  replace hbwb := Lib.hid hbwb
  go_wp2_with fail
  refine Ib.out.mono ?_
  rintro _ wc ⟨hbc, rfl⟩
  clear Ib
  obtain ⟨wd, hwd⟩ : ∃ wd, wd = wc.alloc (.cells #[.int .i64 (-1), .int .i64 0] 28) := ⟨_, rfl⟩
  have Od : Blk wd w6.heap.size 28 #[.int .i64 (-1), .int .i64 0] := by rw [hwd]; exact (Ob.out.below hbc Ob.out.lt).alloc _
  have Pd : Blk wd w8.heap.size 28 #[.int .i64 (-1), .int .i64 0] := by rw [hwd]; exact (Pb.out.below hbc Pb.out.lt).alloc _
  have Qd : Blk wd wa.heap.size 28 #[.int .i64 (-1), .int .i64 2] := by rw [hwd]; exact (Qb.out.below hbc Qb.out.lt).alloc _
  have Wd : Wl wd ov8 [7, 8] := by rw [hwd]; exact (Wb.out.keep (w' := wc) fun k hk => hbc.block k (Wb.out.lt k hk)).alloc _
  have hbwd : Below w.heap.size w wd := by
    have h := hbwb.out.trans (hbc.mono hbwb.out.size)
    have h2 := hb1.out.trans ((h.alloc h.size (.cells #[.int .i64 (-1), .int .i64 0] 28)).mono hb1.out.size)
    rw [hwd]
    exact h2
  have L1 := Wd.lies.alloc (.cells #[.int .u64 7, .int .u64 8] 35)
  have L2 : Lies (wd.alloc (.cells #[.int .u64 7, .int .u64 8] 35)) (.slice (some ⟨wd.heap.size, 0, none⟩) 2 2) [7, 8] := Lies.new wd [7, 8] (by decide)
  have C1 := Lib.hid (words_b L1 L2 (by decide))
  rw [show decide (([7, 8] : List Int) = [7, 8]) = true from rfl] at C1
  have a0 := (Od.cell 0).trans (show _ = some (.int .i64 (-1)) from rfl)
  have a1 := (Od.cell 1).trans (show _ = some (.int .i64 0) from rfl)
  have b0 := (Pd.cell 0).trans (show _ = some (.int .i64 (-1)) from rfl)
  have b1 := (Pd.cell 1).trans (show _ = some (.int .i64 0) from rfl)
  have Qd1 := Qd.alloc (.cells #[.int .u64 7, .int .u64 8] 35)
  have d0 := fun n => (show (((wd.alloc (.cells #[.int .u64 7, .int .u64 8] 35)).drewN n).cell? ⟨wa.heap.size, 0, none⟩ = some (.int .i64 (-1))) from (Qd1.cell 0).trans rfl)
  have d1 := fun n => (show (((wd.alloc (.cells #[.int .u64 7, .int .u64 8] 35)).drewN n).cell? ⟨wa.heap.size, 1, none⟩ = some (.int .i64 2)) from (Qd1.cell 1).trans rfl)
  have e0 := fun W => odd_eql (-1) 0 (-1) 0 W
  have e2 := fun W => odd_eql (-1) 2 (-1) 2 W
  simp only [decide_true, Bool.and_self] at e0 e2
  clear hbc Ob Pb Qb Wb hbwb L1 L2 Od Pd Qd Qd1 Wd
  subst hwd
  rw [World.size_alloc] at C1
  replace hbwd := Lib.hid hbwd
  replace d0 := Lib.hid d0
  replace d1 := Lib.hid d1
  go_wp2_with fail
  refine C1.out.mono ?_
  rintro _ we ⟨⟨n9, rfl⟩, rfl⟩
  have d0' := d0.out n9
  have d1' := d1.out n9
  clear d0 d1 C1
  go_wp2
  go_ret
  exact ⟨rfl, below_drewNs (hbwd.out.alloc hbwd.out.size _) _⟩
end Go.Proofs.Ytloiadhdkgkjkaa
