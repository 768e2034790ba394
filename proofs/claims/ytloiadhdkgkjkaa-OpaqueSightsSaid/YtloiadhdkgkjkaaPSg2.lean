/- The document's known history: what the law's closed sentences say of it. -/
import Derived.Test.YtloiadhdkgkjkaaOpG
import Derived.Test.YtloiadhdkgkjkaaMixH
import Derived.Test.YtloiadhdkgkjkaaEvW
import Derived.Outline
import Derived.Test.YtloiadhdkgkjkaaEvA
import Derived.Test.YtloiadhdkgkjkaaPSg1
namespace Go.Proofs.Ytloiadhdkgkjkaa
open Go.RowKit
set_option maxHeartbeats 4000000
set_option linter.unusedVariables false
set_option linter.unusedSimpArgs false
def wroteL : List Ev := [⟨0, 1, 0, 0, false, 0⟩, ⟨0, 3, 0, 7, false, 0⟩, ⟨0, 3, 1, 8, false, 0⟩, ⟨0, 5, 0, 0, false, 0⟩, ⟨0, 6, 0, 1, false, 0⟩]
def knownL : List Ev := [⟨1, 1, 0, 0, false, 0⟩] ++ wroteL ++ [⟨1, 2, 0, 7, false, 0⟩, ⟨1, 2, 1, 6, false, 0⟩]
theorem k_odd : seeOdd 2 knownL = (-1, 0) := by kernel_rfl
theorem w_odd : seeOdd 2 wroteL = (-1, 0) := by kernel_rfl
theorem k_chk : chkA [5, 6] knownL = 0 := by kernel_rfl
theorem w_chk : chkA [5, 6] wroteL = -1 := by kernel_rfl
theorem w_beh1 : behA [5, 6] wroteL 1 = ((-1, 0), [7, 8]) := by kernel_rfl
theorem w_beh2 : behA [5, 6] wroteL 2 = ((-1, 2), []) := by kernel_rfl
theorem wrote_b (w : World) : Calls Try.prog 36 #[] w fun x w' => Below w.heap.size w w' ∧ ∃ ov, x = .returned ov ∧ Sl 61 6 encV w' ov wroteL ∧ ∀ q, own ov q → w.heap.size ≤ q := by
  go_enter Try.func36, Try.ntmps36
  go_wp2
  go_ret
  refine ⟨(Below.refl _ _).alloc (Nat.le_refl _) _, _, rfl, Sl.new encV_len w wroteL (by decide), ?_⟩
  intro q hq
  have e : w.heap.size = q := by simpa [own, Value.ownBlock] using hq
  omega
theorem Sl.liesV {w : World} {v : Value} {l : List Ev} (h : Sl 61 6 encV w v l) (hwf : ∀ e ∈ l, EvWf e) (hsz : l.length * 48 ≤ 140737488351232 + 48) : LiesV w v l := by
  obtain ⟨A, cp, rfl, hc⟩ := h.shape
  refine ⟨A, cp, rfl, hc, ?_, hwf, hsz, fun j hj => ?_⟩
  · intro hA
    subst hA
    rcases h.2 with ⟨h1, _⟩ | ⟨g, off, cap, cur, h1, _⟩
    · injection h1
    · injection h1 with h1
      cases h1
  · obtain ⟨g, o, rfl, hlt, hc⟩ := h.cell encV_len (by omega) hj
    refine ⟨g, o, rfl, hlt, fun c h6 => ?_⟩
    have := (hc j hj c h6).1
    rw [Nat.add_assoc]
    exact this
theorem LiesV.src {w : World} {v : Value} {l : List Ev} (h : LiesV w v l) : Src w v l.length 6 (l.flatMap encV) := by
  obtain ⟨A, cp, rfl, hc, h0, -, -, h⟩ := h
  cases A with
  | none =>
    obtain rfl := h0 rfl
    obtain rfl : l = [] := List.eq_nil_of_length_eq_zero (by omega)
    exact .inl ⟨rfl, rfl, rfl⟩
  | some ad =>
    refine .inr ⟨ad, cp, rfl, flat_len encV_len l, fun j u hj => ?_, fun u hu => ?_⟩
    · have hjl : j < l.length * 6 := by rw [← flat_len encV_len l]; exact (List.getElem?_eq_some_iff.1 hj).1
      obtain ⟨q, r, hr, rfl⟩ : ∃ q r, r < 6 ∧ j = q * 6 + r := ⟨j / 6, j % 6, Nat.mod_lt _ (by omega), by omega⟩
      have hq : q < l.length := by omega
      obtain ⟨g, o, e, hlt, hcell⟩ := h q hq
      injection e with e
      subst e
      rw [Addr.add_lit, ← Nat.add_assoc, hcell r hr, ← hj, flat_get encV_len l q r hq hr]
    · obtain ⟨x, _, hx⟩ := List.mem_flatMap.1 hu
      exact encV_one x u hx
theorem wpList_evs {ops : Array Oper} {rest : List Oper} {o : Oper} {a : Act} {Q : Exit → Act → World → Prop} (wr : World) (hgd : o.guard = none) (s x : Operand)
    (ho : o.op = .call { callee := .builtin .append, args := #[s, x], argTypes := #[23, 23] })
    (v u : Value) (l m : List Ev) (hs : a.eval s = v) (hl : Sl 61 6 encV wr v l) (hx : a.eval x = u) (hm : Src wr u m.length 6 (m.flatMap encV)) (hb1 : l.length + m.length ≤ 9223372036854775807) (hlen : (l.length + m.length) * 48 ≤ 140737488355328)
    (h : ∀ A cap w', l.length + m.length ≤ cap → Sl 61 6 encV w' (.slice A (l.length + m.length) cap) (l ++ m) → Fr (own v) wr (own (.slice A (l.length + m.length) cap)) w' → wpList Try.prog ops Q rest (a.put o.dst (.slice A (l.length + m.length) cap)) w') :
    wpList Try.prog ops Q (o :: rest) a wr :=
  wpList_all (enc := encV) wr hgd s x 23 ho Try.underlying23 event_info rfl (by decide) v u l m hs hl hx hm hb1 hlen h
theorem wpList_evsN {ops : Array Oper} {rest : List Oper} {o : Oper} {a : Act} {Q : Exit → Act → World → Prop} (n : Nat) (wr : World) (hgd : o.guard = none) (s x : Operand)
    (ho : o.op = .call { callee := .builtin .append, args := #[s, x], argTypes := #[23, 23] })
    (v u : Value) (l m k : List Ev) (hs : a.eval s = v) (hl : Sl 61 6 encV wr v l) (hx : a.eval x = u) (hm : Src wr u m.length 6 (m.flatMap encV)) (hn : l.length + m.length = n) (hk : l ++ m = k) (hb1 : n ≤ 9223372036854775807) (hlen : n * 48 ≤ 140737488355328)
    (h : ∀ A cap w', n ≤ cap → Sl 61 6 encV w' (.slice A n cap) k → Fr (own v) wr (own (.slice A n cap)) w' → wpList Try.prog ops Q rest (a.put o.dst (.slice A n cap)) w') :
    wpList Try.prog ops Q (o :: rest) a wr := by
  subst hn hk
  exact wpList_evs wr hgd s x ho v u l m hs hl hx hm hb1 hlen h
instance (e : Ev) : Decidable (EvWf e) := by unfold EvWf; infer_instance
theorem wrote_wf : ∀ e ∈ wroteL, EvWf e := by decide
theorem known_wf : ∀ e ∈ knownL, EvWf e := by decide
theorem odd_equal (a b c d : Int) (w : World) : (Op.equalIn 10000 28 (.agg #[.int .i64 a, .int .i64 b]) (.agg #[.int .i64 c, .int .i64 d])).run Try.prog w = .ok (decide (a = c) && decide (b = d)) w := by
  have h1 : Try.prog.underlying 28 = some _ := Try.underlying28
  have hi : ∀ (t : TypeId) (n m : Int) (k : IntKind) (d : Nat), Try.prog.underlying t = some (TypeDesc.int k) → (Op.equalIn (d + 1) t (.int k n) (.int k m)).run Try.prog w = .ok (n == m) w := fun t n m k d ht => run_equalIn_int w d t k k n m ht
  have hsi : Try.prog.stoodInHeld 28 = false := by kernel_rfl
  have u1 : Try.prog.underlying 3 = some _ := Try.underlying3
  have u5 : Try.prog.underlying 26 = some _ := Try.underlying26
  have c1 : Try.prog.cellsOf 3 = 1 := by kernel_rfl
  have c5 : Try.prog.cellsOf 26 = 1 := by kernel_rfl
  have hd : 10000 = 9998 + 1 + 1 := rfl
  rw [hd]
  generalize 9998 = e at *
  rw [Op.equalIn]
  simp [run_underlying h1, part, hi, u1, u5, c1, c5, hsi, sizeOf, typeInfo]
  by_cases k0 : a = c <;> simp [k0]
  by_cases k1 : b = d <;> simp [k1]
theorem odd_eql (a b c d : Int) (w : World) : (binOp .eql 28 (.agg #[.int .i64 a, .int .i64 b]) (.agg #[.int .i64 c, .int .i64 d])).run Try.prog w = .ok (.bool (decide (a = c) && decide (b = d))) w := by
  rw [run_eql_struct (P := Try.prog) w 28 #[.int .i64 a, .int .i64 b] #[.int .i64 c, .int .i64 d], odd_equal]
  rfl
theorem odd_neq (a b c d : Int) (w : World) : (binOp .neq 28 (.agg #[.int .i64 a, .int .i64 b]) (.agg #[.int .i64 c, .int .i64 d])).run Try.prog w = .ok (.bool (!(decide (a = c) && decide (b = d)))) w := by
  rw [run_neq_struct (P := Try.prog) w 28 #[.int .i64 a, .int .i64 b] #[.int .i64 c, .int .i64 d], odd_equal]
  rfl
/-- wrote, in a world that a call has come to. -/
theorem OpIn.wrote {w w' : World} {Fv : Value} {ov : Value} (hf : Lies w' Fv [5, 6]) (h : Sl 61 6 encV w' ov wroteL) : OpIn w' Fv ov [5, 6] wroteL :=
  ⟨hf, h.liesV wrote_wf (by decide), wrote_wf, by decide, by decide, by decide⟩
set_option maxRecDepth 100000 in
theorem known_b (CK : CheckC) (BH : BehindC) (w : World) : Calls Try.prog 14 #[] w fun x w' => x = .returned (.bool true) ∧ Below w.heap.size w w' := by
  obtain ⟨w1, hw1⟩ : ∃ w1, w1 = w.alloc (.cells #[.int .u64 5, .int .u64 6] 35) := ⟨_, rfl⟩
  have z1 : w1.heap.size = w.heap.size + 1 := by rw [hw1]; simp
  obtain ⟨w2, hw2⟩ : ∃ w2, w2 = w1.alloc (.cells #[.int .i64 1, .int .i64 1, .int .u64 0, .int .u64 0, .bool false, .int .i64 0] 61) := ⟨_, rfl⟩
  have F1 : Lies w1 (.slice (some ⟨w.heap.size, 0, none⟩) 2 2) [5, 6] := by rw [hw1]; exact Lies.new w [5, 6] (by decide)
  have H2 : Sl 61 6 encV w2 (.slice (some ⟨w.heap.size + 1, 0, none⟩) 1 1) [⟨1, 1, 0, 0, false, 0⟩] := by
    rw [← z1, hw2]
    exact Sl.new (e := 61) encV_len w1 [⟨1, 1, 0, 0, false, 0⟩] (by decide)
  have hb1 : Below w.heap.size w w1 := by rw [hw1]; exact (Below.refl _ _).alloc (Nat.le_refl _) _
  have hb2 : Below w1.heap.size w1 w2 := by rw [hw2]; exact (Below.refl _ _).alloc (Nat.le_refl _) _
  have h2l : ∀ q, own (.slice (some ⟨w.heap.size + 1, 0, none⟩) 1 1) q → w1.heap.size ≤ q := fun q hq => by
    have e : w.heap.size + 1 = q := by simpa [own, Value.ownBlock] using hq
    omega
  rw [hw1] at hw2
  replace hw2 := Lib.hid hw2
  replace hw1 := Lib.hid hw1
  replace h2l := Lib.hid h2l
  replace z1 := Lib.hid z1
  go_enter Try.func14, Try.ntmps14
  go_wp2_with fail
  rw [← hw2.out]
  refine (wrote_b w2).mono ?_
  rintro _ w3 ⟨hb3, ov3, rfl, hS3, ho3⟩
  obtain ⟨A3, c3, rfl⟩ : ∃ A c, ov3 = .slice A 5 c := (show ∃ A c, ov3 = .slice A 5 c from by obtain ⟨A, c, h, _⟩ := hS3.shape; exact ⟨A, c, h⟩)
  have H3 := H2.keep (w' := w3) fun k hk => hb3.block k (H2.lt k hk)
  have hbw3 := Lib.hid (hb2.trans (hb3.mono hb2.size))
  have W3 := hS3.src encV_one
  clear H2 hb3 hb2 hS3
  replace hb1 := Lib.hid hb1
  replace F1 := Lib.hid F1
  clear ho3
  go_wp2_with (at_builtin; first | (refine wpList_evsN 6 w3 rfl (.tmp 13) (.tmp 14) rfl _ _ _ wroteL ([⟨1, 1, 0, 0, false, 0⟩] ++ wroteL) rfl H3 rfl W3 rfl rfl (by decide) (by decide) ?_; intro A4 c4 w4 hc4 H4 f4; have W4 := (Sl.new (e := 61) encV_len w4 [⟨1, 2, 0, 7, false, 0⟩, ⟨1, 2, 1, 6, false, 0⟩] (by decide)).src encV_one) | (refine wpList_evsN 8 (w4.alloc _) rfl (.tmp 16) (.tmp 19) rfl _ _ _ _ knownL rfl (H4.alloc _) rfl W4 rfl rfl (by decide) (by decide) ?_; intro A5 c5 w5 hc5 H5 f5))
  have hbw5 : Below w1.heap.size w1 w5 := by
    have h4 : Below w1.heap.size w1 w4 := hbw3.out.trans (f4.below h2l.out hbw3.out.size)
    have h4' : ∀ q, own (.slice A4 6 c4) q → w1.heap.size ≤ q := f4.ge h2l.out hbw3.out.size
    exact (h4.alloc h4.size _).trans (f5.below h4' (h4.alloc h4.size _).size)
  have O5 : OpIn w5 (.slice (some ⟨w.heap.size, 0, none⟩) 2 2) (.slice A5 8 c5) [5, 6] knownL := ⟨F1.out.below hbw5, H5.liesV known_wf (by decide), known_wf, by decide, by decide, by decide⟩
  clear H5 f5 f4 H4 W4 W3 H3 hc4 hc5 hbw3
  have CK1 := Lib.hid (CK _ _ _ _ _ O5)
  rw [k_chk, show seeOdd ([5, 6] : List Int).length knownL = (-1, 0) from k_odd] at CK1
  clear O5
  replace hbw5 := Lib.hid hbw5
  refine CK1.out.mono ?_
  rintro _ w6 ⟨hb6, rfl⟩
  clear CK1
  have hbw6 := Lib.hid (hbw5.out.trans (hb6.mono hbw5.out.size))
  clear hb6 hbw5
  go_wp2_with fail
  have O6 := Blk.new w6 28 #[.int .i64 (-1), .int .i64 0]
  have hbv6 := hbw6.out.alloc hbw6.out.size (.cells #[.int .i64 (-1), .int .i64 0] 28)
  refine (wrote_b _).mono ?_
  rintro _ w7 ⟨hb7, ov7, rfl, hS7, ho7⟩
  have O7 := O6.below hb7 O6.lt
  have hbw7 := hbv6.trans (hb7.mono hbv6.size)
  have I7 := Lib.hid (BH _ _ _ _ _ 1 (OpIn.wrote (w := w) (F1.out.below hbw7) hS7))
  rw [w_beh1] at I7
  have n7 : w6.heap.size < w7.heap.size := O7.lt
  clear hb7 hS7 ho7 O6 hbv6 hbw6
  replace O7 := Lib.hid O7
  replace hbw7 := Lib.hid hbw7
  replace n7 := Lib.hid n7
  go_wp2_with fail
  refine I7.out.mono ?_
  rintro _ w8 ⟨hb8, ov8, rfl, hW8, ho8⟩
  clear I7
  have O8 := Lib.hid ((O7.out.below hb8 n7.out).alloc (.cells #[.int .i64 (-1), .int .i64 0] 28))
  have P8 := Lib.hid (Blk.new w8 28 #[.int .i64 (-1), .int .i64 0])
  have W8 := Lib.hid (hW8.alloc (.cells #[.int .i64 (-1), .int .i64 0] 28))
  have hbw8 := hbw7.out.trans (hb8.mono hbw7.out.size)
  have hbv8 := Lib.hid (hbw8.alloc hbw8.size (.cells #[.int .i64 (-1), .int .i64 0] 28))
  clear hb8 hbw8 hW8 ho8 O7 hbw7
  go_wp2_with fail
  refine (wrote_b _).mono ?_
  rintro _ w9 ⟨hb9, ov9, rfl, hS9, ho9⟩
  have O9 := Lib.hid (O8.out.below hb9 O8.out.lt)
  have P9 := Lib.hid (P8.out.below hb9 P8.out.lt)
  have W9 := Lib.hid (W8.out.keep (w' := w9) fun k hk => hb9.block k (W8.out.lt k hk))
  have hbw9 := hbv8.out.trans (hb9.mono hbv8.out.size)
  have I9 := Lib.hid (BH _ _ _ _ _ 2 (OpIn.wrote (w := w) (F1.out.below hbw9) hS9))
  rw [w_beh2] at I9
  clear hb9 hS9 ho9 O8 P8 W8 hbv8
  replace hbw9 := Lib.hid hbw9
  go_wp2_with fail
  refine I9.out.mono ?_
  rintro _ wa ⟨hba, ova, rfl, hWa, hoa⟩
  clear I9
  have Oa := Lib.hid ((O9.out.below hba O9.out.lt).alloc (.cells #[.int .i64 (-1), .int .i64 2] 28))
  have Pa := Lib.hid ((P9.out.below hba P9.out.lt).alloc (.cells #[.int .i64 (-1), .int .i64 2] 28))
  have Qa := Lib.hid (Blk.new wa 28 #[.int .i64 (-1), .int .i64 2])
  have Wa := Lib.hid ((W9.out.keep (w' := wa) fun k hk => hba.block k (W9.out.lt k hk)).alloc (.cells #[.int .i64 (-1), .int .i64 2] 28))
  have hbwa := hbw9.out.trans (hba.mono hbw9.out.size)
  have hbva := Lib.hid (hbwa.alloc hbwa.size (.cells #[.int .i64 (-1), .int .i64 2] 28))
  clear hba hbwa hWa hoa O9 P9 W9 hbw9
  go_wp2_with fail
  refine (wrote_b _).mono ?_
  rintro _ wb ⟨hbb, ovb, rfl, hSb, hob⟩
  have Ob := Lib.hid (Oa.out.below hbb Oa.out.lt)
  have Pb := Lib.hid (Pa.out.below hbb Pa.out.lt)
  have Qb := Lib.hid (Qa.out.below hbb Qa.out.lt)
  have Wb := Lib.hid (Wa.out.keep (w' := wb) fun k hk => hbb.block k (Wa.out.lt k hk))
  have hbwb := hbva.out.trans (hbb.mono hbva.out.size)
  have Ib := Lib.hid (CK _ _ _ _ _ (OpIn.wrote (w := w) (F1.out.below hbwb) hSb))
  rw [w_chk, show seeOdd ([5, 6] : List Int).length wroteL = (-1, 0) from w_odd] at Ib
  clear hbb hSb hob Oa Pa Qa Wa hbva
  replace hbwb := Lib.hid hbwb
  go_wp2_with fail
  refine Ib.out.mono ?_
  rintro _ wc ⟨hbc, rfl⟩
  clear Ib
  obtain ⟨wd, hwd⟩ : ∃ wd, wd = wc.alloc (.cells #[.int .i64 (-1), .int .i64 0] 28) := ⟨_, rfl⟩
  have Od : Blk wd w6.heap.size 28 #[.int .i64 (-1), .int .i64 0] := by rw [hwd]; exact (Ob.out.below hbc Ob.out.lt).alloc _
  have Pd : Blk wd w8.heap.size 28 #[.int .i64 (-1), .int .i64 0] := by rw [hwd]; exact (Pb.out.below hbc Pb.out.lt).alloc _
  have Qd : Blk wd wa.heap.size 28 #[.int .i64 (-1), .int .i64 2] := by rw [hwd]; exact (Qb.out.below hbc Qb.out.lt).alloc _
  have Wd : Wl wd ov8 [7, 8] := by rw [hwd]; exact (Wb.out.keep (w' := wc) fun k hk => hbc.block k (Wb.out.lt k hk)).alloc _
  have hbwd : Below w.heap.size w wd := by
    have h := hbwb.out.trans (hbc.mono hbwb.out.size)
    have h2 := hb1.out.trans ((h.alloc h.size (.cells #[.int .i64 (-1), .int .i64 0] 28)).mono hb1.out.size)
    rw [hwd]
    exact h2
  have L1 := Wd.lies.alloc (.cells #[.int .u64 7, .int .u64 8] 35)
  have L2 : Lies (wd.alloc (.cells #[.int .u64 7, .int .u64 8] 35)) (.slice (some ⟨wd.heap.size, 0, none⟩) 2 2) [7, 8] := Lies.new wd [7, 8] (by decide)
  have C1 := Lib.hid (words_b L1 L2 (by decide))
  rw [show decide (([7, 8] : List Int) = [7, 8]) = true from rfl] at C1
  have a0 := (Od.cell 0).trans (show _ = some (.int .i64 (-1)) from rfl)
  have a1 := (Od.cell 1).trans (show _ = some (.int .i64 0) from rfl)
  have b0 := (Pd.cell 0).trans (show _ = some (.int .i64 (-1)) from rfl)
  have b1 := (Pd.cell 1).trans (show _ = some (.int .i64 0) from rfl)
  have Qd1 := Qd.alloc (.cells #[.int .u64 7, .int .u64 8] 35)
  have d0 := fun n => (show (((wd.alloc (.cells #[.int .u64 7, .int .u64 8] 35)).drewN n).cell? ⟨wa.heap.size, 0, none⟩ = some (.int .i64 (-1))) from (Qd1.cell 0).trans rfl)
  have d1 := fun n => (show (((wd.alloc (.cells #[.int .u64 7, .int .u64 8] 35)).drewN n).cell? ⟨wa.heap.size, 1, none⟩ = some (.int .i64 2)) from (Qd1.cell 1).trans rfl)
  have e0 := fun W => odd_eql (-1) 0 (-1) 0 W
  have e2 := fun W => odd_eql (-1) 2 (-1) 2 W
  simp only [decide_true, Bool.and_self] at e0 e2
  clear hbc Ob Pb Qb Wb hbwb L1 L2 Od Pd Qd Qd1 Wd
  subst hwd
  rw [World.size_alloc] at C1
  replace hbwd := Lib.hid hbwd
  replace d0 := Lib.hid d0
  replace d1 := Lib.hid d1
  go_wp2_with fail
  refine C1.out.mono ?_
  rintro _ we ⟨⟨n9, rfl⟩, rfl⟩
  have d0' := d0.out n9
  have d1' := d1.out n9
  clear d0 d1 C1
  go_wp2
  go_ret
  exact ⟨rfl, below_drewNs (hbwd.out.alloc hbwd.out.size _) _⟩
end Go.Proofs.Ytloiadhdkgkjkaa
/- The document's world in memory; what is locked, what is said of numbers, of Writes, by contract. -/
namespace Go.Proofs.Ytloiadhdkgkjkaa
open Go.RowKit
set_option maxHeartbeats 40000000
set_option linter.unusedVariables false
set_option linter.unusedSimpArgs false
def gR (s : St) (wv : Nat → Value) (i : Nat) : Value := if i = 24 then .int .u64 s.num else if i % 3 = 0 then .int .i64 (s.th (i / 3)).how else if i % 3 = 1 then .int .u64 (s.th (i / 3)).sn else wv (i / 3)
section
variable {s : St} {wv : Nat → Value} {t : Nat}
theorem gR_how (ht : t < 8) : gR s wv (t * 3) = .int .i64 (s.th t).how := by
  unfold gR
  rw [if_neg (by omega), if_pos (by omega), show t * 3 / 3 = t by omega]
theorem gR_sn (ht : t < 8) : gR s wv (t * 3 + 1) = .int .u64 (s.th t).sn := by
  unfold gR
  rw [if_neg (by omega), if_neg (by omega), if_pos (by omega), show (t * 3 + 1) / 3 = t by omega]
theorem gR_ws (ht : t < 8) : gR s wv (t * 3 + 2) = wv t := by
  unfold gR
  rw [if_neg (by omega), if_neg (by omega), if_neg (by omega), show (t * 3 + 2) / 3 = t by omega]
theorem gR_num : gR s wv 24 = .int .u64 s.num := rfl
end
/-- The document's world stands in block b. -/
structure RefW (B : Nat) (w : World) (b : Nat) (s : St) (wv : Nat → Value) : Prop where
  blk : Blk w b 131 (ofF 25 (gR s wv))
  ws : ∀ t, t < 8 → Sl 45 2 encC w (wv t) (s.th t).ws
  apart : ∀ t t', t < 8 → t' < 8 → t ≠ t' → ∀ k, own (wv t) k → ¬ own (wv t') k
  geb : B ≤ b
  get : ∀ t, t < 8 → ∀ k, own (wv t) k → B ≤ k
theorem RefW.keep {B : Nat} {w w' : World} {b : Nat} {s : St} {wv : Nat → Value} (h : RefW B w b s wv) (hk : ∀ k, B ≤ k → k < w.heap.size → w'.heap[k]? = w.heap[k]?) : RefW B w' b s wv where
  blk := (hk b h.geb h.blk.lt).trans h.blk
  ws := fun t ht => (h.ws t ht).keep fun k hk' => hk k (h.get t ht k hk') ((h.ws t ht).lt k hk')
  apart := h.apart
  geb := h.geb
  get := h.get
theorem RefW.below {B : Nat} {w w' : World} {b : Nat} {s : St} {wv : Nat → Value} (h : RefW B w b s wv) (hb : Below w.heap.size w w') : RefW B w' b s wv := h.keep fun k _ hk => hb.block k hk
theorem RefW.alloc {B : Nat} {w : World} {b : Nat} {s : St} {wv : Nat → Value} (h : RefW B w b s wv) (o : Obj) : RefW B (w.alloc o) b s wv := h.below ((Below.refl _ _).alloc (Nat.le_refl _) _)
theorem RefW.drewN {B : Nat} {w : World} {b : Nat} {s : St} {wv : Nat → Value} (h : RefW B w b s wv) (n : Nat) : RefW B (w.drewN n) b s wv := ⟨h.blk, h.ws, h.apart, h.geb, h.get⟩
/-- Does another thread hold the lock? -/
def lkR (s : St) (th : Int) : Bool := (List.range 8).any fun i => decide ((i : Int) ≠ th) && decide ((s.th i).how = 2)
set_option maxRecDepth 100000 in
theorem rlocked_b {B b : Nat} {w : World} {s : St} {wv : Nat → Value} (h : RefW B w b s wv) (th : Int) :
    Calls Try.prog 77 #[.pointer (some ⟨b, 0, none⟩), .int .i64 th] w fun x w' => x = .returned (.bool (lkR s th)) ∧ w' = w := by
  have hB := Lib.hid h.blk
  clear h
  go_enter Try.func77, Try.ntmps77
  go_wp2
  go_loopg [5] 8 (fun gk c5 wr => ∃ j : Nat, gk + j = 8 ∧ c5 = .int .i64 (j : Int) ∧ wr = w ∧ ∀ i, i < j → (decide ((i : Int) ≠ th) && decide ((s.th i).how = 2)) = false)
  case atStart => exact ⟨0, rfl, rfl, rfl, fun i hi => by omega⟩
  case round =>
    obtain ⟨j, hj, rfl, rfl, hall⟩ := hrel
    replace hall := Lib.hid hall
    rcases Nat.lt_or_ge j 8 with hlt | hge
    · have c0 := (hB.out.fcell (i := j * 3) (by omega)).trans (congrArg some (gR_how hlt))
      have hj8 : (j : Int) < 8 := by omega
      by_cases he : (j : Int) = th
      · have he1 : ((j : Int) != th) = false := by simpa using he
        replace he := Lib.hid he
        go_wp2
        obtain ⟨k, rfl⟩ : ∃ k, gk = k + 1 := ⟨gk - 1, by omega⟩
        go_roundg k
        case measure => omega
        case rel =>
          refine ⟨j + 1, by omega, by simp, rfl, fun i hi => ?_⟩
          by_cases hij : i = j
          · subst hij; simp [he.out]
          · exact hall.out i (by omega)
      · have he1 : ((j : Int) != th) = true := by simpa using he
        by_cases h2 : (s.th j).how = 2
        · have h21 : (((s.th j).how : Int) == 2) = true := by simp [h2]
          go_wp2
          go_ret
          refine ⟨ret_bool ?_, rfl⟩
          unfold lkR
          symm
          rw [List.any_eq_true]
          exact ⟨j, by simpa using hlt, by simp [he, h2]⟩
        · have h21 : (((s.th j).how : Int) == 2) = false := by simp; omega
          go_wp2
          obtain ⟨k, rfl⟩ : ∃ k, gk = k + 1 := ⟨gk - 1, by omega⟩
          go_roundg k
          case measure => omega
          case rel =>
            refine ⟨j + 1, by omega, by simp, rfl, fun i hi => ?_⟩
            by_cases hij : i = j
            · subst hij; simp [h2]
            · exact hall.out i (by omega)
    · have hj8 : ¬ (j : Int) < 8 := by omega
      go_wp2
      go_ret
      refine ⟨ret_bool ?_, rfl⟩
      unfold lkR
      symm
      rw [List.any_eq_false]
      intro i hi
      rw [List.mem_range] at hi
      simpa using hall.out i (by omega)
end Go.Proofs.Ytloiadhdkgkjkaa
/- The document's world: what is said of words and numbers, of Writes, by contract. -/
namespace Go.Proofs.Ytloiadhdkgkjkaa
open Go.RowKit
set_option maxHeartbeats 40000000
set_option linter.unusedVariables false
set_option linter.unusedSimpArgs false
set_option maxRecDepth 100000 in
theorem rnumber_b {B b : Nat} {w : World} {s : St} {wv : Nat → Value} (h : RefW B w b s wv) {t : Nat} (ht : t < 8) (e : Ev) (hn0 : 0 ≤ s.num) (hn1 : s.num ≤ 4611686018427387904) (hs0 : 0 ≤ (s.th t).sn) (hs1 : (s.th t).sn ≤ 18446744073709551615) :
    Calls Try.prog 78 #[.pointer (some ⟨b, 0, none⟩), .pointer (some ⟨b, t * 3, none⟩), evV e] w fun x w' => x = .returned (.bool (wordOk (s.th t) s.num e)) ∧ Below w.heap.size w w' := by
  obtain ⟨th, kd, ad, wd, ow, er⟩ := e
  have hb1 := Lib.hid ((Below.refl w.heap.size w).alloc (Nat.le_refl _) (.cells #[.int .i64 th, .int .i64 kd, .int .u64 ad, .int .u64 wd, .bool ow, .int .i64 er] 61))
  have hB := h.blk.alloc (.cells #[.int .i64 th, .int .i64 kd, .int .u64 ad, .int .u64 wd, .bool ow, .int .i64 er] 61)
  have c0 := (hB.fcell (i := t * 3) (by omega)).trans (congrArg some (gR_how ht))
  have c1 := (hB.fcell (i := t * 3 + 1) (by omega)).trans (congrArg some (gR_sn ht))
  have c2 := (hB.fcell (i := 24) (by omega)).trans (congrArg some gR_num)
  have w1 := IntWalk.u64_in (n := 2 * s.num) (by omega)
  have w2 := IntWalk.u64_in (n := s.num + 1) (by omega)
  have w3 : (s.th t).sn.tdiv 2 = (s.th t).sn / 2 := Int.tdiv_eq_ediv_of_nonneg hs0
  have w4 := IntWalk.u64_in (n := (s.th t).sn / 2) (by omega)
  unfold evV
  dsimp only
  clear h hB
  unfold wordOk
  dsimp only
  generalize s.num = nm at *
  generalize (s.th t).sn = sn at *
  by_cases h1 : kd = 1
  · subst h1
    go_enter Try.func78, Try.ntmps78
    go_wp2
    go_quiet (fail)
    go_wp2
    go_ret
    exact ⟨by simp, below_drewNs hb1.out _⟩
  have f1 : (kd == 1) = false := by simpa using h1
  by_cases h4 : kd = 4
  · subst h4
    by_cases hx : wd = 2 * nm
    · have hx1 : (wd == 2 * nm) = true := by simpa using hx
      replace hx := Lib.hid hx
      go_enter Try.func78, Try.ntmps78
      go_wp2
      go_quiet (fail)
      go_wp2
      go_ret
      exact ⟨ret_bool (by simp [hx.out]), below_drewNs hb1.out _⟩
    · have hx1 : (wd == 2 * nm) = false := by simpa using hx
      replace hx := Lib.hid hx
      go_enter Try.func78, Try.ntmps78
      go_wp2
      go_quiet (fail)
      go_wp2
      go_ret
      exact ⟨ret_bool (by simp [hx.out]), below_drewNs hb1.out _⟩
  have f4 : (kd == 4) = false := by simpa using h4
  by_cases h5 : kd = 5
  · subst h5
    go_enter Try.func78, Try.ntmps78
    go_wp2
    go_quiet (fail)
    go_wp2
    go_ret
    exact ⟨by simp, below_drewNs hb1.out _⟩
  have f5 : (kd == 5) = false := by simpa using h5
  by_cases h6 : kd = 6
  · subst h6
    by_cases hx : (s.th t).how = 2
    · have hx1 : (((s.th t).how : Int) == 2) = true := by simp [hx]
      replace hx := Lib.hid hx
      go_enter Try.func78, Try.ntmps78
      go_wp2
      go_quiet (fail)
      go_wp2
      go_ret
      exact ⟨by simp [hx.out], below_drewNs hb1.out _⟩
    · have hx1 : (((s.th t).how : Int) == 2) = false := by simp; omega
      replace hx := Lib.hid hx
      go_enter Try.func78, Try.ntmps78
      go_wp2
      go_quiet (fail)
      go_wp2
      go_ret
      exact ⟨by simp [hx.out], below_drewNs hb1.out _⟩
  have f6 : (kd == 6) = false := by simpa using h6
  go_enter Try.func78, Try.ntmps78
  go_wp2
  go_ret
  exact ⟨by simp [h1, h4, h5, h6], hb1.out⟩
theorem written_take {l : List (Int × Int)} {a : Int} {j : Nat} (hj : j < l.length) : written (l.take (j + 1)) a = if (l[j]'hj).1 = a then some (l[j]'hj).2 else written (l.take j) a := by
  rw [List.take_add_one, List.getElem?_eq_getElem hj]
  simp only [Option.toList_some]
  exact written_snoc _ _ _
set_option maxRecDepth 100000 in
theorem rwritten_b {w : World} {v : Value} {l : List (Int × Int)} (hv : Sl 45 2 encC w v l) (hl : l.length ≤ 9223372036854775807) (a : Int) :
    Calls Try.prog 88 #[v, .int .u64 a] w fun x w' => x = .returned (.tuple #[.int .u64 ((written l a).getD 0), .bool (written l a).isSome]) ∧ w' = w := by
  obtain ⟨A, cap, rfl, hc⟩ := hv.shape
  have w0 := IntWalk.i64_in (n := (l.length : Int) - 1) (by omega)
  have hlen : (l.length : Int) ≤ 9223372036854775807 := by omega
  go_enter Try.func88, Try.ntmps88
  go_wp2
  go_loopg [6] l.length (fun gk c6 wr => gk ≤ l.length ∧ c6 = .int .i64 ((gk : Int) - 1) ∧ wr = w ∧ written (l.take gk) a = written l a)
  case atStart => exact ⟨Nat.le_refl _, by simp, rfl, by rw [List.take_length]⟩
  case round =>
    obtain ⟨hj, rfl, rfl, hw⟩ := hrel
    cases gk with
    | zero =>
      rw [List.take_zero, written_nil] at hw
      replace hw := Lib.hid hw
      go_wp2
      refine bodyPost_ret (v := .tuple #[.int .u64 0, .bool false]) (by simp [results, Try.results88, go_sem]) rfl ⟨by rw [← hw.out]; rfl, rfl⟩
    | succ k =>
      have hk : k < l.length := by omega
      obtain ⟨g, o, e, hlt, hcl⟩ := hv.cell encC_len (by omega) hk
      subst e
      have d0 := (hcl k hk 0 (by omega)).1
      have d1 := (hcl k hk 1 (by omega)).1
      rw [written_take hk] at hw
      generalize l[k] = p at *
      obtain ⟨p1, p2⟩ := p
      simp only [encC, List.getElem?_cons_zero, List.getElem?_cons_succ, Nat.add_zero] at d0 d1
      rw [← Nat.add_assoc] at d1
      dsimp only at hw
      have e1 : (((k + 1 : Nat) : Int) - 1) = (k : Int) := by omega
      rw [e1]
      have hk0 : (0 : Int) ≤ (k : Int) := by omega
      have hk1 : (k : Int) < (l.length : Int) := by omega
      have w1 := IntWalk.i64_in (n := (k : Int) - 1) (by omega)
      clear hcl e1 w0
      by_cases hp : p1 = a
      · have hp1 : (p1 == a) = true := by simpa using hp
        rw [if_pos hp] at hw
        replace hw := Lib.hid hw
        replace hp := Lib.hid hp
        go_wp2
        refine bodyPost_ret (v := .tuple #[.int .u64 p2, .bool true]) (by simp [results, Try.results88, go_sem]) rfl ⟨by rw [← hw.out]; rfl, rfl⟩
      · have hp1 : (p1 == a) = false := by simpa using hp
        rw [if_neg hp] at hw
        replace hw := Lib.hid hw
        replace hp := Lib.hid hp
        go_wp2
        go_roundg k
        case measure => omega
        case rel => exact ⟨by omega, by simp, rfl, hw.out⟩
end Go.Proofs.Ytloiadhdkgkjkaa
/- The document's world: is what is said of Writes so? by contract. -/
namespace Go.Proofs.Ytloiadhdkgkjkaa
open Go.RowKit
set_option maxHeartbeats 40000000
set_option linter.unusedVariables false
set_option linter.unusedSimpArgs false
set_option maxRecDepth 100000 in
theorem rown_b {B b : Nat} {w : World} {s : St} {wv : Nat → Value} (h : RefW B w b s wv) {t : Nat} (ht : t < 8) (hl : (s.th t).ws.length ≤ 9223372036854775807) (e : Ev) :
    Calls Try.prog 79 #[.pointer (some ⟨b, t * 3, none⟩), evV e] w fun x w' => x = .returned (.bool (ownOk (s.th t) e)) ∧ Below w.heap.size w w' := by
  obtain ⟨th, kd, ad, wd, ow, er⟩ := e
  have hb1 := Lib.hid ((Below.refl w.heap.size w).alloc (Nat.le_refl _) (.cells #[.int .i64 th, .int .i64 kd, .int .u64 ad, .int .u64 wd, .bool ow, .int .i64 er] 61))
  have hB := h.blk.alloc (.cells #[.int .i64 th, .int .i64 kd, .int .u64 ad, .int .u64 wd, .bool ow, .int .i64 er] 61)
  have hS := (h.ws t ht).alloc (.cells #[.int .i64 th, .int .i64 kd, .int .u64 ad, .int .u64 wd, .bool ow, .int .i64 er] 61)
  have hE := Blk.new w 61 #[.int .i64 th, .int .i64 kd, .int .u64 ad, .int .u64 wd, .bool ow, .int .i64 er]
  have c0 := (hB.fcell (i := t * 3) (by omega)).trans (congrArg some (gR_how ht))
  have c2 := (hB.fcell (i := t * 3 + 2) (by omega)).trans (congrArg some (gR_ws ht))
  obtain ⟨A, cap, hwv, hc⟩ := (h.ws t ht).shape
  rw [hwv] at c2 hS
  clear hwv h hB
  have CW := Lib.hid (fun n => rwritten_b (hS.drewN n) hl ad)
  clear hS
  unfold evV
  dsimp only
  obtain ⟨r, hr⟩ : ∃ r, ownOk (s.th t) ⟨th, kd, ad, wd, ow, er⟩ = r := ⟨_, rfl⟩
  rw [hr]
  unfold ownOk at hr
  dsimp only at hr
  generalize (s.th t).ws = l at *
  generalize (s.th t).how = how at *
  replace hr := Lib.hid hr
  by_cases h2 : kd = 2
  · subst h2
    obtain ⟨ok, hok⟩ : ∃ ok, (written l ad).isSome = ok := ⟨_, rfl⟩
    obtain ⟨x, hx⟩ : ∃ x, (written l ad).getD 0 = x := ⟨_, rfl⟩
    rw [hok, hx] at CW
    have fin : r = (ok == ow && (!ok || x == wd)) := by
      rw [← hr.out, if_pos rfl, ← hok, ← hx]
      cases written l ad with
      | none => cases ow <;> simp
      | some y => cases ow <;> simp
    replace fin := Lib.hid fin
    have e3 := Lib.hid (fun n m => (show ((((w.alloc (.cells #[.int .i64 th, .int .i64 2, .int .u64 ad, .int .u64 wd, .bool ow, .int .i64 er] 61)).drewN n).drewN m).cell? ⟨w.heap.size, 3, none⟩ = some (.int .u64 wd)) from (hE.cell 3).trans rfl))
    have e4 := Lib.hid (fun n m => (show ((((w.alloc (.cells #[.int .i64 th, .int .i64 2, .int .u64 ad, .int .u64 wd, .bool ow, .int .i64 er] 61)).drewN n).drewN m).cell? ⟨w.heap.size, 4, none⟩ = some (.bool ow)) from (hE.cell 4).trans rfl))
    clear hE
    go_enter Try.func79, Try.ntmps79
    go_wp2
    refine wp_region_mixH (fun _ => True) [3, 3, 3, 1, 3, 1, 2, 3, 3, 3, 3, 3] (List.range 12) (by kernel_rfl) (by kernel_rfl) (fun _ _ h => h) trivial ?_
    (repeat ((first | refine wpMixH_pure rfl rfl (fun K hK => ?_) | refine wpMixH_loc rfl rfl (fun K hK => ?_) | refine wpMixH_any rfl rfl (fun K hK => ?_)); go_simp; refine hK _ _ ?_; clear hK K))
    refine wpMixH_loud rfl rfl (fun n1 K hK => ?_)
    go_wp2_with fail
    refine (CW.out _).mono ?_
    rintro _ _ ⟨rfl, rfl⟩
    go_wp2
    refine hK _ _ (fun _ => trivial) ?_; clear hK K
    (repeat ((first | refine wpMixH_pure rfl rfl (fun K hK => ?_) | refine wpMixH_loc rfl rfl (fun K hK => ?_) | refine wpMixH_any rfl rfl (fun K hK => ?_)); go_simp; refine hK _ _ ?_; clear hK K))
    refine wpMixH_nil (fun n2 => ?_)
    have e3 := e3.out (1 + n1) n2
    have e4 := e4.out (1 + n1) n2
    replace hok := Lib.hid hok
    replace hx := Lib.hid hx
    cases ok
    · cases ow
      · go_wp2
        go_ret
        exact ⟨ret_bool fin.out.symm, below_drewNs hb1.out _⟩
      · go_wp2
        go_ret
        exact ⟨ret_bool fin.out.symm, below_drewNs hb1.out _⟩
    · cases ow
      · go_wp2
        go_ret
        exact ⟨ret_bool fin.out.symm, below_drewNs hb1.out _⟩
      · go_wp2
        go_ret
        exact ⟨ret_bool fin.out.symm, below_drewNs hb1.out _⟩
  have f2 : (kd == 2) = false := by simpa using h2
  by_cases h5 : kd = 5
  · subst h5
    go_enter Try.func79, Try.ntmps79
    go_wp2
    go_ret
    refine ⟨ret_bool ?_, hb1.out⟩
    rw [← hr.out]
    cases l <;> simp <;> omega
  have f5 : (kd == 5) = false := by simpa using h5
  by_cases h6 : kd = 6
  · subst h6
    by_cases hx : how = 2
    · subst hx
      go_enter Try.func79, Try.ntmps79
      go_wp2
      go_ret
      exact ⟨by rw [← hr.out]; simp, hb1.out⟩
    · have hx1 : ((how : Int) == 2) = false := by simp; omega
      go_enter Try.func79, Try.ntmps79
      go_wp2
      go_ret
      refine ⟨ret_bool ?_, hb1.out⟩
      rw [← hr.out]
      cases l <;> simp [hx] <;> omega
  have f6 : (kd == 6) = false := by simpa using h6
  go_enter Try.func79, Try.ntmps79
  go_wp2
  go_ret
  exact ⟨by rw [← hr.out]; simp [h2, h5, h6], hb1.out⟩
end Go.Proofs.Ytloiadhdkgkjkaa
/- The document's histories: is an event in form? by contract. -/
namespace Go.Proofs.Ytloiadhdkgkjkaa
open Go.RowKit
set_option maxHeartbeats 4000000
set_option linter.unusedVariables false
set_option linter.unusedSimpArgs false
theorem rpair_b (k : Int) (w : World) : Calls Try.prog 86 #[.int .i64 k] w fun x w' => x = .returned (.bool (pairK k)) ∧ w' = w := by
  by_cases h2 : k = 2
  · subst h2
    go_enter Try.func86, Try.ntmps86
    go_wp2
    go_ret
    exact ⟨rfl, rfl⟩
  by_cases h3 : k = 3
  · subst h3
    go_enter Try.func86, Try.ntmps86
    go_wp2
    go_ret
    exact ⟨rfl, rfl⟩
  by_cases h10 : k = 10
  · subst h10
    go_enter Try.func86, Try.ntmps86
    go_wp2
    go_ret
    exact ⟨rfl, rfl⟩
  have k2 : (k == 2) = false := by simpa using h2
  have k3 : (k == 3) = false := by simpa using h3
  have k10 : (k == 10) = false := by simpa using h10
  go_enter Try.func86, Try.ntmps86
  go_wp2
  go_ret
  exact ⟨by simp [pairK, k2, k3, k10], rfl⟩
theorem rsingle_b (k : Int) (w : World) : Calls Try.prog 87 #[.int .i64 k] w fun x w' => x = .returned (.bool (singK k)) ∧ w' = w := by
  by_cases h2 : k = 1
  · subst h2
    go_enter Try.func87, Try.ntmps87
    go_wp2
    go_ret
    exact ⟨rfl, rfl⟩
  by_cases h3 : k = 4
  · subst h3
    go_enter Try.func87, Try.ntmps87
    go_wp2
    go_ret
    exact ⟨rfl, rfl⟩
  have k2 : (k == 1) = false := by simpa using h2
  have k3 : (k == 4) = false := by simpa using h3
  go_enter Try.func87, Try.ntmps87
  go_wp2
  go_ret
  exact ⟨by simp [singK, k2, k3], rfl⟩
set_option maxRecDepth 100000 in
theorem rformed_b (e : Ev) (w : World) (hw0 : 0 ≤ e.wd) :
    Calls Try.prog 75 #[evV e] w fun x w' => x = .returned (.bool (fmd e)) ∧ Below w.heap.size w w' := by
  obtain ⟨th, kd, ad, wd, ow, er⟩ := e
  dsimp only at hw0
  have hbel : Below w.heap.size w (w.alloc (.cells #[.int .i64 th, .int .i64 kd, .int .u64 ad, .int .u64 wd, .bool ow, .int .i64 er] 61)) := (Below.refl _ _).alloc (Nat.le_refl _) _
  unfold evV
  dsimp only
  have PB := Lib.hid rpair_b
  have SB := Lib.hid rsingle_b
  by_cases hth : th < 0
  · go_enter Try.func75, Try.ntmps75
    go_wp2
    go_ret
    exact ⟨by simp [fmd]; omega, (Below.refl _ _).alloc (Nat.le_refl _) _⟩
  by_cases hth8 : 8 ≤ th
  · go_enter Try.func75, Try.ntmps75
    go_wp2
    go_ret
    exact ⟨by simp [fmd]; omega, (Below.refl _ _).alloc (Nat.le_refl _) _⟩
  by_cases hk1 : kd < 1
  · go_enter Try.func75, Try.ntmps75
    go_wp2
    go_ret
    exact ⟨by simp [fmd]; omega, (Below.refl _ _).alloc (Nat.le_refl _) _⟩
  by_cases hk12 : 12 < kd
  · go_enter Try.func75, Try.ntmps75
    go_wp2
    go_ret
    exact ⟨by simp [fmd]; omega, (Below.refl _ _).alloc (Nat.le_refl _) _⟩
  have hk : kd = 1 ∨ kd = 2 ∨ kd = 3 ∨ kd = 4 ∨ kd = 5 ∨ kd = 6 ∨ kd = 7 ∨ kd = 8 ∨ kd = 9 ∨ kd = 10 ∨ kd = 11 ∨ kd = 12 := by omega
  rcases hk with rfl | rfl | rfl | rfl | rfl | rfl | rfl | rfl | rfl | rfl | rfl | rfl
  · have pk : pairK 1 = false := rfl
    have sk : singK 1 = true := rfl
    by_cases ha : ad = 0
    case neg =>
      have ha1 : (ad != 0) = true := by simpa using ha
      go_enter Try.func75, Try.ntmps75
      go_wp2_with fail
      refine (PB.out _ _).mono ?_
      rintro _ _ ⟨rfl, rfl⟩
      simp only [pk]
      go_wp2
      go_ret
      exact ⟨by simp [fmd, pairK, singK, ha], (Below.refl _ _).alloc (Nat.le_refl _) _⟩
    have ha1 : (ad != 0) = false := by simpa using ha
    cases ow
    case true =>
      go_enter Try.func75, Try.ntmps75
      go_wp2_with fail
      refine (PB.out _ _).mono ?_
      rintro _ _ ⟨rfl, rfl⟩
      simp only [pk]
      go_wp2_with fail
      refine (PB.out _ _).mono ?_
      rintro _ _ ⟨rfl, rfl⟩
      simp only [pk]
      go_wp2_with fail
      refine (SB.out _ _).mono ?_
      rintro _ _ ⟨rfl, rfl⟩
      simp only [sk]
      go_wp2
      go_ret
      exact ⟨by simp [fmd, pairK, singK], (Below.refl _ _).alloc (Nat.le_refl _) _⟩
    by_cases hm : wd % 2 = 0
    case neg =>
      have hm0 : wd.tmod 2 = wd % 2 := Int.tmod_eq_emod_of_nonneg hw0
      have hm1 : (wd.tmod 2 != 0) = true := by rw [hm0]; simpa using hm
      go_enter Try.func75, Try.ntmps75
      go_wp2_with fail
      refine (PB.out _ _).mono ?_
      rintro _ _ ⟨rfl, rfl⟩
      simp only [pk]
      go_wp2_with fail
      refine (PB.out _ _).mono ?_
      rintro _ _ ⟨rfl, rfl⟩
      simp only [pk]
      go_wp2_with fail
      refine (SB.out _ _).mono ?_
      rintro _ _ ⟨rfl, rfl⟩
      simp only [sk]
      go_wp2
      go_ret
      exact ⟨by simp [fmd, pairK, singK, hm], (Below.refl _ _).alloc (Nat.le_refl _) _⟩
    have hm0 : wd.tmod 2 = wd % 2 := Int.tmod_eq_emod_of_nonneg hw0
    have hm1 : (wd.tmod 2 != 0) = false := by rw [hm0]; simpa using hm
    go_enter Try.func75, Try.ntmps75
    go_wp2_with fail
    refine (PB.out _ _).mono ?_
    rintro _ _ ⟨rfl, rfl⟩
    simp only [pk]
    go_wp2_with fail
    refine (PB.out _ _).mono ?_
    rintro _ _ ⟨rfl, rfl⟩
    simp only [pk]
    go_wp2_with fail
    refine (SB.out _ _).mono ?_
    rintro _ _ ⟨rfl, rfl⟩
    simp only [sk]
    go_wp2
    go_ret
    exact ⟨ret_bool (by rw [Bool.eq_iff_iff]; simp [fmd, pairK, singK, ha, hm] <;> omega), (Below.refl _ _).alloc (Nat.le_refl _) _⟩
  · have pk : pairK 2 = true := rfl
    have sk : singK 2 = false := rfl
    go_enter Try.func75, Try.ntmps75
    go_wp2_with fail
    refine (PB.out _ _).mono ?_
    rintro _ _ ⟨rfl, rfl⟩
    simp only [pk]
    go_wp2_with fail
    refine (PB.out _ _).mono ?_
    rintro _ _ ⟨rfl, rfl⟩
    simp only [pk]
    go_wp2
    go_ret
    exact ⟨ret_bool (by rw [Bool.eq_iff_iff]; simp [fmd, pairK, singK] <;> omega), (Below.refl _ _).alloc (Nat.le_refl _) _⟩
  · have pk : pairK 3 = true := rfl
    have sk : singK 3 = false := rfl
    cases ow
    case true =>
      go_enter Try.func75, Try.ntmps75
      go_wp2_with fail
      refine (PB.out _ _).mono ?_
      rintro _ _ ⟨rfl, rfl⟩
      simp only [pk]
      go_wp2_with fail
      refine (PB.out _ _).mono ?_
      rintro _ _ ⟨rfl, rfl⟩
      simp only [pk]
      go_wp2
      go_ret
      exact ⟨by simp [fmd, pairK, singK], (Below.refl _ _).alloc (Nat.le_refl _) _⟩
    go_enter Try.func75, Try.ntmps75
    go_wp2_with fail
    refine (PB.out _ _).mono ?_
    rintro _ _ ⟨rfl, rfl⟩
    simp only [pk]
    go_wp2_with fail
    refine (PB.out _ _).mono ?_
    rintro _ _ ⟨rfl, rfl⟩
    simp only [pk]
    go_wp2
    go_ret
    exact ⟨ret_bool (by rw [Bool.eq_iff_iff]; simp [fmd, pairK, singK] <;> omega), (Below.refl _ _).alloc (Nat.le_refl _) _⟩
  · have pk : pairK 4 = false := rfl
    have sk : singK 4 = true := rfl
    by_cases ha : ad = 0
    case neg =>
      have ha1 : (ad != 0) = true := by simpa using ha
      go_enter Try.func75, Try.ntmps75
      go_wp2_with fail
      refine (PB.out _ _).mono ?_
      rintro _ _ ⟨rfl, rfl⟩
      simp only [pk]
      go_wp2
      go_ret
      exact ⟨by simp [fmd, pairK, singK, ha], (Below.refl _ _).alloc (Nat.le_refl _) _⟩
    have ha1 : (ad != 0) = false := by simpa using ha
    cases ow
    case true =>
      go_enter Try.func75, Try.ntmps75
      go_wp2_with fail
      refine (PB.out _ _).mono ?_
      rintro _ _ ⟨rfl, rfl⟩
      simp only [pk]
      go_wp2_with fail
      refine (PB.out _ _).mono ?_
      rintro _ _ ⟨rfl, rfl⟩
      simp only [pk]
      go_wp2_with fail
      refine (SB.out _ _).mono ?_
      rintro _ _ ⟨rfl, rfl⟩
      simp only [sk]
      go_wp2
      go_ret
      exact ⟨by simp [fmd, pairK, singK], (Below.refl _ _).alloc (Nat.le_refl _) _⟩
    by_cases hm : wd % 2 = 0
    case neg =>
      have hm0 : wd.tmod 2 = wd % 2 := Int.tmod_eq_emod_of_nonneg hw0
      have hm1 : (wd.tmod 2 != 0) = true := by rw [hm0]; simpa using hm
      go_enter Try.func75, Try.ntmps75
      go_wp2_with fail
      refine (PB.out _ _).mono ?_
      rintro _ _ ⟨rfl, rfl⟩
      simp only [pk]
      go_wp2_with fail
      refine (PB.out _ _).mono ?_
      rintro _ _ ⟨rfl, rfl⟩
      simp only [pk]
      go_wp2_with fail
      refine (SB.out _ _).mono ?_
      rintro _ _ ⟨rfl, rfl⟩
      simp only [sk]
      go_wp2
      go_ret
      exact ⟨by simp [fmd, pairK, singK, hm], (Below.refl _ _).alloc (Nat.le_refl _) _⟩
    have hm0 : wd.tmod 2 = wd % 2 := Int.tmod_eq_emod_of_nonneg hw0
    have hm1 : (wd.tmod 2 != 0) = false := by rw [hm0]; simpa using hm
    go_enter Try.func75, Try.ntmps75
    go_wp2_with fail
    refine (PB.out _ _).mono ?_
    rintro _ _ ⟨rfl, rfl⟩
    simp only [pk]
    go_wp2_with fail
    refine (PB.out _ _).mono ?_
    rintro _ _ ⟨rfl, rfl⟩
    simp only [pk]
    go_wp2_with fail
    refine (SB.out _ _).mono ?_
    rintro _ _ ⟨rfl, rfl⟩
    simp only [sk]
    go_wp2
    go_ret
    exact ⟨ret_bool (by rw [Bool.eq_iff_iff]; simp [fmd, pairK, singK, ha, hm] <;> omega), (Below.refl _ _).alloc (Nat.le_refl _) _⟩
  · have pk : pairK 5 = false := rfl
    have sk : singK 5 = false := rfl
    by_cases ha : ad = 0
    case neg =>
      have ha1 : (ad != 0) = true := by simpa using ha
      go_enter Try.func75, Try.ntmps75
      go_wp2_with fail
      refine (PB.out _ _).mono ?_
      rintro _ _ ⟨rfl, rfl⟩
      simp only [pk]
      go_wp2
      go_ret
      exact ⟨by simp [fmd, pairK, singK, ha], (Below.refl _ _).alloc (Nat.le_refl _) _⟩
    have ha1 : (ad != 0) = false := by simpa using ha
    by_cases hd : wd = 0
    case neg =>
      have hd1 : (wd != 0) = true := by simpa using hd
      go_enter Try.func75, Try.ntmps75
      go_wp2_with fail
      refine (PB.out _ _).mono ?_
      rintro _ _ ⟨rfl, rfl⟩
      simp only [pk]
      go_wp2_with fail
      refine (PB.out _ _).mono ?_
      rintro _ _ ⟨rfl, rfl⟩
      simp only [pk]
      go_wp2_with fail
      refine (SB.out _ _).mono ?_
      rintro _ _ ⟨rfl, rfl⟩
      simp only [sk]
      go_wp2
      go_ret
      exact ⟨by simp [fmd, pairK, singK, hd], (Below.refl _ _).alloc (Nat.le_refl _) _⟩
    have hd1 : (wd != 0) = false := by simpa using hd
    cases ow
    case true =>
      go_enter Try.func75, Try.ntmps75
      go_wp2_with fail
      refine (PB.out _ _).mono ?_
      rintro _ _ ⟨rfl, rfl⟩
      simp only [pk]
      go_wp2_with fail
      refine (PB.out _ _).mono ?_
      rintro _ _ ⟨rfl, rfl⟩
      simp only [pk]
      go_wp2_with fail
      refine (SB.out _ _).mono ?_
      rintro _ _ ⟨rfl, rfl⟩
      simp only [sk]
      go_wp2
      go_ret
      exact ⟨by simp [fmd, pairK, singK], (Below.refl _ _).alloc (Nat.le_refl _) _⟩
    go_enter Try.func75, Try.ntmps75
    go_wp2_with fail
    refine (PB.out _ _).mono ?_
    rintro _ _ ⟨rfl, rfl⟩
    simp only [pk]
    go_wp2_with fail
    refine (PB.out _ _).mono ?_
    rintro _ _ ⟨rfl, rfl⟩
    simp only [pk]
    go_wp2_with fail
    refine (SB.out _ _).mono ?_
    rintro _ _ ⟨rfl, rfl⟩
    simp only [sk]
    go_wp2
    go_ret
    exact ⟨ret_bool (by rw [Bool.eq_iff_iff]; simp [fmd, pairK, singK, ha, hd] <;> omega), (Below.refl _ _).alloc (Nat.le_refl _) _⟩
  · have pk : pairK 6 = false := rfl
    have sk : singK 6 = true := rfl
    by_cases ha : ad = 0
    case neg =>
      have ha1 : (ad != 0) = true := by simpa using ha
      go_enter Try.func75, Try.ntmps75
      go_wp2_with fail
      refine (PB.out _ _).mono ?_
      rintro _ _ ⟨rfl, rfl⟩
      simp only [pk]
      go_wp2
      go_ret
      exact ⟨by simp [fmd, pairK, singK, ha], (Below.refl _ _).alloc (Nat.le_refl _) _⟩
    have ha1 : (ad != 0) = false := by simpa using ha
    cases ow
    case true =>
      go_enter Try.func75, Try.ntmps75
      go_wp2_with fail
      refine (PB.out _ _).mono ?_
      rintro _ _ ⟨rfl, rfl⟩
      simp only [pk]
      go_wp2_with fail
      refine (PB.out _ _).mono ?_
      rintro _ _ ⟨rfl, rfl⟩
      simp only [pk]
      go_wp2_with fail
      refine (SB.out _ _).mono ?_
      rintro _ _ ⟨rfl, rfl⟩
      simp only [sk]
      go_wp2
      go_ret
      exact ⟨by simp [fmd, pairK, singK], (Below.refl _ _).alloc (Nat.le_refl _) _⟩
    go_enter Try.func75, Try.ntmps75
    go_wp2_with fail
    refine (PB.out _ _).mono ?_
    rintro _ _ ⟨rfl, rfl⟩
    simp only [pk]
    go_wp2_with fail
    refine (PB.out _ _).mono ?_
    rintro _ _ ⟨rfl, rfl⟩
    simp only [pk]
    go_wp2_with fail
    refine (SB.out _ _).mono ?_
    rintro _ _ ⟨rfl, rfl⟩
    simp only [sk]
    go_wp2
    go_ret
    exact ⟨ret_bool (by rw [Bool.eq_iff_iff]; simp [fmd, pairK, singK, ha] <;> omega), (Below.refl _ _).alloc (Nat.le_refl _) _⟩
  · have pk : pairK 7 = false := rfl
    have sk : singK 7 = false := rfl
    by_cases ha : ad = 0
    case neg =>
      have ha1 : (ad != 0) = true := by simpa using ha
      go_enter Try.func75, Try.ntmps75
      go_wp2_with fail
      refine (PB.out _ _).mono ?_
      rintro _ _ ⟨rfl, rfl⟩
      simp only [pk]
      go_wp2
      go_ret
      exact ⟨by simp [fmd, pairK, singK, ha], (Below.refl _ _).alloc (Nat.le_refl _) _⟩
    have ha1 : (ad != 0) = false := by simpa using ha
    by_cases hd : wd = 0
    case neg =>
      have hd1 : (wd != 0) = true := by simpa using hd
      go_enter Try.func75, Try.ntmps75
      go_wp2_with fail
      refine (PB.out _ _).mono ?_
      rintro _ _ ⟨rfl, rfl⟩
      simp only [pk]
      go_wp2_with fail
      refine (PB.out _ _).mono ?_
      rintro _ _ ⟨rfl, rfl⟩
      simp only [pk]
      go_wp2_with fail
      refine (SB.out _ _).mono ?_
      rintro _ _ ⟨rfl, rfl⟩
      simp only [sk]
      go_wp2
      go_ret
      exact ⟨by simp [fmd, pairK, singK, hd], (Below.refl _ _).alloc (Nat.le_refl _) _⟩
    have hd1 : (wd != 0) = false := by simpa using hd
    cases ow
    case true =>
      go_enter Try.func75, Try.ntmps75
      go_wp2_with fail
      refine (PB.out _ _).mono ?_
      rintro _ _ ⟨rfl, rfl⟩
      simp only [pk]
      go_wp2_with fail
      refine (PB.out _ _).mono ?_
      rintro _ _ ⟨rfl, rfl⟩
      simp only [pk]
      go_wp2_with fail
      refine (SB.out _ _).mono ?_
      rintro _ _ ⟨rfl, rfl⟩
      simp only [sk]
      go_wp2
      go_ret
      exact ⟨by simp [fmd, pairK, singK], (Below.refl _ _).alloc (Nat.le_refl _) _⟩
    go_enter Try.func75, Try.ntmps75
    go_wp2_with fail
    refine (PB.out _ _).mono ?_
    rintro _ _ ⟨rfl, rfl⟩
    simp only [pk]
    go_wp2_with fail
    refine (PB.out _ _).mono ?_
    rintro _ _ ⟨rfl, rfl⟩
    simp only [pk]
    go_wp2_with fail
    refine (SB.out _ _).mono ?_
    rintro _ _ ⟨rfl, rfl⟩
    simp only [sk]
    go_wp2
    go_ret
    exact ⟨ret_bool (by rw [Bool.eq_iff_iff]; simp [fmd, pairK, singK, ha, hd] <;> omega), (Below.refl _ _).alloc (Nat.le_refl _) _⟩
  · have pk : pairK 8 = false := rfl
    have sk : singK 8 = false := rfl
    by_cases ha : ad = 0
    case neg =>
      have ha1 : (ad != 0) = true := by simpa using ha
      go_enter Try.func75, Try.ntmps75
      go_wp2_with fail
      refine (PB.out _ _).mono ?_
      rintro _ _ ⟨rfl, rfl⟩
      simp only [pk]
      go_wp2
      go_ret
      exact ⟨by simp [fmd, pairK, singK, ha], (Below.refl _ _).alloc (Nat.le_refl _) _⟩
    have ha1 : (ad != 0) = false := by simpa using ha
    by_cases hd : wd = 0
    case neg =>
      have hd1 : (wd != 0) = true := by simpa using hd
      go_enter Try.func75, Try.ntmps75
      go_wp2_with fail
      refine (PB.out _ _).mono ?_
      rintro _ _ ⟨rfl, rfl⟩
      simp only [pk]
      go_wp2_with fail
      refine (PB.out _ _).mono ?_
      rintro _ _ ⟨rfl, rfl⟩
      simp only [pk]
      go_wp2_with fail
      refine (SB.out _ _).mono ?_
      rintro _ _ ⟨rfl, rfl⟩
      simp only [sk]
      go_wp2
      go_ret
      exact ⟨by simp [fmd, pairK, singK, hd], (Below.refl _ _).alloc (Nat.le_refl _) _⟩
    have hd1 : (wd != 0) = false := by simpa using hd
    cases ow
    case true =>
      go_enter Try.func75, Try.ntmps75
      go_wp2_with fail
      refine (PB.out _ _).mono ?_
      rintro _ _ ⟨rfl, rfl⟩
      simp only [pk]
      go_wp2_with fail
      refine (PB.out _ _).mono ?_
      rintro _ _ ⟨rfl, rfl⟩
      simp only [pk]
      go_wp2_with fail
      refine (SB.out _ _).mono ?_
      rintro _ _ ⟨rfl, rfl⟩
      simp only [sk]
      go_wp2
      go_ret
      exact ⟨by simp [fmd, pairK, singK], (Below.refl _ _).alloc (Nat.le_refl _) _⟩
    go_enter Try.func75, Try.ntmps75
    go_wp2_with fail
    refine (PB.out _ _).mono ?_
    rintro _ _ ⟨rfl, rfl⟩
    simp only [pk]
    go_wp2_with fail
    refine (PB.out _ _).mono ?_
    rintro _ _ ⟨rfl, rfl⟩
    simp only [pk]
    go_wp2_with fail
    refine (SB.out _ _).mono ?_
    rintro _ _ ⟨rfl, rfl⟩
    simp only [sk]
    go_wp2
    go_ret
    exact ⟨ret_bool (by rw [Bool.eq_iff_iff]; simp [fmd, pairK, singK, ha, hd] <;> omega), (Below.refl _ _).alloc (Nat.le_refl _) _⟩
  · have pk : pairK 9 = false := rfl
    have sk : singK 9 = false := rfl
    by_cases ha : ad = 0
    case neg =>
      have ha1 : (ad != 0) = true := by simpa using ha
      go_enter Try.func75, Try.ntmps75
      go_wp2_with fail
      refine (PB.out _ _).mono ?_
      rintro _ _ ⟨rfl, rfl⟩
      simp only [pk]
      go_wp2
      go_ret
      exact ⟨by simp [fmd, pairK, singK, ha], (Below.refl _ _).alloc (Nat.le_refl _) _⟩
    have ha1 : (ad != 0) = false := by simpa using ha
    by_cases hd : wd = 0
    case neg =>
      have hd1 : (wd != 0) = true := by simpa using hd
      go_enter Try.func75, Try.ntmps75
      go_wp2_with fail
      refine (PB.out _ _).mono ?_
      rintro _ _ ⟨rfl, rfl⟩
      simp only [pk]
      go_wp2_with fail
      refine (PB.out _ _).mono ?_
      rintro _ _ ⟨rfl, rfl⟩
      simp only [pk]
      go_wp2_with fail
      refine (SB.out _ _).mono ?_
      rintro _ _ ⟨rfl, rfl⟩
      simp only [sk]
      go_wp2
      go_ret
      exact ⟨by simp [fmd, pairK, singK, hd], (Below.refl _ _).alloc (Nat.le_refl _) _⟩
    have hd1 : (wd != 0) = false := by simpa using hd
    cases ow
    case true =>
      go_enter Try.func75, Try.ntmps75
      go_wp2_with fail
      refine (PB.out _ _).mono ?_
      rintro _ _ ⟨rfl, rfl⟩
      simp only [pk]
      go_wp2_with fail
      refine (PB.out _ _).mono ?_
      rintro _ _ ⟨rfl, rfl⟩
      simp only [pk]
      go_wp2_with fail
      refine (SB.out _ _).mono ?_
      rintro _ _ ⟨rfl, rfl⟩
      simp only [sk]
      go_wp2
      go_ret
      exact ⟨by simp [fmd, pairK, singK], (Below.refl _ _).alloc (Nat.le_refl _) _⟩
    by_cases h4 : er = 4
    case pos =>
      subst h4
      go_enter Try.func75, Try.ntmps75
      go_wp2_with fail
      refine (PB.out _ _).mono ?_
      rintro _ _ ⟨rfl, rfl⟩
      simp only [pk]
      go_wp2_with fail
      refine (PB.out _ _).mono ?_
      rintro _ _ ⟨rfl, rfl⟩
      simp only [pk]
      go_wp2_with fail
      refine (SB.out _ _).mono ?_
      rintro _ _ ⟨rfl, rfl⟩
      simp only [sk]
      go_wp2
      go_ret
      exact ⟨by simp [fmd, pairK, singK, ha, hd] <;> omega, (Below.refl _ _).alloc (Nat.le_refl _) _⟩
    have f4 : (er == 4) = false := by simpa using h4
    by_cases h5 : er = 5
    case pos =>
      subst h5
      go_enter Try.func75, Try.ntmps75
      go_wp2_with fail
      refine (PB.out _ _).mono ?_
      rintro _ _ ⟨rfl, rfl⟩
      simp only [pk]
      go_wp2_with fail
      refine (PB.out _ _).mono ?_
      rintro _ _ ⟨rfl, rfl⟩
      simp only [pk]
      go_wp2_with fail
      refine (SB.out _ _).mono ?_
      rintro _ _ ⟨rfl, rfl⟩
      simp only [sk]
      go_wp2
      go_ret
      exact ⟨by simp [fmd, pairK, singK, ha, hd] <;> omega, (Below.refl _ _).alloc (Nat.le_refl _) _⟩
    have f5 : (er == 5) = false := by simpa using h5
    by_cases h6 : er = 6
    case pos =>
      subst h6
      go_enter Try.func75, Try.ntmps75
      go_wp2_with fail
      refine (PB.out _ _).mono ?_
      rintro _ _ ⟨rfl, rfl⟩
      simp only [pk]
      go_wp2_with fail
      refine (PB.out _ _).mono ?_
      rintro _ _ ⟨rfl, rfl⟩
      simp only [pk]
      go_wp2_with fail
      refine (SB.out _ _).mono ?_
      rintro _ _ ⟨rfl, rfl⟩
      simp only [sk]
      go_wp2
      go_ret
      exact ⟨by simp [fmd, pairK, singK, ha, hd] <;> omega, (Below.refl _ _).alloc (Nat.le_refl _) _⟩
    have f6 : (er == 6) = false := by simpa using h6
    go_enter Try.func75, Try.ntmps75
    go_wp2_with fail
    refine (PB.out _ _).mono ?_
    rintro _ _ ⟨rfl, rfl⟩
    simp only [pk]
    go_wp2_with fail
    refine (PB.out _ _).mono ?_
    rintro _ _ ⟨rfl, rfl⟩
    simp only [pk]
    go_wp2_with fail
    refine (SB.out _ _).mono ?_
    rintro _ _ ⟨rfl, rfl⟩
    simp only [sk]
    go_wp2
    go_ret
    exact ⟨ret_bool (by rw [Bool.eq_iff_iff]; simp [fmd, pairK, singK, ha, hd]; omega), (Below.refl _ _).alloc (Nat.le_refl _) _⟩
  · have pk : pairK 10 = true := rfl
    have sk : singK 10 = false := rfl
    cases ow
    case true =>
      go_enter Try.func75, Try.ntmps75
      go_wp2_with fail
      refine (PB.out _ _).mono ?_
      rintro _ _ ⟨rfl, rfl⟩
      simp only [pk]
      go_wp2_with fail
      refine (PB.out _ _).mono ?_
      rintro _ _ ⟨rfl, rfl⟩
      simp only [pk]
      go_wp2
      go_ret
      exact ⟨by simp [fmd, pairK, singK], (Below.refl _ _).alloc (Nat.le_refl _) _⟩
    go_enter Try.func75, Try.ntmps75
    go_wp2_with fail
    refine (PB.out _ _).mono ?_
    rintro _ _ ⟨rfl, rfl⟩
    simp only [pk]
    go_wp2_with fail
    refine (PB.out _ _).mono ?_
    rintro _ _ ⟨rfl, rfl⟩
    simp only [pk]
    go_wp2
    go_ret
    exact ⟨ret_bool (by rw [Bool.eq_iff_iff]; simp [fmd, pairK, singK] <;> omega), (Below.refl _ _).alloc (Nat.le_refl _) _⟩
  · have pk : pairK 11 = true := rfl
    have sk : singK 11 = false := rfl
    cases ow
    case true =>
      go_enter Try.func75, Try.ntmps75
      go_wp2_with fail
      refine (PB.out _ _).mono ?_
      rintro _ _ ⟨rfl, rfl⟩
      simp only [pk]
      go_wp2_with fail
      refine (PB.out _ _).mono ?_
      rintro _ _ ⟨rfl, rfl⟩
      simp only [pk]
      go_wp2
      go_ret
      exact ⟨by simp [fmd, pairK, singK], (Below.refl _ _).alloc (Nat.le_refl _) _⟩
    go_enter Try.func75, Try.ntmps75
    go_wp2_with fail
    refine (PB.out _ _).mono ?_
    rintro _ _ ⟨rfl, rfl⟩
    simp only [pk]
    go_wp2_with fail
    refine (PB.out _ _).mono ?_
    rintro _ _ ⟨rfl, rfl⟩
    simp only [pk]
    go_wp2
    go_ret
    exact ⟨ret_bool (by rw [Bool.eq_iff_iff]; simp [fmd, pairK, singK] <;> omega), (Below.refl _ _).alloc (Nat.le_refl _) _⟩
  · have pk : pairK 12 = false := rfl
    have sk : singK 12 = false := rfl
    by_cases ha : ad = 0
    case neg =>
      have ha1 : (ad != 0) = true := by simpa using ha
      go_enter Try.func75, Try.ntmps75
      go_wp2_with fail
      refine (PB.out _ _).mono ?_
      rintro _ _ ⟨rfl, rfl⟩
      simp only [pk]
      go_wp2
      go_ret
      exact ⟨by simp [fmd, pairK, singK, ha], (Below.refl _ _).alloc (Nat.le_refl _) _⟩
    have ha1 : (ad != 0) = false := by simpa using ha
    by_cases hd : wd = 0
    case neg =>
      have hd1 : (wd != 0) = true := by simpa using hd
      go_enter Try.func75, Try.ntmps75
      go_wp2_with fail
      refine (PB.out _ _).mono ?_
      rintro _ _ ⟨rfl, rfl⟩
      simp only [pk]
      go_wp2_with fail
      refine (PB.out _ _).mono ?_
      rintro _ _ ⟨rfl, rfl⟩
      simp only [pk]
      go_wp2_with fail
      refine (SB.out _ _).mono ?_
      rintro _ _ ⟨rfl, rfl⟩
      simp only [sk]
      go_wp2
      go_ret
      exact ⟨by simp [fmd, pairK, singK, hd], (Below.refl _ _).alloc (Nat.le_refl _) _⟩
    have hd1 : (wd != 0) = false := by simpa using hd
    cases ow
    case true =>
      go_enter Try.func75, Try.ntmps75
      go_wp2_with fail
      refine (PB.out _ _).mono ?_
      rintro _ _ ⟨rfl, rfl⟩
      simp only [pk]
      go_wp2_with fail
      refine (PB.out _ _).mono ?_
      rintro _ _ ⟨rfl, rfl⟩
      simp only [pk]
      go_wp2_with fail
      refine (SB.out _ _).mono ?_
      rintro _ _ ⟨rfl, rfl⟩
      simp only [sk]
      go_wp2
      go_ret
      exact ⟨by simp [fmd, pairK, singK], (Below.refl _ _).alloc (Nat.le_refl _) _⟩
    go_enter Try.func75, Try.ntmps75
    go_wp2_with fail
    refine (PB.out _ _).mono ?_
    rintro _ _ ⟨rfl, rfl⟩
    simp only [pk]
    go_wp2_with fail
    refine (PB.out _ _).mono ?_
    rintro _ _ ⟨rfl, rfl⟩
    simp only [pk]
    go_wp2_with fail
    refine (SB.out _ _).mono ?_
    rintro _ _ ⟨rfl, rfl⟩
    simp only [sk]
    go_wp2
    go_ret
    exact ⟨ret_bool (by rw [Bool.eq_iff_iff]; simp [fmd, pairK, singK, ha, hd] <;> omega), (Below.refl _ _).alloc (Nat.le_refl _) _⟩
end Go.Proofs.Ytloiadhdkgkjkaa
