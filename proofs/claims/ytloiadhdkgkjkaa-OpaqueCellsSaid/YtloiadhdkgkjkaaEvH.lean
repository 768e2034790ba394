/- (*events.look).wrong by contract: kind by kind (printed by ev/mkwrong.py). -/
import Derived.Test.YtloiadhdkgkjkaaEvD
namespace Go.Proofs.Ytloiadhdkgkjkaa
open Go.RowKit
set_option maxHeartbeats 4000000
set_option linter.unusedVariables false
set_option linter.unusedSimpArgs false
section
variable {B b n : Nat} {w : World} {s : St} {m : Nat → Option Nat} {tv : Value}
set_option maxRecDepth 100000 in
theorem wrong_locked (h : LookW B w b s n m tv) (hs : StBd s n) (hn : n ≤ 1152921504606846976) {t : Nat} {ad wd er : Int} {ow : Bool} (ht : t < 8) (hhow : (s.th t).how = 1) (he : EvWf ⟨t, 5, ad, wd, ow, er⟩) (hf : fmd ⟨t, 5, ad, wd, ow, er⟩ = true) :
    Calls Try.prog 73 #[.pointer (some ⟨b, 0, none⟩), evV ⟨t, 5, ad, wd, ow, er⟩] w fun x w' => x = .returned (.int .i64 (wrong s ⟨t, 5, ad, wd, ow, er⟩)) ∧ Below w.heap.size w w' := by
  have HW : Hid (wrong s ⟨t, 5, ad, wd, ow, er⟩ = if 0 ≤ s.hold then 231 else if (s.th t).sn = 2 * s.num then (if (s.th t).ws = [] then 233 else 0) else 232) := Lib.hid (by
    unfold wrong wrg
    dsimp only
    rw [hf, Int.toNat_natCast, hhow]
    simp [tb, lockK, wordOk, ownOk, hhow])
  have C1 := Lib.hid (fun W => formed_b ⟨t, 5, ad, wd, ow, er⟩ W he.2.2.2.1.1 he.2.2.2.1.2)
  rw [hf] at C1
  have hb1 := Lib.hid ((Below.refl w.heap.size w).alloc (Nat.le_refl _) (.cells #[.int .i64 t, .int .i64 5, .int .u64 ad, .int .u64 wd, .bool ow, .int .i64 er] 61))
  have hB := Lib.hid (h.blk.alloc (.cells #[.int .i64 t, .int .i64 5, .int .u64 ad, .int .u64 wd, .bool ow, .int .i64 er] 61))
  have hE := Lib.hid (Blk.new w 61 #[.int .i64 t, .int .i64 5, .int .u64 ad, .int .u64 wd, .bool ow, .int .i64 er])
  have g0 := gL_tb (s := s) (m := m) (tv := tv) (h := 1) (k := 5) (by decide) (by decide)
  have g1 := gL_how (s := s) (m := m) (tv := tv) ht
  rw [hhow] at g1
  rw [show tb 1 ((5 : Nat) : Int) = 3 from by decide] at g0
  have g2 := gL_sn (s := s) (m := m) (tv := tv) ht
  have hsn := (hs.sn t).1
  have hsn1 := (hs.sn t).2
  generalize (s.th t).sn = sn at *
  have hsq : IntKind.u64.wrap (sn.tdiv 2) = sn / 2 := by rw [Int.tdiv_eq_ediv_of_nonneg hsn, IntKind.wrap_u64]; omega
  clear hsn1
  have g3 : gL s m tv 84 = .int .u64 s.num := rfl
  have hnum := hs.num
  generalize s.num = num at *
  have hw2 : IntKind.u64.wrap (2 * num) = 2 * num := by rw [IntKind.wrap_u64]; omega
  have hw3 : IntKind.u64.wrap (num + 1) = num + 1 := by rw [IntKind.wrap_u64]; omega
  have g4 : gL s m tv 85 = .int .i64 s.hold := rfl
  have hhold := hs.hold
  generalize s.hold = hold at *
  have g5 := gL_ws (s := s) (m := m) (tv := tv) ht
  obtain ⟨mb, hmb, _, hM⟩ := h.maps t ht (by unfold liveT; omega)
  rw [hmb] at g5
  generalize (s.th t).ws = ws at *
  replace hM := Lib.hid (hM.alloc (.cells #[.int .i64 t, .int .i64 5, .int .u64 ad, .int .u64 wd, .bool ow, .int .i64 er] 61))
  clear hmb
  unfold evV at *
  dsimp only at *
  clear hf he
  clear hn hnum
  go_enter Try.func73, Try.ntmps73
  go_wp2_with fail
  refine (C1.out _).mono ?_
  rintro _ w2 ⟨rfl, hb2⟩
  have hB2 := hB.out.below hb2 hB.out.lt
  have hE2 := hE.out.below hb2 hE.out.lt
  have hb3 := Lib.hid (hb1.out.trans (hb2.mono (by simp)))
  have c0 := (hB2.fcell (i := 52 + t * 4) (by omega)).trans (congrArg some g1)
  have c1 := (hB2.fcell (i := 18) (by omega)).trans (congrArg some g0)
  have c2 := (hB2.fcell (i := 52 + t * 4 + 1) (by omega)).trans (congrArg some g2)
  have c3 := (hB2.fcell (i := 84) (by omega)).trans (congrArg some g3)
  have c4 := (hB2.fcell (i := 85) (by omega)).trans (congrArg some g4)
  have c5 := (hB2.fcell (i := 52 + t * 4 + 2) (by omega)).trans (congrArg some g5)
  have hM2 := Lib.hid (hM.out.keep (hb2.block mb hM.out.lt))
  have e0 := hE2.cell 0
  have e1 := hE2.cell 1
  have e2 := hE2.cell 2
  have e3 := hE2.cell 3
  have e4 := hE2.cell 4
  have e5 := hE2.cell 5
  simp only [List.getElem?_toArray, List.getElem?_cons_zero, List.getElem?_cons_succ] at e0 e1 e2 e3 e4 e5
  have ht' : (t : Int) < 8 := by omega
  clear hb2 hB2 hE2 hB hE g0 g1 hb1 h hs hhow g2 g3 g4 g5 hM
  obtain ⟨ml, hlen0, -, hml⟩ := hM2.out.len (P := Try.prog) (t := 120) Try.underlying120 3
  have hlen : ∀ j, (Builtin.len_ #[120] 3 #[.map (some mb)]).run Try.prog (w2.drewN j) = .ok (.int .i64 ml) (w2.drewN j) := fun j => by
    obtain ⟨ml', h1, -, h2⟩ := Mp.len (P := Try.prog) (hM2.out.drewN j) (t := 120) Try.underlying120 3
    have e : ml' = ml := by
      obtain ⟨es, clock, g1, _⟩ := hM2.out
      have a1 := hlen0
      have a2 := h1
      simp [Builtin.len_, run_underlying Try.underlying120, MapKept.run_getObj_map g1, goInt, Result.andThen] at a1
      simp [Builtin.len_, run_underlying Try.underlying120, MapKept.run_getObj_map (w := w2.drewN j) g1, goInt, Result.andThen] at a2
      omega
    rw [← e]
    exact h1
  have hml2 : (ml = 0 ∧ ws = []) ∨ (0 < ml ∧ ws ≠ []) := by
    rcases Nat.eq_zero_or_pos ml with h0 | h0
    · exact .inl ⟨h0, written_none.1 fun a => by have := hml.1 h0 a; unfold wfun at this; simpa using this⟩
    · refine .inr ⟨h0, fun e => ?_⟩
      have := hml.2 fun k => by rw [e]; rfl
      omega
  clear hlen0 hml
  go_wp2
  refine wp_region_mixH (fun _ => True) [3, 3, 1, 3, 3, 3, 3] (List.range 7) (by kernel_rfl) (by kernel_rfl) (fun _ _ h => h) trivial ?_; (repeat (first | ((first | refine wpMixH_pure rfl rfl (fun K hK => ?_) | refine wpMixH_loc rfl rfl (fun K hK => ?_) | refine wpMixH_any rfl rfl (fun K hK => ?_)); go_simp; refine hK _ _ ?_; clear hK K) | (refine wpMixH_skip rfl (by go_simp) (fun K hK => ?_); go_simp; refine hK _ _ ?_; clear hK K) | fail)); refine wpMixH_nil (fun n1 => ?_)
  go_wp2
  refine wp_region_mixH (fun _ => True) [3, 3, 3, 3, 1, 3, 1, 3, 3, 3, 3, 1, 3, 3, 3, 3, 3, 1, 3, 3, 3, 1, 3, 3, 3, 3, 1, 3, 3, 3] (List.range 30) (by kernel_rfl) (by kernel_rfl) (fun _ _ h => h) trivial ?_; (repeat (first | ((first | refine wpMixH_pure rfl rfl (fun K hK => ?_) | refine wpMixH_loc rfl rfl (fun K hK => ?_) | refine wpMixH_any rfl rfl (fun K hK => ?_)); go_simp; refine hK _ _ ?_; clear hK K) | (refine wpMixH_skip rfl (by go_simp) (fun K hK => ?_); go_simp; refine hK _ _ ?_; clear hK K) | fail)); refine wpMixH_nil (fun n2 => ?_)
  go_wp2
  refine wp_region_mixH (fun _ => True) [3, 3, 3, 1, 3, 3, 3, 1, 3, 3, 3, 3, 3, 1, 1, 3, 3, 3] (List.range 18) (by kernel_rfl) (by kernel_rfl) (fun _ _ h => h) trivial ?_; (repeat (first | ((first | refine wpMixH_pure rfl rfl (fun K hK => ?_) | refine wpMixH_loc rfl rfl (fun K hK => ?_) | refine wpMixH_any rfl rfl (fun K hK => ?_)); go_simp; refine hK _ _ ?_; clear hK K) | (refine wpMixH_skip rfl (by go_simp) (fun K hK => ?_); go_simp; refine hK _ _ ?_; clear hK K) | fail)); refine wpMixH_nil (fun n3 => ?_)
  go_wp2
  all_goals
    go_ret
    exact ⟨ret_int (by rw [HW.out]; ((repeat' split) <;> first | rfl | omega | (simp_all; done) | (simp_all; omega))), (by first | exact below_drewNs hb3.out _ | exact below_drewNs (below_drewNs hb3.out _) _)⟩
set_option maxRecDepth 100000 in
theorem wrong_commit1 (h : LookW B w b s n m tv) (hs : StBd s n) (hn : n ≤ 1152921504606846976) {t : Nat} {ad wd er : Int} {ow : Bool} (ht : t < 8) (hhow : (s.th t).how = 1) (he : EvWf ⟨t, 6, ad, wd, ow, er⟩) (hf : fmd ⟨t, 6, ad, wd, ow, er⟩ = true) :
    Calls Try.prog 73 #[.pointer (some ⟨b, 0, none⟩), evV ⟨t, 6, ad, wd, ow, er⟩] w fun x w' => x = .returned (.int .i64 (wrong s ⟨t, 6, ad, wd, ow, er⟩)) ∧ Below w.heap.size w w' := by
  have HW : Hid (wrong s ⟨t, 6, ad, wd, ow, er⟩ = if wd = (s.th t).sn / 2 then (if (s.th t).ws = [] then 0 else 233) else 232) := Lib.hid (by
    unfold wrong wrg
    dsimp only
    rw [hf, Int.toNat_natCast, hhow]
    simp [tb, lockK, wordOk, ownOk, hhow])
  have C1 := Lib.hid (fun W => formed_b ⟨t, 6, ad, wd, ow, er⟩ W he.2.2.2.1.1 he.2.2.2.1.2)
  rw [hf] at C1
  have hb1 := Lib.hid ((Below.refl w.heap.size w).alloc (Nat.le_refl _) (.cells #[.int .i64 t, .int .i64 6, .int .u64 ad, .int .u64 wd, .bool ow, .int .i64 er] 61))
  have hB := Lib.hid (h.blk.alloc (.cells #[.int .i64 t, .int .i64 6, .int .u64 ad, .int .u64 wd, .bool ow, .int .i64 er] 61))
  have hE := Lib.hid (Blk.new w 61 #[.int .i64 t, .int .i64 6, .int .u64 ad, .int .u64 wd, .bool ow, .int .i64 er])
  have g0 := gL_tb (s := s) (m := m) (tv := tv) (h := 1) (k := 6) (by decide) (by decide)
  have g1 := gL_how (s := s) (m := m) (tv := tv) ht
  rw [hhow] at g1
  rw [show tb 1 ((6 : Nat) : Int) = 1 from by decide] at g0
  have g2 := gL_sn (s := s) (m := m) (tv := tv) ht
  have hsn := (hs.sn t).1
  have hsn1 := (hs.sn t).2
  generalize (s.th t).sn = sn at *
  have hsq : IntKind.u64.wrap (sn.tdiv 2) = sn / 2 := by rw [Int.tdiv_eq_ediv_of_nonneg hsn, IntKind.wrap_u64]; omega
  clear hsn1
  have g5 := gL_ws (s := s) (m := m) (tv := tv) ht
  obtain ⟨mb, hmb, _, hM⟩ := h.maps t ht (by unfold liveT; omega)
  rw [hmb] at g5
  generalize (s.th t).ws = ws at *
  replace hM := Lib.hid (hM.alloc (.cells #[.int .i64 t, .int .i64 6, .int .u64 ad, .int .u64 wd, .bool ow, .int .i64 er] 61))
  clear hmb
  unfold evV at *
  dsimp only at *
  clear hf he
  clear hn
  go_enter Try.func73, Try.ntmps73
  go_wp2_with fail
  refine (C1.out _).mono ?_
  rintro _ w2 ⟨rfl, hb2⟩
  have hB2 := hB.out.below hb2 hB.out.lt
  have hE2 := hE.out.below hb2 hE.out.lt
  have hb3 := Lib.hid (hb1.out.trans (hb2.mono (by simp)))
  have c0 := (hB2.fcell (i := 52 + t * 4) (by omega)).trans (congrArg some g1)
  have c1 := (hB2.fcell (i := 19) (by omega)).trans (congrArg some g0)
  have c2 := (hB2.fcell (i := 52 + t * 4 + 1) (by omega)).trans (congrArg some g2)
  have c5 := (hB2.fcell (i := 52 + t * 4 + 2) (by omega)).trans (congrArg some g5)
  have hM2 := Lib.hid (hM.out.keep (hb2.block mb hM.out.lt))
  have e0 := hE2.cell 0
  have e1 := hE2.cell 1
  have e2 := hE2.cell 2
  have e3 := hE2.cell 3
  have e4 := hE2.cell 4
  have e5 := hE2.cell 5
  simp only [List.getElem?_toArray, List.getElem?_cons_zero, List.getElem?_cons_succ] at e0 e1 e2 e3 e4 e5
  have ht' : (t : Int) < 8 := by omega
  clear hb2 hB2 hE2 hB hE g0 g1 hb1 h hs hhow g2 g5 hM
  obtain ⟨ml, hlen0, -, hml⟩ := hM2.out.len (P := Try.prog) (t := 120) Try.underlying120 3
  have hlen : ∀ j, (Builtin.len_ #[120] 3 #[.map (some mb)]).run Try.prog (w2.drewN j) = .ok (.int .i64 ml) (w2.drewN j) := fun j => by
    obtain ⟨ml', h1, -, h2⟩ := Mp.len (P := Try.prog) (hM2.out.drewN j) (t := 120) Try.underlying120 3
    have e : ml' = ml := by
      obtain ⟨es, clock, g1, _⟩ := hM2.out
      have a1 := hlen0
      have a2 := h1
      simp [Builtin.len_, run_underlying Try.underlying120, MapKept.run_getObj_map g1, goInt, Result.andThen] at a1
      simp [Builtin.len_, run_underlying Try.underlying120, MapKept.run_getObj_map (w := w2.drewN j) g1, goInt, Result.andThen] at a2
      omega
    rw [← e]
    exact h1
  have hml2 : (ml = 0 ∧ ws = []) ∨ (0 < ml ∧ ws ≠ []) := by
    rcases Nat.eq_zero_or_pos ml with h0 | h0
    · exact .inl ⟨h0, written_none.1 fun a => by have := hml.1 h0 a; unfold wfun at this; simpa using this⟩
    · refine .inr ⟨h0, fun e => ?_⟩
      have := hml.2 fun k => by rw [e]; rfl
      omega
  clear hlen0 hml
  go_wp2
  refine wp_region_mixH (fun _ => True) [3, 3, 1, 3, 3, 3, 3] (List.range 7) (by kernel_rfl) (by kernel_rfl) (fun _ _ h => h) trivial ?_; (repeat (first | ((first | refine wpMixH_pure rfl rfl (fun K hK => ?_) | refine wpMixH_loc rfl rfl (fun K hK => ?_) | refine wpMixH_any rfl rfl (fun K hK => ?_)); go_simp; refine hK _ _ ?_; clear hK K) | (refine wpMixH_skip rfl (by go_simp) (fun K hK => ?_); go_simp; refine hK _ _ ?_; clear hK K) | fail)); refine wpMixH_nil (fun n1 => ?_)
  go_wp2
  refine wp_region_mixH (fun _ => True) [3, 3, 3, 3, 1, 3, 1, 3, 3, 3, 3, 1, 3, 3, 3, 3, 3, 1, 3, 3, 3, 1, 3, 3, 3, 3, 1, 3, 3, 3] (List.range 30) (by kernel_rfl) (by kernel_rfl) (fun _ _ h => h) trivial ?_; (repeat (first | ((first | refine wpMixH_pure rfl rfl (fun K hK => ?_) | refine wpMixH_loc rfl rfl (fun K hK => ?_) | refine wpMixH_any rfl rfl (fun K hK => ?_)); go_simp; refine hK _ _ ?_; clear hK K) | (refine wpMixH_skip rfl (by go_simp) (fun K hK => ?_); go_simp; refine hK _ _ ?_; clear hK K) | fail)); refine wpMixH_nil (fun n2 => ?_)
  go_wp2
  refine wp_region_mixH (fun _ => True) [3, 1, 3, 3, 3, 1, 3, 3, 3, 3, 3, 1, 1, 3, 3, 3] (List.range 16) (by kernel_rfl) (by kernel_rfl) (fun _ _ h => h) trivial ?_; (repeat (first | ((first | refine wpMixH_pure rfl rfl (fun K hK => ?_) | refine wpMixH_loc rfl rfl (fun K hK => ?_) | refine wpMixH_any rfl rfl (fun K hK => ?_)); go_simp; refine hK _ _ ?_; clear hK K) | (refine wpMixH_skip rfl (by go_simp) (fun K hK => ?_); go_simp; refine hK _ _ ?_; clear hK K) | fail)); refine wpMixH_nil (fun n3 => ?_)
  go_wp2
  all_goals
    go_ret
    exact ⟨ret_int (by rw [HW.out]; ((repeat' split) <;> first | rfl | omega | (simp_all; done) | (simp_all; omega))), (by first | exact below_drewNs hb3.out _ | exact below_drewNs (below_drewNs hb3.out _) _)⟩
set_option maxRecDepth 100000 in
theorem wrong_read (h : LookW B w b s n m tv) (hs : StBd s n) (hn : n ≤ 1152921504606846976) {t : Nat} {ad wd er : Int} {ow : Bool} (ht : t < 8) (hhow : (s.th t).how = 1) (he : EvWf ⟨t, 2, ad, wd, ow, er⟩) (hf : fmd ⟨t, 2, ad, wd, ow, er⟩ = true) :
    Calls Try.prog 73 #[.pointer (some ⟨b, 0, none⟩), evV ⟨t, 2, ad, wd, ow, er⟩] w fun x w' => x = .returned (.int .i64 (wrong s ⟨t, 2, ad, wd, ow, er⟩)) ∧ Below w.heap.size w w' := by
  have HW : Hid (wrong s ⟨t, 2, ad, wd, ow, er⟩ = if (written (s.th t).ws ad).isSome = ow ∧ (ow = true → (written (s.th t).ws ad).getD 0 = wd) then 0 else 233) := Lib.hid (by
    unfold wrong wrg
    dsimp only
    rw [hf, Int.toNat_natCast, hhow]
    simp [tb, lockK, wordOk, ownOk, hhow]
    cases hwr : written (s.th t).ws ad <;> cases ow <;> simp)
  have C1 := Lib.hid (fun W => formed_b ⟨t, 2, ad, wd, ow, er⟩ W he.2.2.2.1.1 he.2.2.2.1.2)
  rw [hf] at C1
  have hb1 := Lib.hid ((Below.refl w.heap.size w).alloc (Nat.le_refl _) (.cells #[.int .i64 t, .int .i64 2, .int .u64 ad, .int .u64 wd, .bool ow, .int .i64 er] 61))
  have hB := Lib.hid (h.blk.alloc (.cells #[.int .i64 t, .int .i64 2, .int .u64 ad, .int .u64 wd, .bool ow, .int .i64 er] 61))
  have hE := Lib.hid (Blk.new w 61 #[.int .i64 t, .int .i64 2, .int .u64 ad, .int .u64 wd, .bool ow, .int .i64 er])
  have g0 := gL_tb (s := s) (m := m) (tv := tv) (h := 1) (k := 2) (by decide) (by decide)
  have g1 := gL_how (s := s) (m := m) (tv := tv) ht
  rw [hhow] at g1
  rw [show tb 1 ((2 : Nat) : Int) = 2 from by decide] at g0
  have g5 := gL_ws (s := s) (m := m) (tv := tv) ht
  obtain ⟨mb, hmb, _, hM⟩ := h.maps t ht (by unfold liveT; omega)
  rw [hmb] at g5
  generalize (s.th t).ws = ws at *
  replace hM := Lib.hid (hM.alloc (.cells #[.int .i64 t, .int .i64 2, .int .u64 ad, .int .u64 wd, .bool ow, .int .i64 er] 61))
  clear hmb
  unfold evV at *
  dsimp only at *
  clear hf he
  clear hn
  go_enter Try.func73, Try.ntmps73
  go_wp2_with fail
  refine (C1.out _).mono ?_
  rintro _ w2 ⟨rfl, hb2⟩
  have hB2 := hB.out.below hb2 hB.out.lt
  have hE2 := hE.out.below hb2 hE.out.lt
  have hb3 := Lib.hid (hb1.out.trans (hb2.mono (by simp)))
  have c0 := (hB2.fcell (i := 52 + t * 4) (by omega)).trans (congrArg some g1)
  have c1 := (hB2.fcell (i := 15) (by omega)).trans (congrArg some g0)
  have c5 := (hB2.fcell (i := 52 + t * 4 + 2) (by omega)).trans (congrArg some g5)
  have hM2 := Lib.hid (hM.out.keep (hb2.block mb hM.out.lt))
  have e0 := hE2.cell 0
  have e1 := hE2.cell 1
  have e2 := hE2.cell 2
  have e3 := hE2.cell 3
  have e4 := hE2.cell 4
  have e5 := hE2.cell 5
  simp only [List.getElem?_toArray, List.getElem?_cons_zero, List.getElem?_cons_succ] at e0 e1 e2 e3 e4 e5
  have ht' : (t : Int) < 8 := by omega
  clear hb2 hB2 hE2 hB hE g0 g1 hb1 h hs hhow g5 hM
  have hlk0 : ∀ j, (Instr.lookup 120 (.map (some mb)) (.int .u64 ad) true).run Try.prog (w2.drewN j) = .ok (.tuple #[.int .u64 ((written ws ad).getD 0), .bool (written ws ad).isSome]) (w2.drewN j) := fun j => by
    have := Mp.lookup (P := Try.prog) (hM2.out.drewN j) (t := 120) Try.underlying120 Try.underlying35 (z := .int .u64 0) (by kernel_rfl) ad true
    rw [this]
    unfold wfun
    cases written ws ad <;> rfl
  generalize (written ws ad).getD 0 = x0 at *
  generalize (written ws ad).isSome = ok at *
  cases ok <;> cases ow
  all_goals
    go_wp2
    refine wp_region_mixH (fun _ => True) [3, 3, 1, 3, 3, 3, 3] (List.range 7) (by kernel_rfl) (by kernel_rfl) (fun _ _ h => h) trivial ?_; (repeat (first | ((first | refine wpMixH_pure rfl rfl (fun K hK => ?_) | refine wpMixH_loc rfl rfl (fun K hK => ?_) | refine wpMixH_any rfl rfl (fun K hK => ?_)); go_simp; refine hK _ _ ?_; clear hK K) | (refine wpMixH_skip rfl (by go_simp) (fun K hK => ?_); go_simp; refine hK _ _ ?_; clear hK K) | fail)); refine wpMixH_nil (fun n1 => ?_)
    go_wp2
    refine wp_region_mixH (fun _ => True) [3, 3, 3, 3, 1, 3, 1, 3, 3, 3, 3, 1, 3, 3, 3, 3, 3, 1, 3, 3, 3, 1, 3, 3, 3, 3, 1, 3, 3, 3] (List.range 30) (by kernel_rfl) (by kernel_rfl) (fun _ _ h => h) trivial ?_; (repeat (first | ((first | refine wpMixH_pure rfl rfl (fun K hK => ?_) | refine wpMixH_loc rfl rfl (fun K hK => ?_) | refine wpMixH_any rfl rfl (fun K hK => ?_)); go_simp; refine hK _ _ ?_; clear hK K) | (refine wpMixH_skip rfl (by go_simp) (fun K hK => ?_); go_simp; refine hK _ _ ?_; clear hK K) | fail)); refine wpMixH_nil (fun n2 => ?_)
    go_wp2
    refine wp_region_mixH (fun _ => True) [3, 3, 3, 1, 3, 1, 1, 3, 3, 3, 3, 3] (List.range 12) (by kernel_rfl) (by kernel_rfl) (fun _ _ h => h) trivial ?_; (repeat (first | ((first | refine wpMixH_pure rfl rfl (fun K hK => ?_) | refine wpMixH_loc rfl rfl (fun K hK => ?_) | refine wpMixH_any rfl rfl (fun K hK => ?_)); go_simp; refine hK _ _ ?_; clear hK K) | (refine wpMixH_skip rfl (by go_simp) (fun K hK => ?_); go_simp; refine hK _ _ ?_; clear hK K) | fail)); refine wpMixH_nil (fun n3 => ?_)
    go_wp2
    all_goals
      go_ret
      exact ⟨ret_int (by rw [HW.out]; ((repeat' split) <;> first | rfl | omega | (simp_all; done) | (simp_all; omega))), (by first | exact below_drewNs hb3.out _ | exact below_drewNs (below_drewNs hb3.out _) _)⟩
end
end Go.Proofs.Ytloiadhdkgkjkaa
