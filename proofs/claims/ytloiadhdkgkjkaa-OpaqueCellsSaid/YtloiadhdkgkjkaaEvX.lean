/- A history that lies in memory; events.goOver by contract. -/
import Derived.Test.YtloiadhdkgkjkaaEvW
import Derived.Test.YtloiadhdkgkjkaaEvV
namespace Go.Proofs.Ytloiadhdkgkjkaa
open Go.RowKit
set_option maxHeartbeats 4000000
set_option linter.unusedVariables false
set_option linter.unusedSimpArgs false
/-- The slice v reads as the events l. -/
def LiesV (w : World) (v : Value) (l : List Ev) : Prop := ∃ A cp, v = .slice A l.length cp ∧ l.length ≤ cp ∧ (A = none → cp = 0) ∧ (∀ e ∈ l, EvWf e) ∧ l.length * 48 ≤ 140737488351232 + 48 ∧ ∀ j (hj : j < l.length), ∃ g o, A = some ⟨g, o, none⟩ ∧ g < w.heap.size ∧ ∀ c, c < 6 → w.cell? ⟨g, o + j * 6 + c, none⟩ = (encV (l[j]'hj))[c]?
section
variable {w w' : World} {v : Value} {l : List Ev}
theorem LiesV.keep (h : LiesV w v l) (hs : ∀ k, own v k → k < w.heap.size → w'.heap[k]? = w.heap[k]?) (hz : w.heap.size ≤ w'.heap.size) : LiesV w' v l := by
  obtain ⟨A, cp, rfl, hc, h0, hw, hl, h⟩ := h
  refine ⟨A, cp, rfl, hc, h0, hw, hl, fun j hj => ?_⟩
  obtain ⟨g, o, rfl, hlt, k0⟩ := h j hj
  have e := hs g (by simp [own, Value.ownBlock]) hlt
  refine ⟨g, o, rfl, by omega, fun c hc => ?_⟩
  have k1 := k0 c hc
  unfold World.cell? at *
  simp only [e]
  exact k1
theorem LiesV.below (h : LiesV w v l) {B : Nat} (hb : Below B w w') (hB : w.heap.size ≤ B) : LiesV w' v l := h.keep (fun k _ hk => hb.block k (by omega)) hb.size
theorem LiesV.drewN (h : LiesV w v l) (n : Nat) : LiesV (w.drewN n) v l := h
theorem LiesV.shape (h : LiesV w v l) : ∃ A cp, v = .slice A l.length cp ∧ l.length ≤ cp := by
  obtain ⟨A, cp, h1, h2, _⟩ := h
  exact ⟨A, cp, h1, h2⟩
end
theorem wpList_build_ {P : Program} {ops : Array Oper} {rest : List Oper} {o : Oper} {a : Act} {Q : Exit → Act → World → Prop} {w : World} (hg : o.guard = none) (t : TypeId) (parts : Array (Nat × Operand)) (ho : o.op = .build t parts) (ps : Array (Nat × Value)) (hp : (parts.map fun p => (p.1, a.eval p.2)) = ps) (v : Value)
    (hrun : (Instr.build t ps).run P w = .ok v w) (h : wpList P ops Q rest (a.put o.dst v) w) : wpList P ops Q (o :: rest) a w := by
  refine wpList_plain hg fun K hK => ?_
  unfold Oper.wp
  subst hp
  simp only [execOp, ho]
  rw [show (do let x ← Instr.build t (parts.map fun (i, x) => (i, a.eval x)); pure (Next.value x) : Sem Next).run P w = .ok (.value v) w from by simp [hrun, Result.andThen]]
  exact hK _ _ h
theorem LookW.base {B B' b n : Nat} {w : World} {s : St} {m : Nat → Option Nat} {tv : Value} (h : LookW B w b s n m tv) (hB : B' ≤ B) : LookW B' w b s n m tv :=
  ⟨h.blk, h.tries, fun t ht hl => let ⟨mb, a, b, c⟩ := h.maps t ht hl; ⟨mb, a, Nat.le_trans hB b, c⟩, h.apart, Nat.le_trans hB h.geb, fun k hk => Nat.le_trans hB (h.get k hk)⟩
set_option maxRecDepth 100000 in
theorem goOver_b {w : World} {A : Option Addr} {cp : Nat} {l : List Ev} (hL : LiesV w (.slice A l.length cp) l) :
    Calls Try.prog 60 #[.slice A l.length cp] w fun x w' => Below w.heap.size w w' ∧ ((okTo l l.length ∧ ∃ b m tv, x = .returned (.tuple #[.pointer (some ⟨b, 0, none⟩), .agg #[.int .i64 (-1), .int .i64 0]]) ∧ LookW w.heap.size w' b (rn l l.length) l.length m tv) ∨
      (∃ n, n < l.length ∧ okTo l n ∧ wrong (rn l n) (evAt l n) ≠ 0 ∧ x = .returned (.tuple #[.pointer none, .agg #[.int .i64 n, .int .i64 (wrong (rn l n) (evAt l n))]]))) := by
  have hT := Lib.hid table_b
  have hlen : (l.length : Int) ≤ 9223372036854775807 := by obtain ⟨_, _, _, _, _, _, h, _⟩ := hL; omega
  have hbt : Try.prog.built 125 [(0, .agg (ofF 52 gT)), (3, .int .i64 (-1))] = some (ofF 87 (gL St.zero (fun _ => none) (.slice none 0 0))) := by kernel_rfl
  have hbd := fun W => run_build (P := Try.prog) W 125 #[(0, .agg (ofF 52 gT)), (3, .int .i64 (-1))] _ hbt
  clear hbt
  generalize hlk : ofF 87 (gL St.zero (fun _ => none) (.slice none 0 0)) = lk at *
  generalize ofF 52 gT = tbl at *
  replace hlk := Lib.hid hlk
  replace hL := Lib.hid hL
  have B0 := Lib.hid (Blk.new w 28 #[.int .i64 0, .int .i64 0])
  have bel0 : Hid (Below w.heap.size w (w.alloc (.cells #[.int .i64 0, .int .i64 0] 28))) := Lib.hid ((Below.refl _ _).alloc (Nat.le_refl _) _)
  go_enter Try.func60, Try.ntmps60
  go_wp2_with fail
  rename_i K1 hK1 K2 hK2
  refine (hT.out _).mono ?_
  rintro _ w1 ⟨rfl, hb1⟩
  have B1 := Lib.hid (B0.out.below hb1 B0.out.lt)
  have bel1 := Lib.hid (bel0.out.trans (hb1.mono (by simp)))
  have hsz1 : w.heap.size ≤ w1.heap.size := bel1.out.size
  have hBlt : w.heap.size < w1.heap.size := B1.out.lt
  clear hb1 B0 bel0 hT
  replace hbd := Lib.hid hbd
  dsimp only
  refine hK2 _ _ ?_
  refine wpList_build_ rfl 125 _ rfl #[(0, .agg tbl), (3, .int .i64 (-1))] (by first | (go_simp; done) | simp [Act.eval]) (.agg lk) (hbd.out _) ?_
  clear hK2 K2
  go_wp2_with fail
  go_loopw [13] (fun i wr => ∃ (k : Nat) (m : Nat → Option Nat) (tv : Value), k ≤ l.length ∧ i = .int .i64 k ∧ Hid (okTo l k) ∧ Hid (LookW w1.heap.size wr w1.heap.size (rn l k) k m tv) ∧ Hid (Below w.heap.size w wr) ∧ Hid (Blk wr w.heap.size 28 #[.int .i64 0, .int .i64 0])) (fun i _ => l.length - (intOf i).toNat)
  case atStart =>
    refine ⟨0, fun _ => none, .slice none 0 0, Nat.zero_le _, rfl, Lib.hid fun j hj => by omega, Lib.hid ⟨?_, Sl.nil _, fun t ht hl => by simp [rn, St.zero, liveT] at hl, fun t t' ht ht' hl => by simp [rn, St.zero, liveT] at hl, Nat.le_refl _, fun k hk => by simp [own, Value.ownBlock] at hk⟩, Lib.hid (bel1.out.alloc hsz1 _), Lib.hid (B1.out.alloc _)⟩
    have := Blk.new w1 125 lk
    have e9 := hlk.out
    rw [← e9] at this ⊢
    exact this
  case round =>
    obtain ⟨k, m, tv, hk, rfl, hok, hLk, hbl, hBz⟩ := hrel
    clear B1 bel1 hbd
    by_cases hlt : k < l.length
    · obtain ⟨A', cp', eA, hcp, hA0, hwf, hl48, hcl⟩ := hL.out.below hbl.out (Nat.le_refl _)
      injection eA with e1 e2 e3
      subst e1 e3
      have hewf := hwf _ (List.getElem_mem hlt)
      have hev : Hid (evAt l k = l[k]) := Lib.hid (by unfold evAt; rw [List.getD_eq_getElem?_getD, List.getElem?_eq_getElem hlt]; rfl)
      have hinv := inv_rn hwf hk hok.out
      obtain ⟨g, o, rfl, hg, hc⟩ := hcl k hlt
      generalize hee : l[k] = e at *
      have d0 := hc 0 (by decide)
      have d1 := hc 1 (by decide)
      have d2 := hc 2 (by decide)
      have d3 := hc 3 (by decide)
      have d4 := hc 4 (by decide)
      have d5 := hc 5 (by decide)
      have hn60 : k ≤ 1152921504606846976 := by omega
      have hln : ((rn l k).tries.length + 1) * 56 ≤ 140737488355328 := by
        have := hinv.two
        have := lives_le (rn l k)
        omega
      have hW := Lib.hid (fun W (hW : LookW w1.heap.size W w1.heap.size (rn l k) k m tv) => wrong_b hW hinv.bd hn60 e hewf)
      have hTk := Lib.hid (fun W (hW : LookW w1.heap.size W w1.heap.size (rn l k) k m tv) (hB : w1.heap.size ≤ W.heap.size) (h0 : wrong (rn l k) e = 0) => take_b hW hB hinv.bd hn60 hln e h0 k)
      obtain ⟨th, kd, ad, wd, ow, er⟩ := e
      unfold evV at hW hTk
      simp only [encV, List.getElem?_cons_zero, List.getElem?_cons_succ, Nat.add_zero] at d0 d1 d2 d3 d4 d5
      dsimp only at hW hTk
      have hLA := Lib.hid (hLk.out.alloc (.cells #[.int .i64 th, .int .i64 kd, .int .u64 ad, .int .u64 wd, .bool ow, .int .i64 er] 61))
      have hBA := Lib.hid (hBz.out.alloc (.cells #[.int .i64 th, .int .i64 kd, .int .u64 ad, .int .u64 wd, .bool ow, .int .i64 er] 61))
      have hEA := Lib.hid (Blk.new wr 61 #[.int .i64 th, .int .i64 kd, .int .u64 ad, .int .u64 wd, .bool ow, .int .i64 er])
      have hblA := Lib.hid (hbl.out.alloc hbl.out.size (.cells #[.int .i64 th, .int .i64 kd, .int .u64 ad, .int .u64 wd, .bool ow, .int .i64 er] 61))
      have hlt' : (k : Int) < (l.length : Int) := by omega
      have hbs := hbl.out.size
      clear hcl hc hwf hinv hewf hl48 hn60 hln hLk hbl hBz e2 hcp hA0 hg
      replace hee := Lib.hid hee
      generalize hx : wrong (rn l k) ⟨th, kd, ad, wd, ow, er⟩ = x at *
      replace hx := Lib.hid hx
      have hxc : ((x != 0) = false ∧ x = 0) ∨ ((x != 0) = true ∧ x ≠ 0) := by
        by_cases h : x = 0
        · exact .inl ⟨by simp [h], h⟩
        · exact .inr ⟨by simp [h], h⟩
      rcases hxc with ⟨hx1, hx2⟩ | ⟨hx1, hx2⟩
      · replace hx2 := Lib.hid hx2
        go_wp2_with fail
        refine (hW.out _ hLA.out).mono ?_
        rintro _ w3 ⟨rfl, hb3⟩
        have hL3 := Lib.hid (hLA.out.below hb3)
        have hB3 := Lib.hid (hBA.out.below hb3 hBA.out.lt)
        have hE3 := hEA.out.below hb3 hEA.out.lt
        have hbl3 := Lib.hid (hblA.out.trans (hb3.mono (by have := hblA.out.size; exact this)))
        have e0 := hE3.cell 0
        have e1 := hE3.cell 1
        have e2 := hE3.cell 2
        have e3 := hE3.cell 3
        have e4 := hE3.cell 4
        have e5 := hE3.cell 5
        simp only [List.getElem?_toArray, List.getElem?_cons_zero, List.getElem?_cons_succ] at e0 e1 e2 e3 e4 e5
        clear hb3 hE3 hLA hBA hEA hblA
        go_wp2_with fail
        have hbw3 : w1.heap.size < w3.heap.size := hL3.out.blk.lt
        refine (hTk.out _ hL3.out (Nat.le_of_lt hbw3) hx2.out).mono ?_
        rintro _ w4 ⟨rfl, hb4, m4, tv4, hL4⟩
        have hB4 := Lib.hid (hB3.out.below hb4 hBlt)
        have hbl4 := Lib.hid (hbl3.out.trans (hb4.mono hsz1))
        have hL4' : Hid (LookW w1.heap.size w4 w1.heap.size (rn l (k + 1)) (k + 1) m4 tv4) := Lib.hid (by show LookW _ _ _ (take (rn l k) k (evAt l k)) _ _ _; rw [hev.out]; exact hL4)
        clear hb4 hL4
        go_wp2_with fail
        go_roundw
        case rel => exact ⟨k + 1, m4, tv4, hlt, by go_num, Lib.hid (hok.out.succ (by rw [hev.out, hx.out]; exact hx2.out)), hL4', hbl4, hB4⟩
        case measure => simp [intOf]; omega
      · go_wp2_with fail
        refine (hW.out _ hLA.out).mono ?_
        rintro _ w3 ⟨rfl, hb3⟩
        have hB3 := hBA.out.below hb3 hBA.out.lt
        have hbl3 := Lib.hid (hblA.out.trans (hb3.mono (by have := hblA.out.size; exact this)))
        have b0 := hB3.cell 0
        have b1 := hB3.cell 1
        have f0 := hB3.frozen 0
        have f1 := hB3.frozen 1
        simp only [List.getElem?_toArray, List.getElem?_cons_zero, List.getElem?_cons_succ] at b0 b1
        clear hb3 hLA hBA hEA hblA hB3
        go_wp2
        refine bodyPost_ret (v := .tuple #[.pointer none, .agg #[.int .i64 k, .int .i64 x]]) (by simp [results, Try.results60, go_sem, b0, b1, f0, f1]) rfl ⟨(hbl3.out.setCell (Nat.le_refl _) _).setCell (Nat.le_refl _) _, .inr ⟨k, hlt, hok.out, by rw [hev.out, hx.out]; exact hx2, by rw [hev.out, hx.out]⟩⟩
    · have hkk : k = l.length := by omega
      subst hkk
      have b0 := hBz.out.cell 0
      have b1 := hBz.out.cell 1
      have f0 := hBz.out.frozen 0
      have f1 := hBz.out.frozen 1
      simp only [List.getElem?_toArray, List.getElem?_cons_zero, List.getElem?_cons_succ] at b0 b1
      go_wp2
      refine bodyPost_ret (v := .tuple #[.pointer (some ⟨w1.heap.size, 0, none⟩), .agg #[.int .i64 (-1), .int .i64 0]]) (by simp [results, Try.results60, go_sem, b0, b1, f0, f1]) rfl ⟨(hbl.out.setCell (Nat.le_refl _) _).setCell (Nat.le_refl _) _, .inl ⟨hok.out, w1.heap.size, m, tv, rfl, LookW.base (LookW.keep hLk.out (fun j hj _ => ?_)) hsz1⟩⟩
      rw [Below.heap_setCell _ _ _ _ (show j ≠ w.heap.size by omega), Below.heap_setCell _ _ _ _ (show j ≠ w.heap.size by omega)]
end Go.Proofs.Ytloiadhdkgkjkaa
