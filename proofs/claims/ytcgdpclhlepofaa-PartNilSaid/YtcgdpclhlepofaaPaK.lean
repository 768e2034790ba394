/- A chain taken out, by contract. -/
import Derived.Test.YtcgdpclhlepofaaPaC
import Derived.Deep.LoopGhost
namespace Go.Proofs.Ytcgdpclhlepofaa
open Go.RowKit
set_option maxHeartbeats 4000000
set_option linter.unusedVariables false
set_option linter.unusedSimpArgs false

/-- A part: queue's kind where nothing was refused, no part else. -/
def partv (kd : Int) (f c er : Int) : Value := if er = 0 then .agg #[.int .i64 kd, .int .u64 f, .int .u64 c] else .agg #[.int .i64 0, .int .u64 0, .int .u64 0]
theorem partv_no {kd f c er : Int} (h : er ≠ 0) : partv kd f c er = .agg #[.int .i64 0, .int .u64 0, .int .u64 0] := if_neg h
theorem pZero_e {a : Int} {l : List Int} {s s1 : St} {e : Int} (h : sput s a 0 = (e, s1)) : pZero (a :: l) s = if (e != 0) = true then (e, s1) else pZero l s1 := by rw [pZero, h]
theorem pZero_drop {l : List Int} {j : Nat} (hj : j < l.length) {s s1 : St} {e : Int} (h : sput s (l.getD j 0) 0 = (e, s1)) : pZero (l.drop j) s = if (e != 0) = true then (e, s1) else pZero (l.drop (j + 1)) s1 := by
  rw [List.drop_eq_getElem_cons hj]
  have e1 : l[j] = l.getD j 0 := by rw [List.getD_eq_getElem?_getD, List.getElem?_eq_getElem hj]; rfl
  rw [e1]
  exact pZero_e h
theorem lies_fr {w w' : World} {v : Value} {l : List Int} {G G' : Nat → Prop} (h : Lies w v l) (hf : Fr G w G' w') (hG : ∀ k, own v k → ¬ G k) : Lies w' v l := by
  obtain ⟨A, cp, rfl, hc, h0, h⟩ := h
  refine ⟨A, cp, rfl, hc, h0, fun j hj => ?_⟩
  obtain ⟨g, of, rfl, hcell⟩ := h j hj
  have hlt : g < w.heap.size := Nat.lt_of_not_le fun hh => by
    unfold World.cell? at hcell
    rw [Array.getElem?_eq_none hh] at hcell
    cases hcell
  have e := hf.block g hlt (hG g rfl)
  exact ⟨g, of, rfl, by unfold World.cell? at *; simp only [e]; exact hcell⟩
theorem lies_set {w : World} {v : Value} {l : List Int} {p : Addr} (h : Lies w v l) (hp : ¬ own v p.block) (u : Value) : Lies (w.setCell p u) v l := by
  obtain ⟨A, cp, rfl, hc, h0, h⟩ := h
  refine ⟨A, cp, rfl, hc, h0, fun j hj => ?_⟩
  obtain ⟨g, of, rfl, hcell⟩ := h j hj
  have e := Below.heap_setCell w p u g (by rintro rfl; exact hp rfl)
  exact ⟨g, of, rfl, by unfold World.cell? at *; simp only [e]; exact hcell⟩
theorem lies_lt {w : World} {v : Value} {l : List Int} (h : Lies w v l) (hl : 0 < l.length) : ∀ k, own v k → k < w.heap.size := by
  obtain ⟨A, cp, rfl, hc, h0, h⟩ := h
  obtain ⟨g, of, rfl, hcell⟩ := h 0 hl
  intro k hk
  obtain rfl : g = k := by simpa [own, Value.ownBlock] using hk
  exact Nat.lt_of_not_le fun hh => by
    unfold World.cell? at hcell
    rw [Array.getElem?_eq_none hh] at hcell
    cases hcell
/-- the boxes of a call: what it answers, what it builds -/
structure Pk (w : World) (rb pb : Nat) (F : Nat → Prop) (kd f c : Int) : Prop where
  r : Blk w rb 25 #[.int .i64 0, .int .u64 0, .int .u64 0]
  p : Blk w pb 25 #[.int .i64 kd, .int .u64 f, .int .u64 c]
  nr : ¬ F rb
  np : ¬ F pb
  ne : rb ≠ pb
section
variable {w w' : World} {rb pb : Nat} {F F' : Nat → Prop} {kd f c : Int}
theorem Pk.fr (h : Pk w rb pb F kd f c) (hf : Fr F w F' w') : Pk w' rb pb F' kd f c :=
  ⟨hf.blk h.r h.nr, hf.blk h.p h.np, hf.not_in h.r.lt h.nr, hf.not_in h.p.lt h.np, h.ne⟩
theorem Pk.cells (h : Pk w rb pb F kd f c) : w.cell? ⟨rb, 0, none⟩ = some (.int .i64 0) ∧ w.cell? ⟨rb, 1, none⟩ = some (.int .u64 0) ∧ w.cell? ⟨rb, 2, none⟩ = some (.int .u64 0) ∧ w.cell? ⟨pb, 0, none⟩ = some (.int .i64 kd) ∧ w.cell? ⟨pb, 1, none⟩ = some (.int .u64 f) ∧ w.cell? ⟨pb, 2, none⟩ = some (.int .u64 c) :=
  ⟨by rw [h.r.cell]; rfl, by rw [h.r.cell]; rfl, by rw [h.r.cell]; rfl, by rw [h.p.cell]; rfl, by rw [h.p.cell]; rfl, by rw [h.p.cell]; rfl⟩
theorem Pk.free (h : Pk w rb pb F kd f c) : w.frozen? ⟨rb, 0, none⟩ = false ∧ w.frozen? ⟨rb, 1, none⟩ = false ∧ w.frozen? ⟨rb, 2, none⟩ = false ∧ w.frozen? ⟨pb, 0, none⟩ = false ∧ w.frozen? ⟨pb, 1, none⟩ = false ∧ w.frozen? ⟨pb, 2, none⟩ = false :=
  ⟨h.r.frozen 0, h.r.frozen 1, h.r.frozen 2, h.p.frozen 0, h.p.frozen 1, h.p.frozen 2⟩
theorem Pk.putf (h : Pk w rb pb F kd f c) (x : Int) : Pk (w.setCell ⟨pb, 1, none⟩ (.int .u64 x)) rb pb F kd x c :=
  ⟨h.r.far (p := ⟨pb, 1, none⟩) h.ne _, by simpa using h.p.set_ 1 (.int .u64 x), h.nr, h.np, h.ne⟩
theorem Pk.putc (h : Pk w rb pb F kd f c) (x : Int) : Pk (w.setCell ⟨pb, 2, none⟩ (.int .u64 x)) rb pb F kd f x :=
  ⟨h.r.far (p := ⟨pb, 2, none⟩) h.ne _, by simpa using h.p.set_ 2 (.int .u64 x), h.nr, h.np, h.ne⟩
end
set_option maxRecDepth 100000 in
theorem pcut_b {t n kd : Nat} {F F0 : Nat → Prop} {s : St} {first count : Int} {zs : List Int} {v : Value} {w w0 : World}
    (hw : Txw w t F s) (hf : Fits s) (hb : Bud s (n + zs.length + 2)) (hz : Lies w v zs) (hz3 : zs.length ≤ 10) (hzo : ∀ k, own v k → ¬ F k) (hzl : ∀ k, own v k → k < w.heap.size) (hzb : ∀ x ∈ zs, 0 ≤ x ∧ x ≤ 18446744073709551615) (h1 : 0 ≤ first) (h1' : first ≤ 18446744073709551615) (h2 : 0 ≤ count) (h2' : count ≤ 18446744073709551615) (hm : Fr F0 w0 F w) :
    Calls Try.prog 32 #[.iface 26 (.pointer (some ⟨t, 0, none⟩)), .int .i64 (kd : Int), .int .u64 first, .int .u64 count, v] w fun e w' =>
      ∃ f c er s', Hid (pCut first count zs s = (f, c, er, s')) ∧ 0 ≤ f ∧ f ≤ 18446744073709551615 ∧ 0 ≤ c ∧ c ≤ 18446744073709551615 ∧ e = .returned (.tuple #[partv kd f c er, .int .i64 er]) ∧ Lft t n F0 w0 s' w' := by
  obtain ⟨Az, cz, rfl, hcz, _, hza⟩ := id hz
  have HZ := Lib.hid hz
  have HZO := Lib.hid hzo
  have HZB := Lib.hid hzb
  have HZL := Lib.hid hzl
  clear hz hzo hzb hza hzl
  go_enter Try.func32, Try.ntmps32
  go_wp2_with fail
  have hE1 : (w.alloc (.cells #[.int .i64 0, .int .u64 0, .int .u64 0] 25)).heap.size = w.heap.size + 1 := by simp
  have hBr := (Blk.new w 25 #[.int .i64 0, .int .u64 0, .int .u64 0]).alloc (.cells #[.int .i64 kd, .int .u64 0, .int .u64 0] 25)
  have hBp := Blk.new (w.alloc (.cells #[.int .i64 0, .int .u64 0, .int .u64 0] 25)) 25 #[.int .i64 kd, .int .u64 0, .int .u64 0]
  rw [hE1] at hBp
  have hT := (hw.alloc (.cells #[.int .i64 0, .int .u64 0, .int .u64 0] 25)).alloc (.cells #[.int .i64 kd, .int .u64 0, .int .u64 0] 25)
  have hM := (hm.alloc (.cells #[.int .i64 0, .int .u64 0, .int .u64 0] 25)).alloc (.cells #[.int .i64 kd, .int .u64 0, .int .u64 0] 25)
  have hZ := (HZ.out.alloc (.cells #[.int .i64 0, .int .u64 0, .int .u64 0] 25)).alloc (.cells #[.int .i64 kd, .int .u64 0, .int .u64 0] 25)
  have hP : Pk ((w.alloc (.cells #[.int .i64 0, .int .u64 0, .int .u64 0] 25)).alloc (.cells #[.int .i64 kd, .int .u64 0, .int .u64 0] 25)) w.heap.size (w.heap.size + 1) F kd 0 0 := ⟨hBr, hBp, fun h => by have := hw.lt _ h; omega, fun h => by have := hw.lt _ h; omega, by omega⟩
  have hsz : w0.heap.size ≤ w.heap.size := hm.size
  clear hBr hBp hw hm
  generalize (w.alloc (.cells #[.int .i64 0, .int .u64 0, .int .u64 0] 25)).alloc (.cells #[.int .i64 kd, .int .u64 0, .int .u64 0] 25) = w1 at *
  have hsz2 : w0.heap.size ≤ w.heap.size + 1 := by omega
  clear hE1 HZ
  have hrp : w.heap.size < w.heap.size + 1 := by omega
  generalize w.heap.size + 1 = pb at *
  generalize w.heap.size = rb at *
  have hb : Bud s ((n + zs.length + 1) + 1) := hb
  refine (tget_b hT hf hb h1 (Fr.refl F _)).mono ?_
  rintro _ w3 ⟨f, e3, s3, q3, df, df', rfl, f3, b3, F3, hT3, hm3⟩
  have hP3 := hP.fr hm3
  have HZP : Hid (∀ k, own (.slice Az zs.length cz) k → ¬ F3 k ∧ k ≠ pb) := Lib.hid fun k hk => ⟨fun h => (hm3.new k h).elim (HZO.out k hk) fun h2 => by have := HZL.out k hk; have := hP.r.lt; omega, fun e => by have := HZL.out k hk; omega⟩
  have HZ3 := Lib.hid (lies_set (p := ⟨pb, 1, none⟩) (lies_fr hZ hm3 HZO.out) (fun h => (HZP.out _ h).2 rfl) (.int .u64 f))
  have hM3 := hM.trans hm3
  obtain ⟨r0, r1, r2, p0, p1, p2⟩ := hP3.cells
  obtain ⟨zr0, zr1, zr2, zp0, zp1, zp2⟩ := hP3.free
  have HP3 := Lib.hid (hP3.putf f)
  have HT3 := Lib.hid (hT3.set (p := ⟨pb, 1, none⟩) hP3.np (.int .u64 f))
  have HM3 := Lib.hid (hM3.set (p := ⟨pb, 1, none⟩) (.inr (.inr hsz2)) (.int .u64 f))
  clear hT hM hZ hP hm3 hM3 hP3 hT3 hf hb
  -- where something was refused
  have REF : Hid (∀ (wx : World) (Fx : Nat → Prop) (sx : St) (fx cx ex : Int), Txw wx t Fx sx → Fits sx → Bud sx n → Pk wx rb pb Fx kd fx cx → Fr F0 w0 Fx wx → Lft t n F0 w0 sx (((wx.setCell ⟨rb, 0, none⟩ (.int .i64 0)).setCell ⟨rb, 1, none⟩ (.int .u64 0)).setCell ⟨rb, 2, none⟩ (.int .u64 0))) := Lib.hid fun wx Fx sx fx cx ex h1 h2 h3 h4 h5 =>
    ⟨h2, h3, Fx, ((h1.set (p := ⟨rb, 0, none⟩) h4.nr _).set (p := ⟨rb, 1, none⟩) h4.nr _).set (p := ⟨rb, 2, none⟩) h4.nr _, ((h5.set (p := ⟨rb, 0, none⟩) (.inr (.inr hsz)) _).set (p := ⟨rb, 1, none⟩) (.inr (.inr hsz)) _).set (p := ⟨rb, 2, none⟩) (.inr (.inr hsz)) _⟩
  by_cases he : e3 = 0
  case neg =>
    have z : (e3 != 0) = true := by simpa using he
    have hx : Hid (pCut first count zs s = (0, 0, e3, s3)) := Lib.hid (by unfold pCut; rw [q3.out]; simp only; rw [if_pos z])
    have hL := Lib.hid (REF.out _ _ _ _ _ e3 HT3.out f3 (b3.mono (by omega)) HP3.out HM3.out)
    have hv := partv_no (kd := kd) (f := 0) (c := 0) he
    obtain ⟨x0, x1, x2, _⟩ := HP3.out.cells
    clear HT3 HM3 HP3 REF HZ3 q3
    go_wp2
    refine bodyPost_ret (v := .tuple #[.agg #[.int .i64 0, .int .u64 0, .int .u64 0], .int .i64 e3]) (by simp [results, Try.f32, go_sem, x0, x1, x2]) rfl ?_
    exact ⟨0, 0, e3, s3, hx, by omega, by omega, by omega, by omega, by rw [hv], hL.out⟩
  subst he
  go_wp2_with fail
  generalize w3.setCell ⟨pb, 1, none⟩ (.int .u64 f) = w4 at *
  clear r0 r1 r2 p0 p1 p2 zr0 zr1 zr2 zp0 zp1 zp2
  have b3 : Bud s3 ((n + zs.length) + 1) := b3
  refine (tget_b HT3.out f3 b3 h2 (Fr.refl F3 _)).mono ?_
  rintro _ w5 ⟨c, e5, s5, q5, dc, dc', rfl, f5, b5, F5, hT5, hm5⟩
  have hP5 := HP3.out.fr hm5
  have HZP5 : Hid (∀ k, own (.slice Az zs.length cz) k → ¬ F5 k ∧ k ≠ pb) := Lib.hid fun k hk => ⟨fun h => (hm5.new k h).elim (HZP.out k hk).1 fun h2 => by have := HZL.out k hk; have := HP3.out.r.lt; omega, (HZP.out k hk).2⟩
  have HZ5 := Lib.hid (lies_set (p := ⟨pb, 2, none⟩) (lies_fr HZ3.out hm5 fun k hk => (HZP.out k hk).1) (fun h => (HZP.out _ h).2 rfl) (.int .u64 c))
  obtain ⟨r0, r1, r2, p0, p1, p2⟩ := hP5.cells
  obtain ⟨zr0, zr1, zr2, zp0, zp1, zp2⟩ := hP5.free
  have HP5 := Lib.hid (hP5.putc c)
  have HT5 := Lib.hid (hT5.set (p := ⟨pb, 2, none⟩) hP5.np (.int .u64 c))
  have HM5 := Lib.hid ((HM3.out.trans hm5).set (p := ⟨pb, 2, none⟩) (.inr (.inr hsz2)) (.int .u64 c))
  clear hm5 hP5 hT5 HP3 HT3 HM3 HZ3 HZP
  by_cases he : e5 = 0
  case neg =>
    have z : (e5 != 0) = true := by simpa using he
    have hx : Hid (pCut first count zs s = (0, 0, e5, s5)) := Lib.hid (by unfold pCut; rw [q3.out]; simp only; rw [if_neg (by decide), q5.out]; simp only; rw [if_pos z])
    have hL := Lib.hid (REF.out _ _ _ _ _ e5 HT5.out f5 (b5.mono (by omega)) HP5.out HM5.out)
    have hv := partv_no (kd := kd) (f := 0) (c := 0) he
    obtain ⟨x0, x1, x2, _⟩ := HP5.out.cells
    clear HT5 HM5 HP5 REF HZ5 q3 q5
    go_wp2
    refine bodyPost_ret (v := .tuple #[.agg #[.int .i64 0, .int .u64 0, .int .u64 0], .int .i64 e5]) (by simp [results, Try.f32, go_sem, x0, x1, x2]) rfl ?_
    exact ⟨0, 0, e5, s5, hx, by omega, by omega, by omega, by omega, by rw [hv], hL.out⟩
  subst he
  have HX : Hid (pCut first count zs s = match pZero zs s5 with | (e3, s3) => if (e3 != 0) = true then (0, 0, e3, s3) else (f, c, 0, s3)) := Lib.hid (by unfold pCut; rw [q3.out]; simp only; rw [if_neg (by decide), q5.out]; simp only; rw [if_neg (by decide)])
  have hlz : (zs.length : Int) ≤ 10 := by omega
  clear q3 q5 b3 f3
  go_wp2_with fail
  generalize w5.setCell ⟨pb, 2, none⟩ (.int .u64 c) = w6 at *
  clear r0 r1 r2 p0 p1 p2 zr0 zr1 zr2 zp0 zp1 zp2
  go_loopg [43] zs.length (fun gk c43 wr => ∃ (j : Nat) (sx : St) (Fx : Nat → Prop), gk + j = zs.length ∧ c43 = .int .i64 (j : Int) ∧ Hid (pZero zs s5 = pZero (zs.drop j) sx) ∧ Fits sx ∧ Bud sx (n + gk) ∧ Hid (Txw wr t Fx sx) ∧ Hid (Pk wr rb pb Fx kd f c) ∧ Hid (Fr F0 w0 Fx wr) ∧ Hid (Lies wr (.slice Az zs.length cz) zs) ∧ Hid (∀ k, own (.slice Az zs.length cz) k → ¬ Fx k ∧ k ≠ pb))
  case atStart => exact ⟨0, s5, F5, rfl, rfl, Lib.hid (by simp), f5, b5, HT5, HP5, HM5, HZ5, HZP5⟩
  case round =>
    obtain ⟨j, sx, Fx, hgk, rfl, HPZ, fx, bx, HT, HP, HM, HZ, HZP⟩ := hrel
    have HG := Lib.hid hgk
    clear hgk HT5 HP5 HM5 HZ5 HZP5 f5 b5
    obtain ⟨r0, r1, r2, p0, p1, p2⟩ := HP.out.cells
    obtain ⟨zr0, zr1, zr2, zp0, zp1, zp2⟩ := HP.out.free
    by_cases hj : j < zs.length
    · obtain ⟨g, rfl⟩ : ∃ g, gk = g + 1 := ⟨gk - 1, by have := HG.out; omega⟩
      obtain ⟨A2, c2, e1, hc2, _, hcs⟩ := HZ.out
      rw [Value.slice.injEq] at e1
      obtain ⟨rfl, -, rfl⟩ := e1
      obtain ⟨gz, oz, hA, hc⟩ := hcs j hj
      have hAz := Lib.hid hA
      subst hA
      have hzj := HZB.out _ (show zs.getD j 0 ∈ zs by rw [List.getD_eq_getElem?_getD, List.getElem?_eq_getElem hj]; exact List.getElem_mem hj)
      have hji : (j : Int) < zs.length := by omega
      have hPZ := Lib.hid fun (e : Int) (s1 : St) (h : sput sx (zs.getD j 0) 0 = (e, s1)) => HPZ.out.trans (pZero_drop hj h)
      obtain ⟨hzj1, hzj2⟩ := hzj
      clear hcs HPZ
      generalize zs.getD j 0 = zj at *
      have bx : Bud sx ((n + g) + 1) := bx
      go_wp2_with fail
      refine (tput_b HT.out fx bx hzj1 (by omega) (by omega) (Fr.refl Fx _)).mono ?_
      rintro _ w7 ⟨e7, s7, q7, rfl, f7, b7, F7, hT7, hm7⟩
      have HP7 := Lib.hid (HP.out.fr hm7)
      have HT7 := Lib.hid hT7
      have HM7 := Lib.hid (HM.out.trans hm7)
      have HZ7 := Lib.hid (lies_fr HZ.out hm7 fun k hk => (HZP.out k hk).1)
      have HZP7 : Hid (∀ k, own (.slice (some ⟨gz, oz, none⟩) zs.length cz) k → ¬ F7 k ∧ k ≠ pb) := Lib.hid fun k hk => ⟨fun h => (hm7.new k h).elim (HZP.out k hk).1 fun h2 => by have := HZL.out k hk; have := HP.out.r.lt; omega, (HZP.out k hk).2⟩
      have hPZ7 := Lib.hid (hPZ.out e7 s7 q7.out)
      clear hT7 hm7 HT HP HM HZ HZP hPZ q7 r0 r1 r2 p0 p1 p2 zr0 zr1 zr2 zp0 zp1 zp2 hc
      obtain ⟨r0, r1, r2, p0, p1, p2⟩ := HP7.out.cells
      obtain ⟨zr0, zr1, zr2, zp0, zp1, zp2⟩ := HP7.out.free
      by_cases he : e7 = 0
      · subst he
        have hPZ8 : Hid (pZero zs s5 = pZero (zs.drop (j + 1)) s7) := Lib.hid (by rw [hPZ7.out, if_neg (by decide)])
        clear hPZ7
        go_wp2
        go_roundg g
        case measure => omega
        case rel => exact ⟨j + 1, s7, F7, by have := HG.out; omega, by go_num, hPZ8, f7, b7, HT7, HP7, HM7, HZ7, HZP7⟩
      · have z : (e7 != 0) = true := by simpa using he
        have hx : Hid (pCut first count zs s = (0, 0, e7, s7)) := Lib.hid (by rw [HX.out, hPZ7.out, if_pos z]; simp only; rw [if_pos z])
        have hL := Lib.hid (REF.out _ _ _ _ _ e7 HT7.out f7 (b7.mono (by omega)) HP7.out HM7.out)
        have hv := partv_no (kd := kd) (f := 0) (c := 0) he
        clear HT7 HM7 HP7 REF HZ7 hPZ7 HX HZP7 he
        go_wp2
        refine bodyPost_ret (v := .tuple #[.agg #[.int .i64 0, .int .u64 0, .int .u64 0], .int .i64 e7]) (by simp [results, Try.f32, go_sem, r0, r1, r2]) rfl ?_
        exact ⟨0, 0, e7, s7, hx, by omega, by omega, by omega, by omega, by rw [hv], hL.out⟩
    · obtain rfl : j = zs.length := by have := HG.out; omega
      obtain rfl : gk = 0 := by have := HG.out; omega
      have hx : Hid (pCut first count zs s = (f, c, 0, sx)) := Lib.hid (by rw [HX.out, HPZ.out]; simp [pZero])
      have hsz3 : Hid (Lft t n F0 w0 sx (((wr.setCell ⟨rb, 0, none⟩ (.int .i64 kd)).setCell ⟨rb, 1, none⟩ (.int .u64 f)).setCell ⟨rb, 2, none⟩ (.int .u64 c))) := Lib.hid
        ⟨fx, bx, Fx, ((HT.out.set (p := ⟨rb, 0, none⟩) HP.out.nr _).set (p := ⟨rb, 1, none⟩) HP.out.nr _).set (p := ⟨rb, 2, none⟩) HP.out.nr _, ((HM.out.set (p := ⟨rb, 0, none⟩) (.inr (.inr hsz)) _).set (p := ⟨rb, 1, none⟩) (.inr (.inr hsz)) _).set (p := ⟨rb, 2, none⟩) (.inr (.inr hsz)) _⟩
      have hBx := ((HP.out.r.set_ 0 (.int .i64 kd)).set_ 1 (.int .u64 f)).set_ 2 (.int .u64 c)
      have x0 := hBx.cell 0
      have x1 := hBx.cell 1
      have x2 := hBx.cell 2
      simp at x0 x1 x2
      clear HT HP HM HZ HZP REF HX HPZ hBx hj
      go_wp2
      refine bodyPost_ret (v := .tuple #[.agg #[.int .i64 kd, .int .u64 f, .int .u64 c], .int .i64 0]) (by simp [results, Try.f32, go_sem, x0, x1, x2]) rfl ?_
      exact ⟨f, c, 0, sx, hx, by omega, by omega, by omega, by omega, rfl, hsz3.out⟩
end Go.Proofs.Ytcgdpclhlepofaa
