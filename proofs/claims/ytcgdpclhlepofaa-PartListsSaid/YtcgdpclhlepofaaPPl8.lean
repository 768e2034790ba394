/- A chain taken out, by contract. -/
import Derived.Deep.LoopGhost
import Derived.Deep.RegionWith
import Derived.Laws.EntriesVeiled
import Derived.Test.YtcgdpclhlepofaaPPl6
import Derived.Test.YtcgdpclhlepofaaPPl7
namespace Go.Proofs.Ytcgdpclhlepofaa
open Go.RowKit
set_option maxHeartbeats 4000000
set_option linter.unusedVariables false
set_option linter.unusedSimpArgs false

/-- A part: queue's kind where nothing was refused, no part else. -/
def partv (kd : Int) (f c er : Int) : Value := if er = 0 then .agg #[.int .i64 kd, .int .u64 f, .int .u64 c] else .agg #[.int .i64 0, .int .u64 0, .int .u64 0]
theorem partv_no {kd f c er : Int} (h : er ≠ 0) : partv kd f c er = .agg #[.int .i64 0, .int .u64 0, .int .u64 0] := if_neg h
theorem pZero_e {a : Int} {l : List Int} {s s1 : St} {e : Int} (h : sput s a 0 = (e, s1)) : pZero (a :: l) s = if (e != 0) = true then (e, s1) else pZero l s1 := by rw [pZero, h]
theorem pZero_drop {l : List Int} {j : Nat} (hj : j < l.length) {s s1 : St} {e : Int} (h : sput s (l.getD j 0) 0 = (e, s1)) : pZero (l.drop j) s = if (e != 0) = true then (e, s1) else pZero (l.drop (j + 1)) s1 := by
  rw [List.drop_eq_getElem_cons hj]
  have e1 : l[j] = l.getD j 0 := by rw [List.getD_eq_getElem?_getD, List.getElem?_eq_getElem hj]; rfl
  rw [e1]
  exact pZero_e h
theorem lies_fr {w w' : World} {v : Value} {l : List Int} {G G' : Nat → Prop} (h : Lies w v l) (hf : Fr G w G' w') (hG : ∀ k, own v k → ¬ G k) : Lies w' v l := by
  obtain ⟨A, cp, rfl, hc, h0, h⟩ := h
  refine ⟨A, cp, rfl, hc, h0, fun j hj => ?_⟩
  obtain ⟨g, of, rfl, hcell⟩ := h j hj
  have hlt : g < w.heap.size := Nat.lt_of_not_le fun hh => by
    unfold World.cell? at hcell
    rw [Array.getElem?_eq_none hh] at hcell
    cases hcell
  have e := hf.block g hlt (hG g rfl)
  exact ⟨g, of, rfl, by unfold World.cell? at *; simp only [e]; exact hcell⟩
theorem lies_set {w : World} {v : Value} {l : List Int} {p : Addr} (h : Lies w v l) (hp : ¬ own v p.block) (u : Value) : Lies (w.setCell p u) v l := by
  obtain ⟨A, cp, rfl, hc, h0, h⟩ := h
  refine ⟨A, cp, rfl, hc, h0, fun j hj => ?_⟩
  obtain ⟨g, of, rfl, hcell⟩ := h j hj
  have e := Below.heap_setCell w p u g (by rintro rfl; exact hp rfl)
  exact ⟨g, of, rfl, by unfold World.cell? at *; simp only [e]; exact hcell⟩
theorem lies_lt {w : World} {v : Value} {l : List Int} (h : Lies w v l) (hl : 0 < l.length) : ∀ k, own v k → k < w.heap.size := by
  obtain ⟨A, cp, rfl, hc, h0, h⟩ := h
  obtain ⟨g, of, rfl, hcell⟩ := h 0 hl
  intro k hk
  obtain rfl : g = k := by simpa [own, Value.ownBlock] using hk
  exact Nat.lt_of_not_le fun hh => by
    unfold World.cell? at hcell
    rw [Array.getElem?_eq_none hh] at hcell
    cases hcell
/-- the boxes of a call: what it answers, what it builds -/
structure Pk (w : World) (rb pb : Nat) (F : Nat → Prop) (kd f c : Int) : Prop where
  r : Blk w rb 25 #[.int .i64 0, .int .u64 0, .int .u64 0]
  p : Blk w pb 25 #[.int .i64 kd, .int .u64 f, .int .u64 c]
  nr : ¬ F rb
  np : ¬ F pb
  ne : rb ≠ pb
section
variable {w w' : World} {rb pb : Nat} {F F' : Nat → Prop} {kd f c : Int}
theorem Pk.fr (h : Pk w rb pb F kd f c) (hf : Fr F w F' w') : Pk w' rb pb F' kd f c :=
  ⟨hf.blk h.r h.nr, hf.blk h.p h.np, hf.not_in h.r.lt h.nr, hf.not_in h.p.lt h.np, h.ne⟩
theorem Pk.cells (h : Pk w rb pb F kd f c) : w.cell? ⟨rb, 0, none⟩ = some (.int .i64 0) ∧ w.cell? ⟨rb, 1, none⟩ = some (.int .u64 0) ∧ w.cell? ⟨rb, 2, none⟩ = some (.int .u64 0) ∧ w.cell? ⟨pb, 0, none⟩ = some (.int .i64 kd) ∧ w.cell? ⟨pb, 1, none⟩ = some (.int .u64 f) ∧ w.cell? ⟨pb, 2, none⟩ = some (.int .u64 c) :=
  ⟨by rw [h.r.cell]; rfl, by rw [h.r.cell]; rfl, by rw [h.r.cell]; rfl, by rw [h.p.cell]; rfl, by rw [h.p.cell]; rfl, by rw [h.p.cell]; rfl⟩
theorem Pk.free (h : Pk w rb pb F kd f c) : w.frozen? ⟨rb, 0, none⟩ = false ∧ w.frozen? ⟨rb, 1, none⟩ = false ∧ w.frozen? ⟨rb, 2, none⟩ = false ∧ w.frozen? ⟨pb, 0, none⟩ = false ∧ w.frozen? ⟨pb, 1, none⟩ = false ∧ w.frozen? ⟨pb, 2, none⟩ = false :=
  ⟨h.r.frozen 0, h.r.frozen 1, h.r.frozen 2, h.p.frozen 0, h.p.frozen 1, h.p.frozen 2⟩
theorem Pk.putf (h : Pk w rb pb F kd f c) (x : Int) : Pk (w.setCell ⟨pb, 1, none⟩ (.int .u64 x)) rb pb F kd x c :=
  ⟨h.r.far (p := ⟨pb, 1, none⟩) h.ne _, by simpa using h.p.set_ 1 (.int .u64 x), h.nr, h.np, h.ne⟩
theorem Pk.putc (h : Pk w rb pb F kd f c) (x : Int) : Pk (w.setCell ⟨pb, 2, none⟩ (.int .u64 x)) rb pb F kd f x :=
  ⟨h.r.far (p := ⟨pb, 2, none⟩) h.ne _, by simpa using h.p.set_ 2 (.int .u64 x), h.nr, h.np, h.ne⟩
end
set_option maxRecDepth 100000 in
theorem pcut_b {t n kd : Nat} {F F0 : Nat → Prop} {s : St} {first count : Int} {zs : List Int} {v : Value} {w w0 : World}
    (hw : Txw w t F s) (hf : Fits s) (hb : Bud s (n + zs.length + 2)) (hz : Lies w v zs) (hz3 : zs.length ≤ 10) (hzo : ∀ k, own v k → ¬ F k) (hzl : ∀ k, own v k → k < w.heap.size) (hzb : ∀ x ∈ zs, 0 ≤ x ∧ x ≤ 18446744073709551615) (h1 : 0 ≤ first) (h1' : first ≤ 18446744073709551615) (h2 : 0 ≤ count) (h2' : count ≤ 18446744073709551615) (hm : Fr F0 w0 F w) :
    Calls Try.prog 32 #[.iface 26 (.pointer (some ⟨t, 0, none⟩)), .int .i64 (kd : Int), .int .u64 first, .int .u64 count, v] w fun e w' =>
      ∃ f c er s', Hid (pCut first count zs s = (f, c, er, s')) ∧ 0 ≤ f ∧ f ≤ 18446744073709551615 ∧ 0 ≤ c ∧ c ≤ 18446744073709551615 ∧ e = .returned (.tuple #[partv kd f c er, .int .i64 er]) ∧ Lft t n F0 w0 s' w' := by
  obtain ⟨Az, cz, rfl, hcz, _, hza⟩ := id hz
  have HZ := Lib.hid hz
  have HZO := Lib.hid hzo
  have HZB := Lib.hid hzb
  have HZL := Lib.hid hzl
  clear hz hzo hzb hza hzl
  go_enter Try.func32, Try.ntmps32
  go_wp2_with fail
  have hE1 : (w.alloc (.cells #[.int .i64 0, .int .u64 0, .int .u64 0] 25)).heap.size = w.heap.size + 1 := by simp
  have hBr := (Blk.new w 25 #[.int .i64 0, .int .u64 0, .int .u64 0]).alloc (.cells #[.int .i64 kd, .int .u64 0, .int .u64 0] 25)
  have hBp := Blk.new (w.alloc (.cells #[.int .i64 0, .int .u64 0, .int .u64 0] 25)) 25 #[.int .i64 kd, .int .u64 0, .int .u64 0]
  rw [hE1] at hBp
  have hT := (hw.alloc (.cells #[.int .i64 0, .int .u64 0, .int .u64 0] 25)).alloc (.cells #[.int .i64 kd, .int .u64 0, .int .u64 0] 25)
  have hM := (hm.alloc (.cells #[.int .i64 0, .int .u64 0, .int .u64 0] 25)).alloc (.cells #[.int .i64 kd, .int .u64 0, .int .u64 0] 25)
  have hZ := (HZ.out.alloc (.cells #[.int .i64 0, .int .u64 0, .int .u64 0] 25)).alloc (.cells #[.int .i64 kd, .int .u64 0, .int .u64 0] 25)
  have hP : Pk ((w.alloc (.cells #[.int .i64 0, .int .u64 0, .int .u64 0] 25)).alloc (.cells #[.int .i64 kd, .int .u64 0, .int .u64 0] 25)) w.heap.size (w.heap.size + 1) F kd 0 0 := ⟨hBr, hBp, fun h => by have := hw.lt _ h; omega, fun h => by have := hw.lt _ h; omega, by omega⟩
  have hsz : w0.heap.size ≤ w.heap.size := hm.size
  clear hBr hBp hw hm
  generalize (w.alloc (.cells #[.int .i64 0, .int .u64 0, .int .u64 0] 25)).alloc (.cells #[.int .i64 kd, .int .u64 0, .int .u64 0] 25) = w1 at *
  have hsz2 : w0.heap.size ≤ w.heap.size + 1 := by omega
  clear hE1 HZ
  have hrp : w.heap.size < w.heap.size + 1 := by omega
  generalize w.heap.size + 1 = pb at *
  generalize w.heap.size = rb at *
  have hb : Bud s ((n + zs.length + 1) + 1) := hb
  refine (tget_b hT hf hb h1 (Fr.refl F _)).mono ?_
  rintro _ w3 ⟨f, e3, s3, q3, df, df', rfl, f3, b3, F3, hT3, hm3⟩
  have hP3 := hP.fr hm3
  have HZP : Hid (∀ k, own (.slice Az zs.length cz) k → ¬ F3 k ∧ k ≠ pb) := Lib.hid fun k hk => ⟨fun h => (hm3.new k h).elim (HZO.out k hk) fun h2 => by have := HZL.out k hk; have := hP.r.lt; omega, fun e => by have := HZL.out k hk; omega⟩
  have HZ3 := Lib.hid (lies_set (p := ⟨pb, 1, none⟩) (lies_fr hZ hm3 HZO.out) (fun h => (HZP.out _ h).2 rfl) (.int .u64 f))
  have hM3 := hM.trans hm3
  obtain ⟨r0, r1, r2, p0, p1, p2⟩ := hP3.cells
  obtain ⟨zr0, zr1, zr2, zp0, zp1, zp2⟩ := hP3.free
  have HP3 := Lib.hid (hP3.putf f)
  have HT3 := Lib.hid (hT3.set (p := ⟨pb, 1, none⟩) hP3.np (.int .u64 f))
  have HM3 := Lib.hid (hM3.set (p := ⟨pb, 1, none⟩) (.inr (.inr hsz2)) (.int .u64 f))
  clear hT hM hZ hP hm3 hM3 hP3 hT3 hf hb
  -- where something was refused
  have REF : Hid (∀ (wx : World) (Fx : Nat → Prop) (sx : St) (fx cx ex : Int), Txw wx t Fx sx → Fits sx → Bud sx n → Pk wx rb pb Fx kd fx cx → Fr F0 w0 Fx wx → Lft t n F0 w0 sx (((wx.setCell ⟨rb, 0, none⟩ (.int .i64 0)).setCell ⟨rb, 1, none⟩ (.int .u64 0)).setCell ⟨rb, 2, none⟩ (.int .u64 0))) := Lib.hid fun wx Fx sx fx cx ex h1 h2 h3 h4 h5 =>
    ⟨h2, h3, Fx, ((h1.set (p := ⟨rb, 0, none⟩) h4.nr _).set (p := ⟨rb, 1, none⟩) h4.nr _).set (p := ⟨rb, 2, none⟩) h4.nr _, ((h5.set (p := ⟨rb, 0, none⟩) (.inr (.inr hsz)) _).set (p := ⟨rb, 1, none⟩) (.inr (.inr hsz)) _).set (p := ⟨rb, 2, none⟩) (.inr (.inr hsz)) _⟩
  by_cases he : e3 = 0
  case neg =>
    have z : (e3 != 0) = true := by simpa using he
    have hx : Hid (pCut first count zs s = (0, 0, e3, s3)) := Lib.hid (by unfold pCut; rw [q3.out]; simp only; rw [if_pos z])
    have hL := Lib.hid (REF.out _ _ _ _ _ e3 HT3.out f3 (b3.mono (by omega)) HP3.out HM3.out)
    have hv := partv_no (kd := kd) (f := 0) (c := 0) he
    obtain ⟨x0, x1, x2, _⟩ := HP3.out.cells
    clear HT3 HM3 HP3 REF HZ3 q3
    go_wp2
    refine bodyPost_ret (v := .tuple #[.agg #[.int .i64 0, .int .u64 0, .int .u64 0], .int .i64 e3]) (by simp [results, Try.f32, go_sem, x0, x1, x2]) rfl ?_
    exact ⟨0, 0, e3, s3, hx, by omega, by omega, by omega, by omega, by rw [hv], hL.out⟩
  subst he
  go_wp2_with fail
  generalize w3.setCell ⟨pb, 1, none⟩ (.int .u64 f) = w4 at *
  clear r0 r1 r2 p0 p1 p2 zr0 zr1 zr2 zp0 zp1 zp2
  have b3 : Bud s3 ((n + zs.length) + 1) := b3
  refine (tget_b HT3.out f3 b3 h2 (Fr.refl F3 _)).mono ?_
  rintro _ w5 ⟨c, e5, s5, q5, dc, dc', rfl, f5, b5, F5, hT5, hm5⟩
  have hP5 := HP3.out.fr hm5
  have HZP5 : Hid (∀ k, own (.slice Az zs.length cz) k → ¬ F5 k ∧ k ≠ pb) := Lib.hid fun k hk => ⟨fun h => (hm5.new k h).elim (HZP.out k hk).1 fun h2 => by have := HZL.out k hk; have := HP3.out.r.lt; omega, (HZP.out k hk).2⟩
  have HZ5 := Lib.hid (lies_set (p := ⟨pb, 2, none⟩) (lies_fr HZ3.out hm5 fun k hk => (HZP.out k hk).1) (fun h => (HZP.out _ h).2 rfl) (.int .u64 c))
  obtain ⟨r0, r1, r2, p0, p1, p2⟩ := hP5.cells
  obtain ⟨zr0, zr1, zr2, zp0, zp1, zp2⟩ := hP5.free
  have HP5 := Lib.hid (hP5.putc c)
  have HT5 := Lib.hid (hT5.set (p := ⟨pb, 2, none⟩) hP5.np (.int .u64 c))
  have HM5 := Lib.hid ((HM3.out.trans hm5).set (p := ⟨pb, 2, none⟩) (.inr (.inr hsz2)) (.int .u64 c))
  clear hm5 hP5 hT5 HP3 HT3 HM3 HZ3 HZP
  by_cases he : e5 = 0
  case neg =>
    have z : (e5 != 0) = true := by simpa using he
    have hx : Hid (pCut first count zs s = (0, 0, e5, s5)) := Lib.hid (by unfold pCut; rw [q3.out]; simp only; rw [if_neg (by decide), q5.out]; simp only; rw [if_pos z])
    have hL := Lib.hid (REF.out _ _ _ _ _ e5 HT5.out f5 (b5.mono (by omega)) HP5.out HM5.out)
    have hv := partv_no (kd := kd) (f := 0) (c := 0) he
    obtain ⟨x0, x1, x2, _⟩ := HP5.out.cells
    clear HT5 HM5 HP5 REF HZ5 q3 q5
    go_wp2
    refine bodyPost_ret (v := .tuple #[.agg #[.int .i64 0, .int .u64 0, .int .u64 0], .int .i64 e5]) (by simp [results, Try.f32, go_sem, x0, x1, x2]) rfl ?_
    exact ⟨0, 0, e5, s5, hx, by omega, by omega, by omega, by omega, by rw [hv], hL.out⟩
  subst he
  have HX : Hid (pCut first count zs s = match pZero zs s5 with | (e3, s3) => if (e3 != 0) = true then (0, 0, e3, s3) else (f, c, 0, s3)) := Lib.hid (by unfold pCut; rw [q3.out]; simp only; rw [if_neg (by decide), q5.out]; simp only; rw [if_neg (by decide)])
  have hlz : (zs.length : Int) ≤ 10 := by omega
  clear q3 q5 b3 f3
  go_wp2_with fail
  generalize w5.setCell ⟨pb, 2, none⟩ (.int .u64 c) = w6 at *
  clear r0 r1 r2 p0 p1 p2 zr0 zr1 zr2 zp0 zp1 zp2
  go_loopg [43] zs.length (fun gk c43 wr => ∃ (j : Nat) (sx : St) (Fx : Nat → Prop), gk + j = zs.length ∧ c43 = .int .i64 (j : Int) ∧ Hid (pZero zs s5 = pZero (zs.drop j) sx) ∧ Fits sx ∧ Bud sx (n + gk) ∧ Hid (Txw wr t Fx sx) ∧ Hid (Pk wr rb pb Fx kd f c) ∧ Hid (Fr F0 w0 Fx wr) ∧ Hid (Lies wr (.slice Az zs.length cz) zs) ∧ Hid (∀ k, own (.slice Az zs.length cz) k → ¬ Fx k ∧ k ≠ pb))
  case atStart => exact ⟨0, s5, F5, rfl, rfl, Lib.hid (by simp), f5, b5, HT5, HP5, HM5, HZ5, HZP5⟩
  case round =>
    obtain ⟨j, sx, Fx, hgk, rfl, HPZ, fx, bx, HT, HP, HM, HZ, HZP⟩ := hrel
    have HG := Lib.hid hgk
    clear hgk HT5 HP5 HM5 HZ5 HZP5 f5 b5
    obtain ⟨r0, r1, r2, p0, p1, p2⟩ := HP.out.cells
    obtain ⟨zr0, zr1, zr2, zp0, zp1, zp2⟩ := HP.out.free
    by_cases hj : j < zs.length
    · obtain ⟨g, rfl⟩ : ∃ g, gk = g + 1 := ⟨gk - 1, by have := HG.out; omega⟩
      obtain ⟨A2, c2, e1, hc2, _, hcs⟩ := HZ.out
      rw [Value.slice.injEq] at e1
      obtain ⟨rfl, -, rfl⟩ := e1
      obtain ⟨gz, oz, hA, hc⟩ := hcs j hj
      have hAz := Lib.hid hA
      subst hA
      have hzj := HZB.out _ (show zs.getD j 0 ∈ zs by rw [List.getD_eq_getElem?_getD, List.getElem?_eq_getElem hj]; exact List.getElem_mem hj)
      have hji : (j : Int) < zs.length := by omega
      have hPZ := Lib.hid fun (e : Int) (s1 : St) (h : sput sx (zs.getD j 0) 0 = (e, s1)) => HPZ.out.trans (pZero_drop hj h)
      obtain ⟨hzj1, hzj2⟩ := hzj
      clear hcs HPZ
      generalize zs.getD j 0 = zj at *
      have bx : Bud sx ((n + g) + 1) := bx
      go_wp2_with fail
      refine (tput_b HT.out fx bx hzj1 (by omega) (by omega) (Fr.refl Fx _)).mono ?_
      rintro _ w7 ⟨e7, s7, q7, rfl, f7, b7, F7, hT7, hm7⟩
      have HP7 := Lib.hid (HP.out.fr hm7)
      have HT7 := Lib.hid hT7
      have HM7 := Lib.hid (HM.out.trans hm7)
      have HZ7 := Lib.hid (lies_fr HZ.out hm7 fun k hk => (HZP.out k hk).1)
      have HZP7 : Hid (∀ k, own (.slice (some ⟨gz, oz, none⟩) zs.length cz) k → ¬ F7 k ∧ k ≠ pb) := Lib.hid fun k hk => ⟨fun h => (hm7.new k h).elim (HZP.out k hk).1 fun h2 => by have := HZL.out k hk; have := HP.out.r.lt; omega, (HZP.out k hk).2⟩
      have hPZ7 := Lib.hid (hPZ.out e7 s7 q7.out)
      clear hT7 hm7 HT HP HM HZ HZP hPZ q7 r0 r1 r2 p0 p1 p2 zr0 zr1 zr2 zp0 zp1 zp2 hc
      obtain ⟨r0, r1, r2, p0, p1, p2⟩ := HP7.out.cells
      obtain ⟨zr0, zr1, zr2, zp0, zp1, zp2⟩ := HP7.out.free
      by_cases he : e7 = 0
      · subst he
        have hPZ8 : Hid (pZero zs s5 = pZero (zs.drop (j + 1)) s7) := Lib.hid (by rw [hPZ7.out, if_neg (by decide)])
        clear hPZ7
        go_wp2
        go_roundg g
        case measure => omega
        case rel => exact ⟨j + 1, s7, F7, by have := HG.out; omega, by go_num, hPZ8, f7, b7, HT7, HP7, HM7, HZ7, HZP7⟩
      · have z : (e7 != 0) = true := by simpa using he
        have hx : Hid (pCut first count zs s = (0, 0, e7, s7)) := Lib.hid (by rw [HX.out, hPZ7.out, if_pos z]; simp only; rw [if_pos z])
        have hL := Lib.hid (REF.out _ _ _ _ _ e7 HT7.out f7 (b7.mono (by omega)) HP7.out HM7.out)
        have hv := partv_no (kd := kd) (f := 0) (c := 0) he
        clear HT7 HM7 HP7 REF HZ7 hPZ7 HX HZP7 he
        go_wp2
        refine bodyPost_ret (v := .tuple #[.agg #[.int .i64 0, .int .u64 0, .int .u64 0], .int .i64 e7]) (by simp [results, Try.f32, go_sem, r0, r1, r2]) rfl ?_
        exact ⟨0, 0, e7, s7, hx, by omega, by omega, by omega, by omega, by rw [hv], hL.out⟩
    · obtain rfl : j = zs.length := by have := HG.out; omega
      obtain rfl : gk = 0 := by have := HG.out; omega
      have hx : Hid (pCut first count zs s = (f, c, 0, sx)) := Lib.hid (by rw [HX.out, HPZ.out]; simp [pZero])
      have hsz3 : Hid (Lft t n F0 w0 sx (((wr.setCell ⟨rb, 0, none⟩ (.int .i64 kd)).setCell ⟨rb, 1, none⟩ (.int .u64 f)).setCell ⟨rb, 2, none⟩ (.int .u64 c))) := Lib.hid
        ⟨fx, bx, Fx, ((HT.out.set (p := ⟨rb, 0, none⟩) HP.out.nr _).set (p := ⟨rb, 1, none⟩) HP.out.nr _).set (p := ⟨rb, 2, none⟩) HP.out.nr _, ((HM.out.set (p := ⟨rb, 0, none⟩) (.inr (.inr hsz)) _).set (p := ⟨rb, 1, none⟩) (.inr (.inr hsz)) _).set (p := ⟨rb, 2, none⟩) (.inr (.inr hsz)) _⟩
      have hBx := ((HP.out.r.set_ 0 (.int .i64 kd)).set_ 1 (.int .u64 f)).set_ 2 (.int .u64 c)
      have x0 := hBx.cell 0
      have x1 := hBx.cell 1
      have x2 := hBx.cell 2
      simp at x0 x1 x2
      clear HT HP HM HZ HZP REF HX HPZ hBx hj
      go_wp2
      refine bodyPost_ret (v := .tuple #[.agg #[.int .i64 kd, .int .u64 f, .int .u64 c], .int .i64 0]) (by simp [results, Try.f32, go_sem, x0, x1, x2]) rfl ?_
      exact ⟨f, c, 0, sx, hx, by omega, by omega, by omega, by omega, rfl, hsz3.out⟩
end Go.Proofs.Ytcgdpclhlepofaa
/- A queue's chain taken out, a part laid back, by contract. -/
namespace Go.Proofs.Ytcgdpclhlepofaa
open Go.RowKit
set_option maxHeartbeats 4000000
set_option linter.unusedVariables false
set_option linter.unusedSimpArgs false

set_option maxRecDepth 100000 in
theorem pqueue_b {t n : Nat} {F F0 : Nat → Prop} {s : St} {q : Int} {w w0 : World}
    (hw : Txw w t F s) (hf : Fits s) (hb : Bud s (n + 5)) (h1 : 0 ≤ q) (h1' : q ≤ 18446744073709551615) (hm : Fr F0 w0 F w) :
    Calls Try.prog 7 #[.iface 26 (.pointer (some ⟨t, 0, none⟩)), .int .u64 q] w fun e w' =>
      ∃ f c er s', Hid (pQueue q s = (f, c, er, s')) ∧ 0 ≤ f ∧ f ≤ 18446744073709551615 ∧ 0 ≤ c ∧ c ≤ 18446744073709551615 ∧ e = .returned (.tuple #[partv 1 f c er, .int .i64 er]) ∧ Lft t n F0 w0 s' w' := by
  have hE1 : (w.alloc (.cells #[.int .i64 0, .int .u64 0, .int .u64 0] 25)).heap.size = w.heap.size + 1 := by simp
  have hBr := Blk.new w 25 #[.int .i64 0, .int .u64 0, .int .u64 0]
  have hT := (hw.alloc (.cells #[.int .i64 0, .int .u64 0, .int .u64 0] 25)).alloc (.cells (u64s [q, uAdd q 1, uAdd q 2]).toArray 23)
  have hM := (hm.alloc (.cells #[.int .i64 0, .int .u64 0, .int .u64 0] 25)).alloc (.cells (u64s [q, uAdd q 1, uAdd q 2]).toArray 23)
  have hL := Lies.new (w.alloc (.cells #[.int .i64 0, .int .u64 0, .int .u64 0] 25)) [q, uAdd q 1, uAdd q 2] (by simp)
  have hBr2 := hBr.alloc (.cells (u64s [q, uAdd q 1, uAdd q 2]).toArray 23)
  rw [hE1] at hL
  have hFr : ¬ F w.heap.size := fun h => by have := hw.lt _ h; omega
  have hFl : ¬ F (w.heap.size + 1) := fun h => by have := hw.lt _ h; omega
  have hsz : w0.heap.size ≤ w.heap.size := hm.size
  clear hw hm
  go_enter Try.func7, Try.ntmps7
  go_wp2_with fail
  have u1 : ∀ a : Int, IntKind.u64.wrap (q + a) = uAdd q a := fun a => rfl
  simp only [u1]
  refine (pcut_b (kd := 1) (n := n) hT hf (by simpa using hb) hL (by simp) (fun k hk => by
    obtain rfl : w.heap.size + 1 = k := by simpa [own, Value.ownBlock] using hk
    exact hFl) (fun k hk => by
    obtain rfl : w.heap.size + 1 = k := by simpa [own, Value.ownBlock] using hk
    simp) (fun x hx => by
    simp at hx
    rcases hx with rfl | rfl | rfl
    · omega
    · exact uAdd_bd _ _
    · exact uAdd_bd _ _) h1 h1' (uAdd_bd _ _).1 (uAdd_bd _ _).2 (Fr.refl F _)).mono ?_
  rintro _ w3 ⟨f, c, er, s3, q3, df, df', dc, dc', rfl, f3, b3, F3, hT3, hm3⟩
  have hB3 := hm3.blk hBr2 hFr
  have hF3 : ¬ F3 w.heap.size := hm3.not_in hBr2.lt hFr
  have hM3 := hM.trans hm3
  have q3 : Hid (pQueue q s = (f, c, er, s3)) := q3
  have z0 := hB3.frozen 0
  have z1 := hB3.frozen 1
  have z2 := hB3.frozen 2
  have d0 := hB3.cell 0
  have d1 := hB3.cell 1
  have d2 := hB3.cell 2
  simp only [List.getElem?_toArray, List.getElem?_cons_zero, List.getElem?_cons_succ] at d0 d1 d2
  have HFIN : Hid (∀ (a : Int) (b c : Int), Lft t n F0 w0 s3 (((w3.setCell ⟨w.heap.size, 0, none⟩ (.int .i64 a)).setCell ⟨w.heap.size, 1, none⟩ (.int .u64 b)).setCell ⟨w.heap.size, 2, none⟩ (.int .u64 c)) ∧ Blk (((w3.setCell ⟨w.heap.size, 0, none⟩ (.int .i64 a)).setCell ⟨w.heap.size, 1, none⟩ (.int .u64 b)).setCell ⟨w.heap.size, 2, none⟩ (.int .u64 c)) w.heap.size 25 #[.int .i64 a, .int .u64 b, .int .u64 c]) := Lib.hid fun a b c =>
    ⟨⟨f3, b3, F3, ((hT3.set (p := ⟨w.heap.size, 0, none⟩) hF3 _).set (p := ⟨w.heap.size, 1, none⟩) hF3 _).set (p := ⟨w.heap.size, 2, none⟩) hF3 _, ((hM3.set (p := ⟨w.heap.size, 0, none⟩) (.inr (.inr hsz)) _).set (p := ⟨w.heap.size, 1, none⟩) (.inr (.inr hsz)) _).set (p := ⟨w.heap.size, 2, none⟩) (.inr (.inr hsz)) _⟩,
      by simpa using ((hB3.set_ 0 (.int .i64 a)).set_ 1 (.int .u64 b)).set_ 2 (.int .u64 c)⟩
  clear hBr hT hM hL hBr2 hFr hFl hB3 hM3 hm3 hT3 hF3 hf hb
  by_cases he : er = 0
  · subst he
    have hv : partv ((1 : Nat) : Int) f c 0 = .agg #[.int .i64 1, .int .u64 f, .int .u64 c] := if_pos rfl
    rw [hv]
    obtain ⟨hL, hB⟩ := HFIN.out 1 f c
    have hL := Lib.hid hL
    have x0 := hB.cell 0
    have x1 := hB.cell 1
    have x2 := hB.cell 2
    simp only [List.getElem?_toArray, List.getElem?_cons_zero, List.getElem?_cons_succ] at x0 x1 x2
    clear hv hB HFIN
    go_wp2
    refine bodyPost_ret (v := .tuple #[.agg #[.int .i64 1, .int .u64 f, .int .u64 c], .int .i64 0]) (by simp [results, Try.f7, go_sem, x0, x1, x2]) rfl ?_
    exact ⟨f, c, 0, s3, q3, df, df', dc, dc', by unfold partv; rw [if_pos rfl], hL.out⟩
  · rw [partv_no he]
    obtain ⟨hL, hB⟩ := HFIN.out 0 0 0
    have hL := Lib.hid hL
    have x0 := hB.cell 0
    have x1 := hB.cell 1
    have x2 := hB.cell 2
    simp only [List.getElem?_toArray, List.getElem?_cons_zero, List.getElem?_cons_succ] at x0 x1 x2
    have HE := Lib.hid he
    clear hB HFIN he
    go_wp2
    refine bodyPost_ret (v := .tuple #[.agg #[.int .i64 0, .int .u64 0, .int .u64 0], .int .i64 er]) (by simp [results, Try.f7, go_sem, x0, x1, x2]) rfl ?_
    exact ⟨f, c, er, s3, q3, df, df', dc, dc', by rw [partv_no HE.out], hL.out⟩
end Go.Proofs.Ytcgdpclhlepofaa
/- A part laid back, by contract. -/
namespace Go.Proofs.Ytcgdpclhlepofaa
open Go.RowKit
set_option maxHeartbeats 4000000
set_option linter.unusedVariables false
set_option linter.unusedSimpArgs false

theorem pPuts_drop {q : Int} {l : List Int} {j : Nat} (hj : j < l.length) {s s1 : St} {e : Int} (h : sput s (uAdd q j) (l.getD j 0) = (e, s1)) : pPuts q (l.drop j) j s = if (e != 0) = true then (e, s1) else pPuts q (l.drop (j + 1)) (j + 1) s1 := by
  rw [List.drop_eq_getElem_cons hj]
  have e1 : l[j] = l.getD j 0 := by rw [List.getD_eq_getElem?_getD, List.getElem?_eq_getElem hj]; rfl
  rw [e1, pPuts, h]
theorem lastOf_bd (l : List Int) : 0 ≤ lastOf l ∧ lastOf l ≤ 18446744073709551615 := by
  unfold lastOf
  split
  · exact uAdd_bd _ _
  · omega
set_option maxRecDepth 100000 in
theorem pback_b {t n : Nat} {F F0 : Nat → Prop} {s : St} {q kind first count : Int} {w w0 : World}
    (hw : Txw w t F s) (hf : Fits s) (hb : Bud s (n + 3 + 3 * 65537 + 1)) (h1 : 0 ≤ q) (h1' : q ≤ 18446744073709551615) (h2 : 0 ≤ first) (h2' : first ≤ 18446744073709551615) (h3 : 0 ≤ count) (h3' : count ≤ 18446744073709551615) (hm : Fr F0 w0 F w) :
    Calls Try.prog 16 #[.iface 26 (.pointer (some ⟨t, 0, none⟩)), .int .u64 q, .agg #[.int .i64 kind, .int .u64 first, .int .u64 count]] w fun e w' =>
      ∃ er s', Hid (pBack q kind first count s = (er, s')) ∧ e = .returned (.int .i64 er) ∧ Lft t n F0 w0 s' w' := by
  have hT := hw.alloc (.cells #[.int .i64 kind, .int .u64 first, .int .u64 count] 25)
  have hM := hm.alloc (.cells #[.int .i64 kind, .int .u64 first, .int .u64 count] 25)
  have hB := Blk.new w 25 #[.int .i64 kind, .int .u64 first, .int .u64 count]
  have hBF : ¬ F w.heap.size := fun h => by have := hw.lt _ h; omega
  clear hw hm
  by_cases hk : kind = 1
  case neg =>
    have z : (kind != 1) = true := by simpa using hk
    have hx : Hid (pBack q kind first count s = (2, s)) := Lib.hid (by unfold pBack; rw [if_pos hk])
    have hT := Lib.hid hT
    have hM := Lib.hid hM
    clear hk hB
    go_enter Try.func16, Try.ntmps16
    go_wp2
    first | (go_ret; exact ⟨2, s, hx, rfl, hf, hb.mono (by omega), F, hT.out, hM.out⟩) | (go_step3; go_wp2; trace_state; sorry)
  subst hk
  have d0 := hB.cell 0
  have d1 := hB.cell 1
  have d2 := hB.cell 2
  simp only [List.getElem?_toArray, List.getElem?_cons_zero, List.getElem?_cons_succ] at d0 d1 d2
  have HB := Lib.hid hB
  go_enter Try.func16, Try.ntmps16
  go_wp2_with fail
  generalize w.alloc (.cells #[.int .i64 1, .int .u64 first, .int .u64 count] 25) = w1 at *
  generalize w.heap.size = pb at *
  have hb' : Bud s ((n + 3 + 3 * 65537) + 1) := hb
  refine (tget_b hT hf hb' h1 (Fr.refl F _)).mono ?_
  rintro _ w3 ⟨f, e3, s3, q3, df, df', rfl, f3, b3, F3, hT3, hm3⟩
  have HB3 := Lib.hid (hm3.blk HB.out hBF)
  have hF3 : ¬ F3 pb := hm3.not_in HB.out.lt hBF
  have HT3 := Lib.hid hT3
  have HM3 := Lib.hid (hM.trans hm3)
  clear hT hM hB hm3 hT3 HB d0 d1 d2 hb hb' hf
  by_cases he : e3 = 0
  case neg =>
    have z : (e3 != 0) = true := by simpa using he
    have hx : Hid (pBack q 1 first count s = (e3, s3)) := Lib.hid (by unfold pBack; rw [if_neg (by decide), q3.out]; simp only; rw [if_pos z])
    clear he
    go_wp2
    go_ret
    exact ⟨e3, s3, hx, rfl, f3, b3.mono (by omega), F3, HT3.out, HM3.out⟩
  subst he
  by_cases hf0 : f = 0
  case neg =>
    have z : (f != 0) = true := by simpa using hf0
    have hx : Hid (pBack q 1 first count s = (2, s3)) := Lib.hid (by unfold pBack; rw [if_neg (by decide), q3.out]; simp only; rw [if_neg (by decide), if_pos z])
    clear hf0
    go_wp2
    go_ret
    exact ⟨2, s3, hx, rfl, f3, b3.mono (by omega), F3, HT3.out, HM3.out⟩
  subst hf0
  have d0 := HB3.out.cell 0
  have d1 := HB3.out.cell 1
  have d2 := HB3.out.cell 2
  simp only [List.getElem?_toArray, List.getElem?_cons_zero, List.getElem?_cons_succ] at d0 d1 d2
  have hQ : Hid (pBack q 1 first count s = match pNodes 1 first count s3 with | (l, e2, s2) => if (e2 != 0) = true then (e2, s2) else pPuts q [first, lastOf l, count] 0 s2) := Lib.hid (by unfold pBack; rw [if_neg (by decide), q3.out]; simp only; rw [if_neg (by decide), if_neg (by decide)])
  clear q3 df df'
  go_wp2_with fail
  refine (pnodes_b (n := n + 3) HT3.out f3 (b3.mono (by omega)) h2 h2' h3 h3' (Fr.refl F3 _)).mono ?_
  rintro _ w5 ⟨v5, l5, e5, s5, q5, rfl, f5, b5, hv5, hvo5, F5, hT5, hm5, hvF5⟩
  have HB5 := Lib.hid (hm5.blk HB3.out hF3)
  have hF5 : ¬ F5 pb := hm5.not_in HB3.out.lt hF3
  have HT5 := Lib.hid hT5
  have HM5 := Lib.hid (HM3.out.trans hm5)
  have HV5 := Lib.hid hv5
  obtain ⟨A5, c5, rfl, hc5⟩ := hv5.shape
  have HVF := Lib.hid hvF5
  clear hT5 hm5 hv5 HB3 HT3 HM3 f3 b3 d0 d1 d2 hvF5 hF3
  by_cases he : e5 = 0
  case neg =>
    have z : (e5 != 0) = true := by simpa using he
    have hx : Hid (pBack q 1 first count s = (e5, s5)) := Lib.hid (by rw [hQ.out, q5.out]; simp only; rw [if_pos z])
    clear he
    go_wp2
    go_ret
    exact ⟨e5, s5, hx, rfl, f5, b5.mono (by omega), F5, HT5.out, HM5.out⟩
  subst he
  have hQ2 : Hid (pBack q 1 first count s = pPuts q [first, lastOf l5, count] 0 s5) := Lib.hid (by rw [hQ.out, q5.out]; simp only; rw [if_neg (by decide)])
  have d0 := HB5.out.cell 0
  have d1 := HB5.out.cell 1
  have d2 := HB5.out.cell 2
  simp only [List.getElem?_toArray, List.getElem?_cons_zero, List.getElem?_cons_succ] at d0 d1 d2
  clear hQ q5
  -- the last node's link
  have hll : Hid ((l5 = [] ∧ lastOf l5 = 0) ∨ ∃ (g o : Nat) (x : Int), A5 = some ⟨g, o, none⟩ ∧ 0 < l5.length ∧ w5.cell? ⟨g, o + (l5.length - 1), none⟩ = some (.int .u64 x) ∧ lastOf l5 = IntKind.u64.wrap (x + 1)) := Lib.hid (by
    by_cases hl : l5 = []
    · exact .inl ⟨hl, by rw [hl]; rfl⟩
    · right
      have hpos : 0 < l5.length := List.length_pos_iff.2 hl
      obtain ⟨g, o, hA, _, hc, _⟩ := HV5.out.upd (j := l5.length - 1) (by omega)
      refine ⟨g, o, l5.getD (l5.length - 1) 0, hA, hpos, hc, ?_⟩
      unfold lastOf
      rw [List.getLast?_eq_getElem?, List.getD_eq_getElem?_getD, List.getElem?_eq_getElem (by omega)]
      rfl)
  have hlb := lastOf_bd l5
  have hlen5 : Hid (l5.length ≤ 9223372036854775807) := Lib.hid (by
    rcases HV5.out.2 with ⟨_, h0⟩ | ⟨_, _, _, _, _, _, _, h4, h5, _⟩
    · omega
    · unfold maxLen at h5; omega)
  have hli : (l5.length : Int) ≤ 9223372036854775807 := by have := hlen5.out; omega
  obtain ⟨la, hla⟩ : ∃ la, lastOf l5 = la := ⟨_, rfl⟩
  rw [hla] at hQ2 hlb hll
  clear hla
  have HT6 := Lib.hid (HT5.out.alloc (.cells #[.int .u64 first, .int .u64 la, .int .u64 count] 23))
  have HM6 := Lib.hid (HM5.out.alloc (.cells #[.int .u64 first, .int .u64 la, .int .u64 count] 23))
  have HL6 : Hid (Lies (w5.alloc (.cells #[.int .u64 first, .int .u64 la, .int .u64 count] 23)) (.slice (some ⟨w5.heap.size, 0, none⟩) 3 3) [first, la, count]) := Lib.hid (Lies.new w5 [first, la, count] (by simp))
  have hF6 : Hid (∀ k, own (.slice (some ⟨w5.heap.size, 0, none⟩) 3 3) k → ¬ F5 k ∧ k < (w5.alloc (.cells #[.int .u64 first, .int .u64 la, .int .u64 count] 23)).heap.size) := Lib.hid fun k hk => by
    obtain rfl : w5.heap.size = k := by simpa [own, Value.ownBlock] using hk
    exact ⟨fun h => by have := HT5.out.lt _ h; omega, by simp⟩
  have HLB := Lib.hid hlb
  clear hlb
  have key : Hid (∀ (g o : Nat) (x : Int), 0 < l5.length → Hid (IntKind.i64.wrap ((l5.length : Int) - 1) = (l5.length : Int) - 1 ∧ ((l5.length : Int) - 1).toNat = l5.length - 1)) := Lib.hid fun _ _ _ hp => Lib.hid ⟨IntWalk.i64_in _ (by omega), by omega⟩
  rcases hll.out with ⟨hl0, rfl⟩ | ⟨g, o, x, hA, hpos, hcx, hlx⟩
  · have hl2 : l5.length = 0 := by rw [hl0]; rfl
    rw [hl2] at hc5 hli
    rw [hl2]
    clear hll hl0 hl2 HV5 HVF hvo5 hlen5 key HT5 HM5
    go_wp2_with fail
    generalize w5.alloc (.cells #[.int .u64 first, .int .u64 0, .int .u64 count] 23) = w6 at *
    generalize w5.heap.size = lb at *
    clear d0 d1 d2
    go_loopg [61] 3 (fun gk c61 wr => ∃ (j : Nat) (sx : St) (Fx : Nat → Prop), gk + j = 3 ∧ c61 = .int .i64 (j : Int) ∧ Hid (pBack q 1 first count s = pPuts q ([first, 0, count].drop j) j sx) ∧ Fits sx ∧ Bud sx (n + gk) ∧ Hid (Txw wr t Fx sx) ∧ Hid (Fr F0 w0 Fx wr) ∧ Hid (Lies wr (.slice (some ⟨lb, 0, none⟩) 3 3) [first, 0, count]) ∧ Hid (∀ k, own (.slice (some ⟨lb, 0, none⟩) 3 3) k → ¬ Fx k ∧ k < wr.heap.size))
    case atStart => exact ⟨0, s5, F5, rfl, rfl, hQ2, f5, b5, HT6, HM6, HL6, hF6⟩
    case round =>
      obtain ⟨j, sx, Fx, hgk, rfl, HP, fx, bx, HT, HM, HL, HO⟩ := hrel
      have HG := Lib.hid hgk
      clear hgk HT6 HM6 HL6 hF6 f5 b5 hQ2
      by_cases hj : j < 3
      · obtain ⟨g1, rfl⟩ : ∃ g1, gk = g1 + 1 := ⟨gk - 1, by have := HG.out; omega⟩
        obtain ⟨A2, c2, e1, hc2, _, hcs⟩ := HL.out
        rw [Value.slice.injEq] at e1
        obtain ⟨rfl, -, rfl⟩ := e1
        obtain ⟨gz, oz, hA, hc⟩ := hcs j hj
        simp only [Option.some.injEq, Addr.mk.injEq, and_true] at hA
        obtain ⟨rfl, rfl⟩ := hA
        rw [Nat.zero_add] at hc
        have hP2 := Lib.hid fun (e : Int) (s1 : St) (h : sput sx (uAdd q j) (([first, 0, count] : List Int).getD j 0) = (e, s1)) => HP.out.trans (pPuts_drop (l := [first, 0, count]) hj h)
        have hxb : 0 ≤ ([first, 0, count] : List Int).getD j 0 ∧ ([first, 0, count] : List Int).getD j 0 ≤ 18446744073709551615 := by
          rcases (show j = 0 ∨ j = 1 ∨ j = 2 by omega) with rfl | rfl | rfl
          · exact ⟨h2, h2'⟩
          · exact HLB.out
          · exact ⟨h3, h3'⟩
        obtain ⟨hx1, hx2⟩ := hxb
        have hji : (j : Int) < 3 := by omega
        have hjw : IntKind.u64.wrap (j : Int) = j := IntWalk.u64_in _ (by omega)
        have hu : IntKind.u64.wrap (q + j) = uAdd q j := rfl
        clear hcs HP
        generalize ([first, 0, count] : List Int).getD j 0 = xj at *
        have bx : Bud sx ((n + g1) + 1) := bx
        go_wp2_with fail
        refine (tput_b HT.out fx bx (uAdd_bd _ _).1 hx1 hx2 (Fr.refl Fx _)).mono ?_
        rintro _ w7 ⟨e7, s7, q7, rfl, f7, b7, F7, hT7, hm7⟩
        have HT7 := Lib.hid hT7
        have HM7 := Lib.hid (HM.out.trans hm7)
        have HL7 := Lib.hid (lies_fr HL.out hm7 fun k hk => (HO.out k hk).1)
        have HO7 : Hid (∀ k, own (.slice (some ⟨lb, 0, none⟩) 3 3) k → ¬ F7 k ∧ k < w7.heap.size) := Lib.hid fun k hk => ⟨fun h => (hm7.new k h).elim (HO.out k hk).1 fun h2 => by have := (HO.out k hk).2; omega, by have := (HO.out k hk).2; have := hm7.size; omega⟩
        have hP7 := Lib.hid (hP2.out e7 s7 q7.out)
        clear hT7 hm7 HT HM HL HO hP2 q7 hc
        by_cases he : e7 = 0
        · subst he
          have hP8 : Hid (pBack q 1 first count s = pPuts q ([first, 0, count].drop (j + 1)) ((j + 1 : Nat) : Int) s7) := Lib.hid (by rw [hP7.out, if_neg (by decide)]; simp)
          clear hP7 hu hjw
          go_wp2
          go_roundg g1
          case measure => omega
          case rel => exact ⟨j + 1, s7, F7, by have := HG.out; omega, by go_num, hP8, f7, b7, HT7, HM7, HL7, HO7⟩
        · have z : (e7 != 0) = true := by simpa using he
          have hx : Hid (pBack q 1 first count s = (e7, s7)) := Lib.hid (by rw [hP7.out, if_pos z])
          clear hP7 hu hjw he
          go_wp2
          go_ret
          exact ⟨e7, s7, hx, rfl, f7, b7.mono (by omega), F7, HT7.out, HM7.out⟩
      · obtain rfl : j = 3 := by have := HG.out; omega
        obtain rfl : gk = 0 := by have := HG.out; omega
        have hx : Hid (pBack q 1 first count s = (0, sx)) := Lib.hid (by rw [HP.out]; rfl)
        clear hj
        go_wp2
        go_ret
        exact ⟨0, sx, hx, rfl, fx, bx, Fx, HT.out, HM.out⟩
  · subst hA
    obtain ⟨k1, k2⟩ := (key.out g o x hpos).out
    have hpi : (0 : Int) < l5.length := by omega
    have hxw : IntKind.u64.wrap (x + 1) = la := hlx.symm
    have hk3 : (l5.length : Int) - 1 < l5.length := by omega
    have hk4 : 0 ≤ (l5.length : Int) - 1 := by omega
    have hk5 : l5.length - 1 < l5.length := by omega
    clear hll HV5 HVF hvo5 hlen5 key HT5 HM5 hlx
    generalize l5.length = ll at *
    go_wp2_with fail
    generalize w5.alloc (.cells #[.int .u64 first, .int .u64 la, .int .u64 count] 23) = w6 at *
    generalize w5.heap.size = lb at *
    clear d0 d1 d2
    go_loopg [61] 3 (fun gk c61 wr => ∃ (j : Nat) (sx : St) (Fx : Nat → Prop), gk + j = 3 ∧ c61 = .int .i64 (j : Int) ∧ Hid (pBack q 1 first count s = pPuts q ([first, la, count].drop j) j sx) ∧ Fits sx ∧ Bud sx (n + gk) ∧ Hid (Txw wr t Fx sx) ∧ Hid (Fr F0 w0 Fx wr) ∧ Hid (Lies wr (.slice (some ⟨lb, 0, none⟩) 3 3) [first, la, count]) ∧ Hid (∀ k, own (.slice (some ⟨lb, 0, none⟩) 3 3) k → ¬ Fx k ∧ k < wr.heap.size))
    case atStart => exact ⟨0, s5, F5, rfl, rfl, hQ2, f5, b5, HT6, HM6, HL6, hF6⟩
    case round =>
      obtain ⟨j, sx, Fx, hgk, rfl, HP, fx, bx, HT, HM, HL, HO⟩ := hrel
      have HG := Lib.hid hgk
      clear hgk HT6 HM6 HL6 hF6 f5 b5 hQ2
      by_cases hj : j < 3
      · obtain ⟨g1, rfl⟩ : ∃ g1, gk = g1 + 1 := ⟨gk - 1, by have := HG.out; omega⟩
        obtain ⟨A2, c2, e1, hc2, _, hcs⟩ := HL.out
        rw [Value.slice.injEq] at e1
        obtain ⟨rfl, -, rfl⟩ := e1
        obtain ⟨gz, oz, hA, hc⟩ := hcs j hj
        simp only [Option.some.injEq, Addr.mk.injEq, and_true] at hA
        obtain ⟨rfl, rfl⟩ := hA
        rw [Nat.zero_add] at hc
        have hP2 := Lib.hid fun (e : Int) (s1 : St) (h : sput sx (uAdd q j) (([first, la, count] : List Int).getD j 0) = (e, s1)) => HP.out.trans (pPuts_drop (l := [first, la, count]) hj h)
        have hxb : 0 ≤ ([first, la, count] : List Int).getD j 0 ∧ ([first, la, count] : List Int).getD j 0 ≤ 18446744073709551615 := by
          rcases (show j = 0 ∨ j = 1 ∨ j = 2 by omega) with rfl | rfl | rfl
          · exact ⟨h2, h2'⟩
          · exact HLB.out
          · exact ⟨h3, h3'⟩
        obtain ⟨hx1, hx2⟩ := hxb
        have hji : (j : Int) < 3 := by omega
        have hjw : IntKind.u64.wrap (j : Int) = j := IntWalk.u64_in _ (by omega)
        have hu : IntKind.u64.wrap (q + j) = uAdd q j := rfl
        clear hcs HP
        generalize ([first, la, count] : List Int).getD j 0 = xj at *
        have bx : Bud sx ((n + g1) + 1) := bx
        go_wp2_with fail
        refine (tput_b HT.out fx bx (uAdd_bd _ _).1 hx1 hx2 (Fr.refl Fx _)).mono ?_
        rintro _ w7 ⟨e7, s7, q7, rfl, f7, b7, F7, hT7, hm7⟩
        have HT7 := Lib.hid hT7
        have HM7 := Lib.hid (HM.out.trans hm7)
        have HL7 := Lib.hid (lies_fr HL.out hm7 fun k hk => (HO.out k hk).1)
        have HO7 : Hid (∀ k, own (.slice (some ⟨lb, 0, none⟩) 3 3) k → ¬ F7 k ∧ k < w7.heap.size) := Lib.hid fun k hk => ⟨fun h => (hm7.new k h).elim (HO.out k hk).1 fun h2 => by have := (HO.out k hk).2; omega, by have := (HO.out k hk).2; have := hm7.size; omega⟩
        have hP7 := Lib.hid (hP2.out e7 s7 q7.out)
        clear hT7 hm7 HT HM HL HO hP2 q7 hc
        by_cases he : e7 = 0
        · subst he
          have hP8 : Hid (pBack q 1 first count s = pPuts q ([first, la, count].drop (j + 1)) ((j + 1 : Nat) : Int) s7) := Lib.hid (by rw [hP7.out, if_neg (by decide)]; simp)
          clear hP7 hu hjw
          go_wp2
          go_roundg g1
          case measure => omega
          case rel => exact ⟨j + 1, s7, F7, by have := HG.out; omega, by go_num, hP8, f7, b7, HT7, HM7, HL7, HO7⟩
        · have z : (e7 != 0) = true := by simpa using he
          have hx : Hid (pBack q 1 first count s = (e7, s7)) := Lib.hid (by rw [hP7.out, if_pos z])
          clear hP7 hu hjw he
          go_wp2
          go_ret
          exact ⟨e7, s7, hx, rfl, f7, b7.mono (by omega), F7, HT7.out, HM7.out⟩
      · obtain rfl : j = 3 := by have := HG.out; omega
        obtain rfl : gk = 0 := by have := HG.out; omega
        have hx : Hid (pBack q 1 first count s = (0, sx)) := Lib.hid (by rw [HP.out]; rfl)
        clear hj
        go_wp2
        go_ret
        exact ⟨0, sx, hx, rfl, fx, bx, Fx, HT.out, HM.out⟩
end Go.Proofs.Ytcgdpclhlepofaa
/- A part's nodes gone over, by contract. -/
namespace Go.Proofs.Ytcgdpclhlepofaa
open Go.RowKit
set_option maxHeartbeats 4000000
set_option linter.unusedVariables false
set_option linter.unusedSimpArgs false

set_option maxRecDepth 100000 in
theorem each2_b {t n gf c1 c2 : Nat} {F F0 G : Nat → Prop} {s : St} {kind first count : Int} {w w0 : World} {J : World → (Nat → Prop) → (Nat → Prop) → List Int → Prop} {step : Int → Int → List Int → St → Int × List Int × St} (HJ : JLaw t step J gf fun nd wd => #[.int .u64 nd, .int .u64 wd, .pointer (some ⟨c1, 0, none⟩), .pointer (some ⟨c2, 0, none⟩)])
    (hw : Txw w t F s) (hj : J w F G []) (hG : ∀ k, G k → k < w.heap.size) (hf : Fits s) (hb : Bud s (n + 3 * 65537)) (h1 : 0 ≤ first) (h1' : first ≤ 18446744073709551615) (h2 : 0 ≤ count) (h2' : count ≤ 18446744073709551615) (hm : Fr F0 w0 (fun k => F k ∨ G k) w) :
    Calls Try.prog 33 #[.agg #[.int .i64 kind, .int .u64 first, .int .u64 count], .func (.func 13) #[.pointer (some ⟨t, 0, none⟩)] #[], .func (.func gf) #[] #[.pointer (some ⟨c1, 0, none⟩), .pointer (some ⟨c2, 0, none⟩)]] w fun e w' =>
      ∃ er l s', Hid (pAll step kind first count s = (er, l, s')) ∧ e = .returned (.int .i64 er) ∧ LftJ t n F0 w0 J s' l w' := by
  have HJ := Lib.hid HJ
  have hpb := Blk.new w 25 #[.int .i64 kind, .int .u64 first, .int .u64 count]
  have hjw := HJ.out.keep (fun k hk => hw.lt k hk) ((Fr.refl F w).alloc (.cells #[.int .i64 kind, .int .u64 first, .int .u64 count] 25)) hj
  have hTw := hw.alloc (.cells #[.int .i64 kind, .int .u64 first, .int .u64 count] 25)
  have hMw := hm.alloc (.cells #[.int .i64 kind, .int .u64 first, .int .u64 count] 25)
  have hnb : ¬ F w.heap.size := fun h => by have := hw.lt _ h; omega
  have hng : ¬ G w.heap.size := fun h => by have := hG _ h; omega
  have d0 := hpb.cell 0
  have d1 := hpb.cell 1
  have d2 := hpb.cell 2
  simp only [List.getElem?_toArray, List.getElem?_cons_zero, List.getElem?_cons_succ] at d0 d1 d2
  have hL0 := Lib.hid (show LftJ t n F0 w0 J s [] (w.alloc (.cells #[.int .i64 kind, .int .u64 first, .int .u64 count] 25)) from ⟨by simp, hf, hb.mono (by omega), F, G, hTw, hjw, hMw⟩)
  have HP := Lib.hid hpb
  have HT := Lib.hid hTw
  have HM := Lib.hid hMw
  have HI := Lib.hid hjw
  clear hpb hTw hMw hjw hw hj hm hG
  by_cases hk : kind ≠ 1 ∧ kind ≠ 2
  · have hq : Hid (pAll step kind first count s = (2, [], s)) := Lib.hid (by unfold pAll; rw [if_pos hk])
    have k1 : (kind != 1) = true := by simpa using hk.1
    have k2 : (kind != 2) = true := by simpa using hk.2
    clear hk
    go_enter Try.func33, Try.ntmps33
    go_wp2
    go_step3
    go_wp2
    try rw [Exit.noGoto_ret]
    go_ret
    exact ⟨2, [], s, hq, rfl, hL0.out⟩
  have hkc : ((kind != 1) = false ∧ kind = 1) ∨ ((kind != 1) = true ∧ (kind != 2) = false) := by
    by_cases e1 : kind = 1
    · exact .inl ⟨by simpa using e1, e1⟩
    · by_cases e2 : kind = 2
      · exact .inr ⟨by simpa using e1, by simpa using e2⟩
      · exact absurd ⟨e1, e2⟩ hk
  have hA : Hid (pAll step kind first count s = if 65536 < count ∨ ((first == 0) != (count == 0)) = true then (360, [], s) else pEach step count 65537 first 0 [] s) := Lib.hid (by unfold pAll; rw [if_neg hk])
  have hkk : Hid (((kind != 1) = false) ∨ ((kind != 1) = true ∧ (kind != 2) = false)) := Lib.hid (hkc.imp (·.1) id)
  clear hk hkc
  go_enter Try.func33, Try.ntmps33
  go_wp2
  go_step3
  generalize hWe : w.alloc (.cells #[.int .i64 kind, .int .u64 first, .int .u64 count] 25) = w1 at *
  have hpbe : w.heap.size < w1.heap.size := by rw [← hWe]; simp
  generalize hpe : w.heap.size = pb at *
  clear hWe hpe
  by_cases hbad : 65536 < count ∨ ((first == 0) != (count == 0)) = true
  · have hq : Hid (pAll step kind first count s = (360, [], s)) := Lib.hid (by rw [hA.out, if_pos hbad])
    have hbb : Hid ((decide (65536 < count) = true) ∨ (decide (65536 < count) = false ∧ (!((first == 0) == (count == 0))) = true)) := Lib.hid (by
      by_cases e : 65536 < count
      · exact .inl (decide_eq_true e)
      · exact .inr ⟨decide_eq_false e, by simpa [bne] using hbad.resolve_left e⟩)
    clear hbad hA
    rcases hkk.out with k1 | ⟨k1, k2⟩
    all_goals rcases hbb.out with b1 | ⟨b1, b2⟩
    all_goals
      clear hkk hbb
      go_wp2
      try rw [Exit.noGoto_ret]
      go_ret
      exact ⟨360, [], s, hq, rfl, hL0.out⟩
  have hq : Hid (pAll step kind first count s = pEach step count 65537 first 0 [] s) := Lib.hid (by rw [hA.out, if_neg hbad])
  have hc6 : count ≤ 65536 := by omega
  have hcz : (!((first == 0) == (count == 0))) = false := by
    cases hh : (!((first == 0) == (count == 0))) with
    | false => rfl
    | true => exact absurd (.inr (by simpa [bne] using hh)) hbad
  have hfc : Hid (first = 0 ∨ ((0 : Nat) : Int) < count) := Lib.hid (by
    by_cases e : first = 0
    · exact .inl e
    · right
      have e2 : (first == 0) = false := by simpa using e
      rw [e2] at hcz
      have : ¬ count = 0 := fun h => by rw [h] at hcz; simp at hcz
      omega)
  have b1 : decide (65536 < count) = false := decide_eq_false (by omega)
  clear hbad hA hL0
  have hcnt := Lib.hid hc6
  have HD := Lib.hid d2
  rcases hkk.out with k1 | ⟨k1, k2⟩
  all_goals
    clear hkk
    go_wp2_with fail
    go_step3
    go_wp2_with fail
    go_loopg [7, 8] 65537 (fun gk c7 c8 wr => ∃ (k : Nat) (nx : Int) (l : List Int) (s1 : St) (F1 G1 : Nat → Prop), gk + k = 65537 ∧ c7 = .int .u64 nx ∧ c8 = .int .u64 (k : Int) ∧ 0 ≤ nx ∧ nx ≤ 18446744073709551615 ∧ l.length ≤ k ∧ Hid (nx = 0 ∨ (k : Int) < count) ∧ Hid (pAll step kind first count s = pEach step count gk nx (k : Int) l s1) ∧ Fits s1 ∧ Bud s1 (n + 3 * gk) ∧ Txw wr t F1 s1 ∧ Hid (J wr F1 G1 l) ∧ Hid (Fr F0 w0 (fun k => F1 k ∨ G1 k) wr) ∧ Hid (Blk wr pb 25 #[.int .i64 kind, .int .u64 first, .int .u64 count]) ∧ ¬ F1 pb ∧ ¬ G1 pb)
    case atStart => exact ⟨0, first, [], s, F, G, rfl, rfl, rfl, h1, h1', by simp, hfc, hq, hf, hb, HT.out, HI, HM, HP, hnb, hng⟩
    case round =>
      obtain ⟨k, nx, l, s1, F1, G1, hgk, rfl, rfl, dx, dx', hlk, hcs, hR, hf1, hb1, hT1, hJ1, hM1, hP1, hn1, hg1⟩ := hrel
      clear HT HI HM HP hnb hng hf hb hfc hq d0 d1 d2 HD
      have dP := hP1.out.cell 2
      simp only [List.getElem?_toArray, List.getElem?_cons_zero, List.getElem?_cons_succ] at dP
      by_cases h0 : nx = 0
      · have h0' : (nx != 0) = false := by simpa using h0
        have hq : Hid (pAll step kind first count s = (0, l, s1)) := Lib.hid (by rw [hR.out, pEach_end h0])
        have hfin : Hid (LftJ t n F0 w0 J s1 l wr) := Lib.hid ⟨by omega, hf1, hb1.mono (by omega), F1, G1, hT1, hJ1.out, hM1.out⟩
        clear h0 hT1 hcs hR
        go_wp2
        try rw [Exit.noGoto_ret]
        go_ret
        exact ⟨0, l, s1, hq, rfl, hfin.out⟩
      have h0' : (nx != 0) = true := by simpa using h0
      have hkc := hcs.out.resolve_left h0
      obtain ⟨m, rfl⟩ : ∃ m, gk = m + 1 := ⟨gk - 1, by omega⟩
      have H0 := Lib.hid h0
      obtain ⟨u1, u2⟩ := uw_bd (nx - 1)
      have hb1 : Bud s1 ((n + 3 * m + 2) + 1) := hb1
      have HG := Lib.hid hgk
      have HK := Lib.hid hlk
      have HKC := Lib.hid hkc
      have Hn := Lib.hid hn1
      have Hg := Lib.hid hg1
      clear h0 hcs hgk hlk hkc hn1 hg1
      go_wp2_with fail
      refine (tget_b hT1 hf1 hb1 u1 (Fr.refl F1 wr)).mono ?_
      rintro _ w2 ⟨x2, e2, s2, q2, dx2, dx2', rfl, f2, b2, F2, hT2, hm2⟩
      have hJ2 : Hid (J w2 F2 G1 l) := Lib.hid (HJ.out.keep (fun k hk => hT1.lt k hk) hm2 hJ1.out)
      have hM2 : Hid (Fr F0 w0 (fun k => F2 k ∨ G1 k) w2) := Lib.hid (hM1.out.trans (hm2.side G1))
      have hn2 : Hid (¬ F2 pb) := Lib.hid fun h => (hm2.new pb h).elim Hn.out fun h => by have := hP1.out.lt; omega
      have hP2 : Hid (Blk w2 pb 25 #[.int .i64 kind, .int .u64 first, .int .u64 count]) := Lib.hid (hm2.blk hP1.out Hn.out)
      have q2 : Hid (sget s1 (IntKind.u64.wrap (nx - 1)) = (x2, e2, s2)) := q2
      have b2 : Bud s2 ((n + 3 * m + 1) + 1) := b2
      clear hT1 hf1 hb1 hm2 hJ1 hM1 hP1 dP Hn
      by_cases he2 : e2 = 0
      case neg =>
        have z1 : (e2 == 0) = false := by simpa using he2
        have z2 : (e2 != 0) = true := by simpa using he2
        have hq : Hid (pAll step kind first count s = (e2, l, s2)) := Lib.hid (by rw [hR.out, pEach_e1 H0.out q2.out he2])
        have hfin : Hid (LftJ t n F0 w0 J s2 l w2) := Lib.hid ⟨by have := HG.out; have := HK.out; omega, f2, b2.mono (by omega), F2, G1, hT2, hJ2.out, hM2.out⟩
        clear he2 hT2 hR q2
        go_wp2
        try rw [Exit.noGoto_ret]
        go_ret
        exact ⟨e2, l, s2, hq, rfl, hfin.out⟩
      subst he2
      have HE := HJ.out.ent
      go_wp2_with fail
      clear HE
      refine (HJ.out.call (n := n + 3 * m + 1) hT2 f2 b2 (by have := HG.out; have := HK.out; omega) u1 u2 dx2 dx2' hJ2.out).mono ?_
      rintro _ w3 ⟨e3, l3, s3, q3, rfl, hl3, f3, b3, F3, G3, hT3, hJ3, hm3⟩
      have hM3 : Hid (Fr F0 w0 (fun k => F3 k ∨ G3 k) w3) := Lib.hid (hM2.out.trans hm3)
      have hnn : ¬ (F2 pb ∨ G1 pb) := fun h => h.elim hn2.out Hg.out
      have hlt2 := hP2.out.lt
      have hn3 : Hid (¬ F3 pb) := Lib.hid fun h => (hm3.new pb (.inl h)).elim hnn fun h => by omega
      have hg3 : Hid (¬ G3 pb) := Lib.hid fun h => (hm3.new pb (.inr h)).elim hnn fun h => by omega
      have hP3 : Hid (Blk w3 pb 25 #[.int .i64 kind, .int .u64 first, .int .u64 count]) := Lib.hid (hm3.blk hP2.out hnn)
      have hJ3 := Lib.hid hJ3
      have HL3 := Lib.hid hl3
      have b3 : Bud s3 ((n + 3 * m) + 1) := b3
      have hlen3 : Hid (l3.length ≤ 65537) := Lib.hid (by have := HG.out; have := HK.out; omega)
      clear hT2 f2 b2 hJ2 hM2 hP2 hn2 hm3 hnn hlt2 Hg hl3
      by_cases he3 : e3 = 0
      case neg =>
        have z2 : (e3 != 0) = true := by simpa using he3
        have hq : Hid (pAll step kind first count s = (e3, l3, s3)) := Lib.hid (by rw [hR.out, pEach_e2 H0.out q2.out q3.out he3])
        have hfin : Hid (LftJ t n F0 w0 J s3 l3 w3) := Lib.hid ⟨hlen3.out, f3, b3.mono (by omega), F3, G3, hT3, hJ3.out, hM3.out⟩
        clear he3 hT3 hR q2 q3
        go_wp2
        try rw [Exit.noGoto_ret]
        go_ret
        exact ⟨e3, l3, s3, hq, rfl, hfin.out⟩
      subst he3
      go_wp2_with fail
      refine (tget_b hT3 f3 b3 (uw_bd _).1 (Fr.refl F3 w3)).mono ?_
      rintro _ w4 ⟨x4, e4, s4, q4, dx4, dx4', rfl, f4, b4, F4, hT4, hm4⟩
      have q4 : Hid (sget s3 (uAdd (IntKind.u64.wrap (nx - 1)) 1) = (x4, e4, s4)) := q4
      have hJ4 : Hid (J w4 F4 G3 l3) := Lib.hid (HJ.out.keep (fun k hk => hT3.lt k hk) hm4 hJ3.out)
      have hM4 : Hid (Fr F0 w0 (fun k => F4 k ∨ G3 k) w4) := Lib.hid (hM3.out.trans (hm4.side G3))
      have hn4 : Hid (¬ F4 pb) := Lib.hid fun h => (hm4.new pb h).elim hn3.out fun h => by have := hP3.out.lt; omega
      have hP4 : Hid (Blk w4 pb 25 #[.int .i64 kind, .int .u64 first, .int .u64 count]) := Lib.hid (hm4.blk hP3.out hn3.out)
      clear hT3 f3 b3 hm4 hJ3 hM3 hP3 hn3
      have hfin : Hid (LftJ t n F0 w0 J s4 l3 w4) := Lib.hid ⟨hlen3.out, f4, b4.mono (by omega), F4, G3, hT4, hJ4.out, hM4.out⟩
      by_cases he4 : e4 = 0
      case neg =>
        have z2 : (e4 != 0) = true := by simpa using he4
        have hq : Hid (pAll step kind first count s = (e4, l3, s4)) := Lib.hid (by rw [hR.out, pEach_e3 H0.out q2.out q3.out q4.out he4])
        clear he4 hT4 hR q2 q3 q4
        go_wp2
        try rw [Exit.noGoto_ret]
        go_ret
        exact ⟨e4, l3, s4, hq, rfl, hfin.out⟩
      subst he4
      have hR4 : Hid (pAll step kind first count s = if ((x4 == 0) == ((k : Int) + 1 == count)) = true then pEach step count m x4 ((k : Int) + 1) l3 s4 else (360, l3, s4)) := Lib.hid (by rw [hR.out, pEach_4 H0.out q2.out q3.out q4.out])
      have dP4 := hP4.out.cell 2
      simp only [List.getElem?_toArray, List.getElem?_cons_zero, List.getElem?_cons_succ] at dP4
      have hwk : IntKind.u64.wrap ((k : Int) + 1) = (k : Int) + 1 := by rw [wrap_u64_mod]; have := hcnt.out; have := HKC.out; omega
      clear hR q2 q3 q4
      cases hz : ((x4 == 0) == ((k : Int) + 1 == count))
      · have hq : Hid (pAll step kind first count s = (360, l3, s4)) := Lib.hid (by rw [hR4.out, if_neg (by rw [hz]; decide)])
        clear hR4 hT4
        go_wp2
        try rw [Exit.noGoto_ret]
        go_ret
        exact ⟨360, l3, s4, hq, rfl, hfin.out⟩
      · have hq : Hid (pAll step kind first count s = pEach step count m x4 ((k : Int) + 1) l3 s4) := Lib.hid (by rw [hR4.out, if_pos hz])
        have hcs4 : Hid (x4 = 0 ∨ (((k + 1 : Nat) : Int)) < count) := Lib.hid (by
          by_cases e : x4 = 0
          · exact .inl e
          · right
            have e2 : (x4 == 0) = false := by simpa using e
            rw [e2] at hz
            have : ¬ (k : Int) + 1 = count := fun h => by rw [h] at hz; simp at hz
            have := HKC.out
            omega)
        clear hR4
        go_wp2
        go_roundg m
        case measure => omega
        case rel => exact ⟨k + 1, x4, l3, s4, F4, G3, by have := HG.out; omega, rfl, by simp, dx4, dx4', by have := HL3.out; have := HK.out; omega, hcs4, by simpa using hq, f4, b4, hT4, hJ4, hM4, hP4, hn4.out, hg3.out⟩
end Go.Proofs.Ytcgdpclhlepofaa
/- A part's words turned, by contract. -/
namespace Go.Proofs.Ytcgdpclhlepofaa
open Go.RowKit
set_option maxHeartbeats 4000000
set_option linter.unusedVariables false
set_option linter.unusedSimpArgs false

/-- The captured put and the captured function. -/
def JTu (t c1 c2 : Nat) (w : World) (F G : Nat → Prop) (l : List Int) : Prop :=
  Blk w c1 66 #[.func (.func 11) #[.pointer (some ⟨t, 0, none⟩)] #[]] ∧ Blk w c2 37 #[.func (.func 40) #[] #[]] ∧ ¬ F c1 ∧ ¬ F c2 ∧ l = [] ∧ ∀ k, ¬ G k
theorem JTu.keep {t c1 c2 : Nat} {w w' : World} {F F' G : Nat → Prop} {l : List Int} (h : JTu t c1 c2 w F G l) (hf : Fr F w F' w') : JTu t c1 c2 w' F' G l := by
  obtain ⟨h1, h2, h3, h4, h5, h6⟩ := h
  exact ⟨hf.blk h1 h3, hf.blk h2 h4, fun h => (hf.new c1 h).elim h3 fun h => by have := h1.lt; omega, fun h => (hf.new c2 h).elim h4 fun h => by have := h2.lt; omega, h5, h6⟩

theorem dbl_b (x : Int) (w : World) : Calls Try.prog 40 #[.int .u64 x] w fun e w' => e = .returned (.int .u64 (IntKind.u64.wrap (2 * x))) ∧ w' = w := by
  go_enter Try.func40, Try.ntmps40
  go_wp2
  go_ret
  exact ⟨rfl, rfl⟩
def dbl (x : Int) : Int := IntKind.u64.wrap (2 * x)

set_option maxRecDepth 100000 in
theorem turnc_call {t c1 c2 n : Nat} {F G : Nat → Prop} {s : St} {l : List Int} {nd wd : Int} {w : World} (hw : Txw w t F s) (hf : Fits s) (hb : Bud s (n + 1)) (h1 : 0 ≤ nd) (hj : JTu t c1 c2 w F G l) :
    Calls Try.prog 35 #[.int .u64 nd, .int .u64 wd, .pointer (some ⟨c1, 0, none⟩), .pointer (some ⟨c2, 0, none⟩)] w fun e w' => ∃ er l' s', Hid (stTurn dbl nd wd l s = (er, l', s')) ∧ e = .returned (.int .i64 er) ∧ l'.length ≤ l.length + 1 ∧ Fits s' ∧ Bud s' n ∧ ∃ F' G', Txw w' t F' s' ∧ JTu t c1 c2 w' F' G' l' ∧ Fr (fun k => F k ∨ G k) w (fun k => F' k ∨ G' k) w' := by
  have hj' := hj
  obtain ⟨hB1, hB2, hF1, hF2, rfl, hG⟩ := hj'
  have d1 := hB1.cell 0
  have d2 := hB2.cell 0
  simp only [List.getElem?_toArray, List.getElem?_cons_zero] at d1 d2
  have hTd := hw.drew
  have hMd := (Fr.refl F w).drew
  have e1 : w.drew.cell? ⟨c1, 0, none⟩ = some (.func (.func 11) #[.pointer (some ⟨t, 0, none⟩)] #[]) := d1
  have e2 : w.drew.cell? ⟨c2, 0, none⟩ = some (.func (.func 40) #[] #[]) := d2
  obtain ⟨u1, u2⟩ := uw_bd (2 * wd)
  have HJ := Lib.hid hj
  have HW := Lib.hid hw
  have hb : Bud s (n + 1) := hb
  clear hj hB1 hB2 hG hw
  go_enter Try.func35, Try.ntmps35
  go_wp2_with fail
  go_region_with (first | (go_at_call 40; refine (dbl_b wd _).mono ?_; rintro _ _ ⟨rfl, rfl⟩) | (go_at_call 11; refine (tput_b hTd hf hb h1 u1 u2 hMd).mono ?_; rintro _ w3 ⟨er, s3, q, rfl, f3, b3, F3, hT3, hM3⟩))
  all_goals
    have hK := HJ.out.keep (hM3)
    have hq2 : Hid (stTurn dbl nd wd [] s = (er, [], s3)) := Lib.hid (by unfold stTurn dbl; rw [q.out])
    have hfin : Hid (Fr (fun k => F k ∨ G k) w (fun k => F3 k ∨ G k) w3) := Lib.hid (hM3.side G)
    clear q hTd hMd
    go_wp2
    go_ret
    exact ⟨er, [], s3, hq2, rfl, by simp, f3, b3, F3, G, hT3, hK, hfin.out⟩
theorem turnc_law (t c1 c2 : Nat) : JLaw t (stTurn dbl) (JTu t c1 c2) 35 (fun nd wd => #[.int .u64 nd, .int .u64 wd, .pointer (some ⟨c1, 0, none⟩), .pointer (some ⟨c2, 0, none⟩)]) :=
  ⟨fun _ _ => rfl, fun _ h2 h3 => h3.keep h2, fun h1 h2 h3 _ h5 _ _ _ h9 => turnc_call h1 h2 h3 h5 h9⟩
end Go.Proofs.Ytcgdpclhlepofaa
/- A part turned, by contract. -/
namespace Go.Proofs.Ytcgdpclhlepofaa
open Go.RowKit
set_option maxHeartbeats 4000000
set_option linter.unusedVariables false
set_option linter.unusedSimpArgs false

def LftT (t n : Nat) (F0 : Nat → Prop) (w0 : World) (s' : St) (w' : World) : Prop := Lft t n F0 w0 s' w'
set_option maxRecDepth 100000 in
theorem pturnv_b {t n : Nat} {F F0 : Nat → Prop} {s : St} {kind first count : Int} {w w0 : World}
    (hw : Txw w t F s) (hf : Fits s) (hb : Bud s (n + 3 * 65537)) (h1 : 0 ≤ first) (h1' : first ≤ 18446744073709551615) (h2 : 0 ≤ count) (h2' : count ≤ 18446744073709551615) (hm : Fr F0 w0 F w) :
    Calls Try.prog 10 #[.agg #[.int .i64 kind, .int .u64 first, .int .u64 count], .func (.func 13) #[.pointer (some ⟨t, 0, none⟩)] #[], .func (.func 11) #[.pointer (some ⟨t, 0, none⟩)] #[], .func (.func 40) #[] #[]] w fun e w' =>
      ∃ er s', Hid (pTurn dbl kind first count s = (er, s')) ∧ e = .returned (.int .i64 er) ∧ Lft t n F0 w0 s' w' := by
  have hE1 : (w.alloc (.cells #[.int .i64 kind, .int .u64 first, .int .u64 count] 25)).heap.size = w.heap.size + 1 := by simp
  have hE2 : ((w.alloc (.cells #[.int .i64 kind, .int .u64 first, .int .u64 count] 25)).alloc (.cells #[.func (.func 40) #[] #[]] 37)).heap.size = w.heap.size + 2 := by simp
  have dp := (Blk.new w 25 #[.int .i64 kind, .int .u64 first, .int .u64 count])
  have df := Blk.new (w.alloc (.cells #[.int .i64 kind, .int .u64 first, .int .u64 count] 25)) 37 #[.func (.func 40) #[] #[]]
  rw [hE1] at df
  have df0 := df.cell 0
  have dp0 := (dp.alloc (.cells #[.func (.func 40) #[] #[]] 37)).cell 0
  simp only [List.getElem?_toArray, List.getElem?_cons_zero, List.getElem?_cons_succ] at df0
  go_enter Try.func10, Try.ntmps10
  go_wp2_with fail
  have hB2 := df.alloc (.cells #[.func (.func 11) #[.pointer (some ⟨t, 0, none⟩)] #[]] 66)
  have hB1 := Blk.new ((w.alloc (.cells #[.int .i64 kind, .int .u64 first, .int .u64 count] 25)).alloc (.cells #[.func (.func 40) #[] #[]] 37)) 66 #[.func (.func 11) #[.pointer (some ⟨t, 0, none⟩)] #[]]
  rw [hE2] at hB1
  have hT := ((hw.alloc (.cells #[.int .i64 kind, .int .u64 first, .int .u64 count] 25)).alloc (.cells #[.func (.func 40) #[] #[]] 37)).alloc (.cells #[.func (.func 11) #[.pointer (some ⟨t, 0, none⟩)] #[]] 66)
  have hM := (((hm.alloc (.cells #[.int .i64 kind, .int .u64 first, .int .u64 count] 25)).alloc (.cells #[.func (.func 40) #[] #[]] 37)).alloc (.cells #[.func (.func 11) #[.pointer (some ⟨t, 0, none⟩)] #[]] 66)).into (G := fun k => F k ∨ False) fun k hk => hk.elim .inl fun h => h.elim
  have hJ : JTu t (w.heap.size + 2) (w.heap.size + 1) (((w.alloc (.cells #[.int .i64 kind, .int .u64 first, .int .u64 count] 25)).alloc (.cells #[.func (.func 40) #[] #[]] 37)).alloc (.cells #[.func (.func 11) #[.pointer (some ⟨t, 0, none⟩)] #[]] 66)) F (fun _ => False) [] :=
    ⟨hB1, hB2, fun h => by have := hw.lt _ h; omega, fun h => by have := hw.lt _ h; omega, rfl, fun _ h => h⟩
  refine (each2_b (c1 := w.heap.size + 2) (c2 := w.heap.size + 1) (turnc_law t (w.heap.size + 2) (w.heap.size + 1)) hT hJ (fun k hk => hk.elim) hf hb h1 h1' h2 h2' hM).mono ?_
  rintro _ w3 ⟨er, l, s3, hq, rfl, hlen, f3, b3, F3, G3, hT3, hJ3, hM3⟩
  have hfin : Hid (Lft t n F0 w0 s3 w3) := Lib.hid ⟨f3, b3, F3, hT3, hM3.into fun k hk => .inl (.inl hk)⟩
  have hq2 : Hid (pTurn dbl kind first count s = (er, s3)) := Lib.hid (by unfold pTurn; rw [hq.out])
  clear hT hJ hM dp df df0 dp0 hT3 hJ3 hM3 hw hm hq hB1 hB2
  go_wp2
  go_ret
  exact ⟨er, s3, hq2, rfl, hfin.out⟩
end Go.Proofs.Ytcgdpclhlepofaa
