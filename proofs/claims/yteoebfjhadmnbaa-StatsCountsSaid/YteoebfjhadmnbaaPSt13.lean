/- Shares, plain: what a thread has; what stands in memory on the way. -/
import Derived.Deep.DeepMust
import Derived.Test.YteoebfjhadmnbaaPSt2
import Derived.Test.YteoebfjhadmnbaaPSt12
namespace Go.Proofs.Yteoebfjhadmnbaa
open Go.RowKit
set_option maxHeartbeats 1000000
set_option linter.unusedVariables false
set_option linter.unusedSimpArgs false
structure An where
  n : Nat → Int
  lk : Bool
  al : Int
  re : Int
def an0 : An := ⟨fun _ => 0, false, 0, 0⟩
def anStep (a : An) (e : Ev) : An :=
  ⟨fun j => if j = e.kd.toNat then a.n e.kd.toNat + 1 else a.n j, if e.kd = 1 then false else if e.kd = 5 then true else a.lk, if e.kd = 6 ∧ a.lk = false then a.al + 1 else a.al, if e.kd = 2 ∧ e.ow = false then a.re + 1 else a.re⟩
def anF (es : List Ev) (k : Nat) : An := (es.take k).foldl anStep an0
theorem anF_one {es : List Ev} {k : Nat} (h : k < es.length) : anF es (k + 1) = anStep (anF es k) es[k] := by
  unfold anF
  rw [List.take_add_one, List.getElem?_eq_getElem h, List.foldl_append]
  rfl
structure AnOk (k : Nat) (a : An) : Prop where
  n : ∀ j, 0 ≤ a.n j ∧ a.n j ≤ k
  al : 0 ≤ a.al ∧ a.al ≤ k
  re : 0 ≤ a.re ∧ a.re ≤ k
theorem anOk_F {es : List Ev} : ∀ k, k ≤ es.length → AnOk k (anF es k)
  | 0, _ => ⟨fun j => by simp [anF, an0], by simp [anF, an0], by simp [anF, an0]⟩
  | k + 1, hk => by
    rw [anF_one (by omega)]
    have h := anOk_F (es := es) k (by omega)
    have h1 := h.n
    have h2 := h.al
    have h3 := h.re
    refine ⟨fun j => ?_, ?_, ?_⟩
    · have := h1 j
      have := h1 es[k].kd.toNat
      simp only [anStep]
      split <;> omega
    · simp only [anStep]
      split <;> omega
    · simp only [anStep]
      split <;> omega
structure Sh where
  th : Int
  be : Int
  co : Int
  al : Int
  st : Int
  ab : Int
  fa : Int
  mo : Int
  re : Int
  wr : Int
  ra : Nat
def encSh (s : Sh) : List Value := [.int .i64 s.th, .int .i64 s.be, .int .i64 s.co, .int .i64 s.al, .int .i64 s.st, .int .i64 s.ab, .int .i64 s.fa, .int .i64 s.mo, .int .i64 s.re, .int .i64 s.wr, .float .f64 s.ra]
theorem encSh_len (s : Sh) : (encSh s).length = 11 := rfl
theorem encSh_one (s : Sh) : ∀ u ∈ encSh s, u.oneCell' = true := by
  intro u hu
  simp only [encSh, List.mem_cons, List.not_mem_nil, or_false] at hu
  rcases hu with rfl | rfl | rfl | rfl | rfl | rfl | rfl | rfl | rfl | rfl | rfl <;> rfl
theorem share_info : (Try.prog.info? 42).map (fun i => (i.zero, i.size, i.bytes)) = some (some (.agg #[.int .i64 0, .int .i64 0, .int .i64 0, .int .i64 0, .int .i64 0, .int .i64 0, .int .i64 0, .int .i64 0, .int .i64 0, .int .i64 0, .float .f64 0]), 11, 88) := by kernel_rfl
def shOf (t : Int) (a : An) (r : Nat) : Sh := ⟨t, a.n 1, a.n 6, a.al, a.n 7, a.n 8, a.n 9, a.n 4, a.re, a.n 3, r⟩
/-- the class of a rate -/
def rateC (c s : Int) : Option Nat := if 0 < c + s then fop .quo (cl (floatOfInt .f64 c)) (cl (floatOfInt .f64 (c + s))) else some 0
def anT (l : List Ev) (t : Int) : An := anF (ofN l t l.length) (ofN l t l.length).length
/-- the shares of the threads below t -/
def ShL (l : List Ev) : Nat → List Sh → Prop
  | 0, ss => ss = []
  | t + 1, ss => if ofN l t l.length = [] then ShL l t ss else ∃ ss0 r, ShL l t ss0 ∧ cl r = rateC ((anT l t).n 6) ((anT l t).n 7) ∧ r < 18446744073709551616 ∧ ss = ss0 ++ [shOf t (anT l t) r]
theorem ShL.len {l : List Ev} : ∀ {t : Nat} {ss : List Sh}, ShL l t ss → ss.length ≤ t
  | 0, ss, h => by rw [show ss = [] from h]; simp
  | t + 1, ss, h => by
    unfold ShL at h
    split at h
    · have := h.len; omega
    · obtain ⟨ss0, r, h1, _, _, rfl⟩ := h
      have := h1.len
      simp; omega
/-- the share's box while its events are gone over -/
def shBox (t al re : Int) : Array Value := #[.int .i64 t, .int .i64 0, .int .i64 0, .int .i64 al, .int .i64 0, .int .i64 0, .int .i64 0, .int .i64 0, .int .i64 re, .int .i64 0, .float .f64 0]
/-- what stands in memory: the result's box, the look's, the shares so far, a thread's events, its counts, its share -/
structure ShM (w0 w : World) (b4 b8 b9 : Nat) (ov : Value) (os : List Sh) (ev : Value) (es : List Ev) (t : Int) (a : An) : Prop where
  B0 : Blk w w0.heap.size 30 #[.int .i64 0, .int .i64 0]
  B4 : Blk w b4 30 #[.int .i64 (-1), .int .i64 0]
  O : Sl 42 11 encSh w ov os
  E : Sl 27 6 encV w ev es
  A : Blk w b8 67 (ofF 13 fun i => .int .i64 (a.n i))
  S : Blk w b9 42 (shBox t a.al a.re)
  bel : Below w0.heap.size w0 w
  o4 : w0.heap.size < b4
  oo : ∀ k, own ov k → b4 < k ∧ k < b8
  oe : ∀ k, own ev k → b4 < k ∧ k < b8
  o8 : b4 < b8
  o9 : b8 < b9
section
variable {w0 w w' : World} {b4 b8 b9 : Nat} {ov ev : Value} {os : List Sh} {es : List Ev} {t : Int} {a : An}
theorem ShM.alloc (h : ShM w0 w b4 b8 b9 ov os ev es t a) (o : Obj) : ShM w0 (w.alloc o) b4 b8 b9 ov os ev es t a :=
  ⟨h.B0.alloc o, h.B4.alloc o, h.O.alloc o, h.E.alloc o, h.A.alloc o, h.S.alloc o, h.bel.alloc h.bel.size o, h.o4, h.oo, h.oe, h.o8, h.o9⟩
theorem ShM.drewN (h : ShM w0 w b4 b8 b9 ov os ev es t a) (m : Nat) : ShM w0 (w.drewN m) b4 b8 b9 ov os ev es t a :=
  ⟨h.B0.drewN m, h.B4.drewN m, h.O.drewN m, h.E.drewN m, h.A.drewN m, h.S.drewN m, below_drewNs h.bel m, h.o4, h.oo, h.oe, h.o8, h.o9⟩
theorem ShM.setA (h : ShM w0 w b4 b8 b9 ov os ev es t a) (i : Nat) (v : Int) : ShM w0 (w.setCell ⟨b8, i, none⟩ (.int .i64 v)) b4 b8 b9 ov os ev es t ⟨fun j => if j = i then v else a.n j, a.lk, a.al, a.re⟩ := by
  have o4 := h.o4
  have o8 := h.o8
  have o9 := h.o9
  refine ⟨h.B0.far (by show _ ≠ b8; omega) _, h.B4.far (by show _ ≠ b8; omega) _, h.O.set (fun hk => by have := h.oo _ hk; simp only at this; omega) _, h.E.set (fun hk => by have := h.oe _ hk; simp only at this; omega) _, ?_, h.S.far (by show _ ≠ b8; omega) _, h.bel.setCell (by show _ ≤ b8; omega) _, o4, h.oo, h.oe, o8, o9⟩
  exact (h.A.fset i (.int .i64 v)).fcongr fun j hj => by dsimp only; split <;> rfl
theorem ShM.setS (h : ShM w0 w b4 b8 b9 ov os ev es t a) (i : Nat) (u : Value) {a' : An} (hn : a'.n = a.n) (hb : (shBox t a.al a.re).setIfInBounds i u = shBox t a'.al a'.re) : ShM w0 (w.setCell ⟨b9, i, none⟩ u) b4 b8 b9 ov os ev es t a' := by
  have o4 := h.o4
  have o8 := h.o8
  have o9 := h.o9
  refine ⟨h.B0.far (by show _ ≠ b9; omega) _, h.B4.far (by show _ ≠ b9; omega) _, h.O.set (fun hk => by have := h.oo _ hk; simp only at this; omega) _, h.E.set (fun hk => by have := h.oe _ hk; simp only at this; omega) _, by rw [hn]; exact h.A.far (by show _ ≠ b9; omega) _, ?_, h.bel.setCell (by show _ ≤ b9; omega) _, o4, h.oo, h.oe, o8, o9⟩
  rw [← hb]
  exact h.S.set_ i u
theorem ShM.an (h : ShM w0 w b4 b8 b9 ov os ev es t a) {a' : An} (h1 : ∀ j, j < 13 → a'.n j = a.n j) (h2 : a'.al = a.al) (h3 : a'.re = a.re) : ShM w0 w b4 b8 b9 ov os ev es t a' :=
  ⟨h.B0, h.B4, h.O, h.E, h.A.fcongr fun j hj => by rw [h1 j hj], by rw [h2, h3]; exact h.S, h.bel, h.o4, h.oo, h.oe, h.o8, h.o9⟩
end
/-- the kinds of a history's events -/
theorem kd_bd {l : List Ev} (hok : okTo l l.length) (t : Int) : ∀ e ∈ ofN l t l.length, (1 ≤ e.kd ∧ e.kd ≤ 12) := fun e he => by
  unfold ofN at he
  obtain ⟨k, hk, rfl⟩ := List.mem_map.1 (List.mem_filter.1 he).1
  obtain ⟨hf, _⟩ := wrong_zero (hok k (by simpa using hk))
  obtain ⟨_, h1, h2⟩ := fmd_bd hf
  exact ⟨h1, h2⟩
end Go.Proofs.Yteoebfjhadmnbaa
/- known's history, plain. -/
namespace Go.Proofs.Yteoebfjhadmnbaa
set_option maxRecDepth 100000
def hist : List Ev := [⟨0, 1, 0, 0, false, 0⟩, ⟨0, 2, 1, 5, false, 0⟩, ⟨0, 7, 0, 0, false, 0⟩, ⟨0, 1, 0, 0, false, 0⟩, ⟨0, 6, 0, 0, false, 0⟩]
theorem hist_ok : okTo hist hist.length := by
  intro j hj
  have : j = 0 ∨ j = 1 ∨ j = 2 ∨ j = 3 ∨ j = 4 := by simp [hist] at hj; omega
  rcases this with rfl | rfl | rfl | rfl | rfl <;> decide +kernel
theorem hist_waits : waitsF hist = [5] := by decide +kernel
theorem hist_thr : thrF hist hist.length = 1 := by decide +kernel
theorem hist_of : ofN hist 0 hist.length = hist := by
  have e : ((List.range hist.length).map (evAt hist)) = hist := rfl
  unfold ofN
  rw [e]
  rfl
theorem hist_sh {ss : List Sh} (h : ShL hist 1 ss) : ∃ s, ss = [s] ∧ s.al = 1 ∧ s.ra = 4602678819172646912 := by
  unfold ShL at h
  rw [show ((0 : Nat) : Int) = 0 from rfl, hist_of, if_neg (by simp [hist])] at h
  obtain ⟨ss0, r, h0, h1, _, rfl⟩ := h
  have h0 : ss0 = [] := h0
  subst h0
  have e6 : (anT hist 0).n 6 = 1 := by decide +kernel
  have e7 : (anT hist 0).n 7 = 1 := by decide +kernel
  have ea : (anT hist 0).al = 1 := by decide +kernel
  rw [e6, e7] at h1
  have hr : rateC 1 1 = some 4602678819172646912 := by decide +kernel
  rw [hr] at h1
  refine ⟨_, rfl, ea, ?_⟩
  show r = _
  unfold cl at h1
  split at h1
  · cases h1
  · injection h1
end Go.Proofs.Yteoebfjhadmnbaa
/- stats.Shares by contract, of a history that can be. -/
namespace Go.Proofs.Yteoebfjhadmnbaa
open Go.RowKit
set_option maxHeartbeats 4000000
set_option linter.unusedVariables false
set_option linter.unusedSimpArgs false
set_option maxRecDepth 100000 in
theorem shares_ok {w : World} {A : Option Addr} {cp : Nat} {l : List Ev} (hL : LiesV w (.slice A l.length cp) l) (hok : okTo l l.length) :
    Calls Try.prog 7 #[.slice A l.length cp] w fun x w' => ∃ v ss, x = .returned (.tuple #[v, .agg #[.int .i64 (-1), .int .i64 0]]) ∧ ShL l (thrF l l.length).toNat ss ∧ Sl 42 11 encSh w' v ss ∧ Below w.heap.size w w' ∧ (∀ k, own v k → w.heap.size ≤ k) := by
  have hlen := Lib.hid hL.len
  have B0 := Lib.hid (Blk.new w 30 #[.int .i64 0, .int .i64 0])
  have bel0 : Hid (Below w.heap.size w (w.alloc (.cells #[.int .i64 0, .int .i64 0] 30))) := Lib.hid ((Below.refl _ _).alloc (Nat.le_refl _) _)
  have C := Lib.hid (check_b (hL.below bel0.out (Nat.le_refl _)))
  rw [odd_ok hok] at C
  have HL := Lib.hid (fun (w' : World) (hb : Below w.heap.size w w') => hL.below hb (Nat.le_refl _))
  have HK := Lib.hid (kd_bd hok)
  have hT0 := Lib.hid (thrF_bd l l.length)
  clear hL hok
  obtain ⟨T, hT⟩ : ∃ T, thrF l l.length = T := ⟨_, rfl⟩
  rw [hT] at hT0
  rw [hT]
  obtain ⟨N, hN⟩ : ∃ N : Nat, T = (N : Int) := ⟨T.toNat, by have := hT0.out; omega⟩
  subst hN
  rw [Int.toNat_natCast]
  have hNb : N ≤ 2147483648 := by have := hT0.out; omega
  replace hT := Lib.hid hT
  clear hT0
  go_enter Try.func7, Try.ntmps7
  go_wp2_with fail
  refine C.out.mono ?_
  rintro e w1 ⟨rfl, hb1⟩
  dsimp only
  have B1 := B0.out.below hb1 B0.out.lt
  have bel1 := bel0.out.trans (hb1.mono (by simp))
  have B2 := Lib.hid (B1.alloc (.cells #[.int .i64 (-1), .int .i64 0] 30))
  have D2 := Lib.hid (Blk.new w1 30 #[.int .i64 (-1), .int .i64 0])
  have bel2 := Lib.hid (bel1.alloc bel1.size (.cells #[.int .i64 (-1), .int .i64 0] 30))
  have hlt := B1.lt
  have d1 := D2.out.cell 1
  simp only [List.getElem?_toArray, List.getElem?_cons_zero, List.getElem?_cons_succ] at d1
  clear B1 bel1 B0 bel0 C hb1
  go_upto_region 4 with (fail)
  generalize w1.alloc (.cells #[.int .i64 (-1), .int .i64 0] 30) = w2 at *
  generalize w1.heap.size = b4 at *
  have hS := Lib.hid (Sl.new (enc := encSh) (e := 42) encSh_len w2 [] (by simp))
  have B3 := Lib.hid (B2.out.alloc (.cells #[] 42))
  have D3 := Lib.hid (D2.out.alloc (.cells #[] 42))
  have bel3 := Lib.hid (bel2.out.alloc bel2.out.size (.cells #[] 42))
  have hz2 := bel2.out.size
  have hb4 := D2.out.lt
  clear d1 B2 D2 bel2
  go_wp2_with fail
  have hTT := Lib.hid (threads_b (HL.out _ bel3.out))
  refine hTT.out.mono ?_
  rintro e w3 ⟨rfl, hb3⟩
  rw [hT.out]
  have HU3 : Hid (∀ k', own (.slice (some ⟨w2.heap.size, 0, none⟩) 0 0) k' → b4 < k') := Lib.hid (fun k' hk' => by have := own_new k' hk'; omega)
  have hS3 : Hid (Sl 42 11 encSh w3 (.slice (some ⟨w2.heap.size, 0, none⟩) 0 0) []) := Lib.hid (Sl.keep hS.out fun k' h => hb3.block k' (hS.out.lt k' h))
  have B4 := Lib.hid (B3.out.below hb3 B3.out.lt)
  have D4 := Lib.hid (D3.out.below hb3 D3.out.lt)
  have bel4 := Lib.hid (bel3.out.trans (hb3.mono bel3.out.size))
  clear hTT hS B3 D3 bel3 hb3
  go_wp2_with fail
  go_loopg [5, 23] N (fun gk c5 c23 wr => ∃ (t : Nat) (B : Option Addr) (cb : Nat) (ss : List Sh), gk + t = N ∧ c5 = .slice B ss.length cb ∧ c23 = .int .i64 (t : Int) ∧ Hid (ShL l t ss) ∧ Hid (Sl 42 11 encSh wr (.slice B ss.length cb) ss) ∧ Hid (Blk wr w.heap.size 30 #[.int .i64 0, .int .i64 0]) ∧ Hid (Blk wr b4 30 #[.int .i64 (-1), .int .i64 0]) ∧ Hid (Below w.heap.size w wr) ∧ Hid (∀ k', own (.slice B ss.length cb) k' → b4 < k'))
  case atStart => exact ⟨0, some ⟨w2.heap.size, 0, none⟩, 0, [], rfl, rfl, rfl, Lib.hid rfl, hS3, B4, D4, bel4, HU3⟩
  case round =>
    obtain ⟨t, B, cb, ss, hgk, rfl, rfl, HSL, HS, HB, HD, HW, HU⟩ := hrel
    have HG := Lib.hid hgk
    clear hgk hS3 B4 D4 bel4 HU3
    by_cases ht : t < N
    · obtain ⟨g, rfl⟩ : ∃ g, gk = g + 1 := ⟨gk - 1, by have := HG.out; omega⟩
      have hti : (t : Int) < N := by omega
      go_wp2_with fail
      refine (of_b (HL.out _ HW.out) (t : Int)).mono ?_
      rintro e w5 ⟨v7, rfl, hE, hb5, hu5⟩
      have hSL2 : ShL l (t + 1) = fun ss => if ofN l t l.length = [] then ShL l t ss else ∃ ss0 r, ShL l t ss0 ∧ cl r = rateC ((anT l t).n 6) ((anT l t).n 7) ∧ r < 18446744073709551616 ∧ ss = ss0 ++ [shOf t (anT l t) r] := rfl
      have hkd := HK.out (t : Int)
      have hol := ofN_len l (t : Int) l.length
      have hat : anT l (t : Int) = anF (ofN l t l.length) (ofN l t l.length).length := rfl
      generalize ofN l (t : Int) l.length = es at *
      have HS5 := Lib.hid (HS.out.keep fun k' h => hb5.block k' (HS.out.lt k' h))
      have HB5 := Lib.hid (HB.out.below hb5 HB.out.lt)
      have HD5 := Lib.hid (HD.out.below hb5 HD.out.lt)
      have HW5 := Lib.hid (HW.out.trans (hb5.mono HW.out.size))
      have hsl := HS.out.lt
      have hz5 := hb5.size
      have hd5 := HD.out.lt
      obtain ⟨A7, c7, rfl, hc7⟩ := hE.shape
      have hei : (es.length : Int) ≤ 9223372036854775807 := by have := hlen.out; omega
      replace hSL2 := Lib.hid hSL2
      replace hat := Lib.hid hat
      replace hkd := Lib.hid hkd
      by_cases h0 : es = []
      · have hl0 : (es.length : Int) = 0 := by rw [h0]; rfl
        have HSL2 : Hid (ShL l (t + 1) ss) := Lib.hid (by rw [hSL2.out]; dsimp only; rw [if_pos h0]; exact HSL.out)
        replace h0 := Lib.hid h0
        clear HS HB HD HW hE hb5 hu5 hSL2 hat hkd
        go_wp2
        go_roundg g
        case measure => omega
        case rel => exact ⟨t + 1, B, cb, ss, by have := HG.out; omega, rfl, by go_num, HSL2, HS5, HB5, HD5, HW5, HU⟩
      · have hl0 : ¬ (es.length : Int) = 0 := by
          have := List.length_pos_iff.2 h0
          omega
        replace h0 := Lib.hid h0
        go_upto_region 12 with (fail)
        have hze : (ofF 13 fun i => Value.int .i64 (an0.n i)) = #[.int .i64 0, .int .i64 0, .int .i64 0, .int .i64 0, .int .i64 0, .int .i64 0, .int .i64 0, .int .i64 0, .int .i64 0, .int .i64 0, .int .i64 0, .int .i64 0, .int .i64 0] := rfl
        have HM0 : Hid (ShM w ((w5.alloc (.cells #[.int .i64 0, .int .i64 0, .int .i64 0, .int .i64 0, .int .i64 0, .int .i64 0, .int .i64 0, .int .i64 0, .int .i64 0, .int .i64 0, .int .i64 0, .int .i64 0, .int .i64 0] 67)).alloc (.cells #[.int .i64 (t : Int), .int .i64 0, .int .i64 0, .int .i64 0, .int .i64 0, .int .i64 0, .int .i64 0, .int .i64 0, .int .i64 0, .int .i64 0, .float .f64 0] 42)) b4 w5.heap.size (w5.heap.size + 1) (.slice B ss.length cb) ss (.slice A7 es.length c7) es t an0) := Lib.hid {
          B0 := (HB5.out.alloc _).alloc _
          B4 := (HD5.out.alloc _).alloc _
          O := (HS5.out.alloc _).alloc _
          E := (hE.alloc _).alloc _
          A := by rw [hze]; exact (Blk.new w5 _ _).alloc _
          S := by
            have := Blk.new (w5.alloc (.cells #[.int .i64 0, .int .i64 0, .int .i64 0, .int .i64 0, .int .i64 0, .int .i64 0, .int .i64 0, .int .i64 0, .int .i64 0, .int .i64 0, .int .i64 0, .int .i64 0, .int .i64 0] 67)) 42 (shBox t an0.al an0.re)
            rw [World.size_alloc] at this
            exact this
          bel := (HW5.out.alloc HW5.out.size _).alloc (by have := HW5.out.size; simp; omega) _
          o4 := hlt
          oo := fun k' h => ⟨HU.out k' h, by have := hsl k' h; omega⟩
          oe := fun k' h => ⟨by have := hu5 k' h; omega, hE.lt k' h⟩
          o8 := by omega
          o9 := by omega }
        clear hze HS5 HB5 HD5 HW5 hE hu5 HS HB HD HW hb5
        generalize (w5.alloc (.cells #[.int .i64 0, .int .i64 0, .int .i64 0, .int .i64 0, .int .i64 0, .int .i64 0, .int .i64 0, .int .i64 0, .int .i64 0, .int .i64 0, .int .i64 0, .int .i64 0, .int .i64 0] 67)).alloc (.cells #[.int .i64 (t : Int), .int .i64 0, .int .i64 0, .int .i64 0, .int .i64 0, .int .i64 0, .int .i64 0, .int .i64 0, .int .i64 0, .int .i64 0, .float .f64 0] 42) = w8 at *
        generalize hb9 : w5.heap.size + 1 = b9 at *
        generalize w5.heap.size = b8 at *
        replace hb9 := Lib.hid hb9
        clear hsl
        go_wp2_with fail
        have hc7i : (es.length : Int) ≤ c7 := by omega
        go_loopg [10, 36] es.length (fun gk c10 c36 wr => ∃ k : Nat, gk + k = es.length ∧ c10 = .bool (anF es k).lk ∧ c36 = .int .i64 (k : Int) ∧ Hid (ShM w wr b4 b8 b9 (.slice B ss.length cb) ss (.slice A7 es.length c7) es t (anF es k)))
        case atStart => exact ⟨0, rfl, rfl, rfl, HM0⟩
        case round =>
          obtain ⟨k, hgk, rfl, rfl, HM⟩ := hrel
          have HG2 := Lib.hid hgk
          clear hgk HM0
          by_cases hk : k < es.length
          · obtain ⟨g2, rfl⟩ : ∃ g, gk = g + 1 := ⟨gk - 1, by have := HG2.out; omega⟩
            have hki : (k : Int) < es.length := by omega
            obtain ⟨gz, oz, rfl, -, hcc⟩ := Sl.cell encV_len (by decide) HM.out.E hk
            have q : ∀ j, j < 6 → wr.cell? ⟨gz, oz + k * 6 + j, none⟩ = (encV es[k])[j]? := fun j hj => by have := (hcc k hk j hj).1; rw [show oz + (k * 6 + j) = oz + k * 6 + j by omega] at this; exact this
            have q0 := q 0 (by decide)
            have q1 := q 1 (by decide)
            have q2 := q 2 (by decide)
            have q3 := q 3 (by decide)
            have q4 := q 4 (by decide)
            have q5 := q 5 (by decide)
            have hstep := Lib.hid (anF_one hk)
            have hao := anOk_F (es := es) k (by omega)
            obtain ⟨hk1, hk12⟩ := hkd.out _ (List.getElem_mem hk)
            generalize anF es k = a at *
            generalize es[k] = e at *
            obtain ⟨th, kd, ad, wd, ow, er⟩ := e
            dsimp only at hk1 hk12
            simp only [encV, List.getElem?_cons_zero, List.getElem?_cons_succ, Nat.add_zero] at q0 q1 q2 q3 q4 q5
            have hE1 := Lib.hid (Blk.new wr 27 #[.int .i64 th, .int .i64 kd, .int .u64 ad, .int .u64 wd, .bool ow, .int .i64 er])
            have HM1 := Lib.hid (HM.out.alloc (.cells #[.int .i64 th, .int .i64 kd, .int .u64 ad, .int .u64 wd, .bool ow, .int .i64 er] 27))
            have hl8 := HM.out.S.lt
            have ho9 := HM.out.o9
            have hal := hao.al
            have hre := hao.re
            clear hcc HM q
            go_upto_region 16 with (fail)
            have e1 := hE1.out.cell 1
            have e4 := hE1.out.cell 4
            simp only [List.getElem?_toArray, List.getElem?_cons_zero, List.getElem?_cons_succ] at e1 e4
            generalize wr.alloc (.cells #[.int .i64 th, .int .i64 kd, .int .u64 ad, .int .u64 wd, .bool ow, .int .i64 er] 27) = wz at *
            have hbx : b8 ≠ wr.heap.size := by omega
            generalize wr.heap.size = bx at *
            clear q0 q1 q2 q3 q4 q5 hl8
            have hcase : kd = 1 ∨ kd = 5 ∨ kd = 6 ∨ kd = 2 ∨ (kd ≠ 1 ∧ kd ≠ 5 ∧ kd ≠ 6 ∧ kd ≠ 2) := by omega
            rcases hcase with rfl | rfl | rfl | rfl | ⟨h1, h5, h6, h2⟩
            · have c8 := HM1.out.A.fcell (i := 1) (by omega)
              have z8 := HM1.out.A.frozen 1
              have hn8 := hao.n 1
              have HM2 := Lib.hid (HM1.out.setA 1 (a.n 1 + 1))
              have hE2 := Lib.hid (hE1.out.far (p := ⟨b8, 1, none⟩) (by show bx ≠ b8; omega) (.int .i64 (a.n 1 + 1)))
              go_upto_region 17 with (fail)
              clear HM1 hE1 e1 e4 c8 z8
              generalize wz.setCell ⟨b8, 1, none⟩ (.int .i64 (a.n 1 + 1)) = wy at *
              have e1 := hE2.out.cell 1
              have e4 := hE2.out.cell 4
              have s3 := HM2.out.S.cell 3
              have s8 := HM2.out.S.cell 8
              have y3 := HM2.out.S.frozen 3
              have y8 := HM2.out.S.frozen 8
              simp only [shBox, List.getElem?_toArray, List.getElem?_cons_zero, List.getElem?_cons_succ] at e1 e4 s3 s8
              have HM3 := HM2
              clear HM2 hE2
              go_wp2
              go_roundg g2
              case measure => omega
              case rel =>
                refine ⟨k + 1, by have := HG2.out; omega, ?_, by go_num, ?_⟩
                · rw [hstep.out]; simp [anStep]
                · rw [hstep.out]; exact Lib.hid (HM3.out.an (fun j hj => by simp [anStep]) (by simp [anStep]) (by simp [anStep]))
            · have c8 := HM1.out.A.fcell (i := 5) (by omega)
              have z8 := HM1.out.A.frozen 5
              have hn8 := hao.n 5
              have HM2 := Lib.hid (HM1.out.setA 5 (a.n 5 + 1))
              have hE2 := Lib.hid (hE1.out.far (p := ⟨b8, 5, none⟩) (by show bx ≠ b8; omega) (.int .i64 (a.n 5 + 1)))
              go_upto_region 17 with (fail)
              clear HM1 hE1 e1 e4 c8 z8
              generalize wz.setCell ⟨b8, 5, none⟩ (.int .i64 (a.n 5 + 1)) = wy at *
              have e1 := hE2.out.cell 1
              have e4 := hE2.out.cell 4
              have s3 := HM2.out.S.cell 3
              have s8 := HM2.out.S.cell 8
              have y3 := HM2.out.S.frozen 3
              have y8 := HM2.out.S.frozen 8
              simp only [shBox, List.getElem?_toArray, List.getElem?_cons_zero, List.getElem?_cons_succ] at e1 e4 s3 s8
              have HM3 := HM2
              clear HM2 hE2
              go_wp2
              go_roundg g2
              case measure => omega
              case rel =>
                refine ⟨k + 1, by have := HG2.out; omega, ?_, by go_num, ?_⟩
                · rw [hstep.out]; simp [anStep]
                · rw [hstep.out]; exact Lib.hid (HM3.out.an (fun j hj => by simp [anStep]) (by simp [anStep]) (by simp [anStep]))
            · cases hlk : a.lk
              · have c8 := HM1.out.A.fcell (i := 6) (by omega)
                have z8 := HM1.out.A.frozen 6
                have hn8 := hao.n 6
                have HM2 := Lib.hid (HM1.out.setA 6 (a.n 6 + 1))
                have hE2 := Lib.hid (hE1.out.far (p := ⟨b8, 6, none⟩) (by show bx ≠ b8; omega) (.int .i64 (a.n 6 + 1)))
                go_upto_region 17 with (fail)
                clear HM1 hE1 e1 e4 c8 z8
                generalize wz.setCell ⟨b8, 6, none⟩ (.int .i64 (a.n 6 + 1)) = wy at *
                have e1 := hE2.out.cell 1
                have e4 := hE2.out.cell 4
                have s3 := HM2.out.S.cell 3
                have s8 := HM2.out.S.cell 8
                have y3 := HM2.out.S.frozen 3
                have y8 := HM2.out.S.frozen 8
                simp only [shBox, List.getElem?_toArray, List.getElem?_cons_zero, List.getElem?_cons_succ] at e1 e4 s3 s8
                have HM3 := Lib.hid (HM2.out.setS 3 (.int .i64 (a.al + 1)) (a' := ⟨fun j => if j = 6 then a.n 6 + 1 else a.n j, a.lk, a.al + 1, a.re⟩) rfl rfl)
                clear HM2 hE2
                go_wp2
                go_roundg g2
                case measure => omega
                case rel =>
                  refine ⟨k + 1, by have := HG2.out; omega, ?_, by go_num, ?_⟩
                  · rw [hstep.out]; simp [anStep, hlk]
                  · rw [hstep.out]; exact Lib.hid (HM3.out.an (fun j hj => by simp [anStep]) (by simp [anStep, hlk]) (by simp [anStep]))
              · have c8 := HM1.out.A.fcell (i := 6) (by omega)
                have z8 := HM1.out.A.frozen 6
                have hn8 := hao.n 6
                have HM2 := Lib.hid (HM1.out.setA 6 (a.n 6 + 1))
                have hE2 := Lib.hid (hE1.out.far (p := ⟨b8, 6, none⟩) (by show bx ≠ b8; omega) (.int .i64 (a.n 6 + 1)))
                go_upto_region 17 with (fail)
                clear HM1 hE1 e1 e4 c8 z8
                generalize wz.setCell ⟨b8, 6, none⟩ (.int .i64 (a.n 6 + 1)) = wy at *
                have e1 := hE2.out.cell 1
                have e4 := hE2.out.cell 4
                have s3 := HM2.out.S.cell 3
                have s8 := HM2.out.S.cell 8
                have y3 := HM2.out.S.frozen 3
                have y8 := HM2.out.S.frozen 8
                simp only [shBox, List.getElem?_toArray, List.getElem?_cons_zero, List.getElem?_cons_succ] at e1 e4 s3 s8
                have HM3 := HM2
                clear HM2 hE2
                go_wp2
                go_roundg g2
                case measure => omega
                case rel =>
                  refine ⟨k + 1, by have := HG2.out; omega, ?_, by go_num, ?_⟩
                  · rw [hstep.out]; simp [anStep, hlk]
                  · rw [hstep.out]; exact Lib.hid (HM3.out.an (fun j hj => by simp [anStep]) (by simp [anStep, hlk]) (by simp [anStep]))
            · rcases Bool.eq_false_or_eq_true ow with how | how <;> subst how
              · have c8 := HM1.out.A.fcell (i := 2) (by omega)
                have z8 := HM1.out.A.frozen 2
                have hn8 := hao.n 2
                have HM2 := Lib.hid (HM1.out.setA 2 (a.n 2 + 1))
                have hE2 := Lib.hid (hE1.out.far (p := ⟨b8, 2, none⟩) (by show bx ≠ b8; omega) (.int .i64 (a.n 2 + 1)))
                go_upto_region 17 with (fail)
                clear HM1 hE1 e1 e4 c8 z8
                generalize wz.setCell ⟨b8, 2, none⟩ (.int .i64 (a.n 2 + 1)) = wy at *
                have e1 := hE2.out.cell 1
                have e4 := hE2.out.cell 4
                have s3 := HM2.out.S.cell 3
                have s8 := HM2.out.S.cell 8
                have y3 := HM2.out.S.frozen 3
                have y8 := HM2.out.S.frozen 8
                simp only [shBox, List.getElem?_toArray, List.getElem?_cons_zero, List.getElem?_cons_succ] at e1 e4 s3 s8
                have HM3 := HM2
                clear HM2 hE2
                go_wp2
                go_roundg g2
                case measure => omega
                case rel =>
                  refine ⟨k + 1, by have := HG2.out; omega, ?_, by go_num, ?_⟩
                  · rw [hstep.out]; simp [anStep]
                  · rw [hstep.out]; exact Lib.hid (HM3.out.an (fun j hj => by simp [anStep]) (by simp [anStep]) (by simp [anStep]))
              · have c8 := HM1.out.A.fcell (i := 2) (by omega)
                have z8 := HM1.out.A.frozen 2
                have hn8 := hao.n 2
                have HM2 := Lib.hid (HM1.out.setA 2 (a.n 2 + 1))
                have hE2 := Lib.hid (hE1.out.far (p := ⟨b8, 2, none⟩) (by show bx ≠ b8; omega) (.int .i64 (a.n 2 + 1)))
                go_upto_region 17 with (fail)
                clear HM1 hE1 e1 e4 c8 z8
                generalize wz.setCell ⟨b8, 2, none⟩ (.int .i64 (a.n 2 + 1)) = wy at *
                have e1 := hE2.out.cell 1
                have e4 := hE2.out.cell 4
                have s3 := HM2.out.S.cell 3
                have s8 := HM2.out.S.cell 8
                have y3 := HM2.out.S.frozen 3
                have y8 := HM2.out.S.frozen 8
                simp only [shBox, List.getElem?_toArray, List.getElem?_cons_zero, List.getElem?_cons_succ] at e1 e4 s3 s8
                have HM3 := Lib.hid (HM2.out.setS 8 (.int .i64 (a.re + 1)) (a' := ⟨fun j => if j = 2 then a.n 2 + 1 else a.n j, a.lk, a.al, a.re + 1⟩) rfl rfl)
                clear HM2 hE2
                go_wp2
                go_roundg g2
                case measure => omega
                case rel =>
                  refine ⟨k + 1, by have := HG2.out; omega, ?_, by go_num, ?_⟩
                  · rw [hstep.out]; simp [anStep]
                  · rw [hstep.out]; exact Lib.hid (HM3.out.an (fun j hj => by simp [anStep]) (by simp [anStep]) (by simp [anStep]))
            · obtain ⟨c, rfl⟩ := Int.eq_ofNat_of_zero_le (show 0 ≤ kd by omega)
              have k1 : ((c : Int) == 1) = false := by simp; omega
              have k5 : ((c : Int) == 5) = false := by simp; omega
              have k6 : ((c : Int) == 6) = false := by simp; omega
              have k2 : ((c : Int) == 2) = false := by simp; omega
              have c8 := HM1.out.A.fcell (i := c) (by omega)
              have z8 := HM1.out.A.frozen c
              have hn8 := hao.n c
              have HM2 := Lib.hid (HM1.out.setA c (a.n c + 1))
              have hE2 := Lib.hid (hE1.out.far (p := ⟨b8, c, none⟩) (by show bx ≠ b8; omega) (.int .i64 (a.n c + 1)))
              go_upto_region 17 with (fail)
              clear HM1 hE1 e1 e4 c8 z8
              generalize wz.setCell ⟨b8, c, none⟩ (.int .i64 (a.n c + 1)) = wy at *
              have e1 := hE2.out.cell 1
              have e4 := hE2.out.cell 4
              have s3 := HM2.out.S.cell 3
              have s8 := HM2.out.S.cell 8
              have y3 := HM2.out.S.frozen 3
              have y8 := HM2.out.S.frozen 8
              simp only [shBox, List.getElem?_toArray, List.getElem?_cons_zero, List.getElem?_cons_succ] at e1 e4 s3 s8
              have HM3 := HM2
              clear HM2 hE2
              go_wp2
              go_roundg g2
              case measure => omega
              case rel =>
                refine ⟨k + 1, by have := HG2.out; omega, ?_, by go_num, ?_⟩
                · rw [hstep.out]; simp [anStep, h1, h5]
                · rw [hstep.out]; exact Lib.hid (HM3.out.an (fun j hj => by simp [anStep]) (by simp [anStep, h6]) (by simp [anStep, h2]))
          · obtain rfl : k = es.length := by have := HG2.out; omega
            clear hk
            have HAx := Lib.hid HM.out.A
            have HSbx := Lib.hid HM.out.S
            have HOx := Lib.hid HM.out.O
            have HBx := Lib.hid HM.out.B0
            have HDx := Lib.hid HM.out.B4
            have HWx := Lib.hid HM.out.bel
            have hoo := Lib.hid HM.out.oo
            have ho4 := HM.out.o4
            have ho8 := HM.out.o8
            have ho9 := HM.out.o9
            have hao := anOk_F (es := es) es.length (Nat.le_refl _)
            obtain ⟨a, ha⟩ : ∃ a, anF es es.length = a := ⟨_, rfl⟩
            rw [ha] at HAx HSbx hao hat
            replace ha := Lib.hid ha
            clear HM
            go_upto_region 29 with (fail)
            have l1 : wr.cell? ⟨b8, 1, none⟩ = some (.int .i64 (a.n 1)) := HAx.out.fcell (i := 1) (by omega)
            have l6 : wr.cell? ⟨b8, 6, none⟩ = some (.int .i64 (a.n 6)) := HAx.out.fcell (i := 6) (by omega)
            have l7 : wr.cell? ⟨b8, 7, none⟩ = some (.int .i64 (a.n 7)) := HAx.out.fcell (i := 7) (by omega)
            have l8 : wr.cell? ⟨b8, 8, none⟩ = some (.int .i64 (a.n 8)) := HAx.out.fcell (i := 8) (by omega)
            refine wp_region_mixH (fun W' => W'.cell? ⟨b8, 1, none⟩ = some (.int .i64 (a.n 1)) ∧ W'.cell? ⟨b8, 6, none⟩ = some (.int .i64 (a.n 6)) ∧ W'.cell? ⟨b8, 7, none⟩ = some (.int .i64 (a.n 7)) ∧ W'.cell? ⟨b8, 8, none⟩ = some (.int .i64 (a.n 8))) [3, 0, 3, 0, 3, 0, 3, 0, 3, 2, 3, 2, 3, 2, 3, 2] (List.range 16) (by kernel_rfl) (by kernel_rfl) (fun _ _ h => h) ⟨l1, l6, l7, l8⟩ ?_
            repeat (first | ((first | refine wpMixH_pure rfl rfl (fun K hK => ?_) | refine wpMixH_loc rfl rfl (fun K hK => ?_) | refine wpMixH_any rfl rfl (fun K hK => ?_)); go_simp; refine hK _ _ ?_; clear hK K) | (refine wpMixH_any rfl rfl (fun K hK => ?_); rw [if_pos (by go_simp)]; apply Exists.intro; refine And.intro (fun w2 hS2 => ?_) (hK _ _ ?_); (focus (obtain ⟨hs1, hs6, hs7, hs8⟩ := hS2; go_simp; rfl)); clear hK K))
            refine wpMixH_loud rfl rfl (fun m0 K hK => ?_)
            rw [show wr.drew.drewN m0 = wr.drewN (1 + m0) from drewN_drewN wr 1 m0]
            have HAx0d := Lib.hid (HAx.out.drewN (1 + m0))
            have HSbx0d := Lib.hid (HSbx.out.drewN (1 + m0))
            have HOx0d := Lib.hid (HOx.out.drewN (1 + m0))
            have HBx0d := Lib.hid (HBx.out.drewN (1 + m0))
            have HDx0d := Lib.hid (HDx.out.drewN (1 + m0))
            have HWx0d := Lib.hid (below_drewNs HWx.out (1 + m0))
            clear HAx HSbx HOx HBx HDx HWx
            generalize wr.drewN (1 + m0) = wx0 at *
            have hc := HSbx0d.out.cell 1
            have hz := HSbx0d.out.frozen 1
            simp only [shBox, List.getElem?_toArray, List.getElem?_cons_zero, List.getElem?_cons_succ] at hc
            go_wp2_with fail
            clear hc hz
            have HAx0 := Lib.hid (HAx0d.out.far (p := ⟨b9, 1, none⟩) (by show b8 ≠ b9; omega) (.int .i64 (a.n 1)))
            have HSbx0 : Hid (Blk (wx0.setCell ⟨b9, 1, none⟩ (.int .i64 (a.n 1))) b9 42 #[.int .i64 ((t : Int)), .int .i64 (a.n 1), .int .i64 (0), .int .i64 (a.al), .int .i64 (0), .int .i64 (0), .int .i64 (0), .int .i64 (0), .int .i64 (a.re), .int .i64 (0), .float .f64 0]) := Lib.hid (HSbx0d.out.set_ 1 (.int .i64 (a.n 1)))
            have HOx0 := Lib.hid (HOx0d.out.set (p := ⟨b9, 1, none⟩) (fun h => by have := hoo.out _ h; simp only at this; omega) (.int .i64 (a.n 1)))
            have HBx0 := Lib.hid (HBx0d.out.far (p := ⟨b9, 1, none⟩) (by show _ ≠ b9; omega) (.int .i64 (a.n 1)))
            have HDx0 := Lib.hid (HDx0d.out.far (p := ⟨b9, 1, none⟩) (by show _ ≠ b9; omega) (.int .i64 (a.n 1)))
            have HWx0 := Lib.hid (HWx0d.out.setCell (p := ⟨b9, 1, none⟩) (by show _ ≤ b9; omega) (.int .i64 (a.n 1)))
            clear HAx0d HSbx0d HOx0d HBx0d HDx0d HWx0d
            generalize wx0.setCell ⟨b9, 1, none⟩ (.int .i64 (a.n 1)) = vx0 at *
            refine hK _ _ (fun _ => ⟨(HAx0.out.fcell (i := 1) (by omega)), (HAx0.out.fcell (i := 6) (by omega)), (HAx0.out.fcell (i := 7) (by omega)), (HAx0.out.fcell (i := 8) (by omega))⟩) ?_; clear hK K
            ((first | refine wpMixH_pure rfl rfl (fun K hK => ?_) | refine wpMixH_loc rfl rfl (fun K hK => ?_) | refine wpMixH_any rfl rfl (fun K hK => ?_)); go_simp; refine hK _ _ ?_; clear hK K)
            refine wpMixH_loud rfl rfl (fun m1 K hK => ?_)
            have HAx1d := Lib.hid (HAx0.out.drewN m1)
            have HSbx1d := Lib.hid (HSbx0.out.drewN m1)
            have HOx1d := Lib.hid (HOx0.out.drewN m1)
            have HBx1d := Lib.hid (HBx0.out.drewN m1)
            have HDx1d := Lib.hid (HDx0.out.drewN m1)
            have HWx1d := Lib.hid (below_drewNs HWx0.out m1)
            clear HAx0 HSbx0 HOx0 HBx0 HDx0 HWx0
            generalize vx0.drewN m1 = wx1 at *
            have hc := HSbx1d.out.cell 2
            have hz := HSbx1d.out.frozen 2
            simp only [shBox, List.getElem?_toArray, List.getElem?_cons_zero, List.getElem?_cons_succ] at hc
            go_wp2_with fail
            clear hc hz
            have HAx1 := Lib.hid (HAx1d.out.far (p := ⟨b9, 2, none⟩) (by show b8 ≠ b9; omega) (.int .i64 (a.n 6)))
            have HSbx1 : Hid (Blk (wx1.setCell ⟨b9, 2, none⟩ (.int .i64 (a.n 6))) b9 42 #[.int .i64 ((t : Int)), .int .i64 (a.n 1), .int .i64 (a.n 6), .int .i64 (a.al), .int .i64 (0), .int .i64 (0), .int .i64 (0), .int .i64 (0), .int .i64 (a.re), .int .i64 (0), .float .f64 0]) := Lib.hid (HSbx1d.out.set_ 2 (.int .i64 (a.n 6)))
            have HOx1 := Lib.hid (HOx1d.out.set (p := ⟨b9, 2, none⟩) (fun h => by have := hoo.out _ h; simp only at this; omega) (.int .i64 (a.n 6)))
            have HBx1 := Lib.hid (HBx1d.out.far (p := ⟨b9, 2, none⟩) (by show _ ≠ b9; omega) (.int .i64 (a.n 6)))
            have HDx1 := Lib.hid (HDx1d.out.far (p := ⟨b9, 2, none⟩) (by show _ ≠ b9; omega) (.int .i64 (a.n 6)))
            have HWx1 := Lib.hid (HWx1d.out.setCell (p := ⟨b9, 2, none⟩) (by show _ ≤ b9; omega) (.int .i64 (a.n 6)))
            clear HAx1d HSbx1d HOx1d HBx1d HDx1d HWx1d
            generalize wx1.setCell ⟨b9, 2, none⟩ (.int .i64 (a.n 6)) = vx1 at *
            refine hK _ _ (fun _ => ⟨(HAx1.out.fcell (i := 1) (by omega)), (HAx1.out.fcell (i := 6) (by omega)), (HAx1.out.fcell (i := 7) (by omega)), (HAx1.out.fcell (i := 8) (by omega))⟩) ?_; clear hK K
            ((first | refine wpMixH_pure rfl rfl (fun K hK => ?_) | refine wpMixH_loc rfl rfl (fun K hK => ?_) | refine wpMixH_any rfl rfl (fun K hK => ?_)); go_simp; refine hK _ _ ?_; clear hK K)
            refine wpMixH_loud rfl rfl (fun m2 K hK => ?_)
            have HAx2d := Lib.hid (HAx1.out.drewN m2)
            have HSbx2d := Lib.hid (HSbx1.out.drewN m2)
            have HOx2d := Lib.hid (HOx1.out.drewN m2)
            have HBx2d := Lib.hid (HBx1.out.drewN m2)
            have HDx2d := Lib.hid (HDx1.out.drewN m2)
            have HWx2d := Lib.hid (below_drewNs HWx1.out m2)
            clear HAx1 HSbx1 HOx1 HBx1 HDx1 HWx1
            generalize vx1.drewN m2 = wx2 at *
            have hc := HSbx2d.out.cell 4
            have hz := HSbx2d.out.frozen 4
            simp only [shBox, List.getElem?_toArray, List.getElem?_cons_zero, List.getElem?_cons_succ] at hc
            go_wp2_with fail
            clear hc hz
            have HAx2 := Lib.hid (HAx2d.out.far (p := ⟨b9, 4, none⟩) (by show b8 ≠ b9; omega) (.int .i64 (a.n 7)))
            have HSbx2 : Hid (Blk (wx2.setCell ⟨b9, 4, none⟩ (.int .i64 (a.n 7))) b9 42 #[.int .i64 ((t : Int)), .int .i64 (a.n 1), .int .i64 (a.n 6), .int .i64 (a.al), .int .i64 (a.n 7), .int .i64 (0), .int .i64 (0), .int .i64 (0), .int .i64 (a.re), .int .i64 (0), .float .f64 0]) := Lib.hid (HSbx2d.out.set_ 4 (.int .i64 (a.n 7)))
            have HOx2 := Lib.hid (HOx2d.out.set (p := ⟨b9, 4, none⟩) (fun h => by have := hoo.out _ h; simp only at this; omega) (.int .i64 (a.n 7)))
            have HBx2 := Lib.hid (HBx2d.out.far (p := ⟨b9, 4, none⟩) (by show _ ≠ b9; omega) (.int .i64 (a.n 7)))
            have HDx2 := Lib.hid (HDx2d.out.far (p := ⟨b9, 4, none⟩) (by show _ ≠ b9; omega) (.int .i64 (a.n 7)))
            have HWx2 := Lib.hid (HWx2d.out.setCell (p := ⟨b9, 4, none⟩) (by show _ ≤ b9; omega) (.int .i64 (a.n 7)))
            clear HAx2d HSbx2d HOx2d HBx2d HDx2d HWx2d
            generalize wx2.setCell ⟨b9, 4, none⟩ (.int .i64 (a.n 7)) = vx2 at *
            refine hK _ _ (fun _ => ⟨(HAx2.out.fcell (i := 1) (by omega)), (HAx2.out.fcell (i := 6) (by omega)), (HAx2.out.fcell (i := 7) (by omega)), (HAx2.out.fcell (i := 8) (by omega))⟩) ?_; clear hK K
            ((first | refine wpMixH_pure rfl rfl (fun K hK => ?_) | refine wpMixH_loc rfl rfl (fun K hK => ?_) | refine wpMixH_any rfl rfl (fun K hK => ?_)); go_simp; refine hK _ _ ?_; clear hK K)
            refine wpMixH_loud rfl rfl (fun m3 K hK => ?_)
            have HAx3d := Lib.hid (HAx2.out.drewN m3)
            have HSbx3d := Lib.hid (HSbx2.out.drewN m3)
            have HOx3d := Lib.hid (HOx2.out.drewN m3)
            have HBx3d := Lib.hid (HBx2.out.drewN m3)
            have HDx3d := Lib.hid (HDx2.out.drewN m3)
            have HWx3d := Lib.hid (below_drewNs HWx2.out m3)
            clear HAx2 HSbx2 HOx2 HBx2 HDx2 HWx2
            generalize vx2.drewN m3 = wx3 at *
            have hc := HSbx3d.out.cell 5
            have hz := HSbx3d.out.frozen 5
            simp only [shBox, List.getElem?_toArray, List.getElem?_cons_zero, List.getElem?_cons_succ] at hc
            go_wp2_with fail
            clear hc hz
            have HAx3 := Lib.hid (HAx3d.out.far (p := ⟨b9, 5, none⟩) (by show b8 ≠ b9; omega) (.int .i64 (a.n 8)))
            have HSbx3 : Hid (Blk (wx3.setCell ⟨b9, 5, none⟩ (.int .i64 (a.n 8))) b9 42 #[.int .i64 ((t : Int)), .int .i64 (a.n 1), .int .i64 (a.n 6), .int .i64 (a.al), .int .i64 (a.n 7), .int .i64 (a.n 8), .int .i64 (0), .int .i64 (0), .int .i64 (a.re), .int .i64 (0), .float .f64 0]) := Lib.hid (HSbx3d.out.set_ 5 (.int .i64 (a.n 8)))
            have HOx3 := Lib.hid (HOx3d.out.set (p := ⟨b9, 5, none⟩) (fun h => by have := hoo.out _ h; simp only at this; omega) (.int .i64 (a.n 8)))
            have HBx3 := Lib.hid (HBx3d.out.far (p := ⟨b9, 5, none⟩) (by show _ ≠ b9; omega) (.int .i64 (a.n 8)))
            have HDx3 := Lib.hid (HDx3d.out.far (p := ⟨b9, 5, none⟩) (by show _ ≠ b9; omega) (.int .i64 (a.n 8)))
            have HWx3 := Lib.hid (HWx3d.out.setCell (p := ⟨b9, 5, none⟩) (by show _ ≤ b9; omega) (.int .i64 (a.n 8)))
            clear HAx3d HSbx3d HOx3d HBx3d HDx3d HWx3d
            generalize wx3.setCell ⟨b9, 5, none⟩ (.int .i64 (a.n 8)) = vx3 at *
            refine hK _ _ (fun _ => ⟨(HAx3.out.fcell (i := 1) (by omega)), (HAx3.out.fcell (i := 6) (by omega)), (HAx3.out.fcell (i := 7) (by omega)), (HAx3.out.fcell (i := 8) (by omega))⟩) ?_; clear hK K
            refine wpMixH_nil (fun m9 => ?_)
            have HAxe := Lib.hid (HAx3.out.drewN m9)
            have HSbxe := Lib.hid (HSbx3.out.drewN m9)
            have HOxe := Lib.hid (HOx3.out.drewN m9)
            have HBxe := Lib.hid (HBx3.out.drewN m9)
            have HDxe := Lib.hid (HDx3.out.drewN m9)
            have HWxe := Lib.hid (below_drewNs HWx3.out m9)
            clear HAx3 HSbx3 HOx3 HBx3 HDx3 HWx3
            generalize vx3.drewN m9 = wxe at *
            go_upto_region 30 with (fail)
            clear l1 l6 l7 l8
            have l9 : wxe.cell? ⟨b8, 9, none⟩ = some (.int .i64 (a.n 9)) := HAxe.out.fcell (i := 9) (by omega)
            have l4 : wxe.cell? ⟨b8, 4, none⟩ = some (.int .i64 (a.n 4)) := HAxe.out.fcell (i := 4) (by omega)
            have l3 : wxe.cell? ⟨b8, 3, none⟩ = some (.int .i64 (a.n 3)) := HAxe.out.fcell (i := 3) (by omega)
            refine wp_region_mixH (fun W' => W'.cell? ⟨b8, 9, none⟩ = some (.int .i64 (a.n 9)) ∧ W'.cell? ⟨b8, 4, none⟩ = some (.int .i64 (a.n 4)) ∧ W'.cell? ⟨b8, 3, none⟩ = some (.int .i64 (a.n 3))) [3, 0, 3, 0, 3, 0, 3, 2, 3, 2, 3, 2] (List.range 12) (by kernel_rfl) (by kernel_rfl) (fun _ _ h => h) ⟨l9, l4, l3⟩ ?_
            repeat (first | ((first | refine wpMixH_pure rfl rfl (fun K hK => ?_) | refine wpMixH_loc rfl rfl (fun K hK => ?_) | refine wpMixH_any rfl rfl (fun K hK => ?_)); go_simp; refine hK _ _ ?_; clear hK K) | (refine wpMixH_any rfl rfl (fun K hK => ?_); rw [if_pos (by go_simp)]; apply Exists.intro; refine And.intro (fun w2 hS2 => ?_) (hK _ _ ?_); (focus (obtain ⟨hs9, hs4, hs3⟩ := hS2; go_simp; rfl)); clear hK K))
            refine wpMixH_loud rfl rfl (fun m0 K hK => ?_)
            rw [show wxe.drew.drewN m0 = wxe.drewN (1 + m0) from drewN_drewN wxe 1 m0]
            have HAxe0d := Lib.hid (HAxe.out.drewN (1 + m0))
            have HSbxe0d := Lib.hid (HSbxe.out.drewN (1 + m0))
            have HOxe0d := Lib.hid (HOxe.out.drewN (1 + m0))
            have HBxe0d := Lib.hid (HBxe.out.drewN (1 + m0))
            have HDxe0d := Lib.hid (HDxe.out.drewN (1 + m0))
            have HWxe0d := Lib.hid (below_drewNs HWxe.out (1 + m0))
            clear HAxe HSbxe HOxe HBxe HDxe HWxe
            generalize wxe.drewN (1 + m0) = wxe0 at *
            have hc := HSbxe0d.out.cell 6
            have hz := HSbxe0d.out.frozen 6
            simp only [shBox, List.getElem?_toArray, List.getElem?_cons_zero, List.getElem?_cons_succ] at hc
            go_wp2_with fail
            clear hc hz
            have HAxe0 := Lib.hid (HAxe0d.out.far (p := ⟨b9, 6, none⟩) (by show b8 ≠ b9; omega) (.int .i64 (a.n 9)))
            have HSbxe0 : Hid (Blk (wxe0.setCell ⟨b9, 6, none⟩ (.int .i64 (a.n 9))) b9 42 #[.int .i64 ((t : Int)), .int .i64 (a.n 1), .int .i64 (a.n 6), .int .i64 (a.al), .int .i64 (a.n 7), .int .i64 (a.n 8), .int .i64 (a.n 9), .int .i64 (0), .int .i64 (a.re), .int .i64 (0), .float .f64 0]) := Lib.hid (HSbxe0d.out.set_ 6 (.int .i64 (a.n 9)))
            have HOxe0 := Lib.hid (HOxe0d.out.set (p := ⟨b9, 6, none⟩) (fun h => by have := hoo.out _ h; simp only at this; omega) (.int .i64 (a.n 9)))
            have HBxe0 := Lib.hid (HBxe0d.out.far (p := ⟨b9, 6, none⟩) (by show _ ≠ b9; omega) (.int .i64 (a.n 9)))
            have HDxe0 := Lib.hid (HDxe0d.out.far (p := ⟨b9, 6, none⟩) (by show _ ≠ b9; omega) (.int .i64 (a.n 9)))
            have HWxe0 := Lib.hid (HWxe0d.out.setCell (p := ⟨b9, 6, none⟩) (by show _ ≤ b9; omega) (.int .i64 (a.n 9)))
            clear HAxe0d HSbxe0d HOxe0d HBxe0d HDxe0d HWxe0d
            generalize wxe0.setCell ⟨b9, 6, none⟩ (.int .i64 (a.n 9)) = vxe0 at *
            refine hK _ _ (fun _ => ⟨(HAxe0.out.fcell (i := 9) (by omega)), (HAxe0.out.fcell (i := 4) (by omega)), (HAxe0.out.fcell (i := 3) (by omega))⟩) ?_; clear hK K
            ((first | refine wpMixH_pure rfl rfl (fun K hK => ?_) | refine wpMixH_loc rfl rfl (fun K hK => ?_) | refine wpMixH_any rfl rfl (fun K hK => ?_)); go_simp; refine hK _ _ ?_; clear hK K)
            refine wpMixH_loud rfl rfl (fun m1 K hK => ?_)
            have HAxe1d := Lib.hid (HAxe0.out.drewN m1)
            have HSbxe1d := Lib.hid (HSbxe0.out.drewN m1)
            have HOxe1d := Lib.hid (HOxe0.out.drewN m1)
            have HBxe1d := Lib.hid (HBxe0.out.drewN m1)
            have HDxe1d := Lib.hid (HDxe0.out.drewN m1)
            have HWxe1d := Lib.hid (below_drewNs HWxe0.out m1)
            clear HAxe0 HSbxe0 HOxe0 HBxe0 HDxe0 HWxe0
            generalize vxe0.drewN m1 = wxe1 at *
            have hc := HSbxe1d.out.cell 7
            have hz := HSbxe1d.out.frozen 7
            simp only [shBox, List.getElem?_toArray, List.getElem?_cons_zero, List.getElem?_cons_succ] at hc
            go_wp2_with fail
            clear hc hz
            have HAxe1 := Lib.hid (HAxe1d.out.far (p := ⟨b9, 7, none⟩) (by show b8 ≠ b9; omega) (.int .i64 (a.n 4)))
            have HSbxe1 : Hid (Blk (wxe1.setCell ⟨b9, 7, none⟩ (.int .i64 (a.n 4))) b9 42 #[.int .i64 ((t : Int)), .int .i64 (a.n 1), .int .i64 (a.n 6), .int .i64 (a.al), .int .i64 (a.n 7), .int .i64 (a.n 8), .int .i64 (a.n 9), .int .i64 (a.n 4), .int .i64 (a.re), .int .i64 (0), .float .f64 0]) := Lib.hid (HSbxe1d.out.set_ 7 (.int .i64 (a.n 4)))
            have HOxe1 := Lib.hid (HOxe1d.out.set (p := ⟨b9, 7, none⟩) (fun h => by have := hoo.out _ h; simp only at this; omega) (.int .i64 (a.n 4)))
            have HBxe1 := Lib.hid (HBxe1d.out.far (p := ⟨b9, 7, none⟩) (by show _ ≠ b9; omega) (.int .i64 (a.n 4)))
            have HDxe1 := Lib.hid (HDxe1d.out.far (p := ⟨b9, 7, none⟩) (by show _ ≠ b9; omega) (.int .i64 (a.n 4)))
            have HWxe1 := Lib.hid (HWxe1d.out.setCell (p := ⟨b9, 7, none⟩) (by show _ ≤ b9; omega) (.int .i64 (a.n 4)))
            clear HAxe1d HSbxe1d HOxe1d HBxe1d HDxe1d HWxe1d
            generalize wxe1.setCell ⟨b9, 7, none⟩ (.int .i64 (a.n 4)) = vxe1 at *
            refine hK _ _ (fun _ => ⟨(HAxe1.out.fcell (i := 9) (by omega)), (HAxe1.out.fcell (i := 4) (by omega)), (HAxe1.out.fcell (i := 3) (by omega))⟩) ?_; clear hK K
            ((first | refine wpMixH_pure rfl rfl (fun K hK => ?_) | refine wpMixH_loc rfl rfl (fun K hK => ?_) | refine wpMixH_any rfl rfl (fun K hK => ?_)); go_simp; refine hK _ _ ?_; clear hK K)
            refine wpMixH_loud rfl rfl (fun m2 K hK => ?_)
            have HAxe2d := Lib.hid (HAxe1.out.drewN m2)
            have HSbxe2d := Lib.hid (HSbxe1.out.drewN m2)
            have HOxe2d := Lib.hid (HOxe1.out.drewN m2)
            have HBxe2d := Lib.hid (HBxe1.out.drewN m2)
            have HDxe2d := Lib.hid (HDxe1.out.drewN m2)
            have HWxe2d := Lib.hid (below_drewNs HWxe1.out m2)
            clear HAxe1 HSbxe1 HOxe1 HBxe1 HDxe1 HWxe1
            generalize vxe1.drewN m2 = wxe2 at *
            have hc := HSbxe2d.out.cell 9
            have hz := HSbxe2d.out.frozen 9
            simp only [shBox, List.getElem?_toArray, List.getElem?_cons_zero, List.getElem?_cons_succ] at hc
            go_wp2_with fail
            clear hc hz
            have HAxe2 := Lib.hid (HAxe2d.out.far (p := ⟨b9, 9, none⟩) (by show b8 ≠ b9; omega) (.int .i64 (a.n 3)))
            have HSbxe2 : Hid (Blk (wxe2.setCell ⟨b9, 9, none⟩ (.int .i64 (a.n 3))) b9 42 #[.int .i64 ((t : Int)), .int .i64 (a.n 1), .int .i64 (a.n 6), .int .i64 (a.al), .int .i64 (a.n 7), .int .i64 (a.n 8), .int .i64 (a.n 9), .int .i64 (a.n 4), .int .i64 (a.re), .int .i64 (a.n 3), .float .f64 0]) := Lib.hid (HSbxe2d.out.set_ 9 (.int .i64 (a.n 3)))
            have HOxe2 := Lib.hid (HOxe2d.out.set (p := ⟨b9, 9, none⟩) (fun h => by have := hoo.out _ h; simp only at this; omega) (.int .i64 (a.n 3)))
            have HBxe2 := Lib.hid (HBxe2d.out.far (p := ⟨b9, 9, none⟩) (by show _ ≠ b9; omega) (.int .i64 (a.n 3)))
            have HDxe2 := Lib.hid (HDxe2d.out.far (p := ⟨b9, 9, none⟩) (by show _ ≠ b9; omega) (.int .i64 (a.n 3)))
            have HWxe2 := Lib.hid (HWxe2d.out.setCell (p := ⟨b9, 9, none⟩) (by show _ ≤ b9; omega) (.int .i64 (a.n 3)))
            clear HAxe2d HSbxe2d HOxe2d HBxe2d HDxe2d HWxe2d
            generalize wxe2.setCell ⟨b9, 9, none⟩ (.int .i64 (a.n 3)) = vxe2 at *
            refine hK _ _ (fun _ => ⟨(HAxe2.out.fcell (i := 9) (by omega)), (HAxe2.out.fcell (i := 4) (by omega)), (HAxe2.out.fcell (i := 3) (by omega))⟩) ?_; clear hK K
            refine wpMixH_nil (fun m9 => ?_)
            have HAxee := Lib.hid (HAxe2.out.drewN m9)
            have HSbxee := Lib.hid (HSbxe2.out.drewN m9)
            have HOxee := Lib.hid (HOxe2.out.drewN m9)
            have HBxee := Lib.hid (HBxe2.out.drewN m9)
            have HDxee := Lib.hid (HDxe2.out.drewN m9)
            have HWxee := Lib.hid (below_drewNs HWxe2.out m9)
            clear HAxe2 HSbxe2 HOxe2 HBxe2 HDxe2 HWxe2
            generalize vxe2.drewN m9 = wxee at *
            clear l9 l4 l3
            have q2 := HSbxee.out.cell 2
            have q4 := HSbxee.out.cell 4
            have q10 := HSbxee.out.cell 10
            have r10 := HSbxee.out.frozen 10
            simp only [List.getElem?_toArray, List.getElem?_cons_zero, List.getElem?_cons_succ] at q2 q4 q10
            have hn6 := hao.n 6
            have hn7 := hao.n 7
            have hsl := HSL.out.len
            have hs67 : a.n 6 + a.n 7 ≤ 9223372036854775807 := by have := hlen.out; omega
            have hs88 : Hid ((ss.length + 1) * 88 ≤ 140737488355328) := Lib.hid (by omega)
            by_cases hall : 0 < a.n 6 + a.n 7
            · have hrc := Lib.hid (show rateC (a.n 6) (a.n 7) = fop .quo (cl (floatOfInt .f64 (a.n 6))) (cl (floatOfInt .f64 (a.n 6 + a.n 7))) by unfold rateC; rw [if_pos hall])
              go_upto_region 34 with (fail)
              have hr1 := Lib.hid (cl_fres .quo (floatOfInt .f64 (a.n 6)) (floatOfInt .f64 (a.n 6 + a.n 7)) wxee)
              have hr2 := Lib.hid (fres_lt .quo (floatOfInt .f64 (a.n 6)) (floatOfInt .f64 (a.n 6 + a.n 7)) wxee)
              generalize fres .quo (floatOfInt .f64 (a.n 6)) (floatOfInt .f64 (a.n 6 + a.n 7)) wxee = r at *
              generalize fdr .quo (floatOfInt .f64 (a.n 6)) (floatOfInt .f64 (a.n 6 + a.n 7)) = dd at *
              have HSf : Hid (Blk ((wxee.drewN dd).setCell ⟨b9, 10, none⟩ (.float .f64 r)) b9 42 (encSh (shOf t a r)).toArray) := Lib.hid ((HSbxee.out.drewN dd).set_ 10 (.float .f64 r))
              have HOf := Lib.hid ((HOxee.out.drewN dd).set (p := ⟨b9, 10, none⟩) (fun h => by have := hoo.out _ h; simp only at this; omega) (.float .f64 r))
              have HBf := Lib.hid ((HBxee.out.drewN dd).far (p := ⟨b9, 10, none⟩) (by show _ ≠ b9; omega) (.float .f64 r))
              have HDf := Lib.hid ((HDxee.out.drewN dd).far (p := ⟨b9, 10, none⟩) (by show _ ≠ b9; omega) (.float .f64 r))
              have HWf := Lib.hid ((below_drewNs HWxee.out dd).setCell (p := ⟨b9, 10, none⟩) (by show _ ≤ b9; omega) (.float .f64 r))
              clear HSbxee HOxee HBxee HDxee HWxee HAxee q2 q4 q10 r10
              generalize (wxee.drewN dd).setCell ⟨b9, 10, none⟩ (.float .f64 r) = wf at *
              have HSL2 : Hid (ShL l (t + 1) (ss ++ [shOf t a r])) := Lib.hid (by rw [hSL2.out]; dsimp only; rw [if_neg h0.out]; exact ⟨ss, r, HSL.out, by rw [hat.out, hr1.out, hrc.out], hr2.out, by rw [hat.out]⟩)
              have hhw := Lib.hid (fun k' => HOf.out.lt k')
              have g0 := HSf.out.cell 0
              have g1 := HSf.out.cell 1
              have g2 := HSf.out.cell 2
              have g3 := HSf.out.cell 3
              have g4 := HSf.out.cell 4
              have g5 := HSf.out.cell 5
              have g6 := HSf.out.cell 6
              have g7 := HSf.out.cell 7
              have g8 := HSf.out.cell 8
              have g9 := HSf.out.cell 9
              have g10 := HSf.out.cell 10
              simp only [encSh, shOf, List.getElem?_toArray, List.getElem?_cons_zero, List.getElem?_cons_succ] at g0 g1 g2 g3 g4 g5 g6 g7 g8 g9 g10
              go_wp2_with (at_builtin; refine wpList_one (e := 42) (sz := 11) encSh_len encSh_one wf rfl (.tmp 105) (.tmp 107) 28 rfl Try.underlying28 share_info rfl (by decide) (.slice B ss.length cb) ss (shOf t a r) rfl HOf.out rfl (by omega) hs88.out ?_; intro A2 c2 wg hc2 hv2 hf2)
              have HU2 : ∀ k', own (.slice B ss.length cb) k' → w.heap.size ≤ k' := fun k' h => by have := HU.out k' h; omega
              have HWg := Lib.hid (HWf.out.trans (hf2.below HU2 HWf.out.size))
              have HUg : Hid (∀ k', own (.slice A2 (ss.length + 1) c2) k' → b4 < k') := Lib.hid (fun k' h => (hf2.new k' h).elim (HU.out k') fun h1 => by have := HDf.out.lt; omega)
              have HBg := Lib.hid (hf2.blk HBf.out fun h => by have := HU.out _ h; omega)
              have HDg := Lib.hid (hf2.blk HDf.out fun h => by have := HU.out _ h; omega)
              go_roundg g
              case measure => omega
              case rel => exact ⟨t + 1, A2, c2, ss ++ [shOf t a r], by have := HG.out; omega, by rw [List.length_append]; rfl, by go_num, HSL2, by rw [List.length_append]; exact Lib.hid hv2, HBg, HDg, HWg, by rw [List.length_append]; exact HUg⟩
            · have hrc := Lib.hid (show rateC (a.n 6) (a.n 7) = some 0 by unfold rateC; rw [if_neg hall])
              go_upto_region 34 with (fail)
              have HSf : Hid (Blk wxee b9 42 (encSh (shOf t a 0)).toArray) := HSbxee
              have HOf := HOxee
              have HBf := HBxee
              have HDf := HDxee
              have HWf := HWxee
              have hr1 : Hid (cl 0 = some 0) := Lib.hid (by decide)
              have hr2 : Hid (0 < 18446744073709551616) := Lib.hid (by decide)
              clear HSbxee HOxee HBxee HDxee HWxee HAxee q2 q4 q10 r10
              generalize wxee = wf at *
              have HSL2 : Hid (ShL l (t + 1) (ss ++ [shOf t a 0])) := Lib.hid (by rw [hSL2.out]; dsimp only; rw [if_neg h0.out]; exact ⟨ss, 0, HSL.out, by rw [hat.out, hr1.out, hrc.out], hr2.out, by rw [hat.out]⟩)
              have hhw := Lib.hid (fun k' => HOf.out.lt k')
              have g0 := HSf.out.cell 0
              have g1 := HSf.out.cell 1
              have g2 := HSf.out.cell 2
              have g3 := HSf.out.cell 3
              have g4 := HSf.out.cell 4
              have g5 := HSf.out.cell 5
              have g6 := HSf.out.cell 6
              have g7 := HSf.out.cell 7
              have g8 := HSf.out.cell 8
              have g9 := HSf.out.cell 9
              have g10 := HSf.out.cell 10
              simp only [encSh, shOf, List.getElem?_toArray, List.getElem?_cons_zero, List.getElem?_cons_succ] at g0 g1 g2 g3 g4 g5 g6 g7 g8 g9 g10
              go_wp2_with (at_builtin; refine wpList_one (e := 42) (sz := 11) encSh_len encSh_one wf rfl (.tmp 105) (.tmp 107) 28 rfl Try.underlying28 share_info rfl (by decide) (.slice B ss.length cb) ss (shOf t a 0) rfl HOf.out rfl (by omega) hs88.out ?_; intro A2 c2 wg hc2 hv2 hf2)
              have HU2 : ∀ k', own (.slice B ss.length cb) k' → w.heap.size ≤ k' := fun k' h => by have := HU.out k' h; omega
              have HWg := Lib.hid (HWf.out.trans (hf2.below HU2 HWf.out.size))
              have HUg : Hid (∀ k', own (.slice A2 (ss.length + 1) c2) k' → b4 < k') := Lib.hid (fun k' h => (hf2.new k' h).elim (HU.out k') fun h1 => by have := HDf.out.lt; omega)
              have HBg := Lib.hid (hf2.blk HBf.out fun h => by have := HU.out _ h; omega)
              have HDg := Lib.hid (hf2.blk HDf.out fun h => by have := HU.out _ h; omega)
              go_roundg g
              case measure => omega
              case rel => exact ⟨t + 1, A2, c2, ss ++ [shOf t a 0], by have := HG.out; omega, by rw [List.length_append]; rfl, by go_num, HSL2, by rw [List.length_append]; exact Lib.hid hv2, HBg, HDg, HWg, by rw [List.length_append]; exact HUg⟩
    · obtain rfl : t = N := by have := HG.out; omega
      clear ht
      have b0 := HB.out.cell 0
      have b1 := HB.out.cell 1
      have f0 := HB.out.frozen 0
      have f1 := HB.out.frozen 1
      have d0 := HD.out.cell 0
      have d1 := HD.out.cell 1
      simp only [List.getElem?_toArray, List.getElem?_cons_zero, List.getElem?_cons_succ] at b0 b1 d0 d1
      have hne : w.heap.size ≠ b4 := by omega
      have hown : ¬ own (.slice B ss.length cb) w.heap.size := fun h => by have := HU.out _ h; omega
      replace hown := Lib.hid hown
      go_wp2
      refine wp_region_mixH (fun W' => W'.cell? ⟨b4, 0, none⟩ = some (.int .i64 (-1)) ∧ W'.cell? ⟨b4, 1, none⟩ = some (.int .i64 0)) [3, 0, 3, 2] (List.range 4) (by kernel_rfl) (by kernel_rfl) (fun _ _ h => h) ⟨d0, d1⟩ ?_
      ((first | refine wpMixH_pure rfl rfl (fun K hK => ?_) | refine wpMixH_loc rfl rfl (fun K hK => ?_) | refine wpMixH_any rfl rfl (fun K hK => ?_)); go_simp; refine hK _ _ ?_; clear hK K)
      (refine wpMixH_any rfl rfl (fun K hK => ?_); rw [if_pos (by go_simp)]; apply Exists.intro; refine And.intro (fun w2 hS2 => ?_) (hK _ _ ?_); (focus (obtain ⟨hs0, hs1⟩ := hS2; go_simp; rfl)); clear hK K)
      ((first | refine wpMixH_pure rfl rfl (fun K hK => ?_) | refine wpMixH_loc rfl rfl (fun K hK => ?_) | refine wpMixH_any rfl rfl (fun K hK => ?_)); go_simp; refine hK _ _ ?_; clear hK K)
      refine wpMixH_loud rfl rfl (fun n1 K hK => ?_)
      go_wp2
      refine hK _ _ (fun h => (Bool.false_ne_true ((Eq.symm (by kernel_rfl)).trans h)).elim) ?_; clear hK K
      refine wpMixH_nil (fun n2 => ?_)
      go_wp2
      refine bodyPost_ret (v := .tuple #[.slice B ss.length cb, .agg #[.int .i64 (-1), .int .i64 0]]) (by simp [results, Try.results7, go_sem, b0, b1, f0, f1]) rfl ⟨_, ss, rfl, HSL.out, ?_, ?_, fun k' h => by have := HU.out k' h; omega⟩
      · exact Sl.drewN (Sl.set (Sl.set (Sl.drewN HS.out _) (p := ⟨w.heap.size, 0, none⟩) hown.out _) (p := ⟨w.heap.size, 1, none⟩) hown.out _) _
      · (repeat (first | with_reducible exact (HW).out | (with_reducible refine below_drewNs ?_ _) | (with_reducible refine Below.setCell ?_ ?_ _; rotate_left; focus (first | (with_reducible exact Nat.le_refl _) | (have hsz_ := (HW).out.size; simp only; omega))) | (with_reducible refine Below.alloc ?_ ?_ _; rotate_left; focus (first | (with_reducible exact (HW).out.size) | (have hsz_ := (HW).out.size; simp; omega)))))
end Go.Proofs.Yteoebfjhadmnbaa
