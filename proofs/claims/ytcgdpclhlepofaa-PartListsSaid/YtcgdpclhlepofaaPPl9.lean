/- The document's room over its world, by contract: laying. -/
import Derived.Deep.LoopGhost
import Derived.Test.YtcgdpclhlepofaaPPl1
import Derived.Test.YtcgdpclhlepofaaPPl5
import Derived.Test.YtcgdpclhlepofaaPPl6
import Derived.Test.YtcgdpclhlepofaaPPl7
import Derived.Test.YtcgdpclhlepofaaPPl8
namespace Go.Proofs.Ytcgdpclhlepofaa
open Go.RowKit
set_option maxHeartbeats 2000000
set_option linter.unusedVariables false
set_option linter.unusedSimpArgs false

theorem layGo_e {k : Nat} {a : Int} {s : St} {er : Int} {s' : St} (h : sput s a 0 = (er, s')) : layGo (k + 1) a s = if (er != 0) = false then layGo k (uAdd a 1) s' else (er, s') := by rw [layGo, h]

theorem wlay_b {b n : Nat} {F F0 : Nat → Prop} {s : St} {a x y : Int} {w w0 : World} (hw : Wld w b F s) (hf : Fits s) (hb : Bud s (n + 18)) (ha : 0 ≤ a) (hx : 0 ≤ x) (hx' : x ≤ 18446744073709551615) (hy : 0 ≤ y) (hy' : y ≤ 18446744073709551615) (hxy : x ≤ y) (hm : Fr F0 w0 F w) :
    Calls Try.prog 46 #[.pointer (some ⟨b, 0, none⟩), .int .u64 a, .int .u64 x, .int .u64 y] w fun e w' => ∃ er s', Hid (rLay s a x y = (er, s')) ∧ e = .returned (.int .i64 er) ∧ LftW b n F0 w0 s' w' := by
  have hL : Hid (rLay s a x y = match sput s a x with
    | (e, s1) => if (e != 0) = false then
        (match sput s1 (uAdd a 1) y with
        | (e2, s2) => if (e2 != 0) = false then layGo 16 (uAdd (uAdd a 1) 1) s2 else (e2, s2))
      else (e, s1)) := Lib.hid (by unfold rLay; rw [if_neg (by omega)])
  go_enter Try.func46, Try.ntmps46
  go_wp2_with fail
  have hb : Bud s ((n + 17) + 1) := hb
  refine (wput_b hw hf hb ha hx hx' hm).mono ?_
  rintro e w1 ⟨e1, s1, q1, rfl, f1, b1, F1, hw1, hm1⟩
  clear hw hm hf hb
  by_cases he : e1 = 0
  case neg =>
    have hz : (e1 != 0) = true := by simpa using he
    have hq : Hid (rLay s a x y = (e1, s1)) := Lib.hid (by rw [hL.out, q1.out]; simp only; rw [if_neg (by simp [hz])])
    clear he q1
    go_wp2
    go_ret
    exact ⟨e1, s1, hq, rfl, f1, b1.mono (by omega), F1, hw1, hm1⟩
  subst he
  have b1 : Bud s1 ((n + 16) + 1) := b1
  go_wp2_with fail
  refine (wput_b hw1 f1 b1 (uw_bd _).1 hy hy' hm1).mono ?_
  rintro e w2 ⟨e2, s2, q2, rfl, f2, b2, F2, hw2, hm2⟩
  have q2 : Hid (sput s1 (uAdd a 1) y = (e2, s2)) := q2
  have hQ : Hid (rLay s a x y = if (e2 != 0) = false then layGo 16 (uAdd (uAdd a 1) 1) s2 else (e2, s2)) := Lib.hid (by rw [hL.out, q1.out]; simp only; rw [if_pos (by decide), q2.out])
  clear hw1 hm1 f1 b1 q1 q2 hL
  go_wp2_with fail
  go_loopg [9, 10] 16 (fun gk c9 c10 wr => ∃ (k : Nat) (e3 : Int) (s3 : St) (F3 : Nat → Prop), gk + k = 17 ∧ 1 ≤ k ∧ c10 = .int .u64 (k : Int) ∧ c9 = .int .i64 e3 ∧ Hid (rLay s a x y = if (e3 != 0) = false then layGo gk (uAdd (uAdd a 1) k) s3 else (e3, s3)) ∧ Fits s3 ∧ Bud s3 (n + gk) ∧ Wld wr b F3 s3 ∧ Fr F0 w0 F3 wr)
  case atStart => exact ⟨1, e2, s2, F2, rfl, by omega, rfl, rfl, hQ, f2, b2, hw2, hm2⟩
  case round =>
    obtain ⟨k, e3, s3, F3, hgk, hk1, rfl, rfl, hR, hf3, hb3, hw3, hm3⟩ := hrel
    have hgk' := Lib.hid hgk
    have hki : (k : Int) ≤ 17 := by omega
    clear hw2 hm2 f2 b2 hQ hgk
    by_cases he : e3 = 0
    case neg =>
      have hz : (e3 != 0) = true := by simpa using he
      have hz2 : (e3 == 0) = false := by simpa using he
      have hq : Hid (rLay s a x y = (e3, s3)) := Lib.hid (by rw [hR.out, if_neg (by simp [hz])])
      have hor : (k : Int) ≤ 16 ∨ 16 < (k : Int) := by omega
      clear he hR
      rcases hor with hor | hor
      all_goals
        go_wp2
        go_ret
        exact ⟨e3, s3, hq, rfl, hf3, hb3.mono (by omega), F3, hw3, hm3⟩
    subst he
    by_cases hlt : k ≤ 16
    · obtain ⟨m, rfl⟩ : ∃ m, gk = m + 1 := ⟨gk - 1, by have := hgk'.out; omega⟩
      have hb3 : Bud s3 ((n + m) + 1) := hb3
      have hki2 : (k : Int) ≤ 16 := by omega
      clear hlt
      go_wp2_with fail
      refine (wput_b hw3 hf3 hb3 (uw_bd _).1 (by omega) (by omega) hm3).mono ?_
      rintro e w4 ⟨e4, s4, q4, rfl, f4, b4, F4, hw4, hm4⟩
      have q4 : Hid (sput s3 (uAdd (uAdd a 1) k) 0 = (e4, s4)) := q4
      have hR4 : Hid (rLay s a x y = if (e4 != 0) = false then layGo m (uAdd (uAdd a 1) ((k + 1 : Nat) : Int)) s4 else (e4, s4)) := Lib.hid (by
        rw [hR.out, if_pos (by decide), layGo_e q4.out, uAdd_uAdd (uAdd a 1) k 1]; rfl)
      clear hw3 hm3 q4 hR
      go_wp2
      go_roundg m
      case measure => omega
      case rel => exact ⟨k + 1, e4, s4, F4, by have := hgk'.out; omega, by omega, by go_num, rfl, hR4, f4, b4, hw4, hm4⟩
    · obtain rfl : gk = 0 := by have := hgk'.out; omega
      have hki2 : 16 < (k : Int) := by omega
      have hq : Hid (rLay s a x y = (0, s3)) := Lib.hid (by rw [hR.out, if_pos (by decide)]; rfl)
      clear hlt hR
      go_wp2
      go_ret
      exact ⟨0, s3, hq, rfl, hf3, hb3, F3, hw3, hm3⟩
end Go.Proofs.Ytcgdpclhlepofaa
/- The document's small queue, on plain words. -/
namespace Go.Proofs.Ytcgdpclhlepofaa
open Go.RowKit
theorem trip {α β γ : Type} {p : α × β × γ} {a : α} {b : β} {c : γ} (h1 : p.1 = a) (h2 : p.2.1 = b) (h3 : p.2.2 = c) : p = (a, b, c) := Prod.ext h1 (Prod.ext h2 h3)
theorem quad {α β γ δ : Type} {p : α × β × γ × δ} {a : α} {b : β} {c : γ} {d : δ} (h1 : p.1 = a) (h2 : p.2.1 = b) (h3 : p.2.2.1 = c) (h4 : p.2.2.2 = d) : p = (a, b, c, d) := Prod.ext h1 (Prod.ext h2 (Prod.ext h3 h4))
theorem twin {α β : Type} {p : α × β} {a : α} {b : β} (h1 : p.1 = a) (h2 : p.2 = b) : p = (a, b) := Prod.ext h1 h2
/-- words with a room at 0, over the cells from 18 on -/
def laidSt (n : Nat) : St := { (rLay ⟨List.replicate n 0, -1, 0, 0⟩ 0 18 n).2 with calls := 0 }
@[irreducible] def kq1 : St := laidSt 60
@[irreducible] def kq2 : St := (qNew kq1 0).2.2
@[irreducible] def kq3 : St := (qPut kq2 0 18 5).2
@[irreducible] def kq4 : St := (qPut kq3 0 18 6).2
@[irreducible] def kq5 : St := (qTake kq4 0 18).2.2.2
@[irreducible] def kq6 : St := (qPut kq5 0 18 7).2
@[irreducible] def kq7 : St := (qWords kq6 18).2.2
@[irreducible] def kq8 : St := (qLen kq7 18).2.2
theorem kq1_e : laidSt 60 = kq1 := by rw [kq1]
theorem kq2_e : qNew kq1 0 = (18, 0, kq2) := trip (by decide +kernel) (by decide +kernel) (by rw [kq2])
theorem kq3_e : qPut kq2 0 18 5 = (0, kq3) := twin (by decide +kernel) (by rw [kq3])
theorem kq4_e : qPut kq3 0 18 6 = (0, kq4) := twin (by decide +kernel) (by rw [kq4])
theorem kq5_e : qTake kq4 0 18 = (5, true, 0, kq5) := quad (by decide +kernel) (by decide +kernel) (by decide +kernel) (by rw [kq5])
theorem kq6_e : qPut kq5 0 18 7 = (0, kq6) := twin (by decide +kernel) (by rw [kq6])
theorem kq7_e : qWords kq6 18 = ([6, 7], 0, kq7) := trip (by decide +kernel) (by decide +kernel) (by rw [kq7])
theorem kq8_e : qLen kq7 18 = (2, 0, kq8) := trip (by decide +kernel) (by decide +kernel) (by rw [kq8])
end Go.Proofs.Ytcgdpclhlepofaa
/- The statements' own room: laid, a queue filled. -/
namespace Go.Proofs.Ytcgdpclhlepofaa
open Go.RowKit
set_option maxHeartbeats 4000000
set_option linter.unusedVariables false
set_option linter.unusedSimpArgs false

theorem num_b (x : Int) (w : World) : Calls Try.prog 17 #[.int .i64 x] w fun e w' => e = .returned (.int .i64 x) ∧ w = w' := by
  go_enter Try.func17, Try.ntmps17
  go_wp2
  go_ret
  exact ⟨rfl, rfl⟩
theorem Wld.make {w : World} {v : Value} {l : List Int} (h : Wl w v l) (lf cd ca : Int) :
    Wld (w.alloc (.cells #[v, .int .i64 lf, .int .i64 cd, .int .i64 ca] 44)) w.heap.size (fun k => k = w.heap.size ∨ Go.Proofs.Ytcgdpclhlepofaa.own v k) ⟨l, lf, cd, ca⟩ := ⟨v, Blk.new _ _ _, h.alloc _, fun _ => Iff.rfl⟩
theorem Txw.make {w : World} {b : Nat} {G : Nat → Prop} {s : St} (h : Wld w b G s) : Txw (w.alloc (.cells #[.pointer (some ⟨b, 0, none⟩)] 47)) w.heap.size (fun k => k = w.heap.size ∨ G k) s :=
  ⟨b, G, Blk.new _ _ _, h.alloc _, fun _ => Iff.rfl⟩
/-- the calls are counted from 0 on -/
theorem Txw.ncalls {w : World} {t : Nat} {F : Nat → Prop} {s : St} (h : Txw w t F s) (n : Int) : ∃ b, w.cell? ⟨t, 0, none⟩ = some (.pointer (some ⟨b, 0, none⟩)) ∧ w.cell? ⟨b, 3, none⟩ = some (.int .i64 s.calls) ∧ w.frozen? ⟨b, 3, none⟩ = false ∧ F b ∧ Txw (w.setCell ⟨b, 3, none⟩ (.int .i64 n)) t F { s with calls := n } := by
  obtain ⟨b, G, h1, h2, h4⟩ := h
  obtain ⟨_, _, c3, _, _, _, z3⟩ := h2.num
  have hn := Txw.not_own h1 h2
  have hne : t ≠ b := fun e => hn (e ▸ h2.own)
  exact ⟨b, by rw [h1.cell]; rfl, c3, z3, (h4 b).2 (.inr h2.own), b, G, h1.far (p := ⟨b, 3, none⟩) hne _, h2.ncalls n, h4⟩
def LaidT (n : Nat) (B : Nat) (w : World) (e : Ending) (w' : World) : Prop := ∃ t F', e = .returned (.pointer (some ⟨t, 0, none⟩)) ∧ Txw w' t F' (laidSt n) ∧ (∀ k, F' k → B ≤ k) ∧ Fits (laidSt n) ∧ Bud (laidSt n) 4611686018427387000 ∧ Below B w w'
theorem laid_b (n : Nat) (hn : 18 ≤ n) (hn' : n ≤ 1000000) (w : World) : Calls Try.prog 27 #[.int .i64 (n : Int)] w (LaidT n w.heap.size w) := by
  have hni : (18 : Int) ≤ (n : Int) := by omega
  have hni' : (n : Int) ≤ 1000000 := by omega
  go_enter Try.func27, Try.ntmps27
  go_wp2_with (refine wpList_zeros w rfl _ _ rfl .i64 .i64 (n : Int) (n : Int) n rfl rfl rfl rfl (by omega) ?_; intro w1 hz1 hb1)
  have hs1 := hb1.size
  have hw1 := Wld.make (lf := -1) (cd := 0) (ca := 0) hz1
  have hT := Txw.make hw1
  have hE : (w1.alloc (.cells #[.slice (some ⟨w.heap.size, 0, none⟩) n n, .int .i64 (-1), .int .i64 0, .int .i64 0] 44)).heap.size = w1.heap.size + 1 := by simp
  rw [hE] at hT
  have hBt := Blk.new (w1.alloc (.cells #[.slice (some ⟨w.heap.size, 0, none⟩) n n, .int .i64 (-1), .int .i64 0, .int .i64 0] 44)) 47 #[.pointer (some ⟨w1.heap.size, 0, none⟩)]
  rw [hE] at hBt
  have hw2 := hw1.alloc (.cells #[.pointer (some ⟨w1.heap.size, 0, none⟩)] 47)
  have hb2 := (hb1.alloc hs1 (.cells #[.slice (some ⟨w.heap.size, 0, none⟩) n n, .int .i64 (-1), .int .i64 0, .int .i64 0] 44)).alloc (by simp; omega) (.cells #[.pointer (some ⟨w1.heap.size, 0, none⟩)] 47)
  have hF : ∀ k, (k = w1.heap.size + 1 ∨ k = w1.heap.size ∨ own (.slice (some ⟨w.heap.size, 0, none⟩) n n) k) → w.heap.size ≤ k := fun k hk => by
    rcases hk with h | h | h
    · omega
    · omega
    · obtain rfl : w.heap.size = k := by simpa [own, Value.ownBlock] using h
      exact Nat.le_refl _
  have hfit : Fits ⟨List.replicate n 0, -1, 0, 0⟩ := ⟨fun x hx => by rw [List.eq_of_mem_replicate hx]; omega, by simp only [List.length_replicate]; omega, by simp⟩
  have hbud : Bud ⟨List.replicate n 0, -1, 0, 0⟩ (4611686018427387000 + 18) := by unfold Bud; simp
  have c0 := hBt.cell 0
  simp only [List.getElem?_toArray, List.getElem?_cons_zero] at c0
  clear hz1 hb1 hw1 hE
  generalize (w1.alloc (.cells #[.slice (some ⟨w.heap.size, 0, none⟩) n n, .int .i64 (-1), .int .i64 0, .int .i64 0] 44)).alloc (.cells #[.pointer (some ⟨w1.heap.size, 0, none⟩)] 47) = w2 at *
  generalize w1.heap.size + 1 = t at *
  generalize w1.heap.size = b at *
  refine (wlay_b (n := 4611686018427387000) hw2 hfit hbud (by omega) (by omega) (by omega) (by omega) (by omega) (by omega) (Fr.refl _ _)).mono ?_
  rintro _ w3 ⟨er, s3, q, rfl, f3, b3, F3, hw3, hm3⟩
  have hs : ({ s3 with calls := 0 } : St) = laidSt n := by unfold laidSt; rw [q.out]
  obtain ⟨_, _, F4, hT4, hm4⟩ := Txw.step (n := 4611686018427387000) hBt hw2 (Fr.refl (fun k => k = t ∨ k = b ∨ own (.slice (some ⟨w.heap.size, 0, none⟩) n n) k) w2) (fun k => Iff.rfl) (show LftW b 4611686018427387000 _ w2 s3 w3 from ⟨f3, b3, F3, hw3, hm3⟩)
  obtain ⟨b', k0, k3, z3, hFb, hT5⟩ := hT4.ncalls 0
  rw [hs] at hT5
  have hF4 := hm4.ge (B := w.heap.size) hF hb2.size
  have HB4 := Lib.hid ((hb2.trans (hm4.below hF hb2.size)).setCell (p := ⟨b', 3, none⟩) (hF4 _ hFb) (.int .i64 0))
  have HT5 := Lib.hid hT5
  have HF4 := Lib.hid hF4
  have hFit : Fits (laidSt n) := by rw [← hs]; exact ⟨f3.words, f3.len, f3.code⟩
  have hBud : Bud (laidSt n) 4611686018427387000 := by rw [← hs]; unfold Bud at *; simp only; omega
  clear hw2 hT hBt hw3 hm3 hT4 hm4 hF hs q f3 b3 hF4 hFb hT5 hb2 c0 hbud hfit
  go_wp2
  go_ret
  exact ⟨t, F4, rfl, HT5.out, HF4.out, hFit, hBud, HB4.out⟩
end Go.Proofs.Ytcgdpclhlepofaa
/- The statements' own queue, filled; the chapter's examples. -/
namespace Go.Proofs.Ytcgdpclhlepofaa
open Go.RowKit
set_option maxHeartbeats 4000000
set_option linter.unusedVariables false
set_option linter.unusedSimpArgs false

def fillGo (q : Int) : List Int → Bool → St → Bool × St
  | [], ok, s => (ok, s)
  | x :: l, ok, s => match qPut s 0 q x with | (e, s1) => fillGo q l ((e == 0) && ok) s1
theorem fillGo_drop {q : Int} {l : List Int} {j : Nat} (hj : j < l.length) {ok : Bool} {s s1 : St} {e : Int} (h : qPut s 0 q (l.getD j 0) = (e, s1)) : fillGo q (l.drop j) ok s = fillGo q (l.drop (j + 1)) ((e == 0) && ok) s1 := by
  rw [List.drop_eq_getElem_cons hj]
  have e1 : l[j] = l.getD j 0 := by rw [List.getD_eq_getElem?_getD, List.getElem?_eq_getElem hj]; rfl
  rw [e1, fillGo, h]
def fillSt (l : List Int) : Int × Bool × St := match qNew (laidSt 1000) 0 with | (q, e, s1) => match fillGo q l (e == 0) s1 with | (ok, s2) => (q, ok, s2)
def FillP (l : List Int) (B : Nat) (w : World) (e : Ending) (w' : World) : Prop := ∃ t q ok s' F', Hid (fillSt l = (q, ok, s')) ∧ 0 ≤ q ∧ q ≤ 18446744073709551615 ∧ e = .returned (.tuple #[.pointer (some ⟨t, 0, none⟩), .int .u64 q, .bool ok]) ∧ Fits s' ∧ Bud s' 4000000000 ∧ Txw w' t F' s' ∧ (∀ k, F' k → B ≤ k) ∧ Below B w w'
set_option maxRecDepth 100000 in
theorem filled_b {v : Value} {l : List Int} {w : World} (h : Lies w v l) (hl : l.length ≤ 300) (hlb : ∀ x ∈ l, 0 ≤ x ∧ x ≤ 18446744073709551615) :
    Calls Try.prog 6 #[v] w (FillP l w.heap.size w) := by
  obtain ⟨A, c, rfl, hc, hnl, _⟩ := id h
  have H := Lib.hid h
  have HLB := Lib.hid hlb
  clear h hlb hnl
  have hli : (l.length : Int) ≤ 300 := by omega
  go_enter Try.func6, Try.ntmps6
  go_wp2_with fail
  refine (laid_b 1000 (by omega) (by omega) w).mono ?_
  rintro _ w1 ⟨t, F1, rfl, hw1, ho1, f1, b1, hb1⟩
  have HB1 := Lib.hid hb1
  have HO1 := Lib.hid ho1
  clear hb1 ho1
  go_wp2_with fail
  refine (qunew_b (n := 4000000000 + 11 * l.length) hw1 f1 (b1.mono (by omega)) (by omega) (Fr.refl F1 _)).mono ?_
  rintro _ w2 ⟨q, e2, s2, q2, dq, dq', rfl, f2, b2, F2, hw2, hm2⟩
  have HB2 := Lib.hid (HB1.out.trans (hm2.below HO1.out HB1.out.size))
  have HO2 : Hid (∀ k, F2 k → w.heap.size ≤ k) := Lib.hid (hm2.ge HO1.out HB1.out.size)
  have HW2 := Lib.hid hw2
  have HS : Hid (fillSt l = match fillGo q l (e2 == 0) s2 with | (ok, s2) => (q, ok, s2)) := Lib.hid (by unfold fillSt; rw [q2.out])
  clear hw1 hw2 hm2 f1 b1 HB1 HO1 q2
  go_wp2_with (go_at_call 17; refine (num_b _ _).mono ?_; rintro e _ ⟨rfl, rfl⟩)
  go_loopg [8, 9] l.length (fun gk c8 c9 wr => ∃ (j : Nat) (ok : Bool) (sx : St) (Fx : Nat → Prop), gk + j = l.length ∧ c8 = .bool ok ∧ c9 = .int .i64 (j : Int) ∧ Hid (fillGo q l (e2 == 0) s2 = fillGo q (l.drop j) ok sx) ∧ Fits sx ∧ Bud sx (4000000000 + 11 * gk) ∧ Hid (Txw wr t Fx sx) ∧ Hid (∀ k, Fx k → w.heap.size ≤ k) ∧ Hid (Below w.heap.size w wr))
  case atStart => exact ⟨0, e2 == 0, s2, F2, rfl, rfl, rfl, Lib.hid (by simp), f2, b2, HW2, HO2, HB2⟩
  case round =>
    obtain ⟨j, ok, sx, Fx, hgk, rfl, rfl, HG1, fx, bx, HW, HO, HB⟩ := hrel
    have HG := Lib.hid hgk
    clear hgk HW2 HO2 HB2 f2 b2
    by_cases hj : j < l.length
    · obtain ⟨g, rfl⟩ : ∃ g, gk = g + 1 := ⟨gk - 1, by have := HG.out; omega⟩
      obtain ⟨A2, c2, e1, hc2, _, hcs⟩ := H.out
      rw [Value.slice.injEq] at e1
      obtain ⟨rfl, -, rfl⟩ := e1
      obtain ⟨gz, oz, rfl, hcl⟩ := hcs j hj
      have hcell : Hid True := Lib.hid trivial
      have hcr : ∀ {w' : World}, Below w.heap.size w w' → w'.cell? ⟨gz, oz + j, none⟩ = some (.int .u64 (l.getD j 0)) := fun hb => by
        have hlt : gz < w.heap.size := Nat.lt_of_not_le fun hh => by
          unfold World.cell? at hcl
          rw [Array.getElem?_eq_none hh] at hcl
          cases hcl
        exact (hb.cell (p := ⟨gz, oz + j, none⟩) hlt).trans hcl
      have hcx := hcr HB.out
      have hxb := HLB.out _ (show l.getD j 0 ∈ l by rw [List.getD_eq_getElem?_getD, List.getElem?_eq_getElem hj]; exact List.getElem_mem hj)
      have hji : (j : Int) < l.length := by omega
      have hP := Lib.hid fun (e : Int) (s1 : St) (h : qPut sx 0 q (l.getD j 0) = (e, s1)) => HG1.out.trans (fillGo_drop hj h)
      obtain ⟨hx1, hx2⟩ := hxb
      clear hcs hcl hcr hcell HG1
      generalize l.getD j 0 = xj at *
      have bx : Bud sx ((4000000000 + 11 * g) + 11) := bx.mono (by omega)
      go_wp2_with fail
      refine (quput_b HW.out fx bx (by omega) dq dq' hx1 hx2 (Fr.refl Fx _)).mono ?_
      rintro _ w7 ⟨e7, s7, q7, rfl, f7, b7, F7, hT7, hm7⟩
      have HP7 := Lib.hid (hP.out e7 s7 q7.out)
      have HT7 := Lib.hid hT7
      have HB7 := Lib.hid (HB.out.trans (hm7.below HO.out HB.out.size))
      have HO7 : Hid (∀ k, F7 k → w.heap.size ≤ k) := Lib.hid (hm7.ge HO.out HB.out.size)
      clear hT7 hm7 HW HB HO hP q7 hcx
      by_cases he : e7 = 0
      · subst he
        have HP8 : Hid (fillGo q l (e2 == 0) s2 = fillGo q (l.drop (j + 1)) ok s7) := Lib.hid (by rw [HP7.out]; simp)
        clear HP7
        go_wp2_with (go_at_call 17; refine (num_b _ _).mono ?_; rintro e _ ⟨rfl, rfl⟩)
        go_roundg g
        case measure => omega
        case rel => exact ⟨j + 1, ok, s7, F7, by have := HG.out; omega, rfl, by go_num, HP8, f7, b7, HT7, HO7, HB7⟩
      · have z : (e7 == 0) = false := by simpa using he
        have HP8 : Hid (fillGo q l (e2 == 0) s2 = fillGo q (l.drop (j + 1)) false s7) := Lib.hid (by rw [HP7.out, z]; rfl)
        clear HP7 he
        go_wp2_with (go_at_call 17; refine (num_b _ _).mono ?_; rintro e _ ⟨rfl, rfl⟩)
        go_roundg g
        case measure => omega
        case rel => exact ⟨j + 1, false, s7, F7, by have := HG.out; omega, rfl, by go_num, HP8, f7, b7, HT7, HO7, HB7⟩
    · obtain rfl : j = l.length := by have := HG.out; omega
      obtain rfl : gk = 0 := by have := HG.out; omega
      have hfin : Hid (fillSt l = (q, ok, sx)) := Lib.hid (by rw [HS.out, HG1.out]; simp [fillGo])
      clear hj
      go_wp2
      go_ret3
      exact ⟨t, q, ok, sx, Fx, hfin, dq, dq', rfl, fx, bx, HW.out, HO.out, HB.out⟩
end Go.Proofs.Ytcgdpclhlepofaa
/- PartQueues on plain words: the law's stages. No program in sight. -/
namespace Go.Proofs.Ytcgdpclhlepofaa
open Go.RowKit
set_option linter.unusedVariables false
set_option maxHeartbeats 1000000
theorem laid_at (n : Nat) (hn : 18 ≤ n) (hn2 : n ≤ 1000000) : (laidSt n).W.length = n ∧ (laidSt n).left < 0 ∧ Rm (laidSt n).W 18 n [] (fun _ => []) ∧ (laidSt n).W.getD 0 0 = 18 := by
  have h : Ok (⟨List.replicate n 0, -1, 0, 0⟩ : St) (1000 + 18) := ⟨by simp, by unfold Bud; simp⟩
  obtain ⟨s', h1, h2, h3, h4⟩ := lay_ok (x := 18) (y := n) h (by simp; omega) (by simp; omega) (by omega)
  have e : laidSt n = { s' with calls := 0 } := by unfold laidSt; rw [h1]
  rw [e]
  have hl : s'.W.length = n := by rw [h3]; simp
  refine ⟨hl, h2.1, Rm.start (by omega) (by omega) (by rw [hl]; exact Int.le_refl _) (fun j => ?_), by rw [h4 0]; rfl⟩
  rw [h4 j]
  by_cases h0 : j = 0
  · rw [if_pos h0, if_pos h0]
  · rw [if_neg h0, if_neg h0]
    by_cases h1 : j = 1
    · rw [if_pos h1, if_pos h1]
    · rw [if_neg h1, if_neg h1]
      split
      · rfl
      · simp [List.getD_eq_getElem?_getD, List.getElem?_replicate]; split <;> rfl
/-- A queue in a room that has given nothing back. -/
theorem qNew_x {s : St} {n : Nat} {c : Int} {back : Nat → List Int} (hs : Ok s (n + 7)) (hr : Rm s.W 18 c [] back) (hlw : (s.W.length : Int) ≤ 4611686018427387904) (hb3 : back 3 = []) (hcap : s.W.getD 0 0 + 3 ≤ c) :
    ∃ s', qNew s 0 = (s.W.getD 0 0, 0, s') ∧ Ok s' n ∧ s'.W.length = s.W.length ∧ Qx s'.W c ⟨s.W.getD 0 0, [], []⟩ [] back ∧ s'.W.getD 0 0 = s.W.getD 0 0 + 3 := by
  have hs3 : Ok s ((n + 3) + 4) := hs
  rcases take_ok (z := 3) hs3 hr (by omega) (by omega) hlw with ⟨a1, a2, _⟩ | ⟨p, s1, back', a1, a3, a5, a6, a7, a10, a11, a13, a14, a15⟩
  · exact absurd a2 (by omega)
  · obtain ⟨eb, ep, e0⟩ : back' = back ∧ p = s.W.getD 0 0 ∧ s1.W.getD 0 0 = s.W.getD 0 0 + 3 := by
      rcases a15 with ⟨-, eb, ep, e0⟩ | ⟨l, hl, -⟩
      · exact ⟨eb, ep, e0⟩
      · rw [hb3] at hl; simp at hl
    subst eb
    have t0 := a7.to0
    have hl1 : p + 3 ≤ (s1.W.length : Int) := by simpa using Int.le_trans a6 t0
    have b1 : Ok s1 ((n + 2) + 1) := a3
    have b2 := wrt_ok b1 p 0
    have b3 := wrt_ok b2 (p + 1) 0
    have b4 := wrt_ok b3 (p + 2) 0
    have hmem : ((p, (3 : Int)) : Int × Int) ∈ ([] : List (Int × Int)) ++ [(p, ((3 : Nat) : Int))] := by simp
    have r1 := a7.put (j := p) hmem (by simp only; omega) (by simp only; omega) 0
    have r2 := r1.put (j := p + 1) hmem (by simp only; omega) (by simp only; omega) 0
    have r3 := r2.put (j := p + 2) hmem (by simp only; omega) (by simp only; omega) 0
    have hW : (wrt (wrt (wrt s1 p 0) (p + 1) 0) (p + 2) 0).W = ((s1.W.set p.toNat 0).set (p + 1).toNat 0).set (p + 2).toNat 0 := rfl
    have hg : ∀ j : Int, 0 ≤ j → (((s1.W.set p.toNat 0).set (p + 1).toNat 0).set (p + 2).toNat 0).getD j.toNat 0 = if p + 2 = j then 0 else if p + 1 = j then 0 else if p = j then 0 else s1.W.getD j.toNat 0 := fun j hj => by
      rw [gs _ (by omega) (by simp; omega) hj, gs _ (by omega) (by simp; omega) hj, gs _ (by omega) (by omega) hj]
    refine ⟨_, ?_, b4, ?_, ?_, ?_⟩
    · have u0 : uAdd p 0 = p := by rw [uAdd_id (by omega) (by omega)]; omega
      have u1 : uAdd p (0 + 1) = p + 1 := by rw [uAdd_id (by omega) (by omega)]; omega
      have u2 : uAdd p (0 + 1 + 1) = p + 2 := by rw [uAdd_id (by omega) (by omega)]; omega
      have h0 : bput 0 s1 (uAdd p 0) 0 = (0, wrt s1 p 0) := by rw [u0, bput_0 b1 (by omega)]
      have h1 : bput 0 (wrt s1 p 0) (uAdd p (0 + 1)) 0 = (0, wrt (wrt s1 p 0) (p + 1) 0) := by rw [u1, bput_0 b2 (by rw [wrt_W]; simp; omega)]
      have h2 : bput 0 (wrt (wrt s1 p 0) (p + 1) 0) (uAdd p (0 + 1 + 1)) 0 = (0, wrt (wrt (wrt s1 p 0) (p + 1) 0) (p + 2) 0) := by rw [u2, bput_0 b3 (by rw [wrt_W, wrt_W]; simp; omega)]
      have e : qLayGo p 3 0 0 s1 = (0, wrt (wrt (wrt s1 p 0) (p + 1) 0) (p + 2) 0) := (qLayGo_s _ _ _ _ _ h0).trans ((qLayGo_s _ _ _ _ _ h1).trans (qLayGo_s _ _ _ _ _ h2))
      have a1 : rTake s 0 3 = (p, 0, s1) := a1
      rw [← ep]
      unfold qNew
      simp only [a1, e]
      rfl
    · rw [hW]; simp [a11]
    · rw [← ep, hW]
      refine ⟨?_, ⟨?_, ?_, ?_, trivial⟩, by simp; omega⟩
      · have e : pcs ⟨p, [], []⟩ ++ [] = ([] : List (Int × Int)) ++ [(p, ((3 : Nat) : Int))] := by simp [pcs]
        rw [e]
        exact r3
      · rw [hg _ (by simp only; omega)]; simp [hdOr]
      · rw [hg _ (by simp only; omega)]; simp [topOf_nil]
      · rw [hg _ (by simp only; omega)]; simp
    · rw [hW, show (0 : Nat) = ((0 : Int)).toNat from rfl, hg 0 (by omega), if_neg (by omega), if_neg (by omega), if_neg (by omega)]
      exact e0
/-- A queue at 18 that holds A, a chain ns of the words xs beside it; g pieces of two cells were given back. -/
def Stg (s : St) (ns xs A : List Int) (b : Int) (g : Nat) : Prop := ∃ nodes back, Qx s.W 1000 ⟨18, nodes, A⟩ (ndp ns) back ∧ Chn s.W ns xs ∧ s.left < 0 ∧ s.W.getD 0 0 ≤ b ∧ (back 2).length = g
section
variable {s : St} {ns xs A : List Int} {b : Int} {g : Nat}
theorem Stg.ok (h : Stg s ns xs A b g) {n : Nat} (hb : Bud s n) : Ok s n := let ⟨_, _, _, _, h, _⟩ := h; ⟨h, hb⟩
theorem Stg.calls (h : Stg s ns xs A b g) (c : Int) : Stg { s with calls := c } ns xs A b g := h
theorem Stg.same {s' : St} (h : Stg s ns xs A b g) (hW : s'.W = s.W) {n : Nat} (hl : Ok s' n) : Stg s' ns xs A b g := by
  obtain ⟨nodes, back, h1, h2, h3, h4, h5⟩ := h
  exact ⟨nodes, back, by rw [hW]; exact h1, by rw [hW]; exact h2, hl.1, by rw [hW]; exact h4, h5⟩
theorem Stg.bds (h : Stg s ns xs A b g) : ns.length = xs.length ∧ 2 * ns.length ≤ 982 ∧ 2 * A.length ≤ 982 ∧ 2 * g ≤ 982 ∧ 0 ≤ hdOr ns 0 ∧ hdOr ns 0 ≤ 1000 := by
  obtain ⟨nodes, back, h1, h2, h3, h4, h5⟩ := h
  have a1 := h2.lnk.len
  have a2 := cnt_le _ ns 18 1000 (Nat.le_refl _) h2.nn (fun x hx => by have := h1.xin (p := (x, 2)) (List.mem_map.2 ⟨x, hx, rfl⟩); simp only at this; omega) (by omega)
  have a3 := h1.cnt
  have a4 := h1.st.lnk.len
  simp only at a3 a4
  have a5 := cnt_le _ (back 2) 18 1000 (Nat.le_refl _) (by have := h1.rm.bb 2 (by omega) (by omega); simpa using this) (fun x hx => by have := h1.rm.backIn 2 (by omega) (by omega) x hx; have := h1.rm.nx1; omega) (by omega)
  have a6 : 0 ≤ hdOr ns 0 ∧ hdOr ns 0 ≤ 1000 := by
    cases ns with
    | nil => simp [hdOr]
    | cons n t => have := h1.xin (p := (n, 2)) (List.mem_map.2 ⟨n, by simp, rfl⟩); simp only at this; simp only [hdOr]; omega
  omega
theorem stg_put {n : Nat} (x : Int) (h : Stg s ns xs A b g) (hb : Bud s (n + 11)) (hc : b + 2 ≤ 1000) : ∃ s' g', qPut s 0 18 x = (0, s') ∧ Stg s' ns xs (A ++ [x]) (b + 2) g' ∧ Bud s' n := by
  have hO := h.ok hb
  obtain ⟨nodes, back, h1, h2, h3, h4, h5⟩ := h
  obtain ⟨p, s', back', e1, e2, -, -, e5, e6, e7, e8⟩ := qPut_x x hO h1 fun _ => by omega
  exact ⟨s', _, e1, ⟨_, back', e6, h2.keep e5 e8, e2.1, by omega, rfl⟩, e2.2⟩
theorem stg_queue {n : Nat} (h : Stg s [] [] A b g) (hb : Bud s (n + 5)) : ∃ ns s', pQueue 18 s = (hdOr ns 0, (A.length : Int), 0, s') ∧ s'.calls = s.calls + 5 ∧ Stg s' ns A [] b g := by
  have hO := h.ok hb
  obtain ⟨nodes, back, h1, h2, h3, h4, h5⟩ := h
  obtain ⟨s', e1, e2, e3, e4, e5, e6, e7⟩ := pQueue_x (q := ⟨18, nodes, A⟩) hO h1
  have hl := h1.st.lnk.len
  simp only at e1 e5 e6 hl
  exact ⟨nodes, s', by rw [e1, hl], e3, [], back, e5, e6, e2.1, by rw [e7]; exact h4, h5⟩
theorem stg_read {n : Nat} (h : Stg s ns xs A b g) (hb : Bud s (n + 1000)) : ∃ s', pRead 1 (hdOr ns 0) xs.length s = (xs, 0, s') ∧ Stg s' ns xs A b g := by
  obtain ⟨a1, a2, a3, a4, a5, a6⟩ := h.bds
  have hO : Ok s (n + 2 * ns.length) := (h.ok hb).mono (by omega)
  obtain ⟨_, _, _, h2, _⟩ := id h
  obtain ⟨s', e1, e2, e3⟩ := pRead_x h2 hO (by omega)
  exact ⟨s', by rw [← a1]; exact e1, h.same e3 e2⟩
theorem stg_words {n : Nat} (h : Stg s ns xs A b g) (hf : Fits s) (hb : Bud s (n + 131080)) : ∃ s', qWords s 18 = (A, 0, s') ∧ Stg s' ns xs A b g := by
  have hO := h.ok hb
  have hbd := h.bds
  obtain ⟨nodes, back, h1, h2, h3, h4, h5⟩ := id h
  have hl := h1.st.lnk.len
  simp only at hl
  have hw := h1.whole (by simp only; omega)
  simp only at hw
  obtain ⟨t1, t2, t3, t4⟩ := (qWords_law hO hf (by omega) hw).1 rfl
  have hx := h1.st.lnk.words
  simp only at hx
  rw [hx] at t1
  exact ⟨_, Prod.ext t1 (Prod.ext t2 rfl), h.same t3 t4⟩
theorem stg_turn {n : Nat} (f : Int → Int) (h : Stg s ns xs A b g) (hb : Bud s (n + 1500)) : ∃ s', pTurn f 1 (hdOr ns 0) xs.length s = (0, s') ∧ Stg s' ns (xs.map f) A b g := by
  obtain ⟨a1, a2, a3, a4, a5, a6⟩ := h.bds
  have hO : Ok s (n + 3 * ns.length) := (h.ok hb).mono (by omega)
  obtain ⟨nodes, back, h1, h2, h3, h4, h5⟩ := h
  obtain ⟨s', e1, e2, e3, e4, e5⟩ := pTurn_x (f := f) h2 hO (by omega)
  have hin : ∀ y ∈ ns, 18 ≤ y := fun y hy => by have := h1.xin (p := (y, 2)) (List.mem_map.2 ⟨y, hy, rfl⟩); simp only at this; omega
  have hh : ∀ j, j < 18 → s'.W.getD j 0 = s.W.getD j 0 := fun j hj => by
    have := e5 (j : Int) (by omega) fun y hy => by have := hin y hy; omega
    simpa using this
  have hrm : Rm s'.W 18 1000 (pcs ⟨18, nodes, A⟩ ++ ndp ns) back := h1.rm.turn e3 hh fun z z1 z2 x hx => by
    have hi := h1.rm.backIn z z1 z2 x hx
    refine e5 x (by omega) fun y hy e => ?_
    have d := h1.rm.ob (y, 2) (List.mem_append_right _ (List.mem_map.2 ⟨y, hy, rfl⟩)) z z1 z2 x hx
    unfold Disj at d
    simp only at d
    omega
  exact ⟨s', by rw [← a1]; exact e1, nodes, back, h1.turn e3 e5 hrm, e4, e2.1, by rw [hh 0 (by omega)]; exact h4, h5⟩
theorem stg_no {n : Nat} (h : Stg s ns xs A b g) (hA : A ≠ []) (hb : Bud s (n + 1)) (f c : Int) : ∃ s', pBack 18 1 f c s = (2, s') ∧ Stg s' ns xs A b g := by
  have hO := h.ok hb
  obtain ⟨nodes, back, h1, _⟩ := id h
  have hl := h1.st.lnk.len
  simp only at hl
  obtain ⟨s', e1, e2, e3⟩ := pBack_no hO h1 (fun e => hA (by simp only at e; subst e; exact List.eq_nil_of_length_eq_zero hl.symm)) f c
  exact ⟨s', e1, h.same e3 e2⟩
theorem stg_take {n : Nat} {y : Int} {A : List Int} (h : Stg s ns xs (y :: A) b g) (hb : Bud s (n + 10)) : ∃ s' g', qTake s 0 18 = (y, true, 0, s') ∧ Stg s' ns xs A 1000 g' := by
  have hO := h.ok hb
  obtain ⟨nodes, back, h1, h2, h3, h4, h5⟩ := h
  cases nodes with
  | nil => exact h1.st.lnk.elim
  | cons nd nodes =>
    obtain ⟨s', back', e1, e2, e3, e4, e5⟩ := qTake_x hO h1
    exact ⟨s', _, e1, nodes, back', e4, h2.keep e3 e5, e2.1, e4.rm.nx1, rfl⟩
theorem stg_back {n : Nat} (h : Stg s ns xs [] b g) (hb : Bud s (n + 1000)) : ∃ s', pBack 18 1 (hdOr ns 0) xs.length s = (0, s') ∧ Stg s' [] [] xs b g := by
  obtain ⟨a1, a2, a3, a4, a5, a6⟩ := h.bds
  have hO : Ok s (n + 4 + 2 * ns.length) := (h.ok hb).mono (by omega)
  obtain ⟨nodes, back, h1, h2, h3, h4, h5⟩ := h
  have hl := h1.st.lnk.len
  simp only at hl
  obtain rfl : nodes = [] := List.eq_nil_of_length_eq_zero (by rw [hl]; rfl)
  obtain ⟨s', e1, e2, e3, e4, e5⟩ := pBack_yes hO h1 h2 (by omega)
  exact ⟨s', by rw [← a1]; exact e1, ns, back, e4, ⟨trivial, fun _ h => by simp at h, .nil, e4.lw⟩, e2.1, by rw [e5]; exact h4, h5⟩
theorem stg_len {n : Nat} (h : Stg s ns xs A b g) (hb : Bud s (n + 1)) : ∃ s', qLen s 18 = ((A.length : Int), 0, s') ∧ Stg s' ns xs A b g := by
  have hO := h.ok hb
  obtain ⟨nodes, back, h1, _⟩ := id h
  obtain ⟨g1, g2, g3⟩ := h1.inn (pcs_hd _)
  simp only at g1 g2 g3
  have hl := h1.st.lnk.len
  have hc := h1.st.count
  simp only at hl hc
  refine ⟨rdt s (18 + 2), ?_, h.same rfl (rdt_ok hO _)⟩
  unfold qLen
  rw [uAdd_id (by omega) (by omega), sget_rdt hO (by omega), hc, hl]
theorem givenGo_one {W : List Int} {z : Nat} {out : List (Int × Int)} {c : Int} {back : Nat → List Int} (h1 : Rm W 18 c out back) (z1 : 1 ≤ z) (z2 : z ≤ 16) (hl1 : (W.length : Int) ≤ 4611686018427387904) : ∀ (k : Nat) (b rest : List Int) (a : Int) (l : List Int) (s : St) (n : Nat), back z = b ++ rest → b.length ≤ k → s.W = W → Ok s (n + k + 1) → 0 ≤ a → a < (W.length : Int) → W.getD a.toNat 0 = topOf b →
    ∃ l' s', givenGo k a l s = (l', 0, s') ∧ l'.length = l.length + b.length ∧ s'.W = W ∧ Ok s' n := by
  intro k
  induction k with
  | zero =>
    intro b rest a l s n hb hk es hs ha ha1 e1
    obtain rfl : b = [] := List.eq_nil_of_length_eq_zero (by omega)
    have hs' : Ok s (n + 1) := hs
    have f1 : sget s a = (0, 0, gone s (false, a, 0)) := by rw [sget_live hs' (by rw [es]; exact ha1), es, e1]; rfl
    exact ⟨l, gone s (false, a, 0), givenGo_end f1 rfl, rfl, es, hs'.gone _⟩
  | succ k ih =>
    intro b rest a l s n hb hk es hs ha ha1 e1
    have hs' : Ok s ((n + k + 1) + 1) := hs
    have f1 : sget s a = (topOf b, 0, gone s (false, a, 0)) := by rw [sget_live hs' (by rw [es]; exact ha1), es, e1]
    have hcat := List.eq_nil_or_concat b
    simp only [List.concat_eq_append] at hcat
    rcases hcat with rfl | ⟨b', x, rfl⟩
    · exact ⟨l, gone s (false, a, 0), givenGo_end f1 topOf_nil, rfl, es, (hs'.gone (false, a, 0)).mono (by omega)⟩
    · have hx := h1.backIn z z1 z2 x (by rw [hb]; simp)
      have hx1 := h1.nx1
      have hxt1 := h1.to0
      have ht : topOf (b' ++ [x]) = x + 1 := topOf_snoc _ _
      have h0 : x + 1 ≠ 0 := by omega
      have u : IntKind.u64.wrap (x + 1 - 1) = x := by rw [show x + 1 - 1 = x by omega, uw_id (by omega) (by omega)]
      have c1 := h1.chain z z1 z2 b' x rest (by rw [hb]; simp)
      rw [ht] at f1
      obtain ⟨l', s', q1, q2, q3, q4⟩ := ih b' (x :: rest) x (l ++ [x]) (gone s (false, a, 0)) n (by rw [hb]; simp) (by simp at hk; omega) es (hs'.gone _) (by omega) (by omega) c1
      exact ⟨l', s', by rw [givenGo_next f1 h0, u]; exact q1, by rw [q2]; simp; omega, q3, q4⟩
theorem stg_given {n : Nat} (h : Stg s ns xs A b g) (hb : Bud s (n + 65537)) : ∃ l s', rGiven s 0 2 = (l, 0, s') ∧ l.length = g ∧ Stg s' ns xs A b g := by
  have hO : Ok s (n + 65536 + 1) := h.ok hb
  have hbd := h.bds
  obtain ⟨nodes, back, h1, h2, h3, h4, h5⟩ := id h
  obtain ⟨g1, g2, g3⟩ := h1.inn (pcs_hd _)
  simp only at g1 g2 g3
  obtain ⟨l, s', k1, k2, k3, k4⟩ := givenGo_one h1.rm (z := 2) (by omega) (by omega) h1.lw 65536 (back 2) [] 3 [] s n (by simp) (by omega) rfl hO (by omega) (by omega) (h1.rm.top 2 (by omega) (by omega))
  refine ⟨l, s', ?_, by rw [k2, h5]; simp, h.same k3 k4⟩
  unfold rGiven
  rw [if_neg (by omega)]
  exact k1
def pGiveGo : List Int → St → Int × St
  | [], s => (0, s)
  | x :: l, s => match rGive s 0 x 2 with | (e, s1) => if (e != 0) = true then (e, s1) else pGiveGo l s1
def pGive (kind first count : Int) (s : St) : Int × St := match pNodes kind first count s with | (l, e, s1) => if (e != 0) = true then (e, s1) else pGiveGo l s1
theorem pGiveGo_x {c : Int} {o1 : List (Int × Int)} : ∀ (ns : List Int) (s : St) (n : Nat) (back : Nat → List Int), Ok s (n + 3 * ns.length) → Rm s.W 18 c (o1 ++ ndp ns) back → (s.W.length : Int) ≤ 4611686018427387904 →
    ∃ s' back', pGiveGo ns s = (0, s') ∧ Ok s' n ∧ s'.W.length = s.W.length ∧ Rm s'.W 18 c o1 back' ∧ (back' 2).length = (back 2).length + ns.length ∧ s'.W.getD 0 0 = s.W.getD 0 0 ∧ (∀ u ∈ o1, ∀ j : Int, u.1 ≤ j → j < u.1 + u.2 → s'.W.getD j.toNat 0 = s.W.getD j.toNat 0)
  | [], s, n, back, hs, h1, _ => ⟨s, back, rfl, hs, rfl, by simpa [ndp] using h1, rfl, rfl, fun _ _ _ _ _ => rfl⟩
  | x :: ns, s, n, back, hs, h1, hl1 => by
    have hs' : Ok s ((n + 3 * ns.length) + 3) := hs.mono (by simp; omega)
    have e : o1 ++ ndp (x :: ns) = o1 ++ (x, ((2 : Nat) : Int)) :: ndp ns := by simp [ndp]
    rw [e] at h1
    obtain ⟨s1, q1, k1, W1, m1⟩ := give_ok hs' h1 hl1
    have hx := h1.outIn (x, ((2 : Nat) : Int)) (by simp)
    have hto := h1.to0
    have hnx := h1.nx1
    simp only at hx
    obtain ⟨s2, back2, q2, k2, L2, r2, c2, z2, hk⟩ := pGiveGo_x ns s1 n _ k1 m1 (by rw [W1]; simpa using hl1)
    have q1 : rGive s 0 x 2 = (0, s1) := q1
    refine ⟨s2, back2, ?_, k2, by rw [L2, W1]; simp, r2, by rw [c2]; simp; omega, by rw [z2, W1, getD_ne _ (by omega), getD_ne _ (by omega)], fun u hu j hj1 hj2 => ?_⟩
    · rw [pGiveGo, q1]
      exact q2
    · rw [hk u hu j hj1 hj2, W1]
      have hi := h1.outIn u (List.mem_append_left _ hu)
      have hd : Disj u (x, ((2 : Nat) : Int)) := by
        have hoo := h1.oo
        rw [List.pairwise_append] at hoo
        exact hoo.2.2 u hu _ (by simp)
      unfold Disj at hd
      simp only at hd
      rw [getD_ne _ (by omega), getD_ne _ (by omega)]
theorem stg_nodes {n : Nat} (h : Stg s ns xs A b g) (hb : Bud s (n + 1000)) : ∃ s1, pNodes 1 (hdOr ns 0) xs.length s = (ns, 0, s1) ∧ (∀ x ∈ ns, 0 ≤ x ∧ x ≤ 18446744073709551615) ∧ ns.length ≤ 491 := by
  obtain ⟨a1, a2, a3, a4, a5, a6⟩ := h.bds
  have hO : Ok s (n + 2 * ns.length) := (h.ok hb).mono (by omega)
  obtain ⟨nodes, back, h1, h2, h3, h4, h5⟩ := h
  obtain ⟨s1, e1, e2, e3⟩ := pNodes_x h2 hO (by omega)
  exact ⟨s1, by rw [← a1]; exact e1, fun x hx => by have := h2.inn x hx; have := h2.lw; omega, by omega⟩
theorem Stg.wide {b' : Int} (h : Stg s ns xs A b g) (hb : b ≤ b') : Stg s ns xs A b' g := by
  obtain ⟨nodes, back, h1, h2, h3, h4, h5⟩ := h
  exact ⟨nodes, back, h1, h2, h3, by omega, h5⟩
theorem stg_give {n : Nat} (h : Stg s ns xs [] b g) (hb : Bud s (n + 2500)) : ∃ s', pGive 1 (hdOr ns 0) xs.length s = (0, s') ∧ Stg s' [] [] [] b (g + xs.length) := by
  obtain ⟨a1, a2, a3, a4, a5, a6⟩ := h.bds
  have hO : Ok s ((n + 3 * ns.length) + 2 * ns.length) := (h.ok hb).mono (by omega)
  obtain ⟨nodes, back, h1, h2, h3, h4, h5⟩ := h
  obtain ⟨s1, e1, e2, e3⟩ := pNodes_x h2 hO (by omega)
  obtain ⟨s2, back2, q2, k2, L2, r2, c2, z2, hk⟩ := pGiveGo_x (o1 := pcs ⟨18, nodes, []⟩) ns s1 n back e2 (by rw [e3]; exact h1.rm) (by rw [e3]; exact h1.lw)
  rw [e3] at hk z2 L2
  have hlw := h1.lw
  refine ⟨s2, ?_, nodes, back2, ⟨by simpa [ndp] using r2, h1.st.keep hk, by rw [L2]; exact hlw⟩, ⟨trivial, fun _ h => by simp at h, .nil, by rw [L2]; exact hlw⟩, k2.1, by rw [z2]; exact h4, by rw [c2, h5, a1]⟩
  unfold pGive
  rw [← a1, e1]
  exact q2
end
/-- The room laid, the queue made. -/
theorem stg_new : ∃ s', qNew (laidSt 1000) 0 = (18, 0, s') ∧ Stg s' [] [] [] 21 0 ∧ Bud s' 4000000 := by
  obtain ⟨l1, l2, l3, l4⟩ := laid_at 1000 (by omega) (by omega)
  have hb : Ok (laidSt 1000) (4000000 + 7) := ⟨l2, by
    unfold Bud
    decide +kernel⟩
  obtain ⟨s', e1, e2, e3, e4, e5⟩ := qNew_x hb l3 (by rw [l1]; omega) rfl (by rw [l4]; omega)
  rw [l4] at e1 e4 e5
  exact ⟨s', e1, ⟨[], _, e4, ⟨trivial, fun _ h => by simp at h, .nil, e4.lw⟩, e2.1, by omega, rfl⟩, e2.2⟩
theorem stg_fillGo : ∀ (l A : List Int) (s : St) (b : Int) (g n : Nat), Stg s [] [] A b g → Bud s (n + 11 * l.length) → b + 2 * l.length ≤ 1000 →
    ∃ s' g', fillGo 18 l true s = (true, s') ∧ Stg s' [] [] (A ++ l) (b + 2 * l.length) g'
  | [], A, s, b, g, n, h, _, _ => ⟨s, g, rfl, by simpa using h⟩
  | x :: l, A, s, b, g, n, h, hb, hc => by
    simp only [List.length_cons] at hb hc
    have hb' : Bud s ((n + 11 * l.length) + 11) := hb.mono (by omega)
    obtain ⟨s1, g1, e1, h1, b1⟩ := stg_put x h hb' (by omega)
    obtain ⟨s2, g2, e2, h2⟩ := stg_fillGo l (A ++ [x]) s1 (b + 2) g1 n h1 b1 (by omega)
    refine ⟨s2, g2, ?_, ?_⟩
    · rw [fillGo, e1]; exact e2
    · have e : b + 2 * ((x :: l).length : Int) = b + 2 + 2 * (l.length : Int) := by simp; omega
      rw [e]
      simpa using h2
theorem stg_fill (l : List Int) (hl : l.length ≤ 300) : ∃ s' g', fillSt l = (18, true, s') ∧ Stg s' [] [] l (21 + 2 * l.length) g' := by
  obtain ⟨s1, e1, h1, b1⟩ := stg_new
  obtain ⟨s2, g2, e2, h2⟩ := stg_fillGo l [] s1 21 0 0 h1 (b1.mono (by omega)) (by omega)
  refine ⟨s2, g2, ?_, by simpa using h2⟩
  unfold fillSt
  rw [e1]
  simp only
  have : ((0 : Int) == 0) = true := rfl
  rw [this, e2]
end Go.Proofs.Ytcgdpclhlepofaa
/- One list in a room, on plain words: put in, new, told, taken out. No program in sight. -/
namespace Go.Proofs.Ytcgdpclhlepofaa
open Go.RowKit
set_option linter.unusedVariables false
set_option linter.unusedSimpArgs false
set_option maxHeartbeats 1000000
theorem lIns_x {s : St} {n : Nat} {c l key : Int} {npre npost kpre kpost : List Int} {X : List (Int × Int)} {back : Nat → List Int} {p' : Pl} (hs : Ok s (n + 9)) (h : Lx s.W c l (npre ++ npost) (kpre ++ kpost) X back) (hlen : npre.length = kpre.length) (hlt : ∀ x ∈ kpre, x < key) (hgt : ∀ x ∈ kpost, key < x) (hfr : p'.from_ = lastNx (l + 1) npre) (hnx : p'.next = hdOr npost 0) (hcap : back 2 = [] → s.W.getD 0 0 + 2 ≤ c) :
    ∃ nn s' back', lIns p' 0 s 0 l key = (true, 0, s') ∧ Ok s' n ∧ s'.W.length = s.W.length ∧ Lx s'.W c l (npre ++ nn :: npost) (kpre ++ key :: kpost) X back' ∧ s'.W.getD 0 0 ≤ s.W.getD 0 0 + 2 ∧ (∀ u ∈ X, ∀ j : Int, u.1 ≤ j → j < u.1 + u.2 → s'.W.getD j.toNat 0 = s.W.getD j.toNat 0) := by
  have hs3 : Ok s ((n + 5) + 4) := hs
  obtain ⟨l1, l2, l3⟩ := h.lin
  have hlw := h.lw
  have hcn := h.cnt
  obtain ⟨D1, D2, D3, D4⟩ := h.dis
  rcases take_ok (z := 2) hs3 h.rm (by omega) (by omega) h.lw with ⟨a1, a2, _⟩ | ⟨nn, s1, back', a1, a3, a5, a6, a7, a10, a11, a13, a14, -⟩
  · exact absurd a2 (by have := hcap a1; omega)
  · have t0 := a7.to0
    have hl1 : nn + 2 ≤ (s1.W.length : Int) := by simpa using Int.le_trans a6 t0
    have e18 : ∀ j : Int, 18 ≤ j → s1.W.getD j.toNat 0 = s.W.getD j.toNat 0 := fun j hj => a13 _ (by omega)
    have dl : Disj (l, 2) (nn, 2) := a10 _ (by simp)
    have dn : ∀ m ∈ npre ++ npost, Disj (m, 2) (nn, 2) := fun m hm => a10 (m, 2) (List.mem_cons_of_mem _ (List.mem_append_left _ (List.mem_map.2 ⟨m, hm, rfl⟩)))
    have hmn : ((nn, (2 : Int)) : Int × Int) ∈ ((l, 2) :: (ndp (npre ++ npost) ++ X)) ++ [(nn, ((2 : Nat) : Int))] := by simp
    have hml : ((l, (2 : Int)) : Int × Int) ∈ ((l, 2) :: (ndp (npre ++ npost) ++ X)) ++ [(nn, ((2 : Nat) : Int))] := by simp
    -- the cell that leads on
    obtain ⟨L, hLe⟩ : ∃ L, lastNx (l + 1) npre = L := ⟨_, rfl⟩
    have hL : (npre = [] ∧ L = l + 1) ∨ ∃ ns d, npre = ns ++ [d] ∧ L = d + 1 := by
      rcases List.eq_nil_or_concat npre with e | ⟨ns, d, e⟩
      · exact .inl ⟨e, by rw [← hLe, e]; rfl⟩
      · rw [List.concat_eq_append] at e
        exact .inr ⟨ns, d, e, by rw [← hLe, e, lastNx_snoc]⟩
    have HL := Lib.hid hL
    rw [hLe] at hfr
    clear hL
    have hLin : ∃ pc ∈ (l, (2 : Int)) :: (ndp (npre ++ npost) ++ X), pc.1 + 1 = L ∧ pc.2 = 2 := by
      rcases HL.out with ⟨e, rfl⟩ | ⟨ns, d, e, rfl⟩
      · exact ⟨(l, 2), by simp, rfl, rfl⟩
      · exact ⟨(d, 2), List.mem_cons_of_mem _ (List.mem_append_left _ (List.mem_map.2 ⟨d, by rw [e]; simp, rfl⟩)), rfl, rfl⟩
    obtain ⟨pc, hpc, hL1, hL2⟩ := hLin
    obtain ⟨i1, i2, i3⟩ := h.inn hpc
    have dpc : Disj pc (nn, 2) := a10 _ hpc
    have hmL : pc ∈ ((l, 2) :: (ndp (npre ++ npost) ++ X)) ++ [(nn, ((2 : Nat) : Int))] := List.mem_append_left _ hpc
    have hL3 : L ≠ l := by
      rcases HL.out with ⟨e, rfl⟩ | ⟨ns, d, e, rfl⟩
      · omega
      · have := D1 d (by rw [e]; simp)
        unfold Disj at this
        simp only at this
        omega
    unfold Disj at dl dpc
    simp only at dl dpc
    have b1 : Ok s1 ((n + 4) + 1) := a3
    have b2 := rdt_ok b1 l
    have b3 := wrt_ok b2 nn key
    have b4 := wrt_ok b3 (nn + 1) (hdOr npost 0)
    have b5 := wrt_ok b4 L (nn + 1)
    have b6 := wrt_ok b5 l ((npre ++ npost).length + 1)
    have r1 := a7.put (j := nn) hmn (by simp only; omega) (by simp only; omega) key
    have r2 := r1.put (j := nn + 1) hmn (by simp only; omega) (by simp only; omega) (hdOr npost 0)
    have r3 := r2.put (j := L) hmL (by omega) (by omega) (nn + 1)
    have r4 := r3.put (j := l) hml (by simp only; omega) (by simp only; omega) ((npre ++ npost).length + 1)
    obtain ⟨W', hW'⟩ : ∃ W', W' = (((s1.W.set nn.toNat key).set (nn + 1).toNat (hdOr npost 0)).set L.toNat (nn + 1)).set l.toNat (((npre ++ npost).length : Int) + 1) := ⟨_, rfl⟩
    have hlen1 : (s1.W.length : Int) = s.W.length := by rw [a11]
    have hg : ∀ j : Int, 0 ≤ j → W'.getD j.toNat 0 = if l = j then ((npre ++ npost).length : Int) + 1 else if L = j then nn + 1 else if nn + 1 = j then hdOr npost 0 else if nn = j then key else s1.W.getD j.toNat 0 := fun j hj => by
      rw [hW', gs _ (by omega) (by simp; omega) hj, gs _ (by omega) (by simp; omega) hj, gs _ (by omega) (by simp; omega) hj, gs _ (by omega) (by omega) hj]
    have hcl : s1.W.getD l.toNat 0 = ((npre ++ npost).length : Int) := (e18 l (by omega)).trans h.count
    refine ⟨nn, wrt (wrt (wrt (wrt (rdt s1 l) nn key) (nn + 1) (hdOr npost 0)) L (nn + 1)) l ((npre ++ npost).length + 1), back', ?_, b6, ?_, ?_, ?_, ?_⟩
    · have u1 : uAdd nn 1 = nn + 1 := uAdd_id (by omega) (by omega)
      have u2 : uAdd ((npre ++ npost).length : Int) 1 = (npre ++ npost).length + 1 := uAdd_id (by omega) (by omega)
      have a1 : htake s 0 0 2 = (nn, 0, s1) := a1
      have f1 : hget s1 0 l = (((npre ++ npost).length : Int), 0, rdt s1 l) := by rw [hget_rdt b1 (by omega), hcl]
      have f2 : hput (rdt s1 l) 0 nn key = (0, wrt (rdt s1 l) nn key) := hput_wrt b2 (by rw [rdt_W]; omega) _
      have f3 : hput (wrt (rdt s1 l) nn key) 0 (uAdd nn 1) p'.next = (0, wrt (wrt (rdt s1 l) nn key) (nn + 1) (hdOr npost 0)) := by rw [u1, hnx]; exact hput_wrt b3 (by rw [wrt_W, rdt_W]; simp; omega) _
      have f4 : hput (wrt (wrt (rdt s1 l) nn key) (nn + 1) (hdOr npost 0)) 0 p'.from_ (uAdd nn 1) = (0, wrt (wrt (wrt (rdt s1 l) nn key) (nn + 1) (hdOr npost 0)) L (nn + 1)) := by rw [u1, hfr]; exact hput_wrt b4 (by rw [wrt_W, wrt_W, rdt_W]; simp; omega) _
      have f5 : hput (wrt (wrt (wrt (rdt s1 l) nn key) (nn + 1) (hdOr npost 0)) L (nn + 1)) 0 l (uAdd ((npre ++ npost).length : Int) 1) = (0, wrt (wrt (wrt (wrt (rdt s1 l) nn key) (nn + 1) (hdOr npost 0)) L (nn + 1)) l ((npre ++ npost).length + 1)) := by rw [u2]; exact hput_wrt b5 (by rw [wrt_W, wrt_W, wrt_W, rdt_W]; simp; omega) _
      unfold lIns
      simp only [a1, f1, f2, f3, f4, f5]
      rfl
    · show ((((s1.W.set nn.toNat key).set (nn + 1).toNat (hdOr npost 0)).set L.toNat (nn + 1)).set l.toNat (((npre ++ npost).length : Int) + 1)).length = _
      simp [a11]
    · show Lx ((((s1.W.set nn.toNat key).set (nn + 1).toNat (hdOr npost 0)).set L.toNat (nn + 1)).set l.toNat (((npre ++ npost).length : Int) + 1)) c l (npre ++ nn :: npost) (kpre ++ key :: kpost) X back'
      have hold : ∀ m ∈ npre ++ npost, ∀ j : Int, m ≤ j → j < m + 2 → L ≠ j → W'.getD j.toNat 0 = s.W.getD j.toNat 0 := fun m hm j h1 h2 h3 => by
        have d1 := dn m hm
        have d2 := D1 m hm
        have i := h.nin hm
        unfold Disj at d1 d2
        simp only at d1 d2
        rw [hg j (by omega), if_neg (by omega), if_neg h3, if_neg (by omega), if_neg (by omega), e18 j (by omega)]
      obtain ⟨q1, q2⟩ := (Lnk.split hlen).1 h.lnk
      rw [List.pairwise_append] at D2
      obtain ⟨P1, P2, P3⟩ := D2
      refine ⟨?_, ?_, ?_, ?_, ?_, ?_⟩
      · refine r4.perm ?_
        simp only [ndp, List.map_append, List.map_cons, List.append_assoc, List.cons_append, List.nil_append]
        refine List.Perm.cons _ (List.Perm.append_left _ ?_)
        rw [← List.append_assoc]
        exact List.perm_append_comm
      · rw [← hW', hg _ (by omega), if_neg (by omega)]
        rcases HL.out with ⟨e, e2⟩ | ⟨ns, d, e, e2⟩
        · rw [if_pos e2, e]; rfl
        · have := D1 d (by rw [e]; simp)
          unfold Disj at this
          simp only at this
          rw [if_neg (by omega), if_neg (by omega), if_neg (by omega), e18 _ (by omega), h.first, e]
          cases ns <;> rfl
      · rw [← hW', hg _ (by omega), if_pos rfl]; simp; omega
      · rw [← hW']
        refine (Lnk.split hlen).2 ⟨?_, ?_⟩
        · rcases HL.out with ⟨e, e2⟩ | ⟨ns, d, e, e2⟩
          · subst e
            obtain rfl : kpre = [] := List.eq_nil_of_length_eq_zero (by simpa using hlen.symm)
            trivial
          · subst e
            have i := h.nin (n := d) (by simp)
            refine Lnk.lead (e := hdOr npost 0) q1 (fun m hm => ?_) ?_ ?_
            · have dd : Disj (m, 2) (d, 2) := (List.pairwise_append.1 P1).2.2 m hm d (by simp)
              have im := h.nin (n := m) (by simp [hm])
              unfold Disj at dd
              simp only at dd
              exact ⟨hold m (by simp [hm]) m (by omega) (by omega) (by omega), hold m (by simp [hm]) (m + 1) (by omega) (by omega) (by omega)⟩
            · exact hold d (by simp) d (by omega) (by omega) (by omega)
            · rw [hg _ (by omega), if_neg (by omega), if_pos e2]; rfl
        · have hLn : L ≠ nn ∧ L ≠ nn + 1 := by omega
          refine ⟨?_, ?_, q2.keep fun m hm => ?_⟩
          · rw [hg _ (by omega), if_neg (by omega), if_neg (by omega), if_neg (by omega), if_pos rfl]
          · rw [hg _ (by omega), if_neg (by omega), if_neg (by omega), if_pos rfl]
          · have im := h.nin (n := m) (by simp [hm])
            have hLm : L ≠ m ∧ L ≠ m + 1 := by
              rcases HL.out with ⟨e, e2⟩ | ⟨ns, d, e, e2⟩
              · have := D1 m (by simp [hm])
                unfold Disj at this
                simp only at this
                omega
              · have := P3 d (by rw [e]; simp) m hm
                unfold Disj at this
                simp only at this
                omega
            exact ⟨hold m (by simp [hm]) m (by omega) (by omega) hLm.1, hold m (by simp [hm]) (m + 1) (by omega) (by omega) hLm.2⟩
      · have hr := h.rise
        rw [List.pairwise_append] at hr ⊢
        obtain ⟨c1, c2, c3⟩ := hr
        refine ⟨c1, List.pairwise_cons.2 ⟨fun x hx => hgt x hx, c2⟩, fun x hx y hy => ?_⟩
        rcases List.mem_cons.1 hy with rfl | hy
        · exact hlt x hx
        · exact c3 x hx y hy
      · simp; omega
    · show ((((s1.W.set nn.toNat key).set (nn + 1).toNat (hdOr npost 0)).set L.toNat (nn + 1)).set l.toNat (((npre ++ npost).length : Int) + 1)).getD 0 0 ≤ _
      rw [← hW', show (0 : Nat) = ((0 : Int)).toNat from rfl, hg 0 (by omega), if_neg (by omega), if_neg (by omega), if_neg (by omega), if_neg (by omega)]
      exact a14
    · intro u hu j hj1 hj2
      show ((((s1.W.set nn.toNat key).set (nn + 1).toNat (hdOr npost 0)).set L.toNat (nn + 1)).set l.toNat (((npre ++ npost).length : Int) + 1)).getD j.toNat 0 = _
      have hu' : u ∈ (l, (2 : Int)) :: (ndp (npre ++ npost) ++ X) := List.mem_cons_of_mem _ (List.mem_append_right _ hu)
      have d1 := a10 u hu'
      have d2 := D3 u hu
      have iu := h.inn hu'
      have d3 : L < u.1 ∨ u.1 + u.2 ≤ L := by
        rcases HL.out with ⟨e, e2⟩ | ⟨ns, d, e, e2⟩
        · unfold Disj at d2; simp only at d2; omega
        · have := D4 d (by rw [e]; simp) u hu
          unfold Disj at this; simp only at this; omega
      unfold Disj at d1 d2
      simp only at d1 d2
      rw [← hW', hg j (by omega), if_neg (by omega), if_neg (by omega), if_neg (by omega), if_neg (by omega)]
      exact e18 j (by omega)
end Go.Proofs.Ytcgdpclhlepofaa
/- The list's hand by its contracts: a get, a put, a take, a give. -/
namespace Go.Proofs.Ytcgdpclhlepofaa
open Go.RowKit
set_option maxHeartbeats 4000000
set_option linter.unusedVariables false
set_option linter.unusedSimpArgs false

/-- a hand over the tx at t -/
def Hnd (w : World) (h t : Nat) (e : Int) : Prop := Blk w h 81 #[.iface 26 (.pointer (some ⟨t, 0, none⟩)), .int .i64 e]
theorem Hnd.err {w : World} {h t : Nat} {e : Int} (k : Hnd w h t e) (e' : Int) : Hnd (w.setCell ⟨h, 1, none⟩ (.int .i64 e')) h t e' := by
  have := Blk.set_ k 1 (.int .i64 e')
  simpa [Hnd] using this
theorem Hnd.cells {w : World} {h t : Nat} {e : Int} (k : Hnd w h t e) : w.cell? ⟨h, 0, none⟩ = some (.iface 26 (.pointer (some ⟨t, 0, none⟩))) ∧ w.cell? ⟨h, 1, none⟩ = some (.int .i64 e) ∧ w.frozen? ⟨h, 1, none⟩ = false :=
  ⟨by rw [Blk.cell k]; rfl, by rw [Blk.cell k]; rfl, Blk.frozen k 1⟩
/-- What a call of the hand leaves behind. -/
def LftH (t h n : Nat) (F0 : Nat → Prop) (w0 : World) (s' : St) (e' : Int) (w' : World) : Prop :=
  Fits s' ∧ Bud s' n ∧ ∃ F', Txw w' t F' s' ∧ Hnd w' h t e' ∧ ¬ F' h ∧ Fr F0 w0 (fun k => F' k ∨ k = h) w'
section
variable {t h n : Nat} {F F' F0 : Nat → Prop} {s s' : St} {e e' : Int} {w w' w0 : World}
theorem LftH.same (hw : Txw w t F s) (hh : Hnd w h t e) (hn : ¬ F h) (hf : Fits s) (hb : Bud s n) (hm : Fr F0 w0 (fun k => F k ∨ k = h) w) : LftH t h n F0 w0 s e w := ⟨hf, hb, F, hw, hh, hn, hm⟩
/-- the tx has turned -/
theorem Hnd.turn (hh : Hnd w h t e) (hn : ¬ F h) (hm : Fr F0 w0 (fun k => F k ∨ k = h) w) (k1 : Fr F w F' w') : Hnd w' h t e ∧ ¬ F' h ∧ Fr F0 w0 (fun k => F' k ∨ k = h) w' :=
  ⟨k1.blk hh hn, fun c => (k1.new h c).elim hn fun c => by have := Blk.lt hh; omega, hm.trans (k1.side fun k => k = h)⟩
/-- its error is set -/
theorem LftH.set (hw : Txw w t F s) (hh : Hnd w h t e) (hn : ¬ F h) (hf : Fits s) (hb : Bud s n) (hm : Fr F0 w0 (fun k => F k ∨ k = h) w) (e' : Int) : LftH t h n F0 w0 s e' (w.setCell ⟨h, 1, none⟩ (.int .i64 e')) :=
  ⟨hf, hb, F, hw.set (p := ⟨h, 1, none⟩) hn _, hh.err e', hn, hm.set (p := ⟨h, 1, none⟩) (.inl (.inr rfl)) _⟩
theorem LftH.mono {m : Nat} (k : LftH t h n F0 w0 s' e' w') (hm : m ≤ n) : LftH t h m F0 w0 s' e' w' := ⟨k.1, k.2.1.mono hm, k.2.2⟩
theorem LftH.drewN (k : LftH t h n F0 w0 s' e' w') (m : Nat) : LftH t h n F0 w0 s' e' (w'.drewN m) := let ⟨a, b, F', c, d, f, g⟩ := k; ⟨a, b, F', c.drewN m, d, f, g.drewN m⟩
end

theorem hget_b {t h n : Nat} {F F0 : Nat → Prop} {s : St} {e a : Int} {w w0 : World} (hw : Txw w t F s) (hh : Hnd w h t e) (hn : ¬ F h) (hf : Fits s) (hb : Bud s (n + 1)) (ha : 0 ≤ a) (hm : Fr F0 w0 (fun k => F k ∨ k = h) w) :
    Calls Try.prog 50 #[.pointer (some ⟨h, 0, none⟩), .int .u64 a] w fun en w' =>
      ∃ x e' s', Hid (hget s e a = (x, e', s')) ∧ 0 ≤ x ∧ x ≤ 18446744073709551615 ∧ en = .returned (.int .u64 x) ∧ LftH t h n F0 w0 s' e' w' := by
  obtain ⟨d0, d1, z1⟩ := hh.cells
  by_cases he : e = 0
  · subst he
    have HF := Lib.hid fun F' w' (k1 : Fr F w F' w') => hh.turn hn hm k1
    clear hm hh hn
    go_enter Try.func50, Try.ntmps50
    go_wp2_with (go_at_call 13; refine (tget_b (n := n) hw hf hb ha (Fr.refl F w)).mono ?_; rintro _ w' ⟨x, er, s', q, dx, dx', rfl, f', b', F', hw', hm'⟩; obtain ⟨hh', hn', hm2⟩ := HF.out _ _ hm'; obtain ⟨d0', d1', z1'⟩ := hh'.cells; have L1 := Lib.hid (LftH.set hw' hh' hn' f' b' hm2 er); have L2 := Lib.hid (LftH.same hw' hh' hn' f' b' hm2); clear hw hf hb hw' hh' hn' f' b' hm2 hm' HF)
    · rename_i hz
      have hz : er ≠ 0 := by simpa using hz
      go_ret
      exact ⟨0, er, s', Lib.hid (hget_er q.out hz), by omega, by omega, rfl, L1.out⟩
    · rename_i hz
      obtain rfl : er = 0 := by simpa using hz
      go_ret
      exact ⟨x, 0, s', Lib.hid (hget_ok q.out), dx, dx', rfl, L2.out⟩
  · have he' : (e != 0) = true := by simpa using he
    have L2 := Lib.hid (LftH.same (n := n) hw hh hn hf (hb.mono (by omega)) hm)
    have hq := Lib.hid (hget_no (s := s) he a)
    clear he hw hh hn hf hb hm
    go_enter Try.func50, Try.ntmps50
    go_wp2
    go_ret
    exact ⟨0, e, s, hq, by omega, by omega, rfl, L2.out⟩

theorem hput_b {t h n : Nat} {F F0 : Nat → Prop} {s : St} {e a x : Int} {w w0 : World} (hw : Txw w t F s) (hh : Hnd w h t e) (hn : ¬ F h) (hf : Fits s) (hb : Bud s (n + 1)) (ha : 0 ≤ a) (hx : 0 ≤ x) (hx' : x ≤ 18446744073709551615) (hm : Fr F0 w0 (fun k => F k ∨ k = h) w) :
    Calls Try.prog 48 #[.pointer (some ⟨h, 0, none⟩), .int .u64 a, .int .u64 x] w fun en w' =>
      ∃ e' s', Hid (hput s e a x = (e', s')) ∧ en = .returned (.tuple #[]) ∧ LftH t h n F0 w0 s' e' w' := by
  obtain ⟨d0, d1, z1⟩ := hh.cells
  by_cases he : e = 0
  · subst he
    have HF := Lib.hid fun F' w' (k1 : Fr F w F' w') => hh.turn hn hm k1
    clear hm hh hn
    go_enter Try.func48, Try.ntmps48
    go_wp2_with (go_at_call 11; refine (tput_b (n := n) hw hf hb ha hx hx' (Fr.refl F w)).mono ?_; rintro _ w' ⟨er, s', q, rfl, f', b', F', hw', hm'⟩; obtain ⟨hh', hn', hm2⟩ := HF.out _ _ hm'; obtain ⟨d0', d1', z1'⟩ := hh'.cells; have L1 := Lib.hid (LftH.set hw' hh' hn' f' b' hm2 er); clear hw hf hb hw' hh' hn' f' b' hm2 hm' HF)
    go_end0
    exact ⟨er, s', Lib.hid ((hput_ok s a x).trans q.out), rfl, L1.out⟩
  · have he' : (e == 0) = false := by simpa using he
    have L2 := Lib.hid (LftH.same (n := n) hw hh hn hf (hb.mono (by omega)) hm)
    have hq := Lib.hid (hput_no (s := s) he a x)
    clear he hw hh hn hf hb hm
    go_enter Try.func48, Try.ntmps48
    go_wp2
    go_end0
    exact ⟨e, s, hq, rfl, L2.out⟩

theorem htake_b {t h n : Nat} {F F0 : Nat → Prop} {s : St} {e a z : Int} {w w0 : World} (hw : Txw w t F s) (hh : Hnd w h t e) (hn : ¬ F h) (hf : Fits s) (hb : Bud s (n + 4)) (ha : 0 ≤ a) (hz : 0 ≤ z) (hm : Fr F0 w0 (fun k => F k ∨ k = h) w) :
    Calls Try.prog 47 #[.pointer (some ⟨h, 0, none⟩), .int .u64 a, .int .u64 z] w fun en w' =>
      ∃ x e' s', Hid (htake s e a z = (x, e', s')) ∧ 0 ≤ x ∧ x ≤ 18446744073709551615 ∧ en = .returned (.int .u64 x) ∧ LftH t h n F0 w0 s' e' w' := by
  obtain ⟨d0, d1, z1⟩ := hh.cells
  by_cases he : e = 0
  · subst he
    have HF := Lib.hid fun F' w' (k1 : Fr F w F' w') => hh.turn hn hm k1
    clear hm hh hn
    go_enter Try.func47, Try.ntmps47
    go_wp2_with (go_at_call 41; refine (take_b (n := n) hw hf hb ha hz (Fr.refl F w)).mono ?_; rintro _ w' ⟨x, er, s', q, dx, dx', rfl, f', b', F', hw', hm'⟩; obtain ⟨hh', hn', hm2⟩ := HF.out _ _ hm'; obtain ⟨d0', d1', z1'⟩ := hh'.cells; have L1 := Lib.hid (LftH.set hw' hh' hn' f' b' hm2 er); clear hw hf hb hw' hh' hn' f' b' hm2 hm' HF)
    go_ret
    exact ⟨x, er, s', Lib.hid ((htake_ok s a z).trans q.out), dx, dx', rfl, L1.out⟩
  · have he' : (e != 0) = true := by simpa using he
    have L2 := Lib.hid (LftH.same (n := n) hw hh hn hf (hb.mono (by omega)) hm)
    have hq := Lib.hid (htake_no (s := s) he a z)
    clear he hw hh hn hf hb hm
    go_enter Try.func47, Try.ntmps47
    go_wp2
    go_ret
    exact ⟨0, e, s, hq, by omega, by omega, rfl, L2.out⟩

theorem hbad_b {t h n : Nat} {F F0 : Nat → Prop} {s : St} {e : Int} {w w0 : World} (hw : Txw w t F s) (hh : Hnd w h t e) (hn : ¬ F h) (hf : Fits s) (hb : Bud s n) (hm : Fr F0 w0 (fun k => F k ∨ k = h) w) :
    Calls Try.prog 57 #[.pointer (some ⟨h, 0, none⟩)] w fun en w' => en = .returned (.tuple #[]) ∧ LftH t h n F0 w0 s (hbad e) w' := by
  obtain ⟨d0, d1, z1⟩ := hh.cells
  by_cases he : e = 0
  · subst he
    have L1 := Lib.hid (LftH.set hw hh hn hf hb hm (hbad 0))
    clear hw hh hn hf hb hm
    go_enter Try.func57, Try.ntmps57
    go_wp2
    go_end0
    exact ⟨rfl, L1.out⟩
  · have he' : (e == 0) = false := by simpa using he
    have L2 := Lib.hid (LftH.same hw hh hn hf hb hm)
    have hq : hbad e = e := if_neg he
    rw [hq]
    clear he hw hh hn hf hb hm hq
    go_enter Try.func57, Try.ntmps57
    go_wp2
    go_end0
    exact ⟨rfl, L2.out⟩
end Go.Proofs.Ytcgdpclhlepofaa
