/- The statements' own queue, filled; the chapter's examples. -/
import Derived.Test.YtcgdpclhlepofaaPaL
namespace Go.Proofs.Ytcgdpclhlepofaa
open Go.RowKit
set_option maxHeartbeats 4000000
set_option linter.unusedVariables false
set_option linter.unusedSimpArgs false

def fillGo (q : Int) : List Int → Bool → St → Bool × St
  | [], ok, s => (ok, s)
  | x :: l, ok, s => match qPut s 0 q x with | (e, s1) => fillGo q l ((e == 0) && ok) s1
theorem fillGo_drop {q : Int} {l : List Int} {j : Nat} (hj : j < l.length) {ok : Bool} {s s1 : St} {e : Int} (h : qPut s 0 q (l.getD j 0) = (e, s1)) : fillGo q (l.drop j) ok s = fillGo q (l.drop (j + 1)) ((e == 0) && ok) s1 := by
  rw [List.drop_eq_getElem_cons hj]
  have e1 : l[j] = l.getD j 0 := by rw [List.getD_eq_getElem?_getD, List.getElem?_eq_getElem hj]; rfl
  rw [e1, fillGo, h]
def fillSt (l : List Int) : Int × Bool × St := match qNew (laidSt 1000) 0 with | (q, e, s1) => match fillGo q l (e == 0) s1 with | (ok, s2) => (q, ok, s2)
def FillP (l : List Int) (B : Nat) (w : World) (e : Ending) (w' : World) : Prop := ∃ t q ok s' F', Hid (fillSt l = (q, ok, s')) ∧ 0 ≤ q ∧ q ≤ 18446744073709551615 ∧ e = .returned (.tuple #[.pointer (some ⟨t, 0, none⟩), .int .u64 q, .bool ok]) ∧ Fits s' ∧ Bud s' 4000000000 ∧ Txw w' t F' s' ∧ (∀ k, F' k → B ≤ k) ∧ Below B w w'
set_option maxRecDepth 100000 in
theorem filled_b {v : Value} {l : List Int} {w : World} (h : Lies w v l) (hl : l.length ≤ 300) (hlb : ∀ x ∈ l, 0 ≤ x ∧ x ≤ 18446744073709551615) :
    Calls Try.prog 6 #[v] w (FillP l w.heap.size w) := by
  obtain ⟨A, c, rfl, hc, hnl, _⟩ := id h
  have H := Lib.hid h
  have HLB := Lib.hid hlb
  clear h hlb hnl
  have hli : (l.length : Int) ≤ 300 := by omega
  go_enter Try.func6, Try.ntmps6
  go_wp2_with fail
  refine (laid_b 1000 (by omega) (by omega) w).mono ?_
  rintro _ w1 ⟨t, F1, rfl, hw1, ho1, f1, b1, hb1⟩
  have HB1 := Lib.hid hb1
  have HO1 := Lib.hid ho1
  clear hb1 ho1
  go_wp2_with fail
  refine (qunew_b (n := 4000000000 + 11 * l.length) hw1 f1 (b1.mono (by omega)) (by omega) (Fr.refl F1 _)).mono ?_
  rintro _ w2 ⟨q, e2, s2, q2, dq, dq', rfl, f2, b2, F2, hw2, hm2⟩
  have HB2 := Lib.hid (HB1.out.trans (hm2.below HO1.out HB1.out.size))
  have HO2 : Hid (∀ k, F2 k → w.heap.size ≤ k) := Lib.hid (hm2.ge HO1.out HB1.out.size)
  have HW2 := Lib.hid hw2
  have HS : Hid (fillSt l = match fillGo q l (e2 == 0) s2 with | (ok, s2) => (q, ok, s2)) := Lib.hid (by unfold fillSt; rw [q2.out])
  clear hw1 hw2 hm2 f1 b1 HB1 HO1 q2
  go_wp2_with (go_at_call 17; refine (num_b _ _).mono ?_; rintro e _ ⟨rfl, rfl⟩)
  go_loopg [8, 9] l.length (fun gk c8 c9 wr => ∃ (j : Nat) (ok : Bool) (sx : St) (Fx : Nat → Prop), gk + j = l.length ∧ c8 = .bool ok ∧ c9 = .int .i64 (j : Int) ∧ Hid (fillGo q l (e2 == 0) s2 = fillGo q (l.drop j) ok sx) ∧ Fits sx ∧ Bud sx (4000000000 + 11 * gk) ∧ Hid (Txw wr t Fx sx) ∧ Hid (∀ k, Fx k → w.heap.size ≤ k) ∧ Hid (Below w.heap.size w wr))
  case atStart => exact ⟨0, e2 == 0, s2, F2, rfl, rfl, rfl, Lib.hid (by simp), f2, b2, HW2, HO2, HB2⟩
  case round =>
    obtain ⟨j, ok, sx, Fx, hgk, rfl, rfl, HG1, fx, bx, HW, HO, HB⟩ := hrel
    have HG := Lib.hid hgk
    clear hgk HW2 HO2 HB2 f2 b2
    by_cases hj : j < l.length
    · obtain ⟨g, rfl⟩ : ∃ g, gk = g + 1 := ⟨gk - 1, by have := HG.out; omega⟩
      obtain ⟨A2, c2, e1, hc2, _, hcs⟩ := H.out
      rw [Value.slice.injEq] at e1
      obtain ⟨rfl, -, rfl⟩ := e1
      obtain ⟨gz, oz, rfl, hcl⟩ := hcs j hj
      have hcell : Hid True := Lib.hid trivial
      have hcr : ∀ {w' : World}, Below w.heap.size w w' → w'.cell? ⟨gz, oz + j, none⟩ = some (.int .u64 (l.getD j 0)) := fun hb => by
        have hlt : gz < w.heap.size := Nat.lt_of_not_le fun hh => by
          unfold World.cell? at hcl
          rw [Array.getElem?_eq_none hh] at hcl
          cases hcl
        exact (hb.cell (p := ⟨gz, oz + j, none⟩) hlt).trans hcl
      have hcx := hcr HB.out
      have hxb := HLB.out _ (show l.getD j 0 ∈ l by rw [List.getD_eq_getElem?_getD, List.getElem?_eq_getElem hj]; exact List.getElem_mem hj)
      have hji : (j : Int) < l.length := by omega
      have hP := Lib.hid fun (e : Int) (s1 : St) (h : qPut sx 0 q (l.getD j 0) = (e, s1)) => HG1.out.trans (fillGo_drop hj h)
      obtain ⟨hx1, hx2⟩ := hxb
      clear hcs hcl hcr hcell HG1
      generalize l.getD j 0 = xj at *
      have bx : Bud sx ((4000000000 + 11 * g) + 11) := bx.mono (by omega)
      go_wp2_with fail
      refine (quput_b HW.out fx bx (by omega) dq dq' hx1 hx2 (Fr.refl Fx _)).mono ?_
      rintro _ w7 ⟨e7, s7, q7, rfl, f7, b7, F7, hT7, hm7⟩
      have HP7 := Lib.hid (hP.out e7 s7 q7.out)
      have HT7 := Lib.hid hT7
      have HB7 := Lib.hid (HB.out.trans (hm7.below HO.out HB.out.size))
      have HO7 : Hid (∀ k, F7 k → w.heap.size ≤ k) := Lib.hid (hm7.ge HO.out HB.out.size)
      clear hT7 hm7 HW HB HO hP q7 hcx
      by_cases he : e7 = 0
      · subst he
        have HP8 : Hid (fillGo q l (e2 == 0) s2 = fillGo q (l.drop (j + 1)) ok s7) := Lib.hid (by rw [HP7.out]; simp)
        clear HP7
        go_wp2_with (go_at_call 17; refine (num_b _ _).mono ?_; rintro e _ ⟨rfl, rfl⟩)
        go_roundg g
        case measure => omega
        case rel => exact ⟨j + 1, ok, s7, F7, by have := HG.out; omega, rfl, by go_num, HP8, f7, b7, HT7, HO7, HB7⟩
      · have z : (e7 == 0) = false := by simpa using he
        have HP8 : Hid (fillGo q l (e2 == 0) s2 = fillGo q (l.drop (j + 1)) false s7) := Lib.hid (by rw [HP7.out, z]; rfl)
        clear HP7 he
        go_wp2_with (go_at_call 17; refine (num_b _ _).mono ?_; rintro e _ ⟨rfl, rfl⟩)
        go_roundg g
        case measure => omega
        case rel => exact ⟨j + 1, false, s7, F7, by have := HG.out; omega, rfl, by go_num, HP8, f7, b7, HT7, HO7, HB7⟩
    · obtain rfl : j = l.length := by have := HG.out; omega
      obtain rfl : gk = 0 := by have := HG.out; omega
      have hfin : Hid (fillSt l = (q, ok, sx)) := Lib.hid (by rw [HS.out, HG1.out]; simp [fillGo])
      clear hj
      go_wp2
      go_ret3
      exact ⟨t, q, ok, sx, Fx, hfin, dq, dq', rfl, fx, bx, HW.out, HO.out, HB.out⟩
end Go.Proofs.Ytcgdpclhlepofaa
