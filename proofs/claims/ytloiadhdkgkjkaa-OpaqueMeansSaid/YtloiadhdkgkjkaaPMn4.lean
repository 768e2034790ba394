/- The document's world: Put by contract, whatever the event. -/
import Derived.Test.YtloiadhdkgkjkaaEvX
import Derived.Test.YtloiadhdkgkjkaaMixH
import Derived.Deep.DeepCutAuto
import Derived.Sort.Grow
import Derived.Shelf.SlSortCmp.NoneTotal
import Derived.Test.YtloiadhdkgkjkaaPMn1
import Derived.Test.YtloiadhdkgkjkaaPMn3
namespace Go.Proofs.Ytloiadhdkgkjkaa
open Go.RowKit
set_option maxHeartbeats 4000000
set_option linter.unusedVariables false
set_option linter.unusedSimpArgs false
theorem tb_lock1 {how : Nat} (h : tb how 1 ≠ 0) : how ≠ 2 := by rintro rfl; simp [tb] at h
theorem tb_lock4 {how : Nat} (h : tb how 4 ≠ 0) : how ≠ 2 := by rintro rfl; simp [tb] at h
theorem tb_lock5 {how : Nat} (h : tb how 5 ≠ 0) : how ≠ 2 := by rintro rfl; simp [tb] at h
def PutP (B : Nat) (w : World) (b : Nat) (s : St) (k : Nat) (e : Ev) (x : Ending) (w' : World) : Prop := x = .returned (.int .i64 (wrong s e)) ∧ Below B w w' ∧ (wrong s e = 0 → ∃ wv', RefW B w' b (take s k e) wv')
theorem putP_no {B b k : Nat} {w : World} {s : St} {e : Ev} {c : Int} {w' : World} {x : Ending} (hc : wrong s e = c) (h0 : c ≠ 0) (h : x = .returned (.int .i64 c) ∧ Below B w w') : PutP B w b s k e x w' := ⟨by rw [hc]; exact h.1, h.2, fun e0 => absurd (hc.symm.trans e0) h0⟩
theorem putP_ok {B b k : Nat} {w : World} {s : St} {e : Ev} {w' : World} {x : Ending} (hc : wrong s e = 0) (h : x = .returned (.int .i64 0) ∧ Below B w w' ∧ ∃ wv', RefW B w' b (take s k e) wv') : PutP B w b s k e x w' := ⟨by rw [hc]; exact h.1, h.2.1, fun _ => h.2.2⟩
theorem rput_b {B b k : Nat} {w : World} {s : St} {wv : Nat → Value} (h : RefW B w b s wv) (hI : Inv s k) (hkk : k ≤ 1152921504606846976) (hk16 : (k + 1) * 16 ≤ 140737488355328) (hwl : ∀ t, (s.th t).ws.length ≤ k) (e : Ev) (he : EvWf e) :
    Calls Try.prog 61 #[.pointer (some ⟨b, 0, none⟩), evV e] w (PutP B w b s k e) := by
  obtain ⟨th, kd, ad, wd, ow, er⟩ := e
  by_cases hf : fmd ⟨th, kd, ad, wd, ow, er⟩ = false
  · exact (rput_form h hI he hf).mono fun x w' hp => putP_no (by unfold wrong wrg; rw [if_pos hf]) (by decide) hp
  have hf' : fmd ⟨th, kd, ad, wd, ow, er⟩ = true := by simpa using hf
  obtain ⟨⟨h0, h8⟩, k1, k12⟩ := fmd_bd hf'
  dsimp only at h0 h8 k1 k12
  obtain ⟨t, rfl⟩ := Int.eq_ofNat_of_zero_le h0
  have ht : t < 8 := by omega
  have hW : ∀ c, (if tb (s.th t).how kd = 0 ∨ ((s.th t).how = 0 ∧ kd = 9 ∧ er ≠ 4) then (230 : Int) else if (lockK kd && decide (0 ≤ s.hold)) = true then 231 else if wordOk (s.th t) s.num ⟨t, kd, ad, wd, ow, er⟩ = false then 232 else if ownOk (s.th t) ⟨t, kd, ad, wd, ow, er⟩ = false then 233 else 0) = c → wrong s ⟨t, kd, ad, wd, ow, er⟩ = c := by
    intro c hc
    unfold wrong wrg
    rw [if_neg hf]
    exact hc
  by_cases htb : tb (s.th t).how kd = 0 ∨ ((s.th t).how = 0 ∧ kd = 9 ∧ er ≠ 4)
  · exact (rput_turn h hI ht he hf' (by unfold tnR; dsimp only; rw [if_pos htb])).mono fun x w' hp => putP_no (hW 230 (by rw [if_pos htb])) (by decide) hp
  obtain ⟨nx, hnx⟩ : ∃ nx, tb (s.th t).how kd = nx + 1 := ⟨tb (s.th t).how kd - 1, by have : tb (s.th t).how kd ≠ 0 := fun e => htb (.inl e); omega⟩
  have htn : tnR (s.th t).how ⟨t, kd, ad, wd, ow, er⟩ = (nx : Int) := by unfold tnR; dsimp only; rw [if_neg htb, hnx]; omega
  have hne : tb (s.th t).how kd ≠ 0 := by omega
  by_cases hlk : (lockK kd && decide (0 ≤ s.hold)) = true
  · have hL := hlk
    rw [Bool.and_eq_true, decide_eq_true_eq] at hL
    have hkd : kd = 1 ∨ kd = 4 ∨ kd = 5 := by
      have := hL.1
      unfold lockK at this
      simpa [or_assoc] using this
    have hW1 := hW 231 (by rw [if_neg htb, if_pos hlk])
    rcases hkd with rfl | rfl | rfl
    · exact (rput_lock1 h hI ht he hf' htn (by rw [lkR_hold hI ht (tb_lock1 hne)]; exact decide_eq_true hL.2)).mono fun x w' hp => putP_no hW1 (by decide) hp
    · exact (rput_lock4 h hI ht he hf' htn (by rw [lkR_hold hI ht (tb_lock4 hne)]; exact decide_eq_true hL.2)).mono fun x w' hp => putP_no hW1 (by decide) hp
    · exact (rput_lock5 h hI ht he hf' htn (by rw [lkR_hold hI ht (tb_lock5 hne)]; exact decide_eq_true hL.2)).mono fun x w' hp => putP_no hW1 (by decide) hp
  have hl1 : kd = 1 → lkR s (t : Int) = false := fun e => by subst e; rw [lkR_hold hI ht (tb_lock1 hne)]; simpa [lockK] using hlk
  have hl4 : kd = 4 → lkR s (t : Int) = false := fun e => by subst e; rw [lkR_hold hI ht (tb_lock4 hne)]; simpa [lockK] using hlk
  have hl5 : kd = 5 → lkR s (t : Int) = false := fun e => by subst e; rw [lkR_hold hI ht (tb_lock5 hne)]; simpa [lockK] using hlk
  have f1 : ¬ kd = 1 → (kd == 1) = false := fun h => by simpa using h
  have f3 : ¬ kd = 3 → (kd == 3) = false := fun h => by simpa using h
  have f4 : ¬ kd = 4 → (kd == 4) = false := fun h => by simpa using h
  have f5 : ¬ kd = 5 → (kd == 5) = false := fun h => by simpa using h
  have f6 : ¬ kd = 6 → (kd == 6) = false := fun h => by simpa using h
  by_cases hnm : wordOk (s.th t) s.num ⟨t, kd, ad, wd, ow, er⟩ = false
  · have hW1 := hW 232 (by rw [if_neg htb, if_neg hlk, if_pos hnm])
    by_cases c1 : kd = 1
    · subst c1; exact (rput_num1 h hI hkk hk16 hwl ht he hf' htn (hl1 rfl) hnm).mono fun x w' hp => putP_no hW1 (by decide) hp
    by_cases c4 : kd = 4
    · subst c4; exact (rput_num4 h hI hkk hk16 hwl ht he hf' htn (hl4 rfl) hnm).mono fun x w' hp => putP_no hW1 (by decide) hp
    by_cases c5 : kd = 5
    · subst c5; exact (rput_num5 h hI hkk hk16 hwl ht he hf' htn (hl5 rfl) hnm).mono fun x w' hp => putP_no hW1 (by decide) hp
    exact (rput_num h hI hkk hk16 hwl ht he (f1 c1) (f4 c4) (f5 c5) hf' htn hnm).mono fun x w' hp => putP_no hW1 (by decide) hp
  have hnm' : wordOk (s.th t) s.num ⟨t, kd, ad, wd, ow, er⟩ = true := by simpa using hnm
  by_cases how : ownOk (s.th t) ⟨t, kd, ad, wd, ow, er⟩ = false
  · have hW1 := hW 233 (by rw [if_neg htb, if_neg hlk, if_neg hnm, if_pos how])
    by_cases c1 : kd = 1
    · subst c1; simp [ownOk] at how
    by_cases c4 : kd = 4
    · subst c4; simp [ownOk] at how
    by_cases c5 : kd = 5
    · subst c5; exact (rput_own5 h hI hkk hk16 hwl ht he hf' htn (hl5 rfl) hnm' how).mono fun x w' hp => putP_no hW1 (by decide) hp
    exact (rput_own h hI hkk hk16 hwl ht he (f1 c1) (f4 c4) (f5 c5) hf' htn hnm' how).mono fun x w' hp => putP_no hW1 (by decide) hp
  have how' : ownOk (s.th t) ⟨t, kd, ad, wd, ow, er⟩ = true := by simpa using how
  have hW1 := hW 0 (by rw [if_neg htb, if_neg hlk, if_neg hnm, if_neg how])
  by_cases c1 : kd = 1
  · subst c1; exact (rput_ok1 h hI hkk hk16 hwl ht he hf' htn (hl1 rfl) hnm' how' hnx).mono fun x w' hp => putP_ok hW1 hp
  by_cases c4 : kd = 4
  · subst c4; exact (rput_ok4 h hI hkk hk16 hwl ht he hf' htn (hl4 rfl) hnm' how' hnx).mono fun x w' hp => putP_ok hW1 hp
  by_cases c5 : kd = 5
  · subst c5; exact (rput_ok5 h hI hkk hk16 hwl ht he hf' htn (hl5 rfl) hnm' how' hnx).mono fun x w' hp => putP_ok hW1 hp
  by_cases c6 : kd = 6
  · subst c6
    by_cases h2 : (s.th t).how = 2
    · exact (rput_ok6a h hI hkk hk16 hwl ht he hf' htn hnm' how' hnx h2).mono fun x w' hp => putP_ok hW1 hp
    · exact (rput_ok6b h hI hkk hk16 hwl ht he hf' htn hnm' how' hnx h2).mono fun x w' hp => putP_ok hW1 hp
  by_cases c3 : kd = 3
  · subst c3; exact (rput_ok3 h hI hkk hk16 hwl ht he hf' htn hnm' how' hnx).mono fun x w' hp => putP_ok hW1 hp
  exact (rput_oko h hI hkk hk16 hwl ht he (f1 c1) (f4 c4) (f5 c5) (f3 c3) (f6 c6) hf' htn hnm' how' hnx).mono fun x w' hp => putP_ok hW1 hp
end Go.Proofs.Ytloiadhdkgkjkaa
/- The document's Check of a history by contract. -/
namespace Go.Proofs.Ytloiadhdkgkjkaa
open Go.RowKit
set_option maxHeartbeats 40000000
set_option linter.unusedVariables false
set_option linter.unusedSimpArgs false
theorem ref_zero : ofF 25 (gR St.zero (fun _ => .slice none 0 0)) = #[.int .i64 0, .int .u64 0, .slice none 0 0, .int .i64 0, .int .u64 0, .slice none 0 0, .int .i64 0, .int .u64 0, .slice none 0 0, .int .i64 0, .int .u64 0, .slice none 0 0, .int .i64 0, .int .u64 0, .slice none 0 0, .int .i64 0, .int .u64 0, .slice none 0 0, .int .i64 0, .int .u64 0, .slice none 0 0, .int .i64 0, .int .u64 0, .slice none 0 0, .int .u64 0] := rfl
set_option maxRecDepth 100000 in
theorem rcheck_b {w : World} {A : Option Addr} {cp : Nat} {l : List Ev} (hL : LiesV w (.slice A l.length cp) l) (hwf : ∀ e ∈ l, EvWf e) (hsz : l.length * 48 + 480 ≤ 140737488355328) :
    Calls Try.prog 53 #[.slice A l.length cp] w fun x w' => x = .returned (.agg #[.int .i64 (odd l).1, .int .i64 (odd l).2]) ∧ Below w.heap.size w w' := by
  have hlen : (l.length : Int) ≤ 9223372036854775807 := by omega
  obtain ⟨w1, hw1⟩ : ∃ w1, w1 = w.alloc (.cells #[.int .i64 0, .int .i64 0] 28) := ⟨_, rfl⟩
  have hO1 : Blk w1 w.heap.size 28 #[.int .i64 0, .int .i64 0] := by rw [hw1]; exact Blk.new _ _ _
  have hb1 : Below w.heap.size w w1 := by rw [hw1]; exact (Below.refl _ _).alloc (Nat.le_refl _) _
  have hR2 := Blk.new w1 131 (ofF 25 (gR St.zero (fun _ => .slice none 0 0)))
  have hO2 := Lib.hid (hO1.alloc (.cells (ofF 25 (gR St.zero (fun _ => .slice none 0 0))) 131))
  have hb2 := Lib.hid (hb1.alloc hb1.size (.cells (ofF 25 (gR St.zero (fun _ => .slice none 0 0))) 131))
  have hRW := Lib.hid (RefW.mk (B := w1.heap.size) (s := St.zero) hR2 (fun t ht => Sl.nil _) (fun t t' _ _ _ k hk => by simp [own, Value.ownBlock] at hk) (Nat.le_refl _) (fun t _ k hk => by simp [own, Value.ownBlock] at hk))
  rw [ref_zero] at hO2 hb2 hRW
  have z1 : w1.heap.size = w.heap.size + 1 := by rw [hw1]; simp
  rw [z1] at hRW
  have hs1 : w.heap.size ≤ w.heap.size + 1 := Nat.le_succ _
  have hlt1 : w.heap.size < w.heap.size + 1 := Nat.lt_succ_self _
  replace z1 := Lib.hid z1
  clear hO1 hb1 hR2
  replace hw1 := Lib.hid hw1
  replace hL := Lib.hid hL
  go_enter Try.func53, Try.ntmps53
  go_wp2
  rw [← hw1.out]
  go_loopw [4] (fun i wr => ∃ (k : Nat) (wv : Nat → Value), k ≤ l.length ∧ i = .int .i64 k ∧ Hid (okTo l k) ∧ Hid (RefW (w.heap.size + 1) wr (w.heap.size + 1) (rn l k) wv) ∧ Hid (Below w.heap.size w wr) ∧ Hid (Blk wr w.heap.size 28 #[.int .i64 0, .int .i64 0])) (fun i _ => l.length - (intOf i).toNat)
  case atStart => exact ⟨0, _, Nat.zero_le _, rfl, Lib.hid fun j hj => by omega, hRW, hb2, hO2⟩
  case round =>
    obtain ⟨k, wv, hk, rfl, hok, hR, hbl, hO⟩ := hrel
    clear hO2 hb2 hRW
    by_cases hlt : k < l.length
    · obtain ⟨A', cp', eA, hcp, hA0, -, hl48, hcl⟩ := hL.out.below hbl.out (Nat.le_refl _)
      injection eA with e1 e2 e3
      subst e1 e3
      have hewf := hwf _ (List.getElem_mem hlt)
      have hev : Hid (evAt l k = l[k]) := Lib.hid (by unfold evAt; rw [List.getD_eq_getElem?_getD, List.getElem?_eq_getElem hlt]; rfl)
      have hinv := inv_rn hwf hk hok.out
      obtain ⟨g, o, rfl, hg, hc⟩ := hcl k hlt
      generalize hee : l[k] = e at *
      have d0 := hc 0 (by decide)
      have d1 := hc 1 (by decide)
      have d2 := hc 2 (by decide)
      have d3 := hc 3 (by decide)
      have d4 := hc 4 (by decide)
      have d5 := hc 5 (by decide)
      have CP := Lib.hid (rput_b hR.out hinv (by omega) (by omega) (rn_ws_len l k) e hewf)
      unfold PutP at CP
      obtain ⟨th, kd, ad, wd, ow, er⟩ := e
      unfold evV at CP
      simp only [encV, List.getElem?_cons_zero, List.getElem?_cons_succ, Nat.add_zero] at d0 d1 d2 d3 d4 d5
      dsimp only at CP
      have hlt' : (k : Int) < (l.length : Int) := by omega
      have hbs := hbl.out.size
      clear hcl hc hinv hewf hl48 hR e2 hcp hA0 hg
      replace hee := Lib.hid hee
      generalize hx : wrong (rn l k) ⟨th, kd, ad, wd, ow, er⟩ = x at *
      replace hx := Lib.hid hx
      have hxc : ((x != 0) = false ∧ x = 0) ∨ ((x != 0) = true ∧ x ≠ 0) := by
        by_cases h : x = 0
        · exact .inl ⟨by simp [h], h⟩
        · exact .inr ⟨by simp [h], h⟩
      rcases hxc with ⟨hx1, hx2⟩ | ⟨hx1, hx2⟩
      · replace hx2 := Lib.hid hx2
        go_wp2_with fail
        refine CP.out.mono ?_
        rintro _ w3 ⟨rfl, hb3, hr3⟩
        obtain ⟨wv3, hR3⟩ := hr3 hx2.out
        have hO3 := Lib.hid (hO.out.below hb3 hlt1)
        have hbl3 := Lib.hid (hbl.out.trans (hb3.mono hs1))
        have hR4 : Hid (RefW (w.heap.size + 1) w3 (w.heap.size + 1) (rn l (k + 1)) wv3) := Lib.hid (by show RefW _ _ _ (take (rn l k) k (evAt l k)) _; rw [hev.out]; exact hR3)
        clear hb3 hr3 hO hbl CP hR3
        go_wp2_with fail
        go_roundw
        case rel => exact ⟨k + 1, wv3, hlt, by go_num, Lib.hid (hok.out.succ (by rw [hev.out, hx.out]; exact hx2.out)), hR4, hbl3, hO3⟩
        case measure => simp [intOf]; omega
      · go_wp2_with fail
        refine CP.out.mono ?_
        rintro _ w3 ⟨rfl, hb3, hr3⟩
        have hO3 := hO.out.below hb3 hlt1
        have hbl3 := Lib.hid (hbl.out.trans (hb3.mono hs1))
        have c0 := hO3.cell 0
        have c1 := hO3.cell 1
        have f0 := hO3.frozen 0
        have f1 := hO3.frozen 1
        simp only [List.getElem?_toArray, List.getElem?_cons_zero, List.getElem?_cons_succ] at c0 c1
        clear hb3 hr3 hO hbl CP hO3
        go_wp2
        refine bodyPost_ret (v := .agg #[.int .i64 k, .int .i64 x]) (by simp [results, Try.results53, go_sem, c0, c1, f0, f1]) rfl ⟨?_, (hbl3.out.setCell (Nat.le_refl _) _).setCell (Nat.le_refl _) _⟩
        have e := odd_bad hok.out hlt (by rw [hev.out, hx.out]; exact hx2)
        rw [hev.out, hx.out] at e
        rw [e]
    · have hkk : k = l.length := by omega
      subst hkk
      have c0 := hO.out.cell 0
      have c1 := hO.out.cell 1
      have f0 := hO.out.frozen 0
      have f1 := hO.out.frozen 1
      simp only [List.getElem?_toArray, List.getElem?_cons_zero, List.getElem?_cons_succ] at c0 c1
      go_wp2
      refine bodyPost_ret (v := .agg #[.int .i64 (-1), .int .i64 0]) (by simp [results, Try.results53, go_sem, c0, c1, f0, f1]) rfl ⟨by rw [odd_ok hok.out], (hbl.out.setCell (Nat.le_refl _) _).setCell (Nat.le_refl _) _⟩
end Go.Proofs.Ytloiadhdkgkjkaa
/- The document's known history: what the law's closed sentences say of it. -/
namespace Go.Proofs.Ytloiadhdkgkjkaa
open Go.RowKit
set_option maxHeartbeats 4000000
set_option linter.unusedVariables false
set_option linter.unusedSimpArgs false
def wroteL : List Ev := [⟨0, 1, 0, 0, false, 0⟩, ⟨0, 3, 0, 7, false, 0⟩, ⟨0, 3, 1, 8, false, 0⟩, ⟨0, 5, 0, 0, false, 0⟩, ⟨0, 6, 0, 1, false, 0⟩]
def knownL : List Ev := [⟨1, 1, 0, 0, false, 0⟩] ++ wroteL ++ [⟨1, 2, 0, 7, false, 0⟩, ⟨1, 2, 1, 6, false, 0⟩]
theorem k_odd : seeOdd 2 knownL = (-1, 0) := by kernel_rfl
theorem w_odd : seeOdd 2 wroteL = (-1, 0) := by kernel_rfl
theorem k_chk : chkA [5, 6] knownL = 0 := by kernel_rfl
theorem w_chk : chkA [5, 6] wroteL = -1 := by kernel_rfl
theorem w_beh1 : behA [5, 6] wroteL 1 = ((-1, 0), [7, 8]) := by kernel_rfl
theorem w_beh2 : behA [5, 6] wroteL 2 = ((-1, 2), []) := by kernel_rfl
theorem wrote_b (w : World) : Calls Try.prog 36 #[] w fun x w' => Below w.heap.size w w' ∧ ∃ ov, x = .returned ov ∧ Sl 61 6 encV w' ov wroteL ∧ ∀ q, own ov q → w.heap.size ≤ q := by
  go_enter Try.func36, Try.ntmps36
  go_wp2
  go_ret
  refine ⟨(Below.refl _ _).alloc (Nat.le_refl _) _, _, rfl, Sl.new encV_len w wroteL (by decide), ?_⟩
  intro q hq
  have e : w.heap.size = q := by simpa [own, Value.ownBlock] using hq
  omega
theorem Sl.liesV {w : World} {v : Value} {l : List Ev} (h : Sl 61 6 encV w v l) (hwf : ∀ e ∈ l, EvWf e) (hsz : l.length * 48 ≤ 140737488351232 + 48) : LiesV w v l := by
  obtain ⟨A, cp, rfl, hc⟩ := h.shape
  refine ⟨A, cp, rfl, hc, ?_, hwf, hsz, fun j hj => ?_⟩
  · intro hA
    subst hA
    rcases h.2 with ⟨h1, _⟩ | ⟨g, off, cap, cur, h1, _⟩
    · injection h1
    · injection h1 with h1
      cases h1
  · obtain ⟨g, o, rfl, hlt, hc⟩ := h.cell encV_len (by omega) hj
    refine ⟨g, o, rfl, hlt, fun c h6 => ?_⟩
    have := (hc j hj c h6).1
    rw [Nat.add_assoc]
    exact this
theorem LiesV.src {w : World} {v : Value} {l : List Ev} (h : LiesV w v l) : Src w v l.length 6 (l.flatMap encV) := by
  obtain ⟨A, cp, rfl, hc, h0, -, -, h⟩ := h
  cases A with
  | none =>
    obtain rfl := h0 rfl
    obtain rfl : l = [] := List.eq_nil_of_length_eq_zero (by omega)
    exact .inl ⟨rfl, rfl, rfl⟩
  | some ad =>
    refine .inr ⟨ad, cp, rfl, flat_len encV_len l, fun j u hj => ?_, fun u hu => ?_⟩
    · have hjl : j < l.length * 6 := by rw [← flat_len encV_len l]; exact (List.getElem?_eq_some_iff.1 hj).1
      obtain ⟨q, r, hr, rfl⟩ : ∃ q r, r < 6 ∧ j = q * 6 + r := ⟨j / 6, j % 6, Nat.mod_lt _ (by omega), by omega⟩
      have hq : q < l.length := by omega
      obtain ⟨g, o, e, hlt, hcell⟩ := h q hq
      injection e with e
      subst e
      rw [Addr.add_lit, ← Nat.add_assoc, hcell r hr, ← hj, flat_get encV_len l q r hq hr]
    · obtain ⟨x, _, hx⟩ := List.mem_flatMap.1 hu
      exact encV_one x u hx
theorem wpList_evs {ops : Array Oper} {rest : List Oper} {o : Oper} {a : Act} {Q : Exit → Act → World → Prop} (wr : World) (hgd : o.guard = none) (s x : Operand)
    (ho : o.op = .call { callee := .builtin .append, args := #[s, x], argTypes := #[23, 23] })
    (v u : Value) (l m : List Ev) (hs : a.eval s = v) (hl : Sl 61 6 encV wr v l) (hx : a.eval x = u) (hm : Src wr u m.length 6 (m.flatMap encV)) (hb1 : l.length + m.length ≤ 9223372036854775807) (hlen : (l.length + m.length) * 48 ≤ 140737488355328)
    (h : ∀ A cap w', l.length + m.length ≤ cap → Sl 61 6 encV w' (.slice A (l.length + m.length) cap) (l ++ m) → Fr (own v) wr (own (.slice A (l.length + m.length) cap)) w' → wpList Try.prog ops Q rest (a.put o.dst (.slice A (l.length + m.length) cap)) w') :
    wpList Try.prog ops Q (o :: rest) a wr :=
  wpList_all (enc := encV) wr hgd s x 23 ho Try.underlying23 event_info rfl (by decide) v u l m hs hl hx hm hb1 hlen h
theorem wpList_evsN {ops : Array Oper} {rest : List Oper} {o : Oper} {a : Act} {Q : Exit → Act → World → Prop} (n : Nat) (wr : World) (hgd : o.guard = none) (s x : Operand)
    (ho : o.op = .call { callee := .builtin .append, args := #[s, x], argTypes := #[23, 23] })
    (v u : Value) (l m k : List Ev) (hs : a.eval s = v) (hl : Sl 61 6 encV wr v l) (hx : a.eval x = u) (hm : Src wr u m.length 6 (m.flatMap encV)) (hn : l.length + m.length = n) (hk : l ++ m = k) (hb1 : n ≤ 9223372036854775807) (hlen : n * 48 ≤ 140737488355328)
    (h : ∀ A cap w', n ≤ cap → Sl 61 6 encV w' (.slice A n cap) k → Fr (own v) wr (own (.slice A n cap)) w' → wpList Try.prog ops Q rest (a.put o.dst (.slice A n cap)) w') :
    wpList Try.prog ops Q (o :: rest) a wr := by
  subst hn hk
  exact wpList_evs wr hgd s x ho v u l m hs hl hx hm hb1 hlen h
instance (e : Ev) : Decidable (EvWf e) := by unfold EvWf; infer_instance
theorem wrote_wf : ∀ e ∈ wroteL, EvWf e := by decide
theorem known_wf : ∀ e ∈ knownL, EvWf e := by decide
theorem odd_equal (a b c d : Int) (w : World) : (Op.equalIn 10000 28 (.agg #[.int .i64 a, .int .i64 b]) (.agg #[.int .i64 c, .int .i64 d])).run Try.prog w = .ok (decide (a = c) && decide (b = d)) w := by
  have h1 : Try.prog.underlying 28 = some _ := Try.underlying28
  have hi : ∀ (t : TypeId) (n m : Int) (k : IntKind) (d : Nat), Try.prog.underlying t = some (TypeDesc.int k) → (Op.equalIn (d + 1) t (.int k n) (.int k m)).run Try.prog w = .ok (n == m) w := fun t n m k d ht => run_equalIn_int w d t k k n m ht
  have hsi : Try.prog.stoodInHeld 28 = false := by kernel_rfl
  have u1 : Try.prog.underlying 3 = some _ := Try.underlying3
  have u5 : Try.prog.underlying 26 = some _ := Try.underlying26
  have c1 : Try.prog.cellsOf 3 = 1 := by kernel_rfl
  have c5 : Try.prog.cellsOf 26 = 1 := by kernel_rfl
  have hd : 10000 = 9998 + 1 + 1 := rfl
  rw [hd]
  generalize 9998 = e at *
  rw [Op.equalIn]
  simp [run_underlying h1, part, hi, u1, u5, c1, c5, hsi, sizeOf, typeInfo]
  by_cases k0 : a = c <;> simp [k0]
  by_cases k1 : b = d <;> simp [k1]
theorem odd_eql (a b c d : Int) (w : World) : (binOp .eql 28 (.agg #[.int .i64 a, .int .i64 b]) (.agg #[.int .i64 c, .int .i64 d])).run Try.prog w = .ok (.bool (decide (a = c) && decide (b = d))) w := by
  rw [run_eql_struct (P := Try.prog) w 28 #[.int .i64 a, .int .i64 b] #[.int .i64 c, .int .i64 d], odd_equal]
  rfl
theorem odd_neq (a b c d : Int) (w : World) : (binOp .neq 28 (.agg #[.int .i64 a, .int .i64 b]) (.agg #[.int .i64 c, .int .i64 d])).run Try.prog w = .ok (.bool (!(decide (a = c) && decide (b = d)))) w := by
  rw [run_neq_struct (P := Try.prog) w 28 #[.int .i64 a, .int .i64 b] #[.int .i64 c, .int .i64 d], odd_equal]
  rfl
/-- wrote, in a world that a call has come to. -/
theorem OpIn.wrote {w w' : World} {Fv : Value} {ov : Value} (hf : Lies w' Fv [5, 6]) (h : Sl 61 6 encV w' ov wroteL) : OpIn w' Fv ov [5, 6] wroteL :=
  ⟨hf, h.liesV wrote_wf (by decide), wrote_wf, by decide, by decide, by decide⟩
set_option maxRecDepth 100000 in
theorem known_b (CK : CheckC) (BH : BehindC) (w : World) : Calls Try.prog 14 #[] w fun x w' => x = .returned (.bool true) ∧ Below w.heap.size w w' := by
  obtain ⟨w1, hw1⟩ : ∃ w1, w1 = w.alloc (.cells #[.int .u64 5, .int .u64 6] 35) := ⟨_, rfl⟩
  have z1 : w1.heap.size = w.heap.size + 1 := by rw [hw1]; simp
  obtain ⟨w2, hw2⟩ : ∃ w2, w2 = w1.alloc (.cells #[.int .i64 1, .int .i64 1, .int .u64 0, .int .u64 0, .bool false, .int .i64 0] 61) := ⟨_, rfl⟩
  have F1 : Lies w1 (.slice (some ⟨w.heap.size, 0, none⟩) 2 2) [5, 6] := by rw [hw1]; exact Lies.new w [5, 6] (by decide)
  have H2 : Sl 61 6 encV w2 (.slice (some ⟨w.heap.size + 1, 0, none⟩) 1 1) [⟨1, 1, 0, 0, false, 0⟩] := by
    rw [← z1, hw2]
    exact Sl.new (e := 61) encV_len w1 [⟨1, 1, 0, 0, false, 0⟩] (by decide)
  have hb1 : Below w.heap.size w w1 := by rw [hw1]; exact (Below.refl _ _).alloc (Nat.le_refl _) _
  have hb2 : Below w1.heap.size w1 w2 := by rw [hw2]; exact (Below.refl _ _).alloc (Nat.le_refl _) _
  have h2l : ∀ q, own (.slice (some ⟨w.heap.size + 1, 0, none⟩) 1 1) q → w1.heap.size ≤ q := fun q hq => by
    have e : w.heap.size + 1 = q := by simpa [own, Value.ownBlock] using hq
    omega
  rw [hw1] at hw2
  replace hw2 := Lib.hid hw2
  replace hw1 := Lib.hid hw1
  replace h2l := Lib.hid h2l
  replace z1 := Lib.hid z1
  go_enter Try.func14, Try.ntmps14
  go_wp2_with fail
  rw [← hw2.out]
  refine (wrote_b w2).mono ?_
  rintro _ w3 ⟨hb3, ov3, rfl, hS3, ho3⟩
  obtain ⟨A3, c3, rfl⟩ : ∃ A c, ov3 = .slice A 5 c := (show ∃ A c, ov3 = .slice A 5 c from by obtain ⟨A, c, h, _⟩ := hS3.shape; exact ⟨A, c, h⟩)
  have H3 := H2.keep (w' := w3) fun k hk => hb3.block k (H2.lt k hk)
  have hbw3 := Lib.hid (hb2.trans (hb3.mono hb2.size))
  have W3 := hS3.src encV_one
  clear H2 hb3 hb2 hS3
  replace hb1 := Lib.hid hb1
  replace F1 := Lib.hid F1
  clear ho3
  go_wp2_with (at_builtin; first | (refine wpList_evsN 6 w3 rfl (.tmp 13) (.tmp 14) rfl _ _ _ wroteL ([⟨1, 1, 0, 0, false, 0⟩] ++ wroteL) rfl H3 rfl W3 rfl rfl (by decide) (by decide) ?_; intro A4 c4 w4 hc4 H4 f4; have W4 := (Sl.new (e := 61) encV_len w4 [⟨1, 2, 0, 7, false, 0⟩, ⟨1, 2, 1, 6, false, 0⟩] (by decide)).src encV_one) | (refine wpList_evsN 8 (w4.alloc _) rfl (.tmp 16) (.tmp 19) rfl _ _ _ _ knownL rfl (H4.alloc _) rfl W4 rfl rfl (by decide) (by decide) ?_; intro A5 c5 w5 hc5 H5 f5))
  have hbw5 : Below w1.heap.size w1 w5 := by
    have h4 : Below w1.heap.size w1 w4 := hbw3.out.trans (f4.below h2l.out hbw3.out.size)
    have h4' : ∀ q, own (.slice A4 6 c4) q → w1.heap.size ≤ q := f4.ge h2l.out hbw3.out.size
    exact (h4.alloc h4.size _).trans (f5.below h4' (h4.alloc h4.size _).size)
  have O5 : OpIn w5 (.slice (some ⟨w.heap.size, 0, none⟩) 2 2) (.slice A5 8 c5) [5, 6] knownL := ⟨F1.out.below hbw5, H5.liesV known_wf (by decide), known_wf, by decide, by decide, by decide⟩
  clear H5 f5 f4 H4 W4 W3 H3 hc4 hc5 hbw3
  have CK1 := Lib.hid (CK _ _ _ _ _ O5)
  rw [k_chk, show seeOdd ([5, 6] : List Int).length knownL = (-1, 0) from k_odd] at CK1
  clear O5
  replace hbw5 := Lib.hid hbw5
  refine CK1.out.mono ?_
  rintro _ w6 ⟨hb6, rfl⟩
  clear CK1
  have hbw6 := Lib.hid (hbw5.out.trans (hb6.mono hbw5.out.size))
  clear hb6 hbw5
  go_wp2_with fail
  have O6 := Blk.new w6 28 #[.int .i64 (-1), .int .i64 0]
  have hbv6 := hbw6.out.alloc hbw6.out.size (.cells #[.int .i64 (-1), .int .i64 0] 28)
  refine (wrote_b _).mono ?_
  rintro _ w7 ⟨hb7, ov7, rfl, hS7, ho7⟩
  have O7 := O6.below hb7 O6.lt
  have hbw7 := hbv6.trans (hb7.mono hbv6.size)
  have I7 := Lib.hid (BH _ _ _ _ _ 1 (OpIn.wrote (w := w) (F1.out.below hbw7) hS7))
  rw [w_beh1] at I7
  have n7 : w6.heap.size < w7.heap.size := O7.lt
  clear hb7 hS7 ho7 O6 hbv6 hbw6
  replace O7 := Lib.hid O7
  replace hbw7 := Lib.hid hbw7
  replace n7 := Lib.hid n7
  go_wp2_with fail
  refine I7.out.mono ?_
  rintro _ w8 ⟨hb8, ov8, rfl, hW8, ho8⟩
  clear I7
  have O8 := Lib.hid ((O7.out.below hb8 n7.out).alloc (.cells #[.int .i64 (-1), .int .i64 0] 28))
  have P8 := Lib.hid (Blk.new w8 28 #[.int .i64 (-1), .int .i64 0])
  have W8 := Lib.hid (hW8.alloc (.cells #[.int .i64 (-1), .int .i64 0] 28))
  have hbw8 := hbw7.out.trans (hb8.mono hbw7.out.size)
  have hbv8 := Lib.hid (hbw8.alloc hbw8.size (.cells #[.int .i64 (-1), .int .i64 0] 28))
  clear hb8 hbw8 hW8 ho8 O7 hbw7
  go_wp2_with fail
  refine (wrote_b _).mono ?_
  rintro _ w9 ⟨hb9, ov9, rfl, hS9, ho9⟩
  have O9 := Lib.hid (O8.out.below hb9 O8.out.lt)
  have P9 := Lib.hid (P8.out.below hb9 P8.out.lt)
  have W9 := Lib.hid (W8.out.keep (w' := w9) fun k hk => hb9.block k (W8.out.lt k hk))
  have hbw9 := hbv8.out.trans (hb9.mono hbv8.out.size)
  have I9 := Lib.hid (BH _ _ _ _ _ 2 (OpIn.wrote (w := w) (F1.out.below hbw9) hS9))
  rw [w_beh2] at I9
  clear hb9 hS9 ho9 O8 P8 W8 hbv8
  replace hbw9 := Lib.hid hbw9
  go_wp2_with fail
  refine I9.out.mono ?_
  rintro _ wa ⟨hba, ova, rfl, hWa, hoa⟩
  clear I9
  have Oa := Lib.hid ((O9.out.below hba O9.out.lt).alloc (.cells #[.int .i64 (-1), .int .i64 2] 28))
  have Pa := Lib.hid ((P9.out.below hba P9.out.lt).alloc (.cells #[.int .i64 (-1), .int .i64 2] 28))
  have Qa := Lib.hid (Blk.new wa 28 #[.int .i64 (-1), .int .i64 2])
  have Wa := Lib.hid ((W9.out.keep (w' := wa) fun k hk => hba.block k (W9.out.lt k hk)).alloc (.cells #[.int .i64 (-1), .int .i64 2] 28))
  have hbwa := hbw9.out.trans (hba.mono hbw9.out.size)
  have hbva := Lib.hid (hbwa.alloc hbwa.size (.cells #[.int .i64 (-1), .int .i64 2] 28))
  clear hba hbwa hWa hoa O9 P9 W9 hbw9
  go_wp2_with fail
  refine (wrote_b _).mono ?_
  rintro _ wb ⟨hbb, ovb, rfl, hSb, hob⟩
  have Ob := Lib.hid (Oa.out.below hbb Oa.out.lt)
  have Pb := Lib.hid (Pa.out.below hbb Pa.out.lt)
  have Qb := Lib.hid (Qa.out.below hbb Qa.out.lt)
  have Wb := Lib.hid (Wa.out.keep (w' := wb) fun k hk => hbb.block k (Wa.out.lt k hk))
  have hbwb := hbva.out.trans (hbb.mono hbva.out.size)
  have Ib := Lib.hid (CK _ _ _ _ _ (OpIn.wrote (w := w) (F1.out.below hbwb) hSb))
  rw [w_chk, show seeOdd ([5, 6] : List Int).length wroteL = (-1, 0) from w_odd] at Ib
  clear hbb hSb hob Oa Pa Qa Wa hbva
  replace hbwb := Lib.hid hbwb
  go_wp2_with fail
  refine Ib.out.mono ?_
  rintro _ wc ⟨hbc, rfl⟩
  clear Ib
  obtain ⟨wd, hwd⟩ : ∃ wd, wd = wc.alloc (.cells #[.int .i64 (-1), .int .i64 0] 28) := ⟨_, rfl⟩
  have Od : Blk wd w6.heap.size 28 #[.int .i64 (-1), .int .i64 0] := by rw [hwd]; exact (Ob.out.below hbc Ob.out.lt).alloc _
  have Pd : Blk wd w8.heap.size 28 #[.int .i64 (-1), .int .i64 0] := by rw [hwd]; exact (Pb.out.below hbc Pb.out.lt).alloc _
  have Qd : Blk wd wa.heap.size 28 #[.int .i64 (-1), .int .i64 2] := by rw [hwd]; exact (Qb.out.below hbc Qb.out.lt).alloc _
  have Wd : Wl wd ov8 [7, 8] := by rw [hwd]; exact (Wb.out.keep (w' := wc) fun k hk => hbc.block k (Wb.out.lt k hk)).alloc _
  have hbwd : Below w.heap.size w wd := by
    have h := hbwb.out.trans (hbc.mono hbwb.out.size)
    have h2 := hb1.out.trans ((h.alloc h.size (.cells #[.int .i64 (-1), .int .i64 0] 28)).mono hb1.out.size)
    rw [hwd]
    exact h2
  have L1 := Wd.lies.alloc (.cells #[.int .u64 7, .int .u64 8] 35)
  have L2 : Lies (wd.alloc (.cells #[.int .u64 7, .int .u64 8] 35)) (.slice (some ⟨wd.heap.size, 0, none⟩) 2 2) [7, 8] := Lies.new wd [7, 8] (by decide)
  have C1 := Lib.hid (words_b L1 L2 (by decide))
  rw [show decide (([7, 8] : List Int) = [7, 8]) = true from rfl] at C1
  have a0 := (Od.cell 0).trans (show _ = some (.int .i64 (-1)) from rfl)
  have a1 := (Od.cell 1).trans (show _ = some (.int .i64 0) from rfl)
  have b0 := (Pd.cell 0).trans (show _ = some (.int .i64 (-1)) from rfl)
  have b1 := (Pd.cell 1).trans (show _ = some (.int .i64 0) from rfl)
  have Qd1 := Qd.alloc (.cells #[.int .u64 7, .int .u64 8] 35)
  have d0 := fun n => (show (((wd.alloc (.cells #[.int .u64 7, .int .u64 8] 35)).drewN n).cell? ⟨wa.heap.size, 0, none⟩ = some (.int .i64 (-1))) from (Qd1.cell 0).trans rfl)
  have d1 := fun n => (show (((wd.alloc (.cells #[.int .u64 7, .int .u64 8] 35)).drewN n).cell? ⟨wa.heap.size, 1, none⟩ = some (.int .i64 2)) from (Qd1.cell 1).trans rfl)
  have e0 := fun W => odd_eql (-1) 0 (-1) 0 W
  have e2 := fun W => odd_eql (-1) 2 (-1) 2 W
  simp only [decide_true, Bool.and_self] at e0 e2
  clear hbc Ob Pb Qb Wb hbwb L1 L2 Od Pd Qd Qd1 Wd
  subst hwd
  rw [World.size_alloc] at C1
  replace hbwd := Lib.hid hbwd
  replace d0 := Lib.hid d0
  replace d1 := Lib.hid d1
  go_wp2_with fail
  refine C1.out.mono ?_
  rintro _ we ⟨⟨n9, rfl⟩, rfl⟩
  have d0' := d0.out n9
  have d1' := d1.out n9
  clear d0 d1 C1
  go_wp2
  go_ret
  exact ⟨rfl, below_drewNs (hbwd.out.alloc hbwd.out.size _) _⟩
end Go.Proofs.Ytloiadhdkgkjkaa
/- Two histories, two lists of sights, that are the same: by contract. -/
namespace Go.Proofs.Ytloiadhdkgkjkaa
open Go.RowKit
set_option maxHeartbeats 40000000
set_option linter.unusedVariables false
set_option linter.unusedSimpArgs false
theorem evq_self (a : Ev) : evq a a = true := by simp [evq]
set_option maxRecDepth 100000 in
theorem rsame_b {w : World} {va vb : Value} {l : List Ev} (h1 : LiesV w va l) (h2 : LiesV w vb l) :
    Calls Try.prog 35 #[va, vb] w fun x w' => x = .returned (.bool true) ∧ ∃ n, w' = w.drewN n := by
  obtain ⟨A1, c1, rfl, hc1, -, -, hl48, k1⟩ := h1
  obtain ⟨A2, c2, rfl, hc2, -, -, -, k2⟩ := h2
  have hlen : (l.length : Int) ≤ 9223372036854775807 := by omega
  have hq : ∀ (a0 a1 a2 a3 : Int) (a4 : Bool) (a5 : Int) (w : World), (binOp .neq 61 (.agg #[.int .i64 a0, .int .i64 a1, .int .u64 a2, .int .u64 a3, .bool a4, .int .i64 a5]) (.agg #[.int .i64 a0, .int .i64 a1, .int .u64 a2, .int .u64 a3, .bool a4, .int .i64 a5])).run Try.prog w = .ok (.bool false) w := fun a0 a1 a2 a3 a4 a5 w => by
    have h := ev_neq ⟨a0, a1, a2, a3, a4, a5⟩ ⟨a0, a1, a2, a3, a4, a5⟩ w
    rw [evq_self] at h
    exact h
  go_enter Try.func35, Try.ntmps35
  go_wp2
  go_loopg [5] l.length (fun gk c5 wr => ∃ j nd : Nat, gk + j = l.length ∧ c5 = .int .i64 (j : Int) ∧ wr = w.drewN nd)
  case atStart => exact ⟨0, 0, rfl, rfl, rfl⟩
  case round =>
    obtain ⟨j, nd, hj, rfl, rfl⟩ := hrel
    rcases Nat.lt_or_ge j l.length with hlt | hge
    · obtain ⟨g1, o1, rfl, -, d⟩ := k1 j hlt
      obtain ⟨g2, o2, rfl, -, f⟩ := k2 j hlt
      generalize l[j] = e at *
      have d0 := d 0 (by decide)
      have d1 := d 1 (by decide)
      have d2 := d 2 (by decide)
      have d3 := d 3 (by decide)
      have d4 := d 4 (by decide)
      have d5 := d 5 (by decide)
      have f0 := f 0 (by decide)
      have f1 := f 1 (by decide)
      have f2 := f 2 (by decide)
      have f3 := f 3 (by decide)
      have f4 := f 4 (by decide)
      have f5 := f 5 (by decide)
      simp only [encV, List.getElem?_cons_zero, List.getElem?_cons_succ, Nat.add_zero] at d0 d1 d2 d3 d4 d5 f0 f1 f2 f3 f4 f5
      have b1 : (j : Int) < l.length := by omega
      clear d f k1 k2
      go_wp2
      go_quiet (fail)
      go_wp2
      obtain ⟨k, rfl⟩ : ∃ k, gk = k + 1 := ⟨gk - 1, by omega⟩
      go_roundg k
      case measure => omega
      case rel => exact ⟨j + 1, nd + nq, by omega, by simp, rfl⟩
    · go_wp2
      go_ret
      exact ⟨rfl, nd, rfl⟩
theorem sight_info : (Try.prog.info? 40).map (fun i => (i.zero, i.size, i.bytes)) = some (some (.agg #[.int .i64 0, .int .i64 0, .int .i64 0, .int .u64 0, .int .i64 0, .int .i64 0, .int .i64 0, .int .i64 0, .int .i64 0, .int .i64 0]), 10, 80) := by kernel_rfl
end Go.Proofs.Ytloiadhdkgkjkaa
/- The document's answer for chapter 16: begin, stood, Reads by contract. -/
namespace Go.Proofs.Ytloiadhdkgkjkaa
open Go.RowKit
set_option maxHeartbeats 40000000
set_option linter.unusedVariables false
set_option linter.unusedSimpArgs false
theorem LiesV.at {w : World} {A : Option Addr} {cp : Nat} {l : List Ev} (h : LiesV w (.slice A l.length cp) l) {j : Nat} (hj : j < l.length) : ∃ g o, A = some ⟨g, o, none⟩ ∧ ∀ j, j < l.length → w.cell? ⟨g, o + j * 6, none⟩ = some (.int .i64 (evAt l j).th) ∧ w.cell? ⟨g, o + j * 6 + 1, none⟩ = some (.int .i64 (evAt l j).kd) ∧ w.cell? ⟨g, o + j * 6 + 2, none⟩ = some (.int .u64 (evAt l j).ad) ∧ w.cell? ⟨g, o + j * 6 + 3, none⟩ = some (.int .u64 (evAt l j).wd) ∧ w.cell? ⟨g, o + j * 6 + 4, none⟩ = some (.bool (evAt l j).ow) ∧ w.cell? ⟨g, o + j * 6 + 5, none⟩ = some (.int .i64 (evAt l j).er) := by
  obtain ⟨A', cp', e, -, -, -, -, k⟩ := h
  injection e with e1 e2 e3
  subst e1 e3
  obtain ⟨g, o, rfl, -, -⟩ := k j hj
  refine ⟨g, o, rfl, fun i hi => ?_⟩
  obtain ⟨g', o', e, -, c⟩ := k i hi
  injection e with e
  injection e with e4 e5
  subst e4 e5
  have he : evAt l i = l[i] := by unfold evAt; rw [List.getD_eq_getElem?_getD, List.getElem?_eq_getElem hi]; rfl
  rw [he]
  exact ⟨c 0 (by decide), c 1 (by decide), c 2 (by decide), c 3 (by decide), c 4 (by decide), c 5 (by decide)⟩
theorem LiesV.len {w : World} {v : Value} {l : List Ev} (h : LiesV w v l) : l.length * 48 ≤ 140737488351280 := by
  obtain ⟨_, _, _, _, _, _, h, _⟩ := h
  omega
/-- The place of the thread's last Begin below n; 0: none. -/
def begF (l : List Ev) (t : Int) : Nat → Nat
  | 0 => 0
  | n + 1 => if (evAt l n).th = t ∧ (evAt l n).kd = 1 then n else begF l t n
set_option maxRecDepth 100000 in
theorem rbegin_b {w : World} {A : Option Addr} {cp : Nat} {l : List Ev} (hL : LiesV w (.slice A l.length cp) l) {a : Nat} (ha : a < l.length) :
    Calls Try.prog 54 #[.slice A l.length cp, .int .i64 a] w fun x w' => x = .returned (.int .i64 (begF l (evAt l a).th (a + 1))) ∧ ∃ n, w' = w.drewN n := by
  have hln := hL.len
  obtain ⟨g, o, rfl, hc⟩ := hL.at ha
  obtain ⟨a0, -, -, -, -, -⟩ := hc a ha
  have hlen : (l.length : Int) ≤ 9223372036854775807 := by omega
  have ha' : (a : Int) < l.length := by omega
  obtain ⟨t, ht⟩ : ∃ t, (evAt l a).th = t := ⟨_, rfl⟩
  rw [ht] at a0 ⊢
  replace ht := Lib.hid ht
  obtain ⟨r, hr⟩ : ∃ r, begF l t (a + 1) = r := ⟨_, rfl⟩
  rw [hr]
  go_enter Try.func54, Try.ntmps54
  go_wp2
  go_loopg [5] (a + 1) (fun gk c5 wr => ∃ nd : Nat, gk ≤ a + 1 ∧ c5 = .int .i64 ((gk : Int) - 1) ∧ wr = w.drewN nd ∧ begF l t gk = r)
  case atStart => exact ⟨0, Nat.le_refl _, by simp, rfl, hr⟩
  case round =>
    obtain ⟨nd, hj, rfl, rfl, hb⟩ := hrel
    cases gk with
    | zero =>
      replace hb := Lib.hid hb
      go_wp2
      go_ret
      exact ⟨by rw [← hb.out]; rfl, nd, rfl⟩
    | succ k =>
      have hk : k < l.length := by omega
      obtain ⟨d0, d1, -, -, -, -⟩ := hc k hk
      unfold begF at hb
      obtain ⟨x0, hx0⟩ : ∃ x, (evAt l k).th = x := ⟨_, rfl⟩
      obtain ⟨x1, hx1⟩ : ∃ x, (evAt l k).kd = x := ⟨_, rfl⟩
      rw [hx0, hx1] at hb
      rw [hx0] at d0
      rw [hx1] at d1
      clear hx0 hx1 hc
      have e1 : (((k + 1 : Nat) : Int) - 1) = (k : Int) := by omega
      rw [e1]
      have hk0 : (0 : Int) ≤ (k : Int) := by omega
      have hk1 : (k : Int) < (l.length : Int) := by omega
      have w1 := IntWalk.i64_in (n := (k : Int) - 1) (by omega)
      clear e1
      by_cases h0 : x0 = t
      · have g0 : (x0 == t) = true := by simpa using h0
        by_cases h1 : x1 = 1
        · have g1 : (x1 == 1) = true := by simpa using h1
          rw [if_pos ⟨h0, h1⟩] at hb
          replace hb := Lib.hid hb
          replace h0 := Lib.hid h0
          replace h1 := Lib.hid h1
          go_wp2
          go_quiet (fail)
          go_wp2
          go_ret
          exact ⟨by rw [← hb.out]; rfl, nd + nq, drewN_drewN _ _ _⟩
        · have g1 : (x1 == 1) = false := by simpa using h1
          rw [if_neg (fun h => h1 h.2)] at hb
          replace hb := Lib.hid hb
          replace h0 := Lib.hid h0
          replace h1 := Lib.hid h1
          go_wp2
          go_quiet (fail)
          go_wp2
          go_roundg k
          case measure => omega
          case rel => exact ⟨nd + nq, by omega, by simp, rfl, hb.out⟩
      · have g0 : (x0 == t) = false := by simpa using h0
        rw [if_neg (fun h => h0 h.1)] at hb
        replace hb := Lib.hid hb
        replace h0 := Lib.hid h0
        go_wp2
        go_quiet (fail)
        go_wp2
        go_roundg k
        case measure => omega
        case rel => exact ⟨nd + nq, by omega, by simp, rfl, hb.out⟩
/-- Did these words stand there together? -/
def stoodR (cells : List Int) (words : List (Int × Int)) : Bool := words.all fun p => cells.getD p.1.toNat 0 == p.2
set_option maxRecDepth 100000 in
theorem rstood_b {w : World} {vc vw : Value} {cells : List Int} {words : List (Int × Int)} (h1 : Lies w vc cells) (h2 : Sl 45 2 encC w vw words) (hc : (cells.length : Int) ≤ 9223372036854775807) (hn : (words.length : Int) ≤ 9223372036854775807) (hb : ∀ p ∈ words, 0 ≤ p.1 ∧ p.1 < (cells.length : Int)) :
    Calls Try.prog 34 #[vc, vw] w fun x w' => x = .returned (.bool (stoodR cells words)) ∧ ∃ n, w' = w.drewN n := by
  obtain ⟨A1, c1, rfl, hc1, -, k1⟩ := h1
  obtain ⟨A2, c2, rfl, hc2⟩ := h2.shape
  go_enter Try.func34, Try.ntmps34
  go_wp2
  go_loopg [5] words.length (fun gk c5 wr => ∃ j nd : Nat, gk + j = words.length ∧ c5 = .int .i64 (j : Int) ∧ wr = w.drewN nd ∧ Hid (∀ p ∈ words.take j, (cells.getD p.1.toNat 0 == p.2) = true))
  case atStart => exact ⟨0, 0, rfl, rfl, rfl, Lib.hid (by simp)⟩
  case round =>
    obtain ⟨j, nd, hj, rfl, rfl, hall⟩ := hrel
    rcases Nat.lt_or_ge j words.length with hlt | hge
    · obtain ⟨g2, o2, rfl, hg2, d⟩ := h2.cell encC_len (by decide) hlt
      have d0 := (d j hlt 0 (by decide)).1
      have d1 := (d j hlt 1 (by decide)).1
      obtain ⟨hp0, hp1⟩ := hb _ (List.getElem_mem hlt)
      have htk : words.take (j + 1) = words.take j ++ [words[j]] := by rw [List.take_add_one, List.getElem?_eq_getElem hlt]; rfl
      have hmem : words[j] ∈ words := List.getElem_mem hlt
      generalize words[j] = p at *
      obtain ⟨p1, p2⟩ := p
      simp only [encC, List.getElem?_cons_zero, List.getElem?_cons_succ, Nat.add_zero] at d0 d1
      rw [← Nat.add_assoc] at d1
      dsimp only at hp0 hp1
      obtain ⟨a, rfl⟩ := Int.eq_ofNat_of_zero_le hp0
      have ha : a < cells.length := by omega
      obtain ⟨g1, o1, rfl, f⟩ := k1 a ha
      obtain ⟨y, hy⟩ : ∃ y, cells.getD a 0 = y := ⟨_, rfl⟩
      rw [hy] at f
      have b1 : (j : Int) < words.length := by omega
      clear d k1 h2 hg2
      replace hp0 := Lib.hid hp0
      replace htk := Lib.hid htk
      replace hmem := Lib.hid hmem
      replace hy := Lib.hid hy
      by_cases he : y = p2
      · have he1 : (y != p2) = false := by simpa using he
        replace he := Lib.hid he
        go_wp2
        go_quiet (fail)
        go_wp2
        obtain ⟨k, rfl⟩ : ∃ k, gk = k + 1 := ⟨gk - 1, by omega⟩
        go_roundg k
        case measure => omega
        case rel =>
          refine ⟨j + 1, nd + nq, by omega, by simp, rfl, Lib.hid fun q hq => ?_⟩
          rw [htk.out, List.mem_append, List.mem_singleton] at hq
          rcases hq with hq | hq
          · exact hall.out q hq
          · subst hq
            show (cells.getD ((a : Int)).toNat 0 == p2) = true
            rw [Int.toNat_natCast, hy.out, he.out]
            simp
      · have he1 : (y != p2) = true := by simpa using he
        replace he := Lib.hid he
        go_wp2
        go_quiet (fail)
        go_wp2
        go_ret
        refine ⟨ret_bool ?_, nd + nq, drewN_drewN _ _ _⟩
        symm
        unfold stoodR
        rw [List.all_eq_false]
        refine ⟨_, hmem.out, ?_⟩
        dsimp only
        rw [Int.toNat_natCast, hy.out]
        simpa using he.out
    · go_wp2
      go_ret
      refine ⟨ret_bool ?_, nd, rfl⟩
      symm
      unfold stoodR
      rw [List.all_eq_true]
      intro p hp
      exact hall.out p (by rw [List.take_of_length_le hge]; exact hp)
end Go.Proofs.Ytloiadhdkgkjkaa
/- The document's answer for chapter 16: Reads by contract. -/
namespace Go.Proofs.Ytloiadhdkgkjkaa
open Go.RowKit
set_option maxHeartbeats 40000000
set_option linter.unusedVariables false
set_option linter.unusedSimpArgs false
def rdK (e : Ev) (th : Int) : Bool := (e.th == th && e.kd == 2) && !e.ow
/-- What the thread has read in n events from a place on. -/
def rdF (l : List Ev) (th : Int) (fr : Nat) : Nat → List (Int × Int)
  | 0 => []
  | n + 1 => if rdK (evAt l (fr + n)) th = true then rdF l th fr n ++ [((evAt l (fr + n)).ad, (evAt l (fr + n)).wd)] else rdF l th fr n
theorem rdF_len (l : List Ev) (th : Int) (fr : Nat) : ∀ n, (rdF l th fr n).length ≤ n
  | 0 => Nat.le_refl _
  | n + 1 => by
    unfold rdF
    have := rdF_len l th fr n
    split
    · simp; omega
    · omega
set_option maxRecDepth 100000 in
theorem rreads_b {w : World} {A : Option Addr} {cp : Nat} {l : List Ev} (hL : LiesV w (.slice A l.length cp) l) (th sn how rd wt : Int) (fr la : Nat) (hfl : fr ≤ la + 1) (hla : la < l.length) :
    Calls Try.prog 25 #[.slice A l.length cp, .agg #[.int .i64 th, .int .i64 fr, .int .i64 la, .int .u64 sn, .int .i64 how, .int .i64 rd, .int .i64 wt]] w fun x w' => Below w.heap.size w w' ∧ ∃ ov, x = .returned ov ∧ Sl 45 2 encC w' ov (rdF l th fr (la + 1 - fr)) ∧ ∀ q, own ov q → w.heap.size ≤ q := by
  have hln := hL.len
  obtain ⟨g, o, rfl, hc⟩ := hL.at hla
  have hlen : (l.length : Int) ≤ 9223372036854775807 := by omega
  have hla' : (la : Int) < l.length := by omega
  have hB1 := Lib.hid (Blk.new w 38 #[.int .i64 th, .int .i64 fr, .int .i64 la, .int .u64 sn, .int .i64 how, .int .i64 rd, .int .i64 wt])
  have hb1 := Lib.hid ((Below.refl w.heap.size w).alloc (Nat.le_refl _) (.cells #[.int .i64 th, .int .i64 fr, .int .i64 la, .int .u64 sn, .int .i64 how, .int .i64 rd, .int .i64 wt] 38))
  replace hc := Lib.hid hc
  replace hL := Lib.hid hL
  obtain ⟨r, hr⟩ : ∃ r, rdF l th fr (la + 1 - fr) = r := ⟨_, rfl⟩
  rw [hr]
  replace hr := Lib.hid hr
  go_enter Try.func25, Try.ntmps25
  go_wp2
  go_loopw [5, 6] (fun c5 c6 wr => ∃ (n : Nat) (ov : Value), n ≤ la + 1 - fr ∧ c6 = .int .i64 ((fr + n : Nat) : Int) ∧ c5 = ov ∧ Hid (Sl 45 2 encC wr ov (rdF l th fr n)) ∧ Hid (∀ q, own ov q → w.heap.size ≤ q) ∧ Hid (Blk wr w.heap.size 38 #[.int .i64 th, .int .i64 fr, .int .i64 la, .int .u64 sn, .int .i64 how, .int .i64 rd, .int .i64 wt]) ∧ Hid (Below w.heap.size w wr)) (fun _ c6 _ => la + 1 - (intOf c6).toNat)
  case atStart => exact ⟨0, _, Nat.zero_le _, rfl, rfl, Lib.hid (Sl.nil _), Lib.hid (fun q hq => absurd hq (no_own_nil q)), hB1, hb1⟩
  case round =>
    obtain ⟨n, ov, hn, rfl, rfl, hS, hown, hB, hbr⟩ := hrel
    by_cases hlt : n < la + 1 - fr
    · have hj : fr + n < l.length := by omega
      have b1 : ((fr + n : Nat) : Int) < l.length := by omega
      have b2 : ((fr + n : Nat) : Int) ≤ (la : Int) := by omega
      have b3 : (0 : Int) ≤ ((fr + n : Nat) : Int) := by omega
      have w1 := IntWalk.i64_in (n := ((fr + n : Nat) : Int) + 1) (by omega)
      obtain ⟨g', o', e, hc'⟩ := (hL.out.below hbr.out (Nat.le_refl _)).at hj
      injection e with e
      injection e with e1 e2
      subst e1 e2
      obtain ⟨d0, d1, d2, d3, d4, -⟩ := hc' (fr + n) hj
      have c0 := (hB.out.cell 0).trans (show _ = some (.int .i64 th) from rfl)
      have c2 := (hB.out.cell 2).trans (show _ = some (.int .i64 la) from rfl)
      have hrl := rdF_len l th fr n
      have hu : Hid (rdF l th fr (n + 1) = if rdK (evAt l (fr + n)) th = true then rdF l th fr n ++ [((evAt l (fr + n)).ad, (evAt l (fr + n)).wd)] else rdF l th fr n) := Lib.hid rfl
      generalize evAt l (fr + n) = ev at *
      obtain ⟨x0, x1, ad, wd, ow, er⟩ := ev
      dsimp only at d0 d1 d2 d3 d4 hu
      clear hc'
      obtain ⟨bb, hbb⟩ : ∃ bb, rdK ⟨x0, x1, ad, wd, ow, er⟩ th = bb := ⟨_, rfl⟩
      rw [hbb] at hu
      unfold rdK at hbb
      dsimp only at hbb
      have hrl2 : Hid (((rdF l th fr n).length + 1) * 16 ≤ 140737488355328) := Lib.hid (by omega)
      generalize hj1 : fr + n = m at *
      replace hj1 := Lib.hid hj1
      by_cases h0 : x0 = th
      · have g0 : (x0 == th) = true := by simpa using h0
        by_cases h1 : x1 = 2
        · have g1 : (x1 == 2) = true := by simpa using h1
          rw [g0, g1] at hbb
          replace h0 := Lib.hid h0
          replace h1 := Lib.hid h1
          cases ow with
          | false =>
            obtain rfl : true = bb := by simpa using hbb
            rw [if_pos rfl] at hu
            go_wp2
            go_quiet (fail)
            go_wp2
            have hb9 := Lib.hid (below_drewNs hbr.out nq)
            have hS9 := Lib.hid (hS.out.drewN nq)
            have hB9 := Lib.hid (hB.out.drewN nq)
            have D : ∀ W : World, W = wr.drewN nq → W.cell? ⟨g, o + m * 6 + 2, none⟩ = some (.int .u64 ad) ∧ W.cell? ⟨g, o + m * 6 + 3, none⟩ = some (.int .u64 wd) := fun W hW => by rw [hW]; exact ⟨d2, d3⟩
            obtain ⟨wq, hwq⟩ : ∃ wq, wq = wr.drewN nq := ⟨_, rfl⟩
            obtain ⟨d2', d3'⟩ := D wq hwq
            rw [← hwq] at hb9 hS9 hB9 ⊢
            clear D hS hB hbr d0 d1 d2 d3 d4 c0 c2 hwq
            refine wp_region_mixH (fun _ => True) [3, 3, 3, 3, 3, 1, 3, 3, 3, 3, 1, 2, 2, 2, 3] (List.range 15) (by kernel_rfl) (by kernel_rfl) (fun _ _ h => h) trivial ?_
            (repeat ((first | refine wpMixH_pure rfl rfl (fun K hK => ?_) | refine wpMixH_loc rfl rfl (fun K hK => ?_) | refine wpMixH_any rfl rfl (fun K hK => ?_)); go_simp; refine hK _ _ ?_; clear hK K))
            refine wpMixH_loud rfl rfl (fun n2 K hK => ?_)
            go_wp2
            refine hK _ _ (fun _ => trivial) ?_; clear hK K
            refine wpMixH_loud rfl rfl (fun n3 K hK => ?_)
            go_wp2
            refine hK _ _ (fun _ => trivial) ?_; clear hK K
            refine wpMixH_loud rfl rfl (fun n4 K hK => ?_)
            obtain ⟨wx, hwx⟩ : ∃ wx, wx = (wq.drewN (1 + n2 + n3)).drewN n4 := ⟨_, rfl⟩
            have hsz : wx.heap.size = wq.heap.size := by rw [hwx]; rfl
            have hSX := (hS9.out.drewN (1 + n2 + n3)).drewN n4
            have hBX := (hB9.out.drewN (1 + n2 + n3)).drewN n4
            have hbX := below_drewNs (below_drewNs hb9.out (1 + n2 + n3)) n4
            rw [← hwx] at hSX hBX hbX
            rw [show ((((wq.drewN (1 + n2 + n3)).alloc (.cells #[.int .u64 ad, .int .u64 wd] 45)).drewN n4)) = wx.alloc (.cells #[.int .u64 ad, .int .u64 wd] 45) from by rw [hwx]; rfl]
            refine wpList_cellO wx rfl (.tmp 39) (.tmp 51) rfl _ _ (ad, wd) rfl hSX (by show Value.slice (some ⟨wq.heap.size, 0, none⟩) 1 1 = _; rw [hsz]) (by have := hrl2.out; omega) hrl2.out ?_
            intro A5 cap5 w5 hc5 hS5 hF5
            have hB5 := hF5.blk hBX (hSX.ne_ hBX (by decide))
            have hb5 := hbX.trans (hF5.below hown.out hbX.size)
            have ho5 := hF5.ge hown.out hbX.size
            have hS6 := Lib.hid (fun j => hS5.drewN j)
            have hB6 := Lib.hid (fun j => hB5.drewN j)
            have hb6 := Lib.hid (fun j => below_drewNs hb5 j)
            replace ho5 := Lib.hid ho5
            clear hSX hBX hbX hS5 hF5 hB5 hb5 hS9 hB9 hb9 hown d2' d3'
            replace hwx := Lib.hid hwx
            replace hsz := Lib.hid hsz
            go_wp2
            refine hK _ _ (fun _ => trivial) ?_; clear hK K
            (repeat ((first | refine wpMixH_pure rfl rfl (fun K hK => ?_) | refine wpMixH_loc rfl rfl (fun K hK => ?_) | refine wpMixH_any rfl rfl (fun K hK => ?_)); go_simp; refine hK _ _ ?_; clear hK K))
            refine wpMixH_nil (fun n5 => ?_)
            go_wp2
            go_roundw
            case rel => exact ⟨n + 1, _, by omega, by have := hj1.out; go_num, rfl, Lib.hid (by rw [hu.out]; have := (rdF_len l th fr n); simpa using hS6.out n5), ho5, Lib.hid (hB6.out _), Lib.hid (hb6.out _)⟩
            case measure => have := hj1.out; simp [intOf]; omega
          | true =>
            obtain rfl : false = bb := by simpa using hbb
            rw [if_neg (by simp)] at hu
            go_wp2
            go_quiet (fail)
            go_wp2
            go_roundw
            case rel => exact ⟨n + 1, _, by omega, by have := hj1.out; go_num, rfl, Lib.hid (by rw [hu.out]; exact hS.out.drewN _), hown, Lib.hid (hB.out.drewN _), Lib.hid (below_drewNs hbr.out _)⟩
            case measure => have := hj1.out; simp [intOf]; omega
        · have g1 : (x1 == 2) = false := by simpa using h1
          rw [g0, g1] at hbb
          obtain rfl : false = bb := by simpa using hbb
          rw [if_neg (by simp)] at hu
          replace h0 := Lib.hid h0
          replace h1 := Lib.hid h1
          go_wp2
          go_quiet (fail)
          go_wp2
          go_roundw
          case rel => exact ⟨n + 1, _, by omega, by have := hj1.out; go_num, rfl, Lib.hid (by rw [hu.out]; exact hS.out.drewN _), hown, Lib.hid (hB.out.drewN _), Lib.hid (below_drewNs hbr.out _)⟩
          case measure => have := hj1.out; simp [intOf]; omega
      · have g0 : (x0 == th) = false := by simpa using h0
        rw [g0] at hbb
        obtain rfl : false = bb := by simpa using hbb
        rw [if_neg (by simp)] at hu
        replace h0 := Lib.hid h0
        go_wp2
        go_quiet (fail)
        go_wp2
        go_roundw
        case rel => exact ⟨n + 1, _, by omega, by have := hj1.out; go_num, rfl, Lib.hid (by rw [hu.out]; exact hS.out.drewN _), hown, Lib.hid (hB.out.drewN _), Lib.hid (below_drewNs hbr.out _)⟩
        case measure => have := hj1.out; simp [intOf]; omega
    · have hn2 : n = la + 1 - fr := by omega
      have b2 : ¬ ((fr + n : Nat) : Int) ≤ (la : Int) := by omega
      have c2 := (hB.out.cell 2).trans (show _ = some (.int .i64 la) from rfl)
      subst hn2
      rw [hr.out] at hS
      generalize hj1 : fr + (la + 1 - fr) = m at *
      replace hj1 := Lib.hid hj1
      go_wp2
      go_ret
      exact ⟨hbr.out, _, rfl, hS.out, hown.out⟩
end Go.Proofs.Ytloiadhdkgkjkaa
/- The document's answer for chapter 16: Writing by contract. -/
namespace Go.Proofs.Ytloiadhdkgkjkaa
open Go.RowKit
set_option maxHeartbeats 40000000
set_option linter.unusedVariables false
set_option linter.unusedSimpArgs false
theorem LiesV.blt {w : World} {g o cp : Nat} {l : List Ev} (h : LiesV w (.slice (some ⟨g, o, none⟩) l.length cp) l) {j : Nat} (hj : j < l.length) : g < w.heap.size := by
  obtain ⟨A', cp', e, -, -, -, -, k⟩ := h
  injection e with e1 e2 e3
  obtain ⟨g', o', e4, h5, -⟩ := k j hj
  rw [← e1] at e4
  injection e4 with e4
  injection e4 with e4 e5
  omega
def encI (n : Nat) : List Value := [.int .i64 n]
theorem encI_len (n : Nat) : (encI n).length = 1 := rfl
theorem encI_one (n : Nat) : ∀ u ∈ encI n, u.oneCell' = true := by
  intro u hu
  simp only [encI, List.mem_cons, List.not_mem_nil, or_false] at hu
  subst hu
  rfl
theorem intO_info : (Try.prog.info? 3).map (fun i => (i.zero, i.size, i.bytes)) = some (some (.int .i64 0), 1, 8) := by kernel_rfl
theorem wpList_intO {ops : Array Oper} {rest : List Oper} {o : Oper} {a : Act} {Q : Exit → Act → World → Prop} (wr : World) (hgd : o.guard = none) (s x : Operand)
    (ho : o.op = .call { callee := .builtin .append, args := #[s, x], argTypes := #[48, 48] })
    (v : Value) (l : List Nat) (y : Nat) (hs : a.eval s = v) (hl : Sl 3 1 encI wr v l) (hx : a.eval x = .slice (some ⟨wr.heap.size, 0, none⟩) 1 1) (hb1 : l.length + 1 ≤ 9223372036854775807) (hlen : (l.length + 1) * 8 ≤ 140737488355328)
    (h : ∀ A cap w', l.length + 1 ≤ cap → Sl 3 1 encI w' (.slice A (l.length + 1) cap) (l ++ [y]) → Fr (own v) wr (own (.slice A (l.length + 1) cap)) w' → wpList Try.prog ops Q rest (a.put o.dst (.slice A (l.length + 1) cap)) w') :
    wpList Try.prog ops Q (o :: rest) a (wr.alloc (.cells #[.int .i64 y] 3)) :=
  wpList_one (enc := encI) encI_len encI_one wr hgd s x 48 ho Try.underlying48 intO_info rfl (by decide) v l y hs hl hx hb1 hlen h
/-- Who is locked, and the places of the writing commits, behind n events. -/
def wrS (l : List Ev) : Nat → (Nat → Bool) × List Nat
  | 0 => (fun _ => false, [])
  | n + 1 =>
    let e := evAt l n
    let t := e.th.toNat
    let s := wrS l n
    if e.kd = 5 then (upd s.1 t true, s.2) else if e.kd = 6 ∧ s.1 t = true then (upd s.1 t false, s.2 ++ [n]) else s
theorem wrS_len (l : List Ev) : ∀ n, (wrS l n).2.length ≤ n
  | 0 => Nat.le_refl _
  | n + 1 => by
    have := wrS_len l n
    unfold wrS
    dsimp only
    split
    · dsimp only; omega
    split
    · simp; omega
    · omega
theorem wrS_lt (l : List Ev) : ∀ n, ∀ x ∈ (wrS l n).2, x < n
  | 0 => by simp [wrS]
  | n + 1 => by
    have h := wrS_lt l n
    unfold wrS
    dsimp only
    intro x hx
    split at hx
    · have := h x hx; omega
    split at hx
    · dsimp only at hx
      rw [List.mem_append, List.mem_singleton] at hx
      rcases hx with hx | hx
      · have := h x hx; omega
      · omega
    · have := h x hx; omega
set_option maxRecDepth 100000 in
theorem rwriting_b {w : World} {A : Option Addr} {cp : Nat} {l : List Ev} (hL : LiesV w (.slice A l.length cp) l) (hth : ∀ k, k < l.length → 0 ≤ (evAt l k).th ∧ (evAt l k).th < 8) :
    Calls Try.prog 32 #[.slice A l.length cp] w fun x w' => Below w.heap.size w w' ∧ ∃ ov, x = .returned ov ∧ Sl 3 1 encI w' ov (wrS l l.length).2 ∧ ∀ q, own ov q → w.heap.size ≤ q := by
  have hln := hL.len
  have hlen : (l.length : Int) ≤ 9223372036854775807 := by omega
  have hB0 := Blk.new w 107 (ofF 8 (fun j => .bool ((wrS l 0).1 j)))
  have hb0 := (Below.refl w.heap.size w).alloc (Nat.le_refl _) (.cells (ofF 8 (fun j => .bool ((wrS l 0).1 j))) 107)
  rw [show ofF 8 (fun j => Value.bool ((wrS l 0).1 j)) = #[.bool false, .bool false, .bool false, .bool false, .bool false, .bool false, .bool false, .bool false] from rfl] at hb0
  have hB1 : Hid (Blk (w.alloc (.cells #[.bool false, .bool false, .bool false, .bool false, .bool false, .bool false, .bool false, .bool false] 107)) w.heap.size 107 (ofF 8 (fun j => .bool ((wrS l 0).1 j)))) := Lib.hid hB0
  have hb1 := Lib.hid hb0
  clear hB0 hb0
  replace hL := Lib.hid hL
  replace hth := Lib.hid hth
  go_enter Try.func32, Try.ntmps32
  go_wp2
  go_loopw [4, 5] (fun c4 c5 wr => ∃ (n : Nat) (ov : Value), n ≤ l.length ∧ c5 = .int .i64 (n : Int) ∧ c4 = ov ∧ Hid (Sl 3 1 encI wr ov (wrS l n).2) ∧ Hid (∀ q, own ov q → w.heap.size ≤ q) ∧ Hid (Blk wr w.heap.size 107 (ofF 8 (fun j => .bool ((wrS l n).1 j)))) ∧ Hid (Below w.heap.size w wr)) (fun _ c5 _ => l.length - (intOf c5).toNat)
  case atStart => exact ⟨0, _, Nat.zero_le _, rfl, rfl, Lib.hid (Sl.nil _), Lib.hid (fun q hq => absurd hq (no_own_nil q)), hB1, hb1⟩
  case round =>
    obtain ⟨n, ov, hn, rfl, rfl, hS, hown, hB, hbr⟩ := hrel
    clear hB1 hb1
    by_cases hlt : n < l.length
    · have b1 : (n : Int) < l.length := by omega
      have w1 := IntWalk.i64_in (n := (n : Int) + 1) (by omega)
      obtain ⟨g, o, rfl, hc⟩ := (hL.out.below hbr.out (Nat.le_refl _)).at hlt
      obtain ⟨d0, d1, -, -, -, -⟩ := hc n hlt
      have hgl := hL.out.blt hlt
      have hne1 : g ≠ w.heap.size := Nat.ne_of_lt hgl
      have hne2 : w.heap.size ≠ g := (Nat.ne_of_lt hgl).symm
      obtain ⟨ht0, ht8⟩ := hth.out n hlt
      have hwl : Hid (((wrS l n).2.length + 1) * 8 ≤ 140737488355328) := Lib.hid (by have := wrS_len l n; omega)
      have hu : Hid (wrS l (n + 1) = if (evAt l n).kd = 5 then (upd (wrS l n).1 (evAt l n).th.toNat true, (wrS l n).2) else if (evAt l n).kd = 6 ∧ (wrS l n).1 (evAt l n).th.toNat = true then (upd (wrS l n).1 (evAt l n).th.toNat false, (wrS l n).2 ++ [n]) else wrS l n) := Lib.hid rfl
      generalize evAt l n = ev at *
      obtain ⟨x0, x1, ad, wd, ow, er⟩ := ev
      dsimp only at d0 d1 ht0 ht8 hu
      obtain ⟨t, rfl⟩ := Int.eq_ofNat_of_zero_le ht0
      rw [Int.toNat_natCast] at hu
      have ht : t < 8 := by omega
      generalize hs : wrS l n = s at *
      obtain ⟨lk, out⟩ := s
      dsimp only at hS hB hu hwl
      replace hs := Lib.hid hs
      have c0 := hB.out.fcell (i := t) ht
      have fz := hB.out.frozen t
      clear hc
      by_cases h5 : x1 = 5
      · subst h5
        rw [if_pos rfl] at hu
        have hB5 := Lib.hid ((hB.out.fset t (.bool true)).fcongr (g' := fun j => .bool (upd lk t true j)) (fun j hj => by unfold upd; by_cases e : j = t <;> simp [e]))
        have hS5 := Lib.hid (hS.out.set (p := ⟨w.heap.size, t, none⟩) (hS.out.ne_ hB.out (by decide)) (.bool true))
        have hb5 := Lib.hid (hbr.out.setCell (p := ⟨w.heap.size, t, none⟩) (Nat.le_refl _) (.bool true))
        clear hS hB hbr
        go_wp2
        go_roundw
        case rel => exact ⟨n + 1, _, hlt, by go_num, rfl, by rw [hu.out]; exact hS5, hown, by rw [hu.out]; exact hB5, hb5⟩
        case measure => simp [intOf]; omega
      · have f5 : (x1 == 5) = false := by simpa using h5
        rw [if_neg h5] at hu
        by_cases h6 : x1 = 6
        · subst h6
          obtain ⟨b, hb⟩ : ∃ b, lk t = b := ⟨_, rfl⟩
          rw [hb] at c0
          cases b with
          | true =>
            rw [if_pos ⟨rfl, hb⟩] at hu
            replace hb := Lib.hid hb
            have hB5 := hB.out.fset t (.bool false)
            have hS5 := hS.out.set (p := ⟨w.heap.size, t, none⟩) (hS.out.ne_ hB.out (by decide)) (.bool false)
            have hb5 := hbr.out.setCell (p := ⟨w.heap.size, t, none⟩) (Nat.le_refl _) (.bool false)
            obtain ⟨wx, hwx⟩ : ∃ wx, wx = wr.setCell ⟨w.heap.size, t, none⟩ (.bool false) := ⟨_, rfl⟩
            have hsz : wr.heap.size = wx.heap.size := by rw [hwx]; simp [World.setCell]
            rw [← hwx] at hB5 hS5 hb5
            have hB6 := hB5.fcongr (g' := fun j => .bool (upd lk t false j)) (fun j hj => by unfold upd; by_cases e : j = t <;> simp [e])
            have hA : Hid (∀ A5 cap5 w5, Sl 3 1 encI w5 (.slice A5 (out.length + 1) cap5) (out ++ [n]) → Fr (own _) wx (own (.slice A5 (out.length + 1) cap5)) w5 → Sl 3 1 encI w5 (.slice A5 (out.length + 1) cap5) (wrS l (n + 1)).2 ∧ (∀ q, own (.slice A5 (out.length + 1) cap5) q → w.heap.size ≤ q) ∧ Blk w5 w.heap.size 107 (ofF 8 (fun j => .bool ((wrS l (n + 1)).1 j))) ∧ Below w.heap.size w w5) := Lib.hid (fun A5 cap5 w5 hS6 hF6 => ⟨by rw [hu.out]; exact hS6, hF6.ge hown.out hb5.size, by rw [hu.out]; exact hF6.blk hB6 (hS5.ne_ hB6 (by decide)), hb5.trans (hF6.below hown.out hb5.size)⟩)
            replace hS5 := Lib.hid hS5
            replace hwx := Lib.hid hwx
            replace hsz := Lib.hid hsz
            clear hS hB hbr hB5 hb5 hB6
            go_wp2_with (at_builtin; rw [← hwx.out]; refine wpList_intO wx rfl (.tmp 39) (.tmp 41) rfl _ out n rfl hS5.out (by rw [← hsz.out]; rfl) (by have := hwl.out; omega) hwl.out ?_; intro A5 cap5 w5 hc5 hS6 hF6; have HR := Lib.hid (hA.out A5 cap5 w5 hS6 hF6); clear hS6 hF6)
            go_roundw
            case rel => exact ⟨n + 1, _, hlt, by go_num, rfl, Lib.hid HR.out.1, Lib.hid HR.out.2.1, Lib.hid HR.out.2.2.1, Lib.hid HR.out.2.2.2⟩
            case measure => simp [intOf]; omega
          | false =>
            rw [if_neg (by rw [hb]; simp)] at hu
            replace hb := Lib.hid hb
            go_wp2
            go_roundw
            case rel => exact ⟨n + 1, _, hlt, by go_num, rfl, by rw [hu.out]; exact hS, hown, by rw [hu.out]; exact hB, hbr⟩
            case measure => simp [intOf]; omega
        · have f6 : (x1 == 6) = false := by simpa using h6
          rw [if_neg (fun h => h6 h.1)] at hu
          go_wp2
          go_roundw
          case rel => exact ⟨n + 1, _, hlt, by go_num, rfl, by rw [hu.out]; exact hS, hown, by rw [hu.out]; exact hB, hbr⟩
          case measure => simp [intOf]; omega
    · have hn2 : n = l.length := by omega
      subst hn2
      go_wp2
      go_ret
      exact ⟨hbr.out, _, rfl, hS.out, hown.out⟩
end Go.Proofs.Ytloiadhdkgkjkaa
/- opaque.Together by contract, behind see's. -/
namespace Go.Proofs.Ytloiadhdkgkjkaa
open Go.RowKit
set_option maxHeartbeats 4000000
set_option linter.unusedVariables false
set_option linter.unusedSimpArgs false
/-- When these words stood there together, behind fewer than k commits. -/
def togK (cells : Nat → List (Nat × Int)) (words : List (Int × Int)) (k : Nat) : List Nat := (List.range k).filter fun n => stoodW cells n words
theorem togK_yes {cells : Nat → List (Nat × Int)} {words : List (Int × Int)} {k : Nat} (h : stoodW cells k words = true) : togK cells words (k + 1) = togK cells words k ++ [k] := by
  unfold togK; rw [List.range_succ, List.filter_append]; simp [h]
theorem togK_no {cells : Nat → List (Nat × Int)} {words : List (Int × Int)} {k : Nat} (h : stoodW cells k words = false) : togK cells words (k + 1) = togK cells words k := by
  unfold togK; rw [List.range_succ, List.filter_append]; simp [h]
theorem togK_len (cells : Nat → List (Nat × Int)) (words : List (Int × Int)) (k : Nat) : (togK cells words k).length ≤ k := by
  unfold togK; have := List.length_filter_le (fun n => stoodW cells n words) (List.range k); simpa using this
set_option maxRecDepth 100000 in
theorem together_b {w : World} {Af A Aw : Option Addr} {first : List Int} {l : List Ev} {words : List (Int × Int)} {cf cp cw : Nat}
    (SEE : ∀ W, Below w.heap.size w W → Calls Try.prog 26 #[.slice Af first.length cf, .slice A l.length cp] W (SeeP W first l))
    (hJ : seeOdd first.length l = (-1, 0) → VJ (vn first (rn l l.length).tries l l.length) first.length) (hsz : l.length * 48 + 480 ≤ 140737488355328)
    (hfl : seeOdd first.length l = (-1, 0) → first.length ≤ 65536)
    (hW : LiesP w (.slice Aw words.length cw) words) (hwl : words.length ≤ 9223372036854775807) (hwb : ∀ p ∈ words, 0 ≤ p.1) :
    Calls Try.prog 17 #[.slice Af first.length cf, .slice A l.length cp, .slice Aw words.length cw] w fun x w' => Below w.heap.size w w' ∧ (((seeOdd first.length l).2 ≠ 0 ∧ x = .returned (.tuple #[.slice none 0 0, .agg #[.int .i64 (seeOdd first.length l).1, .int .i64 (seeOdd first.length l).2]])) ∨
      (seeOdd first.length l = (-1, 0) ∧ okTo l l.length ∧ ((words.any (fun c => decide (c.1 ≥ (first.length : Int))) = true ∧ x = .returned (.tuple #[.slice none 0 0, .agg #[.int .i64 (-1), .int .i64 4]])) ∨
        (words.any (fun c => decide (c.1 ≥ (first.length : Int))) = false ∧ ∃ ov, x = .returned (.tuple #[ov, .agg #[.int .i64 (-1), .int .i64 0]]) ∧ Sl 3 1 encI w' ov (togK (vn first (rn l l.length).tries l l.length).cells words ((vn first (rn l l.length).tries l l.length).commits + 1)) ∧ ∀ q, own ov q → w.heap.size ≤ q)))) := by
  have hR1 := Blk.new w 28 #[.int .i64 0, .int .i64 0]
  have hb1 := (Below.refl w.heap.size w).alloc (Nat.le_refl _) (.cells #[.int .i64 0, .int .i64 0] 28)
  have S1 := Lib.hid (SEE _ hb1)
  replace hR1 := Lib.hid hR1
  replace hb1 := Lib.hid hb1
  replace hJ := Lib.hid hJ
  replace hfl := Lib.hid hfl
  replace hsz := Lib.hid hsz
  replace hW := Lib.hid hW
  replace hwl := Lib.hid hwl
  replace hwb := Lib.hid hwb
  obtain ⟨w1, hw1⟩ : ∃ w1, w1 = w.alloc (.cells #[.int .i64 0, .int .i64 0] 28) := ⟨_, rfl⟩
  rw [← hw1] at hR1 hb1 S1
  replace hw1 := Lib.hid hw1
  clear SEE
  go_enter Try.func17, Try.ntmps17
  go_wp2_with fail
  rw [← hw1.out]
  refine S1.out.mono ?_
  rintro e w2 ⟨hb2, (⟨ho, rfl⟩ | ⟨ho, hok, B, vb, nb, mb, fv, cv, sv, hB, rfl, hV, hVI⟩)⟩
  · obtain ⟨at0, hat0⟩ : ∃ x, (seeOdd first.length l).1 = x := ⟨_, rfl⟩
    obtain ⟨er0, her0⟩ : ∃ x, (seeOdd first.length l).2 = x := ⟨_, rfl⟩
    rw [hat0, her0]
    replace hat0 := Lib.hid hat0
    replace her0 := Lib.hid her0
    have hR2 := hR1.out.below hb2 hR1.out.lt
    have hbw := hb1.out.trans (hb2.mono hb1.out.size)
    have hb3 := Lib.hid ((hbw.alloc hbw.size (.cells #[.pointer none] 62)).alloc (hbw.alloc hbw.size _).size (.cells #[.int .i64 at0, .int .i64 er0] 28))
    have hR3 := (hR2.alloc (.cells #[.pointer none] 62)).alloc (.cells #[.int .i64 at0, .int .i64 er0] 28)
    have hX3 := (Blk.new w2 62 #[.pointer none]).alloc (.cells #[.int .i64 at0, .int .i64 er0] 28)
    have x0 := (hX3.cell 0).trans (show _ = some (.pointer none) from rfl)
    have r0 := hR3.cell 0
    have r1 := hR3.cell 1
    have f0 := hR3.frozen 0
    have f1 := hR3.frozen 1
    simp only [List.getElem?_toArray, List.getElem?_cons_zero, List.getElem?_cons_succ] at r0 r1
    have hlt2 := hR2.lt
    have hne2 : w.heap.size ≠ w2.heap.size := by omega
    have hne3 : w.heap.size ≠ w2.heap.size + 1 := by omega
    clear hb2 hR2 hR3 hR1 S1 hbw hX3
    replace ho := Lib.hid ho
    go_wp2
    refine wp_region_mixH (fun _ => True) [1, 3, 2] (List.range 3) (by kernel_rfl) (by kernel_rfl) (fun _ _ h => h) trivial ?_
    (repeat ((first | refine wpMixH_pure rfl rfl (fun K hK => ?_) | refine wpMixH_loc rfl rfl (fun K hK => ?_) | refine wpMixH_any rfl rfl (fun K hK => ?_)); go_simp; refine hK _ _ ?_; clear hK K))
    refine wpMixH_loud rfl rfl (fun n1 K hK => ?_)
    go_wp2
    refine hK _ _ (fun _ => trivial) ?_; clear hK K
    refine wpMixH_nil (fun n2 => ?_)
    go_wp2
    refine bodyPost_ret (v := .tuple #[.slice none 0 0, .agg #[.int .i64 at0, .int .i64 er0]]) (by simp [results, Try.results17, go_sem, r0, r1, f0, f1]) rfl ⟨below_drewNs (((below_drewNs hb3.out _).setCell (Nat.le_refl _) _).setCell (Nat.le_refl _) _) _, .inl ⟨ho.out, by rw [hat0.out, her0.out]⟩⟩
  · obtain ⟨vv, hvv⟩ : ∃ vv, vv = vn first (rn l l.length).tries l l.length := ⟨_, rfl⟩
    rw [← hvv] at hV hVI hJ
    have hVJ := Lib.hid (hJ.out ho)
    have hco := Lib.hid (cellsOk hVI hVJ.out (by have := hsz.out; omega))
    have hfl' := hfl.out ho
    have hbw := hb1.out.trans (hb2.mono hb1.out.size)
    have hR2 := hR1.out.below hb2 hR1.out.lt
    have hlt2 := hR2.lt
    obtain ⟨w3, hw3⟩ : ∃ w3, w3 = (w2.alloc (.cells #[.pointer (some ⟨vb, 0, none⟩)] 62)).alloc (.cells #[.int .i64 (-1), .int .i64 0] 28) := ⟨_, rfl⟩
    have hb3 : Below w.heap.size w w3 := by rw [hw3]; exact (hbw.alloc hbw.size _).alloc (hbw.alloc hbw.size _).size _
    have hR3 : Blk w3 w.heap.size 28 #[.int .i64 0, .int .i64 0] := by rw [hw3]; exact (hR2.alloc _).alloc _
    have hX3 : Blk w3 w2.heap.size 62 #[.pointer (some ⟨vb, 0, none⟩)] := by rw [hw3]; exact (Blk.new _ _ _).alloc _
    have hO3 : Blk w3 (w2.heap.size + 1) 28 #[.int .i64 (-1), .int .i64 0] := by
      have := Blk.new (w2.alloc (.cells #[.pointer (some ⟨vb, 0, none⟩)] 62)) 28 #[.int .i64 (-1), .int .i64 0]
      rw [World.size_alloc] at this
      rw [hw3]; exact this
    have hV3 : VwW B w3 vb nb mb vv first.length fv cv sv := by rw [hw3]; exact (hV.alloc _).alloc _
    have hW3 := Lib.hid (hW.out.below hb3)
    have u0 := (hX3.cell 0).trans (show _ = some (.pointer (some ⟨vb, 0, none⟩)) from rfl)
    rw [hw3] at u0
    have hsl3 : w3.heap.size = w2.heap.size + 2 := by rw [hw3]; simp
    have hclt : vv.commits + 1 ≤ 9223372036854775807 := by have := hVI.cm; have := hsz.out; omega
    have hwc : IntKind.i64.wrap ((vv.commits : Int) + 1) = (vv.commits : Int) + 1 := IntWalk.i64_in _ (by omega)
    replace hclt := Lib.hid hclt
    have hcm := Lib.hid hVI.cm
    have eg : ∀ args w, (callFunc 41 args).run Try.prog w = .ok (.enter 41 args) w := fun _ _ => rfl
    have CC := Lib.hid (containsC_b (p := fun c => decide (c.1 ≥ (first.length : Int))) (cap := #[.pointer (some ⟨w2.heap.size, 0, none⟩)]) hW3.out hwl.out eg (fun W hb c hc => tog1_b (hV3.below hb) (hX3.below hb hX3.lt) hfl' c))
    replace hb3 := Lib.hid hb3
    replace hR3 := Lib.hid hR3
    replace hX3 := Lib.hid hX3
    replace hO3 := Lib.hid hO3
    replace hV3 := Lib.hid hV3
    replace hw3 := Lib.hid hw3
    replace hlt2 := Lib.hid hlt2
    replace hsl3 := Lib.hid hsl3
    replace hvv := Lib.hid hvv
    replace hVI := Lib.hid hVI
    replace hfl' := Lib.hid hfl'
    clear hb2 hR2 hbw hV S1 hR1 hb1 hB hJ
    replace eg := Lib.hid eg
    go_wp2_with fail
    rw [← hw3.out]
    refine CC.out.mono ?_
    obtain ⟨far, hfar⟩ : ∃ b, b = words.any (fun c => decide (c.1 ≥ (first.length : Int))) := ⟨_, rfl⟩
    rw [← hfar]
    replace hfar := Lib.hid hfar
    rintro _ w5 ⟨rfl, hb5⟩
    clear u0 CC
    have hR5 := Lib.hid (hR3.out.below hb5 hR3.out.lt)
    have hX5 := Lib.hid (hX3.out.below hb5 hX3.out.lt)
    have hO5 := Lib.hid (hO3.out.below hb5 hO3.out.lt)
    have hV5 := Lib.hid (hV3.out.below hb5)
    have hW5 := Lib.hid (hW3.out.below hb5)
    have hbw5 := Lib.hid (hb3.out.trans (hb5.mono hb3.out.size))
    have hs5 := Lib.hid hb5.size
    clear hb5 hR3 hX3 hO3 hV3 hW3
    cases far with
    | true =>
      have CO := Lib.hid (fun W => odd_b (-1) 4 W)
      go_wp2_with fail
      refine (CO.out _).mono ?_
      rintro _ w6 ⟨rfl, hb6⟩
      have hR6 := hR5.out.below hb6 hR5.out.lt
      have hbw6 := Lib.hid (hbw5.out.trans (hb6.mono hbw5.out.size))
      have r0 := (hR6.cell 0).trans (show _ = some (.int .i64 0) from rfl)
      have r1 := (hR6.cell 1).trans (show _ = some (.int .i64 0) from rfl)
      have f0 := hR6.frozen 0
      have f1 := hR6.frozen 1
      clear hb6 hR6
      go_wp2
      refine bodyPost_ret (v := .tuple #[.slice none 0 0, .agg #[.int .i64 (-1), .int .i64 4]]) (by simp [results, Try.results17, go_sem, r0, r1, f0, f1]) rfl ⟨(hbw6.out.setCell (Nat.le_refl _) _).setCell (Nat.le_refl _) _, Or.inr ⟨ho, hok, Or.inl ⟨hfar.out.symm, rfl⟩⟩⟩
    | false =>
      have hwa : Hid (∀ p ∈ words, 0 ≤ p.1 ∧ p.1 < (first.length : Int)) := Lib.hid fun p hp => by
        have := List.any_eq_false.1 hfar.out.symm p hp
        exact ⟨hwb.out p hp, by simpa using this⟩
      obtain ⟨w6, hw6⟩ : ∃ w6, w6 = w5.alloc (.cells #[] 3) := ⟨_, rfl⟩
      have hN6 : Sl 3 1 encI w6 (.slice (some ⟨w5.heap.size, 0, none⟩) 0 0) [] := by rw [hw6]; exact Sl.new (e := 3) encI_len w5 [] (by simp)
      have hb6 : Below w5.heap.size w5 w6 := by rw [hw6]; exact (Below.refl _ _).alloc (Nat.le_refl _) _
      have x6 := ((hX5.out.below hb6 hX5.out.lt).cell 0).trans (show _ = some (.pointer (some ⟨vb, 0, none⟩)) from rfl)
      have v6 := (hV5.out.below hb6).c2
      rw [hw6] at x6 v6
      have hown6 : Hid (∀ q, own (.slice (some ⟨w5.heap.size, 0, none⟩) 0 0) q → w5.heap.size ≤ q) := Lib.hid fun q hq => by
        have h1 : w5.heap.size = q := by simpa [own, Value.ownBlock] using hq
        omega
      replace hb6 := Lib.hid hb6
      replace hN6 := Lib.hid hN6
      replace hw6 := Lib.hid hw6
      go_wp2
      rw [← hw6.out]
      go_loopw [10, 31] (fun c10 c31 wr => ∃ (k : Nat) (ov : Value), k ≤ vv.commits + 1 ∧ c31 = .int .i64 k ∧ c10 = ov ∧ Hid (Sl 3 1 encI wr ov (togK vv.cells words k)) ∧ Hid (∀ q, own ov q → w5.heap.size ≤ q) ∧ Hid (Below w5.heap.size w5 wr)) (fun _ c31 _ => vv.commits + 1 - (intOf c31).toNat)
      case atStart => exact ⟨0, _, Nat.zero_le _, rfl, rfl, by simpa [togK] using hN6, hown6, hb6⟩
      case round =>
        obtain ⟨k, ov, hk, rfl, rfl, hS, hown, hbl⟩ := hrel
        clear x6 v6 hN6 hown6 hb6
        have hX7 := Lib.hid (hX5.out.below hbl.out hX5.out.lt)
        have hsz7 := Lib.hid hbl.out.size
        by_cases hlt : k < vv.commits + 1
        · have hlt' : (k : Int) < (vv.commits : Int) + 1 := by omega
          have x7 := (hX7.out.cell 0).trans (show _ = some (.pointer (some ⟨vb, 0, none⟩)) from rfl)
          have ST := Lib.hid (stood_b (hV5.out.below hbl.out) hco.out (hW5.out.below hbl.out) hwl.out hwa.out k)
          have hkk : (k : Int) + 1 ≤ 9223372036854775807 := by have := hclt.out; omega
          have hwk : IntKind.i64.wrap ((k : Int) + 1) = (k : Int) + 1 := IntWalk.i64_in _ (by omega)
          replace hkk := Lib.hid hkk
          obtain ⟨b, hb⟩ : ∃ b, b = stoodW vv.cells k words := ⟨_, rfl⟩
          rw [← hb] at ST
          replace hb := Lib.hid hb
          cases b with
          | true =>
            go_wp2_with fail
            refine ST.out.mono ?_
            rintro _ w7 ⟨rfl, hb7⟩
            have hS7 := Lib.hid (hS.out.keep (w' := w7) fun q hq => hb7.block q (hS.out.lt q hq))
            have hbl7 := Lib.hid (hbl.out.trans (hb7.mono hbl.out.size))
            have hs7 := Lib.hid (Nat.le_trans hbl.out.size hb7.size)
            have HAPP := Lib.hid (fun (A4 : Option Addr) (cap4 : Nat) (w4 : World) (hS4 : Sl 3 1 encI w4 (.slice A4 ((togK vv.cells words k).length + 1) cap4) (togK vv.cells words k ++ [k])) (hF4 : Fr (own u10) w7 (own (.slice A4 ((togK vv.cells words k).length + 1) cap4)) w4) => show ∃ (k' : Nat) (ov : Value), k' ≤ vv.commits + 1 ∧ Value.int IntKind.i64 ((k : Int) + 1) = .int .i64 k' ∧ (.slice A4 ((togK vv.cells words k).length + 1) cap4) = ov ∧ Hid (Sl 3 1 encI w4 ov (togK vv.cells words k')) ∧ Hid (∀ q, own ov q → w5.heap.size ≤ q) ∧ Hid (Below w5.heap.size w5 w4) from
              ⟨k + 1, _, hlt, by go_num, rfl, Lib.hid (by rw [togK_yes hb.out.symm]; exact hS4), Lib.hid (fun q hq => (hF4.new q hq).elim (hown.out q) fun h => Nat.le_trans hs7.out h), Lib.hid (hbl7.out.trans (hF4.below hown.out hs7.out))⟩)
            have htl := Lib.hid (togK_len vv.cells words k)
            clear hb7
            go_wp2_with (at_builtin; refine wpList_intO w7 rfl (.tmp 38) (.tmp 40) rfl u10 (togK vv.cells words k) k rfl hS7.out rfl (by have := htl.out; have := hclt.out; omega) (by have := htl.out; have := hcm.out; have := hsz.out; omega) ?_; intro A4 cap4 w4 hc4 hS4 hF4; have HREL := Lib.hid (HAPP.out A4 cap4 w4 hS4 hF4); clear hS4 hF4)
            go_roundw
            case rel => exact HREL.out
            case measure => simp [intOf]; omega
          | false =>
            go_wp2_with fail
            refine ST.out.mono ?_
            rintro _ w7 ⟨rfl, hb7⟩
            have hS7 := Lib.hid (hS.out.keep (w' := w7) fun q hq => hb7.block q (hS.out.lt q hq))
            have hbl7 := Lib.hid (hbl.out.trans (hb7.mono hbl.out.size))
            rw [← togK_no hb.out.symm] at hS7
            clear hb7
            go_wp2
            go_roundw
            case rel => exact ⟨k + 1, _, hlt, by go_num, rfl, hS7, hown, hbl7⟩
            case measure => simp [intOf]; omega
        · have hkk : k = vv.commits + 1 := by omega
          subst hkk
          have hR7 := hR5.out.below hbl.out hR5.out.lt
          have hO7 := hO5.out.below hbl.out hO5.out.lt
          have r0 := (hR7.cell 0).trans (show _ = some (.int .i64 0) from rfl)
          have r1 := (hR7.cell 1).trans (show _ = some (.int .i64 0) from rfl)
          have f0 := hR7.frozen 0
          have f1 := hR7.frozen 1
          have o0 := (hO7.cell 0).trans (show _ = some (.int .i64 (-1)) from rfl)
          have o1 := (hO7.cell 1).trans (show _ = some (.int .i64 0) from rfl)
          have hnR : ¬ own u10 w.heap.size := fun h => by have := hown.out _ h; have := hR5.out.lt; omega
          have hb8 := Lib.hid (hbw5.out.trans (hbl.out.mono hbw5.out.size))
          have hne2 : w.heap.size ≠ w2.heap.size + 1 := by have := hlt2.out; omega
          have hfin : Hid (∀ j jj, Sl 3 1 encI ((((wr.drewN j).setCell ⟨w.heap.size, 0, none⟩ (.int .i64 (-1))).setCell ⟨w.heap.size, 1, none⟩ (.int .i64 0)).drewN jj) u10 (togK vv.cells words (vv.commits + 1))) := Lib.hid (fun j jj => (((hS.out.drewN j).set (p := ⟨w.heap.size, 0, none⟩) hnR _).set (p := ⟨w.heap.size, 1, none⟩) hnR _).drewN jj)
          have hown2 := Lib.hid (fun q (hq : own u10 q) => Nat.le_trans hbw5.out.size (hown.out q hq))
          clear hR7 hO7 hS hbl hX7 hown
          rw [hvv.out] at hfin
          go_wp2
          refine wp_region_mixH (fun _ => True) [3, 1, 3, 2] (List.range 4) (by kernel_rfl) (by kernel_rfl) (fun _ _ h => h) trivial ?_
          (repeat ((first | refine wpMixH_pure rfl rfl (fun K hK => ?_) | refine wpMixH_loc rfl rfl (fun K hK => ?_) | refine wpMixH_any rfl rfl (fun K hK => ?_)); go_simp; refine hK _ _ ?_; clear hK K))
          refine wpMixH_loud rfl rfl (fun n1 K hK => ?_)
          go_wp2
          refine hK _ _ (fun _ => trivial) ?_; clear hK K
          refine wpMixH_nil (fun n2 => ?_)
          go_wp2
          refine bodyPost_ret (v := .tuple #[u10, .agg #[.int .i64 (-1), .int .i64 0]]) (by simp [results, Try.results17, go_sem, r0, r1, f0, f1]) rfl ⟨below_drewNs (((below_drewNs hb8.out _).setCell (Nat.le_refl _) _).setCell (Nat.le_refl _) _) _, Or.inr ⟨ho, hok, Or.inr ⟨hfar.out.symm, _, rfl, hfin.out _ _, hown2.out⟩⟩⟩
end Go.Proofs.Ytloiadhdkgkjkaa
/- What opaque.Never sorts by: cmp.Compare, cmp.Or, its closure, by contract. -/
namespace Go.Proofs.Ytloiadhdkgkjkaa
open Go.RowKit Go.Sort
set_option maxHeartbeats 4000000
set_option linter.unusedVariables false
set_option linter.unusedSimpArgs false
def cmpI (a b : Int) : Int := if a < b then -1 else if b < a then 1 else 0
def orI (a b : Int) : Int := if a ≠ 0 then a else b
/-- How two cells stand: by their addresses, then by their words. -/
def cmpC (x y : Int × Int) : Int := orI (cmpI x.1 y.1) (cmpI x.2 y.2)
set_option maxRecDepth 100000 in
theorem compare_b (a b : Int) (w : World) : Calls Try.prog 45 #[.int .u64 a, .int .u64 b] w fun x w' => x = .returned (.int .i64 (cmpI a b)) ∧ w' = w := by
  by_cases h1 : a < b
  · go_enter Try.func45, Try.ntmps45
    go_wp2
    all_goals go_ret
    all_goals exact ⟨ret_int (by unfold cmpI; (repeat' split) <;> omega), rfl⟩
  · by_cases h2 : b < a
    · go_enter Try.func45, Try.ntmps45
      go_wp2
      all_goals go_ret
      all_goals exact ⟨ret_int (by unfold cmpI; (repeat' split) <;> omega), rfl⟩
    · go_enter Try.func45, Try.ntmps45
      go_wp2
      all_goals go_ret
      all_goals exact ⟨ret_int (by unfold cmpI; (repeat' split) <;> omega), rfl⟩
set_option maxRecDepth 100000 in
theorem or_b {a b : Int} {w : World} {g : Nat} (h0 : w.cell? ⟨g, 0, none⟩ = some (.int .i64 a)) (h1 : w.cell? ⟨g, 1, none⟩ = some (.int .i64 b)) : Calls Try.prog 44 #[.slice (some ⟨g, 0, none⟩) 2 2] w fun x w' => x = .returned (.int .i64 (orI a b)) ∧ w' = w := by
  go_enter Try.func44, Try.ntmps44
  go_wp2
  go_loopw [8] (fun i wr => ∃ k : Nat, k ≤ 2 ∧ i = .int .i64 k ∧ (1 ≤ k → a = 0) ∧ (2 ≤ k → b = 0) ∧ wr = w) (fun i _ => 2 - (intOf i).toNat)
  case atStart => exact ⟨0, by omega, rfl, by omega, by omega, rfl⟩
  case round =>
    obtain ⟨k, hk, rfl, ha, hb, rfl⟩ := hrel
    rcases (show k = 0 ∨ k = 1 ∨ k = 2 by omega) with rfl | rfl | rfl
    · clear ha hb
      by_cases ha : a = 0
      · subst ha
        go_wp2
        go_roundw
        case rel => exact ⟨1, by omega, rfl, fun _ => by trivial, by omega, by trivial⟩
        case measure => simp [intOf]
      · have ha' : (a != 0) = true := by simpa using ha
        go_wp2
        all_goals go_ret
        all_goals exact ⟨ret_int (by unfold orI; rw [if_pos ha]), rfl⟩
    · clear hb
      have ha0 := ha (by omega)
      clear ha
      by_cases hb : b = 0
      · subst hb
        go_wp2
        go_roundw
        case rel => exact ⟨2, by omega, rfl, fun _ => ha0, fun _ => by trivial, by trivial⟩
        case measure => simp [intOf]
      · have hb' : (b != 0) = true := by simpa using hb
        go_wp2
        all_goals go_ret
        all_goals exact ⟨ret_int (by unfold orI; rw [if_neg (by simpa using ha0)]), rfl⟩
    · have ha0 := ha (by omega)
      have hb0 := hb (by omega)
      clear ha hb
      go_wp2
      all_goals go_ret
      all_goals exact ⟨ret_int (by unfold orI; rw [if_neg (by simpa using ha0), hb0]), rfl⟩
/-- W with draws and blocks laid behind it. -/
def Gw (W w' : World) : Prop := ∃ q os, w' = grow (W.drewN q) os
theorem Gw.refl (W : World) : Gw W W := ⟨0, #[], by rw [grow_empty]; rfl⟩
theorem Gw.alloc {W w' : World} (h : Gw W w') (o : Obj) : Gw W (w'.alloc o) := by
  obtain ⟨q, os, rfl⟩ := h
  exact ⟨q, os ++ #[o], by rw [alloc_eq_grow, grow_grow]⟩
theorem Gw.drewN {W w' : World} (h : Gw W w') (n : Nat) : Gw W (w'.drewN n) := by
  obtain ⟨q, os, rfl⟩ := h
  exact ⟨q + n, os, by show grow ((W.drewN q).drewN n) os = _; rw [drewN_drewN]⟩
set_option maxRecDepth 100000 in
theorem never1_b (x y : Int × Int) (W : World) : Calls Try.prog 43 #[.agg #[.int .u64 x.1, .int .u64 x.2], .agg #[.int .u64 y.1, .int .u64 y.2]] W fun e w' => e = .returned (.int .i64 (cmpC x y)) ∧ Gw W w' := by
  obtain ⟨x1, x2⟩ := x
  obtain ⟨y1, y2⟩ := y
  have hX := (Blk.new W 45 #[.int .u64 x1, .int .u64 x2]).alloc (.cells #[.int .u64 y1, .int .u64 y2] 45)
  have hY := Blk.new (W.alloc (.cells #[.int .u64 x1, .int .u64 x2] 45)) 45 #[.int .u64 y1, .int .u64 y2]
  rw [World.size_alloc] at hY
  obtain ⟨wA, hwA⟩ : ∃ wA, wA = (W.alloc (.cells #[.int .u64 x1, .int .u64 x2] 45)).alloc (.cells #[.int .u64 y1, .int .u64 y2] 45) := ⟨_, rfl⟩
  have hG := Lib.hid (((Gw.refl W).alloc (.cells #[.int .u64 x1, .int .u64 x2] 45)).alloc (.cells #[.int .u64 y1, .int .u64 y2] 45))
  rw [← hwA] at hX hY hG
  have a0 := (hX.cell 0).trans (show _ = some (.int .u64 x1) from rfl)
  have b0 := (hY.cell 0).trans (show _ = some (.int .u64 y1) from rfl)
  have S0 : Hid (∀ J, (wA.drewN J).cell? ⟨W.heap.size, 1, none⟩ = some (.int .u64 x2) ∧ (wA.drewN J).cell? ⟨W.heap.size + 1, 1, none⟩ = some (.int .u64 y2)) := Lib.hid fun J => ⟨((hX.drewN J).cell 1).trans rfl, ((hY.drewN J).cell 1).trans rfl⟩
  have hr : Hid (orI (cmpI x1 y1) (cmpI x2 y2) = cmpC (x1, x2) (y1, y2)) := Lib.hid rfl
  have S1 : Hid (∀ J J2 o, (((wA.drewN J).alloc o).drewN J2).cell? ⟨W.heap.size, 1, none⟩ = some (.int .u64 x2) ∧ (((wA.drewN J).alloc o).drewN J2).cell? ⟨W.heap.size + 1, 1, none⟩ = some (.int .u64 y2)) := Lib.hid fun J J2 o => ⟨((((hX.drewN J).alloc o).drewN J2).cell 1).trans rfl, ((((hY.drewN J).alloc o).drewN J2).cell 1).trans rfl⟩
  have C1 := Lib.hid (fun W' => compare_b x1 y1 W')
  have C2 := Lib.hid (fun W' => compare_b x2 y2 W')
  have OR := Lib.hid (fun (w' : World) (n g : Nat) (hg : g = w'.heap.size) => show Calls Try.prog 44 #[.slice (some ⟨g, 0, none⟩) 2 2] ((w'.alloc (.cells #[.int .i64 (cmpI x1 y1), .int .i64 (cmpI x2 y2)] 3)).drewN n) fun x w'' => x = .returned (.int .i64 (orI (cmpI x1 y1) (cmpI x2 y2))) ∧ w'' = (w'.alloc (.cells #[.int .i64 (cmpI x1 y1), .int .i64 (cmpI x2 y2)] 3)).drewN n from by
    subst hg
    exact or_b (((Blk.new w' 3 #[.int .i64 (cmpI x1 y1), .int .i64 (cmpI x2 y2)]).drewN n).cell 0) (((Blk.new w' 3 #[.int .i64 (cmpI x1 y1), .int .i64 (cmpI x2 y2)]).drewN n).cell 1))
  generalize cmpC (x1, x2) (y1, y2) = r at *
  generalize cmpI x1 y1 = r1 at *
  generalize cmpI x2 y2 = r2 at *
  replace hwA := Lib.hid hwA
  clear hX hY
  dsimp only
  go_enter Try.func43, Try.ntmps43
  go_wp2
  rw [← hwA.out]
  refine wp_region_mixH (fun W' => W'.cell? ⟨W.heap.size, 1, none⟩ = some (.int .u64 x2) ∧ W'.cell? ⟨W.heap.size + 1, 1, none⟩ = some (.int .u64 y2)) [3, 1, 3, 1, 2, 3, 0, 3, 0, 2, 2, 2, 3] [0, 1, 2, 3, 5, 6, 7, 8, 4, 9, 10, 11, 12] (by kernel_rfl) (by kernel_rfl) (fun _ _ h => h) (S0.out 1) ?_
  (repeat (first | ((first | refine wpMixH_pure rfl rfl (fun K hK => ?_) | refine wpMixH_loc rfl rfl (fun K hK => ?_) | refine wpMixH_any rfl rfl (fun K hK => ?_)); go_simp; refine hK _ _ ?_; clear hK K) | (refine wpMixH_any rfl rfl (fun K hK => ?_); rw [if_pos (by go_simp)]; apply Exists.intro; refine And.intro (fun w2 hS2 => ?_) (hK _ _ ?_); (focus (obtain ⟨hs1, hs2⟩ := hS2; go_simp; rfl)); clear hK K)))
  refine wpMixH_loud rfl rfl (fun n1 K hK => ?_)
  go_wp2_with fail
  refine (C1.out _).mono ?_
  rintro _ w3 ⟨rfl, rfl⟩
  go_wp2
  refine hK _ _ (fun _ => (S0.out _)) ?_; clear hK K
  (repeat (first | ((first | refine wpMixH_pure rfl rfl (fun K hK => ?_) | refine wpMixH_loc rfl rfl (fun K hK => ?_) | refine wpMixH_any rfl rfl (fun K hK => ?_)); go_simp; refine hK _ _ ?_; clear hK K) | (refine wpMixH_any rfl rfl (fun K hK => ?_); rw [if_pos (by go_simp)]; apply Exists.intro; refine And.intro (fun w2 hS2 => ?_) (hK _ _ ?_); (focus (obtain ⟨hs1, hs2⟩ := hS2; go_simp; rfl)); clear hK K)))
  refine wpMixH_loud rfl rfl (fun n2 K hK => ?_)
  go_wp2_with fail
  refine (C2.out _).mono ?_
  rintro _ w4 ⟨rfl, rfl⟩
  go_wp2
  refine hK _ _ (fun _ => (S0.out _)) ?_; clear hK K
  (repeat (first | ((first | refine wpMixH_pure rfl rfl (fun K hK => ?_) | refine wpMixH_loc rfl rfl (fun K hK => ?_) | refine wpMixH_any rfl rfl (fun K hK => ?_)); go_simp; refine hK _ _ ?_; clear hK K) | (refine wpMixH_any rfl rfl (fun K hK => ?_); rw [if_pos (by go_simp)]; apply Exists.intro; refine And.intro (fun w2 hS2 => ?_) (hK _ _ ?_); (focus (obtain ⟨hs1, hs2⟩ := hS2; go_simp; rfl)); clear hK K)))
  refine wpMixH_loud rfl rfl (fun n3 K hK => ?_)
  go_wp2
  refine hK _ _ (fun h => (Bool.false_ne_true ((Eq.symm (by kernel_rfl)).trans h)).elim) ?_; clear hK K
  refine wpMixH_loud rfl rfl (fun n4 K hK => ?_)
  go_wp2_with fail
  refine (OR.out _ _ _ (by first | rfl | simp)).mono ?_
  rintro _ w5 ⟨rfl, rfl⟩
  go_wp2
  refine hK _ _ (fun h => (Bool.false_ne_true ((Eq.symm (by kernel_rfl)).trans h)).elim) ?_; clear hK K
  (repeat (first | ((first | refine wpMixH_pure rfl rfl (fun K hK => ?_) | refine wpMixH_loc rfl rfl (fun K hK => ?_) | refine wpMixH_any rfl rfl (fun K hK => ?_)); go_simp; refine hK _ _ ?_; clear hK K)))
  refine wpMixH_nil (fun n5 => ?_)
  go_wp2
  go_ret
  exact ⟨ret_int hr.out, by first | exact ((((hG.out.drewN _).drewN _).alloc _).drewN _).drewN _ | exact (((hG.out.drewN _).alloc _).drewN _).drewN _⟩
end Go.Proofs.Ytloiadhdkgkjkaa
/- slices.SortFunc over cells, by the shelf's contract: what opaque.Never sorts. -/
namespace Go.Proofs.Ytloiadhdkgkjkaa
open Go.Shelf Go.RowKit Go.Lib Go.Sort
set_option maxHeartbeats 4000000
set_option linter.unusedVariables false
set_option linter.unusedSimpArgs false
def sortC_ren : Go.Shelf.Ren := ⟨fun | 6 => 42 | 15 => 58 | 14 => 57 | 28 => 70 | 29 => 71 | 20 => 62 | 21 => 63 | 22 => 64 | 23 => 65 | 24 => 66 | 25 => 67 | 26 => 68 | 27 => 69 | 46 => 80 | 47 => 81 | 48 => 82 | 49 => 83 | 50 => 84 | 57 => 89 | n => n, fun | 22 => 43 | 24 => 45 | 25 => 96 | 3 => 3 | 39 => 112 | 0 => 0 | 53 => 142 | 55 => 35 | 4 => 4 | 46 => 135 | 45 => 134 | 50 => 139 | 5 => 5 | 9 => 9 | 66 => 151 | 70 => 155 | 76 => 163 | 77 => 164 | n => n, fun | n => n⟩
theorem sortC_lay : Go.Proofs.SlLaysF0.n6 Try.prog sortC_ren := {
  mixed := by kernel_rfl
  f6 := ⟨Try.f42.name, by decide, Try.func42.trans (congrArg some (by kernel_rfl))⟩
  f14 := ⟨Try.f57.name, by decide, Try.func57.trans (congrArg some (by kernel_rfl))⟩
  f15 := Try.func58.trans (congrArg some (by kernel_rfl))
  f20 := ⟨Try.f62.name, by decide, Try.func62.trans (congrArg some (by kernel_rfl))⟩
  f21 := ⟨Try.f63.name, by decide, Try.func63.trans (congrArg some (by kernel_rfl))⟩
  f22 := ⟨Try.f64.name, by decide, Try.func64.trans (congrArg some (by kernel_rfl))⟩
  f23 := ⟨Try.f65.name, by decide, Try.func65.trans (congrArg some (by kernel_rfl))⟩
  f24 := ⟨Try.f66.name, by decide, Try.func66.trans (congrArg some (by kernel_rfl))⟩
  f25 := ⟨Try.f67.name, by decide, Try.func67.trans (congrArg some (by kernel_rfl))⟩
  f26 := ⟨Try.f68.name, by decide, Try.func68.trans (congrArg some (by kernel_rfl))⟩
  f27 := ⟨Try.f69.name, by decide, Try.func69.trans (congrArg some (by kernel_rfl))⟩
  f28 := Try.func70.trans (congrArg some (by kernel_rfl))
  f29 := Try.func71.trans (congrArg some (by kernel_rfl))
  f46 := ⟨Try.f80.name, by decide, Try.func80.trans (congrArg some (by kernel_rfl))⟩
  f47 := Try.func81.trans (congrArg some (by kernel_rfl))
  f48 := Try.func82.trans (congrArg some (by kernel_rfl))
  f49 := ⟨Try.f83.name, by decide, Try.func83.trans (congrArg some (by kernel_rfl))⟩
  f50 := ⟨Try.f84.name, by decide, Try.func84.trans (congrArg some (by kernel_rfl))⟩
  f57 := ⟨Try.f89.name, by decide, Try.func89.trans (congrArg some (by kernel_rfl))⟩
  t0 := Try.underlying0
  a0 := Try.isAgg0
  z0 := Try.sizeOf0
  v0 := Try.zeroValue0
  t3 := Try.underlying3
  a3 := Try.isAgg3
  z3 := Try.sizeOf3
  v3 := Try.zeroValue3
  t4 := Try.underlying4
  a4 := Try.isAgg4
  z4 := Try.sizeOf4
  v4 := Try.zeroValue4
  t5 := Try.underlying5
  a5 := Try.isAgg5
  z5 := Try.sizeOf5
  v5 := Try.zeroValue5
  t9 := Try.underlying9
  a9 := Try.isAgg9
  z9 := Try.sizeOf9
  v9 := Try.zeroValue9
  t22 := Try.underlying43
  a22 := Try.isAgg43
  z22 := Try.sizeOf43
  v22 := Try.zeroValue43
  t25 := Try.underlying96
  a25 := Try.isAgg96
  z25 := Try.sizeOf96
  v25 := Try.zeroValue96
  t39 := Try.underlying112
  a39 := Try.isAgg112
  z39 := Try.sizeOf112
  v39 := Try.zeroValue112
  t45 := Try.underlying134
  a45 := Try.isAgg134
  z45 := Try.sizeOf134
  v45 := Try.zeroValue134
  t46 := Try.underlying135
  a46 := Try.isAgg135
  z46 := Try.sizeOf135
  v46 := Try.zeroValue135
  t50 := Try.underlying139
  a50 := Try.isAgg139
  z50 := Try.sizeOf139
  v50 := Try.zeroValue139
  t53 := Try.underlying142
  a53 := Try.isAgg142
  z53 := Try.sizeOf142
  v53 := Try.zeroValue142
  t55 := Try.underlying35
  a55 := Try.isAgg35
  z55 := Try.sizeOf35
  v55 := Try.zeroValue35
  t66 := Try.underlying151
  a66 := Try.isAgg151
  z66 := Try.sizeOf151
  v66 := Try.zeroValue151
  t70 := Try.underlying155
  a70 := Try.isAgg155
  z70 := Try.sizeOf155
  v70 := Try.zeroValue155
  t76 := Try.underlying163
  a76 := Try.isAgg163
  z76 := Try.sizeOf163
  v76 := Try.zeroValue163
  t77 := Try.underlying164
  a77 := Try.isAgg164
  z77 := Try.sizeOf164
  v77 := Try.zeroValue164 }
/-- What Never sorts to. -/
def leC (x y : Int × Int) : Bool := !(ltOf cmpC) y x
def srtC (l : List (Int × Int)) : List (Int × Int) := l.mergeSort leC
theorem cmpC_lt (x y : Int × Int) : ltOf cmpC x y = decide (x.1 < y.1 ∨ (x.1 = y.1 ∧ x.2 < y.2)) := by
  obtain ⟨a, b⟩ := x
  obtain ⟨c, d⟩ := y
  unfold ltOf cmpC orI cmpI
  dsimp only
  apply decide_eq_decide.2
  (repeat' split) <;> omega
theorem cmpC_swo : SWO (ltOf cmpC) where
  irrefl := fun x => by rw [cmpC_lt]; simp
  trans := fun x y z h1 h2 => by
    rw [cmpC_lt] at *
    simp only [decide_eq_true_eq] at *
    omega
  ntrans := fun x y z h1 h2 => by
    rw [cmpC_lt] at *
    simp only [decide_eq_false_iff_not] at *
    omega
theorem cmpC_tot (x y : Int × Int) (h1 : ltOf cmpC x y = false) (h2 : ltOf cmpC y x = false) : x = y := by
  rw [cmpC_lt] at *
  simp only [decide_eq_false_iff_not] at *
  obtain ⟨a, b⟩ := x
  obtain ⟨c, d⟩ := y
  dsimp only at *
  obtain ⟨rfl, rfl⟩ : a = c ∧ b = d := by omega
  rfl
theorem flatK_list (d : List (Int × Int)) : flatK encC 2 d.toArray = (d.flatMap encC).toArray := by
  apply Array.ext_getElem?
  intro t
  rcases Nat.lt_or_ge t (d.length * 2) with ht | ht
  · have e : t = t / 2 * 2 + t % 2 := by omega
    have hq : t / 2 < d.length := by omega
    have hr : t % 2 < 2 := by omega
    have g := get_flatK encC 2 d.toArray t (by simpa using ht)
    have hs : t < (flatK encC 2 d.toArray).size := by rw [size_flatK]; simpa using ht
    rw [Array.getElem?_eq_getElem hs]
    rw [getElem!_pos (flatK encC 2 d.toArray) t hs] at g
    rw [g]
    have f := flat_get encC_len d (t / 2) (t % 2) hq hr
    rw [← e] at f
    simp only [List.getElem?_toArray]
    rw [f]
    have e2 : d.toArray[t / 2]! = d[t / 2] := by rw [getElem!_pos d.toArray (t / 2) (by simpa using hq)]; simp
    rw [e2, List.getElem!_eq_getElem?_getD]
    have h3 : t % 2 < (encC d[t / 2]).length := by rw [encC_len]; exact hr
    rw [List.getElem?_eq_getElem h3]; rfl
  · rw [Array.getElem?_eq_none (by rw [size_flatK]; simpa using ht), Array.getElem?_eq_none (by simpa [flat_len encC_len] using ht)]
theorem sort_sl {w : World} {g off cp : Nat} {l d : List (Int × Int)} (h : Sl 45 2 encC w (.slice (some ⟨g, off, none⟩) l.length cp) l) (hd : d.length = l.length) (n : Nat) (os : Array Obj) :
    Sl 45 2 encC (sortWorldK encC 2 w g off n d.toArray os) (.slice (some ⟨g, off, none⟩) l.length cp) d ∧ Fr (own (.slice (some ⟨g, off, none⟩) l.length cp)) w (own (.slice (some ⟨g, off, none⟩) l.length cp)) (sortWorldK encC 2 w g off n d.toArray os) := by
  have hlt := h.lt g (by simp [own, Value.ownBlock])
  obtain ⟨h0, h⟩ := h
  rcases h with ⟨h1, h2⟩ | ⟨g', off', cap', cur, h1, h2, h3, h4, h5, h6, h7⟩
  · cases h1
  injection h1 with h1a h1b h1c
  simp only [Option.some.injEq, Addr.mk.injEq, and_true] at h1a
  obtain ⟨rfl, rfl⟩ := h1a
  subst h1c
  have hb : (sortWorldK encC 2 w g off n d.toArray os).heap[g]? = some (.cells (putCells id off (flatK encC 2 d.toArray) cur) 45 (0, 0)) := by
    unfold sortWorldK putRowK putRow mapBlock
    rw [heap_grow_old _ _ (by simpa [Sort.ahead] using hlt)]
    simp [Array.getElem?_modify, h3, Sort.ahead, onCells]
  refine ⟨?_, ?_⟩
  · unfold Sl
    rw [hd]
    refine ⟨by rw [flat_len encC_len, hd], .inr ⟨g, off, cp, _, rfl, Nat.zero_le _, hb, h4, h5, by simpa [putCells] using h6, ?_⟩⟩
    have hfl : (d.flatMap encC).length = l.length * 2 := by rw [flat_len encC_len, hd]
    rw [flatK_list]
    apply List.ext_getElem?
    intro j
    rw [List.getElem?_take, List.getElem?_drop]
    by_cases hj : j < l.length * 2
    · rw [if_pos hj]
      unfold putCells
      simp only [Array.getElem?_toList, Array.getElem?_mapIdx]
      have hc : off + j < cur.size := by have := Nat.mul_le_mul_right 2 h4; omega
      rw [Array.getElem?_eq_getElem hc, Option.map_some, if_pos ⟨by omega, by simp [hfl]; omega⟩, show off + j - off = j by omega]
      have h8 : j < (d.flatMap encC).length := by omega
      rw [List.getElem?_eq_getElem h8, getElem!_pos (d.flatMap encC).toArray j (by simpa using h8)]
      simp
    · rw [if_neg hj, List.getElem?_eq_none (by omega)]
  · refine ⟨rfl, rfl, rfl, by simp [sortWorldK, putRowK, putRow, mapBlock, Sort.ahead], fun k hk hF => ?_, fun k hk => .inl hk⟩
    have hne : k ≠ g := fun e => hF (by subst e; simp [own, Value.ownBlock])
    unfold sortWorldK putRowK putRow mapBlock
    rw [heap_grow_old _ _ (by simpa [Sort.ahead] using hk)]
    simp [Array.getElem?_modify, Ne.symm hne, Sort.ahead]
theorem sortC_b {w : World} {A : Option Addr} {cp : Nat} {l : List (Int × Int)} (h : Sl 45 2 encC w (.slice A l.length cp) l) (hl : l.length < 4611686018427387904) :
    Calls Try.prog 42 #[.slice A l.length cp, .func (.func 43) #[] #[]] w fun x w' => x = .returned (.tuple #[]) ∧ Sl 45 2 encC w' (.slice A l.length cp) (srtC l) ∧ Fr (own (.slice A l.length cp)) w (own (.slice A l.length cp)) w' := by
  rcases Nat.eq_zero_or_pos l.length with hz | hz
  · have e : l = [] := List.eq_nil_of_length_eq_zero hz
    subst e
    refine (AnyF.slices_SortFunc_none sortC_lay A cp (.func (.func 43) #[] #[]) w).mono ?_
    rintro _ _ ⟨rfl, rfl⟩
    exact ⟨rfl, by unfold srtC; rw [List.mergeSort_nil]; exact h, Fr.refl _ _⟩
  · obtain ⟨g, off, rfl, hg, hc⟩ := h.cell encC_len (by decide) hz
    have hH : HoldsK encC 2 w g off l.toArray := by
      unfold HoldsK
      intro j hj
      rw [flatK_list] at hj ⊢
      have hj' : j < l.length * 2 := by simpa [flat_len encC_len] using hj
      have e : j = j / 2 * 2 + j % 2 := by omega
      obtain ⟨k1, k2⟩ := hc (j / 2) (by omega) (j % 2) (by omega)
      rw [← flat_get encC_len l (j / 2) (j % 2) (by omega) (by omega), ← e] at k1
      rw [← e] at k2
      have h8 : j < (l.flatMap encC).length := by rw [flat_len encC_len]; exact hj'
      rw [List.getElem?_eq_getElem h8] at k1
      exact ⟨by rw [k1, getElem!_pos (l.flatMap encC).toArray j (by simpa using h8)]; simp, k2⟩
    have hcmp : CmpLays Try.prog 43 #[] encC 2 cmpC g off l.toArray.size w := by
      intro m os dk _ x y
      refine (never1_b x y _).mono ?_
      rintro _ w' ⟨rfl, q, os', rfl⟩
      exact ⟨rfl, q, os', rfl⟩
    have R := AnyQ.slices_SortFunc_total sortC_lay 2 Try.isAgg45 Try.sizeOf45 encC encC_len encC_one cmpC cmpC_swo 43 #[] g off cp l.toArray w (fun _ _ => rfl) hcmp hH hg (by simpa using hl) cmpC_tot
    refine (show Calls Try.prog 42 #[.slice (some ⟨g, off, none⟩) l.length cp, .func (.func 43) #[] #[]] w _ from R).mono ?_
    rintro _ w' ⟨rfl, n, os, rfl⟩
    obtain ⟨r1, r2⟩ := sort_sl h (d := srtC l) (by unfold srtC; rw [List.length_mergeSort]) n os
    exact ⟨rfl, r1, r2⟩
end Go.Proofs.Ytloiadhdkgkjkaa
