/- The document's world: Put by contract, whatever the event. -/
import Derived.Test.YtloiadhdkgkjkaaEvX
import Derived.Test.YtloiadhdkgkjkaaPSg2
import Derived.Test.YtloiadhdkgkjkaaPSg4
namespace Go.Proofs.Ytloiadhdkgkjkaa
open Go.RowKit
set_option maxHeartbeats 4000000
set_option linter.unusedVariables false
set_option linter.unusedSimpArgs false
theorem tb_lock1 {how : Nat} (h : tb how 1 ≠ 0) : how ≠ 2 := by rintro rfl; simp [tb] at h
theorem tb_lock4 {how : Nat} (h : tb how 4 ≠ 0) : how ≠ 2 := by rintro rfl; simp [tb] at h
theorem tb_lock5 {how : Nat} (h : tb how 5 ≠ 0) : how ≠ 2 := by rintro rfl; simp [tb] at h
def PutP (B : Nat) (w : World) (b : Nat) (s : St) (k : Nat) (e : Ev) (x : Ending) (w' : World) : Prop := x = .returned (.int .i64 (wrong s e)) ∧ Below B w w' ∧ (wrong s e = 0 → ∃ wv', RefW B w' b (take s k e) wv')
theorem putP_no {B b k : Nat} {w : World} {s : St} {e : Ev} {c : Int} {w' : World} {x : Ending} (hc : wrong s e = c) (h0 : c ≠ 0) (h : x = .returned (.int .i64 c) ∧ Below B w w') : PutP B w b s k e x w' := ⟨by rw [hc]; exact h.1, h.2, fun e0 => absurd (hc.symm.trans e0) h0⟩
theorem putP_ok {B b k : Nat} {w : World} {s : St} {e : Ev} {w' : World} {x : Ending} (hc : wrong s e = 0) (h : x = .returned (.int .i64 0) ∧ Below B w w' ∧ ∃ wv', RefW B w' b (take s k e) wv') : PutP B w b s k e x w' := ⟨by rw [hc]; exact h.1, h.2.1, fun _ => h.2.2⟩
theorem rput_b {B b k : Nat} {w : World} {s : St} {wv : Nat → Value} (h : RefW B w b s wv) (hI : Inv s k) (hkk : k ≤ 1152921504606846976) (hk16 : (k + 1) * 16 ≤ 140737488355328) (hwl : ∀ t, (s.th t).ws.length ≤ k) (e : Ev) (he : EvWf e) :
    Calls Try.prog 61 #[.pointer (some ⟨b, 0, none⟩), evV e] w (PutP B w b s k e) := by
  obtain ⟨th, kd, ad, wd, ow, er⟩ := e
  by_cases hf : fmd ⟨th, kd, ad, wd, ow, er⟩ = false
  · exact (rput_form h hI he hf).mono fun x w' hp => putP_no (by unfold wrong wrg; rw [if_pos hf]) (by decide) hp
  have hf' : fmd ⟨th, kd, ad, wd, ow, er⟩ = true := by simpa using hf
  obtain ⟨⟨h0, h8⟩, k1, k12⟩ := fmd_bd hf'
  dsimp only at h0 h8 k1 k12
  obtain ⟨t, rfl⟩ := Int.eq_ofNat_of_zero_le h0
  have ht : t < 8 := by omega
  have hW : ∀ c, (if tb (s.th t).how kd = 0 ∨ ((s.th t).how = 0 ∧ kd = 9 ∧ er ≠ 4) then (230 : Int) else if (lockK kd && decide (0 ≤ s.hold)) = true then 231 else if wordOk (s.th t) s.num ⟨t, kd, ad, wd, ow, er⟩ = false then 232 else if ownOk (s.th t) ⟨t, kd, ad, wd, ow, er⟩ = false then 233 else 0) = c → wrong s ⟨t, kd, ad, wd, ow, er⟩ = c := by
    intro c hc
    unfold wrong wrg
    rw [if_neg hf]
    exact hc
  by_cases htb : tb (s.th t).how kd = 0 ∨ ((s.th t).how = 0 ∧ kd = 9 ∧ er ≠ 4)
  · exact (rput_turn h hI ht he hf' (by unfold tnR; dsimp only; rw [if_pos htb])).mono fun x w' hp => putP_no (hW 230 (by rw [if_pos htb])) (by decide) hp
  obtain ⟨nx, hnx⟩ : ∃ nx, tb (s.th t).how kd = nx + 1 := ⟨tb (s.th t).how kd - 1, by have : tb (s.th t).how kd ≠ 0 := fun e => htb (.inl e); omega⟩
  have htn : tnR (s.th t).how ⟨t, kd, ad, wd, ow, er⟩ = (nx : Int) := by unfold tnR; dsimp only; rw [if_neg htb, hnx]; omega
  have hne : tb (s.th t).how kd ≠ 0 := by omega
  by_cases hlk : (lockK kd && decide (0 ≤ s.hold)) = true
  · have hL := hlk
    rw [Bool.and_eq_true, decide_eq_true_eq] at hL
    have hkd : kd = 1 ∨ kd = 4 ∨ kd = 5 := by
      have := hL.1
      unfold lockK at this
      simpa [or_assoc] using this
    have hW1 := hW 231 (by rw [if_neg htb, if_pos hlk])
    rcases hkd with rfl | rfl | rfl
    · exact (rput_lock1 h hI ht he hf' htn (by rw [lkR_hold hI ht (tb_lock1 hne)]; exact decide_eq_true hL.2)).mono fun x w' hp => putP_no hW1 (by decide) hp
    · exact (rput_lock4 h hI ht he hf' htn (by rw [lkR_hold hI ht (tb_lock4 hne)]; exact decide_eq_true hL.2)).mono fun x w' hp => putP_no hW1 (by decide) hp
    · exact (rput_lock5 h hI ht he hf' htn (by rw [lkR_hold hI ht (tb_lock5 hne)]; exact decide_eq_true hL.2)).mono fun x w' hp => putP_no hW1 (by decide) hp
  have hl1 : kd = 1 → lkR s (t : Int) = false := fun e => by subst e; rw [lkR_hold hI ht (tb_lock1 hne)]; simpa [lockK] using hlk
  have hl4 : kd = 4 → lkR s (t : Int) = false := fun e => by subst e; rw [lkR_hold hI ht (tb_lock4 hne)]; simpa [lockK] using hlk
  have hl5 : kd = 5 → lkR s (t : Int) = false := fun e => by subst e; rw [lkR_hold hI ht (tb_lock5 hne)]; simpa [lockK] using hlk
  have f1 : ¬ kd = 1 → (kd == 1) = false := fun h => by simpa using h
  have f3 : ¬ kd = 3 → (kd == 3) = false := fun h => by simpa using h
  have f4 : ¬ kd = 4 → (kd == 4) = false := fun h => by simpa using h
  have f5 : ¬ kd = 5 → (kd == 5) = false := fun h => by simpa using h
  have f6 : ¬ kd = 6 → (kd == 6) = false := fun h => by simpa using h
  by_cases hnm : wordOk (s.th t) s.num ⟨t, kd, ad, wd, ow, er⟩ = false
  · have hW1 := hW 232 (by rw [if_neg htb, if_neg hlk, if_pos hnm])
    by_cases c1 : kd = 1
    · subst c1; exact (rput_num1 h hI hkk hk16 hwl ht he hf' htn (hl1 rfl) hnm).mono fun x w' hp => putP_no hW1 (by decide) hp
    by_cases c4 : kd = 4
    · subst c4; exact (rput_num4 h hI hkk hk16 hwl ht he hf' htn (hl4 rfl) hnm).mono fun x w' hp => putP_no hW1 (by decide) hp
    by_cases c5 : kd = 5
    · subst c5; exact (rput_num5 h hI hkk hk16 hwl ht he hf' htn (hl5 rfl) hnm).mono fun x w' hp => putP_no hW1 (by decide) hp
    exact (rput_num h hI hkk hk16 hwl ht he (f1 c1) (f4 c4) (f5 c5) hf' htn hnm).mono fun x w' hp => putP_no hW1 (by decide) hp
  have hnm' : wordOk (s.th t) s.num ⟨t, kd, ad, wd, ow, er⟩ = true := by simpa using hnm
  by_cases how : ownOk (s.th t) ⟨t, kd, ad, wd, ow, er⟩ = false
  · have hW1 := hW 233 (by rw [if_neg htb, if_neg hlk, if_neg hnm, if_pos how])
    by_cases c1 : kd = 1
    · subst c1; simp [ownOk] at how
    by_cases c4 : kd = 4
    · subst c4; simp [ownOk] at how
    by_cases c5 : kd = 5
    · subst c5; exact (rput_own5 h hI hkk hk16 hwl ht he hf' htn (hl5 rfl) hnm' how).mono fun x w' hp => putP_no hW1 (by decide) hp
    exact (rput_own h hI hkk hk16 hwl ht he (f1 c1) (f4 c4) (f5 c5) hf' htn hnm' how).mono fun x w' hp => putP_no hW1 (by decide) hp
  have how' : ownOk (s.th t) ⟨t, kd, ad, wd, ow, er⟩ = true := by simpa using how
  have hW1 := hW 0 (by rw [if_neg htb, if_neg hlk, if_neg hnm, if_neg how])
  by_cases c1 : kd = 1
  · subst c1; exact (rput_ok1 h hI hkk hk16 hwl ht he hf' htn (hl1 rfl) hnm' how' hnx).mono fun x w' hp => putP_ok hW1 hp
  by_cases c4 : kd = 4
  · subst c4; exact (rput_ok4 h hI hkk hk16 hwl ht he hf' htn (hl4 rfl) hnm' how' hnx).mono fun x w' hp => putP_ok hW1 hp
  by_cases c5 : kd = 5
  · subst c5; exact (rput_ok5 h hI hkk hk16 hwl ht he hf' htn (hl5 rfl) hnm' how' hnx).mono fun x w' hp => putP_ok hW1 hp
  by_cases c6 : kd = 6
  · subst c6
    by_cases h2 : (s.th t).how = 2
    · exact (rput_ok6a h hI hkk hk16 hwl ht he hf' htn hnm' how' hnx h2).mono fun x w' hp => putP_ok hW1 hp
    · exact (rput_ok6b h hI hkk hk16 hwl ht he hf' htn hnm' how' hnx h2).mono fun x w' hp => putP_ok hW1 hp
  by_cases c3 : kd = 3
  · subst c3; exact (rput_ok3 h hI hkk hk16 hwl ht he hf' htn hnm' how' hnx).mono fun x w' hp => putP_ok hW1 hp
  exact (rput_oko h hI hkk hk16 hwl ht he (f1 c1) (f4 c4) (f5 c5) (f3 c3) (f6 c6) hf' htn hnm' how' hnx).mono fun x w' hp => putP_ok hW1 hp
end Go.Proofs.Ytloiadhdkgkjkaa
/- The document's Check of a history by contract. -/
namespace Go.Proofs.Ytloiadhdkgkjkaa
open Go.RowKit
set_option maxHeartbeats 40000000
set_option linter.unusedVariables false
set_option linter.unusedSimpArgs false
theorem ref_zero : ofF 25 (gR St.zero (fun _ => .slice none 0 0)) = #[.int .i64 0, .int .u64 0, .slice none 0 0, .int .i64 0, .int .u64 0, .slice none 0 0, .int .i64 0, .int .u64 0, .slice none 0 0, .int .i64 0, .int .u64 0, .slice none 0 0, .int .i64 0, .int .u64 0, .slice none 0 0, .int .i64 0, .int .u64 0, .slice none 0 0, .int .i64 0, .int .u64 0, .slice none 0 0, .int .i64 0, .int .u64 0, .slice none 0 0, .int .u64 0] := rfl
set_option maxRecDepth 100000 in
theorem rcheck_b {w : World} {A : Option Addr} {cp : Nat} {l : List Ev} (hL : LiesV w (.slice A l.length cp) l) (hwf : ∀ e ∈ l, EvWf e) (hsz : l.length * 48 + 480 ≤ 140737488355328) :
    Calls Try.prog 53 #[.slice A l.length cp] w fun x w' => x = .returned (.agg #[.int .i64 (odd l).1, .int .i64 (odd l).2]) ∧ Below w.heap.size w w' := by
  have hlen : (l.length : Int) ≤ 9223372036854775807 := by omega
  obtain ⟨w1, hw1⟩ : ∃ w1, w1 = w.alloc (.cells #[.int .i64 0, .int .i64 0] 28) := ⟨_, rfl⟩
  have hO1 : Blk w1 w.heap.size 28 #[.int .i64 0, .int .i64 0] := by rw [hw1]; exact Blk.new _ _ _
  have hb1 : Below w.heap.size w w1 := by rw [hw1]; exact (Below.refl _ _).alloc (Nat.le_refl _) _
  have hR2 := Blk.new w1 131 (ofF 25 (gR St.zero (fun _ => .slice none 0 0)))
  have hO2 := Lib.hid (hO1.alloc (.cells (ofF 25 (gR St.zero (fun _ => .slice none 0 0))) 131))
  have hb2 := Lib.hid (hb1.alloc hb1.size (.cells (ofF 25 (gR St.zero (fun _ => .slice none 0 0))) 131))
  have hRW := Lib.hid (RefW.mk (B := w1.heap.size) (s := St.zero) hR2 (fun t ht => Sl.nil _) (fun t t' _ _ _ k hk => by simp [own, Value.ownBlock] at hk) (Nat.le_refl _) (fun t _ k hk => by simp [own, Value.ownBlock] at hk))
  rw [ref_zero] at hO2 hb2 hRW
  have z1 : w1.heap.size = w.heap.size + 1 := by rw [hw1]; simp
  rw [z1] at hRW
  have hs1 : w.heap.size ≤ w.heap.size + 1 := Nat.le_succ _
  have hlt1 : w.heap.size < w.heap.size + 1 := Nat.lt_succ_self _
  replace z1 := Lib.hid z1
  clear hO1 hb1 hR2
  replace hw1 := Lib.hid hw1
  replace hL := Lib.hid hL
  go_enter Try.func53, Try.ntmps53
  go_wp2
  rw [← hw1.out]
  go_loopw [4] (fun i wr => ∃ (k : Nat) (wv : Nat → Value), k ≤ l.length ∧ i = .int .i64 k ∧ Hid (okTo l k) ∧ Hid (RefW (w.heap.size + 1) wr (w.heap.size + 1) (rn l k) wv) ∧ Hid (Below w.heap.size w wr) ∧ Hid (Blk wr w.heap.size 28 #[.int .i64 0, .int .i64 0])) (fun i _ => l.length - (intOf i).toNat)
  case atStart => exact ⟨0, _, Nat.zero_le _, rfl, Lib.hid fun j hj => by omega, hRW, hb2, hO2⟩
  case round =>
    obtain ⟨k, wv, hk, rfl, hok, hR, hbl, hO⟩ := hrel
    clear hO2 hb2 hRW
    by_cases hlt : k < l.length
    · obtain ⟨A', cp', eA, hcp, hA0, -, hl48, hcl⟩ := hL.out.below hbl.out (Nat.le_refl _)
      injection eA with e1 e2 e3
      subst e1 e3
      have hewf := hwf _ (List.getElem_mem hlt)
      have hev : Hid (evAt l k = l[k]) := Lib.hid (by unfold evAt; rw [List.getD_eq_getElem?_getD, List.getElem?_eq_getElem hlt]; rfl)
      have hinv := inv_rn hwf hk hok.out
      obtain ⟨g, o, rfl, hg, hc⟩ := hcl k hlt
      generalize hee : l[k] = e at *
      have d0 := hc 0 (by decide)
      have d1 := hc 1 (by decide)
      have d2 := hc 2 (by decide)
      have d3 := hc 3 (by decide)
      have d4 := hc 4 (by decide)
      have d5 := hc 5 (by decide)
      have CP := Lib.hid (rput_b hR.out hinv (by omega) (by omega) (rn_ws_len l k) e hewf)
      unfold PutP at CP
      obtain ⟨th, kd, ad, wd, ow, er⟩ := e
      unfold evV at CP
      simp only [encV, List.getElem?_cons_zero, List.getElem?_cons_succ, Nat.add_zero] at d0 d1 d2 d3 d4 d5
      dsimp only at CP
      have hlt' : (k : Int) < (l.length : Int) := by omega
      have hbs := hbl.out.size
      clear hcl hc hinv hewf hl48 hR e2 hcp hA0 hg
      replace hee := Lib.hid hee
      generalize hx : wrong (rn l k) ⟨th, kd, ad, wd, ow, er⟩ = x at *
      replace hx := Lib.hid hx
      have hxc : ((x != 0) = false ∧ x = 0) ∨ ((x != 0) = true ∧ x ≠ 0) := by
        by_cases h : x = 0
        · exact .inl ⟨by simp [h], h⟩
        · exact .inr ⟨by simp [h], h⟩
      rcases hxc with ⟨hx1, hx2⟩ | ⟨hx1, hx2⟩
      · replace hx2 := Lib.hid hx2
        go_wp2_with fail
        refine CP.out.mono ?_
        rintro _ w3 ⟨rfl, hb3, hr3⟩
        obtain ⟨wv3, hR3⟩ := hr3 hx2.out
        have hO3 := Lib.hid (hO.out.below hb3 hlt1)
        have hbl3 := Lib.hid (hbl.out.trans (hb3.mono hs1))
        have hR4 : Hid (RefW (w.heap.size + 1) w3 (w.heap.size + 1) (rn l (k + 1)) wv3) := Lib.hid (by show RefW _ _ _ (take (rn l k) k (evAt l k)) _; rw [hev.out]; exact hR3)
        clear hb3 hr3 hO hbl CP hR3
        go_wp2_with fail
        go_roundw
        case rel => exact ⟨k + 1, wv3, hlt, by go_num, Lib.hid (hok.out.succ (by rw [hev.out, hx.out]; exact hx2.out)), hR4, hbl3, hO3⟩
        case measure => simp [intOf]; omega
      · go_wp2_with fail
        refine CP.out.mono ?_
        rintro _ w3 ⟨rfl, hb3, hr3⟩
        have hO3 := hO.out.below hb3 hlt1
        have hbl3 := Lib.hid (hbl.out.trans (hb3.mono hs1))
        have c0 := hO3.cell 0
        have c1 := hO3.cell 1
        have f0 := hO3.frozen 0
        have f1 := hO3.frozen 1
        simp only [List.getElem?_toArray, List.getElem?_cons_zero, List.getElem?_cons_succ] at c0 c1
        clear hb3 hr3 hO hbl CP hO3
        go_wp2
        refine bodyPost_ret (v := .agg #[.int .i64 k, .int .i64 x]) (by simp [results, Try.results53, go_sem, c0, c1, f0, f1]) rfl ⟨?_, (hbl3.out.setCell (Nat.le_refl _) _).setCell (Nat.le_refl _) _⟩
        have e := odd_bad hok.out hlt (by rw [hev.out, hx.out]; exact hx2)
        rw [hev.out, hx.out] at e
        rw [e]
    · have hkk : k = l.length := by omega
      subst hkk
      have c0 := hO.out.cell 0
      have c1 := hO.out.cell 1
      have f0 := hO.out.frozen 0
      have f1 := hO.out.frozen 1
      simp only [List.getElem?_toArray, List.getElem?_cons_zero, List.getElem?_cons_succ] at c0 c1
      go_wp2
      refine bodyPost_ret (v := .agg #[.int .i64 (-1), .int .i64 0]) (by simp [results, Try.results53, go_sem, c0, c1, f0, f1]) rfl ⟨by rw [odd_ok hok.out], (hbl.out.setCell (Nat.le_refl _) _).setCell (Nat.le_refl _) _⟩
end Go.Proofs.Ytloiadhdkgkjkaa
/- Two histories, two lists of sights, that are the same: by contract. -/
namespace Go.Proofs.Ytloiadhdkgkjkaa
open Go.RowKit
set_option maxHeartbeats 40000000
set_option linter.unusedVariables false
set_option linter.unusedSimpArgs false
theorem evq_self (a : Ev) : evq a a = true := by simp [evq]
set_option maxRecDepth 100000 in
theorem rsame_b {w : World} {va vb : Value} {l : List Ev} (h1 : LiesV w va l) (h2 : LiesV w vb l) :
    Calls Try.prog 35 #[va, vb] w fun x w' => x = .returned (.bool true) ∧ ∃ n, w' = w.drewN n := by
  obtain ⟨A1, c1, rfl, hc1, -, -, hl48, k1⟩ := h1
  obtain ⟨A2, c2, rfl, hc2, -, -, -, k2⟩ := h2
  have hlen : (l.length : Int) ≤ 9223372036854775807 := by omega
  have hq : ∀ (a0 a1 a2 a3 : Int) (a4 : Bool) (a5 : Int) (w : World), (binOp .neq 61 (.agg #[.int .i64 a0, .int .i64 a1, .int .u64 a2, .int .u64 a3, .bool a4, .int .i64 a5]) (.agg #[.int .i64 a0, .int .i64 a1, .int .u64 a2, .int .u64 a3, .bool a4, .int .i64 a5])).run Try.prog w = .ok (.bool false) w := fun a0 a1 a2 a3 a4 a5 w => by
    have h := ev_neq ⟨a0, a1, a2, a3, a4, a5⟩ ⟨a0, a1, a2, a3, a4, a5⟩ w
    rw [evq_self] at h
    exact h
  go_enter Try.func35, Try.ntmps35
  go_wp2
  go_loopg [5] l.length (fun gk c5 wr => ∃ j nd : Nat, gk + j = l.length ∧ c5 = .int .i64 (j : Int) ∧ wr = w.drewN nd)
  case atStart => exact ⟨0, 0, rfl, rfl, rfl⟩
  case round =>
    obtain ⟨j, nd, hj, rfl, rfl⟩ := hrel
    rcases Nat.lt_or_ge j l.length with hlt | hge
    · obtain ⟨g1, o1, rfl, -, d⟩ := k1 j hlt
      obtain ⟨g2, o2, rfl, -, f⟩ := k2 j hlt
      generalize l[j] = e at *
      have d0 := d 0 (by decide)
      have d1 := d 1 (by decide)
      have d2 := d 2 (by decide)
      have d3 := d 3 (by decide)
      have d4 := d 4 (by decide)
      have d5 := d 5 (by decide)
      have f0 := f 0 (by decide)
      have f1 := f 1 (by decide)
      have f2 := f 2 (by decide)
      have f3 := f 3 (by decide)
      have f4 := f 4 (by decide)
      have f5 := f 5 (by decide)
      simp only [encV, List.getElem?_cons_zero, List.getElem?_cons_succ, Nat.add_zero] at d0 d1 d2 d3 d4 d5 f0 f1 f2 f3 f4 f5
      have b1 : (j : Int) < l.length := by omega
      clear d f k1 k2
      go_wp2
      go_quiet (fail)
      go_wp2
      obtain ⟨k, rfl⟩ : ∃ k, gk = k + 1 := ⟨gk - 1, by omega⟩
      go_roundg k
      case measure => omega
      case rel => exact ⟨j + 1, nd + nq, by omega, by simp, rfl⟩
    · go_wp2
      go_ret
      exact ⟨rfl, nd, rfl⟩
theorem sight_info : (Try.prog.info? 40).map (fun i => (i.zero, i.size, i.bytes)) = some (some (.agg #[.int .i64 0, .int .i64 0, .int .i64 0, .int .u64 0, .int .i64 0, .int .i64 0, .int .i64 0, .int .i64 0, .int .i64 0, .int .i64 0]), 10, 80) := by kernel_rfl
end Go.Proofs.Ytloiadhdkgkjkaa
/- The document's answer for chapter 16: begin, stood, Reads by contract. -/
namespace Go.Proofs.Ytloiadhdkgkjkaa
open Go.RowKit
set_option maxHeartbeats 40000000
set_option linter.unusedVariables false
set_option linter.unusedSimpArgs false
theorem LiesV.at {w : World} {A : Option Addr} {cp : Nat} {l : List Ev} (h : LiesV w (.slice A l.length cp) l) {j : Nat} (hj : j < l.length) : ∃ g o, A = some ⟨g, o, none⟩ ∧ ∀ j, j < l.length → w.cell? ⟨g, o + j * 6, none⟩ = some (.int .i64 (evAt l j).th) ∧ w.cell? ⟨g, o + j * 6 + 1, none⟩ = some (.int .i64 (evAt l j).kd) ∧ w.cell? ⟨g, o + j * 6 + 2, none⟩ = some (.int .u64 (evAt l j).ad) ∧ w.cell? ⟨g, o + j * 6 + 3, none⟩ = some (.int .u64 (evAt l j).wd) ∧ w.cell? ⟨g, o + j * 6 + 4, none⟩ = some (.bool (evAt l j).ow) ∧ w.cell? ⟨g, o + j * 6 + 5, none⟩ = some (.int .i64 (evAt l j).er) := by
  obtain ⟨A', cp', e, -, -, -, -, k⟩ := h
  injection e with e1 e2 e3
  subst e1 e3
  obtain ⟨g, o, rfl, -, -⟩ := k j hj
  refine ⟨g, o, rfl, fun i hi => ?_⟩
  obtain ⟨g', o', e, -, c⟩ := k i hi
  injection e with e
  injection e with e4 e5
  subst e4 e5
  have he : evAt l i = l[i] := by unfold evAt; rw [List.getD_eq_getElem?_getD, List.getElem?_eq_getElem hi]; rfl
  rw [he]
  exact ⟨c 0 (by decide), c 1 (by decide), c 2 (by decide), c 3 (by decide), c 4 (by decide), c 5 (by decide)⟩
theorem LiesV.len {w : World} {v : Value} {l : List Ev} (h : LiesV w v l) : l.length * 48 ≤ 140737488351280 := by
  obtain ⟨_, _, _, _, _, _, h, _⟩ := h
  omega
/-- The place of the thread's last Begin below n; 0: none. -/
def begF (l : List Ev) (t : Int) : Nat → Nat
  | 0 => 0
  | n + 1 => if (evAt l n).th = t ∧ (evAt l n).kd = 1 then n else begF l t n
set_option maxRecDepth 100000 in
theorem rbegin_b {w : World} {A : Option Addr} {cp : Nat} {l : List Ev} (hL : LiesV w (.slice A l.length cp) l) {a : Nat} (ha : a < l.length) :
    Calls Try.prog 54 #[.slice A l.length cp, .int .i64 a] w fun x w' => x = .returned (.int .i64 (begF l (evAt l a).th (a + 1))) ∧ ∃ n, w' = w.drewN n := by
  have hln := hL.len
  obtain ⟨g, o, rfl, hc⟩ := hL.at ha
  obtain ⟨a0, -, -, -, -, -⟩ := hc a ha
  have hlen : (l.length : Int) ≤ 9223372036854775807 := by omega
  have ha' : (a : Int) < l.length := by omega
  obtain ⟨t, ht⟩ : ∃ t, (evAt l a).th = t := ⟨_, rfl⟩
  rw [ht] at a0 ⊢
  replace ht := Lib.hid ht
  obtain ⟨r, hr⟩ : ∃ r, begF l t (a + 1) = r := ⟨_, rfl⟩
  rw [hr]
  go_enter Try.func54, Try.ntmps54
  go_wp2
  go_loopg [5] (a + 1) (fun gk c5 wr => ∃ nd : Nat, gk ≤ a + 1 ∧ c5 = .int .i64 ((gk : Int) - 1) ∧ wr = w.drewN nd ∧ begF l t gk = r)
  case atStart => exact ⟨0, Nat.le_refl _, by simp, rfl, hr⟩
  case round =>
    obtain ⟨nd, hj, rfl, rfl, hb⟩ := hrel
    cases gk with
    | zero =>
      replace hb := Lib.hid hb
      go_wp2
      go_ret
      exact ⟨by rw [← hb.out]; rfl, nd, rfl⟩
    | succ k =>
      have hk : k < l.length := by omega
      obtain ⟨d0, d1, -, -, -, -⟩ := hc k hk
      unfold begF at hb
      obtain ⟨x0, hx0⟩ : ∃ x, (evAt l k).th = x := ⟨_, rfl⟩
      obtain ⟨x1, hx1⟩ : ∃ x, (evAt l k).kd = x := ⟨_, rfl⟩
      rw [hx0, hx1] at hb
      rw [hx0] at d0
      rw [hx1] at d1
      clear hx0 hx1 hc
      have e1 : (((k + 1 : Nat) : Int) - 1) = (k : Int) := by omega
      rw [e1]
      have hk0 : (0 : Int) ≤ (k : Int) := by omega
      have hk1 : (k : Int) < (l.length : Int) := by omega
      have w1 := IntWalk.i64_in (n := (k : Int) - 1) (by omega)
      clear e1
      by_cases h0 : x0 = t
      · have g0 : (x0 == t) = true := by simpa using h0
        by_cases h1 : x1 = 1
        · have g1 : (x1 == 1) = true := by simpa using h1
          rw [if_pos ⟨h0, h1⟩] at hb
          replace hb := Lib.hid hb
          replace h0 := Lib.hid h0
          replace h1 := Lib.hid h1
          go_wp2
          go_quiet (fail)
          go_wp2
          go_ret
          exact ⟨by rw [← hb.out]; rfl, nd + nq, drewN_drewN _ _ _⟩
        · have g1 : (x1 == 1) = false := by simpa using h1
          rw [if_neg (fun h => h1 h.2)] at hb
          replace hb := Lib.hid hb
          replace h0 := Lib.hid h0
          replace h1 := Lib.hid h1
          go_wp2
          go_quiet (fail)
          go_wp2
          go_roundg k
          case measure => omega
          case rel => exact ⟨nd + nq, by omega, by simp, rfl, hb.out⟩
      · have g0 : (x0 == t) = false := by simpa using h0
        rw [if_neg (fun h => h0 h.1)] at hb
        replace hb := Lib.hid hb
        replace h0 := Lib.hid h0
        go_wp2
        go_quiet (fail)
        go_wp2
        go_roundg k
        case measure => omega
        case rel => exact ⟨nd + nq, by omega, by simp, rfl, hb.out⟩
/-- Did these words stand there together? -/
def stoodR (cells : List Int) (words : List (Int × Int)) : Bool := words.all fun p => cells.getD p.1.toNat 0 == p.2
set_option maxRecDepth 100000 in
theorem rstood_b {w : World} {vc vw : Value} {cells : List Int} {words : List (Int × Int)} (h1 : Lies w vc cells) (h2 : Sl 45 2 encC w vw words) (hc : (cells.length : Int) ≤ 9223372036854775807) (hn : (words.length : Int) ≤ 9223372036854775807) (hb : ∀ p ∈ words, 0 ≤ p.1 ∧ p.1 < (cells.length : Int)) :
    Calls Try.prog 34 #[vc, vw] w fun x w' => x = .returned (.bool (stoodR cells words)) ∧ ∃ n, w' = w.drewN n := by
  obtain ⟨A1, c1, rfl, hc1, -, k1⟩ := h1
  obtain ⟨A2, c2, rfl, hc2⟩ := h2.shape
  go_enter Try.func34, Try.ntmps34
  go_wp2
  go_loopg [5] words.length (fun gk c5 wr => ∃ j nd : Nat, gk + j = words.length ∧ c5 = .int .i64 (j : Int) ∧ wr = w.drewN nd ∧ Hid (∀ p ∈ words.take j, (cells.getD p.1.toNat 0 == p.2) = true))
  case atStart => exact ⟨0, 0, rfl, rfl, rfl, Lib.hid (by simp)⟩
  case round =>
    obtain ⟨j, nd, hj, rfl, rfl, hall⟩ := hrel
    rcases Nat.lt_or_ge j words.length with hlt | hge
    · obtain ⟨g2, o2, rfl, hg2, d⟩ := h2.cell encC_len (by decide) hlt
      have d0 := (d j hlt 0 (by decide)).1
      have d1 := (d j hlt 1 (by decide)).1
      obtain ⟨hp0, hp1⟩ := hb _ (List.getElem_mem hlt)
      have htk : words.take (j + 1) = words.take j ++ [words[j]] := by rw [List.take_add_one, List.getElem?_eq_getElem hlt]; rfl
      have hmem : words[j] ∈ words := List.getElem_mem hlt
      generalize words[j] = p at *
      obtain ⟨p1, p2⟩ := p
      simp only [encC, List.getElem?_cons_zero, List.getElem?_cons_succ, Nat.add_zero] at d0 d1
      rw [← Nat.add_assoc] at d1
      dsimp only at hp0 hp1
      obtain ⟨a, rfl⟩ := Int.eq_ofNat_of_zero_le hp0
      have ha : a < cells.length := by omega
      obtain ⟨g1, o1, rfl, f⟩ := k1 a ha
      obtain ⟨y, hy⟩ : ∃ y, cells.getD a 0 = y := ⟨_, rfl⟩
      rw [hy] at f
      have b1 : (j : Int) < words.length := by omega
      clear d k1 h2 hg2
      replace hp0 := Lib.hid hp0
      replace htk := Lib.hid htk
      replace hmem := Lib.hid hmem
      replace hy := Lib.hid hy
      by_cases he : y = p2
      · have he1 : (y != p2) = false := by simpa using he
        replace he := Lib.hid he
        go_wp2
        go_quiet (fail)
        go_wp2
        obtain ⟨k, rfl⟩ : ∃ k, gk = k + 1 := ⟨gk - 1, by omega⟩
        go_roundg k
        case measure => omega
        case rel =>
          refine ⟨j + 1, nd + nq, by omega, by simp, rfl, Lib.hid fun q hq => ?_⟩
          rw [htk.out, List.mem_append, List.mem_singleton] at hq
          rcases hq with hq | hq
          · exact hall.out q hq
          · subst hq
            show (cells.getD ((a : Int)).toNat 0 == p2) = true
            rw [Int.toNat_natCast, hy.out, he.out]
            simp
      · have he1 : (y != p2) = true := by simpa using he
        replace he := Lib.hid he
        go_wp2
        go_quiet (fail)
        go_wp2
        go_ret
        refine ⟨ret_bool ?_, nd + nq, drewN_drewN _ _ _⟩
        symm
        unfold stoodR
        rw [List.all_eq_false]
        refine ⟨_, hmem.out, ?_⟩
        dsimp only
        rw [Int.toNat_natCast, hy.out]
        simpa using he.out
    · go_wp2
      go_ret
      refine ⟨ret_bool ?_, nd, rfl⟩
      symm
      unfold stoodR
      rw [List.all_eq_true]
      intro p hp
      exact hall.out p (by rw [List.take_of_length_le hge]; exact hp)
end Go.Proofs.Ytloiadhdkgkjkaa
/- The document's answer for chapter 16: Reads by contract. -/
namespace Go.Proofs.Ytloiadhdkgkjkaa
open Go.RowKit
set_option maxHeartbeats 40000000
set_option linter.unusedVariables false
set_option linter.unusedSimpArgs false
def rdK (e : Ev) (th : Int) : Bool := (e.th == th && e.kd == 2) && !e.ow
/-- What the thread has read in n events from a place on. -/
def rdF (l : List Ev) (th : Int) (fr : Nat) : Nat → List (Int × Int)
  | 0 => []
  | n + 1 => if rdK (evAt l (fr + n)) th = true then rdF l th fr n ++ [((evAt l (fr + n)).ad, (evAt l (fr + n)).wd)] else rdF l th fr n
theorem rdF_len (l : List Ev) (th : Int) (fr : Nat) : ∀ n, (rdF l th fr n).length ≤ n
  | 0 => Nat.le_refl _
  | n + 1 => by
    unfold rdF
    have := rdF_len l th fr n
    split
    · simp; omega
    · omega
set_option maxRecDepth 100000 in
theorem rreads_b {w : World} {A : Option Addr} {cp : Nat} {l : List Ev} (hL : LiesV w (.slice A l.length cp) l) (th sn how rd wt : Int) (fr la : Nat) (hfl : fr ≤ la + 1) (hla : la < l.length) :
    Calls Try.prog 25 #[.slice A l.length cp, .agg #[.int .i64 th, .int .i64 fr, .int .i64 la, .int .u64 sn, .int .i64 how, .int .i64 rd, .int .i64 wt]] w fun x w' => Below w.heap.size w w' ∧ ∃ ov, x = .returned ov ∧ Sl 45 2 encC w' ov (rdF l th fr (la + 1 - fr)) ∧ ∀ q, own ov q → w.heap.size ≤ q := by
  have hln := hL.len
  obtain ⟨g, o, rfl, hc⟩ := hL.at hla
  have hlen : (l.length : Int) ≤ 9223372036854775807 := by omega
  have hla' : (la : Int) < l.length := by omega
  have hB1 := Lib.hid (Blk.new w 38 #[.int .i64 th, .int .i64 fr, .int .i64 la, .int .u64 sn, .int .i64 how, .int .i64 rd, .int .i64 wt])
  have hb1 := Lib.hid ((Below.refl w.heap.size w).alloc (Nat.le_refl _) (.cells #[.int .i64 th, .int .i64 fr, .int .i64 la, .int .u64 sn, .int .i64 how, .int .i64 rd, .int .i64 wt] 38))
  replace hc := Lib.hid hc
  replace hL := Lib.hid hL
  obtain ⟨r, hr⟩ : ∃ r, rdF l th fr (la + 1 - fr) = r := ⟨_, rfl⟩
  rw [hr]
  replace hr := Lib.hid hr
  go_enter Try.func25, Try.ntmps25
  go_wp2
  go_loopw [5, 6] (fun c5 c6 wr => ∃ (n : Nat) (ov : Value), n ≤ la + 1 - fr ∧ c6 = .int .i64 ((fr + n : Nat) : Int) ∧ c5 = ov ∧ Hid (Sl 45 2 encC wr ov (rdF l th fr n)) ∧ Hid (∀ q, own ov q → w.heap.size ≤ q) ∧ Hid (Blk wr w.heap.size 38 #[.int .i64 th, .int .i64 fr, .int .i64 la, .int .u64 sn, .int .i64 how, .int .i64 rd, .int .i64 wt]) ∧ Hid (Below w.heap.size w wr)) (fun _ c6 _ => la + 1 - (intOf c6).toNat)
  case atStart => exact ⟨0, _, Nat.zero_le _, rfl, rfl, Lib.hid (Sl.nil _), Lib.hid (fun q hq => absurd hq (no_own_nil q)), hB1, hb1⟩
  case round =>
    obtain ⟨n, ov, hn, rfl, rfl, hS, hown, hB, hbr⟩ := hrel
    by_cases hlt : n < la + 1 - fr
    · have hj : fr + n < l.length := by omega
      have b1 : ((fr + n : Nat) : Int) < l.length := by omega
      have b2 : ((fr + n : Nat) : Int) ≤ (la : Int) := by omega
      have b3 : (0 : Int) ≤ ((fr + n : Nat) : Int) := by omega
      have w1 := IntWalk.i64_in (n := ((fr + n : Nat) : Int) + 1) (by omega)
      obtain ⟨g', o', e, hc'⟩ := (hL.out.below hbr.out (Nat.le_refl _)).at hj
      injection e with e
      injection e with e1 e2
      subst e1 e2
      obtain ⟨d0, d1, d2, d3, d4, -⟩ := hc' (fr + n) hj
      have c0 := (hB.out.cell 0).trans (show _ = some (.int .i64 th) from rfl)
      have c2 := (hB.out.cell 2).trans (show _ = some (.int .i64 la) from rfl)
      have hrl := rdF_len l th fr n
      have hu : Hid (rdF l th fr (n + 1) = if rdK (evAt l (fr + n)) th = true then rdF l th fr n ++ [((evAt l (fr + n)).ad, (evAt l (fr + n)).wd)] else rdF l th fr n) := Lib.hid rfl
      generalize evAt l (fr + n) = ev at *
      obtain ⟨x0, x1, ad, wd, ow, er⟩ := ev
      dsimp only at d0 d1 d2 d3 d4 hu
      clear hc'
      obtain ⟨bb, hbb⟩ : ∃ bb, rdK ⟨x0, x1, ad, wd, ow, er⟩ th = bb := ⟨_, rfl⟩
      rw [hbb] at hu
      unfold rdK at hbb
      dsimp only at hbb
      have hrl2 : Hid (((rdF l th fr n).length + 1) * 16 ≤ 140737488355328) := Lib.hid (by omega)
      generalize hj1 : fr + n = m at *
      replace hj1 := Lib.hid hj1
      by_cases h0 : x0 = th
      · have g0 : (x0 == th) = true := by simpa using h0
        by_cases h1 : x1 = 2
        · have g1 : (x1 == 2) = true := by simpa using h1
          rw [g0, g1] at hbb
          replace h0 := Lib.hid h0
          replace h1 := Lib.hid h1
          cases ow with
          | false =>
            obtain rfl : true = bb := by simpa using hbb
            rw [if_pos rfl] at hu
            go_wp2
            go_quiet (fail)
            go_wp2
            have hb9 := Lib.hid (below_drewNs hbr.out nq)
            have hS9 := Lib.hid (hS.out.drewN nq)
            have hB9 := Lib.hid (hB.out.drewN nq)
            have D : ∀ W : World, W = wr.drewN nq → W.cell? ⟨g, o + m * 6 + 2, none⟩ = some (.int .u64 ad) ∧ W.cell? ⟨g, o + m * 6 + 3, none⟩ = some (.int .u64 wd) := fun W hW => by rw [hW]; exact ⟨d2, d3⟩
            obtain ⟨wq, hwq⟩ : ∃ wq, wq = wr.drewN nq := ⟨_, rfl⟩
            obtain ⟨d2', d3'⟩ := D wq hwq
            rw [← hwq] at hb9 hS9 hB9 ⊢
            clear D hS hB hbr d0 d1 d2 d3 d4 c0 c2 hwq
            refine wp_region_mixH (fun _ => True) [3, 3, 3, 3, 3, 1, 3, 3, 3, 3, 1, 2, 2, 2, 3] (List.range 15) (by kernel_rfl) (by kernel_rfl) (fun _ _ h => h) trivial ?_
            (repeat ((first | refine wpMixH_pure rfl rfl (fun K hK => ?_) | refine wpMixH_loc rfl rfl (fun K hK => ?_) | refine wpMixH_any rfl rfl (fun K hK => ?_)); go_simp; refine hK _ _ ?_; clear hK K))
            refine wpMixH_loud rfl rfl (fun n2 K hK => ?_)
            go_wp2
            refine hK _ _ (fun _ => trivial) ?_; clear hK K
            refine wpMixH_loud rfl rfl (fun n3 K hK => ?_)
            go_wp2
            refine hK _ _ (fun _ => trivial) ?_; clear hK K
            refine wpMixH_loud rfl rfl (fun n4 K hK => ?_)
            obtain ⟨wx, hwx⟩ : ∃ wx, wx = (wq.drewN (1 + n2 + n3)).drewN n4 := ⟨_, rfl⟩
            have hsz : wx.heap.size = wq.heap.size := by rw [hwx]; rfl
            have hSX := (hS9.out.drewN (1 + n2 + n3)).drewN n4
            have hBX := (hB9.out.drewN (1 + n2 + n3)).drewN n4
            have hbX := below_drewNs (below_drewNs hb9.out (1 + n2 + n3)) n4
            rw [← hwx] at hSX hBX hbX
            rw [show ((((wq.drewN (1 + n2 + n3)).alloc (.cells #[.int .u64 ad, .int .u64 wd] 45)).drewN n4)) = wx.alloc (.cells #[.int .u64 ad, .int .u64 wd] 45) from by rw [hwx]; rfl]
            refine wpList_cellO wx rfl (.tmp 39) (.tmp 51) rfl _ _ (ad, wd) rfl hSX (by show Value.slice (some ⟨wq.heap.size, 0, none⟩) 1 1 = _; rw [hsz]) (by have := hrl2.out; omega) hrl2.out ?_
            intro A5 cap5 w5 hc5 hS5 hF5
            have hB5 := hF5.blk hBX (hSX.ne_ hBX (by decide))
            have hb5 := hbX.trans (hF5.below hown.out hbX.size)
            have ho5 := hF5.ge hown.out hbX.size
            have hS6 := Lib.hid (fun j => hS5.drewN j)
            have hB6 := Lib.hid (fun j => hB5.drewN j)
            have hb6 := Lib.hid (fun j => below_drewNs hb5 j)
            replace ho5 := Lib.hid ho5
            clear hSX hBX hbX hS5 hF5 hB5 hb5 hS9 hB9 hb9 hown d2' d3'
            replace hwx := Lib.hid hwx
            replace hsz := Lib.hid hsz
            go_wp2
            refine hK _ _ (fun _ => trivial) ?_; clear hK K
            (repeat ((first | refine wpMixH_pure rfl rfl (fun K hK => ?_) | refine wpMixH_loc rfl rfl (fun K hK => ?_) | refine wpMixH_any rfl rfl (fun K hK => ?_)); go_simp; refine hK _ _ ?_; clear hK K))
            refine wpMixH_nil (fun n5 => ?_)
            go_wp2
            go_roundw
            case rel => exact ⟨n + 1, _, by omega, by have := hj1.out; go_num, rfl, Lib.hid (by rw [hu.out]; have := (rdF_len l th fr n); simpa using hS6.out n5), ho5, Lib.hid (hB6.out _), Lib.hid (hb6.out _)⟩
            case measure => have := hj1.out; simp [intOf]; omega
          | true =>
            obtain rfl : false = bb := by simpa using hbb
            rw [if_neg (by simp)] at hu
            go_wp2
            go_quiet (fail)
            go_wp2
            go_roundw
            case rel => exact ⟨n + 1, _, by omega, by have := hj1.out; go_num, rfl, Lib.hid (by rw [hu.out]; exact hS.out.drewN _), hown, Lib.hid (hB.out.drewN _), Lib.hid (below_drewNs hbr.out _)⟩
            case measure => have := hj1.out; simp [intOf]; omega
        · have g1 : (x1 == 2) = false := by simpa using h1
          rw [g0, g1] at hbb
          obtain rfl : false = bb := by simpa using hbb
          rw [if_neg (by simp)] at hu
          replace h0 := Lib.hid h0
          replace h1 := Lib.hid h1
          go_wp2
          go_quiet (fail)
          go_wp2
          go_roundw
          case rel => exact ⟨n + 1, _, by omega, by have := hj1.out; go_num, rfl, Lib.hid (by rw [hu.out]; exact hS.out.drewN _), hown, Lib.hid (hB.out.drewN _), Lib.hid (below_drewNs hbr.out _)⟩
          case measure => have := hj1.out; simp [intOf]; omega
      · have g0 : (x0 == th) = false := by simpa using h0
        rw [g0] at hbb
        obtain rfl : false = bb := by simpa using hbb
        rw [if_neg (by simp)] at hu
        replace h0 := Lib.hid h0
        go_wp2
        go_quiet (fail)
        go_wp2
        go_roundw
        case rel => exact ⟨n + 1, _, by omega, by have := hj1.out; go_num, rfl, Lib.hid (by rw [hu.out]; exact hS.out.drewN _), hown, Lib.hid (hB.out.drewN _), Lib.hid (below_drewNs hbr.out _)⟩
        case measure => have := hj1.out; simp [intOf]; omega
    · have hn2 : n = la + 1 - fr := by omega
      have b2 : ¬ ((fr + n : Nat) : Int) ≤ (la : Int) := by omega
      have c2 := (hB.out.cell 2).trans (show _ = some (.int .i64 la) from rfl)
      subst hn2
      rw [hr.out] at hS
      generalize hj1 : fr + (la + 1 - fr) = m at *
      replace hj1 := Lib.hid hj1
      go_wp2
      go_ret
      exact ⟨hbr.out, _, rfl, hS.out, hown.out⟩
end Go.Proofs.Ytloiadhdkgkjkaa
/- The document's answer for chapter 16: Writing by contract. -/
namespace Go.Proofs.Ytloiadhdkgkjkaa
open Go.RowKit
set_option maxHeartbeats 40000000
set_option linter.unusedVariables false
set_option linter.unusedSimpArgs false
theorem LiesV.blt {w : World} {g o cp : Nat} {l : List Ev} (h : LiesV w (.slice (some ⟨g, o, none⟩) l.length cp) l) {j : Nat} (hj : j < l.length) : g < w.heap.size := by
  obtain ⟨A', cp', e, -, -, -, -, k⟩ := h
  injection e with e1 e2 e3
  obtain ⟨g', o', e4, h5, -⟩ := k j hj
  rw [← e1] at e4
  injection e4 with e4
  injection e4 with e4 e5
  omega
def encI (n : Nat) : List Value := [.int .i64 n]
theorem encI_len (n : Nat) : (encI n).length = 1 := rfl
theorem encI_one (n : Nat) : ∀ u ∈ encI n, u.oneCell' = true := by
  intro u hu
  simp only [encI, List.mem_cons, List.not_mem_nil, or_false] at hu
  subst hu
  rfl
theorem intO_info : (Try.prog.info? 3).map (fun i => (i.zero, i.size, i.bytes)) = some (some (.int .i64 0), 1, 8) := by kernel_rfl
theorem wpList_intO {ops : Array Oper} {rest : List Oper} {o : Oper} {a : Act} {Q : Exit → Act → World → Prop} (wr : World) (hgd : o.guard = none) (s x : Operand)
    (ho : o.op = .call { callee := .builtin .append, args := #[s, x], argTypes := #[48, 48] })
    (v : Value) (l : List Nat) (y : Nat) (hs : a.eval s = v) (hl : Sl 3 1 encI wr v l) (hx : a.eval x = .slice (some ⟨wr.heap.size, 0, none⟩) 1 1) (hb1 : l.length + 1 ≤ 9223372036854775807) (hlen : (l.length + 1) * 8 ≤ 140737488355328)
    (h : ∀ A cap w', l.length + 1 ≤ cap → Sl 3 1 encI w' (.slice A (l.length + 1) cap) (l ++ [y]) → Fr (own v) wr (own (.slice A (l.length + 1) cap)) w' → wpList Try.prog ops Q rest (a.put o.dst (.slice A (l.length + 1) cap)) w') :
    wpList Try.prog ops Q (o :: rest) a (wr.alloc (.cells #[.int .i64 y] 3)) :=
  wpList_one (enc := encI) encI_len encI_one wr hgd s x 48 ho Try.underlying48 intO_info rfl (by decide) v l y hs hl hx hb1 hlen h
/-- Who is locked, and the places of the writing commits, behind n events. -/
def wrS (l : List Ev) : Nat → (Nat → Bool) × List Nat
  | 0 => (fun _ => false, [])
  | n + 1 =>
    let e := evAt l n
    let t := e.th.toNat
    let s := wrS l n
    if e.kd = 5 then (upd s.1 t true, s.2) else if e.kd = 6 ∧ s.1 t = true then (upd s.1 t false, s.2 ++ [n]) else s
theorem wrS_len (l : List Ev) : ∀ n, (wrS l n).2.length ≤ n
  | 0 => Nat.le_refl _
  | n + 1 => by
    have := wrS_len l n
    unfold wrS
    dsimp only
    split
    · dsimp only; omega
    split
    · simp; omega
    · omega
theorem wrS_lt (l : List Ev) : ∀ n, ∀ x ∈ (wrS l n).2, x < n
  | 0 => by simp [wrS]
  | n + 1 => by
    have h := wrS_lt l n
    unfold wrS
    dsimp only
    intro x hx
    split at hx
    · have := h x hx; omega
    split at hx
    · dsimp only at hx
      rw [List.mem_append, List.mem_singleton] at hx
      rcases hx with hx | hx
      · have := h x hx; omega
      · omega
    · have := h x hx; omega
set_option maxRecDepth 100000 in
theorem rwriting_b {w : World} {A : Option Addr} {cp : Nat} {l : List Ev} (hL : LiesV w (.slice A l.length cp) l) (hth : ∀ k, k < l.length → 0 ≤ (evAt l k).th ∧ (evAt l k).th < 8) :
    Calls Try.prog 32 #[.slice A l.length cp] w fun x w' => Below w.heap.size w w' ∧ ∃ ov, x = .returned ov ∧ Sl 3 1 encI w' ov (wrS l l.length).2 ∧ ∀ q, own ov q → w.heap.size ≤ q := by
  have hln := hL.len
  have hlen : (l.length : Int) ≤ 9223372036854775807 := by omega
  have hB0 := Blk.new w 107 (ofF 8 (fun j => .bool ((wrS l 0).1 j)))
  have hb0 := (Below.refl w.heap.size w).alloc (Nat.le_refl _) (.cells (ofF 8 (fun j => .bool ((wrS l 0).1 j))) 107)
  rw [show ofF 8 (fun j => Value.bool ((wrS l 0).1 j)) = #[.bool false, .bool false, .bool false, .bool false, .bool false, .bool false, .bool false, .bool false] from rfl] at hb0
  have hB1 : Hid (Blk (w.alloc (.cells #[.bool false, .bool false, .bool false, .bool false, .bool false, .bool false, .bool false, .bool false] 107)) w.heap.size 107 (ofF 8 (fun j => .bool ((wrS l 0).1 j)))) := Lib.hid hB0
  have hb1 := Lib.hid hb0
  clear hB0 hb0
  replace hL := Lib.hid hL
  replace hth := Lib.hid hth
  go_enter Try.func32, Try.ntmps32
  go_wp2
  go_loopw [4, 5] (fun c4 c5 wr => ∃ (n : Nat) (ov : Value), n ≤ l.length ∧ c5 = .int .i64 (n : Int) ∧ c4 = ov ∧ Hid (Sl 3 1 encI wr ov (wrS l n).2) ∧ Hid (∀ q, own ov q → w.heap.size ≤ q) ∧ Hid (Blk wr w.heap.size 107 (ofF 8 (fun j => .bool ((wrS l n).1 j)))) ∧ Hid (Below w.heap.size w wr)) (fun _ c5 _ => l.length - (intOf c5).toNat)
  case atStart => exact ⟨0, _, Nat.zero_le _, rfl, rfl, Lib.hid (Sl.nil _), Lib.hid (fun q hq => absurd hq (no_own_nil q)), hB1, hb1⟩
  case round =>
    obtain ⟨n, ov, hn, rfl, rfl, hS, hown, hB, hbr⟩ := hrel
    clear hB1 hb1
    by_cases hlt : n < l.length
    · have b1 : (n : Int) < l.length := by omega
      have w1 := IntWalk.i64_in (n := (n : Int) + 1) (by omega)
      obtain ⟨g, o, rfl, hc⟩ := (hL.out.below hbr.out (Nat.le_refl _)).at hlt
      obtain ⟨d0, d1, -, -, -, -⟩ := hc n hlt
      have hgl := hL.out.blt hlt
      have hne1 : g ≠ w.heap.size := Nat.ne_of_lt hgl
      have hne2 : w.heap.size ≠ g := (Nat.ne_of_lt hgl).symm
      obtain ⟨ht0, ht8⟩ := hth.out n hlt
      have hwl : Hid (((wrS l n).2.length + 1) * 8 ≤ 140737488355328) := Lib.hid (by have := wrS_len l n; omega)
      have hu : Hid (wrS l (n + 1) = if (evAt l n).kd = 5 then (upd (wrS l n).1 (evAt l n).th.toNat true, (wrS l n).2) else if (evAt l n).kd = 6 ∧ (wrS l n).1 (evAt l n).th.toNat = true then (upd (wrS l n).1 (evAt l n).th.toNat false, (wrS l n).2 ++ [n]) else wrS l n) := Lib.hid rfl
      generalize evAt l n = ev at *
      obtain ⟨x0, x1, ad, wd, ow, er⟩ := ev
      dsimp only at d0 d1 ht0 ht8 hu
      obtain ⟨t, rfl⟩ := Int.eq_ofNat_of_zero_le ht0
      rw [Int.toNat_natCast] at hu
      have ht : t < 8 := by omega
      generalize hs : wrS l n = s at *
      obtain ⟨lk, out⟩ := s
      dsimp only at hS hB hu hwl
      replace hs := Lib.hid hs
      have c0 := hB.out.fcell (i := t) ht
      have fz := hB.out.frozen t
      clear hc
      by_cases h5 : x1 = 5
      · subst h5
        rw [if_pos rfl] at hu
        have hB5 := Lib.hid ((hB.out.fset t (.bool true)).fcongr (g' := fun j => .bool (upd lk t true j)) (fun j hj => by unfold upd; by_cases e : j = t <;> simp [e]))
        have hS5 := Lib.hid (hS.out.set (p := ⟨w.heap.size, t, none⟩) (hS.out.ne_ hB.out (by decide)) (.bool true))
        have hb5 := Lib.hid (hbr.out.setCell (p := ⟨w.heap.size, t, none⟩) (Nat.le_refl _) (.bool true))
        clear hS hB hbr
        go_wp2
        go_roundw
        case rel => exact ⟨n + 1, _, hlt, by go_num, rfl, by rw [hu.out]; exact hS5, hown, by rw [hu.out]; exact hB5, hb5⟩
        case measure => simp [intOf]; omega
      · have f5 : (x1 == 5) = false := by simpa using h5
        rw [if_neg h5] at hu
        by_cases h6 : x1 = 6
        · subst h6
          obtain ⟨b, hb⟩ : ∃ b, lk t = b := ⟨_, rfl⟩
          rw [hb] at c0
          cases b with
          | true =>
            rw [if_pos ⟨rfl, hb⟩] at hu
            replace hb := Lib.hid hb
            have hB5 := hB.out.fset t (.bool false)
            have hS5 := hS.out.set (p := ⟨w.heap.size, t, none⟩) (hS.out.ne_ hB.out (by decide)) (.bool false)
            have hb5 := hbr.out.setCell (p := ⟨w.heap.size, t, none⟩) (Nat.le_refl _) (.bool false)
            obtain ⟨wx, hwx⟩ : ∃ wx, wx = wr.setCell ⟨w.heap.size, t, none⟩ (.bool false) := ⟨_, rfl⟩
            have hsz : wr.heap.size = wx.heap.size := by rw [hwx]; simp [World.setCell]
            rw [← hwx] at hB5 hS5 hb5
            have hB6 := hB5.fcongr (g' := fun j => .bool (upd lk t false j)) (fun j hj => by unfold upd; by_cases e : j = t <;> simp [e])
            have hA : Hid (∀ A5 cap5 w5, Sl 3 1 encI w5 (.slice A5 (out.length + 1) cap5) (out ++ [n]) → Fr (own _) wx (own (.slice A5 (out.length + 1) cap5)) w5 → Sl 3 1 encI w5 (.slice A5 (out.length + 1) cap5) (wrS l (n + 1)).2 ∧ (∀ q, own (.slice A5 (out.length + 1) cap5) q → w.heap.size ≤ q) ∧ Blk w5 w.heap.size 107 (ofF 8 (fun j => .bool ((wrS l (n + 1)).1 j))) ∧ Below w.heap.size w w5) := Lib.hid (fun A5 cap5 w5 hS6 hF6 => ⟨by rw [hu.out]; exact hS6, hF6.ge hown.out hb5.size, by rw [hu.out]; exact hF6.blk hB6 (hS5.ne_ hB6 (by decide)), hb5.trans (hF6.below hown.out hb5.size)⟩)
            replace hS5 := Lib.hid hS5
            replace hwx := Lib.hid hwx
            replace hsz := Lib.hid hsz
            clear hS hB hbr hB5 hb5 hB6
            go_wp2_with (at_builtin; rw [← hwx.out]; refine wpList_intO wx rfl (.tmp 39) (.tmp 41) rfl _ out n rfl hS5.out (by rw [← hsz.out]; rfl) (by have := hwl.out; omega) hwl.out ?_; intro A5 cap5 w5 hc5 hS6 hF6; have HR := Lib.hid (hA.out A5 cap5 w5 hS6 hF6); clear hS6 hF6)
            go_roundw
            case rel => exact ⟨n + 1, _, hlt, by go_num, rfl, Lib.hid HR.out.1, Lib.hid HR.out.2.1, Lib.hid HR.out.2.2.1, Lib.hid HR.out.2.2.2⟩
            case measure => simp [intOf]; omega
          | false =>
            rw [if_neg (by rw [hb]; simp)] at hu
            replace hb := Lib.hid hb
            go_wp2
            go_roundw
            case rel => exact ⟨n + 1, _, hlt, by go_num, rfl, by rw [hu.out]; exact hS, hown, by rw [hu.out]; exact hB, hbr⟩
            case measure => simp [intOf]; omega
        · have f6 : (x1 == 6) = false := by simpa using h6
          rw [if_neg (fun h => h6 h.1)] at hu
          go_wp2
          go_roundw
          case rel => exact ⟨n + 1, _, hlt, by go_num, rfl, by rw [hu.out]; exact hS, hown, by rw [hu.out]; exact hB, hbr⟩
          case measure => simp [intOf]; omega
    · have hn2 : n = l.length := by omega
      subst hn2
      go_wp2
      go_ret
      exact ⟨hbr.out, _, rfl, hS.out, hown.out⟩
end Go.Proofs.Ytloiadhdkgkjkaa
/- The document's answer for chapter 16: the cells behind each number of commits; lists of lists of words in memory. -/
namespace Go.Proofs.Ytloiadhdkgkjkaa
open Go.RowKit
set_option maxHeartbeats 40000000
set_option linter.unusedVariables false
set_option linter.unusedSimpArgs false
/-- A slice's head: where, how long, how much room. -/
def encW (x : Option Addr × Nat × Nat) : List Value := [.slice x.1 x.2.1 x.2.2]
theorem encW_len (x : Option Addr × Nat × Nat) : (encW x).length = 1 := rfl
theorem encW_one (x : Option Addr × Nat × Nat) : ∀ u ∈ encW x, u.oneCell' = true := by
  intro u hu
  simp only [encW, List.mem_cons, List.not_mem_nil, or_false] at hu
  subst hu
  rfl
def headV (x : Option Addr × Nat × Nat) : Value := .slice x.1 x.2.1 x.2.2
theorem headO_info : (Try.prog.info? 22).map (fun i => (i.zero, i.size, i.bytes)) = some (some (.slice none 0 0), 1, 24) := by kernel_rfl
theorem wpList_headO {ops : Array Oper} {rest : List Oper} {o : Oper} {a : Act} {Q : Exit → Act → World → Prop} (wr : World) (hgd : o.guard = none) (s x : Operand)
    (ho : o.op = .call { callee := .builtin .append, args := #[s, x], argTypes := #[75, 75] })
    (v : Value) (l : List (Option Addr × Nat × Nat)) (y : Option Addr × Nat × Nat) (hs : a.eval s = v) (hl : Sl 22 1 encW wr v l) (hx : a.eval x = .slice (some ⟨wr.heap.size, 0, none⟩) 1 1) (hb1 : l.length + 1 ≤ 9223372036854775807) (hlen : (l.length + 1) * 24 ≤ 140737488355328)
    (h : ∀ A cap w', l.length + 1 ≤ cap → Sl 22 1 encW w' (.slice A (l.length + 1) cap) (l ++ [y]) → Fr (own v) wr (own (.slice A (l.length + 1) cap)) w' → wpList Try.prog ops Q rest (a.put o.dst (.slice A (l.length + 1) cap)) w') :
    wpList Try.prog ops Q (o :: rest) a (wr.alloc (.cells #[.slice y.1 y.2.1 y.2.2] 22)) :=
  wpList_one (enc := encW) encW_len encW_one wr hgd s x 75 ho Try.underlying75 headO_info rfl (by decide) v l y hs hl hx hb1 hlen h
/-- A list of lists of words, each in a block of its own; none of it lies below B. -/
structure StsW (B : Nat) (w : World) (ov : Value) (vs : List (Option Addr × Nat × Nat)) (L : List (List Int)) : Prop where
  sl : Sl 22 1 encW w ov vs
  len : vs.length = L.length
  at_ : ∀ i (hi : i < vs.length), Wl w (headV (vs[i]'hi)) (L.getD i [])
  geo : ∀ q, own ov q → B ≤ q
  gev : ∀ x ∈ vs, ∀ q, own (headV x) q → B ≤ q
theorem StsW.keep {B : Nat} {w w' : World} {ov : Value} {vs : List (Option Addr × Nat × Nat)} {L : List (List Int)} (h : StsW B w ov vs L) (h1 : ∀ q, own ov q → q < w.heap.size → w'.heap[q]? = w.heap[q]?) (h2 : ∀ x ∈ vs, ∀ q, own (headV x) q → q < w.heap.size → w'.heap[q]? = w.heap[q]?) : StsW B w' ov vs L where
  sl := h.sl.keep fun k hk => h1 k hk (h.sl.lt k hk)
  len := h.len
  at_ := fun i hi => (h.at_ i hi).keep fun k hk => h2 _ (List.getElem_mem hi) k hk ((h.at_ i hi).lt k hk)
  geo := h.geo
  gev := h.gev
theorem StsW.below {B : Nat} {w w' : World} {ov : Value} {vs : List (Option Addr × Nat × Nat)} {L : List (List Int)} (h : StsW B w ov vs L) (hb : Below w.heap.size w w') : StsW B w' ov vs L :=
  h.keep (fun q _ hq => hb.block q hq) (fun _ _ q _ hq => hb.block q hq)
theorem StsW.drewN {B : Nat} {w : World} {ov : Value} {vs : List (Option Addr × Nat × Nat)} {L : List (List Int)} (h : StsW B w ov vs L) (n : Nat) : StsW B (w.drewN n) ov vs L := ⟨h.sl, h.len, h.at_, h.geo, h.gev⟩
theorem flat_u64 : ∀ m : List Int, m.flatMap (fun n => [Value.int .u64 n]) = u64s m
  | [] => rfl
  | a :: m => by rw [List.flatMap_cons, flat_u64 m]; rfl
theorem wl_sl {w : World} {v : Value} {m : List Int} (h : Wl w v m) : Sl 35 1 (fun n => [Value.int .u64 n]) w v m := by
  unfold Sl
  rw [flat_u64]
  exact h
theorem StsW.snoc {B : Nat} {w w' : World} {ov ov' : Value} {vs : List (Option Addr × Nat × Nat)} {L : List (List Int)} {x : Option Addr × Nat × Nat} {m : List Int} (h : StsW B w ov vs L) (hw : Wl w (headV x) m) (hx : ∀ q, own (headV x) q → B ≤ q)
    (hS : Sl 22 1 encW w' ov' (vs ++ [x])) (hF : Fr (own ov) w (own ov') w') (hB : B ≤ w.heap.size) : StsW B w' ov' (vs ++ [x]) (L ++ [m]) where
  sl := hS
  len := by rw [List.length_append, List.length_append, h.len]; rfl
  at_ := fun i hi => by
    by_cases hi2 : i < vs.length
    · rw [List.getElem_append_left hi2, List.getD_eq_getElem?_getD, List.getElem?_append_left (by rw [← h.len]; exact hi2), ← List.getD_eq_getElem?_getD]
      refine (h.at_ i hi2).keep fun k hk => hF.block k ((h.at_ i hi2).lt k hk) fun ho => ?_
      obtain ⟨cs, hb⟩ := h.sl.ofBlk ho
      exact absurd hk (Sl.ne_ (e := 35) (show Sl 35 1 (fun n => [Value.int .u64 n]) w _ (L.getD i []) from wl_sl (h.at_ i hi2)) hb (by decide))
    · have e : i = vs.length := by rw [List.length_append] at hi; simp at hi; omega
      subst e
      rw [List.getElem_append_right (Nat.le_refl _)]
      simp only [Nat.sub_self, List.getElem_cons_zero]
      rw [h.len, List.getD_eq_getElem?_getD, List.getElem?_append_right (Nat.le_refl _)]
      simp only [Nat.sub_self, List.getElem?_cons_zero, Option.getD_some]
      refine hw.keep fun k hk => hF.block k (hw.lt k hk) fun ho => ?_
      obtain ⟨cs, hb⟩ := h.sl.ofBlk ho
      exact absurd hk (Sl.ne_ (e := 35) (show Sl 35 1 (fun n => [Value.int .u64 n]) w _ m from wl_sl hw) hb (by decide))
  geo := hF.ge h.geo hB
  gev := fun y hy q hq => by
    rw [List.mem_append, List.mem_singleton] at hy
    rcases hy with hy | hy
    · exact h.gev y hy q hq
    · subst hy; exact hx q hq
/-- 'append([]uint64(nil), m...)'. -/
theorem wpList_wcopy {ops : Array Oper} {rest : List Oper} {o : Oper} {a : Act} {Q : Exit → Act → World → Prop} (wr : World) (hgd : o.guard = none) (s x : Operand)
    (ho : o.op = .call { callee := .builtin .append, args := #[s, x], argTypes := #[22, 22] })
    (u : Value) (m : List Int) (hs : a.eval s = .slice none 0 0) (hx : a.eval x = u) (hm : Lies wr u m) (hlen : m.length * 8 ≤ 140737488355328)
    (h : ∀ A cap w', m.length ≤ cap → Wl w' (.slice A m.length cap) m → Below wr.heap.size wr w' → (∀ q, own (.slice A m.length cap) q → wr.heap.size ≤ q) → wpList Try.prog ops Q rest (a.put o.dst (.slice A m.length cap)) w') :
    wpList Try.prog ops Q (o :: rest) a wr := by
  refine wpList_words wr hgd s x ho (.slice none 0 0) u [] m hs (Wl.nil _) hx hm (by simpa using hlen) ?_
  intro A cap w' h1 h2 h3
  simp only [List.length_nil, Nat.zero_add, List.nil_append] at h1 h2 h3 ⊢
  exact h A cap w' h1 h2 (h3.below (fun q hq => absurd hq (no_own_nil q)) (Nat.le_refl _)) (h3.ge (fun q hq => absurd hq (no_own_nil q)) (Nat.le_refl _))
/-- The Writes of a thread in n events from a place on, laid into the cells. -/
def apF (l : List Ev) (th : Int) (fr : Nat) (now : List Int) : Nat → List Int
  | 0 => now
  | n + 1 => if (evAt l (fr + n)).th = th ∧ (evAt l (fr + n)).kd = 3 then (apF l th fr now n).set (evAt l (fr + n)).ad.toNat (evAt l (fr + n)).wd else apF l th fr now n
theorem apF_len (l : List Ev) (th : Int) (fr : Nat) (now : List Int) : ∀ n, (apF l th fr now n).length = now.length
  | 0 => rfl
  | n + 1 => by
    unfold apF
    split
    · rw [List.length_set]; exact apF_len l th fr now n
    · exact apF_len l th fr now n
def stS (first : List Int) (l : List Ev) (W : List Nat) : Nat → List Int × List (List Int)
  | 0 => (first, [first])
  | j + 1 =>
    let c := W.getD j 0
    let th := (evAt l c).th
    let b := begF l th (c + 1)
    let now := apF l th b (stS first l W j).1 (c - b)
    (now, (stS first l W j).2 ++ [now])
theorem stS_len (first : List Int) (l : List Ev) (W : List Nat) : ∀ j, (stS first l W j).1.length = first.length ∧ (stS first l W j).2.length = j + 1
  | 0 => ⟨rfl, rfl⟩
  | j + 1 => by
    obtain ⟨h1, h2⟩ := stS_len first l W j
    unfold stS
    dsimp only
    exact ⟨by rw [apF_len]; exact h1, by rw [List.length_append, h2]; rfl⟩
theorem begF_le (l : List Ev) (t : Int) : ∀ n, begF l t (n + 1) ≤ n
  | 0 => by unfold begF; split <;> simp [begF]
  | n + 1 => by
    have := begF_le l t n
    unfold begF
    split
    · exact Nat.le_refl _
    · omega
end Go.Proofs.Ytloiadhdkgkjkaa
