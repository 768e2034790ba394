/- The document's world: Put by contract, whatever the event. -/
import Derived.Test.YtloiadhdkgkjkaaEvX
import Derived.Test.YtloiadhdkgkjkaaMixH
import Derived.Deep.DeepCutAuto
import Derived.Test.YtloiadhdkgkjkaaPCl1
import Derived.Test.YtloiadhdkgkjkaaPCl3
namespace Go.Proofs.Ytloiadhdkgkjkaa
open Go.RowKit
set_option maxHeartbeats 4000000
set_option linter.unusedVariables false
set_option linter.unusedSimpArgs false
theorem tb_lock1 {how : Nat} (h : tb how 1 ≠ 0) : how ≠ 2 := by rintro rfl; simp [tb] at h
theorem tb_lock4 {how : Nat} (h : tb how 4 ≠ 0) : how ≠ 2 := by rintro rfl; simp [tb] at h
theorem tb_lock5 {how : Nat} (h : tb how 5 ≠ 0) : how ≠ 2 := by rintro rfl; simp [tb] at h
def PutP (B : Nat) (w : World) (b : Nat) (s : St) (k : Nat) (e : Ev) (x : Ending) (w' : World) : Prop := x = .returned (.int .i64 (wrong s e)) ∧ Below B w w' ∧ (wrong s e = 0 → ∃ wv', RefW B w' b (take s k e) wv')
theorem putP_no {B b k : Nat} {w : World} {s : St} {e : Ev} {c : Int} {w' : World} {x : Ending} (hc : wrong s e = c) (h0 : c ≠ 0) (h : x = .returned (.int .i64 c) ∧ Below B w w') : PutP B w b s k e x w' := ⟨by rw [hc]; exact h.1, h.2, fun e0 => absurd (hc.symm.trans e0) h0⟩
theorem putP_ok {B b k : Nat} {w : World} {s : St} {e : Ev} {w' : World} {x : Ending} (hc : wrong s e = 0) (h : x = .returned (.int .i64 0) ∧ Below B w w' ∧ ∃ wv', RefW B w' b (take s k e) wv') : PutP B w b s k e x w' := ⟨by rw [hc]; exact h.1, h.2.1, fun _ => h.2.2⟩
theorem rput_b {B b k : Nat} {w : World} {s : St} {wv : Nat → Value} (h : RefW B w b s wv) (hI : Inv s k) (hkk : k ≤ 1152921504606846976) (hk16 : (k + 1) * 16 ≤ 140737488355328) (hwl : ∀ t, (s.th t).ws.length ≤ k) (e : Ev) (he : EvWf e) :
    Calls Try.prog 61 #[.pointer (some ⟨b, 0, none⟩), evV e] w (PutP B w b s k e) := by
  obtain ⟨th, kd, ad, wd, ow, er⟩ := e
  by_cases hf : fmd ⟨th, kd, ad, wd, ow, er⟩ = false
  · exact (rput_form h hI he hf).mono fun x w' hp => putP_no (by unfold wrong wrg; rw [if_pos hf]) (by decide) hp
  have hf' : fmd ⟨th, kd, ad, wd, ow, er⟩ = true := by simpa using hf
  obtain ⟨⟨h0, h8⟩, k1, k12⟩ := fmd_bd hf'
  dsimp only at h0 h8 k1 k12
  obtain ⟨t, rfl⟩ := Int.eq_ofNat_of_zero_le h0
  have ht : t < 8 := by omega
  have hW : ∀ c, (if tb (s.th t).how kd = 0 ∨ ((s.th t).how = 0 ∧ kd = 9 ∧ er ≠ 4) then (230 : Int) else if (lockK kd && decide (0 ≤ s.hold)) = true then 231 else if wordOk (s.th t) s.num ⟨t, kd, ad, wd, ow, er⟩ = false then 232 else if ownOk (s.th t) ⟨t, kd, ad, wd, ow, er⟩ = false then 233 else 0) = c → wrong s ⟨t, kd, ad, wd, ow, er⟩ = c := by
    intro c hc
    unfold wrong wrg
    rw [if_neg hf]
    exact hc
  by_cases htb : tb (s.th t).how kd = 0 ∨ ((s.th t).how = 0 ∧ kd = 9 ∧ er ≠ 4)
  · exact (rput_turn h hI ht he hf' (by unfold tnR; dsimp only; rw [if_pos htb])).mono fun x w' hp => putP_no (hW 230 (by rw [if_pos htb])) (by decide) hp
  obtain ⟨nx, hnx⟩ : ∃ nx, tb (s.th t).how kd = nx + 1 := ⟨tb (s.th t).how kd - 1, by have : tb (s.th t).how kd ≠ 0 := fun e => htb (.inl e); omega⟩
  have htn : tnR (s.th t).how ⟨t, kd, ad, wd, ow, er⟩ = (nx : Int) := by unfold tnR; dsimp only; rw [if_neg htb, hnx]; omega
  have hne : tb (s.th t).how kd ≠ 0 := by omega
  by_cases hlk : (lockK kd && decide (0 ≤ s.hold)) = true
  · have hL := hlk
    rw [Bool.and_eq_true, decide_eq_true_eq] at hL
    have hkd : kd = 1 ∨ kd = 4 ∨ kd = 5 := by
      have := hL.1
      unfold lockK at this
      simpa [or_assoc] using this
    have hW1 := hW 231 (by rw [if_neg htb, if_pos hlk])
    rcases hkd with rfl | rfl | rfl
    · exact (rput_lock1 h hI ht he hf' htn (by rw [lkR_hold hI ht (tb_lock1 hne)]; exact decide_eq_true hL.2)).mono fun x w' hp => putP_no hW1 (by decide) hp
    · exact (rput_lock4 h hI ht he hf' htn (by rw [lkR_hold hI ht (tb_lock4 hne)]; exact decide_eq_true hL.2)).mono fun x w' hp => putP_no hW1 (by decide) hp
    · exact (rput_lock5 h hI ht he hf' htn (by rw [lkR_hold hI ht (tb_lock5 hne)]; exact decide_eq_true hL.2)).mono fun x w' hp => putP_no hW1 (by decide) hp
  have hl1 : kd = 1 → lkR s (t : Int) = false := fun e => by subst e; rw [lkR_hold hI ht (tb_lock1 hne)]; simpa [lockK] using hlk
  have hl4 : kd = 4 → lkR s (t : Int) = false := fun e => by subst e; rw [lkR_hold hI ht (tb_lock4 hne)]; simpa [lockK] using hlk
  have hl5 : kd = 5 → lkR s (t : Int) = false := fun e => by subst e; rw [lkR_hold hI ht (tb_lock5 hne)]; simpa [lockK] using hlk
  have f1 : ¬ kd = 1 → (kd == 1) = false := fun h => by simpa using h
  have f3 : ¬ kd = 3 → (kd == 3) = false := fun h => by simpa using h
  have f4 : ¬ kd = 4 → (kd == 4) = false := fun h => by simpa using h
  have f5 : ¬ kd = 5 → (kd == 5) = false := fun h => by simpa using h
  have f6 : ¬ kd = 6 → (kd == 6) = false := fun h => by simpa using h
  by_cases hnm : wordOk (s.th t) s.num ⟨t, kd, ad, wd, ow, er⟩ = false
  · have hW1 := hW 232 (by rw [if_neg htb, if_neg hlk, if_pos hnm])
    by_cases c1 : kd = 1
    · subst c1; exact (rput_num1 h hI hkk hk16 hwl ht he hf' htn (hl1 rfl) hnm).mono fun x w' hp => putP_no hW1 (by decide) hp
    by_cases c4 : kd = 4
    · subst c4; exact (rput_num4 h hI hkk hk16 hwl ht he hf' htn (hl4 rfl) hnm).mono fun x w' hp => putP_no hW1 (by decide) hp
    by_cases c5 : kd = 5
    · subst c5; exact (rput_num5 h hI hkk hk16 hwl ht he hf' htn (hl5 rfl) hnm).mono fun x w' hp => putP_no hW1 (by decide) hp
    exact (rput_num h hI hkk hk16 hwl ht he (f1 c1) (f4 c4) (f5 c5) hf' htn hnm).mono fun x w' hp => putP_no hW1 (by decide) hp
  have hnm' : wordOk (s.th t) s.num ⟨t, kd, ad, wd, ow, er⟩ = true := by simpa using hnm
  by_cases how : ownOk (s.th t) ⟨t, kd, ad, wd, ow, er⟩ = false
  · have hW1 := hW 233 (by rw [if_neg htb, if_neg hlk, if_neg hnm, if_pos how])
    by_cases c1 : kd = 1
    · subst c1; simp [ownOk] at how
    by_cases c4 : kd = 4
    · subst c4; simp [ownOk] at how
    by_cases c5 : kd = 5
    · subst c5; exact (rput_own5 h hI hkk hk16 hwl ht he hf' htn (hl5 rfl) hnm' how).mono fun x w' hp => putP_no hW1 (by decide) hp
    exact (rput_own h hI hkk hk16 hwl ht he (f1 c1) (f4 c4) (f5 c5) hf' htn hnm' how).mono fun x w' hp => putP_no hW1 (by decide) hp
  have how' : ownOk (s.th t) ⟨t, kd, ad, wd, ow, er⟩ = true := by simpa using how
  have hW1 := hW 0 (by rw [if_neg htb, if_neg hlk, if_neg hnm, if_neg how])
  by_cases c1 : kd = 1
  · subst c1; exact (rput_ok1 h hI hkk hk16 hwl ht he hf' htn (hl1 rfl) hnm' how' hnx).mono fun x w' hp => putP_ok hW1 hp
  by_cases c4 : kd = 4
  · subst c4; exact (rput_ok4 h hI hkk hk16 hwl ht he hf' htn (hl4 rfl) hnm' how' hnx).mono fun x w' hp => putP_ok hW1 hp
  by_cases c5 : kd = 5
  · subst c5; exact (rput_ok5 h hI hkk hk16 hwl ht he hf' htn (hl5 rfl) hnm' how' hnx).mono fun x w' hp => putP_ok hW1 hp
  by_cases c6 : kd = 6
  · subst c6
    by_cases h2 : (s.th t).how = 2
    · exact (rput_ok6a h hI hkk hk16 hwl ht he hf' htn hnm' how' hnx h2).mono fun x w' hp => putP_ok hW1 hp
    · exact (rput_ok6b h hI hkk hk16 hwl ht he hf' htn hnm' how' hnx h2).mono fun x w' hp => putP_ok hW1 hp
  by_cases c3 : kd = 3
  · subst c3; exact (rput_ok3 h hI hkk hk16 hwl ht he hf' htn hnm' how' hnx).mono fun x w' hp => putP_ok hW1 hp
  exact (rput_oko h hI hkk hk16 hwl ht he (f1 c1) (f4 c4) (f5 c5) (f3 c3) (f6 c6) hf' htn hnm' how' hnx).mono fun x w' hp => putP_ok hW1 hp
end Go.Proofs.Ytloiadhdkgkjkaa
/- The document's Check of a history by contract. -/
namespace Go.Proofs.Ytloiadhdkgkjkaa
open Go.RowKit
set_option maxHeartbeats 40000000
set_option linter.unusedVariables false
set_option linter.unusedSimpArgs false
theorem ref_zero : ofF 25 (gR St.zero (fun _ => .slice none 0 0)) = #[.int .i64 0, .int .u64 0, .slice none 0 0, .int .i64 0, .int .u64 0, .slice none 0 0, .int .i64 0, .int .u64 0, .slice none 0 0, .int .i64 0, .int .u64 0, .slice none 0 0, .int .i64 0, .int .u64 0, .slice none 0 0, .int .i64 0, .int .u64 0, .slice none 0 0, .int .i64 0, .int .u64 0, .slice none 0 0, .int .i64 0, .int .u64 0, .slice none 0 0, .int .u64 0] := rfl
set_option maxRecDepth 100000 in
theorem rcheck_b {w : World} {A : Option Addr} {cp : Nat} {l : List Ev} (hL : LiesV w (.slice A l.length cp) l) (hwf : ∀ e ∈ l, EvWf e) (hsz : l.length * 48 + 480 ≤ 140737488355328) :
    Calls Try.prog 53 #[.slice A l.length cp] w fun x w' => x = .returned (.agg #[.int .i64 (odd l).1, .int .i64 (odd l).2]) ∧ Below w.heap.size w w' := by
  have hlen : (l.length : Int) ≤ 9223372036854775807 := by omega
  obtain ⟨w1, hw1⟩ : ∃ w1, w1 = w.alloc (.cells #[.int .i64 0, .int .i64 0] 28) := ⟨_, rfl⟩
  have hO1 : Blk w1 w.heap.size 28 #[.int .i64 0, .int .i64 0] := by rw [hw1]; exact Blk.new _ _ _
  have hb1 : Below w.heap.size w w1 := by rw [hw1]; exact (Below.refl _ _).alloc (Nat.le_refl _) _
  have hR2 := Blk.new w1 131 (ofF 25 (gR St.zero (fun _ => .slice none 0 0)))
  have hO2 := Lib.hid (hO1.alloc (.cells (ofF 25 (gR St.zero (fun _ => .slice none 0 0))) 131))
  have hb2 := Lib.hid (hb1.alloc hb1.size (.cells (ofF 25 (gR St.zero (fun _ => .slice none 0 0))) 131))
  have hRW := Lib.hid (RefW.mk (B := w1.heap.size) (s := St.zero) hR2 (fun t ht => Sl.nil _) (fun t t' _ _ _ k hk => by simp [own, Value.ownBlock] at hk) (Nat.le_refl _) (fun t _ k hk => by simp [own, Value.ownBlock] at hk))
  rw [ref_zero] at hO2 hb2 hRW
  have z1 : w1.heap.size = w.heap.size + 1 := by rw [hw1]; simp
  rw [z1] at hRW
  have hs1 : w.heap.size ≤ w.heap.size + 1 := Nat.le_succ _
  have hlt1 : w.heap.size < w.heap.size + 1 := Nat.lt_succ_self _
  replace z1 := Lib.hid z1
  clear hO1 hb1 hR2
  replace hw1 := Lib.hid hw1
  replace hL := Lib.hid hL
  go_enter Try.func53, Try.ntmps53
  go_wp2
  rw [← hw1.out]
  go_loopw [4] (fun i wr => ∃ (k : Nat) (wv : Nat → Value), k ≤ l.length ∧ i = .int .i64 k ∧ Hid (okTo l k) ∧ Hid (RefW (w.heap.size + 1) wr (w.heap.size + 1) (rn l k) wv) ∧ Hid (Below w.heap.size w wr) ∧ Hid (Blk wr w.heap.size 28 #[.int .i64 0, .int .i64 0])) (fun i _ => l.length - (intOf i).toNat)
  case atStart => exact ⟨0, _, Nat.zero_le _, rfl, Lib.hid fun j hj => by omega, hRW, hb2, hO2⟩
  case round =>
    obtain ⟨k, wv, hk, rfl, hok, hR, hbl, hO⟩ := hrel
    clear hO2 hb2 hRW
    by_cases hlt : k < l.length
    · obtain ⟨A', cp', eA, hcp, hA0, -, hl48, hcl⟩ := hL.out.below hbl.out (Nat.le_refl _)
      injection eA with e1 e2 e3
      subst e1 e3
      have hewf := hwf _ (List.getElem_mem hlt)
      have hev : Hid (evAt l k = l[k]) := Lib.hid (by unfold evAt; rw [List.getD_eq_getElem?_getD, List.getElem?_eq_getElem hlt]; rfl)
      have hinv := inv_rn hwf hk hok.out
      obtain ⟨g, o, rfl, hg, hc⟩ := hcl k hlt
      generalize hee : l[k] = e at *
      have d0 := hc 0 (by decide)
      have d1 := hc 1 (by decide)
      have d2 := hc 2 (by decide)
      have d3 := hc 3 (by decide)
      have d4 := hc 4 (by decide)
      have d5 := hc 5 (by decide)
      have CP := Lib.hid (rput_b hR.out hinv (by omega) (by omega) (rn_ws_len l k) e hewf)
      unfold PutP at CP
      obtain ⟨th, kd, ad, wd, ow, er⟩ := e
      unfold evV at CP
      simp only [encV, List.getElem?_cons_zero, List.getElem?_cons_succ, Nat.add_zero] at d0 d1 d2 d3 d4 d5
      dsimp only at CP
      have hlt' : (k : Int) < (l.length : Int) := by omega
      have hbs := hbl.out.size
      clear hcl hc hinv hewf hl48 hR e2 hcp hA0 hg
      replace hee := Lib.hid hee
      generalize hx : wrong (rn l k) ⟨th, kd, ad, wd, ow, er⟩ = x at *
      replace hx := Lib.hid hx
      have hxc : ((x != 0) = false ∧ x = 0) ∨ ((x != 0) = true ∧ x ≠ 0) := by
        by_cases h : x = 0
        · exact .inl ⟨by simp [h], h⟩
        · exact .inr ⟨by simp [h], h⟩
      rcases hxc with ⟨hx1, hx2⟩ | ⟨hx1, hx2⟩
      · replace hx2 := Lib.hid hx2
        go_wp2_with fail
        refine CP.out.mono ?_
        rintro _ w3 ⟨rfl, hb3, hr3⟩
        obtain ⟨wv3, hR3⟩ := hr3 hx2.out
        have hO3 := Lib.hid (hO.out.below hb3 hlt1)
        have hbl3 := Lib.hid (hbl.out.trans (hb3.mono hs1))
        have hR4 : Hid (RefW (w.heap.size + 1) w3 (w.heap.size + 1) (rn l (k + 1)) wv3) := Lib.hid (by show RefW _ _ _ (take (rn l k) k (evAt l k)) _; rw [hev.out]; exact hR3)
        clear hb3 hr3 hO hbl CP hR3
        go_wp2_with fail
        go_roundw
        case rel => exact ⟨k + 1, wv3, hlt, by go_num, Lib.hid (hok.out.succ (by rw [hev.out, hx.out]; exact hx2.out)), hR4, hbl3, hO3⟩
        case measure => simp [intOf]; omega
      · go_wp2_with fail
        refine CP.out.mono ?_
        rintro _ w3 ⟨rfl, hb3, hr3⟩
        have hO3 := hO.out.below hb3 hlt1
        have hbl3 := Lib.hid (hbl.out.trans (hb3.mono hs1))
        have c0 := hO3.cell 0
        have c1 := hO3.cell 1
        have f0 := hO3.frozen 0
        have f1 := hO3.frozen 1
        simp only [List.getElem?_toArray, List.getElem?_cons_zero, List.getElem?_cons_succ] at c0 c1
        clear hb3 hr3 hO hbl CP hO3
        go_wp2
        refine bodyPost_ret (v := .agg #[.int .i64 k, .int .i64 x]) (by simp [results, Try.results53, go_sem, c0, c1, f0, f1]) rfl ⟨?_, (hbl3.out.setCell (Nat.le_refl _) _).setCell (Nat.le_refl _) _⟩
        have e := odd_bad hok.out hlt (by rw [hev.out, hx.out]; exact hx2)
        rw [hev.out, hx.out] at e
        rw [e]
    · have hkk : k = l.length := by omega
      subst hkk
      have c0 := hO.out.cell 0
      have c1 := hO.out.cell 1
      have f0 := hO.out.frozen 0
      have f1 := hO.out.frozen 1
      simp only [List.getElem?_toArray, List.getElem?_cons_zero, List.getElem?_cons_succ] at c0 c1
      go_wp2
      refine bodyPost_ret (v := .agg #[.int .i64 (-1), .int .i64 0]) (by simp [results, Try.results53, go_sem, c0, c1, f0, f1]) rfl ⟨by rw [odd_ok hok.out], (hbl.out.setCell (Nat.le_refl _) _).setCell (Nat.le_refl _) _⟩
end Go.Proofs.Ytloiadhdkgkjkaa
/- opaque, plain: what else holds of what is gathered; what each attempt has seen. -/
namespace Go.Proofs.Ytloiadhdkgkjkaa
set_option maxHeartbeats 1000000
set_option linter.unusedVariables false
set_option linter.unusedSimpArgs false
theorem head_put {l : List (Nat × Int)} {n : Nat} (x : Int) (hne : l ≠ []) (hz : (l.getD 0 (0, 0)).1 = 0) (hn : 0 < n) : ((cutL l n ++ [(n, x)]).getD 0 (0, 0)).1 = 0 := by
  cases l with
  | nil => exact absurd rfl hne
  | cons p l' =>
    simp at hz
    unfold cutL
    cases l' with
    | nil =>
      rw [if_neg (by simp [hz]; omega)]
      simpa using hz
    | cons q l'' =>
      split
      · simpa using hz
      · simpa using hz
theorem put_ne (l : List (Nat × Int)) (n : Nat) (x : Int) : cutL l n ++ [(n, x)] ≠ [] := by simp
theorem putAll_head {n size : Nat} (hn : 0 < n) : ∀ {ws : List (Int × Int)} {c : Nat → List (Nat × Int)}, (∀ a, a < size → c a ≠ [] ∧ ((c a).getD 0 (0, 0)).1 = 0) → ∀ a, a < size → putAll c n ws a ≠ [] ∧ ((putAll c n ws a).getD 0 (0, 0)).1 = 0
  | [], c, h => h
  | p :: ws, c, h => putAll_head hn (ws := ws) (c := putC c n p) fun a ha => by
    unfold putC
    split
    · exact ⟨put_ne _ _ _, head_put _ (h a ha).1 (h a ha).2 hn⟩
    · exact h a ha
structure VJ (v : Vw) (size : Nat) : Prop where
  z : ∀ a, a < size → v.cells a ≠ [] ∧ ((v.cells a).getD 0 (0, 0)).1 = 0
  rd : ∀ x ∈ v.sights, ∀ p ∈ x.reads, 0 ≤ p.1 ∧ p.1 < (size : Int)
  up : ∀ x ∈ v.sights, x.fr ≤ v.commits ∧ x.upto ≤ v.commits
theorem VJ.start (first : List Int) (size : Nat) : VJ (vw0 first) size := ⟨fun a ha => by simp [vw0], fun x hx => by simp [vw0] at hx, fun x hx => by simp [vw0] at hx⟩
theorem sg_zero_or {l : List Sg} (q : Nat) : l.getD q Sg.zero = Sg.zero ∨ l.getD q Sg.zero ∈ l := by
  rw [List.getD_eq_getElem?_getD]
  cases h : l[q]? with
  | none => exact .inl rfl
  | some y => exact .inr (List.mem_of_getElem? h)
theorem VJ.ev {v : Vw} {size : Nat} {e : Ev} {T : List Tr} (h : VJ v size) (hf : farE size e = false) (h0 : 0 ≤ e.ad) : VJ (vEv T v e) size := by
  unfold vEv
  dsimp only
  split
  · refine ⟨h.z, fun x hx => ?_, fun x hx => ?_⟩
    · rcases List.mem_append.1 hx with hx | hx
      · exact h.rd x hx
      · rw [List.mem_singleton] at hx; subst hx; simp
    · rcases List.mem_append.1 hx with hx | hx
      · exact h.up x hx
      · rw [List.mem_singleton] at hx; subst hx; exact ⟨Nat.le_refl _, Nat.zero_le _⟩
  split
  · rename_i h2
    split
    · exact h
    · refine ⟨h.z, fun x hx => ?_, fun x hx => ?_⟩
      · rcases List.mem_or_eq_of_mem_set hx with hx | hx
        · exact h.rd x hx
        · subst hx
          intro p hp
          dsimp only at hp
          rcases List.mem_append.1 hp with hp | hp
          · rcases sg_zero_or (l := v.sights) (v.now e.th.toNat).tri with hz | hz
            · rw [hz] at hp; simp [Sg.zero] at hp
            · exact h.rd _ hz p hp
          · rw [List.mem_singleton] at hp
            subst hp
            unfold farE at hf
            rw [h2] at hf
            simp at hf
            exact ⟨h0, hf⟩
      · rcases List.mem_or_eq_of_mem_set hx with hx | hx
        · exact h.up x hx
        · subst hx
          rcases sg_zero_or (l := v.sights) (v.now e.th.toNat).tri with hz | hz
          · rw [hz]; exact ⟨Nat.zero_le _, Nat.zero_le _⟩
          · exact (show _ ∧ _ from h.up (v.sights.getD (v.now e.th.toNat).tri Sg.zero) hz)
  split
  · exact ⟨h.z, h.rd, h.up⟩
  split
  · exact ⟨h.z, h.rd, h.up⟩
  split
  · exact ⟨putAll_head (Nat.succ_pos _) h.z, h.rd, fun x hx => ⟨Nat.le_succ_of_le (h.up x hx).1, Nat.le_succ_of_le (h.up x hx).2⟩⟩
  · exact h
theorem VJ.tail {v : Vw} {size : Nat} (h : VJ v size) (i : Nat) (e : Ev) : VJ (vTl v i e) size := by
  unfold vTl
  dsimp only
  split
  · refine ⟨h.z, fun x hx => ?_, fun x hx => ?_⟩
    · rcases List.mem_or_eq_of_mem_set hx with hx | hx
      · exact h.rd x hx
      · subst hx
        rcases sg_zero_or (l := v.sights) (v.now e.th.toNat).tri with hz | hz
        · rw [hz]; simp [Sg.zero]
        · exact h.rd (v.sights.getD (v.now e.th.toNat).tri Sg.zero) hz
    · rcases List.mem_or_eq_of_mem_set hx with hx | hx
      · exact h.up x hx
      · subst hx
        rcases sg_zero_or (l := v.sights) (v.now e.th.toNat).tri with hz | hz
        · rw [hz]; exact ⟨Nat.zero_le _, Nat.le_refl _⟩
        · exact ⟨(h.up _ hz).1, Nat.le_refl _⟩
  · exact h
theorem VJ.vn {first : List Int} {T : List Tr} {l : List Ev} (hl : ∀ e ∈ l, EvWf e) (hf : idxE (farE first.length) l < 0) : ∀ {k : Nat}, k ≤ l.length → VJ (vn first T l k) first.length
  | 0, _ => VJ.start _ _
  | k + 1, hk => by
    have hk' : k < l.length := by omega
    have he : evAt l k = l[k] := by unfold evAt; rw [List.getD_eq_getElem?_getD, List.getElem?_eq_getElem hk']; rfl
    refine VJ.tail (VJ.ev (VJ.vn hl hf (by omega)) ?_ ?_) _ _
    · rw [he]; exact idxE_neg hf hk'
    · rw [he]; exact (hl _ (List.getElem_mem hk')).2.2.1.1
theorem cellsOk {v : Vw} {s : St} {k size : Nat} (h : VI v s k size) (hj : VJ v size) (hk : k ≤ 9223372036854775000) : CellsOk v.cells size :=
  ⟨fun a ha => (hj.z a ha).1, fun a ha => (hj.z a ha).2, fun a ha => by have := (h.inc a ha).len; have := h.cm; omega⟩
/-- Where, from n - 1 down to fr, words stood together; -1: nowhere. -/
def seekS (cells : Nat → List (Nat × Int)) (reads : List (Int × Int)) (fr : Nat) : Nat → Int
  | 0 => -1
  | n + 1 => if n < fr then -1 else if stoodW cells n reads = true then (n : Int) else seekS cells reads fr n
/-- What an attempt has seen: where. -/
def atOf (cells : Nat → List (Nat × Int)) (s : Sg) : Int := seekS cells s.reads s.fr (s.upto + 1)
def encG (x : Sg × Int) : List Value := [.int .i64 x.1.tr.th, .int .i64 x.1.tr.first, .int .i64 x.1.tr.last, .int .u64 x.1.tr.sn, .int .i64 x.1.tr.how, .int .i64 x.1.tr.rd, .int .i64 x.1.tr.wr, .int .i64 x.1.fr, .int .i64 x.1.upto, .int .i64 x.2]
theorem encG_len (x : Sg × Int) : (encG x).length = 10 := rfl
theorem encG_one (x : Sg × Int) : ∀ u ∈ encG x, u.oneCell' = true := by
  intro u hu
  simp only [encG, List.mem_cons, List.not_mem_nil, or_false] at hu
  rcases hu with rfl | rfl | rfl | rfl | rfl | rfl | rfl | rfl | rfl | rfl <;> rfl
def sightsOf (v : Vw) : List (Sg × Int) := v.sights.map fun s => (s, atOf v.cells s)
end Go.Proofs.Ytloiadhdkgkjkaa
/- opaque: what see answers. -/
namespace Go.Proofs.Ytloiadhdkgkjkaa
open Go.RowKit
/-- What see answers. -/
def SeeP (w : World) (first : List Int) (l : List Ev) (x : Ending) (w' : World) : Prop :=
  Below w.heap.size w w' ∧ (((seeOdd first.length l).2 ≠ 0 ∧ x = .returned (.tuple #[.pointer none, .agg #[.int .i64 (seeOdd first.length l).1, .int .i64 (seeOdd first.length l).2]])) ∨
    (seeOdd first.length l = (-1, 0) ∧ okTo l l.length ∧ ∃ B vb nb mb fv cv sv, w.heap.size ≤ B ∧ x = .returned (.tuple #[.pointer (some ⟨vb, 0, none⟩), .agg #[.int .i64 (-1), .int .i64 0]]) ∧ VwW B w' vb nb mb (vn first (rn l l.length).tries l l.length) first.length fv cv sv ∧ VI (vn first (rn l l.length).tries l l.length) (rn l l.length) l.length first.length))
end Go.Proofs.Ytloiadhdkgkjkaa
/- opaque, plain: what holds at the end of a history that see does not refuse. -/
namespace Go.Proofs.Ytloiadhdkgkjkaa
set_option maxHeartbeats 1000000
set_option linter.unusedVariables false
set_option linter.unusedSimpArgs false
theorem seeOdd_ok {n : Nat} {l : List Ev} (h : seeOdd n l = (-1, 0)) : (n ≠ 0 ∧ n ≤ 65536) ∧ (odd l).2 = 0 ∧ idxE plainE l < 0 ∧ idxE (farE n) l < 0 := by
  unfold seeOdd at h
  split at h
  · simp at h
  · rename_i h0
    split at h
    · rename_i h1
      rw [h] at h1
      simp at h1
    · rename_i h1
      split at h
      · simp at h
      · rename_i h2
        split at h
        · simp at h
        · rename_i h3
          exact ⟨by omega, by simpa using h1, by omega, by omega⟩
theorem VI.vn {first : List Int} {T : List Tr} {l : List Ev} (hl : ∀ e ∈ l, EvWf e) (hok : okTo l l.length) (hp : idxE plainE l < 0) (hf : idxE (farE first.length) l < 0) : ∀ {k : Nat}, k ≤ l.length → VI (vn first T l k) (rn l k) k first.length
  | 0, _ => VI.start _ _
  | k + 1, hk => by
    have hk' : k < l.length := by omega
    have he : evAt l k = l[k] := by unfold evAt; rw [List.getD_eq_getElem?_getD, List.getElem?_eq_getElem hk']; rfl
    have hI := inv_rn hl (show k ≤ l.length by omega) (fun j hj => hok j (by omega))
    refine VI.tail (VI.ev (VI.vn hl hok hp hf (by omega)) (hok k hk') hI ?_ ?_ ?_) _ _
    · rw [he]; exact idxE_neg hp hk'
    · rw [he]; exact idxE_neg hf hk'
    · rw [he]; exact hl _ (List.getElem_mem hk')
theorem sights_bound {first : List Int} {T : List Tr} {l : List Ev} (hl : ∀ e ∈ l, EvWf e) (hok : okTo l l.length) (hp : idxE plainE l < 0) (hf : idxE (farE first.length) l < 0) (hsz : l.length * 48 + 480 ≤ 140737488355328) : ((vn first T l l.length).sights.length + 1) * 96 ≤ 140737488355328 := by
  have hV := VI.vn (T := T) hl hok hp hf (Nat.le_refl _)
  have h1 := (inv_rn hl (Nat.le_refl _) (fun j hj => hok j hj)).two
  have h2 := lives_le (rn l l.length)
  rw [hV.sl, hV.nx]
  omega
end Go.Proofs.Ytloiadhdkgkjkaa
/- slices.IndexFunc over sights, by contract. -/
namespace Go.Proofs.Ytloiadhdkgkjkaa
open Go.RowKit
set_option maxHeartbeats 4000000
set_option linter.unusedVariables false
set_option linter.unusedSimpArgs false
def idxG (l : List (Sg × Int)) : Int := match l.findIdx? (fun x => decide (x.2 < 0)) with | some i => (i : Int) | none => -1
theorem idxG_some {l : List (Sg × Int)} {i : Nat} (hi : i < l.length) (h1 : decide ((l[i]'hi).2 < 0) = true) (h0 : ∀ j (hj : j < i), decide ((l[j]'(Nat.lt_trans hj hi)).2 < 0) = false) : idxG l = i := by
  unfold idxG
  have : l.findIdx? (fun x => decide (x.2 < 0)) = some i := List.findIdx?_eq_some_iff_getElem.2 ⟨hi, h1, fun j hj => by simpa using h0 j hj⟩
  rw [this]
theorem idxG_none {l : List (Sg × Int)} (h : ∀ j (hj : j < l.length), decide ((l[j]'hj).2 < 0) = false) : idxG l = -1 := by
  unfold idxG
  have : l.findIdx? (fun x => decide (x.2 < 0)) = none := List.findIdx?_eq_none_iff.2 fun x hx => by
    obtain ⟨j, hj, rfl⟩ := List.mem_iff_getElem.1 hx
    simpa using h j hj
  rw [this]
def sV (x : Sg × Int) : Value := .agg #[.int .i64 x.1.tr.th, .int .i64 x.1.tr.first, .int .i64 x.1.tr.last, .int .u64 x.1.tr.sn, .int .i64 x.1.tr.how, .int .i64 x.1.tr.rd, .int .i64 x.1.tr.wr, .int .i64 x.1.fr, .int .i64 x.1.upto, .int .i64 x.2]
set_option maxRecDepth 100000 in
theorem check1_b (x : Sg × Int) (w : World) : Calls Try.prog 29 #[sV x] w fun y w' => y = .returned (.bool (decide (x.2 < 0))) ∧ Below w.heap.size w w' := by
  obtain ⟨⟨⟨th, fi, la, sn, how, rd, wr⟩, rds, fr, up⟩, at0⟩ := x
  have hbel := Lib.hid ((Below.refl w.heap.size w).alloc (Nat.le_refl _) (.cells #[.int .i64 th, .int .i64 fi, .int .i64 la, .int .u64 sn, .int .i64 how, .int .i64 rd, .int .i64 wr, .int .i64 fr, .int .i64 up, .int .i64 at0] 40))
  unfold sV
  dsimp only
  go_enter Try.func29, Try.ntmps29
  go_wp2
  all_goals go_ret
  all_goals exact ⟨rfl, hbel.out⟩
set_option maxRecDepth 100000 in
theorem indexG_b {w : World} {v : Value} {l : List (Sg × Int)} (hL : Sl 40 10 encG w v l) (hll : l.length ≤ 9223372036854775807) :
    Calls Try.prog 28 #[v, .func (.func 29) #[] #[]] w fun x w' => x = .returned (.int .i64 (idxG l)) ∧ Below w.heap.size w w' := by
  obtain ⟨A, cp, rfl, hcp⟩ := hL.shape
  have hlen : (l.length : Int) ≤ 9223372036854775807 := by omega
  replace hL := Lib.hid hL
  replace hll := Lib.hid hll
  go_enter Try.func28, Try.ntmps28
  go_wp2_with fail
  go_loopw [8] (fun i wr => ∃ k : Nat, k ≤ l.length ∧ i = .int .i64 k ∧ Hid (∀ j (hj : j < k) (hj2 : j < l.length), decide ((l[j]'hj2).2 < 0) = false) ∧ Hid (Below w.heap.size w wr)) (fun i _ => l.length - (intOf i).toNat)
  case atStart => exact ⟨0, Nat.zero_le _, rfl, Lib.hid fun j hj => by omega, Lib.hid (Below.refl _ _)⟩
  case round =>
    obtain ⟨k, hk, rfl, hno, hbl⟩ := hrel
    by_cases hlt : k < l.length
    · have hS := hL.out.keep (w' := wr) fun q hq => hbl.out.block q (hL.out.lt q hq)
      obtain ⟨g, o, hA, hg, hc⟩ := Sl.cell encG_len (by decide) hS (i := k) hlt
      subst hA
      have HC := Lib.hid (check1_b (l[k]'hlt) wr)
      have hnk := Lib.hid (fun (h1 : decide ((l[k]'hlt).2 < 0) = true) => idxG_some hlt h1 (fun j hj => hno.out j hj (Nat.lt_trans hj hlt)))
      have hno' := Lib.hid (fun (h1 : decide ((l[k]'hlt).2 < 0) = false) j (hj : j < k + 1) (hj2 : j < l.length) => show decide ((l[j]'hj2).2 < 0) = false from by
        by_cases e : j = k
        · subst e; exact h1
        · exact hno.out j (by omega) hj2)
      have d0 := (hc k hlt 0 (by decide)).1.trans (show _ = some (.int .i64 (l[k]'hlt).1.tr.th) from rfl)
      have d1 := (hc k hlt 1 (by decide)).1.trans (show _ = some (.int .i64 ((l[k]'hlt).1.tr.first : Nat)) from rfl)
      have d2 := (hc k hlt 2 (by decide)).1.trans (show _ = some (.int .i64 ((l[k]'hlt).1.tr.last : Nat)) from rfl)
      have d3 := (hc k hlt 3 (by decide)).1.trans (show _ = some (.int .u64 (l[k]'hlt).1.tr.sn) from rfl)
      have d4 := (hc k hlt 4 (by decide)).1.trans (show _ = some (.int .i64 (l[k]'hlt).1.tr.how) from rfl)
      have d5 := (hc k hlt 5 (by decide)).1.trans (show _ = some (.int .i64 ((l[k]'hlt).1.tr.rd : Nat)) from rfl)
      have d6 := (hc k hlt 6 (by decide)).1.trans (show _ = some (.int .i64 ((l[k]'hlt).1.tr.wr : Nat)) from rfl)
      have d7 := (hc k hlt 7 (by decide)).1.trans (show _ = some (.int .i64 ((l[k]'hlt).1.fr : Nat)) from rfl)
      have d8 := (hc k hlt 8 (by decide)).1.trans (show _ = some (.int .i64 ((l[k]'hlt).1.upto : Nat)) from rfl)
      have d9 := (hc k hlt 9 (by decide)).1.trans (show _ = some (.int .i64 (l[k]'hlt).2) from rfl)
      simp only [Nat.add_zero, ← Nat.add_assoc] at d0 d1 d2 d3 d4 d5 d6 d7 d8 d9
      generalize l[k]'hlt = e at *
      obtain ⟨⟨⟨th, fi, la, sn, how, rd, wrt⟩, rds, fr, up⟩, at0⟩ := e
      unfold sV at HC
      dsimp only at HC d0 d1 d2 d3 d4 d5 d6 d7 d8 d9
      have hlt' : (k : Int) < (l.length : Int) := by omega
      clear hc hS hg
      obtain ⟨r, hr⟩ : ∃ r, r = decide (at0 < 0) := ⟨_, rfl⟩
      dsimp only at hnk hno'
      rw [← hr] at HC hnk hno'
      replace hr := Lib.hid hr
      go_wp2_with fail
      refine HC.out.mono ?_
      rintro _ w3 ⟨rfl, hb3⟩
      have hbl3 := Lib.hid (hbl.out.trans (hb3.mono hbl.out.size))
      clear hb3 HC
      cases r
      · go_wp2
        go_roundw
        case rel => exact ⟨k + 1, hlt, by go_num, Lib.hid (hno'.out (by trivial)), hbl3⟩
        case measure => simp [intOf]; omega
      · go_wp2
        go_ret
        exact ⟨ret_int (hnk.out (by trivial)).symm, hbl3.out⟩
    · go_wp2
      go_ret
      exact ⟨ret_int (idxG_none fun j hj => hno.out j (by omega) hj).symm, hbl.out⟩
end Go.Proofs.Ytloiadhdkgkjkaa
/- opaque.Check by contract, behind Sights'. -/
namespace Go.Proofs.Ytloiadhdkgkjkaa
open Go.RowKit
set_option maxHeartbeats 4000000
set_option linter.unusedVariables false
set_option linter.unusedSimpArgs false
/-- What Sights answers. -/
def SigP (w : World) (o : Int × Int) (L : List (Sg × Int)) (x : Ending) (w' : World) : Prop :=
  Below w.heap.size w w' ∧ ((o.2 ≠ 0 ∧ x = .returned (.tuple #[.slice none 0 0, .agg #[.int .i64 o.1, .int .i64 o.2]])) ∨
    (o = (-1, 0) ∧ ∃ ov, x = .returned (.tuple #[ov, .agg #[.int .i64 (-1), .int .i64 0]]) ∧ Sl 40 10 encG w' ov L ∧ ∀ q, own ov q → w.heap.size ≤ q))
set_option maxRecDepth 100000 in
theorem check_b {w : World} {Fv Hv : Value} {o : Int × Int} {L : List (Sg × Int)} (SIG : ∀ W, Below w.heap.size w W → Calls Try.prog 8 #[Fv, Hv] W (SigP W o L)) (hll : L.length ≤ 9223372036854775807) :
    Calls Try.prog 9 #[Fv, Hv] w fun x w' => x = .returned (.tuple #[.int .i64 (if o.2 ≠ 0 then 0 else idxG L), .agg #[.int .i64 o.1, .int .i64 o.2]]) ∧ Below w.heap.size w w' := by
  have hR1 := Blk.new w 28 #[.int .i64 0, .int .i64 0]
  have hb1 := (Below.refl w.heap.size w).alloc (Nat.le_refl _) (.cells #[.int .i64 0, .int .i64 0] 28)
  have S1 := Lib.hid (SIG _ hb1)
  replace hR1 := Lib.hid hR1
  replace hb1 := Lib.hid hb1
  obtain ⟨w1, hw1⟩ : ∃ w1, w1 = w.alloc (.cells #[.int .i64 0, .int .i64 0] 28) := ⟨_, rfl⟩
  rw [← hw1] at hR1 hb1 S1
  replace hw1 := Lib.hid hw1
  replace hll := Lib.hid hll
  clear SIG
  go_enter Try.func9, Try.ntmps9
  go_wp2_with fail
  rw [← hw1.out]
  refine S1.out.mono ?_
  rintro e w2 ⟨hb2, (⟨ho, rfl⟩ | ⟨ho, ov, rfl, hS, hown⟩)⟩
  · obtain ⟨at0, er0⟩ := o
    dsimp only at *
    have hR2 := hR1.out.below hb2 hR1.out.lt
    have hb3 := Lib.hid ((hb1.out.trans (hb2.mono hb1.out.size)).alloc (hb1.out.trans (hb2.mono hb1.out.size)).size (.cells #[.int .i64 at0, .int .i64 er0] 28))
    have hR3 := hR2.alloc (.cells #[.int .i64 at0, .int .i64 er0] 28)
    have r0 := hR3.cell 0
    have r1 := hR3.cell 1
    have f0 := hR3.frozen 0
    have f1 := hR3.frozen 1
    simp only [List.getElem?_toArray, List.getElem?_cons_zero, List.getElem?_cons_succ] at r0 r1
    have hlt2 := hR2.lt
    have hne2 : w.heap.size ≠ w2.heap.size := by omega
    have her : (er0 != 0) = true := by simpa using ho
    clear hb2 hR2 hR3 hR1 S1
    replace ho := Lib.hid ho
    replace hlt2 := Lib.hid hlt2
    go_wp2
    refine wp_region_mixH (fun _ => True) [1, 3, 2] (List.range 3) (by kernel_rfl) (by kernel_rfl) (fun _ _ h => h) trivial ?_
    (repeat ((first | refine wpMixH_pure rfl rfl (fun K hK => ?_) | refine wpMixH_loc rfl rfl (fun K hK => ?_) | refine wpMixH_any rfl rfl (fun K hK => ?_)); go_simp; refine hK _ _ ?_; clear hK K))
    refine wpMixH_loud rfl rfl (fun n1 K hK => ?_)
    go_wp2
    refine hK _ _ (fun _ => trivial) ?_; clear hK K
    refine wpMixH_nil (fun n2 => ?_)
    go_wp2
    refine bodyPost_ret (v := .tuple #[.int .i64 0, .agg #[.int .i64 at0, .int .i64 er0]]) (by simp [results, Try.results9, go_sem, r0, r1, f0, f1]) rfl ⟨by first | rfl | rw [if_pos ho.out], below_drewNs (((below_drewNs hb3.out _).setCell (Nat.le_refl _) _).setCell (Nat.le_refl _) _) _⟩
  · subst ho
    have hR2 := hR1.out.below hb2 hR1.out.lt
    have hbw := hb1.out.trans (hb2.mono hb1.out.size)
    have hlt2 := hR2.lt
    obtain ⟨w3, hw3⟩ : ∃ w3, w3 = w2.alloc (.cells #[.int .i64 (-1), .int .i64 0] 28) := ⟨_, rfl⟩
    have hb3 : Below w.heap.size w w3 := by rw [hw3]; exact hbw.alloc hbw.size _
    have hR3 : Blk w3 w.heap.size 28 #[.int .i64 0, .int .i64 0] := by rw [hw3]; exact hR2.alloc _
    have hO3 : Blk w3 w2.heap.size 28 #[.int .i64 (-1), .int .i64 0] := by rw [hw3]; exact Blk.new _ _ _
    have hS3 : Sl 40 10 encG w3 ov L := by rw [hw3]; exact hS.alloc _
    have CI := Lib.hid (fun J => indexG_b (hS3.drewN J) hll.out)
    have o0 := (hO3.cell 0).trans (show _ = some (.int .i64 (-1)) from rfl)
    have o1 := (hO3.cell 1).trans (show _ = some (.int .i64 0) from rfl)
    have S0 : Hid (∀ J, (w3.drewN J).cell? ⟨w2.heap.size, 0, none⟩ = some (.int .i64 (-1)) ∧ (w3.drewN J).cell? ⟨w2.heap.size, 1, none⟩ = some (.int .i64 0)) := Lib.hid (fun J => ⟨o0, o1⟩)
    have u0 := o0
    have u1 := o1
    rw [hw3] at u0 u1
    have hne2 : w.heap.size ≠ w2.heap.size := by omega
    replace hb3 := Lib.hid hb3
    replace hR3 := Lib.hid hR3
    replace hO3 := Lib.hid hO3
    replace hw3 := Lib.hid hw3
    replace hlt2 := Lib.hid hlt2
    clear hb2 hR2 hbw hS hS3 S1 hR1 hb1 hown
    go_wp2
    rw [← hw3.out]
    refine wp_region_mixH (fun W' => W'.cell? ⟨w2.heap.size, 0, none⟩ = some (.int .i64 (-1)) ∧ W'.cell? ⟨w2.heap.size, 1, none⟩ = some (.int .i64 0)) [3, 2, 0, 3, 2] [0, 2, 1, 3, 4] (by kernel_rfl) (by kernel_rfl) (fun _ _ h => h) (S0.out 1) ?_
    (repeat (first | ((first | refine wpMixH_pure rfl rfl (fun K hK => ?_) | refine wpMixH_loc rfl rfl (fun K hK => ?_) | refine wpMixH_any rfl rfl (fun K hK => ?_)); go_simp; refine hK _ _ ?_; clear hK K) | (refine wpMixH_any rfl rfl (fun K hK => ?_); rw [if_pos (by go_simp)]; apply Exists.intro; refine And.intro (fun w2 hS2 => ?_) (hK _ _ ?_); (focus (obtain ⟨hs1, hs2⟩ := hS2; go_simp; rfl)); clear hK K)))
    refine wpMixH_loud rfl rfl (fun n2 K hK => ?_)
    go_wp2_with fail
    refine (CI.out _).mono ?_
    rintro _ w5 ⟨rfl, hb5⟩
    have hb5' : Below w3.heap.size w3 w5 := ⟨hb5.os, hb5.tape, hb5.output, hb5.size, hb5.block⟩
    have hO5 := hO3.out.below hb5' hO3.out.lt
    have hR5 := hR3.out.below hb5' hR3.out.lt
    have hbw5 := Lib.hid (hb3.out.trans (hb5'.mono hb3.out.size))
    have S5 : w5.cell? ⟨w2.heap.size, 0, none⟩ = some (.int .i64 (-1)) ∧ w5.cell? ⟨w2.heap.size, 1, none⟩ = some (.int .i64 0) := ⟨(hO5.cell 0).trans rfl, (hO5.cell 1).trans rfl⟩
    have r0 := (hR5.cell 0).trans (show _ = some (.int .i64 0) from rfl)
    have r1 := (hR5.cell 1).trans (show _ = some (.int .i64 0) from rfl)
    have f0 := hR5.frozen 0
    have f1 := hR5.frozen 1
    clear hb5 hb5' hO5 hR5 CI
    go_wp2
    refine hK _ _ (fun _ => S5) ?_; clear hK K
    (repeat (first | ((first | refine wpMixH_pure rfl rfl (fun K hK => ?_) | refine wpMixH_loc rfl rfl (fun K hK => ?_) | refine wpMixH_any rfl rfl (fun K hK => ?_)); go_simp; refine hK _ _ ?_; clear hK K) | (refine wpMixH_any rfl rfl (fun K hK => ?_); rw [if_pos (by go_simp)]; apply Exists.intro; refine And.intro (fun w2 hS2 => ?_) (hK _ _ ?_); (focus (obtain ⟨hs1, hs2⟩ := hS2; go_simp; rfl)); clear hK K)))
    refine wpMixH_loud rfl rfl (fun n3 K hK => ?_)
    go_wp2
    refine hK _ _ (fun h => (Bool.false_ne_true ((Eq.symm (by kernel_rfl)).trans h)).elim) ?_; clear hK K
    refine wpMixH_nil (fun n4 => ?_)
    go_wp2
    refine bodyPost_ret (v := .tuple #[.int .i64 (idxG L), .agg #[.int .i64 (-1), .int .i64 0]]) (by simp [results, Try.results9, go_sem, r0, r1, f0, f1]) rfl ⟨by simp, below_drewNs (((below_drewNs hbw5.out _).setCell (Nat.le_refl _) _).setCell (Nat.le_refl _) _) _⟩
end Go.Proofs.Ytloiadhdkgkjkaa
/- opaque.Behind by contract, behind see's. -/
namespace Go.Proofs.Ytloiadhdkgkjkaa
open Go.RowKit
set_option maxHeartbeats 4000000
set_option linter.unusedVariables false
set_option linter.unusedSimpArgs false
/-- The cells behind n commits. -/
def behindL (cells : Nat → List (Nat × Int)) (n size : Nat) : List Int := (List.range size).map fun a => atW (cells a) n
def behR (cells : Nat → List (Nat × Int)) (n size k : Nat) : List Int := (List.range k).map (fun a => atW (cells a) n) ++ List.replicate (size - k) 0
theorem behR_len {cells : Nat → List (Nat × Int)} {n size k : Nat} (hk : k ≤ size) : (behR cells n size k).length = size := by unfold behR; simp; omega
theorem behR_set {cells : Nat → List (Nat × Int)} {n size k : Nat} (hk : k < size) : (behR cells n size k).set k (atW (cells k) n) = behR cells n size (k + 1) := by
  unfold behR
  obtain ⟨m, hm⟩ : ∃ m, size - k = m + 1 := ⟨size - k - 1, by omega⟩
  rw [hm, show size - (k + 1) = m by omega, List.replicate_succ, List.range_succ, List.map_append, List.append_assoc]
  rw [List.set_append_right _ _ (by simp)]
  simp
set_option maxRecDepth 100000 in
theorem behind_b {w : World} {Af A : Option Addr} {first : List Int} {l : List Ev} {cf cp : Nat} (n : Int)
    (SEE : ∀ W, Below w.heap.size w W → Calls Try.prog 26 #[.slice Af first.length cf, .slice A l.length cp] W (SeeP W first l))
    (hJ : seeOdd first.length l = (-1, 0) → VJ (vn first (rn l l.length).tries l l.length) first.length) (hsz : l.length * 48 + 480 ≤ 140737488355328) :
    Calls Try.prog 15 #[.slice Af first.length cf, .slice A l.length cp, .int .i64 n] w fun x w' => Below w.heap.size w w' ∧ (((seeOdd first.length l).2 ≠ 0 ∧ x = .returned (.tuple #[.slice none 0 0, .agg #[.int .i64 (seeOdd first.length l).1, .int .i64 (seeOdd first.length l).2]])) ∨
      (seeOdd first.length l = (-1, 0) ∧ okTo l l.length ∧ (((n < 0 ∨ ((vn first (rn l l.length).tries l l.length).commits : Int) < n) ∧ x = .returned (.tuple #[.slice none 0 0, .agg #[.int .i64 (-1), .int .i64 2]])) ∨
        (0 ≤ n ∧ n ≤ ((vn first (rn l l.length).tries l l.length).commits : Int) ∧ ∃ ov, x = .returned (.tuple #[ov, .agg #[.int .i64 (-1), .int .i64 0]]) ∧ Wl w' ov (behindL (vn first (rn l l.length).tries l l.length).cells n.toNat first.length) ∧ ∀ q, own ov q → w.heap.size ≤ q)))) := by
  have hR1 := Blk.new w 28 #[.int .i64 0, .int .i64 0]
  have hb1 := (Below.refl w.heap.size w).alloc (Nat.le_refl _) (.cells #[.int .i64 0, .int .i64 0] 28)
  have S1 := Lib.hid (SEE _ hb1)
  replace hR1 := Lib.hid hR1
  replace hb1 := Lib.hid hb1
  replace hJ := Lib.hid hJ
  replace hsz := Lib.hid hsz
  obtain ⟨w1, hw1⟩ : ∃ w1, w1 = w.alloc (.cells #[.int .i64 0, .int .i64 0] 28) := ⟨_, rfl⟩
  rw [← hw1] at hR1 hb1 S1
  replace hw1 := Lib.hid hw1
  clear SEE
  go_enter Try.func15, Try.ntmps15
  go_wp2_with fail
  rw [← hw1.out]
  refine S1.out.mono ?_
  rintro e w2 ⟨hb2, (⟨ho, rfl⟩ | ⟨ho, hok, B, vb, nb, mb, fv, cv, sv, hB, rfl, hV, hVI⟩)⟩
  · obtain ⟨at0, hat0⟩ : ∃ x, (seeOdd first.length l).1 = x := ⟨_, rfl⟩
    obtain ⟨er0, her0⟩ : ∃ x, (seeOdd first.length l).2 = x := ⟨_, rfl⟩
    rw [hat0, her0]
    replace hat0 := Lib.hid hat0
    replace her0 := Lib.hid her0
    have hR2 := hR1.out.below hb2 hR1.out.lt
    have hb3 := Lib.hid ((hb1.out.trans (hb2.mono hb1.out.size)).alloc (hb1.out.trans (hb2.mono hb1.out.size)).size (.cells #[.int .i64 at0, .int .i64 er0] 28))
    have hR3 := hR2.alloc (.cells #[.int .i64 at0, .int .i64 er0] 28)
    have r0 := hR3.cell 0
    have r1 := hR3.cell 1
    have f0 := hR3.frozen 0
    have f1 := hR3.frozen 1
    simp only [List.getElem?_toArray, List.getElem?_cons_zero, List.getElem?_cons_succ] at r0 r1
    have hlt2 := hR2.lt
    have hne2 : w.heap.size ≠ w2.heap.size := by omega
    clear hb2 hR2 hR3 hR1 S1
    replace ho := Lib.hid ho
    go_wp2
    refine wp_region_mixH (fun _ => True) [1, 3, 2] (List.range 3) (by kernel_rfl) (by kernel_rfl) (fun _ _ h => h) trivial ?_
    (repeat ((first | refine wpMixH_pure rfl rfl (fun K hK => ?_) | refine wpMixH_loc rfl rfl (fun K hK => ?_) | refine wpMixH_any rfl rfl (fun K hK => ?_)); go_simp; refine hK _ _ ?_; clear hK K))
    refine wpMixH_loud rfl rfl (fun n1 K hK => ?_)
    go_wp2
    refine hK _ _ (fun _ => trivial) ?_; clear hK K
    refine wpMixH_nil (fun n2 => ?_)
    go_wp2
    refine bodyPost_ret (v := .tuple #[.slice none 0 0, .agg #[.int .i64 at0, .int .i64 er0]]) (by simp [results, Try.results15, go_sem, r0, r1, f0, f1]) rfl ⟨below_drewNs (((below_drewNs hb3.out _).setCell (Nat.le_refl _) _).setCell (Nat.le_refl _) _) _, .inl ⟨ho.out, by rw [hat0.out, her0.out]⟩⟩
  · obtain ⟨vv, hvv⟩ : ∃ vv, vv = vn first (rn l l.length).tries l l.length := ⟨_, rfl⟩
    rw [← hvv] at hV hVI hJ
    have hVJ := Lib.hid (hJ.out ho)
    have hco := Lib.hid (cellsOk hVI hVJ.out (by have := hsz.out; omega))
    have hbw := hb1.out.trans (hb2.mono hb1.out.size)
    have hR2 := hR1.out.below hb2 hR1.out.lt
    have hlt2 := hR2.lt
    obtain ⟨w3, hw3⟩ : ∃ w3, w3 = w2.alloc (.cells #[.int .i64 (-1), .int .i64 0] 28) := ⟨_, rfl⟩
    have hb3 : Below w.heap.size w w3 := by rw [hw3]; exact hbw.alloc hbw.size _
    have hR3 : Blk w3 w.heap.size 28 #[.int .i64 0, .int .i64 0] := by rw [hw3]; exact hR2.alloc _
    have hO3 : Blk w3 w2.heap.size 28 #[.int .i64 (-1), .int .i64 0] := by rw [hw3]; exact Blk.new _ _ _
    have hV3 : VwW B w3 vb nb mb vv first.length fv cv sv := by rw [hw3]; exact hV.alloc _
    have v1 : w3.cell? ⟨vb, 1, none⟩ = some (.int .i64 first.length) := by simpa using hV3.vblk.cell 1
    have v2 := hV3.c2
    have hsl3 : w2.heap.size < w3.heap.size := by rw [hw3]; simp
    have u1 := v1
    have u2 := v2
    rw [hw3] at u1 u2
    have hne2 : w.heap.size ≠ w2.heap.size := by omega
    have hclt : (vv.commits : Int) ≤ 9223372036854775807 := by have := hVI.cm; have := hsz.out; omega
    replace hb3 := Lib.hid hb3
    replace hR3 := Lib.hid hR3
    replace hO3 := Lib.hid hO3
    replace hV3 := Lib.hid hV3
    replace hw3 := Lib.hid hw3
    replace hlt2 := Lib.hid hlt2
    replace hsl3 := Lib.hid hsl3
    replace hvv := Lib.hid hvv
    replace hVI := Lib.hid hVI
    clear hb2 hR2 hbw hV S1 hR1 hb1 hB hJ
    by_cases hneg : n < 0
    ·
      have CO := Lib.hid (fun W => odd_b (-1) 2 W)
      go_wp2_with fail
      rw [← hw3.out]
      refine (CO.out _).mono ?_
      rintro _ w5 ⟨rfl, hb5⟩
      have hR5 := hR3.out.below hb5 hR3.out.lt
      have hbw5 := Lib.hid (hb3.out.trans (hb5.mono hb3.out.size))
      have r0 := (hR5.cell 0).trans (show _ = some (.int .i64 0) from rfl)
      have r1 := (hR5.cell 1).trans (show _ = some (.int .i64 0) from rfl)
      have f0 := hR5.frozen 0
      have f1 := hR5.frozen 1
      clear hb5 hR5
      go_wp2
      refine bodyPost_ret (v := .tuple #[.slice none 0 0, .agg #[.int .i64 (-1), .int .i64 2]]) (by simp [results, Try.results15, go_sem, r0, r1, f0, f1]) rfl ⟨(hbw5.out.setCell (Nat.le_refl _) _).setCell (Nat.le_refl _) _, .inr ⟨ho, hok, .inl ⟨by rw [← hvv.out]; exact .inl hneg, rfl⟩⟩⟩
    · by_cases hbig : (vv.commits : Int) < n
      ·
        have CO := Lib.hid (fun W => odd_b (-1) 2 W)
        go_wp2_with fail
        rw [← hw3.out]
        refine (CO.out _).mono ?_
        rintro _ w5 ⟨rfl, hb5⟩
        have hR5 := hR3.out.below hb5 hR3.out.lt
        have hbw5 := Lib.hid (hb3.out.trans (hb5.mono hb3.out.size))
        have r0 := (hR5.cell 0).trans (show _ = some (.int .i64 0) from rfl)
        have r1 := (hR5.cell 1).trans (show _ = some (.int .i64 0) from rfl)
        have f0 := hR5.frozen 0
        have f1 := hR5.frozen 1
        clear hb5 hR5
        go_wp2
        refine bodyPost_ret (v := .tuple #[.slice none 0 0, .agg #[.int .i64 (-1), .int .i64 2]]) (by simp [results, Try.results15, go_sem, r0, r1, f0, f1]) rfl ⟨(hbw5.out.setCell (Nat.le_refl _) _).setCell (Nat.le_refl _) _, .inr ⟨ho, hok, .inl ⟨by rw [← hvv.out]; exact .inr hbig, rfl⟩⟩⟩
      ·
        obtain ⟨m, rfl⟩ := Int.eq_ofNat_of_zero_le (show 0 ≤ n by omega)
        have hcm : (m : Int) ≤ (vv.commits : Int) := by omega
        have hszl : first.length ≤ 65536 := by
          have := ho
          unfold seeOdd at this
          split at this
          · simp at this
          · omega
        have hfl : (first.length : Int) ≤ 9223372036854775807 := by omega
        go_upto_region 7 with (rw [← hw3.out]; refine wpList_zeros w3 rfl _ _ rfl .i64 .i64 (first.length : Int) (first.length : Int) first.length rfl rfl rfl rfl (by omega) ?_; intro w4 hz4 hb4)
        have hb4' := Lib.hid hb4
        have hz4' := Lib.hid hz4
        clear hz4 hb4 u1 u2 v1 v2
        go_wp2
        go_loopw [39] (fun i wr => ∃ k : Nat, k ≤ first.length ∧ i = .int .i64 k ∧ Hid (Wl wr (.slice (some ⟨w3.heap.size, 0, none⟩) first.length first.length) (behR vv.cells m first.length k)) ∧ Hid (Below w3.heap.size w3 wr)) (fun i _ => first.length - (intOf i).toNat)
        case atStart => exact ⟨0, Nat.zero_le _, rfl, Lib.hid (by have := hz4'.out; simpa [behR] using this), hb4'⟩
        case round =>
          obtain ⟨k, hk, rfl, hW, hbl⟩ := hrel
          clear hz4' hb4'
          by_cases hlt : k < first.length
          · have hW' : Wl wr (.slice (some ⟨w3.heap.size, 0, none⟩) (behR vv.cells m first.length k).length first.length) (behR vv.cells m first.length k) := by rw [behR_len hk]; exact hW.out
            obtain ⟨g, o, hA, hg, hcell, hfz, hset⟩ := hW'.upd (j := k) (by rw [behR_len hk]; exact hlt)
            injection hA with hA
            injection hA with e1 e2
            subst e1 e2
            rw [Nat.zero_add] at hcell hfz
            have hset' := hset (atW (vv.cells k) m)
            rw [Nat.zero_add, behR_set hlt, behR_len hlt] at hset'
            replace hset' := Lib.hid hset'
            have CA := Lib.hid (at_b (hV3.out.below hbl.out) hlt rfl (hco.out.ne k hlt) (hco.out.z k hlt) (hco.out.len k hlt) m)
            generalize atW (vv.cells k) m = y at *
            generalize (behR vv.cells m first.length k).getD k 0 = y0 at *
            have hlt' : (k : Int) < (first.length : Int) := by omega
            have hb5 := Lib.hid (hbl.out.setCell (p := ⟨w3.heap.size, k, none⟩) (Nat.le_refl _) (.int .u64 y))
            clear hset hW' hg hW hbl
            go_wp2_with fail
            refine CA.out.mono ?_
            rintro _ w5 ⟨rfl, rfl⟩
            go_wp2
            go_roundw
            case rel => exact ⟨k + 1, hlt, by go_num, hset', hb5⟩
            case measure => simp [intOf]; omega
          · have hkk : k = first.length := by omega
            subst hkk
            have hO5 := hO3.out.below hbl.out hsl3.out
            have hR5 := hR3.out.below hbl.out (Nat.lt_trans hlt2.out hsl3.out)
            have hbw5 := Lib.hid (hb3.out.trans (hbl.out.mono hb3.out.size))
            have o0 := (hO5.cell 0).trans (show _ = some (.int .i64 (-1)) from rfl)
            have o1 := (hO5.cell 1).trans (show _ = some (.int .i64 0) from rfl)
            have r0 := (hR5.cell 0).trans (show _ = some (.int .i64 0) from rfl)
            have r1 := (hR5.cell 1).trans (show _ = some (.int .i64 0) from rfl)
            have f0 := hR5.frozen 0
            have f1 := hR5.frozen 1
            have hWF : Hid (Wl wr (.slice (some ⟨w3.heap.size, 0, none⟩) first.length first.length) (behindL vv.cells m first.length)) := Lib.hid (by have := hW.out; unfold behR at this; simpa [behindL] using this)
            have hnR : ¬ own (.slice (some ⟨w3.heap.size, 0, none⟩) first.length first.length) w.heap.size := fun h => by
              have h1 : w3.heap.size = w.heap.size := by simpa [own, Value.ownBlock] using h
              have := hlt2.out; have := hsl3.out; omega
            have hfin : Hid (∀ j jj, Wl ((((wr.drewN j).setCell ⟨w.heap.size, 0, none⟩ (.int .i64 (-1))).setCell ⟨w.heap.size, 1, none⟩ (.int .i64 0)).drewN jj) (.slice (some ⟨w3.heap.size, 0, none⟩) first.length first.length) (behindL vv.cells m first.length)) := Lib.hid (fun j jj => (((hWF.out.drewN j).set (p := ⟨w.heap.size, 0, none⟩) hnR _).set (p := ⟨w.heap.size, 1, none⟩) hnR _).drewN jj)
            have hownv : ∀ q, own (.slice (some ⟨w3.heap.size, 0, none⟩) first.length first.length) q → w.heap.size ≤ q := fun q h => by
              have h1 : w3.heap.size = q := by simpa [own, Value.ownBlock] using h
              have := hlt2.out; have := hsl3.out; omega
            replace hownv := Lib.hid hownv
            clear hO5 hR5 hW hbl
            go_wp2
            refine wp_region_mixH (fun _ => True) [3, 1, 3, 2] (List.range 4) (by kernel_rfl) (by kernel_rfl) (fun _ _ h => h) trivial ?_
            (repeat ((first | refine wpMixH_pure rfl rfl (fun K hK => ?_) | refine wpMixH_loc rfl rfl (fun K hK => ?_) | refine wpMixH_any rfl rfl (fun K hK => ?_)); go_simp; refine hK _ _ ?_; clear hK K))
            refine wpMixH_loud rfl rfl (fun n1 K hK => ?_)
            go_wp2
            refine hK _ _ (fun _ => trivial) ?_; clear hK K
            refine wpMixH_nil (fun n2 => ?_)
            go_wp2
            refine bodyPost_ret (v := .tuple #[.slice (some ⟨w3.heap.size, 0, none⟩) first.length first.length, .agg #[.int .i64 (-1), .int .i64 0]]) (by simp [results, Try.results15, go_sem, r0, r1, f0, f1]) rfl ⟨below_drewNs (((below_drewNs hbw5.out _).setCell (Nat.le_refl _) _).setCell (Nat.le_refl _) _) _, .inr ⟨ho, hok, .inr ⟨by omega, by rw [← hvv.out]; exact hcm, _, rfl, by rw [← hvv.out]; exact hfin.out _ _, hownv.out⟩⟩⟩
end Go.Proofs.Ytloiadhdkgkjkaa
/- opaque: what Check and Behind answer, plain; their contracts' sentences. -/
namespace Go.Proofs.Ytloiadhdkgkjkaa
open Go.RowKit
set_option maxHeartbeats 4000000
set_option linter.unusedVariables false
set_option linter.unusedSimpArgs false
/-- What see gathers of a whole history. -/
def vAll (first : List Int) (l : List Ev) : Vw := vn first (rn l l.length).tries l l.length
/-- What Sights answers, behind its error. -/
def sigA (first : List Int) (l : List Ev) : List (Sg × Int) := if (seeOdd first.length l).2 ≠ 0 then [] else sightsOf (vAll first l)
/-- What Check answers, ahead of its error. -/
def chkA (first : List Int) (l : List Ev) : Int := if (seeOdd first.length l).2 ≠ 0 then 0 else idxG (sightsOf (vAll first l))
/-- What Behind answers: its error, its cells. -/
def behA (first : List Int) (l : List Ev) (n : Int) : (Int × Int) × List Int :=
  if (seeOdd first.length l).2 ≠ 0 then (seeOdd first.length l, [])
  else if n < 0 ∨ ((vAll first l).commits : Int) < n then ((-1, 2), [])
  else ((-1, 0), behindL (vAll first l).cells n.toNat first.length)
/-- What a call over cells and a history asks of them. -/
structure OpIn (w : World) (Fv Hv : Value) (first : List Int) (l : List Ev) : Prop where
  fi : Lies w Fv first
  hi : LiesV w Hv l
  wf : ∀ e ∈ l, EvWf e
  sz : l.length * 48 + 480 ≤ 140737488355328
  fl : first.length ≤ 9223372036854775807
  fb : ∀ x ∈ first, 0 ≤ x ∧ x ≤ 18446744073709551615
theorem OpIn.below {w w' : World} {Fv Hv : Value} {first : List Int} {l : List Ev} (h : OpIn w Fv Hv first l) (hb : Below w.heap.size w w') : OpIn w' Fv Hv first l :=
  ⟨h.fi.below hb, h.hi.below hb (Nat.le_refl _), h.wf, h.sz, h.fl, h.fb⟩
def SightsC : Prop := ∀ (w : World) (Fv Hv : Value) (first : List Int) (l : List Ev), OpIn w Fv Hv first l → Calls Try.prog 8 #[Fv, Hv] w fun x w' => Below w.heap.size w w' ∧ ∃ ov, x = .returned (.tuple #[ov, .agg #[.int .i64 (seeOdd first.length l).1, .int .i64 (seeOdd first.length l).2]]) ∧ Sl 40 10 encG w' ov (sigA first l) ∧ ∀ q, own ov q → w.heap.size ≤ q
def CheckC : Prop := ∀ (w : World) (Fv Hv : Value) (first : List Int) (l : List Ev), OpIn w Fv Hv first l → Calls Try.prog 9 #[Fv, Hv] w fun x w' => Below w.heap.size w w' ∧ x = .returned (.tuple #[.int .i64 (chkA first l), .agg #[.int .i64 (seeOdd first.length l).1, .int .i64 (seeOdd first.length l).2]])
def BehindC : Prop := ∀ (w : World) (Fv Hv : Value) (first : List Int) (l : List Ev) (n : Int), OpIn w Fv Hv first l → Calls Try.prog 15 #[Fv, Hv, .int .i64 n] w fun x w' => Below w.heap.size w w' ∧ ∃ ov, x = .returned (.tuple #[ov, .agg #[.int .i64 (behA first l n).1.1, .int .i64 (behA first l n).1.2]]) ∧ Wl w' ov (behA first l n).2 ∧ ∀ q, own ov q → w.heap.size ≤ q
theorem no_own_nil (q : Nat) : ¬ own (.slice none 0 0) q := by simp [own, Value.ownBlock]
theorem sights_c' {w : World} {Fv Hv : Value} {first : List Int} {l : List Ev} (h : Calls Try.prog 8 #[Fv, Hv] w (SigP w (seeOdd first.length l) (sightsOf (vAll first l)))) :
    Calls Try.prog 8 #[Fv, Hv] w fun x w' => Below w.heap.size w w' ∧ ∃ ov, x = .returned (.tuple #[ov, .agg #[.int .i64 (seeOdd first.length l).1, .int .i64 (seeOdd first.length l).2]]) ∧ Sl 40 10 encG w' ov (sigA first l) ∧ ∀ q, own ov q → w.heap.size ≤ q := by
  refine h.mono ?_
  rintro x w' ⟨hb, ⟨h1, rfl⟩ | ⟨h1, ov, rfl, hS, ho⟩⟩
  · refine ⟨hb, _, rfl, ?_, fun q hq => absurd hq (no_own_nil q)⟩
    unfold sigA
    rw [if_pos h1]
    exact Sl.nil _
  · refine ⟨hb, ov, by rw [h1], ?_, ho⟩
    unfold sigA
    rw [if_neg (by rw [h1]; simp)]
    exact hS
theorem vEv_len (T : List Tr) (v : Vw) (e : Ev) : (vEv T v e).sights.length ≤ v.sights.length + 1 := by
  unfold vEv
  dsimp only
  repeat' split
  all_goals simp
theorem vTl_len (v : Vw) (i : Nat) (e : Ev) : (vTl v i e).sights.length = v.sights.length := by
  unfold vTl
  dsimp only
  split
  · simp
  · rfl
theorem vn_len (first : List Int) (T : List Tr) (l : List Ev) : ∀ k, (vn first T l k).sights.length ≤ k
  | 0 => by simp [vn, vw0]
  | k + 1 => by
    unfold vn
    rw [vTl_len]
    have := vEv_len T (vn first T l k) (evAt l k)
    have := vn_len first T l k
    omega
end Go.Proofs.Ytloiadhdkgkjkaa
/- The document's known history: what the law's closed sentences say of it. -/
namespace Go.Proofs.Ytloiadhdkgkjkaa
open Go.RowKit
set_option maxHeartbeats 4000000
set_option linter.unusedVariables false
set_option linter.unusedSimpArgs false
def wroteL : List Ev := [⟨0, 1, 0, 0, false, 0⟩, ⟨0, 3, 0, 7, false, 0⟩, ⟨0, 3, 1, 8, false, 0⟩, ⟨0, 5, 0, 0, false, 0⟩, ⟨0, 6, 0, 1, false, 0⟩]
def knownL : List Ev := [⟨1, 1, 0, 0, false, 0⟩] ++ wroteL ++ [⟨1, 2, 0, 7, false, 0⟩, ⟨1, 2, 1, 6, false, 0⟩]
theorem k_odd : seeOdd 2 knownL = (-1, 0) := by kernel_rfl
theorem w_odd : seeOdd 2 wroteL = (-1, 0) := by kernel_rfl
theorem k_chk : chkA [5, 6] knownL = 0 := by kernel_rfl
theorem w_chk : chkA [5, 6] wroteL = -1 := by kernel_rfl
theorem w_beh1 : behA [5, 6] wroteL 1 = ((-1, 0), [7, 8]) := by kernel_rfl
theorem w_beh2 : behA [5, 6] wroteL 2 = ((-1, 2), []) := by kernel_rfl
theorem wrote_b (w : World) : Calls Try.prog 36 #[] w fun x w' => Below w.heap.size w w' ∧ ∃ ov, x = .returned ov ∧ Sl 61 6 encV w' ov wroteL ∧ ∀ q, own ov q → w.heap.size ≤ q := by
  go_enter Try.func36, Try.ntmps36
  go_wp2
  go_ret
  refine ⟨(Below.refl _ _).alloc (Nat.le_refl _) _, _, rfl, Sl.new encV_len w wroteL (by decide), ?_⟩
  intro q hq
  have e : w.heap.size = q := by simpa [own, Value.ownBlock] using hq
  omega
theorem Sl.liesV {w : World} {v : Value} {l : List Ev} (h : Sl 61 6 encV w v l) (hwf : ∀ e ∈ l, EvWf e) (hsz : l.length * 48 ≤ 140737488351232 + 48) : LiesV w v l := by
  obtain ⟨A, cp, rfl, hc⟩ := h.shape
  refine ⟨A, cp, rfl, hc, ?_, hwf, hsz, fun j hj => ?_⟩
  · intro hA
    subst hA
    rcases h.2 with ⟨h1, _⟩ | ⟨g, off, cap, cur, h1, _⟩
    · injection h1
    · injection h1 with h1
      cases h1
  · obtain ⟨g, o, rfl, hlt, hc⟩ := h.cell encV_len (by omega) hj
    refine ⟨g, o, rfl, hlt, fun c h6 => ?_⟩
    have := (hc j hj c h6).1
    rw [Nat.add_assoc]
    exact this
theorem LiesV.src {w : World} {v : Value} {l : List Ev} (h : LiesV w v l) : Src w v l.length 6 (l.flatMap encV) := by
  obtain ⟨A, cp, rfl, hc, h0, -, -, h⟩ := h
  cases A with
  | none =>
    obtain rfl := h0 rfl
    obtain rfl : l = [] := List.eq_nil_of_length_eq_zero (by omega)
    exact .inl ⟨rfl, rfl, rfl⟩
  | some ad =>
    refine .inr ⟨ad, cp, rfl, flat_len encV_len l, fun j u hj => ?_, fun u hu => ?_⟩
    · have hjl : j < l.length * 6 := by rw [← flat_len encV_len l]; exact (List.getElem?_eq_some_iff.1 hj).1
      obtain ⟨q, r, hr, rfl⟩ : ∃ q r, r < 6 ∧ j = q * 6 + r := ⟨j / 6, j % 6, Nat.mod_lt _ (by omega), by omega⟩
      have hq : q < l.length := by omega
      obtain ⟨g, o, e, hlt, hcell⟩ := h q hq
      injection e with e
      subst e
      rw [Addr.add_lit, ← Nat.add_assoc, hcell r hr, ← hj, flat_get encV_len l q r hq hr]
    · obtain ⟨x, _, hx⟩ := List.mem_flatMap.1 hu
      exact encV_one x u hx
theorem wpList_evs {ops : Array Oper} {rest : List Oper} {o : Oper} {a : Act} {Q : Exit → Act → World → Prop} (wr : World) (hgd : o.guard = none) (s x : Operand)
    (ho : o.op = .call { callee := .builtin .append, args := #[s, x], argTypes := #[23, 23] })
    (v u : Value) (l m : List Ev) (hs : a.eval s = v) (hl : Sl 61 6 encV wr v l) (hx : a.eval x = u) (hm : Src wr u m.length 6 (m.flatMap encV)) (hb1 : l.length + m.length ≤ 9223372036854775807) (hlen : (l.length + m.length) * 48 ≤ 140737488355328)
    (h : ∀ A cap w', l.length + m.length ≤ cap → Sl 61 6 encV w' (.slice A (l.length + m.length) cap) (l ++ m) → Fr (own v) wr (own (.slice A (l.length + m.length) cap)) w' → wpList Try.prog ops Q rest (a.put o.dst (.slice A (l.length + m.length) cap)) w') :
    wpList Try.prog ops Q (o :: rest) a wr :=
  wpList_all (enc := encV) wr hgd s x 23 ho Try.underlying23 event_info rfl (by decide) v u l m hs hl hx hm hb1 hlen h
theorem wpList_evsN {ops : Array Oper} {rest : List Oper} {o : Oper} {a : Act} {Q : Exit → Act → World → Prop} (n : Nat) (wr : World) (hgd : o.guard = none) (s x : Operand)
    (ho : o.op = .call { callee := .builtin .append, args := #[s, x], argTypes := #[23, 23] })
    (v u : Value) (l m k : List Ev) (hs : a.eval s = v) (hl : Sl 61 6 encV wr v l) (hx : a.eval x = u) (hm : Src wr u m.length 6 (m.flatMap encV)) (hn : l.length + m.length = n) (hk : l ++ m = k) (hb1 : n ≤ 9223372036854775807) (hlen : n * 48 ≤ 140737488355328)
    (h : ∀ A cap w', n ≤ cap → Sl 61 6 encV w' (.slice A n cap) k → Fr (own v) wr (own (.slice A n cap)) w' → wpList Try.prog ops Q rest (a.put o.dst (.slice A n cap)) w') :
    wpList Try.prog ops Q (o :: rest) a wr := by
  subst hn hk
  exact wpList_evs wr hgd s x ho v u l m hs hl hx hm hb1 hlen h
instance (e : Ev) : Decidable (EvWf e) := by unfold EvWf; infer_instance
theorem wrote_wf : ∀ e ∈ wroteL, EvWf e := by decide
theorem known_wf : ∀ e ∈ knownL, EvWf e := by decide
theorem odd_equal (a b c d : Int) (w : World) : (Op.equalIn 10000 28 (.agg #[.int .i64 a, .int .i64 b]) (.agg #[.int .i64 c, .int .i64 d])).run Try.prog w = .ok (decide (a = c) && decide (b = d)) w := by
  have h1 : Try.prog.underlying 28 = some _ := Try.underlying28
  have hi : ∀ (t : TypeId) (n m : Int) (k : IntKind) (d : Nat), Try.prog.underlying t = some (TypeDesc.int k) → (Op.equalIn (d + 1) t (.int k n) (.int k m)).run Try.prog w = .ok (n == m) w := fun t n m k d ht => run_equalIn_int w d t k k n m ht
  have hsi : Try.prog.stoodInHeld 28 = false := by kernel_rfl
  have u1 : Try.prog.underlying 3 = some _ := Try.underlying3
  have u5 : Try.prog.underlying 26 = some _ := Try.underlying26
  have c1 : Try.prog.cellsOf 3 = 1 := by kernel_rfl
  have c5 : Try.prog.cellsOf 26 = 1 := by kernel_rfl
  have hd : 10000 = 9998 + 1 + 1 := rfl
  rw [hd]
  generalize 9998 = e at *
  rw [Op.equalIn]
  simp [run_underlying h1, part, hi, u1, u5, c1, c5, hsi, sizeOf, typeInfo]
  by_cases k0 : a = c <;> simp [k0]
  by_cases k1 : b = d <;> simp [k1]
theorem odd_eql (a b c d : Int) (w : World) : (binOp .eql 28 (.agg #[.int .i64 a, .int .i64 b]) (.agg #[.int .i64 c, .int .i64 d])).run Try.prog w = .ok (.bool (decide (a = c) && decide (b = d))) w := by
  rw [run_eql_struct (P := Try.prog) w 28 #[.int .i64 a, .int .i64 b] #[.int .i64 c, .int .i64 d], odd_equal]
  rfl
theorem odd_neq (a b c d : Int) (w : World) : (binOp .neq 28 (.agg #[.int .i64 a, .int .i64 b]) (.agg #[.int .i64 c, .int .i64 d])).run Try.prog w = .ok (.bool (!(decide (a = c) && decide (b = d)))) w := by
  rw [run_neq_struct (P := Try.prog) w 28 #[.int .i64 a, .int .i64 b] #[.int .i64 c, .int .i64 d], odd_equal]
  rfl
/-- wrote, in a world that a call has come to. -/
theorem OpIn.wrote {w w' : World} {Fv : Value} {ov : Value} (hf : Lies w' Fv [5, 6]) (h : Sl 61 6 encV w' ov wroteL) : OpIn w' Fv ov [5, 6] wroteL :=
  ⟨hf, h.liesV wrote_wf (by decide), wrote_wf, by decide, by decide, by decide⟩
set_option maxRecDepth 100000 in
theorem known_b (CK : CheckC) (BH : BehindC) (w : World) : Calls Try.prog 14 #[] w fun x w' => x = .returned (.bool true) ∧ Below w.heap.size w w' := by
  obtain ⟨w1, hw1⟩ : ∃ w1, w1 = w.alloc (.cells #[.int .u64 5, .int .u64 6] 35) := ⟨_, rfl⟩
  have z1 : w1.heap.size = w.heap.size + 1 := by rw [hw1]; simp
  obtain ⟨w2, hw2⟩ : ∃ w2, w2 = w1.alloc (.cells #[.int .i64 1, .int .i64 1, .int .u64 0, .int .u64 0, .bool false, .int .i64 0] 61) := ⟨_, rfl⟩
  have F1 : Lies w1 (.slice (some ⟨w.heap.size, 0, none⟩) 2 2) [5, 6] := by rw [hw1]; exact Lies.new w [5, 6] (by decide)
  have H2 : Sl 61 6 encV w2 (.slice (some ⟨w.heap.size + 1, 0, none⟩) 1 1) [⟨1, 1, 0, 0, false, 0⟩] := by
    rw [← z1, hw2]
    exact Sl.new (e := 61) encV_len w1 [⟨1, 1, 0, 0, false, 0⟩] (by decide)
  have hb1 : Below w.heap.size w w1 := by rw [hw1]; exact (Below.refl _ _).alloc (Nat.le_refl _) _
  have hb2 : Below w1.heap.size w1 w2 := by rw [hw2]; exact (Below.refl _ _).alloc (Nat.le_refl _) _
  have h2l : ∀ q, own (.slice (some ⟨w.heap.size + 1, 0, none⟩) 1 1) q → w1.heap.size ≤ q := fun q hq => by
    have e : w.heap.size + 1 = q := by simpa [own, Value.ownBlock] using hq
    omega
  rw [hw1] at hw2
  replace hw2 := Lib.hid hw2
  replace hw1 := Lib.hid hw1
  replace h2l := Lib.hid h2l
  replace z1 := Lib.hid z1
  go_enter Try.func14, Try.ntmps14
  go_wp2_with fail
  rw [← hw2.out]
  refine (wrote_b w2).mono ?_
  rintro _ w3 ⟨hb3, ov3, rfl, hS3, ho3⟩
  obtain ⟨A3, c3, rfl⟩ : ∃ A c, ov3 = .slice A 5 c := (show ∃ A c, ov3 = .slice A 5 c from by obtain ⟨A, c, h, _⟩ := hS3.shape; exact ⟨A, c, h⟩)
  have H3 := H2.keep (w' := w3) fun k hk => hb3.block k (H2.lt k hk)
  have hbw3 := Lib.hid (hb2.trans (hb3.mono hb2.size))
  have W3 := hS3.src encV_one
  clear H2 hb3 hb2 hS3
  replace hb1 := Lib.hid hb1
  replace F1 := Lib.hid F1
  clear ho3
  go_wp2_with (at_builtin; first | (refine wpList_evsN 6 w3 rfl (.tmp 13) (.tmp 14) rfl _ _ _ wroteL ([⟨1, 1, 0, 0, false, 0⟩] ++ wroteL) rfl H3 rfl W3 rfl rfl (by decide) (by decide) ?_; intro A4 c4 w4 hc4 H4 f4; have W4 := (Sl.new (e := 61) encV_len w4 [⟨1, 2, 0, 7, false, 0⟩, ⟨1, 2, 1, 6, false, 0⟩] (by decide)).src encV_one) | (refine wpList_evsN 8 (w4.alloc _) rfl (.tmp 16) (.tmp 19) rfl _ _ _ _ knownL rfl (H4.alloc _) rfl W4 rfl rfl (by decide) (by decide) ?_; intro A5 c5 w5 hc5 H5 f5))
  have hbw5 : Below w1.heap.size w1 w5 := by
    have h4 : Below w1.heap.size w1 w4 := hbw3.out.trans (f4.below h2l.out hbw3.out.size)
    have h4' : ∀ q, own (.slice A4 6 c4) q → w1.heap.size ≤ q := f4.ge h2l.out hbw3.out.size
    exact (h4.alloc h4.size _).trans (f5.below h4' (h4.alloc h4.size _).size)
  have O5 : OpIn w5 (.slice (some ⟨w.heap.size, 0, none⟩) 2 2) (.slice A5 8 c5) [5, 6] knownL := ⟨F1.out.below hbw5, H5.liesV known_wf (by decide), known_wf, by decide, by decide, by decide⟩
  clear H5 f5 f4 H4 W4 W3 H3 hc4 hc5 hbw3
  have CK1 := Lib.hid (CK _ _ _ _ _ O5)
  rw [k_chk, show seeOdd ([5, 6] : List Int).length knownL = (-1, 0) from k_odd] at CK1
  clear O5
  replace hbw5 := Lib.hid hbw5
  refine CK1.out.mono ?_
  rintro _ w6 ⟨hb6, rfl⟩
  clear CK1
  have hbw6 := Lib.hid (hbw5.out.trans (hb6.mono hbw5.out.size))
  clear hb6 hbw5
  go_wp2_with fail
  have O6 := Blk.new w6 28 #[.int .i64 (-1), .int .i64 0]
  have hbv6 := hbw6.out.alloc hbw6.out.size (.cells #[.int .i64 (-1), .int .i64 0] 28)
  refine (wrote_b _).mono ?_
  rintro _ w7 ⟨hb7, ov7, rfl, hS7, ho7⟩
  have O7 := O6.below hb7 O6.lt
  have hbw7 := hbv6.trans (hb7.mono hbv6.size)
  have I7 := Lib.hid (BH _ _ _ _ _ 1 (OpIn.wrote (w := w) (F1.out.below hbw7) hS7))
  rw [w_beh1] at I7
  have n7 : w6.heap.size < w7.heap.size := O7.lt
  clear hb7 hS7 ho7 O6 hbv6 hbw6
  replace O7 := Lib.hid O7
  replace hbw7 := Lib.hid hbw7
  replace n7 := Lib.hid n7
  go_wp2_with fail
  refine I7.out.mono ?_
  rintro _ w8 ⟨hb8, ov8, rfl, hW8, ho8⟩
  clear I7
  have O8 := Lib.hid ((O7.out.below hb8 n7.out).alloc (.cells #[.int .i64 (-1), .int .i64 0] 28))
  have P8 := Lib.hid (Blk.new w8 28 #[.int .i64 (-1), .int .i64 0])
  have W8 := Lib.hid (hW8.alloc (.cells #[.int .i64 (-1), .int .i64 0] 28))
  have hbw8 := hbw7.out.trans (hb8.mono hbw7.out.size)
  have hbv8 := Lib.hid (hbw8.alloc hbw8.size (.cells #[.int .i64 (-1), .int .i64 0] 28))
  clear hb8 hbw8 hW8 ho8 O7 hbw7
  go_wp2_with fail
  refine (wrote_b _).mono ?_
  rintro _ w9 ⟨hb9, ov9, rfl, hS9, ho9⟩
  have O9 := Lib.hid (O8.out.below hb9 O8.out.lt)
  have P9 := Lib.hid (P8.out.below hb9 P8.out.lt)
  have W9 := Lib.hid (W8.out.keep (w' := w9) fun k hk => hb9.block k (W8.out.lt k hk))
  have hbw9 := hbv8.out.trans (hb9.mono hbv8.out.size)
  have I9 := Lib.hid (BH _ _ _ _ _ 2 (OpIn.wrote (w := w) (F1.out.below hbw9) hS9))
  rw [w_beh2] at I9
  clear hb9 hS9 ho9 O8 P8 W8 hbv8
  replace hbw9 := Lib.hid hbw9
  go_wp2_with fail
  refine I9.out.mono ?_
  rintro _ wa ⟨hba, ova, rfl, hWa, hoa⟩
  clear I9
  have Oa := Lib.hid ((O9.out.below hba O9.out.lt).alloc (.cells #[.int .i64 (-1), .int .i64 2] 28))
  have Pa := Lib.hid ((P9.out.below hba P9.out.lt).alloc (.cells #[.int .i64 (-1), .int .i64 2] 28))
  have Qa := Lib.hid (Blk.new wa 28 #[.int .i64 (-1), .int .i64 2])
  have Wa := Lib.hid ((W9.out.keep (w' := wa) fun k hk => hba.block k (W9.out.lt k hk)).alloc (.cells #[.int .i64 (-1), .int .i64 2] 28))
  have hbwa := hbw9.out.trans (hba.mono hbw9.out.size)
  have hbva := Lib.hid (hbwa.alloc hbwa.size (.cells #[.int .i64 (-1), .int .i64 2] 28))
  clear hba hbwa hWa hoa O9 P9 W9 hbw9
  go_wp2_with fail
  refine (wrote_b _).mono ?_
  rintro _ wb ⟨hbb, ovb, rfl, hSb, hob⟩
  have Ob := Lib.hid (Oa.out.below hbb Oa.out.lt)
  have Pb := Lib.hid (Pa.out.below hbb Pa.out.lt)
  have Qb := Lib.hid (Qa.out.below hbb Qa.out.lt)
  have Wb := Lib.hid (Wa.out.keep (w' := wb) fun k hk => hbb.block k (Wa.out.lt k hk))
  have hbwb := hbva.out.trans (hbb.mono hbva.out.size)
  have Ib := Lib.hid (CK _ _ _ _ _ (OpIn.wrote (w := w) (F1.out.below hbwb) hSb))
  rw [w_chk, show seeOdd ([5, 6] : List Int).length wroteL = (-1, 0) from w_odd] at Ib
  clear hbb hSb hob Oa Pa Qa Wa hbva
  replace hbwb := Lib.hid hbwb
  go_wp2_with fail
  refine Ib.out.mono ?_
  rintro _ wc ⟨hbc, rfl⟩
  clear Ib
  obtain ⟨wd, hwd⟩ : ∃ wd, wd = wc.alloc (.cells #[.int .i64 (-1), .int .i64 0] 28) := ⟨_, rfl⟩
  have Od : Blk wd w6.heap.size 28 #[.int .i64 (-1), .int .i64 0] := by rw [hwd]; exact (Ob.out.below hbc Ob.out.lt).alloc _
  have Pd : Blk wd w8.heap.size 28 #[.int .i64 (-1), .int .i64 0] := by rw [hwd]; exact (Pb.out.below hbc Pb.out.lt).alloc _
  have Qd : Blk wd wa.heap.size 28 #[.int .i64 (-1), .int .i64 2] := by rw [hwd]; exact (Qb.out.below hbc Qb.out.lt).alloc _
  have Wd : Wl wd ov8 [7, 8] := by rw [hwd]; exact (Wb.out.keep (w' := wc) fun k hk => hbc.block k (Wb.out.lt k hk)).alloc _
  have hbwd : Below w.heap.size w wd := by
    have h := hbwb.out.trans (hbc.mono hbwb.out.size)
    have h2 := hb1.out.trans ((h.alloc h.size (.cells #[.int .i64 (-1), .int .i64 0] 28)).mono hb1.out.size)
    rw [hwd]
    exact h2
  have L1 := Wd.lies.alloc (.cells #[.int .u64 7, .int .u64 8] 35)
  have L2 : Lies (wd.alloc (.cells #[.int .u64 7, .int .u64 8] 35)) (.slice (some ⟨wd.heap.size, 0, none⟩) 2 2) [7, 8] := Lies.new wd [7, 8] (by decide)
  have C1 := Lib.hid (words_b L1 L2 (by decide))
  rw [show decide (([7, 8] : List Int) = [7, 8]) = true from rfl] at C1
  have a0 := (Od.cell 0).trans (show _ = some (.int .i64 (-1)) from rfl)
  have a1 := (Od.cell 1).trans (show _ = some (.int .i64 0) from rfl)
  have b0 := (Pd.cell 0).trans (show _ = some (.int .i64 (-1)) from rfl)
  have b1 := (Pd.cell 1).trans (show _ = some (.int .i64 0) from rfl)
  have Qd1 := Qd.alloc (.cells #[.int .u64 7, .int .u64 8] 35)
  have d0 := fun n => (show (((wd.alloc (.cells #[.int .u64 7, .int .u64 8] 35)).drewN n).cell? ⟨wa.heap.size, 0, none⟩ = some (.int .i64 (-1))) from (Qd1.cell 0).trans rfl)
  have d1 := fun n => (show (((wd.alloc (.cells #[.int .u64 7, .int .u64 8] 35)).drewN n).cell? ⟨wa.heap.size, 1, none⟩ = some (.int .i64 2)) from (Qd1.cell 1).trans rfl)
  have e0 := fun W => odd_eql (-1) 0 (-1) 0 W
  have e2 := fun W => odd_eql (-1) 2 (-1) 2 W
  simp only [decide_true, Bool.and_self] at e0 e2
  clear hbc Ob Pb Qb Wb hbwb L1 L2 Od Pd Qd Qd1 Wd
  subst hwd
  rw [World.size_alloc] at C1
  replace hbwd := Lib.hid hbwd
  replace d0 := Lib.hid d0
  replace d1 := Lib.hid d1
  go_wp2_with fail
  refine C1.out.mono ?_
  rintro _ we ⟨⟨n9, rfl⟩, rfl⟩
  have d0' := d0.out n9
  have d1' := d1.out n9
  clear d0 d1 C1
  go_wp2
  go_ret
  exact ⟨rfl, below_drewNs (hbwd.out.alloc hbwd.out.size _) _⟩
end Go.Proofs.Ytloiadhdkgkjkaa
/- Two histories, two lists of sights, that are the same: by contract. -/
namespace Go.Proofs.Ytloiadhdkgkjkaa
open Go.RowKit
set_option maxHeartbeats 40000000
set_option linter.unusedVariables false
set_option linter.unusedSimpArgs false
theorem evq_self (a : Ev) : evq a a = true := by simp [evq]
set_option maxRecDepth 100000 in
theorem rsame_b {w : World} {va vb : Value} {l : List Ev} (h1 : LiesV w va l) (h2 : LiesV w vb l) :
    Calls Try.prog 35 #[va, vb] w fun x w' => x = .returned (.bool true) ∧ ∃ n, w' = w.drewN n := by
  obtain ⟨A1, c1, rfl, hc1, -, -, hl48, k1⟩ := h1
  obtain ⟨A2, c2, rfl, hc2, -, -, -, k2⟩ := h2
  have hlen : (l.length : Int) ≤ 9223372036854775807 := by omega
  have hq : ∀ (a0 a1 a2 a3 : Int) (a4 : Bool) (a5 : Int) (w : World), (binOp .neq 61 (.agg #[.int .i64 a0, .int .i64 a1, .int .u64 a2, .int .u64 a3, .bool a4, .int .i64 a5]) (.agg #[.int .i64 a0, .int .i64 a1, .int .u64 a2, .int .u64 a3, .bool a4, .int .i64 a5])).run Try.prog w = .ok (.bool false) w := fun a0 a1 a2 a3 a4 a5 w => by
    have h := ev_neq ⟨a0, a1, a2, a3, a4, a5⟩ ⟨a0, a1, a2, a3, a4, a5⟩ w
    rw [evq_self] at h
    exact h
  go_enter Try.func35, Try.ntmps35
  go_wp2
  go_loopg [5] l.length (fun gk c5 wr => ∃ j nd : Nat, gk + j = l.length ∧ c5 = .int .i64 (j : Int) ∧ wr = w.drewN nd)
  case atStart => exact ⟨0, 0, rfl, rfl, rfl⟩
  case round =>
    obtain ⟨j, nd, hj, rfl, rfl⟩ := hrel
    rcases Nat.lt_or_ge j l.length with hlt | hge
    · obtain ⟨g1, o1, rfl, -, d⟩ := k1 j hlt
      obtain ⟨g2, o2, rfl, -, f⟩ := k2 j hlt
      generalize l[j] = e at *
      have d0 := d 0 (by decide)
      have d1 := d 1 (by decide)
      have d2 := d 2 (by decide)
      have d3 := d 3 (by decide)
      have d4 := d 4 (by decide)
      have d5 := d 5 (by decide)
      have f0 := f 0 (by decide)
      have f1 := f 1 (by decide)
      have f2 := f 2 (by decide)
      have f3 := f 3 (by decide)
      have f4 := f 4 (by decide)
      have f5 := f 5 (by decide)
      simp only [encV, List.getElem?_cons_zero, List.getElem?_cons_succ, Nat.add_zero] at d0 d1 d2 d3 d4 d5 f0 f1 f2 f3 f4 f5
      have b1 : (j : Int) < l.length := by omega
      clear d f k1 k2
      go_wp2
      go_quiet (fail)
      go_wp2
      obtain ⟨k, rfl⟩ : ∃ k, gk = k + 1 := ⟨gk - 1, by omega⟩
      go_roundg k
      case measure => omega
      case rel => exact ⟨j + 1, nd + nq, by omega, by simp, rfl⟩
    · go_wp2
      go_ret
      exact ⟨rfl, nd, rfl⟩
theorem sight_info : (Try.prog.info? 40).map (fun i => (i.zero, i.size, i.bytes)) = some (some (.agg #[.int .i64 0, .int .i64 0, .int .i64 0, .int .u64 0, .int .i64 0, .int .i64 0, .int .i64 0, .int .i64 0, .int .i64 0, .int .i64 0]), 10, 80) := by kernel_rfl
end Go.Proofs.Ytloiadhdkgkjkaa
/- The document's answer for chapter 16: begin, stood, Reads by contract. -/
namespace Go.Proofs.Ytloiadhdkgkjkaa
open Go.RowKit
set_option maxHeartbeats 40000000
set_option linter.unusedVariables false
set_option linter.unusedSimpArgs false
theorem LiesV.at {w : World} {A : Option Addr} {cp : Nat} {l : List Ev} (h : LiesV w (.slice A l.length cp) l) {j : Nat} (hj : j < l.length) : ∃ g o, A = some ⟨g, o, none⟩ ∧ ∀ j, j < l.length → w.cell? ⟨g, o + j * 6, none⟩ = some (.int .i64 (evAt l j).th) ∧ w.cell? ⟨g, o + j * 6 + 1, none⟩ = some (.int .i64 (evAt l j).kd) ∧ w.cell? ⟨g, o + j * 6 + 2, none⟩ = some (.int .u64 (evAt l j).ad) ∧ w.cell? ⟨g, o + j * 6 + 3, none⟩ = some (.int .u64 (evAt l j).wd) ∧ w.cell? ⟨g, o + j * 6 + 4, none⟩ = some (.bool (evAt l j).ow) ∧ w.cell? ⟨g, o + j * 6 + 5, none⟩ = some (.int .i64 (evAt l j).er) := by
  obtain ⟨A', cp', e, -, -, -, -, k⟩ := h
  injection e with e1 e2 e3
  subst e1 e3
  obtain ⟨g, o, rfl, -, -⟩ := k j hj
  refine ⟨g, o, rfl, fun i hi => ?_⟩
  obtain ⟨g', o', e, -, c⟩ := k i hi
  injection e with e
  injection e with e4 e5
  subst e4 e5
  have he : evAt l i = l[i] := by unfold evAt; rw [List.getD_eq_getElem?_getD, List.getElem?_eq_getElem hi]; rfl
  rw [he]
  exact ⟨c 0 (by decide), c 1 (by decide), c 2 (by decide), c 3 (by decide), c 4 (by decide), c 5 (by decide)⟩
theorem LiesV.len {w : World} {v : Value} {l : List Ev} (h : LiesV w v l) : l.length * 48 ≤ 140737488351280 := by
  obtain ⟨_, _, _, _, _, _, h, _⟩ := h
  omega
/-- The place of the thread's last Begin below n; 0: none. -/
def begF (l : List Ev) (t : Int) : Nat → Nat
  | 0 => 0
  | n + 1 => if (evAt l n).th = t ∧ (evAt l n).kd = 1 then n else begF l t n
set_option maxRecDepth 100000 in
theorem rbegin_b {w : World} {A : Option Addr} {cp : Nat} {l : List Ev} (hL : LiesV w (.slice A l.length cp) l) {a : Nat} (ha : a < l.length) :
    Calls Try.prog 54 #[.slice A l.length cp, .int .i64 a] w fun x w' => x = .returned (.int .i64 (begF l (evAt l a).th (a + 1))) ∧ ∃ n, w' = w.drewN n := by
  have hln := hL.len
  obtain ⟨g, o, rfl, hc⟩ := hL.at ha
  obtain ⟨a0, -, -, -, -, -⟩ := hc a ha
  have hlen : (l.length : Int) ≤ 9223372036854775807 := by omega
  have ha' : (a : Int) < l.length := by omega
  obtain ⟨t, ht⟩ : ∃ t, (evAt l a).th = t := ⟨_, rfl⟩
  rw [ht] at a0 ⊢
  replace ht := Lib.hid ht
  obtain ⟨r, hr⟩ : ∃ r, begF l t (a + 1) = r := ⟨_, rfl⟩
  rw [hr]
  go_enter Try.func54, Try.ntmps54
  go_wp2
  go_loopg [5] (a + 1) (fun gk c5 wr => ∃ nd : Nat, gk ≤ a + 1 ∧ c5 = .int .i64 ((gk : Int) - 1) ∧ wr = w.drewN nd ∧ begF l t gk = r)
  case atStart => exact ⟨0, Nat.le_refl _, by simp, rfl, hr⟩
  case round =>
    obtain ⟨nd, hj, rfl, rfl, hb⟩ := hrel
    cases gk with
    | zero =>
      replace hb := Lib.hid hb
      go_wp2
      go_ret
      exact ⟨by rw [← hb.out]; rfl, nd, rfl⟩
    | succ k =>
      have hk : k < l.length := by omega
      obtain ⟨d0, d1, -, -, -, -⟩ := hc k hk
      unfold begF at hb
      obtain ⟨x0, hx0⟩ : ∃ x, (evAt l k).th = x := ⟨_, rfl⟩
      obtain ⟨x1, hx1⟩ : ∃ x, (evAt l k).kd = x := ⟨_, rfl⟩
      rw [hx0, hx1] at hb
      rw [hx0] at d0
      rw [hx1] at d1
      clear hx0 hx1 hc
      have e1 : (((k + 1 : Nat) : Int) - 1) = (k : Int) := by omega
      rw [e1]
      have hk0 : (0 : Int) ≤ (k : Int) := by omega
      have hk1 : (k : Int) < (l.length : Int) := by omega
      have w1 := IntWalk.i64_in (n := (k : Int) - 1) (by omega)
      clear e1
      by_cases h0 : x0 = t
      · have g0 : (x0 == t) = true := by simpa using h0
        by_cases h1 : x1 = 1
        · have g1 : (x1 == 1) = true := by simpa using h1
          rw [if_pos ⟨h0, h1⟩] at hb
          replace hb := Lib.hid hb
          replace h0 := Lib.hid h0
          replace h1 := Lib.hid h1
          go_wp2
          go_quiet (fail)
          go_wp2
          go_ret
          exact ⟨by rw [← hb.out]; rfl, nd + nq, drewN_drewN _ _ _⟩
        · have g1 : (x1 == 1) = false := by simpa using h1
          rw [if_neg (fun h => h1 h.2)] at hb
          replace hb := Lib.hid hb
          replace h0 := Lib.hid h0
          replace h1 := Lib.hid h1
          go_wp2
          go_quiet (fail)
          go_wp2
          go_roundg k
          case measure => omega
          case rel => exact ⟨nd + nq, by omega, by simp, rfl, hb.out⟩
      · have g0 : (x0 == t) = false := by simpa using h0
        rw [if_neg (fun h => h0 h.1)] at hb
        replace hb := Lib.hid hb
        replace h0 := Lib.hid h0
        go_wp2
        go_quiet (fail)
        go_wp2
        go_roundg k
        case measure => omega
        case rel => exact ⟨nd + nq, by omega, by simp, rfl, hb.out⟩
/-- Did these words stand there together? -/
def stoodR (cells : List Int) (words : List (Int × Int)) : Bool := words.all fun p => cells.getD p.1.toNat 0 == p.2
set_option maxRecDepth 100000 in
theorem rstood_b {w : World} {vc vw : Value} {cells : List Int} {words : List (Int × Int)} (h1 : Lies w vc cells) (h2 : Sl 45 2 encC w vw words) (hc : (cells.length : Int) ≤ 9223372036854775807) (hn : (words.length : Int) ≤ 9223372036854775807) (hb : ∀ p ∈ words, 0 ≤ p.1 ∧ p.1 < (cells.length : Int)) :
    Calls Try.prog 34 #[vc, vw] w fun x w' => x = .returned (.bool (stoodR cells words)) ∧ ∃ n, w' = w.drewN n := by
  obtain ⟨A1, c1, rfl, hc1, -, k1⟩ := h1
  obtain ⟨A2, c2, rfl, hc2⟩ := h2.shape
  go_enter Try.func34, Try.ntmps34
  go_wp2
  go_loopg [5] words.length (fun gk c5 wr => ∃ j nd : Nat, gk + j = words.length ∧ c5 = .int .i64 (j : Int) ∧ wr = w.drewN nd ∧ Hid (∀ p ∈ words.take j, (cells.getD p.1.toNat 0 == p.2) = true))
  case atStart => exact ⟨0, 0, rfl, rfl, rfl, Lib.hid (by simp)⟩
  case round =>
    obtain ⟨j, nd, hj, rfl, rfl, hall⟩ := hrel
    rcases Nat.lt_or_ge j words.length with hlt | hge
    · obtain ⟨g2, o2, rfl, hg2, d⟩ := h2.cell encC_len (by decide) hlt
      have d0 := (d j hlt 0 (by decide)).1
      have d1 := (d j hlt 1 (by decide)).1
      obtain ⟨hp0, hp1⟩ := hb _ (List.getElem_mem hlt)
      have htk : words.take (j + 1) = words.take j ++ [words[j]] := by rw [List.take_add_one, List.getElem?_eq_getElem hlt]; rfl
      have hmem : words[j] ∈ words := List.getElem_mem hlt
      generalize words[j] = p at *
      obtain ⟨p1, p2⟩ := p
      simp only [encC, List.getElem?_cons_zero, List.getElem?_cons_succ, Nat.add_zero] at d0 d1
      rw [← Nat.add_assoc] at d1
      dsimp only at hp0 hp1
      obtain ⟨a, rfl⟩ := Int.eq_ofNat_of_zero_le hp0
      have ha : a < cells.length := by omega
      obtain ⟨g1, o1, rfl, f⟩ := k1 a ha
      obtain ⟨y, hy⟩ : ∃ y, cells.getD a 0 = y := ⟨_, rfl⟩
      rw [hy] at f
      have b1 : (j : Int) < words.length := by omega
      clear d k1 h2 hg2
      replace hp0 := Lib.hid hp0
      replace htk := Lib.hid htk
      replace hmem := Lib.hid hmem
      replace hy := Lib.hid hy
      by_cases he : y = p2
      · have he1 : (y != p2) = false := by simpa using he
        replace he := Lib.hid he
        go_wp2
        go_quiet (fail)
        go_wp2
        obtain ⟨k, rfl⟩ : ∃ k, gk = k + 1 := ⟨gk - 1, by omega⟩
        go_roundg k
        case measure => omega
        case rel =>
          refine ⟨j + 1, nd + nq, by omega, by simp, rfl, Lib.hid fun q hq => ?_⟩
          rw [htk.out, List.mem_append, List.mem_singleton] at hq
          rcases hq with hq | hq
          · exact hall.out q hq
          · subst hq
            show (cells.getD ((a : Int)).toNat 0 == p2) = true
            rw [Int.toNat_natCast, hy.out, he.out]
            simp
      · have he1 : (y != p2) = true := by simpa using he
        replace he := Lib.hid he
        go_wp2
        go_quiet (fail)
        go_wp2
        go_ret
        refine ⟨ret_bool ?_, nd + nq, drewN_drewN _ _ _⟩
        symm
        unfold stoodR
        rw [List.all_eq_false]
        refine ⟨_, hmem.out, ?_⟩
        dsimp only
        rw [Int.toNat_natCast, hy.out]
        simpa using he.out
    · go_wp2
      go_ret
      refine ⟨ret_bool ?_, nd, rfl⟩
      symm
      unfold stoodR
      rw [List.all_eq_true]
      intro p hp
      exact hall.out p (by rw [List.take_of_length_le hge]; exact hp)
end Go.Proofs.Ytloiadhdkgkjkaa
/- The document's answer for chapter 16: Reads by contract. -/
namespace Go.Proofs.Ytloiadhdkgkjkaa
open Go.RowKit
set_option maxHeartbeats 40000000
set_option linter.unusedVariables false
set_option linter.unusedSimpArgs false
def rdK (e : Ev) (th : Int) : Bool := (e.th == th && e.kd == 2) && !e.ow
/-- What the thread has read in n events from a place on. -/
def rdF (l : List Ev) (th : Int) (fr : Nat) : Nat → List (Int × Int)
  | 0 => []
  | n + 1 => if rdK (evAt l (fr + n)) th = true then rdF l th fr n ++ [((evAt l (fr + n)).ad, (evAt l (fr + n)).wd)] else rdF l th fr n
theorem rdF_len (l : List Ev) (th : Int) (fr : Nat) : ∀ n, (rdF l th fr n).length ≤ n
  | 0 => Nat.le_refl _
  | n + 1 => by
    unfold rdF
    have := rdF_len l th fr n
    split
    · simp; omega
    · omega
set_option maxRecDepth 100000 in
theorem rreads_b {w : World} {A : Option Addr} {cp : Nat} {l : List Ev} (hL : LiesV w (.slice A l.length cp) l) (th sn how rd wt : Int) (fr la : Nat) (hfl : fr ≤ la + 1) (hla : la < l.length) :
    Calls Try.prog 25 #[.slice A l.length cp, .agg #[.int .i64 th, .int .i64 fr, .int .i64 la, .int .u64 sn, .int .i64 how, .int .i64 rd, .int .i64 wt]] w fun x w' => Below w.heap.size w w' ∧ ∃ ov, x = .returned ov ∧ Sl 45 2 encC w' ov (rdF l th fr (la + 1 - fr)) ∧ ∀ q, own ov q → w.heap.size ≤ q := by
  have hln := hL.len
  obtain ⟨g, o, rfl, hc⟩ := hL.at hla
  have hlen : (l.length : Int) ≤ 9223372036854775807 := by omega
  have hla' : (la : Int) < l.length := by omega
  have hB1 := Lib.hid (Blk.new w 38 #[.int .i64 th, .int .i64 fr, .int .i64 la, .int .u64 sn, .int .i64 how, .int .i64 rd, .int .i64 wt])
  have hb1 := Lib.hid ((Below.refl w.heap.size w).alloc (Nat.le_refl _) (.cells #[.int .i64 th, .int .i64 fr, .int .i64 la, .int .u64 sn, .int .i64 how, .int .i64 rd, .int .i64 wt] 38))
  replace hc := Lib.hid hc
  replace hL := Lib.hid hL
  obtain ⟨r, hr⟩ : ∃ r, rdF l th fr (la + 1 - fr) = r := ⟨_, rfl⟩
  rw [hr]
  replace hr := Lib.hid hr
  go_enter Try.func25, Try.ntmps25
  go_wp2
  go_loopw [5, 6] (fun c5 c6 wr => ∃ (n : Nat) (ov : Value), n ≤ la + 1 - fr ∧ c6 = .int .i64 ((fr + n : Nat) : Int) ∧ c5 = ov ∧ Hid (Sl 45 2 encC wr ov (rdF l th fr n)) ∧ Hid (∀ q, own ov q → w.heap.size ≤ q) ∧ Hid (Blk wr w.heap.size 38 #[.int .i64 th, .int .i64 fr, .int .i64 la, .int .u64 sn, .int .i64 how, .int .i64 rd, .int .i64 wt]) ∧ Hid (Below w.heap.size w wr)) (fun _ c6 _ => la + 1 - (intOf c6).toNat)
  case atStart => exact ⟨0, _, Nat.zero_le _, rfl, rfl, Lib.hid (Sl.nil _), Lib.hid (fun q hq => absurd hq (no_own_nil q)), hB1, hb1⟩
  case round =>
    obtain ⟨n, ov, hn, rfl, rfl, hS, hown, hB, hbr⟩ := hrel
    by_cases hlt : n < la + 1 - fr
    · have hj : fr + n < l.length := by omega
      have b1 : ((fr + n : Nat) : Int) < l.length := by omega
      have b2 : ((fr + n : Nat) : Int) ≤ (la : Int) := by omega
      have b3 : (0 : Int) ≤ ((fr + n : Nat) : Int) := by omega
      have w1 := IntWalk.i64_in (n := ((fr + n : Nat) : Int) + 1) (by omega)
      obtain ⟨g', o', e, hc'⟩ := (hL.out.below hbr.out (Nat.le_refl _)).at hj
      injection e with e
      injection e with e1 e2
      subst e1 e2
      obtain ⟨d0, d1, d2, d3, d4, -⟩ := hc' (fr + n) hj
      have c0 := (hB.out.cell 0).trans (show _ = some (.int .i64 th) from rfl)
      have c2 := (hB.out.cell 2).trans (show _ = some (.int .i64 la) from rfl)
      have hrl := rdF_len l th fr n
      have hu : Hid (rdF l th fr (n + 1) = if rdK (evAt l (fr + n)) th = true then rdF l th fr n ++ [((evAt l (fr + n)).ad, (evAt l (fr + n)).wd)] else rdF l th fr n) := Lib.hid rfl
      generalize evAt l (fr + n) = ev at *
      obtain ⟨x0, x1, ad, wd, ow, er⟩ := ev
      dsimp only at d0 d1 d2 d3 d4 hu
      clear hc'
      obtain ⟨bb, hbb⟩ : ∃ bb, rdK ⟨x0, x1, ad, wd, ow, er⟩ th = bb := ⟨_, rfl⟩
      rw [hbb] at hu
      unfold rdK at hbb
      dsimp only at hbb
      have hrl2 : Hid (((rdF l th fr n).length + 1) * 16 ≤ 140737488355328) := Lib.hid (by omega)
      generalize hj1 : fr + n = m at *
      replace hj1 := Lib.hid hj1
      by_cases h0 : x0 = th
      · have g0 : (x0 == th) = true := by simpa using h0
        by_cases h1 : x1 = 2
        · have g1 : (x1 == 2) = true := by simpa using h1
          rw [g0, g1] at hbb
          replace h0 := Lib.hid h0
          replace h1 := Lib.hid h1
          cases ow with
          | false =>
            obtain rfl : true = bb := by simpa using hbb
            rw [if_pos rfl] at hu
            go_wp2
            go_quiet (fail)
            go_wp2
            have hb9 := Lib.hid (below_drewNs hbr.out nq)
            have hS9 := Lib.hid (hS.out.drewN nq)
            have hB9 := Lib.hid (hB.out.drewN nq)
            have D : ∀ W : World, W = wr.drewN nq → W.cell? ⟨g, o + m * 6 + 2, none⟩ = some (.int .u64 ad) ∧ W.cell? ⟨g, o + m * 6 + 3, none⟩ = some (.int .u64 wd) := fun W hW => by rw [hW]; exact ⟨d2, d3⟩
            obtain ⟨wq, hwq⟩ : ∃ wq, wq = wr.drewN nq := ⟨_, rfl⟩
            obtain ⟨d2', d3'⟩ := D wq hwq
            rw [← hwq] at hb9 hS9 hB9 ⊢
            clear D hS hB hbr d0 d1 d2 d3 d4 c0 c2 hwq
            refine wp_region_mixH (fun _ => True) [3, 3, 3, 3, 3, 1, 3, 3, 3, 3, 1, 2, 2, 2, 3] (List.range 15) (by kernel_rfl) (by kernel_rfl) (fun _ _ h => h) trivial ?_
            (repeat ((first | refine wpMixH_pure rfl rfl (fun K hK => ?_) | refine wpMixH_loc rfl rfl (fun K hK => ?_) | refine wpMixH_any rfl rfl (fun K hK => ?_)); go_simp; refine hK _ _ ?_; clear hK K))
            refine wpMixH_loud rfl rfl (fun n2 K hK => ?_)
            go_wp2
            refine hK _ _ (fun _ => trivial) ?_; clear hK K
            refine wpMixH_loud rfl rfl (fun n3 K hK => ?_)
            go_wp2
            refine hK _ _ (fun _ => trivial) ?_; clear hK K
            refine wpMixH_loud rfl rfl (fun n4 K hK => ?_)
            obtain ⟨wx, hwx⟩ : ∃ wx, wx = (wq.drewN (1 + n2 + n3)).drewN n4 := ⟨_, rfl⟩
            have hsz : wx.heap.size = wq.heap.size := by rw [hwx]; rfl
            have hSX := (hS9.out.drewN (1 + n2 + n3)).drewN n4
            have hBX := (hB9.out.drewN (1 + n2 + n3)).drewN n4
            have hbX := below_drewNs (below_drewNs hb9.out (1 + n2 + n3)) n4
            rw [← hwx] at hSX hBX hbX
            rw [show ((((wq.drewN (1 + n2 + n3)).alloc (.cells #[.int .u64 ad, .int .u64 wd] 45)).drewN n4)) = wx.alloc (.cells #[.int .u64 ad, .int .u64 wd] 45) from by rw [hwx]; rfl]
            refine wpList_cellO wx rfl (.tmp 39) (.tmp 51) rfl _ _ (ad, wd) rfl hSX (by show Value.slice (some ⟨wq.heap.size, 0, none⟩) 1 1 = _; rw [hsz]) (by have := hrl2.out; omega) hrl2.out ?_
            intro A5 cap5 w5 hc5 hS5 hF5
            have hB5 := hF5.blk hBX (hSX.ne_ hBX (by decide))
            have hb5 := hbX.trans (hF5.below hown.out hbX.size)
            have ho5 := hF5.ge hown.out hbX.size
            have hS6 := Lib.hid (fun j => hS5.drewN j)
            have hB6 := Lib.hid (fun j => hB5.drewN j)
            have hb6 := Lib.hid (fun j => below_drewNs hb5 j)
            replace ho5 := Lib.hid ho5
            clear hSX hBX hbX hS5 hF5 hB5 hb5 hS9 hB9 hb9 hown d2' d3'
            replace hwx := Lib.hid hwx
            replace hsz := Lib.hid hsz
            go_wp2
            refine hK _ _ (fun _ => trivial) ?_; clear hK K
            (repeat ((first | refine wpMixH_pure rfl rfl (fun K hK => ?_) | refine wpMixH_loc rfl rfl (fun K hK => ?_) | refine wpMixH_any rfl rfl (fun K hK => ?_)); go_simp; refine hK _ _ ?_; clear hK K))
            refine wpMixH_nil (fun n5 => ?_)
            go_wp2
            go_roundw
            case rel => exact ⟨n + 1, _, by omega, by have := hj1.out; go_num, rfl, Lib.hid (by rw [hu.out]; have := (rdF_len l th fr n); simpa using hS6.out n5), ho5, Lib.hid (hB6.out _), Lib.hid (hb6.out _)⟩
            case measure => have := hj1.out; simp [intOf]; omega
          | true =>
            obtain rfl : false = bb := by simpa using hbb
            rw [if_neg (by simp)] at hu
            go_wp2
            go_quiet (fail)
            go_wp2
            go_roundw
            case rel => exact ⟨n + 1, _, by omega, by have := hj1.out; go_num, rfl, Lib.hid (by rw [hu.out]; exact hS.out.drewN _), hown, Lib.hid (hB.out.drewN _), Lib.hid (below_drewNs hbr.out _)⟩
            case measure => have := hj1.out; simp [intOf]; omega
        · have g1 : (x1 == 2) = false := by simpa using h1
          rw [g0, g1] at hbb
          obtain rfl : false = bb := by simpa using hbb
          rw [if_neg (by simp)] at hu
          replace h0 := Lib.hid h0
          replace h1 := Lib.hid h1
          go_wp2
          go_quiet (fail)
          go_wp2
          go_roundw
          case rel => exact ⟨n + 1, _, by omega, by have := hj1.out; go_num, rfl, Lib.hid (by rw [hu.out]; exact hS.out.drewN _), hown, Lib.hid (hB.out.drewN _), Lib.hid (below_drewNs hbr.out _)⟩
          case measure => have := hj1.out; simp [intOf]; omega
      · have g0 : (x0 == th) = false := by simpa using h0
        rw [g0] at hbb
        obtain rfl : false = bb := by simpa using hbb
        rw [if_neg (by simp)] at hu
        replace h0 := Lib.hid h0
        go_wp2
        go_quiet (fail)
        go_wp2
        go_roundw
        case rel => exact ⟨n + 1, _, by omega, by have := hj1.out; go_num, rfl, Lib.hid (by rw [hu.out]; exact hS.out.drewN _), hown, Lib.hid (hB.out.drewN _), Lib.hid (below_drewNs hbr.out _)⟩
        case measure => have := hj1.out; simp [intOf]; omega
    · have hn2 : n = la + 1 - fr := by omega
      have b2 : ¬ ((fr + n : Nat) : Int) ≤ (la : Int) := by omega
      have c2 := (hB.out.cell 2).trans (show _ = some (.int .i64 la) from rfl)
      subst hn2
      rw [hr.out] at hS
      generalize hj1 : fr + (la + 1 - fr) = m at *
      replace hj1 := Lib.hid hj1
      go_wp2
      go_ret
      exact ⟨hbr.out, _, rfl, hS.out, hown.out⟩
end Go.Proofs.Ytloiadhdkgkjkaa
