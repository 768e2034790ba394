/- The closures of opaque.see; slices.IndexFunc over events, by contract. -/
import Derived.Test.YtloiadhdkgkjkaaEvY
namespace Go.Proofs.Ytloiadhdkgkjkaa
open Go.RowKit
set_option maxHeartbeats 4000000
set_option linter.unusedVariables false
set_option linter.unusedSimpArgs false
def plainE (e : Ev) : Bool := e.kd == 10 || e.kd == 11
def farE (n : Nat) (e : Ev) : Bool := (e.kd == 2 || e.kd == 3) && decide ((n : Int) ≤ e.ad)
def idxE (p : Ev → Bool) (l : List Ev) : Int := match l.findIdx? p with | some i => (i : Int) | none => -1
theorem idxE_some {p : Ev → Bool} {l : List Ev} {i : Nat} (hi : i < l.length) (h1 : p (l[i]'hi) = true) (h0 : ∀ j (hj : j < i), p (l[j]'(Nat.lt_trans hj hi)) = false) : idxE p l = i := by
  unfold idxE
  have : l.findIdx? p = some i := List.findIdx?_eq_some_iff_getElem.2 ⟨hi, h1, fun j hj => by simpa using h0 j hj⟩
  rw [this]
theorem idxE_none {p : Ev → Bool} {l : List Ev} (h : ∀ j (hj : j < l.length), p (l[j]'hj) = false) : idxE p l = -1 := by
  unfold idxE
  have : l.findIdx? p = none := List.findIdx?_eq_none_iff.2 fun x hx => by
    obtain ⟨j, hj, rfl⟩ := List.mem_iff_getElem.1 hx
    simpa using h j hj
  rw [this]
set_option maxRecDepth 100000 in
theorem plainc_b (e : Ev) (w : World) : Calls Try.prog 51 #[evV e] w fun x w' => x = .returned (.bool (plainE e)) ∧ Below w.heap.size w w' := by
  obtain ⟨th, kd, ad, wd, ow, er⟩ := e
  have hbel := Lib.hid (fun kd : Int => (Below.refl w.heap.size w).alloc (Nat.le_refl _) (.cells #[.int .i64 th, .int .i64 kd, .int .u64 ad, .int .u64 wd, .bool ow, .int .i64 er] 61))
  unfold evV
  dsimp only
  go_enter Try.func51, Try.ntmps51
  go_wp2
  all_goals go_ret
  all_goals exact ⟨ret_bool (by simp_all [plainE]), hbel.out _⟩
set_option maxRecDepth 100000 in
theorem farc_b (e : Ev) (had : 0 ≤ e.ad) (w : World) {fb : Nat} {A : Option Addr} {n cp : Nat} (hb : Blk w fb 22 #[.slice A n cp]) (hn : n ≤ 9223372036854775807) : Calls Try.prog 52 #[evV e, .pointer (some ⟨fb, 0, none⟩)] w fun x w' => x = .returned (.bool (farE n e)) ∧ Below w.heap.size w w' := by
  obtain ⟨th, kd, ad, wd, ow, er⟩ := e
  have hbel := Lib.hid (fun kd : Int => (Below.refl w.heap.size w).alloc (Nat.le_refl _) (.cells #[.int .i64 th, .int .i64 kd, .int .u64 ad, .int .u64 wd, .bool ow, .int .i64 er] 61))
  have c0 := (hb.alloc (.cells #[.int .i64 th, .int .i64 kd, .int .u64 ad, .int .u64 wd, .bool ow, .int .i64 er] 61)).cell 0
  simp only [List.getElem?_toArray, List.getElem?_cons_zero] at c0
  have hn' : (n : Int) ≤ 9223372036854775807 := by omega
  unfold evV
  dsimp only at *
  have hc : ((kd == 2) = true) ∨ ((kd == 2) = false ∧ (kd == 3) = true) ∨ ((kd == 2) = false ∧ (kd == 3) = false) := by cases (kd == 2) <;> cases (kd == 3) <;> simp
  rcases hc with h2 | ⟨h2, h3⟩ | ⟨h2, h3⟩
  all_goals
    go_enter Try.func52, Try.ntmps52
    go_wp2
    all_goals go_ret
    all_goals exact ⟨ret_bool (by simp_all [farE]), hbel.out _⟩
set_option maxRecDepth 100000 in
theorem indexE_b {p : Ev → Bool} {gf : Nat} {cap : Array Value} {w : World} {A : Option Addr} {cp : Nat} {l : List Ev} (hL : LiesV w (.slice A l.length cp) l) (eg : ∀ args w, (callFunc gf args).run Try.prog w = .ok (.enter gf args) w)
    (C : ∀ W, Below w.heap.size w W → ∀ e, EvWf e → Calls Try.prog gf (#[evV e] ++ cap) W fun x W' => x = .returned (.bool (p e)) ∧ Below W.heap.size W W') :
    Calls Try.prog 50 #[.slice A l.length cp, .func (.func gf) #[] cap] w fun x w' => x = .returned (.int .i64 (idxE p l)) ∧ Below w.heap.size w w' := by
  have hlen : (l.length : Int) ≤ 9223372036854775807 := by obtain ⟨_, _, _, _, _, _, h, _⟩ := hL; omega
  replace hL := Lib.hid hL
  replace C := Lib.hid C
  go_enter Try.func50, Try.ntmps50
  go_wp2_with fail
  go_loopw [8] (fun i wr => ∃ k : Nat, k ≤ l.length ∧ i = .int .i64 k ∧ Hid (∀ j (hj : j < k) (hj2 : j < l.length), p (l[j]'hj2) = false) ∧ Hid (Below w.heap.size w wr)) (fun i _ => l.length - (intOf i).toNat)
  case atStart => exact ⟨0, Nat.zero_le _, rfl, Lib.hid fun j hj => by omega, Lib.hid (Below.refl _ _)⟩
  case round =>
    obtain ⟨k, hk, rfl, hno, hbl⟩ := hrel
    by_cases hlt : k < l.length
    · obtain ⟨A', cp', eA, hcp, hA0, hwf, hl48, hcl⟩ := hL.out.below hbl.out (Nat.le_refl _)
      injection eA with e1 e2 e3
      subst e1 e3
      have hewf := hwf _ (List.getElem_mem hlt)
      obtain ⟨g, o, rfl, hg, hc⟩ := hcl k hlt
      have HC := Lib.hid (C.out wr hbl.out l[k] hewf)
      have hnk := Lib.hid (fun (h1 : p l[k] = true) => idxE_some hlt h1 (fun j hj => hno.out j hj (Nat.lt_trans hj hlt)))
      have hno' := Lib.hid (fun (h1 : p l[k] = false) j (hj : j < k + 1) (hj2 : j < l.length) => show p (l[j]'hj2) = false from by
        by_cases e : j = k
        · subst e; exact h1
        · exact hno.out j (by omega) hj2)
      generalize l[k] = e at *
      have d0 := hc 0 (by decide)
      have d1 := hc 1 (by decide)
      have d2 := hc 2 (by decide)
      have d3 := hc 3 (by decide)
      have d4 := hc 4 (by decide)
      have d5 := hc 5 (by decide)
      obtain ⟨th, kd, ad, wd, ow, er⟩ := e
      simp only [encV, List.getElem?_cons_zero, List.getElem?_cons_succ, Nat.add_zero] at d0 d1 d2 d3 d4 d5
      unfold evV at HC
      dsimp only at HC
      generalize p ⟨th, kd, ad, wd, ow, er⟩ = r at *
      have hlt' : (k : Int) < (l.length : Int) := by omega
      clear hc hcl hwf hewf hl48 e2 hcp hA0 hg C
      go_wp2_with fail
      refine HC.out.mono ?_
      rintro _ w3 ⟨rfl, hb3⟩
      have hbl3 := Lib.hid (hbl.out.trans (hb3.mono hbl.out.size))
      clear hb3 HC
      cases r
      · go_wp2
        go_roundw
        case rel => exact ⟨k + 1, hlt, by go_num, Lib.hid (hno'.out (by trivial)), hbl3⟩
        case measure => simp [intOf]; omega
      · go_wp2
        go_ret
        exact ⟨ret_int (hnk.out (by trivial)).symm, hbl3.out⟩
    · go_wp2
      go_ret
      exact ⟨ret_int (idxE_none fun j hj => hno.out j (by omega) hj).symm, hbl.out⟩
/-- What is told of a history's first bad event. -/
def badOf (i er : Int) (o : Int × Int) : Int × Int := if 0 ≤ i then (i, er) else o
theorem idxE_ge (p : Ev → Bool) (l : List Ev) : -1 ≤ idxE p l := by unfold idxE; split <;> omega
theorem idxE_lt (p : Ev → Bool) (l : List Ev) : idxE p l < l.length ∨ idxE p l = -1 := by
  unfold idxE
  split
  · rename_i i h
    have := (List.findIdx?_eq_some_iff_getElem.1 h).1
    exact .inl (by omega)
  · exact .inr rfl
set_option maxRecDepth 100000 in
theorem odd_b (a b : Int) (w : World) : Calls Try.prog 37 #[.int .i64 a, .int .i64 b] w fun x w' => x = .returned (.agg #[.int .i64 a, .int .i64 b]) ∧ Below w.heap.size w w' := by
  have hbel := Lib.hid ((Below.refl w.heap.size w).alloc (Nat.le_refl _) (.cells #[.int .i64 a, .int .i64 b] 28))
  go_enter Try.func37, Try.ntmps37
  go_wp2
  exact bodyPost_ret (v := .agg #[.int .i64 a, .int .i64 b]) (by simp [results, Try.results37, go_sem]) rfl ⟨rfl, hbel.out⟩
set_option maxRecDepth 100000 in
theorem bad_b {p : Ev → Bool} {gf : Nat} {cap : Array Value} {w : World} {A : Option Addr} {cp hb ob : Nat} {l : List Ev} {er o1 o2 : Int} (hL : LiesV w (.slice A l.length cp) l) (hH : Blk w hb 23 #[.slice A l.length cp]) (hO : Blk w ob 28 #[.int .i64 o1, .int .i64 o2]) (her : er ≠ 0) (ho2 : o2 = 0)
    (eg : ∀ args w, (callFunc gf args).run Try.prog w = .ok (.enter gf args) w)
    (C : ∀ W, Below w.heap.size w W → ∀ e, EvWf e → Calls Try.prog gf (#[evV e] ++ cap) W fun x W' => x = .returned (.bool (p e)) ∧ Below W.heap.size W W') :
    Calls Try.prog 49 #[.func (.func gf) #[] cap, .int .i64 er, .pointer (some ⟨hb, 0, none⟩), .pointer (some ⟨ob, 0, none⟩)] w fun x w' =>
      (idxE p l < 0 ∧ x = .returned (.bool false) ∧ Below w.heap.size w w') ∨ (0 ≤ idxE p l ∧ x = .returned (.bool true) ∧ Fr (fun k => k = ob) w (fun k => k = ob) w' ∧ Blk w' ob 28 #[.int .i64 (idxE p l), .int .i64 er]) := by
  have H := Lib.hid (indexE_b hL eg C)
  have hge := idxE_ge p l
  subst ho2
  have c0 := hH.cell 0
  simp only [List.getElem?_toArray, List.getElem?_cons_zero] at c0
  have hO := Lib.hid hO
  clear hL C hH
  generalize idxE p l = i at *
  by_cases hi : 0 ≤ i
  · go_enter Try.func49, Try.ntmps49
    go_wp2_with fail
    refine H.out.mono ?_
    rintro _ w1 ⟨rfl, hb1⟩
    go_wp2_with fail
    refine (odd_b _ _ _).mono ?_
    rintro _ w2 ⟨rfl, hb2⟩
    have hb3 := hb1.trans (hb2.mono hb1.size)
    have hO2 := hO.out.below hb3 hO.out.lt
    have d0 := hO2.cell 0
    have d1 := hO2.cell 1
    have f0 := hO2.frozen 0
    have f1 := hO2.frozen 1
    simp only [List.getElem?_toArray, List.getElem?_cons_zero, List.getElem?_cons_succ] at d0 d1
    have hfin : Hid (Fr (fun k => k = ob) w (fun k => k = ob) ((w2.setCell ⟨ob, 0, none⟩ (.int .i64 i)).setCell ⟨ob, 1, none⟩ (.int .i64 er)) ∧ Blk ((w2.setCell ⟨ob, 0, none⟩ (.int .i64 i)).setCell ⟨ob, 1, none⟩ (.int .i64 er)) ob 28 #[.int .i64 i, .int .i64 er]) := Lib.hid ⟨((Fr.of_below hb3 (Nat.le_refl _) (fun k => k = ob)).set (p := ⟨ob, 0, none⟩) (.inl rfl) _).set (p := ⟨ob, 1, none⟩) (.inl rfl) _, by have := (hO2.set_ 0 (.int .i64 i)).set_ 1 (.int .i64 er); simpa using this⟩
    have her' : (er != 0) = true := by simpa using her
    clear hb1 hb2 hb3 hO2 H
    go_wp2
    go_ret
    exact .inr ⟨hi, rfl, hfin.out.1, hfin.out.2⟩
  · go_enter Try.func49, Try.ntmps49
    go_wp2_with fail
    refine H.out.mono ?_
    rintro _ w1 ⟨rfl, hb1⟩
    have hi' : i < 0 := by omega
    have hO2 := hO.out.below hb1 hO.out.lt
    have d1 := hO2.cell 1
    simp only [List.getElem?_toArray, List.getElem?_cons_zero, List.getElem?_cons_succ] at d1
    replace hb1 := Lib.hid hb1
    clear hO2 H
    go_wp2
    go_ret
    exact .inl ⟨hi', rfl, hb1.out⟩
end Go.Proofs.Ytloiadhdkgkjkaa

