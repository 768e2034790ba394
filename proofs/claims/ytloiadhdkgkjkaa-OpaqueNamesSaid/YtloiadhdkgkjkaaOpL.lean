/- slices.IndexFunc over sights, by contract. -/
import Derived.Test.YtloiadhdkgkjkaaOpJ
namespace Go.Proofs.Ytloiadhdkgkjkaa
open Go.RowKit
set_option maxHeartbeats 4000000
set_option linter.unusedVariables false
set_option linter.unusedSimpArgs false
def idxG (l : List (Sg × Int)) : Int := match l.findIdx? (fun x => decide (x.2 < 0)) with | some i => (i : Int) | none => -1
theorem idxG_some {l : List (Sg × Int)} {i : Nat} (hi : i < l.length) (h1 : decide ((l[i]'hi).2 < 0) = true) (h0 : ∀ j (hj : j < i), decide ((l[j]'(Nat.lt_trans hj hi)).2 < 0) = false) : idxG l = i := by
  unfold idxG
  have : l.findIdx? (fun x => decide (x.2 < 0)) = some i := List.findIdx?_eq_some_iff_getElem.2 ⟨hi, h1, fun j hj => by simpa using h0 j hj⟩
  rw [this]
theorem idxG_none {l : List (Sg × Int)} (h : ∀ j (hj : j < l.length), decide ((l[j]'hj).2 < 0) = false) : idxG l = -1 := by
  unfold idxG
  have : l.findIdx? (fun x => decide (x.2 < 0)) = none := List.findIdx?_eq_none_iff.2 fun x hx => by
    obtain ⟨j, hj, rfl⟩ := List.mem_iff_getElem.1 hx
    simpa using h j hj
  rw [this]
def sV (x : Sg × Int) : Value := .agg #[.int .i64 x.1.tr.th, .int .i64 x.1.tr.first, .int .i64 x.1.tr.last, .int .u64 x.1.tr.sn, .int .i64 x.1.tr.how, .int .i64 x.1.tr.rd, .int .i64 x.1.tr.wr, .int .i64 x.1.fr, .int .i64 x.1.upto, .int .i64 x.2]
set_option maxRecDepth 100000 in
theorem check1_b (x : Sg × Int) (w : World) : Calls Try.prog 29 #[sV x] w fun y w' => y = .returned (.bool (decide (x.2 < 0))) ∧ Below w.heap.size w w' := by
  obtain ⟨⟨⟨th, fi, la, sn, how, rd, wr⟩, rds, fr, up⟩, at0⟩ := x
  have hbel := Lib.hid ((Below.refl w.heap.size w).alloc (Nat.le_refl _) (.cells #[.int .i64 th, .int .i64 fi, .int .i64 la, .int .u64 sn, .int .i64 how, .int .i64 rd, .int .i64 wr, .int .i64 fr, .int .i64 up, .int .i64 at0] 40))
  unfold sV
  dsimp only
  go_enter Try.func29, Try.ntmps29
  go_wp2
  all_goals go_ret
  all_goals exact ⟨rfl, hbel.out⟩
set_option maxRecDepth 100000 in
theorem indexG_b {w : World} {v : Value} {l : List (Sg × Int)} (hL : Sl 40 10 encG w v l) (hll : l.length ≤ 9223372036854775807) :
    Calls Try.prog 28 #[v, .func (.func 29) #[] #[]] w fun x w' => x = .returned (.int .i64 (idxG l)) ∧ Below w.heap.size w w' := by
  obtain ⟨A, cp, rfl, hcp⟩ := hL.shape
  have hlen : (l.length : Int) ≤ 9223372036854775807 := by omega
  replace hL := Lib.hid hL
  replace hll := Lib.hid hll
  go_enter Try.func28, Try.ntmps28
  go_wp2_with fail
  go_loopw [8] (fun i wr => ∃ k : Nat, k ≤ l.length ∧ i = .int .i64 k ∧ Hid (∀ j (hj : j < k) (hj2 : j < l.length), decide ((l[j]'hj2).2 < 0) = false) ∧ Hid (Below w.heap.size w wr)) (fun i _ => l.length - (intOf i).toNat)
  case atStart => exact ⟨0, Nat.zero_le _, rfl, Lib.hid fun j hj => by omega, Lib.hid (Below.refl _ _)⟩
  case round =>
    obtain ⟨k, hk, rfl, hno, hbl⟩ := hrel
    by_cases hlt : k < l.length
    · have hS := hL.out.keep (w' := wr) fun q hq => hbl.out.block q (hL.out.lt q hq)
      obtain ⟨g, o, hA, hg, hc⟩ := Sl.cell encG_len (by decide) hS (i := k) hlt
      subst hA
      have HC := Lib.hid (check1_b (l[k]'hlt) wr)
      have hnk := Lib.hid (fun (h1 : decide ((l[k]'hlt).2 < 0) = true) => idxG_some hlt h1 (fun j hj => hno.out j hj (Nat.lt_trans hj hlt)))
      have hno' := Lib.hid (fun (h1 : decide ((l[k]'hlt).2 < 0) = false) j (hj : j < k + 1) (hj2 : j < l.length) => show decide ((l[j]'hj2).2 < 0) = false from by
        by_cases e : j = k
        · subst e; exact h1
        · exact hno.out j (by omega) hj2)
      have d0 := (hc k hlt 0 (by decide)).1.trans (show _ = some (.int .i64 (l[k]'hlt).1.tr.th) from rfl)
      have d1 := (hc k hlt 1 (by decide)).1.trans (show _ = some (.int .i64 ((l[k]'hlt).1.tr.first : Nat)) from rfl)
      have d2 := (hc k hlt 2 (by decide)).1.trans (show _ = some (.int .i64 ((l[k]'hlt).1.tr.last : Nat)) from rfl)
      have d3 := (hc k hlt 3 (by decide)).1.trans (show _ = some (.int .u64 (l[k]'hlt).1.tr.sn) from rfl)
      have d4 := (hc k hlt 4 (by decide)).1.trans (show _ = some (.int .i64 (l[k]'hlt).1.tr.how) from rfl)
      have d5 := (hc k hlt 5 (by decide)).1.trans (show _ = some (.int .i64 ((l[k]'hlt).1.tr.rd : Nat)) from rfl)
      have d6 := (hc k hlt 6 (by decide)).1.trans (show _ = some (.int .i64 ((l[k]'hlt).1.tr.wr : Nat)) from rfl)
      have d7 := (hc k hlt 7 (by decide)).1.trans (show _ = some (.int .i64 ((l[k]'hlt).1.fr : Nat)) from rfl)
      have d8 := (hc k hlt 8 (by decide)).1.trans (show _ = some (.int .i64 ((l[k]'hlt).1.upto : Nat)) from rfl)
      have d9 := (hc k hlt 9 (by decide)).1.trans (show _ = some (.int .i64 (l[k]'hlt).2) from rfl)
      simp only [Nat.add_zero, ← Nat.add_assoc] at d0 d1 d2 d3 d4 d5 d6 d7 d8 d9
      generalize l[k]'hlt = e at *
      obtain ⟨⟨⟨th, fi, la, sn, how, rd, wrt⟩, rds, fr, up⟩, at0⟩ := e
      unfold sV at HC
      dsimp only at HC d0 d1 d2 d3 d4 d5 d6 d7 d8 d9
      have hlt' : (k : Int) < (l.length : Int) := by omega
      clear hc hS hg
      obtain ⟨r, hr⟩ : ∃ r, r = decide (at0 < 0) := ⟨_, rfl⟩
      dsimp only at hnk hno'
      rw [← hr] at HC hnk hno'
      replace hr := Lib.hid hr
      go_wp2_with fail
      refine HC.out.mono ?_
      rintro _ w3 ⟨rfl, hb3⟩
      have hbl3 := Lib.hid (hbl.out.trans (hb3.mono hbl.out.size))
      clear hb3 HC
      cases r
      · go_wp2
        go_roundw
        case rel => exact ⟨k + 1, hlt, by go_num, Lib.hid (hno'.out (by trivial)), hbl3⟩
        case measure => simp [intOf]; omega
      · go_wp2
        go_ret
        exact ⟨ret_int (hnk.out (by trivial)).symm, hbl3.out⟩
    · go_wp2
      go_ret
      exact ⟨ret_int (idxG_none fun j hj => hno.out j (by omega) hj).symm, hbl.out⟩
end Go.Proofs.Ytloiadhdkgkjkaa
