/- The document's chains, whole queues and their words, by contract. -/
import Derived.Test.YtfbbmnlebibplaaQuR0
import Derived.Test.YtfbbmnlebibplaaWl
import Derived.Deep.LoopGhost
namespace Go.Proofs.Ytfbbmnlebibplaa
open Go.RowKit
set_option maxHeartbeats 4000000
set_option linter.unusedVariables false
set_option linter.unusedSimpArgs false

/-- A list of words of the call's own is left, all else is as it was. -/
def LftL (B : Nat) (w : World) (u : Value) (l : List Int) (w' : World) : Prop := Wl w' u l ∧ (∀ k, own u k → B ≤ k) ∧ Below B w w'

theorem chain_b {v : Value} {W : List Int} {n most : Int} {w : World} (h : Lies w v W) (hW : ∀ x ∈ W, 0 ≤ x ∧ x ≤ 18446744073709551615) (hln : (W.length : Int) ≤ 4611686018427387904) (hn : 0 ≤ n) (hn' : n ≤ 18446744073709551615) (hm : 0 ≤ most) (hm' : most ≤ 65536) :
    Calls Try.prog 28 #[v, .int .u64 n, .int .i64 most] w fun e w' => ∃ u l ok, Hid (chainGo W most 65538 n [] = (l, ok)) ∧ e = .returned (.tuple #[u, .bool ok]) ∧ LftL w.heap.size w u l w' := by
  obtain ⟨A0, c0, rfl, hc0, hnil, hcell⟩ := h
  have Hc := Lib.hid hcell
  have HW := Lib.hid hW
  clear hcell hnil hW
  go_enter Try.func28, Try.ntmps28
  go_wp2_with fail
  go_loopg [1, 8] 65538 (fun gk c1 c8 wr => ∃ (l : List Int) (A : Option Addr) (cp : Nat) (nn : Int), gk + l.length = 65538 ∧ c1 = .int .u64 nn ∧ 0 ≤ nn ∧ nn ≤ 18446744073709551615 ∧ c8 = .slice A l.length cp ∧ (l.length : Int) ≤ most + 1 ∧ Hid (chainGo W most 65538 n [] = chainGo W most gk nn l) ∧ Wl wr (.slice A l.length cp) l ∧ Hid (∀ k, own (.slice A l.length cp) k → w.heap.size ≤ k) ∧ Below w.heap.size w wr)
  case atStart => exact ⟨[], none, 0, n, rfl, rfl, hn, hn', rfl, by simp; omega, Lib.hid rfl, Wl.nil _, Lib.hid (fun k hk => nomatch hk), Below.refl _ _⟩
  case round =>
    obtain ⟨l, A, cp, nn, hgk, rfl, dn, dn', rfl, hll, hR, hv, ho, hbel⟩ := hrel
    have hlm : (l.length : Int) ≤ 65537 := by omega
    have hgk' := Lib.hid hgk
    have hB := Lib.hid hbel
    have hV := Lib.hid hv
    obtain ⟨m, rfl⟩ : ∃ m, gk = m + 1 := ⟨gk - 1, by omega⟩
    clear hgk hbel
    by_cases h0 : nn = 0
    · have h0' : (nn != 0) = false := by simpa using h0
      have hq : Hid (chainGo W most 65538 n [] = (l, true)) := Lib.hid (by rw [hR.out, chainGo, if_pos (.inl h0)])
      clear h0 hv
      go_wp2
      go_ret2
      exact ⟨_, l, true, hq, rfl, hV.out, ho.out, hB.out⟩
    have h0' : (nn != 0) = true := by simpa using h0
    by_cases h1 : most < (l.length : Int)
    · have h1' : decide ((l.length : Int) ≤ most) = false := decide_eq_false (by omega)
      have hq : Hid (chainGo W most 65538 n [] = (l, true)) := Lib.hid (by rw [hR.out, chainGo, if_pos (.inr h1)])
      clear h0 h1 hv
      go_wp2
      go_ret2
      exact ⟨_, l, true, hq, rfl, hV.out, ho.out, hB.out⟩
    have h1' : (l.length : Int) ≤ most := by omega
    have e1 : IntKind.u64.wrap (nn - 1) = nn - 1 := uw_id (by omega) (by omega)
    by_cases h2 : (W.length : Int) ≤ nn
    · have hq : Hid (chainGo W most 65538 n [] = (l, false)) := Lib.hid (by rw [hR.out, chainGo, if_neg (by omega), if_pos h2])
      have hd : (W.length : Int) ≤ nn - 1 ∨ nn - 1 < (W.length : Int) := by omega
      have hnn1 : 0 ≤ nn - 1 := by omega
      clear h0 h1 hv
      rcases hd with hd | hd
      all_goals
        go_wp2
        go_ret2
        exact ⟨_, l, false, hq, rfl, hV.out, ho.out, hB.out⟩
    have h2' : nn < (W.length : Int) := by omega
    have hq : Hid (chainGo W most 65538 n [] = chainGo W most m (W.getD nn.toNat 0) (l ++ [nn - 1])) := Lib.hid (by rw [hR.out, chainGo, if_neg (by omega), if_neg h2])
    obtain ⟨g, o, rfl, c1⟩ := Hc.out nn.toNat (by omega)
    have hyb := getD_bd HW.out nn.toNat
    obtain ⟨y, hy⟩ : ∃ y, W.getD nn.toNat 0 = y := ⟨_, rfl⟩
    rw [hy] at c1 hq hyb
    obtain ⟨hy1, hy2⟩ := hyb
    have hnn1 : 0 ≤ nn - 1 := by omega
    have hnn2 : nn - 1 < (W.length : Int) := by omega
    have hcc : (W.length : Int) ≤ c0 := by omega
    have hx := Lib.hid (show (l.length + 1) * 8 ≤ 140737488355328 by omega)
    have hg : g < w.heap.size ∨ True := .inr trivial
    have hcg : w.cell? ⟨g, o + nn.toNat, none⟩ = some (.int .u64 y) := c1
    have hglt : g < w.heap.size := Nat.lt_of_not_le fun hh => by
      unfold World.cell? at c1
      rw [Array.getElem?_eq_none hh] at c1
      cases c1
    clear h0 h1 h2 hy hR c1 hg
    go_wp2_with (at_builtin; refine wpList_word wr rfl (.tmp 31) (.tmp 34) rfl (.slice A l.length cp) l (nn - 1) rfl hv rfl hx.out ?_; intro A4 c4 w4 hc4 hv4 hm4; have hb4 := Lib.hid (hB.out.trans (hm4.below (fun k hk => ho.out k hk) hB.out.size)); have d4 := (hb4.out.cell (p := ⟨g, o + nn.toNat, none⟩) hglt).trans hcg; have ho4 : Hid (∀ k, own (.slice A4 (l.length + 1) c4) k → w.heap.size ≤ k) := Lib.hid (fun k hk => (hm4.new k hk).elim (fun h => ho.out k h) fun h => Nat.le_trans hB.out.size h); have hv4' := Lib.hid hv4; clear hm4 hv4)
    go_roundg m
    case measure => omega
    case rel => exact ⟨l ++ [nn - 1], A4, c4, y, by have := hgk'.out; simp; omega, rfl, hy1, hy2, by simp, by simp; omega, hq, by simpa using hv4'.out, by simpa using ho4, hb4.out⟩

def WhP (W : List Int) (q : Int) (w : World) (e : Ending) (w' : World) : Prop := ∃ u l ok, Hid (whole W q = (l, ok)) ∧ e = .returned (.tuple #[u, .bool ok]) ∧ LftL w.heap.size w u l w'
set_option maxRecDepth 100000 in
theorem whole_b {v : Value} {W : List Int} {q : Int} {w : World} (h : Lies w v W) (hW : ∀ x ∈ W, 0 ≤ x ∧ x ≤ 18446744073709551615) (hln : (W.length : Int) ≤ 4611686018427387904) (hq : 0 ≤ q) (hq' : q ≤ 18446744073709551615) :
    Calls Try.prog 7 #[v, .int .u64 q] w (WhP W q w) := by
  have hL := Lib.hid h
  obtain ⟨A0, c0, rfl, hc0, hnil, hcell⟩ := h
  have Hc := Lib.hid hcell
  have HW := Lib.hid hW
  have hcc : (W.length : Int) ≤ c0 := by omega
  have hnl : ∀ nd : Nat, LftL w.heap.size w (.slice none 0 0) [] (w.drewN nd) := fun nd => ⟨Wl.nil _, (fun k hk => nomatch hk), below_drewNs (Below.refl _ _) nd⟩
  have HN := Lib.hid hnl
  clear hcell hnil hW hnl
  by_cases h1 : (W.length : Int) ≤ q
  · have hr : Hid (whole W q = ([], false)) := Lib.hid (by unfold whole; rw [if_pos (by omega)])
    go_enter Try.func7, Try.ntmps7
    go_wp2
    go_ret2
    exact ⟨_, [], false, hr, rfl, HN.out 0⟩
  have h1' : q < (W.length : Int) := by omega
  have e2 : IntKind.u64.wrap (q + 2) = q + 2 := uw_id (by omega) (by omega)
  by_cases h2 : (W.length : Int) ≤ q + 2
  · have hr : Hid (whole W q = ([], false)) := Lib.hid (by unfold whole; rw [if_pos (by omega)])
    have h2' : ¬ q + 2 < q := by omega
    have h0' : decide ((W.length : Int) ≤ q) = false := decide_eq_false (by omega)
    clear h1
    go_enter Try.func7, Try.ntmps7
    go_wp2
    go_ret2
    exact ⟨_, [], false, hr, rfl, HN.out 0⟩
  have h2' : q + 2 < (W.length : Int) := by omega
  obtain ⟨g, o, rfl, k2⟩ := Hc.out (q + 2).toNat (by omega)
  obtain ⟨g1, o1, e1, k1⟩ := Hc.out (q + 1).toNat (by omega)
  obtain ⟨g3, o3, e3, k0⟩ := Hc.out q.toNat (by omega)
  obtain ⟨rfl, rfl⟩ : g = g1 ∧ o = o1 := by simpa using e1
  obtain ⟨rfl, rfl⟩ : g = g3 ∧ o = o3 := by simpa using e3
  have b0 := getD_bd HW.out q.toNat
  have b1 := getD_bd HW.out (q + 1).toNat
  have b2 := getD_bd HW.out (q + 2).toNat
  have hr : Hid (whole W q = if 65536 < W.getD (q + 2).toNat 0 then ([], false) else match chainGo W (W.getD (q + 2).toNat 0) 65538 (W.getD q.toNat 0) [] with
    | (l, ok) => if wholeB W q l ok then (l, true) else ([], false)) := Lib.hid (by unfold whole; rw [if_neg (by omega)])
  have hwb : Hid (∀ l ok, wholeB W q l ok = (ok = true ∧ (l.length : Int) = W.getD (q + 2).toNat 0 ∧ W.getD (q + 1).toNat 0 = topOf l)) := Lib.hid fun _ _ => rfl
  obtain ⟨y0, hy0⟩ : ∃ y, W.getD q.toNat 0 = y := ⟨_, rfl⟩
  obtain ⟨y1, hy1⟩ : ∃ y, W.getD (q + 1).toNat 0 = y := ⟨_, rfl⟩
  obtain ⟨y2, hy2⟩ : ∃ y, W.getD (q + 2).toNat 0 = y := ⟨_, rfl⟩
  rw [hy0] at b0 k0 hr
  rw [hy1] at b1 k1 hwb
  rw [hy2] at b2 k2 hr hwb
  obtain ⟨b0, b0'⟩ := b0
  obtain ⟨b1, b1'⟩ := b1
  obtain ⟨b2, b2'⟩ := b2
  have e2' : IntKind.u64.wrap (q + 1) = q + 1 := uw_id (by omega) (by omega)
  have h3' : q + 1 < (W.length : Int) := by omega
  have h4' : ¬ q + 2 < q := by omega
  have h0' : decide ((W.length : Int) ≤ q) = false := decide_eq_false (by omega)
  have h0'' : decide ((W.length : Int) ≤ q + 2) = false := decide_eq_false (by omega)
  have h5' : 0 ≤ q + 2 := by omega
  have h6' : 0 ≤ q + 1 := by omega
  have hglt : g < w.heap.size := Nat.lt_of_not_le fun hh => by
    unfold World.cell? at k2
    rw [Array.getElem?_eq_none hh] at k2
    cases k2
  clear h1 h2 e1 e3 hy0 hy1 hy2
  by_cases h6 : 65536 < y2
  · have hr2 : Hid (whole W q = ([], false)) := Lib.hid (by rw [hr.out, if_pos h6])
    clear hwb hr
    go_enter Try.func7, Try.ntmps7
    go_wp2
    go_ret2
    exact ⟨_, [], false, hr2, rfl, HN.out 0⟩
  have hr2 : Hid (whole W q = match chainGo W y2 65538 y0 [] with
    | (l, ok) => if wholeB W q l ok then (l, true) else ([], false)) := Lib.hid (by rw [hr.out, if_neg h6])
  have h6' : y2 ≤ 65536 := by omega
  clear h6 hr
  have e64 : IntKind.i64.wrap y2 = y2 := IntWalk.i64_in _ (by omega)
  go_enter Try.func7, Try.ntmps7
  go_wp2_with fail
  refine (chain_b hL.out HW.out hln b0 b0' b2 h6').mono ?_
  rintro e w1 ⟨u, l, ok, q1, rfl, hv1, ho1, hb1⟩
  have hr : Hid (whole W q = if wholeB W q l ok then (l, true) else ([], false)) := Lib.hid (by rw [hr2.out, q1.out])
  have hll : (l.length : Int) ≤ 65537 := by
    have := chainGo_len W y2 65538 y0 [] (by simp; omega)
    rw [q1.out] at this
    simp only at this
    omega
  have d1 := (hb1.cell (p := ⟨g, o + (q + 1).toNat, none⟩) hglt).trans k1
  obtain ⟨A, cp, rfl, hcp⟩ := hv1.shape
  have hK := Lib.hid (show LftL w.heap.size w (.slice A l.length cp) l w1 from ⟨hv1, ho1, hb1⟩)
  have hKN := Lib.hid (show LftL w.heap.size w (.slice none 0 0) [] w1 from ⟨Wl.nil _, (fun k hk => nomatch hk), hb1⟩)
  have hin := chainGo_in W HW.out y2 65538 y0 [] b0 (by simp)
  rw [q1.out] at hin
  simp only at hin
  have Hin := Lib.hid hin
  clear q1 hin ho1 hb1 HN hr2
  have hcat := List.eq_nil_or_concat l
  simp only [List.concat_eq_append] at hcat
  rcases hcat with rfl | ⟨l', x, rfl⟩
  · have ht : topOf [] = 0 := rfl
    have hwb : Hid (wholeB W q [] ok ↔ (ok = true ∧ (0 : Int) = y2 ∧ y1 = 0)) := Lib.hid (by rw [hwb.out]; simp [ht])
    clear hv1 ht
    cases ok with
    | false =>
      have hr3 : Hid (whole W q = ([], false)) := Lib.hid (by rw [hr.out, if_neg (by rw [hwb.out]; simp)])
      go_wp2
      go_ret2
      exact ⟨_, [], false, hr3, rfl, hKN.out⟩
    | true =>
      by_cases h7 : (0 : Int) = y2
      · subst h7
        by_cases h8 : y1 = 0
        · subst h8
          have hr3 : Hid (whole W q = ([], true)) := Lib.hid (by rw [hr.out, if_pos (by rw [hwb.out]; simp)])
          go_wp2
          go_ret2
          exact ⟨_, [], true, hr3, rfl, hK.out⟩
        · have hr3 : Hid (whole W q = ([], false)) := Lib.hid (by rw [hr.out, if_neg (by rw [hwb.out]; simp [h8])])
          have h8' : (y1 != 0) = true := by simpa using h8
          clear h8
          go_wp2
          go_ret2
          exact ⟨_, [], false, hr3, rfl, hKN.out⟩
      · have hr3 : Hid (whole W q = ([], false)) := Lib.hid (by rw [hr.out, if_neg (by rw [hwb.out]; simp [h7])])
        have h7' : ((0 : Int) != y2) = true := by simpa using h7
        clear h7
        go_wp2
        go_ret2
        exact ⟨_, [], false, hr3, rfl, hKN.out⟩
  · obtain ⟨hx1, hx2⟩ := Hin.out x (by simp)
    have ht : topOf (l' ++ [x]) = x + 1 := topOf_snoc _ _
    have hwb : Hid (wholeB W q (l' ++ [x]) ok ↔ (ok = true ∧ ((l' ++ [x]).length : Int) = y2 ∧ y1 = x + 1)) := Lib.hid (by rw [hwb.out, ht])
    obtain ⟨g9, o9, cp9, hv9, j1, j2, j3, hc9⟩ := Rowv.at_ hv1 (by simp)
    injection hv9 with hv9 j4 j5
    subst hv9
    obtain ⟨j6, j7⟩ := hc9 l'.length (by simp)
    clear j1 j2 j3 j4 j5 j7
    have c9 : w1.cell? ⟨g9, o9 + l'.length, none⟩ = some (.int .u64 x) := j6.trans (by simp [u64s])
    clear j6 ht
    have hlx : ((l' ++ [x]).length : Int) = (l'.length : Int) + 1 := by simp
    have hcx : (l'.length : Int) + 1 ≤ cp := by simp at hcp; omega
    have hl0 : (0 : Int) ≤ l'.length := by omega
    have hll' : (l'.length : Int) + 1 ≤ 65537 := by rw [← hlx]; exact hll
    have hlt9 : (l'.length : Int) < (l'.length : Int) + 1 := by omega
    have hlm : (l'.length : Int) + 1 - 1 = l'.length := by omega
    have hsl : Value.slice (some ⟨g9, o9, none⟩) (l' ++ [x]).length cp = .slice (some ⟨g9, o9, none⟩) (l'.length + 1) cp := by simp
    clear hv1 hc9 hll hcp
    rw [hlx] at hwb
    have hK2 : Hid (LftL w.heap.size w (.slice (some ⟨g9, o9, none⟩) (l'.length + 1) cp) (l' ++ [x]) w1) := by rw [← hsl]; exact hK
    clear hK
    have hx3 : x + 1 ≤ 18446744073709551615 := by omega
    have hln1 : (l' ++ [x]).length = l'.length + 1 := by simp
    rw [hln1]
    clear hsl hln1 hlx hlt9 hlm
    cases ok with
    | false =>
      have hr3 : Hid (whole W q = ([], false)) := Lib.hid (by rw [hr.out, if_neg (by rw [hwb.out]; simp)])
      clear hr hwb
      go_wp2
      go_ret2
      exact ⟨_, [], false, hr3, rfl, hKN.out⟩
    | true =>
      by_cases h7 : (l'.length : Int) + 1 = y2
      · have h7' : ((l'.length : Int) + 1 != y2) = false := by simpa using h7
        by_cases h8 : y1 = x + 1
        · have hr3 : Hid (whole W q = (l' ++ [x], true)) := Lib.hid (by rw [hr.out, if_pos (by rw [hwb.out]; exact ⟨rfl, h7, h8⟩)])
          have h8' : (y1 != x + 1) = false := by simpa using h8
          clear hr hwb h7 h8
          go_wp2
          go_ret2
          exact ⟨_, _, true, hr3, rfl, hK2.out⟩
        · have hr3 : Hid (whole W q = ([], false)) := Lib.hid (by rw [hr.out, if_neg (by rw [hwb.out]; exact fun h => h8 h.2.2)])
          have h8' : (y1 != x + 1) = true := by simpa using h8
          clear hr hwb h7 h8
          go_wp2
          go_ret2
          exact ⟨_, [], false, hr3, rfl, hKN.out⟩
      · have hr3 : Hid (whole W q = ([], false)) := Lib.hid (by rw [hr.out, if_neg (by rw [hwb.out]; exact fun h => h7 h.2.1)])
        have h7' : ((l'.length : Int) + 1 != y2) = true := by simpa using h7
        clear hr hwb h7
        go_wp2
        go_ret2
        exact ⟨_, [], false, hr3, rfl, hKN.out⟩

theorem refwords_b {v u : Value} {W l : List Int} {w : World} (h : Lies w v W) (hu : Lies w u l) (hW : ∀ x ∈ W, 0 ≤ x ∧ x ≤ 18446744073709551615) (hin : ∀ x ∈ l, 0 ≤ x ∧ x + 1 < (W.length : Int)) (hll : (l.length : Int) ≤ 65537) :
    Calls Try.prog 9 #[v, u] w fun e w' => ∃ u', e = .returned u' ∧ LftL w.heap.size w u' (l.map fun x => W.getD x.toNat 0) w' := by
  obtain ⟨A0, c0, rfl, hc0, hnil, hcell⟩ := h
  obtain ⟨A1, c1, rfl, hc1, hnil1, hcell1⟩ := hu
  have Hc := Lib.hid hcell
  have Hc1 := Lib.hid hcell1
  have HW := Lib.hid hW
  have Hin := Lib.hid hin
  clear hcell hnil hcell1 hnil1 hW hin
  have hl1 : (l.length : Int) ≤ c1 := by omega
  have hl0 : (W.length : Int) ≤ c0 := by omega
  go_enter Try.func9, Try.ntmps9
  go_wp2_with fail
  go_loopg [5, 6] l.length (fun gk c5 c6 wr => ∃ (j : Nat) (d : List Int) (A : Option Addr) (cp : Nat), gk + j = l.length ∧ c6 = .int .i64 (j : Int) ∧ c5 = .slice A d.length cp ∧ d.length = j ∧ Hid (d = (l.take j).map fun x => W.getD x.toNat 0) ∧ Wl wr (.slice A d.length cp) d ∧ Hid (∀ k, own (.slice A d.length cp) k → w.heap.size ≤ k) ∧ Below w.heap.size w wr)
  case atStart => exact ⟨0, [], none, 0, rfl, rfl, rfl, rfl, Lib.hid rfl, Wl.nil _, Lib.hid (fun k hk => nomatch hk), Below.refl _ _⟩
  case round =>
    obtain ⟨j, d, A, cp, hgk, rfl, rfl, hd, hD, hv, ho, hbel⟩ := hrel
    have hgk' := Lib.hid hgk
    have hB := Lib.hid hbel
    have Hd := Lib.hid hd
    have hdl : (d.length : Int) ≤ 65537 := by omega
    clear hgk hbel
    by_cases hlt : j < l.length
    · obtain ⟨m, rfl⟩ : ∃ m, gk = m + 1 := ⟨gk - 1, by have := hgk'.out; omega⟩
      have hji : (j : Int) < l.length := by omega
      obtain ⟨g1, o1, rfl, k1⟩ := Hc1.out j hlt
      have hx := Hin.out (l.getD j 0) (by rw [List.getD_eq_getElem?_getD, List.getElem?_eq_getElem hlt]; exact List.getElem_mem hlt)
      obtain ⟨x, hxe⟩ : ∃ x, l.getD j 0 = x := ⟨_, rfl⟩
      rw [hxe] at hx k1
      obtain ⟨hx1, hx2⟩ := hx
      obtain ⟨g0, o0, rfl, k0⟩ := Hc.out x.toNat (by omega)
      obtain ⟨y, hy⟩ : ∃ y, W.getD x.toNat 0 = y := ⟨_, rfl⟩
      rw [hy] at k0
      have lt1 : g1 < w.heap.size := Nat.lt_of_not_le fun hh => by
        unfold World.cell? at k1
        rw [Array.getElem?_eq_none hh] at k1
        cases k1
      have lt0 : g0 < w.heap.size := Nat.lt_of_not_le fun hh => by
        unfold World.cell? at k0
        rw [Array.getElem?_eq_none hh] at k0
        cases k0
      have d1 := (hB.out.cell (p := ⟨g1, o1 + j, none⟩) lt1).trans k1
      have d0 := (hB.out.cell (p := ⟨g0, o0 + x.toNat, none⟩) lt0).trans k0
      have hD5 : Hid (d ++ [y] = (l.take (j + 1)).map fun x => W.getD x.toNat 0) := Lib.hid (by
        have e1 : l[j] = x := by rw [← hxe, List.getD_eq_getElem?_getD, List.getElem?_eq_getElem hlt]; rfl
        rw [List.take_succ_eq_append_getElem hlt, List.map_append, ← hD.out, e1, List.map_singleton, hy])
      have hx3 : x < (W.length : Int) := by omega
      have hxx := Lib.hid (show (d.length + 1) * 8 ≤ 140737488355328 by omega)
      clear hxe hy k1 k0 hd hlt
      go_wp2_with (at_builtin; refine wpList_word wr rfl (.tmp 13) (.tmp 21) rfl (.slice A d.length cp) d y rfl hv rfl hxx.out ?_; intro A4 c4 w4 hc4 hv4 hm4)
      have hb4 := hB.out.trans (hm4.below (fun k hk => ho.out k hk) hB.out.size)
      have ho4 : Hid (∀ k, own (.slice A4 (d.length + 1) c4) k → w.heap.size ≤ k) := Lib.hid (fun k hk => (hm4.new k hk).elim (fun h => ho.out k h) fun h => Nat.le_trans hB.out.size h)
      go_roundg m
      case measure => omega
      case rel => exact ⟨j + 1, d ++ [y], A4, c4, by have := hgk'.out; omega, by go_num, by simp, by simp [Hd.out], hD5, by simpa using hv4, by simpa using ho4, hb4⟩
    · obtain rfl : j = l.length := by have := hgk'.out; omega
      have hD5 : d = l.map fun x => W.getD x.toNat 0 := by rw [hD.out, List.take_length]
      have hV := Lib.hid hv
      have HD5 := Lib.hid hD5
      clear hv hD5 hlt
      go_wp2
      go_ret
      exact ⟨_, rfl, by rw [← HD5.out]; exact ⟨hV.out, ho.out, hB.out⟩⟩
end Go.Proofs.Ytfbbmnlebibplaa
