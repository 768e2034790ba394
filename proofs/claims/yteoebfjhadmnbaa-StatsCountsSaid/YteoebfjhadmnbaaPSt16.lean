/- StatsCounts: its walk. -/
import Derived.Test.YteoebfjhadmnbaaPSt4
import Derived.Test.YteoebfjhadmnbaaPSt15
namespace Go.Proofs.Yteoebfjhadmnbaa
open Go.RowKit
set_option maxHeartbeats 4000000
set_option linter.unusedVariables false
set_option linter.unusedSimpArgs false
theorem sumZ_take {α : Type} (f : α → Int) (l : List α) {k : Nat} (hk : k < l.length) : sumZ ((l.take (k + 1)).map f) = sumZ ((l.take k).map f) + f l[k] := by
  rw [List.take_add_one, List.getElem?_eq_getElem hk, List.map_append, sumZ_append]
  simp [sumZ]
theorem sumZ_nn : ∀ l : List Int, (∀ x ∈ l, 0 ≤ x) → 0 ≤ sumZ l
  | [], _ => by simp [sumZ]
  | x :: xs, h => by
    have := sumZ_nn xs fun y hy => h y (List.mem_cons_of_mem _ hy)
    have := h x List.mem_cons_self
    simp only [sumZ]; omega
theorem sumZ_le {α : Type} (f : α → Int) (l : List α) (h : ∀ x ∈ l, 0 ≤ f x) (k : Nat) : 0 ≤ sumZ ((l.take k).map f) ∧ sumZ ((l.take k).map f) ≤ sumZ (l.map f) := by
  have e : sumZ (l.map f) = sumZ ((l.take k).map f) + sumZ ((l.drop k).map f) := by rw [← sumZ_append, ← List.map_append, List.take_append_drop]
  have h1 : 0 ≤ sumZ ((l.take k).map f) := sumZ_nn _ fun x hx => by obtain ⟨y, hy, rfl⟩ := List.mem_map.1 hx; exact h y (List.mem_of_mem_take hy)
  have h2 : 0 ≤ sumZ ((l.drop k).map f) := sumZ_nn _ fun x hx => by obtain ⟨y, hy, rfl⟩ := List.mem_map.1 hx; exact h y (List.mem_of_mem_drop hy)
  omega
theorem wrap_id {x : Int} (h0 : 0 ≤ x) (h1 : x ≤ 9223372036854775807) : IntKind.i64.wrap x = x := by
  rw [IntKind.wrap_i64]; omega
/-- how many of the first k events are counted -/
def keptN (l : List Ev) (k : Nat) : Int := (((List.range k).map (evAt l)).countP kept : Nat)
theorem keptN_one (l : List Ev) (k : Nat) : keptN l (k + 1) = keptN l k + (if kept (evAt l k) then 1 else 0) := by
  unfold keptN
  rw [List.range_succ, List.map_append, List.countP_append]
  simp only [List.map_cons, List.map_nil, List.countP_cons, List.countP_nil]
  split <;> omega
theorem keptN_bd (l : List Ev) (k : Nat) : 0 ≤ keptN l k ∧ keptN l k ≤ k := by
  have := List.countP_le_length (p := kept) (l := (List.range k).map (evAt l))
  rw [List.length_map, List.length_range] at this
  unfold keptN
  omega
theorem keptN_all (l : List Ev) : keptN l l.length = (l.countP kept : Nat) := by unfold keptN; rw [evs_all]
theorem ok_of_odd {l : List Ev} (h : (odd l).2 = 0) : okTo l l.length := by
  have key : ∀ n, n ≤ l.length → okTo l n := fun n => by
    induction n with
    | zero => exact fun _ j hj => by omega
    | succ n ih =>
      intro hn j hj
      by_cases hjn : j < n
      · exact ih (by omega) j hjn
      · obtain rfl : j = n := by omega
        by_cases hw : wrong (rn l j) (evAt l j) = 0
        · exact hw
        · rw [odd_at (by omega) (ih (by omega)) hw] at h
          exact absurd h hw
  exact key _ (Nat.le_refl _)
theorem lt_one {r : Nat} (h : r < 4607182418800017408) : fLt r 4607182418800017408 = true := by
  have hn : isnan r = false := (unit_cmp (show r ≤ one64 from Nat.le_of_lt h)).2.2.2.2
  have e1 : r % 9223372036854775808 = r := Nat.mod_eq_of_lt (by omega)
  have e2 : r / 9223372036854775808 = 0 := Nat.div_eq_of_lt (by omega)
  have hs : sr r = r := by
    unfold sr
    rw [e1, e2]
    simp
  have ho : sr 4607182418800017408 = 4607182418800017408 := by decide
  have hm : isnan 4607182418800017408 = false := by decide
  unfold fLt
  rw [hs, ho, hn, hm]
  simp
  omega
set_option maxRecDepth 100000 in
theorem statsCounts_law (KN : KnownC) {W : World} {A : Option Addr} {cp : Nat} {l : List Ev} (hL : LiesV W (.slice A l.length cp) l) :
    Calls Try.prog 4 #[.slice A l.length cp] W (TrueP W.heap.size W) := by
  have hlen := Lib.hid hL.len
  have hni : (l.length : Int) ≤ 9223372036854775807 := by have := hlen.out; omega
  have HL := Lib.hid (fun (w' : World) (hb : Below W.heap.size W w') => hL.below hb (Nat.le_refl _))
  have KN2 := Lib.hid (KN W)
  have hbu := Lib.hid (busyF_le hL.len)
  clear hL KN
  go_enter Try.func4, Try.ntmps4
  go_wp2_with fail
  refine KN2.out.mono ?_
  rintro _ w1 ⟨rfl, b1⟩
  have W1 := Lib.hid b1
  clear b1 KN2
  obtain ⟨q1, q2, hq⟩ : ∃ q1 q2, odd l = (q1, q2) := ⟨_, _, rfl⟩
  by_cases hq2 : q2 = 0
  · subst hq2
    have hok : okTo l l.length := ok_of_odd (by rw [hq])
    have hq1 := odd_ok hok
    clear hq
    have hWT := Lib.hid (waits_two hok)
    have hSL := Lib.hid (fun ss (h : ShL l (thrF l l.length).toNat ss) => shares_law hok hlen.out h)
    replace hq1 := Lib.hid hq1
    have SH := Lib.hid (shares_ok (HL.out _ W1.out) hok)
    replace hok := Lib.hid hok
    go_wp2_with fail
    refine SH.out.mono ?_
    rintro _ w2 ⟨v, ss, rfl, hS, hSl, b2, ho⟩
    obtain ⟨As, cs, rfl, hcs⟩ := hSl.shape
    have SS := Lib.hid (hSL.out _ hS)
    have hsl : ss.length ≤ 2147483648 := by have := hS.len; have := thrF_bd l l.length; omega
    have W2 := Lib.hid (W1.out.trans (b2.mono W1.out.size))
    have Z2 := Lib.hid (Blk.new w2 30 #[.int .i64 (-1), .int .i64 0])
    have S2 := Lib.hid (hSl.alloc (.cells #[.int .i64 (-1), .int .i64 0] 30))
    have W3 := Lib.hid (W2.out.alloc W2.out.size (.cells #[.int .i64 (-1), .int .i64 0] 30))
    clear b2 W2 SH W1 ho hSl hS hSL
    go_wp2_with fail
    generalize w2.alloc (.cells #[.int .i64 (-1), .int .i64 0] 30) = w3 at *
    refine (waits_ok (HL.out _ W3.out) hok.out).mono ?_
    rintro _ w4 ⟨v, rfl, hV, b4, ho4⟩
    obtain ⟨Aw, cw, rfl, hcw⟩ := hV.shape
    have Z4 := Lib.hid ((Z2.out.below b4 Z2.out.lt).alloc (.cells #[.int .i64 (-1), .int .i64 0] 30))
    have S4 := Lib.hid (Sl.alloc (Sl.keep S2.out fun k hk => b4.block k (S2.out.lt k hk)) (.cells #[.int .i64 (-1), .int .i64 0] 30))
    have V4 := Lib.hid (Sl.alloc hV (.cells #[.int .i64 (-1), .int .i64 0] 30))
    have W4 := Lib.hid (W3.out.trans (b4.mono W3.out.size))
    have W5 := Lib.hid (W4.out.alloc W4.out.size (.cells #[.int .i64 (-1), .int .i64 0] 30))
    clear b4 W4 W3 Z2 S2 hV ho4
    go_wp2_with fail
    generalize w4.alloc (.cells #[.int .i64 (-1), .int .i64 0] 30) = w5 at *
    refine (busy_b (HL.out _ W5.out)).mono ?_
    rintro _ w6 ⟨rfl, b6⟩
    rw [hq1.out]
    have Z6 := Lib.hid ((Z4.out.below b6 Z4.out.lt).alloc (.cells #[.int .i64 (-1), .int .i64 0] 30))
    have S6 := Lib.hid (Sl.alloc (Sl.keep S4.out fun k hk => b6.block k (S4.out.lt k hk)) (.cells #[.int .i64 (-1), .int .i64 0] 30))
    have V6 := Lib.hid (Sl.alloc (Sl.keep V4.out fun k hk => b6.block k (V4.out.lt k hk)) (.cells #[.int .i64 (-1), .int .i64 0] 30))
    have W6 := Lib.hid (W5.out.trans (b6.mono W5.out.size))
    have W7 := Lib.hid (W6.out.alloc W6.out.size (.cells #[.int .i64 (-1), .int .i64 0] 30))
    clear b6 W6 W5 Z4 S4 V4 hok hq1
    have z1 := Z6.out.cell 1
    simp only [List.getElem?_toArray, List.getElem?_cons_zero, List.getElem?_cons_succ] at z1
    dsimp only
    generalize busyF l = bu at *
    go_wp2_with (go_at_call 18; refine (num_b _ _).mono ?_; rintro e _ ⟨rfl, rfl⟩)
    generalize w6.alloc (.cells #[.int .i64 (-1), .int .i64 0] 30) = w7 at *
    have L7 := Lib.hid (HL.out _ W7.out)
    clear z1 Z6 HL
    have hwl := Lib.hid (waits_len l)
    generalize waitsF l = ws at *
    have hwn : (ws.length : Int) ≤ 9223372036854775807 := by
      have h1 := hwl.out
      have h2 := commF_len l l.length
      omega
    go_loopg [9, 11, 12] ss.length (fun gk c9 c11 c12 wr => ∃ (k m : Nat), gk + k = ss.length ∧ c9 = .int .i64 (sumZ ((ss.take k).map shN)) ∧ c11 = .int .i64 (sumZ ((ss.take k).map (·.co))) ∧ c12 = .int .i64 (k : Int) ∧ wr = w7.drewN m)
    case atStart => exact ⟨0, 0, rfl, rfl, rfl, rfl, rfl⟩
    case round =>
      obtain ⟨k, m, hgk, rfl, rfl, rfl, rfl⟩ := hrel
      have HG := Lib.hid hgk
      clear hgk
      by_cases hk : k < ss.length
      · obtain ⟨g, rfl⟩ : ∃ g, gk = g + 1 := ⟨gk - 1, by have := HG.out; omega⟩
        have hki : (k : Int) < ss.length := by omega
        obtain ⟨gz, oz, rfl, hgz, hcell⟩ := Sl.cell encSh_len (by decide) (Sl.drewN S6.out m) hk
        generalize hw8 : w7.drewN m = w8 at *
        have c0 := (hcell k hk 0 (by decide)).1
        have c1 := (hcell k hk 1 (by decide)).1
        have c2 := (hcell k hk 2 (by decide)).1
        have c3 := (hcell k hk 3 (by decide)).1
        have c4 := (hcell k hk 4 (by decide)).1
        have c5 := (hcell k hk 5 (by decide)).1
        have c6 := (hcell k hk 6 (by decide)).1
        have c7 := (hcell k hk 7 (by decide)).1
        have c8 := (hcell k hk 8 (by decide)).1
        have c9 := (hcell k hk 9 (by decide)).1
        have c10 := (hcell k hk 10 (by decide)).1
        have hS0 := SS.out.2.2.1 _ (List.getElem_mem hk)
        obtain ⟨u1, u2, -, -, u5⟩ := unit_cmp hS0.ra
        have t1 := sumZ_take shN ss hk
        have t2 := sumZ_take (·.co) ss hk
        have T1 := Lib.hid t1
        have T2 := Lib.hid t2
        have hnn : ∀ s ∈ ss, 0 ≤ shN s := fun s hs => by
          obtain ⟨-, a, b, c, d, e, f, g, h, -, -⟩ := SS.out.2.2.1 s hs
          unfold shN; omega
        have y1 := sumZ_le shN ss hnn k
        have y2 := sumZ_le shN ss hnn (k + 1)
        have y3 := sumZ_le (·.co) ss (fun s hs => (SS.out.2.2.1 s hs).co.1) k
        have y4 := sumZ_le (·.co) ss (fun s hs => (SS.out.2.2.1 s hs).co.1) (k + 1)
        have y5 := SS.out.1
        have y6 := SS.out.2.1
        have y7 : l.countP kept ≤ l.length := List.countP_le_length
        have y8 : (commF l l.length).length ≤ l.length := commF_len l l.length
        have hpr : ∀ k', k = k' + 1 → ∀ h : k' < ss.length, ss[k'].th < ss[k].th := fun k' hh h => List.pairwise_iff_getElem.1 SS.out.2.2.2 k' k h hk (by omega)
        replace hpr := Lib.hid hpr
        rw [t1] at y2
        rw [t2] at y4
        clear t1 t2 hnn
        generalize sumZ ((ss.take k).map shN) = n at *
        generalize sumZ ((ss.take k).map (·.co)) = cm at *
        generalize hsk : ss[k] = s at *
        replace hsk := Lib.hid hsk
        obtain ⟨th, be, co, al, st, ab, fa, mo, re, wr, ra⟩ := s
        obtain ⟨g1, ⟨g2, -⟩, ⟨g3, -⟩, ⟨g4, -⟩, ⟨g5, -⟩, ⟨g6, -⟩, ⟨g7, -⟩, ⟨g8, -⟩, ⟨g9, -⟩, -, -⟩ := hS0
        simp only [shN] at y2
        simp only [← Nat.add_assoc, Nat.add_zero, encSh, List.getElem?_cons_zero, List.getElem?_cons_succ] at c0 c1 c2 c3 c4 c5 c6 c7 c8 c9 c10
        simp only at g1 g2 g3 g4 g5 g6 g7 g8 g9 y4 u1 u2 u5
        have hl8 := hlen.out
        have e1 : IntKind.i64.wrap (n + be) = n + be := wrap_id (by omega) (by omega)
        have e2 : IntKind.i64.wrap (n + be + co) = n + be + co := wrap_id (by omega) (by omega)
        have e3 : IntKind.i64.wrap (n + be + co + st) = n + be + co + st := wrap_id (by omega) (by omega)
        have e4 : IntKind.i64.wrap (n + be + co + st + ab) = n + be + co + st + ab := wrap_id (by omega) (by omega)
        have e5 : IntKind.i64.wrap (n + be + co + st + ab + fa) = n + be + co + st + ab + fa := wrap_id (by omega) (by omega)
        have e6 : IntKind.i64.wrap (n + be + co + st + ab + fa + mo) = n + be + co + st + ab + fa + mo := wrap_id (by omega) (by omega)
        have e7 : IntKind.i64.wrap (n + be + co + st + ab + fa + mo + re) = n + be + co + st + ab + fa + mo + re := wrap_id (by omega) (by omega)
        have e8 : IntKind.i64.wrap (n + be + co + st + ab + fa + mo + re + wr) = n + be + co + st + ab + fa + mo + re + wr := wrap_id (by omega) (by omega)
        have e9 : IntKind.i64.wrap (cm + co) = cm + co := wrap_id (by omega) (by omega)
        have x1 : ¬ co < al := by omega
        unfold one64 at u2
        clear y1 y2 y3 y4 y5 y6 y7 y8 hl8
        go_wp2
        refine wp_region_mixH (fun _ => True) [3, 3, 3, 3, 3, 1, 3, 3, 3, 3, 3, 1, 3, 3, 3, 3, 3, 1, 3, 3, 3, 3, 3, 1, 3, 3, 3, 3, 3, 1, 3, 3, 3, 3, 3, 1, 3, 3, 3, 3, 3, 1, 3, 3, 3, 3, 3, 1, 3, 3] (List.range 50) (by kernel_rfl) (by kernel_rfl) (fun _ _ h => h) trivial ?_; (repeat (first | ((first | refine wpMixH_pure rfl rfl (fun K hK => ?_) | refine wpMixH_loc rfl rfl (fun K hK => ?_) | refine wpMixH_any rfl rfl (fun K hK => ?_)); go_simp; refine hK _ _ ?_; clear hK K) | (refine wpMixH_skip rfl (by go_simp) (fun K hK => ?_); go_simp; refine hK _ _ ?_; clear hK K) | fail)); refine wpMixH_nil (fun n1 => ?_)
        by_cases hkz : (0 : Int) < k
        · obtain ⟨k', rfl⟩ : ∃ k', k = k' + 1 := ⟨k - 1, by omega⟩
          have p0 := (hcell k' (by omega) 0 (by decide)).1
          have hlt := hpr.out k' rfl (by omega)
          simp only [← Nat.add_assoc, Nat.add_zero, encSh, List.getElem?_cons_zero] at p0
          generalize ss[k'].th = pth at *
          have x2 : ¬ th ≤ pth := by omega
          have ew : IntKind.i64.wrap (((k' + 1 : Nat) : Int) - 1) = (k' : Int) := by rw [wrap_id (by omega) (by omega)]; omega
          have ew2 : IntKind.i64.wrap (k' : Int) = (k' : Int) := wrap_id (by omega) (by omega)
          have hk2 : (k' : Int) < ss.length := by omega
          have hk3 : (k' : Int) + 1 < ss.length := by omega
          have hk4 : (0 : Int) ≤ (k' : Int) + 1 := by omega
          clear hlt hpr
          go_wp2
          refine wp_region_mixH (fun _ => True) [3, 3, 3, 3, 3, 3, 3, 3, 1, 3, 3, 3, 3, 1, 3, 3, 3, 3, 3, 3, 3, 1, 3, 3, 3, 3, 1, 3, 3, 3, 3, 3, 3, 3, 1, 3, 3, 3, 3, 3, 3, 3, 1, 3, 3] (List.range 45) (by kernel_rfl) (by kernel_rfl) (fun _ _ h => h) trivial ?_; (repeat (first | ((first | refine wpMixH_pure rfl rfl (fun K hK => ?_) | refine wpMixH_loc rfl rfl (fun K hK => ?_) | refine wpMixH_any rfl rfl (fun K hK => ?_)); go_simp; refine hK _ _ ?_; clear hK K) | (refine wpMixH_skip rfl (by go_simp) (fun K hK => ?_); go_simp; refine hK _ _ ?_; clear hK K) | fail)); refine wpMixH_nil (fun n2 => ?_)
          go_wp2
          go_roundg g
          case measure => omega
          case rel =>
            obtain ⟨m2, hm2⟩ := drew_more ⟨m, hw8.symm⟩ (1 + n1 + 1 + n2)
            exact ⟨k' + 1 + 1, m2, by have := HG.out; omega, by rw [T1.out]; simp only [shN]; congr 1; omega, by rw [T2.out], by go_num, hm2⟩
        · obtain rfl : k = 0 := by omega
          simp only [Nat.zero_mul, Nat.add_zero] at c2 c3 c10
          clear hpr hkz
          go_wp2
          refine wp_region_mixH (fun _ => True) [3, 3, 3, 3, 3, 3, 3, 3, 1, 3, 3, 3, 3, 1, 3, 3, 3, 3, 3, 3, 3, 1, 3, 3, 3, 3, 1, 3, 3, 3, 3, 3, 3, 3, 1, 3, 3, 3, 3, 3, 3, 3, 1, 3, 3] (List.range 45) (by kernel_rfl) (by kernel_rfl) (fun _ _ h => h) trivial ?_; (repeat (first | ((first | refine wpMixH_pure rfl rfl (fun K hK => ?_) | refine wpMixH_loc rfl rfl (fun K hK => ?_) | refine wpMixH_any rfl rfl (fun K hK => ?_)); go_simp; refine hK _ _ ?_; clear hK K) | (refine wpMixH_skip rfl (by go_simp) (fun K hK => ?_); go_simp; refine hK _ _ ?_; clear hK K) | fail)); refine wpMixH_nil (fun n2 => ?_)
          go_wp2
          go_roundg g
          case measure => omega
          case rel =>
            obtain ⟨m2, hm2⟩ := drew_more ⟨m, hw8.symm⟩ (1 + n1 + 1 + n2)
            exact ⟨0 + 1, m2, by have := HG.out; omega, by rw [T1.out]; simp only [shN]; congr 1; omega, by rw [T2.out], by go_num, hm2⟩
      · obtain rfl : k = ss.length := by have := HG.out; omega
        clear hk
        rw [List.take_length, SS.out.1, SS.out.2.1, ← keptN_all, ← hwl.out]
        have W9 := Lib.hid (below_drewNs W7.out m)
        have V9 := Lib.hid (Sl.drewN V6.out m)
        have L9 := Lib.hid (L7.out.below (below_drewNs (Below.refl _ _) m) (Nat.le_refl _))
        generalize w7.drewN m = w9 at *
        clear SS S6 L7 V6 W7
        go_wp2_with fail
        go_loopg [10, 13] l.length (fun gk c10 c13 wr => ∃ (k : Nat), gk + k = l.length ∧ c10 = .int .i64 (keptN l k) ∧ c13 = .int .i64 (k : Int) ∧ w9 = wr)
        case atStart => exact ⟨0, rfl, rfl, rfl, rfl⟩
        case round =>
          obtain ⟨k, hgk, rfl, rfl, rfl⟩ := hrel
          have HG := Lib.hid hgk
          clear hgk
          by_cases hk : k < l.length
          · obtain ⟨g, rfl⟩ : ∃ g, gk = g + 1 := ⟨gk - 1, by have := HG.out; omega⟩
            obtain ⟨-, gz, oz, rfl, -, d0, d1, d2, d3, d4, d5⟩ := L9.out.ev hk
            have hki : (k : Int) < l.length := by omega
            have hT := Lib.hid (keptN_one l k)
            have hbd := keptN_bd l k
            generalize keptN l k = n at *
            generalize evAt l k = e at *
            obtain ⟨th, kd, ad, wd, ow, er⟩ := e
            dsimp only [kept] at *
            have hn0 : 0 ≤ n := hbd.1
            have hn1 : n + 1 ≤ 9223372036854775807 := by omega
            clear hbd
            by_cases h5 : kd = 5
            · subst h5
              have hT2 := Lib.hid (show keptN l (k + 1) = n by rw [hT.out]; simp)
              clear hT
              go_wp2
              go_roundg g
              case measure => omega
              case rel => exact ⟨k + 1, by have := HG.out; omega, by rw [hT2.out], by go_num, rfl⟩
            by_cases h10 : kd = 10
            · subst h10
              have hT2 := Lib.hid (show keptN l (k + 1) = n by rw [hT.out]; simp)
              clear hT
              go_wp2
              go_roundg g
              case measure => omega
              case rel => exact ⟨k + 1, by have := HG.out; omega, by rw [hT2.out], by go_num, rfl⟩
            by_cases h11 : kd = 11
            · subst h11
              have hT2 := Lib.hid (show keptN l (k + 1) = n by rw [hT.out]; simp)
              clear hT
              go_wp2
              go_roundg g
              case measure => omega
              case rel => exact ⟨k + 1, by have := HG.out; omega, by rw [hT2.out], by go_num, rfl⟩
            by_cases h12 : kd = 12
            · subst h12
              have hT2 := Lib.hid (show keptN l (k + 1) = n by rw [hT.out]; simp)
              clear hT
              go_wp2
              go_roundg g
              case measure => omega
              case rel => exact ⟨k + 1, by have := HG.out; omega, by rw [hT2.out], by go_num, rfl⟩
            have f5 : (kd != 5) = true := by simp [h5]
            have f10 : (kd != 10) = true := by simp [h10]
            have f11 : (kd != 11) = true := by simp [h11]
            have f12 : (kd != 12) = true := by simp [h12]
            cases ow
            · have hT2 := Lib.hid (show keptN l (k + 1) = n + 1 by rw [hT.out]; simp [h5, h10, h11, h12])
              clear hT
              go_wp2
              go_roundg g
              case measure => omega
              case rel => exact ⟨k + 1, by have := HG.out; omega, by rw [hT2.out], by go_num, rfl⟩
            · have hT2 := Lib.hid (show keptN l (k + 1) = n by rw [hT.out]; simp)
              clear hT
              go_wp2
              go_roundg g
              case measure => omega
              case rel => exact ⟨k + 1, by have := HG.out; omega, by rw [hT2.out], by go_num, rfl⟩
          · obtain rfl : k = l.length := by have := HG.out; omega
            clear hk
            go_wp2_with fail
            go_loopg [15] ws.length (fun gk c15 wr => ∃ (k : Nat), gk + k = ws.length ∧ c15 = .int .i64 (k : Int) ∧ w9 = wr)
            case atStart => exact ⟨0, rfl, rfl, rfl⟩
            case round =>
              obtain ⟨k, hgk, rfl, rfl⟩ := hrel
              have HG := Lib.hid hgk
              clear hgk
              by_cases hk : k < ws.length
              · obtain ⟨g, rfl⟩ : ∃ g, gk = g + 1 := ⟨gk - 1, by have := HG.out; omega⟩
                have hki : (k : Int) < ws.length := by omega
                obtain ⟨gy, oy, rfl, -, hcell⟩ := Sl.cell encZ_len (by decide) V9.out hk
                have c0 := (hcell k hk 0 (by decide)).1
                have h2 := hWT.out _ (List.getElem_mem hk)
                simp only [Nat.mul_one, Nat.add_zero, encZ, List.getElem?_cons_zero] at c0
                have h2b : ¬ ws[k] < 2 := by omega
                generalize ws[k] = x at *
                go_wp2
                go_roundg g
                case measure => omega
                case rel => exact ⟨k + 1, by have := HG.out; omega, by go_num, rfl⟩
              · obtain rfl : k = ws.length := by have := HG.out; omega
                clear hk
                have hbo : bu ≤ 4607182418800017408 := hbu.out
                obtain ⟨v1, v2, v3, v4, -⟩ := unit_cmp hbu.out
                have hs1 : bu = 0 ∨ bu = 4607182418800017408 ∨ (0 < bu ∧ bu < 4607182418800017408) := by omega
                clear hbu
                rcases hs1 with rfl | rfl | ⟨s1, s2⟩
                · have a1 : fLt 0 0 = false := by decide
                  have a2 : fEq 0 0 = true := by decide
                  have a3 : fLt 0 4607182418800017408 = true := by decide
                  go_wp2
                  go_ret
                  exact ⟨rfl, W9.out⟩
                · have a1 : fLt 0 4607182418800017408 = true := by decide
                  have a2 : fLt 4607182418800017408 4607182418800017408 = false := by decide
                  have a3 : fEq 4607182418800017408 4607182418800017408 = true := by decide
                  go_wp2
                  go_ret
                  exact ⟨rfl, W9.out⟩
                · have a1 : fLt 0 bu = true := by rw [v3]; exact decide_eq_true s1
                  have a2 : fLt bu 4607182418800017408 = true := lt_one s2
                  go_wp2
                  go_ret
                  exact ⟨rfl, W9.out⟩
  · have SH := Lib.hid (shares_odd (HL.out _ W1.out) hq hq2)
    have hbz : busyF l = 0 := by unfold busyF; rw [hq]; simp [hq2]
    replace hq := Lib.hid hq
    go_wp2_with fail
    refine SH.out.mono ?_
    rintro _ w2 ⟨rfl, b2⟩
    have W2 := Lib.hid (W1.out.trans (b2.mono W1.out.size))
    have Z2 := Lib.hid (Blk.new w2 30 #[.int .i64 q1, .int .i64 q2])
    have W3 := Lib.hid (W2.out.alloc W2.out.size (.cells #[.int .i64 q1, .int .i64 q2] 30))
    clear b2 W2 SH W1
    go_wp2_with fail
    generalize w2.alloc (.cells #[.int .i64 q1, .int .i64 q2] 30) = w3 at *
    refine (waits_odd (HL.out _ W3.out) hq.out hq2).mono ?_
    rintro _ w4 ⟨rfl, b4⟩
    have Z4 := Lib.hid ((Z2.out.below b4 Z2.out.lt).alloc (.cells #[.int .i64 q1, .int .i64 q2] 30))
    have W4 := Lib.hid (W3.out.trans (b4.mono W3.out.size))
    have W5 := Lib.hid (W4.out.alloc W4.out.size (.cells #[.int .i64 q1, .int .i64 q2] 30))
    clear b4 W4 W3 Z2
    go_wp2_with fail
    generalize w4.alloc (.cells #[.int .i64 q1, .int .i64 q2] 30) = w5 at *
    refine (busy_b (HL.out _ W5.out)).mono ?_
    rintro _ w6 ⟨rfl, b6⟩
    rw [hq.out, hbz]
    have Z6 := Lib.hid ((Z4.out.below b6 Z4.out.lt).alloc (.cells #[.int .i64 q1, .int .i64 q2] 30))
    have W6 := Lib.hid (W5.out.trans (b6.mono W5.out.size))
    have W7 := Lib.hid (W6.out.alloc W6.out.size (.cells #[.int .i64 q1, .int .i64 q2] 30))
    clear b6 W6 W5 Z4
    have z1 := Z6.out.cell 1
    simp only [List.getElem?_toArray, List.getElem?_cons_zero, List.getElem?_cons_succ] at z1
    have hqa : (q2 == 0) = false := by simp [hq2]
    have hqb : (q2 != 0) = true := by simp [hq2]
    dsimp only
    go_wp2_with (go_at_call 18; refine (num_b _ _).mono ?_; rintro e _ ⟨rfl, rfl⟩)
    go_ret
    exact ⟨rfl, W7.out⟩
end Go.Proofs.Yteoebfjhadmnbaa
