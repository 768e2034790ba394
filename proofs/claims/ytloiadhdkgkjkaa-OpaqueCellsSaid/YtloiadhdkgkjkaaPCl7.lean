/- The document's attempts: try by contract. -/
import Derived.Test.YtloiadhdkgkjkaaEvR
import Derived.Test.YtloiadhdkgkjkaaPCl6
namespace Go.Proofs.Ytloiadhdkgkjkaa
open Go.RowKit
set_option maxHeartbeats 40000000
set_option linter.unusedVariables false
set_option linter.unusedSimpArgs false
def endK (k : Int) : Bool := k == 6 || k == 7 || k == 8 || k == 9
def updR (x : Tr) (i : Nat) (e : Ev) : Tr :=
  { th := x.th, first := x.first, last := i, sn := if e.kd = 4 then e.wd else x.sn, how := if endK e.kd = true then e.kd else x.how, rd := if e.kd = 2 ∧ e.ow = false then x.rd + 1 else x.rd, wr := if e.kd = 3 then x.wr + 1 else x.wr }
/-- The attempt that begins there, n events on; is it over? -/
def tryS (l : List Ev) (a : Nat) : Nat → Tr × Bool
  | 0 => (⟨(evAt l a).th, a, a, (evAt l a).wd, 0, 0, 0⟩, false)
  | n + 1 =>
    let s := tryS l a n
    let e := evAt l (a + 1 + n)
    if s.2 = true ∨ e.th ≠ s.1.th then s else (updR s.1 (a + 1 + n) e, endK e.kd)
def tryF (l : List Ev) (a : Nat) : Tr := (tryS l a (l.length - (a + 1))).1
theorem tryS_done {l : List Ev} {a n : Nat} (h : (tryS l a n).2 = true) : ∀ m, n ≤ m → tryS l a m = tryS l a n
  | 0, hm => by rw [show n = 0 by omega]
  | m + 1, hm => by
    by_cases e : n = m + 1
    · rw [e]
    · have h1 := tryS_done h m (by omega)
      show (if (tryS l a m).2 = true ∨ _ then tryS l a m else _) = _
      rw [if_pos (.inl (by rw [h1]; exact h)), h1]
theorem Blk.cast {w : World} {b : Nat} {t : TypeId} {cs cs' : Array Value} (h : Blk w b t cs) (e : cs = cs') : Blk w b t cs' := e ▸ h
theorem tryS_bd (l : List Ev) (a : Nat) : ∀ n, (tryS l a n).1.rd ≤ n ∧ (tryS l a n).1.wr ≤ n
  | 0 => ⟨Nat.le_refl _, Nat.le_refl _⟩
  | n + 1 => by
    have h := tryS_bd l a n
    show (if (tryS l a n).2 = true ∨ _ then tryS l a n else _ : Tr × Bool).1.rd ≤ n + 1 ∧ (if (tryS l a n).2 = true ∨ _ then tryS l a n else _ : Tr × Bool).1.wr ≤ n + 1
    split
    · omega
    · unfold updR
      dsimp only
      constructor <;> split <;> omega
set_option maxRecDepth 100000 in
theorem rtry_b {w : World} {A : Option Addr} {cp : Nat} {l : List Ev} (hL : LiesV w (.slice A l.length cp) l) {a : Nat} (ha : a < l.length) :
    Calls Try.prog 55 #[.slice A l.length cp, .int .i64 a] w fun x w' => x = .returned (.agg (encT (tryF l a)).toArray) ∧ Below w.heap.size w w' := by
  have hln := hL.len
  have hgl : ∀ g o, A = some ⟨g, o, none⟩ → g < w.heap.size := fun g o e => by subst e; exact hL.blt ha
  obtain ⟨g, o, rfl, hc⟩ := hL.at ha
  obtain ⟨d0, -, -, d3, -, -⟩ := hc a ha
  have hg := hgl _ _ rfl
  have hlen : (l.length : Int) ≤ 9223372036854775807 := by omega
  have ha' : (a : Int) < l.length := by omega
  obtain ⟨w1, hw1⟩ : ∃ w1, w1 = w.alloc (.cells #[.int .i64 0, .int .i64 0, .int .i64 0, .int .u64 0, .int .i64 0, .int .i64 0, .int .i64 0] 38) := ⟨_, rfl⟩
  have hR1 : Blk w1 w.heap.size 38 #[.int .i64 0, .int .i64 0, .int .i64 0, .int .u64 0, .int .i64 0, .int .i64 0, .int .i64 0] := by rw [hw1]; exact Blk.new _ _ _
  have hb1 : Below w.heap.size w w1 := by rw [hw1]; exact (Below.refl _ _).alloc (Nat.le_refl _) _
  have hL1 := hL.below hb1 (Nat.le_refl _)
  have k0 : Hid (∀ n, (w1.drewN n).cell? ⟨g, o + a * 6, none⟩ = some (.int .i64 (evAt l a).th)) := Lib.hid fun n => by rw [hw1]; exact cell_alloc_ d0
  have k3 : Hid (∀ n, (w1.drewN n).cell? ⟨g, o + a * 6 + 3, none⟩ = some (.int .u64 (evAt l a).wd)) := Lib.hid fun n => by rw [hw1]; exact cell_alloc_ d3
  have z1 : Hid (w1.heap.size = w.heap.size + 1) := Lib.hid (by rw [hw1]; simp)
  replace hL := Lib.hid hL
  replace hR1 := Lib.hid hR1
  replace hb1 := Lib.hid hb1
  replace hw1 := Lib.hid hw1
  clear hc d0 d3 hgl
  have hs1 : w.heap.size ≤ w1.heap.size := by have := z1.out; omega
  have hne : Hid (w.heap.size ≠ w1.heap.size) := Lib.hid (by have := z1.out; omega)
  have hne1 : w.heap.size ≠ w1.heap.size := hne.out
  have hne2 : w1.heap.size ≠ w.heap.size := hne.out.symm
  go_enter Try.func55, Try.ntmps55
  go_wp2
  rw [← hw1.out]
  refine wp_region_mix2 (fun W' => W'.cell? ⟨g, o + a * 6, none⟩ = some (.int .i64 (evAt l a).th) ∧ W'.cell? ⟨g, o + a * 6 + 3, none⟩ = some (.int .u64 (evAt l a).wd)) [3, 3, 3, 3, 0, 3, 3, 3, 3, 3, 3, 0, 2, 2, 2] (List.range 12) 12 13 [13, 14] [12, 14] (by kernel_rfl) (by kernel_rfl) (fun _ _ h => h) ⟨k0.out 1, k3.out 1⟩ ?_
  repeat (first | ((first | refine wpMixE_pure rfl rfl (fun K hK => ?_) | refine wpMixE_any rfl rfl (fun K hK => ?_)); go_simp; refine hK _ _ ?_; clear hK K) | (refine wpMixE_any rfl rfl (fun K hK => ?_); rw [if_pos (by go_simp)]; apply Exists.intro; refine And.intro (fun w2 hS2 => ?_) (hK _ _ ?_); (focus (obtain ⟨hs0, hs1⟩ := hS2; go_simp; rfl)); clear hK K))
  refine wpMixE_nil ⟨?_, ?_⟩
  · refine wpMix_loud rfl rfl (fun m1 K hK => ?_)
    go_wp2_with fail
    refine hK _ _ (fun _ => ⟨k0.out _, k3.out _⟩) ?_; clear hK K
    refine wpMix_loud rfl rfl (fun m2 K hK => ?_)
    go_wp2_with fail
    refine hK _ _ (fun _ => ⟨cell_alloc_ (k0.out _), cell_alloc_ (k3.out _)⟩) ?_; clear hK K
    refine wpMix_loud rfl rfl (fun m3 K hK => ?_)
    obtain ⟨wz, hwz⟩ : ∃ wz, wz = ((w1.drewN (1 + m1 + m2)).alloc (.cells #[.int .i64 0, .int .i64 0, .int .i64 0, .int .u64 0, .int .i64 0, .int .i64 0, .int .i64 0] 38)).drewN m3 := ⟨_, rfl⟩
    have hB0 : Blk wz w1.heap.size 38 #[.int .i64 0, .int .i64 0, .int .i64 0, .int .u64 0, .int .i64 0, .int .i64 0, .int .i64 0] := by rw [hwz]; exact (Blk.new (w1.drewN (1 + m1 + m2)) _ _).drewN m3
    have hR0 : Blk wz w.heap.size 38 #[.int .i64 0, .int .i64 0, .int .i64 0, .int .u64 0, .int .i64 0, .int .i64 0, .int .i64 0] := by rw [hwz]; exact ((hR1.out.drewN (1 + m1 + m2)).alloc _).drewN m3
    have hb0 : Below w.heap.size w wz := by rw [hwz]; exact below_drewNs ((below_drewNs hb1.out (1 + m1 + m2)).alloc hb1.out.size _) m3
    rw [← hwz]
    have s0 := (hB0.cell 0).trans (show _ = some (.int .i64 0) from rfl)
    have p0 := hB0.frozen 0
    have s1 := (hB0.cell 1).trans (show _ = some (.int .i64 0) from rfl)
    have p1 := hB0.frozen 1
    have s2 := (hB0.cell 2).trans (show _ = some (.int .i64 0) from rfl)
    have p2 := hB0.frozen 2
    have s3 := (hB0.cell 3).trans (show _ = some (.int .u64 0) from rfl)
    have p3 := hB0.frozen 3
    have s4 := (hB0.cell 4).trans (show _ = some (.int .i64 0) from rfl)
    have p4 := hB0.frozen 4
    have s5 := (hB0.cell 5).trans (show _ = some (.int .i64 0) from rfl)
    have p5 := hB0.frozen 5
    have s6 := (hB0.cell 6).trans (show _ = some (.int .i64 0) from rfl)
    have p6 := hB0.frozen 6
    have hBT : Hid (∀ j, Blk ((((((((wz.setCell ⟨w1.heap.size, 0, none⟩ (.int .i64 (evAt l a).th)).setCell ⟨w1.heap.size, 1, none⟩ (.int .i64 a)).setCell ⟨w1.heap.size, 2, none⟩ (.int .i64 a)).setCell ⟨w1.heap.size, 3, none⟩ (.int .u64 (evAt l a).wd)).setCell ⟨w1.heap.size, 4, none⟩ (.int .i64 0)).setCell ⟨w1.heap.size, 5, none⟩ (.int .i64 0)).setCell ⟨w1.heap.size, 6, none⟩ (.int .i64 0)).drewN j) w1.heap.size 38 (encT (tryS l a 0).1).toArray) := Lib.hid (fun j => (Blk.cast ((((((((hB0.set_ 0 (.int .i64 (evAt l a).th)).set_ 1 (.int .i64 a)).set_ 2 (.int .i64 a)).set_ 3 (.int .u64 (evAt l a).wd)).set_ 4 (.int .i64 0)).set_ 5 (.int .i64 0)).set_ 6 (.int .i64 0))) (by simp [encT, tryS])).drewN j)
    have hRT := Lib.hid (fun j => ((((((((hR0.far (p := ⟨w1.heap.size, 0, none⟩) hne.out (.int .i64 (evAt l a).th)).far (p := ⟨w1.heap.size, 1, none⟩) hne.out (.int .i64 a)).far (p := ⟨w1.heap.size, 2, none⟩) hne.out (.int .i64 a)).far (p := ⟨w1.heap.size, 3, none⟩) hne.out (.int .u64 (evAt l a).wd)).far (p := ⟨w1.heap.size, 4, none⟩) hne.out (.int .i64 0)).far (p := ⟨w1.heap.size, 5, none⟩) hne.out (.int .i64 0)).far (p := ⟨w1.heap.size, 6, none⟩) hne.out (.int .i64 0))).drewN j)
    have hbT := Lib.hid (fun j => below_drewNs (((((((hb0.setCell (p := ⟨w1.heap.size, 0, none⟩) hs1 (.int .i64 (evAt l a).th)).setCell (p := ⟨w1.heap.size, 1, none⟩) hs1 (.int .i64 a)).setCell (p := ⟨w1.heap.size, 2, none⟩) hs1 (.int .i64 a)).setCell (p := ⟨w1.heap.size, 3, none⟩) hs1 (.int .u64 (evAt l a).wd)).setCell (p := ⟨w1.heap.size, 4, none⟩) hs1 (.int .i64 0)).setCell (p := ⟨w1.heap.size, 5, none⟩) hs1 (.int .i64 0)).setCell (p := ⟨w1.heap.size, 6, none⟩) hs1 (.int .i64 0)) j)
    clear hB0 hR0 hb0 hR1 hb1 k0 k3
    replace hwz := Lib.hid hwz
    go_wp2_with fail
    refine hK _ _ (fun h => (Bool.false_ne_true ((Eq.symm (by kernel_rfl)).trans h)).elim) ?_; clear hK K
    refine wpMix_nil (fun m4 => ?_)
    go_wp2
    go_loopw [6] (fun c wr => ∃ n : Nat, a + 1 + n ≤ l.length ∧ c = .int .i64 ((a + 1 + n : Nat) : Int) ∧ Hid ((tryS l a n).2 = false) ∧ Hid (Blk wr w1.heap.size 38 (encT (tryS l a n).1).toArray) ∧ Hid (Blk wr w.heap.size 38 #[.int .i64 0, .int .i64 0, .int .i64 0, .int .u64 0, .int .i64 0, .int .i64 0, .int .i64 0]) ∧ Hid (Below w.heap.size w wr)) (fun c _ => l.length - (intOf c).toNat)
    case atStart => exact ⟨0, by omega, by go_num, Lib.hid rfl, Lib.hid (hBT.out _), Lib.hid (hRT.out _), Lib.hid (hbT.out _)⟩
    case round =>
      obtain ⟨n, hn, rfl, hfa, hB, hR, hbr⟩ := hrel
      clear hBT hRT hbT
      have hst := tryS_bd l a n
      by_cases hlt : a + 1 + n < l.length
      · obtain ⟨g', o', e, hce⟩ := (hL.out.below hbr.out (Nat.le_refl _)).at hlt
        injection e with e
        injection e with e1 e2
        subst e1 e2
        obtain ⟨d0, d1, d2, d3, d4, d5⟩ := hce (a + 1 + n) hlt
        have hu : Hid (tryS l a (n + 1) = if (evAt l (a + 1 + n)).th ≠ (tryS l a n).1.th then tryS l a n else (updR (tryS l a n).1 (a + 1 + n) (evAt l (a + 1 + n)), endK (evAt l (a + 1 + n)).kd)) := Lib.hid (by
          show (if (tryS l a n).2 = true ∨ _ then tryS l a n else _) = _
          simp only [hfa.out, Bool.false_eq_true, false_or])
        have hrb := hR.out.lt
        have htb := hB.out.lt
        have hne3 : w1.heap.size ≠ wr.heap.size := Nat.ne_of_lt htb
        have hne4 : w.heap.size ≠ wr.heap.size := Nat.ne_of_lt hrb
        have hne5 : wr.heap.size ≠ w1.heap.size := (Nat.ne_of_lt htb).symm
        have hne6 : wr.heap.size ≠ w.heap.size := (Nat.ne_of_lt hrb).symm
        generalize hts : tryS l a n = st at *
        obtain ⟨x, dn⟩ := st
        obtain ⟨xth, xfi, xla, xsn, xho, xrd, xwr⟩ := x
        dsimp only at hB hu hst hfa
        obtain rfl : dn = false := hfa.out
        generalize evAt l (a + 1 + n) = ev at *
        obtain ⟨x0, x1, ad, wd, ow, er⟩ := ev
        dsimp only at d0 d1 d2 d3 d4 d5 hu
        have b1 : ((a + 1 + n : Nat) : Int) < l.length := by omega
        have wr1 := IntWalk.i64_in (n := (xrd : Int) + 1) (by omega)
        have wr2 := IntWalk.i64_in (n := (xwr : Int) + 1) (by omega)
        generalize hm : a + 1 + n = m at *
        have w2 := IntWalk.i64_in (n := (m : Int) + 1) (by omega)
        replace hm := Lib.hid hm
        replace hts := Lib.hid hts
        clear hce hrb htb hfa
        by_cases g0 : x0 = xth
        · have g1 : (x0 != xth) = false := by simpa using g0
          rw [if_neg (by simpa using g0)] at hu
          replace g0 := Lib.hid g0
          by_cases h4 : x1 = 4
          · subst h4
            have hBE := Lib.hid (hB.out.alloc (.cells #[.int .i64 x0, .int .i64 4, .int .u64 ad, .int .u64 wd, .bool ow, .int .i64 er] 61))
            have hRE := Lib.hid (hR.out.alloc (.cells #[.int .i64 x0, .int .i64 4, .int .u64 ad, .int .u64 wd, .bool ow, .int .i64 er] 61))
            have hbE := Lib.hid (hbr.out.alloc hbr.out.size (.cells #[.int .i64 x0, .int .i64 4, .int .u64 ad, .int .u64 wd, .bool ow, .int .i64 er] 61))
            have t0 := (hBE.out.cell 0).trans (show _ = some (.int .i64 xth) from rfl)
            have p0 := hBE.out.frozen 0
            have t1 := (hBE.out.cell 1).trans (show _ = some (.int .i64 xfi) from rfl)
            have p1 := hBE.out.frozen 1
            have t2 := (hBE.out.cell 2).trans (show _ = some (.int .i64 xla) from rfl)
            have p2 := hBE.out.frozen 2
            have t3 := (hBE.out.cell 3).trans (show _ = some (.int .u64 xsn) from rfl)
            have p3 := hBE.out.frozen 3
            have t4 := (hBE.out.cell 4).trans (show _ = some (.int .i64 xho) from rfl)
            have p4 := hBE.out.frozen 4
            have t5 := (hBE.out.cell 5).trans (show _ = some (.int .i64 xrd) from rfl)
            have p5 := hBE.out.frozen 5
            have t6 := (hBE.out.cell 6).trans (show _ = some (.int .i64 xwr) from rfl)
            have p6 := hBE.out.frozen 6
            have r0 := (hRE.out.cell 0).trans (show _ = some (.int .i64 0) from rfl)
            have q0 := hRE.out.frozen 0
            have r1 := (hRE.out.cell 1).trans (show _ = some (.int .i64 0) from rfl)
            have q1 := hRE.out.frozen 1
            have r2 := (hRE.out.cell 2).trans (show _ = some (.int .i64 0) from rfl)
            have q2 := hRE.out.frozen 2
            have r3 := (hRE.out.cell 3).trans (show _ = some (.int .u64 0) from rfl)
            have q3 := hRE.out.frozen 3
            have r4 := (hRE.out.cell 4).trans (show _ = some (.int .i64 0) from rfl)
            have q4 := hRE.out.frozen 4
            have r5 := (hRE.out.cell 5).trans (show _ = some (.int .i64 0) from rfl)
            have q5 := hRE.out.frozen 5
            have r6 := (hRE.out.cell 6).trans (show _ = some (.int .i64 0) from rfl)
            have q6 := hRE.out.frozen 6
            clear hB hR hbr
            have hBn : Hid (Blk (((wr.alloc (.cells #[.int .i64 x0, .int .i64 4, .int .u64 ad, .int .u64 wd, .bool ow, .int .i64 er] 61)).setCell ⟨w1.heap.size, 2, none⟩ (.int .i64 m)).setCell ⟨w1.heap.size, 3, none⟩ (.int .u64 wd)) w1.heap.size 38 (encT (updR (⟨xth, xfi, xla, xsn, xho, xrd, xwr⟩ : Tr) m ⟨x0, 4, ad, wd, ow, er⟩)).toArray) := Lib.hid (Blk.cast (((hBE.out.set_ 2 (.int .i64 m)).set_ 3 (.int .u64 wd))) (by simp [encT, updR, endK]))
            have hRn := Lib.hid (((hRE.out.far (p := ⟨w1.heap.size, 2, none⟩) hne.out (.int .i64 m)).far (p := ⟨w1.heap.size, 3, none⟩) hne.out (.int .u64 wd)))
            have hbn := Lib.hid (((hbE.out.setCell (p := ⟨w1.heap.size, 2, none⟩) hs1 (.int .i64 m)).setCell (p := ⟨w1.heap.size, 3, none⟩) hs1 (.int .u64 wd)))
            clear hBE hRE hbE
            go_wp2
            go_roundw
            case rel => exact ⟨n + 1, by have := hm.out; omega, by have := hm.out; go_num, Lib.hid (by rw [hu.out]; simp [endK]), Lib.hid (by rw [hu.out]; exact hBn.out), hRn, hbn⟩
            case measure => have := hm.out; simp [intOf]; omega
          have f4 : (x1 == 4) = false := by simpa using h4
          by_cases h2 : x1 = 2
          · subst h2
            cases ow with
            | false =>
              have hBE := Lib.hid (hB.out.alloc (.cells #[.int .i64 x0, .int .i64 2, .int .u64 ad, .int .u64 wd, .bool false, .int .i64 er] 61))
              have hRE := Lib.hid (hR.out.alloc (.cells #[.int .i64 x0, .int .i64 2, .int .u64 ad, .int .u64 wd, .bool false, .int .i64 er] 61))
              have hbE := Lib.hid (hbr.out.alloc hbr.out.size (.cells #[.int .i64 x0, .int .i64 2, .int .u64 ad, .int .u64 wd, .bool false, .int .i64 er] 61))
              have t0 := (hBE.out.cell 0).trans (show _ = some (.int .i64 xth) from rfl)
              have p0 := hBE.out.frozen 0
              have t1 := (hBE.out.cell 1).trans (show _ = some (.int .i64 xfi) from rfl)
              have p1 := hBE.out.frozen 1
              have t2 := (hBE.out.cell 2).trans (show _ = some (.int .i64 xla) from rfl)
              have p2 := hBE.out.frozen 2
              have t3 := (hBE.out.cell 3).trans (show _ = some (.int .u64 xsn) from rfl)
              have p3 := hBE.out.frozen 3
              have t4 := (hBE.out.cell 4).trans (show _ = some (.int .i64 xho) from rfl)
              have p4 := hBE.out.frozen 4
              have t5 := (hBE.out.cell 5).trans (show _ = some (.int .i64 xrd) from rfl)
              have p5 := hBE.out.frozen 5
              have t6 := (hBE.out.cell 6).trans (show _ = some (.int .i64 xwr) from rfl)
              have p6 := hBE.out.frozen 6
              have r0 := (hRE.out.cell 0).trans (show _ = some (.int .i64 0) from rfl)
              have q0 := hRE.out.frozen 0
              have r1 := (hRE.out.cell 1).trans (show _ = some (.int .i64 0) from rfl)
              have q1 := hRE.out.frozen 1
              have r2 := (hRE.out.cell 2).trans (show _ = some (.int .i64 0) from rfl)
              have q2 := hRE.out.frozen 2
              have r3 := (hRE.out.cell 3).trans (show _ = some (.int .u64 0) from rfl)
              have q3 := hRE.out.frozen 3
              have r4 := (hRE.out.cell 4).trans (show _ = some (.int .i64 0) from rfl)
              have q4 := hRE.out.frozen 4
              have r5 := (hRE.out.cell 5).trans (show _ = some (.int .i64 0) from rfl)
              have q5 := hRE.out.frozen 5
              have r6 := (hRE.out.cell 6).trans (show _ = some (.int .i64 0) from rfl)
              have q6 := hRE.out.frozen 6
              clear hB hR hbr
              have hBn : Hid (Blk (((wr.alloc (.cells #[.int .i64 x0, .int .i64 2, .int .u64 ad, .int .u64 wd, .bool false, .int .i64 er] 61)).setCell ⟨w1.heap.size, 2, none⟩ (.int .i64 m)).setCell ⟨w1.heap.size, 5, none⟩ (.int .i64 ((xrd : Int) + 1))) w1.heap.size 38 (encT (updR (⟨xth, xfi, xla, xsn, xho, xrd, xwr⟩ : Tr) m ⟨x0, 2, ad, wd, false, er⟩)).toArray) := Lib.hid (Blk.cast (((hBE.out.set_ 2 (.int .i64 m)).set_ 5 (.int .i64 ((xrd : Int) + 1)))) (by simp [encT, updR, endK]))
              have hRn := Lib.hid (((hRE.out.far (p := ⟨w1.heap.size, 2, none⟩) hne.out (.int .i64 m)).far (p := ⟨w1.heap.size, 5, none⟩) hne.out (.int .i64 ((xrd : Int) + 1))))
              have hbn := Lib.hid (((hbE.out.setCell (p := ⟨w1.heap.size, 2, none⟩) hs1 (.int .i64 m)).setCell (p := ⟨w1.heap.size, 5, none⟩) hs1 (.int .i64 ((xrd : Int) + 1))))
              clear hBE hRE hbE
              go_wp2
              go_roundw
              case rel => exact ⟨n + 1, by have := hm.out; omega, by have := hm.out; go_num, Lib.hid (by rw [hu.out]; simp [endK]), Lib.hid (by rw [hu.out]; exact hBn.out), hRn, hbn⟩
              case measure => have := hm.out; simp [intOf]; omega
            | true =>
              have hBE := Lib.hid (hB.out.alloc (.cells #[.int .i64 x0, .int .i64 2, .int .u64 ad, .int .u64 wd, .bool true, .int .i64 er] 61))
              have hRE := Lib.hid (hR.out.alloc (.cells #[.int .i64 x0, .int .i64 2, .int .u64 ad, .int .u64 wd, .bool true, .int .i64 er] 61))
              have hbE := Lib.hid (hbr.out.alloc hbr.out.size (.cells #[.int .i64 x0, .int .i64 2, .int .u64 ad, .int .u64 wd, .bool true, .int .i64 er] 61))
              have t0 := (hBE.out.cell 0).trans (show _ = some (.int .i64 xth) from rfl)
              have p0 := hBE.out.frozen 0
              have t1 := (hBE.out.cell 1).trans (show _ = some (.int .i64 xfi) from rfl)
              have p1 := hBE.out.frozen 1
              have t2 := (hBE.out.cell 2).trans (show _ = some (.int .i64 xla) from rfl)
              have p2 := hBE.out.frozen 2
              have t3 := (hBE.out.cell 3).trans (show _ = some (.int .u64 xsn) from rfl)
              have p3 := hBE.out.frozen 3
              have t4 := (hBE.out.cell 4).trans (show _ = some (.int .i64 xho) from rfl)
              have p4 := hBE.out.frozen 4
              have t5 := (hBE.out.cell 5).trans (show _ = some (.int .i64 xrd) from rfl)
              have p5 := hBE.out.frozen 5
              have t6 := (hBE.out.cell 6).trans (show _ = some (.int .i64 xwr) from rfl)
              have p6 := hBE.out.frozen 6
              have r0 := (hRE.out.cell 0).trans (show _ = some (.int .i64 0) from rfl)
              have q0 := hRE.out.frozen 0
              have r1 := (hRE.out.cell 1).trans (show _ = some (.int .i64 0) from rfl)
              have q1 := hRE.out.frozen 1
              have r2 := (hRE.out.cell 2).trans (show _ = some (.int .i64 0) from rfl)
              have q2 := hRE.out.frozen 2
              have r3 := (hRE.out.cell 3).trans (show _ = some (.int .u64 0) from rfl)
              have q3 := hRE.out.frozen 3
              have r4 := (hRE.out.cell 4).trans (show _ = some (.int .i64 0) from rfl)
              have q4 := hRE.out.frozen 4
              have r5 := (hRE.out.cell 5).trans (show _ = some (.int .i64 0) from rfl)
              have q5 := hRE.out.frozen 5
              have r6 := (hRE.out.cell 6).trans (show _ = some (.int .i64 0) from rfl)
              have q6 := hRE.out.frozen 6
              clear hB hR hbr
              have hBn : Hid (Blk ((wr.alloc (.cells #[.int .i64 x0, .int .i64 2, .int .u64 ad, .int .u64 wd, .bool true, .int .i64 er] 61)).setCell ⟨w1.heap.size, 2, none⟩ (.int .i64 m)) w1.heap.size 38 (encT (updR (⟨xth, xfi, xla, xsn, xho, xrd, xwr⟩ : Tr) m ⟨x0, 2, ad, wd, true, er⟩)).toArray) := Lib.hid (Blk.cast ((hBE.out.set_ 2 (.int .i64 m))) (by simp [encT, updR, endK]))
              have hRn := Lib.hid ((hRE.out.far (p := ⟨w1.heap.size, 2, none⟩) hne.out (.int .i64 m)))
              have hbn := Lib.hid ((hbE.out.setCell (p := ⟨w1.heap.size, 2, none⟩) hs1 (.int .i64 m)))
              clear hBE hRE hbE
              go_wp2
              go_roundw
              case rel => exact ⟨n + 1, by have := hm.out; omega, by have := hm.out; go_num, Lib.hid (by rw [hu.out]; simp [endK]), Lib.hid (by rw [hu.out]; exact hBn.out), hRn, hbn⟩
              case measure => have := hm.out; simp [intOf]; omega
          have f2 : (x1 == 2) = false := by simpa using h2
          by_cases h3 : x1 = 3
          · subst h3
            have hBE := Lib.hid (hB.out.alloc (.cells #[.int .i64 x0, .int .i64 3, .int .u64 ad, .int .u64 wd, .bool ow, .int .i64 er] 61))
            have hRE := Lib.hid (hR.out.alloc (.cells #[.int .i64 x0, .int .i64 3, .int .u64 ad, .int .u64 wd, .bool ow, .int .i64 er] 61))
            have hbE := Lib.hid (hbr.out.alloc hbr.out.size (.cells #[.int .i64 x0, .int .i64 3, .int .u64 ad, .int .u64 wd, .bool ow, .int .i64 er] 61))
            have t0 := (hBE.out.cell 0).trans (show _ = some (.int .i64 xth) from rfl)
            have p0 := hBE.out.frozen 0
            have t1 := (hBE.out.cell 1).trans (show _ = some (.int .i64 xfi) from rfl)
            have p1 := hBE.out.frozen 1
            have t2 := (hBE.out.cell 2).trans (show _ = some (.int .i64 xla) from rfl)
            have p2 := hBE.out.frozen 2
            have t3 := (hBE.out.cell 3).trans (show _ = some (.int .u64 xsn) from rfl)
            have p3 := hBE.out.frozen 3
            have t4 := (hBE.out.cell 4).trans (show _ = some (.int .i64 xho) from rfl)
            have p4 := hBE.out.frozen 4
            have t5 := (hBE.out.cell 5).trans (show _ = some (.int .i64 xrd) from rfl)
            have p5 := hBE.out.frozen 5
            have t6 := (hBE.out.cell 6).trans (show _ = some (.int .i64 xwr) from rfl)
            have p6 := hBE.out.frozen 6
            have r0 := (hRE.out.cell 0).trans (show _ = some (.int .i64 0) from rfl)
            have q0 := hRE.out.frozen 0
            have r1 := (hRE.out.cell 1).trans (show _ = some (.int .i64 0) from rfl)
            have q1 := hRE.out.frozen 1
            have r2 := (hRE.out.cell 2).trans (show _ = some (.int .i64 0) from rfl)
            have q2 := hRE.out.frozen 2
            have r3 := (hRE.out.cell 3).trans (show _ = some (.int .u64 0) from rfl)
            have q3 := hRE.out.frozen 3
            have r4 := (hRE.out.cell 4).trans (show _ = some (.int .i64 0) from rfl)
            have q4 := hRE.out.frozen 4
            have r5 := (hRE.out.cell 5).trans (show _ = some (.int .i64 0) from rfl)
            have q5 := hRE.out.frozen 5
            have r6 := (hRE.out.cell 6).trans (show _ = some (.int .i64 0) from rfl)
            have q6 := hRE.out.frozen 6
            clear hB hR hbr
            have hBn : Hid (Blk (((wr.alloc (.cells #[.int .i64 x0, .int .i64 3, .int .u64 ad, .int .u64 wd, .bool ow, .int .i64 er] 61)).setCell ⟨w1.heap.size, 2, none⟩ (.int .i64 m)).setCell ⟨w1.heap.size, 6, none⟩ (.int .i64 ((xwr : Int) + 1))) w1.heap.size 38 (encT (updR (⟨xth, xfi, xla, xsn, xho, xrd, xwr⟩ : Tr) m ⟨x0, 3, ad, wd, ow, er⟩)).toArray) := Lib.hid (Blk.cast (((hBE.out.set_ 2 (.int .i64 m)).set_ 6 (.int .i64 ((xwr : Int) + 1)))) (by simp [encT, updR, endK]))
            have hRn := Lib.hid (((hRE.out.far (p := ⟨w1.heap.size, 2, none⟩) hne.out (.int .i64 m)).far (p := ⟨w1.heap.size, 6, none⟩) hne.out (.int .i64 ((xwr : Int) + 1))))
            have hbn := Lib.hid (((hbE.out.setCell (p := ⟨w1.heap.size, 2, none⟩) hs1 (.int .i64 m)).setCell (p := ⟨w1.heap.size, 6, none⟩) hs1 (.int .i64 ((xwr : Int) + 1))))
            clear hBE hRE hbE
            go_wp2
            go_roundw
            case rel => exact ⟨n + 1, by have := hm.out; omega, by have := hm.out; go_num, Lib.hid (by rw [hu.out]; simp [endK]), Lib.hid (by rw [hu.out]; exact hBn.out), hRn, hbn⟩
            case measure => have := hm.out; simp [intOf]; omega
          have f3 : (x1 == 3) = false := by simpa using h3
          by_cases h6 : x1 = 6
          · subst h6
            have hBE := Lib.hid (hB.out.alloc (.cells #[.int .i64 x0, .int .i64 6, .int .u64 ad, .int .u64 wd, .bool ow, .int .i64 er] 61))
            have hRE := Lib.hid (hR.out.alloc (.cells #[.int .i64 x0, .int .i64 6, .int .u64 ad, .int .u64 wd, .bool ow, .int .i64 er] 61))
            have hbE := Lib.hid (hbr.out.alloc hbr.out.size (.cells #[.int .i64 x0, .int .i64 6, .int .u64 ad, .int .u64 wd, .bool ow, .int .i64 er] 61))
            have t0 := (hBE.out.cell 0).trans (show _ = some (.int .i64 xth) from rfl)
            have p0 := hBE.out.frozen 0
            have t1 := (hBE.out.cell 1).trans (show _ = some (.int .i64 xfi) from rfl)
            have p1 := hBE.out.frozen 1
            have t2 := (hBE.out.cell 2).trans (show _ = some (.int .i64 xla) from rfl)
            have p2 := hBE.out.frozen 2
            have t3 := (hBE.out.cell 3).trans (show _ = some (.int .u64 xsn) from rfl)
            have p3 := hBE.out.frozen 3
            have t4 := (hBE.out.cell 4).trans (show _ = some (.int .i64 xho) from rfl)
            have p4 := hBE.out.frozen 4
            have t5 := (hBE.out.cell 5).trans (show _ = some (.int .i64 xrd) from rfl)
            have p5 := hBE.out.frozen 5
            have t6 := (hBE.out.cell 6).trans (show _ = some (.int .i64 xwr) from rfl)
            have p6 := hBE.out.frozen 6
            have r0 := (hRE.out.cell 0).trans (show _ = some (.int .i64 0) from rfl)
            have q0 := hRE.out.frozen 0
            have r1 := (hRE.out.cell 1).trans (show _ = some (.int .i64 0) from rfl)
            have q1 := hRE.out.frozen 1
            have r2 := (hRE.out.cell 2).trans (show _ = some (.int .i64 0) from rfl)
            have q2 := hRE.out.frozen 2
            have r3 := (hRE.out.cell 3).trans (show _ = some (.int .u64 0) from rfl)
            have q3 := hRE.out.frozen 3
            have r4 := (hRE.out.cell 4).trans (show _ = some (.int .i64 0) from rfl)
            have q4 := hRE.out.frozen 4
            have r5 := (hRE.out.cell 5).trans (show _ = some (.int .i64 0) from rfl)
            have q5 := hRE.out.frozen 5
            have r6 := (hRE.out.cell 6).trans (show _ = some (.int .i64 0) from rfl)
            have q6 := hRE.out.frozen 6
            clear hB hR hbr
            go_wp2
            refine bodyPost_ret (v := .agg #[.int .i64 xth, .int .i64 xfi, .int .i64 m, .int .u64 xsn, .int .i64 6, .int .i64 xrd, .int .i64 xwr]) (by simp [results, Try.results55, go_sem, r0, r1, r2, r3, r4, r5, r6, q0, q1, q2, q3, q4, q5, q6]) rfl ⟨?_, (((((((((hbE.out.setCell (p := ⟨w1.heap.size, 2, none⟩) hs1 (.int .i64 m)).setCell (p := ⟨w1.heap.size, 4, none⟩) hs1 (.int .i64 6)).setCell (p := ⟨w.heap.size, 0, none⟩) (Nat.le_refl _) (.int .i64 xth)).setCell (p := ⟨w.heap.size, 1, none⟩) (Nat.le_refl _) (.int .i64 xfi)).setCell (p := ⟨w.heap.size, 2, none⟩) (Nat.le_refl _) (.int .i64 m)).setCell (p := ⟨w.heap.size, 3, none⟩) (Nat.le_refl _) (.int .u64 xsn)).setCell (p := ⟨w.heap.size, 4, none⟩) (Nat.le_refl _) (.int .i64 6)).setCell (p := ⟨w.heap.size, 5, none⟩) (Nat.le_refl _) (.int .i64 xrd)).setCell (p := ⟨w.heap.size, 6, none⟩) (Nat.le_refl _) (.int .i64 xwr))⟩
            rw [show tryF l a = updR ⟨xth, xfi, xla, xsn, xho, xrd, xwr⟩ m ⟨x0, 6, ad, wd, ow, er⟩ from by unfold tryF; rw [tryS_done (n := n + 1) (by rw [hu.out]; simp [endK]) _ (by have := hm.out; omega), hu.out]]
            simp [encT, updR, endK]
          have f6 : (x1 == 6) = false := by simpa using h6
          by_cases h7 : x1 = 7
          · subst h7
            have hBE := Lib.hid (hB.out.alloc (.cells #[.int .i64 x0, .int .i64 7, .int .u64 ad, .int .u64 wd, .bool ow, .int .i64 er] 61))
            have hRE := Lib.hid (hR.out.alloc (.cells #[.int .i64 x0, .int .i64 7, .int .u64 ad, .int .u64 wd, .bool ow, .int .i64 er] 61))
            have hbE := Lib.hid (hbr.out.alloc hbr.out.size (.cells #[.int .i64 x0, .int .i64 7, .int .u64 ad, .int .u64 wd, .bool ow, .int .i64 er] 61))
            have t0 := (hBE.out.cell 0).trans (show _ = some (.int .i64 xth) from rfl)
            have p0 := hBE.out.frozen 0
            have t1 := (hBE.out.cell 1).trans (show _ = some (.int .i64 xfi) from rfl)
            have p1 := hBE.out.frozen 1
            have t2 := (hBE.out.cell 2).trans (show _ = some (.int .i64 xla) from rfl)
            have p2 := hBE.out.frozen 2
            have t3 := (hBE.out.cell 3).trans (show _ = some (.int .u64 xsn) from rfl)
            have p3 := hBE.out.frozen 3
            have t4 := (hBE.out.cell 4).trans (show _ = some (.int .i64 xho) from rfl)
            have p4 := hBE.out.frozen 4
            have t5 := (hBE.out.cell 5).trans (show _ = some (.int .i64 xrd) from rfl)
            have p5 := hBE.out.frozen 5
            have t6 := (hBE.out.cell 6).trans (show _ = some (.int .i64 xwr) from rfl)
            have p6 := hBE.out.frozen 6
            have r0 := (hRE.out.cell 0).trans (show _ = some (.int .i64 0) from rfl)
            have q0 := hRE.out.frozen 0
            have r1 := (hRE.out.cell 1).trans (show _ = some (.int .i64 0) from rfl)
            have q1 := hRE.out.frozen 1
            have r2 := (hRE.out.cell 2).trans (show _ = some (.int .i64 0) from rfl)
            have q2 := hRE.out.frozen 2
            have r3 := (hRE.out.cell 3).trans (show _ = some (.int .u64 0) from rfl)
            have q3 := hRE.out.frozen 3
            have r4 := (hRE.out.cell 4).trans (show _ = some (.int .i64 0) from rfl)
            have q4 := hRE.out.frozen 4
            have r5 := (hRE.out.cell 5).trans (show _ = some (.int .i64 0) from rfl)
            have q5 := hRE.out.frozen 5
            have r6 := (hRE.out.cell 6).trans (show _ = some (.int .i64 0) from rfl)
            have q6 := hRE.out.frozen 6
            clear hB hR hbr
            go_wp2
            refine bodyPost_ret (v := .agg #[.int .i64 xth, .int .i64 xfi, .int .i64 m, .int .u64 xsn, .int .i64 7, .int .i64 xrd, .int .i64 xwr]) (by simp [results, Try.results55, go_sem, r0, r1, r2, r3, r4, r5, r6, q0, q1, q2, q3, q4, q5, q6]) rfl ⟨?_, (((((((((hbE.out.setCell (p := ⟨w1.heap.size, 2, none⟩) hs1 (.int .i64 m)).setCell (p := ⟨w1.heap.size, 4, none⟩) hs1 (.int .i64 7)).setCell (p := ⟨w.heap.size, 0, none⟩) (Nat.le_refl _) (.int .i64 xth)).setCell (p := ⟨w.heap.size, 1, none⟩) (Nat.le_refl _) (.int .i64 xfi)).setCell (p := ⟨w.heap.size, 2, none⟩) (Nat.le_refl _) (.int .i64 m)).setCell (p := ⟨w.heap.size, 3, none⟩) (Nat.le_refl _) (.int .u64 xsn)).setCell (p := ⟨w.heap.size, 4, none⟩) (Nat.le_refl _) (.int .i64 7)).setCell (p := ⟨w.heap.size, 5, none⟩) (Nat.le_refl _) (.int .i64 xrd)).setCell (p := ⟨w.heap.size, 6, none⟩) (Nat.le_refl _) (.int .i64 xwr))⟩
            rw [show tryF l a = updR ⟨xth, xfi, xla, xsn, xho, xrd, xwr⟩ m ⟨x0, 7, ad, wd, ow, er⟩ from by unfold tryF; rw [tryS_done (n := n + 1) (by rw [hu.out]; simp [endK]) _ (by have := hm.out; omega), hu.out]]
            simp [encT, updR, endK]
          have f7 : (x1 == 7) = false := by simpa using h7
          by_cases h8 : x1 = 8
          · subst h8
            have hBE := Lib.hid (hB.out.alloc (.cells #[.int .i64 x0, .int .i64 8, .int .u64 ad, .int .u64 wd, .bool ow, .int .i64 er] 61))
            have hRE := Lib.hid (hR.out.alloc (.cells #[.int .i64 x0, .int .i64 8, .int .u64 ad, .int .u64 wd, .bool ow, .int .i64 er] 61))
            have hbE := Lib.hid (hbr.out.alloc hbr.out.size (.cells #[.int .i64 x0, .int .i64 8, .int .u64 ad, .int .u64 wd, .bool ow, .int .i64 er] 61))
            have t0 := (hBE.out.cell 0).trans (show _ = some (.int .i64 xth) from rfl)
            have p0 := hBE.out.frozen 0
            have t1 := (hBE.out.cell 1).trans (show _ = some (.int .i64 xfi) from rfl)
            have p1 := hBE.out.frozen 1
            have t2 := (hBE.out.cell 2).trans (show _ = some (.int .i64 xla) from rfl)
            have p2 := hBE.out.frozen 2
            have t3 := (hBE.out.cell 3).trans (show _ = some (.int .u64 xsn) from rfl)
            have p3 := hBE.out.frozen 3
            have t4 := (hBE.out.cell 4).trans (show _ = some (.int .i64 xho) from rfl)
            have p4 := hBE.out.frozen 4
            have t5 := (hBE.out.cell 5).trans (show _ = some (.int .i64 xrd) from rfl)
            have p5 := hBE.out.frozen 5
            have t6 := (hBE.out.cell 6).trans (show _ = some (.int .i64 xwr) from rfl)
            have p6 := hBE.out.frozen 6
            have r0 := (hRE.out.cell 0).trans (show _ = some (.int .i64 0) from rfl)
            have q0 := hRE.out.frozen 0
            have r1 := (hRE.out.cell 1).trans (show _ = some (.int .i64 0) from rfl)
            have q1 := hRE.out.frozen 1
            have r2 := (hRE.out.cell 2).trans (show _ = some (.int .i64 0) from rfl)
            have q2 := hRE.out.frozen 2
            have r3 := (hRE.out.cell 3).trans (show _ = some (.int .u64 0) from rfl)
            have q3 := hRE.out.frozen 3
            have r4 := (hRE.out.cell 4).trans (show _ = some (.int .i64 0) from rfl)
            have q4 := hRE.out.frozen 4
            have r5 := (hRE.out.cell 5).trans (show _ = some (.int .i64 0) from rfl)
            have q5 := hRE.out.frozen 5
            have r6 := (hRE.out.cell 6).trans (show _ = some (.int .i64 0) from rfl)
            have q6 := hRE.out.frozen 6
            clear hB hR hbr
            go_wp2
            refine bodyPost_ret (v := .agg #[.int .i64 xth, .int .i64 xfi, .int .i64 m, .int .u64 xsn, .int .i64 8, .int .i64 xrd, .int .i64 xwr]) (by simp [results, Try.results55, go_sem, r0, r1, r2, r3, r4, r5, r6, q0, q1, q2, q3, q4, q5, q6]) rfl ⟨?_, (((((((((hbE.out.setCell (p := ⟨w1.heap.size, 2, none⟩) hs1 (.int .i64 m)).setCell (p := ⟨w1.heap.size, 4, none⟩) hs1 (.int .i64 8)).setCell (p := ⟨w.heap.size, 0, none⟩) (Nat.le_refl _) (.int .i64 xth)).setCell (p := ⟨w.heap.size, 1, none⟩) (Nat.le_refl _) (.int .i64 xfi)).setCell (p := ⟨w.heap.size, 2, none⟩) (Nat.le_refl _) (.int .i64 m)).setCell (p := ⟨w.heap.size, 3, none⟩) (Nat.le_refl _) (.int .u64 xsn)).setCell (p := ⟨w.heap.size, 4, none⟩) (Nat.le_refl _) (.int .i64 8)).setCell (p := ⟨w.heap.size, 5, none⟩) (Nat.le_refl _) (.int .i64 xrd)).setCell (p := ⟨w.heap.size, 6, none⟩) (Nat.le_refl _) (.int .i64 xwr))⟩
            rw [show tryF l a = updR ⟨xth, xfi, xla, xsn, xho, xrd, xwr⟩ m ⟨x0, 8, ad, wd, ow, er⟩ from by unfold tryF; rw [tryS_done (n := n + 1) (by rw [hu.out]; simp [endK]) _ (by have := hm.out; omega), hu.out]]
            simp [encT, updR, endK]
          have f8 : (x1 == 8) = false := by simpa using h8
          by_cases h9 : x1 = 9
          · subst h9
            have hBE := Lib.hid (hB.out.alloc (.cells #[.int .i64 x0, .int .i64 9, .int .u64 ad, .int .u64 wd, .bool ow, .int .i64 er] 61))
            have hRE := Lib.hid (hR.out.alloc (.cells #[.int .i64 x0, .int .i64 9, .int .u64 ad, .int .u64 wd, .bool ow, .int .i64 er] 61))
            have hbE := Lib.hid (hbr.out.alloc hbr.out.size (.cells #[.int .i64 x0, .int .i64 9, .int .u64 ad, .int .u64 wd, .bool ow, .int .i64 er] 61))
            have t0 := (hBE.out.cell 0).trans (show _ = some (.int .i64 xth) from rfl)
            have p0 := hBE.out.frozen 0
            have t1 := (hBE.out.cell 1).trans (show _ = some (.int .i64 xfi) from rfl)
            have p1 := hBE.out.frozen 1
            have t2 := (hBE.out.cell 2).trans (show _ = some (.int .i64 xla) from rfl)
            have p2 := hBE.out.frozen 2
            have t3 := (hBE.out.cell 3).trans (show _ = some (.int .u64 xsn) from rfl)
            have p3 := hBE.out.frozen 3
            have t4 := (hBE.out.cell 4).trans (show _ = some (.int .i64 xho) from rfl)
            have p4 := hBE.out.frozen 4
            have t5 := (hBE.out.cell 5).trans (show _ = some (.int .i64 xrd) from rfl)
            have p5 := hBE.out.frozen 5
            have t6 := (hBE.out.cell 6).trans (show _ = some (.int .i64 xwr) from rfl)
            have p6 := hBE.out.frozen 6
            have r0 := (hRE.out.cell 0).trans (show _ = some (.int .i64 0) from rfl)
            have q0 := hRE.out.frozen 0
            have r1 := (hRE.out.cell 1).trans (show _ = some (.int .i64 0) from rfl)
            have q1 := hRE.out.frozen 1
            have r2 := (hRE.out.cell 2).trans (show _ = some (.int .i64 0) from rfl)
            have q2 := hRE.out.frozen 2
            have r3 := (hRE.out.cell 3).trans (show _ = some (.int .u64 0) from rfl)
            have q3 := hRE.out.frozen 3
            have r4 := (hRE.out.cell 4).trans (show _ = some (.int .i64 0) from rfl)
            have q4 := hRE.out.frozen 4
            have r5 := (hRE.out.cell 5).trans (show _ = some (.int .i64 0) from rfl)
            have q5 := hRE.out.frozen 5
            have r6 := (hRE.out.cell 6).trans (show _ = some (.int .i64 0) from rfl)
            have q6 := hRE.out.frozen 6
            clear hB hR hbr
            go_wp2
            refine bodyPost_ret (v := .agg #[.int .i64 xth, .int .i64 xfi, .int .i64 m, .int .u64 xsn, .int .i64 9, .int .i64 xrd, .int .i64 xwr]) (by simp [results, Try.results55, go_sem, r0, r1, r2, r3, r4, r5, r6, q0, q1, q2, q3, q4, q5, q6]) rfl ⟨?_, (((((((((hbE.out.setCell (p := ⟨w1.heap.size, 2, none⟩) hs1 (.int .i64 m)).setCell (p := ⟨w1.heap.size, 4, none⟩) hs1 (.int .i64 9)).setCell (p := ⟨w.heap.size, 0, none⟩) (Nat.le_refl _) (.int .i64 xth)).setCell (p := ⟨w.heap.size, 1, none⟩) (Nat.le_refl _) (.int .i64 xfi)).setCell (p := ⟨w.heap.size, 2, none⟩) (Nat.le_refl _) (.int .i64 m)).setCell (p := ⟨w.heap.size, 3, none⟩) (Nat.le_refl _) (.int .u64 xsn)).setCell (p := ⟨w.heap.size, 4, none⟩) (Nat.le_refl _) (.int .i64 9)).setCell (p := ⟨w.heap.size, 5, none⟩) (Nat.le_refl _) (.int .i64 xrd)).setCell (p := ⟨w.heap.size, 6, none⟩) (Nat.le_refl _) (.int .i64 xwr))⟩
            rw [show tryF l a = updR ⟨xth, xfi, xla, xsn, xho, xrd, xwr⟩ m ⟨x0, 9, ad, wd, ow, er⟩ from by unfold tryF; rw [tryS_done (n := n + 1) (by rw [hu.out]; simp [endK]) _ (by have := hm.out; omega), hu.out]]
            simp [encT, updR, endK]
          have f9 : (x1 == 9) = false := by simpa using h9
          have hBE := Lib.hid (hB.out.alloc (.cells #[.int .i64 x0, .int .i64 x1, .int .u64 ad, .int .u64 wd, .bool ow, .int .i64 er] 61))
          have hRE := Lib.hid (hR.out.alloc (.cells #[.int .i64 x0, .int .i64 x1, .int .u64 ad, .int .u64 wd, .bool ow, .int .i64 er] 61))
          have hbE := Lib.hid (hbr.out.alloc hbr.out.size (.cells #[.int .i64 x0, .int .i64 x1, .int .u64 ad, .int .u64 wd, .bool ow, .int .i64 er] 61))
          have t0 := (hBE.out.cell 0).trans (show _ = some (.int .i64 xth) from rfl)
          have p0 := hBE.out.frozen 0
          have t1 := (hBE.out.cell 1).trans (show _ = some (.int .i64 xfi) from rfl)
          have p1 := hBE.out.frozen 1
          have t2 := (hBE.out.cell 2).trans (show _ = some (.int .i64 xla) from rfl)
          have p2 := hBE.out.frozen 2
          have t3 := (hBE.out.cell 3).trans (show _ = some (.int .u64 xsn) from rfl)
          have p3 := hBE.out.frozen 3
          have t4 := (hBE.out.cell 4).trans (show _ = some (.int .i64 xho) from rfl)
          have p4 := hBE.out.frozen 4
          have t5 := (hBE.out.cell 5).trans (show _ = some (.int .i64 xrd) from rfl)
          have p5 := hBE.out.frozen 5
          have t6 := (hBE.out.cell 6).trans (show _ = some (.int .i64 xwr) from rfl)
          have p6 := hBE.out.frozen 6
          have r0 := (hRE.out.cell 0).trans (show _ = some (.int .i64 0) from rfl)
          have q0 := hRE.out.frozen 0
          have r1 := (hRE.out.cell 1).trans (show _ = some (.int .i64 0) from rfl)
          have q1 := hRE.out.frozen 1
          have r2 := (hRE.out.cell 2).trans (show _ = some (.int .i64 0) from rfl)
          have q2 := hRE.out.frozen 2
          have r3 := (hRE.out.cell 3).trans (show _ = some (.int .u64 0) from rfl)
          have q3 := hRE.out.frozen 3
          have r4 := (hRE.out.cell 4).trans (show _ = some (.int .i64 0) from rfl)
          have q4 := hRE.out.frozen 4
          have r5 := (hRE.out.cell 5).trans (show _ = some (.int .i64 0) from rfl)
          have q5 := hRE.out.frozen 5
          have r6 := (hRE.out.cell 6).trans (show _ = some (.int .i64 0) from rfl)
          have q6 := hRE.out.frozen 6
          clear hB hR hbr
          have hBn : Hid (Blk ((wr.alloc (.cells #[.int .i64 x0, .int .i64 x1, .int .u64 ad, .int .u64 wd, .bool ow, .int .i64 er] 61)).setCell ⟨w1.heap.size, 2, none⟩ (.int .i64 m)) w1.heap.size 38 (encT (updR (⟨xth, xfi, xla, xsn, xho, xrd, xwr⟩ : Tr) m ⟨x0, x1, ad, wd, ow, er⟩)).toArray) := Lib.hid (Blk.cast ((hBE.out.set_ 2 (.int .i64 m))) (by simp [encT, updR, endK, h4, h2, h3, h6, h7, h8, h9]))
          have hRn := Lib.hid ((hRE.out.far (p := ⟨w1.heap.size, 2, none⟩) hne.out (.int .i64 m)))
          have hbn := Lib.hid ((hbE.out.setCell (p := ⟨w1.heap.size, 2, none⟩) hs1 (.int .i64 m)))
          clear hBE hRE hbE
          go_wp2
          go_roundw
          case rel => exact ⟨n + 1, by have := hm.out; omega, by have := hm.out; go_num, Lib.hid (by rw [hu.out]; simp [endK, h4, h2, h3, h6, h7, h8, h9]), Lib.hid (by rw [hu.out]; exact hBn.out), hRn, hbn⟩
          case measure => have := hm.out; simp [intOf]; omega
        · have g1 : (x0 != xth) = true := by simpa using g0
          rw [if_pos g0] at hu
          replace g0 := Lib.hid g0
          have hBE := Lib.hid (hB.out.alloc (.cells #[.int .i64 x0, .int .i64 x1, .int .u64 ad, .int .u64 wd, .bool ow, .int .i64 er] 61))
          have hRE := Lib.hid (hR.out.alloc (.cells #[.int .i64 x0, .int .i64 x1, .int .u64 ad, .int .u64 wd, .bool ow, .int .i64 er] 61))
          have hbE := Lib.hid (hbr.out.alloc hbr.out.size (.cells #[.int .i64 x0, .int .i64 x1, .int .u64 ad, .int .u64 wd, .bool ow, .int .i64 er] 61))
          have t0 := (hBE.out.cell 0).trans (show _ = some (.int .i64 xth) from rfl)
          have p0 := hBE.out.frozen 0
          have t1 := (hBE.out.cell 1).trans (show _ = some (.int .i64 xfi) from rfl)
          have p1 := hBE.out.frozen 1
          have t2 := (hBE.out.cell 2).trans (show _ = some (.int .i64 xla) from rfl)
          have p2 := hBE.out.frozen 2
          have t3 := (hBE.out.cell 3).trans (show _ = some (.int .u64 xsn) from rfl)
          have p3 := hBE.out.frozen 3
          have t4 := (hBE.out.cell 4).trans (show _ = some (.int .i64 xho) from rfl)
          have p4 := hBE.out.frozen 4
          have t5 := (hBE.out.cell 5).trans (show _ = some (.int .i64 xrd) from rfl)
          have p5 := hBE.out.frozen 5
          have t6 := (hBE.out.cell 6).trans (show _ = some (.int .i64 xwr) from rfl)
          have p6 := hBE.out.frozen 6
          have r0 := (hRE.out.cell 0).trans (show _ = some (.int .i64 0) from rfl)
          have q0 := hRE.out.frozen 0
          have r1 := (hRE.out.cell 1).trans (show _ = some (.int .i64 0) from rfl)
          have q1 := hRE.out.frozen 1
          have r2 := (hRE.out.cell 2).trans (show _ = some (.int .i64 0) from rfl)
          have q2 := hRE.out.frozen 2
          have r3 := (hRE.out.cell 3).trans (show _ = some (.int .u64 0) from rfl)
          have q3 := hRE.out.frozen 3
          have r4 := (hRE.out.cell 4).trans (show _ = some (.int .i64 0) from rfl)
          have q4 := hRE.out.frozen 4
          have r5 := (hRE.out.cell 5).trans (show _ = some (.int .i64 0) from rfl)
          have q5 := hRE.out.frozen 5
          have r6 := (hRE.out.cell 6).trans (show _ = some (.int .i64 0) from rfl)
          have q6 := hRE.out.frozen 6
          clear hB hR hbr
          have hBn : Hid (Blk (wr.alloc (.cells #[.int .i64 x0, .int .i64 x1, .int .u64 ad, .int .u64 wd, .bool ow, .int .i64 er] 61)) w1.heap.size 38 (encT (⟨xth, xfi, xla, xsn, xho, xrd, xwr⟩ : Tr)).toArray) := Lib.hid (Blk.cast (hBE.out) (by simp [encT, updR, endK]))
          have hRn := Lib.hid (hRE.out)
          have hbn := Lib.hid (hbE.out)
          clear hBE hRE hbE
          go_wp2
          go_roundw
          case rel => exact ⟨n + 1, by have := hm.out; omega, by have := hm.out; go_num, Lib.hid (by rw [hu.out]), Lib.hid (by rw [hu.out]; exact hBn.out), hRn, hbn⟩
          case measure => have := hm.out; simp [intOf]; omega
      · have hn2 : n = l.length - (a + 1) := by omega
        have b1 : ¬ ((a + 1 + n : Nat) : Int) < l.length := by omega
        subst hn2
        have hF : Hid ((tryS l a (l.length - (a + 1))).1 = tryF l a) := Lib.hid rfl
        rw [hF.out] at hB
        obtain ⟨x, hx⟩ : ∃ x, tryF l a = x := ⟨_, rfl⟩
        rw [hx] at hB
        replace hx := Lib.hid hx
        obtain ⟨xth, xfi, xla, xsn, xho, xrd, xwr⟩ := x
        generalize a + 1 + (l.length - (a + 1)) = m at *
        have t0 := (hB.out.cell 0).trans (show _ = some (.int .i64 xth) from rfl)
        have t1 := (hB.out.cell 1).trans (show _ = some (.int .i64 xfi) from rfl)
        have t2 := (hB.out.cell 2).trans (show _ = some (.int .i64 xla) from rfl)
        have t3 := (hB.out.cell 3).trans (show _ = some (.int .u64 xsn) from rfl)
        have t4 := (hB.out.cell 4).trans (show _ = some (.int .i64 xho) from rfl)
        have t5 := (hB.out.cell 5).trans (show _ = some (.int .i64 xrd) from rfl)
        have t6 := (hB.out.cell 6).trans (show _ = some (.int .i64 xwr) from rfl)
        have r0 := (hR.out.cell 0).trans (show _ = some (.int .i64 0) from rfl)
        have q0 := hR.out.frozen 0
        have r1 := (hR.out.cell 1).trans (show _ = some (.int .i64 0) from rfl)
        have q1 := hR.out.frozen 1
        have r2 := (hR.out.cell 2).trans (show _ = some (.int .i64 0) from rfl)
        have q2 := hR.out.frozen 2
        have r3 := (hR.out.cell 3).trans (show _ = some (.int .u64 0) from rfl)
        have q3 := hR.out.frozen 3
        have r4 := (hR.out.cell 4).trans (show _ = some (.int .i64 0) from rfl)
        have q4 := hR.out.frozen 4
        have r5 := (hR.out.cell 5).trans (show _ = some (.int .i64 0) from rfl)
        have q5 := hR.out.frozen 5
        have r6 := (hR.out.cell 6).trans (show _ = some (.int .i64 0) from rfl)
        have q6 := hR.out.frozen 6
        go_wp2
        refine bodyPost_ret (v := .agg #[.int .i64 xth, .int .i64 xfi, .int .i64 xla, .int .u64 xsn, .int .i64 xho, .int .i64 xrd, .int .i64 xwr]) (by simp [results, Try.results55, go_sem, r0, r1, r2, r3, r4, r5, r6, q0, q1, q2, q3, q4, q5, q6]) rfl ⟨by rw [hx.out]; rfl, (((((((hbr.out.setCell (p := ⟨w.heap.size, 0, none⟩) (Nat.le_refl _) (.int .i64 xth)).setCell (p := ⟨w.heap.size, 1, none⟩) (Nat.le_refl _) (.int .i64 xfi)).setCell (p := ⟨w.heap.size, 2, none⟩) (Nat.le_refl _) (.int .i64 xla)).setCell (p := ⟨w.heap.size, 3, none⟩) (Nat.le_refl _) (.int .u64 xsn)).setCell (p := ⟨w.heap.size, 4, none⟩) (Nat.le_refl _) (.int .i64 xho)).setCell (p := ⟨w.heap.size, 5, none⟩) (Nat.le_refl _) (.int .i64 xrd)).setCell (p := ⟨w.heap.size, 6, none⟩) (Nat.le_refl _) (.int .i64 xwr))⟩
  · refine wpMix_loud rfl rfl (fun m1 K hK => ?_)
    go_wp2_with fail
    refine hK _ _ (fun _ => ⟨cell_alloc_ (k0.out _), cell_alloc_ (k3.out _)⟩) ?_; clear hK K
    refine wpMix_loud rfl rfl (fun m2 K hK => ?_)
    go_wp2_with fail
    refine hK _ _ (fun _ => ⟨cell_alloc_ (k0.out _), cell_alloc_ (k3.out _)⟩) ?_; clear hK K
    refine wpMix_loud rfl rfl (fun m3 K hK => ?_)
    obtain ⟨wz, hwz⟩ : ∃ wz, wz = (((w1.drewN (1 + m1)).alloc (.cells #[.int .i64 0, .int .i64 0, .int .i64 0, .int .u64 0, .int .i64 0, .int .i64 0, .int .i64 0] 38)).drewN m2).drewN m3 := ⟨_, rfl⟩
    have hB0 : Blk wz w1.heap.size 38 #[.int .i64 0, .int .i64 0, .int .i64 0, .int .u64 0, .int .i64 0, .int .i64 0, .int .i64 0] := by rw [hwz]; exact ((Blk.new (w1.drewN (1 + m1)) _ _).drewN m2).drewN m3
    have hR0 : Blk wz w.heap.size 38 #[.int .i64 0, .int .i64 0, .int .i64 0, .int .u64 0, .int .i64 0, .int .i64 0, .int .i64 0] := by rw [hwz]; exact (((hR1.out.drewN (1 + m1)).alloc _).drewN m2).drewN m3
    have hb0 : Below w.heap.size w wz := by rw [hwz]; exact below_drewNs (below_drewNs ((below_drewNs hb1.out (1 + m1)).alloc hb1.out.size _) m2) m3
    rw [← hwz]
    have s0 := (hB0.cell 0).trans (show _ = some (.int .i64 0) from rfl)
    have p0 := hB0.frozen 0
    have s1 := (hB0.cell 1).trans (show _ = some (.int .i64 0) from rfl)
    have p1 := hB0.frozen 1
    have s2 := (hB0.cell 2).trans (show _ = some (.int .i64 0) from rfl)
    have p2 := hB0.frozen 2
    have s3 := (hB0.cell 3).trans (show _ = some (.int .u64 0) from rfl)
    have p3 := hB0.frozen 3
    have s4 := (hB0.cell 4).trans (show _ = some (.int .i64 0) from rfl)
    have p4 := hB0.frozen 4
    have s5 := (hB0.cell 5).trans (show _ = some (.int .i64 0) from rfl)
    have p5 := hB0.frozen 5
    have s6 := (hB0.cell 6).trans (show _ = some (.int .i64 0) from rfl)
    have p6 := hB0.frozen 6
    have hBT : Hid (∀ j, Blk ((((((((wz.setCell ⟨w1.heap.size, 0, none⟩ (.int .i64 (evAt l a).th)).setCell ⟨w1.heap.size, 1, none⟩ (.int .i64 a)).setCell ⟨w1.heap.size, 2, none⟩ (.int .i64 a)).setCell ⟨w1.heap.size, 3, none⟩ (.int .u64 (evAt l a).wd)).setCell ⟨w1.heap.size, 4, none⟩ (.int .i64 0)).setCell ⟨w1.heap.size, 5, none⟩ (.int .i64 0)).setCell ⟨w1.heap.size, 6, none⟩ (.int .i64 0)).drewN j) w1.heap.size 38 (encT (tryS l a 0).1).toArray) := Lib.hid (fun j => (Blk.cast ((((((((hB0.set_ 0 (.int .i64 (evAt l a).th)).set_ 1 (.int .i64 a)).set_ 2 (.int .i64 a)).set_ 3 (.int .u64 (evAt l a).wd)).set_ 4 (.int .i64 0)).set_ 5 (.int .i64 0)).set_ 6 (.int .i64 0))) (by simp [encT, tryS])).drewN j)
    have hRT := Lib.hid (fun j => ((((((((hR0.far (p := ⟨w1.heap.size, 0, none⟩) hne.out (.int .i64 (evAt l a).th)).far (p := ⟨w1.heap.size, 1, none⟩) hne.out (.int .i64 a)).far (p := ⟨w1.heap.size, 2, none⟩) hne.out (.int .i64 a)).far (p := ⟨w1.heap.size, 3, none⟩) hne.out (.int .u64 (evAt l a).wd)).far (p := ⟨w1.heap.size, 4, none⟩) hne.out (.int .i64 0)).far (p := ⟨w1.heap.size, 5, none⟩) hne.out (.int .i64 0)).far (p := ⟨w1.heap.size, 6, none⟩) hne.out (.int .i64 0))).drewN j)
    have hbT := Lib.hid (fun j => below_drewNs (((((((hb0.setCell (p := ⟨w1.heap.size, 0, none⟩) hs1 (.int .i64 (evAt l a).th)).setCell (p := ⟨w1.heap.size, 1, none⟩) hs1 (.int .i64 a)).setCell (p := ⟨w1.heap.size, 2, none⟩) hs1 (.int .i64 a)).setCell (p := ⟨w1.heap.size, 3, none⟩) hs1 (.int .u64 (evAt l a).wd)).setCell (p := ⟨w1.heap.size, 4, none⟩) hs1 (.int .i64 0)).setCell (p := ⟨w1.heap.size, 5, none⟩) hs1 (.int .i64 0)).setCell (p := ⟨w1.heap.size, 6, none⟩) hs1 (.int .i64 0)) j)
    clear hB0 hR0 hb0 hR1 hb1 k0 k3
    replace hwz := Lib.hid hwz
    go_wp2_with fail
    refine hK _ _ (fun h => (Bool.false_ne_true ((Eq.symm (by kernel_rfl)).trans h)).elim) ?_; clear hK K
    refine wpMix_nil (fun m4 => ?_)
    go_wp2
    go_loopw [6] (fun c wr => ∃ n : Nat, a + 1 + n ≤ l.length ∧ c = .int .i64 ((a + 1 + n : Nat) : Int) ∧ Hid ((tryS l a n).2 = false) ∧ Hid (Blk wr w1.heap.size 38 (encT (tryS l a n).1).toArray) ∧ Hid (Blk wr w.heap.size 38 #[.int .i64 0, .int .i64 0, .int .i64 0, .int .u64 0, .int .i64 0, .int .i64 0, .int .i64 0]) ∧ Hid (Below w.heap.size w wr)) (fun c _ => l.length - (intOf c).toNat)
    case atStart => exact ⟨0, by omega, by go_num, Lib.hid rfl, Lib.hid (hBT.out _), Lib.hid (hRT.out _), Lib.hid (hbT.out _)⟩
    case round =>
      obtain ⟨n, hn, rfl, hfa, hB, hR, hbr⟩ := hrel
      clear hBT hRT hbT
      have hst := tryS_bd l a n
      by_cases hlt : a + 1 + n < l.length
      · obtain ⟨g', o', e, hce⟩ := (hL.out.below hbr.out (Nat.le_refl _)).at hlt
        injection e with e
        injection e with e1 e2
        subst e1 e2
        obtain ⟨d0, d1, d2, d3, d4, d5⟩ := hce (a + 1 + n) hlt
        have hu : Hid (tryS l a (n + 1) = if (evAt l (a + 1 + n)).th ≠ (tryS l a n).1.th then tryS l a n else (updR (tryS l a n).1 (a + 1 + n) (evAt l (a + 1 + n)), endK (evAt l (a + 1 + n)).kd)) := Lib.hid (by
          show (if (tryS l a n).2 = true ∨ _ then tryS l a n else _) = _
          simp only [hfa.out, Bool.false_eq_true, false_or])
        have hrb := hR.out.lt
        have htb := hB.out.lt
        have hne3 : w1.heap.size ≠ wr.heap.size := Nat.ne_of_lt htb
        have hne4 : w.heap.size ≠ wr.heap.size := Nat.ne_of_lt hrb
        have hne5 : wr.heap.size ≠ w1.heap.size := (Nat.ne_of_lt htb).symm
        have hne6 : wr.heap.size ≠ w.heap.size := (Nat.ne_of_lt hrb).symm
        generalize hts : tryS l a n = st at *
        obtain ⟨x, dn⟩ := st
        obtain ⟨xth, xfi, xla, xsn, xho, xrd, xwr⟩ := x
        dsimp only at hB hu hst hfa
        obtain rfl : dn = false := hfa.out
        generalize evAt l (a + 1 + n) = ev at *
        obtain ⟨x0, x1, ad, wd, ow, er⟩ := ev
        dsimp only at d0 d1 d2 d3 d4 d5 hu
        have b1 : ((a + 1 + n : Nat) : Int) < l.length := by omega
        have wr1 := IntWalk.i64_in (n := (xrd : Int) + 1) (by omega)
        have wr2 := IntWalk.i64_in (n := (xwr : Int) + 1) (by omega)
        generalize hm : a + 1 + n = m at *
        have w2 := IntWalk.i64_in (n := (m : Int) + 1) (by omega)
        replace hm := Lib.hid hm
        replace hts := Lib.hid hts
        clear hce hrb htb hfa
        by_cases g0 : x0 = xth
        · have g1 : (x0 != xth) = false := by simpa using g0
          rw [if_neg (by simpa using g0)] at hu
          replace g0 := Lib.hid g0
          by_cases h4 : x1 = 4
          · subst h4
            have hBE := Lib.hid (hB.out.alloc (.cells #[.int .i64 x0, .int .i64 4, .int .u64 ad, .int .u64 wd, .bool ow, .int .i64 er] 61))
            have hRE := Lib.hid (hR.out.alloc (.cells #[.int .i64 x0, .int .i64 4, .int .u64 ad, .int .u64 wd, .bool ow, .int .i64 er] 61))
            have hbE := Lib.hid (hbr.out.alloc hbr.out.size (.cells #[.int .i64 x0, .int .i64 4, .int .u64 ad, .int .u64 wd, .bool ow, .int .i64 er] 61))
            have t0 := (hBE.out.cell 0).trans (show _ = some (.int .i64 xth) from rfl)
            have p0 := hBE.out.frozen 0
            have t1 := (hBE.out.cell 1).trans (show _ = some (.int .i64 xfi) from rfl)
            have p1 := hBE.out.frozen 1
            have t2 := (hBE.out.cell 2).trans (show _ = some (.int .i64 xla) from rfl)
            have p2 := hBE.out.frozen 2
            have t3 := (hBE.out.cell 3).trans (show _ = some (.int .u64 xsn) from rfl)
            have p3 := hBE.out.frozen 3
            have t4 := (hBE.out.cell 4).trans (show _ = some (.int .i64 xho) from rfl)
            have p4 := hBE.out.frozen 4
            have t5 := (hBE.out.cell 5).trans (show _ = some (.int .i64 xrd) from rfl)
            have p5 := hBE.out.frozen 5
            have t6 := (hBE.out.cell 6).trans (show _ = some (.int .i64 xwr) from rfl)
            have p6 := hBE.out.frozen 6
            have r0 := (hRE.out.cell 0).trans (show _ = some (.int .i64 0) from rfl)
            have q0 := hRE.out.frozen 0
            have r1 := (hRE.out.cell 1).trans (show _ = some (.int .i64 0) from rfl)
            have q1 := hRE.out.frozen 1
            have r2 := (hRE.out.cell 2).trans (show _ = some (.int .i64 0) from rfl)
            have q2 := hRE.out.frozen 2
            have r3 := (hRE.out.cell 3).trans (show _ = some (.int .u64 0) from rfl)
            have q3 := hRE.out.frozen 3
            have r4 := (hRE.out.cell 4).trans (show _ = some (.int .i64 0) from rfl)
            have q4 := hRE.out.frozen 4
            have r5 := (hRE.out.cell 5).trans (show _ = some (.int .i64 0) from rfl)
            have q5 := hRE.out.frozen 5
            have r6 := (hRE.out.cell 6).trans (show _ = some (.int .i64 0) from rfl)
            have q6 := hRE.out.frozen 6
            clear hB hR hbr
            have hBn : Hid (Blk (((wr.alloc (.cells #[.int .i64 x0, .int .i64 4, .int .u64 ad, .int .u64 wd, .bool ow, .int .i64 er] 61)).setCell ⟨w1.heap.size, 2, none⟩ (.int .i64 m)).setCell ⟨w1.heap.size, 3, none⟩ (.int .u64 wd)) w1.heap.size 38 (encT (updR (⟨xth, xfi, xla, xsn, xho, xrd, xwr⟩ : Tr) m ⟨x0, 4, ad, wd, ow, er⟩)).toArray) := Lib.hid (Blk.cast (((hBE.out.set_ 2 (.int .i64 m)).set_ 3 (.int .u64 wd))) (by simp [encT, updR, endK]))
            have hRn := Lib.hid (((hRE.out.far (p := ⟨w1.heap.size, 2, none⟩) hne.out (.int .i64 m)).far (p := ⟨w1.heap.size, 3, none⟩) hne.out (.int .u64 wd)))
            have hbn := Lib.hid (((hbE.out.setCell (p := ⟨w1.heap.size, 2, none⟩) hs1 (.int .i64 m)).setCell (p := ⟨w1.heap.size, 3, none⟩) hs1 (.int .u64 wd)))
            clear hBE hRE hbE
            go_wp2
            go_roundw
            case rel => exact ⟨n + 1, by have := hm.out; omega, by have := hm.out; go_num, Lib.hid (by rw [hu.out]; simp [endK]), Lib.hid (by rw [hu.out]; exact hBn.out), hRn, hbn⟩
            case measure => have := hm.out; simp [intOf]; omega
          have f4 : (x1 == 4) = false := by simpa using h4
          by_cases h2 : x1 = 2
          · subst h2
            cases ow with
            | false =>
              have hBE := Lib.hid (hB.out.alloc (.cells #[.int .i64 x0, .int .i64 2, .int .u64 ad, .int .u64 wd, .bool false, .int .i64 er] 61))
              have hRE := Lib.hid (hR.out.alloc (.cells #[.int .i64 x0, .int .i64 2, .int .u64 ad, .int .u64 wd, .bool false, .int .i64 er] 61))
              have hbE := Lib.hid (hbr.out.alloc hbr.out.size (.cells #[.int .i64 x0, .int .i64 2, .int .u64 ad, .int .u64 wd, .bool false, .int .i64 er] 61))
              have t0 := (hBE.out.cell 0).trans (show _ = some (.int .i64 xth) from rfl)
              have p0 := hBE.out.frozen 0
              have t1 := (hBE.out.cell 1).trans (show _ = some (.int .i64 xfi) from rfl)
              have p1 := hBE.out.frozen 1
              have t2 := (hBE.out.cell 2).trans (show _ = some (.int .i64 xla) from rfl)
              have p2 := hBE.out.frozen 2
              have t3 := (hBE.out.cell 3).trans (show _ = some (.int .u64 xsn) from rfl)
              have p3 := hBE.out.frozen 3
              have t4 := (hBE.out.cell 4).trans (show _ = some (.int .i64 xho) from rfl)
              have p4 := hBE.out.frozen 4
              have t5 := (hBE.out.cell 5).trans (show _ = some (.int .i64 xrd) from rfl)
              have p5 := hBE.out.frozen 5
              have t6 := (hBE.out.cell 6).trans (show _ = some (.int .i64 xwr) from rfl)
              have p6 := hBE.out.frozen 6
              have r0 := (hRE.out.cell 0).trans (show _ = some (.int .i64 0) from rfl)
              have q0 := hRE.out.frozen 0
              have r1 := (hRE.out.cell 1).trans (show _ = some (.int .i64 0) from rfl)
              have q1 := hRE.out.frozen 1
              have r2 := (hRE.out.cell 2).trans (show _ = some (.int .i64 0) from rfl)
              have q2 := hRE.out.frozen 2
              have r3 := (hRE.out.cell 3).trans (show _ = some (.int .u64 0) from rfl)
              have q3 := hRE.out.frozen 3
              have r4 := (hRE.out.cell 4).trans (show _ = some (.int .i64 0) from rfl)
              have q4 := hRE.out.frozen 4
              have r5 := (hRE.out.cell 5).trans (show _ = some (.int .i64 0) from rfl)
              have q5 := hRE.out.frozen 5
              have r6 := (hRE.out.cell 6).trans (show _ = some (.int .i64 0) from rfl)
              have q6 := hRE.out.frozen 6
              clear hB hR hbr
              have hBn : Hid (Blk (((wr.alloc (.cells #[.int .i64 x0, .int .i64 2, .int .u64 ad, .int .u64 wd, .bool false, .int .i64 er] 61)).setCell ⟨w1.heap.size, 2, none⟩ (.int .i64 m)).setCell ⟨w1.heap.size, 5, none⟩ (.int .i64 ((xrd : Int) + 1))) w1.heap.size 38 (encT (updR (⟨xth, xfi, xla, xsn, xho, xrd, xwr⟩ : Tr) m ⟨x0, 2, ad, wd, false, er⟩)).toArray) := Lib.hid (Blk.cast (((hBE.out.set_ 2 (.int .i64 m)).set_ 5 (.int .i64 ((xrd : Int) + 1)))) (by simp [encT, updR, endK]))
              have hRn := Lib.hid (((hRE.out.far (p := ⟨w1.heap.size, 2, none⟩) hne.out (.int .i64 m)).far (p := ⟨w1.heap.size, 5, none⟩) hne.out (.int .i64 ((xrd : Int) + 1))))
              have hbn := Lib.hid (((hbE.out.setCell (p := ⟨w1.heap.size, 2, none⟩) hs1 (.int .i64 m)).setCell (p := ⟨w1.heap.size, 5, none⟩) hs1 (.int .i64 ((xrd : Int) + 1))))
              clear hBE hRE hbE
              go_wp2
              go_roundw
              case rel => exact ⟨n + 1, by have := hm.out; omega, by have := hm.out; go_num, Lib.hid (by rw [hu.out]; simp [endK]), Lib.hid (by rw [hu.out]; exact hBn.out), hRn, hbn⟩
              case measure => have := hm.out; simp [intOf]; omega
            | true =>
              have hBE := Lib.hid (hB.out.alloc (.cells #[.int .i64 x0, .int .i64 2, .int .u64 ad, .int .u64 wd, .bool true, .int .i64 er] 61))
              have hRE := Lib.hid (hR.out.alloc (.cells #[.int .i64 x0, .int .i64 2, .int .u64 ad, .int .u64 wd, .bool true, .int .i64 er] 61))
              have hbE := Lib.hid (hbr.out.alloc hbr.out.size (.cells #[.int .i64 x0, .int .i64 2, .int .u64 ad, .int .u64 wd, .bool true, .int .i64 er] 61))
              have t0 := (hBE.out.cell 0).trans (show _ = some (.int .i64 xth) from rfl)
              have p0 := hBE.out.frozen 0
              have t1 := (hBE.out.cell 1).trans (show _ = some (.int .i64 xfi) from rfl)
              have p1 := hBE.out.frozen 1
              have t2 := (hBE.out.cell 2).trans (show _ = some (.int .i64 xla) from rfl)
              have p2 := hBE.out.frozen 2
              have t3 := (hBE.out.cell 3).trans (show _ = some (.int .u64 xsn) from rfl)
              have p3 := hBE.out.frozen 3
              have t4 := (hBE.out.cell 4).trans (show _ = some (.int .i64 xho) from rfl)
              have p4 := hBE.out.frozen 4
              have t5 := (hBE.out.cell 5).trans (show _ = some (.int .i64 xrd) from rfl)
              have p5 := hBE.out.frozen 5
              have t6 := (hBE.out.cell 6).trans (show _ = some (.int .i64 xwr) from rfl)
              have p6 := hBE.out.frozen 6
              have r0 := (hRE.out.cell 0).trans (show _ = some (.int .i64 0) from rfl)
              have q0 := hRE.out.frozen 0
              have r1 := (hRE.out.cell 1).trans (show _ = some (.int .i64 0) from rfl)
              have q1 := hRE.out.frozen 1
              have r2 := (hRE.out.cell 2).trans (show _ = some (.int .i64 0) from rfl)
              have q2 := hRE.out.frozen 2
              have r3 := (hRE.out.cell 3).trans (show _ = some (.int .u64 0) from rfl)
              have q3 := hRE.out.frozen 3
              have r4 := (hRE.out.cell 4).trans (show _ = some (.int .i64 0) from rfl)
              have q4 := hRE.out.frozen 4
              have r5 := (hRE.out.cell 5).trans (show _ = some (.int .i64 0) from rfl)
              have q5 := hRE.out.frozen 5
              have r6 := (hRE.out.cell 6).trans (show _ = some (.int .i64 0) from rfl)
              have q6 := hRE.out.frozen 6
              clear hB hR hbr
              have hBn : Hid (Blk ((wr.alloc (.cells #[.int .i64 x0, .int .i64 2, .int .u64 ad, .int .u64 wd, .bool true, .int .i64 er] 61)).setCell ⟨w1.heap.size, 2, none⟩ (.int .i64 m)) w1.heap.size 38 (encT (updR (⟨xth, xfi, xla, xsn, xho, xrd, xwr⟩ : Tr) m ⟨x0, 2, ad, wd, true, er⟩)).toArray) := Lib.hid (Blk.cast ((hBE.out.set_ 2 (.int .i64 m))) (by simp [encT, updR, endK]))
              have hRn := Lib.hid ((hRE.out.far (p := ⟨w1.heap.size, 2, none⟩) hne.out (.int .i64 m)))
              have hbn := Lib.hid ((hbE.out.setCell (p := ⟨w1.heap.size, 2, none⟩) hs1 (.int .i64 m)))
              clear hBE hRE hbE
              go_wp2
              go_roundw
              case rel => exact ⟨n + 1, by have := hm.out; omega, by have := hm.out; go_num, Lib.hid (by rw [hu.out]; simp [endK]), Lib.hid (by rw [hu.out]; exact hBn.out), hRn, hbn⟩
              case measure => have := hm.out; simp [intOf]; omega
          have f2 : (x1 == 2) = false := by simpa using h2
          by_cases h3 : x1 = 3
          · subst h3
            have hBE := Lib.hid (hB.out.alloc (.cells #[.int .i64 x0, .int .i64 3, .int .u64 ad, .int .u64 wd, .bool ow, .int .i64 er] 61))
            have hRE := Lib.hid (hR.out.alloc (.cells #[.int .i64 x0, .int .i64 3, .int .u64 ad, .int .u64 wd, .bool ow, .int .i64 er] 61))
            have hbE := Lib.hid (hbr.out.alloc hbr.out.size (.cells #[.int .i64 x0, .int .i64 3, .int .u64 ad, .int .u64 wd, .bool ow, .int .i64 er] 61))
            have t0 := (hBE.out.cell 0).trans (show _ = some (.int .i64 xth) from rfl)
            have p0 := hBE.out.frozen 0
            have t1 := (hBE.out.cell 1).trans (show _ = some (.int .i64 xfi) from rfl)
            have p1 := hBE.out.frozen 1
            have t2 := (hBE.out.cell 2).trans (show _ = some (.int .i64 xla) from rfl)
            have p2 := hBE.out.frozen 2
            have t3 := (hBE.out.cell 3).trans (show _ = some (.int .u64 xsn) from rfl)
            have p3 := hBE.out.frozen 3
            have t4 := (hBE.out.cell 4).trans (show _ = some (.int .i64 xho) from rfl)
            have p4 := hBE.out.frozen 4
            have t5 := (hBE.out.cell 5).trans (show _ = some (.int .i64 xrd) from rfl)
            have p5 := hBE.out.frozen 5
            have t6 := (hBE.out.cell 6).trans (show _ = some (.int .i64 xwr) from rfl)
            have p6 := hBE.out.frozen 6
            have r0 := (hRE.out.cell 0).trans (show _ = some (.int .i64 0) from rfl)
            have q0 := hRE.out.frozen 0
            have r1 := (hRE.out.cell 1).trans (show _ = some (.int .i64 0) from rfl)
            have q1 := hRE.out.frozen 1
            have r2 := (hRE.out.cell 2).trans (show _ = some (.int .i64 0) from rfl)
            have q2 := hRE.out.frozen 2
            have r3 := (hRE.out.cell 3).trans (show _ = some (.int .u64 0) from rfl)
            have q3 := hRE.out.frozen 3
            have r4 := (hRE.out.cell 4).trans (show _ = some (.int .i64 0) from rfl)
            have q4 := hRE.out.frozen 4
            have r5 := (hRE.out.cell 5).trans (show _ = some (.int .i64 0) from rfl)
            have q5 := hRE.out.frozen 5
            have r6 := (hRE.out.cell 6).trans (show _ = some (.int .i64 0) from rfl)
            have q6 := hRE.out.frozen 6
            clear hB hR hbr
            have hBn : Hid (Blk (((wr.alloc (.cells #[.int .i64 x0, .int .i64 3, .int .u64 ad, .int .u64 wd, .bool ow, .int .i64 er] 61)).setCell ⟨w1.heap.size, 2, none⟩ (.int .i64 m)).setCell ⟨w1.heap.size, 6, none⟩ (.int .i64 ((xwr : Int) + 1))) w1.heap.size 38 (encT (updR (⟨xth, xfi, xla, xsn, xho, xrd, xwr⟩ : Tr) m ⟨x0, 3, ad, wd, ow, er⟩)).toArray) := Lib.hid (Blk.cast (((hBE.out.set_ 2 (.int .i64 m)).set_ 6 (.int .i64 ((xwr : Int) + 1)))) (by simp [encT, updR, endK]))
            have hRn := Lib.hid (((hRE.out.far (p := ⟨w1.heap.size, 2, none⟩) hne.out (.int .i64 m)).far (p := ⟨w1.heap.size, 6, none⟩) hne.out (.int .i64 ((xwr : Int) + 1))))
            have hbn := Lib.hid (((hbE.out.setCell (p := ⟨w1.heap.size, 2, none⟩) hs1 (.int .i64 m)).setCell (p := ⟨w1.heap.size, 6, none⟩) hs1 (.int .i64 ((xwr : Int) + 1))))
            clear hBE hRE hbE
            go_wp2
            go_roundw
            case rel => exact ⟨n + 1, by have := hm.out; omega, by have := hm.out; go_num, Lib.hid (by rw [hu.out]; simp [endK]), Lib.hid (by rw [hu.out]; exact hBn.out), hRn, hbn⟩
            case measure => have := hm.out; simp [intOf]; omega
          have f3 : (x1 == 3) = false := by simpa using h3
          by_cases h6 : x1 = 6
          · subst h6
            have hBE := Lib.hid (hB.out.alloc (.cells #[.int .i64 x0, .int .i64 6, .int .u64 ad, .int .u64 wd, .bool ow, .int .i64 er] 61))
            have hRE := Lib.hid (hR.out.alloc (.cells #[.int .i64 x0, .int .i64 6, .int .u64 ad, .int .u64 wd, .bool ow, .int .i64 er] 61))
            have hbE := Lib.hid (hbr.out.alloc hbr.out.size (.cells #[.int .i64 x0, .int .i64 6, .int .u64 ad, .int .u64 wd, .bool ow, .int .i64 er] 61))
            have t0 := (hBE.out.cell 0).trans (show _ = some (.int .i64 xth) from rfl)
            have p0 := hBE.out.frozen 0
            have t1 := (hBE.out.cell 1).trans (show _ = some (.int .i64 xfi) from rfl)
            have p1 := hBE.out.frozen 1
            have t2 := (hBE.out.cell 2).trans (show _ = some (.int .i64 xla) from rfl)
            have p2 := hBE.out.frozen 2
            have t3 := (hBE.out.cell 3).trans (show _ = some (.int .u64 xsn) from rfl)
            have p3 := hBE.out.frozen 3
            have t4 := (hBE.out.cell 4).trans (show _ = some (.int .i64 xho) from rfl)
            have p4 := hBE.out.frozen 4
            have t5 := (hBE.out.cell 5).trans (show _ = some (.int .i64 xrd) from rfl)
            have p5 := hBE.out.frozen 5
            have t6 := (hBE.out.cell 6).trans (show _ = some (.int .i64 xwr) from rfl)
            have p6 := hBE.out.frozen 6
            have r0 := (hRE.out.cell 0).trans (show _ = some (.int .i64 0) from rfl)
            have q0 := hRE.out.frozen 0
            have r1 := (hRE.out.cell 1).trans (show _ = some (.int .i64 0) from rfl)
            have q1 := hRE.out.frozen 1
            have r2 := (hRE.out.cell 2).trans (show _ = some (.int .i64 0) from rfl)
            have q2 := hRE.out.frozen 2
            have r3 := (hRE.out.cell 3).trans (show _ = some (.int .u64 0) from rfl)
            have q3 := hRE.out.frozen 3
            have r4 := (hRE.out.cell 4).trans (show _ = some (.int .i64 0) from rfl)
            have q4 := hRE.out.frozen 4
            have r5 := (hRE.out.cell 5).trans (show _ = some (.int .i64 0) from rfl)
            have q5 := hRE.out.frozen 5
            have r6 := (hRE.out.cell 6).trans (show _ = some (.int .i64 0) from rfl)
            have q6 := hRE.out.frozen 6
            clear hB hR hbr
            go_wp2
            refine bodyPost_ret (v := .agg #[.int .i64 xth, .int .i64 xfi, .int .i64 m, .int .u64 xsn, .int .i64 6, .int .i64 xrd, .int .i64 xwr]) (by simp [results, Try.results55, go_sem, r0, r1, r2, r3, r4, r5, r6, q0, q1, q2, q3, q4, q5, q6]) rfl ⟨?_, (((((((((hbE.out.setCell (p := ⟨w1.heap.size, 2, none⟩) hs1 (.int .i64 m)).setCell (p := ⟨w1.heap.size, 4, none⟩) hs1 (.int .i64 6)).setCell (p := ⟨w.heap.size, 0, none⟩) (Nat.le_refl _) (.int .i64 xth)).setCell (p := ⟨w.heap.size, 1, none⟩) (Nat.le_refl _) (.int .i64 xfi)).setCell (p := ⟨w.heap.size, 2, none⟩) (Nat.le_refl _) (.int .i64 m)).setCell (p := ⟨w.heap.size, 3, none⟩) (Nat.le_refl _) (.int .u64 xsn)).setCell (p := ⟨w.heap.size, 4, none⟩) (Nat.le_refl _) (.int .i64 6)).setCell (p := ⟨w.heap.size, 5, none⟩) (Nat.le_refl _) (.int .i64 xrd)).setCell (p := ⟨w.heap.size, 6, none⟩) (Nat.le_refl _) (.int .i64 xwr))⟩
            rw [show tryF l a = updR ⟨xth, xfi, xla, xsn, xho, xrd, xwr⟩ m ⟨x0, 6, ad, wd, ow, er⟩ from by unfold tryF; rw [tryS_done (n := n + 1) (by rw [hu.out]; simp [endK]) _ (by have := hm.out; omega), hu.out]]
            simp [encT, updR, endK]
          have f6 : (x1 == 6) = false := by simpa using h6
          by_cases h7 : x1 = 7
          · subst h7
            have hBE := Lib.hid (hB.out.alloc (.cells #[.int .i64 x0, .int .i64 7, .int .u64 ad, .int .u64 wd, .bool ow, .int .i64 er] 61))
            have hRE := Lib.hid (hR.out.alloc (.cells #[.int .i64 x0, .int .i64 7, .int .u64 ad, .int .u64 wd, .bool ow, .int .i64 er] 61))
            have hbE := Lib.hid (hbr.out.alloc hbr.out.size (.cells #[.int .i64 x0, .int .i64 7, .int .u64 ad, .int .u64 wd, .bool ow, .int .i64 er] 61))
            have t0 := (hBE.out.cell 0).trans (show _ = some (.int .i64 xth) from rfl)
            have p0 := hBE.out.frozen 0
            have t1 := (hBE.out.cell 1).trans (show _ = some (.int .i64 xfi) from rfl)
            have p1 := hBE.out.frozen 1
            have t2 := (hBE.out.cell 2).trans (show _ = some (.int .i64 xla) from rfl)
            have p2 := hBE.out.frozen 2
            have t3 := (hBE.out.cell 3).trans (show _ = some (.int .u64 xsn) from rfl)
            have p3 := hBE.out.frozen 3
            have t4 := (hBE.out.cell 4).trans (show _ = some (.int .i64 xho) from rfl)
            have p4 := hBE.out.frozen 4
            have t5 := (hBE.out.cell 5).trans (show _ = some (.int .i64 xrd) from rfl)
            have p5 := hBE.out.frozen 5
            have t6 := (hBE.out.cell 6).trans (show _ = some (.int .i64 xwr) from rfl)
            have p6 := hBE.out.frozen 6
            have r0 := (hRE.out.cell 0).trans (show _ = some (.int .i64 0) from rfl)
            have q0 := hRE.out.frozen 0
            have r1 := (hRE.out.cell 1).trans (show _ = some (.int .i64 0) from rfl)
            have q1 := hRE.out.frozen 1
            have r2 := (hRE.out.cell 2).trans (show _ = some (.int .i64 0) from rfl)
            have q2 := hRE.out.frozen 2
            have r3 := (hRE.out.cell 3).trans (show _ = some (.int .u64 0) from rfl)
            have q3 := hRE.out.frozen 3
            have r4 := (hRE.out.cell 4).trans (show _ = some (.int .i64 0) from rfl)
            have q4 := hRE.out.frozen 4
            have r5 := (hRE.out.cell 5).trans (show _ = some (.int .i64 0) from rfl)
            have q5 := hRE.out.frozen 5
            have r6 := (hRE.out.cell 6).trans (show _ = some (.int .i64 0) from rfl)
            have q6 := hRE.out.frozen 6
            clear hB hR hbr
            go_wp2
            refine bodyPost_ret (v := .agg #[.int .i64 xth, .int .i64 xfi, .int .i64 m, .int .u64 xsn, .int .i64 7, .int .i64 xrd, .int .i64 xwr]) (by simp [results, Try.results55, go_sem, r0, r1, r2, r3, r4, r5, r6, q0, q1, q2, q3, q4, q5, q6]) rfl ⟨?_, (((((((((hbE.out.setCell (p := ⟨w1.heap.size, 2, none⟩) hs1 (.int .i64 m)).setCell (p := ⟨w1.heap.size, 4, none⟩) hs1 (.int .i64 7)).setCell (p := ⟨w.heap.size, 0, none⟩) (Nat.le_refl _) (.int .i64 xth)).setCell (p := ⟨w.heap.size, 1, none⟩) (Nat.le_refl _) (.int .i64 xfi)).setCell (p := ⟨w.heap.size, 2, none⟩) (Nat.le_refl _) (.int .i64 m)).setCell (p := ⟨w.heap.size, 3, none⟩) (Nat.le_refl _) (.int .u64 xsn)).setCell (p := ⟨w.heap.size, 4, none⟩) (Nat.le_refl _) (.int .i64 7)).setCell (p := ⟨w.heap.size, 5, none⟩) (Nat.le_refl _) (.int .i64 xrd)).setCell (p := ⟨w.heap.size, 6, none⟩) (Nat.le_refl _) (.int .i64 xwr))⟩
            rw [show tryF l a = updR ⟨xth, xfi, xla, xsn, xho, xrd, xwr⟩ m ⟨x0, 7, ad, wd, ow, er⟩ from by unfold tryF; rw [tryS_done (n := n + 1) (by rw [hu.out]; simp [endK]) _ (by have := hm.out; omega), hu.out]]
            simp [encT, updR, endK]
          have f7 : (x1 == 7) = false := by simpa using h7
          by_cases h8 : x1 = 8
          · subst h8
            have hBE := Lib.hid (hB.out.alloc (.cells #[.int .i64 x0, .int .i64 8, .int .u64 ad, .int .u64 wd, .bool ow, .int .i64 er] 61))
            have hRE := Lib.hid (hR.out.alloc (.cells #[.int .i64 x0, .int .i64 8, .int .u64 ad, .int .u64 wd, .bool ow, .int .i64 er] 61))
            have hbE := Lib.hid (hbr.out.alloc hbr.out.size (.cells #[.int .i64 x0, .int .i64 8, .int .u64 ad, .int .u64 wd, .bool ow, .int .i64 er] 61))
            have t0 := (hBE.out.cell 0).trans (show _ = some (.int .i64 xth) from rfl)
            have p0 := hBE.out.frozen 0
            have t1 := (hBE.out.cell 1).trans (show _ = some (.int .i64 xfi) from rfl)
            have p1 := hBE.out.frozen 1
            have t2 := (hBE.out.cell 2).trans (show _ = some (.int .i64 xla) from rfl)
            have p2 := hBE.out.frozen 2
            have t3 := (hBE.out.cell 3).trans (show _ = some (.int .u64 xsn) from rfl)
            have p3 := hBE.out.frozen 3
            have t4 := (hBE.out.cell 4).trans (show _ = some (.int .i64 xho) from rfl)
            have p4 := hBE.out.frozen 4
            have t5 := (hBE.out.cell 5).trans (show _ = some (.int .i64 xrd) from rfl)
            have p5 := hBE.out.frozen 5
            have t6 := (hBE.out.cell 6).trans (show _ = some (.int .i64 xwr) from rfl)
            have p6 := hBE.out.frozen 6
            have r0 := (hRE.out.cell 0).trans (show _ = some (.int .i64 0) from rfl)
            have q0 := hRE.out.frozen 0
            have r1 := (hRE.out.cell 1).trans (show _ = some (.int .i64 0) from rfl)
            have q1 := hRE.out.frozen 1
            have r2 := (hRE.out.cell 2).trans (show _ = some (.int .i64 0) from rfl)
            have q2 := hRE.out.frozen 2
            have r3 := (hRE.out.cell 3).trans (show _ = some (.int .u64 0) from rfl)
            have q3 := hRE.out.frozen 3
            have r4 := (hRE.out.cell 4).trans (show _ = some (.int .i64 0) from rfl)
            have q4 := hRE.out.frozen 4
            have r5 := (hRE.out.cell 5).trans (show _ = some (.int .i64 0) from rfl)
            have q5 := hRE.out.frozen 5
            have r6 := (hRE.out.cell 6).trans (show _ = some (.int .i64 0) from rfl)
            have q6 := hRE.out.frozen 6
            clear hB hR hbr
            go_wp2
            refine bodyPost_ret (v := .agg #[.int .i64 xth, .int .i64 xfi, .int .i64 m, .int .u64 xsn, .int .i64 8, .int .i64 xrd, .int .i64 xwr]) (by simp [results, Try.results55, go_sem, r0, r1, r2, r3, r4, r5, r6, q0, q1, q2, q3, q4, q5, q6]) rfl ⟨?_, (((((((((hbE.out.setCell (p := ⟨w1.heap.size, 2, none⟩) hs1 (.int .i64 m)).setCell (p := ⟨w1.heap.size, 4, none⟩) hs1 (.int .i64 8)).setCell (p := ⟨w.heap.size, 0, none⟩) (Nat.le_refl _) (.int .i64 xth)).setCell (p := ⟨w.heap.size, 1, none⟩) (Nat.le_refl _) (.int .i64 xfi)).setCell (p := ⟨w.heap.size, 2, none⟩) (Nat.le_refl _) (.int .i64 m)).setCell (p := ⟨w.heap.size, 3, none⟩) (Nat.le_refl _) (.int .u64 xsn)).setCell (p := ⟨w.heap.size, 4, none⟩) (Nat.le_refl _) (.int .i64 8)).setCell (p := ⟨w.heap.size, 5, none⟩) (Nat.le_refl _) (.int .i64 xrd)).setCell (p := ⟨w.heap.size, 6, none⟩) (Nat.le_refl _) (.int .i64 xwr))⟩
            rw [show tryF l a = updR ⟨xth, xfi, xla, xsn, xho, xrd, xwr⟩ m ⟨x0, 8, ad, wd, ow, er⟩ from by unfold tryF; rw [tryS_done (n := n + 1) (by rw [hu.out]; simp [endK]) _ (by have := hm.out; omega), hu.out]]
            simp [encT, updR, endK]
          have f8 : (x1 == 8) = false := by simpa using h8
          by_cases h9 : x1 = 9
          · subst h9
            have hBE := Lib.hid (hB.out.alloc (.cells #[.int .i64 x0, .int .i64 9, .int .u64 ad, .int .u64 wd, .bool ow, .int .i64 er] 61))
            have hRE := Lib.hid (hR.out.alloc (.cells #[.int .i64 x0, .int .i64 9, .int .u64 ad, .int .u64 wd, .bool ow, .int .i64 er] 61))
            have hbE := Lib.hid (hbr.out.alloc hbr.out.size (.cells #[.int .i64 x0, .int .i64 9, .int .u64 ad, .int .u64 wd, .bool ow, .int .i64 er] 61))
            have t0 := (hBE.out.cell 0).trans (show _ = some (.int .i64 xth) from rfl)
            have p0 := hBE.out.frozen 0
            have t1 := (hBE.out.cell 1).trans (show _ = some (.int .i64 xfi) from rfl)
            have p1 := hBE.out.frozen 1
            have t2 := (hBE.out.cell 2).trans (show _ = some (.int .i64 xla) from rfl)
            have p2 := hBE.out.frozen 2
            have t3 := (hBE.out.cell 3).trans (show _ = some (.int .u64 xsn) from rfl)
            have p3 := hBE.out.frozen 3
            have t4 := (hBE.out.cell 4).trans (show _ = some (.int .i64 xho) from rfl)
            have p4 := hBE.out.frozen 4
            have t5 := (hBE.out.cell 5).trans (show _ = some (.int .i64 xrd) from rfl)
            have p5 := hBE.out.frozen 5
            have t6 := (hBE.out.cell 6).trans (show _ = some (.int .i64 xwr) from rfl)
            have p6 := hBE.out.frozen 6
            have r0 := (hRE.out.cell 0).trans (show _ = some (.int .i64 0) from rfl)
            have q0 := hRE.out.frozen 0
            have r1 := (hRE.out.cell 1).trans (show _ = some (.int .i64 0) from rfl)
            have q1 := hRE.out.frozen 1
            have r2 := (hRE.out.cell 2).trans (show _ = some (.int .i64 0) from rfl)
            have q2 := hRE.out.frozen 2
            have r3 := (hRE.out.cell 3).trans (show _ = some (.int .u64 0) from rfl)
            have q3 := hRE.out.frozen 3
            have r4 := (hRE.out.cell 4).trans (show _ = some (.int .i64 0) from rfl)
            have q4 := hRE.out.frozen 4
            have r5 := (hRE.out.cell 5).trans (show _ = some (.int .i64 0) from rfl)
            have q5 := hRE.out.frozen 5
            have r6 := (hRE.out.cell 6).trans (show _ = some (.int .i64 0) from rfl)
            have q6 := hRE.out.frozen 6
            clear hB hR hbr
            go_wp2
            refine bodyPost_ret (v := .agg #[.int .i64 xth, .int .i64 xfi, .int .i64 m, .int .u64 xsn, .int .i64 9, .int .i64 xrd, .int .i64 xwr]) (by simp [results, Try.results55, go_sem, r0, r1, r2, r3, r4, r5, r6, q0, q1, q2, q3, q4, q5, q6]) rfl ⟨?_, (((((((((hbE.out.setCell (p := ⟨w1.heap.size, 2, none⟩) hs1 (.int .i64 m)).setCell (p := ⟨w1.heap.size, 4, none⟩) hs1 (.int .i64 9)).setCell (p := ⟨w.heap.size, 0, none⟩) (Nat.le_refl _) (.int .i64 xth)).setCell (p := ⟨w.heap.size, 1, none⟩) (Nat.le_refl _) (.int .i64 xfi)).setCell (p := ⟨w.heap.size, 2, none⟩) (Nat.le_refl _) (.int .i64 m)).setCell (p := ⟨w.heap.size, 3, none⟩) (Nat.le_refl _) (.int .u64 xsn)).setCell (p := ⟨w.heap.size, 4, none⟩) (Nat.le_refl _) (.int .i64 9)).setCell (p := ⟨w.heap.size, 5, none⟩) (Nat.le_refl _) (.int .i64 xrd)).setCell (p := ⟨w.heap.size, 6, none⟩) (Nat.le_refl _) (.int .i64 xwr))⟩
            rw [show tryF l a = updR ⟨xth, xfi, xla, xsn, xho, xrd, xwr⟩ m ⟨x0, 9, ad, wd, ow, er⟩ from by unfold tryF; rw [tryS_done (n := n + 1) (by rw [hu.out]; simp [endK]) _ (by have := hm.out; omega), hu.out]]
            simp [encT, updR, endK]
          have f9 : (x1 == 9) = false := by simpa using h9
          have hBE := Lib.hid (hB.out.alloc (.cells #[.int .i64 x0, .int .i64 x1, .int .u64 ad, .int .u64 wd, .bool ow, .int .i64 er] 61))
          have hRE := Lib.hid (hR.out.alloc (.cells #[.int .i64 x0, .int .i64 x1, .int .u64 ad, .int .u64 wd, .bool ow, .int .i64 er] 61))
          have hbE := Lib.hid (hbr.out.alloc hbr.out.size (.cells #[.int .i64 x0, .int .i64 x1, .int .u64 ad, .int .u64 wd, .bool ow, .int .i64 er] 61))
          have t0 := (hBE.out.cell 0).trans (show _ = some (.int .i64 xth) from rfl)
          have p0 := hBE.out.frozen 0
          have t1 := (hBE.out.cell 1).trans (show _ = some (.int .i64 xfi) from rfl)
          have p1 := hBE.out.frozen 1
          have t2 := (hBE.out.cell 2).trans (show _ = some (.int .i64 xla) from rfl)
          have p2 := hBE.out.frozen 2
          have t3 := (hBE.out.cell 3).trans (show _ = some (.int .u64 xsn) from rfl)
          have p3 := hBE.out.frozen 3
          have t4 := (hBE.out.cell 4).trans (show _ = some (.int .i64 xho) from rfl)
          have p4 := hBE.out.frozen 4
          have t5 := (hBE.out.cell 5).trans (show _ = some (.int .i64 xrd) from rfl)
          have p5 := hBE.out.frozen 5
          have t6 := (hBE.out.cell 6).trans (show _ = some (.int .i64 xwr) from rfl)
          have p6 := hBE.out.frozen 6
          have r0 := (hRE.out.cell 0).trans (show _ = some (.int .i64 0) from rfl)
          have q0 := hRE.out.frozen 0
          have r1 := (hRE.out.cell 1).trans (show _ = some (.int .i64 0) from rfl)
          have q1 := hRE.out.frozen 1
          have r2 := (hRE.out.cell 2).trans (show _ = some (.int .i64 0) from rfl)
          have q2 := hRE.out.frozen 2
          have r3 := (hRE.out.cell 3).trans (show _ = some (.int .u64 0) from rfl)
          have q3 := hRE.out.frozen 3
          have r4 := (hRE.out.cell 4).trans (show _ = some (.int .i64 0) from rfl)
          have q4 := hRE.out.frozen 4
          have r5 := (hRE.out.cell 5).trans (show _ = some (.int .i64 0) from rfl)
          have q5 := hRE.out.frozen 5
          have r6 := (hRE.out.cell 6).trans (show _ = some (.int .i64 0) from rfl)
          have q6 := hRE.out.frozen 6
          clear hB hR hbr
          have hBn : Hid (Blk ((wr.alloc (.cells #[.int .i64 x0, .int .i64 x1, .int .u64 ad, .int .u64 wd, .bool ow, .int .i64 er] 61)).setCell ⟨w1.heap.size, 2, none⟩ (.int .i64 m)) w1.heap.size 38 (encT (updR (⟨xth, xfi, xla, xsn, xho, xrd, xwr⟩ : Tr) m ⟨x0, x1, ad, wd, ow, er⟩)).toArray) := Lib.hid (Blk.cast ((hBE.out.set_ 2 (.int .i64 m))) (by simp [encT, updR, endK, h4, h2, h3, h6, h7, h8, h9]))
          have hRn := Lib.hid ((hRE.out.far (p := ⟨w1.heap.size, 2, none⟩) hne.out (.int .i64 m)))
          have hbn := Lib.hid ((hbE.out.setCell (p := ⟨w1.heap.size, 2, none⟩) hs1 (.int .i64 m)))
          clear hBE hRE hbE
          go_wp2
          go_roundw
          case rel => exact ⟨n + 1, by have := hm.out; omega, by have := hm.out; go_num, Lib.hid (by rw [hu.out]; simp [endK, h4, h2, h3, h6, h7, h8, h9]), Lib.hid (by rw [hu.out]; exact hBn.out), hRn, hbn⟩
          case measure => have := hm.out; simp [intOf]; omega
        · have g1 : (x0 != xth) = true := by simpa using g0
          rw [if_pos g0] at hu
          replace g0 := Lib.hid g0
          have hBE := Lib.hid (hB.out.alloc (.cells #[.int .i64 x0, .int .i64 x1, .int .u64 ad, .int .u64 wd, .bool ow, .int .i64 er] 61))
          have hRE := Lib.hid (hR.out.alloc (.cells #[.int .i64 x0, .int .i64 x1, .int .u64 ad, .int .u64 wd, .bool ow, .int .i64 er] 61))
          have hbE := Lib.hid (hbr.out.alloc hbr.out.size (.cells #[.int .i64 x0, .int .i64 x1, .int .u64 ad, .int .u64 wd, .bool ow, .int .i64 er] 61))
          have t0 := (hBE.out.cell 0).trans (show _ = some (.int .i64 xth) from rfl)
          have p0 := hBE.out.frozen 0
          have t1 := (hBE.out.cell 1).trans (show _ = some (.int .i64 xfi) from rfl)
          have p1 := hBE.out.frozen 1
          have t2 := (hBE.out.cell 2).trans (show _ = some (.int .i64 xla) from rfl)
          have p2 := hBE.out.frozen 2
          have t3 := (hBE.out.cell 3).trans (show _ = some (.int .u64 xsn) from rfl)
          have p3 := hBE.out.frozen 3
          have t4 := (hBE.out.cell 4).trans (show _ = some (.int .i64 xho) from rfl)
          have p4 := hBE.out.frozen 4
          have t5 := (hBE.out.cell 5).trans (show _ = some (.int .i64 xrd) from rfl)
          have p5 := hBE.out.frozen 5
          have t6 := (hBE.out.cell 6).trans (show _ = some (.int .i64 xwr) from rfl)
          have p6 := hBE.out.frozen 6
          have r0 := (hRE.out.cell 0).trans (show _ = some (.int .i64 0) from rfl)
          have q0 := hRE.out.frozen 0
          have r1 := (hRE.out.cell 1).trans (show _ = some (.int .i64 0) from rfl)
          have q1 := hRE.out.frozen 1
          have r2 := (hRE.out.cell 2).trans (show _ = some (.int .i64 0) from rfl)
          have q2 := hRE.out.frozen 2
          have r3 := (hRE.out.cell 3).trans (show _ = some (.int .u64 0) from rfl)
          have q3 := hRE.out.frozen 3
          have r4 := (hRE.out.cell 4).trans (show _ = some (.int .i64 0) from rfl)
          have q4 := hRE.out.frozen 4
          have r5 := (hRE.out.cell 5).trans (show _ = some (.int .i64 0) from rfl)
          have q5 := hRE.out.frozen 5
          have r6 := (hRE.out.cell 6).trans (show _ = some (.int .i64 0) from rfl)
          have q6 := hRE.out.frozen 6
          clear hB hR hbr
          have hBn : Hid (Blk (wr.alloc (.cells #[.int .i64 x0, .int .i64 x1, .int .u64 ad, .int .u64 wd, .bool ow, .int .i64 er] 61)) w1.heap.size 38 (encT (⟨xth, xfi, xla, xsn, xho, xrd, xwr⟩ : Tr)).toArray) := Lib.hid (Blk.cast (hBE.out) (by simp [encT, updR, endK]))
          have hRn := Lib.hid (hRE.out)
          have hbn := Lib.hid (hbE.out)
          clear hBE hRE hbE
          go_wp2
          go_roundw
          case rel => exact ⟨n + 1, by have := hm.out; omega, by have := hm.out; go_num, Lib.hid (by rw [hu.out]), Lib.hid (by rw [hu.out]; exact hBn.out), hRn, hbn⟩
          case measure => have := hm.out; simp [intOf]; omega
      · have hn2 : n = l.length - (a + 1) := by omega
        have b1 : ¬ ((a + 1 + n : Nat) : Int) < l.length := by omega
        subst hn2
        have hF : Hid ((tryS l a (l.length - (a + 1))).1 = tryF l a) := Lib.hid rfl
        rw [hF.out] at hB
        obtain ⟨x, hx⟩ : ∃ x, tryF l a = x := ⟨_, rfl⟩
        rw [hx] at hB
        replace hx := Lib.hid hx
        obtain ⟨xth, xfi, xla, xsn, xho, xrd, xwr⟩ := x
        generalize a + 1 + (l.length - (a + 1)) = m at *
        have t0 := (hB.out.cell 0).trans (show _ = some (.int .i64 xth) from rfl)
        have t1 := (hB.out.cell 1).trans (show _ = some (.int .i64 xfi) from rfl)
        have t2 := (hB.out.cell 2).trans (show _ = some (.int .i64 xla) from rfl)
        have t3 := (hB.out.cell 3).trans (show _ = some (.int .u64 xsn) from rfl)
        have t4 := (hB.out.cell 4).trans (show _ = some (.int .i64 xho) from rfl)
        have t5 := (hB.out.cell 5).trans (show _ = some (.int .i64 xrd) from rfl)
        have t6 := (hB.out.cell 6).trans (show _ = some (.int .i64 xwr) from rfl)
        have r0 := (hR.out.cell 0).trans (show _ = some (.int .i64 0) from rfl)
        have q0 := hR.out.frozen 0
        have r1 := (hR.out.cell 1).trans (show _ = some (.int .i64 0) from rfl)
        have q1 := hR.out.frozen 1
        have r2 := (hR.out.cell 2).trans (show _ = some (.int .i64 0) from rfl)
        have q2 := hR.out.frozen 2
        have r3 := (hR.out.cell 3).trans (show _ = some (.int .u64 0) from rfl)
        have q3 := hR.out.frozen 3
        have r4 := (hR.out.cell 4).trans (show _ = some (.int .i64 0) from rfl)
        have q4 := hR.out.frozen 4
        have r5 := (hR.out.cell 5).trans (show _ = some (.int .i64 0) from rfl)
        have q5 := hR.out.frozen 5
        have r6 := (hR.out.cell 6).trans (show _ = some (.int .i64 0) from rfl)
        have q6 := hR.out.frozen 6
        go_wp2
        refine bodyPost_ret (v := .agg #[.int .i64 xth, .int .i64 xfi, .int .i64 xla, .int .u64 xsn, .int .i64 xho, .int .i64 xrd, .int .i64 xwr]) (by simp [results, Try.results55, go_sem, r0, r1, r2, r3, r4, r5, r6, q0, q1, q2, q3, q4, q5, q6]) rfl ⟨by rw [hx.out]; rfl, (((((((hbr.out.setCell (p := ⟨w.heap.size, 0, none⟩) (Nat.le_refl _) (.int .i64 xth)).setCell (p := ⟨w.heap.size, 1, none⟩) (Nat.le_refl _) (.int .i64 xfi)).setCell (p := ⟨w.heap.size, 2, none⟩) (Nat.le_refl _) (.int .i64 xla)).setCell (p := ⟨w.heap.size, 3, none⟩) (Nat.le_refl _) (.int .u64 xsn)).setCell (p := ⟨w.heap.size, 4, none⟩) (Nat.le_refl _) (.int .i64 xho)).setCell (p := ⟨w.heap.size, 5, none⟩) (Nat.le_refl _) (.int .i64 xrd)).setCell (p := ⟨w.heap.size, 6, none⟩) (Nat.le_refl _) (.int .i64 xwr))⟩
end Go.Proofs.Ytloiadhdkgkjkaa
/- The document's attempts: Tries by contract, over a history that can be. -/
namespace Go.Proofs.Ytloiadhdkgkjkaa
open Go.RowKit
set_option maxHeartbeats 40000000
set_option linter.unusedVariables false
set_option linter.unusedSimpArgs false
/-- The attempts that begin in the first n events. -/
def trsF (l : List Ev) : Nat → List Tr
  | 0 => []
  | n + 1 => if (evAt l n).kd = 1 then trsF l n ++ [tryF l n] else trsF l n
theorem trsF_len (l : List Ev) : ∀ n, (trsF l n).length ≤ n
  | 0 => Nat.le_refl _
  | n + 1 => by
    have := trsF_len l n
    unfold trsF
    split
    · simp; omega
    · omega
set_option maxRecDepth 100000 in
theorem rtries_b {w : World} {A : Option Addr} {cp : Nat} {l : List Ev} (hL : LiesV w (.slice A l.length cp) l) (hwf : ∀ e ∈ l, EvWf e) (hsz : l.length * 48 + 480 ≤ 140737488355328) (hok : odd l = (-1, 0)) (hcn : ∀ n, n ≤ l.length → (trsF l n).length * 56 ≤ 140737488355328) :
    Calls Try.prog 33 #[.slice A l.length cp] w fun x w' => Below w.heap.size w w' ∧ ∃ ov, x = .returned (.tuple #[ov, .agg #[.int .i64 (-1), .int .i64 0]]) ∧ Sl 38 7 encT w' ov (trsF l l.length) ∧ ∀ q, own ov q → w.heap.size ≤ q := by
  have hlen : (l.length : Int) ≤ 9223372036854775807 := by omega
  have hR1 := Blk.new w 28 #[.int .i64 0, .int .i64 0]
  have hb1 := (Below.refl w.heap.size w).alloc (Nat.le_refl _) (.cells #[.int .i64 0, .int .i64 0] 28)
  have C1 := Lib.hid (rcheck_b (hL.below hb1 (Nat.le_refl _)) hwf hsz)
  rw [hok] at C1
  replace hR1 := Lib.hid hR1
  replace hb1 := Lib.hid hb1
  replace hL := Lib.hid hL
  replace hcn := Lib.hid hcn
  go_enter Try.func33, Try.ntmps33
  go_wp2_with fail
  refine C1.out.mono ?_
  rintro _ w2 ⟨rfl, hb2⟩
  have hR2 := hR1.out.below hb2 hR1.out.lt
  have hbw2 := hb1.out.trans (hb2.mono hb1.out.size)
  obtain ⟨w3, hw3⟩ : ∃ w3, w3 = w2.alloc (.cells #[.int .i64 (-1), .int .i64 0] 28) := ⟨_, rfl⟩
  have hR3 : Hid (Blk w3 w.heap.size 28 #[.int .i64 0, .int .i64 0]) := Lib.hid (by rw [hw3]; exact hR2.alloc _)
  have hO3 : Hid (Blk w3 w2.heap.size 28 #[.int .i64 (-1), .int .i64 0]) := Lib.hid (by rw [hw3]; exact Blk.new _ _ _)
  have hb3 : Hid (Below w.heap.size w w3) := Lib.hid (by rw [hw3]; exact hbw2.alloc hbw2.size _)
  have hne : w.heap.size ≠ w2.heap.size := Nat.ne_of_lt hR2.lt
  have hlt2 : Hid (w.heap.size < w2.heap.size) := Lib.hid hR2.lt
  subst hw3
  have x1 := (hO3.out.cell 1).trans (show _ = some (.int .i64 0) from rfl)
  clear hb2 hR2 hbw2 C1 hb1 hR1
  go_wp2_with fail
  go_loopw [5, 6] (fun c5 c6 wr => ∃ n : Nat, n ≤ l.length ∧ c6 = .int .i64 (n : Int) ∧ Hid (Sl 38 7 encT wr c5 (trsF l n)) ∧ Hid (∀ q, own c5 q → w.heap.size ≤ q) ∧ Hid (Blk wr w.heap.size 28 #[.int .i64 0, .int .i64 0]) ∧ Hid (Blk wr w2.heap.size 28 #[.int .i64 (-1), .int .i64 0]) ∧ Hid (Below w.heap.size w wr)) (fun _ c6 _ => l.length - (intOf c6).toNat)
  case atStart => exact ⟨0, Nat.zero_le _, rfl, Lib.hid (Sl.nil _), Lib.hid (fun q hq => absurd hq (no_own_nil q)), hR3, hO3, hb3⟩
  case round =>
    obtain ⟨n, hn, rfl, hS, hown, hR, hO, hbr⟩ := hrel
    clear hR3 hO3 hb3 x1
    by_cases hlt : n < l.length
    · have b1 : (n : Int) < l.length := by omega
      have w1 := IntWalk.i64_in (n := (n : Int) + 1) (by omega)
      have hLr := hL.out.below hbr.out (Nat.le_refl _)
      obtain ⟨g, o, rfl, hc⟩ := hLr.at hlt
      obtain ⟨-, d1, -, -, -, -⟩ := hc n hlt
      have hu : Hid (trsF l (n + 1) = if (evAt l n).kd = 1 then trsF l n ++ [tryF l n] else trsF l n) := Lib.hid rfl
      have hc1 := hcn.out (n + 1) (by omega)
      rw [hu.out] at hc1
      generalize (evAt l n).kd = x1 at *
      clear hc
      by_cases h1 : x1 = 1
      · subst h1
        rw [if_pos rfl] at hu hc1
        rw [List.length_append, List.length_singleton] at hc1
        have CT := rtry_b hLr hlt
        obtain ⟨y, hy⟩ : ∃ y, tryF l n = y := ⟨_, rfl⟩
        rw [hy] at CT hu
        obtain ⟨y0, y1, y2, y3, y4, y5, y6⟩ := y
        dsimp only [encT] at CT
        replace CT := Lib.hid CT
        replace hy := Lib.hid hy
        replace hc1 := Lib.hid hc1
        clear hLr
        go_wp2_with fail
        refine CT.out.mono ?_
        rintro _ w4 ⟨rfl, hb4⟩
        have hS4 := Lib.hid (hS.out.keep (w' := w4) fun k hk => hb4.block k (hS.out.lt k hk))
        have hR4 := hR.out.below hb4 hR.out.lt
        have hO4 := hO.out.below hb4 hO.out.lt
        have hbw4 := hbr.out.trans (hb4.mono hbr.out.size)
        have FIN : Hid (∀ A5 cap5 w5, Sl 38 7 encT w5 (.slice A5 ((trsF l n).length + 1) cap5) (trsF l n ++ [⟨y0, y1, y2, y3, y4, y5, y6⟩]) → Fr (own _) w4 (own (.slice A5 ((trsF l n).length + 1) cap5)) w5 → Sl 38 7 encT w5 (.slice A5 ((trsF l n).length + 1) cap5) (trsF l (n + 1)) ∧ (∀ q, own (.slice A5 ((trsF l n).length + 1) cap5) q → w.heap.size ≤ q) ∧ Blk w5 w.heap.size 28 #[.int .i64 0, .int .i64 0] ∧ Blk w5 w2.heap.size 28 #[.int .i64 (-1), .int .i64 0] ∧ Below w.heap.size w w5) := Lib.hid fun A5 cap5 w5 hS5 hF5 =>
          ⟨by rw [hu.out]; exact hS5, hF5.ge hown.out hbw4.size, hF5.blk hR4 (hS4.out.ne_ hR4 (by decide)), hF5.blk hO4 (hS4.out.ne_ hO4 (by decide)), hbw4.trans (hF5.below hown.out hbw4.size)⟩
        clear hb4 hS hR hO hbr CT hR4 hO4 hbw4
        go_wp2_with (at_builtin; refine wpList_try w4 rfl (.tmp 25) (.tmp 29) rfl _ (trsF l n) ⟨y0, y1, y2, y3, y4, y5, y6⟩ rfl hS4.out rfl hc1.out ?_; intro A5 cap5 w5 hc5 hS5 hF5; have FN := Lib.hid (FIN.out A5 cap5 w5 hS5 hF5); clear hS5 hF5)
        go_roundw
        case rel => exact ⟨n + 1, hlt, by go_num, Lib.hid FN.out.1, Lib.hid FN.out.2.1, Lib.hid FN.out.2.2.1, Lib.hid FN.out.2.2.2.1, Lib.hid FN.out.2.2.2.2⟩
        case measure => simp [intOf]; omega
      · have f1 : (x1 == 1) = false := by simpa using h1
        rw [if_neg h1] at hu
        clear hLr
        go_wp2
        go_roundw
        case rel => exact ⟨n + 1, hlt, by go_num, by rw [hu.out]; exact hS, hown, hR, hO, hbr⟩
        case measure => simp [intOf]; omega
    · have hn2 : n = l.length := by omega
      subst hn2
      obtain ⟨A5, cap5, rfl, -⟩ := hS.out.shape
      have x0 := (hO.out.cell 0).trans (show _ = some (.int .i64 (-1)) from rfl)
      have x1 := (hO.out.cell 1).trans (show _ = some (.int .i64 0) from rfl)
      have r0 := (hR.out.cell 0).trans (show _ = some (.int .i64 0) from rfl)
      have r1 := (hR.out.cell 1).trans (show _ = some (.int .i64 0) from rfl)
      have f0 := hR.out.frozen 0
      have f1 := hR.out.frozen 1
      have hS9 := Lib.hid (fun j jj => ((hS.out.drewN j).set (p := ⟨w.heap.size, 0, none⟩) (hS.out.ne_ hR.out (by decide)) (.int .i64 (-1))).set (p := ⟨w.heap.size, 1, none⟩) (hS.out.ne_ hR.out (by decide)) (.int .i64 0) |>.drewN jj)
      have hb9 := Lib.hid (fun j jj => below_drewNs (((below_drewNs hbr.out j).setCell (p := ⟨w.heap.size, 0, none⟩) (Nat.le_refl _) (.int .i64 (-1))).setCell (p := ⟨w.heap.size, 1, none⟩) (Nat.le_refl _) (.int .i64 0)) jj)
      clear hS hR hO hbr
      go_wp2
      refine wp_region_mixH (fun _ => True) [3, 1, 3, 2] (List.range 4) (by kernel_rfl) (by kernel_rfl) (fun _ _ h => h) trivial ?_
      (repeat ((first | refine wpMixH_pure rfl rfl (fun K hK => ?_) | refine wpMixH_loc rfl rfl (fun K hK => ?_) | refine wpMixH_any rfl rfl (fun K hK => ?_)); go_simp; refine hK _ _ ?_; clear hK K))
      refine wpMixH_loud rfl rfl (fun n1 K hK => ?_)
      go_wp2
      refine hK _ _ (fun _ => trivial) ?_; clear hK K
      refine wpMixH_nil (fun n2 => ?_)
      go_wp2
      refine bodyPost_ret (v := .tuple #[.slice A5 (trsF l l.length).length cap5, .agg #[.int .i64 (-1), .int .i64 0]]) (by simp [results, Try.results33, go_sem, r0, r1, f0, f1]) rfl ⟨hb9.out _ _, _, rfl, hS9.out _ _, hown.out⟩
end Go.Proofs.Ytloiadhdkgkjkaa
