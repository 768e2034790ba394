/- known: its answer; the statements' list comparison. -/
import Derived.Test.YteoebfjhadmnbaaRows
import Derived.ProofKit
import Derived.OpenShut
import Derived.ChangeOld
import Derived.Below
import Derived.SizedLaws
import Derived.Deep.Slices
import Derived.Deep.Fields
import Derived.ChangeSame
import Derived.Carry
import Derived.Test.YteoebfjhadmnbaaPSt4
import Derived.Test.YteoebfjhadmnbaaPSt5
import Derived.Test.YteoebfjhadmnbaaPSt13
namespace Go.Proofs.Yteoebfjhadmnbaa
open Go.RowKit Ieee
set_option maxHeartbeats 4000000
set_option linter.unusedVariables false
set_option linter.unusedSimpArgs false
set_option maxRecDepth 100000 in
theorem ints_b {w : World} {va vb : Value} {l : List Int} (h1 : Sl 3 1 encZ w va l) (h2 : Sl 3 1 encZ w vb l) (hn : (l.length : Int) ≤ 9223372036854775806) :
    Calls Try.prog 14 #[va, vb] w fun x w' => x = .returned (.bool true) ∧ ∃ n, w' = w.drewN n := by
  obtain ⟨A1, c1, rfl, -⟩ := h1.shape
  obtain ⟨A2, c2, rfl, -⟩ := h2.shape
  replace h1 := Lib.hid h1
  replace h2 := Lib.hid h2
  go_enter Try.func14, Try.ntmps14
  go_wp2
  go_loopg [5] l.length (fun gk c5 wr => ∃ j nd : Nat, gk + j = l.length ∧ c5 = .int .i64 (j : Int) ∧ wr = w.drewN nd)
  case atStart => exact ⟨0, 0, rfl, rfl, rfl⟩
  case round =>
    obtain ⟨j, nd, hj, rfl, rfl⟩ := hrel
    rcases Nat.lt_or_ge j l.length with hlt | hge
    · obtain ⟨g1, o1, rfl, -, d⟩ := h1.out.cell encZ_len (by decide) hlt
      obtain ⟨g2, o2, rfl, -, f⟩ := h2.out.cell encZ_len (by decide) hlt
      have d0 := (d j hlt 0 (by decide)).1
      have f0 := (f j hlt 0 (by decide)).1
      simp only [encZ, List.getElem?_cons_zero, Nat.mul_one, Nat.add_zero] at d0 f0
      clear d f
      generalize l[j] = x at *
      have b1 : (j : Int) < l.length := by omega
      have w1 := IntWalk.i64_in (n := (j : Int) + 1) (by omega)
      obtain ⟨wq, hwq⟩ : ∃ wq, wq = w.drewN nd := ⟨_, rfl⟩
      have d0' : wq.cell? ⟨g1, o1 + j, none⟩ = some (.int .i64 x) := by rw [hwq]; exact d0
      have f0' : wq.cell? ⟨g2, o2 + j, none⟩ = some (.int .i64 x) := by rw [hwq]; exact f0
      rw [← hwq]
      replace hwq := Lib.hid hwq
      clear d0 f0
      go_wp2_with fail
      go_quiet (fail)
      go_wp2
      obtain ⟨k, rfl⟩ : ∃ k, gk = k + 1 := ⟨gk - 1, by omega⟩
      go_roundg k
      case measure => omega
      case rel => exact ⟨j + 1, nd + nq, by omega, by go_num, by rw [hwq.out, drewN_drewN]⟩
    · have b1 : ¬ (j : Int) < l.length := by omega
      go_wp2
      go_ret
      exact ⟨rfl, nd, rfl⟩
theorem cl_some {x k : Nat} (h : cl x = some k) : x = k := by
  unfold cl at h
  split at h
  · cases h
  · injection h
theorem liesF_new (w : World) (l : List Nat) (hl : l.length ≤ 9223372036854775807) (hb : ∀ x ∈ l, x < 18446744073709551616) : LiesF (w.alloc (.cells (l.flatMap encFl).toArray 36)) (.slice (some ⟨w.heap.size, 0, none⟩) l.length l.length) l :=
  Fl.lies (Sl.new (enc := encFl) (e := 36) encFl_len w l hl) hb
theorem liesV_new (w : World) (l : List Ev) (hl : l.length * 48 ≤ 140737488351232) (hwf : ∀ e ∈ l, EvWf e) : LiesV (w.alloc (.cells (l.flatMap encV).toArray 27)) (.slice (some ⟨w.heap.size, 0, none⟩) l.length l.length) l := by
  have hS := Sl.new (enc := encV) (e := 27) encV_len w l (by omega)
  refine ⟨_, _, rfl, Nat.le_refl _, (fun h => nomatch h), hwf, by omega, fun j hj => ?_⟩
  obtain ⟨g, o, e, hg, hc⟩ := Sl.cell encV_len (by decide) hS hj
  refine ⟨g, o, e, hg, fun c h6 => ?_⟩
  rw [show o + j * 6 + c = o + (j * 6 + c) by omega]
  exact (hc j hj c h6).1
theorem hist_wf : ∀ e ∈ hist, EvWf e := by
  intro e he
  simp only [hist, List.mem_cons, List.not_mem_nil, or_false] at he
  rcases he with rfl | rfl | rfl | rfl | rfl <;> (unfold EvWf; decide)
/-- what known has in memory: two boxes, the waits, the shares -/
structure KM (w0 w : World) (b3 b5 : Nat) (v v2 : Value) (s : Sh) : Prop where
  bel : Below w0.heap.size w0 w
  B3 : Blk w b3 30 #[.int .i64 (-1), .int .i64 0]
  B5 : Blk w b5 30 #[.int .i64 (-1), .int .i64 0]
  Z : Zl w v [5]
  S : Sl 42 11 encSh w v2 [s]
theorem KM.below {w0 w w' : World} {b3 b5 : Nat} {v v2 : Value} {s : Sh} (h : KM w0 w b3 b5 v v2 s) (hb : Below w.heap.size w w') : KM w0 w' b3 b5 v v2 s :=
  ⟨h.bel.trans (hb.mono h.bel.size), h.B3.below hb h.B3.lt, h.B5.below hb h.B5.lt, Sl.keep h.Z fun k hk => hb.block k (Sl.lt h.Z k hk), Sl.keep h.S fun k hk => hb.block k (Sl.lt h.S k hk)⟩
theorem KM.alloc {w0 w : World} {b3 b5 : Nat} {v v2 : Value} {s : Sh} (h : KM w0 w b3 b5 v v2 s) (o : Obj) : KM w0 (w.alloc o) b3 b5 v v2 s := h.below ((Below.refl _ _).alloc (Nat.le_refl _) o)
set_option maxRecDepth 100000 in
theorem known_b (w : World) : Calls Try.prog 17 #[] w (TrueP w.heap.size w) := by
  have hLV := Lib.hid (liesV_new w hist (by decide) hist_wf)
  have W1 := Lib.hid ((Below.refl w.heap.size w).alloc (Nat.le_refl _) (.cells (hist.flatMap encV).toArray 27))
  go_enter Try.func17, Try.ntmps17
  go_wp2_with fail
  generalize hw1 : w.alloc (Obj.cells _ 27) = w1
  have hL1 : Hid (LiesV w1 (.slice (some ⟨w.heap.size, 0, none⟩) hist.length hist.length) hist) := Lib.hid (by rw [← hw1]; exact hLV.out)
  replace W1 : Hid (Below w.heap.size w w1) := Lib.hid (by rw [← hw1]; exact W1.out)
  clear hLV hw1
  refine (waits_ok hL1.out hist_ok).mono ?_
  rintro _ w2 ⟨v, rfl, hv, b2, -⟩
  rw [hist_waits] at hv
  obtain ⟨A, c, rfl, hc⟩ := Sl.shape hv
  have W2 := Lib.hid (W1.out.trans (b2.mono W1.out.size))
  have W3 := Lib.hid (W2.out.alloc W2.out.size (.cells #[.int .i64 (-1), .int .i64 0] 30))
  have B3 := Lib.hid (Blk.new w2 30 #[.int .i64 (-1), .int .i64 0])
  have Z3 := Lib.hid (Sl.alloc hv (.cells #[.int .i64 (-1), .int .i64 0] 30))
  have L3 := Lib.hid ((hL1.out.below b2 (Nat.le_refl _)).below ((Below.refl w2.heap.size w2).alloc (Nat.le_refl _) (.cells #[.int .i64 (-1), .int .i64 0] 30)) (Nat.le_refl _))
  clear hL1 W1 hv b2 W2
  go_wp2_with fail
  generalize w2.alloc (.cells #[.int .i64 (-1), .int .i64 0] 30) = w3 at *
  generalize w2.heap.size = b3 at *
  refine (shares_ok L3.out hist_ok).mono ?_
  rintro _ w4 ⟨v2, ss, rfl, hsh, hS, b4, -⟩
  rw [hist_thr] at hsh
  obtain ⟨s, rfl, hal, hra⟩ := hist_sh hsh
  obtain ⟨A2, c2, rfl, hc2⟩ := Sl.shape hS
  have K5 : Hid (KM w (w4.alloc (.cells #[.int .i64 (-1), .int .i64 0] 30)) b3 w4.heap.size (.slice A 1 c) (.slice A2 1 c2) s) := Lib.hid {
    bel := (W3.out.trans (b4.mono W3.out.size)).alloc (W3.out.trans (b4.mono W3.out.size)).size _
    B3 := (B3.out.below b4 B3.out.lt).alloc _
    B5 := Blk.new w4 _ _
    Z := Sl.alloc (Sl.keep Z3.out fun k hk => b4.block k (Sl.lt Z3.out k hk)) _
    S := hS.alloc _ }
  clear W3 B3 Z3 L3 hsh hS b4
  replace hal := Lib.hid hal
  replace hra := Lib.hid hra
  have hz5 : (w4.alloc (.cells #[.int .i64 (-1), .int .i64 0] 30)).heap.size = w4.heap.size + 1 := by simp
  replace hz5 := Lib.hid hz5
  go_wp2_with fail
  generalize w4.alloc (.cells #[.int .i64 (-1), .int .i64 0] 30) = w5 at *
  generalize w4.heap.size = b5 at *
  rw [← hz5.out]
  clear hz5
  have M5 := Lib.hid (liesF_new w5 [4607182418800017408, 4611686018427387904, 4616189618054758400] (by decide) (by decide))
  have K6 := Lib.hid (K5.out.alloc (.cells (([4607182418800017408, 4611686018427387904, 4616189618054758400] : List Nat).flatMap encFl).toArray 36))
  clear K5
  generalize hw6 : w5.alloc (Obj.cells _ 36) = w6
  have M6 : LiesF w6 (.slice (some ⟨w5.heap.size, 0, none⟩) 3 3) [4607182418800017408, 4611686018427387904, 4616189618054758400] := by rw [← hw6]; exact M5.out
  replace K6 : Hid (KM w w6 b3 b5 (.slice A 1 c) (.slice A2 1 c2) s) := Lib.hid (by rw [← hw6]; exact K6.out)
  clear M5 hw6
  have MB := Lib.hid (mean_b (l := [4607182418800017408, 4611686018427387904, 4616189618054758400]) M6 (by decide))
  replace MB : Hid (Calls Try.prog 24 #[.slice (some ⟨w5.heap.size, 0, none⟩) 3 3] w6 fun e w' => ∃ x n, e = .returned (.tuple #[.float .f64 x, .bool true]) ∧ cl x = pMean (([4607182418800017408, 4611686018427387904, 4616189618054758400] : List Nat).map cl) ∧ x < 18446744073709551616 ∧ w' = w6.drewN n) := MB
  refine MB.out.mono ?_
  rintro _ _ ⟨x, n1, rfl, hx, -, rfl⟩
  obtain rfl : x = 4612436618365282987 := cl_some (hx.trans (by decide +kernel))
  have K7 := Lib.hid (K6.out.below (below_drewNs (Below.refl _ _) n1))
  clear K6 M6 hx
  generalize w6.drewN n1 = w7 at *
  go_wp2_with fail
  have K8 := Lib.hid (K7.out.alloc (.cells #[.float .f64 4607182418800017408, .float .f64 4611686018427387904] 36))
  have q0 := (Blk.new w7 36 #[.float .f64 4607182418800017408, .float .f64 4611686018427387904]).cell 0
  have q1 := (Blk.new w7 36 #[.float .f64 4607182418800017408, .float .f64 4611686018427387904]).cell 1
  clear K7
  generalize w7.alloc (.cells #[.float .f64 4607182418800017408, .float .f64 4611686018427387904] 36) = w8 at *
  refine (quant_b (o := 0) (Nat.le_refl _) q0 q1).mono ?_
  rintro _ w9 ⟨rfl, b9⟩
  have K9 := Lib.hid (K8.out.below b9)
  clear K8 q0 q1 b9
  obtain ⟨gs, os, rfl, hgs, hcs⟩ := Sl.cell encSh_len (by decide) K9.out.S (i := 0) (by simp)
  have s10 : w9.cell? ⟨gs, os + 10, none⟩ = some (.float .f64 4602678819172646912) := by have := (hcs 0 (by simp) 10 (by decide)).1; rw [show os + (0 * 11 + 10) = os + 10 by omega] at this; rw [this, ← hra.out]; rfl
  have s3 : w9.cell? ⟨gs, os + 3, none⟩ = some (.int .i64 1) := by have := (hcs 0 (by simp) 3 (by decide)).1; rw [show os + (0 * 11 + 3) = os + 3 by omega] at this; rw [this, ← hal.out]; rfl
  have p0 := K9.out.B3.cell 0
  have p1 := K9.out.B3.cell 1
  have r0 := K9.out.B5.cell 0
  have r1 := K9.out.B5.cell 1
  simp only [List.getElem?_toArray, List.getElem?_cons_zero, List.getElem?_cons_succ] at p0 p1 r0 r1
  have hodd : ∀ W, (binOp .eql 30 (.agg #[.int .i64 (-1), .int .i64 0]) (.agg #[.int .i64 (-1), .int .i64 0])).run Try.prog W = .ok (.bool true) W := fun W => by kernel_rfl
  have hl3 := K9.out.B3.lt
  have hl5 := K9.out.B5.lt
  clear hcs
  go_wp2_with fail
  have KA := Lib.hid (K9.out.alloc (.cells #[.int .i64 5] 3))
  have hN := Sl.new (enc := encZ) (e := 3) encZ_len w9 [5] (by simp)
  have t10 := cell_alloc_ s10 (o := .cells #[.int .i64 5] 3)
  have t3 := cell_alloc_ s3 (o := .cells #[.int .i64 5] 3)
  refine (ints_b KA.out.Z hN (by simp)).mono ?_
  rintro _ _ ⟨rfl, n2, rfl⟩
  have KB := Lib.hid (KA.out.below (below_drewNs (Below.refl _ _) n2))
  have t10 : ((w9.alloc (.cells #[.int .i64 5] 3)).drewN n2).cell? ⟨gs, os + 10, none⟩ = some (.float .f64 4602678819172646912) := t10
  have t3 : ((w9.alloc (.cells #[.int .i64 5] 3)).drewN n2).cell? ⟨gs, os + 3, none⟩ = some (.int .i64 1) := t3
  clear KA hN p0 p1 r0 r1 s10 s3 K9
  generalize (w9.alloc (.cells #[.int .i64 5] 3)).drewN n2 = wb at *
  have e5 : fEq 4602678819172646912 4602678819172646912 = true := by decide
  have e6 : fEq 4611686018427387904 4611686018427387904 = true := by decide
  have e7 : fEq 4612436618365282987 4612436618365282987 = true := by decide
  have e8 : fEq 4609434218613702656 4609434218613702656 = true := by decide
  go_wp2_with fail
  have SF := liesF_new wb [4607182418800017408, 6103021453049119613, 4607182418800017408, 15326393489903895421] (by decide) (by decide)
  have SB := Lib.hid (sum_b (l := [4607182418800017408, 6103021453049119613, 4607182418800017408, 15326393489903895421]) SF (by decide))
  have KC := Lib.hid (KB.out.alloc (.cells (([4607182418800017408, 6103021453049119613, 4607182418800017408, 15326393489903895421] : List Nat).flatMap encFl).toArray 36))
  replace KC : Hid (KM w (wb.alloc (.cells #[.float .f64 4607182418800017408, .float .f64 6103021453049119613, .float .f64 4607182418800017408, .float .f64 15326393489903895421] 36)) b3 b5 (.slice A 1 c) (.slice (some ⟨gs, os, none⟩) 1 c2) s) := KC
  replace SB : Hid (Calls Try.prog 27 #[.slice (some ⟨wb.heap.size, 0, none⟩) 4 4] (wb.alloc (.cells #[.float .f64 4607182418800017408, .float .f64 6103021453049119613, .float .f64 4607182418800017408, .float .f64 15326393489903895421] 36)) fun e w' => ∃ x n, e = .returned (.float .f64 x) ∧ cl x = pSum (([4607182418800017408, 6103021453049119613, 4607182418800017408, 15326393489903895421] : List Nat).map cl) ∧ x < 18446744073709551616 ∧ w' = (wb.alloc (.cells #[.float .f64 4607182418800017408, .float .f64 6103021453049119613, .float .f64 4607182418800017408, .float .f64 15326393489903895421] 36)).drewN n) := SB
  clear SF KB t10 t3
  generalize wb.alloc (.cells #[.float .f64 4607182418800017408, .float .f64 6103021453049119613, .float .f64 4607182418800017408, .float .f64 15326393489903895421] 36) = wd at *
  refine SB.out.mono ?_
  rintro _ _ ⟨x, n3, rfl, hx, -, rfl⟩
  obtain rfl : x = 4611686018427387904 := cl_some (hx.trans (by decide +kernel))
  have WE := Lib.hid (below_drewNs KC.out.bel n3)
  clear KC SB hx
  generalize wd.drewN n3 = we at *
  go_wp2_with (go_at_call 18; refine (num_b _ _).mono ?_; rintro e _ ⟨rfl, rfl⟩)
  go_ret
  exact ⟨rfl, WE.out⟩
end Go.Proofs.Yteoebfjhadmnbaa
/- Arguments opened: slices of whole numbers, slices of structs of whole numbers. -/
namespace Go.Proofs.Yteoebfjhadmnbaa
open Go.ChangeShapes Go.WideShapes Go.ChangeAt Go.RowKit Go.Deep

section
variable {H : Type} {enc : TypeId × Value → H} {P : Program} {w : World} {base : Nat} {spare : Nat → Bool} {held : Bool}
/-- A slice of structs of one-cell fields: each field's cell and reading. -/
theorem open_slice_fields {t e : TypeId} {fs : Array Field} {fuel : Nat} {cs : List Value} {x : DataW H × List MemPlace} (ht : P.underlying t = some (.slice e)) (he : P.underlying e = some (.struct fs))
    (hone : oneCellFields P fs = true) (hC : P.cellsOf e = fs.size) (h : DataW.trod enc P w base spare held fuel t cs = some x) :
    (cs = [.slice none 0 0] ∧ x = (.nil, [])) ∨
    ∃ (a : Addr) (len cap m : Nat) (D : Nat → DataW H) (Pl : Nat → List MemPlace), cs = [.slice (some a) len cap] ∧ base ≤ a.block ∧ len ≤ cap ∧ cap ≤ maxLen ∧ m = (if spare a.block then cap else len) ∧
      x = (.slice ((List.range len).map D) ((List.range (m - len)).map fun j => D (len + j)), MemPlace.row a (m * fs.size) ++ (List.range m).flatMap Pl) ∧
      ∀ i, i < m → ∃ (ys : List (DataW H × List MemPlace)) (n : Nat), D i = .agg (ys.map (·.1)) ∧ Pl i = ys.flatMap (·.2) ∧ ys.length = fs.size ∧
        ∀ (j : Nat) (f : Field), fs[j]? = some f → ∃ (v : Value) (y : DataW H × List MemPlace), w.cell? (a.add (i * fs.size + j)) = some v ∧ ys[j]? = some y ∧ DataW.trod enc P w base spare held n f.type [v] = some y := by
  rcases open_slice ht h with h0 | ⟨a, len, cap, m, n, D, Pl, hcs, hb, hl, hm, hmm, hx, hi⟩
  · exact .inl h0
  · refine .inr ⟨a, len, cap, m, D, Pl, hcs, hb, hl, hm, hmm, by rw [hC] at hx; exact hx, fun i him => ?_⟩
    obtain ⟨cs', hc, ht'⟩ := hi i him
    rw [hC] at hc
    obtain ⟨ys, n', hn', hy, hlen, hyl, hf⟩ := DataW.trod_struct he ht'
    obtain ⟨_, hcl, hat⟩ := World.cells?_some hc
    simp only [Prod.mk.injEq] at hy
    refine ⟨ys, n', hy.1, hy.2, hyl, fun j f hj => ?_⟩
    obtain ⟨ho, hk⟩ := hone_of hone j f hj
    have hjl : j < fs.size := (Array.getElem?_eq_some_iff.1 hj).1
    have hcell := hat j hjl
    have hv : cs'[j]? = some (cs'[j]'(by omega)) := List.getElem?_eq_getElem (by omega)
    have h1 := hf j f hj
    rw [ho, hk] at h1
    have hone' : (cs'.drop j).take 1 = [cs'[j]'(by omega)] := by
      rw [List.drop_eq_getElem_cons (by omega)]
      rfl
    rw [hone'] at h1
    have hys : ys[j]? = some (ys[j]'(by omega)) := List.getElem?_eq_getElem (by omega)
    refine ⟨_, _, ?_, hys, h1.trans hys⟩
    rw [← Go.Deep.add_add, hcell, hv]

theorem addr_block {a : Addr} {n : Nat} : (a.add n).block = a.block := by unfold Addr.add; split <;> rfl
theorem addr_flat {a : Addr} {i j : Nat} (hj : j ≠ 0) : a.add (i + j) = ⟨(a.add i).block, (a.add i).off + j, none⟩ := by
  unfold Addr.add
  rw [if_neg (by omega)]
  split
  · rename_i h; subst h; simp
  · simp [Nat.add_assoc]
theorem spotless {a : Addr} {n : Nat} {v : Value} (h : w.cell? (a.add n) = some v) : a.add n = ⟨a.block, a.off + n, none⟩ := by
  unfold Addr.add at *
  split
  · rename_i hn
    subst hn
    simp only [if_true] at h
    unfold World.cell? at h
    cases a with
    | mk b o s =>
      cases s with
      | none => rfl
      | some s =>
        simp only [Option.isSome_some, if_true] at h
        split at h <;> cases h
  · rfl

/-- A slice of words that came in. -/
structure WordsIn (w : World) (A : Option Addr) (l : List Int) (c : Nat) : Prop where
  nil : A = none → l = [] ∧ c = 0
  cell : ∀ ad, A = some ad → ∀ j, j < l.length → w.cell? (ad.add j) = some (.int .u64 (l.getD j 0))
  bd : ∀ x ∈ l, 0 ≤ x ∧ x ≤ 18446744073709551615
  len : l.length * 8 ≤ 140737488351232
  cap : l.length ≤ c

/-- A slice of structs of whole numbers that came in. -/
structure RowsIn (w : World) (A : Option Addr) (n c : Nat) (ks : List IntKind) : Prop where
  nil : A = none → n = 0 ∧ c = 0
  cell : ∀ ad, A = some ad → ∀ i, i < n → ∀ j k, ks[j]? = some k → ∃ z, w.cell? (ad.add (i * ks.length + j)) = some (.int k z) ∧ (Lit.int k z).wf = true
  len : n * (8 * ks.length) ≤ 140737488351232

theorem open_words {ts : List TypeId} {ds : List (DataW H)} {j : Nat} {t e : TypeId} {A : Option Addr} {len cap : Nat} {d : DataW H} {p : List MemPlace} (hsz : (DataW.weightsEach P ts ds).all (· ≤ reachBytes) = true) (hj : ts[j]? = some t) (hd : ds[j]? = some d)
    (ht : P.underlying t = some (.slice e)) (he : P.underlying e = some (.int .u64)) (hc : P.cellsOf e = 1) (hb : P.bytesOf e = 8) (h : DataW.Trod enc P w base spare held t (.slice A len cap) d p) : ∃ l, l.length = len ∧ WordsIn w A l cap := by
  obtain ⟨fuel, hf⟩ := h
  rcases open_ints ht he hc hf with ⟨hcs, hx⟩ | ⟨x, l, c, zs, hcs, _, hl, hm, hz, hx, hcell, hwz⟩
  · simp [Value.cells] at hcs
    obtain ⟨rfl, rfl, rfl⟩ := hcs
    exact ⟨[], rfl, fun _ => ⟨rfl, rfl⟩, (fun ad h => nomatch h), by simp, by simp, by simp⟩
  · simp [Value.cells] at hcs
    obtain ⟨rfl, rfl, rfl⟩ := hcs
    have hlz : len ≤ zs.length := by rw [hz]; split <;> omega
    simp only [Prod.mk.injEq] at hx
    have := sized_slice hsz hj (hd.trans (by rw [hx.1])) ht
    rw [hb] at this
    simp only [lits, List.length_map, List.length_take, List.length_drop, reachBytes] at this
    refine ⟨zs.take len, by simp; omega, (fun h => nomatch h), fun ad h i hi => ?_, fun z hz => ?_, by simp; omega, by simp; omega⟩
    · injection h with h
      subst h
      simp only [List.length_take] at hi
      rw [hcell i (by omega)]
      simp [List.getD_eq_getElem?_getD, show i < len by omega]
    · have := hwz z (List.mem_of_mem_take hz)
      simp [Lit.wf, IntKind.min, IntKind.max, IntKind.signed, IntKind.bits] at this
      omega

theorem open_rows {ts : List TypeId} {ds : List (DataW H)} {j : Nat} {t e : TypeId} {A : Option Addr} {len cap : Nat} {d : DataW H} {p : List MemPlace} (hsz : (DataW.weightsEach P ts ds).all (· ≤ reachBytes) = true) (hj : ts[j]? = some t) (hd : ds[j]? = some d)
    {fs : Array Field} {ks : List IntKind} (ht : P.underlying t = some (.slice e)) (he : P.underlying e = some (.struct fs)) (hone : oneCellFields P fs = true) (hC : P.cellsOf e = fs.size) (hb : 8 * ks.length ≤ P.bytesOf e) (hn : ks.length = fs.size) (hk : (fs.toList.map fun f => P.underlying f.type) = ks.map fun k => some (.int k))
    (h : DataW.Trod enc P w base spare held t (.slice A len cap) d p) : RowsIn w A len cap ks := by
  obtain ⟨fuel, hf⟩ := h
  rcases open_slice_fields ht he hone hC hf with ⟨hcs, hx⟩ | ⟨a, l, c, m, D, Pl, hcs, _, hl, hm, hmm, hx, hel⟩
  · simp [Value.cells] at hcs
    obtain ⟨rfl, rfl, rfl⟩ := hcs
    exact ⟨fun _ => ⟨rfl, rfl⟩, (fun ad h => nomatch h), by simp⟩
  · simp [Value.cells] at hcs
    obtain ⟨rfl, rfl, rfl⟩ := hcs
    have hlm : len ≤ m := by rw [hmm]; split <;> omega
    simp only [Prod.mk.injEq] at hx
    have := sized_slice hsz hj (hd.trans (by rw [hx.1])) ht
    simp only [List.length_map, List.length_range, reachBytes] at this
    have h8 : (len + (m - len)) * (8 * ks.length) ≤ (len + (m - len)) * P.bytesOf e := Nat.mul_le_mul_left _ hb
    have h9 : len * (8 * ks.length) ≤ (len + (m - len)) * (8 * ks.length) := Nat.mul_le_mul_right _ (by omega)
    refine ⟨(fun h => nomatch h), fun ad h i hi j' k hjk => ?_, by omega⟩
    injection h with h
    subst h
    obtain ⟨ys, n, _, _, _, hfl⟩ := hel i (by omega)
    have hjl : j' < ks.length := (List.getElem?_eq_some_iff.1 hjk).1
    have hjf : j' < fs.size := by omega
    obtain ⟨v, y, hcell, _, ht'⟩ := hfl j' fs[j'] (Array.getElem?_eq_getElem hjf)
    have e1 : ((fs.toList.map fun f => P.underlying f.type))[j']? = some (P.underlying fs[j'].type) := by simp [hjf]
    rw [hk, List.getElem?_map, hjk] at e1
    simp only [Option.map_some, Option.some.injEq] at e1
    obtain ⟨z, hz, _, hw⟩ := DataW.trod_int e1.symm ht'
    injection hz with hz
    subst hz
    exact ⟨z, by rw [hn]; exact hcell, hw⟩
end
end Go.Proofs.Yteoebfjhadmnbaa
/- Slices of floats that come in: opened. -/
namespace Go.Proofs.Yteoebfjhadmnbaa
open Go.ChangeShapes Go.WideShapes Go.RowKit Go.Deep
set_option linter.unusedVariables false
section
variable {P : Program} {H : Type} {enc : TypeId × Value → H} {w : World} {base : Nat} {spare : Nat → Bool} {held : Bool}
theorem float_field {t : TypeId} {n : Nat} {v : Value} {k : FloatKind} {y : DataW H × List MemPlace} (ht : P.underlying t = some (.float k)) (h : DataW.trod enc P w base spare held n t [v] = some y) : ∃ b, v = .float k b ∧ (Lit.float k b).wf = true := by
  cases n with
  | zero => simp [DataW.trod] at h
  | succ n =>
    simp only [DataW.trod, ht] at h
    cases v <;> simp at h
    rename_i k' b
    obtain ⟨⟨rfl, hw⟩, -⟩ := h
    exact ⟨b, rfl, hw⟩
theorem open_floats {ts : List TypeId} {ds : List (DataW H)} {j : Nat} {t e : TypeId} {A : Option Addr} {len cap : Nat} {d : DataW H} {p : List MemPlace} (hsz : (DataW.weightsEach P ts ds).all (· ≤ reachBytes) = true) (hj : ts[j]? = some t) (hd : ds[j]? = some d)
    (ht : P.underlying t = some (.slice e)) (he : P.underlying e = some (.float .f64)) (hc : P.cellsOf e = 1) (hb : P.bytesOf e = 8) (h : DataW.Trod enc P w base spare held t (.slice A len cap) d p) :
    ∃ l : List Nat, l.length = len ∧ LiesF w (.slice A l.length cap) l ∧ l.length * 8 ≤ 140737488351232 := by
  obtain ⟨fuel, hf⟩ := h
  rcases open_slice1 ht hc hf with ⟨hcs, hx⟩ | ⟨a, l, c, m, n, V, D, Pl, hcs, _, hl, hm, hmm, hx, hel⟩
  · simp [Value.cells] at hcs
    obtain ⟨rfl, rfl, rfl⟩ := hcs
    exact ⟨[], rfl, ⟨none, 0, rfl, Nat.le_refl _, fun _ => rfl, (fun x hx => nomatch hx), fun j hj => by simp at hj⟩, by simp⟩
  · simp [Value.cells] at hcs
    obtain ⟨rfl, rfl, rfl⟩ := hcs
    have hlm : len ≤ m := by rw [hmm]; split <;> omega
    simp only [Prod.mk.injEq] at hx
    have hz := sized_slice hsz hj (hd.trans (by rw [hx.1])) ht
    rw [hb] at hz
    simp only [List.length_map, List.length_range, reachBytes] at hz
    obtain ⟨B, hB⟩ := choose_lt (n := m) (α := Nat) (p := fun i b => V i = .float .f64 b ∧ (Lit.float .f64 b).wf = true) (fun i hi => float_field he (hel i hi).2)
    refine ⟨(List.range len).map B, by simp, ⟨some a, cap, rfl, by simp; omega, (fun h => nomatch h), fun x hx2 => ?_, fun j hj2 => ?_⟩, by simp; omega⟩
    · obtain ⟨i, hi, rfl⟩ := List.mem_map.1 hx2
      have := (hB i (by have := List.mem_range.1 hi; omega)).2
      simpa [Lit.wf, FloatKind.format, Ieee.double, Ieee.Format.width] using this
    · simp only [List.length_map, List.length_range] at hj2
      have h1 := (hel j (by omega)).1
      rw [(hB j (by omega)).1] at h1
      have hs := spotless h1
      have h0 := (hel 0 (by omega)).1
      have hs0 := spotless h0
      have e1 : a = ⟨a.block, a.off, none⟩ := by
        have : a.add 0 = a := by unfold Addr.add; rw [if_pos rfl]
        rw [this] at hs0
        simpa using hs0
      refine ⟨a.block, a.off, by rw [← e1], ?_⟩
      rw [← hs, h1, List.getD_eq_getElem?_getD]
      simp [hj2]
end
end Go.Proofs.Yteoebfjhadmnbaa
/- The law StatsFits: its statement out of its walk. Whatever the input, it answers true, and the input reads as before. -/
namespace Go.Proofs.Yteoebfjhadmnbaa.statsFits
open Go.ChangeShapes Go.WideShapes Go.ChangeAt Go.RowKit Go.Deep
set_option linter.unusedVariables false
theorem own : ownKnob Try.prog.godebug = none := by kernel_rfl
theorem laidOut : laidOutB Try.prog = true := by kernel_rfl
set_option maxRecDepth 100000 in
theorem lifted (os : Os) (started : os.Started) (H : Type) (enc : TypeId × Value → H) :
    ReturnsInHanded {} Try.checked os 5 .any (Rows.statsFitsSpec.pre6 enc Try.prog Try.f5 Rows.statsFitsRow.domain false) (Rows.statsFitsSpec.post enc Try.prog Try.f5 false true false false) := by
  refine returnsInHanded_of_change_sized (C := Try.checked) own started (by kernel_rfl) Try.func5
    (ChangeSpec.witness6 (enc := enc) (C := Try.checked) false ⟨#[], #[.slice none 0 0, .slice none 0 0], []⟩ 8 (by kernel_rfl) (by kernel_rfl) (by kernel_rfl) (by kernel_rfl)) ?_
  intro W base args ds gs before hval0 hW hcnd hsz0 _
  have hval : ∀ (j : Nat) t v, Try.f5.params[j]? = some t → args[j]? = some v → Value.okWide Try.prog W .any base t v := hval0
  have hsz : (DataW.weightsEach Try.prog (Try.f5.params.toList ++ Rows.statsFitsSpec.plain.varTypes Try.prog) (ds ++ gs)).all (· ≤ reachBytes) = true := hsz0
  have hW' := hW
  obtain ⟨p, q, hA0, hV, rfl, hfz, hnd⟩ := hW
  have hA : DataW.TrodAll enc Try.prog W 0 (fun _ => true) true Try.f5.params.toList args.toList ds p := hA0
  rw [Try.params5] at hA hval hsz
  obtain ⟨v0, vs0, d0, ds0, p0, q0, hargs, rfl, rfl, h0, r0⟩ := trodAll_cons hA
  obtain ⟨v1, vs1, d1, ds1, p1, q1, rfl, rfl, rfl, h1, r1⟩ := trodAll_cons r0
  obtain ⟨rfl, rfl, rfl⟩ := trodAll_nil r1
  obtain rfl : args = #[v0, v1] := by cases args; simp_all
  obtain ⟨rfl, rfl⟩ := trodVars_none hV
  obtain ⟨a0, len0, cap0, rfl⟩ := okWide_slice Try.underlying48 (hval 0 48 v0 rfl rfl)
  have k0 := h0
  have lt0 : ∀ x ∈ p0, x.block < W.heap.size := by obtain ⟨m, hm⟩ := k0; exact DataW.trod_lt m _ _ _ hm
  obtain ⟨l0, rfl, w0, z0⟩ := open_floats hsz (j := 0) rfl rfl Try.underlying48 Try.underlying36 (by kernel_rfl) (by kernel_rfl) h0
  obtain ⟨a1, len1, cap1, rfl⟩ := okWide_slice Try.underlying48 (hval 1 48 v1 rfl rfl)
  have k1 := h1
  have lt1 : ∀ x ∈ p1, x.block < W.heap.size := by obtain ⟨m, hm⟩ := k1; exact DataW.trod_lt m _ _ _ hm
  obtain ⟨l1, rfl, w1, z1⟩ := open_floats hsz (j := 1) rfl rfl Try.underlying48 Try.underlying36 (by kernel_rfl) (by kernel_rfl) h1
  clear hA0 hval0 hsz0
  refine (statsFits_law known_b w0 w1 (by omega) (by omega)).mono fun e W' ⟨he, bel⟩ => ?_
  subst he
  exact ⟨_, rfl, _, _, _, [], _, [], hW', trodAll_mk1 (shut_bool Try.underlying4 _), (trodAll_cons_mk (Below.trod laidOut (by kernel_rfl) (of_decide_eq_true (by kernel_rfl)) k0 bel lt0) (trodAll_cons_mk (Below.trod laidOut (by kernel_rfl) (of_decide_eq_true (by kernel_rfl)) k1 bel lt1) trodAll_mk0)), rfl, bel.frame _, fun h => by cases h⟩

theorem proved : Rows.StatsFitsSaid :=
  OpenClaim.holds_of_wide 5 Try.f5 rfl rfl rfl rfl rfl rfl rfl ⟨rfl, rfl, rfl, rfl, rfl⟩ rfl rfl rfl rfl rfl (by kernel_rfl) Try.func5 (by kernel_rfl)
    (of_decide_eq_true (by kernel_rfl)) (by unfold Func.isWrapper; first | (rw [if_pos (by decide +kernel)]; kernel_rfl) | (rw [if_neg (by decide +kernel)]; exact ⟨rfl, rfl⟩))
    (fun os started H enc _ => lifted os started H enc)
end Go.Proofs.Yteoebfjhadmnbaa.statsFits
