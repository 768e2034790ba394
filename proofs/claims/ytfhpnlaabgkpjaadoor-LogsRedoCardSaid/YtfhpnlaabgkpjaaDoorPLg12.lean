/- works, noReads, by contract. -/
import Derived.Deep.DeepCutAuto
import Derived.Test.YtfhpnlaabgkpjaaDoorPLg6
import Derived.Test.YtfhpnlaabgkpjaaDoorPLg7
import Derived.Test.YtfhpnlaabgkpjaaDoorPLg11
namespace Go.Proofs.YtfhpnlaabgkpjaaDoor
open Go.RowKit Go.Shelf
set_option maxHeartbeats 8000000
set_option linter.unusedVariables false
set_option linter.unusedSimpArgs false

theorem Tab.frs {w w' : World} {F F' : Nat → Prop} (h : Tab w) (hf : Fr F w F' w') (h1 : ¬ F 1) : Tab w' := h.keep (hf.block 1 h.lt h1)
theorem Tab.off {w w' : World} {F F' : Nat → Prop} (h : Tab w) (hf : Fr F w F' w') (h1 : ¬ F 1) : ¬ F' 1 := fun h' => (hf.new 1 h').elim h1 fun h2 => by have := h.lt; omega
/-- a read log and a redo log of two entries at the most, in one world that began at w -/
def WK (w wr : World) (r q : Nat) (l L : List (Int × Int)) : Prop := ∃ F H, RdW wr r F 2 l ∧ RoW wr q H 2 (redo L) (pasts L) ∧ (∀ k, F k → ¬ H k) ∧ (∀ k, F k → w.heap.size ≤ k) ∧ (∀ k, H k → w.heap.size ≤ k) ∧ Fr (fun _ => False) w (fun _ => False) wr ∧ Tab w
section
variable {w wr : World} {r q : Nat} {l L : List (Int × Int)}
theorem WK.tab (h : WK w wr r q l L) : Tab wr := by
  obtain ⟨F, H, _, _, _, _, _, f, hT⟩ := h
  exact hT.frs f fun h => h
theorem WK.add (h : WK w wr r q l L) (hl : l.length ≤ 2) (a x : Int) : Calls Tryd.prog 35 #[.pointer (some ⟨r, 0, none⟩), .int .u64 a, .int .u64 x] wr fun e w' => e = .returned (.int .i64 (if l.length < 2 then 0 else 5)) ∧ WK w w' r q (if l.length < 2 then l ++ [(a, x)] else l) L := by
  obtain ⟨F, H, h1, h2, hd, hF, hH, f, hT⟩ := h
  refine (radd_b (a := a) (x := x) h1 (by decide) hl).mono ?_
  rintro _ w1 ⟨rfl, F', h1', f1⟩
  refine ⟨rfl, F', H, h1', h2.fr f1 fun k hk hf => hd k hf hk, f1.apart1 hd h2.lt, fun k hk => (f1.new k hk).elim (hF k) fun hz => Nat.le_trans f.size hz, hH, f.beside f1 hF, hT⟩
theorem WK.put {a x : Int} {c : Int} {Q : Prop} (h : WK w wr r q l L)
    (hp : ∀ H, RoW wr q H 2 (redo L) (pasts L) → ¬ H 1 → Calls Tryd.prog 16 #[.pointer (some ⟨q, 0, none⟩), .int .u64 a, .int .u64 x] wr fun e w' => e = .returned (.int .i64 c) ∧ ∃ F', RoW w' q F' 2 (rput (redo L) (a, x)) (pasts L ++ [wasOf (redo L) (a, x)]) ∧ Fr H wr F' w') :
    Calls Tryd.prog 16 #[.pointer (some ⟨q, 0, none⟩), .int .u64 a, .int .u64 x] wr fun e w' => e = .returned (.int .i64 c) ∧ WK w w' r q l (L ++ [(a, x)]) := by
  obtain ⟨F, H, h1, h2, hd, hF, hH, f, hT⟩ := h
  refine (hp H h2 fun h1 => by have := hH 1 h1; have := hT.lt; omega).mono ?_
  rintro _ w1 ⟨rfl, H', h2', f1⟩
  refine ⟨rfl, F, H', h1.fr f1 fun k hk hh => hd k hk hh, by rw [redo_snoc, pasts_snoc]; exact h2', fun k hk hh => (f1.new k hh).elim (hd k hk) fun hz => by have := h1.lt k hk; omega, hF, fun k hk => (f1.new k hk).elim (hH k) fun hz => Nat.le_trans f.size hz, f.beside f1 hH, hT⟩
theorem WK.drewN (h : WK w wr r q l L) (n : Nat) : WK w (wr.drewN n) r q l L := by
  obtain ⟨F, H, h1, h2, hd, hF, hH, f, hT⟩ := h
  exact ⟨F, H, h1.drewN n, h2.drewN n, hd, hF, hH, f.drewN n, hT⟩
theorem WK.rd (h : WK w wr r q l L) : ∃ F, RdW wr r F 2 l := by obtain ⟨F, H, h1, _⟩ := h; exact ⟨F, h1⟩
theorem WK.ro (h : WK w wr r q l L) : ∃ H, RoW wr q H 2 (redo L) (pasts L) := by obtain ⟨F, H, _, h1, _⟩ := h; exact ⟨H, h1⟩
theorem WK.fr_ (h : WK w wr r q l L) : Fr (fun _ => False) w (fun _ => False) wr := by obtain ⟨F, H, _, _, _, _, _, f, _⟩ := h; exact f
end
set_option maxRecDepth 100000 in
theorem works_b {w : World} (hT : Tab w) : Calls Tryd.prog 9 #[] w fun e w' => e = .returned (.bool true) ∧ Fr (fun _ => False) w (fun _ => False) w' := by
  have N1 := Lib.hid (newReads_b (w := w) (most := 2) (by decide))
  replace hT := Lib.hid hT
  go_enter Tryd.func9, Tryd.ntmps9
  go_wp2_with fail
  refine N1.out.mono ?_
  rintro _ w1 ⟨r, F, rfl, h1, f1⟩
  have N2 := Lib.hid (newRedo_b (w := w1) (most := 2) (by decide))
  replace h1 := Lib.hid h1
  replace f1 := Lib.hid f1
  clear N1
  go_wp2_with fail
  refine N2.out.mono ?_
  rintro _ w2 ⟨q, H, rfl, g1, f2⟩
  have K0 : Hid (WK w w2 r q [] []) := Lib.hid ⟨F, H, h1.out.fr f2 fun _ _ h => h, g1, fun k hk hh => (f2.new k hh).elim (fun h => h) fun h => by have := h1.out.lt k hk; omega,
    fun k hk => (f1.out.new k hk).elim (fun h => h.elim) id, fun k hk => (f2.new k hk).elim (fun h => h.elim) fun h => Nat.le_trans f1.out.size h, ((f1.out.into (G := fun _ => False) fun _ h => h.elim)).beside f2 fun _ h => h.elim, hT.out⟩
  clear N2 f2 h1 f1 g1 hT
  go_wp2_with fail
  refine num_b.mono ?_
  rintro _ u ⟨rfl, rfl⟩
  go_wp2_with fail
  refine num_b.mono ?_
  rintro _ u ⟨rfl, rfl⟩
  go_wp2_with fail
  refine (K0.out.add (by decide) 5 1).mono ?_
  rintro _ w3 ⟨rfl, K1⟩
  replace K1 : Hid (WK w w3 r q [(5, 1)] []) := Lib.hid K1
  clear K0
  go_wp2_with fail
  refine (K1.out.add (by decide) 5 1).mono ?_
  rintro _ w4 ⟨rfl, K2⟩
  replace K2 : Hid (WK w w4 r q [(5, 1), (5, 1)] []) := Lib.hid K2
  clear K1
  go_wp2_with fail
  refine (K2.out.add (by decide) 6 2).mono ?_
  rintro _ w5 ⟨rfl, K3⟩
  replace K3 : Hid (WK w w5 r q [(5, 1), (5, 1)] []) := Lib.hid K3
  clear K2
  go_wp2_with fail
  refine (K3.out.put (a := 5) (x := 1) (c := 0) (Q := True) fun H g h1 => wput_new K3.out.tab g h1 (by decide) (by decide) (by decide) (by decide)).mono ?_
  rintro _ w6 ⟨rfl, K4⟩
  replace K4 : Hid (WK w w6 r q [(5, 1), (5, 1)] [(5, 1)]) := Lib.hid K4
  clear K3
  go_wp2_with fail
  refine (K4.out.put (a := 6) (x := 2) (c := 0) (Q := True) fun H g h1 => wput_new K4.out.tab g h1 (by decide) (by decide) (by decide) (by decide)).mono ?_
  rintro _ w7 ⟨rfl, K5⟩
  replace K5 : Hid (WK w w7 r q [(5, 1), (5, 1)] [(5, 1), (6, 2)]) := Lib.hid K5
  clear K4
  go_wp2_with fail
  refine (K5.out.put (a := 5) (x := 3) (c := 0) (Q := True) fun H g h1 => wput_over K5.out.tab g (by decide) (by decide) (by decide)).mono ?_
  rintro _ w8 ⟨rfl, K6⟩
  replace K6 : Hid (WK w w8 r q [(5, 1), (5, 1)] [(5, 1), (6, 2), (5, 3)]) := Lib.hid K6
  clear K5
  obtain ⟨H8, g8⟩ := K6.out.ro
  have P8 := Lib.hid (wput_full (a := 7) (x := 4) K6.out.tab g8 (by decide) (by decide) (by decide) (by decide))
  clear g8
  go_wp2_with fail
  refine P8.out.mono ?_
  rintro _ w9 ⟨rfl, n9, rfl⟩
  have K7 := Lib.hid (K6.out.drewN n9)
  clear K6 P8
  generalize w8.drewN n9 = w9 at *
  obtain ⟨H9, g9⟩ := K7.out.ro
  have Q9 := Lib.hid (wget_b (a := 5) K7.out.tab g9 (by decide))
  rw [show rget (redo [(5, 1), (6, 2), (5, 3)]) 5 = (3, true) by decide] at Q9
  clear g9
  go_wp2_with fail
  refine Q9.out.mono ?_
  rintro _ w10 ⟨rfl, n10, rfl⟩
  have K8 := Lib.hid (K7.out.drewN n10)
  clear K7 Q9
  generalize w9.drewN n10 = w10 at *
  obtain ⟨H10, g10⟩ := K8.out.ro
  obtain ⟨F10, f10⟩ := K8.out.rd
  have L10 := Lib.hid (rlen_b f10)
  have M10 := Lib.hid (wmark_b g10)
  have N10 := Lib.hid (wlen_b g10)
  have K9 := Lib.hid K8.out.fr_
  rw [show (pasts [(5, 1), (6, 2), (5, 3)]).length = 3 by decide] at M10
  rw [show (redo [(5, 1), (6, 2), (5, 3)]).length = 2 by decide] at N10
  clear g10 f10 K8
  iterate 3
    go_wp2_with fail
    refine num_b.mono ?_
    rintro _ u ⟨rfl, rfl⟩
  go_wp2_with fail
  refine L10.out.mono ?_
  rintro _ u ⟨rfl, rfl⟩
  iterate 4
    go_wp2_with fail
    refine num_b.mono ?_
    rintro _ u ⟨rfl, rfl⟩
  go_wp2_with fail
  refine M10.out.mono ?_
  rintro _ u ⟨rfl, rfl⟩
  go_wp2_with fail
  refine N10.out.mono ?_
  rintro _ u ⟨rfl, rfl⟩
  go_wp2
  go_ret
  exact ⟨rfl, K9.out⟩
set_option maxRecDepth 100000 in
theorem noReads_b {w : World} {p : Option Addr} (h : RdN w p) : Calls Tryd.prog 8 #[.pointer p] w fun e w' => e = .returned (.bool true) ∧ Fr (fun _ => False) w (fun _ => False) w' := by
  have N1 := Lib.hid (nat_b h)
  have H := Lib.hid h
  have ce := fun w => cell_eql 0 0 0 0 w
  simp only [decide_true, Bool.and_self] at ce
  clear h
  go_enter Tryd.func8, Tryd.ntmps8
  go_wp2_with fail
  refine N1.out.mono ?_
  rintro _ w1 ⟨rfl, f1⟩
  obtain ⟨w2, hw2⟩ : ∃ u, Hid (u = w1.alloc (.cells #[.int .u64 0, .int .u64 0] 55)) := ⟨_, Lib.hid rfl⟩
  have f2 : Hid (Fr (fun _ => False) w (fun _ => False) w2) := Lib.hid (by rw [hw2.out]; exact f1.alloc _)
  have b2 : Hid (Blk w2 w1.heap.size 55 #[.int .u64 0, .int .u64 0]) := Lib.hid (by rw [hw2.out]; exact Blk.new _ _ _)
  obtain ⟨w3, hw3⟩ : ∃ u, Hid (u = w2.alloc (.cells #[.int .u64 1] 38)) := ⟨_, Lib.hid rfl⟩
  have f3 : Hid (Fr (fun _ => False) w2 (fun _ => False) w3) := Lib.hid (by rw [hw3.out]; exact (Fr.refl _ w2).alloc _)
  have l3 : Hid (Lies w3 (.slice (some ⟨w2.heap.size, 0, none⟩) 1 1) [1]) := Lib.hid (by rw [hw3.out]; exact Lies.new w2 [1] (by decide))
  have H3 := Lib.hid (H.out.fr (f2.out.trans f3.out))
  clear f1 N1
  go_upto_region 2 with (fail)
  rw [← hw2.out]
  go_wp2_with fail
  rw [← hw3.out]
  refine (stale_core (cs := [1]) (l := []) (fun W hf => nall_b (H3.out.fr hf)) (by simp) (by simp) l3.out (by decide)).mono ?_
  rw [show stale [1] [] = (0, false) from rfl]
  rintro _ w4 ⟨rfl, f4⟩
  have H4 := Lib.hid (H3.out.fr f4)
  have b4 := Lib.hid (f4.blk (f3.out.blk b2.out fun h => h) fun h => h)
  have v0 : w4.cell? ⟨w1.heap.size, 0, none⟩ = some (.int .u64 0) := b4.out.cell 0
  have v1 : w4.cell? ⟨w1.heap.size, 1, none⟩ = some (.int .u64 0) := b4.out.cell 1
  have f4w := Lib.hid ((f2.out.trans f3.out).trans f4)
  clear f4 b4 b2 f2 f3 l3 H3 H hw2 hw3
  generalize w1.heap.size = bb at *
  have A4 := Lib.hid (nadd_b (a := 0) (x := 0) H4.out)
  have C4 := Lib.hid (ncut_b H4.out)
  have L4 := Lib.hid (nlen_b H4.out)
  have S4 := Lib.hid (nall_b H4.out)
  go_wp2_with fail
  refine A4.out.mono ?_
  rintro _ u ⟨rfl, rfl⟩
  go_wp2_with fail
  refine num_b.mono ?_
  rintro _ u ⟨rfl, rfl⟩
  go_wp2_with fail
  refine C4.out.mono ?_
  rintro _ u ⟨rfl, rfl⟩
  go_wp2_with fail
  refine num_b.mono ?_
  rintro _ u ⟨rfl, rfl⟩
  go_wp2_with fail
  refine L4.out.mono ?_
  rintro _ u ⟨rfl, rfl⟩
  go_wp2_with fail
  refine S4.out.mono ?_
  rintro _ w5 ⟨b, rfl, s5, f5⟩
  have W5 := Lib.hid (walk_b (n := 0) s5 (Below.refl _ _) (LiesC.nil w5) (by simp))
  have H5 := Lib.hid (H4.out.fr f5)
  have f5w := Lib.hid (f4w.out.trans f5)
  clear s5 f5 A4 C4 L4 S4 H4 f4w v0 v1
  go_wp2_with fail
  refine W5.out.mono ?_
  rintro _ w6 ⟨rfl, f6⟩
  have N6 := Lib.hid (ncopy_b (H5.out.fr f6))
  have f6w := Lib.hid (f5w.out.trans f6)
  clear f6 W5 H5
  go_wp2_with fail
  refine N6.out.mono ?_
  rintro _ u ⟨rfl, rfl⟩
  go_wp2
  go_ret
  exact ⟨rfl, f6w.out⟩
end Go.Proofs.YtfhpnlaabgkpjaaDoor
/- Slices of structs some of whose fields are slices of words: opened field by field. -/
namespace Go.Proofs.YtfhpnlaabgkpjaaDoor
open Go.ChangeShapes Go.WideShapes Go.RowKit Go.Deep
set_option linter.unusedVariables false
section
variable {P : Program} {H : Type} {enc : TypeId × Value → H} {w : World} {base : Nat} {spare : Nat → Bool} {held : Bool}
theorem weights_all {e : TypeId} {d : DataW H} : ∀ {l : List (DataW H)}, d ∈ l → ∀ x ∈ d.weights P e, x ∈ DataW.weightsAll P e l
  | y :: l, hd, x, hx => by
    rw [DataW.weightsAll]
    rcases List.mem_cons.1 hd with rfl | h
    · exact List.mem_append_left _ hx
    · exact List.mem_append_right _ (weights_all h x hx)
theorem weights_each {d : DataW H} {t : TypeId} : ∀ {ts : List TypeId} {l : List (DataW H)} {j : Nat}, ts[j]? = some t → l[j]? = some d → ∀ x ∈ d.weights P t, x ∈ DataW.weightsEach P ts l
  | t' :: ts, y :: l, 0, ht, hd, x, hx => by
    simp only [List.getElem?_cons_zero, Option.some.injEq] at ht hd
    subst ht hd
    rw [DataW.weightsEach]
    exact List.mem_append_left _ hx
  | t' :: ts, y :: l, j + 1, ht, hd, x, hx => by
    rw [DataW.weightsEach]
    exact List.mem_append_right _ (weights_each (by simpa using ht) (by simpa using hd) x hx)
  | [], _, _, ht, _, _, _ => by simp at ht
  | _ :: _, [], _, _, hd, _, _ => by simp at hd
theorem open_fields {ts : List TypeId} {ds : List (DataW H)} {j : Nat} {t e : TypeId} {A : Option Addr} {len cap : Nat} {d : DataW H} {p : List MemPlace} (hsz : (DataW.weightsEach P ts ds).all (· ≤ reachBytes) = true) (hj : ts[j]? = some t) (hd : ds[j]? = some d)
    {fs : Array Field} (ht : P.underlying t = some (.slice e)) (he : P.underlying e = some (.struct fs)) (hone : oneCellFields P fs = true) (hC : P.cellsOf e = fs.size)
    (h : DataW.Trod enc P w base spare held t (.slice A len cap) d p) : (A = none → len = 0 ∧ cap = 0) ∧ len * P.bytesOf e ≤ 140737488351232 ∧
      ∀ ad, A = some ad → ∀ i, i < len → ∀ (j : Nat) (f : Field), fs[j]? = some f → ∃ v y n, w.cell? (ad.add (i * fs.size + j)) = some v ∧ DataW.trod enc P w base spare held n f.type [v] = some y ∧ ∀ x ∈ y.1.weights P f.type, x ≤ 140737488351232 := by
  obtain ⟨fuel, hf⟩ := h
  have hall : ∀ x ∈ DataW.weightsEach P ts ds, x ≤ 140737488351232 := fun x hx => by
    have := List.all_eq_true.1 hsz x hx
    exact of_decide_eq_true this
  have hdw := weights_each (P := P) hj hd
  rcases open_slice_fields ht he hone hC hf with ⟨hcs, hx⟩ | ⟨a, l, c, m, D, Pl, hcs, _, hl, hm, hmm, hx, hel⟩
  · simp [Value.cells] at hcs
    obtain ⟨rfl, rfl, rfl⟩ := hcs
    exact ⟨fun _ => ⟨rfl, rfl⟩, by simp, (fun ad h => nomatch h)⟩
  · simp [Value.cells] at hcs
    obtain ⟨rfl, rfl, rfl⟩ := hcs
    have hlm : len ≤ m := by rw [hmm]; split <;> omega
    simp only [Prod.mk.injEq] at hx
    have hw : d.weights P t = (((List.range len).map D).length + ((List.range (m - len)).map fun j => D (len + j)).length) * P.bytesOf e :: (DataW.weightsAll P e ((List.range len).map D) ++ DataW.weightsAll P e ((List.range (m - len)).map fun j => D (len + j))) := by
      rw [hx.1, DataW.weights]
      simp only [ht]
    refine ⟨(fun h => nomatch h), ?_, fun ad h i hi j' f hf' => ?_⟩
    · have := hall _ (hdw _ (by rw [hw]; exact List.mem_cons_self))
      simp only [List.length_map, List.length_range] at this
      exact Nat.le_trans (Nat.mul_le_mul_right _ (by omega)) this
    · injection h with h
      subst h
      obtain ⟨ys, n, hD, _, hlen, hfl⟩ := hel i (by omega)
      obtain ⟨v, y, hcell, hy, ht'⟩ := hfl j' f hf'
      refine ⟨v, y, n, hcell, ht', fun x hx2 => hall x (hdw x ?_)⟩
      rw [hw]
      refine List.mem_cons_of_mem _ (List.mem_append_left _ (weights_all (d := D i) (List.mem_map.2 ⟨i, List.mem_range.2 hi, rfl⟩) x ?_))
      rw [hD, DataW.weights]
      simp only [he]
      exact weights_each (j := j') (by simpa using congrArg (Option.map Field.type) hf') (by rw [List.getElem?_map, hy]; rfl) x hx2
theorem words_field {t e : TypeId} {n : Nat} {v : Value} {y : DataW H × List MemPlace} (ht : P.underlying t = some (.slice e)) (he : P.underlying e = some (.int .u64)) (hc : P.cellsOf e = 1) (hb : P.bytesOf e = 8)
    (h : DataW.trod enc P w base spare held n t [v] = some y) (hw : ∀ x ∈ y.1.weights P t, x ≤ 140737488351232) : ∃ A l c, v = .slice A l.length c ∧ WordsIn w A l c := by
  rcases open_ints ht he hc h with ⟨hcs, hx⟩ | ⟨a, l, c, zs, hcs, _, hl, hm, hz, hx, hcell, hwz⟩
  · injection hcs with hcs
    subst hcs
    exact ⟨none, [], 0, rfl, fun _ => ⟨rfl, rfl⟩, (fun ad h => nomatch h), by simp, by simp, by simp⟩
  · injection hcs with hcs
    subst hcs
    have hlz : l ≤ zs.length := by rw [hz]; split <;> omega
    have h1 : y.1 = .slice (lits .u64 (zs.take l)) (lits .u64 (zs.drop l)) := by rw [hx]
    have := hw _ (by rw [h1, DataW.weights]; simp only [ht]; exact List.mem_cons_self)
    rw [hb] at this
    simp only [lits, List.length_map, List.length_take, List.length_drop] at this
    have el : (zs.take l).length = l := by rw [List.length_take]; omega
    refine ⟨some a, zs.take l, c, by rw [el], (fun h => nomatch h), fun ad h i hi => ?_, fun z hz => ?_, by rw [el]; omega, by rw [el]; omega⟩
    · injection h with h
      subst h
      rw [el] at hi
      rw [hcell i (by omega)]
      simp [List.getD_eq_getElem?_getD, hi]
    · have := hwz z (List.mem_of_mem_take hz)
      simp [Lit.wf, IntKind.min, IntKind.max, IntKind.signed, IntKind.bits] at this
      omega
theorem int_field {t : TypeId} {n : Nat} {v : Value} {k : IntKind} {y : DataW H × List MemPlace} (ht : P.underlying t = some (.int k)) (h : DataW.trod enc P w base spare held n t [v] = some y) : ∃ z, v = .int k z ∧ (Lit.int k z).wf = true := by
  obtain ⟨z, hz, _, hw⟩ := DataW.trod_int ht h
  injection hz with hz
  exact ⟨z, hz, hw⟩
end
end Go.Proofs.YtfhpnlaabgkpjaaDoor
/- LogsReads: what lies in memory between two steps; the steps as they come in. -/
namespace Go.Proofs.YtfhpnlaabgkpjaaDoor
open Go.RowKit Go.Shelf
set_option maxHeartbeats 8000000
set_option linter.unusedVariables false
set_option linter.unusedSimpArgs false

/-- the steps that came in -/
structure OpsIn (w : World) (A : Option Addr) (n c : Nat) : Prop where
  nil : A = none → n = 0 ∧ c = 0
  len : n * 64 ≤ 140737488351232
  cell : ∀ ad, A = some ad → ∀ i, i < n → ∃ (kd on a x m : Int) (B : Option Addr) (cs : List Int) (cb : Nat), (w.cell? (ad.add (i * 6)) = some (.int .i64 kd) ∧ w.cell? (ad.add (i * 6 + 1)) = some (.int .i64 on) ∧ w.cell? (ad.add (i * 6 + 2)) = some (.int .u64 a) ∧
    w.cell? (ad.add (i * 6 + 3)) = some (.int .u64 x) ∧ w.cell? (ad.add (i * 6 + 4)) = some (.int .i64 m) ∧ w.cell? (ad.add (i * 6 + 5)) = some (.slice B cs.length cb)) ∧
    (-9223372036854775808 ≤ kd ∧ kd ≤ 9223372036854775807) ∧ (-9223372036854775808 ≤ on ∧ on ≤ 9223372036854775807) ∧ (0 ≤ a ∧ a ≤ 18446744073709551615) ∧ (-9223372036854775808 ≤ m ∧ m ≤ 9223372036854775807) ∧ Lies w (.slice B cs.length cb) cs ∧ cs.length * 8 ≤ 140737488351232
def upd {α : Type} (f : Nat → α) (n : Nat) (v : α) : Nat → α := fun j => if j = n then v else f j
theorem upd_self {α : Type} (f : Nat → α) (n : Nat) (v : α) : upd f n v n = v := if_pos rfl
theorem upd_ne {α : Type} (f : Nat → α) {n j : Nat} (v : α) (h : j ≠ n) : upd f n v j = f j := if_neg h
def ptr2 (r : Nat → Nat) : Array Value := #[.pointer (some ⟨r 0, 0, none⟩), .pointer (some ⟨r 1, 0, none⟩)]
theorem ptr2_get (r : Nat → Nat) {j : Nat} (h : j < 2) : (ptr2 r)[j]? = some (.pointer (some ⟨r j, 0, none⟩)) := by
  rcases (by omega : j = 0 ∨ j = 1) with rfl | rfl <;> rfl
theorem ptr2_set (r : Nat → Nat) {n : Nat} (h : n < 2) (s : Nat) : (ptr2 r).setIfInBounds n (.pointer (some ⟨s, 0, none⟩)) = ptr2 (upd r n s) := by
  rcases (by omega : n = 0 ∨ n = 1) with rfl | rfl <;> rfl
structure LS (w wr : World) (bo bq : Nat) (r q : Nat → Nat) (mm : Nat) (X : Nat → Nat → Prop) (l : Nat → List (Int × Int)) : Prop where
  pd : ∀ j, j < 2 → PD wr (X j) (r j) (q j) mm (l j)
  dis : ∀ j k, j < 2 → k < 2 → j ≠ k → ∀ b, X j b → ¬ X k b
  ow : Blk wr bo 33 (ptr2 r)
  rf : Blk wr bq 37 (ptr2 q)
  off : ∀ j, j < 2 → ∀ b, X j b → w.heap.size ≤ b ∧ b ≠ bo ∧ b ≠ bq
  go : w.heap.size ≤ bo
  gq : w.heap.size ≤ bq
  fr : Fr (fun _ => False) w (fun _ => False) wr
  tab : Tab w
section
variable {w wr w' : World} {bo bq : Nat} {r q : Nat → Nat} {mm n : Nat} {X : Nat → Nat → Prop} {l : Nat → List (Int × Int)}
theorem LS.new_ {F : Nat → Prop} (h : LS w wr bo bq r q mm X l) (hf : Fr (fun _ => False) wr F w') : LS w w' bo bq r q mm X l :=
  ⟨fun j hj => (h.pd j hj).new_ hf, h.dis, hf.blk h.ow fun h => h, hf.blk h.rf fun h => h, h.off, h.go, h.gq, h.fr.beside hf fun _ h => h.elim, h.tab⟩
theorem LS.drewN (h : LS w wr bo bq r q mm X l) (k : Nat) : LS w (wr.drewN k) bo bq r q mm X l := h.new_ ((Fr.refl (fun _ => False) wr).drewN k)
theorem LS.step (h : LS w wr bo bq r q mm X l) (hn : n < 2) {X' : Nat → Prop} {l' : List (Int × Int)} (hf : Fr (X n) wr X' w') (hp : PD w' X' (r n) (q n) mm l') : LS w w' bo bq r q mm (upd X n X') (upd l n l') := by
  have hge := h.fr.size
  have hlt := fun j (hj : j < 2) => (h.pd j hj).lt
  refine ⟨fun j hj => ?_, fun j k hj hk hjk b hb => ?_, hf.blk h.ow fun hb => ((h.off n hn _ hb).2.1) rfl, hf.blk h.rf fun hb => ((h.off n hn _ hb).2.2) rfl, fun j hj b hb => ?_, h.go, h.gq, h.fr.beside hf fun k hk => (h.off n hn k hk).1, h.tab⟩
  · by_cases e : j = n
    · subst e; rw [upd_self, upd_self]; exact hp
    · rw [upd_ne _ _ e, upd_ne _ _ e]; exact (h.pd j hj).fr hf fun b hb => h.dis j n hj hn e b hb
  · by_cases e : j = n
    · subst e
      rw [upd_self] at hb
      rw [upd_ne _ _ (Ne.symm hjk)]
      exact fun hk' => (hf.new b hb).elim (fun h1 => h.dis j k hj hk hjk b h1 hk') fun h1 => by have := hlt k hk b hk'; omega
    · rw [upd_ne _ _ e] at hb
      by_cases e2 : k = n
      · subst e2
        rw [upd_self]
        exact fun hk' => (hf.new b hk').elim (fun h1 => h.dis j k hj hk hjk b hb h1) fun h1 => by have := hlt j hj b hb; omega
      · rw [upd_ne _ _ e2]; exact h.dis j k hj hk hjk b hb
  · by_cases e : j = n
    · subst e
      rw [upd_self] at hb
      rcases hf.new b hb with h1 | h1
      · exact h.off j hj b h1
      · have := h.ow.lt; have := h.rf.lt
        exact ⟨by omega, by omega, by omega⟩
    · rw [upd_ne _ _ e] at hb; exact h.off j hj b hb
/-- a copy of the other pair in the place of one -/
theorem LS.copied (h : LS w wr bo bq r q mm X l) {m : Nat} (hn : n < 2) (hm : m < 2) {w1 w3 : World} {s s2 : Nat} {G1 G2 : Nat → Prop} (h1 : RdW w1 s G1 mm (l m)) (f1 : Fr (fun _ => False) wr G1 w1)
    (h3 : LgR w3 s2 G2 mm (l m)) (f3 : Fr (fun _ => False) (w1.setCell ⟨bo, n, none⟩ (.pointer (some ⟨s, 0, none⟩))) G2 w3) :
    LS w (w3.setCell ⟨bq, n, none⟩ (.pointer (some ⟨s2, 0, none⟩))) bo bq (upd r n s) (upd q n s2) mm (upd X n fun b => G1 b ∨ G2 b) (upd l n (l m)) := by
  have hbo := h.ow.lt
  have hbq := h.rf.lt
  have hge := h.fr.size
  have hoq : bo ≠ bq := h.ow.ne_ h.rf (by decide)
  have g1 : ∀ b, G1 b → wr.heap.size ≤ b ∧ b < w1.heap.size := fun b hb => ⟨(f1.new b hb).elim (fun h => h.elim) id, h1.lt b hb⟩
  have s2w : (w1.setCell ⟨bo, n, none⟩ (.pointer (some ⟨s, 0, none⟩))).heap.size = w1.heap.size := by simp [World.setCell]
  have g2 : ∀ b, G2 b → w1.heap.size ≤ b := fun b hb => (f3.new b hb).elim (fun h => h.elim) fun h => by rw [s2w] at h; exact h
  have f2 : Fr (fun b => b = bo) w1 (fun b => b = bo) (w1.setCell ⟨bo, n, none⟩ (.pointer (some ⟨s, 0, none⟩))) := (Fr.refl (fun b => b = bo) w1).set (p := ⟨bo, n, none⟩) (.inl rfl) _
  have f4 : Fr (fun b => b = bq) w3 (fun b => b = bq) (w3.setCell ⟨bq, n, none⟩ (.pointer (some ⟨s2, 0, none⟩))) := (Fr.refl (fun b => b = bq) w3).set (p := ⟨bq, n, none⟩) (.inl rfl) _
  have hs1 := f1.size
  have hs3 := f3.size
  have ow1 := f1.blk h.ow fun h => h
  have ow2 : Blk (w1.setCell ⟨bo, n, none⟩ (.pointer (some ⟨s, 0, none⟩))) bo 33 (ptr2 (upd r n s)) := by rw [← ptr2_set r hn]; exact ow1.set_ n _
  have rf3 := f3.blk (f2.blk (f1.blk h.rf fun h => h) (Ne.symm hoq)) fun h => h
  have pj : ∀ j, j < 2 → PD (w3.setCell ⟨bq, n, none⟩ (.pointer (some ⟨s2, 0, none⟩))) (X j) (r j) (q j) mm (l j) := fun j hj =>
    ((((h.pd j hj).new_ f1).fr f2 fun b hb => (h.off j hj b hb).2.1).new_ f3).fr f4 fun b hb => (h.off j hj b hb).2.2
  have hxl : ∀ j, j < 2 → ∀ b, X j b → b < wr.heap.size := fun j hj => (h.pd j hj).lt
  refine ⟨fun j hj => ?_, fun j k hj hk hjk b hb => ?_, f4.blk (f3.blk ow2 fun h => h) hoq, by rw [← ptr2_set q hn]; exact rf3.set_ n _, fun j hj b hb => ?_, h.go, h.gq,
    (((h.fr.beside f1 fun _ h => h.elim).beside f2 fun k hk => by rw [hk]; exact h.go).beside f3 fun _ h => h.elim).beside f4 fun k hk => by rw [hk]; exact h.gq, h.tab⟩
  · by_cases e : j = n
    · subst e
      rw [upd_self, upd_self, upd_self, upd_self]
      refine ⟨⟨G1, G2, rfl, ((h1.fr f2 fun b hb e => by have := (g1 b hb).1; omega).fr f3 fun _ _ h => h).fr f4 fun b hb e => by have := (g1 b hb).1; omega, h3.fr f4 fun b hb e => by have := g2 b hb; omega, fun b hb hb2 => by have := (g1 b hb).2; have := g2 b hb2; omega⟩, (h.pd m hm).hm, (h.pd m hm).hl, (h.pd m hm).hn⟩
    · rw [upd_ne _ _ e, upd_ne _ _ e, upd_ne _ _ e, upd_ne _ _ e]; exact pj j hj
  · by_cases e : j = n
    · subst e
      rw [upd_self] at hb
      rw [upd_ne _ _ (Ne.symm hjk)]
      exact fun hk' => by
        have := hxl k hk b hk'
        rcases hb with hb | hb
        · have := (g1 b hb).1; omega
        · have := g2 b hb; omega
    · rw [upd_ne _ _ e] at hb
      by_cases e2 : k = n
      · subst e2
        rw [upd_self]
        exact fun hk' => by
          have := hxl j hj b hb
          rcases hk' with hb | hb
          · have := (g1 b hb).1; omega
          · have := g2 b hb; omega
      · rw [upd_ne _ _ e2]; exact h.dis j k hj hk hjk b hb
  · by_cases e : j = n
    · subst e
      rw [upd_self] at hb
      rcases hb with hb | hb
      · have := (g1 b hb).1; exact ⟨by omega, by omega, by omega⟩
      · have := g2 b hb; exact ⟨by omega, by omega, by omega⟩
    · rw [upd_ne _ _ e] at hb; exact h.off j hj b hb
end
end Go.Proofs.YtfhpnlaabgkpjaaDoor
/- reads, by contract: a kind that does nothing. -/
namespace Go.Proofs.YtfhpnlaabgkpjaaDoor
open Go.RowKit Go.Shelf
set_option maxHeartbeats 8000000
set_option linter.unusedVariables false
set_option linter.unusedSimpArgs false

set_option maxRecDepth 100000 in
theorem reads_0 {w : World} {X : Nat → Prop} {r q most : Nat} {l : List (Int × Int)} {kd on a x n : Int} {vc : Value} (k1 : (kd == 1) = false) (k2 : (kd == 2) = false) (k3 : (kd == 3) = false) (k4 : (kd == 4) = false) (k5 : (kd == 5) = false) (h : PD w X r q most l) :
    Calls Tryd.prog 12 #[.pointer (some ⟨r, 0, none⟩), .pointer (some ⟨q, 0, none⟩), .agg #[.int .i64 kd, .int .i64 on, .int .u64 a, .int .u64 x, .int .i64 n, vc]] w fun e w' => e = .returned (.bool true) ∧ ∃ X' l', PD w' X' r q most l' ∧ Fr X w X' w' := by
  obtain ⟨Aq, cq, hLq, c1, _⟩ := h.slice
  have hmx : Tryd.prog.follows .mixedOrders = true := by kernel_rfl
  have hXl := Lib.hid h.lt
  have hlm := h.hm
  have hll := h.hl
  have hz1 := Lib.hid (show 0 + l.length ≤ 9223372036854775807 by omega)
  have hz2 := Lib.hid (show (0 + l.length) * 16 ≤ 140737488355328 by omega)
  obtain ⟨W0, hW0⟩ : ∃ u, Hid (u = w.alloc (.cells #[.int .i64 kd, .int .i64 on, .int .u64 a, .int .u64 x, .int .i64 n, vc] 41)) := ⟨_, Lib.hid rfl⟩
  have b0 : Hid (Blk W0 w.heap.size 41 #[.int .i64 kd, .int .i64 on, .int .u64 a, .int .u64 x, .int .i64 n, vc]) := Lib.hid (by rw [hW0.out]; exact Blk.new _ _ _)
  have f0 : Hid (Fr (fun _ => False) w (fun _ => False) W0) := Lib.hid (by rw [hW0.out]; exact (Fr.refl _ w).alloc _)
  have p0 := Lib.hid (h.new_ f0.out)
  have c1 := f0.out.keep_cell c1
  have L0 := Lib.hid (Sl.fr hLq f0.out fun _ _ h => h)
  have L1 : Hid (Cl (W0.alloc (.cells #[] 55)) (.slice Aq l.length cq) l) := Lib.hid (Sl.alloc L0.out _)
  have N1 : Hid (Cl (W0.alloc (.cells #[] 55)) (.slice (some ⟨W0.heap.size, 0, none⟩) 0 0) []) := Lib.hid (Sl.new encC_len W0 [] (by simp))
  have c1 := cell_alloc_ (o := .cells #[] 55) c1
  clear hLq h hlm hll L0
  go_enter Tryd.func12, Tryd.ntmps12
  go_upto_region 1 with (fail)
  rw [← hW0.out]
  go_wp2_with (at_builtin; refine wpList_cells (W0.alloc (.cells #[] 55)) rfl (.tmp 18) (.tmp 22) rfl (.slice (some ⟨W0.heap.size, 0, none⟩) 0 0) (.slice Aq l.length cq) [] l rfl N1.out rfl L1.out hz1.out hz2.out ?_; intro A3 cp3 w3 hc3 hv3 hm3; have V3 := Lib.hid hv3; have M3 := Lib.hid hm3; clear hv3 hm3)
  have f3 : Hid (Fr (fun _ => False) W0 (fun _ => False) w3) := Lib.hid (((((Fr.refl (fun _ => False) W0).alloc (.cells #[] 55)).into (G := own (.slice (some ⟨W0.heap.size, 0, none⟩) 0 0)) (fun k hk => .inr (.inr (Nat.le_of_eq (by simpa [own, Value.ownBlock] using hk))))).trans M3.out).into fun _ h => h.elim)
  have p3 := Lib.hid (p0.out.new_ f3.out)
  have b3 := Lib.hid (f3.out.blk b0.out fun h => h)
  have f3w := Lib.hid (f0.out.trans f3.out)
  clear M3 N1 L1 c1 hW0 f0 f3 b0 p0
  refine p3.out.all_b.mono ?_
  rintro _ w4 ⟨b, rfl, S4, p4, m4⟩
  have V4 : Hid (Cl w4 (.slice A3 (([] : List (Int × Int)).length + l.length) cp3) ([] ++ l)) := Lib.hid (Sl.fr V3.out m4 fun _ _ h => h)
  replace S4 := Lib.hid S4
  replace p4 := Lib.hid p4
  have b4 := Lib.hid (m4.blk b3.out fun h => h)
  have f4 := Lib.hid (f3w.out.trans m4)
  clear V3 p3 b3 f3w m4
  have o0 : w4.cell? ⟨w.heap.size, 0, none⟩ = some (.int .i64 kd) := b4.out.cell 0
  have o2 : w4.cell? ⟨w.heap.size, 2, none⟩ = some (.int .u64 a) := b4.out.cell 2
  have o3 : w4.cell? ⟨w.heap.size, 3, none⟩ = some (.int .u64 x) := b4.out.cell 3
  have o4 : w4.cell? ⟨w.heap.size, 4, none⟩ = some (.int .i64 n) := b4.out.cell 4
  have o5 : w4.cell? ⟨w.heap.size, 5, none⟩ = some vc := b4.out.cell 5
  have hob : Hid (¬ X w.heap.size) := Lib.hid fun hx => Nat.lt_irrefl _ (hXl.out _ hx)
  generalize w.heap.size = ob at *
  clear hXl
  clear V4 S4 b4
  have PP := p4
  have FF : Hid (Fr X w X w4) := Lib.hid ((Fr.refl X w).beside f4.out fun _ h => h.elim)
  clear p4 f4
  go_upto_region 29 with (fail)
  obtain ⟨At, ct, _, ct1, _, _, _, ctm⟩ := PP.out.slice
  have hlm := PP.out.hm
  have hll := PP.out.hl
  have hlli : (l.length : Int) ≤ 1048576 := by omega
  have T1 := Lib.hid (fun m => (PP.out.drewN m).len_b)
  have T2 := Lib.hid (fun m => (PP.out.drewN m).all_b)
  have hz9 := Lib.hid (show l.length ≤ 4611686018427387904 by omega)
  clear hlm hll
  refine wp_region_mixH (fun W => W.cell? ⟨q, 1, none⟩ = some (.slice At l.length ct)) [3, 2, 3, 3, 3, 0, 3, 3, 3, 3, 2, 3, 3, 3, 0, 2, 3, 3] [0, 2, 3, 4, 5, 6, 1, 7, 8, 9, 11, 12, 13, 14, 10, 15, 16, 17] (by kernel_rfl) (by kernel_rfl) (fun _ _ h => h) ct1 ?_
  repeat (first | ((first | refine wpMixH_pure rfl rfl (fun K hK => ?_) | refine wpMixH_loc rfl rfl (fun K hK => ?_) | refine wpMixH_any rfl rfl (fun K hK => ?_)); go_simp; refine hK _ _ ?_; clear hK K) | (refine wpMixH_any rfl rfl (fun K hK => ?_); rw [if_pos (by go_simp)]; apply Exists.intro; refine And.intro (fun w2 hS2 => ?_) (hK _ _ ?_); (focus (obtain hs1 := hS2; go_simp; rfl)); clear hK K))
  refine wpMixH_loud rfl rfl (fun m1 K hK => ?_)
  go_wp2_with fail
  refine (T1.out _).mono ?_
  rintro _ w7 ⟨rfl, rfl⟩
  go_wp2_with fail
  refine hK _ _ (fun _ => ct1) ?_; clear hK K
  repeat (first | ((first | refine wpMixH_pure rfl rfl (fun K hK => ?_) | refine wpMixH_loc rfl rfl (fun K hK => ?_) | refine wpMixH_any rfl rfl (fun K hK => ?_)); go_simp; refine hK _ _ ?_; clear hK K) | (refine wpMixH_any rfl rfl (fun K hK => ?_); rw [if_pos (by go_simp)]; apply Exists.intro; refine And.intro (fun w2 hS2 => ?_) (hK _ _ ?_); (focus (obtain hs1 := hS2; go_simp; rfl)); clear hK K))
  refine wpMixH_loud rfl rfl (fun m2 K hK => ?_)
  go_wp2_with fail
  refine (T2.out _).mono ?_
  rintro _ w8 ⟨b8, rfl, S8, p8, m8⟩
  obtain ⟨Au, cu, hLu, cu1, _⟩ := p8.slice
  have T3 := Lib.hid (fun m => walk_b (n := 0) S8 (below_drewNs (Below.refl _ w8) m) (Sl.drewN hLu m |> Cl.lies) hz9.out)
  have ct8 := m8.keep_cell (p := ⟨q, 1, none⟩) ct1
  obtain ⟨rfl, rfl⟩ : At = Au ∧ ct = cu := by
    rw [cu1] at ct8
    simp only [Option.some.injEq, Value.slice.injEq] at ct8
    exact ⟨ct8.1.symm, ct8.2.2.symm⟩
  replace p8 := Lib.hid p8
  replace m8 := Lib.hid m8
  clear T1 T2 S8 hLu ct8 ct1
  go_wp2_with fail
  refine hK _ _ (fun _ => cu1) ?_; clear hK K
  repeat (first | ((first | refine wpMixH_pure rfl rfl (fun K hK => ?_) | refine wpMixH_loc rfl rfl (fun K hK => ?_) | refine wpMixH_any rfl rfl (fun K hK => ?_)); go_simp; refine hK _ _ ?_; clear hK K) | (refine wpMixH_any rfl rfl (fun K hK => ?_); rw [if_pos (by go_simp)]; apply Exists.intro; refine And.intro (fun w2 hS2 => ?_) (hK _ _ ?_); (focus (obtain hs1 := hS2; go_simp; rfl)); clear hK K))
  refine wpMixH_loud rfl rfl (fun m3 K hK => ?_)
  go_wp2_with fail
  refine (T3.out _).mono ?_
  rintro _ w9 ⟨rfl, m9⟩
  replace m9 := Lib.hid m9
  clear T3 cu1
  go_wp2_with fail
  refine hK _ _ (fun h => (Bool.false_ne_true ((Eq.symm (by kernel_rfl)).trans h)).elim) ?_; clear hK K
  repeat ((first | refine wpMixH_pure rfl rfl (fun K hK => ?_) | refine wpMixH_loc rfl rfl (fun K hK => ?_) | refine wpMixH_any rfl rfl (fun K hK => ?_)); go_simp; refine hK _ _ ?_; clear hK K)
  refine wpMixH_nil (fun m4 => ?_)
  go_wp2
  go_ret
  have q9 : PD (w9.drewN m4) X r q most l := ((p8.out.drewN m3).new_ m9.out).drewN m4
  have g8 : Fr (fun _ => False) w4 (fun _ => False) w8 := ⟨m8.out.os, m8.out.tape, m8.out.output, m8.out.size, m8.out.block, m8.out.new⟩
  have g9 : Fr (fun _ => False) w8 (fun _ => False) w9 := ⟨m9.out.os, m9.out.tape, m9.out.output, m9.out.size, m9.out.block, m9.out.new⟩
  exact ⟨rfl, _, _, q9, ((FF.out.beside g8 fun _ h => h.elim).beside g9 fun _ h => h.elim).drewN m4⟩
end Go.Proofs.YtfhpnlaabgkpjaaDoor
/- reads, by contract: Add. -/
namespace Go.Proofs.YtfhpnlaabgkpjaaDoor
open Go.RowKit Go.Shelf
set_option maxHeartbeats 8000000
set_option linter.unusedVariables false
set_option linter.unusedSimpArgs false

set_option maxRecDepth 100000 in
theorem reads_1 {w : World} {X : Nat → Prop} {r q most : Nat} {l : List (Int × Int)} {on a x n : Int} {vc : Value} (ha : 0 ≤ a ∧ a ≤ 18446744073709551615) (h : PD w X r q most l) :
    Calls Tryd.prog 12 #[.pointer (some ⟨r, 0, none⟩), .pointer (some ⟨q, 0, none⟩), .agg #[.int .i64 1, .int .i64 on, .int .u64 a, .int .u64 x, .int .i64 n, vc]] w fun e w' => e = .returned (.bool true) ∧ ∃ X' l', PD w' X' r q most l' ∧ Fr X w X' w' := by
  replace ha := Lib.hid ha
  obtain ⟨Aq, cq, hLq, c1, _⟩ := h.slice
  have hmx : Tryd.prog.follows .mixedOrders = true := by kernel_rfl
  have hXl := Lib.hid h.lt
  have hlm := h.hm
  have hll := h.hl
  have hz1 := Lib.hid (show 0 + l.length ≤ 9223372036854775807 by omega)
  have hz2 := Lib.hid (show (0 + l.length) * 16 ≤ 140737488355328 by omega)
  obtain ⟨W0, hW0⟩ : ∃ u, Hid (u = w.alloc (.cells #[.int .i64 1, .int .i64 on, .int .u64 a, .int .u64 x, .int .i64 n, vc] 41)) := ⟨_, Lib.hid rfl⟩
  have b0 : Hid (Blk W0 w.heap.size 41 #[.int .i64 1, .int .i64 on, .int .u64 a, .int .u64 x, .int .i64 n, vc]) := Lib.hid (by rw [hW0.out]; exact Blk.new _ _ _)
  have f0 : Hid (Fr (fun _ => False) w (fun _ => False) W0) := Lib.hid (by rw [hW0.out]; exact (Fr.refl _ w).alloc _)
  have p0 := Lib.hid (h.new_ f0.out)
  have c1 := f0.out.keep_cell c1
  have L0 := Lib.hid (Sl.fr hLq f0.out fun _ _ h => h)
  have L1 : Hid (Cl (W0.alloc (.cells #[] 55)) (.slice Aq l.length cq) l) := Lib.hid (Sl.alloc L0.out _)
  have N1 : Hid (Cl (W0.alloc (.cells #[] 55)) (.slice (some ⟨W0.heap.size, 0, none⟩) 0 0) []) := Lib.hid (Sl.new encC_len W0 [] (by simp))
  have c1 := cell_alloc_ (o := .cells #[] 55) c1
  clear hLq h hlm hll L0
  go_enter Tryd.func12, Tryd.ntmps12
  go_upto_region 1 with (fail)
  rw [← hW0.out]
  go_wp2_with (at_builtin; refine wpList_cells (W0.alloc (.cells #[] 55)) rfl (.tmp 18) (.tmp 22) rfl (.slice (some ⟨W0.heap.size, 0, none⟩) 0 0) (.slice Aq l.length cq) [] l rfl N1.out rfl L1.out hz1.out hz2.out ?_; intro A3 cp3 w3 hc3 hv3 hm3; have V3 := Lib.hid hv3; have M3 := Lib.hid hm3; clear hv3 hm3)
  have f3 : Hid (Fr (fun _ => False) W0 (fun _ => False) w3) := Lib.hid (((((Fr.refl (fun _ => False) W0).alloc (.cells #[] 55)).into (G := own (.slice (some ⟨W0.heap.size, 0, none⟩) 0 0)) (fun k hk => .inr (.inr (Nat.le_of_eq (by simpa [own, Value.ownBlock] using hk))))).trans M3.out).into fun _ h => h.elim)
  have p3 := Lib.hid (p0.out.new_ f3.out)
  have b3 := Lib.hid (f3.out.blk b0.out fun h => h)
  have f3w := Lib.hid (f0.out.trans f3.out)
  clear M3 N1 L1 c1 hW0 f0 f3 b0 p0
  refine p3.out.all_b.mono ?_
  rintro _ w4 ⟨b, rfl, S4, p4, m4⟩
  have V4 : Hid (Cl w4 (.slice A3 (([] : List (Int × Int)).length + l.length) cp3) ([] ++ l)) := Lib.hid (Sl.fr V3.out m4 fun _ _ h => h)
  replace S4 := Lib.hid S4
  replace p4 := Lib.hid p4
  have b4 := Lib.hid (m4.blk b3.out fun h => h)
  have f4 := Lib.hid (f3w.out.trans m4)
  clear V3 p3 b3 f3w m4
  have o0 : w4.cell? ⟨w.heap.size, 0, none⟩ = some (.int .i64 1) := b4.out.cell 0
  have o2 : w4.cell? ⟨w.heap.size, 2, none⟩ = some (.int .u64 a) := b4.out.cell 2
  have o3 : w4.cell? ⟨w.heap.size, 3, none⟩ = some (.int .u64 x) := b4.out.cell 3
  have o4 : w4.cell? ⟨w.heap.size, 4, none⟩ = some (.int .i64 n) := b4.out.cell 4
  have o5 : w4.cell? ⟨w.heap.size, 5, none⟩ = some vc := b4.out.cell 5
  have hob : Hid (¬ X w.heap.size) := Lib.hid fun hx => Nat.lt_irrefl _ (hXl.out _ hx)
  generalize w.heap.size = ob at *
  clear hXl
  clear V4 S4 b4
  have e1 : (if l.length < most then (0 : Int) else 5) = (if l.length < most then (0 : Int) else 5) := rfl
  obtain ⟨ee, hee⟩ : ∃ u : Int, Hid ((if l.length < most then (0 : Int) else 5) = u) := ⟨_, Lib.hid rfl⟩
  have C1 := Lib.hid (fun m => (p4.out.drewN m).add_b (a := a) (x := x) ha.out)
  rw [hee.out] at C1
  have qf := Lib.hid (f4.out)
  clear e1
  go_wp2_with fail
  refine wp_region_mixH (fun W => W.cell? ⟨ob, 2, none⟩ = some (.int .u64 a) ∧ W.cell? ⟨ob, 3, none⟩ = some (.int .u64 x)) [3, 3, 1, 3, 1, 2, 2, 3, 3, 0, 3, 0, 2, 3] [0, 1, 2, 3, 4, 7, 8, 9, 10, 11, 5, 6, 12, 13] (by kernel_rfl) (by kernel_rfl) (fun _ _ h => h) ⟨o2, o3⟩ ?_
  repeat (first | ((first | refine wpMixH_pure rfl rfl (fun K hK => ?_) | refine wpMixH_loc rfl rfl (fun K hK => ?_) | refine wpMixH_any rfl rfl (fun K hK => ?_)); go_simp; refine hK _ _ ?_; clear hK K) | (refine wpMixH_any rfl rfl (fun K hK => ?_); rw [if_pos (by go_simp)]; apply Exists.intro; refine And.intro (fun w2 hS2 => ?_) (hK _ _ ?_); (focus (obtain ⟨hs1, hs2⟩ := hS2; go_simp; rfl)); clear hK K))
  refine wpMixH_loud rfl rfl (fun m1 K hK => ?_)
  go_wp2_with fail
  refine (C1.out _).mono ?_
  rintro _ w5 ⟨rfl, hk5, C2⟩
  replace C2 := Lib.hid C2
  have o25 : w5.cell? ⟨ob, 2, none⟩ = some (.int .u64 a) := hk5 _ _ o2 hob.out
  have o35 : w5.cell? ⟨ob, 3, none⟩ = some (.int .u64 x) := hk5 _ _ o3 hob.out
  clear C1 hk5 o2 o3
  go_wp2_with fail
  refine hK _ _ (fun _ => ⟨o25, o35⟩) ?_; clear hK K
  repeat (first | ((first | refine wpMixH_pure rfl rfl (fun K hK => ?_) | refine wpMixH_loc rfl rfl (fun K hK => ?_) | refine wpMixH_any rfl rfl (fun K hK => ?_)); go_simp; refine hK _ _ ?_; clear hK K) | (refine wpMixH_any rfl rfl (fun K hK => ?_); rw [if_pos (by go_simp)]; apply Exists.intro; refine And.intro (fun w2 hS2 => ?_) (hK _ _ ?_); (focus (obtain ⟨hs1, hs2⟩ := hS2; go_simp; rfl)); clear hK K))
  refine wpMixH_loud rfl rfl (fun m2 K hK => ?_)
  go_wp2_with fail
  refine num_b.mono ?_
  rintro _ u6 ⟨rfl, rfl⟩
  go_wp2_with fail
  refine hK _ _ (fun _ => ⟨o25, o35⟩) ?_; clear hK K
  repeat (first | ((first | refine wpMixH_pure rfl rfl (fun K hK => ?_) | refine wpMixH_loc rfl rfl (fun K hK => ?_) | refine wpMixH_any rfl rfl (fun K hK => ?_)); go_simp; refine hK _ _ ?_; clear hK K) | (refine wpMixH_any rfl rfl (fun K hK => ?_); rw [if_pos (by go_simp)]; apply Exists.intro; refine And.intro (fun w2 hS2 => ?_) (hK _ _ ?_); (focus (obtain ⟨hs1, hs2⟩ := hS2; go_simp; rfl)); clear hK K))
  refine wpMixH_loud rfl rfl (fun m3 K hK => ?_)
  go_wp2_with fail
  refine (C2.out _).mono ?_
  rintro _ w6 ⟨rfl, X6, l6, p6, f6⟩
  replace p6 := Lib.hid p6
  replace f6 := Lib.hid f6
  clear C2
  go_wp2_with fail
  refine hK _ _ (fun h => (Bool.false_ne_true ((Eq.symm (by kernel_rfl)).trans h)).elim) ?_; clear hK K
  repeat (first | ((first | refine wpMixH_pure rfl rfl (fun K hK => ?_) | refine wpMixH_loc rfl rfl (fun K hK => ?_) | refine wpMixH_any rfl rfl (fun K hK => ?_)); go_simp; refine hK _ _ ?_; clear hK K) | (refine wpMixH_any rfl rfl (fun K hK => ?_); rw [if_pos (by go_simp)]; apply Exists.intro; refine And.intro (fun w2 hS2 => ?_) (hK _ _ ?_); (focus (obtain ⟨hs1, hs2⟩ := hS2; go_simp; rfl)); clear hK K))
  refine wpMixH_nil (fun m4 => ?_)
  have PP := Lib.hid (p6.out.drewN m4)
  have FF : Hid (Fr X w X6 (w6.drewN m4)) := Lib.hid (((((Fr.refl X w).beside f4.out fun _ h => h.elim).drewN _).trans f6.out).drewN m4)
  go_upto_region 29 with (fail)
  generalize w6.drewN m4 = W9 at *
  obtain ⟨At, ct, _, ct1, _, _, _, ctm⟩ := PP.out.slice
  have hlm := PP.out.hm
  have hll := PP.out.hl
  have hlli : (l6.length : Int) ≤ 1048576 := by omega
  have T1 := Lib.hid (fun m => (PP.out.drewN m).len_b)
  have T2 := Lib.hid (fun m => (PP.out.drewN m).all_b)
  have hz9 := Lib.hid (show l6.length ≤ 4611686018427387904 by omega)
  clear hlm hll
  refine wp_region_mixH (fun W => W.cell? ⟨q, 1, none⟩ = some (.slice At l6.length ct)) [3, 2, 3, 3, 3, 0, 3, 3, 3, 3, 2, 3, 3, 3, 0, 2, 3, 3] [0, 2, 3, 4, 5, 6, 1, 7, 8, 9, 11, 12, 13, 14, 10, 15, 16, 17] (by kernel_rfl) (by kernel_rfl) (fun _ _ h => h) ct1 ?_
  repeat (first | ((first | refine wpMixH_pure rfl rfl (fun K hK => ?_) | refine wpMixH_loc rfl rfl (fun K hK => ?_) | refine wpMixH_any rfl rfl (fun K hK => ?_)); go_simp; refine hK _ _ ?_; clear hK K) | (refine wpMixH_any rfl rfl (fun K hK => ?_); rw [if_pos (by go_simp)]; apply Exists.intro; refine And.intro (fun w2 hS2 => ?_) (hK _ _ ?_); (focus (obtain hs1 := hS2; go_simp; rfl)); clear hK K))
  refine wpMixH_loud rfl rfl (fun m1 K hK => ?_)
  go_wp2_with fail
  refine (T1.out _).mono ?_
  rintro _ w7 ⟨rfl, rfl⟩
  go_wp2_with fail
  refine hK _ _ (fun _ => ct1) ?_; clear hK K
  repeat (first | ((first | refine wpMixH_pure rfl rfl (fun K hK => ?_) | refine wpMixH_loc rfl rfl (fun K hK => ?_) | refine wpMixH_any rfl rfl (fun K hK => ?_)); go_simp; refine hK _ _ ?_; clear hK K) | (refine wpMixH_any rfl rfl (fun K hK => ?_); rw [if_pos (by go_simp)]; apply Exists.intro; refine And.intro (fun w2 hS2 => ?_) (hK _ _ ?_); (focus (obtain hs1 := hS2; go_simp; rfl)); clear hK K))
  refine wpMixH_loud rfl rfl (fun m2 K hK => ?_)
  go_wp2_with fail
  refine (T2.out _).mono ?_
  rintro _ w8 ⟨b8, rfl, S8, p8, m8⟩
  obtain ⟨Au, cu, hLu, cu1, _⟩ := p8.slice
  have T3 := Lib.hid (fun m => walk_b (n := 0) S8 (below_drewNs (Below.refl _ w8) m) (Sl.drewN hLu m |> Cl.lies) hz9.out)
  have ct8 := m8.keep_cell (p := ⟨q, 1, none⟩) ct1
  obtain ⟨rfl, rfl⟩ : At = Au ∧ ct = cu := by
    rw [cu1] at ct8
    simp only [Option.some.injEq, Value.slice.injEq] at ct8
    exact ⟨ct8.1.symm, ct8.2.2.symm⟩
  replace p8 := Lib.hid p8
  replace m8 := Lib.hid m8
  clear T1 T2 S8 hLu ct8 ct1
  go_wp2_with fail
  refine hK _ _ (fun _ => cu1) ?_; clear hK K
  repeat (first | ((first | refine wpMixH_pure rfl rfl (fun K hK => ?_) | refine wpMixH_loc rfl rfl (fun K hK => ?_) | refine wpMixH_any rfl rfl (fun K hK => ?_)); go_simp; refine hK _ _ ?_; clear hK K) | (refine wpMixH_any rfl rfl (fun K hK => ?_); rw [if_pos (by go_simp)]; apply Exists.intro; refine And.intro (fun w2 hS2 => ?_) (hK _ _ ?_); (focus (obtain hs1 := hS2; go_simp; rfl)); clear hK K))
  refine wpMixH_loud rfl rfl (fun m3 K hK => ?_)
  go_wp2_with fail
  refine (T3.out _).mono ?_
  rintro _ w9 ⟨rfl, m9⟩
  replace m9 := Lib.hid m9
  clear T3 cu1
  go_wp2_with fail
  refine hK _ _ (fun h => (Bool.false_ne_true ((Eq.symm (by kernel_rfl)).trans h)).elim) ?_; clear hK K
  repeat ((first | refine wpMixH_pure rfl rfl (fun K hK => ?_) | refine wpMixH_loc rfl rfl (fun K hK => ?_) | refine wpMixH_any rfl rfl (fun K hK => ?_)); go_simp; refine hK _ _ ?_; clear hK K)
  refine wpMixH_nil (fun m4 => ?_)
  go_wp2
  go_ret
  have q9 : PD (w9.drewN m4) X6 r q most l6 := ((p8.out.drewN m3).new_ m9.out).drewN m4
  have g8 : Fr (fun _ => False) W9 (fun _ => False) w8 := ⟨m8.out.os, m8.out.tape, m8.out.output, m8.out.size, m8.out.block, m8.out.new⟩
  have g9 : Fr (fun _ => False) w8 (fun _ => False) w9 := ⟨m9.out.os, m9.out.tape, m9.out.output, m9.out.size, m9.out.block, m9.out.new⟩
  exact ⟨rfl, _, _, q9, ((FF.out.beside g8 fun _ h => h.elim).beside g9 fun _ h => h.elim).drewN m4⟩
end Go.Proofs.YtfhpnlaabgkpjaaDoor
