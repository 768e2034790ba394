/- A redo log: At, All, by contract; one that is none. -/
import Derived.Test.YtfhpnlaabgkpjaaDoorPLg11
import Derived.Test.YtfhpnlaabgkpjaaDoorPLg12
import Derived.Test.YtfhpnlaabgkpjaaDoorPLg16
namespace Go.Proofs.YtfhpnlaabgkpjaaDoor
open Go.RowKit Go.Shelf
set_option maxHeartbeats 4000000
set_option linter.unusedVariables false
set_option linter.unusedSimpArgs false
attribute [local go_sem] Oper.semAt_some encE

section
variable {w w' : World} {r : Nat} {F G G' : Nat → Prop} {most : Nat} {l : List (Int × Int)} {p : List (Int × Int × Bool)} {pt : Option Addr}
theorem wat_yes {i : Nat} (h : RoW w r F most l p) (hl : l.length ≤ 4611686018427387904) (hi : i < l.length) : Calls Tryd.prog 22 #[.pointer (some ⟨r, 0, none⟩), .int .i64 (i : Int)] w fun e w' =>
    e = .returned (.tuple #[.agg #[.int .u64 (l[i]'hi).1, .int .u64 (l[i]'hi).2], .bool true]) ∧ Fr (fun _ => False) w (fun _ => False) w' := by
  have N := Lib.hid (wlen_b (h.fr ((Fr.refl (fun _ => False) w).alloc (.cells #[.int .u64 0, .int .u64 0] 55)) fun _ _ h => h))
  have F1 := Lib.hid ((Fr.refl (fun _ => False) w).alloc (.cells #[.int .u64 0, .int .u64 0] 55))
  obtain ⟨vl, vp, t, G, T, rfl, ha, _⟩ := h
  obtain ⟨A, cp, rfl, hcpp⟩ := Sl.shape ha.ol
  have hb := ha.blk
  have hL := ha.ol
  clear ha
  have c2 : w.cell? ⟨r, 2, none⟩ = some (.slice A l.length cp) := hb.cell 2
  obtain ⟨A', cp', eA, hcp, _, hcl⟩ := (Cl.lies hL)
  injection eA with e1 e2 e3
  subst e1 e3
  obtain ⟨g, o, rfl, hg, d0, d1⟩ := hcl i hi
  have h1 : decide (i ≥ l.length) = false := decide_eq_false (by omega)
  have hii : (i : Int) < (l.length : Int) := by omega
  have hlm : (l.length : Int) ≤ 4611686018427387904 := by omega
  generalize (l[i]'hi).1 = ya at *
  generalize (l[i]'hi).2 = yw at *
  have c2 := cell_alloc_ (o := .cells #[.int .u64 0, .int .u64 0] 55) c2
  have d0 := cell_alloc_ (o := .cells #[.int .u64 0, .int .u64 0] 55) d0
  have d1 := cell_alloc_ (o := .cells #[.int .u64 0, .int .u64 0] 55) d1
  clear hb hL hcl hg e2
  go_enter Tryd.func22, Tryd.ntmps22
  go_wp2_with fail
  refine N.out.mono ?_
  rintro _ w2 ⟨rfl, rfl⟩
  go_wp2
  exact bodyPost_ret (v := .tuple #[.agg #[.int .u64 ya, .int .u64 yw], .bool true]) (by simp [results, Tryd.results22, go_sem]) rfl ⟨rfl, (Fr.refl (fun _ => False) w).alloc _⟩
theorem wat_no {i : Int} (h : RoW w r F most l p) (hi : i < 0 ∨ (l.length : Int) ≤ i) (h1 : -9223372036854775808 ≤ i) (h2 : i ≤ 9223372036854775807) : Calls Tryd.prog 22 #[.pointer (some ⟨r, 0, none⟩), .int .i64 i] w fun e w' =>
    e = .returned (.tuple #[.agg #[.int .u64 0, .int .u64 0], .bool false]) ∧ Fr (fun _ => False) w (fun _ => False) w' := by
  have N := Lib.hid (wlen_b (h.fr ((Fr.refl (fun _ => False) w).alloc (.cells #[.int .u64 0, .int .u64 0] 55)) fun _ _ h => h))
  clear h
  by_cases h0 : i < 0
  · go_enter Tryd.func22, Tryd.ntmps22
    go_wp2
    exact bodyPost_ret (v := .tuple #[.agg #[.int .u64 0, .int .u64 0], .bool false]) (by simp [results, Tryd.results22, go_sem]) rfl ⟨rfl, (Fr.refl (fun _ => False) w).alloc _⟩
  · have h3 : decide (i < 0) = false := decide_eq_false h0
    have h4 : decide (i ≥ (l.length : Int)) = true := decide_eq_true (by omega)
    clear h0 hi
    go_enter Tryd.func22, Tryd.ntmps22
    go_wp2_with fail
    refine N.out.mono ?_
    rintro _ w2 ⟨rfl, rfl⟩
    go_wp2
    exact bodyPost_ret (v := .tuple #[.agg #[.int .u64 0, .int .u64 0], .bool false]) (by simp [results, Tryd.results22, go_sem]) rfl ⟨rfl, (Fr.refl (fun _ => False) w).alloc _⟩
/-- All's inner function: the entries of now. -/
theorem wall1_b {b : Nat} (hb : Blk w b 50 #[.pointer (some ⟨r, 0, none⟩)]) (h : RoW w r F most l p) : ∃ A, LiesC w (.slice A l.length l.length) l ∧ (∀ W, Below w.heap.size w W → Calls Tryd.prog 50 #[.pointer (some ⟨b, 0, none⟩)] W fun e W' => e = .returned (.slice A l.length l.length) ∧ ∃ n, W' = W.drewN n) := by
  obtain ⟨vl, vp, t, G, T, rfl, ha, _⟩ := h
  obtain ⟨A, cp, rfl, hcpp⟩ := Sl.shape ha.ol
  have hbr := ha.blk
  have hL := ha.ol
  clear ha
  have hcp := hcpp
  have hlm : cp ≤ maxLen := by
    rcases hL.2 with ⟨e, _⟩ | ⟨_, _, _, _, e, _, _, _, h, _⟩
    · injection e with _ _ e; unfold maxLen; omega
    · injection e with _ _ e; omega
  unfold maxLen at hlm
  refine ⟨A, LiesC.cap (Cl.lies hL) (Nat.le_refl _) fun e => ?_, fun W hW => ?_⟩
  · have := (Rowv.shape hL).choose_spec.choose_spec
    obtain ⟨e1, _, e2⟩ := this
    injection e1 with e3 e4 e5
    exact (e2 (by rw [← e3]; exact e)).1
  · have hmx : Tryd.prog.follows .mixedOrders = true := by kernel_rfl
    have d0 : W.cell? ⟨b, 0, none⟩ = some (.pointer (some ⟨r, 0, none⟩)) := (hb.below hW hb.lt).cell 0
    have c0 : W.cell? ⟨r, 0, none⟩ = some (.bool true) := (hbr.below hW hbr.lt).cell 0
    have c2 : W.cell? ⟨r, 2, none⟩ = some (.slice A l.length cp) := (hbr.below hW hbr.lt).cell 2
    have C := Lib.hid (wnone_b c0)
    have hli : (l.length : Int) ≤ (cp : Int) := by omega
    have hci : (cp : Int) ≤ 9223372036854775807 := by omega
    have hz1 : decide (l.length ≤ cp) = true := decide_eq_true hcp
    clear hb hbr hL hW c0
    go_enter Tryd.func50, Tryd.ntmps50
    go_wp2_with fail
    refine C.out.mono ?_
    rintro _ w2 ⟨rfl, rfl⟩
    go_wp2_with fail
    refine wp_region_mix (fun _ => True) [1, 3, 3, 1, 1, 3, 3, 1, 3, 1, 3, 3, 1, 3, 3, 3] (List.range 16) (by kernel_rfl) (by kernel_rfl) (fun _ _ h => h) trivial ?_
    repeat ((first | refine wpMix_pure rfl rfl (fun K hK => ?_) | refine wpMix_loc rfl rfl (fun K hK => ?_) | refine wpMix_any rfl rfl (fun K hK => ?_)); go_simp; refine hK _ _ ?_; clear hK K)
    refine wpMix_nil (fun n1 => ?_)
    go_wp2
    go_ret
    exact ⟨rfl, 1 + n1, drewN_drewN W 1 n1⟩
theorem wall_b (h : RoW w r F most l p) (hl : l.length ≤ 4611686018427387904) : Calls Tryd.prog 31 #[.pointer (some ⟨r, 0, none⟩)] w fun e w' => ∃ b, e = .returned (.func (.func 52) #[] #[.pointer (some ⟨b, 0, none⟩)]) ∧ SeqC w' b l ∧ Fr (fun _ => False) w (fun _ => False) w' := by
  have b1 := Blk.new w 50 #[.pointer (some ⟨r, 0, none⟩)]
  have h1 := h.fr ((Fr.refl (fun _ => False) w).alloc (.cells #[.pointer (some ⟨r, 0, none⟩)] 50)) fun _ _ h => h
  obtain ⟨A, hA, hC⟩ := wall1_b b1 h1
  generalize hw1 : w.alloc (.cells #[.pointer (some ⟨r, 0, none⟩)] 50) = w1 at *
  have f1 : Fr (fun _ => False) w (fun _ => False) w1 := by rw [← hw1]; exact (Fr.refl (fun _ => False) w).alloc _
  have b2 := Blk.new w1 79 #[.func (.func 50) #[] #[.pointer (some ⟨w.heap.size, 0, none⟩)]]
  have f2 := f1.alloc (.cells #[.func (.func 50) #[] #[.pointer (some ⟨w.heap.size, 0, none⟩)]] 79)
  have S : SeqC (w1.alloc (.cells #[.func (.func 50) #[] #[.pointer (some ⟨w.heap.size, 0, none⟩)]] 79)) w1.heap.size l := fun α encs xs h1 h2 => over_seq (n := 2) b2 (enters_of Tryd.func50 (by kernel_rfl) rfl) (fun W hW => hC W (((Below.refl _ w1).alloc (Nat.le_refl _) _).trans (hW.mono (by simp)))) (hA.fr ((Fr.refl (fun _ => False) w1).alloc _) fun _ _ h => h) hl encs xs h1 h2
  have O := Lib.hid (over_b (w := w1) (gf := 50) (lb := #[.pointer (some ⟨w.heap.size, 0, none⟩)]))
  replace S := Lib.hid S
  replace f2 := Lib.hid f2
  replace hw1 := Lib.hid hw1
  clear b1 b2 h1 hA hC h f1
  go_enter Tryd.func31, Tryd.ntmps31
  go_wp2_with fail
  rw [hw1.out]
  refine O.out.mono ?_
  rintro _ w2 ⟨rfl, rfl⟩
  go_wp2
  go_ret
  exact ⟨_, rfl, S.out, f2.out⟩
/-- a redo log that is none -/
def RoN (w : World) (pt : Option Addr) : Prop := pt = none ∨ ∃ r, pt = some ⟨r, 0, none⟩ ∧ Blk w r 70 #[.bool false, .int .i64 0, .slice none 0 0, .pointer none, .slice none 0 0]
theorem RoN.fr {pt : Option Addr} (h : RoN w pt) (hf : Fr (fun _ => False) w F w') : RoN w' pt := h.imp id fun ⟨r, e, b⟩ => ⟨r, e, hf.blk b fun h => h⟩
theorem mnone_b (h : RoN w pt) : Calls Tryd.prog 44 #[.pointer pt] w fun e w' => e = .returned (.bool true) ∧ w = w' := by
  rcases h with rfl | ⟨r, rfl, hb⟩
  · go_enter Tryd.func44, Tryd.ntmps44
    go_wp2
    go_ret
    exact ⟨rfl, rfl⟩
  · have c0 : w.cell? ⟨r, 0, none⟩ = some (.bool false) := hb.cell 0
    clear hb
    go_enter Tryd.func44, Tryd.ntmps44
    go_wp2
    go_ret
    exact ⟨rfl, rfl⟩
theorem mlen_b (h : RoN w pt) : Calls Tryd.prog 21 #[.pointer pt] w fun e w' => e = .returned (.int .i64 0) ∧ w = w' := by
  have N := Lib.hid (mnone_b h)
  clear h
  go_enter Tryd.func21, Tryd.ntmps21
  go_wp2_with fail
  refine N.out.mono ?_
  rintro _ w2 ⟨rfl, rfl⟩
  go_wp2
  go_ret
  exact ⟨rfl, rfl⟩
theorem mput_b {a x : Int} (h : RoN w pt) : Calls Tryd.prog 16 #[.pointer pt, .int .u64 a, .int .u64 x] w fun e w' => e = .returned (.int .i64 1) ∧ w = w' := by
  have N := Lib.hid (mnone_b h)
  clear h
  go_enter Tryd.func16, Tryd.ntmps16
  go_wp2_with fail
  refine N.out.mono ?_
  rintro _ w2 ⟨rfl, rfl⟩
  go_wp2
  go_ret
  exact ⟨rfl, rfl⟩
theorem mback_b (h : RoN w pt) : Calls Tryd.prog 20 #[.pointer pt, .int .i64 0] w fun e w' => e = .returned (.int .i64 1) ∧ w = w' := by
  have N := Lib.hid (mnone_b h)
  clear h
  go_enter Tryd.func20, Tryd.ntmps20
  go_wp2_with fail
  refine N.out.mono ?_
  rintro _ w2 ⟨rfl, rfl⟩
  go_wp2
  go_ret
  exact ⟨rfl, rfl⟩
theorem mcopy_b (h : RoN w pt) : Calls Tryd.prog 25 #[.pointer pt] w fun e w' => e = .returned (.pointer none) ∧ w = w' := by
  have N := Lib.hid (mnone_b h)
  clear h
  go_enter Tryd.func25, Tryd.ntmps25
  go_wp2_with fail
  refine N.out.mono ?_
  rintro _ w2 ⟨rfl, rfl⟩
  go_wp2
  go_ret
  exact ⟨rfl, rfl⟩
theorem mat_b (h : RoN w pt) : Calls Tryd.prog 22 #[.pointer pt, .int .i64 0] w fun e w' => e = .returned (.tuple #[.agg #[.int .u64 0, .int .u64 0], .bool false]) ∧ Fr (fun _ => False) w (fun _ => False) w' := by
  have N := Lib.hid (mlen_b (h.fr ((Fr.refl (fun _ => False) w).alloc (.cells #[.int .u64 0, .int .u64 0] 55))))
  clear h
  go_enter Tryd.func22, Tryd.ntmps22
  go_wp2_with fail
  refine N.out.mono ?_
  rintro _ w2 ⟨rfl, rfl⟩
  go_wp2
  exact bodyPost_ret (v := .tuple #[.agg #[.int .u64 0, .int .u64 0], .bool false]) (by simp [results, Tryd.results22, go_sem]) rfl ⟨rfl, (Fr.refl (fun _ => False) w).alloc _⟩
theorem mall_b (h : RoN w pt) : Calls Tryd.prog 31 #[.pointer pt] w fun e w' => ∃ b, e = .returned (.func (.func 52) #[] #[.pointer (some ⟨b, 0, none⟩)]) ∧ SeqC w' b [] ∧ Fr (fun _ => False) w (fun _ => False) w' := by
  have b1 := Blk.new w 50 #[.pointer pt]
  have h1 := h.fr ((Fr.refl (fun _ => False) w).alloc (.cells #[.pointer pt] 50))
  generalize hw1 : w.alloc (.cells #[.pointer pt] 50) = w1 at *
  have f1 : Fr (fun _ => False) w (fun _ => False) w1 := by rw [← hw1]; exact (Fr.refl (fun _ => False) w).alloc _
  have hC : ∀ W, Below w1.heap.size w1 W → Calls Tryd.prog 50 #[.pointer (some ⟨w.heap.size, 0, none⟩)] W fun e W' => e = .returned (.slice none 0 0) ∧ ∃ n, W' = W.drewN n := fun W hW => by
    have d0 : W.cell? ⟨w.heap.size, 0, none⟩ = some (.pointer pt) := (b1.below hW b1.lt).cell 0
    have C := Lib.hid (mnone_b (w := W) (h1.imp id fun ⟨r, e, b⟩ => ⟨r, e, b.below hW b.lt⟩))
    clear b1 h1 hW f1 h
    go_enter Tryd.func50, Tryd.ntmps50
    go_wp2_with fail
    refine C.out.mono ?_
    rintro _ w2 ⟨rfl, rfl⟩
    go_wp2
    go_ret
    exact ⟨rfl, 0, rfl⟩
  have b2 := Blk.new w1 79 #[.func (.func 50) #[] #[.pointer (some ⟨w.heap.size, 0, none⟩)]]
  have f2 := f1.alloc (.cells #[.func (.func 50) #[] #[.pointer (some ⟨w.heap.size, 0, none⟩)]] 79)
  have S : SeqC (w1.alloc (.cells #[.func (.func 50) #[] #[.pointer (some ⟨w.heap.size, 0, none⟩)]] 79)) w1.heap.size [] := fun α encs xs h1 h2 => over_seq (A := none) (cp := 0) (l := []) (n := 2) b2 (enters_of Tryd.func50 (by kernel_rfl) rfl) (fun W hW => hC W (((Below.refl _ w1).alloc (Nat.le_refl _) _).trans (hW.mono (by simp)))) (LiesC.nil _) (by simp) encs xs h1 h2
  have O := Lib.hid (over_b (w := w1) (gf := 50) (lb := #[.pointer (some ⟨w.heap.size, 0, none⟩)]))
  replace S := Lib.hid S
  replace f2 := Lib.hid f2
  replace hw1 := Lib.hid hw1
  clear b1 b2 h1 hC h f1
  go_enter Tryd.func31, Tryd.ntmps31
  go_wp2_with fail
  rw [hw1.out]
  refine O.out.mono ?_
  rintro _ w2 ⟨rfl, rfl⟩
  go_wp2
  go_ret
  exact ⟨_, rfl, S.out, f2.out⟩
theorem mmark_b (h : RoN w pt) : Calls Tryd.prog 17 #[.pointer pt] w fun e w' => e = .returned (.int .i64 0) ∧ w = w' := by
  have N := Lib.hid (mnone_b h)
  clear h
  go_enter Tryd.func17, Tryd.ntmps17
  go_wp2_with fail
  refine N.out.mono ?_
  rintro _ w2 ⟨rfl, rfl⟩
  go_wp2
  go_ret
  exact ⟨rfl, rfl⟩
theorem mget_b (h : RoN w pt) : Calls Tryd.prog 23 #[.pointer pt, .int .u64 0] w fun e w' => e = .returned (.tuple #[.int .u64 0, .bool false]) ∧ w = w' := by
  have N := Lib.hid (mnone_b h)
  clear h
  go_enter Tryd.func23, Tryd.ntmps23
  go_wp2_with fail
  refine N.out.mono ?_
  rintro _ w2 ⟨rfl, rfl⟩
  go_wp2
  go_ret2
  exact ⟨rfl, rfl⟩
theorem mover_b {B : Option Addr} {n c : Nat} (h : RoN w pt) : Calls Tryd.prog 18 #[.pointer pt, .slice B n c] w fun e w' => e = .returned (.tuple #[.slice none 0 0, .int .i64 1]) ∧ w = w' := by
  have N := Lib.hid (mnone_b h)
  clear h
  go_enter Tryd.func18, Tryd.ntmps18
  go_wp2_with fail
  refine N.out.mono ?_
  rintro _ w2 ⟨rfl, rfl⟩
  go_wp2
  go_ret2
  exact ⟨rfl, rfl⟩
end
end Go.Proofs.YtfhpnlaabgkpjaaDoor
/- A redo log: Back, by contract. -/
namespace Go.Proofs.YtfhpnlaabgkpjaaDoor
open Go.RowKit Go.Shelf
set_option maxHeartbeats 8000000
set_option linter.unusedVariables false
set_option linter.unusedSimpArgs false

section
variable {w w' : World} {r most : Nat} {F G G' : Nat → Prop} {o L : List (Int × Int)} {p : List (Int × Int × Bool)} {vl vp : Value} {t : Nat} {T : Tbl Int}
theorem wback_no {n : Int} (h : RoW w r F most o p) (hp : p.length ≤ 4611686018427387904) (hn : n < 0 ∨ (p.length : Int) < n) (h1 : -9223372036854775808 ≤ n) (h2 : n ≤ 9223372036854775807) : Calls Tryd.prog 20 #[.pointer (some ⟨r, 0, none⟩), .int .i64 n] w fun e w' => e = .returned (.int .i64 2) ∧ w = w' := by
  obtain ⟨vl, vp, t, G, T, rfl, h, _⟩ := h
  obtain ⟨A, cp, rfl, _⟩ := Sl.shape h.pw
  have c0 : w.cell? ⟨r, 0, none⟩ = some (.bool true) := h.blk.cell 0
  have c4 : w.cell? ⟨r, 4, none⟩ = some (.slice A p.length cp) := h.blk.cell 4
  have C := Lib.hid (wnone_b c0)
  clear h c0
  by_cases h0 : n < 0
  · go_enter Tryd.func20, Tryd.ntmps20
    go_wp2_with fail
    refine C.out.mono ?_
    rintro _ w2 ⟨rfl, rfl⟩
    go_wp2
    go_ret
    exact ⟨rfl, rfl⟩
  · have h3 : decide (n < 0) = false := decide_eq_false h0
    have h4 : decide (n > (p.length : Int)) = true := decide_eq_true (by omega)
    clear h0 hn
    go_enter Tryd.func20, Tryd.ntmps20
    go_wp2_with fail
    refine C.out.mono ?_
    rintro _ w2 ⟨rfl, rfl⟩
    go_wp2
    go_ret
    exact ⟨rfl, rfl⟩
theorem RoA.entsAt (h : RoA w r most o p vl vp t G T) {v3 : Value} {o' : List (Int × Int)} (hv : Cl w v3 o') : RoA (w.setCell ⟨r, 2, none⟩ v3) r most o' p v3 vp t G T :=
  ⟨h.blk.set_ 2 v3, Sl.set hv (p := ⟨r, 2, none⟩) (Sl.ne_ hv h.blk (by decide)) _, Sl.set h.pw (p := ⟨r, 2, none⟩) (Sl.ne_ h.pw h.blk (by decide)) _,
    h.tb.fr ((Fr.refl (fun k => k = r) w).set (p := ⟨r, 2, none⟩) (.inl rfl) _) fun k hk e => h.tb.notBlk h.blk (by decide) (by decide) (by decide) (e ▸ hk)⟩
/-- within Back's loop: the puts of which so many are left, the entries v5 of now -/
structure BkS (w wr : World) (F0 : Nat → Prop) (r most t : Nat) (oL : List (Int × Int)) (vl : Value) (Ap : Option Addr) (cpp : Nat) (Lj : List (Int × Int)) (A5 : Option Addr) (cp5 : Nat) (o5 : List (Int × Int)) (G : Nat → Prop) (T : Tbl Int) : Prop where
  ro : RoA wr r most oL (pasts Lj) vl (.slice Ap Lj.length cpp) t G T
  o : o5 = redo Lj
  ix : Ixd T o5
  k : T.k ≤ 22
  cl : Cl wr (.slice A5 o5.length cp5) o5
  off : ∀ b, own (.slice A5 o5.length cp5) b → w.heap.size ≤ b ∧ ¬ RoF r vl (.slice Ap Lj.length cpp) G b
  fr : Fr F0 w (fun b => RoF r vl (.slice Ap Lj.length cpp) G b ∨ own (.slice A5 o5.length cp5) b) wr
  tab : Tab wr
theorem BkS.drewN {wr : World} {F0 : Nat → Prop} {oL : List (Int × Int)} {Ap : Option Addr} {cpp : Nat} {Lj : List (Int × Int)} {A5 : Option Addr} {cp5 : Nat} {o5 : List (Int × Int)}
    (h : BkS w wr F0 r most t oL vl Ap cpp Lj A5 cp5 o5 G T) (n : Nat) : BkS w (wr.drewN n) F0 r most t oL vl Ap cpp Lj A5 cp5 o5 G T :=
  ⟨RoA.drewN h.ro n, h.o, h.ix, h.k, Sl.drewN h.cl n, h.off, h.fr.drewN n, h.tab.keep rfl⟩
theorem BkS.alloc {wr : World} {F0 : Nat → Prop} {oL : List (Int × Int)} {Ap : Option Addr} {cpp : Nat} {Lj : List (Int × Int)} {A5 : Option Addr} {cp5 : Nat} {o5 : List (Int × Int)}
    (h : BkS w wr F0 r most t oL vl Ap cpp Lj A5 cp5 o5 G T) (x : Obj) : BkS w (wr.alloc x) F0 r most t oL vl Ap cpp Lj A5 cp5 o5 G T :=
  ⟨h.ro.new_ ((Fr.refl (fun _ => False) wr).alloc x), h.o, h.ix, h.k, Sl.alloc h.cl x, h.off, h.fr.alloc x, h.tab.alloc x⟩
theorem BkS.new_ {wr w2 : World} {F0 F' : Nat → Prop} {oL : List (Int × Int)} {Ap : Option Addr} {cpp : Nat} {Lj : List (Int × Int)} {A5 : Option Addr} {cp5 : Nat} {o5 : List (Int × Int)}
    (h : BkS w wr F0 r most t oL vl Ap cpp Lj A5 cp5 o5 G T) (hf : Fr (fun _ => False) wr F' w2) : BkS w w2 F0 r most t oL vl Ap cpp Lj A5 cp5 o5 G T :=
  ⟨h.ro.new_ hf, h.o, h.ix, h.k, Sl.fr h.cl hf fun _ _ h => h, h.off, h.fr.beside hf fun _ h => h.elim, h.tab.frs hf fun h => h⟩
/-- the last of what was written over is struck -/
theorem BkS.strike {wr : World} {F0 : Nat → Prop} {oL : List (Int × Int)} {Ap : Option Addr} {cpp : Nat} {Lj : List (Int × Int)} {c : Int × Int} {A5 : Option Addr} {cp5 : Nat} {o5 : List (Int × Int)}
    (h : BkS w wr F0 r most t oL vl Ap cpp (Lj ++ [c]) A5 cp5 o5 G T) (hr : F0 r) :
    RoA (wr.setCell ⟨r, 4, none⟩ (.slice Ap Lj.length cpp)) r most oL (pasts Lj) vl (.slice Ap Lj.length cpp) t G T ∧ Cl (wr.setCell ⟨r, 4, none⟩ (.slice Ap Lj.length cpp)) (.slice A5 o5.length cp5) o5 ∧
      (∀ b, own (.slice A5 o5.length cp5) b → w.heap.size ≤ b ∧ ¬ RoF r vl (.slice Ap Lj.length cpp) G b) ∧ Fr F0 w (fun b => RoF r vl (.slice Ap Lj.length cpp) G b ∨ own (.slice A5 o5.length cp5) b) (wr.setCell ⟨r, 4, none⟩ (.slice Ap Lj.length cpp)) ∧ Tab (wr.setCell ⟨r, 4, none⟩ (.slice Ap Lj.length cpp)) := by
  have hp := h.ro.pw
  have hlen := pasts_len (L := Lj ++ [c])
  have hcut := Sl.cut encWas_len (l := pasts (Lj ++ [c])) (m := Lj.length) (c := cpp) hp (by rw [hlen]; simp) (by
    obtain ⟨A', cp', e, hc⟩ := Sl.shape hp
    injection e with e1 e2 e3
    rw [hlen, List.length_append] at hc
    omega) (Nat.le_refl _)
  rw [pasts_snoc, List.take_append_of_le_length (by rw [pasts_len]; exact Nat.le_refl _), List.take_of_length_le (by rw [pasts_len]; exact Nat.le_refl _)] at hcut
  have hof : ∀ b, RoF r vl (.slice Ap Lj.length cpp) G b → RoF r vl (.slice Ap (Lj ++ [c]).length cpp) G b := fun b hb => by
    rcases hb with hb | hb | hb | hb
    · exact .inl hb
    · exact .inr (.inl hb)
    · exact .inr (.inr (.inl (own_len hb)))
    · exact .inr (.inr (.inr hb))
  obtain ⟨q1, q2⟩ := h.ro.past hcut ((Fr.refl (own (.slice Ap (Lj ++ [c]).length cpp)) wr).into fun k hk => .inl (own_len hk))
  have h1 : ¬ (fun k => k = r) 1 := fun e => by
    have e' : 1 = r := e
    obtain ⟨cs, hb⟩ : ∃ cs, Blk wr 1 70 cs := ⟨_, e' ▸ h.ro.blk⟩
    have ht := h.tab 0 (by decide)
    have hb0 : wr.cell? ⟨1, 0, none⟩ = some (.bool true) := by rw [e']; exact h.ro.blk.cell 0
    rw [hb0] at ht
    simp at ht
  refine ⟨q1, Sl.set h.cl (p := ⟨r, 4, none⟩) (Sl.ne_ h.cl h.ro.blk (by decide)) _, fun b hb => ⟨(h.off b hb).1, fun hk => (h.off b hb).2 (hof b hk)⟩, ?_, h.tab.frs ((Fr.refl (fun k => k = r) wr).set (p := ⟨r, 4, none⟩) (.inl rfl) _) h1⟩
  exact (h.fr.set (p := ⟨r, 4, none⟩) (.inr (.inl hr)) _).into fun k hk => .inl (hk.imp (hof k) id)
end
end Go.Proofs.YtfhpnlaabgkpjaaDoor
