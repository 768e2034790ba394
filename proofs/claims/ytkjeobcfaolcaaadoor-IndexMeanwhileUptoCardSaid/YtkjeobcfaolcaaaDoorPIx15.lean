/- plays, every kind, by contract: over two tables, and over two that are not there. -/
import Derived.Test.YtkjeobcfaolcaaaDoorPIx11
import Derived.Test.YtkjeobcfaolcaaaDoorPIx13
import Derived.Test.YtkjeobcfaolcaaaDoorPIx14
namespace Go.Proofs.YtkjeobcfaolcaaaDoor
open Go.RowKit
set_option maxHeartbeats 4000000
set_option linter.unusedVariables false
set_option linter.unusedSimpArgs false

theorem PJ.more {wr : World} {X : Nat → Prop} {t r m : Nat} {T : Tbl Int} (h : PJ wr X t r m m T T) : PJ wr X t r (m + 1) (m + 1) T T :=
  ⟨h.tb, h.one, h.tab, by have := h.la; omega, by have := h.ak; omega, by have := h.lb; omega, by have := h.bk; omega⟩
theorem PJ.vw {wr : World} {X : Nat → Prop} {t r a : Nat} {T : Tbl Int} (h : PJ wr X t r a a T T) (ha : a ≤ 2932031007402) :
    Vw (some ⟨t, 0, none⟩) (some ⟨r, 0, none⟩) T.l T.get (2 ^ T.k) T.asked (fun wq => PJ wq X t r a a T T) where
  keep := fun h hf => h.new_ hf
  len := by have := h.la; omega
  keysT := fun wq h => by
    obtain ⟨F, G, hX, h1, h2, hd⟩ := h.tb
    have hla := h.la
    exact keysW_tb h1 (by omega)
  keysU := fun wq h => by
    obtain ⟨F, G, hX, h1, h2, hd⟩ := h.tb
    refine (keysR_tb h2).mono ?_
    rintro _ w' ⟨A, cp, rfl, hv, _, rfl⟩
    exact ⟨A, cp, rfl, hv, rfl⟩
  getU := fun wq k h => h.getU ha k
  seq := fun wq b R h hb h0 hs ht => by
    obtain ⟨F, G, hX, h1, h2, hd⟩ := h.tb
    obtain ⟨hk, hby⟩ := k_lej h.ak ha
    have hla := h.la
    have hk3 := h1.ok.k3
    obtain ⟨g, cz, A, cp, rfl, hb1, hs1, hv1, hok⟩ := h1
    exact allW_seq hb hb1 hs1 hv1 h.tab hok.inv (by omega) (by omega) hby (by omega) R h0 hs ht
  lenT := fun wq h => by
    obtain ⟨F, G, hX, h1, h2, hd⟩ := h.tb
    exact lenW_tb h1
  lenU := fun wq h => by
    obtain ⟨F, G, hX, h1, h2, hd⟩ := h.tb
    exact lenR_tb h2
  slotsT := fun wq h => h.slotsT
  slotsU := fun wq h => h.slotsU
  askedT := fun wq k h => by
    obtain ⟨F, G, hX, h1, h2, hd⟩ := h.tb
    obtain ⟨hk, hby⟩ := k_lej h.ak ha
    exact askedW_tb h.tab h1 hk
  askedU := fun wq k h => by
    obtain ⟨F, G, hX, h1, h2, hd⟩ := h.tb
    obtain ⟨hk, hby⟩ := k_lej h.bk ha
    exact askedR_tb h2 hk
theorem nil_vw : Vw none none [] (fun _ => 0) 0 (fun _ => 0) (fun _ => True) where
  keep := fun _ _ => trivial
  len := by simp
  keysT := fun wq _ => (nilKeysW_b (p := none) (w := wq) (.inl rfl)).mono fun e w' ⟨he, hw⟩ => ⟨none, 0, he, Wl.nil _, by rw [hw]; exact (Fr.refl _ _).into fun k hk => (own_nil _ _ _ hk).elim⟩
  keysU := fun wq _ => (nilKeysR_b (w := wq)).mono fun e w' ⟨he, hw⟩ => ⟨none, 0, he, Wl.nil _, hw⟩
  getU := fun wq k _ => (nilGetR_b (key := k) (w := wq)).mono fun e w' ⟨he, hw⟩ => ⟨by simpa using he, 0, hw.symm⟩
  seq := fun wq b R _ hb _ _ _ => nilAll1W_seq hb (.inl rfl) encW (KpR R) _ _ rfl
  lenT := fun wq _ => nilLenW_b (.inl rfl)
  lenU := fun wq _ => nilLenR_b
  slotsT := fun wq _ => nilSlotsW_b (.inl rfl)
  slotsU := fun wq _ => nilSlotsR_b
  askedT := fun wq k _ => nilAskedW_b (.inl rfl)
  askedU := fun wq k _ => nilAskedR_b
theorem PJ.clearT {wr : World} {X : Nat → Prop} {t r a b : Nat} {T U : Tbl Int} (h : PJ wr X t r a b T U) : Calls Tryd.prog 65 #[.pointer (some ⟨t, 0, none⟩)] wr fun e w' => (∃ v, e = .returned v) ∧ ∃ X', PJ w' X' t r a b (Tbl.new 0) U ∧ Fr X wr X' w' := by
  obtain ⟨F, G, hX, h1, h2, hd⟩ := h.tb
  have hk3 := h1.ok.k3
  have h8 := eight hk3
  have hak := h.ak
  refine (clearW_tb h1).mono ?_
  rintro _ w' ⟨hv, F', h1', hf⟩
  exact ⟨hv, h.stepT hX h2 hd h1' hf (by simp [Tbl.new]) (by simp [Tbl.new]; omega)⟩
theorem PJ.clearU {wr : World} {X : Nat → Prop} {t r a b : Nat} {T U : Tbl Int} (h : PJ wr X t r a b T U) : Calls Tryd.prog 66 #[.pointer (some ⟨r, 0, none⟩)] wr fun e w' => (∃ v, e = .returned v) ∧ ∃ X', PJ w' X' t r a b T (Tbl.new 0) ∧ Fr X wr X' w' := by
  obtain ⟨F, G, hX, h1, h2, hd⟩ := h.tb
  have hk3 := h2.ok.k3
  have h8 := eight hk3
  have hbk := h.bk
  refine (clearR_tb h2).mono ?_
  rintro _ w' ⟨hv, G', h2', hf⟩
  exact ⟨hv, h.stepU hX h1 hd h2' hf (by simp [Tbl.new]) (by simp [Tbl.new]; omega)⟩
set_option maxRecDepth 100000 in
theorem plays1_j {wr : World} {X : Nat → Prop} {t r m : Nat} {T : Tbl Int} (h : PJ wr X t r m m T T) (hm : m ≤ 2932031007402) (who too leave key value : Int) :
    Calls Tryd.prog 34 #[.pointer (some ⟨t, 0, none⟩), .pointer (some ⟨r, 0, none⟩), .agg #[.int .i64 1, .int .i64 who, .int .i64 too, .int .i64 leave, .int .u64 key, .int .u64 value]] wr fun e w' => e = .returned (.bool true) ∧ ∃ X', PJ w' X' t r (m + 1) (m + 1) (T.put 0 key value) (T.put 0 key value) ∧ Fr X wr X' w' := by
  obtain ⟨w1, hw1⟩ : ∃ u, Hid (u = wr.alloc (.cells #[.int .i64 1, .int .i64 who, .int .i64 too, .int .i64 leave, .int .u64 key, .int .u64 value] 56)) := ⟨_, Lib.hid rfl⟩
  have F1 : Hid (Fr X wr X w1) := Lib.hid (by rw [hw1.out]; exact (Fr.refl _ wr).alloc _)
  have P1 : Hid (PJ w1 X t r m m T T) := Lib.hid (h.new_ (F := fun _ => False) (by rw [hw1.out]; exact (Fr.refl _ wr).alloc _))
  have X1 : Hid (Blk w1 wr.heap.size 56 #[.int .i64 1, .int .i64 who, .int .i64 too, .int .i64 leave, .int .u64 key, .int .u64 value]) := Lib.hid (by rw [hw1.out]; exact Blk.new _ _ _)
  have c0 : w1.cell? ⟨wr.heap.size, 0, none⟩ = some (.int .i64 1) := X1.out.cell 0
  have c4 : w1.cell? ⟨wr.heap.size, 4, none⟩ = some (.int .u64 key) := X1.out.cell 4
  have c5 : w1.cell? ⟨wr.heap.size, 5, none⟩ = some (.int .u64 value) := X1.out.cell 5
  have C1 := Lib.hid (P1.out.putT hm key value)
  clear h
  go_enter Tryd.func34, Tryd.ntmps34
  go_wp2_with fail
  rw [← hw1.out]
  refine C1.out.mono ?_
  rintro _ w2 ⟨rfl, Y2, p2, f2⟩
  have X2 := Lib.hid (f2.blk X1.out (P1.out.notStep X1.out))
  have P2 := Lib.hid p2
  have F2 := Lib.hid (F1.out.trans f2)
  have e4 : w2.cell? ⟨wr.heap.size, 4, none⟩ = some (.int .u64 key) := X2.out.cell 4
  have e5 : w2.cell? ⟨wr.heap.size, 5, none⟩ = some (.int .u64 value) := X2.out.cell 5
  have C2 := Lib.hid (P2.out.putU hm key value)
  clear p2 f2 C1 c0 c4 c5 hw1
  generalize hv1 : (if key ∈ T.l then T.get key else 0) = vv at *
  generalize hv2 : decide (key ∈ T.l) = bb at *
  go_wp2_with fail
  refine C2.out.mono ?_
  rintro _ w3 ⟨rfl, Y3, p3, f3⟩
  have P3 := Lib.hid p3
  have F3 := Lib.hid (F2.out.trans f3)
  have C3 := Lib.hid P3.out.slotsT
  have C4 := Lib.hid P3.out.slotsU
  clear p3 f3 C2 e4 e5 hv1 hv2
  generalize 2 ^ (T.put 0 key value).k = sl at *
  have q1 : (bb == bb) = true := by cases bb <;> rfl
  go_wp2_with fail
  refine num_b.mono ?_
  rintro _ w4 ⟨rfl, rfl⟩
  go_wp2_with fail
  refine C3.out.mono ?_
  rintro _ w4 ⟨rfl, rfl⟩
  go_wp2_with fail
  refine C4.out.mono ?_
  rintro _ w4 ⟨rfl, rfl⟩
  go_wp2
  go_ret
  exact ⟨rfl, Y3, P3.out, F3.out⟩
set_option maxRecDepth 100000 in
theorem plays2_j {wr : World} {X : Nat → Prop} {t r m : Nat} {T : Tbl Int} (h : PJ wr X t r m m T T) (hm : m ≤ 2932031007402) (who too leave key value : Int) :
    Calls Tryd.prog 34 #[.pointer (some ⟨t, 0, none⟩), .pointer (some ⟨r, 0, none⟩), .agg #[.int .i64 2, .int .i64 who, .int .i64 too, .int .i64 leave, .int .u64 key, .int .u64 value]] wr fun e w' => e = .returned (.bool true) ∧ ∃ X', PJ w' X' t r (m + 1) (m + 1) (T) (T) ∧ Fr X wr X' w' := by
  obtain ⟨w1, hw1⟩ : ∃ u, Hid (u = wr.alloc (.cells #[.int .i64 2, .int .i64 who, .int .i64 too, .int .i64 leave, .int .u64 key, .int .u64 value] 56)) := ⟨_, Lib.hid rfl⟩
  have F1 : Hid (Fr X wr X w1) := Lib.hid (by rw [hw1.out]; exact (Fr.refl _ wr).alloc _)
  have P1 : Hid (PJ w1 X t r m m T T) := Lib.hid (h.new_ (F := fun _ => False) (by rw [hw1.out]; exact (Fr.refl _ wr).alloc _))
  have X1 : Hid (Blk w1 wr.heap.size 56 #[.int .i64 2, .int .i64 who, .int .i64 too, .int .i64 leave, .int .u64 key, .int .u64 value]) := Lib.hid (by rw [hw1.out]; exact Blk.new _ _ _)
  have c0 : w1.cell? ⟨wr.heap.size, 0, none⟩ = some (.int .i64 2) := X1.out.cell 0
  have c4 : w1.cell? ⟨wr.heap.size, 4, none⟩ = some (.int .u64 key) := X1.out.cell 4
  have C1 := Lib.hid (P1.out.getT hm key)
  clear h
  go_enter Tryd.func34, Tryd.ntmps34
  go_wp2_with fail
  rw [← hw1.out]
  refine C1.out.mono ?_
  rintro _ w2 ⟨rfl, n1, rfl⟩
  have P2 := Lib.hid (P1.out.drewN n1)
  have C2 := Lib.hid (P2.out.getU hm key)
  clear C1 hw1
  generalize T.get key = vv at *
  generalize hv2 : decide (key ∈ T.l) = bb at *
  go_wp2_with fail
  refine C2.out.mono ?_
  rintro _ w3 ⟨rfl, n2, rfl⟩
  clear C2 hv2
  have q1 : (bb == bb) = true := by cases bb <;> rfl
  go_wp2
  go_ret
  exact ⟨rfl, X, (P1.out.drewN (n1 + n2)).more, F1.out.drewN (n1 + n2)⟩
set_option maxRecDepth 100000 in
theorem plays3_j {wr : World} {X : Nat → Prop} {t r m : Nat} {T : Tbl Int} (h : PJ wr X t r m m T T) (hm : m ≤ 2932031007402) (hc : T.s.Clean 0) (who too leave key value : Int) :
    Calls Tryd.prog 34 #[.pointer (some ⟨t, 0, none⟩), .pointer (some ⟨r, 0, none⟩), .agg #[.int .i64 3, .int .i64 who, .int .i64 too, .int .i64 leave, .int .u64 key, .int .u64 value]] wr fun e w' => e = .returned (.bool true) ∧ ∃ X', PJ w' X' t r (m + 1) (m + 1) (T.take 0 key) (T.take 0 key) ∧ Fr X wr X' w' := by
  obtain ⟨w1, hw1⟩ : ∃ u, Hid (u = wr.alloc (.cells #[.int .i64 3, .int .i64 who, .int .i64 too, .int .i64 leave, .int .u64 key, .int .u64 value] 56)) := ⟨_, Lib.hid rfl⟩
  have F1 : Hid (Fr X wr X w1) := Lib.hid (by rw [hw1.out]; exact (Fr.refl _ wr).alloc _)
  have P1 : Hid (PJ w1 X t r m m T T) := Lib.hid (h.new_ (F := fun _ => False) (by rw [hw1.out]; exact (Fr.refl _ wr).alloc _))
  have X1 : Hid (Blk w1 wr.heap.size 56 #[.int .i64 3, .int .i64 who, .int .i64 too, .int .i64 leave, .int .u64 key, .int .u64 value]) := Lib.hid (by rw [hw1.out]; exact Blk.new _ _ _)
  have c0 : w1.cell? ⟨wr.heap.size, 0, none⟩ = some (.int .i64 3) := X1.out.cell 0
  have c4 : w1.cell? ⟨wr.heap.size, 4, none⟩ = some (.int .u64 key) := X1.out.cell 4
  have C1 := Lib.hid (P1.out.takeT hm key)
  clear h
  go_enter Tryd.func34, Tryd.ntmps34
  go_wp2_with fail
  rw [← hw1.out]
  refine C1.out.mono ?_
  rintro _ w2 ⟨rfl, Y2, p2, f2⟩
  have X2 := Lib.hid (f2.blk X1.out (P1.out.notStep X1.out))
  have P2 := Lib.hid p2
  have F2 := Lib.hid (F1.out.trans f2)
  have e4 : w2.cell? ⟨wr.heap.size, 4, none⟩ = some (.int .u64 key) := X2.out.cell 4
  have C2 := Lib.hid (P2.out.takeU hm hc key)
  clear p2 f2 C1 c0 c4 hw1
  generalize T.get key = vv at *
  generalize hv2 : decide (key ∈ T.l) = bb at *
  go_wp2_with fail
  refine C2.out.mono ?_
  rintro _ w3 ⟨rfl, Y3, p3, f3⟩
  have P3 := Lib.hid p3
  have F3 := Lib.hid (F2.out.trans f3)
  clear p3 f3 C2 e4 hv2
  have q1 : (bb == bb) = true := by cases bb <;> rfl
  go_wp2
  go_ret
  exact ⟨rfl, Y3, P3.out.more, F3.out⟩
set_option maxRecDepth 100000 in
theorem plays4_j {wr : World} {X : Nat → Prop} {t r m : Nat} {T : Tbl Int} (h : PJ wr X t r m m T T) (hm : m ≤ 2932031007402) (who too leave key value : Int) (hl1 : -9223372036854775808 ≤ leave) (hl2 : leave ≤ 9223372036854775807) :
    Calls Tryd.prog 34 #[.pointer (some ⟨t, 0, none⟩), .pointer (some ⟨r, 0, none⟩), .agg #[.int .i64 4, .int .i64 who, .int .i64 too, .int .i64 leave, .int .u64 key, .int .u64 value]] wr fun e w' => e = .returned (.bool true) ∧ ∃ X', PJ w' X' t r (m + 1) (m + 1) (T) (T) ∧ Fr X wr X' w' := by
  obtain ⟨w1, hw1⟩ : ∃ u, Hid (u = wr.alloc (.cells #[.int .i64 4, .int .i64 who, .int .i64 too, .int .i64 leave, .int .u64 key, .int .u64 value] 56)) := ⟨_, Lib.hid rfl⟩
  have F1 : Hid (Fr X wr X w1) := Lib.hid (by rw [hw1.out]; exact (Fr.refl _ wr).alloc _)
  have P1 : Hid (PJ w1 X t r m m T T) := Lib.hid (h.new_ (F := fun _ => False) (by rw [hw1.out]; exact (Fr.refl _ wr).alloc _))
  have X1 : Hid (Blk w1 wr.heap.size 56 #[.int .i64 4, .int .i64 who, .int .i64 too, .int .i64 leave, .int .u64 key, .int .u64 value]) := Lib.hid (by rw [hw1.out]; exact Blk.new _ _ _)
  have c0 : w1.cell? ⟨wr.heap.size, 0, none⟩ = some (.int .i64 4) := X1.out.cell 0
  have c3 : w1.cell? ⟨wr.heap.size, 3, none⟩ = some (.int .i64 leave) := X1.out.cell 3
  have C1 := Lib.hid (goes_b (P1.out.vw hm) P1.out leave hl1 hl2)
  clear h
  go_enter Tryd.func34, Tryd.ntmps34
  go_wp2_with fail
  rw [← hw1.out]
  refine C1.out.mono ?_
  rintro _ w2 ⟨rfl, f2⟩
  have f2 := Lib.hid f2
  clear C1
  go_wp2
  go_ret
  exact ⟨rfl, X, (P1.out.new_ f2.out).more, F1.out.trans ((f2.out.wide fun _ h => h.elim).into fun _ h => .inr (.inl h))⟩
set_option maxRecDepth 100000 in
theorem plays5_j {wr : World} {X : Nat → Prop} {t r m : Nat} {T : Tbl Int} (h : PJ wr X t r m m T T) (hm : m ≤ 2932031007402) (who too leave key value : Int) :
    Calls Tryd.prog 34 #[.pointer (some ⟨t, 0, none⟩), .pointer (some ⟨r, 0, none⟩), .agg #[.int .i64 5, .int .i64 who, .int .i64 too, .int .i64 leave, .int .u64 key, .int .u64 value]] wr fun e w' => e = .returned (.bool true) ∧ ∃ X', PJ w' X' t r (m + 1) (m + 1) (T) (T) ∧ Fr X wr X' w' := by
  obtain ⟨w1, hw1⟩ : ∃ u, Hid (u = wr.alloc (.cells #[.int .i64 5, .int .i64 who, .int .i64 too, .int .i64 leave, .int .u64 key, .int .u64 value] 56)) := ⟨_, Lib.hid rfl⟩
  have F1 : Hid (Fr X wr X w1) := Lib.hid (by rw [hw1.out]; exact (Fr.refl _ wr).alloc _)
  have P1 : Hid (PJ w1 X t r m m T T) := Lib.hid (h.new_ (F := fun _ => False) (by rw [hw1.out]; exact (Fr.refl _ wr).alloc _))
  have X1 : Hid (Blk w1 wr.heap.size 56 #[.int .i64 5, .int .i64 who, .int .i64 too, .int .i64 leave, .int .u64 key, .int .u64 value]) := Lib.hid (by rw [hw1.out]; exact Blk.new _ _ _)
  have c0 : w1.cell? ⟨wr.heap.size, 0, none⟩ = some (.int .i64 5) := X1.out.cell 0
  have c4 : w1.cell? ⟨wr.heap.size, 4, none⟩ = some (.int .u64 key) := X1.out.cell 4
  have C1 := Lib.hid (tells_b (P1.out.vw hm) P1.out key)
  clear h
  go_enter Tryd.func34, Tryd.ntmps34
  go_wp2_with fail
  rw [← hw1.out]
  refine C1.out.mono ?_
  rintro _ w2 ⟨rfl, f2⟩
  have f2 := Lib.hid f2
  clear C1
  go_wp2
  go_ret
  exact ⟨rfl, X, (P1.out.new_ f2.out).more, F1.out.trans ((f2.out.wide fun _ h => h.elim).into fun _ h => .inr (.inl h))⟩
set_option maxRecDepth 100000 in
theorem plays6_j {wr : World} {X : Nat → Prop} {t r m : Nat} {T : Tbl Int} (h : PJ wr X t r m m T T) (hm : m ≤ 2932031007402) (who too leave key value : Int) :
    Calls Tryd.prog 34 #[.pointer (some ⟨t, 0, none⟩), .pointer (some ⟨r, 0, none⟩), .agg #[.int .i64 6, .int .i64 who, .int .i64 too, .int .i64 leave, .int .u64 key, .int .u64 value]] wr fun e w' => e = .returned (.bool true) ∧ ∃ X', PJ w' X' t r (m + 1) (m + 1) (Tbl.new 0) (Tbl.new 0) ∧ Fr X wr X' w' := by
  obtain ⟨w1, hw1⟩ : ∃ u, Hid (u = wr.alloc (.cells #[.int .i64 6, .int .i64 who, .int .i64 too, .int .i64 leave, .int .u64 key, .int .u64 value] 56)) := ⟨_, Lib.hid rfl⟩
  have F1 : Hid (Fr X wr X w1) := Lib.hid (by rw [hw1.out]; exact (Fr.refl _ wr).alloc _)
  have P1 : Hid (PJ w1 X t r m m T T) := Lib.hid (h.new_ (F := fun _ => False) (by rw [hw1.out]; exact (Fr.refl _ wr).alloc _))
  have X1 : Hid (Blk w1 wr.heap.size 56 #[.int .i64 6, .int .i64 who, .int .i64 too, .int .i64 leave, .int .u64 key, .int .u64 value]) := Lib.hid (by rw [hw1.out]; exact Blk.new _ _ _)
  have c0 : w1.cell? ⟨wr.heap.size, 0, none⟩ = some (.int .i64 6) := X1.out.cell 0
  have C1 := Lib.hid P1.out.clearT
  clear h
  go_enter Tryd.func34, Tryd.ntmps34
  go_wp2_with fail
  rw [← hw1.out]
  refine C1.out.mono ?_
  rintro _ w2 ⟨⟨v2, rfl⟩, Y2, p2, f2⟩
  have P2 := Lib.hid p2
  have F2 := Lib.hid (F1.out.trans f2)
  have C2 := Lib.hid P2.out.clearU
  clear p2 f2 C1
  go_wp2_with fail
  refine C2.out.mono ?_
  rintro _ w3 ⟨⟨v3, rfl⟩, Y3, p3, f3⟩
  have P3 := Lib.hid p3
  have F3 := Lib.hid (F2.out.trans f3)
  clear p3 f3 C2
  go_wp2
  go_ret
  exact ⟨rfl, Y3, P3.out.more, F3.out⟩
set_option maxRecDepth 100000 in
theorem plays0_j {wr : World} {X : Nat → Prop} {t r m : Nat} {T : Tbl Int} (h : PJ wr X t r m m T T) (hm : m ≤ 2932031007402) (kind : Int) (hk1 : kind ≠ 1) (hk2 : kind ≠ 2) (hk3 : kind ≠ 3) (hk4 : kind ≠ 4) (hk5 : kind ≠ 5) (hk6 : kind ≠ 6) (who too leave key value : Int) :
    Calls Tryd.prog 34 #[.pointer (some ⟨t, 0, none⟩), .pointer (some ⟨r, 0, none⟩), .agg #[.int .i64 kind, .int .i64 who, .int .i64 too, .int .i64 leave, .int .u64 key, .int .u64 value]] wr fun e w' => e = .returned (.bool true) ∧ ∃ X', PJ w' X' t r (m + 1) (m + 1) (T) (T) ∧ Fr X wr X' w' := by
  obtain ⟨w1, hw1⟩ : ∃ u, Hid (u = wr.alloc (.cells #[.int .i64 kind, .int .i64 who, .int .i64 too, .int .i64 leave, .int .u64 key, .int .u64 value] 56)) := ⟨_, Lib.hid rfl⟩
  have F1 : Hid (Fr X wr X w1) := Lib.hid (by rw [hw1.out]; exact (Fr.refl _ wr).alloc _)
  have P1 : Hid (PJ w1 X t r m m T T) := Lib.hid (h.new_ (F := fun _ => False) (by rw [hw1.out]; exact (Fr.refl _ wr).alloc _))
  have X1 : Hid (Blk w1 wr.heap.size 56 #[.int .i64 kind, .int .i64 who, .int .i64 too, .int .i64 leave, .int .u64 key, .int .u64 value]) := Lib.hid (by rw [hw1.out]; exact Blk.new _ _ _)
  have c0 : w1.cell? ⟨wr.heap.size, 0, none⟩ = some (.int .i64 kind) := X1.out.cell 0
  replace hk1 : (kind == 1) = false := by simpa using hk1
  replace hk2 : (kind == 2) = false := by simpa using hk2
  replace hk3 : (kind == 3) = false := by simpa using hk3
  replace hk4 : (kind == 4) = false := by simpa using hk4
  replace hk5 : (kind == 5) = false := by simpa using hk5
  replace hk6 : (kind == 6) = false := by simpa using hk6
  replace h := Lib.hid h
  go_enter Tryd.func34, Tryd.ntmps34
  go_wp2_with fail
  rw [← hw1.out]
  go_wp2
  go_ret
  exact ⟨rfl, X, P1.out.more, F1.out⟩
set_option maxRecDepth 100000 in
theorem plays1_n {wr : World} (who too leave key value : Int) :
    Calls Tryd.prog 34 #[.pointer none, .pointer none, .agg #[.int .i64 1, .int .i64 who, .int .i64 too, .int .i64 leave, .int .u64 key, .int .u64 value]] wr fun e w' => e = .returned (.bool true) ∧ Fr (fun _ => False) wr (fun _ => False) w' := by
  obtain ⟨w1, hw1⟩ : ∃ u, Hid (u = wr.alloc (.cells #[.int .i64 1, .int .i64 who, .int .i64 too, .int .i64 leave, .int .u64 key, .int .u64 value] 56)) := ⟨_, Lib.hid rfl⟩
  have F1 : Hid (Fr (fun _ => False) wr (fun _ => False) w1) := Lib.hid (by rw [hw1.out]; exact (Fr.refl _ wr).alloc _)
  have X1 : Hid (Blk w1 wr.heap.size 56 #[.int .i64 1, .int .i64 who, .int .i64 too, .int .i64 leave, .int .u64 key, .int .u64 value]) := Lib.hid (by rw [hw1.out]; exact Blk.new _ _ _)
  have c0 : w1.cell? ⟨wr.heap.size, 0, none⟩ = some (.int .i64 1) := X1.out.cell 0
  have c4 : w1.cell? ⟨wr.heap.size, 4, none⟩ = some (.int .u64 key) := X1.out.cell 4
  have c5 : w1.cell? ⟨wr.heap.size, 5, none⟩ = some (.int .u64 value) := X1.out.cell 5
  go_enter Tryd.func34, Tryd.ntmps34
  go_wp2_with fail
  rw [← hw1.out]
  refine (nilPutW_b (p := none) (w := w1) (.inl rfl)).mono ?_
  rintro _ w2 ⟨rfl, hw2⟩
  have X2 : Hid (Blk w2 wr.heap.size 56 #[.int .i64 1, .int .i64 who, .int .i64 too, .int .i64 leave, .int .u64 key, .int .u64 value]) := Lib.hid (by rw [hw2]; exact X1.out.alloc _)
  have F2 : Hid (Fr (fun _ => False) wr (fun _ => False) w2) := Lib.hid (by rw [hw2]; exact F1.out.alloc _)
  have e4 : w2.cell? ⟨wr.heap.size, 4, none⟩ = some (.int .u64 key) := X2.out.cell 4
  have e5 : w2.cell? ⟨wr.heap.size, 5, none⟩ = some (.int .u64 value) := X2.out.cell 5
  clear hw2 c0 c4 c5 hw1
  go_wp2_with fail
  refine (nilPutR_b (w := w2)).mono ?_
  rintro _ w3 ⟨rfl, rfl⟩
  go_wp2_with fail
  refine num_b.mono ?_
  rintro _ w4 ⟨rfl, rfl⟩
  go_wp2_with fail
  refine (nilSlotsW_b (p := none) (w := w2) (.inl rfl)).mono ?_
  rintro _ w4 ⟨rfl, rfl⟩
  go_wp2_with fail
  refine (nilSlotsR_b (w := w2)).mono ?_
  rintro _ w4 ⟨rfl, rfl⟩
  go_wp2
  go_ret
  exact ⟨rfl, F2.out⟩
set_option maxRecDepth 100000 in
theorem plays2_n {wr : World} (who too leave key value : Int) :
    Calls Tryd.prog 34 #[.pointer none, .pointer none, .agg #[.int .i64 2, .int .i64 who, .int .i64 too, .int .i64 leave, .int .u64 key, .int .u64 value]] wr fun e w' => e = .returned (.bool true) ∧ Fr (fun _ => False) wr (fun _ => False) w' := by
  obtain ⟨w1, hw1⟩ : ∃ u, Hid (u = wr.alloc (.cells #[.int .i64 2, .int .i64 who, .int .i64 too, .int .i64 leave, .int .u64 key, .int .u64 value] 56)) := ⟨_, Lib.hid rfl⟩
  have F1 : Hid (Fr (fun _ => False) wr (fun _ => False) w1) := Lib.hid (by rw [hw1.out]; exact (Fr.refl _ wr).alloc _)
  have X1 : Hid (Blk w1 wr.heap.size 56 #[.int .i64 2, .int .i64 who, .int .i64 too, .int .i64 leave, .int .u64 key, .int .u64 value]) := Lib.hid (by rw [hw1.out]; exact Blk.new _ _ _)
  have c0 : w1.cell? ⟨wr.heap.size, 0, none⟩ = some (.int .i64 2) := X1.out.cell 0
  have c4 : w1.cell? ⟨wr.heap.size, 4, none⟩ = some (.int .u64 key) := X1.out.cell 4
  go_enter Tryd.func34, Tryd.ntmps34
  go_wp2_with fail
  rw [← hw1.out]
  refine (nilGetW_b (p := none) (w := w1) (.inl rfl)).mono ?_
  rintro _ w2 ⟨rfl, rfl⟩
  go_wp2_with fail
  refine (nilGetR_b (w := w1)).mono ?_
  rintro _ w2 ⟨rfl, rfl⟩
  go_wp2
  go_ret
  exact ⟨rfl, F1.out⟩
set_option maxRecDepth 100000 in
theorem plays3_n {wr : World} (who too leave key value : Int) :
    Calls Tryd.prog 34 #[.pointer none, .pointer none, .agg #[.int .i64 3, .int .i64 who, .int .i64 too, .int .i64 leave, .int .u64 key, .int .u64 value]] wr fun e w' => e = .returned (.bool true) ∧ Fr (fun _ => False) wr (fun _ => False) w' := by
  obtain ⟨w1, hw1⟩ : ∃ u, Hid (u = wr.alloc (.cells #[.int .i64 3, .int .i64 who, .int .i64 too, .int .i64 leave, .int .u64 key, .int .u64 value] 56)) := ⟨_, Lib.hid rfl⟩
  have F1 : Hid (Fr (fun _ => False) wr (fun _ => False) w1) := Lib.hid (by rw [hw1.out]; exact (Fr.refl _ wr).alloc _)
  have X1 : Hid (Blk w1 wr.heap.size 56 #[.int .i64 3, .int .i64 who, .int .i64 too, .int .i64 leave, .int .u64 key, .int .u64 value]) := Lib.hid (by rw [hw1.out]; exact Blk.new _ _ _)
  have c0 : w1.cell? ⟨wr.heap.size, 0, none⟩ = some (.int .i64 3) := X1.out.cell 0
  have c4 : w1.cell? ⟨wr.heap.size, 4, none⟩ = some (.int .u64 key) := X1.out.cell 4
  go_enter Tryd.func34, Tryd.ntmps34
  go_wp2_with fail
  rw [← hw1.out]
  refine (nilTakeW_b (p := none) (w := w1) (.inl rfl)).mono ?_
  rintro _ w2 ⟨rfl, rfl⟩
  go_wp2_with fail
  refine (nilTakeR_b (w := w1)).mono ?_
  rintro _ w2 ⟨rfl, rfl⟩
  go_wp2
  go_ret
  exact ⟨rfl, F1.out⟩
set_option maxRecDepth 100000 in
theorem plays4_n {wr : World} (who too leave key value : Int) (hl1 : -9223372036854775808 ≤ leave) (hl2 : leave ≤ 9223372036854775807) :
    Calls Tryd.prog 34 #[.pointer none, .pointer none, .agg #[.int .i64 4, .int .i64 who, .int .i64 too, .int .i64 leave, .int .u64 key, .int .u64 value]] wr fun e w' => e = .returned (.bool true) ∧ Fr (fun _ => False) wr (fun _ => False) w' := by
  obtain ⟨w1, hw1⟩ : ∃ u, Hid (u = wr.alloc (.cells #[.int .i64 4, .int .i64 who, .int .i64 too, .int .i64 leave, .int .u64 key, .int .u64 value] 56)) := ⟨_, Lib.hid rfl⟩
  have F1 : Hid (Fr (fun _ => False) wr (fun _ => False) w1) := Lib.hid (by rw [hw1.out]; exact (Fr.refl _ wr).alloc _)
  have X1 : Hid (Blk w1 wr.heap.size 56 #[.int .i64 4, .int .i64 who, .int .i64 too, .int .i64 leave, .int .u64 key, .int .u64 value]) := Lib.hid (by rw [hw1.out]; exact Blk.new _ _ _)
  have c0 : w1.cell? ⟨wr.heap.size, 0, none⟩ = some (.int .i64 4) := X1.out.cell 0
  have c3 : w1.cell? ⟨wr.heap.size, 3, none⟩ = some (.int .i64 leave) := X1.out.cell 3
  have C1 := Lib.hid (goes_b (wr := w1) nil_vw trivial leave hl1 hl2)
  go_enter Tryd.func34, Tryd.ntmps34
  go_wp2_with fail
  rw [← hw1.out]
  refine C1.out.mono ?_
  rintro _ w2 ⟨rfl, f2⟩
  have f2 := Lib.hid f2
  clear C1
  go_wp2
  go_ret
  exact ⟨rfl, F1.out.trans f2.out⟩
set_option maxRecDepth 100000 in
theorem plays5_n {wr : World} (who too leave key value : Int) :
    Calls Tryd.prog 34 #[.pointer none, .pointer none, .agg #[.int .i64 5, .int .i64 who, .int .i64 too, .int .i64 leave, .int .u64 key, .int .u64 value]] wr fun e w' => e = .returned (.bool true) ∧ Fr (fun _ => False) wr (fun _ => False) w' := by
  obtain ⟨w1, hw1⟩ : ∃ u, Hid (u = wr.alloc (.cells #[.int .i64 5, .int .i64 who, .int .i64 too, .int .i64 leave, .int .u64 key, .int .u64 value] 56)) := ⟨_, Lib.hid rfl⟩
  have F1 : Hid (Fr (fun _ => False) wr (fun _ => False) w1) := Lib.hid (by rw [hw1.out]; exact (Fr.refl _ wr).alloc _)
  have X1 : Hid (Blk w1 wr.heap.size 56 #[.int .i64 5, .int .i64 who, .int .i64 too, .int .i64 leave, .int .u64 key, .int .u64 value]) := Lib.hid (by rw [hw1.out]; exact Blk.new _ _ _)
  have c0 : w1.cell? ⟨wr.heap.size, 0, none⟩ = some (.int .i64 5) := X1.out.cell 0
  have c4 : w1.cell? ⟨wr.heap.size, 4, none⟩ = some (.int .u64 key) := X1.out.cell 4
  have C1 := Lib.hid (tells_b (wr := w1) nil_vw trivial key)
  go_enter Tryd.func34, Tryd.ntmps34
  go_wp2_with fail
  rw [← hw1.out]
  refine C1.out.mono ?_
  rintro _ w2 ⟨rfl, f2⟩
  have f2 := Lib.hid f2
  clear C1
  go_wp2
  go_ret
  exact ⟨rfl, F1.out.trans f2.out⟩
set_option maxRecDepth 100000 in
theorem plays6_n {wr : World} (who too leave key value : Int) :
    Calls Tryd.prog 34 #[.pointer none, .pointer none, .agg #[.int .i64 6, .int .i64 who, .int .i64 too, .int .i64 leave, .int .u64 key, .int .u64 value]] wr fun e w' => e = .returned (.bool true) ∧ Fr (fun _ => False) wr (fun _ => False) w' := by
  obtain ⟨w1, hw1⟩ : ∃ u, Hid (u = wr.alloc (.cells #[.int .i64 6, .int .i64 who, .int .i64 too, .int .i64 leave, .int .u64 key, .int .u64 value] 56)) := ⟨_, Lib.hid rfl⟩
  have F1 : Hid (Fr (fun _ => False) wr (fun _ => False) w1) := Lib.hid (by rw [hw1.out]; exact (Fr.refl _ wr).alloc _)
  have X1 : Hid (Blk w1 wr.heap.size 56 #[.int .i64 6, .int .i64 who, .int .i64 too, .int .i64 leave, .int .u64 key, .int .u64 value]) := Lib.hid (by rw [hw1.out]; exact Blk.new _ _ _)
  have c0 : w1.cell? ⟨wr.heap.size, 0, none⟩ = some (.int .i64 6) := X1.out.cell 0
  go_enter Tryd.func34, Tryd.ntmps34
  go_wp2_with fail
  rw [← hw1.out]
  refine (nilClearW_b (p := none) (w := w1) (.inl rfl)).mono ?_
  rintro _ w2 ⟨⟨v2, rfl⟩, rfl⟩
  go_wp2_with fail
  refine (nilClearR_b (w := w1)).mono ?_
  rintro _ w2 ⟨⟨v3, rfl⟩, rfl⟩
  go_wp2
  go_ret
  exact ⟨rfl, F1.out⟩
set_option maxRecDepth 100000 in
theorem plays0_n {wr : World} (kind : Int) (hk1 : kind ≠ 1) (hk2 : kind ≠ 2) (hk3 : kind ≠ 3) (hk4 : kind ≠ 4) (hk5 : kind ≠ 5) (hk6 : kind ≠ 6) (who too leave key value : Int) :
    Calls Tryd.prog 34 #[.pointer none, .pointer none, .agg #[.int .i64 kind, .int .i64 who, .int .i64 too, .int .i64 leave, .int .u64 key, .int .u64 value]] wr fun e w' => e = .returned (.bool true) ∧ Fr (fun _ => False) wr (fun _ => False) w' := by
  obtain ⟨w1, hw1⟩ : ∃ u, Hid (u = wr.alloc (.cells #[.int .i64 kind, .int .i64 who, .int .i64 too, .int .i64 leave, .int .u64 key, .int .u64 value] 56)) := ⟨_, Lib.hid rfl⟩
  have F1 : Hid (Fr (fun _ => False) wr (fun _ => False) w1) := Lib.hid (by rw [hw1.out]; exact (Fr.refl _ wr).alloc _)
  have X1 : Hid (Blk w1 wr.heap.size 56 #[.int .i64 kind, .int .i64 who, .int .i64 too, .int .i64 leave, .int .u64 key, .int .u64 value]) := Lib.hid (by rw [hw1.out]; exact Blk.new _ _ _)
  have c0 : w1.cell? ⟨wr.heap.size, 0, none⟩ = some (.int .i64 kind) := X1.out.cell 0
  replace hk1 : (kind == 1) = false := by simpa using hk1
  replace hk2 : (kind == 2) = false := by simpa using hk2
  replace hk3 : (kind == 3) = false := by simpa using hk3
  replace hk4 : (kind == 4) = false := by simpa using hk4
  replace hk5 : (kind == 5) = false := by simpa using hk5
  replace hk6 : (kind == 6) = false := by simpa using hk6
  go_enter Tryd.func34, Tryd.ntmps34
  go_wp2_with fail
  rw [← hw1.out]
  go_wp2
  go_ret
  exact ⟨rfl, F1.out⟩
end Go.Proofs.YtkjeobcfaolcaaaDoor
/- A pair of tables, or of none: plays, tells, Copy, by contract; place. -/
namespace Go.Proofs.YtkjeobcfaolcaaaDoor
open Go.RowKit
set_option maxHeartbeats 4000000
set_option linter.unusedVariables false
set_option linter.unusedSimpArgs false

/-- p, q: the two tables, or none; X: their blocks; m: how many calls there have been -/
def Pr (W : World) (X : Nat → Prop) (p q : Option Addr) (m : Nat) (T : Tbl Int) : Prop :=
  (p = none ∧ q = none ∧ X = fun _ => False) ∨ (∃ t r, p = some ⟨t, 0, none⟩ ∧ q = some ⟨r, 0, none⟩ ∧ PJ W X t r m m T T ∧ T.s.Clean 0)
theorem Pr.lt {W : World} {X : Nat → Prop} {p q : Option Addr} {m : Nat} {T : Tbl Int} (h : Pr W X p q m T) : ∀ j, X j → j < W.heap.size := by
  rcases h with ⟨_, _, rfl⟩ | ⟨t, r, _, _, h, _⟩
  · exact fun _ h => h.elim
  · exact h.lt
theorem Pr.fr {W W' : World} {X F F' : Nat → Prop} {p q : Option Addr} {m : Nat} {T : Tbl Int} (h : Pr W X p q m T) (hf : Fr F W F' W') (hd : ∀ j, X j → ¬ F j) (h1 : ¬ F 1) : Pr W' X p q m T := by
  rcases h with h | ⟨t, r, hp, hq, h, hc⟩
  · exact .inl h
  · exact .inr ⟨t, r, hp, hq, h.fr hf hd h1, hc⟩
theorem Pr.more {W : World} {X : Nat → Prop} {p q : Option Addr} {m : Nat} {T : Tbl Int} (h : Pr W X p q m T) : Pr W X p q (m + 1) T := by
  rcases h with h | ⟨t, r, hp, hq, h, hc⟩
  · exact .inl h
  · exact .inr ⟨t, r, hp, hq, h.more, hc⟩
theorem Pr.drewN {W : World} {X : Nat → Prop} {p q : Option Addr} {m : Nat} {T : Tbl Int} (h : Pr W X p q m T) (n : Nat) : Pr (W.drewN n) X p q m T := h.fr ((Fr.refl (fun _ => False) W).drewN n) (fun _ _ h => h) fun h => h
theorem Pr.none_iff {W : World} {X : Nat → Prop} {p q : Option Addr} {m : Nat} {T : Tbl Int} (h : Pr W X p q m T) : (p = none ∧ q = none) ∨ ∃ a b, p = some a ∧ q = some b := by
  rcases h with ⟨hp, hq, _⟩ | ⟨t, r, hp, hq, _⟩
  · exact .inl ⟨hp, hq⟩
  · exact .inr ⟨_, _, hp, hq⟩
theorem plays_pr {W : World} {X : Nat → Prop} {p q : Option Addr} {m : Nat} {T : Tbl Int} (h : Pr W X p q m T) (hm : m ≤ 2932031007402) (kind who too leave key value : Int) (hl1 : -9223372036854775808 ≤ leave) (hl2 : leave ≤ 9223372036854775807) :
    Calls Tryd.prog 34 #[.pointer p, .pointer q, .agg #[.int .i64 kind, .int .i64 who, .int .i64 too, .int .i64 leave, .int .u64 key, .int .u64 value]] W fun e W' => e = .returned (.bool true) ∧ ∃ X' T', Pr W' X' p q (m + 1) T' ∧ Fr X W X' W' := by
  rcases h with ⟨rfl, rfl, rfl⟩ | ⟨t, r, rfl, rfl, h, hc⟩
  · have fin : ∀ W', Fr (fun _ => False) W (fun _ => False) W' → ∃ X' T', Pr W' X' none none (m + 1) T' ∧ Fr (fun _ => False) W X' W' := fun W' hf => ⟨_, T, .inl ⟨rfl, rfl, rfl⟩, hf⟩
    by_cases h1 : kind = 1
    · subst h1; exact (plays1_n who too leave key value).mono fun e W' ⟨he, hf⟩ => ⟨he, fin W' hf⟩
    by_cases h2 : kind = 2
    · subst h2; exact (plays2_n who too leave key value).mono fun e W' ⟨he, hf⟩ => ⟨he, fin W' hf⟩
    by_cases h3 : kind = 3
    · subst h3; exact (plays3_n who too leave key value).mono fun e W' ⟨he, hf⟩ => ⟨he, fin W' hf⟩
    by_cases h4 : kind = 4
    · subst h4; exact (plays4_n who too leave key value hl1 hl2).mono fun e W' ⟨he, hf⟩ => ⟨he, fin W' hf⟩
    by_cases h5 : kind = 5
    · subst h5; exact (plays5_n who too leave key value).mono fun e W' ⟨he, hf⟩ => ⟨he, fin W' hf⟩
    by_cases h6 : kind = 6
    · subst h6; exact (plays6_n who too leave key value).mono fun e W' ⟨he, hf⟩ => ⟨he, fin W' hf⟩
    exact (plays0_n kind h1 h2 h3 h4 h5 h6 who too leave key value).mono fun e W' ⟨he, hf⟩ => ⟨he, fin W' hf⟩
  · have fin : ∀ W' T', T'.s.Clean 0 → (∃ X', PJ W' X' t r (m + 1) (m + 1) T' T' ∧ Fr X W X' W') → ∃ X' T', Pr W' X' (some ⟨t, 0, none⟩) (some ⟨r, 0, none⟩) (m + 1) T' ∧ Fr X W X' W' := fun W' T' hc ⟨X', hp, hf⟩ => ⟨X', T', .inr ⟨t, r, rfl, rfl, hp, hc⟩, hf⟩
    by_cases h1 : kind = 1
    · subst h1; exact (plays1_j h hm who too leave key value).mono fun e W' ⟨he, hf⟩ => ⟨he, fin W' _ (Tbl.clean_put hc key value) hf⟩
    by_cases h2 : kind = 2
    · subst h2; exact (plays2_j h hm who too leave key value).mono fun e W' ⟨he, hf⟩ => ⟨he, fin W' _ hc hf⟩
    by_cases h3 : kind = 3
    · subst h3; exact (plays3_j h hm hc who too leave key value).mono fun e W' ⟨he, hf⟩ => ⟨he, fin W' _ (Tbl.clean_take hc key) hf⟩
    by_cases h4 : kind = 4
    · subst h4; exact (plays4_j h hm who too leave key value hl1 hl2).mono fun e W' ⟨he, hf⟩ => ⟨he, fin W' _ hc hf⟩
    by_cases h5 : kind = 5
    · subst h5; exact (plays5_j h hm who too leave key value).mono fun e W' ⟨he, hf⟩ => ⟨he, fin W' _ hc hf⟩
    by_cases h6 : kind = 6
    · subst h6; exact (plays6_j h hm who too leave key value).mono fun e W' ⟨he, hf⟩ => ⟨he, fin W' _ (Tbl.clean_new 0) hf⟩
    exact (plays0_j h hm kind h1 h2 h3 h4 h5 h6 who too leave key value).mono fun e W' ⟨he, hf⟩ => ⟨he, fin W' _ hc hf⟩
theorem tells_pr {W : World} {X : Nat → Prop} {p q : Option Addr} {m : Nat} {T : Tbl Int} (h : Pr W X p q m T) (hm : m ≤ 2932031007402) (key : Int) :
    Calls Tryd.prog 35 #[.pointer p, .pointer q, .int .u64 key] W fun e W' => e = .returned (.bool true) ∧ Fr (fun _ => False) W (fun _ => False) W' := by
  rcases h with ⟨rfl, rfl, rfl⟩ | ⟨t, r, rfl, rfl, h, hc⟩
  · exact tells_b nil_vw trivial key
  · exact tells_b (h.vw hm) h key
/-- a copy of the program's table p is p', of blocks F -/
def CpT (W : World) (F : Nat → Prop) (p p' : Option Addr) (T : Tbl Int) : Prop := (p = none ∧ p' = none ∧ F = fun _ => False) ∨ (p ≠ none ∧ ∃ t', p' = some ⟨t', 0, none⟩ ∧ TbW W t' F T)
def CpR (W : World) (F : Nat → Prop) (q q' : Option Addr) (T : Tbl Int) : Prop := (q = none ∧ q' = none ∧ F = fun _ => False) ∨ (q ≠ none ∧ ∃ r', q' = some ⟨r', 0, none⟩ ∧ TbR W r' F T)
theorem copyT_pr {W : World} {X : Nat → Prop} {p q : Option Addr} {m : Nat} {T : Tbl Int} (h : Pr W X p q m T) (hm : m ≤ 2932031007402) :
    Calls Tryd.prog 32 #[.pointer p] W fun e W' => ∃ p' F', e = .returned (.pointer p') ∧ CpT W' F' p p' T ∧ Fr (fun _ => False) W F' W' := by
  rcases h with ⟨rfl, rfl, rfl⟩ | ⟨t, r, rfl, rfl, h, hc⟩
  · exact (nilCopyW_b (p := none) (w := W) (.inl rfl)).mono fun e W' ⟨he, hw⟩ => ⟨none, _, he, .inl ⟨rfl, rfl, rfl⟩, by rw [hw]; exact Fr.refl _ _⟩
  · obtain ⟨F, G, hX, h1, h2, hd⟩ := h.tb
    obtain ⟨hk, hby⟩ := k_lej h.ak hm
    have hla := h.la
    refine (copyW_tb h1 (by omega) hby).mono ?_
    rintro _ W' ⟨t', F', rfl, hb, hf⟩
    exact ⟨_, F', rfl, .inr ⟨by simp, t', rfl, hb⟩, hf⟩
theorem copyR_pr {W : World} {X : Nat → Prop} {p q : Option Addr} {m : Nat} {T : Tbl Int} (h : Pr W X p q m T) (hm : m ≤ 2932031007402) :
    Calls Tryd.prog 33 #[.pointer q] W fun e W' => ∃ q' F', e = .returned (.pointer q') ∧ CpR W' F' q q' T ∧ Fr (fun _ => False) W F' W' := by
  rcases h with ⟨rfl, rfl, rfl⟩ | ⟨t, r, rfl, rfl, h, hc⟩
  · exact (nilCopyR_b (w := W)).mono fun e W' ⟨he, hw⟩ => ⟨none, _, he, .inl ⟨rfl, rfl, rfl⟩, by rw [hw]; exact Fr.refl _ _⟩
  · obtain ⟨F, G, hX, h1, h2, hd⟩ := h.tb
    obtain ⟨hk, hby⟩ := k_lej h.bk hm
    have hlb := h.lb
    refine (copyR_tb h2 (by omega) hby).mono ?_
    rintro _ W' ⟨r', F', rfl, hb, hf⟩
    exact ⟨_, F', rfl, .inr ⟨by simp, r', rfl, hb⟩, hf⟩
/-- both copies make a pair -/
theorem Pr.copied {W W1 W2 : World} {X F G D D' : Nat → Prop} {p q p' q' : Option Addr} {m : Nat} {T : Tbl Int} (h : Pr W X p q m T) (hT : Tab W) (c1 : CpT W1 F p p' T) (f1 : Fr (fun _ => False) W F W1) (f2 : Fr D W1 D' W2) (hD : ∀ j, D j → ¬ F j) (h1 : ¬ D 1)
    {W3 : World} (c2 : CpR W3 G q q' T) (f3 : Fr (fun _ => False) W2 G W3) : Pr W3 (fun j => F j ∨ G j) p' q' m T := by
  rcases h with ⟨rfl, rfl, rfl⟩ | ⟨t, r, rfl, rfl, h, hc⟩
  · rcases c1 with ⟨_, rfl, rfl⟩ | ⟨h, _⟩
    · rcases c2 with ⟨_, rfl, rfl⟩ | ⟨h, _⟩
      · exact .inl ⟨rfl, rfl, by funext j; simp⟩
      · exact (h rfl).elim
    · exact (h rfl).elim
  · rcases c1 with ⟨h, _⟩ | ⟨_, t', rfl, b1⟩
    · cases h
    rcases c2 with ⟨h, _⟩ | ⟨_, r', rfl, b2⟩
    · cases h
    refine .inr ⟨t', r', rfl, rfl, ⟨⟨F, G, rfl, (b1.fr f2 fun j hj hd => hD j hd hj).fr f3 fun _ _ h => h, b2, fun x hx hg => ?_⟩, fun h1 => ?_, ((hT.fr f1 fun h => h).fr f2 h1).fr f3 fun h => h, h.la, h.ak, h.la, h.ak⟩, hc⟩
    · rcases f3.new x hg with h | h
      · exact h
      · have := b1.lt x hx
        have := f2.size
        omega
    · have h9 := hT.lt
      have h8 := f1.size
      have h7 := f2.size
      rcases h1 with h1 | h1
      · exact (f1.new 1 h1).elim (fun h => h) fun h => by omega
      · exact (f3.new 1 h1).elim (fun h => h) fun h => by omega
def plc (n : Int) : Nat := (n % 3).toNat
theorem plc_lt (n : Int) : plc n < 3 := by unfold plc; omega
theorem place_b {w : World} (n : Int) (h1 : -9223372036854775808 ≤ n) (h2 : n ≤ 9223372036854775807) : Calls Tryd.prog 31 #[.int .i64 n] w fun e w' => e = .returned (.int .i64 (plc n : Int)) ∧ w = w' := by
  have ht : n.tmod 3 = if n < 0 then -((-n) % 3) else n % 3 := by
    by_cases h : n < 0
    · rw [if_pos h]
      have := Int.neg_tmod (a := -n) (b := 3)
      rw [Int.neg_neg] at this
      rw [this, Int.tmod_eq_emod_of_nonneg (by omega)]
    · rw [if_neg h, Int.tmod_eq_emod_of_nonneg (by omega)]
  have h3 : -3 < n.tmod 3 := by rw [ht]; split <;> omega
  have h4 : n.tmod 3 < 3 := by rw [ht]; split <;> omega
  have h5 : Hid ((n.tmod 3 < 0 → (plc n : Int) = n.tmod 3 + 3) ∧ (¬ n.tmod 3 < 0 → (plc n : Int) = n.tmod 3)) := Lib.hid (by
    rw [ht]
    unfold plc
    split <;> omega)
  clear ht
  by_cases h6 : n.tmod 3 < 0
  · go_enter Tryd.func31, Tryd.ntmps31
    go_wp2
    go_ret
    exact ⟨ret_int (h5.out.1 h6).symm, rfl⟩
  · go_enter Tryd.func31, Tryd.ntmps31
    go_wp2
    go_ret
    exact ⟨ret_int (h5.out.2 h6).symm, rfl⟩
end Go.Proofs.YtkjeobcfaolcaaaDoor
