/- A get and a put of the document's world, and of the statement's own block over it. -/
import Derived.Test.YthabfblcmbjlnaaSt
import Derived.Deep.RegionWith
import Derived.Deep.QuietTactic
import Derived.BigQuiet
namespace Go.Proofs.Ythabfblcmbjlnaa
open Go.RowKit
set_option maxHeartbeats 400000

theorem Wld.drew {w : World} {b g cap : Nat} {s : St} (h : Wld w b g cap s) : Wld w.drew b g cap s := h
theorem Wld.drewN {w : World} {b g cap : Nat} {s : St} (h : Wld w b g cap s) (n : Nat) : Wld (w.drewN n) b g cap s := h
theorem Mod.drewN {a w : World} {b g : Nat} (h : Mod b g a w) (n : Nat) : Mod b g a (w.drewN n) := ⟨h.os, h.tape, h.output, h.size, h.block⟩

theorem wget_any (b g cap : Nat) (s : St) (a : Int) (ha : 0 ≤ a) (hf : Fits s) (w : World) (hw : Wld w b g cap s) :
    Calls Try.prog 24 #[.pointer (some ⟨b, 0, none⟩), .int .u64 a] w fun e w' =>
      e = .returned (.tuple #[.int .u64 (sget s a).1, .int .i64 (sget s a).2.1]) ∧ Wld w' b g cap (sget s a).2.2 ∧ Mod b g w w' := by
  have c0 := hw.1.cell 0
  have c1 := hw.1.cell 1
  have c2 := hw.1.cell 2
  have c3 := hw.1.cell 3
  have z1 := hw.1.frozen 1
  have z3 := hw.1.frozen 3
  have hl := hf.len
  simp only [List.getElem?_toArray, List.getElem?_cons_zero, List.getElem?_cons_succ] at c0 c1 c2 c3
  have w1 := hw.calls (wrap64 (s.calls + 1))
  have m1 := (Mod.refl b g w).set (p := ⟨b, 3, none⟩) (.inl rfl) (.int .i64 (wrap64 (s.calls + 1)))
  have hne : g ≠ b := fun e => hw.ne e.symm
  by_cases h0 : s.left = 0
  · have hz : (s.left == 0) = true := by simpa using h0
    have hr := Lib.hid (show sget s a = (0, s.code, { s with calls := wrap64 (s.calls + 1) }) by simp [sget, h0])
    have w1 := Lib.hid w1
    have m1 := Lib.hid m1
    clear h0 hw hf
    go_enter Try.func24, Try.ntmps24
    go_wp2
    go_region
    all_goals go_wp2
    all_goals go_ret2
    all_goals rw [hr.out]
    all_goals exact ⟨rfl, w1.out.drew, m1.out.drew⟩
  · have hz : (s.left == 0) = false := by simpa using h0
    have w2 := w1.left (wrap64 (s.left - 1))
    have m2 := m1.set (p := ⟨b, 1, none⟩) (.inl rfl) (.int .i64 (wrap64 (s.left - 1)))
    by_cases h1 : (s.W.length : Int) ≤ a
    · have hr := Lib.hid (show sget s a = (0, 4, { s with calls := wrap64 (s.calls + 1), left := wrap64 (s.left - 1) }) by simp [sget, h0, h1])
      have w2 := Lib.hid w2
      have m2 := Lib.hid m2
      clear h0 hw hf w1 m1
      go_enter Try.func24, Try.ntmps24
      go_wp2
      go_ret2
      rw [hr.out]
      exact ⟨rfl, w2.out, m2.out⟩
    · obtain ⟨hc, _⟩ := hw.words a.toNat (by omega)
      obtain ⟨x, hx⟩ : ∃ x, s.W.getD a.toNat 0 = x := ⟨_, rfl⟩
      rw [hx] at hc
      have hr := Lib.hid (show sget s a = (x, 0, { s with calls := wrap64 (s.calls + 1), left := wrap64 (s.left - 1) }) by rw [← hx]; simp [sget, h0, h1])
      have w2 := Lib.hid w2
      have m2 := Lib.hid m2
      clear h0 hw hf w1 m1 hx
      go_enter Try.func24, Try.ntmps24
      go_wp2
      go_ret2
      rw [hr.out]
      exact ⟨rfl, w2.out, m2.out⟩

theorem wput_any (b g cap : Nat) (s : St) (a x : Int) (ha : 0 ≤ a) (hf : Fits s) (w : World) (hw : Wld w b g cap s) :
    Calls Try.prog 23 #[.pointer (some ⟨b, 0, none⟩), .int .u64 a, .int .u64 x] w fun e w' =>
      e = .returned (.int .i64 (sput s a x).1) ∧ Wld w' b g cap (sput s a x).2 ∧ Mod b g w w' := by
  have c0 := hw.1.cell 0
  have c1 := hw.1.cell 1
  have c2 := hw.1.cell 2
  have c3 := hw.1.cell 3
  have z1 := hw.1.frozen 1
  have z3 := hw.1.frozen 3
  have hl := hf.len
  simp only [List.getElem?_toArray, List.getElem?_cons_zero, List.getElem?_cons_succ] at c0 c1 c2 c3
  have w1 := hw.calls (wrap64 (s.calls + 1))
  have m1 := (Mod.refl b g w).set (p := ⟨b, 3, none⟩) (.inl rfl) (.int .i64 (wrap64 (s.calls + 1)))
  have hne : g ≠ b := fun e => hw.ne e.symm
  by_cases h0 : s.left = 0
  · have hz : (s.left == 0) = true := by simpa using h0
    have hr := Lib.hid (show sput s a x = (s.code, { s with calls := wrap64 (s.calls + 1) }) by simp [sput, h0])
    have w1 := Lib.hid w1
    have m1 := Lib.hid m1
    clear h0 hw hf
    go_enter Try.func23, Try.ntmps23
    go_wp2
    go_ret
    rw [hr.out]
    exact ⟨rfl, w1.out, m1.out⟩
  · have hz : (s.left == 0) = false := by simpa using h0
    have w2 := w1.left (wrap64 (s.left - 1))
    have m2 := m1.set (p := ⟨b, 1, none⟩) (.inl rfl) (.int .i64 (wrap64 (s.left - 1)))
    by_cases h1 : (s.W.length : Int) ≤ a
    · have hr := Lib.hid (show sput s a x = (4, { s with calls := wrap64 (s.calls + 1), left := wrap64 (s.left - 1) }) by simp [sput, h0, h1])
      have w2 := Lib.hid w2
      have m2 := Lib.hid m2
      clear h0 hw hf w1 m1
      go_enter Try.func23, Try.ntmps23
      go_wp2
      go_ret
      rw [hr.out]
      exact ⟨rfl, w2.out, m2.out⟩
    · obtain ⟨hc, hz2⟩ := hw.words a.toNat (by omega)
      have hr := Lib.hid (show sput s a x = (0, { s with calls := wrap64 (s.calls + 1), left := wrap64 (s.left - 1), W := s.W.set a.toNat x }) by simp [sput, h0, h1])
      have w3 := Lib.hid (w2.word a.toNat x (by simp; omega))
      have m3 := Lib.hid (m2.set (p := ⟨g, a.toNat, none⟩) (.inr (.inl rfl)) (.int .u64 x))
      obtain ⟨y, hy⟩ : ∃ y, s.W.getD a.toNat 0 = y := ⟨_, rfl⟩
      rw [hy] at hc
      clear h0 hw hf w1 m1 w2 m2 hy
      go_enter Try.func23, Try.ntmps23
      go_wp2
      go_ret
      rw [hr.out]
      exact ⟨rfl, w3.out, m3.out⟩

theorem wget_b {b g cap : Nat} {s : St} {a : Int} {w w0 : World} (hw : Wld w b g cap s) (hf : Fits s) (ha : 0 ≤ a) (hm : Mod b g w0 w) :
    Calls Try.prog 24 #[.pointer (some ⟨b, 0, none⟩), .int .u64 a] w fun e w' =>
      ∃ x er s', Hid (sget s a = (x, er, s')) ∧ 0 ≤ x ∧ x ≤ 18446744073709551615 ∧ Fits s' ∧ e = .returned (.tuple #[.int .u64 x, .int .i64 er]) ∧ Wld w' b g cap s' ∧ Mod b g w0 w' :=
  (wget_any b g cap s a ha hf w hw).mono fun _ _ ⟨h1, h2, h3⟩ => ⟨_, _, _, Lib.hid rfl, (sget_word hf a).1, (sget_word hf a).2, sget_fits hf a, h1, h2, hm.trans h3⟩
theorem wput_b {b g cap : Nat} {s : St} {a x : Int} {w w0 : World} (hw : Wld w b g cap s) (hf : Fits s) (ha : 0 ≤ a) (hx : 0 ≤ x) (hx' : x ≤ 18446744073709551615) (hm : Mod b g w0 w) :
    Calls Try.prog 23 #[.pointer (some ⟨b, 0, none⟩), .int .u64 a, .int .u64 x] w fun e w' =>
      ∃ er s', Hid (sput s a x = (er, s')) ∧ Fits s' ∧ e = .returned (.int .i64 er) ∧ Wld w' b g cap s' ∧ Mod b g w0 w' :=
  (wput_any b g cap s a x ha hf w hw).mono fun _ _ ⟨h1, h2, h3⟩ => ⟨_, _, Lib.hid rfl, sput_fits hf a x ⟨hx, hx'⟩, h1, h2, hm.trans h3⟩
end Go.Proofs.Ythabfblcmbjlnaa
