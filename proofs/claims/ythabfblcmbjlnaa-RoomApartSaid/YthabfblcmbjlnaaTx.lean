/- The statement's own block over the document's world: its get and its put. -/
import Derived.Test.YthabfblcmbjlnaaGetPut
namespace Go.Proofs.Ythabfblcmbjlnaa
open Go.RowKit
set_option maxHeartbeats 400000

/-- The block t over the world at b, whose words lie at g. -/
def Txw (w : World) (t b g cap : Nat) (s : St) : Prop := Blk w t 29 #[.pointer (some ⟨b, 0, none⟩)] ∧ Wld w b g cap s
section
variable {w w' : World} {t b g cap : Nat} {s : St}
theorem Txw.ne (h : Txw w t b g cap s) : t ≠ b ∧ t ≠ g := by
  obtain ⟨h0, h1, cur, h2, _⟩ := h
  exact ⟨Blk.ne_ h0 h1 (by decide), Blk.ne_ h0 h2 (by decide)⟩
theorem Txw.step {s' : St} (h : Txw w t b g cap s) (hw : Wld w' b g cap s') (hm : Mod b g w w') : Txw w' t b g cap s' :=
  ⟨hm.blk h.1 h.ne.1 h.ne.2, hw⟩
theorem Txw.mod {b' g' : Nat} (h : Txw w t b g cap s) (hm : Mod b' g' w w') (h0 : t ≠ b') (h0' : t ≠ g') (h1 : b ≠ b') (h2 : b ≠ g') (h3 : g ≠ b') (h4 : g ≠ g') : Txw w' t b g cap s :=
  ⟨hm.blk h.1 h0 h0', h.2.mod hm h1 h2 h3 h4⟩
end

theorem tget_any (t b g cap : Nat) (s : St) (a : Int) (ha : 0 ≤ a) (hf : Fits s) (w : World) (hw : Txw w t b g cap s) :
    Calls Try.prog 40 #[.pointer (some ⟨t, 0, none⟩), .int .u64 a] w fun e w' =>
      e = .returned (.tuple #[.int .u64 (sget s a).1, .int .i64 (sget s a).2.1]) ∧ Txw w' t b g cap (sget s a).2.2 ∧ Mod b g w w' := by
  have c0 := hw.1.cell 0
  simp only [List.getElem?_toArray, List.getElem?_cons_zero] at c0
  go_enter Try.func40, Try.ntmps40
  go_wp2_with fail
  refine (wget_any b g cap s a ha hf _ hw.2).mono ?_
  rintro e w' ⟨rfl, h1, h2⟩
  have h1 := Lib.hid h1
  have h2 := Lib.hid h2
  go_wp2_with fail
  go_ret2
  exact ⟨rfl, hw.step h1.out h2.out, h2.out⟩

theorem tput_any (t b g cap : Nat) (s : St) (a x : Int) (ha : 0 ≤ a) (hf : Fits s) (w : World) (hw : Txw w t b g cap s) :
    Calls Try.prog 41 #[.pointer (some ⟨t, 0, none⟩), .int .u64 a, .int .u64 x] w fun e w' =>
      e = .returned (.int .i64 (sput s a x).1) ∧ Txw w' t b g cap (sput s a x).2 ∧ Mod b g w w' := by
  have c0 := hw.1.cell 0
  simp only [List.getElem?_toArray, List.getElem?_cons_zero] at c0
  go_enter Try.func41, Try.ntmps41
  go_wp2_with fail
  refine (wput_any b g cap s a x ha hf _ hw.2).mono ?_
  rintro e w' ⟨rfl, h1, h2⟩
  have h1 := Lib.hid h1
  have h2 := Lib.hid h2
  go_wp2_with fail
  go_ret
  exact ⟨rfl, hw.step h1.out h2.out, h2.out⟩

@[go_sem] theorem method_get (t : Nat) (w : World) : (method 184 24 (.pointer (some ⟨t, 0, none⟩)) "Get").run Try.prog w = .ok (40, .pointer (some ⟨t, 0, none⟩)) w := by kernel_rfl
@[go_sem] theorem method_put (t : Nat) (w : World) : (method 184 24 (.pointer (some ⟨t, 0, none⟩)) "Put").run Try.prog w = .ok (41, .pointer (some ⟨t, 0, none⟩)) w := by kernel_rfl

theorem tget_b {t b g cap : Nat} {s : St} {a : Int} {w w0 : World} (hw : Txw w t b g cap s) (hf : Fits s) (ha : 0 ≤ a) (hm : Mod b g w0 w) :
    Calls Try.prog 40 #[.pointer (some ⟨t, 0, none⟩), .int .u64 a] w fun e w' =>
      ∃ x er s', Hid (sget s a = (x, er, s')) ∧ 0 ≤ x ∧ x ≤ 18446744073709551615 ∧ Fits s' ∧ e = .returned (.tuple #[.int .u64 x, .int .i64 er]) ∧ Txw w' t b g cap s' ∧ Mod b g w0 w' :=
  (tget_any t b g cap s a ha hf w hw).mono fun _ _ ⟨h1, h2, h3⟩ => ⟨_, _, _, Lib.hid rfl, (sget_word hf a).1, (sget_word hf a).2, sget_fits hf a, h1, h2, hm.trans h3⟩
theorem tput_b {t b g cap : Nat} {s : St} {a x : Int} {w w0 : World} (hw : Txw w t b g cap s) (hf : Fits s) (ha : 0 ≤ a) (hx : 0 ≤ x) (hx' : x ≤ 18446744073709551615) (hm : Mod b g w0 w) :
    Calls Try.prog 41 #[.pointer (some ⟨t, 0, none⟩), .int .u64 a, .int .u64 x] w fun e w' =>
      ∃ er s', Hid (sput s a x = (er, s')) ∧ Fits s' ∧ e = .returned (.int .i64 er) ∧ Txw w' t b g cap s' ∧ Mod b g w0 w' :=
  (tput_any t b g cap s a x ha hf w hw).mono fun _ _ ⟨h1, h2, h3⟩ => ⟨_, _, Lib.hid rfl, sput_fits hf a x ⟨hx, hx'⟩, h1, h2, hm.trans h3⟩
end Go.Proofs.Ythabfblcmbjlnaa
