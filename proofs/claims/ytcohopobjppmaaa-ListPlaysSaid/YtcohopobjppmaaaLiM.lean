/- A list given back, by contract; the calls without a tx. -/
import Derived.Test.YtcohopobjppmaaaLiL
import Derived.Test.YtcohopobjppmaaaLiJ
namespace Go.Proofs.Ytcohopobjppmaaa
open Go.RowKit
set_option maxHeartbeats 4000000
set_option linter.unusedVariables false
set_option linter.unusedSimpArgs false

def lDrp (k : Nat) (e : Int) (s : St) (a l : Int) : Int × St := if (lClr k e s a l).2.1 ≠ 0 then ((lClr k e s a l).2.1, (lClr k e s a l).2.2) else rGive (lClr k e s a l).2.2 a l 2
set_option maxRecDepth 100000 in
theorem drop_b {t n N : Nat} {F F0 : Nat → Prop} {s s1 : St} {e1 a l : Int} {w w0 : World} {p' : Pl} {ks' : List Int}
    (hw : Txw w t F s) (hf : Fits s) (hb : Bud s (n + 3 + 3 * N + 2 + N + 1 + 2 * N + 1)) (hN : N ≤ 60000) (ha : 0 ≤ a) (hl : 0 ≤ l) (hl' : l ≤ 18446744073709551615) (hR : hfind (fun _ => true) N s 0 l = some (p', ks', e1, s1)) (hm : Fr F0 w0 F w) :
    Calls Try.prog 13 #[.iface 31 (.pointer (some ⟨t, 0, none⟩)), .int .u64 a, .int .u64 l] w fun en w' =>
      en = .returned (.int .i64 (lDrp ks'.length e1 s1 a l).1) ∧ Lft t n F0 w0 (lDrp ks'.length e1 s1 a l).2 w' := by
  go_enter Try.func13, Try.ntmps13
  go_wp2_with fail
  refine (clear_b (n := n + 3) hw hf hb hN ha hl hl' hR hm).mono ?_
  rintro _ w2 ⟨rfl, hL⟩
  have hd : Hid (lDrp ks'.length e1 s1 a l = if (lClr ks'.length e1 s1 a l).2.1 ≠ 0 then ((lClr ks'.length e1 s1 a l).2.1, (lClr ks'.length e1 s1 a l).2.2) else rGive (lClr ks'.length e1 s1 a l).2.2 a l 2) := Lib.hid rfl
  generalize (lClr ks'.length e1 s1 a l).2.1 = e2 at *
  generalize (lClr ks'.length e1 s1 a l).2.2 = s2 at *
  generalize (lClr ks'.length e1 s1 a l).1 = x2 at *
  obtain ⟨f2, b2, F2, T2, m2⟩ := id hL
  have hL := Lib.hid hL
  clear hw hm hf hb hR
  by_cases he : e2 = 0
  · subst he
    have hd : Hid (lDrp ks'.length e1 s1 a l = rGive s2 a l 2) := Lib.hid (by rw [hd.out, if_neg (by simp)])
    clear hL
    go_wp2_with fail
    refine (give_b (n := n) T2 f2 b2 ha hl hl' (by omega) m2).mono ?_
    rintro _ w3 ⟨e3, s3, q3, rfl, hL3⟩
    have hL3 := Lib.hid hL3
    have hd := Lib.hid (hd.out.trans q3.out)
    clear T2 f2 b2 m2 q3
    go_wp2_with fail
    go_ret
    rw [hd.out]
    exact ⟨rfl, hL3.out⟩
  · have z : (e2 != 0) = true := by simpa using he
    have hd : Hid (lDrp ks'.length e1 s1 a l = (e2, s2)) := Lib.hid (by rw [hd.out, if_pos he])
    clear T2 f2 b2 m2 he
    go_wp2_with fail
    go_ret
    rw [hd.out]
    exact ⟨rfl, hL.out.mono (by omega)⟩
theorem new_nil {a l key : Int} {w : World} : Calls Try.prog 12 #[.nilIface, .int .u64 a] w fun en w' => en = .returned (.tuple #[.int .u64 0, .int .i64 1]) ∧ w' = w := by
  go_enter Try.func12, Try.ntmps12
  go_wp2
  go_ret2
  exact ⟨rfl, rfl⟩
theorem insert_nil {a l key : Int} {w : World} : Calls Try.prog 21 #[.nilIface, .int .u64 a, .int .u64 l, .int .u64 key] w fun en w' => en = .returned (.tuple #[.bool false, .int .i64 1]) ∧ w' = w := by
  go_enter Try.func21, Try.ntmps21
  go_wp2
  go_ret2
  exact ⟨rfl, rfl⟩
theorem remove_nil {a l key : Int} {w : World} : Calls Try.prog 22 #[.nilIface, .int .u64 a, .int .u64 l, .int .u64 key] w fun en w' => en = .returned (.tuple #[.bool false, .int .i64 1]) ∧ w' = w := by
  go_enter Try.func22, Try.ntmps22
  go_wp2
  go_ret2
  exact ⟨rfl, rfl⟩
theorem has_nil {a l key : Int} {w : World} : Calls Try.prog 23 #[.nilIface, .int .u64 l, .int .u64 key] w fun en w' => en = .returned (.tuple #[.bool false, .int .i64 1]) ∧ w' = w := by
  go_enter Try.func23, Try.ntmps23
  go_wp2
  go_ret2
  exact ⟨rfl, rfl⟩
theorem len_nil {a l key : Int} {w : World} : Calls Try.prog 24 #[.nilIface, .int .u64 l] w fun en w' => en = .returned (.tuple #[.int .u64 0, .int .i64 1]) ∧ w' = w := by
  go_enter Try.func24, Try.ntmps24
  go_wp2
  go_ret2
  exact ⟨rfl, rfl⟩
theorem clear_nil {a l key : Int} {w : World} : Calls Try.prog 27 #[.nilIface, .int .u64 a, .int .u64 l] w fun en w' => en = .returned (.tuple #[.int .u64 0, .int .i64 1]) ∧ w' = w := by
  go_enter Try.func27, Try.ntmps27
  go_wp2
  go_ret2
  exact ⟨rfl, rfl⟩
theorem drop_nil {a l : Int} {w : World} : Calls Try.prog 13 #[.nilIface, .int .u64 a, .int .u64 l] w fun en w' => en = .returned (.int .i64 1) ∧ w' = w := by
  go_enter Try.func13, Try.ntmps13
  go_wp2_with fail
  refine (clear_nil (key := 0)).mono ?_
  rintro _ w2 ⟨rfl, rfl⟩
  go_wp2_with fail
  go_ret
  exact ⟨rfl, rfl⟩
theorem above_nil {l key : Int} {w : World} : Calls Try.prog 25 #[.nilIface, .int .u64 l, .int .u64 key] w fun en w' => en = .returned (.tuple #[.int .u64 0, .bool false, .int .i64 1]) ∧ w' = w.alloc (.cells #[.int .u64 key] 23) := by
  go_enter Try.func25, Try.ntmps25
  go_wp2_with fail
  refine first_nil.mono ?_
  rintro _ w2 ⟨rfl, rfl⟩
  go_wp2_with fail
  go_ret3
  exact ⟨rfl, rfl⟩
theorem firstk_nil {l : Int} {w : World} : Calls Try.prog 26 #[.nilIface, .int .u64 l] w fun en w' => en = .returned (.tuple #[.int .u64 0, .bool false, .int .i64 1]) ∧ w' = w := by
  go_enter Try.func26, Try.ntmps26
  go_wp2_with fail
  refine first_nil.mono ?_
  rintro _ w2 ⟨rfl, rfl⟩
  go_wp2_with fail
  go_ret3
  exact ⟨rfl, rfl⟩
theorem keys_nil {l : Int} {w : World} : Calls Try.prog 9 #[.nilIface, .int .u64 l] w fun en w' => en = .returned (.tuple #[.slice none 0 0, .int .i64 1]) ∧ w' = w.alloc (.cells #[.slice none 0 0] 22) := by
  go_enter Try.func9, Try.ntmps9
  go_wp2_with fail
  refine first_nil.mono ?_
  rintro _ w2 ⟨rfl, rfl⟩
  go_wp2_with fail
  go_ret2
  exact ⟨rfl, rfl⟩
end Go.Proofs.Ytcohopobjppmaaa
