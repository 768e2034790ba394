/- The skip list by its contracts: laying, the first word, all words. -/
import Derived.Test.YtgbgodhkehnbdaaRoomU
import Derived.Test.YtgbgodhkehnbdaaSkipFn
import Derived.Test.YtgbgodhkehnbdaaWl
namespace Go.Proofs.Ytgbgodhkehnbdaa
open Go.RowKit
set_option maxHeartbeats 2000000
set_option linter.unusedVariables false
set_option linter.unusedSimpArgs false

theorem skLayGo_no {n : Nat} {a k : Int} {s : St} {er : Int} {s' : St} (h : sput s (uAdd a k) 0 = (er, s')) (he : (er != 0) = true) : skLayGo (n + 1) a k s = (er, s') := by
  rw [skLayGo, h]; simp only; rw [if_neg (by simp [he])]
theorem skLayGo_ok {n : Nat} {a k : Int} {s : St} {er : Int} {s' : St} (h : sput s (uAdd a k) 0 = (er, s')) (he : (er != 0) = false) : skLayGo (n + 1) a k s = skLayGo n a (k + 1) s' := by
  rw [skLayGo, h]; simp only; rw [if_pos he]

theorem sklay_b {t n : Nat} {F F0 : Nat → Prop} {s : St} {a : Int} {w w0 : World} (hw : Txw w t F s) (hf : Fits s) (hb : Bud s (n + 8)) (ha : 0 ≤ a) (hm : Fr F0 w0 F w) :
    Calls Try.prog 18 #[.iface 29 (.pointer (some ⟨t, 0, none⟩)), .int .u64 a] w fun e w' => ∃ er s', Hid (skLay s a = (er, s')) ∧ e = .returned (.int .i64 er) ∧ Lft t n F0 w0 s' w' := by
  go_enter Try.func18, Try.ntmps18
  go_wp2_with (first | (go_at_call 51; refine (tget_b (by assumption) (by assumption) (by assumption) (by first | omega | exact (uw_bd _).1) (by assumption)).mono ?_; rintro e w' ⟨x, er, s', q, dx, dx', rfl, f', b', F', hw', hm'⟩) | (go_at_call 52; refine (tput_b (by assumption) (by assumption) (by assumption) (by first | omega | exact (uw_bd _).1) (by first | omega | exact (uw_bd _).1) (by first | omega | exact (uw_bd _).2) (by assumption)).mono ?_; rintro e w' ⟨er, s', q, rfl, f', b', F', hw', hm'⟩))
  go_loopg [9] 8 (fun gk c9 wr => ∃ (k : Nat) (s1 : St) (F1 : Nat → Prop), gk + k = 8 ∧ c9 = .int .u64 (k : Int) ∧ Hid (skLay s a = skLayGo gk a k s1) ∧ Fits s1 ∧ Bud s1 (n + gk) ∧ Txw wr t F1 s1 ∧ Fr F0 w0 F1 wr)
  case atStart => exact ⟨0, s, F, rfl, rfl, Lib.hid rfl, hf, hb, hw, hm⟩
  case round =>
    obtain ⟨k, s1, F1, hk, rfl, hL1, hf1, hb1, hw1, hm1⟩ := hrel
    by_cases hlt : k < 8
    · obtain ⟨m, rfl⟩ : ∃ m, gk = m + 1 := ⟨gk - 1, by omega⟩
      have hb1 : Bud s1 ((n + m) + 1) := hb1
      have hk' := Lib.hid hk
      clear hk
      have hku : (k : Int) < 8 := by omega
      go_wp2_with (first | (go_at_call 51; refine (tget_b (by assumption) (by assumption) (by assumption) (by first | omega | exact (uw_bd _).1) (by assumption)).mono ?_; rintro e w' ⟨x, er, s', q, dx, dx', rfl, f', b', F', hw', hm'⟩) | (go_at_call 52; refine (tput_b (by assumption) (by assumption) (by assumption) (by first | omega | exact (uw_bd _).1) (by first | omega | exact (uw_bd _).1) (by first | omega | exact (uw_bd _).2) (by assumption)).mono ?_; rintro e w' ⟨er, s', q, rfl, f', b', F', hw', hm'⟩))
      · go_ret
        refine ⟨_, _, ?_, rfl, ?_, ?_, _, by assumption, by assumption⟩
        all_goals first | assumption | (show (_ : Int) ≤ _; omega) | exact (uw_bd _).1 | exact (uw_bd _).2 | exact Bud.mono (by assumption) (by omega) | skip
        exact Lib.hid (hL1.out.trans (skLayGo_no (by unfold Hid at *; assumption) (by assumption)))
      · go_roundg m
        case measure => omega
        case rel => exact ⟨k + 1, _, _, by have := hk'.out; omega, by go_num, Lib.hid (hL1.out.trans (skLayGo_ok (by unfold Hid at *; assumption) (by assumption))), by assumption, by assumption, by assumption, by assumption⟩
    · obtain rfl : k = 8 := by omega
      obtain rfl : gk = 0 := by omega
      go_wp2
      go_ret
      exact ⟨0, s1, Lib.hid (hL1.out.trans rfl), rfl, hf1, hb1, F1, hw1, hm1⟩

theorem skfirst_b {t n : Nat} {F F0 : Nat → Prop} {s : St} {a : Int} {w w0 : World} (hw : Txw w t F s) (hf : Fits s) (hb : Bud s (n + 2)) (ha : 0 ≤ a) (hm : Fr F0 w0 F w) :
    Calls Try.prog 25 #[.iface 29 (.pointer (some ⟨t, 0, none⟩)), .int .u64 a] w fun e w' => ∃ x bo er s', Hid (skFirst s a = (x, bo, er, s')) ∧ 0 ≤ x ∧ x ≤ 18446744073709551615 ∧ e = .returned (.tuple #[.int .u64 x, .bool bo, .int .i64 er]) ∧ Lft t n F0 w0 s' w' := by
  go_enter Try.func25, Try.ntmps25
  go_wp2_with (first | (go_at_call 51; refine (tget_b (by assumption) (by assumption) (by assumption) (by first | omega | exact (uw_bd _).1) (by assumption)).mono ?_; rintro e w' ⟨x, er, s', q, dx, dx', rfl, f', b', F', hw', hm'⟩) | (go_at_call 52; refine (tput_b (by assumption) (by assumption) (by assumption) (by first | omega | exact (uw_bd _).1) (by first | omega | exact (uw_bd _).1) (by first | omega | exact (uw_bd _).2) (by assumption)).mono ?_; rintro e w' ⟨er, s', q, rfl, f', b', F', hw', hm'⟩))
  all_goals go_ret3
  all_goals refine ⟨_, _, _, _, ?_, ?_, ?_, rfl, ?_, ?_, _, by assumption, by assumption⟩
  all_goals first | assumption | (show (_ : Int) ≤ _; omega) | exact (uw_bd _).1 | exact (uw_bd _).2 | exact Bud.mono (by assumption) (by omega) | skip
  all_goals (unfold Hid at *; unfold skFirst)
  all_goals (try simp [uAdd, *])
  all_goals (try (first | omega | simp_all))

/-- What a call leaves behind, beside a list of words of its own. -/
def LftV (t n B : Nat) (F0 : Nat → Prop) (w0 : World) (s' : St) (v : Value) (l : List Int) (w' : World) : Prop :=
  Fits s' ∧ Bud s' n ∧ Wl w' v l ∧ (∀ k, own v k → B ≤ k) ∧ ∃ F', Txw w' t F' s' ∧ Fr F0 w0 F' w' ∧ ∀ k, own v k → ¬ F' k
theorem LftV.nil {t n B : Nat} {F0 : Nat → Prop} {w0 : World} {s' : St} {w' : World} (h : Lft t n F0 w0 s' w') : LftV t n B F0 w0 s' (.slice none 0 0) [] w' :=
  let ⟨a, b, F', c, d⟩ := h; ⟨a, b, Wl.nil _, (fun k hk => nomatch hk), F', c, d, (fun k hk => nomatch hk)⟩

theorem skKeys_err {n : Nat} {a : Int} {l : List Int} {s s' : St} {x er : Int} (h : sget s a = (x, er, s')) (he : (er != 0) = true) : skKeysGo n a l s = ([], er, s') := by
  cases n <;> rw [skKeysGo, h] <;> simp only <;> rw [if_neg (by simp [he])]
theorem skKeys_end {n : Nat} {a : Int} {l : List Int} {s s' : St} {x er : Int} (h : sget s a = (x, er, s')) (he : (er != 0) = false) (hx : (x == 0) = true) : skKeysGo n a l s = (l, 0, s') := by
  cases n <;> rw [skKeysGo, h] <;> simp only <;> rw [if_pos he, if_pos hx]
theorem skKeys_long {a : Int} {l : List Int} {s s' : St} {x er : Int} (h : sget s a = (x, er, s')) (he : (er != 0) = false) (hx : (x == 0) = false) : skKeysGo 0 a l s = ([], 320, s') := by
  rw [skKeysGo, h]; simp only; rw [if_pos he, if_neg (by simp [hx])]
theorem skKeys_err2 {n : Nat} {a : Int} {l : List Int} {s s' s2 : St} {x er y e2 : Int} (h : sget s a = (x, er, s')) (he : (er != 0) = false) (hx : (x == 0) = false) (h2 : sget s' (IntKind.u64.wrap (x - 1)) = (y, e2, s2)) (he2 : (e2 != 0) = true) : skKeysGo (n + 1) a l s = ([], e2, s2) := by
  rw [skKeysGo, h]; simp only; rw [if_pos he, if_neg (by simp [hx]), h2]; simp only; rw [if_neg (by simp [he2])]
theorem skKeys_more {n : Nat} {a : Int} {l : List Int} {s s' s2 : St} {x er y e2 : Int} (h : sget s a = (x, er, s')) (he : (er != 0) = false) (hx : (x == 0) = false) (h2 : sget s' (IntKind.u64.wrap (x - 1)) = (y, e2, s2)) (he2 : (e2 != 0) = false) : skKeysGo (n + 1) a l s = skKeysGo n (uAdd x 1) (l ++ [y]) s2 := by
  rw [skKeysGo, h]; simp only; rw [if_pos he, if_neg (by simp [hx]), h2]; simp only; rw [if_pos he2]

theorem skkeys_b {t n : Nat} {F F0 : Nat → Prop} {s : St} {a : Int} {w w0 : World} (hw : Txw w t F s) (hf : Fits s) (hb : Bud s (n + 131073)) (ha : 0 ≤ a) (hm : Fr F0 w0 F w) :
    Calls Try.prog 12 #[.iface 29 (.pointer (some ⟨t, 0, none⟩)), .int .u64 a] w fun e w' => ∃ v l er s', Hid (skKeys s a = (l, er, s')) ∧ e = .returned (.tuple #[v, .int .i64 er]) ∧ LftV t n w.heap.size F0 w0 s' v l w' := by
  go_enter Try.func12, Try.ntmps12
  go_wp2_with (first | (go_at_call 51; refine (tget_b (by assumption) (by assumption) (by assumption) (by first | omega | exact (uw_bd _).1) (by assumption)).mono ?_; rintro e w' ⟨x, er, s', q, dx, dx', rfl, f', b', F', hw', hm'⟩) | (go_at_call 52; refine (tput_b (by assumption) (by assumption) (by assumption) (by first | omega | exact (uw_bd _).1) (by first | omega | exact (uw_bd _).1) (by first | omega | exact (uw_bd _).2) (by assumption)).mono ?_; rintro e w' ⟨er, s', q, rfl, f', b', F', hw', hm'⟩))
  have hw0 := hw.alloc (.cells #[] 33)
  have hm0 := hm.alloc (.cells #[] 33)
  have hv0 : Wl (w.alloc (.cells #[] 33)) (.slice (some ⟨w.heap.size, 0, none⟩) 0 0) [] := Wl.new w [] (by simp)
  have ho0 : ∀ k, own (.slice (some ⟨w.heap.size, 0, none⟩) 0 0) k → w.heap.size ≤ k ∧ ¬ F k := fun k hk => by
    obtain rfl : w.heap.size = k := by simpa [own, Value.ownBlock] using hk
    exact ⟨Nat.le_refl _, fun h => by have := hw.lt _ h; omega⟩
  have hw0 := Lib.hid hw0
  have hm0 := Lib.hid hm0
  have hs0 : w.heap.size ≤ (w.alloc (.cells #[] 33)).heap.size := by simp
  generalize w.alloc (.cells #[] 33) = w1 at *
  go_loopg [1, 6] 65536 (fun gk c1 c6 wr => ∃ (l : List Int) (A : Option Addr) (cp : Nat) (av : Int) (s1 : St) (F1 : Nat → Prop), gk + l.length = 65536 ∧ c1 = .int .u64 av ∧ 0 ≤ av ∧ c6 = .slice A l.length cp ∧ Hid (skKeys s a = skKeysGo gk av l s1) ∧ Fits s1 ∧ Bud s1 (n + 2 * gk + 1) ∧ Txw wr t F1 s1 ∧ Fr F0 w0 F1 wr ∧ Wl wr (.slice A l.length cp) l ∧ (∀ k, own (.slice A l.length cp) k → w.heap.size ≤ k ∧ ¬ F1 k) ∧ w.heap.size ≤ wr.heap.size)
  case atStart => exact ⟨[], _, _, a, s, F, rfl, rfl, ha, rfl, Lib.hid rfl, hf, hb, hw0.out, hm0.out, hv0, ho0, hs0⟩
  case round =>
    obtain ⟨l, A, cp, av, s1, F1, hgk, rfl, hav, rfl, hL1, hf1, hb1, hw1, hm1, hv1, ho1, hz1⟩ := hrel
    clear hw0 hm0 hv0 ho0 hs0
    have hll : (l.length : Int) ≤ 65536 := by omega
    go_wp2_with fail
    refine (tget_b hw1 hf1 hb1 hav (Fr.refl _ _)).mono ?_
    rintro e w2 ⟨x, er, s2, q, dx, dx', rfl, f2, b2, F2, hw2, hm2⟩
    have hv2 := hv1.fr hm2 fun k hk => (ho1 k hk).2
    have ho2 : ∀ k, own (.slice A l.length cp) k → w.heap.size ≤ k ∧ ¬ F2 k := fun k hk => ⟨(ho1 k hk).1, (hm2.apart (G := own (.slice A l.length cp)) (fun k hk => ⟨hv1.lt k hk, (ho1 k hk).2⟩) k hk).2⟩
    have hm2' := hm1.trans hm2
    have hz2 := Nat.le_trans hz1 hm2.size
    by_cases he : er = 0
    case neg =>
      have hz : (er != 0) = true := by simpa using he
      go_wp2
      go_ret2
      exact ⟨_, [], er, s2, Lib.hid (hL1.out.trans (skKeys_err q.out hz)), rfl, LftV.nil ⟨f2, b2.mono (by omega), F2, hw2, hm2'⟩⟩
    subst he
    by_cases hx0 : x = 0
    · subst hx0
      have Ho := Lib.hid ho2
      clear ho1 ho2
      go_wp2
      go_ret2
      exact ⟨_, l, 0, s2, Lib.hid (hL1.out.trans (skKeys_end q.out rfl rfl)), rfl, f2, b2.mono (by omega), hv2, fun k hk => (Ho.out k hk).1, F2, hw2, hm2', fun k hk => (Ho.out k hk).2⟩
    have hxe : (x == 0) = false := by simpa using hx0
    by_cases hl6 : l.length = 65536
    · obtain rfl : gk = 0 := by omega
      have hle : ((l.length : Int) == 65536) = true := by simp [hl6]
      clear hx0 hl6
      go_wp2
      go_ret2
      exact ⟨_, [], 320, s2, Lib.hid (hL1.out.trans (skKeys_long q.out rfl hxe)), rfl, LftV.nil ⟨f2, b2.mono (by omega), F2, hw2, hm2'⟩⟩
    have hle : ((l.length : Int) == 65536) = false := by simp; omega
    obtain ⟨m, rfl⟩ : ∃ m, gk = m + 1 := ⟨gk - 1, by omega⟩
    have b2 : Bud s2 (n + 2 * m + 1 + 1) := b2.mono (by omega)
    have hgk' := Lib.hid hgk
    have Ho2 := Lib.hid ho2
    clear hgk hl6 ho1 ho2 hx0
    go_wp2_with fail
    refine (tget_b hw2 f2 b2 (uw_bd _).1 (Fr.refl _ _)).mono ?_
    rintro e w3 ⟨y, e3, s3, q3, dy, dy', rfl, f3, b3, F3, hw3, hm3⟩
    have hv3 := hv2.fr hm3 fun k hk => (Ho2.out k hk).2
    have ho3 := Lib.hid (show ∀ k, own (.slice A l.length cp) k → w.heap.size ≤ k ∧ ¬ F3 k from fun k hk => ⟨(Ho2.out k hk).1, (hm3.apart (G := own (.slice A l.length cp)) (fun k hk => ⟨hv2.lt k hk, (Ho2.out k hk).2⟩) k hk).2⟩)
    have hm3' := hm2'.trans hm3
    have hz3 := Nat.le_trans hz2 hm3.size
    by_cases he3 : e3 = 0
    case neg =>
      have hz : (e3 != 0) = true := by simpa using he3
      go_wp2
      go_ret2
      exact ⟨_, [], e3, s3, Lib.hid (hL1.out.trans (skKeys_err2 q.out rfl hxe q3.out hz)), rfl, LftV.nil ⟨f3, b3.mono (by omega), F3, hw3, hm3'⟩⟩
    subst he3
    go_wp2_with (at_builtin; refine wpList_word w3 rfl (.tmp 41) (.tmp 43) rfl _ l y rfl hv3 rfl (by omega) ?_; intro A4 c4 w4 hc4 hv4 hm4)
    have hw4 := hw3.fr hm4 fun k hk ho => (ho3.out k ho).2 hk
    have ho4 : ∀ k, own (.slice A4 (l.length + 1) c4) k → w.heap.size ≤ k ∧ ¬ F3 k := fun k hk => (hm4.new k hk).elim (fun h => ho3.out k h) fun h => ⟨by omega, fun h2 => by have := hw3.lt k h2; omega⟩
    have hz4 := Nat.le_trans hz3 hm4.size
    have hm5 := hm3'.beside hm4 fun k hk => Nat.le_trans hm.size (ho3.out k hk).1
    have hL4 : Hid (skKeys s a = skKeysGo m (IntKind.u64.wrap (x + 1)) (l ++ [y]) s3) := Lib.hid (hL1.out.trans (skKeys_more q.out rfl hxe q3.out rfl))
    have hgk4 : m + (l ++ [y]).length = 65536 := by have := hgk'.out; simp; omega
    have hv4 : Wl w4 (.slice A4 (l ++ [y]).length c4) (l ++ [y]) := by simpa using hv4
    have ho4 : ∀ k, own (.slice A4 (l ++ [y]).length c4) k → w.heap.size ≤ k ∧ ¬ F3 k := by simpa using ho4
    go_roundg m
    case measure => omega
    case rel =>
      refine ⟨l ++ [y], A4, c4, IntKind.u64.wrap (x + 1), s3, F3, hgk4, rfl, (uw_bd _).1, ?_, hL4, f3, b3, hw4, hm5, hv4, ho4, hz4⟩
      simp
end Go.Proofs.Ytgbgodhkehnbdaa
