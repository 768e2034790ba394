/- What is left in a room, and what was given back, by contract. -/
import Derived.Test.YtcohopobjppmaaaLiH
import Derived.Test.YtcohopobjppmaaaRoomU
import Derived.WalkMore
namespace Go.Proofs.Ytcohopobjppmaaa
open Go.RowKit
set_option maxHeartbeats 2000000
set_option linter.unusedVariables false
set_option linter.unusedSimpArgs false

theorem left_b {t n : Nat} {F F0 : Nat → Prop} {s : St} {a : Int} {w w0 : World} (hw : Txw w t F s) (hf : Fits s) (hb : Bud s (n + 4)) (ha : 0 ≤ a) (hm : Fr F0 w0 F w) :
    Calls Try.prog 38 #[.iface 31 (.pointer (some ⟨t, 0, none⟩)), .int .u64 a] w fun e w' =>
      ∃ x er s', Hid (rLeft s a = (x, er, s')) ∧ 0 ≤ x ∧ x ≤ 18446744073709551615 ∧ e = .returned (.tuple #[.int .u64 x, .int .i64 er]) ∧ Lft t n F0 w0 s' w' := by
  go_enter Try.func38, Try.ntmps38
  go_wp2_with (first | (go_at_call 70; refine (tget_b (by assumption) (by assumption) (by assumption) (by first | omega | exact (uw_bd _).1) (by assumption)).mono ?_; rintro e w' ⟨x, er, s', q, dx, dx', rfl, f', b', F', hw', hm'⟩) | (go_at_call 71; refine (tput_b (by assumption) (by assumption) (by assumption) (by first | omega | exact (uw_bd _).1) (by first | omega | exact (uw_bd _).1) (by first | omega | exact (uw_bd _).2) (by assumption)).mono ?_; rintro e w' ⟨er, s', q, rfl, f', b', F', hw', hm'⟩) | go_in)
  all_goals (go_ret3; go_wp2; all_goals go_ret2)
  all_goals refine ⟨_, _, _, ?_, ?_, ?_, rfl, ?_, ?_, _, by assumption, by assumption⟩
  all_goals first | assumption | (show (_ : Int) ≤ _; omega) | exact (uw_bd _).1 | exact (uw_bd _).2 | exact Bud.mono (by assumption) (by omega) | skip
  all_goals (unfold Hid at *; unfold rLeft)
  all_goals (try simp [uAdd, *])
  all_goals (first | omega | simp_all)
theorem given_err {k : Nat} {a : Int} {l : List Int} {s s' : St} {x er : Int} (h : sget s a = (x, er, s')) (he : (er != 0) = true) : givenGo k a l s = ([], er, s') := by
  cases k <;> rw [givenGo, h] <;> simp only <;> rw [if_neg (by simp [he])]
theorem given_end {k : Nat} {a : Int} {l : List Int} {s s' : St} {x er : Int} (h : sget s a = (x, er, s')) (he : (er != 0) = false) (hx : (x != 0) = false) : givenGo k a l s = (l, 0, s') := by
  cases k <;> rw [givenGo, h] <;> simp only <;> rw [if_pos he, if_pos hx]
theorem given_long {a : Int} {l : List Int} {s s' : St} {x er : Int} (h : sget s a = (x, er, s')) (he : (er != 0) = false) (hx : (x != 0) = true) : givenGo 0 a l s = ([], 2, s') := by
  rw [givenGo, h]; simp only; rw [if_pos he, if_neg (by simp [hx])]
theorem given_more {k : Nat} {a : Int} {l : List Int} {s s' : St} {x er : Int} (h : sget s a = (x, er, s')) (he : (er != 0) = false) (hx : (x != 0) = true) : givenGo (k + 1) a l s = givenGo k (IntKind.u64.wrap (x - 1)) (l ++ [IntKind.u64.wrap (x - 1)]) s' := by
  rw [givenGo, h]; simp only; rw [if_pos he, if_neg (by simp [hx])]
section
variable {t n n' : Nat} {F F0 : Nat → Prop} {w0 w w' : World} {s s' : St} {v v' : Value} {l l' : List Int}
theorem LftK.mono {m : Nat} (k : LftK t n F0 w0 s v l w) (hm : m ≤ n) : LftK t m F0 w0 s v l w := ⟨k.1, k.2.1.mono hm, k.2.2⟩
theorem LftK.turn (hv : Wl w v l) (ho : ∀ k, own v k → ¬ F k) (hm : Fr F0 w0 (fun k => F k ∨ own v k) w) (hl : Lft t n F w s' w') : LftK t n F0 w0 s' v l w' := by
  obtain ⟨f, b, F', c, m⟩ := hl
  exact ⟨f, b, hv.fr m (fun k hk => ho k hk), F', c, hm.trans (m.side _), fun k hk hF => (m.new k hF).elim (ho k hk) fun h => by have := hv.lt k hk; omega⟩
theorem LftK.word (k : LftK t n F0 w0 s v l w) (hv : Wl w' v' l') (hm : Fr (own v) w (own v') w') : LftK t n F0 w0 s v' l' w' := by
  obtain ⟨f, b, hv0, F', c, m, ho⟩ := k
  refine ⟨f, b, hv, F', c.fr hm fun x hx hy => ho x hy hx, ?_, fun x hx => fun hy => (hm.new x hx).elim (fun hz => ho x hz hy) fun hz => by have := c.lt x hy; omega⟩
  have h1 : Fr (fun k => F' k ∨ own v k) w (fun k => own v' k) w' := hm.wide fun x hx => .inr hx
  exact m.trans (h1.into fun x hx => hx.elim (fun y => .inr (.inl (.inl y))) .inl)
theorem LftK.cut (k : LftK t n F0 w0 s v l w) : LftK t n F0 w0 s (.slice none 0 0) [] w :=
  let ⟨a, b, _, F', c, m, _⟩ := k; ⟨a, b, Wl.nil _, F', c, m.into (fun k hk => hk.elim (fun c => .inl (.inl c)) fun c => nomatch c), fun k hk => nomatch hk⟩
theorem LftK.nil (k : Lft t n F0 w0 s w) : LftK t n F0 w0 s (.slice none 0 0) [] w :=
  let ⟨a, b, F', c, m⟩ := k; ⟨a, b, Wl.nil _, F', c, m.into (fun k hk => hk.elim .inl fun c => nomatch c), fun k hk => nomatch hk⟩
end
theorem given_b {t n : Nat} {F F0 : Nat → Prop} {s : St} {a z : Int} {w w0 : World} (hw : Txw w t F s) (hf : Fits s) (hb : Bud s (n + 65537)) (ha : 0 ≤ a) (z1 : 1 ≤ z) (z2 : z ≤ 16) (hm : Fr F0 w0 F w) :
    Calls Try.prog 39 #[.iface 31 (.pointer (some ⟨t, 0, none⟩)), .int .u64 a, .int .u64 z] w fun e w' =>
      ∃ v l er s', Hid (rGiven s a z = (l, er, s')) ∧ e = .returned (.tuple #[v, .int .i64 er]) ∧ LftK t n F0 w0 s' v l w' := by
  have hL : Hid (rGiven s a z = givenGo 65536 (IntKind.u64.wrap (IntKind.u64.wrap (a + 1) + z)) [] s) := by unfold Hid; unfold rGiven; rw [if_neg (by omega)]; rfl
  have h0 : Hid (LftK t (n + 65537) F0 w0 s (.slice none 0 0) [] w) := Lib.hid (LftK.nil ⟨hf, hb, F, hw, hm⟩)
  clear hw hf hb hm
  go_enter Try.func39, Try.ntmps39
  go_wp2
  go_step3
  go_wp2_with (go_at_call 48; refine (fits_ok _ _ (by assumption) (by assumption) _).mono ?_; rintro e w' ⟨rfl, rfl⟩)
  go_step3
  go_wp2
  go_loopg [9, 10] 65536 (fun gk c9 c10 wr => ∃ (l : List Int) (A : Option Addr) (cp : Nat) (av : Int) (s1 : St), gk + l.length = 65536 ∧ c9 = .slice A l.length cp ∧ l.length ≤ cp ∧ c10 = .int .u64 av ∧ 0 ≤ av ∧ Hid (rGiven s a z = givenGo gk av l s1) ∧ Hid (LftK t (n + gk + 1) F0 w0 s1 (.slice A l.length cp) l wr))
  case atStart => exact ⟨[], none, 0, _, s, rfl, rfl, by simp, rfl, (uw_bd _).1, hL, Lib.hid (h0.out.mono (by omega))⟩
  case round =>
    obtain ⟨l, A, cp, av, s1, hlen, rfl, hcp, rfl, hav, hL1, hK⟩ := hrel
    obtain ⟨f1, b1, W1, F1, T1, m1, o1⟩ := id hK.out
    have hlk := Lib.hid hlen
    have hlb : Hid (l.length ≤ 65536) := Lib.hid (by omega)
    generalize hll : l.length = ll at *
    have hll := Lib.hid hll
    have hl9 : (ll : Int) ≤ 65536 := by omega
    have W1 := Lib.hid W1
    have o1 := Lib.hid o1
    have m1 := Lib.hid m1
    clear hL h0
    go_wp2_with fail
    refine (tget_b (n := n + gk) T1 f1 b1 hav (Fr.refl _ _)).mono ?_
    rintro _ w2 ⟨x, er, s2, q2, dx, dx', rfl, hL2⟩
    have hK2 := Lib.hid (LftK.turn W1.out o1.out m1.out hL2)
    clear T1 f1 b1 hL2 hK
    cases hz : (er != 0) with
    | true =>
      have hfin := Lib.hid (hK2.out.cut.mono (m := n) (by omega))
      have hr := Lib.hid (hL1.out.trans (given_err q2.out hz))
      go_wp2_with fail
      try rw [Exit.noGoto_ret]
      go_ret2
      exact ⟨_, [], er, s2, hr, rfl, hfin.out⟩
    | false =>
    cases hx : (x == 0) with
    | true =>
      have hfin := Lib.hid (hK2.out.mono (m := n) (by omega))
      have hr := Lib.hid (hL1.out.trans (given_end q2.out hz (by rw [bne, hx]; rfl)))
      go_wp2_with fail
      try rw [Exit.noGoto_ret]
      go_ret2
      exact ⟨_, l, 0, s2, hr, rfl, hfin.out⟩
    | false =>
    by_cases hc : ll = 65536
    · obtain rfl : gk = 0 := by omega
      have hfin := Lib.hid (hK2.out.cut.mono (m := n) (by omega))
      have hr := Lib.hid (hL1.out.trans (given_long q2.out hz (by rw [bne, hx]; rfl)))
      have hc' : ((ll : Int) == 65536) = true := by simp; omega
      clear hc
      go_wp2_with fail
      try rw [Exit.noGoto_ret]
      go_ret2
      exact ⟨_, [], 2, s2, hr, rfl, hfin.out⟩
    · obtain ⟨k, rfl⟩ : ∃ k, gk = k + 1 := ⟨gk - 1, by omega⟩
      have hr := Lib.hid (hL1.out.trans (given_more q2.out hz (by rw [bne, hx]; rfl)))
      have hc' : ((ll : Int) == 65536) = false := by simp; omega
      have hc2 : Hid (ll < 65536) := Lib.hid (by omega)
      clear hc hL1
      go_wp2_with (at_builtin; refine wpList_word w2 rfl (.tmp 42) (.tmp 44) rfl (.slice A ll cp) l (IntKind.u64.wrap (x - 1)) rfl hK2.out.2.2.1 rfl (by rw [hll.out]; have := hc2.out; omega) ?_; intro A3 c3 w3 hc3 hv3 hm3)
      have hK3 := Lib.hid (hK2.out.word (l' := l ++ [IntKind.u64.wrap (x - 1)]) hv3 hm3)
      clear hK2 hv3 hm3
      go_roundg k
      case measure => omega
      case rel => exact ⟨l ++ [IntKind.u64.wrap (x - 1)], A3, c3, _, s2, by rw [List.length_append, hll.out]; simp; omega, by rw [List.length_append, hll.out]; rfl, by rw [List.length_append]; exact hc3, rfl, (uw_bd _).1, hr, Lib.hid (by rw [List.length_append]; exact hK3.out)⟩
end Go.Proofs.Ytcohopobjppmaaa
