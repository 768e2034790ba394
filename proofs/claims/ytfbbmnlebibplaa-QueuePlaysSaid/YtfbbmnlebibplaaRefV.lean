/- The document's room over its world, by contract: taking, giving back, what was given back. -/
import Derived.Test.YtfbbmnlebibplaaRefW
import Derived.Test.YtfbbmnlebibplaaLft
namespace Go.Proofs.Ytfbbmnlebibplaa
open Go.RowKit
set_option maxHeartbeats 4000000
set_option linter.unusedVariables false
set_option linter.unusedSimpArgs false

theorem wtake_b {b n : Nat} {F F0 : Nat → Prop} {s : St} {a z : Int} {w w0 : World} (hw : Wld w b F s) (hf : Fits s) (hb : Bud s (n + 4)) (ha : 0 ≤ a) (z1 : 1 ≤ z) (z2 : z ≤ 16) (hm : Fr F0 w0 F w) :
    Calls Try.prog 36 #[.pointer (some ⟨b, 0, none⟩), .int .u64 a, .int .u64 z] w fun e w' =>
      ∃ x er s', Hid (rTake s a z = (x, er, s')) ∧ 0 ≤ x ∧ x ≤ 18446744073709551615 ∧ e = .returned (.tuple #[.int .u64 x, .int .i64 er]) ∧ LftW b n F0 w0 s' w' := by
  go_enter Try.func36, Try.ntmps36
  go_wp2_with (first | (go_at_call 29; refine (wget_b (by assumption) (by assumption) (by assumption) (by first | omega | exact (uw_bd _).1) (by assumption)).mono ?_; rintro e w' ⟨x, er, s', q, dx, dx', rfl, f', b', F', hw', hm'⟩) | (go_at_call 33; refine (wput_b (by assumption) (by assumption) (by assumption) (by first | omega | exact (uw_bd _).1) (by first | omega | exact (uw_bd _).1) (by first | omega | exact (uw_bd _).2) (by assumption)).mono ?_; rintro e w' ⟨er, s', q, rfl, f', b', F', hw', hm'⟩))
  all_goals go_ret2
  all_goals refine ⟨_, _, _, ?_, ?_, ?_, rfl, ?_, ?_, _, by assumption, by assumption⟩
  all_goals first | assumption | (show (_ : Int) ≤ _; omega) | exact (uw_bd _).1 | exact (uw_bd _).2 | exact Bud.mono (by assumption) (by omega) | skip
  all_goals (unfold Hid at *; unfold rTake; rw [if_neg (by omega)])
  all_goals (try simp [uAdd, *])
  all_goals (first | omega | simp_all)

theorem wgive_b {b n : Nat} {F F0 : Nat → Prop} {s : St} {a p z : Int} {w w0 : World} (hw : Wld w b F s) (hf : Fits s) (hb : Bud s (n + 3)) (ha : 0 ≤ a) (hp : 0 ≤ p) (hp' : p ≤ 18446744073709551615) (z1 : 1 ≤ z) (z2 : z ≤ 16) (hm : Fr F0 w0 F w) :
    Calls Try.prog 37 #[.pointer (some ⟨b, 0, none⟩), .int .u64 a, .int .u64 p, .int .u64 z] w fun e w' =>
      ∃ er s', Hid (rGive s a p z = (er, s')) ∧ e = .returned (.int .i64 er) ∧ LftW b n F0 w0 s' w' := by
  go_enter Try.func37, Try.ntmps37
  go_wp2_with (first | (go_at_call 29; refine (wget_b (by assumption) (by assumption) (by assumption) (by first | omega | exact (uw_bd _).1) (by assumption)).mono ?_; rintro e w' ⟨x, er, s', q, dx, dx', rfl, f', b', F', hw', hm'⟩) | (go_at_call 33; refine (wput_b (by assumption) (by assumption) (by assumption) (by first | omega | exact (uw_bd _).1) (by first | omega | exact (uw_bd _).1) (by first | omega | exact (uw_bd _).2) (by assumption)).mono ?_; rintro e w' ⟨er, s', q, rfl, f', b', F', hw', hm'⟩))
  all_goals go_ret
  all_goals refine ⟨_, _, ?_, rfl, ?_, ?_, _, by assumption, by assumption⟩
  all_goals first | assumption | (show (_ : Int) ≤ _; omega) | exact (uw_bd _).1 | exact (uw_bd _).2 | exact Bud.mono (by assumption) (by omega) | skip
  all_goals (unfold Hid at *; unfold rGive; rw [if_neg (by omega)])
  all_goals (try simp [uAdd, *])
  all_goals (first | omega | simp_all)

/-- what is told from a link on that was got -/
def gvn (k : Nat) (x e : Int) (l : List Int) (s : St) : List Int × Int × St :=
  if (e != 0) = true then ([], e, s) else if (x == 0) = true then (l, 0, s) else match k with
    | 0 => ([], 2, s)
    | k + 1 => givenGo k (IntKind.u64.wrap (x - 1)) (l ++ [IntKind.u64.wrap (x - 1)]) s
theorem givenGo_gvn {k : Nat} {a x e : Int} {l : List Int} {s s1 : St} (h : sget s a = (x, e, s1)) : givenGo k a l s = gvn k x e l s1 := by
  unfold gvn
  by_cases he : e = 0
  · subst he
    rw [if_neg (by decide)]
    by_cases hx : x = 0
    · subst hx
      cases k <;> (rw [givenGo]; simp only [h]; rfl)
    · have hx2 : ¬ (x == 0) = true := by simpa using hx
      have hx3 : ¬ (x != 0) = false := by simpa using hx
      cases k
      · rw [givenGo]; simp only [h]; rw [if_pos (by decide), if_neg hx3, if_neg hx2]
      · rw [givenGo]; simp only [h]; rw [if_pos (by decide), if_neg hx3, if_neg hx2]
  · have h1 : (e != 0) = true := by simpa using he
    have h2 : ¬ (e != 0) = false := by simpa using he
    cases k
    · rw [givenGo]; simp only [h]; rw [if_neg h2, if_pos h1]
    · rw [givenGo]; simp only [h]; rw [if_neg h2, if_pos h1]
/-- What a call leaves behind at the document's world, beside a list of its own. -/
def LftWV (b n B : Nat) (F0 : Nat → Prop) (w0 : World) (s' : St) (v : Value) (l : List Int) (w' : World) : Prop :=
  Fits s' ∧ Bud s' n ∧ Wl w' v l ∧ (∀ k, own v k → B ≤ k) ∧ ∃ F', Wld w' b F' s' ∧ Fr F0 w0 F' w' ∧ ∀ k, own v k → ¬ F' k

set_option maxRecDepth 100000 in
theorem wgiven_b {b n : Nat} {F F0 : Nat → Prop} {s : St} {a z : Int} {w w0 : World} (hw : Wld w b F s) (hf : Fits s) (hb : Bud s (n + 65537)) (ha : 0 ≤ a) (z1 : 1 ≤ z) (z2 : z ≤ 16) (hm : Fr F0 w0 F w) :
    Calls Try.prog 10 #[.pointer (some ⟨b, 0, none⟩), .int .u64 a, .int .u64 z] w fun e w' =>
      ∃ v l er s', Hid (rGiven s a z = (l, er, s')) ∧ e = .returned (.tuple #[v, .int .i64 er]) ∧ LftWV b n w.heap.size F0 w0 s' v l w' := by
  have hL : Hid (rGiven s a z = givenGo 65536 (uAdd (uAdd a 1) z) [] s) := Lib.hid (by unfold rGiven; rw [if_neg (by omega)])
  have hB : w.heap.size ≤ w.heap.size := Nat.le_refl _
  have hms := hm.size
  go_enter Try.func10, Try.ntmps10
  go_wp2_with fail
  have hb : Bud s ((n + 65536) + 1) := hb.mono (by omega)
  refine (wget_b hw hf hb (uw_bd _).1 (Fr.refl _ _)).mono ?_
  rintro e w1 ⟨x1, e1, s1, q1, dx, dx', rfl, f1, b1, F1, hw1, hm1⟩
  have q1 : Hid (sget s (uAdd (uAdd a 1) z) = (x1, e1, s1)) := q1
  have hR0 : Hid (rGiven s a z = gvn 65536 x1 e1 [] s1) := Lib.hid (by rw [hL.out, givenGo_gvn q1.out])
  have hz1 : w.heap.size ≤ w1.heap.size := hm1.size
  have hm1' := Lib.hid (hm.trans hm1)
  generalize hBe : w.heap.size = B at *
  have HB := Lib.hid hBe
  clear hBe hw hm hf hb q1 hm1 hL hB
  go_wp2_with fail
  go_loopg [8, 9, 10] 65536 (fun gk c8 c9 c10 wr => ∃ (l : List Int) (A : Option Addr) (cp : Nat) (x e : Int) (s2 : St) (F2 : Nat → Prop), gk + l.length = 65536 ∧ c8 = .int .u64 x ∧ 0 ≤ x ∧ x ≤ 18446744073709551615 ∧ c9 = .int .i64 e ∧ c10 = .slice A l.length cp ∧ Hid (rGiven s a z = gvn gk x e l s2) ∧ Fits s2 ∧ Bud s2 (n + gk) ∧ Wld wr b F2 s2 ∧ Fr F0 w0 F2 wr ∧ Wl wr (.slice A l.length cp) l ∧ Hid (∀ k, own (.slice A l.length cp) k → B ≤ k ∧ ¬ F2 k) ∧ B ≤ wr.heap.size)
  case atStart => exact ⟨[], none, 0, x1, e1, s1, F1, rfl, rfl, dx, dx', rfl, rfl, hR0, f1, b1, hw1, hm1'.out, Wl.nil _, Lib.hid (fun k hk => nomatch hk), hz1⟩
  case round =>
    obtain ⟨l, A, cp, x, e, s2, F2, hgk, rfl, dxx, dxx', rfl, rfl, hR, f2, b2, hw2, hm2, hv2, ho2, hz2⟩ := hrel
    have hll : (l.length : Int) ≤ 65536 := by omega
    have hgk' := Lib.hid hgk
    clear hw1 hm1' f1 b1 hR0 hgk
    have HL := Lib.hid (show LftWV b n B F0 w0 s2 (.slice A l.length cp) l wr from ⟨f2, b2.mono (by omega), hv2, fun k hk => (ho2.out k hk).1, F2, hw2, hm2, fun k hk => (ho2.out k hk).2⟩)
    have HN := Lib.hid (show LftWV b n B F0 w0 s2 (.slice none 0 0) [] wr from ⟨f2, b2.mono (by omega), Wl.nil _, (fun k hk => nomatch hk), F2, hw2, hm2, (fun k hk => nomatch hk)⟩)
    by_cases he : e = 0
    case neg =>
      have h1 : (e != 0) = true := by simpa using he
      have h2 : (e == 0) = false := by simpa using he
      have hq : Hid (rGiven s a z = ([], e, s2)) := Lib.hid (by rw [hR.out]; unfold gvn; rw [if_pos h1])
      clear he hR hw2 hm2 hv2
      go_wp2
      go_ret2
      exact ⟨_, [], e, s2, hq, rfl, by rw [HB.out]; exact HN.out⟩
    subst he
    by_cases hx : x = 0
    · have h1 : (x != 0) = false := by simpa using hx
      have hq : Hid (rGiven s a z = (l, 0, s2)) := Lib.hid (by rw [hR.out]; unfold gvn; rw [if_neg (by decide), if_pos (by simpa using hx)])
      clear hx hR hw2 hm2 hv2
      go_wp2
      go_ret2
      exact ⟨_, l, 0, s2, hq, rfl, by rw [HB.out]; exact HL.out⟩
    have h1 : (x != 0) = true := by simpa using hx
    by_cases hl : l.length = 65536
    · obtain rfl : gk = 0 := by have := hgk'.out; omega
      have h2 : ((l.length : Int) == 65536) = true := by simp [hl]
      have hq : Hid (rGiven s a z = ([], 2, s2)) := Lib.hid (by rw [hR.out]; unfold gvn; rw [if_neg (by decide), if_neg (by simpa using hx)])
      clear hx hl hR hw2 hm2 hv2
      go_wp2
      go_ret2
      exact ⟨_, [], 2, s2, hq, rfl, by rw [HB.out]; exact HN.out⟩
    have h2 : ((l.length : Int) == 65536) = false := by simp; omega
    obtain ⟨m, rfl⟩ : ∃ m, gk = m + 1 := ⟨gk - 1, by have := hgk'.out; omega⟩
    have hR2 : Hid (rGiven s a z = givenGo m (IntKind.u64.wrap (x - 1)) (l ++ [IntKind.u64.wrap (x - 1)]) s2) := Lib.hid (by rw [hR.out]; unfold gvn; rw [if_neg (by decide), if_neg (by simpa using hx)])
    have hxx := Lib.hid (show (l.length + 1) * 8 ≤ 140737488355328 by omega)
    have b2 : Bud s2 ((n + m) + 1) := b2
    clear hx hl hR HL HN
    go_wp2_with (at_builtin; refine wpList_word wr rfl (.tmp 35) (.tmp 38) rfl (.slice A l.length cp) l (IntKind.u64.wrap (x - 1)) rfl hv2 rfl hxx.out ?_; intro A4 c4 w4 hc4 hv4 hm4)
    have hnb : ∀ k, F2 k → ¬ own (.slice A l.length cp) k := fun k hk ho => (ho2.out k ho).2 hk
    have hw4 := hw2.fr hm4 hnb
    have ho4 : Hid (∀ k, own (.slice A4 (l.length + 1) c4) k → B ≤ k ∧ ¬ F2 k) := Lib.hid fun k hk => (hm4.new k hk).elim (fun h => ho2.out k h) fun h => ⟨by omega, fun h2 => by have := hw2.lt k h2; omega⟩
    have hM4 := Lib.hid (hm2.beside hm4 fun k hk => by have := (ho2.out k hk).1; omega)
    have hz4 := Nat.le_trans hz2 hm4.size
    clear hw2 hm2 hm4 hnb
    refine (wget_b hw4 f2 b2 (uw_bd _).1 (Fr.refl _ _)).mono ?_
    rintro e w5 ⟨x5, e5, s5, q5, d5, d5', rfl, f5, b5, F5, hw5, hm5⟩
    have hv5 := Lib.hid (hv4.fr hm5 fun k hk => (ho4.out k hk).2)
    have ho5 : Hid (∀ k, own (.slice A4 (l.length + 1) c4) k → B ≤ k ∧ ¬ F5 k) := Lib.hid fun k hk => ⟨(ho4.out k hk).1, fun h => (hm5.new k h).elim (ho4.out k hk).2 fun h2 => by have := hv4.lt k (own_len hk); omega⟩
    have hM5 := Lib.hid (hM4.out.trans hm5)
    have hz5 := Nat.le_trans hz4 hm5.size
    have hw5' := Lib.hid hw5
    have hR5 : Hid (rGiven s a z = gvn m x5 e5 (l ++ [IntKind.u64.wrap (x - 1)]) s5) := Lib.hid (by rw [hR2.out, givenGo_gvn q5.out])
    clear hw4 hv4 hw5 hm5 q5 hR2
    go_wp2
    go_roundg m
    case measure => omega
    case rel => exact ⟨l ++ [IntKind.u64.wrap (x - 1)], A4, c4, x5, e5, s5, F5, by have := hgk'.out; simp; omega, rfl, d5, d5', rfl, by simp, hR5, f5, b5, hw5'.out, hM5.out, by simpa using hv5.out, by simpa using ho5, hz5⟩
end Go.Proofs.Ytfbbmnlebibplaa
