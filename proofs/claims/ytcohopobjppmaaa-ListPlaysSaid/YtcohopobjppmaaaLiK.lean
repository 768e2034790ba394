/- Where a list's nodes lie, by contract. -/
import Derived.Test.YtcohopobjppmaaaLiI
namespace Go.Proofs.Ytcohopobjppmaaa
open Go.RowKit
set_option maxHeartbeats 4000000
set_option linter.unusedVariables false
set_option linter.unusedSimpArgs false

/-- What the hand leaves behind beside a list of words of the call's own. -/
def LftN (t h n : Nat) (F0 : Nat → Prop) (w0 : World) (s' : St) (e' : Int) (v : Value) (l : List Int) (w' : World) : Prop :=
  Fits s' ∧ Bud s' n ∧ Wl w' v l ∧ ∃ F', Txw w' t F' s' ∧ Hnd w' h t e' ∧ ¬ F' h ∧ (∀ k, own v k → ¬ F' k ∧ k ≠ h) ∧ Fr F0 w0 (fun k => (F' k ∨ k = h) ∨ own v k) w'
section
variable {t h n n' : Nat} {F F0 : Nat → Prop} {w0 w w' : World} {s s' : St} {e e' : Int} {v v' : Value} {l l' : List Int}
theorem LftN.mono {m : Nat} (k : LftN t h n F0 w0 s e v l w) (hm : m ≤ n) : LftN t h m F0 w0 s e v l w := ⟨k.1, k.2.1.mono hm, k.2.2⟩
theorem LftN.turn (hv : Wl w v l) (ho : ∀ k, own v k → ¬ F k ∧ k ≠ h) (hm : Fr F0 w0 (fun k => (F k ∨ k = h) ∨ own v k) w) (hl : LftH t h n (fun k => F k ∨ k = h) w s' e' w') : LftN t h n F0 w0 s' e' v l w' := by
  obtain ⟨f, b, F', c, d, g, m⟩ := hl
  refine ⟨f, b, hv.fr m fun k hk c => c.elim (ho k hk).1 (ho k hk).2, F', c, d, g, fun k hk => ⟨fun x => (m.new k (.inl x)).elim (fun x => x.elim (ho k hk).1 (ho k hk).2) fun x => by have := hv.lt k hk; omega, (ho k hk).2⟩, hm.trans (m.side _)⟩
theorem LftN.word (k : LftN t h n F0 w0 s e v l w) (hv : Wl w' v' l') (hm : Fr (own v) w (own v') w') : LftN t h n F0 w0 s e v' l' w' := by
  obtain ⟨f, b, hv0, F', c, d, g, ho, m⟩ := k
  refine ⟨f, b, hv, F', c.fr hm fun x hx hy => (ho x hy).1 hx, hm.blk d fun hy => (ho h hy).2 rfl, g, fun x hx => ⟨fun hy => (hm.new x hx).elim (fun hz => (ho x hz).1 hy) fun hz => by have := c.lt x hy; omega, fun hy => (hm.new x hx).elim (fun hz => (ho x hz).2 hy) fun hz => by have := Blk.lt d; omega⟩, ?_⟩
  have h1 : Fr (fun k => (F' k ∨ k = h) ∨ own v k) w (fun k => own v' k) w' := hm.wide fun x hx => .inr hx
  exact m.trans (h1.into fun x hx => hx.elim (fun y => .inr (.inl (.inl y))) .inl)
theorem LftN.nil (k : LftH t h n F0 w0 s e w) : LftN t h n F0 w0 s e (.slice none 0 0) [] w :=
  let ⟨a, b, F', c, d, g, m⟩ := k; ⟨a, b, Wl.nil _, F', c, d, g, fun k hk => (nomatch hk), m.into fun k hk => hk.elim .inl fun c => nomatch c⟩
theorem LftN.none (k : LftN t h n F0 w0 s e v l w) : LftN t h n F0 w0 s e (.slice none 0 0) [] w :=
  let ⟨a, b, _, F', c, d, g, _, m⟩ := k; ⟨a, b, Wl.nil _, F', c, d, g, fun k hk => (nomatch hk), m.into fun k hk => hk.elim (fun c => .inl (.inl c)) fun c => nomatch c⟩
end

set_option maxRecDepth 100000 in
theorem nodes_b {t h n N : Nat} {F F0 : Nat → Prop} {s s1 : St} {e e1 l : Int} {w w0 : World} {p' : Pl} {ks' : List Int}
    (hw : Txw w t F s) (hh : Hnd w h t e) (hn : ¬ F h) (hf : Fits s) (hb : Bud s (n + N + 1 + 2 * N + 1)) (hN : N ≤ 60000) (hl : 0 ≤ l) (hl' : l ≤ 18446744073709551615) (hR : hfind (fun _ => true) N s e l = some (p', ks', e1, s1))
    (hm : Fr F0 w0 (fun k => F k ∨ k = h) w) :
    Calls Try.prog 45 #[.pointer (some ⟨h, 0, none⟩), .int .u64 l] w fun en w' =>
      ∃ v l' e' s', Hid (nodesR ks'.length e1 s1 l = (l', e', s')) ∧ en = .returned v ∧ l'.length ≤ ks'.length ∧ LftN t h n F0 w0 s' e' v l' w' := by
  have hB := Blk.new w 3 #[.int .i64 0]
  have hT := hw.alloc (.cells #[.int .i64 0] 3)
  have hH : Hnd (w.alloc (.cells #[.int .i64 0] 3)) h t e := Blk.alloc hh _
  have hlt := Blk.lt hh
  have hcn : ¬ (F w.heap.size ∨ w.heap.size = h) := fun c => c.elim (fun c => by have := hw.lt _ c; omega) fun c => by omega
  have hJ : JCnt w.heap.size (w.alloc (.cells #[.int .i64 0] 3)) (fun k => F k ∨ k = h) (fun k => k = w.heap.size) [] := ⟨hB, hcn, fun k => Iff.rfl⟩
  have hM : Fr F0 w0 (fun k => (F k ∨ k = h) ∨ k = w.heap.size) (w.alloc (.cells #[.int .i64 0] 3)) := (hm.alloc _).into fun k hk => hk.elim .inl fun c => .inr (.inr (by rw [c]; exact hm.size))
  clear hw hh hm hB
  go_enter Try.func45, Try.ntmps45
  go_wp2_with fail
  refine (find_b (n := n + N + 1) (nodesc_law _) hT hH hn hJ hf hb hN hl hl' hR hM).mono ?_
  rintro _ w6 ⟨rfl, -, hks, hL⟩
  obtain ⟨f2, b2, F2, G2, T2, H2, n2, J2, m20⟩ := hL
  have m2 := Lib.hid (m20.into (G := fun k => F2 k ∨ k = h) fun k hk => .inl (.inl hk))
  generalize w.heap.size = cb at *
  have hcb := J2.1
  have hc2 := J2.2.1
  clear hT hH hn hJ hM hf hb hR J2 m20 hcn hlt
  generalize hkn : ks'.length = kn at *
  obtain ⟨-, d1, -⟩ := H2.cells
  go_wp2_with fail
  have m2r := Fr.refl (fun k => F2 k ∨ k = h) w6
  refine (hget_b (n := n + N) T2 H2 n2 f2 b2 (uw_bd _).1 m2r).mono ?_
  rintro _ w3 ⟨x3, e3, s3, q3, dx3, dy3, rfl, hL3⟩
  have hcb3 : w3.cell? ⟨cb, 0, none⟩ = some (.int .i64 (kn : Int)) := by
    obtain ⟨_, _, F', _, _, _, m⟩ := hL3
    have := (m.blk hcb hc2).cell 0
    simpa using this
  have hq : Hid (nodesR kn e1 s1 l = nodesGo kn x3 [] e3 s3) := Lib.hid (by unfold nodesR; rw [show uAdd l 1 = IntKind.u64.wrap (l + 1) from rfl, q3.out])
  have hL3 : Hid (LftN t h (n + kn) F0 w0 s3 e3 (.slice none 0 0) [] w3) := Lib.hid ((LftN.nil ⟨hL3.1, hL3.2.1, hL3.2.2.choose, hL3.2.2.choose_spec.1, hL3.2.2.choose_spec.2.1, hL3.2.2.choose_spec.2.2.1, m2.out.trans hL3.2.2.choose_spec.2.2.2⟩).mono (by omega))
  have hkb : (kn : Int) ≤ 60000 := by omega
  clear T2 H2 n2 f2 b2 m2r m2 hcb hc2 q3 d1
  go_wp2_with fail
  go_loopg [6, 7, 17] kn (fun gk c6 c7 c17 wr => ∃ (i : Nat) (A : Option Addr) (cp : Nat) (lo : List Int) (a e2 : Int) (s2 : St), i + gk = kn ∧ lo.length = i ∧ lo.length ≤ cp ∧ c6 = .slice A lo.length cp ∧ c7 = .int .u64 a ∧ 0 ≤ a ∧ a ≤ 18446744073709551615 ∧ c17 = .int .i64 (i : Int) ∧ Hid (nodesR kn e1 s1 l = nodesGo gk a lo e2 s2) ∧ Hid (LftN t h (n + gk) F0 w0 s2 e2 (.slice A lo.length cp) lo wr))
  case atStart => exact ⟨0, none, 0, [], x3, e3, s3, by omega, rfl, by simp, rfl, rfl, dx3, dy3, rfl, hq, hL3⟩
  case round =>
    obtain ⟨i, A, cp, lo, a, e2, s2, hi, hlo, hcp, rfl, rfl, da, da', rfl, hq, hL⟩ := hrel
    by_cases hlt : i < kn
    case neg =>
      obtain rfl : gk = 0 := by omega
      have hik : (i : Int) = kn := by omega
      have hle : lo.length ≤ kn := by omega
      have hfin := Lib.hid (hL.out.mono (m := n) (by omega))
      have hq : Hid (nodesR kn e1 s1 l = (lo, e2, s2)) := Lib.hid (hq.out.trans rfl)
      have hf0 : decide (i < kn) = false := decide_eq_false hlt
      clear hL hi hlo hlt hik
      go_wp2_with fail
      go_ret
      subst hkn
      exact ⟨_, lo, e2, s2, hq, rfl, hle, hfin.out⟩
    obtain ⟨m, rfl⟩ : ∃ m, gk = m + 1 := ⟨gk - 1, by omega⟩
    obtain ⟨f4, b4, W4, F4, T4, H4, n4, o4, m4⟩ := id hL.out
    obtain ⟨-, d4, -⟩ := H4.cells
    have hf0 : decide (i < kn) = true := decide_eq_true hlt
    by_cases he : e2 = 0
    case neg =>
      have z : (e2 != 0) = true := by simpa using he
      have hfin := Lib.hid ((hL.out.mono (m := n) (by omega)).none)
      have hq : Hid (nodesR kn e1 s1 l = ([], e2, s2)) := Lib.hid (hq.out.trans (nodesGo_no he))
      clear hL T4 H4 n4 o4 m4 W4 f4 b4 he
      go_wp2_with fail
      try rw [Exit.noGoto_ret]
      go_ret
      subst hkn
      exact ⟨_, [], e2, s2, hq, rfl, by simp, hfin.out⟩
    subst he
    have hx8 : Hid ((lo.length + 1) * 8 ≤ 140737488355328) := Lib.hid (by omega)
    have hii : Hid (i + (m + 1) = kn ∧ lo.length = i) := Lib.hid ⟨hi, hlo⟩
    have hwr : IntKind.i64.wrap ((i : Int) + 1) = ((i + 1 : Nat) : Int) := by rw [IntWalk.i64_in _ (by omega)]; simp
    have W4' := Lib.hid W4
    clear T4 H4 n4 o4 m4 f4 b4 hi hlo hlt W4
    generalize hll : lo.length = ll at *
    go_wp2_with (at_builtin; refine wpList_word wr rfl (.tmp 24) (.tmp 27) rfl (.slice A ll cp) lo (IntKind.u64.wrap (a - 1)) rfl W4'.out rfl (by rw [hll]; exact hx8.out) ?_; intro A5 c5 w5 hc5 hv5 hm5)
    have hL5 := hL.out.word (l' := lo ++ [IntKind.u64.wrap (a - 1)]) (by rw [hll] at hv5; exact hv5) (by rw [hll] at hm5; exact hm5)
    obtain ⟨f5, b5, W5, F5, T5, H5, n5, o5, m5⟩ := hL5
    have b5 : Bud s2 ((n + m) + 1) := b5
    have m5 := Lib.hid m5
    clear hL hv5 hm5 W4' d4
    refine (hget_b (n := n + m) T5 H5 n5 f5 b5 da (Fr.refl _ _)).mono ?_
    rintro _ w7 ⟨x7, e7, s7, q7, dx7, dy7, rfl, hL7⟩
    have hL7 := Lib.hid (LftN.turn W5 o5 m5.out hL7)
    have hq := Lib.hid (hq.out.trans (nodesGo_on q7.out))
    clear T5 H5 n5 f5 b5 W5 o5 m5 q7
    go_wp2_with fail
    go_roundg m
    case measure => omega
    case rel => exact ⟨i + 1, A5, c5, lo ++ [IntKind.u64.wrap (a - 1)], x7, e7, s7, by have := hii.out.1; omega, by have := hii.out.2; simp; omega, by simp; omega, by simp [hll], rfl, dx7, dy7, by simp, hq, by simpa [hll] using hL7⟩
end Go.Proofs.Ytcohopobjppmaaa
