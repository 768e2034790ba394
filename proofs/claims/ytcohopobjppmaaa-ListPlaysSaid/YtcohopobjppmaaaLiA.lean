/- The list's hand by its contracts: a get, a put, a take, a give. -/
import Derived.Test.YtcohopobjppmaaaLiFn
import Derived.Test.YtcohopobjppmaaaRoomU
import Derived.Test.YtcohopobjppmaaaFam
namespace Go.Proofs.Ytcohopobjppmaaa
open Go.RowKit
set_option maxHeartbeats 4000000
set_option linter.unusedVariables false
set_option linter.unusedSimpArgs false

/-- a hand over the tx at t -/
def Hnd (w : World) (h t : Nat) (e : Int) : Prop := Blk w h 73 #[.iface 31 (.pointer (some ⟨t, 0, none⟩)), .int .i64 e]
theorem Hnd.err {w : World} {h t : Nat} {e : Int} (k : Hnd w h t e) (e' : Int) : Hnd (w.setCell ⟨h, 1, none⟩ (.int .i64 e')) h t e' := by
  have := Blk.set_ k 1 (.int .i64 e')
  simpa [Hnd] using this
theorem Hnd.cells {w : World} {h t : Nat} {e : Int} (k : Hnd w h t e) : w.cell? ⟨h, 0, none⟩ = some (.iface 31 (.pointer (some ⟨t, 0, none⟩))) ∧ w.cell? ⟨h, 1, none⟩ = some (.int .i64 e) ∧ w.frozen? ⟨h, 1, none⟩ = false :=
  ⟨by rw [Blk.cell k]; rfl, by rw [Blk.cell k]; rfl, Blk.frozen k 1⟩
/-- What a call of the hand leaves behind. -/
def LftH (t h n : Nat) (F0 : Nat → Prop) (w0 : World) (s' : St) (e' : Int) (w' : World) : Prop :=
  Fits s' ∧ Bud s' n ∧ ∃ F', Txw w' t F' s' ∧ Hnd w' h t e' ∧ ¬ F' h ∧ Fr F0 w0 (fun k => F' k ∨ k = h) w'
section
variable {t h n : Nat} {F F' F0 : Nat → Prop} {s s' : St} {e e' : Int} {w w' w0 : World}
theorem LftH.same (hw : Txw w t F s) (hh : Hnd w h t e) (hn : ¬ F h) (hf : Fits s) (hb : Bud s n) (hm : Fr F0 w0 (fun k => F k ∨ k = h) w) : LftH t h n F0 w0 s e w := ⟨hf, hb, F, hw, hh, hn, hm⟩
/-- the tx has turned -/
theorem Hnd.turn (hh : Hnd w h t e) (hn : ¬ F h) (hm : Fr F0 w0 (fun k => F k ∨ k = h) w) (k1 : Fr F w F' w') : Hnd w' h t e ∧ ¬ F' h ∧ Fr F0 w0 (fun k => F' k ∨ k = h) w' :=
  ⟨k1.blk hh hn, fun c => (k1.new h c).elim hn fun c => by have := Blk.lt hh; omega, hm.trans (k1.side fun k => k = h)⟩
/-- its error is set -/
theorem LftH.set (hw : Txw w t F s) (hh : Hnd w h t e) (hn : ¬ F h) (hf : Fits s) (hb : Bud s n) (hm : Fr F0 w0 (fun k => F k ∨ k = h) w) (e' : Int) : LftH t h n F0 w0 s e' (w.setCell ⟨h, 1, none⟩ (.int .i64 e')) :=
  ⟨hf, hb, F, hw.set (p := ⟨h, 1, none⟩) hn _, hh.err e', hn, hm.set (p := ⟨h, 1, none⟩) (.inl (.inr rfl)) _⟩
theorem LftH.mono {m : Nat} (k : LftH t h n F0 w0 s' e' w') (hm : m ≤ n) : LftH t h m F0 w0 s' e' w' := ⟨k.1, k.2.1.mono hm, k.2.2⟩
theorem LftH.drewN (k : LftH t h n F0 w0 s' e' w') (m : Nat) : LftH t h n F0 w0 s' e' (w'.drewN m) := let ⟨a, b, F', c, d, f, g⟩ := k; ⟨a, b, F', c.drewN m, d, f, g.drewN m⟩
end

theorem hget_b {t h n : Nat} {F F0 : Nat → Prop} {s : St} {e a : Int} {w w0 : World} (hw : Txw w t F s) (hh : Hnd w h t e) (hn : ¬ F h) (hf : Fits s) (hb : Bud s (n + 1)) (ha : 0 ≤ a) (hm : Fr F0 w0 (fun k => F k ∨ k = h) w) :
    Calls Try.prog 41 #[.pointer (some ⟨h, 0, none⟩), .int .u64 a] w fun en w' =>
      ∃ x e' s', Hid (hget s e a = (x, e', s')) ∧ 0 ≤ x ∧ x ≤ 18446744073709551615 ∧ en = .returned (.int .u64 x) ∧ LftH t h n F0 w0 s' e' w' := by
  obtain ⟨d0, d1, z1⟩ := hh.cells
  by_cases he : e = 0
  · subst he
    have HF := Lib.hid fun F' w' (k1 : Fr F w F' w') => hh.turn hn hm k1
    clear hm hh hn
    go_enter Try.func41, Try.ntmps41
    go_wp2_with (go_at_call 70; refine (tget_b (n := n) hw hf hb ha (Fr.refl F w)).mono ?_; rintro _ w' ⟨x, er, s', q, dx, dx', rfl, f', b', F', hw', hm'⟩; obtain ⟨hh', hn', hm2⟩ := HF.out _ _ hm'; obtain ⟨d0', d1', z1'⟩ := hh'.cells; have L1 := Lib.hid (LftH.set hw' hh' hn' f' b' hm2 er); have L2 := Lib.hid (LftH.same hw' hh' hn' f' b' hm2); clear hw hf hb hw' hh' hn' f' b' hm2 hm' HF)
    · rename_i hz
      have hz : er ≠ 0 := by simpa using hz
      go_ret
      exact ⟨0, er, s', Lib.hid (hget_er q.out hz), by omega, by omega, rfl, L1.out⟩
    · rename_i hz
      obtain rfl : er = 0 := by simpa using hz
      go_ret
      exact ⟨x, 0, s', Lib.hid (hget_ok q.out), dx, dx', rfl, L2.out⟩
  · have he' : (e != 0) = true := by simpa using he
    have L2 := Lib.hid (LftH.same (n := n) hw hh hn hf (hb.mono (by omega)) hm)
    have hq := Lib.hid (hget_no (s := s) he a)
    clear he hw hh hn hf hb hm
    go_enter Try.func41, Try.ntmps41
    go_wp2
    go_ret
    exact ⟨0, e, s, hq, by omega, by omega, rfl, L2.out⟩

theorem hput_b {t h n : Nat} {F F0 : Nat → Prop} {s : St} {e a x : Int} {w w0 : World} (hw : Txw w t F s) (hh : Hnd w h t e) (hn : ¬ F h) (hf : Fits s) (hb : Bud s (n + 1)) (ha : 0 ≤ a) (hx : 0 ≤ x) (hx' : x ≤ 18446744073709551615) (hm : Fr F0 w0 (fun k => F k ∨ k = h) w) :
    Calls Try.prog 32 #[.pointer (some ⟨h, 0, none⟩), .int .u64 a, .int .u64 x] w fun en w' =>
      ∃ e' s', Hid (hput s e a x = (e', s')) ∧ en = .returned (.tuple #[]) ∧ LftH t h n F0 w0 s' e' w' := by
  obtain ⟨d0, d1, z1⟩ := hh.cells
  by_cases he : e = 0
  · subst he
    have HF := Lib.hid fun F' w' (k1 : Fr F w F' w') => hh.turn hn hm k1
    clear hm hh hn
    go_enter Try.func32, Try.ntmps32
    go_wp2_with (go_at_call 71; refine (tput_b (n := n) hw hf hb ha hx hx' (Fr.refl F w)).mono ?_; rintro _ w' ⟨er, s', q, rfl, f', b', F', hw', hm'⟩; obtain ⟨hh', hn', hm2⟩ := HF.out _ _ hm'; obtain ⟨d0', d1', z1'⟩ := hh'.cells; have L1 := Lib.hid (LftH.set hw' hh' hn' f' b' hm2 er); clear hw hf hb hw' hh' hn' f' b' hm2 hm' HF)
    go_end0
    exact ⟨er, s', Lib.hid ((hput_ok s a x).trans q.out), rfl, L1.out⟩
  · have he' : (e == 0) = false := by simpa using he
    have L2 := Lib.hid (LftH.same (n := n) hw hh hn hf (hb.mono (by omega)) hm)
    have hq := Lib.hid (hput_no (s := s) he a x)
    clear he hw hh hn hf hb hm
    go_enter Try.func32, Try.ntmps32
    go_wp2
    go_end0
    exact ⟨e, s, hq, rfl, L2.out⟩

theorem htake_b {t h n : Nat} {F F0 : Nat → Prop} {s : St} {e a z : Int} {w w0 : World} (hw : Txw w t F s) (hh : Hnd w h t e) (hn : ¬ F h) (hf : Fits s) (hb : Bud s (n + 4)) (ha : 0 ≤ a) (hz : 0 ≤ z) (hm : Fr F0 w0 (fun k => F k ∨ k = h) w) :
    Calls Try.prog 31 #[.pointer (some ⟨h, 0, none⟩), .int .u64 a, .int .u64 z] w fun en w' =>
      ∃ x e' s', Hid (htake s e a z = (x, e', s')) ∧ 0 ≤ x ∧ x ≤ 18446744073709551615 ∧ en = .returned (.int .u64 x) ∧ LftH t h n F0 w0 s' e' w' := by
  obtain ⟨d0, d1, z1⟩ := hh.cells
  by_cases he : e = 0
  · subst he
    have HF := Lib.hid fun F' w' (k1 : Fr F w F' w') => hh.turn hn hm k1
    clear hm hh hn
    go_enter Try.func31, Try.ntmps31
    go_wp2_with (go_at_call 47; refine (take_b (n := n) hw hf hb ha hz (Fr.refl F w)).mono ?_; rintro _ w' ⟨x, er, s', q, dx, dx', rfl, f', b', F', hw', hm'⟩; obtain ⟨hh', hn', hm2⟩ := HF.out _ _ hm'; obtain ⟨d0', d1', z1'⟩ := hh'.cells; have L1 := Lib.hid (LftH.set hw' hh' hn' f' b' hm2 er); clear hw hf hb hw' hh' hn' f' b' hm2 hm' HF)
    go_ret
    exact ⟨x, er, s', Lib.hid ((htake_ok s a z).trans q.out), dx, dx', rfl, L1.out⟩
  · have he' : (e != 0) = true := by simpa using he
    have L2 := Lib.hid (LftH.same (n := n) hw hh hn hf (hb.mono (by omega)) hm)
    have hq := Lib.hid (htake_no (s := s) he a z)
    clear he hw hh hn hf hb hm
    go_enter Try.func31, Try.ntmps31
    go_wp2
    go_ret
    exact ⟨0, e, s, hq, by omega, by omega, rfl, L2.out⟩

theorem hgive_b {t h n : Nat} {F F0 : Nat → Prop} {s : St} {e a p z : Int} {w w0 : World} (hw : Txw w t F s) (hh : Hnd w h t e) (hn : ¬ F h) (hf : Fits s) (hb : Bud s (n + 3)) (ha : 0 ≤ a) (hp : 0 ≤ p) (hp' : p ≤ 18446744073709551615) (hz : 0 ≤ z) (hm : Fr F0 w0 (fun k => F k ∨ k = h) w) :
    Calls Try.prog 42 #[.pointer (some ⟨h, 0, none⟩), .int .u64 a, .int .u64 p, .int .u64 z] w fun en w' =>
      ∃ e' s', Hid (hgive s e a p z = (e', s')) ∧ en = .returned (.tuple #[]) ∧ LftH t h n F0 w0 s' e' w' := by
  obtain ⟨d0, d1, z1⟩ := hh.cells
  by_cases he : e = 0
  · subst he
    have HF := Lib.hid fun F' w' (k1 : Fr F w F' w') => hh.turn hn hm k1
    clear hm hh hn
    go_enter Try.func42, Try.ntmps42
    go_wp2_with (go_at_call 33; refine (give_b (n := n) hw hf hb ha hp hp' hz (Fr.refl F w)).mono ?_; rintro _ w' ⟨er, s', q, rfl, f', b', F', hw', hm'⟩; obtain ⟨hh', hn', hm2⟩ := HF.out _ _ hm'; obtain ⟨d0', d1', z1'⟩ := hh'.cells; have L1 := Lib.hid (LftH.set hw' hh' hn' f' b' hm2 er); clear hw hf hb hw' hh' hn' f' b' hm2 hm' HF)
    go_end0
    exact ⟨er, s', Lib.hid ((hgive_ok s a p z).trans q.out), rfl, L1.out⟩
  · have he' : (e == 0) = false := by simpa using he
    have L2 := Lib.hid (LftH.same (n := n) hw hh hn hf (hb.mono (by omega)) hm)
    have hq := Lib.hid (hgive_no (s := s) he a p z)
    clear he hw hh hn hf hb hm
    go_enter Try.func42, Try.ntmps42
    go_wp2
    go_end0
    exact ⟨e, s, hq, rfl, L2.out⟩

theorem hbad_b {t h n : Nat} {F F0 : Nat → Prop} {s : St} {e : Int} {w w0 : World} (hw : Txw w t F s) (hh : Hnd w h t e) (hn : ¬ F h) (hf : Fits s) (hb : Bud s n) (hm : Fr F0 w0 (fun k => F k ∨ k = h) w) :
    Calls Try.prog 53 #[.pointer (some ⟨h, 0, none⟩)] w fun en w' => en = .returned (.tuple #[]) ∧ LftH t h n F0 w0 s (hbad e) w' := by
  obtain ⟨d0, d1, z1⟩ := hh.cells
  by_cases he : e = 0
  · subst he
    have L1 := Lib.hid (LftH.set hw hh hn hf hb hm (hbad 0))
    clear hw hh hn hf hb hm
    go_enter Try.func53, Try.ntmps53
    go_wp2
    go_end0
    exact ⟨rfl, L1.out⟩
  · have he' : (e == 0) = false := by simpa using he
    have L2 := Lib.hid (LftH.same hw hh hn hf hb hm)
    have hq : hbad e = e := if_neg he
    rw [hq]
    clear he hw hh hn hf hb hm hq
    go_enter Try.func53, Try.ntmps53
    go_wp2
    go_end0
    exact ⟨rfl, L2.out⟩
end Go.Proofs.Ytcohopobjppmaaa
