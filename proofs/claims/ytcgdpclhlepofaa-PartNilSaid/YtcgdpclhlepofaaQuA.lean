/- The queue's block, whose first refusal is kept: its get and put by contract. -/
import Derived.Test.YtcgdpclhlepofaaRoomU
import Derived.Test.YtcgdpclhlepofaaQueueFn
import Derived.Test.YtcgdpclhlepofaaWl
namespace Go.Proofs.Ytcgdpclhlepofaa
open Go.RowKit
set_option maxHeartbeats 2000000
set_option linter.unusedVariables false
set_option linter.unusedSimpArgs false

theorem Fr.not_in {F F' : Nat → Prop} {w w' : World} {k : Nat} (h : Fr F w F' w') (hk : k < w.heap.size) (hn : ¬ F k) : ¬ F' k := fun hf => (h.new k hf).elim hn fun h1 => by omega
theorem bget_bd {e : Int} {s : St} (h : Fits s) (a : Int) : 0 ≤ (bget e s a).1 ∧ (bget e s a).1 ≤ 18446744073709551615 := by
  unfold bget
  split
  · exact sget_word h a
  · simp

/-- A block lies at bb: over the tx, with what was refused. -/
structure Qb (w : World) (t bb : Nat) (F : Nat → Prop) (s : St) (e : Int) : Prop where
  tx : Txw w t F s
  blk : Blk w bb 74 #[.iface 26 (.pointer (some ⟨t, 0, none⟩)), .int .i64 e]
  nin : ¬ F bb
section
variable {w w' : World} {t bb : Nat} {F F' : Nat → Prop} {s s' : St} {e : Int}
theorem Qb.step (h : Qb w t bb F s e) (hw : Txw w' t F' s') (hf : Fr F w F' w') : Qb w' t bb F' s' e := ⟨hw, hf.blk h.blk h.nin, hf.not_in h.blk.lt h.nin⟩
theorem Qb.err (h : Qb w t bb F s e) (e' : Int) : Qb (w.setCell ⟨bb, 1, none⟩ (.int .i64 e')) t bb F s e' := ⟨h.tx.set h.nin _, by simpa using h.blk.set_ 1 (.int .i64 e'), h.nin⟩
theorem Qb.cell (h : Qb w t bb F s e) : w.cell? ⟨bb, 1, none⟩ = some (.int .i64 e) := by rw [h.blk.cell]; rfl
theorem Qb.drewN (h : Qb w t bb F s e) (n : Nat) : Qb (w.drewN n) t bb F s e := ⟨h.tx, h.blk, h.nin⟩
theorem Qb.new (h : Txw w t F s) (e : Int) : Qb (w.alloc (.cells #[.iface 26 (.pointer (some ⟨t, 0, none⟩)), .int .i64 e] 74)) t w.heap.size F s e := ⟨h.alloc _, Blk.new _ _ _, fun hk => by have := h.lt _ hk; omega⟩
theorem Qb.fr {G G' : Nat → Prop} (h : Qb w t bb F s e) (hf : Fr G w G' w') (hG : ∀ k, F k → ¬ G k) (hb : ¬ G bb) : Qb w' t bb F s e := ⟨h.tx.fr hf hG, hf.blk h.blk hb, h.nin⟩
end
def LftB (t bb n : Nat) (F0 : Nat → Prop) (w0 : World) (s' : St) (e' : Int) (w' : World) : Prop := Fits s' ∧ Bud s' n ∧ ∃ F', Qb w' t bb F' s' e' ∧ Fr F0 w0 F' w'

theorem qget_b {t bb n : Nat} {F F0 : Nat → Prop} {s : St} {a e : Int} {w w0 : World} (h : Qb w t bb F s e) (hf : Fits s) (hb : Bud s (n + 1)) (ha : 0 ≤ a) (hm : Fr F0 w0 F w) (hE : F0 bb ∨ w0.heap.size ≤ bb) :
    Calls Try.prog 43 #[.pointer (some ⟨bb, 0, none⟩), .int .u64 a] w fun en w' => ∃ x e' s', Hid (bget e s a = (x, e', s')) ∧ 0 ≤ x ∧ x ≤ 18446744073709551615 ∧ en = .returned (.int .u64 x) ∧ LftB t bb n F0 w0 s' e' w' := by
  have d0 := h.blk.cell 0
  have d1 := h.blk.cell 1
  have z1 := h.blk.frozen 1
  simp only [List.getElem?_toArray, List.getElem?_cons_zero, List.getElem?_cons_succ] at d0 d1
  by_cases he : e = 0
  · subst he
    go_enter Try.func43, Try.ntmps43
    go_wp2_with fail
    refine (tget_b h.tx hf hb ha (Fr.refl _ _)).mono ?_
    rintro _ w1 ⟨x, er, s1, q, dx, dx', rfl, f1, b1, F1, hw1, hm1⟩
    have h1 := h.step hw1 hm1
    have d2 := h1.blk.cell 1
    have z2 := h1.blk.frozen 1
    simp only [List.getElem?_toArray, List.getElem?_cons_zero, List.getElem?_cons_succ] at d2
    have h2 := Lib.hid (h1.err er)
    have hm2 := Lib.hid ((hm.trans hm1).set (p := ⟨bb, 1, none⟩) (.inr hE) (.int .i64 er))
    have hq : Hid (bget 0 s a = (x, er, s1)) := Lib.hid (by unfold bget; rw [if_pos (by decide)]; exact q.out)
    clear h hm h1 hm1 hw1 d0 d1 z1 q
    go_wp2
    go_ret
    exact ⟨x, er, s1, hq, dx, dx', rfl, f1, b1, F1, h2.out, hm2.out⟩
  · have hz : (e != 0) = true := by simpa using he
    have hq : Hid (bget e s a = (0, e, s)) := Lib.hid (by unfold bget; rw [if_neg (by simp [hz])])
    have h2 := Lib.hid h
    have hm2 := Lib.hid hm
    clear h hm he
    go_enter Try.func43, Try.ntmps43
    go_wp2
    go_ret
    exact ⟨0, e, s, hq, by omega, by omega, rfl, hf, hb.mono (by omega), F, h2.out, hm2.out⟩

theorem qput_b {t bb n : Nat} {F F0 : Nat → Prop} {s : St} {a x e : Int} {w w0 : World} (h : Qb w t bb F s e) (hf : Fits s) (hb : Bud s (n + 1)) (ha : 0 ≤ a) (hx : 0 ≤ x) (hx' : x ≤ 18446744073709551615) (hm : Fr F0 w0 F w) (hE : F0 bb ∨ w0.heap.size ≤ bb) :
    Calls Try.prog 42 #[.pointer (some ⟨bb, 0, none⟩), .int .u64 a, .int .u64 x] w fun en w' => ∃ e' s', Hid (bput e s a x = (e', s')) ∧ en = .returned (.tuple #[]) ∧ LftB t bb n F0 w0 s' e' w' := by
  have d0 := h.blk.cell 0
  have d1 := h.blk.cell 1
  have z1 := h.blk.frozen 1
  simp only [List.getElem?_toArray, List.getElem?_cons_zero, List.getElem?_cons_succ] at d0 d1
  by_cases he : e = 0
  · subst he
    go_enter Try.func42, Try.ntmps42
    go_wp2_with fail
    refine (tput_b h.tx hf hb ha hx hx' (Fr.refl _ _)).mono ?_
    rintro _ w1 ⟨er, s1, q, rfl, f1, b1, F1, hw1, hm1⟩
    have h1 := h.step hw1 hm1
    have d2 := h1.blk.cell 1
    have z2 := h1.blk.frozen 1
    simp only [List.getElem?_toArray, List.getElem?_cons_zero, List.getElem?_cons_succ] at d2
    have h2 := Lib.hid (h1.err er)
    have hm2 := Lib.hid ((hm.trans hm1).set (p := ⟨bb, 1, none⟩) (.inr hE) (.int .i64 er))
    have hq : Hid (bput 0 s a x = (er, s1)) := Lib.hid (by unfold bput; rw [if_pos (by decide)]; exact q.out)
    clear h hm h1 hm1 hw1 d0 d1 z1 q
    go_wp2
    go_end0
    exact ⟨er, s1, hq, rfl, f1, b1, F1, h2.out, hm2.out⟩
  · have hz : (e == 0) = false := by simpa using he
    have hq : Hid (bput e s a x = (e, s)) := Lib.hid (by unfold bput; rw [if_neg (by simp [hz])])
    have h2 := Lib.hid h
    have hm2 := Lib.hid hm
    clear h hm he
    go_enter Try.func42, Try.ntmps42
    go_wp2
    go_end0
    exact ⟨e, s, hq, rfl, hf, hb.mono (by omega), F, h2.out, hm2.out⟩
end Go.Proofs.Ytcgdpclhlepofaa
