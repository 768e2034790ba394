/- IndexNil: a range over All of a table that is not there, or zero; nothing, by contract. -/
import Derived.Test.YtkjeobcfaolcaaaDoorIxNI
import Derived.Test.YtkjeobcfaolcaaaDoorIxL
import Derived.Test.YtkjeobcfaolcaaaDoorRf
namespace Go.Proofs.YtkjeobcfaolcaaaDoor
open Go.RowKit Go.Shelf
set_option maxHeartbeats 4000000
set_option linter.unusedVariables false
set_option linter.unusedSimpArgs false
attribute [local go_sem] Oper.semAt_some

theorem NzI.below {w w' : World} {p : Option Addr} {B : Nat} (h : NzI w p) (hb : Below B w w') (hB : w.heap.size ≤ B) : NzI w' p :=
  h.imp id fun ⟨t, e, b⟩ => ⟨t, e, Blk.below b hb (Nat.lt_of_lt_of_le b.lt hB)⟩
set_option maxRecDepth 100000 in
theorem nilAll1I_seq {α : Type} {p : Option Addr} {b n : Nat} {w : World} (hb : Blk w b 32 #[.pointer p]) (hz : NzI w p) (encs : α → Array Value) (Kp : World → World → Prop) :
    SeqStopsK Fence.wide n Tryd.prog 76 #[.pointer (some ⟨b, 0, none⟩)] encs Kp (fun xs => xs = []) (fun _ => False) 0 w := fun l J Jx W hW _ _ hY h0 => by
  refine callsIn_wide.2 ?_
  have d0 : W.cell? ⟨b, 0, none⟩ = some (.pointer p) := (hb.below hW hb.lt).cell 0
  have C1 := Lib.hid (nilCopyI_b (hz.below hW (Nat.le_refl _)))
  have C2 := Lib.hid (nilKeysI_b (p := none) (w := W) (.inl rfl))
  have h0 := Lib.hid h0
  clear hb hz hW hY
  go_enter Tryd.func76, Tryd.ntmps76
  go_wp2_with fail
  refine C1.out.mono ?_
  rintro _ w2 ⟨rfl, rfl⟩
  go_wp2_with fail
  refine C2.out.mono ?_
  rintro _ w3 ⟨rfl, rfl⟩
  go_wp2
  go_loopw [13] (fun i wr => i = .int .i64 0 ∧ Hid (wr = W)) (fun _ _ => 0)
  case atStart => exact ⟨rfl, Lib.hid rfl⟩
  case round =>
    obtain ⟨rfl, hw⟩ := hrel
    go_wp2
    go_end0
    exact ⟨⟨_, rfl⟩, .inl ⟨[], rfl, by rw [hw.out]; exact h0.out⟩⟩
theorem run_equalIn_func_nil (P : Program) (d : Nat) (t : TypeId) (f : Fn) (cap : Array Value) {ps rs : Array TypeId} {vr : Bool} (h : P.underlying t = some (.func ps rs vr)) (w : World) :
    (Op.equalIn (d + 1) t (.func f #[] cap) .nilFunc).run P w = .ok false w := by
  simp [Op.equalIn, run_underlying h]
theorem run_equal_func_nil (P : Program) (t : TypeId) (f : Fn) (cap : Array Value) {ps rs : Array TypeId} {vr : Bool} (h : P.underlying t = some (.func ps rs vr)) (w : World) :
    (Op.equal t (.func f #[] cap) .nilFunc).run P w = .ok false w := run_equalIn_func_nil P 9999 t f cap h w
theorem run_eql_func_nil (P : Program) (t : TypeId) (f : Fn) (cap : Array Value) {ps rs : Array TypeId} {vr : Bool} (h : P.underlying t = some (.func ps rs vr)) (w : World) :
    (binOp .eql t (.func f #[] cap) .nilFunc).run P w = .ok (.bool false) w := by
  simp only [binOp]
  simp [run_equal_func_nil P t f cap h w]
theorem seqI_nil (f : Fn) (cap : Array Value) (w : World) : (binOp .eql 83 (.func f #[] cap) .nilFunc).run Tryd.prog w = .ok (.bool false) w :=
  run_eql_func_nil Tryd.prog 83 f cap Tryd.underlying83 w
set_option maxRecDepth 100000 in
theorem nothing_b {p : Option Addr} {w : World} (hz : NzI w p) :
    Calls Tryd.prog 41 #[.pointer p] w fun e w' => e = .returned (.bool true) ∧ Below w.heap.size w w' := by
  have hmx : Tryd.prog.follows .mixedOrders = true := by kernel_rfl
  obtain ⟨w1, hw1⟩ : ∃ u, Hid (u = w.alloc (.cells #[.bool false] 4)) := ⟨_, Lib.hid rfl⟩
  have Z1 : Hid (NzI w1 p) := Lib.hid (by rw [hw1.out]; exact hz.alloc _)
  have R1 : Hid (Blk w1 w.heap.size 4 #[.bool false]) := Lib.hid (by rw [hw1.out]; exact Blk.new _ _ _)
  have L1 : Hid (Below w.heap.size w w1) := Lib.hid (by rw [hw1.out]; exact (Below.refl _ w).alloc (Nat.le_refl _) _)
  obtain ⟨w2, hw2⟩ : ∃ u, Hid (u = w1.alloc (.cells #[.pointer p] 32)) := ⟨_, Lib.hid rfl⟩
  have Z2 : Hid (NzI w2 p) := Lib.hid (by rw [hw2.out]; exact Z1.out.alloc _)
  have R2 : Hid (Blk w2 w.heap.size 4 #[.bool false]) := Lib.hid (by rw [hw2.out]; exact R1.out.alloc _)
  have L2 : Hid (Below w.heap.size w w2) := Lib.hid (by rw [hw2.out]; exact L1.out.alloc L1.out.size _)
  obtain ⟨w3, hw3⟩ : ∃ u, Hid (u = w2.alloc (.cells #[.pointer p] 32)) := ⟨_, Lib.hid rfl⟩
  have Z3 : Hid (NzI w3 p) := Lib.hid (by rw [hw3.out]; exact Z2.out.alloc _)
  have R3 : Hid (Blk w3 w.heap.size 4 #[.bool false]) := Lib.hid (by rw [hw3.out]; exact R2.out.alloc _)
  have A3 : Hid (Blk w3 w2.heap.size 32 #[.pointer p]) := Lib.hid (by rw [hw3.out]; exact Blk.new _ _ _)
  have L3 : Hid (Below w.heap.size w w3) := Lib.hid (by rw [hw3.out]; exact L2.out.alloc L2.out.size _)
  have P1 : Hid (∀ u, u = w1 → Calls Tryd.prog 15 #[.pointer p, .int .u64 1, .int .i64 2] u fun e w' => e = .returned (.tuple #[.int .i64 0, .bool false, .int .i64 1]) ∧ w' = w2) := Lib.hid fun u hu => by
    rw [hu, hw2.out]; exact nilPutI_b Z1.out
  have P2 : Hid (∀ u, u = w2 → Calls Tryd.prog 46 #[.pointer p] u fun e w' => e = .returned (.func (.func 76) #[] #[.pointer (some ⟨w2.heap.size, 0, none⟩)]) ∧ w' = w3) := Lib.hid fun u hu => by
    rw [hu, hw3.out]; exact allI_b
  clear hz Z1 R1 L1 hw2 hw3
  refine calls_marks Tryd.func41 rfl ?_
  simp only [Tryd.ntmps41, List.size_toArray, List.length_cons, List.length_nil, Nat.reduceAdd, Nat.reduceSub, Array.replicate_succ, Array.replicate_zero, List.push_toArray, List.append_toArray, List.nil_append, List.cons_append]
  go_wp2_with fail
  rw [← hw1.out]
  refine (P1.out _ rfl).mono ?_
  rintro _ w2 ⟨rfl, rfl⟩
  go_wp2_with fail
  refine (nilGetI_b Z2.out).mono ?_
  rintro _ u2 ⟨rfl, rfl⟩
  go_wp2_with fail
  refine (nilTakeI_b Z2.out).mono ?_
  rintro _ u3 ⟨rfl, rfl⟩
  go_wp2_with fail
  refine (nilClearI_b Z2.out).mono ?_
  rintro _ u4 ⟨⟨v0, rfl⟩, rfl⟩
  go_wp2_with fail
  refine (P2.out _ rfl).mono ?_
  rintro _ w3 ⟨rfl, rfl⟩
  have sn := seqI_nil
  go_wp2
  refine wp_rangeFunc_ (gf := 76) (lb := #[.pointer (some ⟨_, 0, none⟩)]) rfl (enters_of Tryd.func76 (by kernel_rfl) rfl)
    (nilAll1I_seq (α := Value × Value) (n := 2) A3.out Z3.out (fun x => #[x.1, x.2]) (fun _ _ => True)) (fun _ _ => trivial) (fun _ _ _ _ _ _ _ _ => trivial) (Below.refl _ _) (fun _ => rfl)
    (fun _ W => Below w3.heap.size w3 W) (fun _ _ _ => False) (ownFrom_below (Nat.le_refl _) (Nat.le_refl _)) (fun _ _ _ _ _ hs _ _ => hs) (Below.refl _ _)
    (fun _ _ _ => True) (fun _ _ _ _ _ _ hs _ _ => hs) ?assign ?body ?done ?stop
  case assign => 
    intro l pre x W K hi hK
    have hi := Lib.hid hi
    gi_wp2
    exact hK _ _ (KeepsFrom.refl _ _) trivial hi.out trivial
  case body => exact fun _ _ _ _ _ _ _ _ _ h => absurd h (Nat.not_lt_zero _)
  case stop => exact fun _ _ _ _ _ _ h => h.elim
  case done =>
    rintro D xs W hD hx bW hK
    have bW3 := Below.mono bW L3.out.size
    have L4 := Lib.hid (L3.out.trans bW3)
    have Z4 := Lib.hid (Z3.out.below bW (Nat.le_refl _))
    have R4 := Lib.hid (R3.out.below bW R3.out.lt)
    have r0 : W.cell? ⟨w.heap.size, 0, none⟩ = some (.bool false) := R4.out.cell 0
    have z0 := R4.out.frozen 0
    have hD := Lib.hid hD
    have hK := Lib.hid hK
    clear bW bW3 hx A3 Z3 R3 Z2 R2 L2 P1 P2 hw1
    go_wp2_with fail
    refine num_b.mono ?_
    rintro _ u11 ⟨rfl, rfl⟩
    go_wp2_with fail
    refine (nilLenI_b Z4.out).mono ?_
    rintro _ u12 ⟨rfl, rfl⟩
    go_wp2_with fail
    refine (nilSlotsI_b Z4.out).mono ?_
    rintro _ u13 ⟨rfl, rfl⟩
    go_wp2_with fail
    refine (nilAskedI_b Z4.out).mono ?_
    rintro _ u14 ⟨rfl, rfl⟩
    go_wp2_with fail
    refine (nilKeysI_b Z4.out).mono ?_
    rintro _ u15 ⟨rfl, rfl⟩
    go_wp2_with fail
    refine (nilCopyI_b Z4.out).mono ?_
    rintro _ u16 ⟨rfl, rfl⟩
    go_wp2_with fail
    have R5 := R4.out.set_ 0 (.bool true)
    have K5 : (W.setCell ⟨w.heap.size, 0, none⟩ (.bool true)).heap[D]? = some (.deferred (some [])) := (KeepsOthers.setCell W _ _).same _ _ hK.out rfl
    have c5 := (R5.shut (o := .deferred none) K5).cell 0
    have c5 : ((W.setCell ⟨w.heap.size, 0, none⟩ (.bool true)).putObj D (.deferred none)).cell? ⟨w.heap.size, 0, none⟩ = some (.bool true) := c5
    refine ⟨by simp, .inl ⟨_, _, rfl, run_takeDeferred K5, ?_⟩⟩
    refine ⟨.bool true, by simp [results, Tryd.f41, asAddr, go_sem, c5], rfl, ?_⟩
    exact (L4.out.setCell (p := ⟨w.heap.size, 0, none⟩) (Nat.le_refl _) _).grown (grownBy_putObj' _ D _) (by have := L4.out.size; simpa [World.setCell] using this) fun k e => by
      cases e
      exact Nat.le_trans L3.out.size hD.out
end Go.Proofs.YtkjeobcfaolcaaaDoor
