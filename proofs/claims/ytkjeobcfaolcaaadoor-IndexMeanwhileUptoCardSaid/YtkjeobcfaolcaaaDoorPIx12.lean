/- A key's slot, by contract (a table of int). -/
import Derived.ScopeJumps
import Derived.Test.YtkjeobcfaolcaaaDoorPIx1
import Derived.Test.YtkjeobcfaolcaaaDoorPIx5
import Derived.Test.YtkjeobcfaolcaaaDoorPIx11
namespace Go.Proofs.YtkjeobcfaolcaaaDoor
open Go.RowKit
set_option maxHeartbeats 4000000
set_option linter.unusedVariables false
set_option linter.unusedSimpArgs false

set_option maxRecDepth 100000 in
theorem lookI_b {t g k fuel j m cz : Nat} {key : Int} {U : Nat → Bool} {K : Nat → Int} {c1 : Value} {w : World} (hT : Tab w) (ht : Blk w t 73 #[.slice (some ⟨g, 0, none⟩) (2 ^ k : Nat) cz, c1])
    (hS : SlotsAt w g (2 ^ k) U K) (h1 : 1 ≤ k) (h2 : k ≤ 62) (hf : fuel ≤ 4611686018427387904) (hl : lgo U K key (2 ^ k) fuel (homeOf key k).toNat 1 = some (j, m)) :
    Calls Tryd.prog 44 #[.pointer (some ⟨t, 0, none⟩), .int .u64 key] w fun e w' => e = .returned (.tuple #[.int .i64 (j : Int), .int .i64 (m : Int)]) ∧ w = w' := by
  have C := home_b (key := key) h1 h2 hT
  have hbd := homeOf_bd key h1 h2
  obtain ⟨i0, hi0⟩ : ∃ i0 : Nat, homeOf key k = (i0 : Int) := ⟨(homeOf key k).toNat, by omega⟩
  have hlt0 : i0 < 2 ^ k := by
    have : ((2 ^ k : Nat) : Int) = (2 : Int) ^ k := by simp
    omega
  rw [hi0] at C hl
  have hl : lgo U K key (2 ^ k) fuel i0 1 = some (j, m) := hl
  have C := Lib.hid C
  have hbit := fun i => bit_next (k := k) (i := i) h2
  have hq : 2 ^ k ≤ 2 ^ 62 := Nat.pow_le_pow_right (by omega) h2
  have hq0 := Nat.two_pow_pos k
  have d0 : w.cell? ⟨t, 0, none⟩ = some (.slice (some ⟨g, 0, none⟩) (2 ^ k : Nat) cz) := by rw [Blk.cell ht]; rfl
  clear hT ht h1 h2 hbd hi0
  generalize 2 ^ k = sl at *
  have hS := Lib.hid hS
  have hbit := Lib.hid hbit
  go_enter Tryd.func44, Tryd.ntmps44
  go_wp2
  refine wp_scope_jumps 0 (fun a' w' => w' = w ∧ ∃ (f i n : Nat) (u8 u9 u10 u11 u12 u13 u14 u15 u16 u17 u18 u19 u20 u21 u22 u23 u24 u25 u26 u27 u28 u29 u30 u31 u32 u33 u34 u35 u36 u37 u38 u39 u40 u41 u42 u43 u44 u45 u46 : Value), a' = { tmps := #[.pointer (some ⟨t, 0, none⟩), .int .u64 key, undef, undef, .int .i64 0, .int .i64 0, .int .i64 (i : Int), .int .i64 (n : Int), u8, u9, u10, u11, u12, u13, u14, u15, u16, u17, u18, u19, u20, u21, u22, u23, u24, u25, u26, u27, u28, u29, u30, u31, u32, u33, u34, u35, u36, u37, u38, u39, u40, u41, u42, u43, u44, u45, u46], defers := [] } ∧ n + f = fuel + 1 ∧ i < sl ∧ lgo U K key sl f i n = some (j, m)) (fun a' _ => fuel + 1 - (intOf (a'.tmps.getD 7 undef)).toNat) rfl ?_ ?_
  · obtain ⟨i, hi0, hi⟩ : ∃ i, i = i0 ∧ i < sl := ⟨i0, rfl, hlt0⟩
    subst hi0
    obtain ⟨f, hff⟩ : ∃ f, f = fuel := ⟨_, rfl⟩
    obtain ⟨n, hnn⟩ : ∃ n, n = 1 := ⟨_, rfl⟩
    have hfn : n + f = fuel + 1 := by omega
    rw [← hff, ← hnn] at hl
    have hlg := hl
    clear hff hl hlt0
    subst hnn
    obtain ⟨f, rfl⟩ : ∃ f', f = f' + 1 := by
      cases f with
      | zero => simp [lgo] at hlg
      | succ f => exact ⟨f, rfl⟩
    obtain ⟨dU, dK⟩ := hS.out i hi
    have hb := hbit.out i hi
    have hi' : (i : Int) ≤ 4611686018427387903 := by omega
    have hn' : (1 : Int) ≤ 4611686018427387904 := by omega
    have hz : decide (i < sl) = true := decide_eq_true hi
    have hsl : (sl : Int) ≤ 4611686018427387904 := by omega
    rw [lgo] at hlg
    by_cases hp : (U i && K i != key) = true
    · rw [if_pos hp] at hlg
      simp only [Bool.and_eq_true] at hp
      obtain ⟨hu, hk⟩ := hp
      rw [hu] at dU
      have hlg := Lib.hid hlg
      go_wp2_with fail
      refine C.out.mono ?_
      rintro _ w2 ⟨rfl, rfl⟩
      go_wp2
      go_step3
      go_wp2
      go_step3
      rw [show ((i : Int) + 1) % (sl : Int) = (((i + 1) % sl : Nat) : Int) by simp]
      exact ⟨rfl, ⟨rfl, f, (i + 1) % sl, 1 + 1, _, _, _, _, _, _, _, _, _, _, _, _, _, _, _, _, _, _, _, _, _, _, _, _, _, _, _, _, _, _, _, _, _, _, _, _, _, _, _, rfl, by omega, Nat.mod_lt _ hq0, hlg.out⟩⟩
    · rw [if_neg hp] at hlg
      simp only [Option.some.injEq, Prod.mk.injEq] at hlg
      obtain ⟨rfl, rfl⟩ := hlg
      by_cases hu : U i = true
      · rw [hu] at dU
        have hk : (K i != key) = false := by rw [hu] at hp; simpa using hp
        go_wp2_with fail
        refine C.out.mono ?_
        rintro _ w2 ⟨rfl, rfl⟩
        go_wp2
        go_step3
        go_wp2
        simp only [Exit.jump]
        go_ret2
        exact ⟨rfl, rfl⟩
      · have hu : U i = false := by simpa using hu
        rw [hu] at dU
        go_wp2_with fail
        refine C.out.mono ?_
        rintro _ w2 ⟨rfl, rfl⟩
        go_wp2
        go_step3
        go_wp2
        simp only [Exit.jump]
        go_ret2
        exact ⟨rfl, rfl⟩
  · rintro a' w' ⟨rfl, f, i, n, u8, u9, u10, u11, u12, u13, u14, u15, u16, u17, u18, u19, u20, u21, u22, u23, u24, u25, u26, u27, u28, u29, u30, u31, u32, u33, u34, u35, u36, u37, u38, u39, u40, u41, u42, u43, u44, u45, u46, rfl, hfn, hi, hlg⟩
    obtain ⟨f, rfl⟩ : ∃ f', f = f' + 1 := by
      cases f with
      | zero => simp [lgo] at hlg
      | succ f => exact ⟨f, rfl⟩
    obtain ⟨dU, dK⟩ := hS.out i hi
    have hb := hbit.out i hi
    have hi' : (i : Int) ≤ 4611686018427387903 := by omega
    have hn' : (n : Int) ≤ 4611686018427387904 := by omega
    have hz : decide (i < sl) = true := decide_eq_true hi
    have hsl : (sl : Int) ≤ 4611686018427387904 := by omega
    rw [lgo] at hlg
    by_cases hp : (U i && K i != key) = true
    · rw [if_pos hp] at hlg
      simp only [Bool.and_eq_true] at hp
      obtain ⟨hu, hk⟩ := hp
      rw [hu] at dU
      have hlg := Lib.hid hlg
      go_wp2
      go_step3
      rw [show ((i : Int) + 1) % (sl : Int) = (((i + 1) % sl : Nat) : Int) by simp, show (n : Int) + 1 = ((n + 1 : Nat) : Int) by simp]
      refine ⟨rfl, ⟨rfl, f, (i + 1) % sl, n + 1, _, _, _, _, _, _, _, _, _, _, _, _, _, _, _, _, _, _, _, _, _, _, _, _, _, _, _, _, _, _, _, _, _, _, _, _, _, _, _, rfl, by omega, Nat.mod_lt _ hq0, hlg.out⟩, ?_⟩
      simp [intOf]
      omega
    · rw [if_neg hp] at hlg
      simp only [Option.some.injEq, Prod.mk.injEq] at hlg
      obtain ⟨rfl, rfl⟩ := hlg
      by_cases hu : U i = true
      · rw [hu] at dU
        have hk : (K i != key) = false := by rw [hu] at hp; simpa using hp
        go_wp2
        simp only [Exit.jump]
        go_ret2
        exact ⟨rfl, rfl⟩
      · have hu : U i = false := by simpa using hu
        rw [hu] at dU
        go_wp2
        simp only [Exit.jump]
        go_ret2
        exact ⟨rfl, rfl⟩
end Go.Proofs.YtkjeobcfaolcaaaDoor
/- The calls of a table of int that is not there, or zero, by contract. -/
namespace Go.Proofs.YtkjeobcfaolcaaaDoor
open Go.RowKit
set_option maxHeartbeats 4000000
set_option linter.unusedVariables false
set_option linter.unusedSimpArgs false

/-- not there, or zero -/
def NzI (w : World) (p : Option Addr) : Prop := p = none ∨ ∃ t, p = some ⟨t, 0, none⟩ ∧ Blk w t 73 #[.slice none 0 0, .slice none 0 0]
theorem NzI.alloc {w : World} {p : Option Addr} (h : NzI w p) (o : Obj) : NzI (w.alloc o) p := h.imp id fun ⟨t, e, b⟩ => ⟨t, e, b.alloc o⟩
theorem nilmadeI_b {p : Option Addr} {w : World} (h : NzI w p) :
    Calls Tryd.prog 43 #[.pointer p] w fun e w' => e = .returned (.bool false) ∧ w = w' := by
  rcases h with rfl | ⟨t, rfl, ht⟩
  · go_enter Tryd.func43, Tryd.ntmps43
    go_wp2
    go_ret
    exact ⟨rfl, rfl⟩
  · have d0 : w.cell? ⟨t, 0, none⟩ = some (.slice none 0 0) := by rw [Blk.cell ht]; rfl
    clear ht
    go_enter Tryd.func43, Tryd.ntmps43
    go_wp2
    go_ret
    exact ⟨rfl, rfl⟩
theorem nilGetI_b {p : Option Addr} {key : Int} {w : World} (h : NzI w p) :
    Calls Tryd.prog 17 #[.pointer p, .int .u64 key] w fun e w' => e = .returned (.tuple #[.int .i64 0, .bool false]) ∧ w = w' := by
  have M := Lib.hid (nilmadeI_b h)
  clear h
  go_enter Tryd.func17, Tryd.ntmps17
  go_wp2_with fail
  refine M.out.mono ?_
  rintro _ w2 ⟨rfl, rfl⟩
  go_wp2
  go_ret2
  exact ⟨rfl, rfl⟩
theorem nilTakeI_b {p : Option Addr} {key : Int} {w : World} (h : NzI w p) :
    Calls Tryd.prog 18 #[.pointer p, .int .u64 key] w fun e w' => e = .returned (.tuple #[.int .i64 0, .bool false]) ∧ w = w' := by
  have M := Lib.hid (nilGetI_b (key := key) h)
  clear h
  go_enter Tryd.func18, Tryd.ntmps18
  go_wp2_with fail
  refine M.out.mono ?_
  rintro _ w2 ⟨rfl, rfl⟩
  go_wp2
  go_ret2
  exact ⟨rfl, rfl⟩
theorem nilLenI_b {p : Option Addr} {w : World} (h : NzI w p) :
    Calls Tryd.prog 21 #[.pointer p] w fun e w' => e = .returned (.int .i64 0) ∧ w = w' := by
  have M := Lib.hid (nilmadeI_b h)
  clear h
  go_enter Tryd.func21, Tryd.ntmps21
  go_wp2_with fail
  refine M.out.mono ?_
  rintro _ w2 ⟨rfl, rfl⟩
  go_wp2
  go_ret
  exact ⟨rfl, rfl⟩
theorem nilSlotsI_b {p : Option Addr} {w : World} (h : NzI w p) :
    Calls Tryd.prog 23 #[.pointer p] w fun e w' => e = .returned (.int .i64 0) ∧ w = w' := by
  have M := Lib.hid (nilmadeI_b h)
  clear h
  go_enter Tryd.func23, Tryd.ntmps23
  go_wp2_with fail
  refine M.out.mono ?_
  rintro _ w2 ⟨rfl, rfl⟩
  go_wp2
  go_ret
  exact ⟨rfl, rfl⟩
theorem nilAskedI_b {p : Option Addr} {key : Int} {w : World} (h : NzI w p) :
    Calls Tryd.prog 20 #[.pointer p, .int .u64 key] w fun e w' => e = .returned (.int .i64 0) ∧ w = w' := by
  have M := Lib.hid (nilmadeI_b h)
  clear h
  go_enter Tryd.func20, Tryd.ntmps20
  go_wp2_with fail
  refine M.out.mono ?_
  rintro _ w2 ⟨rfl, rfl⟩
  go_wp2
  go_ret
  exact ⟨rfl, rfl⟩
theorem nilKeysI_b {p : Option Addr} {w : World} (h : NzI w p) :
    Calls Tryd.prog 27 #[.pointer p] w fun e w' => e = .returned (.slice none 0 0) ∧ w = w' := by
  have M := Lib.hid (nilmadeI_b h)
  clear h
  go_enter Tryd.func27, Tryd.ntmps27
  go_wp2_with fail
  refine M.out.mono ?_
  rintro _ w2 ⟨rfl, rfl⟩
  go_wp2
  go_ret
  exact ⟨rfl, rfl⟩
theorem nilCopyI_b {p : Option Addr} {w : World} (h : NzI w p) :
    Calls Tryd.prog 45 #[.pointer p] w fun e w' => e = .returned (.pointer none) ∧ w = w' := by
  have M := Lib.hid (nilmadeI_b h)
  clear h
  go_enter Tryd.func45, Tryd.ntmps45
  go_wp2_with fail
  refine M.out.mono ?_
  rintro _ w2 ⟨rfl, rfl⟩
  go_wp2
  go_ret
  exact ⟨rfl, rfl⟩
theorem nilClearI_b {p : Option Addr} {w : World} (h : NzI w p) :
    Calls Tryd.prog 73 #[.pointer p] w fun e w' => (∃ v, e = .returned v) ∧ w = w' := by
  have M := Lib.hid (nilmadeI_b h)
  clear h
  go_enter Tryd.func73, Tryd.ntmps73
  go_wp2_with fail
  refine M.out.mono ?_
  rintro _ w2 ⟨rfl, rfl⟩
  go_wp2
  go_end0
  exact ⟨⟨_, rfl⟩, rfl⟩
theorem nilPutI_b {p : Option Addr} {key : Int} {v : Int} {w : World} (h : NzI w p) :
    Calls Tryd.prog 15 #[.pointer p, .int .u64 key, .int .i64 v] w fun e w' => e = .returned (.tuple #[.int .i64 0, .bool false, .int .i64 1]) ∧ w' = w.alloc (.cells #[.pointer p] 32) := by
  have M := Lib.hid (nilmadeI_b (h.alloc (.cells #[.pointer p] 32)))
  have p0 := (Blk.new w 32 #[.pointer p]).cell 0
  have p0 : (w.alloc (.cells #[.pointer p] 32)).cell? ⟨w.heap.size, 0, none⟩ = some (.pointer p) := p0
  clear h
  go_enter Tryd.func15, Tryd.ntmps15
  go_wp2_with fail
  refine M.out.mono ?_
  rintro _ w2 ⟨rfl, rfl⟩
  go_wp2
  go_ret3
  exact ⟨rfl, rfl⟩
theorem allI_b {p : Option Addr} {w : World} :
    Calls Tryd.prog 46 #[.pointer p] w fun e w' => e = .returned (.func (.func 76) #[] #[.pointer (some ⟨w.heap.size, 0, none⟩)]) ∧ w' = w.alloc (.cells #[.pointer p] 32) := by
  go_enter Tryd.func46, Tryd.ntmps46
  go_wp2
  go_ret
  exact ⟨rfl, rfl⟩
end Go.Proofs.YtkjeobcfaolcaaaDoor
/- IndexNil: a range over All of a table that is not there, or zero; nothing, by contract. -/
namespace Go.Proofs.YtkjeobcfaolcaaaDoor
open Go.RowKit Go.Shelf
set_option maxHeartbeats 4000000
set_option linter.unusedVariables false
set_option linter.unusedSimpArgs false
attribute [local go_sem] Oper.semAt_some

theorem NzI.below {w w' : World} {p : Option Addr} {B : Nat} (h : NzI w p) (hb : Below B w w') (hB : w.heap.size ≤ B) : NzI w' p :=
  h.imp id fun ⟨t, e, b⟩ => ⟨t, e, Blk.below b hb (Nat.lt_of_lt_of_le b.lt hB)⟩
set_option maxRecDepth 100000 in
theorem nilAll1I_seq {α : Type} {p : Option Addr} {b n : Nat} {w : World} (hb : Blk w b 32 #[.pointer p]) (hz : NzI w p) (encs : α → Array Value) (Kp : World → World → Prop) :
    SeqStopsK Fence.wide n Tryd.prog 76 #[.pointer (some ⟨b, 0, none⟩)] encs Kp (fun xs => xs = []) (fun _ => False) 0 w := fun l J Jx W hW _ _ hY h0 => by
  refine callsIn_wide.2 ?_
  have d0 : W.cell? ⟨b, 0, none⟩ = some (.pointer p) := (hb.below hW hb.lt).cell 0
  have C1 := Lib.hid (nilCopyI_b (hz.below hW (Nat.le_refl _)))
  have C2 := Lib.hid (nilKeysI_b (p := none) (w := W) (.inl rfl))
  have h0 := Lib.hid h0
  clear hb hz hW hY
  go_enter Tryd.func76, Tryd.ntmps76
  go_wp2_with fail
  refine C1.out.mono ?_
  rintro _ w2 ⟨rfl, rfl⟩
  go_wp2_with fail
  refine C2.out.mono ?_
  rintro _ w3 ⟨rfl, rfl⟩
  go_wp2
  go_loopw [13] (fun i wr => i = .int .i64 0 ∧ Hid (wr = W)) (fun _ _ => 0)
  case atStart => exact ⟨rfl, Lib.hid rfl⟩
  case round =>
    obtain ⟨rfl, hw⟩ := hrel
    go_wp2
    go_end0
    exact ⟨⟨_, rfl⟩, .inl ⟨[], rfl, by rw [hw.out]; exact h0.out⟩⟩
theorem run_equalIn_func_nil (P : Program) (d : Nat) (t : TypeId) (f : Fn) (cap : Array Value) {ps rs : Array TypeId} {vr : Bool} (h : P.underlying t = some (.func ps rs vr)) (w : World) :
    (Op.equalIn (d + 1) t (.func f #[] cap) .nilFunc).run P w = .ok false w := by
  simp [Op.equalIn, run_underlying h]
theorem run_equal_func_nil (P : Program) (t : TypeId) (f : Fn) (cap : Array Value) {ps rs : Array TypeId} {vr : Bool} (h : P.underlying t = some (.func ps rs vr)) (w : World) :
    (Op.equal t (.func f #[] cap) .nilFunc).run P w = .ok false w := run_equalIn_func_nil P 9999 t f cap h w
theorem run_eql_func_nil (P : Program) (t : TypeId) (f : Fn) (cap : Array Value) {ps rs : Array TypeId} {vr : Bool} (h : P.underlying t = some (.func ps rs vr)) (w : World) :
    (binOp .eql t (.func f #[] cap) .nilFunc).run P w = .ok (.bool false) w := by
  simp only [binOp]
  simp [run_equal_func_nil P t f cap h w]
theorem seqI_nil (f : Fn) (cap : Array Value) (w : World) : (binOp .eql 83 (.func f #[] cap) .nilFunc).run Tryd.prog w = .ok (.bool false) w :=
  run_eql_func_nil Tryd.prog 83 f cap Tryd.underlying83 w
set_option maxRecDepth 100000 in
theorem nothing_b {p : Option Addr} {w : World} (hz : NzI w p) :
    Calls Tryd.prog 41 #[.pointer p] w fun e w' => e = .returned (.bool true) ∧ Below w.heap.size w w' := by
  have hmx : Tryd.prog.follows .mixedOrders = true := by kernel_rfl
  obtain ⟨w1, hw1⟩ : ∃ u, Hid (u = w.alloc (.cells #[.bool false] 4)) := ⟨_, Lib.hid rfl⟩
  have Z1 : Hid (NzI w1 p) := Lib.hid (by rw [hw1.out]; exact hz.alloc _)
  have R1 : Hid (Blk w1 w.heap.size 4 #[.bool false]) := Lib.hid (by rw [hw1.out]; exact Blk.new _ _ _)
  have L1 : Hid (Below w.heap.size w w1) := Lib.hid (by rw [hw1.out]; exact (Below.refl _ w).alloc (Nat.le_refl _) _)
  obtain ⟨w2, hw2⟩ : ∃ u, Hid (u = w1.alloc (.cells #[.pointer p] 32)) := ⟨_, Lib.hid rfl⟩
  have Z2 : Hid (NzI w2 p) := Lib.hid (by rw [hw2.out]; exact Z1.out.alloc _)
  have R2 : Hid (Blk w2 w.heap.size 4 #[.bool false]) := Lib.hid (by rw [hw2.out]; exact R1.out.alloc _)
  have L2 : Hid (Below w.heap.size w w2) := Lib.hid (by rw [hw2.out]; exact L1.out.alloc L1.out.size _)
  obtain ⟨w3, hw3⟩ : ∃ u, Hid (u = w2.alloc (.cells #[.pointer p] 32)) := ⟨_, Lib.hid rfl⟩
  have Z3 : Hid (NzI w3 p) := Lib.hid (by rw [hw3.out]; exact Z2.out.alloc _)
  have R3 : Hid (Blk w3 w.heap.size 4 #[.bool false]) := Lib.hid (by rw [hw3.out]; exact R2.out.alloc _)
  have A3 : Hid (Blk w3 w2.heap.size 32 #[.pointer p]) := Lib.hid (by rw [hw3.out]; exact Blk.new _ _ _)
  have L3 : Hid (Below w.heap.size w w3) := Lib.hid (by rw [hw3.out]; exact L2.out.alloc L2.out.size _)
  have P1 : Hid (∀ u, u = w1 → Calls Tryd.prog 15 #[.pointer p, .int .u64 1, .int .i64 2] u fun e w' => e = .returned (.tuple #[.int .i64 0, .bool false, .int .i64 1]) ∧ w' = w2) := Lib.hid fun u hu => by
    rw [hu, hw2.out]; exact nilPutI_b Z1.out
  have P2 : Hid (∀ u, u = w2 → Calls Tryd.prog 46 #[.pointer p] u fun e w' => e = .returned (.func (.func 76) #[] #[.pointer (some ⟨w2.heap.size, 0, none⟩)]) ∧ w' = w3) := Lib.hid fun u hu => by
    rw [hu, hw3.out]; exact allI_b
  clear hz Z1 R1 L1 hw2 hw3
  refine calls_marks Tryd.func41 rfl ?_
  simp only [Tryd.ntmps41, List.size_toArray, List.length_cons, List.length_nil, Nat.reduceAdd, Nat.reduceSub, Array.replicate_succ, Array.replicate_zero, List.push_toArray, List.append_toArray, List.nil_append, List.cons_append]
  go_wp2_with fail
  rw [← hw1.out]
  refine (P1.out _ rfl).mono ?_
  rintro _ w2 ⟨rfl, rfl⟩
  go_wp2_with fail
  refine (nilGetI_b Z2.out).mono ?_
  rintro _ u2 ⟨rfl, rfl⟩
  go_wp2_with fail
  refine (nilTakeI_b Z2.out).mono ?_
  rintro _ u3 ⟨rfl, rfl⟩
  go_wp2_with fail
  refine (nilClearI_b Z2.out).mono ?_
  rintro _ u4 ⟨⟨v0, rfl⟩, rfl⟩
  go_wp2_with fail
  refine (P2.out _ rfl).mono ?_
  rintro _ w3 ⟨rfl, rfl⟩
  have sn := seqI_nil
  go_wp2
  refine wp_rangeFunc_ (gf := 76) (lb := #[.pointer (some ⟨_, 0, none⟩)]) rfl (enters_of Tryd.func76 (by kernel_rfl) rfl)
    (nilAll1I_seq (α := Value × Value) (n := 2) A3.out Z3.out (fun x => #[x.1, x.2]) (fun _ _ => True)) (fun _ _ => trivial) (fun _ _ _ _ _ _ _ _ => trivial) (Below.refl _ _) (fun _ => rfl)
    (fun _ W => Below w3.heap.size w3 W) (fun _ _ _ => False) (ownFrom_below (Nat.le_refl _) (Nat.le_refl _)) (fun _ _ _ _ _ hs _ _ => hs) (Below.refl _ _)
    (fun _ _ _ => True) (fun _ _ _ _ _ _ hs _ _ => hs) ?assign ?body ?done ?stop
  case assign => 
    intro l pre x W K hi hK
    have hi := Lib.hid hi
    gi_wp2
    exact hK _ _ (KeepsFrom.refl _ _) trivial hi.out trivial
  case body => exact fun _ _ _ _ _ _ _ _ _ h => absurd h (Nat.not_lt_zero _)
  case stop => exact fun _ _ _ _ _ _ h => h.elim
  case done =>
    rintro D xs W hD hx bW hK
    have bW3 := Below.mono bW L3.out.size
    have L4 := Lib.hid (L3.out.trans bW3)
    have Z4 := Lib.hid (Z3.out.below bW (Nat.le_refl _))
    have R4 := Lib.hid (R3.out.below bW R3.out.lt)
    have r0 : W.cell? ⟨w.heap.size, 0, none⟩ = some (.bool false) := R4.out.cell 0
    have z0 := R4.out.frozen 0
    have hD := Lib.hid hD
    have hK := Lib.hid hK
    clear bW bW3 hx A3 Z3 R3 Z2 R2 L2 P1 P2 hw1
    go_wp2_with fail
    refine num_b.mono ?_
    rintro _ u11 ⟨rfl, rfl⟩
    go_wp2_with fail
    refine (nilLenI_b Z4.out).mono ?_
    rintro _ u12 ⟨rfl, rfl⟩
    go_wp2_with fail
    refine (nilSlotsI_b Z4.out).mono ?_
    rintro _ u13 ⟨rfl, rfl⟩
    go_wp2_with fail
    refine (nilAskedI_b Z4.out).mono ?_
    rintro _ u14 ⟨rfl, rfl⟩
    go_wp2_with fail
    refine (nilKeysI_b Z4.out).mono ?_
    rintro _ u15 ⟨rfl, rfl⟩
    go_wp2_with fail
    refine (nilCopyI_b Z4.out).mono ?_
    rintro _ u16 ⟨rfl, rfl⟩
    go_wp2_with fail
    have R5 := R4.out.set_ 0 (.bool true)
    have K5 : (W.setCell ⟨w.heap.size, 0, none⟩ (.bool true)).heap[D]? = some (.deferred (some [])) := (KeepsOthers.setCell W _ _).same _ _ hK.out rfl
    have c5 := (R5.shut (o := .deferred none) K5).cell 0
    have c5 : ((W.setCell ⟨w.heap.size, 0, none⟩ (.bool true)).putObj D (.deferred none)).cell? ⟨w.heap.size, 0, none⟩ = some (.bool true) := c5
    refine ⟨by simp, .inl ⟨_, _, rfl, run_takeDeferred K5, ?_⟩⟩
    refine ⟨.bool true, by simp [results, Tryd.f41, asAddr, go_sem, c5], rfl, ?_⟩
    exact (L4.out.setCell (p := ⟨w.heap.size, 0, none⟩) (Nat.le_refl _) _).grown (grownBy_putObj' _ D _) (by have := L4.out.size; simpa [World.setCell] using this) fun k e => by
      cases e
      exact Nat.le_trans L3.out.size hD.out
end Go.Proofs.YtkjeobcfaolcaaaDoor
