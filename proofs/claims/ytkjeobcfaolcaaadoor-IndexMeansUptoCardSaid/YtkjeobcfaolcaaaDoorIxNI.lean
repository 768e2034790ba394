/- The calls of a table of int that is not there, or zero, by contract. -/
import Derived.Test.YtkjeobcfaolcaaaDoorIxFI
import Derived.Test.YtkjeobcfaolcaaaDoorBase
namespace Go.Proofs.YtkjeobcfaolcaaaDoor
open Go.RowKit
set_option maxHeartbeats 4000000
set_option linter.unusedVariables false
set_option linter.unusedSimpArgs false

/-- not there, or zero -/
def NzI (w : World) (p : Option Addr) : Prop := p = none ∨ ∃ t, p = some ⟨t, 0, none⟩ ∧ Blk w t 73 #[.slice none 0 0, .slice none 0 0]
theorem NzI.alloc {w : World} {p : Option Addr} (h : NzI w p) (o : Obj) : NzI (w.alloc o) p := h.imp id fun ⟨t, e, b⟩ => ⟨t, e, b.alloc o⟩
theorem nilmadeI_b {p : Option Addr} {w : World} (h : NzI w p) :
    Calls Tryd.prog 43 #[.pointer p] w fun e w' => e = .returned (.bool false) ∧ w = w' := by
  rcases h with rfl | ⟨t, rfl, ht⟩
  · go_enter Tryd.func43, Tryd.ntmps43
    go_wp2
    go_ret
    exact ⟨rfl, rfl⟩
  · have d0 : w.cell? ⟨t, 0, none⟩ = some (.slice none 0 0) := by rw [Blk.cell ht]; rfl
    clear ht
    go_enter Tryd.func43, Tryd.ntmps43
    go_wp2
    go_ret
    exact ⟨rfl, rfl⟩
theorem nilGetI_b {p : Option Addr} {key : Int} {w : World} (h : NzI w p) :
    Calls Tryd.prog 17 #[.pointer p, .int .u64 key] w fun e w' => e = .returned (.tuple #[.int .i64 0, .bool false]) ∧ w = w' := by
  have M := Lib.hid (nilmadeI_b h)
  clear h
  go_enter Tryd.func17, Tryd.ntmps17
  go_wp2_with fail
  refine M.out.mono ?_
  rintro _ w2 ⟨rfl, rfl⟩
  go_wp2
  go_ret2
  exact ⟨rfl, rfl⟩
theorem nilTakeI_b {p : Option Addr} {key : Int} {w : World} (h : NzI w p) :
    Calls Tryd.prog 18 #[.pointer p, .int .u64 key] w fun e w' => e = .returned (.tuple #[.int .i64 0, .bool false]) ∧ w = w' := by
  have M := Lib.hid (nilGetI_b (key := key) h)
  clear h
  go_enter Tryd.func18, Tryd.ntmps18
  go_wp2_with fail
  refine M.out.mono ?_
  rintro _ w2 ⟨rfl, rfl⟩
  go_wp2
  go_ret2
  exact ⟨rfl, rfl⟩
theorem nilLenI_b {p : Option Addr} {w : World} (h : NzI w p) :
    Calls Tryd.prog 21 #[.pointer p] w fun e w' => e = .returned (.int .i64 0) ∧ w = w' := by
  have M := Lib.hid (nilmadeI_b h)
  clear h
  go_enter Tryd.func21, Tryd.ntmps21
  go_wp2_with fail
  refine M.out.mono ?_
  rintro _ w2 ⟨rfl, rfl⟩
  go_wp2
  go_ret
  exact ⟨rfl, rfl⟩
theorem nilSlotsI_b {p : Option Addr} {w : World} (h : NzI w p) :
    Calls Tryd.prog 23 #[.pointer p] w fun e w' => e = .returned (.int .i64 0) ∧ w = w' := by
  have M := Lib.hid (nilmadeI_b h)
  clear h
  go_enter Tryd.func23, Tryd.ntmps23
  go_wp2_with fail
  refine M.out.mono ?_
  rintro _ w2 ⟨rfl, rfl⟩
  go_wp2
  go_ret
  exact ⟨rfl, rfl⟩
theorem nilAskedI_b {p : Option Addr} {key : Int} {w : World} (h : NzI w p) :
    Calls Tryd.prog 20 #[.pointer p, .int .u64 key] w fun e w' => e = .returned (.int .i64 0) ∧ w = w' := by
  have M := Lib.hid (nilmadeI_b h)
  clear h
  go_enter Tryd.func20, Tryd.ntmps20
  go_wp2_with fail
  refine M.out.mono ?_
  rintro _ w2 ⟨rfl, rfl⟩
  go_wp2
  go_ret
  exact ⟨rfl, rfl⟩
theorem nilKeysI_b {p : Option Addr} {w : World} (h : NzI w p) :
    Calls Tryd.prog 27 #[.pointer p] w fun e w' => e = .returned (.slice none 0 0) ∧ w = w' := by
  have M := Lib.hid (nilmadeI_b h)
  clear h
  go_enter Tryd.func27, Tryd.ntmps27
  go_wp2_with fail
  refine M.out.mono ?_
  rintro _ w2 ⟨rfl, rfl⟩
  go_wp2
  go_ret
  exact ⟨rfl, rfl⟩
theorem nilCopyI_b {p : Option Addr} {w : World} (h : NzI w p) :
    Calls Tryd.prog 45 #[.pointer p] w fun e w' => e = .returned (.pointer none) ∧ w = w' := by
  have M := Lib.hid (nilmadeI_b h)
  clear h
  go_enter Tryd.func45, Tryd.ntmps45
  go_wp2_with fail
  refine M.out.mono ?_
  rintro _ w2 ⟨rfl, rfl⟩
  go_wp2
  go_ret
  exact ⟨rfl, rfl⟩
theorem nilClearI_b {p : Option Addr} {w : World} (h : NzI w p) :
    Calls Tryd.prog 73 #[.pointer p] w fun e w' => (∃ v, e = .returned v) ∧ w = w' := by
  have M := Lib.hid (nilmadeI_b h)
  clear h
  go_enter Tryd.func73, Tryd.ntmps73
  go_wp2_with fail
  refine M.out.mono ?_
  rintro _ w2 ⟨rfl, rfl⟩
  go_wp2
  go_end0
  exact ⟨⟨_, rfl⟩, rfl⟩
theorem nilPutI_b {p : Option Addr} {key : Int} {v : Int} {w : World} (h : NzI w p) :
    Calls Tryd.prog 15 #[.pointer p, .int .u64 key, .int .i64 v] w fun e w' => e = .returned (.tuple #[.int .i64 0, .bool false, .int .i64 1]) ∧ w' = w.alloc (.cells #[.pointer p] 32) := by
  have M := Lib.hid (nilmadeI_b (h.alloc (.cells #[.pointer p] 32)))
  have p0 := (Blk.new w 32 #[.pointer p]).cell 0
  have p0 : (w.alloc (.cells #[.pointer p] 32)).cell? ⟨w.heap.size, 0, none⟩ = some (.pointer p) := p0
  clear h
  go_enter Tryd.func15, Tryd.ntmps15
  go_wp2_with fail
  refine M.out.mono ?_
  rintro _ w2 ⟨rfl, rfl⟩
  go_wp2
  go_ret3
  exact ⟨rfl, rfl⟩
theorem allI_b {p : Option Addr} {w : World} :
    Calls Tryd.prog 46 #[.pointer p] w fun e w' => e = .returned (.func (.func 76) #[] #[.pointer (some ⟨w.heap.size, 0, none⟩)]) ∧ w' = w.alloc (.cells #[.pointer p] 32) := by
  go_enter Tryd.func46, Tryd.ntmps46
  go_wp2
  go_ret
  exact ⟨rfl, rfl⟩
end Go.Proofs.YtkjeobcfaolcaaaDoor
