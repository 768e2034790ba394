/- The calls of a table of string that is not there, or zero, by contract. -/
import Derived.Test.YtkjeobcfaolcaaaDoorIxFS
import Derived.Test.YtkjeobcfaolcaaaDoorBase
namespace Go.Proofs.YtkjeobcfaolcaaaDoor
open Go.RowKit
set_option maxHeartbeats 4000000
set_option linter.unusedVariables false
set_option linter.unusedSimpArgs false

/-- not there, or zero -/
def NzS (w : World) (p : Option Addr) : Prop := p = none ∨ ∃ t, p = some ⟨t, 0, none⟩ ∧ Blk w t 77 #[.slice none 0 0, .slice none 0 0]
theorem NzS.alloc {w : World} {p : Option Addr} (h : NzS w p) (o : Obj) : NzS (w.alloc o) p := h.imp id fun ⟨t, e, b⟩ => ⟨t, e, b.alloc o⟩
theorem nilmadeS_b {p : Option Addr} {w : World} (h : NzS w p) :
    Calls Tryd.prog 47 #[.pointer p] w fun e w' => e = .returned (.bool false) ∧ w = w' := by
  rcases h with rfl | ⟨t, rfl, ht⟩
  · go_enter Tryd.func47, Tryd.ntmps47
    go_wp2
    go_ret
    exact ⟨rfl, rfl⟩
  · have d0 : w.cell? ⟨t, 0, none⟩ = some (.slice none 0 0) := by rw [Blk.cell ht]; rfl
    clear ht
    go_enter Tryd.func47, Tryd.ntmps47
    go_wp2
    go_ret
    exact ⟨rfl, rfl⟩
theorem nilGetS_b {p : Option Addr} {key : Int} {w : World} (h : NzS w p) :
    Calls Tryd.prog 53 #[.pointer p, .int .u64 key] w fun e w' => e = .returned (.tuple #[.string ⟨#[]⟩, .bool false]) ∧ w = w' := by
  have M := Lib.hid (nilmadeS_b h)
  clear h
  go_enter Tryd.func53, Tryd.ntmps53
  go_wp2_with fail
  refine M.out.mono ?_
  rintro _ w2 ⟨rfl, rfl⟩
  go_wp2
  go_ret2
  exact ⟨rfl, rfl⟩
theorem nilTakeS_b {p : Option Addr} {key : Int} {w : World} (h : NzS w p) :
    Calls Tryd.prog 19 #[.pointer p, .int .u64 key] w fun e w' => e = .returned (.tuple #[.string ⟨#[]⟩, .bool false]) ∧ w = w' := by
  have M := Lib.hid (nilGetS_b (key := key) h)
  clear h
  go_enter Tryd.func19, Tryd.ntmps19
  go_wp2_with fail
  refine M.out.mono ?_
  rintro _ w2 ⟨rfl, rfl⟩
  go_wp2
  go_ret2
  exact ⟨rfl, rfl⟩
theorem nilLenS_b {p : Option Addr} {w : World} (h : NzS w p) :
    Calls Tryd.prog 25 #[.pointer p] w fun e w' => e = .returned (.int .i64 0) ∧ w = w' := by
  have M := Lib.hid (nilmadeS_b h)
  clear h
  go_enter Tryd.func25, Tryd.ntmps25
  go_wp2_with fail
  refine M.out.mono ?_
  rintro _ w2 ⟨rfl, rfl⟩
  go_wp2
  go_ret
  exact ⟨rfl, rfl⟩
theorem nilSlotsS_b {p : Option Addr} {w : World} (h : NzS w p) :
    Calls Tryd.prog 24 #[.pointer p] w fun e w' => e = .returned (.int .i64 0) ∧ w = w' := by
  have M := Lib.hid (nilmadeS_b h)
  clear h
  go_enter Tryd.func24, Tryd.ntmps24
  go_wp2_with fail
  refine M.out.mono ?_
  rintro _ w2 ⟨rfl, rfl⟩
  go_wp2
  go_ret
  exact ⟨rfl, rfl⟩
theorem nilAskedS_b {p : Option Addr} {key : Int} {w : World} (h : NzS w p) :
    Calls Tryd.prog 22 #[.pointer p, .int .u64 key] w fun e w' => e = .returned (.int .i64 0) ∧ w = w' := by
  have M := Lib.hid (nilmadeS_b h)
  clear h
  go_enter Tryd.func22, Tryd.ntmps22
  go_wp2_with fail
  refine M.out.mono ?_
  rintro _ w2 ⟨rfl, rfl⟩
  go_wp2
  go_ret
  exact ⟨rfl, rfl⟩
theorem nilKeysS_b {p : Option Addr} {w : World} (h : NzS w p) :
    Calls Tryd.prog 28 #[.pointer p] w fun e w' => e = .returned (.slice none 0 0) ∧ w = w' := by
  have M := Lib.hid (nilmadeS_b h)
  clear h
  go_enter Tryd.func28, Tryd.ntmps28
  go_wp2_with fail
  refine M.out.mono ?_
  rintro _ w2 ⟨rfl, rfl⟩
  go_wp2
  go_ret
  exact ⟨rfl, rfl⟩
theorem nilCopyS_b {p : Option Addr} {w : World} (h : NzS w p) :
    Calls Tryd.prog 49 #[.pointer p] w fun e w' => e = .returned (.pointer none) ∧ w = w' := by
  have M := Lib.hid (nilmadeS_b h)
  clear h
  go_enter Tryd.func49, Tryd.ntmps49
  go_wp2_with fail
  refine M.out.mono ?_
  rintro _ w2 ⟨rfl, rfl⟩
  go_wp2
  go_ret
  exact ⟨rfl, rfl⟩
theorem nilPutS_b {p : Option Addr} {key : Int} {v : ByteArray} {w : World} (h : NzS w p) :
    Calls Tryd.prog 16 #[.pointer p, .int .u64 key, .string v] w fun e w' => e = .returned (.tuple #[.string ⟨#[]⟩, .bool false, .int .i64 1]) ∧ w' = w.alloc (.cells #[.pointer p] 34) := by
  have M := Lib.hid (nilmadeS_b (h.alloc (.cells #[.pointer p] 34)))
  have p0 := (Blk.new w 34 #[.pointer p]).cell 0
  have p0 : (w.alloc (.cells #[.pointer p] 34)).cell? ⟨w.heap.size, 0, none⟩ = some (.pointer p) := p0
  clear h
  go_enter Tryd.func16, Tryd.ntmps16
  go_wp2_with fail
  refine M.out.mono ?_
  rintro _ w2 ⟨rfl, rfl⟩
  go_wp2
  go_ret3
  exact ⟨rfl, rfl⟩
theorem allS_b {p : Option Addr} {w : World} :
    Calls Tryd.prog 50 #[.pointer p] w fun e w' => e = .returned (.func (.func 78) #[] #[.pointer (some ⟨w.heap.size, 0, none⟩)]) ∧ w' = w.alloc (.cells #[.pointer p] 34) := by
  go_enter Tryd.func50, Tryd.ntmps50
  go_wp2
  go_ret
  exact ⟨rfl, rfl⟩
end Go.Proofs.YtkjeobcfaolcaaaDoor
