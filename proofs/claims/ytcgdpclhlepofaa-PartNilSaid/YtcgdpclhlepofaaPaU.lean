/- A part turned, by contract. -/
import Derived.Test.YtcgdpclhlepofaaPaT
import Derived.Laws.EntriesVeiled
namespace Go.Proofs.Ytcgdpclhlepofaa
open Go.RowKit
set_option maxHeartbeats 4000000
set_option linter.unusedVariables false
set_option linter.unusedSimpArgs false

def LftT (t n : Nat) (F0 : Nat → Prop) (w0 : World) (s' : St) (w' : World) : Prop := Lft t n F0 w0 s' w'
set_option maxRecDepth 100000 in
theorem pturnv_b {t n : Nat} {F F0 : Nat → Prop} {s : St} {kind first count : Int} {w w0 : World}
    (hw : Txw w t F s) (hf : Fits s) (hb : Bud s (n + 3 * 65537)) (h1 : 0 ≤ first) (h1' : first ≤ 18446744073709551615) (h2 : 0 ≤ count) (h2' : count ≤ 18446744073709551615) (hm : Fr F0 w0 F w) :
    Calls Try.prog 10 #[.agg #[.int .i64 kind, .int .u64 first, .int .u64 count], .func (.func 13) #[.pointer (some ⟨t, 0, none⟩)] #[], .func (.func 11) #[.pointer (some ⟨t, 0, none⟩)] #[], .func (.func 40) #[] #[]] w fun e w' =>
      ∃ er s', Hid (pTurn dbl kind first count s = (er, s')) ∧ e = .returned (.int .i64 er) ∧ Lft t n F0 w0 s' w' := by
  have hE1 : (w.alloc (.cells #[.int .i64 kind, .int .u64 first, .int .u64 count] 25)).heap.size = w.heap.size + 1 := by simp
  have hE2 : ((w.alloc (.cells #[.int .i64 kind, .int .u64 first, .int .u64 count] 25)).alloc (.cells #[.func (.func 40) #[] #[]] 37)).heap.size = w.heap.size + 2 := by simp
  have dp := (Blk.new w 25 #[.int .i64 kind, .int .u64 first, .int .u64 count])
  have df := Blk.new (w.alloc (.cells #[.int .i64 kind, .int .u64 first, .int .u64 count] 25)) 37 #[.func (.func 40) #[] #[]]
  rw [hE1] at df
  have df0 := df.cell 0
  have dp0 := (dp.alloc (.cells #[.func (.func 40) #[] #[]] 37)).cell 0
  simp only [List.getElem?_toArray, List.getElem?_cons_zero, List.getElem?_cons_succ] at df0
  go_enter Try.func10, Try.ntmps10
  go_wp2_with fail
  have hB2 := df.alloc (.cells #[.func (.func 11) #[.pointer (some ⟨t, 0, none⟩)] #[]] 66)
  have hB1 := Blk.new ((w.alloc (.cells #[.int .i64 kind, .int .u64 first, .int .u64 count] 25)).alloc (.cells #[.func (.func 40) #[] #[]] 37)) 66 #[.func (.func 11) #[.pointer (some ⟨t, 0, none⟩)] #[]]
  rw [hE2] at hB1
  have hT := ((hw.alloc (.cells #[.int .i64 kind, .int .u64 first, .int .u64 count] 25)).alloc (.cells #[.func (.func 40) #[] #[]] 37)).alloc (.cells #[.func (.func 11) #[.pointer (some ⟨t, 0, none⟩)] #[]] 66)
  have hM := (((hm.alloc (.cells #[.int .i64 kind, .int .u64 first, .int .u64 count] 25)).alloc (.cells #[.func (.func 40) #[] #[]] 37)).alloc (.cells #[.func (.func 11) #[.pointer (some ⟨t, 0, none⟩)] #[]] 66)).into (G := fun k => F k ∨ False) fun k hk => hk.elim .inl fun h => h.elim
  have hJ : JTu t (w.heap.size + 2) (w.heap.size + 1) (((w.alloc (.cells #[.int .i64 kind, .int .u64 first, .int .u64 count] 25)).alloc (.cells #[.func (.func 40) #[] #[]] 37)).alloc (.cells #[.func (.func 11) #[.pointer (some ⟨t, 0, none⟩)] #[]] 66)) F (fun _ => False) [] :=
    ⟨hB1, hB2, fun h => by have := hw.lt _ h; omega, fun h => by have := hw.lt _ h; omega, rfl, fun _ h => h⟩
  refine (each2_b (c1 := w.heap.size + 2) (c2 := w.heap.size + 1) (turnc_law t (w.heap.size + 2) (w.heap.size + 1)) hT hJ (fun k hk => hk.elim) hf hb h1 h1' h2 h2' hM).mono ?_
  rintro _ w3 ⟨er, l, s3, hq, rfl, hlen, f3, b3, F3, G3, hT3, hJ3, hM3⟩
  have hfin : Hid (Lft t n F0 w0 s3 w3) := Lib.hid ⟨f3, b3, F3, hT3, hM3.into fun k hk => .inl (.inl hk)⟩
  have hq2 : Hid (pTurn dbl kind first count s = (er, s3)) := Lib.hid (by unfold pTurn; rw [hq.out])
  clear hT hJ hM dp df df0 dp0 hT3 hJ3 hM3 hw hm hq hB1 hB2
  go_wp2
  go_ret
  exact ⟨er, s3, hq2, rfl, hfin.out⟩
end Go.Proofs.Ytcgdpclhlepofaa
