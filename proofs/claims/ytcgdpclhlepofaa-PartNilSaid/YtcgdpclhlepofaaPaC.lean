/- A part's words and nodes, by contract. -/
import Derived.Test.YtcgdpclhlepofaaPaB
import Derived.Test.YtcgdpclhlepofaaPaE1
import Derived.Test.YtcgdpclhlepofaaPaE3
import Derived.Test.YtcgdpclhlepofaaPaN
import Derived.Deep.RegionWith
namespace Go.Proofs.Ytcgdpclhlepofaa
open Go.RowKit
set_option maxHeartbeats 4000000
set_option linter.unusedVariables false
set_option linter.unusedSimpArgs false

theorem JSl.new {w w1 : World} {F : Nat → Prop} (hl : ∀ k, F k → k < w1.heap.size) :
    JSl w1.heap.size (w1.alloc (.cells #[.slice none 0 0] 32)) F (fun k => k = w1.heap.size) [] :=
  ⟨none, 0, Blk.new _ _ _, Wl.nil _, fun h => by have := hl _ h; omega, fun k => ⟨.inl, fun h => h.elim id fun h => nomatch h⟩, fun k hk => nomatch hk⟩

set_option maxRecDepth 100000 in
theorem preadv_b {t n : Nat} {F F0 : Nat → Prop} {s : St} {kind first count : Int} {w w0 : World}
    (hw : Txw w t F s) (hf : Fits s) (hb : Bud s (n + 3 * 65537)) (h1 : 0 ≤ first) (h1' : first ≤ 18446744073709551615) (h2 : 0 ≤ count) (h2' : count ≤ 18446744073709551615) (hm : Fr F0 w0 F w) :
    Calls Try.prog 9 #[.agg #[.int .i64 kind, .int .u64 first, .int .u64 count], .func (.func 13) #[.pointer (some ⟨t, 0, none⟩)] #[]] w fun e w' =>
      ∃ v l er s', Hid (pRead kind first count s = (l, er, s')) ∧ e = .returned (.tuple #[v, .int .i64 er]) ∧ LftV t n 0 F0 w0 s' v l w' := by
  have hTw := (hw.alloc (.cells #[.int .i64 kind, .int .u64 first, .int .u64 count] 25))
  have hE : (w.alloc (.cells #[.int .i64 kind, .int .u64 first, .int .u64 count] 25)).heap.size = w.heap.size + 1 := by simp
  have hJ := JSl.new (w := w) (w1 := w.alloc (.cells #[.int .i64 kind, .int .u64 first, .int .u64 count] 25)) fun k hk => hTw.lt k hk
  rw [hE] at hJ
  have hT := hTw.alloc (.cells #[.slice none 0 0] 32)
  have hM := (((hm.alloc (.cells #[.int .i64 kind, .int .u64 first, .int .u64 count] 25)).alloc (.cells #[.slice none 0 0] 32)).into (G := fun k => F k ∨ k = w.heap.size + 1) fun k hk => hk.elim .inl fun h => .inr (.inr (by rw [h]; have := hm.size; omega)))
  have dp := (Blk.new w 25 #[.int .i64 kind, .int .u64 first, .int .u64 count])
  have dp0 := (dp.alloc (.cells #[.slice none 0 0] 32)).cell 0
  have dp1 := (dp.alloc (.cells #[.slice none 0 0] 32)).cell 1
  have dp2 := (dp.alloc (.cells #[.slice none 0 0] 32)).cell 2
  simp only [List.getElem?_toArray, List.getElem?_cons_zero, List.getElem?_cons_succ] at dp0 dp1 dp2
  go_enter Try.func9, Try.ntmps9
  go_wp2_with fail
  refine (each_b (cb := w.heap.size + 1) (readc_law t (w.heap.size + 1)) hT hJ (fun k hk => by rw [hk]; simp) hf hb h1 h1' h2 h2' hM).mono ?_
  rintro _ w3 ⟨er, l, s3, hq, rfl, hL⟩
  obtain ⟨hlen, f3, b3, F3, G3, hT3, ⟨A, cp, hB3, hv3, hF3, hG3, ho3⟩, hM3⟩ := hL
  have dc3 := hB3.cell 0
  simp only [List.getElem?_toArray, List.getElem?_cons_zero] at dc3
  have hM4 : Fr F0 w0 F3 w3 := hM3.into fun k hk => .inl (.inl hk)
  have hV : Hid (LftV t n 0 F0 w0 s3 (.slice A l.length cp) l w3) := Lib.hid ⟨f3, b3, hv3, fun _ _ => Nat.zero_le _, F3, hT3, hM4, fun k hk => (ho3 k hk).1⟩
  have hN : Hid (LftV t n 0 F0 w0 s3 (.slice none 0 0) [] w3) := Lib.hid ⟨f3, b3, Wl.nil _, fun _ _ => Nat.zero_le _, F3, hT3, hM4, fun k hk => nomatch hk⟩
  clear hT hJ hM dp dp0 dp1 dp2 hT3 hB3 hv3 hF3 hG3 ho3 hM3 hM4 hw hm
  by_cases he : er = 0
  · subst he
    have hq2 : Hid (pRead kind first count s = (l, 0, s3)) := Lib.hid (by unfold pRead; rw [hq.out]; rfl)
    clear hq
    go_wp2
    go_ret2
    exact ⟨_, l, 0, s3, hq2, rfl, hV.out⟩
  · have z : (er != 0) = true := by simpa using he
    have hq2 : Hid (pRead kind first count s = ([], er, s3)) := Lib.hid (by unfold pRead; rw [hq.out]; simp only; rw [if_pos z])
    clear hq he
    go_wp2
    go_ret2
    exact ⟨_, [], er, s3, hq2, rfl, hN.out⟩

set_option maxRecDepth 100000 in
theorem pnodes_b {t n : Nat} {F F0 : Nat → Prop} {s : St} {kind first count : Int} {w w0 : World}
    (hw : Txw w t F s) (hf : Fits s) (hb : Bud s (n + 3 * 65537)) (h1 : 0 ≤ first) (h1' : first ≤ 18446744073709551615) (h2 : 0 ≤ count) (h2' : count ≤ 18446744073709551615) (hm : Fr F0 w0 F w) :
    Calls Try.prog 38 #[.iface 26 (.pointer (some ⟨t, 0, none⟩)), .agg #[.int .i64 kind, .int .u64 first, .int .u64 count]] w fun e w' =>
      ∃ v l er s', Hid (pNodes kind first count s = (l, er, s')) ∧ e = .returned (.tuple #[v, .int .i64 er]) ∧ LftV t n 0 F0 w0 s' v l w' := by
  have hTw := (hw.alloc (.cells #[.int .i64 kind, .int .u64 first, .int .u64 count] 25))
  have hE : (w.alloc (.cells #[.int .i64 kind, .int .u64 first, .int .u64 count] 25)).heap.size = w.heap.size + 1 := by simp
  have hJ := JSl.new (w := w) (w1 := w.alloc (.cells #[.int .i64 kind, .int .u64 first, .int .u64 count] 25)) fun k hk => hTw.lt k hk
  rw [hE] at hJ
  have hT := hTw.alloc (.cells #[.slice none 0 0] 32)
  have hM := (((hm.alloc (.cells #[.int .i64 kind, .int .u64 first, .int .u64 count] 25)).alloc (.cells #[.slice none 0 0] 32)).into (G := fun k => F k ∨ k = w.heap.size + 1) fun k hk => hk.elim .inl fun h => .inr (.inr (by rw [h]; have := hm.size; omega)))
  have dp := (Blk.new w 25 #[.int .i64 kind, .int .u64 first, .int .u64 count])
  have dp0 := (dp.alloc (.cells #[.slice none 0 0] 32)).cell 0
  have dp1 := (dp.alloc (.cells #[.slice none 0 0] 32)).cell 1
  have dp2 := (dp.alloc (.cells #[.slice none 0 0] 32)).cell 2
  simp only [List.getElem?_toArray, List.getElem?_cons_zero, List.getElem?_cons_succ] at dp0 dp1 dp2
  go_enter Try.func38, Try.ntmps38
  go_wp2_with fail
  have hTd := hT.drew
  have hJd : JSl (w.heap.size + 1) ((w.alloc (.cells #[.int .i64 kind, .int .u64 first, .int .u64 count] 25)).alloc (.cells #[.slice none 0 0] 32)).drew F (fun k => k = w.heap.size + 1) [] := hJ
  have hMd := hM.drew
  go_region_with (go_at_call 33; refine (eachm_b (cb := w.heap.size + 1) (nodec_law t (w.heap.size + 1)) hTd hJd (fun k hk => by rw [hk]; simp) hf hb h1 h1' h2 h2' hMd).mono ?_; rintro _ w3 ⟨er, l, s3, hq, rfl, hlen, f3, b3, F3, G3, hT3, ⟨A, cp, hB3, hv3, hF3, hG3, ho3⟩, hM3⟩)
  all_goals
    have dc3 := hB3.cell 0
    simp only [List.getElem?_toArray, List.getElem?_cons_zero] at dc3
    have hM4 : Fr F0 w0 F3 w3 := hM3.into fun k hk => .inl (.inl hk)
    have hV : Hid (LftV t n 0 F0 w0 s3 (.slice A l.length cp) l w3) := Lib.hid ⟨f3, b3, hv3, fun _ _ => Nat.zero_le _, F3, hT3, hM4, fun k hk => (ho3 k hk).1⟩
    have hq2 : Hid (pNodes kind first count s = (l, er, s3)) := Lib.hid (by unfold pNodes; rw [hq.out])
    clear hT hJ hM dp dp0 dp1 dp2 hT3 hB3 hv3 hF3 hG3 ho3 hM3 hM4 hw hm hq
    go_wp2
    go_ret2
    exact ⟨_, l, er, s3, hq2, rfl, hV.out⟩
end Go.Proofs.Ytcgdpclhlepofaa
