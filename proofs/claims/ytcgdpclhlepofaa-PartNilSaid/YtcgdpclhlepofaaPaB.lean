/- What a part's nodes and words are gathered by. -/
import Derived.Test.YtcgdpclhlepofaaPaA
import Derived.Test.YtcgdpclhlepofaaLft
namespace Go.Proofs.Ytcgdpclhlepofaa
open Go.RowKit
set_option maxHeartbeats 4000000
set_option linter.unusedVariables false
set_option linter.unusedSimpArgs false

/-- A captured slice of words. -/
def JSl (cb : Nat) (w : World) (F G : Nat → Prop) (l : List Int) : Prop :=
  ∃ A cp, Blk w cb 32 #[.slice A l.length cp] ∧ Wl w (.slice A l.length cp) l ∧ ¬ F cb ∧ (∀ k, G k ↔ (k = cb ∨ own (.slice A l.length cp) k)) ∧ ∀ k, own (.slice A l.length cp) k → ¬ F k ∧ k ≠ cb
theorem JSl.keep {cb : Nat} {w w' : World} {F F' G : Nat → Prop} {l : List Int} (h : JSl cb w F G l) (hl : ∀ k, F k → k < w.heap.size) (hf : Fr F w F' w') : JSl cb w' F' G l := by
  obtain ⟨A, cp, hB, hv, hF, hG, ho⟩ := h
  refine ⟨A, cp, hf.blk hB hF, hv.fr hf fun k hk => (ho k hk).1, fun h => (hf.new cb h).elim hF fun h => by have := hB.lt; omega, hG, fun k hk => ⟨fun h => (hf.new k h).elim (ho k hk).1 fun h => by have := hv.lt k hk; omega, (ho k hk).2⟩⟩

set_option maxRecDepth 100000 in
theorem readc_call {t cb n : Nat} {F G : Nat → Prop} {s : St} {l : List Int} {nd wd : Int} {w : World} (hw : Txw w t F s) (hf : Fits s) (hb : Bud s (n + 1)) (hl : l.length ≤ 65537) (h1 : 0 ≤ nd) (h2 : nd ≤ 18446744073709551615) (h3 : 0 ≤ wd) (h4 : wd ≤ 18446744073709551615) (hj : JSl cb w F G l) :
    Calls Try.prog 34 #[.int .u64 nd, .int .u64 wd, .pointer (some ⟨cb, 0, none⟩)] w fun e w' => ∃ er l' s', Hid (stRead nd wd l s = (er, l', s')) ∧ e = .returned (.int .i64 er) ∧ l'.length ≤ l.length + 1 ∧ Fits s' ∧ Bud s' n ∧ ∃ F' G', Txw w' t F' s' ∧ JSl cb w' F' G' l' ∧ Fr (fun k => F k ∨ G k) w (fun k => F' k ∨ G' k) w' := by
  obtain ⟨A, cp, hB, hv, hF, hG, ho⟩ := hj
  have dc := hB.cell 0
  simp only [List.getElem?_toArray, List.getElem?_cons_zero] at dc
  have hx := Lib.hid (show (l.length + 1) * 8 ≤ 140737488355328 by omega)
  have HO := Lib.hid ho
  have HG := Lib.hid hG
  clear ho hG
  go_enter Try.func34, Try.ntmps34
  have hnb : ¬ own (.slice A l.length cp) cb := hv.ne_ hB (by decide)
  go_wp2_with (at_builtin; refine wpList_word w rfl (.tmp 6) (.tmp 8) rfl (.slice A l.length cp) l wd rfl hv rfl hx.out ?_; intro A4 c4 w4 hc4 hv4 hm4; have hB4 := hm4.blk hB hnb; have fz4 := hB4.frozen 0; have dc4 := hB4.cell 0; simp only [List.getElem?_toArray, List.getElem?_cons_zero] at dc4)
  have hT4 : Txw w4 t F s := hw.fr hm4 fun k hk ho => (HO.out k ho).1 hk
  have hcb4 : ¬ own (.slice A4 (l.length + 1) c4) cb := hv4.ne_ hB4 (by decide)
  have hT5 := hT4.set (p := ⟨cb, 0, none⟩) hF (.slice A4 (l.length + 1) c4)
  have hB5 := hB4.set_ 0 (.slice A4 (l.length + 1) c4)
  have hv5 := hv4.set (p := ⟨cb, 0, none⟩) hcb4 (.slice A4 (l.length + 1) c4)
  have hm5 : Fr (fun k => F k ∨ G k) w (fun k => F k ∨ (k = cb ∨ own (.slice A4 (l.length + 1) c4) k)) (w4.setCell ⟨cb, 0, none⟩ (.slice A4 (l.length + 1) c4)) := by
    have e1 : Fr (fun k => F k ∨ G k) w (own (.slice A4 (l.length + 1) c4)) w4 := hm4.wide fun k hk => .inr ((HG.out k).2 (.inr hk))
    have e2 := e1.set (p := ⟨cb, 0, none⟩) (.inr (.inl (.inr ((HG.out cb).2 (.inl rfl))))) (.slice A4 (l.length + 1) c4)
    exact e2.into fun k hk => hk.elim (fun h => .inr (.inl (.inl h))) fun h => h.elim (fun h => .inr (.inl (.inr ((HG.out k).2 (.inl h))))) .inl
  have ho5 : ∀ k, own (.slice A4 (l.length + 1) c4) k → ¬ F k ∧ k ≠ cb := fun k hk => ⟨fun h2 => (hm4.new k hk).elim (fun h => (HO.out k h).1 h2) fun h => by have := hw.lt k h2; omega, fun e => hcb4 (e ▸ hk)⟩
  have hfin : Hid (∃ F' G', Txw (w4.setCell ⟨cb, 0, none⟩ (.slice A4 (l.length + 1) c4)) t F' s ∧ JSl cb (w4.setCell ⟨cb, 0, none⟩ (.slice A4 (l.length + 1) c4)) F' G' (l ++ [wd]) ∧ Fr (fun k => F k ∨ G k) w (fun k => F' k ∨ G' k) (w4.setCell ⟨cb, 0, none⟩ (.slice A4 (l.length + 1) c4))) := Lib.hid ⟨F, _, hT5, ⟨A4, c4, by simpa using hB5, by simpa using hv5, hF, fun k => by simp, by simpa using ho5⟩, hm5⟩
  clear hT4 hT5 hB5 hv5 hm5 ho5 hm4 hv4 hB hv hw
  go_wp2
  try rw [Exit.noGoto_ret]
  go_ret
  exact ⟨0, _, s, Lib.hid rfl, rfl, by simp, hf, hb.mono (by omega), hfin.out⟩
theorem readc_law (t cb : Nat) : JLaw t stRead (JSl cb) 34 (fun nd wd => #[.int .u64 nd, .int .u64 wd, .pointer (some ⟨cb, 0, none⟩)]) := ⟨fun _ _ => rfl, fun h1 h2 h3 => h3.keep h1 h2, fun h1 h2 h3 h4 h5 h6 h7 h8 h9 => readc_call h1 h2 h3 h4 h5 h6 h7 h8 h9⟩

set_option maxRecDepth 100000 in
theorem nodec_call {t cb n : Nat} {F G : Nat → Prop} {s : St} {l : List Int} {nd wd : Int} {w : World} (hw : Txw w t F s) (hf : Fits s) (hb : Bud s (n + 1)) (hl : l.length ≤ 65537) (h1 : 0 ≤ nd) (h2 : nd ≤ 18446744073709551615) (h3 : 0 ≤ wd) (h4 : wd ≤ 18446744073709551615) (hj : JSl cb w F G l) :
    Calls Try.prog 53 #[.int .u64 nd, .int .u64 wd, .pointer (some ⟨cb, 0, none⟩)] w fun e w' => ∃ er l' s', Hid (stNode nd wd l s = (er, l', s')) ∧ e = .returned (.int .i64 er) ∧ l'.length ≤ l.length + 1 ∧ Fits s' ∧ Bud s' n ∧ ∃ F' G', Txw w' t F' s' ∧ JSl cb w' F' G' l' ∧ Fr (fun k => F k ∨ G k) w (fun k => F' k ∨ G' k) w' := by
  obtain ⟨A, cp, hB, hv, hF, hG, ho⟩ := hj
  have dc := hB.cell 0
  simp only [List.getElem?_toArray, List.getElem?_cons_zero] at dc
  have hx := Lib.hid (show (l.length + 1) * 8 ≤ 140737488355328 by omega)
  have HO := Lib.hid ho
  have HG := Lib.hid hG
  clear ho hG
  go_enter Try.func53, Try.ntmps53
  have hnb : ¬ own (.slice A l.length cp) cb := hv.ne_ hB (by decide)
  go_wp2_with (at_builtin; refine wpList_word w rfl (.tmp 6) (.tmp 8) rfl (.slice A l.length cp) l nd rfl hv rfl hx.out ?_; intro A4 c4 w4 hc4 hv4 hm4; have hB4 := hm4.blk hB hnb; have fz4 := hB4.frozen 0; have dc4 := hB4.cell 0; simp only [List.getElem?_toArray, List.getElem?_cons_zero] at dc4)
  have hT4 : Txw w4 t F s := hw.fr hm4 fun k hk ho => (HO.out k ho).1 hk
  have hcb4 : ¬ own (.slice A4 (l.length + 1) c4) cb := hv4.ne_ hB4 (by decide)
  have hT5 := hT4.set (p := ⟨cb, 0, none⟩) hF (.slice A4 (l.length + 1) c4)
  have hB5 := hB4.set_ 0 (.slice A4 (l.length + 1) c4)
  have hv5 := hv4.set (p := ⟨cb, 0, none⟩) hcb4 (.slice A4 (l.length + 1) c4)
  have hm5 : Fr (fun k => F k ∨ G k) w (fun k => F k ∨ (k = cb ∨ own (.slice A4 (l.length + 1) c4) k)) (w4.setCell ⟨cb, 0, none⟩ (.slice A4 (l.length + 1) c4)) := by
    have e1 : Fr (fun k => F k ∨ G k) w (own (.slice A4 (l.length + 1) c4)) w4 := hm4.wide fun k hk => .inr ((HG.out k).2 (.inr hk))
    have e2 := e1.set (p := ⟨cb, 0, none⟩) (.inr (.inl (.inr ((HG.out cb).2 (.inl rfl))))) (.slice A4 (l.length + 1) c4)
    exact e2.into fun k hk => hk.elim (fun h => .inr (.inl (.inl h))) fun h => h.elim (fun h => .inr (.inl (.inr ((HG.out k).2 (.inl h))))) .inl
  have ho5 : ∀ k, own (.slice A4 (l.length + 1) c4) k → ¬ F k ∧ k ≠ cb := fun k hk => ⟨fun h2 => (hm4.new k hk).elim (fun h => (HO.out k h).1 h2) fun h => by have := hw.lt k h2; omega, fun e => hcb4 (e ▸ hk)⟩
  have hfin : Hid (∃ F' G', Txw (w4.setCell ⟨cb, 0, none⟩ (.slice A4 (l.length + 1) c4)) t F' s ∧ JSl cb (w4.setCell ⟨cb, 0, none⟩ (.slice A4 (l.length + 1) c4)) F' G' (l ++ [nd]) ∧ Fr (fun k => F k ∨ G k) w (fun k => F' k ∨ G' k) (w4.setCell ⟨cb, 0, none⟩ (.slice A4 (l.length + 1) c4))) := Lib.hid ⟨F, _, hT5, ⟨A4, c4, by simpa using hB5, by simpa using hv5, hF, fun k => by simp, by simpa using ho5⟩, hm5⟩
  clear hT4 hT5 hB5 hv5 hm5 ho5 hm4 hv4 hB hv hw
  go_wp2
  try rw [Exit.noGoto_ret]
  go_ret
  exact ⟨0, _, s, Lib.hid rfl, rfl, by simp, hf, hb.mono (by omega), hfin.out⟩
theorem nodec_law (t cb : Nat) : JLaw t stNode (JSl cb) 53 (fun nd wd => #[.int .u64 nd, .int .u64 wd, .pointer (some ⟨cb, 0, none⟩)]) := ⟨fun _ _ => rfl, fun h1 h2 h3 => h3.keep h1 h2, fun h1 h2 h3 h4 h5 h6 h7 h8 h9 => nodec_call h1 h2 h3 h4 h5 h6 h7 h8 h9⟩
end Go.Proofs.Ytcgdpclhlepofaa
