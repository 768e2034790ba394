/- The document's queues in memory; its calls by contract. -/
import Derived.Test.YtfbbmnlebibplaaQuP4
import Derived.Test.YtfbbmnlebibplaaRefV
import Derived.Test.YtfbbmnlebibplaaFam
import Derived.Test.YtfbbmnlebibplaaLft
import Derived.Deep.DeepCutAuto
import Derived.Deep.DeepMust
namespace Go.Proofs.Ytfbbmnlebibplaa
open Go.RowKit
set_option maxHeartbeats 4000000
set_option linter.unusedVariables false
set_option linter.unusedSimpArgs false

/-- The queue q at g, of the blocks X. -/
def Qm (w : World) (g : Nat) (X : Nat → Prop) (q : Qr) : Prop :=
  ∃ vn vw, Blk w g 42 #[.int .u64 q.hd, vn, vw] ∧ Wl w vn q.nodes ∧ Wl w vw q.words ∧ (∀ k, own vn k → ¬ own vw k) ∧ ∀ k, X k ↔ (k = g ∨ own vn k ∨ own vw k)
section
variable {w w' : World} {g : Nat} {X : Nat → Prop} {q : Qr}
theorem Qm.lt (h : Qm w g X q) : ∀ k, X k → k < w.heap.size := by
  obtain ⟨vn, vw, h1, h2, h3, h4, h5⟩ := h
  intro k hk
  rcases (h5 k).1 hk with rfl | hk | hk
  · exact h1.lt
  · exact h2.lt k hk
  · exact h3.lt k hk
theorem Qm.keep (h : Qm w g X q) (hk : ∀ k, X k → w'.heap[k]? = w.heap[k]?) : Qm w' g X q := by
  obtain ⟨vn, vw, h1, h2, h3, h4, h5⟩ := h
  exact ⟨vn, vw, (hk g ((h5 g).2 (.inl rfl))).trans h1, h2.keep fun k hv => hk k ((h5 k).2 (.inr (.inl hv))), h3.keep fun k hv => hk k ((h5 k).2 (.inr (.inr hv))), h4, h5⟩
theorem Qm.fr (h : Qm w g X q) {G G' : Nat → Prop} (hf : Fr G w G' w') (hG : ∀ k, X k → ¬ G k) : Qm w' g X q := h.keep fun k hk => hf.block k (h.lt k hk) (hG k hk)
theorem Qm.drewN (h : Qm w g X q) (n : Nat) : Qm (w.drewN n) g X q := h
theorem Qm.alloc (h : Qm w g X q) (o : Obj) : Qm (w.alloc o) g X q := h.keep fun k hk => Below.heap_alloc w o k (h.lt k hk)
theorem Qm.head (h : Qm w g X q) : X g := by
  obtain ⟨vn, vw, _, _, _, _, h5⟩ := h
  exact (h5 g).2 (.inl rfl)
/-- what is read of it -/
theorem Qm.cells (h : Qm w g X q) : ∃ A c A' c', w.cell? ⟨g, 0, none⟩ = some (.int .u64 q.hd) ∧ w.cell? ⟨g, 1, none⟩ = some (.slice A q.nodes.length c) ∧ w.cell? ⟨g, 2, none⟩ = some (.slice A' q.words.length c') ∧ q.nodes.length ≤ c ∧ q.words.length ≤ c' ∧ Lies w (.slice A q.nodes.length c) q.nodes ∧ Lies w (.slice A' q.words.length c') q.words := by
  obtain ⟨vn, vw, h1, h2, h3, _, _⟩ := h
  obtain ⟨A, c, rfl, hc⟩ := h2.shape
  obtain ⟨A', c', rfl, hc'⟩ := h3.shape
  exact ⟨A, c, A', c', by rw [h1.cell]; rfl, by rw [h1.cell]; rfl, by rw [h1.cell]; rfl, hc, hc', h2.lies, h3.lies⟩
theorem Qm.free (h : Qm w g X q) : w.frozen? ⟨g, 0, none⟩ = false ∧ w.frozen? ⟨g, 1, none⟩ = false ∧ w.frozen? ⟨g, 2, none⟩ = false := by
  obtain ⟨vn, vw, h1, _⟩ := h
  exact ⟨h1.frozen 0, h1.frozen 1, h1.frozen 2⟩
end
/-- what a call leaves of the document's world -/
def LftR (b n : Nat) (F : Nat → Prop) (w : World) (r' : St) (F' : Nat → Prop) (w' : World) : Prop := Fits r' ∧ Bud r' n ∧ Wld w' b F' r'

theorem refnew_yes {b n : Nat} {F : Nat → Prop} {r r' : St} {p : Int} {w : World} (hw : Wld w b F r) (hf : Fits r) (hb : Bud r (n + 4)) (hq : Hid (rTake r 0 3 = (p, 0, r'))) :
    Calls Try.prog 19 #[.pointer (some ⟨b, 0, none⟩)] w fun e w' => ∃ g F', e = .returned (.tuple #[.pointer (some ⟨g, 0, none⟩), .int .i64 0]) ∧ 0 ≤ p ∧ p ≤ 18446744073709551615 ∧ LftR b n F w r' F' w' ∧ Qm w' g (fun k => k = g) ⟨p, [], []⟩ ∧ w.heap.size ≤ g ∧ ¬ F' g ∧ Fr F w F' w' := by
  go_enter Try.func19, Try.ntmps19
  go_wp2_with fail
  refine (wtake_b hw hf hb (by omega) (by omega) (by omega) (Fr.refl _ _)).mono ?_
  rintro e w1 ⟨x, er, s1, q1, dx, dx', rfl, f1, b1, F1, hw1, hm1⟩
  obtain ⟨rfl, rfl, rfl⟩ : p = x ∧ 0 = er ∧ r' = s1 := by have := hq.out.symm.trans q1.out; simpa using this
  have hfin : Hid (∃ F', LftR b n F w r' F' (w1.alloc (.cells #[.int .u64 p, .slice none 0 0, .slice none 0 0] 42)) ∧ Qm (w1.alloc (.cells #[.int .u64 p, .slice none 0 0, .slice none 0 0] 42)) w1.heap.size (fun k => k = w1.heap.size) ⟨p, [], []⟩ ∧ w.heap.size ≤ w1.heap.size ∧ ¬ F' w1.heap.size ∧ Fr F w F' (w1.alloc (.cells #[.int .u64 p, .slice none 0 0, .slice none 0 0] 42))) :=
    Lib.hid ⟨F1, ⟨f1, b1, hw1.alloc _⟩, ⟨_, _, Blk.new _ _ _, Wl.nil _, Wl.nil _, (fun k hk => nomatch hk), fun k => ⟨.inl, fun h => h.elim id fun h => h.elim (fun h => nomatch h) fun h => nomatch h⟩⟩, hm1.size, fun h => by have := hw1.lt _ h; omega, hm1.alloc _⟩
  clear hw hf hb q1 hw1 hm1 f1 b1 hq
  go_wp2
  go_ret2
  obtain ⟨F', h⟩ := hfin.out
  exact ⟨_, F', rfl, dx, dx', h⟩
theorem refnew_no {b n : Nat} {F : Nat → Prop} {r r' : St} {w : World} (hw : Wld w b F r) (hf : Fits r) (hb : Bud r (n + 4)) (hq : Hid (rTake r 0 3 = (0, 9, r'))) :
    Calls Try.prog 19 #[.pointer (some ⟨b, 0, none⟩)] w fun e w' => ∃ F', e = .returned (.tuple #[.pointer none, .int .i64 9]) ∧ LftR b n F w r' F' w' ∧ Fr F w F' w' := by
  go_enter Try.func19, Try.ntmps19
  go_wp2_with fail
  refine (wtake_b hw hf hb (by omega) (by omega) (by omega) (Fr.refl _ _)).mono ?_
  rintro e w1 ⟨x, er, s1, q1, dx, dx', rfl, f1, b1, F1, hw1, hm1⟩
  obtain ⟨rfl, rfl, rfl⟩ : 0 = x ∧ 9 = er ∧ r' = s1 := by have := hq.out.symm.trans q1.out; simpa using this
  have hw1 := Lib.hid hw1
  have hm1 := Lib.hid hm1
  clear hw hf hb q1 hq
  go_wp2
  go_ret2
  exact ⟨F1, rfl, ⟨f1, b1, hw1.out⟩, hm1.out⟩
theorem refput_no {b g n : Nat} {F : Nat → Prop} {r r' : St} {x : Int} {w : World} (hw : Wld w b F r) (hf : Fits r) (hb : Bud r (n + 4)) (hq : Hid (rTake r 0 2 = (0, 9, r'))) :
    Calls Try.prog 21 #[.pointer (some ⟨g, 0, none⟩), .pointer (some ⟨b, 0, none⟩), .int .u64 x] w fun e w' => ∃ F', e = .returned (.int .i64 9) ∧ LftR b n F w r' F' w' ∧ Fr F w F' w' := by
  go_enter Try.func21, Try.ntmps21
  go_wp2_with fail
  refine (wtake_b hw hf hb (by omega) (by omega) (by omega) (Fr.refl _ _)).mono ?_
  rintro e w1 ⟨x, er, s1, q1, dx, dx', rfl, f1, b1, F1, hw1, hm1⟩
  obtain ⟨rfl, rfl, rfl⟩ : 0 = x ∧ 9 = er ∧ r' = s1 := by have := hq.out.symm.trans q1.out; simpa using this
  have hw1 := Lib.hid hw1
  have hm1 := Lib.hid hm1
  clear hw hf hb q1 hq
  go_wp2
  go_ret
  exact ⟨F1, rfl, ⟨f1, b1, hw1.out⟩, hm1.out⟩

set_option maxRecDepth 100000 in
theorem refput_yes {b g n : Nat} {F X : Nat → Prop} {r r' : St} {a x d : Int} {nodes words : List Int} {w : World} (hw : Wld w b F r) (hf : Fits r) (hb : Bud r (n + 4)) (hq : Hid (rTake r 0 2 = (a, 0, r'))) (hx : 0 ≤ x) (hx' : x ≤ 18446744073709551615)
    (hQ : Qm w g X ⟨d, nodes, words⟩) (hXF : ∀ k, X k → ¬ F k) (hn : nodes.length ≤ 1000000) (hn' : words.length ≤ 1000000) :
    Calls Try.prog 21 #[.pointer (some ⟨g, 0, none⟩), .pointer (some ⟨b, 0, none⟩), .int .u64 x] w fun e w' => ∃ F' X', e = .returned (.int .i64 0) ∧ LftR b n F w r' F' w' ∧ Qm w' g X' ⟨d, nodes ++ [a], words ++ [x]⟩ ∧ (∀ k, F' k → ¬ X' k) ∧ Fr (fun k => F k ∨ X k) w (fun k => F' k ∨ X' k) w' := by
  go_enter Try.func21, Try.ntmps21
  go_wp2_with fail
  refine (wtake_b hw hf hb (by omega) (by omega) (by omega) (Fr.refl _ _)).mono ?_
  rintro e w1 ⟨x1, er, s1, q1, dx, dx', rfl, f1, b1, F1, hw1, hm1⟩
  obtain ⟨rfl, rfl, rfl⟩ : a = x1 ∧ 0 = er ∧ r' = s1 := by have := hq.out.symm.trans q1.out; simpa using this
  have hQ1 := hQ.fr hm1 hXF
  have hXF1 : ∀ k, X k → k < w1.heap.size ∧ ¬ F1 k := hm1.apart fun k hk => ⟨hQ.lt k hk, hXF k hk⟩
  obtain ⟨vn, vw, hB, hvn, hvw, hnw, hX⟩ := hQ1
  obtain ⟨An, cn, rfl, hcn⟩ := hvn.shape
  obtain ⟨Aw, cw, rfl, hcw⟩ := hvw.shape
  have HX := Lib.hid hX
  have HNW := Lib.hid hnw
  have HXF := Lib.hid hXF1
  have HM1 := Lib.hid hm1
  clear hw hf hb q1 hq hQ hXF hXF1 hnw hX hm1
  have hgn : ¬ own (.slice An nodes.length cn) g := hvn.ne_ hB (by decide)
  have hgw : ¬ own (.slice Aw words.length cw) g := hvw.ne_ hB (by decide)
  have dB := hB.cell 1
  simp only [List.getElem?_toArray, List.getElem?_cons_zero, List.getElem?_cons_succ] at dB
  have hl1 := Lib.hid (show (nodes.length + 1) * 8 ≤ 140737488355328 by omega)
  have hl2 := Lib.hid (show (words.length + 1) * 8 ≤ 140737488355328 by omega)
  go_upto_region 5 with (at_builtin; refine wpList_word w1 rfl (.tmp 21) (.tmp 23) rfl (.slice An nodes.length cn) nodes a rfl hvn rfl hl1.out ?_; intro A4 c4 w4 hc4 hv4 hm4; have hB4 := hm4.blk hB hgn; have fz4 := hB4.frozen 1; have dB3 := hB4.cell 1; simp only [List.getElem?_toArray, List.getElem?_cons_zero, List.getElem?_cons_succ] at dB3)
  have hvw5 := (hvw.fr hm4 fun k hk ho => HNW.out k ho hk).set (p := ⟨g, 1, none⟩) hgw (.slice A4 (nodes.length + 1) c4)
  have hB5 := hB4.set_ 1 (.slice A4 (nodes.length + 1) c4)
  have dB5 := hB5.cell 2
  simp at dB5
  have hw5 := hw1.fr hm4 fun k hk ho => (HXF.out k ((HX.out k).2 (.inr (.inl ho)))).2 hk
  have hF1g : ¬ F1 g := (HXF.out g ((HX.out g).2 (.inl rfl))).2
  have hw5 := hw5.set (p := ⟨g, 1, none⟩) hF1g (.slice A4 (nodes.length + 1) c4)
  have hv4g : ¬ own (.slice A4 (nodes.length + 1) c4) g := hv4.ne_ hB4 (by decide)
  have hv5 := hv4.set (p := ⟨g, 1, none⟩) hv4g (.slice A4 (nodes.length + 1) c4)
  have HM5 : Hid (Fr (fun k => F k ∨ X k) w (fun k => F1 k ∨ k = g ∨ own (.slice A4 (nodes.length + 1) c4) k ∨ own (.slice Aw words.length cw) k) (w4.setCell ⟨g, 1, none⟩ (.slice A4 (nodes.length + 1) c4))) := Lib.hid (by
    have e1 := HM1.out.side X
    have e2 := e1.trans (((hm4.wide (G := fun k => F1 k ∨ X k) fun k hk => .inr ((HX.out k).2 (.inr (.inl hk)))).into (G := fun k => F1 k ∨ k = g ∨ own (.slice A4 (nodes.length + 1) c4) k ∨ own (.slice Aw words.length cw) k) fun k hk => ?_))
    · exact e2.set (.inl (.inr (.inl rfl))) _
    · rcases hk with h | h | h | h
      · exact .inr (.inl (.inl h))
      · exact .inr (.inl (.inr ((HX.out k).2 (.inl h))))
      · exact .inl h
      · exact .inr (.inl (.inr ((HX.out k).2 (.inr (.inr h))))))
  have hap5 : ∀ k, own (.slice A4 (nodes.length + 1) c4) k → ¬ F1 k ∧ ¬ own (.slice Aw words.length cw) k := fun k hk => (hm4.new k hk).elim (fun h => ⟨(HXF.out k ((HX.out k).2 (.inr (.inl h)))).2, HNW.out k h⟩) fun h => ⟨fun h2 => by have := hw1.lt k h2; omega, fun h2 => by have := hvw.lt k h2; omega⟩
  have HAP := Lib.hid hap5
  have hgw5 : ∀ k, own (.slice Aw words.length cw) k → ¬ F1 k := fun k hk => (HXF.out k ((HX.out k).2 (.inr (.inr hk)))).2
  have HGW := Lib.hid hgw5
  clear hap5 hgw5 hB hvn hvw hm4 hv4 hB4 hw1 dB3 HM1 fz4 dB
  generalize w4.setCell ⟨g, 1, none⟩ (.slice A4 (nodes.length + 1) c4) = w5 at *
  go_wp2_with (at_builtin; go_must (refine wpList_word w5 rfl (.tmp 31) (.tmp 33) rfl (.slice Aw words.length cw) words x rfl hvw5 rfl hl2.out ?_; intro A6 c6 w6 hc6 hv6 hm6; have hB6 := hm6.blk hB5 hgw; have fz6 := hB6.frozen 2; have dB6 := hB6.cell 2; simp at dB6))
  go_ret
  have hv6g : ¬ own (.slice A6 (words.length + 1) c6) g := hv6.ne_ hB6 (by decide)
  have hv56 := hv5.fr hm6 fun k hk => (HAP.out k hk).2
  have hn6 : ∀ k, own (.slice A6 (words.length + 1) c6) k → ¬ F1 k ∧ ¬ own (.slice A4 (nodes.length + 1) c4) k := fun k hk => (hm6.new k hk).elim (fun h => ⟨HGW.out k h, fun h2 => (HAP.out k h2).2 h⟩) fun h => ⟨fun h2 => by have := hw5.lt k h2; omega, fun h2 => by have := hv5.lt k h2; omega⟩
  refine ⟨F1, fun k => k = g ∨ own (.slice A4 (nodes.length + 1) c4) k ∨ own (.slice A6 (words.length + 1) c6) k, rfl, ⟨f1, b1, (hw5.fr hm6 fun k hk ho => HGW.out k ho hk).set (p := ⟨g, 2, none⟩) hF1g _⟩, ⟨.slice A4 (nodes.length + 1) c4, .slice A6 (words.length + 1) c6, by simpa using hB6.set_ 2 (.slice A6 (words.length + 1) c6), by simpa using hv56.set (p := ⟨g, 2, none⟩) hv4g _, by simpa using hv6.set (p := ⟨g, 2, none⟩) hv6g _, fun k hk h2 => (hn6 k h2).2 hk, fun k => Iff.rfl⟩, fun k hk hx => ?_, ?_⟩
  · rcases hx with h | h | h
    · exact hF1g (h ▸ hk)
    · exact (HAP.out k h).1 hk
    · exact (hn6 k h).1 hk
  · have e1 := HM5.out.trans ((hm6.wide (G := fun k => F1 k ∨ k = g ∨ own (.slice A4 (nodes.length + 1) c4) k ∨ own (.slice Aw words.length cw) k) fun k hk => .inr (.inr (.inr hk))).into (G := fun k => F1 k ∨ k = g ∨ own (.slice A4 (nodes.length + 1) c4) k ∨ own (.slice A6 (words.length + 1) c6) k) fun k hk => ?_)
    · exact e1.set (p := ⟨g, 2, none⟩) (.inl (.inr (.inl rfl))) _
    · rcases hk with h | h | h | h
      · exact .inr (.inl (.inl h))
      · exact .inr (.inl (.inr (.inl h)))
      · exact .inr (.inl (.inr (.inr (.inl h))))
      · exact .inl h
end Go.Proofs.Ytfbbmnlebibplaa
