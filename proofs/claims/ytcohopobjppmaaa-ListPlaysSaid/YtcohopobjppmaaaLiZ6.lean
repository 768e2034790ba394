/- The memory of the law between its rounds. -/
import Derived.Test.YtcohopobjppmaaaLiZ3
import Derived.Test.YtcohopobjppmaaaLiZ5
namespace Go.Proofs.Ytcohopobjppmaaa
open Go.RowKit
set_option linter.unusedVariables false
set_option linter.unusedSimpArgs false

def updf {α : Type} (f : Nat → α) (i : Nat) (x : α) : Nat → α := fun j => if j = i then x else f j
theorem updf_eq {α : Type} (f : Nat → α) (i : Nat) (x : α) : updf f i x i = x := if_pos rfl
theorem updf_ne {α : Type} (f : Nat → α) {i j : Nat} (x : α) (h : j ≠ i) : updf f i x j = f j := if_neg h
theorem Txw.not_other {w : World} {t g : Nat} {F : Nat → Prop} {s : St} (h : Txw w t F s) {ty : TypeId} {cs : Array Value} (hb : Blk w g ty cs) (h1 : ty ≠ 51) (h2 : ty ≠ 23) : ¬ F g := by
  obtain ⟨v, k1, k2, h4⟩ := h
  intro hc
  rcases (h4 g).1 hc with rfl | hc
  · exact h1 (hb.uniq k1).1
  · exact k2.ne_ hb h2 hc
structure Mem (W wr : World) (t L K : Nat) (F : Nat → Prop) (s : St) (ls : Nat → Int) (vs : Nat → Value) (ks : Nat → List Int) : Prop where
  fit : Fits s
  fail : s.fail = -1
  tx : Txw wr t F s
  lb : Blk wr L 46 #[.int .u64 (ls 0), .int .u64 (ls 1)]
  kb : Blk wr K 49 #[vs 0, vs 1]
  wl : ∀ j, j < 2 → Wl wr (vs j) (ks j)
  af : ∀ j, j < 2 → ∀ k, own (vs j) k → ¬ F k
  ap : ∀ i j, i < 2 → j < 2 → i ≠ j → ∀ k, own (vs i) k → ¬ own (vs j) k
  ge : W.heap.size ≤ L ∧ W.heap.size ≤ K ∧ (∀ k, F k → W.heap.size ≤ k) ∧ (∀ j, j < 2 → ∀ k, own (vs j) k → W.heap.size ≤ k)
  bel : Below W.heap.size W wr
section
variable {W wr w' : World} {t L K : Nat} {F : Nat → Prop} {s : St} {ls : Nat → Int} {vs : Nat → Value} {ks : Nat → List Int}
/-- its blocks -/
def foot (L K : Nat) (F : Nat → Prop) (vs : Nat → Value) (k : Nat) : Prop := k = L ∨ k = K ∨ F k ∨ ∃ j, j < 2 ∧ own (vs j) k
theorem Mem.lt (h : Mem W wr t L K F s ls vs ks) : ∀ k, foot L K F vs k → k < wr.heap.size := by
  rintro k (rfl | rfl | hk | ⟨j, hj, hk⟩)
  · exact h.lb.lt
  · exact h.kb.lt
  · exact h.tx.lt k hk
  · exact (h.wl j hj).lt k hk
theorem Mem.gef (h : Mem W wr t L K F s ls vs ks) : ∀ k, foot L K F vs k → W.heap.size ≤ k := by
  rintro k (rfl | rfl | hk | ⟨j, hj, hk⟩)
  · exact h.ge.1
  · exact h.ge.2.1
  · exact h.ge.2.2.1 k hk
  · exact h.ge.2.2.2 j hj k hk
theorem Mem.keep (h : Mem W wr t L K F s ls vs ks) (hk : ∀ k, foot L K F vs k → w'.heap[k]? = wr.heap[k]?) (hb : Below W.heap.size W w') : Mem W w' t L K F s ls vs ks :=
  ⟨h.fit, h.fail, h.tx.keep fun k hF => hk k (.inr (.inr (.inl hF))), (hk L (.inl rfl)).trans h.lb, (hk K (.inr (.inl rfl))).trans h.kb, fun j hj => (h.wl j hj).keep fun k hv => hk k (.inr (.inr (.inr ⟨j, hj, hv⟩))), h.af, h.ap, h.ge, hb⟩
theorem Mem.below (h : Mem W wr t L K F s ls vs ks) (hb : Below wr.heap.size wr w') : Mem W w' t L K F s ls vs ks :=
  h.keep (fun k hk => hb.block k (h.lt k hk)) (h.bel.trans (hb.mono h.bel.size))
theorem Mem.alloc (h : Mem W wr t L K F s ls vs ks) (o : Obj) : Mem W (wr.alloc o) t L K F s ls vs ks := h.below ((Below.refl _ _).alloc (Nat.le_refl _) o)
theorem Mem.drewN (h : Mem W wr t L K F s ls vs ks) (n : Nat) : Mem W (wr.drewN n) t L K F s ls vs ks := h.below (below_drewNs (Below.refl _ _) n)
theorem Mem.far (h : Mem W wr t L K F s ls vs ks) {p : Addr} (hp : ¬ foot L K F vs p.block) (hg : W.heap.size ≤ p.block) (u : Value) : Mem W (wr.setCell p u) t L K F s ls vs ks :=
  h.keep (fun k hk => Below.heap_setCell wr p u k (by rintro rfl; exact hp hk)) (h.bel.setCell hg u)
theorem Mem.own_nl (h : Mem W wr t L K F s ls vs ks) (j : Nat) (hj : j < 2) : ¬ own (vs j) L ∧ ¬ own (vs j) K := ⟨(h.wl j hj).ne_ h.lb (by decide), (h.wl j hj).ne_ h.kb (by decide)⟩
theorem Mem.nf (h : Mem W wr t L K F s ls vs ks) : ¬ F L ∧ ¬ F K ∧ L ≠ K := ⟨h.tx.not_other h.lb (by decide) (by decide), h.tx.not_other h.kb (by decide) (by decide), h.lb.ne_ h.kb (by decide)⟩
/-- a call over the cells -/
theorem Mem.step {F' : Nat → Prop} {s' : St} (h : Mem W wr t L K F s ls vs ks) (hf : Fits s') (hfl : s'.fail = s.fail) (hx : Txw w' t F' s') {G : Nat → Prop} (hm : Fr F wr (fun k => F' k ∨ G k) w') : Mem W w' t L K F' s' ls vs ks := by
  obtain ⟨n1, n2, n3⟩ := h.nf
  refine ⟨hf, hfl.trans h.fail, hx, hm.blk h.lb n1, hm.blk h.kb n2, fun j hj => (h.wl j hj).fr hm (h.af j hj), fun j hj k hk hF => (hm.new k (.inl hF)).elim (h.af j hj k hk) fun c => by have := (h.wl j hj).lt k hk; omega, h.ap, ⟨h.ge.1, h.ge.2.1, fun k hk => (hm.new k (.inl hk)).elim (h.ge.2.2.1 k) fun c => Nat.le_trans h.bel.size c, h.ge.2.2.2⟩, ?_⟩
  exact h.bel.trans (hm.below h.ge.2.2.1 h.bel.size)
theorem Mem.setL (h : Mem W wr t L K F s ls vs ks) {j : Nat} (hj : j < 2) (x : Int) : Mem W (wr.setCell ⟨L, j, none⟩ (.int .u64 x)) t L K F s (updf ls j x) vs ks := by
  obtain ⟨n1, n2, n3⟩ := h.nf
  have e := h.lb.set_ j (.int .u64 x)
  refine ⟨h.fit, h.fail, h.tx.set n1 _, ?_, h.kb.far n3.symm _, fun i hi => (h.wl i hi).set (h.own_nl i hi).1 _, h.af, h.ap, h.ge, h.bel.setCell h.ge.1 _⟩
  rcases (show j = 0 ∨ j = 1 by omega) with rfl | rfl
  · simpa [updf] using e
  · simpa [updf] using e
theorem Mem.setK (h : Mem W wr t L K F s ls vs ks) {j : Nat} (hj : j < 2) {v : Value} {l : List Int} (hv : Wl wr v l) (hf : ∀ k, own v k → ¬ F k) (ho : ∀ i, i < 2 → ∀ k, own v k → ¬ own (vs i) k) (hg : ∀ k, own v k → W.heap.size ≤ k) : Mem W (wr.setCell ⟨K, j, none⟩ v) t L K F s ls (updf vs j v) (updf ks j l) := by
  obtain ⟨n1, n2, n3⟩ := h.nf
  have e := h.kb.set_ j v
  refine ⟨h.fit, h.fail, h.tx.set n2 _, h.lb.far n3 _, ?_, fun i hi => ?_, fun i hi => ?_, fun a b ha hb hab => ?_, ⟨h.ge.1, h.ge.2.1, h.ge.2.2.1, fun i hi => ?_⟩, h.bel.setCell h.ge.2.1 _⟩
  · rcases (show j = 0 ∨ j = 1 by omega) with rfl | rfl
    · simpa [updf] using e
    · simpa [updf] using e
  · by_cases hij : i = j
    · subst hij; rw [updf_eq, updf_eq]; exact hv.set (hv.ne_ h.kb (by decide)) _
    · rw [updf_ne _ _ hij, updf_ne _ _ hij]; exact (h.wl i hi).set (h.own_nl i hi).2 _
  · by_cases hij : i = j
    · subst hij; rw [updf_eq]; exact hf
    · rw [updf_ne _ _ hij]; exact h.af i hi
  · by_cases ha' : a = j
    · subst ha'
      rw [updf_eq, updf_ne _ _ (Ne.symm hab)]
      exact ho b hb
    · rw [updf_ne _ _ ha']
      by_cases hb' : b = j
      · subst hb'; rw [updf_eq]; exact fun k h1 h2 => ho a ha k h2 h1
      · rw [updf_ne _ _ hb']; exact h.ap a b ha hb hab
  · by_cases hij : i = j
    · subst hij; rw [updf_eq]; exact hg
    · rw [updf_ne _ _ hij]; exact h.ge.2.2.2 i hi
/-- what the walk reads -/
theorem Mem.cells (h : Mem W wr t L K F s ls vs ks) : ∃ A0 A1 c0 c1, vs 0 = .slice A0 (ks 0).length c0 ∧ vs 1 = .slice A1 (ks 1).length c1 ∧ wr.cell? ⟨K, 0, none⟩ = some (.slice A0 (ks 0).length c0) ∧ wr.cell? ⟨K, 1, none⟩ = some (.slice A1 (ks 1).length c1) ∧
    wr.cell? ⟨L, 0, none⟩ = some (.int .u64 (ls 0)) ∧ wr.cell? ⟨L, 1, none⟩ = some (.int .u64 (ls 1)) ∧ wr.cell? ⟨t, 2, none⟩ = some (.int .i64 s.puts) ∧ ∃ Aw cw, wr.cell? ⟨t, 0, none⟩ = some (.slice Aw s.W.length cw) ∧ s.W.length ≤ cw ∧ Lies wr (.slice Aw s.W.length cw) s.W := by
  obtain ⟨A0, c0, e0, -⟩ := (h.wl 0 (by omega)).shape
  obtain ⟨A1, c1, e1, -⟩ := (h.wl 1 (by omega)).shape
  obtain ⟨Aw, cw, q1, q2, q3, -⟩ := h.tx.words
  exact ⟨A0, A1, c0, c1, e0, e1, by rw [h.kb.cell, ← e0]; rfl, by rw [h.kb.cell, ← e1]; rfl, by rw [h.lb.cell]; rfl, by rw [h.lb.cell]; rfl, h.tx.num.2.1, Aw, cw, q1, q2, q3⟩
theorem Mem.kcells (h : Mem W wr t L K F s ls vs ks) {u0 u1 : Value} (h0 : vs 0 = u0) (h1 : vs 1 = u1) : wr.cell? ⟨K, 0, none⟩ = some u0 ∧ wr.cell? ⟨K, 1, none⟩ = some u1 ∧ wr.cell? ⟨L, 0, none⟩ = some (.int .u64 (ls 0)) ∧ wr.cell? ⟨L, 1, none⟩ = some (.int .u64 (ls 1)) ∧ wr.cell? ⟨t, 2, none⟩ = some (.int .i64 s.puts) :=
  ⟨by rw [h.kb.cell, ← h0]; rfl, by rw [h.kb.cell, ← h1]; rfl, by rw [h.lb.cell]; rfl, by rw [h.lb.cell]; rfl, h.tx.num.2.1⟩
theorem Mem.kcell (h : Mem W wr t L K F s ls vs ks) {j : Nat} (hj : j < 2) : wr.cell? ⟨K, j, none⟩ = some (vs j) ∧ wr.cell? ⟨L, j, none⟩ = some (.int .u64 (ls j)) := by
  rcases (show j = 0 ∨ j = 1 by omega) with rfl | rfl
  · exact ⟨by rw [h.kb.cell]; rfl, by rw [h.lb.cell]; rfl⟩
  · exact ⟨by rw [h.kb.cell]; rfl, by rw [h.lb.cell]; rfl⟩
end
theorem Lies.ne_ {w : World} {v : Value} {l : List Int} (h : Lies w v l) : 0 < l.length → ∀ g o n c, v = .slice (some ⟨g, o, none⟩) n c → g ≠ w.heap.size := fun hl g o n c e => Nat.ne_of_lt (h.lt hl g o n c e)
theorem Lies.set2 {w : World} {v : Value} {l : List Int} (h : Lies w v l) {b i : Nat} (hp : 0 < l.length → ∀ g o n c, v = .slice (some ⟨g, o, none⟩) n c → g ≠ b) (u : Value) : Lies (w.setCell ⟨b, i, none⟩ u) v l := by
  obtain ⟨A, c, rfl, hc, h0, hx⟩ := h
  refine ⟨A, c, rfl, hc, h0, fun j hj => ?_⟩
  obtain ⟨g, o, rfl, hcell⟩ := hx j hj
  refine ⟨g, o, rfl, ?_⟩
  rw [← hcell]
  unfold World.cell?
  rw [Below.heap_setCell w _ u g (hp (by omega) g o _ _ rfl)]
theorem below_unN_ {B n : Nat} {w w' : World} (h : Below B (w.drewN n) w') : Below B w w' := ⟨h.os, h.tape, h.output, h.size, h.block⟩
theorem keepCell {B : Nat} {w w' : World} {p : Addr} {v : Value} (hb : Below B w w') (hB : w.heap.size ≤ B) (h : w.cell? p = some v) : w'.cell? p = some v := by
  have hlt : p.block < w.heap.size := Nat.lt_of_not_le fun hh => by
    unfold World.cell? at h
    rw [Array.getElem?_eq_none hh] at h
    cases h
  exact (hb.cell (p := p) (by omega)).trans h
/-- what the document has answered -/
structure WantP (w4 wx : World) (wb : Nat) (xa : Int) (ba : Bool) (ea : Int) (l7 nx : List Int) (v7 v8 vk : Value) : Prop where
  bel : Below w4.heap.size w4 wx
  ge : w4.heap.size ≤ wb
  blk : Blk wx wb 29 #[.int .u64 xa, .bool ba, v7, .int .i64 ea]
  l7 : Lies wx v7 l7
  l8 : Lies wx v8 nx
  flat : Go.Proofs.Ytcohopobjppmaaa.flat v8 nx.length
  o7 : v7 = vk ∨ v7 = .slice none 0 0
  o8 : v8 = vk ∨ v8 = .slice none 0 0 ∨ ∀ g o n c, v8 = .slice (some ⟨g, o, none⟩) n c → w4.heap.size ≤ g
theorem Lies.fr {w w' : World} {v : Value} {l : List Int} {G G' : Nat → Prop} (h : Lies w v l) (hm : Fr G w G' w') (hG : ∀ g o n c, v = .slice (some ⟨g, o, none⟩) n c → 0 < l.length → ¬ G g) : Lies w' v l := by
  have hlt := h.lt
  obtain ⟨A, c, rfl, hc, h0, hx⟩ := h
  refine ⟨A, c, rfl, hc, h0, fun j hj => ?_⟩
  obtain ⟨g, o, rfl, hcell⟩ := hx j hj
  refine ⟨g, o, rfl, ?_⟩
  rw [← hcell]
  unfold World.cell?
  rw [hm.block g (hlt (by omega) g o _ _ rfl) (hG g o _ _ rfl (by omega))]
/-- between two rounds -/
def LoopP (W : World) (t L K : Nat) (n : Int) (g : Nat) (wr : World) : Prop :=
  ∃ (F : Nat → Prop) (s : St) (ls : Nat → Int) (vs : Nat → Value) (nss : Nat → List (Int × Int)) (fs : List Int), Mem W wr t L K F s ls vs (fun j => kl (nss j)) ∧ Bud s (1 + 2000 * g) ∧ Both s.W n (ls 0) (ls 1) (nss 0) (nss 1) fs
theorem Both.at_ {Ws : List Int} {n : Int} {ls : Nat → Int} {nss : Nat → List (Int × Int)} {fs : List Int} (h : Both Ws n (ls 0) (ls 1) (nss 0) (nss 1) fs) {k : Nat} (hk : k < 2) : Both Ws n (ls k) (ls (1 - k)) (nss k) (nss (1 - k)) fs := by
  rcases (show k = 0 ∨ k = 1 by omega) with rfl | rfl
  · exact h
  · exact h.swap
theorem Both.back {Ws : List Int} {n l' : Int} {ls : Nat → Int} {nss : Nat → List (Int × Int)} {ns' : List (Int × Int)} {fs : List Int} {k : Nat} (hk : k < 2) (h : Both Ws n l' (ls (1 - k)) ns' (nss (1 - k)) fs) :
    Both Ws n (updf ls k l' 0) (updf ls k l' 1) (updf nss k ns' 0) (updf nss k ns' 1) fs := by
  rcases (show k = 0 ∨ k = 1 by omega) with rfl | rfl
  · exact h
  · exact h.swap
end Go.Proofs.Ytcohopobjppmaaa
