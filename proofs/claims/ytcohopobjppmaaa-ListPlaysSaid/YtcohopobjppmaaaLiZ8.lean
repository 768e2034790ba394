/- What stands behind a step of the law. -/
import Derived.Test.YtcohopobjppmaaaLiZ6
import Derived.Test.YtcohopobjppmaaaLiZ4
namespace Go.Proofs.Ytcohopobjppmaaa
open Go.RowKit
set_option linter.unusedVariables false
set_option linter.unusedSimpArgs false

structure GotC (W wx : World) (t Lb Kb : Nat) (F2 : Nat → Prop) (s2 : St) (ls : Nat → Int) (vs : Nat → Value) (ks : Nat → List Int) (m : Nat) (ba : Bool) (ea : Int) (vg : Value) (l7 : List Int) (wb : Nat) (xa : Int) (v7 : Value) (nx : List Int) (v8 : Value) (sb : Nat) (kind on key : Int) (vb : Value) (bw : List Int) : Prop where
  mem : Mem W wx t Lb Kb F2 s2 ls vs ks
  bud : Bud s2 m
  wvg : Wl wx vg l7
  ovg : ∀ k, own vg k → ¬ foot Lb Kb F2 vs k ∧ W.heap.size ≤ k
  o8 : 0 < nx.length → ∀ g o n c, v8 = .slice (some ⟨g, o, none⟩) n c → ¬ own vg g
  wblk : Blk wx wb 29 #[.int .u64 xa, .bool ba, v7, .int .i64 ea]
  q7 : Lies wx v7 l7
  q8 : Lies wx v8 nx
  f8 : flat v8 nx.length
  sblk : Blk wx sb 25 #[.int .i64 kind, .int .i64 on, .int .u64 key]
  bef : Wl wx vb bw
  n7 : 0 < l7.length → ∀ g o n c, v7 = .slice (some ⟨g, o, none⟩) n c → g ≠ Lb ∧ g ≠ Kb
  n8 : 0 < nx.length → ∀ g o n c, v8 = .slice (some ⟨g, o, none⟩) n c → g ≠ Lb ∧ g ≠ Kb
section
variable {W w4 wc Wd w5 wx w' : World} {t Lb Kb : Nat} {F F2 : Nat → Prop} {s s2 : St} {ls : Nat → Int} {vs : Nat → Value} {ks : Nat → List Int} {m : Nat} {ba : Bool} {ea : Int} {vg : Value} {l7 : List Int} {wb : Nat} {xa : Int} {v7 : Value} {nx : List Int} {v8 : Value} {sb : Nat} {kind on key : Int} {vb : Value} {bw : List Int}
theorem GotC.below (h : GotC W wx t Lb Kb F2 s2 ls vs ks m ba ea vg l7 wb xa v7 nx v8 sb kind on key vb bw) (hb : Below wx.heap.size wx w') : GotC W w' t Lb Kb F2 s2 ls vs ks m ba ea vg l7 wb xa v7 nx v8 sb kind on key vb bw :=
  ⟨h.mem.below hb, h.bud, h.wvg.keep fun k hk => hb.block k (h.wvg.lt k hk), h.ovg, h.o8, h.wblk.below hb h.wblk.lt, h.q7.below hb, h.q8.below hb, h.f8, h.sblk.below hb h.sblk.lt, h.bef.keep fun k hk => hb.block k (h.bef.lt k hk), h.n7, h.n8⟩
theorem Wl.below {v : Value} {l : List Int} (h : Wl wx v l) (hb : Below wx.heap.size wx w') : Wl w' v l := h.keep fun k hk => hb.block k (h.lt k hk)
theorem got_call {kk : Nat} (hkk : kk < 2) (M : Mem W wc t Lb Kb F s ls vs ks) (hF4 : ∀ k, F k → k < w4.heap.size) (hLK : Lb < w4.heap.size ∧ Kb < w4.heap.size) (hq : WantP w4 wc wb xa ba ea l7 nx v7 v8 (vs kk)) (hS : Blk wc sb 25 #[.int .i64 kind, .int .i64 on, .int .u64 key]) (hvb : Wl wc vb bw) (hvbF : ∀ k, own vb k → ¬ F k)
    (hb : Below wc.heap.size wc Wd) (hfl : s2.fail = s.fail) (hL : LftK t m F Wd s2 vg l7 w5) : ∃ F2, GotC W w5 t Lb Kb F2 s2 ls vs ks m ba ea vg l7 wb xa v7 nx v8 sb kind on key vb bw := by
  obtain ⟨f2, b2, wv, F2, T2, m2, o2⟩ := hL
  have Md := M.below hb
  have M5 := Md.step f2 hfl T2 m2
  have h8lt := hq.l8.lt
  refine ⟨F2, M5, b2, wv, fun k hk => ⟨?_, ?_⟩, fun hl g o n c e hk => ?_, m2.blk (hq.blk.below hb hq.blk.lt) (Md.tx.not_other (hq.blk.below hb hq.blk.lt) (by decide) (by decide)), (hq.l7.below hb).fr m2 fun g o n c e hl hF => ?_, (hq.l8.below hb).fr m2 fun g o n c e hl hF => ?_, hq.flat, m2.blk (hS.below hb hS.lt) (Md.tx.not_other (hS.below hb hS.lt) (by decide) (by decide)), (hvb.below hb).fr m2 hvbF, fun hl g o n c e => ?_, fun hl g o n c e => ?_⟩
  · rintro (rfl | rfl | h | ⟨j, hj, h⟩)
    · exact wv.ne_ M5.lb (by decide) hk
    · exact wv.ne_ M5.kb (by decide) hk
    · exact o2 k hk h
    · rcases m2.new k (.inr hk) with h' | h'
      · exact M.af j hj k h h'
      · have := (Md.wl j hj).lt k h; omega
  · rcases m2.new k (.inr hk) with h' | h'
    · exact M.ge.2.2.1 k h'
    · have := Md.bel.size; omega
  · rcases hq.o8 with h | h | h
    · have hv : own (vs kk) g := by rw [← h, e]; rfl
      rcases m2.new g (.inr hk) with h' | h'
      · exact M.af kk hkk g hv h'
      · have := (Md.wl kk hkk).lt g hv; omega
    · rw [h] at e; cases e
    · have h1 := h g o n c e
      have h2 := h8lt hl g o n c e
      rcases m2.new g (.inr hk) with h' | h'
      · have := hF4 g h'; omega
      · have := hb.size; omega
  · rcases hq.o7 with h | h
    · exact M.af kk hkk g (by rw [← h, e]; rfl) hF
    · rw [h] at e; cases e
  · rcases hq.o8 with h | h | h
    · exact M.af kk hkk g (by rw [← h, e]; rfl) hF
    · rw [h] at e; cases e
    · have h1 := h g o n c e
      have := hF4 g hF; omega
  · rcases hq.o7 with h | h
    · have hv : own (vs kk) g := by rw [← h, e]; rfl
      exact ⟨by rintro rfl; exact (M.own_nl kk hkk).1 hv, by rintro rfl; exact (M.own_nl kk hkk).2 hv⟩
    · rw [h] at e; cases e
  · rcases hq.o8 with h | h | h
    · have hv : own (vs kk) g := by rw [← h, e]; rfl
      exact ⟨by rintro rfl; exact (M.own_nl kk hkk).1 hv, by rintro rfl; exact (M.own_nl kk hkk).2 hv⟩
    · rw [h] at e; cases e
    · have h1 := h g o n c e
      exact ⟨by omega, by omega⟩
/-- a block beside all is written -/
theorem GotC.set (h : GotC W wx t Lb Kb F2 s2 ls vs ks m ba ea vg l7 wb xa v7 nx v8 sb kind on key vb bw) {gb : Nat} {cs : Array Value} (hg : Blk wx gb 29 cs) (hw : W.heap.size ≤ gb) (hne : wb ≠ gb)
    (h7 : 0 < l7.length → ∀ g o n c, v7 = .slice (some ⟨g, o, none⟩) n c → g ≠ gb) (h8 : 0 < nx.length → ∀ g o n c, v8 = .slice (some ⟨g, o, none⟩) n c → g ≠ gb) (i : Nat) (u : Value) :
    GotC W (wx.setCell ⟨gb, i, none⟩ u) t Lb Kb F2 s2 ls vs ks m ba ea vg l7 wb xa v7 nx v8 sb kind on key vb bw :=
  ⟨h.mem.far (by
      rintro (e | e | e | ⟨j, hj, e⟩)
      · have e : gb = Lb := e
        subst e; exact absurd (hg.uniq h.mem.lb).1 (by decide)
      · have e : gb = Kb := e
        subst e; exact absurd (hg.uniq h.mem.kb).1 (by decide)
      · exact h.mem.tx.not_other hg (by decide) (by decide) e
      · exact (h.mem.wl j hj).ne_ hg (by decide) e) hw u, h.bud, h.wvg.set (h.wvg.ne_ hg (by decide)) u, h.ovg, h.o8, h.wblk.far hne u, h.q7.set2 h7 u, h.q8.set2 h8 u, h.f8, h.sblk.far (by
        rintro e
        have e : sb = gb := e
        subst e; exact absurd (hg.uniq h.sblk).1 (by decide)) u, h.bef.set (h.bef.ne_ hg (by decide)) u, h.n7, h.n8⟩
theorem GotC.setL (h : GotC W wx t Lb Kb F2 s2 ls vs ks m ba ea vg l7 wb xa v7 nx v8 sb kind on key vb bw) {j : Nat} (hj : j < 2) (x : Int) :
    GotC W (wx.setCell ⟨Lb, j, none⟩ (.int .u64 x)) t Lb Kb F2 s2 (updf ls j x) vs ks m ba ea vg l7 wb xa v7 nx v8 sb kind on key vb bw :=
  ⟨h.mem.setL hj x, h.bud, h.wvg.set (h.wvg.ne_ h.mem.lb (by decide)) _, h.ovg, h.o8, h.wblk.far (by
        rintro e
        have e : wb = Lb := e
        subst e; exact absurd (h.wblk.uniq h.mem.lb).1 (by decide)) _, h.q7.set2 (fun hl g o n c e => (h.n7 hl g o n c e).1) _, h.q8.set2 (fun hl g o n c e => (h.n8 hl g o n c e).1) _, h.f8, h.sblk.far (by
        rintro e
        have e : sb = Lb := e
        subst e; exact absurd (h.sblk.uniq h.mem.lb).1 (by decide)) _, h.bef.set (h.bef.ne_ h.mem.lb (by decide)) _, h.n7, h.n8⟩
theorem updf_self {α : Type} (f : Nat → α) (i : Nat) : updf f i (f i) = f := by
  funext j
  unfold updf
  split
  · rename_i h; rw [h]
  · rfl
theorem dAns_9 {keys : List Int} {sp : Bool} {A : Int × Bool × List Int × Int × List Int} (h : dAns keys 9 key sp = A) : A.1 = 0 := by rw [← h]; rfl
theorem lk_at {kind : Int} (h : lk kind = true) : looksAt kind := by
  unfold lk at h
  unfold looksAt
  simp only [Bool.or_eq_true, Bool.and_eq_true, decide_eq_true_eq] at h
  omega
theorem do_at {kk g : Nat} {n : Int} {nss : Nat → List (Int × Int)} {fs : List Int} {sp : Bool} {A : Int × Bool × List Int × Int × List Int} (hkk : kk < 2) (M : Mem W wc t Lb Kb F s ls vs ks) (hbud : Bud s (1 + 2000 * (g + 1))) (hk : 0 ≤ key ∧ key ≤ 18446744073709551615)
    (hB : Both s.W n (ls 0) (ls 1) (nss 0) (nss 1) fs) (hsp : sp = true ↔ spc s.W n fs) (hA : dAns (kl (nss kk)) kind key sp = A) (hb : Below wc.heap.size wc Wd) :
    Calls Try.prog 7 #[.iface 31 (.pointer (some ⟨t, 0, none⟩)), .int .u64 0, .int .u64 (ls kk), .agg #[.int .i64 kind, .int .i64 on, .int .u64 key]] Wd (DoP t (1 + 2000 * g) F Wd s n (ls kk) (ls (1 - kk)) (nss (1 - kk)) A kind) := by
  have hb0 : Bud s ((1 + 2000 * g) + 6 * 300 + 20) := hbud.mono (by omega)
  have hf : s.fail < 0 := by rw [M.fail]; decide
  have h1 := doB (on := on) (kind := kind) (key := key) (space := sp) (M.below hb).tx M.fit hb0 hk.1 hk.2 (hB.at_ hkk) hf hsp (Fr.refl F Wd)
  rw [hA] at h1
  exact h1
theorem Wl.len_ {w : World} {v : Value} {l : List Int} (h : Wl w v l) : (l.length : Int) ≤ 9223372036854775807 := by
  obtain ⟨_, ⟨_, h⟩ | ⟨_, _, _, _, _, _, _, h1, h2, _⟩⟩ := h
  · omega
  · unfold maxLen at h2; omega
/-- behind the comparing -/
structure Aft (W wx : World) (t Lb Kb : Nat) (F2 : Nat → Prop) (s2 : St) (ls : Nat → Int) (vs : Nat → Value) (ks : Nat → List Int) (vg : Value) (ng gb : Nat) (xa : Int) (ba : Bool) (ea : Int) (v8 : Value) (nx : List Int) (lg : List Int) : Prop where
  mem : Mem W wx t Lb Kb F2 s2 ls vs ks
  len : lg.length = ng
  wvg : Wl wx vg lg
  q8 : Lies wx v8 nx
  blk : Blk wx gb 29 #[.int .u64 xa, .bool ba, vg, .int .i64 ea]
theorem Aft.set {ng gb : Nat} {lg : List Int} (h : Aft W wx t Lb Kb F2 s2 ls vs ks vg ng gb xa ba ea v8 nx lg) (ho : ∀ k, own vg k → ¬ foot Lb Kb F2 vs k ∧ W.heap.size ≤ k) (h8 : 0 < nx.length → ∀ g o n c, v8 = .slice (some ⟨g, o, none⟩) n c → ¬ own vg g) {g i : Nat} (hg : own vg g) (u : Value) {lg' : List Int} (hl : lg'.length = ng) (hw : Wl (wx.setCell ⟨g, i, none⟩ u) vg lg') :
    Aft W (wx.setCell ⟨g, i, none⟩ u) t Lb Kb F2 s2 ls vs ks vg ng gb xa ba ea v8 nx lg' :=
  ⟨h.mem.far (ho g hg).1 (ho g hg).2 u, hl, hw, h.q8.set2 (fun hl g' o n c e => by rintro rfl; exact h8 hl g' o n c e hg) u, h.blk.far (by
    rintro e
    have e : gb = g := e
    subst e; exact h.wvg.ne_ h.blk (by decide) hg) u⟩
theorem kl_updf {nss : Nat → List (Int × Int)} {kk : Nat} {ns : List (Int × Int)} : updf (fun j => kl (nss j)) kk (kl ns) = fun j => kl (updf nss kk ns j) := by
  funext j
  unfold updf
  split <;> rfl
theorem stands_at {n : Int} {nss : Nat → List (Int × Int)} {fs : List Int} (M : Mem W wx t Lb Kb F s ls vs ks) (hB : Both s.W n (ls 0) (ls 1) (nss 0) (nss 1) fs) {j : Nat} (hj : j < 2) :
    ∃ Aw cw, wx.cell? ⟨t, 0, none⟩ = some (.slice Aw s.W.length cw) ∧ s.W.length ≤ cw ∧ ∀ Wd, Below wx.heap.size wx Wd → Calls Try.prog 10 #[.slice Aw s.W.length cw, .int .u64 (ls j)] Wd (StandsP Wd (kl (nss j), true)) := by
  obtain ⟨Aw, cw, q1, q2, q3, -⟩ := M.tx.words
  refine ⟨Aw, cw, q1, q2, fun Wd hb => ?_⟩
  have hBj := hB.at_ hj
  have hlen := hBj.len
  have hbd := hBj.bd
  have h1 := stands_b (l := ls j) (q3.below hb) M.fit.words (by omega) (by omega) (by omega)
  have hR := hBj.in_.room
  have hr1 := hR.len
  have hr2 := hR.le
  rw [hBj.in_.lst.stands hlen.2 (by simp at hr2; omega)] at h1
  exact h1
theorem left_at {n : Int} {nss : Nat → List (Int × Int)} {fs : List Int} (M : Mem W wx t Lb Kb F s ls vs ks) (hB : Both s.W n (ls 0) (ls 1) (nss 0) (nss 1) fs) :
    Calls Try.prog 19 #[.pointer (some ⟨t, 0, none⟩), .int .i64 n, .int .i64 (((kl (nss 0)).length + (kl (nss 1)).length : Nat) : Int)] wx (TrueP wx.heap.size wx) :=
  lleft_b M.tx M.fit hB.in_.room (by simp [kl]; omega)
end
end Go.Proofs.Ytcohopobjppmaaa
