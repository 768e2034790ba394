/- The document's world of words, and the statement's own block over it: where they lie; a get and a put. -/
import Derived.Deep.RegionWith
import Derived.Deep.QuietTactic
import Derived.BigQuiet
import Derived.IntWalk
import Derived.Deep.DeepCutAuto
import Derived.Deep.LoopGhost
import Derived.Test.YtcgdpclhlepofaaPPl1
import Derived.Test.YtcgdpclhlepofaaPPl4
namespace Go.Proofs.Ytcgdpclhlepofaa
open Go.RowKit
set_option maxHeartbeats 1000000
set_option linter.unusedVariables false

/-- The document's world at b over these words; its blocks are those of F. -/
def Wld (w : World) (b : Nat) (F : Nat → Prop) (s : St) : Prop :=
  ∃ v, Blk w b 44 #[v, .int .i64 s.left, .int .i64 s.code, .int .i64 s.calls] ∧ Wl w v s.W ∧ ∀ k, F k ↔ (k = b ∨ Go.Proofs.Ytcgdpclhlepofaa.own v k)
section
variable {w w' : World} {b : Nat} {F : Nat → Prop} {s : St}
theorem Wl.ne_ {v : Value} {l : List Int} (h : Wl w v l) {k : Nat} {t : TypeId} {cs : Array Value} (hb : Blk w k t cs) (hne : t ≠ 23) : ¬ own v k := Rowv.ne_ h hb hne
theorem Wld.lt (h : Wld w b F s) : ∀ k, F k → k < w.heap.size := by
  obtain ⟨v, h1, h2, h4⟩ := h
  intro k hk
  rcases (h4 k).1 hk with rfl | hk
  · exact h1.lt
  · exact h2.lt k hk
theorem Wld.own (h : Wld w b F s) : F b := by
  obtain ⟨v, _, _, h4⟩ := h
  exact (h4 b).2 (.inl rfl)
theorem Wld.keep (h : Wld w b F s) (hk : ∀ k, F k → w'.heap[k]? = w.heap[k]?) : Wld w' b F s := by
  obtain ⟨v, h1, h2, h4⟩ := h
  exact ⟨v, (hk b ((h4 b).2 (.inl rfl))).trans h1, h2.keep fun k hv => hk k ((h4 k).2 (.inr hv)), h4⟩
theorem Wld.alloc (h : Wld w b F s) (o : Obj) : Wld (w.alloc o) b F s := h.keep fun k hk => Below.heap_alloc w o k (h.lt k hk)
theorem Wld.drew (h : Wld w b F s) : Wld w.drew b F s := h
theorem Wld.drewN (h : Wld w b F s) (n : Nat) : Wld (w.drewN n) b F s := h
theorem Wld.set (h : Wld w b F s) {p : Addr} (hp : ¬ F p.block) (u : Value) : Wld (w.setCell p u) b F s := h.keep fun k hk => Below.heap_setCell w p u k (by rintro rfl; exact hp hk)
theorem Wld.fr (h : Wld w b F s) {G G' : Nat → Prop} (hf : Fr G w G' w') (hG : ∀ k, F k → ¬ G k) : Wld w' b F s := h.keep fun k hk => hf.block k (h.lt k hk) (hG k hk)
theorem Wld.num (h : Wld w b F s) : w.cell? ⟨b, 1, none⟩ = some (.int .i64 s.left) ∧ w.cell? ⟨b, 2, none⟩ = some (.int .i64 s.code) ∧ w.cell? ⟨b, 3, none⟩ = some (.int .i64 s.calls) ∧ w.frozen? ⟨b, 0, none⟩ = false ∧ w.frozen? ⟨b, 1, none⟩ = false ∧ w.frozen? ⟨b, 2, none⟩ = false ∧ w.frozen? ⟨b, 3, none⟩ = false := by
  obtain ⟨v, h1, _⟩ := h
  exact ⟨by rw [h1.cell]; rfl, by rw [h1.cell]; rfl, by rw [h1.cell]; rfl, h1.frozen 0, h1.frozen 1, h1.frozen 2, h1.frozen 3⟩
theorem Wld.ncalls (h : Wld w b F s) (n : Int) : Wld (w.setCell ⟨b, 3, none⟩ (.int .i64 n)) b F { s with calls := n } := by
  obtain ⟨v, k1, k2, h4⟩ := h
  exact ⟨v, k1.set_ 3 _, k2.set (k2.ne_ k1 (by decide)) _, h4⟩
theorem Wld.nleft (h : Wld w b F s) (n : Int) : Wld (w.setCell ⟨b, 1, none⟩ (.int .i64 n)) b F { s with left := n } := by
  obtain ⟨v, k1, k2, h4⟩ := h
  exact ⟨v, k1.set_ 1 _, k2.set (k2.ne_ k1 (by decide)) _, h4⟩
theorem Wld.ncode (h : Wld w b F s) (n : Int) : Wld (w.setCell ⟨b, 2, none⟩ (.int .i64 n)) b F { s with code := n } := by
  obtain ⟨v, k1, k2, h4⟩ := h
  exact ⟨v, k1.set_ 2 _, k2.set (k2.ne_ k1 (by decide)) _, h4⟩
/-- where the words lie -/
theorem Wld.words (h : Wld w b F s) : ∃ A cap, w.cell? ⟨b, 0, none⟩ = some (.slice A s.W.length cap) ∧ s.W.length ≤ cap ∧ Lies w (.slice A s.W.length cap) s.W ∧ ∀ i, i < s.W.length → ∃ g o, A = some ⟨g, o, none⟩ ∧ F g ∧ g ≠ b ∧ w.cell? ⟨g, o + i, none⟩ = some (.int .u64 (s.W.getD i 0)) ∧ w.frozen? ⟨g, o + i, none⟩ = false := by
  obtain ⟨v, h1, h2, h4⟩ := h
  obtain ⟨A, cap, rfl, hc⟩ := h2.shape
  refine ⟨A, cap, by rw [h1.cell]; rfl, hc, h2.lies, fun i hi => ?_⟩
  obtain ⟨g, o, rfl, _, c, z, _⟩ := h2.upd hi
  exact ⟨g, o, rfl, (h4 g).2 (.inr rfl), (by rintro rfl; exact h2.ne_ h1 (by decide) rfl), c, z⟩
/-- A word is set straight. -/
theorem Wld.word (h : Wld w b F s) {g o : Nat} {cap : Nat} (hg : w.cell? ⟨b, 0, none⟩ = some (.slice (some ⟨g, o, none⟩) s.W.length cap)) (i : Nat) (x : Int) (hi : i < s.W.length) : Wld (w.setCell ⟨g, o + i, none⟩ (.int .u64 x)) b F { s with W := s.W.set i x } := by
  obtain ⟨v, h1, h2, h4⟩ := h
  obtain rfl : v = .slice (some ⟨g, o, none⟩) s.W.length cap := by
    rw [h1.cell] at hg
    simpa using hg
  obtain ⟨g', o', e, _, _, _, hs⟩ := h2.upd hi
  obtain ⟨rfl, rfl⟩ : g = g' ∧ o = o' := by simpa using e
  refine ⟨.slice (some ⟨g, o, none⟩) s.W.length cap, h1.far (by rintro rfl; exact h2.ne_ h1 (by decide) rfl) _, ?_, h4⟩
  have := hs x
  simpa using this
theorem Wld.head_set (h : Wld w b F s) {v : Value} (hg : w.cell? ⟨b, 0, none⟩ = some v) {i : Nat} (hi : i = 1 ∨ i = 3) (u : Value) : (w.setCell ⟨b, i, none⟩ u).cell? ⟨b, 0, none⟩ = some v := by
  obtain ⟨v', h1, _⟩ := h
  rw [(h1.set_ i u).cell 0]
  rw [h1.cell] at hg
  rcases hi with rfl | rfl <;> exact hg
end
/-- What a call leaves behind at the document's world. -/
def LftW (b n : Nat) (F0 : Nat → Prop) (w0 : World) (s' : St) (w' : World) : Prop := Fits s' ∧ Bud s' n ∧ ∃ F', Wld w' b F' s' ∧ Fr F0 w0 F' w'

theorem wget_b {b n : Nat} {F F0 : Nat → Prop} {s : St} {a : Int} {w w0 : World} (hw : Wld w b F s) (hf : Fits s) (hb : Bud s (n + 1)) (ha : 0 ≤ a) (hm : Fr F0 w0 F w) :
    Calls Try.prog 37 #[.pointer (some ⟨b, 0, none⟩), .int .u64 a] w fun e w' =>
      ∃ x er s', Hid (sget s a = (x, er, s')) ∧ 0 ≤ x ∧ x ≤ 18446744073709551615 ∧ e = .returned (.tuple #[.int .u64 x, .int .i64 er]) ∧ LftW b n F0 w0 s' w' := by
  have hpf := Lib.hid (sget_fits hf a)
  have hpb := Lib.hid (sget_bud hb a)
  have hpw := Lib.hid (sget_word hf a)
  obtain ⟨A, cap, c0, hcap, _, hc⟩ := hw.words
  obtain ⟨c1, c2, c3, z0, z1, z2, z3⟩ := hw.num
  have hFb := hw.own
  have hl := hf.len
  have hbd : 0 ≤ s.calls ∧ s.calls ≤ 4611686018427387903 ∧ -4611686018427387903 ≤ s.left ∧ s.left ≤ 4611686018427387904 := by unfold Bud at hb; omega
  obtain ⟨q1, q2, q3, q4⟩ := hbd
  have w1 := hw.ncalls (s.calls + 1)
  have m1 := hm.set (p := ⟨b, 3, none⟩) (.inl hFb) (.int .i64 (s.calls + 1))
  by_cases h0 : s.left = 0
  · have hz : (s.left == 0) = true := by simpa using h0
    have hr := Lib.hid (show sget s a = (0, s.code, { s with calls := s.calls + 1 }) by simp [sget, h0])
    rw [hr.out] at hpf hpb hpw
    have w1 := Lib.hid w1
    have m1 := Lib.hid m1
    clear h0 hw hf hm hb hc
    go_enter Try.func37, Try.ntmps37
    go_wp2
    go_region
    all_goals go_wp2
    all_goals go_ret2
    all_goals exact ⟨_, _, _, hr, by omega, by omega, rfl, hpf.out, hpb.out, F, w1.out.drew, m1.out.drew⟩
  · have hz : (s.left == 0) = false := by simpa using h0
    have w2 := w1.nleft (s.left - 1)
    have m2 := m1.set (p := ⟨b, 1, none⟩) (.inl hFb) (.int .i64 (s.left - 1))
    by_cases h1 : (s.W.length : Int) ≤ a
    · have hr := Lib.hid (show sget s a = (0, 4, { s with calls := s.calls + 1, left := s.left - 1 }) by simp [sget, h0, h1])
      rw [hr.out] at hpf hpb hpw
      have w2 := Lib.hid w2
      have m2 := Lib.hid m2
      clear h0 hw hf hm hb hc w1 m1
      go_enter Try.func37, Try.ntmps37
      go_wp2
      go_ret2
      exact ⟨_, _, _, hr, by omega, by omega, rfl, hpf.out, hpb.out, F, w2.out, m2.out⟩
    · obtain ⟨g, o, rfl, _, _, hc, _⟩ := hc a.toNat (by omega)
      obtain ⟨x, hx⟩ : ∃ x, s.W.getD a.toNat 0 = x := ⟨_, rfl⟩
      rw [hx] at hc
      have hr := Lib.hid (show sget s a = (x, 0, { s with calls := s.calls + 1, left := s.left - 1 }) by rw [← hx]; simp [sget, h0, h1])
      rw [hr.out] at hpf hpb hpw
      have w2 := Lib.hid w2
      have m2 := Lib.hid m2
      have hcap' : (s.W.length : Int) ≤ cap := by omega
      clear h0 hw hf hm hb w1 m1 hx
      go_enter Try.func37, Try.ntmps37
      go_wp2
      go_ret2
      exact ⟨_, _, _, hr, hpw.out.1, hpw.out.2, rfl, hpf.out, hpb.out, F, w2.out, m2.out⟩

theorem wput_b {b n : Nat} {F F0 : Nat → Prop} {s : St} {a x : Int} {w w0 : World} (hw : Wld w b F s) (hf : Fits s) (hb : Bud s (n + 1)) (ha : 0 ≤ a) (hx : 0 ≤ x) (hx' : x ≤ 18446744073709551615) (hm : Fr F0 w0 F w) :
    Calls Try.prog 36 #[.pointer (some ⟨b, 0, none⟩), .int .u64 a, .int .u64 x] w fun e w' =>
      ∃ er s', Hid (sput s a x = (er, s')) ∧ e = .returned (.int .i64 er) ∧ LftW b n F0 w0 s' w' := by
  have hpf := Lib.hid (sput_fits hf a x ⟨hx, hx'⟩)
  have hpb := Lib.hid (sput_bud hb a x)
  obtain ⟨A, cap, c0, hcap, _, hc⟩ := hw.words
  obtain ⟨c1, c2, c3, z0, z1, z2, z3⟩ := hw.num
  have hFb := hw.own
  have hl := hf.len
  have hbd : 0 ≤ s.calls ∧ s.calls ≤ 4611686018427387903 ∧ -4611686018427387903 ≤ s.left ∧ s.left ≤ 4611686018427387904 := by unfold Bud at hb; omega
  obtain ⟨q1, q2, q3, q4⟩ := hbd
  have w1 := hw.ncalls (s.calls + 1)
  have m1 := hm.set (p := ⟨b, 3, none⟩) (.inl hFb) (.int .i64 (s.calls + 1))
  by_cases h0 : s.left = 0
  · have hz : (s.left == 0) = true := by simpa using h0
    have hr := Lib.hid (show sput s a x = (s.code, { s with calls := s.calls + 1 }) by simp [sput, h0])
    rw [hr.out] at hpf hpb
    have w1 := Lib.hid w1
    have m1 := Lib.hid m1
    clear h0 hw hf hm hb hc
    go_enter Try.func36, Try.ntmps36
    go_wp2
    go_ret
    exact ⟨_, _, hr, rfl, hpf.out, hpb.out, F, w1.out, m1.out⟩
  · have hz : (s.left == 0) = false := by simpa using h0
    have w2 := w1.nleft (s.left - 1)
    have m2 := m1.set (p := ⟨b, 1, none⟩) (.inl hFb) (.int .i64 (s.left - 1))
    by_cases h1 : (s.W.length : Int) ≤ a
    · have hr := Lib.hid (show sput s a x = (4, { s with calls := s.calls + 1, left := s.left - 1 }) by simp [sput, h0, h1])
      rw [hr.out] at hpf hpb
      have w2 := Lib.hid w2
      have m2 := Lib.hid m2
      clear h0 hw hf hm hb hc w1 m1
      go_enter Try.func36, Try.ntmps36
      go_wp2
      go_ret
      exact ⟨_, _, hr, rfl, hpf.out, hpb.out, F, w2.out, m2.out⟩
    · obtain ⟨g, o, rfl, hFg, hgb, hc, hz2⟩ := hc a.toNat (by omega)
      have hr := Lib.hid (show sput s a x = (0, { s with calls := s.calls + 1, left := s.left - 1, W := s.W.set a.toNat x }) by simp [sput, h0, h1])
      rw [hr.out] at hpf hpb
      have w3 := Lib.hid (w2.word (g := g) (o := o) (cap := cap) (w1.head_set (hw.head_set c0 (.inr rfl) _) (.inl rfl) _) a.toNat x (by simp; omega))
      have m3 := Lib.hid (m2.set (p := ⟨g, o + a.toNat, none⟩) (.inl hFg) (.int .u64 x))
      obtain ⟨y, hy⟩ : ∃ y, s.W.getD a.toNat 0 = y := ⟨_, rfl⟩
      rw [hy] at hc
      have hcap' : (s.W.length : Int) ≤ cap := by omega
      clear h0 hw hf hm hb w1 m1 w2 m2 hy
      go_enter Try.func36, Try.ntmps36
      go_wp2
      go_ret
      exact ⟨_, _, hr, rfl, hpf.out, hpb.out, F, w3.out, m3.out⟩

/-- The block t over the document's world; its blocks are those of F. -/
def Txw (w : World) (t : Nat) (F : Nat → Prop) (s : St) : Prop := ∃ b G, Blk w t 47 #[.pointer (some ⟨b, 0, none⟩)] ∧ Wld w b G s ∧ ∀ k, F k ↔ (k = t ∨ G k)
section
variable {w w' : World} {t : Nat} {F : Nat → Prop} {s : St}
theorem Txw.lt (h : Txw w t F s) : ∀ k, F k → k < w.heap.size := by
  obtain ⟨b, G, h1, h2, h4⟩ := h
  intro k hk
  rcases (h4 k).1 hk with rfl | hk
  · exact h1.lt
  · exact h2.lt k hk
theorem Txw.own (h : Txw w t F s) : F t := by
  obtain ⟨b, G, _, _, h4⟩ := h
  exact (h4 t).2 (.inl rfl)
theorem Txw.keep (h : Txw w t F s) (hk : ∀ k, F k → w'.heap[k]? = w.heap[k]?) : Txw w' t F s := by
  obtain ⟨b, G, h1, h2, h4⟩ := h
  exact ⟨b, G, (hk t ((h4 t).2 (.inl rfl))).trans h1, h2.keep fun k hg => hk k ((h4 k).2 (.inr hg)), h4⟩
theorem Txw.alloc (h : Txw w t F s) (o : Obj) : Txw (w.alloc o) t F s := h.keep fun k hk => Below.heap_alloc w o k (h.lt k hk)
theorem Txw.drew (h : Txw w t F s) : Txw w.drew t F s := h
theorem Txw.drewN (h : Txw w t F s) (n : Nat) : Txw (w.drewN n) t F s := h
theorem Txw.set (h : Txw w t F s) {p : Addr} (hp : ¬ F p.block) (u : Value) : Txw (w.setCell p u) t F s := h.keep fun k hk => Below.heap_setCell w p u k (by rintro rfl; exact hp hk)
theorem Txw.fr (h : Txw w t F s) {G G' : Nat → Prop} (hf : Fr G w G' w') (hG : ∀ k, F k → ¬ G k) : Txw w' t F s := h.keep fun k hk => hf.block k (h.lt k hk) (hG k hk)
theorem Txw.not_own {cs : Array Value} (h1 : Blk w t 47 cs) {b : Nat} {G : Nat → Prop} (h2 : Wld w b G s) : ¬ G t := by
  obtain ⟨v, k1, k2, h4⟩ := h2
  intro hk
  rcases (h4 t).1 hk with rfl | hk
  · exact Blk.ne_ h1 k1 (by decide) rfl
  · exact k2.ne_ h1 (by decide) hk
/-- The document's world has turned. -/
theorem Txw.step {b n : Nat} {G F0 : Nat → Prop} {s s' : St} {w0 w w' : World} (h1 : Blk w t 47 #[.pointer (some ⟨b, 0, none⟩)]) (h2 : Wld w b G s) (hm : Fr F0 w0 F w) (h4 : ∀ k, F k ↔ (k = t ∨ G k)) (hl : LftW b n G w s' w') :
    Fits s' ∧ Bud s' n ∧ ∃ F', Txw w' t F' s' ∧ Fr F0 w0 F' w' := by
  obtain ⟨f, bu, G', k1, k2⟩ := hl
  have hn := Txw.not_own h1 h2
  refine ⟨f, bu, fun k => k = t ∨ G' k, ⟨b, G', k2.blk h1 hn, k1, fun k => Iff.rfl⟩, ?_⟩
  refine hm.trans (Fr.into (k2.wide (G := F) fun k hk => (h4 k).2 (.inr hk)) fun k hk => ?_)
  rcases hk with rfl | hk
  · exact .inr (.inl ((h4 _).2 (.inl rfl)))
  · exact .inl hk
end

/-- What a call leaves behind. -/
def Lft (t n : Nat) (F0 : Nat → Prop) (w0 : World) (s' : St) (w' : World) : Prop := Fits s' ∧ Bud s' n ∧ ∃ F', Txw w' t F' s' ∧ Fr F0 w0 F' w'
theorem Lft.mono {t n m : Nat} {F0 : Nat → Prop} {w0 w' : World} {s' : St} (h : Lft t n F0 w0 s' w') (hm : m ≤ n) : Lft t m F0 w0 s' w' := ⟨h.1, h.2.1.mono hm, h.2.2⟩
theorem Lft.drewN {t n : Nat} {F0 : Nat → Prop} {w0 w' : World} {s' : St} (h : Lft t n F0 w0 s' w') (m : Nat) : Lft t n F0 w0 s' (w'.drewN m) := let ⟨a, b, F', c, d⟩ := h; ⟨a, b, F', c.drewN m, d.drewN m⟩

theorem tget_b {t n : Nat} {F F0 : Nat → Prop} {s : St} {a : Int} {w w0 : World} (hw : Txw w t F s) (hf : Fits s) (hb : Bud s (n + 1)) (ha : 0 ≤ a) (hm : Fr F0 w0 F w) :
    Calls Try.prog 13 #[.pointer (some ⟨t, 0, none⟩), .int .u64 a] w fun e w' =>
      ∃ x er s', Hid (sget s a = (x, er, s')) ∧ 0 ≤ x ∧ x ≤ 18446744073709551615 ∧ e = .returned (.tuple #[.int .u64 x, .int .i64 er]) ∧ Lft t n F0 w0 s' w' := by
  obtain ⟨b, G, h1, h2, h4⟩ := hw
  have c0 := h1.cell 0
  simp only [List.getElem?_toArray, List.getElem?_cons_zero] at c0
  have K := Lib.hid fun s' w' (hl : LftW b n G w s' w') => Txw.step h1 h2 hm h4 hl
  go_enter Try.func13, Try.ntmps13
  go_wp2_with fail
  refine (wget_b h2 hf hb ha (Fr.refl _ _)).mono ?_
  rintro e w' ⟨x, er, s', q, dx, dx', rfl, hl⟩
  have hl := Lib.hid hl
  clear h1 h2 hm h4 hf hb
  go_wp2_with fail
  go_ret2
  exact ⟨x, er, s', q, dx, dx', rfl, K.out _ _ hl.out⟩

theorem tput_b {t n : Nat} {F F0 : Nat → Prop} {s : St} {a x : Int} {w w0 : World} (hw : Txw w t F s) (hf : Fits s) (hb : Bud s (n + 1)) (ha : 0 ≤ a) (hx : 0 ≤ x) (hx' : x ≤ 18446744073709551615) (hm : Fr F0 w0 F w) :
    Calls Try.prog 11 #[.pointer (some ⟨t, 0, none⟩), .int .u64 a, .int .u64 x] w fun e w' =>
      ∃ er s', Hid (sput s a x = (er, s')) ∧ e = .returned (.int .i64 er) ∧ Lft t n F0 w0 s' w' := by
  obtain ⟨b, G, h1, h2, h4⟩ := hw
  have c0 := h1.cell 0
  simp only [List.getElem?_toArray, List.getElem?_cons_zero] at c0
  have K := Lib.hid fun s' w' (hl : LftW b n G w s' w') => Txw.step h1 h2 hm h4 hl
  go_enter Try.func11, Try.ntmps11
  go_wp2_with fail
  refine (wput_b h2 hf hb ha hx hx' (Fr.refl _ _)).mono ?_
  rintro e w' ⟨er, s', q, rfl, hl⟩
  have hl := Lib.hid hl
  clear h1 h2 hm h4 hf hb
  go_wp2_with fail
  go_ret
  exact ⟨er, s', q, rfl, K.out _ _ hl.out⟩

@[go_sem] theorem method_get (t : Nat) (w : World) : (method 210 26 (.pointer (some ⟨t, 0, none⟩)) "Get").run Try.prog w = .ok (13, .pointer (some ⟨t, 0, none⟩)) w := by kernel_rfl
@[go_sem] theorem method_put (t : Nat) (w : World) : (method 210 26 (.pointer (some ⟨t, 0, none⟩)) "Put").run Try.prog w = .ok (11, .pointer (some ⟨t, 0, none⟩)) w := by kernel_rfl
theorem uw_bd (x : Int) : 0 ≤ IntKind.u64.wrap x ∧ IntKind.u64.wrap x ≤ 18446744073709551615 := by rw [wrap_u64_mod]; omega
end Go.Proofs.Ytcgdpclhlepofaa
/- The program's room by its contracts: each call is the plain function of the words. -/
namespace Go.Proofs.Ytcgdpclhlepofaa
open Go.RowKit
set_option maxHeartbeats 2000000
set_option linter.unusedVariables false

theorem fits_no (t : Nat) (z : Int) (hz : z < 1 ∨ 16 < z) (w : World) :
    Calls Try.prog 45 #[.iface 26 (.pointer (some ⟨t, 0, none⟩)), .int .u64 z] w fun e w' => e = .returned (.int .i64 2) ∧ w = w' := by
  rcases hz with hz | hz
  all_goals
    go_enter Try.func45, Try.ntmps45
    go_wp2
    go_ret
    exact ⟨rfl, rfl⟩
theorem fits_ok (t : Nat) (z : Int) (h1 : 1 ≤ z) (h2 : z ≤ 16) (w : World) :
    Calls Try.prog 45 #[.iface 26 (.pointer (some ⟨t, 0, none⟩)), .int .u64 z] w fun e w' => e = .returned (.int .i64 0) ∧ w = w' := by
  go_enter Try.func45, Try.ntmps45
  go_wp2
  go_ret
  exact ⟨rfl, rfl⟩

theorem take_b {t n : Nat} {F F0 : Nat → Prop} {s : St} {a z : Int} {w w0 : World} (hw : Txw w t F s) (hf : Fits s) (hb : Bud s (n + 4)) (ha : 0 ≤ a) (hz : 0 ≤ z) (hm : Fr F0 w0 F w) :
    Calls Try.prog 41 #[.iface 26 (.pointer (some ⟨t, 0, none⟩)), .int .u64 a, .int .u64 z] w fun e w' =>
      ∃ x er s', Hid (rTake s a z = (x, er, s')) ∧ 0 ≤ x ∧ x ≤ 18446744073709551615 ∧ e = .returned (.tuple #[.int .u64 x, .int .i64 er]) ∧ Lft t n F0 w0 s' w' := by
  by_cases hzz : z < 1 ∨ 16 < z
  · go_enter Try.func41, Try.ntmps41
    go_wp2_with (go_at_call 45; refine (fits_no _ _ (by assumption) _).mono ?_; rintro e w' ⟨rfl, rfl⟩)
    go_ret2
    refine ⟨_, _, _, ?_, ?_, ?_, rfl, ?_, ?_, _, by assumption, by assumption⟩
    all_goals first | assumption | (show (_ : Int) ≤ _; omega) | exact (uw_bd _).1 | exact (uw_bd _).2 | exact Bud.mono (by assumption) (by omega) | skip
    unfold Hid; unfold rTake; rw [if_pos hzz]
  · obtain ⟨z1, z2⟩ : 1 ≤ z ∧ z ≤ 16 := by omega
    clear hzz
    go_enter Try.func41, Try.ntmps41
    go_wp2_with (first | (go_at_call 13; refine (tget_b (by assumption) (by assumption) (by assumption) (by first | omega | exact (uw_bd _).1) (by assumption)).mono ?_; rintro e w' ⟨x, er, s', q, dx, dx', rfl, f', b', F', hw', hm'⟩) | (go_at_call 11; refine (tput_b (by assumption) (by assumption) (by assumption) (by first | omega | exact (uw_bd _).1) (by first | omega | exact (uw_bd _).1) (by first | omega | exact (uw_bd _).2) (by assumption)).mono ?_; rintro e w' ⟨er, s', q, rfl, f', b', F', hw', hm'⟩) | (go_at_call 45; refine (fits_ok _ _ (by assumption) (by assumption) _).mono ?_; rintro e w' ⟨rfl, rfl⟩) | go_in)
    all_goals first | go_ret2 | (go_ret3; go_wp2_with (first | (go_at_call 13; refine (tget_b (by assumption) (by assumption) (by assumption) (by first | omega | exact (uw_bd _).1) (by assumption)).mono ?_; rintro e w' ⟨x, er, s', q, dx, dx', rfl, f', b', F', hw', hm'⟩) | (go_at_call 11; refine (tput_b (by assumption) (by assumption) (by assumption) (by first | omega | exact (uw_bd _).1) (by first | omega | exact (uw_bd _).1) (by first | omega | exact (uw_bd _).2) (by assumption)).mono ?_; rintro e w' ⟨er, s', q, rfl, f', b', F', hw', hm'⟩)); all_goals go_ret2)
    all_goals refine ⟨_, _, _, ?_, ?_, ?_, rfl, ?_, ?_, _, by assumption, by assumption⟩
    all_goals first | assumption | (show (_ : Int) ≤ _; omega) | exact (uw_bd _).1 | exact (uw_bd _).2 | exact Bud.mono (by assumption) (by omega) | skip
    all_goals (unfold Hid at *; unfold rTake; rw [if_neg (by omega)])
    all_goals (try simp [uAdd, *])
    all_goals (first | omega | simp_all)

theorem give_b {t n : Nat} {F F0 : Nat → Prop} {s : St} {a p z : Int} {w w0 : World} (hw : Txw w t F s) (hf : Fits s) (hb : Bud s (n + 3)) (ha : 0 ≤ a) (hp : 0 ≤ p) (hp' : p ≤ 18446744073709551615) (hz : 0 ≤ z) (hm : Fr F0 w0 F w) :
    Calls Try.prog 39 #[.iface 26 (.pointer (some ⟨t, 0, none⟩)), .int .u64 a, .int .u64 p, .int .u64 z] w fun e w' =>
      ∃ er s', Hid (rGive s a p z = (er, s')) ∧ e = .returned (.int .i64 er) ∧ Lft t n F0 w0 s' w' := by
  by_cases hzz : z < 1 ∨ 16 < z
  · go_enter Try.func39, Try.ntmps39
    go_wp2_with (go_at_call 45; refine (fits_no _ _ (by assumption) _).mono ?_; rintro e w' ⟨rfl, rfl⟩)
    go_ret
    refine ⟨_, _, ?_, rfl, ?_, ?_, _, by assumption, by assumption⟩
    all_goals first | assumption | (show (_ : Int) ≤ _; omega) | exact (uw_bd _).1 | exact (uw_bd _).2 | exact Bud.mono (by assumption) (by omega) | skip
    unfold Hid; unfold rGive; rw [if_pos hzz]
  · obtain ⟨z1, z2⟩ : 1 ≤ z ∧ z ≤ 16 := by omega
    clear hzz
    go_enter Try.func39, Try.ntmps39
    go_wp2_with (first | (go_at_call 13; refine (tget_b (by assumption) (by assumption) (by assumption) (by first | omega | exact (uw_bd _).1) (by assumption)).mono ?_; rintro e w' ⟨x, er, s', q, dx, dx', rfl, f', b', F', hw', hm'⟩) | (go_at_call 11; refine (tput_b (by assumption) (by assumption) (by assumption) (by first | omega | exact (uw_bd _).1) (by first | omega | exact (uw_bd _).1) (by first | omega | exact (uw_bd _).2) (by assumption)).mono ?_; rintro e w' ⟨er, s', q, rfl, f', b', F', hw', hm'⟩) | (go_at_call 45; refine (fits_ok _ _ (by assumption) (by assumption) _).mono ?_; rintro e w' ⟨rfl, rfl⟩))
    all_goals go_ret
    all_goals refine ⟨_, _, ?_, rfl, ?_, ?_, _, by assumption, by assumption⟩
    all_goals first | assumption | (show (_ : Int) ≤ _; omega) | exact (uw_bd _).1 | exact (uw_bd _).2 | exact Bud.mono (by assumption) (by omega) | skip
    all_goals (unfold Hid at *; unfold rGive; rw [if_neg (by omega)])
    all_goals (try simp [uAdd, *])
    all_goals (first | omega | simp_all)
end Go.Proofs.Ytcgdpclhlepofaa
/- The queue's block, whose first refusal is kept: its get and put by contract. -/
namespace Go.Proofs.Ytcgdpclhlepofaa
open Go.RowKit
set_option maxHeartbeats 2000000
set_option linter.unusedVariables false
set_option linter.unusedSimpArgs false

theorem Fr.not_in {F F' : Nat → Prop} {w w' : World} {k : Nat} (h : Fr F w F' w') (hk : k < w.heap.size) (hn : ¬ F k) : ¬ F' k := fun hf => (h.new k hf).elim hn fun h1 => by omega
theorem bget_bd {e : Int} {s : St} (h : Fits s) (a : Int) : 0 ≤ (bget e s a).1 ∧ (bget e s a).1 ≤ 18446744073709551615 := by
  unfold bget
  split
  · exact sget_word h a
  · simp

/-- A block lies at bb: over the tx, with what was refused. -/
structure Qb (w : World) (t bb : Nat) (F : Nat → Prop) (s : St) (e : Int) : Prop where
  tx : Txw w t F s
  blk : Blk w bb 74 #[.iface 26 (.pointer (some ⟨t, 0, none⟩)), .int .i64 e]
  nin : ¬ F bb
section
variable {w w' : World} {t bb : Nat} {F F' : Nat → Prop} {s s' : St} {e : Int}
theorem Qb.step (h : Qb w t bb F s e) (hw : Txw w' t F' s') (hf : Fr F w F' w') : Qb w' t bb F' s' e := ⟨hw, hf.blk h.blk h.nin, hf.not_in h.blk.lt h.nin⟩
theorem Qb.err (h : Qb w t bb F s e) (e' : Int) : Qb (w.setCell ⟨bb, 1, none⟩ (.int .i64 e')) t bb F s e' := ⟨h.tx.set h.nin _, by simpa using h.blk.set_ 1 (.int .i64 e'), h.nin⟩
theorem Qb.cell (h : Qb w t bb F s e) : w.cell? ⟨bb, 1, none⟩ = some (.int .i64 e) := by rw [h.blk.cell]; rfl
theorem Qb.drewN (h : Qb w t bb F s e) (n : Nat) : Qb (w.drewN n) t bb F s e := ⟨h.tx, h.blk, h.nin⟩
theorem Qb.new (h : Txw w t F s) (e : Int) : Qb (w.alloc (.cells #[.iface 26 (.pointer (some ⟨t, 0, none⟩)), .int .i64 e] 74)) t w.heap.size F s e := ⟨h.alloc _, Blk.new _ _ _, fun hk => by have := h.lt _ hk; omega⟩
theorem Qb.fr {G G' : Nat → Prop} (h : Qb w t bb F s e) (hf : Fr G w G' w') (hG : ∀ k, F k → ¬ G k) (hb : ¬ G bb) : Qb w' t bb F s e := ⟨h.tx.fr hf hG, hf.blk h.blk hb, h.nin⟩
end
def LftB (t bb n : Nat) (F0 : Nat → Prop) (w0 : World) (s' : St) (e' : Int) (w' : World) : Prop := Fits s' ∧ Bud s' n ∧ ∃ F', Qb w' t bb F' s' e' ∧ Fr F0 w0 F' w'

theorem qget_b {t bb n : Nat} {F F0 : Nat → Prop} {s : St} {a e : Int} {w w0 : World} (h : Qb w t bb F s e) (hf : Fits s) (hb : Bud s (n + 1)) (ha : 0 ≤ a) (hm : Fr F0 w0 F w) (hE : F0 bb ∨ w0.heap.size ≤ bb) :
    Calls Try.prog 43 #[.pointer (some ⟨bb, 0, none⟩), .int .u64 a] w fun en w' => ∃ x e' s', Hid (bget e s a = (x, e', s')) ∧ 0 ≤ x ∧ x ≤ 18446744073709551615 ∧ en = .returned (.int .u64 x) ∧ LftB t bb n F0 w0 s' e' w' := by
  have d0 := h.blk.cell 0
  have d1 := h.blk.cell 1
  have z1 := h.blk.frozen 1
  simp only [List.getElem?_toArray, List.getElem?_cons_zero, List.getElem?_cons_succ] at d0 d1
  by_cases he : e = 0
  · subst he
    go_enter Try.func43, Try.ntmps43
    go_wp2_with fail
    refine (tget_b h.tx hf hb ha (Fr.refl _ _)).mono ?_
    rintro _ w1 ⟨x, er, s1, q, dx, dx', rfl, f1, b1, F1, hw1, hm1⟩
    have h1 := h.step hw1 hm1
    have d2 := h1.blk.cell 1
    have z2 := h1.blk.frozen 1
    simp only [List.getElem?_toArray, List.getElem?_cons_zero, List.getElem?_cons_succ] at d2
    have h2 := Lib.hid (h1.err er)
    have hm2 := Lib.hid ((hm.trans hm1).set (p := ⟨bb, 1, none⟩) (.inr hE) (.int .i64 er))
    have hq : Hid (bget 0 s a = (x, er, s1)) := Lib.hid (by unfold bget; rw [if_pos (by decide)]; exact q.out)
    clear h hm h1 hm1 hw1 d0 d1 z1 q
    go_wp2
    go_ret
    exact ⟨x, er, s1, hq, dx, dx', rfl, f1, b1, F1, h2.out, hm2.out⟩
  · have hz : (e != 0) = true := by simpa using he
    have hq : Hid (bget e s a = (0, e, s)) := Lib.hid (by unfold bget; rw [if_neg (by simp [hz])])
    have h2 := Lib.hid h
    have hm2 := Lib.hid hm
    clear h hm he
    go_enter Try.func43, Try.ntmps43
    go_wp2
    go_ret
    exact ⟨0, e, s, hq, by omega, by omega, rfl, hf, hb.mono (by omega), F, h2.out, hm2.out⟩

theorem qput_b {t bb n : Nat} {F F0 : Nat → Prop} {s : St} {a x e : Int} {w w0 : World} (h : Qb w t bb F s e) (hf : Fits s) (hb : Bud s (n + 1)) (ha : 0 ≤ a) (hx : 0 ≤ x) (hx' : x ≤ 18446744073709551615) (hm : Fr F0 w0 F w) (hE : F0 bb ∨ w0.heap.size ≤ bb) :
    Calls Try.prog 42 #[.pointer (some ⟨bb, 0, none⟩), .int .u64 a, .int .u64 x] w fun en w' => ∃ e' s', Hid (bput e s a x = (e', s')) ∧ en = .returned (.tuple #[]) ∧ LftB t bb n F0 w0 s' e' w' := by
  have d0 := h.blk.cell 0
  have d1 := h.blk.cell 1
  have z1 := h.blk.frozen 1
  simp only [List.getElem?_toArray, List.getElem?_cons_zero, List.getElem?_cons_succ] at d0 d1
  by_cases he : e = 0
  · subst he
    go_enter Try.func42, Try.ntmps42
    go_wp2_with fail
    refine (tput_b h.tx hf hb ha hx hx' (Fr.refl _ _)).mono ?_
    rintro _ w1 ⟨er, s1, q, rfl, f1, b1, F1, hw1, hm1⟩
    have h1 := h.step hw1 hm1
    have d2 := h1.blk.cell 1
    have z2 := h1.blk.frozen 1
    simp only [List.getElem?_toArray, List.getElem?_cons_zero, List.getElem?_cons_succ] at d2
    have h2 := Lib.hid (h1.err er)
    have hm2 := Lib.hid ((hm.trans hm1).set (p := ⟨bb, 1, none⟩) (.inr hE) (.int .i64 er))
    have hq : Hid (bput 0 s a x = (er, s1)) := Lib.hid (by unfold bput; rw [if_pos (by decide)]; exact q.out)
    clear h hm h1 hm1 hw1 d0 d1 z1 q
    go_wp2
    go_end0
    exact ⟨er, s1, hq, rfl, f1, b1, F1, h2.out, hm2.out⟩
  · have hz : (e == 0) = false := by simpa using he
    have hq : Hid (bput e s a x = (e, s)) := Lib.hid (by unfold bput; rw [if_neg (by simp [hz])])
    have h2 := Lib.hid h
    have hm2 := Lib.hid hm
    clear h hm he
    go_enter Try.func42, Try.ntmps42
    go_wp2
    go_end0
    exact ⟨e, s, hq, rfl, hf, hb.mono (by omega), F, h2.out, hm2.out⟩
end Go.Proofs.Ytcgdpclhlepofaa
/- The queue by its contracts: made, a word put in, taken out, looked at. -/
namespace Go.Proofs.Ytcgdpclhlepofaa
open Go.RowKit
set_option maxHeartbeats 4000000
set_option linter.unusedVariables false
set_option linter.unusedSimpArgs false

theorem quput_b {t n : Nat} {F F0 : Nat → Prop} {s : St} {a p x : Int} {w w0 : World} (hw : Txw w t F s) (hf : Fits s) (hb : Bud s (n + 11)) (ha : 0 ≤ a) (hp : 0 ≤ p) (hp' : p ≤ 18446744073709551615) (hx : 0 ≤ x) (hx' : x ≤ 18446744073709551615) (hm : Fr F0 w0 F w) :
    Calls Try.prog 19 #[.iface 26 (.pointer (some ⟨t, 0, none⟩)), .int .u64 a, .int .u64 p, .int .u64 x] w fun e w' => ∃ er s', Hid (qPut s a p x = (er, s')) ∧ e = .returned (.int .i64 er) ∧ Lft t n F0 w0 s' w' := by
  go_enter Try.func19, Try.ntmps19
  go_wp2_with fail
  refine (take_b (n := n + 7) hw hf (hb.mono (by omega)) ha (by omega) hm).mono ?_
  rintro e w1 ⟨y, e1, s1, q1, dy, dy', rfl, f1, b1, F1, hw1, hm1⟩
  have hQ := Qb.new hw1 e1
  have hmQ := hm1.alloc (.cells #[.iface 26 (.pointer (some ⟨t, 0, none⟩)), .int .i64 e1] 74)
  have hE : w0.heap.size ≤ w1.heap.size := hm1.size
  have dE := hQ.cell
  have K1 := Lib.hid q1.out
  clear hw hm hf hb q1 hw1 hm1
  go_wp2_with fail
  generalize w1.alloc (.cells #[.iface 26 (.pointer (some ⟨t, 0, none⟩)), .int .i64 e1] 74) = w2 at *
  generalize w1.heap.size = bb at *
  go_wp2_with (first | (go_at_call 43; refine (qget_b (by assumption) (by assumption) (by assumption) (by first | omega | exact (uw_bd _).1) (by assumption) (.inr (by assumption))).mono ?_; rintro _ w' ⟨x', e', s', q', dx, dx', rfl, f', b', F', hQ', hm'⟩; have dE' := hQ'.cell) | (go_at_call 42; refine (qput_b (by assumption) (by assumption) (by assumption) (by first | omega | exact (uw_bd _).1) (by first | omega | exact (uw_bd _).1) (by first | omega | exact (uw_bd _).2) (by assumption) (.inr (by assumption))).mono ?_; rintro _ w' ⟨e', s', q', rfl, f', b', F', hQ', hm'⟩; have dE' := hQ'.cell))
  all_goals go_ret
  all_goals refine ⟨_, _, ?_, rfl, ?_, ?_, _, Qb.tx (by assumption), by assumption⟩
  all_goals first | assumption | exact Qb.tx (by assumption) | (show (_ : Int) ≤ _; omega) | exact (uw_bd _).1 | exact (uw_bd _).2 | exact Bud.mono (by assumption) (by omega) | skip
  all_goals (unfold Hid at *; unfold qPut)
  all_goals (simp only [uAdd, *])
  all_goals (try simp [*])

theorem qLayGo_step (q : Int) (n : Nat) (k e : Int) (s : St) {e1 : Int} {s1 : St} (h : bput e s (uAdd q k) 0 = (e1, s1)) : qLayGo q (n + 1) k e s = qLayGo q n (k + 1) e1 s1 := by rw [qLayGo, h]
theorem qunew_b {t n : Nat} {F F0 : Nat → Prop} {s : St} {a : Int} {w w0 : World} (hw : Txw w t F s) (hf : Fits s) (hb : Bud s (n + 7)) (ha : 0 ≤ a) (hm : Fr F0 w0 F w) :
    Calls Try.prog 31 #[.iface 26 (.pointer (some ⟨t, 0, none⟩)), .int .u64 a] w fun e w' => ∃ x er s', Hid (qNew s a = (x, er, s')) ∧ 0 ≤ x ∧ x ≤ 18446744073709551615 ∧ e = .returned (.tuple #[.int .u64 x, .int .i64 er]) ∧ Lft t n F0 w0 s' w' := by
  go_enter Try.func31, Try.ntmps31
  go_wp2_with fail
  refine (take_b (n := n + 3) hw hf (hb.mono (by omega)) ha (by omega) hm).mono ?_
  rintro e w1 ⟨y, e1, s1, q1, dy, dy', rfl, f1, b1, F1, hw1, hm1⟩
  have hQ := Qb.new hw1 e1
  have hmQ := hm1.alloc (.cells #[.iface 26 (.pointer (some ⟨t, 0, none⟩)), .int .i64 e1] 74)
  have hE : w0.heap.size ≤ w1.heap.size := hm1.size
  have hL : Hid (qNew s a = match qLayGo y 3 0 e1 s1 with | (e3, s3) => if (e3 != 0) = false then (y, 0, s3) else (0, e3, s3)) := Lib.hid (by unfold qNew; rw [q1.out])
  clear hw hm hf hb q1 hw1 hm1
  go_wp2_with fail
  generalize w1.alloc (.cells #[.iface 26 (.pointer (some ⟨t, 0, none⟩)), .int .i64 e1] 74) = w2 at *
  generalize w1.heap.size = bb at *
  go_loopg [20] 3 (fun gk c20 wr => ∃ (k : Nat) (e2 : Int) (s2 : St) (F2 : Nat → Prop), gk + k = 3 ∧ c20 = .int .u64 (k : Int) ∧ Hid (qLayGo y 3 0 e1 s1 = qLayGo y gk k e2 s2) ∧ Fits s2 ∧ Bud s2 (n + gk) ∧ Qb wr t bb F2 s2 e2 ∧ Fr F0 w0 F2 wr)
  case atStart => exact ⟨0, e1, s1, F1, rfl, rfl, Lib.hid rfl, f1, b1, hQ, hmQ⟩
  case round =>
    obtain ⟨k, e2, s2, F2, hk, rfl, hL1, hf1, hb1, hQ1, hm1⟩ := hrel
    clear hQ hmQ b1 f1
    by_cases hlt : k < 3
    · obtain ⟨m, rfl⟩ : ∃ m, gk = m + 1 := ⟨gk - 1, by omega⟩
      have hb1 : Bud s2 ((n + m) + 1) := hb1
      have hk' := Lib.hid hk
      clear hk
      have hku : (k : Int) < 3 := by omega
      go_wp2_with (first | (go_at_call 43; refine (qget_b (by assumption) (by assumption) (by assumption) (by first | omega | exact (uw_bd _).1) (by assumption) (.inr (by assumption))).mono ?_; rintro _ w' ⟨x', e', s', q', dx, dx', rfl, f', b', F', hQ', hm'⟩; have dE' := hQ'.cell) | (go_at_call 42; refine (qput_b (by assumption) (by assumption) (by assumption) (by first | omega | exact (uw_bd _).1) (by first | omega | exact (uw_bd _).1) (by first | omega | exact (uw_bd _).2) (by assumption) (.inr (by assumption))).mono ?_; rintro _ w' ⟨e', s', q', rfl, f', b', F', hQ', hm'⟩; have dE' := hQ'.cell))
      go_roundg m
      case measure => omega
      case rel => exact ⟨k + 1, _, _, _, by have := hk'.out; omega, by go_num, Lib.hid (hL1.out.trans (qLayGo_step _ _ _ _ _ q'.out)), by assumption, by assumption, by assumption, by assumption⟩
    · obtain rfl : k = 3 := by omega
      obtain rfl : gk = 0 := by omega
      have hc := hQ1.cell
      have hq : Hid (qNew s a = if (e2 != 0) = false then (y, 0, s2) else (0, e2, s2)) := Lib.hid (by rw [hL.out, hL1.out]; rfl)
      have hT := Lib.hid hQ1.tx
      have hM := Lib.hid hm1
      clear hQ1 hm1 hk
      by_cases he : e2 = 0
      · subst he
        go_wp2
        go_ret2
        exact ⟨y, 0, s2, hq, dy, dy', rfl, hf1, hb1, F2, hT.out, hM.out⟩
      · have hz : (e2 != 0) = true := by simpa using he
        have hq' : Hid (qNew s a = (0, e2, s2)) := Lib.hid (by rw [hq.out, if_neg (by simp [hz])])
        clear he
        go_wp2
        go_quiet (fail)
        go_wp2
        go_ret2
        exact ⟨0, e2, s2, hq', by omega, by omega, rfl, hf1, hb1, F2, hT.out.drewN _, hM.out.drewN _⟩

theorem qulen_b {t n : Nat} {F F0 : Nat → Prop} {s : St} {p : Int} {w w0 : World} (hw : Txw w t F s) (hf : Fits s) (hb : Bud s (n + 1)) (hp : 0 ≤ p) (hp' : p ≤ 18446744073709551615) (hm : Fr F0 w0 F w) :
    Calls Try.prog 26 #[.iface 26 (.pointer (some ⟨t, 0, none⟩)), .int .u64 p] w fun e w' => ∃ x er s', Hid (qLen s p = (x, er, s')) ∧ 0 ≤ x ∧ x ≤ 18446744073709551615 ∧ e = .returned (.tuple #[.int .u64 x, .int .i64 er]) ∧ Lft t n F0 w0 s' w' := by
  go_enter Try.func26, Try.ntmps26
  go_wp2_with fail
  refine (tget_b hw hf hb (uw_bd _).1 hm).mono ?_
  rintro e w' ⟨x, er, s', q, dx, dx', rfl, f', b', F', hw', hm'⟩
  clear hw hm
  go_wp2
  go_ret2
  exact ⟨x, er, s', q, dx, dx', rfl, f', b', F', hw', hm'⟩

theorem qutake_b {t n : Nat} {F F0 : Nat → Prop} {s : St} {a p : Int} {w w0 : World} (hw : Txw w t F s) (hf : Fits s) (hb : Bud s (n + 10)) (ha : 0 ≤ a) (hp : 0 ≤ p) (hp' : p ≤ 18446744073709551615) (hm : Fr F0 w0 F w) :
    Calls Try.prog 23 #[.iface 26 (.pointer (some ⟨t, 0, none⟩)), .int .u64 a, .int .u64 p] w fun e w' => ∃ x bo er s', Hid (qTake s a p = (x, bo, er, s')) ∧ 0 ≤ x ∧ x ≤ 18446744073709551615 ∧ e = .returned (.tuple #[.int .u64 x, .bool bo, .int .i64 er]) ∧ Lft t n F0 w0 s' w' := by
  go_enter Try.func23, Try.ntmps23
  have hQ := Qb.new hw 0
  have hmQ := hm.alloc (.cells #[.iface 26 (.pointer (some ⟨t, 0, none⟩)), .int .i64 0] 74)
  have hE : w0.heap.size ≤ w.heap.size := hm.size
  clear hw hm
  go_wp2_with fail
  generalize w.alloc (.cells #[.iface 26 (.pointer (some ⟨t, 0, none⟩)), .int .i64 0] 74) = w2 at *
  generalize w.heap.size = bb at *
  have hb : Bud s ((n + 9) + 1) := hb
  refine (qget_b hQ hf hb hp hmQ (.inr hE)).mono ?_
  rintro _ w1 ⟨x1, e1, s1, q1, dx, dx', rfl, f1, b1, F1, hQ1, hm1⟩
  have dE := hQ1.cell
  clear hQ hmQ hf hb
  by_cases he : e1 = 0
  case neg =>
    have hz : (e1 != 0) = true := by simpa using he
    have hq : Hid (qTake s a p = (0, false, e1, s1)) := Lib.hid (by unfold qTake; rw [q1.out]; simp only; rw [if_pos (.inl hz)])
    have hT := Lib.hid hQ1.tx
    have hM := Lib.hid hm1
    clear he hQ1 hm1 q1
    go_wp2
    go_quiet (fail)
    go_wp2
    go_ret3
    exact ⟨0, false, e1, s1, hq, by omega, by omega, rfl, f1, b1.mono (by omega), F1, hT.out.drewN _, hM.out.drewN _⟩
  subst he
  by_cases h0 : x1 = 0
  · have hz : (x1 == 0) = true := by simpa using h0
    have hq : Hid (qTake s a p = (0, false, 0, s1)) := Lib.hid (by unfold qTake; rw [q1.out]; simp only; rw [if_pos (.inr hz)])
    have hT := Lib.hid hQ1.tx
    have hM := Lib.hid hm1
    clear h0 hQ1 hm1 q1
    go_wp2
    go_quiet (fail)
    go_wp2
    go_ret3
    exact ⟨0, false, 0, s1, hq, by omega, by omega, rfl, f1, b1.mono (by omega), F1, hT.out.drewN _, hM.out.drewN _⟩
  have hz : (x1 == 0) = false := by simpa using h0
  have hq : Hid (qTake s a p = match bget 0 s1 (IntKind.u64.wrap (x1 - 1)) with
    | (x, e1, s1) => match bget e1 s1 (uAdd (IntKind.u64.wrap (x1 - 1)) 1) with
    | (bh, e2, s2) => match bput e2 s2 p bh with
    | (e3, s3) => match (if (bh == 0) = true then bput e3 s3 (uAdd p 1) 0 else (e3, s3)) with
    | (e4, s4) => match bget e4 s4 (uAdd p 2) with
    | (c, e5, s5) => match bput e5 s5 (uAdd p 2) (IntKind.u64.wrap (c - 1)) with
    | (e6, s6) => match (if (e6 == 0) = true then rGive s6 a (IntKind.u64.wrap (x1 - 1)) 2 else (e6, s6)) with
    | (e7, s7) => if (e7 != 0) = true then (0, false, e7, s7) else (x, true, 0, s7)) := Lib.hid (by unfold qTake; rw [q1.out]; simp only; rw [if_neg (by simp [hz])])
  clear h0 q1
  have ux := uw_bd (x1 - 1)
  obtain ⟨ux1, ux2⟩ := ux
  go_wp2_with fail
  obtain ⟨nn, hnn⟩ : ∃ nn, IntKind.u64.wrap (x1 - 1) = nn := ⟨_, rfl⟩
  rw [hnn] at hq ux1 ux2 ⊢
  clear hnn
  refine (qget_b hQ1 f1 b1 ux1 hm1 (.inr hE)).mono ?_
  rintro _ w3 ⟨x3, e3, s3, q3, dx3, dx3', rfl, f3, b3, F3, hQ3, hm3⟩
  have dE3 := hQ3.cell
  clear hQ1 hm1 dE f1 b1
  go_wp2_with fail
  refine (qget_b hQ3 f3 b3 (uw_bd _).1 hm3 (.inr hE)).mono ?_
  rintro _ w4 ⟨x4, e4, s4, q4, dx4, dx4', rfl, f4, b4, F4, hQ4, hm4⟩
  have dE4 := hQ4.cell
  clear hQ3 hm3 dE3 f3 b3
  go_wp2_with fail
  refine (qput_b hQ4 f4 b4 hp dx4 dx4' hm4 (.inr hE)).mono ?_
  rintro _ w5 ⟨e5, s5, q5, rfl, f5, b5, F5, hQ5, hm5⟩
  have dE5 := hQ5.cell
  clear hQ4 hm4 dE4 f4 b4
  have q4 : Hid (bget e3 s3 (uAdd nn 1) = (x4, e4, s4)) := q4
  have T : Hid (∀ (e6 : Int) (s6 : St), (if (x4 == 0) = true then bput e5 s5 (uAdd p 1) 0 else (e5, s5)) = (e6, s6) →
    Hid (qTake s a p = match bget e6 s6 (uAdd p 2) with
    | (c, e5, s5) => match bput e5 s5 (uAdd p 2) (IntKind.u64.wrap (c - 1)) with
    | (e6, s6) => match (if (e6 == 0) = true then rGive s6 a nn 2 else (e6, s6)) with
    | (e7, s7) => if (e7 != 0) = true then (0, false, e7, s7) else (x3, true, 0, s7))) := Lib.hid fun e6 s6 q6 => Lib.hid (by
      rw [hq.out, q3.out]; simp only; rw [q4.out]; simp only; rw [q5.out]; simp only; rw [q6])
  clear hq q3 q4 q5
  go_upto_if 51 with (fail)
  go_cut [12] (fun c12 wx => c12 = .int .u64 x4 ∧ ∃ (e6 : Int) (s6 : St) (F6 : Nat → Prop), Hid (qTake s a p = match bget e6 s6 (uAdd p 2) with
    | (c, e5, s5) => match bput e5 s5 (uAdd p 2) (IntKind.u64.wrap (c - 1)) with
    | (e6, s6) => match (if (e6 == 0) = true then rGive s6 a nn 2 else (e6, s6)) with
    | (e7, s7) => if (e7 != 0) = true then (0, false, e7, s7) else (x3, true, 0, s7)) ∧ Fits s6 ∧ Bud s6 (n + 5) ∧ Qb wx t bb F6 s6 e6 ∧ Fr F0 w0 F6 wx)
  case first =>
    have h4 : (x4 == 0) = true ∨ (x4 == 0) = false := by cases (x4 == 0) <;> simp
    rcases h4 with h4 | h4
    · go_wp2_with fail
      refine (qput_b hQ5 f5 b5 (uw_bd _).1 (by omega) (by omega) hm5 (.inr hE)).mono ?_
      rintro _ w6 ⟨e6, s6, q6, rfl, f6, b6, F6, hQ6, hm6⟩
      have hr := T.out e6 s6 (by rw [if_pos h4]; exact q6.out)
      have hQ6' := Lib.hid hQ6
      have hm6' := Lib.hid hm6
      clear hQ5 hm5 hQ6 hm6 q6
      go_wp2
      all_goals go_meet
      all_goals exact ⟨rfl, e6, s6, F6, hr, f6, b6, hQ6'.out, hm6'.out⟩
    · have hr := T.out e5 s5 (by rw [if_neg (by simp [h4])])
      have hQ6' := Lib.hid hQ5
      have hm6' := Lib.hid hm5
      clear hQ5 hm5
      go_wp2
      all_goals go_meet
      all_goals exact ⟨rfl, e5, s5, F5, hr, f5, b5.mono (by omega), hQ6'.out, hm6'.out⟩
  case rest =>
    obtain ⟨rfl, e6, s6, F6, hq, f6, b6, hQ6, hm6⟩ := hcut
    clear T hQ5 hm5 dE5 f5 b5
    go_wp2_with fail
    refine (qget_b hQ6 f6 b6 (uw_bd _).1 hm6 (.inr hE)).mono ?_
    rintro _ w7 ⟨x7, e7, s7, q7, dx7, dx7', rfl, f7, b7, F7, hQ7, hm7⟩
    have q7 : Hid (bget e6 s6 (uAdd p 2) = (x7, e7, s7)) := q7
    clear hQ6 hm6 f6 b6
    go_wp2_with fail
    refine (qput_b hQ7 f7 b7 (uw_bd _).1 (uw_bd _).1 (uw_bd _).2 hm7 (.inr hE)).mono ?_
    rintro _ w8 ⟨e8, s8, q8, rfl, f8, b8, F8, hQ8, hm8⟩
    have q8 : Hid (bput e7 s7 (uAdd p 2) (IntKind.u64.wrap (x7 - 1)) = (e8, s8)) := q8
    have hq : Hid (qTake s a p = match (if (e8 == 0) = true then rGive s8 a nn 2 else (e8, s8)) with
    | (e7, s7) => if (e7 != 0) = true then (0, false, e7, s7) else (x3, true, 0, s7)) := Lib.hid (by rw [hq.out, q7.out]; simp only; rw [q8.out])
    have dE8 := hQ8.cell
    clear hQ7 hm7 f7 b7 q7 q8
    by_cases he : e8 = 0
    · subst he
      go_wp2_with fail
      refine (give_b hQ8.tx f8 b8 ha ux1 ux2 (by omega) (Fr.refl _ _)).mono ?_
      rintro _ w9 ⟨e9, s9, q9, rfl, f9, b9, F9, hw9, hm9⟩
      have hQ9 := hQ8.step hw9 hm9
      have d9 := hQ9.cell
      have z9 := hQ9.blk.frozen 1
      have hQ10 := hQ9.err e9
      have d10 := hQ10.cell
      have hm10 := Lib.hid ((hm8.trans hm9).set (p := ⟨bb, 1, none⟩) (.inr (.inr hE)) (.int .i64 e9))
      have hT := Lib.hid hQ10.tx
      have hq : Hid (qTake s a p = if (e9 != 0) = true then (0, false, e9, s9) else (x3, true, 0, s9)) := Lib.hid (by rw [hq.out, show (if ((0 : Int) == 0) = true then rGive s8 a nn 2 else (0, s8)) = (e9, s9) from (if_pos (by decide)).trans q9.out])
      clear hQ8 hm8 hQ9 hm9 hw9 hQ10 q9 dE8
      by_cases he9 : e9 = 0
      · subst he9
        go_wp2
        go_ret3
        exact ⟨x3, true, 0, s9, hq, dx3, dx3', rfl, f9, b9, F9, hT.out, hm10.out⟩
      · have hz9 : (e9 != 0) = true := by simpa using he9
        have hq : Hid (qTake s a p = (0, false, e9, s9)) := Lib.hid (by rw [hq.out, if_pos hz9])
        clear he9
        go_wp2
        go_quiet (fail)
        go_wp2
        go_ret3
        exact ⟨0, false, e9, s9, hq, by omega, by omega, rfl, f9, b9, F9, hT.out.drewN _, hm10.out.drewN _⟩
    · have hz8 : (e8 != 0) = true := by simpa using he
      have hz8' : (e8 == 0) = false := by simpa using he
      have hq : Hid (qTake s a p = (0, false, e8, s8)) := Lib.hid (by rw [hq.out, show (if (e8 == 0) = true then rGive s8 a nn 2 else (e8, s8)) = (e8, s8) from if_neg (by simp [hz8'])]; simp only; rw [if_pos hz8])
      have hT := Lib.hid hQ8.tx
      have hM := Lib.hid hm8
      clear he hQ8 hm8
      go_wp2
      go_quiet (fail)
      go_wp2
      go_ret3
      exact ⟨0, false, e8, s8, hq, by omega, by omega, rfl, f8, b8.mono (by omega), F8, hT.out.drewN _, hM.out.drewN _⟩
end Go.Proofs.Ytcgdpclhlepofaa
/- What a call leaves behind beside a list of words of its own; a word of a list set. -/
namespace Go.Proofs.Ytcgdpclhlepofaa
open Go.RowKit
set_option linter.unusedVariables false
/-- What a call leaves behind, beside a list of words of its own. -/
def LftV (t n B : Nat) (F0 : Nat → Prop) (w0 : World) (s' : St) (v : Value) (l : List Int) (w' : World) : Prop :=
  Fits s' ∧ Bud s' n ∧ Wl w' v l ∧ (∀ k, own v k → B ≤ k) ∧ ∃ F', Txw w' t F' s' ∧ Fr F0 w0 F' w' ∧ ∀ k, own v k → ¬ F' k
theorem LftV.nil {t n B : Nat} {F0 : Nat → Prop} {w0 : World} {s' : St} {w' : World} (h : Lft t n F0 w0 s' w') : LftV t n B F0 w0 s' (.slice none 0 0) [] w' :=
  let ⟨a, b, F', c, d⟩ := h; ⟨a, b, Wl.nil _, (fun k hk => nomatch hk), F', c, d, (fun k hk => nomatch hk)⟩
end Go.Proofs.Ytcgdpclhlepofaa
/- The queue by its contracts: its nodes. -/
namespace Go.Proofs.Ytcgdpclhlepofaa
open Go.RowKit
set_option maxHeartbeats 4000000
set_option linter.unusedVariables false
set_option linter.unusedSimpArgs false

set_option maxRecDepth 100000 in
theorem qunodes_b {t n : Nat} {F F0 : Nat → Prop} {s : St} {p : Int} {w w0 : World} (hw : Txw w t F s) (hf : Fits s) (hb : Bud s (n + 65541)) (hp : 0 ≤ p) (hp' : p ≤ 18446744073709551615) (hm : Fr F0 w0 F w) :
    Calls Try.prog 44 #[.iface 26 (.pointer (some ⟨t, 0, none⟩)), .int .u64 p] w fun e w' => ∃ v l er s', Hid (qNodes s p = (l, er, s')) ∧ e = .returned (.tuple #[v, .int .i64 er]) ∧ LftV t n w.heap.size F0 w0 s' v l w' := by
  go_enter Try.func44, Try.ntmps44
  go_wp2_with fail
  go_step3
  have hQ := Qb.new hw 0
  have hmQ := hm.alloc (.cells #[.iface 26 (.pointer (some ⟨t, 0, none⟩)), .int .i64 0] 74)
  have hE : w0.heap.size ≤ w.heap.size := hm.size
  have hB : w.heap.size < (w.alloc (.cells #[.iface 26 (.pointer (some ⟨t, 0, none⟩)), .int .i64 0] 74)).heap.size := by simp
  clear hw hm
  go_wp2_with fail
  generalize w.alloc (.cells #[.iface 26 (.pointer (some ⟨t, 0, none⟩)), .int .i64 0] 74) = w2 at *
  generalize hbe : w.heap.size = bb at *
  have HB := Lib.hid hbe
  clear hbe
  have hb : Bud s ((n + 65540) + 1) := hb
  refine (qget_b hQ hf hb hp hmQ (.inr hE)).mono ?_
  rintro _ w3 ⟨n1, e1, s1, q1, dn, dn', rfl, f1, b1, F1, hQ1, hm1⟩
  have dE1 := hQ1.cell
  have b1 : Bud s1 ((n + 65539) + 1) := b1
  clear hQ hmQ hf hb
  go_wp2_with fail
  refine (qget_b hQ1 f1 b1 (uw_bd _).1 hm1 (.inr hE)).mono ?_
  rintro _ w4 ⟨many, e2, s2, q2, dm, dm', rfl, f2, b2, F2, hQ2, hm2⟩
  have dE2 := hQ2.cell
  have q2 : Hid (bget e1 s1 (uAdd p 2) = (many, e2, s2)) := q2
  have b2 : Bud s2 ((n + 65538) + 1) := b2
  clear hQ1 hm1 dE1 f1 b1
  go_wp2_with fail
  refine (qget_b hQ2 f2 b2 (uw_bd _).1 hm2 (.inr hE)).mono ?_
  rintro _ w6 ⟨en, e3, s3, q3, den, den', rfl, f3, b3, F3, hQ3, hm3⟩
  have dE3 := hQ3.cell
  have q3 : Hid (bget e2 s2 (uAdd p 1) = (en, e3, s3)) := q3
  clear hQ2 hm2 dE2 f2 b2
  have hN : Hid (qNodes s p = if (e3 != 0) = true then ([], e3, s3) else chEnd many (if 65536 < many then ([], 0, 1, 0, s3) else qChain many 65538 n1 0 en [] s3)) := Lib.hid (by
    unfold qNodes chEnd
    rw [q1.out]; simp only; rw [q2.out]; simp only; rw [q3.out])
  have hne : Hid (e3 ≠ 0 → n1 = 0 ∨ True) := Lib.hid fun _ => .inr trivial
  clear q1 q2 q3 hne
  go_upto_if 30 with (fail)
  go_cut [7, 9] (fun c7 c9 wx => wx = w6 ∧ ∃ n2 en2 : Int, c7 = .int .u64 n2 ∧ c9 = .int .u64 en2 ∧ 0 ≤ n2 ∧ n2 ≤ 18446744073709551615 ∧ 0 ≤ en2 ∧ en2 ≤ 18446744073709551615 ∧ (n2 = 0 ∨ many ≤ 65536) ∧ Hid (qNodes s p = if (e3 != 0) = true then ([], e3, s3) else chEnd many (qChain many 65538 n2 0 en2 [] s3)))
  case first =>
    by_cases hmn : 65536 < many
    · have hr : Hid (qNodes s p = if (e3 != 0) = true then ([], e3, s3) else chEnd many (qChain many 65538 0 0 1 [] s3)) := Lib.hid (by rw [hN.out, if_pos hmn]; rfl)
      clear hN
      go_wp2
      go_meet
      exact ⟨rfl, 0, 1, rfl, rfl, by omega, by omega, by omega, by omega, .inl rfl, hr⟩
    · have hr : Hid (qNodes s p = if (e3 != 0) = true then ([], e3, s3) else chEnd many (qChain many 65538 n1 0 en [] s3)) := Lib.hid (by rw [hN.out, if_neg hmn])
      have hmn2 : many ≤ 65536 := by omega
      clear hN hmn
      go_wp2
      go_meet
      exact ⟨rfl, n1, en, rfl, rfl, dn, dn', den, den', .inr hmn2, hr⟩
  case rest =>
    obtain ⟨rfl, n2, en2, rfl, rfl, dn2, dn2', den2, den2', hcase, hN2⟩ := hcut
    clear hN
    have hcase := Lib.hid hcase
    have hB6 := hQ3.blk.lt
    have hq3 := Lib.hid hQ3
    have hM3 := Lib.hid hm3
    clear hQ3 hm3
    go_wp2_with fail
    go_step3
    go_wp2_with fail
    go_loopg [7, 9, 10, 11] 65538 (fun gk c7 c9 c10 c11 wr => ∃ (l : List Int) (A : Option Addr) (cp : Nat) (nn b e : Int) (s1 : St) (F1 : Nat → Prop), gk + l.length = 65538 ∧ c7 = .int .u64 nn ∧ 0 ≤ nn ∧ nn ≤ 18446744073709551615 ∧ c9 = .int .u64 en2 ∧ c10 = .slice A l.length cp ∧ c11 = .int .u64 b ∧ 0 ≤ b ∧ b ≤ 18446744073709551615 ∧ Hid (nn = 0 ∨ (l.length : Int) ≤ many ∧ many ≤ 65536) ∧ Hid (qNodes s p = if (e != 0) = true then ([], e, s1) else chEnd many (qChain many gk nn b en2 l s1)) ∧ Fits s1 ∧ Bud s1 (n + gk) ∧ Qb wr t bb F1 s1 e ∧ Fr F0 w0 F1 wr ∧ Wl wr (.slice A l.length cp) l ∧ (∀ k, own (.slice A l.length cp) k → bb < k ∧ ¬ F1 k) ∧ bb < wr.heap.size)
    case atStart => exact ⟨[], none, 0, n2, 0, e3, s3, F3, rfl, rfl, dn2, dn2', rfl, rfl, rfl, by omega, by omega, Lib.hid (hcase.out.imp id fun h => ⟨by simp; omega, h⟩), hN2, f3, b3, hq3.out, hM3.out, Wl.nil _, (fun k hk => nomatch hk), hB6⟩
    case round =>
      obtain ⟨l, A, cp, nn, b, e, s1, F1, hgk, rfl, dnn, dnn', rfl, rfl, rfl, db, db', hcs, hR, hf1, hb1, hQ1, hm1, hv1, ho1, hz1⟩ := hrel
      clear hq3 hM3 b3 f3 hB6 hN2 hcase dE3
      have hll : (l.length : Int) ≤ 65538 := by omega
      have Ho1 := Lib.hid ho1
      have hgk' := Lib.hid hgk
      have dE := hQ1.cell
      clear ho1 hgk
      have hlf : ∀ nq : Nat, LftV t n bb F0 w0 s1 (.slice A l.length cp) l (wr.drewN nq) := fun nq => ⟨hf1, hb1.mono (by omega), hv1.drewN nq, fun k hk => Nat.le_of_lt (Ho1.out k hk).1, F1, hQ1.tx.drewN nq, hm1.drewN nq, fun k hk => (Ho1.out k hk).2⟩
      have HL := Lib.hid hlf
      have hlf0 : ∀ nq : Nat, Lft t n F0 w0 s1 (wr.drewN nq) := fun nq => ⟨hf1, hb1.mono (by omega), F1, hQ1.tx.drewN nq, hm1.drewN nq⟩
      have HL0 := Lib.hid hlf0
      clear hlf hlf0
      by_cases he : e = 0
      case neg =>
        have hz : (e != 0) = true := by simpa using he
        have hz2 : (e == 0) = false := by simpa using he
        have hq : Hid (qNodes s p = ([], e, s1)) := Lib.hid (by rw [hR.out, if_pos hz])
        clear he hR hQ1 hm1 hv1
        by_cases h0 : nn = 0
        all_goals
          first | (have h0' : (nn != 0) = false := by simpa using h0) | (have h0' : (nn != 0) = true := by simpa using h0)
          clear h0
          go_wp2
          go_quiet (fail)
          go_wp2
          rw [Exit.noGoto_ret]
          go_ret2
          exact ⟨_, [], e, s1, hq, rfl, LftV.nil (HL0.out _)⟩
      subst he
      by_cases h0 : nn = 0
      · have h0' : (nn != 0) = false := by simpa using h0
        have hR : Hid (qNodes s p = if (en2 != b) = true ∨ ((l.length : Int) != many) = true then ([], 330, s1) else (l, 0, s1)) := Lib.hid (by rw [hR.out, if_neg (by decide), qChain_end h0]; rfl)
        clear h0 hQ1 hm1 hv1
        by_cases h1 : en2 = b
        · have h1' : (en2 != b) = false := by simpa using h1
          by_cases h2 : (l.length : Int) = many
          · have h2' : ((l.length : Int) != many) = false := by simpa using h2
            have hq : Hid (qNodes s p = (l, 0, s1)) := Lib.hid (by rw [hR.out, if_neg (by rw [h1', h2']; simp)])
            clear h1 h2 hR
            go_wp2
            rw [Exit.noGoto_ret]
            go_ret2
            exact ⟨_, l, 0, s1, hq, rfl, by rw [HB.out]; exact HL.out 0⟩
          · have h2' : ((l.length : Int) != many) = true := by simpa using h2
            have hq : Hid (qNodes s p = ([], 330, s1)) := Lib.hid (by rw [hR.out, if_pos (.inr h2')])
            clear h1 h2 hR
            go_wp2
            rw [Exit.noGoto_ret]
            go_ret2
            exact ⟨_, [], 330, s1, hq, rfl, LftV.nil (HL0.out 0)⟩
        · have h1' : (en2 != b) = true := by simpa using h1
          have hq : Hid (qNodes s p = ([], 330, s1)) := Lib.hid (by rw [hR.out, if_pos (.inl h1')])
          clear h1 hR
          go_wp2
          rw [Exit.noGoto_ret]
          go_ret2
          exact ⟨_, [], 330, s1, hq, rfl, LftV.nil (HL0.out 0)⟩
      have h0' : (nn != 0) = true := by simpa using h0
      have hcs' := hcs.out.resolve_left h0
      obtain ⟨hcs1, hcs2⟩ := hcs'
      have hlm : (l.length : Int) ≤ 65536 := by omega
      obtain ⟨m, rfl⟩ : ∃ m, gk = m + 1 := ⟨gk - 1, by have := hgk'.out; omega⟩
      by_cases h2 : (l.length : Int) = many
      · have h2' : ((l.length : Int) == many) = true := by simpa using h2
        have hw1 : (IntKind.u64.wrap (b + 1) != b) = true := by rw [wrap_u64_mod]; simp; omega
        have hq : Hid (qNodes s p = ([], 330, s1)) := Lib.hid (by
          rw [hR.out, if_neg (by decide), qChain_long h0 h2]
          unfold chEnd
          simp only
          rw [if_neg (by decide), if_pos (.inl hw1)])
        clear h0 h2 hR hQ1 hm1 hv1
        go_wp2
        rw [Exit.noGoto_ret]
        go_ret2
        exact ⟨_, [], 330, s1, hq, rfl, LftV.nil (HL0.out 0)⟩
      have h2' : ((l.length : Int) == many) = false := by simpa using h2
      obtain ⟨u1, u2⟩ := uw_bd (nn - 1)
      have hls : (l.length : Int) < many := by omega
      have H0 := Lib.hid h0
      have H2 := Lib.hid h2
      clear h0 h2 HL HL0
      have hb1 : Bud s1 ((n + m) + 1) := hb1
      have hx := Lib.hid (show (l.length + 1) * 8 ≤ 140737488355328 by omega)
      go_wp2_with (at_builtin; refine wpList_word wr rfl (.tmp 47) (.tmp 50) rfl (.slice A l.length cp) l (IntKind.u64.wrap (nn - 1)) rfl hv1 rfl hx.out ?_; intro A4 c4 w4 hc4 hv4 hm4)
      have hnb : ∀ k, F1 k → ¬ own (.slice A l.length cp) k := fun k hk ho => (Ho1.out k ho).2 hk
      have hbo : ¬ own (.slice A l.length cp) bb := fun ho => by have := (Ho1.out bb ho).1; omega
      have hQ4 := hQ1.fr hm4 hnb hbo
      have dE4 := hQ4.cell
      have ho4 : ∀ k, own (.slice A4 (l.length + 1) c4) k → bb < k ∧ ¬ F1 k := fun k hk => (hm4.new k hk).elim (fun h => Ho1.out k h) fun h => ⟨by omega, fun h2 => by have := hQ1.tx.lt k h2; omega⟩
      have hm4' : Fr F0 w0 F1 w4 := hm1.beside hm4 fun k hk => by have := (Ho1.out k hk).1; omega
      have hz4 := Nat.lt_of_lt_of_le hz1 hm4.size
      have Ho4 := Lib.hid ho4
      have Hm4 := Lib.hid hm4'
      clear hQ1 hm1 dE hnb hbo ho4 hm4 hm4'
      refine (qget_b (F0 := fun k => F1 k ∨ k = bb) hQ4 hf1 hb1 (uw_bd _).1 ((Fr.refl F1 w4).wide fun _ h => .inl h) (.inl (.inr rfl))).mono ?_
      rintro _ w5 ⟨x5, e5, s5, q5, dx5, dx5', rfl, f5, b5, F5, hQ5, hm5⟩
      have q5 : Hid (bget 0 s1 (uAdd (IntKind.u64.wrap (nn - 1)) 1) = (x5, e5, s5)) := q5
      have hG : ∀ k, own (.slice A4 (l.length + 1) c4) k → ¬ (F1 k ∨ k = bb) := fun k hk h => h.elim (Ho4.out k hk).2 fun h => by have := (Ho4.out k hk).1; omega
      have hv5 := Lib.hid (hv4.fr hm5 (by simpa using hG))
      have ho5 : ∀ k, own (.slice A4 (l.length + 1) c4) k → bb < k ∧ ¬ F5 k := fun k hk => ⟨(Ho4.out k hk).1, fun h => (hm5.new k h).elim (hG k hk) fun h2 => by have := hv4.lt k (own_len hk); omega⟩
      have hM5 : Hid (Fr F0 w0 F5 w5) := Lib.hid ((Hm4.out.into (G := fun k => F1 k ∨ k = bb) fun k hk => hk.elim .inl fun h => .inr (.inr (by rw [h]; exact hE))).trans hm5)
      have hz5 := Nat.lt_of_lt_of_le hz4 hm5.size
      have hQ5' := Lib.hid hQ5
      have ho5' := Lib.hid ho5
      have hR5 : Hid (qNodes s p = if (e5 != 0) = true then ([], e5, s5) else chEnd many (qChain many m x5 nn en2 (l ++ [IntKind.u64.wrap (nn - 1)]) s5)) := Lib.hid (by
        rw [hR.out, if_neg (by decide), qChain_step H0.out H2.out q5.out]
        by_cases h5 : e5 = 0
        · rw [if_pos h5, if_neg (by simp [h5])]
        · rw [if_neg h5, if_pos (by simpa using h5)]
          unfold chEnd
          simp only
          rw [if_pos (by simpa using h5)])
      clear hQ4 dE4 hv4 hm5 hQ5 ho5 hG q5 hR
      go_wp2
      go_roundg m
      case measure => omega
      case rel => exact ⟨l ++ [IntKind.u64.wrap (nn - 1)], A4, c4, x5, nn, e5, s5, F5, by have := hgk'.out; simp; omega, rfl, dx5, dx5', rfl, by simp, rfl, dnn, dnn', Lib.hid (.inr ⟨by simp; omega, hcs2⟩), hR5, f5, b5, hQ5'.out, hM5.out, by simpa using hv5.out, by simpa using ho5'.out, hz5⟩
end Go.Proofs.Ytcgdpclhlepofaa
