/- The document's world of words, and the statement's own block over it: where they lie; a get and a put. -/
import Derived.Test.YtcgdpclhlepofaaStW
import Derived.Deep.RegionWith
import Derived.Deep.QuietTactic
import Derived.BigQuiet
import Derived.IntWalk
import Derived.Test.YtcgdpclhlepofaaMix
import Derived.Test.YtcgdpclhlepofaaWl
namespace Go.Proofs.Ytcgdpclhlepofaa
open Go.RowKit
set_option maxHeartbeats 1000000
set_option linter.unusedVariables false

/-- The document's world at b over these words; its blocks are those of F. -/
def Wld (w : World) (b : Nat) (F : Nat → Prop) (s : St) : Prop :=
  ∃ v, Blk w b 44 #[v, .int .i64 s.left, .int .i64 s.code, .int .i64 s.calls] ∧ Wl w v s.W ∧ ∀ k, F k ↔ (k = b ∨ Go.Proofs.Ytcgdpclhlepofaa.own v k)
section
variable {w w' : World} {b : Nat} {F : Nat → Prop} {s : St}
theorem Wl.ne_ {v : Value} {l : List Int} (h : Wl w v l) {k : Nat} {t : TypeId} {cs : Array Value} (hb : Blk w k t cs) (hne : t ≠ 23) : ¬ own v k := Rowv.ne_ h hb hne
theorem Wld.lt (h : Wld w b F s) : ∀ k, F k → k < w.heap.size := by
  obtain ⟨v, h1, h2, h4⟩ := h
  intro k hk
  rcases (h4 k).1 hk with rfl | hk
  · exact h1.lt
  · exact h2.lt k hk
theorem Wld.own (h : Wld w b F s) : F b := by
  obtain ⟨v, _, _, h4⟩ := h
  exact (h4 b).2 (.inl rfl)
theorem Wld.keep (h : Wld w b F s) (hk : ∀ k, F k → w'.heap[k]? = w.heap[k]?) : Wld w' b F s := by
  obtain ⟨v, h1, h2, h4⟩ := h
  exact ⟨v, (hk b ((h4 b).2 (.inl rfl))).trans h1, h2.keep fun k hv => hk k ((h4 k).2 (.inr hv)), h4⟩
theorem Wld.alloc (h : Wld w b F s) (o : Obj) : Wld (w.alloc o) b F s := h.keep fun k hk => Below.heap_alloc w o k (h.lt k hk)
theorem Wld.drew (h : Wld w b F s) : Wld w.drew b F s := h
theorem Wld.drewN (h : Wld w b F s) (n : Nat) : Wld (w.drewN n) b F s := h
theorem Wld.set (h : Wld w b F s) {p : Addr} (hp : ¬ F p.block) (u : Value) : Wld (w.setCell p u) b F s := h.keep fun k hk => Below.heap_setCell w p u k (by rintro rfl; exact hp hk)
theorem Wld.fr (h : Wld w b F s) {G G' : Nat → Prop} (hf : Fr G w G' w') (hG : ∀ k, F k → ¬ G k) : Wld w' b F s := h.keep fun k hk => hf.block k (h.lt k hk) (hG k hk)
theorem Wld.num (h : Wld w b F s) : w.cell? ⟨b, 1, none⟩ = some (.int .i64 s.left) ∧ w.cell? ⟨b, 2, none⟩ = some (.int .i64 s.code) ∧ w.cell? ⟨b, 3, none⟩ = some (.int .i64 s.calls) ∧ w.frozen? ⟨b, 0, none⟩ = false ∧ w.frozen? ⟨b, 1, none⟩ = false ∧ w.frozen? ⟨b, 2, none⟩ = false ∧ w.frozen? ⟨b, 3, none⟩ = false := by
  obtain ⟨v, h1, _⟩ := h
  exact ⟨by rw [h1.cell]; rfl, by rw [h1.cell]; rfl, by rw [h1.cell]; rfl, h1.frozen 0, h1.frozen 1, h1.frozen 2, h1.frozen 3⟩
theorem Wld.ncalls (h : Wld w b F s) (n : Int) : Wld (w.setCell ⟨b, 3, none⟩ (.int .i64 n)) b F { s with calls := n } := by
  obtain ⟨v, k1, k2, h4⟩ := h
  exact ⟨v, k1.set_ 3 _, k2.set (k2.ne_ k1 (by decide)) _, h4⟩
theorem Wld.nleft (h : Wld w b F s) (n : Int) : Wld (w.setCell ⟨b, 1, none⟩ (.int .i64 n)) b F { s with left := n } := by
  obtain ⟨v, k1, k2, h4⟩ := h
  exact ⟨v, k1.set_ 1 _, k2.set (k2.ne_ k1 (by decide)) _, h4⟩
theorem Wld.ncode (h : Wld w b F s) (n : Int) : Wld (w.setCell ⟨b, 2, none⟩ (.int .i64 n)) b F { s with code := n } := by
  obtain ⟨v, k1, k2, h4⟩ := h
  exact ⟨v, k1.set_ 2 _, k2.set (k2.ne_ k1 (by decide)) _, h4⟩
/-- where the words lie -/
theorem Wld.words (h : Wld w b F s) : ∃ A cap, w.cell? ⟨b, 0, none⟩ = some (.slice A s.W.length cap) ∧ s.W.length ≤ cap ∧ Lies w (.slice A s.W.length cap) s.W ∧ ∀ i, i < s.W.length → ∃ g o, A = some ⟨g, o, none⟩ ∧ F g ∧ g ≠ b ∧ w.cell? ⟨g, o + i, none⟩ = some (.int .u64 (s.W.getD i 0)) ∧ w.frozen? ⟨g, o + i, none⟩ = false := by
  obtain ⟨v, h1, h2, h4⟩ := h
  obtain ⟨A, cap, rfl, hc⟩ := h2.shape
  refine ⟨A, cap, by rw [h1.cell]; rfl, hc, h2.lies, fun i hi => ?_⟩
  obtain ⟨g, o, rfl, _, c, z, _⟩ := h2.upd hi
  exact ⟨g, o, rfl, (h4 g).2 (.inr rfl), (by rintro rfl; exact h2.ne_ h1 (by decide) rfl), c, z⟩
/-- A word is set straight. -/
theorem Wld.word (h : Wld w b F s) {g o : Nat} {cap : Nat} (hg : w.cell? ⟨b, 0, none⟩ = some (.slice (some ⟨g, o, none⟩) s.W.length cap)) (i : Nat) (x : Int) (hi : i < s.W.length) : Wld (w.setCell ⟨g, o + i, none⟩ (.int .u64 x)) b F { s with W := s.W.set i x } := by
  obtain ⟨v, h1, h2, h4⟩ := h
  obtain rfl : v = .slice (some ⟨g, o, none⟩) s.W.length cap := by
    rw [h1.cell] at hg
    simpa using hg
  obtain ⟨g', o', e, _, _, _, hs⟩ := h2.upd hi
  obtain ⟨rfl, rfl⟩ : g = g' ∧ o = o' := by simpa using e
  refine ⟨.slice (some ⟨g, o, none⟩) s.W.length cap, h1.far (by rintro rfl; exact h2.ne_ h1 (by decide) rfl) _, ?_, h4⟩
  have := hs x
  simpa using this
theorem Wld.head_set (h : Wld w b F s) {v : Value} (hg : w.cell? ⟨b, 0, none⟩ = some v) {i : Nat} (hi : i = 1 ∨ i = 3) (u : Value) : (w.setCell ⟨b, i, none⟩ u).cell? ⟨b, 0, none⟩ = some v := by
  obtain ⟨v', h1, _⟩ := h
  rw [(h1.set_ i u).cell 0]
  rw [h1.cell] at hg
  rcases hi with rfl | rfl <;> exact hg
end
/-- What a call leaves behind at the document's world. -/
def LftW (b n : Nat) (F0 : Nat → Prop) (w0 : World) (s' : St) (w' : World) : Prop := Fits s' ∧ Bud s' n ∧ ∃ F', Wld w' b F' s' ∧ Fr F0 w0 F' w'

theorem wget_b {b n : Nat} {F F0 : Nat → Prop} {s : St} {a : Int} {w w0 : World} (hw : Wld w b F s) (hf : Fits s) (hb : Bud s (n + 1)) (ha : 0 ≤ a) (hm : Fr F0 w0 F w) :
    Calls Try.prog 37 #[.pointer (some ⟨b, 0, none⟩), .int .u64 a] w fun e w' =>
      ∃ x er s', Hid (sget s a = (x, er, s')) ∧ 0 ≤ x ∧ x ≤ 18446744073709551615 ∧ e = .returned (.tuple #[.int .u64 x, .int .i64 er]) ∧ LftW b n F0 w0 s' w' := by
  have hpf := Lib.hid (sget_fits hf a)
  have hpb := Lib.hid (sget_bud hb a)
  have hpw := Lib.hid (sget_word hf a)
  obtain ⟨A, cap, c0, hcap, _, hc⟩ := hw.words
  obtain ⟨c1, c2, c3, z0, z1, z2, z3⟩ := hw.num
  have hFb := hw.own
  have hl := hf.len
  have hbd : 0 ≤ s.calls ∧ s.calls ≤ 4611686018427387903 ∧ -4611686018427387903 ≤ s.left ∧ s.left ≤ 4611686018427387904 := by unfold Bud at hb; omega
  obtain ⟨q1, q2, q3, q4⟩ := hbd
  have w1 := hw.ncalls (s.calls + 1)
  have m1 := hm.set (p := ⟨b, 3, none⟩) (.inl hFb) (.int .i64 (s.calls + 1))
  by_cases h0 : s.left = 0
  · have hz : (s.left == 0) = true := by simpa using h0
    have hr := Lib.hid (show sget s a = (0, s.code, { s with calls := s.calls + 1 }) by simp [sget, h0])
    rw [hr.out] at hpf hpb hpw
    have w1 := Lib.hid w1
    have m1 := Lib.hid m1
    clear h0 hw hf hm hb hc
    go_enter Try.func37, Try.ntmps37
    go_wp2
    go_region
    all_goals go_wp2
    all_goals go_ret2
    all_goals exact ⟨_, _, _, hr, by omega, by omega, rfl, hpf.out, hpb.out, F, w1.out.drew, m1.out.drew⟩
  · have hz : (s.left == 0) = false := by simpa using h0
    have w2 := w1.nleft (s.left - 1)
    have m2 := m1.set (p := ⟨b, 1, none⟩) (.inl hFb) (.int .i64 (s.left - 1))
    by_cases h1 : (s.W.length : Int) ≤ a
    · have hr := Lib.hid (show sget s a = (0, 4, { s with calls := s.calls + 1, left := s.left - 1 }) by simp [sget, h0, h1])
      rw [hr.out] at hpf hpb hpw
      have w2 := Lib.hid w2
      have m2 := Lib.hid m2
      clear h0 hw hf hm hb hc w1 m1
      go_enter Try.func37, Try.ntmps37
      go_wp2
      go_ret2
      exact ⟨_, _, _, hr, by omega, by omega, rfl, hpf.out, hpb.out, F, w2.out, m2.out⟩
    · obtain ⟨g, o, rfl, _, _, hc, _⟩ := hc a.toNat (by omega)
      obtain ⟨x, hx⟩ : ∃ x, s.W.getD a.toNat 0 = x := ⟨_, rfl⟩
      rw [hx] at hc
      have hr := Lib.hid (show sget s a = (x, 0, { s with calls := s.calls + 1, left := s.left - 1 }) by rw [← hx]; simp [sget, h0, h1])
      rw [hr.out] at hpf hpb hpw
      have w2 := Lib.hid w2
      have m2 := Lib.hid m2
      have hcap' : (s.W.length : Int) ≤ cap := by omega
      clear h0 hw hf hm hb w1 m1 hx
      go_enter Try.func37, Try.ntmps37
      go_wp2
      go_ret2
      exact ⟨_, _, _, hr, hpw.out.1, hpw.out.2, rfl, hpf.out, hpb.out, F, w2.out, m2.out⟩

theorem wput_b {b n : Nat} {F F0 : Nat → Prop} {s : St} {a x : Int} {w w0 : World} (hw : Wld w b F s) (hf : Fits s) (hb : Bud s (n + 1)) (ha : 0 ≤ a) (hx : 0 ≤ x) (hx' : x ≤ 18446744073709551615) (hm : Fr F0 w0 F w) :
    Calls Try.prog 36 #[.pointer (some ⟨b, 0, none⟩), .int .u64 a, .int .u64 x] w fun e w' =>
      ∃ er s', Hid (sput s a x = (er, s')) ∧ e = .returned (.int .i64 er) ∧ LftW b n F0 w0 s' w' := by
  have hpf := Lib.hid (sput_fits hf a x ⟨hx, hx'⟩)
  have hpb := Lib.hid (sput_bud hb a x)
  obtain ⟨A, cap, c0, hcap, _, hc⟩ := hw.words
  obtain ⟨c1, c2, c3, z0, z1, z2, z3⟩ := hw.num
  have hFb := hw.own
  have hl := hf.len
  have hbd : 0 ≤ s.calls ∧ s.calls ≤ 4611686018427387903 ∧ -4611686018427387903 ≤ s.left ∧ s.left ≤ 4611686018427387904 := by unfold Bud at hb; omega
  obtain ⟨q1, q2, q3, q4⟩ := hbd
  have w1 := hw.ncalls (s.calls + 1)
  have m1 := hm.set (p := ⟨b, 3, none⟩) (.inl hFb) (.int .i64 (s.calls + 1))
  by_cases h0 : s.left = 0
  · have hz : (s.left == 0) = true := by simpa using h0
    have hr := Lib.hid (show sput s a x = (s.code, { s with calls := s.calls + 1 }) by simp [sput, h0])
    rw [hr.out] at hpf hpb
    have w1 := Lib.hid w1
    have m1 := Lib.hid m1
    clear h0 hw hf hm hb hc
    go_enter Try.func36, Try.ntmps36
    go_wp2
    go_ret
    exact ⟨_, _, hr, rfl, hpf.out, hpb.out, F, w1.out, m1.out⟩
  · have hz : (s.left == 0) = false := by simpa using h0
    have w2 := w1.nleft (s.left - 1)
    have m2 := m1.set (p := ⟨b, 1, none⟩) (.inl hFb) (.int .i64 (s.left - 1))
    by_cases h1 : (s.W.length : Int) ≤ a
    · have hr := Lib.hid (show sput s a x = (4, { s with calls := s.calls + 1, left := s.left - 1 }) by simp [sput, h0, h1])
      rw [hr.out] at hpf hpb
      have w2 := Lib.hid w2
      have m2 := Lib.hid m2
      clear h0 hw hf hm hb hc w1 m1
      go_enter Try.func36, Try.ntmps36
      go_wp2
      go_ret
      exact ⟨_, _, hr, rfl, hpf.out, hpb.out, F, w2.out, m2.out⟩
    · obtain ⟨g, o, rfl, hFg, hgb, hc, hz2⟩ := hc a.toNat (by omega)
      have hr := Lib.hid (show sput s a x = (0, { s with calls := s.calls + 1, left := s.left - 1, W := s.W.set a.toNat x }) by simp [sput, h0, h1])
      rw [hr.out] at hpf hpb
      have w3 := Lib.hid (w2.word (g := g) (o := o) (cap := cap) (w1.head_set (hw.head_set c0 (.inr rfl) _) (.inl rfl) _) a.toNat x (by simp; omega))
      have m3 := Lib.hid (m2.set (p := ⟨g, o + a.toNat, none⟩) (.inl hFg) (.int .u64 x))
      obtain ⟨y, hy⟩ : ∃ y, s.W.getD a.toNat 0 = y := ⟨_, rfl⟩
      rw [hy] at hc
      have hcap' : (s.W.length : Int) ≤ cap := by omega
      clear h0 hw hf hm hb w1 m1 w2 m2 hy
      go_enter Try.func36, Try.ntmps36
      go_wp2
      go_ret
      exact ⟨_, _, hr, rfl, hpf.out, hpb.out, F, w3.out, m3.out⟩

/-- The block t over the document's world; its blocks are those of F. -/
def Txw (w : World) (t : Nat) (F : Nat → Prop) (s : St) : Prop := ∃ b G, Blk w t 47 #[.pointer (some ⟨b, 0, none⟩)] ∧ Wld w b G s ∧ ∀ k, F k ↔ (k = t ∨ G k)
section
variable {w w' : World} {t : Nat} {F : Nat → Prop} {s : St}
theorem Txw.lt (h : Txw w t F s) : ∀ k, F k → k < w.heap.size := by
  obtain ⟨b, G, h1, h2, h4⟩ := h
  intro k hk
  rcases (h4 k).1 hk with rfl | hk
  · exact h1.lt
  · exact h2.lt k hk
theorem Txw.own (h : Txw w t F s) : F t := by
  obtain ⟨b, G, _, _, h4⟩ := h
  exact (h4 t).2 (.inl rfl)
theorem Txw.keep (h : Txw w t F s) (hk : ∀ k, F k → w'.heap[k]? = w.heap[k]?) : Txw w' t F s := by
  obtain ⟨b, G, h1, h2, h4⟩ := h
  exact ⟨b, G, (hk t ((h4 t).2 (.inl rfl))).trans h1, h2.keep fun k hg => hk k ((h4 k).2 (.inr hg)), h4⟩
theorem Txw.alloc (h : Txw w t F s) (o : Obj) : Txw (w.alloc o) t F s := h.keep fun k hk => Below.heap_alloc w o k (h.lt k hk)
theorem Txw.drew (h : Txw w t F s) : Txw w.drew t F s := h
theorem Txw.drewN (h : Txw w t F s) (n : Nat) : Txw (w.drewN n) t F s := h
theorem Txw.set (h : Txw w t F s) {p : Addr} (hp : ¬ F p.block) (u : Value) : Txw (w.setCell p u) t F s := h.keep fun k hk => Below.heap_setCell w p u k (by rintro rfl; exact hp hk)
theorem Txw.fr (h : Txw w t F s) {G G' : Nat → Prop} (hf : Fr G w G' w') (hG : ∀ k, F k → ¬ G k) : Txw w' t F s := h.keep fun k hk => hf.block k (h.lt k hk) (hG k hk)
theorem Txw.not_own {cs : Array Value} (h1 : Blk w t 47 cs) {b : Nat} {G : Nat → Prop} (h2 : Wld w b G s) : ¬ G t := by
  obtain ⟨v, k1, k2, h4⟩ := h2
  intro hk
  rcases (h4 t).1 hk with rfl | hk
  · exact Blk.ne_ h1 k1 (by decide) rfl
  · exact k2.ne_ h1 (by decide) hk
/-- The document's world has turned. -/
theorem Txw.step {b n : Nat} {G F0 : Nat → Prop} {s s' : St} {w0 w w' : World} (h1 : Blk w t 47 #[.pointer (some ⟨b, 0, none⟩)]) (h2 : Wld w b G s) (hm : Fr F0 w0 F w) (h4 : ∀ k, F k ↔ (k = t ∨ G k)) (hl : LftW b n G w s' w') :
    Fits s' ∧ Bud s' n ∧ ∃ F', Txw w' t F' s' ∧ Fr F0 w0 F' w' := by
  obtain ⟨f, bu, G', k1, k2⟩ := hl
  have hn := Txw.not_own h1 h2
  refine ⟨f, bu, fun k => k = t ∨ G' k, ⟨b, G', k2.blk h1 hn, k1, fun k => Iff.rfl⟩, ?_⟩
  refine hm.trans (Fr.into (k2.wide (G := F) fun k hk => (h4 k).2 (.inr hk)) fun k hk => ?_)
  rcases hk with rfl | hk
  · exact .inr (.inl ((h4 _).2 (.inl rfl)))
  · exact .inl hk
end

/-- What a call leaves behind. -/
def Lft (t n : Nat) (F0 : Nat → Prop) (w0 : World) (s' : St) (w' : World) : Prop := Fits s' ∧ Bud s' n ∧ ∃ F', Txw w' t F' s' ∧ Fr F0 w0 F' w'
theorem Lft.mono {t n m : Nat} {F0 : Nat → Prop} {w0 w' : World} {s' : St} (h : Lft t n F0 w0 s' w') (hm : m ≤ n) : Lft t m F0 w0 s' w' := ⟨h.1, h.2.1.mono hm, h.2.2⟩
theorem Lft.drewN {t n : Nat} {F0 : Nat → Prop} {w0 w' : World} {s' : St} (h : Lft t n F0 w0 s' w') (m : Nat) : Lft t n F0 w0 s' (w'.drewN m) := let ⟨a, b, F', c, d⟩ := h; ⟨a, b, F', c.drewN m, d.drewN m⟩

theorem tget_b {t n : Nat} {F F0 : Nat → Prop} {s : St} {a : Int} {w w0 : World} (hw : Txw w t F s) (hf : Fits s) (hb : Bud s (n + 1)) (ha : 0 ≤ a) (hm : Fr F0 w0 F w) :
    Calls Try.prog 13 #[.pointer (some ⟨t, 0, none⟩), .int .u64 a] w fun e w' =>
      ∃ x er s', Hid (sget s a = (x, er, s')) ∧ 0 ≤ x ∧ x ≤ 18446744073709551615 ∧ e = .returned (.tuple #[.int .u64 x, .int .i64 er]) ∧ Lft t n F0 w0 s' w' := by
  obtain ⟨b, G, h1, h2, h4⟩ := hw
  have c0 := h1.cell 0
  simp only [List.getElem?_toArray, List.getElem?_cons_zero] at c0
  have K := Lib.hid fun s' w' (hl : LftW b n G w s' w') => Txw.step h1 h2 hm h4 hl
  go_enter Try.func13, Try.ntmps13
  go_wp2_with fail
  refine (wget_b h2 hf hb ha (Fr.refl _ _)).mono ?_
  rintro e w' ⟨x, er, s', q, dx, dx', rfl, hl⟩
  have hl := Lib.hid hl
  clear h1 h2 hm h4 hf hb
  go_wp2_with fail
  go_ret2
  exact ⟨x, er, s', q, dx, dx', rfl, K.out _ _ hl.out⟩

theorem tput_b {t n : Nat} {F F0 : Nat → Prop} {s : St} {a x : Int} {w w0 : World} (hw : Txw w t F s) (hf : Fits s) (hb : Bud s (n + 1)) (ha : 0 ≤ a) (hx : 0 ≤ x) (hx' : x ≤ 18446744073709551615) (hm : Fr F0 w0 F w) :
    Calls Try.prog 11 #[.pointer (some ⟨t, 0, none⟩), .int .u64 a, .int .u64 x] w fun e w' =>
      ∃ er s', Hid (sput s a x = (er, s')) ∧ e = .returned (.int .i64 er) ∧ Lft t n F0 w0 s' w' := by
  obtain ⟨b, G, h1, h2, h4⟩ := hw
  have c0 := h1.cell 0
  simp only [List.getElem?_toArray, List.getElem?_cons_zero] at c0
  have K := Lib.hid fun s' w' (hl : LftW b n G w s' w') => Txw.step h1 h2 hm h4 hl
  go_enter Try.func11, Try.ntmps11
  go_wp2_with fail
  refine (wput_b h2 hf hb ha hx hx' (Fr.refl _ _)).mono ?_
  rintro e w' ⟨er, s', q, rfl, hl⟩
  have hl := Lib.hid hl
  clear h1 h2 hm h4 hf hb
  go_wp2_with fail
  go_ret
  exact ⟨er, s', q, rfl, K.out _ _ hl.out⟩

@[go_sem] theorem method_get (t : Nat) (w : World) : (method 210 26 (.pointer (some ⟨t, 0, none⟩)) "Get").run Try.prog w = .ok (13, .pointer (some ⟨t, 0, none⟩)) w := by kernel_rfl
@[go_sem] theorem method_put (t : Nat) (w : World) : (method 210 26 (.pointer (some ⟨t, 0, none⟩)) "Put").run Try.prog w = .ok (11, .pointer (some ⟨t, 0, none⟩)) w := by kernel_rfl
theorem uw_bd (x : Int) : 0 ≤ IntKind.u64.wrap x ∧ IntKind.u64.wrap x ≤ 18446744073709551615 := by rw [wrap_u64_mod]; omega
end Go.Proofs.Ytcgdpclhlepofaa
