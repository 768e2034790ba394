/- The document's cells: where they lie; a get and a put. -/
import Derived.Test.YtcohopobjppmaaaStC
import Derived.Deep.RegionWith
import Derived.Deep.QuietTactic
import Derived.BigQuiet
import Derived.IntWalk
import Derived.Test.YtcohopobjppmaaaMix
import Derived.Test.YtcohopobjppmaaaWl
namespace Go.Proofs.Ytcohopobjppmaaa
open Go.RowKit
set_option maxHeartbeats 2000000
set_option linter.unusedVariables false
set_option linter.unusedSimpArgs false

/-- The document's cells at t over these words; its blocks are those of F. -/
def Txw (w : World) (t : Nat) (F : Nat → Prop) (s : St) : Prop :=
  ∃ v, Blk w t 51 #[v, .int .i64 s.gets, .int .i64 s.puts, .int .i64 s.fail, .int .i64 s.err] ∧ Wl w v s.W ∧ ∀ k, F k ↔ (k = t ∨ Go.Proofs.Ytcohopobjppmaaa.own v k)
theorem Wl.ne_ {w : World} {v : Value} {l : List Int} (h : Wl w v l) {k : Nat} {t : TypeId} {cs : Array Value} (hb : Blk w k t cs) (hne : t ≠ 23) : ¬ own v k := Rowv.ne_ h hb hne
section
variable {w w' : World} {t : Nat} {F : Nat → Prop} {s : St}
theorem Txw.lt (h : Txw w t F s) : ∀ k, F k → k < w.heap.size := by
  obtain ⟨v, h1, h2, h4⟩ := h
  intro k hk
  rcases (h4 k).1 hk with rfl | hk
  · exact h1.lt
  · exact h2.lt k hk
theorem Txw.own (h : Txw w t F s) : F t := by
  obtain ⟨v, _, _, h4⟩ := h
  exact (h4 t).2 (.inl rfl)
theorem Txw.keep (h : Txw w t F s) (hk : ∀ k, F k → w'.heap[k]? = w.heap[k]?) : Txw w' t F s := by
  obtain ⟨v, h1, h2, h4⟩ := h
  exact ⟨v, (hk t ((h4 t).2 (.inl rfl))).trans h1, h2.keep fun k hv => hk k ((h4 k).2 (.inr hv)), h4⟩
theorem Txw.alloc (h : Txw w t F s) (o : Obj) : Txw (w.alloc o) t F s := h.keep fun k hk => Below.heap_alloc w o k (h.lt k hk)
theorem Txw.drew (h : Txw w t F s) : Txw w.drew t F s := h
theorem Txw.drewN (h : Txw w t F s) (n : Nat) : Txw (w.drewN n) t F s := h
theorem Txw.set (h : Txw w t F s) {p : Addr} (hp : ¬ F p.block) (u : Value) : Txw (w.setCell p u) t F s := h.keep fun k hk => Below.heap_setCell w p u k (by rintro rfl; exact hp hk)
theorem Txw.fr (h : Txw w t F s) {G G' : Nat → Prop} (hf : Fr G w G' w') (hG : ∀ k, F k → ¬ G k) : Txw w' t F s := h.keep fun k hk => hf.block k (h.lt k hk) (hG k hk)
theorem Txw.num (h : Txw w t F s) : w.cell? ⟨t, 1, none⟩ = some (.int .i64 s.gets) ∧ w.cell? ⟨t, 2, none⟩ = some (.int .i64 s.puts) ∧ w.cell? ⟨t, 3, none⟩ = some (.int .i64 s.fail) ∧ w.cell? ⟨t, 4, none⟩ = some (.int .i64 s.err) ∧ w.frozen? ⟨t, 0, none⟩ = false ∧ w.frozen? ⟨t, 1, none⟩ = false ∧ w.frozen? ⟨t, 2, none⟩ = false ∧ w.frozen? ⟨t, 3, none⟩ = false ∧ w.frozen? ⟨t, 4, none⟩ = false := by
  obtain ⟨v, h1, _⟩ := h
  exact ⟨by rw [h1.cell]; rfl, by rw [h1.cell]; rfl, by rw [h1.cell]; rfl, by rw [h1.cell]; rfl, h1.frozen 0, h1.frozen 1, h1.frozen 2, h1.frozen 3, h1.frozen 4⟩
theorem Txw.ngets (h : Txw w t F s) (n : Int) : Txw (w.setCell ⟨t, 1, none⟩ (.int .i64 n)) t F { s with gets := n } := by
  obtain ⟨v, k1, k2, h4⟩ := h
  exact ⟨v, k1.set_ 1 _, k2.set (k2.ne_ k1 (by decide)) _, h4⟩
theorem Txw.nputs (h : Txw w t F s) (n : Int) : Txw (w.setCell ⟨t, 2, none⟩ (.int .i64 n)) t F { s with puts := n } := by
  obtain ⟨v, k1, k2, h4⟩ := h
  exact ⟨v, k1.set_ 2 _, k2.set (k2.ne_ k1 (by decide)) _, h4⟩
theorem Txw.nfail (h : Txw w t F s) (n : Int) : Txw (w.setCell ⟨t, 3, none⟩ (.int .i64 n)) t F { s with fail := n } := by
  obtain ⟨v, k1, k2, h4⟩ := h
  exact ⟨v, k1.set_ 3 _, k2.set (k2.ne_ k1 (by decide)) _, h4⟩
theorem Txw.nerr (h : Txw w t F s) (n : Int) : Txw (w.setCell ⟨t, 4, none⟩ (.int .i64 n)) t F { s with err := n } := by
  obtain ⟨v, k1, k2, h4⟩ := h
  exact ⟨v, k1.set_ 4 _, k2.set (k2.ne_ k1 (by decide)) _, h4⟩
/-- where the words lie -/
theorem Txw.words (h : Txw w t F s) : ∃ A cap, w.cell? ⟨t, 0, none⟩ = some (.slice A s.W.length cap) ∧ s.W.length ≤ cap ∧ Lies w (.slice A s.W.length cap) s.W ∧ ∀ i, i < s.W.length → ∃ g o, A = some ⟨g, o, none⟩ ∧ F g ∧ g ≠ t ∧ w.cell? ⟨g, o + i, none⟩ = some (.int .u64 (s.W.getD i 0)) ∧ w.frozen? ⟨g, o + i, none⟩ = false := by
  obtain ⟨v, h1, h2, h4⟩ := h
  obtain ⟨A, cap, rfl, hc⟩ := h2.shape
  refine ⟨A, cap, by rw [h1.cell]; rfl, hc, h2.lies, fun i hi => ?_⟩
  obtain ⟨g, o, rfl, _, c, z, _⟩ := h2.upd hi
  exact ⟨g, o, rfl, (h4 g).2 (.inr rfl), (by rintro rfl; exact h2.ne_ h1 (by decide) rfl), c, z⟩
/-- A word is set straight. -/
theorem Txw.word (h : Txw w t F s) {g o : Nat} {cap : Nat} (hg : w.cell? ⟨t, 0, none⟩ = some (.slice (some ⟨g, o, none⟩) s.W.length cap)) (i : Nat) (x : Int) (hi : i < s.W.length) : Txw (w.setCell ⟨g, o + i, none⟩ (.int .u64 x)) t F { s with W := s.W.set i x } := by
  obtain ⟨v, h1, h2, h4⟩ := h
  obtain rfl : v = .slice (some ⟨g, o, none⟩) s.W.length cap := by
    rw [h1.cell] at hg
    simpa using hg
  obtain ⟨g', o', e, _, _, _, hs⟩ := h2.upd hi
  obtain ⟨rfl, rfl⟩ : g = g' ∧ o = o' := by simpa using e
  refine ⟨.slice (some ⟨g, o, none⟩) s.W.length cap, h1.far (by rintro rfl; exact h2.ne_ h1 (by decide) rfl) _, ?_, h4⟩
  have := hs x
  simpa using this
theorem Txw.head_set (h : Txw w t F s) {v : Value} (hg : w.cell? ⟨t, 0, none⟩ = some v) {i : Nat} (hi : i = 1 ∨ i = 2) (u : Value) : (w.setCell ⟨t, i, none⟩ u).cell? ⟨t, 0, none⟩ = some v := by
  obtain ⟨v', h1, _⟩ := h
  rw [(h1.set_ i u).cell 0]
  rw [h1.cell] at hg
  rcases hi with rfl | rfl <;> exact hg
end
/-- What a call leaves behind. -/
def Lft (t n : Nat) (F0 : Nat → Prop) (w0 : World) (s' : St) (w' : World) : Prop := Fits s' ∧ Bud s' n ∧ ∃ F', Txw w' t F' s' ∧ Fr F0 w0 F' w'
theorem Lft.mono {t n m : Nat} {F0 : Nat → Prop} {w0 w' : World} {s' : St} (h : Lft t n F0 w0 s' w') (hm : m ≤ n) : Lft t m F0 w0 s' w' := ⟨h.1, h.2.1.mono hm, h.2.2⟩
theorem Lft.drewN {t n : Nat} {F0 : Nat → Prop} {w0 w' : World} {s' : St} (h : Lft t n F0 w0 s' w') (m : Nat) : Lft t n F0 w0 s' (w'.drewN m) := let ⟨a, b, F', c, d⟩ := h; ⟨a, b, F', c.drewN m, d.drewN m⟩

/-- does this access fail? -/
theorem fails_b {t : Nat} {F : Nat → Prop} {s : St} {w : World} (h : Txw w t F s) (hg : 0 ≤ s.gets) (hp : 0 ≤ s.puts) (hb : 1 ≤ s.gets + s.puts) (hb2 : s.gets + s.puts ≤ 4611686018427387904) :
    Calls Try.prog 72 #[.pointer (some ⟨t, 0, none⟩)] w fun e w' => e = .returned (.bool (decide (0 ≤ s.fail) && decide (s.fail ≤ s.gets + s.puts - 1))) ∧ ∃ n, w' = w.drewN n := by
  obtain ⟨c1, c2, c3, _, _⟩ := h.num
  have b1 : s.gets ≤ 4611686018427387904 := by omega
  have b2 : s.puts ≤ 4611686018427387904 := by omega
  clear h
  generalize s.gets = a at *
  generalize s.puts = b at *
  generalize s.fail = f at *
  have e1 : IntKind.i64.wrap (a + b) = a + b := IntWalk.i64_in _ (by omega)
  have e2 : IntKind.i64.wrap (a + b - 1) = a + b - 1 := IntWalk.i64_in _ (by omega)
  by_cases h0 : 0 ≤ f
  · have z0 : decide (0 ≤ f) = true := decide_eq_true h0
    by_cases h1 : f ≤ a + b - 1
    · have z1 : decide (f ≤ a + b - 1) = true := decide_eq_true h1
      rw [z0, z1]
      go_enter Try.func72, Try.ntmps72
      go_wp2
      go_quiet (fail)
      go_wp2
      go_ret
      exact ⟨rfl, _, rfl⟩
    · have z1 : decide (f ≤ a + b - 1) = false := decide_eq_false h1
      rw [z0, z1]
      go_enter Try.func72, Try.ntmps72
      go_wp2
      go_quiet (fail)
      go_wp2
      go_ret
      exact ⟨rfl, _, rfl⟩
  · have z0 : decide (0 ≤ f) = false := decide_eq_false h0
    rw [z0]
    go_enter Try.func72, Try.ntmps72
    go_wp2
    go_quiet (fail)
    go_wp2
    go_ret
    exact ⟨by simp, _, rfl⟩
/-- a cell's word, if there is one -/
theorem word_no {A : Option Addr} {n c : Nat} {a : Int} {w : World} (hn : (n : Int) ≤ 9223372036854775807) (ha : (n : Int) ≤ a) : Calls Try.prog 30 #[.slice A n c, .int .u64 a] w fun e w' => e = .returned (.tuple #[.int .u64 0, .bool false]) ∧ w = w' := by
  go_enter Try.func30, Try.ntmps30
  go_wp2
  go_ret2
  exact ⟨rfl, rfl⟩
theorem word_yes {g o n c : Nat} {a x : Int} {w : World} (hn : (n : Int) ≤ 9223372036854775807) (h0 : 0 ≤ a) (ha : a < n) (hc : (n : Int) ≤ c) (hx : w.cell? ⟨g, o + a.toNat, none⟩ = some (.int .u64 x)) : Calls Try.prog 30 #[.slice (some ⟨g, o, none⟩) n c, .int .u64 a] w fun e w' => e = .returned (.tuple #[.int .u64 x, .bool true]) ∧ w = w' := by
  go_enter Try.func30, Try.ntmps30
  go_wp2
  go_ret2
  exact ⟨rfl, rfl⟩

theorem tget_b {t n : Nat} {F F0 : Nat → Prop} {s : St} {a : Int} {w w0 : World} (hw : Txw w t F s) (hf : Fits s) (hb : Bud s (n + 1)) (ha : 0 ≤ a) (hm : Fr F0 w0 F w) :
    Calls Try.prog 70 #[.pointer (some ⟨t, 0, none⟩), .int .u64 a] w fun e w' =>
      ∃ x er s', Hid (sget s a = (x, er, s')) ∧ 0 ≤ x ∧ x ≤ 18446744073709551615 ∧ e = .returned (.tuple #[.int .u64 x, .int .i64 er]) ∧ Lft t n F0 w0 s' w' := by
  have hpf := Lib.hid (sget_fits hf a)
  have hpb := Lib.hid (sget_bud hb a)
  have hpw := Lib.hid (sget_word hf a)
  obtain ⟨c1, c2, c3, c4, z0, z1, z2, z3, z4⟩ := hw.num
  have hFt := hw.own
  have hl := hf.len
  have hbd : 0 ≤ s.gets ∧ s.gets ≤ 4611686018427387903 ∧ 0 ≤ s.puts ∧ s.gets + s.puts ≤ 4611686018427387903 := by unfold Bud at hb; omega
  obtain ⟨q1, q2, q3, q4⟩ := hbd
  have w1 := hw.ngets (s.gets + 1)
  have m1 := Lib.hid (hm.set (p := ⟨t, 1, none⟩) (.inl hFt) (.int .i64 (s.gets + 1)))
  have e1 : IntKind.i64.wrap (s.gets + 1) = s.gets + 1 := IntWalk.i64_in _ (by omega)
  have T := Lib.hid (fails_b w1 (show 0 ≤ s.gets + 1 by omega) q3 (show 1 ≤ s.gets + 1 + s.puts by omega) (show s.gets + 1 + s.puts ≤ 4611686018427387904 by omega))
  by_cases h0 : fls s
  · have hr := Lib.hid (show sget s a = (0, s.err, { s with gets := s.gets + 1 }) by simp [sget, h0])
    rw [hr.out] at hpf hpb hpw
    have hz : (decide (0 ≤ s.fail) && decide (s.fail ≤ s.gets + 1 + s.puts - 1)) = true := by unfold fls at h0; simp; omega
    obtain ⟨_, _, _, c4', _⟩ := w1.num
    have w1 := Lib.hid w1
    clear h0 hw hf hm hb
    go_enter Try.func70, Try.ntmps70
    go_wp2_with fail
    refine T.out.mono ?_
    rintro e w' ⟨rfl, n1, rfl⟩
    simp only [hz]
    go_wp2
    go_quiet (fail)
    go_wp2
    go_ret2
    exact ⟨_, _, _, hr, by omega, by omega, rfl, hpf.out, hpb.out, F, (w1.out.drewN _).drewN _, (m1.out.drewN _).drewN _⟩
  · have hz : (decide (0 ≤ s.fail) && decide (s.fail ≤ s.gets + 1 + s.puts - 1)) = false := by
      unfold fls at h0
      by_cases h1 : 0 ≤ s.fail
      · have h2 : ¬ s.fail ≤ s.gets + 1 + s.puts - 1 := fun h => h0 ⟨h1, by omega⟩
        simp [h2]
      · simp [h1]
    obtain ⟨A, cap, c0, hcap, _, hc⟩ := w1.words
    simp only at c0 hcap hc
    have hcap' : (s.W.length : Int) ≤ cap := by omega
    by_cases h1 : (s.W.length : Int) ≤ a
    · have hr := Lib.hid (show sget s a = (0, 4, { s with gets := s.gets + 1 }) by simp [sget, h0, h1])
      rw [hr.out] at hpf hpb hpw
      have w1 := Lib.hid w1
      clear h0 hw hf hm hb hc
      go_enter Try.func70, Try.ntmps70
      go_wp2_with fail
      refine T.out.mono ?_
      rintro e w' ⟨rfl, n1, rfl⟩
      simp only [hz]
      go_wp2_with fail
      refine (word_no hl h1).mono ?_
      rintro e w' ⟨rfl, rfl⟩
      go_wp2_with fail
      go_ret2
      exact ⟨_, _, _, hr, by omega, by omega, rfl, hpf.out, hpb.out, F, w1.out.drewN _, m1.out.drewN _⟩
    · obtain ⟨g, o, rfl, _, _, hc, _⟩ := hc a.toNat (by omega)
      obtain ⟨x, hx⟩ : ∃ x, s.W.getD a.toNat 0 = x := ⟨_, rfl⟩
      rw [hx] at hc
      have hr := Lib.hid (show sget s a = (x, 0, { s with gets := s.gets + 1 }) by rw [← hx]; simp [sget, h0, h1])
      rw [hr.out] at hpf hpb hpw
      have w1 := Lib.hid w1
      have hlt : a < s.W.length := by omega
      clear h0 hw hf hm hb hx
      go_enter Try.func70, Try.ntmps70
      go_wp2_with fail
      refine T.out.mono ?_
      rintro e w' ⟨rfl, n1, rfl⟩
      simp only [hz]
      go_wp2_with fail
      refine (word_yes hl ha hlt hcap' (by exact hc)).mono ?_
      rintro e w' ⟨rfl, rfl⟩
      go_wp2_with fail
      go_ret2
      exact ⟨_, _, _, hr, hpw.out.1, hpw.out.2, rfl, hpf.out, hpb.out, F, w1.out.drewN _, m1.out.drewN _⟩

theorem tput_b {t n : Nat} {F F0 : Nat → Prop} {s : St} {a x : Int} {w w0 : World} (hw : Txw w t F s) (hf : Fits s) (hb : Bud s (n + 1)) (ha : 0 ≤ a) (hx : 0 ≤ x) (hx' : x ≤ 18446744073709551615) (hm : Fr F0 w0 F w) :
    Calls Try.prog 71 #[.pointer (some ⟨t, 0, none⟩), .int .u64 a, .int .u64 x] w fun e w' =>
      ∃ er s', Hid (sput s a x = (er, s')) ∧ e = .returned (.int .i64 er) ∧ Lft t n F0 w0 s' w' := by
  have hpf := Lib.hid (sput_fits hf a x ⟨hx, hx'⟩)
  have hpb := Lib.hid (sput_bud hb a x)
  obtain ⟨c1, c2, c3, c4, z0, z1, z2, z3, z4⟩ := hw.num
  have hFt := hw.own
  have hl := hf.len
  have hbd : 0 ≤ s.gets ∧ 0 ≤ s.puts ∧ s.puts ≤ 4611686018427387903 ∧ s.gets + s.puts ≤ 4611686018427387903 := by unfold Bud at hb; omega
  obtain ⟨q1, q2, q3, q4⟩ := hbd
  have w1 := hw.nputs (s.puts + 1)
  have m1 := Lib.hid (hm.set (p := ⟨t, 2, none⟩) (.inl hFt) (.int .i64 (s.puts + 1)))
  have e1 : IntKind.i64.wrap (s.puts + 1) = s.puts + 1 := IntWalk.i64_in _ (by omega)
  have T := Lib.hid (fails_b w1 q1 (show 0 ≤ s.puts + 1 by omega) (show 1 ≤ s.gets + (s.puts + 1) by omega) (show s.gets + (s.puts + 1) ≤ 4611686018427387904 by omega))
  by_cases h0 : fls s
  · have hr := Lib.hid (show sput s a x = (s.err, { s with puts := s.puts + 1 }) by simp [sput, h0])
    rw [hr.out] at hpf hpb
    have hz : (decide (0 ≤ s.fail) && decide (s.fail ≤ s.gets + (s.puts + 1) - 1)) = true := by unfold fls at h0; simp; omega
    obtain ⟨_, _, _, c4', _⟩ := w1.num
    have w1 := Lib.hid w1
    clear h0 hw hf hm hb
    go_enter Try.func71, Try.ntmps71
    go_wp2_with fail
    refine T.out.mono ?_
    rintro e w' ⟨rfl, n1, rfl⟩
    simp only [hz]
    go_wp2_with fail
    go_ret
    exact ⟨_, _, hr, rfl, hpf.out, hpb.out, F, w1.out.drewN _, m1.out.drewN _⟩
  · have hz : (decide (0 ≤ s.fail) && decide (s.fail ≤ s.gets + (s.puts + 1) - 1)) = false := by
      unfold fls at h0
      by_cases h1 : 0 ≤ s.fail
      · have h2 : ¬ s.fail ≤ s.gets + (s.puts + 1) - 1 := fun h => h0 ⟨h1, by omega⟩
        simp [h2]
      · simp [h1]
    obtain ⟨A, cap, c0, hcap, _, hc⟩ := w1.words
    simp only at c0 hcap hc
    have hcap' : (s.W.length : Int) ≤ cap := by omega
    by_cases h1 : (s.W.length : Int) ≤ a
    · have hr := Lib.hid (show sput s a x = (4, { s with puts := s.puts + 1 }) by simp [sput, h0, h1])
      rw [hr.out] at hpf hpb
      have w1 := Lib.hid w1
      clear h0 hw hf hm hb hc
      go_enter Try.func71, Try.ntmps71
      go_wp2_with fail
      refine T.out.mono ?_
      rintro e w' ⟨rfl, n1, rfl⟩
      simp only [hz]
      go_wp2_with fail
      go_ret
      exact ⟨_, _, hr, rfl, hpf.out, hpb.out, F, w1.out.drewN _, m1.out.drewN _⟩
    · obtain ⟨g, o, rfl, hFg, hgb, hc, hz2⟩ := hc a.toNat (by omega)
      have hr := Lib.hid (show sput s a x = (0, { s with puts := s.puts + 1, W := s.W.set a.toNat x }) by simp [sput, h0, h1])
      rw [hr.out] at hpf hpb
      have w2 := Lib.hid (w1.word (g := g) (o := o) (cap := cap) c0 a.toNat x (by simp; omega))
      have m2 := Lib.hid (m1.out.set (p := ⟨g, o + a.toNat, none⟩) (.inl hFg) (.int .u64 x))
      obtain ⟨y, hy⟩ : ∃ y, s.W.getD a.toNat 0 = y := ⟨_, rfl⟩
      rw [hy] at hc
      have hlt : a < s.W.length := by omega
      clear h0 hw hf hm hb w1 m1 hy
      go_enter Try.func71, Try.ntmps71
      go_wp2_with fail
      refine T.out.mono ?_
      rintro e w' ⟨rfl, n1, rfl⟩
      simp only [hz]
      go_wp2_with fail
      go_ret
      exact ⟨_, _, hr, rfl, hpf.out, hpb.out, F, w2.out.drewN _, m2.out.drewN _⟩

@[go_sem] theorem method_get (t : Nat) (w : World) : (method 210 31 (.pointer (some ⟨t, 0, none⟩)) "Get").run Try.prog w = .ok (70, .pointer (some ⟨t, 0, none⟩)) w := by kernel_rfl
@[go_sem] theorem method_put (t : Nat) (w : World) : (method 210 31 (.pointer (some ⟨t, 0, none⟩)) "Put").run Try.prog w = .ok (71, .pointer (some ⟨t, 0, none⟩)) w := by kernel_rfl
theorem uw_bd (x : Int) : 0 ≤ IntKind.u64.wrap x ∧ IntKind.u64.wrap x ≤ 18446744073709551615 := by rw [wrap_u64_mod]; omega
end Go.Proofs.Ytcohopobjppmaaa
