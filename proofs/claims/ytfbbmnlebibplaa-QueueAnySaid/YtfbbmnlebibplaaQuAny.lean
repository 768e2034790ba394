/- QueueAny: the law's walk. -/
import Derived.Test.YtfbbmnlebibplaaQuK
import Derived.Test.YtfbbmnlebibplaaQuRf
import Derived.Test.YtfbbmnlebibplaaIn
namespace Go.Proofs.Ytfbbmnlebibplaa
open Go.RowKit
set_option maxHeartbeats 4000000
set_option linter.unusedVariables false
set_option linter.unusedSimpArgs false

/-- any call of any queue ends -/
def CallP (t n : Nat) (F0 : Nat → Prop) (w0 : World) (e : Ending) (w' : World) : Prop := ∃ x b s', e = .returned (.tuple #[.int .i64 x, .bool b]) ∧ Lft t n F0 w0 s' w'
theorem call_b {t n : Nat} {F F0 : Nat → Prop} {s : St} {p kind on word : Int} {w w0 : World} (hw : Txw w t F s) (hf : Fits s) (hb : Bud s (n + 11)) (hp : 0 ≤ p) (hp' : p ≤ 18446744073709551615) (hx : 0 ≤ word) (hx' : word ≤ 18446744073709551615) (hk : 1 ≤ kind) (hk' : kind ≤ 4) (hm : Fr F0 w0 F w) :
    Calls Try.prog 16 #[.pointer (some ⟨t, 0, none⟩), .int .u64 p, .agg #[.int .i64 kind, .int .i64 on, .int .u64 word]] w (CallP t n F0 w0) := by
  have ht := hw.alloc (.cells #[.int .i64 kind, .int .i64 on, .int .u64 word] 35)
  have hmm := hm.alloc (.cells #[.int .i64 kind, .int .i64 on, .int .u64 word] 35)
  clear hw hm
  have hcs : kind = 1 ∨ kind = 2 ∨ kind = 3 ∨ kind = 4 := by omega
  rcases hcs with rfl | rfl | rfl | rfl
  · go_enter Try.func16, Try.ntmps16
    go_wp2_with fail
    refine (quput_b ht hf hb (by omega) hp hp' hx hx' hmm).mono ?_
    rintro e w1 ⟨er, s1, q, rfl, h1⟩
    clear ht hmm
    go_wp2_with (go_at_call 14; refine (num_b _ _).mono ?_; rintro e _ ⟨rfl, rfl⟩)
    go_ret2
    exact ⟨_, _, s1, rfl, h1⟩
  · go_enter Try.func16, Try.ntmps16
    go_wp2_with fail
    refine (qutake_b ht hf (hb.mono (n := n + 10) (by omega)) (by omega) hp hp' hmm).mono ?_
    rintro e w1 ⟨x, bo, er, s1, q, dx, dx', rfl, h1⟩
    clear ht hmm
    go_wp2_with (go_at_call 14; refine (num_b _ _).mono ?_; rintro e _ ⟨rfl, rfl⟩)
    all_goals go_ret2
    all_goals exact ⟨_, _, s1, rfl, h1⟩
  · go_enter Try.func16, Try.ntmps16
    go_wp2_with fail
    refine (qufirst_b ht hf (hb.mono (n := n + 2) (by omega)) hp hp' hmm).mono ?_
    rintro e w1 ⟨x, bo, er, s1, q, dx, dx', rfl, f1, b1, h1⟩
    clear ht hmm
    go_wp2_with (go_at_call 14; refine (num_b _ _).mono ?_; rintro e _ ⟨rfl, rfl⟩)
    all_goals go_ret2
    all_goals exact ⟨_, _, s1, rfl, f1, b1, h1⟩
  · go_enter Try.func16, Try.ntmps16
    go_wp2_with fail
    refine (qulen_b ht hf (hb.mono (n := n + 1) (by omega)) hp hp' hmm).mono ?_
    rintro e w1 ⟨x, er, s1, q, dx, dx', rfl, f1, b1, h1⟩
    clear ht hmm
    go_wp2_with (go_at_call 14; refine (num_b _ _).mono ?_; rintro e _ ⟨rfl, rfl⟩)
    all_goals go_ret2
    all_goals exact ⟨_, _, s1, rfl, f1, b1, h1⟩

theorem same_b {va vb : Value} {l : List Int} {w : World} (h1 : Lies w va l) (h2 : Lies w vb l) (hn : (l.length : Int) ≤ 9223372036854775807) :
    Calls Try.prog 8 #[va, vb] w fun e w' => e = .returned (.bool true) ∧ ∃ n, w' = w.drewN n :=
  (words_b h1 h2 hn).mono fun e w' ⟨h, he⟩ => ⟨by rw [he, decide_eq_true rfl], h⟩
theorem Lies.keepB {w w' : World} {v : Value} {l : List Int} {B : Nat} (h : Lies w v l) (hb : Below B w w') (hB : w.heap.size ≤ B) : Lies w' v l := h.below (hb.mono hB)

set_option maxRecDepth 100000 in
theorem queueAny_walk {W : World} {A : Option Addr} {l : List Int} {c : Nat} (h : WordsIn W A l c) (p : Int) (hp : (Lit.int .u64 p).wf = true) (W0 : World) (e0 : W0 = W := by rfl) :
    Calls Try.prog 4 #[.slice A l.length c, .int .u64 p] W (TrueP W.heap.size W) := by
  have hL := Lib.hid h.lies
  have hlen := h.len
  have hbd := Lib.hid h.bd
  obtain ⟨p0, p1⟩ := bd_u64 hp
  clear h hp
  have hlw : (l.length : Int) ≤ 4611686018427387904 := by omega
  have hlm : (0 + l.length) * 8 ≤ 140737488355328 := by omega
  have hl1 := Lib.hid (hL.out.alloc (.cells #[] 33))
  go_enter Try.func4, Try.ntmps4
  go_wp2_with (at_builtin; refine wpList_words _ rfl (.tmp 12) (.tmp 13) rfl (.slice (some ⟨W.heap.size, 0, none⟩) 0 0) (.slice A l.length c) [] l rfl (Wl.new W [] (by simp)) rfl hl1.out hlm ?_; intro A1 c1 w1 hc1 hv1 hf1)
  simp only [List.length_nil, Nat.zero_add, List.nil_append] at hc1 hv1 hf1
  have hB0 : ∀ k, own (.slice (some ⟨W.heap.size, 0, none⟩) 0 0) k → W.heap.size ≤ k := fun k hk => by
    obtain rfl : W.heap.size = k := by simpa [own, Value.ownBlock] using hk
    exact Nat.le_refl _
  have hb1 : Below W.heap.size W w1 := ((Below.refl _ _).alloc (Nat.le_refl _) (.cells #[] 33)).trans (hf1.below hB0 (by simp))
  have ho1 := hf1.ge (B := W.heap.size) hB0 (by simp)
  have hw2 := Wld.make hv1 (-1) 0 0
  have ht2 := Txw.make hw2
  simp only [World.size_alloc] at ht2
  have hb2 := (hb1.alloc hb1.size (.cells #[.slice A1 l.length c1, .int .i64 (-1), .int .i64 0, .int .i64 0] 40)).alloc (by simp; have := hb1.size; omega) (.cells #[.pointer (some ⟨w1.heap.size, 0, none⟩)] 28)
  have hs1 := hb1.size
  have hF2 : ∀ k, (k = w1.heap.size + 1 ∨ k = w1.heap.size ∨ own (.slice A1 l.length c1) k) → W.heap.size ≤ k := fun k hk => by
    rcases hk with h | h | h
    · omega
    · omega
    · exact ho1 k h
  have HF2 := Lib.hid hF2
  have hL2 := Lib.hid (hL.out.below hb2)
  have hb2' := Lib.hid hb2
  have hf2 : Fits ⟨l, -1, 0, 0⟩ := ⟨hbd.out, by simp only; omega, by simp⟩
  have hbud2 : Bud ⟨l, -1, 0, 0⟩ 1000000 := by unfold Bud; simp
  clear hv1 hf1 hw2 hb1 hB0 ho1 hl1 hb2 hF2 hlm hc1
  have hst : ((⟨l, -1, 0, 0⟩ : St).W) = l := rfl
  have hok2 : Ok ⟨l, -1, 0, 0⟩ 1000000 := ⟨by simp, hbud2⟩
  generalize (⟨l, -1, 0, 0⟩ : St) = s2 at *
  generalize hWW : (w1.alloc (.cells #[.slice A1 l.length c1, .int .i64 (-1), .int .i64 0, .int .i64 0] 40)).alloc (.cells #[.pointer (some ⟨w1.heap.size, 0, none⟩)] 28) = w2 at *
  clear hWW
  have Hst := Lib.hid hst
  clear hst
  have tF : ∀ k, (k = w1.heap.size + 1 ∨ k = w1.heap.size ∨ own (.slice A1 l.length c1) k) → W.heap.size ≤ k := HF2.out
  generalize hFe : (fun k => k = w1.heap.size + 1 ∨ k = w1.heap.size ∨ own (.slice A1 l.length c1) k) = F at *
  have HF : Hid (∀ k, F k → W.heap.size ≤ k) := Lib.hid (by rw [← hFe]; exact tF)
  clear hFe tF HF2
  generalize w1.heap.size + 1 = t at *
  refine (whole_b hL2.out hbd.out hlw p0 p1).mono ?_
  rintro e w3 ⟨u, nd, ok, q1, rfl, hv3, ho3, hb3⟩
  have ht3 := ht2.keep fun k hk => hb3.block k (ht2.lt k hk)
  have hB3 := Lib.hid (hb2'.out.trans (hb3.mono hb2'.out.size))
  have hL3 := Lib.hid (hL2.out.below hb3)
  have hv3' := Lib.hid hv3
  have ho3' : Hid (∀ k, own u k → ¬ F k) := Lib.hid fun k hk hf => by have := ht2.lt k hf; have := ho3 k hk; omega
  clear ht2 hv3 ho3 hb3 hL2 hb2'
  go_wp2_with fail
  refine (quwords_b (n := 800000) ht3 hf2 (hbud2.mono (by omega)) p0 p1 (Fr.refl _ _)).mono ?_
  rintro e w4 ⟨vw, lw, er, s4, q4, rfl, f4, b4, hv4, ho4, F4, hw4, hm4, hn4⟩
  have hlaw := qWords_law (m := 868920) (l := nd) (ok := ok) (hok2.mono (by omega)) hf2 p0 (by rw [Hst.out]; exact q1.out)
  rw [q4.out] at hlaw
  have q1 := Lib.hid q1.out
  have hnin := Lib.hid (whole_in hbd.out q1.out)
  have hnlen := whole_len q1.out
  obtain ⟨hl1, hl2⟩ := hlaw
  have hW4 : s4.W = l ∧ Ok s4 800000 := by
    rcases Bool.eq_false_or_eq_true ok with hk | hk
    · obtain ⟨_, _, h3, h4⟩ := hl1 hk; exact ⟨h3.trans Hst.out, h4.mono (by omega)⟩
    · obtain ⟨_, _, h3, h4⟩ := hl2 hk; exact ⟨h3.trans Hst.out, h4.mono (by omega)⟩
  obtain ⟨hW4, hok4⟩ := hW4
  obtain ⟨b, v5, d0, d1, hl5⟩ := hw4.lies
  rw [hW4] at hl5
  have HW4 := Lib.hid hW4
  have hlt3 := ht3.lt
  have hv3w := Lib.hid (hv3'.out.fr hm4 ho3'.out)
  have hB4 := Lib.hid (hB3.out.trans (hm4.below HF.out hB3.out.size))
  have hL4 := Lib.hid (hL.out.below hB4.out)
  have hv4w := Lib.hid hv4.lies
  have hT4 := Lib.hid hw4
  have hl5' := Lib.hid hl5
  have HN4 := Lib.hid hn4
  have HF4 : Hid (∀ k, F4 k → W.heap.size ≤ k) := Lib.hid (hm4.ge HF.out hB3.out.size)
  obtain ⟨Aw, cw, rfl, hcw⟩ := hv4.shape
  have hlwi : (lw.length : Int) ≤ 65537 := by
    rcases Bool.eq_false_or_eq_true ok with hk | hk
    · obtain ⟨h3, _⟩ := hl1 hk; simp only at h3; rw [h3]; simpa using hnlen
    · obtain ⟨h3, _⟩ := hl2 hk; simp only at h3; rw [h3]; simp
  clear ht3 hlt3 hm4 hw4 hl5 hB3 hL3 hv3' ho3' hn4 ho4 hv4 hW4 hf2 hbud2 hok2 q4
  go_wp2_with fail
  refine (same_b hl5'.out hL4.out (by omega)).mono ?_
  rintro e _ ⟨rfl, n5, rfl⟩
  cases ok with
  | true =>
    obtain ⟨hr1, hr2, j1, j2⟩ := hl1 rfl
    simp only at hr1 hr2
    rw [Hst.out] at hr1
    subst hr2
    have HR1 := Lib.hid hr1
    clear hl1 hl2 hr1 d0 d1 hcw j1 j2
    go_wp2_with (go_at_call 14; refine (num_b _ _).mono ?_; rintro e _ ⟨rfl, rfl⟩)
    refine (refwords_b (hL4.out.drewN n5) (hv3w.out.lies.drewN n5) hbd.out hnin.out (by omega)).mono ?_
    rintro e w6 ⟨u6, rfl, hv6, ho6, hb6⟩
    have hvw6 : Hid (Lies w6 (.slice Aw lw.length cw) (nd.map fun x => l.getD x.toNat 0)) := Lib.hid (by rw [← HR1.out]; exact (hv4w.out.drewN n5).below hb6)
    have h66 := Lib.hid hv6.lies
    have hB6 := Lib.hid ((below_drewNs hB4.out n5).trans (hb6.mono (by have := hB4.out.size; simpa using this)))
    have hT6 := Lib.hid ((hT4.out.drewN n5).keep (w' := w6) fun k hk => hb6.block k (hT4.out.lt k hk))
    clear hv6 ho6 hb6
    go_wp2_with fail
    refine (same_b hvw6.out h66.out (by simp; omega)).mono ?_
    rintro e _ ⟨rfl, n7, rfl⟩
    have hTE := Lib.hid (hT6.out.drewN n7)
    have hBE := Lib.hid (below_drewNs hB6.out n7)
    have hfE := f4
    have hbE : Bud s4 (1000 + 11 * 4) := b4.mono (by omega)
    have HFE : Hid (∀ k, F4 k → W.heap.size ≤ k) := HF4
    clear hvw6 h66 hB6 hT6 HR1 hv4w hv3w hT4 hB4 hL4 hl5' f4 b4
    go_wp2_with fail
    go_loopg [11] 4 (fun gk c11 wr => ∃ (k : Nat) (s7 : St) (F7 : Nat → Prop), gk + k = 5 ∧ 1 ≤ k ∧ c11 = .int .i64 (k : Int) ∧ Fits s7 ∧ Bud s7 (1000 + 11 * gk) ∧ Txw wr t F7 s7 ∧ Hid (∀ k, F7 k → W.heap.size ≤ k) ∧ Below W.heap.size W wr)
    case atStart => exact ⟨1, _, _, rfl, by omega, rfl, hfE, hbE, hTE.out, HFE, hBE.out⟩
    case round =>
      obtain ⟨k, s7, F7, hgk, hk1, rfl, f7, b7, hT7, HF7, hB7⟩ := hrel
      have hgk' := Lib.hid hgk
      clear hTE hBE hfE hbE HFE hgk
      by_cases hk4 : k ≤ 4
      · obtain ⟨m, rfl⟩ : ∃ m, gk = m + 1 := ⟨gk - 1, by have := hgk'.out; omega⟩
        have hki1 : 1 ≤ (k : Int) := by omega
        have hki4 : (k : Int) ≤ 4 := by omega
        have b7' : Bud s7 ((1000 + 11 * m) + 11) := b7.mono (by omega)
        clear b7 hk4
        go_wp2_with fail
        refine (call_b hT7 f7 b7' p0 p1 (by omega) (by omega) hki1 hki4 (Fr.refl _ _)).mono ?_
        rintro e w8 ⟨x8, bo8, s8, rfl, f8, b8, F8, hw8, hm8⟩
        have hB8 := Lib.hid (hB7.trans (hm8.below HF7.out hB7.size))
        have HF8 : Hid (∀ k, F8 k → W.heap.size ≤ k) := Lib.hid (hm8.ge HF7.out hB7.size)
        have hw8' := Lib.hid hw8
        clear hT7 hB7 hm8 hw8
        go_wp2
        go_roundg m
        case measure => omega
        case rel => exact ⟨k + 1, s8, F8, by have := hgk'.out; omega, by omega, by go_num, f8, b8, hw8'.out, HF8, hB8.out⟩
      · have hki4 : 4 < (k : Int) := by omega
        clear hk4 hT7
        go_wp2_with fail
        refine (works_b _).mono ?_
        rintro e w9 ⟨rfl, hb9⟩
        have hB9 := Lib.hid (hB7.trans (hb9.mono hB7.size))
        clear hB7 hb9
        go_wp2
        go_ret
        exact ⟨rfl, hB9.out⟩
  | false =>
    obtain ⟨hr1, hr2, j1, j2⟩ := hl2 rfl
    simp only at hr1 hr2
    subst hr1
    have Her := Lib.hid hr2
    have her1 : (er != 0) = true := by rcases hr2 with rfl | rfl <;> decide
    obtain ⟨e9, s9, q9, he9, hW9, hok9⟩ := qDrop_law (m := 700000) (hok4.mono (by omega)) f4 p0 (by rw [HW4.out]; exact q1.out)
    have Hq9 := Lib.hid q9
    have He9 := Lib.hid he9
    have HW9 : Hid (s9.W = l) := Lib.hid (hW9.trans HW4.out)
    clear hl1 hl2 d0 d1 hcw j1 j2 hr2 q9 he9 hW9
    have key : ∀ (ex : Int) (w6 : World), True := fun _ _ => trivial
    clear key
    rcases Her.out with rfl | rfl
    all_goals clear her1
    all_goals go_wp2_with (go_at_call 14; refine (num_b _ _).mono ?_; rintro e _ ⟨rfl, rfl⟩)
    all_goals refine (qudrop_b (n := 400000) (hT4.out.drewN n5) f4 (b4.mono (by omega)) (by omega) p0 p1 (Fr.refl _ _)).mono ?_
    all_goals rintro e w6 ⟨e9', s9', q, rfl, f9, b9, F9, hw9, hm9⟩
    all_goals obtain ⟨rfl, rfl⟩ : e9 = e9' ∧ s9 = s9' := by have := Hq9.out.symm.trans q.out; simpa using this
    all_goals have hB9 := Lib.hid ((below_drewNs hB4.out n5).trans (hm9.below HF4.out (by have := hB4.out.size; simpa using this)))
    all_goals have HF9 : Hid (∀ k, F9 k → W.heap.size ≤ k) := Lib.hid (hm9.ge HF4.out (by have := hB4.out.size; simpa using this))
    all_goals obtain ⟨b6, v6, d0, d1, hl6⟩ := hw9.lies
    all_goals rw [HW9.out] at hl6
    all_goals have hl6' := Lib.hid hl6
    all_goals have hL9 := Lib.hid (hL.out.below hB9.out)
    all_goals have hT9 := Lib.hid hw9
    all_goals clear q hm9 hw9 hl6 hT4 hB4 hL4 hl5' f4 b4 Hq9 hv4w hv3w
    all_goals rcases He9.out with rfl | rfl
    all_goals go_wp2_with (go_at_call 14; refine (num_b _ _).mono ?_; rintro e _ ⟨rfl, rfl⟩)
    all_goals refine (same_b hl6'.out hL9.out (by omega)).mono ?_
    all_goals rintro e _ ⟨rfl, n7, rfl⟩
    all_goals have hTE := Lib.hid (hT9.out.drewN n7)
    all_goals have hBE := Lib.hid (below_drewNs hB9.out n7)
    all_goals have hfE := f9
    all_goals have hbE : Bud s9 (1000 + 11 * 4) := b9.mono (by omega)
    all_goals have HFE : Hid (∀ k, F9 k → W.heap.size ≤ k) := HF9
    all_goals clear hT9 hB9 hL9 hl6' f9 b9 d0 d1 He9
    all_goals go_wp2_with fail
    all_goals
      go_loopg [11] 4 (fun gk c11 wr => ∃ (k : Nat) (s7 : St) (F7 : Nat → Prop), gk + k = 5 ∧ 1 ≤ k ∧ c11 = .int .i64 (k : Int) ∧ Fits s7 ∧ Bud s7 (1000 + 11 * gk) ∧ Txw wr t F7 s7 ∧ Hid (∀ k, F7 k → W.heap.size ≤ k) ∧ Below W.heap.size W wr)
      case atStart => exact ⟨1, _, _, rfl, by omega, rfl, hfE, hbE, hTE.out, HFE, hBE.out⟩
      case round =>
        obtain ⟨k, s7, F7, hgk, hk1, rfl, f7, b7, hT7, HF7, hB7⟩ := hrel
        have hgk' := Lib.hid hgk
        clear hTE hBE hfE hbE HFE hgk
        by_cases hk4 : k ≤ 4
        · obtain ⟨m, rfl⟩ : ∃ m, gk = m + 1 := ⟨gk - 1, by have := hgk'.out; omega⟩
          have hki1 : 1 ≤ (k : Int) := by omega
          have hki4 : (k : Int) ≤ 4 := by omega
          have b7' : Bud s7 ((1000 + 11 * m) + 11) := b7.mono (by omega)
          clear b7 hk4
          go_wp2_with fail
          refine (call_b hT7 f7 b7' p0 p1 (by omega) (by omega) hki1 hki4 (Fr.refl _ _)).mono ?_
          rintro e w8 ⟨x8, bo8, s8, rfl, f8, b8, F8, hw8, hm8⟩
          have hB8 := Lib.hid (hB7.trans (hm8.below HF7.out hB7.size))
          have HF8 : Hid (∀ k, F8 k → W.heap.size ≤ k) := Lib.hid (hm8.ge HF7.out hB7.size)
          have hw8' := Lib.hid hw8
          clear hT7 hB7 hm8 hw8
          go_wp2
          go_roundg m
          case measure => omega
          case rel => exact ⟨k + 1, s8, F8, by have := hgk'.out; omega, by omega, by go_num, f8, b8, hw8'.out, HF8, hB8.out⟩
        · have hki4 : 4 < (k : Int) := by omega
          clear hk4 hT7
          go_wp2_with fail
          refine (works_b _).mono ?_
          rintro e w9 ⟨rfl, hb9⟩
          have hB9 := Lib.hid (hB7.trans (hb9.mono hB7.size))
          clear hB7 hb9
          go_wp2
          go_ret
          exact ⟨rfl, hB9.out⟩
end Go.Proofs.Ytfbbmnlebibplaa
