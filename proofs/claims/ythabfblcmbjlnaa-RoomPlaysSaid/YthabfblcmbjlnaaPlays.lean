/- RoomPlays: the law's loop. -/
import Derived.Test.YthabfblcmbjlnaaWorks3
import Derived.Laws.AppendOwnNone
import Derived.Test.YthabfblcmbjlnaaMix
import Derived.Test.YthabfblcmbjlnaaOpen
namespace Go.Proofs.Ythabfblcmbjlnaa
open Go.RowKit
set_option maxHeartbeats 2000000
set_option linter.unusedVariables false

/-- 'append([]uint64{}, xs...)': a list of its own. -/
theorem wpList_copy {ops : Array Oper} {rest : List Oper} {o : Oper} {a : Act} {Q : Exit → Act → World → Prop} (wr : World) (hgd : o.guard = none) (s x : Operand)
    (ho : o.op = .call { callee := .builtin .append, args := #[s, x], argTypes := #[22, 22] })
    (A : Option Addr) (l : List Int) (c : Nat) (H : Nat) (hH : wr.heap.size = H) (hs : a.eval s = .slice (some ⟨H, 0, none⟩) 0 0) (hx : a.eval x = .slice A l.length c)
    (hA : A = none → l = [] ∧ c = 0) (hcells : ∀ ad, A = some ad → ∀ j, j < l.length → wr.cell? (ad.add j) = some (.int .u64 (l.getD j 0))) (hlen : l.length * 8 ≤ 140737488355328)
    (h : ∀ g cap w', Own w' wr.heap.size (.slice (some ⟨g, 0, none⟩) l.length cap) l → Below wr.heap.size wr w' → wpList Try.prog ops Q rest (a.put o.dst (.slice (some ⟨g, 0, none⟩) l.length cap)) w') :
    wpList Try.prog ops Q (o :: rest) a (wr.alloc (.cells #[] 31)) := by
  subst hH
  obtain ⟨i0, hi, hz0, hz1, hz2⟩ := info_parts u64_info
  have hown : (wr.alloc (.cells #[] 31)).ownsRow wr.heap.size 31 1 (.slice (some ⟨wr.heap.size, 0, none⟩) 0 0) 0 [] :=
    ⟨rfl, .inr ⟨_, 0, #[], rfl, Nat.le_refl _, heap_alloc_new wr _, Nat.le_refl _, by decide, rfl, rfl⟩⟩
  have hbel : Below wr.heap.size wr (wr.alloc (.cells #[] 31)) := (Below.refl _ _).alloc (Nat.le_refl _) _
  cases A with
  | none =>
    obtain ⟨rfl, rfl⟩ := hA rfl
    refine wpList_append_own_none hgd s x 22 ho wr.heap.size 31 i0 1 Try.underlying22 hi _ 0 [] hs hown hx ?_
    exact h _ 0 _ hown hbel
  | some ad =>
    refine wpList_append_own _ hgd s x 22 ho wr.heap.size 31 i0 (.int .u64 0) 1 8 Try.underlying22 hi hz0 hz1 hz2 rfl (by decide) _ 0 [] hs hown ad l.length c (l.map (Value.int .u64)) hx (by simp) ?_ ?_ (by unfold maxLen; omega) (by omega) (by simp) ?_
    · intro j u hj
      rw [List.getElem?_map] at hj
      by_cases hjl : j < l.length
      · rw [List.getElem?_eq_getElem hjl] at hj
        have := hcells ad rfl j hjl
        rw [List.getD_eq_getElem?_getD, List.getElem?_eq_getElem hjl] at this
        injection hj with hj
        subst hj
        have hb : (ad.add j).block < wr.heap.size := Nat.lt_of_not_le fun hh => by
          unfold World.cell? at this
          rw [Array.getElem?_eq_none hh] at this
          cases this
        exact (hbel.cell hb).trans this
      · rw [List.getElem?_eq_none (by omega)] at hj; cases hj
    · intro u hu
      obtain ⟨y, _, rfl⟩ := List.mem_map.1 hu
      rfl
    · intro v' w' hown' hgr hnil
      simp only [Nat.zero_add, List.nil_append] at hown'
      rcases hown'.2 with ⟨h1, _⟩ | ⟨g, cap, cur, rfl, _⟩
      · exact absurd (hnil.1 h1).1 (by simp)
      · exact h g cap w' hown' (hbel.grown hgr (by simp) (by intro k hk; injection hk with hk; subst hk; exact Nat.le_refl _))

theorem keepCell {B : Nat} {w w' : World} {p : Addr} {v : Value} (hb : Below B w w') (hB : w.heap.size ≤ B) (h : w.cell? p = some v) : w'.cell? p = some v := by
  have hlt : p.block < w.heap.size := Nat.lt_of_not_le fun hh => by
    unfold World.cell? at h
    rw [Array.getElem?_eq_none hh] at h
    cases h
  exact (hb.cell (Nat.lt_of_lt_of_le hlt hB)).trans h

theorem Pair.drew {w : World} {B t b g cap b2 g2 cap2 : Nat} {s : St} (h : Pair w B t b g cap b2 g2 cap2 s) : Pair w.drew B t b g cap b2 g2 cap2 s :=
  ⟨h.own, h.ref, h.fits, h.n1, h.n2, h.n3, h.n4, h.n5, h.n6, h.lt, h.lb, h.lg, h.lb2, h.lg2⟩
theorem Pair.drewN {w : World} {B t b g cap b2 g2 cap2 : Nat} {s : St} (h : Pair w B t b g cap b2 g2 cap2 s) (n : Nat) : Pair (w.drewN n) B t b g cap b2 g2 cap2 s :=
  ⟨h.own, h.ref, h.fits, h.n1, h.n2, h.n3, h.n4, h.n5, h.n6, h.lt, h.lb, h.lg, h.lb2, h.lg2⟩

theorem Pair.start {W w1 w2 : World} {g1 cap1 g2 cap2 : Nat} {l : List Int} (hB : W.heap.size ≤ w1.heap.size) (h1 : Own w1 W.heap.size (.slice (some ⟨g1, 0, none⟩) l.length cap1) l)
    (hb2 : Below ((w1.alloc (.cells #[.slice (some ⟨g1, 0, none⟩) l.length cap1, .int .i64 (-1), .int .i64 0, .int .i64 0] 27)).alloc (.cells #[.pointer (some ⟨w1.heap.size, 0, none⟩)] 29)).heap.size ((w1.alloc (.cells #[.slice (some ⟨g1, 0, none⟩) l.length cap1, .int .i64 (-1), .int .i64 0, .int .i64 0] 27)).alloc (.cells #[.pointer (some ⟨w1.heap.size, 0, none⟩)] 29)) w2)
    (h2 : Own w2 ((w1.alloc (.cells #[.slice (some ⟨g1, 0, none⟩) l.length cap1, .int .i64 (-1), .int .i64 0, .int .i64 0] 27)).alloc (.cells #[.pointer (some ⟨w1.heap.size, 0, none⟩)] 29)).heap.size (.slice (some ⟨g2, 0, none⟩) l.length cap2) l)
    (hl : ∀ x ∈ l, 0 ≤ x ∧ x ≤ 18446744073709551615) (hn : (l.length : Int) ≤ 9223372036854775807) :
    Pair (w2.alloc (.cells #[.slice (some ⟨g2, 0, none⟩) l.length cap2, .int .i64 (-1), .int .i64 0, .int .i64 0] 27)) W.heap.size (w1.heap.size + 1) w1.heap.size g1 cap1 w2.heap.size g2 cap2 ⟨l, -1, 0, 0⟩ := by
  have k1 := Txw.make h1 (-1) 0 0
  obtain ⟨j1, cur, j2, j3⟩ := h1.blk
  obtain ⟨i1, cur2, i2, i3⟩ := h2.blk
  have s2 := hb2.size
  have lg := j2.lt
  simp only [World.size_alloc] at s2 i1 hb2
  have k2 := k1.below hb2 (by omega) (by omega) (by omega)
  refine ⟨k2.alloc _, ⟨Blk.new _ _ _, cur2, i2.alloc _, i3⟩, ⟨hl, hn, by simp⟩, ?_, ?_, ?_, ?_, ?_, ?_, ?_, ?_, ?_, ?_, ?_⟩ <;> omega

set_option maxRecDepth 20000 in
theorem plays_walk {W : World} {A B : Option Addr} {l : List Int} {c n c2 : Nat} (hA : A = none → l = [] ∧ c = 0) (hcells : ∀ ad, A = some ad → ∀ j, j < l.length → W.cell? (ad.add j) = some (.int .u64 (l.getD j 0))) (hlen : l.length * 8 ≤ 140737488355328)
    (hl : ∀ x ∈ l, 0 ≤ x ∧ x ≤ 18446744073709551615) (hn : (n : Int) ≤ 9223372036854775807) (hBn : B = none → n = 0)
    (hS : ∀ ad, B = some ad → ∀ i, i < n → ∃ K x y z : Int, W.cell? (ad.add (i * 4)) = some (.int .i64 K) ∧ W.cell? ⟨(ad.add (i * 4)).block, (ad.add (i * 4)).off + 1, none⟩ = some (.int .u64 x) ∧ W.cell? ⟨(ad.add (i * 4)).block, (ad.add (i * 4)).off + 2, none⟩ = some (.int .u64 y) ∧ W.cell? ⟨(ad.add (i * 4)).block, (ad.add (i * 4)).off + 3, none⟩ = some (.int .u64 z) ∧
      0 ≤ x ∧ x ≤ 18446744073709551615 ∧ 0 ≤ y ∧ y ≤ 18446744073709551615 ∧ 0 ≤ z ∧ z ≤ 18446744073709551615) :
    Calls Try.prog 3 #[.slice A l.length c, .slice B n c2] W fun e w' => e = .returned (.bool true) ∧ Below W.heap.size W w' := by
  go_enter Try.func3, Try.ntmps3
  go_wp2_with (first
    | (at_builtin; refine wpList_copy W rfl (.tmp 8) (.tmp 9) rfl A l c W.heap.size rfl rfl rfl hA hcells hlen ?_; intro g1 cap1 w1 hown1 hbel1; have hs1 := hbel1.size)
    | (at_builtin; refine wpList_copy _ rfl (.tmp 15) (.tmp 16) rfl A l c (w1.heap.size + 1 + 1) (by simp) rfl rfl hA (fun ad h j hj => keepCell ((hbel1.alloc hs1 _).alloc (by simp; omega) _) (Nat.le_refl _) (hcells ad h j hj)) hlen ?_; intro g2 cap2 w2 hown2 hbel2; have hp := Lib.hid (Pair.start hs1 hown1 hbel2 hown2 hl (by omega)); have hbelx := Lib.hid (Below.trans ((hbel1.alloc hs1 _).alloc (by simp; omega) _) (hbel2.mono (by simp; omega))); clear hown1 hown2)
    | go_in)
  generalize w2.heap.size = b2 at *
  generalize w1.heap.size + 1 = t at *
  generalize w1.heap.size = b at *
  go_loopg [7] n (fun gk c7 wr => ∃ (k : Nat) (s : St), gk + k = n ∧ c7 = .int .i64 (k : Int) ∧ Pair wr W.heap.size t b g1 cap1 b2 g2 cap2 s ∧ Below W.heap.size W wr)
  case atStart => exact ⟨0, _, rfl, rfl, hp.out, hbelx.out.alloc hbelx.out.size _⟩
  case round =>
    obtain ⟨k, s, hk, rfl, hp1, hbelr⟩ := hrel
    rcases Nat.lt_or_ge k n with hlt | hge
    · obtain ⟨ad, rfl⟩ : ∃ ad, B = some ad := by
        cases B with
        | none => have := hBn rfl; omega
        | some ad => exact ⟨ad, rfl⟩
      obtain ⟨K, x, y, z, a0, a1, a2, a3, x0, x1, y0, y1, z0, z1⟩ := hS ad rfl k hlt
      have g0 := Lib.hid a0
      have g1' := Lib.hid a1
      have g2' := Lib.hid a2
      have g3' := Lib.hid a3
      have a0 := keepCell hbelr (Nat.le_refl _) a0
      have a1 := keepCell hbelr (Nat.le_refl _) a1
      have a2 := keepCell hbelr (Nat.le_refl _) a2
      have a3 := keepCell hbelr (Nat.le_refl _) a3
      have hszr := hbelr.size
      have hk' : (k : Int) < n := by omega
      clear hcells hS hBn hA
      have hp1d := hp1.drew
      have hbelrd := hbelr.drew
      go_wp2
      refine wp_region_mix (fun _ => True) [0, 0, 0, 0, 0, 1, 2, 0, 0, 0, 0, 0, 1, 0, 0, 1, 0, 0, 0, 1, 2, 0, 0, 0, 0, 0, 0, 1, 0, 0, 1, 0, 0, 0, 1, 0, 0] (List.range 37) (by kernel_rfl) (by kernel_rfl) (fun _ _ h => h) trivial ?_
      repeat ((first | refine wpMix_any rfl rfl (fun K hK => ?_) | refine wpMix_loc rfl rfl (fun K hK => ?_)); go_simp; refine hK _ _ ?_; clear hK K)
      refine wpMix_loud rfl rfl (fun n K hK => ?_)
      go_wp2_with (go_at_call 5; refine (step_b (hp1.drewN _) x0 x1 y0 y1 z0 z1 hszr).mono ?_; rintro e w3 ⟨s1, rfl, hp3, hbel3⟩)
      refine hK _ _ trivial ?_; clear hK K
      have hbel4 := Lib.hid (Below.trans (below_drewNs hbelr _) hbel3)
      have c0 := hp3.own.1.cell 0
      have c1 := hp3.own.2.1.cell 0
      have c2 := hp3.ref.1.cell 0
      have c3 := hp3.own.2.1.cell 3
      have c4 := hp3.ref.1.cell 3
      simp only [List.getElem?_toArray, List.getElem?_cons_zero, List.getElem?_cons_succ] at c0 c1 c2 c3 c4
      repeat ((first | refine wpMix_any rfl rfl (fun K hK => ?_) | refine wpMix_loc rfl rfl (fun K hK => ?_)); go_simp; refine hK _ _ ?_; clear hK K)
      refine wpMix_loud rfl rfl (fun n K hK => ?_)
      go_wp2_with (go_at_call 6; refine (words_b (hp3.own.2.lies.drewN _) (hp3.ref.lies.drewN _) (hp3.fits.len)).mono ?_; rintro e _ ⟨⟨nn, rfl⟩, rfl⟩)
      refine hK _ _ trivial ?_; clear hK K
      repeat ((first | refine wpMix_any rfl rfl (fun K hK => ?_) | refine wpMix_loc rfl rfl (fun K hK => ?_)); go_simp; refine hK _ _ ?_; clear hK K)
      refine wpMix_nil (fun n => ?_)
      go_wp2
      obtain ⟨k', rfl⟩ : ∃ k', gk = k' + 1 := ⟨gk - 1, by omega⟩
      go_roundg k'
      case measure => omega
      case rel => exact ⟨k + 1, s1, by omega, by go_num, hp3.drewN _, below_drewNs hbel4.out _⟩
    · obtain rfl : k = n := by omega
      go_wp2_with (first
        | (go_at_call 7; refine (nothing_b _).mono ?_; rintro e _ ⟨⟨nn, rfl⟩, rfl⟩)
        | (go_at_call 8; refine (works_b _).mono ?_; rintro e w3 ⟨hb3, rfl⟩))
      go_ret
      exact ⟨rfl, (below_drewNs hbelr nn).trans (hb3.mono hbelr.size)⟩

theorem roomPlays_walk {W : World} {A B : Option Addr} {l : List Int} {c n c2 : Nat} (h1 : WordsIn W A l c) (h2 : RowsIn W B n c2 [.i64, .u64, .u64, .u64]) (W0 : World) (e0 : W0 = W := by rfl) :
    Calls Try.prog 3 #[.slice A l.length c, .slice B n c2] W fun e w' => e = .returned (.bool true) ∧ Below W.heap.size W w' :=
  plays_walk h1.nil h1.cell (by have := h1.len; omega) h1.bd (by have := h2.len; omega) (fun h => (h2.nil h).1) (fun ad h i hi => by
    obtain ⟨K, k1, _⟩ := h2.cell ad h i hi 0 _ rfl
    obtain ⟨x, x1, x2⟩ := h2.cell ad h i hi 1 _ rfl
    obtain ⟨y, y1, y2⟩ := h2.cell ad h i hi 2 _ rfl
    obtain ⟨z, z1, z2⟩ := h2.cell ad h i hi 3 _ rfl
    have x3 := bd_u64 x2
    have y3 := bd_u64 y2
    have z3 := bd_u64 z2
    rw [addr_flat (by omega)] at x1 y1 z1
    exact ⟨K, x, y, z, k1, x1, y1, z1, x3.1, x3.2, y3.1, y3.2, z3.1, z3.2⟩)
end Go.Proofs.Ythabfblcmbjlnaa
