/- Words that are lent with marks behind them, and looked at again. -/
import Derived.Test.YtgbgodhkehnbdaaWl
namespace Go.Proofs.Ytgbgodhkehnbdaa
open Go.RowKit
set_option maxHeartbeats 2000000
set_option linter.unusedVariables false

/-- lent: the words, and three marks behind them -/
def Lent (w : World) (v : Value) (l : List Int) : Prop := ∃ A cap, v = .slice A l.length cap ∧ l.length + 3 ≤ cap ∧ Wl w (.slice A (l.length + 3) cap) (l ++ [7000, 7001, 7002])
theorem Lent.drewN {w : World} {v : Value} {l : List Int} (h : Lent w v l) (n : Nat) : Lent (w.drewN n) v l := h
theorem Lent.wl {w : World} {v : Value} {l : List Int} (h : Lent w v l) : Wl w v l := by
  obtain ⟨A, cap, rfl, hc, h⟩ := h
  exact Wl.cut (m := [7000, 7001, 7002]) (by simpa using h) (by simpa using hc)

theorem lend_b {v : Value} {l : List Int} {w : World} (h : Lies w v l) (hlen : (l.length + 3) * 8 ≤ 140737488355328) :
    Calls Try.prog 7 #[v] w fun e w' => ∃ u, e = .returned u ∧ Lent w' u l ∧ Below w.heap.size w w' ∧ ∀ k, own u k → w.heap.size ≤ k := by
  have hl' := Lib.hid (h.alloc (.cells #[] 33))
  obtain ⟨A, cp, rfl, hcp, _, _⟩ := h
  have hln : (l.length : Int) ≤ 17592186044413 := by omega
  go_enter Try.func7, Try.ntmps7
  go_wp2_with (first
    | (at_builtin; refine wpList_words _ rfl (.tmp 5) (.tmp 6) rfl (.slice (some ⟨w.heap.size, 0, none⟩) 0 0) (.slice A l.length cp) [] l rfl (Wl.new w [] (by simp)) rfl hl'.out (by simp; omega) ?_; intro A1 c1 w1 hc1 hw1 hf1))
  have hB : ∀ k, own (.slice (some ⟨w.heap.size, 0, none⟩) 0 0) k → w.heap.size ≤ k := fun k hk => by
    obtain rfl : w.heap.size = k := by simpa [own, Value.ownBlock] using hk
    exact Nat.le_refl _
  have hb1 : Below w.heap.size w w1 := ((Below.refl _ _).alloc (Nat.le_refl _) (.cells #[] 33)).trans (hf1.below hB (by simp))
  have ho1 := hf1.ge (B := w.heap.size) hB (by simp)
  simp only [List.nil_append, List.length_nil, Nat.zero_add] at hw1 ho1 hc1 ⊢
  have hb1 := Lib.hid hb1
  have ho1 := Lib.hid ho1
  clear hB hf1
  go_loopg [3, 4] 3 (fun gk c3 c4 wr => ∃ (j : Nat) (A2 : Option Addr) (c2 : Nat) (m : List Int), gk + j = 3 ∧ m = l ++ (List.range j).map (fun i : Nat => 7000 + (i : Int)) ∧ c4 = .int .i64 (j : Int) ∧ c3 = .slice A2 m.length c2 ∧ m.length ≤ c2 ∧ Wl wr (.slice A2 m.length c2) m ∧ Below w.heap.size w wr ∧ ∀ k, own (.slice A2 m.length c2) k → w.heap.size ≤ k)
  case atStart => exact ⟨0, A1, c1, l, rfl, by simp, rfl, rfl, by omega, hw1, hb1.out, ho1.out⟩
  case round =>
    obtain ⟨j, A2, c2, m, hgk, hm, rfl, rfl, hc2, hw2, hb2, ho2⟩ := hrel
    have hml : m.length = l.length + j := by rw [hm]; simp
    have hmi : (m.length : Int) ≤ 17592186044416 := by omega
    have Hm := Lib.hid hm
    have Hml := Lib.hid hml
    have Ho2 := Lib.hid ho2
    have Hb2 := Lib.hid hb2
    clear hm ho2 hb2
    by_cases hj : j < 3
    · obtain ⟨g, rfl⟩ : ∃ g, gk = g + 1 := ⟨gk - 1, by omega⟩
      have hji : (j : Int) < 3 := by omega
      have hgk' := Lib.hid hgk
      have hmi3 : (m.length + 1) * 8 ≤ 140737488355328 := by omega
      clear hgk hml hj
      go_wp2_with (at_builtin; refine wpList_word wr rfl (.tmp 12) (.tmp 16) rfl (.slice A2 m.length c2) m (7000 + (j : Int)) rfl hw2 rfl hmi3 ?_; intro A3 c3 w3 hc3 hw3 hf3)
      have hb3 := Hb2.out.trans (hf3.below (fun k hk => Ho2.out k hk) Hb2.out.size)
      have ho3 := hf3.ge (B := w.heap.size) (fun k hk => Ho2.out k hk) Hb2.out.size
      go_roundg g
      case measure => omega
      case rel => exact ⟨j + 1, A3, c3, m ++ [7000 + (j : Int)], by have := hgk'.out; omega, by rw [Hm.out, List.range_succ]; simp, by go_num, by simp, by simpa using hc3, by simpa using hw3, hb3, by simpa using ho3⟩
    · obtain rfl : j = 3 := by omega
      have e3 : m = l ++ [7000, 7001, 7002] := by rw [Hm.out]; rfl
      have hc3 : (l.length : Int) ≤ c2 := by omega
      have hw2' := Lib.hid hw2
      clear hw2 hgk
      go_wp2
      go_ret
      rw [e3] at hw2' Ho2 hml hc2
      refine ⟨_, rfl, ⟨A2, c2, rfl, by simpa using hc2, by simpa using hw2'.out⟩, Hb2.out, fun k hk => Ho2.out k (own_len hk)⟩

theorem kept_b {v u : Value} {l : List Int} {w : World} (h : Lent w v l) (hu : Lies w u l) (hlen : (l.length + 3) * 8 ≤ 140737488355328) :
    Calls Try.prog 10 #[v, u] w fun e w' => (∃ n, w' = w.drewN n) ∧ e = .returned (.bool true) := by
  have hL := Lib.hid h.wl.lies
  have hU := Lib.hid hu
  obtain ⟨A, cap, rfl, hc, hw⟩ := h
  obtain ⟨A2, c2, rfl, hc2, hu1, hu2⟩ := hu
  clear hu1 hu2
  obtain ⟨g, off, cap', hv, _, _, _, hcell⟩ := Rowv.at_ hw (by simp)
  injection hv with hv1 hv2 hv3
  subst hv1
  subst hv3
  clear hv2
  have d0 : ∀ j : Nat, j < 3 → w.cell? ⟨g, off + (l.length + j), none⟩ = some (.int .u64 (7000 + (j : Int))) := fun j hj => by
    rw [(hcell (l.length + j) (by simp; omega)).1]
    simp only [u64s, List.map_append]
    rw [List.getElem?_append_right (by simp), List.length_map, show l.length + j - l.length = j by omega]
    match j, hj with
    | 0, _ => simp
    | 1, _ => simp
    | 2, _ => simp
  have d := Lib.hid d0
  clear d0
  have hln : (l.length : Int) ≤ 17592186044413 := by omega
  have hcc : (l.length : Int) + 3 ≤ cap := by omega
  clear hcell hw
  go_enter Try.func10, Try.ntmps10
  go_wp2_with fail
  refine (words_b hL.out hU.out (by omega)).mono ?_
  rintro e _ ⟨⟨n1, rfl⟩, rfl⟩
  have hdt : decide (l = l) = true := by simp
  rw [hdt]
  clear hdt
  go_wp2
  go_loopg [6] 3 (fun gk c6 wr => ∃ (j nd : Nat), gk + j = 3 ∧ c6 = .int .i64 (j : Int) ∧ wr = w.drewN nd)
  case atStart => exact ⟨0, n1, rfl, rfl, rfl⟩
  case round =>
    obtain ⟨j, nd, hgk, rfl, rfl⟩ := hrel
    by_cases hj : j < 3
    · obtain ⟨g, rfl⟩ : ∃ g, gk = g + 1 := ⟨gk - 1, by omega⟩
      have hji : (j : Int) < 3 := by omega
      have dj := d.out j hj
      have hgk' := Lib.hid hgk
      have hjl : (l.length : Int) + j < (l.length : Int) + 3 := by omega
      clear hgk hj
      go_wp2
      go_roundg g
      case measure => omega
      case rel => exact ⟨j + 1, nd, by have := hgk'.out; omega, by go_num, rfl⟩
    · obtain rfl : j = 3 := by omega
      clear hgk
      go_wp2
      go_ret
      exact ⟨⟨nd, rfl⟩, rfl⟩
end Go.Proofs.Ytgbgodhkehnbdaa
