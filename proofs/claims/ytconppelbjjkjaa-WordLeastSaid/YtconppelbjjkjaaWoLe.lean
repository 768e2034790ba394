/- the document's Least, among: by contract. -/
import Derived.Test.YtconppelbjjkjaaWoLb
namespace Go.Proofs.Ytconppelbjjkjaa
open Go.RowKit
set_option maxHeartbeats 4000000
set_option linter.unusedVariables false
set_option linter.unusedSimpArgs false

theorem cmp3_ahead (a b : Nat) : decide (cmp3 (ofReal a) (ofReal b) < 0) = aheadW a b := by
  unfold cmp3 aheadW
  by_cases h : ofReal a < ofReal b
  · rw [if_pos h, decide_eq_true h]; rfl
  · rw [if_neg h, decide_eq_false h]
    split <;> rfl
set_option maxRecDepth 100000 in
theorem leastRef_b {w : World} {A : Option Addr} {l : List Nat} {c : Nat} (h : Nums (fun b => .float .f64 b) w A l) (hb : ∀ x ∈ l, x < 18446744073709551616) (hl : l.length ≤ 4611686018427387904) :
    Calls Try.prog 32 #[.slice A l.length c] w fun e w' => e = .returned (.tuple #[.float .f64 (least aheadW 0 l), .bool (decide (0 < l.length))]) ∧ w = w' := by
  have hli : (l.length : Int) ≤ 4611686018427387904 := by omega
  replace h := Lib.hid h
  replace hb := Lib.hid hb
  have h0 : decide ((l.length : Int) > 0) = decide (0 < l.length) := by congr 1; simp
  go_enter Try.func32, Try.ntmps32
  go_wp2
  go_loopw [4, 5] (fun c4 c9 wr => ∃ i : Nat, i ≤ l.length ∧ c9 = .int .i64 i ∧ (∃ b, c4 = .float .f64 b ∧ Hid (b = least aheadW 0 (l.take i))) ∧ wr = w) (fun _ c9 _ => l.length - (intOf c9).toNat)
  case atStart => exact ⟨0, by omega, rfl, ⟨_, rfl, Lib.hid rfl⟩, rfl⟩
  case round =>
    obtain ⟨i, hi, rfl, ⟨b, rfl, hbb⟩, rfl⟩ := hrel
    by_cases hil : i < l.length
    · obtain ⟨ad, rfl, c0⟩ := h.out i hil
      have hii : (i : Int) < (l.length : Int) := by omega
      have hs := Lib.hid (least_snoc aheadW 0 (l[i]'hil) (l.take i))
      have ht : Hid (l.take (i + 1) = l.take i ++ [l[i]'hil]) := Lib.hid (by rw [List.take_add_one, List.getElem?_eq_getElem hil]; rfl)
      have hx := Lib.hid (List.getElem_mem hil)
      have hne := Lib.hid (fun (h0 : i ≠ 0) => show l.take i ≠ [] from fun e => by have := congrArg List.length e; rw [List.length_take, List.length_nil] at this; omega)
      generalize l[i]'hil = x at *
      by_cases h00 : i = 0
      · have hz : (i == 0) = true := by simpa using h00
        have hzi : ((i : Int) == 0) = true := by simpa using h00
        have ht0 : Hid (l.take i = []) := Lib.hid (by rw [h00]; rfl)
        clear h00
        go_wp2
        go_roundw
        case rel => exact ⟨i + 1, by omega, by simp, ⟨_, rfl, Lib.hid (by rw [ht.out, hs.out, if_pos ht0.out])⟩, by first | rfl | trivial⟩
        case measure => simp [intOf]; omega
      · have hz : (i == 0) = false := by simpa using h00
        have hzi : ((i : Int) == 0) = false := by simpa using h00
        have hy : Hid (b ∈ l) := Lib.hid (by rw [hbb.out]; exact List.mem_of_mem_take (least_mem _ _ _ (hne.out h00)))
        have C := Lib.hid (compare_ref _ _ (hb.out _ hx.out) (hb.out _ hy.out) wr)
        obtain ⟨r, hr⟩ : ∃ r, Hid (aheadW x b = r) := ⟨_, Lib.hid rfl⟩
        have hcz := cmp3_ahead x b
        rw [hr.out] at hcz
        generalize cmp3 (ofReal x) (ofReal b) = zz at *
        go_wp2_with fail
        refine C.out.mono ?_
        rintro _ _ ⟨rfl, rfl⟩
        clear C
        cases r with
        | true =>
          go_wp2
          go_roundw
          case rel => exact ⟨i + 1, by omega, by simp, ⟨_, rfl, Lib.hid (by rw [ht.out, hs.out, if_neg (hne.out h00), ← hbb.out, hr.out, if_pos rfl])⟩, by first | rfl | trivial⟩
          case measure => simp [intOf]; omega
        | false =>
          go_wp2
          go_roundw
          case rel => exact ⟨i + 1, by omega, by simp, ⟨_, rfl, Lib.hid (by rw [ht.out, hs.out, if_neg (hne.out h00), ← hbb.out, hr.out, if_neg Bool.false_ne_true])⟩, by first | rfl | trivial⟩
          case measure => simp [intOf]; omega
    · obtain rfl : i = l.length := by omega
      have hbb : b = least aheadW 0 l := by rw [hbb.out, List.take_length]
      subst hbb
      go_wp2
      exact bodyPost_ret (v := .tuple #[.float .f64 (least aheadW 0 l), .bool (decide (0 < l.length))]) (by simp [results, Try.results32, go_sem]) rfl ⟨rfl, rfl⟩
set_option maxRecDepth 100000 in
theorem among_i8 {w : World} {A : Option Addr} {l : List Int} {c : Nat} {x : Int} (h : Nums (fun b => .int .i8 b) w A l) (hx : x ∈ l ∨ (l = [] ∧ x = 0)) (hl : l.length ≤ 4611686018427387904) :
    Calls Try.prog 38 #[.slice A l.length c, .int .i8 x] w fun e w' => e = .returned (.bool true) ∧ w = w' := by
  have hli : (l.length : Int) ≤ 4611686018427387904 := by omega
  replace h := Lib.hid h
  replace hx := Lib.hid hx
  go_enter Try.func38, Try.ntmps38
  go_wp2
  go_loopw [5] (fun c5 wr => ∃ i : Nat, i ≤ l.length ∧ c5 = .int .i64 i ∧ Hid (∀ j (hj : j < l.length), j < i → l[j]'hj ≠ x) ∧ wr = w) (fun c5 _ => l.length - (intOf c5).toNat)
  case atStart => exact ⟨0, by omega, rfl, Lib.hid (fun j hj h0 => by omega), rfl⟩
  case round =>
    obtain ⟨i, hi, rfl, hno, rfl⟩ := hrel
    by_cases hil : i < l.length
    · obtain ⟨ad, rfl, c0⟩ := h.out i hil
      have hii : (i : Int) < (l.length : Int) := by omega
      obtain ⟨y, hy⟩ : ∃ y, Hid (l[i]'hil = y) := ⟨_, Lib.hid rfl⟩
      rw [hy.out] at c0
      by_cases hyx : y = x
      · subst hyx
        go_wp2
        go_ret
        exact ⟨rfl, by first | rfl | trivial⟩
      · have hq : (y == x) = false := by simpa using hyx
        have hno2 : Hid (∀ j (hj : j < l.length), j < i + 1 → l[j]'hj ≠ x) := Lib.hid fun j hj hji => by
          by_cases e : j = i
          · subst e; rw [hy.out]; exact hyx
          · exact hno.out j hj (by omega)
        clear hyx hno
        go_wp2
        go_roundw
        case rel => exact ⟨i + 1, by omega, by simp, hno2, by first | rfl | trivial⟩
        case measure => simp [intOf]; omega
    · obtain rfl : i = l.length := by omega
      obtain ⟨hl0, rfl⟩ : Hid (l = []) ∧ x = 0 := by
        rcases hx.out with hm | ⟨e1, e2⟩
        · obtain ⟨j, hj, e⟩ := List.getElem_of_mem hm
          exact (hno.out j hj hj e).elim
        · exact ⟨Lib.hid e1, e2⟩
      have hl1 : (l.length == 0) = true := by rw [hl0.out]; rfl
      have hl2 : ((l.length : Int) == 0) = true := by rw [hl0.out]; rfl
      go_wp2
      go_ret
      exact ⟨rfl, by first | rfl | trivial⟩
set_option maxRecDepth 100000 in
theorem among_i16 {w : World} {A : Option Addr} {l : List Int} {c : Nat} {x : Int} (h : Nums (fun b => .int .i16 b) w A l) (hx : x ∈ l ∨ (l = [] ∧ x = 0)) (hl : l.length ≤ 4611686018427387904) :
    Calls Try.prog 39 #[.slice A l.length c, .int .i16 x] w fun e w' => e = .returned (.bool true) ∧ w = w' := by
  have hli : (l.length : Int) ≤ 4611686018427387904 := by omega
  replace h := Lib.hid h
  replace hx := Lib.hid hx
  go_enter Try.func39, Try.ntmps39
  go_wp2
  go_loopw [5] (fun c5 wr => ∃ i : Nat, i ≤ l.length ∧ c5 = .int .i64 i ∧ Hid (∀ j (hj : j < l.length), j < i → l[j]'hj ≠ x) ∧ wr = w) (fun c5 _ => l.length - (intOf c5).toNat)
  case atStart => exact ⟨0, by omega, rfl, Lib.hid (fun j hj h0 => by omega), rfl⟩
  case round =>
    obtain ⟨i, hi, rfl, hno, rfl⟩ := hrel
    by_cases hil : i < l.length
    · obtain ⟨ad, rfl, c0⟩ := h.out i hil
      have hii : (i : Int) < (l.length : Int) := by omega
      obtain ⟨y, hy⟩ : ∃ y, Hid (l[i]'hil = y) := ⟨_, Lib.hid rfl⟩
      rw [hy.out] at c0
      by_cases hyx : y = x
      · subst hyx
        go_wp2
        go_ret
        exact ⟨rfl, by first | rfl | trivial⟩
      · have hq : (y == x) = false := by simpa using hyx
        have hno2 : Hid (∀ j (hj : j < l.length), j < i + 1 → l[j]'hj ≠ x) := Lib.hid fun j hj hji => by
          by_cases e : j = i
          · subst e; rw [hy.out]; exact hyx
          · exact hno.out j hj (by omega)
        clear hyx hno
        go_wp2
        go_roundw
        case rel => exact ⟨i + 1, by omega, by simp, hno2, by first | rfl | trivial⟩
        case measure => simp [intOf]; omega
    · obtain rfl : i = l.length := by omega
      obtain ⟨hl0, rfl⟩ : Hid (l = []) ∧ x = 0 := by
        rcases hx.out with hm | ⟨e1, e2⟩
        · obtain ⟨j, hj, e⟩ := List.getElem_of_mem hm
          exact (hno.out j hj hj e).elim
        · exact ⟨Lib.hid e1, e2⟩
      have hl1 : (l.length == 0) = true := by rw [hl0.out]; rfl
      have hl2 : ((l.length : Int) == 0) = true := by rw [hl0.out]; rfl
      go_wp2
      go_ret
      exact ⟨rfl, by first | rfl | trivial⟩
set_option maxRecDepth 100000 in
theorem among_i32 {w : World} {A : Option Addr} {l : List Int} {c : Nat} {x : Int} (h : Nums (fun b => .int .i32 b) w A l) (hx : x ∈ l ∨ (l = [] ∧ x = 0)) (hl : l.length ≤ 4611686018427387904) :
    Calls Try.prog 40 #[.slice A l.length c, .int .i32 x] w fun e w' => e = .returned (.bool true) ∧ w = w' := by
  have hli : (l.length : Int) ≤ 4611686018427387904 := by omega
  replace h := Lib.hid h
  replace hx := Lib.hid hx
  go_enter Try.func40, Try.ntmps40
  go_wp2
  go_loopw [5] (fun c5 wr => ∃ i : Nat, i ≤ l.length ∧ c5 = .int .i64 i ∧ Hid (∀ j (hj : j < l.length), j < i → l[j]'hj ≠ x) ∧ wr = w) (fun c5 _ => l.length - (intOf c5).toNat)
  case atStart => exact ⟨0, by omega, rfl, Lib.hid (fun j hj h0 => by omega), rfl⟩
  case round =>
    obtain ⟨i, hi, rfl, hno, rfl⟩ := hrel
    by_cases hil : i < l.length
    · obtain ⟨ad, rfl, c0⟩ := h.out i hil
      have hii : (i : Int) < (l.length : Int) := by omega
      obtain ⟨y, hy⟩ : ∃ y, Hid (l[i]'hil = y) := ⟨_, Lib.hid rfl⟩
      rw [hy.out] at c0
      by_cases hyx : y = x
      · subst hyx
        go_wp2
        go_ret
        exact ⟨rfl, by first | rfl | trivial⟩
      · have hq : (y == x) = false := by simpa using hyx
        have hno2 : Hid (∀ j (hj : j < l.length), j < i + 1 → l[j]'hj ≠ x) := Lib.hid fun j hj hji => by
          by_cases e : j = i
          · subst e; rw [hy.out]; exact hyx
          · exact hno.out j hj (by omega)
        clear hyx hno
        go_wp2
        go_roundw
        case rel => exact ⟨i + 1, by omega, by simp, hno2, by first | rfl | trivial⟩
        case measure => simp [intOf]; omega
    · obtain rfl : i = l.length := by omega
      obtain ⟨hl0, rfl⟩ : Hid (l = []) ∧ x = 0 := by
        rcases hx.out with hm | ⟨e1, e2⟩
        · obtain ⟨j, hj, e⟩ := List.getElem_of_mem hm
          exact (hno.out j hj hj e).elim
        · exact ⟨Lib.hid e1, e2⟩
      have hl1 : (l.length == 0) = true := by rw [hl0.out]; rfl
      have hl2 : ((l.length : Int) == 0) = true := by rw [hl0.out]; rfl
      go_wp2
      go_ret
      exact ⟨rfl, by first | rfl | trivial⟩
set_option maxRecDepth 100000 in
theorem among_i64 {w : World} {A : Option Addr} {l : List Int} {c : Nat} {x : Int} (h : Nums (fun b => .int .i64 b) w A l) (hx : x ∈ l ∨ (l = [] ∧ x = 0)) (hl : l.length ≤ 4611686018427387904) :
    Calls Try.prog 41 #[.slice A l.length c, .int .i64 x] w fun e w' => e = .returned (.bool true) ∧ w = w' := by
  have hli : (l.length : Int) ≤ 4611686018427387904 := by omega
  replace h := Lib.hid h
  replace hx := Lib.hid hx
  go_enter Try.func41, Try.ntmps41
  go_wp2
  go_loopw [5] (fun c5 wr => ∃ i : Nat, i ≤ l.length ∧ c5 = .int .i64 i ∧ Hid (∀ j (hj : j < l.length), j < i → l[j]'hj ≠ x) ∧ wr = w) (fun c5 _ => l.length - (intOf c5).toNat)
  case atStart => exact ⟨0, by omega, rfl, Lib.hid (fun j hj h0 => by omega), rfl⟩
  case round =>
    obtain ⟨i, hi, rfl, hno, rfl⟩ := hrel
    by_cases hil : i < l.length
    · obtain ⟨ad, rfl, c0⟩ := h.out i hil
      have hii : (i : Int) < (l.length : Int) := by omega
      obtain ⟨y, hy⟩ : ∃ y, Hid (l[i]'hil = y) := ⟨_, Lib.hid rfl⟩
      rw [hy.out] at c0
      by_cases hyx : y = x
      · subst hyx
        go_wp2
        go_ret
        exact ⟨rfl, by first | rfl | trivial⟩
      · have hq : (y == x) = false := by simpa using hyx
        have hno2 : Hid (∀ j (hj : j < l.length), j < i + 1 → l[j]'hj ≠ x) := Lib.hid fun j hj hji => by
          by_cases e : j = i
          · subst e; rw [hy.out]; exact hyx
          · exact hno.out j hj (by omega)
        clear hyx hno
        go_wp2
        go_roundw
        case rel => exact ⟨i + 1, by omega, by simp, hno2, by first | rfl | trivial⟩
        case measure => simp [intOf]; omega
    · obtain rfl : i = l.length := by omega
      obtain ⟨hl0, rfl⟩ : Hid (l = []) ∧ x = 0 := by
        rcases hx.out with hm | ⟨e1, e2⟩
        · obtain ⟨j, hj, e⟩ := List.getElem_of_mem hm
          exact (hno.out j hj hj e).elim
        · exact ⟨Lib.hid e1, e2⟩
      have hl1 : (l.length == 0) = true := by rw [hl0.out]; rfl
      have hl2 : ((l.length : Int) == 0) = true := by rw [hl0.out]; rfl
      go_wp2
      go_ret
      exact ⟨rfl, by first | rfl | trivial⟩
end Go.Proofs.Ytconppelbjjkjaa
