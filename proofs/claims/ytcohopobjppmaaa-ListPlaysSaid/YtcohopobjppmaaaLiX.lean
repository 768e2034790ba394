/- The document's plain set of words, by contract: place, Has, Insert, Remove, Above. -/
import Derived.Test.YtcohopobjppmaaaLiS
namespace Go.Proofs.Ytcohopobjppmaaa
open Go.RowKit
set_option maxHeartbeats 2000000
set_option linter.unusedVariables false
set_option linter.unusedSimpArgs false

def pos (l : List Int) (key : Int) : Nat := (l.takeWhile (fun x => decide (x < key))).length
theorem pos_le (l : List Int) (key : Int) : pos l key ≤ l.length := by
  unfold pos
  exact (List.takeWhile_prefix _).length_le
theorem pos_lt {key : Int} : ∀ {l : List Int} {i : Nat}, i < pos l key → l.getD i 0 < key
  | [], i, h => by simp [pos] at h
  | x :: l, i, h => by
    unfold pos at h
    rw [List.takeWhile_cons] at h
    by_cases hx : x < key
    · rw [decide_eq_true hx] at h
      cases i with
      | zero => simpa using hx
      | succ i =>
        simp at h
        have := pos_lt (key := key) (l := l) (i := i) (by unfold pos; omega)
        simpa using this
    · rw [decide_eq_false hx] at h
      simp at h
theorem pos_ge {key : Int} : ∀ {l : List Int}, pos l key < l.length → ¬ l.getD (pos l key) 0 < key
  | [], h => by simp at h
  | x :: l, h => by
    unfold pos at h ⊢
    rw [List.takeWhile_cons] at h ⊢
    by_cases hx : x < key
    · rw [decide_eq_true hx] at h ⊢
      simp only [if_true, List.length_cons] at h ⊢
      have := pos_ge (key := key) (l := l) (by unfold pos; omega)
      simpa [pos] using this
    · rw [decide_eq_false hx] at h ⊢
      simpa using hx
def rHas (l : List Int) (key : Int) : Bool := decide (pos l key < l.length) && (l.getD (pos l key) 0 == key)
def rIns (l : List Int) (key : Int) : List Int := if rHas l key = true then l else l.take (pos l key) ++ key :: l.drop (pos l key)
def rRem (l : List Int) (key : Int) : List Int := l.filter (fun x => x != key)
def rAbove (l : List Int) (key : Int) : Int × Bool := match l.find? (fun x => decide (key < x)) with
  | some x => (x, true)
  | none => (0, false)

theorem Lies.at_ {w : World} {A : Option Addr} {l : List Int} {n c : Nat} (h : Lies w (.slice A n c) l) {i : Nat} (hi : i < n) : l.length = n ∧ n ≤ c ∧ ∃ g o, A = some ⟨g, o, none⟩ ∧ w.cell? ⟨g, o + i, none⟩ = some (.int .u64 (l.getD i 0)) := by
  obtain ⟨A', c', hv, hc, _, hx⟩ := h
  injection hv with h1 h2 h3
  subst h1
  subst h3
  exact ⟨h2.symm, by omega, hx i (by omega)⟩
theorem Lies.of {w : World} {v : Value} {l : List Int} (h : Lies w v l) : ∃ A c, v = .slice A l.length c ∧ l.length ≤ c ∧ (A = none → c = 0) := by
  obtain ⟨A, c, rfl, hc, h0, _⟩ := h
  exact ⟨A, c, rfl, hc, h0⟩
set_option maxRecDepth 100000 in
theorem place_b {v : Value} {l : List Int} {key : Int} {w : World} (hL : Lies w v l) (hn : (l.length : Int) ≤ 9223372036854775807) : Calls Try.prog 49 #[v, .int .u64 key] w fun e w' => e = .returned (.int .i64 (pos l key)) ∧ w = w' := by
  have hple := pos_le l key
  have hplt := Lib.hid (fun i => pos_lt (key := key) (l := l) (i := i))
  have hpge := Lib.hid (pos_ge (key := key) (l := l))
  obtain ⟨A, c, rfl, hc, -⟩ := hL.of
  have hL := Lib.hid hL
  generalize hll : l.length = n at *
  have hll := Lib.hid hll
  go_enter Try.func49, Try.ntmps49
  go_wp2
  go_loopg [5] n (fun gk c5 wr => ∃ i : Nat, gk + i = n ∧ i ≤ pos l key ∧ c5 = .int .i64 (i : Int) ∧ wr = w)
  case atStart => exact ⟨0, rfl, Nat.zero_le _, rfl, rfl⟩
  case round =>
    obtain ⟨i, hgi, hip, rfl, rfl⟩ := hrel
    by_cases hin : i < n
    · obtain ⟨-, -, g, o, rfl, hcell⟩ := hL.out.at_ hin
      have hin' : (i : Int) < n := by omega
      have hf0 : decide (i < n) = true := decide_eq_true hin
      by_cases hik : i < pos l key
      · have hx := decide_eq_true (hplt.out i hik)
        obtain ⟨k, rfl⟩ : ∃ k, gk = k + 1 := ⟨gk - 1, by omega⟩
        generalize l.getD i 0 = x at *
        go_wp2
        go_roundg k
        case measure => omega
        case rel => exact ⟨i + 1, by omega, by omega, by simp, rfl⟩
      · have hi : Hid (i = pos l key) := Lib.hid (by omega)
        have hx := decide_eq_false (p := l.getD i 0 < key) (by have := hpge.out (by rw [← hi.out]; first | exact hin | (rw [hll.out]; exact hin)); rw [← hi.out] at this; omega)
        generalize l.getD i 0 = x at *
        clear hik
        go_wp2
        go_ret
        exact ⟨by simp; have := hi.out; omega, rfl⟩
    · have hf0 : decide (i < n) = false := decide_eq_false hin
      have hi : Hid (i = pos l key) := Lib.hid (by omega)
      go_wp2
      go_ret
      exact ⟨by simp; have := hi.out; omega, rfl⟩
set_option maxRecDepth 100000 in
theorem rhas_b {v : Value} {l : List Int} {key : Int} {w : World} (hL : Lies w v l) (hn : (l.length : Int) ≤ 9223372036854775807) : Calls Try.prog 34 #[v, .int .u64 key] w fun e w' => e = .returned (.bool (rHas l key)) ∧ w = w' := by
  have hP := Lib.hid (place_b (key := key) hL hn)
  have hh : rHas l key = (decide (pos l key < l.length) && (l.getD (pos l key) 0 == key)) := rfl
  have hple := pos_le l key
  obtain ⟨A, c, rfl, hc, -⟩ := hL.of
  have hL := Lib.hid hL
  rw [hh]
  clear hh
  generalize hll : l.length = n at *
  have hll := Lib.hid hll
  by_cases hin : pos l key < n
  · obtain ⟨-, -, g, o, rfl, hcell⟩ := hL.out.at_ hin
    have hf0 : decide (pos l key < n) = true := decide_eq_true hin
    generalize l.getD (pos l key) 0 = x at *
    generalize pos l key = i at *
    rw [hf0]
    go_enter Try.func34, Try.ntmps34
    go_wp2_with fail
    refine hP.out.mono ?_
    rintro _ w2 ⟨rfl, rfl⟩
    go_wp2
    go_ret
    exact ⟨by simp, rfl⟩
  · have hf0 : decide (pos l key < n) = false := decide_eq_false hin
    generalize l.getD (pos l key) 0 = x at *
    generalize pos l key = i at *
    rw [hf0]
    go_enter Try.func34, Try.ntmps34
    go_wp2_with fail
    refine hP.out.mono ?_
    rintro _ w2 ⟨rfl, rfl⟩
    go_wp2
    go_ret
    exact ⟨by simp, rfl⟩
set_option maxRecDepth 100000 in
theorem rabove_b {v : Value} {l : List Int} {key : Int} {w : World} (hL : Lies w v l) (hn : (l.length : Int) ≤ 9223372036854775807) : Calls Try.prog 37 #[v, .int .u64 key] w fun e w' => e = .returned (.tuple #[.int .u64 (rAbove l key).1, .bool (rAbove l key).2]) ∧ w = w' := by
  obtain ⟨A, c, rfl, hc, -⟩ := hL.of
  have hL := Lib.hid hL
  have h0 : Hid (rAbove l key = rAbove (l.drop 0) key) := Lib.hid rfl
  generalize rAbove l key = R at *
  generalize hll : l.length = n at *
  have hll := Lib.hid hll
  go_enter Try.func37, Try.ntmps37
  go_wp2
  go_loopg [6] n (fun gk c6 wr => ∃ i : Nat, gk + i = n ∧ c6 = .int .i64 (i : Int) ∧ Hid (R = rAbove (l.drop i) key) ∧ wr = w)
  case atStart => exact ⟨0, rfl, rfl, h0, rfl⟩
  case round =>
    obtain ⟨i, hgi, rfl, hR, rfl⟩ := hrel
    clear h0
    by_cases hin : i < n
    · obtain ⟨-, -, g, o, rfl, hcell⟩ := hL.out.at_ hin
      have hin' : (i : Int) < n := by omega
      have hf0 : decide (i < n) = true := decide_eq_true hin
      obtain ⟨k, rfl⟩ : ∃ k, gk = k + 1 := ⟨gk - 1, by omega⟩
      have hdr : l.drop i = l.getD i 0 :: l.drop (i + 1) := by
        have hil : i < l.length := by rw [hll.out]; exact hin
        rw [List.drop_eq_getElem_cons hil, List.getD_eq_getElem?_getD, List.getElem?_eq_getElem hil]; rfl
      rw [hdr] at hR
      clear hdr
      generalize l.getD i 0 = x at *
      by_cases hx : key < x
      · have hR : Hid (R = (x, true)) := Lib.hid (by rw [hR.out]; unfold rAbove; rw [List.find?_cons_of_pos (by simpa using hx)])
        have hx := decide_eq_true hx
        go_wp2
        try rw [Exit.noGoto_ret]
        go_ret2
        rw [hR.out]
        exact ⟨rfl, rfl⟩
      · have hR : Hid (R = rAbove (l.drop (i + 1)) key) := Lib.hid (by rw [hR.out]; unfold rAbove; rw [List.find?_cons_of_neg (by simpa using hx)])
        have hx := decide_eq_false hx
        go_wp2
        go_roundg k
        case measure => omega
        case rel => exact ⟨i + 1, by omega, by simp, hR, rfl⟩
    · have hf0 : decide (i < n) = false := decide_eq_false hin
      have hR : Hid (R = (0, false)) := Lib.hid (by rw [hR.out, List.drop_eq_nil_of_le (by rw [hll.out]; omega)]; rfl)
      go_wp2
      go_ret2
      rw [hR.out]
      exact ⟨rfl, rfl⟩
end Go.Proofs.Ytcohopobjppmaaa
