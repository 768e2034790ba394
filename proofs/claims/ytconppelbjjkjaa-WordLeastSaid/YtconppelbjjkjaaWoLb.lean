/- word.Least, by contract. -/
import Derived.Test.YtconppelbjjkjaaWoLd
import Derived.Deep.LoopGhost
import Derived.Deep.DeepMust
import Derived.Deep.DeepCutAuto
namespace Go.Proofs.Ytconppelbjjkjaa
open Go.RowKit
set_option maxHeartbeats 4000000
set_option linter.unusedVariables false
set_option linter.unusedSimpArgs false

/-- the first of the least -/
def stepL {α : Type} (lt : α → α → Bool) (b y : α) : α := if lt y b then y else b
def least {α : Type} (lt : α → α → Bool) (z : α) : List α → α
  | [] => z
  | x :: r => r.foldl (stepL lt) x
theorem least_snoc {α : Type} (lt : α → α → Bool) (z x : α) : ∀ l : List α, least lt z (l ++ [x]) = if l = [] then x else if lt x (least lt z l) then x else least lt z l
  | [] => rfl
  | y :: r => by
    rw [if_neg (by simp)]
    show (r ++ [x]).foldl (stepL lt) y = _
    rw [List.foldl_append]
    rfl
theorem least_mem {α : Type} (lt : α → α → Bool) (z : α) (l : List α) (h : l ≠ []) : least lt z l ∈ l := by
  have key : ∀ (r : List α) (b : α), r.foldl (stepL lt) b ∈ b :: r := by
    intro r
    induction r with
    | nil => intro b; simp
    | cons y r ih =>
      intro b
      rw [List.foldl_cons]
      have hs : stepL lt b y = y ∨ stepL lt b y = b := by unfold stepL; split; exact .inl rfl; exact .inr rfl
      rcases List.mem_cons.1 (ih (stepL lt b y)) with h | h
      · rw [h]
        rcases hs with e | e
        · rw [e]; simp
        · rw [e]; simp
      · simp [h]
  cases l with
  | nil => exact (h rfl).elim
  | cons x r => exact key r x
def ltP (a b : Nat × Nat) : Bool := aheadW a.2 b.2
theorem ahead32P {x b : Nat × Nat} (hx : Wide x.1 x.2) (hb : Wide b.1 b.2) (w : World) :
    Calls Try.prog 58 #[.float .f32 x.1, .float .f32 b.1] w fun e w' => e = .returned (.bool (ltP x b)) ∧ w = w' := ahead32_b hx hb w
/-- numbers that lie in a row -/
def Nums {α : Type} (enc : α → Value) (w : World) (A : Option Addr) (l : List α) : Prop := ∀ i (hi : i < l.length), ∃ ad, A = some ad ∧ w.cell? (ad.add i) = some (enc (l[i]'hi))
set_option maxRecDepth 100000 in
theorem least64_b {w : World} {A : Option Addr} {l : List Nat} {c : Nat} (h : Nums (fun b => .float .f64 b) w A l) (hb : ∀ x ∈ l, x < 18446744073709551616) (hl : l.length ≤ 4611686018427387904) :
    Calls Try.prog 31 #[.slice A l.length c] w fun e w' => e = .returned (.tuple #[.float .f64 (least aheadW 0 l), .bool (decide (0 < l.length))]) ∧ w = w' := by
  have hli : (l.length : Int) ≤ 4611686018427387904 := by omega
  replace h := Lib.hid h
  replace hb := Lib.hid hb
  have h0 : decide ((l.length : Int) > 0) = decide (0 < l.length) := by congr 1; simp
  go_enter Try.func31, Try.ntmps31
  go_wp2
  go_loopw [4, 9] (fun c4 c9 wr => ∃ i : Nat, i ≤ l.length ∧ c9 = .int .i64 i ∧ (∃ b, c4 = .float .f64 b ∧ Hid (b = least aheadW 0 (l.take i))) ∧ wr = w) (fun _ c9 _ => l.length - (intOf c9).toNat)
  case atStart => exact ⟨0, by omega, rfl, ⟨_, rfl, Lib.hid rfl⟩, rfl⟩
  case round =>
    obtain ⟨i, hi, rfl, ⟨b, rfl, hbb⟩, rfl⟩ := hrel
    by_cases hil : i < l.length
    · obtain ⟨ad, rfl, c0⟩ := h.out i hil
      have hii : (i : Int) < (l.length : Int) := by omega
      have hs := Lib.hid (least_snoc aheadW 0 (l[i]'hil) (l.take i))
      have ht : Hid (l.take (i + 1) = l.take i ++ [l[i]'hil]) := Lib.hid (by rw [List.take_add_one, List.getElem?_eq_getElem hil]; rfl)
      have hx := Lib.hid (List.getElem_mem hil)
      have hne := Lib.hid (fun (h0 : i ≠ 0) => show l.take i ≠ [] from fun e => by have := congrArg List.length e; rw [List.length_take, List.length_nil] at this; omega)
      generalize l[i]'hil = x at *
      by_cases h00 : i = 0
      · have hz : (i == 0) = true := by simpa using h00
        have hzi : ((i : Int) == 0) = true := by simpa using h00
        have ht0 : Hid (l.take i = []) := Lib.hid (by rw [h00]; rfl)
        clear h00
        go_wp2
        go_roundw
        case rel => exact ⟨i + 1, by omega, by simp, ⟨_, rfl, Lib.hid (by rw [ht.out, hs.out, if_pos ht0.out])⟩, by first | rfl | trivial⟩
        case measure => simp [intOf]; omega
      · have hz : (i == 0) = false := by simpa using h00
        have hzi : ((i : Int) == 0) = false := by simpa using h00
        have hy : Hid (b ∈ l) := Lib.hid (by rw [hbb.out]; exact List.mem_of_mem_take (least_mem _ _ _ (hne.out h00)))
        have C := Lib.hid (ahead64_b _ _ (hb.out _ hx.out) (hb.out _ hy.out) wr)
        obtain ⟨r, hr⟩ : ∃ r, Hid (aheadW x b = r) := ⟨_, Lib.hid rfl⟩
        rw [hr.out] at C
        go_wp2_with fail
        refine C.out.mono ?_
        rintro _ _ ⟨rfl, rfl⟩
        clear C c0
        cases r with
        | true =>
          go_wp2
          go_roundw
          case rel => exact ⟨i + 1, by omega, by simp, ⟨_, rfl, Lib.hid (by rw [ht.out, hs.out, if_neg (hne.out h00), ← hbb.out, hr.out, if_pos rfl])⟩, by first | rfl | trivial⟩
          case measure => simp [intOf]; omega
        | false =>
          go_wp2
          go_roundw
          case rel => exact ⟨i + 1, by omega, by simp, ⟨_, rfl, Lib.hid (by rw [ht.out, hs.out, if_neg (hne.out h00), ← hbb.out, hr.out, if_neg Bool.false_ne_true])⟩, by first | rfl | trivial⟩
          case measure => simp [intOf]; omega
    · obtain rfl : i = l.length := by omega
      have hbb : b = least aheadW 0 l := by rw [hbb.out, List.take_length]
      subst hbb
      go_wp2
      exact bodyPost_ret (v := .tuple #[.float .f64 (least aheadW 0 l), .bool (decide (0 < l.length))]) (by simp [results, Try.results31, go_sem]) rfl ⟨rfl, rfl⟩
set_option maxRecDepth 100000 in
theorem least32_b {w : World} {A : Option Addr} {l : List (Nat × Nat)} {c : Nat} (h : Nums (fun b => .float .f32 b.1) w A l) (hb : ∀ x ∈ l, Wide x.1 x.2) (hl : l.length ≤ 4611686018427387904) :
    Calls Try.prog 33 #[.slice A l.length c] w fun e w' => e = .returned (.tuple #[.float .f32 ((least ltP (0, 0) l)).1, .bool (decide (0 < l.length))]) ∧ w = w' := by
  have hli : (l.length : Int) ≤ 4611686018427387904 := by omega
  replace h := Lib.hid h
  replace hb := Lib.hid hb
  have h0 : decide ((l.length : Int) > 0) = decide (0 < l.length) := by congr 1; simp
  go_enter Try.func33, Try.ntmps33
  go_wp2
  go_loopw [4, 9] (fun c4 c9 wr => ∃ i : Nat, i ≤ l.length ∧ c9 = .int .i64 i ∧ (∃ b, c4 = .float .f32 (b).1 ∧ Hid (b = least ltP (0, 0) (l.take i))) ∧ wr = w) (fun _ c9 _ => l.length - (intOf c9).toNat)
  case atStart => exact ⟨0, by omega, rfl, ⟨_, rfl, Lib.hid rfl⟩, rfl⟩
  case round =>
    obtain ⟨i, hi, rfl, ⟨b, rfl, hbb⟩, rfl⟩ := hrel
    by_cases hil : i < l.length
    · obtain ⟨ad, rfl, c0⟩ := h.out i hil
      have hii : (i : Int) < (l.length : Int) := by omega
      have hs := Lib.hid (least_snoc ltP (0, 0) (l[i]'hil) (l.take i))
      have ht : Hid (l.take (i + 1) = l.take i ++ [l[i]'hil]) := Lib.hid (by rw [List.take_add_one, List.getElem?_eq_getElem hil]; rfl)
      have hx := Lib.hid (List.getElem_mem hil)
      have hne := Lib.hid (fun (h0 : i ≠ 0) => show l.take i ≠ [] from fun e => by have := congrArg List.length e; rw [List.length_take, List.length_nil] at this; omega)
      generalize l[i]'hil = x at *
      by_cases h00 : i = 0
      · have hz : (i == 0) = true := by simpa using h00
        have hzi : ((i : Int) == 0) = true := by simpa using h00
        have ht0 : Hid (l.take i = []) := Lib.hid (by rw [h00]; rfl)
        clear h00
        go_wp2
        go_roundw
        case rel => exact ⟨i + 1, by omega, by simp, ⟨_, rfl, Lib.hid (by rw [ht.out, hs.out, if_pos ht0.out])⟩, by first | rfl | trivial⟩
        case measure => simp [intOf]; omega
      · have hz : (i == 0) = false := by simpa using h00
        have hzi : ((i : Int) == 0) = false := by simpa using h00
        have hy : Hid (b ∈ l) := Lib.hid (by rw [hbb.out]; exact List.mem_of_mem_take (least_mem _ _ _ (hne.out h00)))
        have C := Lib.hid (ahead32P (hb.out _ hx.out) (hb.out _ hy.out) wr)
        obtain ⟨r, hr⟩ : ∃ r, Hid (ltP x b = r) := ⟨_, Lib.hid rfl⟩
        rw [hr.out] at C
        go_wp2_with fail
        refine C.out.mono ?_
        rintro _ _ ⟨rfl, rfl⟩
        clear C c0
        cases r with
        | true =>
          go_wp2
          go_roundw
          case rel => exact ⟨i + 1, by omega, by simp, ⟨_, rfl, Lib.hid (by rw [ht.out, hs.out, if_neg (hne.out h00), ← hbb.out, hr.out, if_pos rfl])⟩, by first | rfl | trivial⟩
          case measure => simp [intOf]; omega
        | false =>
          go_wp2
          go_roundw
          case rel => exact ⟨i + 1, by omega, by simp, ⟨_, rfl, Lib.hid (by rw [ht.out, hs.out, if_neg (hne.out h00), ← hbb.out, hr.out, if_neg Bool.false_ne_true])⟩, by first | rfl | trivial⟩
          case measure => simp [intOf]; omega
    · obtain rfl : i = l.length := by omega
      have hbb : b = least ltP (0, 0) l := by rw [hbb.out, List.take_length]
      subst hbb
      go_wp2
      exact bodyPost_ret (v := .tuple #[.float .f32 ((least ltP (0, 0) l)).1, .bool (decide (0 < l.length))]) (by simp [results, Try.results33, go_sem]) rfl ⟨rfl, rfl⟩
set_option maxRecDepth 100000 in
theorem least_i8_b {w : World} {A : Option Addr} {l : List Int} {c : Nat} (h : Nums (fun b => .int .i8 b) w A l) (hb : True) (hl : l.length ≤ 4611686018427387904) :
    Calls Try.prog 34 #[.slice A l.length c] w fun e w' => e = .returned (.tuple #[.int .i8 (least ltI 0 l), .bool (decide (0 < l.length))]) ∧ w = w' := by
  have hli : (l.length : Int) ≤ 4611686018427387904 := by omega
  replace h := Lib.hid h
  replace hb := Lib.hid hb
  have h0 : decide ((l.length : Int) > 0) = decide (0 < l.length) := by congr 1; simp
  go_enter Try.func34, Try.ntmps34
  go_wp2
  go_loopw [4, 9] (fun c4 c9 wr => ∃ i : Nat, i ≤ l.length ∧ c9 = .int .i64 i ∧ (∃ b, c4 = .int .i8 b ∧ Hid (b = least ltI 0 (l.take i))) ∧ wr = w) (fun _ c9 _ => l.length - (intOf c9).toNat)
  case atStart => exact ⟨0, by omega, rfl, ⟨_, rfl, Lib.hid rfl⟩, rfl⟩
  case round =>
    obtain ⟨i, hi, rfl, ⟨b, rfl, hbb⟩, rfl⟩ := hrel
    by_cases hil : i < l.length
    · obtain ⟨ad, rfl, c0⟩ := h.out i hil
      have hii : (i : Int) < (l.length : Int) := by omega
      have hs := Lib.hid (least_snoc ltI 0 (l[i]'hil) (l.take i))
      have ht : Hid (l.take (i + 1) = l.take i ++ [l[i]'hil]) := Lib.hid (by rw [List.take_add_one, List.getElem?_eq_getElem hil]; rfl)
      have hx := Lib.hid (List.getElem_mem hil)
      have hne := Lib.hid (fun (h0 : i ≠ 0) => show l.take i ≠ [] from fun e => by have := congrArg List.length e; rw [List.length_take, List.length_nil] at this; omega)
      generalize l[i]'hil = x at *
      by_cases h00 : i = 0
      · have hz : (i == 0) = true := by simpa using h00
        have hzi : ((i : Int) == 0) = true := by simpa using h00
        have ht0 : Hid (l.take i = []) := Lib.hid (by rw [h00]; rfl)
        clear h00
        go_wp2
        go_roundw
        case rel => exact ⟨i + 1, by omega, by simp, ⟨_, rfl, Lib.hid (by rw [ht.out, hs.out, if_pos ht0.out])⟩, by first | rfl | trivial⟩
        case measure => simp [intOf]; omega
      · have hz : (i == 0) = false := by simpa using h00
        have hzi : ((i : Int) == 0) = false := by simpa using h00
        have hy : Hid (b ∈ l) := Lib.hid (by rw [hbb.out]; exact List.mem_of_mem_take (least_mem _ _ _ (hne.out h00)))
        have C := Lib.hid (ahead_i8 x b wr)
        obtain ⟨r, hr⟩ : ∃ r, Hid (ltI x b = r) := ⟨_, Lib.hid rfl⟩
        rw [hr.out] at C
        go_wp2_with fail
        refine C.out.mono ?_
        rintro _ _ ⟨rfl, rfl⟩
        clear C c0
        cases r with
        | true =>
          go_wp2
          go_roundw
          case rel => exact ⟨i + 1, by omega, by simp, ⟨_, rfl, Lib.hid (by rw [ht.out, hs.out, if_neg (hne.out h00), ← hbb.out, hr.out, if_pos rfl])⟩, by first | rfl | trivial⟩
          case measure => simp [intOf]; omega
        | false =>
          go_wp2
          go_roundw
          case rel => exact ⟨i + 1, by omega, by simp, ⟨_, rfl, Lib.hid (by rw [ht.out, hs.out, if_neg (hne.out h00), ← hbb.out, hr.out, if_neg Bool.false_ne_true])⟩, by first | rfl | trivial⟩
          case measure => simp [intOf]; omega
    · obtain rfl : i = l.length := by omega
      have hbb : b = least ltI 0 l := by rw [hbb.out, List.take_length]
      subst hbb
      go_wp2
      exact bodyPost_ret (v := .tuple #[.int .i8 (least ltI 0 l), .bool (decide (0 < l.length))]) (by simp [results, Try.results34, go_sem]) rfl ⟨rfl, rfl⟩
set_option maxRecDepth 100000 in
theorem least_i16_b {w : World} {A : Option Addr} {l : List Int} {c : Nat} (h : Nums (fun b => .int .i16 b) w A l) (hb : True) (hl : l.length ≤ 4611686018427387904) :
    Calls Try.prog 35 #[.slice A l.length c] w fun e w' => e = .returned (.tuple #[.int .i16 (least ltI 0 l), .bool (decide (0 < l.length))]) ∧ w = w' := by
  have hli : (l.length : Int) ≤ 4611686018427387904 := by omega
  replace h := Lib.hid h
  replace hb := Lib.hid hb
  have h0 : decide ((l.length : Int) > 0) = decide (0 < l.length) := by congr 1; simp
  go_enter Try.func35, Try.ntmps35
  go_wp2
  go_loopw [4, 9] (fun c4 c9 wr => ∃ i : Nat, i ≤ l.length ∧ c9 = .int .i64 i ∧ (∃ b, c4 = .int .i16 b ∧ Hid (b = least ltI 0 (l.take i))) ∧ wr = w) (fun _ c9 _ => l.length - (intOf c9).toNat)
  case atStart => exact ⟨0, by omega, rfl, ⟨_, rfl, Lib.hid rfl⟩, rfl⟩
  case round =>
    obtain ⟨i, hi, rfl, ⟨b, rfl, hbb⟩, rfl⟩ := hrel
    by_cases hil : i < l.length
    · obtain ⟨ad, rfl, c0⟩ := h.out i hil
      have hii : (i : Int) < (l.length : Int) := by omega
      have hs := Lib.hid (least_snoc ltI 0 (l[i]'hil) (l.take i))
      have ht : Hid (l.take (i + 1) = l.take i ++ [l[i]'hil]) := Lib.hid (by rw [List.take_add_one, List.getElem?_eq_getElem hil]; rfl)
      have hx := Lib.hid (List.getElem_mem hil)
      have hne := Lib.hid (fun (h0 : i ≠ 0) => show l.take i ≠ [] from fun e => by have := congrArg List.length e; rw [List.length_take, List.length_nil] at this; omega)
      generalize l[i]'hil = x at *
      by_cases h00 : i = 0
      · have hz : (i == 0) = true := by simpa using h00
        have hzi : ((i : Int) == 0) = true := by simpa using h00
        have ht0 : Hid (l.take i = []) := Lib.hid (by rw [h00]; rfl)
        clear h00
        go_wp2
        go_roundw
        case rel => exact ⟨i + 1, by omega, by simp, ⟨_, rfl, Lib.hid (by rw [ht.out, hs.out, if_pos ht0.out])⟩, by first | rfl | trivial⟩
        case measure => simp [intOf]; omega
      · have hz : (i == 0) = false := by simpa using h00
        have hzi : ((i : Int) == 0) = false := by simpa using h00
        have hy : Hid (b ∈ l) := Lib.hid (by rw [hbb.out]; exact List.mem_of_mem_take (least_mem _ _ _ (hne.out h00)))
        have C := Lib.hid (ahead_i16 x b wr)
        obtain ⟨r, hr⟩ : ∃ r, Hid (ltI x b = r) := ⟨_, Lib.hid rfl⟩
        rw [hr.out] at C
        go_wp2_with fail
        refine C.out.mono ?_
        rintro _ _ ⟨rfl, rfl⟩
        clear C c0
        cases r with
        | true =>
          go_wp2
          go_roundw
          case rel => exact ⟨i + 1, by omega, by simp, ⟨_, rfl, Lib.hid (by rw [ht.out, hs.out, if_neg (hne.out h00), ← hbb.out, hr.out, if_pos rfl])⟩, by first | rfl | trivial⟩
          case measure => simp [intOf]; omega
        | false =>
          go_wp2
          go_roundw
          case rel => exact ⟨i + 1, by omega, by simp, ⟨_, rfl, Lib.hid (by rw [ht.out, hs.out, if_neg (hne.out h00), ← hbb.out, hr.out, if_neg Bool.false_ne_true])⟩, by first | rfl | trivial⟩
          case measure => simp [intOf]; omega
    · obtain rfl : i = l.length := by omega
      have hbb : b = least ltI 0 l := by rw [hbb.out, List.take_length]
      subst hbb
      go_wp2
      exact bodyPost_ret (v := .tuple #[.int .i16 (least ltI 0 l), .bool (decide (0 < l.length))]) (by simp [results, Try.results35, go_sem]) rfl ⟨rfl, rfl⟩
set_option maxRecDepth 100000 in
theorem least_i32_b {w : World} {A : Option Addr} {l : List Int} {c : Nat} (h : Nums (fun b => .int .i32 b) w A l) (hb : True) (hl : l.length ≤ 4611686018427387904) :
    Calls Try.prog 36 #[.slice A l.length c] w fun e w' => e = .returned (.tuple #[.int .i32 (least ltI 0 l), .bool (decide (0 < l.length))]) ∧ w = w' := by
  have hli : (l.length : Int) ≤ 4611686018427387904 := by omega
  replace h := Lib.hid h
  replace hb := Lib.hid hb
  have h0 : decide ((l.length : Int) > 0) = decide (0 < l.length) := by congr 1; simp
  go_enter Try.func36, Try.ntmps36
  go_wp2
  go_loopw [4, 9] (fun c4 c9 wr => ∃ i : Nat, i ≤ l.length ∧ c9 = .int .i64 i ∧ (∃ b, c4 = .int .i32 b ∧ Hid (b = least ltI 0 (l.take i))) ∧ wr = w) (fun _ c9 _ => l.length - (intOf c9).toNat)
  case atStart => exact ⟨0, by omega, rfl, ⟨_, rfl, Lib.hid rfl⟩, rfl⟩
  case round =>
    obtain ⟨i, hi, rfl, ⟨b, rfl, hbb⟩, rfl⟩ := hrel
    by_cases hil : i < l.length
    · obtain ⟨ad, rfl, c0⟩ := h.out i hil
      have hii : (i : Int) < (l.length : Int) := by omega
      have hs := Lib.hid (least_snoc ltI 0 (l[i]'hil) (l.take i))
      have ht : Hid (l.take (i + 1) = l.take i ++ [l[i]'hil]) := Lib.hid (by rw [List.take_add_one, List.getElem?_eq_getElem hil]; rfl)
      have hx := Lib.hid (List.getElem_mem hil)
      have hne := Lib.hid (fun (h0 : i ≠ 0) => show l.take i ≠ [] from fun e => by have := congrArg List.length e; rw [List.length_take, List.length_nil] at this; omega)
      generalize l[i]'hil = x at *
      by_cases h00 : i = 0
      · have hz : (i == 0) = true := by simpa using h00
        have hzi : ((i : Int) == 0) = true := by simpa using h00
        have ht0 : Hid (l.take i = []) := Lib.hid (by rw [h00]; rfl)
        clear h00
        go_wp2
        go_roundw
        case rel => exact ⟨i + 1, by omega, by simp, ⟨_, rfl, Lib.hid (by rw [ht.out, hs.out, if_pos ht0.out])⟩, by first | rfl | trivial⟩
        case measure => simp [intOf]; omega
      · have hz : (i == 0) = false := by simpa using h00
        have hzi : ((i : Int) == 0) = false := by simpa using h00
        have hy : Hid (b ∈ l) := Lib.hid (by rw [hbb.out]; exact List.mem_of_mem_take (least_mem _ _ _ (hne.out h00)))
        have C := Lib.hid (ahead_i32 x b wr)
        obtain ⟨r, hr⟩ : ∃ r, Hid (ltI x b = r) := ⟨_, Lib.hid rfl⟩
        rw [hr.out] at C
        go_wp2_with fail
        refine C.out.mono ?_
        rintro _ _ ⟨rfl, rfl⟩
        clear C c0
        cases r with
        | true =>
          go_wp2
          go_roundw
          case rel => exact ⟨i + 1, by omega, by simp, ⟨_, rfl, Lib.hid (by rw [ht.out, hs.out, if_neg (hne.out h00), ← hbb.out, hr.out, if_pos rfl])⟩, by first | rfl | trivial⟩
          case measure => simp [intOf]; omega
        | false =>
          go_wp2
          go_roundw
          case rel => exact ⟨i + 1, by omega, by simp, ⟨_, rfl, Lib.hid (by rw [ht.out, hs.out, if_neg (hne.out h00), ← hbb.out, hr.out, if_neg Bool.false_ne_true])⟩, by first | rfl | trivial⟩
          case measure => simp [intOf]; omega
    · obtain rfl : i = l.length := by omega
      have hbb : b = least ltI 0 l := by rw [hbb.out, List.take_length]
      subst hbb
      go_wp2
      exact bodyPost_ret (v := .tuple #[.int .i32 (least ltI 0 l), .bool (decide (0 < l.length))]) (by simp [results, Try.results36, go_sem]) rfl ⟨rfl, rfl⟩
set_option maxRecDepth 100000 in
theorem least_i64_b {w : World} {A : Option Addr} {l : List Int} {c : Nat} (h : Nums (fun b => .int .i64 b) w A l) (hb : True) (hl : l.length ≤ 4611686018427387904) :
    Calls Try.prog 37 #[.slice A l.length c] w fun e w' => e = .returned (.tuple #[.int .i64 (least ltI 0 l), .bool (decide (0 < l.length))]) ∧ w = w' := by
  have hli : (l.length : Int) ≤ 4611686018427387904 := by omega
  replace h := Lib.hid h
  replace hb := Lib.hid hb
  have h0 : decide ((l.length : Int) > 0) = decide (0 < l.length) := by congr 1; simp
  go_enter Try.func37, Try.ntmps37
  go_wp2
  go_loopw [4, 9] (fun c4 c9 wr => ∃ i : Nat, i ≤ l.length ∧ c9 = .int .i64 i ∧ (∃ b, c4 = .int .i64 b ∧ Hid (b = least ltI 0 (l.take i))) ∧ wr = w) (fun _ c9 _ => l.length - (intOf c9).toNat)
  case atStart => exact ⟨0, by omega, rfl, ⟨_, rfl, Lib.hid rfl⟩, rfl⟩
  case round =>
    obtain ⟨i, hi, rfl, ⟨b, rfl, hbb⟩, rfl⟩ := hrel
    by_cases hil : i < l.length
    · obtain ⟨ad, rfl, c0⟩ := h.out i hil
      have hii : (i : Int) < (l.length : Int) := by omega
      have hs := Lib.hid (least_snoc ltI 0 (l[i]'hil) (l.take i))
      have ht : Hid (l.take (i + 1) = l.take i ++ [l[i]'hil]) := Lib.hid (by rw [List.take_add_one, List.getElem?_eq_getElem hil]; rfl)
      have hx := Lib.hid (List.getElem_mem hil)
      have hne := Lib.hid (fun (h0 : i ≠ 0) => show l.take i ≠ [] from fun e => by have := congrArg List.length e; rw [List.length_take, List.length_nil] at this; omega)
      generalize l[i]'hil = x at *
      by_cases h00 : i = 0
      · have hz : (i == 0) = true := by simpa using h00
        have hzi : ((i : Int) == 0) = true := by simpa using h00
        have ht0 : Hid (l.take i = []) := Lib.hid (by rw [h00]; rfl)
        clear h00
        go_wp2
        go_roundw
        case rel => exact ⟨i + 1, by omega, by simp, ⟨_, rfl, Lib.hid (by rw [ht.out, hs.out, if_pos ht0.out])⟩, by first | rfl | trivial⟩
        case measure => simp [intOf]; omega
      · have hz : (i == 0) = false := by simpa using h00
        have hzi : ((i : Int) == 0) = false := by simpa using h00
        have hy : Hid (b ∈ l) := Lib.hid (by rw [hbb.out]; exact List.mem_of_mem_take (least_mem _ _ _ (hne.out h00)))
        have C := Lib.hid (ahead_i64 x b wr)
        obtain ⟨r, hr⟩ : ∃ r, Hid (ltI x b = r) := ⟨_, Lib.hid rfl⟩
        rw [hr.out] at C
        go_wp2_with fail
        refine C.out.mono ?_
        rintro _ _ ⟨rfl, rfl⟩
        clear C c0
        cases r with
        | true =>
          go_wp2
          go_roundw
          case rel => exact ⟨i + 1, by omega, by simp, ⟨_, rfl, Lib.hid (by rw [ht.out, hs.out, if_neg (hne.out h00), ← hbb.out, hr.out, if_pos rfl])⟩, by first | rfl | trivial⟩
          case measure => simp [intOf]; omega
        | false =>
          go_wp2
          go_roundw
          case rel => exact ⟨i + 1, by omega, by simp, ⟨_, rfl, Lib.hid (by rw [ht.out, hs.out, if_neg (hne.out h00), ← hbb.out, hr.out, if_neg Bool.false_ne_true])⟩, by first | rfl | trivial⟩
          case measure => simp [intOf]; omega
    · obtain rfl : i = l.length := by omega
      have hbb : b = least ltI 0 l := by rw [hbb.out, List.take_length]
      subst hbb
      go_wp2
      exact bodyPost_ret (v := .tuple #[.int .i64 (least ltI 0 l), .bool (decide (0 < l.length))]) (by simp [results, Try.results37, go_sem]) rfl ⟨rfl, rfl⟩
end Go.Proofs.Ytconppelbjjkjaa
