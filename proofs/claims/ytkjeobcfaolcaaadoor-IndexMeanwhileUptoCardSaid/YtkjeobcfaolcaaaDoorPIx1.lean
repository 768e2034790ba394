/- Trailing zeros, and a key's home, by contract. -/
import Derived.Test.YtkjeobcfaolcaaaDoorRows
import Derived.WalkKit
import Derived.WalkSpells
import Derived.WalkLawsBesides
import Derived.Lib.Hide
import Derived.Shelf.Spec.TrailingZeros
import Derived.IntWalk
import Derived.Outline
import Derived.Deep.LoopGhost
import Derived.WalkMore
import Derived.OwnWalk
import Derived.ArgAppend
import Derived.Laws.AppendOwnNone
import Derived.Laws.IdiomCopy
import Derived.Below
import Derived.Carry
import Derived.Maps.AppendAt
import Derived.Deep.AppendLies
import Derived.Deep.Draws
import Derived.RegionTactic
import Derived.ScopeJumps
namespace Go.Proofs.YtkjeobcfaolcaaaDoor
open Go.RowKit
set_option maxHeartbeats 2000000
set_option linter.unusedVariables false
set_option linter.unusedSimpArgs false

/-- The library's table lies in its variable. -/
def Tab (w : World) : Prop := TabAt 1 Lib.deBruijn64tab w
theorem tz64_core (x k idx : Nat) (w : World) (hx0 : ((x : Int) == 0) = false)
    (key : IntKind.u64.wrap (bits BinOp.and IntKind.u64 (x : Int) (IntKind.u64.wrap (-(x : Int))) * 285870213051353865) / 288230376151711744 = (idx : Int))
    (hi : idx < 64) (hk : k < 64) (hcell : w.cell? ⟨1, idx, none⟩ = some (.int .u8 k)) :
    Calls Tryd.prog 83 #[.int .u64 x] w fun e w' => e = .returned (.int .i64 k) ∧ w = w' := by
  go_enter Tryd.func83, Tryd.ntmps83
  go_wp2_with (simp only [key])
  go_ret
  exact ⟨rfl, rfl⟩
theorem tz64_b {x : Nat} {w : World} (hx : x < 18446744073709551616) (hx0 : x ≠ 0) (hT : Tab w) : Calls Tryd.prog 83 #[.int .u64 x] w fun e w' => e = .returned (.int .i64 (Lib.ctz 64 x)) ∧ w = w' := by
  obtain ⟨hlow, hk⟩ := Lib.lowest_bit 64 x hx0 hx
  obtain ⟨hi, htab⟩ := Lib.deBruijn64_at _ hk
  have hcell := hT _ hi
  rw [htab] at hcell
  exact tz64_core x _ _ w (by simp; omega) (tz64_key x _ hx hx0 hlow) hi hk hcell
theorem tz_b {x : Nat} {w : World} (hx : x < 18446744073709551616) (hx0 : x ≠ 0) (hT : Tab w) : Calls Tryd.prog 74 #[.int .u64 x] w fun e w' => e = .returned (.int .i64 (Lib.ctz 64 x)) ∧ w = w' := by
  have h := Lib.hid (tz64_b hx hx0 hT)
  have hw : IntKind.u64.wrap (x : Int) = (x : Int) := by rw [IntKind.wrap_u64]; omega
  clear hT
  go_enter Tryd.func74, Tryd.ntmps74
  go_wp2_with fail
  refine h.out.mono ?_
  rintro _ w2 ⟨rfl, rfl⟩
  go_wp2
  go_ret
  exact ⟨rfl, rfl⟩
end Go.Proofs.YtkjeobcfaolcaaaDoor
/- A key's home, by contract. -/
namespace Go.Proofs.YtkjeobcfaolcaaaDoor
open Go.RowKit
set_option maxHeartbeats 2000000
set_option linter.unusedVariables false
set_option linter.unusedSimpArgs false

theorem ctz_pow : ∀ k, k < 64 → Lib.ctz 64 (2 ^ k) = k := by decide
/-- a key's home among 2^k slots -/
def homeOf (key : Int) (k : Nat) : Int := IntKind.u64.wrap (key * 11400714819323198485) / 2 ^ (64 - k)
theorem homeOf_bd (key : Int) {k : Nat} (h1 : 1 ≤ k) (h2 : k ≤ 62) : 0 ≤ homeOf key k ∧ homeOf key k < 2 ^ k := by
  unfold homeOf
  have h0 : 0 ≤ IntKind.u64.wrap (key * 11400714819323198485) ∧ IntKind.u64.wrap (key * 11400714819323198485) < 18446744073709551616 := by rw [IntKind.wrap_u64]; omega
  generalize IntKind.u64.wrap (key * 11400714819323198485) = h at *
  have hp : (0 : Int) < 2 ^ (64 - k) := Int.pow_pos (by decide)
  refine ⟨Int.ediv_nonneg h0.1 (Int.le_of_lt hp), Int.ediv_lt_of_lt_mul hp ?_⟩
  rw [← Int.pow_add]
  rw [show k + (64 - k) = 64 by omega]
  omega
theorem home_b {key : Int} {k : Nat} {w : World} (h1 : 1 ≤ k) (h2 : k ≤ 62) (hT : Tab w) : Calls Tryd.prog 42 #[.int .u64 key, .int .i64 ((2 ^ k : Nat) : Int)] w fun e w' => e = .returned (.int .i64 (homeOf key k)) ∧ w = w' := by
  have hp : 2 ^ k < 18446744073709551616 := Nat.lt_of_le_of_lt (Nat.pow_le_pow_right (by omega) h2) (by decide)
  have hp0 : 2 ^ k ≠ 0 := by have := Nat.two_pow_pos k; omega
  have C := tz_b hp hp0 hT
  rw [ctz_pow k (by omega)] at C
  have C := Lib.hid C
  have hbd := homeOf_bd key h1 h2
  have hq : (2 : Int) ^ k ≤ 4611686018427387904 := by
    have : 2 ^ k ≤ 2 ^ 62 := Nat.pow_le_pow_right (by omega) h2
    have h3 : ((2 ^ k : Nat) : Int) ≤ ((2 ^ 62 : Nat) : Int) := by omega
    simpa using h3
  have hwr : wrap64 (IntKind.u64.wrap (key * 11400714819323198485) / 2 ^ (64 - k)) = IntKind.u64.wrap (key * 11400714819323198485) / 2 ^ (64 - k) := by
    show wrap64 (homeOf key k) = homeOf key k
    exact IntWalk.wrap64_in _ (by omega)
  have hwx : IntKind.u64.wrap ((2 ^ k : Nat) : Int) = ((2 ^ k : Nat) : Int) := by
    generalize 2 ^ k = sl at *
    rw [IntKind.wrap_u64]; omega
  have hk1 : (1 : Int) ≤ k := by omega
  have hk2 : (k : Int) ≤ 62 := by omega
  clear hp hp0 hT hbd hq
  generalize 2 ^ k = sl at *
  go_enter Tryd.func42, Tryd.ntmps42
  go_wp2_with fail
  refine C.out.mono ?_
  rintro _ w2 ⟨rfl, rfl⟩
  go_wp2
  go_ret
  refine ⟨?_, rfl⟩
  show Ending.returned (.int .i64 (wrap64 (IntKind.u64.wrap (key * 11400714819323198485) / 2 ^ (64 - k)))) = _
  first | (rw [hwr]; rfl) | rfl
end Go.Proofs.YtkjeobcfaolcaaaDoor
/- Home, by the program and by the document, by contract. -/
namespace Go.Proofs.YtkjeobcfaolcaaaDoor
open Go.RowKit
set_option maxHeartbeats 2000000
set_option linter.unusedVariables false
set_option linter.unusedSimpArgs false

theorem pow_of_and : ∀ (n s : Nat), s ≤ n → 0 < s → s &&& (s - 1) = 0 → ∃ k, s = 2 ^ k
  | 0, s, h, h0, _ => by omega
  | n + 1, s, h, h0, ha => by
    have hd : s / 2 &&& (s - 1) / 2 = 0 := by rw [← Nat.and_div_two, ha]
    by_cases he : s % 2 = 0
    · have e : (s - 1) / 2 = s / 2 - 1 := by omega
      rw [e] at hd
      obtain ⟨k, hk⟩ := pow_of_and n (s / 2) (by omega) (by omega) hd
      exact ⟨k + 1, by rw [Nat.pow_succ]; omega⟩
    · have e : (s - 1) / 2 = s / 2 := by omega
      rw [e, Nat.and_self] at hd
      exact ⟨0, by simp; omega⟩
theorem and_of_pow (k : Nat) : 2 ^ k &&& (2 ^ k - 1) = 0 := by rw [Nat.and_two_pow_sub_one_eq_mod, Nat.mod_self]
theorem bits_and_i64_nat (a b : Nat) (ha : a < 9223372036854775808) (hb : b < 9223372036854775808) : bits .and .i64 (a : Int) (b : Int) = ((a &&& b : Nat) : Int) := by
  have hx : a &&& b < 2 ^ 63 := Nat.and_lt_two_pow _ (by omega)
  have h1 : (BitVec.ofInt 64 (a : Int)).toNat = a := by
    rw [BitVec.ofInt_natCast, BitVec.toNat_ofNat]; exact Nat.mod_eq_of_lt (by omega)
  have h2 : (BitVec.ofInt 64 (b : Int)).toNat = b := by
    rw [BitVec.ofInt_natCast, BitVec.toNat_ofNat]; exact Nat.mod_eq_of_lt (by omega)
  show IntKind.i64.wrap ((BitVec.ofInt 64 (a : Int) &&& BitVec.ofInt 64 (b : Int)).toNat : Int) = _
  rw [BitVec.toNat_and, h1, h2]
  exact IntWalk.i64_in _ (by omega)
/-- a number of slots -/
def isSlots (s : Int) (k : Nat) : Prop := 3 ≤ k ∧ k ≤ 62 ∧ s = ((2 ^ k : Nat) : Int)
theorem Home_yes {key : Int} {k : Nat} {w : World} (h1 : 3 ≤ k) (h2 : k ≤ 62) (hT : Tab w) : Calls Tryd.prog 9 #[.int .u64 key, .int .i64 ((2 ^ k : Nat) : Int)] w fun e w' => e = .returned (.tuple #[.int .i64 (homeOf key k), .int .i64 0]) ∧ w = w' := by
  have C := Lib.hid (home_b (key := key) (by omega) h2 hT)
  have hge : 8 ≤ 2 ^ k := Nat.le_trans (show 8 ≤ 2 ^ 3 by decide) (Nat.pow_le_pow_right (by decide) h1)
  have hm : 2 ^ k < 9223372036854775808 := Nat.lt_of_le_of_lt (Nat.pow_le_pow_right (by omega) h2) (by decide)
  have hb := bits_and_i64_nat (2 ^ k) (2 ^ k - 1) hm (by omega)
  rw [and_of_pow, show ((2 ^ k - 1 : Nat) : Int) = ((2 ^ k : Nat) : Int) - 1 by omega] at hb
  generalize 2 ^ k = sl at *
  have hs8 : decide ((sl : Int) < 8) = false := decide_eq_false (by omega)
  have hz : (bits BinOp.and .i64 (sl : Int) ((sl : Int) - 1) != 0) = false := by rw [hb]; rfl
  generalize homeOf key k = hm at *
  have hs1 : (8 : Int) ≤ sl := by omega
  have hs2 : (sl : Int) ≤ 9223372036854775807 := by omega
  clear hb hT hge
  go_enter Tryd.func9, Tryd.ntmps9
  go_wp2_with fail
  refine C.out.mono ?_
  rintro _ w2 ⟨rfl, rfl⟩
  go_wp2
  go_ret2
  exact ⟨rfl, rfl⟩
theorem Home_no {key s : Int} {w : World} (h1 : -9223372036854775808 ≤ s) (h2 : s ≤ 9223372036854775807) (hn : ∀ k, ¬ isSlots s k) : Calls Tryd.prog 9 #[.int .u64 key, .int .i64 s] w fun e w' => e = .returned (.tuple #[.int .i64 0, .int .i64 2]) ∧ w = w' := by
  by_cases h8 : s < 8
  · have hs8 : decide (s < 8) = true := decide_eq_true h8
    clear hn h8
    go_enter Tryd.func9, Tryd.ntmps9
    go_wp2
    go_ret2
    exact ⟨rfl, rfl⟩
  · obtain ⟨sl, rfl⟩ : ∃ sl : Nat, s = (sl : Int) := ⟨s.toNat, by omega⟩
    have hb := bits_and_i64_nat sl (sl - 1) (by omega) (by omega)
    rw [show ((sl - 1 : Nat) : Int) = (sl : Int) - 1 by omega] at hb
    have hz : (bits BinOp.and .i64 (sl : Int) ((sl : Int) - 1) != 0) = true := by
      rw [hb]
      simp only [bne_iff_ne, ne_eq]
      intro hc
      obtain ⟨k, hk⟩ := pow_of_and sl sl (Nat.le_refl _) (by omega) (by omega)
      refine hn k ⟨?_, ?_, by rw [hk]⟩
      · apply Nat.le_of_not_lt
        intro hlt
        have : 2 ^ k ≤ 2 ^ 2 := Nat.pow_le_pow_right (by decide) (by omega)
        omega
      · apply Nat.le_of_not_lt
        intro hlt
        have : 2 ^ 63 ≤ 2 ^ k := Nat.pow_le_pow_right (by decide) (by omega)
        omega
    have hs8 : decide ((sl : Int) < 8) = false := decide_eq_false h8
    have hs1 : (8 : Int) ≤ sl := by omega
    clear hb hn h8
    go_enter Tryd.func9, Tryd.ntmps9
    go_wp2
    go_ret2
    exact ⟨rfl, rfl⟩
end Go.Proofs.YtkjeobcfaolcaaaDoor
/- A key's slot: plain. -/
namespace Go.Proofs.YtkjeobcfaolcaaaDoor
open Go.RowKit
set_option maxHeartbeats 4000000
set_option linter.unusedVariables false
set_option linter.unusedSimpArgs false

/-- the way from slot i on: slot and number asked; U: used, K: key -/
def lgo (U : Nat → Bool) (K : Nat → Int) (key : Int) (sl : Nat) : Nat → Nat → Nat → Option (Nat × Nat)
  | 0, _, _ => none
  | f + 1, i, n => if (U i && K i != key) = true then lgo U K key sl f ((i + 1) % sl) (n + 1) else some (i, n)
/-- cells of sl slots of three cells -/
def SlotsAt (w : World) (g sl : Nat) (U : Nat → Bool) (K : Nat → Int) : Prop :=
  ∀ i, i < sl → w.cell? ⟨g, i * 3, none⟩ = some (.bool (U i)) ∧ w.cell? ⟨g, i * 3 + 1, none⟩ = some (.int .u64 (K i))
def intOf : Value → Int | .int _ q => q | _ => 0
theorem bit_next {k i : Nat} (hk : k ≤ 62) (hi : i < 2 ^ k) : bits .and .i64 ((i : Int) + 1) (((2 ^ k : Nat) : Int) - 1) = (((i + 1) % 2 ^ k : Nat) : Int) := by
  have hq : 2 ^ k ≤ 2 ^ 62 := Nat.pow_le_pow_right (by omega) hk
  have h0 := Nat.two_pow_pos k
  have h := bits_and_i64_nat (i + 1) (2 ^ k - 1) (by omega) (by omega)
  rw [Nat.and_two_pow_sub_one_eq_mod] at h
  rw [← h]
  congr 1
  omega
end Go.Proofs.YtkjeobcfaolcaaaDoor
/- Slices that a call has made, cut and appended to: their cells, whatever their address and capacity; one law for every append. -/
namespace Go.Proofs.YtkjeobcfaolcaaaDoor
open Go.RowKit

section
variable {w w' : World} {B : Nat} {e : TypeId} {size : Nat} {v : Value} {n : Nat} {xs : List Value}

/-- The slice v has n elements, whose cells are xs; they lie in a block from B on, with room up to its capacity. -/
def Rowv (w : World) (B : Nat) (e : TypeId) (size : Nat) (v : Value) (n : Nat) (xs : List Value) : Prop :=
  xs.length = n * size ∧ ((v = .slice none 0 0 ∧ n = 0) ∨
    ∃ g off cap cur, v = .slice (some ⟨g, off, none⟩) n cap ∧ B ≤ g ∧ w.heap[g]? = some (.cells cur e (0, 0)) ∧ n ≤ cap ∧ cap ≤ maxLen ∧ off + cap * size ≤ cur.size ∧ (cur.toList.drop off).take (n * size) = xs)

theorem Rowv.nil (w : World) (B : Nat) (e : TypeId) (size : Nat) : Rowv w B e size (.slice none 0 0) 0 [] := ⟨by simp, .inl ⟨rfl, rfl⟩⟩
theorem Rowv.of_own (h : w.ownsRow B e size v n xs) : Rowv w B e size v n xs := by
  obtain ⟨h0, h⟩ := h
  refine ⟨h0, h.imp id ?_⟩
  rintro ⟨g, cap, cur, h1, h2, h3, h4, h5, h6, h7⟩
  exact ⟨g, 0, cap, cur, h1, h2, h3, h4, h5, by omega, by simpa using h7⟩
theorem Rowv.lt (h : Rowv w B e size v n xs) {k : Nat} (hk : v.ownBlock = some k) : B ≤ k ∧ k < w.heap.size := by
  rcases h.2 with ⟨rfl, _⟩ | ⟨g, off, cap, cur, rfl, h2, h3, _⟩
  · cases hk
  · obtain rfl : g = k := by simpa [Value.ownBlock] using hk
    refine ⟨h2, ?_⟩
    rcases Nat.lt_or_ge g w.heap.size with hl | hg
    · exact hl
    · rw [Array.getElem?_eq_none hg] at h3; cases h3
theorem Rowv.keep (h : Rowv w B e size v n xs) (hk : ∀ k, v.ownBlock = some k → w'.heap[k]? = w.heap[k]?) : Rowv w' B e size v n xs := by
  obtain ⟨h0, h⟩ := h
  refine ⟨h0, h.imp id ?_⟩
  rintro ⟨g, off, cap, cur, rfl, h2, h3, h4⟩
  exact ⟨g, off, cap, cur, rfl, h2, (hk g rfl).trans h3, h4⟩
theorem Rowv.keepLt (h : Rowv w B e size v n xs) (hk : ∀ k, B ≤ k → k < w.heap.size → v.ownBlock = some k → w'.heap[k]? = w.heap[k]?) : Rowv w' B e size v n xs :=
  h.keep fun k h1 => hk k (h.lt h1).1 (h.lt h1).2 h1
theorem Rowv.base (h : Rowv w B e size v n xs) {B' : Nat} (hb : ∀ k, v.ownBlock = some k → B' ≤ k) : Rowv w B' e size v n xs := by
  obtain ⟨h0, h⟩ := h
  refine ⟨h0, h.imp id ?_⟩
  rintro ⟨g, off, cap, cur, rfl, h2, h3⟩
  exact ⟨g, off, cap, cur, rfl, hb g rfl, h3⟩
theorem Rowv.shape (h : Rowv w B e size v n xs) : ∃ A cap, v = .slice A n cap ∧ n ≤ cap ∧ (A = none → n = 0 ∧ cap = 0) := by
  rcases h.2 with ⟨rfl, rfl⟩ | ⟨g, off, cap, cur, rfl, _, _, h4, _⟩
  · exact ⟨none, 0, rfl, Nat.le_refl _, fun _ => ⟨rfl, rfl⟩⟩
  · exact ⟨_, cap, rfl, h4, fun h => nomatch h⟩
/-- Where its cells lie. -/
theorem Rowv.at_ (h : Rowv w B e size v n xs) (hn : 0 < n) : ∃ g off cap, v = .slice (some ⟨g, off, none⟩) n cap ∧ B ≤ g ∧ g < w.heap.size ∧ n ≤ cap ∧
    ∀ j, j < n * size → w.cell? ⟨g, off + j, none⟩ = xs[j]? ∧ w.frozen? ⟨g, off + j, none⟩ = false := by
  have h' := h
  rcases h.2 with ⟨rfl, rfl⟩ | ⟨g, off, cap, cur, rfl, h2, h3, h4, h5, h6, h7⟩
  · omega
  · refine ⟨g, off, cap, rfl, h2, (h'.lt rfl).2, h4, fun j hj => ⟨?_, by simp [World.frozen?, h3]⟩⟩
    have hc : w.cell? ⟨g, off + j, none⟩ = cur[off + j]? := by simp [World.cell?, h3]
    rw [hc, ← h7, List.getElem?_take, if_pos hj, List.getElem?_drop, Array.getElem?_toList]

/-- A shorter slice of it, the capacity cut or not. -/
theorem Rowv.cut {A : Option Addr} {cap : Nat} (h : Rowv w B e size (.slice A n cap) n xs) {m c : Nat} (hm : m ≤ n) (hmc : m ≤ c) (hc : c ≤ cap) : Rowv w B e size (.slice A m c) m (xs.take (m * size)) := by
  have hmul : m * size ≤ n * size := Nat.mul_le_mul_right _ hm
  have hmul2 : c * size ≤ cap * size := Nat.mul_le_mul_right _ hc
  refine ⟨by rw [List.length_take, h.1]; omega, ?_⟩
  rcases h.2 with ⟨h1, rfl⟩ | ⟨g, off, cap', cur, h1, h2, h3, h4, h5, h6, h7⟩
  · injection h1 with h1 _ h3
    subst h1
    obtain rfl : m = 0 := by omega
    obtain rfl : c = 0 := by omega
    exact .inl ⟨rfl, rfl⟩
  · injection h1 with h1 _ h8
    subst h1
    subst h8
    exact .inr ⟨g, off, c, cur, rfl, h2, h3, hmc, by omega, by omega, by rw [← h7, List.take_take, Nat.min_eq_left hmul]⟩
/-- What stands behind its first elements. -/
theorem Rowv.behind {g off cap : Nat} (h : Rowv w B e size (.slice (some ⟨g, off, none⟩) n cap) n xs) {m : Nat} (hm : m ≤ n) (hc : m < cap) : Rowv w B e size (.slice (some ⟨g, off + m * size, none⟩) (n - m) (cap - m)) (n - m) (xs.drop (m * size)) := by
  have hmul : m * size ≤ n * size := Nat.mul_le_mul_right _ hm
  have hmul2 : m * size ≤ cap * size := Nat.mul_le_mul_right _ (Nat.le_of_lt hc)
  refine ⟨by rw [List.length_drop, h.1, Nat.sub_mul], ?_⟩
  rcases h.2 with ⟨h1, rfl⟩ | ⟨g', off', cap', cur, h1, h2, h3, h4, h5, h6, h7⟩
  · cases h1
  · injection h1 with h1 _ h8
    simp only [Option.some.injEq, Addr.mk.injEq, and_true] at h1
    obtain ⟨rfl, rfl⟩ := h1
    subst h8
    refine .inr ⟨g, off + m * size, cap - m, cur, rfl, h2, h3, by omega, by omega, by rw [Nat.sub_mul]; omega, ?_⟩
    rw [← h7, List.drop_take, List.drop_drop, Nat.sub_mul]
theorem Rowv.behindAll {A : Option Addr} {cap : Nat} (h : Rowv w B e size (.slice A n cap) n xs) : Rowv w B e size (.slice A 0 0) 0 [] := by
  have := h.cut (m := 0) (c := 0) (Nat.zero_le _) (Nat.le_refl _) (Nat.zero_le _)
  simpa using this

/-- The cells from o on, set one by one. -/
def setAll : Array Value → Nat → List Value → Array Value
  | cur, _, [] => cur
  | cur, o, u :: r => setAll (cur.setIfInBounds o u) (o + 1) r
theorem setAll_size : ∀ (vs : List Value) (cur : Array Value) (o : Nat), (setAll cur o vs).size = cur.size
  | [], _, _ => rfl
  | u :: r, cur, o => by rw [setAll, setAll_size r]; simp
theorem setAll_get : ∀ (vs : List Value) (cur : Array Value) (o j : Nat), (setAll cur o vs)[j]? = if o ≤ j ∧ j < o + vs.length ∧ j < cur.size then vs[j - o]? else cur[j]?
  | [], cur, o, j => by rw [setAll, if_neg (by simp; omega)]
  | u :: r, cur, o, j => by
    rw [setAll, setAll_get r]
    simp only [Array.size_setIfInBounds, List.length_cons]
    by_cases h1 : o = j
    · subst h1
      rw [if_neg (by omega)]
      by_cases h2 : o < cur.size
      · rw [if_pos (by omega)]; simp [h2]
      · rw [if_neg (by omega)]; simp [h2]
    · rw [Array.getElem?_setIfInBounds_ne h1]
      by_cases h2 : o ≤ j ∧ j < o + (r.length + 1) ∧ j < cur.size
      · rw [if_pos h2, if_pos (by omega), show j - o = (j - (o + 1)) + 1 by omega]
        simp
      · rw [if_neg h2, if_neg (by omega)]
theorem heap_setCells (b : Nat) : ∀ (vs : List Value) (o : Nat) (w : World) (cur : Array Value), w.heap[b]? = some (.cells cur e (0, 0)) →
    (w.setCells b o vs).heap[b]? = some (.cells (setAll cur o vs) e (0, 0)) ∧ (∀ k, k ≠ b → (w.setCells b o vs).heap[k]? = w.heap[k]?) ∧ (w.setCells b o vs).heap.size = w.heap.size ∧
      (w.setCells b o vs).os = w.os ∧ (w.setCells b o vs).tape = w.tape ∧ (w.setCells b o vs).output = w.output
  | [], _, _, _, h => ⟨h, fun _ _ => rfl, rfl, rfl, rfl, rfl⟩
  | u :: r, o, w, cur, h => by
    obtain ⟨h1, h2, h3, h4, h5, h6⟩ := heap_setCells b r (o + 1) (w.setCell ⟨b, o, none⟩ u) (cur.setIfInBounds o u) (by simp [World.setCell, Array.getElem?_modify, h])
    refine ⟨h1, fun k hk => ?_, ?_, h4.trans rfl, h5.trans rfl, h6.trans rfl⟩
    · rw [World.setCells, h2 k hk]
      exact Below.heap_setCell w ⟨b, o, none⟩ u k hk
    · rw [World.setCells, h3]; simp [World.setCell]

/-- A source of an append: its cells. -/
def Src (w : World) (v : Value) (m size : Nat) (news : List Value) : Prop :=
  (v = .slice none 0 0 ∧ m = 0 ∧ news = []) ∨ ∃ ad c, v = .slice (some ad) m c ∧ news.length = m * size ∧ (∀ j u, news[j]? = some u → w.cell? (ad.add j) = some u) ∧ ∀ u ∈ news, u.oneCell' = true
theorem Rowv.src (h : Rowv w B e size v n xs) (h1 : ∀ u ∈ xs, u.oneCell' = true) : Src w v n size xs := by
  rcases h.2 with ⟨rfl, rfl⟩ | ⟨g, off, cap, cur, rfl, h2, h3, h4, h5, h6, h7⟩
  · exact .inl ⟨rfl, rfl, List.eq_nil_of_length_eq_zero (by simpa using h.1)⟩
  · refine .inr ⟨_, cap, rfl, h.1, fun j u hj => ?_, h1⟩
    have hjl : j < n * size := by rw [← h.1]; exact (List.getElem?_eq_some_iff.1 hj).1
    have hc : w.cell? ⟨g, off + j, none⟩ = cur[off + j]? := by simp [World.cell?, h3]
    rw [Addr.add_lit, hc, ← hj, ← h7, List.getElem?_take, if_pos hjl, List.getElem?_drop, Array.getElem?_toList]
theorem Src.lit (w : World) {vs : List Value} {e : TypeId} {m size : Nat} (hm : vs.length = m * size) (h1 : ∀ u ∈ vs, u.oneCell' = true) (c : Nat) : Src (w.alloc (.cells vs.toArray e)) (.slice (some ⟨w.heap.size, 0, none⟩) m c) m size vs := by
  refine .inr ⟨_, c, rfl, hm, fun j u hj => ?_, h1⟩
  rw [Addr.add_lit, cell_of_row _ _ _ _ _ _ (heap_alloc_new w _)]
  simpa using hj

/-- append, whatever is appended to a slice that the call has made. -/
theorem wpList_app {P : Program} (w : World) {ops : Array Oper} {rest : List Oper} {o : Oper} {a : Act} {Q : Exit → Act → World → Prop} (hg : o.guard = none) (s x : Operand) (t : TypeId)
    (hop : o.op = Op.call { callee := Callee.builtin Builtin.append, args := #[s, x], argTypes := #[t, t] }) (e : TypeId) (i : TypeInfo) (z : Value) (size bytes : Nat) (h1 : P.underlying t = some (.slice e)) (h2 : P.info? e = some i) (h3 : i.zero = some z) (h4 : i.size = size) (h5 : i.bytes = bytes) (h6 : z.cells.size = size) (h7 : 0 < size)
    (B : Nat) (v : Value) (n : Nat) (xs : List Value) (hs : a.eval s = v) (hrow : Rowv w B e size v n xs) (u : Value) (m : Nat) (news : List Value) (hx : a.eval x = u) (hsrc : Src w u m size news) (b1 : n + m ≤ maxLen) (b2 : (n + m) * bytes ≤ 140737488355328) (hB : B ≤ w.heap.size)
    (hK : ∀ v' w', Rowv w' B e size v' (n + m) (xs ++ news) → w.grownBy w' v.ownBlock → (v'.ownBlock = v.ownBlock ∨ ∃ k, v'.ownBlock = some k ∧ w.heap.size ≤ k) → wpList P ops Q rest (a.put o.dst v') w') :
    wpList P ops Q (o :: rest) a w := by
  rcases hsrc with ⟨rfl, rfl, rfl⟩ | ⟨ad, c, rfl, hn, hc, h1c⟩
  · refine wpList_plain hg fun K hK' => ?_
    have hrun : (Builtin.append_ #[t, t] o.type #[v, .slice none 0 0]).run P w = .ok v w := by
      rcases hrow.2 with ⟨rfl, rfl⟩ | ⟨g, off, cap, cur, rfl, _, _, hnc, _⟩
      · simp [Builtin.append_, run_underlying h1, sizeOf, typeInfo, h2, Builtin.lenOf, Builtin.firstCells]
      · simp [Builtin.append_, run_underlying h1, sizeOf, typeInfo, h2, Builtin.lenOf, Builtin.firstCells, hnc, storeCells]
    unfold Oper.wp
    simp [execOp, hop, resolve, invoke, builtin, hs, hx, hrun, Result.andThen]
    exact hK' _ _ (hK v w (by simpa using hrow) ⟨rfl, rfl, rfl, Nat.le_refl _, fun _ _ _ => rfl⟩ (.inl rfl))
  · rcases hrow.2 with ⟨rfl, rfl⟩ | ⟨g, off, cap, cur, rfl, k2, k3, k4, k5, k6, k7⟩
    · have e0 : xs = [] := List.eq_nil_of_length_eq_zero (by simpa using hrow.1)
      subst e0
      refine wpList_append_own w hg s x t hop w.heap.size e i z size bytes h1 h2 h3 h4 h5 h6 h7 (.slice none 0 0) 0 [] hs (World.ownsRow_nil w w.heap.size e size) ad m c news hx hn hc h1c b1 b2 (Nat.le_refl _) ?_
      intro v' w' hown hgr hnil
      have hr := Rowv.of_own hown
      refine hK v' w' (hr.base fun k hk => Nat.le_trans hB (hr.lt hk).1) hgr ?_
      by_cases hm : m = 0
      · left; rw [hnil.2 ⟨rfl, hm⟩]
      · rcases hown.2 with ⟨h, _⟩ | ⟨g, cap, cur, rfl, hb, hh, _⟩
        · exact absurd (hnil.1 h).2 hm
        · exact .inr ⟨g, rfl, hb⟩
    · have hcell : ∀ j, w.cell? ⟨g, off + j, none⟩ = cur[off + j]? := fun j => by simp [World.cell?, k3]
      have hmul : (n + m) * size = n * size + m * size := Nat.add_mul n m size
      refine wpList_append_arg w hg s x t hop e i z size bytes h1 h2 h3 h4 h5 h6 h7 g off n cap xs hs hrow.1 (fun j u hj => ?_) ad m c news hx hn hc h1c (fun hr j hj => ?_) b1 b2 (fun hr => ?_) (fun _ v' w' hown hgr => ?_)
      · have hjl : j < n * size := by rw [← hrow.1]; exact (List.getElem?_eq_some_iff.1 hj).1
        rw [hcell, ← hj, ← k7, List.getElem?_take, if_pos hjl, List.getElem?_drop, Array.getElem?_toList]
      · have hle : (n + m) * size ≤ cap * size := Nat.mul_le_mul_right _ hr
        refine ⟨?_, by simp [World.frozen?, k3]⟩
        rw [Nat.add_assoc, hcell, Array.getElem?_eq_getElem (by omega)]
        rfl
      · have hle : (n + m) * size ≤ cap * size := Nat.mul_le_mul_right _ hr
        obtain ⟨q1, q2, q3, q4, q5, q6⟩ := heap_setCells g news (off + n * size) w cur k3
        refine hK _ _ ⟨by rw [List.length_append, hrow.1, hn, hmul], .inr ⟨g, off, cap, _, rfl, k2, q1, hr, k5, by rw [setAll_size]; exact k6, ?_⟩⟩ ⟨q4, q5, q6, by rw [q3]; exact Nat.le_refl _, fun k _ hk => q2 k fun h => hk (by rw [h]; rfl)⟩ (.inl rfl)
        apply List.ext_getElem?
        intro j
        rw [List.getElem?_take, List.getElem?_drop, Array.getElem?_toList, setAll_get]
        by_cases hj : j < (n + m) * size
        · rw [if_pos hj]
          by_cases hj2 : j < n * size
          · rw [if_neg (by omega), List.getElem?_append_left (by rw [hrow.1]; exact hj2), ← k7, List.getElem?_take, if_pos hj2, List.getElem?_drop, Array.getElem?_toList]
          · rw [if_pos (by omega), List.getElem?_append_right (by rw [hrow.1]; omega), hrow.1]
            congr 1
            omega
        · rw [if_neg hj, List.getElem?_eq_none (by rw [List.length_append, hrow.1, hn]; omega)]
      · have hr := Rowv.of_own hown
        have hb : ∀ k, v'.ownBlock = some k → w.heap.size ≤ k := fun k hk => (hr.lt hk).1
        refine hK v' w' (hr.base fun k hk => Nat.le_trans hB (hb k hk)) ⟨hgr.os, hgr.tape, hgr.output, hgr.size, fun k h _ => hgr.block k h (fun h => nomatch h)⟩ ?_
        rcases hown.2 with ⟨rfl, h⟩ | ⟨g', cap', cur', rfl, hb', _⟩
        · omega
        · exact .inr ⟨g', rfl, hb'⟩
end
end Go.Proofs.YtkjeobcfaolcaaaDoor
/- Words for memory: a block that is known whole; what has turned between two worlds, by blocks. -/
namespace Go.Proofs.YtkjeobcfaolcaaaDoor
open Go.RowKit

theorem ret_int {k : IntKind} {a b : Int} (h : a = b) : Ending.returned (.int k a) = .returned (.int k b) := by rw [h]
theorem ret_bool {a b : Bool} (h : a = b) : Ending.returned (.bool a) = .returned (.bool b) := by rw [h]
theorem ret_ii {k l : IntKind} {a b c d : Int} (h : a = b) (h' : c = d) : Ending.returned (.tuple #[.int k a, .int l c]) = .returned (.tuple #[.int k b, .int l d]) := by rw [h, h']
theorem ret_ib {k : IntKind} {a b : Int} {c d : Bool} (h : a = b) (h' : c = d) : Ending.returned (.tuple #[.int k a, .bool c]) = .returned (.tuple #[.int k b, .bool d]) := by rw [h, h']
theorem bd_u64 {x : Int} (h : (Lit.int .u64 x).wf = true) : 0 ≤ x ∧ x ≤ 18446744073709551615 := by
  simp [Lit.wf, IntKind.min, IntKind.max, IntKind.signed, IntKind.bits] at h
  omega
theorem bd_i64 {x : Int} (h : (Lit.int .i64 x).wf = true) : -9223372036854775808 ≤ x ∧ x ≤ 9223372036854775807 := by
  simp [Lit.wf, IntKind.min, IntKind.max, IntKind.signed, IntKind.bits] at h
  omega
theorem wrap_u64_mod (x : Int) : IntKind.u64.wrap x = x % 18446744073709551616 := IntKind.wrap_u64 x

/-- Block g is just the cells cs of element type t, none of them frozen. -/
def Blk (w : World) (g : Nat) (t : TypeId) (cs : Array Value) : Prop := w.heap[g]? = some (.cells cs t (0, 0))
section
variable {w w' : World} {g : Nat} {t : TypeId} {cs : Array Value}
theorem Blk.lt (h : Blk w g t cs) : g < w.heap.size := by
  rcases Nat.lt_or_ge g w.heap.size with hlt | hge
  · exact hlt
  · unfold Blk at h; rw [Array.getElem?_eq_none hge] at h; cases h
theorem Blk.cell (h : Blk w g t cs) (i : Nat) : w.cell? ⟨g, i, none⟩ = cs[i]? := cell_of_row w g i cs t (0, 0) h
theorem Blk.frozen (h : Blk w g t cs) (i : Nat) : w.frozen? ⟨g, i, none⟩ = false := by
  unfold Blk at h
  simp [World.frozen?, h]
theorem Blk.new (w : World) (t : TypeId) (cs : Array Value) : Blk (w.alloc (.cells cs t)) w.heap.size t cs := heap_alloc_new w _
theorem Blk.alloc (h : Blk w g t cs) (o : Obj) : Blk (w.alloc o) g t cs := (Below.heap_alloc w o g h.lt).trans h
theorem Blk.set_ (h : Blk w g t cs) (i : Nat) (u : Value) : Blk (w.setCell ⟨g, i, none⟩ u) g t (cs.setIfInBounds i u) := by
  unfold Blk at h ⊢
  simp [World.setCell, Array.getElem?_modify, h]
theorem Blk.far (h : Blk w g t cs) {p : Addr} (hp : g ≠ p.block) (u : Value) : Blk (w.setCell p u) g t cs := (Below.heap_setCell w p u g hp).trans h
theorem Blk.below {B : Nat} (h : Blk w g t cs) (hb : Below B w w') (hg : g < B) : Blk w' g t cs := (hb.block g hg).trans h
theorem Blk.grown {row : Option Nat} (h : Blk w g t cs) (hb : w.grownBy w' row) (hg : some g ≠ row) : Blk w' g t cs := (hb.block g h.lt hg).trans h
theorem Blk.ne_ {g' : Nat} {t' : TypeId} {cs' : Array Value} (h : Blk w g t cs) (h' : Blk w g' t' cs') (hne : t ≠ t') : g ≠ g' := by
  rintro rfl
  unfold Blk at h h'
  rw [h] at h'
  injection h' with h'
  injection h' with _ ht
  exact hne ht
theorem Blk.drewN (h : Blk w g t cs) (n : Nat) : Blk (w.drewN n) g t cs := h
theorem Blk.uniq {t' : TypeId} {cs' : Array Value} (h : Blk w g t cs) (h' : Blk w g t' cs') : t = t' ∧ cs = cs' := by
  unfold Blk at h h'
  rw [h] at h'
  injection h' with h'
  injection h' with h1 h2
  exact ⟨h2, h1⟩
end
theorem bd_int {k : IntKind} {x : Int} (h : (Lit.int k x).wf = true) : k.min ≤ x ∧ x ≤ k.max := by
  simpa [Lit.wf] using h

/-- Beside the blocks of F nothing has turned from w to w'; what F' has besides F is new. -/
structure Fr (F : Nat → Prop) (w : World) (F' : Nat → Prop) (w' : World) : Prop where
  os : w'.os = w.os
  tape : w'.tape = w.tape
  output : w'.output = w.output
  size : w.heap.size ≤ w'.heap.size
  block : ∀ k, k < w.heap.size → ¬ F k → w'.heap[k]? = w.heap[k]?
  new : ∀ k, F' k → F k ∨ w.heap.size ≤ k
section
variable {F F' F'' G : Nat → Prop} {a w w' c : World}
theorem Fr.refl (F : Nat → Prop) (w : World) : Fr F w F w := ⟨rfl, rfl, rfl, Nat.le_refl _, fun _ _ _ => rfl, fun _ h => .inl h⟩
theorem Fr.trans (h : Fr F a F' w) (k : Fr F' w F'' c) : Fr F a F'' c :=
  ⟨k.os.trans h.os, k.tape.trans h.tape, k.output.trans h.output, Nat.le_trans h.size k.size,
    fun i hi hF => (k.block i (Nat.lt_of_lt_of_le hi h.size) fun h1 => (h.new i h1).elim hF fun h2 => by omega).trans (h.block i hi hF),
    fun i hi => (k.new i hi).elim (fun h1 => h.new i h1) fun h1 => .inr (Nat.le_trans h.size h1)⟩
/-- F may be taken wider. -/
theorem Fr.wide (h : Fr F a F' w) (hG : ∀ k, F k → G k) : Fr G a F' w :=
  ⟨h.os, h.tape, h.output, h.size, fun k hk hn => h.block k hk fun hf => hn (hG k hf), fun k hk => (h.new k hk).imp (hG k) id⟩
theorem Fr.into (h : Fr F a F' w) (hG : ∀ k, G k → F' k ∨ F k ∨ a.heap.size ≤ k) : Fr F a G w :=
  ⟨h.os, h.tape, h.output, h.size, h.block, fun k hk => (hG k hk).elim (h.new k) id⟩
theorem Fr.alloc (h : Fr F a F' w) (o : Obj) : Fr F a F' (w.alloc o) :=
  ⟨h.os, h.tape, h.output, Nat.le_trans h.size (by simp), fun k hk hF => (Below.heap_alloc w o k (Nat.lt_of_lt_of_le hk h.size)).trans (h.block k hk hF), h.new⟩
theorem Fr.drew (h : Fr F a F' w) : Fr F a F' w.drew := ⟨h.os, h.tape, h.output, h.size, h.block, h.new⟩
theorem Fr.drewN (h : Fr F a F' w) (n : Nat) : Fr F a F' (w.drewN n) := ⟨h.os, h.tape, h.output, h.size, h.block, h.new⟩
theorem Fr.set (h : Fr F a F' w) {p : Addr} (hp : F' p.block ∨ F p.block ∨ a.heap.size ≤ p.block) (u : Value) : Fr F a F' (w.setCell p u) :=
  ⟨h.os, h.tape, h.output, by simpa [World.setCell] using h.size, fun k hk hF => (Below.heap_setCell w p u k (by
    rintro rfl
    rcases hp with hp | hp | hp
    · exact (h.new _ hp).elim hF (by omega)
    · exact hF hp
    · omega)).trans (h.block k hk hF), h.new⟩
theorem Fr.grown (h : Fr F a F' w) {row : Option Nat} (hg : w.grownBy w' row) (hr : ∀ k, row = some k → F' k ∨ F k ∨ a.heap.size ≤ k) : Fr F a F' w' :=
  ⟨hg.os.trans h.os, hg.tape.trans h.tape, hg.output.trans h.output, Nat.le_trans h.size hg.size, fun k hk hF => (hg.block k (Nat.lt_of_lt_of_le hk h.size) fun e => by
    rcases hr k e.symm with h1 | h1 | h1
    · exact (h.new _ h1).elim hF (by omega)
    · exact hF h1
    · omega).trans (h.block k hk hF), h.new⟩
theorem Fr.below {B : Nat} (h : Fr F a F' w) (hF : ∀ k, F k → B ≤ k) (hB : B ≤ a.heap.size) : Below B a w :=
  ⟨h.os, h.tape, h.output, h.size, fun k hk => h.block k (by omega) fun hf => by have := hF k hf; omega⟩
theorem Fr.ge {B : Nat} (h : Fr F a F' w) (hF : ∀ k, F k → B ≤ k) (hB : B ≤ a.heap.size) : ∀ k, F' k → B ≤ k :=
  fun k hk => (h.new k hk).elim (hF k) fun h1 => Nat.le_trans hB h1
theorem Fr.of_below {B : Nat} (h : Below B a w) (hB : a.heap.size ≤ B) (F : Nat → Prop) : Fr F a F w :=
  ⟨h.os, h.tape, h.output, h.size, fun k hk _ => h.block k (by omega), fun _ h => .inl h⟩
/-- What was new anyway has turned. -/
theorem Fr.beside {G' : Nat → Prop} (h : Fr F a F' w) (hf : Fr G w G' w') (hG : ∀ k, G k → a.heap.size ≤ k) : Fr F a F' w' :=
  ⟨hf.os.trans h.os, hf.tape.trans h.tape, hf.output.trans h.output, Nat.le_trans h.size hf.size, fun k hk hF => (hf.block k (Nat.lt_of_lt_of_le hk h.size) fun hg => by have := hG k hg; omega).trans (h.block k hk hF), h.new⟩
/-- What lies apart stays apart. -/
theorem Fr.apart (h : Fr F a F' w) (hG : ∀ k, G k → k < a.heap.size ∧ ¬ F k) : ∀ k, G k → k < w.heap.size ∧ ¬ F' k :=
  fun k hk => ⟨Nat.lt_of_lt_of_le (hG k hk).1 h.size, fun hf => (h.new k hf).elim (hG k hk).2 fun h1 => by have := (hG k hk).1; omega⟩
theorem Fr.keep (h : Fr F a F' w) (hG : ∀ k, G k → k < a.heap.size ∧ ¬ F k) : ∀ k, G k → w.heap[k]? = a.heap[k]? :=
  fun k hk => h.block k (hG k hk).1 (hG k hk).2
theorem Fr.blk (h : Fr F a F' w) {k : Nat} {t : TypeId} {cs : Array Value} (hk : Blk a k t cs) (hF : ¬ F k) : Blk w k t cs := (h.block k hk.lt hF).trans hk
end
section
variable {w w' : World} {B : Nat} {e : TypeId} {size n : Nat} {v : Value} {xs : List Value}
theorem Rowv.drewN (h : Rowv w B e size v n xs) (m : Nat) : Rowv (w.drewN m) B e size v n xs := h
theorem Rowv.alloc (h : Rowv w B e size v n xs) (o : Obj) : Rowv (w.alloc o) B e size v n xs := h.keepLt fun k _ hk _ => Below.heap_alloc w o k hk
theorem Rowv.far (h : Rowv w B e size v n xs) {p : Addr} (hp : v.ownBlock ≠ some p.block) (u : Value) : Rowv (w.setCell p u) B e size v n xs := h.keep fun k hk => Below.heap_setCell w p u k fun e => hp (by rw [hk, e])
theorem Rowv.grown (h : Rowv w B e size v n xs) {row : Option Nat} (hg : w.grownBy w' row) (hne : ∀ k, v.ownBlock = some k → some k ≠ row) : Rowv w' B e size v n xs := h.keepLt fun k _ hk hv => hg.block k hk (hne k hv)
theorem Rowv.ne_ (h : Rowv w B e size v n xs) {t' : TypeId} {k : Nat} {cs : Array Value} (hb : Blk w k t' cs) (hne : t' ≠ e) : v.ownBlock ≠ some k := by
  rcases h.2 with ⟨rfl, _⟩ | ⟨g, off, cap, cur, rfl, h2, h3, _⟩
  · exact fun h => nomatch h
  · intro hk
    obtain rfl : g = k := by simpa [Value.ownBlock] using hk
    unfold Blk at hb
    rw [hb] at h3
    injection h3 with h3
    injection h3 with _ h4
    exact hne h4
end
theorem cell_alloc_ {w : World} {p : Addr} {v : Value} {o : Obj} (h : w.cell? p = some v) : (w.alloc o).cell? p = some v := by
  have hlt : p.block < w.heap.size := Nat.lt_of_not_le fun hh => by
    unfold World.cell? at h
    rw [Array.getElem?_eq_none hh] at h
    cases h
  exact (Below.cell ((Below.refl w.heap.size w).alloc (Nat.le_refl _) o) hlt).trans h
theorem grown_cell {w w' : World} {row : Option Nat} {p : Addr} {v : Value} (hg : w.grownBy w' row) (hne : some p.block ≠ row) (h : w.cell? p = some v) : w'.cell? p = some v := hg.cell h hne
theorem grown_undrew {w w' : World} {row : Option Nat} {n : Nat} (h : (w.drewN n).grownBy w' row) : w.grownBy w' row := ⟨h.os, h.tape, h.output, h.size, h.block⟩
theorem grown_drew_ {w w' : World} {row : Option Nat} {n : Nat} (h : w.grownBy w' row) : w.grownBy (w'.drewN n) row := ⟨h.os, h.tape, h.output, h.size, h.block⟩
theorem drewN_drewN (w : World) (n m : Nat) : (w.drewN n).drewN m = w.drewN (n + m) := by simp [World.drewN, Nat.add_assoc]
theorem below_drewNs {B : Nat} {w w' : World} (h : Below B w w') (n : Nat) : Below B w (w'.drewN n) := ⟨h.os, h.tape, h.output, h.size, h.block⟩
theorem drewN_heap (w : World) (n : Nat) : (w.drewN n).heap = w.heap := rfl
end Go.Proofs.YtkjeobcfaolcaaaDoor
/- A key's slot, by contract (a table of string). -/
namespace Go.Proofs.YtkjeobcfaolcaaaDoor
open Go.RowKit
set_option maxHeartbeats 4000000
set_option linter.unusedVariables false
set_option linter.unusedSimpArgs false

set_option maxRecDepth 100000 in
theorem lookS_b {t g k fuel j m cz : Nat} {key : Int} {U : Nat → Bool} {K : Nat → Int} {c1 : Value} {w : World} (hT : Tab w) (ht : Blk w t 77 #[.slice (some ⟨g, 0, none⟩) (2 ^ k : Nat) cz, c1])
    (hS : SlotsAt w g (2 ^ k) U K) (h1 : 1 ≤ k) (h2 : k ≤ 62) (hf : fuel ≤ 4611686018427387904) (hl : lgo U K key (2 ^ k) fuel (homeOf key k).toNat 1 = some (j, m)) :
    Calls Tryd.prog 48 #[.pointer (some ⟨t, 0, none⟩), .int .u64 key] w fun e w' => e = .returned (.tuple #[.int .i64 (j : Int), .int .i64 (m : Int)]) ∧ w = w' := by
  have C := home_b (key := key) h1 h2 hT
  have hbd := homeOf_bd key h1 h2
  obtain ⟨i0, hi0⟩ : ∃ i0 : Nat, homeOf key k = (i0 : Int) := ⟨(homeOf key k).toNat, by omega⟩
  have hlt0 : i0 < 2 ^ k := by
    have : ((2 ^ k : Nat) : Int) = (2 : Int) ^ k := by simp
    omega
  rw [hi0] at C hl
  have hl : lgo U K key (2 ^ k) fuel i0 1 = some (j, m) := hl
  have C := Lib.hid C
  have hbit := fun i => bit_next (k := k) (i := i) h2
  have hq : 2 ^ k ≤ 2 ^ 62 := Nat.pow_le_pow_right (by omega) h2
  have hq0 := Nat.two_pow_pos k
  have d0 : w.cell? ⟨t, 0, none⟩ = some (.slice (some ⟨g, 0, none⟩) (2 ^ k : Nat) cz) := by rw [Blk.cell ht]; rfl
  clear hT ht h1 h2 hbd hi0
  generalize 2 ^ k = sl at *
  have hS := Lib.hid hS
  have hbit := Lib.hid hbit
  go_enter Tryd.func48, Tryd.ntmps48
  go_wp2
  refine wp_scope_jumps 0 (fun a' w' => w' = w ∧ ∃ (f i n : Nat) (u8 u9 u10 u11 u12 u13 u14 u15 u16 u17 u18 u19 u20 u21 u22 u23 u24 u25 u26 u27 u28 u29 u30 u31 u32 u33 u34 u35 u36 u37 u38 u39 u40 u41 u42 u43 u44 u45 u46 : Value), a' = { tmps := #[.pointer (some ⟨t, 0, none⟩), .int .u64 key, undef, undef, .int .i64 0, .int .i64 0, .int .i64 (i : Int), .int .i64 (n : Int), u8, u9, u10, u11, u12, u13, u14, u15, u16, u17, u18, u19, u20, u21, u22, u23, u24, u25, u26, u27, u28, u29, u30, u31, u32, u33, u34, u35, u36, u37, u38, u39, u40, u41, u42, u43, u44, u45, u46], defers := [] } ∧ n + f = fuel + 1 ∧ i < sl ∧ lgo U K key sl f i n = some (j, m)) (fun a' _ => fuel + 1 - (intOf (a'.tmps.getD 7 undef)).toNat) rfl ?_ ?_
  · obtain ⟨i, hi0, hi⟩ : ∃ i, i = i0 ∧ i < sl := ⟨i0, rfl, hlt0⟩
    subst hi0
    obtain ⟨f, hff⟩ : ∃ f, f = fuel := ⟨_, rfl⟩
    obtain ⟨n, hnn⟩ : ∃ n, n = 1 := ⟨_, rfl⟩
    have hfn : n + f = fuel + 1 := by omega
    rw [← hff, ← hnn] at hl
    have hlg := hl
    clear hff hl hlt0
    subst hnn
    obtain ⟨f, rfl⟩ : ∃ f', f = f' + 1 := by
      cases f with
      | zero => simp [lgo] at hlg
      | succ f => exact ⟨f, rfl⟩
    obtain ⟨dU, dK⟩ := hS.out i hi
    have hb := hbit.out i hi
    have hi' : (i : Int) ≤ 4611686018427387903 := by omega
    have hn' : (1 : Int) ≤ 4611686018427387904 := by omega
    have hz : decide (i < sl) = true := decide_eq_true hi
    have hsl : (sl : Int) ≤ 4611686018427387904 := by omega
    rw [lgo] at hlg
    by_cases hp : (U i && K i != key) = true
    · rw [if_pos hp] at hlg
      simp only [Bool.and_eq_true] at hp
      obtain ⟨hu, hk⟩ := hp
      rw [hu] at dU
      have hlg := Lib.hid hlg
      go_wp2_with fail
      refine C.out.mono ?_
      rintro _ w2 ⟨rfl, rfl⟩
      go_wp2
      go_step3
      go_wp2
      go_step3
      rw [show ((i : Int) + 1) % (sl : Int) = (((i + 1) % sl : Nat) : Int) by simp]
      exact ⟨rfl, ⟨rfl, f, (i + 1) % sl, 1 + 1, _, _, _, _, _, _, _, _, _, _, _, _, _, _, _, _, _, _, _, _, _, _, _, _, _, _, _, _, _, _, _, _, _, _, _, _, _, _, _, rfl, by omega, Nat.mod_lt _ hq0, hlg.out⟩⟩
    · rw [if_neg hp] at hlg
      simp only [Option.some.injEq, Prod.mk.injEq] at hlg
      obtain ⟨rfl, rfl⟩ := hlg
      by_cases hu : U i = true
      · rw [hu] at dU
        have hk : (K i != key) = false := by rw [hu] at hp; simpa using hp
        go_wp2_with fail
        refine C.out.mono ?_
        rintro _ w2 ⟨rfl, rfl⟩
        go_wp2
        go_step3
        go_wp2
        simp only [Exit.jump]
        go_ret2
        exact ⟨rfl, rfl⟩
      · have hu : U i = false := by simpa using hu
        rw [hu] at dU
        go_wp2_with fail
        refine C.out.mono ?_
        rintro _ w2 ⟨rfl, rfl⟩
        go_wp2
        go_step3
        go_wp2
        simp only [Exit.jump]
        go_ret2
        exact ⟨rfl, rfl⟩
  · rintro a' w' ⟨rfl, f, i, n, u8, u9, u10, u11, u12, u13, u14, u15, u16, u17, u18, u19, u20, u21, u22, u23, u24, u25, u26, u27, u28, u29, u30, u31, u32, u33, u34, u35, u36, u37, u38, u39, u40, u41, u42, u43, u44, u45, u46, rfl, hfn, hi, hlg⟩
    obtain ⟨f, rfl⟩ : ∃ f', f = f' + 1 := by
      cases f with
      | zero => simp [lgo] at hlg
      | succ f => exact ⟨f, rfl⟩
    obtain ⟨dU, dK⟩ := hS.out i hi
    have hb := hbit.out i hi
    have hi' : (i : Int) ≤ 4611686018427387903 := by omega
    have hn' : (n : Int) ≤ 4611686018427387904 := by omega
    have hz : decide (i < sl) = true := decide_eq_true hi
    have hsl : (sl : Int) ≤ 4611686018427387904 := by omega
    rw [lgo] at hlg
    by_cases hp : (U i && K i != key) = true
    · rw [if_pos hp] at hlg
      simp only [Bool.and_eq_true] at hp
      obtain ⟨hu, hk⟩ := hp
      rw [hu] at dU
      have hlg := Lib.hid hlg
      go_wp2
      go_step3
      rw [show ((i : Int) + 1) % (sl : Int) = (((i + 1) % sl : Nat) : Int) by simp, show (n : Int) + 1 = ((n + 1 : Nat) : Int) by simp]
      refine ⟨rfl, ⟨rfl, f, (i + 1) % sl, n + 1, _, _, _, _, _, _, _, _, _, _, _, _, _, _, _, _, _, _, _, _, _, _, _, _, _, _, _, _, _, _, _, _, _, _, _, _, _, _, _, rfl, by omega, Nat.mod_lt _ hq0, hlg.out⟩, ?_⟩
      simp [intOf]
      omega
    · rw [if_neg hp] at hlg
      simp only [Option.some.injEq, Prod.mk.injEq] at hlg
      obtain ⟨rfl, rfl⟩ := hlg
      by_cases hu : U i = true
      · rw [hu] at dU
        have hk : (K i != key) = false := by rw [hu] at hp; simpa using hp
        go_wp2
        simp only [Exit.jump]
        go_ret2
        exact ⟨rfl, rfl⟩
      · have hu : U i = false := by simpa using hu
        rw [hu] at dU
        go_wp2
        simp only [Exit.jump]
        go_ret2
        exact ⟨rfl, rfl⟩
end Go.Proofs.YtkjeobcfaolcaaaDoor
/- made, Slots, Asked, by contract (a table of string). -/
namespace Go.Proofs.YtkjeobcfaolcaaaDoor
open Go.RowKit
set_option maxHeartbeats 4000000
set_option linter.unusedVariables false
set_option linter.unusedSimpArgs false

theorem madeS_b {t g sl cz : Nat} {c1 : Value} {w : World} (d0 : w.cell? ⟨t, 0, none⟩ = some (.slice (some ⟨g, 0, none⟩) sl cz)) :
    Calls Tryd.prog 47 #[.pointer (some ⟨t, 0, none⟩)] w fun e w' => e = .returned (.bool true) ∧ w = w' := by
  go_enter Tryd.func47, Tryd.ntmps47
  go_wp2
  go_ret
  exact ⟨rfl, rfl⟩
theorem slotsS_b {t g sl cz : Nat} {c1 : Value} {w : World} (d0 : w.cell? ⟨t, 0, none⟩ = some (.slice (some ⟨g, 0, none⟩) sl cz)) :
    Calls Tryd.prog 24 #[.pointer (some ⟨t, 0, none⟩)] w fun e w' => e = .returned (.int .i64 (sl : Int)) ∧ w = w' := by
  have M := Lib.hid (madeS_b (c1 := c1) d0)
  go_enter Tryd.func24, Tryd.ntmps24
  go_wp2_with fail
  refine M.out.mono ?_
  rintro _ w2 ⟨rfl, rfl⟩
  go_wp2
  go_ret
  exact ⟨rfl, rfl⟩
theorem askedS_b {t g k fuel j m cz : Nat} {key : Int} {U : Nat → Bool} {K : Nat → Int} {c1 : Value} {w : World} (hT : Tab w) (ht : Blk w t 77 #[.slice (some ⟨g, 0, none⟩) (2 ^ k : Nat) cz, c1])
    (hS : SlotsAt w g (2 ^ k) U K) (h1 : 1 ≤ k) (h2 : k ≤ 62) (hf : fuel ≤ 4611686018427387904) (hl : lgo U K key (2 ^ k) fuel (homeOf key k).toNat 1 = some (j, m)) :
    Calls Tryd.prog 22 #[.pointer (some ⟨t, 0, none⟩), .int .u64 key] w fun e w' => e = .returned (.int .i64 (m : Int)) ∧ w = w' := by
  have C := Lib.hid (lookS_b hT ht hS h1 h2 hf hl)
  have d0 : w.cell? ⟨t, 0, none⟩ = some (.slice (some ⟨g, 0, none⟩) (2 ^ k : Nat) cz) := by rw [Blk.cell ht]; rfl
  have M := Lib.hid (madeS_b (c1 := c1) d0)
  clear hT ht hS hf hl d0
  go_enter Tryd.func22, Tryd.ntmps22
  go_wp2_with fail
  refine M.out.mono ?_
  rintro _ w2 ⟨rfl, rfl⟩
  go_wp2_with fail
  refine C.out.mono ?_
  rintro _ w2 ⟨rfl, rfl⟩
  go_wp2
  go_ret
  exact ⟨rfl, rfl⟩
end Go.Proofs.YtkjeobcfaolcaaaDoor
