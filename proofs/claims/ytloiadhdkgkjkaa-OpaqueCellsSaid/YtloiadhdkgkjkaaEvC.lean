/- The look over a history in memory. -/
import Derived.Test.YtloiadhdkgkjkaaEvB
import Derived.Test.YtloiadhdkgkjkaaMp
import Derived.Test.YtloiadhdkgkjkaaLgA
namespace Go.Proofs.Ytloiadhdkgkjkaa
open Go.RowKit
set_option maxHeartbeats 4000000
set_option linter.unusedVariables false
set_option linter.unusedSimpArgs false

/-- n cells, as a function of their place. -/
def ofF (n : Nat) (g : Nat → Value) : Array Value := ((List.range n).map g).toArray
theorem ofF_get {n i : Nat} {g : Nat → Value} (h : i < n) : (ofF n g)[i]? = some (g i) := by simp [ofF, h]
theorem ofF_size (n : Nat) (g : Nat → Value) : (ofF n g).size = n := by simp [ofF]
theorem ofF_congr {n : Nat} {g g' : Nat → Value} (h : ∀ j, j < n → g j = g' j) : ofF n g = ofF n g' := by
  unfold ofF
  congr 1
  exact List.map_congr_left fun j hj => h j (List.mem_range.1 hj)
theorem ofF_set (n i : Nat) (g : Nat → Value) (v : Value) : (ofF n g).setIfInBounds i v = ofF n (fun j => if j = i then v else g j) := by
  apply Array.ext_getElem?
  intro j
  rw [Array.getElem?_setIfInBounds, ofF_size]
  by_cases hj : j < n
  · rw [ofF_get hj, ofF_get hj]
    by_cases hij : i = j
    · subst hij
      simp [hj]
    · rw [if_neg hij, if_neg (fun h => hij h.symm)]
  · rw [Array.getElem?_eq_none (by rw [ofF_size]; omega), Array.getElem?_eq_none (by rw [ofF_size]; omega)]
    split <;> simp_all
theorem Blk.fcell {w : World} {b n i : Nat} {t : TypeId} {g : Nat → Value} (h : Blk w b t (ofF n g)) (hi : i < n) : w.cell? ⟨b, i, none⟩ = some (g i) := by rw [h.cell, ofF_get hi]
theorem Blk.fset {w : World} {b n : Nat} {t : TypeId} {g : Nat → Value} (h : Blk w b t (ofF n g)) (i : Nat) (v : Value) : Blk (w.setCell ⟨b, i, none⟩ v) b t (ofF n (fun j => if j = i then v else g j)) := by
  rw [← ofF_set]
  exact h.set_ i v
theorem Blk.fcongr {w : World} {b n : Nat} {t : TypeId} {g g' : Nat → Value} (h : Blk w b t (ofF n g)) (hg : ∀ j, j < n → g j = g' j) : Blk w b t (ofF n g') := by
  rw [← ofF_congr hg]
  exact h

def thv (t : Th) (m : Option Nat) (j : Nat) : Value := if j = 0 then .int .i64 t.how else if j = 1 then .int .u64 t.sn else if j = 2 then .map m else .int .i64 t.tr
def gL (s : St) (m : Nat → Option Nat) (tv : Value) (i : Nat) : Value :=
  if i < 52 then .int .i64 (tb (i / 13) ((i % 13 : Nat) : Int))
  else if i < 84 then thv (s.th ((i - 52) / 4)) (m ((i - 52) / 4)) ((i - 52) % 4)
  else if i = 84 then .int .u64 s.num else if i = 85 then .int .i64 s.hold else tv
section
variable {s : St} {m : Nat → Option Nat} {tv : Value} {t : Nat}
theorem gL_tb {h k : Nat} (hh : h < 4) (hk : k < 13) : gL s m tv (h * 13 + k) = .int .i64 (tb h k) := by
  unfold gL
  rw [if_pos (by omega), show (h * 13 + k) / 13 = h by omega, show (h * 13 + k) % 13 = k by omega]
theorem gL_how (ht : t < 8) : gL s m tv (52 + t * 4) = .int .i64 (s.th t).how := by
  unfold gL
  rw [if_neg (by omega), if_pos (by omega), show (52 + t * 4 - 52) / 4 = t by omega, show (52 + t * 4 - 52) % 4 = 0 by omega]
  rfl
theorem gL_sn (ht : t < 8) : gL s m tv (52 + t * 4 + 1) = .int .u64 (s.th t).sn := by
  unfold gL
  rw [if_neg (by omega), if_pos (by omega), show (52 + t * 4 + 1 - 52) / 4 = t by omega, show (52 + t * 4 + 1 - 52) % 4 = 1 by omega]
  rfl
theorem gL_ws (ht : t < 8) : gL s m tv (52 + t * 4 + 2) = .map (m t) := by
  unfold gL
  rw [if_neg (by omega), if_pos (by omega), show (52 + t * 4 + 2 - 52) / 4 = t by omega, show (52 + t * 4 + 2 - 52) % 4 = 2 by omega]
  rfl
theorem gL_tr (ht : t < 8) : gL s m tv (52 + t * 4 + 3) = .int .i64 (s.th t).tr := by
  unfold gL
  rw [if_neg (by omega), if_pos (by omega), show (52 + t * 4 + 3 - 52) / 4 = t by omega, show (52 + t * 4 + 3 - 52) % 4 = 3 by omega]
  rfl
end
/-- What a map of an attempt's writes holds. -/
def wfun (l : List (Int × Int)) (k : Int) : Option Value := (written l k).map (.int .u64)
def liveT (t : Th) : Prop := t.how = 1 ∨ t.how = 2
def encT (x : Tr) : List Value := [.int .i64 x.th, .int .i64 x.first, .int .i64 x.last, .int .u64 x.sn, .int .i64 x.how, .int .i64 x.rd, .int .i64 x.wr]
theorem encT_len (x : Tr) : (encT x).length = 7 := rfl
theorem encT_one (x : Tr) : ∀ u ∈ encT x, u.oneCell' = true := by
  intro u hu
  simp only [encT, List.mem_cons, List.not_mem_nil, or_false] at hu
  rcases hu with rfl | rfl | rfl | rfl | rfl | rfl | rfl <;> rfl
/-- What stands in memory is the look s; B: nothing of it lies below. -/
structure LookW (B : Nat) (w : World) (b : Nat) (s : St) (n : Nat) (m : Nat → Option Nat) (tv : Value) : Prop where
  blk : Blk w b 125 (ofF 87 (gL s m tv))
  tries : Sl 38 7 encT w tv s.tries
  maps : ∀ t, t < 8 → liveT (s.th t) → ∃ mb, m t = some mb ∧ B ≤ mb ∧ Mp w mb .u64 n (wfun (s.th t).ws)
  apart : ∀ t t', t < 8 → t' < 8 → liveT (s.th t) → liveT (s.th t') → t ≠ t' → m t ≠ m t'
  geb : B ≤ b
  get : ∀ k, own tv k → B ≤ k
/-- Bounds of a look's numbers. -/
structure StBd (s : St) (n : Nat) : Prop where
  num : 0 ≤ s.num ∧ s.num ≤ n
  hold : -1 ≤ s.hold ∧ s.hold < 8
  how : ∀ t, (s.th t).how < 4
  sn : ∀ t, 0 ≤ (s.th t).sn ∧ (s.th t).sn ≤ 18446744073709551615
  tr : ∀ t, liveT (s.th t) → (s.th t).tr < s.tries.length
  len : s.tries.length ≤ n
  cnt : ∀ x ∈ s.tries, x.rd ≤ n ∧ x.wr ≤ n
theorem LookW.keep {B : Nat} {w w' : World} {b : Nat} {s : St} {n : Nat} {m : Nat → Option Nat} {tv : Value} (h : LookW B w b s n m tv) (hk : ∀ k, B ≤ k → k < w.heap.size → w'.heap[k]? = w.heap[k]?) : LookW B w' b s n m tv where
  blk := (hk b h.geb h.blk.lt).trans h.blk
  tries := h.tries.keep fun k hk' => hk k (h.get k hk') (h.tries.lt k hk')
  maps := fun t ht hl => let ⟨mb, h1, h2, h3⟩ := h.maps t ht hl; ⟨mb, h1, h2, h3.keep (hk mb h2 h3.lt)⟩
  apart := h.apart
  geb := h.geb
  get := h.get
theorem LookW.below {B : Nat} {w w' : World} {b : Nat} {s : St} {n : Nat} {m : Nat → Option Nat} {tv : Value} (h : LookW B w b s n m tv) (hb : Below w.heap.size w w') : LookW B w' b s n m tv := h.keep fun k _ hk => hb.block k hk
end Go.Proofs.Ytloiadhdkgkjkaa
