/- Arguments opened: slices of whole numbers of 63 digits and a sign. -/
import Derived.Test.YtgbgodhkehnbdaaOpen
namespace Go.Proofs.Ytgbgodhkehnbdaa
open Go.ChangeShapes Go.WideShapes Go.ChangeAt Go.RowKit Go.Deep
section
variable {H : Type} {enc : TypeId × Value → H} {P : Program} {w : World} {base : Nat} {spare : Nat → Bool} {held : Bool}
/-- A slice of numbers that came in. -/
structure IntsIn (w : World) (A : Option Addr) (l : List Int) (c : Nat) : Prop where
  nil : A = none → l = [] ∧ c = 0
  cell : ∀ ad, A = some ad → ∀ j, j < l.length → w.cell? (ad.add j) = some (.int .i64 (l.getD j 0))
  bd : ∀ x ∈ l, -9223372036854775808 ≤ x ∧ x ≤ 9223372036854775807
  len : l.length * 8 ≤ 140737488351232
  cap : l.length ≤ c
theorem open_i64s {ts : List TypeId} {ds : List (DataW H)} {j : Nat} {t e : TypeId} {A : Option Addr} {len cap : Nat} {d : DataW H} {p : List MemPlace} (hsz : (DataW.weightsEach P ts ds).all (· ≤ reachBytes) = true) (hj : ts[j]? = some t) (hd : ds[j]? = some d)
    (ht : P.underlying t = some (.slice e)) (he : P.underlying e = some (.int .i64)) (hc : P.cellsOf e = 1) (hb : P.bytesOf e = 8) (h : DataW.Trod enc P w base spare held t (.slice A len cap) d p) : ∃ l, l.length = len ∧ IntsIn w A l cap := by
  obtain ⟨fuel, hf⟩ := h
  rcases open_ints ht he hc hf with ⟨hcs, hx⟩ | ⟨x, l, c, zs, hcs, _, hl, hm, hz, hx, hcell, hwz⟩
  · simp [Value.cells] at hcs
    obtain ⟨rfl, rfl, rfl⟩ := hcs
    exact ⟨[], rfl, fun _ => ⟨rfl, rfl⟩, (fun ad h => nomatch h), by simp, by simp, by simp⟩
  · simp [Value.cells] at hcs
    obtain ⟨rfl, rfl, rfl⟩ := hcs
    have hlz : len ≤ zs.length := by rw [hz]; split <;> omega
    simp only [Prod.mk.injEq] at hx
    have := sized_slice hsz hj (hd.trans (by rw [hx.1])) ht
    rw [hb] at this
    simp only [lits, List.length_map, List.length_take, List.length_drop, reachBytes] at this
    refine ⟨zs.take len, by simp; omega, (fun h => nomatch h), fun ad h i hi => ?_, fun z hz => ?_, by simp; omega, by simp; omega⟩
    · injection h with h
      subst h
      simp only [List.length_take] at hi
      rw [hcell i (by omega)]
      simp [List.getD_eq_getElem?_getD, show i < len by omega]
    · have := hwz z (List.mem_of_mem_take hz)
      simp [Lit.wf, IntKind.min, IntKind.max, IntKind.signed, IntKind.bits] at this
      omega
/-- the cells of a number's place, straight -/
theorem IntsIn.at_ {A : Option Addr} {l : List Int} {c : Nat} (h : IntsIn w A l c) {j : Nat} (hj : j < l.length) : ∃ g o, A = some ⟨g, o, none⟩ ∧ w.cell? ⟨g, o + j, none⟩ = some (.int .i64 (l.getD j 0)) ∧ -9223372036854775808 ≤ l.getD j 0 ∧ l.getD j 0 ≤ 9223372036854775807 := by
  cases A with
  | none => have := (h.nil rfl).1; subst this; simp at hj
  | some ad =>
    have h0 := spotless (n := 0) (h.cell ad rfl 0 (by omega))
    have e0 : ad = ⟨ad.block, ad.off, none⟩ := by
      have : ad.add 0 = ad := by unfold Addr.add; rw [if_pos rfl]
      rw [this] at h0
      simpa using h0
    have hc := h.cell ad rfl j hj
    rw [spotless hc] at hc
    have hb := h.bd (l.getD j 0) (by rw [List.getD_eq_getElem?_getD, List.getElem?_eq_getElem hj]; exact List.getElem_mem hj)
    exact ⟨ad.block, ad.off, congrArg some e0, hc, hb⟩
end
end Go.Proofs.Ytgbgodhkehnbdaa
