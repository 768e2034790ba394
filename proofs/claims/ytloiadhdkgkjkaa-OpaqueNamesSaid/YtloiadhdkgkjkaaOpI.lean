/- opaque.view.stood by contract. -/
import Derived.Test.YtloiadhdkgkjkaaOpH
import Derived.Test.YtloiadhdkgkjkaaMixH
namespace Go.Proofs.Ytloiadhdkgkjkaa
open Go.RowKit
set_option maxHeartbeats 4000000
set_option linter.unusedVariables false
set_option linter.unusedSimpArgs false
/-- The slice v reads as these words of cells. -/
def LiesP (w : World) (v : Value) (l : List (Int × Int)) : Prop := ∃ A cp, v = .slice A l.length cp ∧ ∀ j (hj : j < l.length), ∃ g o, A = some ⟨g, o, none⟩ ∧ g < w.heap.size ∧ w.cell? ⟨g, o + j * 2, none⟩ = some (.int .u64 (l[j]'hj).1) ∧ w.cell? ⟨g, o + j * 2 + 1, none⟩ = some (.int .u64 (l[j]'hj).2)
theorem liesP_sl {w : World} {v : Value} {l : List (Int × Int)} (h : Sl 45 2 encC w v l) : LiesP w v l := by
  obtain ⟨A, cap, rfl, hc⟩ := h.shape
  refine ⟨A, cap, rfl, fun j hj => ?_⟩
  obtain ⟨g, off, e, hlt, hcell⟩ := Sl.cell encC_len (by decide) h hj
  have k0 := (hcell j hj 0 (by decide)).1
  have k1 := (hcell j hj 1 (by decide)).1
  exact ⟨g, off, e, hlt, by simpa [encC] using k0, by rw [Nat.add_assoc]; simpa [encC] using k1⟩
theorem LiesP.below {w w' : World} {v : Value} {l : List (Int × Int)} (h : LiesP w v l) (hb : Below w.heap.size w w') : LiesP w' v l := by
  obtain ⟨A, cp, rfl, hc⟩ := h
  refine ⟨A, cp, rfl, fun j hj => ?_⟩
  obtain ⟨g, o, e, hg, h0, h1⟩ := hc j hj
  exact ⟨g, o, e, Nat.lt_of_lt_of_le hg hb.size, by rw [hb.cell (p := ⟨g, o + j * 2, none⟩) hg, h0], by rw [hb.cell (p := ⟨g, o + j * 2 + 1, none⟩) hg, h1]⟩
/-- Did these words stand there together? -/
def stoodW (cells : Nat → List (Nat × Int)) (n : Nat) (l : List (Int × Int)) : Bool := l.all fun p => atW (cells p.1.toNat) n == p.2
/-- What 'at' asks of the cells. -/
structure CellsOk (cells : Nat → List (Nat × Int)) (size : Nat) : Prop where
  ne : ∀ a, a < size → cells a ≠ []
  z : ∀ a, a < size → ((cells a).getD 0 (0, 0)).1 = 0
  len : ∀ a, a < size → (cells a).length ≤ 9223372036854775807
section
variable {B : Nat} {w : World} {vb nb mb : Nat} {v : Vw} {size : Nat} {fv cv : Nat → Value} {sv : Value}
set_option maxRecDepth 100000 in
theorem stood_b (h : VwW B w vb nb mb v size fv cv sv) (hc : CellsOk v.cells size) {A : Option Addr} {cp : Nat} {l : List (Int × Int)} (hl : LiesP w (.slice A l.length cp) l) (hll : l.length ≤ 9223372036854775807) (ha : ∀ p ∈ l, 0 ≤ p.1 ∧ p.1 < (size : Int)) (n : Nat) :
    Calls Try.prog 27 #[.pointer (some ⟨vb, 0, none⟩), .slice A l.length cp, .int .i64 n] w fun x w' => x = .returned (.bool (stoodW v.cells n l)) ∧ Below w.heap.size w w' := by
  have hll' : (l.length : Int) ≤ 9223372036854775807 := by omega
  replace h := Lib.hid h
  replace hc := Lib.hid hc
  replace hl := Lib.hid hl
  replace ha := Lib.hid ha
  go_enter Try.func27, Try.ntmps27
  go_wp2
  go_loopw [11] (fun i wr => ∃ k : Nat, k ≤ l.length ∧ i = .int .i64 k ∧ Hid (∀ j (hj : j < k) (hj2 : j < l.length), (atW (v.cells (l[j]'hj2).1.toNat) n == (l[j]'hj2).2) = true) ∧ Hid (Below w.heap.size w wr)) (fun i _ => l.length - (intOf i).toNat)
  case atStart => exact ⟨0, Nat.zero_le _, rfl, Lib.hid fun j hj => by omega, Lib.hid (Below.refl _ _)⟩
  case round =>
    obtain ⟨k, hk, rfl, hno, hbl⟩ := hrel
    by_cases hlt : k < l.length
    · obtain ⟨A', cp', eA, hcl⟩ := hl.out.below hbl.out
      injection eA with e1 e2 e3
      subst e1 e3
      obtain ⟨g, o, hA, hg, d0, d1⟩ := hcl k hlt
      subst hA
      have hak := ha.out _ (List.getElem_mem hlt)
      obtain ⟨p, hp⟩ : ∃ p, p = l[k]'hlt := ⟨_, rfl⟩
      rw [← hp] at d0 d1 hak
      obtain ⟨a0, x⟩ := p
      dsimp only at d0 d1 hak
      obtain ⟨a, rfl⟩ := Int.eq_ofNat_of_zero_le hak.1
      have hasz : a < size := by omega
      have hA1 := Lib.hid (fun J => at_b ((((h.out.below hbl.out).alloc (.cells #[.int .u64 a, .int .u64 x] 45)).drewN J)) hasz rfl (hc.out.ne a hasz) (hc.out.z a hasz) (hc.out.len a hasz) n)
      have hbA := Lib.hid (hbl.out.alloc hbl.out.size (.cells #[.int .u64 a, .int .u64 x] 45))
      have hXA := Blk.new wr 45 #[.int .u64 a, .int .u64 x]
      have b0 := (hXA.cell 0).trans (show _ = some (.int .u64 (a : Int)) from rfl)
      have b1 := (hXA.cell 1).trans (show _ = some (.int .u64 x) from rfl)
      have hlt' : (k : Int) < (l.length : Int) := by omega
      obtain ⟨y, hy⟩ : ∃ y, y = atW (v.cells a) n := ⟨_, rfl⟩
      rw [← hy] at hA1
      have hthis : Hid ((atW (v.cells (l[k]'hlt).1.toNat) n == (l[k]'hlt).2) = (y == x)) := Lib.hid (by rw [← hp, hy, Int.toNat_natCast])
      obtain ⟨wA, hwA⟩ : ∃ wA, wA = wr.alloc (.cells #[.int .u64 a, .int .u64 x] 45) := ⟨_, rfl⟩
      rw [← hwA] at hA1 hbA b0 b1
      have S0 : Hid (∀ J, (wA.drewN J).cell? ⟨wr.heap.size, 1, none⟩ = some (.int .u64 x)) := Lib.hid (fun J => b1)
      replace hwA := Lib.hid hwA
      clear hcl hXA hg hak e2
      replace hy := Lib.hid hy
      replace hp := Lib.hid hp
      rcases (show (y != x) = true ∨ (y != x) = false by cases (y != x) <;> simp) with hyx | hyx
      · have hres : Hid (stoodW v.cells n l = false) := Lib.hid (by
          unfold stoodW
          rw [List.all_eq_false]
          exact ⟨_, List.getElem_mem hlt, by rw [hthis.out]; simpa using hyx⟩)
        go_wp2
        rw [← hwA.out]
        refine wp_region_mixH (fun W' => W'.cell? ⟨wr.heap.size, 1, none⟩ = some (.int .u64 x)) [3, 3, 1, 3, 2, 3, 0, 3] [0, 1, 2, 3, 5, 6, 4, 7] (by kernel_rfl) (by kernel_rfl) (fun _ _ h => h) (S0.out 1) ?_
        (repeat (first | ((first | refine wpMixH_pure rfl rfl (fun K hK => ?_) | refine wpMixH_loc rfl rfl (fun K hK => ?_) | refine wpMixH_any rfl rfl (fun K hK => ?_)); go_simp; refine hK _ _ ?_; clear hK K) | (refine wpMixH_any rfl rfl (fun K hK => ?_); rw [if_pos (by go_simp)]; apply Exists.intro; refine And.intro (fun w2 hS2 => ?_) (hK _ _ ?_); (focus (obtain hs1 := hS2; go_simp; rfl)); clear hK K)))
        refine wpMixH_loud rfl rfl (fun n2 K hK => ?_)
        go_wp2_with fail
        refine (hA1.out _).mono ?_
        rintro _ w3 ⟨rfl, rfl⟩
        go_wp2
        refine hK _ _ (fun _ => (S0.out _)) ?_; clear hK K
        (repeat (first | ((first | refine wpMixH_pure rfl rfl (fun K hK => ?_) | refine wpMixH_loc rfl rfl (fun K hK => ?_) | refine wpMixH_any rfl rfl (fun K hK => ?_)); go_simp; refine hK _ _ ?_; clear hK K) | (refine wpMixH_any rfl rfl (fun K hK => ?_); rw [if_pos (by go_simp)]; apply Exists.intro; refine And.intro (fun w2 hS2 => ?_) (hK _ _ ?_); (focus (obtain hs1 := hS2; go_simp; rfl)); clear hK K)))
        refine wpMixH_nil (fun n3 => ?_)
        go_wp2
        all_goals go_ret
        all_goals exact ⟨ret_bool (by rw [hres.out]), below_drewNs (below_drewNs hbA.out _) _⟩
      · have hno' : Hid (∀ j (hj : j < k + 1) (hj2 : j < l.length), (atW (v.cells (l[j]'hj2).1.toNat) n == (l[j]'hj2).2) = true) := Lib.hid (fun j hj hj2 => by
          by_cases e : j = k
          · subst e; rw [hthis.out]; simpa using hyx
          · exact hno.out j (by omega) hj2)
        go_wp2
        rw [← hwA.out]
        refine wp_region_mixH (fun W' => W'.cell? ⟨wr.heap.size, 1, none⟩ = some (.int .u64 x)) [3, 3, 1, 3, 2, 3, 0, 3] [0, 1, 2, 3, 5, 6, 4, 7] (by kernel_rfl) (by kernel_rfl) (fun _ _ h => h) (S0.out 1) ?_
        (repeat (first | ((first | refine wpMixH_pure rfl rfl (fun K hK => ?_) | refine wpMixH_loc rfl rfl (fun K hK => ?_) | refine wpMixH_any rfl rfl (fun K hK => ?_)); go_simp; refine hK _ _ ?_; clear hK K) | (refine wpMixH_any rfl rfl (fun K hK => ?_); rw [if_pos (by go_simp)]; apply Exists.intro; refine And.intro (fun w2 hS2 => ?_) (hK _ _ ?_); (focus (obtain hs1 := hS2; go_simp; rfl)); clear hK K)))
        refine wpMixH_loud rfl rfl (fun n2 K hK => ?_)
        go_wp2_with fail
        refine (hA1.out _).mono ?_
        rintro _ w3 ⟨rfl, rfl⟩
        go_wp2
        refine hK _ _ (fun _ => (S0.out _)) ?_; clear hK K
        (repeat (first | ((first | refine wpMixH_pure rfl rfl (fun K hK => ?_) | refine wpMixH_loc rfl rfl (fun K hK => ?_) | refine wpMixH_any rfl rfl (fun K hK => ?_)); go_simp; refine hK _ _ ?_; clear hK K) | (refine wpMixH_any rfl rfl (fun K hK => ?_); rw [if_pos (by go_simp)]; apply Exists.intro; refine And.intro (fun w2 hS2 => ?_) (hK _ _ ?_); (focus (obtain hs1 := hS2; go_simp; rfl)); clear hK K)))
        refine wpMixH_nil (fun n3 => ?_)
        go_wp2
        go_roundw
        case rel => exact ⟨k + 1, hlt, by go_num, hno', Lib.hid (below_drewNs hbA.out _)⟩
        case measure => simp [intOf]; omega
    · have hkk : k = l.length := by omega
      subst hkk
      have hres : Hid (stoodW v.cells n l = true) := Lib.hid (by
        unfold stoodW
        rw [List.all_eq_true]
        intro p hp
        obtain ⟨j, hj, rfl⟩ := List.mem_iff_getElem.1 hp
        exact hno.out j hj hj)
      go_wp2
      all_goals go_ret
      all_goals exact ⟨ret_bool (by rw [hres.out]), hbl.out⟩
end
end Go.Proofs.Ytloiadhdkgkjkaa
