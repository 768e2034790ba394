/- opaque.view.at by contract. -/
import Derived.Test.YtloiadhdkgkjkaaOpG
import Derived.Test.YtloiadhdkgkjkaaMixH
import Derived.Deep.DeepCutAuto
import Derived.Test.YtloiadhdkgkjkaaEvW
import Derived.Outline
namespace Go.Proofs.Ytloiadhdkgkjkaa
open Go.RowKit
set_option maxHeartbeats 4000000
set_option linter.unusedVariables false
set_option linter.unusedSimpArgs false
/-- The place, from i down, of the last entry that stands behind n commits. -/
def dn (l : List (Nat × Int)) (n : Nat) : Nat → Nat
  | 0 => 0
  | i + 1 => if n < (l.getD (i + 1) (0, 0)).1 then dn l n i else i + 1
/-- A cell's word behind n commits. -/
def atW (l : List (Nat × Int)) (n : Nat) : Int := (l.getD (dn l n (l.length - 1)) (0, 0)).2
theorem getD_cell {l : List (Nat × Int)} {k : Nat} (hk : k < l.length) : l[k]'hk = l.getD k (0, 0) := by
  rw [List.getD_eq_getElem?_getD, List.getElem?_eq_getElem hk]
  rfl
section
variable {B : Nat} {w : World} {vb nb mb : Nat} {v : Vw} {size : Nat} {fv cv : Nat → Value} {sv : Value}
set_option maxRecDepth 100000 in
theorem at_b (h : VwW B w vb nb mb v size fv cv sv) {a : Nat} (ha : a < size) {l : List (Nat × Int)} (hl : v.cells a = l) (hne : l ≠ []) (hz : (l.getD 0 (0, 0)).1 = 0) (hlen : l.length ≤ 9223372036854775807) (n : Nat) :
    Calls Try.prog 38 #[.pointer (some ⟨vb, 0, none⟩), .int .u64 a, .int .i64 n] w fun x w' => x = .returned (.int .u64 (atW l n)) ∧ w' = w := by
  obtain ⟨m, hm⟩ : ∃ m, l.length = m + 1 := ⟨l.length - 1, by have := List.length_pos_iff.2 hne; omega⟩
  have hcell := h.cells a ha
  rw [hl] at hcell
  obtain ⟨Ac, capc, hcv, hcapc⟩ := hcell.shape
  rw [hcv] at hcell
  obtain ⟨g, o, hAc, hgc, hcc⟩ := Sl.cell encF_len (by decide) hcell (i := m) (by omega)
  subst hAc
  have hc0 : ∀ k, k ≤ m → w.cell? ⟨g, o + k * 2, none⟩ = some (.int .i64 (l.getD k (0, 0)).1) := fun k hk => (hcc k (by omega) 0 (by decide)).1.trans (by rw [getD_cell]; rfl)
  have hc1 : ∀ k, k ≤ m → w.cell? ⟨g, o + k * 2 + 1, none⟩ = some (.int .u64 (l.getD k (0, 0)).2) := fun k hk => by rw [Nat.add_assoc]; exact (hcc k (by omega) 1 (by decide)).1.trans (by rw [getD_cell]; rfl)
  rw [hm] at hcv hcapc
  have v0 := h.c0
  obtain ⟨n0, hM0⟩ := h.map
  have hlk0 : (Instr.lookup 65 (.map (some mb)) (.int .u64 a) false).run Try.prog w = .ok (.slice (some ⟨g, o, none⟩) (m + 1) capc) w := by
    have := Mp.lookup (P := Try.prog) hM0 (t := 65) Try.underlying65 Try.underlying35 (z := .slice none 0 0) (by kernel_rfl) a false
    rw [this]
    show Result.ok ((cmap size cv a).getD (.slice none 0 0)) _ = _
    unfold cmap
    rw [if_pos ⟨by omega, by omega⟩, Int.toNat_natCast, hcv]
    rfl
  have hml : (m : Int) + 1 ≤ 9223372036854775807 := by omega
  have hmm1 : (m : Int) < (m : Int) + 1 := by omega
  have hat : Hid (atW l n = (l.getD (dn l n m) (0, 0)).2) := Lib.hid (by unfold atW; rw [hm]; rfl)
  replace hc0 := Lib.hid hc0
  replace hc1 := Lib.hid hc1
  replace hz := Lib.hid hz
  clear h hcell hcc hM0 hcv hl hne hlen hgc
  replace hm := Lib.hid hm
  go_enter Try.func38, Try.ntmps38
  go_wp2
  go_loopw [8] (fun i wr => ∃ k : Nat, k ≤ m ∧ i = .int .i64 k ∧ Hid (dn l n k = dn l n m) ∧ wr = w) (fun i _ => (intOf i).toNat)
  case atStart => exact ⟨m, Nat.le_refl _, by go_num, Lib.hid rfl, rfl⟩
  case round =>
    obtain ⟨k, hk, rfl, hd, rfl⟩ := hrel
    have x0 := hc0.out k hk
    have x1 := hc1.out k hk
    have hkm : (k : Int) < (m : Int) + 1 := by omega
    by_cases hgt : n < (l.getD k (0, 0)).1
    · obtain ⟨k', rfl⟩ : ∃ k', k = k' + 1 := by
        cases k with
        | zero => rw [hz.out] at hgt; omega
        | succ k' => exact ⟨k', rfl⟩
      have hgt' : (n : Int) < ((l.getD (k' + 1) (0, 0)).1 : Int) := by omega
      have hd' : Hid (dn l n k' = dn l n m) := Lib.hid (by rw [← hd.out]; unfold dn; rw [if_pos hgt]; cases k' <;> rfl)
      generalize (l.getD (k' + 1) (0, 0)).1 = y0 at *
      generalize (l.getD (k' + 1) (0, 0)).2 = y1 at *
      go_wp2
      go_roundw
      case rel => exact ⟨k', by omega, by go_num, hd', trivial⟩
      case measure => (simp [intOf]; try omega)
    · have hgt' : ¬ (n : Int) < ((l.getD k (0, 0)).1 : Int) := by omega
      have hd' : dn l n k = k := by
        cases k with
        | zero => rfl
        | succ k' => unfold dn; rw [if_neg hgt]
      have hat' : Hid (atW l n = (l.getD k (0, 0)).2) := Lib.hid (by rw [hat.out, ← hd.out, hd'])
      generalize (l.getD k (0, 0)).1 = y0 at *
      generalize (l.getD k (0, 0)).2 = y1 at *
      replace hd' := Lib.hid hd'
      go_wp2
      all_goals go_ret
      all_goals exact ⟨ret_int (by rw [hat'.out]), rfl⟩
end
end Go.Proofs.Ytloiadhdkgkjkaa
/- opaque.view.stood by contract. -/
namespace Go.Proofs.Ytloiadhdkgkjkaa
open Go.RowKit
set_option maxHeartbeats 4000000
set_option linter.unusedVariables false
set_option linter.unusedSimpArgs false
/-- The slice v reads as these words of cells. -/
def LiesP (w : World) (v : Value) (l : List (Int × Int)) : Prop := ∃ A cp, v = .slice A l.length cp ∧ ∀ j (hj : j < l.length), ∃ g o, A = some ⟨g, o, none⟩ ∧ g < w.heap.size ∧ w.cell? ⟨g, o + j * 2, none⟩ = some (.int .u64 (l[j]'hj).1) ∧ w.cell? ⟨g, o + j * 2 + 1, none⟩ = some (.int .u64 (l[j]'hj).2)
theorem liesP_sl {w : World} {v : Value} {l : List (Int × Int)} (h : Sl 45 2 encC w v l) : LiesP w v l := by
  obtain ⟨A, cap, rfl, hc⟩ := h.shape
  refine ⟨A, cap, rfl, fun j hj => ?_⟩
  obtain ⟨g, off, e, hlt, hcell⟩ := Sl.cell encC_len (by decide) h hj
  have k0 := (hcell j hj 0 (by decide)).1
  have k1 := (hcell j hj 1 (by decide)).1
  exact ⟨g, off, e, hlt, by simpa [encC] using k0, by rw [Nat.add_assoc]; simpa [encC] using k1⟩
theorem LiesP.below {w w' : World} {v : Value} {l : List (Int × Int)} (h : LiesP w v l) (hb : Below w.heap.size w w') : LiesP w' v l := by
  obtain ⟨A, cp, rfl, hc⟩ := h
  refine ⟨A, cp, rfl, fun j hj => ?_⟩
  obtain ⟨g, o, e, hg, h0, h1⟩ := hc j hj
  exact ⟨g, o, e, Nat.lt_of_lt_of_le hg hb.size, by rw [hb.cell (p := ⟨g, o + j * 2, none⟩) hg, h0], by rw [hb.cell (p := ⟨g, o + j * 2 + 1, none⟩) hg, h1]⟩
/-- Did these words stand there together? -/
def stoodW (cells : Nat → List (Nat × Int)) (n : Nat) (l : List (Int × Int)) : Bool := l.all fun p => atW (cells p.1.toNat) n == p.2
/-- What 'at' asks of the cells. -/
structure CellsOk (cells : Nat → List (Nat × Int)) (size : Nat) : Prop where
  ne : ∀ a, a < size → cells a ≠ []
  z : ∀ a, a < size → ((cells a).getD 0 (0, 0)).1 = 0
  len : ∀ a, a < size → (cells a).length ≤ 9223372036854775807
section
variable {B : Nat} {w : World} {vb nb mb : Nat} {v : Vw} {size : Nat} {fv cv : Nat → Value} {sv : Value}
set_option maxRecDepth 100000 in
theorem stood_b (h : VwW B w vb nb mb v size fv cv sv) (hc : CellsOk v.cells size) {A : Option Addr} {cp : Nat} {l : List (Int × Int)} (hl : LiesP w (.slice A l.length cp) l) (hll : l.length ≤ 9223372036854775807) (ha : ∀ p ∈ l, 0 ≤ p.1 ∧ p.1 < (size : Int)) (n : Nat) :
    Calls Try.prog 27 #[.pointer (some ⟨vb, 0, none⟩), .slice A l.length cp, .int .i64 n] w fun x w' => x = .returned (.bool (stoodW v.cells n l)) ∧ Below w.heap.size w w' := by
  have hll' : (l.length : Int) ≤ 9223372036854775807 := by omega
  replace h := Lib.hid h
  replace hc := Lib.hid hc
  replace hl := Lib.hid hl
  replace ha := Lib.hid ha
  go_enter Try.func27, Try.ntmps27
  go_wp2
  go_loopw [11] (fun i wr => ∃ k : Nat, k ≤ l.length ∧ i = .int .i64 k ∧ Hid (∀ j (hj : j < k) (hj2 : j < l.length), (atW (v.cells (l[j]'hj2).1.toNat) n == (l[j]'hj2).2) = true) ∧ Hid (Below w.heap.size w wr)) (fun i _ => l.length - (intOf i).toNat)
  case atStart => exact ⟨0, Nat.zero_le _, rfl, Lib.hid fun j hj => by omega, Lib.hid (Below.refl _ _)⟩
  case round =>
    obtain ⟨k, hk, rfl, hno, hbl⟩ := hrel
    by_cases hlt : k < l.length
    · obtain ⟨A', cp', eA, hcl⟩ := hl.out.below hbl.out
      injection eA with e1 e2 e3
      subst e1 e3
      obtain ⟨g, o, hA, hg, d0, d1⟩ := hcl k hlt
      subst hA
      have hak := ha.out _ (List.getElem_mem hlt)
      obtain ⟨p, hp⟩ : ∃ p, p = l[k]'hlt := ⟨_, rfl⟩
      rw [← hp] at d0 d1 hak
      obtain ⟨a0, x⟩ := p
      dsimp only at d0 d1 hak
      obtain ⟨a, rfl⟩ := Int.eq_ofNat_of_zero_le hak.1
      have hasz : a < size := by omega
      have hA1 := Lib.hid (fun J => at_b ((((h.out.below hbl.out).alloc (.cells #[.int .u64 a, .int .u64 x] 45)).drewN J)) hasz rfl (hc.out.ne a hasz) (hc.out.z a hasz) (hc.out.len a hasz) n)
      have hbA := Lib.hid (hbl.out.alloc hbl.out.size (.cells #[.int .u64 a, .int .u64 x] 45))
      have hXA := Blk.new wr 45 #[.int .u64 a, .int .u64 x]
      have b0 := (hXA.cell 0).trans (show _ = some (.int .u64 (a : Int)) from rfl)
      have b1 := (hXA.cell 1).trans (show _ = some (.int .u64 x) from rfl)
      have hlt' : (k : Int) < (l.length : Int) := by omega
      obtain ⟨y, hy⟩ : ∃ y, y = atW (v.cells a) n := ⟨_, rfl⟩
      rw [← hy] at hA1
      have hthis : Hid ((atW (v.cells (l[k]'hlt).1.toNat) n == (l[k]'hlt).2) = (y == x)) := Lib.hid (by rw [← hp, hy, Int.toNat_natCast])
      obtain ⟨wA, hwA⟩ : ∃ wA, wA = wr.alloc (.cells #[.int .u64 a, .int .u64 x] 45) := ⟨_, rfl⟩
      rw [← hwA] at hA1 hbA b0 b1
      have S0 : Hid (∀ J, (wA.drewN J).cell? ⟨wr.heap.size, 1, none⟩ = some (.int .u64 x)) := Lib.hid (fun J => b1)
      replace hwA := Lib.hid hwA
      clear hcl hXA hg hak e2
      replace hy := Lib.hid hy
      replace hp := Lib.hid hp
      rcases (show (y != x) = true ∨ (y != x) = false by cases (y != x) <;> simp) with hyx | hyx
      · have hres : Hid (stoodW v.cells n l = false) := Lib.hid (by
          unfold stoodW
          rw [List.all_eq_false]
          exact ⟨_, List.getElem_mem hlt, by rw [hthis.out]; simpa using hyx⟩)
        go_wp2
        rw [← hwA.out]
        refine wp_region_mixH (fun W' => W'.cell? ⟨wr.heap.size, 1, none⟩ = some (.int .u64 x)) [3, 3, 1, 3, 2, 3, 0, 3] [0, 1, 2, 3, 5, 6, 4, 7] (by kernel_rfl) (by kernel_rfl) (fun _ _ h => h) (S0.out 1) ?_
        (repeat (first | ((first | refine wpMixH_pure rfl rfl (fun K hK => ?_) | refine wpMixH_loc rfl rfl (fun K hK => ?_) | refine wpMixH_any rfl rfl (fun K hK => ?_)); go_simp; refine hK _ _ ?_; clear hK K) | (refine wpMixH_any rfl rfl (fun K hK => ?_); rw [if_pos (by go_simp)]; apply Exists.intro; refine And.intro (fun w2 hS2 => ?_) (hK _ _ ?_); (focus (obtain hs1 := hS2; go_simp; rfl)); clear hK K)))
        refine wpMixH_loud rfl rfl (fun n2 K hK => ?_)
        go_wp2_with fail
        refine (hA1.out _).mono ?_
        rintro _ w3 ⟨rfl, rfl⟩
        go_wp2
        refine hK _ _ (fun _ => (S0.out _)) ?_; clear hK K
        (repeat (first | ((first | refine wpMixH_pure rfl rfl (fun K hK => ?_) | refine wpMixH_loc rfl rfl (fun K hK => ?_) | refine wpMixH_any rfl rfl (fun K hK => ?_)); go_simp; refine hK _ _ ?_; clear hK K) | (refine wpMixH_any rfl rfl (fun K hK => ?_); rw [if_pos (by go_simp)]; apply Exists.intro; refine And.intro (fun w2 hS2 => ?_) (hK _ _ ?_); (focus (obtain hs1 := hS2; go_simp; rfl)); clear hK K)))
        refine wpMixH_nil (fun n3 => ?_)
        go_wp2
        all_goals go_ret
        all_goals exact ⟨ret_bool (by rw [hres.out]), below_drewNs (below_drewNs hbA.out _) _⟩
      · have hno' : Hid (∀ j (hj : j < k + 1) (hj2 : j < l.length), (atW (v.cells (l[j]'hj2).1.toNat) n == (l[j]'hj2).2) = true) := Lib.hid (fun j hj hj2 => by
          by_cases e : j = k
          · subst e; rw [hthis.out]; simpa using hyx
          · exact hno.out j (by omega) hj2)
        go_wp2
        rw [← hwA.out]
        refine wp_region_mixH (fun W' => W'.cell? ⟨wr.heap.size, 1, none⟩ = some (.int .u64 x)) [3, 3, 1, 3, 2, 3, 0, 3] [0, 1, 2, 3, 5, 6, 4, 7] (by kernel_rfl) (by kernel_rfl) (fun _ _ h => h) (S0.out 1) ?_
        (repeat (first | ((first | refine wpMixH_pure rfl rfl (fun K hK => ?_) | refine wpMixH_loc rfl rfl (fun K hK => ?_) | refine wpMixH_any rfl rfl (fun K hK => ?_)); go_simp; refine hK _ _ ?_; clear hK K) | (refine wpMixH_any rfl rfl (fun K hK => ?_); rw [if_pos (by go_simp)]; apply Exists.intro; refine And.intro (fun w2 hS2 => ?_) (hK _ _ ?_); (focus (obtain hs1 := hS2; go_simp; rfl)); clear hK K)))
        refine wpMixH_loud rfl rfl (fun n2 K hK => ?_)
        go_wp2_with fail
        refine (hA1.out _).mono ?_
        rintro _ w3 ⟨rfl, rfl⟩
        go_wp2
        refine hK _ _ (fun _ => (S0.out _)) ?_; clear hK K
        (repeat (first | ((first | refine wpMixH_pure rfl rfl (fun K hK => ?_) | refine wpMixH_loc rfl rfl (fun K hK => ?_) | refine wpMixH_any rfl rfl (fun K hK => ?_)); go_simp; refine hK _ _ ?_; clear hK K) | (refine wpMixH_any rfl rfl (fun K hK => ?_); rw [if_pos (by go_simp)]; apply Exists.intro; refine And.intro (fun w2 hS2 => ?_) (hK _ _ ?_); (focus (obtain hs1 := hS2; go_simp; rfl)); clear hK K)))
        refine wpMixH_nil (fun n3 => ?_)
        go_wp2
        go_roundw
        case rel => exact ⟨k + 1, hlt, by go_num, hno', Lib.hid (below_drewNs hbA.out _)⟩
        case measure => simp [intOf]; omega
    · have hkk : k = l.length := by omega
      subst hkk
      have hres : Hid (stoodW v.cells n l = true) := Lib.hid (by
        unfold stoodW
        rw [List.all_eq_true]
        intro p hp
        obtain ⟨j, hj, rfl⟩ := List.mem_iff_getElem.1 hp
        exact hno.out j hj hj)
      go_wp2
      all_goals go_ret
      all_goals exact ⟨ret_bool (by rw [hres.out]), hbl.out⟩
end
end Go.Proofs.Ytloiadhdkgkjkaa
/- The law's num, by contract. -/
namespace Go.Proofs.Ytloiadhdkgkjkaa
open Go.RowKit
set_option maxRecDepth 100000 in
theorem num_b (a : Int) (w : World) : Calls Try.prog 24 #[.int .i64 a] w fun x w' => x = .returned (.int .i64 a) ∧ w' = w := by
  go_enter Try.func24, Try.ntmps24
  go_wp2
  go_ret
  exact ⟨rfl, rfl⟩
end Go.Proofs.Ytloiadhdkgkjkaa
/- opaque, plain: what else holds of what is gathered; what each attempt has seen. -/
namespace Go.Proofs.Ytloiadhdkgkjkaa
set_option maxHeartbeats 1000000
set_option linter.unusedVariables false
set_option linter.unusedSimpArgs false
theorem head_put {l : List (Nat × Int)} {n : Nat} (x : Int) (hne : l ≠ []) (hz : (l.getD 0 (0, 0)).1 = 0) (hn : 0 < n) : ((cutL l n ++ [(n, x)]).getD 0 (0, 0)).1 = 0 := by
  cases l with
  | nil => exact absurd rfl hne
  | cons p l' =>
    simp at hz
    unfold cutL
    cases l' with
    | nil =>
      rw [if_neg (by simp [hz]; omega)]
      simpa using hz
    | cons q l'' =>
      split
      · simpa using hz
      · simpa using hz
theorem put_ne (l : List (Nat × Int)) (n : Nat) (x : Int) : cutL l n ++ [(n, x)] ≠ [] := by simp
theorem putAll_head {n size : Nat} (hn : 0 < n) : ∀ {ws : List (Int × Int)} {c : Nat → List (Nat × Int)}, (∀ a, a < size → c a ≠ [] ∧ ((c a).getD 0 (0, 0)).1 = 0) → ∀ a, a < size → putAll c n ws a ≠ [] ∧ ((putAll c n ws a).getD 0 (0, 0)).1 = 0
  | [], c, h => h
  | p :: ws, c, h => putAll_head hn (ws := ws) (c := putC c n p) fun a ha => by
    unfold putC
    split
    · exact ⟨put_ne _ _ _, head_put _ (h a ha).1 (h a ha).2 hn⟩
    · exact h a ha
structure VJ (v : Vw) (size : Nat) : Prop where
  z : ∀ a, a < size → v.cells a ≠ [] ∧ ((v.cells a).getD 0 (0, 0)).1 = 0
  rd : ∀ x ∈ v.sights, ∀ p ∈ x.reads, 0 ≤ p.1 ∧ p.1 < (size : Int)
  up : ∀ x ∈ v.sights, x.fr ≤ v.commits ∧ x.upto ≤ v.commits
theorem VJ.start (first : List Int) (size : Nat) : VJ (vw0 first) size := ⟨fun a ha => by simp [vw0], fun x hx => by simp [vw0] at hx, fun x hx => by simp [vw0] at hx⟩
theorem sg_zero_or {l : List Sg} (q : Nat) : l.getD q Sg.zero = Sg.zero ∨ l.getD q Sg.zero ∈ l := by
  rw [List.getD_eq_getElem?_getD]
  cases h : l[q]? with
  | none => exact .inl rfl
  | some y => exact .inr (List.mem_of_getElem? h)
theorem VJ.ev {v : Vw} {size : Nat} {e : Ev} {T : List Tr} (h : VJ v size) (hf : farE size e = false) (h0 : 0 ≤ e.ad) : VJ (vEv T v e) size := by
  unfold vEv
  dsimp only
  split
  · refine ⟨h.z, fun x hx => ?_, fun x hx => ?_⟩
    · rcases List.mem_append.1 hx with hx | hx
      · exact h.rd x hx
      · rw [List.mem_singleton] at hx; subst hx; simp
    · rcases List.mem_append.1 hx with hx | hx
      · exact h.up x hx
      · rw [List.mem_singleton] at hx; subst hx; exact ⟨Nat.le_refl _, Nat.zero_le _⟩
  split
  · rename_i h2
    split
    · exact h
    · refine ⟨h.z, fun x hx => ?_, fun x hx => ?_⟩
      · rcases List.mem_or_eq_of_mem_set hx with hx | hx
        · exact h.rd x hx
        · subst hx
          intro p hp
          dsimp only at hp
          rcases List.mem_append.1 hp with hp | hp
          · rcases sg_zero_or (l := v.sights) (v.now e.th.toNat).tri with hz | hz
            · rw [hz] at hp; simp [Sg.zero] at hp
            · exact h.rd _ hz p hp
          · rw [List.mem_singleton] at hp
            subst hp
            unfold farE at hf
            rw [h2] at hf
            simp at hf
            exact ⟨h0, hf⟩
      · rcases List.mem_or_eq_of_mem_set hx with hx | hx
        · exact h.up x hx
        · subst hx
          rcases sg_zero_or (l := v.sights) (v.now e.th.toNat).tri with hz | hz
          · rw [hz]; exact ⟨Nat.zero_le _, Nat.zero_le _⟩
          · exact (show _ ∧ _ from h.up (v.sights.getD (v.now e.th.toNat).tri Sg.zero) hz)
  split
  · exact ⟨h.z, h.rd, h.up⟩
  split
  · exact ⟨h.z, h.rd, h.up⟩
  split
  · exact ⟨putAll_head (Nat.succ_pos _) h.z, h.rd, fun x hx => ⟨Nat.le_succ_of_le (h.up x hx).1, Nat.le_succ_of_le (h.up x hx).2⟩⟩
  · exact h
theorem VJ.tail {v : Vw} {size : Nat} (h : VJ v size) (i : Nat) (e : Ev) : VJ (vTl v i e) size := by
  unfold vTl
  dsimp only
  split
  · refine ⟨h.z, fun x hx => ?_, fun x hx => ?_⟩
    · rcases List.mem_or_eq_of_mem_set hx with hx | hx
      · exact h.rd x hx
      · subst hx
        rcases sg_zero_or (l := v.sights) (v.now e.th.toNat).tri with hz | hz
        · rw [hz]; simp [Sg.zero]
        · exact h.rd (v.sights.getD (v.now e.th.toNat).tri Sg.zero) hz
    · rcases List.mem_or_eq_of_mem_set hx with hx | hx
      · exact h.up x hx
      · subst hx
        rcases sg_zero_or (l := v.sights) (v.now e.th.toNat).tri with hz | hz
        · rw [hz]; exact ⟨Nat.zero_le _, Nat.le_refl _⟩
        · exact ⟨(h.up _ hz).1, Nat.le_refl _⟩
  · exact h
theorem VJ.vn {first : List Int} {T : List Tr} {l : List Ev} (hl : ∀ e ∈ l, EvWf e) (hf : idxE (farE first.length) l < 0) : ∀ {k : Nat}, k ≤ l.length → VJ (vn first T l k) first.length
  | 0, _ => VJ.start _ _
  | k + 1, hk => by
    have hk' : k < l.length := by omega
    have he : evAt l k = l[k] := by unfold evAt; rw [List.getD_eq_getElem?_getD, List.getElem?_eq_getElem hk']; rfl
    refine VJ.tail (VJ.ev (VJ.vn hl hf (by omega)) ?_ ?_) _ _
    · rw [he]; exact idxE_neg hf hk'
    · rw [he]; exact (hl _ (List.getElem_mem hk')).2.2.1.1
theorem cellsOk {v : Vw} {s : St} {k size : Nat} (h : VI v s k size) (hj : VJ v size) (hk : k ≤ 9223372036854775000) : CellsOk v.cells size :=
  ⟨fun a ha => (hj.z a ha).1, fun a ha => (hj.z a ha).2, fun a ha => by have := (h.inc a ha).len; have := h.cm; omega⟩
/-- Where, from n - 1 down to fr, words stood together; -1: nowhere. -/
def seekS (cells : Nat → List (Nat × Int)) (reads : List (Int × Int)) (fr : Nat) : Nat → Int
  | 0 => -1
  | n + 1 => if n < fr then -1 else if stoodW cells n reads = true then (n : Int) else seekS cells reads fr n
/-- What an attempt has seen: where. -/
def atOf (cells : Nat → List (Nat × Int)) (s : Sg) : Int := seekS cells s.reads s.fr (s.upto + 1)
def encG (x : Sg × Int) : List Value := [.int .i64 x.1.tr.th, .int .i64 x.1.tr.first, .int .i64 x.1.tr.last, .int .u64 x.1.tr.sn, .int .i64 x.1.tr.how, .int .i64 x.1.tr.rd, .int .i64 x.1.tr.wr, .int .i64 x.1.fr, .int .i64 x.1.upto, .int .i64 x.2]
theorem encG_len (x : Sg × Int) : (encG x).length = 10 := rfl
theorem encG_one (x : Sg × Int) : ∀ u ∈ encG x, u.oneCell' = true := by
  intro u hu
  simp only [encG, List.mem_cons, List.not_mem_nil, or_false] at hu
  rcases hu with rfl | rfl | rfl | rfl | rfl | rfl | rfl | rfl | rfl | rfl <;> rfl
def sightsOf (v : Vw) : List (Sg × Int) := v.sights.map fun s => (s, atOf v.cells s)
end Go.Proofs.Ytloiadhdkgkjkaa
/- opaque: what see answers. -/
namespace Go.Proofs.Ytloiadhdkgkjkaa
open Go.RowKit
/-- What see answers. -/
def SeeP (w : World) (first : List Int) (l : List Ev) (x : Ending) (w' : World) : Prop :=
  Below w.heap.size w w' ∧ (((seeOdd first.length l).2 ≠ 0 ∧ x = .returned (.tuple #[.pointer none, .agg #[.int .i64 (seeOdd first.length l).1, .int .i64 (seeOdd first.length l).2]])) ∨
    (seeOdd first.length l = (-1, 0) ∧ okTo l l.length ∧ ∃ B vb nb mb fv cv sv, w.heap.size ≤ B ∧ x = .returned (.tuple #[.pointer (some ⟨vb, 0, none⟩), .agg #[.int .i64 (-1), .int .i64 0]]) ∧ VwW B w' vb nb mb (vn first (rn l l.length).tries l l.length) first.length fv cv sv ∧ VI (vn first (rn l l.length).tries l l.length) (rn l l.length) l.length first.length))
end Go.Proofs.Ytloiadhdkgkjkaa
/- opaque, plain: what holds at the end of a history that see does not refuse. -/
namespace Go.Proofs.Ytloiadhdkgkjkaa
set_option maxHeartbeats 1000000
set_option linter.unusedVariables false
set_option linter.unusedSimpArgs false
theorem seeOdd_ok {n : Nat} {l : List Ev} (h : seeOdd n l = (-1, 0)) : (n ≠ 0 ∧ n ≤ 65536) ∧ (odd l).2 = 0 ∧ idxE plainE l < 0 ∧ idxE (farE n) l < 0 := by
  unfold seeOdd at h
  split at h
  · simp at h
  · rename_i h0
    split at h
    · rename_i h1
      rw [h] at h1
      simp at h1
    · rename_i h1
      split at h
      · simp at h
      · rename_i h2
        split at h
        · simp at h
        · rename_i h3
          exact ⟨by omega, by simpa using h1, by omega, by omega⟩
theorem VI.vn {first : List Int} {T : List Tr} {l : List Ev} (hl : ∀ e ∈ l, EvWf e) (hok : okTo l l.length) (hp : idxE plainE l < 0) (hf : idxE (farE first.length) l < 0) : ∀ {k : Nat}, k ≤ l.length → VI (vn first T l k) (rn l k) k first.length
  | 0, _ => VI.start _ _
  | k + 1, hk => by
    have hk' : k < l.length := by omega
    have he : evAt l k = l[k] := by unfold evAt; rw [List.getD_eq_getElem?_getD, List.getElem?_eq_getElem hk']; rfl
    have hI := inv_rn hl (show k ≤ l.length by omega) (fun j hj => hok j (by omega))
    refine VI.tail (VI.ev (VI.vn hl hok hp hf (by omega)) (hok k hk') hI ?_ ?_ ?_) _ _
    · rw [he]; exact idxE_neg hp hk'
    · rw [he]; exact idxE_neg hf hk'
    · rw [he]; exact hl _ (List.getElem_mem hk')
theorem sights_bound {first : List Int} {T : List Tr} {l : List Ev} (hl : ∀ e ∈ l, EvWf e) (hok : okTo l l.length) (hp : idxE plainE l < 0) (hf : idxE (farE first.length) l < 0) (hsz : l.length * 48 + 480 ≤ 140737488355328) : ((vn first T l l.length).sights.length + 1) * 96 ≤ 140737488355328 := by
  have hV := VI.vn (T := T) hl hok hp hf (Nat.le_refl _)
  have h1 := (inv_rn hl (Nat.le_refl _) (fun j hj => hok j hj)).two
  have h2 := lives_le (rn l l.length)
  rw [hV.sl, hV.nx]
  omega
end Go.Proofs.Ytloiadhdkgkjkaa
/- slices.IndexFunc over sights, by contract. -/
namespace Go.Proofs.Ytloiadhdkgkjkaa
open Go.RowKit
set_option maxHeartbeats 4000000
set_option linter.unusedVariables false
set_option linter.unusedSimpArgs false
def idxG (l : List (Sg × Int)) : Int := match l.findIdx? (fun x => decide (x.2 < 0)) with | some i => (i : Int) | none => -1
theorem idxG_some {l : List (Sg × Int)} {i : Nat} (hi : i < l.length) (h1 : decide ((l[i]'hi).2 < 0) = true) (h0 : ∀ j (hj : j < i), decide ((l[j]'(Nat.lt_trans hj hi)).2 < 0) = false) : idxG l = i := by
  unfold idxG
  have : l.findIdx? (fun x => decide (x.2 < 0)) = some i := List.findIdx?_eq_some_iff_getElem.2 ⟨hi, h1, fun j hj => by simpa using h0 j hj⟩
  rw [this]
theorem idxG_none {l : List (Sg × Int)} (h : ∀ j (hj : j < l.length), decide ((l[j]'hj).2 < 0) = false) : idxG l = -1 := by
  unfold idxG
  have : l.findIdx? (fun x => decide (x.2 < 0)) = none := List.findIdx?_eq_none_iff.2 fun x hx => by
    obtain ⟨j, hj, rfl⟩ := List.mem_iff_getElem.1 hx
    simpa using h j hj
  rw [this]
def sV (x : Sg × Int) : Value := .agg #[.int .i64 x.1.tr.th, .int .i64 x.1.tr.first, .int .i64 x.1.tr.last, .int .u64 x.1.tr.sn, .int .i64 x.1.tr.how, .int .i64 x.1.tr.rd, .int .i64 x.1.tr.wr, .int .i64 x.1.fr, .int .i64 x.1.upto, .int .i64 x.2]
set_option maxRecDepth 100000 in
theorem check1_b (x : Sg × Int) (w : World) : Calls Try.prog 29 #[sV x] w fun y w' => y = .returned (.bool (decide (x.2 < 0))) ∧ Below w.heap.size w w' := by
  obtain ⟨⟨⟨th, fi, la, sn, how, rd, wr⟩, rds, fr, up⟩, at0⟩ := x
  have hbel := Lib.hid ((Below.refl w.heap.size w).alloc (Nat.le_refl _) (.cells #[.int .i64 th, .int .i64 fi, .int .i64 la, .int .u64 sn, .int .i64 how, .int .i64 rd, .int .i64 wr, .int .i64 fr, .int .i64 up, .int .i64 at0] 40))
  unfold sV
  dsimp only
  go_enter Try.func29, Try.ntmps29
  go_wp2
  all_goals go_ret
  all_goals exact ⟨rfl, hbel.out⟩
set_option maxRecDepth 100000 in
theorem indexG_b {w : World} {v : Value} {l : List (Sg × Int)} (hL : Sl 40 10 encG w v l) (hll : l.length ≤ 9223372036854775807) :
    Calls Try.prog 28 #[v, .func (.func 29) #[] #[]] w fun x w' => x = .returned (.int .i64 (idxG l)) ∧ Below w.heap.size w w' := by
  obtain ⟨A, cp, rfl, hcp⟩ := hL.shape
  have hlen : (l.length : Int) ≤ 9223372036854775807 := by omega
  replace hL := Lib.hid hL
  replace hll := Lib.hid hll
  go_enter Try.func28, Try.ntmps28
  go_wp2_with fail
  go_loopw [8] (fun i wr => ∃ k : Nat, k ≤ l.length ∧ i = .int .i64 k ∧ Hid (∀ j (hj : j < k) (hj2 : j < l.length), decide ((l[j]'hj2).2 < 0) = false) ∧ Hid (Below w.heap.size w wr)) (fun i _ => l.length - (intOf i).toNat)
  case atStart => exact ⟨0, Nat.zero_le _, rfl, Lib.hid fun j hj => by omega, Lib.hid (Below.refl _ _)⟩
  case round =>
    obtain ⟨k, hk, rfl, hno, hbl⟩ := hrel
    by_cases hlt : k < l.length
    · have hS := hL.out.keep (w' := wr) fun q hq => hbl.out.block q (hL.out.lt q hq)
      obtain ⟨g, o, hA, hg, hc⟩ := Sl.cell encG_len (by decide) hS (i := k) hlt
      subst hA
      have HC := Lib.hid (check1_b (l[k]'hlt) wr)
      have hnk := Lib.hid (fun (h1 : decide ((l[k]'hlt).2 < 0) = true) => idxG_some hlt h1 (fun j hj => hno.out j hj (Nat.lt_trans hj hlt)))
      have hno' := Lib.hid (fun (h1 : decide ((l[k]'hlt).2 < 0) = false) j (hj : j < k + 1) (hj2 : j < l.length) => show decide ((l[j]'hj2).2 < 0) = false from by
        by_cases e : j = k
        · subst e; exact h1
        · exact hno.out j (by omega) hj2)
      have d0 := (hc k hlt 0 (by decide)).1.trans (show _ = some (.int .i64 (l[k]'hlt).1.tr.th) from rfl)
      have d1 := (hc k hlt 1 (by decide)).1.trans (show _ = some (.int .i64 ((l[k]'hlt).1.tr.first : Nat)) from rfl)
      have d2 := (hc k hlt 2 (by decide)).1.trans (show _ = some (.int .i64 ((l[k]'hlt).1.tr.last : Nat)) from rfl)
      have d3 := (hc k hlt 3 (by decide)).1.trans (show _ = some (.int .u64 (l[k]'hlt).1.tr.sn) from rfl)
      have d4 := (hc k hlt 4 (by decide)).1.trans (show _ = some (.int .i64 (l[k]'hlt).1.tr.how) from rfl)
      have d5 := (hc k hlt 5 (by decide)).1.trans (show _ = some (.int .i64 ((l[k]'hlt).1.tr.rd : Nat)) from rfl)
      have d6 := (hc k hlt 6 (by decide)).1.trans (show _ = some (.int .i64 ((l[k]'hlt).1.tr.wr : Nat)) from rfl)
      have d7 := (hc k hlt 7 (by decide)).1.trans (show _ = some (.int .i64 ((l[k]'hlt).1.fr : Nat)) from rfl)
      have d8 := (hc k hlt 8 (by decide)).1.trans (show _ = some (.int .i64 ((l[k]'hlt).1.upto : Nat)) from rfl)
      have d9 := (hc k hlt 9 (by decide)).1.trans (show _ = some (.int .i64 (l[k]'hlt).2) from rfl)
      simp only [Nat.add_zero, ← Nat.add_assoc] at d0 d1 d2 d3 d4 d5 d6 d7 d8 d9
      generalize l[k]'hlt = e at *
      obtain ⟨⟨⟨th, fi, la, sn, how, rd, wrt⟩, rds, fr, up⟩, at0⟩ := e
      unfold sV at HC
      dsimp only at HC d0 d1 d2 d3 d4 d5 d6 d7 d8 d9
      have hlt' : (k : Int) < (l.length : Int) := by omega
      clear hc hS hg
      obtain ⟨r, hr⟩ : ∃ r, r = decide (at0 < 0) := ⟨_, rfl⟩
      dsimp only at hnk hno'
      rw [← hr] at HC hnk hno'
      replace hr := Lib.hid hr
      go_wp2_with fail
      refine HC.out.mono ?_
      rintro _ w3 ⟨rfl, hb3⟩
      have hbl3 := Lib.hid (hbl.out.trans (hb3.mono hbl.out.size))
      clear hb3 HC
      cases r
      · go_wp2
        go_roundw
        case rel => exact ⟨k + 1, hlt, by go_num, Lib.hid (hno'.out (by trivial)), hbl3⟩
        case measure => simp [intOf]; omega
      · go_wp2
        go_ret
        exact ⟨ret_int (hnk.out (by trivial)).symm, hbl3.out⟩
    · go_wp2
      go_ret
      exact ⟨ret_int (idxG_none fun j hj => hno.out j (by omega) hj).symm, hbl.out⟩
end Go.Proofs.Ytloiadhdkgkjkaa
/- opaque.Check by contract, behind Sights'. -/
namespace Go.Proofs.Ytloiadhdkgkjkaa
open Go.RowKit
set_option maxHeartbeats 4000000
set_option linter.unusedVariables false
set_option linter.unusedSimpArgs false
/-- What Sights answers. -/
def SigP (w : World) (o : Int × Int) (L : List (Sg × Int)) (x : Ending) (w' : World) : Prop :=
  Below w.heap.size w w' ∧ ((o.2 ≠ 0 ∧ x = .returned (.tuple #[.slice none 0 0, .agg #[.int .i64 o.1, .int .i64 o.2]])) ∨
    (o = (-1, 0) ∧ ∃ ov, x = .returned (.tuple #[ov, .agg #[.int .i64 (-1), .int .i64 0]]) ∧ Sl 40 10 encG w' ov L ∧ ∀ q, own ov q → w.heap.size ≤ q))
set_option maxRecDepth 100000 in
theorem check_b {w : World} {Fv Hv : Value} {o : Int × Int} {L : List (Sg × Int)} (SIG : ∀ W, Below w.heap.size w W → Calls Try.prog 8 #[Fv, Hv] W (SigP W o L)) (hll : L.length ≤ 9223372036854775807) :
    Calls Try.prog 9 #[Fv, Hv] w fun x w' => x = .returned (.tuple #[.int .i64 (if o.2 ≠ 0 then 0 else idxG L), .agg #[.int .i64 o.1, .int .i64 o.2]]) ∧ Below w.heap.size w w' := by
  have hR1 := Blk.new w 28 #[.int .i64 0, .int .i64 0]
  have hb1 := (Below.refl w.heap.size w).alloc (Nat.le_refl _) (.cells #[.int .i64 0, .int .i64 0] 28)
  have S1 := Lib.hid (SIG _ hb1)
  replace hR1 := Lib.hid hR1
  replace hb1 := Lib.hid hb1
  obtain ⟨w1, hw1⟩ : ∃ w1, w1 = w.alloc (.cells #[.int .i64 0, .int .i64 0] 28) := ⟨_, rfl⟩
  rw [← hw1] at hR1 hb1 S1
  replace hw1 := Lib.hid hw1
  replace hll := Lib.hid hll
  clear SIG
  go_enter Try.func9, Try.ntmps9
  go_wp2_with fail
  rw [← hw1.out]
  refine S1.out.mono ?_
  rintro e w2 ⟨hb2, (⟨ho, rfl⟩ | ⟨ho, ov, rfl, hS, hown⟩)⟩
  · obtain ⟨at0, er0⟩ := o
    dsimp only at *
    have hR2 := hR1.out.below hb2 hR1.out.lt
    have hb3 := Lib.hid ((hb1.out.trans (hb2.mono hb1.out.size)).alloc (hb1.out.trans (hb2.mono hb1.out.size)).size (.cells #[.int .i64 at0, .int .i64 er0] 28))
    have hR3 := hR2.alloc (.cells #[.int .i64 at0, .int .i64 er0] 28)
    have r0 := hR3.cell 0
    have r1 := hR3.cell 1
    have f0 := hR3.frozen 0
    have f1 := hR3.frozen 1
    simp only [List.getElem?_toArray, List.getElem?_cons_zero, List.getElem?_cons_succ] at r0 r1
    have hlt2 := hR2.lt
    have hne2 : w.heap.size ≠ w2.heap.size := by omega
    have her : (er0 != 0) = true := by simpa using ho
    clear hb2 hR2 hR3 hR1 S1
    replace ho := Lib.hid ho
    replace hlt2 := Lib.hid hlt2
    go_wp2
    refine wp_region_mixH (fun _ => True) [1, 3, 2] (List.range 3) (by kernel_rfl) (by kernel_rfl) (fun _ _ h => h) trivial ?_
    (repeat ((first | refine wpMixH_pure rfl rfl (fun K hK => ?_) | refine wpMixH_loc rfl rfl (fun K hK => ?_) | refine wpMixH_any rfl rfl (fun K hK => ?_)); go_simp; refine hK _ _ ?_; clear hK K))
    refine wpMixH_loud rfl rfl (fun n1 K hK => ?_)
    go_wp2
    refine hK _ _ (fun _ => trivial) ?_; clear hK K
    refine wpMixH_nil (fun n2 => ?_)
    go_wp2
    refine bodyPost_ret (v := .tuple #[.int .i64 0, .agg #[.int .i64 at0, .int .i64 er0]]) (by simp [results, Try.results9, go_sem, r0, r1, f0, f1]) rfl ⟨by first | rfl | rw [if_pos ho.out], below_drewNs (((below_drewNs hb3.out _).setCell (Nat.le_refl _) _).setCell (Nat.le_refl _) _) _⟩
  · subst ho
    have hR2 := hR1.out.below hb2 hR1.out.lt
    have hbw := hb1.out.trans (hb2.mono hb1.out.size)
    have hlt2 := hR2.lt
    obtain ⟨w3, hw3⟩ : ∃ w3, w3 = w2.alloc (.cells #[.int .i64 (-1), .int .i64 0] 28) := ⟨_, rfl⟩
    have hb3 : Below w.heap.size w w3 := by rw [hw3]; exact hbw.alloc hbw.size _
    have hR3 : Blk w3 w.heap.size 28 #[.int .i64 0, .int .i64 0] := by rw [hw3]; exact hR2.alloc _
    have hO3 : Blk w3 w2.heap.size 28 #[.int .i64 (-1), .int .i64 0] := by rw [hw3]; exact Blk.new _ _ _
    have hS3 : Sl 40 10 encG w3 ov L := by rw [hw3]; exact hS.alloc _
    have CI := Lib.hid (fun J => indexG_b (hS3.drewN J) hll.out)
    have o0 := (hO3.cell 0).trans (show _ = some (.int .i64 (-1)) from rfl)
    have o1 := (hO3.cell 1).trans (show _ = some (.int .i64 0) from rfl)
    have S0 : Hid (∀ J, (w3.drewN J).cell? ⟨w2.heap.size, 0, none⟩ = some (.int .i64 (-1)) ∧ (w3.drewN J).cell? ⟨w2.heap.size, 1, none⟩ = some (.int .i64 0)) := Lib.hid (fun J => ⟨o0, o1⟩)
    have u0 := o0
    have u1 := o1
    rw [hw3] at u0 u1
    have hne2 : w.heap.size ≠ w2.heap.size := by omega
    replace hb3 := Lib.hid hb3
    replace hR3 := Lib.hid hR3
    replace hO3 := Lib.hid hO3
    replace hw3 := Lib.hid hw3
    replace hlt2 := Lib.hid hlt2
    clear hb2 hR2 hbw hS hS3 S1 hR1 hb1 hown
    go_wp2
    rw [← hw3.out]
    refine wp_region_mixH (fun W' => W'.cell? ⟨w2.heap.size, 0, none⟩ = some (.int .i64 (-1)) ∧ W'.cell? ⟨w2.heap.size, 1, none⟩ = some (.int .i64 0)) [3, 2, 0, 3, 2] [0, 2, 1, 3, 4] (by kernel_rfl) (by kernel_rfl) (fun _ _ h => h) (S0.out 1) ?_
    (repeat (first | ((first | refine wpMixH_pure rfl rfl (fun K hK => ?_) | refine wpMixH_loc rfl rfl (fun K hK => ?_) | refine wpMixH_any rfl rfl (fun K hK => ?_)); go_simp; refine hK _ _ ?_; clear hK K) | (refine wpMixH_any rfl rfl (fun K hK => ?_); rw [if_pos (by go_simp)]; apply Exists.intro; refine And.intro (fun w2 hS2 => ?_) (hK _ _ ?_); (focus (obtain ⟨hs1, hs2⟩ := hS2; go_simp; rfl)); clear hK K)))
    refine wpMixH_loud rfl rfl (fun n2 K hK => ?_)
    go_wp2_with fail
    refine (CI.out _).mono ?_
    rintro _ w5 ⟨rfl, hb5⟩
    have hb5' : Below w3.heap.size w3 w5 := ⟨hb5.os, hb5.tape, hb5.output, hb5.size, hb5.block⟩
    have hO5 := hO3.out.below hb5' hO3.out.lt
    have hR5 := hR3.out.below hb5' hR3.out.lt
    have hbw5 := Lib.hid (hb3.out.trans (hb5'.mono hb3.out.size))
    have S5 : w5.cell? ⟨w2.heap.size, 0, none⟩ = some (.int .i64 (-1)) ∧ w5.cell? ⟨w2.heap.size, 1, none⟩ = some (.int .i64 0) := ⟨(hO5.cell 0).trans rfl, (hO5.cell 1).trans rfl⟩
    have r0 := (hR5.cell 0).trans (show _ = some (.int .i64 0) from rfl)
    have r1 := (hR5.cell 1).trans (show _ = some (.int .i64 0) from rfl)
    have f0 := hR5.frozen 0
    have f1 := hR5.frozen 1
    clear hb5 hb5' hO5 hR5 CI
    go_wp2
    refine hK _ _ (fun _ => S5) ?_; clear hK K
    (repeat (first | ((first | refine wpMixH_pure rfl rfl (fun K hK => ?_) | refine wpMixH_loc rfl rfl (fun K hK => ?_) | refine wpMixH_any rfl rfl (fun K hK => ?_)); go_simp; refine hK _ _ ?_; clear hK K) | (refine wpMixH_any rfl rfl (fun K hK => ?_); rw [if_pos (by go_simp)]; apply Exists.intro; refine And.intro (fun w2 hS2 => ?_) (hK _ _ ?_); (focus (obtain ⟨hs1, hs2⟩ := hS2; go_simp; rfl)); clear hK K)))
    refine wpMixH_loud rfl rfl (fun n3 K hK => ?_)
    go_wp2
    refine hK _ _ (fun h => (Bool.false_ne_true ((Eq.symm (by kernel_rfl)).trans h)).elim) ?_; clear hK K
    refine wpMixH_nil (fun n4 => ?_)
    go_wp2
    refine bodyPost_ret (v := .tuple #[.int .i64 (idxG L), .agg #[.int .i64 (-1), .int .i64 0]]) (by simp [results, Try.results9, go_sem, r0, r1, f0, f1]) rfl ⟨by simp, below_drewNs (((below_drewNs hbw5.out _).setCell (Nat.le_refl _) _).setCell (Nat.le_refl _) _) _⟩
end Go.Proofs.Ytloiadhdkgkjkaa
/- opaque.Behind by contract, behind see's. -/
namespace Go.Proofs.Ytloiadhdkgkjkaa
open Go.RowKit
set_option maxHeartbeats 4000000
set_option linter.unusedVariables false
set_option linter.unusedSimpArgs false
/-- The cells behind n commits. -/
def behindL (cells : Nat → List (Nat × Int)) (n size : Nat) : List Int := (List.range size).map fun a => atW (cells a) n
def behR (cells : Nat → List (Nat × Int)) (n size k : Nat) : List Int := (List.range k).map (fun a => atW (cells a) n) ++ List.replicate (size - k) 0
theorem behR_len {cells : Nat → List (Nat × Int)} {n size k : Nat} (hk : k ≤ size) : (behR cells n size k).length = size := by unfold behR; simp; omega
theorem behR_set {cells : Nat → List (Nat × Int)} {n size k : Nat} (hk : k < size) : (behR cells n size k).set k (atW (cells k) n) = behR cells n size (k + 1) := by
  unfold behR
  obtain ⟨m, hm⟩ : ∃ m, size - k = m + 1 := ⟨size - k - 1, by omega⟩
  rw [hm, show size - (k + 1) = m by omega, List.replicate_succ, List.range_succ, List.map_append, List.append_assoc]
  rw [List.set_append_right _ _ (by simp)]
  simp
set_option maxRecDepth 100000 in
theorem behind_b {w : World} {Af A : Option Addr} {first : List Int} {l : List Ev} {cf cp : Nat} (n : Int)
    (SEE : ∀ W, Below w.heap.size w W → Calls Try.prog 26 #[.slice Af first.length cf, .slice A l.length cp] W (SeeP W first l))
    (hJ : seeOdd first.length l = (-1, 0) → VJ (vn first (rn l l.length).tries l l.length) first.length) (hsz : l.length * 48 + 480 ≤ 140737488355328) :
    Calls Try.prog 15 #[.slice Af first.length cf, .slice A l.length cp, .int .i64 n] w fun x w' => Below w.heap.size w w' ∧ (((seeOdd first.length l).2 ≠ 0 ∧ x = .returned (.tuple #[.slice none 0 0, .agg #[.int .i64 (seeOdd first.length l).1, .int .i64 (seeOdd first.length l).2]])) ∨
      (seeOdd first.length l = (-1, 0) ∧ okTo l l.length ∧ (((n < 0 ∨ ((vn first (rn l l.length).tries l l.length).commits : Int) < n) ∧ x = .returned (.tuple #[.slice none 0 0, .agg #[.int .i64 (-1), .int .i64 2]])) ∨
        (0 ≤ n ∧ n ≤ ((vn first (rn l l.length).tries l l.length).commits : Int) ∧ ∃ ov, x = .returned (.tuple #[ov, .agg #[.int .i64 (-1), .int .i64 0]]) ∧ Wl w' ov (behindL (vn first (rn l l.length).tries l l.length).cells n.toNat first.length) ∧ ∀ q, own ov q → w.heap.size ≤ q)))) := by
  have hR1 := Blk.new w 28 #[.int .i64 0, .int .i64 0]
  have hb1 := (Below.refl w.heap.size w).alloc (Nat.le_refl _) (.cells #[.int .i64 0, .int .i64 0] 28)
  have S1 := Lib.hid (SEE _ hb1)
  replace hR1 := Lib.hid hR1
  replace hb1 := Lib.hid hb1
  replace hJ := Lib.hid hJ
  replace hsz := Lib.hid hsz
  obtain ⟨w1, hw1⟩ : ∃ w1, w1 = w.alloc (.cells #[.int .i64 0, .int .i64 0] 28) := ⟨_, rfl⟩
  rw [← hw1] at hR1 hb1 S1
  replace hw1 := Lib.hid hw1
  clear SEE
  go_enter Try.func15, Try.ntmps15
  go_wp2_with fail
  rw [← hw1.out]
  refine S1.out.mono ?_
  rintro e w2 ⟨hb2, (⟨ho, rfl⟩ | ⟨ho, hok, B, vb, nb, mb, fv, cv, sv, hB, rfl, hV, hVI⟩)⟩
  · obtain ⟨at0, hat0⟩ : ∃ x, (seeOdd first.length l).1 = x := ⟨_, rfl⟩
    obtain ⟨er0, her0⟩ : ∃ x, (seeOdd first.length l).2 = x := ⟨_, rfl⟩
    rw [hat0, her0]
    replace hat0 := Lib.hid hat0
    replace her0 := Lib.hid her0
    have hR2 := hR1.out.below hb2 hR1.out.lt
    have hb3 := Lib.hid ((hb1.out.trans (hb2.mono hb1.out.size)).alloc (hb1.out.trans (hb2.mono hb1.out.size)).size (.cells #[.int .i64 at0, .int .i64 er0] 28))
    have hR3 := hR2.alloc (.cells #[.int .i64 at0, .int .i64 er0] 28)
    have r0 := hR3.cell 0
    have r1 := hR3.cell 1
    have f0 := hR3.frozen 0
    have f1 := hR3.frozen 1
    simp only [List.getElem?_toArray, List.getElem?_cons_zero, List.getElem?_cons_succ] at r0 r1
    have hlt2 := hR2.lt
    have hne2 : w.heap.size ≠ w2.heap.size := by omega
    clear hb2 hR2 hR3 hR1 S1
    replace ho := Lib.hid ho
    go_wp2
    refine wp_region_mixH (fun _ => True) [1, 3, 2] (List.range 3) (by kernel_rfl) (by kernel_rfl) (fun _ _ h => h) trivial ?_
    (repeat ((first | refine wpMixH_pure rfl rfl (fun K hK => ?_) | refine wpMixH_loc rfl rfl (fun K hK => ?_) | refine wpMixH_any rfl rfl (fun K hK => ?_)); go_simp; refine hK _ _ ?_; clear hK K))
    refine wpMixH_loud rfl rfl (fun n1 K hK => ?_)
    go_wp2
    refine hK _ _ (fun _ => trivial) ?_; clear hK K
    refine wpMixH_nil (fun n2 => ?_)
    go_wp2
    refine bodyPost_ret (v := .tuple #[.slice none 0 0, .agg #[.int .i64 at0, .int .i64 er0]]) (by simp [results, Try.results15, go_sem, r0, r1, f0, f1]) rfl ⟨below_drewNs (((below_drewNs hb3.out _).setCell (Nat.le_refl _) _).setCell (Nat.le_refl _) _) _, .inl ⟨ho.out, by rw [hat0.out, her0.out]⟩⟩
  · obtain ⟨vv, hvv⟩ : ∃ vv, vv = vn first (rn l l.length).tries l l.length := ⟨_, rfl⟩
    rw [← hvv] at hV hVI hJ
    have hVJ := Lib.hid (hJ.out ho)
    have hco := Lib.hid (cellsOk hVI hVJ.out (by have := hsz.out; omega))
    have hbw := hb1.out.trans (hb2.mono hb1.out.size)
    have hR2 := hR1.out.below hb2 hR1.out.lt
    have hlt2 := hR2.lt
    obtain ⟨w3, hw3⟩ : ∃ w3, w3 = w2.alloc (.cells #[.int .i64 (-1), .int .i64 0] 28) := ⟨_, rfl⟩
    have hb3 : Below w.heap.size w w3 := by rw [hw3]; exact hbw.alloc hbw.size _
    have hR3 : Blk w3 w.heap.size 28 #[.int .i64 0, .int .i64 0] := by rw [hw3]; exact hR2.alloc _
    have hO3 : Blk w3 w2.heap.size 28 #[.int .i64 (-1), .int .i64 0] := by rw [hw3]; exact Blk.new _ _ _
    have hV3 : VwW B w3 vb nb mb vv first.length fv cv sv := by rw [hw3]; exact hV.alloc _
    have v1 : w3.cell? ⟨vb, 1, none⟩ = some (.int .i64 first.length) := by simpa using hV3.vblk.cell 1
    have v2 := hV3.c2
    have hsl3 : w2.heap.size < w3.heap.size := by rw [hw3]; simp
    have u1 := v1
    have u2 := v2
    rw [hw3] at u1 u2
    have hne2 : w.heap.size ≠ w2.heap.size := by omega
    have hclt : (vv.commits : Int) ≤ 9223372036854775807 := by have := hVI.cm; have := hsz.out; omega
    replace hb3 := Lib.hid hb3
    replace hR3 := Lib.hid hR3
    replace hO3 := Lib.hid hO3
    replace hV3 := Lib.hid hV3
    replace hw3 := Lib.hid hw3
    replace hlt2 := Lib.hid hlt2
    replace hsl3 := Lib.hid hsl3
    replace hvv := Lib.hid hvv
    replace hVI := Lib.hid hVI
    clear hb2 hR2 hbw hV S1 hR1 hb1 hB hJ
    by_cases hneg : n < 0
    ·
      have CO := Lib.hid (fun W => odd_b (-1) 2 W)
      go_wp2_with fail
      rw [← hw3.out]
      refine (CO.out _).mono ?_
      rintro _ w5 ⟨rfl, hb5⟩
      have hR5 := hR3.out.below hb5 hR3.out.lt
      have hbw5 := Lib.hid (hb3.out.trans (hb5.mono hb3.out.size))
      have r0 := (hR5.cell 0).trans (show _ = some (.int .i64 0) from rfl)
      have r1 := (hR5.cell 1).trans (show _ = some (.int .i64 0) from rfl)
      have f0 := hR5.frozen 0
      have f1 := hR5.frozen 1
      clear hb5 hR5
      go_wp2
      refine bodyPost_ret (v := .tuple #[.slice none 0 0, .agg #[.int .i64 (-1), .int .i64 2]]) (by simp [results, Try.results15, go_sem, r0, r1, f0, f1]) rfl ⟨(hbw5.out.setCell (Nat.le_refl _) _).setCell (Nat.le_refl _) _, .inr ⟨ho, hok, .inl ⟨by rw [← hvv.out]; exact .inl hneg, rfl⟩⟩⟩
    · by_cases hbig : (vv.commits : Int) < n
      ·
        have CO := Lib.hid (fun W => odd_b (-1) 2 W)
        go_wp2_with fail
        rw [← hw3.out]
        refine (CO.out _).mono ?_
        rintro _ w5 ⟨rfl, hb5⟩
        have hR5 := hR3.out.below hb5 hR3.out.lt
        have hbw5 := Lib.hid (hb3.out.trans (hb5.mono hb3.out.size))
        have r0 := (hR5.cell 0).trans (show _ = some (.int .i64 0) from rfl)
        have r1 := (hR5.cell 1).trans (show _ = some (.int .i64 0) from rfl)
        have f0 := hR5.frozen 0
        have f1 := hR5.frozen 1
        clear hb5 hR5
        go_wp2
        refine bodyPost_ret (v := .tuple #[.slice none 0 0, .agg #[.int .i64 (-1), .int .i64 2]]) (by simp [results, Try.results15, go_sem, r0, r1, f0, f1]) rfl ⟨(hbw5.out.setCell (Nat.le_refl _) _).setCell (Nat.le_refl _) _, .inr ⟨ho, hok, .inl ⟨by rw [← hvv.out]; exact .inr hbig, rfl⟩⟩⟩
      ·
        obtain ⟨m, rfl⟩ := Int.eq_ofNat_of_zero_le (show 0 ≤ n by omega)
        have hcm : (m : Int) ≤ (vv.commits : Int) := by omega
        have hszl : first.length ≤ 65536 := by
          have := ho
          unfold seeOdd at this
          split at this
          · simp at this
          · omega
        have hfl : (first.length : Int) ≤ 9223372036854775807 := by omega
        go_upto_region 7 with (rw [← hw3.out]; refine wpList_zeros w3 rfl _ _ rfl .i64 .i64 (first.length : Int) (first.length : Int) first.length rfl rfl rfl rfl (by omega) ?_; intro w4 hz4 hb4)
        have hb4' := Lib.hid hb4
        have hz4' := Lib.hid hz4
        clear hz4 hb4 u1 u2 v1 v2
        go_wp2
        go_loopw [39] (fun i wr => ∃ k : Nat, k ≤ first.length ∧ i = .int .i64 k ∧ Hid (Wl wr (.slice (some ⟨w3.heap.size, 0, none⟩) first.length first.length) (behR vv.cells m first.length k)) ∧ Hid (Below w3.heap.size w3 wr)) (fun i _ => first.length - (intOf i).toNat)
        case atStart => exact ⟨0, Nat.zero_le _, rfl, Lib.hid (by have := hz4'.out; simpa [behR] using this), hb4'⟩
        case round =>
          obtain ⟨k, hk, rfl, hW, hbl⟩ := hrel
          clear hz4' hb4'
          by_cases hlt : k < first.length
          · have hW' : Wl wr (.slice (some ⟨w3.heap.size, 0, none⟩) (behR vv.cells m first.length k).length first.length) (behR vv.cells m first.length k) := by rw [behR_len hk]; exact hW.out
            obtain ⟨g, o, hA, hg, hcell, hfz, hset⟩ := hW'.upd (j := k) (by rw [behR_len hk]; exact hlt)
            injection hA with hA
            injection hA with e1 e2
            subst e1 e2
            rw [Nat.zero_add] at hcell hfz
            have hset' := hset (atW (vv.cells k) m)
            rw [Nat.zero_add, behR_set hlt, behR_len hlt] at hset'
            replace hset' := Lib.hid hset'
            have CA := Lib.hid (at_b (hV3.out.below hbl.out) hlt rfl (hco.out.ne k hlt) (hco.out.z k hlt) (hco.out.len k hlt) m)
            generalize atW (vv.cells k) m = y at *
            generalize (behR vv.cells m first.length k).getD k 0 = y0 at *
            have hlt' : (k : Int) < (first.length : Int) := by omega
            have hb5 := Lib.hid (hbl.out.setCell (p := ⟨w3.heap.size, k, none⟩) (Nat.le_refl _) (.int .u64 y))
            clear hset hW' hg hW hbl
            go_wp2_with fail
            refine CA.out.mono ?_
            rintro _ w5 ⟨rfl, rfl⟩
            go_wp2
            go_roundw
            case rel => exact ⟨k + 1, hlt, by go_num, hset', hb5⟩
            case measure => simp [intOf]; omega
          · have hkk : k = first.length := by omega
            subst hkk
            have hO5 := hO3.out.below hbl.out hsl3.out
            have hR5 := hR3.out.below hbl.out (Nat.lt_trans hlt2.out hsl3.out)
            have hbw5 := Lib.hid (hb3.out.trans (hbl.out.mono hb3.out.size))
            have o0 := (hO5.cell 0).trans (show _ = some (.int .i64 (-1)) from rfl)
            have o1 := (hO5.cell 1).trans (show _ = some (.int .i64 0) from rfl)
            have r0 := (hR5.cell 0).trans (show _ = some (.int .i64 0) from rfl)
            have r1 := (hR5.cell 1).trans (show _ = some (.int .i64 0) from rfl)
            have f0 := hR5.frozen 0
            have f1 := hR5.frozen 1
            have hWF : Hid (Wl wr (.slice (some ⟨w3.heap.size, 0, none⟩) first.length first.length) (behindL vv.cells m first.length)) := Lib.hid (by have := hW.out; unfold behR at this; simpa [behindL] using this)
            have hnR : ¬ own (.slice (some ⟨w3.heap.size, 0, none⟩) first.length first.length) w.heap.size := fun h => by
              have h1 : w3.heap.size = w.heap.size := by simpa [own, Value.ownBlock] using h
              have := hlt2.out; have := hsl3.out; omega
            have hfin : Hid (∀ j jj, Wl ((((wr.drewN j).setCell ⟨w.heap.size, 0, none⟩ (.int .i64 (-1))).setCell ⟨w.heap.size, 1, none⟩ (.int .i64 0)).drewN jj) (.slice (some ⟨w3.heap.size, 0, none⟩) first.length first.length) (behindL vv.cells m first.length)) := Lib.hid (fun j jj => (((hWF.out.drewN j).set (p := ⟨w.heap.size, 0, none⟩) hnR _).set (p := ⟨w.heap.size, 1, none⟩) hnR _).drewN jj)
            have hownv : ∀ q, own (.slice (some ⟨w3.heap.size, 0, none⟩) first.length first.length) q → w.heap.size ≤ q := fun q h => by
              have h1 : w3.heap.size = q := by simpa [own, Value.ownBlock] using h
              have := hlt2.out; have := hsl3.out; omega
            replace hownv := Lib.hid hownv
            clear hO5 hR5 hW hbl
            go_wp2
            refine wp_region_mixH (fun _ => True) [3, 1, 3, 2] (List.range 4) (by kernel_rfl) (by kernel_rfl) (fun _ _ h => h) trivial ?_
            (repeat ((first | refine wpMixH_pure rfl rfl (fun K hK => ?_) | refine wpMixH_loc rfl rfl (fun K hK => ?_) | refine wpMixH_any rfl rfl (fun K hK => ?_)); go_simp; refine hK _ _ ?_; clear hK K))
            refine wpMixH_loud rfl rfl (fun n1 K hK => ?_)
            go_wp2
            refine hK _ _ (fun _ => trivial) ?_; clear hK K
            refine wpMixH_nil (fun n2 => ?_)
            go_wp2
            refine bodyPost_ret (v := .tuple #[.slice (some ⟨w3.heap.size, 0, none⟩) first.length first.length, .agg #[.int .i64 (-1), .int .i64 0]]) (by simp [results, Try.results15, go_sem, r0, r1, f0, f1]) rfl ⟨below_drewNs (((below_drewNs hbw5.out _).setCell (Nat.le_refl _) _).setCell (Nat.le_refl _) _) _, .inr ⟨ho, hok, .inr ⟨by omega, by rw [← hvv.out]; exact hcm, _, rfl, by rw [← hvv.out]; exact hfin.out _ _, hownv.out⟩⟩⟩
end Go.Proofs.Ytloiadhdkgkjkaa
/- opaque: what Check and Behind answer, plain; their contracts' sentences. -/
namespace Go.Proofs.Ytloiadhdkgkjkaa
open Go.RowKit
set_option maxHeartbeats 4000000
set_option linter.unusedVariables false
set_option linter.unusedSimpArgs false
/-- What see gathers of a whole history. -/
def vAll (first : List Int) (l : List Ev) : Vw := vn first (rn l l.length).tries l l.length
/-- What Sights answers, behind its error. -/
def sigA (first : List Int) (l : List Ev) : List (Sg × Int) := if (seeOdd first.length l).2 ≠ 0 then [] else sightsOf (vAll first l)
/-- What Check answers, ahead of its error. -/
def chkA (first : List Int) (l : List Ev) : Int := if (seeOdd first.length l).2 ≠ 0 then 0 else idxG (sightsOf (vAll first l))
/-- What Behind answers: its error, its cells. -/
def behA (first : List Int) (l : List Ev) (n : Int) : (Int × Int) × List Int :=
  if (seeOdd first.length l).2 ≠ 0 then (seeOdd first.length l, [])
  else if n < 0 ∨ ((vAll first l).commits : Int) < n then ((-1, 2), [])
  else ((-1, 0), behindL (vAll first l).cells n.toNat first.length)
/-- What a call over cells and a history asks of them. -/
structure OpIn (w : World) (Fv Hv : Value) (first : List Int) (l : List Ev) : Prop where
  fi : Lies w Fv first
  hi : LiesV w Hv l
  wf : ∀ e ∈ l, EvWf e
  sz : l.length * 48 + 480 ≤ 140737488355328
  fl : first.length ≤ 9223372036854775807
  fb : ∀ x ∈ first, 0 ≤ x ∧ x ≤ 18446744073709551615
theorem OpIn.below {w w' : World} {Fv Hv : Value} {first : List Int} {l : List Ev} (h : OpIn w Fv Hv first l) (hb : Below w.heap.size w w') : OpIn w' Fv Hv first l :=
  ⟨h.fi.below hb, h.hi.below hb (Nat.le_refl _), h.wf, h.sz, h.fl, h.fb⟩
def SightsC : Prop := ∀ (w : World) (Fv Hv : Value) (first : List Int) (l : List Ev), OpIn w Fv Hv first l → Calls Try.prog 8 #[Fv, Hv] w fun x w' => Below w.heap.size w w' ∧ ∃ ov, x = .returned (.tuple #[ov, .agg #[.int .i64 (seeOdd first.length l).1, .int .i64 (seeOdd first.length l).2]]) ∧ Sl 40 10 encG w' ov (sigA first l) ∧ ∀ q, own ov q → w.heap.size ≤ q
def CheckC : Prop := ∀ (w : World) (Fv Hv : Value) (first : List Int) (l : List Ev), OpIn w Fv Hv first l → Calls Try.prog 9 #[Fv, Hv] w fun x w' => Below w.heap.size w w' ∧ x = .returned (.tuple #[.int .i64 (chkA first l), .agg #[.int .i64 (seeOdd first.length l).1, .int .i64 (seeOdd first.length l).2]])
def BehindC : Prop := ∀ (w : World) (Fv Hv : Value) (first : List Int) (l : List Ev) (n : Int), OpIn w Fv Hv first l → Calls Try.prog 15 #[Fv, Hv, .int .i64 n] w fun x w' => Below w.heap.size w w' ∧ ∃ ov, x = .returned (.tuple #[ov, .agg #[.int .i64 (behA first l n).1.1, .int .i64 (behA first l n).1.2]]) ∧ Wl w' ov (behA first l n).2 ∧ ∀ q, own ov q → w.heap.size ≤ q
theorem no_own_nil (q : Nat) : ¬ own (.slice none 0 0) q := by simp [own, Value.ownBlock]
theorem sights_c' {w : World} {Fv Hv : Value} {first : List Int} {l : List Ev} (h : Calls Try.prog 8 #[Fv, Hv] w (SigP w (seeOdd first.length l) (sightsOf (vAll first l)))) :
    Calls Try.prog 8 #[Fv, Hv] w fun x w' => Below w.heap.size w w' ∧ ∃ ov, x = .returned (.tuple #[ov, .agg #[.int .i64 (seeOdd first.length l).1, .int .i64 (seeOdd first.length l).2]]) ∧ Sl 40 10 encG w' ov (sigA first l) ∧ ∀ q, own ov q → w.heap.size ≤ q := by
  refine h.mono ?_
  rintro x w' ⟨hb, ⟨h1, rfl⟩ | ⟨h1, ov, rfl, hS, ho⟩⟩
  · refine ⟨hb, _, rfl, ?_, fun q hq => absurd hq (no_own_nil q)⟩
    unfold sigA
    rw [if_pos h1]
    exact Sl.nil _
  · refine ⟨hb, ov, by rw [h1], ?_, ho⟩
    unfold sigA
    rw [if_neg (by rw [h1]; simp)]
    exact hS
theorem vEv_len (T : List Tr) (v : Vw) (e : Ev) : (vEv T v e).sights.length ≤ v.sights.length + 1 := by
  unfold vEv
  dsimp only
  repeat' split
  all_goals simp
theorem vTl_len (v : Vw) (i : Nat) (e : Ev) : (vTl v i e).sights.length = v.sights.length := by
  unfold vTl
  dsimp only
  split
  · simp
  · rfl
theorem vn_len (first : List Int) (T : List Tr) (l : List Ev) : ∀ k, (vn first T l k).sights.length ≤ k
  | 0 => by simp [vn, vw0]
  | k + 1 => by
    unfold vn
    rw [vTl_len]
    have := vEv_len T (vn first T l k) (evAt l k)
    have := vn_len first T l k
    omega
end Go.Proofs.Ytloiadhdkgkjkaa
/- slices.ContainsFunc over cells, by contract; opaque.Together's closure. -/
namespace Go.Proofs.Ytloiadhdkgkjkaa
open Go.RowKit
set_option maxHeartbeats 4000000
set_option linter.unusedVariables false
set_option linter.unusedSimpArgs false
def idxP (p : Int × Int → Bool) (l : List (Int × Int)) : Int := match l.findIdx? p with | some i => (i : Int) | none => -1
theorem idxP_some {p : Int × Int → Bool} {l : List (Int × Int)} {i : Nat} (hi : i < l.length) (h1 : p (l[i]'hi) = true) (h0 : ∀ j (hj : j < i), p (l[j]'(Nat.lt_trans hj hi)) = false) : idxP p l = i := by
  unfold idxP
  have : l.findIdx? p = some i := List.findIdx?_eq_some_iff_getElem.2 ⟨hi, h1, fun j hj => by simpa using h0 j hj⟩
  rw [this]
theorem idxP_none {p : Int × Int → Bool} {l : List (Int × Int)} (h : ∀ j (hj : j < l.length), p (l[j]'hj) = false) : idxP p l = -1 := by
  unfold idxP
  have : l.findIdx? p = none := List.findIdx?_eq_none_iff.2 fun x hx => by
    obtain ⟨j, hj, rfl⟩ := List.mem_iff_getElem.1 hx
    simpa using h j hj
  rw [this]
theorem idxP_any (p : Int × Int → Bool) (l : List (Int × Int)) : decide (idxP p l ≥ 0) = l.any p := by
  unfold idxP
  split
  · rename_i i h
    obtain ⟨h1, h2, -⟩ := List.findIdx?_eq_some_iff_getElem.1 h
    have : l.any p = true := List.any_eq_true.2 ⟨_, List.getElem_mem h1, h2⟩
    rw [this]; simp
  · rename_i h
    have : l.any p = false := by
      rw [List.any_eq_false]
      intro x hx
      have := List.findIdx?_eq_none_iff.1 h x hx
      simpa using this
    rw [this]; simp
set_option maxRecDepth 100000 in
theorem indexC_b {p : Int × Int → Bool} {gf : Nat} {cap : Array Value} {w : World} {A : Option Addr} {cp : Nat} {l : List (Int × Int)} (hL : LiesP w (.slice A l.length cp) l) (hll : l.length ≤ 9223372036854775807) (eg : ∀ args w, (callFunc gf args).run Try.prog w = .ok (.enter gf args) w)
    (C : ∀ W, Below w.heap.size w W → ∀ c ∈ l, Calls Try.prog gf (#[.agg #[.int .u64 c.1, .int .u64 c.2]] ++ cap) W fun x W' => x = .returned (.bool (p c)) ∧ Below W.heap.size W W') :
    Calls Try.prog 56 #[.slice A l.length cp, .func (.func gf) #[] cap] w fun x w' => x = .returned (.int .i64 (idxP p l)) ∧ Below w.heap.size w w' := by
  have hlen : (l.length : Int) ≤ 9223372036854775807 := by omega
  replace hL := Lib.hid hL
  replace C := Lib.hid C
  replace hll := Lib.hid hll
  go_enter Try.func56, Try.ntmps56
  go_wp2_with fail
  go_loopw [8] (fun i wr => ∃ k : Nat, k ≤ l.length ∧ i = .int .i64 k ∧ Hid (∀ j (hj : j < k) (hj2 : j < l.length), p (l[j]'hj2) = false) ∧ Hid (Below w.heap.size w wr)) (fun i _ => l.length - (intOf i).toNat)
  case atStart => exact ⟨0, Nat.zero_le _, rfl, Lib.hid fun j hj => by omega, Lib.hid (Below.refl _ _)⟩
  case round =>
    obtain ⟨k, hk, rfl, hno, hbl⟩ := hrel
    by_cases hlt : k < l.length
    · obtain ⟨A', cp', eA, hcl⟩ := hL.out.below hbl.out
      injection eA with e1 e2 e3
      subst e1 e3
      obtain ⟨g, o, hA, hg, d0, d1⟩ := hcl k hlt
      subst hA
      have HC := Lib.hid (C.out wr hbl.out l[k] (List.getElem_mem hlt))
      have hnk := Lib.hid (fun (h1 : p l[k] = true) => idxP_some hlt h1 (fun j hj => hno.out j hj (Nat.lt_trans hj hlt)))
      have hno' := Lib.hid (fun (h1 : p l[k] = false) j (hj : j < k + 1) (hj2 : j < l.length) => show p (l[j]'hj2) = false from by
        by_cases e : j = k
        · subst e; exact h1
        · exact hno.out j (by omega) hj2)
      generalize l[k] = e at *
      obtain ⟨a0, x0⟩ := e
      dsimp only at d0 d1 HC
      generalize p (a0, x0) = r at *
      have hlt' : (k : Int) < (l.length : Int) := by omega
      clear hcl hg C e2
      go_wp2_with fail
      refine HC.out.mono ?_
      rintro _ w3 ⟨rfl, hb3⟩
      have hbl3 := Lib.hid (hbl.out.trans (hb3.mono hbl.out.size))
      clear hb3 HC
      cases r
      · go_wp2
        go_roundw
        case rel => exact ⟨k + 1, hlt, by go_num, Lib.hid (hno'.out (by trivial)), hbl3⟩
        case measure => simp [intOf]; omega
      · go_wp2
        go_ret
        exact ⟨ret_int (hnk.out (by trivial)).symm, hbl3.out⟩
    · go_wp2
      go_ret
      exact ⟨ret_int (idxP_none fun j hj => hno.out j (by omega) hj).symm, hbl.out⟩
set_option maxRecDepth 100000 in
theorem containsC_b {p : Int × Int → Bool} {gf : Nat} {cap : Array Value} {w : World} {A : Option Addr} {cp : Nat} {l : List (Int × Int)} (hL : LiesP w (.slice A l.length cp) l) (hll : l.length ≤ 9223372036854775807) (eg : ∀ args w, (callFunc gf args).run Try.prog w = .ok (.enter gf args) w)
    (C : ∀ W, Below w.heap.size w W → ∀ c ∈ l, Calls Try.prog gf (#[.agg #[.int .u64 c.1, .int .u64 c.2]] ++ cap) W fun x W' => x = .returned (.bool (p c)) ∧ Below W.heap.size W W') :
    Calls Try.prog 40 #[.slice A l.length cp, .func (.func gf) #[] cap] w fun x w' => x = .returned (.bool (l.any p)) ∧ Below w.heap.size w w' := by
  have H := Lib.hid (indexC_b hL hll eg C)
  have ha := Lib.hid (idxP_any p l)
  generalize idxP p l = i at *
  generalize l.any p = b at *
  clear hL C eg
  replace hll := Lib.hid hll
  go_enter Try.func40, Try.ntmps40
  go_wp2_with fail
  refine H.out.mono ?_
  rintro _ w1 ⟨rfl, hb1⟩
  replace hb1 := Lib.hid hb1
  clear H
  go_wp2
  all_goals go_ret
  all_goals exact ⟨ret_bool (by rw [← ha.out]), hb1.out⟩
section
variable {B : Nat} {w : World} {vb nb mb : Nat} {v : Vw} {size : Nat} {fv cv : Nat → Value} {sv : Value}
set_option maxRecDepth 100000 in
theorem tog1_b (h : VwW B w vb nb mb v size fv cv sv) {xb : Nat} (hx : Blk w xb 62 #[.pointer (some ⟨vb, 0, none⟩)]) (hs : size ≤ 65536) (c : Int × Int) :
    Calls Try.prog 41 #[.agg #[.int .u64 c.1, .int .u64 c.2], .pointer (some ⟨xb, 0, none⟩)] w fun x w' => x = .returned (.bool (decide (c.1 ≥ (size : Int)))) ∧ Below w.heap.size w w' := by
  obtain ⟨a, y⟩ := c
  have hbel := Lib.hid ((Below.refl w.heap.size w).alloc (Nat.le_refl _) (.cells #[.int .u64 a, .int .u64 y] 45))
  have x0 := (hx.alloc (.cells #[.int .u64 a, .int .u64 y] 45)).cell 0
  have v1 := (h.vblk.alloc (.cells #[.int .u64 a, .int .u64 y] 45)).cell 1
  simp only [List.getElem?_toArray, List.getElem?_cons_zero, List.getElem?_cons_succ] at x0 v1
  have hs' : (size : Int) ≤ 65536 := by omega
  clear h hx
  dsimp only
  go_enter Try.func41, Try.ntmps41
  go_wp2
  go_quiet (fail)
  go_wp2
  all_goals go_ret
  all_goals exact ⟨ret_bool (by simp_all), below_drewNs hbel.out _⟩
end
end Go.Proofs.Ytloiadhdkgkjkaa
/- The document's world in memory; what is locked, what is said of numbers, of Writes, by contract. -/
namespace Go.Proofs.Ytloiadhdkgkjkaa
open Go.RowKit
set_option maxHeartbeats 40000000
set_option linter.unusedVariables false
set_option linter.unusedSimpArgs false
def gR (s : St) (wv : Nat → Value) (i : Nat) : Value := if i = 24 then .int .u64 s.num else if i % 3 = 0 then .int .i64 (s.th (i / 3)).how else if i % 3 = 1 then .int .u64 (s.th (i / 3)).sn else wv (i / 3)
section
variable {s : St} {wv : Nat → Value} {t : Nat}
theorem gR_how (ht : t < 8) : gR s wv (t * 3) = .int .i64 (s.th t).how := by
  unfold gR
  rw [if_neg (by omega), if_pos (by omega), show t * 3 / 3 = t by omega]
theorem gR_sn (ht : t < 8) : gR s wv (t * 3 + 1) = .int .u64 (s.th t).sn := by
  unfold gR
  rw [if_neg (by omega), if_neg (by omega), if_pos (by omega), show (t * 3 + 1) / 3 = t by omega]
theorem gR_ws (ht : t < 8) : gR s wv (t * 3 + 2) = wv t := by
  unfold gR
  rw [if_neg (by omega), if_neg (by omega), if_neg (by omega), show (t * 3 + 2) / 3 = t by omega]
theorem gR_num : gR s wv 24 = .int .u64 s.num := rfl
end
/-- The document's world stands in block b. -/
structure RefW (B : Nat) (w : World) (b : Nat) (s : St) (wv : Nat → Value) : Prop where
  blk : Blk w b 131 (ofF 25 (gR s wv))
  ws : ∀ t, t < 8 → Sl 45 2 encC w (wv t) (s.th t).ws
  apart : ∀ t t', t < 8 → t' < 8 → t ≠ t' → ∀ k, own (wv t) k → ¬ own (wv t') k
  geb : B ≤ b
  get : ∀ t, t < 8 → ∀ k, own (wv t) k → B ≤ k
theorem RefW.keep {B : Nat} {w w' : World} {b : Nat} {s : St} {wv : Nat → Value} (h : RefW B w b s wv) (hk : ∀ k, B ≤ k → k < w.heap.size → w'.heap[k]? = w.heap[k]?) : RefW B w' b s wv where
  blk := (hk b h.geb h.blk.lt).trans h.blk
  ws := fun t ht => (h.ws t ht).keep fun k hk' => hk k (h.get t ht k hk') ((h.ws t ht).lt k hk')
  apart := h.apart
  geb := h.geb
  get := h.get
theorem RefW.below {B : Nat} {w w' : World} {b : Nat} {s : St} {wv : Nat → Value} (h : RefW B w b s wv) (hb : Below w.heap.size w w') : RefW B w' b s wv := h.keep fun k _ hk => hb.block k hk
theorem RefW.alloc {B : Nat} {w : World} {b : Nat} {s : St} {wv : Nat → Value} (h : RefW B w b s wv) (o : Obj) : RefW B (w.alloc o) b s wv := h.below ((Below.refl _ _).alloc (Nat.le_refl _) _)
theorem RefW.drewN {B : Nat} {w : World} {b : Nat} {s : St} {wv : Nat → Value} (h : RefW B w b s wv) (n : Nat) : RefW B (w.drewN n) b s wv := ⟨h.blk, h.ws, h.apart, h.geb, h.get⟩
/-- Does another thread hold the lock? -/
def lkR (s : St) (th : Int) : Bool := (List.range 8).any fun i => decide ((i : Int) ≠ th) && decide ((s.th i).how = 2)
set_option maxRecDepth 100000 in
theorem rlocked_b {B b : Nat} {w : World} {s : St} {wv : Nat → Value} (h : RefW B w b s wv) (th : Int) :
    Calls Try.prog 77 #[.pointer (some ⟨b, 0, none⟩), .int .i64 th] w fun x w' => x = .returned (.bool (lkR s th)) ∧ w' = w := by
  have hB := Lib.hid h.blk
  clear h
  go_enter Try.func77, Try.ntmps77
  go_wp2
  go_loopg [5] 8 (fun gk c5 wr => ∃ j : Nat, gk + j = 8 ∧ c5 = .int .i64 (j : Int) ∧ wr = w ∧ ∀ i, i < j → (decide ((i : Int) ≠ th) && decide ((s.th i).how = 2)) = false)
  case atStart => exact ⟨0, rfl, rfl, rfl, fun i hi => by omega⟩
  case round =>
    obtain ⟨j, hj, rfl, rfl, hall⟩ := hrel
    replace hall := Lib.hid hall
    rcases Nat.lt_or_ge j 8 with hlt | hge
    · have c0 := (hB.out.fcell (i := j * 3) (by omega)).trans (congrArg some (gR_how hlt))
      have hj8 : (j : Int) < 8 := by omega
      by_cases he : (j : Int) = th
      · have he1 : ((j : Int) != th) = false := by simpa using he
        replace he := Lib.hid he
        go_wp2
        obtain ⟨k, rfl⟩ : ∃ k, gk = k + 1 := ⟨gk - 1, by omega⟩
        go_roundg k
        case measure => omega
        case rel =>
          refine ⟨j + 1, by omega, by simp, rfl, fun i hi => ?_⟩
          by_cases hij : i = j
          · subst hij; simp [he.out]
          · exact hall.out i (by omega)
      · have he1 : ((j : Int) != th) = true := by simpa using he
        by_cases h2 : (s.th j).how = 2
        · have h21 : (((s.th j).how : Int) == 2) = true := by simp [h2]
          go_wp2
          go_ret
          refine ⟨ret_bool ?_, rfl⟩
          unfold lkR
          symm
          rw [List.any_eq_true]
          exact ⟨j, by simpa using hlt, by simp [he, h2]⟩
        · have h21 : (((s.th j).how : Int) == 2) = false := by simp; omega
          go_wp2
          obtain ⟨k, rfl⟩ : ∃ k, gk = k + 1 := ⟨gk - 1, by omega⟩
          go_roundg k
          case measure => omega
          case rel =>
            refine ⟨j + 1, by omega, by simp, rfl, fun i hi => ?_⟩
            by_cases hij : i = j
            · subst hij; simp [h2]
            · exact hall.out i (by omega)
    · have hj8 : ¬ (j : Int) < 8 := by omega
      go_wp2
      go_ret
      refine ⟨ret_bool ?_, rfl⟩
      unfold lkR
      symm
      rw [List.any_eq_false]
      intro i hi
      rw [List.mem_range] at hi
      simpa using hall.out i (by omega)
end Go.Proofs.Ytloiadhdkgkjkaa
/- The document's world: what is said of words and numbers, of Writes, by contract. -/
namespace Go.Proofs.Ytloiadhdkgkjkaa
open Go.RowKit
set_option maxHeartbeats 40000000
set_option linter.unusedVariables false
set_option linter.unusedSimpArgs false
set_option maxRecDepth 100000 in
theorem rnumber_b {B b : Nat} {w : World} {s : St} {wv : Nat → Value} (h : RefW B w b s wv) {t : Nat} (ht : t < 8) (e : Ev) (hn0 : 0 ≤ s.num) (hn1 : s.num ≤ 4611686018427387904) (hs0 : 0 ≤ (s.th t).sn) (hs1 : (s.th t).sn ≤ 18446744073709551615) :
    Calls Try.prog 78 #[.pointer (some ⟨b, 0, none⟩), .pointer (some ⟨b, t * 3, none⟩), evV e] w fun x w' => x = .returned (.bool (wordOk (s.th t) s.num e)) ∧ Below w.heap.size w w' := by
  obtain ⟨th, kd, ad, wd, ow, er⟩ := e
  have hb1 := Lib.hid ((Below.refl w.heap.size w).alloc (Nat.le_refl _) (.cells #[.int .i64 th, .int .i64 kd, .int .u64 ad, .int .u64 wd, .bool ow, .int .i64 er] 61))
  have hB := h.blk.alloc (.cells #[.int .i64 th, .int .i64 kd, .int .u64 ad, .int .u64 wd, .bool ow, .int .i64 er] 61)
  have c0 := (hB.fcell (i := t * 3) (by omega)).trans (congrArg some (gR_how ht))
  have c1 := (hB.fcell (i := t * 3 + 1) (by omega)).trans (congrArg some (gR_sn ht))
  have c2 := (hB.fcell (i := 24) (by omega)).trans (congrArg some gR_num)
  have w1 := IntWalk.u64_in (n := 2 * s.num) (by omega)
  have w2 := IntWalk.u64_in (n := s.num + 1) (by omega)
  have w3 : (s.th t).sn.tdiv 2 = (s.th t).sn / 2 := Int.tdiv_eq_ediv_of_nonneg hs0
  have w4 := IntWalk.u64_in (n := (s.th t).sn / 2) (by omega)
  unfold evV
  dsimp only
  clear h hB
  unfold wordOk
  dsimp only
  generalize s.num = nm at *
  generalize (s.th t).sn = sn at *
  by_cases h1 : kd = 1
  · subst h1
    go_enter Try.func78, Try.ntmps78
    go_wp2
    go_quiet (fail)
    go_wp2
    go_ret
    exact ⟨by simp, below_drewNs hb1.out _⟩
  have f1 : (kd == 1) = false := by simpa using h1
  by_cases h4 : kd = 4
  · subst h4
    by_cases hx : wd = 2 * nm
    · have hx1 : (wd == 2 * nm) = true := by simpa using hx
      replace hx := Lib.hid hx
      go_enter Try.func78, Try.ntmps78
      go_wp2
      go_quiet (fail)
      go_wp2
      go_ret
      exact ⟨ret_bool (by simp [hx.out]), below_drewNs hb1.out _⟩
    · have hx1 : (wd == 2 * nm) = false := by simpa using hx
      replace hx := Lib.hid hx
      go_enter Try.func78, Try.ntmps78
      go_wp2
      go_quiet (fail)
      go_wp2
      go_ret
      exact ⟨ret_bool (by simp [hx.out]), below_drewNs hb1.out _⟩
  have f4 : (kd == 4) = false := by simpa using h4
  by_cases h5 : kd = 5
  · subst h5
    go_enter Try.func78, Try.ntmps78
    go_wp2
    go_quiet (fail)
    go_wp2
    go_ret
    exact ⟨by simp, below_drewNs hb1.out _⟩
  have f5 : (kd == 5) = false := by simpa using h5
  by_cases h6 : kd = 6
  · subst h6
    by_cases hx : (s.th t).how = 2
    · have hx1 : (((s.th t).how : Int) == 2) = true := by simp [hx]
      replace hx := Lib.hid hx
      go_enter Try.func78, Try.ntmps78
      go_wp2
      go_quiet (fail)
      go_wp2
      go_ret
      exact ⟨by simp [hx.out], below_drewNs hb1.out _⟩
    · have hx1 : (((s.th t).how : Int) == 2) = false := by simp; omega
      replace hx := Lib.hid hx
      go_enter Try.func78, Try.ntmps78
      go_wp2
      go_quiet (fail)
      go_wp2
      go_ret
      exact ⟨by simp [hx.out], below_drewNs hb1.out _⟩
  have f6 : (kd == 6) = false := by simpa using h6
  go_enter Try.func78, Try.ntmps78
  go_wp2
  go_ret
  exact ⟨by simp [h1, h4, h5, h6], hb1.out⟩
theorem written_take {l : List (Int × Int)} {a : Int} {j : Nat} (hj : j < l.length) : written (l.take (j + 1)) a = if (l[j]'hj).1 = a then some (l[j]'hj).2 else written (l.take j) a := by
  rw [List.take_add_one, List.getElem?_eq_getElem hj]
  simp only [Option.toList_some]
  exact written_snoc _ _ _
set_option maxRecDepth 100000 in
theorem rwritten_b {w : World} {v : Value} {l : List (Int × Int)} (hv : Sl 45 2 encC w v l) (hl : l.length ≤ 9223372036854775807) (a : Int) :
    Calls Try.prog 88 #[v, .int .u64 a] w fun x w' => x = .returned (.tuple #[.int .u64 ((written l a).getD 0), .bool (written l a).isSome]) ∧ w' = w := by
  obtain ⟨A, cap, rfl, hc⟩ := hv.shape
  have w0 := IntWalk.i64_in (n := (l.length : Int) - 1) (by omega)
  have hlen : (l.length : Int) ≤ 9223372036854775807 := by omega
  go_enter Try.func88, Try.ntmps88
  go_wp2
  go_loopg [6] l.length (fun gk c6 wr => gk ≤ l.length ∧ c6 = .int .i64 ((gk : Int) - 1) ∧ wr = w ∧ written (l.take gk) a = written l a)
  case atStart => exact ⟨Nat.le_refl _, by simp, rfl, by rw [List.take_length]⟩
  case round =>
    obtain ⟨hj, rfl, rfl, hw⟩ := hrel
    cases gk with
    | zero =>
      rw [List.take_zero, written_nil] at hw
      replace hw := Lib.hid hw
      go_wp2
      refine bodyPost_ret (v := .tuple #[.int .u64 0, .bool false]) (by simp [results, Try.results88, go_sem]) rfl ⟨by rw [← hw.out]; rfl, rfl⟩
    | succ k =>
      have hk : k < l.length := by omega
      obtain ⟨g, o, e, hlt, hcl⟩ := hv.cell encC_len (by omega) hk
      subst e
      have d0 := (hcl k hk 0 (by omega)).1
      have d1 := (hcl k hk 1 (by omega)).1
      rw [written_take hk] at hw
      generalize l[k] = p at *
      obtain ⟨p1, p2⟩ := p
      simp only [encC, List.getElem?_cons_zero, List.getElem?_cons_succ, Nat.add_zero] at d0 d1
      rw [← Nat.add_assoc] at d1
      dsimp only at hw
      have e1 : (((k + 1 : Nat) : Int) - 1) = (k : Int) := by omega
      rw [e1]
      have hk0 : (0 : Int) ≤ (k : Int) := by omega
      have hk1 : (k : Int) < (l.length : Int) := by omega
      have w1 := IntWalk.i64_in (n := (k : Int) - 1) (by omega)
      clear hcl e1 w0
      by_cases hp : p1 = a
      · have hp1 : (p1 == a) = true := by simpa using hp
        rw [if_pos hp] at hw
        replace hw := Lib.hid hw
        replace hp := Lib.hid hp
        go_wp2
        refine bodyPost_ret (v := .tuple #[.int .u64 p2, .bool true]) (by simp [results, Try.results88, go_sem]) rfl ⟨by rw [← hw.out]; rfl, rfl⟩
      · have hp1 : (p1 == a) = false := by simpa using hp
        rw [if_neg hp] at hw
        replace hw := Lib.hid hw
        replace hp := Lib.hid hp
        go_wp2
        go_roundg k
        case measure => omega
        case rel => exact ⟨by omega, by simp, rfl, hw.out⟩
end Go.Proofs.Ytloiadhdkgkjkaa
/- The document's world: is what is said of Writes so? by contract. -/
namespace Go.Proofs.Ytloiadhdkgkjkaa
open Go.RowKit
set_option maxHeartbeats 40000000
set_option linter.unusedVariables false
set_option linter.unusedSimpArgs false
set_option maxRecDepth 100000 in
theorem rown_b {B b : Nat} {w : World} {s : St} {wv : Nat → Value} (h : RefW B w b s wv) {t : Nat} (ht : t < 8) (hl : (s.th t).ws.length ≤ 9223372036854775807) (e : Ev) :
    Calls Try.prog 79 #[.pointer (some ⟨b, t * 3, none⟩), evV e] w fun x w' => x = .returned (.bool (ownOk (s.th t) e)) ∧ Below w.heap.size w w' := by
  obtain ⟨th, kd, ad, wd, ow, er⟩ := e
  have hb1 := Lib.hid ((Below.refl w.heap.size w).alloc (Nat.le_refl _) (.cells #[.int .i64 th, .int .i64 kd, .int .u64 ad, .int .u64 wd, .bool ow, .int .i64 er] 61))
  have hB := h.blk.alloc (.cells #[.int .i64 th, .int .i64 kd, .int .u64 ad, .int .u64 wd, .bool ow, .int .i64 er] 61)
  have hS := (h.ws t ht).alloc (.cells #[.int .i64 th, .int .i64 kd, .int .u64 ad, .int .u64 wd, .bool ow, .int .i64 er] 61)
  have hE := Blk.new w 61 #[.int .i64 th, .int .i64 kd, .int .u64 ad, .int .u64 wd, .bool ow, .int .i64 er]
  have c0 := (hB.fcell (i := t * 3) (by omega)).trans (congrArg some (gR_how ht))
  have c2 := (hB.fcell (i := t * 3 + 2) (by omega)).trans (congrArg some (gR_ws ht))
  obtain ⟨A, cap, hwv, hc⟩ := (h.ws t ht).shape
  rw [hwv] at c2 hS
  clear hwv h hB
  have CW := Lib.hid (fun n => rwritten_b (hS.drewN n) hl ad)
  clear hS
  unfold evV
  dsimp only
  obtain ⟨r, hr⟩ : ∃ r, ownOk (s.th t) ⟨th, kd, ad, wd, ow, er⟩ = r := ⟨_, rfl⟩
  rw [hr]
  unfold ownOk at hr
  dsimp only at hr
  generalize (s.th t).ws = l at *
  generalize (s.th t).how = how at *
  replace hr := Lib.hid hr
  by_cases h2 : kd = 2
  · subst h2
    obtain ⟨ok, hok⟩ : ∃ ok, (written l ad).isSome = ok := ⟨_, rfl⟩
    obtain ⟨x, hx⟩ : ∃ x, (written l ad).getD 0 = x := ⟨_, rfl⟩
    rw [hok, hx] at CW
    have fin : r = (ok == ow && (!ok || x == wd)) := by
      rw [← hr.out, if_pos rfl, ← hok, ← hx]
      cases written l ad with
      | none => cases ow <;> simp
      | some y => cases ow <;> simp
    replace fin := Lib.hid fin
    have e3 := Lib.hid (fun n m => (show ((((w.alloc (.cells #[.int .i64 th, .int .i64 2, .int .u64 ad, .int .u64 wd, .bool ow, .int .i64 er] 61)).drewN n).drewN m).cell? ⟨w.heap.size, 3, none⟩ = some (.int .u64 wd)) from (hE.cell 3).trans rfl))
    have e4 := Lib.hid (fun n m => (show ((((w.alloc (.cells #[.int .i64 th, .int .i64 2, .int .u64 ad, .int .u64 wd, .bool ow, .int .i64 er] 61)).drewN n).drewN m).cell? ⟨w.heap.size, 4, none⟩ = some (.bool ow)) from (hE.cell 4).trans rfl))
    clear hE
    go_enter Try.func79, Try.ntmps79
    go_wp2
    refine wp_region_mixH (fun _ => True) [3, 3, 3, 1, 3, 1, 2, 3, 3, 3, 3, 3] (List.range 12) (by kernel_rfl) (by kernel_rfl) (fun _ _ h => h) trivial ?_
    (repeat ((first | refine wpMixH_pure rfl rfl (fun K hK => ?_) | refine wpMixH_loc rfl rfl (fun K hK => ?_) | refine wpMixH_any rfl rfl (fun K hK => ?_)); go_simp; refine hK _ _ ?_; clear hK K))
    refine wpMixH_loud rfl rfl (fun n1 K hK => ?_)
    go_wp2_with fail
    refine (CW.out _).mono ?_
    rintro _ _ ⟨rfl, rfl⟩
    go_wp2
    refine hK _ _ (fun _ => trivial) ?_; clear hK K
    (repeat ((first | refine wpMixH_pure rfl rfl (fun K hK => ?_) | refine wpMixH_loc rfl rfl (fun K hK => ?_) | refine wpMixH_any rfl rfl (fun K hK => ?_)); go_simp; refine hK _ _ ?_; clear hK K))
    refine wpMixH_nil (fun n2 => ?_)
    have e3 := e3.out (1 + n1) n2
    have e4 := e4.out (1 + n1) n2
    replace hok := Lib.hid hok
    replace hx := Lib.hid hx
    cases ok
    · cases ow
      · go_wp2
        go_ret
        exact ⟨ret_bool fin.out.symm, below_drewNs hb1.out _⟩
      · go_wp2
        go_ret
        exact ⟨ret_bool fin.out.symm, below_drewNs hb1.out _⟩
    · cases ow
      · go_wp2
        go_ret
        exact ⟨ret_bool fin.out.symm, below_drewNs hb1.out _⟩
      · go_wp2
        go_ret
        exact ⟨ret_bool fin.out.symm, below_drewNs hb1.out _⟩
  have f2 : (kd == 2) = false := by simpa using h2
  by_cases h5 : kd = 5
  · subst h5
    go_enter Try.func79, Try.ntmps79
    go_wp2
    go_ret
    refine ⟨ret_bool ?_, hb1.out⟩
    rw [← hr.out]
    cases l <;> simp <;> omega
  have f5 : (kd == 5) = false := by simpa using h5
  by_cases h6 : kd = 6
  · subst h6
    by_cases hx : how = 2
    · subst hx
      go_enter Try.func79, Try.ntmps79
      go_wp2
      go_ret
      exact ⟨by rw [← hr.out]; simp, hb1.out⟩
    · have hx1 : ((how : Int) == 2) = false := by simp; omega
      go_enter Try.func79, Try.ntmps79
      go_wp2
      go_ret
      refine ⟨ret_bool ?_, hb1.out⟩
      rw [← hr.out]
      cases l <;> simp [hx] <;> omega
  have f6 : (kd == 6) = false := by simpa using h6
  go_enter Try.func79, Try.ntmps79
  go_wp2
  go_ret
  exact ⟨by rw [← hr.out]; simp [h2, h5, h6], hb1.out⟩
end Go.Proofs.Ytloiadhdkgkjkaa
