/- The document's keys of what stands, by contract. -/
import Derived.Test.YtcohopobjppmaaaLiW0
import Derived.Test.YtcohopobjppmaaaTxC
namespace Go.Proofs.Ytcohopobjppmaaa
open Go.RowKit
set_option maxHeartbeats 4000000
set_option linter.unusedVariables false
set_option linter.unusedSimpArgs false

def wv (W : List Int) (a : Int) : Int := if a < W.length then W.getD a.toNat 0 else 0
def wis (W : List Int) (a : Int) : Bool := decide (a < W.length)
theorem wv_bd {W : List Int} (h : ∀ x ∈ W, 0 ≤ x ∧ x ≤ 18446744073709551615) (a : Int) : 0 ≤ wv W a ∧ wv W a ≤ 18446744073709551615 := by
  unfold wv; split
  · exact getD_bd h _
  · simp
theorem word_b {v : Value} {W : List Int} {a : Int} {w : World} (hL : Lies w v W) (hn : (W.length : Int) ≤ 9223372036854775807) (h0 : 0 ≤ a) : Calls Try.prog 30 #[v, .int .u64 a] w fun e w' => e = .returned (.tuple #[.int .u64 (wv W a), .bool (wis W a)]) ∧ w = w' := by
  obtain ⟨A, c, rfl, hc, _, hL⟩ := hL
  unfold wv wis
  by_cases h : a < W.length
  · obtain ⟨g, o, rfl, hx⟩ := hL a.toNat (by omega)
    rw [if_pos h, decide_eq_true h]
    exact word_yes hn h0 h (by omega) hx
  · rw [if_neg h, decide_eq_false h]
    exact word_no hn (by omega)

theorem rise_last {out : List Int} (h : out.Pairwise (· < ·)) : ∀ x ∈ out, x ≤ out.getLastD 0 := by
  rcases List.eq_nil_or_concat out with rfl | ⟨l, b, rfl⟩
  · simp
  · intro x hx
    rw [List.concat_eq_append] at *
    rw [getLastD_concat_]
    rcases List.mem_append.1 hx with hx | hx
    · exact Int.le_of_lt ((List.pairwise_append.1 h).2.2 x hx b (by simp))
    · obtain rfl : x = b := by simpa using hx
      exact Int.le_refl _
theorem rise_snoc {out : List Int} {key : Int} (h : out.Pairwise (· < ·)) (hk : ∀ x ∈ out, x < key) : (out ++ [key]).Pairwise (· < ·) :=
  List.pairwise_append.2 ⟨h, by simp, fun x hx y hy => by
    obtain rfl : y = key := by simpa using hy
    exact hk x hx⟩
theorem mem_snoc {W out : List Int} {key : Int} (h : ∀ x ∈ out, x ∈ W) (hk : key ∈ W) : ∀ x ∈ out ++ [key], x ∈ W := fun x hx => by
  rcases List.mem_append.1 hx with hx | hx
  · exact h x hx
  · obtain rfl : x = key := by simpa using hx
    exact hk
theorem getLastD_getD (l : List Int) : l.getD (l.length - 1) 0 = l.getLastD 0 := by
  rcases List.eq_nil_or_concat l with rfl | ⟨l, b, rfl⟩
  · rfl
  · rw [List.concat_eq_append, getLastD_concat_]
    simp [List.getD_eq_getElem?_getD]
/-- a list of the call's own under way -/
structure Outs (w : World) (W out : List Int) (v : Value) (wr : World) : Prop where
  own : Wl wr v out
  fr : Fr (fun _ => False) w (Go.Proofs.Ytcohopobjppmaaa.own v) wr
  rise : out.Pairwise (· < ·)
  mem : ∀ x ∈ out, x ∈ W
theorem sGo_end {W out : List Int} {count : Int} {k : Nat} : sGo W count (k + 1) 0 out = (out, decide ((out.length : Int) = count)) := by rw [sGo, if_pos rfl]
theorem sGo_no {W out : List Int} {count nx : Int} {k : Nat} (h0 : nx ≠ 0) (h : (W.length : Int) ≤ IntKind.u64.wrap (nx - 1) ∨ (W.length : Int) ≤ nx ∨ (out ≠ [] ∧ W.getD (IntKind.u64.wrap (nx - 1)).toNat 0 ≤ out.getLastD 0) ∨ count ≤ out.length) : sGo W count (k + 1) nx out = ([], false) := by rw [sGo, if_neg h0, if_pos h]
theorem sGo_on {W out : List Int} {count nx : Int} {k : Nat} (h0 : nx ≠ 0) (h : ¬ ((W.length : Int) ≤ IntKind.u64.wrap (nx - 1) ∨ (W.length : Int) ≤ nx ∨ (out ≠ [] ∧ W.getD (IntKind.u64.wrap (nx - 1)).toNat 0 ≤ out.getLastD 0) ∨ count ≤ out.length)) :
    sGo W count (k + 1) nx out = sGo W count k (W.getD nx.toNat 0) (out ++ [W.getD (IntKind.u64.wrap (nx - 1)).toNat 0]) := by rw [sGo, if_neg h0, if_neg h]
def StandsP (w : World) (R : List Int × Bool) (e : Ending) (w' : World) : Prop := ∃ v, e = .returned (.tuple #[v, .bool R.2]) ∧ Wl w' v R.1 ∧ Below w.heap.size w w'
theorem StandsP.no {w w' : World} (h : Below w.heap.size w w') : StandsP w ([], false) (.returned (.tuple #[.slice none 0 0, .bool false])) w' := ⟨_, rfl, Wl.nil _, h⟩
set_option maxRecDepth 100000 in
theorem stands_b {v : Value} {W : List Int} {l : Int} {w : World} (hL : Lies w v W) (h64 : ∀ x ∈ W, 0 ≤ x ∧ x ≤ 18446744073709551615) (hlen : W.length ≤ 60000) (hl : 0 ≤ l) (hl' : l ≤ 18446744073709551615) :
    Calls Try.prog 10 #[v, .int .u64 l] w (StandsP w (stands W l)) := by
  have hn : (W.length : Int) ≤ 9223372036854775807 := by omega
  have hw1 : IntKind.u64.wrap (l + 1) = uAdd l 1 := rfl
  have ha1 := (uAdd_bd l 1)
  have hwb := fun a => wv_bd h64 a
  have hS : Hid (stands W l = if wis W l = false ∨ wis W (uAdd l 1) = false then ([], false) else sGo W (wv W l) (W.length + 1) (wv W (uAdd l 1)) []) := Lib.hid (by
    unfold stands wis wv
    by_cases h1 : l < W.length
    · by_cases h2 : uAdd l 1 < W.length
      · rw [if_neg (by omega), if_neg (by simp [h1, h2]), if_pos h1, if_pos h2]
      · rw [if_pos (by omega), if_pos (by simp [h2])]
    · rw [if_pos (by omega), if_pos (by simp [h1])])
  obtain ⟨hc0, hc1⟩ := hwb l
  obtain ⟨hx0, hx1⟩ := hwb (uAdd l 1)
  have hwb := Lib.hid hwb
  have hLL := Lib.hid hL
  generalize hc : wv W l = count at *
  generalize hx : wv W (uAdd l 1) = nx0 at *
  generalize hi1 : wis W l = i1 at *
  generalize hi2 : wis W (uAdd l 1) = i2 at *
  have C1 : Hid (Calls Try.prog 30 #[v, .int .u64 l] w fun e w' => e = .returned (.tuple #[.int .u64 count, .bool i1]) ∧ w = w') := Lib.hid (by have := word_b hL hn hl; rw [hc, hi1] at this; exact this)
  have C2 : Hid (Calls Try.prog 30 #[v, .int .u64 (uAdd l 1)] w fun e w' => e = .returned (.tuple #[.int .u64 nx0, .bool i2]) ∧ w = w') := Lib.hid (by have := word_b hL hn ha1.1; rw [hx, hi2] at this; exact this)
  clear hL hc hx hi1 hi2
  have h64 := Lib.hid h64
  cases i1 with
  | false =>
    have hS : Hid (stands W l = ([], false)) := Lib.hid (by rw [hS.out, if_pos (.inl rfl)])
    go_enter Try.func10, Try.ntmps10
    go_wp2_with fail
    refine C1.out.mono ?_
    rintro _ w2 ⟨rfl, rfl⟩
    go_wp2_with fail
    refine C2.out.mono ?_
    rintro _ w2 ⟨rfl, rfl⟩
    go_wp2_with fail
    go_ret2
    rw [hS.out]
    exact StandsP.no (Below.refl _ _)
  | true =>
  cases i2 with
  | false =>
    have hS : Hid (stands W l = ([], false)) := Lib.hid (by rw [hS.out, if_pos (.inr rfl)])
    go_enter Try.func10, Try.ntmps10
    go_wp2_with fail
    refine C1.out.mono ?_
    rintro _ w2 ⟨rfl, rfl⟩
    go_wp2_with fail
    refine C2.out.mono ?_
    rintro _ w2 ⟨rfl, rfl⟩
    go_wp2_with fail
    go_ret2
    rw [hS.out]
    exact StandsP.no (Below.refl _ _)
  | true =>
  have hS : Hid (stands W l = sGo W count (W.length + 1) nx0 []) := Lib.hid (by rw [hS.out, if_neg (by simp)])
  generalize stands W l = R at *
  go_enter Try.func10, Try.ntmps10
  go_wp2_with fail
  refine C1.out.mono ?_
  rintro _ w2 ⟨rfl, rfl⟩
  go_wp2_with fail
  refine C2.out.mono ?_
  rintro _ w2 ⟨rfl, rfl⟩
  go_wp2_with fail
  have h0 : Hid (Outs w W [] (.slice none 0 0) w) := Lib.hid ⟨Wl.nil _, (Fr.refl _ _).into (fun k hk => nomatch hk), .nil, by simp⟩
  clear C1 C2 hw1 ha1
  go_loopg [8, 10] (W.length + 1) (fun gk c8 c10 wr => ∃ (nx : Int) (A : Option Addr) (cp ll : Nat) (out : List Int), c8 = .int .u64 nx ∧ 0 ≤ nx ∧ nx ≤ 18446744073709551615 ∧ c10 = .slice A ll cp ∧ ll ≤ cp ∧ ll ≤ 60000 ∧ Hid (out.length = ll ∧ ll + gk = W.length + 1) ∧ Hid (R = sGo W count gk nx out) ∧ Hid (Outs w W out (.slice A ll cp) wr))
  case atStart => exact ⟨nx0, none, 0, 0, [], rfl, hx0, hx1, rfl, by omega, by omega, Lib.hid ⟨rfl, by omega⟩, hS, h0⟩
  case round =>
    obtain ⟨nx, A, cp, ll, out, rfl, hn0, hn1, rfl, hcp, hl6, hlk, hR, hO⟩ := hrel
    obtain ⟨gk, rfl⟩ : ∃ m, gk = m + 1 := ⟨gk - 1, by have := rise_len out W hO.out.rise hO.out.mem; have := hlk.out.1; have := hlk.out.2; omega⟩
    have hww : IntKind.u64.wrap (ll : Int) = (ll : Int) := by rw [IntKind.wrap_u64]; omega
    clear hS h0
    by_cases hz : nx = 0
    · subst hz
      have hR : Hid (R = (out, decide ((ll : Int) = count))) := Lib.hid (by rw [hR.out, sGo_end, hlk.out.1])
      go_wp2_with fail
      go_ret2
      rw [hR.out]
      exact ⟨_, rfl, by have := hlk.out.1; subst this; exact hO.out.own, hO.out.fr.below (fun _ h => h.elim) (Nat.le_refl _)⟩
    · have hL3 := hLL.out.below (hO.out.fr.below (fun _ h => h.elim) (Nat.le_refl _))
      obtain ⟨hy0, hy1⟩ := hwb.out (IntKind.u64.wrap (nx - 1))
      obtain ⟨hk0, hk1⟩ := hwb.out nx
      have C3 := Lib.hid (word_b hL3 hn (wrap_pos (nx - 1)))
      have C4 := Lib.hid (word_b hL3 hn hn0)
      have hB : Hid (Below w.heap.size w wr) := Lib.hid (hO.out.fr.below (fun _ h => h.elim) (Nat.le_refl _))
      have hno : Hid (∀ (_ : wis W (IntKind.u64.wrap (nx - 1)) = false ∨ wis W nx = false ∨ (out ≠ [] ∧ wv W (IntKind.u64.wrap (nx - 1)) ≤ out.getLastD 0) ∨ count ≤ (ll : Int)), R = ([], false)) := Lib.hid fun hh => by
        rw [hR.out]
        refine sGo_no hz ?_
        unfold wis wv at hh
        by_cases g1 : IntKind.u64.wrap (nx - 1) < (W.length : Int)
        · rw [if_pos g1] at hh
          rcases hh with h | h | h | h
          · simp at h; omega
          · simp at h; omega
          · exact .inr (.inr (.inl h))
          · exact .inr (.inr (.inr (by rw [hlk.out.1]; exact h)))
        · exact .inl (by omega)
      have hyes : Hid (wis W (IntKind.u64.wrap (nx - 1)) = true → wis W nx = true → ¬ (out ≠ [] ∧ wv W (IntKind.u64.wrap (nx - 1)) ≤ out.getLastD 0) → ¬ count ≤ (ll : Int) → R = sGo W count gk (wv W nx) (out ++ [wv W (IntKind.u64.wrap (nx - 1))]) ∧ wv W (IntKind.u64.wrap (nx - 1)) ∈ W) := Lib.hid fun h1 h2 h3 h4 => by
        unfold wis at h1 h2
        unfold wv at h3 ⊢
        have g1 : IntKind.u64.wrap (nx - 1) < (W.length : Int) := by simpa using h1
        have g2 : nx < (W.length : Int) := by simpa using h2
        rw [if_pos g1] at h3 ⊢
        rw [if_pos g2]
        refine ⟨?_, getD_mem (wrap_pos _) g1⟩
        rw [hR.out]
        refine sGo_on hz ?_
        rintro (h | h | h | h)
        · omega
        · omega
        · exact h3 h
        · rw [hlk.out.1] at h; exact h4 h
      have hnz : (nx != 0) = true := by simpa using hz
      clear hL3 hR hz
      generalize wv W (IntKind.u64.wrap (nx - 1)) = key at *
      generalize wv W nx = link at *
      generalize wis W (IntKind.u64.wrap (nx - 1)) = i3 at *
      generalize wis W nx = i4 at *
      cases i3 with
      | false =>
        have hR := Lib.hid (hno.out (.inl rfl))
        go_wp2_with fail; refine C3.out.mono ?_; rintro _ w5 ⟨rfl, rfl⟩; go_wp2_with fail; refine C4.out.mono ?_; rintro _ w5 ⟨rfl, rfl⟩
        go_wp2_with fail; (try rw [Exit.noGoto_ret]); go_ret2; rw [hR.out]; exact StandsP.no hB.out
      | true =>
      cases i4 with
      | false =>
        have hR := Lib.hid (hno.out (.inr (.inl rfl)))
        go_wp2_with fail; refine C3.out.mono ?_; rintro _ w5 ⟨rfl, rfl⟩; go_wp2_with fail; refine C4.out.mono ?_; rintro _ w5 ⟨rfl, rfl⟩
        go_wp2_with fail; (try rw [Exit.noGoto_ret]); go_ret2; rw [hR.out]; exact StandsP.no hB.out
      | true =>
      have hnx : (ll : Int) ≤ 9223372036854775807 := by omega
      have hx8 : Hid ((ll + 1) * 8 ≤ 140737488355328) := Lib.hid (by omega)
      rcases Nat.eq_zero_or_pos ll with hl0 | hlp
      · subst hl0
        obtain rfl : out = [] := List.eq_nil_of_length_eq_zero hlk.out.1
        by_cases hcc : count ≤ 0
        · have hR := Lib.hid (hno.out (.inr (.inr (.inr (by simpa using hcc)))))
          have hcf : decide (count ≤ 0) = true := decide_eq_true hcc
          go_wp2_with fail; refine C3.out.mono ?_; rintro _ w5 ⟨rfl, rfl⟩; go_wp2_with fail; refine C4.out.mono ?_; rintro _ w5 ⟨rfl, rfl⟩
          go_wp2_with fail; (try rw [Exit.noGoto_ret]); go_ret2; rw [hR.out]; exact StandsP.no hB.out
        · have hcf : decide (count ≤ 0) = false := decide_eq_false hcc
          obtain ⟨hR, hmem⟩ := hyes.out rfl rfl (fun h => h.1 rfl) (by simpa using hcc)
          have hR := Lib.hid hR
          have hmem := Lib.hid hmem
          have hlt : Hid (∀ x ∈ ([] : List Int), x < key) := Lib.hid (by simp)
          clear hcc hww
          go_wp2_with fail; refine C3.out.mono ?_; rintro _ w5 ⟨rfl, rfl⟩; go_wp2_with fail; refine C4.out.mono ?_; rintro _ w5 ⟨rfl, rfl⟩
          go_wp2_with (at_builtin; refine wpList_word wr rfl (.tmp 77) (.tmp 79) rfl (.slice A 0 cp) [] key rfl hO.out.own rfl (by rw [hlk.out.1]; exact hx8.out) ?_; intro A5 c5 w5 hc5 hv5 hm5)
          have hO5 : Hid (Outs w W ([] ++ [key]) (.slice A5 (0 + 1) c5) w5) := Lib.hid (by rw [hlk.out.1] at hv5 hm5; exact ⟨hv5, hO.out.fr.trans hm5, rise_snoc hO.out.rise hlt.out, mem_snoc hO.out.mem hmem.out⟩)
          have hc6 : Hid (0 + 1 ≤ c5) := Lib.hid (by rw [hlk.out.1] at hc5; exact hc5)
          have hl7 : Hid (0 + 1 ≤ 60000) := Lib.hid (by have := rise_len _ _ hO5.out.rise hO5.out.mem; rw [List.length_append, hlk.out.1] at this; simp at this; omega)
          clear hv5 hm5 hc5
          go_roundg gk
          case measure => omega
          case rel => exact ⟨link, A5, c5, 0 + 1, [] ++ [key], rfl, hk0, hk1, by first | rfl | rw [hlk.out.1], hc6.out, hl7.out, Lib.hid ⟨by rw [List.length_append, hlk.out.1]; rfl, by have := hlk.out.2; omega⟩, hR, hO5⟩
      · obtain ⟨g, o, hA, hc⟩ : ∃ g o, A = some ⟨g, o, none⟩ ∧ wr.cell? ⟨g, o + (ll - 1), none⟩ = some (.int .u64 (out.getLastD 0)) := by
          obtain ⟨A', c', hv, _, _, hcell⟩ := hO.out.own.lies
          rw [hlk.out.1] at hv hcell
          obtain ⟨g, o, hA', hcc⟩ := hcell (ll - 1) (by omega)
          injection hv with hv _ _
          refine ⟨g, o, hv.trans hA', ?_⟩
          rw [hcc, show ll - 1 = out.length - 1 by rw [hlk.out.1], getLastD_getD]
        subst hA
        have hne : out ≠ [] := by rintro rfl; have := hlk.out.1; simp at this; omega
        have hlast := fun x hx => rise_last hO.out.rise x hx
        have hlast := Lib.hid hlast
        obtain ⟨j, rfl⟩ : ∃ j, ll = j + 1 := ⟨ll - 1, by omega⟩
        rw [Nat.add_sub_cancel] at hc
        generalize out.getLastD 0 = last at *
        have hjp : 0 < j + 1 := by omega
        by_cases hkl : key ≤ last
        · have hR := Lib.hid (hno.out (.inr (.inr (.inl ⟨hne, hkl⟩))))
          have hkf : decide (key ≤ last) = true := decide_eq_true hkl
          clear hkl hne
          go_wp2_with fail; refine C3.out.mono ?_; rintro _ w5 ⟨rfl, rfl⟩; go_wp2_with fail; refine C4.out.mono ?_; rintro _ w5 ⟨rfl, rfl⟩
          go_wp2_with fail; (try rw [Exit.noGoto_ret]); go_ret2; rw [hR.out]; exact StandsP.no hB.out
        · have hkf : decide (key ≤ last) = false := decide_eq_false hkl
          by_cases hcc : count ≤ ((j + 1 : Nat) : Int)
          · have hR := Lib.hid (hno.out (.inr (.inr (.inr hcc))))
            have hcf : decide (count ≤ ((j + 1 : Nat) : Int)) = true := decide_eq_true hcc
            have hcf' : decide (count ≤ (j : Int) + 1) = true := decide_eq_true (by omega)
            clear hcc hkl hne
            go_wp2_with fail; refine C3.out.mono ?_; rintro _ w5 ⟨rfl, rfl⟩; go_wp2_with fail; refine C4.out.mono ?_; rintro _ w5 ⟨rfl, rfl⟩
            go_wp2_with fail; (try rw [Exit.noGoto_ret]); go_ret2; rw [hR.out]; exact StandsP.no hB.out
          · have hcf : decide (count ≤ ((j + 1 : Nat) : Int)) = false := decide_eq_false hcc
            have hcf' : decide (count ≤ (j : Int) + 1) = false := decide_eq_false (by omega)
            obtain ⟨hR, hmem⟩ := hyes.out rfl rfl (fun h => hkl h.2) hcc
            have hR := Lib.hid hR
            have hmem := Lib.hid hmem
            have hlt : Hid (∀ x ∈ out, x < key) := Lib.hid fun x hx => by have := hlast.out x hx; omega
            clear hcc hkl hne
            go_wp2_with fail; refine C3.out.mono ?_; rintro _ w5 ⟨rfl, rfl⟩; go_wp2_with fail; refine C4.out.mono ?_; rintro _ w5 ⟨rfl, rfl⟩
            go_wp2_with (at_builtin; refine wpList_word wr rfl (.tmp 77) (.tmp 79) rfl (.slice (some ⟨g, o, none⟩) (j + 1) cp) out key rfl hO.out.own rfl (by rw [hlk.out.1]; exact hx8.out) ?_; intro A5 c5 w5 hc5 hv5 hm5)
            have hO5 : Hid (Outs w W (out ++ [key]) (.slice A5 ((j + 1) + 1) c5) w5) := Lib.hid (by rw [hlk.out.1] at hv5 hm5; exact ⟨hv5, hO.out.fr.trans hm5, rise_snoc hO.out.rise hlt.out, mem_snoc hO.out.mem hmem.out⟩)
            have hc6 : Hid ((j + 1) + 1 ≤ c5) := Lib.hid (by rw [hlk.out.1] at hc5; exact hc5)
            have hl7 : Hid ((j + 1) + 1 ≤ 60000) := Lib.hid (by have := rise_len _ _ hO5.out.rise hO5.out.mem; rw [List.length_append, hlk.out.1] at this; simp at this; omega)
            clear hv5 hm5 hc5
            go_roundg gk
            case measure => omega
            case rel => exact ⟨link, A5, c5, (j + 1) + 1, out ++ [key], rfl, hk0, hk1, by first | rfl | rw [hlk.out.1], hc6.out, hl7.out, Lib.hid ⟨by rw [List.length_append, hlk.out.1]; rfl, by have := hlk.out.2; omega⟩, hR, hO5⟩
end Go.Proofs.Ytcohopobjppmaaa
