/- opaque.see by contract: the walk. -/
import Derived.Test.YtloiadhdkgkjkaaOpG
import Derived.Deep.DeepCutAuto
import Derived.Deep.CutBlock
import Derived.Test.YtloiadhdkgkjkaaMixH
namespace Go.Proofs.Ytloiadhdkgkjkaa
open Go.RowKit
set_option maxHeartbeats 400000000
set_option linter.unusedVariables false
set_option linter.unusedSimpArgs false
set_option maxRecDepth 100000 in
theorem see_main {w : World} {Af A : Option Addr} {first : List Int} {l : List Ev} {cf cp : Nat} (hF : Lies w (.slice Af first.length cf) first) (hL : LiesV w (.slice A l.length cp) l) (hsz : l.length * 48 + 480 ≤ 140737488355328) (hn0 : first.length ≠ 0) (hn1 : first.length ≤ 65536) (hfb : ∀ x ∈ first, 0 ≤ x ∧ x ≤ 18446744073709551615) :
    Calls Try.prog 26 #[.slice Af first.length cf, .slice A l.length cp] w fun x w' => Below w.heap.size w w' ∧ (((seeOdd first.length l).2 ≠ 0 ∧ x = .returned (.tuple #[.pointer none, .agg #[.int .i64 (seeOdd first.length l).1, .int .i64 (seeOdd first.length l).2]])) ∨ (seeOdd first.length l = (-1, 0) ∧ okTo l l.length ∧ ∃ B vb nb mb fv cv sv, w.heap.size ≤ B ∧ x = .returned (.tuple #[.pointer (some ⟨vb, 0, none⟩), .agg #[.int .i64 (-1), .int .i64 0]]) ∧ VwW B w' vb nb mb (vn first (rn l l.length).tries l l.length) first.length fv cv sv ∧ VI (vn first (rn l l.length).tries l l.length) (rn l l.length) l.length first.length)) := by
  obtain ⟨w3, hw3⟩ : ∃ w3, w3 = ((w.alloc (.cells #[.slice Af first.length cf] 22)).alloc (.cells #[.slice A l.length cp] 23)).alloc (.cells #[.int .i64 0, .int .i64 0] 28) := ⟨_, rfl⟩
  have hb3 : Hid (Below w.heap.size w w3) := Lib.hid (by rw [hw3]; exact ((((Below.refl _ _).alloc (Nat.le_refl _) _).alloc (by simp) _).alloc (by simp; omega) _))
  have hR3 : Hid (Blk w3 (w.heap.size + 1 + 1) 28 #[.int .i64 0, .int .i64 0]) := Lib.hid (by
    have := Blk.new ((w.alloc (.cells #[.slice Af first.length cf] 22)).alloc (.cells #[.slice A l.length cp] 23)) 28 #[.int .i64 0, .int .i64 0]
    rw [World.size_alloc, World.size_alloc] at this
    rw [hw3]; exact this)
  have hF3 : Hid (Blk w3 w.heap.size 22 #[.slice Af first.length cf]) := Lib.hid (by rw [hw3]; exact ((Blk.new w 22 #[.slice Af first.length cf]).alloc _).alloc _)
  have hH3 : Hid (Blk w3 (w.heap.size + 1) 23 #[.slice A l.length cp]) := Lib.hid (by
    have := (Blk.new (w.alloc (.cells #[.slice Af first.length cf] 22)) 23 #[.slice A l.length cp]).alloc (.cells #[.int .i64 0, .int .i64 0] 28)
    rw [World.size_alloc] at this
    rw [hw3]; exact this)
  have hw3s : w3.heap.size = w.heap.size + 1 + 1 + 1 := by rw [hw3]; simp
  have hL3 := Lib.hid (hL.below hb3.out (Nat.le_refl _))
  have hT := Lib.hid (tries_b hL3.out)
  replace hw3 := Lib.hid hw3
  have hle : w.heap.size ≤ w.heap.size + 1 + 1 := by omega
  have hz : ((first.length : Int) == 0) = false := by simpa using hn0
  have hg : ¬ (65536 : Int) < (first.length : Int) := by omega
  have d0 := hF3.out.cell 0
  have d1 := hH3.out.cell 0
  simp only [List.getElem?_toArray, List.getElem?_cons_zero] at d0 d1
  replace hF := Lib.hid hF
  replace hsz := Lib.hid hsz
  replace hL := Lib.hid hL
  replace hfb := Lib.hid hfb
  replace hw3s := Lib.hid hw3s
  have hseeL : Hid (seeOdd first.length l = if (odd l).2 ≠ 0 then odd l else if 0 ≤ idxE plainE l then (idxE plainE l, 260) else if 0 ≤ idxE (farE first.length) l then (idxE (farE first.length) l, 4) else (-1, 0)) := Lib.hid (by unfold seeOdd; rw [if_neg (by omega)])
  go_enter Try.func26, Try.ntmps26
  go_wp2_with fail
  rw [← hw3.out]
  refine hT.out.mono ?_
  rintro e w4 ⟨hb4, (⟨hok, tv, rfl, hS, hget⟩ | ⟨m, hm, hok, hwr, rfl⟩)⟩
  · have hb5 := Lib.hid (hb3.out.trans (hb4.mono hb3.out.size))
    have hR4 := hR3.out.below hb4 hR3.out.lt
    have hF4 := hF3.out.below hb4 hF3.out.lt
    have hH4 := hH3.out.below hb4 hH3.out.lt
    have hsz4 : w.heap.size + 1 + 1 < w4.heap.size := hR4.lt
    have hlt4 : w3.heap.size ≤ w4.heap.size := hb4.size
    obtain ⟨w5, hw5⟩ : ∃ w5, w5 = w4.alloc (.cells #[.int .i64 (-1), .int .i64 0] 28) := ⟨_, rfl⟩
    have hR5 : Hid (Blk w5 (w.heap.size + 1 + 1) 28 #[.int .i64 0, .int .i64 0]) := Lib.hid (by rw [hw5]; exact hR4.alloc _)
    have hF5 : Hid (Blk w5 w.heap.size 22 #[.slice Af first.length cf]) := Lib.hid (by rw [hw5]; exact hF4.alloc _)
    have hH5 : Hid (Blk w5 (w.heap.size + 1) 23 #[.slice A l.length cp]) := Lib.hid (by rw [hw5]; exact hH4.alloc _)
    have hO5 : Hid (Blk w5 w4.heap.size 28 #[.int .i64 (-1), .int .i64 0]) := Lib.hid (by rw [hw5]; exact Blk.new _ _ _)
    have hb6 : Hid (Below w.heap.size w w5) := Lib.hid (by rw [hw5]; exact hb5.out.alloc (by omega) _)
    have hS5 : Hid (Sl 38 7 encT w5 tv (rn l l.length).tries) := Lib.hid (by rw [hw5]; exact hS.alloc _)
    have hL5 := Lib.hid (hL.out.below hb6.out (Nat.le_refl _))
    have e0 := hO5.out.cell 0
    have e1 := hO5.out.cell 1
    simp only [List.getElem?_toArray, List.getElem?_cons_zero, List.getElem?_cons_succ] at e0 e1
    have C1 := Lib.hid (bad_b (p := plainE) (gf := 51) (cap := #[]) (er := 260) hL5.out hH5.out hO5.out (by decide) rfl (fun _ _ => rfl) (fun W _ e _ => plainc_b e W))
    replace hw5 := Lib.hid hw5
    replace hget := Lib.hid hget
    clear hb4 hR4 hF4 hH4 hb5 hR3 hF3 hH3 hL3 hT hS hb3 d0 d1
    go_wp2_with fail
    rw [← hw5.out]
    refine C1.out.mono ?_
    rintro e w6 (⟨hi, rfl, hb7⟩ | ⟨hi, rfl, hf7, hO7⟩)
    · have hF6 := Lib.hid (hF5.out.below hb7 hF5.out.lt)
      have hH6 := Lib.hid (hH5.out.below hb7 hH5.out.lt)
      have hR6 := Lib.hid (hR5.out.below hb7 hR5.out.lt)
      have hO6 := Lib.hid (hO5.out.below hb7 hO5.out.lt)
      have hS6 := Lib.hid (hS5.out.keep fun k hk => hb7.block k (hS5.out.lt k hk))
      have hb8 := Lib.hid (hb6.out.trans (hb7.mono hb6.out.size))
      have hL6 := Lib.hid (hL.out.below hb8.out (Nat.le_refl _))
      have C2 := Lib.hid (bad_b (p := farE first.length) (gf := 52) (cap := #[.pointer (some ⟨w.heap.size, 0, none⟩)]) (er := 4) hL6.out hH6.out hO6.out (by decide) rfl (fun _ _ => rfl) (fun W hW e he => farc_b e he.2.2.1.1 W (hF6.out.below hW hF6.out.lt) (by omega)))
      have e06 := hO6.out.cell 0
      have e16 := hO6.out.cell 1
      simp only [List.getElem?_toArray, List.getElem?_cons_zero, List.getElem?_cons_succ] at e06 e16
      replace hi := Lib.hid hi
      clear hb7 hF5 hH5 hR5 hO5 hS5 hb6 hL5 C1 e0 e1
      go_wp2_with fail
      refine C2.out.mono ?_
      rintro e w7 (⟨hi2, rfl, hb9⟩ | ⟨hi2, rfl, hf9, hO9⟩)
      · have hF7 := Lib.hid (hF6.out.below hb9 hF6.out.lt)
        have hH7 := Lib.hid (hH6.out.below hb9 hH6.out.lt)
        have hR7 := Lib.hid (hR6.out.below hb9 hR6.out.lt)
        have hO7 := Lib.hid (hO6.out.below hb9 hO6.out.lt)
        have hS7 := Lib.hid (hS6.out.keep fun k hk => hb9.block k (hS6.out.lt k hk))
        have hb10 := Lib.hid (hb8.out.trans (hb9.mono hb8.out.size))
        have hL7 := Lib.hid (hL.out.below hb10.out (Nat.le_refl _))
        replace hi2 := Lib.hid hi2
        clear hb9 hF6 hH6 hR6 hO6 hS6 hb8 hL6 C2 e06 e16
        have c7 := hF7.out.cell 0
        have h7 := hH7.out.cell 0
        simp only [List.getElem?_toArray, List.getElem?_cons_zero] at c7 h7
        have hmm : ∀ W : World, (Instr.makeMap 65 none).run Try.prog W = .ok (.map (some W.heap.size)) (W.alloc (.map #[] 0)) := fun W => by simp [Instr.makeMap]
        have c7a := (hF7.out.alloc (.map #[] 0)).cell 0
        simp only [List.getElem?_toArray, List.getElem?_cons_zero] at c7a
        have hA0 := CellsA.start w7 first.length first
        have c7b : ((w7.alloc (.map #[] 0)).alloc (.cells #[.map (some w7.heap.size), .int .i64 first.length, .int .i64 0, .slice none 0 0] 68)).cell? ⟨w.heap.size, 0, none⟩ = some (.slice Af first.length cf) := cell_alloc_ c7a
        obtain ⟨w8, hw8⟩ : ∃ w8, w8 = (w7.alloc (.map #[] 0)).alloc (.cells #[.map (some w7.heap.size), .int .i64 first.length, .int .i64 0, .slice none 0 0] 68) := ⟨_, rfl⟩
        rw [← hw8] at hA0
        replace hA0 := Lib.hid hA0
        replace hw8 := Lib.hid hw8
        have hws7 := hb10.out.size
        have hR7lt := hR7.out.lt
        have hO7lt := hO7.out.lt
        have hF7lt := hF7.out.lt
        have hH7lt := hH7.out.lt
        go_wp2
        rw [← hw8.out]
        have hn1' : (first.length : Int) ≤ 65536 := by omega
        go_loopw [58] (fun i wr => ∃ (k : Nat) (cv : Nat → Value), k ≤ first.length ∧ i = .int .i64 k ∧ Hid (CellsA w7 wr (w7.heap.size + 1) w7.heap.size first.length first k cv)) (fun i _ => first.length - (intOf i).toNat)
        case atStart => exact ⟨0, _, Nat.zero_le _, rfl, hA0⟩
        case round =>
          obtain ⟨k, cv, hk, rfl, hA⟩ := hrel
          clear hA0 hw8 c7b c7a
          by_cases hlt : k < first.length
          ·
            as_aux_lemma =>
              have hbl := Lib.hid (hb10.out.trans (hA.out.bel.mono hws7))
              obtain ⟨A', cp', eA, hcp, hA0, hcl⟩ := hF.out
              injection eA with e1 e2 e3
              subst e1 e3
              obtain ⟨g, o, rfl, hcell⟩ := hcl k hlt
              have hgl : g < w.heap.size := block_lt_of_cell hcell
              have dk : wr.cell? ⟨g, o + k, none⟩ = some (.int .u64 (first.getD k 0)) := by
                rw [hbl.out.cell (p := ⟨g, o + k, none⟩) hgl, hcell]
              obtain ⟨x, hx⟩ : ∃ x, first.getD k 0 = x := ⟨_, rfl⟩
              rw [hx] at dk
              replace hx := Lib.hid hx
              have v0 := hA.out.vblk.cell 0
              have v1 := (hA.out.vblk.alloc (.cells #[.int .i64 0, .int .u64 x] 92)).cell 0
              simp only [List.getElem?_toArray, List.getElem?_cons_zero] at v0 v1
              obtain ⟨n0, hm0⟩ := hA.out.map
              have hm1 := Lib.hid (hm0.alloc (.cells #[.int .i64 0, .int .u64 x] 92))
              have hlt' : (k : Int) < (first.length : Int) := by omega
              clear hm0 hcl e2 hcell
              go_wp2_with (refine wpList_mapUpdate_mp _ rfl (.tmp 66) (.tmp 68) (.tmp 71) 65 rfl 35 90 .u64 Try.underlying65 Try.underlying35 w7.heap.size n0 (cmap k cv) rfl hm1.out (k : Int) (.slice (some ⟨wr.heap.size, 0, none⟩) 1 1) rfl rfl ?_; intro w9 hM9 hg9 hz9; have hA9 := Lib.hid (hA.out.step hx.out hM9 hg9); clear hM9 hg9 hz9)
              go_roundw
              case rel => exact ⟨k + 1, _, hlt, by go_num, hA9⟩
              case measure => simp [intOf]; omega
          · have hkk : k = first.length := by omega
            subst hkk
            have hV := hA.out.done #[.int .i64 0, .bool false, .slice none 0 0, .int .i64 0, .bool false, .slice none 0 0, .int .i64 0, .bool false, .slice none 0 0, .int .i64 0, .bool false, .slice none 0 0, .int .i64 0, .bool false, .slice none 0 0, .int .i64 0, .bool false, .slice none 0 0, .int .i64 0, .bool false, .slice none 0 0, .int .i64 0, .bool false, .slice none 0 0] (by kernel_rfl)
            have hbl := Lib.hid (hb10.out.trans (hA.out.bel.mono hws7))
            have hblA := hA.out.bel
            have hFr := (hF7.out.below hblA hF7lt).alloc (.cells #[.int .i64 0, .bool false, .slice none 0 0, .int .i64 0, .bool false, .slice none 0 0, .int .i64 0, .bool false, .slice none 0 0, .int .i64 0, .bool false, .slice none 0 0, .int .i64 0, .bool false, .slice none 0 0, .int .i64 0, .bool false, .slice none 0 0, .int .i64 0, .bool false, .slice none 0 0, .int .i64 0, .bool false, .slice none 0 0] 103)
            have hHr := Lib.hid ((hH7.out.below hblA hH7lt).alloc (.cells #[.int .i64 0, .bool false, .slice none 0 0, .int .i64 0, .bool false, .slice none 0 0, .int .i64 0, .bool false, .slice none 0 0, .int .i64 0, .bool false, .slice none 0 0, .int .i64 0, .bool false, .slice none 0 0, .int .i64 0, .bool false, .slice none 0 0, .int .i64 0, .bool false, .slice none 0 0, .int .i64 0, .bool false, .slice none 0 0] 103))
            have hRr := Lib.hid ((hR7.out.below hblA hR7lt).alloc (.cells #[.int .i64 0, .bool false, .slice none 0 0, .int .i64 0, .bool false, .slice none 0 0, .int .i64 0, .bool false, .slice none 0 0, .int .i64 0, .bool false, .slice none 0 0, .int .i64 0, .bool false, .slice none 0 0, .int .i64 0, .bool false, .slice none 0 0, .int .i64 0, .bool false, .slice none 0 0, .int .i64 0, .bool false, .slice none 0 0] 103))
            have hOr := Lib.hid ((hO7.out.below hblA hO7lt).alloc (.cells #[.int .i64 0, .bool false, .slice none 0 0, .int .i64 0, .bool false, .slice none 0 0, .int .i64 0, .bool false, .slice none 0 0, .int .i64 0, .bool false, .slice none 0 0, .int .i64 0, .bool false, .slice none 0 0, .int .i64 0, .bool false, .slice none 0 0, .int .i64 0, .bool false, .slice none 0 0, .int .i64 0, .bool false, .slice none 0 0] 103))
            have hSr := Lib.hid ((hS7.out.keep (fun k hk => hblA.block k (hS7.out.lt k hk))).alloc (.cells #[.int .i64 0, .bool false, .slice none 0 0, .int .i64 0, .bool false, .slice none 0 0, .int .i64 0, .bool false, .slice none 0 0, .int .i64 0, .bool false, .slice none 0 0, .int .i64 0, .bool false, .slice none 0 0, .int .i64 0, .bool false, .slice none 0 0, .int .i64 0, .bool false, .slice none 0 0, .int .i64 0, .bool false, .slice none 0 0] 103))
            have hbl2 := Lib.hid (hbl.out.alloc hbl.out.size (.cells #[.int .i64 0, .bool false, .slice none 0 0, .int .i64 0, .bool false, .slice none 0 0, .int .i64 0, .bool false, .slice none 0 0, .int .i64 0, .bool false, .slice none 0 0, .int .i64 0, .bool false, .slice none 0 0, .int .i64 0, .bool false, .slice none 0 0, .int .i64 0, .bool false, .slice none 0 0, .int .i64 0, .bool false, .slice none 0 0] 103))
            have hst : wr.heap.size < (wr.alloc (.cells #[.int .i64 0, .bool false, .slice none 0 0, .int .i64 0, .bool false, .slice none 0 0, .int .i64 0, .bool false, .slice none 0 0, .int .i64 0, .bool false, .slice none 0 0, .int .i64 0, .bool false, .slice none 0 0, .int .i64 0, .bool false, .slice none 0 0, .int .i64 0, .bool false, .slice none 0 0, .int .i64 0, .bool false, .slice none 0 0] 103)).heap.size := by simp
            have hs7r := hblA.size
            have h7 := hHr.out.cell 0
            simp only [List.getElem?_toArray, List.getElem?_cons_zero] at h7
            obtain ⟨wB, hwB⟩ : ∃ wB, wB = wr.alloc (.cells #[.int .i64 0, .bool false, .slice none 0 0, .int .i64 0, .bool false, .slice none 0 0, .int .i64 0, .bool false, .slice none 0 0, .int .i64 0, .bool false, .slice none 0 0, .int .i64 0, .bool false, .slice none 0 0, .int .i64 0, .bool false, .slice none 0 0, .int .i64 0, .bool false, .slice none 0 0, .int .i64 0, .bool false, .slice none 0 0] 103) := ⟨_, rfl⟩
            rw [← hwB] at hV hFr hHr hRr hOr hSr hbl2 hst
            replace hwB := Lib.hid hwB
            replace hV := Lib.hid hV
            replace hFr := Lib.hid hFr
            have hblB : Hid (Below w7.heap.size w7 wB) := Lib.hid (by rw [hwB.out]; exact hblA.alloc hblA.size _)
            clear hblA hbl hA
            go_wp2
            rw [← hwB.out]
            have hlenI : (l.length : Int) ≤ 9223372036854775807 := by obtain ⟨_, _, _, _, _, _, h, _⟩ := hL.out; omega
            have hpl := Lib.hid hi.out
            have hVW0 : Hid (VwW w7.heap.size wB (w7.heap.size + 1) wr.heap.size w7.heap.size (vn first (rn l l.length).tries l 0) first.length (fun _ => .slice none 0 0) cv (.slice none 0 0)) := hV
            have hbB : Hid (Below w7.heap.size w7 wB) := Lib.hid hblB.out
            obtain ⟨nb, hnb⟩ : ∃ nb, nb = wr.heap.size := ⟨_, rfl⟩
            rw [← hnb] at hVW0 ⊢
            replace hnb := Lib.hid hnb
            clear hV h7 c7 hFr hHr hRr hOr hSr hbl2 hst hmm
            go_loopw [15, 75] (fun nx i wr => ∃ (k : Nat) (fv cv : Nat → Value) (sv : Value), k ≤ l.length ∧ nx = .int .i64 ((vn first (rn l l.length).tries l k).next : Nat) ∧ i = .int .i64 k ∧ Hid (VwW w7.heap.size wr (w7.heap.size + 1) nb w7.heap.size (vn first (rn l l.length).tries l k) first.length fv cv sv) ∧ Hid (VI (vn first (rn l l.length).tries l k) (rn l k) k first.length) ∧ Hid (Below w7.heap.size w7 wr)) (fun _ i _ => l.length - (intOf i).toNat)
            case atStart => exact ⟨0, _, cv, _, Nat.zero_le _, rfl, rfl, hVW0, Lib.hid (VI.start first first.length), hbB⟩
            case round =>
              obtain ⟨k, fv, cv1, sv, hk, rfl, rfl, hV, hVI, hbr⟩ := hrel
              clear hVW0 hbB
              by_cases hlt : k < l.length
              · have hbw := Lib.hid (hb10.out.trans (hbr.out.mono hws7))
                obtain ⟨A', cp', eA, hcp, hA0, hwf, hl48, hcl⟩ := hL.out.below hbw.out (Nat.le_refl _)
                injection eA with e1 e2 e3
                subst e1 e3
                have hewf := hwf _ (List.getElem_mem hlt)
                have hev : Hid (evAt l k = l[k]) := Lib.hid (by unfold evAt; rw [List.getD_eq_getElem?_getD, List.getElem?_eq_getElem hlt]; rfl)
                have hinv := inv_rn hwf hk (fun j hj => hok j (by omega))
                have hw0 : wrong (rn l k) l[k] = 0 := by rw [← hev.out]; exact hok k hlt
                have hVI1 : Hid (VI (vEv (rn l l.length).tries (vn first (rn l l.length).tries l k) l[k]) (take (rn l k) k l[k]) (k + 1) first.length) := Lib.hid (VI.ev hVI.out hw0 hinv (idxE_neg (by have := hi.out; omega) hlt) (idxE_neg (by have := hi2.out; omega) hlt) hewf)
                have hrd : Hid (l[k].kd = 2 → ((vn first (rn l l.length).tries l k).now l[k].th.toNat).tri < (vn first (rn l l.length).tries l k).sights.length) := Lib.hid (fun h2 => VI.reads hVI.out hw0 hinv h2)
                have htl : Hid (l[k].kd = 1 → (vn first (rn l l.length).tries l k).next < (rn l l.length).tries.length) := Lib.hid (fun h1 => by rw [hVI.out.nx]; exact rn_tries_lt hlt (by rw [hev.out]; exact h1))
                have hsl : Hid (((vn first (rn l l.length).tries l k).sights.length + 1) * 96 ≤ 140737488355328) := Lib.hid (by
                  have h1 := hinv.two
                  have h2 := lives_le (rn l k)
                  have h3 := hsz.out
                  rw [hVI.out.sl, hVI.out.nx]
                  omega)
                have hTI : ((rn l l.length).tries.length : Int) ≤ 9223372036854775807 := by
                  have h1 := (inv_rn hwf (Nat.le_refl _) (fun j hj => hok j hj)).two
                  have h2 := lives_le (rn l l.length)
                  have h3 := hsz.out
                  omega
                have hk16 : Hid ((k + 1) * 16 ≤ 140737488355328) := Lib.hid (by have h3 := hsz.out; omega)
                obtain ⟨hfm, -, -⟩ := wrong_zero hw0
                obtain ⟨⟨h0, h8⟩, k1, k12⟩ := fmd_bd hfm
                have hsucc : Hid (vn first (rn l l.length).tries l (k + 1) = vTl (vEv (rn l l.length).tries (vn first (rn l l.length).tries l k) l[k]) k l[k]) := Lib.hid (by show vTl (vEv _ _ (evAt l k)) k (evAt l k) = _; rw [hev.out])
                have hrns : Hid (rn l (k + 1) = take (rn l k) k l[k]) := Lib.hid (by show take (rn l k) k (evAt l k) = _; rw [hev.out])
                obtain ⟨g, o, rfl, hg, hc⟩ := hcl k hlt
                generalize l[k] = e at *
                generalize vn first (rn l l.length).tries l k = v at *
                have d0 := hc 0 (by decide)
                have d1 := hc 1 (by decide)
                have d2 := hc 2 (by decide)
                have d3 := hc 3 (by decide)
                have d4 := hc 4 (by decide)
                have d5 := hc 5 (by decide)
                obtain ⟨th, kd, ad, wd, ow, er⟩ := e
                simp only [encV, List.getElem?_cons_zero, List.getElem?_cons_succ, Nat.add_zero] at d0 d1 d2 d3 d4 d5
                dsimp only at h0 h8 k1 k12 hrd htl
                obtain ⟨t, rfl⟩ := Int.eq_ofNat_of_zero_le h0
                rw [Int.toNat_natCast] at hrd
                have ht : t < 8 := by omega
                have ht8 : (t : Int) < 8 := h8
                have hVE := Lib.hid (hV.out.alloc (.cells #[.int .i64 t, .int .i64 kd, .int .u64 ad, .int .u64 wd, .bool ow, .int .i64 er] 61))
                have hEE := Lib.hid (Blk.new wr 61 #[.int .i64 t, .int .i64 kd, .int .u64 ad, .int .u64 wd, .bool ow, .int .i64 er])
                have hbE := Lib.hid (hbr.out.alloc hbr.out.size (.cells #[.int .i64 t, .int .i64 kd, .int .u64 ad, .int .u64 wd, .bool ow, .int .i64 er] 61))
                have hlt' : (k : Int) < (l.length : Int) := by omega
                have hwr7 := hbr.out.size
                clear hcl hc hwf hinv hewf hl48 e2 hcp hA0 hg hw0 hfm hev hbw hV hbr
                replace k1 := Lib.hid k1
                replace k12 := Lib.hid k12
                go_upto_block 4 with (fail)
                go_cut [15] (fun c15 wx => c15 = .int .i64 ((vEv (rn l l.length).tries v ⟨t, kd, ad, wd, ow, er⟩).next : Nat) ∧ Hid (∃ fv cv sv, VwW w7.heap.size wx (w7.heap.size + 1) nb w7.heap.size (vEv (rn l l.length).tries v ⟨t, kd, ad, wd, ow, er⟩) first.length fv cv sv) ∧ Hid (Blk wx wr.heap.size 61 #[.int .i64 t, .int .i64 kd, .int .u64 ad, .int .u64 wd, .bool ow, .int .i64 er]) ∧ Hid (Below w7.heap.size w7 wx))
                case first =>
                  have q0 := hVE.out.n0 ht
                  have q1 := hVE.out.n1 ht
                  have q2 := hVE.out.n2 ht
                  have c0 := hVE.out.c0
                  have c2 := hVE.out.c2
                  have c3 := hVE.out.c3
                  have e0 := (hEE.out.cell 0).trans (show _ = some (.int .i64 t) from rfl)
                  have e2 := (hEE.out.cell 2).trans (show _ = some (.int .u64 ad) from rfl)
                  have e3 := (hEE.out.cell 3).trans (show _ = some (.int .u64 wd) from rfl)
                  have e4 := (hEE.out.cell 4).trans (show _ = some (.bool ow) from rfl)
                  clear d0 d1 d2 d3 d4 d5 hVI1 hsucc hrns
                  obtain ⟨wE, hwE⟩ : ∃ wE, wE = wr.alloc (.cells #[.int .i64 t, .int .i64 kd, .int .u64 ad, .int .u64 wd, .bool ow, .int .i64 er] 61) := ⟨_, rfl⟩
                  rw [← hwE] at hVE hEE hbE q0 q1 q2 c0 c2 c3 e0 e2 e3 e4 ⊢
                  have hsE : wr.heap.size < wE.heap.size := by rw [hwE]; simp
                  have hsE1 : w7.heap.size ≤ wE.heap.size := hbE.out.size
                  replace hwE := Lib.hid hwE
                  by_cases g1 : kd = 1
                  ·
                    subst g1
                    have hnt := htl.out rfl
                    have hnt' : (v.next : Int) < ((rn l l.length).tries.length : Int) := by omega
                    obtain ⟨x, hx⟩ : ∃ x, x = (rn l l.length).tries[v.next]'hnt := ⟨_, rfl⟩
                    have hxD : (rn l l.length).tries.getD v.next Tr.zero = x := by rw [hx, List.getD_eq_getElem?_getD, List.getElem?_eq_getElem hnt]; rfl
                    have hv : Hid (vEv (rn l l.length).tries v ⟨t, 1, ad, wd, ow, er⟩ = ⟨upd v.now t ⟨v.next, false, []⟩, v.cells, v.commits, v.sights ++ [⟨x, [], v.commits, 0⟩], v.next + 1⟩) := Lib.hid (by rw [← hxD]; unfold vEv; simp)
                    have hfz0 := hVE.out.nblk.frozen (t * 3)
                    have hfz1 := hVE.out.nblk.frozen (t * 3 + 1)
                    have hfz2 := hVE.out.nblk.frozen (t * 3 + 2)
                    have hV0 := hVE.out.begin3 hsE1 ht v.next
                    have hne := (hVE.out.nblk.ne_ hEE.out (by decide)).symm
                    have hE0 := ((hEE.out.far (p := ⟨nb, t * 3, none⟩) hne (.int .i64 v.next)).far (p := ⟨nb, t * 3 + 1, none⟩) hne (.bool false)).far (p := ⟨nb, t * 3 + 2, none⟩) hne (.slice none 0 0)
                    have hB0 := ((hbE.out.setCell (p := ⟨nb, t * 3, none⟩) hVE.out.gen (.int .i64 v.next)).setCell (p := ⟨nb, t * 3 + 1, none⟩) hVE.out.gen (.bool false)).setCell (p := ⟨nb, t * 3 + 2, none⟩) hVE.out.gen (.slice none 0 0)
                    obtain ⟨wS, hwS⟩ : ∃ wS, wS = ((wE.setCell ⟨nb, t * 3, none⟩ (.int .i64 v.next)).setCell ⟨nb, t * 3 + 1, none⟩ (.bool false)).setCell ⟨nb, t * 3 + 2, none⟩ (.slice none 0 0) := ⟨_, rfl⟩
                    rw [← hwS] at hV0 hE0 hB0
                    replace hwS := Lib.hid hwS
                    have hTS := hS7.out.keep (w' := wS) (fun k hk => hB0.block k (hS7.out.lt k hk))
                    obtain ⟨A7, cap7, htv, hc7⟩ := hTS.shape
                    subst htv
                    obtain ⟨gt, ot, hA7, hgt, hT⟩ := Sl.cell encT_len (by decide) hTS (i := v.next) hnt
                    subst hA7
                    have hT0 : wS.cell? ⟨gt, ot + v.next * 7, none⟩ = some (.int .i64 x.th) := by rw [hx]; exact (hT v.next hnt 0 (by decide)).1.trans rfl
                    have hT1 : wS.cell? ⟨gt, ot + v.next * 7 + 1, none⟩ = some (.int .i64 x.first) := by rw [hx, Nat.add_assoc]; exact (hT v.next hnt 1 (by decide)).1.trans rfl
                    have hT2 : wS.cell? ⟨gt, ot + v.next * 7 + 2, none⟩ = some (.int .i64 x.last) := by rw [hx, Nat.add_assoc]; exact (hT v.next hnt 2 (by decide)).1.trans rfl
                    have hT3 : wS.cell? ⟨gt, ot + v.next * 7 + 3, none⟩ = some (.int .u64 x.sn) := by rw [hx, Nat.add_assoc]; exact (hT v.next hnt 3 (by decide)).1.trans rfl
                    have hT4 : wS.cell? ⟨gt, ot + v.next * 7 + 4, none⟩ = some (.int .i64 x.how) := by rw [hx, Nat.add_assoc]; exact (hT v.next hnt 4 (by decide)).1.trans rfl
                    have hT5 : wS.cell? ⟨gt, ot + v.next * 7 + 5, none⟩ = some (.int .i64 x.rd) := by rw [hx, Nat.add_assoc]; exact (hT v.next hnt 5 (by decide)).1.trans rfl
                    have hT6 : wS.cell? ⟨gt, ot + v.next * 7 + 6, none⟩ = some (.int .i64 x.wr) := by rw [hx, Nat.add_assoc]; exact (hT v.next hnt 6 (by decide)).1.trans rfl
                    have c3S := hV0.c3
                    have c2S := hV0.c2
                    dsimp only at c2S
                    have hsS : w7.heap.size ≤ wS.heap.size := hB0.size
                    have S1 : Hid (∀ j, (wS.drewN j).cell? ⟨w7.heap.size + 1, 3, none⟩ = some sv) := Lib.hid (fun j => c3S)
                    replace hV0 := Lib.hid hV0
                    replace hE0 := Lib.hid hE0
                    replace hB0 := Lib.hid hB0
                    replace hx := Lib.hid hx
                    clear hVI hVE hEE hbE hTS hT hxD hgt hc7 htl hne
                    go_wp2
                    rw [← hwS.out]
                    refine wp_region_mixH (fun W' => W'.cell? ⟨w7.heap.size + 1, 3, none⟩ = some sv) [3, 3, 3, 3, 0, 3, 3, 3, 1, 3, 3, 3, 1, 2, 2, 2, 3, 3, 2] (List.range 19) (by kernel_rfl) (by kernel_rfl) (fun _ _ h => h) (S1.out 1) ?_
                    (repeat (first | ((first | refine wpMixH_pure rfl rfl (fun K hK => ?_) | refine wpMixH_loc rfl rfl (fun K hK => ?_) | refine wpMixH_any rfl rfl (fun K hK => ?_)); go_simp; refine hK _ _ ?_; clear hK K) | (refine wpMixH_any rfl rfl (fun K hK => ?_); rw [if_pos (by go_simp)]; apply Exists.intro; refine And.intro (fun w2 hS2 => ?_) (hK _ _ ?_); (focus (obtain hs1 := hS2; go_simp; rfl)); clear hK K)))
                    refine wpMixH_loud rfl rfl (fun n2 K hK => ?_)
                    go_wp2
                    refine hK _ _ (fun _ => (S1.out (1 + n2))) ?_; clear hK K
                    refine wpMixH_loud rfl rfl (fun n3 K hK => ?_)
                    go_wp2
                    refine hK _ _ (fun _ => (cell_alloc_ (S1.out (1 + n2 + n3)))) ?_; clear hK K
                    refine wpMixH_loud rfl rfl (fun n4 K hK => ?_)
                    obtain ⟨wx, hwx⟩ : ∃ wx, wx = (wS.drewN (1 + n2 + n3)).drewN n4 := ⟨_, rfl⟩
                    have hsz : wx.heap.size = wS.heap.size := by rw [hwx]; rfl
                    have hVX : VwW w7.heap.size wx (w7.heap.size + 1) nb w7.heap.size ⟨upd v.now t ⟨v.next, false, []⟩, v.cells, v.commits, v.sights, v.next⟩ first.length (upd fv t (.slice none 0 0)) cv1 sv := by rw [hwx]; exact ((hV0.out.drewN _).drewN _)
                    have hEX : Blk wx wr.heap.size 61 #[.int .i64 t, .int .i64 1, .int .u64 ad, .int .u64 wd, .bool ow, .int .i64 er] := by rw [hwx]; exact ((hE0.out.drewN _).drewN _)
                    have hBX : Below w7.heap.size w7 wx := by rw [hwx]; exact below_drewNs (below_drewNs hB0.out _) _
                    rw [show ((((wS.drewN (1 + n2 + n3)).alloc (.cells #[.int .i64 x.th, .int .i64 x.first, .int .i64 x.last, .int .u64 x.sn, .int .i64 x.how, .int .i64 x.rd, .int .i64 x.wr, .slice none 0 0, .int .i64 v.commits, .int .i64 0] 70)).drewN n4)) = wx.alloc (.cells (encS ((⟨x, [], v.commits, 0⟩ : Sg), .slice none 0 0)).toArray 70) from by rw [hwx]; rfl]
                    refine wpList_sightO wx rfl (.tmp 101) (.tmp 111) rfl sv _ ((⟨x, [], v.commits, 0⟩ : Sg), .slice none 0 0) rfl rfl hVX.sights (by show Value.slice (some ⟨wS.heap.size, 0, none⟩) 1 1 = _; rw [hsz]) (by rw [withS_len]; have := hsl.out; dsimp only; omega) (by rw [withS_len]; exact hsl.out) ?_
                    intro A4 cap4 w4 hc4 hS4 hF4
                    as_aux_lemma =>
                      have hv4 := hF4.blk hVX.vblk hVX.sightsNe.1
                      have c4 : w4.cell? ⟨w7.heap.size + 1, 3, none⟩ = some sv := by simpa using hv4.cell 3
                      have fz4 := hv4.frozen 3
                      have hV4 := Lib.hid (fun j => hVX.growS (by omega) (x := ⟨x, [], v.commits, 0⟩) rfl hS4 hF4 j)
                      have hE4 := hF4.blk hEX (Sl.ne_ hVX.sights hEX (by decide))
                      have hgv : w7.heap.size ≤ w7.heap.size + 1 := by omega
                      have hE3 := Lib.hid (fun j => (hE4.drewN j).far (p := ⟨w7.heap.size + 1, 3, none⟩) (hv4.ne_ hE4 (by decide)).symm (.slice A4 ((withS v.sights (upd fv t (.slice none 0 0))).length + 1) cap4))
                      have hb3 := Lib.hid (fun j => (below_drewNs (hBX.trans (hF4.below (fun k hk => hVX.ges k hk) (by omega))) j).setCell (p := ⟨w7.heap.size + 1, 3, none⟩) hgv (.slice A4 ((withS v.sights (upd fv t (.slice none 0 0))).length + 1) cap4))
                      dsimp only at hV4 hS4
                      clear hv4 hE4 hS4 hF4 hVX hEX hBX hV0 hE0 hB0 hgv
                      replace hwx := Lib.hid hwx
                      replace hsz := Lib.hid hsz
                      go_wp2
                      refine hK _ _ (fun _ => c4) ?_; clear hK K
                      (repeat (first | ((first | refine wpMixH_pure rfl rfl (fun K hK => ?_) | refine wpMixH_loc rfl rfl (fun K hK => ?_) | refine wpMixH_any rfl rfl (fun K hK => ?_)); go_simp; refine hK _ _ ?_; clear hK K) | (refine wpMixH_any rfl rfl (fun K hK => ?_); rw [if_pos (by go_simp)]; apply Exists.intro; refine And.intro (fun w2 hS2 => ?_) (hK _ _ ?_); (focus (obtain hs1 := hS2; go_simp; rfl)); clear hK K)))
                      refine wpMixH_loud rfl rfl (fun n5 K hK => ?_)
                      go_wp2
                      refine hK _ _ (fun h => (Bool.false_ne_true ((Eq.symm (by kernel_rfl)).trans h)).elim) ?_; clear hK K
                      refine wpMixH_nil (fun n6 => ?_)
                      go_wp2
                      all_goals go_meet
                      all_goals exact ⟨by rw [hv.out]; simp, Lib.hid ⟨_, cv1, _, by rw [hv.out]; exact ((hV4.out _).drewN _).nx (v.next + 1)⟩, Lib.hid ((hE3.out _).drewN _), Lib.hid (below_drewNs (hb3.out _) _)⟩
                  by_cases g2 : kd = 2
                  ·
                    subst g2
                    rcases (show ow = true ∨ ow = false by cases ow <;> simp) with rfl | rfl
                    ·
                      as_aux_lemma =>
                        have hv : Hid (vEv (rn l l.length).tries v ⟨t, 2, ad, wd, true, er⟩ = v) := Lib.hid (by unfold vEv; simp)
                        go_wp2
                        all_goals go_meet
                        all_goals exact ⟨by rw [hv.out], Lib.hid ⟨fv, cv1, sv, by rw [hv.out]; exact hVE.out⟩, hEE, hbE⟩
                    ·
                      have hq : (v.now t).tri < v.sights.length := hrd.out rfl
                      have hq' : ((v.now t).tri : Int) < v.sights.length := by omega
                      obtain ⟨A2, cap2, hsv, hcap2, hA2⟩ := hVE.out.svs
                      obtain ⟨g2, o2, hA3⟩ := hA2 (by omega)
                      subst hA3
                      subst hsv
                      have hv : Hid (vEv (rn l l.length).tries v ⟨t, 2, ad, wd, false, er⟩ = ⟨v.now, v.cells, v.commits, v.sights.set (v.now t).tri ⟨(v.sights[(v.now t).tri]'hq).tr, (v.sights[(v.now t).tri]'hq).reads ++ [(ad, wd)], (v.sights[(v.now t).tri]'hq).fr, (v.sights[(v.now t).tri]'hq).upto⟩, v.next⟩) := Lib.hid (by rw [← sg_get hq]; unfold vEv; simp)
                      have hwl : Hid (((v.sights[(v.now t).tri]'hq).reads.length + 1) * 16 ≤ 140737488355328) := Lib.hid (by have h1 := hVI.out.rd _ (List.getElem_mem hq); have h2 := hk16.out; omega)
                      have x7 : wE.cell? ⟨g2, o2 + (v.now t).tri * 10 + 7, none⟩ = some (fv (8 + (v.now t).tri)) := by rw [Nat.add_assoc]; exact ((hVE.out.sx hq (j := 7) (by decide)).1.trans rfl)
                      have S1 : Hid (∀ j, (wE.drewN j).cell? ⟨w7.heap.size + 1, 3, none⟩ = some (.slice (some ⟨g2, o2, none⟩) v.sights.length cap2) ∧ (wE.drewN j).cell? ⟨nb, t * 3, none⟩ = some (.int .i64 (v.now t).tri) ∧ (wE.drewN j).cell? ⟨g2, o2 + (v.now t).tri * 10 + 7, none⟩ = some (fv (8 + (v.now t).tri))) := Lib.hid (fun j => ⟨c3, q0, x7⟩)
                      have S2 : Hid (∀ j, ((wE.drewN j).alloc (.cells #[.int .u64 ad, .int .u64 wd] 45)).cell? ⟨w7.heap.size + 1, 3, none⟩ = some (.slice (some ⟨g2, o2, none⟩) v.sights.length cap2) ∧ ((wE.drewN j).alloc (.cells #[.int .u64 ad, .int .u64 wd] 45)).cell? ⟨nb, t * 3, none⟩ = some (.int .i64 (v.now t).tri) ∧ ((wE.drewN j).alloc (.cells #[.int .u64 ad, .int .u64 wd] 45)).cell? ⟨g2, o2 + (v.now t).tri * 10 + 7, none⟩ = some (fv (8 + (v.now t).tri))) := Lib.hid (fun j => ⟨cell_alloc_ c3, cell_alloc_ q0, cell_alloc_ x7⟩)
                      clear hVI
                      go_wp2
                      refine wp_region_mixH (fun W' => W'.cell? ⟨w7.heap.size + 1, 3, none⟩ = some (.slice (some ⟨g2, o2, none⟩) v.sights.length cap2) ∧ W'.cell? ⟨nb, t * 3, none⟩ = some (.int .i64 (v.now t).tri) ∧ W'.cell? ⟨g2, o2 + (v.now t).tri * 10 + 7, none⟩ = some (fv (8 + (v.now t).tri))) [3, 3, 3, 0, 3, 3, 3, 0, 3, 3, 3, 0, 3, 3, 3, 0, 3, 3, 0, 3, 1, 3, 1, 2, 2, 2, 3, 3, 2] (List.range 29) (by kernel_rfl) (by kernel_rfl) (fun _ _ h => h) (S1.out 1) ?_
                      as_aux_lemma =>
                        (repeat (first | ((first | refine wpMixH_pure rfl rfl (fun K hK => ?_) | refine wpMixH_loc rfl rfl (fun K hK => ?_) | refine wpMixH_any rfl rfl (fun K hK => ?_)); go_simp; refine hK _ _ ?_; clear hK K) | (refine wpMixH_any rfl rfl (fun K hK => ?_); rw [if_pos (by go_simp)]; apply Exists.intro; refine And.intro (fun w2 hS2 => ?_) (hK _ _ ?_); (focus (obtain ⟨hs1, hs2, hs3⟩ := hS2; go_simp; rfl)); clear hK K)))
                        refine wpMixH_loud rfl rfl (fun n2 K hK => ?_)
                        go_wp2
                        refine hK _ _ (fun _ => (S1.out (1 + n2))) ?_; clear hK K
                        refine wpMixH_loud rfl rfl (fun n3 K hK => ?_)
                        go_wp2
                        refine hK _ _ (fun _ => (S2.out (1 + n2 + n3))) ?_; clear hK K
                        refine wpMixH_loud rfl rfl (fun n4 K hK => ?_)
                        obtain ⟨wx, hwx⟩ : ∃ wx, wx = (wE.drewN (1 + n2 + n3)).drewN n4 := ⟨_, rfl⟩
                        have hsz : wx.heap.size = wE.heap.size := by rw [hwx]; rfl
                        have hVX : VwW w7.heap.size wx (w7.heap.size + 1) nb w7.heap.size v first.length fv cv1 (.slice (some ⟨g2, o2, none⟩) v.sights.length cap2) := by rw [hwx]; exact ((hVE.out.drewN _).drewN _)
                        have hEX : Blk wx wr.heap.size 61 #[.int .i64 t, .int .i64 2, .int .u64 ad, .int .u64 wd, .bool false, .int .i64 er] := by rw [hwx]; exact ((hEE.out.drewN _).drewN _)
                        have hBX : Below w7.heap.size w7 wx := by rw [hwx]; exact below_drewNs (below_drewNs hbE.out _) _
                        have hi8 : 8 + (v.now t).tri < 8 + v.sights.length := by omega
                        have hSX : Sl 45 2 encC wx (fv (8 + (v.now t).tri)) (v.sights[(v.now t).tri]'hq).reads := by
                          have := hVX.fam (8 + (v.now t).tri) hi8
                          unfold content at this
                          rwa [if_neg (by omega), show 8 + (v.now t).tri - 8 = (v.now t).tri by omega, sg_get hq] at this
                        rw [show ((((wE.drewN (1 + n2 + n3)).alloc (.cells #[.int .u64 ad, .int .u64 wd] 45)).drewN n4)) = wx.alloc (.cells #[.int .u64 ad, .int .u64 wd] 45) from by rw [hwx]; rfl]
                        refine wpList_cellO wx rfl (.tmp 140) (.tmp 146) rfl (fv (8 + (v.now t).tri)) (v.sights[(v.now t).tri]'hq).reads (ad, wd) rfl hSX (by show Value.slice (some ⟨wE.heap.size, 0, none⟩) 1 1 = _; rw [hsz]) (by have := hwl.out; omega) hwl.out ?_
                        intro A4 cap4 w4 hc4 hS4 hF4
                        have hN4 := hVX.famNe hi8
                        have hb4 := hF4.blk hVX.nblk hN4.2.1
                        have hv4 := hF4.blk hVX.vblk hN4.1
                        have hs4 := hVX.sights.fr hF4 fun k hk => sl_apart hVX.sights (hVX.fam _ hi8) (by decide) hk
                        have S4 : w4.cell? ⟨w7.heap.size + 1, 3, none⟩ = some (.slice (some ⟨g2, o2, none⟩) v.sights.length cap2) ∧ w4.cell? ⟨nb, t * 3, none⟩ = some (.int .i64 (v.now t).tri) ∧ w4.cell? ⟨g2, o2 + (v.now t).tri * 10 + 7, none⟩ = some (fv (8 + (v.now t).tri)) := by
                          refine ⟨by simpa using hv4.cell 3, ?_, ?_⟩
                          · rw [hb4.fcell (i := t * 3) (by omega)]; simp [gN]
                          · rw [Nat.add_assoc]; exact ((sl_sx hs4 hq (j := 7) (by decide)).1.trans rfl)
                        have c4 := S4.2.2
                        have fz4 : w4.frozen? ⟨g2, o2 + (v.now t).tri * 10 + 7, none⟩ = false := by rw [Nat.add_assoc]; exact (sl_sx hs4 hq (j := 7) (by decide)).2
                        have hV3 := Lib.hid (fun j => hVX.growR (by omega) hq hS4 hF4 j)
                        have hE4 := hF4.blk hEX (Sl.ne_ hSX hEX (by decide))
                        have hgB : w7.heap.size ≤ g2 := hVX.ges g2 (by simp [own, Value.ownBlock])
                        have hge : g2 ≠ wr.heap.size := fun e => Sl.ne_ hs4 hE4 (by decide) (by simp [own, Value.ownBlock, e])
                        have hE3 := Lib.hid (fun j => (hE4.drewN j).far (p := ⟨g2, o2 + (v.now t).tri * 10 + 7, none⟩) hge.symm (.slice A4 ((v.sights[(v.now t).tri]'hq).reads.length + 1) cap4))
                        have hb3 := Lib.hid (fun j => (below_drewNs (hBX.trans (hF4.below (fun k hk => hVX.gef _ hi8 k hk) (by omega))) j).setCell (p := ⟨g2, o2 + (v.now t).tri * 10 + 7, none⟩) hgB (.slice A4 ((v.sights[(v.now t).tri]'hq).reads.length + 1) cap4))
                        clear hb4 hv4 hs4 hE4 hS4 hF4 hVX hEX hBX hSX hVE hEE hbE hN4
                        replace hwx := Lib.hid hwx
                        replace hsz := Lib.hid hsz
                        go_wp2
                        refine hK _ _ (fun _ => S4) ?_; clear hK K
                        (repeat (first | ((first | refine wpMixH_pure rfl rfl (fun K hK => ?_) | refine wpMixH_loc rfl rfl (fun K hK => ?_) | refine wpMixH_any rfl rfl (fun K hK => ?_)); go_simp; refine hK _ _ ?_; clear hK K) | (refine wpMixH_any rfl rfl (fun K hK => ?_); rw [if_pos (by go_simp)]; apply Exists.intro; refine And.intro (fun w2 hS2 => ?_) (hK _ _ ?_); (focus (obtain ⟨hs1, hs2, hs3⟩ := hS2; go_simp; rfl)); clear hK K)))
                        refine wpMixH_loud rfl rfl (fun n5 K hK => ?_)
                        go_wp2
                        refine hK _ _ (fun h => (Bool.false_ne_true ((Eq.symm (by kernel_rfl)).trans h)).elim) ?_; clear hK K
                        refine wpMixH_nil (fun n6 => ?_)
                        go_wp2
                        all_goals go_meet
                        all_goals exact ⟨by rw [hv.out], Lib.hid ⟨_, cv1, _, by rw [hv.out]; exact (hV3.out _).drewN _⟩, Lib.hid ((hE3.out _).drewN _), Lib.hid (below_drewNs (hb3.out _) _)⟩
                  by_cases g3 : kd = 3
                  ·
                    subst g3
                    have hv : Hid (vEv (rn l l.length).tries v ⟨t, 3, ad, wd, ow, er⟩ = ⟨upd v.now t ⟨(v.now t).tri, (v.now t).lk, (v.now t).ws ++ [(ad, wd)]⟩, v.cells, v.commits, v.sights, v.next⟩) := Lib.hid (by unfold vEv; simp)
                    have hwl : Hid (((v.now t).ws.length + 1) * 16 ≤ 140737488355328) := Lib.hid (by have h1 := (hVI.out.ws t ht).2; have h2 := hk16.out; omega)
                    have S1 : Hid (∀ j, (wE.drewN j).cell? ⟨nb, t * 3 + 2, none⟩ = some (fv t)) := Lib.hid (fun j => q2)
                    clear hVI
                    go_wp2
                    refine wp_region_mixH (fun W' => W'.cell? ⟨nb, t * 3 + 2, none⟩ = some (fv t)) [3, 3, 3, 3, 0, 3, 1, 3, 1, 2, 2, 2, 3, 3, 2] (List.range 15) (by kernel_rfl) (by kernel_rfl) (fun _ _ h => h) (S1.out 1) ?_
                    as_aux_lemma =>
                      (repeat (first | ((first | refine wpMixH_pure rfl rfl (fun K hK => ?_) | refine wpMixH_loc rfl rfl (fun K hK => ?_) | refine wpMixH_any rfl rfl (fun K hK => ?_)); go_simp; refine hK _ _ ?_; clear hK K) | (refine wpMixH_any rfl rfl (fun K hK => ?_); rw [if_pos (by go_simp)]; apply Exists.intro; refine And.intro (fun w2 hS2 => ?_) (hK _ _ ?_); (focus (obtain hs1 := hS2; go_simp; rfl)); clear hK K)))
                      refine wpMixH_loud rfl rfl (fun n2 K hK => ?_)
                      go_wp2
                      refine hK _ _ (fun _ => (S1.out (1 + n2))) ?_; clear hK K
                      refine wpMixH_loud rfl rfl (fun n3 K hK => ?_)
                      go_wp2
                      refine hK _ _ (fun _ => (cell_alloc_ (S1.out (1 + n2 + n3)))) ?_; clear hK K
                      refine wpMixH_loud rfl rfl (fun n4 K hK => ?_)
                      obtain ⟨wx, hwx⟩ : ∃ wx, wx = (wE.drewN (1 + n2 + n3)).drewN n4 := ⟨_, rfl⟩
                      have hsz : wx.heap.size = wE.heap.size := by rw [hwx]; rfl
                      have hVX : VwW w7.heap.size wx (w7.heap.size + 1) nb w7.heap.size v first.length fv cv1 sv := by rw [hwx]; exact ((hVE.out.drewN _).drewN _)
                      have hEX : Blk wx wr.heap.size 61 #[.int .i64 t, .int .i64 3, .int .u64 ad, .int .u64 wd, .bool ow, .int .i64 er] := by rw [hwx]; exact ((hEE.out.drewN _).drewN _)
                      have hBX : Below w7.heap.size w7 wx := by rw [hwx]; exact below_drewNs (below_drewNs hbE.out _) _
                      have hSX : Sl 45 2 encC wx (fv t) (v.now t).ws := by have := hVX.fam t (by omega); unfold content at this; rwa [if_pos ht] at this
                      rw [show ((((wE.drewN (1 + n2 + n3)).alloc (.cells #[.int .u64 ad, .int .u64 wd] 45)).drewN n4)) = wx.alloc (.cells #[.int .u64 ad, .int .u64 wd] 45) from by rw [hwx]; rfl]
                      refine wpList_cellO wx rfl (.tmp 156) (.tmp 162) rfl (fv t) (v.now t).ws (ad, wd) rfl hSX (by show Value.slice (some ⟨wE.heap.size, 0, none⟩) 1 1 = _; rw [hsz]) (by have := hwl.out; omega) hwl.out ?_
                      intro A4 cap4 w4 hc4 hS4 hF4
                      have hb4 := hF4.blk hVX.nblk (hVX.famNe (by omega)).2.1
                      have c4 : w4.cell? ⟨nb, t * 3 + 2, none⟩ = some (fv t) := by
                        rw [hb4.fcell (i := t * 3 + 2) (by omega)]
                        unfold gN
                        rw [if_neg (by omega), if_neg (by omega), show (t * 3 + 2) / 3 = t by omega]
                      have fz4 := hb4.frozen (t * 3 + 2)
                      have hV3 := Lib.hid (fun j => hVX.growW (by omega) ht hS4 hF4 j)
                      have hE4 := hF4.blk hEX (Sl.ne_ hSX hEX (by decide))
                      have hE3 := Lib.hid (fun j => (hE4.drewN j).far (p := ⟨nb, t * 3 + 2, none⟩) (hb4.ne_ hE4 (by decide)).symm (.slice A4 ((v.now t).ws.length + 1) cap4))
                      have hb3 := Lib.hid (fun j => (below_drewNs (hBX.trans (hF4.below (fun k hk => hVX.gef t (by omega) k hk) (by omega))) j).setCell (p := ⟨nb, t * 3 + 2, none⟩) hVX.gen (.slice A4 ((v.now t).ws.length + 1) cap4))
                      clear hb4 hE4 hS4 hF4 hVX hEX hBX hSX hVE hEE hbE
                      replace hwx := Lib.hid hwx
                      replace hsz := Lib.hid hsz
                      go_wp2
                      refine hK _ _ (fun _ => c4) ?_; clear hK K
                      (repeat (first | ((first | refine wpMixH_pure rfl rfl (fun K hK => ?_) | refine wpMixH_loc rfl rfl (fun K hK => ?_) | refine wpMixH_any rfl rfl (fun K hK => ?_)); go_simp; refine hK _ _ ?_; clear hK K) | (refine wpMixH_any rfl rfl (fun K hK => ?_); rw [if_pos (by go_simp)]; apply Exists.intro; refine And.intro (fun w2 hS2 => ?_) (hK _ _ ?_); (focus (obtain hs1 := hS2; go_simp; rfl)); clear hK K)))
                      refine wpMixH_loud rfl rfl (fun n5 K hK => ?_)
                      go_wp2
                      refine hK _ _ (fun h => (Bool.false_ne_true ((Eq.symm (by kernel_rfl)).trans h)).elim) ?_; clear hK K
                      refine wpMixH_nil (fun n6 => ?_)
                      go_wp2
                      all_goals go_meet
                      all_goals exact ⟨by rw [hv.out], Lib.hid ⟨_, cv1, sv, by rw [hv.out]; exact (hV3.out _).drewN _⟩, Lib.hid ((hE3.out _).drewN _), Lib.hid (below_drewNs (hb3.out _) _)⟩
                  by_cases g5 : kd = 5
                  ·
                    as_aux_lemma =>
                      subst g5
                      have hv : Hid (vEv (rn l l.length).tries v ⟨t, 5, ad, wd, ow, er⟩ = ⟨upd v.now t ⟨(v.now t).tri, true, (v.now t).ws⟩, v.cells, v.commits, v.sights, v.next⟩) := Lib.hid (by unfold vEv; simp)
                      have fz := hVE.out.nblk.frozen (t * 3 + 1)
                      have hV5 := Lib.hid (hVE.out.setN (k := t) (c := 1) ht (by decide) (.bool true) ⟨(v.now t).tri, true, (v.now t).ws⟩ rfl (fun d hd => by
                        have : d = 0 ∨ d = 1 := by omega
                        rcases this with rfl | rfl <;> simp))
                      have hE5 := Lib.hid (hEE.out.far (p := ⟨nb, t * 3 + 1, none⟩) (hVE.out.nblk.ne_ hEE.out (by decide)).symm (.bool true))
                      have hb5 := Lib.hid (hbE.out.setCell (p := ⟨nb, t * 3 + 1, none⟩) hVE.out.gen (.bool true))
                      go_wp2
                      all_goals go_meet
                      all_goals exact ⟨by rw [hv.out], Lib.hid ⟨fv, cv1, sv, by rw [hv.out]; exact hV5.out⟩, hE5, hb5⟩
                  by_cases g6 : kd = 6
                  ·
                    subst g6
                    rcases (show (v.now t).lk = true ∨ (v.now t).lk = false by cases (v.now t).lk <;> simp) with hlk | hlk
                    ·
                      rw [hlk] at q1
                      obtain ⟨wq, hwq⟩ : ∃ wq : World, wq = wr := ⟨_, rfl⟩
                      subst hwq
                      obtain ⟨cm, hcm⟩ : ∃ cm, cm = v.commits + 1 := ⟨_, rfl⟩
                      have hv : Hid (vEv (rn l l.length).tries v ⟨t, 6, ad, wd, ow, er⟩ = ⟨v.now, putAll v.cells cm (v.now t).ws, cm, v.sights, v.next⟩) := Lib.hid (by rw [hcm]; unfold vEv; simp [hlk])
                      have hcmk : cm ≤ k + 1 := by have := hVI.out.cm; omega
                      have hcml : (v.commits : Int) < (l.length : Int) := by have := hVI.out.cm; omega
                      have hcmi : (v.commits : Int) + 1 = (cm : Int) := by omega
                      have hws := hVI.out.ws t ht
                      have hinc := Lib.hid hVI.out.inc
                      obtain ⟨Aw, capw, hfv, hcw⟩ := (hVE.out.fam t (by omega)).shape
                      unfold content at hfv hcw
                      rw [if_pos ht] at hfv hcw
                      rw [hfv] at q2
                      obtain ⟨ws, hwse⟩ : ∃ ws, ws = (v.now t).ws := ⟨_, rfl⟩
                      rw [← hwse] at hws hfv hcw q2
                      have hv : Hid (vEv (rn l l.length).tries v ⟨t, 6, ad, wd, ow, er⟩ = ⟨v.now, putAll v.cells cm ws, cm, v.sights, v.next⟩) := Lib.hid (by rw [hwse]; exact hv.out)
                      have hwsl : (ws.length : Int) ≤ (l.length : Int) := by omega
                      have hfz2 := hVE.out.vblk.frozen 2
                      have hgv : w7.heap.size ≤ w7.heap.size + 1 := by omega
                      obtain ⟨wS, hwS⟩ : ∃ wS, wS = wE.setCell ⟨w7.heap.size + 1, 2, none⟩ (.int .i64 cm) := ⟨_, rfl⟩
                      have hV0 : VwW w7.heap.size wS (w7.heap.size + 1) nb w7.heap.size ⟨v.now, putAll v.cells cm (ws.take 0), cm, v.sights, v.next⟩ first.length fv cv1 sv := by rw [hwS]; exact hVE.out.setCommits cm
                      have hE0 : Blk wS wq.heap.size 61 #[.int .i64 t, .int .i64 6, .int .u64 ad, .int .u64 wd, .bool ow, .int .i64 er] := by rw [hwS]; exact hEE.out.far (p := ⟨w7.heap.size + 1, 2, none⟩) (hVE.out.vblk.ne_ hEE.out (by decide)).symm _
                      have hB0 : Below w7.heap.size w7 wS := by rw [hwS]; exact hbE.out.setCell (p := ⟨w7.heap.size + 1, 2, none⟩) hgv _
                      have q2S := hV0.n2 ht
                      rw [hfv] at q2S
                      replace hwS := Lib.hid hwS
                      replace hV0 := Lib.hid hV0
                      replace hE0 := Lib.hid hE0
                      replace hB0 := Lib.hid hB0
                      replace hcm := Lib.hid hcm
                      replace hwse := Lib.hid hwse
                      replace hws := Lib.hid hws
                      replace hcmk := Lib.hid hcmk
                      clear hVE hEE hbE q0 c0 c3 e0 e2 e3 e4 hVI
                      go_upto_region 38 with (fail)
                      rw [← hwS.out]
                      clear c2 q1 q2
                      go_wp2
                      go_loopw [189] (fun i wr => ∃ (j : Nat) (cv2 : Nat → Value), j ≤ ws.length ∧ i = .int .i64 j ∧ Hid (VwW w7.heap.size wr (w7.heap.size + 1) nb w7.heap.size ⟨v.now, putAll v.cells cm (ws.take j), cm, v.sights, v.next⟩ first.length fv cv2 sv) ∧ Hid (Blk wr wq.heap.size 61 #[.int .i64 t, .int .i64 6, .int .u64 ad, .int .u64 wd, .bool ow, .int .i64 er]) ∧ Hid (Below w7.heap.size w7 wr)) (fun i _ => ws.length - (intOf i).toNat)
                      case atStart => exact ⟨0, cv1, Nat.zero_le _, rfl, hV0, hE0, hB0⟩
                      case round =>
                        obtain ⟨j, cv2, hj, rfl, hVj, hEj, hBj⟩ := hrel
                        clear hV0 hE0 hB0 q2S
                        by_cases hjl : j < ws.length
                        ·
                          have hwj := hws.out.1 _ (List.getElem_mem hjl)
                          obtain ⟨y, hy⟩ : ∃ y, y = ws[j]'hjl := ⟨_, rfl⟩
                          rw [← hy] at hwj
                          obtain ⟨a0, x⟩ := y
                          dsimp only at hwj
                          obtain ⟨a, rfl⟩ := Int.eq_ofNat_of_zero_le hwj.1
                          have ha : a < first.length := by omega
                          have hput := Lib.hid (putAll_snoc v.cells cm hjl hy.symm)
                          have hSw : Sl 45 2 encC wr (.slice Aw ws.length capw) ws := by have := hVj.out.fam t (by omega); unfold content at this; rw [if_pos ht, hfv, ← hwse.out] at this; exact this
                          obtain ⟨ga, oa, hAw, hga, hcw2⟩ := Sl.cell encC_len (by decide) hSw (i := j) hjl
                          have y0 : wr.cell? ⟨ga, oa + j * 2, none⟩ = some (.int .u64 a) := (hcw2 j hjl 0 (by decide)).1.trans (by rw [← hy]; rfl)
                          have y1 : wr.cell? ⟨ga, oa + j * 2 + 1, none⟩ = some (.int .u64 x) := by rw [Nat.add_assoc]; exact (hcw2 j hjl 1 (by decide)).1.trans (by rw [← hy]; rfl)
                          subst hAw
                          have hjl' : (j : Int) < (ws.length : Int) := by omega
                          obtain ⟨lc, hlc⟩ : ∃ lc, lc = putAll v.cells cm (ws.take j) a := ⟨_, rfl⟩
                          have hinL : Inc lc cm := by rw [hlc]; exact putAll_inc (Nat.le_refl cm) (fun b hb => (hinc.out b hb).mono (by have := hcm.out; omega)) a ha
                          have hlcl := hinL.len
                          obtain ⟨m, hm⟩ : ∃ m, lc.length = m + 1 := ⟨lc.length - 1, by have := List.length_pos_iff.2 hinL.ne; omega⟩
                          have hcell := hVj.out.cells a ha
                          rw [show (⟨v.now, putAll v.cells cm (ws.take j), cm, v.sights, v.next⟩ : Vw).cells a = lc from hlc.symm] at hcell
                          obtain ⟨Ac, capc, hcv, hcapc⟩ := hcell.shape
                          rw [hcv] at hcell
                          obtain ⟨gc, oc, hAc, hgc, hcc⟩ := Sl.cell encF_len (by decide) hcell (i := m) (by omega)
                          subst hAc
                          rw [hm] at hcv hcell hcapc
                          have hVA := hVj.out.alloc (.cells #[.int .u64 a, .int .u64 x] 45)
                          have hEA := hEj.out.alloc (.cells #[.int .u64 a, .int .u64 x] 45)
                          have hBA := hBj.out.alloc hBj.out.size (.cells #[.int .u64 a, .int .u64 x] 45)
                          have hXA := Blk.new wr 45 #[.int .u64 a, .int .u64 x]
                          have hcA := hcell.alloc (.cells #[.int .u64 a, .int .u64 x] 45)
                          obtain ⟨wA, hwA⟩ : ∃ wA, wA = wr.alloc (.cells #[.int .u64 a, .int .u64 x] 45) := ⟨_, rfl⟩
                          have hsA : wr.heap.size < wA.heap.size := by rw [hwA]; simp
                          rw [← hwA] at hVA hEA hBA hXA hcA
                          have hl0 : wA.cell? ⟨gc, oc + m * 2, none⟩ = some (.int .i64 (lc[m]'(by omega)).1) := by
                            obtain ⟨g', o', e, -, h3⟩ := Sl.cell encF_len (by decide) hcA (i := m) (by omega)
                            injection e with e
                            injection e with e1 e2 e3
                            subst e1 e2
                            exact (h3 m (by omega) 0 (by decide)).1.trans rfl
                          have b0 := (hXA.cell 0).trans (show _ = some (.int .u64 (a : Int)) from rfl)
                          have b1 := (hXA.cell 1).trans (show _ = some (.int .u64 x) from rfl)
                          have c0 := hVA.c0
                          have c2 := hVA.c2
                          dsimp only at c2
                          obtain ⟨n0, hM0⟩ := hVA.map
                          have hlk0 : ∀ J, (Instr.lookup 65 (.map (some w7.heap.size)) (.int .u64 a) false).run Try.prog (wA.drewN J) = .ok (.slice (some ⟨gc, oc, none⟩) (m + 1) capc) (wA.drewN J) := fun J => by
                            have := Mp.lookup (P := Try.prog) (hM0.drewN J) (t := 65) Try.underlying65 Try.underlying35 (z := .slice none 0 0) (by kernel_rfl) a false
                            rw [this]
                            show Result.ok ((cmap first.length cv2 a).getD (.slice none 0 0)) _ = _
                            unfold cmap
                            rw [if_pos ⟨by omega, by omega⟩, Int.toNat_natCast, hcv]
                            rfl
                          have hml : (m : Int) ≤ (l.length : Int) := by have := hcmk.out; omega
                          have hmm1 : (m : Int) < (m : Int) + 1 := by omega
                          have hwm1 : IntKind.i64.wrap ((m : Int) + 1 - 1) = (m : Int) := by rw [show (m : Int) + 1 - 1 = (m : Int) by omega]; exact IntWalk.i64_in _ (by omega)
                          have hwm2 : IntKind.i64.wrap (m : Int) = (m : Int) := IntWalk.i64_in _ (by omega)
                          have hcap1 : (m : Int) + 1 ≤ (capc : Int) := by omega
                          have S0 : Hid (∀ J, (wA.drewN J).cell? ⟨w7.heap.size + 1, 0, none⟩ = some (.map (some w7.heap.size)) ∧ (wA.drewN J).cell? ⟨wr.heap.size, 0, none⟩ = some (.int .u64 (a : Int))) := Lib.hid (fun J => ⟨c0, b0⟩)
                          have S2 : Hid (∀ J, ((wA.drewN J).alloc (.cells #[.int .i64 cm, .int .u64 x] 92)).cell? ⟨w7.heap.size + 1, 0, none⟩ = some (.map (some w7.heap.size)) ∧ ((wA.drewN J).alloc (.cells #[.int .i64 cm, .int .u64 x] 92)).cell? ⟨wr.heap.size, 0, none⟩ = some (.int .u64 (a : Int))) := Lib.hid (fun J => ⟨cell_alloc_ c0, cell_alloc_ b0⟩)
                          have hwA7 : w7.heap.size ≤ wA.heap.size := hBA.size
                          have hlb : Hid ((lc.length + 1) * 16 ≤ 140737488355328) := Lib.hid (by have h1 := hsz.out; have h2 := hcmk.out; omega)
                          have hFin : Hid (∀ (c0v : Value) (lk : List (Nat × Int)), cutL lc cm = lk → (∀ q, own c0v q → own (cv2 a) q) → ∀ (wx w4 w9 : World) (A4 : Option Addr) (cap4 n9 J J2 : Nat), wx.heap = wA.heap → wx.os = wA.os → wx.tape = wA.tape → True) := Lib.hid (fun _ _ _ _ _ _ _ _ _ _ _ _ _ _ _ => trivial)
                          clear hFin
                          replace hVA := Lib.hid hVA
                          replace hEA := Lib.hid hEA
                          replace hBA := Lib.hid hBA
                          replace hXA := Lib.hid hXA
                          replace hcA := Lib.hid hcA
                          replace hM0 := Lib.hid hM0
                          replace hwA := Lib.hid hwA
                          replace hlc := Lib.hid hlc
                          replace hcv := Lib.hid hcv
                          replace hlcl := Lib.hid hlcl
                          replace hinL := Lib.hid hinL
                          replace hm := Lib.hid hm
                          clear hVj hEj hBj hSw hcw2 hcc hcell hgc hga
                          by_cases hcut : (lc[m]'(by have := hm.out; omega)).1 = cm
                          ·
                            obtain ⟨lk, hlkd⟩ : ∃ lk, lk = lc.take m := ⟨_, rfl⟩
                            have hlk2 : Hid (cutL lc cm = lk) := Lib.hid (by rw [hlkd]; exact cutL_yes hm.out hcut)
                            have hlkl : lk.length ≤ lc.length := by rw [hlkd, List.length_take]; exact Nat.min_le_right _ _
                            have hcC : Hid (Sl 92 2 encF wA (.slice (some ⟨gc, oc, none⟩) m capc) lk) := Lib.hid (by rw [hlkd]; exact Sl.cut encF_len hcA.out (by have := hm.out; omega) (by omega) (Nat.le_refl _))
                            replace hlkd := Lib.hid hlkd
                            rw [hcut] at hl0
                            replace hcut := Lib.hid hcut
                            replace hlkl := Lib.hid hlkl
                            go_wp2
                            rw [← hwA.out]
                            refine wp_region_mixH (fun _ => True) [3, 3, 3, 1, 3, 1, 1, 3] (List.range 8) (by kernel_rfl) (by kernel_rfl) (fun _ _ h => h) trivial ?_; (repeat (first | ((first | refine wpMixH_pure rfl rfl (fun K hK => ?_) | refine wpMixH_loc rfl rfl (fun K hK => ?_) | refine wpMixH_any rfl rfl (fun K hK => ?_)); go_simp; refine hK _ _ ?_; clear hK K) | (refine wpMixH_skip rfl (by go_simp) (fun K hK => ?_); go_simp; refine hK _ _ ?_; clear hK K) | fail)); refine wpMixH_nil (fun n1 => ?_)
                            go_wp2
                            refine wp_region_mixH (fun _ => True) [3, 3, 3, 3, 3, 3, 1, 3, 3, 3, 1, 3] (List.range 12) (by kernel_rfl) (by kernel_rfl) (fun _ _ h => h) trivial ?_; (repeat (first | ((first | refine wpMixH_pure rfl rfl (fun K hK => ?_) | refine wpMixH_loc rfl rfl (fun K hK => ?_) | refine wpMixH_any rfl rfl (fun K hK => ?_)); go_simp; refine hK _ _ ?_; clear hK K) | (refine wpMixH_skip rfl (by go_simp) (fun K hK => ?_); go_simp; refine hK _ _ ?_; clear hK K) | fail)); refine wpMixH_nil (fun n2 => ?_)
                            go_wp2
                            refine wp_region_mixH (fun W' => W'.cell? ⟨w7.heap.size + 1, 0, none⟩ = some (.map (some w7.heap.size)) ∧ W'.cell? ⟨wr.heap.size, 0, none⟩ = some (.int .u64 (a : Int))) [3, 3, 3, 0, 3, 0, 3, 3, 3, 3, 1, 3, 1, 2, 2, 2, 2] (List.range 17) (by kernel_rfl) (by kernel_rfl) (fun _ _ h => h) (S0.out (1 + n1 + 1 + n2 + 1)) ?_
                            as_aux_lemma =>
                              (repeat (first | ((first | refine wpMixH_pure rfl rfl (fun K hK => ?_) | refine wpMixH_loc rfl rfl (fun K hK => ?_) | refine wpMixH_any rfl rfl (fun K hK => ?_)); go_simp; refine hK _ _ ?_; clear hK K) | (refine wpMixH_any rfl rfl (fun K hK => ?_); rw [if_pos (by go_simp)]; apply Exists.intro; refine And.intro (fun w2 hS2 => ?_) (hK _ _ ?_); (focus (obtain ⟨hs1, hs2⟩ := hS2; go_simp; rfl)); clear hK K)))
                              refine wpMixH_loud rfl rfl (fun n3 K hK => ?_)
                              go_wp2
                              refine hK _ _ (fun _ => (S0.out _)) ?_; clear hK K
                              refine wpMixH_loud rfl rfl (fun n4 K hK => ?_)
                              go_wp2
                              refine hK _ _ (fun _ => (S2.out _)) ?_; clear hK K
                              refine wpMixH_loud rfl rfl (fun n5 K hK => ?_)
                              obtain ⟨wx, hwx⟩ : ∃ wx, wx = (wA.drewN (1 + n1 + 1 + n2 + 1 + n3 + n4)).drewN n5 := ⟨_, rfl⟩
                              have hszx : wx.heap.size = wA.heap.size := by rw [hwx]; rfl
                              have hVX : VwW w7.heap.size wx (w7.heap.size + 1) nb w7.heap.size ⟨v.now, putAll v.cells cm (ws.take j), cm, v.sights, v.next⟩ first.length fv cv2 sv := by rw [hwx]; exact ((hVA.out.drewN _).drewN _)
                              have hEX : Blk wx wq.heap.size 61 #[.int .i64 t, .int .i64 6, .int .u64 ad, .int .u64 wd, .bool ow, .int .i64 er] := by rw [hwx]; exact ((hEA.out.drewN _).drewN _)
                              have hXX : Blk wx wr.heap.size 45 #[.int .u64 a, .int .u64 x] := by rw [hwx]; exact ((hXA.out.drewN _).drewN _)
                              have hBX : Below w7.heap.size w7 wx := by rw [hwx]; exact below_drewNs (below_drewNs hBA.out _) _
                              have hMX : Mp wx w7.heap.size .u64 n0 (cmap first.length cv2) := by rw [hwx]; exact (hM0.out.drewN _).drewN _
                              have hcX : Sl 92 2 encF wx (.slice (some ⟨gc, oc, none⟩) m capc) lk := by rw [hwx]; exact (hcC.out.drewN _).drewN _
                              have hown : ∀ q, own (.slice (some ⟨gc, oc, none⟩) m capc) q → own (cv2 a) q := fun q hq => by rw [hcv.out]; simpa [own, Value.ownBlock] using hq
                              rw [show ((((wA.drewN (1 + n1 + 1 + n2 + 1 + n3 + n4)).alloc (.cells #[.int .i64 cm, .int .u64 x] 92)).drewN n5)) = wx.alloc (.cells #[.int .i64 cm, .int .u64 x] 92) from by rw [hwx]; rfl]
                              refine wpList_fromO wx rfl (.tmp 223) (.tmp 231) rfl (.slice (some ⟨gc, oc, none⟩) m capc) lk (cm, x) rfl hcX (by show Value.slice (some ⟨wA.heap.size, 0, none⟩) 1 1 = _; rw [hszx]) (by have h1 := hlb.out; have h2 := hlkl.out; omega) (by have h1 := hlb.out; have h2 := hlkl.out; omega) ?_
                              intro A4 cap4 w4 hc4 hS4 hF4
                              have hcn := hVX.cellNe ha
                              have hv4 := hF4.blk hVX.vblk (fun h => hcn.1 (hown _ h))
                              have hX4 := hF4.blk hXX (Sl.ne_ hcX hXX (by decide))
                              have hE4 := hF4.blk hEX (Sl.ne_ hcX hEX (by decide))
                              have hM4 := hMX.fr hF4 (fun h => hcn.2.2 (hown _ h))
                              have S4 : w4.cell? ⟨w7.heap.size + 1, 0, none⟩ = some (.map (some w7.heap.size)) ∧ w4.cell? ⟨wr.heap.size, 0, none⟩ = some (.int .u64 (a : Int)) := ⟨by simpa using hv4.cell 0, (hX4.cell 0).trans rfl⟩
                              have hB4 := Lib.hid (hBX.trans (hF4.below (fun q hq => hVX.gec a ha q (hown q hq)) (by omega)))
                              have hmne := hM4.ne_ hE4
                              have hmlt := hM4.lt
                              have hPut := Lib.hid (fun n J w9 => hVX.putCell (n := n) (j := J) (w2 := w9) (by omega) ha hS4 hown hF4)
                              replace hE4 := Lib.hid hE4
                              replace hM4 := Lib.hid hM4
                              clear hVX hEX hXX hBX hMX hcX hv4 hX4 hcn hS4 hF4 hown hVA hEA hXA hBA hM0 hcA hcC
                              replace hwx := Lib.hid hwx
                              replace hszx := Lib.hid hszx
                              go_wp2
                              refine hK _ _ (fun _ => S4) ?_; clear hK K
                              (repeat (first | ((first | refine wpMixH_pure rfl rfl (fun K hK => ?_) | refine wpMixH_loc rfl rfl (fun K hK => ?_) | refine wpMixH_any rfl rfl (fun K hK => ?_)); go_simp; refine hK _ _ ?_; clear hK K) | (refine wpMixH_any rfl rfl (fun K hK => ?_); rw [if_pos (by go_simp)]; apply Exists.intro; refine And.intro (fun w2 hS2 => ?_) (hK _ _ ?_); (focus (obtain ⟨hs1, hs2⟩ := hS2; go_simp; rfl)); clear hK K)))
                              refine wpMixH_loud rfl rfl (fun n6 K hK => ?_)
                              refine wpList_mapUpdate_mp _ rfl (.tmp 220) (.tmp 222) (.tmp 232) 65 rfl 35 90 .u64 Try.underlying65 Try.underlying35 w7.heap.size n0 (cmap first.length cv2) rfl (hM4.out.drewN _) (a : Int) (.slice A4 (lk.length + 1) cap4) rfl rfl ?_
                              intro w9 hM9 hg9 hz9
                              have hV9 := Lib.hid (hPut.out _ _ _ hM9 hg9)
                              have hE9 := Lib.hid ((hE4.out.drewN _).grown hg9 (fun e => by injection e with e; exact hmne e.symm))
                              have hB9 := Lib.hid (below_grown (below_drewNs hB4.out _) hg9 (Nat.le_refl _) hmlt)
                              clear hM9 hg9 hz9
                              go_wp2
                              refine hK _ _ (fun h => (Bool.false_ne_true ((Eq.symm (by kernel_rfl)).trans h)).elim) ?_; clear hK K
                              refine wpMixH_nil (fun n7 => ?_)
                              go_wp2
                              go_roundw
                              case rel => exact ⟨j + 1, _, hjl, by go_num, Lib.hid (by rw [hput.out, ← hlc.out, hlk2.out]; exact hV9.out.drewN _), Lib.hid (hE9.out.drewN _), Lib.hid (below_drewNs hB9.out _)⟩
                              case measure => simp [intOf]; omega
                          ·
                            obtain ⟨lk, hlkd⟩ : ∃ lk, lk = lc := ⟨_, rfl⟩
                            have hlk2 : Hid (cutL lc cm = lk) := Lib.hid (by rw [hlkd]; exact cutL_no hm.out hcut)
                            have hlkl : lk.length ≤ lc.length := by rw [hlkd]; exact Nat.le_refl _
                            have hcC : Hid (Sl 92 2 encF wA (.slice (some ⟨gc, oc, none⟩) (m + 1) capc) lk) := Lib.hid (by rw [hlkd]; exact hcA.out)
                            replace hlkd := Lib.hid hlkd
                            have hcut' : ¬ ((lc[m]'(by have := hm.out; omega)).1 : Int) = (cm : Int) := by omega
                            generalize (lc[m]'(by have := hm.out; omega)).1 = nl at *
                            replace hlkl := Lib.hid hlkl
                            go_wp2
                            rw [← hwA.out]
                            refine wp_region_mixH (fun _ => True) [3, 3, 3, 1, 3, 1, 1, 3] (List.range 8) (by kernel_rfl) (by kernel_rfl) (fun _ _ h => h) trivial ?_; (repeat (first | ((first | refine wpMixH_pure rfl rfl (fun K hK => ?_) | refine wpMixH_loc rfl rfl (fun K hK => ?_) | refine wpMixH_any rfl rfl (fun K hK => ?_)); go_simp; refine hK _ _ ?_; clear hK K) | (refine wpMixH_skip rfl (by go_simp) (fun K hK => ?_); go_simp; refine hK _ _ ?_; clear hK K) | fail)); refine wpMixH_nil (fun n1 => ?_)
                            go_wp2
                            refine wp_region_mixH (fun _ => True) [3, 3, 3, 3, 3, 3, 1, 3, 3, 3, 1, 3] (List.range 12) (by kernel_rfl) (by kernel_rfl) (fun _ _ h => h) trivial ?_; (repeat (first | ((first | refine wpMixH_pure rfl rfl (fun K hK => ?_) | refine wpMixH_loc rfl rfl (fun K hK => ?_) | refine wpMixH_any rfl rfl (fun K hK => ?_)); go_simp; refine hK _ _ ?_; clear hK K) | (refine wpMixH_skip rfl (by go_simp) (fun K hK => ?_); go_simp; refine hK _ _ ?_; clear hK K) | fail)); refine wpMixH_nil (fun n2 => ?_)
                            go_wp2
                            refine wp_region_mixH (fun W' => W'.cell? ⟨w7.heap.size + 1, 0, none⟩ = some (.map (some w7.heap.size)) ∧ W'.cell? ⟨wr.heap.size, 0, none⟩ = some (.int .u64 (a : Int))) [3, 3, 3, 0, 3, 0, 3, 3, 3, 3, 1, 3, 1, 2, 2, 2, 2] (List.range 17) (by kernel_rfl) (by kernel_rfl) (fun _ _ h => h) (S0.out (1 + n1 + 1 + n2 + 1)) ?_
                            as_aux_lemma =>
                              (repeat (first | ((first | refine wpMixH_pure rfl rfl (fun K hK => ?_) | refine wpMixH_loc rfl rfl (fun K hK => ?_) | refine wpMixH_any rfl rfl (fun K hK => ?_)); go_simp; refine hK _ _ ?_; clear hK K) | (refine wpMixH_any rfl rfl (fun K hK => ?_); rw [if_pos (by go_simp)]; apply Exists.intro; refine And.intro (fun w2 hS2 => ?_) (hK _ _ ?_); (focus (obtain ⟨hs1, hs2⟩ := hS2; go_simp; rfl)); clear hK K)))
                              refine wpMixH_loud rfl rfl (fun n3 K hK => ?_)
                              go_wp2
                              refine hK _ _ (fun _ => (S0.out _)) ?_; clear hK K
                              refine wpMixH_loud rfl rfl (fun n4 K hK => ?_)
                              go_wp2
                              refine hK _ _ (fun _ => (S2.out _)) ?_; clear hK K
                              refine wpMixH_loud rfl rfl (fun n5 K hK => ?_)
                              obtain ⟨wx, hwx⟩ : ∃ wx, wx = (wA.drewN (1 + n1 + 1 + n2 + 1 + n3 + n4)).drewN n5 := ⟨_, rfl⟩
                              have hszx : wx.heap.size = wA.heap.size := by rw [hwx]; rfl
                              have hVX : VwW w7.heap.size wx (w7.heap.size + 1) nb w7.heap.size ⟨v.now, putAll v.cells cm (ws.take j), cm, v.sights, v.next⟩ first.length fv cv2 sv := by rw [hwx]; exact ((hVA.out.drewN _).drewN _)
                              have hEX : Blk wx wq.heap.size 61 #[.int .i64 t, .int .i64 6, .int .u64 ad, .int .u64 wd, .bool ow, .int .i64 er] := by rw [hwx]; exact ((hEA.out.drewN _).drewN _)
                              have hXX : Blk wx wr.heap.size 45 #[.int .u64 a, .int .u64 x] := by rw [hwx]; exact ((hXA.out.drewN _).drewN _)
                              have hBX : Below w7.heap.size w7 wx := by rw [hwx]; exact below_drewNs (below_drewNs hBA.out _) _
                              have hMX : Mp wx w7.heap.size .u64 n0 (cmap first.length cv2) := by rw [hwx]; exact (hM0.out.drewN _).drewN _
                              have hcX : Sl 92 2 encF wx (.slice (some ⟨gc, oc, none⟩) (m + 1) capc) lk := by rw [hwx]; exact (hcC.out.drewN _).drewN _
                              have hown : ∀ q, own (.slice (some ⟨gc, oc, none⟩) (m + 1) capc) q → own (cv2 a) q := fun q hq => by rw [hcv.out]; simpa [own, Value.ownBlock] using hq
                              rw [show ((((wA.drewN (1 + n1 + 1 + n2 + 1 + n3 + n4)).alloc (.cells #[.int .i64 cm, .int .u64 x] 92)).drewN n5)) = wx.alloc (.cells #[.int .i64 cm, .int .u64 x] 92) from by rw [hwx]; rfl]
                              refine wpList_fromO wx rfl (.tmp 223) (.tmp 231) rfl (.slice (some ⟨gc, oc, none⟩) (m + 1) capc) lk (cm, x) rfl hcX (by show Value.slice (some ⟨wA.heap.size, 0, none⟩) 1 1 = _; rw [hszx]) (by have h1 := hlb.out; have h2 := hlkl.out; omega) (by have h1 := hlb.out; have h2 := hlkl.out; omega) ?_
                              intro A4 cap4 w4 hc4 hS4 hF4
                              have hcn := hVX.cellNe ha
                              have hv4 := hF4.blk hVX.vblk (fun h => hcn.1 (hown _ h))
                              have hX4 := hF4.blk hXX (Sl.ne_ hcX hXX (by decide))
                              have hE4 := hF4.blk hEX (Sl.ne_ hcX hEX (by decide))
                              have hM4 := hMX.fr hF4 (fun h => hcn.2.2 (hown _ h))
                              have S4 : w4.cell? ⟨w7.heap.size + 1, 0, none⟩ = some (.map (some w7.heap.size)) ∧ w4.cell? ⟨wr.heap.size, 0, none⟩ = some (.int .u64 (a : Int)) := ⟨by simpa using hv4.cell 0, (hX4.cell 0).trans rfl⟩
                              have hB4 := Lib.hid (hBX.trans (hF4.below (fun q hq => hVX.gec a ha q (hown q hq)) (by omega)))
                              have hmne := hM4.ne_ hE4
                              have hmlt := hM4.lt
                              have hPut := Lib.hid (fun n J w9 => hVX.putCell (n := n) (j := J) (w2 := w9) (by omega) ha hS4 hown hF4)
                              replace hE4 := Lib.hid hE4
                              replace hM4 := Lib.hid hM4
                              clear hVX hEX hXX hBX hMX hcX hv4 hX4 hcn hS4 hF4 hown hVA hEA hXA hBA hM0 hcA hcC
                              replace hwx := Lib.hid hwx
                              replace hszx := Lib.hid hszx
                              go_wp2
                              refine hK _ _ (fun _ => S4) ?_; clear hK K
                              (repeat (first | ((first | refine wpMixH_pure rfl rfl (fun K hK => ?_) | refine wpMixH_loc rfl rfl (fun K hK => ?_) | refine wpMixH_any rfl rfl (fun K hK => ?_)); go_simp; refine hK _ _ ?_; clear hK K) | (refine wpMixH_any rfl rfl (fun K hK => ?_); rw [if_pos (by go_simp)]; apply Exists.intro; refine And.intro (fun w2 hS2 => ?_) (hK _ _ ?_); (focus (obtain ⟨hs1, hs2⟩ := hS2; go_simp; rfl)); clear hK K)))
                              refine wpMixH_loud rfl rfl (fun n6 K hK => ?_)
                              refine wpList_mapUpdate_mp _ rfl (.tmp 220) (.tmp 222) (.tmp 232) 65 rfl 35 90 .u64 Try.underlying65 Try.underlying35 w7.heap.size n0 (cmap first.length cv2) rfl (hM4.out.drewN _) (a : Int) (.slice A4 (lk.length + 1) cap4) rfl rfl ?_
                              intro w9 hM9 hg9 hz9
                              have hV9 := Lib.hid (hPut.out _ _ _ hM9 hg9)
                              have hE9 := Lib.hid ((hE4.out.drewN _).grown hg9 (fun e => by injection e with e; exact hmne e.symm))
                              have hB9 := Lib.hid (below_grown (below_drewNs hB4.out _) hg9 (Nat.le_refl _) hmlt)
                              clear hM9 hg9 hz9
                              go_wp2
                              refine hK _ _ (fun h => (Bool.false_ne_true ((Eq.symm (by kernel_rfl)).trans h)).elim) ?_; clear hK K
                              refine wpMixH_nil (fun n7 => ?_)
                              go_wp2
                              go_roundw
                              case rel => exact ⟨j + 1, _, hjl, by go_num, Lib.hid (by rw [hput.out, ← hlc.out, hlk2.out]; exact hV9.out.drewN _), Lib.hid (hE9.out.drewN _), Lib.hid (below_drewNs hB9.out _)⟩
                              case measure => simp [intOf]; omega
                        · have hjj : j = ws.length := by omega
                          subst hjj
                          have hVf : Hid (VwW w7.heap.size wr (w7.heap.size + 1) nb w7.heap.size ⟨v.now, putAll v.cells cm ws, cm, v.sights, v.next⟩ first.length fv cv2 sv) := Lib.hid (by have := hVj.out; rwa [List.take_length] at this)
                          go_wp2
                          all_goals go_meet
                          all_goals exact ⟨by rw [hv.out], Lib.hid ⟨fv, cv2, sv, by rw [hv.out]; exact hVf.out⟩, hEj, hBj⟩
                    ·
                      as_aux_lemma =>
                        have hv : Hid (vEv (rn l l.length).tries v ⟨t, 6, ad, wd, ow, er⟩ = v) := Lib.hid (by unfold vEv; simp [hlk])
                        rw [hlk] at q1
                        go_wp2
                        all_goals go_meet
                        all_goals exact ⟨by rw [hv.out], Lib.hid ⟨fv, cv1, sv, by rw [hv.out]; exact hVE.out⟩, hEE, hbE⟩
                  as_aux_lemma =>
                    have z1 : (kd == 1) = false := by simpa using g1
                    have z2 : (kd == 2) = false := by simpa using g2
                    have z3 : (kd == 3) = false := by simpa using g3
                    have z5 : (kd == 5) = false := by simpa using g5
                    have z6 : (kd == 6) = false := by simpa using g6
                    have hv : Hid (vEv (rn l l.length).tries v ⟨t, kd, ad, wd, ow, er⟩ = v) := Lib.hid (by unfold vEv; simp [g1, g2, g3, g5, g6])
                    go_wp2
                    all_goals go_meet
                    all_goals exact ⟨by rw [hv.out], Lib.hid ⟨fv, cv1, sv, by rw [hv.out]; exact hVE.out⟩, hEE, hbE⟩
                case rest =>
                  obtain ⟨rfl, hVc, hEc, hbc⟩ := hcut
                  obtain ⟨fv2, cv2, sv2, hV2⟩ := hVc.out
                  replace hV2 := Lib.hid hV2
                  generalize hv1 : vEv (rn l l.length).tries v ⟨t, kd, ad, wd, ow, er⟩ = v1 at *
                  replace hv1 := Lib.hid hv1
                  clear hVE hEE hbE hVc d0 d1 d2 d3 d4 d5 htl hrd hsl
                  have q0 := hV2.out.n0 ht
                  have c2 := hV2.out.c2
                  have c3 := hV2.out.c3
                  have e0 := (hEc.out.cell 0).trans (show _ = some (.int .i64 t) from rfl)
                  have hbs2 := hbc.out.size
                  have hVI2 : Hid (VI (vTl v1 k ⟨t, kd, ad, wd, ow, er⟩) (take (rn l k) k ⟨t, kd, ad, wd, ow, er⟩) (k + 1) first.length) := Lib.hid (VI.tail hVI1.out _ _)
                  obtain ⟨A2, cap2, hsv, hcap2, hA2⟩ := hV2.out.svs
                  have hno : Hid (tailB v1 k ⟨t, kd, ad, wd, ow, er⟩ = false → ∀ j, ∃ (k' : Nat) (fv cv : Nat → Value) (sv : Value), k' ≤ l.length ∧ Value.int IntKind.i64 (v1.next : Nat) = .int .i64 ((vn first (rn l l.length).tries l k').next : Nat) ∧ Value.int IntKind.i64 ((k : Int) + 1) = .int .i64 k' ∧ Hid (VwW w7.heap.size (wc.drewN j) (w7.heap.size + 1) nb w7.heap.size (vn first (rn l l.length).tries l k') first.length fv cv sv) ∧ Hid (VI (vn first (rn l l.length).tries l k') (rn l k') k' first.length) ∧ Hid (Below w7.heap.size w7 (wc.drewN j))) := Lib.hid (fun hb j => ⟨k + 1, fv2, cv2, sv2, hlt, by rw [hsucc.out, vTl_next], by go_num, Lib.hid (by rw [hsucc.out, vTl_no hb]; exact hV2.out.drewN j), Lib.hid (by rw [hsucc.out, hrns.out]; exact hVI2.out), Lib.hid (below_drewNs hbc.out j)⟩)
                  by_cases hn : 0 < v1.next
                  · have hn' : (0 : Int) < v1.next := by omega
                    by_cases hq : (v1.now t).tri < v1.sights.length
                    · have hq' : ((v1.now t).tri : Int) < v1.sights.length := by omega
                      obtain ⟨g2, o2, hA3⟩ := hA2 (by omega)
                      subst hA3
                      subst hsv
                      have x0 : wc.cell? ⟨g2, o2 + (v1.now t).tri * 10, none⟩ = some (.int .i64 (v1.sights[(v1.now t).tri]'hq).tr.th) := ((hV2.out.sx hq (j := 0) (by decide)).1.trans rfl)
                      have x2 : wc.cell? ⟨g2, o2 + (v1.now t).tri * 10 + 2, none⟩ = some (.int .i64 (v1.sights[(v1.now t).tri]'hq).tr.last) := by rw [Nat.add_assoc]; exact ((hV2.out.sx hq (j := 2) (by decide)).1.trans rfl)
                      have x9 : wc.cell? ⟨g2, o2 + (v1.now t).tri * 10 + 9, none⟩ = some (.int .i64 (v1.sights[(v1.now t).tri]'hq).upto) := by rw [Nat.add_assoc]; exact ((hV2.out.sx hq (j := 9) (by decide)).1.trans rfl)
                      have f9 : wc.frozen? ⟨g2, o2 + (v1.now t).tri * 10 + 9, none⟩ = false := by rw [Nat.add_assoc]; exact (hV2.out.sx hq (j := 9) (by decide)).2
                      by_cases h1 : (v1.sights[(v1.now t).tri]'hq).tr.th = (t : Int)
                      · by_cases h2 : (v1.sights[(v1.now t).tri]'hq).tr.last = k
                        ·
                          as_aux_lemma =>
                            have hyes := Lib.hid (vTl_yes (v := v1) (i := k) (e := ⟨t, kd, ad, wd, ow, er⟩) hn hq h1 h2)
                            have hUp := Lib.hid (fun j => (hV2.out.drewN j).setUpto hq v1.commits)
                            have hgB : w7.heap.size ≤ g2 := hV2.out.ges g2 (by simp [own, Value.ownBlock])
                            have hfin : Hid (∀ j jj, ∃ (k' : Nat) (fv cv : Nat → Value) (sv : Value), k' ≤ l.length ∧ Value.int IntKind.i64 (v1.next : Nat) = .int .i64 ((vn first (rn l l.length).tries l k').next : Nat) ∧ Value.int IntKind.i64 ((k : Int) + 1) = .int .i64 k' ∧ Hid (VwW w7.heap.size (((wc.drewN j).setCell ⟨g2, o2 + (v1.now t).tri * 10 + 9, none⟩ (.int .i64 v1.commits)).drewN jj) (w7.heap.size + 1) nb w7.heap.size (vn first (rn l l.length).tries l k') first.length fv cv sv) ∧ Hid (VI (vn first (rn l l.length).tries l k') (rn l k') k' first.length) ∧ Hid (Below w7.heap.size w7 (((wc.drewN j).setCell ⟨g2, o2 + (v1.now t).tri * 10 + 9, none⟩ (.int .i64 v1.commits)).drewN jj))) := Lib.hid (fun j jj => ⟨k + 1, fv2, cv2, _, hlt, by rw [hsucc.out, vTl_next], by go_num, Lib.hid (by rw [hsucc.out, hyes.out]; exact (hUp.out j).drewN jj), Lib.hid (by rw [hsucc.out, hrns.out]; exact hVI2.out), Lib.hid (below_drewNs ((below_drewNs hbc.out j).setCell hgB _) jj)⟩)
                            rw [h1] at x0
                            rw [h2] at x2
                            clear hyes hUp hno h1 h2 hA2 hcap2
                            go_wp2
                            refine wp_region_mixH (fun _ => True) [3, 3, 3, 3, 3, 3, 1, 3, 3, 3, 3, 1, 3, 3, 3, 3, 3, 3, 1, 3, 3, 3, 1, 3, 3, 3, 1, 3, 1, 3, 3, 3, 3, 3, 3, 1, 3, 3, 3, 1, 3, 3, 3, 1, 3, 3, 3] (List.range 47) (by kernel_rfl) (by kernel_rfl) (fun _ _ h => h) trivial ?_; (repeat (first | ((first | refine wpMixH_pure rfl rfl (fun K hK => ?_) | refine wpMixH_loc rfl rfl (fun K hK => ?_) | refine wpMixH_any rfl rfl (fun K hK => ?_)); go_simp; refine hK _ _ ?_; clear hK K) | (refine wpMixH_skip rfl (by go_simp) (fun K hK => ?_); go_simp; refine hK _ _ ?_; clear hK K) | fail)); refine wpMixH_nil (fun n1 => ?_)
                            go_wp2
                            refine wp_region_mixH (fun _ => True) [3, 3, 3, 1, 3, 3, 3, 1, 3, 3, 3, 1, 3, 3, 2] (List.range 15) (by kernel_rfl) (by kernel_rfl) (fun _ _ h => h) trivial ?_
                            (repeat ((first | refine wpMixH_pure rfl rfl (fun K hK => ?_) | refine wpMixH_loc rfl rfl (fun K hK => ?_) | refine wpMixH_any rfl rfl (fun K hK => ?_)); go_simp; refine hK _ _ ?_; clear hK K))
                            refine wpMixH_loud rfl rfl (fun n2 K hK => ?_)
                            go_wp2
                            refine hK _ _ (fun _ => trivial) ?_; clear hK K
                            refine wpMixH_nil (fun n3 => ?_)
                            go_wp2
                            go_roundw
                            case rel => exact hfin.out _ _
                            case measure => simp [intOf]; omega
                        ·
                          as_aux_lemma =>
                            have hno2 := Lib.hid (hno.out (tail_no4 (e := ⟨t, kd, ad, wd, ow, er⟩) hq h2))
                            have h2' : ¬ ((v1.sights[(v1.now t).tri]'hq).tr.last : Int) = (k : Int) := by omega
                            rw [h1] at x0
                            generalize (v1.sights[(v1.now t).tri]'hq).tr.last = la at *
                            clear hno hA2 hcap2 h1
                            go_wp2
                            refine wp_region_mixH (fun _ => True) [3, 3, 3, 3, 3, 3, 1, 3, 3, 3, 3, 1, 3, 3, 3, 3, 3, 3, 1, 3, 3, 3, 1, 3, 3, 3, 1, 3, 1, 3, 3, 3, 3, 3, 3, 1, 3, 3, 3, 1, 3, 3, 3, 1, 3, 3, 3] (List.range 47) (by kernel_rfl) (by kernel_rfl) (fun _ _ h => h) trivial ?_; (repeat (first | ((first | refine wpMixH_pure rfl rfl (fun K hK => ?_) | refine wpMixH_loc rfl rfl (fun K hK => ?_) | refine wpMixH_any rfl rfl (fun K hK => ?_)); go_simp; refine hK _ _ ?_; clear hK K) | (refine wpMixH_skip rfl (by go_simp) (fun K hK => ?_); go_simp; refine hK _ _ ?_; clear hK K) | fail)); refine wpMixH_nil (fun n1 => ?_)
                            go_wp2
                            go_roundw
                            case rel => exact hno2.out _
                            case measure => simp [intOf]; omega
                      ·
                        as_aux_lemma =>
                          have hno2 := Lib.hid (hno.out (tail_no3 (e := ⟨t, kd, ad, wd, ow, er⟩) hq h1))
                          generalize (v1.sights[(v1.now t).tri]'hq).tr.th = tt at *
                          clear hno hA2 hcap2 x2 x9 f9
                          go_wp2
                          refine wp_region_mixH (fun _ => True) [3, 3, 3, 3, 3, 3, 1, 3, 3, 3, 3, 1, 3, 3, 3, 3, 3, 3, 1, 3, 3, 3, 1, 3, 3, 3, 1, 3, 1, 3, 3, 3, 3, 3, 3, 1, 3, 3, 3, 1, 3, 3, 3, 1, 3, 3, 3] (List.range 47) (by kernel_rfl) (by kernel_rfl) (fun _ _ h => h) trivial ?_; (repeat (first | ((first | refine wpMixH_pure rfl rfl (fun K hK => ?_) | refine wpMixH_loc rfl rfl (fun K hK => ?_) | refine wpMixH_any rfl rfl (fun K hK => ?_)); go_simp; refine hK _ _ ?_; clear hK K) | (refine wpMixH_skip rfl (by go_simp) (fun K hK => ?_); go_simp; refine hK _ _ ?_; clear hK K) | fail)); refine wpMixH_nil (fun n1 => ?_)
                          go_wp2
                          go_roundw
                          case rel => exact hno2.out _
                          case measure => simp [intOf]; omega
                    ·
                      as_aux_lemma =>
                        have hno2 := Lib.hid (hno.out (tail_no2 (e := ⟨t, kd, ad, wd, ow, er⟩) hq))
                        have hq' : ¬ ((v1.now t).tri : Int) < v1.sights.length := by omega
                        subst hsv
                        clear hno hA2 hcap2
                        go_wp2
                        refine wp_region_mixH (fun _ => True) [3, 3, 3, 3, 3, 3, 1, 3, 3, 3, 3, 1, 3, 3, 3, 3, 3, 3, 1, 3, 3, 3, 1, 3, 3, 3, 1, 3, 1, 3, 3, 3, 3, 3, 3, 1, 3, 3, 3, 1, 3, 3, 3, 1, 3, 3, 3] (List.range 47) (by kernel_rfl) (by kernel_rfl) (fun _ _ h => h) trivial ?_; (repeat (first | ((first | refine wpMixH_pure rfl rfl (fun K hK => ?_) | refine wpMixH_loc rfl rfl (fun K hK => ?_) | refine wpMixH_any rfl rfl (fun K hK => ?_)); go_simp; refine hK _ _ ?_; clear hK K) | (refine wpMixH_skip rfl (by go_simp) (fun K hK => ?_); go_simp; refine hK _ _ ?_; clear hK K) | fail)); refine wpMixH_nil (fun n1 => ?_)
                        go_wp2
                        go_roundw
                        case rel => exact hno2.out _
                        case measure => simp [intOf]; omega
                  ·
                    as_aux_lemma =>
                      have hno2 := Lib.hid (hno.out (tail_no1 hn))
                      have hn' : ¬ (0 : Int) < v1.next := by omega
                      clear hno hA2 hcap2 hsv
                      go_wp2
                      refine wp_region_mixH (fun _ => True) [3, 3, 3, 3, 3, 3, 1, 3, 3, 3, 3, 1, 3, 3, 3, 3, 3, 3, 1, 3, 3, 3, 1, 3, 3, 3, 1, 3, 1, 3, 3, 3, 3, 3, 3, 1, 3, 3, 3, 1, 3, 3, 3, 1, 3, 3, 3] (List.range 47) (by kernel_rfl) (by kernel_rfl) (fun _ _ h => h) trivial ?_; (repeat (first | ((first | refine wpMixH_pure rfl rfl (fun K hK => ?_) | refine wpMixH_loc rfl rfl (fun K hK => ?_) | refine wpMixH_any rfl rfl (fun K hK => ?_)); go_simp; refine hK _ _ ?_; clear hK K) | (refine wpMixH_skip rfl (by go_simp) (fun K hK => ?_); go_simp; refine hK _ _ ?_; clear hK K) | fail)); refine wpMixH_nil (fun n1 => ?_)
                      go_wp2
                      go_roundw
                      case rel => exact hno2.out _
                      case measure => simp [intOf]; omega
              ·
                as_aux_lemma =>
                  have hkk : k = l.length := by omega
                  subst hkk
                  have hR8 := hR7.out.below hbr.out hR7lt
                  have hO8 := hO7.out.below hbr.out hO7lt
                  have c0 := hO8.cell 0
                  have c1 := hO8.cell 1
                  have r0 := hR8.cell 0
                  have r1 := hR8.cell 1
                  have f0 := hR8.frozen 0
                  have f1 := hR8.frozen 1
                  simp only [List.getElem?_toArray, List.getElem?_cons_zero, List.getElem?_cons_succ] at c0 c1 r0 r1
                  have hbw := Lib.hid (hb10.out.trans (hbr.out.mono hws7))
                  have hodd : Hid (seeOdd first.length l = (-1, 0)) := Lib.hid (by rw [hseeL.out, if_neg (by rw [odd_ok hok]; simp), if_neg (by have := hi.out; omega), if_neg (by have := hi2.out; omega)])
                  have hne4 : w.heap.size + 1 + 1 ≠ w4.heap.size := by omega
                  have hV9 : Hid (∀ j jj, ∃ fv cv sv, VwW w7.heap.size ((((wr.drewN j).setCell ⟨w.heap.size + 1 + 1, 0, none⟩ (.int .i64 (-1))).setCell ⟨w.heap.size + 1 + 1, 1, none⟩ (.int .i64 0)).drewN jj) (w7.heap.size + 1) nb w7.heap.size (vn first (rn l l.length).tries l l.length) first.length fv cv sv) := Lib.hid (fun j jj => ⟨fv, cv1, sv, hV.out.keep fun q hq _ => by
                    rw [World.heap_drewN, Below.heap_setCell _ _ _ _ (show q ≠ w.heap.size + 1 + 1 by omega), Below.heap_setCell _ _ _ _ (show q ≠ w.heap.size + 1 + 1 by omega), World.heap_drewN]⟩)
                  clear hR8 hO8 hbr hV
                  go_wp2
                  refine wp_region_mixH (fun _ => True) [3, 1, 3, 2] (List.range 4) (by kernel_rfl) (by kernel_rfl) (fun _ _ h => h) trivial ?_
                  (repeat ((first | refine wpMixH_pure rfl rfl (fun K hK => ?_) | refine wpMixH_loc rfl rfl (fun K hK => ?_) | refine wpMixH_any rfl rfl (fun K hK => ?_)); go_simp; refine hK _ _ ?_; clear hK K))
                  refine wpMixH_loud rfl rfl (fun n1 K hK => ?_)
                  go_wp2
                  refine hK _ _ (fun _ => trivial) ?_; clear hK K
                  refine wpMixH_nil (fun n2 => ?_)
                  go_wp2
                  refine bodyPost_ret (v := .tuple #[.pointer (some ⟨w7.heap.size + 1, 0, none⟩), .agg #[.int .i64 (-1), .int .i64 0]]) (by simp [results, Try.results26, go_sem, r0, r1, f0, f1]) rfl ⟨below_drewNs (((below_drewNs hbw.out _).setCell hle _).setCell hle _) _, .inr ⟨hodd.out, hok, ?_⟩⟩
                  obtain ⟨fv9, cv9, sv9, h9⟩ := hV9.out _ _
                  exact ⟨w7.heap.size, w7.heap.size + 1, nb, w7.heap.size, fv9, cv9, sv9, hws7, rfl, h9, hVI.out⟩
      ·
        have hR7 := hf9.blk hR6.out (show w.heap.size + 1 + 1 ≠ w4.heap.size by omega)
        have c0 := hO9.cell 0
        have c1 := hO9.cell 1
        have r0 := hR7.cell 0
        have r1 := hR7.cell 1
        have f0 := hR7.frozen 0
        have f1 := hR7.frozen 1
        simp only [List.getElem?_toArray, List.getElem?_cons_zero, List.getElem?_cons_succ] at c0 c1 r0 r1
        have hb9 := Lib.hid (hb8.out.trans (hf9.below (fun k hk => by rw [hk]; omega) hb8.out.size))
        have hodd : Hid (seeOdd first.length l = (idxE (farE first.length) l, 4)) := Lib.hid (by rw [hseeL.out, if_neg (by rw [odd_ok hok]; simp), if_neg (by have := hi.out; omega), if_pos hi2])
        have hne4 : w.heap.size + 1 + 1 ≠ w4.heap.size := by omega
        generalize idxE (farE first.length) l = ix at *
        clear hf9 hO9 hR7 hR6 hO6 hF6 hH6 hS6 hL6 C2 e06 e16 hb8
        go_wp2
        refine wp_region_mixH (fun _ => True) [1, 3, 2] (List.range 3) (by kernel_rfl) (by kernel_rfl) (fun _ _ h => h) trivial ?_
        as_aux_lemma =>
          repeat ((first | refine wpMixH_pure rfl rfl (fun K hK => ?_) | refine wpMixH_loc rfl rfl (fun K hK => ?_) | refine wpMixH_any rfl rfl (fun K hK => ?_)); go_simp; refine hK _ _ ?_; clear hK K)
          refine wpMixH_loud rfl rfl (fun n1 K hK => ?_)
          go_wp2
          refine hK _ _ (fun _ => trivial) ?_; clear hK K
          refine wpMixH_nil (fun n2 => ?_)
          go_wp2
          refine bodyPost_ret (v := .tuple #[.pointer none, .agg #[.int .i64 ix, .int .i64 4]]) (by simp [results, Try.results26, go_sem, r0, r1, f0, f1]) rfl ⟨below_drewNs (((below_drewNs hb9.out _).setCell hle _).setCell hle _) _, .inl ?_⟩
          rw [hodd.out]
          exact ⟨by simp, rfl⟩
    ·
      have hR7 := hf7.blk hR5.out (show w.heap.size + 1 + 1 ≠ w4.heap.size by omega)
      have c0 := hO7.cell 0
      have c1 := hO7.cell 1
      have r0 := hR7.cell 0
      have r1 := hR7.cell 1
      have f0 := hR7.frozen 0
      have f1 := hR7.frozen 1
      simp only [List.getElem?_toArray, List.getElem?_cons_zero, List.getElem?_cons_succ] at c0 c1 r0 r1
      have hb9 := Lib.hid (hb6.out.trans (hf7.below (fun k hk => by rw [hk]; omega) hb6.out.size))
      have hodd : Hid (seeOdd first.length l = (idxE plainE l, 260)) := Lib.hid (by rw [hseeL.out, if_neg (by rw [odd_ok hok]; simp), if_pos hi])
      have hne4 : w.heap.size + 1 + 1 ≠ w4.heap.size := by omega
      generalize idxE plainE l = ix at *
      clear hf7 hO7 hR7 hR5 hO5 hF5 hH5 hS5 hL5 C1 e0 e1 hb6
      go_wp2
      refine wp_region_mixH (fun _ => True) [1, 3, 2] (List.range 3) (by kernel_rfl) (by kernel_rfl) (fun _ _ h => h) trivial ?_
      as_aux_lemma =>
        repeat ((first | refine wpMixH_pure rfl rfl (fun K hK => ?_) | refine wpMixH_loc rfl rfl (fun K hK => ?_) | refine wpMixH_any rfl rfl (fun K hK => ?_)); go_simp; refine hK _ _ ?_; clear hK K)
        refine wpMixH_loud rfl rfl (fun n1 K hK => ?_)
        go_wp2
        refine hK _ _ (fun _ => trivial) ?_; clear hK K
        refine wpMixH_nil (fun n2 => ?_)
        go_wp2
        refine bodyPost_ret (v := .tuple #[.pointer none, .agg #[.int .i64 ix, .int .i64 260]]) (by simp [results, Try.results26, go_sem, r0, r1, f0, f1]) rfl ⟨below_drewNs (((below_drewNs hb9.out _).setCell hle _).setCell hle _) _, .inl ?_⟩
        rw [hodd.out]
        exact ⟨by simp, rfl⟩
  ·
    have hb5 := Lib.hid (hb3.out.trans (hb4.mono hb3.out.size))
    have hR4 := hR3.out.below hb4 hR3.out.lt
    have hsz4 : w.heap.size + 1 + 1 < w4.heap.size := hR4.lt
    have hodd := odd_at hm hok hwr
    have hx0 : wrong (rn l m) (evAt l m) ≠ 0 := hwr
    generalize wrong (rn l m) (evAt l m) = x at *
    have hsee : Hid (seeOdd first.length l = ((m : Int), x)) := Lib.hid (by rw [hseeL.out, hodd, if_pos hx0])
    have hR5 := hR4.alloc (.cells #[.int .i64 m, .int .i64 x] 28)
    have r0 := hR5.cell 0
    have r1 := hR5.cell 1
    have f0 := hR5.frozen 0
    have f1 := hR5.frozen 1
    simp only [List.getElem?_toArray, List.getElem?_cons_zero, List.getElem?_cons_succ] at r0 r1
    have hb6 := Lib.hid (hb5.out.alloc hb5.out.size (.cells #[.int .i64 m, .int .i64 x] 28))
    have hne4 : w.heap.size + 1 + 1 ≠ w4.heap.size := by omega
    have hx1 : (x != 0) = true := by simpa using hx0
    replace hx0 := Lib.hid hx0
    clear hb4 hR4 hR5 hb5 hR3 hF3 hH3 hL3 hT hb3 d0 d1 hok hwr hodd
    go_wp2
    refine wp_region_mixH (fun _ => True) [1, 3, 2] (List.range 3) (by kernel_rfl) (by kernel_rfl) (fun _ _ h => h) trivial ?_
    as_aux_lemma =>
      repeat ((first | refine wpMixH_pure rfl rfl (fun K hK => ?_) | refine wpMixH_loc rfl rfl (fun K hK => ?_) | refine wpMixH_any rfl rfl (fun K hK => ?_)); go_simp; refine hK _ _ ?_; clear hK K)
      refine wpMixH_loud rfl rfl (fun n1 K hK => ?_)
      go_wp2
      refine hK _ _ (fun _ => trivial) ?_; clear hK K
      refine wpMixH_nil (fun n2 => ?_)
      go_wp2
      refine bodyPost_ret (v := .tuple #[.pointer none, .agg #[.int .i64 m, .int .i64 x]]) (by simp [results, Try.results26, go_sem, r0, r1, f0, f1]) rfl ⟨below_drewNs (((below_drewNs hb6.out _).setCell hle _).setCell hle _) _, .inl ?_⟩
      rw [hsee.out]
      exact ⟨hx0.out, rfl⟩
end Go.Proofs.Ytloiadhdkgkjkaa
