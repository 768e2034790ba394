/- parleykit.Apart: its walk. -/
import Derived.Test.YtfbbmnlebibplaaApa
namespace Go.Proofs.Ytfbbmnlebibplaa
open Go.RowKit
set_option maxHeartbeats 4000000
set_option linter.unusedVariables false
set_option linter.unusedSimpArgs false

/-- the lists as one family -/
structure Fl (w : World) (A : Option Addr) (n : Nat) (V : Nat → Value) (M : Nat → List Int) : Prop where
  ls : Ls w A n V
  wl : ∀ i, i < n → Wl w (V i) (M i)
  ap : ∀ i j k, i < n → j < n → own (V i) k → own (V j) k → i = j
theorem Fl.word {w : World} {A : Option Addr} {n : Nat} {V : Nat → Value} {M M' : Nat → List Int} (h : Fl w A n V M) {i k : Nat} (hi : i < n) (hk : k < (M i).length) (x : Int) (e1 : M' i = (M i).set k x) (e2 : ∀ j, j ≠ i → M' j = M j) :
    ∃ g o c, V i = .slice (some ⟨g, o, none⟩) (M i).length c ∧ (M i).length ≤ c ∧ (∃ y, w.cell? ⟨g, o + k, none⟩ = some (.int .u64 y)) ∧ w.frozen? ⟨g, o + k, none⟩ = false ∧ Fl (w.setCell ⟨g, o + k, none⟩ (.int .u64 x)) A n V M' ∧ own (V i) g := by
  have hw := h.wl i hi
  obtain ⟨A', c, hv, hc⟩ := hw.shape
  rw [hv] at hw
  obtain ⟨g, o, rfl, _, k1, k2, k3⟩ := hw.upd hk
  have hg : own (V i) g := by rw [hv]; rfl
  refine ⟨g, o, c, hv, hc, ⟨_, k1⟩, k2, ⟨h.ls.keep fun g' cs hb => ?_, fun j hj => ?_, h.ap⟩, hg⟩
  · exact Below.heap_setCell w _ _ g' fun e => by
      have := (h.wl i hi).ne_ hb (by decide)
      exact this (e ▸ hg)
  · by_cases hji : j = i
    · subst hji
      rw [e1, hv]
      have := k3 x
      simpa using this
    · rw [e2 j hji]
      exact (h.wl j hj).set (fun ho => hji (h.ap j i g hj hi ho hg)) _

set_option maxRecDepth 100000 in
theorem apart_b {A : Option Addr} {n cA : Nat} {V : Nat → Value} {L : Nat → List Int} {w : World} (h : Fl w A n V L) (hcA : n ≤ cA) (hn : n ≤ 1000000) (hL : ∀ i, i < n → (L i).length ≤ 1000000) :
    Calls Try.prog 26 #[.slice A n cA] w fun e w' => e = .returned (.bool true) ∧ Fr (fun k => ∃ i, i < n ∧ own (V i) k) w (fun k => ∃ i, i < n ∧ own (V i) k) w' := by
  have H0 := Lib.hid h
  have HL := Lib.hid hL
  have hni : (n : Int) ≤ 1000000 := by omega
  have hci : (n : Int) ≤ cA := by omega
  clear h hL
  go_enter Try.func26, Try.ntmps26
  go_wp2
  go_loopg [3] n (fun gk c3 wr => ∃ i : Nat, gk + i = n ∧ c3 = .int .i64 (i : Int) ∧ Hid (Fl wr A n V (turned L i 0)) ∧ Hid (Fr (fun k => ∃ i, i < n ∧ own (V i) k) w (fun k => ∃ i, i < n ∧ own (V i) k) wr))
  case atStart => exact ⟨0, rfl, rfl, Lib.hid (by
    have e : turned L 0 0 = L := by funext j; unfold turned; rw [if_neg (by omega)]; split <;> simp [half_zero]
    rw [e]; exact H0.out), Lib.hid (Fr.refl _ _)⟩
  case round =>
    obtain ⟨i, hgk, rfl, HF, HM⟩ := hrel
    have HG := Lib.hid hgk
    clear hgk
    by_cases hi : i < n
    · obtain ⟨m, rfl⟩ : ∃ m, gk = m + 1 := ⟨gk - 1, by have := HG.out; omega⟩
      have hii : (i : Int) < n := by omega
      have hlen := HL.out i hi
      clear H0
      go_wp2
      go_loopg [4] (L i).length (fun gk c4 wr2 => ∃ k : Nat, gk + k = (L i).length ∧ c4 = .int .i64 (k : Int) ∧ Hid (Fl wr2 A n V (turned L i k)) ∧ Hid (Fr (fun k => ∃ i, i < n ∧ own (V i) k) w (fun k => ∃ i, i < n ∧ own (V i) k) wr2))
      case atStart => exact ⟨0, rfl, rfl, HF, HM⟩
      case round =>
        obtain ⟨k, hgk2, rfl, HF2, HM2⟩ := hrel
        have HG2 := Lib.hid hgk2
        clear hgk2
        obtain ⟨g0, o0, hA0, cV, _⟩ := HF2.out.ls.at_ i hi
        subst hA0
        have hlt : (turned L i k i).length = (L i).length := turned_len L fun _ => by have := HG2.out; omega
        by_cases hk : k < (L i).length
        · obtain ⟨m2, rfl⟩ : ∃ m2, gk = m2 + 1 := ⟨gk - 1, by have := HG2.out; omega⟩
          obtain ⟨g, o, c, hv, hc, ⟨y, hy⟩, hz, hF3, hog⟩ := HF2.out.word (M' := turned L i (k + 1)) hi (k := k) (by rw [hlt]; exact hk) (mk i)
            (by unfold turned; rw [if_neg (by omega), if_pos rfl, if_neg (by omega), if_pos rfl, half_set hk]) (fun j hj => by unfold turned; rw [if_neg hj, if_neg hj])
          rw [hlt] at hv hc
          have HF3 := Lib.hid hF3
          have HM3 := Lib.hid (HM2.out.set (p := ⟨g, o + k, none⟩) (.inl ⟨i, hi, hog⟩) (.int .u64 (mk i)))
          rw [hv] at cV
          have hki : (k : Int) < ((L i).length : Int) := by omega
          have hcc : ((L i).length : Int) ≤ c := by omega
          have hmk : Hid (mk i = 1099511627776 + (i : Int)) := Lib.hid rfl
          have hw1 : IntKind.u64.wrap (i : Int) = i := IntWalk.u64_in _ (by omega)
          have hw2 : IntKind.u64.wrap (1099511627776 + (i : Int)) = 1099511627776 + (i : Int) := IntWalk.u64_in _ (by omega)
          rw [hmk.out] at HF3 HM3
          clear hF3 hog HF2 HM2 hlt hc hk hv
          generalize (L i).length = li at *
          go_wp2
          go_roundg m2
          case measure => omega
          case rel => exact ⟨k + 1, by have := HG2.out; omega, by go_num, HF3, HM3⟩
        · obtain rfl : k = (L i).length := by have := HG2.out; omega
          have e : turned L i (L i).length = turned L (i + 1) 0 := funext fun j => turned_next L i j
          rw [e] at HF2
          have hv := (HF2.out.wl i hi).shape
          obtain ⟨A', c', hve, _⟩ := hv
          have hle : (turned L (i + 1) 0 i).length = (L i).length := by rw [← e]; exact hlt
          rw [hle] at hve
          rw [hve] at cV
          clear hlt hve hle e hk
          generalize (L i).length = li at *
          go_wp2
          go_roundg m
          case measure => omega
          case rel => exact ⟨i + 1, by have := HG.out; omega, by go_num, HF2, HM2⟩
    · obtain rfl : i = n := by have := HG.out; omega
      have hs0 : Hid (w.heap.size ≤ wr.heap.size) := Lib.hid HM.out.size
      have hmk : ∀ j, j < i → turned L i 0 j = marks (L j).length j := fun j hj => by unfold turned; rw [if_pos hj]
      have hLg : Hid (Lg wr.heap.size w wr A i 0 V V L (.slice none 0 0)) := Lib.hid ⟨HF.out.ls, fun j hj => by rw [← hmk j hj]; exact (HF.out.wl j hj).lies, fun j _ hj => by rw [← hmk j hj]; exact HF.out.wl j hj, fun j hj => by omega, Rowv.nil _ _ _ _, fun j hj => by omega, fun j hj k hk => (HF.out.wl j hj).lt k hk,
        fun g o hA hn0 => by obtain ⟨g', o', e1, _, cs, hb⟩ := HF.out.ls.at_ 0 hn0; rw [hA] at e1; injection e1 with e1; injection e1 with e1 _ _; subst e1; exact hb.lt,
        fun j hj g o hA ho => by obtain ⟨g', o', e1, _, cs, hb⟩ := HF.out.ls.at_ 0 (by omega); rw [hA] at e1; injection e1 with e1; injection e1 with e1 _ _; subst e1; exact (HF.out.wl j hj).ne_ hb (by decide) ho, HF.out.ap, HM.out, Nat.le_refl _, hs0.out⟩
      clear H0 HF HM hmk hi hs0
      generalize hB : wr.heap.size = B at *
      clear hB
      go_wp2
      go_loopg [5, 6] i (fun gk c5 c6 wr => ∃ (j : Nat) (N : Nat → Value) (A5 : Option Addr) (n5 : Nat), gk + j = i ∧ c5 = .slice A5 j n5 ∧ j ≤ n5 ∧ c6 = .int .i64 (j : Int) ∧ Hid (Lg B w wr A i j V N L (.slice A5 j n5)))
      case atStart => exact ⟨0, V, none, 0, rfl, rfl, Nat.le_refl _, rfl, hLg⟩
      case round =>
        obtain ⟨j, N, A5, n5, hgk, rfl, hn5, rfl, HLg⟩ := hrel
        have HG := Lib.hid hgk
        clear hgk hLg
        by_cases hj : j < i
        · obtain ⟨m, rfl⟩ : ∃ m, gk = m + 1 := ⟨gk - 1, by have := HG.out; omega⟩
          have hji : (j : Int) < i := by omega
          have hlen := HL.out j hj
          obtain ⟨g0, o0, hA0, cV, _⟩ := HLg.out.ls.at_ j hj
          have HA0 := Lib.hid hA0
          subst hA0
          have hwl := HLg.out.wl j (Nat.le_refl _) hj
          obtain ⟨Aj, cj, hve, hcj⟩ := hwl.shape
          rw [marks_len] at hve hcj
          rw [hve] at cV
          have HVE := Lib.hid hve
          have hwl' := Lib.hid hwl
          clear hwl hve
          generalize hll : (L j).length = lj at *
          have HLL := Lib.hid hll
          clear hll
          go_wp2
          go_loopg [7, 8] 20 (fun gk c7 c8 wr2 => ∃ (t : Nat) (A7 : Option Addr) (n7 : Nat) (ml : List Int), gk + t = 20 ∧ Hid (ml = marks (lj + t) j) ∧ c7 = .slice A7 ml.length n7 ∧ c8 = .int .i64 (t : Int) ∧ Wl wr2 (.slice A7 ml.length n7) ml ∧ Hid (Fr (own (V j)) wr (own (.slice A7 ml.length n7)) wr2) ∧ Hid (Lies wr2 (V j) (marks lj j)) ∧ Hid ((∃ c, V j = .slice A7 lj c) ∨ ∀ k, own (V j) k → k < wr2.heap.size ∧ ¬ own (.slice A7 ml.length n7) k))
          case atStart => exact ⟨0, Aj, cj, marks lj j, rfl, Lib.hid rfl, by rw [marks_len], rfl, by have := hwl'.out; rw [HVE.out] at this; rw [marks_len]; exact this, Lib.hid (by rw [HVE.out, marks_len]; exact Fr.refl _ _), Lib.hid hwl'.out.lies, Lib.hid (.inl ⟨cj, HVE.out⟩)⟩
          case round =>
            obtain ⟨t, A7, n7, ml, hgk, hml, rfl, rfl, hw2, HF2, HO2, HS2⟩ := hrel
            rename World => wr2
            have HG2 := Lib.hid hgk
            have hmll : ml.length = lj + t := by rw [hml.out, marks_len]
            clear hgk
            by_cases ht : t < 20
            · obtain ⟨m2, rfl⟩ : ∃ m2, gk = m2 + 1 := ⟨gk - 1, by have := HG2.out; omega⟩
              have hti : (t : Int) < 20 := by omega
              have hbd := Lib.hid (show (ml.length + 1) * 8 ≤ 140737488355328 by omega)
              have HMLL := Lib.hid hmll
              have hw1 : IntKind.u64.wrap (j : Int) = j := IntWalk.u64_in _ (by omega)
              have hw3 : IntKind.u64.wrap (1099511627776 + (j : Int)) = 1099511627776 + (j : Int) := IntWalk.u64_in _ (by omega)
              clear hmll
              go_wp2_with (at_builtin; go_must (refine wpList_word2 _ rfl (.tmp 49) (.tmp 53) rfl (.slice A7 ml.length n7) ml (1099511627776 + (j : Int)) rfl hw2 rfl hbd.out ?_; intro A8 n8 w8 hn8 hw8 hk8 hf8 hs8))
              have HF8 := Lib.hid (HF2.out.trans hf8)
              have hlt0 : ∀ k, own (V j) k → k < wr2.heap.size := fun k hk => by have := HLg.out.lt j hj k hk; have := HLg.out.base; have := HF2.out.size; omega
              have HO8 : Hid (Lies w8 (V j) (marks lj j)) := by
                rcases HS2.out with ⟨c, hc⟩ | hr
                · refine Lib.hid ?_
                  have e : ml = marks lj j ++ marks t j := by rw [hml.out]; simp [marks]
                  obtain ⟨A', cp, e1, h1, h2, _⟩ := HO2.out
                  rw [hc] at e1 ⊢
                  injection e1 with e1 e2 e3
                  subst e1
                  subst e3
                  rw [marks_len] at h1
                  have hcut : Wl w8 (.slice A7 (marks lj j).length n7) (marks lj j) := by
                    refine Wl.cut (m := marks t j) ?_ ?_
                    · rw [← e, marks_len, marks_len, ← HMLL.out]; exact hk8
                    · rw [marks_len, marks_len, ← HMLL.out]
                      obtain ⟨_, _, e4, h4⟩ := hk8.shape
                      injection e4 with _ _ e5
                      omega
                  have := hcut.lies
                  rw [marks_len] at this
                  exact this.cap h1 h2
                · exact Lib.hid (HO2.out.fr hf8 fun k hk => (hr k hk).2)
              have HS8 : Hid ((∃ c, V j = .slice A8 lj c) ∨ ∀ k, own (V j) k → k < w8.heap.size ∧ ¬ own (.slice A8 (ml.length + 1) n8) k) := by
                refine Lib.hid ?_
                have hz := hf8.size
                rcases hs8 with ⟨c, hc⟩ | hr
                · injection hc with hc1 _ _
                  subst hc1
                  exact HS2.out.imp id fun h k hk => ⟨by have := (h k hk).1; omega, fun ho => (h k hk).2 (own_len ho)⟩
                · exact .inr fun k hk => ⟨by have := hlt0 k hk; omega, fun ho => by have := hlt0 k hk; have := hr k ho; omega⟩
              have HW8 := Lib.hid hw8
              clear hw2 hw8 hk8 hf8 hs8 HF2 HO2 HS2 hlt0
              go_wp2
              go_roundg m2
              case measure => omega
              case rel => exact ⟨t + 1, A8, n8, ml ++ [1099511627776 + (j : Int)], by have := HG2.out; omega, Lib.hid (by rw [hml.out, ← Nat.add_assoc, ← marks_succ]; rfl), by simp, by go_num, by simpa using HW8.out, by simpa using HF8, HO8, by simpa using HS8⟩
            · obtain rfl : t = 20 := by have := HG2.out; omega
              have HW2 : Hid (Wl wr2 (.slice A7 ml.length n7) (marks (lj + 20) j)) := Lib.hid (by rw [← hml.out]; exact hw2)
              have hrow := HLg.out.row
              have hkeep : ∀ k, own (.slice A5 j n5) k → wr2.heap[k]? = wr.heap[k]? := fun k hk => HF2.out.block k (hrow.lt hk).2 fun ho => by have := HLg.out.lt j hj k ho; have := (hrow.lt hk).1; omega
              have hrow2 : Rowv wr2 B 36 1 (.slice A5 j n5) j ((List.range j).map N) := hrow.keep hkeep
              have hrow3 := Lib.hid (hrow2.alloc (.cells #[.slice A7 ml.length n7] 36))
              have hB2 : Hid (B ≤ wr2.heap.size + 1) := Lib.hid (by have := HLg.out.base; have := HF2.out.size; omega)
              obtain ⟨i0, hi0, hz0, hz1, hz3⟩ := info_parts sl_info
              have hbd := Lib.hid (show (j + 1) * 24 ≤ 140737488355328 by omega)
              have hbd2 : Hid (j + 1 ≤ maxLen) := Lib.hid (by unfold maxLen; omega)
              clear hw2 hrow hkeep hrow2 hmll ht
              go_wp2_with (at_builtin; go_must (refine wpList_app _ rfl (.tmp 55) (.tmp 57) 86 rfl 36 i0 (.slice none 0 0) 1 24 Try.underlying86 hi0 hz0 hz1 hz3 rfl (by decide) B (.slice A5 j n5) j ((List.range j).map N) rfl hrow3.out _ 1 [.slice A7 ml.length n7] rfl (Src.lit wr2 (vs := [.slice A7 ml.length n7]) rfl (by simp [Value.oneCell']) 1) hbd2.out hbd.out (by simpa using hB2.out) ?_; intro v9 w9 hrow9 hgr9 hown9; obtain ⟨A9, n9, rfl, hn9, _⟩ := hrow9.shape))
              have hf9 : Fr (own (.slice A5 j n5)) wr2 (own (.slice A9 (j + 1) n9)) w9 := by
                refine ((Fr.refl (own (.slice A5 j n5)) wr2).alloc (.cells #[.slice A7 ml.length n7] 36)).trans (Fr.into ((Fr.refl (own (.slice A5 j n5)) _).grown hgr9 (fun k hk => .inl hk)) fun k hk => ?_)
                rcases hown9 with e | ⟨k', e, hk'⟩
                · exact .inl (by unfold own at *; rw [← e]; exact hk)
                · unfold own at hk
                  rw [hk] at e
                  injection e with e
                  subst e
                  exact .inr (.inr hk')
              have HL9 := Lib.hid (lg_step HLg.out hj HF2.out (by rw [HLL.out]; exact HW2.out) (by rw [HLL.out]; exact HO2.out) hrow9 hf9)
              clear hrow9 hgr9 hown9 hf9 hrow3
              go_wp2
              go_roundg m
              case measure => omega
              case rel => exact ⟨j + 1, _, A9, n9, by have := HG.out; omega, rfl, hn9, by go_num, HL9⟩
        · obtain rfl : j = i := by have := HG.out; omega
          clear hj
          have hrel3 : Hid (∀ i, i < j → ∃ g o c g1 o1, wr.cell? ⟨g1, o1 + i, none⟩ = some (.slice (some ⟨g, o, none⟩) ((L i).length + 20) c) ∧ A5 = some ⟨g1, o1, none⟩ ∧ (L i).length + 20 ≤ c ∧ ∀ k, k < (L i).length + 20 → wr.cell? ⟨g, o + k, none⟩ = some (.int .u64 (mk i))) := Lib.hid fun i hi => by
            obtain ⟨g1, o1, c1, e1, _, _, _, hc⟩ := HLg.out.row.at_ (by omega)
            injection e1 with e1 _ _
            obtain ⟨A', c', e2, h1, _, h2⟩ := HLg.out.new i hi
            rw [marks_len] at h1 h2 e2
            obtain ⟨g, o, e3, _⟩ := h2 0 (by omega)
            refine ⟨g, o, c', g1, o1, ?_, e1, h1, fun k hk => ?_⟩
            · rw [(hc i (by omega)).1]
              simp [List.getElem?_map, hi, e2, e3]
            · obtain ⟨g', o', e4, h4⟩ := h2 k hk
              rw [e3] at e4
              injection e4 with e4
              injection e4 with e4 e5 _
              subst e4
              subst e5
              rw [h4, marks_get hk]
          have hrelV : Hid (∀ i, i < j → ∃ V0 c g1 o1, wr.cell? ⟨g1, o1 + i, none⟩ = some (.slice V0 (L i).length c) ∧ A = some ⟨g1, o1, none⟩ ∧ (L i).length ≤ c ∧ ∀ k, k < (L i).length → ∃ g o, V0 = some ⟨g, o, none⟩ ∧ wr.cell? ⟨g, o + k, none⟩ = some (.int .u64 (mk i))) := Lib.hid fun i hi => by
            obtain ⟨g1, o1, hA, hc, _⟩ := HLg.out.ls.at_ i hi
            obtain ⟨A', c', e2, h1, _, h2⟩ := HLg.out.old i hi
            rw [marks_len] at h1 h2 e2
            refine ⟨A', c', g1, o1, by rw [hc, e2], hA, h1, fun k hk => ?_⟩
            obtain ⟨g, o, e3, h3⟩ := h2 k hk
            exact ⟨g, o, e3, by rw [h3, marks_get hk]⟩
          have hfin := Lib.hid HLg.out.fr
          have hn5i : (j : Int) ≤ n5 := by omega
          clear HLg
          go_wp2
          go_loopg [9] j (fun gk c9 wr3 => ∃ i : Nat, gk + i = j ∧ c9 = .int .i64 (i : Int) ∧ wr3 = wr)
          case atStart => exact ⟨0, rfl, rfl, rfl⟩
          case round =>
            obtain ⟨i, hgk, rfl, rfl⟩ := hrel
            have HG := Lib.hid hgk
            clear hgk
            by_cases hi : i < j
            · obtain ⟨m, rfl⟩ : ∃ m, gk = m + 1 := ⟨gk - 1, by have := HG.out; omega⟩
              have hii : (i : Int) < j := by omega
              have hlen := HL.out i hi
              obtain ⟨g, o, c, g1, o1, n1, rfl, n2, n3⟩ := hrel3.out i hi
              obtain ⟨V0, c0, g2, o2, v1, rfl, v2, v3⟩ := hrelV.out i hi
              have HN3 := Lib.hid n3
              have HV3 := Lib.hid v3
              clear n3 v3
              generalize (L i).length = li at *
              go_wp2
              go_loopg [10] (li + 20) (fun gk c10 wr4 => ∃ k : Nat, gk + k = li + 20 ∧ c10 = .int .i64 (k : Int) ∧ wr4 = wr)
              case atStart => exact ⟨0, rfl, rfl, rfl⟩
              case round =>
                obtain ⟨k, hgk, rfl, rfl⟩ := hrel
                have HG2 := Lib.hid hgk
                clear hgk
                by_cases hk : k < li + 20
                · obtain ⟨m2, rfl⟩ : ∃ m2, gk = m2 + 1 := ⟨gk - 1, by have := HG2.out; omega⟩
                  have hki : (k : Int) < (li : Int) + 20 := by omega
                  have hkc : (k : Int) < c := by omega
                  have hcell := HN3.out k hk
                  have hw1 : IntKind.u64.wrap (i : Int) = i := IntWalk.u64_in _ (by omega)
                  have hw3 : IntKind.u64.wrap (1099511627776 + (i : Int)) = 1099511627776 + (i : Int) := IntWalk.u64_in _ (by omega)
                  have hmk : mk i = 1099511627776 + (i : Int) := rfl
                  rw [hmk] at hcell
                  by_cases hk2 : k < li
                  · obtain ⟨g5, o5, rfl, hc5⟩ := HV3.out k hk2
                    rw [hmk] at hc5
                    have hk2i : (k : Int) < li := by omega
                    clear hmk
                    go_wp2
                    go_roundg m2
                    case measure => omega
                    case rel => exact ⟨k + 1, by have := HG2.out; omega, by go_num, rfl⟩
                  · have hk2i : (li : Int) ≤ k := by omega
                    clear hmk hk2
                    go_wp2
                    go_roundg m2
                    case measure => omega
                    case rel => exact ⟨k + 1, by have := HG2.out; omega, by go_num, rfl⟩
                · obtain rfl : k = li + 20 := by have := HG2.out; omega
                  clear hk
                  go_wp2
                  go_roundg m
                  case measure => omega
                  case rel => exact ⟨i + 1, by have := HG.out; omega, by go_num, rfl⟩
            · obtain rfl : i = j := by have := HG.out; omega
              clear hi
              go_wp2
              go_ret
              exact ⟨rfl, hfin.out⟩
end Go.Proofs.Ytfbbmnlebibplaa
