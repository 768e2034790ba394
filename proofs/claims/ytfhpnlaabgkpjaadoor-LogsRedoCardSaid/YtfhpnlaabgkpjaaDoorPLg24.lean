/- parleykit.Apart: its walk. -/
import Derived.Test.YtfhpnlaabgkpjaaDoorPLg23
namespace Go.Proofs.YtfhpnlaabgkpjaaDoor
open Go.RowKit
set_option maxHeartbeats 4000000
set_option linter.unusedVariables false
set_option linter.unusedSimpArgs false

/-- the lists as one family -/
structure Fl (w : World) (A : Option Addr) (n : Nat) (V : Nat → Value) (M : Nat → List Int) : Prop where
  ls : Ls w A n V
  wl : ∀ i, i < n → Wl w (V i) (M i)
  ap : ∀ i j k, i < n → j < n → own (V i) k → own (V j) k → i = j
theorem Fl.word {w : World} {A : Option Addr} {n : Nat} {V : Nat → Value} {M M' : Nat → List Int} (h : Fl w A n V M) {i k : Nat} (hi : i < n) (hk : k < (M i).length) (x : Int) (e1 : M' i = (M i).set k x) (e2 : ∀ j, j ≠ i → M' j = M j) :
    ∃ g o c, V i = .slice (some ⟨g, o, none⟩) (M i).length c ∧ (M i).length ≤ c ∧ (∃ y, w.cell? ⟨g, o + k, none⟩ = some (.int .u64 y)) ∧ w.frozen? ⟨g, o + k, none⟩ = false ∧ Fl (w.setCell ⟨g, o + k, none⟩ (.int .u64 x)) A n V M' ∧ own (V i) g := by
  have hw := h.wl i hi
  obtain ⟨A', c, hv, hc⟩ := hw.shape
  rw [hv] at hw
  obtain ⟨g, o, rfl, _, k1, k2, k3⟩ := hw.upd hk
  have hg : own (V i) g := by rw [hv]; rfl
  refine ⟨g, o, c, hv, hc, ⟨_, k1⟩, k2, ⟨h.ls.keep fun g' cs hb => ?_, fun j hj => ?_, h.ap⟩, hg⟩
  · exact Below.heap_setCell w _ _ g' fun e => by
      have := (h.wl i hi).ne_ hb (by decide)
      exact this (e ▸ hg)
  · by_cases hji : j = i
    · subst hji
      rw [e1, hv]
      have := k3 x
      simpa using this
    · rw [e2 j hji]
      exact (h.wl j hj).set (fun ho => hji (h.ap j i g hj hi ho hg)) _

set_option maxRecDepth 100000 in
theorem apart_b {A : Option Addr} {n cA : Nat} {V : Nat → Value} {L : Nat → List Int} {w : World} (h : Fl w A n V L) (hcA : n ≤ cA) (hn : n ≤ 4398046511104) (hL : ∀ i, i < n → (L i).length ≤ 17592186043904) :
    Calls Tryd.prog 30 #[.slice A n cA] w fun e w' => e = .returned (.bool true) ∧ Fr (fun k => ∃ i, i < n ∧ own (V i) k) w (fun k => ∃ i, i < n ∧ own (V i) k) w' := by
  have H0 := Lib.hid h
  have HL := Lib.hid hL
  have hni : (n : Int) ≤ 4398046511104 := by omega
  have hci : (n : Int) ≤ cA := by omega
  clear h hL
  go_enter Tryd.func30, Tryd.ntmps30
  go_wp2
  go_loopg [3] n (fun gk c3 wr => ∃ i : Nat, gk + i = n ∧ c3 = .int .i64 (i : Int) ∧ Hid (Fl wr A n V (turned L i 0)) ∧ Hid (Fr (fun k => ∃ i, i < n ∧ own (V i) k) w (fun k => ∃ i, i < n ∧ own (V i) k) wr))
  case atStart => exact ⟨0, rfl, rfl, Lib.hid (by
    have e : turned L 0 0 = L := by funext j; unfold turned; rw [if_neg (by omega)]; split <;> simp [half_zero]
    rw [e]; exact H0.out), Lib.hid (Fr.refl _ _)⟩
  case round =>
    obtain ⟨i, hgk, rfl, HF, HM⟩ := hrel
    have HG := Lib.hid hgk
    clear hgk
    by_cases hi : i < n
    · obtain ⟨m, rfl⟩ : ∃ m, gk = m + 1 := ⟨gk - 1, by have := HG.out; omega⟩
      have hii : (i : Int) < n := by omega
      have hlen := HL.out i hi
      clear H0
      go_wp2
      go_loopg [4] (L i).length (fun gk c4 wr2 => ∃ k : Nat, gk + k = (L i).length ∧ c4 = .int .i64 (k : Int) ∧ Hid (Fl wr2 A n V (turned L i k)) ∧ Hid (Fr (fun k => ∃ i, i < n ∧ own (V i) k) w (fun k => ∃ i, i < n ∧ own (V i) k) wr2))
      case atStart => exact ⟨0, rfl, rfl, HF, HM⟩
      case round =>
        obtain ⟨k, hgk2, rfl, HF2, HM2⟩ := hrel
        have HG2 := Lib.hid hgk2
        clear hgk2
        obtain ⟨g0, o0, hA0, cV, _⟩ := HF2.out.ls.at_ i hi
        subst hA0
        have hlt : (turned L i k i).length = (L i).length := turned_len L fun _ => by have := HG2.out; omega
        by_cases hk : k < (L i).length
        · obtain ⟨m2, rfl⟩ : ∃ m2, gk = m2 + 1 := ⟨gk - 1, by have := HG2.out; omega⟩
          obtain ⟨g, o, c, hv, hc, ⟨y, hy⟩, hz, hF3, hog⟩ := HF2.out.word (M' := turned L i (k + 1)) hi (k := k) (by rw [hlt]; exact hk) (mk i)
            (by unfold turned; rw [if_neg (by omega), if_pos rfl, if_neg (by omega), if_pos rfl, half_set hk]) (fun j hj => by unfold turned; rw [if_neg hj, if_neg hj])
          rw [hlt] at hv hc
          have HF3 := Lib.hid hF3
          have HM3 := Lib.hid (HM2.out.set (p := ⟨g, o + k, none⟩) (.inl ⟨i, hi, hog⟩) (.int .u64 (mk i)))
          rw [hv] at cV
          have hki : (k : Int) < ((L i).length : Int) := by omega
          have hcc : ((L i).length : Int) ≤ c := by omega
          have hmk : Hid (mk i = 1099511627776 + (i : Int)) := Lib.hid rfl
          have hw1 : IntKind.u64.wrap (i : Int) = i := IntWalk.u64_in _ (by omega)
          have hw2 : IntKind.u64.wrap (1099511627776 + (i : Int)) = 1099511627776 + (i : Int) := IntWalk.u64_in _ (by omega)
          rw [hmk.out] at HF3 HM3
          clear hF3 hog HF2 HM2 hlt hc hk hv
          generalize (L i).length = li at *
          go_wp2
          go_roundg m2
          case measure => omega
          case rel => exact ⟨k + 1, by have := HG2.out; omega, by go_num, HF3, HM3⟩
        · obtain rfl : k = (L i).length := by have := HG2.out; omega
          have e : turned L i (L i).length = turned L (i + 1) 0 := funext fun j => turned_next L i j
          rw [e] at HF2
          have hv := (HF2.out.wl i hi).shape
          obtain ⟨A', c', hve, _⟩ := hv
          have hle : (turned L (i + 1) 0 i).length = (L i).length := by rw [← e]; exact hlt
          rw [hle] at hve
          rw [hve] at cV
          clear hlt hve hle e hk
          generalize (L i).length = li at *
          go_wp2
          go_roundg m
          case measure => omega
          case rel => exact ⟨i + 1, by have := HG.out; omega, by go_num, HF2, HM2⟩
    · obtain rfl : i = n := by have := HG.out; omega
      have hs0 : Hid (w.heap.size ≤ wr.heap.size) := Lib.hid HM.out.size
      have hmk : ∀ j, j < i → turned L i 0 j = marks (L j).length j := fun j hj => by unfold turned; rw [if_pos hj]
      have hLg : Hid (Lg wr.heap.size w wr A i 0 V V L (.slice none 0 0)) := Lib.hid ⟨HF.out.ls, fun j hj => by rw [← hmk j hj]; exact (HF.out.wl j hj).lies, fun j _ hj => by rw [← hmk j hj]; exact HF.out.wl j hj, fun j hj => by omega, Rowv.nil _ _ _ _, fun j hj => by omega, fun j hj k hk => (HF.out.wl j hj).lt k hk,
        fun g o hA hn0 => by obtain ⟨g', o', e1, _, cs, hb⟩ := HF.out.ls.at_ 0 hn0; rw [hA] at e1; injection e1 with e1; injection e1 with e1 _ _; subst e1; exact hb.lt,
        fun j hj g o hA ho => by obtain ⟨g', o', e1, _, cs, hb⟩ := HF.out.ls.at_ 0 (by omega); rw [hA] at e1; injection e1 with e1; injection e1 with e1 _ _; subst e1; exact (HF.out.wl j hj).ne_ hb (by decide) ho, HF.out.ap, HM.out, Nat.le_refl _, hs0.out⟩
      clear H0 HF HM hmk hi hs0
      generalize hB : wr.heap.size = B at *
      clear hB
      go_wp2
      go_loopg [5, 6] i (fun gk c5 c6 wr => ∃ (j : Nat) (N : Nat → Value) (A5 : Option Addr) (n5 : Nat), gk + j = i ∧ c5 = .slice A5 j n5 ∧ j ≤ n5 ∧ c6 = .int .i64 (j : Int) ∧ Hid (Lg B w wr A i j V N L (.slice A5 j n5)))
      case atStart => exact ⟨0, V, none, 0, rfl, rfl, Nat.le_refl _, rfl, hLg⟩
      case round =>
        obtain ⟨j, N, A5, n5, hgk, rfl, hn5, rfl, HLg⟩ := hrel
        have HG := Lib.hid hgk
        clear hgk hLg
        by_cases hj : j < i
        · obtain ⟨m, rfl⟩ : ∃ m, gk = m + 1 := ⟨gk - 1, by have := HG.out; omega⟩
          have hji : (j : Int) < i := by omega
          have hlen := HL.out j hj
          obtain ⟨g0, o0, hA0, cV, _⟩ := HLg.out.ls.at_ j hj
          have HA0 := Lib.hid hA0
          subst hA0
          have hwl := HLg.out.wl j (Nat.le_refl _) hj
          obtain ⟨Aj, cj, hve, hcj⟩ := hwl.shape
          rw [marks_len] at hve hcj
          rw [hve] at cV
          have HVE := Lib.hid hve
          have hwl' := Lib.hid hwl
          clear hwl hve
          generalize hll : (L j).length = lj at *
          have HLL := Lib.hid hll
          clear hll
          go_wp2
          go_loopg [7, 8] 20 (fun gk c7 c8 wr2 => ∃ (t : Nat) (A7 : Option Addr) (n7 : Nat) (ml : List Int), gk + t = 20 ∧ Hid (ml = marks (lj + t) j) ∧ c7 = .slice A7 ml.length n7 ∧ c8 = .int .i64 (t : Int) ∧ Wl wr2 (.slice A7 ml.length n7) ml ∧ Hid (Fr (own (V j)) wr (own (.slice A7 ml.length n7)) wr2) ∧ Hid (Lies wr2 (V j) (marks lj j)) ∧ Hid ((∃ c, V j = .slice A7 lj c) ∨ ∀ k, own (V j) k → k < wr2.heap.size ∧ ¬ own (.slice A7 ml.length n7) k))
          case atStart => exact ⟨0, Aj, cj, marks lj j, rfl, Lib.hid rfl, by rw [marks_len], rfl, by have := hwl'.out; rw [HVE.out] at this; rw [marks_len]; exact this, Lib.hid (by rw [HVE.out, marks_len]; exact Fr.refl _ _), Lib.hid hwl'.out.lies, Lib.hid (.inl ⟨cj, HVE.out⟩)⟩
          case round =>
            obtain ⟨t, A7, n7, ml, hgk, hml, rfl, rfl, hw2, HF2, HO2, HS2⟩ := hrel
            rename World => wr2
            have HG2 := Lib.hid hgk
            have hmll : ml.length = lj + t := by rw [hml.out, marks_len]
            clear hgk
            by_cases ht : t < 20
            · obtain ⟨m2, rfl⟩ : ∃ m2, gk = m2 + 1 := ⟨gk - 1, by have := HG2.out; omega⟩
              have hti : (t : Int) < 20 := by omega
              have hbd := Lib.hid (show (ml.length + 1) * 8 ≤ 140737488355328 by omega)
              have HMLL := Lib.hid hmll
              have hw1 : IntKind.u64.wrap (j : Int) = j := IntWalk.u64_in _ (by omega)
              have hw3 : IntKind.u64.wrap (1099511627776 + (j : Int)) = 1099511627776 + (j : Int) := IntWalk.u64_in _ (by omega)
              clear hmll
              go_wp2_with (at_builtin; go_must (refine wpList_word2 _ rfl (.tmp 49) (.tmp 53) rfl (.slice A7 ml.length n7) ml (1099511627776 + (j : Int)) rfl hw2 rfl hbd.out ?_; intro A8 n8 w8 hn8 hw8 hk8 hf8 hs8))
              have HF8 := Lib.hid (HF2.out.trans hf8)
              have hlt0 : ∀ k, own (V j) k → k < wr2.heap.size := fun k hk => by have := HLg.out.lt j hj k hk; have := HLg.out.base; have := HF2.out.size; omega
              have HO8 : Hid (Lies w8 (V j) (marks lj j)) := by
                rcases HS2.out with ⟨c, hc⟩ | hr
                · refine Lib.hid ?_
                  have e : ml = marks lj j ++ marks t j := by rw [hml.out]; simp [marks]
                  obtain ⟨A', cp, e1, h1, h2, _⟩ := HO2.out
                  rw [hc] at e1 ⊢
                  injection e1 with e1 e2 e3
                  subst e1
                  subst e3
                  rw [marks_len] at h1
                  have hcut : Wl w8 (.slice A7 (marks lj j).length n7) (marks lj j) := by
                    refine Wl.cut (m := marks t j) ?_ ?_
                    · rw [← e, marks_len, marks_len, ← HMLL.out]; exact hk8
                    · rw [marks_len, marks_len, ← HMLL.out]
                      obtain ⟨_, _, e4, h4⟩ := hk8.shape
                      injection e4 with _ _ e5
                      omega
                  have := hcut.lies
                  rw [marks_len] at this
                  exact this.cap h1 h2
                · exact Lib.hid (HO2.out.fr hf8 fun k hk => (hr k hk).2)
              have HS8 : Hid ((∃ c, V j = .slice A8 lj c) ∨ ∀ k, own (V j) k → k < w8.heap.size ∧ ¬ own (.slice A8 (ml.length + 1) n8) k) := by
                refine Lib.hid ?_
                have hz := hf8.size
                rcases hs8 with ⟨c, hc⟩ | hr
                · injection hc with hc1 _ _
                  subst hc1
                  exact HS2.out.imp id fun h k hk => ⟨by have := (h k hk).1; omega, fun ho => (h k hk).2 (own_len ho)⟩
                · exact .inr fun k hk => ⟨by have := hlt0 k hk; omega, fun ho => by have := hlt0 k hk; have := hr k ho; omega⟩
              have HW8 := Lib.hid hw8
              clear hw2 hw8 hk8 hf8 hs8 HF2 HO2 HS2 hlt0
              go_wp2
              go_roundg m2
              case measure => omega
              case rel => exact ⟨t + 1, A8, n8, ml ++ [1099511627776 + (j : Int)], by have := HG2.out; omega, Lib.hid (by rw [hml.out, ← Nat.add_assoc, ← marks_succ]; rfl), by simp, by go_num, by simpa using HW8.out, by simpa using HF8, HO8, by simpa using HS8⟩
            · obtain rfl : t = 20 := by have := HG2.out; omega
              have HW2 : Hid (Wl wr2 (.slice A7 ml.length n7) (marks (lj + 20) j)) := Lib.hid (by rw [← hml.out]; exact hw2)
              have hrow := HLg.out.row
              have hkeep : ∀ k, own (.slice A5 j n5) k → wr2.heap[k]? = wr.heap[k]? := fun k hk => HF2.out.block k (hrow.lt hk).2 fun ho => by have := HLg.out.lt j hj k ho; have := (hrow.lt hk).1; omega
              have hrow2 : Rowv wr2 B 39 1 (.slice A5 j n5) j ((List.range j).map N) := hrow.keep hkeep
              have hrow3 := Lib.hid (hrow2.alloc (.cells #[.slice A7 ml.length n7] 39))
              have hB2 : Hid (B ≤ wr2.heap.size + 1) := Lib.hid (by have := HLg.out.base; have := HF2.out.size; omega)
              obtain ⟨i0, hi0, hz0, hz1, hz3⟩ := info_parts sl_info
              have hbd := Lib.hid (show (j + 1) * 24 ≤ 140737488355328 by omega)
              have hbd2 : Hid (j + 1 ≤ maxLen) := Lib.hid (by unfold maxLen; omega)
              clear hw2 hrow hkeep hrow2 hmll ht
              go_wp2_with (at_builtin; go_must (refine wpList_app _ rfl (.tmp 55) (.tmp 57) 72 rfl 39 i0 (.slice none 0 0) 1 24 Tryd.underlying72 hi0 hz0 hz1 hz3 rfl (by decide) B (.slice A5 j n5) j ((List.range j).map N) rfl hrow3.out _ 1 [.slice A7 ml.length n7] rfl (Src.lit wr2 (vs := [.slice A7 ml.length n7]) rfl (by simp [Value.oneCell']) 1) hbd2.out hbd.out (by simpa using hB2.out) ?_; intro v9 w9 hrow9 hgr9 hown9; obtain ⟨A9, n9, rfl, hn9, _⟩ := hrow9.shape))
              have hf9 : Fr (own (.slice A5 j n5)) wr2 (own (.slice A9 (j + 1) n9)) w9 := by
                refine ((Fr.refl (own (.slice A5 j n5)) wr2).alloc (.cells #[.slice A7 ml.length n7] 39)).trans (Fr.into ((Fr.refl (own (.slice A5 j n5)) _).grown hgr9 (fun k hk => .inl hk)) fun k hk => ?_)
                rcases hown9 with e | ⟨k', e, hk'⟩
                · exact .inl (by unfold own at *; rw [← e]; exact hk)
                · unfold own at hk
                  rw [hk] at e
                  injection e with e
                  subst e
                  exact .inr (.inr hk')
              have HL9 := Lib.hid (lg_step HLg.out hj HF2.out (by rw [HLL.out]; exact HW2.out) (by rw [HLL.out]; exact HO2.out) hrow9 hf9)
              clear hrow9 hgr9 hown9 hf9 hrow3
              go_wp2
              go_roundg m
              case measure => omega
              case rel => exact ⟨j + 1, _, A9, n9, by have := HG.out; omega, rfl, hn9, by go_num, HL9⟩
        · obtain rfl : j = i := by have := HG.out; omega
          clear hj
          have hrel3 : Hid (∀ i, i < j → ∃ g o c g1 o1, wr.cell? ⟨g1, o1 + i, none⟩ = some (.slice (some ⟨g, o, none⟩) ((L i).length + 20) c) ∧ A5 = some ⟨g1, o1, none⟩ ∧ (L i).length + 20 ≤ c ∧ ∀ k, k < (L i).length + 20 → wr.cell? ⟨g, o + k, none⟩ = some (.int .u64 (mk i))) := Lib.hid fun i hi => by
            obtain ⟨g1, o1, c1, e1, _, _, _, hc⟩ := HLg.out.row.at_ (by omega)
            injection e1 with e1 _ _
            obtain ⟨A', c', e2, h1, _, h2⟩ := HLg.out.new i hi
            rw [marks_len] at h1 h2 e2
            obtain ⟨g, o, e3, _⟩ := h2 0 (by omega)
            refine ⟨g, o, c', g1, o1, ?_, e1, h1, fun k hk => ?_⟩
            · rw [(hc i (by omega)).1]
              simp [List.getElem?_map, hi, e2, e3]
            · obtain ⟨g', o', e4, h4⟩ := h2 k hk
              rw [e3] at e4
              injection e4 with e4
              injection e4 with e4 e5 _
              subst e4
              subst e5
              rw [h4, marks_get hk]
          have hrelV : Hid (∀ i, i < j → ∃ V0 c g1 o1, wr.cell? ⟨g1, o1 + i, none⟩ = some (.slice V0 (L i).length c) ∧ A = some ⟨g1, o1, none⟩ ∧ (L i).length ≤ c ∧ ∀ k, k < (L i).length → ∃ g o, V0 = some ⟨g, o, none⟩ ∧ wr.cell? ⟨g, o + k, none⟩ = some (.int .u64 (mk i))) := Lib.hid fun i hi => by
            obtain ⟨g1, o1, hA, hc, _⟩ := HLg.out.ls.at_ i hi
            obtain ⟨A', c', e2, h1, _, h2⟩ := HLg.out.old i hi
            rw [marks_len] at h1 h2 e2
            refine ⟨A', c', g1, o1, by rw [hc, e2], hA, h1, fun k hk => ?_⟩
            obtain ⟨g, o, e3, h3⟩ := h2 k hk
            exact ⟨g, o, e3, by rw [h3, marks_get hk]⟩
          have hfin := Lib.hid HLg.out.fr
          have hn5i : (j : Int) ≤ n5 := by omega
          clear HLg
          go_wp2
          go_loopg [9] j (fun gk c9 wr3 => ∃ i : Nat, gk + i = j ∧ c9 = .int .i64 (i : Int) ∧ wr3 = wr)
          case atStart => exact ⟨0, rfl, rfl, rfl⟩
          case round =>
            obtain ⟨i, hgk, rfl, rfl⟩ := hrel
            have HG := Lib.hid hgk
            clear hgk
            by_cases hi : i < j
            · obtain ⟨m, rfl⟩ : ∃ m, gk = m + 1 := ⟨gk - 1, by have := HG.out; omega⟩
              have hii : (i : Int) < j := by omega
              have hlen := HL.out i hi
              obtain ⟨g, o, c, g1, o1, n1, rfl, n2, n3⟩ := hrel3.out i hi
              obtain ⟨V0, c0, g2, o2, v1, rfl, v2, v3⟩ := hrelV.out i hi
              have HN3 := Lib.hid n3
              have HV3 := Lib.hid v3
              clear n3 v3
              generalize (L i).length = li at *
              go_wp2
              go_loopg [10] (li + 20) (fun gk c10 wr4 => ∃ k : Nat, gk + k = li + 20 ∧ c10 = .int .i64 (k : Int) ∧ wr4 = wr)
              case atStart => exact ⟨0, rfl, rfl, rfl⟩
              case round =>
                obtain ⟨k, hgk, rfl, rfl⟩ := hrel
                have HG2 := Lib.hid hgk
                clear hgk
                by_cases hk : k < li + 20
                · obtain ⟨m2, rfl⟩ : ∃ m2, gk = m2 + 1 := ⟨gk - 1, by have := HG2.out; omega⟩
                  have hki : (k : Int) < (li : Int) + 20 := by omega
                  have hkc : (k : Int) < c := by omega
                  have hcell := HN3.out k hk
                  have hw1 : IntKind.u64.wrap (i : Int) = i := IntWalk.u64_in _ (by omega)
                  have hw3 : IntKind.u64.wrap (1099511627776 + (i : Int)) = 1099511627776 + (i : Int) := IntWalk.u64_in _ (by omega)
                  have hmk : mk i = 1099511627776 + (i : Int) := rfl
                  rw [hmk] at hcell
                  by_cases hk2 : k < li
                  · obtain ⟨g5, o5, rfl, hc5⟩ := HV3.out k hk2
                    rw [hmk] at hc5
                    have hk2i : (k : Int) < li := by omega
                    clear hmk
                    go_wp2
                    go_roundg m2
                    case measure => omega
                    case rel => exact ⟨k + 1, by have := HG2.out; omega, by go_num, rfl⟩
                  · have hk2i : (li : Int) ≤ k := by omega
                    clear hmk hk2
                    go_wp2
                    go_roundg m2
                    case measure => omega
                    case rel => exact ⟨k + 1, by have := HG2.out; omega, by go_num, rfl⟩
                · obtain rfl : k = li + 20 := by have := HG2.out; omega
                  clear hk
                  go_wp2
                  go_roundg m
                  case measure => omega
                  case rel => exact ⟨i + 1, by have := HG.out; omega, by go_num, rfl⟩
            · obtain rfl : i = j := by have := HG.out; omega
              clear hi
              go_wp2
              go_ret
              exact ⟨rfl, hfin.out⟩
end Go.Proofs.YtfhpnlaabgkpjaaDoor
/- LogsRedo: the answers that are told of, beside the logs. -/
namespace Go.Proofs.YtfhpnlaabgkpjaaDoor
open Go.RowKit Go.Shelf
set_option maxHeartbeats 8000000
set_option linter.unusedVariables false
set_option linter.unusedSimpArgs false

def tval (t : Option Addr × Nat × Nat) : Value := .slice t.1 t.2.1 t.2.2
def encT (t : Option Addr × Nat × Nat) : List Value := [.slice t.1 t.2.1 t.2.2]
theorem encT_len (t : Option Addr × Nat × Nat) : (encT t).length = 1 := rfl
theorem encT_one (t : Option Addr × Nat × Nat) : ∀ u ∈ encT t, u.oneCell' = true := by
  intro u hu
  obtain rfl := List.mem_singleton.1 hu
  rfl
abbrev Ts (w : World) (v : Value) (l : List (Option Addr × Nat × Nat)) : Prop := Sl 39 1 encT w v l
theorem wpList_told {ops : Array Oper} {rest : List Oper} {o : Oper} {a : Act} {Q : Exit → Act → World → Prop} (wr : World) (hgd : o.guard = none) (s x : Operand)
    (ho : o.op = .call { callee := .builtin .append, args := #[s, x], argTypes := #[72, 72] })
    (v : Value) (l : List (Option Addr × Nat × Nat)) (A0 : Option Addr) (n0 c0 : Nat) (hs : a.eval s = v) (hl : Ts wr v l) (hx : a.eval x = .slice (some ⟨wr.heap.size, 0, none⟩) 1 1) (hb1 : l.length + 1 ≤ 9223372036854775807) (hlen : (l.length + 1) * 24 ≤ 140737488355328)
    (h : ∀ A cap w', l.length + 1 ≤ cap → Ts w' (.slice A (l.length + 1) cap) (l ++ [(A0, n0, c0)]) → Fr (own v) wr (own (.slice A (l.length + 1) cap)) w' → wpList Tryd.prog ops Q rest (a.put o.dst (.slice A (l.length + 1) cap)) w') :
    wpList Tryd.prog ops Q (o :: rest) a (wr.alloc (.cells #[.slice A0 n0 c0] 39)) :=
  wpList_one (enc := encT) encT_len encT_one wr hgd s x 72 ho Tryd.underlying72 sl_info rfl (by decide) v l (A0, n0, c0) hs hl hx hb1 hlen h
structure Td (w : World) (Y : Nat → Prop) (v : Value) (tv : List (Option Addr × Nat × Nat)) (L : Nat → List Int) : Prop where
  sl : Ts w v tv
  wl : ∀ i (hi : i < tv.length), Wl w (tval (tv[i]'hi)) (L i)
  ap : ∀ i j (hi : i < tv.length) (hj : j < tv.length) k, own (tval (tv[i]'hi)) k → own (tval (tv[j]'hj)) k → i = j
  inY : ∀ k, own v k → Y k
  inZ : ∀ i (hi : i < tv.length) k, own (tval (tv[i]'hi)) k → Y k
  lt : ∀ k, Y k → k < w.heap.size
  le : ∀ i, i < tv.length → (L i).length ≤ 17592186043904
section
variable {w w' : World} {Y G G' : Nat → Prop} {v v' : Value} {tv : List (Option Addr × Nat × Nat)} {L : Nat → List Int}
theorem Td.nil (w : World) : Td w (fun _ => False) (.slice none 0 0) [] (fun _ => []) := ⟨Sl.nil _, fun i hi => by simp at hi, fun i j hi => by simp at hi, fun k hk => own_nil' _ _ _ hk, fun i hi => by simp at hi, fun k hk => hk.elim, fun i hi => by simp at hi⟩
theorem Td.fr (h : Td w Y v tv L) (hf : Fr G w G' w') (hG : ∀ k, Y k → ¬ G k) : Td w' Y v tv L :=
  ⟨Sl.fr h.sl hf fun k hk => hG k (h.inY k hk), fun i hi => (h.wl i hi).fr hf fun k hk => hG k (h.inZ i hi k hk), h.ap, h.inY, h.inZ, fun k hk => Nat.lt_of_lt_of_le (h.lt k hk) hf.size, h.le⟩
theorem Td.add {t : Option Addr × Nat × Nat} {l' : List Int} (h : Td w Y v tv L) (hu : Wl w (tval t) l') (hfr : ∀ k, own (tval t) k → ¬ Y k) (hle : l'.length ≤ 17592186043904) (hs : Ts w' v' (tv ++ [t])) (hf : Fr (own v) w (own v') w') :
    Td w' (fun k => Y k ∨ own v' k ∨ own (tval t) k) v' (tv ++ [t]) (upd L tv.length l') := by
  have hne : ∀ {t' : Option Addr × Nat × Nat} {m : List Int}, Wl w (tval t') m → ∀ k, own (tval t') k → ¬ own v k := fun hw k hk hv => by
    obtain ⟨cs, hb⟩ := Sl.ofBlk h.sl hv
    exact Rowv.ne_ hw hb (by decide) hk
  have hlen : (tv ++ [t]).length = tv.length + 1 := by simp
  have c2 : ∀ i, i < tv.length + 1 → i < tv.length ∨ i = tv.length := fun i hi => by omega
  refine ⟨hs, fun i hi => ?_, fun i j hi hj k hki hkj => ?_, fun k hk => .inr (.inl hk), fun i hi k hk => ?_, fun k hk => ?_, fun i hi => ?_⟩
  · rw [hlen] at hi
    rcases c2 i hi with h1 | rfl
    · rw [upd_ne _ _ (by omega)]
      have := (h.wl i h1).fr hf (hne (h.wl i h1))
      simpa [List.getElem_append_left h1] using this
    · rw [upd_self]
      have := hu.fr hf (hne hu)
      simpa using this
  · rw [hlen] at hi hj
    rcases c2 i hi with h1 | rfl <;> rcases c2 j hj with h2 | rfl
    · rw [List.getElem_append_left h1] at hki
      rw [List.getElem_append_left h2] at hkj
      exact h.ap i j h1 h2 k hki hkj
    · rw [List.getElem_append_left h1] at hki
      have hkj : own (tval t) k := by simpa using hkj
      exact (hfr k hkj (h.inZ i h1 k hki)).elim
    · rw [List.getElem_append_left h2] at hkj
      have hki : own (tval t) k := by simpa using hki
      exact (hfr k hki (h.inZ j h2 k hkj)).elim
    · rfl
  · rw [hlen] at hi
    rcases c2 i hi with h1 | rfl
    · rw [List.getElem_append_left h1] at hk
      exact .inl (h.inZ i h1 k hk)
    · exact .inr (.inr (by simpa using hk))
  · rcases hk with hk | hk | hk
    · exact Nat.lt_of_lt_of_le (h.lt k hk) hf.size
    · exact Sl.lt hs k hk
    · exact Nat.lt_of_lt_of_le (hu.lt k hk) hf.size
  · rw [hlen] at hi
    rcases c2 i hi with h1 | rfl
    · rw [upd_ne _ _ (by omega)]; exact h.le i h1
    · rw [upd_self]; exact hle
/-- what Apart asks -/
theorem Td.fl {A : Option Addr} {n c : Nat} (h : Td w Y (.slice A n c) tv L) : n = tv.length ∧ n ≤ c ∧ Fl w A n (fun i => if hi : i < tv.length then tval (tv[i]'hi) else .slice none 0 0) L := by
  obtain ⟨A', c', e, hc⟩ := Sl.shape h.sl
  injection e with e1 e2 e3
  subst e1 e2 e3
  refine ⟨rfl, hc, ⟨fun i hi => ?_⟩, fun i hi => ?_, fun i j k hi hj hki hkj => ?_⟩
  · obtain ⟨g, o, rfl, hg, hcell⟩ := Sl.cell encT_len (by decide) h.sl hi
    obtain ⟨k1, k2⟩ := hcell i hi 0 (by decide)
    obtain ⟨cs, hb⟩ := Sl.ofBlk (k := g) h.sl rfl
    refine ⟨g, o, rfl, ?_, cs, hb⟩
    rw [dif_pos hi]
    simpa [encT, tval] using k1
  · rw [dif_pos hi]; exact h.wl i hi
  · rw [dif_pos hi] at hki
    rw [dif_pos hj] at hkj
    exact h.ap i j hi hj k hki hkj
end
/-- the logs, and what is told of -/
structure LT (w wr : World) (bo bq : Nat) (r q : Nat → Nat) (mm : Nat) (X : Nat → Nat → Prop) (l : Nat → List (Int × Int)) (i t : Nat) (v : Value) (tv : List (Option Addr × Nat × Nat)) (L : Nat → List Int) (Y : Nat → Prop) : Prop where
  lr : LR w wr bo bq r q mm X l
  td : Td wr Y v tv L
  dj : ∀ k, Y k → w.heap.size ≤ k ∧ k ≠ bo ∧ k ≠ bq ∧ ∀ j, j < 2 → ¬ X j k
  ln : ∀ j, j < 2 → (l j).length ≤ i
  tn : tv.length ≤ t
section
variable {w wr w' : World} {bo bq : Nat} {r q : Nat → Nat} {mm n i t : Nat} {X : Nat → Nat → Prop} {l : Nat → List (Int × Int)} {v v' : Value} {tv : List (Option Addr × Nat × Nat)} {L : Nat → List Int} {Y : Nat → Prop}
theorem LT.new_ {F : Nat → Prop} (h : LT w wr bo bq r q mm X l i t v tv L Y) (hf : Fr (fun _ => False) wr F w') : LT w w' bo bq r q mm X l i t v tv L Y :=
  ⟨h.lr.new_ hf, h.td.fr hf fun _ _ h => h, h.dj, h.ln, h.tn⟩
theorem LT.drewN (h : LT w wr bo bq r q mm X l i t v tv L Y) (k : Nat) : LT w (wr.drewN k) bo bq r q mm X l i t v tv L Y := h.new_ ((Fr.refl (fun _ => False) wr).drewN k)
theorem LT.weak {t' : Nat} (h : LT w wr bo bq r q mm X l i t v tv L Y) (ht : t ≤ t') : LT w wr bo bq r q mm X l i t' v tv L Y := ⟨h.lr, h.td, h.dj, h.ln, Nat.le_trans h.tn ht⟩
theorem LT.step (h : LT w wr bo bq r q mm X l i t v tv L Y) (hn : n < 2) {X' : Nat → Prop} {l' : List (Int × Int)} (hf : Fr (X n) wr X' w') (hp : RP w' X' (r n) (q n) mm l') (hl : l'.length ≤ (l n).length + 1) : LT w w' bo bq r q mm (upd X n X') (upd l n l') (i + 1) t v tv L Y := by
  refine ⟨h.lr.step hn hf hp, h.td.fr hf fun k hk => (h.dj k hk).2.2.2 n hn, fun k hk => ?_, fun j hj => ?_, h.tn⟩
  · obtain ⟨d1, d2, d3, d4⟩ := h.dj k hk
    refine ⟨d1, d2, d3, fun j hj hx => ?_⟩
    by_cases e : j = n
    · subst e
      rw [upd_self] at hx
      exact (hf.new k hx).elim (d4 j hj) fun h1 => by have := h.td.lt k hk; omega
    · rw [upd_ne _ _ e] at hx; exact d4 j hj hx
  · by_cases e : j = n
    · subst e; rw [upd_self]; have := h.ln j hj; omega
    · rw [upd_ne _ _ e]; have := h.ln j hj; omega
theorem LT.copied (h : LT w wr bo bq r q mm X l i t v tv L Y) {m : Nat} (hn : n < 2) (hm : m < 2) {w1 w3 : World} {s s2 : Nat} {G1 G2 : Nat → Prop} (h1 : RoW w1 s G1 mm (redo (l m)) (pasts (l m))) (f1 : Fr (fun _ => False) wr G1 w1)
    (h3 : LgR w3 s2 G2 mm (l m)) (f3 : Fr (fun _ => False) (w1.setCell ⟨bo, n, none⟩ (.pointer (some ⟨s, 0, none⟩))) G2 w3) :
    LT w (w3.setCell ⟨bq, n, none⟩ (.pointer (some ⟨s2, 0, none⟩))) bo bq (upd r n s) (upd q n s2) mm (upd X n fun b => G1 b ∨ G2 b) (upd l n (l m)) i t v tv L Y := by
  have f2 : Fr (fun b => b = bo) w1 (fun b => b = bo) (w1.setCell ⟨bo, n, none⟩ (.pointer (some ⟨s, 0, none⟩))) := (Fr.refl (fun b => b = bo) w1).set (p := ⟨bo, n, none⟩) (.inl rfl) _
  have f4 : Fr (fun b => b = bq) w3 (fun b => b = bq) (w3.setCell ⟨bq, n, none⟩ (.pointer (some ⟨s2, 0, none⟩))) := (Fr.refl (fun b => b = bq) w3).set (p := ⟨bq, n, none⟩) (.inl rfl) _
  have s2w : (w1.setCell ⟨bo, n, none⟩ (.pointer (some ⟨s, 0, none⟩))).heap.size = w1.heap.size := by simp [World.setCell]
  have z1 := f1.size
  refine ⟨h.lr.copied hn hm h1 f1 h3 f3, (((h.td.fr f1 fun _ _ h => h).fr f2 fun k hk => (h.dj k hk).2.1).fr f3 fun _ _ h => h).fr f4 fun k hk => (h.dj k hk).2.2.1, fun k hk => ?_, fun j hj => ?_, h.tn⟩
  · obtain ⟨d1, d2, d3, d4⟩ := h.dj k hk
    have hlt := h.td.lt k hk
    refine ⟨d1, d2, d3, fun j hj hx => ?_⟩
    by_cases e : j = n
    · subst e
      rw [upd_self] at hx
      rcases hx with hx | hx
      · exact (f1.new k hx).elim (fun h => h) fun h1 => by omega
      · exact (f3.new k hx).elim (fun h => h) fun h1 => by rw [s2w] at h1; omega
    · rw [upd_ne _ _ e] at hx; exact d4 j hj hx
  · by_cases e : j = n
    · subst e; rw [upd_self]; exact h.ln m hm
    · rw [upd_ne _ _ e]; exact h.ln j hj
theorem LT.add {W0 : World} {u : Option Addr × Nat × Nat} {l' : List Int} (h0 : LT w W0 bo bq r q mm X l i t v tv L Y) (h : LT w wr bo bq r q mm X l i t v tv L Y) (hu : Wl wr (tval u) l') (hfr : ∀ k, own (tval u) k → W0.heap.size ≤ k) (hge : W0.heap.size ≤ wr.heap.size) (hle : l'.length ≤ 17592186043904)
    (hs : Ts w' v' (tv ++ [u])) (hf : Fr (own v) wr (own v') w') : LT w w' bo bq r q mm X l i (t + 1) v' (tv ++ [u]) (upd L tv.length l') (fun k => Y k ∨ own v' k ∨ own (tval u) k) := by
  have fresh : ∀ k, W0.heap.size ≤ k → w.heap.size ≤ k ∧ k ≠ bo ∧ k ≠ bq ∧ ∀ j, j < 2 → ¬ X j k := fun k hk => by
    have a1 := h0.lr.fr.size
    have a2 := h0.lr.ow.lt
    have a3 := h0.lr.rf.lt
    exact ⟨by omega, by omega, by omega, fun j hj hx => by have := (h0.lr.pd j hj).lt k hx; omega⟩
  have hv : ∀ k, own v k → ¬ (w.heap.size > k) ∧ ∀ j, j < 2 → ¬ X j k := fun k hk => ⟨by have := (h.dj k (h.td.inY k hk)).1; omega, (h.dj k (h.td.inY k hk)).2.2.2⟩
  refine ⟨⟨fun j hj => (h.lr.pd j hj).fr hf (fun b hb ho => (h.dj b (h.td.inY b ho)).2.2.2 j hj hb) fun ho => ?_, h.lr.dis, hf.blk h.lr.ow fun ho => (h.dj bo (h.td.inY bo ho)).2.1 rfl, hf.blk h.lr.rf fun ho => (h.dj bq (h.td.inY bq ho)).2.2.1 rfl, h.lr.off, h.lr.go, h.lr.gq, h.lr.fr.beside hf fun k hk => (h.dj k (h.td.inY k hk)).1, h.lr.tab⟩,
    h.td.add hu (fun k hk hy => by have := h0.td.lt k hy; have := hfr k hk; omega) hle hs hf, fun k hk => ?_, h.ln, by rw [List.length_append, List.length_singleton]; have := h.tn; omega⟩
  · have := (h.dj 1 (h.td.inY 1 ho)).1
    have := h.lr.tab.lt
    omega
  · rcases hk with hk | hk | hk
    · exact h.dj k hk
    · exact (hf.new k hk).elim (fun ho => h.dj k (h.td.inY k ho)) fun h1 => fresh k (by omega)
    · exact fresh k (hfr k hk)
/-- what Apart turns is told of -/
theorem LT.apart {A : Option Addr} {m c : Nat} (h : LT w wr bo bq r q mm X l i t (.slice A m c) tv L Y) (ht : t ≤ 4398046511104) : Calls Tryd.prog 30 #[.slice A m c] wr fun e w' => e = .returned (.bool true) ∧ LR w w' bo bq r q mm X l := by
  obtain ⟨rfl, hc, hF⟩ := h.td.fl
  refine (apart_b hF hc (by have := h.tn; omega) fun i hi => h.td.le i hi).mono ?_
  rintro _ w1 ⟨rfl, hf⟩
  have hY : ∀ k, (∃ i, i < tv.length ∧ own (if hi : i < tv.length then tval (tv[i]'hi) else .slice none 0 0) k) → Y k := fun k ⟨i, hi, hk⟩ => by
    rw [dif_pos hi] at hk
    exact h.td.inZ i hi k hk
  refine ⟨rfl, fun j hj => (h.lr.pd j hj).fr hf (fun b hb ho => (h.dj b (hY b ho)).2.2.2 j hj hb) fun ho => ?_, h.lr.dis, hf.blk h.lr.ow fun ho => (h.dj bo (hY bo ho)).2.1 rfl, hf.blk h.lr.rf fun ho => (h.dj bq (hY bq ho)).2.2.1 rfl, h.lr.off, h.lr.go, h.lr.gq, h.lr.fr.beside hf fun k hk => (h.dj k (hY k hk)).1, h.lr.tab⟩
  have := (h.dj 1 (hY 1 ho)).1
  have := h.lr.tab.lt
  omega
theorem LR.cells (h : LR w wr bo bq r q mm X l) {j : Nat} (hj : j < 2) :
    wr.cell? ⟨bo, j, none⟩ = some (.pointer (some ⟨r j, 0, none⟩)) ∧ wr.cell? ⟨bq, j, none⟩ = some (.pointer (some ⟨q j, 0, none⟩)) ∧ wr.frozen? ⟨bo, j, none⟩ = false ∧ wr.frozen? ⟨bq, j, none⟩ = false :=
  ⟨(h.ow.cell j).trans (ptr2_get r hj), (h.rf.cell j).trans (ptr2_get q hj), h.ow.frozen j, h.rf.frozen j⟩
end
end Go.Proofs.YtfhpnlaabgkpjaaDoor
