/- SkipMeans: the law's walk. -/
import Derived.Test.YtgbgodhkehnbdaaSkM6
import Derived.Test.YtgbgodhkehnbdaaSkM8
import Derived.Test.YtgbgodhkehnbdaaInt
namespace Go.Proofs.Ytgbgodhkehnbdaa
open Go.RowKit
set_option maxHeartbeats 40000000
set_option linter.unusedVariables false
set_option linter.unusedSimpArgs false

theorem keepCell {B : Nat} {w w' : World} {p : Addr} {v : Value} (hb : Below B w w') (hB : w.heap.size ≤ B) (h : w.cell? p = some v) : w'.cell? p = some v := by
  have hlt : p.block < w.heap.size := Nat.lt_of_not_le fun hh => by
    unfold World.cell? at h
    rw [Array.getElem?_eq_none hh] at h
    cases h
  exact (hb.cell (Nat.lt_of_lt_of_le hlt hB)).trans h

/-- where the loop stands -/
def MnJ (W wr : World) (t u : Nat) (k : Nat) (A : Option Addr) (n cp : Nat) : Prop := ∃ (F G : Nat → Prop) (s r : St) (l : List Int), n = l.length ∧ n ≤ cp ∧ Two (fun k => W.heap.size ≤ k) W wr t u (.slice A n cp) F G s r l l l k ∧ s.log = [] ∧ r.log = []

/-- two rooms, made -/
theorem Duo.make {W w0 w1 w2 : World} (h0 : Below W.heap.size W w0) (hz1 : Wl w1 (.slice (some ⟨w0.heap.size, 0, none⟩) 2000 2000) (List.replicate 2000 0)) (hb1 : Below w0.heap.size w0 w1)
    (hz2 : Wl w2 (.slice (some ⟨(w1.alloc (.cells #[.slice (some ⟨w0.heap.size, 0, none⟩) 2000 2000, .slice none 0 0, .int .i64 0, .int .i64 0] 32)).heap.size, 0, none⟩) 2000 2000) (List.replicate 2000 0))
    (hb2 : Below (w1.alloc (.cells #[.slice (some ⟨w0.heap.size, 0, none⟩) 2000 2000, .slice none 0 0, .int .i64 0, .int .i64 0] 32)).heap.size (w1.alloc (.cells #[.slice (some ⟨w0.heap.size, 0, none⟩) 2000 2000, .slice none 0 0, .int .i64 0, .int .i64 0] 32)) w2) :
    ∃ F G, Duo (fun k => W.heap.size ≤ k) W (w2.alloc (.cells #[.slice (some ⟨(w1.alloc (.cells #[.slice (some ⟨w0.heap.size, 0, none⟩) 2000 2000, .slice none 0 0, .int .i64 0, .int .i64 0] 32)).heap.size, 0, none⟩) 2000 2000, .slice none 0 0, .int .i64 0, .int .i64 0] 32)) w1.heap.size w2.heap.size F G st0 st0 := by
  have k1 := Txw.make (l := List.replicate 2000 0) (cp := 2000) (g := w0.heap.size) (by rw [List.length_replicate]; exact hz1) (by rw [List.length_replicate]; omega) 0 0
  have k2 := Txw.make (l := List.replicate 2000 0) (cp := 2000) (by rw [List.length_replicate]; exact hz2) (by rw [List.length_replicate]; omega) 0 0
  rw [List.length_replicate] at k1 k2
  have s0 := h0.size
  have s1 := hb1.size
  have s2 := hb2.size
  have l1 := hz1.lt w0.heap.size rfl
  have l2 := hz2.lt _ rfl
  have c1 := hb1.alloc hb1.size (.cells #[.slice (some ⟨w0.heap.size, 0, none⟩) 2000 2000, .slice none 0 0, .int .i64 0, .int .i64 0] 32)
  simp only [World.size_alloc] at s2 l2
  have hbel : ∀ (o : Obj), Below W.heap.size W (w2.alloc o) := fun o => ((h0.trans (c1.mono s0)).trans (hb2.mono (by simp; omega))).alloc (by omega) o
  refine ⟨_, _, (k1.keep fun k hk => (hb2.block k (k1.lt k hk))).alloc _, k2, st0_fits, st0_fits, fun k hk hg => ?_, ?_, ?_⟩
  · simp only [World.size_alloc] at hg
    rcases hk with rfl | rfl <;> rcases hg with hg | hg <;> omega
  · exact (Fr.of_below (hbel _) (Nat.le_refl _) (fun k => W.heap.size ≤ k)).into fun k hk => .inr (.inl (by rcases hk with rfl | rfl <;> omega))
  · exact (Fr.of_below (hbel _) (Nat.le_refl _) (fun k => W.heap.size ≤ k)).into fun k hk => .inr (.inl (by simp only [World.size_alloc] at hk; rcases hk with rfl | rfl <;> omega))

set_option maxRecDepth 100000 in
theorem skipMeans_walk {W : World} {A B : Option Addr} {n c c2 : Nat} {lv : List Int} (h1 : RowsIn W A n c [.i64, .i64, .u64, .u64, .u64, .u64]) (h2 : IntsIn W B lv c2) :
    Calls Try.prog 5 #[.slice A n c, .slice B lv.length c2] W fun e w' => e = .returned (.bool true) ∧ Below W.heap.size W w' := by
  have hn : n * 48 ≤ 140737488351232 := by have := h1.len; simpa using this
  have hn2 := h2.len
  have hn2c := h2.cap
  have hni : (n : Int) ≤ 9223372036854775807 := by omega
  have hni2 : (lv.length : Int) ≤ 9223372036854775807 := by omega
  have H1 := Lib.hid h1
  have H2 := Lib.hid h2
  clear h1 h2 hn hn2
  go_enter Try.func5, Try.ntmps5
  go_upto_region 5 with (first
    | (go_at_call 11; refine (known_b _).mono ?_; rintro e w0 ⟨rfl, hk0⟩)
    | (refine wpList_zeros w0 rfl _ _ rfl .i64 .i64 2000 2000 2000 rfl rfl rfl rfl (by omega) ?_; intro w1 hz1 hb1)
    | (refine wpList_zeros (w1.alloc _) rfl _ _ rfl .i64 .i64 2000 2000 2000 rfl rfl rfl rfl (by omega) ?_; intro w2 hz2 hb2))
  obtain ⟨F0, G0, hduo⟩ := Duo.make hk0 hz1 hb1 hz2 hb2
  clear hz1 hb1 hz2 hb2 hk0
  simp only [World.size_alloc] at hduo
  have HD0 := Lib.hid hduo
  clear hduo
  generalize hwB : w2.alloc (.cells #[.slice (some ⟨w1.heap.size + 1, 0, none⟩) 2000 2000, .slice none 0 0, .int .i64 0, .int .i64 0] 32) = wB at *
  generalize w1.heap.size = t at *
  generalize w2.heap.size = u at *
  clear hwB
  obtain ⟨s1, q1, hs1⟩ := set_start
  have Q1 := Lib.hid q1
  have HS1 := Lib.hid hs1
  have b0 : Hid (Bud st0 1000000) := Lib.hid (by unfold Bud st0; simp)
  clear q1 hs1
  go_wp2_with fail
  refine (lay_b (n := 900000) HD0.out.tx HD0.out.fs (b0.out.mono (by omega)) (by omega) (by omega) (by omega) (by omega) (by omega) (Fr.refl _ _)).mono ?_
  rintro e w3 ⟨e3, s1', q, rfl, f3, bt3, F3, hw3, hm3⟩
  obtain ⟨rfl, rfl⟩ : 0 = e3 ∧ s1 = s1' := by have := Q1.out.symm.trans q.out; simpa using this
  have HD3 := Lib.hid (HD0.out.left hw3 f3 hm3)
  have Bt := Lib.hid bt3
  clear q f3 hw3 hm3 HD0 bt3
  go_wp2_with (go_at_call 16; refine (num_b _ _).mono ?_; rintro e _ ⟨rfl, rfl⟩)
  refine (lay_b (n := 900000) HD3.out.ux HD3.out.fr (b0.out.mono (by omega)) (by omega) (by omega) (by omega) (by omega) (by omega) (Fr.refl _ _)).mono ?_
  rintro e w4 ⟨e4, r1', q, rfl, f4, bu4, G4, hw4, hm4⟩
  obtain ⟨rfl, rfl⟩ : 0 = e4 ∧ s1 = r1' := by have := Q1.out.symm.trans q.out; simpa using this
  have HD4 := Lib.hid (HD3.out.right hw4 f4 hm4)
  clear q f4 hw4 hm4 HD3 bu4
  obtain ⟨s2, q2, hs2⟩ := HS1.out (Bt.out.mono (by omega))
  have Q2 := Lib.hid q2
  have HS2 := Lib.hid hs2
  clear q2 hs2
  go_wp2_with (go_at_call 16; refine (num_b _ _).mono ?_; rintro e _ ⟨rfl, rfl⟩)
  refine (sklay_b (n := 800000) HD4.out.tx HD4.out.fs (Bt.out.mono (by omega)) (by omega) (Fr.refl _ _)).mono ?_
  rintro e w5 ⟨e5, s2', q, rfl, f5, bt5, F5, hw5, hm5⟩
  obtain ⟨rfl, rfl⟩ : 0 = e5 ∧ s2 = s2' := by have := Q2.out.symm.trans q.out; simpa using this
  have HD5 := Lib.hid (HD4.out.left hw5 f5 hm5)
  clear q f5 hw5 hm5 HD4 bt5
  go_wp2_with (go_at_call 16; refine (num_b _ _).mono ?_; rintro e _ ⟨rfl, rfl⟩)
  refine (sklay_b (n := 800000) HD5.out.ux HD5.out.fr (Bt.out.mono (by omega)) (by omega) (Fr.refl _ _)).mono ?_
  rintro e w6 ⟨e6, r2', q, rfl, f6, bu6, G6, hw6, hm6⟩
  obtain ⟨rfl, rfl⟩ : 0 = e6 ∧ s2 = r2' := by have := Q2.out.symm.trans q.out; simpa using this
  have HT6 := Lib.hid ((HD5.out.right hw6 f6 hm6).two HS2.out HS2.out)
  clear q f6 hw6 hm6 HD5 bu6 HS2 Q2 Bt HS1 Q1 b0
  obtain ⟨z1, z2, hne, ⟨y1, z3⟩, ⟨y2, z4⟩, ⟨y3, z5⟩, z6⟩ := HT6.out.free
  have hne' : ¬ u = t := fun e => hne e.symm
  obtain ⟨F7, G7, h7⟩ := HT6.out.forget
  have HT7 := Lib.hid h7
  clear h7 HT6
  go_upto_region 8 with (go_at_call 16; refine (num_b _ _).mono ?_; rintro e _ ⟨rfl, rfl⟩)
  generalize (w6.setCell ⟨t, 1, none⟩ (.slice none 0 0)).setCell ⟨u, 1, none⟩ (.slice none 0 0) = w7 at *
  have hj0 : Hid (MnJ W w7 t u 0 none 0 0) := Lib.hid ⟨F7, G7, _, _, [], rfl, Nat.le_refl _, HT7.out, rfl, rfl⟩
  clear HT7 z1 z2 z3 z4 z5 z6 hne hne'
  go_wp2
  go_loopg [7, 8] 150 (fun gk c7 c8 wr => ∃ (k m cm : Nat) (D : Option Addr), gk + k = 150 ∧ c8 = .int .i64 (k : Int) ∧ c7 = .slice D m cm ∧ MnJ W wr t u k D m cm)
  case atStart => exact ⟨0, 0, 0, none, rfl, rfl, rfl, hj0.out⟩
  case round =>
    obtain ⟨k, m, cm, D, hk, rfl, rfl, hJ⟩ := hrel
    obtain ⟨F, G, s, r, l, rfl, hcm, hT, hs, hr⟩ := hJ
    have HT := Lib.hid hT
    have Hs := Lib.hid hs
    have Hr := Lib.hid hr
    have Hk := Lib.hid hk
    have hcnt := hT.st.count
    clear hT hs hr hj0 hk
    by_cases hlt : k < n ∧ k < 150
    · obtain ⟨hkn, hk150⟩ := hlt
      obtain ⟨ad, rfl⟩ : ∃ ad, A = some ad := by
        cases A with
        | none => have := (H1.out.nil rfl).1; omega
        | some ad => exact ⟨ad, rfl⟩
      obtain ⟨K, a0, _⟩ := H1.out.cell ad rfl k hkn 0 _ rfl
      obtain ⟨L, a1, b1⟩ := H1.out.cell ad rfl k hkn 1 _ rfl
      obtain ⟨rm, a2, _⟩ := H1.out.cell ad rfl k hkn 2 _ rfl
      obtain ⟨rat, a3, _⟩ := H1.out.cell ad rfl k hkn 3 _ rfl
      obtain ⟨x, a4, b4⟩ := H1.out.cell ad rfl k hkn 4 _ rfl
      obtain ⟨y, a5, _⟩ := H1.out.cell ad rfl k hkn 5 _ rfl
      rw [addr_flat (by omega)] at a1 a2 a3 a4 a5
      have hbw := HT.out.bw
      have a0 := keepCell hbw (Nat.le_refl _) a0
      have a1 := keepCell hbw (Nat.le_refl _) a1
      have a2 := keepCell hbw (Nat.le_refl _) a2
      have a3 := keepCell hbw (Nat.le_refl _) a3
      have a4 := keepCell hbw (Nat.le_refl _) a4
      have a5 := keepCell hbw (Nat.le_refl _) a5
      simp only [List.length_cons, List.length_nil, Nat.add_zero, Nat.zero_add, Nat.reduceAdd] at a0 a1 a2 a3 a4 a5
      have x4 := bd_u64 b4
      have x1 := bd_i64 b1
      have hki : (k : Int) < n := by omega
      have hki2 : (k : Int) < 150 := by omega
      clear hbw
      have HT8 := Lib.hid (HT.out.alloc (.cells #[.int .i64 K, .int .i64 L, .int .u64 rm, .int .u64 rat, .int .u64 x, .int .u64 y] 48))
      have HB8 : Hid (Bxd (wr.alloc (.cells #[.int .i64 K, .int .i64 L, .int .u64 rm, .int .u64 rat, .int .u64 x, .int .u64 y] 48)) wr.heap.size #[.int .i64 K, .int .i64 L, .int .u64 rm, .int .u64 rat, .int .u64 x, .int .u64 y] F G) :=
        Lib.hid ⟨Blk.new wr _ _, fun hf => by have := HT.out.tx.lt _ hf; omega, fun hf => by have := HT.out.ux.lt _ hf; omega⟩
      go_upto_region 14 with fail
      generalize wr.alloc (.cells #[.int .i64 K, .int .i64 L, .int .u64 rm, .int .u64 rat, .int .u64 x, .int .u64 y] 48) = w8 at *
      generalize wr.heap.size = bb at *
      clear HT a0 a1 a2 a3 a4 a5
      have e0 := HB8.out.blk.cell 0
      have e1 := HB8.out.blk.cell 1
      have e2 := HB8.out.blk.cell 2
      have e3 := HB8.out.blk.cell 3
      have e4 := HB8.out.blk.cell 4
      have e5 := HB8.out.blk.cell 5
      simp only [List.getElem?_toArray, List.getElem?_cons_zero, List.getElem?_cons_succ] at e0 e1 e2 e3 e4 e5
      have H8 := HT8.out.bw
      have hkc : (lv.length : Int) ≤ c2 := by omega
      have HH2 := Lib.hid H2.out
      rcases Nat.lt_or_ge k lv.length with hlv | hlv
      · obtain ⟨g, o, rfl, d, o1, o2⟩ := H2.out.at_ hlv
        have d := keepCell H8 (Nat.le_refl _) d
        generalize lv.getD k 0 = ot at *
        have hkl : (k : Int) < lv.length := by omega
        have HE := Lib.hid e0
        clear H8 HE
        go_upto_region 16 with fail
        by_cases k3 : K = 3
        · subst k3
          go_wp2_with (first
            | (go_at_call 19; refine (means_b HT8.out.here hk150 Hs.out Hr.out 3 _ rm rat x y _ x4.1 x4.2 x1.1 x1.2 o1 o2).mono ?_; rintro e w9 ⟨rfl, F9, G9, s9, r9, h9⟩; have HB9 : Hid (Blk w9 bb _ _) := Lib.hid ((h9.zf.block bb HB8.out.blk.lt (fun hf => hf.elim HB8.out.nF HB8.out.nG)).trans HB8.out.blk); have HT9 := Lib.hid (HT8.out.back h9); have dk9 := HB9.out.cell 0; have dx9 := HB9.out.cell 4; simp only [List.getElem?_toArray, List.getElem?_cons_zero, List.getElem?_cons_succ] at dk9 dx9; clear h9)
            | (go_at_call 20; refine (with_b HT9.out.vl (by omega)).mono ?_; rintro e w10 ⟨v10, rfl, hv10, hb10, ho10⟩; obtain ⟨A10, cp10, rfl, hc10⟩ := hv10.shape; have hT10 := HT9.out.list hv10 hb10 ho10; have HT10 := Lib.hid hT10; have HB10 := Lib.hid (HB9.out.below hb10 HB9.out.lt); have dk10 := HB10.out.cell 0; simp only [List.getElem?_toArray, List.getElem?_cons_zero, List.getElem?_cons_succ] at dk10; obtain ⟨z1, z2, hne, ⟨y1', z3⟩, ⟨y2', z4⟩, ⟨y3', z5⟩, z6⟩ := hT10.free; have hne' : ¬ u = t := fun e => hne e.symm; obtain ⟨F11, G11, h11⟩ := hT10.forget; have HT11 := Lib.hid h11; clear h11 hT10 hv10 hb10 ho10))
          obtain ⟨gk', rfl⟩ : ∃ g', gk = g' + 1 := ⟨gk - 1, by have := Hk.out; omega⟩
          go_roundg gk'
          case measure => omega
          case rel => exact ⟨k + 1, _, cp10, A10, by have := Hk.out; omega, by go_num, rfl, F11, G11, _, _, _, rfl, hc10, HT11.out, rfl, rfl⟩
        by_cases k4 : K = 4
        · subst k4
          clear k3
          go_wp2_with (first
            | (go_at_call 19; refine (means_b HT8.out.here hk150 Hs.out Hr.out 4 _ rm rat x y _ x4.1 x4.2 x1.1 x1.2 o1 o2).mono ?_; rintro e w9 ⟨rfl, F9, G9, s9, r9, h9⟩; have HB9 : Hid (Blk w9 bb _ _) := Lib.hid ((h9.zf.block bb HB8.out.blk.lt (fun hf => hf.elim HB8.out.nF HB8.out.nG)).trans HB8.out.blk); have HT9 := Lib.hid (HT8.out.back h9); have dk9 := HB9.out.cell 0; have dx9 := HB9.out.cell 4; simp only [List.getElem?_toArray, List.getElem?_cons_zero, List.getElem?_cons_succ] at dk9 dx9; clear h9)
            | (go_at_call 21; refine (without_b HT9.out.vl.lies (by omega)).mono ?_; rintro e w10 ⟨v10, rfl, hv10, hb10, ho10⟩; obtain ⟨A10, cp10, rfl, hc10⟩ := hv10.shape; have hT10 := HT9.out.list hv10 hb10 (fun k hk => .inr (ho10 k hk)); obtain ⟨z1, z2, hne, ⟨y1', z3⟩, ⟨y2', z4⟩, ⟨y3', z5⟩, z6⟩ := hT10.free; have hne' : ¬ u = t := fun e => hne e.symm; obtain ⟨F11, G11, h11⟩ := hT10.forget; have HT11 := Lib.hid h11; clear h11 hT10 hv10 hb10 ho10))
          obtain ⟨gk', rfl⟩ : ∃ g', gk = g' + 1 := ⟨gk - 1, by have := Hk.out; omega⟩
          go_roundg gk'
          case measure => omega
          case rel => exact ⟨k + 1, _, cp10, A10, by have := Hk.out; omega, by go_num, rfl, F11, G11, _, _, _, rfl, hc10, HT11.out, rfl, rfl⟩
        have k3' : (K == 3) = false := by simpa using k3
        have k4' : (K == 4) = false := by simpa using k4
        have hnx : Hid (lnext K l x = l) := Lib.hid (by unfold lnext; rw [if_neg k3, if_neg k4])
        clear k3 k4
        go_wp2_with (first
            | (go_at_call 19; refine (means_b HT8.out.here hk150 Hs.out Hr.out K _ rm rat x y _ x4.1 x4.2 x1.1 x1.2 o1 o2).mono ?_; rintro e w9 ⟨rfl, F9, G9, s9, r9, h9⟩; have HB9 : Hid (Blk w9 bb _ _) := Lib.hid ((h9.zf.block bb HB8.out.blk.lt (fun hf => hf.elim HB8.out.nF HB8.out.nG)).trans HB8.out.blk); have HT9 := Lib.hid (HT8.out.back h9); have dk9 := HB9.out.cell 0; have dx9 := HB9.out.cell 4; simp only [List.getElem?_toArray, List.getElem?_cons_zero, List.getElem?_cons_succ] at dk9 dx9; have hT10 := HT8.out.back h9; rw [hnx.out] at hT10; obtain ⟨z1, z2, hne, ⟨y1', z3⟩, ⟨y2', z4⟩, ⟨y3', z5⟩, z6⟩ := hT10.free; have hne' : ¬ u = t := fun e => hne e.symm; obtain ⟨F11, G11, h11⟩ := hT10.forget; have HT11 := Lib.hid h11; clear h11 hT10 h9))
        obtain ⟨gk', rfl⟩ : ∃ g', gk = g' + 1 := ⟨gk - 1, by have := Hk.out; omega⟩
        go_roundg gk'
        case measure => omega
        case rel => exact ⟨k + 1, _, cm, D, by have := Hk.out; omega, by go_num, rfl, F11, G11, _, _, _, rfl, hcm, HT11.out, rfl, rfl⟩
      · obtain ⟨ot, rfl⟩ : ∃ ot, ot = L := ⟨L, rfl⟩
        have o1 := x1.1
        have o2 := x1.2
        have hkl : (lv.length : Int) ≤ k := by omega
        have HE := Lib.hid e0
        clear H8 HE
        go_upto_region 16 with fail
        by_cases k3 : K = 3
        · subst k3
          go_wp2_with (first
            | (go_at_call 19; refine (means_b HT8.out.here hk150 Hs.out Hr.out 3 _ rm rat x y _ x4.1 x4.2 x1.1 x1.2 o1 o2).mono ?_; rintro e w9 ⟨rfl, F9, G9, s9, r9, h9⟩; have HB9 : Hid (Blk w9 bb _ _) := Lib.hid ((h9.zf.block bb HB8.out.blk.lt (fun hf => hf.elim HB8.out.nF HB8.out.nG)).trans HB8.out.blk); have HT9 := Lib.hid (HT8.out.back h9); have dk9 := HB9.out.cell 0; have dx9 := HB9.out.cell 4; simp only [List.getElem?_toArray, List.getElem?_cons_zero, List.getElem?_cons_succ] at dk9 dx9; clear h9)
            | (go_at_call 20; refine (with_b HT9.out.vl (by omega)).mono ?_; rintro e w10 ⟨v10, rfl, hv10, hb10, ho10⟩; obtain ⟨A10, cp10, rfl, hc10⟩ := hv10.shape; have hT10 := HT9.out.list hv10 hb10 ho10; have HT10 := Lib.hid hT10; have HB10 := Lib.hid (HB9.out.below hb10 HB9.out.lt); have dk10 := HB10.out.cell 0; simp only [List.getElem?_toArray, List.getElem?_cons_zero, List.getElem?_cons_succ] at dk10; obtain ⟨z1, z2, hne, ⟨y1', z3⟩, ⟨y2', z4⟩, ⟨y3', z5⟩, z6⟩ := hT10.free; have hne' : ¬ u = t := fun e => hne e.symm; obtain ⟨F11, G11, h11⟩ := hT10.forget; have HT11 := Lib.hid h11; clear h11 hT10 hv10 hb10 ho10))
          obtain ⟨gk', rfl⟩ : ∃ g', gk = g' + 1 := ⟨gk - 1, by have := Hk.out; omega⟩
          go_roundg gk'
          case measure => omega
          case rel => exact ⟨k + 1, _, cp10, A10, by have := Hk.out; omega, by go_num, rfl, F11, G11, _, _, _, rfl, hc10, HT11.out, rfl, rfl⟩
        by_cases k4 : K = 4
        · subst k4
          clear k3
          go_wp2_with (first
            | (go_at_call 19; refine (means_b HT8.out.here hk150 Hs.out Hr.out 4 _ rm rat x y _ x4.1 x4.2 x1.1 x1.2 o1 o2).mono ?_; rintro e w9 ⟨rfl, F9, G9, s9, r9, h9⟩; have HB9 : Hid (Blk w9 bb _ _) := Lib.hid ((h9.zf.block bb HB8.out.blk.lt (fun hf => hf.elim HB8.out.nF HB8.out.nG)).trans HB8.out.blk); have HT9 := Lib.hid (HT8.out.back h9); have dk9 := HB9.out.cell 0; have dx9 := HB9.out.cell 4; simp only [List.getElem?_toArray, List.getElem?_cons_zero, List.getElem?_cons_succ] at dk9 dx9; clear h9)
            | (go_at_call 21; refine (without_b HT9.out.vl.lies (by omega)).mono ?_; rintro e w10 ⟨v10, rfl, hv10, hb10, ho10⟩; obtain ⟨A10, cp10, rfl, hc10⟩ := hv10.shape; have hT10 := HT9.out.list hv10 hb10 (fun k hk => .inr (ho10 k hk)); obtain ⟨z1, z2, hne, ⟨y1', z3⟩, ⟨y2', z4⟩, ⟨y3', z5⟩, z6⟩ := hT10.free; have hne' : ¬ u = t := fun e => hne e.symm; obtain ⟨F11, G11, h11⟩ := hT10.forget; have HT11 := Lib.hid h11; clear h11 hT10 hv10 hb10 ho10))
          obtain ⟨gk', rfl⟩ : ∃ g', gk = g' + 1 := ⟨gk - 1, by have := Hk.out; omega⟩
          go_roundg gk'
          case measure => omega
          case rel => exact ⟨k + 1, _, cp10, A10, by have := Hk.out; omega, by go_num, rfl, F11, G11, _, _, _, rfl, hc10, HT11.out, rfl, rfl⟩
        have k3' : (K == 3) = false := by simpa using k3
        have k4' : (K == 4) = false := by simpa using k4
        have hnx : Hid (lnext K l x = l) := Lib.hid (by unfold lnext; rw [if_neg k3, if_neg k4])
        clear k3 k4
        go_wp2_with (first
            | (go_at_call 19; refine (means_b HT8.out.here hk150 Hs.out Hr.out K _ rm rat x y _ x4.1 x4.2 x1.1 x1.2 o1 o2).mono ?_; rintro e w9 ⟨rfl, F9, G9, s9, r9, h9⟩; have HB9 : Hid (Blk w9 bb _ _) := Lib.hid ((h9.zf.block bb HB8.out.blk.lt (fun hf => hf.elim HB8.out.nF HB8.out.nG)).trans HB8.out.blk); have HT9 := Lib.hid (HT8.out.back h9); have dk9 := HB9.out.cell 0; have dx9 := HB9.out.cell 4; simp only [List.getElem?_toArray, List.getElem?_cons_zero, List.getElem?_cons_succ] at dk9 dx9; have hT10 := HT8.out.back h9; rw [hnx.out] at hT10; obtain ⟨z1, z2, hne, ⟨y1', z3⟩, ⟨y2', z4⟩, ⟨y3', z5⟩, z6⟩ := hT10.free; have hne' : ¬ u = t := fun e => hne e.symm; obtain ⟨F11, G11, h11⟩ := hT10.forget; have HT11 := Lib.hid h11; clear h11 hT10 h9))
        obtain ⟨gk', rfl⟩ : ∃ g', gk = g' + 1 := ⟨gk - 1, by have := Hk.out; omega⟩
        go_roundg gk'
        case measure => omega
        case rel => exact ⟨k + 1, _, cm, D, by have := Hk.out; omega, by go_num, rfl, F11, G11, _, _, _, rfl, hcm, HT11.out, rfl, rfl⟩
    · have hbt : Hid (Bud s 600000) := Lib.hid (by unfold Bud; rw [Hs.out]; simp)
      have hbr : Hid (Bud r 600000) := Lib.hid (by unfold Bud; rw [Hr.out]; simp)
      obtain ⟨s3, q3, hs3⟩ := set_keys HT.out.st (hbt.out.mono (by omega))
      have Q3 := Lib.hid q3
      have HS3 := Lib.hid hs3
      have hlen : Hid ((l.length : Int) ≤ 150) := Lib.hid (by have := Hk.out; omega)
      clear q3 hs3
      have hstop : (k < n → 150 ≤ k) := fun h => by omega
      have hto : ((k : Int) < n ∧ (150 : Int) ≤ k) ∨ (n : Int) ≤ k := by
        rcases Nat.lt_or_ge k n with h | h
        · exact .inl ⟨by omega, by have := hstop h; omega⟩
        · exact .inr (by omega)
      clear hlt hstop hcnt Hk
      rcases hto with ⟨hx1, hx2⟩ | hx1
      all_goals go_wp2_with fail
      all_goals refine (skkeys_b (n := 300000) HT.out.tx HT.out.fs (hbt.out.mono (by omega)) (by omega) (Fr.refl _ _)).mono ?_
      all_goals rintro e wa ⟨va, la, ea, sa, q, rfl, fa, ba, hva, hoa, Fa, hwa, hma, hna⟩
      all_goals obtain ⟨rfl, rfl, rfl⟩ : l = la ∧ 0 = ea ∧ s3 = sa := by have := Q3.out.symm.trans q.out; simpa using this
      all_goals have HTa := Lib.hid (HT.out.left hwa fa HS3.out hma (Nat.le_refl _))
      all_goals have hnG : Hid (∀ k, own va k → ¬ G k) := Lib.hid fun k hk hg => by have := hoa k hk; have := HT.out.ux.lt k hg; omega
      all_goals obtain ⟨Aa, ca, rfl, hca⟩ := hva.shape
      all_goals have Va := Lib.hid hva
      all_goals obtain ⟨r4, q4, hr4⟩ := set_keys HTa.out.sr (hbr.out.mono (by omega))
      all_goals have Q4 := Lib.hid q4
      all_goals have HR4 := Lib.hid hr4
      all_goals clear q fa ba hva hoa hwa hma hna q4 hr4 HT Q3 HS3 hx1
      all_goals go_wp2_with fail
      all_goals refine (skkeys_b (n := 300000) HTa.out.ux HTa.out.fr (hbr.out.mono (by omega)) (by omega) (Fr.refl _ _)).mono ?_
      all_goals rintro e wb ⟨vb, lb, eb, rb, q, rfl, fb, bb', hvb, hob, Gb, hwb, hmb, hnb⟩
      all_goals obtain ⟨rfl, rfl, rfl⟩ : l = lb ∧ 0 = eb ∧ r4 = rb := by have := Q4.out.symm.trans q.out; simpa using this
      all_goals have HTb := Lib.hid (HTa.out.right hwb fb HR4.out hmb (Nat.le_refl _))
      all_goals have Va2 := Lib.hid (Va.out.fr hmb hnG.out)
      all_goals have hnGb : Hid (∀ k, own (.slice Aa l.length ca) k → ¬ Gb k) := Lib.hid fun k hk => (hmb.apart (G := own (.slice Aa l.length ca)) (fun k hk => ⟨Va.out.lt k hk, hnG.out k hk⟩) k hk).2
      all_goals obtain ⟨Ab, cb, rfl, hcb⟩ := hvb.shape
      all_goals have Vb := Lib.hid hvb
      all_goals have hnb' := Lib.hid hnb
      all_goals have bb2 := Lib.hid bb'
      all_goals obtain ⟨r5, q5, hr5⟩ := set_keys HTb.out.sr (bb'.mono (by omega))
      all_goals have Q5 := Lib.hid q5
      all_goals have HR5 := Lib.hid hr5
      all_goals clear q fb bb' hvb hob hwb hmb hnb q5 hr5 HTa Q4 HR4 Va hnG
      all_goals go_wp2_with fail
      all_goals refine (sklen_b (n := 100000) HTb.out.ux HTb.out.fr (bb2.out.mono (by omega)) (by omega) (Fr.refl _ _)).mono ?_
      all_goals rintro e wc ⟨lc, ec, rc, q, rfl, fc, bc, Gc, hwc, hmc⟩
      all_goals obtain ⟨rfl, rfl, rfl⟩ : l = lc ∧ 0 = ec ∧ r5 = rc := by have := Q5.out.symm.trans q.out; simpa using this
      all_goals have HTc := Lib.hid (HTb.out.right hwc fc HR5.out hmc (Nat.le_refl _))
      all_goals have Va3 := Lib.hid (Va2.out.fr hmc hnGb.out)
      all_goals have Vb3 := Lib.hid (Vb.out.fr hmc hnb'.out)
      all_goals clear q fc bc hwc hmc HTb Q5 HR5 Va2 Vb hnGb hnb' bb2 hbt hbr
      all_goals go_wp2_with (first
        | (go_at_call 16; refine (num_b _ _).mono ?_; rintro e _ ⟨rfl, rfl⟩)
        | (go_at_call 22; refine (same_b (l := l) (Vb3.out.lies.drewN n5) (HTc.out.vl.lies.drewN n5) (by have := hlen.out; omega)).mono ?_; rintro e _ ⟨rfl, n6, rfl⟩)
        | (go_at_call 22; refine (same_b (l := l) Va3.out.lies HTc.out.vl.lies (by have := hlen.out; omega)).mono ?_; rintro e _ ⟨rfl, n5, rfl⟩))
      all_goals go_ret
      all_goals exact ⟨by simp, below_drewNs HTc.out.bw _⟩
end Go.Proofs.Ytgbgodhkehnbdaa
