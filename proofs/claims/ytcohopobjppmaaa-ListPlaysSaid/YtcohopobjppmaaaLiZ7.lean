/- ListPlays: two lists of one room, call by call: every reply is that of a plain set. -/
import Derived.Test.YtcohopobjppmaaaLiZ8
import Derived.Test.YtcohopobjppmaaaMix2
import Derived.Test.YtcohopobjppmaaaLiR
import Derived.Test.YtcohopobjppmaaaIn
import Derived.Deep.DeepCutAuto
namespace Go.Proofs.Ytcohopobjppmaaa
open Go.RowKit
set_option maxHeartbeats 60000000
set_option linter.unusedVariables false
set_option linter.unusedSimpArgs false

set_option maxRecDepth 100000 in
theorem listPlays_walk {W : World} {A : Option Addr} {sn c : Nat} (size : Int) (hsz : (Lit.int .i64 size).wf = true) (h : RowsIn W A sn c [.i64, .i64, .u64]) :
    Calls Try.prog 5 #[.int .i64 size, .slice A sn c] W (TrueP W.heap.size W) := by
  have hn : sn * 24 ≤ 140737488351232 := by have := h.len; simpa using this
  have hni : (sn : Int) ≤ 9223372036854775807 := by omega
  have H := Lib.hid h
  have hcb := bd_i64 hsz
  have hC := Lib.hid (cells_b (w := W) hcb.1 hcb.2)
  clear h hsz hcb
  go_enter Try.func5, Try.ntmps5
  go_wp2_with fail
  refine hC.out.mono ?_
  rintro _ w0 ⟨m, hm1, hm2, rfl, rfl⟩
  obtain ⟨n, rfl⟩ : ∃ n : Nat, m = (n : Int) := ⟨m.toNat, by omega⟩
  have hn1 : 40 ≤ n := by omega
  have hn2 : n ≤ 200 := by omega
  clear hC
  go_wp2_with fail
  refine (begin_b hn1 hn2).mono ?_
  rintro _ w1 ⟨t, l0, l1, s, F, fs, rfl, f1, fl1, b1, T1, m1, B1⟩
  have hB1 := Lib.hid ((m1.below (B := W.heap.size) (fun _ h => h.elim) (Nat.le_refl _)).alloc (Nat.le_trans (Nat.le_refl _) m1.size) (.cells #[.int .u64 l0, .int .u64 l1] 46))
  have hge := Lib.hid (m1.ge (fun _ h => h.elim) (Nat.le_refl _))
  by_cases hbig : sn ≤ 400
  case neg =>
    have z : decide ((400 : Int) < sn) = true := decide_eq_true (by omega)
    clear T1 m1 f1 b1 B1 fl1
    go_wp2_with fail
    refine (known_b _).mono ?_
    rintro _ w5 ⟨rfl, h5⟩
    have hb := Lib.hid (hB1.out.trans (h5.mono hB1.out.size))
    clear h5
    go_wp2_with fail
    go_ret
    exact ⟨rfl, hb.out⟩
  case pos =>
    have z : decide ((400 : Int) < sn) = false := decide_eq_false (by omega)
    have hM0 : Hid (Mem W ((w1.alloc (.cells #[.int .u64 l0, .int .u64 l1] 46)).alloc (.cells #[.slice none 0 0, .slice none 0 0] 49)) t w1.heap.size (w1.heap.size + 1) F s (fun j => if j = 0 then l0 else l1) (fun _ => .slice none 0 0) (fun _ => [])) := Lib.hid (by
      refine ⟨f1, fl1, (T1.alloc _).alloc _, (Blk.new w1 _ _).alloc _, ?_, fun j hj => Wl.nil _, fun j hj k hk => (nomatch hk), fun i j hi hj hij k hk => (nomatch hk), ⟨m1.size, by have := m1.size; omega, hge.out, fun j hj k hk => (nomatch hk)⟩, hB1.out.alloc (by have := m1.size; simp; omega) _⟩
      have := Blk.new (w1.alloc (.cells #[.int .u64 l0, .int .u64 l1] 46)) 49 #[.slice none 0 0, .slice none 0 0]
      rw [show (w1.alloc (.cells #[.int .u64 l0, .int .u64 l1] 46)).heap.size = w1.heap.size + 1 by simp] at this
      exact this)
    have hL0 : Hid (LoopP W t w1.heap.size (w1.heap.size + 1) n sn ((w1.alloc (.cells #[.int .u64 l0, .int .u64 l1] 46)).alloc (.cells #[.slice none 0 0, .slice none 0 0] 49))) :=
      Lib.hid ⟨F, s, _, _, fun _ => [], fs, hM0.out, b1.mono (by omega), B1⟩
    clear T1 m1 f1 b1 B1 fl1 hM0 hB1 hge
    go_wp2_with fail
    generalize (w1.alloc (.cells #[.int .u64 l0, .int .u64 l1] 46)).alloc (.cells #[.slice none 0 0, .slice none 0 0] 49) = w2 at *
    generalize hKb : w1.heap.size + 1 = Kb at *
    generalize w1.heap.size = Lb at *
    clear hKb
    go_loopg [10] sn (fun gk c10 wr => ∃ i : Nat, gk + i = sn ∧ c10 = .int .i64 (i : Int) ∧ Hid (LoopP W t Lb Kb n gk wr))
    case atStart => exact ⟨0, rfl, rfl, hL0⟩
    case round =>
      obtain ⟨i, hgk, rfl, HL⟩ := hrel
      have HG := Lib.hid hgk
      clear hgk hL0
      by_cases hi : i < sn
      · obtain ⟨g, rfl⟩ : ∃ g, gk = g + 1 := ⟨gk - 1, by have := HG.out; omega⟩
        obtain ⟨ad, rfl⟩ : ∃ ad, A = some ad := by
          cases A with
          | none => have := (H.out.nil rfl).1; omega
          | some ad => exact ⟨ad, rfl⟩
        obtain ⟨kind, a0, d0⟩ := H.out.cell ad rfl i hi 0 _ rfl
        obtain ⟨on, a1, d1⟩ := H.out.cell ad rfl i hi 1 _ rfl
        obtain ⟨key, a2, d2⟩ := H.out.cell ad rfl i hi 2 _ rfl
        rw [addr_flat (by omega)] at a1 a2
        obtain ⟨F, s, ls, vs, nss, fs, M, hbud, hBo⟩ := HL.out
        have a0 := keepCell M.bel (Nat.le_refl _) a0
        have a1 := keepCell M.bel (Nat.le_refl _) a1
        have a2 := keepCell M.bel (Nat.le_refl _) a2
        simp only [List.length_cons, List.length_nil, Nat.add_zero, Nat.zero_add, Nat.reduceAdd] at a0 a1 a2
        have y2 := bd_u64 d2
        have hii : (i : Int) < sn := by omega
        have y1 := bd_i64 d1
        obtain ⟨tt, htt⟩ : ∃ tt, on.tmod 2 = tt := ⟨_, rfl⟩
        have tb1 : -1 ≤ tt := by have := Int.lt_tmod_of_pos on (show (0 : Int) < 2 by decide); omega
        have tb2 : tt ≤ 1 := by have := Int.tmod_lt_of_pos on (show (0 : Int) < 2 by decide); omega
        obtain ⟨kk, hkk, hkb⟩ : ∃ kk : Nat, tt % 2 = (kk : Int) ∧ kk < 2 := ⟨(tt % 2).toNat, by omega, by omega⟩
        have hkb' : (kk : Int) < 2 := by omega
        have M3 := M.alloc (.cells #[.int .i64 kind, .int .i64 on, .int .u64 key] 25)
        have hS3 := Blk.new wr 25 #[.int .i64 kind, .int .i64 on, .int .u64 key]
        have hsb := Lib.hid (M.bel.size)
        have s0 := hS3.cell 0
        have s1 := hS3.cell 1
        have s2 := hS3.cell 2
        obtain ⟨A0, A1, cc0, cc1, hv0, hv1, q0, q1, p0, p1, pp, Aw, cw, qw, hcw, hLw⟩ := M3.cells
        simp only [List.getElem?_toArray, List.getElem?_cons_zero, List.getElem?_cons_succ] at s0 s1 s2
        obtain ⟨hwlen, hw200, hns⟩ : s.W.length = n ∧ n ≤ 200 ∧ (kl (nss 0)).length + (kl (nss 1)).length ≤ 100 := by
          have := hBo.in_.room.len
          have := hBo.len
          simp only [kl, List.length_map]
          omega
        rw [hwlen] at qw hcw hLw
        have hlen0 := Lib.hid (⟨rfl, rfl⟩ : (kl (nss 0)).length = (kl (nss 0)).length ∧ (kl (nss 1)).length = (kl (nss 1)).length)
        have hLw := Lib.hid hLw
        have hv0 := Lib.hid hv0
        have hv1 := Lib.hid hv1
        have M3 := Lib.hid M3
        have hS3 := Lib.hid hS3
        have hBo := Lib.hid hBo
        have hbud := Lib.hid hbud
        have hwl := Lib.hid hwlen
        clear M HL d0 d1 d2
        generalize hn0 : (kl (nss 0)).length = n0 at *
        generalize hn1' : (kl (nss 1)).length = n1 at *
        have hn0 := Lib.hid hn0
        have hn1' := Lib.hid hn1'
        clear hwlen
        generalize hw3 : wr.alloc (.cells #[.int .i64 kind, .int .i64 on, .int .u64 key] 25) = w3 at *
        generalize hsbb : wr.heap.size = sb at *
        have hw3 := Lib.hid hw3
        have hsbb := Lib.hid hsbb
        go_upto_region 14 with (at_builtin; refine wpList_words w3 rfl (.const (.slice none 0 0)) (.tmp 65) rfl (.slice none 0 0) (.slice Aw n cw) [] s.W rfl (Wl.nil _) rfl hLw.out (by rw [hwl.out]; simp; omega) ?_; intro Ab cb w4 hcb hvb hmb)
        have hb4 : Below w3.heap.size w3 w4 := Fr.below (B := w3.heap.size) hmb (fun k hk => nomatch hk) (Nat.le_refl _)
        have M4 := Lib.hid (M3.out.below hb4)
        have hS4 := Lib.hid (hS3.out.below hb4 hS3.out.lt)
        have hvb : Hid (Wl w4 (.slice Ab n cb) s.W) := Lib.hid (by rw [hwl.out] at hvb; simpa using hvb)
        have hfb : Hid (∀ k, own (.slice Ab n cb) k → w3.heap.size ≤ k) := Lib.hid fun k hk => (hmb.new k (by rw [hwl.out]; simpa using hk)).elim (fun h => nomatch h) id
        clear hcb hmb hb4 s0 s1 s2 q0 q1 p0 p1 pp qw hLw
        obtain ⟨q0, q1, p0, p1, pp⟩ := M4.out.kcells hv0.out hv1.out
        have s0 := hS4.out.cell 0
        have s1 := hS4.out.cell 1
        have s2 := hS4.out.cell 2
        simp only [List.getElem?_toArray, List.getElem?_cons_zero, List.getElem?_cons_succ] at s0 s1 s2
        obtain ⟨sp, hsp⟩ : ∃ sp, decide ((n0 : Int) + (n1 : Int) < ((n : Int) - 18 - 4) / 2) = sp := ⟨_, rfl⟩
        go_upto_region 15 with (fail)
        obtain ⟨Ak, ck, hvk, -⟩ := (M4.out.wl kk hkb).shape
        obtain ⟨nk, hnk⟩ : ∃ nk, (kl (nss kk)).length = nk := ⟨_, rfl⟩
        rw [hnk] at hvk
        have kc := (M4.out.kcell hkb).1
        rw [hvk] at kc
        have hvk := Lib.hid hvk
        obtain ⟨⟨xa, ba, l7, ea, nx⟩, hA⟩ : ∃ A, dAns (kl (nss kk)) kind key sp = A := ⟨_, rfl⟩
        have hLk := Lib.hid (M4.out.wl kk hkb).lies
        have hnk6 : (kl (nss kk)).length ≤ 60000 := by
          rcases (show kk = 0 ∨ kk = 1 by omega) with rfl | rfl
          · rw [hn0.out]; omega
          · rw [hn1'.out]; omega
        have hans := Lib.hid (fun (Wd : World) (hb : Below w4.heap.size w4 Wd) => by
          have h1 : Lies Wd (vs kk) (kl (nss kk)) := hLk.out.below hb
          have h2 := ans_b (on := on) (key := key) (kind := kind) (space := sp) h1 (M4.out.wl kk hkb).flat hnk6 (fun g o n c e => by
            have hlt := (M4.out.wl kk hkb).lt g (by rw [e]; rfl)
            have := hb.size
            omega)
          rw [hA, hvk.out] at h2
          exact h2)
        have hA := Lib.hid hA
        have hkc := Lib.hid (fun (Wd : World) (hb : Below w4.heap.size w4 Wd) => (show Wd.cell? ⟨Kb, kk, none⟩ = some (.slice Ak nk ck) ∧ Wd.cell? ⟨sb, 0, none⟩ = some (.int .i64 kind) ∧ Wd.cell? ⟨sb, 1, none⟩ = some (.int .i64 on) ∧ Wd.cell? ⟨sb, 2, none⟩ = some (.int .u64 key) from ⟨keepCell hb (Nat.le_refl _) kc, keepCell hb (Nat.le_refl _) s0, keepCell hb (Nat.le_refl _) s1, keepCell hb (Nat.le_refl _) s2⟩))
        have kc0 := hkc.out _ (Below.refl _ _)
        obtain ⟨kc, s0, s1, s2⟩ := kc0
        clear hnk hnk6 hLk
        go_cut [17, 18] (fun c17 c18 wx => ∃ (wb : Nat) (v7 v8 : Value), c17 = .pointer (some ⟨wb, 0, none⟩) ∧ v8 = c18 ∧ Hid (WantP w4 wx wb xa ba ea l7 nx v7 v8 (.slice Ak nk ck)))
        case first =>
          refine wp_region_mix2 (fun W' => W'.cell? ⟨Kb, kk, none⟩ = some (.slice Ak nk ck) ∧ W'.cell? ⟨sb, 0, none⟩ = some (.int .i64 kind) ∧ W'.cell? ⟨sb, 1, none⟩ = some (.int .i64 on) ∧ W'.cell? ⟨sb, 2, none⟩ = some (.int .u64 key)) [3, 3, 0, 0, 3, 3, 3, 2, 3, 3, 3, 2, 2, 3] [0, 1, 2, 3, 4, 5, 6] 7 11 [8, 9, 10, 11, 12, 13] [7, 8, 9, 10, 12, 13] (by kernel_rfl) (by kernel_rfl) (fun _ _ h => h) ⟨kc, s0, s1, s2⟩ ?_
          repeat (first | ((first | refine wpMixE_pure rfl rfl (fun K hK => ?_) | refine wpMixE_any rfl rfl (fun K hK => ?_)); go_simp; refine hK _ _ ?_; clear hK K) | (refine wpMixE_any rfl rfl (fun K hK => ?_); rw [if_pos (by go_simp)]; apply Exists.intro; refine And.intro (fun w2 hS2 => ?_) (hK _ _ ?_); (focus (obtain ⟨hs0, hs1, hs2, hs3⟩ := hS2; go_simp; rfl)); clear hK K))
          refine wpMixE_nil ⟨?_, ?_⟩
          · refine wpMix_loud rfl rfl (fun m1 K hK => ?_)
            go_wp2_with fail
            refine (hans.out (w4.drewN (1 + m1)) (below_drewNs (Below.refl _ _) _)).mono ?_
            rintro _ w5 ⟨v7, v8, rfl, L7, L8, hf8, hb5, o7, o8⟩
            have hb5 : Below w4.heap.size w4 w5 := below_unN_ hb5
            clear kc s0 s1 s2
            obtain ⟨kc, s0, s1, s2⟩ := hkc.out w5 hb5
            obtain ⟨A7, c7, rfl, -⟩ := L7.of
            simp only at L7 L8 hf8
            have o7 := Lib.hid o7
            have o8 : Hid (v8 = .slice Ak nk ck ∨ v8 = .slice none 0 0 ∨ ∀ g o n c, v8 = .slice (some ⟨g, o, none⟩) n c → w4.heap.size ≤ g) := Lib.hid o8
            have h7 := Lib.hid (Lies.ne_ L7)
            have h8 := Lib.hid (Lies.ne_ L8)
            have hb5 := Lib.hid hb5
            have L7 := Lib.hid L7
            have L8 := Lib.hid L8
            have hf8 := Lib.hid hf8
            go_wp2_with fail
            refine hK _ _ (fun _ => ⟨kc, s0, s1, s2⟩) ?_; clear hK K
            repeat ((first | refine wpMix_pure rfl rfl (fun K hK => ?_) | refine wpMix_loc rfl rfl (fun K hK => ?_) | refine wpMix_any rfl rfl (fun K hK => ?_)); go_simp; refine hK _ _ ?_; clear hK K)
            refine wpMix_loud rfl rfl (fun m2 K hK => ?_)
            go_wp2_with fail
            refine hK _ _ (fun _ => ⟨cell_alloc_ kc, cell_alloc_ s0, cell_alloc_ s1, cell_alloc_ s2⟩) ?_; clear hK K
            refine wpMix_loud rfl rfl (fun m3 K hK => ?_)
            have yb : Blk (((w5.drewN m2).alloc (.cells #[.int .u64 0, .bool false, .slice none 0 0, .int .i64 0] 29)).drewN m3) w5.heap.size 29 #[.int .u64 0, .bool false, .slice none 0 0, .int .i64 0] := (Blk.new (w5.drewN m2) _ _).drewN m3
            have d0 := yb.cell 0
            have k0 := yb.frozen 0
            have d1 := yb.cell 1
            have k1 := yb.frozen 1
            have d2 := yb.cell 2
            have k2 := yb.frozen 2
            have d3 := yb.cell 3
            have k3 := yb.frozen 3
            simp only [List.getElem?_toArray, List.getElem?_cons_zero, List.getElem?_cons_succ] at d0 d1 d2 d3
            go_wp2_with fail
            refine hK _ _ (fun h => (Bool.false_ne_true ((Eq.symm (by kernel_rfl)).trans h)).elim) ?_; clear hK K
            repeat ((first | refine wpMix_pure rfl rfl (fun K hK => ?_) | refine wpMix_loc rfl rfl (fun K hK => ?_) | refine wpMix_any rfl rfl (fun K hK => ?_)); go_simp; refine hK _ _ ?_; clear hK K)
            refine wpMix_nil (fun m4 => ?_)
            go_wp2_with fail
            go_meet
            refine ⟨w5.heap.size, .slice A7 l7.length c7, v8, rfl, rfl, Lib.hid ⟨?_, hb5.out.size, ?_, ?_, ?_, hf8.out, o7.out, o8.out⟩⟩
            · exact below_drewNs (((((below_drewNs ((below_drewNs hb5.out m2).alloc hb5.out.size _) m3).setCell hb5.out.size _).setCell hb5.out.size _).setCell hb5.out.size _).setCell hb5.out.size _) m4
            · exact ((((yb.set_ 0 (.int .u64 xa)).set_ 1 (.bool ba)).set_ 2 (.slice A7 l7.length c7)).set_ 3 (.int .i64 ea)).drewN m4
            · exact Lies.drewN ((((((((L7.out.drewN m2).alloc _).drewN m3).set2 h7.out _).set2 h7.out _).set2 h7.out _).set2 h7.out _)) m4
            · exact Lies.drewN ((((((((L8.out.drewN m2).alloc _).drewN m3).set2 h8.out _).set2 h8.out _).set2 h8.out _).set2 h8.out _)) m4
          · refine wpMix_loud rfl rfl (fun m1 K hK => ?_)
            go_wp2_with fail
            refine hK _ _ (fun _ => ⟨cell_alloc_ kc, cell_alloc_ s0, cell_alloc_ s1, cell_alloc_ s2⟩) ?_; clear hK K
            refine wpMix_loud rfl rfl (fun m2 K hK => ?_)
            go_wp2_with fail
            have hb : Below w4.heap.size w4 (((w4.drewN (1 + m1)).alloc (.cells #[.int .u64 0, .bool false, .slice none 0 0, .int .i64 0] 29)).drewN m2) := below_drewNs ((below_drewNs (Below.refl _ _) (1 + m1)).alloc (Nat.le_refl _) _) m2
            have yb0 : Blk (((w4.drewN (1 + m1)).alloc (.cells #[.int .u64 0, .bool false, .slice none 0 0, .int .i64 0] 29)).drewN m2) w4.heap.size 29 #[.int .u64 0, .bool false, .slice none 0 0, .int .i64 0] := (Blk.new (w4.drewN (1 + m1)) _ _).drewN m2
            have hsz : (((w4.drewN (1 + m1)).alloc (.cells #[.int .u64 0, .bool false, .slice none 0 0, .int .i64 0] 29)).drewN m2).heap.size = w4.heap.size + 1 := by simp [World.drewN]
            refine (hans.out _ hb).mono ?_
            rintro _ w5 ⟨v7, v8, rfl, L7, L8, hf8, hb5, o7, o8⟩
            have yb := yb0.below hb5 yb0.lt
            have hb5' := Lib.hid (hb.trans (hb5.mono (by rw [hsz]; omega)))
            have hlt5 : Hid (w4.heap.size + 1 ≤ w5.heap.size) := Lib.hid (by have := hb5.size; rw [hsz] at this; exact this)
            have o7 := Lib.hid o7
            have hvl : ∀ g o n c, Value.slice Ak nk ck = .slice (some ⟨g, o, none⟩) n c → g ≠ w4.heap.size := fun g o n c e => by
              have := (M4.out.wl kk hkb).lt g (by rw [hvk.out, e]; rfl)
              omega
            have h7 : Hid (0 < l7.length → ∀ g o n c, v7 = .slice (some ⟨g, o, none⟩) n c → g ≠ w4.heap.size) := Lib.hid fun _ g o n c e => by
              rcases o7.out with h | h
              · exact hvl g o n c (h.symm.trans e)
              · rw [h] at e; cases e
            have h8 : Hid (0 < nx.length → ∀ g o n c, v8 = .slice (some ⟨g, o, none⟩) n c → g ≠ w4.heap.size) := Lib.hid fun _ g o n c e => by
              rcases o8 with h | h | h
              · exact hvl g o n c (h.symm.trans e)
              · rw [h] at e; cases e
              · have := h g o n c e; rw [hsz] at this; omega
            have o8 : Hid (v8 = .slice Ak nk ck ∨ v8 = .slice none 0 0 ∨ ∀ g o n c, v8 = .slice (some ⟨g, o, none⟩) n c → w4.heap.size ≤ g) := Lib.hid (o8.imp id fun h => h.imp id fun h g o n c e => by have := h g o n c e; rw [hsz] at this; omega)
            clear kc s0 s1 s2 hb yb0 hsz hb5 hvl
            obtain ⟨kc, s0, s1, s2⟩ := hkc.out w5 hb5'.out
            obtain ⟨A7, c7, rfl, -⟩ := L7.of
            simp only at L7 L8 hf8
            have L7 := Lib.hid L7
            have L8 := Lib.hid L8
            have hf8 := Lib.hid hf8
            have yb := Lib.hid yb
            go_wp2_with fail
            refine hK _ _ (fun _ => ⟨kc, s0, s1, s2⟩) ?_; clear hK K
            repeat ((first | refine wpMix_pure rfl rfl (fun K hK => ?_) | refine wpMix_loc rfl rfl (fun K hK => ?_) | refine wpMix_any rfl rfl (fun K hK => ?_)); go_simp; refine hK _ _ ?_; clear hK K)
            refine wpMix_loud rfl rfl (fun m3 K hK => ?_)
            have yb := yb.out.drewN m3
            have d0 := yb.cell 0
            have k0 := yb.frozen 0
            have d1 := yb.cell 1
            have k1 := yb.frozen 1
            have d2 := yb.cell 2
            have k2 := yb.frozen 2
            have d3 := yb.cell 3
            have k3 := yb.frozen 3
            simp only [List.getElem?_toArray, List.getElem?_cons_zero, List.getElem?_cons_succ] at d0 d1 d2 d3
            go_wp2_with fail
            refine hK _ _ (fun h => (Bool.false_ne_true ((Eq.symm (by kernel_rfl)).trans h)).elim) ?_; clear hK K
            repeat ((first | refine wpMix_pure rfl rfl (fun K hK => ?_) | refine wpMix_loc rfl rfl (fun K hK => ?_) | refine wpMix_any rfl rfl (fun K hK => ?_)); go_simp; refine hK _ _ ?_; clear hK K)
            refine wpMix_nil (fun m4 => ?_)
            go_wp2_with fail
            go_meet
            refine ⟨w4.heap.size, .slice A7 l7.length c7, v8, rfl, rfl, Lib.hid ⟨?_, Nat.le_refl _, ?_, ?_, ?_, hf8.out, o7.out, o8.out⟩⟩
            · exact below_drewNs (((((below_drewNs hb5'.out m3).setCell (Nat.le_refl _) _).setCell (Nat.le_refl _) _).setCell (Nat.le_refl _) _).setCell (Nat.le_refl _) _) m4
            · exact ((((yb.set_ 0 (.int .u64 xa)).set_ 1 (.bool ba)).set_ 2 (.slice A7 l7.length c7)).set_ 3 (.int .i64 ea)).drewN m4
            · exact Lies.drewN (((((L7.out.drewN m3).set2 h7.out _).set2 h7.out _).set2 h7.out _).set2 h7.out _) m4
            · exact Lies.drewN (((((L8.out.drewN m3).set2 h8.out _).set2 h8.out _).set2 h8.out _).set2 h8.out _) m4
        case rest =>
          obtain ⟨wb, v7, v8, rfl, rfl, hq⟩ := hcut
          have M5 := Lib.hid (M4.out.below hq.out.bel)
          have hS5 := Lib.hid (hS4.out.below hq.out.bel hS4.out.lt)
          have hv5 := Lib.hid (Wl.below hvb.out hq.out.bel)
          have hLK : Hid (Lb < w4.heap.size ∧ Kb < w4.heap.size) := Lib.hid ⟨M4.out.lb.lt, M4.out.kb.lt⟩
          have hF4 := Lib.hid (fun k (hk : F k) => M4.out.tx.lt k hk)
          have hvbF : Hid (∀ k, own (.slice Ab n cb) k → ¬ F k) := Lib.hid fun k hk hF => by
            have := hfb.out k hk
            have := M3.out.tx.lt k hF
            omega
          have hq : Hid (WantP w4 wc wb xa ba ea l7 nx v7 v8 (vs kk)) := Lib.hid (by rw [hvk.out]; exact hq.out)
          have hspc : Hid (sp = true ↔ spc s.W (n : Int) fs) := Lib.hid (by
            have h1 := hBo.out.used
            rw [hn0.out, hn1'.out] at h1
            rw [← h1, ← hsp, decide_eq_true_iff]
            omega)
          have hdo := Lib.hid (fun (Wd : World) (hb : Below wc.heap.size wc Wd) => do_at (on := on) (t := t) hkb M5.out hbud.out y2 hBo.out hspc.out hA.out hb)
          clear kc s0 s1 s2 q0 q1 p0 p1 pp hkc hans M4 hS4 hvb hfb hS3
          have lc := (M5.out.kcell hkb).2
          have s0 := hS5.out.cell 0
          have s1 := hS5.out.cell 1
          have s2c := hS5.out.cell 2
          simp only [List.getElem?_toArray, List.getElem?_cons_zero, List.getElem?_cons_succ] at s0 s1 s2c
          go_upto_region 16 with (fail)
          go_cut [19] (fun c19 wx => ∃ (gb : Nat) (x l0' : Int) (vg : Value) (s2 : St) (F2 : Nat → Prop) (ns0' : List (Int × Int)), c19 = .pointer (some ⟨gb, 0, none⟩) ∧ Hid (GotC W wx t Lb Kb F2 s2 ls vs (fun j => kl (nss j)) (1 + 2000 * g) ba ea vg l7 wb xa v7 nx v8 sb kind on key (.slice Ab n cb) s.W ∧ Blk wx gb 29 #[.int .u64 x, .bool ba, vg, .int .i64 ea] ∧ W.heap.size ≤ gb ∧ wb ≠ gb ∧ (0 < l7.length → ∀ g o n c, v7 = .slice (some ⟨g, o, none⟩) n c → g ≠ gb) ∧ (0 < nx.length → ∀ g o n c, v8 = .slice (some ⟨g, o, none⟩) n c → g ≠ gb)) ∧ Hid (Stepd s s2 n (ls kk) l0' (ls (1 - kk)) ns0' (nss (1 - kk)) (xa, ba, l7, ea, nx) kind x))
          case first =>
            refine wp_region_mix2 (fun W' => W'.cell? ⟨Lb, kk, none⟩ = some (.int .u64 (ls kk)) ∧ W'.cell? ⟨sb, 0, none⟩ = some (.int .i64 kind) ∧ W'.cell? ⟨sb, 1, none⟩ = some (.int .i64 on) ∧ W'.cell? ⟨sb, 2, none⟩ = some (.int .u64 key)) [3, 3, 3, 3, 0, 0, 2, 2, 2] [0, 1, 2, 3, 4, 5] 6 7 [7, 8] [6, 8] (by kernel_rfl) (by kernel_rfl) (fun _ _ h => h) ⟨lc, s0, s1, s2c⟩ ?_
            repeat (first | ((first | refine wpMixE_pure rfl rfl (fun K hK => ?_) | refine wpMixE_any rfl rfl (fun K hK => ?_)); go_simp; refine hK _ _ ?_; clear hK K) | (refine wpMixE_any rfl rfl (fun K hK => ?_); rw [if_pos (by go_simp)]; apply Exists.intro; refine And.intro (fun w2 hS2 => ?_) (hK _ _ ?_); (focus (obtain ⟨hs0, hs1, hs2, hs3⟩ := hS2; go_simp; rfl)); clear hK K))
            refine wpMixE_nil ⟨?_, ?_⟩
            · refine wpMix_loud rfl rfl (fun m1 K hK => ?_)
              go_wp2_with fail
              refine (hdo.out (wc.drewN (1 + m1)) (below_drewNs (Below.refl _ _) _)).mono ?_
              rintro _ w5 ⟨x, vg, s2, l0', ns0', rfl, hL, hSt⟩
              obtain ⟨F2, G5⟩ := got_call hkb M5.out hF4.out hLK.out hq.out hS5.out hv5.out hvbF.out (below_drewNs (Below.refl _ _) _) hSt.fail hL
              clear hL lc s0 s1 s2c
              obtain ⟨Ag, cg, rfl, -⟩ := G5.wvg.shape
              have lc := (G5.mem.kcell hkb).2
              have s0 := G5.sblk.cell 0
              have s1 := G5.sblk.cell 1
              have s2c := G5.sblk.cell 2
              simp only [List.getElem?_toArray, List.getElem?_cons_zero, List.getElem?_cons_succ] at s0 s1 s2c
              have G5 := Lib.hid G5
              have hSt := Lib.hid hSt
              go_wp2_with fail
              refine hK _ _ (fun h => (Bool.false_ne_true ((Eq.symm (by kernel_rfl)).trans h)).elim) ?_; clear hK K
              refine wpMix_loud rfl rfl (fun m2 K hK => ?_)
              go_wp2_with fail
              refine hK _ _ (fun _ => ⟨cell_alloc_ lc, cell_alloc_ s0, cell_alloc_ s1, cell_alloc_ s2c⟩) ?_; clear hK K
              refine wpMix_loud rfl rfl (fun m3 K hK => ?_)
              have yb : Blk (((w5.drewN m2).alloc (.cells #[.int .u64 0, .bool false, .slice none 0 0, .int .i64 0] 29)).drewN m3) w5.heap.size 29 #[.int .u64 0, .bool false, .slice none 0 0, .int .i64 0] := (Blk.new (w5.drewN m2) _ _).drewN m3
              have d0 := yb.cell 0
              have k0 := yb.frozen 0
              have d1 := yb.cell 1
              have k1 := yb.frozen 1
              have d2 := yb.cell 2
              have k2 := yb.frozen 2
              have d3 := yb.cell 3
              have k3 := yb.frozen 3
              simp only [List.getElem?_toArray, List.getElem?_cons_zero, List.getElem?_cons_succ] at d0 d1 d2 d3
              go_wp2_with fail
              refine hK _ _ (fun h => (Bool.false_ne_true ((Eq.symm (by kernel_rfl)).trans h)).elim) ?_; clear hK K
              refine wpMix_nil (fun m4 => ?_)
              go_wp2_with fail
              go_meet
              refine ⟨w5.heap.size, x, l0', _, s2, F2, ns0', rfl, Lib.hid ⟨G5.out.below ?_, ?_, ?_, ?_, Lies.ne_ G5.out.q7, Lies.ne_ G5.out.q8⟩, hSt⟩
              · exact below_drewNs (((((below_drewNs ((below_drewNs (Below.refl _ _) m2).alloc (Nat.le_refl _) _) m3).setCell (Nat.le_refl _) _).setCell (Nat.le_refl _) _).setCell (Nat.le_refl _) _).setCell (Nat.le_refl _) _) m4
              · exact ((((yb.set_ 0 (.int .u64 x)).set_ 1 (.bool ba)).set_ 2 (.slice Ag l7.length cg)).set_ 3 (.int .i64 ea)).drewN m4
              · exact G5.out.mem.bel.size
              · exact Nat.ne_of_lt G5.out.wblk.lt
            · refine wpMix_loud rfl rfl (fun m1 K hK => ?_)
              go_wp2_with fail
              refine hK _ _ (fun _ => ⟨cell_alloc_ lc, cell_alloc_ s0, cell_alloc_ s1, cell_alloc_ s2c⟩) ?_; clear hK K
              refine wpMix_loud rfl rfl (fun m2 K hK => ?_)
              go_wp2_with fail
              have hb : Below wc.heap.size wc (((wc.drewN (1 + m1)).alloc (.cells #[.int .u64 0, .bool false, .slice none 0 0, .int .i64 0] 29)).drewN m2) := below_drewNs ((below_drewNs (Below.refl _ _) (1 + m1)).alloc (Nat.le_refl _) _) m2
              have yb0 : Blk (((wc.drewN (1 + m1)).alloc (.cells #[.int .u64 0, .bool false, .slice none 0 0, .int .i64 0] 29)).drewN m2) wc.heap.size 29 #[.int .u64 0, .bool false, .slice none 0 0, .int .i64 0] := (Blk.new (wc.drewN (1 + m1)) _ _).drewN m2
              refine (hdo.out _ hb).mono ?_
              rintro _ w5 ⟨x, vg, s2, l0', ns0', rfl, hL, hSt⟩
              have yb : Blk w5 wc.heap.size 29 #[.int .u64 0, .bool false, .slice none 0 0, .int .i64 0] := by
                obtain ⟨-, -, -, F', -, m', -⟩ := id hL
                exact m'.blk yb0 ((M5.out.below hb).tx.not_other yb0 (by decide) (by decide))
              obtain ⟨F2, G5⟩ := got_call hkb M5.out hF4.out hLK.out hq.out hS5.out hv5.out hvbF.out hb hSt.fail hL
              clear hL lc s0 s1 s2c hb yb0
              obtain ⟨Ag, cg, rfl, -⟩ := G5.wvg.shape
              have h7 := Lib.hid (Lies.ne_ hq.out.l7)
              have h8 := Lib.hid (Lies.ne_ hq.out.l8)
              have hge := Lib.hid M5.out.bel.size
              have hwg : Hid (wb ≠ wc.heap.size) := Lib.hid (Nat.ne_of_lt hq.out.blk.lt)
              have G5 := Lib.hid G5
              have hSt := Lib.hid hSt
              have yb := Lib.hid yb
              generalize wc.heap.size = gb at *
              go_wp2_with fail
              refine hK _ _ (fun h => (Bool.false_ne_true ((Eq.symm (by kernel_rfl)).trans h)).elim) ?_; clear hK K
              refine wpMix_loud rfl rfl (fun m3 K hK => ?_)
              have yb := yb.out.drewN m3
              have d0 := yb.cell 0
              have k0 := yb.frozen 0
              have d1 := yb.cell 1
              have k1 := yb.frozen 1
              have d2 := yb.cell 2
              have k2 := yb.frozen 2
              have d3 := yb.cell 3
              have k3 := yb.frozen 3
              simp only [List.getElem?_toArray, List.getElem?_cons_zero, List.getElem?_cons_succ] at d0 d1 d2 d3
              go_wp2_with fail
              refine hK _ _ (fun h => (Bool.false_ne_true ((Eq.symm (by kernel_rfl)).trans h)).elim) ?_; clear hK K
              refine wpMix_nil (fun m4 => ?_)
              go_wp2_with fail
              go_meet
              have e0 := yb.set_ 0 (.int .u64 x)
              have e1 := e0.set_ 1 (.bool ba)
              have e2 := e1.set_ 2 (.slice Ag l7.length cg)
              have G6 : GotC W (w5.drewN m3) t Lb Kb F2 s2 ls vs (fun j => kl (nss j)) (1 + 2000 * g) ba ea (.slice Ag l7.length cg) l7 wb xa v7 nx v8 sb kind on key (.slice Ab n cb) s.W := G5.out.below (below_drewNs (Below.refl _ _) m3)
              have G7 := (((G6.set yb hge.out hwg.out h7.out h8.out 0 (.int .u64 x)).set e0 hge.out hwg.out h7.out h8.out 1 (.bool ba)).set e1 hge.out hwg.out h7.out h8.out 2 (.slice Ag l7.length cg)).set e2 hge.out hwg.out h7.out h8.out 3 (.int .i64 ea)
              exact ⟨gb, x, l0', _, s2, F2, ns0', rfl, Lib.hid ⟨G7.below (below_drewNs (Below.refl _ _) m4), (e2.set_ 3 (.int .i64 ea)).drewN m4, hge.out, hwg.out, h7.out, h8.out⟩, hSt⟩
          case rest =>
            obtain ⟨gb, x, l0', vg, s2, F2, ns0', rfl, hG, hSt⟩ := hcut
            clear hdo M5 hS5 hv5 hq lc s0 s1 s2c hF4 hvbF
            obtain ⟨G, yb, hge, hwg, h7, h8⟩ := hG.out
            have lc := (G.mem.kcell hkb).2
            have lz := G.mem.lb.frozen kk
            have s0 := G.sblk.cell 0
            have d0 := yb.cell 0
            have k0 := yb.frozen 0
            simp only [List.getElem?_toArray, List.getElem?_cons_zero, List.getElem?_cons_succ] at s0 d0
            have hge := Lib.hid hge
            have hwg := Lib.hid hwg
            have h7 := Lib.hid h7
            have h8 := Lib.hid h8
            have G := Lib.hid G
            have yb := Lib.hid yb
            clear hG
            go_upto_if 98 with (fail)
            go_cut [19] (fun c19 wx => c19 = .pointer (some ⟨gb, 0, none⟩) ∧ Hid (GotC W wx t Lb Kb F2 s2 (updf ls kk l0') vs (fun j => kl (nss j)) (1 + 2000 * g) ba ea vg l7 wb xa v7 nx v8 sb kind on key (.slice Ab n cb) s.W ∧ Blk wx gb 29 #[.int .u64 xa, .bool ba, vg, .int .i64 ea]))
            case first =>
              by_cases h9 : kind = 9
              · subst h9
                obtain rfl : x = l0' := hSt.out.nine rfl
                have hxa : xa = 0 := dAns_9 hA.out
                subst hxa
                have e1 : GotC W (wc.setCell ⟨Lb, kk, none⟩ (.int .u64 x)) t Lb Kb F2 s2 (updf ls kk x) vs (fun j => kl (nss j)) (1 + 2000 * g) ba ea vg l7 wb 0 v7 nx v8 sb 9 on key (.slice Ab n cb) s.W := G.out.setL hkb x
                have y1 : Blk (wc.setCell ⟨Lb, kk, none⟩ (.int .u64 x)) gb 29 #[.int .u64 x, .bool ba, vg, .int .i64 ea] := yb.out.far (by
                  rintro e
                  have e : gb = Lb := e
                  subst e; exact absurd (yb.out.uniq G.out.mem.lb).1 (by decide)) _
                have d0' := y1.cell 0
                have k0' := y1.frozen 0
                simp only [List.getElem?_toArray, List.getElem?_cons_zero, List.getElem?_cons_succ] at d0'
                have e2 := Lib.hid (e1.set y1 hge.out hwg.out h7.out h8.out 0 (.int .u64 0))
                have y2 := Lib.hid (y1.set_ 0 (.int .u64 0))
                clear e1 y1
                go_wp2_with fail
                go_meet
                exact ⟨rfl, Lib.hid ⟨e2.out, y2.out⟩⟩
              · have z9 : (kind == 9) = false := by simpa using h9
                obtain ⟨rfl, rfl⟩ := hSt.out.other h9
                clear h9
                go_wp2_with fail
                go_meet
                exact ⟨rfl, Lib.hid ⟨by rw [updf_self]; exact G.out, yb.out⟩⟩
            case rest =>
              obtain ⟨rfl, hG⟩ := hcut
              clear lc lz s0 d0 k0 G yb
              obtain ⟨G, yb⟩ := hG.out
              have hsame := same_b (x := xa) (e := ea) (h := ba) G.wvg.lies G.q7 G.wvg.len_
              obtain ⟨Ag, cg, rfl, hcg⟩ := G.wvg.shape
              obtain ⟨A7, c7, rfl, -⟩ := G.q7.of
              obtain ⟨Aw, cw, q1, q2, q3, -⟩ := G.mem.tx.words
              have hgb : Hid (∀ Wd, Below wc.heap.size wc Wd → Wd.cell? ⟨sb, 0, none⟩ = some (.int .i64 kind) ∧ Wd.cell? ⟨t, 2, none⟩ = some (.int .i64 s2.puts) ∧ Wd.cell? ⟨gb, 3, none⟩ = some (.int .i64 ea) ∧ Wd.cell? ⟨t, 0, none⟩ = some (.slice Aw s2.W.length cw)) := Lib.hid fun Wd hb =>
                ⟨keepCell hb (Nat.le_refl _) (by have := G.sblk.cell 0; simpa using this), keepCell hb (Nat.le_refl _) G.mem.tx.num.2.1, keepCell hb (Nat.le_refl _) (by have := yb.cell 3; simpa using this), keepCell hb (Nat.le_refl _) q1⟩
              have hqq : Hid (lk kind = true ∨ ea ≠ 0 → s2.puts = s.puts ∧ s2.W = s.W) := Lib.hid fun h => hSt.out.quiet (h.imp lk_at id)
              have hsm : Hid (s2.W = s.W → ∀ Wd, Below wc.heap.size wc Wd → Calls Try.prog 11 #[.slice Ab s.W.length cb, .slice Aw s2.W.length cw] Wd fun e w' => (∃ n, w' = Wd.drewN n) ∧ e = .returned (.bool true)) := Lib.hid fun he Wd hb => by
                have k1 : Lies Wd (.slice Ab s.W.length cb) s.W := by have := G.bef.lies.below hb; rw [hwl.out]; exact this
                have k2 : Lies Wd (.slice Aw s2.W.length cw) s.W := by have := q3.below hb; rw [he] at this ⊢; exact this
                exact (words_b k1 k2 (by rw [hwl.out]; omega)).mono fun e w' ⟨q1, q2⟩ => ⟨q1, by rw [q2, decide_eq_true rfl]⟩
              have d0 := yb.cell 0
              have d1 := yb.cell 1
              have d2 := yb.cell 2
              have d3 := yb.cell 3
              have e0 := G.wblk.cell 0
              have e1 := G.wblk.cell 1
              have e2 := G.wblk.cell 2
              have e3 := G.wblk.cell 3
              simp only [List.getElem?_toArray, List.getElem?_cons_zero, List.getElem?_cons_succ] at d0 d1 d2 d3 e0 e1 e2 e3
              have hsame := Lib.hid hsame
              have G := Lib.hid G
              have yb := Lib.hid yb
              clear hG q1 q2 q3
              go_upto_region 20 with (fail)
              go_cut [142] (fun c142 wx => c142 = .bool false ∧ Hid (Below wc.heap.size wc wx))
              case first =>
                obtain ⟨bk, hbk⟩ : ∃ bk, lk kind = bk := ⟨_, rfl⟩
                have hlo : Hid (∀ Wd, Calls Try.prog 18 #[.int .i64 kind] Wd fun e w' => e = .returned (.bool bk) ∧ Wd = w') := Lib.hid fun Wd => by rw [← hbk]; exact looks_b
                have hqq : Hid (bk = true ∨ ea ≠ 0 → s2.puts = s.puts ∧ s2.W = s.W) := Lib.hid (by rw [← hbk]; exact hqq.out)
                clear hbk
                go_wp2_with fail
                refine hsame.out.mono ?_
                rintro _ w6 ⟨rfl, hb6⟩
                obtain ⟨f1, f2, f3, f4⟩ := hgb.out w6 hb6
                have hb6 := Lib.hid hb6
                clear d0 d1 d2 d3 e0 e1 e2 e3
                go_wp2_with fail
                refine (hlo.out w6).mono ?_
                rintro _ _ ⟨rfl, rfl⟩
                by_cases hea : ea = 0
                · subst hea
                  cases bk with
                  | false =>
                    go_wp2_with fail
                    go_meet
                    exact ⟨rfl, hb6⟩
                  | true =>
                    rw [(hqq.out (.inl rfl)).1] at f2
                    go_wp2_with fail
                    go_meet
                    exact ⟨rfl, hb6⟩
                · have zea : (ea != 0) = true := by simpa using hea
                  obtain ⟨hp, hw⟩ := hqq.out (.inr hea)
                  rw [hp] at f2
                  have hsmc := Lib.hid (hsm.out hw w6 hb6.out)
                  clear hea hp hw
                  cases bk with
                  | false =>
                    go_wp2_with fail
                    refine hsmc.out.mono ?_
                    rintro _ w7 ⟨⟨n7, rfl⟩, rfl⟩
                    go_wp2_with fail
                    go_meet
                    exact ⟨rfl, Lib.hid (below_drewNs hb6.out n7)⟩
                  | true =>
                    go_wp2_with fail
                    refine hsmc.out.mono ?_
                    rintro _ w7 ⟨⟨n7, rfl⟩, rfl⟩
                    go_wp2_with fail
                    go_meet
                    exact ⟨rfl, Lib.hid (below_drewNs hb6.out n7)⟩
              case rest =>
                obtain ⟨rfl, hb6⟩ := hcut
                have hovg := Lib.hid G.out.ovg
                have ho8 := Lib.hid G.out.o8
                have hf8 := Lib.hid G.out.f8
                have hbu := Lib.hid G.out.bud
                have hA0 : Hid (Aft W wc t Lb Kb F2 s2 (updf ls kk l0') vs (fun j => kl (nss j)) (.slice Ag l7.length cg) l7.length gb xa ba ea v8 nx l7) := Lib.hid ⟨G.out.mem.below hb6.out, rfl, Wl.below G.out.wvg hb6.out, G.out.q8.below hb6.out, yb.out.below hb6.out yb.out.lt⟩
                obtain ⟨A8, c8, rfl, hc8, -⟩ := G.out.q8.of
                have d2 := hA0.out.blk.cell 2
                simp only [List.getElem?_toArray, List.getElem?_cons_zero, List.getElem?_cons_succ] at d2
                clear hgb hqq hsm hsame G yb d0 d1 d3 e0 e1 e2 e3 hb6
                generalize hl7 : l7.length = ng at *
                clear hl7
                go_wp2_with fail
                go_loopg [20] ng (fun gk c20 wx => ∃ (j : Nat) (lg : List Int), gk + j = ng ∧ c20 = .int .i64 (j : Int) ∧ Hid (Aft W wx t Lb Kb F2 s2 (updf ls kk l0') vs (fun j => kl (nss j)) (.slice Ag ng cg) ng gb xa ba ea (.slice A8 nx.length c8) nx lg))
                case atStart => exact ⟨0, l7, rfl, rfl, hA0⟩
                case round =>
                  obtain ⟨j, lg, hgk, rfl, hA⟩ := hrel
                  have HG2 := Lib.hid hgk
                  clear hgk hA0 d2
                  have d2 := hA.out.blk.cell 2
                  simp only [List.getElem?_toArray, List.getElem?_cons_zero, List.getElem?_cons_succ] at d2
                  by_cases hj : j < ng
                  · obtain ⟨g2, rfl⟩ : ∃ g2, gk = g2 + 1 := ⟨gk - 1, by have := HG2.out; omega⟩
                    have hw := hA.out.wvg
                    have hln := hA.out.len
                    have hw' : Wl wr (.slice Ag lg.length cg) lg := by rw [hln]; exact hw
                    obtain ⟨gq, oq, hAg, -, hcell, hfr, hset⟩ := hw'.upd (j := j) (by rw [hln]; exact hj)
                    subst hAg
                    have hset := hset 99
                    have hA2 := Lib.hid (hA.out.set hovg.out ho8.out (g := gq) (i := oq + j) rfl (.int .u64 99) (lg' := lg.set j 99) (by rw [List.length_set]; exact hln) (by rw [List.length_set, hln] at hset; exact hset))
                    have hj0 : decide (j < ng) = true := decide_eq_true hj
                    have hj1 : (j : Int) < ng := by omega
                    have hj2 : (ng : Int) ≤ cg := by omega
                    have hj3 : (ng : Int) ≤ 9223372036854775807 := by have := hw.len_; rw [hln] at this; exact this
                    clear hw hw' hln hset hA
                    go_wp2
                    go_roundg g2
                    case measure => omega
                    case rel => exact ⟨j + 1, lg.set j 99, by have := HG2.out; omega, by go_num, hA2⟩
                  · have hj0 : decide (j < ng) = false := decide_eq_false hj
                    have hnx : nx.length ≤ 60000 := by
                      obtain ⟨fs', hB'⟩ := hSt.out.both
                      have h1 := hB'.len
                      have h2 := hSt.out.keys
                      simp only at h2
                      rw [← h2]
                      simp [kl]; omega
                    have hnl : Hid (nx.length ≤ 60000) := Lib.hid hnx
                    clear hnx hj
                    go_upto_region 26 with (fail)
                    go_upto_region 27 with (at_builtin; refine wpList_words wr rfl (.const (.slice none 0 0)) (.tmp 155) rfl (.slice none 0 0) (.slice A8 nx.length c8) [] nx rfl (Wl.nil _) rfl hA.out.q8 (by have := hnl.out; simp; omega) ?_; intro A9 c9 w9 hc9 hv9 hm9; have hM9 := Lib.hid (hA.out.mem.below (Fr.below (B := wr.heap.size) hm9 (fun k hk => nomatch hk) (Nat.le_refl _))); have kc := (hM9.out.kcell hkb).1; have kz := hM9.out.kb.frozen kk; have hv9 := Lib.hid hv9; have hm9 := Lib.hid hm9)
                    have hv9 : Hid (Wl w9 (.slice A9 nx.length c9) nx) := Lib.hid (by have := hv9.out; simpa using this)
                    have ho9 : Hid (∀ k, own (.slice A9 nx.length c9) k → wr.heap.size ≤ k) := Lib.hid fun k hk => (hm9.out.new k (by simpa using hk)).elim (fun h => nomatch h) id
                    obtain ⟨fs', hB'⟩ := hSt.out.both
                    have hkeys := hSt.out.keys
                    simp only at hkeys
                    have hMn : Hid (Mem W (w9.setCell ⟨Kb, kk, none⟩ (.slice A9 nx.length c9)) t Lb Kb F2 s2 (updf ls kk l0') (updf vs kk (.slice A9 nx.length c9)) (fun j => kl (updf nss kk ns0' j))) := Lib.hid (by
                      have h1 := hM9.out.setK hkb hv9.out (fun k hk hF => by have := hA.out.mem.tx.lt k hF; have := ho9.out k hk; omega) (fun i hi k hk hv => by have := (hA.out.mem.wl i hi).lt k hv; have := ho9.out k hk; omega) (fun k hk => by have := hA.out.mem.bel.size; have := ho9.out k hk; omega)
                      rw [← hkeys, kl_updf] at h1
                      rw [hkeys] at h1
                      exact h1)
                    have hBn := Lib.hid (Both.back hkb hB')
                    clear hA hM9 hv9 hm9 ho9 hB' kc kz d2 hc9
                    generalize updf ls kk l0' = ls2 at *
                    generalize updf vs kk (.slice A9 nx.length c9) = vs2 at *
                    generalize updf nss kk ns0' = nss2 at *
                    generalize w9.setCell ⟨Kb, kk, none⟩ (.slice A9 nx.length c9) = w10 at *
                    go_wp2_with fail
                    go_loopg [21] 2 (fun gk c21 wx => ∃ j : Nat, gk + j = 2 ∧ c21 = .int .i64 (j : Int) ∧ Hid (Mem W wx t Lb Kb F2 s2 ls2 vs2 (fun j => kl (nss2 j))))
                    case atStart => exact ⟨0, rfl, rfl, hMn⟩
                    case round =>
                      obtain ⟨j2, hgk2, rfl, hM⟩ := hrel
                      have HG3 := Lib.hid hgk2
                      clear hgk2 hMn
                      by_cases hj2 : j2 < 2
                      · obtain ⟨g3, rfl⟩ : ∃ g3, gk = g3 + 1 := ⟨gk - 1, by have := HG3.out; omega⟩
                        obtain ⟨Aw2, cw2, q1, hcw2, hst⟩ := stands_at hM.out hBn.out hj2
                        have hst := Lib.hid hst
                        have lc := (hM.out.kcell hj2).2
                        obtain ⟨Aj, cj, hvj, -⟩ := (hM.out.wl j2 hj2).shape
                        have hnj := (hM.out.wl j2 hj2).len_
                        have hvj := Lib.hid hvj
                        obtain ⟨lj, hlj⟩ : ∃ lj, kl (nss2 j2) = lj := ⟨_, rfl⟩
                        rw [hlj] at hst hvj hnj
                        have hlj := Lib.hid hlj
                        have hji : (j2 : Int) < 2 := by omega
                        go_wp2_with fail
                        refine wp_region_mix (fun _ => True) [3, 3, 3, 1, 3, 3, 1, 2, 3, 3, 3, 3, 3] (List.range 13) (by kernel_rfl) (by kernel_rfl) (fun _ _ h => h) trivial ?_
                        repeat ((first | refine wpMix_pure rfl rfl (fun K hK => ?_) | refine wpMix_loc rfl rfl (fun K hK => ?_) | refine wpMix_any rfl rfl (fun K hK => ?_)); go_simp; refine hK _ _ ?_; clear hK K)
                        refine wpMix_loud rfl rfl (fun m1 K hK => ?_)
                        go_wp2_with fail
                        refine (hst.out (wr.drewN (1 + m1)) (below_drewNs (Below.refl _ _) _)).mono ?_
                        rintro _ w6 ⟨v6, rfl, W6, hb6⟩
                        have M6 := Lib.hid (hM.out.below (below_unN_ hb6))
                        have k6 : Lies w6 v6 lj := W6.lies
                        obtain ⟨A6, c6, rfl, -⟩ := k6.of
                        have k7 : Lies w6 (.slice Aj lj.length cj) lj := by
                          have := (M6.out.wl j2 hj2).lies
                          simp only [hlj.out] at this
                          rw [hvj.out] at this
                          exact this
                        have hT := Lib.hid (fun m => (words_b (k6.drewN m) (k7.drewN m) hnj).mono fun e w' (q : (∃ n, w' = (w6.drewN m).drewN n) ∧ e = .returned (.bool (decide (lj = lj)))) => (show (∃ n, w' = (w6.drewN m).drewN n) ∧ e = .returned (.bool true) from ⟨q.1, by rw [q.2, decide_eq_true rfl]⟩))
                        clear q1 hst lc W6 hb6 hM k6 k7
                        go_wp2_with fail
                        refine hK _ _ (fun _ => trivial) ?_; clear hK K
                        repeat ((first | refine wpMix_pure rfl rfl (fun K hK => ?_) | refine wpMix_loc rfl rfl (fun K hK => ?_) | refine wpMix_any rfl rfl (fun K hK => ?_)); go_simp; refine hK _ _ ?_; clear hK K)
                        refine wpMix_nil (fun m2 => ?_)
                        have hT := Lib.hid (hT.out m2)
                        have kc := ((M6.out.drewN m2).kcell hj2).1
                        rw [hvj.out] at kc
                        go_wp2_with fail
                        refine hT.out.mono ?_
                        rintro _ w8 ⟨⟨n8, rfl⟩, rfl⟩
                        have M8 := Lib.hid (M6.out.drewN (m2 + n8))
                        clear hT kc M6
                        go_wp2_with fail
                        go_roundg g3
                        case measure => omega
                        case rel => exact ⟨j2 + 1, by have := HG3.out; omega, by go_num, M8⟩
                      · have hj0 : decide ((j2 : Int) < 2) = false := decide_eq_false (by omega)
                        obtain ⟨Aa, Ab2, ca2, cb2, va, vb2, x0, x1, -⟩ := hM.out.cells
                        have hlf := left_at hM.out hBn.out
                        have hl2 := hBn.out.len
                        rw [Int.natCast_add] at hlf
                        have hlf := Lib.hid hlf
                        have hbnd : (kl (nss2 0)).length + (kl (nss2 1)).length ≤ 100 := by simp [kl]; omega
                        generalize (kl (nss2 0)).length = na at *
                        generalize (kl (nss2 1)).length = nb at *
                        clear va vb2 hj2
                        go_wp2_with fail
                        refine hlf.out.mono ?_
                        rintro _ w11 ⟨rfl, hb11⟩
                        have hLn : Hid (LoopP W t Lb Kb n g w11) := Lib.hid ⟨F2, s2, ls2, vs2, nss2, fs', hM.out.below hb11, hbu.out, hBn.out⟩
                        clear hlf hM hb11 x0 x1
                        go_wp2_with fail
                        go_roundg g
                        case measure => omega
                        case rel => exact ⟨i + 1, by have := HG.out; omega, by go_num, hLn⟩
      · have hi' : (sn : Int) ≤ i := by omega
        obtain ⟨F, s, ls, vs, nss, fs, M, -, -⟩ := HL.out
        have hB := Lib.hid M.bel
        clear M HL
        go_wp2_with fail
        refine (known_b _).mono ?_
        rintro _ w5 ⟨rfl, h5⟩
        have hb := Lib.hid (hB.out.trans (h5.mono hB.out.size))
        clear h5
        go_wp2_with fail
        go_ret
        exact ⟨rfl, hb.out⟩
end Go.Proofs.Ytcohopobjppmaaa
