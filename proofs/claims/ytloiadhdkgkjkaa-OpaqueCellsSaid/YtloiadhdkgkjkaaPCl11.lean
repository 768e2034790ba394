/- opaque.Never by contract, behind see's. -/
import Derived.Test.YtloiadhdkgkjkaaEvT
import Derived.Test.YtloiadhdkgkjkaaEvV
import Derived.Test.YtloiadhdkgkjkaaMixH
import Derived.Deep.LoopGhost
import Derived.Deep.DeepCutAuto
import Derived.Test.YtloiadhdkgkjkaaPCl1
import Derived.Test.YtloiadhdkgkjkaaPCl4
import Derived.Test.YtloiadhdkgkjkaaPCl5
import Derived.Test.YtloiadhdkgkjkaaPCl10
namespace Go.Proofs.Ytloiadhdkgkjkaa
open Go.RowKit Go.ChangeMaps Go.MapKept
set_option maxHeartbeats 4000000
set_option linter.unusedVariables false
set_option linter.unusedSimpArgs false
theorem own_slice {A : Option Addr} {n c m d q : Nat} (h : own (.slice A n c) q) : own (.slice A m d) q := by cases A <;> exact h
def LkS (b : Nat) (p : Int × Int) (c : Nat) (W : World) : Prop := ∃ m f, Mq W b m f ∧ (f p).getD (.int .i64 0) = .int .i64 c
theorem LkS.run {b : Nat} {a qw : Int} {c : Nat} {W : World} (hin : inB (a, qw)) (h : LkS b (a, qw) c W) : (Instr.lookup 89 (.map (some b)) (.agg #[.int .u64 a, .int .u64 qw]) false).run Try.prog W = .ok (.int .i64 c) W := by
  obtain ⟨m, f, hW, hc⟩ := h
  have := hW.lookup Try.underlying89 cellKey_law (fun p hp => cellKey_of hp) (z := .int .i64 0) (Try.zeroValue3 W) hin false
  rw [hc] at this
  exact this
def keyN (v : Value) : Nat := match v with | .int _ k => k.toNat | _ => 0
theorem seen_push {es : Array MapEntry} {clock : Nat} (hs : Stamped es clock) {seen : Array Nat} {vis : Nat → Bool} (h : ∀ x ∈ es.toList, seen.contains x.born = vis (keyN x.key)) (hk : ∀ x ∈ es.toList, ∃ k : Int, 0 ≤ k ∧ x.key = .int .u64 k) {y : MapEntry} (hy : y ∈ es.toList) :
    ∀ x ∈ es.toList, (seen.push y.born).contains x.born = upd vis (keyN y.key) true (keyN x.key) := by
  intro x hx
  obtain ⟨i, hi⟩ := List.mem_iff_getElem?.1 hx
  obtain ⟨j, hj⟩ := List.mem_iff_getElem?.1 hy
  obtain ⟨kx, hx0, ex⟩ := hk x hx
  obtain ⟨ky, hy0, ey⟩ := hk y hy
  by_cases he : x.born = y.born
  · have hb : (es.toList.map (·.born))[i]? = (es.toList.map (·.born))[j]? := by rw [List.getElem?_map, List.getElem?_map, hi, hj]; simp [he]
    have hij : i = j := (List.getElem?_inj (by rw [List.length_map]; exact (List.getElem?_eq_some_iff.1 hi).1) hs.2.1).1 hb
    subst hij
    rw [hi] at hj
    injection hj with hj
    subst hj
    rw [upd_at]
    simp
  · have hne : keyN x.key ≠ keyN y.key := fun e => he (by
      rw [ex, ey] at e
      have e2 : kx = ky := by simp only [keyN] at e; omega
      have hij := stamped_keys hs hi hj (by rw [ex, ey, e2])
      subst hij
      rw [hi] at hj
      injection hj with hj
      rw [hj])
    rw [upd_ne _ _ hne, ← h x hx]
    simp [he]
set_option maxRecDepth 100000 in
theorem never_b {w : World} {Af A : Option Addr} {first : List Int} {l : List Ev} {cf cp : Nat}
    (SEE : ∀ W, Below w.heap.size w W → Calls Try.prog 26 #[.slice Af first.length cf, .slice A l.length cp] W (SeeP W first l))
    (hJ : seeOdd first.length l = (-1, 0) → VJ (vn first (rn l l.length).tries l l.length) first.length) (hB : VB (vn first (rn l l.length).tries l l.length)) (hsz : l.length * 48 + 480 ≤ 140737488355328)
    (hfl : seeOdd first.length l = (-1, 0) → first.length ≤ 65536) :
    Calls Try.prog 19 #[.slice Af first.length cf, .slice A l.length cp] w fun x w' => Below w.heap.size w w' ∧ (((seeOdd first.length l).2 ≠ 0 ∧ x = .returned (.tuple #[.slice none 0 0, .agg #[.int .i64 (seeOdd first.length l).1, .int .i64 (seeOdd first.length l).2]])) ∨
      (seeOdd first.length l = (-1, 0) ∧ okTo l l.length ∧ ∃ ov, x = .returned (.tuple #[ov, .agg #[.int .i64 (-1), .int .i64 0]]) ∧ Sl 45 2 encC w' ov (neverL (vn first (rn l l.length).tries l l.length)) ∧ ∀ q, own ov q → w.heap.size ≤ q)) := by
  have hR1 := Blk.new w 28 #[.int .i64 0, .int .i64 0]
  have hb1 := (Below.refl w.heap.size w).alloc (Nat.le_refl _) (.cells #[.int .i64 0, .int .i64 0] 28)
  have S1 := Lib.hid (SEE _ hb1)
  replace hR1 := Lib.hid hR1
  replace hb1 := Lib.hid hb1
  replace hJ := Lib.hid hJ
  replace hsz := Lib.hid hsz
  replace hfl := Lib.hid hfl
  obtain ⟨w1, hw1⟩ : ∃ w1, w1 = w.alloc (.cells #[.int .i64 0, .int .i64 0] 28) := ⟨_, rfl⟩
  rw [← hw1] at hR1 hb1 S1
  replace hw1 := Lib.hid hw1
  clear SEE
  have hmm : ∀ W : World, (Instr.makeMap 89 none).run Try.prog W = .ok (.map (some W.heap.size)) (W.alloc (.map #[] 0)) := fun W => by simp [Instr.makeMap]
  have hln90 : ∀ (W : World) (A : Option Addr) (n c : Nat) (ty : TypeId), (Builtin.len_ #[90] ty #[.slice A n c]).run Try.prog W = .ok (.int .i64 n) W := fun W A n c ty => by simp [Builtin.len_, run_underlying Try.underlying90, goInt]
  have hln66 : ∀ (W : World) (A : Option Addr) (n c : Nat) (ty : TypeId), (Builtin.len_ #[66] ty #[.slice A n c]).run Try.prog W = .ok (.int .i64 n) W := fun W A n c ty => by simp [Builtin.len_, run_underlying Try.underlying66, goInt]
  have hln43 : ∀ (W : World) (A : Option Addr) (n c : Nat) (ty : TypeId), (Builtin.len_ #[43] ty #[.slice A n c]).run Try.prog W = .ok (.int .i64 n) W := fun W A n c ty => by simp [Builtin.len_, run_underlying Try.underlying43, goInt]
  have hrd := Lib.hid (rdN_vn first (rn l l.length).tries l l.length)
  replace hB := Lib.hid hB
  go_enter Try.func19, Try.ntmps19
  go_wp2_with fail
  rw [← hw1.out]
  refine S1.out.mono ?_
  rintro e w2 ⟨hb2, (⟨ho, rfl⟩ | ⟨ho, hok, B, vb, nb, mb, fv, cv, sv, hB0, rfl, hV, hVI⟩)⟩
  · obtain ⟨at0, hat0⟩ : ∃ x, (seeOdd first.length l).1 = x := ⟨_, rfl⟩
    obtain ⟨er0, her0⟩ : ∃ x, (seeOdd first.length l).2 = x := ⟨_, rfl⟩
    rw [hat0, her0]
    replace hat0 := Lib.hid hat0
    replace her0 := Lib.hid her0
    have hR2 := hR1.out.below hb2 hR1.out.lt
    have hb3 := Lib.hid ((hb1.out.trans (hb2.mono hb1.out.size)).alloc (hb1.out.trans (hb2.mono hb1.out.size)).size (.cells #[.int .i64 at0, .int .i64 er0] 28))
    have hR3 := hR2.alloc (.cells #[.int .i64 at0, .int .i64 er0] 28)
    have r0 := hR3.cell 0
    have r1 := hR3.cell 1
    have f0 := hR3.frozen 0
    have f1 := hR3.frozen 1
    simp only [List.getElem?_toArray, List.getElem?_cons_zero, List.getElem?_cons_succ] at r0 r1
    have hlt2 := hR2.lt
    have hne2 : w.heap.size ≠ w2.heap.size := by omega
    clear hb2 hR2 hR3 hR1 S1 hmm
    replace ho := Lib.hid ho
    go_wp2
    refine wp_region_mixH (fun _ => True) [1, 3, 2] (List.range 3) (by kernel_rfl) (by kernel_rfl) (fun _ _ h => h) trivial ?_
    (repeat ((first | refine wpMixH_pure rfl rfl (fun K hK => ?_) | refine wpMixH_loc rfl rfl (fun K hK => ?_) | refine wpMixH_any rfl rfl (fun K hK => ?_)); go_simp; refine hK _ _ ?_; clear hK K))
    refine wpMixH_loud rfl rfl (fun n1 K hK => ?_)
    go_wp2
    refine hK _ _ (fun _ => trivial) ?_; clear hK K
    refine wpMixH_nil (fun n2 => ?_)
    go_wp2
    refine bodyPost_ret (v := .tuple #[.slice none 0 0, .agg #[.int .i64 at0, .int .i64 er0]]) (by simp [results, Try.results19, go_sem, r0, r1, f0, f1]) rfl ⟨below_drewNs (((below_drewNs hb3.out _).setCell (Nat.le_refl _) _).setCell (Nat.le_refl _) _) _, .inl ⟨ho.out, by rw [hat0.out, her0.out]⟩⟩
  · obtain ⟨vv, hvv⟩ : ∃ vv, vv = vn first (rn l l.length).tries l l.length := ⟨_, rfl⟩
    rw [← hvv] at hV hVI hJ hB hrd
    have hVJ := Lib.hid (hJ.out ho)
    have hfl' := Lib.hid (hfl.out ho)
    have hcl : Hid (∀ b, b < first.length → (vv.cells b).length ≤ l.length + 1) := Lib.hid fun b hb => by have := (hVI.inc b hb).len; have := hVI.cm; omega
    have hbw := Lib.hid (hb1.out.trans (hb2.mono hb1.out.size))
    have hR2 := Lib.hid (hR1.out.below hb2 hR1.out.lt)
    have hlt2 := hR2.out.lt
    obtain ⟨A2, cap2, hsv2, hcap2, hA2⟩ := hV.svs
    subst hsv2
    obtain ⟨nM, es, clock, hes, -, hst, hk1, hk2⟩ := hV.map
    have hml : mb < w2.heap.size := by obtain ⟨_, hm⟩ := hV.map; exact hm.lt
    obtain ⟨w3, hw3⟩ : ∃ w3, w3 = ((w2.alloc (.cells #[.int .i64 (-1), .int .i64 0] 28)).alloc (.map #[] 0)) := ⟨_, rfl⟩
    obtain ⟨w4, hw4⟩ : ∃ w4, w4 = w3.alloc (.mapIter (some mb) clock #[] clock) := ⟨_, rfl⟩
    have hs3 : w3.heap.size = w2.heap.size + 1 + 1 := by rw [hw3]; simp
    have hB3 : Below w2.heap.size w2 w3 := by rw [hw3]; exact ((Below.refl _ _).alloc (Nat.le_refl _) _).alloc (by simp) _
    have hB4 : Below w2.heap.size w2 w4 := by rw [hw4]; exact hB3.alloc (by omega) _
    have hO4 : Blk w4 w2.heap.size 28 #[.int .i64 (-1), .int .i64 0] := by rw [hw4, hw3]; exact ((Blk.new _ _ _).alloc _).alloc _
    have hM4 : Mq w4 (w2.heap.size + 1) 0 (fun _ => none) := by
      have := Mq.new (w2.alloc (.cells #[.int .i64 (-1), .int .i64 0] 28))
      rw [World.size_alloc] at this
      rw [hw4, hw3]; exact this.alloc _
    have hI4 : w4.heap[w2.heap.size + 1 + 1]? = some (.mapIter (some mb) clock #[] clock) := by rw [hw4, ← hs3]; exact heap_alloc_new w3 _
    have hrg : (Instr.range 65 (.map (some mb))).run Try.prog w3 = .ok (.pointer (some ⟨w2.heap.size + 1 + 1, 0, none⟩)) w4 := by
      rw [hw4, ← hs3]
      exact run_range_map Try.underlying65 ((hB3.block mb hml).trans hes)
    have v0 := (hV.below hB3).c0
    rw [hw3] at hrg v0
    have hst' := Lib.hid hst
    have hkk : Hid (∀ x ∈ es.toList, ∃ a : Nat, a < first.length ∧ x.key = .int .u64 (a : Int) ∧ x.val = cv a) := Lib.hid fun x hx => by
      obtain ⟨k, e1, e2⟩ := hk1 x hx
      unfold cmap at e2
      split at e2
      · rename_i hk
        injection e2 with e2
        exact ⟨k.toNat, by omega, by rw [e1, Int.toNat_of_nonneg hk.1], e2.symm⟩
      · cases e2
    have hkall : Hid (∀ a : Nat, a < first.length → ∃ x ∈ es.toList, keyN x.key = a) := Lib.hid fun a ha => by
      obtain ⟨x, hx, e⟩ := hk2 (a : Int) (by unfold cmap; rw [if_pos ⟨by omega, by omega⟩]; simp)
      exact ⟨x, hx, by rw [e]; simp [keyN]⟩
    replace hes := Lib.hid hes
    replace hV := Lib.hid hV
    replace hVI := Lib.hid hVI
    replace hvv := Lib.hid hvv
    replace hw3 := Lib.hid hw3
    replace hw4 := Lib.hid hw4
    replace hO4 := Lib.hid hO4
    replace hM4 := Lib.hid hM4
    replace hI4 := Lib.hid hI4
    replace hB4 := Lib.hid hB4
    replace hs3 := Lib.hid hs3
    replace hml := Lib.hid hml
    replace hlt2 := Lib.hid hlt2
    clear S1 hb2 hR1 hb1 hJ hfl hB3 hst hk1 hk2
    go_wp2
    clear hrg v0 hmm
    go_loopg [9, 10] es.size (fun gk c9 c10 wx => ∃ (seen : Array Nat) (c0 : Nat) (vis : Nat → Bool) (n : Nat), gk = (leftOf es seen).size ∧ clock ≤ c0 ∧ Hid (∀ x ∈ es.toList, seen.contains x.born = vis (keyN x.key)) ∧ Hid (wx.heap[w2.heap.size + 1 + 1]? = some (.mapIter (some mb) clock seen c0)) ∧ Hid (Mq wx (w2.heap.size + 1) n (fC (cntV first.length vv.cells vis first.length 0))) ∧ Hid (Blk wx w2.heap.size 28 #[.int .i64 (-1), .int .i64 0]) ∧ Hid (Below w2.heap.size w2 wx))
    case atStart => exact ⟨#[], clock, fun _ => false, 0, (left_new es).symm, Nat.le_refl _, Lib.hid (by simp), hI4, Lib.hid (hM4.out.congr (fun k => by rw [cntV_start]; simp [fC])), hO4, hB4⟩
    case round =>
      obtain ⟨seen, c0, vis, n, rfl, hc0, hsv, hit, hM, hO, hbx⟩ := hrel
      clear hI4 hM4 hO4 hB4
      have hmp := Lib.hid ((hbx.out.block mb hml.out).trans hes.out)
      have hne : w2.heap.size + 1 + 1 ≠ mb := by have := hml.out; omega
      have v3 := ((hV.out.below hbx.out).alloc (.cells #[] 45)).c3
      go_wp2_with (refine wpList_next_lit rfl (.tmp 32) rfl (w2.heap.size + 1 + 1) mb clock c0 clock seen es rfl hit.out hmp.out hst'.out.1 hc0 hst'.out.2.1 hne (fun hdone => ?_) (fun x hx w' hit' hg' hz' hen => ?_))
      · have hvall : Hid (∀ b, b < first.length → vis b = true) := Lib.hid fun b hb => by
          obtain ⟨x, hx, e⟩ := hkall.out b hb
          rw [← e, ← hsv.out x hx]
          cases hc : seen.contains x.born with
          | true => rfl
          | false =>
            have : x ∈ (leftOf es seen).toList := by unfold leftOf; simp only [Array.toList_filter, List.mem_filter]; exact ⟨hx, by rw [hc]; rfl⟩
            rw [← Array.length_toList] at hdone
            rw [List.eq_nil_of_length_eq_zero hdone] at this
            simp at this
        obtain ⟨wD, rfl⟩ : ∃ wD : World, wD = wr := ⟨_, rfl⟩
        have hcnt : Hid (∀ W, Below wD.heap.size wD W → ∀ p, inB p → p.1 < (first.length : Int) → (Instr.lookup 89 (.map (some (w2.heap.size + 1))) (.agg #[.int .u64 p.1, .int .u64 p.2]) false).run Try.prog W = .ok (.int .i64 (cntV first.length vv.cells vis first.length 0 p)) W) := Lib.hid fun W hb p hp hp2 => by
          have := (hM.out.below hb).lookup Try.underlying89 cellKey_law (fun p hp => cellKey_of hp) (z := .int .i64 0) (Try.zeroValue3 W) hp false
          rw [fC_get] at this
          exact this
        have hseen : Hid (∀ p, inB p → p.1 < (first.length : Int) → (cntV first.length vv.cells vis first.length 0 p = 0 ↔ seenB vv.cells p = false)) := Lib.hid fun p hp hp2 => cntV_seen hvall.out ⟨hp.1.1, hp2⟩
        have hDO : w2.heap.size < wD.heap.size := hO.out.lt
        have hND : Hid (Sl 45 2 encC (wD.alloc (.cells #[] 45)) (.slice (some ⟨wD.heap.size, 0, none⟩) 0 0) (nevK vv 0 0)) := Lib.hid (by
          have := Sl.new (e := 45) encC_len wD [] (by simp)
          unfold nevK
          simpa using this)
        have hownD : Hid (∀ q, own (.slice (some ⟨wD.heap.size, 0, none⟩) 0 0) q → wD.heap.size ≤ q) := Lib.hid fun q hq => by
          have h1 : wD.heap.size = q := by simpa [own, Value.ownBlock] using hq
          omega
        have hlen : Hid ((vv.sights.length : Int) ≤ 9223372036854775806) := Lib.hid (by have := hVI.out.sl; have := hVI.out.nx; have := hsz.out; have h9 := vn_len first (rn l l.length).tries l l.length; rw [← hvv.out] at h9; omega)
        replace hDO := Lib.hid hDO
        clear hmp hit hsv hc0 v3
        go_loopg [13, 60] vv.sights.length (fun gk ov i wx => ∃ k : Nat, k + gk = vv.sights.length ∧ i = .int .i64 (k : Int) ∧ Hid (Sl 45 2 encC wx ov (nevK vv k 0)) ∧ Hid (∀ q, own ov q → wD.heap.size ≤ q) ∧ Hid (Below wD.heap.size wD wx))
        case atStart => exact ⟨0, by omega, rfl, hND, hownD, Lib.hid ((Below.refl _ _).alloc (Nat.le_refl _) _)⟩
        case round =>
          obtain ⟨k, hkg, rfl, hS, hown, hby⟩ := hrel
          clear hND hownD
          cases gk with
          | zero =>
            have hkz : k = vv.sights.length := by omega
            subst hkz
            rw [nevK_all] at hS
            have hlen' := hlen.out
            obtain ⟨A3, cap3, e3, -⟩ := hS.out.shape
            subst e3
            have hnl : (nevU vv).length ≤ 4611686018427387903 := by have := nevU_len vv; have := hrd.out; have := hsz.out; omega
            have SC := Lib.hid (sortC_b hS.out (by omega))
            replace hnl := Lib.hid hnl
            go_wp2_with fail
            refine SC.out.mono ?_
            rintro _ w7 ⟨rfl, hS7, hF7⟩
            have el : (srtC (nevU vv)).length = (nevU vv).length := by unfold srtC; rw [List.length_mergeSort]
            have hb7 : Below wD.heap.size wD w7 := hby.out.trans (hF7.below hown.out hby.out.size)
            have CC : Hid (∀ j, Calls Try.prog 46 #[.slice A3 (nevU vv).length cap3] (w7.drewN j) fun x w' => x = .returned (.slice A3 (neverL vv).length cap3) ∧ Sl 45 2 encC w' (.slice A3 (neverL vv).length cap3) (neverL vv) ∧ Below wD.heap.size wD w') := Lib.hid fun j => by
              have h7 := hS7.drewN j
              rw [← el] at h7
              have := compactC_b h7 (by rw [el]; exact Nat.le_succ_of_le hnl.out)
              rw [el] at this
              refine this.mono ?_
              rintro x w' ⟨rfl, h1, h2⟩
              exact ⟨rfl, h1, (below_drewNs hb7 j).trans (h2.below (fun q hq => hown.out q hq) hb7.size)⟩
            clear hS7 hF7 SC hS
            have hO7 := Lib.hid (hO.out.below hb7 hO.out.lt)
            have S0 : Hid (∀ J, (w7.drewN J).cell? ⟨w2.heap.size, 0, none⟩ = some (.int .i64 (-1)) ∧ (w7.drewN J).cell? ⟨w2.heap.size, 1, none⟩ = some (.int .i64 0)) := Lib.hid fun J => ⟨((hO7.out.drewN J).cell 0).trans rfl, ((hO7.out.drewN J).cell 1).trans rfl⟩
            have hRD := Lib.hid (hR2.out.below hbx.out hR2.out.lt)
            have hbwD := Lib.hid (hbw.out.trans (hbx.out.mono hbw.out.size))
            clear hb7
            go_wp2_with fail
            refine wp_region_mixH (fun W' => W'.cell? ⟨w2.heap.size, 0, none⟩ = some (.int .i64 (-1)) ∧ W'.cell? ⟨w2.heap.size, 1, none⟩ = some (.int .i64 0)) [3, 2, 0, 3, 2] [0, 2, 1, 3, 4] (by kernel_rfl) (by kernel_rfl) (fun _ _ h => h) (S0.out 1) ?_
            (repeat (first | ((first | refine wpMixH_pure rfl rfl (fun K hK => ?_) | refine wpMixH_loc rfl rfl (fun K hK => ?_) | refine wpMixH_any rfl rfl (fun K hK => ?_)); go_simp; refine hK _ _ ?_; clear hK K) | (refine wpMixH_any rfl rfl (fun K hK => ?_); rw [if_pos (by go_simp)]; apply Exists.intro; refine And.intro (fun w2 hS2 => ?_) (hK _ _ ?_); (focus (obtain ⟨hs1, hs2⟩ := hS2; go_simp; rfl)); clear hK K)))
            refine wpMixH_loud rfl rfl (fun n1 K hK => ?_)
            go_wp2_with fail
            refine (CC.out _).mono ?_
            rintro _ w8 ⟨rfl, hS8, hb8⟩
            have hO8 := hO.out.below hb8 hO.out.lt
            have hR8 := hRD.out.below hb8 hRD.out.lt
            have hb9 := Lib.hid (hbwD.out.trans (hb8.mono hbwD.out.size))
            have S8 : Hid (w8.cell? ⟨w2.heap.size, 0, none⟩ = some (.int .i64 (-1)) ∧ w8.cell? ⟨w2.heap.size, 1, none⟩ = some (.int .i64 0)) := Lib.hid ⟨(hO8.cell 0).trans rfl, (hO8.cell 1).trans rfl⟩
            have r0 := (hR8.cell 0).trans (show _ = some (.int .i64 0) from rfl)
            have r1 := (hR8.cell 1).trans (show _ = some (.int .i64 0) from rfl)
            have f0 := hR8.frozen 0
            have f1 := hR8.frozen 1
            have hnR : ¬ own (.slice A3 (neverL vv).length cap3) w.heap.size := fun h => by have := hown.out w.heap.size (own_slice h); have := hbx.out.size; have := hlt2.out; omega
            have hfin : Hid (∀ j jj, Sl 45 2 encC ((((w8.drewN j).setCell ⟨w.heap.size, 0, none⟩ (.int .i64 (-1))).setCell ⟨w.heap.size, 1, none⟩ (.int .i64 0)).drewN jj) (.slice A3 (neverL vv).length cap3) (neverL vv)) := Lib.hid (fun j jj => (((hS8.drewN j).set (p := ⟨w.heap.size, 0, none⟩) hnR _).set (p := ⟨w.heap.size, 1, none⟩) hnR _).drewN jj)
            have hown9 := Lib.hid (fun q (hq : own (.slice A3 (neverL vv).length cap3) q) => Nat.le_trans (Nat.le_trans (Nat.le_of_lt hlt2.out) hbx.out.size) (hown.out q (own_slice hq)))
            clear hS8 hb8 hO8 hR8 hnR CC
            go_wp2
            refine hK _ _ (fun _ => S8.out) ?_; clear hK K
            (repeat (first | ((first | refine wpMixH_pure rfl rfl (fun K hK => ?_) | refine wpMixH_loc rfl rfl (fun K hK => ?_) | refine wpMixH_any rfl rfl (fun K hK => ?_)); go_simp; refine hK _ _ ?_; clear hK K) | (refine wpMixH_any rfl rfl (fun K hK => ?_); rw [if_pos (by go_simp)]; apply Exists.intro; refine And.intro (fun w2 hS2 => ?_) (hK _ _ ?_); (focus (obtain ⟨hs1, hs2⟩ := hS2; go_simp; rfl)); clear hK K)))
            refine wpMixH_loud rfl rfl (fun n2 K hK => ?_)
            have hneO : w.heap.size ≠ w2.heap.size := by have := hlt2.out; omega
            go_wp2
            refine hK _ _ (fun h => (Bool.false_ne_true ((Eq.symm (by kernel_rfl)).trans h)).elim) ?_; clear hK K
            refine wpMixH_nil (fun n3 => ?_)
            go_wp2
            rw [hvv.out] at hfin
            refine bodyPost_ret (v := .tuple #[.slice A3 (neverL vv).length cap3, .agg #[.int .i64 (-1), .int .i64 0]]) (by simp [results, Try.results19, go_sem, r0, r1, f0, f1]) rfl ⟨below_drewNs (((below_drewNs hb9.out _).setCell (Nat.le_refl _) _).setCell (Nat.le_refl _) _) _, .inr ⟨ho, hok, _, rfl, by rw [hvv.out]; exact hfin.out _ _, hown9.out⟩⟩
          | succ g0 =>
            have hkl : k < vv.sights.length := by omega
            have hkl' : (k : Int) < (vv.sights.length : Int) := by omega
            obtain ⟨gs, os, hA3⟩ := hA2 (by omega)
            subst hA3
            have hVx := Lib.hid (hV.out.below (hbx.out.trans (hby.out.mono hbx.out.size)))
            obtain ⟨x, hx⟩ : ∃ x, x = vv.sights[k]'hkl := ⟨_, rfl⟩
            have xc : ∀ j, j < 10 → wr.cell? ⟨gs, os + (k * 10 + j), none⟩ = (encS (x, fv (8 + k)))[j]? := fun j hj => by rw [hx]; exact (sl_sx hVx.out.sights hkl hj).1
            have x0 : wr.cell? ⟨gs, os + k * 10, none⟩ = some (.int .i64 x.tr.th) := (xc 0 (by decide)).trans rfl
            have x1 : wr.cell? ⟨gs, os + k * 10 + 1, none⟩ = some (.int .i64 x.tr.first) := by rw [Nat.add_assoc]; exact (xc 1 (by decide)).trans rfl
            have x2 : wr.cell? ⟨gs, os + k * 10 + 2, none⟩ = some (.int .i64 x.tr.last) := by rw [Nat.add_assoc]; exact (xc 2 (by decide)).trans rfl
            have x3 : wr.cell? ⟨gs, os + k * 10 + 3, none⟩ = some (.int .u64 x.tr.sn) := by rw [Nat.add_assoc]; exact (xc 3 (by decide)).trans rfl
            have x4 : wr.cell? ⟨gs, os + k * 10 + 4, none⟩ = some (.int .i64 x.tr.how) := by rw [Nat.add_assoc]; exact (xc 4 (by decide)).trans rfl
            have x5 : wr.cell? ⟨gs, os + k * 10 + 5, none⟩ = some (.int .i64 x.tr.rd) := by rw [Nat.add_assoc]; exact (xc 5 (by decide)).trans rfl
            have x6 : wr.cell? ⟨gs, os + k * 10 + 6, none⟩ = some (.int .i64 x.tr.wr) := by rw [Nat.add_assoc]; exact (xc 6 (by decide)).trans rfl
            obtain ⟨Ar, capr, hfr, hcr⟩ := (hVx.out.fam (8 + k) (by omega)).shape
            have hreads : content vv (8 + k) = x.reads := by unfold content; rw [if_neg (by omega), show 8 + k - 8 = k by omega, sg_get hkl, hx]
            rw [hreads] at hfr hcr
            have x7 : wr.cell? ⟨gs, os + k * 10 + 7, none⟩ = some (.slice Ar x.reads.length capr) := by rw [Nat.add_assoc, ← hfr]; exact (xc 7 (by decide)).trans rfl
            have x8 : wr.cell? ⟨gs, os + k * 10 + 8, none⟩ = some (.int .i64 x.fr) := by rw [Nat.add_assoc]; exact (xc 8 (by decide)).trans rfl
            have x9 : wr.cell? ⟨gs, os + k * 10 + 9, none⟩ = some (.int .i64 x.upto) := by rw [Nat.add_assoc]; exact (xc 9 (by decide)).trans rfl
            have hxm : x ∈ vv.sights := by rw [hx]; exact List.getElem_mem hkl
            have hxr := Lib.hid (hVJ.out.rd x hxm)
            have hxb := Lib.hid (hB.out.rd x hxm)
            have hxl : Hid (x.reads.length ≤ 9223372036854775806) := Lib.hid (by have := hVI.out.rd x hxm; have := hsz.out; omega)
            have hxg : vv.sights.getD k Sg.zero = x := by rw [sg_get hkl, hx]
            have hLr : LiesP wr (.slice Ar x.reads.length capr) x.reads := by
              have := liesP_sl (hVx.out.fam (8 + k) (by omega))
              rw [hreads, hfr] at this
              exact this
            obtain ⟨wA, hwA⟩ : ∃ wA, wA = wr.alloc (.cells #[.int .i64 x.tr.th, .int .i64 x.tr.first, .int .i64 x.tr.last, .int .u64 x.tr.sn, .int .i64 x.tr.how, .int .i64 x.tr.rd, .int .i64 x.tr.wr, .slice Ar x.reads.length capr, .int .i64 x.fr, .int .i64 x.upto] 70) := ⟨_, rfl⟩
            have hBA : Below wr.heap.size wr wA := by rw [hwA]; exact (Below.refl _ _).alloc (Nat.le_refl _) _
            have hX := Blk.new wr 70 #[.int .i64 x.tr.th, .int .i64 x.tr.first, .int .i64 x.tr.last, .int .u64 x.tr.sn, .int .i64 x.tr.how, .int .i64 x.tr.rd, .int .i64 x.tr.wr, .slice Ar x.reads.length capr, .int .i64 x.fr, .int .i64 x.upto]
            have z7 := (hX.cell 7).trans (show _ = some (.slice Ar x.reads.length capr) from rfl)
            have hLA := Lib.hid (hLr.below hBA)
            have hSA := Lib.hid (hS.out.keep (w' := wA) fun q hq => hBA.block q (hS.out.lt q hq))
            have hbA := Lib.hid (hby.out.trans (hBA.mono hby.out.size))
            replace hwA := Lib.hid hwA
            replace hx := Lib.hid hx
            replace hxg := Lib.hid hxg
            replace hfr := Lib.hid hfr
            replace hreads := Lib.hid hreads
            clear hX hVx xc hS hby hLr hcr hBA hxm
            go_upto_region 17 with (fail)
            clear x0 x1 x2 x3 x4 x5 x6 x7 x8 x9
            go_wp2
            rw [← hwA.out]
            clear z7
            obtain ⟨ov0, hov0⟩ : ∃ ov0, ov0 = u13 := ⟨_, rfl⟩
            subst hov0
            go_loopg [13, 67] x.reads.length (fun gj ov j wz => ∃ i : Nat, i + gj = x.reads.length ∧ j = .int .i64 (i : Int) ∧ Hid (Sl 45 2 encC wz ov (nevK vv k i)) ∧ Hid (∀ q, own ov q → wD.heap.size ≤ q) ∧ Hid (Below wD.heap.size wD wz))
            case atStart => exact ⟨0, by omega, rfl, hSA, hown, hbA⟩
            case round =>
              clear hSA hown hbA hLA
              obtain ⟨i, hig, rfl, hS, hown, hby⟩ := hrel
              cases gk with
              | zero =>
                have hiz : i = x.reads.length := by omega
                subst hiz
                have hnx := nevK_next hkl
                rw [hxg.out] at hnx
                rw [hnx] at hS
                have hxl' := hxl.out
                have w1k : IntKind.i64.wrap ((k : Int) + 1) = (k : Int) + 1 := IntWalk.i64_in _ (by have := hlen.out; omega)
                clear hnx
                go_wp2
                go_roundg g0
                case measure => omega
                case rel => exact ⟨k + 1, by omega, by go_num, hS, hown, hby⟩
              | succ g1 =>
                have hil : i < x.reads.length := by omega
                have hil' : (i : Int) < (x.reads.length : Int) := by omega
                have hLz : LiesP wr (.slice Ar x.reads.length capr) x.reads := by
                  have := liesP_sl ((hV.out.below (hbx.out.trans (hby.out.mono hbx.out.size))).fam (8 + k) (by omega))
                  rw [hreads.out, hfr.out] at this
                  exact this
                obtain ⟨A', cp', eA, hcl2⟩ := hLz
                injection eA with e1 e2 e3
                subst e1 e3
                obtain ⟨gr, orr, hAr, hgr, p0, p1⟩ := hcl2 i hil
                subst hAr
                have hpm : x.reads[i] ∈ x.reads := List.getElem_mem hil
                have hpb := hxb.out _ hpm
                have hpl := (hxr.out _ hpm).2
                have hstep := Lib.hid (nevK_step (v := vv) (k := k) (j := i) (c := x.reads[i]) (by rw [hxg.out]; exact List.getElem?_eq_getElem hil))
                have hnl : Hid (((nevK vv k i).length + 1) * 16 ≤ 140737488355328) := Lib.hid (by have := nevK_len vv i hkl; have := hrd.out; have := hsz.out; omega)
                generalize x.reads[i] = c at *
                obtain ⟨ca, cw⟩ := c
                dsimp only at p0 p1 hpl
                have w1i : IntKind.i64.wrap ((i : Int) + 1) = (i : Int) + 1 := IntWalk.i64_in _ (by have := hxl.out; omega)
                obtain ⟨wB, hwB⟩ : ∃ wB, wB = wr.alloc (.cells #[.int .u64 ca, .int .u64 cw] 45) := ⟨_, rfl⟩
                have hBB : Below wr.heap.size wr wB := by rw [hwB]; exact (Below.refl _ _).alloc (Nat.le_refl _) _
                have hX := Blk.new wr 45 #[.int .u64 ca, .int .u64 cw]
                rw [← hwB] at hX
                have z0 := (hX.cell 0).trans (show _ = some (.int .u64 ca) from rfl)
                have z1 := (hX.cell 1).trans (show _ = some (.int .u64 cw) from rfl)
                have hSB := Lib.hid (hS.out.keep (w' := wB) fun q hq => hBB.block q (hS.out.lt q hq))
                have hbB := Lib.hid (hby.out.trans (hBB.mono hby.out.size))
                have hlk := hcnt.out wB hbB.out (ca, cw) hpb hpl
                have hse := hseen.out (ca, cw) hpb hpl
                dsimp only at hlk
                generalize cntV first.length vv.cells vis first.length 0 (ca, cw) = cn at hlk hse
                generalize seenB vv.cells (ca, cw) = sb at *
                obtain ⟨L, hL⟩ : ∃ L, L = nevK vv k i := ⟨_, rfl⟩
                rw [← hL] at hSB hnl hstep
                replace hL := Lib.hid hL
                replace hwB := Lib.hid hwB
                replace hpb := Lib.hid hpb
                replace hpl := Lib.hid hpl
                obtain ⟨ov1, hov1⟩ : ∃ ov1, ov1 = u13 := ⟨_, rfl⟩
                subst hov1
                clear hS hby hcl2 hgr hX hBB hpm
                go_upto_region 20 with (fail)
                rw [← hwB.out]
                clear p0 p1
                by_cases hcn : cn = 0
                · subst hcn
                  obtain rfl : sb = false := hse.1 rfl
                  clear hse
                  rw [if_neg (by decide)] at hstep
                  have HAPP := Lib.hid (fun (A4 : Option Addr) (cap4 : Nat) (w4 : World) (hS4 : Sl 45 2 encC w4 (.slice A4 (L.length + 1) cap4) (L ++ [(ca, cw)])) (hF4 : Fr (own ov1) wB (own (.slice A4 (L.length + 1) cap4)) w4) => show ∃ i' : Nat, i' + g1 = x.reads.length ∧ Value.int IntKind.i64 ((i : Int) + 1) = .int .i64 i' ∧ Hid (Sl 45 2 encC w4 (.slice A4 (L.length + 1) cap4) (nevK vv k i')) ∧ Hid (∀ q, own (.slice A4 (L.length + 1) cap4) q → wD.heap.size ≤ q) ∧ Hid (Below wD.heap.size wD w4) from
                    ⟨i + 1, by omega, by go_num, Lib.hid (by rw [hstep.out]; exact hS4), Lib.hid (fun q hq => (hF4.new q hq).elim (hown.out q) fun h => Nat.le_trans hbB.out.size h), Lib.hid (hbB.out.trans (hF4.below hown.out hbB.out.size))⟩)
                  go_wp2_with (at_builtin; refine wpList_cellO wB rfl (.tmp 75) (.tmp 77) rfl ov1 L (ca, cw) rfl hSB.out rfl (by have := hnl.out; omega) hnl.out ?_; intro A4 cap4 w4 hc4 hS4 hF4; have HREL := Lib.hid (HAPP.out A4 cap4 w4 hS4 hF4); clear hS4 hF4)
                  go_roundg g1
                  case measure => omega
                  case rel => exact HREL.out
                · have hcb : ((cn : Int) == 0) = false := by rw [beq_eq_false_iff_ne]; omega
                  obtain rfl : sb = true := by cases sb with
                    | true => rfl
                    | false => exact absurd (hse.2 rfl) hcn
                  clear hse
                  rw [if_pos rfl] at hstep
                  replace hcn := Lib.hid hcn
                  go_wp2
                  go_roundg g1
                  case measure => omega
                  case rel => exact ⟨i + 1, by omega, by go_num, Lib.hid (by rw [hstep.out]; exact hSB.out), hown, hbB⟩
      · obtain ⟨hxm, hxs⟩ := left_mem hx
        have hlt := Lib.hid (left_lt hx)
        have hsv2 := Lib.hid (seen_push hst'.out hsv.out (fun y hy => by obtain ⟨k, -, e, -⟩ := hkk.out y hy; exact ⟨k, by omega, e⟩) hxm)
        obtain ⟨a, ha, hxk, hxv⟩ := hkk.out x hxm
        have hva : vis a = false := by rw [← hxs, hsv.out x hxm, hxk]; simp [keyN]
        rw [hxk] at hsv2 hen
        rw [show keyN (.int .u64 (a : Int)) = a by simp [keyN]] at hsv2
        rw [hxv] at hen
        rw [hxk, hxv]
        obtain ⟨Aa, ca, hca, hcap⟩ := (hV.out.cells a ha).shape
        rw [hca] at hen ⊢
        have hb' := Lib.hid (below_grown hbx.out hg' (by omega) (row_lt hit.out))
        have hM' : Hid (Mq w' (w2.heap.size + 1) n (fC (cntV first.length vv.cells vis a 0))) := Lib.hid (by rw [← cntV_in hva]; exact hM.out.keep (hg'.block _ hM.out.lt (by intro e; injection e with e; omega)))
        have hO' := Lib.hid (hO.out.grown hg' (show some w2.heap.size ≠ some (w2.heap.size + 1 + 1) from fun e => by injection e with e; omega))
        have hll : Hid (((vv.cells a).length : Int) ≤ 9223372036854775806) := Lib.hid (by have := hcl.out a ha; have := hsz.out; omega)
        replace hit' := Lib.hid hit'
        replace hg' := Lib.hid hg'
        replace hz' := Lib.hid hz'
        replace hx := Lib.hid hx
        replace hxs := Lib.hid hxs
        replace hxk := Lib.hid hxk
        replace hxv := Lib.hid hxv
        replace hva := Lib.hid hva
        replace hca := Lib.hid hca
        replace hcap := Lib.hid hcap
        have hc0' := Lib.hid hc0
        clear hit hM hO hbx hmp v3 hsv hc0 hxm
        go_wp2
        rw [hln90]
        simp only [Result.andThen]
        rw [Oper.upon_value]
        go_wp2
        clear hen
        go_loopg [40] (vv.cells a).length (fun gk c40 wy => ∃ (k m : Nat), k + gk = (vv.cells a).length ∧ c40 = .int .i64 (k : Int) ∧ Hid (Mq wy (w2.heap.size + 1) m (fC (cntV first.length vv.cells vis a k))) ∧ Hid (wy.heap[w2.heap.size + 1 + 1]? = some (.mapIter (some mb) clock (seen.push x.born) clock)) ∧ Hid (Blk wy w2.heap.size 28 #[.int .i64 (-1), .int .i64 0]) ∧ Hid (Below w2.heap.size w2 wy))
        case atStart => exact ⟨0, n, by omega, rfl, hM', hit', hO', hb'⟩
        case round =>
          obtain ⟨k, m, hkg, rfl, hM, hit, hO, hby⟩ := hrel
          clear hM' hit' hO' hb' hg' hz'
          cases gk with
          | zero =>
            have hkz : k = (vv.cells a).length := by omega
            subst hkz
            rw [cntV_out] at hM
            have hll' := hll.out
            go_wp2
            go_roundg (leftOf es (seen.push x.born)).size
            case measure => exact hlt.out
            case rel => exact ⟨seen.push x.born, clock, upd vis a true, m, rfl, Nat.le_refl _, hsv2, hit, hM, hO, hby⟩
          | succ g0 =>
            have hkl : k < (vv.cells a).length := by omega
            have hkl' : (k : Int) < ((vv.cells a).length : Int) := by omega
            have hcx := (hV.out.below hby.out).cells a ha
            rw [hca.out] at hcx
            obtain ⟨gq, oq, rfl, hgq, hcc⟩ := hcx.cell encF_len (by decide) hkl
            have q0 := (hcc k hkl 0 (by decide)).1
            have q1 := (hcc k hkl 1 (by decide)).1
            have hqg : (vv.cells a)[k]? = some (vv.cells a)[k] := List.getElem?_eq_getElem hkl
            have hqb := hB.out.ce a _ (List.getElem_mem hkl)
            have hle := cntV_le (vis := vis) (k := k) hcl.out ha
            have hadd := Lib.hid (cntV_add (vis := vis) ha hqg)
            generalize (vv.cells a)[k] = q at *
            obtain ⟨qn, qw⟩ := q
            dsimp only at hqb
            have hle2 := hle ((a : Int), qw)
            simp only [encF, List.getElem?_cons_zero, List.getElem?_cons_succ, Nat.add_zero, ← Nat.add_assoc] at q0 q1
            have w1k : IntKind.i64.wrap ((k : Int) + 1) = (k : Int) + 1 := IntWalk.i64_in _ (by have := hll.out; omega)
            obtain ⟨c, hc⟩ : ∃ c, cntV first.length vv.cells vis a k ((a : Int), qw) = c := ⟨_, rfl⟩
            rw [hc] at hle2
            have hwc : IntKind.i64.wrap ((c : Int) + 1) = (c : Int) + 1 := IntWalk.i64_in _ (by have := hsz.out; omega)
            have hin : inB ((a : Int), qw) := ⟨⟨by dsimp only; omega, by have := hfl'.out; dsimp only; omega⟩, hqb⟩
            obtain ⟨wA, hwA⟩ : ∃ wA, wA = wr.alloc (.cells #[.int .i64 qn, .int .u64 qw] 92) := ⟨_, rfl⟩
            have hMA : Mq wA (w2.heap.size + 1) m (fC (cntV first.length vv.cells vis a k)) := by rw [hwA]; exact hM.out.alloc _
            have hFA : Blk wA wr.heap.size 92 #[.int .i64 qn, .int .u64 qw] := by rw [hwA]; exact Blk.new _ _ _
            have hby2 := hby.out.size
            have hitA := Lib.hid ((show wA.heap[w2.heap.size + 1 + 1]? = _ from by rw [hwA]; exact Below.heap_alloc _ _ _ (row_lt hit.out)).trans hit.out)
            have hOA : Hid (Blk wA w2.heap.size 28 #[.int .i64 (-1), .int .i64 0]) := Lib.hid (by rw [hwA]; exact hO.out.alloc _)
            have hbA : Hid (Below w2.heap.size w2 wA) := Lib.hid (by rw [hwA]; exact hby.out.alloc hby.out.size _)
            have hf1 := (hFA.cell 1).trans (show _ = some (.int .u64 qw) from rfl)
            have S0 : Hid (∀ W, Mq W (w2.heap.size + 1) m (fC (cntV first.length vv.cells vis a k)) → LkS (w2.heap.size + 1) ((a : Int), qw) c W) := Lib.hid fun W hW => ⟨_, _, hW, by rw [fC_get, hc]⟩
            replace hMA := Lib.hid hMA
            replace hwA := Lib.hid hwA
            replace hin := Lib.hid hin
            replace hc := Lib.hid hc
            clear hcx hcc hle hM hit hO hby hFA hqb
            go_upto_region 11 with (fail)
            rw [← hwA.out]
            refine wp_region_mixH (LkS (w2.heap.size + 1) ((a : Int), qw) c) [3, 3, 3, 1, 2, 0, 3, 2, 3, 2] (List.range 10) (by kernel_rfl) (by kernel_rfl) (fun _ _ h => h) (S0.out _ (hMA.out.drewN 1)) ?_
            (repeat (first | ((first | refine wpMixH_pure rfl rfl (fun K hK => ?_) | refine wpMixH_loc rfl rfl (fun K hK => ?_) | refine wpMixH_any rfl rfl (fun K hK => ?_)); go_simp; refine hK _ _ ?_; clear hK K) | (refine wpMixH_any rfl rfl (fun K hK => ?_); rw [if_pos (by go_simp)]; apply Exists.intro; refine And.intro (fun w2 hS2 => ?_) (hK _ _ ?_); (focus (have hs1 := hS2.run hin.out; go_simp; rfl)); clear hK K)))
            refine wpMixH_loud rfl rfl (fun n1 K hK => ?_)
            go_wp2
            refine hK _ _ (fun _ => (S0.out _ hMA.out)) ?_; clear hK K
            (repeat (first | ((first | refine wpMixH_pure rfl rfl (fun K hK => ?_) | refine wpMixH_loc rfl rfl (fun K hK => ?_) | refine wpMixH_any rfl rfl (fun K hK => ?_)); go_simp; refine hK _ _ ?_; clear hK K) | (refine wpMixH_any rfl rfl (fun K hK => ?_); rw [if_pos (by go_simp)]; apply Exists.intro; refine And.intro (fun w2 hS2 => ?_) (hK _ _ ?_); (focus (have hs1 := hS2.run hin.out; go_simp; rfl)); clear hK K)))
            refine wpMixH_loud rfl rfl (fun n2 K hK => ?_)
            obtain ⟨st, w5, r1, r2, r3, r4, r5⟩ := Mq.entry (w := (wA.drewN (1 + n1)).drewN n2) hMA.out Try.underlying89 cellKey_law (fun p hp => cellKey_of hp) (z := .int .i64 0) (Try.zeroValue3 _) hin.out
            rw [fC_get, hc.out] at r1
            have hit5 := Lib.hid ((r3.block _ (row_lt hitA.out) (by intro e; injection e with e; omega)).trans hitA.out)
            have hO5 := Lib.hid (((hOA.out.drewN (1 + n1)).drewN n2).grown r3 (show some w2.heap.size ≠ some (w2.heap.size + 1) from fun e => by injection e with e; omega))
            have hb5 := Lib.hid (below_grown (show Below w2.heap.size w2 ((wA.drewN (1 + n1)).drewN n2) from below_drewNs (below_drewNs hbA.out _) _) r3 (by omega) hMA.out.lt)
            have hS5 : LkS (w2.heap.size + 1) ((a : Int), qw) c w5 := ⟨_, _, r2, by unfold updO; rw [if_pos rfl, Option.getD_some, fC_get, hc.out]⟩
            replace r2 := Lib.hid r2
            replace r3 := Lib.hid r3
            replace r4 := Lib.hid r4
            replace r5 := Lib.hid r5
            replace hS5 := Lib.hid hS5
            clear hMA hitA hOA hbA hf1
            refine wpList_entry_mq _ rfl (.tmp 44) (.tmp 48) _ rfl (key := kv ((a : Int), qw)) rfl rfl r1 ?_
            clear r1
            go_wp2
            refine hK _ _ (fun _ => hS5.out) ?_; clear hK K
            (repeat (first | ((first | refine wpMixH_pure rfl rfl (fun K hK => ?_) | refine wpMixH_loc rfl rfl (fun K hK => ?_) | refine wpMixH_any rfl rfl (fun K hK => ?_)); go_simp; refine hK _ _ ?_; clear hK K) | (refine wpMixH_any rfl rfl (fun K hK => ?_); rw [if_pos (by go_simp)]; apply Exists.intro; refine And.intro (fun w2 hS2 => ?_) (hK _ _ ?_); (focus (have hs1 := hS2.run hin.out; go_simp; rfl)); clear hK K)))
            refine wpMixH_loud rfl rfl (fun n3 K hK => ?_)
            obtain ⟨w6, s1, s2, s3, s4⟩ := r5.out (w5.drewN n3) (.int .i64 ((c : Int) + 1)) rfl
            have hM6 : Hid (Mq w6 (w2.heap.size + 1) (m + 1) (fC (cntV first.length vv.cells vis a (k + 1)))) := Lib.hid (by
              have e : ((c : Int) + 1) = ((cntV first.length vv.cells vis a k ((a : Int), qw) + 1 : Nat) : Int) := by rw [hc.out]; omega
              rw [e, fC_add, hadd.out] at s2
              exact s2)
            have h5lt := row_lt hit5.out
            have hit6 := Lib.hid ((s3.block _ (row_lt hit5.out) (by intro e; injection e with e; omega)).trans hit5.out)
            have hO6 := Lib.hid ((hO5.out.drewN n3).grown s3 (show some w2.heap.size ≠ some (w2.heap.size + 1) from fun e => by injection e with e; omega))
            have hb6 := Lib.hid (below_grown (show Below w2.heap.size w2 (w5.drewN n3) from below_drewNs hb5.out _) s3 (by omega) (show w2.heap.size + 1 < w5.heap.size by omega))
            clear r2 r3 r4 r5 s2 s3 s4 hit5 hO5 hb5 hS5
            refine wpList_entryStore_mq _ rfl (.tmp 44) (.tmp 52) (.tmp 50) _ rfl (val := .int .i64 ((c : Int) + 1)) rfl rfl rfl s1 ?_
            clear s1
            go_wp2
            refine hK _ _ (fun h => (Bool.false_ne_true ((Eq.symm (by kernel_rfl)).trans h)).elim) ?_; clear hK K
            refine wpMixH_nil (fun n4 => ?_)
            go_wp2
            go_roundg g0
            case measure => omega
            case rel => exact ⟨k + 1, m + 1, by omega, by go_num, Lib.hid (hM6.out.drewN _), hit6, Lib.hid (hO6.out.drewN _), Lib.hid (below_drewNs hb6.out _)⟩
end Go.Proofs.Ytloiadhdkgkjkaa
/- opaque: Together, Never by contract, over any cells and history in memory. -/
namespace Go.Proofs.Ytloiadhdkgkjkaa
open Go.RowKit
set_option maxHeartbeats 4000000
set_option linter.unusedVariables false
set_option linter.unusedSimpArgs false
theorem together_c : TogetherC := fun w Fv Hv first l Aw cw words h0 hW hwl hwb => by
  obtain ⟨hF, hL, hwf, hsz, hfl, hfb⟩ := h0
  obtain ⟨Af, cf, rfl, _⟩ := (show ∃ A cp, Fv = .slice A first.length cp ∧ True from by obtain ⟨A, cp, h1, _⟩ := hF; exact ⟨A, cp, h1, trivial⟩)
  obtain ⟨A, cp, rfl, _⟩ := hL.shape
  refine (together_b (fun W hb => see_b (hF.below hb) (hL.below hb (Nat.le_refl _)) hsz hfl hfb) (fun h => VJ.vn hwf (seeOdd_ok h).2.2.2 (Nat.le_refl _)) hsz (fun h => (seeOdd_ok h).1.2) hW hwl hwb).mono ?_
  rintro x w' ⟨hb, ⟨h1, rfl⟩ | ⟨h1, hok, ⟨h2, rfl⟩ | ⟨h2, ov, rfl, hS, ho⟩⟩⟩
  · refine ⟨hb, _, ?_, ?_, fun q hq => absurd hq (no_own_nil q)⟩
    · unfold togA; rw [if_pos h1]
    · unfold togA; rw [if_pos h1]; exact Sl.nil _
  · have h4 : ¬ (seeOdd first.length l).2 ≠ 0 := by rw [h1]; simp
    refine ⟨hb, _, ?_, ?_, fun q hq => absurd hq (no_own_nil q)⟩
    · unfold togA; rw [if_neg h4, if_pos h2]
    · unfold togA; rw [if_neg h4, if_pos h2]; exact Sl.nil _
  · have h4 : ¬ (seeOdd first.length l).2 ≠ 0 := by rw [h1]; simp
    refine ⟨hb, ov, ?_, ?_, ho⟩
    · unfold togA; rw [if_neg h4, if_neg (by rw [h2]; decide)]
    · unfold togA vAll; rw [if_neg h4, if_neg (by rw [h2]; decide)]; exact hS
theorem never_c : NeverC := fun w Fv Hv first l h0 => by
  obtain ⟨hF, hL, hwf, hsz, hfl, hfb⟩ := h0
  obtain ⟨Af, cf, rfl, _⟩ := (show ∃ A cp, Fv = .slice A first.length cp ∧ True from by obtain ⟨A, cp, h1, _⟩ := hF; exact ⟨A, cp, h1, trivial⟩)
  obtain ⟨A, cp, rfl, _⟩ := hL.shape
  refine (never_b (fun W hb => see_b (hF.below hb) (hL.below hb (Nat.le_refl _)) hsz hfl hfb) (fun h => VJ.vn hwf (seeOdd_ok h).2.2.2 (Nat.le_refl _)) (VB.vn hfb hwf (Nat.le_refl _)) hsz (fun h => (seeOdd_ok h).1.2)).mono ?_
  rintro x w' ⟨hb, ⟨h1, rfl⟩ | ⟨h1, hok, ov, rfl, hS, ho⟩⟩
  · refine ⟨hb, _, rfl, ?_, fun q hq => absurd hq (no_own_nil q)⟩
    unfold nevA; rw [if_pos h1]; exact Sl.nil _
  · have h4 : ¬ (seeOdd first.length l).2 ≠ 0 := by rw [h1]; simp
    refine ⟨hb, ov, by rw [h1], ?_, ho⟩
    unfold nevA vAll; rw [if_neg h4]; exact hS
end Go.Proofs.Ytloiadhdkgkjkaa
/- The law OpaqueCells: its statement out of its walk. Whatever the input, it answers true, and the input reads as before. -/
namespace Go.Proofs.Ytloiadhdkgkjkaa
open Go.RowKit
theorem opaqueCells_walk {W : World} {A0 A1 A3 : Option Addr} {l0 : List Int} {l1 : List Ev} {l3 : List (Int × Int)} {c0 c1 c3 : Nat} (w0 : WordsIn W A0 l0 c0) (w1 : LiesV W (.slice A1 l1.length c1) l1) (wf : ∀ e ∈ l1, EvWf e) (sz : l1.length * 48 ≤ 140737488351232) (n : Int)
    (w3 : LiesP W (.slice A3 l3.length c3) l3) (b3 : ∀ e ∈ l3, inB e) (sz3 : l3.length * 16 ≤ 140737488351232) (n3 : A3 = none → c3 = 0) :
    Calls Try.prog 5 #[.slice A0 l0.length c0, .slice A1 l1.length c1, .int .i64 n, .slice A3 l3.length c3] W fun x w' => x = .returned (.bool true) ∧ Below W.heap.size W w' :=
  cells_law check_c behind_c together_c never_c n w0.lies w1 wf (by omega) (by have := w0.len; omega) w0.bd w3 n3 b3 (by omega)
end Go.Proofs.Ytloiadhdkgkjkaa
namespace Go.Proofs.Ytloiadhdkgkjkaa.opaqueCells
open Go.ChangeShapes Go.WideShapes Go.ChangeAt Go.RowKit Go.Deep
set_option linter.unusedVariables false
theorem own : ownKnob Try.prog.godebug = none := by kernel_rfl
theorem laidOut : laidOutB Try.prog = true := by kernel_rfl
set_option maxRecDepth 100000 in
theorem lifted (os : Os) (started : os.Started) (H : Type) (enc : TypeId × Value → H) :
    ReturnsInHanded {} Try.checked os 5 .any (Rows.opaqueCellsSpec.pre6 enc Try.prog Try.f5 Rows.opaqueCellsRow.domain false) (Rows.opaqueCellsSpec.post enc Try.prog Try.f5 false true false false) := by
  refine returnsInHanded_of_change_sized (C := Try.checked) own started (by kernel_rfl) Try.func5
    (ChangeSpec.witness6 (enc := enc) (C := Try.checked) false ⟨#[], #[.slice none 0 0, .slice none 0 0, .int .i64 0, .slice none 0 0], []⟩ 8 (by kernel_rfl) (by kernel_rfl) (by kernel_rfl) (by kernel_rfl)) ?_
  intro W base args ds gs before hval0 hW hcnd hsz0 _
  have hval : ∀ (j : Nat) t v, Try.f5.params[j]? = some t → args[j]? = some v → Value.okWide Try.prog W .any base t v := hval0
  have hsz : (DataW.weightsEach Try.prog (Try.f5.params.toList ++ Rows.opaqueCellsSpec.plain.varTypes Try.prog) (ds ++ gs)).all (· ≤ reachBytes) = true := hsz0
  have hW' := hW
  obtain ⟨p, q, hA0, hV, rfl, hfz, hnd⟩ := hW
  have hA : DataW.TrodAll enc Try.prog W 0 (fun _ => true) true Try.f5.params.toList args.toList ds p := hA0
  rw [Try.params5] at hA hval hsz
  obtain ⟨v0, vs0, d0, ds0, p0, q0, hargs, rfl, rfl, h0, r0⟩ := trodAll_cons hA
  obtain ⟨v1, vs1, d1, ds1, p1, q1, rfl, rfl, rfl, h1, r1⟩ := trodAll_cons r0
  obtain ⟨v2, vs2, d2, ds2, p2, q2, rfl, rfl, rfl, h2, r2⟩ := trodAll_cons r1
  obtain ⟨v3, vs3, d3, ds3, p3, q3, rfl, rfl, rfl, h3, r3⟩ := trodAll_cons r2
  obtain ⟨rfl, rfl, rfl⟩ := trodAll_nil r3
  obtain rfl : args = #[v0, v1, v2, v3] := by cases args; simp_all
  obtain ⟨rfl, rfl⟩ := trodVars_none hV
  obtain ⟨a0, len0, cap0, rfl⟩ := okWide_slice Try.underlying22 (hval 0 22 v0 rfl rfl)
  have k0 := h0
  have lt0 : ∀ x ∈ p0, x.block < W.heap.size := by obtain ⟨m, hm⟩ := k0; exact DataW.trod_lt m _ _ _ hm
  obtain ⟨l0, rfl, w0⟩ := open_words hsz (j := 0) rfl rfl Try.underlying22 Try.underlying35 (by kernel_rfl) (by kernel_rfl) h0
  obtain ⟨a1, len1, cap1, rfl⟩ := okWide_slice Try.underlying23 (hval 1 23 v1 rfl rfl)
  have k1 := h1
  have lt1 : ∀ x ∈ p1, x.block < W.heap.size := by obtain ⟨m, hm⟩ := k1; exact DataW.trod_lt m _ _ _ hm
  obtain ⟨l1, rfl, w1, wf1, sz1⟩ := open_events hsz (j := 1) rfl rfl h1
  obtain ⟨a2, rfl, rfl, rfl, w2⟩ := open_int Try.underlying3 (hval 2 3 v2 rfl rfl) h2
  obtain ⟨a3, len3, cap3, rfl⟩ := okWide_slice Try.underlying43 (hval 3 43 v3 rfl rfl)
  have k3 := h3
  have lt3 : ∀ x ∈ p3, x.block < W.heap.size := by obtain ⟨m, hm⟩ := k3; exact DataW.trod_lt m _ _ _ hm
  obtain ⟨l3, rfl, w3, wb3, sz3, wn3⟩ := open_cells hsz (j := 3) rfl rfl h3
  clear hA0 hval0 hsz0
  refine (opaqueCells_walk w0 w1 wf1 sz1 a2 w3 wb3 sz3 wn3).mono fun e W' ⟨he, bel⟩ => ?_
  subst he
  exact ⟨_, rfl, _, _, _, [], _, [], hW', trodAll_mk1 (shut_bool Try.underlying4 _), (trodAll_cons_mk (Below.trod laidOut (by kernel_rfl) (of_decide_eq_true (by kernel_rfl)) k0 bel lt0) (trodAll_cons_mk (Below.trod laidOut (by kernel_rfl) (of_decide_eq_true (by kernel_rfl)) k1 bel lt1) (trodAll_cons_mk (shut_int Try.underlying3 w2) (trodAll_cons_mk (Below.trod laidOut (by kernel_rfl) (of_decide_eq_true (by kernel_rfl)) k3 bel lt3) trodAll_mk0)))), rfl, bel.frame _, fun h => by cases h⟩

theorem proved : Rows.OpaqueCellsSaid :=
  OpenClaim.holds_of_wide 5 Try.f5 rfl rfl rfl rfl rfl rfl rfl ⟨rfl, rfl, rfl, rfl, rfl⟩ rfl rfl rfl rfl rfl (by kernel_rfl) Try.func5 (by kernel_rfl)
    (of_decide_eq_true (by kernel_rfl)) (by unfold Func.isWrapper; first | (rw [if_pos (by decide +kernel)]; kernel_rfl) | (rw [if_neg (by decide +kernel)]; exact ⟨rfl, rfl⟩))
    (fun os started H enc _ => lifted os started H enc)
end Go.Proofs.Ytloiadhdkgkjkaa.opaqueCells
