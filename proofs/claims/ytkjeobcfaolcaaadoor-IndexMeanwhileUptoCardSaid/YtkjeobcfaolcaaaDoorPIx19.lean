/- IndexMeanwhile: the law's walk (lists of at most 1048576 words). -/
import Derived.Test.YtkjeobcfaolcaaaDoorPIx18
namespace Go.Proofs.YtkjeobcfaolcaaaDoor
open Go.RowKit Go.Shelf
set_option maxHeartbeats 8000000
set_option linter.unusedVariables false
set_option linter.unusedSimpArgs false
attribute [local go_sem] Oper.semAt_some encW

theorem MW.zero {w W : World} {t r : Nat} {F G : Nat → Prop} {Bs : List (Nat × TypeId × Array Value)} (hT : Tab w) (fr : Fr (fun _ => False) w (fun _ => False) W) (ht : TbW W t F (Tbl.new 0)) (hr : TbR W r G (Tbl.new 0)) (hd : ∀ x, F x → ¬ G x)
    (hF : ∀ b, F b → w.heap.size ≤ b ∧ ∀ x ∈ Bs, b ≠ x.1) (hG : ∀ b, G b → w.heap.size ≤ b ∧ ∀ x ∈ Bs, b ≠ x.1) (bx : ∀ x ∈ Bs, Blk W x.1 x.2.1 x.2.2) (bge : ∀ x ∈ Bs, w.heap.size ≤ x.1) : MW w W (fun j => F j ∨ G j) t r 0 (Tbl.new 0) Bs :=
  have h1 := hT.lt
  ⟨⟨⟨F, G, rfl, ht, hr, hd⟩, fun h => h.elim (fun h => by have := (hF 1 h).1; omega) fun h => by have := (hG 1 h).1; omega, hT.fr fr fun h => h, by simp [Tbl.new], by simp [Tbl.new], by simp [Tbl.new], by simp [Tbl.new]⟩, Tbl.clean_new (0 : Int), bx, fun b hb => hb.elim (hF b) (hG b), fr, bge, h1⟩
theorem MB.cast {w W : World} {X : Nat → Prop} {t r a s bn : Nat} {T T0 : Tbl Int} {Bs : List (Nat × TypeId × Array Value)} {G : Nat → Prop} {k k' : Int} (h : MB w W X t r a T Bs s G T0 bn k) (e : k = k') : MB w W X t r a T Bs s G T0 bn k' := by rw [← e]; exact h
theorem KpR.of_same {R : World → Nat → Prop} {A B : World} (h1 : A.heap.size ≤ B.heap.size) (h2 : ∀ k o, A.heap[k]? = some o → o.isCells = true → ¬ R A k → B.heap[k]? = A.heap[k]?) (h3 : ∀ k, R B k → R A k ∨ A.heap.size ≤ k) : KpR R A B := ⟨h1, h2, h3⟩
set_option maxRecDepth 100000 in
theorem meanwhile_b {w : World} {A B C : Option Addr} {l m d : List Int} {c1 c2 c3 : Nat} (hL : Lies w (.slice A l.length c1) l) (hM : Lies w (.slice B m.length c2) m) (hD : Lies w (.slice C d.length c3) d)
    (hl : l.length ≤ 1048576) (hmm : m.length ≤ 1048576) (hdd : d.length ≤ 1048576) (hT : Tab w) :
    Calls Tryd.prog 7 #[.slice A l.length c1, .slice B m.length c2, .slice C d.length c3] w fun e w' => e = .returned (.bool true) ∧ Below w.heap.size w w' := by
  have sn := seqW_nil
  replace hT := Lib.hid hT
  replace hL := Lib.hid hL
  replace hM := Lib.hid hM
  replace hD := Lib.hid hD
  obtain ⟨wc, hwc⟩ : ∃ u, Hid (u = ((w.alloc (.cells #[.slice B m.length c2] 31)).alloc (.cells #[.slice C d.length c3] 31)).alloc (.cells #[.bool false] 4)) := ⟨_, Lib.hid rfl⟩
  have fc : Hid (Fr (fun _ => False) w (fun _ => False) wc) := Lib.hid (by rw [hwc.out]; exact (((Fr.refl _ w).alloc _).alloc _).alloc _)
  have sc : Hid (wc.heap.size = w.heap.size + 3) := Lib.hid (by rw [hwc.out]; simp)
  have bc : Hid (Blk wc w.heap.size 31 #[.slice B m.length c2] ∧ Blk wc (w.heap.size + 1) 31 #[.slice C d.length c3] ∧ Blk wc (w.heap.size + 1 + 1) 4 #[.bool false]) := Lib.hid (by
    rw [hwc.out]
    have b2 := Blk.new (w.alloc (.cells #[.slice B m.length c2] 31)) 31 #[.slice C d.length c3]
    have b3 := Blk.new ((w.alloc (.cells #[.slice B m.length c2] 31)).alloc (.cells #[.slice C d.length c3] 31)) 4 #[.bool false]
    simp only [World.size_alloc] at b2 b3
    exact ⟨((Blk.new _ _ _).alloc _).alloc _, b2.alloc _, b3⟩)
  refine calls_marks Tryd.func7 rfl ?_
  simp only [Tryd.ntmps7, List.size_toArray, List.length_cons, List.length_nil, Nat.reduceAdd, Nat.reduceSub, Array.replicate_succ, Array.replicate_zero, List.push_toArray, List.append_toArray, List.nil_append, List.cons_append]
  go_wp2_with fail
  rw [← hwc.out]
  refine (newW_tb wc).mono ?_
  rintro _ w2 ⟨t, F, rfl, ht, hf⟩
  replace ht := Lib.hid ht
  replace hf := Lib.hid hf
  obtain ⟨w3, hw3⟩ : ∃ u, Hid (u = w2.alloc (.cells #[.pointer (some ⟨t, 0, none⟩)] 49)) := ⟨_, Lib.hid rfl⟩
  go_wp2_with fail
  rw [← hw3.out]
  refine (newR_tb w3).mono ?_
  rintro _ w4 ⟨r, G, rfl, hu, hg⟩
  replace hu := Lib.hid hu
  replace hg := Lib.hid hg
  obtain ⟨w5, hw5⟩ : ∃ u, Hid (u = w4.alloc (.cells #[.pointer (some ⟨r, 0, none⟩)] 52)) := ⟨_, Lib.hid rfl⟩
  go_upto_region 3 with (fail)
  rw [← hw5.out]
  obtain ⟨Bs, hBs⟩ : ∃ Bs : List (Nat × TypeId × Array Value), Hid (Bs = [(w.heap.size, 31, #[.slice B m.length c2]), (w.heap.size + 1, 31, #[.slice C d.length c3]), (w.heap.size + 1 + 1, 4, #[.bool false]), (w2.heap.size, 49, #[.pointer (some ⟨t, 0, none⟩)]), (w4.heap.size, 52, #[.pointer (some ⟨r, 0, none⟩)])]) := ⟨_, Lib.hid rfl⟩
  have P0 : Hid (MW w w5 (fun j => F j ∨ G j) t r 0 (Tbl.new 0) Bs) := Lib.hid (by
    have e3 : w3.heap.size = w2.heap.size + 1 := by rw [hw3.out]; simp
    have f3 : Fr (fun _ => False) w2 (fun _ => False) w3 := by rw [hw3.out]; exact (Fr.refl _ w2).alloc _
    have f5 : Fr (fun _ => False) w4 (fun _ => False) w5 := by rw [hw5.out]; exact (Fr.refl _ w4).alloc _
    have g2 : Fr (fun _ => False) wc (fun _ => False) w2 := hf.out.into fun _ h => h.elim
    have g4 : Fr (fun _ => False) w3 (fun _ => False) w4 := hg.out.into fun _ h => h.elim
    have s2 := g2.size
    have s4 := g4.size
    have esc := sc.out
    have a0 : ∀ b, F b → wc.heap.size ≤ b ∧ b < w2.heap.size := fun b hb => ⟨(hf.out.new b hb).elim (fun h => h.elim) id, ht.out.lt b hb⟩
    have a1 : ∀ b, G b → w3.heap.size ≤ b ∧ b < w4.heap.size := fun b hb => ⟨(hg.out.new b hb).elim (fun h => h.elim) id, hu.out.lt b hb⟩
    have c5 := ((g2.trans f3).trans g4).trans f5
    obtain ⟨k1, k2, k3⟩ := bc.out
    have k4 := (g4.trans f5).blk (by have := Blk.new w2 49 #[.pointer (some ⟨t, 0, none⟩)]; rw [← hw3.out] at this; exact this) fun h => h
    have k5 := Blk.new w4 52 #[.pointer (some ⟨r, 0, none⟩)]
    rw [← hw5.out] at k5
    refine MW.zero hT.out (fc.out.trans c5) (ht.out.fr ((f3.trans g4).trans f5) fun _ _ h => h) (hu.out.fr f5 fun _ _ h => h) (fun x h h' => by have := a0 x h; have := a1 x h'; omega) (fun b hb => ?_) (fun b hb => ?_) (fun x hx => ?_) fun x hx => ?_
    · have := a0 b hb
      refine ⟨by omega, fun x hx => ?_⟩
      rw [hBs.out] at hx
      simp only [List.mem_cons, List.not_mem_nil, or_false] at hx
      rcases hx with rfl | rfl | rfl | rfl | rfl <;> simp only <;> omega
    · have := a1 b hb
      refine ⟨by omega, fun x hx => ?_⟩
      rw [hBs.out] at hx
      simp only [List.mem_cons, List.not_mem_nil, or_false] at hx
      rcases hx with rfl | rfl | rfl | rfl | rfl <;> simp only <;> omega
    · rw [hBs.out] at hx
      simp only [List.mem_cons, List.not_mem_nil, or_false] at hx
      rcases hx with rfl | rfl | rfl | rfl | rfl
      · exact c5.blk k1 fun h => h
      · exact c5.blk k2 fun h => h
      · exact c5.blk k3 fun h => h
      · exact k4
      · exact k5
    · rw [hBs.out] at hx
      simp only [List.mem_cons, List.not_mem_nil, or_false] at hx
      rcases hx with rfl | rfl | rfl | rfl | rfl <;> simp only <;> omega)
  have hbt : Hid (∀ W X t' r' a T, MW w W X t' r' a T Bs → W.cell? ⟨w2.heap.size, 0, none⟩ = some (.pointer (some ⟨t, 0, none⟩)) ∧ W.cell? ⟨w4.heap.size, 0, none⟩ = some (.pointer (some ⟨r, 0, none⟩))) := Lib.hid fun W X t' r' a T h => by
    have e1 := h.bx (w2.heap.size, 49, #[.pointer (some ⟨t, 0, none⟩)]) (by rw [hBs.out]; simp)
    have e2 := h.bx (w4.heap.size, 52, #[.pointer (some ⟨r, 0, none⟩)]) (by rw [hBs.out]; simp)
    exact ⟨e1.cell 0, e2.cell 0⟩
  have hbs : Hid (∀ W X t' r' a T, MW w W X t' r' a T Bs → W.cell? ⟨w.heap.size, 0, none⟩ = some (.slice B m.length c2) ∧ W.cell? ⟨w.heap.size + 1, 0, none⟩ = some (.slice C d.length c3) ∧ Blk W (w.heap.size + 1 + 1) 4 #[.bool false]) := Lib.hid fun W X t' r' a T h => by
    have e1 := h.bx (w.heap.size, 31, #[.slice B m.length c2]) (by rw [hBs.out]; simp)
    have e2 := h.bx (w.heap.size + 1, 31, #[.slice C d.length c3]) (by rw [hBs.out]; simp)
    have e3 := h.bx (w.heap.size + 1 + 1, 4, #[.bool false]) (by rw [hBs.out]; simp)
    exact ⟨e1.cell 0, e2.cell 0, e3⟩
  have hbr := Lib.hid (show ∀ x ∈ Bs, x.1 = w.heap.size ∨ x.1 = w.heap.size + 1 ∨ x.1 = w.heap.size + 1 + 1 ∨ x.1 = w2.heap.size ∨ x.1 = w4.heap.size from fun x hx => by
    rw [hBs.out] at hx
    simp only [List.mem_cons, List.not_mem_nil, or_false] at hx
    rcases hx with rfl | rfl | rfl | rfl | rfl <;> simp)
  obtain ⟨cq1, cq2⟩ := hbt.out _ _ _ _ _ _ P0.out
  clear ht hf hu hg hw3 hw5 hwc fc sc bc
  have hb6w9 : Hid (w.heap.size ≤ w.heap.size + 1 + 1) := Lib.hid (by omega)
  generalize w2.heap.size = b7 at *
  generalize w4.heap.size = b8 at *
  generalize w.heap.size + 1 + 1 = b6 at *
  generalize w.heap.size + 1 = b5 at *
  have hln : ((l.length : Nat) : Int) ≤ 1048576 := by omega
  have hmn : ((m.length : Nat) : Int) ≤ 1048576 := by omega
  have hdn : ((d.length : Nat) : Int) ≤ 1048576 := by omega
  go_wp2
  go_loopw [9] (fun iv wr => ∃ (i : Nat) (T : Tbl Int) (X : Nat → Prop), i ≤ l.length ∧ iv = .int .i64 i ∧ Hid (MW w wr X t r i T Bs)) (fun iv _ => l.length - (intOf iv).toNat)
  case atStart => exact ⟨0, _, _, by omega, rfl, P0⟩
  case round =>
    obtain ⟨i, T, X, hi, rfl, HH⟩ := hrel
    clear P0 cq1 cq2
    by_cases hil : i < l.length
    · obtain ⟨ga, off, rfl, hc⟩ := lies_cell hL.out HH.out.below hil
      obtain ⟨e7, e8⟩ := hbt.out _ _ _ _ _ _ HH.out
      have hw64 : IntKind.u64.wrap (i : Int) = (i : Int) := by rw [IntKind.wrap_u64]; omega
      have hw65 : IntKind.u64.wrap ((i : Int) + 7) = (i : Int) + 7 := by rw [IntKind.wrap_u64]; omega
      have C1 := Lib.hid (fun n => plays1_j ((HH.out.drewN n).pj) (by omega) 0 0 0 l[i] ((i : Int) + 7))
      generalize l[i] = key at *
      have hii : (i : Int) ≤ 1048576 := by omega
      go_wp2_with fail
      refine wp_region_mixH (fun W' => W'.cell? ⟨b7, 0, none⟩ = some (.pointer (some ⟨t, 0, none⟩)) ∧ W'.cell? ⟨b8, 0, none⟩ = some (.pointer (some ⟨r, 0, none⟩))) [0, 0, 3, 3, 3, 1, 3, 3, 3, 2, 2, 3] (List.range 12) (by kernel_rfl) (by kernel_rfl) (fun _ _ h => h) ⟨e7, e8⟩ ?_
      repeat (first | ((first | refine wpMixH_pure rfl rfl (fun K hK => ?_) | refine wpMixH_loc rfl rfl (fun K hK => ?_) | refine wpMixH_any rfl rfl (fun K hK => ?_)); go_simp; refine hK _ _ ?_; clear hK K) | (refine wpMixH_any rfl rfl (fun K hK => ?_); rw [if_pos (by go_simp)]; apply Exists.intro; refine And.intro (fun w2 hS2 => ?_) (hK _ _ ?_); (focus (obtain ⟨hs1, hs2⟩ := hS2; go_simp; rfl)); clear hK K))
      refine wpMixH_loud rfl rfl (fun n1 K hK => ?_)
      go_wp2_with fail
      refine hK _ _ (fun _ => ⟨e7, e8⟩) ?_; clear hK K
      repeat (first | ((first | refine wpMixH_pure rfl rfl (fun K hK => ?_) | refine wpMixH_loc rfl rfl (fun K hK => ?_) | refine wpMixH_any rfl rfl (fun K hK => ?_)); go_simp; refine hK _ _ ?_; clear hK K) | (refine wpMixH_any rfl rfl (fun K hK => ?_); rw [if_pos (by go_simp)]; apply Exists.intro; refine And.intro (fun w2 hS2 => ?_) (hK _ _ ?_); (focus (obtain ⟨hs1, hs2⟩ := hS2; go_simp; rfl)); clear hK K))
      refine wpMixH_loud rfl rfl (fun n2 K hK => ?_)
      go_wp2_with fail
      refine (C1.out (1 + n1 + n2)).mono ?_
      rintro _ w6 ⟨rfl, X6, p6, f6⟩
      have M6 := Lib.hid ((HH.out.drewN (1 + n1 + n2)).step p6 (Tbl.clean_put HH.out.cl key ((i : Int) + 7)) f6)
      clear p6 f6 C1 hc e7 e8
      generalize T.put 0 key ((i : Int) + 7) = T6 at *
      go_wp2_with fail
      refine hK _ _ (fun h => (Bool.false_ne_true ((Eq.symm (by kernel_rfl)).trans h)).elim) ?_; clear hK K
      repeat ((first | refine wpMixH_pure rfl rfl (fun K hK => ?_) | refine wpMixH_loc rfl rfl (fun K hK => ?_) | refine wpMixH_any rfl rfl (fun K hK => ?_)); go_simp; refine hK _ _ ?_; clear hK K)
      refine wpMixH_nil (fun n3 => ?_)
      go_wp2
      go_roundw
      case rel => exact ⟨i + 1, T6, X6, by omega, by simp, Lib.hid (M6.out.drewN n3)⟩
      case measure => simp [intOf]; omega
    · obtain rfl : i = l.length := by omega
      obtain ⟨e7, e8⟩ := hbt.out _ _ _ _ _ _ HH.out
      have hTk := k_lej HH.out.pj.ak (by omega)
      have hTl := HH.out.pj.la
      obtain ⟨FT, GT, hXX, htT, htR, hdd0⟩ := HH.out.pj.tb
      have C2 := Lib.hid (copyR_tb htR (by omega) hTk.2)
      clear htT htR hdd0
      go_wp2_with fail
      refine C2.out.mono ?_
      rintro _ w6 ⟨s, G, rfl, hs, hg⟩
      clear C2
      have M6 := Lib.hid (HH.out.new_ hg)
      have hsG := Lib.hid hs
      have hgG : Hid (∀ b, G b → wr.heap.size ≤ b) := Lib.hid fun b hb => (hg.new b hb).elim (fun h => h.elim) id
      have hXl := Lib.hid HH.out.pj.lt
      have hBl : Hid (∀ x ∈ Bs, x.1 < wr.heap.size) := Lib.hid fun x hx => (HH.out.bx x hx).lt
      have hwl := HH.out.fr.size
      have hsz6 := hg.size
      clear hs hg e7 e8
      obtain ⟨w7, hw7⟩ : ∃ u, Hid (u = w6.alloc (.cells #[.pointer (some ⟨s, 0, none⟩)] 52)) := ⟨_, Lib.hid rfl⟩
      have M7 : Hid (MW w w7 X t r l.length T ((w6.heap.size, 52, #[.pointer (some ⟨s, 0, none⟩)]) :: Bs)) := Lib.hid (by rw [hw7.out]; exact M6.out.box _ _)
      have S7 : Hid (TbR w7 s G T) := Lib.hid (by rw [hw7.out]; exact hsG.out.fr ((Fr.refl (fun _ => False) w6).alloc _) fun _ _ h => h)
      have z7 : w7.heap.size = w6.heap.size + 1 := by rw [hw7.out]; simp
      obtain ⟨w8, hw8⟩ : ∃ u, Hid (u = w7.alloc (.cells #[.pointer (some ⟨t, 0, none⟩)] 49)) := ⟨_, Lib.hid rfl⟩
      have M8 : Hid (MW w w8 X t r l.length T ((w7.heap.size, 49, #[.pointer (some ⟨t, 0, none⟩)]) :: (w6.heap.size, 52, #[.pointer (some ⟨s, 0, none⟩)]) :: Bs)) := Lib.hid (by rw [hw8.out]; exact M7.out.box _ _)
      have S8 : Hid (TbR w8 s G T) := Lib.hid (by rw [hw8.out]; exact S7.out.fr ((Fr.refl (fun _ => False) w7).alloc _) fun _ _ h => h)
      have z8 : w8.heap.size = w7.heap.size + 1 := by rw [hw8.out]; simp
      have cq7 := (hbt.out w7 X t r l.length T ⟨M7.out.pj, M7.out.cl, fun x hx => M7.out.bx x (by simp [hx]), fun b hb => ⟨(M7.out.dis b hb).1, fun x hx => (M7.out.dis b hb).2 x (by simp [hx])⟩, M7.out.fr, fun x hx => M7.out.bge x (by simp [hx]), M7.out.one⟩).1
      replace z7 := Lib.hid z7
      replace z8 := Lib.hid z8
      go_upto_region 11 with (fail)
      rw [← hw7.out]
      go_wp2_with fail
      refine (allW_b (w := w7)).mono ?_
      rintro _ w8' ⟨rfl, hw8'⟩
      obtain rfl : w8' = w8 := by rw [hw8', hw8.out]
      clear hw8'
      obtain ⟨w9, hw9⟩ : ∃ u, Hid (u = w8'.alloc (.cells #[.int .i64 0] 3)) := ⟨_, Lib.hid rfl⟩
      have z9 : Hid (w9.heap.size = w8'.heap.size + 1) := Lib.hid (by rw [hw9.out]; simp)
      generalize hBs9 : (w7.heap.size, 49, #[Value.pointer (some ⟨t, 0, none⟩)]) :: (w6.heap.size, 52, #[Value.pointer (some ⟨s, 0, none⟩)]) :: Bs = Bs9 at *
      have B9 : Hid (MB w w9 X t r l.length T Bs9 s G T w8'.heap.size (([] : List (Int × Int)).length : Int)) := Lib.hid (by
        have f9 : Fr (fun _ => False) w8' (fun _ => False) w9 := by rw [hw9.out]; exact (Fr.refl _ w8').alloc _
        have nb := Blk.new w8' 3 #[.int .i64 0]
        rw [← hw9.out] at nb
        refine ⟨M8.out.new_ f9, S8.out.fr f9 fun _ _ h => h, fun b hb hg => by have := hXl.out b hb; have := hgG.out b hg; omega, fun b hb => by have := S8.out.lt b hb; omega, by simpa using nb, fun b hb => by have := M8.out.pj.lt b hb; omega, M8.out.fr.size, fun x hx => by have := (M8.out.bx x hx).lt; omega⟩)
      have hb10 : Hid (∀ W X t' r' a T, MW w W X t' r' a T Bs9 → W.cell? ⟨w6.heap.size, 0, none⟩ = some (.pointer (some ⟨s, 0, none⟩)) ∧ Blk W w7.heap.size 49 #[.pointer (some ⟨t, 0, none⟩)] ∧ MW w W X t' r' a T Bs) := Lib.hid fun W X t' r' a T h => by
        rw [← hBs9] at h
        exact ⟨(h.bx (w6.heap.size, 52, #[.pointer (some ⟨s, 0, none⟩)]) (by simp)).cell 0, h.bx (w7.heap.size, 49, #[.pointer (some ⟨t, 0, none⟩)]) (by simp),
          ⟨h.pj, h.cl, fun x hx => h.bx x (by simp [hx]), fun b hb => ⟨(h.dis b hb).1, fun x hx => (h.dis b hb).2 x (by simp [hx])⟩, h.fr, fun x hx => h.bge x (by simp [hx]), h.one⟩⟩
      have hlt9 := B9.out.mw.pj.lt
      have hown9 := B9.out.mw.pj.own2
      have hRM : Hid (∀ j, RM t r w8'.heap.size w9 j → j < w9.heap.size) := Lib.hid fun j hj => by
        rcases hj with ⟨hj, _⟩ | hj
        · exact hlt9 j (by rw [hown9]; exact hj)
        · have := z9.out; omega
      have htl : Hid (t < w9.heap.size ∧ r < w9.heap.size) := Lib.hid ⟨hlt9 t (by rw [hown9]; exact .inl (.inl rfl)), hlt9 r (by rw [hown9]; exact .inr (.inl rfl))⟩
      have hbn := B9.out.nbs.1
      have hone := B9.out.mw.one
      have hseq := Lib.hid ((B9.out.mw.pj.vw (by omega)).seq w9 w7.heap.size (RM t r w8'.heap.size) B9.out.mw.pj (hb10.out _ _ _ _ _ _ B9.out.mw).2.1
        (fun W hW j hj => by
          rw [RM.same (hW.block t htl.out.1) (hW.block r htl.out.2)] at hj
          have := hRM.out j hj
          have := hW.size
          omega)
        (fun W W' F hs hf j hj => by
          have := htl.out
          rwa [RM.same (hf.block t (by omega) fun h => h) (hf.block r (by omega) fun h => h)] at hj)
        (fun W h => by rcases h with ⟨_, h⟩ | h; exact h rfl; omega))
      clear hlt9 hown9 hXl hBl hgG hsG M6 M7 M8 S7 S8 z7 z8 hw7 hw8 hwl hsz6 cq7 hBs9 HH hXX
      generalize hbnn : w8'.heap.size = bn at *
      generalize w7.heap.size = bA at *
      generalize w6.heap.size = b10 at *
      have hbnn := Lib.hid hbnn
      go_wp2_with fail
      rw [← hw9.out]
      refine wp_rangeFunc_P (gf := 72) (lb := #[.pointer (some ⟨bA, 0, none⟩)]) rfl (enters_of Tryd.func72 (by kernel_rfl) rfl)
        hseq.out KpR.trans (fun W l o o' h1 h2 h3 h4 => KpR.turn h2 h3 fun k hk => by
          have := htl.out
          rwa [RM.same (World.putObj_heap_other (by omega)) (World.putObj_heap_other (by omega))] at hk) (KpR.refl _) (Below.refl _ _) (fun _ => rfl)
        (fun x tm => (tm.setIfInBounds 13 (.int .u64 x.1)).setIfInBounds 14 (.int .u64 x.2))
        (fun pre W' => Hid (pre = (prs T.l T.get).take pre.length) ∧ Hid (∃ X' a' T', a' ≤ l.length + 2 * pre.length ∧ MB w W' X' t r a' T' Bs9 s G T bn (pre.length : Int)))
        (fun c pre _ => c = .ret ∧ ∀ m, m ≤ T.l.length → pre ≠ (prs T.l T.get).take m)
        (fun pre W W' row hs hg hr => ⟨hs.1, Lib.hid (by obtain ⟨X', a', T', h1, h2⟩ := hs.2.out; exact ⟨X', a', T', h1, h2.own (by have := B9.out.mw.fr.size; exact this) hg hr⟩)⟩)
        (fun _ _ _ _ _ hs _ _ => hs)
        ⟨Lib.hid (by simp), Lib.hid ⟨X, l.length, T, by simp, B9.out⟩⟩ ?assign ?body ?done ?stop
      case assign =>
        intro l x W K hK
        gi_wp2
      case stop =>
        rintro D c pre W' hDD ⟨m, hm, hpm⟩ ⟨_, hx⟩ hK
        exact (hx m hm hpm).elim
      case body =>
        intro yl pre x W' hl9 hyr hi hlen
        obtain ⟨hpre, HX⟩ := hi
        obtain ⟨X1, a1, T1, ha1, HB⟩ := HX.out
        replace HB := Lib.hid HB
        obtain ⟨hin, hout⟩ := prs_at (g := T.get) (x := x) hlen hpre.out
        replace hin := Lib.hid hin
        replace hout := Lib.hid hout
        clear HX hseq hRM B9 hyr hpre
        have hlen2 : pre.length < l.length := by omega
        obtain ⟨q10, qA, HM⟩ := hb10.out _ _ _ _ _ _ HB.out.mw
        have qr := (hbs.out _ _ _ _ _ _ HM).2.2
        have qn : W'.cell? ⟨bn, 0, none⟩ = some (.int .i64 pre.length) := HB.out.nb.cell 0
        have zr := qr.frozen 0
        have qrc : W'.cell? ⟨b6, 0, none⟩ = some (.bool false) := qr.cell 0
        obtain ⟨gS, czS, AS, cpS, _, hbS, _, hvS, _⟩ := HB.out.ws
        have qs : W'.cell? ⟨s, 1, none⟩ = some (.slice AS T.l.length cpS) := hbS.cell 1
        obtain ⟨gk, ok, rfl, hck⟩ := Wl.cell hvS hlen
        have qk := hck pre.length hlen
        have hmem : decide (T.l[pre.length] ∈ T.l) = true := decide_eq_true (List.getElem_mem hlen)
        have G1 := Lib.hid (getR_tb HB.out.ws hTk.1 (key := x.1))
        have G2 := Lib.hid (fun n => lenR_tb (HB.out.ws.drewN n))
        have hge : decide ((pre.length : Int) ≥ (T.l.length : Int)) = false := decide_eq_false (by omega)
        have hlz : (pre.length : Int) < (T.l.length : Int) := by omega
        have E1 : Hid (∀ m W'', W'' = (W'.drewN m).setCell ⟨b6, 0, none⟩ (.bool false) → KeepsOthers W' W'') := Lib.hid fun m W'' e => by rw [e]; have := KeepsOthers.setCell (W'.drewN m) ⟨b6, 0, none⟩ (.bool false); exact ⟨this.size, this.same⟩
        clear hck qA HM qr hbS hvS
        generalize hy : T.l[pre.length] = y at *
        replace hy := Lib.hid hy
        obtain ⟨xk, xv⟩ := x
        by_cases hxk : xk = y
        · subst hxk
          rw [hmem] at G1
          by_cases hxv : xv = T.get xk
          · subst hxv
            replace hin := Lib.hid (hin.out rfl)
            generalize T.get xk = gy at *
            clear hout E1
            gi_wp2_with fail
            refine ⟨trivial, (CallsIn.inRound yl (callsIn_wide.2 G1.out)).mono ?_⟩
            rintro _ w7 ⟨rfl, n1, rfl⟩
            gi_wp2_with fail
            refine wpIn_region_mixH (fun W => W.cell? ⟨bn, 0, none⟩ = some (.int .i64 pre.length)) [0, 1, 2, 3, 3, 3, 1, 3, 3, 1, 1, 3, 1, 3, 3, 3, 3, 3, 3, 3, 3, 3, 3, 3] (List.range 24) (by kernel_rfl) (by kernel_rfl) (by kernel_rfl) (by rintro ⟨_, _, h⟩; exact h) (fun _ _ h => h) qn ?_
            repeat (first | ((first | refine wpMixH_pure rfl rfl (fun K hK => ?_) | refine wpMixH_loc rfl rfl (fun K hK => ?_) | refine wpMixH_any rfl rfl (fun K hK => ?_)); go_simp; refine hK _ _ ?_; clear hK K) | (refine wpMixH_any rfl rfl (fun K hK => ?_); rw [if_pos (by go_simp)]; apply Exists.intro; refine And.intro (fun w2 hS2 => ?_) (hK _ _ ?_); (focus (obtain hs1 := hS2; go_simp; rfl)); clear hK K))
            refine wpMixH_loud rfl rfl (fun n2 K hK => ?_)
            go_wp2_with fail
            refine (G2.out _).mono ?_
            rintro _ w7 ⟨rfl, rfl⟩
            go_wp2_with fail
            refine hK _ _ (fun _ => qn) ?_; clear hK K
            repeat ((first | refine wpMixH_pure rfl rfl (fun K hK => ?_) | refine wpMixH_loc rfl rfl (fun K hK => ?_) | refine wpMixH_any rfl rfl (fun K hK => ?_)); go_simp; refine hK _ _ ?_; clear hK K)
            refine wpMixH_nil (fun n3 => ?_)
            simp only [drewN_drewN]
            have HB2 := Lib.hid (HB.out.drewN (n1 + 1 + n2 + n3))
            have F2 := Lib.hid ((Fr.refl X1 W').drewN (n1 + 1 + n2 + n3))
            generalize W'.drewN (n1 + 1 + n2 + n3) = W2 at *
            clear qn zr qrc qs qk G1 G2 q10
            obtain ⟨_, _, HM2⟩ := hb10.out _ _ _ _ _ _ HB2.out.mw
            obtain ⟨qm, qd, _⟩ := hbs.out _ _ _ _ _ _ HM2
            obtain ⟨q7, q8⟩ := hbt.out _ _ _ _ _ _ HM2
            have qn : W2.cell? ⟨bn, 0, none⟩ = some (.int .i64 pre.length) := HB2.out.nb.cell 0
            have hbel := Lib.hid HB2.out.mw.below
            clear HM2
            have hai := Lib.hid (show a1 ≤ 2932031007402 by omega)
            gi_wp2_with fail
            by_cases hm1 : pre.length < m.length
            · by_cases hd1 : pre.length < d.length
              · obtain ⟨gb, ob, rfl, hcb⟩ := lies_cell hM.out hbel.out hm1
                have hm2 : (pre.length : Int) < (m.length : Int) := by omega
                have C1 := Lib.hid (fun n => plays1_j ((HB2.out.drewN n).mw.pj) hai.out 0 0 0 m[pre.length] 1)
                generalize m[pre.length] = k1 at *
                refine wpIn_region_mixH (fun W => W.cell? ⟨b7, 0, none⟩ = some (.pointer (some ⟨t, 0, none⟩)) ∧ W.cell? ⟨b8, 0, none⟩ = some (.pointer (some ⟨r, 0, none⟩))) [1, 1, 3, 3, 3, 0, 0, 1, 1, 3, 1, 2, 2, 3, 3, 3, 1, 1, 3, 3, 3, 0, 0, 1, 1, 3, 1, 2, 2, 3, 3, 3] (List.range 32) (by kernel_rfl) (by kernel_rfl) (by kernel_rfl) (by rintro ⟨_, _, h⟩; exact h) (fun _ _ h => h) ⟨q7, q8⟩ ?_
                repeat (first | ((first | refine wpMixH_pure rfl rfl (fun K hK => ?_) | refine wpMixH_loc rfl rfl (fun K hK => ?_) | refine wpMixH_any rfl rfl (fun K hK => ?_)); go_simp; refine hK _ _ ?_; clear hK K) | (refine wpMixH_any rfl rfl (fun K hK => ?_); rw [if_pos (by go_simp)]; apply Exists.intro; refine And.intro (fun w2 hS2 => ?_) (hK _ _ ?_); (focus (obtain ⟨hs1, hs2⟩ := hS2; go_simp; rfl)); clear hK K))
                refine wpMixH_loud rfl rfl (fun n4 K hK => ?_)
                go_wp2_with fail
                refine hK _ _ (fun _ => ⟨q7, q8⟩) ?_; clear hK K
                repeat (first | ((first | refine wpMixH_pure rfl rfl (fun K hK => ?_) | refine wpMixH_loc rfl rfl (fun K hK => ?_) | refine wpMixH_any rfl rfl (fun K hK => ?_)); go_simp; refine hK _ _ ?_; clear hK K) | (refine wpMixH_any rfl rfl (fun K hK => ?_); rw [if_pos (by go_simp)]; apply Exists.intro; refine And.intro (fun w2 hS2 => ?_) (hK _ _ ?_); (focus (obtain ⟨hs1, hs2⟩ := hS2; go_simp; rfl)); clear hK K))
                refine wpMixH_loud rfl rfl (fun n5 K hK => ?_)
                go_wp2_with fail
                refine (C1.out _).mono ?_
                rintro _ W3 ⟨rfl, X3, p3, f3⟩
                have HB3 := Lib.hid ((HB2.out.drewN (1 + n4 + n5)).step p3 (Tbl.clean_put HB2.out.mw.cl k1 1) f3)
                have F3 := Lib.hid ((F2.out.drewN (1 + n4 + n5)).trans f3)
                clear p3 f3 C1 hcb q7 q8 qm qd qn
                generalize T1.put 0 k1 1 = T3 at *
                obtain ⟨_, _, HM3⟩ := hb10.out _ _ _ _ _ _ HB3.out.mw
                obtain ⟨qm, qd, _⟩ := hbs.out _ _ _ _ _ _ HM3
                obtain ⟨q7, q8⟩ := hbt.out _ _ _ _ _ _ HM3
                have qn : W3.cell? ⟨bn, 0, none⟩ = some (.int .i64 pre.length) := HB3.out.nb.cell 0
                have hbel3 := Lib.hid HB3.out.mw.below
                clear HM3
                obtain ⟨gc, oc, rfl, hcc⟩ := lies_cell hD.out hbel3.out hd1
                have hd2 : (pre.length : Int) < (d.length : Int) := by omega
                have C2 := Lib.hid (fun n => plays3_j ((HB3.out.drewN n).mw.pj) (by omega) HB3.out.mw.cl 0 0 0 d[pre.length] 0)
                generalize d[pre.length] = k2 at *
                go_wp2_with fail
                refine hK _ _ (fun _ => ⟨q7, q8⟩) ?_; clear hK K
                repeat (first | ((first | refine wpMixH_pure rfl rfl (fun K hK => ?_) | refine wpMixH_loc rfl rfl (fun K hK => ?_) | refine wpMixH_any rfl rfl (fun K hK => ?_)); go_simp; refine hK _ _ ?_; clear hK K) | (refine wpMixH_any rfl rfl (fun K hK => ?_); rw [if_pos (by go_simp)]; apply Exists.intro; refine And.intro (fun w2 hS2 => ?_) (hK _ _ ?_); (focus (obtain ⟨hs1, hs2⟩ := hS2; go_simp; rfl)); clear hK K))
                refine wpMixH_loud rfl rfl (fun n6 K hK => ?_)
                go_wp2_with fail
                refine hK _ _ (fun _ => ⟨q7, q8⟩) ?_; clear hK K
                repeat (first | ((first | refine wpMixH_pure rfl rfl (fun K hK => ?_) | refine wpMixH_loc rfl rfl (fun K hK => ?_) | refine wpMixH_any rfl rfl (fun K hK => ?_)); go_simp; refine hK _ _ ?_; clear hK K) | (refine wpMixH_any rfl rfl (fun K hK => ?_); rw [if_pos (by go_simp)]; apply Exists.intro; refine And.intro (fun w2 hS2 => ?_) (hK _ _ ?_); (focus (obtain ⟨hs1, hs2⟩ := hS2; go_simp; rfl)); clear hK K))
                refine wpMixH_loud rfl rfl (fun n7 K hK => ?_)
                go_wp2_with fail
                refine (C2.out _).mono ?_
                rintro _ W4 ⟨rfl, X4, p4, f4⟩
                have HB4 := Lib.hid ((HB3.out.drewN (n6 + n7)).step p4 (Tbl.clean_take HB3.out.mw.cl k2) f4)
                have F4 := Lib.hid ((F3.out.drewN (n6 + n7)).trans f4)
                clear p4 f4 C2 hcc q7 q8 qm qd qn
                generalize T3.take 0 k2 = T4 at *
                have qn : W4.cell? ⟨bn, 0, none⟩ = some (.int .i64 pre.length) := HB4.out.nb.cell 0
                have zn := HB4.out.nb.frozen 0
                go_wp2_with fail
                refine hK _ _ (fun h => (Bool.false_ne_true ((Eq.symm (by kernel_rfl)).trans h)).elim) ?_; clear hK K
                repeat ((first | refine wpMixH_pure rfl rfl (fun K hK => ?_) | refine wpMixH_loc rfl rfl (fun K hK => ?_) | refine wpMixH_any rfl rfl (fun K hK => ?_)); go_simp; refine hK _ _ ?_; clear hK K)
                refine wpMixH_nil (fun n8 => ?_)
                gi_wp2
                obtain ⟨g1, g2⟩ := HB.out.fin (B := w9.heap.size) (k' := (pre.length : Int) + 1) (HB4.out.drewN n8) (F4.out.drewN n8)
                have e9 := (HB4.out.drewN n8).setN ((pre.length : Int) + 1)
                exact ⟨g1, g2, hin, Lib.hid ⟨_, _, _, (by rw [List.length_append, List.length_singleton]; omega), e9.cast (by simp)⟩⟩
              · obtain ⟨gb, ob, rfl, hcb⟩ := lies_cell hM.out hbel.out hm1
                have hm2 : (pre.length : Int) < (m.length : Int) := by omega
                have C1 := Lib.hid (fun n => plays1_j ((HB2.out.drewN n).mw.pj) hai.out 0 0 0 m[pre.length] 1)
                generalize m[pre.length] = k1 at *
                have hd2 : decide ((pre.length : Int) < (d.length : Int)) = false := decide_eq_false (by omega)
                refine wpIn_region_mixH (fun W => W.cell? ⟨b7, 0, none⟩ = some (.pointer (some ⟨t, 0, none⟩)) ∧ W.cell? ⟨b8, 0, none⟩ = some (.pointer (some ⟨r, 0, none⟩))) [1, 1, 3, 3, 3, 0, 0, 1, 1, 3, 1, 2, 2, 3, 3, 3, 1, 1, 3, 3, 3, 0, 0, 1, 1, 3, 1, 2, 2, 3, 3, 3] (List.range 32) (by kernel_rfl) (by kernel_rfl) (by kernel_rfl) (by rintro ⟨_, _, h⟩; exact h) (fun _ _ h => h) ⟨q7, q8⟩ ?_
                repeat (first | ((first | refine wpMixH_pure rfl rfl (fun K hK => ?_) | refine wpMixH_loc rfl rfl (fun K hK => ?_) | refine wpMixH_any rfl rfl (fun K hK => ?_)); go_simp; refine hK _ _ ?_; clear hK K) | (refine wpMixH_any rfl rfl (fun K hK => ?_); rw [if_pos (by go_simp)]; apply Exists.intro; refine And.intro (fun w2 hS2 => ?_) (hK _ _ ?_); (focus (obtain ⟨hs1, hs2⟩ := hS2; go_simp; rfl)); clear hK K))
                refine wpMixH_loud rfl rfl (fun n4 K hK => ?_)
                go_wp2_with fail
                refine hK _ _ (fun _ => ⟨q7, q8⟩) ?_; clear hK K
                repeat (first | ((first | refine wpMixH_pure rfl rfl (fun K hK => ?_) | refine wpMixH_loc rfl rfl (fun K hK => ?_) | refine wpMixH_any rfl rfl (fun K hK => ?_)); go_simp; refine hK _ _ ?_; clear hK K) | (refine wpMixH_any rfl rfl (fun K hK => ?_); rw [if_pos (by go_simp)]; apply Exists.intro; refine And.intro (fun w2 hS2 => ?_) (hK _ _ ?_); (focus (obtain ⟨hs1, hs2⟩ := hS2; go_simp; rfl)); clear hK K))
                refine wpMixH_loud rfl rfl (fun n5 K hK => ?_)
                go_wp2_with fail
                refine (C1.out _).mono ?_
                rintro _ W3 ⟨rfl, X3, p3, f3⟩
                have HB3 := Lib.hid ((HB2.out.drewN (1 + n4 + n5)).step p3 (Tbl.clean_put HB2.out.mw.cl k1 1) f3)
                have F3 := Lib.hid ((F2.out.drewN (1 + n4 + n5)).trans f3)
                clear p3 f3 C1 hcb q7 q8 qm qd qn
                generalize T1.put 0 k1 1 = T3 at *
                obtain ⟨_, _, HM3⟩ := hb10.out _ _ _ _ _ _ HB3.out.mw
                obtain ⟨qm, qd, _⟩ := hbs.out _ _ _ _ _ _ HM3
                obtain ⟨q7, q8⟩ := hbt.out _ _ _ _ _ _ HM3
                have qn : W3.cell? ⟨bn, 0, none⟩ = some (.int .i64 pre.length) := HB3.out.nb.cell 0
                have hbel3 := Lib.hid HB3.out.mw.below
                clear HM3
                go_wp2_with fail
                refine hK _ _ (fun _ => ⟨q7, q8⟩) ?_; clear hK K
                repeat (first | ((first | refine wpMixH_pure rfl rfl (fun K hK => ?_) | refine wpMixH_loc rfl rfl (fun K hK => ?_) | refine wpMixH_any rfl rfl (fun K hK => ?_)); go_simp; refine hK _ _ ?_; clear hK K) | (refine wpMixH_any rfl rfl (fun K hK => ?_); rw [if_pos (by go_simp)]; apply Exists.intro; refine And.intro (fun w2 hS2 => ?_) (hK _ _ ?_); (focus (obtain ⟨hs1, hs2⟩ := hS2; go_simp; rfl)); clear hK K))
                refine wpMixH_loud rfl rfl (fun n6 K hK => ?_)
                go_wp2_with fail
                refine hK _ _ (fun _ => ⟨q7, q8⟩) ?_; clear hK K
                repeat (first | ((first | refine wpMixH_pure rfl rfl (fun K hK => ?_) | refine wpMixH_loc rfl rfl (fun K hK => ?_) | refine wpMixH_any rfl rfl (fun K hK => ?_)); go_simp; refine hK _ _ ?_; clear hK K) | (refine wpMixH_any rfl rfl (fun K hK => ?_); rw [if_pos (by go_simp)]; apply Exists.intro; refine And.intro (fun w2 hS2 => ?_) (hK _ _ ?_); (focus (obtain ⟨hs1, hs2⟩ := hS2; go_simp; rfl)); clear hK K))
                refine wpMixH_loud rfl rfl (fun n7 K hK => ?_)
                go_wp2_with fail
                refine hK _ _ (fun h => (Bool.false_ne_true ((Eq.symm (by kernel_rfl)).trans h)).elim) ?_; clear hK K
                repeat ((first | refine wpMixH_pure rfl rfl (fun K hK => ?_) | refine wpMixH_loc rfl rfl (fun K hK => ?_) | refine wpMixH_any rfl rfl (fun K hK => ?_)); go_simp; refine hK _ _ ?_; clear hK K)
                refine wpMixH_nil (fun n8 => ?_)
                have zn := HB3.out.nb.frozen 0
                gi_wp2
                obtain ⟨g1, g2⟩ := HB.out.fin (B := w9.heap.size) (k' := (pre.length : Int) + 1) (HB3.out.drewN (n6 + n7 + n8)) (F3.out.drewN (n6 + n7 + n8))
                have e9 := (HB3.out.drewN (n6 + n7 + n8)).setN ((pre.length : Int) + 1)
                exact ⟨g1, g2, hin, Lib.hid ⟨_, _, _, (by rw [List.length_append, List.length_singleton]; omega), e9.cast (by simp)⟩⟩
            · by_cases hd1 : pre.length < d.length
              · have hm2 : decide ((pre.length : Int) < (m.length : Int)) = false := decide_eq_false (by omega)
                obtain ⟨gc, oc, rfl, hcc⟩ := lies_cell hD.out hbel.out hd1
                have hd2 : (pre.length : Int) < (d.length : Int) := by omega
                have C2 := Lib.hid (fun n => plays3_j ((HB2.out.drewN n).mw.pj) hai.out HB2.out.mw.cl 0 0 0 d[pre.length] 0)
                generalize d[pre.length] = k2 at *
                refine wpIn_region_mixH (fun W => W.cell? ⟨b7, 0, none⟩ = some (.pointer (some ⟨t, 0, none⟩)) ∧ W.cell? ⟨b8, 0, none⟩ = some (.pointer (some ⟨r, 0, none⟩))) [1, 1, 3, 3, 3, 0, 0, 1, 1, 3, 1, 2, 2, 3, 3, 3, 1, 1, 3, 3, 3, 0, 0, 1, 1, 3, 1, 2, 2, 3, 3, 3] (List.range 32) (by kernel_rfl) (by kernel_rfl) (by kernel_rfl) (by rintro ⟨_, _, h⟩; exact h) (fun _ _ h => h) ⟨q7, q8⟩ ?_
                repeat (first | ((first | refine wpMixH_pure rfl rfl (fun K hK => ?_) | refine wpMixH_loc rfl rfl (fun K hK => ?_) | refine wpMixH_any rfl rfl (fun K hK => ?_)); go_simp; refine hK _ _ ?_; clear hK K) | (refine wpMixH_any rfl rfl (fun K hK => ?_); rw [if_pos (by go_simp)]; apply Exists.intro; refine And.intro (fun w2 hS2 => ?_) (hK _ _ ?_); (focus (obtain ⟨hs1, hs2⟩ := hS2; go_simp; rfl)); clear hK K))
                refine wpMixH_loud rfl rfl (fun n4 K hK => ?_)
                go_wp2_with fail
                refine hK _ _ (fun _ => ⟨q7, q8⟩) ?_; clear hK K
                repeat (first | ((first | refine wpMixH_pure rfl rfl (fun K hK => ?_) | refine wpMixH_loc rfl rfl (fun K hK => ?_) | refine wpMixH_any rfl rfl (fun K hK => ?_)); go_simp; refine hK _ _ ?_; clear hK K) | (refine wpMixH_any rfl rfl (fun K hK => ?_); rw [if_pos (by go_simp)]; apply Exists.intro; refine And.intro (fun w2 hS2 => ?_) (hK _ _ ?_); (focus (obtain ⟨hs1, hs2⟩ := hS2; go_simp; rfl)); clear hK K))
                refine wpMixH_loud rfl rfl (fun n5 K hK => ?_)
                go_wp2_with fail
                refine hK _ _ (fun _ => ⟨q7, q8⟩) ?_; clear hK K
                repeat (first | ((first | refine wpMixH_pure rfl rfl (fun K hK => ?_) | refine wpMixH_loc rfl rfl (fun K hK => ?_) | refine wpMixH_any rfl rfl (fun K hK => ?_)); go_simp; refine hK _ _ ?_; clear hK K) | (refine wpMixH_any rfl rfl (fun K hK => ?_); rw [if_pos (by go_simp)]; apply Exists.intro; refine And.intro (fun w2 hS2 => ?_) (hK _ _ ?_); (focus (obtain ⟨hs1, hs2⟩ := hS2; go_simp; rfl)); clear hK K))
                refine wpMixH_loud rfl rfl (fun n6 K hK => ?_)
                go_wp2_with fail
                refine hK _ _ (fun _ => ⟨q7, q8⟩) ?_; clear hK K
                repeat (first | ((first | refine wpMixH_pure rfl rfl (fun K hK => ?_) | refine wpMixH_loc rfl rfl (fun K hK => ?_) | refine wpMixH_any rfl rfl (fun K hK => ?_)); go_simp; refine hK _ _ ?_; clear hK K) | (refine wpMixH_any rfl rfl (fun K hK => ?_); rw [if_pos (by go_simp)]; apply Exists.intro; refine And.intro (fun w2 hS2 => ?_) (hK _ _ ?_); (focus (obtain ⟨hs1, hs2⟩ := hS2; go_simp; rfl)); clear hK K))
                refine wpMixH_loud rfl rfl (fun n7 K hK => ?_)
                go_wp2_with fail
                refine (C2.out _).mono ?_
                rintro _ W4 ⟨rfl, X4, p4, f4⟩
                have HB4 := Lib.hid ((HB2.out.drewN (1 + n4 + n5 + n6 + n7)).step p4 (Tbl.clean_take HB2.out.mw.cl k2) f4)
                have F4 := Lib.hid ((F2.out.drewN (1 + n4 + n5 + n6 + n7)).trans f4)
                clear p4 f4 C2 hcc q7 q8 qm qd qn
                generalize T1.take 0 k2 = T4 at *
                have qn : W4.cell? ⟨bn, 0, none⟩ = some (.int .i64 pre.length) := HB4.out.nb.cell 0
                have zn := HB4.out.nb.frozen 0
                go_wp2_with fail
                refine hK _ _ (fun h => (Bool.false_ne_true ((Eq.symm (by kernel_rfl)).trans h)).elim) ?_; clear hK K
                repeat ((first | refine wpMixH_pure rfl rfl (fun K hK => ?_) | refine wpMixH_loc rfl rfl (fun K hK => ?_) | refine wpMixH_any rfl rfl (fun K hK => ?_)); go_simp; refine hK _ _ ?_; clear hK K)
                refine wpMixH_nil (fun n8 => ?_)
                gi_wp2
                obtain ⟨g1, g2⟩ := HB.out.fin (B := w9.heap.size) (k' := (pre.length : Int) + 1) (HB4.out.drewN n8) (F4.out.drewN n8)
                have e9 := (HB4.out.drewN n8).setN ((pre.length : Int) + 1)
                exact ⟨g1, g2, hin, Lib.hid ⟨_, _, _, (by rw [List.length_append, List.length_singleton]; omega), e9.cast (by simp)⟩⟩
              · have hm2 : decide ((pre.length : Int) < (m.length : Int)) = false := decide_eq_false (by omega)
                have hd2 : decide ((pre.length : Int) < (d.length : Int)) = false := decide_eq_false (by omega)
                refine wpIn_region_mixH (fun W => W.cell? ⟨b7, 0, none⟩ = some (.pointer (some ⟨t, 0, none⟩)) ∧ W.cell? ⟨b8, 0, none⟩ = some (.pointer (some ⟨r, 0, none⟩))) [1, 1, 3, 3, 3, 0, 0, 1, 1, 3, 1, 2, 2, 3, 3, 3, 1, 1, 3, 3, 3, 0, 0, 1, 1, 3, 1, 2, 2, 3, 3, 3] (List.range 32) (by kernel_rfl) (by kernel_rfl) (by kernel_rfl) (by rintro ⟨_, _, h⟩; exact h) (fun _ _ h => h) ⟨q7, q8⟩ ?_
                repeat (first | ((first | refine wpMixH_pure rfl rfl (fun K hK => ?_) | refine wpMixH_loc rfl rfl (fun K hK => ?_) | refine wpMixH_any rfl rfl (fun K hK => ?_)); go_simp; refine hK _ _ ?_; clear hK K) | (refine wpMixH_any rfl rfl (fun K hK => ?_); rw [if_pos (by go_simp)]; apply Exists.intro; refine And.intro (fun w2 hS2 => ?_) (hK _ _ ?_); (focus (obtain ⟨hs1, hs2⟩ := hS2; go_simp; rfl)); clear hK K))
                refine wpMixH_loud rfl rfl (fun n4 K hK => ?_)
                go_wp2_with fail
                refine hK _ _ (fun _ => ⟨q7, q8⟩) ?_; clear hK K
                repeat (first | ((first | refine wpMixH_pure rfl rfl (fun K hK => ?_) | refine wpMixH_loc rfl rfl (fun K hK => ?_) | refine wpMixH_any rfl rfl (fun K hK => ?_)); go_simp; refine hK _ _ ?_; clear hK K) | (refine wpMixH_any rfl rfl (fun K hK => ?_); rw [if_pos (by go_simp)]; apply Exists.intro; refine And.intro (fun w2 hS2 => ?_) (hK _ _ ?_); (focus (obtain ⟨hs1, hs2⟩ := hS2; go_simp; rfl)); clear hK K))
                refine wpMixH_loud rfl rfl (fun n5 K hK => ?_)
                go_wp2_with fail
                refine hK _ _ (fun _ => ⟨q7, q8⟩) ?_; clear hK K
                repeat (first | ((first | refine wpMixH_pure rfl rfl (fun K hK => ?_) | refine wpMixH_loc rfl rfl (fun K hK => ?_) | refine wpMixH_any rfl rfl (fun K hK => ?_)); go_simp; refine hK _ _ ?_; clear hK K) | (refine wpMixH_any rfl rfl (fun K hK => ?_); rw [if_pos (by go_simp)]; apply Exists.intro; refine And.intro (fun w2 hS2 => ?_) (hK _ _ ?_); (focus (obtain ⟨hs1, hs2⟩ := hS2; go_simp; rfl)); clear hK K))
                refine wpMixH_loud rfl rfl (fun n6 K hK => ?_)
                go_wp2_with fail
                refine hK _ _ (fun _ => ⟨q7, q8⟩) ?_; clear hK K
                repeat (first | ((first | refine wpMixH_pure rfl rfl (fun K hK => ?_) | refine wpMixH_loc rfl rfl (fun K hK => ?_) | refine wpMixH_any rfl rfl (fun K hK => ?_)); go_simp; refine hK _ _ ?_; clear hK K) | (refine wpMixH_any rfl rfl (fun K hK => ?_); rw [if_pos (by go_simp)]; apply Exists.intro; refine And.intro (fun w2 hS2 => ?_) (hK _ _ ?_); (focus (obtain ⟨hs1, hs2⟩ := hS2; go_simp; rfl)); clear hK K))
                refine wpMixH_loud rfl rfl (fun n7 K hK => ?_)
                go_wp2_with fail
                refine hK _ _ (fun h => (Bool.false_ne_true ((Eq.symm (by kernel_rfl)).trans h)).elim) ?_; clear hK K
                repeat ((first | refine wpMixH_pure rfl rfl (fun K hK => ?_) | refine wpMixH_loc rfl rfl (fun K hK => ?_) | refine wpMixH_any rfl rfl (fun K hK => ?_)); go_simp; refine hK _ _ ?_; clear hK K)
                refine wpMixH_nil (fun n8 => ?_)
                have zn := HB2.out.nb.frozen 0
                gi_wp2
                obtain ⟨g1, g2⟩ := HB.out.fin (B := w9.heap.size) (k' := (pre.length : Int) + 1) (HB2.out.drewN (1 + n4 + n5 + n6 + n7 + n8)) (F2.out.drewN (1 + n4 + n5 + n6 + n7 + n8))
                have e9 := (HB2.out.drewN (1 + n4 + n5 + n6 + n7 + n8)).setN ((pre.length : Int) + 1)
                exact ⟨g1, g2, hin, Lib.hid ⟨_, _, _, (by rw [List.length_append, List.length_singleton]; omega), e9.cast (by simp)⟩⟩
          · have hxv2 : (xv != T.get xk) = true := by simpa using hxv
            have ho2 := Lib.hid (hout.out (fun e => by injection e with _ e; exact hxv e))
            clear hin hout
            generalize T.get xk = gy at *
            gi_wp2_with fail
            refine ⟨trivial, (CallsIn.inRound yl (callsIn_wide.2 G1.out)).mono ?_⟩
            rintro _ w7 ⟨rfl, n1, rfl⟩
            gi_wp2_with fail
            refine wpIn_region_mixH (fun W => W.cell? ⟨bn, 0, none⟩ = some (.int .i64 pre.length)) [0, 1, 2, 3, 3, 3, 1, 3, 3, 1, 1, 3, 1, 3, 3, 3, 3, 3, 3, 3, 3, 3, 3, 3] (List.range 24) (by kernel_rfl) (by kernel_rfl) (by kernel_rfl) (by rintro ⟨_, _, h⟩; exact h) (fun _ _ h => h) qn ?_
            repeat (first | ((first | refine wpMixH_pure rfl rfl (fun K hK => ?_) | refine wpMixH_loc rfl rfl (fun K hK => ?_) | refine wpMixH_any rfl rfl (fun K hK => ?_)); go_simp; refine hK _ _ ?_; clear hK K) | (refine wpMixH_any rfl rfl (fun K hK => ?_); rw [if_pos (by go_simp)]; apply Exists.intro; refine And.intro (fun w2 hS2 => ?_) (hK _ _ ?_); (focus (obtain hs1 := hS2; go_simp; rfl)); clear hK K))
            refine wpMixH_loud rfl rfl (fun n2 K hK => ?_)
            go_wp2_with fail
            refine (G2.out _).mono ?_
            rintro _ w7 ⟨rfl, rfl⟩
            go_wp2_with fail
            refine hK _ _ (fun _ => qn) ?_; clear hK K
            repeat ((first | refine wpMixH_pure rfl rfl (fun K hK => ?_) | refine wpMixH_loc rfl rfl (fun K hK => ?_) | refine wpMixH_any rfl rfl (fun K hK => ?_)); go_simp; refine hK _ _ ?_; clear hK K)
            refine wpMixH_nil (fun n3 => ?_)
            gi_wp2
            exact ⟨(E1.out _ _ rfl).from _, rfl, ho2.out⟩
        · have hxk2 : (xk != y) = true := by simpa using hxk
          have ho2 := Lib.hid (hout.out (fun e => by injection e with e _; exact hxk e))
          clear hin hout
          generalize T.get xk = gy at *
          generalize decide (xk ∈ T.l) = by_ at *
          gi_wp2_with fail
          refine ⟨trivial, (CallsIn.inRound yl (callsIn_wide.2 G1.out)).mono ?_⟩
          rintro _ w7 ⟨rfl, n1, rfl⟩
          gi_wp2_with fail
          refine wpIn_region_mixH (fun W => W.cell? ⟨bn, 0, none⟩ = some (.int .i64 pre.length)) [0, 1, 2, 3, 3, 3, 1, 3, 3, 1, 1, 3, 1, 3, 3, 3, 3, 3, 3, 3, 3, 3, 3, 3] (List.range 24) (by kernel_rfl) (by kernel_rfl) (by kernel_rfl) (by rintro ⟨_, _, h⟩; exact h) (fun _ _ h => h) qn ?_
          repeat (first | ((first | refine wpMixH_pure rfl rfl (fun K hK => ?_) | refine wpMixH_loc rfl rfl (fun K hK => ?_) | refine wpMixH_any rfl rfl (fun K hK => ?_)); go_simp; refine hK _ _ ?_; clear hK K) | (refine wpMixH_any rfl rfl (fun K hK => ?_); rw [if_pos (by go_simp)]; apply Exists.intro; refine And.intro (fun w2 hS2 => ?_) (hK _ _ ?_); (focus (obtain hs1 := hS2; go_simp; rfl)); clear hK K))
          refine wpMixH_loud rfl rfl (fun n2 K hK => ?_)
          go_wp2_with fail
          refine (G2.out _).mono ?_
          rintro _ w7 ⟨rfl, rfl⟩
          go_wp2_with fail
          refine hK _ _ (fun _ => qn) ?_; clear hK K
          repeat ((first | refine wpMixH_pure rfl rfl (fun K hK => ?_) | refine wpMixH_loc rfl rfl (fun K hK => ?_) | refine wpMixH_any rfl rfl (fun K hK => ?_)); go_simp; refine hK _ _ ?_; clear hK K)
          refine wpMixH_nil (fun n3 => ?_)
          gi_wp2
          exact ⟨(E1.out _ _ rfl).from _, rfl, ho2.out⟩
      case done =>
        rintro D xs W' hDD hxs ⟨hpre, HX⟩ hK
        obtain ⟨X1, a1, T1, ha1, HB⟩ := HX.out
        replace HB := Lib.hid HB
        have hxl : xs.length = T.l.length := by rw [hxs, prs_len]
        rw [hxl] at HB ha1
        clear hpre hxs hxl HX hseq hRM B9
        obtain ⟨q10, qA, HM⟩ := hb10.out _ _ _ _ _ _ HB.out.mw
        have qr := (hbs.out _ _ _ _ _ _ HM).2.2
        obtain ⟨q7, q8⟩ := hbt.out _ _ _ _ _ _ HM
        have qn : W'.cell? ⟨bn, 0, none⟩ = some (.int .i64 T.l.length) := HB.out.nb.cell 0
        have hai : Hid (a1 ≤ 2932031007402) := Lib.hid (by omega)
        have G2 := Lib.hid (fun n => lenR_tb (HB.out.ws.drewN n))
        have TE := Lib.hid (fun n => tells_b (HB.out.mw.pj.vw hai.out) (HB.out.drewN n).mw.pj 0)
        have hDc : Hid (W'.heap[D]? = some (.deferred (some []))) := Lib.hid hK
        have hfr := Lib.hid HB.out.mw.fr
        have htab := Lib.hid HB.out.mw.pj.tab
        have hb6 := Lib.hid qr
        clear qr qA HM hK
        go_wp2_with fail
        refine wp_region_mixH (fun W => W.cell? ⟨bn, 0, none⟩ = some (.int .i64 T.l.length)) [0, 1, 2, 3, 3, 1, 1, 2, 3, 3, 2, 3, 2] (List.range 13) (by kernel_rfl) (by kernel_rfl) (fun _ _ h => h) qn ?_
        repeat (first | ((first | refine wpMixH_pure rfl rfl (fun K hK => ?_) | refine wpMixH_loc rfl rfl (fun K hK => ?_) | refine wpMixH_any rfl rfl (fun K hK => ?_)); go_simp; refine hK _ _ ?_; clear hK K) | (refine wpMixH_any rfl rfl (fun K hK => ?_); rw [if_pos (by go_simp)]; apply Exists.intro; refine And.intro (fun w2 hS2 => ?_) (hK _ _ ?_); (focus (obtain hs1 := hS2; go_simp; rfl)); clear hK K))
        refine wpMixH_loud rfl rfl (fun n1 K hK => ?_)
        go_wp2_with fail
        refine (G2.out _).mono ?_
        rintro _ w7 ⟨rfl, rfl⟩
        go_wp2_with fail
        refine hK _ _ (fun _ => qn) ?_; clear hK K
        repeat (first | ((first | refine wpMixH_pure rfl rfl (fun K hK => ?_) | refine wpMixH_loc rfl rfl (fun K hK => ?_) | refine wpMixH_any rfl rfl (fun K hK => ?_)); go_simp; refine hK _ _ ?_; clear hK K) | (refine wpMixH_any rfl rfl (fun K hK => ?_); rw [if_pos (by go_simp)]; apply Exists.intro; refine And.intro (fun w2 hS2 => ?_) (hK _ _ ?_); (focus (obtain hs1 := hS2; go_simp; rfl)); clear hK K))
        refine wpMixH_loud rfl rfl (fun n2 K hK => ?_)
        go_wp2_with fail
        refine (TE.out (1 + n1 + n2)).mono ?_
        rintro _ W3 ⟨rfl, f3⟩
        have f3 := Lib.hid (((Fr.refl (fun _ => False) W').drewN (1 + n1 + n2)).trans f3)
        have KN := Lib.hid (fun n => known_b (w := W3.drewN n) (htab.out.fr (f3.out.drewN n) fun h => h))
        clear G2 TE q10 q7 q8 qn
        go_wp2_with fail
        refine hK _ _ (fun h => (Bool.false_ne_true ((Eq.symm (by kernel_rfl)).trans h)).elim) ?_; clear hK K
        repeat ((first | refine wpMixH_pure rfl rfl (fun K hK => ?_) | refine wpMixH_loc rfl rfl (fun K hK => ?_) | refine wpMixH_any rfl rfl (fun K hK => ?_)); go_simp; refine hK _ _ ?_; clear hK K)
        refine wpMixH_loud rfl rfl (fun n3 K hK => ?_)
        go_wp2_with fail
        refine (KN.out n3).mono ?_
        rintro _ W4 ⟨rfl, bl4⟩
        have f4 := Lib.hid ((f3.out.drewN n3).trans (Fr.of_below bl4 (Nat.le_refl _) (fun _ => False)))
        have B4 := Lib.hid (f4.out.blk hb6.out fun h => h)
        have z4 := B4.out.frozen 0
        have q4 : W4.cell? ⟨b6, 0, none⟩ = some (.bool false) := B4.out.cell 0
        clear bl4 KN
        go_wp2_with fail
        refine hK _ _ (fun h => (Bool.false_ne_true ((Eq.symm (by kernel_rfl)).trans h)).elim) ?_; clear hK K
        repeat ((first | refine wpMixH_pure rfl rfl (fun K hK => ?_) | refine wpMixH_loc rfl rfl (fun K hK => ?_) | refine wpMixH_any rfl rfl (fun K hK => ?_)); go_simp; refine hK _ _ ?_; clear hK K)
        refine wpMixH_loud rfl rfl (fun n4 K hK => ?_)
        go_wp2_with fail
        refine hK _ _ (fun h => (Bool.false_ne_true ((Eq.symm (by kernel_rfl)).trans h)).elim) ?_; clear hK K
        refine wpMixH_nil (fun n5 => ?_)
        go_wp2
        have B5 : Blk (((W4.drewN n4).setCell ⟨b6, 0, none⟩ (.bool true)).drewN n5) b6 4 #[.bool true] := by simpa using ((B4.out.drewN n4).set_ 0 (.bool true)).drewN n5
        have f5 := (((hfr.out.trans f4.out).drewN n4).set (p := ⟨b6, 0, none⟩) (.inr (.inr hb6w9.out)) (.bool true)).drewN n5
        have hD4 : W4.heap[D]? = some (.deferred (some [])) := (f4.out.block D (Array.getElem?_eq_some_iff.1 hDc.out).1 fun h => h).trans hDc.out
        have hDb : D ≠ b6 := fun e => by
          rw [e] at hD4
          have := Blk.isCells B4.out hD4
          cases this
        have hD5 : (((W4.drewN n4).setCell ⟨b6, 0, none⟩ (.bool true)).drewN n5).heap[D]? = some (.deferred (some [])) := (Below.heap_setCell (W4.drewN n4) ⟨b6, 0, none⟩ _ D hDb).trans hD4
        have hDw : w.heap.size ≤ D := by have := z9.out; omega
        refine leaves_marks (fun W => Blk W b6 4 #[.bool true] ∧ Fr (fun _ => False) w (fun _ => False) W) ?_ [D] ?_ _ ⟨B5, f5⟩ (by simp) (fun D' h => by rw [List.mem_singleton.1 h]; exact hD5)
        · rintro W9 ⟨hb9, hf9⟩
          have q9 : W9.cell? ⟨b6, 0, none⟩ = some (.bool true) := hb9.cell 0
          exact ⟨.bool true, by simp [results, Tryd.results7, go_sem, q9], rfl, hf9.below (fun _ h => h.elim) (Nat.le_refl _)⟩
        · rintro W9 D' hd hk9 ⟨hb9, hf9⟩
          exact ⟨hb9.shut hk9, hf9.shut (by rw [List.mem_singleton.1 hd]; exact hDw) _⟩
end Go.Proofs.YtkjeobcfaolcaaaDoor
