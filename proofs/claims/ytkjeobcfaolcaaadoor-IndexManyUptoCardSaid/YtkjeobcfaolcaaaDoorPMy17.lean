/- Copy, by contract (a table of string). -/
import Derived.Test.YtkjeobcfaolcaaaDoorPMy1
import Derived.Test.YtkjeobcfaolcaaaDoorPMy5
import Derived.Test.YtkjeobcfaolcaaaDoorPMy16
namespace Go.Proofs.YtkjeobcfaolcaaaDoor
open Go.RowKit
set_option maxHeartbeats 4000000
set_option linter.unusedVariables false
set_option linter.unusedSimpArgs false

set_option maxRecDepth 100000 in
theorem copyS_b {t g sl cz : Nat} {U : Nat → Bool} {K : Nat → Int} {X : Nat → Value} {A : Option Addr} {cp : Nat} {l : List Int} {w : World} (ht : Blk w t 77 #[.slice (some ⟨g, 0, none⟩) sl cz, .slice A l.length cp])
    (hS : Slt w g sl U K X) (hv : Wl w (.slice A l.length cp) l) (hX : ∀ i, i < sl → (X i).oneCell' = true) (h0 : 0 < sl) (hlen : sl * 32 ≤ 140737488355328) (hl8 : l.length * 8 ≤ 140737488355328) :
    Calls Tryd.prog 49 #[.pointer (some ⟨t, 0, none⟩)] w fun e w' => ∃ t' g' cz' A' cp', e = .returned (.pointer (some ⟨t', 0, none⟩)) ∧ Blk w' t' 77 #[.slice (some ⟨g', 0, none⟩) sl cz', .slice A' l.length cp'] ∧
      Slt w' g' sl U K X ∧ Wl w' (.slice A' l.length cp') l ∧ Fr (fun _ => False) w (fun b => b = t' ∨ b = g' ∨ own (.slice A' l.length cp') b) w' := by
  have d0 : w.cell? ⟨t, 0, none⟩ = some (.slice (some ⟨g, 0, none⟩) sl cz) := ht.cell 0
  have d1 : w.cell? ⟨t, 1, none⟩ = some (.slice A l.length cp) := ht.cell 1
  have M := Lib.hid (madeS_b (c1 := .slice A l.length cp) d0)
  have B0 := Lib.hid ht
  have S0 := Lib.hid hS
  have V0 := Lib.hid hv
  have hX := Lib.hid hX
  clear ht hS hv
  go_enter Tryd.func49, Tryd.ntmps49
  go_wp2_with fail
  refine M.out.mono ?_
  rintro _ w2 ⟨rfl, rfl⟩
  go_wp2_with fail
  refine wp_region_mix (fun W' => W'.cell? ⟨t, 1, none⟩ = some (.slice A l.length cp)) [3, 3, 3, 1, 2, 3, 3, 3, 0, 2, 2, 2, 3] [0, 1, 2, 3, 5, 6, 7, 8, 4, 9, 10, 11, 12] (by kernel_rfl) (by kernel_rfl) (fun _ _ h => h) d1 ?_
  repeat (first | ((first | refine wpMix_pure rfl rfl (fun K hK => ?_) | refine wpMix_loc rfl rfl (fun K hK => ?_) | refine wpMix_any rfl rfl (fun K hK => ?_)); go_simp; refine hK _ _ ?_; clear hK K) | (refine wpMix_any rfl rfl (fun K hK => ?_); rw [if_pos (by go_simp)]; apply Exists.intro; refine And.intro (fun w2 hS2 => ?_) (hK _ _ ?_); (focus (obtain hs1 := hS2; go_simp; rfl)); clear hK K))
  refine wpMix_loud rfl rfl (fun n1 K hK => ?_)
  go_wp2_with fail
  refine (cloneS_b (S0.out.drewN (1 + n1)) hX.out h0 hlen).mono ?_
  rintro _ w3 ⟨g3, z3, rfl, s3, ge3, m3⟩
  have S3 := Lib.hid s3
  have ge3 := Lib.hid ge3
  have M3 := Lib.hid m3
  have V3 : Hid (Wl w3 (.slice A l.length cp) l) := Lib.hid ((V0.out.drewN (1 + n1)).frs m3 fun k _ h => h)
  have B3 := Lib.hid (m3.blk (B0.out.drewN (1 + n1)) fun h => h)
  have d3 : w3.cell? ⟨t, 1, none⟩ = some (.slice A l.length cp) := B3.out.cell 1
  clear s3 m3 d0
  go_wp2_with fail
  refine hK _ _ (fun _ => d3) ?_; clear hK K
  repeat (first | ((first | refine wpMix_pure rfl rfl (fun K hK => ?_) | refine wpMix_loc rfl rfl (fun K hK => ?_) | refine wpMix_any rfl rfl (fun K hK => ?_)); go_simp; refine hK _ _ ?_; clear hK K) | (refine wpMix_any rfl rfl (fun K hK => ?_); rw [if_pos (by go_simp)]; apply Exists.intro; refine And.intro (fun w2 hS2 => ?_) (hK _ _ ?_); (focus (obtain hs1 := hS2; go_simp; rfl)); clear hK K))
  refine wpMix_loud rfl rfl (fun n2 K hK => ?_)
  go_wp2_with fail
  refine (clone_b (V3.out.lies.drewN n2) hl8).mono ?_
  rintro _ w4 ⟨A4, c4, rfl, v4, m4⟩
  have V4 := Lib.hid v4
  have M4 := Lib.hid m4
  have S4 := Lib.hid (S3.out.drewN n2 |>.fr m4 fun h => h)
  clear v4 m4 d3 d1
  go_wp2_with fail
  refine hK _ _ (fun h => (Bool.false_ne_true ((Eq.symm (by kernel_rfl)).trans h)).elim) ?_; clear hK K
  repeat ((first | refine wpMix_pure rfl rfl (fun K hK => ?_) | refine wpMix_loc rfl rfl (fun K hK => ?_) | refine wpMix_any rfl rfl (fun K hK => ?_)); go_simp; refine hK _ _ ?_; clear hK K)
  refine wpMix_loud rfl rfl (fun n3 K hK => ?_)
  go_wp2_with fail
  refine hK _ _ (fun h => (Bool.false_ne_true ((Eq.symm (by kernel_rfl)).trans h)).elim) ?_; clear hK K
  repeat ((first | refine wpMix_pure rfl rfl (fun K hK => ?_) | refine wpMix_loc rfl rfl (fun K hK => ?_) | refine wpMix_any rfl rfl (fun K hK => ?_)); go_simp; refine hK _ _ ?_; clear hK K)
  refine wpMix_loud rfl rfl (fun n4 K hK => ?_)
  go_wp2_with fail
  refine hK _ _ (fun h => (Bool.false_ne_true ((Eq.symm (by kernel_rfl)).trans h)).elim) ?_; clear hK K
  repeat ((first | refine wpMix_pure rfl rfl (fun K hK => ?_) | refine wpMix_loc rfl rfl (fun K hK => ?_) | refine wpMix_any rfl rfl (fun K hK => ?_)); go_simp; refine hK _ _ ?_; clear hK K)
  refine wpMix_nil (fun n5 => ?_)
  go_wp2
  go_ret
  have e3 : Fr (fun _ => False) w (fun k => k = g3) w3 := ((Fr.refl (fun _ => False) w).drewN (1 + n1)).trans M3.out
  have e4 := (e3.drewN n2).beside M4.out fun k hk => hk.elim
  have e5 := ((e4.drewN (n3 + n4)).alloc (.cells #[.slice (some ⟨g3, 0, none⟩) sl z3, .slice A4 l.length c4] 77)).drewN n5
  refine ⟨_, g3, z3, A4, c4, rfl, (Blk.new (w4.drewN (n3 + n4)) 77 #[.slice (some ⟨g3, 0, none⟩) sl z3, .slice A4 l.length c4]).drewN n5, ((S4.out.drewN (n3 + n4)).alloc _).drewN n5, ((V4.out.drewN (n3 + n4)).alloc _).drewN n5, e5.into fun k hk => ?_⟩
  rcases hk with rfl | rfl | hk
  · exact .inr (.inr e4.size)
  · exact .inl rfl
  · rcases M4.out.new k hk with h | h
    · exact h.elim
    · exact .inr (.inr (Nat.le_trans e3.size h))
end Go.Proofs.YtkjeobcfaolcaaaDoor
/- All, by contract (a table of string). -/
namespace Go.Proofs.YtkjeobcfaolcaaaDoor
open Go.RowKit Go.Shelf
set_option maxHeartbeats 4000000
set_option linter.unusedVariables false
set_option linter.unusedSimpArgs false
attribute [local go_sem] Oper.semAt_some

def pairsS (k : Nat) (U : Nat → Bool) (K : Nat → Int) (X : Nat → ByteArray) (l : List Int) : List (Int × ByteArray) := l.map fun key => (key, X (slotOf U K (2 ^ k) (hmk k key) key))
def encS (x : Int × ByteArray) : Array Value := #[.int .u64 x.1, .string x.2]
theorem pairsS_take {k : Nat} {U : Nat → Bool} {K : Nat → Int} {X : Nat → ByteArray} {l : List Int} {i : Nat} (hi : i < l.length) :
    (pairsS k U K X l).take (i + 1) = (pairsS k U K X l).take i ++ [(l[i], X (slotOf U K (2 ^ k) (hmk k l[i]) l[i]))] := by
  rw [List.take_add_one]
  congr 1
  simp [pairsS, hi]
set_option maxRecDepth 100000 in
theorem allS_seq {t b g k cz n : Nat} {U : Nat → Bool} {K : Nat → Int} {X : Nat → ByteArray} {A : Option Addr} {cp : Nat} {l : List Int} {w : World} (hb : Blk w b 34 #[.pointer (some ⟨t, 0, none⟩)])
    (ht : Blk w t 77 #[.slice (some ⟨g, 0, none⟩) (2 ^ k : Nat) cz, .slice A l.length cp]) (hS : Slt w g (2 ^ k) U K (fun i => .string (X i))) (hv : Wl w (.slice A l.length cp) l) (hT : Tab w)
    (hI : TInv (2 ^ k) (hmk k) U K l) (h1 : 1 ≤ k) (h2 : k ≤ 62) (hlen : 2 ^ k * 32 ≤ 140737488355328) (hl8 : l.length * 8 ≤ 140737488355328)
    (R : World → Nat → Prop) (hR0 : ∀ W, Below w.heap.size w W → ∀ j, R W j → j < W.heap.size) (hRs : ∀ W W' F, w.heap.size ≤ W.heap.size → Fr (fun _ => False) W F W' → ∀ j, R W' j → R W j) (hRt : ∀ W, ¬ R W 1) :
    SeqStopsK Fence.wide n Tryd.prog 78 #[.pointer (some ⟨b, 0, none⟩)] encS (KpR R) (fun xs => xs = pairsS k U K X l) (fun pre => ∃ m, m ≤ l.length ∧ pre = (pairsS k U K X l).take m) l.length w := fun y J Jx W hW hJ hJx hY h0 => by
  have d0 : W.cell? ⟨b, 0, none⟩ = some (.pointer (some ⟨t, 0, none⟩)) := (hb.below hW hb.lt).cell 0
  have hS' : Slt W g (2 ^ k) U K (fun i => .string (X i)) := by obtain ⟨cs, hc, hh⟩ := hS; exact ⟨cs, hc.below hW hc.lt, hh⟩
  have C1 := Lib.hid (copyS_b (ht.below hW ht.lt) hS' (hv.keep fun j hj => hW.block j (hv.lt j hj)) (fun i _ => rfl) (Nat.two_pow_pos k) hlen hl8)
  have hT0 := Lib.hid (hT.keep (hW.block 1 hT.lt))
  have hI := Lib.hid hI
  have hR1 := Lib.hid (hR0 W hW)
  have hRs := Lib.hid hRs
  have hWs := hW.size
  have h0 := Lib.hid h0
  have hY := Lib.hid hY
  have hJ := Lib.hid hJ
  have hnb : l.length < 9223372036854775808 := by omega
  clear hb ht hS hv hT hW hS' hR0 hJx
  refine callsIn_of_wp Tryd.func78 rfl trivial ?_ rfl
  simp only [Tryd.ntmps78, List.size_toArray, List.length_cons, List.length_nil, Nat.reduceAdd, Nat.reduceSub, Array.replicate_succ, Array.replicate_zero, List.push_toArray, List.append_toArray, List.nil_append, List.cons_append]
  gi_wp2_with fail
  refine ⟨trivial, fun h => (by cases h), (callsIn_wide.2 C1.out).mono ?_⟩
  rintro _ w1 ⟨t1, g1, z1, A1, c1, rfl, b1, s1, v1, m1⟩
  have hlen1 := m1.size
  have ht1 : W.heap.size ≤ t1 := (m1.new t1 (.inl rfl)).elim (fun h => h.elim) id
  have hg1 : W.heap.size ≤ g1 := (m1.new g1 (.inr (.inl rfl))).elim (fun h => h.elim) id
  have J1 := Lib.hid (m1.abides hJ.out h0.out)
  have T1 := Lib.hid (hT0.out.keep (m1.block 1 hT0.out.lt fun h => h))
  have R1 : Hid (∀ j, R w1 j → j < W.heap.size) := Lib.hid fun j hj => hR1.out j (hRs.out W w1 _ hWs m1 j hj)
  have B1 := Lib.hid b1
  have S1 := Lib.hid s1
  have V1 := Lib.hid v1
  clear b1 s1 v1 m1 C1 hR1 hT0 h0 d0
  have C2 := Lib.hid (keysS_b B1.out V1.out hl8)
  gi_wp2_with fail
  refine ⟨trivial, fun h => (by cases h), (callsIn_wide.2 C2.out).mono ?_⟩
  rintro _ w2 ⟨A2, c2, rfl, v2, m2⟩
  have ho2 : Hid (∀ j, own (.slice A2 l.length c2) j → W.heap.size ≤ j) := Lib.hid fun j hj => (m2.new j hj).elim (fun h => h.elim) fun h => by omega
  have J2 := Lib.hid (m2.abides hJ.out J1.out)
  have T2 := Lib.hid (T1.out.keep (m2.block 1 T1.out.lt fun h => h))
  have R2 : Hid (∀ j, R w2 j → j < W.heap.size) := Lib.hid fun j hj => R1.out j (hRs.out w1 w2 _ (by omega) m2 j hj)
  have B2 := Lib.hid (m2.blk B1.out fun h => h)
  have S2 := Lib.hid (S1.out.fr m2 fun h => h)
  have V2 := Lib.hid v2
  have hlen2 := m2.size
  clear v2 m2 C2 J1 T1 R1 B1 S1 V1
  gi_wp2
  gi_loopw [13] (fun i wr => ∃ m : Nat, m ≤ l.length ∧ i = .int .i64 m ∧ W.heap.size ≤ wr.heap.size ∧ w2.heap.size ≤ wr.heap.size ∧ Hid (J ((pairsS k U K X l).take m) wr ∧ Tab wr ∧ (∀ j, W.heap.size ≤ j → j < w2.heap.size → ¬ R wr j) ∧ Blk wr t1 77 #[.slice (some ⟨g1, 0, none⟩) (2 ^ k : Nat) z1, .slice A1 l.length c1] ∧ Slt wr g1 (2 ^ k) U K (fun i => .string (X i)) ∧ Wl wr (.slice A2 l.length c2) l))
    (fun i _ => l.length - (intOf i).toNat)
  case atStart => exact ⟨0, Nat.zero_le _, rfl, by omega, Nat.le_refl _, Lib.hid ⟨J2.out, T2.out, fun j h1 h2 h3 => by have := R2.out j h3; omega, B2.out, S2.out, V2.out⟩⟩
  case round =>
    obtain ⟨m, hm, rfl, hwr, hsw2, HH⟩ := hrel
    obtain ⟨JJ, TT, RR, BB, SS, VW⟩ := HH.out
    by_cases hlt : m < l.length
    · obtain ⟨ga, off, rfl, hc⟩ := VW.cell hlt
      have hcm := hc m hlt
      have htk := pairsS_take (k := k) (U := U) (K := K) (X := X) hlt
      obtain ⟨hl, hj, _, _, ho⟩ := hI.out.look (hmk_lt h1 h2) l[m]
      have C3 := Lib.hid (getS_b TT BB SS h1 h2 (Nat.le_trans (Nat.pow_le_pow_right (by omega) h2) (by decide)) hl hj)
      generalize hkey : l[m] = key at *
      generalize slotOf U K (2 ^ k) (hmk k key) key = j at *
      generalize hpre : (pairsS k U K X l).take m = pre at *
      have hpl : pre.length = m := by rw [← hpre]; simp [pairsS]; omega
      clear hl ho hc TT BB SS VW
      have htk := Lib.hid htk
      have hkey := Lib.hid hkey
      have hpre := Lib.hid hpre
      have JJ := Lib.hid JJ
      have RR := Lib.hid RR
      gi_wp2_with fail
      refine ⟨trivial, fun h => (by cases h), (callsIn_wide.2 C3.out).mono ?_⟩
      rintro _ w4 ⟨rfl, n4, rfl⟩
      have m4 : Fr (fun _ => False) wr (fun _ => False) (wr.drewN n4) := (Fr.refl _ _).drewN n4
      have J4 := m4.abides hJ.out JJ.out
      have R4 : Hid (∀ j, R (wr.drewN n4) j → R wr j) := Lib.hid fun j hj => hRs.out wr _ _ (by omega) m4 j hj
      obtain ⟨fn, tmps, assign, body, hy, hR⟩ := hY.out pre (key, X j) (wr.drewN n4) J4 (by omega)
      unfold encS at hy
      dsimp only at hy
      have m4 := Lib.hid m4
      have J4 := Lib.hid J4
      gi_wp2
      refine ⟨fun h => (by cases h), hR.mono ?_⟩
      rintro e W3 (⟨rfl, hJ3, hk3⟩ | ⟨rfl, hJx3⟩)
      · have hk3 := Lib.hid hk3
        have hJ3 := Lib.hid hJ3
        gi_wp2
        go_roundw
        case rel => 
          obtain ⟨_, TT, RR, BB, SS, VW⟩ := HH.out
          have hs3 := hk3.out.size
          have hs3 : wr.heap.size ≤ W3.heap.size := hs3
          have hd : ∀ j, W.heap.size ≤ j → j < w2.heap.size → ¬ R (wr.drewN n4) j := fun j a1 a2 a3 => RR j a1 a2 (R4.out j a3)
          have q1 : ¬ R (wr.drewN n4) t1 := hd t1 ht1 B2.out.lt
          have q2 : ¬ R (wr.drewN n4) g1 := hd g1 hg1 S2.out.lt
          have q3 : ∀ j, own (.slice (some ⟨ga, off, none⟩) l.length c2) j → ¬ R (wr.drewN n4) j := fun j hj => hd j (ho2.out j hj) (V2.out.lt j hj)
          refine ⟨m + 1, by omega, by simp, by omega, by omega, Lib.hid ⟨by rw [htk.out]; exact hJ3.out, hk3.out.tab TT (hRt _), fun j a1 a2 a3 => ?_, hk3.out.blk BB q1, ?_, hk3.out.wl VW q3⟩⟩
          · rcases hk3.out.new j a3 with h | h
            · exact hd j a1 a2 h
            · have : wr.heap.size ≤ j := h
              omega
          · obtain ⟨cs, hb, hc⟩ := SS
            exact ⟨cs, hk3.out.blk hb q2, hc⟩
        case measure => simp [intOf]; omega
      · have hJx3 := Lib.hid hJx3
        gi_wp2
        refine bodyPost_ret (results_none rfl _ _ _) rfl ?_
        exact ⟨⟨_, rfl⟩, .inr ⟨_, ⟨m + 1, by omega, htk.out.symm⟩, hJx3.out⟩⟩
    · obtain rfl : m = l.length := by omega
      have JJ := Lib.hid JJ
      clear TT RR BB SS VW
      gi_wp2
      go_end0
      refine ⟨⟨_, rfl⟩, .inl ⟨_, rfl, ?_⟩⟩
      have := JJ.out
      rwa [List.take_of_length_le (by simp [pairsS])] at this
end Go.Proofs.YtkjeobcfaolcaaaDoor
/- The calls of a table of string that is not there, or zero, by contract. -/
namespace Go.Proofs.YtkjeobcfaolcaaaDoor
open Go.RowKit
set_option maxHeartbeats 4000000
set_option linter.unusedVariables false
set_option linter.unusedSimpArgs false

/-- not there, or zero -/
def NzS (w : World) (p : Option Addr) : Prop := p = none ∨ ∃ t, p = some ⟨t, 0, none⟩ ∧ Blk w t 77 #[.slice none 0 0, .slice none 0 0]
theorem NzS.alloc {w : World} {p : Option Addr} (h : NzS w p) (o : Obj) : NzS (w.alloc o) p := h.imp id fun ⟨t, e, b⟩ => ⟨t, e, b.alloc o⟩
theorem nilmadeS_b {p : Option Addr} {w : World} (h : NzS w p) :
    Calls Tryd.prog 47 #[.pointer p] w fun e w' => e = .returned (.bool false) ∧ w = w' := by
  rcases h with rfl | ⟨t, rfl, ht⟩
  · go_enter Tryd.func47, Tryd.ntmps47
    go_wp2
    go_ret
    exact ⟨rfl, rfl⟩
  · have d0 : w.cell? ⟨t, 0, none⟩ = some (.slice none 0 0) := by rw [Blk.cell ht]; rfl
    clear ht
    go_enter Tryd.func47, Tryd.ntmps47
    go_wp2
    go_ret
    exact ⟨rfl, rfl⟩
theorem nilGetS_b {p : Option Addr} {key : Int} {w : World} (h : NzS w p) :
    Calls Tryd.prog 53 #[.pointer p, .int .u64 key] w fun e w' => e = .returned (.tuple #[.string ⟨#[]⟩, .bool false]) ∧ w = w' := by
  have M := Lib.hid (nilmadeS_b h)
  clear h
  go_enter Tryd.func53, Tryd.ntmps53
  go_wp2_with fail
  refine M.out.mono ?_
  rintro _ w2 ⟨rfl, rfl⟩
  go_wp2
  go_ret2
  exact ⟨rfl, rfl⟩
theorem nilTakeS_b {p : Option Addr} {key : Int} {w : World} (h : NzS w p) :
    Calls Tryd.prog 19 #[.pointer p, .int .u64 key] w fun e w' => e = .returned (.tuple #[.string ⟨#[]⟩, .bool false]) ∧ w = w' := by
  have M := Lib.hid (nilGetS_b (key := key) h)
  clear h
  go_enter Tryd.func19, Tryd.ntmps19
  go_wp2_with fail
  refine M.out.mono ?_
  rintro _ w2 ⟨rfl, rfl⟩
  go_wp2
  go_ret2
  exact ⟨rfl, rfl⟩
theorem nilLenS_b {p : Option Addr} {w : World} (h : NzS w p) :
    Calls Tryd.prog 25 #[.pointer p] w fun e w' => e = .returned (.int .i64 0) ∧ w = w' := by
  have M := Lib.hid (nilmadeS_b h)
  clear h
  go_enter Tryd.func25, Tryd.ntmps25
  go_wp2_with fail
  refine M.out.mono ?_
  rintro _ w2 ⟨rfl, rfl⟩
  go_wp2
  go_ret
  exact ⟨rfl, rfl⟩
theorem nilSlotsS_b {p : Option Addr} {w : World} (h : NzS w p) :
    Calls Tryd.prog 24 #[.pointer p] w fun e w' => e = .returned (.int .i64 0) ∧ w = w' := by
  have M := Lib.hid (nilmadeS_b h)
  clear h
  go_enter Tryd.func24, Tryd.ntmps24
  go_wp2_with fail
  refine M.out.mono ?_
  rintro _ w2 ⟨rfl, rfl⟩
  go_wp2
  go_ret
  exact ⟨rfl, rfl⟩
theorem nilAskedS_b {p : Option Addr} {key : Int} {w : World} (h : NzS w p) :
    Calls Tryd.prog 22 #[.pointer p, .int .u64 key] w fun e w' => e = .returned (.int .i64 0) ∧ w = w' := by
  have M := Lib.hid (nilmadeS_b h)
  clear h
  go_enter Tryd.func22, Tryd.ntmps22
  go_wp2_with fail
  refine M.out.mono ?_
  rintro _ w2 ⟨rfl, rfl⟩
  go_wp2
  go_ret
  exact ⟨rfl, rfl⟩
theorem nilKeysS_b {p : Option Addr} {w : World} (h : NzS w p) :
    Calls Tryd.prog 28 #[.pointer p] w fun e w' => e = .returned (.slice none 0 0) ∧ w = w' := by
  have M := Lib.hid (nilmadeS_b h)
  clear h
  go_enter Tryd.func28, Tryd.ntmps28
  go_wp2_with fail
  refine M.out.mono ?_
  rintro _ w2 ⟨rfl, rfl⟩
  go_wp2
  go_ret
  exact ⟨rfl, rfl⟩
theorem nilCopyS_b {p : Option Addr} {w : World} (h : NzS w p) :
    Calls Tryd.prog 49 #[.pointer p] w fun e w' => e = .returned (.pointer none) ∧ w = w' := by
  have M := Lib.hid (nilmadeS_b h)
  clear h
  go_enter Tryd.func49, Tryd.ntmps49
  go_wp2_with fail
  refine M.out.mono ?_
  rintro _ w2 ⟨rfl, rfl⟩
  go_wp2
  go_ret
  exact ⟨rfl, rfl⟩
theorem nilPutS_b {p : Option Addr} {key : Int} {v : ByteArray} {w : World} (h : NzS w p) :
    Calls Tryd.prog 16 #[.pointer p, .int .u64 key, .string v] w fun e w' => e = .returned (.tuple #[.string ⟨#[]⟩, .bool false, .int .i64 1]) ∧ w' = w.alloc (.cells #[.pointer p] 34) := by
  have M := Lib.hid (nilmadeS_b (h.alloc (.cells #[.pointer p] 34)))
  have p0 := (Blk.new w 34 #[.pointer p]).cell 0
  have p0 : (w.alloc (.cells #[.pointer p] 34)).cell? ⟨w.heap.size, 0, none⟩ = some (.pointer p) := p0
  clear h
  go_enter Tryd.func16, Tryd.ntmps16
  go_wp2_with fail
  refine M.out.mono ?_
  rintro _ w2 ⟨rfl, rfl⟩
  go_wp2
  go_ret3
  exact ⟨rfl, rfl⟩
theorem allS_b {p : Option Addr} {w : World} :
    Calls Tryd.prog 50 #[.pointer p] w fun e w' => e = .returned (.func (.func 78) #[] #[.pointer (some ⟨w.heap.size, 0, none⟩)]) ∧ w' = w.alloc (.cells #[.pointer p] 34) := by
  go_enter Tryd.func50, Tryd.ntmps50
  go_wp2
  go_ret
  exact ⟨rfl, rfl⟩
end Go.Proofs.YtkjeobcfaolcaaaDoor
