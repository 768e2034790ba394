/- All, by contract (a table of int). -/
import Derived.Test.YtkjeobcfaolcaaaDoorIxQI
import Derived.Test.YtkjeobcfaolcaaaDoorIxRK
import Derived.Test.YtkjeobcfaolcaaaDoorIxT1
namespace Go.Proofs.YtkjeobcfaolcaaaDoor
open Go.RowKit Go.Shelf
set_option maxHeartbeats 4000000
set_option linter.unusedVariables false
set_option linter.unusedSimpArgs false
attribute [local go_sem] Oper.semAt_some

def pairsI (k : Nat) (U : Nat → Bool) (K : Nat → Int) (X : Nat → Int) (l : List Int) : List (Int × Int) := l.map fun key => (key, X (slotOf U K (2 ^ k) (hmk k key) key))
def encI (x : Int × Int) : Array Value := #[.int .u64 x.1, .int .i64 x.2]
theorem pairsI_take {k : Nat} {U : Nat → Bool} {K : Nat → Int} {X : Nat → Int} {l : List Int} {i : Nat} (hi : i < l.length) :
    (pairsI k U K X l).take (i + 1) = (pairsI k U K X l).take i ++ [(l[i], X (slotOf U K (2 ^ k) (hmk k l[i]) l[i]))] := by
  rw [List.take_add_one]
  congr 1
  simp [pairsI, hi]
set_option maxRecDepth 100000 in
theorem allI_seq {t b g k cz n : Nat} {U : Nat → Bool} {K : Nat → Int} {X : Nat → Int} {A : Option Addr} {cp : Nat} {l : List Int} {w : World} (hb : Blk w b 32 #[.pointer (some ⟨t, 0, none⟩)])
    (ht : Blk w t 73 #[.slice (some ⟨g, 0, none⟩) (2 ^ k : Nat) cz, .slice A l.length cp]) (hS : SltI w g (2 ^ k) U K (fun i => .int .i64 (X i))) (hv : Wl w (.slice A l.length cp) l) (hT : Tab w)
    (hI : TInv (2 ^ k) (hmk k) U K l) (h1 : 1 ≤ k) (h2 : k ≤ 62) (hlen : 2 ^ k * 24 ≤ 140737488355328) (hl8 : l.length * 8 ≤ 140737488355328)
    (R : World → Nat → Prop) (hR0 : ∀ W, Below w.heap.size w W → ∀ j, R W j → j < W.heap.size) (hRs : ∀ W W' F, w.heap.size ≤ W.heap.size → Fr (fun _ => False) W F W' → ∀ j, R W' j → R W j) (hRt : ∀ W, ¬ R W 1) :
    SeqStopsK Fence.wide n Tryd.prog 76 #[.pointer (some ⟨b, 0, none⟩)] encI (KpR R) (fun xs => xs = pairsI k U K X l) (fun pre => ∃ m, m ≤ l.length ∧ pre = (pairsI k U K X l).take m) l.length w := fun y J Jx W hW hJ hJx hY h0 => by
  have d0 : W.cell? ⟨b, 0, none⟩ = some (.pointer (some ⟨t, 0, none⟩)) := (hb.below hW hb.lt).cell 0
  have hS' : SltI W g (2 ^ k) U K (fun i => .int .i64 (X i)) := by obtain ⟨cs, hc, hh⟩ := hS; exact ⟨cs, hc.below hW hc.lt, hh⟩
  have C1 := Lib.hid (copyI_b (ht.below hW ht.lt) hS' (hv.keep fun j hj => hW.block j (hv.lt j hj)) (fun i _ => rfl) (Nat.two_pow_pos k) hlen hl8)
  have hT0 := Lib.hid (hT.keep (hW.block 1 hT.lt))
  have hI := Lib.hid hI
  have hR1 := Lib.hid (hR0 W hW)
  have hRs := Lib.hid hRs
  have hWs := hW.size
  have h0 := Lib.hid h0
  have hY := Lib.hid hY
  have hJ := Lib.hid hJ
  have hnb : l.length < 9223372036854775808 := by omega
  clear hb ht hS hv hT hW hS' hR0 hJx
  refine callsIn_of_wp Tryd.func76 rfl trivial ?_ rfl
  simp only [Tryd.ntmps76, List.size_toArray, List.length_cons, List.length_nil, Nat.reduceAdd, Nat.reduceSub, Array.replicate_succ, Array.replicate_zero, List.push_toArray, List.append_toArray, List.nil_append, List.cons_append]
  gi_wp2_with fail
  refine ⟨trivial, fun h => (by cases h), (callsIn_wide.2 C1.out).mono ?_⟩
  rintro _ w1 ⟨t1, g1, z1, A1, c1, rfl, b1, s1, v1, m1⟩
  have hlen1 := m1.size
  have ht1 : W.heap.size ≤ t1 := (m1.new t1 (.inl rfl)).elim (fun h => h.elim) id
  have hg1 : W.heap.size ≤ g1 := (m1.new g1 (.inr (.inl rfl))).elim (fun h => h.elim) id
  have J1 := Lib.hid (m1.abides hJ.out h0.out)
  have T1 := Lib.hid (hT0.out.keep (m1.block 1 hT0.out.lt fun h => h))
  have R1 : Hid (∀ j, R w1 j → j < W.heap.size) := Lib.hid fun j hj => hR1.out j (hRs.out W w1 _ hWs m1 j hj)
  have B1 := Lib.hid b1
  have S1 := Lib.hid s1
  have V1 := Lib.hid v1
  clear b1 s1 v1 m1 C1 hR1 hT0 h0 d0
  have C2 := Lib.hid (keysI_b B1.out V1.out hl8)
  gi_wp2_with fail
  refine ⟨trivial, fun h => (by cases h), (callsIn_wide.2 C2.out).mono ?_⟩
  rintro _ w2 ⟨A2, c2, rfl, v2, m2⟩
  have ho2 : Hid (∀ j, own (.slice A2 l.length c2) j → W.heap.size ≤ j) := Lib.hid fun j hj => (m2.new j hj).elim (fun h => h.elim) fun h => by omega
  have J2 := Lib.hid (m2.abides hJ.out J1.out)
  have T2 := Lib.hid (T1.out.keep (m2.block 1 T1.out.lt fun h => h))
  have R2 : Hid (∀ j, R w2 j → j < W.heap.size) := Lib.hid fun j hj => R1.out j (hRs.out w1 w2 _ (by omega) m2 j hj)
  have B2 := Lib.hid (m2.blk B1.out fun h => h)
  have S2 := Lib.hid (S1.out.fr m2 fun h => h)
  have V2 := Lib.hid v2
  have hlen2 := m2.size
  clear v2 m2 C2 J1 T1 R1 B1 S1 V1
  gi_wp2
  gi_loopw [13] (fun i wr => ∃ m : Nat, m ≤ l.length ∧ i = .int .i64 m ∧ W.heap.size ≤ wr.heap.size ∧ w2.heap.size ≤ wr.heap.size ∧ Hid (J ((pairsI k U K X l).take m) wr ∧ Tab wr ∧ (∀ j, W.heap.size ≤ j → j < w2.heap.size → ¬ R wr j) ∧ Blk wr t1 73 #[.slice (some ⟨g1, 0, none⟩) (2 ^ k : Nat) z1, .slice A1 l.length c1] ∧ SltI wr g1 (2 ^ k) U K (fun i => .int .i64 (X i)) ∧ Wl wr (.slice A2 l.length c2) l))
    (fun i _ => l.length - (intOf i).toNat)
  case atStart => exact ⟨0, Nat.zero_le _, rfl, by omega, Nat.le_refl _, Lib.hid ⟨J2.out, T2.out, fun j h1 h2 h3 => by have := R2.out j h3; omega, B2.out, S2.out, V2.out⟩⟩
  case round =>
    obtain ⟨m, hm, rfl, hwr, hsw2, HH⟩ := hrel
    obtain ⟨JJ, TT, RR, BB, SS, VW⟩ := HH.out
    by_cases hlt : m < l.length
    · obtain ⟨ga, off, rfl, hc⟩ := VW.cell hlt
      have hcm := hc m hlt
      have htk := pairsI_take (k := k) (U := U) (K := K) (X := X) hlt
      obtain ⟨hl, hj, _, _, ho⟩ := hI.out.look (hmk_lt h1 h2) l[m]
      have C3 := Lib.hid (getI_b TT BB SS h1 h2 (Nat.le_trans (Nat.pow_le_pow_right (by omega) h2) (by decide)) hl hj)
      generalize hkey : l[m] = key at *
      generalize slotOf U K (2 ^ k) (hmk k key) key = j at *
      generalize hpre : (pairsI k U K X l).take m = pre at *
      have hpl : pre.length = m := by rw [← hpre]; simp [pairsI]; omega
      clear hl ho hc TT BB SS VW
      have htk := Lib.hid htk
      have hkey := Lib.hid hkey
      have hpre := Lib.hid hpre
      have JJ := Lib.hid JJ
      have RR := Lib.hid RR
      gi_wp2_with fail
      refine ⟨trivial, fun h => (by cases h), (callsIn_wide.2 C3.out).mono ?_⟩
      rintro _ w4 ⟨rfl, n4, rfl⟩
      have m4 : Fr (fun _ => False) wr (fun _ => False) (wr.drewN n4) := (Fr.refl _ _).drewN n4
      have J4 := m4.abides hJ.out JJ.out
      have R4 : Hid (∀ j, R (wr.drewN n4) j → R wr j) := Lib.hid fun j hj => hRs.out wr _ _ (by omega) m4 j hj
      obtain ⟨fn, tmps, assign, body, hy, hR⟩ := hY.out pre (key, X j) (wr.drewN n4) J4 (by omega)
      unfold encI at hy
      dsimp only at hy
      have m4 := Lib.hid m4
      have J4 := Lib.hid J4
      gi_wp2
      refine ⟨fun h => (by cases h), hR.mono ?_⟩
      rintro e W3 (⟨rfl, hJ3, hk3⟩ | ⟨rfl, hJx3⟩)
      · have hk3 := Lib.hid hk3
        have hJ3 := Lib.hid hJ3
        gi_wp2
        go_roundw
        case rel => 
          obtain ⟨_, TT, RR, BB, SS, VW⟩ := HH.out
          have hs3 := hk3.out.size
          have hs3 : wr.heap.size ≤ W3.heap.size := hs3
          have hd : ∀ j, W.heap.size ≤ j → j < w2.heap.size → ¬ R (wr.drewN n4) j := fun j a1 a2 a3 => RR j a1 a2 (R4.out j a3)
          have q1 : ¬ R (wr.drewN n4) t1 := hd t1 ht1 B2.out.lt
          have q2 : ¬ R (wr.drewN n4) g1 := hd g1 hg1 S2.out.lt
          have q3 : ∀ j, own (.slice (some ⟨ga, off, none⟩) l.length c2) j → ¬ R (wr.drewN n4) j := fun j hj => hd j (ho2.out j hj) (V2.out.lt j hj)
          refine ⟨m + 1, by omega, by simp, by omega, by omega, Lib.hid ⟨by rw [htk.out]; exact hJ3.out, hk3.out.tab TT (hRt _), fun j a1 a2 a3 => ?_, hk3.out.blk BB q1, ?_, hk3.out.wl VW q3⟩⟩
          · rcases hk3.out.new j a3 with h | h
            · exact hd j a1 a2 h
            · have : wr.heap.size ≤ j := h
              omega
          · obtain ⟨cs, hb, hc⟩ := SS
            exact ⟨cs, hk3.out.blk hb q2, hc⟩
        case measure => simp [intOf]; omega
      · have hJx3 := Lib.hid hJx3
        gi_wp2
        refine bodyPost_ret (results_none rfl _ _ _) rfl ?_
        exact ⟨⟨_, rfl⟩, .inr ⟨_, ⟨m + 1, by omega, htk.out.symm⟩, hJx3.out⟩⟩
    · obtain rfl : m = l.length := by omega
      have JJ := Lib.hid JJ
      clear TT RR BB SS VW
      gi_wp2
      go_end0
      refine ⟨⟨_, rfl⟩, .inl ⟨_, rfl, ?_⟩⟩
      have := JJ.out
      rwa [List.take_of_length_le (by simp [pairsI])] at this
end Go.Proofs.YtkjeobcfaolcaaaDoor
