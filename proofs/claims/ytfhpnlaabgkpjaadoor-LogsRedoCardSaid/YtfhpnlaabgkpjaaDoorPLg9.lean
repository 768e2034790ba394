/- All, by contract (a table of int). -/
import Derived.Test.YtfhpnlaabgkpjaaDoorPLg1
import Derived.Test.YtfhpnlaabgkpjaaDoorPLg2
import Derived.Test.YtfhpnlaabgkpjaaDoorPLg3
import Derived.Test.YtfhpnlaabgkpjaaDoorPLg7
import Derived.Test.YtfhpnlaabgkpjaaDoorPLg8
namespace Go.Proofs.YtfhpnlaabgkpjaaDoor
open Go.RowKit Go.Shelf
set_option maxHeartbeats 4000000
set_option linter.unusedVariables false
set_option linter.unusedSimpArgs false
attribute [local go_sem] Oper.semAt_some

def pairsI (k : Nat) (U : Nat → Bool) (K : Nat → Int) (X : Nat → Int) (l : List Int) : List (Int × Int) := l.map fun key => (key, X (slotOf U K (2 ^ k) (hmk k key) key))
def encI (x : Int × Int) : Array Value := #[.int .u64 x.1, .int .i64 x.2]
theorem pairsI_take {k : Nat} {U : Nat → Bool} {K : Nat → Int} {X : Nat → Int} {l : List Int} {i : Nat} (hi : i < l.length) :
    (pairsI k U K X l).take (i + 1) = (pairsI k U K X l).take i ++ [(l[i], X (slotOf U K (2 ^ k) (hmk k l[i]) l[i]))] := by
  rw [List.take_add_one]
  congr 1
  simp [pairsI, hi]
set_option maxRecDepth 100000 in
theorem allI_seq {t b g k cz n : Nat} {U : Nat → Bool} {K : Nat → Int} {X : Nat → Int} {A : Option Addr} {cp : Nat} {l : List Int} {w : World} (hb : Blk w b 67 #[.pointer (some ⟨t, 0, none⟩)])
    (ht : Blk w t 94 #[.slice (some ⟨g, 0, none⟩) (2 ^ k : Nat) cz, .slice A l.length cp]) (hS : SltI w g (2 ^ k) U K (fun i => .int .i64 (X i))) (hv : Wl w (.slice A l.length cp) l) (hT : Tab w)
    (hI : TInv (2 ^ k) (hmk k) U K l) (h1 : 1 ≤ k) (h2 : k ≤ 62) (hlen : 2 ^ k * 24 ≤ 140737488355328) (hl8 : l.length * 8 ≤ 140737488355328)
    (R : World → Nat → Prop) (hR0 : ∀ W, Below w.heap.size w W → ∀ j, R W j → j < W.heap.size) (hRs : ∀ W W' F, w.heap.size ≤ W.heap.size → Fr (fun _ => False) W F W' → ∀ j, R W' j → R W j) (hRt : ∀ W, ¬ R W 1) :
    SeqStopsK Fence.wide n Tryd.prog 62 #[.pointer (some ⟨b, 0, none⟩)] encI (KpR R) (fun xs => xs = pairsI k U K X l) (fun pre => ∃ m, m ≤ l.length ∧ pre = (pairsI k U K X l).take m) l.length w := fun y J Jx W hW hJ hJx hY h0 => by
  have d0 : W.cell? ⟨b, 0, none⟩ = some (.pointer (some ⟨t, 0, none⟩)) := (hb.below hW hb.lt).cell 0
  have hS' : SltI W g (2 ^ k) U K (fun i => .int .i64 (X i)) := by obtain ⟨cs, hc, hh⟩ := hS; exact ⟨cs, hc.below hW hc.lt, hh⟩
  have C1 := Lib.hid (copyI_b (ht.below hW ht.lt) hS' (hv.keep fun j hj => hW.block j (hv.lt j hj)) (fun i _ => rfl) (Nat.two_pow_pos k) hlen hl8)
  have hT0 := Lib.hid (hT.keep (hW.block 1 hT.lt))
  have hI := Lib.hid hI
  have hR1 := Lib.hid (hR0 W hW)
  have hRs := Lib.hid hRs
  have hWs := hW.size
  have h0 := Lib.hid h0
  have hY := Lib.hid hY
  have hJ := Lib.hid hJ
  have hnb : l.length < 9223372036854775808 := by omega
  clear hb ht hS hv hT hW hS' hR0 hJx
  refine callsIn_of_wp Tryd.func62 rfl trivial ?_ rfl
  simp only [Tryd.ntmps62, List.size_toArray, List.length_cons, List.length_nil, Nat.reduceAdd, Nat.reduceSub, Array.replicate_succ, Array.replicate_zero, List.push_toArray, List.append_toArray, List.nil_append, List.cons_append]
  gi_wp2_with fail
  refine ⟨trivial, fun h => (by cases h), (callsIn_wide.2 C1.out).mono ?_⟩
  rintro _ w1 ⟨t1, g1, z1, A1, c1, rfl, b1, s1, v1, m1⟩
  have hlen1 := m1.size
  have ht1 : W.heap.size ≤ t1 := (m1.new t1 (.inl rfl)).elim (fun h => h.elim) id
  have hg1 : W.heap.size ≤ g1 := (m1.new g1 (.inr (.inl rfl))).elim (fun h => h.elim) id
  have J1 := Lib.hid (m1.abides hJ.out h0.out)
  have T1 := Lib.hid (hT0.out.keep (m1.block 1 hT0.out.lt fun h => h))
  have R1 : Hid (∀ j, R w1 j → j < W.heap.size) := Lib.hid fun j hj => hR1.out j (hRs.out W w1 _ hWs m1 j hj)
  have B1 := Lib.hid b1
  have S1 := Lib.hid s1
  have V1 := Lib.hid v1
  clear b1 s1 v1 m1 C1 hR1 hT0 h0 d0
  have C2 := Lib.hid (keysI_b B1.out V1.out hl8)
  gi_wp2_with fail
  refine ⟨trivial, fun h => (by cases h), (callsIn_wide.2 C2.out).mono ?_⟩
  rintro _ w2 ⟨A2, c2, rfl, v2, m2⟩
  have ho2 : Hid (∀ j, own (.slice A2 l.length c2) j → W.heap.size ≤ j) := Lib.hid fun j hj => (m2.new j hj).elim (fun h => h.elim) fun h => by omega
  have J2 := Lib.hid (m2.abides hJ.out J1.out)
  have T2 := Lib.hid (T1.out.keep (m2.block 1 T1.out.lt fun h => h))
  have R2 : Hid (∀ j, R w2 j → j < W.heap.size) := Lib.hid fun j hj => R1.out j (hRs.out w1 w2 _ (by omega) m2 j hj)
  have B2 := Lib.hid (m2.blk B1.out fun h => h)
  have S2 := Lib.hid (S1.out.fr m2 fun h => h)
  have V2 := Lib.hid v2
  have hlen2 := m2.size
  clear v2 m2 C2 J1 T1 R1 B1 S1 V1
  gi_wp2
  gi_loopw [13] (fun i wr => ∃ m : Nat, m ≤ l.length ∧ i = .int .i64 m ∧ W.heap.size ≤ wr.heap.size ∧ w2.heap.size ≤ wr.heap.size ∧ Hid (J ((pairsI k U K X l).take m) wr ∧ Tab wr ∧ (∀ j, W.heap.size ≤ j → j < w2.heap.size → ¬ R wr j) ∧ Blk wr t1 94 #[.slice (some ⟨g1, 0, none⟩) (2 ^ k : Nat) z1, .slice A1 l.length c1] ∧ SltI wr g1 (2 ^ k) U K (fun i => .int .i64 (X i)) ∧ Wl wr (.slice A2 l.length c2) l))
    (fun i _ => l.length - (intOf i).toNat)
  case atStart => exact ⟨0, Nat.zero_le _, rfl, by omega, Nat.le_refl _, Lib.hid ⟨J2.out, T2.out, fun j h1 h2 h3 => by have := R2.out j h3; omega, B2.out, S2.out, V2.out⟩⟩
  case round =>
    obtain ⟨m, hm, rfl, hwr, hsw2, HH⟩ := hrel
    obtain ⟨JJ, TT, RR, BB, SS, VW⟩ := HH.out
    by_cases hlt : m < l.length
    · obtain ⟨ga, off, rfl, hc⟩ := VW.cell hlt
      have hcm := hc m hlt
      have htk := pairsI_take (k := k) (U := U) (K := K) (X := X) hlt
      obtain ⟨hl, hj, _, _, ho⟩ := hI.out.look (hmk_lt h1 h2) l[m]
      have C3 := Lib.hid (getI_b TT BB SS h1 h2 (Nat.le_trans (Nat.pow_le_pow_right (by omega) h2) (by decide)) hl hj)
      generalize hkey : l[m] = key at *
      generalize slotOf U K (2 ^ k) (hmk k key) key = j at *
      generalize hpre : (pairsI k U K X l).take m = pre at *
      have hpl : pre.length = m := by rw [← hpre]; simp [pairsI]; omega
      clear hl ho hc TT BB SS VW
      have htk := Lib.hid htk
      have hkey := Lib.hid hkey
      have hpre := Lib.hid hpre
      have JJ := Lib.hid JJ
      have RR := Lib.hid RR
      gi_wp2_with fail
      refine ⟨trivial, fun h => (by cases h), (callsIn_wide.2 C3.out).mono ?_⟩
      rintro _ w4 ⟨rfl, n4, rfl⟩
      have m4 : Fr (fun _ => False) wr (fun _ => False) (wr.drewN n4) := (Fr.refl _ _).drewN n4
      have J4 := m4.abides hJ.out JJ.out
      have R4 : Hid (∀ j, R (wr.drewN n4) j → R wr j) := Lib.hid fun j hj => hRs.out wr _ _ (by omega) m4 j hj
      obtain ⟨fn, tmps, assign, body, hy, hR⟩ := hY.out pre (key, X j) (wr.drewN n4) J4 (by omega)
      unfold encI at hy
      dsimp only at hy
      have m4 := Lib.hid m4
      have J4 := Lib.hid J4
      gi_wp2
      refine ⟨fun h => (by cases h), hR.mono ?_⟩
      rintro e W3 (⟨rfl, hJ3, hk3⟩ | ⟨rfl, hJx3⟩)
      · have hk3 := Lib.hid hk3
        have hJ3 := Lib.hid hJ3
        gi_wp2
        go_roundw
        case rel => 
          obtain ⟨_, TT, RR, BB, SS, VW⟩ := HH.out
          have hs3 := hk3.out.size
          have hs3 : wr.heap.size ≤ W3.heap.size := hs3
          have hd : ∀ j, W.heap.size ≤ j → j < w2.heap.size → ¬ R (wr.drewN n4) j := fun j a1 a2 a3 => RR j a1 a2 (R4.out j a3)
          have q1 : ¬ R (wr.drewN n4) t1 := hd t1 ht1 B2.out.lt
          have q2 : ¬ R (wr.drewN n4) g1 := hd g1 hg1 S2.out.lt
          have q3 : ∀ j, own (.slice (some ⟨ga, off, none⟩) l.length c2) j → ¬ R (wr.drewN n4) j := fun j hj => hd j (ho2.out j hj) (V2.out.lt j hj)
          refine ⟨m + 1, by omega, by simp, by omega, by omega, Lib.hid ⟨by rw [htk.out]; exact hJ3.out, hk3.out.tab TT (hRt _), fun j a1 a2 a3 => ?_, hk3.out.blk BB q1, ?_, hk3.out.wl VW q3⟩⟩
          · rcases hk3.out.new j a3 with h | h
            · exact hd j a1 a2 h
            · have : wr.heap.size ≤ j := h
              omega
          · obtain ⟨cs, hb, hc⟩ := SS
            exact ⟨cs, hk3.out.blk hb q2, hc⟩
        case measure => simp [intOf]; omega
      · have hJx3 := Lib.hid hJx3
        gi_wp2
        refine bodyPost_ret (results_none rfl _ _ _) rfl ?_
        exact ⟨⟨_, rfl⟩, .inr ⟨_, ⟨m + 1, by omega, htk.out.symm⟩, hJx3.out⟩⟩
    · obtain rfl : m = l.length := by omega
      have JJ := Lib.hid JJ
      clear TT RR BB SS VW
      gi_wp2
      go_end0
      refine ⟨⟨_, rfl⟩, .inl ⟨_, rfl, ?_⟩⟩
      have := JJ.out
      rwa [List.take_of_length_le (by simp [pairsI])] at this
end Go.Proofs.YtfhpnlaabgkpjaaDoor
/- The calls of a table of int that is not there, or zero, by contract. -/
namespace Go.Proofs.YtfhpnlaabgkpjaaDoor
open Go.RowKit
set_option maxHeartbeats 4000000
set_option linter.unusedVariables false
set_option linter.unusedSimpArgs false

/-- not there, or zero -/
def NzI (w : World) (p : Option Addr) : Prop := p = none ∨ ∃ t, p = some ⟨t, 0, none⟩ ∧ Blk w t 94 #[.slice none 0 0, .slice none 0 0]
theorem NzI.alloc {w : World} {p : Option Addr} (h : NzI w p) (o : Obj) : NzI (w.alloc o) p := h.imp id fun ⟨t, e, b⟩ => ⟨t, e, b.alloc o⟩
theorem nilmadeI_b {p : Option Addr} {w : World} (h : NzI w p) :
    Calls Tryd.prog 53 #[.pointer p] w fun e w' => e = .returned (.bool false) ∧ w = w' := by
  rcases h with rfl | ⟨t, rfl, ht⟩
  · go_enter Tryd.func53, Tryd.ntmps53
    go_wp2
    go_ret
    exact ⟨rfl, rfl⟩
  · have d0 : w.cell? ⟨t, 0, none⟩ = some (.slice none 0 0) := by rw [Blk.cell ht]; rfl
    clear ht
    go_enter Tryd.func53, Tryd.ntmps53
    go_wp2
    go_ret
    exact ⟨rfl, rfl⟩
theorem nilGetI_b {p : Option Addr} {key : Int} {w : World} (h : NzI w p) :
    Calls Tryd.prog 45 #[.pointer p, .int .u64 key] w fun e w' => e = .returned (.tuple #[.int .i64 0, .bool false]) ∧ w = w' := by
  have M := Lib.hid (nilmadeI_b h)
  clear h
  go_enter Tryd.func45, Tryd.ntmps45
  go_wp2_with fail
  refine M.out.mono ?_
  rintro _ w2 ⟨rfl, rfl⟩
  go_wp2
  go_ret2
  exact ⟨rfl, rfl⟩
theorem nilTakeI_b {p : Option Addr} {key : Int} {w : World} (h : NzI w p) :
    Calls Tryd.prog 47 #[.pointer p, .int .u64 key] w fun e w' => e = .returned (.tuple #[.int .i64 0, .bool false]) ∧ w = w' := by
  have M := Lib.hid (nilGetI_b (key := key) h)
  clear h
  go_enter Tryd.func47, Tryd.ntmps47
  go_wp2_with fail
  refine M.out.mono ?_
  rintro _ w2 ⟨rfl, rfl⟩
  go_wp2
  go_ret2
  exact ⟨rfl, rfl⟩
theorem nilKeysI_b {p : Option Addr} {w : World} (h : NzI w p) :
    Calls Tryd.prog 63 #[.pointer p] w fun e w' => e = .returned (.slice none 0 0) ∧ w = w' := by
  have M := Lib.hid (nilmadeI_b h)
  clear h
  go_enter Tryd.func63, Tryd.ntmps63
  go_wp2_with fail
  refine M.out.mono ?_
  rintro _ w2 ⟨rfl, rfl⟩
  go_wp2
  go_ret
  exact ⟨rfl, rfl⟩
theorem nilCopyI_b {p : Option Addr} {w : World} (h : NzI w p) :
    Calls Tryd.prog 55 #[.pointer p] w fun e w' => e = .returned (.pointer none) ∧ w = w' := by
  have M := Lib.hid (nilmadeI_b h)
  clear h
  go_enter Tryd.func55, Tryd.ntmps55
  go_wp2_with fail
  refine M.out.mono ?_
  rintro _ w2 ⟨rfl, rfl⟩
  go_wp2
  go_ret
  exact ⟨rfl, rfl⟩
theorem nilPutI_b {p : Option Addr} {key : Int} {v : Int} {w : World} (h : NzI w p) :
    Calls Tryd.prog 46 #[.pointer p, .int .u64 key, .int .i64 v] w fun e w' => e = .returned (.tuple #[.int .i64 0, .bool false, .int .i64 1]) ∧ w' = w.alloc (.cells #[.pointer p] 67) := by
  have M := Lib.hid (nilmadeI_b (h.alloc (.cells #[.pointer p] 67)))
  have p0 := (Blk.new w 67 #[.pointer p]).cell 0
  have p0 : (w.alloc (.cells #[.pointer p] 67)).cell? ⟨w.heap.size, 0, none⟩ = some (.pointer p) := p0
  clear h
  go_enter Tryd.func46, Tryd.ntmps46
  go_wp2_with fail
  refine M.out.mono ?_
  rintro _ w2 ⟨rfl, rfl⟩
  go_wp2
  go_ret3
  exact ⟨rfl, rfl⟩
theorem allI_b {p : Option Addr} {w : World} :
    Calls Tryd.prog 56 #[.pointer p] w fun e w' => e = .returned (.func (.func 62) #[] #[.pointer (some ⟨w.heap.size, 0, none⟩)]) ∧ w' = w.alloc (.cells #[.pointer p] 67) := by
  go_enter Tryd.func56, Tryd.ntmps56
  go_wp2
  go_ret
  exact ⟨rfl, rfl⟩
end Go.Proofs.YtfhpnlaabgkpjaaDoor
/- Put of a new key, with growing, by contract (a table of int). -/
namespace Go.Proofs.YtfhpnlaabgkpjaaDoor
open Go.RowKit Go.Shelf
set_option maxHeartbeats 8000000
set_option linter.unusedVariables false
set_option linter.unusedSimpArgs false
attribute [local go_sem] Oper.semAt_some encI

/-- a table in memory -/
def HolI (w : World) (g sl : Nat) (s : St Int) : Prop := SltI w g sl s.U s.K (fun i => Value.int .i64 (s.X i))
theorem HolI.own {w w' : World} {row : Option Nat} {B g sl : Nat} {s : St Int} (h : HolI w g sl s) (hg : w.grownBy w' row) (hr : ∀ r, row = some r → B ≤ r ∧ ∃ o : Obj, w.heap[r]? = some o ∧ o.isCells = false) : HolI w' g sl s := by
  obtain ⟨cs, hb, hc⟩ := h
  exact ⟨cs, hb.ownFrom hg hr, hc⟩
theorem updI (s : St Int) (j : Nat) (y : Int) : (fun i => if i = j then Value.int .i64 y else Value.int .i64 (s.X i)) = fun i => Value.int .i64 (if i = j then y else s.X i) := by
  funext i
  split <;> rfl
theorem HolI.set {w : World} {g sl : Nat} {s : St Int} (h : HolI w g sl s) {j : Nat} (hj : j < sl) (key : Int) (x : Int) (n : Nat) :
    HolI ((((w.drewN n).setCell ⟨g, j * 3, none⟩ (.bool true)).setCell ⟨g, j * 3 + 1, none⟩ (.int .u64 key)).setCell ⟨g, j * 3 + 2, none⟩ (Value.int .i64 x)) g sl (s.set j key x) := by
  have := SltI.put h hj key (Value.int .i64 x) (n := n)
  rw [updI] at this
  exact this
theorem HolI.set0 {w : World} {g sl : Nat} {s : St Int} (h : HolI w g sl s) {j : Nat} (hj : j < sl) (key : Int) (x : Int) :
    HolI (((w.setCell ⟨g, j * 3, none⟩ (.bool true)).setCell ⟨g, j * 3 + 1, none⟩ (.int .u64 key)).setCell ⟨g, j * 3 + 2, none⟩ (Value.int .i64 x)) g sl (s.set j key x) := h.set hj key x 0
/-- 'make([]slot[V], n)' -/
theorem Tab.drewNI {w : World} (h : Tab w) (n : Nat) : Tab (w.drewN n) := h
theorem Tab.neI {w : World} {t : Nat} {ty : TypeId} {a : Option Addr} {n c : Nat} {c1 : Value} (hT : Tab w) (hb : Blk w t ty #[.slice a n c, c1]) : 1 ≠ t := by
  rintro rfl
  have h1 := hT 0 (by decide)
  rw [hb.cell 0] at h1
  simp at h1
theorem Wl.shutI {W : World} {D : Nat} {o : Obj} {c : Option (List Deferred)} {v : Value} {l : List Int} (h : Wl W v l) (hK : W.heap[D]? = some (.deferred c)) : Wl (W.putObj D o) v l :=
  h.keep fun k hk => World.putObj_heap_other (by
    rintro rfl
    rcases h.2 with ⟨h1, _⟩ | ⟨gg, off, cap, cur, h1, h2, h3, _⟩
    · rw [h1] at hk; simp [own, Value.ownBlock] at hk
    · have e : gg = k := by simpa [own, h1, Value.ownBlock] using hk
      subst e
      rw [h3] at hK
      cases hK)
theorem zerosI {w : World} {B g n : Nat} (h : w.ownsRow B 98 3 (.slice (some ⟨g, 0, none⟩) n n) n (madeCells (Value.agg #[.bool false, .int .u64 0, Value.int .i64 0]).cells (n * 3)).toList) (h0 : 0 < n) : HolI w g n (St.zero 0) := by
  obtain ⟨g', cap, cur, e, _, hh, hsz, htk⟩ := ownsRow_made h h0
  simp at e
  obtain ⟨rfl, _⟩ := e
  refine ⟨cur, hh, fun i hi => ?_⟩
  have e : ∀ j, j < n * 3 → cur[j]? = some (#[Value.bool false, .int .u64 0, Value.int .i64 0][j % 3]!) := fun j hj => by
    have h1 := congrArg (fun l => l[j]?) htk
    simp only [List.getElem?_take, if_pos hj, Array.getElem?_toList] at h1
    rw [h1]
    simp [madeCells, Value.cells, hj]
  refine ⟨(e _ (by omega)).trans ?_, (e _ (by omega)).trans ?_, (e _ (by omega)).trans ?_⟩
  · rw [show i * 3 % 3 = 0 by omega]; rfl
  · rw [show (i * 3 + 1) % 3 = 1 by omega]; rfl
  · rw [show (i * 3 + 2) % 3 = 2 by omega]; rfl
set_option maxRecDepth 100000 in
theorem putI_grow {t g k cz : Nat} {key : Int} {s : St Int} {A : Option Addr} {cp : Nat} {l : List Int} {w : World} {y : Int} (hT : Tab w) (ht : Blk w t 94 #[.slice (some ⟨g, 0, none⟩) (2 ^ k : Nat) cz, .slice A l.length cp])
    (hS : HolI w g (2 ^ k) s) (hv : Wl w (.slice A l.length cp) l) (hI : s.Inv k l) (h1 : 1 ≤ k) (h2 : k ≤ 41) (hk : key ∉ l)
    (hroom : 3 * 2 ^ k < 4 * (l.length + 1)) (hroom' : 4 * (l.length + 1) ≤ 3 * 2 ^ (k + 1)) (hlen : (l.length + 1) * 8 ≤ 140737488355328) (hby : 2 ^ k * 24 ≤ 140737488355328) :
    Calls Tryd.prog 46 #[.pointer (some ⟨t, 0, none⟩), .int .u64 key, Value.int .i64 y] w fun e w' => e = .returned (.tuple #[Value.int .i64 0, .bool false, .int .i64 0]) ∧
      ∃ g' A' cp', Blk w' t 94 #[.slice (some ⟨g', 0, none⟩) (2 ^ (k + 1) : Nat) (2 ^ (k + 1)), .slice A' (l.length + 1) cp'] ∧ HolI w' g' (2 ^ (k + 1)) ((s.grown k 0 l).put (k + 1) key y) ∧
        Wl w' (.slice A' (l.length + 1) cp') (l ++ [key]) ∧ Fr (fun b => b = t ∨ b = g ∨ own (.slice A l.length cp) b) w (fun b => b = t ∨ b = g' ∨ own (.slice A' (l.length + 1) cp') b) w' := by
  have hsq : (2 : Nat) ^ k ≤ 2 ^ 41 := Nat.pow_le_pow_right (by omega) h2
  have hsq1 : (2 : Nat) ^ (k + 1) = 2 * 2 ^ k := by rw [Nat.pow_succ]; omega
  have hIg := Lib.hid (St.grown_inv hI 0 (by omega))
  obtain ⟨hl0, hj0, _, _, hio⟩ := TInv.look hI (hmk_lt h1 (by omega)) key
  have hu0 : s.U (s.slot k key) = false := by
    rcases hio with ⟨h, _⟩ | ⟨_, h, _⟩
    · exact (hk h).elim
    · exact h
  obtain ⟨hl9, hj9, _, _, _⟩ := TInv.look hIg.out (hmk_lt (by omega) (by omega)) key
  have hu9 : (s.grown k 0 l).U ((s.grown k 0 l).slot (k + 1) key) = false := by
    obtain ⟨_, _, _, _, (⟨h, _⟩ | ⟨_, h, _⟩)⟩ := TInv.look hIg.out (hmk_lt (by omega) (by omega)) key
    · exact (hk h).elim
    · exact h
  have hl0 : lgo s.U s.K key (2 ^ k) (2 ^ k) (homeOf key k).toNat 1 = some (s.slot k key, s.asked k key) := hl0
  have hl9 : lgo (s.grown k 0 l).U (s.grown k 0 l).K key (2 ^ (k + 1)) (2 ^ (k + 1)) (homeOf key (k + 1)).toNat 1 = some ((s.grown k 0 l).slot (k + 1) key, (s.grown k 0 l).asked (k + 1) key) := hl9
  have hj0 : s.slot k key < 2 ^ k := hj0
  have hj9 : (s.grown k 0 l).slot (k + 1) key < 2 ^ (k + 1) := hj9
  have hput : (s.grown k 0 l).put (k + 1) key y = (s.grown k 0 l).set ((s.grown k 0 l).slot (k + 1) key) key y := rfl
  rw [hput]
  have hst : s.grown k 0 l = St.fill (k + 1) 0 (s.pairs k l) := rfl
  obtain ⟨w1, hw1⟩ : ∃ u, Hid (u = w.alloc (.cells #[.pointer (some ⟨t, 0, none⟩)] 67)) := ⟨_, Lib.hid rfl⟩
  have S1 : Hid (HolI w1 g (2 ^ k) s) := Lib.hid (by rw [hw1.out]; exact SltI.alloc hS _)
  have B1 : Hid (Blk w1 t 94 #[.slice (some ⟨g, 0, none⟩) (2 ^ k : Nat) cz, .slice A l.length cp]) := Lib.hid (by rw [hw1.out]; exact ht.alloc _)
  have V1 : Hid (Wl w1 (.slice A l.length cp) l) := Lib.hid (by rw [hw1.out]; exact hv.alloc _)
  have P1 : Hid (Blk w1 w.heap.size 67 #[.pointer (some ⟨t, 0, none⟩)]) := Lib.hid (by rw [hw1.out]; exact Blk.new _ _ _)
  have T1 : Hid (Tab w1) := Lib.hid (by rw [hw1.out]; exact hT.alloc _)
  have M1 : Hid (Fr (fun b => b = t ∨ b = g ∨ own (.slice A l.length cp) b) w (fun b => b = t ∨ b = g ∨ own (.slice A l.length cp) b) w1) := Lib.hid (by rw [hw1.out]; exact (Fr.refl _ w).alloc _)
  have hpt : w.heap.size ≠ t := by have := Blk.lt ht; omega
  have hpg : w.heap.size ≠ g := by have := SltI.lt hS; omega
  have hpv : ¬ own (.slice A l.length cp) w.heap.size := fun e => by have := hv.lt _ e; omega
  have hgt : t ≠ g := by obtain ⟨cs, hb, _⟩ := hS; exact Blk.ne_ ht hb (by decide)
  have hvt : ¬ own (.slice A l.length cp) t := Rowv.ne_ hv ht (by decide)
  have htw := ht.lt
  have hvw := Lib.hid hv.lt
  have C := Lib.hid (lookI_b T1.out B1.out S1.out.at_ h1 (by omega) (Nat.le_trans hsq (by decide)) hl0)
  have d0 : w1.cell? ⟨t, 0, none⟩ = some (.slice (some ⟨g, 0, none⟩) (2 ^ k : Nat) cz) := B1.out.cell 0
  have d1 : w1.cell? ⟨t, 1, none⟩ = some (.slice A l.length cp) := B1.out.cell 1
  have p0 : w1.cell? ⟨w.heap.size, 0, none⟩ = some (.pointer (some ⟨t, 0, none⟩)) := P1.out.cell 0
  have hjl : decide (s.slot k key < 2 ^ k) = true := decide_eq_true hj0
  have M := Lib.hid (madeI_b (c1 := .slice A l.length cp) d0)
  have dU := (S1.out.at_ _ hj0).1
  rw [hu0] at dU
  have hI := Lib.hid hI
  have hT := Lib.hid hT
  have hm0 : Hid (∀ W, HolI W g (2 ^ k) s → HolI W g (2 ^ k) s) := Lib.hid fun _ h => h
  clear ht hS hv hl0 hu0 hio
  obtain ⟨sl, hsl⟩ : ∃ sl, Hid (sl = 2 ^ k) := ⟨_, Lib.hid rfl⟩
  rw [← hsl.out] at hsq hsq1 hj0 S1 B1 d0 hroom hby hjl hm0
  rw [hsq1]
  have hgr : decide (4 * ((l.length : Int) + 1) > 3 * (sl : Int)) = true := decide_eq_true (by omega)
  have hl1 : (l.length : Int) ≤ 17592186044416 := by omega
  have hl2 : (sl : Int) ≤ 2199023255552 := by omega
  generalize hjj : s.slot k key = j0 at *
  refine calls_marks Tryd.func46 rfl ?_
  simp only [Tryd.ntmps46, List.size_toArray, List.length_cons, List.length_nil, Nat.reduceAdd, Nat.reduceSub, Array.replicate_succ, Array.replicate_zero, List.push_toArray, List.append_toArray, List.nil_append, List.cons_append]
  go_wp2_with fail
  rw [← hw1.out]
  refine M.out.mono ?_
  rintro _ w2 ⟨rfl, rfl⟩
  go_wp2_with fail
  refine C.out.mono ?_
  rintro _ w2 ⟨rfl, rfl⟩
  go_wp2
  have q1 : IntKind.i64.wrap ((l.length : Int) + 1) = (l.length : Int) + 1 := IntWalk.i64_in _ (by omega)
  have q2 : IntKind.i64.wrap (4 * ((l.length : Int) + 1)) = 4 * ((l.length : Int) + 1) := IntWalk.i64_in _ (by omega)
  have q3 : IntKind.i64.wrap (3 * (sl : Int)) = 3 * (sl : Int) := IntWalk.i64_in _ (by omega)
  refine wp_region_mix (fun _ => True) [1, 3, 3, 1, 3, 3, 3, 1, 3, 3, 1, 3, 3, 3] (List.range 14) (by kernel_rfl) (by kernel_rfl) (fun _ _ h => h) trivial ?_
  repeat ((first | refine wpMix_pure rfl rfl (fun K hK => ?_) | refine wpMix_loc rfl rfl (fun K hK => ?_) | refine wpMix_any rfl rfl (fun K hK => ?_)); go_simp; refine hK _ _ ?_; clear hK K)
  refine wpMix_nil (fun n1 => ?_)
  clear dU M C
  have hcl := Lib.hid (copyI_b (B1.out.drewN (1 + n1)) (S1.out.drewN (1 + n1)) (V1.out.drewN (1 + n1)) (fun i _ => rfl) (by omega) hby (by omega))
  go_wp2_with fail
  refine hcl.out.mono ?_
  rintro _ w3 ⟨t3, g3, z3, A3, c3, rfl, b3, s3, v3, m3⟩
  have T3 := Lib.hid ((T1.out.drewNI (1 + n1)).keep (m3.block 1 (T1.out.drewNI (1 + n1)).lt fun h => h))
  have B3 := Lib.hid (m3.blk (B1.out.drewN (1 + n1)) fun h => h)
  have P3 := Lib.hid (m3.blk (P1.out.drewN (1 + n1)) fun h => h)
  have V3 := Lib.hid ((V1.out.drewN (1 + n1)).frs m3 fun _ _ h => h)
  have M3 := Lib.hid ((M1.out.drewN (1 + n1)).beside m3 fun k hk => hk.elim)
  have ht3 : w1.heap.size ≤ t3 := (m3.new t3 (.inl rfl)).elim (fun h => h.elim) id
  have hg3 : w1.heap.size ≤ g3 := (m3.new g3 (.inr (.inl rfl))).elim (fun h => h.elim) id
  have hv3 : Hid (∀ j, own (.slice A3 l.length c3) j → w1.heap.size ≤ j) := Lib.hid fun j hj => (m3.new j (.inr (.inr hj))).elim (fun h => h.elim) id
  have hs1 : w.heap.size + 1 = w1.heap.size := by rw [hw1.out]; exact (World.size_alloc ..).symm
  have Wb3 := Lib.hid b3
  have Ws3 : Hid (HolI w3 g3 sl s) := Lib.hid s3
  have Wv3 := Lib.hid v3
  have htk3 := V3.out.lt
  clear b3 s3 v3 m3 hcl T1 S1 B1 V1 P1 M1 hw1 d0 d1 p0
  have htk3 := Lib.hid htk3
  have p3 : w3.cell? ⟨w.heap.size, 0, none⟩ = some (.pointer (some ⟨t, 0, none⟩)) := P3.out.cell 0
  have d3 : w3.cell? ⟨t, 0, none⟩ = some (.slice (some ⟨g, 0, none⟩) sl cz) := B3.out.cell 0
  have q4 : IntKind.i64.wrap (2 * (sl : Int)) = 2 * (sl : Int) := IntWalk.i64_in _ (by omega)
  go_wp2_with fail
  refine wp_region_mix (fun W' => W'.cell? ⟨w.heap.size, 0, none⟩ = some (.pointer (some ⟨t, 0, none⟩))) [0, 1, 3, 3, 1, 3, 3, 2, 3, 3, 2] (List.range 11) (by kernel_rfl) (by kernel_rfl) (fun _ _ h => h) p3 ?_
  repeat (first | ((first | refine wpMix_pure rfl rfl (fun K hK => ?_) | refine wpMix_loc rfl rfl (fun K hK => ?_) | refine wpMix_any rfl rfl (fun K hK => ?_)); go_simp; refine hK _ _ ?_; clear hK K) | (refine wpMix_any rfl rfl (fun K hK => ?_); rw [if_pos (by go_simp)]; apply Exists.intro; refine And.intro (fun w2 hS2 => ?_) (hK _ _ ?_); (focus (obtain hsp := hS2; go_simp; rfl)); clear hK K))
  refine wpMix_loud rfl rfl (fun n2 K hK => ?_)
  obtain ⟨i0, hi, hz0, hz1, hz2⟩ := info_parts slot_infoI
  have hi := Lib.hid hi
  have hz0 := Lib.hid hz0
  have hz1 := Lib.hid hz1
  have hz2 := Lib.hid hz2
  refine wpList_make_full _ rfl (.tmp 70) (.tmp 70) 92 rfl 0 98 i0 _ 3 Tryd.underlying92 hi.out hz0.out hz1.out .i64 .i64 (2 * (sl : Int)) (2 * (sl : Int)) (2 * sl) rfl rfl (by simp) (by simp) (by rw [hz2.out]; omega) (by unfold maxLen; omega) (Nat.zero_le _) ?_
  intro w4 hown4 hgr4
  have hown4 : w4.ownsRow 0 98 3 (.slice (some ⟨w3.heap.size, 0, none⟩) (2 * sl) (2 * sl)) (2 * sl) (madeCells (Value.agg #[.bool false, .int .u64 0, Value.int .i64 0]).cells (2 * sl * 3)).toList := hown4
  have hgr4 : w3.grownBy w4 none := ⟨hgr4.os, hgr4.tape, hgr4.output, hgr4.size, hgr4.block⟩
  have m4 : Fr (fun _ => False) w3 (fun _ => False) w4 := (Fr.refl _ _).grown hgr4 fun k hk => by cases hk
  have S4 : Hid (HolI w4 w3.heap.size (2 * sl) (St.zero 0)) := Lib.hid (zerosI hown4 (by omega))
  have T4 := Lib.hid (T3.out.keep (m4.block 1 T3.out.lt fun h => h))
  have B4 := Lib.hid (m4.blk B3.out fun h => h)
  have P4 := Lib.hid (m4.blk P3.out fun h => h)
  have V4 := Lib.hid (V3.out.frs m4 fun _ _ h => h)
  have M4 := Lib.hid ((M3.out).beside m4 fun k hk => hk.elim)
  have Wb4 := Lib.hid (m4.blk Wb3.out fun h => h)
  have Ws4 : Hid (HolI w4 g3 sl s) := Lib.hid (SltI.fr Ws3.out m4 fun h => h)
  have Wv4 := Lib.hid (Wv3.out.frs m4 fun _ _ h => h)
  have hs4 := m4.size
  have p4 : w4.cell? ⟨w.heap.size, 0, none⟩ = some (.pointer (some ⟨t, 0, none⟩)) := P4.out.cell 0
  have d4 : w4.cell? ⟨t, 0, none⟩ = some (.slice (some ⟨g, 0, none⟩) sl cz) := B4.out.cell 0
  have z4 := B4.out.frozen 0
  have hlt3 : g3 < w3.heap.size := SltI.lt Ws3.out
  have htt3 := Wb3.out.lt
  have hvv3 := Lib.hid Wv3.out.lt
  have htw3 := B3.out.lt
  have hpw3 := P3.out.lt
  clear m4 hown4 hgr4 T3 B3 P3 V3 M3 Wb3 Ws3 Wv3 p3 d3 hi hz0 hz1 hz2
  refine hK _ _ (fun _ => p4) ?_; clear hK K
  repeat (first | ((first | refine wpMix_pure rfl rfl (fun K hK => ?_) | refine wpMix_loc rfl rfl (fun K hK => ?_) | refine wpMix_any rfl rfl (fun K hK => ?_)); go_simp; refine hK _ _ ?_; clear hK K) | (refine wpMix_any rfl rfl (fun K hK => ?_); rw [if_pos (by go_simp)]; apply Exists.intro; refine And.intro (fun w2 hS2 => ?_) (hK _ _ ?_); (focus (obtain hsp := hS2; go_simp; rfl)); clear hK K))
  refine wpMix_loud rfl rfl (fun n3 K hK => ?_)
  go_wp2
  refine hK _ _ (fun h => (Bool.false_ne_true ((Eq.symm (by kernel_rfl)).trans h)).elim) ?_; clear hK K
  refine wpMix_nil (fun n4 => ?_)
  have hT1 := Tab.neI T4.out B4.out
  obtain ⟨w5, hw5⟩ : ∃ u, Hid (u = (((w4.drewN n3).setCell ⟨t, 0, none⟩ (.slice (some ⟨w3.heap.size, 0, none⟩) (2 * sl) (2 * sl))).drewN n4)) := ⟨_, Lib.hid rfl⟩
  obtain ⟨w6, hw6⟩ : ∃ u, Hid (u = w5.alloc (.cells #[.pointer (some ⟨t3, 0, none⟩)] 67)) := ⟨_, Lib.hid rfl⟩
  have hs5 : w5.heap.size = w4.heap.size := by rw [hw5.out]; simp [World.setCell, World.drewN]
  have hbx : w3.heap.size < w5.heap.size := by have := SltI.lt S4.out; omega
  have B6 : Hid (Blk w6 t 94 #[.slice (some ⟨w3.heap.size, 0, none⟩) (2 * sl) (2 * sl), .slice A l.length cp]) := Lib.hid (by rw [hw6.out, hw5.out]; exact (((B4.out.drewN n3).set_ 0 _).drewN n4).alloc _)
  have S6 : Hid (HolI w6 w3.heap.size (2 * sl) (St.zero 0)) := Lib.hid (by rw [hw6.out, hw5.out]; obtain ⟨cs, hb, hc⟩ := S4.out; exact ⟨cs, (((hb.drewN n3).far (p := ⟨t, 0, none⟩) (by show w3.heap.size ≠ t; omega) _).drewN n4).alloc _, hc⟩)
  have P6 : Hid (Blk w6 w.heap.size 67 #[.pointer (some ⟨t, 0, none⟩)]) := Lib.hid (by rw [hw6.out, hw5.out]; exact (((P4.out.drewN n3).far (p := ⟨t, 0, none⟩) hpt _).drewN n4).alloc _)
  have V6 : Hid (Wl w6 (.slice A l.length cp) l) := Lib.hid (by rw [hw6.out, hw5.out]; exact (((V4.out.drewN n3).set (p := ⟨t, 0, none⟩) hvt _).drewN n4).alloc _)
  have T6 : Hid (Tab w6) := Lib.hid (T4.out.keep (by rw [hw6.out]; refine (Below.heap_alloc w5 _ 1 (by rw [hs5]; exact T4.out.lt)).trans ?_; rw [hw5.out]; exact Below.heap_setCell (w4.drewN n3) ⟨t, 0, none⟩ _ 1 hT1))
  have M6 : Hid (Fr (fun b => b = t ∨ b = g ∨ own (.slice A l.length cp) b) w (fun b => b = t ∨ b = w3.heap.size ∨ own (.slice A l.length cp) b) w6) := Lib.hid (by
    rw [hw6.out, hw5.out]
    refine ((((M4.out.drewN n3).set (p := ⟨t, 0, none⟩) (.inl (.inl rfl)) _).drewN n4).alloc _).into fun j hj => ?_
    rcases hj with h | h | h
    · exact .inl (.inl h)
    · exact .inr (.inr (by omega))
    · exact .inl (.inr (.inr h)))
  have Wb6 : Hid (Blk w6 t3 94 #[.slice (some ⟨g3, 0, none⟩) sl z3, .slice A3 l.length c3]) := Lib.hid (by rw [hw6.out, hw5.out]; exact (((Wb4.out.drewN n3).far (p := ⟨t, 0, none⟩) (by show t3 ≠ t; omega) _).drewN n4).alloc _)
  have Ws6 : Hid (HolI w6 g3 sl s) := Lib.hid (by rw [hw6.out, hw5.out]; obtain ⟨cs, hb, hc⟩ := Ws4.out; exact ⟨cs, (((hb.drewN n3).far (p := ⟨t, 0, none⟩) (by show g3 ≠ t; omega) _).drewN n4).alloc _, hc⟩)
  have Wv6 : Hid (Wl w6 (.slice A3 l.length c3) l) := Lib.hid (by rw [hw6.out, hw5.out]; exact (((Wv4.out.drewN n3).set (p := ⟨t, 0, none⟩) (fun h => by have : w1.heap.size ≤ t := hv3.out t h; omega) _).drewN n4).alloc _)
  have Bx6 : Hid (Blk w6 w5.heap.size 67 #[.pointer (some ⟨t3, 0, none⟩)]) := Lib.hid (by rw [hw6.out]; exact Blk.new _ _ _)
  have PA : Hid (∀ u, u = w5 → Calls Tryd.prog 56 #[.pointer (some ⟨t3, 0, none⟩)] u fun e w' => e = .returned (.func (.func 62) #[] #[.pointer (some ⟨w5.heap.size, 0, none⟩)]) ∧ w' = w6) := Lib.hid fun u hu => by
    rw [hu, hw6.out]; exact allI_b
  have hs6 : w6.heap.size = w5.heap.size + 1 := by rw [hw6.out]; exact World.size_alloc ..
  clear S4 T4 B4 P4 V4 M4 Wb4 Ws4 Wv4 p4 d4 z4 hw6
  have hseq : Hid (SeqStopsK Fence.wide 2 Tryd.prog 62 #[.pointer (some ⟨w5.heap.size, 0, none⟩)] encI (KpR (fun _ j => j = w3.heap.size)) (fun xs => xs = s.pairs k l) (fun pre => ∃ m, m ≤ l.length ∧ pre = (s.pairs k l).take m) l.length w6) := Lib.hid (by
    have e := hsl.out
    subst e
    exact allI_seq Bx6.out Wb6.out Ws6.out Wv6.out T6.out hI.out h1 (by omega) hby (by omega) (fun _ j => j = w3.heap.size) (fun W hW j hj => by have := hW.size; omega) (fun _ _ _ _ _ j hj => hj) (fun _ h => by have := T6.out.lt; have := hT.out.lt; omega))
  replace hs5 := Lib.hid hs5
  replace hs6 := Lib.hid hs6
  go_wp2_with fail
  rw [← hw5.out]
  refine (PA.out _ rfl).mono ?_
  rintro _ w6 ⟨rfl, rfl⟩
  clear PA hw5
  go_wp2
  refine wp_rangeFunc_P (gf := 62) (lb := #[.pointer (some ⟨w5.heap.size, 0, none⟩)]) rfl (enters_of Tryd.func62 (by kernel_rfl) rfl)
    hseq.out KpR.trans (fun W l o o' h1 h2 h3 h4 => KpR.turn h2 h3 fun _ h => h) (KpR.refl _) (Below.refl _ _) (fun _ => rfl)
    (fun x tm => (tm.setIfInBounds 15 (.int .u64 x.1)).setIfInBounds 16 (Value.int .i64 x.2))
    (fun pre W => Hid (HolI W w3.heap.size (2 * sl) (St.fill (k + 1) 0 pre)) ∧ Hid (Fr (fun j => j = w3.heap.size) w6 (fun j => j = w3.heap.size) W)) (fun _ _ _ => False)
    (fun _ W W' row hs hg hr => ⟨Lib.hid (hs.1.out.own hg hr), Lib.hid (hs.2.out.ownFrom (Nat.le_refl _) hg hr)⟩) (fun _ _ _ _ _ hs _ _ => hs) ⟨S6, Lib.hid (Fr.refl _ _)⟩ ?assign ?body ?done ?stop
  case assign =>
    intro l x W K hK
    gi_wp2
  case stop => exact fun _ _ _ _ _ _ h => h.elim
  case body =>
    intro yl pre x W _ _ hi hlen
    obtain ⟨S7, F7⟩ := hi
    have hlen' : pre.length < 2 ^ (k + 1) := by omega
    obtain ⟨hlx, hjx, _, _, _⟩ := TInv.look (St.fill_inv (k := k + 1) 0 (by omega) (by omega) pre hlen') (hmk_lt (by omega) (by omega)) x.1
    have B7 := Lib.hid (F7.out.blk B6.out (show ¬ t = w3.heap.size by omega))
    have P7 := Lib.hid (F7.out.blk P6.out (show ¬ w.heap.size = w3.heap.size by omega))
    have T7 := Lib.hid (T6.out.keep (F7.out.block 1 T6.out.lt (by have := hT.out.lt; omega)))
    have hjx : (St.fill (k + 1) 0 pre).slot (k + 1) x.1 < 2 * sl := by rw [← hsq1]; exact hjx
    have C7 : Hid (Calls Tryd.prog 54 #[.pointer (some ⟨t, 0, none⟩), .int .u64 x.1] W fun e w' => e = .returned (.tuple #[.int .i64 ((St.fill (k + 1) 0 pre).slot (k + 1) x.1 : Int), .int .i64 ((St.fill (k + 1) 0 pre).asked (k + 1) x.1 : Int)]) ∧ W = w') := Lib.hid (by
      have b := B7.out
      have sx := S7.out
      rw [← hsq1] at b sx
      exact lookI_b (cz := 2 ^ (k + 1)) T7.out b sx.at_ (by omega) (by omega) (by rw [hsq1]; omega) hlx)
    have hsn : Hid (St.fill (k + 1) 0 (pre ++ [x]) = (St.fill (k + 1) 0 pre).set ((St.fill (k + 1) 0 pre).slot (k + 1) x.1) x.1 x.2) := Lib.hid (St.fill_snoc _ _ _ _)
    have S8 : Hid (∀ W', W' = (((W.setCell ⟨w3.heap.size, (St.fill (k + 1) 0 pre).slot (k + 1) x.1 * 3, none⟩ (.bool true)).setCell ⟨w3.heap.size, (St.fill (k + 1) 0 pre).slot (k + 1) x.1 * 3 + 1, none⟩ (.int .u64 x.1)).setCell ⟨w3.heap.size, (St.fill (k + 1) 0 pre).slot (k + 1) x.1 * 3 + 2, none⟩ (Value.int .i64 x.2)) → HolI W' w3.heap.size (2 * sl) (St.fill (k + 1) 0 (pre ++ [x]))) := Lib.hid fun W' e => by
      rw [e, hsn.out]
      exact S7.out.set0 hjx x.1 x.2
    have F8 : Hid (∀ W', W' = (((W.setCell ⟨w3.heap.size, (St.fill (k + 1) 0 pre).slot (k + 1) x.1 * 3, none⟩ (.bool true)).setCell ⟨w3.heap.size, (St.fill (k + 1) 0 pre).slot (k + 1) x.1 * 3 + 1, none⟩ (.int .u64 x.1)).setCell ⟨w3.heap.size, (St.fill (k + 1) 0 pre).slot (k + 1) x.1 * 3 + 2, none⟩ (Value.int .i64 x.2)) → Fr (fun j => j = w3.heap.size) W (fun j => j = w3.heap.size) W' ∧ KeepsOthers W W') := Lib.hid fun W' e => by
      rw [e]
      exact ⟨(((Fr.refl (fun j => j = w3.heap.size) W).set (p := ⟨w3.heap.size, _, none⟩) (.inl rfl) _).set (p := ⟨w3.heap.size, _, none⟩) (.inl rfl) _).set (p := ⟨w3.heap.size, _, none⟩) (.inl rfl) _, ((KeepsOthers.setCell _ _ _).trans (KeepsOthers.setCell _ _ _)).trans (KeepsOthers.setCell _ _ _)⟩
    have dK := (S7.out.at_ _ hjx).2
    have dU := (S7.out.at_ _ hjx).1
    have dX := (SltI.val S7.out hjx).1
    have dz := (SltI.val S7.out hjx).2
    generalize (St.fill (k + 1) 0 pre).slot (k + 1) x.1 = jx at *
    generalize (St.fill (k + 1) 0 pre).asked (k + 1) x.1 = mx at *
    have z0 := dz (jx * 3)
    have z1 := dz (jx * 3 + 1)
    have z2 := dz (jx * 3 + 2)
    have p7 : W.cell? ⟨w.heap.size, 0, none⟩ = some (.pointer (some ⟨t, 0, none⟩)) := P7.out.cell 0
    have d7 : W.cell? ⟨t, 0, none⟩ = some (.slice (some ⟨w3.heap.size, 0, none⟩) (2 * sl) (2 * sl)) := B7.out.cell 0
    have hjl : decide (jx < 2 * sl) = true := decide_eq_true hjx
    clear dz hlx hseq B6 P6 T6 V6 M6 Wb6 Ws6 Wv6 Bx6 S6
    gi_wp2_with fail
    refine ⟨trivial, (CallsIn.inRound yl (callsIn_wide.2 C7.out)).mono ?_⟩
    rintro _ w7 ⟨rfl, rfl⟩
    gi_wp2
    obtain ⟨f8, k8⟩ := F8.out _ rfl
    exact ⟨k8.from _, KpR.of_fr f8 (fun j h => h) (fun j h => .inl h), Lib.hid (S8.out _ rfl), Lib.hid (F7.out.trans f8)⟩
  case done =>
    rintro D xs W hD rfl ⟨S9, F9⟩ hK
    rw [← hst] at S9
    have B9 := Lib.hid (F9.out.blk B6.out (show ¬ t = w3.heap.size by omega))
    have P9 := Lib.hid (F9.out.blk P6.out (show ¬ w.heap.size = w3.heap.size by omega))
    have T9 := Lib.hid (T6.out.keep (F9.out.block 1 T6.out.lt (by have := hT.out.lt; omega)))
    have V9 := Lib.hid (V6.out.frs F9.out fun j hj => by have := hvw.out j hj; show ¬ j = _; omega)
    have M9 : Hid (Fr (fun b => b = t ∨ b = g ∨ own (.slice A l.length cp) b) w (fun b => b = t ∨ b = w3.heap.size ∨ own (.slice A l.length cp) b) W) := Lib.hid ((M6.out.trans (F9.out.wide fun j hj => .inr (.inl hj))).into fun j hj => by
      rcases hj with h | h | h
      · exact .inr (.inl (.inl h))
      · exact .inl h
      · exact .inr (.inl (.inr (.inr h))))
    have C9 : Hid (Calls Tryd.prog 54 #[.pointer (some ⟨t, 0, none⟩), .int .u64 key] W fun e w' => e = .returned (.tuple #[.int .i64 ((s.grown k 0 l).slot (k + 1) key : Int), .int .i64 ((s.grown k 0 l).asked (k + 1) key : Int)]) ∧ W = w') := Lib.hid (by
      have b := B9.out
      have sx := S9.out
      rw [← hsq1] at b sx
      exact lookI_b (cz := 2 ^ (k + 1)) T9.out b sx.at_ (by omega) (by omega) (by rw [hsq1]; omega) hl9)
    have hDt : D ≠ t := fun e => by have := Blk.isCells B9.out (by rw [← e]; exact hK); cases this
    have hDg : D ≠ w3.heap.size := fun e => by obtain ⟨cs, hb, _⟩ := S9.out; have := Blk.isCells hb (by rw [← e]; exact hK); cases this
    have hDv : ¬ own (.slice A l.length cp) D := fun e => by have := hvw.out D e; have := hs6.out; have := hs5.out; omega
    have hDl : D < W.heap.size := (Array.getElem?_eq_some_iff.1 hK).1
    rw [hsq1] at hj9
    have dK := (S9.out.at_ _ hj9).2
    have dU := (S9.out.at_ _ hj9).1
    rw [hu9] at dU
    have dX := (SltI.val S9.out hj9).1
    have dz := (SltI.val S9.out hj9).2
    have S10 : Hid (HolI (((W.setCell ⟨w3.heap.size, (s.grown k 0 l).slot (k + 1) key * 3, none⟩ (.bool true)).setCell ⟨w3.heap.size, (s.grown k 0 l).slot (k + 1) key * 3 + 1, none⟩ (.int .u64 key)).setCell ⟨w3.heap.size, (s.grown k 0 l).slot (k + 1) key * 3 + 2, none⟩ (Value.int .i64 y)) w3.heap.size (2 * sl) ((s.grown k 0 l).set ((s.grown k 0 l).slot (k + 1) key) key y)) := Lib.hid (S9.out.set0 hj9 key y)
    generalize hgx : (s.grown k 0 l).set ((s.grown k 0 l).slot (k + 1) key) key y = sx at *
    generalize hjx0 : (s.grown k 0 l).slot (k + 1) key = jx at *
    have hjx0 := Lib.hid hjx0
    generalize (s.grown k 0 l).asked (k + 1) key = mx at *
    have z0 := dz (jx * 3)
    have z1 := dz (jx * 3 + 1)
    have z2 := dz (jx * 3 + 2)
    have p9 : W.cell? ⟨w.heap.size, 0, none⟩ = some (.pointer (some ⟨t, 0, none⟩)) := P9.out.cell 0
    have d9 : W.cell? ⟨t, 0, none⟩ = some (.slice (some ⟨w3.heap.size, 0, none⟩) (2 * sl) (2 * sl)) := B9.out.cell 0
    have hjl : decide (jx < 2 * sl) = true := decide_eq_true hj9
    have hgx := Lib.hid hgx
    have hK := Lib.hid hK
    have hD := Lib.hid hD
    have hgv : ¬ own (.slice A l.length cp) w3.heap.size := fun e => by have := hvw.out _ e; omega
    have hgt3 : t ≠ w3.heap.size := by omega
    have hpg3 : w.heap.size ≠ w3.heap.size := by omega
    clear dz hl9 hseq B6 P6 T6 V6 M6 Wb6 Ws6 Wv6 Bx6 S6 F9 S9
    go_wp2_with fail
    refine C9.out.mono ?_
    rintro _ w7 ⟨rfl, rfl⟩
    go_wp2
    generalize hg4 : w3.heap.size = g4 at *
    have hg4 := Lib.hid hg4
    obtain ⟨w10, hw10⟩ : ∃ u, u = (((W.setCell ⟨g4, jx * 3, none⟩ (.bool true)).setCell ⟨g4, jx * 3 + 1, none⟩ (.int .u64 key)).setCell ⟨g4, jx * 3 + 2, none⟩ (Value.int .i64 y)) := ⟨_, rfl⟩
    have B10 : Hid (Blk w10 t 94 #[.slice (some ⟨g4, 0, none⟩) (2 * sl) (2 * sl), .slice A l.length cp]) := Lib.hid (by rw [hw10]; exact ((B9.out.far hgt3 _).far hgt3 _).far hgt3 _)
    have P10 : Hid (Blk w10 w.heap.size 67 #[.pointer (some ⟨t, 0, none⟩)]) := Lib.hid (by rw [hw10]; exact ((P9.out.far hpg3 _).far hpg3 _).far hpg3 _)
    have V10 : Hid (Wl w10 (.slice A l.length cp) l) := Lib.hid (by rw [hw10]; exact ((V9.out.set (p := ⟨g4, _, none⟩) hgv _).set (p := ⟨g4, _, none⟩) hgv _).set (p := ⟨g4, _, none⟩) hgv _)
    have X10 : Hid (HolI w10 g4 (2 * sl) sx) := Lib.hid (by rw [hw10]; exact S10.out)
    have N10 : Hid (Fr (fun b => b = t ∨ b = g4 ∨ own (.slice A l.length cp) b) W (fun b => b = t ∨ b = g4 ∨ own (.slice A l.length cp) b) w10) := Lib.hid (by rw [hw10]; exact (((Fr.refl _ W).set (p := ⟨g4, _, none⟩) (.inl (.inr (.inl rfl))) _).set (p := ⟨g4, _, none⟩) (.inl (.inr (.inl rfl))) _).set (p := ⟨g4, _, none⟩) (.inl (.inr (.inl rfl))) _)
    rw [← hw10]
    clear hw10 S10 B9 P9 V9 C9 dK dU dX z0 z1 z2 p9 d9
    have p2 : w10.cell? ⟨w.heap.size, 0, none⟩ = some (.pointer (some ⟨t, 0, none⟩)) := P10.out.cell 0
    have d2 : w10.cell? ⟨t, 1, none⟩ = some (.slice A l.length cp) := B10.out.cell 1
    generalize hpb : w.heap.size = pb at *
    have hpb := Lib.hid hpb
    refine wp_region_mix (fun W' => W'.cell? ⟨pb, 0, none⟩ = some (.pointer (some ⟨t, 0, none⟩)) ∧ W'.cell? ⟨t, 1, none⟩ = some (.slice A l.length cp)) [0, 0, 3, 3, 0, 3, 2, 2, 3, 3, 2] (List.range 11) (by kernel_rfl) (by kernel_rfl) (fun _ _ h => h) ⟨p2, d2⟩ ?_
    repeat (first | ((first | refine wpMix_pure rfl rfl (fun K hK => ?_) | refine wpMix_loc rfl rfl (fun K hK => ?_) | refine wpMix_any rfl rfl (fun K hK => ?_)); go_simp; refine hK _ _ ?_; clear hK K) | (refine wpMix_any rfl rfl (fun K hK => ?_); rw [if_pos (by go_simp)]; apply Exists.intro; refine And.intro (fun w2 hS2 => ?_) (hK _ _ ?_); (focus (obtain ⟨hs1, hs2⟩ := hS2; go_simp; rfl)); clear hK K))
    refine wpMix_loud rfl rfl (fun n12 K hK => ?_)
    go_wp2
    refine hK _ _ (fun _ => ⟨cell_alloc_ p2, cell_alloc_ d2⟩) ?_; clear hK K
    repeat (first | ((first | refine wpMix_pure rfl rfl (fun K hK => ?_) | refine wpMix_loc rfl rfl (fun K hK => ?_) | refine wpMix_any rfl rfl (fun K hK => ?_)); go_simp; refine hK _ _ ?_; clear hK K) | (refine wpMix_any rfl rfl (fun K hK => ?_); rw [if_pos (by go_simp)]; apply Exists.intro; refine And.intro (fun w2 hS2 => ?_) (hK _ _ ?_); (focus (obtain ⟨hs1, hs2⟩ := hS2; go_simp; rfl)); clear hK K))
    refine wpMix_loud rfl rfl (fun n13 K hK => ?_)
    refine wpList_word ((w10.drewN (1 + n12)).drewN n13) rfl (.tmp 112) (.tmp 114) rfl (.slice A l.length cp) l key rfl ((V10.out.drewN _).drewN _) rfl hlen ?_
    intro A11 c11 w11 hc11 hv11 hm11
    have hvt10 : ¬ own (.slice A l.length cp) t := hvt
    have B11 : Hid (Blk w11 t 94 #[.slice (some ⟨g4, 0, none⟩) (2 * sl) (2 * sl), .slice A l.length cp]) := Lib.hid (hm11.blk ((B10.out.drewN _).drewN _) hvt)
    have P11 : Hid (Blk w11 pb 67 #[.pointer (some ⟨t, 0, none⟩)]) := Lib.hid (hm11.blk ((P10.out.drewN _).drewN _) hpv)
    have X11 : Hid (HolI w11 g4 (2 * sl) sx) := Lib.hid (by obtain ⟨cs, hb, hc⟩ := X10.out; exact ⟨cs, hm11.blk ((hb.drewN _).drewN _) hgv, hc⟩)
    have V11 := Lib.hid hv11
    have N11 : Hid (Fr (fun b => b = t ∨ b = g4 ∨ own (.slice A l.length cp) b) W (fun b => b = t ∨ b = g4 ∨ own (.slice A11 (l.length + 1) c11) b) w11) := Lib.hid (by
      have e1 := (((N10.out.drewN (1 + n12)).drewN n13).trans (hm11.wide fun k hk => .inr (.inr hk)))
      exact e1.into fun k hk => hk.elim (fun h => .inr (.inl (.inl h))) fun hk => hk.elim (fun h => .inr (.inl (.inr (.inl h)))) .inl)
    have p3 : w11.cell? ⟨pb, 0, none⟩ = some (.pointer (some ⟨t, 0, none⟩)) := P11.out.cell 0
    have d3 : w11.cell? ⟨t, 1, none⟩ = some (.slice A l.length cp) := B11.out.cell 1
    have z3 := B11.out.frozen 1
    clear hv11 hm11 V10 B10 P10 X10 N10 p2 d2
    refine hK _ _ (fun _ => ⟨p3, d3⟩) ?_; clear hK K
    repeat (first | ((first | refine wpMix_pure rfl rfl (fun K hK => ?_) | refine wpMix_loc rfl rfl (fun K hK => ?_) | refine wpMix_any rfl rfl (fun K hK => ?_)); go_simp; refine hK _ _ ?_; clear hK K) | (refine wpMix_any rfl rfl (fun K hK => ?_); rw [if_pos (by go_simp)]; apply Exists.intro; refine And.intro (fun w2 hS2 => ?_) (hK _ _ ?_); (focus (obtain ⟨hs1, hs2⟩ := hS2; go_simp; rfl)); clear hK K))
    refine wpMix_loud rfl rfl (fun n14 K hK => ?_)
    go_wp2
    refine hK _ _ (fun h => (Bool.false_ne_true ((Eq.symm (by kernel_rfl)).trans h)).elim) ?_; clear hK K
    refine wpMix_nil (fun n15 => ?_)
    go_wp2
    have hvt11 : ¬ own (.slice A11 (l.length + 1) c11) t := Rowv.ne_ V11.out B11.out (by decide)
    have N12 := ((N11.out.drewN n14).set (p := ⟨t, 1, none⟩) (.inl (.inl rfl)) (.slice A11 (l.length + 1) c11)).drewN n15
    have hK12 := (N12.block D hDl (fun h => by rcases h with h | h | h; exact hDt h; exact hDg h; exact hDv h)).trans hK.out
    have B12 := ((B11.out.drewN n14).set_ 1 (.slice A11 (l.length + 1) c11)).drewN n15
    have X12 : HolI (((w11.drewN n14).setCell ⟨t, 1, none⟩ (.slice A11 (l.length + 1) c11)).drewN n15) g4 (2 * sl) sx := by
      obtain ⟨cs, hb, hc⟩ := X11.out
      exact ⟨cs, ((hb.drewN n14).far (p := ⟨t, 1, none⟩) (Ne.symm hgt3) _).drewN n15, hc⟩
    have V12 := ((V11.out.drewN n14).set (p := ⟨t, 1, none⟩) hvt11 (.slice A11 (l.length + 1) c11)).drewN n15
    refine ⟨by simp, .inl ⟨_, _, rfl, run_takeDeferred hK12, ?_⟩⟩
    refine ⟨_, results_tmp3 rfl _ _ _, rfl, g4, A11, c11, B12.shut hK12, ?_, V12.shutI hK12, (M9.out.trans N12).shut ?_ _⟩
    · rw [hjx0.out, hgx.out]
      obtain ⟨cs, hb, hc⟩ := X12
      exact ⟨cs, hb.shut hK12, hc⟩
    · have := hD.out
      have := hs6.out
      have := hs5.out
      have := hpb.out
      have := hg4.out
      omega
end Go.Proofs.YtfhpnlaabgkpjaaDoor
