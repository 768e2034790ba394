/- Entries of a log; a walk over them (logs.over), as a sequence. -/
import Derived.OrdersIn
import Derived.TacticsIn
import Derived.RangeFuncCalls
import Derived.Lib.Hide
import Derived.Test.YtfhpnlaabgkpjaaDoorPLg2
import Derived.Test.YtfhpnlaabgkpjaaDoorPLg3
namespace Go.Proofs.YtfhpnlaabgkpjaaDoor
open Go.RowKit Go.Shelf
set_option maxHeartbeats 4000000
set_option linter.unusedVariables false
set_option linter.unusedSimpArgs false
attribute [local go_sem] Oper.semAt_some

theorem cell_info : (Tryd.prog.info? 55).map (fun i => (i.zero, i.size, i.bytes)) = some (some (.agg #[.int .u64 0, .int .u64 0]), 2, 16) := by kernel_rfl
def encC (x : Int × Int) : List Value := [.int .u64 x.1, .int .u64 x.2]
theorem encC_len (x : Int × Int) : (encC x).length = 2 := rfl
theorem encC_one (x : Int × Int) : ∀ u ∈ encC x, u.oneCell' = true := by
  intro u hu
  simp only [encC, List.mem_cons, List.not_mem_nil, or_false] at hu
  rcases hu with rfl | rfl <;> rfl
/-- The slice v has the entries l, in a block of its own. -/
def Cl (w : World) (v : Value) (l : List (Int × Int)) : Prop := Sl 55 2 encC w v l
/-- One entry more. -/
theorem wpList_cell {ops : Array Oper} {rest : List Oper} {o : Oper} {a : Act} {Q : Exit → Act → World → Prop} (wr : World) (hgd : o.guard = none) (s x : Operand)
    (ho : o.op = .call { callee := .builtin .append, args := #[s, x], argTypes := #[29, 29] })
    (v : Value) (l : List (Int × Int)) (y z : Int) (hs : a.eval s = v) (hl : Cl wr v l) (hx : a.eval x = .slice (some ⟨wr.heap.size, 0, none⟩) 1 1) (hb1 : l.length + 1 ≤ 9223372036854775807) (hlen : (l.length + 1) * 16 ≤ 140737488355328)
    (h : ∀ A cap w', l.length + 1 ≤ cap → Cl w' (.slice A (l.length + 1) cap) (l ++ [(y, z)]) → Fr (own v) wr (own (.slice A (l.length + 1) cap)) w' → wpList Tryd.prog ops Q rest (a.put o.dst (.slice A (l.length + 1) cap)) w') :
    wpList Tryd.prog ops Q (o :: rest) a (wr.alloc (.cells #[.int .u64 y, .int .u64 z] 55)) :=
  wpList_one (enc := encC) encC_len encC_one wr hgd s x 29 ho Tryd.underlying29 cell_info rfl (by decide) v l (y, z) hs hl hx hb1 hlen h
/-- All entries of a list more. -/
theorem wpList_cells {ops : Array Oper} {rest : List Oper} {o : Oper} {a : Act} {Q : Exit → Act → World → Prop} (wr : World) (hgd : o.guard = none) (s x : Operand)
    (ho : o.op = .call { callee := .builtin .append, args := #[s, x], argTypes := #[29, 29] })
    (v u : Value) (l m : List (Int × Int)) (hs : a.eval s = v) (hl : Cl wr v l) (hx : a.eval x = u) (hm : Cl wr u m) (hb1 : l.length + m.length ≤ 9223372036854775807) (hlen : (l.length + m.length) * 16 ≤ 140737488355328)
    (h : ∀ A cap w', l.length + m.length ≤ cap → Cl w' (.slice A (l.length + m.length) cap) (l ++ m) → Fr (own v) wr (own (.slice A (l.length + m.length) cap)) w' → wpList Tryd.prog ops Q rest (a.put o.dst (.slice A (l.length + m.length) cap)) w') :
    wpList Tryd.prog ops Q (o :: rest) a wr :=
  wpList_all (enc := encC) wr hgd s x 29 ho Tryd.underlying29 cell_info rfl (by decide) v u l m hs hl hx (Sl.src hm encC_one) hb1 hlen h
/-- The slice v reads as the entries l. -/
def LiesC (w : World) (v : Value) (l : List (Int × Int)) : Prop := ∃ A cp, v = .slice A l.length cp ∧ l.length ≤ cp ∧ (A = none → cp = 0) ∧ ∀ j (hj : j < l.length), ∃ g o, A = some ⟨g, o, none⟩ ∧ g < w.heap.size ∧ w.cell? ⟨g, o + j * 2, none⟩ = some (.int .u64 (l[j]'hj).1) ∧ w.cell? ⟨g, o + j * 2 + 1, none⟩ = some (.int .u64 (l[j]'hj).2)
theorem Cl.lies {w : World} {v : Value} {l : List (Int × Int)} (h : Cl w v l) : LiesC w v l := by
  obtain ⟨A, cap, rfl, hc, h0⟩ := Rowv.shape h
  refine ⟨A, cap, rfl, hc, fun h => (h0 h).2, fun j hj => ?_⟩
  obtain ⟨g, off, e, hlt, hcell⟩ := Sl.cell encC_len (by decide) h hj
  have k0 := (hcell j hj 0 (by decide)).1
  have k1 := (hcell j hj 1 (by decide)).1
  exact ⟨g, off, e, hlt, by simpa [encC] using k0, by rw [Nat.add_assoc]; simpa [encC] using k1⟩
theorem LiesC.keep {w w' : World} {v : Value} {l : List (Int × Int)} (h : LiesC w v l) (hs : ∀ k, own v k → k < w.heap.size → w'.heap[k]? = w.heap[k]?) (hz : w.heap.size ≤ w'.heap.size) : LiesC w' v l := by
  obtain ⟨A, cp, rfl, hc, h0, h⟩ := h
  refine ⟨A, cp, rfl, hc, h0, fun j hj => ?_⟩
  obtain ⟨g, o, rfl, hlt, k0, k1⟩ := h j hj
  have e := hs g (by simp [own, Value.ownBlock]) hlt
  refine ⟨g, o, rfl, by omega, ?_, ?_⟩
  · unfold World.cell? at *
    simp only [e]
    exact k0
  · unfold World.cell? at *
    simp only [e]
    exact k1
theorem LiesC.below {w w' : World} {B : Nat} {v : Value} {l : List (Int × Int)} (h : LiesC w v l) (hb : Below B w w') (hB : ∀ k, own v k → k < w.heap.size → k < B) (hz : w.heap.size ≤ w'.heap.size) : LiesC w' v l := h.keep (fun k hk hlt => hb.block k (hB k hk hlt)) hz
theorem LiesC.fr {w w' : World} {F F' : Nat → Prop} {v : Value} {l : List (Int × Int)} (h : LiesC w v l) (hf : Fr F w F' w') (hF : ∀ k, own v k → ¬ F k) : LiesC w' v l := h.keep (fun k hk hlt => hf.block k hlt (hF k hk)) hf.size
theorem LiesC.drewN {w : World} {v : Value} {l : List (Int × Int)} (h : LiesC w v l) (n : Nat) : LiesC (w.drewN n) v l := h
theorem LiesC.nil (w : World) : LiesC w (.slice none 0 0) [] := ⟨none, 0, rfl, Nat.le_refl _, fun _ => rfl, fun j hj => by simp at hj⟩
theorem LiesC.shape {w : World} {v : Value} {l : List (Int × Int)} (h : LiesC w v l) : ∃ A cp, v = .slice A l.length cp ∧ l.length ≤ cp := by
  obtain ⟨A, cp, h1, h2, _⟩ := h
  exact ⟨A, cp, h1, h2⟩
theorem LiesC.cap {w : World} {A : Option Addr} {n c c0 : Nat} {l : List (Int × Int)} (h : LiesC w (.slice A n c) l) (h1 : n ≤ c0) (h2 : A = none → c0 = 0) : LiesC w (.slice A n c0) l := by
  obtain ⟨A', cp, e, hc, h0, h⟩ := h
  injection e with e1 e2 e3
  subst e1 e2 e3
  exact ⟨A, c0, rfl, h1, h2, h⟩
/-- the entries with their places -/
def enumC (l : List (Int × Int)) : List (Nat × Int × Int) := l.mapIdx fun i x => (i, x)
theorem enumC_len (l : List (Int × Int)) : (enumC l).length = l.length := by simp [enumC]
theorem enumC_take {l : List (Int × Int)} {i : Nat} (hi : i < l.length) : (enumC l).take (i + 1) = (enumC l).take i ++ [(i, l[i])] := by
  rw [List.take_add_one]
  congr 1
  simp [enumC, hi]
theorem enumC_all {l : List (Int × Int)} : (enumC l).take l.length = enumC l := List.take_of_length_le (by rw [enumC_len]; exact Nat.le_refl _)
def encE (x : Nat × Int × Int) : Array Value := #[.int .i64 x.1, .agg #[.int .u64 x.2.1, .int .u64 x.2.2]]
set_option maxRecDepth 100000 in
theorem over_seq {b gf n : Nat} {lb : Array Value} {A : Option Addr} {cp : Nat} {l : List (Int × Int)} {w : World} (hb : Blk w b 79 #[.func (.func gf) #[] lb])
    (eg : ∀ args w, (callFunc gf args).run Tryd.prog w = .ok (.enter gf args) w)
    (C : ∀ W, Below w.heap.size w W → Calls Tryd.prog gf lb W fun e W' => e = .returned (.slice A l.length cp) ∧ ∃ n, W' = W.drewN n)
    (hL : LiesC w (.slice A l.length cp) l) (hl : l.length ≤ 4611686018427387904)
    {α : Type} (encs : α → Array Value) (xs : List α) (hxl : xs.length = l.length) (hxe : ∀ m (h1 : m < xs.length) (h2 : m < l.length), encs (xs[m]'h1) = encE (m, l[m]'h2)) :
    SeqStopsK Fence.wide n Tryd.prog 52 #[.pointer (some ⟨b, 0, none⟩)] encs (Below w.heap.size) (fun ys => ys = xs) (fun pre => ∃ m, m ≤ l.length ∧ pre = xs.take m) l.length w := fun y J Jx W hW hJ hJx hY h0 => by
  have d0 : W.cell? ⟨b, 0, none⟩ = some (.func (.func gf) #[] lb) := (hb.below hW hb.lt).cell 0
  have C1 := Lib.hid (C W hW)
  have hL := Lib.hid hL
  have h0 := Lib.hid h0
  have hY := Lib.hid hY
  have hJ := Lib.hid hJ
  have hWb := Lib.hid hW
  have hnb : (l.length : Int) ≤ 4611686018427387904 := by omega
  clear hb hJx C hl
  refine callsIn_of_wp Tryd.func52 rfl trivial ?_ rfl
  simp only [Tryd.ntmps52, List.size_toArray, List.length_cons, List.length_nil, Nat.reduceAdd, Nat.reduceSub, Array.replicate_succ, Array.replicate_zero, List.push_toArray, List.append_toArray, List.nil_append, List.cons_append]
  gi_wp2_with fail
  refine ⟨trivial, fun h => (by cases h), (callsIn_wide.2 C1.out).mono ?_⟩
  rintro _ w1 ⟨rfl, n1, rfl⟩
  have hJ1 := Lib.hid (Fr.abides hJ.out ((Fr.refl (fun _ => False) W).drewN n1) h0.out)
  have hB1 := Lib.hid (below_drewNs hWb.out n1)
  have hs1 : W.heap.size ≤ (W.drewN n1).heap.size := Nat.le_refl _
  clear C1 h0
  generalize W.drewN n1 = W1 at *
  gi_wp2
  gi_loopw [8] (fun i wr => ∃ m : Nat, m ≤ l.length ∧ i = .int .i64 m ∧ W.heap.size ≤ wr.heap.size ∧ Hid (Below w.heap.size w wr ∧ J (xs.take m) wr)) (fun i _ => l.length - (intOf i).toNat)
  case atStart => exact ⟨0, Nat.zero_le _, rfl, hs1, Lib.hid ⟨hB1.out, by simpa using hJ1.out⟩⟩
  case round =>
    obtain ⟨m, hm, rfl, hsw, HH⟩ := hrel
    clear hJ1 hB1 hs1
    by_cases hlt : m < l.length
    · obtain ⟨hBw, hJw⟩ := HH.out
      have hLw := hL.out.below hBw (fun _ _ h => h) hBw.size
      obtain ⟨A', cp', eA, hcp, _, hcl⟩ := hLw
      injection eA with e1 e2 e3
      subst e1 e3
      obtain ⟨g, o, rfl, hg, c0, c1⟩ := hcl m hlt
      have hmx : m < xs.length := by omega
      have htk : Hid (xs.take (m + 1) = xs.take m ++ [xs[m]'hmx]) := Lib.hid (by rw [List.take_add_one, List.getElem?_eq_getElem hmx]; rfl)
      have hee := hxe m hmx hlt
      generalize hx : l[m] = x at *
      generalize xs[m]'hmx = xm at *
      obtain ⟨xa, xw⟩ := x
      generalize hpre : xs.take m = pre at *
      have hpl : pre.length = m := by rw [← hpre, List.length_take]; omega
      have m4 : Fr (fun _ => False) wr (fun _ => False) (wr.alloc (.cells #[.int .u64 xa, .int .u64 xw] 55)) := (Fr.refl _ wr).alloc _
      have J4 := m4.abides hJ.out hJw
      have B4 := Lib.hid (hBw.alloc hBw.size (.cells #[.int .u64 xa, .int .u64 xw] 55))
      obtain ⟨fn, tmps, assign, body, hy, hR⟩ := hY.out pre xm (wr.alloc (.cells #[.int .u64 xa, .int .u64 xw] 55)) J4 (by omega)
      rw [hee] at hy
      unfold encE at hy
      dsimp only at hy c0 c1
      have hx := Lib.hid hx
      have hpre := Lib.hid hpre
      have m4 := Lib.hid m4
      have J4 := Lib.hid J4
      clear hBw hJw hcl hpl hg HH e2 hee hmx
      gi_wp2
      refine ⟨fun h => (by cases h), hR.mono ?_⟩
      rintro e W3 (⟨rfl, hJ3, hk3⟩ | ⟨rfl, hJx3⟩)
      · have hk3 := Lib.hid hk3
        have hJ3 := Lib.hid hJ3
        gi_wp2
        go_roundw
        case rel =>
          have s3 := hk3.out.size
          have s3 : wr.heap.size + 1 ≤ W3.heap.size := by simpa using s3
          exact ⟨m + 1, by omega, by simp, by omega, Lib.hid ⟨B4.out.trans hk3.out, by rw [htk.out]; exact hJ3.out⟩⟩
        case measure => simp [intOf]; omega
      · have hJx3 := Lib.hid hJx3
        gi_wp2
        refine bodyPost_ret (results_none rfl _ _ _) rfl ?_
        exact ⟨⟨_, rfl⟩, .inr ⟨_, ⟨m + 1, by omega, htk.out.symm⟩, hJx3.out⟩⟩
    · obtain rfl : m = l.length := by omega
      have JJ := Lib.hid HH.out.2
      clear HH
      gi_wp2
      go_end0
      refine ⟨⟨_, rfl⟩, .inl ⟨_, rfl, ?_⟩⟩
      have := JJ.out
      rwa [List.take_of_length_le (by omega)] at this
end Go.Proofs.YtfhpnlaabgkpjaaDoor
/- A range over a function whose assignment lays one block in each round. -/
namespace Go.Proofs.YtfhpnlaabgkpjaaDoor
open Go.RowKit
set_option linter.unusedVariables false

theorem wp_rangeFunc_A {P : Program} {α : Type} {g : Operand} {ps : Array Tmp} {assign body : Code} {Q : Exit → Act → World → Prop} {a : Act} {w : World}
    {gf : Nat} {lb : Array Value} (hg : a.eval g = .func (.func gf) #[] lb) (eg : ∀ args w, (callFunc gf args).run P w = .ok (.enter gf args) w)
    {encs : α → Array Value} {Kp : World → World → Prop} {S Sp : List α → Prop} {N : Nat} {w0 : World} (hseq : SeqStopsK Fence.wide 2 P gf lb encs Kp S Sp N w0)
    (hKt : ∀ {A B C : World}, Kp A B → Kp B C → Kp A C) (hKb : ∀ (W : World) (l : Nat) (o o' : Obj), w.heap.size ≤ l → W.heap[l]? = some o → o.isCells = false → o.isWalk = false → Kp W (W.putObj l o')) (hKa : ∀ (W : World) (o : Obj), w.heap.size ≤ W.heap.size → Kp W (W.alloc o)) (hb0 : Below w0.heap.size w0 w) (hps : ∀ x, (encs x).size = ps.size)
    (t : TypeId) (cs : α → Array Value) (fin : α → Nat → Array Value → Array Value) (I : List α → World → Prop) (Ix : Code → List α → World → Prop) (hI : OwnFrom w.heap.size I) (hsz : ∀ pre W, I pre W → w.heap.size ≤ W.heap.size) (hIx : ∀ c, OwnFrom w.heap.size (Ix c)) (h0 : I [] w)
    (hassign : ∀ (l : Nat) (x : α) (W : World) (K : Act → World → Prop), (∀ a' W', a' = { tmps := fin x W.heap.size ((ps.zip (encs x)).foldl (fun t (p, v) => t.setIfInBounds p v) a.tmps), defers := [] } → W' = W.alloc (.cells (cs x) t) → K a' W') →
      assign.wpIn (Fence.wide.inRound l) 1 P (Exit.then K (fun _ _ _ => False)) { tmps := (ps.zip (encs x)).foldl (fun t (p, v) => t.setIfInBounds p v) a.tmps, defers := [] } W)
    (hbody : ∀ (l : Nat) (pre : List α) (x : α) (k : Nat) (W : World), w.heap.size ≤ l → (∃ r, W.heap[l]? = some (.loop r)) → I pre W → w.heap.size ≤ k → Blk W k t (cs x) → pre.length < N → body.wpIn (Fence.wide.inRound l) 1 P (ownPostG w.heap.size Kp I Ix (pre ++ [x]) W) { tmps := fin x k ((ps.zip (encs x)).foldl (fun t (p, v) => t.setIfInBounds p v) a.tmps), defers := [] } W)
    (hdone : ∀ (D : Nat) (xs : List α) (W : World), w.heap.size ≤ D → S xs → I xs W → W.heap[D]? = some (.deferred (some [])) → Q .normal { a with defers := { target := .collected D, args := #[] } :: a.defers } W)
    (hstop : ∀ (D : Nat) (c : Code) (pre : List α) (W : World), w.heap.size ≤ D → Sp pre → Ix c pre W → W.heap[D]? = some (.deferred (some [])) → c.wp P Q { a with defers := { target := .collected D, args := #[] } :: a.defers } W) :
    (Code.rangeFunc g ps assign body).wp P Q a w :=
  wp_rangeFunc_ hg eg hseq (fun h k => hKt h k) hKb hb0 hps I Ix hI hIx h0
    (fun x a' W => ∃ k, w.heap.size ≤ k ∧ Blk W k t (cs x) ∧ a' = { tmps := fin x k ((ps.zip (encs x)).foldl (fun t (p, v) => t.setIfInBounds p v) a.tmps), defers := [] })
    (fun x a' s W W' row hs hg hr => by obtain ⟨k, h1, h2, h3⟩ := hs; exact ⟨k, h1, h2.own hg fun r e => (hr r e).2, h3⟩)
    (fun l pre x W K hi hK => hassign l x W K fun a' W' e e' => by
      subst e'
      exact hK a' _ ((KeepsOthers.alloc W _).from _) (hKa W _ (hsz pre W hi)) (hI.alloc _ hi) ⟨W.heap.size, hsz pre W hi, Blk.new _ _ _, e⟩)
    (fun l pre x a' W hl hr hi he hlen => by obtain ⟨k, h1, h2, rfl⟩ := he; exact hbody l pre x k W hl hr hi h1 h2 hlen) hdone hstop
end Go.Proofs.YtfhpnlaabgkpjaaDoor
/- A region that draws its order within a round of a range over a function: the one walk of XMix serves there too. -/
namespace Go.Proofs.YtfhpnlaabgkpjaaDoor
set_option linter.unusedVariables false
set_option linter.unusedSimpArgs false
section
variable {P : Program} {ops : Array Oper} {md : Region.Mode} {Q : Exit → Act → World → Prop} {n r : Nat}

def plainOp (o : Oper) : Bool := match o.op with
  | .defer _ => false
  | _ => true
theorem plainOp_spec {o : Oper} (h : plainOp o = true) : ∀ c, o.op ≠ .defer c := fun c e => by
  unfold plainOp at h
  rw [e] at h
  cases h
/-- no row of the library's among what it may do -/
theorem wpIn_of_wp {o : Oper} {a : Act} {w : World} {K : Act → World → Prop} (ho : plainOp o = true) (hL : ¬ LetsOut Q) (h : o.wp P a w K Q) : o.wpIn (Fence.wide.inRound r) n P a w K Q := by
  refine ⟨fun _ _ => trivial, ?_⟩
  rw [Oper.semAt_eq _ _ _ (plainOp_spec ho)]
  unfold Oper.wp at h
  generalize (execOp a.eval o).run P w = x at *
  cases x with
  | ok x w' =>
    cases x <;> simp only [Oper.upon] at h <;> simp only [Oper.uponIn] <;> try exact h
    case enter f args =>
      refine ⟨(fun h => (by cases h)), CallsIn.inRound r (callsIn_wide.2 (Calls.mono h fun e w'' he => ?_))⟩
      cases e <;> exact he
    case row row args => exact ⟨(fun h => (by cases h)), fun c cs _ => let ⟨v, w', q, s⟩ := h c cs; ⟨v, w', q, stepsIn_wide.2 s⟩⟩
  | halt x w' =>
    cases x <;> simp only [Oper.upon] at h <;> simp only [Oper.uponIn] <;> exact h
theorem wpAnyIn_of_any (hd : ∀ (i : Nat) (o : Oper), ops[i]? = some o → plainOp o = true) (hL : ¬ LetsOut Q) : ∀ (fuel : Nat) (listed : Array Bool) (a : Act) (w : World), wpAny P md ops Q fuel listed a w → wpAnyIn (Fence.wide.inRound r) n P md ops Q fuel listed a w
  | 0, _, _, _, h => h
  | fuel + 1, listed, a, w, h => ⟨h.1, fun i hi => by
      have h1 := h.2 i hi
      unfold wpOp at h1
      unfold wpOpIn
      split
      · rename_i hn
        simp only [hn] at h1
        exact wpAnyIn_of_any hd hL fuel _ _ _ h1
      · rename_i o ho
        simp only [ho] at h1
        split
        · rename_i hw
          rw [if_pos hw] at h1
          rcases h1 with h1 | h1
          · exact Oper.wpIn_mono (fun a w h => wpAnyIn_of_any hd hL fuel _ a w h) (wpIn_of_wp (hd i o ho) hL h1)
          · exact (hL h1.2).elim
        · rename_i hw
          rw [if_neg hw] at h1
          exact ⟨fun _ _ => trivial, wpAnyIn_of_any hd hL fuel _ _ _ h1⟩⟩
theorem wpIn_region_mix {id : Nat} {a : Act} {w : World} {l : List Oper} (S : World → Prop) (ms ord : List Nat) (hm : P.follows .mixedOrders = true) (hB : mixB .any l.toArray ms ord = true) (hdf : l.all plainOp = true) (hL : ¬ LetsOut Q) (hS : ∀ w n, S w → S (w.drewN n)) (hs : S w.drew)
    (h : wpMix P l.toArray S Q (fun i => ms.getD i 2) ord a w.drew) : (Code.region id l.toArray true).wpIn (Fence.wide.inRound r) n P Q a w := by
  simp only [mixB, Bool.and_eq_true, decide_eq_true_eq] at hB
  obtain ⟨⟨hsel, hlen⟩, hord⟩ := hB
  refine wpIn_region_any hm (wpAnyIn_of_any (fun i o ho => ?_) hL _ _ _ _ ?_)
  · have : o ∈ l := List.mem_of_getElem? (by simpa using ho)
    exact List.all_eq_true.1 hdf o this
  have hcl : Closed .any l.toArray (Array.replicate l.toArray.size false) := fun j oj _ hl => by
    rcases Nat.lt_or_ge j l.toArray.size with h | h
    · simp at h hl; simp [h] at hl
    · simp at h hl; simp [h] at hl
  have := mixAny_sound hS _ _ _ _ hcl (fun _ => hs) (mixAny_of_mix hsel ord _ a w.drew hcl hord h) 0
  rw [hlen] at this
  exact this
end
end Go.Proofs.YtfhpnlaabgkpjaaDoor
/- The one walk of a region that draws its order, behind a structure: no tactic looks through what is still to come (many operations that are not wanted, one behind the other, hang otherwise). -/
namespace Go.Proofs.YtfhpnlaabgkpjaaDoor
set_option linter.unusedVariables false
set_option linter.unusedSimpArgs false
open Go.RowKit
/-- what no tactic looks through ('Hid' is a definition: weak head normal form unfolds it) -/
structure Shut (p : Prop) : Prop where
  out : p
section
variable {P : Program} {ops : Array Oper} {S : World → Prop} {Q : Exit → Act → World → Prop} {mk : Nat → Nat} {r n : Nat}
theorem wpMixH_nil {a : Act} {w : World} (h : ∀ n, Q .normal a (w.drewN n)) : Shut (wpMix P ops S Q mk [] a w) := Shut.mk (wpMix_nil h)
theorem wpMixH_any {i : Nat} {rest : List Nat} {a : Act} {w : World} {o : Oper} (ho : ops[i]? = some o) (hm : mk i = 0)
    (h : ∀ K : Act → World → Prop, (∀ a w, Shut (wpMix P ops S Q mk rest a w) → K a w) → if Region.wanted o (yielded ops a.tmps) then ∃ v, (∀ w', S w' → o.quietAt P a (fun w'' => w'' = w') w' v) ∧ K (a.put o.dst v) w else K (a.put o.dst undef) w) : Shut (wpMix P ops S Q mk (i :: rest) a w) :=
  Shut.mk (wpMix_any ho hm fun K hK => h K fun a w hh => hK a w hh.out)
theorem wpMixH_pure {i : Nat} {rest : List Nat} {a : Act} {w : World} {o : Oper} (ho : ops[i]? = some o) (hm : mk i = 3)
    (h : ∀ K : Act → World → Prop, (∀ a w, Shut (wpMix P ops S Q mk rest a w) → K a w) → if Region.wanted o (yielded ops a.tmps) then ∃ v, (∀ w', o.quietAt P a (fun w'' => w'' = w') w' v) ∧ K (a.put o.dst v) w else K (a.put o.dst undef) w) : Shut (wpMix P ops S Q mk (i :: rest) a w) :=
  Shut.mk (wpMix_pure ho hm fun K hK => h K fun a w hh => hK a w hh.out)
theorem wpMixH_loc {i : Nat} {rest : List Nat} {a : Act} {w : World} {o : Oper} (ho : ops[i]? = some o) (hm : mk i = 1)
    (h : ∀ K : Act → World → Prop, (∀ a w, Shut (wpMix P ops S Q mk rest a w) → K a w) → if Region.wanted o (yielded ops a.tmps) then ∃ v, (∀ n, o.quietAt P a (fun w' => ∃ n, w' = w.drewN n) (w.drewN n) v) ∧ K (a.put o.dst v) w else K (a.put o.dst undef) w) : Shut (wpMix P ops S Q mk (i :: rest) a w) :=
  Shut.mk (wpMix_loc ho hm fun K hK => h K fun a w hh => hK a w hh.out)
theorem wpMixH_loud {i : Nat} {rest : List Nat} {a : Act} {w : World} {o : Oper} (ho : ops[i]? = some o) (hm : mk i = 2)
    (h : ∀ n (K : Act → World → Prop), (∀ a w, (needB ops mk i = true → S w) → Shut (wpMix P ops S Q mk rest a w) → K a w) → wpList P ops (Exit.then K (noPan Q)) [o] a (w.drewN n)) : Shut (wpMix P ops S Q mk (i :: rest) a w) :=
  Shut.mk (wpMix_loud ho hm fun n K hK => h n K fun a w hs hh => hK a w hs hh.out)
theorem wpMixH_skip {i : Nat} {rest : List Nat} {a : Act} {w : World} {o : Oper} (ho : ops[i]? = some o) (hw : Region.wanted o (yielded ops a.tmps) = false)
    (h : ∀ K : Act → World → Prop, (∀ a w, Shut (wpMix P ops S Q mk rest a w) → K a w) → K (a.put o.dst undef) w) : Shut (wpMix P ops S Q mk (i :: rest) a w) := Shut.mk (by
  unfold wpMix mixAt mixOp
  simp only [ho]
  rw [if_neg (by rw [hw]; exact Bool.false_ne_true)]
  exact h (fun a' w' => wpMix P ops S Q mk rest a' w') fun a' w' hh => hh.out)
theorem wp_region_mixH {id : Nat} {a : Act} {w : World} {l : List Oper} (S : World → Prop) (ms ord : List Nat) (hm : P.follows .mixedOrders = true) (hB : mixB .any l.toArray ms ord = true) (hS : ∀ w n, S w → S (w.drewN n)) (hs : S w.drew)
    (h : Shut (wpMix P l.toArray S Q (fun i => ms.getD i 2) ord a w.drew)) : (Code.region id l.toArray true).wp P Q a w := wp_region_mix S ms ord hm hB hS hs h.out
theorem wpIn_region_mixH {id : Nat} {a : Act} {w : World} {l : List Oper} (S : World → Prop) (ms ord : List Nat) (hm : P.follows .mixedOrders = true) (hB : mixB .any l.toArray ms ord = true) (hdf : l.all plainOp = true) (hL : ¬ LetsOut Q) (hS : ∀ w n, S w → S (w.drewN n)) (hs : S w.drew)
    (h : Shut (wpMix P l.toArray S Q (fun i => ms.getD i 2) ord a w.drew)) : (Code.region id l.toArray true).wpIn (Fence.wide.inRound r) n P Q a w := wpIn_region_mix S ms ord hm hB hdf hL hS hs h.out
end
end Go.Proofs.YtfhpnlaabgkpjaaDoor
/- walk, by contract: it tells true where the walk is over these entries. -/
namespace Go.Proofs.YtfhpnlaabgkpjaaDoor
open Go.RowKit Go.Shelf
set_option maxHeartbeats 4000000
set_option linter.unusedVariables false
set_option linter.unusedSimpArgs false
attribute [local go_sem] Oper.semAt_some encE

theorem run_equalIn_func_nil (P : Program) (d : Nat) (t : TypeId) (f : Fn) (cap : Array Value) {ps rs : Array TypeId} {vr : Bool} (h : P.underlying t = some (.func ps rs vr)) (w : World) :
    (Op.equalIn (d + 1) t (.func f #[] cap) .nilFunc).run P w = .ok false w := by
  simp [Op.equalIn, run_underlying h]
theorem run_equal_func_nil (P : Program) (t : TypeId) (f : Fn) (cap : Array Value) {ps rs : Array TypeId} {vr : Bool} (h : P.underlying t = some (.func ps rs vr)) (w : World) :
    (Op.equal t (.func f #[] cap) .nilFunc).run P w = .ok false w := run_equalIn_func_nil P 9999 t f cap h w
theorem run_eql_func_nil (P : Program) (t : TypeId) (f : Fn) (cap : Array Value) {ps rs : Array TypeId} {vr : Bool} (h : P.underlying t = some (.func ps rs vr)) (w : World) :
    (binOp .eql t (.func f #[] cap) .nilFunc).run P w = .ok (.bool false) w := by
  simp only [binOp]
  simp [run_equal_func_nil P t f cap h w]
theorem seqC_nil (f : Fn) (cap : Array Value) (w : World) : (binOp .eql 47 (.func f #[] cap) .nilFunc).run Tryd.prog w = .ok (.bool false) w :=
  run_eql_func_nil Tryd.prog 47 f cap Tryd.underlying47 w
theorem cell_neq (a x b y : Int) (w : World) : (binOp .neq 55 (.agg #[.int .u64 a, .int .u64 x]) (.agg #[.int .u64 b, .int .u64 y])).run Tryd.prog w = .ok (.bool (!(decide (a = b) && decide (x = y)))) w := by
  have h1 : Tryd.prog.underlying 55 = some _ := Tryd.underlying55
  have h2 : Tryd.prog.underlying 38 = some _ := Tryd.underlying38
  have c1 : Tryd.prog.cellsOf 38 = 1 := by kernel_rfl
  have e : ∀ (t : TypeId) (n m : Int) (d : Nat), Tryd.prog.underlying t = some (TypeDesc.int .u64) → (Op.equalIn (d + 1) t (.int .u64 n) (.int .u64 m)).run Tryd.prog w = .ok (decide (n = m)) w := by
    intro t n m d ht
    have hb : (n == m) = decide (n = m) := by by_cases h : n = m <;> simp [h]
    simp [Op.equalIn, run_underlying ht, hb]
  have hsi : Tryd.prog.stoodInHeld 55 = false := by kernel_rfl
  have hd : Op.maxDepth = 9998 + 1 + 1 := rfl
  simp only [binOp, Op.equal, hd]
  generalize 9998 = d at *
  rw [Op.equalIn]
  simp [run_underlying h1, part, e, h2, c1, hsi, sizeOf, typeInfo]
  by_cases h : a = b <;> by_cases h' : x = y <;> simp [h, h']
theorem cell_eql (a x b y : Int) (w : World) : (binOp .eql 55 (.agg #[.int .u64 a, .int .u64 x]) (.agg #[.int .u64 b, .int .u64 y])).run Tryd.prog w = .ok (.bool (decide (a = b) && decide (x = y))) w := by
  have h1 : Tryd.prog.underlying 55 = some _ := Tryd.underlying55
  have h2 : Tryd.prog.underlying 38 = some _ := Tryd.underlying38
  have c1 : Tryd.prog.cellsOf 38 = 1 := by kernel_rfl
  have e : ∀ (t : TypeId) (n m : Int) (d : Nat), Tryd.prog.underlying t = some (TypeDesc.int .u64) → (Op.equalIn (d + 1) t (.int .u64 n) (.int .u64 m)).run Tryd.prog w = .ok (decide (n = m)) w := by
    intro t n m d ht
    have hb : (n == m) = decide (n = m) := by by_cases h : n = m <;> simp [h]
    simp [Op.equalIn, run_underlying ht, hb]
  have hsi : Tryd.prog.stoodInHeld 55 = false := by kernel_rfl
  have hd : Op.maxDepth = 9998 + 1 + 1 := rfl
  simp only [binOp, Op.equal, hd]
  generalize 9998 = d at *
  rw [Op.equalIn]
  simp [run_underlying h1, part, e, h2, c1, hsi, sizeOf, typeInfo]
  by_cases h : a = b <;> by_cases h' : x = y <;> simp [h, h']
/-- A walk over the entries l: its second box b, made ahead of w0. -/
def SeqC (w0 : World) (b : Nat) (l : List (Int × Int)) : Prop :=
  ∀ (α : Type) (encs : α → Array Value) (xs : List α), xs.length = l.length → (∀ m (h1 : m < xs.length) (h2 : m < l.length), encs (xs[m]'h1) = encE (m, l[m]'h2)) →
    SeqStopsK Fence.wide 2 Tryd.prog 52 #[.pointer (some ⟨b, 0, none⟩)] encs (Below w0.heap.size) (fun ys => ys = xs) (fun pre => ∃ m, m ≤ l.length ∧ pre = xs.take m) l.length w0
structure WB (w : World) (b4 b5 b6 b7 : Nat) (v2 : Value) (n : Int) (W : World) (k : Int) (r : Bool) : Prop where
  fr : Fr (fun _ => False) w (fun _ => False) W
  c4 : Blk W b4 29 #[v2]
  c5 : Blk W b5 3 #[.int .i64 n]
  c6 : Blk W b6 4 #[.bool r]
  c7 : Blk W b7 3 #[.int .i64 k]
section
variable {w W : World} {b4 b5 b6 b7 : Nat} {v2 : Value} {n k : Int} {r : Bool}
theorem WB.drewN (h : WB w b4 b5 b6 b7 v2 n W k r) (m : Nat) : WB w b4 b5 b6 b7 v2 n (W.drewN m) k r := ⟨h.fr.drewN m, h.c4, h.c5, h.c6, h.c7⟩
theorem WB.setK (h : WB w b4 b5 b6 b7 v2 n W k r) (hb : w.heap.size ≤ b7) (h57 : b5 ≠ b7) (k' : Int) : WB w b4 b5 b6 b7 v2 n (W.setCell ⟨b7, 0, none⟩ (.int .i64 k')) k' r :=
  ⟨h.fr.set (p := ⟨b7, 0, none⟩) (.inr (.inr hb)) _, h.c4.far (p := ⟨b7, 0, none⟩) (h.c4.ne_ h.c7 (by decide)) _, h.c5.far (p := ⟨b7, 0, none⟩) h57 _, h.c6.far (p := ⟨b7, 0, none⟩) (h.c6.ne_ h.c7 (by decide)) _, h.c7.set_ 0 _⟩
theorem WB.setR (h : WB w b4 b5 b6 b7 v2 n W k r) (hb : w.heap.size ≤ b6) (r' : Bool) : WB w b4 b5 b6 b7 v2 n (W.setCell ⟨b6, 0, none⟩ (.bool r')) k r' :=
  ⟨h.fr.set (p := ⟨b6, 0, none⟩) (.inr (.inr hb)) _, h.c4.far (p := ⟨b6, 0, none⟩) (h.c4.ne_ h.c6 (by decide)) _, h.c5.far (p := ⟨b6, 0, none⟩) (h.c5.ne_ h.c6 (by decide)) _, h.c6.set_ 0 _, h.c7.far (p := ⟨b6, 0, none⟩) (h.c7.ne_ h.c6 (by decide)) _⟩
theorem WB.own {B : Nat} (h : WB w b4 b5 b6 b7 v2 n W k r) (hB : w.heap.size ≤ B) {W' : World} {row : Option Nat} (hg : W.grownBy W' row) (hr : ∀ r, row = some r → B ≤ r ∧ ∃ o : Obj, W.heap[r]? = some o ∧ o.isCells = false) : WB w b4 b5 b6 b7 v2 n W' k r :=
  ⟨h.fr.ownFrom hB hg hr, h.c4.ownFrom hg hr, h.c5.ownFrom hg hr, h.c6.ownFrom hg hr, h.c7.ownFrom hg hr⟩
end
theorem enum_at {l : List (Int × Int)} {pre : List (Nat × Int × Int)} (hlen : pre.length < l.length) (hpre : pre = (enumC l).take pre.length) {x : Nat × Int × Int} : (x = (pre.length, l[pre.length]) → pre ++ [x] = (enumC l).take (pre ++ [x]).length) ∧ (x ≠ (pre.length, l[pre.length]) → ∀ m, m ≤ l.length → pre ++ [x] ≠ (enumC l).take m) := by
  have e := enumC_take hlen
  rw [← hpre] at e
  refine ⟨fun h => ?_, fun h m hm hp => h ?_⟩
  · rw [List.length_append, List.length_singleton, e, h]
  · have hl := congrArg List.length hp
    rw [List.length_append, List.length_singleton, List.length_take, enumC_len, Nat.min_eq_left hm] at hl
    subst hl
    rw [e] at hp
    simpa using hp
set_option maxRecDepth 100000 in
theorem walk_b {w0 w : World} {b : Nat} {l : List (Int × Int)} {v2 : Value} {n : Int} (hs : SeqC w0 b l) (hw : Below w0.heap.size w0 w) (h2 : LiesC w v2 l) (hl : l.length ≤ 4611686018427387904) :
    Calls Tryd.prog 13 #[.func (.func 52) #[] #[.pointer (some ⟨b, 0, none⟩)], v2, .int .i64 n] w fun e w' => e = .returned (.bool true) ∧ Fr (fun _ => False) w (fun _ => False) w' := by
  have sn := seqC_nil
  have hcn := cell_neq
  obtain ⟨A, cp, rfl, hcp, hA0, hcl⟩ := id h2
  replace hcl := Lib.hid hcl
  replace h2 := Lib.hid h2
  have hws := Lib.hid hw.size
  replace hs := Lib.hid (hs _ encE (enumC l) (enumC_len l) (fun m h1 h2 => by simp [enumC]))
  replace hw := Lib.hid hw
  have hnb : (l.length : Int) ≤ 4611686018427387904 := by omega
  have F0 : Hid (WB w w.heap.size (w.heap.size + 1) (w.heap.size + 1 + 1) (w.heap.size + 1 + 1 + 1) (.slice A l.length cp) n ((((w.alloc (.cells #[.slice A l.length cp] 29)).alloc (.cells #[.int .i64 n] 3)).alloc (.cells #[.bool false] 4)).alloc (.cells #[.int .i64 0] 3)) 0 false) := Lib.hid (by
    have k1 := Blk.new w 29 #[.slice A l.length cp]
    have k2 := Blk.new (w.alloc (.cells #[.slice A l.length cp] 29)) 3 #[.int .i64 n]
    have k3 := Blk.new ((w.alloc (.cells #[.slice A l.length cp] 29)).alloc (.cells #[.int .i64 n] 3)) 4 #[.bool false]
    have k4 := Blk.new (((w.alloc (.cells #[.slice A l.length cp] 29)).alloc (.cells #[.int .i64 n] 3)).alloc (.cells #[.bool false] 4)) 3 #[.int .i64 0]
    simp only [World.size_alloc] at k2 k3 k4
    exact ⟨((((Fr.refl _ w).alloc _).alloc _).alloc _).alloc _, ((k1.alloc _).alloc _).alloc _, (k2.alloc _).alloc _, k3.alloc _, k4⟩)
  have z4 : Hid (((((w.alloc (.cells #[.slice A l.length cp] 29)).alloc (.cells #[.int .i64 n] 3)).alloc (.cells #[.bool false] 4)).alloc (.cells #[.int .i64 0] 3)).heap.size = w.heap.size + 4) := Lib.hid (by simp)
  clear hA0 hl
  refine calls_marks Tryd.func13 rfl ?_
  simp only [Tryd.ntmps13, List.size_toArray, List.length_cons, List.length_nil, Nat.reduceAdd, Nat.reduceSub, Array.replicate_succ, Array.replicate_zero, List.push_toArray, List.append_toArray, List.nil_append, List.cons_append]
  go_wp2
  obtain ⟨W0, hW0⟩ : ∃ u, u = (((w.alloc (.cells #[.slice A l.length cp] 29)).alloc (.cells #[.int .i64 n] 3)).alloc (.cells #[.bool false] 4)).alloc (.cells #[.int .i64 0] 3) := ⟨_, rfl⟩
  rw [← hW0] at F0 z4 ⊢
  clear hW0
  have hge : Hid (w.heap.size ≤ w.heap.size + 1 + 1 ∧ w.heap.size ≤ w.heap.size + 1 + 1 + 1 ∧ w.heap.size + 1 ≠ w.heap.size + 1 + 1 + 1) := Lib.hid ⟨by omega, by omega, by omega⟩
  generalize w.heap.size + 1 + 1 + 1 = b7 at *
  generalize w.heap.size + 1 + 1 = b6 at *
  generalize w.heap.size + 1 = b5 at *
  obtain ⟨b4, hb4⟩ : ∃ u, Hid (w.heap.size = u) := ⟨_, Lib.hid rfl⟩
  rw [hb4.out] at F0 ⊢
  have hbel := Lib.hid (hw.out.trans (F0.out.fr.below (B := w0.heap.size) (fun _ h => h.elim) hws.out))
  refine wp_rangeFunc_A (gf := 52) (lb := #[.pointer (some ⟨b, 0, none⟩)]) rfl (enters_of Tryd.func52 (by kernel_rfl) rfl)
    hs.out Below.trans (fun W l o o' h1 h2 h3 h4 => belowK_b (n₀ := w0.heap.size) (w := W0) (by have := z4.out; have := hws.out; omega) W l o o' h1 h2 h3 h4) (fun W o h => (Below.refl _ W).alloc (by have := z4.out; have := hws.out; omega) o) hbel.out (fun _ => rfl)
    55 (fun x => #[.int .u64 x.2.1, .int .u64 x.2.2]) (fun x k tm => (tm.setIfInBounds 8 (.int .i64 x.1)).setIfInBounds 9 (.pointer (some ⟨k, 0, none⟩)))
    (fun pre W' => Hid (pre = (enumC l).take pre.length) ∧ W0.heap.size ≤ W'.heap.size ∧ Hid (WB w b4 b5 b6 b7 (.slice A l.length cp) n W' (pre.length : Int) false))
    (fun c pre W' => c = .ret ∧ ((∀ m, m ≤ l.length → pre ≠ (enumC l).take m) ∨ Hid (W0.heap.size ≤ W'.heap.size ∧ WB w b4 b5 b6 b7 (.slice A l.length cp) n W' (pre.length : Int) true)))
    (fun pre W W' row hi hg hr => ⟨hi.1, Nat.le_trans hi.2.1 hg.size, Lib.hid (hi.2.2.out.own (by have := z4.out; omega) hg hr)⟩) (fun _ _ hi => hi.2.1)
    (fun c pre W W' row hi hg hr => ⟨hi.1, hi.2.imp id fun h => Lib.hid ⟨Nat.le_trans h.out.1 hg.size, h.out.2.own (by have := z4.out; omega) hg hr⟩⟩)
    ⟨Lib.hid (by simp), Nat.le_refl _, F0⟩ ?assign ?body ?done ?stop
  case assign =>
    intro yl x W K hK
    gi_wp2
    refine hK _ _ ?_ ?_
    · simp [encE]
    · rfl
  case stop =>
    rintro D c pre W' hD ⟨m, hm, hpm⟩ ⟨rfl, hx⟩ hK
    have HB : Hid (WB w b4 b5 b6 b7 (.slice A l.length cp) n W' (pre.length : Int) true) := Lib.hid (hx.elim (fun h => (h m hm hpm).elim) fun h => h.out.2)
    clear hx hpm
    have r0 : W'.cell? ⟨b6, 0, none⟩ = some (.bool true) := HB.out.c6.cell 0
    have hD := Lib.hid hD
    have hK := Lib.hid hK
    go_wp2
    have c5 := (HB.out.c6.shut (o := .deferred none) hK.out).cell 0
    refine ⟨by simp, .inl ⟨_, _, rfl, run_takeDeferred hK.out, ?_⟩⟩
    refine ⟨.bool true, by simp [results, Tryd.f13, asAddr, go_sem, c5], rfl, ?_⟩
    exact HB.out.fr.shut (by have := z4.out; have := hD.out; omega) _
  case done =>
    rintro D xs W' hD hx ⟨_, hz, HB⟩ hK
    obtain rfl : xs = enumC l := hx
    have hB : Hid (WB w b4 b5 b6 b7 (.slice A l.length cp) n W' (l.length : Int) false) := Lib.hid (by have := HB.out; rwa [enumC_len] at this)
    have r4 : W'.cell? ⟨b4, 0, none⟩ = some (.slice A l.length cp) := hB.out.c4.cell 0
    have r7 : W'.cell? ⟨b7, 0, none⟩ = some (.int .i64 (l.length : Int)) := hB.out.c7.cell 0
    have r6 : W'.cell? ⟨b6, 0, none⟩ = some (.bool false) := hB.out.c6.cell 0
    have z6 := hB.out.c6.frozen 0
    have hD := Lib.hid hD
    have hK := Lib.hid hK
    clear HB hz
    go_wp2
    have HB2 := hB.out.setR hge.out.1 true
    have K5 : (W'.setCell ⟨b6, 0, none⟩ (.bool true)).heap[D]? = some (.deferred (some [])) := (KeepsOthers.setCell W' _ _).same _ _ hK.out rfl
    have c5 := (HB2.c6.shut (o := .deferred none) K5).cell 0
    have c5 : ((W'.setCell ⟨b6, 0, none⟩ (.bool true)).putObj D (.deferred none)).cell? ⟨b6, 0, none⟩ = some (.bool true) := c5
    refine ⟨by simp, .inl ⟨_, _, rfl, run_takeDeferred K5, ?_⟩⟩
    refine ⟨.bool true, by simp [results, Tryd.f13, asAddr, go_sem, c5], rfl, ?_⟩
    exact HB2.fr.shut (by have := z4.out; have := hD.out; omega) _
  case body =>
    intro yl pre x k W' hyl hyr hi hk hbk hlen
    obtain ⟨hpre, hz, HB⟩ := hi
    obtain ⟨hin, hout⟩ := enum_at (x := x) hlen hpre.out
    replace hin := Lib.hid hin
    replace hout := Lib.hid hout
    clear hyr
    obtain ⟨xi, xa, xw⟩ := x
    have r4 : W'.cell? ⟨b4, 0, none⟩ = some (.slice A l.length cp) := HB.out.c4.cell 0
    have r5 : W'.cell? ⟨b5, 0, none⟩ = some (.int .i64 n) := HB.out.c5.cell 0
    have r7 : W'.cell? ⟨b7, 0, none⟩ = some (.int .i64 (pre.length : Int)) := HB.out.c7.cell 0
    have r6 : W'.cell? ⟨b6, 0, none⟩ = some (.bool false) := HB.out.c6.cell 0
    have z6 := HB.out.c6.frozen 0
    have z7 := HB.out.c7.frozen 0
    have e0 : W'.cell? ⟨k, 0, none⟩ = some (.int .u64 xa) := hbk.cell 0
    have e1 : W'.cell? ⟨k, 1, none⟩ = some (.int .u64 xw) := hbk.cell 1
    have hlz : (pre.length : Int) < (l.length : Int) := by omega
    have hlz2 : decide (pre.length ≥ l.length) = false := decide_eq_false (by omega)
    obtain ⟨A', cp', eA, _, _, hcc⟩ := h2.out.fr HB.out.fr (fun _ _ h => h)
    injection eA with e2 e3 e4
    subst e2 e4
    obtain ⟨g, o, rfl, hg, d0, d1⟩ := hcc pre.length hlen
    have hpz : Hid (W0.heap.size ≤ W'.heap.size) := Lib.hid hz
    have z4' := z4.out
    have w0z := hws.out
    clear hcc hg hz hbk e3 hpre hcl h2 hs
    by_cases h1 : xi = pre.length
    · subst h1
      by_cases hx : xa = (l[pre.length]'hlen).1 ∧ xw = (l[pre.length]'hlen).2
      · obtain ⟨hxa, hxw⟩ := hx
        rw [← hxa] at d0
        rw [← hxw] at d1
        replace hin := Lib.hid (hin.out (by rw [hxa, hxw]))
        clear hout hxa hxw
        gi_wp2_with fail
        refine wpIn_region_mixH (fun _ => True) [3, 1, 3, 3, 1, 1, 3, 3, 3, 3, 1, 1, 1, 3, 1, 3, 3] (List.range 17) (by kernel_rfl) (by kernel_rfl) (by kernel_rfl) (by rintro ⟨_, _, h⟩; exact h) (fun _ _ h => h) trivial ?_
        repeat ((first | refine wpMixH_pure rfl rfl (fun K hK => ?_) | refine wpMixH_loc rfl rfl (fun K hK => ?_) | refine wpMixH_any rfl rfl (fun K hK => ?_)); go_simp; refine hK _ _ ?_; clear hK K)
        refine wpMixH_nil (fun n3 => ?_)
        have B3 := Lib.hid ((HB.out.drewN (1 + n3)).setK hge.out.2.1 hge.out.2.2 ((pre.length : Int) + 1))
        have q5 : ((W'.drewN (1 + n3)).setCell ⟨b7, 0, none⟩ (.int .i64 ((pre.length : Int) + 1))).cell? ⟨b5, 0, none⟩ = some (.int .i64 n) := B3.out.c5.cell 0
        have q7 : ((W'.drewN (1 + n3)).setCell ⟨b7, 0, none⟩ (.int .i64 ((pre.length : Int) + 1))).cell? ⟨b7, 0, none⟩ = some (.int .i64 ((pre.length : Int) + 1)) := B3.out.c7.cell 0
        have q6 : ((W'.drewN (1 + n3)).setCell ⟨b7, 0, none⟩ (.int .i64 ((pre.length : Int) + 1))).cell? ⟨b6, 0, none⟩ = some (.bool false) := B3.out.c6.cell 0
        have zq6 := B3.out.c6.frozen 0
        have hKO : Hid (KeepsOthers W' ((W'.drewN (1 + n3)).setCell ⟨b7, 0, none⟩ (.int .i64 ((pre.length : Int) + 1)))) := Lib.hid (by have := KeepsOthers.setCell (W'.drewN (1 + n3)) ⟨b7, 0, none⟩ (.int .i64 ((pre.length : Int) + 1)); exact ⟨this.size, this.same⟩)
        have hKp : Hid (Below w0.heap.size W' ((W'.drewN (1 + n3)).setCell ⟨b7, 0, none⟩ (.int .i64 ((pre.length : Int) + 1)))) := Lib.hid (((below_drewNs (Below.refl _ W') (1 + n3)).setCell (p := ⟨b7, 0, none⟩) (by have := hge.out.2.1; show w0.heap.size ≤ b7; omega) _))
        by_cases hkn : n = (pre.length : Int) + 1
        · subst hkn
          gi_wp2
          refine ⟨KeepsFrom.trans (hKO.out.from _) ((KeepsOthers.setCell _ _ _).from _), rfl, .inr (Lib.hid ⟨by simpa using hpz.out, ?_⟩)⟩
          have := B3.out.setR hge.out.1 true
          simpa using this
        · have hkb : (((pre.length : Int) + 1) == n) = false := by simpa using fun h : (pre.length : Int) + 1 = n => hkn h.symm
          clear hkn
          gi_wp2
          refine ⟨hKO.out.from _, hKp.out, hin, by simpa using hpz.out, Lib.hid ?_⟩
          simpa using B3.out
      · replace hout := Lib.hid (hout.out (fun h => hx ⟨congrArg (fun z => z.2.1) h, congrArg (fun z => z.2.2) h⟩))
        have hne : Hid ((decide (xa = (l[pre.length]'hlen).1) && decide (xw = (l[pre.length]'hlen).2)) = false) := Lib.hid (by
          rw [← Bool.not_eq_true, Bool.and_eq_true, decide_eq_true_iff, decide_eq_true_iff]; exact hx)
        clear hin hx
        generalize (l[pre.length]'hlen).1 = ya at *
        generalize (l[pre.length]'hlen).2 = yw at *
        have hcn2 : ∀ (w : World), (binOp .neq 55 (.agg #[.int .u64 xa, .int .u64 xw]) (.agg #[.int .u64 ya, .int .u64 yw])).run Tryd.prog w = .ok (.bool true) w := fun w => by rw [cell_neq, hne.out]; rfl
        clear hcn
        gi_wp2_with fail
        refine wpIn_region_mixH (fun _ => True) [3, 1, 3, 3, 1, 1, 3, 3, 3, 3, 1, 1, 1, 3, 1, 3, 3] (List.range 17) (by kernel_rfl) (by kernel_rfl) (by kernel_rfl) (by rintro ⟨_, _, h⟩; exact h) (fun _ _ h => h) trivial ?_
        repeat ((first | refine wpMixH_pure rfl rfl (fun K hK => ?_) | refine wpMixH_loc rfl rfl (fun K hK => ?_) | refine wpMixH_any rfl rfl (fun K hK => ?_)); go_simp; refine hK _ _ ?_; clear hK K)
        refine wpMixH_nil (fun n3 => ?_)
        gi_wp2
        refine ⟨?_, rfl, .inl hout.out⟩
        have := KeepsOthers.setCell (W'.drewN (1 + n3)) ⟨b6, 0, none⟩ (.bool false)
        exact KeepsOthers.from (show KeepsOthers W' _ from ⟨this.size, this.same⟩) _
    · replace hout := Lib.hid (hout.out (fun h => h1 (by simpa using congrArg Prod.fst h)))
      have hxb : (((xi : Int)) == (pre.length : Int)) = false := by simp; omega
      have hxb2 : (((xi : Int)) != (pre.length : Int)) = true := by simp; omega
      have hxb3 : ((xi) != (pre.length)) = true := by simpa using h1
      clear hin h1
      gi_wp2_with fail
      refine wpIn_region_mixH (fun _ => True) [3, 1, 3, 3, 1, 1, 3, 3, 3, 3, 1, 1, 1, 3, 1, 3, 3] (List.range 17) (by kernel_rfl) (by kernel_rfl) (by kernel_rfl) (by rintro ⟨_, _, h⟩; exact h) (fun _ _ h => h) trivial ?_
      repeat ((first | refine wpMixH_pure rfl rfl (fun K hK => ?_) | refine wpMixH_loc rfl rfl (fun K hK => ?_) | refine wpMixH_any rfl rfl (fun K hK => ?_)); go_simp; refine hK _ _ ?_; clear hK K)
      refine wpMixH_nil (fun n3 => ?_)
      gi_wp2
      refine ⟨?_, rfl, .inl hout.out⟩
      have := KeepsOthers.setCell (W'.drewN (1 + n3)) ⟨b6, 0, none⟩ (.bool false)
      exact KeepsOthers.from (show KeepsOthers W' _ from ⟨this.size, this.same⟩) _
end Go.Proofs.YtfhpnlaabgkpjaaDoor
