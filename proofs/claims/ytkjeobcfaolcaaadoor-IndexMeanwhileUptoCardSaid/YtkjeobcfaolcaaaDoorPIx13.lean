/- goes, by contract, over any pair of tables, left behind any number of turns. -/
import Derived.LoopN
import Derived.Test.YtkjeobcfaolcaaaDoorPIx11
import Derived.Test.YtkjeobcfaolcaaaDoorPIx12
namespace Go.Proofs.YtkjeobcfaolcaaaDoor
open Go.RowKit Go.Shelf
set_option maxHeartbeats 8000000
set_option linter.unusedVariables false
set_option linter.unusedSimpArgs false
attribute [local go_sem] Oper.semAt_some encW

theorem seqW_nil (f : Fn) (cap : Array Value) (w : World) : (binOp .eql 62 (.func f #[] cap) .nilFunc).run Tryd.prog w = .ok (.bool false) w :=
  run_eql_func_nil Tryd.prog 62 f cap Tryd.underlying62 w
/-- A loop of so many rounds, counted. -/
theorem wp_loop_count {P : Program} {Q : Exit → Act → World → Prop} {a : Act} {w : World} {c : Code} (N : Nat) (I : Nat → Act → World → Prop) (h0 : I 0 a w)
    (round : ∀ k a w, k ≤ N → I k a w → c.wp P (Exit.then (fun a' w' => k < N ∧ I (k + 1) a' w') Q) a w) : (Code.loop c).wp P Q a w := by
  refine wp_loop_rounds (N + 1) ?_
  have key : ∀ n k a w, k + n = N → I k a w → Code.rounds P c Q (n + 1) a w := by
    intro n
    induction n with
    | zero =>
      intro k a w hk hi
      refine Code.wp_mono (fun e a' w' q => ?_) (round k a w (by omega) hi)
      cases e with
      | normal => have := q.1; omega
      | _ => exact q
    | succ n ih =>
      intro k a w hk hi
      refine Code.wp_mono (fun e a' w' q => ?_) (round k a w (by omega) hi)
      cases e with
      | normal => exact ih (k + 1) a' w' (by omega) q.2
      | _ => exact q
  exact key N 0 a w (by omega) h0
def mark (D : Nat) : Deferred := { target := .collected D, args := #[] }
theorem leaves_marks {F : Fence} {n : Nat} {P : Program} {fn : Func} {tmps : Array Value} {R : Ending → World → Prop} (Q : World → Prop) (fin : ∀ W, Q W → LeavesInM F n P fn tmps R [] .returning W) (Dl : List Nat) :
    (∀ W D, D ∈ Dl → W.heap[D]? = some (.deferred (some [])) → Q W → Q (W.putObj D (.deferred none))) → ∀ W, Q W → Dl.Nodup → (∀ D ∈ Dl, W.heap[D]? = some (.deferred (some []))) → LeavesInM F n P fn tmps R (Dl.map mark) .returning W := by
  induction Dl with
  | nil => exact fun _ W h _ _ => fin W h
  | cons D Dl ih =>
    intro hQ W h hn hD
    refine ⟨by simp, .inl ⟨D, _, rfl, run_takeDeferred (hD D (by simp)), ?_⟩⟩
    refine ih (fun W D' h' => hQ W D' (by simp [h'])) _ (hQ W D (by simp) (hD D (by simp)) h) (List.nodup_cons.1 hn).2 fun D' h' => ?_
    refine (World.putObj_heap_other ?_).trans (hD D' (by simp [h']))
    rintro rfl
    exact (List.nodup_cons.1 hn).1 h'
/-- what stands ahead of each turn -/
def GoJ (wr : World) (p q : Option Addr) (L : List Int) (leave : Int) (n0 nl nr n1 n2 : Nat) (A : Option Addr) (c k b : Nat) (Dl : List Nat) (W : World) : Prop :=
  Fr (fun _ => False) wr (fun _ => False) W ∧ Blk W n0 52 #[.pointer q] ∧ Blk W nl 3 #[.int .i64 leave] ∧ Blk W nr 4 #[.bool false] ∧
    Blk W n1 49 #[.pointer p] ∧ Blk W n2 31 #[.slice A L.length c] ∧ Blk W b 3 #[.int .i64 k] ∧ Wl W (.slice A L.length c) L ∧ (∀ x, own (.slice A L.length c) x → x ≠ nr) ∧
    (wr.heap.size ≤ nr ∧ 1 < nr ∧ nl ≠ nr ∧ b ≠ nr) ∧ Dl.Nodup ∧ (∀ D ∈ Dl, W.heap[D]? = some (.deferred (some [])) ∧ wr.heap.size ≤ D)
def GoI (wr : World) (p q : Option Addr) (L : List Int) (leave : Int) (n0 nl nr n1 n2 n : Nat) (A : Option Addr) (c k : Nat) (a : Act) (W : World) : Prop :=
  ∃ (b : Nat) (Dl : List Nat) (u10 u11 u12 u13 u14 u21 u22 u23 u24 u25 u26 u27 u28 u29 u30 u31 u32 u33 u34 u35 u36 u37 u38 u39 u40 u41 u42 u43 u44 u45 u46 u47 u48 u49 u50 u51 u52 u53 u54 u55 u56 u57 u58 u59 u60 u61 u62 u63 u64 u65 u66 u67 u68 u69 u70 u71 u72 u73 u74 u75 u76 u77 u78 u79 u80 u81 u82 u83 u84 u85 u86 u87 u88 u89 u90 : Value), a = ⟨#[.pointer p, .pointer q, .int .i64 leave, undef, .pointer (some ⟨n0, 0, none⟩), .pointer (some ⟨nl, 0, none⟩), .pointer (some ⟨nr, 0, none⟩), .func (.func 72) #[] #[.pointer (some ⟨n1, 0, none⟩)], .pointer (some ⟨n2, 0, none⟩), .pointer (some ⟨b, 0, none⟩), u10, u11, u12, u13, u14, .pointer p, .func (.func 72) #[] #[.pointer (some ⟨n1, 0, none⟩)], .func (.func 72) #[] #[.pointer (some ⟨n1, 0, none⟩)], .bool false, .pointer q, .slice A n c, u21, u22, u23, u24, u25, u26, u27, u28, u29, u30, u31, u32, u33, u34, u35, u36, u37, u38, u39, u40, u41, u42, u43, u44, u45, u46, u47, u48, u49, u50, u51, u52, u53, u54, u55, u56, u57, u58, u59, u60, u61, u62, u63, u64, u65, u66, u67, u68, u69, u70, u71, u72, u73, u74, u75, u76, u77, u78, u79, u80, u81, u82, u83, u84, u85, u86, u87, u88, u89, u90], Dl.map mark⟩ ∧ GoJ wr p q L leave n0 nl nr n1 n2 A c k b Dl W
/-- how the body of a turn is left -/
def GoX (L : List Int) (g : Int → Int) (leave : Int) (k : Nat) (c : Code) (pre : List (Int × Int)) : Prop :=
  (c = .ret ∧ ∀ m, m ≤ L.length → pre ≠ (prs L g).take m) ∨ (c = .exit 2 ∧ k = 0 ∧ (pre.length : Int) = leave ∧ 0 < leave)
theorem prs_len (L : List Int) (g : Int → Int) : (prs L g).length = L.length := by simp [prs]
theorem prs_at {L : List Int} {g : Int → Int} {pre : List (Int × Int)} {x : Int × Int} (hlen : pre.length < L.length) (hpre : pre = (prs L g).take pre.length) :
    (x = (L[pre.length], g L[pre.length]) → pre ++ [x] = (prs L g).take (pre ++ [x]).length) ∧ (x ≠ (L[pre.length], g L[pre.length]) → ∀ m, m ≤ L.length → pre ++ [x] ≠ (prs L g).take m) := by
  have e : (prs L g).take (pre.length + 1) = pre ++ [(L[pre.length], g L[pre.length])] := by
    rw [List.take_add_one, ← hpre]
    simp [prs, hlen]
  refine ⟨fun h => ?_, fun h m hm hc => h ?_⟩
  · rw [List.length_append, List.length_singleton, e, h]
  · have h1 := congrArg List.length hc
    rw [List.length_take, prs_len, List.length_append, List.length_singleton] at h1
    have h2 : m = pre.length + 1 := by omega
    rw [h2, e] at hc
    simpa using hc
section
variable {w wr : World} {p q : Option Addr} {L : List Int} {g : Int → Int} {sl : Nat} {ask : Int → Nat} {V : World → Prop}
set_option maxRecDepth 100000 in
theorem goes_b (hV : Vw p q L g sl ask V) (h : V wr) (leave : Int) (hl1 : -9223372036854775808 ≤ leave) (hl2 : leave ≤ 9223372036854775807) :
    Calls Tryd.prog 64 #[.pointer p, .pointer q, .int .i64 leave] wr fun e w' => e = .returned (.bool true) ∧ Fr (fun _ => False) wr (fun _ => False) w' := by
  have hV := Lib.hid hV
  have P0 := Lib.hid h
  have sn := seqW_nil
  have hLl : (L.length : Int) ≤ 4398046511104 := by have := hV.out.len; omega
  obtain ⟨w1, hw1⟩ : ∃ u, Hid (u = ((wr.alloc (.cells #[.pointer q] 52)).alloc (.cells #[.int .i64 leave] 3)).alloc (.cells #[.bool false] 4)) := ⟨_, Lib.hid rfl⟩
  have M1 : Hid (Fr (fun _ => False) wr (fun _ => False) w1) := Lib.hid (by rw [hw1.out]; exact (((Fr.refl _ wr).alloc _).alloc _).alloc _)
  have s1 : Hid (w1.heap.size = wr.heap.size + 3) := Lib.hid (by rw [hw1.out]; simp)
  have R1 : Hid (Blk w1 wr.heap.size 52 #[.pointer q] ∧ Blk w1 (wr.heap.size + 1) 3 #[.int .i64 leave] ∧ Blk w1 (wr.heap.size + 1 + 1) 4 #[.bool false]) := Lib.hid (by
    rw [hw1.out]
    have b2 := Blk.new (wr.alloc (.cells #[.pointer q] 52)) 3 #[.int .i64 leave]
    have b3 := Blk.new ((wr.alloc (.cells #[.pointer q] 52)).alloc (.cells #[.int .i64 leave] 3)) 4 #[.bool false]
    simp only [World.size_alloc] at b2 b3
    exact ⟨((Blk.new _ _ _).alloc _).alloc _, b2.alloc _, b3⟩)
  clear h
  refine calls_marks Tryd.func64 rfl ?_
  simp only [Tryd.ntmps64, List.size_toArray, List.length_cons, List.length_nil, Nat.reduceAdd, Nat.reduceSub, Array.replicate_succ, Array.replicate_zero, List.push_toArray, List.append_toArray, List.nil_append, List.cons_append]
  go_wp2_with fail
  rw [← hw1.out]
  refine (allW_b (w := w1)).mono ?_
  rintro _ w2 ⟨rfl, hw2⟩
  replace hw2 := Lib.hid hw2
  have M2 : Hid (Fr (fun _ => False) wr (fun _ => False) w2) := Lib.hid (by rw [hw2.out]; exact M1.out.alloc _)
  have P2 := Lib.hid (hV.out.keep P0.out M2.out)
  have s2 : Hid (w2.heap.size = wr.heap.size + 4) := Lib.hid (by rw [hw2.out]; simp [s1.out])
  have R2 : Hid (Blk w2 wr.heap.size 52 #[.pointer q] ∧ Blk w2 (wr.heap.size + 1) 3 #[.int .i64 leave] ∧ Blk w2 (wr.heap.size + 1 + 1) 4 #[.bool false] ∧ Blk w2 w1.heap.size 49 #[.pointer p]) := Lib.hid (by
    rw [hw2.out]
    exact ⟨R1.out.1.alloc _, R1.out.2.1.alloc _, R1.out.2.2.alloc _, Blk.new _ _ _⟩)
  have r0 : w2.cell? ⟨wr.heap.size, 0, none⟩ = some (.pointer q) := R2.out.1.cell 0
  have C1 := Lib.hid (hV.out.keysU w2 P2.out)
  clear hw1 hw2 R1 M1
  go_wp2_with fail
  refine C1.out.mono ?_
  rintro _ w3 ⟨A3, c3, rfl, v3, rfl⟩
  have hown : Hid (∀ x, own (.slice A3 L.length c3) x → x ≠ wr.heap.size + 1 + 1) := Lib.hid (by
    rintro x hx rfl
    exact Rowv.ne_ v3 R2.out.2.2.1 (by decide) hx)
  have G0 : Hid (GoJ wr p q L leave wr.heap.size (wr.heap.size + 1) (wr.heap.size + 1 + 1) w1.heap.size w2.heap.size A3 c3 0 (w2.heap.size + 1) [] ((w2.alloc (.cells #[.slice A3 L.length c3] 31)).alloc (.cells #[.int .i64 0] 3))) := Lib.hid (by
    have b2 := Blk.new (w2.alloc (.cells #[.slice A3 L.length c3] 31)) 3 #[.int .i64 0]
    simp only [World.size_alloc] at b2
    have e1 := s1.out
    have e2 := s2.out
    exact ⟨(M2.out.alloc _).alloc _, (R2.out.1.alloc _).alloc _, (R2.out.2.1.alloc _).alloc _, (R2.out.2.2.1.alloc _).alloc _, (R2.out.2.2.2.alloc _).alloc _, (Blk.new _ _ _).alloc _, b2, (v3.alloc _).alloc _, hown.out, ⟨by omega, by omega, by omega, by omega⟩, List.nodup_nil, fun D h => by cases h⟩)
  clear v3 C1 R2 r0 s1 s2 M2 hown
  go_wp2
  refine wp_loop_count 2 (GoI wr p q L leave wr.heap.size (wr.heap.size + 1) (wr.heap.size + 1 + 1) w1.heap.size w2.heap.size L.length A3 c3) ⟨_, [], _, _, _, _, _, _, _, _, _, _, _, _, _, _, _, _, _, _, _, _, _, _, _, _, _, _, _, _, _, _, _, _, _, _, _, _, _, _, _, _, _, _, _, _, _, _, _, _, _, _, _, _, _, _, _, _, _, _, _, _, _, _, _, _, _, _, _, _, _, _, _, _, _, _, _, rfl, G0.out⟩ ?round
  case round =>
    clear P2 G0
    intro k a W hk hI
    obtain ⟨b, Dl, u10, u11, u12, u13, u14, u21, u22, u23, u24, u25, u26, u27, u28, u29, u30, u31, u32, u33, u34, u35, u36, u37, u38, u39, u40, u41, u42, u43, u44, u45, u46, u47, u48, u49, u50, u51, u52, u53, u54, u55, u56, u57, u58, u59, u60, u61, u62, u63, u64, u65, u66, u67, u68, u69, u70, u71, u72, u73, u74, u75, u76, u77, u78, u79, u80, u81, u82, u83, u84, u85, u86, u87, u88, u89, u90, rfl, HJ⟩ := hI
    have HJ := Lib.hid HJ
    generalize wr.heap.size + 1 + 1 = nr at *
    generalize wr.heap.size + 1 = nl at *
    generalize w1.heap.size = n1 at *
    generalize w2.heap.size = n2 at *
    obtain ⟨M, Bq, Bl, Br, Ba, Bw, Bk, Wv, ho, ⟨hr0, hr1, hlr, hbr⟩, hnd, hD⟩ := HJ.out
    have h0r := Blk.ne_ Bq Br (by decide)
    have h1r := Blk.ne_ Ba Br (by decide)
    have h2r := Blk.ne_ Bw Br (by decide)
    generalize hn0 : wr.heap.size = n0 at *
    replace hn0 := Lib.hid hn0
    have c9 : W.cell? ⟨b, 0, none⟩ = some (.int .i64 k) := Bk.cell 0
    by_cases hk2 : k < 2
    · have hki : decide ((k : Int) < 2) = true := decide_eq_true (by omega)
      obtain ⟨W1, hW1⟩ : ∃ u, Hid (u = W.alloc (.cells #[.int .i64 0] 3)) := ⟨_, Lib.hid rfl⟩
      have sW : Hid (W1.heap.size = W.heap.size + 1) := Lib.hid (by rw [hW1.out]; simp)
      have sM := Lib.hid M.size
      have M1 : Hid (Fr (fun _ => False) wr (fun _ => False) W1) := Lib.hid (by rw [hW1.out]; exact M.alloc _)
      have B1 : Hid (Blk W1 n0 52 #[.pointer q] ∧ Blk W1 (nl) 3 #[.int .i64 leave] ∧ Blk W1 (nr) 4 #[.bool false] ∧ Blk W1 n1 49 #[.pointer p] ∧ Blk W1 n2 31 #[.slice A3 L.length c3] ∧ Blk W1 b 3 #[.int .i64 k] ∧ Blk W1 W.heap.size 3 #[.int .i64 0] ∧ Wl W1 (.slice A3 L.length c3) L) := Lib.hid (by
        rw [hW1.out]
        exact ⟨Bq.alloc _, Bl.alloc _, Br.alloc _, Ba.alloc _, Bw.alloc _, Bk.alloc _, Blk.new _ _ _, Wv.alloc _⟩)
      have hbW := Bk.lt
      have hrW := Br.lt
      have hn2W := Bw.lt
      have hn1W := Ba.lt
      have hqW := Bq.lt
      have hlW := Bl.lt
      have hseq := Lib.hid (hV.out.seq W1 n1 (fun _ j => j = W.heap.size ∨ j = nr) (hV.out.keep P0.out M1.out) B1.out.2.2.2.1 (fun W' hW' j hj => by have := hW'.size; have := sW.out; omega) (fun _ _ _ _ _ j hj => hj) (fun _ h => by omega))
      have hvlt := Lib.hid (Wv.lt)
      clear M Bq Bl Br Ba Bw Bk Wv
      go_wp2_with fail
      rw [← hW1.out]
      refine wp_rangeFunc_P (gf := 72) (lb := #[.pointer (some ⟨n1, 0, none⟩)]) rfl (enters_of Tryd.func72 (by kernel_rfl) rfl)
        hseq.out KpR.trans (fun W l o o' h1 h2 h3 h4 => KpR.turn h2 h3 fun _ h => h) (KpR.refl _) (Below.refl _ _) (fun _ => rfl)
        (fun x tm => (tm.setIfInBounds 11 (.int .u64 x.1)).setIfInBounds 12 (.int .u64 x.2))
        (fun pre W' => Hid (Blk W' W.heap.size 3 #[.int .i64 pre.length]) ∧ (pre = (prs L g).take pre.length ∧ (k = 0 → leave ≤ 0 ∨ (pre.length : Int) < leave)) ∧ Hid (Fr (fun j => j = W.heap.size ∨ j = nr) W1 (fun j => j = W.heap.size ∨ j = nr) W') ∧ Hid (Blk W' (nr) 4 #[.bool false]))
        (fun c pre W' => GoX L g leave k c pre ∧ (c = .exit 2 → Hid (Blk W' W.heap.size 3 #[.int .i64 pre.length]) ∧ Hid (Fr (fun j => j = W.heap.size ∨ j = nr) W1 (fun j => j = W.heap.size ∨ j = nr) W') ∧ Hid (Blk W' (nr) 4 #[.bool false])))
        (fun _ W W' row hs hg hr => ⟨Lib.hid (hs.1.out.ownFrom hg hr), hs.2.1, Lib.hid (hs.2.2.1.out.ownFrom (Nat.le_refl _) hg hr), Lib.hid (hs.2.2.2.out.ownFrom hg hr)⟩)
        (fun _ _ W W' row hs hg hr => ⟨hs.1, fun e => ⟨Lib.hid ((hs.2 e).1.out.ownFrom hg hr), Lib.hid ((hs.2 e).2.1.out.ownFrom (Nat.le_refl _) hg hr), Lib.hid ((hs.2 e).2.2.out.ownFrom hg hr)⟩⟩)
        ⟨Lib.hid B1.out.2.2.2.2.2.2.1, ⟨by simp, fun _ => by simp only [List.length_nil]; omega⟩, Lib.hid (Fr.refl _ _), Lib.hid B1.out.2.2.1⟩ ?assign ?body ?done ?stop
      case assign =>
        intro l x W K hK
        gi_wp2
      case body =>
        intro yl pre x W' hl hyr hi hlen
        obtain ⟨Bn, hpr, F9, Br9⟩ := hi
        obtain ⟨hpre, hlv⟩ := hpr
        obtain ⟨hin, hout⟩ := prs_at (g := g) (x := x) hlen hpre
        replace hin := Lib.hid hin
        replace hout := Lib.hid hout
        replace hpre := Lib.hid hpre
        replace hlv := Lib.hid hlv
        have hj1 : Hid (∀ j, j ≠ W.heap.size → j ≠ nr → ¬ (j = W.heap.size ∨ j = nr)) := Lib.hid fun j a b h => h.elim a b
        have fW : Hid (Fr (fun _ => False) wr (fun _ => False) W') := Lib.hid (M1.out.beside F9.out fun j hj => by have := sM.out; have := hn0.out; omega)
        have q0 : W'.cell? ⟨n0, 0, none⟩ = some (.pointer q) := (F9.out.blk B1.out.1 (by omega)).cell 0
        have ql : W'.cell? ⟨nl, 0, none⟩ = some (.int .i64 leave) := (F9.out.blk B1.out.2.1 (by omega)).cell 0
        have qw : W'.cell? ⟨n2, 0, none⟩ = some (.slice A3 L.length c3) := (F9.out.blk B1.out.2.2.2.2.1 (by omega)).cell 0
        have qk : W'.cell? ⟨b, 0, none⟩ = some (.int .i64 k) := (F9.out.blk B1.out.2.2.2.2.2.1 (by omega)).cell 0
        have qn : W'.cell? ⟨W.heap.size, 0, none⟩ = some (.int .i64 pre.length) := Bn.out.cell 0
        have zn := Bn.out.frozen 0
        have zr := Br9.out.frozen 0
        have qr : W'.cell? ⟨nr, 0, none⟩ = some (.bool false) := Br9.out.cell 0
        obtain ⟨ga, off, rfl, hc⟩ := Wl.cell (B1.out.2.2.2.2.2.2.2.frs F9.out fun j hj => by have := hvlt.out j hj; have := ho j hj; omega) hlen
        have qx : W'.cell? ⟨ga, off + pre.length, none⟩ = some (.int .u64 L[pre.length]) := hc _ hlen
        have G := Lib.hid (hV.out.getU W' L[pre.length] (hV.out.keep P0.out fW.out))
        rw [decide_eq_true (List.getElem_mem hlen)] at G
        have hge : decide ((pre.length : Int) ≥ (L.length : Int)) = false := decide_eq_false (by omega)
        have hlz : (pre.length : Int) < (L.length : Int) := by omega
        have E1 : Hid (∀ m W'', W'' = (W'.drewN m).setCell ⟨nr, 0, none⟩ (.bool false) → KeepsOthers W' W'') := Lib.hid fun m W'' e => by rw [e]; have := KeepsOthers.setCell (W'.drewN m) ⟨nr, 0, none⟩ (.bool false); exact ⟨this.size, this.same⟩
        have E2 : Hid (∀ m W'', W'' = (W'.drewN m).setCell ⟨W.heap.size, 0, none⟩ (.int .i64 ((pre.length : Int) + 1)) → KeepsOthers W' W'' ∧ KpR (fun _ j => j = W.heap.size ∨ j = nr) W' W'' ∧ Hid (Blk W'' W.heap.size 3 #[.int .i64 (pre ++ [x]).length]) ∧ Hid (Fr (fun j => j = W.heap.size ∨ j = nr) W1 (fun j => j = W.heap.size ∨ j = nr) W'') ∧ Hid (Blk W'' (nr) 4 #[.bool false])) := Lib.hid fun m W'' e => by
          have f9 : Fr (fun j => j = W.heap.size ∨ j = nr) W' (fun j => j = W.heap.size ∨ j = nr) W'' := by rw [e]; exact ((Fr.refl _ W').drewN m).set (p := ⟨W.heap.size, 0, none⟩) (.inl (.inl rfl)) _
          refine ⟨by rw [e]; have := KeepsOthers.setCell (W'.drewN m) ⟨W.heap.size, 0, none⟩ (.int .i64 ((pre.length : Int) + 1)); exact ⟨this.size, this.same⟩, KpR.of_fr f9 (fun _ h => h) (fun _ h => .inl h), Lib.hid ?_, Lib.hid (F9.out.trans f9), Lib.hid ?_⟩
          · rw [e]
            have := (Bn.out.drewN m).set_ 0 (.int .i64 ((pre.length : Int) + 1))
            simpa using this
          · rw [e]
            exact (Br9.out.drewN m).far (p := ⟨W.heap.size, 0, none⟩) (by show nr ≠ W.heap.size; omega) _
        clear hseq hc B1 M1 P0 hV Bn F9 Br9 hj1 HJ hD hyr
        generalize L[pre.length] = y at *
        obtain ⟨xk, xv⟩ := x
        by_cases hxk : xk = y
        · subst hxk
          by_cases hxv : xv = g xk
          · subst hxv
            replace hin := Lib.hid (hin.out rfl)
            generalize g xk = gy at *
            clear hout E1
            gi_wp2_with fail
            refine ⟨trivial, (CallsIn.inRound yl (callsIn_wide.2 G.out)).mono ?_⟩
            rintro _ w7 ⟨rfl, m, rfl⟩
            by_cases hk0 : k = 0
            · subst hk0
              by_cases hnl : (pre.length : Int) + 1 = leave
              · have hnl2 : ((pre.length : Int) + 1 == leave) = true := by simpa using hnl
                replace hnl := Lib.hid hnl
                gi_wp2
                obtain ⟨a1, a2, a3, a4, a5⟩ := E2.out m _ rfl
                exact ⟨a1.from _, .inr ⟨rfl, rfl, by rw [List.length_append, List.length_singleton]; have := hnl.out; omega, by have := hnl.out; omega⟩, fun _ => ⟨a3, a4, a5⟩⟩
              · have hnl2 : ((pre.length : Int) + 1 == leave) = false := by simpa using hnl
                replace hnl := Lib.hid hnl
                gi_wp2
                obtain ⟨a1, a2, a3, a4, a5⟩ := E2.out m _ rfl
                exact ⟨a1.from _, a2, a3, ⟨hin.out, by rw [List.length_append, List.length_singleton]; have := hlv.out trivial; have := hnl.out; omega⟩, a4, a5⟩
            · have hk3 : ((k : Int) == 0) = false := by simp; omega
              gi_wp2
              obtain ⟨a1, a2, a3, a4, a5⟩ := E2.out m _ rfl
              exact ⟨a1.from _, a2, a3, ⟨hin.out, fun h => (hk0 h).elim⟩, a4, a5⟩
          · have hxv2 : (xv != g xk) = true := by simpa using hxv
            have ho2 := Lib.hid (hout.out (fun e => by injection e with _ e; exact hxv e))
            clear hin hout E2
            gi_wp2_with fail
            refine ⟨trivial, (CallsIn.inRound yl (callsIn_wide.2 G.out)).mono ?_⟩
            rintro _ w7 ⟨rfl, m, rfl⟩
            gi_wp2
            have a1 := E1.out m _ rfl
            exact ⟨a1.from _, .inl ⟨rfl, ho2.out⟩, fun e => by cases e⟩
        · have hxk2 : (xk != y) = true := by simpa using hxk
          have ho2 := Lib.hid (hout.out (fun e => by injection e with e _; exact hxk e))
          clear hin hout E2
          gi_wp2
          have a1 := E1.out 0 _ rfl
          exact ⟨a1.from _, .inl ⟨rfl, ho2.out⟩, fun e => by cases e⟩
      case done =>
        rintro D xs W' hDD hxs ⟨Bn, hpr, F9, Br9⟩ hK
        have hlv := Lib.hid hpr.2
        have hxl : xs.length = L.length := by rw [hxs, prs_len]
        rw [hxl] at Bn hlv
        clear hpr hxs hxl
        have qn : W'.cell? ⟨W.heap.size, 0, none⟩ = some (.int .i64 L.length) := Bn.out.cell 0
        have fW : Hid (Fr (fun _ => False) wr (fun _ => False) W') := Lib.hid (M1.out.beside F9.out fun j hj => by have := sM.out; have := hn0.out; omega)
        have Z1 : Hid (Blk W' n0 52 #[.pointer q] ∧ Blk W' nl 3 #[.int .i64 leave] ∧ Blk W' nr 4 #[.bool false] ∧ Blk W' n1 49 #[.pointer p] ∧ Blk W' n2 31 #[.slice A3 L.length c3] ∧ Blk W' b 3 #[.int .i64 k] ∧ Wl W' (.slice A3 L.length c3) L) := Lib.hid
          ⟨F9.out.blk B1.out.1 (by omega), F9.out.blk B1.out.2.1 (by omega), Br9.out, F9.out.blk B1.out.2.2.2.1 (by omega), F9.out.blk B1.out.2.2.2.2.1 (by omega), F9.out.blk B1.out.2.2.2.2.2.1 (by omega), B1.out.2.2.2.2.2.2.2.frs F9.out fun j hj => by have := hvlt.out j hj; have := ho j hj; omega⟩
        have ql : W'.cell? ⟨nl, 0, none⟩ = some (.int .i64 leave) := Z1.out.2.1.cell 0
        have qw : W'.cell? ⟨n2, 0, none⟩ = some (.slice A3 L.length c3) := Z1.out.2.2.2.2.1.cell 0
        have qk : W'.cell? ⟨b, 0, none⟩ = some (.int .i64 k) := Z1.out.2.2.2.2.2.1.cell 0
        have zk : W'.frozen? ⟨b, 0, none⟩ = false := Z1.out.2.2.2.2.2.1.frozen 0
        have hDD2 : wr.heap.size ≤ D := by have := M1.out.size; omega
        have hDl : Hid (D ∉ Dl) := Lib.hid fun h => by have h9 := (Array.getElem?_eq_some_iff.1 (hD D h).1).1; have := sW.out; omega
        have E3 : Hid (∀ W'', (W'' = (W'.alloc (.cells #[.int .i64 ((k : Int) + 1)] 3)) ∨ W'' = (W'.alloc (.cells #[.int .i64 k] 3)).setCell ⟨W'.heap.size, 0, none⟩ (.int .i64 ((k : Int) + 1))) → GoJ wr p q L leave n0 nl nr n1 n2 A3 c3 (k + 1) W'.heap.size (D :: Dl) W'') := Lib.hid fun W'' e => by
          have hb : Blk W'' W'.heap.size 3 #[.int .i64 ((k + 1 : Nat) : Int)] := by
            rcases e with e | e
            · rw [e]
              have := Blk.new W' 3 #[.int .i64 ((k : Int) + 1)]
              simpa using this
            · rw [e]
              have := (Blk.new W' 3 #[.int .i64 k]).set_ 0 (.int .i64 ((k : Int) + 1))
              simpa using this
          have f9 : Fr (fun _ => False) W' (fun _ => False) W'' := by
            rcases e with e | e
            · rw [e]; exact (Fr.refl _ W').alloc _
            · rw [e]; exact ((Fr.refl _ W').alloc _).set (p := ⟨W'.heap.size, 0, none⟩) (.inr (.inr (Nat.le_refl _))) _
          obtain ⟨z1, z2, z3, z4, z5, z6, z7⟩ := Z1.out
          have hnw := z3.lt
          have hD0 : W''.heap[D]? = some (.deferred (some [])) := (f9.block D (Array.getElem?_eq_some_iff.1 hK).1 (fun h => h)).trans hK
          refine ⟨fW.out.trans f9, f9.blk z1 (fun h => h), f9.blk z2 (fun h => h), f9.blk z3 (fun h => h), f9.blk z4 (fun h => h), f9.blk z5 (fun h => h), hb, z7.frs f9 fun _ _ h => h, ho, ⟨by have := hn0.out; omega, hr1, hlr, by omega⟩, List.nodup_cons.2 ⟨hDl.out, hnd⟩, fun D' hD' => ?_⟩
          rcases List.mem_cons.1 hD' with rfl | hD'
          · exact ⟨hD0, hDD2⟩
          · obtain ⟨d1, d2⟩ := hD D' hD'
            refine ⟨?_, by have := hn0.out; omega⟩
            have e0 : W1.heap[D']? = some (.deferred (some [])) := by rw [hW1.out]; exact (Below.heap_alloc W _ D' (Array.getElem?_eq_some_iff.1 d1).1).trans d1
            have l1 := (Array.getElem?_eq_some_iff.1 e0).1
            have l2 := (Array.getElem?_eq_some_iff.1 d1).1
            have hne : D' ≠ nr := fun h => by rw [h] at e0; have := Blk.isCells B1.out.2.2.1 e0; cases this
            have e1 : W'.heap[D']? = some (.deferred (some [])) := (F9.out.block D' l1 (fun h => h.elim (fun h => by omega) hne)).trans e0
            exact (f9.block D' (Array.getElem?_eq_some_iff.1 e1).1 (fun h => h)).trans e1
        clear hseq B1 M1 P0 hV F9 Br9 HJ hD hK
        by_cases hk0 : k = 0
        · subst hk0
          have hlv := hlv.out rfl
          by_cases hl0 : leave ≤ 0
          · go_wp2
            exact ⟨_, D :: Dl, _, _, _, _, _, _, _, _, _, _, _, _, _, _, _, _, _, _, _, _, _, _, _, _, _, _, _, _, _, _, _, _, _, _, _, _, _, _, _, _, _, _, _, _, _, _, _, _, _, _, _, _, _, _, _, _, _, _, _, _, _, _, _, _, _, _, _, _, _, _, _, _, _, _, _, rfl, E3.out _ (.inl (by simp))⟩
          · go_wp2
            exact ⟨_, D :: Dl, _, _, _, _, _, _, _, _, _, _, _, _, _, _, _, _, _, _, _, _, _, _, _, _, _, _, _, _, _, _, _, _, _, _, _, _, _, _, _, _, _, _, _, _, _, _, _, _, _, _, _, _, _, _, _, _, _, _, _, _, _, _, _, _, _, _, _, _, _, _, _, _, _, _, _, rfl, E3.out _ (.inl (by simp))⟩
        · have hk3 : ((k : Int) == 0) = false := by simp; omega
          go_wp2
          exact ⟨_, D :: Dl, _, _, _, _, _, _, _, _, _, _, _, _, _, _, _, _, _, _, _, _, _, _, _, _, _, _, _, _, _, _, _, _, _, _, _, _, _, _, _, _, _, _, _, _, _, _, _, _, _, _, _, _, _, _, _, _, _, _, _, _, _, _, _, _, _, _, _, _, _, _, _, _, _, _, _, rfl, E3.out _ (.inl rfl)⟩
      case stop =>
        rintro D c pre W' hDD ⟨m, hm, hpm⟩ ⟨hx, hX⟩ hK
        rcases hx with ⟨_, hx⟩ | ⟨rfl, hk0, hpl, hl0⟩
        · exact (hx m hm hpm).elim
        obtain ⟨Bn, F9, Br9⟩ := hX rfl
        have hpn : pre.length ≤ L.length := by rw [hpm, List.length_take, prs_len]; omega
        have qn : W'.cell? ⟨W.heap.size, 0, none⟩ = some (.int .i64 pre.length) := Bn.out.cell 0
        rw [hpl] at qn
        clear hX hpm
        have fW : Hid (Fr (fun _ => False) wr (fun _ => False) W') := Lib.hid (M1.out.beside F9.out fun j hj => by have := sM.out; have := hn0.out; omega)
        have Z1 : Hid (Blk W' n0 52 #[.pointer q] ∧ Blk W' nl 3 #[.int .i64 leave] ∧ Blk W' nr 4 #[.bool false] ∧ Blk W' n1 49 #[.pointer p] ∧ Blk W' n2 31 #[.slice A3 L.length c3] ∧ Blk W' b 3 #[.int .i64 k] ∧ Wl W' (.slice A3 L.length c3) L) := Lib.hid
          ⟨F9.out.blk B1.out.1 (by omega), F9.out.blk B1.out.2.1 (by omega), Br9.out, F9.out.blk B1.out.2.2.2.1 (by omega), F9.out.blk B1.out.2.2.2.2.1 (by omega), F9.out.blk B1.out.2.2.2.2.2.1 (by omega), B1.out.2.2.2.2.2.2.2.frs F9.out fun j hj => by have := hvlt.out j hj; have := ho j hj; omega⟩
        have ql : W'.cell? ⟨nl, 0, none⟩ = some (.int .i64 leave) := Z1.out.2.1.cell 0
        have qw : W'.cell? ⟨n2, 0, none⟩ = some (.slice A3 L.length c3) := Z1.out.2.2.2.2.1.cell 0
        have qk : W'.cell? ⟨b, 0, none⟩ = some (.int .i64 k) := Z1.out.2.2.2.2.2.1.cell 0
        have zk : W'.frozen? ⟨b, 0, none⟩ = false := Z1.out.2.2.2.2.2.1.frozen 0
        have hDD2 : wr.heap.size ≤ D := by have := M1.out.size; omega
        have hDl : Hid (D ∉ Dl) := Lib.hid fun h => by have h9 := (Array.getElem?_eq_some_iff.1 (hD D h).1).1; have := sW.out; omega
        have E3 : Hid (∀ W'', (W'' = (W'.alloc (.cells #[.int .i64 ((k : Int) + 1)] 3)) ∨ W'' = (W'.alloc (.cells #[.int .i64 k] 3)).setCell ⟨W'.heap.size, 0, none⟩ (.int .i64 ((k : Int) + 1))) → GoJ wr p q L leave n0 nl nr n1 n2 A3 c3 (k + 1) W'.heap.size (D :: Dl) W'') := Lib.hid fun W'' e => by
          have hb : Blk W'' W'.heap.size 3 #[.int .i64 ((k + 1 : Nat) : Int)] := by
            rcases e with e | e
            · rw [e]
              have := Blk.new W' 3 #[.int .i64 ((k : Int) + 1)]
              simpa using this
            · rw [e]
              have := (Blk.new W' 3 #[.int .i64 k]).set_ 0 (.int .i64 ((k : Int) + 1))
              simpa using this
          have f9 : Fr (fun _ => False) W' (fun _ => False) W'' := by
            rcases e with e | e
            · rw [e]; exact (Fr.refl _ W').alloc _
            · rw [e]; exact ((Fr.refl _ W').alloc _).set (p := ⟨W'.heap.size, 0, none⟩) (.inr (.inr (Nat.le_refl _))) _
          obtain ⟨z1, z2, z3, z4, z5, z6, z7⟩ := Z1.out
          have hnw := z3.lt
          have hD0 : W''.heap[D]? = some (.deferred (some [])) := (f9.block D (Array.getElem?_eq_some_iff.1 hK).1 (fun h => h)).trans hK
          refine ⟨fW.out.trans f9, f9.blk z1 (fun h => h), f9.blk z2 (fun h => h), f9.blk z3 (fun h => h), f9.blk z4 (fun h => h), f9.blk z5 (fun h => h), hb, z7.frs f9 fun _ _ h => h, ho, ⟨by have := hn0.out; omega, hr1, hlr, by omega⟩, List.nodup_cons.2 ⟨hDl.out, hnd⟩, fun D' hD' => ?_⟩
          rcases List.mem_cons.1 hD' with rfl | hD'
          · exact ⟨hD0, hDD2⟩
          · obtain ⟨d1, d2⟩ := hD D' hD'
            refine ⟨?_, by have := hn0.out; omega⟩
            have e0 : W1.heap[D']? = some (.deferred (some [])) := by rw [hW1.out]; exact (Below.heap_alloc W _ D' (Array.getElem?_eq_some_iff.1 d1).1).trans d1
            have l1 := (Array.getElem?_eq_some_iff.1 e0).1
            have l2 := (Array.getElem?_eq_some_iff.1 d1).1
            have hne : D' ≠ nr := fun h => by rw [h] at e0; have := Blk.isCells B1.out.2.2.1 e0; cases this
            have e1 : W'.heap[D']? = some (.deferred (some [])) := (F9.out.block D' l1 (fun h => h.elim (fun h => by omega) hne)).trans e0
            exact (f9.block D' (Array.getElem?_eq_some_iff.1 e1).1 (fun h => h)).trans e1
        clear hseq B1 M1 P0 hV F9 Br9 HJ hD hK
        subst hk0
        have hll : leave ≤ (L.length : Int) := by omega
        clear hpl
        go_wp2
        exact ⟨_, D :: Dl, _, _, _, _, _, _, _, _, _, _, _, _, _, _, _, _, _, _, _, _, _, _, _, _, _, _, _, _, _, _, _, _, _, _, _, _, _, _, _, _, _, _, _, _, _, _, _, _, _, _, _, _, _, _, _, _, _, _, _, _, _, _, _, _, _, _, _, _, _, _, _, _, _, _, _, rfl, E3.out _ (.inl (by simp))⟩
    · obtain rfl : k = 2 := by omega
      have qr : W.cell? ⟨nr, 0, none⟩ = some (.bool false) := Br.cell 0
      have zr := Br.frozen 0
      have B2 : Hid (Blk (W.setCell ⟨nr, 0, none⟩ (.bool true)) nr 4 #[.bool true]) := Lib.hid (by simpa using Br.set_ 0 (.bool true))
      have M2 : Hid (Fr (fun _ => False) wr (fun _ => False) (W.setCell ⟨nr, 0, none⟩ (.bool true))) := Lib.hid (M.set (p := ⟨nr, 0, none⟩) (.inr (.inr (by show wr.heap.size ≤ nr; have := hn0.out; omega))) _)
      have D2 : Hid (∀ D ∈ Dl, (W.setCell ⟨nr, 0, none⟩ (.bool true)).heap[D]? = some (.deferred (some [])) ∧ wr.heap.size ≤ D) := Lib.hid fun D h => by
        obtain ⟨d1, d2⟩ := hD D h
        refine ⟨(Below.heap_setCell W ⟨nr, 0, none⟩ _ D ?_).trans d1, by have := hn0.out; omega⟩
        rintro rfl
        have := Blk.isCells Br d1
        cases this
      have hnd := Lib.hid hnd
      clear M Bq Bl Br Ba Bw Bk Wv hD HJ hV P0
      go_wp2
      refine leaves_marks (fun W' => Blk W' nr 4 #[.bool true] ∧ Fr (fun _ => False) wr (fun _ => False) W') ?_ Dl ?_ _ ⟨B2.out, M2.out⟩ hnd.out (fun D h => (D2.out D h).1)
      · rintro W9 ⟨hb9, hf9⟩
        have q9 : W9.cell? ⟨nr, 0, none⟩ = some (.bool true) := hb9.cell 0
        exact ⟨.bool true, by simp [results, Tryd.results64, go_sem, q9], rfl, hf9⟩
      · rintro W9 D hd hk9 ⟨hb9, hf9⟩
        exact ⟨hb9.shut hk9, hf9.shut (D2.out D hd).2 _⟩
end
end Go.Proofs.YtkjeobcfaolcaaaDoor
/- tells, by contract, over any pair of tables. -/
namespace Go.Proofs.YtkjeobcfaolcaaaDoor
open Go.RowKit
set_option maxHeartbeats 8000000
set_option linter.unusedVariables false
set_option linter.unusedSimpArgs false

theorem sameTe_b {va vb : Value} {l : List Int} {w : World} (h1 : Lies w va l) (h2 : Lies w vb l) (hn : (l.length : Int) ≤ 9223372036854775807) :
    Calls Tryd.prog 26 #[va, vb] w fun e w' => e = .returned (.bool true) ∧ ∃ n, w' = w.drewN n :=
  (words_b h1 h2 hn).mono fun e w' h => ⟨by simpa using h.2, h.1⟩
section
variable {w wr : World} {p q : Option Addr} {L : List Int} {g : Int → Int} {sl : Nat} {ask : Int → Nat} {V : World → Prop}
set_option maxRecDepth 100000 in
theorem tells_b (hV : Vw p q L g sl ask V) (h : V wr) (key : Int) :
    Calls Tryd.prog 35 #[.pointer p, .pointer q, .int .u64 key] wr fun e w' => e = .returned (.bool true) ∧ Fr (fun _ => False) wr (fun _ => False) w' := by
  have hV := Lib.hid hV
  have P0 := Lib.hid h
  have hli : (L.length : Int) ≤ 4398046511104 := by have := hV.out.len; omega
  have C1 := Lib.hid (hV.out.keysT wr h)
  clear h
  generalize wr = wb at *
  go_enter Tryd.func35, Tryd.ntmps35
  go_wp2_with fail
  refine C1.out.mono ?_
  rintro _ w2 ⟨A1, c1, rfl, v1, m1⟩
  have P2 := Lib.hid (hV.out.keep P0.out m1)
  have V1 := Lib.hid v1
  have M1 := Lib.hid m1
  have C2 := Lib.hid (hV.out.keysT _ P2.out)
  clear v1 m1 C1
  go_wp2_with fail
  refine C2.out.mono ?_
  rintro _ w3 ⟨A2, c2, rfl, v2, m2⟩
  have P3 := Lib.hid (hV.out.keep P2.out m2)
  have V2 := Lib.hid v2
  have V1b := Lib.hid (V1.out.frs m2 fun _ _ h => h)
  have hdis : Hid (∀ k, own (.slice A1 L.length c1) k → ¬ own (.slice A2 L.length c2) k) := Lib.hid fun k h1 h2 => (m2.new k h2).elim (fun h => h) fun h => by have := V1.out.lt k h1; omega
  have hn1 : Hid (∀ k, own (.slice A1 L.length c1) k → wb.heap.size ≤ k) := Lib.hid fun k h1 => (M1.out.new k h1).elim (fun h => h.elim) id
  have M2 : Hid (Fr (fun _ => False) wb (fun _ => False) w3) := Lib.hid (((M1.out.into (G := fun _ => False) fun _ h => h.elim)).beside m2 fun _ h => h.elim)
  have C3 := Lib.hid (hV.out.keysU _ P3.out)
  clear v2 m2 C2 V1 M1
  go_wp2_with fail
  refine C3.out.mono ?_
  rintro _ w4 ⟨A3, c3, rfl, v3, rfl⟩
  have C4 := Lib.hid (sameTe_b V1b.out.lies v3.lies (by omega))
  clear v3 C3
  go_wp2_with fail
  refine C4.out.mono ?_
  rintro _ w5 ⟨rfl, n5, rfl⟩
  have P5 := Lib.hid (hV.out.keep P3.out ((Fr.refl _ _).drewN n5))
  have V1c := Lib.hid (V1b.out.drewN n5)
  have V2c := Lib.hid (V2.out.drewN n5)
  have M5 := Lib.hid (M2.out.drewN n5)
  have L1 := Lib.hid (hV.out.lenT _ P5.out)
  have L2 := Lib.hid (hV.out.lenU _ P5.out)
  have S1 := Lib.hid (hV.out.slotsT _ P5.out)
  have S2 := Lib.hid (hV.out.slotsU _ P5.out)
  have A1c := Lib.hid (hV.out.askedT _ key P5.out)
  have A2c := Lib.hid (hV.out.askedU _ key P5.out)
  clear C4 V1b V2 M2 P3 P2
  generalize w3.drewN n5 = w6 at *
  generalize ask key = na at *
  go_wp2_with fail
  refine L1.out.mono ?_
  rintro _ w7 ⟨rfl, rfl⟩
  go_wp2_with fail
  refine L2.out.mono ?_
  rintro _ w7 ⟨rfl, rfl⟩
  go_wp2_with fail
  refine S1.out.mono ?_
  rintro _ w7 ⟨rfl, rfl⟩
  go_wp2_with fail
  refine S2.out.mono ?_
  rintro _ w7 ⟨rfl, rfl⟩
  go_wp2_with fail
  refine A1c.out.mono ?_
  rintro _ w7 ⟨rfl, rfl⟩
  go_wp2_with fail
  refine A2c.out.mono ?_
  rintro _ w7 ⟨rfl, rfl⟩
  clear L1 L2 S1 S2 A1c A2c
  go_wp2
  go_loopw [9] (fun iv wq => ∃ (i : Nat) (la : List Int), i ≤ L.length ∧ iv = .int .i64 i ∧ la.length = L.length ∧ Hid (Wl wq (.slice A1 la.length c1) la ∧ Wl wq (.slice A2 L.length c2) L ∧ Fr (fun _ => False) wb (fun _ => False) wq)) (fun iv _ => L.length - (intOf iv).toNat)
  case atStart => exact ⟨0, L, by omega, rfl, rfl, Lib.hid ⟨V1c.out, V2c.out, M5.out⟩⟩
  case round =>
    clear V1c V2c M5 P5
    obtain ⟨i, la, hi, rfl, hll, HQ⟩ := hrel
    by_cases hil : i < L.length
    · obtain ⟨ga, o, rfl, hgl, hce, hfz, hset⟩ := Wl.upd HQ.out.1 (j := i) (by omega)
      have hz : decide (i < la.length) = true := decide_eq_true (by omega)
      have hz2 : decide (i < L.length) = true := decide_eq_true hil
      have hog : ¬ own (.slice A2 L.length c2) ga := hdis.out ga (by simp [own, Value.ownBlock])
      have hgw : wb.heap.size ≤ ga := hn1.out ga (by simp [own, Value.ownBlock])
      have hset := Lib.hid hset
      have HQ2 := Lib.hid HQ.out.2
      clear HQ
      go_wp2
      go_roundw
      case rel => exact ⟨i + 1, la.set i 99, by omega, by simp, by simp; omega, Lib.hid ⟨hset.out 99, HQ2.out.1.set (p := ⟨ga, o + i, none⟩) hog _, HQ2.out.2.set (p := ⟨ga, o + i, none⟩) (.inr (.inr hgw)) _⟩⟩
      case measure => simp [intOf]; omega
    · obtain rfl : i = L.length := by omega
      go_wp2
      go_loopw [7, 10] (fun av iv wq => ∃ (i : Nat) (A : Option Addr) (c : Nat) (la : List Int), i ≤ 40 ∧ iv = .int .i64 i ∧ av = .slice A la.length c ∧ la.length = L.length + i ∧ Hid (Wl wq (.slice A la.length c) la ∧ Wl wq (.slice A2 L.length c2) L ∧ Fr (fun _ => False) wb (fun _ => False) wq ∧ (∀ k, own (.slice A la.length c) k → ¬ own (.slice A2 L.length c2) k) ∧ (∀ k, own (.slice A la.length c) k → wb.heap.size ≤ k))) (fun _ iv _ => 40 - (intOf iv).toNat)
      case atStart => exact ⟨0, A1, c1, la, by omega, rfl, by rw [hll], by omega, Lib.hid ⟨HQ.out.1, HQ.out.2.1, HQ.out.2.2, fun k hk => hdis.out k (own_len hk), fun k hk => hn1.out k (own_len hk)⟩⟩
      case round =>
        clear HQ hll hdis hn1
        obtain ⟨i, A, c, lb, hi, rfl, rfl, hlb, HQ⟩ := hrel
        by_cases hil2 : i < 40
        · have Ha := Lib.hid HQ.out.1
          have Hb := Lib.hid HQ.out.2
          have hlx := Lib.hid (show (lb.length + 1) * 8 ≤ 140737488355328 by omega)
          have hwr : ∃ u : World, u = wr := ⟨_, rfl⟩
          clear HQ
          go_wp2_with (at_builtin; refine wpList_word _ rfl (.tmp 56) (.tmp 57) rfl (.slice A lb.length c) lb 99 rfl Ha.out rfl hlx.out ?_; intro A3 c3 w3 hc3 hv3 hm3; have V3 := Lib.hid hv3; have M3 := Lib.hid hm3; clear hv3 hm3)
          go_roundw
          case rel =>
            obtain ⟨h2, h3, h4, h5⟩ := Hb.out
            refine ⟨i + 1, A3, c3, lb ++ [99], by omega, by simp, by simp; omega, by simp; omega, Lib.hid ⟨by simpa using V3.out, h2.frs M3.out fun k hk hk' => h4 k hk' hk, h3.beside M3.out h5, fun k hk hk2 => ?_, fun k hk => ?_⟩⟩
            · rcases M3.out.new k (own_len hk) with h | h
              · exact h4 k h hk2
              · have := h2.lt k hk2; omega
            · rcases M3.out.new k (own_len hk) with h | h
              · exact h5 k h
              · exact Nat.le_trans h3.size h
          case measure => simp [intOf]; omega
        · obtain rfl : i = 40 := by omega
          have P9 := Lib.hid (hV.out.keep P0.out HQ.out.2.2.1)
          have V9 := Lib.hid HQ.out.2.1
          have C3 := Lib.hid (hV.out.keysU _ P9.out)
          have M9 := Lib.hid HQ.out.2.2.1
          have h40 : decide ((lb.length : Int) ≥ 40) = true := decide_eq_true (by omega)
          clear HQ
          go_wp2_with fail
          refine C3.out.mono ?_
          rintro _ w4 ⟨A3, c3, rfl, v3, rfl⟩
          have C4 := Lib.hid (sameTe_b V9.out.lies v3.lies (by omega))
          clear v3 C3
          go_wp2_with fail
          refine C4.out.mono ?_
          rintro _ w5 ⟨rfl, n5, rfl⟩
          have C5 := Lib.hid (goes_b hV.out (hV.out.keep P9.out ((Fr.refl _ _).drewN n5)) 0 (by decide) (by decide))
          go_wp2_with fail
          refine C5.out.mono ?_
          rintro _ w6 ⟨rfl, p6⟩
          have P6 := Lib.hid ((M9.out.drewN n5).trans p6)
          clear p6 C5 C4
          go_wp2
          go_ret
          exact ⟨rfl, P6.out⟩
end
end Go.Proofs.YtkjeobcfaolcaaaDoor
/- The calls of the document's table that is not there, by contract. -/
namespace Go.Proofs.YtkjeobcfaolcaaaDoor
open Go.RowKit
set_option maxHeartbeats 4000000
set_option linter.unusedVariables false
set_option linter.unusedSimpArgs false

set_option maxRecDepth 100000 in
theorem nilGetR_b {key : Int} {w : World} : Calls Tryd.prog 39 #[.pointer none, .int .u64 key] w fun e w' => e = .returned (.tuple #[.int .u64 0, .bool false]) ∧ w = w' := by
  go_enter Tryd.func39, Tryd.ntmps39
  go_wp2
  go_ret2
  exact ⟨rfl, rfl⟩
set_option maxRecDepth 100000 in
theorem nilTakeR_b {key : Int} {w : World} : Calls Tryd.prog 63 #[.pointer none, .int .u64 key] w fun e w' => e = .returned (.tuple #[.int .u64 0, .bool false]) ∧ w = w' := by
  go_enter Tryd.func63, Tryd.ntmps63
  go_wp2
  go_ret2
  exact ⟨rfl, rfl⟩
set_option maxRecDepth 100000 in
theorem nilPutR_b {key v : Int} {w : World} : Calls Tryd.prog 58 #[.pointer none, .int .u64 key, .int .u64 v] w fun e w' => e = .returned (.tuple #[.int .u64 0, .bool false, .int .i64 1]) ∧ w = w' := by
  go_enter Tryd.func58, Tryd.ntmps58
  go_wp2
  go_ret3
  exact ⟨rfl, rfl⟩
theorem nilLenR_b {w : World} : Calls Tryd.prog 40 #[.pointer none] w fun e w' => e = .returned (.int .i64 0) ∧ w = w' := by
  go_enter Tryd.func40, Tryd.ntmps40
  go_wp2
  go_ret
  exact ⟨rfl, rfl⟩
theorem nilSlotsR_b {w : World} : Calls Tryd.prog 60 #[.pointer none] w fun e w' => e = .returned (.int .i64 0) ∧ w = w' := by
  go_enter Tryd.func60, Tryd.ntmps60
  go_wp2
  go_ret
  exact ⟨rfl, rfl⟩
theorem nilAskedR_b {key : Int} {w : World} : Calls Tryd.prog 37 #[.pointer none, .int .u64 key] w fun e w' => e = .returned (.int .i64 0) ∧ w = w' := by
  go_enter Tryd.func37, Tryd.ntmps37
  go_wp2
  go_ret
  exact ⟨rfl, rfl⟩
theorem nilKeysR_b {w : World} : Calls Tryd.prog 68 #[.pointer none] w fun e w' => e = .returned (.slice none 0 0) ∧ w = w' := by
  go_enter Tryd.func68, Tryd.ntmps68
  go_wp2
  go_ret
  exact ⟨rfl, rfl⟩
theorem nilCopyR_b {w : World} : Calls Tryd.prog 33 #[.pointer none] w fun e w' => e = .returned (.pointer none) ∧ w = w' := by
  go_enter Tryd.func33, Tryd.ntmps33
  go_wp2
  go_ret
  exact ⟨rfl, rfl⟩
theorem nilClearR_b {w : World} : Calls Tryd.prog 66 #[.pointer none] w fun e w' => (∃ v, e = .returned v) ∧ w = w' := by
  go_enter Tryd.func66, Tryd.ntmps66
  go_wp2
  go_end0
  exact ⟨⟨_, rfl⟩, rfl⟩
end Go.Proofs.YtkjeobcfaolcaaaDoor
