/- A region that draws its order, two of whose writing operations may change places: a walk of what comes ahead, and two walks from there on. -/
import Derived.Test.YtloiadhdkgkjkaaMix
import Derived.Test.YtloiadhdkgkjkaaPMn5
namespace Go.Proofs.Ytloiadhdkgkjkaa
section
variable {P : Program} {ops : Array Oper} {S : World → Prop} {Q : Exit → Act → World → Prop} {mk : Nat → Nat} {E : Act → World → Prop}

/-- The walk of a prefix; E: what must hold behind it. -/
def wpMixE (P : Program) (ops : Array Oper) (S : World → Prop) (Q : Exit → Act → World → Prop) (mk : Nat → Nat) (E : Act → World → Prop) : List Nat → Act → World → Prop
  | [], a, w => E a w
  | i :: rest, a, w => mixAt P .any ops S Q mk i (wpMixE P ops S Q mk E rest) a w
/-- The order of a prefix. -/
def mixOrdP (md : Region.Mode) (ops : Array Oper) (mk : Nat → Nat) : List Nat → Array Bool → Bool
  | [], _ => true
  | i :: rest, listed => (if mk i = 2 then decide (Region.ready md ops listed = [i]) else (Region.ready md ops listed).contains i && Region.free md ops listed i && (mk i == 0 || mk i == 3 || loudsWait md ops mk i listed)) && mixOrdP md ops mk rest (listed.setIfInBounds i true)
def listedBy : List Nat → Array Bool → Array Bool
  | [], l => l
  | i :: rest, l => listedBy rest (l.setIfInBounds i true)

theorem mixAny_of_mixE (hsel : Region.noSelect ops = true) (f : Nat) : ∀ (ord : List Nat) (listed : Array Bool) (a : Act) (w : World), Closed .any ops listed → mixOrdP .any ops mk ord listed = true →
    (∀ a w, Closed .any ops (listedBy ord listed) → E a w → mixAny P .any ops S Q mk f (listedBy ord listed) a w) → wpMixE P ops S Q mk E ord a w → mixAny P .any ops S Q mk (ord.length + f) listed a w
  | [], listed, a, w, hcl, _, hE, h => by
    have := hE a w hcl h
    rw [List.length_nil, Nat.zero_add]
    exact this
  | i :: rest, listed, a, w, hcl, hB, hE, h => by
    rw [mixOrdP, Bool.and_eq_true] at hB
    obtain ⟨hB1, hB2⟩ := hB
    unfold wpMixE at h
    have e : (i :: rest).length + f = (rest.length + f) + 1 := by simp; omega
    rw [e]
    by_cases hm : mk i = 2
    · rw [if_pos hm] at hB1
      have hr : Region.ready .any ops listed = [i] := of_decide_eq_true hB1
      refine ⟨fun h0 => (by rw [h0] at hr; cases hr), fun j hj => ?_⟩
      rw [hr] at hj
      obtain rfl : j = i := by simpa using hj
      have hcl' := hcl.set (i := j) (by rw [hr]; simp)
      exact mixAt_mono (fun a' w' _ h' => mixAny_of_mixE hsel f rest _ a' w' hcl' hB2 hE h') (fun a' h' => mixAny_of_mixE hsel f rest _ a' w hcl' hB2 hE h') h
    · rw [if_neg hm] at hB1
      simp only [Bool.and_eq_true, Bool.or_eq_true, beq_iff_eq] at hB1
      obtain ⟨⟨hr, hf⟩, hl⟩ := hB1
      have hr' : i ∈ Region.ready .any ops listed := by simpa using hr
      obtain ⟨_, oi, hoi, _⟩ := mem_ready.1 hr'
      unfold mixAt at h
      simp only [hoi] at h
      obtain ⟨v, hy, hK⟩ := mixYields_of hm h
      exact mixAny_first hoi rfl hm (Region.noSelect_spec hsel) (rest.length + f) listed a w hcl (fun h0 h3 j hj hj2 hun => loudsWait_spec (hl.resolve_left (fun h => h.elim h0 h3)) j hj hj2 hun) (Region.free_spec hoi hf) hr' hy
        (mixAny_of_mixE hsel f rest _ _ w (hcl.set hr') hB2 hE hK)

def mixB2 (ops : Array Oper) (ms pre : List Nat) (i j : Nat) (t1 t2 : List Nat) : Bool :=
  Region.noSelect ops && decide (pre.length + (t1.length + 1) = ops.size) && decide (t1.length = t2.length) && mixOrdP .any ops (fun i => ms.getD i 2) pre (Array.replicate ops.size false) &&
  decide (Region.ready .any ops (listedBy pre (Array.replicate ops.size false)) = [i, j]) &&
  mixOrd .any ops (fun i => ms.getD i 2) t1 ((listedBy pre (Array.replicate ops.size false)).setIfInBounds i true) && mixOrd .any ops (fun i => ms.getD i 2) t2 ((listedBy pre (Array.replicate ops.size false)).setIfInBounds j true)

theorem wp_region_mix2 {id : Nat} {a : Act} {w : World} {l : List Oper} (S : World → Prop) (ms pre : List Nat) (i j : Nat) (t1 t2 : List Nat) (hm : P.follows .mixedOrders = true) (hB : mixB2 l.toArray ms pre i j t1 t2 = true) (hS : ∀ w n, S w → S (w.drewN n)) (hs : S w.drew)
    (h : wpMixE P l.toArray S Q (fun i => ms.getD i 2) (fun a w => wpMix P l.toArray S Q (fun i => ms.getD i 2) (i :: t1) a w ∧ wpMix P l.toArray S Q (fun i => ms.getD i 2) (j :: t2) a w) pre a w.drew) : (Code.region id l.toArray true).wp P Q a w := by
  simp only [mixB2, Bool.and_eq_true, decide_eq_true_eq] at hB
  obtain ⟨⟨⟨⟨⟨⟨hsel, hlen⟩, hl12⟩, hord⟩, hrd⟩, ho1⟩, ho2⟩ := hB
  refine wp_region_any hm ?_
  have hcl : Closed .any l.toArray (Array.replicate l.toArray.size false) := fun j oj _ hl => by
    rcases Nat.lt_or_ge j l.toArray.size with h | h
    · simp at h hl; simp [h] at hl
    · simp at h hl; simp [h] at hl
  have key := mixAny_sound hS _ _ _ _ hcl (fun _ => hs) (mixAny_of_mixE hsel (t1.length + 1) pre _ a w.drew hcl hord (fun a w hcl' ⟨h1, h2⟩ => by
    refine ⟨fun h0 => (by rw [h0] at hrd; cases hrd), fun k hk => ?_⟩
    rw [hrd] at hk
    have hc1 := hcl'.set (i := i) (by rw [hrd]; simp)
    have hc2 := hcl'.set (i := j) (by rw [hrd]; simp)
    rcases List.mem_cons.1 hk with rfl | hk
    · unfold wpMix at h1
      exact mixAt_mono (fun a' w' _ h' => mixAny_of_mix hsel t1 _ a' w' hc1 ho1 h') (fun a' h' => mixAny_of_mix hsel t1 _ a' w hc1 ho1 h') h1
    · obtain rfl : k = j := by simpa using hk
      unfold wpMix at h2
      rw [hl12]
      exact mixAt_mono (fun a' w' _ h' => mixAny_of_mix hsel t2 _ a' w' hc2 ho2 h') (fun a' h' => mixAny_of_mix hsel t2 _ a' w hc2 ho2 h') h2) h) 0
  rw [hlen] at key
  exact key

theorem wpMixE_nil {a : Act} {w : World} (h : E a w) : wpMixE P ops S Q mk E [] a w := h
theorem wpMixE_any {i : Nat} {rest : List Nat} {a : Act} {w : World} {o : Oper} (ho : ops[i]? = some o) (hm : mk i = 0)
    (h : ∀ K : Act → World → Prop, (∀ a w, wpMixE P ops S Q mk E rest a w → K a w) → if Region.wanted o (yielded ops a.tmps) then ∃ v, (∀ w', S w' → o.quietAt P a (fun w'' => w'' = w') w' v) ∧ K (a.put o.dst v) w else K (a.put o.dst undef) w) : wpMixE P ops S Q mk E (i :: rest) a w := by
  unfold wpMixE mixAt mixOp mixQ
  simp only [ho, hm]
  exact h _ fun _ _ h => h
theorem wpMixE_pure {i : Nat} {rest : List Nat} {a : Act} {w : World} {o : Oper} (ho : ops[i]? = some o) (hm : mk i = 3)
    (h : ∀ K : Act → World → Prop, (∀ a w, wpMixE P ops S Q mk E rest a w → K a w) → if Region.wanted o (yielded ops a.tmps) then ∃ v, (∀ w', o.quietAt P a (fun w'' => w'' = w') w' v) ∧ K (a.put o.dst v) w else K (a.put o.dst undef) w) : wpMixE P ops S Q mk E (i :: rest) a w := by
  unfold wpMixE mixAt mixOp mixQ
  simp only [ho, hm]
  exact h _ fun _ _ h => h
end
end Go.Proofs.Ytloiadhdkgkjkaa
/- The document's attempts: try by contract. -/
namespace Go.Proofs.Ytloiadhdkgkjkaa
open Go.RowKit
set_option maxHeartbeats 40000000
set_option linter.unusedVariables false
set_option linter.unusedSimpArgs false
def endK (k : Int) : Bool := k == 6 || k == 7 || k == 8 || k == 9
def updR (x : Tr) (i : Nat) (e : Ev) : Tr :=
  { th := x.th, first := x.first, last := i, sn := if e.kd = 4 then e.wd else x.sn, how := if endK e.kd = true then e.kd else x.how, rd := if e.kd = 2 ∧ e.ow = false then x.rd + 1 else x.rd, wr := if e.kd = 3 then x.wr + 1 else x.wr }
/-- The attempt that begins there, n events on; is it over? -/
def tryS (l : List Ev) (a : Nat) : Nat → Tr × Bool
  | 0 => (⟨(evAt l a).th, a, a, (evAt l a).wd, 0, 0, 0⟩, false)
  | n + 1 =>
    let s := tryS l a n
    let e := evAt l (a + 1 + n)
    if s.2 = true ∨ e.th ≠ s.1.th then s else (updR s.1 (a + 1 + n) e, endK e.kd)
def tryF (l : List Ev) (a : Nat) : Tr := (tryS l a (l.length - (a + 1))).1
theorem tryS_done {l : List Ev} {a n : Nat} (h : (tryS l a n).2 = true) : ∀ m, n ≤ m → tryS l a m = tryS l a n
  | 0, hm => by rw [show n = 0 by omega]
  | m + 1, hm => by
    by_cases e : n = m + 1
    · rw [e]
    · have h1 := tryS_done h m (by omega)
      show (if (tryS l a m).2 = true ∨ _ then tryS l a m else _) = _
      rw [if_pos (.inl (by rw [h1]; exact h)), h1]
theorem Blk.cast {w : World} {b : Nat} {t : TypeId} {cs cs' : Array Value} (h : Blk w b t cs) (e : cs = cs') : Blk w b t cs' := e ▸ h
theorem tryS_bd (l : List Ev) (a : Nat) : ∀ n, (tryS l a n).1.rd ≤ n ∧ (tryS l a n).1.wr ≤ n
  | 0 => ⟨Nat.le_refl _, Nat.le_refl _⟩
  | n + 1 => by
    have h := tryS_bd l a n
    show (if (tryS l a n).2 = true ∨ _ then tryS l a n else _ : Tr × Bool).1.rd ≤ n + 1 ∧ (if (tryS l a n).2 = true ∨ _ then tryS l a n else _ : Tr × Bool).1.wr ≤ n + 1
    split
    · omega
    · unfold updR
      dsimp only
      constructor <;> split <;> omega
set_option maxRecDepth 100000 in
theorem rtry_b {w : World} {A : Option Addr} {cp : Nat} {l : List Ev} (hL : LiesV w (.slice A l.length cp) l) {a : Nat} (ha : a < l.length) :
    Calls Try.prog 55 #[.slice A l.length cp, .int .i64 a] w fun x w' => x = .returned (.agg (encT (tryF l a)).toArray) ∧ Below w.heap.size w w' := by
  have hln := hL.len
  have hgl : ∀ g o, A = some ⟨g, o, none⟩ → g < w.heap.size := fun g o e => by subst e; exact hL.blt ha
  obtain ⟨g, o, rfl, hc⟩ := hL.at ha
  obtain ⟨d0, -, -, d3, -, -⟩ := hc a ha
  have hg := hgl _ _ rfl
  have hlen : (l.length : Int) ≤ 9223372036854775807 := by omega
  have ha' : (a : Int) < l.length := by omega
  obtain ⟨w1, hw1⟩ : ∃ w1, w1 = w.alloc (.cells #[.int .i64 0, .int .i64 0, .int .i64 0, .int .u64 0, .int .i64 0, .int .i64 0, .int .i64 0] 38) := ⟨_, rfl⟩
  have hR1 : Blk w1 w.heap.size 38 #[.int .i64 0, .int .i64 0, .int .i64 0, .int .u64 0, .int .i64 0, .int .i64 0, .int .i64 0] := by rw [hw1]; exact Blk.new _ _ _
  have hb1 : Below w.heap.size w w1 := by rw [hw1]; exact (Below.refl _ _).alloc (Nat.le_refl _) _
  have hL1 := hL.below hb1 (Nat.le_refl _)
  have k0 : Hid (∀ n, (w1.drewN n).cell? ⟨g, o + a * 6, none⟩ = some (.int .i64 (evAt l a).th)) := Lib.hid fun n => by rw [hw1]; exact cell_alloc_ d0
  have k3 : Hid (∀ n, (w1.drewN n).cell? ⟨g, o + a * 6 + 3, none⟩ = some (.int .u64 (evAt l a).wd)) := Lib.hid fun n => by rw [hw1]; exact cell_alloc_ d3
  have z1 : Hid (w1.heap.size = w.heap.size + 1) := Lib.hid (by rw [hw1]; simp)
  replace hL := Lib.hid hL
  replace hR1 := Lib.hid hR1
  replace hb1 := Lib.hid hb1
  replace hw1 := Lib.hid hw1
  clear hc d0 d3 hgl
  have hs1 : w.heap.size ≤ w1.heap.size := by have := z1.out; omega
  have hne : Hid (w.heap.size ≠ w1.heap.size) := Lib.hid (by have := z1.out; omega)
  have hne1 : w.heap.size ≠ w1.heap.size := hne.out
  have hne2 : w1.heap.size ≠ w.heap.size := hne.out.symm
  go_enter Try.func55, Try.ntmps55
  go_wp2
  rw [← hw1.out]
  refine wp_region_mix2 (fun W' => W'.cell? ⟨g, o + a * 6, none⟩ = some (.int .i64 (evAt l a).th) ∧ W'.cell? ⟨g, o + a * 6 + 3, none⟩ = some (.int .u64 (evAt l a).wd)) [3, 3, 3, 3, 0, 3, 3, 3, 3, 3, 3, 0, 2, 2, 2] (List.range 12) 12 13 [13, 14] [12, 14] (by kernel_rfl) (by kernel_rfl) (fun _ _ h => h) ⟨k0.out 1, k3.out 1⟩ ?_
  repeat (first | ((first | refine wpMixE_pure rfl rfl (fun K hK => ?_) | refine wpMixE_any rfl rfl (fun K hK => ?_)); go_simp; refine hK _ _ ?_; clear hK K) | (refine wpMixE_any rfl rfl (fun K hK => ?_); rw [if_pos (by go_simp)]; apply Exists.intro; refine And.intro (fun w2 hS2 => ?_) (hK _ _ ?_); (focus (obtain ⟨hs0, hs1⟩ := hS2; go_simp; rfl)); clear hK K))
  refine wpMixE_nil ⟨?_, ?_⟩
  · refine wpMix_loud rfl rfl (fun m1 K hK => ?_)
    go_wp2_with fail
    refine hK _ _ (fun _ => ⟨k0.out _, k3.out _⟩) ?_; clear hK K
    refine wpMix_loud rfl rfl (fun m2 K hK => ?_)
    go_wp2_with fail
    refine hK _ _ (fun _ => ⟨cell_alloc_ (k0.out _), cell_alloc_ (k3.out _)⟩) ?_; clear hK K
    refine wpMix_loud rfl rfl (fun m3 K hK => ?_)
    obtain ⟨wz, hwz⟩ : ∃ wz, wz = ((w1.drewN (1 + m1 + m2)).alloc (.cells #[.int .i64 0, .int .i64 0, .int .i64 0, .int .u64 0, .int .i64 0, .int .i64 0, .int .i64 0] 38)).drewN m3 := ⟨_, rfl⟩
    have hB0 : Blk wz w1.heap.size 38 #[.int .i64 0, .int .i64 0, .int .i64 0, .int .u64 0, .int .i64 0, .int .i64 0, .int .i64 0] := by rw [hwz]; exact (Blk.new (w1.drewN (1 + m1 + m2)) _ _).drewN m3
    have hR0 : Blk wz w.heap.size 38 #[.int .i64 0, .int .i64 0, .int .i64 0, .int .u64 0, .int .i64 0, .int .i64 0, .int .i64 0] := by rw [hwz]; exact ((hR1.out.drewN (1 + m1 + m2)).alloc _).drewN m3
    have hb0 : Below w.heap.size w wz := by rw [hwz]; exact below_drewNs ((below_drewNs hb1.out (1 + m1 + m2)).alloc hb1.out.size _) m3
    rw [← hwz]
    have s0 := (hB0.cell 0).trans (show _ = some (.int .i64 0) from rfl)
    have p0 := hB0.frozen 0
    have s1 := (hB0.cell 1).trans (show _ = some (.int .i64 0) from rfl)
    have p1 := hB0.frozen 1
    have s2 := (hB0.cell 2).trans (show _ = some (.int .i64 0) from rfl)
    have p2 := hB0.frozen 2
    have s3 := (hB0.cell 3).trans (show _ = some (.int .u64 0) from rfl)
    have p3 := hB0.frozen 3
    have s4 := (hB0.cell 4).trans (show _ = some (.int .i64 0) from rfl)
    have p4 := hB0.frozen 4
    have s5 := (hB0.cell 5).trans (show _ = some (.int .i64 0) from rfl)
    have p5 := hB0.frozen 5
    have s6 := (hB0.cell 6).trans (show _ = some (.int .i64 0) from rfl)
    have p6 := hB0.frozen 6
    have hBT : Hid (∀ j, Blk ((((((((wz.setCell ⟨w1.heap.size, 0, none⟩ (.int .i64 (evAt l a).th)).setCell ⟨w1.heap.size, 1, none⟩ (.int .i64 a)).setCell ⟨w1.heap.size, 2, none⟩ (.int .i64 a)).setCell ⟨w1.heap.size, 3, none⟩ (.int .u64 (evAt l a).wd)).setCell ⟨w1.heap.size, 4, none⟩ (.int .i64 0)).setCell ⟨w1.heap.size, 5, none⟩ (.int .i64 0)).setCell ⟨w1.heap.size, 6, none⟩ (.int .i64 0)).drewN j) w1.heap.size 38 (encT (tryS l a 0).1).toArray) := Lib.hid (fun j => (Blk.cast ((((((((hB0.set_ 0 (.int .i64 (evAt l a).th)).set_ 1 (.int .i64 a)).set_ 2 (.int .i64 a)).set_ 3 (.int .u64 (evAt l a).wd)).set_ 4 (.int .i64 0)).set_ 5 (.int .i64 0)).set_ 6 (.int .i64 0))) (by simp [encT, tryS])).drewN j)
    have hRT := Lib.hid (fun j => ((((((((hR0.far (p := ⟨w1.heap.size, 0, none⟩) hne.out (.int .i64 (evAt l a).th)).far (p := ⟨w1.heap.size, 1, none⟩) hne.out (.int .i64 a)).far (p := ⟨w1.heap.size, 2, none⟩) hne.out (.int .i64 a)).far (p := ⟨w1.heap.size, 3, none⟩) hne.out (.int .u64 (evAt l a).wd)).far (p := ⟨w1.heap.size, 4, none⟩) hne.out (.int .i64 0)).far (p := ⟨w1.heap.size, 5, none⟩) hne.out (.int .i64 0)).far (p := ⟨w1.heap.size, 6, none⟩) hne.out (.int .i64 0))).drewN j)
    have hbT := Lib.hid (fun j => below_drewNs (((((((hb0.setCell (p := ⟨w1.heap.size, 0, none⟩) hs1 (.int .i64 (evAt l a).th)).setCell (p := ⟨w1.heap.size, 1, none⟩) hs1 (.int .i64 a)).setCell (p := ⟨w1.heap.size, 2, none⟩) hs1 (.int .i64 a)).setCell (p := ⟨w1.heap.size, 3, none⟩) hs1 (.int .u64 (evAt l a).wd)).setCell (p := ⟨w1.heap.size, 4, none⟩) hs1 (.int .i64 0)).setCell (p := ⟨w1.heap.size, 5, none⟩) hs1 (.int .i64 0)).setCell (p := ⟨w1.heap.size, 6, none⟩) hs1 (.int .i64 0)) j)
    clear hB0 hR0 hb0 hR1 hb1 k0 k3
    replace hwz := Lib.hid hwz
    go_wp2_with fail
    refine hK _ _ (fun h => (Bool.false_ne_true ((Eq.symm (by kernel_rfl)).trans h)).elim) ?_; clear hK K
    refine wpMix_nil (fun m4 => ?_)
    go_wp2
    go_loopw [6] (fun c wr => ∃ n : Nat, a + 1 + n ≤ l.length ∧ c = .int .i64 ((a + 1 + n : Nat) : Int) ∧ Hid ((tryS l a n).2 = false) ∧ Hid (Blk wr w1.heap.size 38 (encT (tryS l a n).1).toArray) ∧ Hid (Blk wr w.heap.size 38 #[.int .i64 0, .int .i64 0, .int .i64 0, .int .u64 0, .int .i64 0, .int .i64 0, .int .i64 0]) ∧ Hid (Below w.heap.size w wr)) (fun c _ => l.length - (intOf c).toNat)
    case atStart => exact ⟨0, by omega, by go_num, Lib.hid rfl, Lib.hid (hBT.out _), Lib.hid (hRT.out _), Lib.hid (hbT.out _)⟩
    case round =>
      obtain ⟨n, hn, rfl, hfa, hB, hR, hbr⟩ := hrel
      clear hBT hRT hbT
      have hst := tryS_bd l a n
      by_cases hlt : a + 1 + n < l.length
      · obtain ⟨g', o', e, hce⟩ := (hL.out.below hbr.out (Nat.le_refl _)).at hlt
        injection e with e
        injection e with e1 e2
        subst e1 e2
        obtain ⟨d0, d1, d2, d3, d4, d5⟩ := hce (a + 1 + n) hlt
        have hu : Hid (tryS l a (n + 1) = if (evAt l (a + 1 + n)).th ≠ (tryS l a n).1.th then tryS l a n else (updR (tryS l a n).1 (a + 1 + n) (evAt l (a + 1 + n)), endK (evAt l (a + 1 + n)).kd)) := Lib.hid (by
          show (if (tryS l a n).2 = true ∨ _ then tryS l a n else _) = _
          simp only [hfa.out, Bool.false_eq_true, false_or])
        have hrb := hR.out.lt
        have htb := hB.out.lt
        have hne3 : w1.heap.size ≠ wr.heap.size := Nat.ne_of_lt htb
        have hne4 : w.heap.size ≠ wr.heap.size := Nat.ne_of_lt hrb
        have hne5 : wr.heap.size ≠ w1.heap.size := (Nat.ne_of_lt htb).symm
        have hne6 : wr.heap.size ≠ w.heap.size := (Nat.ne_of_lt hrb).symm
        generalize hts : tryS l a n = st at *
        obtain ⟨x, dn⟩ := st
        obtain ⟨xth, xfi, xla, xsn, xho, xrd, xwr⟩ := x
        dsimp only at hB hu hst hfa
        obtain rfl : dn = false := hfa.out
        generalize evAt l (a + 1 + n) = ev at *
        obtain ⟨x0, x1, ad, wd, ow, er⟩ := ev
        dsimp only at d0 d1 d2 d3 d4 d5 hu
        have b1 : ((a + 1 + n : Nat) : Int) < l.length := by omega
        have wr1 := IntWalk.i64_in (n := (xrd : Int) + 1) (by omega)
        have wr2 := IntWalk.i64_in (n := (xwr : Int) + 1) (by omega)
        generalize hm : a + 1 + n = m at *
        have w2 := IntWalk.i64_in (n := (m : Int) + 1) (by omega)
        replace hm := Lib.hid hm
        replace hts := Lib.hid hts
        clear hce hrb htb hfa
        by_cases g0 : x0 = xth
        · have g1 : (x0 != xth) = false := by simpa using g0
          rw [if_neg (by simpa using g0)] at hu
          replace g0 := Lib.hid g0
          by_cases h4 : x1 = 4
          · subst h4
            have hBE := Lib.hid (hB.out.alloc (.cells #[.int .i64 x0, .int .i64 4, .int .u64 ad, .int .u64 wd, .bool ow, .int .i64 er] 61))
            have hRE := Lib.hid (hR.out.alloc (.cells #[.int .i64 x0, .int .i64 4, .int .u64 ad, .int .u64 wd, .bool ow, .int .i64 er] 61))
            have hbE := Lib.hid (hbr.out.alloc hbr.out.size (.cells #[.int .i64 x0, .int .i64 4, .int .u64 ad, .int .u64 wd, .bool ow, .int .i64 er] 61))
            have t0 := (hBE.out.cell 0).trans (show _ = some (.int .i64 xth) from rfl)
            have p0 := hBE.out.frozen 0
            have t1 := (hBE.out.cell 1).trans (show _ = some (.int .i64 xfi) from rfl)
            have p1 := hBE.out.frozen 1
            have t2 := (hBE.out.cell 2).trans (show _ = some (.int .i64 xla) from rfl)
            have p2 := hBE.out.frozen 2
            have t3 := (hBE.out.cell 3).trans (show _ = some (.int .u64 xsn) from rfl)
            have p3 := hBE.out.frozen 3
            have t4 := (hBE.out.cell 4).trans (show _ = some (.int .i64 xho) from rfl)
            have p4 := hBE.out.frozen 4
            have t5 := (hBE.out.cell 5).trans (show _ = some (.int .i64 xrd) from rfl)
            have p5 := hBE.out.frozen 5
            have t6 := (hBE.out.cell 6).trans (show _ = some (.int .i64 xwr) from rfl)
            have p6 := hBE.out.frozen 6
            have r0 := (hRE.out.cell 0).trans (show _ = some (.int .i64 0) from rfl)
            have q0 := hRE.out.frozen 0
            have r1 := (hRE.out.cell 1).trans (show _ = some (.int .i64 0) from rfl)
            have q1 := hRE.out.frozen 1
            have r2 := (hRE.out.cell 2).trans (show _ = some (.int .i64 0) from rfl)
            have q2 := hRE.out.frozen 2
            have r3 := (hRE.out.cell 3).trans (show _ = some (.int .u64 0) from rfl)
            have q3 := hRE.out.frozen 3
            have r4 := (hRE.out.cell 4).trans (show _ = some (.int .i64 0) from rfl)
            have q4 := hRE.out.frozen 4
            have r5 := (hRE.out.cell 5).trans (show _ = some (.int .i64 0) from rfl)
            have q5 := hRE.out.frozen 5
            have r6 := (hRE.out.cell 6).trans (show _ = some (.int .i64 0) from rfl)
            have q6 := hRE.out.frozen 6
            clear hB hR hbr
            have hBn : Hid (Blk (((wr.alloc (.cells #[.int .i64 x0, .int .i64 4, .int .u64 ad, .int .u64 wd, .bool ow, .int .i64 er] 61)).setCell ⟨w1.heap.size, 2, none⟩ (.int .i64 m)).setCell ⟨w1.heap.size, 3, none⟩ (.int .u64 wd)) w1.heap.size 38 (encT (updR (⟨xth, xfi, xla, xsn, xho, xrd, xwr⟩ : Tr) m ⟨x0, 4, ad, wd, ow, er⟩)).toArray) := Lib.hid (Blk.cast (((hBE.out.set_ 2 (.int .i64 m)).set_ 3 (.int .u64 wd))) (by simp [encT, updR, endK]))
            have hRn := Lib.hid (((hRE.out.far (p := ⟨w1.heap.size, 2, none⟩) hne.out (.int .i64 m)).far (p := ⟨w1.heap.size, 3, none⟩) hne.out (.int .u64 wd)))
            have hbn := Lib.hid (((hbE.out.setCell (p := ⟨w1.heap.size, 2, none⟩) hs1 (.int .i64 m)).setCell (p := ⟨w1.heap.size, 3, none⟩) hs1 (.int .u64 wd)))
            clear hBE hRE hbE
            go_wp2
            go_roundw
            case rel => exact ⟨n + 1, by have := hm.out; omega, by have := hm.out; go_num, Lib.hid (by rw [hu.out]; simp [endK]), Lib.hid (by rw [hu.out]; exact hBn.out), hRn, hbn⟩
            case measure => have := hm.out; simp [intOf]; omega
          have f4 : (x1 == 4) = false := by simpa using h4
          by_cases h2 : x1 = 2
          · subst h2
            cases ow with
            | false =>
              have hBE := Lib.hid (hB.out.alloc (.cells #[.int .i64 x0, .int .i64 2, .int .u64 ad, .int .u64 wd, .bool false, .int .i64 er] 61))
              have hRE := Lib.hid (hR.out.alloc (.cells #[.int .i64 x0, .int .i64 2, .int .u64 ad, .int .u64 wd, .bool false, .int .i64 er] 61))
              have hbE := Lib.hid (hbr.out.alloc hbr.out.size (.cells #[.int .i64 x0, .int .i64 2, .int .u64 ad, .int .u64 wd, .bool false, .int .i64 er] 61))
              have t0 := (hBE.out.cell 0).trans (show _ = some (.int .i64 xth) from rfl)
              have p0 := hBE.out.frozen 0
              have t1 := (hBE.out.cell 1).trans (show _ = some (.int .i64 xfi) from rfl)
              have p1 := hBE.out.frozen 1
              have t2 := (hBE.out.cell 2).trans (show _ = some (.int .i64 xla) from rfl)
              have p2 := hBE.out.frozen 2
              have t3 := (hBE.out.cell 3).trans (show _ = some (.int .u64 xsn) from rfl)
              have p3 := hBE.out.frozen 3
              have t4 := (hBE.out.cell 4).trans (show _ = some (.int .i64 xho) from rfl)
              have p4 := hBE.out.frozen 4
              have t5 := (hBE.out.cell 5).trans (show _ = some (.int .i64 xrd) from rfl)
              have p5 := hBE.out.frozen 5
              have t6 := (hBE.out.cell 6).trans (show _ = some (.int .i64 xwr) from rfl)
              have p6 := hBE.out.frozen 6
              have r0 := (hRE.out.cell 0).trans (show _ = some (.int .i64 0) from rfl)
              have q0 := hRE.out.frozen 0
              have r1 := (hRE.out.cell 1).trans (show _ = some (.int .i64 0) from rfl)
              have q1 := hRE.out.frozen 1
              have r2 := (hRE.out.cell 2).trans (show _ = some (.int .i64 0) from rfl)
              have q2 := hRE.out.frozen 2
              have r3 := (hRE.out.cell 3).trans (show _ = some (.int .u64 0) from rfl)
              have q3 := hRE.out.frozen 3
              have r4 := (hRE.out.cell 4).trans (show _ = some (.int .i64 0) from rfl)
              have q4 := hRE.out.frozen 4
              have r5 := (hRE.out.cell 5).trans (show _ = some (.int .i64 0) from rfl)
              have q5 := hRE.out.frozen 5
              have r6 := (hRE.out.cell 6).trans (show _ = some (.int .i64 0) from rfl)
              have q6 := hRE.out.frozen 6
              clear hB hR hbr
              have hBn : Hid (Blk (((wr.alloc (.cells #[.int .i64 x0, .int .i64 2, .int .u64 ad, .int .u64 wd, .bool false, .int .i64 er] 61)).setCell ⟨w1.heap.size, 2, none⟩ (.int .i64 m)).setCell ⟨w1.heap.size, 5, none⟩ (.int .i64 ((xrd : Int) + 1))) w1.heap.size 38 (encT (updR (⟨xth, xfi, xla, xsn, xho, xrd, xwr⟩ : Tr) m ⟨x0, 2, ad, wd, false, er⟩)).toArray) := Lib.hid (Blk.cast (((hBE.out.set_ 2 (.int .i64 m)).set_ 5 (.int .i64 ((xrd : Int) + 1)))) (by simp [encT, updR, endK]))
              have hRn := Lib.hid (((hRE.out.far (p := ⟨w1.heap.size, 2, none⟩) hne.out (.int .i64 m)).far (p := ⟨w1.heap.size, 5, none⟩) hne.out (.int .i64 ((xrd : Int) + 1))))
              have hbn := Lib.hid (((hbE.out.setCell (p := ⟨w1.heap.size, 2, none⟩) hs1 (.int .i64 m)).setCell (p := ⟨w1.heap.size, 5, none⟩) hs1 (.int .i64 ((xrd : Int) + 1))))
              clear hBE hRE hbE
              go_wp2
              go_roundw
              case rel => exact ⟨n + 1, by have := hm.out; omega, by have := hm.out; go_num, Lib.hid (by rw [hu.out]; simp [endK]), Lib.hid (by rw [hu.out]; exact hBn.out), hRn, hbn⟩
              case measure => have := hm.out; simp [intOf]; omega
            | true =>
              have hBE := Lib.hid (hB.out.alloc (.cells #[.int .i64 x0, .int .i64 2, .int .u64 ad, .int .u64 wd, .bool true, .int .i64 er] 61))
              have hRE := Lib.hid (hR.out.alloc (.cells #[.int .i64 x0, .int .i64 2, .int .u64 ad, .int .u64 wd, .bool true, .int .i64 er] 61))
              have hbE := Lib.hid (hbr.out.alloc hbr.out.size (.cells #[.int .i64 x0, .int .i64 2, .int .u64 ad, .int .u64 wd, .bool true, .int .i64 er] 61))
              have t0 := (hBE.out.cell 0).trans (show _ = some (.int .i64 xth) from rfl)
              have p0 := hBE.out.frozen 0
              have t1 := (hBE.out.cell 1).trans (show _ = some (.int .i64 xfi) from rfl)
              have p1 := hBE.out.frozen 1
              have t2 := (hBE.out.cell 2).trans (show _ = some (.int .i64 xla) from rfl)
              have p2 := hBE.out.frozen 2
              have t3 := (hBE.out.cell 3).trans (show _ = some (.int .u64 xsn) from rfl)
              have p3 := hBE.out.frozen 3
              have t4 := (hBE.out.cell 4).trans (show _ = some (.int .i64 xho) from rfl)
              have p4 := hBE.out.frozen 4
              have t5 := (hBE.out.cell 5).trans (show _ = some (.int .i64 xrd) from rfl)
              have p5 := hBE.out.frozen 5
              have t6 := (hBE.out.cell 6).trans (show _ = some (.int .i64 xwr) from rfl)
              have p6 := hBE.out.frozen 6
              have r0 := (hRE.out.cell 0).trans (show _ = some (.int .i64 0) from rfl)
              have q0 := hRE.out.frozen 0
              have r1 := (hRE.out.cell 1).trans (show _ = some (.int .i64 0) from rfl)
              have q1 := hRE.out.frozen 1
              have r2 := (hRE.out.cell 2).trans (show _ = some (.int .i64 0) from rfl)
              have q2 := hRE.out.frozen 2
              have r3 := (hRE.out.cell 3).trans (show _ = some (.int .u64 0) from rfl)
              have q3 := hRE.out.frozen 3
              have r4 := (hRE.out.cell 4).trans (show _ = some (.int .i64 0) from rfl)
              have q4 := hRE.out.frozen 4
              have r5 := (hRE.out.cell 5).trans (show _ = some (.int .i64 0) from rfl)
              have q5 := hRE.out.frozen 5
              have r6 := (hRE.out.cell 6).trans (show _ = some (.int .i64 0) from rfl)
              have q6 := hRE.out.frozen 6
              clear hB hR hbr
              have hBn : Hid (Blk ((wr.alloc (.cells #[.int .i64 x0, .int .i64 2, .int .u64 ad, .int .u64 wd, .bool true, .int .i64 er] 61)).setCell ⟨w1.heap.size, 2, none⟩ (.int .i64 m)) w1.heap.size 38 (encT (updR (⟨xth, xfi, xla, xsn, xho, xrd, xwr⟩ : Tr) m ⟨x0, 2, ad, wd, true, er⟩)).toArray) := Lib.hid (Blk.cast ((hBE.out.set_ 2 (.int .i64 m))) (by simp [encT, updR, endK]))
              have hRn := Lib.hid ((hRE.out.far (p := ⟨w1.heap.size, 2, none⟩) hne.out (.int .i64 m)))
              have hbn := Lib.hid ((hbE.out.setCell (p := ⟨w1.heap.size, 2, none⟩) hs1 (.int .i64 m)))
              clear hBE hRE hbE
              go_wp2
              go_roundw
              case rel => exact ⟨n + 1, by have := hm.out; omega, by have := hm.out; go_num, Lib.hid (by rw [hu.out]; simp [endK]), Lib.hid (by rw [hu.out]; exact hBn.out), hRn, hbn⟩
              case measure => have := hm.out; simp [intOf]; omega
          have f2 : (x1 == 2) = false := by simpa using h2
          by_cases h3 : x1 = 3
          · subst h3
            have hBE := Lib.hid (hB.out.alloc (.cells #[.int .i64 x0, .int .i64 3, .int .u64 ad, .int .u64 wd, .bool ow, .int .i64 er] 61))
            have hRE := Lib.hid (hR.out.alloc (.cells #[.int .i64 x0, .int .i64 3, .int .u64 ad, .int .u64 wd, .bool ow, .int .i64 er] 61))
            have hbE := Lib.hid (hbr.out.alloc hbr.out.size (.cells #[.int .i64 x0, .int .i64 3, .int .u64 ad, .int .u64 wd, .bool ow, .int .i64 er] 61))
            have t0 := (hBE.out.cell 0).trans (show _ = some (.int .i64 xth) from rfl)
            have p0 := hBE.out.frozen 0
            have t1 := (hBE.out.cell 1).trans (show _ = some (.int .i64 xfi) from rfl)
            have p1 := hBE.out.frozen 1
            have t2 := (hBE.out.cell 2).trans (show _ = some (.int .i64 xla) from rfl)
            have p2 := hBE.out.frozen 2
            have t3 := (hBE.out.cell 3).trans (show _ = some (.int .u64 xsn) from rfl)
            have p3 := hBE.out.frozen 3
            have t4 := (hBE.out.cell 4).trans (show _ = some (.int .i64 xho) from rfl)
            have p4 := hBE.out.frozen 4
            have t5 := (hBE.out.cell 5).trans (show _ = some (.int .i64 xrd) from rfl)
            have p5 := hBE.out.frozen 5
            have t6 := (hBE.out.cell 6).trans (show _ = some (.int .i64 xwr) from rfl)
            have p6 := hBE.out.frozen 6
            have r0 := (hRE.out.cell 0).trans (show _ = some (.int .i64 0) from rfl)
            have q0 := hRE.out.frozen 0
            have r1 := (hRE.out.cell 1).trans (show _ = some (.int .i64 0) from rfl)
            have q1 := hRE.out.frozen 1
            have r2 := (hRE.out.cell 2).trans (show _ = some (.int .i64 0) from rfl)
            have q2 := hRE.out.frozen 2
            have r3 := (hRE.out.cell 3).trans (show _ = some (.int .u64 0) from rfl)
            have q3 := hRE.out.frozen 3
            have r4 := (hRE.out.cell 4).trans (show _ = some (.int .i64 0) from rfl)
            have q4 := hRE.out.frozen 4
            have r5 := (hRE.out.cell 5).trans (show _ = some (.int .i64 0) from rfl)
            have q5 := hRE.out.frozen 5
            have r6 := (hRE.out.cell 6).trans (show _ = some (.int .i64 0) from rfl)
            have q6 := hRE.out.frozen 6
            clear hB hR hbr
            have hBn : Hid (Blk (((wr.alloc (.cells #[.int .i64 x0, .int .i64 3, .int .u64 ad, .int .u64 wd, .bool ow, .int .i64 er] 61)).setCell ⟨w1.heap.size, 2, none⟩ (.int .i64 m)).setCell ⟨w1.heap.size, 6, none⟩ (.int .i64 ((xwr : Int) + 1))) w1.heap.size 38 (encT (updR (⟨xth, xfi, xla, xsn, xho, xrd, xwr⟩ : Tr) m ⟨x0, 3, ad, wd, ow, er⟩)).toArray) := Lib.hid (Blk.cast (((hBE.out.set_ 2 (.int .i64 m)).set_ 6 (.int .i64 ((xwr : Int) + 1)))) (by simp [encT, updR, endK]))
            have hRn := Lib.hid (((hRE.out.far (p := ⟨w1.heap.size, 2, none⟩) hne.out (.int .i64 m)).far (p := ⟨w1.heap.size, 6, none⟩) hne.out (.int .i64 ((xwr : Int) + 1))))
            have hbn := Lib.hid (((hbE.out.setCell (p := ⟨w1.heap.size, 2, none⟩) hs1 (.int .i64 m)).setCell (p := ⟨w1.heap.size, 6, none⟩) hs1 (.int .i64 ((xwr : Int) + 1))))
            clear hBE hRE hbE
            go_wp2
            go_roundw
            case rel => exact ⟨n + 1, by have := hm.out; omega, by have := hm.out; go_num, Lib.hid (by rw [hu.out]; simp [endK]), Lib.hid (by rw [hu.out]; exact hBn.out), hRn, hbn⟩
            case measure => have := hm.out; simp [intOf]; omega
          have f3 : (x1 == 3) = false := by simpa using h3
          by_cases h6 : x1 = 6
          · subst h6
            have hBE := Lib.hid (hB.out.alloc (.cells #[.int .i64 x0, .int .i64 6, .int .u64 ad, .int .u64 wd, .bool ow, .int .i64 er] 61))
            have hRE := Lib.hid (hR.out.alloc (.cells #[.int .i64 x0, .int .i64 6, .int .u64 ad, .int .u64 wd, .bool ow, .int .i64 er] 61))
            have hbE := Lib.hid (hbr.out.alloc hbr.out.size (.cells #[.int .i64 x0, .int .i64 6, .int .u64 ad, .int .u64 wd, .bool ow, .int .i64 er] 61))
            have t0 := (hBE.out.cell 0).trans (show _ = some (.int .i64 xth) from rfl)
            have p0 := hBE.out.frozen 0
            have t1 := (hBE.out.cell 1).trans (show _ = some (.int .i64 xfi) from rfl)
            have p1 := hBE.out.frozen 1
            have t2 := (hBE.out.cell 2).trans (show _ = some (.int .i64 xla) from rfl)
            have p2 := hBE.out.frozen 2
            have t3 := (hBE.out.cell 3).trans (show _ = some (.int .u64 xsn) from rfl)
            have p3 := hBE.out.frozen 3
            have t4 := (hBE.out.cell 4).trans (show _ = some (.int .i64 xho) from rfl)
            have p4 := hBE.out.frozen 4
            have t5 := (hBE.out.cell 5).trans (show _ = some (.int .i64 xrd) from rfl)
            have p5 := hBE.out.frozen 5
            have t6 := (hBE.out.cell 6).trans (show _ = some (.int .i64 xwr) from rfl)
            have p6 := hBE.out.frozen 6
            have r0 := (hRE.out.cell 0).trans (show _ = some (.int .i64 0) from rfl)
            have q0 := hRE.out.frozen 0
            have r1 := (hRE.out.cell 1).trans (show _ = some (.int .i64 0) from rfl)
            have q1 := hRE.out.frozen 1
            have r2 := (hRE.out.cell 2).trans (show _ = some (.int .i64 0) from rfl)
            have q2 := hRE.out.frozen 2
            have r3 := (hRE.out.cell 3).trans (show _ = some (.int .u64 0) from rfl)
            have q3 := hRE.out.frozen 3
            have r4 := (hRE.out.cell 4).trans (show _ = some (.int .i64 0) from rfl)
            have q4 := hRE.out.frozen 4
            have r5 := (hRE.out.cell 5).trans (show _ = some (.int .i64 0) from rfl)
            have q5 := hRE.out.frozen 5
            have r6 := (hRE.out.cell 6).trans (show _ = some (.int .i64 0) from rfl)
            have q6 := hRE.out.frozen 6
            clear hB hR hbr
            go_wp2
            refine bodyPost_ret (v := .agg #[.int .i64 xth, .int .i64 xfi, .int .i64 m, .int .u64 xsn, .int .i64 6, .int .i64 xrd, .int .i64 xwr]) (by simp [results, Try.results55, go_sem, r0, r1, r2, r3, r4, r5, r6, q0, q1, q2, q3, q4, q5, q6]) rfl ⟨?_, (((((((((hbE.out.setCell (p := ⟨w1.heap.size, 2, none⟩) hs1 (.int .i64 m)).setCell (p := ⟨w1.heap.size, 4, none⟩) hs1 (.int .i64 6)).setCell (p := ⟨w.heap.size, 0, none⟩) (Nat.le_refl _) (.int .i64 xth)).setCell (p := ⟨w.heap.size, 1, none⟩) (Nat.le_refl _) (.int .i64 xfi)).setCell (p := ⟨w.heap.size, 2, none⟩) (Nat.le_refl _) (.int .i64 m)).setCell (p := ⟨w.heap.size, 3, none⟩) (Nat.le_refl _) (.int .u64 xsn)).setCell (p := ⟨w.heap.size, 4, none⟩) (Nat.le_refl _) (.int .i64 6)).setCell (p := ⟨w.heap.size, 5, none⟩) (Nat.le_refl _) (.int .i64 xrd)).setCell (p := ⟨w.heap.size, 6, none⟩) (Nat.le_refl _) (.int .i64 xwr))⟩
            rw [show tryF l a = updR ⟨xth, xfi, xla, xsn, xho, xrd, xwr⟩ m ⟨x0, 6, ad, wd, ow, er⟩ from by unfold tryF; rw [tryS_done (n := n + 1) (by rw [hu.out]; simp [endK]) _ (by have := hm.out; omega), hu.out]]
            simp [encT, updR, endK]
          have f6 : (x1 == 6) = false := by simpa using h6
          by_cases h7 : x1 = 7
          · subst h7
            have hBE := Lib.hid (hB.out.alloc (.cells #[.int .i64 x0, .int .i64 7, .int .u64 ad, .int .u64 wd, .bool ow, .int .i64 er] 61))
            have hRE := Lib.hid (hR.out.alloc (.cells #[.int .i64 x0, .int .i64 7, .int .u64 ad, .int .u64 wd, .bool ow, .int .i64 er] 61))
            have hbE := Lib.hid (hbr.out.alloc hbr.out.size (.cells #[.int .i64 x0, .int .i64 7, .int .u64 ad, .int .u64 wd, .bool ow, .int .i64 er] 61))
            have t0 := (hBE.out.cell 0).trans (show _ = some (.int .i64 xth) from rfl)
            have p0 := hBE.out.frozen 0
            have t1 := (hBE.out.cell 1).trans (show _ = some (.int .i64 xfi) from rfl)
            have p1 := hBE.out.frozen 1
            have t2 := (hBE.out.cell 2).trans (show _ = some (.int .i64 xla) from rfl)
            have p2 := hBE.out.frozen 2
            have t3 := (hBE.out.cell 3).trans (show _ = some (.int .u64 xsn) from rfl)
            have p3 := hBE.out.frozen 3
            have t4 := (hBE.out.cell 4).trans (show _ = some (.int .i64 xho) from rfl)
            have p4 := hBE.out.frozen 4
            have t5 := (hBE.out.cell 5).trans (show _ = some (.int .i64 xrd) from rfl)
            have p5 := hBE.out.frozen 5
            have t6 := (hBE.out.cell 6).trans (show _ = some (.int .i64 xwr) from rfl)
            have p6 := hBE.out.frozen 6
            have r0 := (hRE.out.cell 0).trans (show _ = some (.int .i64 0) from rfl)
            have q0 := hRE.out.frozen 0
            have r1 := (hRE.out.cell 1).trans (show _ = some (.int .i64 0) from rfl)
            have q1 := hRE.out.frozen 1
            have r2 := (hRE.out.cell 2).trans (show _ = some (.int .i64 0) from rfl)
            have q2 := hRE.out.frozen 2
            have r3 := (hRE.out.cell 3).trans (show _ = some (.int .u64 0) from rfl)
            have q3 := hRE.out.frozen 3
            have r4 := (hRE.out.cell 4).trans (show _ = some (.int .i64 0) from rfl)
            have q4 := hRE.out.frozen 4
            have r5 := (hRE.out.cell 5).trans (show _ = some (.int .i64 0) from rfl)
            have q5 := hRE.out.frozen 5
            have r6 := (hRE.out.cell 6).trans (show _ = some (.int .i64 0) from rfl)
            have q6 := hRE.out.frozen 6
            clear hB hR hbr
            go_wp2
            refine bodyPost_ret (v := .agg #[.int .i64 xth, .int .i64 xfi, .int .i64 m, .int .u64 xsn, .int .i64 7, .int .i64 xrd, .int .i64 xwr]) (by simp [results, Try.results55, go_sem, r0, r1, r2, r3, r4, r5, r6, q0, q1, q2, q3, q4, q5, q6]) rfl ⟨?_, (((((((((hbE.out.setCell (p := ⟨w1.heap.size, 2, none⟩) hs1 (.int .i64 m)).setCell (p := ⟨w1.heap.size, 4, none⟩) hs1 (.int .i64 7)).setCell (p := ⟨w.heap.size, 0, none⟩) (Nat.le_refl _) (.int .i64 xth)).setCell (p := ⟨w.heap.size, 1, none⟩) (Nat.le_refl _) (.int .i64 xfi)).setCell (p := ⟨w.heap.size, 2, none⟩) (Nat.le_refl _) (.int .i64 m)).setCell (p := ⟨w.heap.size, 3, none⟩) (Nat.le_refl _) (.int .u64 xsn)).setCell (p := ⟨w.heap.size, 4, none⟩) (Nat.le_refl _) (.int .i64 7)).setCell (p := ⟨w.heap.size, 5, none⟩) (Nat.le_refl _) (.int .i64 xrd)).setCell (p := ⟨w.heap.size, 6, none⟩) (Nat.le_refl _) (.int .i64 xwr))⟩
            rw [show tryF l a = updR ⟨xth, xfi, xla, xsn, xho, xrd, xwr⟩ m ⟨x0, 7, ad, wd, ow, er⟩ from by unfold tryF; rw [tryS_done (n := n + 1) (by rw [hu.out]; simp [endK]) _ (by have := hm.out; omega), hu.out]]
            simp [encT, updR, endK]
          have f7 : (x1 == 7) = false := by simpa using h7
          by_cases h8 : x1 = 8
          · subst h8
            have hBE := Lib.hid (hB.out.alloc (.cells #[.int .i64 x0, .int .i64 8, .int .u64 ad, .int .u64 wd, .bool ow, .int .i64 er] 61))
            have hRE := Lib.hid (hR.out.alloc (.cells #[.int .i64 x0, .int .i64 8, .int .u64 ad, .int .u64 wd, .bool ow, .int .i64 er] 61))
            have hbE := Lib.hid (hbr.out.alloc hbr.out.size (.cells #[.int .i64 x0, .int .i64 8, .int .u64 ad, .int .u64 wd, .bool ow, .int .i64 er] 61))
            have t0 := (hBE.out.cell 0).trans (show _ = some (.int .i64 xth) from rfl)
            have p0 := hBE.out.frozen 0
            have t1 := (hBE.out.cell 1).trans (show _ = some (.int .i64 xfi) from rfl)
            have p1 := hBE.out.frozen 1
            have t2 := (hBE.out.cell 2).trans (show _ = some (.int .i64 xla) from rfl)
            have p2 := hBE.out.frozen 2
            have t3 := (hBE.out.cell 3).trans (show _ = some (.int .u64 xsn) from rfl)
            have p3 := hBE.out.frozen 3
            have t4 := (hBE.out.cell 4).trans (show _ = some (.int .i64 xho) from rfl)
            have p4 := hBE.out.frozen 4
            have t5 := (hBE.out.cell 5).trans (show _ = some (.int .i64 xrd) from rfl)
            have p5 := hBE.out.frozen 5
            have t6 := (hBE.out.cell 6).trans (show _ = some (.int .i64 xwr) from rfl)
            have p6 := hBE.out.frozen 6
            have r0 := (hRE.out.cell 0).trans (show _ = some (.int .i64 0) from rfl)
            have q0 := hRE.out.frozen 0
            have r1 := (hRE.out.cell 1).trans (show _ = some (.int .i64 0) from rfl)
            have q1 := hRE.out.frozen 1
            have r2 := (hRE.out.cell 2).trans (show _ = some (.int .i64 0) from rfl)
            have q2 := hRE.out.frozen 2
            have r3 := (hRE.out.cell 3).trans (show _ = some (.int .u64 0) from rfl)
            have q3 := hRE.out.frozen 3
            have r4 := (hRE.out.cell 4).trans (show _ = some (.int .i64 0) from rfl)
            have q4 := hRE.out.frozen 4
            have r5 := (hRE.out.cell 5).trans (show _ = some (.int .i64 0) from rfl)
            have q5 := hRE.out.frozen 5
            have r6 := (hRE.out.cell 6).trans (show _ = some (.int .i64 0) from rfl)
            have q6 := hRE.out.frozen 6
            clear hB hR hbr
            go_wp2
            refine bodyPost_ret (v := .agg #[.int .i64 xth, .int .i64 xfi, .int .i64 m, .int .u64 xsn, .int .i64 8, .int .i64 xrd, .int .i64 xwr]) (by simp [results, Try.results55, go_sem, r0, r1, r2, r3, r4, r5, r6, q0, q1, q2, q3, q4, q5, q6]) rfl ⟨?_, (((((((((hbE.out.setCell (p := ⟨w1.heap.size, 2, none⟩) hs1 (.int .i64 m)).setCell (p := ⟨w1.heap.size, 4, none⟩) hs1 (.int .i64 8)).setCell (p := ⟨w.heap.size, 0, none⟩) (Nat.le_refl _) (.int .i64 xth)).setCell (p := ⟨w.heap.size, 1, none⟩) (Nat.le_refl _) (.int .i64 xfi)).setCell (p := ⟨w.heap.size, 2, none⟩) (Nat.le_refl _) (.int .i64 m)).setCell (p := ⟨w.heap.size, 3, none⟩) (Nat.le_refl _) (.int .u64 xsn)).setCell (p := ⟨w.heap.size, 4, none⟩) (Nat.le_refl _) (.int .i64 8)).setCell (p := ⟨w.heap.size, 5, none⟩) (Nat.le_refl _) (.int .i64 xrd)).setCell (p := ⟨w.heap.size, 6, none⟩) (Nat.le_refl _) (.int .i64 xwr))⟩
            rw [show tryF l a = updR ⟨xth, xfi, xla, xsn, xho, xrd, xwr⟩ m ⟨x0, 8, ad, wd, ow, er⟩ from by unfold tryF; rw [tryS_done (n := n + 1) (by rw [hu.out]; simp [endK]) _ (by have := hm.out; omega), hu.out]]
            simp [encT, updR, endK]
          have f8 : (x1 == 8) = false := by simpa using h8
          by_cases h9 : x1 = 9
          · subst h9
            have hBE := Lib.hid (hB.out.alloc (.cells #[.int .i64 x0, .int .i64 9, .int .u64 ad, .int .u64 wd, .bool ow, .int .i64 er] 61))
            have hRE := Lib.hid (hR.out.alloc (.cells #[.int .i64 x0, .int .i64 9, .int .u64 ad, .int .u64 wd, .bool ow, .int .i64 er] 61))
            have hbE := Lib.hid (hbr.out.alloc hbr.out.size (.cells #[.int .i64 x0, .int .i64 9, .int .u64 ad, .int .u64 wd, .bool ow, .int .i64 er] 61))
            have t0 := (hBE.out.cell 0).trans (show _ = some (.int .i64 xth) from rfl)
            have p0 := hBE.out.frozen 0
            have t1 := (hBE.out.cell 1).trans (show _ = some (.int .i64 xfi) from rfl)
            have p1 := hBE.out.frozen 1
            have t2 := (hBE.out.cell 2).trans (show _ = some (.int .i64 xla) from rfl)
            have p2 := hBE.out.frozen 2
            have t3 := (hBE.out.cell 3).trans (show _ = some (.int .u64 xsn) from rfl)
            have p3 := hBE.out.frozen 3
            have t4 := (hBE.out.cell 4).trans (show _ = some (.int .i64 xho) from rfl)
            have p4 := hBE.out.frozen 4
            have t5 := (hBE.out.cell 5).trans (show _ = some (.int .i64 xrd) from rfl)
            have p5 := hBE.out.frozen 5
            have t6 := (hBE.out.cell 6).trans (show _ = some (.int .i64 xwr) from rfl)
            have p6 := hBE.out.frozen 6
            have r0 := (hRE.out.cell 0).trans (show _ = some (.int .i64 0) from rfl)
            have q0 := hRE.out.frozen 0
            have r1 := (hRE.out.cell 1).trans (show _ = some (.int .i64 0) from rfl)
            have q1 := hRE.out.frozen 1
            have r2 := (hRE.out.cell 2).trans (show _ = some (.int .i64 0) from rfl)
            have q2 := hRE.out.frozen 2
            have r3 := (hRE.out.cell 3).trans (show _ = some (.int .u64 0) from rfl)
            have q3 := hRE.out.frozen 3
            have r4 := (hRE.out.cell 4).trans (show _ = some (.int .i64 0) from rfl)
            have q4 := hRE.out.frozen 4
            have r5 := (hRE.out.cell 5).trans (show _ = some (.int .i64 0) from rfl)
            have q5 := hRE.out.frozen 5
            have r6 := (hRE.out.cell 6).trans (show _ = some (.int .i64 0) from rfl)
            have q6 := hRE.out.frozen 6
            clear hB hR hbr
            go_wp2
            refine bodyPost_ret (v := .agg #[.int .i64 xth, .int .i64 xfi, .int .i64 m, .int .u64 xsn, .int .i64 9, .int .i64 xrd, .int .i64 xwr]) (by simp [results, Try.results55, go_sem, r0, r1, r2, r3, r4, r5, r6, q0, q1, q2, q3, q4, q5, q6]) rfl ⟨?_, (((((((((hbE.out.setCell (p := ⟨w1.heap.size, 2, none⟩) hs1 (.int .i64 m)).setCell (p := ⟨w1.heap.size, 4, none⟩) hs1 (.int .i64 9)).setCell (p := ⟨w.heap.size, 0, none⟩) (Nat.le_refl _) (.int .i64 xth)).setCell (p := ⟨w.heap.size, 1, none⟩) (Nat.le_refl _) (.int .i64 xfi)).setCell (p := ⟨w.heap.size, 2, none⟩) (Nat.le_refl _) (.int .i64 m)).setCell (p := ⟨w.heap.size, 3, none⟩) (Nat.le_refl _) (.int .u64 xsn)).setCell (p := ⟨w.heap.size, 4, none⟩) (Nat.le_refl _) (.int .i64 9)).setCell (p := ⟨w.heap.size, 5, none⟩) (Nat.le_refl _) (.int .i64 xrd)).setCell (p := ⟨w.heap.size, 6, none⟩) (Nat.le_refl _) (.int .i64 xwr))⟩
            rw [show tryF l a = updR ⟨xth, xfi, xla, xsn, xho, xrd, xwr⟩ m ⟨x0, 9, ad, wd, ow, er⟩ from by unfold tryF; rw [tryS_done (n := n + 1) (by rw [hu.out]; simp [endK]) _ (by have := hm.out; omega), hu.out]]
            simp [encT, updR, endK]
          have f9 : (x1 == 9) = false := by simpa using h9
          have hBE := Lib.hid (hB.out.alloc (.cells #[.int .i64 x0, .int .i64 x1, .int .u64 ad, .int .u64 wd, .bool ow, .int .i64 er] 61))
          have hRE := Lib.hid (hR.out.alloc (.cells #[.int .i64 x0, .int .i64 x1, .int .u64 ad, .int .u64 wd, .bool ow, .int .i64 er] 61))
          have hbE := Lib.hid (hbr.out.alloc hbr.out.size (.cells #[.int .i64 x0, .int .i64 x1, .int .u64 ad, .int .u64 wd, .bool ow, .int .i64 er] 61))
          have t0 := (hBE.out.cell 0).trans (show _ = some (.int .i64 xth) from rfl)
          have p0 := hBE.out.frozen 0
          have t1 := (hBE.out.cell 1).trans (show _ = some (.int .i64 xfi) from rfl)
          have p1 := hBE.out.frozen 1
          have t2 := (hBE.out.cell 2).trans (show _ = some (.int .i64 xla) from rfl)
          have p2 := hBE.out.frozen 2
          have t3 := (hBE.out.cell 3).trans (show _ = some (.int .u64 xsn) from rfl)
          have p3 := hBE.out.frozen 3
          have t4 := (hBE.out.cell 4).trans (show _ = some (.int .i64 xho) from rfl)
          have p4 := hBE.out.frozen 4
          have t5 := (hBE.out.cell 5).trans (show _ = some (.int .i64 xrd) from rfl)
          have p5 := hBE.out.frozen 5
          have t6 := (hBE.out.cell 6).trans (show _ = some (.int .i64 xwr) from rfl)
          have p6 := hBE.out.frozen 6
          have r0 := (hRE.out.cell 0).trans (show _ = some (.int .i64 0) from rfl)
          have q0 := hRE.out.frozen 0
          have r1 := (hRE.out.cell 1).trans (show _ = some (.int .i64 0) from rfl)
          have q1 := hRE.out.frozen 1
          have r2 := (hRE.out.cell 2).trans (show _ = some (.int .i64 0) from rfl)
          have q2 := hRE.out.frozen 2
          have r3 := (hRE.out.cell 3).trans (show _ = some (.int .u64 0) from rfl)
          have q3 := hRE.out.frozen 3
          have r4 := (hRE.out.cell 4).trans (show _ = some (.int .i64 0) from rfl)
          have q4 := hRE.out.frozen 4
          have r5 := (hRE.out.cell 5).trans (show _ = some (.int .i64 0) from rfl)
          have q5 := hRE.out.frozen 5
          have r6 := (hRE.out.cell 6).trans (show _ = some (.int .i64 0) from rfl)
          have q6 := hRE.out.frozen 6
          clear hB hR hbr
          have hBn : Hid (Blk ((wr.alloc (.cells #[.int .i64 x0, .int .i64 x1, .int .u64 ad, .int .u64 wd, .bool ow, .int .i64 er] 61)).setCell ⟨w1.heap.size, 2, none⟩ (.int .i64 m)) w1.heap.size 38 (encT (updR (⟨xth, xfi, xla, xsn, xho, xrd, xwr⟩ : Tr) m ⟨x0, x1, ad, wd, ow, er⟩)).toArray) := Lib.hid (Blk.cast ((hBE.out.set_ 2 (.int .i64 m))) (by simp [encT, updR, endK, h4, h2, h3, h6, h7, h8, h9]))
          have hRn := Lib.hid ((hRE.out.far (p := ⟨w1.heap.size, 2, none⟩) hne.out (.int .i64 m)))
          have hbn := Lib.hid ((hbE.out.setCell (p := ⟨w1.heap.size, 2, none⟩) hs1 (.int .i64 m)))
          clear hBE hRE hbE
          go_wp2
          go_roundw
          case rel => exact ⟨n + 1, by have := hm.out; omega, by have := hm.out; go_num, Lib.hid (by rw [hu.out]; simp [endK, h4, h2, h3, h6, h7, h8, h9]), Lib.hid (by rw [hu.out]; exact hBn.out), hRn, hbn⟩
          case measure => have := hm.out; simp [intOf]; omega
        · have g1 : (x0 != xth) = true := by simpa using g0
          rw [if_pos g0] at hu
          replace g0 := Lib.hid g0
          have hBE := Lib.hid (hB.out.alloc (.cells #[.int .i64 x0, .int .i64 x1, .int .u64 ad, .int .u64 wd, .bool ow, .int .i64 er] 61))
          have hRE := Lib.hid (hR.out.alloc (.cells #[.int .i64 x0, .int .i64 x1, .int .u64 ad, .int .u64 wd, .bool ow, .int .i64 er] 61))
          have hbE := Lib.hid (hbr.out.alloc hbr.out.size (.cells #[.int .i64 x0, .int .i64 x1, .int .u64 ad, .int .u64 wd, .bool ow, .int .i64 er] 61))
          have t0 := (hBE.out.cell 0).trans (show _ = some (.int .i64 xth) from rfl)
          have p0 := hBE.out.frozen 0
          have t1 := (hBE.out.cell 1).trans (show _ = some (.int .i64 xfi) from rfl)
          have p1 := hBE.out.frozen 1
          have t2 := (hBE.out.cell 2).trans (show _ = some (.int .i64 xla) from rfl)
          have p2 := hBE.out.frozen 2
          have t3 := (hBE.out.cell 3).trans (show _ = some (.int .u64 xsn) from rfl)
          have p3 := hBE.out.frozen 3
          have t4 := (hBE.out.cell 4).trans (show _ = some (.int .i64 xho) from rfl)
          have p4 := hBE.out.frozen 4
          have t5 := (hBE.out.cell 5).trans (show _ = some (.int .i64 xrd) from rfl)
          have p5 := hBE.out.frozen 5
          have t6 := (hBE.out.cell 6).trans (show _ = some (.int .i64 xwr) from rfl)
          have p6 := hBE.out.frozen 6
          have r0 := (hRE.out.cell 0).trans (show _ = some (.int .i64 0) from rfl)
          have q0 := hRE.out.frozen 0
          have r1 := (hRE.out.cell 1).trans (show _ = some (.int .i64 0) from rfl)
          have q1 := hRE.out.frozen 1
          have r2 := (hRE.out.cell 2).trans (show _ = some (.int .i64 0) from rfl)
          have q2 := hRE.out.frozen 2
          have r3 := (hRE.out.cell 3).trans (show _ = some (.int .u64 0) from rfl)
          have q3 := hRE.out.frozen 3
          have r4 := (hRE.out.cell 4).trans (show _ = some (.int .i64 0) from rfl)
          have q4 := hRE.out.frozen 4
          have r5 := (hRE.out.cell 5).trans (show _ = some (.int .i64 0) from rfl)
          have q5 := hRE.out.frozen 5
          have r6 := (hRE.out.cell 6).trans (show _ = some (.int .i64 0) from rfl)
          have q6 := hRE.out.frozen 6
          clear hB hR hbr
          have hBn : Hid (Blk (wr.alloc (.cells #[.int .i64 x0, .int .i64 x1, .int .u64 ad, .int .u64 wd, .bool ow, .int .i64 er] 61)) w1.heap.size 38 (encT (⟨xth, xfi, xla, xsn, xho, xrd, xwr⟩ : Tr)).toArray) := Lib.hid (Blk.cast (hBE.out) (by simp [encT, updR, endK]))
          have hRn := Lib.hid (hRE.out)
          have hbn := Lib.hid (hbE.out)
          clear hBE hRE hbE
          go_wp2
          go_roundw
          case rel => exact ⟨n + 1, by have := hm.out; omega, by have := hm.out; go_num, Lib.hid (by rw [hu.out]), Lib.hid (by rw [hu.out]; exact hBn.out), hRn, hbn⟩
          case measure => have := hm.out; simp [intOf]; omega
      · have hn2 : n = l.length - (a + 1) := by omega
        have b1 : ¬ ((a + 1 + n : Nat) : Int) < l.length := by omega
        subst hn2
        have hF : Hid ((tryS l a (l.length - (a + 1))).1 = tryF l a) := Lib.hid rfl
        rw [hF.out] at hB
        obtain ⟨x, hx⟩ : ∃ x, tryF l a = x := ⟨_, rfl⟩
        rw [hx] at hB
        replace hx := Lib.hid hx
        obtain ⟨xth, xfi, xla, xsn, xho, xrd, xwr⟩ := x
        generalize a + 1 + (l.length - (a + 1)) = m at *
        have t0 := (hB.out.cell 0).trans (show _ = some (.int .i64 xth) from rfl)
        have t1 := (hB.out.cell 1).trans (show _ = some (.int .i64 xfi) from rfl)
        have t2 := (hB.out.cell 2).trans (show _ = some (.int .i64 xla) from rfl)
        have t3 := (hB.out.cell 3).trans (show _ = some (.int .u64 xsn) from rfl)
        have t4 := (hB.out.cell 4).trans (show _ = some (.int .i64 xho) from rfl)
        have t5 := (hB.out.cell 5).trans (show _ = some (.int .i64 xrd) from rfl)
        have t6 := (hB.out.cell 6).trans (show _ = some (.int .i64 xwr) from rfl)
        have r0 := (hR.out.cell 0).trans (show _ = some (.int .i64 0) from rfl)
        have q0 := hR.out.frozen 0
        have r1 := (hR.out.cell 1).trans (show _ = some (.int .i64 0) from rfl)
        have q1 := hR.out.frozen 1
        have r2 := (hR.out.cell 2).trans (show _ = some (.int .i64 0) from rfl)
        have q2 := hR.out.frozen 2
        have r3 := (hR.out.cell 3).trans (show _ = some (.int .u64 0) from rfl)
        have q3 := hR.out.frozen 3
        have r4 := (hR.out.cell 4).trans (show _ = some (.int .i64 0) from rfl)
        have q4 := hR.out.frozen 4
        have r5 := (hR.out.cell 5).trans (show _ = some (.int .i64 0) from rfl)
        have q5 := hR.out.frozen 5
        have r6 := (hR.out.cell 6).trans (show _ = some (.int .i64 0) from rfl)
        have q6 := hR.out.frozen 6
        go_wp2
        refine bodyPost_ret (v := .agg #[.int .i64 xth, .int .i64 xfi, .int .i64 xla, .int .u64 xsn, .int .i64 xho, .int .i64 xrd, .int .i64 xwr]) (by simp [results, Try.results55, go_sem, r0, r1, r2, r3, r4, r5, r6, q0, q1, q2, q3, q4, q5, q6]) rfl ⟨by rw [hx.out]; rfl, (((((((hbr.out.setCell (p := ⟨w.heap.size, 0, none⟩) (Nat.le_refl _) (.int .i64 xth)).setCell (p := ⟨w.heap.size, 1, none⟩) (Nat.le_refl _) (.int .i64 xfi)).setCell (p := ⟨w.heap.size, 2, none⟩) (Nat.le_refl _) (.int .i64 xla)).setCell (p := ⟨w.heap.size, 3, none⟩) (Nat.le_refl _) (.int .u64 xsn)).setCell (p := ⟨w.heap.size, 4, none⟩) (Nat.le_refl _) (.int .i64 xho)).setCell (p := ⟨w.heap.size, 5, none⟩) (Nat.le_refl _) (.int .i64 xrd)).setCell (p := ⟨w.heap.size, 6, none⟩) (Nat.le_refl _) (.int .i64 xwr))⟩
  · refine wpMix_loud rfl rfl (fun m1 K hK => ?_)
    go_wp2_with fail
    refine hK _ _ (fun _ => ⟨cell_alloc_ (k0.out _), cell_alloc_ (k3.out _)⟩) ?_; clear hK K
    refine wpMix_loud rfl rfl (fun m2 K hK => ?_)
    go_wp2_with fail
    refine hK _ _ (fun _ => ⟨cell_alloc_ (k0.out _), cell_alloc_ (k3.out _)⟩) ?_; clear hK K
    refine wpMix_loud rfl rfl (fun m3 K hK => ?_)
    obtain ⟨wz, hwz⟩ : ∃ wz, wz = (((w1.drewN (1 + m1)).alloc (.cells #[.int .i64 0, .int .i64 0, .int .i64 0, .int .u64 0, .int .i64 0, .int .i64 0, .int .i64 0] 38)).drewN m2).drewN m3 := ⟨_, rfl⟩
    have hB0 : Blk wz w1.heap.size 38 #[.int .i64 0, .int .i64 0, .int .i64 0, .int .u64 0, .int .i64 0, .int .i64 0, .int .i64 0] := by rw [hwz]; exact ((Blk.new (w1.drewN (1 + m1)) _ _).drewN m2).drewN m3
    have hR0 : Blk wz w.heap.size 38 #[.int .i64 0, .int .i64 0, .int .i64 0, .int .u64 0, .int .i64 0, .int .i64 0, .int .i64 0] := by rw [hwz]; exact (((hR1.out.drewN (1 + m1)).alloc _).drewN m2).drewN m3
    have hb0 : Below w.heap.size w wz := by rw [hwz]; exact below_drewNs (below_drewNs ((below_drewNs hb1.out (1 + m1)).alloc hb1.out.size _) m2) m3
    rw [← hwz]
    have s0 := (hB0.cell 0).trans (show _ = some (.int .i64 0) from rfl)
    have p0 := hB0.frozen 0
    have s1 := (hB0.cell 1).trans (show _ = some (.int .i64 0) from rfl)
    have p1 := hB0.frozen 1
    have s2 := (hB0.cell 2).trans (show _ = some (.int .i64 0) from rfl)
    have p2 := hB0.frozen 2
    have s3 := (hB0.cell 3).trans (show _ = some (.int .u64 0) from rfl)
    have p3 := hB0.frozen 3
    have s4 := (hB0.cell 4).trans (show _ = some (.int .i64 0) from rfl)
    have p4 := hB0.frozen 4
    have s5 := (hB0.cell 5).trans (show _ = some (.int .i64 0) from rfl)
    have p5 := hB0.frozen 5
    have s6 := (hB0.cell 6).trans (show _ = some (.int .i64 0) from rfl)
    have p6 := hB0.frozen 6
    have hBT : Hid (∀ j, Blk ((((((((wz.setCell ⟨w1.heap.size, 0, none⟩ (.int .i64 (evAt l a).th)).setCell ⟨w1.heap.size, 1, none⟩ (.int .i64 a)).setCell ⟨w1.heap.size, 2, none⟩ (.int .i64 a)).setCell ⟨w1.heap.size, 3, none⟩ (.int .u64 (evAt l a).wd)).setCell ⟨w1.heap.size, 4, none⟩ (.int .i64 0)).setCell ⟨w1.heap.size, 5, none⟩ (.int .i64 0)).setCell ⟨w1.heap.size, 6, none⟩ (.int .i64 0)).drewN j) w1.heap.size 38 (encT (tryS l a 0).1).toArray) := Lib.hid (fun j => (Blk.cast ((((((((hB0.set_ 0 (.int .i64 (evAt l a).th)).set_ 1 (.int .i64 a)).set_ 2 (.int .i64 a)).set_ 3 (.int .u64 (evAt l a).wd)).set_ 4 (.int .i64 0)).set_ 5 (.int .i64 0)).set_ 6 (.int .i64 0))) (by simp [encT, tryS])).drewN j)
    have hRT := Lib.hid (fun j => ((((((((hR0.far (p := ⟨w1.heap.size, 0, none⟩) hne.out (.int .i64 (evAt l a).th)).far (p := ⟨w1.heap.size, 1, none⟩) hne.out (.int .i64 a)).far (p := ⟨w1.heap.size, 2, none⟩) hne.out (.int .i64 a)).far (p := ⟨w1.heap.size, 3, none⟩) hne.out (.int .u64 (evAt l a).wd)).far (p := ⟨w1.heap.size, 4, none⟩) hne.out (.int .i64 0)).far (p := ⟨w1.heap.size, 5, none⟩) hne.out (.int .i64 0)).far (p := ⟨w1.heap.size, 6, none⟩) hne.out (.int .i64 0))).drewN j)
    have hbT := Lib.hid (fun j => below_drewNs (((((((hb0.setCell (p := ⟨w1.heap.size, 0, none⟩) hs1 (.int .i64 (evAt l a).th)).setCell (p := ⟨w1.heap.size, 1, none⟩) hs1 (.int .i64 a)).setCell (p := ⟨w1.heap.size, 2, none⟩) hs1 (.int .i64 a)).setCell (p := ⟨w1.heap.size, 3, none⟩) hs1 (.int .u64 (evAt l a).wd)).setCell (p := ⟨w1.heap.size, 4, none⟩) hs1 (.int .i64 0)).setCell (p := ⟨w1.heap.size, 5, none⟩) hs1 (.int .i64 0)).setCell (p := ⟨w1.heap.size, 6, none⟩) hs1 (.int .i64 0)) j)
    clear hB0 hR0 hb0 hR1 hb1 k0 k3
    replace hwz := Lib.hid hwz
    go_wp2_with fail
    refine hK _ _ (fun h => (Bool.false_ne_true ((Eq.symm (by kernel_rfl)).trans h)).elim) ?_; clear hK K
    refine wpMix_nil (fun m4 => ?_)
    go_wp2
    go_loopw [6] (fun c wr => ∃ n : Nat, a + 1 + n ≤ l.length ∧ c = .int .i64 ((a + 1 + n : Nat) : Int) ∧ Hid ((tryS l a n).2 = false) ∧ Hid (Blk wr w1.heap.size 38 (encT (tryS l a n).1).toArray) ∧ Hid (Blk wr w.heap.size 38 #[.int .i64 0, .int .i64 0, .int .i64 0, .int .u64 0, .int .i64 0, .int .i64 0, .int .i64 0]) ∧ Hid (Below w.heap.size w wr)) (fun c _ => l.length - (intOf c).toNat)
    case atStart => exact ⟨0, by omega, by go_num, Lib.hid rfl, Lib.hid (hBT.out _), Lib.hid (hRT.out _), Lib.hid (hbT.out _)⟩
    case round =>
      obtain ⟨n, hn, rfl, hfa, hB, hR, hbr⟩ := hrel
      clear hBT hRT hbT
      have hst := tryS_bd l a n
      by_cases hlt : a + 1 + n < l.length
      · obtain ⟨g', o', e, hce⟩ := (hL.out.below hbr.out (Nat.le_refl _)).at hlt
        injection e with e
        injection e with e1 e2
        subst e1 e2
        obtain ⟨d0, d1, d2, d3, d4, d5⟩ := hce (a + 1 + n) hlt
        have hu : Hid (tryS l a (n + 1) = if (evAt l (a + 1 + n)).th ≠ (tryS l a n).1.th then tryS l a n else (updR (tryS l a n).1 (a + 1 + n) (evAt l (a + 1 + n)), endK (evAt l (a + 1 + n)).kd)) := Lib.hid (by
          show (if (tryS l a n).2 = true ∨ _ then tryS l a n else _) = _
          simp only [hfa.out, Bool.false_eq_true, false_or])
        have hrb := hR.out.lt
        have htb := hB.out.lt
        have hne3 : w1.heap.size ≠ wr.heap.size := Nat.ne_of_lt htb
        have hne4 : w.heap.size ≠ wr.heap.size := Nat.ne_of_lt hrb
        have hne5 : wr.heap.size ≠ w1.heap.size := (Nat.ne_of_lt htb).symm
        have hne6 : wr.heap.size ≠ w.heap.size := (Nat.ne_of_lt hrb).symm
        generalize hts : tryS l a n = st at *
        obtain ⟨x, dn⟩ := st
        obtain ⟨xth, xfi, xla, xsn, xho, xrd, xwr⟩ := x
        dsimp only at hB hu hst hfa
        obtain rfl : dn = false := hfa.out
        generalize evAt l (a + 1 + n) = ev at *
        obtain ⟨x0, x1, ad, wd, ow, er⟩ := ev
        dsimp only at d0 d1 d2 d3 d4 d5 hu
        have b1 : ((a + 1 + n : Nat) : Int) < l.length := by omega
        have wr1 := IntWalk.i64_in (n := (xrd : Int) + 1) (by omega)
        have wr2 := IntWalk.i64_in (n := (xwr : Int) + 1) (by omega)
        generalize hm : a + 1 + n = m at *
        have w2 := IntWalk.i64_in (n := (m : Int) + 1) (by omega)
        replace hm := Lib.hid hm
        replace hts := Lib.hid hts
        clear hce hrb htb hfa
        by_cases g0 : x0 = xth
        · have g1 : (x0 != xth) = false := by simpa using g0
          rw [if_neg (by simpa using g0)] at hu
          replace g0 := Lib.hid g0
          by_cases h4 : x1 = 4
          · subst h4
            have hBE := Lib.hid (hB.out.alloc (.cells #[.int .i64 x0, .int .i64 4, .int .u64 ad, .int .u64 wd, .bool ow, .int .i64 er] 61))
            have hRE := Lib.hid (hR.out.alloc (.cells #[.int .i64 x0, .int .i64 4, .int .u64 ad, .int .u64 wd, .bool ow, .int .i64 er] 61))
            have hbE := Lib.hid (hbr.out.alloc hbr.out.size (.cells #[.int .i64 x0, .int .i64 4, .int .u64 ad, .int .u64 wd, .bool ow, .int .i64 er] 61))
            have t0 := (hBE.out.cell 0).trans (show _ = some (.int .i64 xth) from rfl)
            have p0 := hBE.out.frozen 0
            have t1 := (hBE.out.cell 1).trans (show _ = some (.int .i64 xfi) from rfl)
            have p1 := hBE.out.frozen 1
            have t2 := (hBE.out.cell 2).trans (show _ = some (.int .i64 xla) from rfl)
            have p2 := hBE.out.frozen 2
            have t3 := (hBE.out.cell 3).trans (show _ = some (.int .u64 xsn) from rfl)
            have p3 := hBE.out.frozen 3
            have t4 := (hBE.out.cell 4).trans (show _ = some (.int .i64 xho) from rfl)
            have p4 := hBE.out.frozen 4
            have t5 := (hBE.out.cell 5).trans (show _ = some (.int .i64 xrd) from rfl)
            have p5 := hBE.out.frozen 5
            have t6 := (hBE.out.cell 6).trans (show _ = some (.int .i64 xwr) from rfl)
            have p6 := hBE.out.frozen 6
            have r0 := (hRE.out.cell 0).trans (show _ = some (.int .i64 0) from rfl)
            have q0 := hRE.out.frozen 0
            have r1 := (hRE.out.cell 1).trans (show _ = some (.int .i64 0) from rfl)
            have q1 := hRE.out.frozen 1
            have r2 := (hRE.out.cell 2).trans (show _ = some (.int .i64 0) from rfl)
            have q2 := hRE.out.frozen 2
            have r3 := (hRE.out.cell 3).trans (show _ = some (.int .u64 0) from rfl)
            have q3 := hRE.out.frozen 3
            have r4 := (hRE.out.cell 4).trans (show _ = some (.int .i64 0) from rfl)
            have q4 := hRE.out.frozen 4
            have r5 := (hRE.out.cell 5).trans (show _ = some (.int .i64 0) from rfl)
            have q5 := hRE.out.frozen 5
            have r6 := (hRE.out.cell 6).trans (show _ = some (.int .i64 0) from rfl)
            have q6 := hRE.out.frozen 6
            clear hB hR hbr
            have hBn : Hid (Blk (((wr.alloc (.cells #[.int .i64 x0, .int .i64 4, .int .u64 ad, .int .u64 wd, .bool ow, .int .i64 er] 61)).setCell ⟨w1.heap.size, 2, none⟩ (.int .i64 m)).setCell ⟨w1.heap.size, 3, none⟩ (.int .u64 wd)) w1.heap.size 38 (encT (updR (⟨xth, xfi, xla, xsn, xho, xrd, xwr⟩ : Tr) m ⟨x0, 4, ad, wd, ow, er⟩)).toArray) := Lib.hid (Blk.cast (((hBE.out.set_ 2 (.int .i64 m)).set_ 3 (.int .u64 wd))) (by simp [encT, updR, endK]))
            have hRn := Lib.hid (((hRE.out.far (p := ⟨w1.heap.size, 2, none⟩) hne.out (.int .i64 m)).far (p := ⟨w1.heap.size, 3, none⟩) hne.out (.int .u64 wd)))
            have hbn := Lib.hid (((hbE.out.setCell (p := ⟨w1.heap.size, 2, none⟩) hs1 (.int .i64 m)).setCell (p := ⟨w1.heap.size, 3, none⟩) hs1 (.int .u64 wd)))
            clear hBE hRE hbE
            go_wp2
            go_roundw
            case rel => exact ⟨n + 1, by have := hm.out; omega, by have := hm.out; go_num, Lib.hid (by rw [hu.out]; simp [endK]), Lib.hid (by rw [hu.out]; exact hBn.out), hRn, hbn⟩
            case measure => have := hm.out; simp [intOf]; omega
          have f4 : (x1 == 4) = false := by simpa using h4
          by_cases h2 : x1 = 2
          · subst h2
            cases ow with
            | false =>
              have hBE := Lib.hid (hB.out.alloc (.cells #[.int .i64 x0, .int .i64 2, .int .u64 ad, .int .u64 wd, .bool false, .int .i64 er] 61))
              have hRE := Lib.hid (hR.out.alloc (.cells #[.int .i64 x0, .int .i64 2, .int .u64 ad, .int .u64 wd, .bool false, .int .i64 er] 61))
              have hbE := Lib.hid (hbr.out.alloc hbr.out.size (.cells #[.int .i64 x0, .int .i64 2, .int .u64 ad, .int .u64 wd, .bool false, .int .i64 er] 61))
              have t0 := (hBE.out.cell 0).trans (show _ = some (.int .i64 xth) from rfl)
              have p0 := hBE.out.frozen 0
              have t1 := (hBE.out.cell 1).trans (show _ = some (.int .i64 xfi) from rfl)
              have p1 := hBE.out.frozen 1
              have t2 := (hBE.out.cell 2).trans (show _ = some (.int .i64 xla) from rfl)
              have p2 := hBE.out.frozen 2
              have t3 := (hBE.out.cell 3).trans (show _ = some (.int .u64 xsn) from rfl)
              have p3 := hBE.out.frozen 3
              have t4 := (hBE.out.cell 4).trans (show _ = some (.int .i64 xho) from rfl)
              have p4 := hBE.out.frozen 4
              have t5 := (hBE.out.cell 5).trans (show _ = some (.int .i64 xrd) from rfl)
              have p5 := hBE.out.frozen 5
              have t6 := (hBE.out.cell 6).trans (show _ = some (.int .i64 xwr) from rfl)
              have p6 := hBE.out.frozen 6
              have r0 := (hRE.out.cell 0).trans (show _ = some (.int .i64 0) from rfl)
              have q0 := hRE.out.frozen 0
              have r1 := (hRE.out.cell 1).trans (show _ = some (.int .i64 0) from rfl)
              have q1 := hRE.out.frozen 1
              have r2 := (hRE.out.cell 2).trans (show _ = some (.int .i64 0) from rfl)
              have q2 := hRE.out.frozen 2
              have r3 := (hRE.out.cell 3).trans (show _ = some (.int .u64 0) from rfl)
              have q3 := hRE.out.frozen 3
              have r4 := (hRE.out.cell 4).trans (show _ = some (.int .i64 0) from rfl)
              have q4 := hRE.out.frozen 4
              have r5 := (hRE.out.cell 5).trans (show _ = some (.int .i64 0) from rfl)
              have q5 := hRE.out.frozen 5
              have r6 := (hRE.out.cell 6).trans (show _ = some (.int .i64 0) from rfl)
              have q6 := hRE.out.frozen 6
              clear hB hR hbr
              have hBn : Hid (Blk (((wr.alloc (.cells #[.int .i64 x0, .int .i64 2, .int .u64 ad, .int .u64 wd, .bool false, .int .i64 er] 61)).setCell ⟨w1.heap.size, 2, none⟩ (.int .i64 m)).setCell ⟨w1.heap.size, 5, none⟩ (.int .i64 ((xrd : Int) + 1))) w1.heap.size 38 (encT (updR (⟨xth, xfi, xla, xsn, xho, xrd, xwr⟩ : Tr) m ⟨x0, 2, ad, wd, false, er⟩)).toArray) := Lib.hid (Blk.cast (((hBE.out.set_ 2 (.int .i64 m)).set_ 5 (.int .i64 ((xrd : Int) + 1)))) (by simp [encT, updR, endK]))
              have hRn := Lib.hid (((hRE.out.far (p := ⟨w1.heap.size, 2, none⟩) hne.out (.int .i64 m)).far (p := ⟨w1.heap.size, 5, none⟩) hne.out (.int .i64 ((xrd : Int) + 1))))
              have hbn := Lib.hid (((hbE.out.setCell (p := ⟨w1.heap.size, 2, none⟩) hs1 (.int .i64 m)).setCell (p := ⟨w1.heap.size, 5, none⟩) hs1 (.int .i64 ((xrd : Int) + 1))))
              clear hBE hRE hbE
              go_wp2
              go_roundw
              case rel => exact ⟨n + 1, by have := hm.out; omega, by have := hm.out; go_num, Lib.hid (by rw [hu.out]; simp [endK]), Lib.hid (by rw [hu.out]; exact hBn.out), hRn, hbn⟩
              case measure => have := hm.out; simp [intOf]; omega
            | true =>
              have hBE := Lib.hid (hB.out.alloc (.cells #[.int .i64 x0, .int .i64 2, .int .u64 ad, .int .u64 wd, .bool true, .int .i64 er] 61))
              have hRE := Lib.hid (hR.out.alloc (.cells #[.int .i64 x0, .int .i64 2, .int .u64 ad, .int .u64 wd, .bool true, .int .i64 er] 61))
              have hbE := Lib.hid (hbr.out.alloc hbr.out.size (.cells #[.int .i64 x0, .int .i64 2, .int .u64 ad, .int .u64 wd, .bool true, .int .i64 er] 61))
              have t0 := (hBE.out.cell 0).trans (show _ = some (.int .i64 xth) from rfl)
              have p0 := hBE.out.frozen 0
              have t1 := (hBE.out.cell 1).trans (show _ = some (.int .i64 xfi) from rfl)
              have p1 := hBE.out.frozen 1
              have t2 := (hBE.out.cell 2).trans (show _ = some (.int .i64 xla) from rfl)
              have p2 := hBE.out.frozen 2
              have t3 := (hBE.out.cell 3).trans (show _ = some (.int .u64 xsn) from rfl)
              have p3 := hBE.out.frozen 3
              have t4 := (hBE.out.cell 4).trans (show _ = some (.int .i64 xho) from rfl)
              have p4 := hBE.out.frozen 4
              have t5 := (hBE.out.cell 5).trans (show _ = some (.int .i64 xrd) from rfl)
              have p5 := hBE.out.frozen 5
              have t6 := (hBE.out.cell 6).trans (show _ = some (.int .i64 xwr) from rfl)
              have p6 := hBE.out.frozen 6
              have r0 := (hRE.out.cell 0).trans (show _ = some (.int .i64 0) from rfl)
              have q0 := hRE.out.frozen 0
              have r1 := (hRE.out.cell 1).trans (show _ = some (.int .i64 0) from rfl)
              have q1 := hRE.out.frozen 1
              have r2 := (hRE.out.cell 2).trans (show _ = some (.int .i64 0) from rfl)
              have q2 := hRE.out.frozen 2
              have r3 := (hRE.out.cell 3).trans (show _ = some (.int .u64 0) from rfl)
              have q3 := hRE.out.frozen 3
              have r4 := (hRE.out.cell 4).trans (show _ = some (.int .i64 0) from rfl)
              have q4 := hRE.out.frozen 4
              have r5 := (hRE.out.cell 5).trans (show _ = some (.int .i64 0) from rfl)
              have q5 := hRE.out.frozen 5
              have r6 := (hRE.out.cell 6).trans (show _ = some (.int .i64 0) from rfl)
              have q6 := hRE.out.frozen 6
              clear hB hR hbr
              have hBn : Hid (Blk ((wr.alloc (.cells #[.int .i64 x0, .int .i64 2, .int .u64 ad, .int .u64 wd, .bool true, .int .i64 er] 61)).setCell ⟨w1.heap.size, 2, none⟩ (.int .i64 m)) w1.heap.size 38 (encT (updR (⟨xth, xfi, xla, xsn, xho, xrd, xwr⟩ : Tr) m ⟨x0, 2, ad, wd, true, er⟩)).toArray) := Lib.hid (Blk.cast ((hBE.out.set_ 2 (.int .i64 m))) (by simp [encT, updR, endK]))
              have hRn := Lib.hid ((hRE.out.far (p := ⟨w1.heap.size, 2, none⟩) hne.out (.int .i64 m)))
              have hbn := Lib.hid ((hbE.out.setCell (p := ⟨w1.heap.size, 2, none⟩) hs1 (.int .i64 m)))
              clear hBE hRE hbE
              go_wp2
              go_roundw
              case rel => exact ⟨n + 1, by have := hm.out; omega, by have := hm.out; go_num, Lib.hid (by rw [hu.out]; simp [endK]), Lib.hid (by rw [hu.out]; exact hBn.out), hRn, hbn⟩
              case measure => have := hm.out; simp [intOf]; omega
          have f2 : (x1 == 2) = false := by simpa using h2
          by_cases h3 : x1 = 3
          · subst h3
            have hBE := Lib.hid (hB.out.alloc (.cells #[.int .i64 x0, .int .i64 3, .int .u64 ad, .int .u64 wd, .bool ow, .int .i64 er] 61))
            have hRE := Lib.hid (hR.out.alloc (.cells #[.int .i64 x0, .int .i64 3, .int .u64 ad, .int .u64 wd, .bool ow, .int .i64 er] 61))
            have hbE := Lib.hid (hbr.out.alloc hbr.out.size (.cells #[.int .i64 x0, .int .i64 3, .int .u64 ad, .int .u64 wd, .bool ow, .int .i64 er] 61))
            have t0 := (hBE.out.cell 0).trans (show _ = some (.int .i64 xth) from rfl)
            have p0 := hBE.out.frozen 0
            have t1 := (hBE.out.cell 1).trans (show _ = some (.int .i64 xfi) from rfl)
            have p1 := hBE.out.frozen 1
            have t2 := (hBE.out.cell 2).trans (show _ = some (.int .i64 xla) from rfl)
            have p2 := hBE.out.frozen 2
            have t3 := (hBE.out.cell 3).trans (show _ = some (.int .u64 xsn) from rfl)
            have p3 := hBE.out.frozen 3
            have t4 := (hBE.out.cell 4).trans (show _ = some (.int .i64 xho) from rfl)
            have p4 := hBE.out.frozen 4
            have t5 := (hBE.out.cell 5).trans (show _ = some (.int .i64 xrd) from rfl)
            have p5 := hBE.out.frozen 5
            have t6 := (hBE.out.cell 6).trans (show _ = some (.int .i64 xwr) from rfl)
            have p6 := hBE.out.frozen 6
            have r0 := (hRE.out.cell 0).trans (show _ = some (.int .i64 0) from rfl)
            have q0 := hRE.out.frozen 0
            have r1 := (hRE.out.cell 1).trans (show _ = some (.int .i64 0) from rfl)
            have q1 := hRE.out.frozen 1
            have r2 := (hRE.out.cell 2).trans (show _ = some (.int .i64 0) from rfl)
            have q2 := hRE.out.frozen 2
            have r3 := (hRE.out.cell 3).trans (show _ = some (.int .u64 0) from rfl)
            have q3 := hRE.out.frozen 3
            have r4 := (hRE.out.cell 4).trans (show _ = some (.int .i64 0) from rfl)
            have q4 := hRE.out.frozen 4
            have r5 := (hRE.out.cell 5).trans (show _ = some (.int .i64 0) from rfl)
            have q5 := hRE.out.frozen 5
            have r6 := (hRE.out.cell 6).trans (show _ = some (.int .i64 0) from rfl)
            have q6 := hRE.out.frozen 6
            clear hB hR hbr
            have hBn : Hid (Blk (((wr.alloc (.cells #[.int .i64 x0, .int .i64 3, .int .u64 ad, .int .u64 wd, .bool ow, .int .i64 er] 61)).setCell ⟨w1.heap.size, 2, none⟩ (.int .i64 m)).setCell ⟨w1.heap.size, 6, none⟩ (.int .i64 ((xwr : Int) + 1))) w1.heap.size 38 (encT (updR (⟨xth, xfi, xla, xsn, xho, xrd, xwr⟩ : Tr) m ⟨x0, 3, ad, wd, ow, er⟩)).toArray) := Lib.hid (Blk.cast (((hBE.out.set_ 2 (.int .i64 m)).set_ 6 (.int .i64 ((xwr : Int) + 1)))) (by simp [encT, updR, endK]))
            have hRn := Lib.hid (((hRE.out.far (p := ⟨w1.heap.size, 2, none⟩) hne.out (.int .i64 m)).far (p := ⟨w1.heap.size, 6, none⟩) hne.out (.int .i64 ((xwr : Int) + 1))))
            have hbn := Lib.hid (((hbE.out.setCell (p := ⟨w1.heap.size, 2, none⟩) hs1 (.int .i64 m)).setCell (p := ⟨w1.heap.size, 6, none⟩) hs1 (.int .i64 ((xwr : Int) + 1))))
            clear hBE hRE hbE
            go_wp2
            go_roundw
            case rel => exact ⟨n + 1, by have := hm.out; omega, by have := hm.out; go_num, Lib.hid (by rw [hu.out]; simp [endK]), Lib.hid (by rw [hu.out]; exact hBn.out), hRn, hbn⟩
            case measure => have := hm.out; simp [intOf]; omega
          have f3 : (x1 == 3) = false := by simpa using h3
          by_cases h6 : x1 = 6
          · subst h6
            have hBE := Lib.hid (hB.out.alloc (.cells #[.int .i64 x0, .int .i64 6, .int .u64 ad, .int .u64 wd, .bool ow, .int .i64 er] 61))
            have hRE := Lib.hid (hR.out.alloc (.cells #[.int .i64 x0, .int .i64 6, .int .u64 ad, .int .u64 wd, .bool ow, .int .i64 er] 61))
            have hbE := Lib.hid (hbr.out.alloc hbr.out.size (.cells #[.int .i64 x0, .int .i64 6, .int .u64 ad, .int .u64 wd, .bool ow, .int .i64 er] 61))
            have t0 := (hBE.out.cell 0).trans (show _ = some (.int .i64 xth) from rfl)
            have p0 := hBE.out.frozen 0
            have t1 := (hBE.out.cell 1).trans (show _ = some (.int .i64 xfi) from rfl)
            have p1 := hBE.out.frozen 1
            have t2 := (hBE.out.cell 2).trans (show _ = some (.int .i64 xla) from rfl)
            have p2 := hBE.out.frozen 2
            have t3 := (hBE.out.cell 3).trans (show _ = some (.int .u64 xsn) from rfl)
            have p3 := hBE.out.frozen 3
            have t4 := (hBE.out.cell 4).trans (show _ = some (.int .i64 xho) from rfl)
            have p4 := hBE.out.frozen 4
            have t5 := (hBE.out.cell 5).trans (show _ = some (.int .i64 xrd) from rfl)
            have p5 := hBE.out.frozen 5
            have t6 := (hBE.out.cell 6).trans (show _ = some (.int .i64 xwr) from rfl)
            have p6 := hBE.out.frozen 6
            have r0 := (hRE.out.cell 0).trans (show _ = some (.int .i64 0) from rfl)
            have q0 := hRE.out.frozen 0
            have r1 := (hRE.out.cell 1).trans (show _ = some (.int .i64 0) from rfl)
            have q1 := hRE.out.frozen 1
            have r2 := (hRE.out.cell 2).trans (show _ = some (.int .i64 0) from rfl)
            have q2 := hRE.out.frozen 2
            have r3 := (hRE.out.cell 3).trans (show _ = some (.int .u64 0) from rfl)
            have q3 := hRE.out.frozen 3
            have r4 := (hRE.out.cell 4).trans (show _ = some (.int .i64 0) from rfl)
            have q4 := hRE.out.frozen 4
            have r5 := (hRE.out.cell 5).trans (show _ = some (.int .i64 0) from rfl)
            have q5 := hRE.out.frozen 5
            have r6 := (hRE.out.cell 6).trans (show _ = some (.int .i64 0) from rfl)
            have q6 := hRE.out.frozen 6
            clear hB hR hbr
            go_wp2
            refine bodyPost_ret (v := .agg #[.int .i64 xth, .int .i64 xfi, .int .i64 m, .int .u64 xsn, .int .i64 6, .int .i64 xrd, .int .i64 xwr]) (by simp [results, Try.results55, go_sem, r0, r1, r2, r3, r4, r5, r6, q0, q1, q2, q3, q4, q5, q6]) rfl ⟨?_, (((((((((hbE.out.setCell (p := ⟨w1.heap.size, 2, none⟩) hs1 (.int .i64 m)).setCell (p := ⟨w1.heap.size, 4, none⟩) hs1 (.int .i64 6)).setCell (p := ⟨w.heap.size, 0, none⟩) (Nat.le_refl _) (.int .i64 xth)).setCell (p := ⟨w.heap.size, 1, none⟩) (Nat.le_refl _) (.int .i64 xfi)).setCell (p := ⟨w.heap.size, 2, none⟩) (Nat.le_refl _) (.int .i64 m)).setCell (p := ⟨w.heap.size, 3, none⟩) (Nat.le_refl _) (.int .u64 xsn)).setCell (p := ⟨w.heap.size, 4, none⟩) (Nat.le_refl _) (.int .i64 6)).setCell (p := ⟨w.heap.size, 5, none⟩) (Nat.le_refl _) (.int .i64 xrd)).setCell (p := ⟨w.heap.size, 6, none⟩) (Nat.le_refl _) (.int .i64 xwr))⟩
            rw [show tryF l a = updR ⟨xth, xfi, xla, xsn, xho, xrd, xwr⟩ m ⟨x0, 6, ad, wd, ow, er⟩ from by unfold tryF; rw [tryS_done (n := n + 1) (by rw [hu.out]; simp [endK]) _ (by have := hm.out; omega), hu.out]]
            simp [encT, updR, endK]
          have f6 : (x1 == 6) = false := by simpa using h6
          by_cases h7 : x1 = 7
          · subst h7
            have hBE := Lib.hid (hB.out.alloc (.cells #[.int .i64 x0, .int .i64 7, .int .u64 ad, .int .u64 wd, .bool ow, .int .i64 er] 61))
            have hRE := Lib.hid (hR.out.alloc (.cells #[.int .i64 x0, .int .i64 7, .int .u64 ad, .int .u64 wd, .bool ow, .int .i64 er] 61))
            have hbE := Lib.hid (hbr.out.alloc hbr.out.size (.cells #[.int .i64 x0, .int .i64 7, .int .u64 ad, .int .u64 wd, .bool ow, .int .i64 er] 61))
            have t0 := (hBE.out.cell 0).trans (show _ = some (.int .i64 xth) from rfl)
            have p0 := hBE.out.frozen 0
            have t1 := (hBE.out.cell 1).trans (show _ = some (.int .i64 xfi) from rfl)
            have p1 := hBE.out.frozen 1
            have t2 := (hBE.out.cell 2).trans (show _ = some (.int .i64 xla) from rfl)
            have p2 := hBE.out.frozen 2
            have t3 := (hBE.out.cell 3).trans (show _ = some (.int .u64 xsn) from rfl)
            have p3 := hBE.out.frozen 3
            have t4 := (hBE.out.cell 4).trans (show _ = some (.int .i64 xho) from rfl)
            have p4 := hBE.out.frozen 4
            have t5 := (hBE.out.cell 5).trans (show _ = some (.int .i64 xrd) from rfl)
            have p5 := hBE.out.frozen 5
            have t6 := (hBE.out.cell 6).trans (show _ = some (.int .i64 xwr) from rfl)
            have p6 := hBE.out.frozen 6
            have r0 := (hRE.out.cell 0).trans (show _ = some (.int .i64 0) from rfl)
            have q0 := hRE.out.frozen 0
            have r1 := (hRE.out.cell 1).trans (show _ = some (.int .i64 0) from rfl)
            have q1 := hRE.out.frozen 1
            have r2 := (hRE.out.cell 2).trans (show _ = some (.int .i64 0) from rfl)
            have q2 := hRE.out.frozen 2
            have r3 := (hRE.out.cell 3).trans (show _ = some (.int .u64 0) from rfl)
            have q3 := hRE.out.frozen 3
            have r4 := (hRE.out.cell 4).trans (show _ = some (.int .i64 0) from rfl)
            have q4 := hRE.out.frozen 4
            have r5 := (hRE.out.cell 5).trans (show _ = some (.int .i64 0) from rfl)
            have q5 := hRE.out.frozen 5
            have r6 := (hRE.out.cell 6).trans (show _ = some (.int .i64 0) from rfl)
            have q6 := hRE.out.frozen 6
            clear hB hR hbr
            go_wp2
            refine bodyPost_ret (v := .agg #[.int .i64 xth, .int .i64 xfi, .int .i64 m, .int .u64 xsn, .int .i64 7, .int .i64 xrd, .int .i64 xwr]) (by simp [results, Try.results55, go_sem, r0, r1, r2, r3, r4, r5, r6, q0, q1, q2, q3, q4, q5, q6]) rfl ⟨?_, (((((((((hbE.out.setCell (p := ⟨w1.heap.size, 2, none⟩) hs1 (.int .i64 m)).setCell (p := ⟨w1.heap.size, 4, none⟩) hs1 (.int .i64 7)).setCell (p := ⟨w.heap.size, 0, none⟩) (Nat.le_refl _) (.int .i64 xth)).setCell (p := ⟨w.heap.size, 1, none⟩) (Nat.le_refl _) (.int .i64 xfi)).setCell (p := ⟨w.heap.size, 2, none⟩) (Nat.le_refl _) (.int .i64 m)).setCell (p := ⟨w.heap.size, 3, none⟩) (Nat.le_refl _) (.int .u64 xsn)).setCell (p := ⟨w.heap.size, 4, none⟩) (Nat.le_refl _) (.int .i64 7)).setCell (p := ⟨w.heap.size, 5, none⟩) (Nat.le_refl _) (.int .i64 xrd)).setCell (p := ⟨w.heap.size, 6, none⟩) (Nat.le_refl _) (.int .i64 xwr))⟩
            rw [show tryF l a = updR ⟨xth, xfi, xla, xsn, xho, xrd, xwr⟩ m ⟨x0, 7, ad, wd, ow, er⟩ from by unfold tryF; rw [tryS_done (n := n + 1) (by rw [hu.out]; simp [endK]) _ (by have := hm.out; omega), hu.out]]
            simp [encT, updR, endK]
          have f7 : (x1 == 7) = false := by simpa using h7
          by_cases h8 : x1 = 8
          · subst h8
            have hBE := Lib.hid (hB.out.alloc (.cells #[.int .i64 x0, .int .i64 8, .int .u64 ad, .int .u64 wd, .bool ow, .int .i64 er] 61))
            have hRE := Lib.hid (hR.out.alloc (.cells #[.int .i64 x0, .int .i64 8, .int .u64 ad, .int .u64 wd, .bool ow, .int .i64 er] 61))
            have hbE := Lib.hid (hbr.out.alloc hbr.out.size (.cells #[.int .i64 x0, .int .i64 8, .int .u64 ad, .int .u64 wd, .bool ow, .int .i64 er] 61))
            have t0 := (hBE.out.cell 0).trans (show _ = some (.int .i64 xth) from rfl)
            have p0 := hBE.out.frozen 0
            have t1 := (hBE.out.cell 1).trans (show _ = some (.int .i64 xfi) from rfl)
            have p1 := hBE.out.frozen 1
            have t2 := (hBE.out.cell 2).trans (show _ = some (.int .i64 xla) from rfl)
            have p2 := hBE.out.frozen 2
            have t3 := (hBE.out.cell 3).trans (show _ = some (.int .u64 xsn) from rfl)
            have p3 := hBE.out.frozen 3
            have t4 := (hBE.out.cell 4).trans (show _ = some (.int .i64 xho) from rfl)
            have p4 := hBE.out.frozen 4
            have t5 := (hBE.out.cell 5).trans (show _ = some (.int .i64 xrd) from rfl)
            have p5 := hBE.out.frozen 5
            have t6 := (hBE.out.cell 6).trans (show _ = some (.int .i64 xwr) from rfl)
            have p6 := hBE.out.frozen 6
            have r0 := (hRE.out.cell 0).trans (show _ = some (.int .i64 0) from rfl)
            have q0 := hRE.out.frozen 0
            have r1 := (hRE.out.cell 1).trans (show _ = some (.int .i64 0) from rfl)
            have q1 := hRE.out.frozen 1
            have r2 := (hRE.out.cell 2).trans (show _ = some (.int .i64 0) from rfl)
            have q2 := hRE.out.frozen 2
            have r3 := (hRE.out.cell 3).trans (show _ = some (.int .u64 0) from rfl)
            have q3 := hRE.out.frozen 3
            have r4 := (hRE.out.cell 4).trans (show _ = some (.int .i64 0) from rfl)
            have q4 := hRE.out.frozen 4
            have r5 := (hRE.out.cell 5).trans (show _ = some (.int .i64 0) from rfl)
            have q5 := hRE.out.frozen 5
            have r6 := (hRE.out.cell 6).trans (show _ = some (.int .i64 0) from rfl)
            have q6 := hRE.out.frozen 6
            clear hB hR hbr
            go_wp2
            refine bodyPost_ret (v := .agg #[.int .i64 xth, .int .i64 xfi, .int .i64 m, .int .u64 xsn, .int .i64 8, .int .i64 xrd, .int .i64 xwr]) (by simp [results, Try.results55, go_sem, r0, r1, r2, r3, r4, r5, r6, q0, q1, q2, q3, q4, q5, q6]) rfl ⟨?_, (((((((((hbE.out.setCell (p := ⟨w1.heap.size, 2, none⟩) hs1 (.int .i64 m)).setCell (p := ⟨w1.heap.size, 4, none⟩) hs1 (.int .i64 8)).setCell (p := ⟨w.heap.size, 0, none⟩) (Nat.le_refl _) (.int .i64 xth)).setCell (p := ⟨w.heap.size, 1, none⟩) (Nat.le_refl _) (.int .i64 xfi)).setCell (p := ⟨w.heap.size, 2, none⟩) (Nat.le_refl _) (.int .i64 m)).setCell (p := ⟨w.heap.size, 3, none⟩) (Nat.le_refl _) (.int .u64 xsn)).setCell (p := ⟨w.heap.size, 4, none⟩) (Nat.le_refl _) (.int .i64 8)).setCell (p := ⟨w.heap.size, 5, none⟩) (Nat.le_refl _) (.int .i64 xrd)).setCell (p := ⟨w.heap.size, 6, none⟩) (Nat.le_refl _) (.int .i64 xwr))⟩
            rw [show tryF l a = updR ⟨xth, xfi, xla, xsn, xho, xrd, xwr⟩ m ⟨x0, 8, ad, wd, ow, er⟩ from by unfold tryF; rw [tryS_done (n := n + 1) (by rw [hu.out]; simp [endK]) _ (by have := hm.out; omega), hu.out]]
            simp [encT, updR, endK]
          have f8 : (x1 == 8) = false := by simpa using h8
          by_cases h9 : x1 = 9
          · subst h9
            have hBE := Lib.hid (hB.out.alloc (.cells #[.int .i64 x0, .int .i64 9, .int .u64 ad, .int .u64 wd, .bool ow, .int .i64 er] 61))
            have hRE := Lib.hid (hR.out.alloc (.cells #[.int .i64 x0, .int .i64 9, .int .u64 ad, .int .u64 wd, .bool ow, .int .i64 er] 61))
            have hbE := Lib.hid (hbr.out.alloc hbr.out.size (.cells #[.int .i64 x0, .int .i64 9, .int .u64 ad, .int .u64 wd, .bool ow, .int .i64 er] 61))
            have t0 := (hBE.out.cell 0).trans (show _ = some (.int .i64 xth) from rfl)
            have p0 := hBE.out.frozen 0
            have t1 := (hBE.out.cell 1).trans (show _ = some (.int .i64 xfi) from rfl)
            have p1 := hBE.out.frozen 1
            have t2 := (hBE.out.cell 2).trans (show _ = some (.int .i64 xla) from rfl)
            have p2 := hBE.out.frozen 2
            have t3 := (hBE.out.cell 3).trans (show _ = some (.int .u64 xsn) from rfl)
            have p3 := hBE.out.frozen 3
            have t4 := (hBE.out.cell 4).trans (show _ = some (.int .i64 xho) from rfl)
            have p4 := hBE.out.frozen 4
            have t5 := (hBE.out.cell 5).trans (show _ = some (.int .i64 xrd) from rfl)
            have p5 := hBE.out.frozen 5
            have t6 := (hBE.out.cell 6).trans (show _ = some (.int .i64 xwr) from rfl)
            have p6 := hBE.out.frozen 6
            have r0 := (hRE.out.cell 0).trans (show _ = some (.int .i64 0) from rfl)
            have q0 := hRE.out.frozen 0
            have r1 := (hRE.out.cell 1).trans (show _ = some (.int .i64 0) from rfl)
            have q1 := hRE.out.frozen 1
            have r2 := (hRE.out.cell 2).trans (show _ = some (.int .i64 0) from rfl)
            have q2 := hRE.out.frozen 2
            have r3 := (hRE.out.cell 3).trans (show _ = some (.int .u64 0) from rfl)
            have q3 := hRE.out.frozen 3
            have r4 := (hRE.out.cell 4).trans (show _ = some (.int .i64 0) from rfl)
            have q4 := hRE.out.frozen 4
            have r5 := (hRE.out.cell 5).trans (show _ = some (.int .i64 0) from rfl)
            have q5 := hRE.out.frozen 5
            have r6 := (hRE.out.cell 6).trans (show _ = some (.int .i64 0) from rfl)
            have q6 := hRE.out.frozen 6
            clear hB hR hbr
            go_wp2
            refine bodyPost_ret (v := .agg #[.int .i64 xth, .int .i64 xfi, .int .i64 m, .int .u64 xsn, .int .i64 9, .int .i64 xrd, .int .i64 xwr]) (by simp [results, Try.results55, go_sem, r0, r1, r2, r3, r4, r5, r6, q0, q1, q2, q3, q4, q5, q6]) rfl ⟨?_, (((((((((hbE.out.setCell (p := ⟨w1.heap.size, 2, none⟩) hs1 (.int .i64 m)).setCell (p := ⟨w1.heap.size, 4, none⟩) hs1 (.int .i64 9)).setCell (p := ⟨w.heap.size, 0, none⟩) (Nat.le_refl _) (.int .i64 xth)).setCell (p := ⟨w.heap.size, 1, none⟩) (Nat.le_refl _) (.int .i64 xfi)).setCell (p := ⟨w.heap.size, 2, none⟩) (Nat.le_refl _) (.int .i64 m)).setCell (p := ⟨w.heap.size, 3, none⟩) (Nat.le_refl _) (.int .u64 xsn)).setCell (p := ⟨w.heap.size, 4, none⟩) (Nat.le_refl _) (.int .i64 9)).setCell (p := ⟨w.heap.size, 5, none⟩) (Nat.le_refl _) (.int .i64 xrd)).setCell (p := ⟨w.heap.size, 6, none⟩) (Nat.le_refl _) (.int .i64 xwr))⟩
            rw [show tryF l a = updR ⟨xth, xfi, xla, xsn, xho, xrd, xwr⟩ m ⟨x0, 9, ad, wd, ow, er⟩ from by unfold tryF; rw [tryS_done (n := n + 1) (by rw [hu.out]; simp [endK]) _ (by have := hm.out; omega), hu.out]]
            simp [encT, updR, endK]
          have f9 : (x1 == 9) = false := by simpa using h9
          have hBE := Lib.hid (hB.out.alloc (.cells #[.int .i64 x0, .int .i64 x1, .int .u64 ad, .int .u64 wd, .bool ow, .int .i64 er] 61))
          have hRE := Lib.hid (hR.out.alloc (.cells #[.int .i64 x0, .int .i64 x1, .int .u64 ad, .int .u64 wd, .bool ow, .int .i64 er] 61))
          have hbE := Lib.hid (hbr.out.alloc hbr.out.size (.cells #[.int .i64 x0, .int .i64 x1, .int .u64 ad, .int .u64 wd, .bool ow, .int .i64 er] 61))
          have t0 := (hBE.out.cell 0).trans (show _ = some (.int .i64 xth) from rfl)
          have p0 := hBE.out.frozen 0
          have t1 := (hBE.out.cell 1).trans (show _ = some (.int .i64 xfi) from rfl)
          have p1 := hBE.out.frozen 1
          have t2 := (hBE.out.cell 2).trans (show _ = some (.int .i64 xla) from rfl)
          have p2 := hBE.out.frozen 2
          have t3 := (hBE.out.cell 3).trans (show _ = some (.int .u64 xsn) from rfl)
          have p3 := hBE.out.frozen 3
          have t4 := (hBE.out.cell 4).trans (show _ = some (.int .i64 xho) from rfl)
          have p4 := hBE.out.frozen 4
          have t5 := (hBE.out.cell 5).trans (show _ = some (.int .i64 xrd) from rfl)
          have p5 := hBE.out.frozen 5
          have t6 := (hBE.out.cell 6).trans (show _ = some (.int .i64 xwr) from rfl)
          have p6 := hBE.out.frozen 6
          have r0 := (hRE.out.cell 0).trans (show _ = some (.int .i64 0) from rfl)
          have q0 := hRE.out.frozen 0
          have r1 := (hRE.out.cell 1).trans (show _ = some (.int .i64 0) from rfl)
          have q1 := hRE.out.frozen 1
          have r2 := (hRE.out.cell 2).trans (show _ = some (.int .i64 0) from rfl)
          have q2 := hRE.out.frozen 2
          have r3 := (hRE.out.cell 3).trans (show _ = some (.int .u64 0) from rfl)
          have q3 := hRE.out.frozen 3
          have r4 := (hRE.out.cell 4).trans (show _ = some (.int .i64 0) from rfl)
          have q4 := hRE.out.frozen 4
          have r5 := (hRE.out.cell 5).trans (show _ = some (.int .i64 0) from rfl)
          have q5 := hRE.out.frozen 5
          have r6 := (hRE.out.cell 6).trans (show _ = some (.int .i64 0) from rfl)
          have q6 := hRE.out.frozen 6
          clear hB hR hbr
          have hBn : Hid (Blk ((wr.alloc (.cells #[.int .i64 x0, .int .i64 x1, .int .u64 ad, .int .u64 wd, .bool ow, .int .i64 er] 61)).setCell ⟨w1.heap.size, 2, none⟩ (.int .i64 m)) w1.heap.size 38 (encT (updR (⟨xth, xfi, xla, xsn, xho, xrd, xwr⟩ : Tr) m ⟨x0, x1, ad, wd, ow, er⟩)).toArray) := Lib.hid (Blk.cast ((hBE.out.set_ 2 (.int .i64 m))) (by simp [encT, updR, endK, h4, h2, h3, h6, h7, h8, h9]))
          have hRn := Lib.hid ((hRE.out.far (p := ⟨w1.heap.size, 2, none⟩) hne.out (.int .i64 m)))
          have hbn := Lib.hid ((hbE.out.setCell (p := ⟨w1.heap.size, 2, none⟩) hs1 (.int .i64 m)))
          clear hBE hRE hbE
          go_wp2
          go_roundw
          case rel => exact ⟨n + 1, by have := hm.out; omega, by have := hm.out; go_num, Lib.hid (by rw [hu.out]; simp [endK, h4, h2, h3, h6, h7, h8, h9]), Lib.hid (by rw [hu.out]; exact hBn.out), hRn, hbn⟩
          case measure => have := hm.out; simp [intOf]; omega
        · have g1 : (x0 != xth) = true := by simpa using g0
          rw [if_pos g0] at hu
          replace g0 := Lib.hid g0
          have hBE := Lib.hid (hB.out.alloc (.cells #[.int .i64 x0, .int .i64 x1, .int .u64 ad, .int .u64 wd, .bool ow, .int .i64 er] 61))
          have hRE := Lib.hid (hR.out.alloc (.cells #[.int .i64 x0, .int .i64 x1, .int .u64 ad, .int .u64 wd, .bool ow, .int .i64 er] 61))
          have hbE := Lib.hid (hbr.out.alloc hbr.out.size (.cells #[.int .i64 x0, .int .i64 x1, .int .u64 ad, .int .u64 wd, .bool ow, .int .i64 er] 61))
          have t0 := (hBE.out.cell 0).trans (show _ = some (.int .i64 xth) from rfl)
          have p0 := hBE.out.frozen 0
          have t1 := (hBE.out.cell 1).trans (show _ = some (.int .i64 xfi) from rfl)
          have p1 := hBE.out.frozen 1
          have t2 := (hBE.out.cell 2).trans (show _ = some (.int .i64 xla) from rfl)
          have p2 := hBE.out.frozen 2
          have t3 := (hBE.out.cell 3).trans (show _ = some (.int .u64 xsn) from rfl)
          have p3 := hBE.out.frozen 3
          have t4 := (hBE.out.cell 4).trans (show _ = some (.int .i64 xho) from rfl)
          have p4 := hBE.out.frozen 4
          have t5 := (hBE.out.cell 5).trans (show _ = some (.int .i64 xrd) from rfl)
          have p5 := hBE.out.frozen 5
          have t6 := (hBE.out.cell 6).trans (show _ = some (.int .i64 xwr) from rfl)
          have p6 := hBE.out.frozen 6
          have r0 := (hRE.out.cell 0).trans (show _ = some (.int .i64 0) from rfl)
          have q0 := hRE.out.frozen 0
          have r1 := (hRE.out.cell 1).trans (show _ = some (.int .i64 0) from rfl)
          have q1 := hRE.out.frozen 1
          have r2 := (hRE.out.cell 2).trans (show _ = some (.int .i64 0) from rfl)
          have q2 := hRE.out.frozen 2
          have r3 := (hRE.out.cell 3).trans (show _ = some (.int .u64 0) from rfl)
          have q3 := hRE.out.frozen 3
          have r4 := (hRE.out.cell 4).trans (show _ = some (.int .i64 0) from rfl)
          have q4 := hRE.out.frozen 4
          have r5 := (hRE.out.cell 5).trans (show _ = some (.int .i64 0) from rfl)
          have q5 := hRE.out.frozen 5
          have r6 := (hRE.out.cell 6).trans (show _ = some (.int .i64 0) from rfl)
          have q6 := hRE.out.frozen 6
          clear hB hR hbr
          have hBn : Hid (Blk (wr.alloc (.cells #[.int .i64 x0, .int .i64 x1, .int .u64 ad, .int .u64 wd, .bool ow, .int .i64 er] 61)) w1.heap.size 38 (encT (⟨xth, xfi, xla, xsn, xho, xrd, xwr⟩ : Tr)).toArray) := Lib.hid (Blk.cast (hBE.out) (by simp [encT, updR, endK]))
          have hRn := Lib.hid (hRE.out)
          have hbn := Lib.hid (hbE.out)
          clear hBE hRE hbE
          go_wp2
          go_roundw
          case rel => exact ⟨n + 1, by have := hm.out; omega, by have := hm.out; go_num, Lib.hid (by rw [hu.out]), Lib.hid (by rw [hu.out]; exact hBn.out), hRn, hbn⟩
          case measure => have := hm.out; simp [intOf]; omega
      · have hn2 : n = l.length - (a + 1) := by omega
        have b1 : ¬ ((a + 1 + n : Nat) : Int) < l.length := by omega
        subst hn2
        have hF : Hid ((tryS l a (l.length - (a + 1))).1 = tryF l a) := Lib.hid rfl
        rw [hF.out] at hB
        obtain ⟨x, hx⟩ : ∃ x, tryF l a = x := ⟨_, rfl⟩
        rw [hx] at hB
        replace hx := Lib.hid hx
        obtain ⟨xth, xfi, xla, xsn, xho, xrd, xwr⟩ := x
        generalize a + 1 + (l.length - (a + 1)) = m at *
        have t0 := (hB.out.cell 0).trans (show _ = some (.int .i64 xth) from rfl)
        have t1 := (hB.out.cell 1).trans (show _ = some (.int .i64 xfi) from rfl)
        have t2 := (hB.out.cell 2).trans (show _ = some (.int .i64 xla) from rfl)
        have t3 := (hB.out.cell 3).trans (show _ = some (.int .u64 xsn) from rfl)
        have t4 := (hB.out.cell 4).trans (show _ = some (.int .i64 xho) from rfl)
        have t5 := (hB.out.cell 5).trans (show _ = some (.int .i64 xrd) from rfl)
        have t6 := (hB.out.cell 6).trans (show _ = some (.int .i64 xwr) from rfl)
        have r0 := (hR.out.cell 0).trans (show _ = some (.int .i64 0) from rfl)
        have q0 := hR.out.frozen 0
        have r1 := (hR.out.cell 1).trans (show _ = some (.int .i64 0) from rfl)
        have q1 := hR.out.frozen 1
        have r2 := (hR.out.cell 2).trans (show _ = some (.int .i64 0) from rfl)
        have q2 := hR.out.frozen 2
        have r3 := (hR.out.cell 3).trans (show _ = some (.int .u64 0) from rfl)
        have q3 := hR.out.frozen 3
        have r4 := (hR.out.cell 4).trans (show _ = some (.int .i64 0) from rfl)
        have q4 := hR.out.frozen 4
        have r5 := (hR.out.cell 5).trans (show _ = some (.int .i64 0) from rfl)
        have q5 := hR.out.frozen 5
        have r6 := (hR.out.cell 6).trans (show _ = some (.int .i64 0) from rfl)
        have q6 := hR.out.frozen 6
        go_wp2
        refine bodyPost_ret (v := .agg #[.int .i64 xth, .int .i64 xfi, .int .i64 xla, .int .u64 xsn, .int .i64 xho, .int .i64 xrd, .int .i64 xwr]) (by simp [results, Try.results55, go_sem, r0, r1, r2, r3, r4, r5, r6, q0, q1, q2, q3, q4, q5, q6]) rfl ⟨by rw [hx.out]; rfl, (((((((hbr.out.setCell (p := ⟨w.heap.size, 0, none⟩) (Nat.le_refl _) (.int .i64 xth)).setCell (p := ⟨w.heap.size, 1, none⟩) (Nat.le_refl _) (.int .i64 xfi)).setCell (p := ⟨w.heap.size, 2, none⟩) (Nat.le_refl _) (.int .i64 xla)).setCell (p := ⟨w.heap.size, 3, none⟩) (Nat.le_refl _) (.int .u64 xsn)).setCell (p := ⟨w.heap.size, 4, none⟩) (Nat.le_refl _) (.int .i64 xho)).setCell (p := ⟨w.heap.size, 5, none⟩) (Nat.le_refl _) (.int .i64 xrd)).setCell (p := ⟨w.heap.size, 6, none⟩) (Nat.le_refl _) (.int .i64 xwr))⟩
end Go.Proofs.Ytloiadhdkgkjkaa
