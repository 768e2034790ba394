/- What stands while a list is gone over. -/
import Derived.Test.YtcgdpclhlepofaaPPl5
import Derived.Test.YtcgdpclhlepofaaPPl9
namespace Go.Proofs.Ytcgdpclhlepofaa
open Go.RowKit
set_option maxHeartbeats 4000000
set_option linter.unusedVariables false
set_option linter.unusedSimpArgs false

/-- What is asked of each key: J, of its own blocks G and of the keys that were asked about, beside F. -/
structure PLaw (q : Int → Bool) (J : World → (Nat → Prop) → (Nat → Prop) → List Int → Prop) (gf : Nat) (av : Int → Array Value) : Prop where
  ent : ∀ (args : Array Value) (w : World), (callFunc gf args).run Try.prog w = .ok (.enter gf args) w
  lt : ∀ {w : World} {F G : Nat → Prop} {l : List Int}, J w F G l → ∀ k, G k → k < w.heap.size ∧ ¬ F k
  keep : ∀ {w w' : World} {F F' G : Nat → Prop} {l : List Int}, J w F G l → (∀ k, G k → w'.heap[k]? = w.heap[k]?) → (∀ k, G k → ¬ F' k) → J w' F' G l
  call : ∀ {w : World} {F G : Nat → Prop} {l : List Int} {key : Int}, (∀ k, F k → k < w.heap.size) → l.length ≤ 60000 → 0 ≤ key → key ≤ 18446744073709551615 → J w F G l →
    Calls Try.prog gf (av key) w fun en w' => en = .returned (.bool (q key)) ∧ ∃ G', J w' F G' (l ++ [key]) ∧ Fr G w G' w'

def plc (p : Pl) : Array Value := #[.int .u64 p.from_, .int .u64 p.next, .int .u64 p.key, .int .u64 p.ahead]
def Pl.Bd (p : Pl) : Prop := 0 ≤ p.from_ ∧ p.from_ ≤ 18446744073709551615 ∧ 0 ≤ p.next ∧ p.next ≤ 18446744073709551615 ∧ 0 ≤ p.key ∧ p.key ≤ 18446744073709551615 ∧ 0 ≤ p.ahead ∧ p.ahead ≤ 18446744073709551615
/-- While a list is gone over: the tx, the hand, what is asked, the place and where it is handed back. -/
structure Fnd (t h pb rb n : Nat) (F0 : Nat → Prop) (w0 : World) (J : World → (Nat → Prop) → (Nat → Prop) → List Int → Prop) (w : World) (F G : Nat → Prop) (s : St) (e : Int) (p : Pl) (ks : List Int) : Prop where
  tx : Txw w t F s
  hd : Hnd w h t e
  hn : ¬ F h
  f : Fits s
  b : Bud s n
  j : J w (fun k => F k ∨ k = h) G ks
  m : Fr F0 w0 (fun k => (F k ∨ k = h) ∨ G k) w
  P : Blk w pb 84 (plc p)
  R : Blk w rb 84 #[.int .u64 0, .int .u64 0, .int .u64 0, .int .u64 0]
  new : w0.heap.size ≤ pb ∧ w0.heap.size ≤ rb ∧ pb ≠ rb
  nP : ¬ F pb ∧ ¬ G pb
  nR : ¬ F rb ∧ ¬ G rb
section
variable {t h pb rb n n' : Nat} {F0 F G F' G' : Nat → Prop} {w0 w w' : World} {J : World → (Nat → Prop) → (Nat → Prop) → List Int → Prop} {s s' : St} {e e' : Int} {p : Pl} {ks : List Int} {q : Int → Bool} {gf : Nat} {av : Int → Array Value}
theorem Fnd.ne (k : Fnd t h pb rb n F0 w0 J w F G s e p ks) : pb ≠ h ∧ rb ≠ h := ⟨Blk.ne_ k.P k.hd (by decide), Blk.ne_ k.R k.hd (by decide)⟩
theorem Fnd.cells (k : Fnd t h pb rb n F0 w0 J w F G s e p ks) : w.cell? ⟨pb, 0, none⟩ = some (.int .u64 p.from_) ∧ w.cell? ⟨pb, 1, none⟩ = some (.int .u64 p.next) ∧ w.cell? ⟨pb, 2, none⟩ = some (.int .u64 p.key) ∧ w.cell? ⟨pb, 3, none⟩ = some (.int .u64 p.ahead) ∧ w.frozen? ⟨pb, 0, none⟩ = false ∧ w.frozen? ⟨pb, 1, none⟩ = false ∧ w.frozen? ⟨pb, 2, none⟩ = false ∧ w.frozen? ⟨pb, 3, none⟩ = false :=
  ⟨by rw [k.P.cell]; rfl, by rw [k.P.cell]; rfl, by rw [k.P.cell]; rfl, by rw [k.P.cell]; rfl, k.P.frozen 0, k.P.frozen 1, k.P.frozen 2, k.P.frozen 3⟩
theorem Fnd.rcells (k : Fnd t h pb rb n F0 w0 J w F G s e p ks) : w.cell? ⟨rb, 0, none⟩ = some (.int .u64 0) ∧ w.cell? ⟨rb, 1, none⟩ = some (.int .u64 0) ∧ w.cell? ⟨rb, 2, none⟩ = some (.int .u64 0) ∧ w.cell? ⟨rb, 3, none⟩ = some (.int .u64 0) ∧ w.frozen? ⟨rb, 0, none⟩ = false ∧ w.frozen? ⟨rb, 1, none⟩ = false ∧ w.frozen? ⟨rb, 2, none⟩ = false ∧ w.frozen? ⟨rb, 3, none⟩ = false :=
  ⟨by rw [k.R.cell]; rfl, by rw [k.R.cell]; rfl, by rw [k.R.cell]; rfl, by rw [k.R.cell]; rfl, k.R.frozen 0, k.R.frozen 1, k.R.frozen 2, k.R.frozen 3⟩
theorem Fnd.mono {m : Nat} (k : Fnd t h pb rb n F0 w0 J w F G s e p ks) (hm : m ≤ n) : Fnd t h pb rb m F0 w0 J w F G s e p ks := ⟨k.tx, k.hd, k.hn, k.f, k.b.mono hm, k.j, k.m, k.P, k.R, k.new, k.nP, k.nR⟩
/-- The hand has turned. -/
theorem Fnd.turn (HJ : PLaw q J gf av) (k : Fnd t h pb rb n F0 w0 J w F G s e p ks) (hl : LftH t h n' (fun k => F k ∨ k = h) w s' e' w') : ∃ F', Fnd t h pb rb n' F0 w0 J w' F' G s' e' p ks := by
  obtain ⟨f, b, F', c, d, g, m⟩ := hl
  have hj := HJ.lt k.j
  refine ⟨F', c, d, g, f, b, ?_, k.m.trans (m.side G), m.blk k.P fun h => h.elim k.nP.1 k.ne.1, m.blk k.R fun h => h.elim k.nR.1 k.ne.2, k.new, ⟨fun h => (m.new pb (.inl h)).elim (fun h => h.elim k.nP.1 k.ne.1) fun h => by have := k.P.lt; omega, k.nP.2⟩, ⟨fun h => (m.new rb (.inl h)).elim (fun h => h.elim k.nR.1 k.ne.2) fun h => by have := k.R.lt; omega, k.nR.2⟩⟩
  exact HJ.keep k.j (fun x hx => m.block x (hj x hx).1 (hj x hx).2) fun x hx h => (m.new x h).elim (hj x hx).2 fun h => by have := (hj x hx).1; omega
/-- A key was asked about. -/
theorem Fnd.asked (HJ : PLaw q J gf av) (k : Fnd t h pb rb n F0 w0 J w F G s e p ks) {key : Int} (hj : J w' (fun k => F k ∨ k = h) G' (ks ++ [key])) (hm : Fr G w G' w') : Fnd t h pb rb n F0 w0 J w' F G' s e p (ks ++ [key]) := by
  have hj0 := HJ.lt k.j
  refine ⟨k.tx.fr hm fun x hx hg => (hj0 x hg).2 (.inl hx), hm.blk k.hd fun hg => (hj0 h hg).2 (.inr rfl), k.hn, k.f, k.b, hj, ?_, hm.blk k.P k.nP.2, hm.blk k.R k.nR.2, k.new, ⟨k.nP.1, fun h => (hm.new pb h).elim k.nP.2 fun h => by have := k.P.lt; omega⟩, ⟨k.nR.1, fun h => (hm.new rb h).elim k.nR.2 fun h => by have := k.R.lt; omega⟩⟩
  have h1 : Fr (fun x => (F x ∨ x = h) ∨ G x) w (fun x => G x ∨ G' x) w' := (Fr.wide hm fun x hx => .inr hx).into fun x hx => hx.elim (fun h => .inr (.inl (.inr h))) .inl
  exact k.m.trans (h1.into fun x hx => hx.elim (fun h => .inr (.inl (.inl h))) fun h => .inl (.inr h))
/-- The place is written. -/
theorem Fnd.put (HJ : PLaw q J gf av) (k : Fnd t h pb rb n F0 w0 J w F G s e p ks) (i : Nat) (u : Value) (p' : Pl) (hp : (plc p).setIfInBounds i u = plc p') : Fnd t h pb rb n F0 w0 J (w.setCell ⟨pb, i, none⟩ u) F G s e p' ks := by
  have hj := HJ.lt k.j
  refine ⟨k.tx.set (p := ⟨pb, i, none⟩) k.nP.1 u, Blk.far k.hd (p := ⟨pb, i, none⟩) k.ne.1.symm u, k.hn, k.f, k.b, ?_, k.m.set (p := ⟨pb, i, none⟩) (.inr (.inr k.new.1)) u, hp ▸ k.P.set_ i u, k.R.far (p := ⟨pb, i, none⟩) k.new.2.2.symm u, k.new, k.nP, k.nR⟩
  exact HJ.keep k.j (fun x hx => Below.heap_setCell w _ u x (by rintro rfl; exact k.nP.2 hx)) fun x hx => (hj x hx).2
theorem Fnd.drewN (HJ : PLaw q J gf av) (k : Fnd t h pb rb n F0 w0 J w F G s e p ks) (m : Nat) : Fnd t h pb rb n F0 w0 J (w.drewN m) F G s e p ks :=
  ⟨k.tx, k.hd, k.hn, k.f, k.b, HJ.keep k.j (fun _ _ => rfl) fun x hx => (HJ.lt k.j x hx).2, k.m.drewN m, k.P, k.R, k.new, k.nP, k.nR⟩
theorem Fnd.next (HJ : PLaw q J gf av) (k : Fnd t h pb rb n F0 w0 J w F G s e p ks) (x : Int) : Fnd t h pb rb n F0 w0 J (w.setCell ⟨pb, 1, none⟩ (.int .u64 x)) F G s e { p with next := x } ks := k.put HJ 1 _ _ (by simp [plc])
theorem Fnd.key (HJ : PLaw q J gf av) (k : Fnd t h pb rb n F0 w0 J w F G s e p ks) (x : Int) : Fnd t h pb rb n F0 w0 J (w.setCell ⟨pb, 2, none⟩ (.int .u64 x)) F G s e { p with key := x } ks := k.put HJ 2 _ _ (by simp [plc])
theorem Fnd.fro (HJ : PLaw q J gf av) (k : Fnd t h pb rb n F0 w0 J w F G s e p ks) (x : Int) : Fnd t h pb rb n F0 w0 J (w.setCell ⟨pb, 0, none⟩ (.int .u64 x)) F G s e { p with from_ := x } ks := k.put HJ 0 _ _ (by simp [plc])
theorem Fnd.ahd (HJ : PLaw q J gf av) (k : Fnd t h pb rb n F0 w0 J w F G s e p ks) (x : Int) : Fnd t h pb rb n F0 w0 J (w.setCell ⟨pb, 3, none⟩ (.int .u64 x)) F G s e { p with ahead := x } ks := k.put HJ 3 _ _ (by simp [plc])
end
/-- What a search leaves behind. -/
def LftF (t h n : Nat) (F0 : Nat → Prop) (w0 : World) (J : World → (Nat → Prop) → (Nat → Prop) → List Int → Prop) (s' : St) (e' : Int) (ks : List Int) (w' : World) : Prop :=
  Fits s' ∧ Bud s' n ∧ ∃ F' G', Txw w' t F' s' ∧ Hnd w' h t e' ∧ ¬ F' h ∧ J w' (fun k => F' k ∨ k = h) G' ks ∧ Fr F0 w0 (fun k => (F' k ∨ k = h) ∨ G' k) w'
/-- The place is handed back. -/
theorem Fnd.fin {t h pb rb n : Nat} {F0 F G : Nat → Prop} {w0 w : World} {J : World → (Nat → Prop) → (Nat → Prop) → List Int → Prop} {s : St} {e : Int} {p : Pl} {ks : List Int} {q : Int → Bool} {gf : Nat} {av : Int → Array Value}
    (HJ : PLaw q J gf av) (k : Fnd t h pb rb n F0 w0 J w F G s e p ks) {x0 x1 x2 x3 : Int} (h0 : x0 = p.from_) (h1 : x1 = p.next) (h2 : x2 = p.key) (h3 : x3 = p.ahead) :
    Blk ((((w.setCell ⟨rb, 0, none⟩ (.int .u64 x0)).setCell ⟨rb, 1, none⟩ (.int .u64 x1)).setCell ⟨rb, 2, none⟩ (.int .u64 x2)).setCell ⟨rb, 3, none⟩ (.int .u64 x3)) rb 84 (plc p) ∧
    LftF t h n F0 w0 J s e ks ((((w.setCell ⟨rb, 0, none⟩ (.int .u64 x0)).setCell ⟨rb, 1, none⟩ (.int .u64 x1)).setCell ⟨rb, 2, none⟩ (.int .u64 x2)).setCell ⟨rb, 3, none⟩ (.int .u64 x3)) := by
  subst h0 h1 h2 h3
  have hj := HJ.lt k.j
  have hB := (((k.R.set_ 0 (.int .u64 p.from_)).set_ 1 (.int .u64 p.next)).set_ 2 (.int .u64 p.key)).set_ 3 (.int .u64 p.ahead)
  refine ⟨by simpa [plc] using hB, k.f, k.b, F, G, ?_, ?_, k.hn, ?_, ?_⟩
  · exact (((k.tx.set (p := ⟨rb, 0, none⟩) k.nR.1 _).set (p := ⟨rb, 1, none⟩) k.nR.1 _).set (p := ⟨rb, 2, none⟩) k.nR.1 _).set (p := ⟨rb, 3, none⟩) k.nR.1 _
  · exact Blk.far (Blk.far (Blk.far (Blk.far k.hd (p := ⟨rb, 0, none⟩) k.ne.2.symm _) (p := ⟨rb, 1, none⟩) k.ne.2.symm _) (p := ⟨rb, 2, none⟩) k.ne.2.symm _) (p := ⟨rb, 3, none⟩) k.ne.2.symm _
  · refine HJ.keep k.j (fun x hx => ?_) fun x hx => (hj x hx).2
    have hx' : ∀ o : Nat, x ≠ (⟨rb, o, none⟩ : Addr).block := fun o => by rintro rfl; exact k.nR.2 hx
    rw [Below.heap_setCell _ _ _ _ (hx' 3), Below.heap_setCell _ _ _ _ (hx' 2), Below.heap_setCell _ _ _ _ (hx' 1), Below.heap_setCell _ _ _ _ (hx' 0)]
  · exact (((k.m.set (p := ⟨rb, 0, none⟩) (.inr (.inr k.new.2.1)) _).set (p := ⟨rb, 1, none⟩) (.inr (.inr k.new.2.1)) _).set (p := ⟨rb, 2, none⟩) (.inr (.inr k.new.2.1)) _).set (p := ⟨rb, 3, none⟩) (.inr (.inr k.new.2.1)) _
end Go.Proofs.Ytcgdpclhlepofaa
/- A list gone over, by contract. -/
namespace Go.Proofs.Ytcgdpclhlepofaa
open Go.RowKit
set_option maxHeartbeats 4000000
set_option linter.unusedVariables false
set_option linter.unusedSimpArgs false

set_option maxRecDepth 100000 in
theorem find_b {t h n N gf : Nat} {F F0 G : Nat → Prop} {s s' : St} {e e' l : Int} {w w0 : World} {J : World → (Nat → Prop) → (Nat → Prop) → List Int → Prop} {q : Int → Bool} {cap : Array Value} {p' : Pl} {ks' : List Int}
    (HJ : PLaw q J gf fun key => #[.int .u64 key] ++ cap)
    (hw : Txw w t F s) (hh : Hnd w h t e) (hn : ¬ F h) (hj : J w (fun k => F k ∨ k = h) G []) (hf : Fits s) (hb : Bud s (n + 2 * N + 1)) (hN : N ≤ 60000) (hl : 0 ≤ l) (hl' : l ≤ 18446744073709551615) (hR : hfind q N s e l = some (p', ks', e', s'))
    (hm : Fr F0 w0 (fun k => (F k ∨ k = h) ∨ G k) w) :
    Calls Try.prog 55 #[.pointer (some ⟨h, 0, none⟩), .int .u64 l, .func (.func gf) #[] cap] w fun en w' =>
      en = .returned (.agg (plc p')) ∧ p'.Bd ∧ ks'.length ≤ N ∧ LftF t h n F0 w0 J s' e' ks' w' := by
  have HJ := Lib.hid HJ
  have hrb := Blk.new w 84 #[.int .u64 0, .int .u64 0, .int .u64 0, .int .u64 0]
  have hTw := hw.alloc (.cells #[.int .u64 0, .int .u64 0, .int .u64 0, .int .u64 0] 84)
  have hHw : Hnd (w.alloc (.cells #[.int .u64 0, .int .u64 0, .int .u64 0, .int .u64 0] 84)) h t e := Blk.alloc hh _
  have hJw : J (w.alloc (.cells #[.int .u64 0, .int .u64 0, .int .u64 0, .int .u64 0] 84)) (fun k => F k ∨ k = h) G [] := HJ.out.keep hj (fun k hk => Below.heap_alloc w _ k (HJ.out.lt hj k hk).1) fun k hk => (HJ.out.lt hj k hk).2
  have hMw := hm.alloc (.cells #[.int .u64 0, .int .u64 0, .int .u64 0, .int .u64 0] 84)
  have hnr : ¬ F w.heap.size ∧ ¬ G w.heap.size := ⟨fun c => by have := hw.lt _ c; omega, fun c => by have := (HJ.out.lt hj _ c).1; omega⟩
  have hr0 := hm.size
  have hR := Lib.hid hR
  clear hw hh hj hm
  go_enter Try.func55, Try.ntmps55
  go_wp2_with fail
  go_step3
  generalize hWe : w.alloc (.cells #[.int .u64 0, .int .u64 0, .int .u64 0, .int .u64 0] 84) = w1 at *
  generalize hre : w.heap.size = rb at *
  clear hWe hre
  go_wp2_with fail
  refine (hget_b (n := n + 2 * N) hTw hHw hn hf hb hl (Fr.refl _ _)).mono ?_
  rintro _ w2 ⟨count, e2, s2, q2, dc, dc', rfl, hL2⟩
  have hL2 := Lib.hid hL2
  have K0 : ∃ F2, Hid (Fnd t h w2.heap.size rb (n + 2 * N) F0 w0 J (w2.alloc (.cells #[.int .u64 (IntKind.u64.wrap (l + 1)), .int .u64 0, .int .u64 0, .int .u64 0] 84)) F2 G s2 e2 { from_ := uAdd l 1, next := 0, key := 0, ahead := 0 } []) := by
    obtain ⟨f, b, F', c, d, g, m⟩ := hL2.out
    have hjl := HJ.out.lt hJw
    have ms := m.size
    have hneh : rb ≠ h := Blk.ne_ hrb hHw (by decide)
    have hrl := hrb.lt
    refine ⟨F', Lib.hid ⟨c.alloc _, Blk.alloc d _, g, f, b, ?_, (hMw.trans (m.side G)).alloc _, Blk.new _ _ _, (m.blk hrb fun x => x.elim hnr.1 hneh).alloc _, ⟨by have := hMw.size; omega, hr0, by omega⟩, ⟨fun x => by have := c.lt _ x; omega, fun x => by have := (hjl _ x).1; omega⟩, ⟨fun x => (m.new rb (.inl x)).elim (fun x => x.elim hnr.1 hneh) fun x => by omega, hnr.2⟩⟩⟩
    exact HJ.out.keep hJw (fun x hx => (Below.heap_alloc w2 _ x (by have := (hjl x hx).1; omega)).trans (m.block x (hjl x hx).1 (hjl x hx).2)) fun x hx y => (m.new x y).elim (hjl x hx).2 fun y => by have := (hjl x hx).1; omega
  obtain ⟨F2, K0⟩ := K0
  have hq0 : Hid (fGo q count N 0 { from_ := uAdd l 1, next := 0, key := 0, ahead := 0 } [] e2 s2 = some (p', ks', e', s')) := by
    have h := hR.out
    unfold hfind at h
    rw [q2.out] at h
    exact Lib.hid h
  clear hR q2 hL2 hTw hHw hJw hMw hnr hr0 hrb hn hf hb
  go_wp2_with fail
  generalize w2.alloc (.cells #[.int .u64 (IntKind.u64.wrap (l + 1)), .int .u64 0, .int .u64 0, .int .u64 0] 84) = w3 at *
  generalize w2.heap.size = pb at *
  go_step3
  go_wp2_with fail
  go_loopg [9] N (fun gk c9 wr => ∃ (last : Int) (p : Pl) (ks : List Int) (e1 : Int) (s1 : St) (F1 G1 : Nat → Prop), c9 = .int .u64 last ∧ 0 ≤ last ∧ last ≤ 18446744073709551615 ∧ p.Bd ∧ ks.length + gk = N ∧ Hid (fGo q count gk last p ks e1 s1 = some (p', ks', e', s')) ∧ Hid (Fnd t h pb rb (n + 2 * gk) F0 w0 J wr F1 G1 s1 e1 p ks))
  case atStart => exact ⟨0, _, [], e2, s2, F2, G, rfl, by omega, by omega, ⟨(uAdd_bd l 1).1, (uAdd_bd l 1).2, by simp, by simp, by simp, by simp, by simp, by simp⟩, by simp, hq0, K0⟩
  case round =>
    obtain ⟨last, p, ks, e1, s1, F1, G1, rfl, dl, dl', hB, hks, hq, hK⟩ := hrel
    clear hq0 K0
    obtain ⟨m, rfl⟩ : ∃ m, gk = m + 1 := by
      rcases gk with _ | m
      · have := hq.out; simp [fGo] at this
      · exact ⟨m, rfl⟩
    obtain ⟨c0, c1, c2, c3, z0, z1, z2, z3⟩ := hK.out.cells
    have hB := Lib.hid hB
    have hks := Lib.hid hks
    go_wp2_with fail
    refine (hget_b (n := n + 2 * m + 1) hK.out.tx hK.out.hd hK.out.hn hK.out.f hK.out.b hB.out.1 (Fr.refl _ _)).mono ?_
    rintro _ w4 ⟨nx, e4, s4, q4, dx, dx', rfl, hL4⟩
    obtain ⟨F4, K4⟩ := hK.out.turn HJ.out hL4
    clear hK hL4 c0 c1 c2 c3 z0 z1 z2 z3
    have K5 := Lib.hid (K4.next HJ.out nx)
    obtain ⟨-, c1, -, -, -, z1, -, -⟩ := K4.cells
    obtain ⟨c0, c1', c2, c3, z0, z1', z2, z3⟩ := K5.out.cells
    obtain ⟨-, d1, -⟩ := K5.out.hd.cells
    obtain ⟨r0, r1, r2, r3, y0, y1, y2, y3⟩ := K5.out.rcells
    clear K4
    by_cases he : e4 = 0
    case neg =>
      have he' : (e4 != 0) = true := by simpa using he
      have hr := hq.out.symm.trans (fGo_e1 (k := m) q4.out he)
      obtain ⟨rfl, rfl, rfl, rfl⟩ : p' = { p with next := nx } ∧ ks' = ks ∧ e' = e4 ∧ s' = s4 := by simpa using hr
      have HB := hB.out
      clear hq hr he
      obtain ⟨hBr, hL⟩ := Fnd.fin HJ.out ((K5.out).mono (m := n) (by omega)) rfl rfl rfl rfl; have hL := Lib.hid hL; have b0 := hBr.cell 0; have b1 := hBr.cell 1; have b2 := hBr.cell 2; have b3 := hBr.cell 3; simp only [plc, List.getElem?_toArray, List.getElem?_cons_zero, List.getElem?_cons_succ] at b0 b1 b2 b3; clear hBr; go_wp2_with fail; (try rw [Exit.noGoto_ret]); refine bodyPost_ret (v := .agg (plc { p with next := nx })) (by simp [results, Try.func55, go_sem, b0, b1, b2, b3, plc]) rfl ?_; exact ⟨rfl, ⟨HB.1, HB.2.1, dx, dx', HB.2.2.2.2⟩, by have := hks.out; simp; omega, hL.out⟩
    subst he
    by_cases hnx : nx = 0
    · subst hnx
      have hr := hq.out.symm.trans (fGo_end (k := m) q4.out)
      obtain ⟨rfl, rfl, hE, rfl⟩ : p' = { p with next := 0 } ∧ ks' = ks ∧ e' = (if p.ahead = count then 0 else 310) ∧ s' = s4 := by simpa using hr
      have HB := hB.out
      clear hq hr
      by_cases hcnt : p.ahead = count
      · have hz : (p.ahead != count) = false := by simpa using hcnt
        rw [if_pos hcnt] at hE
        subst hE
        clear hcnt
        obtain ⟨hBr, hL⟩ := Fnd.fin HJ.out ((K5.out).mono (m := n) (by omega)) rfl rfl rfl rfl; have hL := Lib.hid hL; have b0 := hBr.cell 0; have b1 := hBr.cell 1; have b2 := hBr.cell 2; have b3 := hBr.cell 3; simp only [plc, List.getElem?_toArray, List.getElem?_cons_zero, List.getElem?_cons_succ] at b0 b1 b2 b3; clear hBr; go_wp2_with fail; (try rw [Exit.noGoto_ret]); refine bodyPost_ret (v := .agg (plc { p with next := 0 })) (by simp [results, Try.func55, go_sem, b0, b1, b2, b3, plc]) rfl ?_; exact ⟨rfl, ⟨HB.1, HB.2.1, by simp, by simp, HB.2.2.2.2⟩, by have := hks.out; simp; omega, hL.out⟩
      · have hz : (p.ahead != count) = true := by simpa using hcnt
        rw [if_neg hcnt] at hE
        subst hE
        clear hcnt
        go_wp2_with fail
        refine (hbad_b (n := n + 2 * m + 1) K5.out.tx K5.out.hd K5.out.hn K5.out.f K5.out.b (Fr.refl _ _)).mono ?_
        rintro _ w6 ⟨rfl, hL6⟩
        obtain ⟨F6, K6⟩ := K5.out.turn HJ.out hL6
        have K6 := Lib.hid K6
        clear hL6 K5 c0 c1 c1' c2 c3 z0 z1 z1' z2 z3 d1 r0 r1 r2 r3 y0 y1 y2 y3
        obtain ⟨c0, c1, c2, c3, z0, z1, z2, z3⟩ := (K6.out).cells; obtain ⟨-, d1, -⟩ := (K6.out).hd.cells; obtain ⟨r0, r1, r2, r3, y0, y1, y2, y3⟩ := (K6.out).rcells
        obtain ⟨hBr, hL⟩ := Fnd.fin HJ.out ((K6.out).mono (m := n) (by omega)) rfl rfl rfl rfl; have hL := Lib.hid hL; have b0 := hBr.cell 0; have b1 := hBr.cell 1; have b2 := hBr.cell 2; have b3 := hBr.cell 3; simp only [plc, List.getElem?_toArray, List.getElem?_cons_zero, List.getElem?_cons_succ] at b0 b1 b2 b3; clear hBr; go_wp2_with fail; (try rw [Exit.noGoto_ret]); refine bodyPost_ret (v := .agg (plc { p with next := 0 })) (by simp [results, Try.func55, go_sem, b0, b1, b2, b3, plc]) rfl ?_; exact ⟨rfl, ⟨HB.1, HB.2.1, by simp, by simp, HB.2.2.2.2⟩, by have := hks.out; simp; omega, hL.out⟩
    have hz : (nx == 0) = false := by simpa using hnx
    obtain ⟨u1, u2⟩ := uw_bd (nx - 1)
    have Hnx := Lib.hid hnx
    clear hnx
    go_wp2_with fail
    refine (hget_b (n := n + 2 * m) K5.out.tx K5.out.hd K5.out.hn K5.out.f K5.out.b u1 (Fr.refl _ _)).mono ?_
    rintro _ w6 ⟨key, e6, s6, q6, dk, dk', rfl, hL6⟩
    obtain ⟨F6, K6⟩ := K5.out.turn HJ.out hL6
    clear hL6 K5 c0 c1 c1' c2 c3 z0 z1 z1' z2 z3 d1 r0 r1 r2 r3 y0 y1 y2 y3
    have K7 := Lib.hid (K6.key HJ.out key)
    obtain ⟨-, -, C2, -, -, -, Z2, -⟩ := K6.cells
    clear K6
    obtain ⟨c0, c1, c2, c3, z0, z1, z2, z3⟩ := (K7.out).cells; obtain ⟨-, d1, -⟩ := (K7.out).hd.cells; obtain ⟨r0, r1, r2, r3, y0, y1, y2, y3⟩ := (K7.out).rcells
    by_cases he : e6 = 0
    case neg =>
      have he' : (e6 != 0) = true := by simpa using he
      have hr := hq.out.symm.trans (fGo_e2 (k := m) q4.out Hnx.out q6.out he)
      obtain ⟨rfl, rfl, rfl, rfl⟩ : p' = { p with next := nx, key := key } ∧ ks' = ks ∧ e' = e6 ∧ s' = s6 := by simpa using hr
      have HB := hB.out
      clear hq hr he
      obtain ⟨hBr, hL⟩ := Fnd.fin HJ.out ((K7.out).mono (m := n) (by omega)) rfl rfl rfl rfl; have hL := Lib.hid hL; have b0 := hBr.cell 0; have b1 := hBr.cell 1; have b2 := hBr.cell 2; have b3 := hBr.cell 3; simp only [plc, List.getElem?_toArray, List.getElem?_cons_zero, List.getElem?_cons_succ] at b0 b1 b2 b3; clear hBr; go_wp2_with fail; (try rw [Exit.noGoto_ret]); refine bodyPost_ret (v := .agg (plc { p with next := nx, key := key })) (by simp [results, Try.func55, go_sem, b0, b1, b2, b3, plc]) rfl ?_; exact ⟨rfl, ⟨HB.1, HB.2.1, dx, dx', dk, dk', HB.2.2.2.2.2.2⟩, by have := hks.out; simp; omega, hL.out⟩
    subst he
    have hHB := hB.out.2.2.2.2.2.2
    by_cases hbad : count ≤ p.ahead ∨ 0 < p.ahead ∧ key ≤ last
    · have hr := hq.out.symm.trans (fGo_bad (k := m) q4.out Hnx.out q6.out hbad)
      obtain ⟨rfl, rfl, rfl, rfl⟩ : p' = { p with next := nx, key := key } ∧ ks' = ks ∧ e' = 310 ∧ s' = s6 := by simpa using hr
      have HB := hB.out
      have hcases : Hid ((decide (count ≤ p.ahead) = true) ∨ (decide (count ≤ p.ahead) = false ∧ decide (0 < p.ahead) = true ∧ decide (key ≤ last) = true)) := Lib.hid (by
        by_cases h1 : count ≤ p.ahead
        · exact .inl (decide_eq_true h1)
        · exact .inr ⟨decide_eq_false h1, decide_eq_true (hbad.resolve_left h1).1, decide_eq_true (hbad.resolve_left h1).2⟩)
      clear hq hr hbad
      rcases hcases.out with g1 | ⟨g1, g2, g3⟩
      all_goals
        clear hcases
        go_wp2_with fail
        refine (hbad_b (n := n + 2 * m) K7.out.tx K7.out.hd K7.out.hn K7.out.f K7.out.b (Fr.refl _ _)).mono ?_
        rintro _ w8 ⟨rfl, hL8⟩
        obtain ⟨F8, K8⟩ := K7.out.turn HJ.out hL8
        have K8 := Lib.hid K8
        clear hL8 K7 c0 c1 c2 c3 z0 z1 z2 z3 d1 r0 r1 r2 r3 y0 y1 y2 y3 C2 Z2
        obtain ⟨c0, c1, c2, c3, z0, z1, z2, z3⟩ := (K8.out).cells; obtain ⟨-, d1, -⟩ := (K8.out).hd.cells; obtain ⟨r0, r1, r2, r3, y0, y1, y2, y3⟩ := (K8.out).rcells
        obtain ⟨hBr, hL⟩ := Fnd.fin HJ.out ((K8.out).mono (m := n) (by omega)) rfl rfl rfl rfl; have hL := Lib.hid hL; have b0 := hBr.cell 0; have b1 := hBr.cell 1; have b2 := hBr.cell 2; have b3 := hBr.cell 3; simp only [plc, List.getElem?_toArray, List.getElem?_cons_zero, List.getElem?_cons_succ] at b0 b1 b2 b3; clear hBr; go_wp2_with fail; (try rw [Exit.noGoto_ret]); refine bodyPost_ret (v := .agg (plc { p with next := nx, key := key })) (by simp [results, Try.func55, go_sem, b0, b1, b2, b3, plc]) rfl ?_; exact ⟨rfl, ⟨HB.1, HB.2.1, dx, dx', dk, dk', HB.2.2.2.2.2.2⟩, by have := hks.out; simp; omega, hL.out⟩
    have hcases : Hid (decide (count ≤ p.ahead) = false ∧ (decide (0 < p.ahead) = false ∨ (decide (0 < p.ahead) = true ∧ decide (key ≤ last) = false))) := Lib.hid (by
        refine ⟨decide_eq_false fun h1 => hbad (.inl h1), ?_⟩
        by_cases h1 : 0 < p.ahead
        · exact .inr ⟨decide_eq_true h1, decide_eq_false fun h2 => hbad (.inr ⟨h1, h2⟩)⟩
        · exact .inl (decide_eq_false h1))
    have Hbad := Lib.hid hbad
    clear hbad
    obtain ⟨g1, hcs⟩ := hcases.out
    rcases hcs with g2 | ⟨g2, g3⟩
    all_goals
      clear hcases
      have HE := HJ.out.ent
      go_wp2_with fail
      clear HE
      refine (HJ.out.call (fun k hk => hk.elim (K7.out.tx.lt k) fun h => h ▸ Blk.lt K7.out.hd) (by have := hks.out; omega) dk dk' K7.out.j).mono ?_
      rintro _ w8 ⟨rfl, G8, hJ8, hm8⟩
      have K8 := Lib.hid (K7.out.asked HJ.out hJ8 hm8)
      clear hJ8 hm8 K7 c0 c1 c2 c3 z0 z1 z2 z3 d1 r0 r1 r2 r3 y0 y1 y2 y3 C2 Z2
      obtain ⟨c0, c1, c2, c3, z0, z1, z2, z3⟩ := (K8.out).cells; obtain ⟨-, d1, -⟩ := (K8.out).hd.cells; obtain ⟨r0, r1, r2, r3, y0, y1, y2, y3⟩ := (K8.out).rcells
      cases hqk : q key
      · have hr := hq.out.symm.trans (fGo_stop (k := m) q4.out Hnx.out q6.out Hbad.out hqk)
        obtain ⟨rfl, rfl, rfl, rfl⟩ : p' = { p with next := nx, key := key } ∧ ks' = ks ++ [key] ∧ e' = 0 ∧ s' = s6 := by simpa using hr
        have HB := hB.out
        clear hq hr
        obtain ⟨hBr, hL⟩ := Fnd.fin HJ.out ((K8.out).mono (m := n) (by omega)) rfl rfl rfl rfl; have hL := Lib.hid hL; have b0 := hBr.cell 0; have b1 := hBr.cell 1; have b2 := hBr.cell 2; have b3 := hBr.cell 3; simp only [plc, List.getElem?_toArray, List.getElem?_cons_zero, List.getElem?_cons_succ] at b0 b1 b2 b3; clear hBr; go_wp2_with fail; (try rw [Exit.noGoto_ret]); refine bodyPost_ret (v := .agg (plc { p with next := nx, key := key })) (by simp [results, Try.func55, go_sem, b0, b1, b2, b3, plc]) rfl ?_; exact ⟨rfl, ⟨HB.1, HB.2.1, dx, dx', dk, dk', HB.2.2.2.2.2.2⟩, by have := hks.out; simp; omega, hL.out⟩
      · have hr := hq.out.symm.trans (fGo_on (k := m) q4.out Hnx.out q6.out Hbad.out hqk)
        go_wp2_with fail
        have K9 := Lib.hid ((K8.out.fro HJ.out nx).ahd HJ.out (IntKind.u64.wrap (p.ahead + 1)))
        clear K8
        go_roundg m
        case measure => omega
        case rel => exact ⟨key, { from_ := nx, next := nx, key := key, ahead := uAdd p.ahead 1 }, ks ++ [key], 0, s6, F6, G8, rfl, dk, dk', ⟨dx, dx', dx, dx', dk, dk', uAdd_bd _ _⟩, by have := hks.out; simp; omega, Lib.hid hr.symm, K9⟩
  all_goals skip
end Go.Proofs.Ytcgdpclhlepofaa
/- What the list asks of each key, by contract: each of its closures. -/
namespace Go.Proofs.Ytcgdpclhlepofaa
open Go.RowKit
set_option maxHeartbeats 4000000
set_option linter.unusedVariables false
set_option linter.unusedSimpArgs false

/-- A captured word. -/
def JKey (cb : Nat) (key : Int) (w : World) (F G : Nat → Prop) (_l : List Int) : Prop := Blk w cb 23 #[.int .u64 key] ∧ ¬ F cb ∧ ∀ k, G k ↔ k = cb
theorem JKey.lt {cb : Nat} {key : Int} {w : World} {F G : Nat → Prop} {l : List Int} (h : JKey cb key w F G l) : ∀ k, G k → k < w.heap.size ∧ ¬ F k := fun k hk => by
  obtain ⟨a, b, c⟩ := h
  rw [(c k).1 hk]
  exact ⟨a.lt, b⟩
theorem JKey.keep {cb : Nat} {key : Int} {w w' : World} {F F' G : Nat → Prop} {l : List Int} (h : JKey cb key w F G l) (h1 : ∀ k, G k → w'.heap[k]? = w.heap[k]?) (h2 : ∀ k, G k → ¬ F' k) : JKey cb key w' F' G l :=
  ⟨(h1 cb ((h.2.2 cb).2 rfl)).trans h.1, h2 cb ((h.2.2 cb).2 rfl), h.2.2⟩
theorem atc_law (cb : Nat) (key : Int) : PLaw (fun x => decide (x < key)) (JKey cb key) 56 (fun x => #[.int .u64 x] ++ #[.pointer (some ⟨cb, 0, none⟩)]) := by
  refine ⟨fun _ _ => rfl, JKey.lt, JKey.keep, ?_⟩
  intro w F G l x hF hl h1 h2 hj
  have dc := hj.1.cell 0
  simp only [List.getElem?_toArray, List.getElem?_cons_zero] at dc
  have hj' : JKey cb key w F G (l ++ [x]) := hj
  clear hj
  show Calls Try.prog 56 #[.int .u64 x, .pointer (some ⟨cb, 0, none⟩)] w _
  go_enter Try.func56, Try.ntmps56
  go_wp2
  go_ret
  exact ⟨rfl, G, hj', Fr.refl _ _⟩
/-- Nothing captured. -/
def JNo (_w : World) (_F G : Nat → Prop) (_l : List Int) : Prop := ∀ k, ¬ G k
/-- A captured count. -/
def JCnt (cb : Nat) (w : World) (F G : Nat → Prop) (l : List Int) : Prop := Blk w cb 3 #[.int .i64 l.length] ∧ ¬ F cb ∧ ∀ k, G k ↔ k = cb
theorem JCnt.lt {cb : Nat} {w : World} {F G : Nat → Prop} {l : List Int} (h : JCnt cb w F G l) : ∀ k, G k → k < w.heap.size ∧ ¬ F k := fun k hk => by
  obtain ⟨a, b, c⟩ := h
  rw [(c k).1 hk]
  exact ⟨a.lt, b⟩
theorem JCnt.keep {cb : Nat} {w w' : World} {F F' G : Nat → Prop} {l : List Int} (h : JCnt cb w F G l) (h1 : ∀ k, G k → w'.heap[k]? = w.heap[k]?) (h2 : ∀ k, G k → ¬ F' k) : JCnt cb w' F' G l :=
  ⟨(h1 cb ((h.2.2 cb).2 rfl)).trans h.1, h2 cb ((h.2.2 cb).2 rfl), h.2.2⟩
/-- A captured slice of words. -/
def KSl (cb : Nat) (w : World) (F G : Nat → Prop) (l : List Int) : Prop :=
  ∃ A cp, Blk w cb 32 #[.slice A l.length cp] ∧ Wl w (.slice A l.length cp) l ∧ ¬ F cb ∧ (∀ k, G k ↔ (k = cb ∨ own (.slice A l.length cp) k)) ∧ ∀ k, own (.slice A l.length cp) k → ¬ F k ∧ k ≠ cb
theorem KSl.lt {cb : Nat} {w : World} {F G : Nat → Prop} {l : List Int} (h : KSl cb w F G l) : ∀ k, G k → k < w.heap.size ∧ ¬ F k := fun k hk => by
  obtain ⟨A, cp, hB, hv, hF, hG, ho⟩ := h
  rcases (hG k).1 hk with rfl | hk
  · exact ⟨hB.lt, hF⟩
  · exact ⟨hv.lt k hk, (ho k hk).1⟩
theorem KSl.keep {cb : Nat} {w w' : World} {F F' G : Nat → Prop} {l : List Int} (h : KSl cb w F G l) (h1 : ∀ k, G k → w'.heap[k]? = w.heap[k]?) (h2 : ∀ k, G k → ¬ F' k) : KSl cb w' F' G l := by
  obtain ⟨A, cp, hB, hv, hF, hG, ho⟩ := h
  exact ⟨A, cp, (h1 cb ((hG cb).2 (.inl rfl))).trans hB, hv.keep fun k hk => h1 k ((hG k).2 (.inr hk)), h2 cb ((hG cb).2 (.inl rfl)), hG, fun k hk => ⟨h2 k ((hG k).2 (.inr hk)), (ho k hk).2⟩⟩
set_option maxRecDepth 100000 in
theorem keysc_law (cb : Nat) : PLaw (fun _ => true) (KSl cb) 52 (fun x => #[.int .u64 x] ++ #[.pointer (some ⟨cb, 0, none⟩)]) := by
  refine ⟨fun _ _ => rfl, KSl.lt, KSl.keep, ?_⟩
  intro w F G l x hlt hl h1 h2 hj
  obtain ⟨A, cp, hB, hv, hF, hG, ho⟩ := hj
  have dc := hB.cell 0
  simp only [List.getElem?_toArray, List.getElem?_cons_zero] at dc
  have hx := Lib.hid (show (l.length + 1) * 8 ≤ 140737488355328 by omega)
  have HO := Lib.hid ho
  have HG := Lib.hid hG
  have HLT := Lib.hid hlt
  clear ho hG hlt
  show Calls Try.prog 52 #[.int .u64 x, .pointer (some ⟨cb, 0, none⟩)] w _
  go_enter Try.func52, Try.ntmps52
  have hnb : ¬ own (.slice A l.length cp) cb := hv.ne_ hB (by decide)
  go_wp2_with (at_builtin; refine wpList_word w rfl (.tmp 4) (.tmp 6) rfl (.slice A l.length cp) l x rfl hv rfl hx.out ?_; intro A4 c4 w4 hc4 hv4 hm4; have hB4 := hm4.blk hB hnb; have fz4 := hB4.frozen 0; have dc4 := hB4.cell 0; simp only [List.getElem?_toArray, List.getElem?_cons_zero] at dc4)
  have hcb4 : ¬ own (.slice A4 (l.length + 1) c4) cb := hv4.ne_ hB4 (by decide)
  have hB5 := hB4.set_ 0 (.slice A4 (l.length + 1) c4)
  have hv5 := hv4.set (p := ⟨cb, 0, none⟩) hcb4 (.slice A4 (l.length + 1) c4)
  have hm5 : Fr G w (fun k => k = cb ∨ own (.slice A4 (l.length + 1) c4) k) (w4.setCell ⟨cb, 0, none⟩ (.slice A4 (l.length + 1) c4)) := by
    have e1 : Fr G w (own (.slice A4 (l.length + 1) c4)) w4 := hm4.wide fun k hk => (HG.out k).2 (.inr hk)
    have e2 := e1.set (p := ⟨cb, 0, none⟩) (.inr (.inl ((HG.out cb).2 (.inl rfl)))) (.slice A4 (l.length + 1) c4)
    exact e2.into fun k hk => hk.elim (fun h => .inr (.inl ((HG.out k).2 (.inl h)))) .inl
  have ho5 : ∀ k, own (.slice A4 (l.length + 1) c4) k → ¬ F k ∧ k ≠ cb := fun k hk => ⟨fun h2 => (hm4.new k hk).elim (fun h => (HO.out k h).1 h2) fun h => by have := HLT.out k h2; omega, fun e => hcb4 (e ▸ hk)⟩
  have hfin : Hid (∃ G', KSl cb (w4.setCell ⟨cb, 0, none⟩ (.slice A4 (l.length + 1) c4)) F G' (l ++ [x]) ∧ Fr G w G' (w4.setCell ⟨cb, 0, none⟩ (.slice A4 (l.length + 1) c4))) := Lib.hid ⟨_, ⟨A4, c4, by simpa using hB5, by simpa using hv5, hF, fun k => by simp, by simpa using ho5⟩, hm5⟩
  clear hB5 hv5 hm5 ho5 hm4 hv4 hB hv
  go_wp2
  try rw [Exit.noGoto_ret]
  go_ret
  exact ⟨rfl, hfin.out⟩
end Go.Proofs.Ytcgdpclhlepofaa
/- A key looked for, by contract. -/
namespace Go.Proofs.Ytcgdpclhlepofaa
open Go.RowKit
set_option maxHeartbeats 4000000
set_option linter.unusedVariables false
set_option linter.unusedSimpArgs false

theorem LftF.lift {t h n : Nat} {F0 F1 : Nat → Prop} {w0 w1 w' : World} {J : World → (Nat → Prop) → (Nat → Prop) → List Int → Prop} {s' : St} {e' : Int} {ks : List Int} (k : LftF t h n F1 w1 J s' e' ks w') (hm : Fr F0 w0 F1 w1) : LftF t h n F0 w0 J s' e' ks w' :=
  let ⟨a, b, F', G', c, d, f, g, m⟩ := k; ⟨a, b, F', G', c, d, f, g, hm.trans m⟩
theorem LftF.hand {t h n : Nat} {F0 : Nat → Prop} {w0 w' : World} {J : World → (Nat → Prop) → (Nat → Prop) → List Int → Prop} {s' : St} {e' : Int} {ks : List Int} (k : LftF t h n F0 w0 J s' e' ks w') : LftH t h n F0 w0 s' e' w' :=
  let ⟨a, b, F', G', c, d, f, g, m⟩ := k; ⟨a, b, F', c, d, f, m.into fun k hk => .inl (.inl hk)⟩
theorem LftH.alloc {t h n : Nat} {F0 : Nat → Prop} {w0 w' : World} {s' : St} {e' : Int} (k : LftH t h n F0 w0 s' e' w') (o : Obj) : LftH t h n F0 w0 s' e' (w'.alloc o) :=
  let ⟨a, b, F', c, d, f, m⟩ := k; ⟨a, b, F', c.alloc o, Blk.alloc d o, f, m.alloc o⟩

set_option maxRecDepth 100000 in
theorem at_b {t h n N : Nat} {F F0 : Nat → Prop} {s s' : St} {e e' l key : Int} {w w0 : World} {p' : Pl} {ks' : List Int}
    (hw : Txw w t F s) (hh : Hnd w h t e) (hn : ¬ F h) (hf : Fits s) (hb : Bud s (n + 2 * N + 1)) (hN : N ≤ 60000) (hl : 0 ≤ l) (hl' : l ≤ 18446744073709551615) (hR : hfind (fun x => decide (x < key)) N s e l = some (p', ks', e', s'))
    (hm : Fr F0 w0 (fun k => F k ∨ k = h) w) :
    Calls Try.prog 49 #[.pointer (some ⟨h, 0, none⟩), .int .u64 l, .int .u64 key] w fun en w' =>
      en = .returned (.tuple #[.agg (plc p'), .bool (there p' key e')]) ∧ p'.Bd ∧ LftH t h n F0 w0 s' e' w' := by
  have hcb := (Blk.new w 23 #[.int .u64 key]).alloc (.cells #[.int .u64 0, .int .u64 0, .int .u64 0, .int .u64 0] 84)
  have hrb := Blk.new (w.alloc (.cells #[.int .u64 key] 23)) 84 #[.int .u64 0, .int .u64 0, .int .u64 0, .int .u64 0]
  have hT := (hw.alloc (.cells #[.int .u64 key] 23)).alloc (.cells #[.int .u64 0, .int .u64 0, .int .u64 0, .int .u64 0] 84)
  have hH : Hnd ((w.alloc (.cells #[.int .u64 key] 23)).alloc (.cells #[.int .u64 0, .int .u64 0, .int .u64 0, .int .u64 0] 84)) h t e := Blk.alloc (Blk.alloc hh _) _
  have hM := (hm.alloc (.cells #[.int .u64 key] 23)).alloc (.cells #[.int .u64 0, .int .u64 0, .int .u64 0, .int .u64 0] 84)
  have hE1 : (w.alloc (.cells #[.int .u64 key] 23)).heap.size = w.heap.size + 1 := by simp
  have n1 : ¬ F w.heap.size := fun c => by have := hw.lt _ c; omega
  have n2 : ¬ F (w.heap.size + 1) := fun c => by have := hw.lt _ c; omega
  have hlt := Blk.lt hh
  have n3 : w.heap.size ≠ h := by omega
  have n4 : w.heap.size + 1 ≠ h := by omega
  have s0 := hm.size
  rw [hE1] at hrb
  have hR := Lib.hid hR
  clear hw hh hm
  go_enter Try.func49, Try.ntmps49
  go_wp2_with fail
  generalize hWe : (w.alloc (.cells #[.int .u64 key] 23)).alloc (.cells #[.int .u64 0, .int .u64 0, .int .u64 0, .int .u64 0] 84) = w2 at *
  generalize hce : w.heap.size = cb at *
  have hJ0 : JKey cb key w2 (fun k => F k ∨ k = h) (fun k => k = cb) [] := ⟨hcb, fun c => c.elim n1 n3, fun k => Iff.rfl⟩
  clear hWe hE1
  refine (find_b (F0 := fun k => (F k ∨ k = h) ∨ k = cb) (w0 := w2) (atc_law cb key) hT hH hn hJ0 hf hb hN hl hl' hR.out (Fr.refl _ _)).mono ?_
  rintro _ w6 ⟨rfl, hBd, -, f6, b6, F6, G6, T6, H6, n6, J6, m6⟩
  have hne : ¬ ((F (cb + 1) ∨ cb + 1 = h) ∨ cb + 1 = cb) := fun c => c.elim (fun c => c.elim n2 n4) fun c => by omega
  have hR6 := m6.blk hrb hne
  have hF6 : ¬ F6 (cb + 1) := fun c => (m6.new (cb + 1) (.inl (.inl c))).elim hne fun c => by have := hrb.lt; omega
  have hM6 : Fr F0 w0 (fun k => F6 k ∨ k = h) w6 := by
    have h1 : Fr F0 w0 (fun k => (F k ∨ k = h) ∨ k = cb) w2 := hM.into fun k hk => hk.elim .inl fun c => .inr (.inr (by rw [c]; exact s0))
    exact (h1.trans m6).into fun k hk => .inl (.inl hk)
  have hP := Blk.new w6 84 (plc p')
  have hR7 := hR6.alloc (.cells (plc p') 84)
  have hC7 := Blk.alloc J6.1 (.cells (plc p') 84)
  have hH7 : Hnd (w6.alloc (.cells (plc p') 84)) h t e' := Blk.alloc H6 _
  have hT7 := T6.alloc (.cells (plc p') 84)
  have hM7 := hM6.alloc (.cells (plc p') 84)
  have hrl := hR6.lt
  have hpr : w6.heap.size ≠ cb + 1 := by omega
  have hBd := Lib.hid hBd
  clear hT hH hM hn hb hJ0 hcb hrb m6 T6 H6 J6 hM6 hR6 hf hR
  simp only [plc] at hP hR7 hC7 hH7 hT7 hM7 ⊢
  go_wp2_with fail
  generalize w6.alloc (.cells #[.int .u64 p'.from_, .int .u64 p'.next, .int .u64 p'.key, .int .u64 p'.ahead] 84) = w7 at *
  generalize w6.heap.size = pb at *
  obtain ⟨-, d1, -⟩ := hH7.cells
  have p0 := hP.cell 0
  have p1 := hP.cell 1
  have p2 := hP.cell 2
  have p3 := hP.cell 3
  have k0 := hC7.cell 0
  have r0 := hR7.cell 0
  have r1 := hR7.cell 1
  have r2 := hR7.cell 2
  have r3 := hR7.cell 3
  simp only [List.getElem?_toArray, List.getElem?_cons_zero, List.getElem?_cons_succ] at p0 p1 p2 p3 k0 r0 r1 r2 r3
  have y0 := hR7.frozen 0
  have y1 := hR7.frozen 1
  have y2 := hR7.frozen 2
  have y3 := hR7.frozen 3
  have hcr : cb ≠ cb + 1 := by omega
  have K1 : Hid (∀ m x0 x1 x2 x3, x0 = p'.from_ → x1 = p'.next → x2 = p'.key → x3 = p'.ahead → ((((((w7.drewN m).setCell ⟨cb + 1, 0, none⟩ (.int .u64 x0)).setCell ⟨cb + 1, 1, none⟩ (.int .u64 x1)).setCell ⟨cb + 1, 2, none⟩ (.int .u64 x2)).setCell ⟨cb + 1, 3, none⟩ (.int .u64 x3)).cell? ⟨pb, 2, none⟩ = some (.int .u64 p'.key) ∧ (((((w7.drewN m).setCell ⟨cb + 1, 0, none⟩ (.int .u64 x0)).setCell ⟨cb + 1, 1, none⟩ (.int .u64 x1)).setCell ⟨cb + 1, 2, none⟩ (.int .u64 x2)).setCell ⟨cb + 1, 3, none⟩ (.int .u64 x3)).cell? ⟨cb, 0, none⟩ = some (.int .u64 key))) := Lib.hid fun m x0 x1 x2 x3 _ _ _ _ => by
    have a := ((((hP.drewN m).far (p := ⟨cb + 1, 0, none⟩) hpr (.int .u64 x0)).far (p := ⟨cb + 1, 1, none⟩) hpr (.int .u64 x1)).far (p := ⟨cb + 1, 2, none⟩) hpr (.int .u64 x2)).far (p := ⟨cb + 1, 3, none⟩) hpr (.int .u64 x3)
    have b := ((((hC7.drewN m).far (p := ⟨cb + 1, 0, none⟩) hcr (.int .u64 x0)).far (p := ⟨cb + 1, 1, none⟩) hcr (.int .u64 x1)).far (p := ⟨cb + 1, 2, none⟩) hcr (.int .u64 x2)).far (p := ⟨cb + 1, 3, none⟩) hcr (.int .u64 x3)
    exact ⟨by rw [a.cell]; rfl, by rw [b.cell]; rfl⟩
  have K2 : Hid (∀ m x0 x1 x2 x3, x0 = p'.from_ → x1 = p'.next → x2 = p'.key → x3 = p'.ahead → Blk (((((w7.drewN m).setCell ⟨cb + 1, 0, none⟩ (.int .u64 x0)).setCell ⟨cb + 1, 1, none⟩ (.int .u64 x1)).setCell ⟨cb + 1, 2, none⟩ (.int .u64 x2)).setCell ⟨cb + 1, 3, none⟩ (.int .u64 x3)) (cb + 1) 84 (plc p') ∧ LftH t h n F0 w0 s' e' (((((w7.drewN m).setCell ⟨cb + 1, 0, none⟩ (.int .u64 x0)).setCell ⟨cb + 1, 1, none⟩ (.int .u64 x1)).setCell ⟨cb + 1, 2, none⟩ (.int .u64 x2)).setCell ⟨cb + 1, 3, none⟩ (.int .u64 x3))) := Lib.hid fun m x0 x1 x2 x3 h0 h1 h2 h3 => by
    subst h0 h1 h2 h3
    have a := ((((hR7.drewN m).set_ 0 (.int .u64 p'.from_)).set_ 1 (.int .u64 p'.next)).set_ 2 (.int .u64 p'.key)).set_ 3 (.int .u64 p'.ahead)
    refine ⟨by simpa [plc] using a, f6, b6, F6, ((((hT7.drewN m).set (p := ⟨cb + 1, 0, none⟩) hF6 _).set (p := ⟨cb + 1, 1, none⟩) hF6 _).set (p := ⟨cb + 1, 2, none⟩) hF6 _).set (p := ⟨cb + 1, 3, none⟩) hF6 _, ?_, n6, ?_⟩
    · exact Blk.far (Blk.far (Blk.far (Blk.far (Blk.drewN hH7 m) (p := ⟨cb + 1, 0, none⟩) n4.symm _) (p := ⟨cb + 1, 1, none⟩) n4.symm _) (p := ⟨cb + 1, 2, none⟩) n4.symm _) (p := ⟨cb + 1, 3, none⟩) n4.symm _
    · have hg : w0.heap.size ≤ cb + 1 := by omega
      exact ((((hM7.drewN m).set (p := ⟨cb + 1, 0, none⟩) (.inr (.inr hg)) _).set (p := ⟨cb + 1, 1, none⟩) (.inr (.inr hg)) _).set (p := ⟨cb + 1, 2, none⟩) (.inr (.inr hg)) _).set (p := ⟨cb + 1, 3, none⟩) (.inr (.inr hg)) _
  clear hP hR7 hC7 hH7 hT7 hM7
  have hcs : Hid (((e' == 0) = false) ∨ ((e' == 0) = true ∧ (p'.next != 0) = false) ∨ ((e' == 0) = true ∧ (p'.next != 0) = true)) := Lib.hid (by
    cases (e' == 0) <;> cases (p'.next != 0) <;> simp)
  rcases hcs.out with g1 | ⟨g1, g2⟩ | ⟨g1, g2⟩
  all_goals
    clear hcs
    refine wp_region_mix (fun W' => W'.cell? ⟨pb, 2, none⟩ = some (.int .u64 p'.key) ∧ W'.cell? ⟨cb, 0, none⟩ = some (.int .u64 key)) [1, 3, 3, 3, 1, 3, 3, 3, 1, 3, 3, 3, 3, 0, 0, 3, 3, 2, 3] (List.range 19) (by kernel_rfl) (by kernel_rfl) (fun _ _ h => h) ⟨p2, k0⟩ ?_
    repeat (first | ((first | refine wpMix_pure rfl rfl (fun K hK => ?_) | refine wpMix_loc rfl rfl (fun K hK => ?_) | refine wpMix_any rfl rfl (fun K hK => ?_)); go_simp; refine hK _ _ ?_; clear hK K) | (refine wpMix_any rfl rfl (fun K hK => ?_); rw [if_pos (by go_simp)]; apply Exists.intro; refine And.intro (fun w2 hS2 => ?_) (hK _ _ ?_); (focus (obtain ⟨hs1, hs2⟩ := hS2; go_simp; rfl)); clear hK K))
    refine wpMix_loud rfl rfl (fun m1 K hK => ?_)
    go_wp2
    refine hK _ _ (fun _ => K1.out (1 + m1) _ _ _ _ rfl rfl rfl rfl) ?_; clear hK K
    repeat ((first | refine wpMix_pure rfl rfl (fun K hK => ?_) | refine wpMix_loc rfl rfl (fun K hK => ?_) | refine wpMix_any rfl rfl (fun K hK => ?_)); go_simp; refine hK _ _ ?_; clear hK K)
    refine wpMix_nil (fun m2 => ?_)
    obtain ⟨hBr, hL⟩ := K2.out (1 + m1) _ _ _ _ rfl rfl rfl rfl
    have hL := Lib.hid (hL.drewN m2)
    have hBr := hBr.drewN m2
    have b0 := hBr.cell 0
    have b1 := hBr.cell 1
    have b2 := hBr.cell 2
    have b3 := hBr.cell 3
    simp only [plc, List.getElem?_toArray, List.getElem?_cons_zero, List.getElem?_cons_succ] at b0 b1 b2 b3
    clear hBr K1 K2
    go_wp2
    try rw [Exit.noGoto_ret]
    refine bodyPost_ret (v := .tuple #[.agg (plc p'), .bool (there p' key e')]) (by simp [results, Try.func49, go_sem, b0, b1, b2, b3, plc, there, *]) rfl ?_
    exact ⟨rfl, hBd.out, hL.out⟩
end Go.Proofs.Ytcgdpclhlepofaa
/- The first key that is not passed over, by contract. -/
namespace Go.Proofs.Ytcgdpclhlepofaa
open Go.RowKit
set_option maxHeartbeats 4000000
set_option linter.unusedVariables false
set_option linter.unusedSimpArgs false

/-- What is left behind, with what was asked. -/
def LftG (t n : Nat) (F0 : Nat → Prop) (w0 : World) (J : World → (Nat → Prop) → (Nat → Prop) → List Int → Prop) (s' : St) (ks : List Int) (w' : World) : Prop :=
  Fits s' ∧ Bud s' n ∧ ∃ F' G', Txw w' t F' s' ∧ J w' F' G' ks ∧ Fr F0 w0 (fun k => F' k ∨ G' k) w'
def firstOf (p : Pl) (e : Int) : Int × Bool × Int := if e ≠ 0 ∨ p.next = 0 then (0, false, e) else (p.key, true, 0)
theorem hfind_len {q : Int → Bool} {N : Nat} {s s' : St} {e e' l : Int} {p : Pl} {ks : List Int} (h : hfind q N s e l = some (p, ks, e', s')) : ks.length ≤ N := by
  have key : ∀ (k : Nat) (count last : Int) (p0 : Pl) (ks0 : List Int) (e0 : Int) (s0 : St), fGo q count k last p0 ks0 e0 s0 = some (p, ks, e', s') → ks.length ≤ ks0.length + k := by
    intro k
    induction k with
    | zero => intro _ _ _ _ _ _ h; simp [fGo] at h
    | succ k ih =>
      intro count last p0 ks0 e0 s0 h
      rw [fGo] at h
      split at h
      split at h
      · simp only [Option.some.injEq, Prod.mk.injEq] at h; rw [← h.2.1]; omega
      · split at h
        · simp only [Option.some.injEq, Prod.mk.injEq] at h; rw [← h.2.1]; omega
        · split at h
          split at h
          · simp only [Option.some.injEq, Prod.mk.injEq] at h; rw [← h.2.1]; omega
          · split at h
            · simp only [Option.some.injEq, Prod.mk.injEq] at h; rw [← h.2.1]; omega
            · split at h
              · simp only [Option.some.injEq, Prod.mk.injEq] at h; rw [← h.2.1]; simp
              · have := ih _ _ _ _ _ _ h; simp at this; omega
  unfold hfind at h
  split at h
  have := key _ _ _ _ _ _ _ h
  simpa using this

set_option maxRecDepth 100000 in
theorem first_b {t n N gf : Nat} {F F0 G : Nat → Prop} {s s' : St} {e' l : Int} {w w0 : World} {J : World → (Nat → Prop) → (Nat → Prop) → List Int → Prop} {q : Int → Bool} {cap : Array Value} {p' : Pl} {ks' : List Int}
    (HJ : PLaw q J gf fun key => #[.int .u64 key] ++ cap)
    (hw : Txw w t F s) (hj : J w F G []) (hf : Fits s) (hb : Bud s (n + 2 * N + 1)) (hN : N ≤ 60000) (hl : 0 ≤ l) (hl' : l ≤ 18446744073709551615) (hR : hfind q N s 0 l = some (p', ks', e', s'))
    (hm : Fr F0 w0 (fun k => F k ∨ G k) w) :
    Calls Try.prog 51 #[.iface 26 (.pointer (some ⟨t, 0, none⟩)), .int .u64 l, .func (.func gf) #[] cap] w fun en w' =>
      en = .returned (.tuple #[.int .u64 (firstOf p' e').1, .bool (firstOf p' e').2.1, .int .i64 (firstOf p' e').2.2]) ∧ p'.Bd ∧ ks'.length ≤ N ∧ LftG t n F0 w0 J s' ks' w' := by
  have hlt := HJ.lt hj
  have hT := hw.alloc (.cells #[.iface 26 (.pointer (some ⟨t, 0, none⟩)), .int .i64 0] 81)
  have hH : Hnd (w.alloc (.cells #[.iface 26 (.pointer (some ⟨t, 0, none⟩)), .int .i64 0] 81)) w.heap.size t 0 := Blk.new w _ _
  have hn : ¬ F w.heap.size := fun c => by have := hw.lt _ c; omega
  have hJ : J (w.alloc (.cells #[.iface 26 (.pointer (some ⟨t, 0, none⟩)), .int .i64 0] 81)) (fun k => F k ∨ k = w.heap.size) G [] := HJ.keep hj (fun k hk => Below.heap_alloc w _ k (hlt k hk).1) fun k hk c => c.elim (hlt k hk).2 fun c => by have := (hlt k hk).1; omega
  have hM : Fr F0 w0 (fun k => (F k ∨ k = w.heap.size) ∨ G k) (w.alloc (.cells #[.iface 26 (.pointer (some ⟨t, 0, none⟩)), .int .i64 0] 81)) :=
    (hm.alloc _).into fun k hk => hk.elim (fun c => c.elim (fun c => .inl (.inl c)) fun c => .inr (.inr (by rw [c]; exact hm.size))) fun c => .inl (.inr c)
  have HJ := Lib.hid HJ
  have hR := Lib.hid hR
  clear hw hj hm hlt
  go_enter Try.func51, Try.ntmps51
  go_wp2_with fail
  generalize w.alloc (.cells #[.iface 26 (.pointer (some ⟨t, 0, none⟩)), .int .i64 0] 81) = w1 at *
  generalize w.heap.size = h at *
  refine (find_b (n := n) HJ.out hT hH hn hJ hf hb hN hl hl' hR.out hM).mono ?_
  rintro _ w6 ⟨rfl, hBd, hks, hL⟩
  have hP := Blk.new w6 84 (plc p')
  have hL7 : Hid (LftG t n F0 w0 J s' ks' (w6.alloc (.cells (plc p') 84))) ∧ Hnd (w6.alloc (.cells (plc p') 84)) h t e' := by
    obtain ⟨a, b, F', G', c, d, f, g, m⟩ := hL
    have hlt := HJ.out.lt g
    exact ⟨Lib.hid ⟨a, b, F', G', c.alloc _, HJ.out.keep g (fun k hk => Below.heap_alloc w6 _ k (hlt k hk).1) (fun k hk c => (hlt k hk).2 (.inl c)), (m.alloc _).into fun k hk => hk.elim (fun c => .inl (.inl (.inl c))) fun c => .inl (.inr c)⟩, Blk.alloc d _⟩
  obtain ⟨hL7, hH7⟩ := hL7
  have hBd := Lib.hid hBd
  clear hL hT hH hn hJ hM hb hf hR
  simp only [plc] at hP hL7 hH7 ⊢
  obtain ⟨-, d1, -⟩ := hH7.cells
  have p0 := hP.cell 0
  have p1 := hP.cell 1
  have p2 := hP.cell 2
  have p3 := hP.cell 3
  simp only [List.getElem?_toArray, List.getElem?_cons_zero, List.getElem?_cons_succ] at p0 p1 p2 p3
  clear hP hH7
  by_cases he : e' = 0
  case neg =>
    have z : (e' != 0) = true := by simpa using he
    have ho : firstOf p' e' = (0, false, e') := if_pos (.inl he)
    have ho := Lib.hid ho
    clear he
    go_wp2_with fail
    go_quiet (fail)
    go_wp2
    refine bodyPost_ret (v := .tuple #[.int .u64 (0), .bool false, .int .i64 (e')]) (by simp [results, Try.func51, go_sem]) rfl ?_
    refine ⟨by rw [ho.out], hBd.out, hks, let ⟨a, b, F', G', c, d, m⟩ := hL7.out; ⟨a, b, F', G', c.drewN _, HJ.out.keep d (fun _ _ => rfl) (fun k hk => (HJ.out.lt d k hk).2), m.drewN _⟩⟩
  subst he
  by_cases hx : p'.next = 0
  · have z : (p'.next == 0) = true := by simpa using hx
    have ho : firstOf p' 0 = (0, false, 0) := if_pos (.inr hx)
    have ho := Lib.hid ho
    clear hx
    go_wp2_with fail
    go_quiet (fail)
    go_wp2
    refine bodyPost_ret (v := .tuple #[.int .u64 (0), .bool false, .int .i64 (0)]) (by simp [results, Try.func51, go_sem]) rfl ?_
    refine ⟨by rw [ho.out], hBd.out, hks, let ⟨a, b, F', G', c, d, m⟩ := hL7.out; ⟨a, b, F', G', c.drewN _, HJ.out.keep d (fun _ _ => rfl) (fun k hk => (HJ.out.lt d k hk).2), m.drewN _⟩⟩
  · have z : (p'.next == 0) = false := by simpa using hx
    have ho : firstOf p' 0 = (p'.key, true, 0) := if_neg (by simpa using hx)
    have ho := Lib.hid ho
    clear hx
    go_wp2_with fail
    refine bodyPost_ret (v := .tuple #[.int .u64 (p'.key), .bool true, .int .i64 (0)]) (by simp [results, Try.func51, go_sem]) rfl ?_
    refine ⟨by rw [ho.out], hBd.out, hks, hL7.out⟩
theorem first_nil {l : Int} {f : Value} {w : World} : Calls Try.prog 51 #[.nilIface, .int .u64 l, f] w fun en w' => en = .returned (.tuple #[.int .u64 0, .bool false, .int .i64 1]) ∧ w' = w := by
  go_enter Try.func51, Try.ntmps51
  go_wp2
  refine bodyPost_ret (v := .tuple #[.int .u64 0, .bool false, .int .i64 1]) (by simp [results, Try.func51, go_sem]) rfl ?_
  exact ⟨rfl, rfl⟩
end Go.Proofs.Ytcgdpclhlepofaa
/- The list's looks, by contract. -/
namespace Go.Proofs.Ytcgdpclhlepofaa
open Go.RowKit
set_option maxHeartbeats 4000000
set_option linter.unusedVariables false
set_option linter.unusedSimpArgs false

theorem LftG.drop {t n : Nat} {F0 : Nat → Prop} {w0 w' : World} {J : World → (Nat → Prop) → (Nat → Prop) → List Int → Prop} {s' : St} {ks : List Int} (k : LftG t n F0 w0 J s' ks w') : Lft t n F0 w0 s' w' :=
  let ⟨a, b, F', G', c, d, m⟩ := k; ⟨a, b, F', c, m.into fun k hk => .inl (.inl hk)⟩
theorem LftH.drop {t h n : Nat} {F0 F : Nat → Prop} {w0 w w' : World} {s' : St} {e' : Int} (k : LftH t h n (fun k => F k ∨ k = h) w s' e' w') (hm : Fr F0 w0 F w) (hh : w0.heap.size ≤ h) : Lft t n F0 w0 s' w' :=
  let ⟨a, b, F', c, _, _, m⟩ := k
  ⟨a, b, F', c, by
    have h1 : Fr F0 w0 (fun k => F k ∨ k = h) w := hm.into fun k hk => hk.elim .inl fun c => .inr (.inr (by rw [c]; exact hh))
    exact (h1.trans m).into fun k hk => .inl (.inl hk)⟩

/-- What is left behind beside a list of words of the call's own. -/
def LftK (t n : Nat) (F0 : Nat → Prop) (w0 : World) (s' : St) (v : Value) (l : List Int) (w' : World) : Prop :=
  Fits s' ∧ Bud s' n ∧ Wl w' v l ∧ ∃ F', Txw w' t F' s' ∧ Fr F0 w0 (fun k => F' k ∨ own v k) w' ∧ ∀ k, own v k → ¬ F' k
def keysOf (ks : List Int) (p : Pl) (e : Int) : List Int × Int := if (firstOf p e).2.2 = 0 then (ks, 0) else ([], (firstOf p e).2.2)
set_option maxRecDepth 100000 in
theorem keys_b {t n N : Nat} {F F0 : Nat → Prop} {s s' : St} {e' l : Int} {w w0 : World} {p' : Pl} {ks' : List Int}
    (hw : Txw w t F s) (hf : Fits s) (hb : Bud s (n + 2 * N + 1)) (hN : N ≤ 60000) (hl : 0 ≤ l) (hl' : l ≤ 18446744073709551615) (hR : hfind (fun _ => true) N s 0 l = some (p', ks', e', s')) (hm : Fr F0 w0 F w) :
    Calls Try.prog 30 #[.iface 26 (.pointer (some ⟨t, 0, none⟩)), .int .u64 l] w fun en w' =>
      ∃ v, en = .returned (.tuple #[v, .int .i64 (keysOf ks' p' e').2]) ∧ LftK t n F0 w0 s' v (keysOf ks' p' e').1 w' := by
  have hB := Blk.new w 32 #[.slice none 0 0]
  have hT := hw.alloc (.cells #[.slice none 0 0] 32)
  have hn : ¬ F w.heap.size := fun c => by have := hw.lt _ c; omega
  have hJ : KSl w.heap.size (w.alloc (.cells #[.slice none 0 0] 32)) F (fun k => k = w.heap.size) [] := ⟨none, 0, hB, Wl.nil _, hn, fun k => ⟨.inl, fun c => c.elim id (fun c => nomatch c)⟩, fun k hk => nomatch hk⟩
  have hM : Fr F0 w0 (fun k => F k ∨ k = w.heap.size) (w.alloc (.cells #[.slice none 0 0] 32)) := (hm.alloc _).into fun k hk => hk.elim .inl fun c => .inr (.inr (by rw [c]; exact hm.size))
  clear hw hm hB
  go_enter Try.func30, Try.ntmps30
  go_wp2_with fail
  refine (first_b (n := n) (keysc_law _) hT hJ hf hb hN hl hl' hR hM).mono ?_
  rintro _ w6 ⟨rfl, hBd, -, hL⟩
  obtain ⟨f6, b6, F6, G6, T6, J6, m6⟩ := hL
  obtain ⟨A6, c6, hB6, hW6, hF6, hG6, ho6⟩ := J6
  generalize hx : (firstOf p' e').2.2 = x at *
  generalize (firstOf p' e').2.1 = y at *
  generalize (firstOf p' e').1 = z at *
  have d0 := hB6.cell 0
  simp only [List.getElem?_toArray, List.getElem?_cons_zero] at d0
  by_cases hz : x = 0
  · subst hz
    have hk : keysOf ks' p' e' = (ks', 0) := if_pos hx
    have hL : Hid (LftK t n F0 w0 s' (.slice A6 ks'.length c6) ks' w6) := Lib.hid ⟨f6, b6, hW6, F6, T6, m6.into fun k hk => hk.elim (fun c => .inl (.inl c)) (fun c => .inl (.inr ((hG6 k).2 (.inr c)))), fun k hk => (ho6 k hk).1⟩
    have hk := Lib.hid hk
    clear hT hJ hM hf hb hR hx T6 hB6 hW6 m6 hG6 ho6
    go_wp2_with fail
    go_ret2
    exact ⟨.slice A6 ks'.length c6, by rw [hk.out]; rfl, by rw [hk.out]; exact hL.out⟩
  · have hz' : (x != 0) = true := by simpa using hz
    have hk : keysOf ks' p' e' = ([], x) := by unfold keysOf; rw [hx]; exact if_neg hz
    have hL : Hid (LftK t n F0 w0 s' (.slice none 0 0) [] w6) := Lib.hid ⟨f6, b6, Wl.nil _, F6, T6, m6.into fun k hk => hk.elim (fun c => .inl (.inl c)) (fun c => nomatch c), fun k hk => nomatch hk⟩
    have hk := Lib.hid hk
    clear hT hJ hM hf hb hR hx T6 hB6 hW6 m6 hG6 ho6
    go_wp2_with fail
    go_ret2
    exact ⟨.slice none 0 0, by rw [hk.out]; rfl, by rw [hk.out]; exact hL.out⟩
end Go.Proofs.Ytcgdpclhlepofaa
/- PartLists on plain words: the law's stages. No program in sight. -/
namespace Go.Proofs.Ytcgdpclhlepofaa
open Go.RowKit
set_option linter.unusedVariables false
set_option linter.unusedSimpArgs false
set_option maxHeartbeats 1000000
/-- keys with one more -/
def insK (ks : List Int) (key : Int) : List Int := if (ks.dropWhile (fun x => decide (x < key))).head? = some key then ks else ks.takeWhile (fun x => decide (x < key)) ++ key :: ks.dropWhile (fun x => decide (x < key))
def newK (ks : List Int) (key : Int) : Bool := !decide ((ks.dropWhile (fun x => decide (x < key))).head? = some key)
theorem pAll_2 (step : Int → Int → List Int → St → Int × List Int × St) (f c : Int) (s : St) : pAll step 2 f c s = pAll step 1 f c s := by
  unfold pAll
  rw [if_neg (show ¬ ((2 : Int) ≠ 1 ∧ (2 : Int) ≠ 2) by omega), if_neg (show ¬ ((1 : Int) ≠ 1 ∧ (1 : Int) ≠ 2) by omega)]
theorem pRead_2 (f c : Int) (s : St) : pRead 2 f c s = pRead 1 f c s := by unfold pRead; rw [pAll_2]
theorem pNodes_2 (f c : Int) (s : St) : pNodes 2 f c s = pNodes 1 f c s := by unfold pNodes; rw [pAll_2]
theorem mem_tw {q : Int → Bool} : ∀ {l : List Int} {x : Int}, x ∈ l.takeWhile q → q x = true
  | [], _, h => by simp at h
  | y :: l, x, h => by
    rw [List.takeWhile_cons] at h
    split at h
    · rcases List.mem_cons.1 h with rfl | h
      · assumption
      · exact mem_tw h
    · simp at h
theorem pGive_2 (f c : Int) (s : St) : pGive 2 f c s = pGive 1 f c s := by
  unfold pGive
  rw [pNodes_2]
theorem pBack_2 (q f c : Int) (s : St) : pBack q 2 f c s = (2, s) := by
  unfold pBack
  rw [if_pos (by omega)]
def pList (l : Int) (s : St) : Int × Int × Int × St := pCut (uAdd l 1) l [l, uAdd l 1] s
/-- A list at 18 that holds A, a chain ns of the words xs beside it, and what else is out; g pieces of two cells were given back. -/
def LSt (s : St) (ns xs A : List Int) (b : Int) (g : Nat) : Prop := ∃ nodes back Q, Lx s.W 2000 18 nodes A (ndp ns ++ Q) back ∧ Chn s.W ns xs ∧ s.left < 0 ∧ s.W.getD 0 0 ≤ b ∧ (back 2).length = g
section
variable {s : St} {ns xs A : List Int} {b : Int} {g : Nat}
theorem LSt.ok (h : LSt s ns xs A b g) {n : Nat} (hb : Bud s n) : Ok s n := let ⟨_, _, _, _, _, h, _⟩ := h; ⟨h, hb⟩
theorem LSt.calls (h : LSt s ns xs A b g) (c : Int) : LSt { s with calls := c } ns xs A b g := h
theorem LSt.same {s' : St} (h : LSt s ns xs A b g) (hW : s'.W = s.W) {n : Nat} (hl : Ok s' n) : LSt s' ns xs A b g := by
  obtain ⟨nodes, back, Q, h1, h2, h3, h4, h5⟩ := h
  exact ⟨nodes, back, Q, by rw [hW]; exact h1, by rw [hW]; exact h2, hl.1, by rw [hW]; exact h4, h5⟩
theorem LSt.bds (h : LSt s ns xs A b g) : ns.length = xs.length ∧ 2 * ns.length ≤ 1982 ∧ 2 * A.length ≤ 1982 ∧ 2 * g ≤ 1982 ∧ 0 ≤ hdOr ns 0 ∧ hdOr ns 0 ≤ 2000 := by
  obtain ⟨nodes, back, Q, h1, h2, h3, h4, h5⟩ := h
  have a1 := h2.lnk.len
  have hx : ∀ x ∈ ns, 18 ≤ x ∧ x + 2 ≤ 2000 := fun x hx => by have := h1.inn (p := (x, 2)) (List.mem_cons_of_mem _ (List.mem_append_right _ (List.mem_append_left _ (List.mem_map.2 ⟨x, hx, rfl⟩)))); simp only at this; omega
  have a2 := cnt_le _ ns 18 2000 (Nat.le_refl _) h2.nn hx (by omega)
  have a3 := h1.cnt
  have a4 := h1.lnk.len
  have a5 := cnt_le _ (back 2) 18 2000 (Nat.le_refl _) (by have := h1.rm.bb 2 (by omega) (by omega); simpa using this) (fun x hx => by have := h1.rm.backIn 2 (by omega) (by omega) x hx; have := h1.rm.nx1; omega) (by omega)
  have a6 : 0 ≤ hdOr ns 0 ∧ hdOr ns 0 ≤ 2000 := by
    cases ns with
    | nil => simp [hdOr]
    | cons n t => have := hx n (by simp); simp only [hdOr]; omega
  omega
/-- a search through the list's keys -/
theorem lst_find {n N : Nat} (h : LSt s ns xs A b g) (q : Int → Bool) (hb : Bud s (n + 3000)) (hN : 1000 ≤ N) (hq : ∀ x, (A.dropWhile q).head? = some x → q x = false) :
    ∃ p' s', hfind q N s 0 18 = some (p', A.takeWhile q ++ (A.dropWhile q).head?.toList, 0, s') ∧ LSt s' ns xs A b g ∧ Bud s' n ∧ (∃ npre npost, npre.length = (A.takeWhile q).length ∧ p'.from_ = lastNx (18 + 1) npre ∧ p'.next = hdOr npost 0 ∧ ((A.dropWhile q) = [] ↔ npost = []) ∧ (∃ nodes back Q, nodes = npre ++ npost ∧ Lx s'.W 2000 18 nodes A (ndp ns ++ Q) back ∧ Chn s'.W ns xs ∧ s'.left < 0 ∧ s'.W.getD 0 0 ≤ b ∧ (back 2).length = g ∧ ∀ x ∈ nodes, 0 ≤ x)) ∧ (∀ x r, A.dropWhile q = x :: r → p'.key = x) := by
  have hbd := h.bds
  have hO := h.ok hb
  obtain ⟨nodes, back, Q, h1, h2, h3, h4, h5⟩ := id h
  have hl := h1.lnk.len
  have hA : A.takeWhile q ++ A.dropWhile q = A := List.takeWhile_append_dropWhile
  have hkl : (A.takeWhile q).length ≤ A.length := by
    have := congrArg List.length hA
    rw [List.length_append] at this; omega
  have hn : nodes.take (A.takeWhile q).length ++ nodes.drop (A.takeWhile q).length = nodes := List.take_append_drop _ _
  have hpl : (nodes.take (A.takeWhile q).length).length = (A.takeWhile q).length := by rw [List.length_take]; omega
  have h1' : Lx s.W 2000 18 (nodes.take (A.takeWhile q).length ++ nodes.drop (A.takeWhile q).length) (A.takeWhile q ++ A.dropWhile q) (ndp ns ++ Q) back := by rw [hA, hn]; exact h1
  obtain ⟨p', s', e1, e2, e3, e4, e5, e6⟩ := hfind_x (q := q) (k := N) (n := n) h1' hpl (hO.mono (by omega)) (by omega) (by omega) (fun x hx => mem_tw hx) (fun x r e => hq x (by rw [e]; rfl))
  refine ⟨p', s', e1, h.same e3 e2, e2.2, ⟨nodes.take (A.takeWhile q).length, nodes.drop (A.takeWhile q).length, hpl, e4, e5, ?_, nodes, back, Q, hn.symm, by rw [e3]; exact h1, by rw [e3]; exact h2, e2.1, by rw [e3]; exact h4, h5, fun x hx => by have := h1.nin hx; omega⟩, e6⟩
  rw [← List.length_eq_zero_iff, ← List.length_eq_zero_iff, List.length_drop]
  have hd : (A.dropWhile q).length = A.length - (A.takeWhile q).length := by
    have := congrArg List.length hA
    rw [List.length_append] at this; omega
  omega
end
end Go.Proofs.Ytcgdpclhlepofaa
