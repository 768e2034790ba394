/- What stands while a list is gone over. -/
import Derived.Test.YtcohopobjppmaaaLiA
import Derived.Test.YtcohopobjppmaaaLft
namespace Go.Proofs.Ytcohopobjppmaaa
open Go.RowKit
set_option maxHeartbeats 4000000
set_option linter.unusedVariables false
set_option linter.unusedSimpArgs false

/-- What is asked of each key: J, of its own blocks G and of the keys that were asked about, beside F. -/
structure PLaw (q : Int → Bool) (J : World → (Nat → Prop) → (Nat → Prop) → List Int → Prop) (gf : Nat) (av : Int → Array Value) : Prop where
  ent : ∀ (args : Array Value) (w : World), (callFunc gf args).run Try.prog w = .ok (.enter gf args) w
  lt : ∀ {w : World} {F G : Nat → Prop} {l : List Int}, J w F G l → ∀ k, G k → k < w.heap.size ∧ ¬ F k
  keep : ∀ {w w' : World} {F F' G : Nat → Prop} {l : List Int}, J w F G l → (∀ k, G k → w'.heap[k]? = w.heap[k]?) → (∀ k, G k → ¬ F' k) → J w' F' G l
  call : ∀ {w : World} {F G : Nat → Prop} {l : List Int} {key : Int}, (∀ k, F k → k < w.heap.size) → l.length ≤ 60000 → 0 ≤ key → key ≤ 18446744073709551615 → J w F G l →
    Calls Try.prog gf (av key) w fun en w' => en = .returned (.bool (q key)) ∧ ∃ G', J w' F G' (l ++ [key]) ∧ Fr G w G' w'

def plc (p : Pl) : Array Value := #[.int .u64 p.from_, .int .u64 p.next, .int .u64 p.key, .int .u64 p.ahead]
def Pl.Bd (p : Pl) : Prop := 0 ≤ p.from_ ∧ p.from_ ≤ 18446744073709551615 ∧ 0 ≤ p.next ∧ p.next ≤ 18446744073709551615 ∧ 0 ≤ p.key ∧ p.key ≤ 18446744073709551615 ∧ 0 ≤ p.ahead ∧ p.ahead ≤ 18446744073709551615
/-- While a list is gone over: the tx, the hand, what is asked, the place and where it is handed back. -/
structure Fnd (t h pb rb n : Nat) (F0 : Nat → Prop) (w0 : World) (J : World → (Nat → Prop) → (Nat → Prop) → List Int → Prop) (w : World) (F G : Nat → Prop) (s : St) (e : Int) (p : Pl) (ks : List Int) : Prop where
  tx : Txw w t F s
  hd : Hnd w h t e
  hn : ¬ F h
  f : Fits s
  b : Bud s n
  j : J w (fun k => F k ∨ k = h) G ks
  m : Fr F0 w0 (fun k => (F k ∨ k = h) ∨ G k) w
  P : Blk w pb 81 (plc p)
  R : Blk w rb 81 #[.int .u64 0, .int .u64 0, .int .u64 0, .int .u64 0]
  new : w0.heap.size ≤ pb ∧ w0.heap.size ≤ rb ∧ pb ≠ rb
  nP : ¬ F pb ∧ ¬ G pb
  nR : ¬ F rb ∧ ¬ G rb
section
variable {t h pb rb n n' : Nat} {F0 F G F' G' : Nat → Prop} {w0 w w' : World} {J : World → (Nat → Prop) → (Nat → Prop) → List Int → Prop} {s s' : St} {e e' : Int} {p : Pl} {ks : List Int} {q : Int → Bool} {gf : Nat} {av : Int → Array Value}
theorem Fnd.ne (k : Fnd t h pb rb n F0 w0 J w F G s e p ks) : pb ≠ h ∧ rb ≠ h := ⟨Blk.ne_ k.P k.hd (by decide), Blk.ne_ k.R k.hd (by decide)⟩
theorem Fnd.cells (k : Fnd t h pb rb n F0 w0 J w F G s e p ks) : w.cell? ⟨pb, 0, none⟩ = some (.int .u64 p.from_) ∧ w.cell? ⟨pb, 1, none⟩ = some (.int .u64 p.next) ∧ w.cell? ⟨pb, 2, none⟩ = some (.int .u64 p.key) ∧ w.cell? ⟨pb, 3, none⟩ = some (.int .u64 p.ahead) ∧ w.frozen? ⟨pb, 0, none⟩ = false ∧ w.frozen? ⟨pb, 1, none⟩ = false ∧ w.frozen? ⟨pb, 2, none⟩ = false ∧ w.frozen? ⟨pb, 3, none⟩ = false :=
  ⟨by rw [k.P.cell]; rfl, by rw [k.P.cell]; rfl, by rw [k.P.cell]; rfl, by rw [k.P.cell]; rfl, k.P.frozen 0, k.P.frozen 1, k.P.frozen 2, k.P.frozen 3⟩
theorem Fnd.rcells (k : Fnd t h pb rb n F0 w0 J w F G s e p ks) : w.cell? ⟨rb, 0, none⟩ = some (.int .u64 0) ∧ w.cell? ⟨rb, 1, none⟩ = some (.int .u64 0) ∧ w.cell? ⟨rb, 2, none⟩ = some (.int .u64 0) ∧ w.cell? ⟨rb, 3, none⟩ = some (.int .u64 0) ∧ w.frozen? ⟨rb, 0, none⟩ = false ∧ w.frozen? ⟨rb, 1, none⟩ = false ∧ w.frozen? ⟨rb, 2, none⟩ = false ∧ w.frozen? ⟨rb, 3, none⟩ = false :=
  ⟨by rw [k.R.cell]; rfl, by rw [k.R.cell]; rfl, by rw [k.R.cell]; rfl, by rw [k.R.cell]; rfl, k.R.frozen 0, k.R.frozen 1, k.R.frozen 2, k.R.frozen 3⟩
theorem Fnd.mono {m : Nat} (k : Fnd t h pb rb n F0 w0 J w F G s e p ks) (hm : m ≤ n) : Fnd t h pb rb m F0 w0 J w F G s e p ks := ⟨k.tx, k.hd, k.hn, k.f, k.b.mono hm, k.j, k.m, k.P, k.R, k.new, k.nP, k.nR⟩
/-- The hand has turned. -/
theorem Fnd.turn (HJ : PLaw q J gf av) (k : Fnd t h pb rb n F0 w0 J w F G s e p ks) (hl : LftH t h n' (fun k => F k ∨ k = h) w s' e' w') : ∃ F', Fnd t h pb rb n' F0 w0 J w' F' G s' e' p ks := by
  obtain ⟨f, b, F', c, d, g, m⟩ := hl
  have hj := HJ.lt k.j
  refine ⟨F', c, d, g, f, b, ?_, k.m.trans (m.side G), m.blk k.P fun h => h.elim k.nP.1 k.ne.1, m.blk k.R fun h => h.elim k.nR.1 k.ne.2, k.new, ⟨fun h => (m.new pb (.inl h)).elim (fun h => h.elim k.nP.1 k.ne.1) fun h => by have := k.P.lt; omega, k.nP.2⟩, ⟨fun h => (m.new rb (.inl h)).elim (fun h => h.elim k.nR.1 k.ne.2) fun h => by have := k.R.lt; omega, k.nR.2⟩⟩
  exact HJ.keep k.j (fun x hx => m.block x (hj x hx).1 (hj x hx).2) fun x hx h => (m.new x h).elim (hj x hx).2 fun h => by have := (hj x hx).1; omega
/-- A key was asked about. -/
theorem Fnd.asked (HJ : PLaw q J gf av) (k : Fnd t h pb rb n F0 w0 J w F G s e p ks) {key : Int} (hj : J w' (fun k => F k ∨ k = h) G' (ks ++ [key])) (hm : Fr G w G' w') : Fnd t h pb rb n F0 w0 J w' F G' s e p (ks ++ [key]) := by
  have hj0 := HJ.lt k.j
  refine ⟨k.tx.fr hm fun x hx hg => (hj0 x hg).2 (.inl hx), hm.blk k.hd fun hg => (hj0 h hg).2 (.inr rfl), k.hn, k.f, k.b, hj, ?_, hm.blk k.P k.nP.2, hm.blk k.R k.nR.2, k.new, ⟨k.nP.1, fun h => (hm.new pb h).elim k.nP.2 fun h => by have := k.P.lt; omega⟩, ⟨k.nR.1, fun h => (hm.new rb h).elim k.nR.2 fun h => by have := k.R.lt; omega⟩⟩
  have h1 : Fr (fun x => (F x ∨ x = h) ∨ G x) w (fun x => G x ∨ G' x) w' := (Fr.wide hm fun x hx => .inr hx).into fun x hx => hx.elim (fun h => .inr (.inl (.inr h))) .inl
  exact k.m.trans (h1.into fun x hx => hx.elim (fun h => .inr (.inl (.inl h))) fun h => .inl (.inr h))
/-- The place is written. -/
theorem Fnd.put (HJ : PLaw q J gf av) (k : Fnd t h pb rb n F0 w0 J w F G s e p ks) (i : Nat) (u : Value) (p' : Pl) (hp : (plc p).setIfInBounds i u = plc p') : Fnd t h pb rb n F0 w0 J (w.setCell ⟨pb, i, none⟩ u) F G s e p' ks := by
  have hj := HJ.lt k.j
  refine ⟨k.tx.set (p := ⟨pb, i, none⟩) k.nP.1 u, Blk.far k.hd (p := ⟨pb, i, none⟩) k.ne.1.symm u, k.hn, k.f, k.b, ?_, k.m.set (p := ⟨pb, i, none⟩) (.inr (.inr k.new.1)) u, hp ▸ k.P.set_ i u, k.R.far (p := ⟨pb, i, none⟩) k.new.2.2.symm u, k.new, k.nP, k.nR⟩
  exact HJ.keep k.j (fun x hx => Below.heap_setCell w _ u x (by rintro rfl; exact k.nP.2 hx)) fun x hx => (hj x hx).2
theorem Fnd.drewN (HJ : PLaw q J gf av) (k : Fnd t h pb rb n F0 w0 J w F G s e p ks) (m : Nat) : Fnd t h pb rb n F0 w0 J (w.drewN m) F G s e p ks :=
  ⟨k.tx, k.hd, k.hn, k.f, k.b, HJ.keep k.j (fun _ _ => rfl) fun x hx => (HJ.lt k.j x hx).2, k.m.drewN m, k.P, k.R, k.new, k.nP, k.nR⟩
theorem Fnd.next (HJ : PLaw q J gf av) (k : Fnd t h pb rb n F0 w0 J w F G s e p ks) (x : Int) : Fnd t h pb rb n F0 w0 J (w.setCell ⟨pb, 1, none⟩ (.int .u64 x)) F G s e { p with next := x } ks := k.put HJ 1 _ _ (by simp [plc])
theorem Fnd.key (HJ : PLaw q J gf av) (k : Fnd t h pb rb n F0 w0 J w F G s e p ks) (x : Int) : Fnd t h pb rb n F0 w0 J (w.setCell ⟨pb, 2, none⟩ (.int .u64 x)) F G s e { p with key := x } ks := k.put HJ 2 _ _ (by simp [plc])
theorem Fnd.fro (HJ : PLaw q J gf av) (k : Fnd t h pb rb n F0 w0 J w F G s e p ks) (x : Int) : Fnd t h pb rb n F0 w0 J (w.setCell ⟨pb, 0, none⟩ (.int .u64 x)) F G s e { p with from_ := x } ks := k.put HJ 0 _ _ (by simp [plc])
theorem Fnd.ahd (HJ : PLaw q J gf av) (k : Fnd t h pb rb n F0 w0 J w F G s e p ks) (x : Int) : Fnd t h pb rb n F0 w0 J (w.setCell ⟨pb, 3, none⟩ (.int .u64 x)) F G s e { p with ahead := x } ks := k.put HJ 3 _ _ (by simp [plc])
end
/-- What a search leaves behind. -/
def LftF (t h n : Nat) (F0 : Nat → Prop) (w0 : World) (J : World → (Nat → Prop) → (Nat → Prop) → List Int → Prop) (s' : St) (e' : Int) (ks : List Int) (w' : World) : Prop :=
  Fits s' ∧ Bud s' n ∧ ∃ F' G', Txw w' t F' s' ∧ Hnd w' h t e' ∧ ¬ F' h ∧ J w' (fun k => F' k ∨ k = h) G' ks ∧ Fr F0 w0 (fun k => (F' k ∨ k = h) ∨ G' k) w'
/-- The place is handed back. -/
theorem Fnd.fin {t h pb rb n : Nat} {F0 F G : Nat → Prop} {w0 w : World} {J : World → (Nat → Prop) → (Nat → Prop) → List Int → Prop} {s : St} {e : Int} {p : Pl} {ks : List Int} {q : Int → Bool} {gf : Nat} {av : Int → Array Value}
    (HJ : PLaw q J gf av) (k : Fnd t h pb rb n F0 w0 J w F G s e p ks) {x0 x1 x2 x3 : Int} (h0 : x0 = p.from_) (h1 : x1 = p.next) (h2 : x2 = p.key) (h3 : x3 = p.ahead) :
    Blk ((((w.setCell ⟨rb, 0, none⟩ (.int .u64 x0)).setCell ⟨rb, 1, none⟩ (.int .u64 x1)).setCell ⟨rb, 2, none⟩ (.int .u64 x2)).setCell ⟨rb, 3, none⟩ (.int .u64 x3)) rb 81 (plc p) ∧
    LftF t h n F0 w0 J s e ks ((((w.setCell ⟨rb, 0, none⟩ (.int .u64 x0)).setCell ⟨rb, 1, none⟩ (.int .u64 x1)).setCell ⟨rb, 2, none⟩ (.int .u64 x2)).setCell ⟨rb, 3, none⟩ (.int .u64 x3)) := by
  subst h0 h1 h2 h3
  have hj := HJ.lt k.j
  have hB := (((k.R.set_ 0 (.int .u64 p.from_)).set_ 1 (.int .u64 p.next)).set_ 2 (.int .u64 p.key)).set_ 3 (.int .u64 p.ahead)
  refine ⟨by simpa [plc] using hB, k.f, k.b, F, G, ?_, ?_, k.hn, ?_, ?_⟩
  · exact (((k.tx.set (p := ⟨rb, 0, none⟩) k.nR.1 _).set (p := ⟨rb, 1, none⟩) k.nR.1 _).set (p := ⟨rb, 2, none⟩) k.nR.1 _).set (p := ⟨rb, 3, none⟩) k.nR.1 _
  · exact Blk.far (Blk.far (Blk.far (Blk.far k.hd (p := ⟨rb, 0, none⟩) k.ne.2.symm _) (p := ⟨rb, 1, none⟩) k.ne.2.symm _) (p := ⟨rb, 2, none⟩) k.ne.2.symm _) (p := ⟨rb, 3, none⟩) k.ne.2.symm _
  · refine HJ.keep k.j (fun x hx => ?_) fun x hx => (hj x hx).2
    have hx' : ∀ o : Nat, x ≠ (⟨rb, o, none⟩ : Addr).block := fun o => by rintro rfl; exact k.nR.2 hx
    rw [Below.heap_setCell _ _ _ _ (hx' 3), Below.heap_setCell _ _ _ _ (hx' 2), Below.heap_setCell _ _ _ _ (hx' 1), Below.heap_setCell _ _ _ _ (hx' 0)]
  · exact (((k.m.set (p := ⟨rb, 0, none⟩) (.inr (.inr k.new.2.1)) _).set (p := ⟨rb, 1, none⟩) (.inr (.inr k.new.2.1)) _).set (p := ⟨rb, 2, none⟩) (.inr (.inr k.new.2.1)) _).set (p := ⟨rb, 3, none⟩) (.inr (.inr k.new.2.1)) _
end Go.Proofs.Ytcohopobjppmaaa
