/- SkipMeans: two sets in two rooms, and the plain set beside them. -/
import Derived.Test.YtgbgodhkehnbdaaSkP2
import Derived.Test.YtgbgodhkehnbdaaSkM4
namespace Go.Proofs.Ytgbgodhkehnbdaa
open Go.RowKit
set_option linter.unusedVariables false

structure Two (B : Nat → Prop) (w0 w : World) (t u : Nat) (v : Value) (F G : Nat → Prop) (s r : St) (l lt lr : List Int) (c : Nat) : Prop where
  tx : Txw w t F s
  ux : Txw w u G r
  fs : Fits s
  fr : Fits r
  st : SetOk s lt c
  sr : SetOk r lr c
  vl : Wl w v l
  fg : ∀ k, F k → ¬ G k
  vf : ∀ k, own v k → ¬ F k ∧ ¬ G k
  zf : Fr B w0 F w
  zg : Fr B w0 G w
section
variable {t u c c' : Nat} {B : Nat → Prop} {w0 w w' : World} {v : Value} {F G F' G' : Nat → Prop} {s r s' r' : St} {l lt lr lt' lr' : List Int}
theorem Two.left (h : Two B w0 w t u v F G s r l lt lr c) (hx : Txw w' t F' s') (hf : Fits s') (hs : SetOk s' lt' c') (hm : Fr F w F' w') (hc : c ≤ c') : Two B w0 w' t u v F' G s' r l lt' lr c' :=
  ⟨hx, h.ux.fr hm fun k hk hf => h.fg k hf hk, hf, h.fr, hs, h.sr.mono hc, h.vl.fr hm fun k hk => (h.vf k hk).1,
    fun k hk hg => (hm.apart (G := G) (fun k hk => ⟨h.ux.lt k hk, fun hf => h.fg k hf hk⟩) k hg).2 hk,
    fun k hk => ⟨(hm.apart (G := own v) (fun k hk => ⟨h.vl.lt k hk, (h.vf k hk).1⟩) k hk).2, (h.vf k hk).2⟩,
    h.zf.trans hm, (h.zf.trans hm).into fun k hk => .inr (h.zg.new k hk)⟩
theorem Two.right (h : Two B w0 w t u v F G s r l lt lr c) (hx : Txw w' u G' r') (hf : Fits r') (hs : SetOk r' lr' c') (hm : Fr G w G' w') (hc : c ≤ c') : Two B w0 w' t u v F G' s r' l lt lr' c' :=
  ⟨h.tx.fr hm h.fg, hx, h.fs, hf, h.st.mono hc, hs, h.vl.fr hm fun k hk => (h.vf k hk).2,
    fun k hk hg => (hm.apart (G := F) (fun k hk => ⟨h.tx.lt k hk, h.fg k hk⟩) k hk).2 hg,
    fun k hk => ⟨(h.vf k hk).1, (hm.apart (G := own v) (fun k hk => ⟨h.vl.lt k hk, (h.vf k hk).2⟩) k hk).2⟩,
    (h.zg.trans hm).into fun k hk => .inr (h.zf.new k hk), h.zg.trans hm⟩
theorem Two.mono (h : Two B w0 w t u v F G s r l lt lr c) (hc : c ≤ c') : Two B w0 w t u v F G s r l lt lr c' :=
  ⟨h.tx, h.ux, h.fs, h.fr, h.st.mono hc, h.sr.mono hc, h.vl, h.fg, h.vf, h.zf, h.zg⟩
theorem Two.alloc (h : Two B w0 w t u v F G s r l lt lr c) (o : Obj) : Two B w0 (w.alloc o) t u v F G s r l lt lr c :=
  ⟨h.tx.alloc o, h.ux.alloc o, h.fs, h.fr, h.st, h.sr, h.vl.alloc o, h.fg, h.vf, h.zf.alloc o, h.zg.alloc o⟩
theorem Two.drewN (h : Two B w0 w t u v F G s r l lt lr c) (n : Nat) : Two B w0 (w.drewN n) t u v F G s r l lt lr c :=
  ⟨h.tx.drewN n, h.ux.drewN n, h.fs, h.fr, h.st, h.sr, h.vl.drewN n, h.fg, h.vf, h.zf.drewN n, h.zg.drewN n⟩
/-- another list of words -/
theorem Two.list {v' : Value} {l' : List Int} (h : Two B w0 w t u v F G s r l lt lr c) (hv : Wl w' v' l') (hb : Below w.heap.size w w') (ho : ∀ k, own v' k → own v k ∨ w.heap.size ≤ k) : Two B w0 w' t u v' F G s r l' lt lr c :=
  ⟨h.tx.keep fun k hk => hb.block k (h.tx.lt k hk), h.ux.keep fun k hk => hb.block k (h.ux.lt k hk), h.fs, h.fr, h.st, h.sr, hv, h.fg,
    fun k hk => ⟨fun hf => (ho k hk).elim (fun h1 => (h.vf k h1).1 hf) fun h1 => by have := h.tx.lt k hf; omega, fun hf => (ho k hk).elim (fun h1 => (h.vf k h1).2 hf) fun h1 => by have := h.ux.lt k hf; omega⟩,
    h.zf.trans (Fr.of_below hb (Nat.le_refl _) _), h.zg.trans (Fr.of_below hb (Nat.le_refl _) _)⟩
/-- seen from here -/
theorem Two.here (h : Two B w0 w t u v F G s r l lt lr c) : Two (fun k => F k ∨ G k) w w t u v F G s r l lt lr c :=
  ⟨h.tx, h.ux, h.fs, h.fr, h.st, h.sr, h.vl, h.fg, h.vf, (Fr.refl F w).wide fun k => .inl, (Fr.refl G w).wide fun k => .inr⟩
/-- seen from before -/
theorem Two.back (h : Two B w0 w t u v F G s r l lt lr c) {v' : Value} {l' lt' lr' : List Int} (k : Two (fun k => F k ∨ G k) w w' t u v' F' G' s' r' l' lt' lr' c') : Two B w0 w' t u v' F' G' s' r' l' lt' lr' c' := by
  have h0 : Fr B w0 (fun k => F k ∨ G k) w := h.zf.into fun k hk => hk.elim .inl fun hg => .inr (h.zg.new k hg)
  exact ⟨k.tx, k.ux, k.fs, k.fr, k.st, k.sr, k.vl, k.fg, k.vf, h0.trans k.zf, h0.trans k.zg⟩
theorem Two.bw (h : Two (fun k => w0.heap.size ≤ k) w0 w t u v F G s r l lt lr c) : Below w0.heap.size w0 w := h.zf.below (fun k hk => hk) (Nat.le_refl _)
end

/-- what was asked is forgotten -/
theorem Txw.forget {w : World} {t : Nat} {F : Nat → Prop} {s : St} (h : Txw w t F s) : ∃ F', Txw (w.setCell ⟨t, 1, none⟩ (.slice none 0 0)) t F' { s with log := [] } ∧ Fr F w F' (w.setCell ⟨t, 1, none⟩ (.slice none 0 0)) := by
  have hF := h.own
  obtain ⟨g, cap, vl, h1, ⟨cur, h2, h2'⟩, h3, h5, h4⟩ := h
  have n1 : t ≠ g := Blk.ne_ h1 h2 (by decide)
  refine ⟨fun k => k = t ∨ k = g, ⟨g, cap, .slice none 0 0, h1.set_ 1 _, ⟨cur, h2.far (Ne.symm n1) _, h2'⟩, Rowv.nil _ _ _ _, h5, fun k => ⟨fun h => h.elim .inl fun h => .inr (.inl h), fun h => ?_⟩⟩,
    ((Fr.refl F w).set (.inl hF) _).into fun k hk => .inl ((h4 k).2 (hk.elim .inl fun h => .inr (.inl h)))⟩
  rcases h with h | h | h
  · exact .inl h
  · exact .inr h
  · cases h

/-- two slices with the same words -/
theorem same_b {va vb : Value} {l : List Int} {w : World} (h1 : Lies w va l) (h2 : Lies w vb l) (hn : (l.length : Int) ≤ 9223372036854775807) :
    Calls Try.prog 22 #[va, vb] w fun e w' => e = .returned (.bool true) ∧ ∃ n, w' = w.drewN n :=
  (words_b h1 h2 hn).mono fun e w' h => ⟨by rw [h.2]; simp, h.1⟩
/-- the set behind a step -/
def lnext (kind : Int) (l : List Int) (x : Int) : List Int := if kind = 3 then lwith l x else if kind = 4 then lwithout l x else l
end Go.Proofs.Ytgbgodhkehnbdaa
