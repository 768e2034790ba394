/- No block; a few of the chapter's examples. -/
import Derived.Test.YthabfblcmbjlnaaStep67
namespace Go.Proofs.Ythabfblcmbjlnaa
open Go.RowKit
set_option maxHeartbeats 4000000
set_option linter.unusedVariables false

theorem given_nil (a z : Int) (w : World) : Calls Try.prog 19 #[.nilIface, .int .u64 a, .int .u64 z] w fun e w' => w' = w ∧ e = .returned (.tuple #[.slice none 0 0, .int .i64 1]) := by
  go_enter Try.func19, Try.ntmps19
  go_wp2
  go_step3
  go_wp2
  rw [Exit.noGoto_ret]
  go_ret2
  exact ⟨rfl, rfl⟩

theorem nothing_b (w : World) : Calls Try.prog 7 #[] w fun e w' => (∃ n, w' = w.drewN n) ∧ e = .returned (.bool true) := by
  go_enter Try.func7, Try.ntmps7
  go_wp2_with (first | (go_at_call 19; refine (given_nil _ _ _).mono ?_; rintro e _ ⟨rfl, rfl⟩) | go_in)
  go_ret
  exact ⟨⟨0, rfl⟩, rfl⟩

theorem zeros {w : World} {B : Nat} {v : Value} {n : Nat} (h : w.ownsRow B 31 1 v n (madeCells (Value.cells (.int .u64 0)) (n * 1)).toList) : Own w B v (List.replicate n 0) := by
  have e : (madeCells (Value.cells (.int .u64 0)) (n * 1)).toList = (List.replicate n (0 : Int)).map (Value.int .u64) := by
    simp only [Value.cells, Nat.mul_one]
    apply List.ext_getElem
    · simp [size_madeCells]
    · intro i h1 h2
      simp [madeCells, Nat.mod_one]
  unfold Own
  rw [e] at h
  simpa using h

theorem Own.blk {w : World} {B g cp : Nat} {l : List Int} (h : Own w B (.slice (some ⟨g, 0, none⟩) l.length cp) l) : B ≤ g ∧ ∃ cur, Blk w g 31 cur ∧ ∀ i, i < l.length → cur[i]? = some (.int .u64 (l.getD i 0)) := by
  rcases h.2 with ⟨h1, _⟩ | ⟨g', cap, cur, h1, h2, h3, _, _, _, h7⟩
  · cases h1
  · injection h1 with h1a h1b h1c
    obtain rfl : g = g' := by simpa using h1a
    refine ⟨h2, cur, h3, fun i hi => ?_⟩
    have e : (cur.toList.take (l.length * 1))[i]? = (l.map (Value.int .u64))[i]? := by rw [h7]
    rw [List.getElem?_take, if_pos (by omega), Array.getElem?_toList, List.getElem?_map, List.getElem?_eq_getElem hi] at e
    rw [e, List.getD_eq_getElem?_getD, List.getElem?_eq_getElem hi]; rfl

theorem Txw.make {w : World} {B g cp : Nat} {l : List Int} (h : Own w B (.slice (some ⟨g, 0, none⟩) l.length cp) l) (lf cd cl : Int) :
    Txw ((w.alloc (.cells #[.slice (some ⟨g, 0, none⟩) l.length cp, .int .i64 lf, .int .i64 cd, .int .i64 cl] 27)).alloc (.cells #[.pointer (some ⟨w.heap.size, 0, none⟩)] 29)) (w.heap.size + 1) w.heap.size g cp ⟨l, lf, cd, cl⟩ := by
  obtain ⟨_, cur, k1, k2⟩ := h.blk
  refine ⟨?_, (Blk.new w _ _).alloc _, cur, (k1.alloc _).alloc _, k2⟩
  have := Blk.new (w.alloc (.cells #[.slice (some ⟨g, 0, none⟩) l.length cp, .int .i64 lf, .int .i64 cd, .int .i64 cl] 27)) 29 #[.pointer (some ⟨w.heap.size, 0, none⟩)]
  simpa using this

theorem over_b (n : Nat) (hn : n ≤ 1000) (w : World) : Calls Try.prog 9 #[.int .i64 (n : Int)] w fun e w' =>
    ∃ t b g cap, e = .returned (.pointer (some ⟨t, 0, none⟩)) ∧ Txw w' t b g cap ⟨List.replicate n 0, -1, 0, 0⟩ ∧ Below w.heap.size w w' ∧ w.heap.size ≤ t ∧ w.heap.size ≤ b ∧ w.heap.size ≤ g := by
  obtain ⟨i0, hi, hz0, hz1, hz2⟩ := info_parts u64_info
  go_enter Try.func9, Try.ntmps9
  go_wp2_with (first | (refine wpList_make_full _ rfl (.tmp 3) (.tmp 3) 22 rfl w.heap.size 31 i0 (.int .u64 0) 1 Try.underlying22 hi hz0 hz1 .i64 .i64 _ _ n rfl rfl rfl rfl (by rw [hz2]; omega) (by unfold maxLen; omega) (Nat.le_refl _) ?_; intro w2 hr2 hg2; have hr2 := Lib.hid hr2; have hs2 := hg2.size; have hbel2 := Lib.hid ((Below.refl w.heap.size w).grown hg2 (Nat.le_refl _) (by intro k hk; cases hk))))
  go_ret
  have hz := zeros hr2.out
  have hz' : Own w2 w.heap.size (.slice (some ⟨w.heap.size, 0, none⟩) (List.replicate n (0 : Int)).length n) (List.replicate n 0) := by simpa using hz
  have hm := Txw.make hz' (-1) 0 0
  simp only [List.length_replicate] at hm
  refine ⟨_, _, _, _, rfl, hm, (hbel2.out.alloc hs2 _).alloc (by simp; omega) _, by omega, by omega, Nat.le_refl _⟩
end Go.Proofs.Ythabfblcmbjlnaa
