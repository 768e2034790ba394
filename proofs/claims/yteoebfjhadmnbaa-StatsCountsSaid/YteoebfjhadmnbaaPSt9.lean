/- (*events.look).take by contract: a Begin. -/
import Derived.Outline
import Derived.Test.YteoebfjhadmnbaaPSt3
import Derived.Test.YteoebfjhadmnbaaPSt6
import Derived.Test.YteoebfjhadmnbaaPSt8
namespace Go.Proofs.Yteoebfjhadmnbaa
open Go.RowKit
set_option maxHeartbeats 4000000
set_option linter.unusedVariables false
set_option linter.unusedSimpArgs false
theorem try_info : (Try.prog.info? 74).map (fun i => (i.zero, i.size, i.bytes)) = some (some (.agg #[.int .i64 0, .int .i64 0, .int .i64 0, .int .u64 0, .int .i64 0, .int .i64 0, .int .i64 0]), 7, 56) := by kernel_rfl
theorem wpList_try {ops : Array Oper} {rest : List Oper} {o : Oper} {a : Act} {Q : Exit → Act → World → Prop} (wr : World) (hgd : o.guard = none) (s x : Operand)
    (ho : o.op = .call { callee := .builtin .append, args := #[s, x], argTypes := #[68, 68] })
    (v : Value) (l : List Tr) (y : Tr) (hs : a.eval s = v) (hl : Sl 74 7 encT wr v l) (hx : a.eval x = .slice (some ⟨wr.heap.size, 0, none⟩) 1 1) (hlen : (l.length + 1) * 56 ≤ 140737488355328)
    (h : ∀ A cap w', l.length + 1 ≤ cap → Sl 74 7 encT w' (.slice A (l.length + 1) cap) (l ++ [y]) → Fr (own v) wr (own (.slice A (l.length + 1) cap)) w' → wpList Try.prog ops Q rest (a.put o.dst (.slice A (l.length + 1) cap)) w') :
    wpList Try.prog ops Q (o :: rest) a (wr.alloc (.cells #[.int .i64 y.th, .int .i64 y.first, .int .i64 y.last, .int .u64 y.sn, .int .i64 y.how, .int .i64 y.rd, .int .i64 y.wr] 74)) :=
  wpList_one (enc := encT) encT_len encT_one wr hgd s x 68 ho Try.underlying68 try_info rfl (by decide) v l y hs hl hx (by omega) hlen h
section
variable {B b n : Nat} {w : World} {s : St} {m : Nat → Option Nat} {tv : Value}
/-- The slice of attempts has grown. -/
theorem LookW.grow (h : LookW B w b s n m tv) (hBw : B ≤ w.heap.size) {w' : World} {tv' : Value} {l : List Tr} (hS : Sl 74 7 encT w' tv' l) (hF : Fr (own tv) w (own tv') w') (j : Nat) : LookW B ((w'.drewN j).setCell ⟨b, 86, none⟩ tv') b (s.setL l) n m tv' where
  blk := by
    refine (((hF.blk h.blk h.ne_tries).drewN j).fset _ _).fcongr fun j hj => ?_
    unfold gL St.setL
    dsimp only
    by_cases e : j = 86
    · subst e; rfl
    · rw [if_neg e]
      repeat' split
      all_goals first | rfl | omega
  tries := by
    have := hF.blk h.blk h.ne_tries
    exact (hS.drewN j).set (hS.ne_ this (by decide)) _
  maps := fun t ht hl => by
    obtain ⟨mb, a, b', c⟩ := h.maps t ht hl
    have hb' := hF.blk h.blk h.ne_tries
    have c' := c.fr hF (fun hk => c.ne_row h.tries hk)
    exact ⟨mb, a, b', (c'.drewN j).far (c'.ne_ hb') _⟩
  apart := h.apart
  geb := h.geb
  get := fun k hk => (hF.new k hk).elim (h.get k) fun h1 => Nat.le_trans hBw h1
set_option maxRecDepth 100000 in
theorem take_begin (h : LookW B w b s n m tv) (hBw : B ≤ w.heap.size) (hs : StBd s n) (hn : n ≤ 1152921504606846976) (hln : (s.tries.length + 1) * 56 ≤ 140737488355328) {t i : Nat} {ad wd er : Int} {ow : Bool} (ht : t < 8) {sn : Int} {ws : List (Int × Int)} {tr : Nat} (hth : s.th t = ⟨0, sn, ws, tr⟩) :
    Calls Try.prog 57 #[.pointer (some ⟨b, 0, none⟩), .int .i64 i, evV ⟨t, 1, ad, wd, ow, er⟩] w fun x w' => x = .returned (.tuple #[]) ∧ Below B w w' ∧ ∃ m' tv', LookW B w' b (take s i ⟨t, 1, ad, wd, ow, er⟩) (n + 1) m' tv' := by
  have hb1 : Hid (Below B w (w.alloc (.cells #[.int .i64 t, .int .i64 1, .int .u64 ad, .int .u64 wd, .bool ow, .int .i64 er] 27))) := Lib.hid ((Below.refl _ w).alloc hBw _)
  have hL1 := h.alloc (.cells #[.int .i64 t, .int .i64 1, .int .u64 ad, .int .u64 wd, .bool ow, .int .i64 er] 27)
  have hE1 := Blk.new w 27 #[.int .i64 t, .int .i64 1, .int .u64 ad, .int .u64 wd, .bool ow, .int .i64 er]
  have hbe : b ≠ w.heap.size := Nat.ne_of_lt h.blk.lt
  have hz1 : B ≤ (w.alloc (.cells #[.int .i64 t, .int .i64 1, .int .u64 ad, .int .u64 wd, .bool ow, .int .i64 er] 27)).heap.size := by simp; omega
  have hgb := h.geb
  obtain ⟨A, cap, rfl, hcap⟩ := h.tries.shape
  generalize hW1 : w.alloc (.cells #[.int .i64 t, .int .i64 1, .int .u64 ad, .int .u64 wd, .bool ow, .int .i64 er] 27) = w1 at *
  replace hW1 := Lib.hid hW1
  have ht' : (t : Int) < 8 := by omega
  have hnl : ¬ liveT (s.th t) := by unfold liveT; rw [hth]; simp
  have e01 := (hE1.cell 0).trans (show _ = some (.int .i64 t) from rfl)
  have e11 := (hE1.cell 1).trans (show _ = some (.int .i64 1) from rfl)
  have c_ws1 := fun j => ((hL1.drewN j).alloc (.map #[] 0)).c_ws ht rfl
  have fz1 := fun j => ((hL1.drewN j).alloc (.map #[] 0)).fz (52 + t * 4 + 2)
  -- t.writes
  have hL2 : ∀ j, LookW B (((w1.drewN j).alloc (.map #[] 0)).setCell ⟨b, 52 + t * 4 + 2, none⟩ (.map (some w1.heap.size))) b (s.setT t ⟨0, sn, [], tr⟩) n (fun k => if k = t then some w1.heap.size else m k) (.slice A s.tries.length cap) := fun j => by
    have := ((hL1.drewN j).alloc (.map #[] 0)).setWs ht hnl (some w1.heap.size) []
    rw [hth] at this
    exact this
  have hE2 : ∀ j, Blk (((w1.drewN j).alloc (.map #[] 0)).setCell ⟨b, 52 + t * 4 + 2, none⟩ (.map (some w1.heap.size))) w.heap.size 27 #[.int .i64 t, .int .i64 1, .int .u64 ad, .int .u64 wd, .bool ow, .int .i64 er] := fun j => ((hE1.drewN j).alloc _).far (p := ⟨b, 52 + t * 4 + 2, none⟩) hbe.symm _
  have hbm : b < w1.heap.size := hL1.blk.lt
  have hM2 : ∀ j, Mp (((w1.drewN j).alloc (.map #[] 0)).setCell ⟨b, 52 + t * 4 + 2, none⟩ (.map (some w1.heap.size))) w1.heap.size .u64 0 (fun _ => none) := fun j => (Mp.new (w1.drewN j) .u64).far (p := ⟨b, 52 + t * 4 + 2, none⟩) (Nat.ne_of_gt hbm) _
  have hth2 : (s.setT t ⟨0, sn, [], tr⟩).th t = ⟨0, sn, [], tr⟩ := St.setT_at _ _ _
  have c_tv2 := fun j => (hL2 j).c_tv
  have c_tr2 := fun j => (hL2 j).c_tr ht hth2
  have fz2 := fun j => (hL2 j).fz (52 + t * 4 + 3)
  have hL3 : ∀ j, LookW B ((((w1.drewN j).alloc (.map #[] 0)).setCell ⟨b, 52 + t * 4 + 2, none⟩ (.map (some w1.heap.size))).setCell ⟨b, 52 + t * 4 + 3, none⟩ (.int .i64 s.tries.length)) b ((s.setT t ⟨0, sn, [], tr⟩).setT t ⟨0, sn, [], s.tries.length⟩) n (fun k => if k = t then some w1.heap.size else m k) (.slice A s.tries.length cap) := fun j => by
    have := (hL2 j).setTr ht s.tries.length
    rw [hth2] at this
    exact this
  have hE3 : ∀ j, Blk ((((w1.drewN j).alloc (.map #[] 0)).setCell ⟨b, 52 + t * 4 + 2, none⟩ (.map (some w1.heap.size))).setCell ⟨b, 52 + t * 4 + 3, none⟩ (.int .i64 s.tries.length)) w.heap.size 27 #[.int .i64 t, .int .i64 1, .int .u64 ad, .int .u64 wd, .bool ow, .int .i64 er] := fun j => (hE2 j).far (p := ⟨b, 52 + t * 4 + 3, none⟩) hbe.symm _
  have hM3 : ∀ j, Mp ((((w1.drewN j).alloc (.map #[] 0)).setCell ⟨b, 52 + t * 4 + 2, none⟩ (.map (some w1.heap.size))).setCell ⟨b, 52 + t * 4 + 3, none⟩ (.int .i64 s.tries.length)) w1.heap.size .u64 0 (fun _ => none) := fun j => (hM2 j).far (p := ⟨b, 52 + t * 4 + 3, none⟩) (Nat.ne_of_gt hbm) _
  have e03 := fun j => ((hE3 j).cell 0).trans (show _ = some (.int .i64 t) from rfl)
  have S1 : Hid (∀ j j3, (((((w1.drewN j).alloc (.map #[] 0)).setCell ⟨b, 52 + t * 4 + 2, none⟩ (.map (some w1.heap.size))).setCell ⟨b, 52 + t * 4 + 3, none⟩ (.int .i64 s.tries.length)).drewN j3).cell? ⟨b, 86, none⟩ = some (.slice A s.tries.length cap)) := Lib.hid fun j j3 => ((hL3 j).drewN j3).c_tv
  have hB3 : Hid (∀ j, Below B w ((((w1.drewN j).alloc (.map #[] 0)).setCell ⟨b, 52 + t * 4 + 2, none⟩ (.map (some w1.heap.size))).setCell ⟨b, 52 + t * 4 + 3, none⟩ (.int .i64 s.tries.length))) := Lib.hid fun j => Below.setCell (Below.setCell (Below.alloc (below_drewNs hb1.out j) hz1 _) hgb _) hgb _
  replace hL3 := Lib.hid hL3
  replace hE3 := Lib.hid hE3
  replace hM3 := Lib.hid hM3
  replace hln := Lib.hid hln
  have hmm : ∀ W : World, (Instr.makeMap 90 none).run Try.prog W = .ok (.map (some W.heap.size)) (W.alloc (.map #[] 0)) := fun W => by simp [Instr.makeMap]
  have hhow : (s.th t).how = 0 := by rw [hth]
  replace hhow := Lib.hid hhow
  replace hth := Lib.hid hth
  have hLm := Lib.hid (fun k (hk : k < 8) (hkt : k ≠ t) (hl : liveT (s.th k)) => by
    obtain ⟨mb, q1, q2, q3⟩ := hL1.maps k hk hl
    have q4 := q3.lt
    have q5 : m k ≠ some w1.heap.size := fun e => by rw [q1] at e; injection e with e; omega
    exact q5)
  clear hL1 hL2 hE1 hE2 hM2 hth2 h hs hnl
  go_enter Try.func57, Try.ntmps57
  unfold evV
  dsimp only
  go_wp2
  rw [hW1.out]
  refine wp_region_mixH (fun _ => True) [3, 3, 1, 3, 3, 3, 3] (List.range 7) (by kernel_rfl) (by kernel_rfl) (fun _ _ h => h) trivial ?_; (repeat (first | ((first | refine wpMixH_pure rfl rfl (fun K hK => ?_) | refine wpMixH_loc rfl rfl (fun K hK => ?_) | refine wpMixH_any rfl rfl (fun K hK => ?_)); go_simp; refine hK _ _ ?_; clear hK K) | (refine wpMixH_skip rfl (by go_simp) (fun K hK => ?_); go_simp; refine hK _ _ ?_; clear hK K) | fail)); refine wpMixH_nil (fun n1 => ?_)
  go_wp2
  refine wp_region_mixH (fun W' => W'.cell? ⟨b, 86, none⟩ = some (.slice A s.tries.length cap)) [3, 3, 3, 3, 0, 3, 1, 3, 2, 2, 2, 3, 3, 2] (List.range 14) (by kernel_rfl) (by kernel_rfl) (fun _ _ h => h) (S1.out _ 1) ?_
  repeat (first | ((first | refine wpMixH_pure rfl rfl (fun K hK => ?_) | refine wpMixH_loc rfl rfl (fun K hK => ?_) | refine wpMixH_any rfl rfl (fun K hK => ?_)); go_simp; refine hK _ _ ?_; clear hK K) | (refine wpMixH_any rfl rfl (fun K hK => ?_); rw [if_pos (by go_simp)]; apply Exists.intro; refine And.intro (fun w2 hS2 => ?_) (hK _ _ ?_); (focus (obtain hs1 := hS2; go_simp; rfl)); clear hK K))
  refine wpMixH_loud rfl rfl (fun n2 K hK => ?_)
  go_wp2
  refine hK _ _ (fun _ => (S1.out _ (1 + n2))) ?_; clear hK K
  refine wpMixH_loud rfl rfl (fun n3 K hK => ?_)
  go_wp2
  refine hK _ _ (fun _ => (cell_alloc_ (S1.out _ (1 + n2 + n3)))) ?_; clear hK K
  refine wpMixH_loud rfl rfl (fun n4 K hK => ?_)
  obtain ⟨wx, hwx⟩ : ∃ wx, wx = (((((w1.drewN (1 + n1)).alloc (.map #[] 0)).setCell ⟨b, 52 + t * 4 + 2, none⟩ (.map (some w1.heap.size))).setCell ⟨b, 52 + t * 4 + 3, none⟩ (.int .i64 s.tries.length)).drewN (1 + n2 + n3)).drewN n4 := ⟨_, rfl⟩
  have hsz : wx.heap.size = w1.heap.size + 1 := by rw [hwx]; simp [World.setCell]
  have hLX : LookW B wx b ((s.setT t ⟨0, sn, [], tr⟩).setT t ⟨0, sn, [], s.tries.length⟩) n (fun k => if k = t then some w1.heap.size else m k) (.slice A s.tries.length cap) := by rw [hwx]; exact ((hL3.out _).drewN _).drewN _
  have hEX : Blk wx w.heap.size 27 #[.int .i64 t, .int .i64 1, .int .u64 ad, .int .u64 wd, .bool ow, .int .i64 er] := by rw [hwx]; exact ((hE3.out _).drewN _).drewN _
  have hMX : Mp wx w1.heap.size .u64 0 (fun _ => none) := by rw [hwx]; exact ((hM3.out _).drewN _).drewN _
  have hBX : Below B w wx := by rw [hwx]; exact below_drewNs (below_drewNs (hB3.out _) _) _
  have hxz : B ≤ wx.heap.size := by omega
  have hSX : Sl 74 7 encT wx (.slice A s.tries.length cap) s.tries := hLX.tries
  have hgX := hLX.get
  rw [show (((((((w1.drewN (1 + n1)).alloc (.map #[] 0)).setCell ⟨b, 52 + t * 4 + 2, none⟩ (.map (some w1.heap.size))).setCell ⟨b, 52 + t * 4 + 3, none⟩ (.int .i64 s.tries.length)).drewN (1 + n2 + n3)).alloc (.cells #[.int .i64 t, .int .i64 i, .int .i64 0, .int .u64 0, .int .i64 0, .int .i64 0, .int .i64 0] 74)).drewN n4) = wx.alloc (.cells #[.int .i64 t, .int .i64 i, .int .i64 0, .int .u64 0, .int .i64 0, .int .i64 0, .int .i64 0] 74) from by rw [hwx]; rfl]
  refine wpList_try wx rfl (.tmp 33) (.tmp 38) rfl (.slice A s.tries.length cap) s.tries (Tr.new t i) rfl hSX (by show Value.slice (some ⟨w1.heap.size + 1, 0, none⟩) 1 1 = _; rw [hsz]) hln.out ?_
  intro A4 cap4 w4 hc4 hS4 hF4
  have hlen4 : s.tries.length < (s.tries ++ [Tr.new t i]).length := by simp
  obtain ⟨g, off, hA4, hg4, -⟩ := Sl.cell encT_len (by decide) hS4 hlen4
  subst hA4
  have hgB : B ≤ g := (hF4.new g (by simp [own, Value.ownBlock])).elim (fun h1 => hgX g h1) fun h1 => by omega
  have hB4 : Hid (Below B w w4) := Lib.hid (hBX.trans (hF4.below (fun k hk => hgX k hk) hxz))
  have hb4 := hF4.blk hLX.blk hLX.ne_tries
  have c864 : w4.cell? ⟨b, 86, none⟩ = some (.slice A s.tries.length cap) := hb4.fcell (i := 86) (by omega)
  have fz864 := hb4.frozen 86
  have hE4 := hF4.blk hEX (Sl.ne_ hSX hEX (by decide))
  have hM4 := hMX.fr hF4 (fun hk => hMX.ne_row hSX hk)
  have hge : g ≠ w.heap.size := fun e => Sl.ne_ hS4 hE4 (by decide) (by simp [own, Value.ownBlock, e])
  have hgm : w1.heap.size ≠ g := fun e => hM4.ne_row hS4 (by simp [Value.ownBlock, e])
  have hth3 : ((s.setT t ⟨0, sn, [], tr⟩).setT t ⟨0, sn, [], s.tries.length⟩).th t = ⟨0, sn, [], s.tries.length⟩ := St.setT_at _ _ _
  generalize hs3 : (s.setT t ⟨0, sn, [], tr⟩).setT t ⟨0, sn, [], s.tries.length⟩ = s3 at *
  have hL5 : ∀ j, LookW B ((w4.drewN j).setCell ⟨b, 86, none⟩ (.slice (some ⟨g, off, none⟩) (s.tries.length + 1) cap4)) b (s3.setL (s.tries ++ [Tr.new t i])) n (fun k => if k = t then some w1.heap.size else m k) (.slice (some ⟨g, off, none⟩) (s.tries.length + 1) cap4) := fun j => LookW.grow hLX hxz hS4 hF4 j
  have hE5 : ∀ j, Blk ((w4.drewN j).setCell ⟨b, 86, none⟩ (.slice (some ⟨g, off, none⟩) (s.tries.length + 1) cap4)) w.heap.size 27 #[.int .i64 t, .int .i64 1, .int .u64 ad, .int .u64 wd, .bool ow, .int .i64 er] := fun j => (hE4.drewN j).far (p := ⟨b, 86, none⟩) hbe.symm _
  have hM5 : ∀ j, Mp ((w4.drewN j).setCell ⟨b, 86, none⟩ (.slice (some ⟨g, off, none⟩) (s.tries.length + 1) cap4)) w1.heap.size .u64 0 (fun _ => none) := fun j => (hM4.drewN j).far (p := ⟨b, 86, none⟩) (Nat.ne_of_gt hbm) _
  have hx5 : (s.tries ++ [Tr.new t i])[s.tries.length]'hlen4 = Tr.new t i := List.getElem_concat_length rfl _
  have c_how5 := fun j => (hL5 j).c_how ht hth3
  have c_tv5 := fun j => (hL5 j).c_tv
  have c_tr5 := fun j => (hL5 j).c_tr ht hth3
  have e15 := fun j => ((hE5 j).cell 1).trans (show _ = some (.int .i64 1) from rfl)
  have f25 := fun j => ((hL5 j).c_x (tr := s.tries.length) (j := 2) hlen4 (by decide)).2
  have x25 := fun j => ((hL5 j).c_x (tr := s.tries.length) (j := 2) hlen4 (by decide)).1.trans (show _ = some (.int .i64 (0 : Nat)) from by simp only [St.setL, hx5, encT]; rfl)
  have hL6 : ∀ j j2, LookW B ((((w4.drewN j).setCell ⟨b, 86, none⟩ (.slice (some ⟨g, off, none⟩) (s.tries.length + 1) cap4)).drewN j2).setCell ⟨g, off + s.tries.length * 7 + 2, none⟩ (.int .i64 i)) b ((s3.setL (s.tries ++ [Tr.new t i])).setL ((s.tries ++ [Tr.new t i]).set s.tries.length ⟨t, i, i, 0, 0, 0, 0⟩)) n (fun k => if k = t then some w1.heap.size else m k) (.slice (some ⟨g, off, none⟩) (s.tries.length + 1) cap4) := fun j j2 => ((hL5 j).drewN j2).setX (tr := s.tries.length) hlen4 (by decide) _ _ (by simp only [St.setL, hx5, encT]; rfl)
  have hE6 : ∀ j j2, Blk ((((w4.drewN j).setCell ⟨b, 86, none⟩ (.slice (some ⟨g, off, none⟩) (s.tries.length + 1) cap4)).drewN j2).setCell ⟨g, off + s.tries.length * 7 + 2, none⟩ (.int .i64 i)) w.heap.size 27 #[.int .i64 t, .int .i64 1, .int .u64 ad, .int .u64 wd, .bool ow, .int .i64 er] := fun j j2 => ((hE5 j).drewN j2).far (p := ⟨g, off + s.tries.length * 7 + 2, none⟩) hge.symm _
  have hM6 : ∀ j j2, Mp ((((w4.drewN j).setCell ⟨b, 86, none⟩ (.slice (some ⟨g, off, none⟩) (s.tries.length + 1) cap4)).drewN j2).setCell ⟨g, off + s.tries.length * 7 + 2, none⟩ (.int .i64 i)) w1.heap.size .u64 0 (fun _ => none) := fun j j2 => ((hM5 j).drewN j2).far (p := ⟨g, off + s.tries.length * 7 + 2, none⟩) hgm _
  have hlen6 : s.tries.length < ((s.tries ++ [Tr.new t i]).set s.tries.length ⟨t, i, i, 0, 0, 0, 0⟩).length := by simp
  have e16 := fun j j2 => ((hE6 j j2).cell 1).trans (show _ = some (.int .i64 1) from rfl)
  have e36 := fun j j2 => ((hE6 j j2).cell 3).trans (show _ = some (.int .u64 wd) from rfl)
  have c_sn6 := fun j j2 => (hL6 j j2).c_sn ht hth3
  have fz6 := fun j j2 => (hL6 j j2).fz (52 + t * 4 + 1)
  have hL7 : ∀ j j2 j3, LookW B ((((((w4.drewN j).setCell ⟨b, 86, none⟩ (.slice (some ⟨g, off, none⟩) (s.tries.length + 1) cap4)).drewN j2).setCell ⟨g, off + s.tries.length * 7 + 2, none⟩ (.int .i64 i)).drewN j3).setCell ⟨b, 52 + t * 4 + 1, none⟩ (.int .u64 wd)) b (((s3.setL (s.tries ++ [Tr.new t i])).setL ((s.tries ++ [Tr.new t i]).set s.tries.length ⟨t, i, i, 0, 0, 0, 0⟩)).setT t ⟨0, wd, [], s.tries.length⟩) n (fun k => if k = t then some w1.heap.size else m k) (.slice (some ⟨g, off, none⟩) (s.tries.length + 1) cap4) := fun j j2 j3 => by
    have := ((hL6 j j2).drewN j3).setSn ht wd
    rw [show ((s3.setL (s.tries ++ [Tr.new t i])).setL ((s.tries ++ [Tr.new t i]).set s.tries.length ⟨t, i, i, 0, 0, 0, 0⟩)).th t = _ from hth3] at this
    exact this
  have hE7 : ∀ j j2 j3, Blk ((((((w4.drewN j).setCell ⟨b, 86, none⟩ (.slice (some ⟨g, off, none⟩) (s.tries.length + 1) cap4)).drewN j2).setCell ⟨g, off + s.tries.length * 7 + 2, none⟩ (.int .i64 i)).drewN j3).setCell ⟨b, 52 + t * 4 + 1, none⟩ (.int .u64 wd)) w.heap.size 27 #[.int .i64 t, .int .i64 1, .int .u64 ad, .int .u64 wd, .bool ow, .int .i64 er] := fun j j2 j3 => ((hE6 j j2).drewN j3).far (p := ⟨b, 52 + t * 4 + 1, none⟩) hbe.symm _
  have hM7 : ∀ j j2 j3, Mp ((((((w4.drewN j).setCell ⟨b, 86, none⟩ (.slice (some ⟨g, off, none⟩) (s.tries.length + 1) cap4)).drewN j2).setCell ⟨g, off + s.tries.length * 7 + 2, none⟩ (.int .i64 i)).drewN j3).setCell ⟨b, 52 + t * 4 + 1, none⟩ (.int .u64 wd)) w1.heap.size .u64 0 (fun _ => none) := fun j j2 j3 => ((hM6 j j2).drewN j3).far (p := ⟨b, 52 + t * 4 + 1, none⟩) (Nat.ne_of_gt hbm) _
  have x37 := fun j j2 j3 => ((hL7 j j2 j3).c_x (tr := s.tries.length) (j := 3) hlen6 (by decide)).1.trans (show _ = some (.int .u64 0) from by simp only [St.setL, St.setT, List.getElem_set_self, encT]; rfl)
  have f37 := fun j j2 j3 => ((hL7 j j2 j3).c_x (tr := s.tries.length) (j := 3) hlen6 (by decide)).2
  have e37 := fun j j2 j3 => ((hE7 j j2 j3).cell 3).trans (show _ = some (.int .u64 wd) from rfl)
  have hL8 : ∀ j j2 j3 j4, LookW B ((((((((w4.drewN j).setCell ⟨b, 86, none⟩ (.slice (some ⟨g, off, none⟩) (s.tries.length + 1) cap4)).drewN j2).setCell ⟨g, off + s.tries.length * 7 + 2, none⟩ (.int .i64 i)).drewN j3).setCell ⟨b, 52 + t * 4 + 1, none⟩ (.int .u64 wd)).drewN j4).setCell ⟨g, off + s.tries.length * 7 + 3, none⟩ (.int .u64 wd)) b ((((s3.setL (s.tries ++ [Tr.new t i])).setL ((s.tries ++ [Tr.new t i]).set s.tries.length ⟨t, i, i, 0, 0, 0, 0⟩)).setT t ⟨0, wd, [], s.tries.length⟩).setL (((s.tries ++ [Tr.new t i]).set s.tries.length ⟨t, i, i, 0, 0, 0, 0⟩).set s.tries.length ⟨t, i, i, wd, 0, 0, 0⟩)) n (fun k => if k = t then some w1.heap.size else m k) (.slice (some ⟨g, off, none⟩) (s.tries.length + 1) cap4) := fun j j2 j3 j4 => ((hL7 j j2 j3).drewN j4).setX (tr := s.tries.length) hlen6 (by decide) _ _ (by simp only [St.setL, St.setT, List.getElem_set_self, encT]; rfl)
  have hE8 : ∀ j j2 j3 j4, Blk ((((((((w4.drewN j).setCell ⟨b, 86, none⟩ (.slice (some ⟨g, off, none⟩) (s.tries.length + 1) cap4)).drewN j2).setCell ⟨g, off + s.tries.length * 7 + 2, none⟩ (.int .i64 i)).drewN j3).setCell ⟨b, 52 + t * 4 + 1, none⟩ (.int .u64 wd)).drewN j4).setCell ⟨g, off + s.tries.length * 7 + 3, none⟩ (.int .u64 wd)) w.heap.size 27 #[.int .i64 t, .int .i64 1, .int .u64 ad, .int .u64 wd, .bool ow, .int .i64 er] := fun j j2 j3 j4 => ((hE7 j j2 j3).drewN j4).far (p := ⟨g, off + s.tries.length * 7 + 3, none⟩) hge.symm _
  have hM8 : ∀ j j2 j3 j4, Mp ((((((((w4.drewN j).setCell ⟨b, 86, none⟩ (.slice (some ⟨g, off, none⟩) (s.tries.length + 1) cap4)).drewN j2).setCell ⟨g, off + s.tries.length * 7 + 2, none⟩ (.int .i64 i)).drewN j3).setCell ⟨b, 52 + t * 4 + 1, none⟩ (.int .u64 wd)).drewN j4).setCell ⟨g, off + s.tries.length * 7 + 3, none⟩ (.int .u64 wd)) w1.heap.size .u64 0 (fun _ => none) := fun j j2 j3 j4 => ((hM7 j j2 j3).drewN j4).far (p := ⟨g, off + s.tries.length * 7 + 3, none⟩) hgm _
  have hth8 : ((((s3.setL (s.tries ++ [Tr.new t i])).setL ((s.tries ++ [Tr.new t i]).set s.tries.length ⟨t, i, i, 0, 0, 0, 0⟩)).setT t ⟨0, wd, [], s.tries.length⟩).setL (((s.tries ++ [Tr.new t i]).set s.tries.length ⟨t, i, i, 0, 0, 0, 0⟩).set s.tries.length ⟨t, i, i, wd, 0, 0, 0⟩)).th t = ⟨0, wd, [], s.tries.length⟩ := St.setT_at _ _ _
  have c_how8 := fun j j2 j3 j4 => (hL8 j j2 j3 j4).c_how ht hth8
  have c_tb8 := fun j j2 j3 j4 => (hL8 j j2 j3 j4).c_tb (i := 1) (hw := 0) (k := 1) (a := 2) (by decide) (by decide) rfl (by decide)
  have e18 := fun j j2 j3 j4 => ((hE8 j j2 j3 j4).cell 1).trans (show _ = some (.int .i64 1) from rfl)
  have e38 := fun j j2 j3 j4 => ((hE8 j j2 j3 j4).cell 3).trans (show _ = some (.int .u64 wd) from rfl)
  have fz8 := fun j j2 j3 j4 => (hL8 j j2 j3 j4).fz (52 + t * 4)
  have hsc := Lib.hid (fun j j2 j3 j4 => And.intro (e36 j j2) (And.intro (e37 j j2 j3) (e38 j j2 j3 j4)))
  have hapm : Hid (∀ k, k < 8 → k ≠ t → liveT (s3.th k) → (fun k => if k = t then some w1.heap.size else m k) k ≠ (fun k => if k = t then some w1.heap.size else m k) t) := Lib.hid (fun k hk hkt hl => by
    obtain ⟨mb, q1, q2, q3⟩ := hLX.maps k hk hl
    have q4 := hLm.out k hk hkt (by rw [← hs3] at hl; simpa only [St.setT, if_neg hkt] using hl)
    simp only [if_neg hkt, if_pos rfl]
    exact q4)
  have hst : Hid (take s i ⟨t, 1, ad, wd, ow, er⟩ = ((((s3.setL (s.tries ++ [Tr.new t i])).setL ((s.tries ++ [Tr.new t i]).set s.tries.length ⟨t, i, i, 0, 0, 0, 0⟩)).setT t ⟨0, wd, [], s.tries.length⟩).setL (((s.tries ++ [Tr.new t i]).set s.tries.length ⟨t, i, i, 0, 0, 0, 0⟩).set s.tries.length ⟨t, i, i, wd, 0, 0, 0⟩)).setT t ⟨1, wd, [], s.tries.length⟩) := Lib.hid (by
    rw [← hs3]
    unfold take
    dsimp only
    rw [Int.toNat_natCast, hth.out]
    simp only [St.setT, St.setL, tkT, updT, tb, List.set_set]
    simp
    refine ⟨?_, ?_⟩
    · funext k
      split <;> rfl
    · rw [modify_set _ _ _ hlen4, hx5]
      simp [Tr.new])
  clear hLX hEX hMX hBX hSX hgX hS4 hF4 hb4 hE4 hM4 hth3 hx5 hE5 hE6 hE7 hE8 hM5 hM6 hM7 hL5 hL6 hL7 hlen6
  replace hL8 := Lib.hid hL8
  replace hM8 := Lib.hid hM8
  replace hth8 := Lib.hid hth8
  replace hs3 := Lib.hid hs3
  replace hwx := Lib.hid hwx
  replace hsz := Lib.hid hsz
  have hi4 : (s.tries.length : Int) < (s.tries.length : Int) + 1 := by omega
  go_wp2
  refine hK _ _ (fun _ => c864) ?_; clear hK K
  repeat (first | ((first | refine wpMixH_pure rfl rfl (fun K hK => ?_) | refine wpMixH_loc rfl rfl (fun K hK => ?_) | refine wpMixH_any rfl rfl (fun K hK => ?_)); go_simp; refine hK _ _ ?_; clear hK K) | (refine wpMixH_any rfl rfl (fun K hK => ?_); rw [if_pos (by go_simp)]; apply Exists.intro; refine And.intro (fun w2 hS2 => ?_) (hK _ _ ?_); (focus (obtain hs1 := hS2; go_simp; rfl)); clear hK K))
  refine wpMixH_loud rfl rfl (fun n5 K hK => ?_)
  go_wp2
  refine hK _ _ (fun h => (Bool.false_ne_true ((Eq.symm (by kernel_rfl)).trans h)).elim) ?_; clear hK K
  refine wpMixH_nil (fun n6 => ?_)
  go_wp2
  refine wp_region_mixH (fun _ => True) [3, 3, 3, 1, 3, 3, 3, 1, 3, 3] (List.range 10) (by kernel_rfl) (by kernel_rfl) (fun _ _ h => h) trivial ?_; (repeat (first | ((first | refine wpMixH_pure rfl rfl (fun K hK => ?_) | refine wpMixH_loc rfl rfl (fun K hK => ?_) | refine wpMixH_any rfl rfl (fun K hK => ?_)); go_simp; refine hK _ _ ?_; clear hK K) | (refine wpMixH_skip rfl (by go_simp) (fun K hK => ?_); go_simp; refine hK _ _ ?_; clear hK K) | fail)); refine wpMixH_nil (fun n7 => ?_)
  go_wp2
  refine wp_region_mixH (fun W' => W'.cell? ⟨w.heap.size, 3, none⟩ = some (.int .u64 wd)) [3, 3, 3, 1, 3, 0, 3, 3, 2, 3, 3, 2] (List.range 12) (by kernel_rfl) (by kernel_rfl) (fun _ _ h => h) ((hsc.out _ _ 0 0).1) ?_
  repeat (first | ((first | refine wpMixH_pure rfl rfl (fun K hK => ?_) | refine wpMixH_loc rfl rfl (fun K hK => ?_) | refine wpMixH_any rfl rfl (fun K hK => ?_)); go_simp; refine hK _ _ ?_; clear hK K) | (refine wpMixH_any rfl rfl (fun K hK => ?_); rw [if_pos (by go_simp)]; apply Exists.intro; refine And.intro (fun w2 hS2 => ?_) (hK _ _ ?_); (focus (obtain hs1 := hS2; go_simp; rfl)); clear hK K))
  refine wpMixH_loud rfl rfl (fun n8 K hK => ?_)
  go_wp2
  refine hK _ _ (fun _ => ((hsc.out _ _ _ 0).2.1)) ?_; clear hK K
  repeat (first | ((first | refine wpMixH_pure rfl rfl (fun K hK => ?_) | refine wpMixH_loc rfl rfl (fun K hK => ?_) | refine wpMixH_any rfl rfl (fun K hK => ?_)); go_simp; refine hK _ _ ?_; clear hK K) | (refine wpMixH_any rfl rfl (fun K hK => ?_); rw [if_pos (by go_simp)]; apply Exists.intro; refine And.intro (fun w2 hS2 => ?_) (hK _ _ ?_); (focus (obtain hs1 := hS2; go_simp; rfl)); clear hK K))
  refine wpMixH_loud rfl rfl (fun n9 K hK => ?_)
  go_wp2
  refine hK _ _ (fun _ => ((hsc.out _ _ _ _).2.2)) ?_; clear hK K
  refine wpMixH_nil (fun n10 => ?_)
  go_wp2
  refine wp_region_mixH (fun _ => True) [3, 3, 3, 3, 3, 1, 3, 1, 3, 3, 3, 3, 1, 3, 3, 3, 2] (List.range 17) (by kernel_rfl) (by kernel_rfl) (fun _ _ h => h) trivial ?_
  repeat ((first | refine wpMixH_pure rfl rfl (fun K hK => ?_) | refine wpMixH_loc rfl rfl (fun K hK => ?_) | refine wpMixH_any rfl rfl (fun K hK => ?_)); go_simp; refine hK _ _ ?_; clear hK K)
  refine wpMixH_loud rfl rfl (fun n11 K hK => ?_)
  go_wp2
  refine hK _ _ (fun _ => trivial) ?_; clear hK K
  refine wpMixH_nil (fun n12 => ?_)
  go_wp2
  refine bodyPost_end (results_none rfl _ _ _) rfl ⟨rfl, ?_, ?_⟩
  · exact below_drewNs ((below_drewNs ((below_drewNs ((below_drewNs ((below_drewNs ((below_drewNs hB4.out _).setCell hgb _) _).setCell hgB _) _).setCell hgb _) _).setCell hgB _) _).setCell hgb _) _
  · refine ⟨(fun k => if k = t then some w1.heap.size else m k), (.slice (some ⟨g, off, none⟩) (s.tries.length + 1) cap4), ?_⟩
    rw [hst.out]
    have FIN : ∀ j j2 j3 j4 jj kk, LookW B (((((((((((w4.drewN j).setCell ⟨b, 86, none⟩ (.slice (some ⟨g, off, none⟩) (s.tries.length + 1) cap4)).drewN j2).setCell ⟨g, off + s.tries.length * 7 + 2, none⟩ (.int .i64 i)).drewN j3).setCell ⟨b, 52 + t * 4 + 1, none⟩ (.int .u64 wd)).drewN j4).setCell ⟨g, off + s.tries.length * 7 + 3, none⟩ (.int .u64 wd)).drewN jj).setCell ⟨b, 52 + t * 4, none⟩ (.int .i64 (1 : Nat))).drewN kk) b (((((s3.setL (s.tries ++ [Tr.new t i])).setL ((s.tries ++ [Tr.new t i]).set s.tries.length ⟨t, i, i, 0, 0, 0, 0⟩)).setT t ⟨0, wd, [], s.tries.length⟩).setL (((s.tries ++ [Tr.new t i]).set s.tries.length ⟨t, i, i, 0, 0, 0, 0⟩).set s.tries.length ⟨t, i, i, wd, 0, 0, 0⟩)).setT t ⟨1, wd, [], s.tries.length⟩) (n + 1) (fun k => if k = t then some w1.heap.size else m k) (.slice (some ⟨g, off, none⟩) (s.tries.length + 1) cap4) := fun j j2 j3 j4 jj kk => by
      have hfin := (((hL8.out j j2 j3 j4).drewN jj).setHow ht 1 (fun _ => by
        refine ⟨⟨w1.heap.size, by simp, hz1, ?_⟩, fun k hk hkt hl => by
          have h9 := hapm.out k hk hkt (by simpa only [St.setT, St.setL, if_neg hkt] using hl)
          simpa [hkt] using h9⟩
        rw [hth8.out]
        exact (((hM8.out j j2 j3 j4).drewN jj).mono (Nat.zero_le _)).congr fun k => rfl))
      rw [hth8.out] at hfin
      exact (hfin.drewN kk).mono (Nat.le_succ _)
    exact FIN _ _ _ _ _ _
end
end Go.Proofs.Yteoebfjhadmnbaa
/- (*events.look).wrong by contract. -/
namespace Go.Proofs.Yteoebfjhadmnbaa
open Go.RowKit
set_option maxHeartbeats 4000000
set_option linter.unusedVariables false
set_option linter.unusedSimpArgs false

theorem fmd_bd {e : Ev} (h : fmd e = true) : (0 ≤ e.th ∧ e.th < 8) ∧ 1 ≤ e.kd ∧ e.kd ≤ 12 := by
  unfold fmd at h
  simp only [Bool.and_eq_true, decide_eq_true_eq] at h
  omega
section
variable {B b n : Nat} {w : World} {s : St} {m : Nat → Option Nat} {tv : Value}
set_option maxRecDepth 100000 in
theorem wrong_form (e : Ev) (he : EvWf e) (hf : fmd e = false) :
    Calls Try.prog 56 #[.pointer (some ⟨b, 0, none⟩), evV e] w fun x w' => x = .returned (.int .i64 201) ∧ Below w.heap.size w w' := by
  have C1 := Lib.hid (fun W => formed_b e W he.2.2.2.1.1 he.2.2.2.1.2)
  rw [hf] at C1
  obtain ⟨th, kd, ad, wd, ow, er⟩ := e
  have hb1 := Lib.hid ((Below.refl w.heap.size w).alloc (Nat.le_refl _) (.cells #[.int .i64 th, .int .i64 kd, .int .u64 ad, .int .u64 wd, .bool ow, .int .i64 er] 27))
  unfold evV at *
  dsimp only at *
  clear he hf
  go_enter Try.func56, Try.ntmps56
  go_wp2_with fail
  refine (C1.out _).mono ?_
  rintro _ w2 ⟨rfl, hb2⟩
  have hb3 := Lib.hid (hb1.out.trans (hb2.mono (by simp)))
  clear hb2
  go_wp2
  go_ret
  exact ⟨rfl, hb3.out⟩

set_option maxRecDepth 100000 in
theorem wrong_turn (h : LookW B w b s n m tv) {t k : Nat} {ad wd er : Int} {ow : Bool} (ht : t < 8) (hk : k < 13) (hhow : (s.th t).how < 4) (he : EvWf ⟨t, k, ad, wd, ow, er⟩) (hf : fmd ⟨t, k, ad, wd, ow, er⟩ = true) (h0 : tb (s.th t).how k = 0) :
    Calls Try.prog 56 #[.pointer (some ⟨b, 0, none⟩), evV ⟨t, k, ad, wd, ow, er⟩] w fun x w' => x = .returned (.int .i64 230) ∧ Below w.heap.size w w' := by
  have C1 := Lib.hid (fun W => formed_b ⟨t, k, ad, wd, ow, er⟩ W he.2.2.2.1.1 he.2.2.2.1.2)
  rw [hf] at C1
  have hb1 := Lib.hid ((Below.refl w.heap.size w).alloc (Nat.le_refl _) (.cells #[.int .i64 t, .int .i64 k, .int .u64 ad, .int .u64 wd, .bool ow, .int .i64 er] 27))
  have hB := Lib.hid (h.blk.alloc (.cells #[.int .i64 t, .int .i64 k, .int .u64 ad, .int .u64 wd, .bool ow, .int .i64 er] 27))
  have hE := Lib.hid (Blk.new w 27 #[.int .i64 t, .int .i64 k, .int .u64 ad, .int .u64 wd, .bool ow, .int .i64 er])
  have g0 := gL_tb (s := s) (m := m) (tv := tv) hhow hk
  have g1 := gL_how (s := s) (m := m) (tv := tv) ht
  rw [h0] at g0
  unfold evV at *
  dsimp only at *
  clear he hf
  generalize (s.th t).how = hw at *
  go_enter Try.func56, Try.ntmps56
  go_wp2_with fail
  refine (C1.out _).mono ?_
  rintro _ w2 ⟨rfl, hb2⟩
  have hB2 := hB.out.below hb2 hB.out.lt
  have hE2 := hE.out.below hb2 hE.out.lt
  have hb3 := Lib.hid (hb1.out.trans (hb2.mono (by simp)))
  have c0 := (hB2.fcell (i := 52 + t * 4) (by omega)).trans (congrArg some g1)
  have c1 := (hB2.fcell (i := hw * 13 + k) (by omega)).trans (congrArg some g0)
  have e0 := hE2.cell 0
  have e1 := hE2.cell 1
  simp only [List.getElem?_toArray, List.getElem?_cons_zero, List.getElem?_cons_succ] at e0 e1
  have ht' : (t : Int) < 8 := by omega
  have hw' : (hw : Int) < 4 := by omega
  have hk' : (k : Int) < 13 := by omega
  clear hb2 hB2 hE2 hB hE g0 g1 h0 hb1 h
  go_wp2
  refine wp_region_mixH (fun _ => True) [3, 3, 1, 3, 3, 3, 3] (List.range 7) (by kernel_rfl) (by kernel_rfl) (fun _ _ h => h) trivial ?_
  repeat ((first | refine wpMixH_pure rfl rfl (fun K hK => ?_) | refine wpMixH_loc rfl rfl (fun K hK => ?_) | refine wpMixH_any rfl rfl (fun K hK => ?_)); go_simp; refine hK _ _ ?_; clear hK K)
  refine wpMixH_nil (fun n1 => ?_)
  go_wp2
  refine wp_region_mixH (fun _ => True) [3, 3, 3, 3, 1, 3, 1, 3, 3, 3, 3, 1, 3, 3, 3, 3, 3, 1, 3, 3, 3, 1, 3, 3, 3, 3, 1, 3, 3, 3] (List.range 30) (by kernel_rfl) (by kernel_rfl) (fun _ _ h => h) trivial ?_
  repeat (first | ((first | refine wpMixH_pure rfl rfl (fun K hK => ?_) | refine wpMixH_loc rfl rfl (fun K hK => ?_) | refine wpMixH_any rfl rfl (fun K hK => ?_)); go_simp; refine hK _ _ ?_; clear hK K) | (refine wpMixH_skip rfl (by go_simp) (fun K hK => ?_); go_simp; refine hK _ _ ?_; clear hK K))
  refine wpMixH_nil (fun n2 => ?_)
  go_wp2
  go_ret
  exact ⟨rfl, below_drewNs (below_drewNs hb3.out _) _⟩
end
end Go.Proofs.Yteoebfjhadmnbaa
/- (*events.look).wrong by contract: kind by kind (printed by ev/mkwrong.py). -/
namespace Go.Proofs.Yteoebfjhadmnbaa
open Go.RowKit
set_option maxHeartbeats 4000000
set_option linter.unusedVariables false
set_option linter.unusedSimpArgs false
section
variable {B b n : Nat} {w : World} {s : St} {m : Nat → Option Nat} {tv : Value}
set_option maxRecDepth 100000 in
theorem wrong_begin (h : LookW B w b s n m tv) (hs : StBd s n) (hn : n ≤ 1152921504606846976) {t : Nat} {ad wd er : Int} {ow : Bool} (ht : t < 8) (hhow : (s.th t).how = 0) (he : EvWf ⟨t, 1, ad, wd, ow, er⟩) (hf : fmd ⟨t, 1, ad, wd, ow, er⟩ = true) :
    Calls Try.prog 56 #[.pointer (some ⟨b, 0, none⟩), evV ⟨t, 1, ad, wd, ow, er⟩] w fun x w' => x = .returned (.int .i64 (wrong s ⟨t, 1, ad, wd, ow, er⟩)) ∧ Below w.heap.size w w' := by
  have HW : Hid (wrong s ⟨t, 1, ad, wd, ow, er⟩ = if 0 ≤ s.hold then 231 else if wd = 2 * s.num then 0 else 232) := Lib.hid (by
    unfold wrong wrg
    dsimp only
    rw [hf, Int.toNat_natCast, hhow]
    simp [tb, lockK, wordOk, ownOk, hhow])
  have C1 := Lib.hid (fun W => formed_b ⟨t, 1, ad, wd, ow, er⟩ W he.2.2.2.1.1 he.2.2.2.1.2)
  rw [hf] at C1
  have hb1 := Lib.hid ((Below.refl w.heap.size w).alloc (Nat.le_refl _) (.cells #[.int .i64 t, .int .i64 1, .int .u64 ad, .int .u64 wd, .bool ow, .int .i64 er] 27))
  have hB := Lib.hid (h.blk.alloc (.cells #[.int .i64 t, .int .i64 1, .int .u64 ad, .int .u64 wd, .bool ow, .int .i64 er] 27))
  have hE := Lib.hid (Blk.new w 27 #[.int .i64 t, .int .i64 1, .int .u64 ad, .int .u64 wd, .bool ow, .int .i64 er])
  have g0 := gL_tb (s := s) (m := m) (tv := tv) (h := 0) (k := 1) (by decide) (by decide)
  have g1 := gL_how (s := s) (m := m) (tv := tv) ht
  rw [hhow] at g1
  rw [show tb 0 ((1 : Nat) : Int) = 2 from by decide] at g0
  have g3 : gL s m tv 84 = .int .u64 s.num := rfl
  have hnum := hs.num
  generalize s.num = num at *
  have hw2 : IntKind.u64.wrap (2 * num) = 2 * num := by rw [IntKind.wrap_u64]; omega
  have hw3 : IntKind.u64.wrap (num + 1) = num + 1 := by rw [IntKind.wrap_u64]; omega
  have g4 : gL s m tv 85 = .int .i64 s.hold := rfl
  have hhold := hs.hold
  generalize s.hold = hold at *
  unfold evV at *
  dsimp only at *
  clear hf he
  clear hn hnum
  have hcs : ((wd == 2 * num) = true) ∨ ((wd == 2 * num) = false) := by cases (wd == 2 * num) <;> simp
  rcases hcs with hsp | hsp
  all_goals
    go_enter Try.func56, Try.ntmps56
    go_wp2_with fail
    refine (C1.out _).mono ?_
    rintro _ w2 ⟨rfl, hb2⟩
    have hB2 := hB.out.below hb2 hB.out.lt
    have hE2 := hE.out.below hb2 hE.out.lt
    have hb3 := Lib.hid (hb1.out.trans (hb2.mono (by simp)))
    have c0 := (hB2.fcell (i := 52 + t * 4) (by omega)).trans (congrArg some g1)
    have c1 := (hB2.fcell (i := 1) (by omega)).trans (congrArg some g0)
    have c3 := (hB2.fcell (i := 84) (by omega)).trans (congrArg some g3)
    have c4 := (hB2.fcell (i := 85) (by omega)).trans (congrArg some g4)
    have e0 := hE2.cell 0
    have e1 := hE2.cell 1
    have e2 := hE2.cell 2
    have e3 := hE2.cell 3
    have e4 := hE2.cell 4
    have e5 := hE2.cell 5
    simp only [List.getElem?_toArray, List.getElem?_cons_zero, List.getElem?_cons_succ] at e0 e1 e2 e3 e4 e5
    have ht' : (t : Int) < 8 := by omega
    clear hb2 hB2 hE2 hB hE g0 g1 hb1 h hs hhow g3 g4
    go_wp2
    refine wp_region_mixH (fun _ => True) [3, 3, 1, 3, 3, 3, 3] (List.range 7) (by kernel_rfl) (by kernel_rfl) (fun _ _ h => h) trivial ?_; (repeat (first | ((first | refine wpMixH_pure rfl rfl (fun K hK => ?_) | refine wpMixH_loc rfl rfl (fun K hK => ?_) | refine wpMixH_any rfl rfl (fun K hK => ?_)); go_simp; refine hK _ _ ?_; clear hK K) | (refine wpMixH_skip rfl (by go_simp) (fun K hK => ?_); go_simp; refine hK _ _ ?_; clear hK K) | fail)); refine wpMixH_nil (fun n1 => ?_)
    go_wp2
    refine wp_region_mixH (fun _ => True) [3, 3, 3, 3, 1, 3, 1, 3, 3, 3, 3, 1, 3, 3, 3, 3, 3, 1, 3, 3, 3, 1, 3, 3, 3, 3, 1, 3, 3, 3] (List.range 30) (by kernel_rfl) (by kernel_rfl) (fun _ _ h => h) trivial ?_; (repeat (first | ((first | refine wpMixH_pure rfl rfl (fun K hK => ?_) | refine wpMixH_loc rfl rfl (fun K hK => ?_) | refine wpMixH_any rfl rfl (fun K hK => ?_)); go_simp; refine hK _ _ ?_; clear hK K) | (refine wpMixH_skip rfl (by go_simp) (fun K hK => ?_); go_simp; refine hK _ _ ?_; clear hK K) | fail)); refine wpMixH_nil (fun n2 => ?_)
    go_wp2
    refine wp_region_mixH (fun _ => True) [3, 1, 3, 3, 3, 1, 3, 3, 3, 3, 1, 3, 3, 3, 1, 3, 3, 3, 1, 3, 3, 3, 3] (List.range 23) (by kernel_rfl) (by kernel_rfl) (fun _ _ h => h) trivial ?_; (repeat (first | ((first | refine wpMixH_pure rfl rfl (fun K hK => ?_) | refine wpMixH_loc rfl rfl (fun K hK => ?_) | refine wpMixH_any rfl rfl (fun K hK => ?_)); go_simp; refine hK _ _ ?_; clear hK K) | (refine wpMixH_skip rfl (by go_simp) (fun K hK => ?_); go_simp; refine hK _ _ ?_; clear hK K) | fail)); refine wpMixH_nil (fun n3 => ?_)
    go_wp2
    all_goals
      go_ret
      exact ⟨ret_int (by rw [HW.out]; ((repeat' split) <;> first | rfl | omega | (have h9 := beq_iff_eq.1 hsp; omega) | (have h9 := beq_eq_false_iff_ne.1 hsp; omega) | (simp_all; done) | (simp_all; omega))), (by first | exact below_drewNs hb3.out _ | exact below_drewNs (below_drewNs hb3.out _) _)⟩
set_option maxRecDepth 100000 in
theorem wrong_moved (h : LookW B w b s n m tv) (hs : StBd s n) (hn : n ≤ 1152921504606846976) {t : Nat} {ad wd er : Int} {ow : Bool} (ht : t < 8) (hhow : (s.th t).how = 1) (he : EvWf ⟨t, 4, ad, wd, ow, er⟩) (hf : fmd ⟨t, 4, ad, wd, ow, er⟩ = true) :
    Calls Try.prog 56 #[.pointer (some ⟨b, 0, none⟩), evV ⟨t, 4, ad, wd, ow, er⟩] w fun x w' => x = .returned (.int .i64 (wrong s ⟨t, 4, ad, wd, ow, er⟩)) ∧ Below w.heap.size w w' := by
  have HW : Hid (wrong s ⟨t, 4, ad, wd, ow, er⟩ = if 0 ≤ s.hold then 231 else if wd = 2 * s.num → wd ≤ (s.th t).sn then 232 else 0) := Lib.hid (by
    unfold wrong wrg
    dsimp only
    rw [hf, Int.toNat_natCast, hhow]
    simp [tb, lockK, wordOk, ownOk, hhow])
  have C1 := Lib.hid (fun W => formed_b ⟨t, 4, ad, wd, ow, er⟩ W he.2.2.2.1.1 he.2.2.2.1.2)
  rw [hf] at C1
  have hb1 := Lib.hid ((Below.refl w.heap.size w).alloc (Nat.le_refl _) (.cells #[.int .i64 t, .int .i64 4, .int .u64 ad, .int .u64 wd, .bool ow, .int .i64 er] 27))
  have hB := Lib.hid (h.blk.alloc (.cells #[.int .i64 t, .int .i64 4, .int .u64 ad, .int .u64 wd, .bool ow, .int .i64 er] 27))
  have hE := Lib.hid (Blk.new w 27 #[.int .i64 t, .int .i64 4, .int .u64 ad, .int .u64 wd, .bool ow, .int .i64 er])
  have g0 := gL_tb (s := s) (m := m) (tv := tv) (h := 1) (k := 4) (by decide) (by decide)
  have g1 := gL_how (s := s) (m := m) (tv := tv) ht
  rw [hhow] at g1
  rw [show tb 1 ((4 : Nat) : Int) = 2 from by decide] at g0
  have g2 := gL_sn (s := s) (m := m) (tv := tv) ht
  have hsn := (hs.sn t).1
  have hsn1 := (hs.sn t).2
  generalize (s.th t).sn = sn at *
  have hsq : IntKind.u64.wrap (sn.tdiv 2) = sn / 2 := by rw [Int.tdiv_eq_ediv_of_nonneg hsn, IntKind.wrap_u64]; omega
  clear hsn1
  have g3 : gL s m tv 84 = .int .u64 s.num := rfl
  have hnum := hs.num
  generalize s.num = num at *
  have hw2 : IntKind.u64.wrap (2 * num) = 2 * num := by rw [IntKind.wrap_u64]; omega
  have hw3 : IntKind.u64.wrap (num + 1) = num + 1 := by rw [IntKind.wrap_u64]; omega
  have g4 : gL s m tv 85 = .int .i64 s.hold := rfl
  have hhold := hs.hold
  generalize s.hold = hold at *
  unfold evV at *
  dsimp only at *
  clear hf he
  clear hn hnum
  have hcs : ((wd == 2 * num) = true) ∨ ((wd == 2 * num) = false) := by cases (wd == 2 * num) <;> simp
  rcases hcs with hsp | hsp
  all_goals
    go_enter Try.func56, Try.ntmps56
    go_wp2_with fail
    refine (C1.out _).mono ?_
    rintro _ w2 ⟨rfl, hb2⟩
    have hB2 := hB.out.below hb2 hB.out.lt
    have hE2 := hE.out.below hb2 hE.out.lt
    have hb3 := Lib.hid (hb1.out.trans (hb2.mono (by simp)))
    have c0 := (hB2.fcell (i := 52 + t * 4) (by omega)).trans (congrArg some g1)
    have c1 := (hB2.fcell (i := 17) (by omega)).trans (congrArg some g0)
    have c2 := (hB2.fcell (i := 52 + t * 4 + 1) (by omega)).trans (congrArg some g2)
    have c3 := (hB2.fcell (i := 84) (by omega)).trans (congrArg some g3)
    have c4 := (hB2.fcell (i := 85) (by omega)).trans (congrArg some g4)
    have e0 := hE2.cell 0
    have e1 := hE2.cell 1
    have e2 := hE2.cell 2
    have e3 := hE2.cell 3
    have e4 := hE2.cell 4
    have e5 := hE2.cell 5
    simp only [List.getElem?_toArray, List.getElem?_cons_zero, List.getElem?_cons_succ] at e0 e1 e2 e3 e4 e5
    have ht' : (t : Int) < 8 := by omega
    clear hb2 hB2 hE2 hB hE g0 g1 hb1 h hs hhow g2 g3 g4
    go_wp2
    refine wp_region_mixH (fun _ => True) [3, 3, 1, 3, 3, 3, 3] (List.range 7) (by kernel_rfl) (by kernel_rfl) (fun _ _ h => h) trivial ?_; (repeat (first | ((first | refine wpMixH_pure rfl rfl (fun K hK => ?_) | refine wpMixH_loc rfl rfl (fun K hK => ?_) | refine wpMixH_any rfl rfl (fun K hK => ?_)); go_simp; refine hK _ _ ?_; clear hK K) | (refine wpMixH_skip rfl (by go_simp) (fun K hK => ?_); go_simp; refine hK _ _ ?_; clear hK K) | fail)); refine wpMixH_nil (fun n1 => ?_)
    go_wp2
    refine wp_region_mixH (fun _ => True) [3, 3, 3, 3, 1, 3, 1, 3, 3, 3, 3, 1, 3, 3, 3, 3, 3, 1, 3, 3, 3, 1, 3, 3, 3, 3, 1, 3, 3, 3] (List.range 30) (by kernel_rfl) (by kernel_rfl) (fun _ _ h => h) trivial ?_; (repeat (first | ((first | refine wpMixH_pure rfl rfl (fun K hK => ?_) | refine wpMixH_loc rfl rfl (fun K hK => ?_) | refine wpMixH_any rfl rfl (fun K hK => ?_)); go_simp; refine hK _ _ ?_; clear hK K) | (refine wpMixH_skip rfl (by go_simp) (fun K hK => ?_); go_simp; refine hK _ _ ?_; clear hK K) | fail)); refine wpMixH_nil (fun n2 => ?_)
    go_wp2
    refine wp_region_mixH (fun _ => True) [3, 1, 3, 3, 3, 1, 3, 3, 3, 3, 1, 3, 3, 3, 1, 3, 3, 3, 1, 3, 3, 3, 3] (List.range 23) (by kernel_rfl) (by kernel_rfl) (fun _ _ h => h) trivial ?_; (repeat (first | ((first | refine wpMixH_pure rfl rfl (fun K hK => ?_) | refine wpMixH_loc rfl rfl (fun K hK => ?_) | refine wpMixH_any rfl rfl (fun K hK => ?_)); go_simp; refine hK _ _ ?_; clear hK K) | (refine wpMixH_skip rfl (by go_simp) (fun K hK => ?_); go_simp; refine hK _ _ ?_; clear hK K) | fail)); refine wpMixH_nil (fun n3 => ?_)
    go_wp2
    all_goals
      go_ret
      exact ⟨ret_int (by rw [HW.out]; ((repeat' split) <;> first | rfl | omega | (have h9 := beq_iff_eq.1 hsp; omega) | (have h9 := beq_eq_false_iff_ne.1 hsp; omega) | (simp_all; done) | (simp_all; omega))), (by first | exact below_drewNs hb3.out _ | exact below_drewNs (below_drewNs hb3.out _) _)⟩
end
end Go.Proofs.Yteoebfjhadmnbaa
/- (*events.look).wrong by contract: kind by kind (printed by ev/mkwrong.py). -/
namespace Go.Proofs.Yteoebfjhadmnbaa
open Go.RowKit
set_option maxHeartbeats 4000000
set_option linter.unusedVariables false
set_option linter.unusedSimpArgs false
section
variable {B b n : Nat} {w : World} {s : St} {m : Nat → Option Nat} {tv : Value}
set_option maxRecDepth 100000 in
theorem wrong_write (h : LookW B w b s n m tv) (hs : StBd s n) (hn : n ≤ 1152921504606846976) {t : Nat} {ad wd er : Int} {ow : Bool} (ht : t < 8) (hhow : (s.th t).how = 1) (he : EvWf ⟨t, 3, ad, wd, ow, er⟩) (hf : fmd ⟨t, 3, ad, wd, ow, er⟩ = true) :
    Calls Try.prog 56 #[.pointer (some ⟨b, 0, none⟩), evV ⟨t, 3, ad, wd, ow, er⟩] w fun x w' => x = .returned (.int .i64 (wrong s ⟨t, 3, ad, wd, ow, er⟩)) ∧ Below w.heap.size w w' := by
  have HW : Hid (wrong s ⟨t, 3, ad, wd, ow, er⟩ = 0) := Lib.hid (by
    unfold wrong wrg
    dsimp only
    rw [hf, Int.toNat_natCast, hhow]
    simp [tb, lockK, wordOk, ownOk, hhow])
  have C1 := Lib.hid (fun W => formed_b ⟨t, 3, ad, wd, ow, er⟩ W he.2.2.2.1.1 he.2.2.2.1.2)
  rw [hf] at C1
  have hb1 := Lib.hid ((Below.refl w.heap.size w).alloc (Nat.le_refl _) (.cells #[.int .i64 t, .int .i64 3, .int .u64 ad, .int .u64 wd, .bool ow, .int .i64 er] 27))
  have hB := Lib.hid (h.blk.alloc (.cells #[.int .i64 t, .int .i64 3, .int .u64 ad, .int .u64 wd, .bool ow, .int .i64 er] 27))
  have hE := Lib.hid (Blk.new w 27 #[.int .i64 t, .int .i64 3, .int .u64 ad, .int .u64 wd, .bool ow, .int .i64 er])
  have g0 := gL_tb (s := s) (m := m) (tv := tv) (h := 1) (k := 3) (by decide) (by decide)
  have g1 := gL_how (s := s) (m := m) (tv := tv) ht
  rw [hhow] at g1
  rw [show tb 1 ((3 : Nat) : Int) = 2 from by decide] at g0
  unfold evV at *
  dsimp only at *
  clear hf he
  clear hn
  go_enter Try.func56, Try.ntmps56
  go_wp2_with fail
  refine (C1.out _).mono ?_
  rintro _ w2 ⟨rfl, hb2⟩
  have hB2 := hB.out.below hb2 hB.out.lt
  have hE2 := hE.out.below hb2 hE.out.lt
  have hb3 := Lib.hid (hb1.out.trans (hb2.mono (by simp)))
  have c0 := (hB2.fcell (i := 52 + t * 4) (by omega)).trans (congrArg some g1)
  have c1 := (hB2.fcell (i := 16) (by omega)).trans (congrArg some g0)
  have e0 := hE2.cell 0
  have e1 := hE2.cell 1
  have e2 := hE2.cell 2
  have e3 := hE2.cell 3
  have e4 := hE2.cell 4
  have e5 := hE2.cell 5
  simp only [List.getElem?_toArray, List.getElem?_cons_zero, List.getElem?_cons_succ] at e0 e1 e2 e3 e4 e5
  have ht' : (t : Int) < 8 := by omega
  clear hb2 hB2 hE2 hB hE g0 g1 hb1 h hs hhow
  go_wp2
  refine wp_region_mixH (fun _ => True) [3, 3, 1, 3, 3, 3, 3] (List.range 7) (by kernel_rfl) (by kernel_rfl) (fun _ _ h => h) trivial ?_; (repeat (first | ((first | refine wpMixH_pure rfl rfl (fun K hK => ?_) | refine wpMixH_loc rfl rfl (fun K hK => ?_) | refine wpMixH_any rfl rfl (fun K hK => ?_)); go_simp; refine hK _ _ ?_; clear hK K) | (refine wpMixH_skip rfl (by go_simp) (fun K hK => ?_); go_simp; refine hK _ _ ?_; clear hK K) | fail)); refine wpMixH_nil (fun n1 => ?_)
  go_wp2
  refine wp_region_mixH (fun _ => True) [3, 3, 3, 3, 1, 3, 1, 3, 3, 3, 3, 1, 3, 3, 3, 3, 3, 1, 3, 3, 3, 1, 3, 3, 3, 3, 1, 3, 3, 3] (List.range 30) (by kernel_rfl) (by kernel_rfl) (fun _ _ h => h) trivial ?_; (repeat (first | ((first | refine wpMixH_pure rfl rfl (fun K hK => ?_) | refine wpMixH_loc rfl rfl (fun K hK => ?_) | refine wpMixH_any rfl rfl (fun K hK => ?_)); go_simp; refine hK _ _ ?_; clear hK K) | (refine wpMixH_skip rfl (by go_simp) (fun K hK => ?_); go_simp; refine hK _ _ ?_; clear hK K) | fail)); refine wpMixH_nil (fun n2 => ?_)
  go_wp2
  all_goals
    go_ret
    exact ⟨ret_int HW.out.symm, (by first | exact below_drewNs hb3.out _ | exact below_drewNs (below_drewNs hb3.out _) _)⟩
set_option maxRecDepth 100000 in
theorem wrong_stale (h : LookW B w b s n m tv) (hs : StBd s n) (hn : n ≤ 1152921504606846976) {t : Nat} {ad wd er : Int} {ow : Bool} (ht : t < 8) (hhow : (s.th t).how = 1) (he : EvWf ⟨t, 7, ad, wd, ow, er⟩) (hf : fmd ⟨t, 7, ad, wd, ow, er⟩ = true) :
    Calls Try.prog 56 #[.pointer (some ⟨b, 0, none⟩), evV ⟨t, 7, ad, wd, ow, er⟩] w fun x w' => x = .returned (.int .i64 (wrong s ⟨t, 7, ad, wd, ow, er⟩)) ∧ Below w.heap.size w w' := by
  have HW : Hid (wrong s ⟨t, 7, ad, wd, ow, er⟩ = 0) := Lib.hid (by
    unfold wrong wrg
    dsimp only
    rw [hf, Int.toNat_natCast, hhow]
    simp [tb, lockK, wordOk, ownOk, hhow])
  have C1 := Lib.hid (fun W => formed_b ⟨t, 7, ad, wd, ow, er⟩ W he.2.2.2.1.1 he.2.2.2.1.2)
  rw [hf] at C1
  have hb1 := Lib.hid ((Below.refl w.heap.size w).alloc (Nat.le_refl _) (.cells #[.int .i64 t, .int .i64 7, .int .u64 ad, .int .u64 wd, .bool ow, .int .i64 er] 27))
  have hB := Lib.hid (h.blk.alloc (.cells #[.int .i64 t, .int .i64 7, .int .u64 ad, .int .u64 wd, .bool ow, .int .i64 er] 27))
  have hE := Lib.hid (Blk.new w 27 #[.int .i64 t, .int .i64 7, .int .u64 ad, .int .u64 wd, .bool ow, .int .i64 er])
  have g0 := gL_tb (s := s) (m := m) (tv := tv) (h := 1) (k := 7) (by decide) (by decide)
  have g1 := gL_how (s := s) (m := m) (tv := tv) ht
  rw [hhow] at g1
  rw [show tb 1 ((7 : Nat) : Int) = 1 from by decide] at g0
  unfold evV at *
  dsimp only at *
  clear hf he
  clear hn
  go_enter Try.func56, Try.ntmps56
  go_wp2_with fail
  refine (C1.out _).mono ?_
  rintro _ w2 ⟨rfl, hb2⟩
  have hB2 := hB.out.below hb2 hB.out.lt
  have hE2 := hE.out.below hb2 hE.out.lt
  have hb3 := Lib.hid (hb1.out.trans (hb2.mono (by simp)))
  have c0 := (hB2.fcell (i := 52 + t * 4) (by omega)).trans (congrArg some g1)
  have c1 := (hB2.fcell (i := 20) (by omega)).trans (congrArg some g0)
  have e0 := hE2.cell 0
  have e1 := hE2.cell 1
  have e2 := hE2.cell 2
  have e3 := hE2.cell 3
  have e4 := hE2.cell 4
  have e5 := hE2.cell 5
  simp only [List.getElem?_toArray, List.getElem?_cons_zero, List.getElem?_cons_succ] at e0 e1 e2 e3 e4 e5
  have ht' : (t : Int) < 8 := by omega
  clear hb2 hB2 hE2 hB hE g0 g1 hb1 h hs hhow
  go_wp2
  refine wp_region_mixH (fun _ => True) [3, 3, 1, 3, 3, 3, 3] (List.range 7) (by kernel_rfl) (by kernel_rfl) (fun _ _ h => h) trivial ?_; (repeat (first | ((first | refine wpMixH_pure rfl rfl (fun K hK => ?_) | refine wpMixH_loc rfl rfl (fun K hK => ?_) | refine wpMixH_any rfl rfl (fun K hK => ?_)); go_simp; refine hK _ _ ?_; clear hK K) | (refine wpMixH_skip rfl (by go_simp) (fun K hK => ?_); go_simp; refine hK _ _ ?_; clear hK K) | fail)); refine wpMixH_nil (fun n1 => ?_)
  go_wp2
  refine wp_region_mixH (fun _ => True) [3, 3, 3, 3, 1, 3, 1, 3, 3, 3, 3, 1, 3, 3, 3, 3, 3, 1, 3, 3, 3, 1, 3, 3, 3, 3, 1, 3, 3, 3] (List.range 30) (by kernel_rfl) (by kernel_rfl) (fun _ _ h => h) trivial ?_; (repeat (first | ((first | refine wpMixH_pure rfl rfl (fun K hK => ?_) | refine wpMixH_loc rfl rfl (fun K hK => ?_) | refine wpMixH_any rfl rfl (fun K hK => ?_)); go_simp; refine hK _ _ ?_; clear hK K) | (refine wpMixH_skip rfl (by go_simp) (fun K hK => ?_); go_simp; refine hK _ _ ?_; clear hK K) | fail)); refine wpMixH_nil (fun n2 => ?_)
  go_wp2
  all_goals
    go_ret
    exact ⟨ret_int HW.out.symm, (by first | exact below_drewNs hb3.out _ | exact below_drewNs (below_drewNs hb3.out _) _)⟩
set_option maxRecDepth 100000 in
theorem wrong_abort (h : LookW B w b s n m tv) (hs : StBd s n) (hn : n ≤ 1152921504606846976) {t : Nat} {ad wd er : Int} {ow : Bool} (ht : t < 8) (hhow : (s.th t).how = 1) (he : EvWf ⟨t, 8, ad, wd, ow, er⟩) (hf : fmd ⟨t, 8, ad, wd, ow, er⟩ = true) :
    Calls Try.prog 56 #[.pointer (some ⟨b, 0, none⟩), evV ⟨t, 8, ad, wd, ow, er⟩] w fun x w' => x = .returned (.int .i64 (wrong s ⟨t, 8, ad, wd, ow, er⟩)) ∧ Below w.heap.size w w' := by
  have HW : Hid (wrong s ⟨t, 8, ad, wd, ow, er⟩ = 0) := Lib.hid (by
    unfold wrong wrg
    dsimp only
    rw [hf, Int.toNat_natCast, hhow]
    simp [tb, lockK, wordOk, ownOk, hhow])
  have C1 := Lib.hid (fun W => formed_b ⟨t, 8, ad, wd, ow, er⟩ W he.2.2.2.1.1 he.2.2.2.1.2)
  rw [hf] at C1
  have hb1 := Lib.hid ((Below.refl w.heap.size w).alloc (Nat.le_refl _) (.cells #[.int .i64 t, .int .i64 8, .int .u64 ad, .int .u64 wd, .bool ow, .int .i64 er] 27))
  have hB := Lib.hid (h.blk.alloc (.cells #[.int .i64 t, .int .i64 8, .int .u64 ad, .int .u64 wd, .bool ow, .int .i64 er] 27))
  have hE := Lib.hid (Blk.new w 27 #[.int .i64 t, .int .i64 8, .int .u64 ad, .int .u64 wd, .bool ow, .int .i64 er])
  have g0 := gL_tb (s := s) (m := m) (tv := tv) (h := 1) (k := 8) (by decide) (by decide)
  have g1 := gL_how (s := s) (m := m) (tv := tv) ht
  rw [hhow] at g1
  rw [show tb 1 ((8 : Nat) : Int) = 1 from by decide] at g0
  unfold evV at *
  dsimp only at *
  clear hf he
  clear hn
  go_enter Try.func56, Try.ntmps56
  go_wp2_with fail
  refine (C1.out _).mono ?_
  rintro _ w2 ⟨rfl, hb2⟩
  have hB2 := hB.out.below hb2 hB.out.lt
  have hE2 := hE.out.below hb2 hE.out.lt
  have hb3 := Lib.hid (hb1.out.trans (hb2.mono (by simp)))
  have c0 := (hB2.fcell (i := 52 + t * 4) (by omega)).trans (congrArg some g1)
  have c1 := (hB2.fcell (i := 21) (by omega)).trans (congrArg some g0)
  have e0 := hE2.cell 0
  have e1 := hE2.cell 1
  have e2 := hE2.cell 2
  have e3 := hE2.cell 3
  have e4 := hE2.cell 4
  have e5 := hE2.cell 5
  simp only [List.getElem?_toArray, List.getElem?_cons_zero, List.getElem?_cons_succ] at e0 e1 e2 e3 e4 e5
  have ht' : (t : Int) < 8 := by omega
  clear hb2 hB2 hE2 hB hE g0 g1 hb1 h hs hhow
  go_wp2
  refine wp_region_mixH (fun _ => True) [3, 3, 1, 3, 3, 3, 3] (List.range 7) (by kernel_rfl) (by kernel_rfl) (fun _ _ h => h) trivial ?_; (repeat (first | ((first | refine wpMixH_pure rfl rfl (fun K hK => ?_) | refine wpMixH_loc rfl rfl (fun K hK => ?_) | refine wpMixH_any rfl rfl (fun K hK => ?_)); go_simp; refine hK _ _ ?_; clear hK K) | (refine wpMixH_skip rfl (by go_simp) (fun K hK => ?_); go_simp; refine hK _ _ ?_; clear hK K) | fail)); refine wpMixH_nil (fun n1 => ?_)
  go_wp2
  refine wp_region_mixH (fun _ => True) [3, 3, 3, 3, 1, 3, 1, 3, 3, 3, 3, 1, 3, 3, 3, 3, 3, 1, 3, 3, 3, 1, 3, 3, 3, 3, 1, 3, 3, 3] (List.range 30) (by kernel_rfl) (by kernel_rfl) (fun _ _ h => h) trivial ?_; (repeat (first | ((first | refine wpMixH_pure rfl rfl (fun K hK => ?_) | refine wpMixH_loc rfl rfl (fun K hK => ?_) | refine wpMixH_any rfl rfl (fun K hK => ?_)); go_simp; refine hK _ _ ?_; clear hK K) | (refine wpMixH_skip rfl (by go_simp) (fun K hK => ?_); go_simp; refine hK _ _ ?_; clear hK K) | fail)); refine wpMixH_nil (fun n2 => ?_)
  go_wp2
  all_goals
    go_ret
    exact ⟨ret_int HW.out.symm, (by first | exact below_drewNs hb3.out _ | exact below_drewNs (below_drewNs hb3.out _) _)⟩
set_option maxRecDepth 100000 in
theorem wrong_fail1 (h : LookW B w b s n m tv) (hs : StBd s n) (hn : n ≤ 1152921504606846976) {t : Nat} {ad wd er : Int} {ow : Bool} (ht : t < 8) (hhow : (s.th t).how = 1) (he : EvWf ⟨t, 9, ad, wd, ow, er⟩) (hf : fmd ⟨t, 9, ad, wd, ow, er⟩ = true) :
    Calls Try.prog 56 #[.pointer (some ⟨b, 0, none⟩), evV ⟨t, 9, ad, wd, ow, er⟩] w fun x w' => x = .returned (.int .i64 (wrong s ⟨t, 9, ad, wd, ow, er⟩)) ∧ Below w.heap.size w w' := by
  have HW : Hid (wrong s ⟨t, 9, ad, wd, ow, er⟩ = 0) := Lib.hid (by
    unfold wrong wrg
    dsimp only
    rw [hf, Int.toNat_natCast, hhow]
    simp [tb, lockK, wordOk, ownOk, hhow])
  have C1 := Lib.hid (fun W => formed_b ⟨t, 9, ad, wd, ow, er⟩ W he.2.2.2.1.1 he.2.2.2.1.2)
  rw [hf] at C1
  have hb1 := Lib.hid ((Below.refl w.heap.size w).alloc (Nat.le_refl _) (.cells #[.int .i64 t, .int .i64 9, .int .u64 ad, .int .u64 wd, .bool ow, .int .i64 er] 27))
  have hB := Lib.hid (h.blk.alloc (.cells #[.int .i64 t, .int .i64 9, .int .u64 ad, .int .u64 wd, .bool ow, .int .i64 er] 27))
  have hE := Lib.hid (Blk.new w 27 #[.int .i64 t, .int .i64 9, .int .u64 ad, .int .u64 wd, .bool ow, .int .i64 er])
  have g0 := gL_tb (s := s) (m := m) (tv := tv) (h := 1) (k := 9) (by decide) (by decide)
  have g1 := gL_how (s := s) (m := m) (tv := tv) ht
  rw [hhow] at g1
  rw [show tb 1 ((9 : Nat) : Int) = 4 from by decide] at g0
  unfold evV at *
  dsimp only at *
  clear hf he
  clear hn
  go_enter Try.func56, Try.ntmps56
  go_wp2_with fail
  refine (C1.out _).mono ?_
  rintro _ w2 ⟨rfl, hb2⟩
  have hB2 := hB.out.below hb2 hB.out.lt
  have hE2 := hE.out.below hb2 hE.out.lt
  have hb3 := Lib.hid (hb1.out.trans (hb2.mono (by simp)))
  have c0 := (hB2.fcell (i := 52 + t * 4) (by omega)).trans (congrArg some g1)
  have c1 := (hB2.fcell (i := 22) (by omega)).trans (congrArg some g0)
  have e0 := hE2.cell 0
  have e1 := hE2.cell 1
  have e2 := hE2.cell 2
  have e3 := hE2.cell 3
  have e4 := hE2.cell 4
  have e5 := hE2.cell 5
  simp only [List.getElem?_toArray, List.getElem?_cons_zero, List.getElem?_cons_succ] at e0 e1 e2 e3 e4 e5
  have ht' : (t : Int) < 8 := by omega
  clear hb2 hB2 hE2 hB hE g0 g1 hb1 h hs hhow
  go_wp2
  refine wp_region_mixH (fun _ => True) [3, 3, 1, 3, 3, 3, 3] (List.range 7) (by kernel_rfl) (by kernel_rfl) (fun _ _ h => h) trivial ?_; (repeat (first | ((first | refine wpMixH_pure rfl rfl (fun K hK => ?_) | refine wpMixH_loc rfl rfl (fun K hK => ?_) | refine wpMixH_any rfl rfl (fun K hK => ?_)); go_simp; refine hK _ _ ?_; clear hK K) | (refine wpMixH_skip rfl (by go_simp) (fun K hK => ?_); go_simp; refine hK _ _ ?_; clear hK K) | fail)); refine wpMixH_nil (fun n1 => ?_)
  go_wp2
  refine wp_region_mixH (fun _ => True) [3, 3, 3, 3, 1, 3, 1, 3, 3, 3, 3, 1, 3, 3, 3, 3, 3, 1, 3, 3, 3, 1, 3, 3, 3, 3, 1, 3, 3, 3] (List.range 30) (by kernel_rfl) (by kernel_rfl) (fun _ _ h => h) trivial ?_; (repeat (first | ((first | refine wpMixH_pure rfl rfl (fun K hK => ?_) | refine wpMixH_loc rfl rfl (fun K hK => ?_) | refine wpMixH_any rfl rfl (fun K hK => ?_)); go_simp; refine hK _ _ ?_; clear hK K) | (refine wpMixH_skip rfl (by go_simp) (fun K hK => ?_); go_simp; refine hK _ _ ?_; clear hK K) | fail)); refine wpMixH_nil (fun n2 => ?_)
  go_wp2
  all_goals
    go_ret
    exact ⟨ret_int HW.out.symm, (by first | exact below_drewNs hb3.out _ | exact below_drewNs (below_drewNs hb3.out _) _)⟩
set_option maxRecDepth 100000 in
theorem wrong_loaded (h : LookW B w b s n m tv) (hs : StBd s n) (hn : n ≤ 1152921504606846976) {t : Nat} {ad wd er : Int} {ow : Bool} (ht : t < 8) (hhow : (s.th t).how = 0) (he : EvWf ⟨t, 10, ad, wd, ow, er⟩) (hf : fmd ⟨t, 10, ad, wd, ow, er⟩ = true) :
    Calls Try.prog 56 #[.pointer (some ⟨b, 0, none⟩), evV ⟨t, 10, ad, wd, ow, er⟩] w fun x w' => x = .returned (.int .i64 (wrong s ⟨t, 10, ad, wd, ow, er⟩)) ∧ Below w.heap.size w w' := by
  have HW : Hid (wrong s ⟨t, 10, ad, wd, ow, er⟩ = 0) := Lib.hid (by
    unfold wrong wrg
    dsimp only
    rw [hf, Int.toNat_natCast, hhow]
    simp [tb, lockK, wordOk, ownOk, hhow])
  have C1 := Lib.hid (fun W => formed_b ⟨t, 10, ad, wd, ow, er⟩ W he.2.2.2.1.1 he.2.2.2.1.2)
  rw [hf] at C1
  have hb1 := Lib.hid ((Below.refl w.heap.size w).alloc (Nat.le_refl _) (.cells #[.int .i64 t, .int .i64 10, .int .u64 ad, .int .u64 wd, .bool ow, .int .i64 er] 27))
  have hB := Lib.hid (h.blk.alloc (.cells #[.int .i64 t, .int .i64 10, .int .u64 ad, .int .u64 wd, .bool ow, .int .i64 er] 27))
  have hE := Lib.hid (Blk.new w 27 #[.int .i64 t, .int .i64 10, .int .u64 ad, .int .u64 wd, .bool ow, .int .i64 er])
  have g0 := gL_tb (s := s) (m := m) (tv := tv) (h := 0) (k := 10) (by decide) (by decide)
  have g1 := gL_how (s := s) (m := m) (tv := tv) ht
  rw [hhow] at g1
  rw [show tb 0 ((10 : Nat) : Int) = 1 from by decide] at g0
  unfold evV at *
  dsimp only at *
  clear hf he
  clear hn
  go_enter Try.func56, Try.ntmps56
  go_wp2_with fail
  refine (C1.out _).mono ?_
  rintro _ w2 ⟨rfl, hb2⟩
  have hB2 := hB.out.below hb2 hB.out.lt
  have hE2 := hE.out.below hb2 hE.out.lt
  have hb3 := Lib.hid (hb1.out.trans (hb2.mono (by simp)))
  have c0 := (hB2.fcell (i := 52 + t * 4) (by omega)).trans (congrArg some g1)
  have c1 := (hB2.fcell (i := 10) (by omega)).trans (congrArg some g0)
  have e0 := hE2.cell 0
  have e1 := hE2.cell 1
  have e2 := hE2.cell 2
  have e3 := hE2.cell 3
  have e4 := hE2.cell 4
  have e5 := hE2.cell 5
  simp only [List.getElem?_toArray, List.getElem?_cons_zero, List.getElem?_cons_succ] at e0 e1 e2 e3 e4 e5
  have ht' : (t : Int) < 8 := by omega
  clear hb2 hB2 hE2 hB hE g0 g1 hb1 h hs hhow
  go_wp2
  refine wp_region_mixH (fun _ => True) [3, 3, 1, 3, 3, 3, 3] (List.range 7) (by kernel_rfl) (by kernel_rfl) (fun _ _ h => h) trivial ?_; (repeat (first | ((first | refine wpMixH_pure rfl rfl (fun K hK => ?_) | refine wpMixH_loc rfl rfl (fun K hK => ?_) | refine wpMixH_any rfl rfl (fun K hK => ?_)); go_simp; refine hK _ _ ?_; clear hK K) | (refine wpMixH_skip rfl (by go_simp) (fun K hK => ?_); go_simp; refine hK _ _ ?_; clear hK K) | fail)); refine wpMixH_nil (fun n1 => ?_)
  go_wp2
  refine wp_region_mixH (fun _ => True) [3, 3, 3, 3, 1, 3, 1, 3, 3, 3, 3, 1, 3, 3, 3, 3, 3, 1, 3, 3, 3, 1, 3, 3, 3, 3, 1, 3, 3, 3] (List.range 30) (by kernel_rfl) (by kernel_rfl) (fun _ _ h => h) trivial ?_; (repeat (first | ((first | refine wpMixH_pure rfl rfl (fun K hK => ?_) | refine wpMixH_loc rfl rfl (fun K hK => ?_) | refine wpMixH_any rfl rfl (fun K hK => ?_)); go_simp; refine hK _ _ ?_; clear hK K) | (refine wpMixH_skip rfl (by go_simp) (fun K hK => ?_); go_simp; refine hK _ _ ?_; clear hK K) | fail)); refine wpMixH_nil (fun n2 => ?_)
  go_wp2
  all_goals
    go_ret
    exact ⟨ret_int HW.out.symm, (by first | exact below_drewNs hb3.out _ | exact below_drewNs (below_drewNs hb3.out _) _)⟩
end
end Go.Proofs.Yteoebfjhadmnbaa
