/-
  Walk: a disk in memory of its own.
  Conditions: none beyond those typed at each theorem.
-/
import Derived.Test.YtbgcjbpkgijmeaaDp
namespace Go.Proofs.Ytbgcjbpkgijmeaa
open Go Go.RowKit Go.Maps

theorem row5_filled {w : World} {b : Nat} {x0 x1 x2 x3 x4 : Value} {t : TypeId} (hb : w.heap[b]? = some (.cells #[x0, x1, x2, x3, x4] t (0, 0))) (y0 y1 y2 y3 y4 : Value) :
    (((((w.setCell ⟨b, 0, none⟩ y0).setCell ⟨b, 1, none⟩ y1).setCell ⟨b, 2, none⟩ y2).setCell ⟨b, 3, none⟩ y3).setCell ⟨b, 4, none⟩ y4).heap[b]? = some (.cells #[y0, y1, y2, y3, y4] t (0, 0)) :=
  setCell_block (setCell_block (setCell_block (setCell_block (setCell_block hb y0) y1) y2) y3) y4
set_option maxRecDepth 100000 in
set_option maxHeartbeats 2000000 in
theorem own_any (w : World) {S : Nat → Prop} (v : Value) (d : Dsk) (hx : IsDsk S w v d) (hc : cnt d ≤ 1000000) (ht : tot d ≤ 1000000000000) :
    Calls Try.prog 24 #[v] w fun e w' => ∃ v', e = .returned v' ∧ OwnDsk w.heap.size w' v' d ∧ Gr w w' := by
  obtain ⟨fv, qv, rfl, hf, hq, hnum⟩ := hx
  obtain ⟨fa, fc, rfl, _, _⟩ := hf.len
  obtain ⟨qa, qc, rfl, _, _⟩ := hq.len
  unfold cnt at hc
  unfold tot at ht
  obtain ⟨W2, hW2⟩ : ∃ W2, (w.alloc (.cells #[.slice fa d.files.length fc, .slice qa d.queue.length qc, .int .i64 d.quota, .int .i64 d.fuse, .bool d.dead] 25)).alloc (.cells #[.slice none 0 0, .slice none 0 0, .int .i64 0, .int .i64 0, .bool false] 25) = W2 := ⟨_, rfl⟩
  have hG : Gr w W2 := by rw [← hW2]; exact (Gr.alloc (Gr.refl w) _).alloc _
  have hB1 : W2.heap[w.heap.size]? = some (.cells #[.slice fa d.files.length fc, .slice qa d.queue.length qc, .int .i64 d.quota, .int .i64 d.fuse, .bool d.dead] 25 (0, 0)) := by rw [← hW2]; exact alloc2_heap0 _ _ _
  have hB2 : W2.heap[w.heap.size + 1]? = some (.cells #[.slice none 0 0, .slice none 0 0, .int .i64 0, .int .i64 0, .bool false] 25 (0, 0)) := by rw [← hW2]; exact alloc2_heap1 _ _ _
  have hs2 : W2.heap.size = w.heap.size + 2 := by rw [← hW2]; simp
  have c0 := cell_block hB1 (j := 0) (v := .slice fa d.files.length fc) rfl
  have c1 := cell_block hB1 (j := 1) (v := .slice qa d.queue.length qc) rfl
  have hG' : Gr w W2.drew := hG.drew
  have HF := Lib.hid (show Calls Try.prog 40 #[.slice fa d.files.length fc, .func (.func 41) #[] #[]] W2.drew fun e w' => ∃ v', e = .returned v' ∧ OwnFls W2.heap.size w' v' d.files ∧ Gr W2.drew w' from
    own40_any W2.drew _ d.files (hf.gr hG') (by omega) (fun x hx => by have := sizeL_mem hx; omega))
  have HQ := Lib.hid (show ∀ X, Gr W2.drew X → Calls Try.prog 42 #[.slice qa d.queue.length qc, .func (.func 28) #[] #[]] X fun e w' => ∃ v', e = .returned v' ∧ OwnOps X.heap.size w' v' d.queue ∧ Gr X w' from
    fun X hX => own42_any X _ d.queue (hq.gr (hG'.trans hX)) (by omega) (fun x hx => by have := sizeQ_mem hx; omega))
  have HW := Lib.hid hW2
  have HG := Lib.hid hG'
  have HB := Lib.hid (And.intro hB1 hB2)
  have HS2 := Lib.hid hs2
  have HNUM := Lib.hid hnum
  clear hf hq hnum hG hG' hB1 hB2 hW2 hc ht hs2
  show Calls Try.prog 24 #[.agg #[.slice fa d.files.length fc, .slice qa d.queue.length qc, .int .i64 d.quota, .int .i64 d.fuse, .bool d.dead]] w _
  go_enter Try.func24, Try.ntmps24
  go_upto_region 1 with fail
  rw [HW.out]
  go_region_law (first
    | (go_simp; refine HF.out.mono ?_; rintro e w3 ⟨v3, rfl, ho3, hg3⟩; obtain ⟨fa', fc', rfl⟩ := ho3.slice; have d1 := later_cell hg3 (show W2.drew.cell? _ = _ from c1); have HP3 := Lib.hid (And.intro ho3 hg3); clear ho3 hg3)
    | (go_simp; refine (HQ.out _ HP3.out.2).mono ?_; rintro e w4 ⟨v4, rfl, ho4, hg4⟩; obtain ⟨qa', qc', rfl⟩ := ho4.slice
       have hg24 := HP3.out.2.trans hg4
       have b1 := hg24.same (show W2.drew.heap[w.heap.size]? = _ from HB.out.1)
       have b2 := hg24.same (show W2.drew.heap[w.heap.size + 1]? = _ from HB.out.2)
       have e0 := cell_block b1 (j := 0) (v := .slice fa d.files.length fc) rfl
       have e1 := cell_block b1 (j := 1) (v := .slice qa d.queue.length qc) rfl
       have e2 := cell_block b1 (j := 2) (v := .int .i64 d.quota) rfl
       have e3 := cell_block b1 (j := 3) (v := .int .i64 d.fuse) rfl
       have e4 := cell_block b1 (j := 4) (v := .bool d.dead) rfl
       have f0 := frozen_block b1 (j := 0)
       have f1 := frozen_block b1 (j := 1)
       have x0 := cell_block b2 (j := 0) (v := .slice none 0 0) rfl
       have x1 := cell_block b2 (j := 1) (v := .slice none 0 0) rfl
       have x2 := cell_block b2 (j := 2) (v := .int .i64 0) rfl
       have x3 := cell_block b2 (j := 3) (v := .int .i64 0) rfl
       have x4 := cell_block b2 (j := 4) (v := .bool false) rfl
       have y0 := frozen_block b2 (j := 0)
       have y1 := frozen_block b2 (j := 1)
       have y2 := frozen_block b2 (j := 2)
       have y3 := frozen_block b2 (j := 3)
       have y4 := frozen_block b2 (j := 4)
       have HP4 := Lib.hid (And.intro (OwnRow.gr hg4 HP3.out.1) (And.intro ho4 (And.intro (HG.out.trans hg24) (And.intro HP3.out.2.size b2))))
       clear ho4 hg4 hg24 b1 b2))
  all_goals
    go_wp2
    obtain ⟨q1, q2, q3, q4, q5⟩ := HP4.out
    have q4' : W2.heap.size ≤ w3.heap.size := q4
    have hs2 := HS2.out
    have hne : w.heap.size + 1 ≠ w.heap.size := by omega
    refine bodyPost_ret (v := dskV d (.slice fa' d.files.length fc') (.slice qa' d.queue.length qc')) (results_row rfl Try.underlying25 rfl info25 rfl (rowAt_block (row5_filled (heap_set_other (heap_set_other q5 hne) hne) _ _ _ _ _) rfl)) rfl ⟨_, rfl, ⟨_, _, rfl, ?_, ?_, HNUM.out⟩, ?_⟩
    · refine OwnRow.down (show w.heap.size ≤ W2.heap.size by omega) (OwnRow.keep q1 fun q cur e hq hbq _ => ?_)
      rw [setCell_other _ (by omega), setCell_other _ (by omega), setCell_other _ (by omega), setCell_other _ (by omega), setCell_other _ (by omega), setCell_other _ (by omega), setCell_other _ (by omega)]
    · refine OwnRow.down (show w.heap.size ≤ w3.heap.size by omega) (OwnRow.keep q2 fun q cur e hq hbq _ => ?_)
      rw [setCell_other _ (by omega), setCell_other _ (by omega), setCell_other _ (by omega), setCell_other _ (by omega), setCell_other _ (by omega), setCell_other _ (by omega), setCell_other _ (by omega)]
    · exact Gr.set (Gr.set (Gr.set (Gr.set (Gr.set (Gr.set (Gr.set q3 (by simp) _) (by simp) _) (by simp) _) (by simp) _) (by simp) _) (by simp) _) (by simp) _
end Go.Proofs.Ytbgcjbpkgijmeaa
