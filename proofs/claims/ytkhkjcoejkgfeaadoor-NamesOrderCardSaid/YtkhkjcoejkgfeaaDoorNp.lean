/-
  Walks: order, Less.
  Conditions: none beyond those typed at each theorem.
-/
import Derived.Test.YtkhkjcoejkgfeaaDoorNo
namespace Go.Proofs.YtkhkjcoejkgfeaaDoor
open Go Go.RowKit

def ordI (x y : Idn) : Int := orI (cmpI x.seq y.seq) (cmpI x.kind y.kind) (cmpI x.fmt y.fmt)

set_option maxRecDepth 100000 in
set_option maxHeartbeats 4000000 in
theorem order_any (x y : Idn) (w : World) : Calls Tryd.prog 22 #[idV x, idV y] w fun e w' => e = .returned (.int .i64 (ordI x y)) ∧ Gr w w' := by
  obtain ⟨k, s, f⟩ := x
  obtain ⟨k', s', f'⟩ := y
  show Calls Tryd.prog 22 #[.agg #[.int .u8 k, .int .i64 s, .int .i64 f], .agg #[.int .u8 k', .int .i64 s', .int .i64 f']] w fun e w' => e = .returned (.int .i64 (orI (cmpI s s') (cmpI k k') (cmpI f f'))) ∧ Gr w w'
  obtain ⟨W1, hW1⟩ : ∃ W1, (w.alloc (.cells #[.int .u8 k, .int .i64 s, .int .i64 f] 23)).alloc (.cells #[.int .u8 k', .int .i64 s', .int .i64 f'] 23) = W1 := ⟨_, rfl⟩
  have g1 : Gr w W1 := by rw [← hW1]; exact (Gr.alloc (Gr.refl _) _).alloc _
  have hA : W1.heap[w.heap.size]? = some (.cells #[.int .u8 k, .int .i64 s, .int .i64 f] 23 (0, 0)) := by rw [← hW1]; exact alloc2_heap0 _ _ _
  have hB : W1.heap[w.heap.size + 1]? = some (.cells #[.int .u8 k', .int .i64 s', .int .i64 f'] 23 (0, 0)) := by rw [← hW1]; exact alloc2_heap1 _ _ _
  have C1 := Lib.hid (cmp_any s s')
  have C2 := Lib.hid (cmp8_any k k')
  have C3 := Lib.hid (cmp_any f f')
  generalize cmpI s s' = p at *
  generalize cmpI k k' = q at *
  generalize cmpI f f' = r at *
  have OR := Lib.hid (or_any p q r)
  generalize orI p q r = res at *
  have HW1 := Lib.hid hW1
  have HG1 := Lib.hid g1
  have HK0 := Lib.hid (show Gr W1 W1.drew ∧ W1.drew.heap[w.heap.size]? = some (.cells #[.int .u8 k, .int .i64 s, .int .i64 f] 23 (0, 0)) ∧ W1.drew.heap[w.heap.size + 1]? = some (.cells #[.int .u8 k', .int .i64 s', .int .i64 f'] 23 (0, 0)) from ⟨(Gr.refl W1).drew, hA, hB⟩)
  clear g1 hW1 hA hB
  go_enter Tryd.func22, Tryd.ntmps22
  go_wp2_with fail
  rw [HW1.out]
  have c0 : W1.cell? ⟨w.heap.size, 0, none⟩ = some (.int .u8 k) := cell_block HK0.out.2.1 (j := 0) rfl
  have c1 : W1.cell? ⟨w.heap.size, 1, none⟩ = some (.int .i64 s) := cell_block HK0.out.2.1 (j := 1) rfl
  have c2 : W1.cell? ⟨w.heap.size, 2, none⟩ = some (.int .i64 f) := cell_block HK0.out.2.1 (j := 2) rfl
  have d0 : W1.cell? ⟨w.heap.size + 1, 0, none⟩ = some (.int .u8 k') := cell_block HK0.out.2.2 (j := 0) rfl
  have d1 : W1.cell? ⟨w.heap.size + 1, 1, none⟩ = some (.int .i64 s') := cell_block HK0.out.2.2 (j := 1) rfl
  have d2 : W1.cell? ⟨w.heap.size + 1, 2, none⟩ = some (.int .i64 f') := cell_block HK0.out.2.2 (j := 2) rfl
  have HC := Lib.hid (show ∀ X, Gr W1 X → X.cell? ⟨w.heap.size, 0, none⟩ = some (.int .u8 k) ∧ X.cell? ⟨w.heap.size, 1, none⟩ = some (.int .i64 s) ∧ X.cell? ⟨w.heap.size, 2, none⟩ = some (.int .i64 f) ∧ X.cell? ⟨w.heap.size + 1, 0, none⟩ = some (.int .u8 k') ∧ X.cell? ⟨w.heap.size + 1, 1, none⟩ = some (.int .i64 s') ∧ X.cell? ⟨w.heap.size + 1, 2, none⟩ = some (.int .i64 f') from
    fun X hg => ⟨later_cell hg c0, later_cell hg c1, later_cell hg c2, later_cell hg d0, later_cell hg d1, later_cell hg d2⟩)
  have HS0 := Lib.hid (show Gr W1 W1.drew ∧ W1.drew.cell? ⟨w.heap.size, 0, none⟩ = some (.int .u8 k) ∧ W1.drew.cell? ⟨w.heap.size, 1, none⟩ = some (.int .i64 s) ∧ W1.drew.cell? ⟨w.heap.size, 2, none⟩ = some (.int .i64 f) ∧ W1.drew.cell? ⟨w.heap.size + 1, 0, none⟩ = some (.int .u8 k') ∧ W1.drew.cell? ⟨w.heap.size + 1, 1, none⟩ = some (.int .i64 s') ∧ W1.drew.cell? ⟨w.heap.size + 1, 2, none⟩ = some (.int .i64 f') from ⟨(Gr.refl W1).drew, HC.out _ (Gr.refl W1).drew⟩)
  have HK := Lib.hid (show ∀ X Y, (Gr W1 X ∧ X.cell? ⟨w.heap.size, 0, none⟩ = some (.int .u8 k) ∧ X.cell? ⟨w.heap.size, 1, none⟩ = some (.int .i64 s) ∧ X.cell? ⟨w.heap.size, 2, none⟩ = some (.int .i64 f) ∧ X.cell? ⟨w.heap.size + 1, 0, none⟩ = some (.int .u8 k') ∧ X.cell? ⟨w.heap.size + 1, 1, none⟩ = some (.int .i64 s') ∧ X.cell? ⟨w.heap.size + 1, 2, none⟩ = some (.int .i64 f')) → Gr X Y →
      (Gr W1 Y ∧ Y.cell? ⟨w.heap.size, 0, none⟩ = some (.int .u8 k) ∧ Y.cell? ⟨w.heap.size, 1, none⟩ = some (.int .i64 s) ∧ Y.cell? ⟨w.heap.size, 2, none⟩ = some (.int .i64 f) ∧ Y.cell? ⟨w.heap.size + 1, 0, none⟩ = some (.int .u8 k') ∧ Y.cell? ⟨w.heap.size + 1, 1, none⟩ = some (.int .i64 s') ∧ Y.cell? ⟨w.heap.size + 1, 2, none⟩ = some (.int .i64 f')) from
    fun X Y h hg => ⟨h.1.trans hg, HC.out _ (h.1.trans hg)⟩)
  clear c0 c1 c2 d0 d1 d2 HC
  go_region_held3 (fun X => Gr W1 X ∧ X.cell? ⟨w.heap.size, 0, none⟩ = some (.int .u8 k) ∧ X.cell? ⟨w.heap.size, 1, none⟩ = some (.int .i64 s) ∧ X.cell? ⟨w.heap.size, 2, none⟩ = some (.int .i64 f) ∧ X.cell? ⟨w.heap.size + 1, 0, none⟩ = some (.int .u8 k') ∧ X.cell? ⟨w.heap.size + 1, 1, none⟩ = some (.int .i64 s') ∧ X.cell? ⟨w.heap.size + 1, 2, none⟩ = some (.int .i64 f'))
    (first | exact HS0.out | exact HK.out _ _ (by assumption) (by assumption) | exact HK.out _ _ (by assumption) (Gr.refl _) | exact HK.out _ _ (by assumption) (Gr.alloc (Gr.refl _) _))
    (first
      | (go_at_call 28; with_reducible refine (C1.out _).mono ?_; rintro e y1 ⟨rfl, rfl⟩)
      | (go_at_call 28; with_reducible refine (C3.out _).mono ?_; rintro e y1 ⟨rfl, rfl⟩)
      | (go_at_call 29; refine (C2.out _).mono ?_; rintro e y1 ⟨rfl, rfl⟩)
      | (go_at_call 27; refine (OR.out _ _ (by exact cell_block (alloc1_heap _ _) rfl) (by exact cell_block (alloc1_heap _ _) rfl) (by exact cell_block (alloc1_heap _ _) rfl)).mono ?_; rintro e y1 ⟨rfl, rfl⟩))
  all_goals
    go_wp2
    go_ret
    exact ⟨rfl, HG1.out.trans ((by assumption : Gr W1 _ ∧ _).1)⟩
theorem less_any (x y : Idn) (w : World) : Calls Tryd.prog 14 #[idV x, idV y] w fun e w' => e = .returned (.bool (decide (ordI x y < 0))) ∧ Gr w w' := by
  have HO := Lib.hid (fun X => order_any x y X)
  generalize ordI x y = r at *
  go_enter Tryd.func14, Tryd.ntmps14
  go_wp2_with fail
  refine (HO.out _).mono ?_
  rintro e w1 ⟨rfl, hg⟩
  have HG := Lib.hid (((Gr.refl w).alloc (.cells #[.int .u8 x.kind, .int .i64 x.seq, .int .i64 x.fmt] 23)).alloc (.cells #[.int .u8 y.kind, .int .i64 y.seq, .int .i64 y.fmt] 23) |>.trans hg)
  clear hg
  go_wp2
  go_ret
  exact ⟨rfl, HG.out⟩
end Go.Proofs.YtkhkjcoejkgfeaaDoor
