/-
  Walks: the document's Of.
-/
import Derived.Test.YtofnoillkfagiaaFs
namespace Go.Proofs.Ytofnoillkfagiaa
open Go Go.RowKit

set_option maxRecDepth 100000 in
set_option maxHeartbeats 1000000 in
theorem dof_any (w : World) (p q r s : Nat) (hp : p < 256) (hq : q < 256) (hr : r < 256) (hs : s < 256) :
    Calls Try.prog 10 #[.agg #[.int .u8 p, .int .u8 q, .int .u8 r, .int .u8 s]] w fun e w' => e = .returned (ofV (p * 256 + q) (r * 256 + s)) ∧ Gr w w' := by
  obtain ⟨W1, hW1⟩ : ∃ W1, w.alloc (.cells #[.int .u8 p, .int .u8 q, .int .u8 r, .int .u8 s] 23) = W1 := ⟨_, rfl⟩
  have g1 : Gr w W1 := by rw [← hW1]; exact Gr.alloc (Gr.refl _) _
  have hB : W1.heap[w.heap.size]? = some (.cells #[.int .u8 p, .int .u8 q, .int .u8 r, .int .u8 s] 23 (0, 0)) := by rw [← hW1]; exact alloc1_heap _ _
  have c0 := cell_block hB (j := 0) (v := .int .u8 p) rfl
  have c1 := cell_block hB (j := 1) (v := .int .u8 q) rfl
  have c2 := cell_block hB (j := 2) (v := .int .u8 r) rfl
  have c3 := cell_block hB (j := 3) (v := .int .u8 s) rfl
  have hb1 := bits_or_part hp hq
  have hb2 := bits_or_part hr hs
  rw [show ((p * 256 : Nat) : Int) = (p : Int) * 256 by omega] at hb1
  rw [show ((r * 256 : Nat) : Int) = (r : Int) * 256 by omega] at hb2
  obtain ⟨x, hx⟩ : ∃ x, p * 256 + q = x := ⟨_, rfl⟩
  obtain ⟨y, hy⟩ : ∃ y, r * 256 + s = y := ⟨_, rfl⟩
  rw [hx] at hb1
  rw [hy] at hb2
  have HB1 := Lib.hid hb1
  have HB2 := Lib.hid hb2
  have HW1 := Lib.hid hW1
  have HG1 := Lib.hid g1
  rw [hx, hy]
  clear hb1 hb2 hW1 g1 hB hx hy
  have hv : ((x ≤ 10006 ∧ y ≤ 10006) ∧ ofV x y = .tuple #[.complex .f64 (floatOfInt .f64 (x : Int)) (floatOfInt .f64 (y : Int)), .int .i64 0]) ∨ (10006 < x ∧ ofV x y = .tuple #[.complex .f64 0 0, .int .i64 11]) ∨ ((x ≤ 10006 ∧ 10006 < y) ∧ ofV x y = .tuple #[.complex .f64 0 0, .int .i64 11]) := by
    by_cases h : x ≤ 10006 ∧ y ≤ 10006
    · exact .inl ⟨h, if_pos h⟩
    · by_cases h1 : 10006 < x
      · exact .inr (.inl ⟨h1, if_neg h⟩)
      · exact .inr (.inr ⟨by omega, if_neg h⟩)
  generalize ofV x y = res at *
  go_enter Try.func10, Try.ntmps10
  go_wp2_with fail
  rw [HW1.out]
  go_quiet (fail)
  rw [HB1.out, HB2.out]
  rcases hv with ⟨⟨h1, h2⟩, rfl⟩ | ⟨h1, rfl⟩ | ⟨⟨h1, h2⟩, rfl⟩
  all_goals
    go_wp2
    go_ret2
    exact ⟨rfl, HG1.out.drewN _⟩
end Go.Proofs.Ytofnoillkfagiaa
