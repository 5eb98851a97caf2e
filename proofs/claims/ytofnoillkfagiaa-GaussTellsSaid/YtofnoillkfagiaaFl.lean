/-
  Walks: the law of points' bytes.
-/
import Derived.Test.YtofnoillkfagiaaFk
import Derived.Deep.RegionHeld3
namespace Go.Proofs.Ytofnoillkfagiaa
open Go Go.RowKit
attribute [local go_sem ↓] eql23

set_option maxRecDepth 100000 in
set_option maxHeartbeats 1000000 in
theorem gaussBytes_law (w : World) (p q r s : Nat) (hp : p < 256) (hq : q < 256) (hr : r < 256) (hs : s < 256) :
    Calls Try.prog 6 #[.agg #[.int .u8 p, .int .u8 q, .int .u8 r, .int .u8 s]] w fun e w' => e = .returned (.bool true) ∧ Gr w w' := by
  obtain ⟨W1, hW1⟩ : ∃ W1, w.alloc (.cells #[.int .u8 p, .int .u8 q, .int .u8 r, .int .u8 s] 23) = W1 := ⟨_, rfl⟩
  have g1 : Gr w W1 := by rw [← hW1]; exact Gr.alloc (Gr.refl _) _
  have hB : W1.heap[w.heap.size]? = some (.cells #[.int .u8 p, .int .u8 q, .int .u8 r, .int .u8 s] 23 (0, 0)) := by rw [← hW1]; exact alloc1_heap _ _
  have HWK := Lib.hid (fun W => wakes_any W)
  have HB := Lib.hid hB
  have HG1 := Lib.hid g1
  have HW1 := Lib.hid hW1
  have HOF := Lib.hid (of_any W1 p q r s hp hq hr hs)
  clear g1 hB hW1
  obtain ⟨x, hx⟩ : ∃ x, p * 256 + q = x := ⟨_, rfl⟩
  obtain ⟨y, hy⟩ : ∃ y, r * 256 + s = y := ⟨_, rfl⟩
  rw [hx, hy] at HOF
  have hxi : (p : Int) * 256 + q = x := by omega
  have hyi : (r : Int) * 256 + s = y := by omega
  by_cases hok : x ≤ 10006 ∧ y ≤ 10006
  · obtain ⟨ok1, ok2⟩ := hok
    have hv : ofV x y = .tuple #[.complex .f64 (N (x : Int)) (N (y : Int)), .int .i64 0] := if_pos ⟨ok1, ok2⟩
    rw [hv] at HOF
    have hrr := fun X => right_any (N (x : Int)) (N (y : Int)) x y (W.of _) (W.of _) (by omega) (by omega) X
    rw [okPart_true (z := (x : Int)) (by omega) (by omega), okPart_true (z := (y : Int)) (by omega) (by omega)] at hrr
    have HR := Lib.hid (show ∀ X, Calls Try.prog 11 #[.complex .f64 (N (x : Int)) (N (y : Int))] X (fun e w' => e = .returned (.bool (true && true)) ∧ Gr X w') from fun X => (hrr X).mono fun e w' h => ⟨h.1, by rw [h.2]; exact Gr.refl _⟩)
    clear hrr
    have hpb := fun X => pbytes_any (N (x : Int)) (N (y : Int)) x y (W.of _) (W.of _) ok1 ok2 X
    rw [show x / 256 = p by omega, show x % 256 = q by omega, show y / 256 = r by omega, show y % 256 = s by omega] at hpb
    have HPB := Lib.hid hpb
    have e1 := eq_W (W.of (x : Int)) (W.of (x : Int)) (by omega) (by omega)
    have e2 := eq_W (W.of (y : Int)) (W.of (y : Int)) (by omega) (by omega)
    rw [decide_eq_true rfl] at e1 e2
    have f1 : floatOfInt .f64 (x : Int) = N x := rfl
    have f2 : floatOfInt .f64 (y : Int) = N y := rfl
    clear hpb hv
    generalize N (x : Int) = nx at *
    generalize N (y : Int) = ny at *
    go_enter Try.func6, Try.ntmps6
    go_wp2_with fail
    rw [HW1.out]
    refine HOF.out.mono ?_
    rintro e w2 ⟨rfl, hg2⟩
    have hb2 := hg2.same HB.out
    have c0 := cell_block hb2 (j := 0) (v := .int .u8 p) rfl
    have c1 := cell_block hb2 (j := 1) (v := .int .u8 q) rfl
    have c2 := cell_block hb2 (j := 2) (v := .int .u8 r) rfl
    have c3 := cell_block hb2 (j := 3) (v := .int .u8 s) rfl
    have HB2 := Lib.hid hb2
    have HG2 := Lib.hid (HG1.out.trans hg2)
    clear hg2 hb2 hx hy
    go_wp2_with fail
    go_quiet (fail)
    obtain ⟨w3, hw3⟩ : ∃ w3, w2.drewN nq = w3 := ⟨_, rfl⟩
    have g23 : Gr w2 w3 := by rw [← hw3]; exact (Gr.refl w2).drewN _
    have HK0 := Lib.hid (show Gr w2 w3.drew ∧ w3.drew.cell? ⟨w.heap.size, 0, none⟩ = some (.int .u8 p) ∧ w3.drew.cell? ⟨w.heap.size, 1, none⟩ = some (.int .u8 q) ∧ w3.drew.cell? ⟨w.heap.size, 2, none⟩ = some (.int .u8 r) ∧ w3.drew.cell? ⟨w.heap.size, 3, none⟩ = some (.int .u8 s) from
      ⟨g23.drew, later_cell g23.drew c0, later_cell g23.drew c1, later_cell g23.drew c2, later_cell g23.drew c3⟩)
    have HK := Lib.hid (show ∀ X Y, (Gr w2 X ∧ X.cell? ⟨w.heap.size, 0, none⟩ = some (.int .u8 p) ∧ X.cell? ⟨w.heap.size, 1, none⟩ = some (.int .u8 q) ∧ X.cell? ⟨w.heap.size, 2, none⟩ = some (.int .u8 r) ∧ X.cell? ⟨w.heap.size, 3, none⟩ = some (.int .u8 s)) → Gr X Y →
        (Gr w2 Y ∧ Y.cell? ⟨w.heap.size, 0, none⟩ = some (.int .u8 p) ∧ Y.cell? ⟨w.heap.size, 1, none⟩ = some (.int .u8 q) ∧ Y.cell? ⟨w.heap.size, 2, none⟩ = some (.int .u8 r) ∧ Y.cell? ⟨w.heap.size, 3, none⟩ = some (.int .u8 s)) from
      fun X Y h hg => ⟨h.1.trans hg, later_cell hg h.2.1, later_cell hg h.2.2.1, later_cell hg h.2.2.2.1, later_cell hg h.2.2.2.2⟩)
    rw [hw3]
    clear hw3 g23 c0 c1 c2 c3
    go_wp2_with fail
    go_region_held3 (fun X => Gr w2 X ∧ X.cell? ⟨w.heap.size, 0, none⟩ = some (.int .u8 p) ∧ X.cell? ⟨w.heap.size, 1, none⟩ = some (.int .u8 q) ∧ X.cell? ⟨w.heap.size, 2, none⟩ = some (.int .u8 r) ∧ X.cell? ⟨w.heap.size, 3, none⟩ = some (.int .u8 s))
      (first | exact HK0.out | exact HK.out _ _ (by assumption) (by assumption) | exact HK.out _ _ (by assumption) (Gr.refl _))
      (first
        | (go_at_call 11; refine (HR.out _).mono ?_; rintro e y1 ⟨rfl, hgy1⟩)
        | (go_at_call 17; refine (HPB.out _).mono ?_; rintro e y2 ⟨rfl, hgy2⟩)
        | (go_at_call 8; refine (HWK.out _).mono ?_; rintro e y3 ⟨rfl, hgy3⟩))
    all_goals
      go_wp2
      go_ret
      exact ⟨rfl, HG2.out.trans ((by assumption : (Gr w2 _ ∧ _)).1)⟩
  · have hv : ofV x y = .tuple #[.complex .f64 0 0, .int .i64 11] := if_neg hok
    rw [hv] at HOF
    have e0 : FloatKind.f64.format.order 0 0 = some .eq := by kernel_rfl
    have hb : ¬ (x : Int) ≤ 10006 ∨ ((x : Int) ≤ 10006 ∧ ¬ (y : Int) ≤ 10006) := by omega
    clear hv
    go_enter Try.func6, Try.ntmps6
    go_wp2_with fail
    rw [HW1.out]
    refine HOF.out.mono ?_
    rintro e w2 ⟨rfl, hg2⟩
    have hb2 := hg2.same HB.out
    have c0 := cell_block hb2 (j := 0) (v := .int .u8 p) rfl
    have c1 := cell_block hb2 (j := 1) (v := .int .u8 q) rfl
    have c2 := cell_block hb2 (j := 2) (v := .int .u8 r) rfl
    have c3 := cell_block hb2 (j := 3) (v := .int .u8 s) rfl
    have HG2 := Lib.hid (HG1.out.trans hg2)
    clear hg2 hb2 hx hy hok
    go_wp2_with fail
    go_quiet (fail)
    have HG3 := Lib.hid (HG2.out.drewN nq)
    rcases hb with hb | ⟨hb1, hb⟩
    · have hq1 : (10006 : Int) < x := by omega
      go_wp2_with fail
      refine (HWK.out _).mono ?_
      rintro e w3 ⟨rfl, hg3⟩
      go_wp2
      go_ret
      exact ⟨rfl, HG3.out.trans hg3⟩
    · have hq1 : (10006 : Int) < y := by omega
      have hq2 : ¬ (10006 : Int) < x := by omega
      go_wp2_with fail
      refine (HWK.out _).mono ?_
      rintro e w3 ⟨rfl, hg3⟩
      go_wp2
      go_ret
      exact ⟨rfl, HG3.out.trans hg3⟩
end Go.Proofs.Ytofnoillkfagiaa
