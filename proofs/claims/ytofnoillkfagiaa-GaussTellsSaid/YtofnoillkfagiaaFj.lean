/-
  Walks: what the document says of two noughts.
-/
import Derived.Test.YtofnoillkfagiaaFi
import Derived.ChangeKeysEq
namespace Go.Proofs.Ytofnoillkfagiaa
open Go Go.RowKit
attribute [local go_sem] Oper.semAt_some

theorem equal23 (w : World) (a b c d x y z u : Int) :
   (Op.equal 23 (.agg #[.int .u8 a, .int .u8 b, .int .u8 c, .int .u8 d]) (.agg #[.int .u8 x, .int .u8 y, .int .u8 z, .int .u8 u])).run Try.prog w = .ok (a == x && (b == y && (c == z && d == u))) w := by
  obtain ⟨i0, hi⟩ : ∃ i, Try.prog.info? 5 = some i := ⟨_, rfl⟩
  unfold Op.equal Op.maxDepth
  rw [run_equalIn_array w 9999 _ _ Try.underlying23 hi]
  have hc : Try.prog.cellsOf 5 = 1 := by kernel_rfl
  rw [hc]
  simp [Op.eqItems, go_sem, List.range_succ]
  (repeat' split) <;> simp_all
theorem eql23 (w : World) (a b c d x y z u : Int) :
   (binOp .eql 23 (.agg #[.int .u8 a, .int .u8 b, .int .u8 c, .int .u8 d]) (.agg #[.int .u8 x, .int .u8 y, .int .u8 z, .int .u8 u])).run Try.prog w = .ok (.bool (a == x && (b == y && (c == z && d == u)))) w := by
  simp only [binOp]; simp [equal23]
attribute [local go_sem ↓] eql23

theorem W.canon {b : Nat} {z : Int} (h : W b z) (h0 : z ≠ 0) : b = N z := by
  rcases h with h | ⟨h, _⟩
  · exact h
  · exact absurd h h0
theorem half_trunc (w : World) : Calls Try.prog 22 #[.float .f64 4602678819172646912] w fun e w' => e = .returned (.float .f64 0) ∧ w' = w := by
  have hr := fun W => run27 4602678819172646912 W false 4503599627370496 (-53) (by kernel_rfl)
  have hc : cutBits 4602678819172646912 = 0 := by kernel_rfl
  rw [hc] at hr
  clear hc
  go_enter Try.func22, Try.ntmps22
  go_wp2
  go_ret
  exact ⟨rfl, rfl⟩
theorem half_is (w : World) : Calls Try.prog 21 #[.float .f64 4602678819172646912] w fun e w' => e = .returned (.bool false) ∧ w' = w := by
  have HT := Lib.hid (half_trunc w)
  have o1 : FloatKind.f64.format.order 4602678819172646912 0 = some .gt := by kernel_rfl
  have o2 : FloatKind.f64.format.order 4602678819172646912 4666727020758040576 = some .lt := by kernel_rfl
  have o3 : FloatKind.f64.format.order 0 4602678819172646912 = some .lt := by kernel_rfl
  go_enter Try.func21, Try.ntmps21
  go_wp2_with fail
  refine HT.out.mono ?_
  rintro e w1 ⟨rfl, rfl⟩
  go_wp2
  go_ret
  exact ⟨rfl, rfl⟩
theorem half_right (w : World) : Calls Try.prog 11 #[.complex .f64 4602678819172646912 0] w fun e w' => e = .returned (.bool false) ∧ w' = w := by
  have HT := Lib.hid (half_is w)
  go_enter Try.func11, Try.ntmps11
  go_wp2_with fail
  refine HT.out.mono ?_
  rintro e w1 ⟨rfl, rfl⟩
  go_wp2
  go_ret
  exact ⟨rfl, rfl⟩
theorem noughts_in (w : World) : IsParts (· < ((w.alloc (.cells #[.int .u8 0, .int .u8 0] 5)).alloc (.cells #[.slice (some ⟨w.heap.size, 0, none⟩) 2 2] 26)).heap.size)
    ((w.alloc (.cells #[.int .u8 0, .int .u8 0] 5)).alloc (.cells #[.slice (some ⟨w.heap.size, 0, none⟩) 2 2] 26)) (.slice (some ⟨w.heap.size + 1, 0, none⟩) 1 1) [[0, 0]] := by
  refine ⟨[.slice (some ⟨w.heap.size, 0, none⟩) 2 2], rfl, ⟨by simp, .inr ⟨w.heap.size + 1, 0, 1, rfl, Nat.le_refl _, by decide, by simp, ?_⟩⟩, fun i ps pv hp hv => ?_⟩
  · exact range_row (alloc2_heap1 _ _ _)
  · match i, hp, hv with
    | 0, hp, hv =>
      simp at hp hv
      subst hp hv
      exact ⟨by simp, .inr ⟨w.heap.size, 0, 2, rfl, Nat.le_refl _, by decide, by simp; omega, range_row (alloc2_heap0 _ _ _)⟩⟩
theorem N_4 : N 4 = 4616189618054758400 := by kernel_rfl
theorem N_10003 : N 10003 = 4666724821734785024 := by kernel_rfl

set_option maxRecDepth 100000 in
set_option maxHeartbeats 1000000 in
theorem wakes_any (w : World) : Calls Try.prog 8 #[] w fun e w' => e = .returned (.bool true) ∧ Gr w w' := by
  obtain ⟨W1, hW1⟩ : ∃ W1, (w.alloc (.cells #[.int .u8 0, .int .u8 0] 5)).alloc (.cells #[.slice (some ⟨w.heap.size, 0, none⟩) 2 2] 26) = W1 := ⟨_, rfl⟩
  have g1 : Gr w W1 := by rw [← hW1]; exact Gr.alloc (Gr.alloc (Gr.refl _) _) _
  have hin := noughts_in w
  rw [hW1] at hin
  have w0 : W 0 0 := .inl N_zero.symm
  have hch := chain_any W1 0 0 (0, 0) w0 w0 (by unfold Pt; decide) _ [[0, 0]] hin (by decide) (by decide) (by decide)
  have hcp : chainP (0, 0) [[0, 0]].flatten = (4, 5) := by kernel_rfl
  rw [hcp] at hch
  have HC := Lib.hid hch
  have HO1 := Lib.hid (fun X => of_any X 39 23 0 0 (by decide) (by decide) (by decide) (by decide))
  have HO2 := Lib.hid (fun X => of_any X 0 4 0 5 (by decide) (by decide) (by decide) (by decide))
  have hv1 : ofV (39 * 256 + 23) (0 * 256 + 0) = .tuple #[.complex .f64 0 0, .int .i64 11] := by rfl
  have hv2 : ofV (0 * 256 + 4) (0 * 256 + 5) = .tuple #[.complex .f64 4616189618054758400 4617315517961601024, .int .i64 0] := by kernel_rfl
  rw [hv1] at HO1
  rw [hv2] at HO2
  have b4 : W 4616189618054758400 4 := .inl N_4.symm
  have b5 : W 4617315517961601024 5 := .inl N_5.symm
  have HPB := Lib.hid (fun X => pbytes_any 4616189618054758400 4617315517961601024 4 5 b4 b5 (by decide) (by decide) X)
  have HR := Lib.hid (fun X => right_any 4616189618054758400 4617315517961601024 4 5 b4 b5 (by decide) (by decide) X)
  have hok : (okPart 4 && okPart 5) = true := by decide
  rw [hok] at HR
  have HH := Lib.hid (fun X => half_right X)
  have hnx := fun X => next_any (a := 0) (b := 1) (c := 0) w0 (show W 4607182418800017408 1 from .inl N_1.symm) (by decide) (by decide) (by decide) (by decide) (by decide) (by decide) X
  have hx1 : nxR 0 1 0 = 10003 := by decide
  have hx2 : nxI 0 1 = 3 := by decide
  rw [hx1, hx2] at hnx
  have HNX := Lib.hid hnx
  have HG1 := Lib.hid g1
  have HW1 := Lib.hid hW1
  have o1 : FloatKind.f64.format.order 4616189618054758400 4616189618054758400 = some .eq := by kernel_rfl
  have o2 : FloatKind.f64.format.order 4617315517961601024 4617315517961601024 = some .eq := by kernel_rfl
  have o3 : FloatKind.f64.format.order 4666724821734785024 4666724821734785024 = some .eq := by kernel_rfl
  have o4 : FloatKind.f64.format.order 4613937818241073152 4613937818241073152 = some .eq := by kernel_rfl
  clear g1 hin w0 hch hcp hv1 hv2 b4 b5 hok hnx hx1 hx2 hW1
  go_enter Try.func8, Try.ntmps8
  go_wp2_with fail
  rw [HW1.out]
  refine HC.out.mono ?_
  rintro e w1 ⟨p, q, rfl, hp, hq, hg1⟩
  obtain rfl : p = 4616189618054758400 := (hp.canon (by decide)).trans N_4
  obtain rfl : q = 4617315517961601024 := (hq.canon (by decide)).trans N_5
  have G1 := Lib.hid (HG1.out.trans hg1)
  clear hp hq hg1
  go_wp2_with fail
  refine (HO1.out _).mono ?_
  rintro e w2 ⟨rfl, hg2⟩
  have G2 := Lib.hid (G1.out.trans hg2)
  clear hg2
  go_wp2_with fail
  refine (HO2.out _).mono ?_
  rintro e w3 ⟨rfl, hg3⟩
  have G3 := Lib.hid (G2.out.trans hg3)
  clear hg3
  go_wp2_with fail
  refine (HPB.out _).mono ?_
  rintro e w4 ⟨rfl, hg4⟩
  have G4 := Lib.hid (G3.out.trans hg4)
  clear hg4
  go_wp2_with fail
  refine (HR.out _).mono ?_
  rintro e w5 ⟨rfl, rfl⟩
  go_wp2_with fail
  refine (HH.out _).mono ?_
  rintro e w5 ⟨rfl, rfl⟩
  go_wp2_with fail
  refine (HNX.out _).mono ?_
  rintro e w5 ⟨p, q, rfl, hp, hq, rfl⟩
  obtain rfl : p = 4666724821734785024 := (hp.canon (by decide)).trans N_10003
  obtain rfl : q = 4613937818241073152 := (hq.canon (by decide)).trans N_3
  clear hp hq
  go_wp2
  go_ret
  exact ⟨rfl, G4.out⟩
end Go.Proofs.Ytofnoillkfagiaa
