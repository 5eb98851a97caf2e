/-
  Walks: a point's next one.
-/
import Derived.Test.YtofnoillkfagiaaFe
namespace Go.Proofs.Ytofnoillkfagiaa
open Go Go.RowKit

theorem Mod_any {x : Nat} {z : Int} (h : W x z) (hz : z.natAbs < 131072) (w : World) :
    Calls Try.prog 25 #[.float .f64 x, .float .f64 4666727020758040576] w fun e w' => ∃ b, e = .returned (.float .f64 b) ∧ W b (remI z) ∧ w' = w := by
  have HM := Lib.hid (mod_any h hz w)
  go_enter Try.func25, Try.ntmps25
  go_wp2_with fail
  refine HM.out.mono ?_
  rintro e w1 ⟨b, rfl, hb, rfl⟩
  go_wp2
  go_ret
  exact ⟨b, rfl, hb, rfl⟩
theorem rem_mod (z : Int) : (remI z < 0 → remI z + 10007 = z % 10007) ∧ (¬ remI z < 0 → remI z = z % 10007) ∧ (remI z).natAbs < 10007 := by
  unfold remI
  split
  · refine ⟨fun h => ?_, fun h => ?_, ?_⟩ <;> omega
  · refine ⟨fun h => ?_, fun h => ?_, ?_⟩ <;> omega
theorem by_any {x : Nat} {z : Int} (h : W x z) (hz : z.natAbs < 131072) (w : World) :
    Calls Try.prog 24 #[.float .f64 x] w fun e w' => ∃ b, e = .returned (.float .f64 b) ∧ W b (z % 10007) ∧ w' = w := by
  have HM := Lib.hid (Mod_any h hz w)
  obtain ⟨r1, r2, r3⟩ := rem_mod z
  go_enter Try.func24, Try.ntmps24
  go_wp2_with fail
  refine HM.out.mono ?_
  rintro e w1 ⟨b, rfl, hb, rfl⟩
  have h0 : W 0 0 := .inl N_zero.symm
  have hy : W 4666727020758040576 10007 := .inl N_10007.symm
  have o1 := order_W hb h0 (by omega) (by decide)
  by_cases hn : remI z < 0
  · have hc : cmpI (remI z) 0 = .lt := if_pos hn
    rw [hc] at o1
    obtain ⟨s, hs, hw⟩ := add_W hb hy (by omega) (by decide) (by omega)
    rw [r1 hn] at hw
    have hsr := fun t W => run_float_arith (P := Try.prog) W .add t .f64 _ _ _ hs
    have HW := Lib.hid hw
    clear hc hs hw
    go_wp2
    go_ret
    exact ⟨s, rfl, HW.out, rfl⟩
  · have hc : cmpI (remI z) 0 = .eq ∨ cmpI (remI z) 0 = .gt := by
      unfold cmpI
      rw [if_neg hn]
      split
      · exact .inl rfl
      · exact .inr rfl
    have hw := hb
    rw [r2 (by omega)] at hw
    have HW := Lib.hid hw
    clear hw
    rcases hc with hc | hc
    all_goals
      rw [hc] at o1
      go_wp2
      go_ret
      exact ⟨b, rfl, HW.out, rfl⟩

/-- The next point's parts. -/
def nxR (a b c : Int) : Int := (a * 3 - b * 5 + (c + 1)) % 10007
def nxI (a b : Int) : Int := (a * 5 + b * 3) % 10007
theorem okPart_true {z : Int} (h0 : 0 ≤ z) (h1 : z ≤ 10006) : okPart z = true := decide_eq_true ⟨h0, h1⟩
theorem N_3 : N 3 = 4613937818241073152 := by kernel_rfl
theorem N_5 : N 5 = 4617315517961601024 := by kernel_rfl
theorem N_1 : N 1 = 4607182418800017408 := by kernel_rfl

theorem next_any {x y : Nat} {a b c : Int} (h : W x a) (g : W y b) (ha0 : 0 ≤ a) (ha1 : a ≤ 10006) (hb0 : 0 ≤ b) (hb1 : b ≤ 10006) (hc0 : 0 ≤ c) (hc1 : c ≤ 255) (w : World) :
    Calls Try.prog 13 #[.complex .f64 x y, .int .u8 c] w fun e w' => ∃ p q, e = .returned (.complex .f64 p q) ∧ W p (nxR a b c) ∧ W q (nxI a b) ∧ w' = w := by
  have HR := Lib.hid (right_any x y a b h g (by omega) (by omega) w)
  rw [okPart_true ha0 ha1, okPart_true hb0 hb1] at HR
  have w3 : W 4613937818241073152 3 := .inl N_3.symm
  have w5 : W 4617315517961601024 5 := .inl N_5.symm
  have w1 : W 4607182418800017408 1 := .inl N_1.symm
  have w0 : W 0 0 := .inl N_zero.symm
  obtain ⟨m1, e1, f1⟩ := mul_W h w3 (by omega) (by decide) (by omega)
  obtain ⟨m2, e2, f2⟩ := mul_W g w5 (by omega) (by decide) (by omega)
  obtain ⟨m3, e3, f3⟩ := sub_W f1 f2 (by omega) (by omega) (by omega)
  obtain ⟨m4, e4, f4⟩ := mul_W h w5 (by omega) (by decide) (by omega)
  obtain ⟨m5, e5, f5⟩ := mul_W g w3 (by omega) (by decide) (by omega)
  obtain ⟨m6, e6, f6⟩ := add_W f4 f5 (by omega) (by omega) (by omega)
  obtain ⟨m7, e7, f7⟩ := add_W (W.of c) w1 (by omega) (by decide) (by omega)
  obtain ⟨m8, e8, f8⟩ := add_W f3 f7 (by omega) (by omega) (by omega)
  obtain ⟨m9, e9, f9⟩ := add_W f6 w0 (by omega) (by decide) (by omega)
  have hmul : cMulBits x y 4613937818241073152 4617315517961601024 = some (m3, m6) := by
    unfold cMulBits
    rw [e1]; simp only [Option.bind_some]
    rw [e2]; simp only [Option.bind_some]
    rw [e3]; simp only [Option.bind_some]
    rw [e4]; simp only [Option.bind_some]
    rw [e5]; simp only [Option.bind_some]
    rw [e6]; simp only [Option.bind_some]
  have hsum : cSumBits .add .f64 m3 m6 m7 0 = some (m8, m9) := by
    unfold cSumBits
    rw [e8]; simp only [Option.bind_some]
    rw [e9]; simp only [Option.bind_some]
  have r1 := fun t W => run_complex_mul (P := Try.prog) W t _ _ _ _ _ _ hmul
  have r2 := fun t W => run_complex_sum (P := Try.prog) W .add (.inl rfl) t .f64 _ _ _ _ _ _ hsum
  have r3 := fun t W => run_float_arith (P := Try.prog) W .add t .f64 _ _ _ e7
  have hN : ∀ k : FloatKind, k = .f64 → floatOfInt k c = N c := by rintro k rfl; rfl
  have hN' : floatOfInt .f64 c = N c := rfl
  rw [Int.add_zero] at f9
  have HB1 := Lib.hid (fun W => by_any f8 (by omega) W)
  have HB2 := Lib.hid (fun W => by_any f9 (by omega) W)
  clear e1 e2 e3 e4 e5 e6 e7 e8 e9 f1 f2 f3 f4 f5 f6 f7 f8 f9 hmul hsum w0 w1 w3 w5 hN h g
  generalize N c = nc at *
  go_enter Try.func13, Try.ntmps13
  go_wp2_with fail
  refine HR.out.mono ?_
  rintro e w1 ⟨rfl, rfl⟩
  go_wp2_with fail
  refine (HB1.out _).mono ?_
  rintro e w1 ⟨p, rfl, hp, rfl⟩
  go_wp2_with fail
  refine (HB2.out _).mono ?_
  rintro e w1 ⟨q, rfl, hq, rfl⟩
  go_wp2
  go_ret
  exact ⟨p, q, rfl, hp, hq, rfl⟩
end Go.Proofs.Ytofnoillkfagiaa
