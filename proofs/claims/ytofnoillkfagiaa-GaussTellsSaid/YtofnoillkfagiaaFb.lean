/-
  Walks: the small functions of math.
-/
import Derived.Test.YtofnoillkfagiaaProg
import Derived.Test.YtofnoillkfagiaaBase
import Derived.Test.YtofnoillkfagiaaFc
import Derived.WalkKit
import Derived.WalkSpells
import Derived.WalkLawsBesides
import Derived.Laws.Externs
import Derived.Lib.Hide
import Derived.BigQuiet
namespace Go.Proofs.Ytofnoillkfagiaa
open Go Go.RowKit

theorem run34 (b : Nat) (w : World) : (callFunc 34 #[.float .f64 b]).run Try.prog w = .ok (.value (.int .u64 b)) w := by
  rw [run_callFunc_extern Try.func34 (by kernel_rfl) (by kernel_rfl) (by kernel_rfl) (e := Extern.MathFloatBits.float64bits) (by kernel_rfl)]
  rfl
theorem run35 (n : Int) (w : World) : (callFunc 35 #[.int .u64 n]).run Try.prog w = .ok (.value (.float .f64 n.toNat)) w := by
  rw [run_callFunc_extern Try.func35 (by kernel_rfl) (by kernel_rfl) (by kernel_rfl) (e := Extern.MathFloatBits.float64frombits) (by kernel_rfl)]
  rfl
/-- What archTrunc makes of a word. -/
def cutBits (b : Nat) : Nat := FloatKind.f64.encode ((FloatKind.f64.decode b).integral .zero)
theorem run27 (b : Nat) (w : World) (s : Bool) (m : Nat) (p : Int) (h : FloatKind.f64.decode b = .number s m p) : (callFunc 27 #[.float .f64 b]).run Try.prog w = .ok (.value (.float .f64 (cutBits b))) w := by
  rw [run_callFunc_extern Try.func27 (by kernel_rfl) (by kernel_rfl) (by kernel_rfl) (e := Extern.MathFloor.toIntegral "math.archTrunc" .zero) (by kernel_rfl)]
  have e : ∀ d, FloatKind.f64.decode b = d → d = .number s m p → Extern.MathFloor.toIntegral "math.archTrunc" .zero #[.float .f64 b] = pure (.float .f64 (FloatKind.f64.encode (d.integral .zero))) := by
    intro d hd hn
    subst hn
    have : Extern.MathFloor.toIntegral "math.archTrunc" .zero #[.float .f64 b] = (match FloatKind.f64.decode b with
      | .nan s t => Extern.MathFloor.toIntegral "math.archTrunc" .zero #[.float .f64 b]
      | d => pure (.float .f64 (FloatKind.f64.encode (d.integral .zero)))) := by
      show (match FloatKind.f64.decode b with | .nan s t => _ | d => _) = _
      rw [hd]
    rw [this, hd]
  rw [e _ rfl h]
  rfl
attribute [local go_sem] run34 run35

theorem abs_any (b : Nat) (hb : b < 18446744073709551616) (w : World) : Calls Try.prog 32 #[.float .f64 b] w fun e w' => e = .returned (.float .f64 (b % 9223372036854775808)) ∧ w' = w := by
  have h1 := bits_andNot_top hb
  go_enter Try.func32, Try.ntmps32
  go_wp2
  go_ret
  exact ⟨rfl, rfl⟩
theorem nan_any (b : Nat) (z : Int) (h : W b z) (hz : z.natAbs < 9007199254740992) (w : World) : Calls Try.prog 37 #[.float .f64 b] w fun e w' => e = .returned (.bool false) ∧ w' = w := by
  have ho := order_W h h hz hz
  have hc : cmpI z z = .eq := by unfold cmpI; rw [if_neg (Int.lt_irrefl _), if_pos rfl]
  rw [hc] at ho
  go_enter Try.func37, Try.ntmps37
  go_wp2
  go_ret
  exact ⟨rfl, rfl⟩
theorem trunc_any (b : Nat) (z : Int) (h : W b z) (hz : z.natAbs < 9007199254740992) (w : World) : Calls Try.prog 22 #[.float .f64 b] w fun e w' => e = .returned (.float .f64 (cutBits b)) ∧ w' = w := by
  obtain ⟨s, k, hd, _, _⟩ := h.read hz
  have hr := fun W => run27 b W s _ _ hd
  go_enter Try.func22, Try.ntmps22
  go_wp2
  go_ret
  exact ⟨rfl, rfl⟩
set_option maxRecDepth 100000 in
theorem order_max {b : Nat} {z : Int} (h : W b z) (hz : z.natAbs < 9007199254740992) : FloatKind.f64.format.order b 9218868437227405311 = some .lt := by
  obtain ⟨s, k, hd, h1, h2⟩ := h.read hz
  have hm : Ieee.double.read 9218868437227405311 = .number false 9007199254740991 971 := by kernel_rfl
  show (Ieee.double.read b).order (Ieee.double.read 9218868437227405311) = _
  rw [hd, hm]
  have e1 : (-(k : Int) - min (-(k : Int)) 971).toNat = 0 := by omega
  obtain ⟨E, hE⟩ : ∃ E : Nat, E = 971 := ⟨_, rfl⟩
  have e2 : (971 - min (-(k : Int)) 971).toNat = E + k := by omega
  show some (compare _ _) = _
  rw [e1, e2, signed_of _ _ h1 h2, Nat.add_zero]
  congr 1
  show compareOfLessAndEq _ _ = _
  unfold compareOfLessAndEq
  refine if_pos ?_
  have hb : Ieee.signed false 9007199254740991 (E + k) = ((9007199254740991 * 2 ^ E * 2 ^ k : Nat) : Int) := by
    unfold Ieee.signed
    rw [if_neg (by decide), Nat.shiftLeft_eq, Nat.pow_add, Nat.mul_assoc]
  rw [hb]
  have hQ : 2 ^ 1 ≤ 2 ^ E := Nat.pow_le_pow_right (show 0 < 2 by decide) (by omega)
  generalize 2 ^ E = Q at hQ
  have hP := Nat.two_pow_pos k
  generalize 2 ^ k = p at hP
  have h3 : z.natAbs < 9007199254740991 * Q := by
    have : 9007199254740991 * 2 ≤ 9007199254740991 * Q := Nat.mul_le_mul_left _ (by omega)
    omega
  have h4 : z.natAbs * p < 9007199254740991 * Q * p := Nat.mul_lt_mul_of_pos_right h3 hP
  have h5 : z * (p : Int) ≤ ((z.natAbs * p : Nat) : Int) := by
    rw [Int.natCast_mul]
    exact Int.mul_le_mul_of_nonneg_right (by omega) (by omega)
  have h6 : ((z.natAbs * p : Nat) : Int) < ((9007199254740991 * Q * p : Nat) : Int) := by exact_mod_cast h4
  exact Int.lt_of_le_of_lt h5 h6
theorem inf_any (b : Nat) (z : Int) (h : W b z) (hz : z.natAbs < 9007199254740992) (w : World) : Calls Try.prog 36 #[.float .f64 b, .int .i64 0] w fun e w' => e = .returned (.bool false) ∧ w' = w := by
  have HA := Lib.hid (abs_any b (h.lt hz) w)
  have ho : FloatKind.f64.format.order (b % 9223372036854775808) 9218868437227405311 = some .lt := by
    rw [h.abs hz]
    exact order_max (W.of _) (by omega)
  go_enter Try.func36, Try.ntmps36
  go_wp2_with fail
  refine HA.out.mono ?_
  rintro e w1 ⟨rfl, rfl⟩
  go_wp2
  go_ret
  exact ⟨rfl, rfl⟩
/-- A part of a point. -/
def okPart (z : Int) : Bool := decide (0 ≤ z ∧ z ≤ 10006)
theorem N_10007 : N 10007 = 4666727020758040576 := by kernel_rfl
theorem is_any (b : Nat) (z : Int) (h : W b z) (hz : z.natAbs < 9007199254740992) (w : World) : Calls Try.prog 21 #[.float .f64 b] w fun e w' => e = .returned (.bool (okPart z)) ∧ w' = w := by
  have h0 : W 0 0 := .inl N_zero.symm
  have h7 : W 4666727020758040576 10007 := .inl N_10007.symm
  have o1 := order_W h h0 hz (by decide)
  have o2 := order_W h h7 hz (by decide)
  have o3 : FloatKind.f64.format.order (cutBits b) b = some (cmpI z z) := order_W (trunc_W h hz) h hz hz
  have hc : cmpI z z = .eq := by unfold cmpI; rw [if_neg (Int.lt_irrefl _), if_pos rfl]
  rw [hc] at o3
  have HT := Lib.hid (trunc_any b z h hz w)
  by_cases c1 : z < 0
  · have hr : okPart z = false := decide_eq_false (by omega)
    have hc1 : cmpI z 0 = .lt := if_pos c1
    rw [hr]
    rw [hc1] at o1
    go_enter Try.func21, Try.ntmps21
    go_wp2
    go_ret
    exact ⟨rfl, rfl⟩
  · have hc1 : cmpI z 0 = .eq ∨ cmpI z 0 = .gt := by
      unfold cmpI
      rw [if_neg c1]
      split
      · exact .inl rfl
      · exact .inr rfl
    by_cases c2 : z < 10007
    · have hr : okPart z = true := decide_eq_true (by omega)
      have hc2 : cmpI z 10007 = .lt := if_pos c2
      rw [hr]
      rw [hc2] at o2
      rcases hc1 with hc1 | hc1
      all_goals
        rw [hc1] at o1
        go_enter Try.func21, Try.ntmps21
        go_wp2_with fail
        refine HT.out.mono ?_
        rintro e w1 ⟨rfl, rfl⟩
        go_wp2
        go_ret
        exact ⟨rfl, rfl⟩
    · have hr : okPart z = false := decide_eq_false (by omega)
      have hc2 : cmpI z 10007 = .eq ∨ cmpI z 10007 = .gt := by
        unfold cmpI
        rw [if_neg c2]
        split
        · exact .inl rfl
        · exact .inr rfl
      rw [hr]
      rcases hc1 with hc1 | hc1 <;> rcases hc2 with hc2 | hc2
      all_goals
        rw [hc1] at o1
        rw [hc2] at o2
        go_enter Try.func21, Try.ntmps21
        go_wp2
        go_ret
        exact ⟨rfl, rfl⟩
theorem right_any (x y : Nat) (a b : Int) (h : W x a) (g : W y b) (ha : a.natAbs < 9007199254740992) (hb : b.natAbs < 9007199254740992) (w : World) :
    Calls Try.prog 11 #[.complex .f64 x y] w fun e w' => e = .returned (.bool (okPart a && okPart b)) ∧ w' = w := by
  have H1 := Lib.hid (is_any x a h ha w)
  have H2 := Lib.hid (is_any y b g hb w)
  generalize okPart b = q at *
  generalize okPart a = p at *
  cases p with
  | false =>
    go_enter Try.func11, Try.ntmps11
    go_wp2_with fail
    refine H1.out.mono ?_
    rintro e w1 ⟨rfl, rfl⟩
    go_wp2
    go_ret
    exact ⟨rfl, rfl⟩
  | true =>
    go_enter Try.func11, Try.ntmps11
    go_wp2_with fail
    refine H1.out.mono ?_
    rintro e w1 ⟨rfl, rfl⟩
    go_wp2_with fail
    refine H2.out.mono ?_
    rintro e w2 ⟨rfl, rfl⟩
    go_wp2
    go_ret
    exact ⟨rfl, rfl⟩
end Go.Proofs.Ytofnoillkfagiaa
