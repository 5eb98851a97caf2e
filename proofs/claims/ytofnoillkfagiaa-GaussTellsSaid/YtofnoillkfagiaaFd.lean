/-
  Walks: a number's fraction and power.
-/
import Derived.Test.YtofnoillkfagiaaFb
namespace Go.Proofs.Ytofnoillkfagiaa
open Go Go.RowKit
attribute [local go_sem] run34 run35

set_option maxRecDepth 100000 in
theorem order_min {n : Nat} (h0 : n ≠ 0) (h : n < 9007199254740992) : FloatKind.f64.format.order (N (n : Int)) 4503599627370496 = some .gt := by
  obtain ⟨p1, p2⟩ := log2_bounds h0
  have hL := log2_le52 h0 h
  obtain ⟨m1, m2⟩ := mant p1 p2 hL
  have hd : Ieee.double.read (N (n : Int)) = .number false (n * 2 ^ (52 - n.log2)) (-((52 - n.log2 : Nat) : Int)) := by
    rw [N_pos h0 h, ← word_false ((n.log2 + 1022) * 4503599627370496 + n * 2 ^ (52 - n.log2)), read_word false hL m1 m2]
  have hm : Ieee.double.read 4503599627370496 = .number false 4503599627370496 (-1074) := by kernel_rfl
  show (Ieee.double.read _).order (Ieee.double.read 4503599627370496) = _
  rw [hd, hm]
  obtain ⟨k, hk⟩ : ∃ k, 52 - n.log2 = k := ⟨_, rfl⟩
  rw [hk] at m1 m2 ⊢
  generalize n * 2 ^ k = M at m1 m2
  have hk2 : k ≤ 52 := by omega
  obtain ⟨E, hE⟩ : ∃ E : Nat, E = 1074 - k := ⟨_, rfl⟩
  have e1 : (-(k : Int) - min (-(k : Int)) (-1074)).toNat = E := by omega
  have e2 : ((-1074 : Int) - min (-(k : Int)) (-1074)).toNat = 0 := by omega
  have hQ : 2 ^ 1 ≤ 2 ^ E := Nat.pow_le_pow_right (show 0 < 2 by decide) (by omega)
  have ha : Ieee.signed false M E = ((M * 2 ^ E : Nat) : Int) := by
    unfold Ieee.signed
    rw [if_neg (by decide), Nat.shiftLeft_eq]
  have hb : Ieee.signed false 4503599627370496 0 = 4503599627370496 := by decide
  have ho : Ieee.Datum.order (.number false M (-(k : Int))) (.number false 4503599627370496 (-1074)) = some (compareOfLessAndEq (Ieee.signed false M (-(k : Int) - min (-(k : Int)) (-1074)).toNat) (Ieee.signed false 4503599627370496 ((-1074 : Int) - min (-(k : Int)) (-1074)).toNat)) := rfl
  rw [ho, e1, e2, ha, hb]
  generalize 2 ^ E = Q at hQ
  have hM : 4503599627370496 * 2 ≤ M * Q := Nat.mul_le_mul m1 (by omega)
  generalize M * Q = T at hM
  unfold compareOfLessAndEq
  rw [if_neg (by omega), if_neg (by omega)]

theorem norm_any {n : Nat} (h0 : n ≠ 0) (h : n < 9007199254740992) (w : World) : Calls Try.prog 45 #[.float .f64 (N (n : Int))] w fun e w' =>
    e = .returned (.tuple #[.float .f64 (N (n : Int)), .int .i64 0]) ∧ w' = w := by
  have hw := W.of (n : Int)
  have hz : (n : Int).natAbs < 9007199254740992 := by omega
  have o1 := order_min h0 h
  have ha : N (n : Int) % 9223372036854775808 = N (n : Int) := by
    have := hw.abs hz; rwa [Int.natAbs_natCast] at this
  have ha2 := abs_any (N (n : Int)) (hw.lt hz) w
  rw [ha] at ha2
  have HA := Lib.hid ha2
  clear ha hw hz ha2
  generalize N (n : Int) = x at *
  go_enter Try.func45, Try.ntmps45
  go_wp2_with fail
  refine HA.out.mono ?_
  rintro e w1 ⟨rfl, rfl⟩
  go_wp2
  go_ret2
  exact ⟨rfl, rfl⟩

theorem wrap_small {x : Int} (h0 : -1000000 ≤ x) (h1 : x ≤ 1000000) : wrap64 x = x := by unfold wrap64; omega
/-- What the bits of a number come to. -/
theorem frexp_bits {n x : Nat} (h0 : n ≠ 0) (h : n < 9007199254740992) (hx : x = N (n : Int)) {g : Nat} {p : Int} (hg : g = 4602678819172646912 + (n * 2 ^ (52 - n.log2) - 4503599627370496)) (hp : p = (n.log2 : Int) + 1) :
    ∃ f q : Nat, bits .and .u64 ((x : Int) / 4503599627370496) 2047 = (q : Int) ∧ bits .andNot .u64 (x : Int) 9218868437227405312 = (f : Int) ∧ bits .or .u64 (f : Int) 4602678819172646912 = (g : Int) ∧
      wrap64 (wrap64 (wrap64 (wrap64 (q : Int) - 1023) + 1)) = p := by
  rw [N_pos h0 h] at hx
  obtain ⟨p1, p2⟩ := log2_bounds h0
  have hL := log2_le52 h0 h
  obtain ⟨m1, m2⟩ := mant p1 p2 hL
  generalize n * 2 ^ (52 - n.log2) = M at *
  refine ⟨M - 4503599627370496, n.log2 + 1023, ?_, ?_, ?_, ?_⟩
  · have e1 : (x : Int) / 4503599627370496 = ((n.log2 + 1023 : Nat) : Int) := by omega
    rw [e1, bits_low (by omega), Nat.mod_eq_of_lt (by omega)]
  · rw [bits_clear (by omega)]
    have e2 : x % 4503599627370496 = M - 4503599627370496 := by omega
    rw [e2]
  · rw [bits_set (by omega), hg]
  · rw [hp]
    generalize n.log2 = L at *
    have s1 : wrap64 ((L + 1023 : Nat) : Int) = ((L + 1023 : Nat) : Int) := wrap_small (by omega) (by omega)
    have s2 : wrap64 (((L + 1023 : Nat) : Int) - 1023) = (L : Int) := by rw [wrap_small (by omega) (by omega)]; omega
    have s3 : wrap64 ((L : Int) + 1) = (L : Int) + 1 := wrap_small (by omega) (by omega)
    rw [s1, s2, s3, s3]

/-- frexp: the fraction's word, the power. -/
theorem frexp_any {n : Nat} (h0 : n ≠ 0) (h : n < 9007199254740992) {g : Nat} {p : Int} (hg : g = 4602678819172646912 + (n * 2 ^ (52 - n.log2) - 4503599627370496)) (hp : p = (n.log2 : Int) + 1) (w : World) :
    Calls Try.prog 42 #[.float .f64 (N (n : Int))] w fun e w' => e = .returned (.tuple #[.float .f64 g, .int .i64 p]) ∧ w' = w := by
  have hw := W.of (n : Int)
  have hz : (n : Int).natAbs < 9007199254740992 := by omega
  have o0 : FloatKind.f64.format.order (N (n : Int)) 0 = some .gt := by
    have := order_W hw (show W 0 0 from .inl N_zero.symm) hz (by decide)
    have hc : cmpI (n : Int) 0 = .gt := by unfold cmpI; rw [if_neg (by omega), if_neg (by omega)]
    rw [hc] at this; exact this
  have o1 := order_min h0 h
  have HI := Lib.hid (inf_any (N (n : Int)) n hw hz w)
  have HN := Lib.hid (nan_any (N (n : Int)) n hw hz w)
  have HA := Lib.hid (norm_any h0 h w)
  have hb := fun x hx => frexp_bits (x := x) h0 h hx hg hp
  clear hw hz hg hp
  obtain ⟨f, q, hA, hB, hC, hW⟩ := hb _ rfl
  have HW := Lib.hid hW
  clear hb hW
  generalize N (n : Int) = x at *
  go_enter Try.func42, Try.ntmps42
  go_wp2_with fail
  refine HI.out.mono ?_
  rintro e w1 ⟨rfl, rfl⟩
  go_wp2_with fail
  refine HN.out.mono ?_
  rintro e w1 ⟨rfl, rfl⟩
  go_wp2_with fail
  refine HA.out.mono ?_
  rintro e w1 ⟨rfl, rfl⟩
  go_wp2
  go_ret2
  exact ⟨by rw [← HW.out]; rfl, rfl⟩
theorem frexp2_any {n : Nat} (h0 : n ≠ 0) (h : n < 9007199254740992) {g : Nat} {p : Int} (hg : g = 4602678819172646912 + (n * 2 ^ (52 - n.log2) - 4503599627370496)) (hp : p = (n.log2 : Int) + 1) (w : World) :
    Calls Try.prog 39 #[.float .f64 (N (n : Int))] w fun e w' => e = .returned (.tuple #[.float .f64 g, .int .i64 p]) ∧ w' = w := by
  have HF := Lib.hid (frexp_any h0 h hg hp w)
  clear hg hp
  generalize N (n : Int) = x at *
  go_enter Try.func39, Try.ntmps39
  go_wp2_with fail
  refine HF.out.mono ?_
  rintro e w1 ⟨rfl, rfl⟩
  go_wp2
  go_ret2
  exact ⟨rfl, rfl⟩
theorem order_y : FloatKind.f64.format.order 4666727020758040576 0 = some .gt := by kernel_rfl
theorem up_0 : N 10007 = 4666727020758040576 := by kernel_rfl
set_option maxRecDepth 100000 in
theorem ldexp_0 (w : World) : Calls Try.prog 44 #[.float .f64 4666727020758040576, .int .i64 0] w fun e w' => e = .returned (.float .f64 4666727020758040576) ∧ w' = w := by
  have hz : (10007 : Int).natAbs < 9007199254740992 := by decide
  have hw := W.of (10007 : Int)
  have HI := Lib.hid (inf_any (N 10007) 10007 hw hz w)
  have HN := Lib.hid (nan_any (N 10007) 10007 hw hz w)
  have HA := Lib.hid (norm_any (n := 10007) (by decide) (by decide) w)
  clear hw hz
  have hn : N ((10007 : Nat) : Int) = 4666727020758040576 := by kernel_rfl
  rw [hn] at HA
  rw [N_10007] at HI HN
  clear hn
  have a0 := order_y
  have a1 : bits .and .i64 1036 2047 = 1036 := by kernel_rfl
  have a2 : bits .andNot .u64 4666727020758040576 9218868437227405312 = 997806802206720 := by kernel_rfl
  have a3 : bits .or .u64 997806802206720 4665729213955833856 = 4666727020758040576 := by kernel_rfl
  have a4 := fun t W => run_float_arith (P := Try.prog) W .mul t .f64 4607182418800017408 4666727020758040576 4666727020758040576 (by kernel_rfl)
  go_enter Try.func44, Try.ntmps44
  go_wp2_with fail
  refine HI.out.mono ?_
  rintro e w1 ⟨rfl, rfl⟩
  go_wp2_with fail
  refine HN.out.mono ?_
  rintro e w1 ⟨rfl, rfl⟩
  go_wp2_with fail
  refine HA.out.mono ?_
  rintro e w1 ⟨rfl, rfl⟩
  go_wp2
  go_ret
  exact ⟨rfl, rfl⟩
theorem up_1 : N 20014 = 4671230620385411072 := by kernel_rfl
set_option maxRecDepth 100000 in
theorem ldexp_1 (w : World) : Calls Try.prog 44 #[.float .f64 4666727020758040576, .int .i64 1] w fun e w' => e = .returned (.float .f64 4671230620385411072) ∧ w' = w := by
  have hz : (10007 : Int).natAbs < 9007199254740992 := by decide
  have hw := W.of (10007 : Int)
  have HI := Lib.hid (inf_any (N 10007) 10007 hw hz w)
  have HN := Lib.hid (nan_any (N 10007) 10007 hw hz w)
  have HA := Lib.hid (norm_any (n := 10007) (by decide) (by decide) w)
  clear hw hz
  have hn : N ((10007 : Nat) : Int) = 4666727020758040576 := by kernel_rfl
  rw [hn] at HA
  rw [N_10007] at HI HN
  clear hn
  have a0 := order_y
  have a1 : bits .and .i64 1036 2047 = 1036 := by kernel_rfl
  have a2 : bits .andNot .u64 4666727020758040576 9218868437227405312 = 997806802206720 := by kernel_rfl
  have a3 : bits .or .u64 997806802206720 4670232813583204352 = 4671230620385411072 := by kernel_rfl
  have a4 := fun t W => run_float_arith (P := Try.prog) W .mul t .f64 4607182418800017408 4671230620385411072 4671230620385411072 (by kernel_rfl)
  go_enter Try.func44, Try.ntmps44
  go_wp2_with fail
  refine HI.out.mono ?_
  rintro e w1 ⟨rfl, rfl⟩
  go_wp2_with fail
  refine HN.out.mono ?_
  rintro e w1 ⟨rfl, rfl⟩
  go_wp2_with fail
  refine HA.out.mono ?_
  rintro e w1 ⟨rfl, rfl⟩
  go_wp2
  go_ret
  exact ⟨rfl, rfl⟩
theorem up_2 : N 40028 = 4675734220012781568 := by kernel_rfl
set_option maxRecDepth 100000 in
theorem ldexp_2 (w : World) : Calls Try.prog 44 #[.float .f64 4666727020758040576, .int .i64 2] w fun e w' => e = .returned (.float .f64 4675734220012781568) ∧ w' = w := by
  have hz : (10007 : Int).natAbs < 9007199254740992 := by decide
  have hw := W.of (10007 : Int)
  have HI := Lib.hid (inf_any (N 10007) 10007 hw hz w)
  have HN := Lib.hid (nan_any (N 10007) 10007 hw hz w)
  have HA := Lib.hid (norm_any (n := 10007) (by decide) (by decide) w)
  clear hw hz
  have hn : N ((10007 : Nat) : Int) = 4666727020758040576 := by kernel_rfl
  rw [hn] at HA
  rw [N_10007] at HI HN
  clear hn
  have a0 := order_y
  have a1 : bits .and .i64 1036 2047 = 1036 := by kernel_rfl
  have a2 : bits .andNot .u64 4666727020758040576 9218868437227405312 = 997806802206720 := by kernel_rfl
  have a3 : bits .or .u64 997806802206720 4674736413210574848 = 4675734220012781568 := by kernel_rfl
  have a4 := fun t W => run_float_arith (P := Try.prog) W .mul t .f64 4607182418800017408 4675734220012781568 4675734220012781568 (by kernel_rfl)
  go_enter Try.func44, Try.ntmps44
  go_wp2_with fail
  refine HI.out.mono ?_
  rintro e w1 ⟨rfl, rfl⟩
  go_wp2_with fail
  refine HN.out.mono ?_
  rintro e w1 ⟨rfl, rfl⟩
  go_wp2_with fail
  refine HA.out.mono ?_
  rintro e w1 ⟨rfl, rfl⟩
  go_wp2
  go_ret
  exact ⟨rfl, rfl⟩
theorem up_3 : N 80056 = 4680237819640152064 := by kernel_rfl
set_option maxRecDepth 100000 in
theorem ldexp_3 (w : World) : Calls Try.prog 44 #[.float .f64 4666727020758040576, .int .i64 3] w fun e w' => e = .returned (.float .f64 4680237819640152064) ∧ w' = w := by
  have hz : (10007 : Int).natAbs < 9007199254740992 := by decide
  have hw := W.of (10007 : Int)
  have HI := Lib.hid (inf_any (N 10007) 10007 hw hz w)
  have HN := Lib.hid (nan_any (N 10007) 10007 hw hz w)
  have HA := Lib.hid (norm_any (n := 10007) (by decide) (by decide) w)
  clear hw hz
  have hn : N ((10007 : Nat) : Int) = 4666727020758040576 := by kernel_rfl
  rw [hn] at HA
  rw [N_10007] at HI HN
  clear hn
  have a0 := order_y
  have a1 : bits .and .i64 1036 2047 = 1036 := by kernel_rfl
  have a2 : bits .andNot .u64 4666727020758040576 9218868437227405312 = 997806802206720 := by kernel_rfl
  have a3 : bits .or .u64 997806802206720 4679240012837945344 = 4680237819640152064 := by kernel_rfl
  have a4 := fun t W => run_float_arith (P := Try.prog) W .mul t .f64 4607182418800017408 4680237819640152064 4680237819640152064 (by kernel_rfl)
  go_enter Try.func44, Try.ntmps44
  go_wp2_with fail
  refine HI.out.mono ?_
  rintro e w1 ⟨rfl, rfl⟩
  go_wp2_with fail
  refine HN.out.mono ?_
  rintro e w1 ⟨rfl, rfl⟩
  go_wp2_with fail
  refine HA.out.mono ?_
  rintro e w1 ⟨rfl, rfl⟩
  go_wp2
  go_ret
  exact ⟨rfl, rfl⟩
/-- Ldexp at 10007, up to three places. -/
theorem ldexp_any {d : Nat} (hd : d < 4) (w : World) : Calls Try.prog 40 #[.float .f64 4666727020758040576, .int .i64 d] w fun e w' => e = .returned (.float .f64 (N ((10007 * 2 ^ d : Nat) : Int))) ∧ w' = w := by
  have key : Calls Try.prog 44 #[.float .f64 4666727020758040576, .int .i64 d] w fun e w' => e = .returned (.float .f64 (N ((10007 * 2 ^ d : Nat) : Int))) ∧ w' = w := by
    match d, hd with
    | 0, _ => exact (ldexp_0 w).mono fun e w' h => ⟨h.1.trans (by rw [show N ((10007 * 2 ^ 0 : Nat) : Int) = N 10007 from rfl, up_0]), h.2⟩
    | 1, _ => exact (ldexp_1 w).mono fun e w' h => ⟨h.1.trans (by rw [show N ((10007 * 2 ^ 1 : Nat) : Int) = N 20014 from rfl, up_1]), h.2⟩
    | 2, _ => exact (ldexp_2 w).mono fun e w' h => ⟨h.1.trans (by rw [show N ((10007 * 2 ^ 2 : Nat) : Int) = N 40028 from rfl, up_2]), h.2⟩
    | 3, _ => exact (ldexp_3 w).mono fun e w' h => ⟨h.1.trans (by rw [show N ((10007 * 2 ^ 3 : Nat) : Int) = N 80056 from rfl, up_3]), h.2⟩
  have HK := Lib.hid key
  clear key hd
  generalize N ((10007 * 2 ^ d : Nat) : Int) = r at *
  go_enter Try.func40, Try.ntmps40
  go_wp2_with fail
  refine HK.out.mono ?_
  rintro e w1 ⟨rfl, rfl⟩
  go_wp2
  go_ret
  exact ⟨rfl, rfl⟩
end Go.Proofs.Ytofnoillkfagiaa
