/-
  Any word of floating point: it is a point's part, or it is none.
-/
import Derived.Test.YtofnoillkfagiaaFp
namespace Go.Proofs.Ytofnoillkfagiaa
open Go Ieee

set_option maxRecDepth 100000 in
/-- A word that stands for a whole number is that number's word. -/
theorem DI_W {x : Nat} {z : Int} (hx : x < 18446744073709551616) (h : DI (double.read x) z) (hz : z.natAbs < 9007199254740992) : W x z := by
  have hsw : double.signWeight = 9223372036854775808 := rfl
  have hbin : double.binade = 4503599627370496 := rfl
  have hinf : double.infRung = 9218868437227405312 := rfl
  have hlp : double.leastPlace = -1074 := rfl
  obtain ⟨s, k, hd, h1, h2⟩ := h
  unfold Format.read at hd
  rw [hsw] at hd
  simp only [hbin, hinf, hlp] at hd
  obtain ⟨r, hr⟩ : ∃ r, x % 9223372036854775808 = r := ⟨_, rfl⟩
  obtain ⟨q, hq⟩ : ∃ q, x / 9223372036854775808 = q := ⟨_, rfl⟩
  have hq2 : q < 2 := by omega
  have hxq : x = q * 9223372036854775808 + r := by omega
  have hrl : r < 9223372036854775808 := by omega
  rw [hr, hq] at hd
  clear hr hq
  have hs : ((q % 2 == 1) = true ∧ q = 1) ∨ ((q % 2 == 1) = false ∧ q = 0) := by
    rcases Nat.lt_or_ge q 1 with h | h
    · right; have : q = 0 := by omega
      subst this; exact ⟨rfl, rfl⟩
    · left; have : q = 1 := by omega
      subst this; exact ⟨rfl, rfl⟩
  by_cases hsub : r < 4503599627370496
  · rw [if_pos hsub] at hd
    simp only [Datum.number.injEq] at hd
    obtain ⟨e1, e2, e3⟩ := hd
    have hk : k = 1074 := by omega
    have hz0 : z = 0 := by
      by_cases h0 : z.natAbs = 0
      · omega
      · exfalso
        have hp : 2 ^ 52 ≤ 2 ^ k := Nat.pow_le_pow_right (show 0 < 2 by decide) (by omega)
        have : 2 ^ k ≤ z.natAbs * 2 ^ k := Nat.le_mul_of_pos_left _ (by omega)
        have e52 : (2 : Nat) ^ 52 = 4503599627370496 := by decide
        omega
    subst hz0
    have hr0 : r = 0 := by rw [e2]; simp
    rcases hs with ⟨_, hq1⟩ | ⟨_, hq1⟩
    · exact .inr ⟨rfl, by omega⟩
    · exact .inl (by rw [N_zero]; omega)
  · rw [if_neg hsub] at hd
    by_cases hnor : r < 9218868437227405312
    · rw [if_pos hnor] at hd
      simp only [Datum.number.injEq] at hd
      obtain ⟨e1, e2, e3⟩ := hd
      have hn0 : z.natAbs ≠ 0 := by
        intro h0
        rw [h0, Nat.zero_mul] at e2
        omega
      have hz0 : z ≠ 0 := by omega
      obtain ⟨p1, p2⟩ := log2_bounds hn0
      have hL := log2_le52 hn0 hz
      have hk52 : k ≤ 52 := by
        by_cases hk : k ≤ 52
        · exact hk
        · exfalso
          have hp : 2 ^ 53 ≤ 2 ^ k := Nat.pow_le_pow_right (show 0 < 2 by decide) (by omega)
          have : 2 ^ k ≤ z.natAbs * 2 ^ k := Nat.le_mul_of_pos_left _ (by omega)
          have e53 : (2 : Nat) ^ 53 = 9007199254740992 := by decide
          omega
      have hlog : z.natAbs.log2 = 52 - k := by
        refine log2_of ?_ ?_
        · have hm : 2 ^ (52 - k) * 2 ^ k ≤ z.natAbs * 2 ^ k := by
            rw [← Nat.pow_add, show 52 - k + k = 52 by omega, ← e2]
            have e52 : (2 : Nat) ^ 52 = 4503599627370496 := by decide
            omega
          exact Nat.le_of_mul_le_mul_right hm (Nat.two_pow_pos k)
        · have hm : z.natAbs * 2 ^ k < 2 ^ (52 - k + 1) * 2 ^ k := by
            rw [← Nat.pow_add, show 52 - k + 1 + k = 53 by omega, ← e2]
            have e53 : (2 : Nat) ^ 53 = 9007199254740992 := by decide
            omega
          exact Nat.lt_of_mul_lt_mul_right hm
      left
      rw [N_eq hz0 hz, hlog, show 52 - (52 - k) = k by omega, ← e2]
      have hrr : (52 - k + 1022) * 4503599627370496 + (4503599627370496 + r % 4503599627370496) = r := by omega
      rw [hrr]
      rcases hs with ⟨hq0, hq1⟩ | ⟨hq0, hq1⟩
      · have hlt : z < 0 := by
          rw [hq0] at e1
          by_cases hlt : z < 0
          · exact hlt
          · have := h2 (by omega); rw [← e1] at this; cases this
        rw [decide_eq_true hlt, word_true]; omega
      · have hlt : ¬ z < 0 := by
          rw [hq0] at e1
          intro hlt
          have := h1 hlt; rw [← e1] at this; cases this
        rw [decide_eq_false hlt, word_false]; omega
    · rw [if_neg hnor] at hd
      split at hd <;> cases hd

theorem signed_mul (s : Bool) (m n : Nat) : signed s m n = signed s m 0 * ((2 ^ n : Nat) : Int) := by
  unfold signed
  rw [Nat.shiftLeft_eq, Nat.shiftLeft_eq, Nat.pow_zero, Nat.mul_one]
  cases s
  · simp
  · simp [Int.neg_mul]
theorem cmpI_mul {a b N : Int} (hN : 0 < N) : compareOfLessAndEq (a * N) (b * N) = cmpI a b := by
  unfold compareOfLessAndEq cmpI
  rcases Int.lt_trichotomy a b with h | h | h
  · rw [if_pos (Int.mul_lt_mul_of_pos_right h hN), if_pos h]
  · subst h; rw [if_neg (Int.lt_irrefl _), if_pos rfl, if_neg (Int.lt_irrefl _), if_pos rfl]
  · have h' := Int.mul_lt_mul_of_pos_right h hN
    rw [if_neg (by omega), if_neg (by omega), if_neg (by omega), if_neg (by omega)]
/-- A number against a whole one. -/
theorem order_num {e : Datum} {z : Int} (h : DI e z) (s : Bool) (m k : Nat) : (Datum.number s m (-(k : Int))).order e = some (cmpI (signed s m 0) (z * ((2 ^ k : Nat) : Int))) ∧
    e.order (Datum.number s m (-(k : Int))) = some (cmpI (z * ((2 ^ k : Nat) : Int)) (signed s m 0)) := by
  obtain ⟨t, l, rfl, g1, g2⟩ := h
  have e1 : (-(k : Int) - min (-(k : Int)) (-(l : Int))).toNat = max k l - k := by omega
  have e2 : (-(l : Int) - min (-(k : Int)) (-(l : Int))).toNat = max k l - l := by omega
  have e3 : (-(k : Int) - min (-(l : Int)) (-(k : Int))).toNat = max k l - k := by omega
  have e4 : (-(l : Int) - min (-(l : Int)) (-(k : Int))).toNat = max k l - l := by omega
  have hz : signed t (z.natAbs * 2 ^ l) (max k l - l) = (z * ((2 ^ k : Nat) : Int)) * ((2 ^ (max k l - k) : Nat) : Int) := by
    rw [signed_of _ _ g1 g2, show l + (max k l - l) = k + (max k l - k) by omega, Nat.pow_add, Int.natCast_mul, Int.mul_assoc]
  have hm := signed_mul s m (max k l - k)
  have hp := pow_pos' (max k l - k)
  constructor
  · have ho : (Datum.number s m (-(k : Int))).order (.number t (z.natAbs * 2 ^ l) (-(l : Int))) = some (compareOfLessAndEq (signed s m (-(k : Int) - min (-(k : Int)) (-(l : Int))).toNat) (signed t (z.natAbs * 2 ^ l) (-(l : Int) - min (-(k : Int)) (-(l : Int))).toNat)) := rfl
    rw [ho, e1, e2, hz, hm, cmpI_mul hp]
  · have ho : (Datum.number t (z.natAbs * 2 ^ l) (-(l : Int))).order (.number s m (-(k : Int))) = some (compareOfLessAndEq (signed t (z.natAbs * 2 ^ l) (-(l : Int) - min (-(l : Int)) (-(k : Int))).toNat) (signed s m (-(k : Int) - min (-(l : Int)) (-(k : Int))).toNat)) := rfl
    rw [ho, e3, e4, hz, hm, cmpI_mul hp]
theorem cut_div (s : Bool) (m k : Nat) : Toward.zero.cut s m k = m / 2 ^ k := by
  unfold Toward.cut
  simp only [Nat.shiftLeft_eq, Nat.one_mul]
  have hf : m / 2 ^ min k (m.log2 + 2) + false.toNat = m / 2 ^ min k (m.log2 + 2) := rfl
  rw [hf]
  by_cases hk : k ≤ m.log2 + 2
  · rw [Nat.min_eq_left hk]
  · rw [Nat.min_eq_right (by omega)]
    by_cases h0 : m = 0
    · subst h0; simp
    · have h1 := (log2_bounds h0).2
      have h2 : 2 ^ (m.log2 + 1) ≤ 2 ^ (m.log2 + 2) := Nat.pow_le_pow_right (show 0 < 2 by decide) (by omega)
      have h3 : 2 ^ (m.log2 + 1) ≤ 2 ^ k := Nat.pow_le_pow_right (show 0 < 2 by decide) (by omega)
      rw [Nat.div_eq_of_lt (by omega), Nat.div_eq_of_lt (by omega)]

/-- The tests that a word fails ahead. -/
def N1 (x : Nat) : Prop := ((FloatKind.f64.format.order x 0 == some .gt) = false ∧ (FloatKind.f64.format.order x 0 == some .eq) = false) ∨
  (((FloatKind.f64.format.order x 0 == some .gt) = true ∧ (FloatKind.f64.format.order x 0 == some .eq) = false ∨ (FloatKind.f64.format.order x 0 == some .gt) = false ∧ (FloatKind.f64.format.order x 0 == some .eq) = true) ∧ (FloatKind.f64.format.order x 4666727020758040576 == some .lt) = false)
/-- .. the test that it fails behind them. -/
def N2 (x : Nat) : Prop := ((FloatKind.f64.format.order x 0 == some .gt) = true ∧ (FloatKind.f64.format.order x 0 == some .eq) = false ∨ (FloatKind.f64.format.order x 0 == some .gt) = false ∧ (FloatKind.f64.format.order x 0 == some .eq) = true) ∧
  (FloatKind.f64.format.order x 4666727020758040576 == some .lt) = true ∧ (∃ s m p, FloatKind.f64.decode x = .number s m p) ∧ (FloatKind.f64.format.order (FloatKind.f64.encode ((FloatKind.f64.decode x).integral .zero)) x == some .eq) = false ∧
  ∃ n : Nat, n ≤ 10006 ∧ floatToIntVal .f64 x .i64 = some (n : Int) ∧ (FloatKind.f64.format.order (N (n : Int)) x == some .eq) = false
theorem read_form (x : Nat) : (∃ s m k, double.read x = .number s m (-((k : Nat) : Int))) ∨ (∃ s m p, double.read x = .number s m p ∧ 0 < p ∧ 4503599627370496 ≤ m) ∨ (∃ s, double.read x = .infinity s) ∨ (∃ s t, double.read x = .nan s t) := by
  unfold Format.read
  simp only
  have hbin : double.binade = 4503599627370496 := rfl
  have hlp : double.leastPlace = -1074 := rfl
  rw [hbin, hlp]
  generalize (x / double.signWeight % 2 == 1) = s
  generalize x % double.signWeight = r
  split
  · exact .inl ⟨s, r, 1074, rfl⟩
  · split
    · by_cases hp : (-1074 : Int) + ((r / 4503599627370496 - 1 : Nat) : Int) ≤ 0
      · left
        refine ⟨s, 4503599627370496 + r % 4503599627370496, (1074 - (r / 4503599627370496 - 1)), ?_⟩
        rw [show -1074 + ((r / 4503599627370496 - 1 : Nat) : Int) = -((1074 - (r / 4503599627370496 - 1) : Nat) : Int) by omega]
      · right; left
        exact ⟨s, _, _, rfl, by omega, by omega⟩
    · split
      · exact .inr (.inr (.inl ⟨s, rfl⟩))
      · exact .inr (.inr (.inr ⟨s, _, rfl⟩))

theorem cmpI_lt {a b : Int} (h : a < b) : cmpI a b = .lt := if_pos h
theorem cmpI_gt {a b : Int} (h : b < a) : cmpI a b = .gt := by unfold cmpI; rw [if_neg (by omega), if_neg (by omega)]
theorem cmpI_eq {a b : Int} (h : a = b) : cmpI a b = .eq := by unfold cmpI; rw [if_neg (by omega), if_pos h]
theorem signed0 (s : Bool) (m : Nat) : signed s m 0 = if s then -(m : Int) else (m : Int) := by
  unfold signed; rw [Nat.shiftLeft_eq, Nat.pow_zero, Nat.mul_one]
/-- The orders of a word against the bounds. -/
theorem n1_of_lt {x : Nat} (h : FloatKind.f64.format.order x 0 = some .lt) : N1 x := by
  left; rw [h]; exact ⟨rfl, rfl⟩
theorem n1_of_none {x : Nat} (h : FloatKind.f64.format.order x 0 = none) : N1 x := by
  left; rw [h]; exact ⟨rfl, rfl⟩
theorem n1_of_ge {x : Nat} (h : FloatKind.f64.format.order x 0 = some .gt ∨ FloatKind.f64.format.order x 0 = some .eq) (g : FloatKind.f64.format.order x 4666727020758040576 ≠ some .lt) : N1 x := by
  right
  refine ⟨?_, by simpa using g⟩
  rcases h with h | h
  · left; rw [h]; exact ⟨rfl, rfl⟩
  · right; rw [h]; exact ⟨rfl, rfl⟩
theorem order_inf (s : Bool) {e : Datum} {z : Int} (h : DI e z) : (Datum.infinity s).order e = some (if s then .lt else .gt) := by
  obtain ⟨t, l, rfl, _, _⟩ := h
  cases s <;> rfl
theorem order_nan (s : Bool) (t : Nat) (e : Datum) : (Datum.nan s t).order e = none := rfl
theorem DI0 : DI (double.read 0) 0 := W.read (.inl N_zero.symm) (by decide)
theorem DI7 : DI (double.read 4666727020758040576) 10007 := W.read (.inl N_10007.symm) (by decide)
set_option maxRecDepth 100000 in
theorem classify (x : Nat) (hx : x < 18446744073709551616) : (∃ n : Nat, n ≤ 10006 ∧ W x (n : Int)) ∨ N1 x ∨ N2 x := by
  have ord : ∀ y, FloatKind.f64.format.order x y = (double.read x).order (double.read y) := fun _ => rfl
  rcases read_form x with ⟨s, m, k, hr⟩ | ⟨s, m, p, hr, hp, hm⟩ | ⟨s, hr⟩ | ⟨s, t, hr⟩
  · have o0 := (order_num DI0 s m k).1
    have o7 := (order_num DI7 s m k).1
    rw [← hr, ← ord] at o0 o7
    have hk := Nat.two_pow_pos k
    rw [signed0] at o0 o7
    by_cases hneg : (if s then -(m : Int) else (m : Int)) < 0
    · rw [cmpI_lt (by rw [Int.zero_mul]; exact hneg)] at o0
      exact .inr (.inl (n1_of_lt o0))
    · have hge : FloatKind.f64.format.order x 0 = some .gt ∨ FloatKind.f64.format.order x 0 = some .eq := by
        by_cases h0 : (if s then -(m : Int) else (m : Int)) = 0
        · rw [cmpI_eq (by rw [Int.zero_mul]; exact h0)] at o0; exact .inr o0
        · rw [cmpI_gt (by rw [Int.zero_mul]; omega)] at o0; exact .inl o0
      have hX : (if s then -(m : Int) else (m : Int)) = (m : Int) := by
        cases s
        · rfl
        · simp only [if_true] at hneg ⊢; omega
      have hs0 : s = true → m = 0 := by
        intro hs; subst hs; simp only [if_true] at hneg; omega
      rw [hX] at o7 o0
      by_cases hbig : m < 10007 * 2 ^ k
      · have hbI : (m : Int) < 10007 * ((2 ^ k : Nat) : Int) := by exact_mod_cast hbig
        rw [cmpI_lt hbI] at o7
        obtain ⟨n, hn⟩ : ∃ n, m / 2 ^ k = n := ⟨_, rfl⟩
        have hn7 : n ≤ 10006 := by
          have : m / 2 ^ k < 10007 := (Nat.div_lt_iff_lt_mul hk).2 hbig
          omega
        have hsn : s = true → n = 0 := by intro hs; rw [← hn, hs0 hs]; exact Nat.zero_div _
        by_cases heq : n * 2 ^ k = m
        · left
          refine ⟨n, hn7, DI_W hx ⟨s, k, ?_, fun h => by omega, fun h => ?_⟩ (by omega)⟩
          · rw [hr, ← heq]; rfl
          · cases s
            · rfl
            · have := hsn rfl; omega
        · right; right
          have hne : (cmpI ((n : Int) * ((2 ^ k : Nat) : Int)) (m : Int) == .eq) = false := by
            rcases Nat.lt_or_ge (n * 2 ^ k) m with h | h
            · rw [cmpI_lt (by exact_mod_cast h)]; rfl
            · rw [cmpI_gt (by have h2 : m < n * 2 ^ k := by omega
                              exact_mod_cast h2)]; rfl
          have hd : FloatKind.f64.decode x = .number s m (-(k : Int)) := hr
          have hcut : Toward.zero.cut s (m <<< (-(k : Int)).toNat) (- -(k : Int)).toNat = n := by
            rw [show (-(k : Int)).toNat = 0 by omega, show (- -(k : Int)).toNat = k by omega, Nat.shiftLeft_eq, Nat.pow_zero, Nat.mul_one, cut_div, hn]
          have hint : FloatKind.f64.encode ((FloatKind.f64.decode x).integral .zero) = double.write (.number s n 0) := by
            rw [hd]
            show double.write (.number s (Toward.zero.cut s (m <<< (-(k : Int)).toNat) (- -(k : Int)).toNat) 0) = _
            rw [hcut]
          have hDIn : DI (.number s n 0) (n : Int) := by
            refine ⟨s, 0, ?_, fun h => by omega, fun h => ?_⟩
            · simp
            · cases s
              · rfl
              · have := hsn rfl; omega
          have hWn := hDIn.write (by omega)
          have key : ∀ u, W u (n : Int) → (FloatKind.f64.format.order u x == some .eq) = false := by
            intro u hu
            have := (order_num (hu.read (by omega)) s m k).2
            rw [← hr, signed0, hX] at this
            have h2 : FloatKind.f64.format.order u x = (double.read u).order (double.read x) := rfl
            rw [h2, this]
            simpa using hne
          refine ⟨?_, by rw [o7]; rfl, ⟨s, m, _, hd⟩, ?_, n, hn7, ?_, key _ (W.of _)⟩
          · rcases hge with h | h
            · left; rw [h]; exact ⟨rfl, rfl⟩
            · right; rw [h]; exact ⟨rfl, rfl⟩
          · rw [hint]; exact key _ hWn
          · have ht : (FloatKind.f64.decode x).toInt .zero = some (n : Int) := by
              rw [hd]
              show some (signed s (Toward.zero.cut s (m <<< (-(k : Int)).toNat) (- -(k : Int)).toNat) 0) = _
              rw [hcut, signed0]
              cases s
              · rfl
              · have := hsn rfl; subst this; rfl
            unfold floatToIntVal
            rw [ht]
            simp only
            rw [if_pos]
            constructor
            · show (-9223372036854775808 : Int) ≤ _; omega
            · show (n : Int) ≤ 9223372036854775807; omega
      · right; left
        refine n1_of_ge hge ?_
        rw [o7]
        intro h
        have hbI : 10007 * ((2 ^ k : Nat) : Int) ≤ (m : Int) := by exact_mod_cast (show 10007 * 2 ^ k ≤ m by omega)
        rcases Int.lt_or_eq_of_le hbI with h1 | h1
        · rw [cmpI_gt h1] at h; cases h
        · rw [cmpI_eq h1.symm] at h; cases h
  · right; left
    have e0 : ∀ {e : Datum} {z : Int}, DI e z → (Datum.number s m p).order e = some (cmpI (signed s m p.toNat) z) := by
      rintro e z ⟨t, l, rfl, g1, g2⟩
      have e1 : (p - min p (-(l : Int))).toNat = p.toNat + l := by omega
      have e2 : (-(l : Int) - min p (-(l : Int))).toNat = 0 := by omega
      have ho : (Datum.number s m p).order (.number t (z.natAbs * 2 ^ l) (-(l : Int))) = some (compareOfLessAndEq (signed s m (p - min p (-(l : Int))).toNat) (signed t (z.natAbs * 2 ^ l) (-(l : Int) - min p (-(l : Int))).toNat)) := rfl
      rw [ho, e1, e2, signed_of _ _ g1 g2, signed_mul s m (p.toNat + l), Nat.pow_add, Int.natCast_mul, ← Int.mul_assoc, ← signed_mul, Nat.add_zero, cmpI_mul (pow_pos' l)]
    have o0 := e0 DI0
    have o7 := e0 DI7
    rw [← hr, ← ord, signed_mul] at o0 o7
    have hP := Nat.two_pow_pos p.toNat
    rw [signed0] at o0 o7
    cases s
    · rw [if_neg (by decide)] at o0 o7
      have hb : 10007 < m * 2 ^ p.toNat := by
        have := Nat.le_mul_of_pos_right m hP
        omega
      have hbI : (10007 : Int) < (m : Int) * ((2 ^ p.toNat : Nat) : Int) := by exact_mod_cast hb
      rw [cmpI_gt (by omega)] at o0
      rw [cmpI_gt hbI] at o7
      exact n1_of_ge (.inl o0) (by rw [o7]; intro h; cases h)
    · rw [if_pos rfl] at o0 o7
      have hbI : -(m : Int) * ((2 ^ p.toNat : Nat) : Int) < 0 := Int.mul_neg_of_neg_of_pos (by omega) (by omega)
      rw [cmpI_lt hbI] at o0
      exact n1_of_lt o0
  · right; left
    have o0 := order_inf s DI0
    have o7 := order_inf s DI7
    rw [← hr, ← ord] at o0 o7
    cases s
    · exact n1_of_ge (.inl o0) (by rw [o7]; intro h; cases h)
    · exact n1_of_lt o0
  · right; left
    exact n1_of_none (by rw [ord, hr]; rfl)
end Go.Proofs.Ytofnoillkfagiaa
