/-
  Whole numbers as words of floating point: what the operations give of them.
  Conditions: none beyond those typed at each theorem. No program in sight.
-/
import Derived.Laws.ComplexArith
namespace Go.Proofs.Ytofnoillkfagiaa
open Go Ieee

/-- The datum stands for the whole number z (a zero of whichever sign). -/
def DI (d : Datum) (z : Int) : Prop := ∃ (s : Bool) (k : Nat), d = .number s (z.natAbs * 2 ^ k) (-(k : Int)) ∧ (z < 0 → s = true) ∧ (0 < z → s = false)

theorem signed_of {s : Bool} {z : Int} (k n : Nat) (h1 : z < 0 → s = true) (h2 : 0 < z → s = false) : signed s (z.natAbs * 2 ^ k) n = z * ((2 ^ (k + n) : Nat) : Int) := by
  have hs : ((z.natAbs * 2 ^ k) <<< n : Nat) = z.natAbs * 2 ^ (k + n) := by rw [Nat.shiftLeft_eq, Nat.mul_assoc, ← Nat.pow_add]
  unfold signed
  rw [hs]
  generalize 2 ^ (k + n) = N
  rw [Int.natCast_mul]
  rcases Int.lt_trichotomy z 0 with h | h | h
  · rw [h1 h, if_pos rfl]
    have : (z.natAbs : Int) = -z := by omega
    rw [this, Int.neg_mul, Int.neg_neg]
  · subst h; simp
  · rw [h2 h]
    have : (z.natAbs : Int) = z := by omega
    simp [this]
theorem natAbs_pow (z : Int) (n : Nat) : (z * ((2 ^ n : Nat) : Int)).natAbs = z.natAbs * 2 ^ n := by rw [Int.natAbs_mul, Int.natAbs_natCast]
theorem pow_pos' (n : Nat) : (0 : Int) < ((2 ^ n : Nat) : Int) := by have := Nat.two_pow_pos n; omega
theorem mul_neg_iff' {z N : Int} (hN : 0 < N) : z * N < 0 ↔ z < 0 := by
  constructor
  · intro h
    by_cases h' : z < 0
    · exact h'
    · have := Int.mul_nonneg (show 0 ≤ z by omega) (Int.le_of_lt hN); omega
  · intro h; exact Int.mul_neg_of_neg_of_pos h hN
theorem mul_zero_iff' {z N : Int} (hN : 0 < N) : z * N = 0 ↔ z = 0 := by
  constructor
  · intro h
    rcases Int.mul_eq_zero.1 h with h | h
    · exact h
    · omega
  · intro h; rw [h, Int.zero_mul]
theorem base_of (k l : Nat) : min (-(k : Int)) (-(l : Int)) = -((max k l : Nat) : Int) := by omega

theorem DI.sum {d e : Datum} {a b : Int} (h : DI d a) (g : DI e b) : ∃ r, d.sum e = some r ∧ DI r (a + b) := by
  obtain ⟨s, k, rfl, h1, h2⟩ := h
  obtain ⟨t, l, rfl, g1, g2⟩ := g
  refine ⟨_, rfl, ?_⟩
  have e1 : (-(k : Int) - min (-(k : Int)) (-(l : Int))).toNat = max k l - k := by omega
  have e2 : (-(l : Int) - min (-(k : Int)) (-(l : Int))).toNat = max k l - l := by omega
  have ht : signed s (a.natAbs * 2 ^ k) (-(k : Int) - min (-(k : Int)) (-(l : Int))).toNat + signed t (b.natAbs * 2 ^ l) (-(l : Int) - min (-(k : Int)) (-(l : Int))).toNat = (a + b) * ((2 ^ max k l : Nat) : Int) := by
    rw [e1, e2, signed_of _ _ h1 h2, signed_of _ _ g1 g2, show k + (max k l - k) = max k l by omega, show l + (max k l - l) = max k l by omega, Int.add_mul]
  simp only [ht]
  refine ⟨if (a + b) * ((2 ^ max k l : Nat) : Int) = 0 then s && t else decide ((a + b) * ((2 ^ max k l : Nat) : Int) < 0), max k l, ?_, ?_, ?_⟩
  · rw [natAbs_pow, base_of]
  · intro hz
    have hp := pow_pos' (max k l)
    rw [if_neg (by rw [mul_zero_iff' hp]; omega)]
    exact decide_eq_true ((mul_neg_iff' hp).2 hz)
  · intro hz
    have hp := pow_pos' (max k l)
    rw [if_neg (by rw [mul_zero_iff' hp]; omega)]
    exact decide_eq_false (by rw [mul_neg_iff' hp]; omega)
theorem DI.opposite {d : Datum} {a : Int} (h : DI d a) : DI d.opposite (-a) := by
  obtain ⟨s, k, rfl, h1, h2⟩ := h
  refine ⟨!s, k, by rw [Int.natAbs_neg]; rfl, fun h => by rw [h2 (by omega)]; rfl, fun h => by rw [h1 (by omega)]; rfl⟩
theorem DI.product {d e : Datum} {a b : Int} (h : DI d a) (g : DI e b) : ∃ r, d.product e = some r ∧ DI r (a * b) := by
  obtain ⟨s, k, rfl, h1, h2⟩ := h
  obtain ⟨t, l, rfl, g1, g2⟩ := g
  refine ⟨_, rfl, s ^^ t, k + l, ?_, ?_, ?_⟩
  · have e1 : a.natAbs * 2 ^ k * (b.natAbs * 2 ^ l) = (a * b).natAbs * 2 ^ (k + l) := by
      rw [Int.natAbs_mul, Nat.pow_add, Nat.mul_mul_mul_comm]
    have e2 : -(k : Int) + -(l : Int) = -((k + l : Nat) : Int) := by omega
    rw [e1, e2]
  · intro hz
    rcases Int.lt_trichotomy a 0 with ha | ha | ha
    · rcases Int.lt_trichotomy b 0 with hb | hb | hb
      · have := Int.mul_pos_of_neg_of_neg ha hb; omega
      · subst hb; simp at hz
      · rw [h1 ha, g2 hb]; rfl
    · subst ha; simp at hz
    · rcases Int.lt_trichotomy b 0 with hb | hb | hb
      · rw [h2 ha, g1 hb]; rfl
      · subst hb; simp at hz
      · have := Int.mul_pos ha hb; omega
  · intro hz
    rcases Int.lt_trichotomy a 0 with ha | ha | ha
    · rcases Int.lt_trichotomy b 0 with hb | hb | hb
      · rw [h1 ha, g1 hb]; rfl
      · subst hb; simp at hz
      · have := Int.mul_neg_of_neg_of_pos ha hb; omega
    · subst ha; simp at hz
    · rcases Int.lt_trichotomy b 0 with hb | hb | hb
      · have := Int.mul_neg_of_pos_of_neg ha hb; omega
      · subst hb; simp at hz
      · rw [h2 ha, g2 hb]; rfl
/-- How whole numbers stand to each other. -/
def cmpI (a b : Int) : Ordering := if a < b then .lt else if a = b then .eq else .gt
theorem DI.order {d e : Datum} {a b : Int} (h : DI d a) (g : DI e b) : d.order e = some (cmpI a b) := by
  obtain ⟨s, k, rfl, h1, h2⟩ := h
  obtain ⟨t, l, rfl, g1, g2⟩ := g
  have e1 : (-(k : Int) - min (-(k : Int)) (-(l : Int))).toNat = max k l - k := by omega
  have e2 : (-(l : Int) - min (-(k : Int)) (-(l : Int))).toNat = max k l - l := by omega
  show some (compare _ _) = _
  rw [e1, e2, signed_of _ _ h1 h2, signed_of _ _ g1 g2, show k + (max k l - k) = max k l by omega, show l + (max k l - l) = max k l by omega]
  have hp := pow_pos' (max k l)
  generalize ((2 ^ max k l : Nat) : Int) = N at hp
  congr 1
  show compareOfLessAndEq (a * N) (b * N) = _
  unfold compareOfLessAndEq cmpI
  rcases Int.lt_trichotomy a b with h | h | h
  · rw [if_pos (Int.mul_lt_mul_of_pos_right h hp), if_pos h]
  · subst h; rw [if_neg (Int.lt_irrefl _), if_pos rfl, if_neg (Int.lt_irrefl _), if_pos rfl]
  · have h' := Int.mul_lt_mul_of_pos_right h hp
    rw [if_neg (by omega), if_neg (by omega), if_neg (by omega), if_neg (by omega)]

/-! Words -/
/-- The word of a whole number. -/
def N (z : Int) : Nat := floatOfInt .f64 z
/-- The word stands for the whole number z. -/
def W (b : Nat) (z : Int) : Prop := b = N z ∨ (z = 0 ∧ b = 9223372036854775808)
theorem W.of (z : Int) : W (N z) z := .inl rfl

theorem log2_of {n L : Nat} (h1 : 2 ^ L ≤ n) (h2 : n < 2 ^ (L + 1)) : n.log2 = L := by
  have h0 : n ≠ 0 := by have := Nat.two_pow_pos L; omega
  have a1 : L ≤ n.log2 := (Nat.le_log2 h0).2 h1
  have a2 : n.log2 < L + 1 := (Nat.log2_lt h0).2 h2
  omega
theorem cut_exact (s : Bool) (n k : Nat) (hn : n ≠ 0) : Toward.even.cut s (n * 2 ^ k) k = n ∧ Toward.zero.cut s (n * 2 ^ k) k = n := by
  have hlog : k ≤ (n * 2 ^ k).log2 := by
    refine (Nat.le_log2 ?_).2 ?_
    · have := Nat.two_pow_pos k
      exact Nat.mul_ne_zero hn (by omega)
    · have : 1 ≤ n := by omega
      calc 2 ^ k = 1 * 2 ^ k := (Nat.one_mul _).symm
        _ ≤ n * 2 ^ k := Nat.mul_le_mul_right _ this
  have hmin : min k ((n * 2 ^ k).log2 + 2) = k := by omega
  have hg : (1 <<< k : Nat) = 2 ^ k := by rw [Nat.shiftLeft_eq, Nat.one_mul]
  have hp := Nat.two_pow_pos k
  unfold Toward.cut
  simp only [hmin, hg, Nat.mul_div_cancel _ hp, Nat.mul_mod_left]
  have h1 : decide (2 ^ k < 2 * 0) = false := decide_eq_false (by omega)
  have h2 : (2 ^ k == 2 * 0) = false := by rw [beq_eq_false_iff_ne]; omega
  constructor
  · simp [h2]
  · simp

theorem nearest_int (s : Bool) {n L : Nat} (k : Nat) (h1 : 2 ^ L ≤ n) (h2 : n < 2 ^ (L + 1)) (hL : L ≤ 52) :
    double.nearest s (n * 2 ^ k) (-(k : Int)) = double.word s ((L + 1022) * 4503599627370496 + n * 2 ^ (52 - L)) := by
  have hpk := Nat.two_pow_pos k
  have hn : n ≠ 0 := by have := Nat.two_pow_pos L; omega
  have hlog : (n * 2 ^ k).log2 = L + k := by
    refine log2_of ?_ ?_
    · rw [Nat.pow_add]; exact Nat.mul_le_mul_right _ h1
    · rw [show L + k + 1 = (L + 1) + k by omega, Nat.pow_add]; exact Nat.mul_lt_mul_of_pos_right h2 hpk
  have hlp : double.leastPlace = -1074 := rfl
  have hfb : (double.fractionBits : Int) = 52 := rfl
  have hlast : max (-(k : Int) + ((n * 2 ^ k).log2 : Int) - (double.fractionBits : Int)) double.leastPlace = (L : Int) - 52 := by rw [hlog, hlp, hfb]; omega
  have hb1 : n * 2 ^ (52 - L) < 9007199254740992 := by
    have : n * 2 ^ (52 - L) < 2 ^ (L + 1) * 2 ^ (52 - L) := Nat.mul_lt_mul_of_pos_right h2 (Nat.two_pow_pos _)
    rw [← Nat.pow_add, show L + 1 + (52 - L) = 53 by omega] at this
    exact this
  unfold Format.nearest
  rw [if_neg (Nat.mul_ne_zero hn (by omega))]
  simp only [hlast]
  have e0 : ((L : Int) - 52 - double.leastPlace).toNat = L + 1022 := by rw [hlp]; omega
  have hbin : double.binade = 4503599627370496 := rfl
  have hinf : double.infRung = 2047 * 4503599627370496 := rfl
  have hkept : Toward.even.cut s ((n * 2 ^ k) <<< (-(k : Int) - ((L : Int) - 52)).toNat) ((L : Int) - 52 - -(k : Int)).toNat = n * 2 ^ (52 - L) := by
    by_cases hk : k ≤ 52 - L
    · have e1 : (-(k : Int) - ((L : Int) - 52)).toNat = 52 - L - k := by omega
      have e2 : ((L : Int) - 52 - -(k : Int)).toNat = 0 := by omega
      rw [e1, e2, Nat.shiftLeft_eq, Nat.mul_assoc, ← Nat.pow_add, show k + (52 - L - k) = 52 - L by omega]
      have := (cut_exact s (n * 2 ^ (52 - L)) 0 (Nat.mul_ne_zero hn (by have := Nat.two_pow_pos (52 - L); omega))).1
      rwa [Nat.pow_zero, Nat.mul_one] at this
    · have e1 : (-(k : Int) - ((L : Int) - 52)).toNat = 0 := by omega
      have e2 : ((L : Int) - 52 - -(k : Int)).toNat = k - (52 - L) := by omega
      rw [e1, e2, Nat.shiftLeft_eq, Nat.pow_zero, Nat.mul_one]
      have := (cut_exact s (n * 2 ^ (52 - L)) (k - (52 - L)) (Nat.mul_ne_zero hn (by have := Nat.two_pow_pos (52 - L); omega))).1
      rwa [Nat.mul_assoc, ← Nat.pow_add, show 52 - L + (k - (52 - L)) = k by omega] at this
  rw [hkept, e0, hbin, hinf, Nat.min_eq_left (by omega)]

theorem log2_bounds {n : Nat} (h0 : n ≠ 0) : 2 ^ n.log2 ≤ n ∧ n < 2 ^ (n.log2 + 1) := ⟨(Nat.le_log2 h0).1 (Nat.le_refl _), (Nat.log2_lt h0).1 (Nat.lt_succ_self _)⟩
theorem log2_le52 {n : Nat} (h0 : n ≠ 0) (h : n < 9007199254740992) : n.log2 ≤ 52 := by
  have : n.log2 < 53 := (Nat.log2_lt h0).2 h
  omega
/-- A nonzero whole number's word, written out. -/
theorem N_eq {z : Int} (h0 : z ≠ 0) (hz : z.natAbs < 9007199254740992) : N z = double.word (decide (z < 0)) ((z.natAbs.log2 + 1022) * 4503599627370496 + z.natAbs * 2 ^ (52 - z.natAbs.log2)) := by
  have hn : z.natAbs ≠ 0 := by omega
  obtain ⟨h1, h2⟩ := log2_bounds hn
  have := nearest_int (decide (z < 0)) 0 h1 h2 (log2_le52 hn hz)
  rw [Nat.pow_zero, Nat.mul_one] at this
  exact this
theorem N_zero : N 0 = 0 := by kernel_rfl
theorem DI.write {d : Datum} {z : Int} (h : DI d z) (hz : z.natAbs < 9007199254740992) : W (double.write d) z := by
  obtain ⟨s, k, rfl, h1, h2⟩ := h
  by_cases h0 : z = 0
  · subst h0
    cases s with
    | true => exact .inr ⟨rfl, by show double.nearest true (0 * 2 ^ k) _ = _; rw [Nat.zero_mul]; rfl⟩
    | false => exact .inl (by show double.nearest false (0 * 2 ^ k) _ = _; rw [Nat.zero_mul, N_zero]; rfl)
  · have hs : s = decide (z < 0) := by
      by_cases hlt : z < 0
      · rw [h1 hlt, decide_eq_true hlt]
      · rw [h2 (by omega), decide_eq_false hlt]
    have hn : z.natAbs ≠ 0 := by omega
    obtain ⟨p1, p2⟩ := log2_bounds hn
    left
    rw [N_eq h0 hz, ← hs]
    exact nearest_int s k p1 p2 (log2_le52 hn hz)
theorem mant {n L : Nat} (h1 : 2 ^ L ≤ n) (h2 : n < 2 ^ (L + 1)) (hL : L ≤ 52) : 4503599627370496 ≤ n * 2 ^ (52 - L) ∧ n * 2 ^ (52 - L) < 9007199254740992 := by
  constructor
  · have : 2 ^ L * 2 ^ (52 - L) ≤ n * 2 ^ (52 - L) := Nat.mul_le_mul_right _ h1
    rw [← Nat.pow_add, show L + (52 - L) = 52 by omega] at this
    exact this
  · have : n * 2 ^ (52 - L) < 2 ^ (L + 1) * 2 ^ (52 - L) := Nat.mul_lt_mul_of_pos_right h2 (Nat.two_pow_pos _)
    rw [← Nat.pow_add, show L + 1 + (52 - L) = 53 by omega] at this
    exact this
set_option maxRecDepth 100000 in
theorem read_word (s : Bool) {L M : Nat} (hL : L ≤ 52) (h1 : 4503599627370496 ≤ M) (h2 : M < 9007199254740992) :
    double.read (double.word s ((L + 1022) * 4503599627370496 + M)) = .number s M (-((52 - L : Nat) : Int)) := by
  have hsw : double.signWeight = 9223372036854775808 := rfl
  have hbin : double.binade = 4503599627370496 := rfl
  have hinf : double.infRung = 9218868437227405312 := rfl
  have hlp : double.leastPlace = -1074 := rfl
  obtain ⟨r, hr⟩ : ∃ r, (L + 1022) * 4503599627370496 + M = r := ⟨_, rfl⟩
  have hw : double.word s r / 9223372036854775808 % 2 = (if s then 1 else 0) ∧ double.word s r % 9223372036854775808 = r := by
    unfold Format.word
    rw [hsw]
    cases s <;> simp <;> omega
  unfold Format.read
  rw [hr, hsw]
  simp only [hw.1, hw.2, hbin, hinf, hlp]
  have hsb : ((if s = true then 1 else 0) == 1) = s := by cases s <;> rfl
  have e1 : 4503599627370496 + r % 4503599627370496 = M := by omega
  have e2 : (-1074 : Int) + ((r / 4503599627370496 - 1 : Nat) : Int) = -((52 - L : Nat) : Int) := by omega
  rw [hsb, if_neg (by omega), if_pos (by omega), e1, e2]
theorem W.read {b : Nat} {z : Int} (h : W b z) (hz : z.natAbs < 9007199254740992) : DI (double.read b) z := by
  by_cases h0 : z = 0
  · subst h0
    rcases h with rfl | ⟨_, rfl⟩
    · rw [N_zero]; exact ⟨false, 1074, by kernel_rfl, by omega, by omega⟩
    · exact ⟨true, 1074, by kernel_rfl, by omega, by omega⟩
  · rcases h with rfl | ⟨h, _⟩
    · have hn : z.natAbs ≠ 0 := by omega
      obtain ⟨p1, p2⟩ := log2_bounds hn
      have hL := log2_le52 hn hz
      obtain ⟨m1, m2⟩ := mant p1 p2 hL
      rw [N_eq h0 hz, read_word _ hL m1 m2]
      exact ⟨_, 52 - z.natAbs.log2, rfl, fun h => decide_eq_true h, fun h => decide_eq_false (by omega)⟩
    · exact absurd h h0

/-! The operations -/
theorem add_W {x y : Nat} {a b : Int} (h : W x a) (g : W y b) (ha : a.natAbs < 9007199254740992) (hb : b.natAbs < 9007199254740992) (hs : (a + b).natAbs < 9007199254740992) :
    ∃ r, floatBits .add .f64 x y = some r ∧ W r (a + b) := by
  obtain ⟨d, hd, hd2⟩ := (h.read ha).sum (g.read hb)
  exact ⟨double.write d, by show (Option.map double.write ((double.read x).sum (double.read y))) = _; rw [hd]; rfl, hd2.write hs⟩
theorem sub_W {x y : Nat} {a b : Int} (h : W x a) (g : W y b) (ha : a.natAbs < 9007199254740992) (hb : b.natAbs < 9007199254740992) (hs : (a - b).natAbs < 9007199254740992) :
    ∃ r, floatBits .sub .f64 x y = some r ∧ W r (a - b) := by
  obtain ⟨d, hd, hd2⟩ := (h.read ha).sum (g.read hb).opposite
  rw [← Int.sub_eq_add_neg] at hd2
  exact ⟨double.write d, by show (Option.map double.write ((double.read x).sum (double.read y).opposite)) = _; rw [hd]; rfl, hd2.write hs⟩
theorem mul_W {x y : Nat} {a b : Int} (h : W x a) (g : W y b) (ha : a.natAbs < 9007199254740992) (hb : b.natAbs < 9007199254740992) (hs : (a * b).natAbs < 9007199254740992) :
    ∃ r, floatBits .mul .f64 x y = some r ∧ W r (a * b) := by
  obtain ⟨d, hd, hd2⟩ := (h.read ha).product (g.read hb)
  exact ⟨double.write d, by show (Option.map double.write ((double.read x).product (double.read y))) = _; rw [hd]; rfl, hd2.write hs⟩
theorem order_W {x y : Nat} {a b : Int} (h : W x a) (g : W y b) (ha : a.natAbs < 9007199254740992) (hb : b.natAbs < 9007199254740992) : FloatKind.f64.format.order x y = some (cmpI a b) :=
  (h.read ha).order (g.read hb)
/-- archTrunc's word. -/
theorem trunc_W {x : Nat} {a : Int} (h : W x a) (ha : a.natAbs < 9007199254740992) : W (FloatKind.f64.encode ((FloatKind.f64.decode x).integral .zero)) a := by
  obtain ⟨s, k, hd, h1, h2⟩ := h.read ha
  have hd' : FloatKind.f64.decode x = .number s (a.natAbs * 2 ^ k) (-(k : Int)) := hd
  rw [hd']
  refine DI.write (d := ((Datum.number s (a.natAbs * 2 ^ k) (-(k : Int))).integral .zero)) ⟨s, 0, ?_, h1, h2⟩ ha
  show Datum.number s (Toward.zero.cut s ((a.natAbs * 2 ^ k) <<< (-(k : Int)).toNat) (- -(k : Int)).toNat) 0 = _
  have e1 : (-(k : Int)).toNat = 0 := by omega
  have e2 : (- -(k : Int)).toNat = k := by omega
  rw [e1, e2, Nat.shiftLeft_eq, Nat.pow_zero, Nat.mul_one, Nat.mul_one]
  by_cases h0 : a.natAbs = 0
  · rw [h0, Nat.zero_mul]
    congr 1
    unfold Toward.cut
    simp
  · rw [(cut_exact s _ k h0).2]; rfl
theorem toInt_W {x : Nat} {a : Int} (h : W x a) (ha : a.natAbs < 9007199254740992) (h1 : -9223372036854775808 ≤ a) (h2 : a ≤ 9223372036854775807) : floatToIntVal .f64 x .i64 = some a := by
  obtain ⟨s, k, hd, p1, p2⟩ := h.read ha
  have hd' : FloatKind.f64.decode x = .number s (a.natAbs * 2 ^ k) (-(k : Int)) := hd
  have ht : (FloatKind.f64.decode x).toInt .zero = some a := by
    rw [hd']
    show some (signed s (Toward.zero.cut s ((a.natAbs * 2 ^ k) <<< (-(k : Int)).toNat) (- -(k : Int)).toNat) 0) = _
    have e1 : (-(k : Int)).toNat = 0 := by omega
    have e2 : (- -(k : Int)).toNat = k := by omega
    rw [e1, e2, Nat.shiftLeft_eq, Nat.pow_zero, Nat.mul_one]
    have hc : Toward.zero.cut s (a.natAbs * 2 ^ k) k = a.natAbs := by
      by_cases h0 : a.natAbs = 0
      · rw [h0, Nat.zero_mul]; unfold Toward.cut; simp
      · exact (cut_exact s _ k h0).2
    rw [hc]
    have := signed_of 0 0 p1 p2
    rw [Nat.pow_zero, Nat.mul_one] at this
    rw [this]; simp
  unfold floatToIntVal
  rw [ht]
  simp only
  rw [if_pos]
  exact ⟨h1, h2⟩
end Go.Proofs.Ytofnoillkfagiaa
