/-
  Walks: the law of points apart.
-/
import Derived.Test.YtofnoillkfagiaaFj
namespace Go.Proofs.Ytofnoillkfagiaa
open Go Go.RowKit

theorem run_min2 (P : Program) (x y : Int) (W : World) : (Builtin.min2 (.int .i64 x) (.int .i64 y)).run P W = .ok (.int .i64 (min x y)) W := by
  by_cases hc : y < x
  · rw [Int.min_eq_right (by omega)]; simp [Builtin.min2, hc]
  · rw [Int.min_eq_left (by omega)]; simp [Builtin.min2, hc]
theorem run_max2 (P : Program) (x y : Int) (W : World) : (Builtin.max2 (.int .i64 x) (.int .i64 y)).run P W = .ok (.int .i64 (max x y)) W := by
  by_cases hc : x < y
  · rw [Int.max_eq_right (by omega)]; simp [Builtin.max2, hc]
  · rw [Int.max_eq_left (by omega)]; simp [Builtin.max2, hc]
theorem run_min4 (P : Program) (a : Array TypeId) (t : TypeId) (x y u v m : Int) (h : m = min (min (min x y) u) v) (W : World) : (Builtin.min_ a t #[.int .i64 x, .int .i64 y, .int .i64 u, .int .i64 v]).run P W = .ok (.int .i64 m) W := by
  subst h
  show Sem.run P (([.int .i64 y, .int .i64 u, .int .i64 v] : List Value).foldlM Builtin.min2 (.int .i64 x)) W = _
  simp only [List.foldlM_cons, List.foldlM_nil, Sem.run_bind, run_min2, Result.andThen_ok, Sem.run_pure]
theorem run_max4 (P : Program) (a : Array TypeId) (t : TypeId) (x y u v m : Int) (h : m = max (max (max x y) u) v) (W : World) : (Builtin.max_ a t #[.int .i64 x, .int .i64 y, .int .i64 u, .int .i64 v]).run P W = .ok (.int .i64 m) W := by
  subst h
  show Sem.run P (([.int .i64 y, .int .i64 u, .int .i64 v] : List Value).foldlM Builtin.max2 (.int .i64 x)) W = _
  simp only [List.foldlM_cons, List.foldlM_nil, Sem.run_bind, run_max2, Result.andThen_ok, Sem.run_pure]

theorem eq_W {x y : Nat} {a b : Int} (h : W x a) (g : W y b) (ha : a.natAbs < 9007199254740992) (hb : b.natAbs < 9007199254740992) : (FloatKind.f64.format.order x y == some .eq) = decide (a = b) := by
  rw [order_W h g ha hb]
  unfold cmpI
  by_cases h1 : a < b
  · rw [if_pos h1, decide_eq_false (by omega)]; rfl
  · by_cases h2 : a = b
    · rw [if_neg h1, if_pos h2, decide_eq_true h2]; rfl
    · rw [if_neg h1, if_neg h2, decide_eq_false h2]; rfl
/-- One point, two bytes. -/
theorem apart_byte (a b x y : Int) (hx0 : 0 ≤ x) (hx1 : x ≤ 255) (hy0 : 0 ≤ y) (hy1 : y ≤ 255) : decide (nxR a b x = nxR a b y) = decide (x = y) := by
  apply decide_eq_decide.2
  unfold nxR
  constructor
  · intro h; omega
  · rintro rfl; rfl
/-- Two points, one byte. -/
theorem apart_point (a b c d x : Int) (ha0 : 0 ≤ a) (ha1 : a ≤ 10006) (hb0 : 0 ≤ b) (hb1 : b ≤ 10006) (hc0 : 0 ≤ c) (hc1 : c ≤ 10006) (hd0 : 0 ≤ d) (hd1 : d ≤ 10006) :
    (decide (nxR a b x = nxR c d x) && decide (nxI a b = nxI c d)) = (decide (a = c) && decide (b = d)) := by
  have h : (nxR a b x = nxR c d x ∧ nxI a b = nxI c d) ↔ (a = c ∧ b = d) := by
    constructor
    · rintro ⟨h1, h2⟩
      unfold nxR at h1
      unfold nxI at h2
      have e1 := Int.emod_add_mul_ediv (a * 3 - b * 5 + (x + 1)) 10007
      have e2 := Int.emod_add_mul_ediv (c * 3 - d * 5 + (x + 1)) 10007
      have e3 := Int.emod_add_mul_ediv (a * 5 + b * 3) 10007
      have e4 := Int.emod_add_mul_ediv (c * 5 + d * 3) 10007
      rw [h1] at e1
      rw [h2] at e3
      generalize (a * 3 - b * 5 + (x + 1)) / 10007 = g1 at e1
      generalize (c * 3 - d * 5 + (x + 1)) / 10007 = g2 at e2
      generalize (a * 5 + b * 3) / 10007 = g3 at e3
      generalize (c * 5 + d * 3) / 10007 = g4 at e4
      generalize (c * 3 - d * 5 + (x + 1)) % 10007 = y1 at e1 e2
      generalize (c * 5 + d * 3) % 10007 = y2 at e3 e4
      clear h1 h2
      have f1 : (a - c) * 34 = 10007 * (3 * (g1 - g2) + 5 * (g3 - g4)) := by omega
      have f2 : (b - d) * 34 = 10007 * (3 * (g3 - g4) - 5 * (g1 - g2)) := by omega
      generalize 3 * (g1 - g2) + 5 * (g3 - g4) = m1 at f1
      generalize 3 * (g3 - g4) - 5 * (g1 - g2) = m2 at f2
      clear e1 e2 e3 e4
      obtain ⟨u, hu⟩ : ∃ u, u = a - c := ⟨_, rfl⟩
      obtain ⟨v, hv⟩ : ∃ v, v = b - d := ⟨_, rfl⟩
      rw [← hu] at f1
      rw [← hv] at f2
      have k1 : u = 10007 * (883 * m1 - 3 * u) := by omega
      have k2 : v = 10007 * (883 * m2 - 3 * v) := by omega
      generalize 883 * m1 - 3 * u = w1 at k1
      generalize 883 * m2 - 3 * v = w2 at k2
      clear f1 f2
      omega
    · rintro ⟨rfl, rfl⟩; exact ⟨rfl, rfl⟩
  rw [← Bool.decide_and, ← Bool.decide_and]
  exact decide_eq_decide.2 h

set_option maxRecDepth 100000 in
set_option maxHeartbeats 1000000 in
theorem gaussApart_law (w : World) (a b c d x y : Int) (hx0 : 0 ≤ x) (hx1 : x ≤ 255) (hy0 : 0 ≤ y) (hy1 : y ≤ 255) :
    Calls Try.prog 4 #[.int .i64 a, .int .i64 b, .int .i64 c, .int .i64 d, .int .u8 x, .int .u8 y] w fun e w' => e = .returned (.bool true) ∧ Gr w w' := by
  obtain ⟨mn, hmn⟩ : ∃ mn, mn = min (min (min a b) c) d := ⟨_, rfl⟩
  obtain ⟨mx, hmx⟩ : ∃ mx, mx = max (max (max a b) c) d := ⟨_, rfl⟩
  have r1 := fun s t W => run_min4 Try.prog s t a b c d mn hmn W
  have r2 := fun s t W => run_max4 Try.prog s t a b c d mx hmx W
  have HWK := Lib.hid (fun W => wakes_any W)
  by_cases hbad : mn < 0 ∨ 10006 < mx
  · have hb' : mn < 0 ∨ (¬ mn < 0 ∧ 10006 < mx) := by omega
    clear hmn hmx
    rcases hb' with h1 | ⟨h1, h2⟩
    all_goals
      go_enter Try.func4, Try.ntmps4
      go_wp2_with fail
      refine (HWK.out _).mono ?_
      rintro e w2 ⟨rfl, hg2⟩
      go_wp2
      go_ret
      exact ⟨rfl, hg2⟩
  · have q1 : ¬ mn < 0 := by omega
    have q2 : ¬ 10006 < mx := by omega
    have a0 : 0 ≤ a := by omega
    have a1 : a ≤ 10006 := by omega
    have b0 : 0 ≤ b := by omega
    have b1 : b ≤ 10006 := by omega
    have c0 : 0 ≤ c := by omega
    have c1 : c ≤ 10006 := by omega
    have d0 : 0 ≤ d := by omega
    have d1 : d ≤ 10006 := by omega
    have n1 := fun X => next_any (W.of a) (W.of b) a0 a1 b0 b1 hx0 hx1 X
    have n2 := fun X => next_any (W.of a) (W.of b) a0 a1 b0 b1 hy0 hy1 X
    have n3 := fun X => next_any (W.of c) (W.of d) c0 c1 d0 d1 hx0 hx1 X
    have p1 := eq_W (W.of a) (W.of c) (by omega) (by omega)
    have p2 := eq_W (W.of b) (W.of d) (by omega) (by omega)
    have fa : floatOfInt .f64 a = N a := rfl
    have fb : floatOfInt .f64 b = N b := rfl
    have fc : floatOfInt .f64 c = N c := rfl
    have fd : floatOfInt .f64 d = N d := rfl
    have k1 := apart_byte a b x y hx0 hx1 hy0 hy1
    have k2 := apart_point a b c d x a0 a1 b0 b1 c0 c1 d0 d1
    obtain ⟨t1, t2, t3, t4⟩ := nx_pt a b x
    obtain ⟨t5, t6, t7, t8⟩ := nx_pt a b y
    obtain ⟨t9, t10, t11, t12⟩ := nx_pt c d x
    simp only at t1 t2 t3 t4 t5 t6 t7 t8 t9 t10 t11 t12
    have HN1 := Lib.hid n1
    have HN2 := Lib.hid n2
    have HN3 := Lib.hid n3
    obtain ⟨s, hs⟩ : ∃ s, decide (x = y) = s := ⟨_, rfl⟩
    obtain ⟨s1, hs1⟩ : ∃ s1, decide (a = c) = s1 := ⟨_, rfl⟩
    obtain ⟨s2, hs2⟩ : ∃ s2, decide (b = d) = s2 := ⟨_, rfl⟩
    obtain ⟨v1, hv1⟩ : ∃ v1, decide (nxR a b x = nxR c d x) = v1 := ⟨_, rfl⟩
    obtain ⟨v2, hv2⟩ : ∃ v2, decide (nxI a b = nxI c d) = v2 := ⟨_, rfl⟩
    rw [hs1] at p1
    rw [hs2] at p2
    rw [hs] at k1
    rw [hs1, hs2, hv1, hv2] at k2
    have hxy : (x == y) = s := by rw [← hs]; rfl
    have HK1 := Lib.hid k1
    have HV1 := Lib.hid hv1
    have HV2 := Lib.hid hv2
    clear n1 n2 n3 hmn hmx hs1 hs2 hs k1 hv1 hv2 a0 a1 b0 b1 c0 c1 d0 d1 hx0 hx1 hy0 hy1 hbad
    generalize N a = na at *
    generalize N b = nb at *
    generalize N c = nc at *
    generalize N d = nd at *
    go_enter Try.func4, Try.ntmps4
    go_wp2_with fail
    refine (HN1.out _).mono ?_
    rintro e w1 ⟨p, p', rfl, hp, hp', rfl⟩
    go_wp2_with fail
    refine (HN2.out _).mono ?_
    rintro e w1 ⟨q, q', rfl, hq, hq', rfl⟩
    go_wp2_with fail
    refine (HN3.out _).mono ?_
    rintro e w1 ⟨r, r', rfl, hr, hr', rfl⟩
    have R1 := Lib.hid (right_any p p' _ _ hp hp' (by omega) (by omega) w1)
    have R2 := Lib.hid (right_any q q' _ _ hq hq' (by omega) (by omega) w1)
    have R3 := Lib.hid (right_any r r' _ _ hr hr' (by omega) (by omega) w1)
    rw [okPart_true t1 t2, okPart_true t3 t4] at R1
    rw [okPart_true t5 t6, okPart_true t7 t8] at R2
    rw [okPart_true t9 t10, okPart_true t11 t12] at R3
    have e1 := eq_W hp hq (by omega) (by omega)
    have e2 := eq_W hp' hq' (by omega) (by omega)
    have e3 := eq_W hp hr (by omega) (by omega)
    have e4 := eq_W hp' hr' (by omega) (by omega)
    rw [HK1.out] at e1
    rw [decide_eq_true rfl] at e2
    rw [HV1.out] at e3
    rw [HV2.out] at e4
    clear hp hp' hq hq' hr hr' t1 t2 t3 t4 t5 t6 t7 t8 t9 t10 t11 t12
    go_wp2_with fail
    refine R1.out.mono ?_
    rintro e w2 ⟨rfl, rfl⟩
    go_wp2_with fail
    refine R2.out.mono ?_
    rintro e w2 ⟨rfl, rfl⟩
    go_wp2_with fail
    refine R3.out.mono ?_
    rintro e w2 ⟨rfl, rfl⟩
    go_wp2_with fail
    refine (HWK.out _).mono ?_
    rintro e w2 ⟨rfl, hg2⟩
    go_wp2
    go_ret
    exact ⟨rfl, hg2⟩
end Go.Proofs.Ytofnoillkfagiaa
