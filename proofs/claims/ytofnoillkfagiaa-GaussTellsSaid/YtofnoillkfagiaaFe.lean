/-
  Walks: the remainder; a point's next one.
-/
import Derived.Test.YtofnoillkfagiaaFd
namespace Go.Proofs.Ytofnoillkfagiaa
open Go Go.RowKit
theorem run_neg_float (b : Nat) (w : World) : Sem.run Try.prog (Op.unary .neg (.float .f64 b)) w = .ok (.float .f64 (Op.negFloat .f64 b)) w := rfl
attribute [local go_sem] run34 run35 run_neg_float

theorem log2_cases {r : Nat} (h1 : 10007 ≤ r) (h2 : r < 131072) : (r < 16384 ∧ r.log2 = 13) ∨ (16384 ≤ r ∧ r < 32768 ∧ r.log2 = 14) ∨ (32768 ≤ r ∧ r < 65536 ∧ r.log2 = 15) ∨ (65536 ≤ r ∧ r.log2 = 16) := by
  by_cases a : r < 16384
  · exact .inl ⟨a, log2_of (by omega) (by omega)⟩
  · by_cases b : r < 32768
    · exact .inr (.inl ⟨by omega, b, log2_of (by omega) (by omega)⟩)
    · by_cases c : r < 65536
      · exact .inr (.inr (.inl ⟨by omega, c, log2_of (by omega) (by omega)⟩))
      · exact .inr (.inr (.inr ⟨by omega, log2_of (by omega) (by omega)⟩))
/-- What a round of the remainder's loop does. -/
theorem round_facts {r : Nat} (h1 : 10007 ≤ r) (h2 : r < 131072) :
    ∃ d : Nat, d < 4 ∧ 10007 * 2 ^ d ≤ r ∧ 1 ≤ 10007 * 2 ^ d ∧ (r - 10007 * 2 ^ d) % 10007 = r % 10007 ∧
      ((r * 2 ^ (52 - r.log2) < 5501406429577216 ∧ (r.log2 : Int) + 1 - 1 - 14 = d) ∨ (5501406429577216 ≤ r * 2 ^ (52 - r.log2) ∧ (r.log2 : Int) + 1 - 14 = d)) := by
  rcases log2_cases h1 h2 with ⟨a, e⟩ | ⟨a, b, e⟩ | ⟨a, b, e⟩ | ⟨a, e⟩
  · rw [e]
    exact ⟨0, by decide, by omega, by decide, by omega, .inr ⟨by omega, by decide⟩⟩
  · rw [e]
    by_cases c : r < 20014
    · exact ⟨0, by decide, by omega, by decide, by omega, .inl ⟨by omega, by decide⟩⟩
    · exact ⟨1, by decide, by omega, by decide, by omega, .inr ⟨by omega, by decide⟩⟩
  · rw [e]
    by_cases c : r < 40028
    · exact ⟨1, by decide, by omega, by decide, by omega, .inl ⟨by omega, by decide⟩⟩
    · exact ⟨2, by decide, by omega, by decide, by omega, .inr ⟨by omega, by decide⟩⟩
  · rw [e]
    by_cases c : r < 80056
    · exact ⟨2, by decide, by omega, by decide, by omega, .inl ⟨by omega, by decide⟩⟩
    · exact ⟨3, by decide, by omega, by decide, by omega, .inr ⟨by omega, by decide⟩⟩
set_option maxRecDepth 100000 in
theorem read_frac {M : Nat} (h1 : 4503599627370496 ≤ M) (h2 : M < 9007199254740992) : Ieee.double.read (4602678819172646912 + (M - 4503599627370496)) = .number false M (-53) := by
  have hsw : Ieee.double.signWeight = 9223372036854775808 := rfl
  have hbin : Ieee.double.binade = 4503599627370496 := rfl
  have hinf : Ieee.double.infRung = 9218868437227405312 := rfl
  have hlp : Ieee.double.leastPlace = -1074 := rfl
  obtain ⟨r, hr⟩ : ∃ r, 4602678819172646912 + (M - 4503599627370496) = r := ⟨_, rfl⟩
  have a1 : r / 9223372036854775808 % 2 = 0 := by omega
  have a2 : r % 9223372036854775808 = r := by omega
  unfold Ieee.Format.read
  rw [hr, hsw]
  simp only [a1, a2, hbin, hinf, hlp]
  have e1 : 4503599627370496 + r % 4503599627370496 = M := by omega
  have e2 : (-1074 : Int) + ((r / 4503599627370496 - 1 : Nat) : Int) = -53 := by omega
  rw [if_neg (by omega), if_pos (by omega), e1, e2]
  rfl
set_option maxRecDepth 100000 in
theorem order_frac {A B : Nat} (h1 : 4503599627370496 ≤ A) (h2 : A < 9007199254740992) (g1 : 4503599627370496 ≤ B) (g2 : B < 9007199254740992) :
    FloatKind.f64.format.order (4602678819172646912 + (A - 4503599627370496)) (4602678819172646912 + (B - 4503599627370496)) = some (cmpI A B) := by
  show (Ieee.double.read _).order (Ieee.double.read _) = _
  rw [read_frac h1 h2, read_frac g1 g2]
  have ho : Ieee.Datum.order (.number false A (-53)) (.number false B (-53)) = some (compareOfLessAndEq (Ieee.signed false A 0) (Ieee.signed false B 0)) := rfl
  have ha : ∀ X : Nat, Ieee.signed false X 0 = (X : Int) := fun X => by
    unfold Ieee.signed
    rw [if_neg (by decide), Nat.shiftLeft_eq, Nat.pow_zero, Nat.mul_one]
  rw [ho, ha, ha]
  rfl
/-- How much a float in a slot is. -/
def fm : Value → Nat
  | .float _ b => ((floatToIntVal .f64 b .i64).getD 0).toNat
  | _ => 0
theorem fm_W {b : Nat} {r : Nat} (h : W b (r : Int)) (hr : r < 131072) : fm (.float .f64 b) = r := by
  unfold fm
  simp only
  rw [toInt_W h (by omega) (by omega) (by omega)]
  simp
/-- The remainder, with the number's sign. -/
def remI (z : Int) : Int := if z < 0 then -((z.natAbs % 10007 : Nat) : Int) else ((z.natAbs % 10007 : Nat) : Int)

set_option maxHeartbeats 1000000 in
theorem mod_any {x : Nat} {z : Int} (h : W x z) (hz : z.natAbs < 131072) (w : World) :
    Calls Try.prog 30 #[.float .f64 x, .float .f64 4666727020758040576] w fun e w' => ∃ b, e = .returned (.float .f64 b) ∧ W b (remI z) ∧ w' = w := by
  have hz' : z.natAbs < 9007199254740992 := by omega
  have hy : W 4666727020758040576 10007 := .inl N_10007.symm
  have h0 : W 0 0 := .inl N_zero.symm
  have o1 := order_y
  have o2 := order_W h h0 hz' (by decide)
  have HI := Lib.hid (inf_any x z h hz' w)
  have HN := Lib.hid (nan_any x z h hz' w)
  have HM := Lib.hid (nan_any 4666727020758040576 10007 hy (by decide) w)
  have HA := Lib.hid (abs_any 4666727020758040576 (by decide) w)
  have hf := frexp2_any (n := 10007) (by decide) (by decide) (g := 4603676625974853632) (p := 14) (by kernel_rfl) (by kernel_rfl) w
  have hn : N ((10007 : Nat) : Int) = 4666727020758040576 := by kernel_rfl
  rw [hn] at hf
  have HF := Lib.hid hf
  have HW := Lib.hid h
  clear hf hn
  by_cases hneg : z < 0
  · have hc : cmpI z 0 = .lt := if_pos hneg
    rw [hc] at o2
    clear hc
    go_enter Try.func30, Try.ntmps30
    go_wp2_with fail
    refine HI.out.mono ?_
    rintro e w1 ⟨rfl, rfl⟩
    go_wp2_with fail
    refine HN.out.mono ?_
    rintro e w1 ⟨rfl, rfl⟩
    go_wp2_with fail
    refine HM.out.mono ?_
    rintro e w1 ⟨rfl, rfl⟩
    go_wp2_with fail
    refine HA.out.mono ?_
    rintro e w1 ⟨rfl, rfl⟩
    go_wp2_with fail
    refine HF.out.mono ?_
    rintro e w1 ⟨rfl, rfl⟩
    go_wp2_with fail
    go_loopw [7] (fun v wr => ∃ (r b : Nat), v = .float .f64 b ∧ W b (r : Int) ∧ r ≤ z.natAbs ∧ r % 10007 = z.natAbs % 10007 ∧ wr = w1) (fun v _ => fm v)
    case atStart => exact ⟨z.natAbs, _, rfl, (by have := HW.out.neg hz'; rwa [show -z = (z.natAbs : Int) by omega] at this), Nat.le_refl _, rfl, rfl⟩
    case round =>
      obtain ⟨r, b, rfl, hb, hr, hm, rfl⟩ := hrel
      have hr7 : r < 131072 := by omega
      have ho := order_W hb hy (by omega) (by decide)
      by_cases hge : 10007 ≤ r
      · obtain ⟨d, hd4, hdr, hd1, hdm, hcase⟩ := round_facts hge hr7
        have hbn : b = N (r : Int) := by
          rcases hb with hb | ⟨h0, _⟩
          · exact hb
          · omega
        have hc : cmpI (r : Int) 10007 = .eq ∨ cmpI (r : Int) 10007 = .gt := by
          unfold cmpI
          rw [if_neg (by omega)]
          split
          · exact .inl rfl
          · exact .inr rfl
        have hr0 : r ≠ 0 := by omega
        obtain ⟨p1, p2⟩ := log2_bounds hr0
        obtain ⟨m1, m2⟩ := mant p1 p2 (log2_le52 hr0 (by omega))
        obtain ⟨g, hg⟩ : ∃ g, g = 4602678819172646912 + (r * 2 ^ (52 - r.log2) - 4503599627370496) := ⟨_, rfl⟩
        have hof := order_frac (A := r * 2 ^ (52 - r.log2)) (B := 5501406429577216) m1 m2 (by decide) (by decide)
        rw [← hg] at hof
        obtain ⟨pw, hpw⟩ : ∃ pw : Int, pw = (r.log2 : Int) + 1 := ⟨_, rfl⟩
        have HFR := Lib.hid (frexp2_any hr0 (by omega) hg hpw wr)
        have HLD := Lib.hid (ldexp_any hd4 wr)
        obtain ⟨rb, hsub, hrb⟩ := sub_W hb (W.of ((10007 * 2 ^ d : Nat) : Int)) (by omega) (by omega) (by omega)
        have hrb' : W rb ((r - 10007 * 2 ^ d : Nat) : Int) := by
          have e : (r : Int) - ((10007 * 2 ^ d : Nat) : Int) = ((r - 10007 * 2 ^ d : Nat) : Int) := by omega
          rwa [e] at hrb
        have hsr := fun t W => run_float_arith (P := Try.prog) W .sub t .f64 _ _ _ hsub
        have hpl : pw ≤ 18 := by
          rcases hcase with ⟨_, h⟩ | ⟨_, h⟩ <;> omega
        have hpl0 : 1 ≤ pw := by omega
        have HMS := Lib.hid (show fm (.float .f64 rb) < fm (.float .f64 b) by rw [fm_W hrb' (by omega), fm_W hb hr7]; omega)
        have HEND := Lib.hid hrb'
        have HDM := Lib.hid hdm
        have HMM := Lib.hid hm
        have hrle : r - 10007 * 2 ^ d ≤ z.natAbs := by omega
        have HRL := Lib.hid hrle
        clear hsub hrb hrb' hg hdm hm p1 p2 m1 m2 hrle
        rw [← hbn] at HFR
        rcases hcase with ⟨hlt, hpd⟩ | ⟨hlt, hpd⟩
        · have hcf : cmpI ((r * 2 ^ (52 - r.log2) : Nat) : Int) ((5501406429577216 : Nat) : Int) = .lt := if_pos (by omega)
          rw [hcf] at hof
          have hpd' : pw - 1 - 14 = (d : Int) := by omega
          clear hcf hlt hpd hpw hbn
          generalize r.log2 = L at *
          generalize N ((10007 * 2 ^ d : Nat) : Int) = yb at *
          rcases hc with hc | hc
          all_goals
            rw [hc] at ho
            go_wp2_with fail
            refine HFR.out.mono ?_
            rintro e w2 ⟨rfl, rfl⟩
            go_wp2_with fail
            refine HLD.out.mono ?_
            rintro e w2 ⟨rfl, rfl⟩
            go_wp2
            exact ⟨⟨r - 10007 * 2 ^ d, rb, rfl, HEND.out, HRL.out, HDM.out.trans HMM.out, by first | rfl | trivial⟩, HMS.out⟩
        · have hcf : cmpI ((r * 2 ^ (52 - r.log2) : Nat) : Int) ((5501406429577216 : Nat) : Int) = .eq ∨ cmpI ((r * 2 ^ (52 - r.log2) : Nat) : Int) ((5501406429577216 : Nat) : Int) = .gt := by
            unfold cmpI
            rw [if_neg (by omega)]
            split
            · exact .inl rfl
            · exact .inr rfl
          have hpd' : pw - 14 = (d : Int) := by omega
          clear hlt hpd hpw hbn
          generalize r.log2 = L at *
          generalize N ((10007 * 2 ^ d : Nat) : Int) = yb at *
          rcases hc with hc | hc <;> rcases hcf with hcf | hcf
          all_goals
            rw [hc] at ho
            rw [hcf] at hof
            go_wp2_with fail
            refine HFR.out.mono ?_
            rintro e w2 ⟨rfl, rfl⟩
            go_wp2_with fail
            refine HLD.out.mono ?_
            rintro e w2 ⟨rfl, rfl⟩
            go_wp2
            exact ⟨⟨r - 10007 * 2 ^ d, rb, rfl, HEND.out, HRL.out, HDM.out.trans HMM.out, by first | rfl | trivial⟩, HMS.out⟩
      · have hc : cmpI (r : Int) 10007 = .lt := if_pos (by omega)
        rw [hc] at ho
        have hrr : r = z.natAbs % 10007 := by omega
        have HB := Lib.hid hb
        have HRR := Lib.hid hrr
        clear hb hm hrr hc
        go_wp2
        go_ret
        exact ⟨_, rfl, (by have := HB.out.neg (by omega); rw [HRR.out] at this; unfold remI; rw [if_pos hneg]; exact this), rfl⟩
  · have hc : cmpI z 0 = .eq ∨ cmpI z 0 = .gt := by
      unfold cmpI
      rw [if_neg hneg]
      split
      · exact .inl rfl
      · exact .inr rfl
    rcases hc with hc | hc
    all_goals
      rw [hc] at o2
      clear hc
      go_enter Try.func30, Try.ntmps30
      go_wp2_with fail
      refine HI.out.mono ?_
      rintro e w1 ⟨rfl, rfl⟩
      go_wp2_with fail
      refine HN.out.mono ?_
      rintro e w1 ⟨rfl, rfl⟩
      go_wp2_with fail
      refine HM.out.mono ?_
      rintro e w1 ⟨rfl, rfl⟩
      go_wp2_with fail
      refine HA.out.mono ?_
      rintro e w1 ⟨rfl, rfl⟩
      go_wp2_with fail
      refine HF.out.mono ?_
      rintro e w1 ⟨rfl, rfl⟩
      go_wp2_with fail
      go_loopw [7] (fun v wr => ∃ (r b : Nat), v = .float .f64 b ∧ W b (r : Int) ∧ r ≤ z.natAbs ∧ r % 10007 = z.natAbs % 10007 ∧ wr = w1) (fun v _ => fm v)
      case atStart => exact ⟨z.natAbs, _, rfl, (by have := HW.out; rwa [show z = (z.natAbs : Int) by omega] at this), Nat.le_refl _, rfl, rfl⟩
      case round =>
        obtain ⟨r, b, rfl, hb, hr, hm, rfl⟩ := hrel
        have hr7 : r < 131072 := by omega
        have ho := order_W hb hy (by omega) (by decide)
        by_cases hge : 10007 ≤ r
        · obtain ⟨d, hd4, hdr, hd1, hdm, hcase⟩ := round_facts hge hr7
          have hbn : b = N (r : Int) := by
            rcases hb with hb | ⟨h0, _⟩
            · exact hb
            · omega
          have hc : cmpI (r : Int) 10007 = .eq ∨ cmpI (r : Int) 10007 = .gt := by
            unfold cmpI
            rw [if_neg (by omega)]
            split
            · exact .inl rfl
            · exact .inr rfl
          have hr0 : r ≠ 0 := by omega
          obtain ⟨p1, p2⟩ := log2_bounds hr0
          obtain ⟨m1, m2⟩ := mant p1 p2 (log2_le52 hr0 (by omega))
          obtain ⟨g, hg⟩ : ∃ g, g = 4602678819172646912 + (r * 2 ^ (52 - r.log2) - 4503599627370496) := ⟨_, rfl⟩
          have hof := order_frac (A := r * 2 ^ (52 - r.log2)) (B := 5501406429577216) m1 m2 (by decide) (by decide)
          rw [← hg] at hof
          obtain ⟨pw, hpw⟩ : ∃ pw : Int, pw = (r.log2 : Int) + 1 := ⟨_, rfl⟩
          have HFR := Lib.hid (frexp2_any hr0 (by omega) hg hpw wr)
          have HLD := Lib.hid (ldexp_any hd4 wr)
          obtain ⟨rb, hsub, hrb⟩ := sub_W hb (W.of ((10007 * 2 ^ d : Nat) : Int)) (by omega) (by omega) (by omega)
          have hrb' : W rb ((r - 10007 * 2 ^ d : Nat) : Int) := by
            have e : (r : Int) - ((10007 * 2 ^ d : Nat) : Int) = ((r - 10007 * 2 ^ d : Nat) : Int) := by omega
            rwa [e] at hrb
          have hsr := fun t W => run_float_arith (P := Try.prog) W .sub t .f64 _ _ _ hsub
          have hpl : pw ≤ 18 := by
            rcases hcase with ⟨_, h⟩ | ⟨_, h⟩ <;> omega
          have hpl0 : 1 ≤ pw := by omega
          have HMS := Lib.hid (show fm (.float .f64 rb) < fm (.float .f64 b) by rw [fm_W hrb' (by omega), fm_W hb hr7]; omega)
          have HEND := Lib.hid hrb'
          have HDM := Lib.hid hdm
          have HMM := Lib.hid hm
          have hrle : r - 10007 * 2 ^ d ≤ z.natAbs := by omega
          have HRL := Lib.hid hrle
          clear hsub hrb hrb' hg hdm hm p1 p2 m1 m2 hrle
          rw [← hbn] at HFR
          rcases hcase with ⟨hlt, hpd⟩ | ⟨hlt, hpd⟩
          · have hcf : cmpI ((r * 2 ^ (52 - r.log2) : Nat) : Int) ((5501406429577216 : Nat) : Int) = .lt := if_pos (by omega)
            rw [hcf] at hof
            have hpd' : pw - 1 - 14 = (d : Int) := by omega
            clear hcf hlt hpd hpw hbn
            generalize r.log2 = L at *
            generalize N ((10007 * 2 ^ d : Nat) : Int) = yb at *
            rcases hc with hc | hc
            all_goals
              rw [hc] at ho
              go_wp2_with fail
              refine HFR.out.mono ?_
              rintro e w2 ⟨rfl, rfl⟩
              go_wp2_with fail
              refine HLD.out.mono ?_
              rintro e w2 ⟨rfl, rfl⟩
              go_wp2
              exact ⟨⟨r - 10007 * 2 ^ d, rb, rfl, HEND.out, HRL.out, HDM.out.trans HMM.out, by first | rfl | trivial⟩, HMS.out⟩
          · have hcf : cmpI ((r * 2 ^ (52 - r.log2) : Nat) : Int) ((5501406429577216 : Nat) : Int) = .eq ∨ cmpI ((r * 2 ^ (52 - r.log2) : Nat) : Int) ((5501406429577216 : Nat) : Int) = .gt := by
              unfold cmpI
              rw [if_neg (by omega)]
              split
              · exact .inl rfl
              · exact .inr rfl
            have hpd' : pw - 14 = (d : Int) := by omega
            clear hlt hpd hpw hbn
            generalize r.log2 = L at *
            generalize N ((10007 * 2 ^ d : Nat) : Int) = yb at *
            rcases hc with hc | hc <;> rcases hcf with hcf | hcf
            all_goals
              rw [hc] at ho
              rw [hcf] at hof
              go_wp2_with fail
              refine HFR.out.mono ?_
              rintro e w2 ⟨rfl, rfl⟩
              go_wp2_with fail
              refine HLD.out.mono ?_
              rintro e w2 ⟨rfl, rfl⟩
              go_wp2
              exact ⟨⟨r - 10007 * 2 ^ d, rb, rfl, HEND.out, HRL.out, HDM.out.trans HMM.out, by first | rfl | trivial⟩, HMS.out⟩
        · have hc : cmpI (r : Int) 10007 = .lt := if_pos (by omega)
          rw [hc] at ho
          have hrr : r = z.natAbs % 10007 := by omega
          have HB := Lib.hid hb
          have HRR := Lib.hid hrr
          clear hb hm hrr hc
          go_wp2
          go_ret
          exact ⟨_, rfl, (by have := HB.out; rw [HRR.out] at this; unfold remI; rw [if_neg (by omega : ¬ z < 0)]; exact this), rfl⟩
end Go.Proofs.Ytofnoillkfagiaa
