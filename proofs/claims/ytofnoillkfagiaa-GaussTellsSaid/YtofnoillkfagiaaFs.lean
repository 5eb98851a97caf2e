/-
  Walks: Next of any number, and the document's.
-/
import Derived.Test.YtofnoillkfagiaaFr
import Derived.Test.YtofnoillkfagiaaFp
namespace Go.Proofs.Ytofnoillkfagiaa
open Go Go.RowKit

/-- The next one of any number. -/
def nextZ (o u : Option Nat) (c : Int) : Int × Int := match o, u with
  | some a, some b => (nxR a b c, nxI a b)
  | _, _ => (0, 0)
theorem nextZ_pt (o u : Option Nat) (c : Int) : Pt (nextZ o u c) := by
  cases o with
  | none => exact (show Pt (0, 0) from ⟨by decide, by decide, by decide, by decide⟩)
  | some a => cases u with
    | none => exact (show Pt (0, 0) from ⟨by decide, by decide, by decide, by decide⟩)
    | some b => exact nx_pt _ _ _
theorem W_0 : W 0 0 := .inl N_zero.symm
theorem next_part {x y : Nat} {o u : Option Nat} (h : PartIs x o) (g : PartIs y u) {c : Int} (hc0 : 0 ≤ c) (hc1 : c ≤ 255) (w : World) :
    Calls Try.prog 13 #[.complex .f64 x y, .int .u8 c] w fun e w' => ∃ p q, e = .returned (.complex .f64 p q) ∧ W p (nextZ o u c).1 ∧ W q (nextZ o u c).2 ∧ w' = w := by
  have bad : (o.isSome && u.isSome) = false → Calls Try.prog 13 #[.complex .f64 x y, .int .u8 c] w fun e w' => ∃ p q, e = .returned (.complex .f64 p q) ∧ W p 0 ∧ W q 0 ∧ w' = w := by
    intro hb
    have HR := right_part h g w
    rw [hb] at HR
    have HR := Lib.hid HR
    clear h g hb
    go_enter Try.func13, Try.ntmps13
    go_wp2_with fail
    refine HR.out.mono ?_
    rintro e w1 ⟨rfl, rfl⟩
    go_wp2
    go_ret
    exact ⟨0, 0, rfl, W_0, W_0, rfl⟩
  cases o with
  | none => exact bad rfl
  | some a =>
    cases u with
    | none => exact bad rfl
    | some b => exact next_any h.2 g.2 (by have := h.1; omega) (by have := h.1; omega) (by have := g.1; omega) (by have := g.1; omega) hc0 hc1 w
theorem tmod_nx (X : Int) : (X.tmod 10007 + 10007).tmod 10007 = X % 10007 := by
  rw [Int.tmod_eq_emod_of_nonneg (a := X.tmod 10007 + 10007) (by have h2 := Int.lt_tmod_of_pos X (show (0 : Int) < 10007 by decide); omega)]
  have h3 := Int.mul_tdiv_add_tmod X 10007
  generalize X.tdiv 10007 = q at h3
  generalize X.tmod 10007 = r at h3 ⊢
  omega
set_option maxRecDepth 100000 in
theorem dnext_part {x y : Nat} {o u : Option Nat} (h : PartIs x o) (g : PartIs y u) {c : Int} (hc0 : 0 ≤ c) (hc1 : c ≤ 255) (w : World) :
    Calls Try.prog 14 #[.complex .f64 x y, .int .u8 c] w fun e w' => ∃ p q, e = .returned (.complex .f64 p q) ∧ W p (nextZ o u c).1 ∧ W q (nextZ o u c).2 ∧ w' = w := by
  have H1 := Lib.hid (fun w => dpart_part h w)
  have H2 := Lib.hid (fun w => dpart_part g w)
  cases o with
  | none =>
    clear h g
    go_enter Try.func14, Try.ntmps14
    go_wp2_with fail
    refine (H1.out _).mono ?_
    rintro e w1 ⟨k, rfl, _, rfl⟩
    go_wp2_with fail
    refine (H2.out _).mono ?_
    rintro e w2 ⟨l, rfl, _, rfl⟩
    go_wp2
    go_ret
    exact ⟨0, 0, rfl, W_0, W_0, rfl⟩
  | some a =>
    cases u with
    | none =>
      clear h g
      go_enter Try.func14, Try.ntmps14
      go_wp2_with fail
      refine (H1.out _).mono ?_
      rintro e w1 ⟨k, rfl, _, rfl⟩
      go_wp2_with fail
      refine (H2.out _).mono ?_
      rintro e w2 ⟨l, rfl, _, rfl⟩
      go_wp2
      go_ret
      exact ⟨0, 0, rfl, W_0, W_0, rfl⟩
    | some b =>
      have ha := h.1
      have hb := g.1
      clear h g
      go_enter Try.func14, Try.ntmps14
      go_wp2_with fail
      refine (H1.out _).mono ?_
      rintro e w1 ⟨k, rfl, hk, rfl⟩
      obtain rfl := hk a rfl
      clear hk
      go_wp2_with fail
      refine (H2.out _).mono ?_
      rintro e w2 ⟨l, rfl, hl, rfl⟩
      obtain rfl := hl b rfl
      clear hl
      go_wp2
      go_ret
      refine ⟨_, _, rfl, ?_, ?_, rfl⟩
      · have e : nxR (a : Int) b c = (Int.tmod (Int.tmod (3 * (a : Int) - 5 * (b : Int) + c + 1) 10007 + 10007) 10007) := by
          rw [tmod_nx]; unfold nxR; congr 1; omega
        show W _ (nxR (a : Int) b c)
        have h2 := Int.lt_tmod_of_pos (3 * (a : Int) - 5 * (b : Int) + c + 1) (show (0 : Int) < 10007 by decide)
        have h3 := Int.tmod_lt_of_pos (3 * (a : Int) - 5 * (b : Int) + c + 1) (show (0 : Int) < 10007 by decide)
        rw [e, IntWalk.wrap64_in _ (by omega)]
        exact W.of _
      · have e : nxI (a : Int) b = Int.tmod (5 * (a : Int) + 3 * (b : Int)) 10007 := by
          rw [Int.tmod_eq_emod_of_nonneg (by omega)]; unfold nxI; congr 1; omega
        show W _ (nxI (a : Int) b)
        rw [e]
        exact W.of _

/-- The bytes of any number. -/
def fourZ (o u : Option Nat) : Nat × Nat := match o, u with
  | some a, some b => (a, b)
  | _, _ => (0, 0)
def fourV (z : Nat × Nat) : Value := .agg #[.int .u8 (z.1 / 256 : Nat), .int .u8 (z.1 % 256 : Nat), .int .u8 (z.2 / 256 : Nat), .int .u8 (z.2 % 256 : Nat)]
theorem four0 : (Value.agg #[.int .u8 0, .int .u8 0, .int .u8 0, .int .u8 0]) = fourV (0, 0) := by rfl
theorem pbytes_part {x y : Nat} {o u : Option Nat} (h : PartIs x o) (g : PartIs y u) (w : World) :
    Calls Try.prog 17 #[.complex .f64 x y] w fun e w' => e = .returned (fourV (fourZ o u)) ∧ Gr w w' := by
  have bad : (o.isSome && u.isSome) = false → Calls Try.prog 17 #[.complex .f64 x y] w fun e w' => e = .returned (fourV (0, 0)) ∧ Gr w w' := by
    intro hb
    have HR := fun w => right_part h g w
    rw [hb] at HR
    have HR := Lib.hid HR
    clear h g hb
    go_enter Try.func17, Try.ntmps17
    go_wp2_with fail
    refine (HR.out _).mono ?_
    rintro e w1 ⟨rfl, rfl⟩
    go_wp2
    exact bodyPost_ret (results_row rfl Try.underlying23 rfl info23 rfl (rowAt_block (alloc1_heap _ _) rfl)) rfl ⟨rfl, Gr.alloc (Gr.refl _) _⟩
  cases o with
  | none => exact bad rfl
  | some a =>
    cases u with
    | none => exact bad rfl
    | some b => exact pbytes_any x y a b h.2 g.2 h.1 g.1 w
set_option maxRecDepth 100000 in
theorem dbytes_part {x y : Nat} {o u : Option Nat} (h : PartIs x o) (g : PartIs y u) (w : World) :
    Calls Try.prog 18 #[.complex .f64 x y] w fun e w' => e = .returned (fourV (fourZ o u)) ∧ Gr w w' := by
  have H1 := Lib.hid (fun w => dpart_part h w)
  have H2 := Lib.hid (fun w => dpart_part g w)
  cases o with
  | none =>
    clear h g
    go_enter Try.func18, Try.ntmps18
    go_wp2_with fail
    refine (H1.out _).mono ?_
    rintro e w1 ⟨k, rfl, _, rfl⟩
    go_wp2_with fail
    refine (H2.out _).mono ?_
    rintro e w2 ⟨l, rfl, _, rfl⟩
    go_wp2
    exact bodyPost_ret (results_row rfl Try.underlying23 rfl info23 rfl (rowAt_block (alloc1_heap _ _) rfl)) rfl ⟨congrArg Ending.returned four0, Gr.alloc (Gr.refl _) _⟩
  | some a =>
    cases u with
    | none =>
      clear h g
      go_enter Try.func18, Try.ntmps18
      go_wp2_with fail
      refine (H1.out _).mono ?_
      rintro e w1 ⟨k, rfl, _, rfl⟩
      go_wp2_with fail
      refine (H2.out _).mono ?_
      rintro e w2 ⟨l, rfl, _, rfl⟩
      go_wp2
      exact bodyPost_ret (results_row rfl Try.underlying23 rfl info23 rfl (rowAt_block (alloc1_heap _ _) rfl)) rfl ⟨congrArg Ending.returned four0, Gr.alloc (Gr.refl _) _⟩
    | some b =>
      have ha := h.1
      have hb := g.1
      clear h g
      go_enter Try.func18, Try.ntmps18
      go_wp2_with fail
      refine (H1.out _).mono ?_
      rintro e w1 ⟨k, rfl, hk, rfl⟩
      obtain rfl := hk a rfl
      clear hk
      go_wp2_with fail
      refine (H2.out _).mono ?_
      rintro e w2 ⟨l, rfl, hl, rfl⟩
      obtain rfl := hl b rfl
      clear hl
      go_wp2
      exact bodyPost_ret (results_row rfl Try.underlying23 rfl info23 rfl (rowAt_block (alloc1_heap _ _) rfl)) rfl ⟨rfl, Gr.alloc (Gr.refl _) _⟩
end Go.Proofs.Ytofnoillkfagiaa
