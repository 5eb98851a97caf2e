/-
  Walks: a word that is no part; the document's part.
-/
import Derived.Test.YtofnoillkfagiaaFq
namespace Go.Proofs.Ytofnoillkfagiaa
open Go Go.RowKit

/-- No part of a point. -/
def Bad (x : Nat) : Prop := N1 x ∨ N2 x
theorem is_bad (x : Nat) (h : Bad x) (w : World) : Calls Try.prog 21 #[.float .f64 x] w fun e w' => e = .returned (.bool false) ∧ w' = w := by
  rcases h with (⟨a1, a2⟩ | ⟨⟨a1, a2⟩ | ⟨a1, a2⟩, a3⟩) | ⟨hb, a3, ⟨s, m, p, hd⟩, a4, n, hn, hi, a5⟩
  · go_enter Try.func21, Try.ntmps21
    go_wp2
    go_ret
    exact ⟨rfl, rfl⟩
  · go_enter Try.func21, Try.ntmps21
    go_wp2
    go_ret
    exact ⟨rfl, rfl⟩
  · go_enter Try.func21, Try.ntmps21
    go_wp2
    go_ret
    exact ⟨rfl, rfl⟩
  · have hr := fun W => run27 x W s m p hd
    have HT : Hid (∀ w, Calls Try.prog 22 #[.float .f64 x] w fun e w' => e = .returned (.float .f64 (cutBits x)) ∧ w' = w) := by
      refine Lib.hid fun w => ?_
      go_enter Try.func22, Try.ntmps22
      go_wp2
      go_ret
      exact ⟨rfl, rfl⟩
    have a4' : (FloatKind.f64.format.order (cutBits x) x == some .eq) = false := a4
    generalize cutBits x = c at *
    clear a4 hd hi a5 hr
    rcases hb with ⟨a1, a2⟩ | ⟨a1, a2⟩
    all_goals
      go_enter Try.func21, Try.ntmps21
      go_wp2_with fail
      refine (HT.out _).mono ?_
      rintro e w1 ⟨rfl, rfl⟩
      go_wp2
      go_ret
      exact ⟨rfl, rfl⟩

/-- A part of a point. -/
theorem ord_part {x n : Nat} (h : W x (n : Int)) (hn : n ≤ 10006) : ((FloatKind.f64.format.order x 0 == some .gt) = true ∧ (FloatKind.f64.format.order x 0 == some .eq) = false ∨ (FloatKind.f64.format.order x 0 == some .gt) = false ∧ (FloatKind.f64.format.order x 0 == some .eq) = true) ∧
    (FloatKind.f64.format.order x 4666727020758040576 == some .lt) = true := by
  have h0 : W 0 0 := .inl N_zero.symm
  have h7 : W 4666727020758040576 10007 := .inl N_10007.symm
  have o1 := order_W h h0 (by omega) (by decide)
  have o2 := order_W h h7 (by omega) (by decide)
  rw [cmpI_lt (by omega)] at o2
  rw [o2]
  refine ⟨?_, rfl⟩
  by_cases h00 : n = 0
  · right; rw [o1, cmpI_eq (by omega)]; exact ⟨rfl, rfl⟩
  · left; rw [o1, cmpI_gt (by omega)]; exact ⟨rfl, rfl⟩
theorem dpart_any (x n : Nat) (h : W x (n : Int)) (hn : n ≤ 10006) (w : World) : Calls Try.prog 23 #[.float .f64 x] w fun e w' => e = .returned (.tuple #[.int .i64 n, .bool true]) ∧ w' = w := by
  have k1 := fun W => run_convert_float_int (P := Try.prog) W 22 3 .f64 .i64 x n (by kernel_rfl) Try.underlying3 (toInt_W h (by omega) (by omega) (by omega))
  have he : (FloatKind.f64.format.order (floatOfInt .f64 (n : Int)) x == some .eq) = true := by
    have := eq_W (W.of (n : Int)) h (by omega) (by omega)
    rw [decide_eq_true rfl] at this
    exact this
  obtain ⟨hb, a3⟩ := ord_part h hn
  clear h
  rcases hb with ⟨a1, a2⟩ | ⟨a1, a2⟩
  all_goals
    go_enter Try.func23, Try.ntmps23
    go_wp2
    go_ret2
    exact ⟨rfl, rfl⟩
theorem dpart_bad (x : Nat) (h : Bad x) (w : World) : Calls Try.prog 23 #[.float .f64 x] w fun e w' => ∃ k : Int, e = .returned (.tuple #[.int .i64 k, .bool false]) ∧ w' = w := by
  rcases h with (⟨a1, a2⟩ | ⟨⟨a1, a2⟩ | ⟨a1, a2⟩, a3⟩) | ⟨hb, a3, hd, a4, n, hn, hi, a5⟩
  · go_enter Try.func23, Try.ntmps23
    go_wp2
    go_ret2
    exact ⟨0, rfl, rfl⟩
  · go_enter Try.func23, Try.ntmps23
    go_wp2
    go_ret2
    exact ⟨0, rfl, rfl⟩
  · go_enter Try.func23, Try.ntmps23
    go_wp2
    go_ret2
    exact ⟨0, rfl, rfl⟩
  · have k1 := fun W => run_convert_float_int (P := Try.prog) W 22 3 .f64 .i64 x n (by kernel_rfl) Try.underlying3 hi
    have he : (FloatKind.f64.format.order (floatOfInt .f64 (n : Int)) x == some .eq) = false := a5
    clear a5 hi a4 hd
    rcases hb with ⟨a1, a2⟩ | ⟨a1, a2⟩
    all_goals
      go_enter Try.func23, Try.ntmps23
      go_wp2
      go_ret2
      exact ⟨n, rfl, rfl⟩
/-- What a word is, for the walks. -/
theorem part_or (x : Nat) (hx : x < 18446744073709551616) : (∃ n : Nat, n ≤ 10006 ∧ W x (n : Int)) ∨ Bad x := by
  rcases classify x hx with h | h | h
  · exact .inl h
  · exact .inr (.inl h)
  · exact .inr (.inr h)
/-- A part's reading: itself, or none. -/
def PartIs (x : Nat) (o : Option Nat) : Prop := match o with
  | some n => n ≤ 10006 ∧ W x (n : Int)
  | none => Bad x
theorem partIs (x : Nat) (hx : x < 18446744073709551616) : ∃ o, PartIs x o := by
  rcases part_or x hx with ⟨n, h1, h2⟩ | h
  · exact ⟨some n, h1, h2⟩
  · exact ⟨none, h⟩
theorem is_part {x : Nat} {o : Option Nat} (h : PartIs x o) (w : World) : Calls Try.prog 21 #[.float .f64 x] w fun e w' => e = .returned (.bool o.isSome) ∧ w' = w := by
  cases o with
  | none => exact is_bad x h w
  | some n =>
    obtain ⟨h1, h2⟩ := h
    have := is_any x n h2 (by omega) w
    rw [okPart_true (by omega) (by omega)] at this
    exact this
theorem dpart_part {x : Nat} {o : Option Nat} (h : PartIs x o) (w : World) : Calls Try.prog 23 #[.float .f64 x] w fun e w' => ∃ k : Int, e = .returned (.tuple #[.int .i64 k, .bool o.isSome]) ∧ (∀ n : Nat, o = some n → k = n) ∧ w' = w := by
  cases o with
  | none =>
    refine (dpart_bad x h w).mono ?_
    rintro e w' ⟨k, rfl, rfl⟩
    exact ⟨k, rfl, nofun, rfl⟩
  | some n =>
    refine (dpart_any x n h.2 h.1 w).mono ?_
    rintro e w' ⟨rfl, rfl⟩
    exact ⟨n, rfl, fun _ h => by cases h; rfl, rfl⟩
/-- Right, and the document's. -/
theorem right_part {x y : Nat} {o u : Option Nat} (h : PartIs x o) (g : PartIs y u) (w : World) : Calls Try.prog 11 #[.complex .f64 x y] w fun e w' => e = .returned (.bool (o.isSome && u.isSome)) ∧ w' = w := by
  have H1 := Lib.hid (is_part h w)
  have H2 := Lib.hid (is_part g w)
  generalize o.isSome = p at *
  generalize u.isSome = q at *
  cases p with
  | false =>
    go_enter Try.func11, Try.ntmps11
    go_wp2_with fail
    refine H1.out.mono ?_
    rintro e w1 ⟨rfl, rfl⟩
    go_wp2
    go_ret
    exact ⟨rfl, rfl⟩
  | true =>
    go_enter Try.func11, Try.ntmps11
    go_wp2_with fail
    refine H1.out.mono ?_
    rintro e w1 ⟨rfl, rfl⟩
    go_wp2_with fail
    refine H2.out.mono ?_
    rintro e w2 ⟨rfl, rfl⟩
    go_wp2
    go_ret
    exact ⟨rfl, rfl⟩
theorem dright_part {x y : Nat} {o u : Option Nat} (h : PartIs x o) (g : PartIs y u) (w : World) : Calls Try.prog 12 #[.complex .f64 x y] w fun e w' => e = .returned (.bool (o.isSome && u.isSome)) ∧ w' = w := by
  have H1 := Lib.hid (fun w => dpart_part h w)
  have H2 := Lib.hid (fun w => dpart_part g w)
  clear h g
  generalize o.isSome = p at *
  generalize u.isSome = q at *
  cases p with
  | false =>
    go_enter Try.func12, Try.ntmps12
    go_wp2_with fail
    refine (H1.out _).mono ?_
    rintro e w1 ⟨k, rfl, _, rfl⟩
    go_wp2_with fail
    refine (H2.out _).mono ?_
    rintro e w2 ⟨l, rfl, _, rfl⟩
    go_wp2
    go_ret
    exact ⟨rfl, rfl⟩
  | true =>
    go_enter Try.func12, Try.ntmps12
    go_wp2_with fail
    refine (H1.out _).mono ?_
    rintro e w1 ⟨k, rfl, _, rfl⟩
    go_wp2_with fail
    refine (H2.out _).mono ?_
    rintro e w2 ⟨l, rfl, _, rfl⟩
    go_wp2
    go_ret
    exact ⟨rfl, rfl⟩
end Go.Proofs.Ytofnoillkfagiaa
