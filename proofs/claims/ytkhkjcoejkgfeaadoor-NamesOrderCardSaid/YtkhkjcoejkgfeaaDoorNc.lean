/-
  Walk: Name.
  Conditions: none beyond those typed at each theorem.
-/
import Derived.Test.YtkhkjcoejkgfeaaDoorNb
namespace Go.Proofs.YtkhkjcoejkgfeaaDoor
open Go Go.RowKit

/-- What Name hands back. -/
def nameV (x : Idn) : Value := match nameOf x with
  | some l => .tuple #[strV l, .int .i64 0]
  | none => .tuple #[strV [], .int .i64 2]

theorem name_plain {k : Int} {l : List UInt8} (hl : l = [77] ∨ l = [77, 46, 110, 101, 119]) (h1 : letterS k = []) (h2 : plainS k = l) (w : World) :
    Calls Tryd.prog 8 #[.agg #[.int .u8 k, .int .i64 0, .int .i64 0]] w fun e w' => e = .returned (.tuple #[strV l, .int .i64 0]) ∧ Gr w w' := by
  have HL := Lib.hid (letter_any k)
  have HP := Lib.hid (plain_any k)
  rw [h1] at HL
  rw [h2] at HP
  clear h1 h2
  rcases hl with rfl | rfl
  all_goals
    go_enter Tryd.func8, Tryd.ntmps8
    go_wp2_with fail
    go_quiet (first | with_reducible exact Calls.quiet_of_same (HL.out _) | with_reducible exact Calls.quiet_of_same (HP.out _))
    go_wp2
    go_ret2
    exact ⟨rfl, (Gr.alloc (Gr.refl _) _).drewN _⟩
theorem name_none {k s f : Int} {l : List UInt8} (hl : (l = []) ∨ ((l = [77] ∨ l = [77, 46, 110, 101, 119]) ∧ (s ≠ 0 ∨ s = 0 ∧ f ≠ 0))) (h1 : letterS k = []) (h2 : plainS k = l) (w : World) :
    Calls Tryd.prog 8 #[.agg #[.int .u8 k, .int .i64 s, .int .i64 f]] w fun e w' => e = .returned (.tuple #[strV [], .int .i64 2]) ∧ Gr w w' := by
  have HL := Lib.hid (letter_any k)
  have HP := Lib.hid (plain_any k)
  rw [h1] at HL
  rw [h2] at HP
  clear h1 h2
  rcases hl with rfl | ⟨rfl | rfl, h | ⟨rfl, h⟩⟩
  all_goals
    go_enter Tryd.func8, Tryd.ntmps8
    go_wp2_with fail
    go_quiet (first | with_reducible exact Calls.quiet_of_same (HL.out _) | with_reducible exact Calls.quiet_of_same (HP.out _))
    go_wp2
    go_ret2
    exact ⟨rfl, (Gr.alloc (Gr.refl _) _).drewN _⟩
theorem name_wrong {k s f : Int} {c : UInt8} (h : s < 1 ∨ (1 ≤ s ∧ 1073741824 < s) ∨ (1 ≤ s ∧ s ≤ 1073741824 ∧ f < 1) ∨ (1 ≤ s ∧ s ≤ 1073741824 ∧ 1 ≤ f ∧ 2 < f)) (h1 : letterS k = [c]) (h2 : plainS k = []) (w : World) :
    Calls Tryd.prog 8 #[.agg #[.int .u8 k, .int .i64 s, .int .i64 f]] w fun e w' => e = .returned (.tuple #[strV [], .int .i64 2]) ∧ Gr w w' := by
  have HL := Lib.hid (letter_any k)
  have HP := Lib.hid (plain_any k)
  rw [h1] at HL
  rw [h2] at HP
  clear h1 h2
  have h' : s < 1 ∨ (¬ s < 1 ∧ 1073741824 < s) ∨ (¬ s < 1 ∧ ¬ 1073741824 < s ∧ f < 1) ∨ (¬ s < 1 ∧ ¬ 1073741824 < s ∧ ¬ f < 1 ∧ 2 < f) := by omega
  clear h
  rcases h' with h | ⟨h, h3⟩ | ⟨h, h3, h4⟩ | ⟨h, h3, h4, h5⟩
  all_goals
    go_enter Tryd.func8, Tryd.ntmps8
    go_wp2_with fail
    go_quiet (first | with_reducible exact Calls.quiet_of_same (HL.out _) | with_reducible exact Calls.quiet_of_same (HP.out _))
    go_wp2
    go_ret2
    exact ⟨rfl, (Gr.alloc (Gr.refl _) _).drewN _⟩
end Go.Proofs.YtkhkjcoejkgfeaaDoor
