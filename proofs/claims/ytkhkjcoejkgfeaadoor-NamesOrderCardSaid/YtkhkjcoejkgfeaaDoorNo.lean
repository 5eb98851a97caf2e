/-
  Walks: the order.
  Conditions: none beyond those typed at each theorem.
-/
import Derived.Test.YtkhkjcoejkgfeaaDoorNm
import Derived.Deep.RegionHeld3
namespace Go.Proofs.YtkhkjcoejkgfeaaDoor
open Go Go.RowKit

def cmpI (x y : Int) : Int := if x < y then -1 else if y < x then 1 else 0
theorem cmp_any (x y : Int) (w : World) : Calls Tryd.prog 28 #[.int .i64 x, .int .i64 y] w fun e w' => e = .returned (.int .i64 (cmpI x y)) ∧ w' = w := Tryd.cmp_Compare_int x y w
theorem isnan8 (x : Int) (w : World) : Calls Tryd.prog 33 #[.int .u8 x] w fun e w' => e = .returned (.bool false) ∧ w' = w := by
  go_enter Tryd.func33, Tryd.ntmps33
  go_wp2
  go_ret
  exact ⟨ret_bool (by simp), rfl⟩
theorem cmp8_any (x y : Int) (w : World) : Calls Tryd.prog 29 #[.int .u8 x, .int .u8 y] w fun e w' => e = .returned (.int .i64 (cmpI x y)) ∧ w' = w := by
  have hv : (x < y ∧ cmpI x y = -1) ∨ (¬ x < y ∧ y < x ∧ cmpI x y = 1) ∨ (¬ x < y ∧ ¬ y < x ∧ cmpI x y = 0) := by
    unfold cmpI
    by_cases h : x < y
    · exact .inl ⟨h, if_pos h⟩
    · by_cases h' : y < x
      · exact .inr (.inl ⟨h, h', by rw [if_neg h, if_pos h']⟩)
      · exact .inr (.inr ⟨h, h', by rw [if_neg h, if_neg h']⟩)
  have HN := Lib.hid isnan8
  generalize cmpI x y = r at *
  rcases hv with ⟨h, rfl⟩ | ⟨h, h', rfl⟩ | ⟨h, h', rfl⟩
  all_goals
    go_enter Tryd.func29, Tryd.ntmps29
    go_wp2_with fail
    refine (HN.out _ _).mono ?_
    rintro e w1 ⟨rfl, rfl⟩
    go_wp2_with fail
    refine (HN.out _ _).mono ?_
    rintro e w2 ⟨rfl, rfl⟩
    go_wp2
    go_ret
    exact ⟨rfl, rfl⟩
/-- The first that is not nought. -/
def orI (a b c : Int) : Int := if a ≠ 0 then a else if b ≠ 0 then b else c
set_option maxHeartbeats 1000000 in
theorem or_any (a b c : Int) (w : World) (B : Nat) (h0 : w.cell? ⟨B, 0, none⟩ = some (.int .i64 a)) (h1 : w.cell? ⟨B, 1, none⟩ = some (.int .i64 b)) (h2 : w.cell? ⟨B, 2, none⟩ = some (.int .i64 c)) :
    Calls Tryd.prog 27 #[.slice (some ⟨B, 0, none⟩) 3 3] w fun e w' => e = .returned (.int .i64 (orI a b c)) ∧ w' = w := by
  have hv : ((a == 0) = false ∧ orI a b c = a) ∨ ((a == 0) = true ∧ (b == 0) = false ∧ orI a b c = b) ∨ ((a == 0) = true ∧ (b == 0) = true ∧ (c == 0) = false ∧ orI a b c = c) ∨ ((a == 0) = true ∧ (b == 0) = true ∧ (c == 0) = true ∧ orI a b c = 0) := by
    unfold orI
    by_cases h : a = 0
    · by_cases h' : b = 0
      · by_cases h'' : c = 0
        · simp [h, h', h'']
        · simp [h, h', h'']
      · simp [h, h']
    · simp [h]
  generalize orI a b c = r at *
  rcases hv with ⟨e0, rfl⟩ | ⟨e0, e1, rfl⟩ | ⟨e0, e1, e2, rfl⟩ | ⟨e0, e1, e2, rfl⟩
  · have f0 : (r != 0) = true := by simpa using e0
    go_enter Tryd.func27, Tryd.ntmps27
    go_wp2
    refine wp_loop_rounds 1 ?_
    rw [rounds_succ]
    go_wp2
    go_ret
    exact ⟨rfl, rfl⟩
  · obtain rfl : a = 0 := by simpa using e0
    have f0 : (r != 0) = true := by simpa using e1
    go_enter Tryd.func27, Tryd.ntmps27
    go_wp2
    refine wp_loop_rounds 2 ?_
    rw [rounds_succ]
    go_wp2
    rw [rounds_succ]
    go_wp2
    go_ret
    exact ⟨rfl, rfl⟩
  · obtain rfl : a = 0 := by simpa using e0
    obtain rfl : b = 0 := by simpa using e1
    have f0 : (r != 0) = true := by simpa using e2
    go_enter Tryd.func27, Tryd.ntmps27
    go_wp2
    refine wp_loop_rounds 3 ?_
    rw [rounds_succ]
    go_wp2
    rw [rounds_succ]
    go_wp2
    rw [rounds_succ]
    go_wp2
    go_ret
    exact ⟨rfl, rfl⟩
  · obtain rfl : a = 0 := by simpa using e0
    obtain rfl : b = 0 := by simpa using e1
    obtain rfl : c = 0 := by simpa using e2
    go_enter Tryd.func27, Tryd.ntmps27
    go_wp2
    refine wp_loop_rounds 4 ?_
    rw [rounds_succ]
    go_wp2
    rw [rounds_succ]
    go_wp2
    rw [rounds_succ]
    go_wp2
    rw [rounds_succ]
    go_wp2
    go_ret
    exact ⟨rfl, rfl⟩
end Go.Proofs.YtkhkjcoejkgfeaaDoor
