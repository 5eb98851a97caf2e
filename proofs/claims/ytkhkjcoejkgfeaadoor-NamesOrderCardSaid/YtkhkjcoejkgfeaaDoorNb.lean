/-
  Walks: Itoa, letterOf, plainOf; what worlds keep of the table of powers.
  Conditions: none beyond those typed at each theorem.
-/
import Derived.Test.YtkhkjcoejkgfeaaDoorData
import Derived.Test.YtkhkjcoejkgfeaaDoorShelf
import Derived.Test.YtkhkjcoejkgfeaaDoorNa
import Derived.Lib.LaidTab
import Derived.WalkKit
import Derived.WalkSpells
import Derived.WalkLawsBesides
import Derived.Laws.Externs
import Derived.Lib.Hide
import Derived.BigQuiet
namespace Go.Proofs.YtkhkjcoejkgfeaaDoor
open Go Go.RowKit

/-- The table of powers lies. -/
abbrev Tab (w : World) : Prop := Lib.TabIs Tryd.prog w "internal/strconv.uint64pow10" .u64 Lib.pow10Tab
theorem Tab.gr {A B : World} (h : Tab A) (k : Gr A B) : Tab B := by
  unfold Tab Lib.TabIs World.var? at *
  cases hg : Tryd.prog.globalNamed "internal/strconv.uint64pow10" with
  | none => simp [hg] at h
  | some g =>
    simp only [hg, Option.bind_some] at h ⊢
    have hlt : g < A.heap.size := by
      rcases Nat.lt_or_ge g A.heap.size with h' | h'
      · exact h'
      · rw [Array.getElem?_eq_none h'] at h; simp at h
    rw [Below.block k g hlt]
    exact h
theorem grow_gr (w : World) (k : Nat) (os : Array Obj) : Gr w (Go.Sort.grow (w.drewN k) os) := by
  refine (Gr.drewN (Gr.refl w) k).trans ⟨rfl, rfl, rfl, by simp, fun b hb => ?_⟩
  exact Go.Sort.heap_grow_old _ _ hb
abbrev strV (l : List UInt8) : Value := .string ⟨l.toArray⟩
theorem itoa_any {n : Int} (h0 : -9223372036854775808 ≤ n) (h1 : n ≤ 9223372036854775807) {w : World} (ht : Tab w) :
    Calls Tryd.prog 20 #[.int .i64 n] w fun e w' => e = .returned (strV (Lib.itoa n)) ∧ Gr w w' := by
  refine (Tryd.strconv_Itoa n h0 h1 w ht).mono ?_
  rintro e w' ⟨rfl, k, os, rfl⟩
  exact ⟨rfl, grow_gr _ _ _⟩
/-- A kind's letter, a kind's name. -/
def letterS (k : Int) : List UInt8 := if k = 3 then [115] else if k = 4 then [112] else []
def plainS (k : Int) : List UInt8 := if k = 1 then [77] else if k = 2 then [77, 46, 110, 101, 119] else []
theorem letter_any (k : Int) (w : World) : Calls Tryd.prog 18 #[.int .u8 k] w fun e w' => e = .returned (strV (letterS k)) ∧ w' = w := by
  have hv : (k = 3 ∧ letterS k = [115]) ∨ (k ≠ 3 ∧ k = 4 ∧ letterS k = [112]) ∨ (k ≠ 3 ∧ k ≠ 4 ∧ letterS k = []) := by
    unfold letterS
    by_cases h : k = 3
    · exact .inl ⟨h, if_pos h⟩
    · by_cases h' : k = 4
      · exact .inr (.inl ⟨h, h', by rw [if_neg h, if_pos h']⟩)
      · exact .inr (.inr ⟨h, h', by rw [if_neg h, if_neg h']⟩)
  generalize letterS k = l at *
  rcases hv with ⟨h, rfl⟩ | ⟨h, h', rfl⟩ | ⟨h, h', rfl⟩
  all_goals
    go_enter Tryd.func18, Tryd.ntmps18
    go_wp2
    go_ret
    exact ⟨rfl, rfl⟩
theorem plain_any (k : Int) (w : World) : Calls Tryd.prog 19 #[.int .u8 k] w fun e w' => e = .returned (strV (plainS k)) ∧ w' = w := by
  have hv : (k = 1 ∧ plainS k = [77]) ∨ (k ≠ 1 ∧ k = 2 ∧ plainS k = [77, 46, 110, 101, 119]) ∨ (k ≠ 1 ∧ k ≠ 2 ∧ plainS k = []) := by
    unfold plainS
    by_cases h : k = 1
    · exact .inl ⟨h, if_pos h⟩
    · by_cases h' : k = 2
      · exact .inr (.inl ⟨h, h', by rw [if_neg h, if_pos h']⟩)
      · exact .inr (.inr ⟨h, h', by rw [if_neg h, if_neg h']⟩)
  generalize plainS k = l at *
  rcases hv with ⟨h, rfl⟩ | ⟨h, h', rfl⟩ | ⟨h, h', rfl⟩
  all_goals
    go_enter Tryd.func19, Tryd.ntmps19
    go_wp2
    go_ret
    exact ⟨rfl, rfl⟩
/-- What a name says, as a value. -/
abbrev idV (x : Idn) : Value := .agg #[.int .u8 x.kind, .int .i64 x.seq, .int .i64 x.fmt]
end Go.Proofs.YtkhkjcoejkgfeaaDoor
