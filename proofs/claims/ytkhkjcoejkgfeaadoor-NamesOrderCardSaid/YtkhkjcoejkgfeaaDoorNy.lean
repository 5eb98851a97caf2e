/-
  The order's laws; walk: insertionSort.
  Conditions: none beyond those typed at each theorem.
-/
import Derived.Test.YtkhkjcoejkgfeaaDoorNx
namespace Go.Proofs.YtkhkjcoejkgfeaaDoor
open Go Go.RowKit

theorem ordI_lt (x y : Idn) : ordI x y < 0 ↔ x.seq < y.seq ∨ (x.seq = y.seq ∧ (x.kind < y.kind ∨ (x.kind = y.kind ∧ x.fmt < y.fmt))) := by
  unfold ordI orI cmpI
  split <;> split <;> (try split) <;> (try split) <;> (try split) <;> (try split) <;> (try split) <;> (try split) <;> omega
/-- x stands no further behind than y. -/
def Le (x y : Idn) : Prop := ¬ ordI y x < 0
theorem Le.trans {x y z : Idn} (h : Le x y) (g : Le y z) : Le x z := by
  unfold Le at *
  rw [ordI_lt] at *
  omega
theorem Le.of_lt {x y : Idn} (h : ordI x y < 0) : Le x y := by
  unfold Le
  rw [ordI_lt] at *
  omega
theorem Le.refl (x : Idn) : Le x x := by
  unfold Le
  rw [ordI_lt]
  omega
abbrev Srt (l : List Idn) : Prop := l.Pairwise Le

theorem set_two (A : List Idn) (p q : Idn) (Z : List Idn) : ((A ++ p :: q :: Z).set (A.length + 1) p).set A.length q = A ++ q :: p :: Z := by
  rw [List.set_append_right _ _ (by omega), List.set_append_right _ _ (by omega)]
  simp
theorem at_seg (A : List Idn) (q : Idn) (Z : List Idn) : (A ++ q :: Z)[A.length]? = some q := by
  rw [List.getElem?_append_right (Nat.le_refl _), Nat.sub_self]; rfl
theorem at_seg1 (A : List Idn) (p q : Idn) (Z : List Idn) : (A ++ p :: q :: Z)[A.length + 1]? = some q := by
  rw [List.getElem?_append_right (by omega), show A.length + 1 - A.length = 1 by omega]; rfl
/-- One in its place. -/
theorem srt_in {P1 P2 : List Idn} {q : Idn} (h : Srt (P1 ++ P2)) (h1 : ∀ p ∈ P1, Le p q) (h2 : ∀ p ∈ P2, Le q p) : Srt (P1 ++ q :: P2) := by
  unfold Srt at *
  rw [List.pairwise_append] at h ⊢
  refine ⟨h.1, List.pairwise_cons.2 ⟨h2, h.2.1⟩, fun a ha b hb => ?_⟩
  rcases List.mem_cons.1 hb with rfl | hb
  · exact h1 a ha
  · exact h.2.2 a ha b hb
end Go.Proofs.YtkhkjcoejkgfeaaDoor
