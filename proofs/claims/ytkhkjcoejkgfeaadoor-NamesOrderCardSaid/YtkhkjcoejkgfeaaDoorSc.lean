/-
  Plain law: where symMerge parts the two sides.
  Conditions: none beyond those typed at each theorem.
-/
import Derived.Test.YtkhkjcoejkgfeaaDoorSb
namespace Go.Proofs.YtkhkjcoejkgfeaaDoor
open Go Go.RowKit

theorem srt_at {l : List Idn} (h : Srt l) {i j : Nat} {x y : Idn} (hij : i ≤ j) (hx : l[i]? = some x) (hy : l[j]? = some y) : Le x y := by
  obtain ⟨h4, rfl⟩ := List.getElem?_eq_some_iff.1 hx
  obtain ⟨h5, rfl⟩ := List.getElem?_eq_some_iff.1 hy
  rcases Nat.lt_or_ge i j with hst | hst
  · exact List.pairwise_iff_getElem.1 h _ _ h4 h5 hst
  · have : i = j := by omega
    subst this
    exact Le.refl _
theorem mem_take_at {l : List Idn} {k : Nat} {x : Idn} (h : x ∈ l.take k) : ∃ i, i < k ∧ l[i]? = some x := by
  obtain ⟨i, hi, rfl⟩ := List.getElem_of_mem h
  rw [List.length_take] at hi
  exact ⟨i, by omega, by rw [List.getElem_take, List.getElem?_eq_getElem]⟩
theorem mem_drop_at {l : List Idn} {k : Nat} {x : Idn} (h : x ∈ l.drop k) : ∃ i, k ≤ i ∧ l[i]? = some x := by
  obtain ⟨i, hi, rfl⟩ := List.getElem_of_mem h
  rw [List.length_drop] at hi
  exact ⟨k + i, by omega, by rw [List.getElem_drop, List.getElem?_eq_getElem]⟩
/-- The two cuts: what lies left of both stands ahead of what lies right of both. -/
theorem parted {L R : List Idn} (hL : Srt L) (hR : Srt R) (u v : Nat)
    (hA : u = 0 ∨ v = R.length ∨ ∃ x y, L[u - 1]? = some x ∧ R[v]? = some y ∧ Le x y)
    (hB : u = L.length ∨ v = 0 ∨ ∃ x y, L[u]? = some x ∧ R[v - 1]? = some y ∧ Le y x)
    {M1 M2 : List Idn} (p1 : M1.Perm (L.take u ++ R.take v)) (p2 : M2.Perm (L.drop u ++ R.drop v)) (s1 : Srt M1) (s2 : Srt M2) :
    Srt (M1 ++ M2) ∧ (M1 ++ M2).Perm (L ++ R) := by
  refine ⟨List.pairwise_append.2 ⟨s1, s2, fun x hx y hy => ?_⟩, ?_⟩
  · have hx := p1.mem_iff.1 hx
    have hy := p2.mem_iff.1 hy
    rcases List.mem_append.1 hx with hx | hx <;> rcases List.mem_append.1 hy with hy | hy
    · obtain ⟨i, hi, hx⟩ := mem_take_at hx
      obtain ⟨j, hj, hy⟩ := mem_drop_at hy
      exact srt_at hL (by omega) hx hy
    · obtain ⟨i, hi, hx⟩ := mem_take_at hx
      obtain ⟨j, hj, hy⟩ := mem_drop_at hy
      have hjl : j < R.length := by
        rcases Nat.lt_or_ge j R.length with h | h
        · exact h
        · rw [List.getElem?_eq_none h] at hy; cases hy
      rcases hA with hA | hA | ⟨a, b, ha, hb, hab⟩
      · omega
      · omega
      · exact Le.trans (srt_at hL (by omega) hx ha) (Le.trans hab (srt_at hR hj hb hy))
    · obtain ⟨i, hi, hx⟩ := mem_take_at hx
      obtain ⟨j, hj, hy⟩ := mem_drop_at hy
      have hjl : j < L.length := by
        rcases Nat.lt_or_ge j L.length with h | h
        · exact h
        · rw [List.getElem?_eq_none h] at hy; cases hy
      rcases hB with hB | hB | ⟨a, b, ha, hb, hab⟩
      · omega
      · omega
      · exact Le.trans (srt_at hR (by omega) hx hb) (Le.trans hab (srt_at hL hj ha hy))
    · obtain ⟨i, hi, hx⟩ := mem_take_at hx
      obtain ⟨j, hj, hy⟩ := mem_drop_at hy
      exact srt_at hR (by omega) hx hy
  · refine (p1.append p2).trans ?_
    have e : L ++ R = (L.take u ++ L.drop u) ++ (R.take v ++ R.drop v) := by rw [List.take_append_drop, List.take_append_drop]
    rw [e]
    rw [List.append_assoc, List.append_assoc]
    refine List.Perm.append_left _ ?_
    rw [← List.append_assoc, ← List.append_assoc]
    exact List.Perm.append_right _ List.perm_append_comm
end Go.Proofs.YtkhkjcoejkgfeaaDoor
