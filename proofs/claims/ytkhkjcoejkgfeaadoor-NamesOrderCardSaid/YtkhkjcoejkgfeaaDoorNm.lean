/-
  Walks: rows of names that are the same, great, May.
  Conditions: none beyond those typed at each theorem.
-/
import Derived.Test.YtkhkjcoejkgfeaaDoorNi
namespace Go.Proofs.YtkhkjcoejkgfeaaDoor
open Go Go.RowKit

section
variable {α : Type}
theorem upto_step {xs ys : List α} {j : Nat} {x y : α} (hx : xs[j]? = some x) (hy : ys[j]? = some y) (h : xs.take j = ys.take j) (he : x = y) : xs.take (j + 1) = ys.take (j + 1) := by
  rw [List.take_add_one, List.take_add_one, h, hx, hy, he]
theorem upto_ne {xs ys : List α} {j : Nat} {x y : α} (hx : xs[j]? = some x) (hy : ys[j]? = some y) (hne : x ≠ y) : xs ≠ ys := by
  rintro rfl; rw [hx] at hy; exact hne (by simpa using hy)
theorem upto_end {xs ys : List α} {j : Nat} (h : xs.take j = ys.take j) (hx : xs.length ≤ j) (hy : ys.length ≤ j) : xs = ys := by
  rwa [List.take_of_length_le hx, List.take_of_length_le hy] at h
end
theorem ret_bool {a b : Bool} (h : a = b) : Ending.returned (.bool a) = Ending.returned (.bool b) := by rw [h]

set_option maxHeartbeats 400000 in
theorem strs_apart (w : World) (a1 a2 : Option Addr) (n1 c1 n2 c2 : Nat) (_h1 : n1 ≤ 1000000) (_h2 : n2 ≤ 1000000) (hne : n1 ≠ n2) :
    Calls Tryd.prog 17 #[.slice a1 n1 c1, .slice a2 n2 c2] w fun e w' => e = .returned (.bool false) ∧ Gr w w' := by
  have hq : ((n1 : Int) != (n2 : Int)) = true := by rw [bne_iff_ne]; omega
  go_enter Tryd.func17, Tryd.ntmps17
  go_wp2
  go_ret
  exact ⟨rfl, Gr.refl w⟩
set_option maxHeartbeats 400000 in
theorem strs_none (w : World) (a1 a2 : Option Addr) (c1 c2 : Nat) :
    Calls Tryd.prog 17 #[.slice a1 0 c1, .slice a2 0 c2] w fun e w' => e = .returned (.bool true) ∧ Gr w w' := by
  go_enter Tryd.func17, Tryd.ntmps17
  go_wp2
  go_loopw [5] (fun k wr => k = .int .i64 0 ∧ Gr w wr) (fun _ _ => 0)
  case atStart => exact ⟨rfl, Gr.refl w⟩
  case round =>
    obtain ⟨rfl, hgr⟩ := hrel
    go_wp2
    go_ret
    exact ⟨rfl, hgr⟩
set_option maxHeartbeats 400000 in
theorem strs_some (w : World) (b1 o1 c1 b2 o2 c2 : Nat) (xs ys : List (List UInt8)) (hlen : ys.length = xs.length) (hl : xs.length ≤ 1000000)
    (hx : ∀ (i : Nat) (z : List UInt8), xs[i]? = some z → w.cell? ⟨b1, o1 + i, none⟩ = some (strV z)) (hy : ∀ (i : Nat) (z : List UInt8), ys[i]? = some z → w.cell? ⟨b2, o2 + i, none⟩ = some (strV z)) :
    Calls Tryd.prog 17 #[.slice (some ⟨b1, o1, none⟩) xs.length c1, .slice (some ⟨b2, o2, none⟩) xs.length c2] w fun e w' => e = .returned (.bool (decide (xs = ys))) ∧ Gr w w' := by
  have HL := Lib.hid hlen
  have HX := Lib.hid hx
  have HY := Lib.hid hy
  clear hx hy hlen
  generalize hn : xs.length = n at *
  have HN := Lib.hid hn
  clear hn
  go_enter Tryd.func17, Tryd.ntmps17
  go_wp2
  go_loopw [5] (fun k wr => ∃ j : Nat, k = .int .i64 j ∧ j ≤ n ∧ xs.take j = ys.take j ∧ Gr w wr) (fun k _ => n - (intOf k).toNat)
  case atStart => exact ⟨0, rfl, by omega, rfl, Gr.refl _⟩
  case round =>
    obtain ⟨j, rfl, hj, htk, hgr⟩ := hrel
    have HT := Lib.hid htk
    clear htk
    by_cases hlt : j < n
    · obtain ⟨x, hxj⟩ : ∃ x, xs[j]? = some x := ⟨xs[j]'(by rw [HN.out]; exact hlt), List.getElem?_eq_getElem _⟩
      obtain ⟨y, hyj⟩ : ∃ y, ys[j]? = some y := ⟨ys[j]'(by rw [HL.out]; exact hlt), List.getElem?_eq_getElem _⟩
      have x0 := later_cell hgr (HX.out j x hxj)
      have y0 := later_cell hgr (HY.out j y hyj)
      have HXJ := Lib.hid hxj
      have HYJ := Lib.hid hyj
      clear hxj hyj
      by_cases he : x = y
      · have hb : (x == y) = true := by simpa using he
        have HE := Lib.hid he
        clear he
        go_wp2
        go_quiet (fail)
        go_wp2
        exact ⟨⟨j + 1, by go_num, by omega, upto_step HXJ.out HYJ.out HT.out HE.out, hgr.drewN _⟩, by simp [intOf]; omega⟩
      · have hb : (x == y) = false := by simpa using he
        have HE := Lib.hid he
        clear he
        go_wp2
        go_quiet (fail)
        go_wp2
        go_ret
        exact ⟨ret_bool (by simp [upto_ne HXJ.out HYJ.out HE.out]), hgr.drewN _⟩
    · go_wp2
      go_ret
      exact ⟨ret_bool (by simp [upto_end HT.out (by rw [HN.out]; omega) (by rw [HL.out]; omega)]), hgr⟩
theorem strs_any (w : World) (S T : Nat → Prop) (v1 v2 : Value) (xs ys : List (List UInt8)) (h1 : IsStrs S w v1 xs) (h2 : IsStrs T w v2 ys) (l1 : xs.length ≤ 1000000) (l2 : ys.length ≤ 1000000) :
    Calls Tryd.prog 17 #[v1, v2] w fun e w' => e = .returned (.bool (decide (xs = ys))) ∧ Gr w w' := by
  obtain ⟨a1, c1, rfl, _, _⟩ := h1.len
  obtain ⟨a2, c2, rfl, _, _⟩ := h2.len
  by_cases hne : xs.length = ys.length
  · by_cases h0 : 0 < xs.length
    · obtain ⟨b, o, c, hv, _, hx⟩ := h1.some h0
      obtain ⟨b', o', c', hv', _, hy⟩ := h2.some (by omega)
      rw [hv, hv', ← hne]
      exact strs_some w b o c b' o' c' xs ys hne.symm l1 hx hy
    · have e1 : xs = [] := List.eq_nil_of_length_eq_zero (by omega)
      have e2 : ys = [] := List.eq_nil_of_length_eq_zero (by omega)
      subst e1; subst e2
      exact (strs_none w a1 a2 c1 c2).mono fun e w' ⟨he, hw⟩ => ⟨by rw [he]; simp, hw⟩
  · refine (strs_apart w a1 a2 _ c1 _ c2 l1 l2 hne).mono fun e w' ⟨he, hw⟩ => ⟨?_, hw⟩
    rw [he]; exact ret_bool (by simp; intro h; exact hne (by rw [h]))

set_option maxHeartbeats 2000000 in
/-- May what a name says be? -/
theorem may_any (x : Idn) (w : World) : Calls Tryd.prog 10 #[idV x] w fun e w' => e = .returned (.bool (nameOf x).isSome) ∧ Gr w w' := by
  obtain ⟨k, s, f⟩ := x
  show Calls Tryd.prog 10 #[.agg #[.int .u8 k, .int .i64 s, .int .i64 f]] w fun e w' => e = .returned (.bool (nameOf ⟨k, s, f⟩).isSome) ∧ Gr w w'
  have hv : ((k = 1 ∨ (¬ k = 1 ∧ k = 2)) ∧ ((s = 0 ∧ f = 0 ∧ (nameOf ⟨k, s, f⟩).isSome = true) ∨ ((¬ s = 0 ∨ (s = 0 ∧ ¬ f = 0)) ∧ (nameOf ⟨k, s, f⟩).isSome = false))) ∨
      (¬ k = 1 ∧ ¬ k = 2 ∧ (k = 3 ∨ (¬ k = 3 ∧ k = 4)) ∧ ((1 ≤ s ∧ s ≤ 1073741824 ∧ (f = 1 ∨ (¬ f = 1 ∧ f = 2)) ∧ (nameOf ⟨k, s, f⟩).isSome = true) ∨ ((¬ 1 ≤ s ∨ (1 ≤ s ∧ ¬ s ≤ 1073741824) ∨ (1 ≤ s ∧ s ≤ 1073741824 ∧ ¬ f = 1 ∧ ¬ f = 2)) ∧ (nameOf ⟨k, s, f⟩).isSome = false))) ∨
      (¬ k = 1 ∧ ¬ k = 2 ∧ ¬ k = 3 ∧ ¬ k = 4 ∧ (nameOf ⟨k, s, f⟩).isSome = false) := by
    by_cases h12 : k = 1 ∨ k = 2
    · left
      refine ⟨by omega, ?_⟩
      by_cases h0 : s = 0 ∧ f = 0
      · left
        obtain ⟨rfl, rfl⟩ := h0
        refine ⟨rfl, rfl, ?_⟩
        rcases h12 with rfl | rfl <;> rfl
      · right
        refine ⟨by omega, ?_⟩
        unfold nameOf; rw [if_neg (by simp only; omega), if_neg (by simp only; omega), if_neg (by simp only; omega)]; rfl
    · right
      by_cases h34 : k = 3 ∨ k = 4
      · left
        refine ⟨by omega, by omega, by omega, ?_⟩
        by_cases hr : 1 ≤ s ∧ s ≤ 1073741824 ∧ 1 ≤ f ∧ f ≤ 2
        · left
          refine ⟨by omega, by omega, by omega, ?_⟩
          rw [nameOf_many (x := ⟨k, s, f⟩) h34 hr.1 hr.2.1 hr.2.2.1 hr.2.2.2]; rfl
        · right
          refine ⟨by omega, ?_⟩
          unfold nameOf; rw [if_neg (by simp only; omega), if_neg (by simp only; omega), if_neg (by simp only; omega)]; rfl
      · right
        refine ⟨by omega, by omega, by omega, by omega, ?_⟩
        unfold nameOf; rw [if_neg (by simp only; omega), if_neg (by simp only; omega), if_neg (by simp only; omega)]; rfl
  generalize (nameOf ⟨k, s, f⟩).isSome = r at *
  rcases hv with ⟨h1 | ⟨h1, h2⟩, ⟨h3, h4, rfl⟩ | ⟨h3 | ⟨h3, h4⟩, rfl⟩⟩ | ⟨h1, h2, h3 | ⟨h3, h4⟩, ⟨h5, h6, h7 | ⟨h7, h8⟩, rfl⟩ | ⟨h5 | ⟨h5, h6⟩ | ⟨h5, h6, h7, h8⟩, rfl⟩⟩ | ⟨h1, h2, h7, h8, rfl⟩
  rotate_right
  · have e1 : (k == 1) = false := by simpa using h1
    have e2 : (k == 2) = false := by simpa using h2
    have e3 : (k == 3) = false := by simpa using h7
    have e4 : (k == 4) = false := by simpa using h8
    clear h1 h2 h7 h8
    go_enter Tryd.func10, Tryd.ntmps10
    go_wp2
    go_ret
    exact ⟨rfl, Gr.alloc (Gr.refl _) _⟩
  all_goals
    go_enter Tryd.func10, Tryd.ntmps10
    go_wp2
    go_ret
    refine ⟨?_, Gr.alloc (Gr.refl _) _⟩
    first | rfl | exact ret_bool (by simpa using h4) | exact ret_bool (by simp [h7, h8])
end Go.Proofs.YtkhkjcoejkgfeaaDoor
