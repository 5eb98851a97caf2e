/-
  Exchange and rotation by segments; walk: rotate.
  Conditions: none beyond those typed at each theorem.
-/
import Derived.Test.YtkhkjcoejkgfeaaDoorNw
namespace Go.Proofs.YtkhkjcoejkgfeaaDoor
open Go Go.RowKit

theorem swpR_at (a b : Nat) (d : List Idn) : ∀ k, a + k ≤ b → b + k ≤ d.length → ∀ i, (swpR a b k d)[i]? = if a ≤ i ∧ i < a + k then d[b + (i - a)]? else if b ≤ i ∧ i < b + k then d[a + (i - b)]? else d[i]?
  | 0, _, _, i => by rw [if_neg (by omega), if_neg (by omega)]; rfl
  | k + 1, h1, h2, i => by
    have ih := swpR_at a b d k (by omega) (by omega)
    have hx := ih (a + k)
    rw [if_neg (by omega), if_neg (by omega)] at hx
    have hy := ih (b + k)
    rw [if_neg (by omega), if_neg (by omega)] at hy
    obtain ⟨x, hdx⟩ : ∃ x, d[a + k]? = some x := ⟨_, List.getElem?_eq_getElem (by omega)⟩
    obtain ⟨y, hdy⟩ : ∃ y, d[b + k]? = some y := ⟨_, List.getElem?_eq_getElem (by omega)⟩
    have e : swpR a b (k + 1) d = ((swpR a b k d).set (a + k) y).set (b + k) x := by
      show (match (swpR a b k d)[a + k]?, (swpR a b k d)[b + k]? with
        | some x, some y => ((swpR a b k d).set (a + k) y).set (b + k) x
        | _, _ => swpR a b k d) = _
      rw [hx, hy, hdx, hdy]
    have hl := swpR_length a b d k
    rw [e]
    by_cases c1 : i = b + k
    · subst c1
      rw [List.getElem?_set_self (by rw [List.length_set]; omega), if_neg (by omega), if_pos (by omega), ← hdx]
      congr 1; omega
    · rw [List.getElem?_set_ne (by omega)]
      by_cases c2 : i = a + k
      · subst c2
        rw [List.getElem?_set_self (by omega), if_pos (by omega), ← hdy]
        congr 1; omega
      · rw [List.getElem?_set_ne (by omega), ih i]
        by_cases d1 : a ≤ i ∧ i < a + k
        · rw [if_pos d1, if_pos (by omega)]
        · rw [if_neg d1]
          by_cases d2 : b ≤ i ∧ i < b + k
          · rw [if_pos d2, if_neg (by omega), if_pos (by omega)]
          · rw [if_neg d2, if_neg (by omega), if_neg (by omega)]
theorem swpR_seg (pre X mid Y post : List Idn) (h : X.length = Y.length) :
    swpR pre.length (pre.length + X.length + mid.length) X.length (pre ++ X ++ mid ++ Y ++ post) = pre ++ Y ++ mid ++ X ++ post := by
  apply List.ext_getElem?
  intro i
  rw [swpR_at _ _ _ _ (by omega) (by simp; omega)]
  simp only [List.append_assoc]
  by_cases c0 : i < pre.length
  · rw [if_neg (by omega), if_neg (by omega), List.getElem?_append_left c0, List.getElem?_append_left c0]
  · by_cases c1 : i < pre.length + X.length
    · rw [if_pos (by omega)]
      rw [List.getElem?_append_right (by omega), List.getElem?_append_right (by omega), List.getElem?_append_right (by omega), List.getElem?_append_left (by omega)]
      rw [List.getElem?_append_right (by omega), List.getElem?_append_left (by omega)]
      congr 1; omega
    · rw [if_neg (by omega)]
      by_cases c2 : i < pre.length + X.length + mid.length
      · rw [if_neg (by omega)]
        rw [List.getElem?_append_right (by omega), List.getElem?_append_right (by omega), List.getElem?_append_left (by omega)]
        rw [List.getElem?_append_right (by omega), List.getElem?_append_right (by omega), List.getElem?_append_left (by omega)]
        congr 1; omega
      · by_cases c3 : i < pre.length + X.length + mid.length + X.length
        · rw [if_pos (by omega)]
          rw [List.getElem?_append_right (by omega), List.getElem?_append_left (by omega)]
          rw [List.getElem?_append_right (by omega), List.getElem?_append_right (by omega), List.getElem?_append_right (by omega), List.getElem?_append_left (by omega)]
          congr 1; omega
        · rw [if_neg (by omega)]
          rw [List.getElem?_append_right (by omega), List.getElem?_append_right (by omega), List.getElem?_append_right (by omega), List.getElem?_append_right (by omega)]
          rw [List.getElem?_append_right (by omega), List.getElem?_append_right (by omega), List.getElem?_append_right (by omega), List.getElem?_append_right (by omega)]
          congr 1; omega

theorem swap_seg (w : World) (B n cap : Nat) (pre X mid Y post : List Idn) (W : World) (hr : RW w B n (pre ++ X ++ mid ++ Y ++ post) W) (h : X.length = Y.length) (hn : n ≤ 1000000) (f : Value) {a b k : Int} (ha : a = (pre.length : Nat)) (hb : b = ((pre.length + X.length + mid.length : Nat) : Int)) (hk : k = (X.length : Nat)) :
    Calls Tryd.prog 46 #[.slice (some ⟨B, 0, none⟩) n cap, .int .i64 a, .int .i64 b, .int .i64 k, f] W fun e w' => (∃ v, e = .returned v) ∧ RW w B n (pre ++ Y ++ mid ++ X ++ post) w' := by
  subst ha hb hk
  have hl := hr.len
  simp only [List.length_append] at hl
  refine (swap_range w B n cap pre.length (pre.length + X.length + mid.length) X.length _ W hr (by omega) (by omega) (by omega) hn f).mono ?_
  rintro e w' ⟨hv, h'⟩
  rw [swpR_seg pre X mid Y post h] at h'
  exact ⟨hv, h'⟩

set_option maxRecDepth 100000 in
set_option maxHeartbeats 4000000 in
theorem rotate_any (w : World) (B n cap : Nat) (pre L R post : List Idn) (W : World) (hr : RW w B n (pre ++ L ++ R ++ post) W) (hL : 0 < L.length) (hR : 0 < R.length) (hn : n ≤ 1000000) (f : Value) {a' m' b' : Int} (ha' : a' = (pre.length : Nat)) (hm' : m' = ((pre.length + L.length : Nat) : Int)) (hb' : b' = ((pre.length + L.length + R.length : Nat) : Int)) :
    Calls Tryd.prog 40 #[.slice (some ⟨B, 0, none⟩) n cap, .int .i64 a', .int .i64 m', .int .i64 b', f] W fun e w' => (∃ v, e = .returned v) ∧ RW w B n (pre ++ R ++ L ++ post) w' := by
  have hl := hr.len
  simp only [List.length_append] at hl
  have HR := Lib.hid hr
  clear hr
  obtain ⟨a, ha⟩ : ∃ a, pre.length = a := ⟨_, rfl⟩
  obtain ⟨m, hm⟩ : ∃ m, pre.length + L.length = m := ⟨_, rfl⟩
  obtain ⟨b, hb⟩ : ∃ b, pre.length + L.length + R.length = b := ⟨_, rfl⟩
  obtain rfl : a' = (a : Int) := by omega
  obtain rfl : m' = (m : Int) := by omega
  obtain rfl : b' = (b : Int) := by omega
  clear ha' hm' hb'
  have a1 : pre.length ≤ a := by omega
  have a2 : a ≤ pre.length := by omega
  have m1 : pre.length + L.length ≤ m := by omega
  have m2 : m ≤ pre.length + L.length := by omega
  have b1 : pre.length + L.length + R.length ≤ b := by omega
  have b2 : b ≤ pre.length + L.length + R.length := by omega
  have hb1 : b ≤ n := by omega
  have ham : a ≤ m := by omega
  have hmb : m ≤ b := by omega
  have hi0 : ((m : Int) - (a : Int)) = (L.length : Int) := by omega
  have hj0 : ((b : Int) - (m : Int)) = (R.length : Int) := by omega
  clear ha hm hb hl
  go_enter Tryd.func40, Tryd.ntmps40
  go_wp2
  go_loopw [10, 11] (fun iv jv wr => ∃ (i j : Nat) (pre' X Y post' : List Idn), iv = .int .i64 i ∧ jv = .int .i64 j ∧ X.length = i ∧ Y.length = j ∧ 0 < i ∧ 0 < j ∧ pre'.length + i = m ∧ RW w B n (pre' ++ X ++ Y ++ post') wr ∧ pre' ++ Y ++ X ++ post' = pre ++ R ++ L ++ post)
    (fun iv jv _ => (intOf iv).toNat + (intOf jv).toNat)
  case atStart => exact ⟨L.length, R.length, pre, L, R, post, by first | rfl | go_num | (rw [hi0]), by first | rfl | go_num | (rw [hj0]), rfl, rfl, hL, hR, by omega, HR.out, rfl⟩
  case round =>
    obtain ⟨i, j, pre', X, Y, post', rfl, rfl, hX, hY, hi, hj, hpm, h, heq⟩ := hrel
    have hl2 := h.len
    simp only [List.length_append] at hl2
    have HH := Lib.hid h
    have HE := Lib.hid heq
    clear h heq
    rcases Nat.lt_trichotomy i j with hc | hc | hc
    · have c1 : ¬ (i : Int) = (j : Int) := by omega
      have c2 : ¬ (j : Int) < (i : Int) := by omega
      go_wp2_with fail
      have hsp : Y = Y.take (j - i) ++ Y.drop (j - i) := (List.take_append_drop _ _).symm
      have hh := HH.out
      rw [hsp, show pre' ++ X ++ (Y.take (j - i) ++ Y.drop (j - i)) ++ post' = pre' ++ X ++ Y.take (j - i) ++ Y.drop (j - i) ++ post' by simp] at hh
      have k1 : (Y.take (j - i)).length = j - i := by rw [List.length_take]; omega
      have k2 : (Y.drop (j - i)).length = i := by rw [List.length_drop]; omega
      refine (swap_seg w B n cap pre' X (Y.take (j - i)) (Y.drop (j - i)) post' wr hh (by omega) hn f (by omega) (by omega) (by omega)).mono ?_
      rintro e w1 ⟨⟨v, rfl⟩, h1⟩
      have he := HE.out
      rw [hsp] at he
      have H1 := Lib.hid (show RW w B n (pre' ++ Y.drop (j - i) ++ Y.take (j - i) ++ (X ++ post')) w1 from by simpa using h1)
      have HE1 := Lib.hid (show pre' ++ Y.take (j - i) ++ Y.drop (j - i) ++ (X ++ post') = pre ++ R ++ L ++ post from by rw [← he]; simp)
      have K1 := Lib.hid (And.intro k1 k2)
      clear h1 he hh hsp k1 k2
      go_wp2
      exact ⟨⟨i, j - i, pre', Y.drop (j - i), Y.take (j - i), X ++ post', rfl, by go_num, K1.out.2, K1.out.1, hi, by omega, hpm, H1.out, HE1.out⟩, by simp [intOf]; omega⟩
    · subst hc
      go_wp2_with fail
      refine (swap_seg w B n cap pre' X [] Y post' wr (by simpa using HH.out) (by omega) hn f (by omega) (by simp; omega) (by omega)).mono ?_
      rintro e w1 ⟨⟨v, rfl⟩, h1⟩
      have H1 := Lib.hid (show RW w B n (pre ++ R ++ L ++ post) w1 from by rw [← HE.out]; simpa using h1)
      clear h1
      go_wp2
      exact bodyPost_end (results_none rfl _ _ _) rfl ⟨⟨_, rfl⟩, H1.out⟩
    · have c1 : ¬ (i : Int) = (j : Int) := by omega
      have c2 : (j : Int) < (i : Int) := by omega
      go_wp2_with fail
      have hsp : X = X.take j ++ X.drop j := (List.take_append_drop _ _).symm
      have hh := HH.out
      rw [hsp, show pre' ++ (X.take j ++ X.drop j) ++ Y ++ post' = pre' ++ X.take j ++ X.drop j ++ Y ++ post' by simp] at hh
      have k1 : (X.take j).length = j := by rw [List.length_take]; omega
      have k2 : (X.drop j).length = i - j := by rw [List.length_drop]; omega
      refine (swap_seg w B n cap pre' (X.take j) (X.drop j) Y post' wr hh (by omega) hn f (by omega) (by omega) (by omega)).mono ?_
      rintro e w1 ⟨⟨v, rfl⟩, h1⟩
      have he := HE.out
      rw [hsp] at he
      have H1 := Lib.hid (show RW w B n ((pre' ++ Y) ++ X.drop j ++ X.take j ++ post') w1 from by simpa using h1)
      have HE1 := Lib.hid (show (pre' ++ Y) ++ X.take j ++ X.drop j ++ post' = pre ++ R ++ L ++ post from by rw [← he]; simp)
      have K1 := Lib.hid (And.intro k1 k2)
      clear h1 he hh hsp k1 k2
      go_wp2
      exact ⟨⟨i - j, j, pre' ++ Y, X.drop j, X.take j, post', by go_num, rfl, K1.out.2, K1.out.1, by omega, hj, by rw [List.length_append]; omega, H1.out, HE1.out⟩, by simp [intOf]; omega⟩
end Go.Proofs.YtkhkjcoejkgfeaaDoor
