/-
  Walk: stableCmpFunc, up to forty.
  Conditions: none beyond those typed at each theorem.
-/
import Derived.Test.YtkhkjcoejkgfeaaDoorSe
namespace Go.Proofs.YtkhkjcoejkgfeaaDoor
open Go Go.RowKit

/-- insertionSort from a place on, whatever is left. -/
theorem insertion_rest (w : World) (B n cap : Nat) (hB : B < w.heap.size) (P Q post : List Idn) (W : World) (hr : RW w B n (P ++ Q ++ post) W) (hn : n ≤ 1000000) {a b : Int} (ha : a = (P.length : Nat)) (hb : b = ((P.length + Q.length : Nat) : Int)) :
    Calls Tryd.prog 34 #[.slice (some ⟨B, 0, none⟩) n cap, .int .i64 a, .int .i64 b, .func (.func 22) #[] #[]] W fun e w' => (∃ v, e = .returned v) ∧ ∃ S', S'.Perm Q ∧ Srt S' ∧ RW w B n (P ++ S' ++ post) w' := by
  have hl := hr.len
  simp only [List.length_append] at hl
  subst ha hb
  cases Q with
  | nil =>
    refine (insertion_none w B n cap _ W hr P.length (by omega) _).mono ?_
    rintro e w' ⟨h1, h2⟩
    exact ⟨h1, [], List.Perm.refl _, List.Pairwise.nil, h2⟩
  | cons x S =>
    exact insertion_some w B n cap hB P S post x W hr hn P.length (P.length + (x :: S).length) rfl (by simp; omega)

theorem srt_nil : Srt [] := List.Pairwise.nil
theorem chunk_next {P S : List Idn} {j : Nat} (hj : P.length = 20 * j) (hS : S.length ≤ 20) (hs : Srt S) (h1 : Srt (P.take 20)) (h2 : Srt (P.drop 20)) (hsum : P.length + S.length ≤ 40) :
    Srt ((P ++ S).take 20) ∧ Srt ((P ++ S).drop 20) := by
  match j, hj with
  | 0, hj =>
    have : P = [] := List.eq_nil_of_length_eq_zero (by omega)
    subst this
    rw [List.nil_append, List.take_of_length_le hS, List.drop_of_length_le hS]
    exact ⟨hs, srt_nil⟩
  | 1, hj =>
    have e1 : P.take 20 = P := List.take_of_length_le (by omega)
    rw [e1] at h1
    have e2 : (P ++ S).take 20 = P := by rw [show (20 : Nat) = P.length by omega, List.take_left]
    have e3 : (P ++ S).drop 20 = S := by rw [show (20 : Nat) = P.length by omega, List.drop_left]
    rw [e2, e3]
    exact ⟨h1, hs⟩
  | j + 2, hj =>
    have : S = [] := List.eq_nil_of_length_eq_zero (by omega)
    subst this
    rw [List.append_nil]
    exact ⟨h1, h2⟩

set_option maxRecDepth 100000 in
set_option maxHeartbeats 8000000 in
theorem stable_any (w : World) (B n cap : Nat) (hB : B < w.heap.size) (d : List Idn) (W : World) (hr : RW w B n d W) (hn : n ≤ 40) :
    Calls Tryd.prog 30 #[.slice (some ⟨B, 0, none⟩) n cap, .int .i64 n, .func (.func 22) #[] #[]] W fun e w' => (∃ v, e = .returned v) ∧ ∃ M, M.Perm d ∧ Srt M ∧ RW w B n M w' := by
  have hl := hr.len
  have HR := Lib.hid hr
  have HL := Lib.hid hl
  clear hr hl
  go_enter Tryd.func30, Tryd.ntmps30
  go_wp2
  go_loopw [7, 8] (fun av bv wr => ∃ (j a b : Nat) (P Q : List Idn), av = .int .i64 (a : Int) ∧ bv = .int .i64 (b : Int) ∧ a ≤ n ∧ a + 20 ≤ b ∧ b ≤ a + 20 ∧ Hid (a = 20 * j) ∧ Hid (P.length = 20 * j) ∧ Hid ((P ++ Q).Perm d) ∧ Hid (Srt (P.take 20) ∧ Srt (P.drop 20)) ∧ RW w B n (P ++ Q) wr) (fun av _ _ => n - (intOf av).toNat)
  case atStart => exact ⟨0, 0, 20, [], d, rfl, rfl, by omega, by omega, by omega, Lib.hid rfl, Lib.hid rfl, Lib.hid (List.Perm.refl _), Lib.hid ⟨srt_nil, srt_nil⟩, HR.out⟩
  case round =>
    obtain ⟨j, a, b, P, Q, rfl, rfl, hjn, b1, b2, HJ, HP, HPM, HS, h⟩ := hrel
    have hPQ := h.len
    rw [List.length_append] at hPQ
    have HA := Lib.hid (And.intro HJ.out hPQ)
    have HH := Lib.hid h
    clear h hPQ HJ
    by_cases hlt : b ≤ n
    · have hltz : (b : Int) ≤ (n : Int) := by omega
      go_wp2_with fail
      obtain ⟨ha, hPQ⟩ := HA.out
      have hP := HP.out
      have hsp : P ++ Q = P ++ Q.take 20 ++ Q.drop 20 := by rw [List.append_assoc, List.take_append_drop]
      have hq : (Q.take 20).length = 20 := by rw [List.length_take]; omega
      refine (insertion_rest w B n cap hB P (Q.take 20) (Q.drop 20) wr (hsp ▸ HH.out) (by omega) (by omega) (by omega)).mono ?_
      rintro e w1 ⟨⟨v, rfl⟩, S', h1, h2, h3⟩
      have hs' := h1.length_eq
      have H1 := Lib.hid (And.intro h1 (And.intro h2 (And.intro h3 (And.intro hs' hq))))
      clear h1 h2 h3 ha hP hPQ hsp hq hs'
      go_wp2
      obtain ⟨h1, h2, h3, h4, h5⟩ := H1.out
      obtain ⟨ha, hPQ⟩ := HA.out
      have hP := HP.out
      refine ⟨⟨j + 1, b, b + 20, P ++ S', Q.drop 20, rfl, by go_num, by omega, by omega, by omega, Lib.hid (by omega), Lib.hid ?_, Lib.hid ?_, Lib.hid ?_, h3⟩, by simp [intOf]; omega⟩
      · rw [List.length_append]; omega
      · refine List.Perm.trans ?_ HPM.out
        rw [List.append_assoc]
        refine List.Perm.append_left _ ?_
        conv => rhs; rw [← List.take_append_drop 20 Q]
        exact List.Perm.append_right _ h1
      · exact chunk_next hP (by omega) h2 HS.out.1 HS.out.2 (by omega)
    · have hltz : ¬ (b : Int) ≤ (n : Int) := by omega
      go_wp2_with fail
      obtain ⟨ha, hPQ⟩ := HA.out
      have hP := HP.out
      refine (insertion_rest w B n cap hB P Q [] wr (by simpa using HH.out) (by omega) (by omega) (by omega)).mono ?_
      rintro e w1 ⟨⟨v, rfl⟩, S', h1, h2, h3⟩
      rw [List.append_nil] at h3
      have hs' := h1.length_eq
      obtain ⟨d1, hd1⟩ : ∃ d1, P ++ S' = d1 := ⟨_, rfl⟩
      have hch := chunk_next hP (by omega) h2 HS.out.1 HS.out.2 (by omega)
      have hpm : (P ++ S').Perm d := (List.Perm.append_left _ h1).trans HPM.out
      rw [hd1] at h3 hch hpm
      have hl1 := h3.len
      have H1 := Lib.hid (And.intro hch (And.intro hpm (And.intro h3 hl1)))
      clear h1 h2 h3 ha hP hPQ hs' hd1 hch hpm hl1
      go_wp2
      go_loopw [6] (fun sv wr => ((sv = .int .i64 20 ∧ RW w B n d1 wr) ∨ (sv = .int .i64 40 ∧ ∃ M, M.Perm d ∧ Srt M ∧ RW w B n M wr))) (fun sv _ => 40 - (intOf sv).toNat)
      case atStart => exact .inl ⟨rfl, H1.out.2.2.1⟩
      case round =>
        rcases hrel with ⟨rfl, h⟩ | ⟨rfl, M, m1, m2, m3⟩
        · have HW := Lib.hid h
          clear h
          by_cases hlt2 : 20 < n
          · have hltz2 : (20 : Int) < (n : Int) := by omega
            go_wp2
            go_loopw [7, 8] (fun av bv wr => ((av = .int .i64 0 ∧ bv = .int .i64 40 ∧ RW w B n d1 wr) ∨ (av = .int .i64 40 ∧ bv = .int .i64 80 ∧ n = 40 ∧ ∃ M, M.Perm d ∧ Srt M ∧ RW w B n M wr))) (fun av _ _ => 40 - (intOf av).toNat)
            case atStart => exact .inl ⟨rfl, rfl, HW.out⟩
            case round =>
              rcases hrel with ⟨rfl, rfl, h⟩ | ⟨rfl, rfl, hn40, M, m1, m2, m3⟩
              · have HW2 := Lib.hid h
                clear h
                have k1 : (d1.take 20).length = 20 := by rw [List.length_take, H1.out.2.2.2]; omega
                have k2 : (d1.drop 20).length = n - 20 := by rw [List.length_drop, H1.out.2.2.2]
                have HK := Lib.hid (And.intro k1 k2)
                clear k1 k2
                by_cases hlt3 : 40 ≤ n
                · have hltz3 : (40 : Int) ≤ (n : Int) := by omega
                  go_wp2_with fail
                  obtain ⟨k1, k2⟩ := HK.out
                  refine (sm_any w B n cap hB (by omega) 40 [] (d1.take 20) (d1.drop 20) [] _ (by omega) (by omega) (by omega) H1.out.1.1 H1.out.1.2 (by simpa using HW2.out) (by simp) (by rw [List.length_nil]; omega) (by rw [List.length_nil]; omega)).mono ?_
                  rintro e w2 ⟨⟨v, rfl⟩, M, m1, m2, m3⟩
                  have H2 := Lib.hid (And.intro m1 (And.intro m2 m3))
                  clear m1 m2 m3 k1 k2
                  go_wp2
                  obtain ⟨m1, m2, m3⟩ := H2.out
                  refine ⟨.inr ⟨rfl, rfl, by omega, M, ?_, m2, by simpa using m3⟩, by simp [intOf]⟩
                  rw [List.take_append_drop] at m1
                  exact m1.trans H1.out.2.1
                · have hltz3 : ¬ (40 : Int) ≤ (n : Int) := by omega
                  go_wp2_with fail
                  obtain ⟨k1, k2⟩ := HK.out
                  refine (sm_any w B n cap hB (by omega) 40 [] (d1.take 20) (d1.drop 20) [] _ (by omega) (by omega) (by omega) H1.out.1.1 H1.out.1.2 (by simpa using HW2.out) (by simp) (by rw [List.length_nil]; omega) (by rw [List.length_nil]; omega)).mono ?_
                  rintro e w2 ⟨⟨v, rfl⟩, M, m1, m2, m3⟩
                  have H2 := Lib.hid (And.intro m1 (And.intro m2 m3))
                  clear m1 m2 m3 k1 k2
                  go_wp2
                  obtain ⟨m1, m2, m3⟩ := H2.out
                  refine ⟨.inr ⟨rfl, M, ?_, m2, by simpa using m3⟩, by simp [intOf]⟩
                  rw [List.take_append_drop] at m1
                  exact m1.trans H1.out.2.1
              · have H2 := Lib.hid (And.intro m1 (And.intro m2 m3))
                clear m1 m2 m3
                have hltz3 : ¬ (80 : Int) ≤ (n : Int) := by omega
                have hltz4 : ¬ (60 : Int) < (n : Int) := by omega
                clear hn40
                go_wp2
                exact ⟨.inr ⟨rfl, M, H2.out⟩, by simp [intOf]⟩
          · have hltz2 : ¬ (20 : Int) < (n : Int) := by omega
            go_wp2
            refine bodyPost_end (results_none rfl _ _ _) rfl ⟨⟨_, rfl⟩, d1, H1.out.2.1, ?_, HW.out⟩
            have := H1.out.1.1
            rwa [List.take_of_length_le (by rw [H1.out.2.2.2]; omega)] at this
        · have H2 := Lib.hid (And.intro m1 (And.intro m2 m3))
          clear m1 m2 m3
          have hltz2 : ¬ (40 : Int) < (n : Int) := by omega
          go_wp2
          exact bodyPost_end (results_none rfl _ _ _) rfl ⟨⟨_, rfl⟩, M, H2.out⟩
end Go.Proofs.YtkhkjcoejkgfeaaDoor
