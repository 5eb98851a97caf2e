/-
  Walk: swapRange.
  Conditions: none beyond those typed at each theorem.
-/
import Derived.Test.YtkhkjcoejkgfeaaDoorNv
import Derived.Deep.RegionHeld3
namespace Go.Proofs.YtkhkjcoejkgfeaaDoor
open Go Go.RowKit

/-- The first k of two ranges exchanged. -/
def swpR (a b : Nat) : Nat → List Idn → List Idn
  | 0, d => d
  | k + 1, d => match (swpR a b k d)[a + k]?, (swpR a b k d)[b + k]? with
    | some x, some y => ((swpR a b k d).set (a + k) y).set (b + k) x
    | _, _ => swpR a b k d
theorem swpR_length (a b : Nat) (d : List Idn) : ∀ k, (swpR a b k d).length = d.length
  | 0 => rfl
  | k + 1 => by
    unfold swpR
    split
    · rw [List.length_set, List.length_set]; exact swpR_length a b d k
    · exact swpR_length a b d k

set_option maxRecDepth 100000 in
set_option maxHeartbeats 4000000 in
theorem swap_range (w : World) (B n cap a b k : Nat) (d : List Idn) (X : World) (hr : RW w B n d X) (ha : a + k ≤ n) (hb : b + k ≤ n) (hab : a + k ≤ b) (hn : n ≤ 1000000) (f : Value) :
    Calls Tryd.prog 46 #[.slice (some ⟨B, 0, none⟩) n cap, .int .i64 a, .int .i64 b, .int .i64 k, f] X fun e w' => (∃ v, e = .returned v) ∧ RW w B n (swpR a b k d) w' := by
  have HR := Lib.hid hr
  clear hr
  go_enter Tryd.func46, Tryd.ntmps46
  go_wp2
  go_loopw [10] (fun iv wr => ∃ i : Nat, iv = .int .i64 i ∧ i ≤ k ∧ RW w B n (swpR a b i d) wr) (fun iv _ => k - (intOf iv).toNat)
  case atStart => exact ⟨0, rfl, Nat.zero_le _, HR.out⟩
  case round =>
    obtain ⟨i, rfl, hi, h⟩ := hrel
    by_cases hlt : i < k
    · have hl := h.len
      obtain ⟨p, hp⟩ : ∃ p, a + i = p := ⟨_, rfl⟩
      obtain ⟨q, hq⟩ : ∃ q, b + i = q := ⟨_, rfl⟩
      obtain ⟨x, hx⟩ : ∃ x, (swpR a b i d)[p]? = some x := ⟨_, List.getElem?_eq_getElem (by omega)⟩
      obtain ⟨y, hy⟩ : ∃ y, (swpR a b i d)[q]? = some y := ⟨_, List.getElem?_eq_getElem (by omega)⟩
      obtain ⟨c0, c1, c2⟩ := (h.el _ _ hx).cells
      obtain ⟨d0, d1, d2⟩ := (h.el _ _ hy).cells
      obtain ⟨f0, f1, f2⟩ := (h.th p (by omega)).frozen
      obtain ⟨g0, g1, g2⟩ := (h.th q (by omega)).frozen
      have HH := Lib.hid h
      have HX := Lib.hid (And.intro hx hy)
      have w1 : IntKind.i64.wrap ((a : Int) + (i : Int)) = (p : Int) := by rw [IntKind.wrap_i64]; omega
      have w2 : IntKind.i64.wrap ((b : Int) + (i : Int)) = (q : Int) := by rw [IntKind.wrap_i64]; omega
      have p0 : (0 : Int) ≤ (p : Int) := by omega
      have p1 : (p : Int) < (n : Int) := by omega
      have q0 : (0 : Int) ≤ (q : Int) := by omega
      have q1 : (q : Int) < (n : Int) := by omega
      have HP := Lib.hid (And.intro hp hq)
      have n1 : ¬ p * 3 = q * 3 + 1 := by omega
      have n2 : ¬ p * 3 = q * 3 + 2 := by omega
      have n3 : ¬ p * 3 + 1 = q * 3 := by omega
      have n4 : ¬ p * 3 + 1 = q * 3 + 2 := by omega
      have n5 : ¬ p * 3 + 2 = q * 3 := by omega
      have n6 : ¬ p * 3 + 2 = q * 3 + 1 := by omega
      have n7 : ¬ p = q := by omega
      clear h hx hy hp hq
      go_wp2_with fail
      go_region
      obtain ⟨W4, hW4⟩ : ∃ W4, ((((((wr.setCell ⟨B, p * 3, none⟩ (.int .u8 y.kind)).setCell ⟨B, p * 3 + 1, none⟩ (.int .i64 y.seq)).setCell ⟨B, p * 3 + 2, none⟩ (.int .i64 y.fmt)).setCell ⟨B, q * 3, none⟩ (.int .u8 x.kind)).setCell ⟨B, q * 3 + 1, none⟩ (.int .i64 x.seq)).setCell ⟨B, q * 3 + 2, none⟩ (.int .i64 x.fmt)).drew = W4 := ⟨_, rfl⟩
      have h4 : RW w B n (swpR a b (i + 1) d) W4 := by
        rw [← hW4]
        obtain ⟨hx, hy⟩ := HX.out
        have e : swpR a b (i + 1) d = ((swpR a b i d).set p y).set q x := by
          show (match (swpR a b i d)[a + i]?, (swpR a b i d)[b + i]? with
            | some x, some y => ((swpR a b i d).set (a + i) y).set (b + i) x
            | _, _ => swpR a b i d) = _
          rw [HP.out.1, HP.out.2, hx, hy]
        rw [e]
        exact RW.drew (RW.put (RW.put HH.out (by omega) y) (by omega) x)
      have H4 := Lib.hid h4
      rw [hW4]
      clear h4 hW4 c0 c1 c2 d0 d1 d2 f0 f1 f2 g0 g1 g2
      go_wp2
      exact ⟨⟨i + 1, by go_num, by omega, H4.out⟩, by simp [intOf]; omega⟩
    · have : i = k := by omega
      subst this
      go_wp2
      exact bodyPost_end (results_none rfl _ _ _) rfl ⟨⟨_, rfl⟩, h⟩
end Go.Proofs.YtkhkjcoejkgfeaaDoor
