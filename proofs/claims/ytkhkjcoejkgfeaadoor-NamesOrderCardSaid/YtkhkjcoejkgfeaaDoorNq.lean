/-
  Walk: wakes.
  Conditions: none beyond those typed at each theorem.
-/
import Derived.Test.YtkhkjcoejkgfeaaDoorNh
import Derived.Test.YtkhkjcoejkgfeaaDoorNj
import Derived.Test.YtkhkjcoejkgfeaaDoorNl
import Derived.Test.YtkhkjcoejkgfeaaDoorNp
namespace Go.Proofs.YtkhkjcoejkgfeaaDoor
open Go Go.RowKit

theorem itoa_small {n : Nat} (h : n < 10) : Lib.itoa (n : Int) = [UInt8.ofNat (48 + n)] := by
  rw [itoa_of (by omega), Int.toNat_natCast, dec_small h]
theorem name_s72 : nameOf ⟨3, 7, 2⟩ = some [115, 55, 46, 50] := by
  rw [nameOf_many (.inl rfl) (by decide) (by decide) (by decide) (by decide)]
  show some (letter 3 :: (Lib.itoa ((7 : Nat) : Int) ++ (46 :: Lib.itoa ((2 : Nat) : Int)))) = _
  rw [itoa_small (by decide), itoa_small (by decide)]; rfl
theorem name_p121 : nameOf ⟨4, 12, 1⟩ = some [112, 49, 50, 46, 49] := by
  rw [nameOf_many (.inr rfl) (by decide) (by decide) (by decide) (by decide)]
  show some (letter 4 :: (Lib.itoa ((12 : Nat) : Int) ++ (46 :: Lib.itoa ((1 : Nat) : Int)))) = _
  have e1 : Lib.itoa ((12 : Nat) : Int) = [49, 50] := by
    rw [itoa_of (by decide), Int.toNat_natCast, dec_big (by decide), dec_small (by decide)]; rfl
  have e2 : Lib.itoa ((1 : Nat) : Int) = [49] := by rw [itoa_small (by decide)]; rfl
  rw [e1, e2]; rfl
theorem par_p121 : parO [112, 49, 50, 46, 49] = some ⟨4, 12, 1⟩ := parO_some name_p121
theorem par_p071 : parO [112, 48, 55, 46, 49] = none := no_name (by decide) (by decide) (.inr (.inr rfl))
def wFiles : List (List UInt8) := [[77], [120], [115, 55, 46, 50]]
theorem rest_w : restOf wFiles [⟨1, 0, 0⟩] = [[120], [115, 55, 46, 50]] := by rfl
theorem find_w {z : Int} (h : FindIs wFiles (nameOf ⟨3, 7, 2⟩) z) : z = 2 := by
  rw [name_s72] at h
  rcases h with ⟨rfl, h⟩ | ⟨i, rfl, h1, h2⟩
  · exact absurd rfl (h 2 (by decide))
  · have hi : i < 3 := (List.getElem?_eq_some_iff.1 h1).1
    match i, hi, h1 with
    | 0, _, h1 => exact absurd h1 (by decide)
    | 1, _, h1 => exact absurd h1 (by decide)
    | 2, _, _ => rfl
theorem files_w {w : World} {b : Nat} (h : w.heap[b]? = some (.cells #[strV [77], .slice none 0 0, strV [120], .slice none 0 0, strV [115, 55, 46, 50], .slice none 0 0] 39 (0, 0))) (hb : b < w.heap.size) :
    IsFiles (· < w.heap.size) w (.slice (some ⟨b, 0, none⟩) 3 3) wFiles := by
  refine ⟨[[strV [77], .slice none 0 0], [strV [120], .slice none 0 0], [strV [115, 55, 46, 50], .slice none 0 0]], rfl, ⟨?_, .inr ⟨b, 0, 3, rfl, Nat.le_refl _, by decide, hb, ?_⟩⟩, ?_⟩
  · intro e he
    simp only [List.mem_cons, List.not_mem_nil, or_false] at he
    rcases he with rfl | rfl | rfl <;> rfl
  · exact range_row h
  · intro i n hn
    have hi : i < 3 := (List.getElem?_eq_some_iff.1 hn).1
    match i, hi, hn with
    | 0, _, hn => exact ⟨none, 0, 0, by injection hn with hn; subst hn; rfl⟩
    | 1, _, hn => exact ⟨none, 0, 0, by injection hn with hn; subst hn; rfl⟩
    | 2, _, hn => exact ⟨none, 0, 0, by injection hn with hn; subst hn; rfl⟩
theorem ids_one {w : World} {b : Nat} {x : Idn} (h : w.heap[b]? = some (.cells #[.int .u8 x.kind, .int .i64 x.seq, .int .i64 x.fmt] 23 (0, 0))) (hb : b < w.heap.size) :
    IsIds (· < w.heap.size) w (.slice (some ⟨b, 0, none⟩) 1 1) [x] := by
  refine ⟨?_, .inr ⟨b, 0, 1, rfl, Nat.le_refl _, by decide, hb, ?_⟩⟩
  · intro e he
    simp only [List.map_cons, List.map_nil, List.mem_singleton] at he
    subst he; rfl
  · exact range_row h
theorem strs_two {w : World} {b : Nat} {m n : List UInt8} (h : w.heap[b]? = some (.cells #[strV m, strV n] 9 (0, 0))) (hb : b < w.heap.size) :
    IsStrs (· < w.heap.size) w (.slice (some ⟨b, 0, none⟩) 2 2) [m, n] := by
  refine ⟨?_, .inr ⟨b, 0, 2, rfl, Nat.le_refl _, by decide, hb, ?_⟩⟩
  · intro e he
    simp only [List.map_cons, List.map_nil, List.mem_cons, List.not_mem_nil, or_false] at he
    rcases he with rfl | rfl <;> rfl
  · exact range_row h

set_option maxRecDepth 100000 in
set_option maxHeartbeats 4000000 in
theorem wakes_any {w : World} (hT : Tab w) : Calls Tryd.prog 7 #[] w fun e w' => e = .returned (.bool true) ∧ Gr w w' := by
  have n1 : ∀ X, Tab X → Calls Tryd.prog 8 #[.agg #[.int .u8 3, .int .i64 7, .int .i64 2]] X fun e w' => e = .returned (.tuple #[strV [115, 55, 46, 50], .int .i64 0]) ∧ Gr X w' := fun X h => by
    have := name_any ⟨3, 7, 2⟩ h
    unfold nameV at this
    rw [name_s72] at this
    exact this
  have n2 : ∀ X, Tab X → Calls Tryd.prog 8 #[.agg #[.int .u8 0, .int .i64 0, .int .i64 0]] X fun e w' => e = .returned (.tuple #[strV [], .int .i64 2]) ∧ Gr X w' := fun X h => name_any ⟨0, 0, 0⟩ h
  have p1 : ∀ X, Calls Tryd.prog 9 #[.string ⟨#[112, 49, 50, 46, 49]⟩] X fun e w' => e = .returned (.tuple #[.agg #[.int .u8 4, .int .i64 12, .int .i64 1], .bool true]) ∧ Gr X w' := fun X => by
    have := parse_any [112, 49, 50, 46, 49] (by decide) X
    rw [par_p121] at this
    exact this
  have p2 : ∀ X, Calls Tryd.prog 9 #[.string ⟨#[112, 48, 55, 46, 49]⟩] X fun e w' => e = .returned (.tuple #[.agg #[.int .u8 0, .int .i64 0, .int .i64 0], .bool false]) ∧ Gr X w' := fun X => by
    have := parse_any [112, 48, 55, 46, 49] (by decide) X
    rw [par_p071] at this
    exact this
  have N1 := Lib.hid n1
  have N2 := Lib.hid n2
  have P1 := Lib.hid p1
  have P2 := Lib.hid p2
  have HT := Lib.hid hT
  clear n1 n2 p1 p2 hT
  go_enter Tryd.func7, Tryd.ntmps7
  go_wp2_with fail
  refine (N1.out _ HT.out).mono ?_
  rintro e w1 ⟨rfl, g1⟩
  have HT1 := Lib.hid (HT.out.gr g1)
  have HG1 := Lib.hid g1
  clear g1 HT
  go_wp2_with fail
  refine (P1.out _).mono ?_
  rintro e w2 ⟨rfl, g2⟩
  have HT2 := Lib.hid (HT1.out.gr g2)
  have HG2 := Lib.hid (HG1.out.trans g2)
  clear g2 HT1
  go_wp2_with fail
  have ga : Gr w2 (w2.alloc (.cells #[.int .u8 4, .int .i64 12, .int .i64 1] 23)) := Gr.alloc (Gr.refl _) _
  refine (P2.out _).mono ?_
  rintro e w3 ⟨rfl, g3⟩
  have hx3 := g3.same (alloc1_heap w2 (.cells #[.int .u8 4, .int .i64 12, .int .i64 1] 23))
  have ga3 := ga.trans g3
  have gb : Gr w3 (w3.alloc (.cells #[.int .u8 0, .int .i64 0, .int .i64 0] 23)) := Gr.alloc (Gr.refl _) _
  have HT3 := Lib.hid (HT2.out.gr (ga3.trans gb))
  have HG3 := Lib.hid ((HG2.out.trans ga3).trans gb)
  have HX3 := Lib.hid (gb.same hx3)
  clear g3 ga ga3 gb hx3 HT2
  go_wp2_with fail
  refine (N2.out _ HT3.out).mono ?_
  rintro e w4 ⟨rfl, g4⟩
  have gc : Gr w4 (w4.alloc (.cells #[strV [77], .slice none 0 0, strV [120], .slice none 0 0, strV [115, 55, 46, 50], .slice none 0 0] 39)) := Gr.alloc (Gr.refl _) _
  have HT4 := Lib.hid ((HT3.out.gr g4).gr gc)
  have HG4 := Lib.hid ((HG3.out.trans g4).trans gc)
  have hx4 := gc.same (g4.same HX3.out)
  have hf4 := alloc1_heap w4 (.cells #[strV [77], .slice none 0 0, strV [120], .slice none 0 0, strV [115, 55, 46, 50], .slice none 0 0] 39)
  have q0 := cell_block hx4 (j := 0) (v := .int .u8 4) rfl
  have q1 := cell_block hx4 (j := 1) (v := .int .i64 12) rfl
  have q2 := cell_block hx4 (j := 2) (v := .int .i64 1) rfl
  have HF4 := Lib.hid (files_w hf4 (by simp))
  clear g4 gc hx4 hf4 HX3 HT3
  go_wp2_with fail
  refine (find_any _ HT4.out ⟨3, 7, 2⟩ _ _ HF4.out (by decide)).mono ?_
  rintro e w5 ⟨z, rfl, hz, g5⟩
  obtain rfl := find_w hz
  clear hz q0 q1 q2
  have gd : Gr w5 (w5.alloc (.cells #[.int .u8 1, .int .i64 0, .int .i64 0] 23)) := Gr.alloc (Gr.refl _) _
  have HT5 := Lib.hid ((HT4.out.gr g5).gr gd)
  have HG5 := Lib.hid ((HG4.out.trans g5).trans gd)
  have hF5 := (HF4.out.gr g5).gr gd
  have hs5 := (g5.trans gd).size
  have HF5 := Lib.hid (show IsFiles (· < (w5.alloc (.cells #[.int .u8 1, .int .i64 0, .int .i64 0] 23)).heap.size) (w5.alloc (.cells #[.int .u8 1, .int .i64 0, .int .i64 0] 23)) (.slice (some ⟨w4.heap.size, 0, none⟩) 3 3) wFiles from by
    obtain ⟨els, h1, h2, h3⟩ := hF5
    exact ⟨els, h1, h2.mono fun b hb => Nat.lt_of_lt_of_le hb hs5, h3⟩)
  have HI5 := Lib.hid (ids_one (x := ⟨1, 0, 0⟩) (alloc1_heap w5 (.cells #[.int .u8 1, .int .i64 0, .int .i64 0] 23)) (by simp))
  clear g5 gd hF5 hs5 HT4 HF4
  go_wp2_with fail
  refine (rest_any _ HT5.out _ wFiles HF5.out (by decide) (by decide) _ [⟨1, 0, 0⟩] HI5.out (by decide)).mono ?_
  rintro e w6 ⟨rv, rfl, ho, g6⟩
  rw [rest_w] at ho
  obtain ⟨ra, rc, rfl, _, _⟩ := ho.is.len
  have ge : Gr w6 (w6.alloc (.cells #[strV [120], strV [115, 55, 46, 50]] 9)) := Gr.alloc (Gr.refl _) _
  have HR6 := Lib.hid (ho.is.gr ge)
  have HS6 := Lib.hid (strs_two (m := [120]) (n := [115, 55, 46, 50]) (alloc1_heap w6 (.cells #[strV [120], strV [115, 55, 46, 50]] 9)) (by simp))
  have HG6 := Lib.hid ((HG5.out.trans g6).trans ge)
  clear ho g6 ge HT5 HF5 HI5
  go_wp2_with fail
  refine (strs_any _ _ _ _ _ _ _ HR6.out HS6.out (by decide) (by decide)).mono ?_
  rintro e w7 ⟨rfl, g7⟩
  have HG7 := Lib.hid (HG6.out.trans g7)
  clear g7 HR6 HS6
  go_wp2_with fail
  refine (less_any ⟨4, 1, 0⟩ ⟨0, 2, 0⟩ _).mono ?_
  rintro e w8 ⟨rfl, g8⟩
  have HG8 := Lib.hid (HG7.out.trans g8)
  clear g8
  go_wp2
  go_ret
  exact ⟨rfl, HG8.out⟩
end Go.Proofs.YtkhkjcoejkgfeaaDoor
