/-
  The law of names told back, walked.
  Conditions: none beyond those typed at each theorem.
-/
import Derived.Test.YtkhkjcoejkgfeaaDoorNq
namespace Go.Proofs.YtkhkjcoejkgfeaaDoor
open Go Go.RowKit

theorem name_is {x : Idn} {l : List UInt8} (h : nameOf x = some l) (X : World) (hT : Tab X) : Calls Tryd.prog 8 #[.agg #[.int .u8 x.kind, .int .i64 x.seq, .int .i64 x.fmt]] X fun e w' => e = .returned (.tuple #[strV l, .int .i64 0]) ∧ Gr X w' := by
  have := name_any x hT
  unfold nameV at this
  rw [h] at this
  exact this
theorem name_isnt {x : Idn} (h : nameOf x = none) (X : World) (hT : Tab X) : Calls Tryd.prog 8 #[.agg #[.int .u8 x.kind, .int .i64 x.seq, .int .i64 x.fmt]] X fun e w' => e = .returned (.tuple #[strV [], .int .i64 2]) ∧ Gr X w' := by
  have := name_any x hT
  unfold nameV at this
  rw [h] at this
  exact this
theorem par_is {z : Idn} {l : List UInt8} (hl : (l.length : Int) ≤ 9223372036854775807) (h : parO l = some z) (X : World) : Calls Tryd.prog 9 #[strV l] X fun e w' => e = .returned (.tuple #[.agg #[.int .u8 z.kind, .int .i64 z.seq, .int .i64 z.fmt], .bool true]) ∧ Gr X w' := by
  have := parse_any l hl X
  rw [h] at this
  exact this
theorem par_isnt {l : List UInt8} (hl : (l.length : Int) ≤ 9223372036854775807) (h : parO l = none) (X : World) : Calls Tryd.prog 9 #[strV l] X fun e w' => e = .returned (.tuple #[.agg #[.int .u8 0, .int .i64 0, .int .i64 0], .bool false]) ∧ Gr X w' := by
  have := parse_any l hl X
  rw [h] at this
  exact this

set_option maxRecDepth 100000 in
set_option maxHeartbeats 4000000 in
theorem back_long (x y : Idn) (l : List UInt8) (hl : 60 < (l.length : Int)) {w : World} (hT : Tab w) : Calls Tryd.prog 3 #[idV x, idV y, strV l] w fun e w' => e = .returned (.bool true) ∧ Gr w w' := by
  have g1 : Gr w ((w.alloc (.cells #[.int .u8 x.kind, .int .i64 x.seq, .int .i64 x.fmt] 23)).alloc (.cells #[.int .u8 y.kind, .int .i64 y.seq, .int .i64 y.fmt] 23)) := ((Gr.refl w).alloc _).alloc _
  have HW := Lib.hid (wakes_any (hT.gr g1))
  have HG := Lib.hid g1
  clear g1 hT
  go_enter Tryd.func3, Tryd.ntmps3
  go_wp2_with fail
  refine HW.out.mono ?_
  rintro e w1 ⟨rfl, hg⟩
  go_wp2
  go_ret
  exact ⟨rfl, HG.out.trans hg⟩

set_option maxRecDepth 100000 in
set_option maxHeartbeats 4000000 in
theorem back_none (k s f k' s' f' : Int) (l : List UInt8) (hl : (l.length : Int) ≤ 60) {w : World} (hT : Tab w) (hx : nameOf ⟨k, s, f⟩ = none) (b : List UInt8) (eb : Int) (hy : ∀ X, Tab X → Calls Tryd.prog 8 #[.agg #[.int .u8 k', .int .i64 s', .int .i64 f']] X fun e w' => e = .returned (.tuple #[strV b, .int .i64 eb]) ∧ Gr X w') :
    Calls Tryd.prog 3 #[.agg #[.int .u8 k, .int .i64 s, .int .i64 f], .agg #[.int .u8 k', .int .i64 s', .int .i64 f'], strV l] w fun e w' => e = .returned (.bool true) ∧ Gr w w' := by
  obtain ⟨W1, hW1⟩ : ∃ W1, (w.alloc (.cells #[.int .u8 k, .int .i64 s, .int .i64 f] 23)).alloc (.cells #[.int .u8 k', .int .i64 s', .int .i64 f'] 23) = W1 := ⟨_, rfl⟩
  have g1 : Gr w W1 := by rw [← hW1]; exact ((Gr.refl w).alloc _).alloc _
  have hA : W1.heap[w.heap.size]? = some (.cells #[.int .u8 k, .int .i64 s, .int .i64 f] 23 (0, 0)) := by rw [← hW1]; exact alloc2_heap0 _ _ _
  have hB : W1.heap[w.heap.size + 1]? = some (.cells #[.int .u8 k', .int .i64 s', .int .i64 f'] 23 (0, 0)) := by rw [← hW1]; exact alloc2_heap1 _ _ _
  have c0 := cell_block hA (j := 0) (v := .int .u8 k) rfl
  have c1 := cell_block hA (j := 1) (v := .int .i64 s) rfl
  have c2 := cell_block hA (j := 2) (v := .int .i64 f) rfl
  have d0 := cell_block hB (j := 0) (v := .int .u8 k') rfl
  have d1 := cell_block hB (j := 1) (v := .int .i64 s') rfl
  have d2 := cell_block hB (j := 2) (v := .int .i64 f') rfl
  have HC := Lib.hid (show ∀ X, Gr W1 X → X.cell? ⟨w.heap.size, 0, none⟩ = some (.int .u8 k) ∧ X.cell? ⟨w.heap.size, 1, none⟩ = some (.int .i64 s) ∧ X.cell? ⟨w.heap.size, 2, none⟩ = some (.int .i64 f) ∧ X.cell? ⟨w.heap.size + 1, 0, none⟩ = some (.int .u8 k') ∧ X.cell? ⟨w.heap.size + 1, 1, none⟩ = some (.int .i64 s') ∧ X.cell? ⟨w.heap.size + 1, 2, none⟩ = some (.int .i64 f') from
    fun X hg => ⟨later_cell hg c0, later_cell hg c1, later_cell hg c2, later_cell hg d0, later_cell hg d1, later_cell hg d2⟩)
  have hsz : W1.heap.size = w.heap.size + 2 := by rw [← hW1]; simp
  have HT := Lib.hid (hT.gr g1)
  have HW1 := Lib.hid hW1
  have HG1 := Lib.hid g1
  have hl' : (l.length : Int) ≤ 9223372036854775807 := by omega
  have hz : (∃ z, parO l = some z ∧ nameOf z = some l) ∨ parO l = none := by
    cases h : parO l with
    | none => exact .inr rfl
    | some z => exact .inl ⟨z, rfl, parO_name h⟩
  clear hA hB hW1 g1 hT c0 c1 c2 d0 d1 d2
  have N1 := Lib.hid (name_isnt hx)
  have hm := fun X => may_any ⟨k, s, f⟩ X
  rw [hx] at hm
  have HM := Lib.hid (show ∀ X, Calls Tryd.prog 10 #[.agg #[.int .u8 k, .int .i64 s, .int .i64 f]] X fun e w' => e = .returned (.bool false) ∧ Gr X w' from hm)
  have N2 := Lib.hid hy
  clear hx hy hm
  go_enter Tryd.func3, Tryd.ntmps3
  go_wp2_with fail
  rw [HW1.out]
  refine (N1.out _ HT.out).mono ?_
  rintro e w1 ⟨rfl, g1⟩
  obtain ⟨c0, c1, c2, d0, d1, d2⟩ := HC.out _ g1
  have HT1 := Lib.hid (HT.out.gr g1)
  have HG2 := Lib.hid g1
  clear g1
  go_wp2_with fail
  refine (N2.out _ HT1.out).mono ?_
  rintro e w2 ⟨rfl, g2⟩
  clear c0 c1 c2 d0 d1 d2
  have HT2 := Lib.hid (HT1.out.gr g2)
  have HG3 := Lib.hid (HG2.out.trans g2)
  obtain ⟨c0, c1, c2, d0, d1, d2⟩ := HC.out _ (HG2.out.trans g2)
  clear g2
  go_wp2_with fail
  refine (HM.out _).mono ?_
  rintro e w3 ⟨rfl, g3⟩
  have HT3 := Lib.hid (HT2.out.gr g3)
  have HG4 := Lib.hid (HG1.out.trans (HG3.out.trans g3))
  clear g3 c0 c1 c2 d0 d1 d2
  go_wp2_with fail
  rcases hz with ⟨z, hz1, hz2⟩ | hz1
  · have PZ := Lib.hid (par_is hl' hz1)
    have NZ := Lib.hid (name_is hz2)
    clear hz1 hz2
    refine (PZ.out _).mono ?_
    rintro e wa ⟨rfl, ga⟩
    have GA := Lib.hid (HG4.out.trans ga)
    have gb : Gr wa (wa.alloc (.cells #[.int .u8 z.kind, .int .i64 z.seq, .int .i64 z.fmt] 23)) := Gr.alloc (Gr.refl _) _
    have TB := Lib.hid ((HT3.out.gr ga).gr gb)
    have GB := Lib.hid (GA.out.trans gb)
    clear ga gb
    go_wp2_with fail
    refine (NZ.out _ TB.out).mono ?_
    rintro e wb ⟨rfl, gb⟩
    have GC := Lib.hid (GB.out.trans gb)
    have WK := Lib.hid (wakes_any (TB.out.gr gb))
    clear gb
    go_wp2_with fail
    refine WK.out.mono ?_
    rintro e wc ⟨rfl, gc⟩
    have GD := Lib.hid (GC.out.trans gc)
    clear gc
    go_wp2
    go_ret
    exact ⟨rfl, GD.out⟩
  · have PZ := Lib.hid (par_isnt hl' hz1)
    clear hz1
    refine (PZ.out _).mono ?_
    rintro e wa ⟨rfl, ga⟩
    have GA := Lib.hid (HG4.out.trans ga)
    have gb : Gr wa (wa.alloc (.cells #[.int .u8 0, .int .i64 0, .int .i64 0] 23)) := Gr.alloc (Gr.refl _) _
    have hz := alloc1_heap wa (.cells #[.int .u8 0, .int .i64 0, .int .i64 0] 23)
    have TB := Lib.hid ((HT3.out.gr ga).gr gb)
    have GB := Lib.hid (GA.out.trans gb)
    clear ga gb
    go_wp2_with fail
    refine (name_isnt (x := ⟨0, 0, 0⟩) rfl _ TB.out).mono ?_
    rintro e wb ⟨rfl, gb⟩
    have GC := Lib.hid (GB.out.trans gb)
    have WK := Lib.hid (wakes_any (TB.out.gr gb))
    have z0 := cell_block (gb.same hz) (j := 0) (v := .int .u8 0) rfl
    have z1 := cell_block (gb.same hz) (j := 1) (v := .int .i64 0) rfl
    have z2 := cell_block (gb.same hz) (j := 2) (v := .int .i64 0) rfl
    clear gb hz
    go_wp2_with fail
    refine WK.out.mono ?_
    rintro e wc ⟨rfl, gc⟩
    have GD := Lib.hid (GC.out.trans gc)
    clear gc
    go_wp2
    go_ret
    exact ⟨rfl, GD.out⟩
set_option maxRecDepth 100000 in
set_option maxHeartbeats 4000000 in
theorem back_half (k s f k' s' f' : Int) (l : List UInt8) (hl : (l.length : Int) ≤ 60) {w : World} (hT : Tab w) (a : List UInt8) (hx : nameOf ⟨k, s, f⟩ = some a) (hy : nameOf ⟨k', s', f'⟩ = none) :
    Calls Tryd.prog 3 #[.agg #[.int .u8 k, .int .i64 s, .int .i64 f], .agg #[.int .u8 k', .int .i64 s', .int .i64 f'], strV l] w fun e w' => e = .returned (.bool true) ∧ Gr w w' := by
  obtain ⟨W1, hW1⟩ : ∃ W1, (w.alloc (.cells #[.int .u8 k, .int .i64 s, .int .i64 f] 23)).alloc (.cells #[.int .u8 k', .int .i64 s', .int .i64 f'] 23) = W1 := ⟨_, rfl⟩
  have g1 : Gr w W1 := by rw [← hW1]; exact ((Gr.refl w).alloc _).alloc _
  have hA : W1.heap[w.heap.size]? = some (.cells #[.int .u8 k, .int .i64 s, .int .i64 f] 23 (0, 0)) := by rw [← hW1]; exact alloc2_heap0 _ _ _
  have hB : W1.heap[w.heap.size + 1]? = some (.cells #[.int .u8 k', .int .i64 s', .int .i64 f'] 23 (0, 0)) := by rw [← hW1]; exact alloc2_heap1 _ _ _
  have c0 := cell_block hA (j := 0) (v := .int .u8 k) rfl
  have c1 := cell_block hA (j := 1) (v := .int .i64 s) rfl
  have c2 := cell_block hA (j := 2) (v := .int .i64 f) rfl
  have d0 := cell_block hB (j := 0) (v := .int .u8 k') rfl
  have d1 := cell_block hB (j := 1) (v := .int .i64 s') rfl
  have d2 := cell_block hB (j := 2) (v := .int .i64 f') rfl
  have HC := Lib.hid (show ∀ X, Gr W1 X → X.cell? ⟨w.heap.size, 0, none⟩ = some (.int .u8 k) ∧ X.cell? ⟨w.heap.size, 1, none⟩ = some (.int .i64 s) ∧ X.cell? ⟨w.heap.size, 2, none⟩ = some (.int .i64 f) ∧ X.cell? ⟨w.heap.size + 1, 0, none⟩ = some (.int .u8 k') ∧ X.cell? ⟨w.heap.size + 1, 1, none⟩ = some (.int .i64 s') ∧ X.cell? ⟨w.heap.size + 1, 2, none⟩ = some (.int .i64 f') from
    fun X hg => ⟨later_cell hg c0, later_cell hg c1, later_cell hg c2, later_cell hg d0, later_cell hg d1, later_cell hg d2⟩)
  have hsz : W1.heap.size = w.heap.size + 2 := by rw [← hW1]; simp
  have HT := Lib.hid (hT.gr g1)
  have HW1 := Lib.hid hW1
  have HG1 := Lib.hid g1
  have hl' : (l.length : Int) ≤ 9223372036854775807 := by omega
  have hz : (∃ z, parO l = some z ∧ nameOf z = some l) ∨ parO l = none := by
    cases h : parO l with
    | none => exact .inr rfl
    | some z => exact .inl ⟨z, rfl, parO_name h⟩
  clear hA hB hW1 g1 hT c0 c1 c2 d0 d1 d2
  have N1 := Lib.hid (name_is hx)
  have P1 := Lib.hid (par_is (by have := (nameOf_le hx).1; omega) (parO_some hx))
  have N2 := Lib.hid (name_isnt hy)
  clear hx hy
  go_enter Tryd.func3, Tryd.ntmps3
  go_wp2_with fail
  rw [HW1.out]
  refine (N1.out _ HT.out).mono ?_
  rintro e w1 ⟨rfl, g1⟩
  obtain ⟨c0, c1, c2, d0, d1, d2⟩ := HC.out _ g1
  have HT1 := Lib.hid (HT.out.gr g1)
  have HG2 := Lib.hid g1
  clear g1
  go_wp2_with fail
  refine (N2.out _ HT1.out).mono ?_
  rintro e w2 ⟨rfl, g2⟩
  clear c0 c1 c2 d0 d1 d2
  have HT2 := Lib.hid (HT1.out.gr g2)
  have HG3 := Lib.hid (HG2.out.trans g2)
  obtain ⟨c0, c1, c2, d0, d1, d2⟩ := HC.out _ (HG2.out.trans g2)
  clear g2
  go_wp2_with fail
  refine (P1.out _).mono ?_
  rintro e w3 ⟨rfl, g3⟩
  clear c0 c1 c2 d0 d1 d2
  have g4 : Gr w3 (w3.alloc (.cells #[.int .u8 k, .int .i64 s, .int .i64 f] 23)) := Gr.alloc (Gr.refl _) _
  have HT3 := Lib.hid ((HT2.out.gr g3).gr g4)
  have HG4 := Lib.hid ((HG1.out.trans (HG3.out.trans g3)).trans g4)
  obtain ⟨c0, c1, c2, d0, d1, d2⟩ := HC.out _ (HG3.out.trans g3)
  have s0 : w.heap.size < w3.heap.size := by have := (HG3.out.trans g3).size; omega
  have s1 : w.heap.size + 1 < w3.heap.size := by have := (HG3.out.trans g3).size; omega
  clear g3 g4
  go_wp2_with fail
  rcases hz with ⟨z, hz1, hz2⟩ | hz1
  · have PZ := Lib.hid (par_is hl' hz1)
    have NZ := Lib.hid (name_is hz2)
    clear hz1 hz2
    refine (PZ.out _).mono ?_
    rintro e wa ⟨rfl, ga⟩
    have GA := Lib.hid (HG4.out.trans ga)
    have gb : Gr wa (wa.alloc (.cells #[.int .u8 z.kind, .int .i64 z.seq, .int .i64 z.fmt] 23)) := Gr.alloc (Gr.refl _) _
    have TB := Lib.hid ((HT3.out.gr ga).gr gb)
    have GB := Lib.hid (GA.out.trans gb)
    clear ga gb
    go_wp2_with fail
    refine (NZ.out _ TB.out).mono ?_
    rintro e wb ⟨rfl, gb⟩
    have GC := Lib.hid (GB.out.trans gb)
    have WK := Lib.hid (wakes_any (TB.out.gr gb))
    clear gb
    go_wp2_with fail
    refine WK.out.mono ?_
    rintro e wc ⟨rfl, gc⟩
    have GD := Lib.hid (GC.out.trans gc)
    clear gc
    go_wp2
    go_ret
    exact ⟨rfl, GD.out⟩
  · have PZ := Lib.hid (par_isnt hl' hz1)
    clear hz1
    refine (PZ.out _).mono ?_
    rintro e wa ⟨rfl, ga⟩
    have GA := Lib.hid (HG4.out.trans ga)
    have gb : Gr wa (wa.alloc (.cells #[.int .u8 0, .int .i64 0, .int .i64 0] 23)) := Gr.alloc (Gr.refl _) _
    have hz := alloc1_heap wa (.cells #[.int .u8 0, .int .i64 0, .int .i64 0] 23)
    have TB := Lib.hid ((HT3.out.gr ga).gr gb)
    have GB := Lib.hid (GA.out.trans gb)
    clear ga gb
    go_wp2_with fail
    refine (name_isnt (x := ⟨0, 0, 0⟩) rfl _ TB.out).mono ?_
    rintro e wb ⟨rfl, gb⟩
    have GC := Lib.hid (GB.out.trans gb)
    have WK := Lib.hid (wakes_any (TB.out.gr gb))
    have z0 := cell_block (gb.same hz) (j := 0) (v := .int .u8 0) rfl
    have z1 := cell_block (gb.same hz) (j := 1) (v := .int .i64 0) rfl
    have z2 := cell_block (gb.same hz) (j := 2) (v := .int .i64 0) rfl
    clear gb hz
    go_wp2_with fail
    refine WK.out.mono ?_
    rintro e wc ⟨rfl, gc⟩
    have GD := Lib.hid (GC.out.trans gc)
    clear gc
    go_wp2
    go_ret
    exact ⟨rfl, GD.out⟩
set_option maxRecDepth 100000 in
set_option maxHeartbeats 4000000 in
theorem back_same (k s f : Int) (l : List UInt8) (hl : (l.length : Int) ≤ 60) {w : World} (hT : Tab w) (a : List UInt8) (hx : nameOf ⟨k, s, f⟩ = some a) :
    Calls Tryd.prog 3 #[.agg #[.int .u8 k, .int .i64 s, .int .i64 f], .agg #[.int .u8 k, .int .i64 s, .int .i64 f], strV l] w fun e w' => e = .returned (.bool true) ∧ Gr w w' := by
  obtain ⟨W1, hW1⟩ : ∃ W1, (w.alloc (.cells #[.int .u8 k, .int .i64 s, .int .i64 f] 23)).alloc (.cells #[.int .u8 k, .int .i64 s, .int .i64 f] 23) = W1 := ⟨_, rfl⟩
  have g1 : Gr w W1 := by rw [← hW1]; exact ((Gr.refl w).alloc _).alloc _
  have hA : W1.heap[w.heap.size]? = some (.cells #[.int .u8 k, .int .i64 s, .int .i64 f] 23 (0, 0)) := by rw [← hW1]; exact alloc2_heap0 _ _ _
  have hB : W1.heap[w.heap.size + 1]? = some (.cells #[.int .u8 k, .int .i64 s, .int .i64 f] 23 (0, 0)) := by rw [← hW1]; exact alloc2_heap1 _ _ _
  have c0 := cell_block hA (j := 0) (v := .int .u8 k) rfl
  have c1 := cell_block hA (j := 1) (v := .int .i64 s) rfl
  have c2 := cell_block hA (j := 2) (v := .int .i64 f) rfl
  have d0 := cell_block hB (j := 0) (v := .int .u8 k) rfl
  have d1 := cell_block hB (j := 1) (v := .int .i64 s) rfl
  have d2 := cell_block hB (j := 2) (v := .int .i64 f) rfl
  have HC := Lib.hid (show ∀ X, Gr W1 X → X.cell? ⟨w.heap.size, 0, none⟩ = some (.int .u8 k) ∧ X.cell? ⟨w.heap.size, 1, none⟩ = some (.int .i64 s) ∧ X.cell? ⟨w.heap.size, 2, none⟩ = some (.int .i64 f) ∧ X.cell? ⟨w.heap.size + 1, 0, none⟩ = some (.int .u8 k) ∧ X.cell? ⟨w.heap.size + 1, 1, none⟩ = some (.int .i64 s) ∧ X.cell? ⟨w.heap.size + 1, 2, none⟩ = some (.int .i64 f) from
    fun X hg => ⟨later_cell hg c0, later_cell hg c1, later_cell hg c2, later_cell hg d0, later_cell hg d1, later_cell hg d2⟩)
  have hsz : W1.heap.size = w.heap.size + 2 := by rw [← hW1]; simp
  have HT := Lib.hid (hT.gr g1)
  have HW1 := Lib.hid hW1
  have HG1 := Lib.hid g1
  have hl' : (l.length : Int) ≤ 9223372036854775807 := by omega
  have hz : (∃ z, parO l = some z ∧ nameOf z = some l) ∨ parO l = none := by
    cases h : parO l with
    | none => exact .inr rfl
    | some z => exact .inl ⟨z, rfl, parO_name h⟩
  clear hA hB hW1 g1 hT c0 c1 c2 d0 d1 d2
  have N1 := Lib.hid (name_is hx)
  have P1 := Lib.hid (par_is (by have := (nameOf_le hx).1; omega) (parO_some hx))
  have N2 := Lib.hid (name_is hx)
  clear hx
  go_enter Tryd.func3, Tryd.ntmps3
  go_wp2_with fail
  rw [HW1.out]
  refine (N1.out _ HT.out).mono ?_
  rintro e w1 ⟨rfl, g1⟩
  obtain ⟨c0, c1, c2, d0, d1, d2⟩ := HC.out _ g1
  have HT1 := Lib.hid (HT.out.gr g1)
  have HG2 := Lib.hid g1
  clear g1
  go_wp2_with fail
  refine (N2.out _ HT1.out).mono ?_
  rintro e w2 ⟨rfl, g2⟩
  clear c0 c1 c2 d0 d1 d2
  have HT2 := Lib.hid (HT1.out.gr g2)
  have HG3 := Lib.hid (HG2.out.trans g2)
  obtain ⟨c0, c1, c2, d0, d1, d2⟩ := HC.out _ (HG2.out.trans g2)
  clear g2
  go_wp2_with fail
  refine (P1.out _).mono ?_
  rintro e w3 ⟨rfl, g3⟩
  clear c0 c1 c2 d0 d1 d2
  have g4 : Gr w3 (w3.alloc (.cells #[.int .u8 k, .int .i64 s, .int .i64 f] 23)) := Gr.alloc (Gr.refl _) _
  have HT3 := Lib.hid ((HT2.out.gr g3).gr g4)
  have HG4 := Lib.hid ((HG1.out.trans (HG3.out.trans g3)).trans g4)
  obtain ⟨c0, c1, c2, d0, d1, d2⟩ := HC.out _ (HG3.out.trans g3)
  have s0 : w.heap.size < w3.heap.size := by have := (HG3.out.trans g3).size; omega
  have s1 : w.heap.size + 1 < w3.heap.size := by have := (HG3.out.trans g3).size; omega
  clear g3 g4
  go_wp2_with fail
  rcases hz with ⟨z, hz1, hz2⟩ | hz1
  · have PZ := Lib.hid (par_is hl' hz1)
    have NZ := Lib.hid (name_is hz2)
    clear hz1 hz2
    refine (PZ.out _).mono ?_
    rintro e wa ⟨rfl, ga⟩
    have GA := Lib.hid (HG4.out.trans ga)
    have gb : Gr wa (wa.alloc (.cells #[.int .u8 z.kind, .int .i64 z.seq, .int .i64 z.fmt] 23)) := Gr.alloc (Gr.refl _) _
    have TB := Lib.hid ((HT3.out.gr ga).gr gb)
    have GB := Lib.hid (GA.out.trans gb)
    clear ga gb
    go_wp2_with fail
    refine (NZ.out _ TB.out).mono ?_
    rintro e wb ⟨rfl, gb⟩
    have GC := Lib.hid (GB.out.trans gb)
    have WK := Lib.hid (wakes_any (TB.out.gr gb))
    clear gb
    go_wp2_with fail
    refine WK.out.mono ?_
    rintro e wc ⟨rfl, gc⟩
    have GD := Lib.hid (GC.out.trans gc)
    clear gc
    go_wp2
    go_ret
    exact ⟨rfl, GD.out⟩
  · have PZ := Lib.hid (par_isnt hl' hz1)
    clear hz1
    refine (PZ.out _).mono ?_
    rintro e wa ⟨rfl, ga⟩
    have GA := Lib.hid (HG4.out.trans ga)
    have gb : Gr wa (wa.alloc (.cells #[.int .u8 0, .int .i64 0, .int .i64 0] 23)) := Gr.alloc (Gr.refl _) _
    have hz := alloc1_heap wa (.cells #[.int .u8 0, .int .i64 0, .int .i64 0] 23)
    have TB := Lib.hid ((HT3.out.gr ga).gr gb)
    have GB := Lib.hid (GA.out.trans gb)
    clear ga gb
    go_wp2_with fail
    refine (name_isnt (x := ⟨0, 0, 0⟩) rfl _ TB.out).mono ?_
    rintro e wb ⟨rfl, gb⟩
    have GC := Lib.hid (GB.out.trans gb)
    have WK := Lib.hid (wakes_any (TB.out.gr gb))
    have z0 := cell_block (gb.same hz) (j := 0) (v := .int .u8 0) rfl
    have z1 := cell_block (gb.same hz) (j := 1) (v := .int .i64 0) rfl
    have z2 := cell_block (gb.same hz) (j := 2) (v := .int .i64 0) rfl
    clear gb hz
    go_wp2_with fail
    refine WK.out.mono ?_
    rintro e wc ⟨rfl, gc⟩
    have GD := Lib.hid (GC.out.trans gc)
    clear gc
    go_wp2
    go_ret
    exact ⟨rfl, GD.out⟩
set_option maxRecDepth 100000 in
set_option maxHeartbeats 4000000 in
theorem back_apart (k s f k' s' f' : Int) (l : List UInt8) (hl : (l.length : Int) ≤ 60) {w : World} (hT : Tab w) (a b : List UInt8) (hx : nameOf ⟨k, s, f⟩ = some a) (hy : nameOf ⟨k', s', f'⟩ = some b) (hab : ¬ a = b) (hxy : ¬ k = k' ∨ (k = k' ∧ ¬ s = s') ∨ (k = k' ∧ s = s' ∧ ¬ f = f')) :
    Calls Tryd.prog 3 #[.agg #[.int .u8 k, .int .i64 s, .int .i64 f], .agg #[.int .u8 k', .int .i64 s', .int .i64 f'], strV l] w fun e w' => e = .returned (.bool true) ∧ Gr w w' := by
  obtain ⟨W1, hW1⟩ : ∃ W1, (w.alloc (.cells #[.int .u8 k, .int .i64 s, .int .i64 f] 23)).alloc (.cells #[.int .u8 k', .int .i64 s', .int .i64 f'] 23) = W1 := ⟨_, rfl⟩
  have g1 : Gr w W1 := by rw [← hW1]; exact ((Gr.refl w).alloc _).alloc _
  have hA : W1.heap[w.heap.size]? = some (.cells #[.int .u8 k, .int .i64 s, .int .i64 f] 23 (0, 0)) := by rw [← hW1]; exact alloc2_heap0 _ _ _
  have hB : W1.heap[w.heap.size + 1]? = some (.cells #[.int .u8 k', .int .i64 s', .int .i64 f'] 23 (0, 0)) := by rw [← hW1]; exact alloc2_heap1 _ _ _
  have c0 := cell_block hA (j := 0) (v := .int .u8 k) rfl
  have c1 := cell_block hA (j := 1) (v := .int .i64 s) rfl
  have c2 := cell_block hA (j := 2) (v := .int .i64 f) rfl
  have d0 := cell_block hB (j := 0) (v := .int .u8 k') rfl
  have d1 := cell_block hB (j := 1) (v := .int .i64 s') rfl
  have d2 := cell_block hB (j := 2) (v := .int .i64 f') rfl
  have HC := Lib.hid (show ∀ X, Gr W1 X → X.cell? ⟨w.heap.size, 0, none⟩ = some (.int .u8 k) ∧ X.cell? ⟨w.heap.size, 1, none⟩ = some (.int .i64 s) ∧ X.cell? ⟨w.heap.size, 2, none⟩ = some (.int .i64 f) ∧ X.cell? ⟨w.heap.size + 1, 0, none⟩ = some (.int .u8 k') ∧ X.cell? ⟨w.heap.size + 1, 1, none⟩ = some (.int .i64 s') ∧ X.cell? ⟨w.heap.size + 1, 2, none⟩ = some (.int .i64 f') from
    fun X hg => ⟨later_cell hg c0, later_cell hg c1, later_cell hg c2, later_cell hg d0, later_cell hg d1, later_cell hg d2⟩)
  have hsz : W1.heap.size = w.heap.size + 2 := by rw [← hW1]; simp
  have HT := Lib.hid (hT.gr g1)
  have HW1 := Lib.hid hW1
  have HG1 := Lib.hid g1
  have hl' : (l.length : Int) ≤ 9223372036854775807 := by omega
  have hz : (∃ z, parO l = some z ∧ nameOf z = some l) ∨ parO l = none := by
    cases h : parO l with
    | none => exact .inr rfl
    | some z => exact .inl ⟨z, rfl, parO_name h⟩
  clear hA hB hW1 g1 hT c0 c1 c2 d0 d1 d2
  have N1 := Lib.hid (name_is hx)
  have P1 := Lib.hid (par_is (by have := (nameOf_le hx).1; omega) (parO_some hx))
  have N2 := Lib.hid (name_is hy)
  have hab' : (a == b) = false := by simpa using hab
  clear hx hy hab
  rcases hxy with e1 | ⟨rfl, e1⟩ | ⟨rfl, rfl, e1⟩
  all_goals
    go_enter Tryd.func3, Tryd.ntmps3
    go_wp2_with fail
    rw [HW1.out]
    refine (N1.out _ HT.out).mono ?_
    rintro e w1 ⟨rfl, g1⟩
    obtain ⟨c0, c1, c2, d0, d1, d2⟩ := HC.out _ g1
    have HT1 := Lib.hid (HT.out.gr g1)
    have HG2 := Lib.hid g1
    clear g1
    go_wp2_with fail
    refine (N2.out _ HT1.out).mono ?_
    rintro e w2 ⟨rfl, g2⟩
    clear c0 c1 c2 d0 d1 d2
    have HT2 := Lib.hid (HT1.out.gr g2)
    have HG3 := Lib.hid (HG2.out.trans g2)
    obtain ⟨c0, c1, c2, d0, d1, d2⟩ := HC.out _ (HG2.out.trans g2)
    clear g2
    go_wp2_with fail
    refine (P1.out _).mono ?_
    rintro e w3 ⟨rfl, g3⟩
    clear c0 c1 c2 d0 d1 d2
    have g4 : Gr w3 (w3.alloc (.cells #[.int .u8 k, .int .i64 s, .int .i64 f] 23)) := Gr.alloc (Gr.refl _) _
    have HT3 := Lib.hid ((HT2.out.gr g3).gr g4)
    have HG4 := Lib.hid ((HG1.out.trans (HG3.out.trans g3)).trans g4)
    obtain ⟨c0, c1, c2, d0, d1, d2⟩ := HC.out _ (HG3.out.trans g3)
    have s0 : w.heap.size < w3.heap.size := by have := (HG3.out.trans g3).size; omega
    have s1 : w.heap.size + 1 < w3.heap.size := by have := (HG3.out.trans g3).size; omega
    clear g3 g4
    go_wp2_with fail
    rcases hz with ⟨z, hz1, hz2⟩ | hz1
    · have PZ := Lib.hid (par_is hl' hz1)
      have NZ := Lib.hid (name_is hz2)
      clear hz1 hz2
      refine (PZ.out _).mono ?_
      rintro e wa ⟨rfl, ga⟩
      have GA := Lib.hid (HG4.out.trans ga)
      have gb : Gr wa (wa.alloc (.cells #[.int .u8 z.kind, .int .i64 z.seq, .int .i64 z.fmt] 23)) := Gr.alloc (Gr.refl _) _
      have TB := Lib.hid ((HT3.out.gr ga).gr gb)
      have GB := Lib.hid (GA.out.trans gb)
      clear ga gb
      go_wp2_with fail
      refine (NZ.out _ TB.out).mono ?_
      rintro e wb ⟨rfl, gb⟩
      have GC := Lib.hid (GB.out.trans gb)
      have WK := Lib.hid (wakes_any (TB.out.gr gb))
      clear gb
      go_wp2_with fail
      refine WK.out.mono ?_
      rintro e wc ⟨rfl, gc⟩
      have GD := Lib.hid (GC.out.trans gc)
      clear gc
      go_wp2
      go_ret
      exact ⟨rfl, GD.out⟩
    · have PZ := Lib.hid (par_isnt hl' hz1)
      clear hz1
      refine (PZ.out _).mono ?_
      rintro e wa ⟨rfl, ga⟩
      have GA := Lib.hid (HG4.out.trans ga)
      have gb : Gr wa (wa.alloc (.cells #[.int .u8 0, .int .i64 0, .int .i64 0] 23)) := Gr.alloc (Gr.refl _) _
      have hz := alloc1_heap wa (.cells #[.int .u8 0, .int .i64 0, .int .i64 0] 23)
      have TB := Lib.hid ((HT3.out.gr ga).gr gb)
      have GB := Lib.hid (GA.out.trans gb)
      clear ga gb
      go_wp2_with fail
      refine (name_isnt (x := ⟨0, 0, 0⟩) rfl _ TB.out).mono ?_
      rintro e wb ⟨rfl, gb⟩
      have GC := Lib.hid (GB.out.trans gb)
      have WK := Lib.hid (wakes_any (TB.out.gr gb))
      have z0 := cell_block (gb.same hz) (j := 0) (v := .int .u8 0) rfl
      have z1 := cell_block (gb.same hz) (j := 1) (v := .int .i64 0) rfl
      have z2 := cell_block (gb.same hz) (j := 2) (v := .int .i64 0) rfl
      clear gb hz
      go_wp2_with fail
      refine WK.out.mono ?_
      rintro e wc ⟨rfl, gc⟩
      have GD := Lib.hid (GC.out.trans gc)
      clear gc
      go_wp2
      go_ret
      exact ⟨rfl, GD.out⟩

theorem back_any (x y : Idn) (l : List UInt8) {w : World} (hT : Tab w) : Calls Tryd.prog 3 #[idV x, idV y, strV l] w fun e w' => e = .returned (.bool true) ∧ Gr w w' := by
  by_cases hl : (l.length : Int) ≤ 60
  · obtain ⟨k, s, f⟩ := x
    obtain ⟨k', s', f'⟩ := y
    cases hx : nameOf ⟨k, s, f⟩ with
    | none =>
      cases hy : nameOf ⟨k', s', f'⟩ with
      | none => exact back_none k s f k' s' f' l hl hT hx [] 2 (name_isnt (x := ⟨k', s', f'⟩) hy)
      | some b => exact back_none k s f k' s' f' l hl hT hx b 0 (name_is (x := ⟨k', s', f'⟩) hy)
    | some a =>
      cases hy : nameOf ⟨k', s', f'⟩ with
      | none => exact back_half k s f k' s' f' l hl hT a hx hy
      | some b =>
        by_cases hab : a = b
        · subst hab
          have := nameOf_inj hx hy
          injection this with e1 e2 e3
          subst e1; subst e2; subst e3
          exact back_same k s f l hl hT a hx
        · refine back_apart k s f k' s' f' l hl hT a b hx hy hab ?_
          by_cases e1 : k = k'
          · by_cases e2 : s = s'
            · by_cases e3 : f = f'
              · exfalso
                subst e1; subst e2; subst e3
                rw [hx] at hy
                injection hy with hy
                exact hab hy
              · exact .inr (.inr ⟨e1, e2, e3⟩)
            · exact .inr (.inl ⟨e1, e2⟩)
          · exact .inl e1
  · exact back_long x y l (by omega) hT
end Go.Proofs.YtkhkjcoejkgfeaaDoor
