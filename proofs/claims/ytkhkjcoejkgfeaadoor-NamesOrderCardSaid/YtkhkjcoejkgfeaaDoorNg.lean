/-
  Walk: Parse (printed by gen_parse.py).
  Conditions: none beyond those typed at each theorem.
-/
import Derived.Test.YtkhkjcoejkgfeaaDoorNf
namespace Go.Proofs.YtkhkjcoejkgfeaaDoor
open Go Go.RowKit

/-- What Parse hands back. -/
def parV : Option Idn → Value
  | some z => .tuple #[idV z, .bool true]
  | none => .tuple #[idV ⟨0, 0, 0⟩, .bool false]
/-- The world in which Parse runs. -/
abbrev pw (w : World) : World := w.alloc (.cells #[.int .u8 0, .int .i64 0, .int .i64 0] 23)
def numOf : Value → Int | .int _ q => q | _ => 0
abbrev arr0 (w : World) (l : List UInt8) (u : Nat → Value) : Array Value := #[strV l, (u 1), .pointer (some ⟨w.heap.size, 0, none⟩), (u 3), (u 4), (u 5), (u 6), (u 7), (u 8), (u 9), (u 10), (u 11), (u 12), (u 13), (u 14), (u 15), (u 16), (u 17), (u 18), (u 19), (u 20), (u 21), (u 22), (u 23), (u 24), (u 25), (u 26), (u 27), (u 28), (u 29), (u 30), (u 31), (u 32), (u 33), (u 34), (u 35), (u 36), (u 37), (u 38), (u 39), (u 40), (u 41), (u 42), (u 43), (u 44), (u 45), (u 46), (u 47), (u 48), (u 49), (u 50), (u 51), (u 52), (u 53), (u 54), (u 55), (u 56), (u 57), (u 58), (u 59), (u 60), (u 61), (u 62), (u 63), (u 64), (u 65), (u 66), (u 67), (u 68), (u 69), (u 70), (u 71), (u 72), (u 73), (u 74), (u 75), (u 76), (u 77), (u 78), (u 79), (u 80), (u 81), (u 82), (u 83), (u 84), (u 85), (u 86), (u 87), (u 88), (u 89), (u 90), (u 91), (u 92), (u 93), (u 94), (u 95), (u 96), (u 97), (u 98), (u 99), (u 100), (u 101), (u 102), (u 103), (u 104), (u 105), (u 106), (u 107), (u 108)]
abbrev arr1 (w : World) (l : List UInt8) (i seq : Int) (u : Nat → Value) : Array Value := #[strV l, undef, .pointer (some ⟨w.heap.size, 0, none⟩), .bool false, .int .i64 i, .int .i64 seq, (u 6), (u 7), (u 8), (u 9), (u 10), (u 11), (u 12), (u 13), (u 14), (u 15), (u 16), (u 17), (u 18), (u 19), (u 20), (u 21), (u 22), (u 23), (u 24), (u 25), (u 26), (u 27), (u 28), (u 29), (u 30), (u 31), (u 32), (u 33), (u 34), (u 35), (u 36), (u 37), (u 38), (u 39), (u 40), (u 41), (u 42), (u 43), (u 44), (u 45), (u 46), (u 47), (u 48), (u 49), (u 50), (u 51), (u 52), (u 53), (u 54), (u 55), (u 56), (u 57), (u 58), (u 59), (u 60), (u 61), (u 62), (u 63), (u 64), (u 65), (u 66), (u 67), (u 68), (u 69), (u 70), (u 71), (u 72), (u 73), (u 74), (u 75), (u 76), (u 77), (u 78), (u 79), (u 80), (u 81), (u 82), (u 83), (u 84), (u 85), (u 86), (u 87), (u 88), (u 89), (u 90), (u 91), (u 92), (u 93), (u 94), (u 95), (u 96), (u 97), (u 98), (u 99), (u 100), (u 101), (u 102), (u 103), (u 104), (u 105), (u 106), (u 107), (u 108)]
/-- What holds at its labels. -/
def PJ (w : World) (l : List UInt8) : Nat → Act → World → Prop
  | 0, a, W => W = pw w ∧ parO l = none ∧ ∃ u, a = { tmps := arr0 w l u, defers := [] }
  | 1, a, W => W = pw w ∧ ∃ (i seq : Int), Rnd l i seq ∧ ∃ u, a = { tmps := arr1 w l i seq u, defers := [] }
  | _, _, _ => False
def Pm (l : List UInt8) : Nat → Act → World → Nat
  | 0, _, _ => 0
  | _, a, _ => l.length - (numOf (a.tmps.getD 4 undef)).toNat + 1
theorem PJ0_of {w : World} {l : List UInt8} {t : Array Value} (h : parO l = none) (ht : t = arr0 w l (fun k => t.getD k undef)) : PJ w l 0 { tmps := t, defers := [] } (pw w) := ⟨rfl, h, fun k => t.getD k undef, congrArg (Act.mk · []) ht⟩
theorem PJ1_of {w : World} {l : List UInt8} {t : Array Value} {i seq : Int} (h : Rnd l i seq) (ht : t = arr1 w l i seq (fun k => t.getD k undef)) : PJ w l 1 { tmps := t, defers := [] } (pw w) := ⟨rfl, i, seq, h, fun k => t.getD k undef, congrArg (Act.mk · []) ht⟩
attribute [local go_sem ↓] index_bt
/-- Parse's scope. -/
noncomputable abbrev pcode : Code := match Tryd.f9.body with
  | some (.seq _ (.scope c)) => c
  | _ => .skip
set_option maxRecDepth 1000000 in
theorem parse_none (l : List UInt8) (w : World) (rest : Code) (hr : findLabel pcode 0 = some rest) (Q : Exit → Act → World → Prop)
    (hQ : Q = bodyPost Tryd.prog Tryd.f9 fun e w' => e = .returned (parV (parO l)) ∧ Gr w w') (J' : Nat → Act → World → Prop) (a : Act) (W : World) (hJ : PJ w l 0 a W) : rest.wp Tryd.prog (Exit.jumps (findLabel pcode) J' Q) a W := by
  have hrest := Option.some.inj hr
  subst hrest
  obtain ⟨rfl, hp, u, rfl⟩ := hJ
  show (Code.skip.seq _).wp _ _ _ (w.alloc (.cells #[.int .u8 0, .int .i64 0, .int .i64 0] 23))
  go_wp2
  rw [Exit.jumps_ret, hQ, hp]
  exact bodyPost_ret (results_row_tmp rfl Tryd.underlying23 rfl info23 rfl (rowAt_block (alloc1_heap _ _) rfl)) rfl ⟨rfl, Gr.alloc (Gr.refl _) _⟩
set_option maxRecDepth 1000000 in
set_option maxHeartbeats 4000000 in
theorem parse_tail (l : List UInt8) (hl : (l.length : Int) ≤ 9223372036854775807) (w : World) (x t : Code) (hr : findLabel pcode 1 = some (.seq .skip (.seq x t))) (Q : Exit → Act → World → Prop)
    (hQ : Q = bodyPost Tryd.prog Tryd.f9 fun e w' => e = .returned (parV (parO l)) ∧ Gr w w') (J' : Nat → Act → World → Prop) (i seq : Int) (HR : Rnd l i seq) (u : Nat → Value) 
    (hstop : ¬ (48 ≤ bt l i ∧ bt l i ≤ 57 ∧ seq ≤ 1073741824 ∧ i < (l.length : Int) - 2))
    (hJ0 : ∀ a' W', PJ w l 0 a' W' → J' 0 a' W') :
    t.wp Tryd.prog (Exit.jumps (findLabel pcode) J' Q) { tmps := arr1 w l i seq u, defers := [] } (pw w) := by
  have h1 := Option.some.inj hr
  injection h1 with a_eq h2
  injection h2 with a_eq_1 h3
  subst h3
  clear hr a_eq a_eq_1
  have hn := HR.len
  have hlo := HR.lo
  have hhi := HR.hi
  have htop := HR.top
  have hsq := HR.nonneg
  have hb0 := bt_bounds l i
  have hb1 := bt_bounds l (i + 1)
  have hi0 : 0 ≤ i := by omega
  have hin : i < (l.length : Int) := by omega
  have hi1 : 0 ≤ i + 1 := by omega
  have hin1 : i + 1 < (l.length : Int) := by omega
  have hz : (0 : Int) < (l.length : Int) := by omega
  have hcases : (¬ i = (l.length : Int) - 2 ∨ ((l.length : Int) = i + 2 ∧ i = 1) ∨ ((l.length : Int) = i + 2 ∧ ¬ i = 1 ∧ 1073741824 < seq) ∨ ((l.length : Int) = i + 2 ∧ ¬ i = 1 ∧ ¬ 1073741824 < seq ∧ ¬ bt l i = 46) ∨ ((l.length : Int) = i + 2 ∧ ¬ i = 1 ∧ ¬ 1073741824 < seq ∧ bt l i = 46 ∧ ¬ bt l (i + 1) = 49 ∧ ¬ bt l (i + 1) = 50)) ∨
      (((l.length : Int) = i + 2 ∧ ¬ i = 1 ∧ ¬ 1073741824 < seq ∧ bt l i = 46) ∧ (bt l (i + 1) = 49 ∨ bt l (i + 1) = 50)) := by omega
  have x1 : i < i + 2 := by omega
  have x2 : i + 1 < i + 2 := by omega
  have x3 : 0 < i + 2 := by omega
  have HS := Lib.hid hstop
  have HR := Lib.hid HR
  have HQ := Lib.hid hQ
  have HJ := Lib.hid hJ0
  clear hstop hQ hJ0
  show Code.wp _ _ _ _ (w.alloc (.cells #[.int .u8 0, .int .i64 0, .int .i64 0] 23))
  rcases hcases with hbad | ⟨⟨c1, c2, c3, c4⟩, c5⟩
  · have hp : parO l = none := rnd_none HR.out HS.out (by omega)
    have HP := Lib.hid hp
    clear hp
    rcases hbad with d1 | ⟨d1, d2⟩ | ⟨d1, d2, d3⟩ | ⟨d1, d2, d3, d4⟩ | ⟨d1, d2, d3, d4, d5, d6⟩
    rotate_left 4
    · have f1 : (bt l (i + 1) != 49) = true := by simp [d5]
      have f2 : (bt l (i + 1) != 50) = true := by simp [d6]
      have f3 : (i == 1) = false := by simp [d2]
      clear d2 d5 d6
      go_wp2
      go_step3
      exact Exit.jumps_goto (Q := Q) rfl (HJ.out _ _ (PJ0_of HP.out rfl))
    all_goals
      go_wp2
      go_step3
      exact Exit.jumps_goto (Q := Q) rfl (HJ.out _ _ (PJ0_of HP.out rfl))
  · have hp := rnd_some HR.out (by omega) c2 (by omega) c4 c5
    have hhead := HR.out.head
    have HP := Lib.hid hp
    clear hp
    have h12 : (bt l 0 = 112 ∧ (if bt l 0 = 112 then (4 : Int) else 3) = 4) ∨ (¬ bt l 0 = 112 ∧ (if bt l 0 = 112 then (4 : Int) else 3) = 3) := by
      by_cases h : bt l 0 = 112
      · exact .inl ⟨h, if_pos h⟩
      · exact .inr ⟨h, if_neg h⟩
    clear hhead
    generalize (if bt l 0 = 112 then (4 : Int) else 3) = kk at *
    rcases c5 with c5 | c5 <;> rcases h12 with ⟨h12, rfl⟩ | ⟨h12, rfl⟩
    all_goals
      go_wp2
      rw [HQ.out, HP.out, c5]
      exact bodyPost_ret (results_row_tmp rfl Tryd.underlying23 rfl info23 rfl (rowAt_block (alloc1_heap _ _) rfl)) rfl ⟨rfl, Gr.alloc (Gr.refl _) _⟩
end Go.Proofs.YtkhkjcoejkgfeaaDoor
