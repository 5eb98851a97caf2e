/-
  The law of order, walked: its head.
  Conditions: none beyond those typed at each theorem.
-/
import Derived.Test.YtkhkjcoejkgfeaaDoorSh
import Derived.Test.YtkhkjcoejkgfeaaDoorNq
import Derived.Deep.DeepCutAuto
namespace Go.Proofs.YtkhkjcoejkgfeaaDoor
open Go Go.RowKit
attribute [local go_sem ↓] eql23 neq23

theorem ordI_irr (x : Idn) : ¬ ordI x x < 0 := by rw [ordI_lt]; omega
theorem ordI_tr {x y z : Idn} (h : ordI x y < 0) (g : ordI y z < 0) : ordI x z < 0 := by rw [ordI_lt] at *; omega
theorem ordI_asym {x y : Idn} (h : ordI x y < 0) : ¬ ordI y x < 0 := by rw [ordI_lt] at *; omega
theorem ordI_tri {x y : Idn} (h : ¬ ordI x y < 0) (g : ¬ ordI y x < 0) : x = y := by
  obtain ⟨k, s, f⟩ := x
  obtain ⟨k', s', f'⟩ := y
  rw [ordI_lt] at *
  simp only [Idn.mk.injEq]
  simp only at h g
  omega
theorem ordI_ne {x y : Idn} (h : ordI x y < 0) : x ≠ y := by rintro rfl; exact ordI_irr x h
theorem less_is (x y : Idn) (b : Bool) (h : decide (ordI x y < 0) = b) (w : World) : Calls Tryd.prog 14 #[idV x, idV y] w fun e w' => e = .returned (.bool b) ∧ Gr w w' := by
  subst h
  exact less_any x y w
theorem run_append_none_c {w : World} {base : Nat} {v : Value} {n : Nat} {xs : List Value} {e : TypeId} {size : Nat} {P : Program} (t ty : TypeId) (i : TypeInfo) (c : Nat) (ht : P.underlying t = some (.slice e)) (hi : P.info? e = some i) (hown : w.ownsRow base e size v n xs) :
    (Builtin.append_ #[t, t] ty #[v, .slice none 0 c]).run P w = .ok v w := by
  rcases hown.2 with ⟨rfl, rfl⟩ | ⟨g, cap, cur, rfl, _, _, hnc, _⟩
  · simp [Builtin.append_, run_underlying ht, sizeOf, typeInfo, hi, Builtin.lenOf, Builtin.firstCells]
  · simp [Builtin.append_, run_underlying ht, sizeOf, typeInfo, hi, Builtin.lenOf, Builtin.firstCells, hnc, storeCells]
theorem wpList_append_none_c {P : Program} {w : World} {ops : Array Oper} {rest : List Oper} {o : Oper} {a : Act} {Q : Exit → Act → World → Prop} (hgd : o.guard = none) (s x : Operand) (t : TypeId)
    (ho : o.op = .call { callee := .builtin .append, args := #[s, x], argTypes := #[t, t] })
    (base : Nat) (e : TypeId) (i : TypeInfo) (size : Nat) (ht : P.underlying t = some (.slice e)) (hi : P.info? e = some i)
    (v : Value) (n : Nat) (xs : List Value) (hs : a.eval s = v) (hown : w.ownsRow base e size v n xs) (c : Nat) (hx : a.eval x = .slice none 0 c)
    (h : wpList P ops Q rest (a.put o.dst v) w) : wpList P ops Q (o :: rest) a w := by
  refine wpList_plain hgd fun K hK => ?_
  have hrun := run_append_none_c (P := P) (w := w) t o.type i c ht hi hown
  unfold Oper.wp
  simp [execOp, ho, resolve, invoke, builtin, hs, hx, hrun, Result.andThen]
  exact hK _ _ h
theorem info23_parts : ∃ i0, Tryd.prog.info? 23 = some i0 ∧ i0.zero = some (.agg #[.int .u8 0, .int .i64 0, .int .i64 0]) ∧ i0.size = 3 ∧ i0.bytes = 24 := by
  have := Tryd.info23
  cases hh : Tryd.prog.info? 23 with
  | none => rw [hh] at this; cases this
  | some i =>
    rw [hh] at this
    simp only [Option.map_some, Option.some.injEq, Prod.mk.injEq] at this
    exact ⟨i, rfl, this.1, this.2.1, this.2.2⟩
theorem order_great (w : World) (hT : Tab w) (x y z : Idn) (a : Option Addr) (n c : Nat) (h : 40 < (n : Int)) :
    Calls Tryd.prog 6 #[idV x, idV y, idV z, .slice a n c] w fun e w' => e = .returned (.bool true) ∧ Gr w w' := by
  obtain ⟨W1, hW1⟩ : ∃ W1, ((w.alloc (.cells #[.int .u8 x.kind, .int .i64 x.seq, .int .i64 x.fmt] 23)).alloc (.cells #[.int .u8 y.kind, .int .i64 y.seq, .int .i64 y.fmt] 23)).alloc (.cells #[.int .u8 z.kind, .int .i64 z.seq, .int .i64 z.fmt] 23) = W1 := ⟨_, rfl⟩
  have g1 : Gr w W1 := by rw [← hW1]; exact ((Gr.alloc (Gr.refl w) _).alloc _).alloc _
  have HW := Lib.hid (wakes_any (hT.gr g1))
  have HG := Lib.hid g1
  have HW1 := Lib.hid hW1
  clear hT g1 hW1
  go_enter Tryd.func6, Tryd.ntmps6
  go_wp2_with fail
  rw [HW1.out]
  refine HW.out.mono ?_
  rintro e w2 ⟨rfl, g2⟩
  have HG2 := Lib.hid (HG.out.trans g2)
  clear g2
  go_wp2
  go_ret
  exact ⟨rfl, HG2.out⟩
end Go.Proofs.YtkhkjcoejkgfeaaDoor
