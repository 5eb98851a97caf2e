/-
  The class law for a region that draws its order, behind a structure: the goal of a step is then not opened by the elaborator.
  Conditions: none beyond those typed at each theorem. No program in sight.
-/
import Derived.Test.YtbgcjbpkgijmeaaQa
namespace Go.Proofs.Ytbgcjbpkgijmeaa
open Go
structure Qw (P : Program) (ops : Array Oper) (C : World → Prop) (Q : Act → Prop) (l : List Oper) (a : Act) : Prop where
  out : wpQuiet P ops C Q l a
section
variable {P : Program} {ops : Array Oper} {C : World → Prop} {Q : Act → Prop} {a : Act} {o : Oper} {rest : List Oper}
theorem qw_skip (hw : Region.wanted o (yielded ops a.tmps) = false) (h : Qw P ops C Q rest (a.put o.dst undef)) : Qw P ops C Q (o :: rest) a := ⟨wpQuiet_skip hw h.out⟩
theorem qw_takeE (hw : Region.wanted o (yielded ops a.tmps) = true) (h : ∃ v, (∀ X, C X → o.quietAt P a C X v) ∧ Qw P ops C Q rest (a.put o.dst v)) : Qw P ops C Q (o :: rest) a :=
  let ⟨_, h1, h2⟩ := h
  ⟨wpQuiet_take hw h1 h2.out⟩
theorem qw_nil (h : Q a) : Qw P ops C Q [] a := ⟨wpQuiet_nil h⟩
theorem wp_region_qw {id : Nat} {Q : Exit → Act → World → Prop} {w : World} {l : List Oper} (C : World → Prop) (hm : P.follows .mixedOrders = true) (hB : Region.lexB .any l.toArray = true) (hC : C w.drew)
    (h : Qw P l.toArray C (fun a' => ∀ w', C w' → Q .normal a' w') l a) : (Code.region id l.toArray true).wp P Q a w :=
  wp_region_class C hm hB hC h.out
end
end Go.Proofs.Ytbgcjbpkgijmeaa
