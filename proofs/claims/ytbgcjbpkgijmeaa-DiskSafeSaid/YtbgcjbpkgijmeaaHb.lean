/-
  What comes of the disks of the law's own trial; rows of a variable's own, kept where the variable is written.
  Conditions: none beyond those typed at each theorem.
-/
import Derived.Test.YtbgcjbpkgijmeaaHa
namespace Go.Proofs.Ytbgcjbpkgijmeaa
open Go Go.RowKit

def crO : Opr := ⟨1, [97], [], []⟩
def moO : Opr := ⟨2, [97], [], [1, 2]⟩
def rmO : Opr := ⟨4, [98], [], []⟩
def rnO : Opr := ⟨3, [97], [122], []⟩
def tD0 : Dsk := ⟨[⟨[97], []⟩], [], 3, 0, false⟩
def tDc : Dsk := ⟨[⟨[97], [1]⟩], [], 3, 0, false⟩
def tDx : Dsk := ⟨[⟨[97], []⟩], [moO], 3, 0, true⟩
theorem wk0 : mayP ([crO].foldl doD (newD 3)) = 0 ∧ syncD ([crO].foldl doD (newD 3)) = tD0 := by decide
theorem wk1 : crashD ([moO].foldl doD tD0) 0 1 = tDc := by decide
theorem wk2 : doE ([moO].foldl doD tD0) moO = 41 := by decide
theorem wk3 : doE tD0 rmO = 42 := by decide
theorem wk4 : [moO].foldl doD { tD0 with fuse := 1 } = tDx := by decide
theorem wk5 : mayP tDx = 40 := by decide
theorem wk6 : readB ([rnO].foldl doD tDc) [122] = [1] ∧ readE ([rnO].foldl doD tDc) [122] = 0 := by decide
theorem wk7 : usedN tDx = 2 ∧ rightB tDx = true ∧ rightB ⟨[], [], -1, 0, false⟩ = false := by decide

/-- A row of the call's own is kept where a block of another type is written. -/
theorem OwnRow.apart {α : Type} {E : El α} {base Bd : Nat} {A B : World} {v : Value} {xs : List α} {cs : Array Value} {f : Nat × Nat} (h : OwnRow E base A v xs) (hE : E.ty ≠ 25)
    (hb : A.heap[Bd]? = some (.cells cs 25 f)) (hk : ∀ k, k ≠ Bd → B.heap[k]? = A.heap[k]?) : OwnRow E base B v xs :=
  h.keep fun k cur e hke _ he => hk k fun hkb => by
    subst hkb
    rw [hb] at hke
    simp only [Option.some.injEq, Obj.cells.injEq] at hke
    rcases he with he | he
    · exact hE (he.symm.trans hke.2.1.symm)
    · rw [he] at hke; exact absurd hke.2.1 (by decide)
theorem OwnDsk.apart {base Bd : Nat} {A B : World} {v : Value} {d : Dsk} {cs : Array Value} {f : Nat × Nat} (h : OwnDsk base A v d)
    (hb : A.heap[Bd]? = some (.cells cs 25 f)) (hk : ∀ k, k ≠ Bd → B.heap[k]? = A.heap[k]?) : OwnDsk base B v d := by
  obtain ⟨fv, qv, h1, h2, h3, h4⟩ := h
  exact ⟨fv, qv, h1, h2.apart (by decide) hb hk, h3.apart (by decide) hb hk, h4⟩
end Go.Proofs.Ytbgcjbpkgijmeaa
