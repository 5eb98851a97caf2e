/-
  A row of identities that is written in place: the reading, its upkeep; one exchange.
  Conditions: none beyond those typed at each theorem.
-/
import Derived.Test.YtkhkjcoejkgfeaaDoorNp
import Derived.Deep.MidRow
import Derived.Deep.Upon
import Derived.BigRegion
namespace Go.Proofs.YtkhkjcoejkgfeaaDoor
open Go Go.RowKit

/-- Element i of the row in block B is x; it may be written; it has been written. -/
def El (X : World) (B i : Nat) (x : Idn) : Prop := X.rangeAt B (i * 3) (idCells x)
def Th (X : World) (B i : Nat) : Prop := X.there B (i * 3) 3
def put (X : World) (B i : Nat) (x : Idn) : World := X.setCells B (i * 3) (idCells x)

theorem ld_el (X : World) (B i : Nat) (x : Idn) (h : El X B i x) : (Instr.loadAt 23 (.pointer (some ⟨B, i * 3, none⟩))).run Tryd.prog X = .ok (.agg #[.int .u8 x.kind, .int .i64 x.seq, .int .i64 x.fmt]) X :=
  run_loadAt_mid X B (i * 3) 23 (idCells x) _ h Tryd.underlying23 rfl (by kernel_rfl)
theorem st_el (X : World) (B i : Nat) (k s f : Int) (h : Th X B i) : (Instr.storeAt 23 (.pointer (some ⟨B, i * 3, none⟩)) (.agg #[.int .u8 k, .int .i64 s, .int .i64 f])).run Tryd.prog X = .ok () (put X B i ⟨k, s, f⟩) :=
  run_storeAt_mid X B (i * 3) 23 #[.int .u8 k, .int .i64 s, .int .i64 f] h (by kernel_rfl) (all_oneCell_toArray (cs := [.int .u8 k, .int .i64 s, .int .i64 f]) (by intro v hv; simp only [List.mem_cons, List.not_mem_nil, or_false] at hv; rcases hv with rfl | rfl | rfl <;> rfl))
theorem El.cells {X : World} {B i : Nat} {x : Idn} (h : El X B i x) : X.cell? ⟨B, i * 3, none⟩ = some (.int .u8 x.kind) ∧ X.cell? ⟨B, i * 3 + 1, none⟩ = some (.int .i64 x.seq) ∧ X.cell? ⟨B, i * 3 + 2, none⟩ = some (.int .i64 x.fmt) := ⟨h 0 _ rfl, h 1 _ rfl, h 2 _ rfl⟩
theorem Th.frozen {X : World} {B i : Nat} (h : Th X B i) : X.frozen? ⟨B, i * 3, none⟩ = false ∧ X.frozen? ⟨B, i * 3 + 1, none⟩ = false ∧ X.frozen? ⟨B, i * 3 + 2, none⟩ = false := ⟨(h 0 (by decide)).2, (h 1 (by decide)).2, (h 2 (by decide)).2⟩
/-- The identity at a place of a block; one lies there. -/
def cellI (X : World) (B o : Nat) : Int := match X.cell? ⟨B, o, none⟩ with
  | some (.int _ q) => q
  | _ => 0
def idAt (X : World) (B o : Nat) : Idn := ⟨cellI X B o, cellI X B (o + 1), cellI X B (o + 2)⟩
def Lies (X : World) (B o : Nat) : Prop := X.rangeAt B o (idCells (idAt X B o))
def Thr (X : World) (B o : Nat) : Prop := X.there B o 3
def putO (X : World) (B o : Nat) (x : Idn) : World := X.setCells B o (idCells x)
theorem idAt_of {X : World} {B i : Nat} {x : Idn} (h : El X B i x) : idAt X B (i * 3) = x := by
  have h0 : X.cell? ⟨B, i * 3, none⟩ = some (.int .u8 x.kind) := h 0 _ rfl
  have h1 : X.cell? ⟨B, i * 3 + 1, none⟩ = some (.int .i64 x.seq) := h 1 _ rfl
  have h2 : X.cell? ⟨B, i * 3 + 2, none⟩ = some (.int .i64 x.fmt) := h 2 _ rfl
  unfold idAt cellI
  rw [h0, h1, h2]
theorem lies_of {X : World} {B i : Nat} {x : Idn} (h : El X B i x) : Lies X B (i * 3) := by
  unfold Lies
  rw [idAt_of h]
  exact h
theorem ld_at (X : World) (B o : Nat) (h : Lies X B o) : (Instr.loadAt 23 (.pointer (some ⟨B, o, none⟩))).run Tryd.prog X = .ok (.agg #[.int .u8 (idAt X B o).kind, .int .i64 (idAt X B o).seq, .int .i64 (idAt X B o).fmt]) X :=
  run_loadAt_mid X B o 23 (idCells (idAt X B o)) _ h Tryd.underlying23 rfl (by kernel_rfl)
theorem st_at (X : World) (B o : Nat) (k s f : Int) (h : Thr X B o) : (Instr.storeAt 23 (.pointer (some ⟨B, o, none⟩)) (.agg #[.int .u8 k, .int .i64 s, .int .i64 f])).run Tryd.prog X = .ok () (putO X B o ⟨k, s, f⟩) :=
  run_storeAt_mid X B o 23 #[.int .u8 k, .int .i64 s, .int .i64 f] h (by kernel_rfl) (all_oneCell_toArray (cs := [.int .u8 k, .int .i64 s, .int .i64 f]) (by intro v hv; simp only [List.mem_cons, List.not_mem_nil, or_false] at hv; rcases hv with rfl | rfl | rfl <;> rfl))
theorem el_drew (X : World) (B i : Nat) (x : Idn) : El X.drew B i x = El X B i x := rfl
theorem th_drew (X : World) (B i : Nat) : Th X.drew B i = Th X B i := rfl
theorem th_put {X : World} {B j : Nat} (h : Th X B j) (i : Nat) (x : Idn) : Th (put X B i x) B j := World.there_setCells h B (i * 3) (idCells x)
theorem el_same {X : World} {B i : Nat} (x : Idn) (h : Th X B i) : El (put X B i x) B i x := World.rangeAt_setCells_same X B (i * 3) (idCells x) h
theorem el_other {X : World} {B i j : Nat} {y : Idn} (x : Idn) (h : El X B j y) (hij : i ≠ j) : El (put X B i x) B j y := by
  refine World.rangeAt_setCells_apart h B (i * 3) (idCells x) (.inr ?_)
  show j * 3 + 3 ≤ i * 3 ∨ i * 3 + 3 ≤ j * 3
  omega
theorem grown_put (X : World) (B i : Nat) (x : Idn) : X.grownBy (put X B i x) (some B) := by
  refine ⟨World.os_setCells _ _ _ _, ?_, World.output_setCells _ _ _ _, ?_, fun k hk hne => ?_⟩
  · unfold put idCells; rfl
  · unfold put idCells; simp [World.setCells, World.setCell]
  · exact World.heap_setCells_other _ _ _ _ hk (fun e => hne (by rw [e]))

/-- The row reads as d; nothing else that lay in w has turned. -/
structure RW (w : World) (B n : Nat) (d : List Idn) (X : World) : Prop where
  len : d.length = n
  el : ∀ i x, d[i]? = some x → El X B i x
  th : ∀ i, i < n → Th X B i
  gr : w.grownBy X (some B)
theorem RW.put {w : World} {B n : Nat} {d : List Idn} {X : World} (h : RW w B n d X) {i : Nat} (hi : i < n) (x : Idn) : RW w B n (d.set i x) (put X B i x) := by
  refine ⟨by rw [List.length_set]; exact h.len, fun j y hj => ?_, fun j hj => th_put (h.th j hj) i x, World.grownBy.trans h.gr (grown_put X B i x)⟩
  by_cases e : i = j
  · subst e
    rw [List.getElem?_set_self (by rw [h.len]; exact hi)] at hj
    injection hj with hj
    subst hj
    exact el_same x (h.th i hi)
  · rw [List.getElem?_set_ne e] at hj
    exact el_other x (h.el j y hj) e
theorem RW.later {w : World} {B n : Nat} {d : List Idn} {X Y : World} (h : RW w B n d X) (hB : B < X.heap.size) (hg : Gr X Y) : RW w B n d Y := by
  have hb : Y.heap[B]? = X.heap[B]? := Below.block hg B hB
  have hc : ∀ o, Y.cell? ⟨B, o, none⟩ = X.cell? ⟨B, o, none⟩ := fun o => World.cell?_of_block hb
  have hf : ∀ o, Y.frozen? ⟨B, o, none⟩ = X.frozen? ⟨B, o, none⟩ := fun o => World.frozen?_of_block hb
  refine ⟨h.len, fun i x hi => later_range hg (h.el i x hi), fun i hi j hj => ?_, ?_⟩
  · have := h.th i hi j hj
    rwa [hc, hf]
  · exact World.grownBy.trans h.gr ⟨hg.os, hg.tape, hg.output, hg.size, fun k hk _ => Below.block hg k hk⟩
theorem RW.drew {w : World} {B n : Nat} {d : List Idn} {X : World} (h : RW w B n d X) : RW w B n d X.drew := ⟨h.len, h.el, h.th, ⟨h.gr.os, h.gr.tape, h.gr.output, h.gr.size, h.gr.block⟩⟩
end Go.Proofs.YtkhkjcoejkgfeaaDoor
