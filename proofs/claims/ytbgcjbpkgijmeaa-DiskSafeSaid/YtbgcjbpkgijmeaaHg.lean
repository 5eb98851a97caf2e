/-
  Rows of rows of files; disks that came in or are of the call's own; what is kept of both.
  Conditions: none beyond those typed at each theorem.
-/
import Derived.Test.YtbgcjbpkgijmeaaHe
namespace Go.Proofs.Ytbgcjbpkgijmeaa
open Go Go.RowKit

theorem Try.info22 : (Try.prog.info? 22).map (fun i => (i.zero, i.size, i.bytes)) = some (some (.slice none 0 0), 1, 24) := by kernel_rfl

/-- A row of rows of files, all of the call's own. -/
def OwnWas (base : Nat) (w : World) (v : Value) (was : List (List Fl)) : Prop :=
  ∃ vs : List Value, vs.length = was.length ∧ w.ownsRow base 22 1 v was.length vs ∧ ∀ (i : Nat) (l : List Fl) (fv : Value), was[i]? = some l → vs[i]? = some fv → OwnFls base w fv l
theorem OwnWas.nil (base : Nat) (w : World) : OwnWas base w (.slice none 0 0) [] := ⟨[], rfl, World.ownsRow_nil _ _ _ _, fun i l fv h => by simp at h⟩
theorem OwnWas.gr {base : Nat} {A B : World} {v : Value} {was : List (List Fl)} (h : OwnWas base A v was) (hg : Gr A B) : OwnWas base B v was := by
  obtain ⟨vs, h1, h2, h3⟩ := h
  exact ⟨vs, h1, ownsRow_dat (Gr.kp hg _) h2, fun i l fv hl hv => OwnRow.gr hg (h3 i l fv hl hv)⟩
theorem OwnWas.slice {base : Nat} {w : World} {v : Value} {was : List (List Fl)} (h : OwnWas base w v was) : ∃ a c, v = .slice a was.length c := let ⟨_, _, h2, _⟩ := h; owns_slice h2
theorem OwnWas.apart {base Bd : Nat} {A B : World} {v : Value} {was : List (List Fl)} {cs : Array Value} {f : Nat × Nat} (h : OwnWas base A v was)
    (hb : A.heap[Bd]? = some (.cells cs 25 f)) (hk : ∀ k, k ≠ Bd → B.heap[k]? = A.heap[k]?) : OwnWas base B v was := by
  obtain ⟨vs, h1, h2, h3⟩ := h
  refine ⟨vs, h1, owns_other h2 fun k hkk => hk k fun e => ?_, fun i l fv hl hv => (h3 i l fv hl hv).apart (by decide) hb hk⟩
  subst e
  obtain ⟨_, cur, hc⟩ := owns_elem h2 hkk
  rw [hb] at hc
  simp only [Option.some.injEq, Obj.cells.injEq] at hc
  exact absurd hc.2.1 (by decide)
/-- A row of the call's own is kept where a row of rows grows. -/
theorem OwnRow.grew {α : Type} {E : El α} {base base' n : Nat} {A w2 : World} {v u : Value} {xs : List α} {vs : List Value} {tmp : Obj} (h : OwnRow E base A v xs) (hE : E.ty ≠ 22)
    (hr : A.ownsRow base' 22 1 u n vs) (hg : (A.alloc tmp).grownBy w2 u.ownBlock) : OwnRow E base w2 v xs :=
  h.keep fun k cur e hk _ he => by
    have hlt : k < A.heap.size := (Array.getElem?_eq_some_iff.1 hk).1
    rw [hg.block k (by simp; omega) (fun e' => by
      obtain ⟨_, cur', hc⟩ := owns_elem hr e'.symm
      rw [hk] at hc
      simp only [Option.some.injEq, Obj.cells.injEq] at hc
      rcases he with he | he
      · exact hE (he.symm.trans hc.2.1)
      · rw [he] at hc; exact absurd hc.2.1 (by decide))]
    exact Below.heap_alloc A tmp k hlt
theorem OwnWas.push {base : Nat} {A w2 : World} {v v' fv : Value} {was : List (List Fl)} {l : List Fl} {vs : List Value} {tmp : Obj} (h : OwnWas base A v was) (hl : OwnFls base A fv l)
    (hvs : A.ownsRow base 22 1 v was.length vs) (hown : w2.ownsRow base 22 1 v' (was.length + 1) (vs ++ [fv])) (hg : (A.alloc tmp).grownBy w2 v.ownBlock) : OwnWas base w2 v' (was ++ [l]) := by
  obtain ⟨us, h1, h2, h3⟩ := h
  have e : vs = us := by
    have l1 : vs.length = was.length * 1 := hvs.1
    have l2 : us.length = was.length * 1 := h2.1
    rcases hvs.2 with ⟨_, h0⟩ | ⟨g, cap, cur, hv, _⟩
    · have e1 : vs = [] := List.eq_nil_of_length_eq_zero (by rw [l1, h0])
      have e2 : us = [] := List.eq_nil_of_length_eq_zero (by rw [l2, h0])
      rw [e1, e2]
    · apply List.ext_getElem?
      intro j
      by_cases hj : j < vs.length
      · have c1 := World.ownsRow.cells hvs (by rw [hv]; rfl) j vs[j] (List.getElem?_eq_getElem hj)
        have c2 := World.ownsRow.cells h2 (by rw [hv]; rfl) j (us[j]'(by omega)) (List.getElem?_eq_getElem (by omega))
        rw [List.getElem?_eq_getElem hj, List.getElem?_eq_getElem (by omega)]
        rw [c1] at c2; exact c2
      · rw [List.getElem?_eq_none (by omega), List.getElem?_eq_none (by omega)]
  subst e
  refine ⟨vs ++ [fv], by simp [h1], by rw [List.length_append]; exact hown, fun i m gv hm hgv => ?_⟩
  by_cases hi : i < was.length
  · rw [List.getElem?_append_left hi] at hm
    rw [List.getElem?_append_left (by omega)] at hgv
    exact (h3 i m gv hm hgv).grew (by decide) h2 hg
  · rw [List.getElem?_append_right (by omega)] at hm
    rw [List.getElem?_append_right (by omega), h1] at hgv
    have e0 : i - was.length = 0 := by
      have := (List.getElem?_eq_some_iff.1 hm).1
      simp at this; omega
    rw [e0] at hm hgv
    simp at hm hgv
    subst hm hgv
    exact hl.grew (by decide) h2 hg

/-- A disk that came in, or one of the call's own. -/
def Hd (w X : World) (v : Value) (d : Dsk) : Prop := IsDsk (· < w.heap.size) X v d ∨ OwnDsk w.heap.size X v d
theorem Hd.gr {w A B : World} {v : Value} {d : Dsk} (h : Hd w A v d) (hg : Gr A B) : Hd w B v d := h.elim (fun h => .inl (h.gr hg)) fun h => .inr (h.gr hg)
theorem Hd.is {w A : World} {v : Value} {d : Dsk} (h : Hd w A v d) : IsDsk (fun _ => True) A v d := h.elim (fun h => IsDsk.mono h fun _ _ => trivial) fun h => IsDsk.mono h.is fun _ _ => trivial
theorem Hd.apart {w : World} {Bd : Nat} {A B : World} {v : Value} {d : Dsk} {cs : Array Value} {f : Nat × Nat} (h : Hd w A v d) (hBd : w.heap.size ≤ Bd)
    (hb : A.heap[Bd]? = some (.cells cs 25 f)) (hk : Kp (fun k _ => k ≠ Bd) A B) (hk2 : ∀ k, k ≠ Bd → B.heap[k]? = A.heap[k]?) : Hd w B v d :=
  h.elim (fun h => .inl (IsDsk.kp hk h fun b _ _ _ hb' _ => by have hb' : b < w.heap.size := hb'; omega)) fun h => .inr (h.apart hb hk2)
theorem Hd.grew {w : World} {n : Nat} {A w2 : World} {v u : Value} {d : Dsk} {vs : List Value} {tmp : Obj} (h : Hd w A v d) (hr : A.ownsRow w.heap.size 22 1 u n vs) (hg : (A.alloc tmp).grownBy w2 u.ownBlock) : Hd w w2 v d := by
  rcases h with h | h
  · exact .inl (IsDsk.kp (N := fun k _ => k < w.heap.size) (Kp.grown (Kp.alloc (Kp.refl _ _) tmp) hg fun k o e _ => by
      have := (owns_elem hr e).1; omega) h fun b _ _ _ hb _ => hb)
  · obtain ⟨fv, qv, h1, h2, h3, h4⟩ := h
    exact .inr ⟨fv, qv, h1, h2.grew (by decide) hr hg, h3.grew (by decide) hr hg, h4⟩
/-- .. and a variable of a disk. -/
theorem box_grew {n Bd base : Nat} {A w2 : World} {u : Value} {vs : List Value} {cs : Array Value} {tmp : Obj} (hb : A.heap[Bd]? = some (.cells cs 25 (0, 0))) (hr : A.ownsRow base 22 1 u n vs) (hg : (A.alloc tmp).grownBy w2 u.ownBlock) :
    w2.heap[Bd]? = some (.cells cs 25 (0, 0)) := by
  have hlt : Bd < A.heap.size := (Array.getElem?_eq_some_iff.1 hb).1
  rw [hg.block Bd (by simp; omega) (fun e' => by
    obtain ⟨_, cur', hc⟩ := owns_elem hr e'.symm
    rw [hb] at hc
    simp only [Option.some.injEq, Obj.cells.injEq] at hc
    exact absurd hc.2.1 (by decide))]
  rw [Below.heap_alloc A tmp Bd hlt]; exact hb
end Go.Proofs.Ytbgcjbpkgijmeaa
