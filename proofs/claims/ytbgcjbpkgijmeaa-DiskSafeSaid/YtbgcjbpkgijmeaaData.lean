/-
  What lies in memory, read as slices; how such readings are kept.
-/
import Derived.Test.YtbgcjbpkgijmeaaBase
import Derived.Deep.MidRow
import Derived.Laws.AppendOwn
namespace Go.Proofs.Ytbgcjbpkgijmeaa
open Go Go.RowKit

/-- The value is a slice whose elements, of 'size' cells each, are els; its block is one of S. -/
def SL (S : Nat → Prop) (w : World) (size : Nat) (v : Value) (els : List (List Value)) : Prop :=
  (∀ e ∈ els, e.length = size) ∧
  (((∃ a c, v = .slice a 0 c ∧ c ≤ maxLen) ∧ els = []) ∨ ∃ b off cap, v = .slice (some ⟨b, off, none⟩) els.length cap ∧ els.length ≤ cap ∧ cap ≤ maxLen ∧ S b ∧ w.rangeAt b off els.flatten)
theorem rangeAt_kp {N : Nat → Obj → Prop} {A B : World} (h : Kp N A B) {b o : Nat} {cs : List Value} (hr : A.rangeAt b o cs) (hN : ∀ c e f, A.heap[b]? = some (.cells c e f) → N b (.cells c e f)) : B.rangeAt b o cs := by
  intro j v hv
  have hc := hr j v hv
  unfold World.cell? at hc ⊢
  split at hc
  · rename_i c e f ho
    rw [h.keep _ _ ho (hN _ _ _ ho)]
    exact hc
  · cases hc
theorem cell_kp {N : Nat → Obj → Prop} {A B : World} (h : Kp N A B) {a : Addr} {v : Value} (hc : A.cell? a = some v) (hN : ∀ c e f, A.heap[a.block]? = some (.cells c e f) → N a.block (.cells c e f)) : B.cell? a = some v := by
  unfold World.cell? at hc ⊢
  split at hc
  · rename_i c e f ho
    rw [h.keep _ _ ho (hN _ _ _ ho)]
    exact hc
  · cases hc
theorem SL.kp {N : Nat → Obj → Prop} {A B : World} (h : Kp N A B) {S : Nat → Prop} {size : Nat} {v : Value} {els : List (List Value)} (hs : SL S A size v els)
    (hN : ∀ b c e f, S b → A.heap[b]? = some (.cells c e f) → N b (.cells c e f)) : SL S B size v els := by
  refine ⟨hs.1, ?_⟩
  rcases hs.2 with h0 | ⟨b, off, cap, hv, h1, h2, h3, h4⟩
  · exact .inl h0
  · exact .inr ⟨b, off, cap, hv, h1, h2, h3, rangeAt_kp h h4 (fun c e f => hN b c e f h3)⟩
theorem SL.mono {A : World} {S T : Nat → Prop} {size : Nat} {v : Value} {els : List (List Value)} (hs : SL S A size v els) (hST : ∀ b, S b → T b) : SL T A size v els := by
  refine ⟨hs.1, ?_⟩
  rcases hs.2 with h0 | ⟨b, off, cap, hv, h1, h2, h3, h4⟩
  · exact .inl h0
  · exact .inr ⟨b, off, cap, hv, h1, h2, hST _ h3, h4⟩
theorem SL.dat {A B : World} (h : Kp Dat A B) {S : Nat → Prop} {size : Nat} {v : Value} {els : List (List Value)} (hs : SL S A size v els) : SL S B size v els :=
  hs.kp h (fun _ _ _ _ _ _ => rfl)
theorem SL.gr {A B : World} (h : Gr A B) {S : Nat → Prop} {size : Nat} {v : Value} {els : List (List Value)} (hs : SL S A size v els) : SL S B size v els := hs.dat (Gr.kp h _)
theorem flatten_at {size : Nat} : ∀ (els : List (List Value)), (∀ e ∈ els, e.length = size) → ∀ (i : Nat) (e : List Value), els[i]? = some e → ∀ (j : Nat) (v : Value), e[j]? = some v → els.flatten[i * size + j]? = some v
  | [], _, i, e, he, _, _, _ => by simp at he
  | x :: els, hl, i, e, he, j, v, hv => by
    have hx : x.length = size := hl x (by simp)
    cases i with
    | zero =>
      simp at he; subst he
      simp only [Nat.zero_mul, Nat.zero_add, List.flatten_cons]
      rw [List.getElem?_append_left (by exact (List.getElem?_eq_some_iff.1 hv).1)]; exact hv
    | succ i =>
      simp only [List.getElem?_cons_succ] at he
      have := flatten_at els (fun e he => hl e (by simp [he])) i e he j v hv
      simp only [List.flatten_cons]
      rw [List.getElem?_append_right (by rw [hx, Nat.add_mul]; omega), hx]
      have e1 : (i + 1) * size + j - size = i * size + j := by rw [Nat.add_mul]; omega
      rw [e1]; exact this
theorem flatten_length {size : Nat} : ∀ (els : List (List Value)), (∀ e ∈ els, e.length = size) → els.flatten.length = els.length * size
  | [], _ => by simp
  | x :: els, hl => by
    have hx : x.length = size := hl x (by simp)
    have := flatten_length els (fun e he => hl e (by simp [he]))
    simp only [List.flatten_cons, List.length_append, List.length_cons, this, hx, Nat.add_mul]; omega
/-- A slice that has an element, written out; the element's cells. -/
theorem SL.at {S : Nat → Prop} {w : World} {size : Nat} {v : Value} {els : List (List Value)} (hs : SL S w size v els) {b off len cap : Nat} (hv : v = .slice (some ⟨b, off, none⟩) len cap) {i : Nat} {e : List Value} (he : els[i]? = some e) :
    w.rangeAt b (off + i * size) e := by
  rcases hs.2 with ⟨h0, h1⟩ | ⟨b', off', cap', hv', h1, h2, h3, h4⟩
  · subst h1; simp at he
  · rw [hv] at hv'
    simp only [Value.slice.injEq, Option.some.injEq, Addr.mk.injEq, and_true] at hv'
    obtain ⟨⟨rfl, rfl⟩, _, rfl⟩ := hv'
    intro j u hu
    have := h4 _ _ (flatten_at els hs.1 i e he j u hu)
    rw [← Nat.add_assoc] at this; exact this
theorem SL.len {S : Nat → Prop} {w : World} {size : Nat} {v : Value} {els : List (List Value)} (hs : SL S w size v els) : ∃ a cap, v = .slice a els.length cap ∧ els.length ≤ cap ∧ cap ≤ maxLen := by
  rcases hs.2 with ⟨⟨a, c, rfl, hc⟩, rfl⟩ | ⟨b', off', cap', hv', h1, h2, h3, h4⟩
  · exact ⟨a, c, rfl, Nat.zero_le _, hc⟩
  · exact ⟨_, cap', hv', h1, h2⟩
theorem SL.some {S : Nat → Prop} {w : World} {size : Nat} {v : Value} {els : List (List Value)} (hs : SL S w size v els) (h : 0 < els.length) : ∃ b off cap, v = .slice (some ⟨b, off, none⟩) els.length cap ∧ els.length ≤ cap ∧ cap ≤ maxLen ∧ S b := by
  rcases hs.2 with ⟨_, rfl⟩ | ⟨b', off', cap', hv', h1, h2, h3, h4⟩
  · simp at h
  · exact ⟨_, _, cap', hv', h1, h2, h3⟩
/-- What the call owns is a slice to be read. -/
theorem SL.of_owns {w : World} {base : Nat} {e : TypeId} {size : Nat} {v : Value} {els : List (List Value)} (hl : ∀ x ∈ els, x.length = size) (h : w.ownsRow base e size v els.length els.flatten) : SL (fun b => base ≤ b) w size v els := by
  refine ⟨hl, ?_⟩
  rcases h.2 with ⟨h0, h1⟩ | ⟨g, cap, cur, hv, hg, hh, hn, hc, hs, ht⟩
  · exact .inl ⟨⟨none, 0, h0, Nat.zero_le _⟩, List.eq_nil_of_length_eq_zero h1⟩
  · refine .inr ⟨g, 0, cap, hv, hn, hc, hg, fun j u hu => ?_⟩
    have hk : w.cell? ((⟨g, 0, none⟩ : Addr).add j) = Option.some u := World.ownsRow.cells h (by rw [hv]; rfl) j u hu
    rwa [Addr.add_mid] at hk
theorem ownsRow_dat {A B : World} (h : Kp Dat A B) {base : Nat} {e : TypeId} {size : Nat} {v : Value} {n : Nat} {xs : List Value} (hr : A.ownsRow base e size v n xs) : B.ownsRow base e size v n xs := by
  refine ⟨hr.1, ?_⟩
  rcases hr.2 with h0 | ⟨g, cap, cur, hv, hg, hh, r⟩
  · exact .inl h0
  · exact .inr ⟨g, cap, cur, hv, hg, h.keep _ _ hh rfl, r⟩
theorem ownsRow_base {w : World} {base base' : Nat} {e : TypeId} {size : Nat} {v : Value} {n : Nat} {xs : List Value} (hb : base' ≤ base) (h : w.ownsRow base e size v n xs) : w.ownsRow base' e size v n xs := by
  refine ⟨h.1, ?_⟩
  rcases h.2 with h0 | ⟨g, cap, cur, hv, hg, r⟩
  · exact .inl h0
  · exact .inr ⟨g, cap, cur, hv, by omega, r⟩
theorem add_cells {w : World} {b o : Nat} {cs : List Value} (h : w.rangeAt b o cs) : ∀ j u, cs[j]? = some u → w.cell? ((⟨b, o, none⟩ : Addr).add j) = some u := by
  intro j u hu; rw [Addr.add_mid]; exact h j u hu
theorem later_range {A B : World} (h : Gr A B) {b o : Nat} {cs : List Value} (hr : A.rangeAt b o cs) : B.rangeAt b o cs := rangeAt_kp (Gr.kp h (fun _ _ => True)) hr (fun _ _ _ _ => trivial)
theorem later_cell {A B : World} (h : Gr A B) {a : Addr} {v : Value} (hc : A.cell? a = some v) : B.cell? a = some v := cell_kp (Gr.kp h (fun _ _ => True)) hc (fun _ _ _ _ => trivial)
theorem range_row {w : World} {p : Nat} {cs : List Value} {t : TypeId} (h : w.heap[p]? = some (.cells cs.toArray t (0, 0))) : w.rangeAt p 0 cs := by
  intro j v hv
  rw [Nat.zero_add, cell_of_row w p j cs.toArray t (0, 0) h]; simpa using hv
theorem cell_block {w : World} {b j : Nat} {cs : Array Value} {t : TypeId} {f : Nat × Nat} (hb : w.heap[b]? = some (.cells cs t f)) {v : Value} (hv : cs[j]? = some v) : w.cell? ⟨b, j, none⟩ = some v := by
  rw [cell_of_row w b j cs t f hb]; exact hv
theorem frozen_block {w : World} {b j : Nat} {cs : Array Value} {t : TypeId} (hb : w.heap[b]? = some (.cells cs t (0, 0))) : w.frozen? ⟨b, j, none⟩ = false := by
  simp [World.frozen?, hb]
theorem setCell_block {w : World} {b j : Nat} {cs : Array Value} {t : TypeId} {f : Nat × Nat} (hb : w.heap[b]? = some (.cells cs t f)) (v : Value) : (w.setCell ⟨b, j, none⟩ v).heap[b]? = some (.cells (cs.setIfInBounds j v) t f) := by
  obtain ⟨hlt, hk⟩ := Array.getElem?_eq_some_iff.1 hb
  simp only [World.setCell]
  rw [Array.getElem?_eq_getElem (by rw [Array.size_modify]; exact hlt), Array.getElem_modify_self, hk]
  rfl
theorem setCell_other {w : World} {b c j : Nat} (v : Value) (h : c ≠ b) : (w.setCell ⟨b, j, none⟩ v).heap[c]? = w.heap[c]? := Below.heap_setCell w _ v c h
theorem owns_slice {w : World} {base : Nat} {e : TypeId} {size : Nat} {v : Value} {n : Nat} {xs : List Value} (h : w.ownsRow base e size v n xs) : ∃ a c, v = .slice a n c := by
  rcases h.2 with ⟨rfl, rfl⟩ | ⟨g, cap, cur, rfl, _⟩
  · exact ⟨none, 0, rfl⟩
  · exact ⟨_, cap, rfl⟩
theorem owns_other {w w' : World} {base : Nat} {e : TypeId} {size : Nat} {v : Value} {n : Nat} {xs : List Value} (h : w.ownsRow base e size v n xs) (hk : ∀ k, v.ownBlock = some k → w'.heap[k]? = w.heap[k]?) : w'.ownsRow base e size v n xs := by
  refine ⟨h.1, ?_⟩
  rcases h.2 with h0 | ⟨g, cap, cur, rfl, hb, hh, r⟩
  · exact .inl h0
  · exact .inr ⟨g, cap, cur, rfl, hb, (hk g rfl).trans hh, r⟩
theorem alloc1_heap (w : World) (a : Obj) : (w.alloc a).heap[w.heap.size]? = some a := World.alloc_heap_new w a
theorem alloc2_heap0 (w : World) (a b : Obj) : ((w.alloc a).alloc b).heap[w.heap.size]? = some a := (Below.heap_alloc _ _ _ (by simp)).trans (alloc1_heap w a)
theorem alloc2_heap1 (w : World) (a b : Obj) : ((w.alloc a).alloc b).heap[w.heap.size + 1]? = some b := by
  have := alloc1_heap (w.alloc a) b; rwa [World.size_alloc] at this
theorem alloc3_heap0 (w : World) (a b c : Obj) : (((w.alloc a).alloc b).alloc c).heap[w.heap.size]? = some a := (Below.heap_alloc _ _ _ (by simp; omega)).trans (alloc2_heap0 w a b)
theorem alloc3_heap1 (w : World) (a b c : Obj) : (((w.alloc a).alloc b).alloc c).heap[w.heap.size + 1]? = some b := (Below.heap_alloc _ _ _ (by simp)).trans (alloc2_heap1 w a b)
theorem alloc3_heap2 (w : World) (a b c : Obj) : (((w.alloc a).alloc b).alloc c).heap[w.heap.size + 2]? = some c := by
  have := alloc1_heap ((w.alloc a).alloc b) c; rwa [World.size_alloc, World.size_alloc] at this
theorem heap_set_other {w : World} {b c j : Nat} {v : Value} {r : Option Obj} (h : w.heap[c]? = r) (hn : c ≠ b) : (w.setCell ⟨b, j, none⟩ v).heap[c]? = r := (setCell_other v hn).trans h
theorem results_cell {P : Program} {fn : Func} {t : Tmp} {ty : TypeId} (hr : fn.results = #[.cell t ty]) (hd : ∀ w, (isAgg ty).run P w = .ok false w)
    {tmps : Array Value} {b : Nat} {w : World} {v : Value} (ht : tmps.getD t undef = .pointer (some ⟨b, 0, none⟩)) (h : w.cell? ⟨b, 0, none⟩ = some v) :
    (results fn tmps).run P w = .ok v w := by
  have ht' : tmps[t]?.getD undef = .pointer (some ⟨b, 0, none⟩) := by simpa using ht
  simp only [results, hr]
  simp [ht', asAddr, loadVar, hd, h, go_sem]
end Go.Proofs.Ytbgcjbpkgijmeaa
