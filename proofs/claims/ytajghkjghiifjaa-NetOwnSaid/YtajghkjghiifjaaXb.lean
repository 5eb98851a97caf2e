/-
  What is left of the shape of messages in memory where terms and entries are written over.
-/
import Derived.Test.YtajghkjghiifjaaXa
namespace Go.Proofs.Ytajghkjghiifjaa
open Go Go.RowKit

/-- From A to B only messages' terms and entries have turned. -/
structure WW (A B : World) : Prop where
  size : A.heap.size ≤ B.heap.size
  keep : ∀ (q : Nat) (c : Array Value) (e : TypeId), A.heap[q]? = some (.cells c e (0, 0)) → ∃ c' : Array Value, B.heap[q]? = some (.cells c' e (0, 0)) ∧ c'.size = c.size ∧ (e ≠ 31 → e ≠ 53 → c' = c) ∧ (e = 31 → ∀ j, j % 15 ≠ 3 → c'[j]? = c[j]?)

theorem WW.gr {A B : World} (h : Gr A B) : WW A B := ⟨h.size, fun _ c _ hc => ⟨c, h.same hc, rfl, fun _ _ => rfl, fun _ _ _ => rfl⟩⟩
theorem WW.refl (A : World) : WW A A := WW.gr (Gr.refl A)
theorem WW.trans {A B C : World} (h : WW A B) (k : WW B C) : WW A C := by
  refine ⟨Nat.le_trans h.size k.size, fun q c e hc => ?_⟩
  obtain ⟨c1, h1, h2, h3, h4⟩ := h.keep q c e hc
  obtain ⟨c2, k1, k2, k3, k4⟩ := k.keep q c1 e h1
  exact ⟨c2, k1, k2.trans h2, fun n1 n2 => (k3 n1 n2).trans (h3 n1 n2), fun he j hj => (k4 he j hj).trans (h4 he j hj)⟩
theorem WW.term {W : World} {g i : Nat} {cur : Array Value} (hb : W.heap[g]? = some (.cells cur 31 (0, 0))) (v : Value) : WW W (W.setCell ⟨g, i * 15 + 3, none⟩ v) := by
  refine ⟨by simp [World.setCell], fun q c e hc => ?_⟩
  by_cases hq : q = g
  · subst hq
    rw [hb] at hc
    simp only [Option.some.injEq, Obj.cells.injEq, and_true] at hc
    obtain ⟨rfl, rfl⟩ := hc
    exact ⟨_, setCell_block hb v, by simp, fun n1 _ => absurd rfl n1, fun _ j hj => Array.getElem?_setIfInBounds_ne (by omega)⟩
  · exact ⟨c, (setCell_other v hq).trans hc, rfl, fun _ _ => rfl, fun _ _ _ => rfl⟩
theorem WW.entry {W : World} {g i : Nat} {cur : Array Value} (hb : W.heap[g]? = some (.cells cur 53 (0, 0))) (v : Value) : WW W (W.setCell ⟨g, i, none⟩ v) := by
  refine ⟨by simp [World.setCell], fun q c e hc => ?_⟩
  by_cases hq : q = g
  · subst hq
    rw [hb] at hc
    simp only [Option.some.injEq, Obj.cells.injEq, and_true] at hc
    obtain ⟨rfl, rfl⟩ := hc
    exact ⟨_, setCell_block hb v, by simp, fun _ n2 => absurd rfl n2, fun he => absurd he (by decide)⟩
  · exact ⟨c, (setCell_other v hq).trans hc, rfl, fun _ _ => rfl, fun _ _ _ => rfl⟩
theorem WW.plain {A B : World} (h : WW A B) {q : Nat} {c : Array Value} {e : TypeId} (hc : A.heap[q]? = some (.cells c e (0, 0))) (n1 : e ≠ 31) (n2 : e ≠ 53) : B.heap[q]? = some (.cells c e (0, 0)) := by
  obtain ⟨c', h1, _, h3, _⟩ := h.keep q c e hc
  rw [h1, h3 n1 n2]

/-- A slice of entries that may be written over. -/
def EntShape (D : Nat) (W : World) (v : Value) : Prop :=
  ∃ a n c, v = .slice a n c ∧ n ≤ 1000000 ∧ (n = 0 ∨ ∃ h cur, a = some ⟨h, 0, none⟩ ∧ D ≤ h ∧ W.heap[h]? = some (.cells cur 53 (0, 0)) ∧ n * 3 ≤ cur.size)
/-- A slice of messages that may be written over. -/
def MsgShape (D : Nat) (W : World) (v : Value) : Prop :=
  ∃ a n c, v = .slice a n c ∧ n ≤ 1000000 ∧ (n = 0 ∨ ∃ g cur, a = some ⟨g, 0, none⟩ ∧ D ≤ g ∧ W.heap[g]? = some (.cells cur 31 (0, 0)) ∧ n * 15 ≤ cur.size ∧ ∀ i, i < n → ∃ ev, cur[i * 15 + 9]? = some ev ∧ EntShape D W ev)
theorem EntShape.ww {D : Nat} {A B : World} {v : Value} (h : WW A B) (hs : EntShape D A v) : EntShape D B v := by
  obtain ⟨a, n, c, hv, hn, h0 | ⟨q, cur, ha, hD, hb, hc⟩⟩ := hs
  · exact ⟨a, n, c, hv, hn, .inl h0⟩
  · obtain ⟨c', k1, k2, _, _⟩ := h.keep _ _ _ hb
    exact ⟨a, n, c, hv, hn, .inr ⟨q, c', ha, hD, k1, by omega⟩⟩
theorem MsgShape.ww {D : Nat} {A B : World} {v : Value} (h : WW A B) (hs : MsgShape D A v) : MsgShape D B v := by
  obtain ⟨a, n, c, hv, hn, h0 | ⟨q, cur, ha, hD, hb, hc, hr⟩⟩ := hs
  · exact ⟨a, n, c, hv, hn, .inl h0⟩
  · obtain ⟨c', k1, k2, _, k4⟩ := h.keep _ _ _ hb
    refine ⟨a, n, c, hv, hn, .inr ⟨q, c', ha, hD, k1, by omega, fun i hi => ?_⟩⟩
    obtain ⟨ev, e1, e2⟩ := hr i hi
    exact ⟨ev, by rw [k4 rfl _ (by omega)]; exact e1, e2.ww h⟩
theorem EntShape.of {D : Nat} {W : World} {v : Value} {es : List Ent} (h : OwnEnts D W v es) (hn : es.length ≤ 1000000) : EntShape D W v := by
  rcases h.2 with ⟨rfl, h0⟩ | ⟨g, cap, cur, rfl, hb, hh, _, _, hs, _⟩
  · exact ⟨none, 0, 0, rfl, by omega, .inl rfl⟩
  · exact ⟨_, _, _, rfl, hn, .inr ⟨g, cur, rfl, hb, hh, by omega⟩⟩
theorem MsgShape.of {D : Nat} {W : World} {v : Value} {ms : List Msg} (h : OwnMsgs D W v ms) (hn : Small ms) : MsgShape D W v := by
  obtain ⟨evs, h1, h2, h3⟩ := h
  rcases h2.2 with ⟨rfl, h0⟩ | ⟨g, cap, cur, rfl, hb, hh, _, _, hs, ht⟩
  · exact ⟨none, 0, 0, rfl, by omega, .inl rfl⟩
  · refine ⟨_, _, _, rfl, hn.1, .inr ⟨g, cur, rfl, hb, hh, by omega, fun i hi => ?_⟩⟩
    obtain ⟨ev, hev⟩ : ∃ ev, evs[i]? = some ev := ⟨_, List.getElem?_eq_getElem (by omega)⟩
    have hm := List.getElem?_eq_getElem hi
    refine ⟨ev, ?_, EntShape.of (h3 i _ ev hm hev) (hn.2 _ (List.getElem_mem hi))⟩
    have := flatten_at _ (zip_len ms evs) i _ (by rw [List.getElem?_zipWith, hm, hev]) 9 ev (msg_9 _ _)
    rw [← ht, List.getElem?_take_of_lt (by omega), Array.getElem?_toList] at this
    exact this
/-- The i-th message of such a slice: its term's cell, its entries. -/
theorem MsgShape.at {D : Nat} {W : World} {a : Option Addr} {n c : Nat} (hs : MsgShape D W (.slice a n c)) {i : Nat} (hi : i < n) :
    ∃ g cur u, a = some ⟨g, 0, none⟩ ∧ D ≤ g ∧ g < W.heap.size ∧ W.heap[g]? = some (.cells cur 31 (0, 0)) ∧ W.cell? ⟨g, i * 15 + 3, none⟩ = some u ∧ W.frozen? ⟨g, i * 15 + 3, none⟩ = false ∧
      ∃ ea el ec, W.cell? ⟨g, i * 15 + 9, none⟩ = some (.slice ea el ec) ∧ EntShape D W (.slice ea el ec) := by
  obtain ⟨a', n', c', hv, hn, h0 | ⟨g, cur, ha, hD, hb, hc, hr⟩⟩ := hs
  · simp only [Value.slice.injEq] at hv; omega
  · simp only [Value.slice.injEq] at hv
    obtain ⟨rfl, rfl, rfl⟩ := hv
    obtain ⟨ev, e1, e2⟩ := hr i hi
    obtain ⟨ea, el, ec, rfl, _⟩ := id e2
    refine ⟨g, cur, cur[i * 15 + 3]'(by omega), ha, hD, (Array.getElem?_eq_some_iff.1 hb).1, hb, cell_block hb (Array.getElem?_eq_getElem (by omega)), frozen_block hb, ea, el, ec, cell_block hb e1, e2⟩
theorem EntShape.at {D : Nat} {W : World} {a : Option Addr} {n c : Nat} (hs : EntShape D W (.slice a n c)) {k : Nat} (hk : k < n) :
    ∃ g cur u, a = some ⟨g, 0, none⟩ ∧ D ≤ g ∧ g < W.heap.size ∧ W.heap[g]? = some (.cells cur 53 (0, 0)) ∧ W.cell? ⟨g, k * 3 + 2, none⟩ = some u ∧ W.frozen? ⟨g, k * 3 + 2, none⟩ = false := by
  obtain ⟨a', n', c', hv, hn, h0 | ⟨g, cur, ha, hD, hb, hc⟩⟩ := hs
  · simp only [Value.slice.injEq] at hv; omega
  · simp only [Value.slice.injEq] at hv
    obtain ⟨rfl, rfl, rfl⟩ := hv
    exact ⟨g, cur, cur[k * 3 + 2]'(by omega), ha, hD, (Array.getElem?_eq_some_iff.1 hb).1, hb, cell_block hb (Array.getElem?_eq_getElem (by omega)), frozen_block hb⟩
theorem EntShape.max {D : Nat} {W : World} {a : Option Addr} {n c : Nat} (hs : EntShape D W (.slice a n c)) : n ≤ 1000000 := by
  obtain ⟨a', n', c', hv, hn, _⟩ := hs
  simp only [Value.slice.injEq] at hv
  omega
theorem MsgShape.max {D : Nat} {W : World} {a : Option Addr} {n c : Nat} (hs : MsgShape D W (.slice a n c)) : n ≤ 1000000 := by
  obtain ⟨a', n', c', hv, hn, _⟩ := hs
  simp only [Value.slice.injEq] at hv
  omega
/-- Nets whose messages may be written over. -/
def NetShape (D : Nat) (W : World) (c0 c1 c2 : Value) : Prop := ∃ a n c s l, c0 = .slice a n c ∧ c1 = .int .i64 s ∧ c2 = .int .i64 l ∧ MsgShape D W (.slice a n c)

/-! Few messages stay few. -/
def Few (ms : List Msg) : Prop := ms.length ≤ 100 ∧ ∀ m ∈ ms, m.ents.length ≤ 20
theorem Few.small {ms : List Msg} (h : Few ms) : Small ms := ⟨by have := h.1; omega, fun m hm => by have := h.2 m hm; omega⟩
theorem Few.of {ms : List Msg} (h : Fit ms) : Few ms := ⟨by have := h.1; omega, fun m hm => by have := h.2 m hm; omega⟩
theorem push_few {n : Net} (h : Fit n.msgs) {m : Msg} (hm : m.ents.length ≤ 20) : Few (pushNet n [m]).msgs := by
  have e : (pushNet n [m]).msgs = n.msgs ++ [m].take (room n [m]) := rfl
  rw [e]
  refine ⟨?_, fun x hx => ?_⟩
  · rw [List.length_append, List.length_take]
    have := h.1
    simp only [List.length_singleton]
    omega
  · rcases List.mem_append.1 hx with hx | hx
    · exact h.2 x hx
    · have := List.mem_of_mem_take hx
      rw [List.mem_singleton.1 this]; exact hm
theorem erase_few {ms : List Msg} (h : Fit ms) (k : Nat) : Few (ms.eraseIdx k) := ⟨Nat.le_trans (List.eraseIdx_sublist ms k).length_le (by have := h.1; omega), fun x hx => h.2 x ((List.eraseIdx_sublist ms k).subset hx)⟩
theorem pull_few {n : Net} (h : Fit n.msgs) (at' : Int) : Few (pullNet n at').msgs := erase_few h _
theorem lose_few {n : Net} (h : Fit n.msgs) (at' : Int) : Few (loseNet n at').msgs := erase_few h _
theorem cut_few {n : Net} (h : Fit n.msgs) (id : Int) : Few (cutNet n id).msgs :=
  ⟨Nat.le_trans (List.length_filter_le _ _) (by have := h.1; omega), fun x hx => h.2 x (List.mem_filter.1 hx).1⟩
theorem pulled_few {n : Net} (h : Fit n.msgs) (at' : Int) : (pullMsg n at').ents.length ≤ 20 := by
  by_cases h0 : n.msgs.length = 0
  · have hn : n.msgs = [] := List.eq_nil_of_length_eq_zero h0
    have : pullMsg n at' = Msg.zero := by unfold pullMsg; rw [hn]; rfl
    rw [this]; decide
  · exact h.2 _ (pullMsg_mem h0 at')
theorem again_few {n : Net} (h : Fit n.msgs) (at' : Int) : Few (againNet n at').msgs := by
  by_cases h0 : 60 ≤ n.msgs.length ∨ n.msgs.length = 0
  · have : againNet n at' = n := if_pos h0
    rw [this]; exact Few.of h
  · have : againNet n at' = pushNet n [pullMsg n at'] := if_neg h0
    rw [this]; exact push_few h (pulled_few h at')
end Go.Proofs.Ytajghkjghiifjaa
