/-
  Walks: the law of pushing and pulling: what it needs of memory.
-/
import Derived.Test.YtajghkjghiifjaaRa
namespace Go.Proofs.Ytajghkjghiifjaa
open Go Go.RowKit

theorem SL.same {A B : World} {S : Nat → Prop} {size : Nat} {v : Value} {els : List (List Value)} (hs : SL S A size v els) (hk : ∀ q, S q → B.heap[q]? = A.heap[q]?) : SL S B size v els := by
  refine ⟨hs.1, ?_⟩
  rcases hs.2 with h0 | ⟨b, off, cap, hv, h1, h2, h3, h4⟩
  · exact .inl h0
  · exact .inr ⟨b, off, cap, hv, h1, h2, h3, fun j u hu => (World.cell?_of_block (hk b h3)).trans (h4 j u hu)⟩
theorem owns_far {w w' : World} {base : Nat} {e : TypeId} {size : Nat} {v : Value} {n : Nat} {xs : List Value} (h : w.ownsRow base e size v n xs)
    (hk : ∀ q cur, base ≤ q → w.heap[q]? = some (.cells cur e (0, 0)) → w'.heap[q]? = w.heap[q]?) : w'.ownsRow base e size v n xs := by
  refine ⟨h.1, ?_⟩
  rcases h.2 with h0 | ⟨g, cap, cur, hv, hb, hh, r⟩
  · exact .inl h0
  · exact .inr ⟨g, cap, cur, hv, hb, (hk g cur hb hh).trans hh, r⟩
theorem OwnMsgs.far {base : Nat} {w w' : World} {v : Value} {ms : List Msg} (h : OwnMsgs base w v ms)
    (hk : ∀ q cur e, (e = 31 ∨ e = 53) → base ≤ q → w.heap[q]? = some (.cells cur e (0, 0)) → w'.heap[q]? = w.heap[q]?) : OwnMsgs base w' v ms := by
  obtain ⟨evs, h1, h2, h3⟩ := h
  exact ⟨evs, h1, owns_far h2 fun q cur => hk q cur 31 (.inl rfl), fun i m ev hm he => owns_far (h3 i m ev hm he) fun q cur => hk q cur 53 (.inr rfl)⟩

/-- Messages in a row of the call's own, each one's entries where they lay before w. -/
def LeftAt (w : World) (base : Nat) (W : World) (v : Value) (ms : List Msg) : Prop :=
  ∃ evs : List Value, evs.length = ms.length ∧ W.ownsRow base 31 15 v ms.length (List.zipWith msgCells ms evs).flatten ∧ ∀ (i : Nat) (m : Msg) (ev : Value), ms[i]? = some m → evs[i]? = some ev → IsEnts (· < w.heap.size) W ev m.ents
theorem LeftAt.far {w W W' : World} {base : Nat} {v : Value} {ms : List Msg} (h : LeftAt w base W v ms) (hw : ∀ q, q < w.heap.size → W'.heap[q]? = W.heap[q]?)
    (hk : ∀ q cur, base ≤ q → W.heap[q]? = some (.cells cur 31 (0, 0)) → W'.heap[q]? = W.heap[q]?) : LeftAt w base W' v ms := by
  obtain ⟨evs, h1, h2, h3⟩ := h
  exact ⟨evs, h1, owns_far h2 hk, fun i m ev hm he => SL.same (h3 i m ev hm he) hw⟩
theorem LeftAt.gr {w A B : World} {base : Nat} {v : Value} {ms : List Msg} (hg : Gr A B) (h : LeftAt w base A v ms) : LeftAt w base B v ms := by
  obtain ⟨evs, h1, h2, h3⟩ := h
  exact ⟨evs, h1, ownsRow_dat (Gr.kp hg _) h2, fun i m ev hm he => IsEnts.gr hg (h3 i m ev hm he)⟩
theorem LeftAt.inn {w W : World} {base : Nat} {v : Value} {ms : List Msg} (h : LeftAt w base W v ms) (hw : w.heap.size ≤ W.heap.size) : InMsgs W v ms := by
  obtain ⟨evs, h1, h2, h3⟩ := h
  exact RowMsgs.inn ⟨evs, h1, h2, fun i m ev hm he => SL.mono (h3 i m ev hm he) fun q hq => Nat.lt_of_lt_of_le hq hw⟩
/-- A net at home in block b, its messages the call's own. -/
def Home (b base : Nat) (n : Net) (w : World) : Prop :=
  ∃ (a : Option Addr) (c : Nat), w.heap[b]? = some (.cells #[.slice a n.msgs.length c, .int .i64 n.sent, .int .i64 n.lost] 26 (0, 0)) ∧ OwnMsgs base w (.slice a n.msgs.length c) n.msgs
theorem Home.gr {b base : Nat} {n : Net} {A B : World} (h : Gr A B) (ha : Home b base n A) : Home b base n B := by
  obtain ⟨a, c, h1, h2⟩ := ha
  exact ⟨a, c, h.same h1, h2.gr h⟩
theorem type26 {w3 : World} {b q : Nat} {x0 x1 x2 : Value} {cur : Array Value} {e : TypeId} (hB : w3.heap[b]? = some (.cells #[x0, x1, x2] 26 (0, 0))) (he : e = 31 ∨ e = 53) (hq : w3.heap[q]? = some (.cells cur e (0, 0))) : q ≠ b := by
  rintro rfl
  rw [hB] at hq
  simp only [Option.some.injEq, Obj.cells.injEq] at hq
  rcases he with rfl | rfl
  · exact absurd hq.2.1 (by decide)
  · exact absurd hq.2.1 (by decide)
/-- The block is written anew: the net, and the messages that are left. -/
theorem Home.fill {w w0 w3 : World} {b : Nat} {n : Net} {x0 x1 x2 : Value} {a : Option Addr} {c : Nat} {lv : Value} {ls : List Msg} (hB : w3.heap[b]? = some (.cells #[x0, x1, x2] 26 (0, 0)))
    (ho : OwnMsgs w.heap.size w3 (.slice a n.msgs.length c) n.msgs) (hl : LeftAt w w.heap.size w3 lv ls) (hD : w0.heap.size ≤ b) (hwb : w.heap.size ≤ b) (hg : Gr w0 w3) :
    Home b w.heap.size n (((w3.setCell ⟨b, 0, none⟩ (.slice a n.msgs.length c)).setCell ⟨b, 1, none⟩ (.int .i64 n.sent)).setCell ⟨b, 2, none⟩ (.int .i64 n.lost)) ∧
    LeftAt w w.heap.size (((w3.setCell ⟨b, 0, none⟩ (.slice a n.msgs.length c)).setCell ⟨b, 1, none⟩ (.int .i64 n.sent)).setCell ⟨b, 2, none⟩ (.int .i64 n.lost)) lv ls ∧
    Gr w0 (((w3.setCell ⟨b, 0, none⟩ (.slice a n.msgs.length c)).setCell ⟨b, 1, none⟩ (.int .i64 n.sent)).setCell ⟨b, 2, none⟩ (.int .i64 n.lost)) := by
  have hfar : ∀ q, q ≠ b → (((w3.setCell ⟨b, 0, none⟩ (.slice a n.msgs.length c)).setCell ⟨b, 1, none⟩ (.int .i64 n.sent)).setCell ⟨b, 2, none⟩ (.int .i64 n.lost)).heap[q]? = w3.heap[q]? := fun q hq => by
    rw [setCell_other _ hq, setCell_other _ hq, setCell_other _ hq]
  refine ⟨⟨a, c, net_filled hB _ _ _, ho.far fun q cur e he _ hh => hfar q (type26 hB he hh)⟩, hl.far (fun q hq => hfar q (by omega)) (fun q cur _ hh => hfar q (type26 hB (.inl rfl) hh)), Gr.set (Gr.set (Gr.set hg hD _) hD _) hD _⟩

theorem once_push (l : List Msg) (h : l.length ≤ 30) : ∃ s, pushNet ⟨[], 0, 0⟩ l = ⟨l, s, 0⟩ := by
  have hr : room ⟨[], 0, 0⟩ l = l.length := by show min (60 - 0) l.length = l.length; omega
  refine ⟨wrap64 (0 + l.length), ?_⟩
  unfold pushNet
  rw [hr, if_neg (by omega)]
  simp
theorem once_err (l : List Msg) (h : l.length ≤ 30) : pushErr ⟨[], 0, 0⟩ l = 0 := by
  have hr : room ⟨[], 0, 0⟩ l = l.length := by show min (60 - 0) l.length = l.length; omega
  unfold pushErr
  rw [hr, if_neg (by omega)]
theorem LeftAt.row {w W : World} {base : Nat} {v : Value} {ms : List Msg} (h : LeftAt w base W v ms) (h0 : 0 < ms.length) :
    ∃ g cap evs, v = .slice (some ⟨g, 0, none⟩) ms.length cap ∧ ms.length ≤ cap ∧ cap ≤ maxLen ∧ base ≤ g ∧ g < W.heap.size ∧ evs.length = ms.length ∧
      (∀ (j : Nat) (u : Value), (List.zipWith msgCells ms evs).flatten[j]? = some u → W.cell? ⟨g, j, none⟩ = some u) ∧
      (∀ (i : Nat) (m : Msg) (ev : Value), ms[i]? = some m → evs[i]? = some ev → W.rangeAt g (i * 15) (msgCells m ev) ∧ IsEnts (· < w.heap.size) W ev m.ents) ∧ ∀ u ∈ (List.zipWith msgCells ms evs).flatten, u.oneCell' = true := by
  obtain ⟨evs, h1, h2, h3⟩ := h
  rcases h2.2 with ⟨_, h⟩ | ⟨g, cap, cur, rfl, hb, hh, hn, hc, hs, ht⟩
  · omega
  have hcell : ∀ (j : Nat) (u : Value), (List.zipWith msgCells ms evs).flatten[j]? = some u → W.cell? ⟨g, j, none⟩ = some u := fun j u hu => by
    rw [← ht] at hu
    have hj : j < ms.length * 15 := by have := (List.getElem?_eq_some_iff.1 hu).1; rw [List.length_take] at this; omega
    rw [List.getElem?_take_of_lt hj, Array.getElem?_toList] at hu
    exact cell_block hh hu
  refine ⟨g, cap, evs, rfl, hn, hc, hb, (Array.getElem?_eq_some_iff.1 hh).1, h1, hcell, fun i m ev hm he => ⟨fun j u hu => ?_, h3 i m ev hm he⟩, ?_⟩
  · exact hcell _ _ (flatten_at _ (zip_len _ _) i _ (by rw [List.getElem?_zipWith, hm, he]) j u hu)
  · intro u hu
    obtain ⟨l, hl, hul⟩ := List.mem_flatten.1 hu
    obtain ⟨i, hi, rfl⟩ := List.mem_iff_getElem.1 hl
    rw [List.getElem_zipWith] at hul
    have hi' : i < ms.length := by simp at hi; omega
    obtain ⟨ea, ec, hev, _, _⟩ := (h3 i _ _ (List.getElem?_eq_getElem hi') (List.getElem?_eq_getElem (by omega))).len
    exact msgCells_one _ _ (by rw [hev]; rfl) u hul
/-- What is left of a row, written behind what is ahead. -/
theorem left_erase {w w3 : World} {base k n : Nat} {v : Value} {ms : List Msg} {evs : List Value} (h1 : evs.length = ms.length) (hk : k < ms.length) (hn : n = ms.length - 1)
    (h2 : w3.ownsRow base 31 15 v n ((List.zipWith msgCells ms evs).flatten.take (k * 15) ++ (List.zipWith msgCells ms evs).flatten.drop ((k + 1) * 15)))
    (h3 : ∀ (i : Nat) (m : Msg) (ev : Value), ms[i]? = some m → evs[i]? = some ev → IsEnts (· < w.heap.size) w3 ev m.ents) : LeftAt w base w3 v (ms.eraseIdx k) := by
  have hl : (ms.eraseIdx k).length = n := by rw [List.length_eraseIdx, if_pos hk, hn]
  refine ⟨evs.eraseIdx k, by rw [List.length_eraseIdx, if_pos (by omega), hl, h1, hn], ?_, fun i m ev hm he => ?_⟩
  · rw [hl, zip_erase _ _ h1, List.eraseIdx_eq_take_drop_succ, List.flatten_append, ← flat_take _ (zip_len _ _), ← flat_drop _ (zip_len _ _)]
    exact h2
  · by_cases hik : i < k
    · rw [List.getElem?_eraseIdx_of_lt hik] at hm he
      exact h3 i m ev hm he
    · rw [List.getElem?_eraseIdx_of_ge (by omega)] at hm he
      exact h3 _ m ev hm he
end Go.Proofs.Ytajghkjghiifjaa
