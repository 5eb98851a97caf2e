/-
  Walks: nets that are too great; messages and nets of one's own, as the document has it.
-/
import Derived.Test.YtajghkjghiifjaaWi
namespace Go.Proofs.Ytajghkjghiifjaa
open Go Go.RowKit
attribute [local go_sem ↓] opLoad31_eq opStore31_eq
attribute [local go_sem] opLoad31 opStore31 rowAt_alloc_at rowAt_alloc_past rowAt_drew wholeAt_alloc_at wholeAt_alloc_past wholeAt_drew setRow_alloc_at setRow_alloc_past msg_0 msg_1 msg_2 msg_3 msg_9 msg_g0 msg_g1 msg_g2 msg_g3 msg_g9 msg_set9 msg_set3 msg_size msgCells_length msg_one_slice gr_alloc' gr_drew' gr_drewN'

/-- Not too great to be asked. -/
def Fit (ms : List Msg) : Prop := ms.length ≤ 70 ∧ ∀ m ∈ ms, m.ents.length ≤ 20
theorem Fit.small {ms : List Msg} (h : Fit ms) : Small ms := ⟨by have := h.1; omega, fun m hm => by have := h.2 m hm; omega⟩
def GreatPost (ms : List Msg) (w : World) (e : Ending) (w' : World) : Prop := ∃ r : Bool, e = .returned (.bool r) ∧ (r = false → Fit ms) ∧ Gr w w'
def upTo (ms : List Msg) (j : Nat) : Prop := ∀ i m, i < j → ms[i]? = some m → m.ents.length ≤ 20
theorem upTo_step {ms : List Msg} {j : Nat} {m : Msg} (h : upTo ms j) (hm : ms[j]? = some m) (hl : m.ents.length ≤ 20) : upTo ms (j + 1) := by
  intro i m' hi hm'
  by_cases e : i = j
  · subst e; rw [hm] at hm'; cases hm'; exact hl
  · exact h i m' (by omega) hm'
theorem upTo_fit {ms : List Msg} {j : Nat} (h : upTo ms j) (hj : ms.length ≤ j) (hl : ms.length ≤ 70) : Fit ms := by
  refine ⟨hl, fun m hm => ?_⟩
  obtain ⟨i, hi, rfl⟩ := List.mem_iff_getElem.1 hm
  exact h i _ (by omega) (List.getElem?_eq_getElem hi)

set_option maxRecDepth 100000 in
set_option maxHeartbeats 1000000 in
theorem great_some (w : World) (S : Nat → Prop) (b o c n : Nat) (s l : Value) (xs : List Msg) (hn : xs.length = n) (hmax : n ≤ maxLen)
    (hx : ∀ (i : Nat) (m : Msg), xs[i]? = some m → ∃ ev, w.rangeAt b (o + i * 15) (msgCells m ev) ∧ IsEnts S w ev m.ents) :
    Calls Try.prog 13 #[.agg #[.slice (some ⟨b, o, none⟩) n c, s, l]] w (GreatPost xs w) := by
  unfold maxLen at hmax
  have HX := Lib.hid hx
  have HN := Lib.hid hn
  clear hx hn
  go_enter Try.func13, Try.ntmps13
  go_wp2
  go_loop [3] (fun k => ∃ j : Nat, k = .int .i64 j ∧ j ≤ n ∧ j ≤ 71 ∧ upTo xs j) (fun k => 71 - (intOf k).toNat)
  case atStart => exact ⟨0, rfl, by omega, by omega, fun i m hi => by omega⟩
  case round =>
    obtain ⟨j, rfl, hj, hj71, hup⟩ := hrel
    have HU := Lib.hid hup
    clear hup
    by_cases hlt : j < n
    · obtain ⟨x, hxj⟩ : ∃ x, xs[j]? = some x := ⟨xs[j]'(by rw [HN.out]; exact hlt), List.getElem?_eq_getElem _⟩
      obtain ⟨ev, rx, ex⟩ := HX.out j x hxj
      obtain ⟨a1, k1, rfl, hk1, hk2⟩ := ex.len
      unfold maxLen at hk2
      have hc := later_cell (Gr.alloc (Gr.refl w) (.cells #[.slice (some ⟨b, o, none⟩) n c, s, l] 26)) (rx 9 _ rfl)
      have HXJ := Lib.hid hxj
      clear hxj rx ex
      by_cases h70 : j ≤ 70
      · by_cases h20 : x.ents.length ≤ 20
        · go_wp2
          go_round
          case rel => exact ⟨j + 1, by go_num, by omega, by omega, upTo_step HU.out HXJ.out h20⟩
          case measure => simp [intOf]; omega
        · go_wp2
          go_ret
          exact ⟨true, rfl, by simp, Gr.alloc (Gr.refl w) _⟩
      · go_wp2
        go_ret
        exact ⟨_, rfl, by intro hf; exfalso; simp at hf; omega, Gr.alloc (Gr.refl w) _⟩
    · go_wp2
      go_ret
      exact ⟨_, rfl, by intro hf; simp at hf; exact upTo_fit HU.out (by rw [HN.out]; omega) (by rw [HN.out]; omega), Gr.alloc (Gr.refl w) _⟩

set_option maxRecDepth 100000 in
set_option maxHeartbeats 1000000 in
theorem great_none (w : World) (a : Option Addr) (c : Nat) (s l : Value) :
    Calls Try.prog 13 #[.agg #[.slice a 0 c, s, l]] w (GreatPost [] w) := by
  go_enter Try.func13, Try.ntmps13
  go_wp2
  go_loop [3] (fun k => k = .int .i64 0) (fun _ => 0)
  case atStart => rfl
  case round =>
    subst hrel
    go_wp2
    go_ret
    exact ⟨_, rfl, fun _ => ⟨by simp, by simp⟩, Gr.alloc (Gr.refl w) _⟩
theorem great_any (w : World) (S : Nat → Prop) (v s l : Value) (ms : List Msg) (h : IsMsgs S w v ms) : Calls Try.prog 13 #[.agg #[v, s, l]] w (GreatPost ms w) := by
  by_cases h0 : 0 < ms.length
  · obtain ⟨b, o, c, hv, h1, h2, _, hx⟩ := h.some h0
    rw [hv]
    exact great_some w S b o c _ s l ms rfl (by omega) hx
  · have e1 : ms = [] := List.eq_nil_of_length_eq_zero (by omega)
    subst e1
    obtain ⟨a, c, rfl, _, _⟩ := h.len
    exact great_none w a c s l

/-- A message of one's own. -/
def OwnPost (m : Msg) (w : World) (e : Ending) (w' : World) : Prop := ∃ fv, e = .returned (msgV m fv) ∧ Gr w w' ∧ OwnEnts w.heap.size w' fv m.ents

set_option maxRecDepth 100000 in
set_option maxHeartbeats 1000000 in
theorem own_some (w : World) (ad : Addr) (len cap : Nat) (m : Msg) (hlen : len = m.ents.length) (hl : len ≤ 1000000) (hr : ∀ W, Gr w W → ∀ j u, (m.ents.map entCells).flatten[j]? = some u → W.cell? (ad.add j) = some u) :
    Calls Try.prog 30 #[.agg (msgCells m (.slice (some ad) len cap)).toArray] w (OwnPost m w) := by
  obtain ⟨i0, hi, hz0, hz1, hz2⟩ := info_parts Try.info53
  have HL := Lib.hid hlen
  have HR := Lib.hid hr
  clear hlen hr
  go_enter Try.func30, Try.ntmps30
  go_wp2_with (at_builtin; go_loud (refine wpList_append_own_at _ rfl _ _ 27 rfl w.heap.size 53 i0 _ 3 24 Try.underlying27 hi hz0 hz1 hz2 rfl (by decide) _ 0 [] rfl ?hrow ad len cap (m.ents.map entCells).flatten rfl ?c0 ?c1 ?c2 ?c3 ?c4 ?c5 ?_))
  case hrow => exact owns_empty 53 3 (by simp) (by simp only [World.size_alloc]; omega)
  case c0 => rw [ents_flat_length, HL.out]
  case c1 => exact HR.out _ (Gr.alloc (Gr.alloc (Gr.alloc (Gr.refl w) _) _) _)
  case c2 => exact ents_flat_one _
  case c3 => unfold maxLen; omega
  case c4 => omega
  case c5 => simp only [World.size_alloc]; omega
  intro v' w1 hown hgrow _ hblk
  have hb1 := (hgrow.block w.heap.size (by simp; omega) (by simp [Value.ownBlock]; omega)).trans (alloc3_heap0 _ _ _ _)
  have hb2 := (hgrow.block (w.heap.size + 1) (by simp) (by simp [Value.ownBlock])).trans (alloc3_heap1 _ _ _ _)
  have hG : Gr w w1 := Below.grown (Gr.alloc (Gr.alloc (Gr.alloc (Gr.refl w) _) _) _) hgrow (by simp; omega) (by intro k hk; simp [Value.ownBlock] at hk; omega)
  have hne : ∀ k, v'.ownBlock = some k → k ≠ w.heap.size ∧ k ≠ w.heap.size + 1 := by
    intro k hk
    rcases hblk with h | h
    · rw [hk] at h; simp [Value.ownBlock] at h; omega
    · rw [hk] at h; simp at h; omega
  obtain ⟨a', c', rfl⟩ := owns_slice hown
  clear hgrow hblk
  have hc9 := cell_block hb1 (j := 9) (v := .slice (some ad) len cap) rfl
  have hf9 := frozen_block hb1 (j := 9)
  have hb1' := setCell_block hb1 (j := 9) (.slice a' len c')
  have hb2' := (setCell_other (w := w1) (b := w.heap.size) (j := 9) (.slice a' len c') (c := w.heap.size + 1) (by omega)).trans hb2
  have r1 : rowAt (w1.setCell ⟨w.heap.size, 9, none⟩ (.slice a' len c')) w.heap.size 0 15 = some (msgCells m (.slice a' len c')).toArray := rowAt_block hb1' rfl
  have r2 : wholeAt (w1.setCell ⟨w.heap.size, 9, none⟩ (.slice a' len c')) (w.heap.size + 1) = some 15 := wholeAt_block hb2'
  have HB2 := Lib.hid hb2'
  have HO := Lib.hid hown
  have HNE := Lib.hid hne
  have HG := Lib.hid hG
  clear hb1 hb2 hb1' hb2' hown hne hG
  go_wp2
  refine bodyPost_ret (v := msgV m (.slice a' len c')) (results_row rfl Try.underlying31 rfl info31 rfl (rowAt_block (setRow_heap _ _ _ _ _ _ HB2.out) rfl)) rfl ⟨_, rfl, ?_, ?_⟩
  · exact gr_setRow (Gr.set HG.out (by simp) _) _ (by simp) _
  · unfold OwnEnts
    rw [← HL.out]
    refine owns_other HO.out fun k hk => ?_
    obtain ⟨n1, n2⟩ := HNE.out k hk
    rw [setRow_other _ _ _ _ n2, setCell_other _ n1]

set_option maxRecDepth 100000 in
set_option maxHeartbeats 1000000 in
theorem own_none (w : World) (c : Nat) (m : Msg) (hl : m.ents = []) : Calls Try.prog 30 #[.agg (msgCells m (.slice none 0 c)).toArray] w (OwnPost m w) := by
  have HL := Lib.hid hl
  clear hl
  go_enter Try.func30, Try.ntmps30
  go_wp2
  refine bodyPost_ret (v := msgV m (.slice (some ⟨w.heap.size + 1 + 1, 0, none⟩) 0 0)) (results_row rfl Try.underlying31 rfl info31 rfl (rowAt_block (alloc3_heap1 _ _ _ _) rfl)) rfl ⟨_, rfl, ?_, ?_⟩
  · exact Gr.alloc (Gr.alloc (Gr.alloc (Gr.refl w) _) _) _
  · unfold OwnEnts
    rw [HL.out]
    exact owns_empty 53 3 (by simp) (by simp only [World.size_alloc]; omega)

/-- own: a message with entries of its own. -/
theorem own_any (w : World) (S : Nat → Prop) (m : Msg) (ev : Value) (h : IsEnts S w ev m.ents) (hl : m.ents.length ≤ 1000000) : Calls Try.prog 30 #[msgV m ev] w (OwnPost m w) := by
  rcases h.2 with ⟨⟨a, c, rfl, _⟩, h0⟩ | ⟨b, off, cap, rfl, h1, h2, h3, h4⟩
  · have h0' : m.ents = [] := by simpa using h0
    cases a with
    | none => exact own_none w c m h0'
    | some ad => exact own_some w ad 0 c m (by rw [h0']; rfl) (by omega) (fun W _ j u hu => by rw [h0'] at hu; simp at hu)
  · exact own_some w ⟨b, off, none⟩ _ cap m (by simp) (by simpa using hl) (fun W hg => add_cells (later_range hg h4))
end Go.Proofs.Ytajghkjghiifjaa
