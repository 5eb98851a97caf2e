/-
  Walks: a net of one's own, as the document has it.
-/
import Derived.Test.YtajghkjghiifjaaRq
namespace Go.Proofs.Ytajghkjghiifjaa
open Go Go.RowKit
attribute [local go_sem ↓] opLoad31_eq opStore31_eq opRow1_eq
attribute [local go_sem] msgV opLoad31 opStore31 opRow1_msg rowAt_alloc_at rowAt_alloc_past rowAt_drew wholeAt_alloc_at wholeAt_alloc_past wholeAt_drew setRow_alloc_at setRow_alloc_past msg_0 msg_1 msg_2 msg_3 msg_9 msg_g0 msg_g1 msg_g2 msg_g3 msg_g9 msg_set9 msg_set3 msg_size msgCells_length msg_one_slice gr_alloc' gr_drew' gr_drewN'

theorem Try.info31 : (Try.prog.info? 31).map (fun i => (i.zero, i.size, i.bytes)) = some (some (.agg #[.int .u8 0, .int .i64 0, .int .i64 0, .int .i64 0, .int .i64 0, .int .i64 0, .int .i64 0, .int .i64 0, .bool false, .slice none 0 0, .int .i64 0, .int .i64 0, .int .i64 0, .int .i64 0, .bool false]), 15, 136) := by kernel_rfl

theorem info26 : (Try.prog.info? 26).map (·.size) = some 3 := by kernel_rfl
theorem net_filled {w : World} {b : Nat} {x0 x1 x2 : Value} {t : TypeId} (hb : w.heap[b]? = some (.cells #[x0, x1, x2] t (0, 0))) (y0 y1 y2 : Value) :
    (((w.setCell ⟨b, 0, none⟩ y0).setCell ⟨b, 1, none⟩ y1).setCell ⟨b, 2, none⟩ y2).heap[b]? = some (.cells #[y0, y1, y2] t (0, 0)) :=
  setCell_block (setCell_block (setCell_block hb y0) y1) y2
theorem heap_set_other {w : World} {b c j : Nat} {v : Value} {r : Option Obj} (h : w.heap[c]? = r) (hn : c ≠ b) : (w.setCell ⟨b, j, none⟩ v).heap[c]? = r := (setCell_other v hn).trans h

/-- A net of one's own. -/
def OwnNetPost (n : Net) (w : World) (e : Ending) (w' : World) : Prop := ∃ v, e = .returned (netV n v) ∧ Gr w w' ∧ OwnMsgs w.heap.size w' v n.msgs

set_option maxRecDepth 100000 in
set_option maxHeartbeats 1000000 in
theorem own27_some (w : World) (S : Nat → Prop) (b o c n : Nat) (s l : Int) (xs : List Msg) (hn : xs.length = n) (hmax : n ≤ 1000000) (hs : ∀ m ∈ xs, m.ents.length ≤ 1000000)
    (hx : ∀ (i : Nat) (m : Msg), xs[i]? = some m → ∃ ev, w.rangeAt b (o + i * 15) (msgCells m ev) ∧ IsEnts S w ev m.ents) :
    Calls Try.prog 18 #[.agg #[.slice (some ⟨b, o, none⟩) n c, .int .i64 s, .int .i64 l]] w (OwnNetPost ⟨xs, s, l⟩ w) := by
  obtain ⟨i0, hi, hz0, hz1, hz2⟩ := info_parts Try.info31
  have HX := Lib.hid hx
  have HN := Lib.hid hn
  have HS := Lib.hid hs
  clear hx hn hs
  go_enter Try.func18, Try.ntmps18
  go_wp2
  have hA := alloc2_heap0 w (.cells #[.slice (some ⟨b, o, none⟩) n c, .int .i64 s, .int .i64 l] 26) (.cells #[.slice none 0 0, .int .i64 0, .int .i64 0] 26)
  have hB := alloc2_heap1 w (.cells #[.slice (some ⟨b, o, none⟩) n c, .int .i64 s, .int .i64 l] 26) (.cells #[.slice none 0 0, .int .i64 0, .int .i64 0] 26)
  have hG2 : Gr w ((w.alloc (.cells #[.slice (some ⟨b, o, none⟩) n c, .int .i64 s, .int .i64 l] 26)).alloc (.cells #[.slice none 0 0, .int .i64 0, .int .i64 0] 26)) := Gr.alloc (Gr.alloc (Gr.refl w) _) _
  have hZ2 : ((w.alloc (.cells #[.slice (some ⟨b, o, none⟩) n c, .int .i64 s, .int .i64 l] 26)).alloc (.cells #[.slice none 0 0, .int .i64 0, .int .i64 0] 26)).heap.size = w.heap.size + 2 := by simp
  generalize (w.alloc (.cells #[.slice (some ⟨b, o, none⟩) n c, .int .i64 s, .int .i64 l] 26)).alloc (.cells #[.slice none 0 0, .int .i64 0, .int .i64 0] 26) = W2 at *
  have HA := Lib.hid hA
  have HB := Lib.hid hB
  have HG2 := Lib.hid hG2
  have HZ2 := Lib.hid hZ2
  clear hA hB hG2 hZ2
  go_loopw [3, 4] (fun v k wr => ∃ (j : Nat) (evs : List Value), k = .int .i64 j ∧ OwnUp (w.heap.size + 2) wr v xs j evs ∧ Gr W2 wr) (fun _ k _ => n - (intOf k).toNat)
  case atStart => exact ⟨0, [], rfl, OwnUp.start _ _ _, Gr.refl _⟩
  case round =>
    obtain ⟨j, evs, rfl, hup, hgr⟩ := hrel
    have hj : j ≤ n := by have := hup.le; rw [HN.out] at this; exact this
    have hA := hgr.same HA.out
    have hc0 := cell_block hA (j := 0) (v := .slice (some ⟨b, o, none⟩) n c) rfl
    have hz : w.heap.size + 2 ≤ wr.heap.size := by rw [← HZ2.out]; exact hgr.size
    have hc1 := cell_block hA (j := 1) (v := .int .i64 s) rfl
    have hc2 := cell_block hA (j := 2) (v := .int .i64 l) rfl
    have hf0 := frozen_block hA (j := 0)
    obtain ⟨va, vc, rfl⟩ := hup.slice
    have HUP := Lib.hid hup
    have HG := Lib.hid hgr
    clear hA hup hgr
    by_cases hlt : j < n
    · obtain ⟨x, hxj⟩ : ∃ x, xs[j]? = some x := ⟨xs[j]'(by rw [HN.out]; exact hlt), List.getElem?_eq_getElem _⟩
      obtain ⟨ev, rx, ex⟩ := HX.out j x hxj
      have hg0 : Gr w wr := HG2.out.trans HG.out
      have lx := msg_row hg0 rx
      have HE := Lib.hid (own_any wr S x ev (ex.gr hg0) (HS.out x (List.mem_of_getElem? hxj)))
      have HXJ := Lib.hid hxj
      clear hxj rx ex hg0
      go_wp2_with fail
      refine HE.out.mono ?_
      rintro e w1 ⟨fv, rfl, hg1, ho1⟩
      have hup1 := HUP.out.gr hg1
      have hzw : wr.heap.size ≤ w1.heap.size := hg1.size
      have ho1' := ho1.base hz
      obtain ⟨a', c', rfl⟩ := owns_slice ho1'
      have HO1 := Lib.hid ho1'
      have HG1 := Lib.hid hg1
      have HR := Lib.hid hup1.row
      have HUP1 := Lib.hid hup1
      clear ho1 ho1' hg1 hup1 hc0 hc1 hc2 hf0 lx
      go_wp2_with (at_builtin; go_loud (refine wpList_append_own_at _ rfl _ _ 24 rfl (w.heap.size + 2) 31 i0 _ 15 136 Try.underlying24 hi hz0 hz1 hz2 rfl (by decide) _ j _ rfl (HR.out.alloc _) ⟨w1.heap.size, 0, none⟩ 1 1 (msgCells x (.slice a' x.ents.length c')) rfl ?c0 ?c1 ?c2 ?c3 ?c4 ?c5 ?_))
      case c0 => rw [msgCells_length]
      case c1 => exact add_cells (range_row (alloc1_heap w1 _))
      case c2 => exact msgCells_one _ _ rfl
      case c3 => unfold maxLen; omega
      case c4 => omega
      case c5 => simp only [World.size_alloc]; omega
      intro v' w2 hown hgrow _ _
      have hup2 := HUP1.out.push HXJ.out HO1.out hown hgrow
      have hg2 : Gr W2 w2 := by
        have h3 : Gr W2 (w1.alloc (.cells (msgCells x (.slice a' x.ents.length c')).toArray 31)) := Gr.alloc (HG.out.trans HG1.out) _
        refine Below.grown h3 hgrow h3.size fun k hk => ?_
        rw [HZ2.out]; exact (owns_elem HR.out hk).1
      have HUP2 := Lib.hid hup2
      have HG2' := Lib.hid hg2
      clear hown hgrow hup2 hg2
      go_wp2
      exact ⟨⟨j + 1, _, by go_num, HUP2.out, HG2'.out⟩, by simp [intOf]; omega⟩
    · have hB := HG.out.same HB.out
      have hd0 := cell_block hB (j := 0) (v := .slice none 0 0) rfl
      have hd1 := cell_block hB (j := 1) (v := .int .i64 0) rfl
      have hd2 := cell_block hB (j := 2) (v := .int .i64 0) rfl
      have he0 := frozen_block hB (j := 0)
      have he1 := frozen_block hB (j := 1)
      have he2 := frozen_block hB (j := 2)
      have HB2 := Lib.hid hB
      clear hB
      go_wp2
      refine bodyPost_ret (v := netV ⟨xs, s, l⟩ (.slice va j vc)) (results_row rfl Try.underlying26 rfl info26 rfl (rowAt_block (net_filled (heap_set_other HB2.out (by omega)) _ _ _) rfl)) rfl ⟨_, rfl, ?_, ?_⟩
      · exact Gr.set (Gr.set (Gr.set (Gr.set (HG2.out.trans HG.out) (by simp) _) (by simp) _) (by simp) _) (by simp) _
      · refine OwnMsgs.base (Nat.le_add_right _ 2) ((HUP.out.done (by rw [HN.out]; omega)).keep fun k hk _ => ?_)
        rw [setCell_other _ (by omega), setCell_other _ (by omega), setCell_other _ (by omega), setCell_other _ (by omega)]

set_option maxRecDepth 100000 in
set_option maxHeartbeats 1000000 in
theorem own27_none (w : World) (a : Option Addr) (c : Nat) (s l : Int) :
    Calls Try.prog 18 #[.agg #[.slice a 0 c, .int .i64 s, .int .i64 l]] w (OwnNetPost ⟨[], s, l⟩ w) := by
  go_enter Try.func18, Try.ntmps18
  go_wp2
  go_loop [3, 4] (fun v k => v = .slice none 0 0 ∧ k = .int .i64 0) (fun _ _ => 0)
  case atStart => exact ⟨rfl, rfl⟩
  case round =>
    obtain ⟨rfl, rfl⟩ := hrel
    go_wp2
    refine bodyPost_ret (v := netV ⟨[], s, l⟩ (.slice none 0 0)) (results_row rfl Try.underlying26 rfl info26 rfl (rowAt_block (alloc2_heap1 _ _ _) rfl)) rfl ⟨_, rfl, Gr.alloc (Gr.alloc (Gr.refl w) _) _, ?_⟩
    exact ⟨[], rfl, World.ownsRow_nil _ _ _ _, fun i m ev hm => by simp at hm⟩

/-- Own: a net of one's own, the document's. -/
theorem own27_any (w : World) (S : Nat → Prop) (n : Net) (v : Value) (h : IsMsgs S w v n.msgs) (hs : Small n.msgs) : Calls Try.prog 18 #[netV n v] w (OwnNetPost n w) := by
  cases n with | mk xs s l =>
  by_cases h0 : 0 < xs.length
  · obtain ⟨b, o, c, hv, _, _, _, hx⟩ := h.some h0
    rw [hv]
    exact own27_some w S b o c _ s l xs rfl hs.1 hs.2 hx
  · have e1 : xs = [] := List.eq_nil_of_length_eq_zero (by omega)
    subst e1
    obtain ⟨a, c, rfl, _, _⟩ := h.len
    exact own27_none w a c s l
end Go.Proofs.Ytajghkjghiifjaa
