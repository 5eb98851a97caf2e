/-
  Walks: a message taken.
-/
import Derived.Test.YtajghkjghiifjaaWr
namespace Go.Proofs.Ytajghkjghiifjaa
open Go Go.RowKit
attribute [local go_sem ↓] opLoad31_eq opStore31_eq opRow1_eq opLoad31_in opStore31_in opRow1_in
attribute [local go_sem] Oper.semAt_some msgV opLoad31 opStore31 opRow1_msg rowAt_alloc_at rowAt_alloc_past rowAt_drew wholeAt_alloc_at wholeAt_alloc_past wholeAt_drew setRow_alloc_at setRow_alloc_past msg_0 msg_1 msg_2 msg_3 msg_9 msg_g0 msg_g1 msg_g2 msg_g3 msg_g9 msg_set9 msg_set3 msg_size msgCells_length msg_one_slice gr_alloc' gr_drew' gr_drewN'

def Msg.zero : Msg := ⟨0, 0, 0, 0, 0, 0, 0, 0, false, [], 0, 0, 0, 0, false⟩
/-- Pull: the net, -/
def pullNet (n : Net) (at' : Int) : Net := ⟨n.msgs.eraseIdx (spot n.msgs.length at'), n.sent, n.lost⟩
/-- .. and the message. -/
def pullMsg (n : Net) (at' : Int) : Msg := n.msgs.getD (spot n.msgs.length at') Msg.zero
def pullOk (n : Net) : Bool := decide (n.msgs.length ≠ 0)
def PullPost (n : Net) (at' : Int) (w : World) (e : Ending) (w' : World) : Prop :=
  ∃ v fv, e = .returned (.tuple #[netV (pullNet n at') v, msgV (pullMsg n at') fv, .bool (pullOk n)]) ∧ Gr w w' ∧ OwnMsgs w.heap.size w' v (pullNet n at').msgs ∧ OwnEnts w.heap.size w' fv (pullMsg n at').ents

theorem results_row_row_tmp {P : Program} {fn : Func} {t t2 u : Tmp} {ty ty2 : TypeId} {n n2 : Nat} {d d2 : TypeDesc} (hr : fn.results = #[.cell t ty, .cell t2 ty2, .tmp u]) (hu : P.underlying ty = some d) (hd : d.isRow = true) (hi : (P.info? ty).map (·.size) = some n)
    (hu2 : P.underlying ty2 = some d2) (hd2 : d2.isRow = true) (hi2 : (P.info? ty2).map (·.size) = some n2)
    {tmps : Array Value} {b b2 : Nat} {w : World} {cs cs2 : Array Value} (ht : tmps.getD t undef = .pointer (some ⟨b, 0, none⟩)) (h : rowAt w b 0 n = some cs)
    (ht2 : tmps.getD t2 undef = .pointer (some ⟨b2, 0, none⟩)) (h2 : rowAt w b2 0 n2 = some cs2) :
    (results fn tmps).run P w = .ok (.tuple #[.agg cs, .agg cs2, tmps.getD u undef]) w := by
  have hl := loadVar_row hu hd hi h
  have hl2 := loadVar_row hu2 hd2 hi2 h2
  have ht' : tmps[t]?.getD undef = .pointer (some ⟨b, 0, none⟩) := by simpa using ht
  have ht2' : tmps[t2]?.getD undef = .pointer (some ⟨b2, 0, none⟩) := by simpa using ht2
  simp only [results, hr]
  simp [ht', ht2', asAddr, hl, hl2]

theorem wholeAt_setCell (w : World) (b j : Nat) (v : Value) (c : Nat) : wholeAt (w.setCell ⟨b, j, none⟩ v) c = wholeAt w c := by
  by_cases h : c = b
  · subst h
    cases hb : w.heap[c]? with
    | none =>
      have : (w.setCell ⟨c, j, none⟩ v).heap[c]? = none := by
        rw [Array.getElem?_eq_none_iff] at hb ⊢; simpa [World.setCell] using hb
      unfold wholeAt; rw [hb, this]
    | some o =>
      cases o with
      | cells cs t f => unfold wholeAt; rw [setCell_block hb v, hb]; simp
      | _ =>
        have : (w.setCell ⟨c, j, none⟩ v).heap[c]? = w.heap[c]? := by
          obtain ⟨hlt, hk⟩ := Array.getElem?_eq_some_iff.1 hb
          simp only [World.setCell]
          rw [hb, Array.getElem?_eq_getElem (by rw [Array.size_modify]; exact hlt), Array.getElem_modify_self, hk]
        unfold wholeAt; rw [this]
  · unfold wholeAt; rw [setCell_other v h]
theorem rowAt_setCell (w : World) (b j : Nat) (v : Value) (c o n : Nat) (h : c ≠ b) : rowAt (w.setCell ⟨b, j, none⟩ v) c o n = rowAt w c o n := by
  unfold rowAt; rw [setCell_other v h]
theorem setRow_block {w : World} {b : Nat} {old : Array Value} {t : TypeId} {f : Nat × Nat} (hb : w.heap[b]? = some (.cells old t f)) (cs : Array Value) : (w.setRow b cs).heap[b]? = some (.cells cs t f) := by
  obtain ⟨hlt, hk⟩ := Array.getElem?_eq_some_iff.1 hb
  simp only [World.setRow]
  rw [Array.getElem?_eq_getElem (by rw [Array.size_modify]; exact hlt), Array.getElem_modify_self, hk]
theorem setRow_other {w : World} {b c : Nat} (cs : Array Value) (h : c ≠ b) : (w.setRow b cs).heap[c]? = w.heap[c]? := by
  simp [World.setRow, Array.getElem?_modify, Ne.symm h]
theorem cell_setRow (w : World) (b : Nat) (cs : Array Value) (c j : Nat) (h : c ≠ b) : (w.setRow b cs).cell? ⟨c, j, none⟩ = w.cell? ⟨c, j, none⟩ := World.cell?_of_block (setRow_other cs h)
theorem frozen_setRow (w : World) (b : Nat) (cs : Array Value) (c j : Nat) (h : c ≠ b) : (w.setRow b cs).frozen? ⟨c, j, none⟩ = w.frozen? ⟨c, j, none⟩ := World.frozen?_of_block (setRow_other cs h)
attribute [local go_sem] wholeAt_setCell rowAt_setCell cell_setRow frozen_setRow

/-- The end: both results stored where they stand. -/
theorem pull_end {w W : World} {B M : Nat} {ov : Value} {s l : Int} {m : Msg} {a : Option Addr} {k c base : Nat} {o : Net} (hB : W.heap[B]? = some (.cells #[ov, .int .i64 s, .int .i64 l] 26 (0, 0)))
    (hM : W.heap[M]? = some (.cells (msgCells m (.slice a k c)).toArray 31 (0, 0))) (hBM : B ≠ M) (hg : Gr w W) (hBw : w.heap.size ≤ B) (hMw : w.heap.size ≤ M) (hBb : B < base) (hMb : M < base)
    (ho : OwnMsgs base W ov o.msgs) (he : OwnEnts base W (.slice a k c) m.ents) (hw : w.heap.size ≤ base) :
    let W' := ((((W.setCell ⟨B, 0, none⟩ ov).setCell ⟨B, 1, none⟩ (.int .i64 s)).setCell ⟨B, 2, none⟩ (.int .i64 l)).drew.setRow M (msgCells m (.slice a k c)).toArray)
    rowAt W' B 0 3 = some #[ov, .int .i64 s, .int .i64 l] ∧ rowAt W' M 0 15 = some (msgCells m (.slice a k c)).toArray ∧ Gr w W' ∧ OwnMsgs w.heap.size W' ov o.msgs ∧ OwnEnts w.heap.size W' (.slice a k c) m.ents := by
  intro W'
  have h1 : ∀ q, q ≠ B → q ≠ M → W'.heap[q]? = W.heap[q]? := fun q h1 h2 => by
    show ((((W.setCell ⟨B, 0, none⟩ ov).setCell ⟨B, 1, none⟩ (.int .i64 s)).setCell ⟨B, 2, none⟩ (.int .i64 l)).drew.setRow M (msgCells m (.slice a k c)).toArray).heap[q]? = _
    rw [setRow_other _ h2]
    show (((W.setCell ⟨B, 0, none⟩ ov).setCell ⟨B, 1, none⟩ (.int .i64 s)).setCell ⟨B, 2, none⟩ (.int .i64 l)).heap[q]? = _
    rw [setCell_other _ h1, setCell_other _ h1, setCell_other _ h1]
  have hx : ∀ q : Nat, (((W.setCell ⟨B, 0, none⟩ ov).setCell ⟨B, 1, none⟩ (.int .i64 s)).setCell ⟨B, 2, none⟩ (.int .i64 l)).drew.heap[q]? = (((W.setCell ⟨B, 0, none⟩ ov).setCell ⟨B, 1, none⟩ (.int .i64 s)).setCell ⟨B, 2, none⟩ (.int .i64 l)).heap[q]? := fun _ => rfl
  have hB' : W'.heap[B]? = some (.cells #[ov, .int .i64 s, .int .i64 l] 26 (0, 0)) := by
    show ((((W.setCell ⟨B, 0, none⟩ ov).setCell ⟨B, 1, none⟩ (.int .i64 s)).setCell ⟨B, 2, none⟩ (.int .i64 l)).drew.setRow M (msgCells m (.slice a k c)).toArray).heap[B]? = _
    rw [setRow_other _ hBM, hx]
    exact net_filled hB _ _ _
  have hM' : W'.heap[M]? = some (.cells (msgCells m (.slice a k c)).toArray 31 (0, 0)) := by
    show ((((W.setCell ⟨B, 0, none⟩ ov).setCell ⟨B, 1, none⟩ (.int .i64 s)).setCell ⟨B, 2, none⟩ (.int .i64 l)).drew.setRow M (msgCells m (.slice a k c)).toArray).heap[M]? = _
    refine setRow_block (old := (msgCells m (.slice a k c)).toArray) ?_ _
    rw [hx]
    exact heap_set_other (heap_set_other (heap_set_other hM (Ne.symm hBM)) (Ne.symm hBM)) (Ne.symm hBM)
  refine ⟨rowAt_block hB' rfl, rowAt_block hM' rfl, ?_, ?_, ?_⟩
  · exact gr_setRow' (Gr.drew (Gr.set (Gr.set (Gr.set hg hBw _) hBw _) hBw _)) _ hMw _
  · exact OwnMsgs.base hw (ho.keep fun q hq _ => h1 q (by omega) (by omega))
  · exact OwnEnts.base hw (owns_other he fun q hq => by have := (World.ownsRow.lt he q hq).1; exact h1 q (by omega) (by omega))

theorem flat_take {size : Nat} (els : List (List Value)) (hl : ∀ e ∈ els, e.length = size) (i : Nat) : els.flatten.take (i * size) = (els.take i).flatten := by
  have h1 : els.flatten = (els.take i).flatten ++ (els.drop i).flatten := by rw [← List.flatten_append, List.take_append_drop]
  have h2 := flatten_length (els.take i) (fun e he => hl e (List.mem_of_mem_take he))
  by_cases hi : i ≤ els.length
  · rw [h1]
    rw [List.length_take, Nat.min_eq_left hi] at h2
    rw [← h2, List.take_left]
  · rw [List.take_of_length_le (l := els) (by omega), List.take_of_length_le]
    rw [flatten_length els hl]
    exact Nat.mul_le_mul_right _ (by omega)
theorem flat_drop {size : Nat} (els : List (List Value)) (hl : ∀ e ∈ els, e.length = size) (i : Nat) : els.flatten.drop (i * size) = (els.drop i).flatten := by
  have h1 : els.flatten = (els.take i).flatten ++ (els.drop i).flatten := by rw [← List.flatten_append, List.take_append_drop]
  have h2 := flatten_length (els.take i) (fun e he => hl e (List.mem_of_mem_take he))
  by_cases hi : i ≤ els.length
  · rw [h1]
    rw [List.length_take, Nat.min_eq_left hi] at h2
    rw [← h2, List.drop_left]
  · rw [List.drop_of_length_le (l := els) (by omega), List.drop_of_length_le]
    · rfl
    rw [flatten_length els hl]
    exact Nat.mul_le_mul_right _ (by omega)
theorem zip_erase (ms : List Msg) (evs : List Value) (h : evs.length = ms.length) (k : Nat) : List.zipWith msgCells (ms.eraseIdx k) (evs.eraseIdx k) = (List.zipWith msgCells ms evs).eraseIdx k := by
  rw [List.eraseIdx_eq_take_drop_succ, List.eraseIdx_eq_take_drop_succ, List.eraseIdx_eq_take_drop_succ, List.zipWith_append (by simp [h]), List.take_zipWith, List.drop_zipWith]
theorem zip_len (ms : List Msg) (evs : List Value) : ∀ e ∈ List.zipWith msgCells ms evs, e.length = 15 := by
  intro x hx
  obtain ⟨i, hi, rfl⟩ := List.mem_iff_getElem.1 hx
  rw [List.getElem_zipWith]; rfl
/-- One message fewer. -/
theorem own_erase {base : Nat} {W w3 : World} {g c L k : Nat} {ms : List Msg} {evs : List Value} (o1 : evs.length = ms.length) 
    (row3 : w3.ownsRow base 31 15 (.slice (some ⟨g, 0, none⟩) L c) L ((List.zipWith msgCells ms evs).flatten.take (k * 15) ++ (List.zipWith msgCells ms evs).flatten.drop ((k + 1) * 15)))
    (hg : W.grownBy w3 (some g)) {n0 : Nat} {v0 : Value} {xs0 : List Value} (hrow : W.ownsRow base 31 15 v0 n0 xs0) (hv0 : v0.ownBlock = some g) (hL : (ms.eraseIdx k).length = L)
    (o3 : ∀ (i : Nat) (m : Msg) (ev : Value), ms[i]? = some m → evs[i]? = some ev → OwnEnts base W ev m.ents) : OwnMsgs base w3 (.slice (some ⟨g, 0, none⟩) L c) (ms.eraseIdx k) := by
  refine ⟨evs.eraseIdx k, by rw [List.length_eraseIdx, List.length_eraseIdx, o1], ?_, fun i m ev hm he => ?_⟩
  · rw [hL, zip_erase ms evs o1, List.eraseIdx_eq_take_drop_succ, List.flatten_append, ← flat_take _ (zip_len ms evs), ← flat_drop _ (zip_len ms evs)]
    exact row3
  · rw [List.getElem?_eraseIdx] at hm he
    have hh : ∃ j : Nat, ms[j]? = some m ∧ evs[j]? = some ev := by
      by_cases hi : i < k
      · rw [if_pos hi] at hm he; exact ⟨i, hm, he⟩
      · rw [if_neg hi] at hm he; exact ⟨i + 1, hm, he⟩
    obtain ⟨j, h1, h2⟩ := hh
    have ho := o3 j m ev h1 h2
    exact owns_other ho fun q hq => hg.block q (World.ownsRow.lt ho q hq).2 fun e => owns_apart ho hrow (by decide) hq (by rw [hv0]; exact e.symm)

theorem zero_msg : msgCells Msg.zero (.slice none 0 0) = zero31 := rfl

/-- The cells that a message's box has at first. -/
theorem zero31_cells : (msgCells Msg.zero (.slice none 0 0)).toArray = #[.int .u8 0, .int .i64 0, .int .i64 0, .int .i64 0, .int .i64 0, .int .i64 0, .int .i64 0, .int .i64 0, .bool false, .slice none 0 0, .int .i64 0, .int .i64 0, .int .i64 0, .int .i64 0, .bool false] := rfl

set_option maxRecDepth 100000 in
set_option maxHeartbeats 1000000 in
theorem pull_net (w : World) (n : Net) (v : Value) (at' : Int) (hxs : InMsgs w v n.msgs) (hs : Small n.msgs) :
    Calls Try.prog 9 #[netV n v, .int .i64 at'] w (PullPost n at' w) := by
  obtain ⟨a, c, rfl, hc1, hc2⟩ := hxs.len
  have hG3 : Gr w (((w.alloc (.cells #[.slice a n.msgs.length c, .int .i64 n.sent, .int .i64 n.lost] 26)).alloc (.cells #[.slice none 0 0, .int .i64 0, .int .i64 0] 26)).alloc (.cells (msgCells Msg.zero (.slice none 0 0)).toArray 31)) := Gr.alloc (Gr.alloc (Gr.alloc (Gr.refl w) _) _) _
  have hZ3 : (((w.alloc (.cells #[.slice a n.msgs.length c, .int .i64 n.sent, .int .i64 n.lost] 26)).alloc (.cells #[.slice none 0 0, .int .i64 0, .int .i64 0] 26)).alloc (.cells (msgCells Msg.zero (.slice none 0 0)).toArray 31)).heap.size = w.heap.size + 1 + 1 + 1 := by simp
  have hT := alloc3_heap0 w (.cells #[.slice a n.msgs.length c, .int .i64 n.sent, .int .i64 n.lost] 26) (.cells #[.slice none 0 0, .int .i64 0, .int .i64 0] 26) (.cells (msgCells Msg.zero (.slice none 0 0)).toArray 31)
  have hB := alloc3_heap1 w (.cells #[.slice a n.msgs.length c, .int .i64 n.sent, .int .i64 n.lost] 26) (.cells #[.slice none 0 0, .int .i64 0, .int .i64 0] 26) (.cells (msgCells Msg.zero (.slice none 0 0)).toArray 31)
  have hM := alloc3_heap2 w (.cells #[.slice a n.msgs.length c, .int .i64 n.sent, .int .i64 n.lost] 26) (.cells #[.slice none 0 0, .int .i64 0, .int .i64 0] 26) (.cells (msgCells Msg.zero (.slice none 0 0)).toArray 31)
  have HO := Lib.hid (own_net _ n (.slice a n.msgs.length c) (hxs.gr hG3) hs)
  have HP := Lib.hid (fun W => place_any W n a n.msgs.length c at' hs.1)
  have hn0 := hs.1
  have HG3 := Lib.hid hG3
  have HZ3 := Lib.hid hZ3
  have HT := Lib.hid hT
  have HB := Lib.hid hB
  have HM := Lib.hid hM
  clear hG3 hT hB hM hZ3 hxs hs
  show Calls Try.prog 9 #[.agg #[.slice a n.msgs.length c, .int .i64 n.sent, .int .i64 n.lost], .int .i64 at'] w _
  go_enter Try.func9, Try.ntmps9
  go_wp2_with fail
  rw [← zero31_cells]
  refine HO.out.mono ?_
  rintro e w1 ⟨fv, rfl, hg1, ho1⟩
  obtain ⟨fa, fc, rfl, _, _⟩ := ho1.is.len
  have hT1 := hg1.same HT.out
  have hB1 := hg1.same HB.out
  have hM1 := hg1.same HM.out
  have c0 := cell_block hT1 (j := 0) rfl
  have c1 := cell_block hT1 (j := 1) rfl
  have c2 := cell_block hT1 (j := 2) rfl
  have d0 := cell_block hB1 (j := 0) rfl
  have d1 := cell_block hB1 (j := 1) rfl
  have d2 := cell_block hB1 (j := 2) rfl
  have e0 := frozen_block hB1 (j := 0)
  have e1 := frozen_block hB1 (j := 1)
  have e2 := frozen_block hB1 (j := 2)
  have hy1 : w.heap.size + 1 + 1 + 1 ≤ w1.heap.size := by rw [← HZ3.out]; exact hg1.size
  have hy2 : w.heap.size < w1.heap.size := by omega
  have hy3 : w.heap.size + 1 < w1.heap.size := by omega
  have hy4 : w.heap.size + 1 + 1 < w1.heap.size := by omega
  have hbf := net_filled hB1 (.slice fa n.msgs.length fc) (.int .i64 n.sent) (.int .i64 n.lost)
  have htf := heap_set_other (b := w.heap.size + 1) (j := 2) (v := .int .i64 n.lost) (heap_set_other (b := w.heap.size + 1) (j := 1) (v := .int .i64 n.sent) (heap_set_other (b := w.heap.size + 1) (j := 0) (v := .slice fa n.msgs.length fc) hT1 (by omega)) (by omega)) (by omega)
  have hmf := heap_set_other (b := w.heap.size + 1) (j := 2) (v := .int .i64 n.lost) (heap_set_other (b := w.heap.size + 1) (j := 1) (v := .int .i64 n.sent) (heap_set_other (b := w.heap.size + 1) (j := 0) (v := .slice fa n.msgs.length fc) hM1 (by omega)) (by omega)) (by omega)
  have hgf : Gr w (((w1.setCell ⟨w.heap.size + 1, 0, none⟩ (.slice fa n.msgs.length fc)).setCell ⟨w.heap.size + 1, 1, none⟩ (.int .i64 n.sent)).setCell ⟨w.heap.size + 1, 2, none⟩ (.int .i64 n.lost)) :=
    Gr.set (Gr.set (Gr.set (HG3.out.trans hg1) (by simp) _) (by simp) _) (by simp) _
  have hof : OwnMsgs (w.heap.size + 1 + 1 + 1) (((w1.setCell ⟨w.heap.size + 1, 0, none⟩ (.slice fa n.msgs.length fc)).setCell ⟨w.heap.size + 1, 1, none⟩ (.int .i64 n.sent)).setCell ⟨w.heap.size + 1, 2, none⟩ (.int .i64 n.lost)) (.slice fa n.msgs.length fc) n.msgs := by
    have h6 := ho1
    rw [HZ3.out] at h6
    exact h6.keep fun q hq _ => by rw [setCell_other _ (by omega), setCell_other _ (by omega), setCell_other _ (by omega)]
  have HTF := Lib.hid htf
  have HBF := Lib.hid hbf
  have HMF := Lib.hid hmf
  have HGF := Lib.hid hgf
  have HOF := Lib.hid hof
  clear hT1 hB1 hM1 hg1 ho1 hbf htf hmf hgf hof
  simp only [netV]
  go_wp2_with fail
  refine (HP.out _).mono ?_
  rintro e w2 ⟨rfl, hg2⟩
  have hT2 := hg2.same HTF.out
  have hB2 := hg2.same HBF.out
  have hM2 := hg2.same HMF.out
  have hgw := HGF.out.trans hg2
  have ho2 := HOF.out.gr hg2
  clear HTF HBF HMF HGF HOF c0 c1 c2 d0 d1 d2 e0 e1 e2 HT HB HM HO HP HG3 HZ3
  by_cases h0 : n.msgs.length = 0
  · rw [if_pos h0]
    have r4 := rowAt_block hB2 (n := 3) rfl
    have r5 := rowAt_block hM2 (n := 15) rfl
    have k5 := wholeAt_block hM2
    have c0 := cell_block hB2 (j := 0) rfl
    have c1 := cell_block hB2 (j := 1) rfl
    have c2 := cell_block hB2 (j := 2) rfl
    have f0 := frozen_block hB2 (j := 0)
    have f1 := frozen_block hB2 (j := 1)
    have f2 := frozen_block hB2 (j := 2)
    have l2 : w.heap.size + 1 < w2.heap.size := (Array.getElem?_eq_some_iff.1 hB2).1
    have l3 : w.heap.size + 1 + 1 < w2.heap.size := (Array.getElem?_eq_some_iff.1 hM2).1
    have H1 := Lib.hid hT2
    have H2 := Lib.hid hB2
    have H3 := Lib.hid hM2
    have H4 := Lib.hid hgw
    have H5 := Lib.hid ho2
    clear hT2 hB2 hM2 hgw ho2 hg2
    go_wp2_with fail
    have hnil : n.msgs = [] := List.eq_nil_of_length_eq_zero h0
    have hq : pullNet n at' = ⟨[], n.sent, n.lost⟩ := by simp [pullNet, hnil]
    have hm : pullMsg n at' = Msg.zero := by simp [pullMsg, hnil]
    have hok : pullOk n = false := by simp [pullOk, hnil]
    have HQ := Lib.hid hq
    have HM := Lib.hid hm
    have HK := Lib.hid hok
    clear hq hm hok
    go_region
    go_wp2
    rw [h0] at *
    obtain ⟨p1, p2, p3, p4, p5⟩ := pull_end (o := pullNet n at') (base := w.heap.size + 1 + 1 + 1) H2.out H3.out (by omega) H4.out (by omega) (by omega) (by omega) (by omega) (by rw [HQ.out]; have h6 := H5.out; rw [hnil] at h6; exact h6) (World.ownsRow_nil _ _ _ _) (by omega)
    refine bodyPost_ret (results_row_row_tmp rfl Try.underlying26 rfl info26 Try.underlying31 rfl info31 rfl p1 rfl p2) rfl ⟨.slice fa 0 fc, .slice none 0 0, ?_, p3, p4, ?_⟩
    · rw [HQ.out, HM.out, HK.out]; rfl
    · rw [HM.out]; exact p5
  · rw [if_neg h0]
    have hklt := spot_lt h0 at'
    have hq : pullNet n at' = ⟨n.msgs.eraseIdx (spot n.msgs.length at'), n.sent, n.lost⟩ := rfl
    obtain ⟨m, hm⟩ : ∃ m, n.msgs[spot n.msgs.length at']? = some m := ⟨_, List.getElem?_eq_getElem hklt⟩
    have hm' : pullMsg n at' = m := by simp [pullMsg, List.getD, hm]
    have hok : pullOk n = true := by simp [pullOk, h0]
    generalize spot n.msgs.length at' = k at *
    have r4 := rowAt_block hB2 (n := 3) rfl
    have r5 := rowAt_block hM2 (n := 15) rfl
    have k5 := wholeAt_block hM2
    have c0 := cell_block hB2 (j := 0) rfl
    have c1 := cell_block hB2 (j := 1) rfl
    have c2 := cell_block hB2 (j := 2) rfl
    have f0 := frozen_block hB2 (j := 0)
    have f1 := frozen_block hB2 (j := 1)
    have f2 := frozen_block hB2 (j := 2)
    have l2 : w.heap.size + 1 < w2.heap.size := (Array.getElem?_eq_some_iff.1 hB2).1
    have l3 : w.heap.size + 1 + 1 < w2.heap.size := (Array.getElem?_eq_some_iff.1 hM2).1
    obtain ⟨evs, o1, o2, o3⟩ := ho2
    obtain ⟨ev, hev⟩ : ∃ ev, evs[k]? = some ev := ⟨_, List.getElem?_eq_getElem (by rw [o1]; exact hklt)⟩
    have hoe := o3 k m ev hm hev
    obtain ⟨ea, ec, rfl⟩ := owns_slice hoe
    obtain ⟨g, rfl⟩ : ∃ g, fa = some ⟨g, 0, none⟩ := by
      rcases o2.2 with ⟨_, h1⟩ | ⟨g, cap, cur, hv, _⟩
      · exact absurd h1 h0
      · simp at hv; exact ⟨g, hv.1⟩
    obtain ⟨L, hL⟩ : ∃ L, n.msgs.length = L + 1 := ⟨n.msgs.length - 1, by omega⟩
    have rx : w2.rangeAt g (k * 15) (msgCells m (.slice ea m.ents.length ec)) := by
      have := SL.at (SL.of_owns (e := 31) (els := List.zipWith msgCells n.msgs evs) (size := 15) (zip_len _ _) (by rw [List.length_zipWith, o1, Nat.min_self]; exact o2)) (b := g) (off := 0) (len := n.msgs.length) (cap := fc) rfl (i := k) (e := msgCells m (.slice ea m.ents.length ec)) (by rw [List.getElem?_zipWith, hm, hev])
      simpa using this
    have r6 := msg_row (Gr.refl w2) rx
    have hgl : w.heap.size + 1 + 1 + 1 ≤ g ∧ g < w2.heap.size := World.ownsRow.lt o2 g rfl
    have hx1 : ∀ u ∈ (List.zipWith msgCells n.msgs evs).flatten, u.oneCell' = true := by
      intro u hu
      obtain ⟨x, hx, hu⟩ := List.mem_flatten.1 hu
      obtain ⟨i, hi, rfl⟩ := List.mem_iff_getElem.1 hx
      rw [List.getElem_zipWith] at hu
      obtain ⟨va, vc, hv⟩ := owns_slice (o3 i _ _ (List.getElem?_eq_getElem (by simp at hi; omega)) (List.getElem?_eq_getElem (by simp at hi; omega)))
      exact msgCells_one _ _ (by rw [hv]; rfl) u hu
    have o2' : (w2.setRow (w.heap.size + 1 + 1) (msgCells m (.slice ea m.ents.length ec)).toArray).ownsRow (w.heap.size + 1 + 1 + 1) 31 15 (.slice (some ⟨g, 0, none⟩) n.msgs.length fc) n.msgs.length (List.zipWith msgCells n.msgs evs).flatten :=
      owns_other o2 fun q hq => setRow_other _ (by have := (World.ownsRow.lt o2 q hq).1; omega)
    rw [hL] at o2'
    have HD := Lib.hid (delete_any _ _ g fc L k _ o2' hx1 (by omega) (by omega))
    have HL := Lib.hid hL
    rw [hL]
    rw [hL] at c0 r4
    clear hx1 o2' hL
    have h01 : ((L + 1 : Nat) : Int) = (L : Int) + 1 := by omega
    have H1 := Lib.hid hT2
    have H2 := Lib.hid hB2
    have H3 := Lib.hid hM2
    have H4 := Lib.hid hgw
    have O1 := Lib.hid o1
    have O2 := Lib.hid o2
    have O3 := Lib.hid o3
    have HME := Lib.hid hm
    have HOE := Lib.hid hoe
    have HQ := Lib.hid hq
    have HMM := Lib.hid hm'
    have HK := Lib.hid hok
    have hkl1 : k < L + 1 := by rw [← HL.out]; exact hklt
    have hgl2 := hgl.2
    clear hT2 hB2 hM2 hgw hg2 o1 o2 o3 hm hoe hq hm' hok rx hev h0 h01
    go_wp2_with fail
    refine HD.out.mono ?_
    rintro e w3 ⟨rfl, hown3, hg3⟩
    have hmo := own_erase O1.out hown3 hg3 (owns_other O2.out fun q hq => setRow_other _ (by have := (World.ownsRow.lt O2.out q hq).1; omega)) rfl (by rw [List.length_eraseIdx, if_pos (by rw [HL.out]; omega), HL.out]; omega)
      (fun i m' ev hi he => owns_other (O3.out i m' ev hi he) fun q hq => setRow_other _ (by have := (World.ownsRow.lt (O3.out i m' ev hi he) q hq).1; omega))
    have hB3 := (hg3.block (w.heap.size + 1) (by simp [World.setRow]; omega) (by simp; omega)).trans ((setRow_other _ (by omega)).trans H2.out)
    have hM3 := (hg3.block (w.heap.size + 1 + 1) (by simp [World.setRow]; omega) (by simp; omega)).trans (setRow_block H3.out (msgCells m (.slice ea m.ents.length ec)).toArray)
    have hE3 : OwnEnts (w.heap.size + 1 + 1 + 1) w3 (.slice ea m.ents.length ec) m.ents := owns_other HOE.out fun q hq => by
      have hb := World.ownsRow.lt HOE.out q hq
      exact (hg3.block q (by simp [World.setRow]; omega) (fun e => owns_apart HOE.out O2.out (by decide) hq e.symm)).trans (setRow_other _ (by omega))
    have hG4 : Gr w w3 := Below.grown (gr_setRow' H4.out _ (by omega) _) hg3 (by have := H4.out.size; simp [World.setRow]; omega) (fun q hq => by simp at hq; omega)
    have hs3 : w2.heap.size ≤ w3.heap.size := by have := hg3.size; simpa [World.setRow] using this
    have hB4 := setCell_block hB3 (j := 0) (.slice (some ⟨g, 0, none⟩) L fc)
    have hM4 := heap_set_other (b := w.heap.size + 1) (j := 0) (v := .slice (some ⟨g, 0, none⟩) L fc) hM3 (by omega)
    have r4 := rowAt_block hB4 (n := 3) rfl
    have r5 := rowAt_block hM4 (n := 15) rfl
    have k5 := wholeAt_block hM4
    have b0 := cell_block hB3 (j := 0) rfl
    have c0 := cell_block hB4 (j := 0) rfl
    have c1 := cell_block hB4 (j := 1) rfl
    have c2 := cell_block hB4 (j := 2) rfl
    have g0 := frozen_block hB3 (j := 0)
    have f0 := frozen_block hB4 (j := 0)
    have f1 := frozen_block hB4 (j := 1)
    have f2 := frozen_block hB4 (j := 2)
    have l2 : w.heap.size + 1 < w3.heap.size := by omega
    have l3 : w.heap.size + 1 + 1 < w3.heap.size := by omega
    have HB4 := Lib.hid hB4
    have HM4 := Lib.hid hM4
    have HG4 := Lib.hid hG4
    have HE4 := Lib.hid (owns_other (w' := w3.setCell ⟨w.heap.size + 1, 0, none⟩ (.slice (some ⟨g, 0, none⟩) L fc)) hE3 fun q hq => setCell_other _ (by have := (World.ownsRow.lt hE3 q hq).1; omega))
    have HO4 := Lib.hid (hmo.keep (w' := w3.setCell ⟨w.heap.size + 1, 0, none⟩ (.slice (some ⟨g, 0, none⟩) L fc)) fun q hq _ => setCell_other _ (by omega))
    clear hmo hB3 hM3 hE3 hG4 hB4 hM4 hown3 hg3 hs3 H1 H2 H3 H4 O1 O2 O3 HOE HD
    go_wp2_with fail
    go_region
    go_wp2
    obtain ⟨p1, p2, p3, p4, p5⟩ := pull_end (o := pullNet n at') (base := w.heap.size + 1 + 1 + 1) HB4.out HM4.out (by omega) (Gr.set HG4.out (by simp) _) (by omega) (by omega) (by omega) (by omega) (by rw [HQ.out]; exact HO4.out) HE4.out (by omega)
    refine bodyPost_ret (results_row_row_tmp rfl Try.underlying26 rfl info26 Try.underlying31 rfl info31 rfl p1 rfl p2) rfl ⟨.slice (some ⟨g, 0, none⟩) L fc, .slice ea m.ents.length ec, ?_, p3, p4, ?_⟩
    · rw [HQ.out, HMM.out, HK.out]; rfl
    · rw [HMM.out]; exact p5
end Go.Proofs.Ytajghkjghiifjaa
