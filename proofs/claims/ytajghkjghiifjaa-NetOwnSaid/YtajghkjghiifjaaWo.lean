/-
  Walks: a net of one's own; cut off.
-/
import Derived.Test.YtajghkjghiifjaaWn
namespace Go.Proofs.Ytajghkjghiifjaa
open Go Go.RowKit

/-- Messages that lie in memory. -/
def InMsgs (w : World) (v : Value) (ms : List Msg) : Prop := IsMsgs (· < w.heap.size) w v ms
theorem InMsgs.gr {A B : World} (h : Gr A B) {v : Value} {ms : List Msg} (hs : InMsgs A v ms) : InMsgs B v ms :=
  (IsMsgs.gr h hs).mono fun _ hb => Nat.lt_of_lt_of_le hb h.size
theorem OwnEnts.inn {base : Nat} {w : World} {v : Value} {es : List Ent} (h : OwnEnts base w v es) : IsEnts (· < w.heap.size) w v es := by
  refine ⟨h.is.1, ?_⟩
  rcases h.is.2 with h0 | ⟨b, off, cap, hv, h1, h2, h3, h4⟩
  · exact .inl h0
  · exact .inr ⟨b, off, cap, hv, h1, h2, (World.ownsRow.lt h b (by rw [hv]; rfl)).2, h4⟩
theorem OwnMsgs.inn {base : Nat} {w : World} {v : Value} {ms : List Msg} (h : OwnMsgs base w v ms) : InMsgs w v ms := by
  have hi := h.is
  obtain ⟨evs, h1, h2, h3⟩ := h
  refine ⟨evs, h1, ?_, fun i m ev hm he => (h3 i m ev hm he).inn⟩
  have hs := SL.of_owns (els := List.zipWith msgCells ms evs) (size := 15) (e := 31) (by intro x hx; obtain ⟨i, hi, rfl⟩ := List.mem_iff_getElem.1 hx; rw [List.getElem_zipWith]; rfl)
    (by have : (List.zipWith msgCells ms evs).length = ms.length := by simp [h1]
        rw [this]; exact h2)
  refine ⟨hs.1, ?_⟩
  rcases hs.2 with h0 | ⟨b, off, cap, hv, h4, h5, h6, h7⟩
  · exact .inl h0
  · exact .inr ⟨b, off, cap, hv, h4, h5, (World.ownsRow.lt h2 b (by rw [hv]; rfl)).2, h7⟩
theorem Small.filter {ms : List Msg} (h : Small ms) (p : Msg → Bool) : Small (ms.filter p) :=
  ⟨Nat.le_trans (List.length_filter_le _ _) h.1, fun m hm => h.2 m (List.mem_filter.1 hm).1⟩

set_option maxRecDepth 100000 in
set_option maxHeartbeats 1000000 in
theorem own_net (w : World) (n : Net) (v : Value) (hxs : InMsgs w v n.msgs) (hs : Small n.msgs) : Calls Try.prog 19 #[netV n v] w (OwnNetPost n w) := by
  obtain ⟨a, c, rfl, _, _⟩ := hxs.len
  have hg : Gr w ((w.alloc (.cells #[.slice a n.msgs.length c, .int .i64 n.sent, .int .i64 n.lost] 26)).alloc (.cells #[.slice none 0 0, .int .i64 0, .int .i64 0] 26)) := Gr.alloc (Gr.alloc (Gr.refl w) _) _
  have hb := but_any _ n a n.msgs.length c 23 #[] (fun _ => true) Always (hxs.gr hg) hs all_so all_enters (fun _ _ _ _ => trivial) trivial
  rw [show n.msgs.filter (fun _ => true) = n.msgs by simp] at hb
  have hZ := alloc2_heap1 w (.cells #[.slice a n.msgs.length c, .int .i64 n.sent, .int .i64 n.lost] 26) (.cells #[.slice none 0 0, .int .i64 0, .int .i64 0] 26)
  have hsz : ((w.alloc (.cells #[.slice a n.msgs.length c, .int .i64 n.sent, .int .i64 n.lost] 26)).alloc (.cells #[.slice none 0 0, .int .i64 0, .int .i64 0] 26)).heap.size = w.heap.size + 2 := by simp
  have HB := Lib.hid hb
  have HZ := Lib.hid hZ
  have HG := Lib.hid hg
  have HSZ := Lib.hid hsz
  clear hb hZ hg hxs hs hsz
  show Calls Try.prog 19 #[.agg #[.slice a n.msgs.length c, .int .i64 n.sent, .int .i64 n.lost]] w _
  go_enter Try.func19, Try.ntmps19
  go_wp2_with fail
  refine HB.out.mono ?_
  rintro e w1 ⟨fv, rfl, hg1, ho1⟩
  have hfv := ho1.is.len
  obtain ⟨fa, fc, rfl, _, _⟩ := hfv
  have hZ1 := hg1.same HZ.out
  have d0 := cell_block hZ1 (j := 0) rfl
  have d1 := cell_block hZ1 (j := 1) rfl
  have d2 := cell_block hZ1 (j := 2) rfl
  have e0 := frozen_block hZ1 (j := 0)
  have e1 := frozen_block hZ1 (j := 1)
  have e2 := frozen_block hZ1 (j := 2)
  have HZ1 := Lib.hid hZ1
  have HG1 := Lib.hid hg1
  have HO1 := Lib.hid ho1
  clear hZ1 hg1 ho1
  simp only [netV]
  go_wp2
  refine bodyPost_ret (v := netV n (.slice fa _ fc)) (results_row rfl Try.underlying26 rfl info26 rfl (rowAt_block (net_filled HZ1.out _ _ _) rfl)) rfl ⟨_, rfl, ?_, ?_⟩
  · exact Gr.set (Gr.set (Gr.set (HG.out.trans HG1.out) (by simp) _) (by simp) _) (by simp) _
  · have h6 := HO1.out
    rw [HSZ.out] at h6
    refine OwnMsgs.base (base := w.heap.size + 2) (by omega) (h6.keep fun q hq _ => ?_)
    rw [setCell_other _ (by omega), setCell_other _ (by omega), setCell_other _ (by omega)]

/-- The net behind a cut. -/
def cutNet (n : Net) (id : Int) : Net := ⟨n.msgs.filter (notOf id), n.sent, wrap64 (n.lost + ((n.msgs.length : Int) - ((n.msgs.filter (notOf id)).length : Int)))⟩

set_option maxRecDepth 100000 in
set_option maxHeartbeats 1000000 in
theorem cut_net (w : World) (n : Net) (v : Value) (id : Int) (hxs : InMsgs w v n.msgs) (hs : Small n.msgs) : Calls Try.prog 12 #[netV n v, .int .i64 id] w (OwnNetPost (cutNet n id) w) := by
  obtain ⟨a, c, rfl, _, _⟩ := hxs.len
  have hg : Gr w (((w.alloc (.cells #[.slice a n.msgs.length c, .int .i64 n.sent, .int .i64 n.lost] 26)).alloc (.cells #[.int .i64 id] 3)).alloc (.cells #[.slice none 0 0, .int .i64 0, .int .i64 0] 26)) := Gr.alloc (Gr.alloc (Gr.alloc (Gr.refl w) _) _) _
  have hI := alloc3_heap1 w (.cells #[.slice a n.msgs.length c, .int .i64 n.sent, .int .i64 n.lost] 26) (.cells #[.int .i64 id] 3) (.cells #[.slice none 0 0, .int .i64 0, .int .i64 0] 26)
  have hZ := alloc3_heap2 w (.cells #[.slice a n.msgs.length c, .int .i64 n.sent, .int .i64 n.lost] 26) (.cells #[.int .i64 id] 3) (.cells #[.slice none 0 0, .int .i64 0, .int .i64 0] 26)
  have hN := alloc3_heap0 w (.cells #[.slice a n.msgs.length c, .int .i64 n.sent, .int .i64 n.lost] 26) (.cells #[.int .i64 id] 3) (.cells #[.slice none 0 0, .int .i64 0, .int .i64 0] 26)
  have hsz : (((w.alloc (.cells #[.slice a n.msgs.length c, .int .i64 n.sent, .int .i64 n.lost] 26)).alloc (.cells #[.int .i64 id] 3)).alloc (.cells #[.slice none 0 0, .int .i64 0, .int .i64 0] 26)).heap.size = w.heap.size + 3 := by simp
  have hb := but_any _ n a n.msgs.length c 27 #[.pointer (some ⟨w.heap.size + 1, 0, none⟩)] (notOf id) (BoxAt (w.heap.size + 1) id) (hxs.gr hg) hs (cut_so _ _) cut_enters
    (fun A B hA hk => hk _ _ (by rw [hsz]; omega) rfl hA) hI
  have HB := Lib.hid hb
  have HZ := Lib.hid hZ
  have HN := Lib.hid hN
  have HG := Lib.hid hg
  have HSZ := Lib.hid hsz
  have hl1 : (n.msgs.filter (notOf id)).length ≤ n.msgs.length := List.length_filter_le _ _
  have hl2 := hs.1
  have HQ : Hid (cutNet n id = ⟨n.msgs.filter (notOf id), n.sent, wrap64 (n.lost + ((n.msgs.length : Int) - ((n.msgs.filter (notOf id)).length : Int)))⟩) := Lib.hid rfl
  generalize cutNet n id = q at *
  clear hb hZ hN hI hg hxs hs hsz
  show Calls Try.prog 12 #[.agg #[.slice a n.msgs.length c, .int .i64 n.sent, .int .i64 n.lost], .int .i64 id] w _
  generalize hys : n.msgs.filter (notOf id) = ys at *
  clear hys
  go_enter Try.func12, Try.ntmps12
  go_wp2_with fail
  refine HB.out.mono ?_
  rintro e w1 ⟨fv, rfl, hg1, ho1⟩
  obtain ⟨fa, fc, rfl, _, _⟩ := ho1.is.len
  have hZ1 := hg1.same HZ.out
  have hN1 := hg1.same HN.out
  have d0 := cell_block hZ1 (j := 0) rfl
  have d1 := cell_block hZ1 (j := 1) rfl
  have d2 := cell_block hZ1 (j := 2) rfl
  have e0 := frozen_block hZ1 (j := 0)
  have e1 := frozen_block hZ1 (j := 1)
  have e2 := frozen_block hZ1 (j := 2)
  have n0 := cell_block hN1 (j := 0) rfl
  have hz1 : w.heap.size + 3 ≤ w1.heap.size := by rw [← HSZ.out]; exact hg1.size
  have hz2 : w.heap.size < w1.heap.size := by omega
  have hz3 : w.heap.size + 1 < w1.heap.size := by omega
  have hz4 : w.heap.size + 2 < w1.heap.size := by omega
  have hz5 : w.heap.size + 1 + 1 < w1.heap.size := by omega
  have HZ1 := Lib.hid hZ1
  have HG1 := Lib.hid hg1
  have HO1 := Lib.hid ho1
  clear hZ1 hg1 ho1 hN1
  simp only [netV]
  go_wp2
  have hrow := rowAt_gr (Gr.alloc (Gr.refl _) (.cells #[.slice fa ys.length fc, .int .i64 n.sent, .int .i64 (wrap64 (n.lost + ((n.msgs.length : Int) - (ys.length : Int))))] 26))
    (rowAt_block (net_filled HZ1.out (.slice fa ys.length fc) (.int .i64 n.sent) (.int .i64 (wrap64 (n.lost + ((n.msgs.length : Int) - (ys.length : Int)))))) (n := 3) rfl)
  refine bodyPost_ret (results_row rfl Try.underlying26 rfl info26 rfl hrow) rfl ⟨.slice fa ys.length fc, by rw [HQ.out]; rfl, ?_, ?_⟩
  · exact Gr.alloc (Gr.set (Gr.set (Gr.set (HG.out.trans HG1.out) (by simp; omega) _) (by simp; omega) _) (by simp; omega) _) _
  · rw [HQ.out]
    have h6 := HO1.out
    rw [HSZ.out] at h6
    refine OwnMsgs.gr (Gr.alloc (Gr.refl _) _) (OwnMsgs.base (base := w.heap.size + 3) (by omega) (h6.keep fun q hq _ => ?_))
    rw [setCell_other _ (by omega), setCell_other _ (by omega), setCell_other _ (by omega)]
end Go.Proofs.Ytajghkjghiifjaa
