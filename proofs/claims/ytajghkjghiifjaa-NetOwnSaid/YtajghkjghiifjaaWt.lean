/-
  Walks: a message lost; a message sent again.
-/
import Derived.Test.YtajghkjghiifjaaWs
namespace Go.Proofs.Ytajghkjghiifjaa
open Go Go.RowKit
attribute [local go_sem ↓] opLoad31_eq opStore31_eq opRow1_eq opLoad31_in opStore31_in opRow1_in
attribute [local go_sem] Oper.semAt_some msgV opLoad31 opStore31 opRow1_msg rowAt_alloc_at rowAt_alloc_past rowAt_drew wholeAt_alloc_at wholeAt_alloc_past wholeAt_drew setRow_alloc_at setRow_alloc_past msg_0 msg_1 msg_2 msg_3 msg_9 msg_g0 msg_g1 msg_g2 msg_g3 msg_g9 msg_set9 msg_set3 msg_size msgCells_length msg_one_slice gr_alloc' gr_drew' gr_drewN' wholeAt_setCell rowAt_setCell cell_setRow frozen_setRow

/-- Lose. -/
def loseNet (n : Net) (at' : Int) : Net := ⟨n.msgs.eraseIdx (spot n.msgs.length at'), n.sent, if n.msgs.length ≠ 0 then wrap64 (n.lost + 1) else n.lost⟩

set_option maxRecDepth 100000 in
set_option maxHeartbeats 1000000 in
theorem lose_net (w : World) (n : Net) (v : Value) (at' : Int) (hxs : InMsgs w v n.msgs) (hs : Small n.msgs) :
    Calls Try.prog 10 #[netV n v, .int .i64 at'] w (OwnNetPost (loseNet n at') w) := by
  obtain ⟨a, c, rfl, hc1, hc2⟩ := hxs.len
  have hG2 : Gr w ((w.alloc (.cells #[.slice a n.msgs.length c, .int .i64 n.sent, .int .i64 n.lost] 26)).alloc (.cells #[.slice none 0 0, .int .i64 0, .int .i64 0] 26)) := Gr.alloc (Gr.alloc (Gr.refl w) _) _
  have hZ2 : ((w.alloc (.cells #[.slice a n.msgs.length c, .int .i64 n.sent, .int .i64 n.lost] 26)).alloc (.cells #[.slice none 0 0, .int .i64 0, .int .i64 0] 26)).heap.size = w.heap.size + 1 + 1 := by simp
  have hB := alloc2_heap1 w (.cells #[.slice a n.msgs.length c, .int .i64 n.sent, .int .i64 n.lost] 26) (.cells #[.slice none 0 0, .int .i64 0, .int .i64 0] 26)
  have HP := Lib.hid (pull_net _ n (.slice a n.msgs.length c) at' (hxs.gr hG2) hs)
  have hL := hs.1
  have HG2 := Lib.hid hG2
  have HZ2 := Lib.hid hZ2
  have HB := Lib.hid hB
  clear hG2 hB hZ2 hxs hs
  show Calls Try.prog 10 #[.agg #[.slice a n.msgs.length c, .int .i64 n.sent, .int .i64 n.lost], .int .i64 at'] w _
  go_enter Try.func10, Try.ntmps10
  go_wp2_with fail
  refine HP.out.mono ?_
  rintro e w1 ⟨ov, fv, rfl, hg1, ho1, hf1⟩
  obtain ⟨oa, oc, rfl, _, _⟩ := ho1.is.len
  obtain ⟨ma, mc, rfl⟩ := owns_slice hf1
  have hB1 := hg1.same HB.out
  have d0 := cell_block hB1 (j := 0) rfl
  have d1 := cell_block hB1 (j := 1) rfl
  have d2 := cell_block hB1 (j := 2) rfl
  have e0 := frozen_block hB1 (j := 0)
  have e1 := frozen_block hB1 (j := 1)
  have e2 := frozen_block hB1 (j := 2)
  have hy1 : w.heap.size + 1 + 1 ≤ w1.heap.size := by rw [← HZ2.out]; exact hg1.size
  have hy2 : w.heap.size < w1.heap.size := by omega
  have hy3 : w.heap.size + 1 < w1.heap.size := by omega
  have hgw := HG2.out.trans hg1
  rw [HZ2.out] at ho1
  have HB1 := Lib.hid hB1
  have HG1 := Lib.hid hgw
  have HO1 := Lib.hid ho1
  clear hB1 hg1 hgw ho1 hf1 HB HG2 HP
  have HQ : Hid (pullNet n at' = ⟨n.msgs.eraseIdx (spot n.msgs.length at'), n.sent, n.lost⟩) := Lib.hid rfl
  rw [HQ.out] at HO1 ⊢
  by_cases hk : n.msgs.length = 0
  · have hok : pullOk n = false := by simp [pullOk, hk]
    have hls : loseNet n at' = ⟨n.msgs.eraseIdx (spot n.msgs.length at'), n.sent, n.lost⟩ := by simp [loseNet, hk]
    rw [hok]
    have HLS := Lib.hid hls
    clear hok hls
    simp only [netV]
    generalize n.msgs.eraseIdx (spot n.msgs.length at') = ms at *
    generalize pullMsg n at' = pm at *
    go_wp2
    have hrow := rowAt_gr (Gr.alloc (Gr.alloc (Gr.refl _) (.cells #[.slice oa ms.length oc, .int .i64 n.sent, .int .i64 (n.lost)] 26)) (.cells (msgCells pm (.slice ma pm.ents.length mc)).toArray 31))
      (rowAt_block (net_filled HB1.out (.slice oa ms.length oc) (.int .i64 n.sent) (.int .i64 (n.lost))) (n := 3) rfl)
    refine bodyPost_ret (results_row rfl Try.underlying26 rfl info26 rfl hrow) rfl ⟨.slice oa ms.length oc, by rw [HLS.out]; rfl, ?_, ?_⟩
    · exact Gr.alloc (Gr.alloc (Gr.set (Gr.set (Gr.set HG1.out (by simp) _) (by simp) _) (by simp) _) _) _
    · rw [HLS.out]
      refine OwnMsgs.gr (Gr.alloc (Gr.alloc (Gr.refl _) _) _) (OwnMsgs.base (base := w.heap.size + 1 + 1) (by omega) (HO1.out.keep fun q hq _ => ?_))
      rw [setCell_other _ (by omega), setCell_other _ (by omega), setCell_other _ (by omega)]
  · have hok : pullOk n = true := by simp [pullOk, hk]
    have hls : loseNet n at' = ⟨n.msgs.eraseIdx (spot n.msgs.length at'), n.sent, wrap64 (n.lost + 1)⟩ := by simp [loseNet, hk]
    rw [hok]
    have HLS := Lib.hid hls
    clear hok hls
    simp only [netV]
    generalize n.msgs.eraseIdx (spot n.msgs.length at') = ms at *
    generalize pullMsg n at' = pm at *
    go_wp2
    have hrow := rowAt_gr (Gr.alloc (Gr.alloc (Gr.refl _) (.cells #[.slice oa ms.length oc, .int .i64 n.sent, .int .i64 (wrap64 (n.lost + 1))] 26)) (.cells (msgCells pm (.slice ma pm.ents.length mc)).toArray 31))
      (rowAt_block (net_filled HB1.out (.slice oa ms.length oc) (.int .i64 n.sent) (.int .i64 (wrap64 (n.lost + 1)))) (n := 3) rfl)
    refine bodyPost_ret (results_row rfl Try.underlying26 rfl info26 rfl hrow) rfl ⟨.slice oa ms.length oc, by rw [HLS.out]; rfl, ?_, ?_⟩
    · exact Gr.alloc (Gr.alloc (Gr.set (Gr.set (Gr.set HG1.out (by simp) _) (by simp) _) (by simp) _) _) _
    · rw [HLS.out]
      refine OwnMsgs.gr (Gr.alloc (Gr.alloc (Gr.refl _) _) _) (OwnMsgs.base (base := w.heap.size + 1 + 1) (by omega) (HO1.out.keep fun q hq _ => ?_))
      rw [setCell_other _ (by omega), setCell_other _ (by omega), setCell_other _ (by omega)]

/-- Again: the net, -/
def againNet (n : Net) (at' : Int) : Net := if 60 ≤ n.msgs.length ∨ n.msgs.length = 0 then n else pushNet n [pullMsg n at']
/-- .. and the word. -/
def againErr (n : Net) : Int := if 60 ≤ n.msgs.length then 270 else 0
def AgainPost (n : Net) (at' : Int) (w : World) (e : Ending) (w' : World) : Prop :=
  ∃ v, e = .returned (.tuple #[netV (againNet n at') v, .int .i64 (againErr n)]) ∧ Gr w w' ∧ OwnMsgs w.heap.size w' v (againNet n at').msgs

/-- A message by itself is a row. -/
theorem is_one {w : World} {S : Nat → Prop} {b : Nat} {m : Msg} {ev : Value} (hb : S b) (hr : w.rangeAt b 0 (msgCells m ev)) (he : IsEnts S w ev m.ents) : IsMsgs S w (.slice (some ⟨b, 0, none⟩) 1 1) [m] := by
  refine ⟨[ev], rfl, ⟨fun x hx => ?_, .inr ⟨b, 0, 1, rfl, Nat.le_refl _, by decide, hb, ?_⟩⟩, fun i m' ev' hm hv => ?_⟩
  · simp at hx; subst hx; rfl
  · simpa using hr
  · cases i with
    | zero => simp at hm hv; subst hm hv; exact he
    | succ i => simp at hm

set_option maxRecDepth 100000 in
set_option maxHeartbeats 1000000 in
theorem again_net (w : World) (n : Net) (v : Value) (at' : Int) (hxs : InMsgs w v n.msgs) (hs : Small n.msgs) :
    Calls Try.prog 11 #[netV n v, .int .i64 at'] w (AgainPost n at' w) := by
  obtain ⟨a, c, rfl, hc1, hc2⟩ := hxs.len
  have hG2 : Gr w ((w.alloc (.cells #[.slice a n.msgs.length c, .int .i64 n.sent, .int .i64 n.lost] 26)).alloc (.cells #[.slice none 0 0, .int .i64 0, .int .i64 0] 26)) := Gr.alloc (Gr.alloc (Gr.refl w) _) _
  have hZ2 : ((w.alloc (.cells #[.slice a n.msgs.length c, .int .i64 n.sent, .int .i64 n.lost] 26)).alloc (.cells #[.slice none 0 0, .int .i64 0, .int .i64 0] 26)).heap.size = w.heap.size + 1 + 1 := by simp
  have hT := alloc2_heap0 w (.cells #[.slice a n.msgs.length c, .int .i64 n.sent, .int .i64 n.lost] 26) (.cells #[.slice none 0 0, .int .i64 0, .int .i64 0] 26)
  have hB := alloc2_heap1 w (.cells #[.slice a n.msgs.length c, .int .i64 n.sent, .int .i64 n.lost] 26) (.cells #[.slice none 0 0, .int .i64 0, .int .i64 0] 26)
  have hL := hs.1
  have HP := Lib.hid (fun W => place_any W n a n.msgs.length c at' hs.1)
  have HX := Lib.hid hxs
  have HS := Lib.hid hs
  have HG2 := Lib.hid hG2
  have HZ2 := Lib.hid hZ2
  have HT := Lib.hid hT
  have HB := Lib.hid hB
  clear hG2 hB hZ2 hxs hs hT
  show Calls Try.prog 11 #[.agg #[.slice a n.msgs.length c, .int .i64 n.sent, .int .i64 n.lost], .int .i64 at'] w _
  go_enter Try.func11, Try.ntmps11
  go_wp2_with fail
  refine (HP.out _).mono ?_
  rintro e w1 ⟨rfl, hg1⟩
  have hT1 := hg1.same HT.out
  have hB1 := hg1.same HB.out
  have c0 := cell_block hT1 (j := 0) rfl
  have c1 := cell_block hT1 (j := 1) rfl
  have c2 := cell_block hT1 (j := 2) rfl
  have hy1 : w.heap.size + 1 + 1 ≤ w1.heap.size := by rw [← HZ2.out]; exact hg1.size
  have hy2 : w.heap.size < w1.heap.size := by omega
  have hy3 : w.heap.size + 1 < w1.heap.size := by omega
  have hgw := HG2.out.trans hg1
  have HX1 := Lib.hid (HX.out.gr hgw)
  have HB1 := Lib.hid hB1
  have HT1 := Lib.hid hT1
  have HG1 := Lib.hid hgw
  clear hB1 hg1 hgw hT1 HB HT HG2 HP HX
  by_cases h60 : 60 ≤ n.msgs.length
  · have h0 : n.msgs.length ≠ 0 := by omega
    have hq : againNet n at' = n := by simp [againNet, h60]
    have he : againErr n = 270 := by simp [againErr, h60]
    have HQ := Lib.hid hq
    have HE := Lib.hid he
    clear hq he
    rw [if_neg h0]
    have hO := own_net w1 n (.slice a n.msgs.length c) HX1.out HS.out
    have HO := Lib.hid hO
    clear hO
    go_wp2_with fail
    refine HO.out.mono ?_
    rintro e w2 ⟨fv, rfl, hg2, ho2⟩
    obtain ⟨fa, fc, rfl, _, _⟩ := ho2.is.len
    have hB2 := hg2.same HB1.out
    have d0 := cell_block hB2 (j := 0) rfl
    have d1 := cell_block hB2 (j := 1) rfl
    have d2 := cell_block hB2 (j := 2) rfl
    have e0 := frozen_block hB2 (j := 0)
    have e1 := frozen_block hB2 (j := 1)
    have e2 := frozen_block hB2 (j := 2)
    have hy4 : w.heap.size + 1 < w2.heap.size := by have := hg2.size; omega
    have HB2 := Lib.hid hB2
    have HG2 := Lib.hid hg2
    have HO2 := Lib.hid ho2
    clear hB2 hg2 ho2
    simp only [netV]
    go_wp2
    refine bodyPost_ret (results_row_tmp rfl Try.underlying26 rfl info26 rfl (rowAt_block (net_filled HB2.out (.slice fa n.msgs.length fc) (.int .i64 n.sent) (.int .i64 n.lost)) (n := 3) rfl)) rfl ⟨.slice fa n.msgs.length fc, by rw [HQ.out, HE.out]; rfl, ?_, ?_⟩
    · exact Gr.set (Gr.set (Gr.set (HG1.out.trans HG2.out) (by simp) _) (by simp) _) (by simp) _
    · rw [HQ.out]
      refine OwnMsgs.base (base := w1.heap.size) (by omega) (HO2.out.keep fun q hq _ => ?_)
      rw [setCell_other _ (by omega), setCell_other _ (by omega), setCell_other _ (by omega)]
  · by_cases h0 : n.msgs.length = 0
    · skip
      have hq : againNet n at' = n := by simp [againNet, h0]
      have he : againErr n = 0 := by simp [againErr, h60]
      have HQ := Lib.hid hq
      have HE := Lib.hid he
      clear hq he
      rw [if_pos h0]
      have hO := own_net w1 n (.slice a n.msgs.length c) HX1.out HS.out
      have HO := Lib.hid hO
      clear hO
      go_wp2_with fail
      have h7 := HO.out
      rw [show netV n (.slice a n.msgs.length c) = .agg #[.slice a 0 c, .int .i64 n.sent, .int .i64 n.lost] by rw [h0]; rfl] at h7
      refine h7.mono ?_
      rintro e w2 ⟨fv, rfl, hg2, ho2⟩
      obtain ⟨fa, fc, rfl, _, _⟩ := ho2.is.len
      have hB2 := hg2.same HB1.out
      have d0 := cell_block hB2 (j := 0) rfl
      have d1 := cell_block hB2 (j := 1) rfl
      have d2 := cell_block hB2 (j := 2) rfl
      have e0 := frozen_block hB2 (j := 0)
      have e1 := frozen_block hB2 (j := 1)
      have e2 := frozen_block hB2 (j := 2)
      have hy4 : w.heap.size + 1 < w2.heap.size := by have := hg2.size; omega
      have HB2 := Lib.hid hB2
      have HG2 := Lib.hid hg2
      rw [h0] at ho2
      have HO2 := Lib.hid ho2
      clear hB2 hg2 ho2
      simp only [netV]
      go_wp2
      refine bodyPost_ret (results_row_tmp rfl Try.underlying26 rfl info26 rfl (rowAt_block (net_filled HB2.out (.slice fa 0 fc) (.int .i64 n.sent) (.int .i64 n.lost)) (n := 3) rfl)) rfl ⟨.slice fa 0 fc, by rw [HQ.out, HE.out]; rfl, ?_, ?_⟩
      · exact Gr.set (Gr.set (Gr.set (HG1.out.trans HG2.out) (by simp) _) (by simp) _) (by simp) _
      · rw [HQ.out]
        refine OwnMsgs.base (base := w1.heap.size) (by omega) (HO2.out.keep fun q hq _ => ?_)
        rw [setCell_other _ (by omega), setCell_other _ (by omega), setCell_other _ (by omega)]
    · rw [if_neg h0]
      have hklt := spot_lt h0 at'
      obtain ⟨m, hm⟩ : ∃ m, n.msgs[spot n.msgs.length at']? = some m := ⟨_, List.getElem?_eq_getElem hklt⟩
      have hm' : pullMsg n at' = m := by simp [pullMsg, List.getD, hm]
      have hq : againNet n at' = pushNet n [m] := by simp [againNet, h60, h0, hm']
      have hroom : room n [m] = 1 := by simp [room]; omega
      have he : againErr n = pushErr n [m] := by simp [againErr, h60, pushErr, hroom]
      generalize spot n.msgs.length at' = k at *
      obtain ⟨b, o, c', hv, _, _, hbS, hx⟩ := HX1.out.some (by omega)
      simp only [Value.slice.injEq, true_and] at hv
      obtain ⟨rfl, rfl⟩ := hv
      obtain ⟨ev, rx, ex⟩ := hx k m hm
      obtain ⟨ea, ec, rfl, _, _⟩ := ex.len
      have r6 := msg_row (Gr.refl w1) rx
      have hms := HS.out.2 m (List.mem_of_getElem? hm)
      have hgA : Gr w1 (w1.drew.alloc (.cells (msgCells m (.slice ea m.ents.length ec)).toArray 31)) := Gr.alloc (Gr.drew (Gr.refl w1)) _
      have hI1 : InMsgs (w1.drew.alloc (.cells (msgCells m (.slice ea m.ents.length ec)).toArray 31)) (.slice (some ⟨w1.heap.size, 0, none⟩) 1 1) [m] :=
        is_one (by show w1.heap.size < (w1.drew.alloc _).heap.size; simp) (range_row (alloc1_heap w1.drew _)) (SL.mono (IsEnts.gr hgA ex) fun q (hq : q < w1.heap.size) => by show q < (w1.drew.alloc _).heap.size; simp; omega)
      have HPU := Lib.hid (push_net _ n _ _ [m] (HX1.out.gr hgA) HS.out hI1 ⟨by simp, fun m' hm1 => by simp at hm1; subst hm1; exact hms⟩)
      have HQ := Lib.hid hq
      have HE := Lib.hid he
      have HGA := Lib.hid hgA
      clear hq he hx rx ex hI1 hgA hm
      have hkl := hklt
      clear hklt
      go_wp2_with fail
      go_region_law (go_simp; refine HPU.out.mono ?_; rintro e w2 ⟨fv, rfl, hg2, ho2⟩; obtain ⟨fa, fc, rfl, _, _⟩ := ho2.is.len; have hB2 := (HGA.out.trans hg2).same HB1.out; have d0 := cell_block hB2 (j := 0) rfl; have d1 := cell_block hB2 (j := 1) rfl; have d2 := cell_block hB2 (j := 2) rfl; have e0 := frozen_block hB2 (j := 0); have e1 := frozen_block hB2 (j := 1); have e2 := frozen_block hB2 (j := 2); have hy4 : w.heap.size + 1 < w2.heap.size := (Array.getElem?_eq_some_iff.1 hB2).1; have HB2 := Lib.hid hB2; have HG2 := Lib.hid hg2; have HO2 := Lib.hid ho2; clear hB2 hg2 ho2; simp only [netV])
      all_goals
        go_wp2
        refine bodyPost_ret (results_row_tmp rfl Try.underlying26 rfl info26 rfl (rowAt_block (net_filled HB2.out (.slice fa (pushNet n [m]).msgs.length fc) (.int .i64 (pushNet n [m]).sent) (.int .i64 (pushNet n [m]).lost)) (n := 3) rfl)) rfl ⟨.slice fa (pushNet n [m]).msgs.length fc, by rw [HQ.out, HE.out]; rfl, ?_, ?_⟩
        · exact Gr.set (Gr.set (Gr.set (HG1.out.trans (HGA.out.trans HG2.out)) (by simp) _) (by simp) _) (by simp) _
        · rw [HQ.out]
          have hle := HGA.out.size
          refine OwnMsgs.base (base := (w1.drew.alloc (.cells (msgCells m (.slice ea m.ents.length ec)).toArray 31)).heap.size) (by omega) (HO2.out.keep fun q hq _ => ?_)
          have hq' := Nat.le_trans hle hq
          rw [setCell_other _ (by omega), setCell_other _ (by omega), setCell_other _ (by omega)]
end Go.Proofs.Ytajghkjghiifjaa
