/-
  Walks: the law of a cut.
-/
import Derived.Test.YtajghkjghiifjaaWu
namespace Go.Proofs.Ytajghkjghiifjaa
open Go Go.RowKit
attribute [local go_sem ↓] opLoad31_eq opStore31_eq opRow1_eq opLoad31_in opStore31_in opRow1_in
attribute [local go_sem] Oper.semAt_some msgV opLoad31 opStore31 opRow1_msg rowAt_alloc_at rowAt_alloc_past rowAt_drew wholeAt_alloc_at wholeAt_alloc_past wholeAt_drew setRow_alloc_at setRow_alloc_past msg_0 msg_1 msg_2 msg_3 msg_9 msg_g0 msg_g1 msg_g2 msg_g3 msg_g9 msg_set9 msg_set3 msg_size msgCells_length msg_one_slice gr_alloc' gr_drew' gr_drewN' wholeAt_setCell rowAt_setCell cell_setRow frozen_setRow

theorem filter_at {p : Msg → Bool} {l : List Msg} {i : Nat} {x : Msg} (h : l[i]? = some x) (hp : p x = true) : (l.filter p)[((l.take i).filter p).length]? = some x := by
  have h1 : l = l.take i ++ x :: l.drop (i + 1) := by
    obtain ⟨hi, hx⟩ := List.getElem?_eq_some_iff.1 h
    rw [← hx, ← List.drop_eq_getElem_cons hi, List.take_append_drop]
  have h2 : l.filter p = (l.take i).filter p ++ x :: (l.drop (i + 1)).filter p := by
    conv => lhs; rw [h1]
    rw [List.filter_append, List.filter_cons_of_pos hp]
  rw [h2, List.getElem?_append_right (Nat.le_refl _), Nat.sub_self]; rfl
theorem filter_yes {p : Msg → Bool} {l : List Msg} {i : Nat} {x : Msg} (h : l[i]? = some x) (hp : p x = true) : ((l.take (i + 1)).filter p).length = ((l.take i).filter p).length + 1 := by
  rw [List.take_add_one, h, List.filter_append]; simp [hp]
theorem filter_no {p : Msg → Bool} {l : List Msg} {i : Nat} {x : Msg} (h : l[i]? = some x) (hp : p x = false) : ((l.take (i + 1)).filter p).length = ((l.take i).filter p).length := by
  rw [List.take_add_one, h, List.filter_append]; simp [hp]
theorem filter_lt {p : Msg → Bool} {l : List Msg} {i : Nat} {x : Msg} (h : l[i]? = some x) (hp : p x = true) : ((l.take i).filter p).length < (l.filter p).length :=
  (List.getElem?_eq_some_iff.1 (filter_at h hp)).1

theorem selUp_none {p : Msg → Bool} {xs : List Msg} (h : ∀ m ∈ xs, p m = false) : ∀ k, selUp p xs k = []
  | 0 => rfl
  | k + 1 => by
    have ih := selUp_none h k
    cases hx : xs[k]? with
    | none => simp [selUp, ih, hx]
    | some m => simp [selUp, ih, hx, h m (List.mem_of_getElem? hx)]
theorem for_cut (ms : List Msg) (id : Int) : forNet (ms.filter (notOf id)) id = [] := by
  unfold forNet
  rw [selUp_none]
  · rfl
  · intro m hm
    have := (List.mem_filter.1 hm).2
    simp [notOf] at this
    simp [toOf, this.1]
theorem cut_cut (n : Net) (id : Int) : cutNet (cutNet n id) id = cutNet n id := by
  have h : (n.msgs.filter (notOf id)).filter (notOf id) = n.msgs.filter (notOf id) := by rw [List.filter_filter]; congr 1; funext m; exact Bool.and_self _
  unfold cutNet
  simp only [h]
  congr 1
  unfold wrap64; omega
theorem cut_lost (a b c : Int) : (wrap64 (a + (b - c)) == IntKind.i64.wrap (IntKind.i64.wrap (a + b) - c)) = true := by
  rw [IntKind.wrap_i64, IntKind.wrap_i64, beq_iff_eq]; unfold wrap64; omega

set_option maxRecDepth 100000 in
set_option maxHeartbeats 2000000 in
theorem netCut_law (w : World) (n : Net) (v : Value) (id : Int) (hxs : InMsgs w v n.msgs) : Calls Try.prog 5 #[netV n v, .int .i64 id] w fun e w' => e = .returned (.bool true) ∧ Gr w w' := by
  obtain ⟨a, c, rfl, hc1, hc2⟩ := hxs.len
  have hG1 : Gr w (w.alloc (.cells #[.slice a n.msgs.length c, .int .i64 n.sent, .int .i64 n.lost] 26)) := Gr.alloc (Gr.refl w) _
  have hB := alloc1_heap w (.cells #[.slice a n.msgs.length c, .int .i64 n.sent, .int .i64 n.lost] 26)
  have HGT := Lib.hid (great_any _ _ _ (.int .i64 n.sent) (.int .i64 n.lost) n.msgs (hxs.gr hG1))
  have HX := Lib.hid hxs
  have HB := Lib.hid hB
  have HG1 := Lib.hid hG1
  clear hxs hB hG1
  show Calls Try.prog 5 #[.agg #[.slice a n.msgs.length c, .int .i64 n.sent, .int .i64 n.lost], .int .i64 id] w _
  go_enter Try.func5, Try.ntmps5
  go_wp2_with fail
  refine HGT.out.mono ?_
  rintro e w1 ⟨r, rfl, hfit, hg1⟩
  cases r with
  | true =>
    have HW := Lib.hid (wakes_any w1)
    have HG := Lib.hid (HG1.out.trans hg1)
    clear hfit hg1
    go_wp2_with fail
    refine HW.out.mono ?_
    rintro e w2 ⟨rfl, hg2⟩
    go_wp2
    go_ret
    exact ⟨rfl, HG.out.trans hg2⟩
  | false =>
    have hf := hfit rfl
    have hb1 := hg1.same HB.out
    have c0 := cell_block hb1 (j := 0) rfl
    have c1 := cell_block hb1 (j := 1) rfl
    have c2 := cell_block hb1 (j := 2) rfl
    have hlt : w.heap.size < w1.heap.size := (Array.getElem?_eq_some_iff.1 hb1).1
    have HCU := Lib.hid (cut_net w1 n (.slice a n.msgs.length c) id (HX.out.gr (HG1.out.trans hg1)) hf.small)
    have HF := Lib.hid hf
    have HB1 := Lib.hid hb1
    have HG := Lib.hid (HG1.out.trans hg1)
    clear hfit hg1 hf hb1 HGT HB HG1
    go_wp2_with fail
    refine HCU.out.mono ?_
    rintro e w2 ⟨ov, rfl, hg2, ho2⟩
    obtain ⟨oa, oc, rfl, _, _⟩ := ho2.is.len
    have HCN : Hid (cutNet n id = ⟨n.msgs.filter (notOf id), n.sent, wrap64 (n.lost + ((n.msgs.length : Int) - ((n.msgs.filter (notOf id)).length : Int)))⟩) := Lib.hid rfl
    rw [HCN.out] at *
    simp only [netV]
    have hb2 := hg2.same HB1.out
    clear c0 c1 c2 hlt
    have hlt : w.heap.size < w2.heap.size := (Array.getElem?_eq_some_iff.1 hb2).1
    obtain ⟨W, hW⟩ : ∃ W, w2.alloc (.cells #[.slice oa (n.msgs.filter (notOf id)).length oc, .int .i64 n.sent, .int .i64 (wrap64 (n.lost + ((n.msgs.length : Int) - ((n.msgs.filter (notOf id)).length : Int))))] 26) = W := ⟨_, rfl⟩
    have gW : Gr w2 W := by rw [← hW]; exact Gr.alloc (Gr.refl _) _
    have hbT := gW.same hb2
    have hbC : W.heap[w2.heap.size]? = some (.cells #[.slice oa (n.msgs.filter (notOf id)).length oc, .int .i64 n.sent, .int .i64 (wrap64 (n.lost + ((n.msgs.length : Int) - ((n.msgs.filter (notOf id)).length : Int))))] 26 (0, 0)) := by rw [← hW]; exact alloc1_heap _ _
    have HT := Lib.hid hbT
    have HC := Lib.hid hbC
    have HXW := Lib.hid ((HX.out.gr HG.out).gr (hg2.trans gW))
    have HOW := Lib.hid (ho2.inn.gr gW)
    have HGW := Lib.hid ((HG.out.trans hg2).trans gW)
    have HW := Lib.hid hW
    clear hb2 gW hbT hbC hW hg2 ho2 HX HG HB1 HCU
    go_wp2_with fail
    rw [HW.out]
    clear HW
    have hL := HF.out.1
    generalize hcl : (n.msgs.filter (notOf id)).length = cl at *
    have hclL : cl ≤ n.msgs.length := by rw [← hcl]; exact List.length_filter_le _ _
    have HCL := Lib.hid hcl
    clear hcl
    go_loopw [6, 7] (fun kv iv wr => ∃ i : Nat, iv = .int .i64 i ∧ kv = .int .i64 (((n.msgs.take i).filter (notOf id)).length : Nat) ∧ i ≤ n.msgs.length ∧ Gr W wr) (fun _ iv _ => n.msgs.length - (intOf iv).toNat)
    case atStart => exact ⟨0, rfl, rfl, Nat.zero_le _, Gr.refl _⟩
    case round =>
      obtain ⟨i, rfl, rfl, hi, hgr⟩ := hrel
      have hbT := hgr.same HT.out
      have hbC := hgr.same HC.out
      have t0 := cell_block hbT (j := 0) rfl
      have c0 := cell_block hbC (j := 0) rfl
      have hlT : w.heap.size < wr.heap.size := (Array.getElem?_eq_some_iff.1 hbT).1
      have hlC : w2.heap.size < wr.heap.size := (Array.getElem?_eq_some_iff.1 hbC).1
      by_cases hlt : i < n.msgs.length
      · obtain ⟨x, hx⟩ : ∃ x, n.msgs[i]? = some x := ⟨_, List.getElem?_eq_getElem hlt⟩
        obtain ⟨b, o, c', hv, _, _, hbS, hrows⟩ := HXW.out.some (by omega)
        simp only [Value.slice.injEq, true_and] at hv
        obtain ⟨rfl, rfl⟩ := hv
        obtain ⟨ev, rx, ex⟩ := hrows i x hx
        obtain ⟨ea, ec, rfl, _, _⟩ := ex.len
        have rx' := later_range hgr rx
        have m2 := rx' 2 _ (msg_2 x _)
        have m1 := rx' 1 _ (msg_1 x _)
        by_cases h2 : x.to = id
        · have h2' : (x.to == id) = true := by simp [h2]
          have hp : notOf id x = false := by simp [notOf, h2]
          have HX := Lib.hid hx
          have HP := Lib.hid hp
          have HGR := Lib.hid hgr
          clear h2 hp hx hrows rx rx' ex hgr hbT hbC
          go_wp2
          exact ⟨⟨i + 1, by go_num, by rw [filter_no HX.out HP.out], by omega, HGR.out⟩, by simp [intOf]; omega⟩
        · have h2' : (x.to == id) = false := by simp [h2]
          by_cases h1 : x.frm = id
          · have h1' : (x.frm == id) = true := by simp [h1]
            have hp : notOf id x = false := by simp [notOf, h1]
            have HX := Lib.hid hx
            have HP := Lib.hid hp
            have HGR := Lib.hid hgr
            clear h1 h2 hp hx hrows rx rx' ex hgr hbT hbC
            go_wp2
            exact ⟨⟨i + 1, by go_num, by rw [filter_no HX.out HP.out], by omega, HGR.out⟩, by simp [intOf]; omega⟩
          · have h1' : (x.frm == id) = false := by simp [h1]
            have hp : notOf id x = true := by simp [notOf, h1, h2]
            have hfa := filter_at hx hp
            have hfl := filter_lt hx hp
            have hfy := filter_yes hx hp
            rw [HCL.out] at hfl
            generalize ((n.msgs.take i).filter (notOf id)).length = k at *
            have hml : (n.msgs.filter (notOf id)).length = cl := HCL.out
            obtain ⟨ob, oo, oc', hv, _, _, _, horows⟩ := HOW.out.some (by show 0 < (n.msgs.filter (notOf id)).length; omega)
            simp only [Value.slice.injEq] at hv
            obtain ⟨rfl, _, rfl⟩ := hv
            obtain ⟨ov, ro, eo⟩ := horows k x hfa
            obtain ⟨za, zc, rfl, _, _⟩ := eo.len
            have lx := opLoad_msg (later_range (hgr.drew) ro)
            have ly := opLoad_msg (later_range (hgr.drew) rx)
            have hsx := HF.out.small.2 x (List.mem_of_getElem? hx)
            have HE := Lib.hid (alike20_any wr.drew _ _ x x (.slice za x.ents.length zc) (.slice ea x.ents.length ec) (eo.gr hgr.drew) (ex.gr hgr.drew) hsx hsx)
            have HX := Lib.hid hx
            have HP := Lib.hid hp
            have HGR := Lib.hid hgr
            have HFY := Lib.hid hfy
            clear h1 h2 hp hx hrows rx rx' ex hgr hbT hbC hfa hfy hml horows ro eo hsx
            go_wp2_with fail
            go_still_tail 16, (by kernel_rfl)
            go_wp2_with (go_at_call 15; refine HE.out.mono ?_; rintro e w1 ⟨rfl, hg1⟩)
            exact ⟨⟨i + 1, by go_num, by rw [HFY.out]; congr 1, by omega, (HGR.out.drew).trans hg1⟩, by simp [intOf]; omega⟩
      · obtain rfl : i = n.msgs.length := by omega
        have hk : ((n.msgs.take n.msgs.length).filter (notOf id)).length = cl := by rw [List.take_length]; exact HCL.out
        rw [hk]
        have t1 := cell_block hbT (j := 1) rfl
        have t2 := cell_block hbT (j := 2) rfl
        have HFN := Lib.hid (for_net wr n (.slice a n.msgs.length c) id (HXW.out.gr hgr) HF.out.small)
        have HT2 := Lib.hid hbT
        have HC2 := Lib.hid hbC
        have HGR := Lib.hid hgr
        clear hgr hbT hbC hk
        go_wp2_with fail
        refine HFN.out.mono ?_
        rintro e w4 ⟨fv, rfl, hg4, ho4⟩
        obtain ⟨fa, fc, rfl⟩ := owns_slice ho4
        have hfl : (forNet n.msgs id).length = (selUp (toOf id) n.msgs n.msgs.length).length := by simp [forNet]
        have hflL := selUp_length (toOf id) n.msgs n.msgs.length
        rw [hfl] at ho4 ⊢
        have HII := Lib.hid (OwnInts.is ho4)
        have HT4 := Lib.hid (hg4.same HT2.out)
        have HC4 := Lib.hid (hg4.same HC2.out)
        have HG4 := Lib.hid (HGR.out.trans hg4)
        have HFL := Lib.hid hfl
        clear hg4 ho4 HT2 HC2 HGR t0 t1 t2 c0 hlT hlC hfl
        generalize hfl2 : (selUp (toOf id) n.msgs n.msgs.length).length = fl at *
        have HFL2 := Lib.hid hfl2
        clear hfl2
        go_wp2_with fail
        go_loopw [9, 10] (fun jv iv wr => ∃ i : Nat, iv = .int .i64 i ∧ jv = .int .i64 ((selUp (toOf id) n.msgs i).length : Nat) ∧ i ≤ n.msgs.length ∧ Gr w4 wr) (fun _ iv _ => n.msgs.length - (intOf iv).toNat)
        case atStart => exact ⟨0, rfl, rfl, Nat.zero_le _, Gr.refl _⟩
        case round =>
          obtain ⟨i, rfl, rfl, hi, hgr⟩ := hrel
          have hbT := hgr.same HT4.out
          have t0 := cell_block hbT (j := 0) rfl
          have hlT : w.heap.size < wr.heap.size := (Array.getElem?_eq_some_iff.1 hbT).1
          by_cases hlt : i < n.msgs.length
          · obtain ⟨x, hx⟩ : ∃ x, n.msgs[i]? = some x := ⟨_, List.getElem?_eq_getElem hlt⟩
            obtain ⟨b, o, c', hv, _, _, hbS, hrows⟩ := HXW.out.some (by omega)
            simp only [Value.slice.injEq, true_and] at hv
            obtain ⟨rfl, rfl⟩ := hv
            obtain ⟨ev, rx, ex⟩ := hrows i x hx
            have rx' := later_range (HG4.out.trans hgr) rx
            have m2 := rx' 2 _ (msg_2 x _)
            by_cases h2 : x.to = id
            · have h2' : (x.to != id) = false := by simp [h2]
              have hp : toOf id x = true := by simp [toOf, h2]
              have hat := selUp_at hx hp hlt
              have hslt := selUp_lt hx hp hlt
              have hsy := selUp_yes hx hp
              have hsy' : (selUp (toOf id) n.msgs (i + 1)).length = (selUp (toOf id) n.msgs i).length + 1 := by rw [hsy]; simp
              rw [HFL2.out] at hslt
              generalize (selUp (toOf id) n.msgs i).length = j at *
              obtain ⟨fb, fo, fc', hfv, _, _, _, hfs⟩ := HII.out.some (by rw [HFL.out]; omega)
              simp only [Value.slice.injEq] at hfv
              obtain ⟨rfl, hzz, rfl⟩ := hfv
              clear hzz
              have hfj := later_cell hgr (hfs j i (by simp [forNet, hat]))
              have HSY := Lib.hid hsy'
              have HGR := Lib.hid hgr
              clear h2 hp hx hrows rx rx' ex hgr hbT hat hsy hsy' hfs
              have hii : ((i : Int) != (i : Int)) = false := by simp
              go_wp2
              exact ⟨⟨i + 1, by go_num, by rw [HSY.out]; congr 1, by omega, HGR.out⟩, by simp [intOf]; omega⟩
            · have h2' : (x.to != id) = true := by simp [h2]
              have hp : toOf id x = false := by simp [toOf, h2]
              have hsn := selUp_no hx hp
              have HSN := Lib.hid hsn
              have HGR := Lib.hid hgr
              clear h2 hp hx hrows rx rx' ex hgr hbT hsn
              go_wp2
              exact ⟨⟨i + 1, by go_num, by rw [HSN.out], by omega, HGR.out⟩, by simp [intOf]; omega⟩
          · obtain rfl : i = n.msgs.length := by omega
            rw [HFL2.out]
            have hg5 := HG4.out.trans hgr
            have hC := hgr.same HC4.out
            go_wp2_with fail
            have t1 := cell_block hbT (j := 1) rfl
            have t2 := cell_block hbT (j := 2) rfl
            have c0 := cell_block hC (j := 0) rfl
            have c1 := cell_block hC (j := 1) rfl
            have c2 := cell_block hC (j := 2) rfl
            have hml : (cutNet n id).msgs.length = cl := HCL.out
            have hval : ∀ z, netV (cutNet n id) z = .agg #[z, .int .i64 n.sent, .int .i64 (wrap64 (n.lost + ((n.msgs.length : Int) - (cl : Int))))] := fun z => by
              rw [← HCL.out]; rfl
            have how : InMsgs W (.slice oa cl oc) (cutNet n id).msgs := by
              have := HOW.out; rwa [hml] at this
            have hsm : Small (cutNet n id).msgs := HF.out.small.filter _
            have kS : ∀ X Y, (Gr wr X ∧ X.cell? ⟨w.heap.size, 0, none⟩ = some (.slice a n.msgs.length c) ∧ X.cell? ⟨w.heap.size, 1, none⟩ = some (.int .i64 n.sent) ∧ X.cell? ⟨w.heap.size, 2, none⟩ = some (.int .i64 n.lost) ∧
                X.cell? ⟨w2.heap.size, 0, none⟩ = some (.slice oa cl oc) ∧ X.cell? ⟨w2.heap.size, 1, none⟩ = some (.int .i64 n.sent) ∧ X.cell? ⟨w2.heap.size, 2, none⟩ = some (.int .i64 (wrap64 (n.lost + ((n.msgs.length : Int) - (cl : Int)))))) → Gr X Y →
                (Gr wr Y ∧ Y.cell? ⟨w.heap.size, 0, none⟩ = some (.slice a n.msgs.length c) ∧ Y.cell? ⟨w.heap.size, 1, none⟩ = some (.int .i64 n.sent) ∧ Y.cell? ⟨w.heap.size, 2, none⟩ = some (.int .i64 n.lost) ∧
                Y.cell? ⟨w2.heap.size, 0, none⟩ = some (.slice oa cl oc) ∧ Y.cell? ⟨w2.heap.size, 1, none⟩ = some (.int .i64 n.sent) ∧ Y.cell? ⟨w2.heap.size, 2, none⟩ = some (.int .i64 (wrap64 (n.lost + ((n.msgs.length : Int) - (cl : Int)))))) :=
              fun X Y h hg => ⟨h.1.trans hg, later_cell hg h.2.1, later_cell hg h.2.2.1, later_cell hg h.2.2.2.1, later_cell hg h.2.2.2.2.1, later_cell hg h.2.2.2.2.2.1, later_cell hg h.2.2.2.2.2.2⟩
            have HK := Lib.hid kS
            have HK0 := Lib.hid (kS wr wr.drew ⟨Gr.refl _, t0, t1, t2, c0, c1, c2⟩ (Gr.drew (Gr.refl _)))
            have HFO := Lib.hid (fun X (h : Gr wr X) => for_net X (cutNet n id) (.slice oa cl oc) id (how.gr (hg5.trans h)) hsm)
            have HCT := Lib.hid (fun X (h : Gr wr X) => cut_net X (cutNet n id) (.slice oa cl oc) id (how.gr (hg5.trans h)) hsm)
            have HSA := Lib.hid (fun X (h : Gr wr X) z (hz : InMsgs X z (cutNet n id).msgs) => refSame_any X _ _ z (.slice oa cl oc) (cutNet n id) (cutNet n id) hz (how.gr (hg5.trans h)) hsm hsm)
            simp only [hval, decide_true] at HFO HCT HSA
            have HGR := Lib.hid (HGW.out.trans hg5)
            have HFC : Hid (forNet (cutNet n id).msgs id = []) := Lib.hid (for_cut n.msgs id)
            have HVAL := Lib.hid hval
            have HML := Lib.hid hml
            have q1 : ((cl : Int) == (cl : Int)) = true := beq_self_eq_true _
            have q2 : ((fl : Int) == (fl : Int)) = true := beq_self_eq_true _
            have q3 := cut_lost n.lost n.msgs.length cl
            have q4 : (n.sent == n.sent) = true := beq_self_eq_true _
            clear kS hg5 hC t0 t1 t2 c0 c1 c2 hml how hsm hbT hgr hval
            go_region_held3 (fun X => Gr wr X ∧ X.cell? ⟨w.heap.size, 0, none⟩ = some (.slice a n.msgs.length c) ∧ X.cell? ⟨w.heap.size, 1, none⟩ = some (.int .i64 n.sent) ∧ X.cell? ⟨w.heap.size, 2, none⟩ = some (.int .i64 n.lost) ∧
                X.cell? ⟨w2.heap.size, 0, none⟩ = some (.slice oa cl oc) ∧ X.cell? ⟨w2.heap.size, 1, none⟩ = some (.int .i64 n.sent) ∧ X.cell? ⟨w2.heap.size, 2, none⟩ = some (.int .i64 (wrap64 (n.lost + ((n.msgs.length : Int) - (cl : Int))))))
              (first | exact HK0.out | exact HK.out _ _ (by assumption) (by assumption))
              (first
                | (go_at_call 16; refine (HFO.out _ ((by assumption : (Gr wr _ ∧ _)).1)).mono ?_; rintro e w5 ⟨r5, rfl, hg5, ho5⟩; rw [HFC.out] at ho5; obtain ⟨ra, rc, rfl⟩ := owns_slice ho5)
                | (go_at_call 12; refine (HCT.out _ ((by assumption : (Gr wr _ ∧ _)).1)).mono ?_; rintro e w6 ⟨r6, rfl, hg6, ho6⟩; rw [cut_cut] at ho6 ⊢; rw [HVAL.out])
                | (go_at_call 17; refine (HSA.out _ ((by assumption : (Gr wr _ ∧ _)).1) _ ho6.inn).mono ?_; rintro e w7 ⟨rfl, hg7⟩)
                | (go_at_call 7; refine (wakes_any _).mono ?_; rintro e w8 ⟨rfl, hg8⟩))
            all_goals
              go_wp2
              go_ret
              exact ⟨rfl, HGR.out.trans ((by assumption : (Gr wr _ ∧ _)).1)⟩
end Go.Proofs.Ytajghkjghiifjaa
