/-
  Walks: the law that counts.
-/
import Derived.Test.YtajghkjghiifjaaWx
namespace Go.Proofs.Ytajghkjghiifjaa
open Go Go.RowKit

theorem Try.info33 : (Try.prog.info? 33).map (·.size) = some 18 := by kernel_rfl
theorem opLoad33_eq (ρ : Operand → Value) (dst : Option Tmp) (x : Operand) (ty : TypeId) (pos : String) (af : Array Edge) (gd : Option (Nat × Bool)) (w : World) :
    (execOp ρ ⟨dst, .load 33 x, ty, pos, af, gd⟩).run Try.prog w = opLoad Try.prog 33 (ρ x) w := by with_unfolding_all rfl
theorem opStore33_eq (ρ : Operand → Value) (dst : Option Tmp) (x y : Operand) (ty : TypeId) (pos : String) (af : Array Edge) (gd : Option (Nat × Bool)) (w : World) :
    (execOp ρ ⟨dst, .store 33 x y, ty, pos, af, gd⟩).run Try.prog w = opStore Try.prog 33 (ρ x) (ρ y) w := by with_unfolding_all rfl
theorem opLoad33 (b o : Nat) (w : World) : opLoad Try.prog 33 (.pointer (some ⟨b, o, none⟩)) w = match rowAt w b o 18 with
      | some cs => .ok (.value (.agg cs)) w
      | none => rawLoad Try.prog 33 b o w := opLoad_of Try.underlying33 rfl Try.info33 b o w
theorem opStore33 (b : Nat) (cs : Array Value) (w : World) : opStore Try.prog 33 (.pointer (some ⟨b, 0, none⟩)) (.agg cs) w = match wholeAt w b with
      | some k => if k = 18 ∧ cs.size = 18 ∧ oneCells cs = true then .ok .skip (w.setRow b cs) else rawStore Try.prog 33 b (.agg cs) w
      | none => rawStore Try.prog 33 b (.agg cs) w := opStore_of Try.info33 b cs w
section
variable (d : Dd) (ev : Value)
theorem deed_0 : (deedCells d ev)[0]? = some (.int .i64 d.what) := rfl
theorem deed_1 : (deedCells d ev)[1]? = some (.int .i64 d.place) := rfl
theorem deed_2 : (deedCells d ev)[2]? = some (.int .i64 d.many) := rfl
theorem deed_12 : (deedCells d ev)[12]? = some ev := rfl
theorem deed_g0 (h : 0 < (deedCells d ev).length) : (deedCells d ev)[0]'h = .int .i64 d.what := rfl
theorem deed_g1 (h : 1 < (deedCells d ev).length) : (deedCells d ev)[1]'h = .int .i64 d.place := rfl
theorem deed_g2 (h : 2 < (deedCells d ev).length) : (deedCells d ev)[2]'h = .int .i64 d.many := rfl
theorem deed_g12 (h : 12 < (deedCells d ev).length) : (deedCells d ev)[12]'h = ev := rfl
theorem deed_size : (deedCells d ev).toArray.size = 18 := rfl
theorem deed_one_slice (a : Option Addr) (n c : Nat) : oneCells (deedCells d (.slice a n c)).toArray = true := by
  refine Array.all_eq_true_iff_forall_mem.2 (fun u hu => ?_)
  have hu' : u ∈ deedCells d (.slice a n c) := by simpa using hu
  simp only [deedCells, List.mem_cons] at hu'
  rcases hu' with rfl | rfl | rfl | hu'
  · rfl
  · rfl
  · rfl
  · exact msgCells_one _ _ rfl u hu'
end
theorem deed_row {w W : World} (h : Gr w W) {b o : Nat} {d : Dd} {ev : Value} (hr : w.rangeAt b o (deedCells d ev)) : rowAt W b o 18 = some (deedCells d ev).toArray :=
  rowAt_of_range (later_range h hr) (by rw [deedCells_length]; decide)
attribute [local go_sem ↓] opLoad31_eq opStore31_eq opRow1_eq opLoad33_eq opStore33_eq
attribute [local go_sem] Oper.semAt_some msgV opLoad31 opStore31 opLoad33 opStore33 opRow1_msg rowAt_alloc_at rowAt_alloc_past rowAt_drew wholeAt_alloc_at wholeAt_alloc_past wholeAt_drew setRow_alloc_at setRow_alloc_past msg_0 msg_1 msg_2 msg_3 msg_9 msg_g0 msg_g1 msg_g2 msg_g3 msg_g9 msg_set9 msg_set3 msg_size msgCells_length msg_one_slice gr_alloc' gr_drew' gr_drewN' wholeAt_setCell rowAt_setCell cell_setRow frozen_setRow deed_0 deed_1 deed_2 deed_12 deed_g0 deed_g1 deed_g2 deed_g12 deed_size deedCells_length deed_one_slice

theorem deed_msg {W : World} {b : Nat} {d : Dd} {ev : Value} {f : Nat × Nat} (h : W.heap[b]? = some (.cells (deedCells d ev).toArray 33 f)) : rowAt W b 3 15 = some (msgCells d.msg ev).toArray := by
  have h1 : ((deedCells d ev).toArray.extract 3 (3 + 15)) = (msgCells d.msg ev).toArray := by simp [deedCells, msgCells]
  unfold rowAt; rw [h]
  simp only
  rw [if_pos (by show 3 + 15 ≤ 18; decide), h1]
/-- One message, many times. -/
theorem many_in {W : World} {base k : Nat} {v : Value} {m : Msg} {ev : Value} (h : W.ownsRow base 31 15 v k (List.replicate k (msgCells m ev)).flatten) (he : IsEnts (· < W.heap.size) W ev m.ents) : InMsgs W v (List.replicate k m) := by
  have hz : List.zipWith msgCells (List.replicate k m) (List.replicate k ev) = List.replicate k (msgCells m ev) := by simp
  have hs := SL.of_owns (els := List.zipWith msgCells (List.replicate k m) (List.replicate k ev)) (size := 15) (e := 31) (v := v) (w := W) (base := base) (zip_len _ _) (by rw [hz]; simpa using h)
  refine ⟨List.replicate k ev, by simp, ⟨hs.1, ?_⟩, fun i m' ev' hm hev => ?_⟩
  · rcases hs.2 with h0 | ⟨b, off, cap, hv, h4, h5, h6, h7⟩
    · exact .inl h0
    · exact .inr ⟨b, off, cap, hv, h4, h5, (World.ownsRow.lt h b (by rw [hv]; rfl)).2, h7⟩
  · rw [List.getElem?_replicate] at hm hev
    split at hm
    · rename_i hik
      rw [if_pos hik] at hev
      simp only [Option.some.injEq] at hm hev
      subst hm hev
      exact he
    · cases hm
/-- The net so far, at home in block b. -/
def AtHome (b : Nat) (n : Net) (w : World) : Prop :=
  ∃ (a : Option Addr) (c : Nat), w.heap[b]? = some (.cells #[.slice a n.msgs.length c, .int .i64 n.sent, .int .i64 n.lost] 26 (0, 0)) ∧ OwnMsgs (b + 1) w (.slice a n.msgs.length c) n.msgs

theorem AtHome.fill {w w3 : World} {n : Net} {x0 x1 x2 : Value} {D : Nat} {a : Option Addr} {c : Nat} (hB : w3.heap[w.heap.size]? = some (.cells #[x0, x1, x2] 26 (0, 0)))
    (ho : OwnMsgs D w3 (.slice a n.msgs.length c) n.msgs) (hD : w.heap.size + 1 ≤ D) (hg : Gr w w3) :
    AtHome w.heap.size n (((w3.setCell ⟨w.heap.size, 0, none⟩ (.slice a n.msgs.length c)).setCell ⟨w.heap.size, 1, none⟩ (.int .i64 n.sent)).setCell ⟨w.heap.size, 2, none⟩ (.int .i64 n.lost)) ∧
    Gr w (((w3.setCell ⟨w.heap.size, 0, none⟩ (.slice a n.msgs.length c)).setCell ⟨w.heap.size, 1, none⟩ (.int .i64 n.sent)).setCell ⟨w.heap.size, 2, none⟩ (.int .i64 n.lost)) := by
  refine ⟨⟨a, c, net_filled hB _ _ _, OwnMsgs.base hD (ho.keep fun q hq _ => ?_)⟩, Gr.set (Gr.set (Gr.set hg (by simp) _) (by simp) _) (by simp) _⟩
  rw [setCell_other _ (by omega), setCell_other _ (by omega), setCell_other _ (by omega)]
theorem AtHome.gr {b : Nat} {n : Net} {A B : World} (h : Gr A B) (ha : AtHome b n A) : AtHome b n B := by
  obtain ⟨a, c, h1, h2⟩ := ha
  exact ⟨a, c, h.same h1, h2.gr h⟩
theorem Inv.sums {i : Nat} {t : Int} {n : Net} (h : Inv i t n) (hi : i ≤ 40) : (n.sent != wrap64 (wrap64 (t + n.lost) + (n.msgs.length : Int))) = false ∧ t ≤ 800 ∧ ¬ (60 : Int) < n.msgs.length := by
  obtain ⟨t0, l0, way, sum, top, ents⟩ := h
  have h1 : wrap64 (t + n.lost) = t + n.lost := wrap_id (by omega) (by omega)
  have h2 : wrap64 (t + n.lost + (n.msgs.length : Int)) = t + n.lost + n.msgs.length := wrap_id (by omega) (by omega)
  rw [h1, h2, bne_eq_false_iff_eq]
  exact ⟨sum, by omega, by omega⟩

set_option maxRecDepth 100000 in
set_option maxHeartbeats 2000000 in
theorem netCounts_law (w : World) (v : Value) (ds : List Dd) (hds : InDeeds w v ds) : Calls Try.prog 3 #[v] w fun e w' => e = .returned (.bool true) ∧ Gr w w' := by
  obtain ⟨a, c, rfl, hc1, hc2⟩ := hds.len
  by_cases hbig : 40 < ds.length
  · have HW := Lib.hid (wakes_any w)
    clear hds
    go_enter Try.func3, Try.ntmps3
    go_wp2_with fail
    refine HW.out.mono ?_
    rintro e w2 ⟨rfl, hg2⟩
    go_wp2
    go_ret
    exact ⟨rfl, hg2⟩
  · have hL : ds.length ≤ 40 := by omega
    have HDS := Lib.hid hds
    clear hds
    go_enter Try.func3, Try.ntmps3
    go_wp2
    go_loopw [4, 5] (fun tk iv wr => ∃ (i : Nat) (t : Int) (n : Net), iv = .int .i64 i ∧ tk = .int .i64 t ∧ i ≤ ds.length ∧ Inv i t n ∧ AtHome w.heap.size n wr ∧ Gr w wr) (fun _ iv _ => ds.length - (intOf iv).toNat)
    case atStart => exact ⟨0, 0, ⟨[], 0, 0⟩, rfl, rfl, Nat.zero_le _, Inv.start, ⟨none, 0, alloc1_heap w _, ⟨[], rfl, World.ownsRow_nil _ _ _ _, fun i m ev hm => by simp at hm⟩⟩, Gr.alloc (Gr.refl w) _⟩
    case round =>
      obtain ⟨i, t, n, rfl, rfl, hi, hinv, ⟨na, nc, hB, hown⟩, hgr⟩ := hrel
      by_cases hlt : i < ds.length
      · obtain ⟨d, hd⟩ : ∃ d, ds[i]? = some d := ⟨_, List.getElem?_eq_getElem hlt⟩
        obtain ⟨b, o, c', hv, _, _, hbS, hrows⟩ := HDS.out.row (by omega)
        simp only [Value.slice.injEq, true_and] at hv
        obtain ⟨rfl, rfl⟩ := hv
        obtain ⟨ev, rx, ex⟩ := hrows i d hd
        obtain ⟨ea, ec, rfl, _, _⟩ := ex.len
        have r18 := deed_row hgr rx
        have b0 := cell_block hB (j := 0) rfl
        have b1 := cell_block hB (j := 1) rfl
        have b2 := cell_block hB (j := 2) rfl
        have hlB : w.heap.size < wr.heap.size := (Array.getElem?_eq_some_iff.1 hB).1
        have HIV := Lib.hid hinv
        have HB := Lib.hid hB
        have HO := Lib.hid hown
        have HGR := Lib.hid hgr
        have HE := Lib.hid (ex.gr hgr)
        clear hrows rx ex hB hown hgr hinv hd
        by_cases hbe : 20 < d.msg.ents.length
        · have HW := Lib.hid (fun W => wakes_any W)
          go_wp2_with fail
          refine (HW.out _).mono ?_
          rintro e w2 ⟨rfl, hg2⟩
          go_wp2
          go_ret
          exact ⟨rfl, (Gr.alloc HGR.out _).trans hg2⟩
        · have hbe' : d.msg.ents.length ≤ 20 := by omega
          obtain ⟨W1, hW1⟩ : ∃ W1, (wr.alloc (.cells (deedCells d (.slice ea d.msg.ents.length ec)).toArray 33)).alloc (.cells #[.slice na n.msgs.length nc, .int .i64 n.sent, .int .i64 n.lost] 26) = W1 := ⟨_, rfl⟩
          have g1 : Gr wr W1 := by rw [← hW1]; exact Gr.alloc (Gr.alloc (Gr.refl _) _) _
          have hD : W1.heap[wr.heap.size]? = some (.cells (deedCells d (.slice ea d.msg.ents.length ec)).toArray 33 (0, 0)) := by rw [← hW1]; exact alloc2_heap0 _ _ _
          have hP : W1.heap[wr.heap.size + 1]? = some (.cells #[.slice na n.msgs.length nc, .int .i64 n.sent, .int .i64 n.lost] 26 (0, 0)) := by rw [← hW1]; exact alloc2_heap1 _ _ _
          have hB1 := g1.same HB.out
          have hz1 : W1.heap.size = wr.heap.size + 1 + 1 := by rw [← hW1]; simp
          have HW1 := Lib.hid hW1
          have HG0 := Lib.hid g1
          have HD := Lib.hid hD
          have HP := Lib.hid hP
          have HB1 := Lib.hid hB1
          have HO1 := Lib.hid (HO.out.gr g1)
          have HG1 := Lib.hid (HGR.out.trans g1)
          have HZ1 := Lib.hid hz1
          have hsm := HIV.out.small
          have HSM := Lib.hid hsm
          clear hW1 g1 hD hP hB1 hz1 HB HO HGR hsm
          have hi40 : i < 40 := by omega
          by_cases h0 : d.what = 0
          · have h0' : (d.what == 0) = true := by simp [h0]
            obtain ⟨i0, hi0, hz0, hz1, hz2⟩ := info_parts Try.info31
            go_wp2_with fail
            rw [HW1.out]
            obtain ⟨wo, rfl⟩ : ∃ wo : World, wo = wr := ⟨_, rfl⟩
            clear b0 b1 b2 r18
            go_loopw [8, 9] (fun mv kv wr => ∃ k : Nat, kv = .int .i64 k ∧ k ≤ 20 ∧ wr.ownsRow W1.heap.size 31 15 mv k (List.replicate k (msgCells d.msg (.slice ea d.msg.ents.length ec))).flatten ∧ Gr W1 wr) (fun _ kv _ => 20 - (intOf kv).toNat)
            case atStart => exact ⟨0, rfl, by omega, World.ownsRow_nil _ _ _ _, Gr.refl _⟩
            case round =>
              obtain ⟨k, rfl, hk, hrow, hgk⟩ := hrel
              obtain ⟨ma, mc, rfl⟩ := owns_slice hrow
              have hDk := hgk.same HD.out
              have c2 := cell_block hDk (j := 2) (v := .int .i64 d.many) rfl
              have r15 := deed_msg hDk
              have hlD : wo.heap.size < wr.heap.size := (Array.getElem?_eq_some_iff.1 hDk).1
              have hszk : W1.heap.size ≤ wr.heap.size := hgk.size
              by_cases hgo : (k : Int) < d.many ∧ k < 20
              · obtain ⟨hgo1, hgo2⟩ := hgo
                have HROW := Lib.hid hrow
                have HGK := Lib.hid hgk
                clear hrow hgk hDk
                go_wp2_with (at_builtin; go_loud (refine wpList_append_own_at _ rfl _ _ 24 rfl W1.heap.size 31 i0 _ 15 136 Try.underlying24 hi0 hz0 hz1 hz2 rfl (by decide) _ k _ rfl (HROW.out.alloc _) ⟨wr.heap.size, 0, none⟩ 1 1 (msgCells d.msg (.slice ea d.msg.ents.length ec)) rfl ?c0 ?c1 ?c2 ?c3 ?c4 ?c5 ?_))
                case c0 => rw [msgCells_length]
                case c1 => exact add_cells (range_row (alloc1_heap wr _))
                case c2 => exact msgCells_one _ _ rfl
                case c3 => unfold maxLen; omega
                case c4 => omega
                case c5 => simp only [World.size_alloc]; omega
                intro v' w2 hown hgrow _ _
                have hg2 : Gr W1 w2 := by
                  have h3 : Gr W1 (wr.alloc (.cells (msgCells d.msg (.slice ea d.msg.ents.length ec)).toArray 31)) := Gr.alloc HGK.out _
                  exact Below.grown h3 hgrow h3.size fun q hq => (owns_elem HROW.out hq).1
                have hrow2 : w2.ownsRow W1.heap.size 31 15 v' (k + 1) (List.replicate (k + 1) (msgCells d.msg (.slice ea d.msg.ents.length ec))).flatten := by
                  rw [List.replicate_succ', List.flatten_append, List.flatten_singleton]; exact hown
                have HROW2 := Lib.hid hrow2
                have HGK2 := Lib.hid hg2
                clear hown hgrow hrow2 hg2
                go_wp2
                exact ⟨⟨k + 1, by go_num, by omega, HROW2.out, HGK2.out⟩, by simp [intOf]; omega⟩
              · have hsm2 : Small (List.replicate k d.msg) := ⟨by simp; omega, fun m hm => by rw [List.eq_of_mem_replicate hm]; omega⟩
                have hgo' : (¬ (k : Int) < d.many) ∨ ((k : Int) < d.many ∧ ¬ k < 20) := by
                  by_cases h : (k : Int) < d.many
                  · exact .inr ⟨h, fun h' => hgo ⟨h, h'⟩⟩
                  · exact .inl h
                have hwr : w.heap.size < wr.heap.size := by omega
                have HPU := Lib.hid (push_net wr n (.slice na n.msgs.length nc) (.slice ma k mc) (List.replicate k d.msg) (HO1.out.inn.gr hgk) HSM.out
                  (many_in hrow (SL.mono (IsEnts.gr (HG0.out.trans hgk) HE.out) fun q (hq : q < w.heap.size) => Nat.lt_trans hq hwr)) hsm2)
                have hpi := HIV.out.push hi40 (l := List.replicate k d.msg) (by simpa using hk) (fun m hm => by rw [List.eq_of_mem_replicate hm]; omega)
                rw [List.length_replicate] at hpi
                have HPI := Lib.hid hpi
                have HGW := Lib.hid (HG1.out.trans hgk)
                have hB2 := hgk.same HB1.out
                have hP2 := hgk.same HP.out
                have b0 := cell_block hB2 (j := 0) rfl
                have b1 := cell_block hB2 (j := 1) rfl
                have b2 := cell_block hB2 (j := 2) rfl
                have HB2 := Lib.hid hB2
                have HP2 := Lib.hid hP2
                have hzz := HZ1.out
                clear hrow hgk hDk hpi hsm2 hgo hB2 hP2 HB1 HP HD HE HO1 HSM
                rcases hgo' with hgo1 | ⟨hgo1, hgo2⟩
                all_goals
                  go_wp2_with fail
                  refine HPU.out.mono ?_
                  rintro e w3 ⟨fv, rfl, hg3, ho3⟩
                  obtain ⟨hinv', hse0, hlo0, her⟩ := HPI.out
                  generalize pushNet n (List.replicate k d.msg) = n' at *
                  generalize pushErr n (List.replicate k d.msg) = er at *
                  have hlo : ¬ n'.lost < n.lost := by omega
                  have hse : ¬ n'.sent < n.sent := by omega
                  have htop := hinv'.top
                  have hsb := HIV.out.sum
                  have hsc := HIV.out.l0
                  have hsd := HIV.out.t0
                  have hx1 : (n'.sent != wrap64 (n.sent + (k : Int))) = false := by rw [wrap_id (by omega) (by omega), bne_eq_false_iff_eq]; exact hse0
                  have hx2 : ((er == 0) == (n'.lost == n.lost)) = true := by rw [her]; cases (n'.lost == n.lost) <;> rfl
                  obtain ⟨fa, fc, rfl, _, _⟩ := ho3.is.len
                  have hB3 := hg3.same HB2.out
                  have hP3 := hg3.same HP2.out
                  have d0 := cell_block hB3 (j := 0) rfl
                  have d1 := cell_block hB3 (j := 1) rfl
                  have d2 := cell_block hB3 (j := 2) rfl
                  have e0 := frozen_block hB3 (j := 0)
                  have e1 := frozen_block hB3 (j := 1)
                  have e2 := frozen_block hB3 (j := 2)
                  have p1 := cell_block hP3 (j := 1) rfl
                  have p2 := cell_block hP3 (j := 2) rfl
                  have hl3 : w.heap.size < w3.heap.size := (Array.getElem?_eq_some_iff.1 hB3).1
                  have hl4 : wo.heap.size + 1 < w3.heap.size := (Array.getElem?_eq_some_iff.1 hP3).1
                  have hl5 : wo.heap.size < w3.heap.size := by omega
                  have hl6 : wo.heap.size ≠ w3.heap.size := by omega
                  have hne1 : wo.heap.size + 1 ≠ w.heap.size := by omega
                  have hne2 : w.heap.size ≠ wo.heap.size + 1 := by omega
                  have hD1 : w.heap.size + 1 ≤ wr.heap.size := by omega
                  have HEND := Lib.hid (AtHome.fill hB3 ho3 hD1 (HGW.out.trans hg3))
                  obtain ⟨hq1, hq2, hq3⟩ := hinv'.sums (by omega)
                  have HI := Lib.hid hinv'
                  clear hg3 ho3 hB3 hP3 hinv' hse0 her htop hsb hsc hsd b0 b1 b2 HB2 HP2 HPU HPI HGW
                  simp only [netV]
                  go_wp2
                  exact ⟨⟨i + 1, t, n', by go_num, rfl, by omega, HI.out, (AtHome.gr (Gr.alloc (Gr.refl _) _) HEND.out.1), Gr.alloc HEND.out.2 _⟩, by simp [intOf]; omega⟩
          · have h0' : (d.what == 0) = false := by simp [h0]
            by_cases h1 : d.what = 1
            · have h1' : (d.what == 1) = true := by simp [h1]
              have HC := Lib.hid (pull_net W1 n (.slice na n.msgs.length nc) d.place HO1.out.inn HSM.out)
              go_wp2_with fail
              rw [HW1.out]
              refine HC.out.mono ?_
              rintro e w3 ⟨fv, ev3, rfl, hg3, ho3, hoe⟩
              have hinv' := HIV.out.pull d.place
              have hlo : ¬ (pullNet n d.place).lost < n.lost := Int.lt_irrefl _
              have hse : ¬ (pullNet n d.place).sent < n.sent := Int.lt_irrefl _
              obtain ⟨ea3, ec3, rfl⟩ := owns_slice hoe
              generalize pullMsg n d.place = pm at *
              have htk : t ≤ 800 := by have := HIV.out.sum; have := HIV.out.l0; have := HIV.out.top; omega
              have htn : 0 ≤ t := HIV.out.t0
              generalize pullNet n d.place = n' at *
              obtain ⟨fa, fc, rfl, _, _⟩ := ho3.is.len
              have hB3 := hg3.same HB1.out
              have hP3 := hg3.same HP.out
              have d0 := cell_block hB3 (j := 0) rfl
              have d1 := cell_block hB3 (j := 1) rfl
              have d2 := cell_block hB3 (j := 2) rfl
              have e0 := frozen_block hB3 (j := 0)
              have e1 := frozen_block hB3 (j := 1)
              have e2 := frozen_block hB3 (j := 2)
              have p1 := cell_block hP3 (j := 1) rfl
              have p2 := cell_block hP3 (j := 2) rfl
              have hl3 : w.heap.size < w3.heap.size := (Array.getElem?_eq_some_iff.1 hB3).1
              have hl4 : wr.heap.size + 1 < w3.heap.size := (Array.getElem?_eq_some_iff.1 hP3).1
              have hne1 : wr.heap.size + 1 ≠ w.heap.size := by omega
              have hne2 : w.heap.size ≠ wr.heap.size + 1 := by omega
              have hl5 : wr.heap.size < w3.heap.size := by omega
              have hl6 : wr.heap.size ≠ w3.heap.size := by omega
              have hD1 : w.heap.size + 1 ≤ W1.heap.size := by rw [HZ1.out]; omega
              have HEND := Lib.hid (AtHome.fill hB3 ho3 hD1 (HG1.out.trans hg3))
              by_cases hok : pullOk n = true
              · rw [hok, if_pos rfl] at hinv'
                rw [hok]
                obtain ⟨hq1, hq2, hq3⟩ := hinv'.sums (by omega)
                have HI := Lib.hid hinv'
                clear hg3 ho3 hB3 hP3 hinv' HB1 HP HD HG1 HO1 HC b0 b1 b2 r18 hoe hok
                simp only [netV]
                go_wp2
                exact ⟨⟨i + 1, t + 1, n', by go_num, by go_num, by omega, HI.out, (AtHome.gr (Gr.alloc (Gr.alloc (Gr.refl _) _) _) HEND.out.1), Gr.alloc (Gr.alloc HEND.out.2 _) _⟩, by simp [intOf]; omega⟩
              · have hok' : pullOk n = false := by simpa using hok
                rw [hok', if_neg (by simp)] at hinv'
                rw [hok']
                obtain ⟨hq1, hq2, hq3⟩ := hinv'.sums (by omega)
                have HI := Lib.hid hinv'
                clear hg3 ho3 hB3 hP3 hinv' HB1 HP HD HG1 HO1 HC b0 b1 b2 r18 hoe hok hok'
                simp only [netV]
                go_wp2
                exact ⟨⟨i + 1, t, n', by go_num, rfl, by omega, HI.out, (AtHome.gr (Gr.alloc (Gr.alloc (Gr.refl _) _) _) HEND.out.1), Gr.alloc (Gr.alloc HEND.out.2 _) _⟩, by simp [intOf]; omega⟩
            · have h1' : (d.what == 1) = false := by simp [h1]
              by_cases h2 : d.what = 2
              · have h2' : (d.what == 2) = true := by simp [h2]
                have HC := Lib.hid (lose_net W1 n (.slice na n.msgs.length nc) d.place HO1.out.inn HSM.out)
                go_wp2_with fail
                rw [HW1.out]
                refine HC.out.mono ?_
                rintro e w3 ⟨fv, rfl, hg3, ho3⟩
                have hinv' := (HIV.out.lose hi40 d.place).1
                have hlo : ¬ (loseNet n d.place).lost < n.lost := by have := (HIV.out.lose hi40 d.place).2; omega
                have hse : ¬ (loseNet n d.place).sent < n.sent := Int.lt_irrefl _
                generalize loseNet n d.place = n' at *
                obtain ⟨fa, fc, rfl, _, _⟩ := ho3.is.len
                have hB3 := hg3.same HB1.out
                have hP3 := hg3.same HP.out
                have d0 := cell_block hB3 (j := 0) rfl
                have d1 := cell_block hB3 (j := 1) rfl
                have d2 := cell_block hB3 (j := 2) rfl
                have e0 := frozen_block hB3 (j := 0)
                have e1 := frozen_block hB3 (j := 1)
                have e2 := frozen_block hB3 (j := 2)
                have p1 := cell_block hP3 (j := 1) rfl
                have p2 := cell_block hP3 (j := 2) rfl
                have hl3 : w.heap.size < w3.heap.size := (Array.getElem?_eq_some_iff.1 hB3).1
                have hl4 : wr.heap.size + 1 < w3.heap.size := (Array.getElem?_eq_some_iff.1 hP3).1
                have hne1 : wr.heap.size + 1 ≠ w.heap.size := by omega
                have hne2 : w.heap.size ≠ wr.heap.size + 1 := by omega
                have hD1 : w.heap.size + 1 ≤ W1.heap.size := by rw [HZ1.out]; omega
                have HEND := Lib.hid (AtHome.fill hB3 ho3 hD1 (HG1.out.trans hg3))
                obtain ⟨hq1, hq2, hq3⟩ := hinv'.sums (by omega)
                have HI := Lib.hid hinv'
                clear hg3 ho3 hB3 hP3 hinv' HB1 HP HD HG1 HO1 HC b0 b1 b2 r18
                simp only [netV]
                go_wp2
                exact ⟨⟨i + 1, t, n', by go_num, rfl, by omega, HI.out, HEND.out.1, HEND.out.2⟩, by simp [intOf]; omega⟩
              · have h2' : (d.what == 2) = false := by simp [h2]
                by_cases h3 : d.what = 3
                · have h3' : (d.what == 3) = true := by simp [h3]
                  have HC := Lib.hid (again_net W1 n (.slice na n.msgs.length nc) d.place HO1.out.inn HSM.out)
                  go_wp2_with fail
                  rw [HW1.out]
                  refine HC.out.mono ?_
                  rintro e w3 ⟨fv, rfl, hg3, ho3⟩
                  have hinv' := (HIV.out.again hi40 d.place).1
                  have hlo : ¬ (againNet n d.place).lost < n.lost := by have := (HIV.out.again hi40 d.place).2.1; omega
                  have hse : ¬ (againNet n d.place).sent < n.sent := by have := (HIV.out.again hi40 d.place).2.2; omega
                  generalize againNet n d.place = n' at *
                  obtain ⟨fa, fc, rfl, _, _⟩ := ho3.is.len
                  have hB3 := hg3.same HB1.out
                  have hP3 := hg3.same HP.out
                  have d0 := cell_block hB3 (j := 0) rfl
                  have d1 := cell_block hB3 (j := 1) rfl
                  have d2 := cell_block hB3 (j := 2) rfl
                  have e0 := frozen_block hB3 (j := 0)
                  have e1 := frozen_block hB3 (j := 1)
                  have e2 := frozen_block hB3 (j := 2)
                  have p1 := cell_block hP3 (j := 1) rfl
                  have p2 := cell_block hP3 (j := 2) rfl
                  have hl3 : w.heap.size < w3.heap.size := (Array.getElem?_eq_some_iff.1 hB3).1
                  have hl4 : wr.heap.size + 1 < w3.heap.size := (Array.getElem?_eq_some_iff.1 hP3).1
                  have hne1 : wr.heap.size + 1 ≠ w.heap.size := by omega
                  have hne2 : w.heap.size ≠ wr.heap.size + 1 := by omega
                  have hD1 : w.heap.size + 1 ≤ W1.heap.size := by rw [HZ1.out]; omega
                  have HEND := Lib.hid (AtHome.fill hB3 ho3 hD1 (HG1.out.trans hg3))
                  obtain ⟨hq1, hq2, hq3⟩ := hinv'.sums (by omega)
                  have HI := Lib.hid hinv'
                  clear hg3 ho3 hB3 hP3 hinv' HB1 HP HD HG1 HO1 HC b0 b1 b2 r18
                  simp only [netV]
                  go_wp2
                  exact ⟨⟨i + 1, t, n', by go_num, rfl, by omega, HI.out, HEND.out.1, HEND.out.2⟩, by simp [intOf]; omega⟩
                · have h3' : (d.what == 3) = false := by simp [h3]
                  have HC := Lib.hid (cut_net W1 n (.slice na n.msgs.length nc) d.place HO1.out.inn HSM.out)
                  go_wp2_with fail
                  rw [HW1.out]
                  refine HC.out.mono ?_
                  rintro e w3 ⟨fv, rfl, hg3, ho3⟩
                  have hinv' := (HIV.out.cut hi40 d.place).1
                  have hlo : ¬ (cutNet n d.place).lost < n.lost := by have := (HIV.out.cut hi40 d.place).2; omega
                  have hse : ¬ (cutNet n d.place).sent < n.sent := Int.lt_irrefl _
                  generalize cutNet n d.place = n' at *
                  obtain ⟨fa, fc, rfl, _, _⟩ := ho3.is.len
                  have hB3 := hg3.same HB1.out
                  have hP3 := hg3.same HP.out
                  have d0 := cell_block hB3 (j := 0) rfl
                  have d1 := cell_block hB3 (j := 1) rfl
                  have d2 := cell_block hB3 (j := 2) rfl
                  have e0 := frozen_block hB3 (j := 0)
                  have e1 := frozen_block hB3 (j := 1)
                  have e2 := frozen_block hB3 (j := 2)
                  have p1 := cell_block hP3 (j := 1) rfl
                  have p2 := cell_block hP3 (j := 2) rfl
                  have hl3 : w.heap.size < w3.heap.size := (Array.getElem?_eq_some_iff.1 hB3).1
                  have hl4 : wr.heap.size + 1 < w3.heap.size := (Array.getElem?_eq_some_iff.1 hP3).1
                  have hne1 : wr.heap.size + 1 ≠ w.heap.size := by omega
                  have hne2 : w.heap.size ≠ wr.heap.size + 1 := by omega
                  have hD1 : w.heap.size + 1 ≤ W1.heap.size := by rw [HZ1.out]; omega
                  have HEND := Lib.hid (AtHome.fill hB3 ho3 hD1 (HG1.out.trans hg3))
                  obtain ⟨hq1, hq2, hq3⟩ := hinv'.sums (by omega)
                  have HI := Lib.hid hinv'
                  clear hg3 ho3 hB3 hP3 hinv' HB1 HP HD HG1 HO1 HC b0 b1 b2 r18
                  simp only [netV]
                  go_wp2
                  exact ⟨⟨i + 1, t, n', by go_num, rfl, by omega, HI.out, HEND.out.1, HEND.out.2⟩, by simp [intOf]; omega⟩
      · have HW := Lib.hid (fun W => wakes_any W)
        have HGR := Lib.hid hgr
        clear hB hown hgr hinv
        go_wp2_with fail
        refine (HW.out _).mono ?_
        rintro e w2 ⟨rfl, hg2⟩
        go_wp2
        go_ret
        exact ⟨rfl, HGR.out.trans hg2⟩
end Go.Proofs.Ytajghkjghiifjaa
