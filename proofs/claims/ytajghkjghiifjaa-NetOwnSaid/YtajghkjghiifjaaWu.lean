/-
  Walks: what the document says of nothing; of two messages, one of them again.
-/
import Derived.Test.YtajghkjghiifjaaWt
namespace Go.Proofs.Ytajghkjghiifjaa
open Go Go.RowKit
attribute [local go_sem ↓] opLoad31_eq opStore31_eq opRow1_eq opLoad31_in opStore31_in opRow1_in
attribute [local go_sem] Oper.semAt_some msgV opLoad31 opStore31 opRow1_msg rowAt_alloc_at rowAt_alloc_past rowAt_drew wholeAt_alloc_at wholeAt_alloc_past wholeAt_drew setRow_alloc_at setRow_alloc_past msg_0 msg_1 msg_2 msg_3 msg_9 msg_g0 msg_g1 msg_g2 msg_g3 msg_g9 msg_set9 msg_set3 msg_size msgCells_length msg_one_slice gr_alloc' gr_drew' gr_drewN' wholeAt_setCell rowAt_setCell cell_setRow frozen_setRow

theorem nil_in (w : World) : InMsgs w (.slice none 0 0) [] := ⟨[], rfl, ⟨by simp, .inl ⟨⟨none, 0, rfl, Nat.zero_le _⟩, rfl⟩⟩, fun i m ev hm => by simp at hm⟩
theorem nil_small : Small [] := ⟨by simp, by simp⟩
def m12 : Msg := { Msg.zero with frm := 1, to := 2 }
def m21 : Msg := { Msg.zero with frm := 2, to := 1 }
def wn0 : Net := ⟨[], 0, 0⟩
def wn1 : Net := ⟨[m12, m21], 2, 0⟩
def wn2 : Net := ⟨[m12, m21, m21], 3, 0⟩
theorem small2 : Small [m12, m21] := ⟨by decide, by decide⟩
theorem small3 : Small [m12, m21, m21] := ⟨by decide, by decide⟩
theorem nil_ents (S : Nat → Prop) (w : World) : IsEnts S w (.slice none 0 0) [] := ⟨by simp, .inl ⟨⟨none, 0, rfl, Nat.zero_le _⟩, rfl⟩⟩
theorem two_in (w : World) (b : Nat) (h : w.heap[b]? = some (.cells (msgCells m12 (.slice none 0 0) ++ msgCells m21 (.slice none 0 0)).toArray 31 (0, 0))) : InMsgs w (.slice (some ⟨b, 0, none⟩) 2 2) [m12, m21] := by
  refine ⟨[.slice none 0 0, .slice none 0 0], rfl, ⟨fun x hx => ?_, .inr ⟨b, 0, 2, rfl, Nat.le_refl _, by decide, (Array.getElem?_eq_some_iff.1 h).1, ?_⟩⟩, fun i m ev hm he => ?_⟩
  · simp at hx; rcases hx with rfl | rfl <;> rfl
  · have := range_row h
    simpa using this
  · match i with
    | 0 => simp at hm he; subst hm he; exact nil_ents _ _
    | 1 => simp at hm he; subst hm he; exact nil_ents _ _
    | i + 2 => simp at hm
theorem wp0 : pullNet wn0 3 = wn0 := by kernel_rfl
theorem wp0m : pullMsg wn0 3 = Msg.zero := by kernel_rfl
theorem wp1 : pushNet wn0 [m12, m21] = wn1 := by kernel_rfl
theorem wp1e : pushErr wn0 [m12, m21] = 0 := by kernel_rfl
theorem wp2 : againNet wn1 1 = wn2 := by kernel_rfl
theorem wp2e : againErr wn1 = 0 := by kernel_rfl

def wn3 : Net := ⟨[m12, m21], 3, 0⟩
def wn4 : Net := ⟨[m21, m21], 3, 1⟩
def wn5 : Net := ⟨[], 3, 3⟩
theorem wp3 : pullNet wn2 (-1) = wn3 := by kernel_rfl
theorem wp3m : pullMsg wn2 (-1) = m21 := by kernel_rfl
theorem wp4 : loseNet wn2 0 = wn4 := by kernel_rfl
theorem wp5 : cutNet wn2 2 = wn5 := by kernel_rfl
theorem wp6 : forNet wn2.msgs 1 = [1, 2] := by kernel_rfl
theorem wp7 : decide (wn2 = wn3) = false := by kernel_rfl

theorem wn1V (a : Option Addr) (c : Nat) : netV wn1 (.slice a wn1.msgs.length c) = .agg #[.slice a 2 c, .int .i64 2, .int .i64 0] := rfl
theorem wn2V (a : Option Addr) (c : Nat) : netV wn2 (.slice a wn2.msgs.length c) = .agg #[.slice a 3 c, .int .i64 3, .int .i64 0] := rfl
theorem wn3V (a : Option Addr) (c : Nat) : netV wn3 (.slice a wn3.msgs.length c) = .agg #[.slice a 2 c, .int .i64 3, .int .i64 0] := rfl
theorem wn4V (a : Option Addr) (c : Nat) : netV wn4 (.slice a wn4.msgs.length c) = .agg #[.slice a 2 c, .int .i64 3, .int .i64 1] := rfl
theorem wn5V (a : Option Addr) (c : Nat) : netV wn5 (.slice a wn5.msgs.length c) = .agg #[.slice a 0 c, .int .i64 3, .int .i64 3] := rfl

theorem ints_two (w : World) (b : Nat) (h : w.heap[b]? = some (.cells #[.int .i64 1, .int .i64 2] 3 (0, 0))) : IsInts (fun _ => True) w (.slice (some ⟨b, 0, none⟩) 2 2) [1, 2] := by
  refine ⟨fun x hx => ?_, .inr ⟨b, 0, 2, rfl, Nat.le_refl _, by decide, trivial, range_row h⟩⟩
  simp at hx; rcases hx with rfl | rfl <;> rfl

set_option maxRecDepth 100000 in
set_option maxHeartbeats 2000000 in
theorem wakes_any (w : World) : Calls Try.prog 7 #[] w fun e w' => e = .returned (.bool true) ∧ Gr w w' := by
  have HP0 := Lib.hid (pull_net w wn0 (.slice none 0 0) 3 (nil_in w) nil_small)
  have HPU := Lib.hid (fun W b h => push_net W wn0 (.slice none 0 0) (.slice (some ⟨b, 0, none⟩) 2 2) [m12, m21] (nil_in W) nil_small (two_in W b h) small2)
  have HAG := Lib.hid (fun W v (h : InMsgs W v wn1.msgs) => again_net W wn1 v 1 h small2)
  have HPL := Lib.hid (fun W v (h : InMsgs W v wn2.msgs) => pull_net W wn2 v (-1) h small3)
  have HLO := Lib.hid (fun W v (h : InMsgs W v wn2.msgs) => lose_net W wn2 v 0 h small3)
  have HCU := Lib.hid (fun W v (h : InMsgs W v wn2.msgs) => cut_net W wn2 v 2 h small3)
  have HFO := Lib.hid (fun W v (h : InMsgs W v wn2.msgs) => for_net W wn2 v 1 h small3)
  go_enter Try.func7, Try.ntmps7
  go_wp2_with fail
  refine HP0.out.mono ?_
  rintro e w1 ⟨ov, fv, rfl, hg1, ho1, hf1⟩
  obtain ⟨oa, oc, rfl, _, _⟩ := ho1.is.len
  obtain ⟨ma, mc, rfl⟩ := owns_slice hf1
  rw [wp0, wp0m]
  have HG1 := Lib.hid hg1
  clear hg1 ho1 hf1
  have hok0 : pullOk wn0 = false := rfl
  rw [hok0]
  clear hok0
  simp only [netV, wn0, List.length_nil]
  go_wp2_with fail
  refine (HPU.out _ _ (alloc3_heap2 _ _ _ _)).mono ?_
  rintro e w2 ⟨ov2, rfl, hg2, ho2⟩
  rw [wp1, wp1e] at *
  obtain ⟨oa2, oc2, rfl, _, _⟩ := ho2.is.len
  have hI2 := ho2.inn
  have hG2 := (Gr.alloc (Gr.alloc (Gr.alloc HG1.out _) _) _).trans hg2
  have HI2 := Lib.hid hI2
  have HG2 := Lib.hid hG2
  clear hg2 ho2 hI2 hG2 HG1
  rw [wn1V]
  go_wp2_with fail
  refine (HAG.out _ _ (HI2.out.gr (Gr.alloc (Gr.refl _) _))).mono ?_
  rintro e w3 ⟨ov3, rfl, hg3, ho3⟩
  rw [wp2, wp2e] at *
  obtain ⟨oa3, oc3, rfl, _, _⟩ := ho3.is.len
  have hb4 := hg3.same (alloc1_heap w2 (.cells #[.slice oa2 2 oc2, .int .i64 2, .int .i64 0] 26))
  have hG3 := (Gr.alloc HG2.out (.cells #[.slice oa2 2 oc2, .int .i64 2, .int .i64 0] 26)).trans hg3
  have d0 := cell_block hb4 (j := 0) rfl
  have d1 := cell_block hb4 (j := 1) rfl
  have d2 := cell_block hb4 (j := 2) rfl
  have e0 := frozen_block hb4 (j := 0)
  have e1 := frozen_block hb4 (j := 1)
  have e2 := frozen_block hb4 (j := 2)
  have hlt : w2.heap.size < w3.heap.size := (Array.getElem?_eq_some_iff.1 hb4).1
  have hwl : w.heap.size ≤ w2.heap.size := HG2.out.size
  have hG4 : Gr w (((w3.setCell ⟨w2.heap.size, 0, none⟩ (.slice oa3 3 oc3)).setCell ⟨w2.heap.size, 1, none⟩ (.int .i64 3)).setCell ⟨w2.heap.size, 2, none⟩ (.int .i64 0)) := Gr.set (Gr.set (Gr.set hG3 hwl _) hwl _) hwl _
  have hB4 := net_filled hb4 (.slice oa3 3 oc3) (.int .i64 3) (.int .i64 0)
  have hI4 : InMsgs (((w3.setCell ⟨w2.heap.size, 0, none⟩ (.slice oa3 3 oc3)).setCell ⟨w2.heap.size, 1, none⟩ (.int .i64 3)).setCell ⟨w2.heap.size, 2, none⟩ (.int .i64 0)) (.slice oa3 3 oc3) wn2.msgs :=
    OwnMsgs.inn (ho3.keep fun q hq _ => by
      have hq' : w2.heap.size + 1 ≤ q := by simpa using hq
      rw [setCell_other _ (by omega), setCell_other _ (by omega), setCell_other _ (by omega)])
  have HG4 := Lib.hid hG4
  have HB4 := Lib.hid hB4
  have HI4 := Lib.hid hI4
  clear hb4 hG3 hg3 ho3 hG4 hB4 hI4 HI2 HG2
  rw [wn2V]
  go_wp2_with fail
  refine (HPL.out _ _ HI4.out).mono ?_
  generalize ((w3.setCell ⟨w2.heap.size, 0, none⟩ (.slice oa3 3 oc3)).setCell ⟨w2.heap.size, 1, none⟩ (.int .i64 3)).setCell ⟨w2.heap.size, 2, none⟩ (.int .i64 0) = W4 at *
  clear d0 d1 d2 e0 e1 e2 hlt
  rintro e w5 ⟨ov5, fv5, rfl, hg5, ho5, hf5⟩
  rw [wp3, wp3m] at *
  obtain ⟨oa5, oc5, rfl, _, _⟩ := ho5.is.len
  obtain ⟨fa5, fc5, rfl⟩ := owns_slice hf5
  rw [wn3V]
  have hb5 := hg5.same HB4.out
  have hI5 := (HI4.out.gr hg5)
  have d0 := cell_block hb5 (j := 0) rfl
  have d1 := cell_block hb5 (j := 1) rfl
  have d2 := cell_block hb5 (j := 2) rfl
  have hlt : w2.heap.size < w5.heap.size := (Array.getElem?_eq_some_iff.1 hb5).1
  have HB5 := Lib.hid hb5
  have HI5 := Lib.hid hI5
  have HO5 := Lib.hid ho5.inn
  have HG5 := Lib.hid (HG4.out.trans hg5)
  have hk5 : pullOk wn2 = true := rfl
  rw [hk5]
  clear hk5 hb5 hI5 hg5 ho5 hf5 HB4 HI4 HG4 HPU HAG HPL
  go_wp2_with fail
  have g5 : Gr w5 ((w5.alloc (.cells #[.slice oa5 2 oc5, .int .i64 3, .int .i64 0] 26)).alloc (.cells (msgCells m21 (.slice fa5 m21.ents.length fc5)).toArray 31)) := Gr.alloc (Gr.alloc (Gr.refl _) _) _
  refine (HLO.out _ _ (HI5.out.gr g5)).mono ?_
  rintro e w6 ⟨ov6, rfl, hg6, ho6⟩
  rw [wp4] at *
  obtain ⟨oa6, oc6, rfl, _, _⟩ := ho6.is.len
  rw [wn4V]
  have g6 := g5.trans hg6
  have hb6 := g6.same HB5.out
  have hb7 := hg6.same (alloc2_heap0 w5 (.cells #[.slice oa5 2 oc5, .int .i64 3, .int .i64 0] 26) (.cells (msgCells m21 (.slice fa5 m21.ents.length fc5)).toArray 31))
  have hb8 := hg6.same (alloc2_heap1 w5 (.cells #[.slice oa5 2 oc5, .int .i64 3, .int .i64 0] 26) (.cells (msgCells m21 (.slice fa5 m21.ents.length fc5)).toArray 31))
  clear d0 d1 d2 hlt
  have d0 := cell_block hb6 (j := 0) rfl
  have d1 := cell_block hb6 (j := 1) rfl
  have d2 := cell_block hb6 (j := 2) rfl
  have hlt : w2.heap.size < w6.heap.size := (Array.getElem?_eq_some_iff.1 hb6).1
  have HB6 := Lib.hid hb6
  have HB7 := Lib.hid hb7
  have HB8 := Lib.hid hb8
  have HI6 := Lib.hid (HI5.out.gr g6)
  have HO6 := Lib.hid (HO5.out.gr g6)
  have HG6 := Lib.hid (HG5.out.trans g6)
  clear hg6 ho6 hb6 hb7 hb8 g5 g6 HB5 HI5 HO5 HG5 HLO
  go_wp2_with fail
  have g6 : Gr w6 (w6.alloc (.cells #[.slice oa6 2 oc6, .int .i64 3, .int .i64 1] 26)) := Gr.alloc (Gr.refl _) _
  refine (HCU.out _ _ (HI6.out.gr g6)).mono ?_
  rintro e w7 ⟨ov7, rfl, hg7, ho7⟩
  rw [wp5] at *
  obtain ⟨oa7, oc7, rfl, _, _⟩ := ho7.is.len
  rw [wn5V]
  have g7 := g6.trans hg7
  have hb4 := g7.same HB6.out
  have hb7 := g7.same HB7.out
  have hb8 := g7.same HB8.out
  have hb10 := hg7.same (alloc1_heap w6 (.cells #[.slice oa6 2 oc6, .int .i64 3, .int .i64 1] 26))
  clear d0 d1 d2 hlt
  have d0 := cell_block hb4 (j := 0) rfl
  have d1 := cell_block hb4 (j := 1) rfl
  have d2 := cell_block hb4 (j := 2) rfl
  have a0 := cell_block hb7 (j := 0) rfl
  have a1 := cell_block hb8 (j := 1) (v := .int .i64 2) rfl
  have c0 := cell_block hb10 (j := 0) rfl
  have c2 := cell_block hb10 (j := 2) rfl
  have hlt : w2.heap.size < w7.heap.size := (Array.getElem?_eq_some_iff.1 hb4).1
  have hlt7 : w5.heap.size < w7.heap.size := (Array.getElem?_eq_some_iff.1 hb7).1
  have hlt8 : w5.heap.size + 1 < w7.heap.size := (Array.getElem?_eq_some_iff.1 hb8).1
  have hlt9 : w6.heap.size < w7.heap.size := (Array.getElem?_eq_some_iff.1 hb10).1
  have HB4 := Lib.hid hb4
  have HB7' := Lib.hid hb7
  have HI7 := Lib.hid (HI6.out.gr g7)
  have HO7 := Lib.hid (HO6.out.gr g7)
  have HG7 := Lib.hid (HG6.out.trans g7)
  clear hg7 ho7 hb4 hb7 hb8 hb10 g6 g7 HB6 HB7 HB8 HI6 HO6 HG6 HCU
  go_wp2_with fail
  have g7 : Gr w7 (w7.alloc (.cells #[.slice oa7 0 oc7, .int .i64 3, .int .i64 3] 26)) := Gr.alloc (Gr.refl _) _
  refine (HFO.out _ _ (HI7.out.gr g7)).mono ?_
  rintro e w8 ⟨r, rfl, hg8, ho8⟩
  rw [wp6] at ho8
  have g8 := g7.trans hg8
  have hb4 := g8.same HB4.out
  have hb7 := g8.same HB7'.out
  clear d0 d1 d2 a0 a1 c0 c2 hlt hlt7 hlt8 hlt9
  have d0 := cell_block hb4 (j := 0) rfl
  have d1 := cell_block hb4 (j := 1) rfl
  have d2 := cell_block hb4 (j := 2) rfl
  have hlt : w2.heap.size < w8.heap.size := (Array.getElem?_eq_some_iff.1 hb4).1
  have HIN := Lib.hid (fun b h => ints_any (w8.alloc (.cells #[.int .i64 1, .int .i64 2] 3)) _ _ r (.slice (some ⟨b, 0, none⟩) 2 2) [1, 2] [1, 2] (SL.gr (Gr.alloc (Gr.refl _) _) ho8.is) (ints_two _ b h) (by simp) (by simp))
  have HB4' := Lib.hid hb4
  have HB7 := Lib.hid hb7
  have HI8 := Lib.hid (HI7.out.gr g8)
  have HO8 := Lib.hid (HO7.out.gr g8)
  have HG8 := Lib.hid (HG7.out.trans g8)
  clear hg8 ho8 hb4 hb7 g7 g8 HB4 HB7' HI7 HO7 HG7 HFO
  go_wp2_with fail
  refine (HIN.out _ (alloc1_heap _ _)).mono ?_
  rintro e w9 ⟨rfl, hg9⟩
  have g9 := Gr.trans (Gr.alloc (Gr.refl w8) (.cells #[.int .i64 1, .int .i64 2] 3)) hg9
  have hb4 := g9.same HB4'.out
  have hb7 := g9.same HB7.out
  clear d0 d1 d2 hlt
  have d0 := cell_block hb4 (j := 0) rfl
  have d1 := cell_block hb4 (j := 1) rfl
  have d2 := cell_block hb4 (j := 2) rfl
  have HS := Lib.hid (netSame_any w9 _ _ (.slice oa3 3 oc3) (.slice oa3 3 oc3) wn2 wn2 (HI8.out.gr g9) (HI8.out.gr g9) small3 small3)
  have HB4 := Lib.hid hb4
  have HB7' := Lib.hid hb7
  have HI9 := Lib.hid (HI8.out.gr g9)
  have HO9 := Lib.hid (HO8.out.gr g9)
  have HG9 := Lib.hid (HG8.out.trans g9)
  clear hg9 hb4 hb7 g9 HB4' HB7 HI8 HO8 HG8 HIN
  go_wp2_with fail
  refine HS.out.mono ?_
  rintro e w10 ⟨rfl, hg10⟩
  have hb4 := hg10.same HB4.out
  have hb7 := hg10.same HB7'.out
  clear d0 d1 d2
  have d0 := cell_block hb4 (j := 0) rfl
  have d1 := cell_block hb4 (j := 1) rfl
  have d2 := cell_block hb4 (j := 2) rfl
  have a0 := cell_block hb7 (j := 0) rfl
  have a1 := cell_block hb7 (j := 1) rfl
  have a2 := cell_block hb7 (j := 2) rfl
  have HS2 := Lib.hid (netSame_any w10 _ _ (.slice oa3 3 oc3) (.slice oa5 2 oc5) wn2 wn3 (HI9.out.gr hg10) (HO9.out.gr hg10) small3 small2)
  have HG10 := Lib.hid (HG9.out.trans hg10)
  clear hg10 hb4 hb7 HB4 HB7' HI9 HO9 HG9 HS
  simp only [decide_true]
  go_wp2_with fail
  refine HS2.out.mono ?_
  rintro e w11 ⟨rfl, hg11⟩
  rw [wp7]
  go_wp2
  go_ret
  exact ⟨rfl, HG10.out.trans hg11⟩
end Go.Proofs.Ytajghkjghiifjaa
