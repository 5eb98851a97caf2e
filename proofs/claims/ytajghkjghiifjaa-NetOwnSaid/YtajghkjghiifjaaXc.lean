/-
  Walks: the law of what was handed in.
-/
import Derived.Test.YtajghkjghiifjaaXb
import Derived.Deep.CutRange
namespace Go.Proofs.Ytajghkjghiifjaa
open Go Go.RowKit
attribute [local go_sem ↓] opLoad31_eq opStore31_eq opRow1_eq
attribute [local go_sem] Oper.semAt_some msgV opLoad31 opStore31 opRow1_msg rowAt_alloc_at rowAt_alloc_past rowAt_drew wholeAt_alloc_at wholeAt_alloc_past wholeAt_drew setRow_alloc_at setRow_alloc_past msg_0 msg_1 msg_2 msg_3 msg_9 msg_g0 msg_g1 msg_g2 msg_g3 msg_g9 msg_set9 msg_set3 msg_size msgCells_length msg_one_slice gr_alloc' gr_drew' gr_drewN' wholeAt_setCell rowAt_setCell cell_setRow frozen_setRow

/-- A call's net, from a block on. -/
theorem ownPost_base {D : Nat} {o : Net} {X : World} (hD : D ≤ X.heap.size) {e : Ending} {w' : World} (h : OwnNetPost o X e w') :
    ∃ a' c', e = .returned (.agg #[.slice a' o.msgs.length c', .int .i64 o.sent, .int .i64 o.lost]) ∧ Gr X w' ∧ OwnMsgs D w' (.slice a' o.msgs.length c') o.msgs := by
  obtain ⟨v, rfl, hg, ho⟩ := h
  obtain ⟨a', c', rfl, _, _⟩ := ho.is.len
  exact ⟨a', c', rfl, hg, ho.base hD⟩
theorem cell_block9 {w : World} {b j : Nat} {cs : Array Value} {t : TypeId} {f : Nat × Nat} {v : Value} (hb : w.heap[b]? = some (.cells cs t f)) (h : w.cell? ⟨b, j, none⟩ = some v) : cs[j]? = some v := by
  rw [cell_of_row w b j cs t f hb] at h; exact h
/-- Six nets in a row, that may be written over. -/
def SixNets (D : Nat) (W : World) (v : Value) : Prop :=
  ∃ B cur, v = .slice (some ⟨B, 0, none⟩) 6 6 ∧ W.heap[B]? = some (.cells cur 26 (0, 0)) ∧ ∀ r, r < 6 → ∃ a n c s l, cur[r * 3]? = some (.slice a n c) ∧ cur[r * 3 + 1]? = some (.int .i64 s) ∧ cur[r * 3 + 2]? = some (.int .i64 l) ∧ MsgShape D W (.slice a n c)
theorem SixNets.ww {D : Nat} {A B : World} {v : Value} (h : WW A B) (hs : SixNets D A v) : SixNets D B v := by
  obtain ⟨b, cur, hv, hb, hr⟩ := hs
  refine ⟨b, cur, hv, h.plain hb (by decide) (by decide), fun r hr6 => ?_⟩
  obtain ⟨a, n, c, s, l, h1, h2, h3, h4⟩ := hr r hr6
  exact ⟨a, n, c, s, l, h1, h2, h3, h4.ww h⟩

set_option maxRecDepth 100000 in
set_option maxHeartbeats 2000000 in
theorem netOwn_law (w : World) (n : Net) (v : Value) (m : Msg) (ev : Value) (at' : Int) (hxs : InMsgs w v n.msgs) (hev : IsEnts (· < w.heap.size) w ev m.ents) :
    Calls Try.prog 6 #[netV n v, msgV m ev, .int .i64 at'] w fun e w' => e = .returned (.bool true) ∧ Gr w w' := by
  obtain ⟨a, c, rfl, hc1, hc2⟩ := hxs.len
  obtain ⟨ea, ec, rfl, he1, he2⟩ := hev.len
  obtain ⟨W0, hW0⟩ : ∃ W0, (w.alloc (.cells #[.slice a n.msgs.length c, .int .i64 n.sent, .int .i64 n.lost] 26)).alloc (.cells (msgCells m (.slice ea m.ents.length ec)).toArray 31) = W0 := ⟨_, rfl⟩
  have g0 : Gr w W0 := by rw [← hW0]; exact Gr.alloc (Gr.alloc (Gr.refl _) _) _
  have hB : W0.heap[w.heap.size]? = some (.cells #[.slice a n.msgs.length c, .int .i64 n.sent, .int .i64 n.lost] 26 (0, 0)) := by rw [← hW0]; exact alloc2_heap0 _ _ _
  have hM : W0.heap[w.heap.size + 1]? = some (.cells (msgCells m (.slice ea m.ents.length ec)).toArray 31 (0, 0)) := by rw [← hW0]; exact alloc2_heap1 _ _ _
  have HGT := Lib.hid (great_any W0 _ (.slice a n.msgs.length c) (.int .i64 n.sent) (.int .i64 n.lost) n.msgs (hxs.gr g0))
  have HX := Lib.hid hxs
  have HE := Lib.hid hev
  have HW0 := Lib.hid hW0
  have HG0 := Lib.hid g0
  have HB := Lib.hid hB
  have HM := Lib.hid hM
  have HWK := Lib.hid (fun W => wakes_any W)
  obtain ⟨i1, hi1, hy0, hy1, hy2⟩ := info_parts Try.info53
  clear hxs hev hW0 g0 hB hM
  show Calls Try.prog 6 #[.agg #[.slice a n.msgs.length c, .int .i64 n.sent, .int .i64 n.lost], .agg (msgCells m (.slice ea m.ents.length ec)).toArray, .int .i64 at'] w _
  go_enter Try.func6, Try.ntmps6
  go_wp2_with fail
  rw [HW0.out]
  clear HW0
  refine HGT.out.mono ?_
  rintro e w1 ⟨r, rfl, hfit, hg1⟩
  have HG1 := Lib.hid (HG0.out.trans hg1)
  have HB1 := Lib.hid (hg1.same HB.out)
  have HM1 := Lib.hid (hg1.same HM.out)
  have c9 := cell_block HM1.out (j := 9) (v := .slice ea m.ents.length ec) rfl
  cases r with
  | true =>
    clear hfit hg1
    go_wp2_with fail
    refine (HWK.out _).mono ?_
    rintro e w2 ⟨rfl, hg2⟩
    go_wp2
    go_ret
    exact ⟨rfl, HG1.out.trans hg2⟩
  | false =>
    have hf := hfit rfl
    have HF := Lib.hid hf
    clear hfit hg1 hf HGT HB HM HG0
    by_cases hbe : 20 < m.ents.length
    · go_wp2_with fail
      refine (HWK.out _).mono ?_
      rintro e w2 ⟨rfl, hg2⟩
      go_wp2
      go_ret
      exact ⟨rfl, HG1.out.trans hg2⟩
    · have b0 := cell_block HB1.out (j := 0) rfl
      have b1 := cell_block HB1.out (j := 1) rfl
      have b2 := cell_block HB1.out (j := 2) rfl
      have hbe' : m.ents.length ≤ 20 := by omega
      have HOW := Lib.hid (own27_any w1 _ n (.slice a n.msgs.length c) (HX.out.gr HG1.out) HF.out.small)
      go_wp2_with fail
      refine HOW.out.mono ?_
      rintro e w2 ⟨wv, rfl, hg2, ho2⟩
      obtain ⟨wa, wc', rfl, _, _⟩ := ho2.is.len
      simp only [netV]
      obtain ⟨W2, hW2⟩ : ∃ W2, w2.alloc (.cells #[.slice wa n.msgs.length wc', .int .i64 n.sent, .int .i64 n.lost] 26) = W2 := ⟨_, rfl⟩
      have g2 : Gr w2 W2 := by rw [← hW2]; exact Gr.alloc (Gr.refl _) _
      have HB7 : Hid (W2.heap[w2.heap.size]? = some (.cells #[.slice wa n.msgs.length wc', .int .i64 n.sent, .int .i64 n.lost] 26 (0, 0))) := by rw [← hW2]; exact alloc1_heap _ _
      have HO2 := Lib.hid (ho2.gr g2)
      have HG2 := Lib.hid (HG1.out.trans (hg2.trans g2))
      have HB2 := Lib.hid ((hg2.trans g2).same HB1.out)
      have HM2 := Lib.hid ((hg2.trans g2).same HM1.out)
      have HW2 := Lib.hid hW2
      clear c9 b0 b1 b2
      have c9 : w2.cell? ⟨w.heap.size + 1, 9, none⟩ = some (.slice ea m.ents.length ec) := cell_block (hg2.same HM1.out) rfl
      have hl9 : w.heap.size + 1 < w2.heap.size := (Array.getElem?_eq_some_iff.1 (hg2.same HM1.out)).1
      have hl9' : w.heap.size < w2.heap.size := by omega
      clear hW2 g2 hg2 ho2 HB1 HM1 HOW
      have HES := Lib.hid (HE.out.gr HG2.out)
      have hsrc : Hid (ea = none → m.ents.length = 0) := by
        refine Lib.hid ?_
        rintro rfl
        rcases HE.out.2 with ⟨⟨_, _, h, _⟩, _⟩ | ⟨_, _, _, h, _⟩
        · simp only [Value.slice.injEq] at h; omega
        · simp at h
      have hnews : Hid (∀ ad, ea = some ad → ∀ j u, (m.ents.map entCells).flatten[j]? = some u → (W2.alloc (.cells #[] 53)).cell? (ad.add j) = some u) := by
        refine Lib.hid ?_
        rintro ad rfl j u hu
        rcases HE.out.2 with ⟨_, h0⟩ | ⟨b, off, cap, hv, _, _, _, hr⟩
        · rw [h0] at hu; simp at hu
        · simp only [Value.slice.injEq, Option.some.injEq] at hv
          obtain ⟨rfl, _⟩ := hv
          exact later_cell (Gr.alloc HG2.out _) (add_cells hr j u hu)
      have hzW : W2.heap.size = w2.heap.size + 1 := by rw [← HW2.out]; simp
      have HZW := Lib.hid hzW
      clear hzW
      go_wp2_with (at_builtin; go_loud (refine wpList_append_src rfl _ _ 27 rfl w.heap.size 53 i1 _ 3 24 Try.underlying27 hi1 hy0 hy1 hy2 rfl (by decide) _ 0 [] rfl ?hrow ea m.ents.length ec (m.ents.map entCells).flatten rfl ?c0 hsrc.out ?c1 ?c2 ?c3 ?c4 ?c5 ?_))
      case hrow => exact owns_empty 53 3 (by simp) (by simp; omega)
      case c0 => exact ents_flat_length _
      case c1 => rw [HW2.out]; exact hnews.out
      case c2 => exact ents_flat_one _
      case c3 => unfold maxLen; omega
      case c4 => omega
      case c5 => simp only [World.size_alloc]; omega
      rw [HW2.out]
      intro a3 c3 w3 hown3 hgrow3
      have hg3 : Gr W2 w3 := Below.grown (Gr.alloc (Gr.refl W2) _) hgrow3 (by simp) (by intro q hq; simp [Value.ownBlock] at hq; have := HZW.out; omega)
      have HG3 := Lib.hid (HG2.out.trans hg3)
      have hB3 := hg3.same HB2.out
      have hM3 := hg3.same HM2.out
      have hB73 := hg3.same HB7.out
      have b0 := cell_block hB3 (j := 0) rfl
      have b1 := cell_block hB3 (j := 1) rfl
      have b2 := cell_block hB3 (j := 2) rfl
      have hl3 : w.heap.size < w3.heap.size := (Array.getElem?_eq_some_iff.1 hB3).1
      have hl4 : w.heap.size + 1 < w3.heap.size := (Array.getElem?_eq_some_iff.1 hM3).1
      have hl7 : w2.heap.size < w3.heap.size := (Array.getElem?_eq_some_iff.1 hB73).1
      have rM := rowAt_block hM3 (n := 15) rfl
      have HO3 : Hid (OwnMsgs w1.heap.size w3 (.slice wa n.msgs.length wc') n.msgs) := Lib.hid (HO2.out.gr hg3)
      have HMO : Hid (w3.ownsRow w.heap.size 53 3 (.slice a3 m.ents.length c3) m.ents.length (m.ents.map entCells).flatten) := Lib.hid (by simpa using hown3)
      have hgA : Gr w3 (w3.alloc (.cells (msgCells m (.slice ea m.ents.length ec)).toArray 31)) := Gr.alloc (Gr.refl _) _
      have hI1 : InMsgs (w3.alloc (.cells (msgCells m (.slice ea m.ents.length ec)).toArray 31)) (.slice (some ⟨w3.heap.size, 0, none⟩) 1 1) [m] :=
        is_one (by show w3.heap.size < (w3.alloc _).heap.size; simp) (range_row (alloc1_heap w3 _)) (SL.mono (IsEnts.gr (HG3.out.trans hgA) HE.out) fun q (hq : q < w.heap.size) => by show q < (w3.alloc _).heap.size; simp; omega)
      have HPU := Lib.hid (push_net _ n (.slice a n.msgs.length c) _ [m] ((HX.out.gr HG3.out).gr hgA) HF.out.small hI1 ⟨by simp, fun m' hm1 => by simp at hm1; subst hm1; omega⟩)
      have HGA := Lib.hid hgA
      have HB3 := Lib.hid hB3
      have HM3 := Lib.hid hM3
      have HB73 := Lib.hid hB73
      clear hB3 hM3 hB73 hown3 hgrow3 hg3 hgA hI1 HG2 HB2 HM2 HB7 HO2 HW2 hnews hsrc HES c9 HZW
      go_wp2_with fail
      refine HPU.out.mono ?_
      rintro e w4 ⟨av, rfl, hg4', ho4⟩
      have hg4 := HGA.out.trans hg4'
      obtain ⟨aa, ac, rfl, _, _⟩ := ho4.is.len
      simp only [netV]
      have HfA : Hid (Few (pushNet n [m]).msgs) := Lib.hid (push_few HF.out hbe')
      generalize pushNet n [m] = na at *
      generalize pushErr n [m] = ea4 at *
      have HOA := Lib.hid (OwnMsgs.base (base' := w3.heap.size) HGA.out.size ho4)
      clear hg4' ho4 HPU b0 b1 b2 rM HGA
      obtain ⟨W4, hW4⟩ : ∃ W4, w4.alloc (.cells #[.slice aa na.msgs.length ac, .int .i64 na.sent, .int .i64 na.lost] 26) = W4 := ⟨_, rfl⟩
      have g4 : Gr w4 W4 := by rw [← hW4]; exact Gr.alloc (Gr.refl _) _
      have hC9 : W4.heap[w4.heap.size]? = some (.cells #[.slice aa na.msgs.length ac, .int .i64 na.sent, .int .i64 na.lost] 26 (0, 0)) := by rw [← hW4]; exact alloc1_heap _ _
      have HG4 := Lib.hid (hg4.trans g4)
      have HC9 := Lib.hid hC9
      have HOA4 := Lib.hid (HOA.out.gr g4)
      have hB4 := (hg4.trans g4).same HB3.out
      have b0 := cell_block (hg4.same HB3.out) (j := 0) rfl
      have b1 := cell_block (hg4.same HB3.out) (j := 1) rfl
      have b2 := cell_block (hg4.same HB3.out) (j := 2) rfl
      have hl3' : w.heap.size < w4.heap.size := (Array.getElem?_eq_some_iff.1 (hg4.same HB3.out)).1
      have HW4 := Lib.hid hW4
      have HPL := Lib.hid (pull_net W4 n (.slice a n.msgs.length c) at' (HX.out.gr (HG3.out.trans HG4.out)) HF.out.small)
      clear hW4 g4 hC9 hg4 hB4 HOA
      go_wp2_with fail
      rw [HW4.out]
      clear HW4 b0 b1 b2 hl3'
      refine HPL.out.mono ?_
      rintro e w5 ⟨bv, xv, rfl, hg5, ho5, hx5⟩
      obtain ⟨ba, bc, rfl, _, _⟩ := ho5.is.len
      obtain ⟨xa, xc, rfl⟩ := owns_slice hx5
      simp only [netV, msgV]
      have HfB : Hid (Few (pullNet n at').msgs) := Lib.hid (pull_few HF.out at')
      have HfX : Hid ((pullMsg n at').ents.length ≤ 20) := Lib.hid (pulled_few HF.out at')
      generalize pullNet n at' = nb at *
      generalize pullMsg n at' = mx at *
      generalize pullOk n = ok5 at *
      obtain ⟨W5, hW5⟩ : ∃ W5, (w5.alloc (.cells #[.slice ba nb.msgs.length bc, .int .i64 nb.sent, .int .i64 nb.lost] 26)).alloc (.cells (msgCells mx (.slice xa mx.ents.length xc)).toArray 31) = W5 := ⟨_, rfl⟩
      have g5 : Gr w5 W5 := by rw [← hW5]; exact Gr.alloc (Gr.alloc (Gr.refl _) _) _
      have HC11 : Hid (W5.heap[w5.heap.size]? = some (.cells #[.slice ba nb.msgs.length bc, .int .i64 nb.sent, .int .i64 nb.lost] 26 (0, 0))) := by rw [← hW5]; exact alloc2_heap0 _ _ _
      have HC12 : Hid (W5.heap[w5.heap.size + 1]? = some (.cells (msgCells mx (.slice xa mx.ents.length xc)).toArray 31 (0, 0))) := by rw [← hW5]; exact alloc2_heap1 _ _ _
      have HG5 := Lib.hid (HG4.out.trans (hg5.trans g5))
      have HC95 := Lib.hid ((hg5.trans g5).same HC9.out)
      have HOA5 := Lib.hid (HOA4.out.gr (hg5.trans g5))
      have HOB5 := Lib.hid ((OwnMsgs.base (base' := w3.heap.size) HG4.out.size ho5).gr g5)
      have HOX5 := Lib.hid ((OwnEnts.base (base' := w3.heap.size) HG4.out.size hx5).gr g5)
      have b0 := cell_block (hg5.same (HG4.out.same HB3.out)) (j := 0) rfl
      have b1 := cell_block (hg5.same (HG4.out.same HB3.out)) (j := 1) rfl
      have b2 := cell_block (hg5.same (HG4.out.same HB3.out)) (j := 2) rfl
      have hl3' : w.heap.size < w5.heap.size := (Array.getElem?_eq_some_iff.1 (hg5.same (HG4.out.same HB3.out))).1
      have HW5 := Lib.hid hW5
      have HAG := Lib.hid (again_net W5 n (.slice a n.msgs.length c) at' (HX.out.gr (HG3.out.trans HG5.out)) HF.out.small)
      clear hW5 g5 hg5 ho5 hx5 HPL HC9 HOA4
      go_wp2_with fail
      rw [HW5.out]
      clear HW5 b0 b1 b2 hl3'
      refine HAG.out.mono ?_
      rintro e w6 ⟨cv, rfl, hg6, ho6⟩
      obtain ⟨ca, cc, rfl, _, _⟩ := ho6.is.len
      simp only [netV]
      have HfC : Hid (Few (againNet n at').msgs) := Lib.hid (again_few HF.out at')
      generalize againNet n at' = nc at *
      generalize againErr n = ec6 at *
      obtain ⟨W6, hW6⟩ : ∃ W6, w6.alloc (.cells #[.slice ca nc.msgs.length cc, .int .i64 nc.sent, .int .i64 nc.lost] 26) = W6 := ⟨_, rfl⟩
      have g6 : Gr w6 W6 := by rw [← hW6]; exact Gr.alloc (Gr.refl _) _
      have hC14 : W6.heap[w6.heap.size]? = some (.cells #[.slice ca nc.msgs.length cc, .int .i64 nc.sent, .int .i64 nc.lost] 26 (0, 0)) := by rw [← hW6]; exact alloc1_heap _ _
      have HG6 := Lib.hid (HG5.out.trans (hg6.trans g6))
      have hC9 := (hg6.trans g6).same HC95.out
      have hC11 := (hg6.trans g6).same HC11.out
      have hC12 := (hg6.trans g6).same HC12.out
      have HOA6 := Lib.hid (HOA5.out.gr (hg6.trans g6))
      have HOB6 := Lib.hid (HOB5.out.gr (hg6.trans g6))
      have HOX6 := Lib.hid (HOX5.out.gr (hg6.trans g6))
      have HOC6 := Lib.hid ((OwnMsgs.base (base' := w3.heap.size) HG5.out.size ho6).gr g6)
      have hB6 := HG6.out.same HB3.out
      have HW6 := Lib.hid hW6
      clear hW6 g6 hg6 ho6 HAG HC95 HC11 HC12 HOA5 HOB5 HOX5
      have HC9 := Lib.hid hC9
      have HC11 := Lib.hid hC11
      have HC12 := Lib.hid hC12
      have HC14 := Lib.hid hC14
      have HB6 := Lib.hid hB6
      clear hC9 hC11 hC12 hC14 hB6
      go_wp2_with fail
      rw [HW6.out]
      clear HW6
      have HfD : Hid (Few (loseNet n at').msgs) := Lib.hid (lose_few HF.out at')
      have HfE : Hid (Few (cutNet n at').msgs) := Lib.hid (cut_few HF.out at')
      have HON := Lib.hid (fun X (h : Gr W6 X) => (own_net X n (.slice a n.msgs.length c) (HX.out.gr (HG3.out.trans (HG6.out.trans h))) HF.out.small).mono fun e w' he => ownPost_base (Nat.le_trans HG6.out.size h.size) he)
      have HLO := Lib.hid (fun X (h : Gr W6 X) => (lose_net X n (.slice a n.msgs.length c) at' (HX.out.gr (HG3.out.trans (HG6.out.trans h))) HF.out.small).mono fun e w' he => ownPost_base (Nat.le_trans HG6.out.size h.size) he)
      have HCU := Lib.hid (fun X (h : Gr W6 X) => (cut_net X n (.slice a n.msgs.length c) at' (HX.out.gr (HG3.out.trans (HG6.out.trans h))) HF.out.small).mono fun e w' he => ownPost_base (Nat.le_trans HG6.out.size h.size) he)
      simp only [netV] at HON HLO HCU
      generalize loseNet n at' = nl at *
      generalize cutNet n at' = nd at *
      have kS : ∀ X Y, (Gr W6 X ∧ X.cell? ⟨w.heap.size, 0, none⟩ = some (.slice a n.msgs.length c) ∧ X.cell? ⟨w.heap.size, 1, none⟩ = some (.int .i64 n.sent) ∧ X.cell? ⟨w.heap.size, 2, none⟩ = some (.int .i64 n.lost) ∧ X.cell? ⟨w4.heap.size, 0, none⟩ = some (.slice aa na.msgs.length ac) ∧ X.cell? ⟨w4.heap.size, 1, none⟩ = some (.int .i64 na.sent) ∧ X.cell? ⟨w4.heap.size, 2, none⟩ = some (.int .i64 na.lost) ∧ X.cell? ⟨w5.heap.size, 0, none⟩ = some (.slice ba nb.msgs.length bc) ∧ X.cell? ⟨w5.heap.size, 1, none⟩ = some (.int .i64 nb.sent) ∧ X.cell? ⟨w5.heap.size, 2, none⟩ = some (.int .i64 nb.lost) ∧ X.cell? ⟨w6.heap.size, 0, none⟩ = some (.slice ca nc.msgs.length cc) ∧ X.cell? ⟨w6.heap.size, 1, none⟩ = some (.int .i64 nc.sent) ∧ X.cell? ⟨w6.heap.size, 2, none⟩ = some (.int .i64 nc.lost)) → Gr X Y → (Gr W6 Y ∧ Y.cell? ⟨w.heap.size, 0, none⟩ = some (.slice a n.msgs.length c) ∧ Y.cell? ⟨w.heap.size, 1, none⟩ = some (.int .i64 n.sent) ∧ Y.cell? ⟨w.heap.size, 2, none⟩ = some (.int .i64 n.lost) ∧ Y.cell? ⟨w4.heap.size, 0, none⟩ = some (.slice aa na.msgs.length ac) ∧ Y.cell? ⟨w4.heap.size, 1, none⟩ = some (.int .i64 na.sent) ∧ Y.cell? ⟨w4.heap.size, 2, none⟩ = some (.int .i64 na.lost) ∧ Y.cell? ⟨w5.heap.size, 0, none⟩ = some (.slice ba nb.msgs.length bc) ∧ Y.cell? ⟨w5.heap.size, 1, none⟩ = some (.int .i64 nb.sent) ∧ Y.cell? ⟨w5.heap.size, 2, none⟩ = some (.int .i64 nb.lost) ∧ Y.cell? ⟨w6.heap.size, 0, none⟩ = some (.slice ca nc.msgs.length cc) ∧ Y.cell? ⟨w6.heap.size, 1, none⟩ = some (.int .i64 nc.sent) ∧ Y.cell? ⟨w6.heap.size, 2, none⟩ = some (.int .i64 nc.lost)) :=
        fun X Y h hg => ⟨h.1.trans hg, later_cell hg h.2.1, later_cell hg h.2.2.1, later_cell hg h.2.2.2.1, later_cell hg h.2.2.2.2.1, later_cell hg h.2.2.2.2.2.1, later_cell hg h.2.2.2.2.2.2.1, later_cell hg h.2.2.2.2.2.2.2.1, later_cell hg h.2.2.2.2.2.2.2.2.1, later_cell hg h.2.2.2.2.2.2.2.2.2.1, later_cell hg h.2.2.2.2.2.2.2.2.2.2.1, later_cell hg h.2.2.2.2.2.2.2.2.2.2.2.1, later_cell hg h.2.2.2.2.2.2.2.2.2.2.2.2⟩
      have HK := Lib.hid kS
      have HK0 := Lib.hid (kS W6 W6.drew ⟨Gr.refl _, cell_block HB6.out rfl, cell_block HB6.out rfl, cell_block HB6.out rfl, cell_block HC9.out rfl, cell_block HC9.out rfl, cell_block HC9.out rfl, cell_block HC11.out rfl, cell_block HC11.out rfl, cell_block HC11.out rfl, cell_block HC14.out rfl, cell_block HC14.out rfl, cell_block HC14.out rfl⟩ (Gr.drew (Gr.refl _)))
      clear kS
      go_cut [68, 69, 70] from 57 to 67 (fun s68 s69 s70 wx => s69 = .int .i64 6 ∧ s70 = .int .i64 0 ∧ SixNets w3.heap.size wx s68 ∧ Gr W6 wx)
      case first =>
        go_region_held3 (fun X => Gr W6 X ∧ X.cell? ⟨w.heap.size, 0, none⟩ = some (.slice a n.msgs.length c) ∧ X.cell? ⟨w.heap.size, 1, none⟩ = some (.int .i64 n.sent) ∧ X.cell? ⟨w.heap.size, 2, none⟩ = some (.int .i64 n.lost) ∧ X.cell? ⟨w4.heap.size, 0, none⟩ = some (.slice aa na.msgs.length ac) ∧ X.cell? ⟨w4.heap.size, 1, none⟩ = some (.int .i64 na.sent) ∧ X.cell? ⟨w4.heap.size, 2, none⟩ = some (.int .i64 na.lost) ∧ X.cell? ⟨w5.heap.size, 0, none⟩ = some (.slice ba nb.msgs.length bc) ∧ X.cell? ⟨w5.heap.size, 1, none⟩ = some (.int .i64 nb.sent) ∧ X.cell? ⟨w5.heap.size, 2, none⟩ = some (.int .i64 nb.lost) ∧ X.cell? ⟨w6.heap.size, 0, none⟩ = some (.slice ca nc.msgs.length cc) ∧ X.cell? ⟨w6.heap.size, 1, none⟩ = some (.int .i64 nc.sent) ∧ X.cell? ⟨w6.heap.size, 2, none⟩ = some (.int .i64 nc.lost))
          (first | exact HK0.out | exact HK.out _ _ (by assumption) (by assumption) | exact HK.out _ _ (by assumption) (Gr.alloc (Gr.refl _) _))
          (first
            | (go_at_call 19; refine (HON.out _ ((by assumption : (Gr W6 _ ∧ _)).1)).mono ?_; rintro e y1 ⟨ya1, yc1, rfl, hgy1, hoy1⟩; (try have hoy2 := OwnMsgs.gr hgy1 hoy2); (try have hoy3 := OwnMsgs.gr hgy1 hoy3))
            | (go_at_call 10; refine (HLO.out _ ((by assumption : (Gr W6 _ ∧ _)).1)).mono ?_; rintro e y2 ⟨ya2, yc2, rfl, hgy2, hoy2⟩; (try have hoy1 := OwnMsgs.gr hgy2 hoy1); (try have hoy3 := OwnMsgs.gr hgy2 hoy3))
            | (go_at_call 12; refine (HCU.out _ ((by assumption : (Gr W6 _ ∧ _)).1)).mono ?_; rintro e y3 ⟨ya3, yc3, rfl, hgy3, hoy3⟩; (try have hoy1 := OwnMsgs.gr hgy3 hoy1); (try have hoy2 := OwnMsgs.gr hgy3 hoy2)))
        all_goals
          go_wp2_with fail
          go_meet
          case rel =>
            refine ⟨rfl, rfl, ⟨y3.heap.size, _, rfl, alloc1_heap _ _, fun r hr => ?_⟩, Gr.alloc (Gr.trans (Gr.drew (Gr.refl W6)) (hgy1.trans (hgy2.trans hgy3))) _⟩
            have gy : Gr W6 y3 := Gr.trans (Gr.drew (Gr.refl W6)) (hgy1.trans (hgy2.trans hgy3))
            have al : ∀ o, Gr y3 (y3.alloc o) := fun o => Gr.alloc (Gr.refl _) o
            match r, hr with
            | 0, _ => exact ⟨_, _, _, _, _, rfl, rfl, rfl, MsgShape.ww (WW.gr (al _)) (MsgShape.of hoy1 HF.out.small)⟩
            | 1, _ => exact ⟨_, _, _, _, _, rfl, rfl, rfl, MsgShape.ww (WW.gr (gy.trans (al _))) (MsgShape.of HOA6.out HfA.out.small)⟩
            | 2, _ => exact ⟨_, _, _, _, _, rfl, rfl, rfl, MsgShape.ww (WW.gr (gy.trans (al _))) (MsgShape.of HOB6.out HfB.out.small)⟩
            | 3, _ => exact ⟨_, _, _, _, _, rfl, rfl, rfl, MsgShape.ww (WW.gr (gy.trans (al _))) (MsgShape.of HOC6.out HfC.out.small)⟩
            | 4, _ => exact ⟨_, _, _, _, _, rfl, rfl, rfl, MsgShape.ww (WW.gr (al _)) (MsgShape.of hoy2 HfD.out.small)⟩
            | 5, _ => exact ⟨_, _, _, _, _, rfl, rfl, rfl, MsgShape.ww (WW.gr (al _)) (MsgShape.of hoy3 HfE.out.small)⟩
      case rest =>
        obtain ⟨rfl, rfl, hsix, hgc⟩ := hcut
        obtain ⟨B, arr, rfl, hBa, hnets⟩ := hsix
        have hg3c := HG6.out.trans hgc
        have HSIX : Hid (SixNets w3.heap.size wc (.slice (some ⟨B, 0, none⟩) 6 6)) := Lib.hid ⟨B, arr, rfl, hBa, hnets⟩
        have HG3C := Lib.hid hg3c
        have HCX := Lib.hid (hgc.same HC12.out)
        have HXS := Lib.hid ((EntShape.of HOX6.out (by have := HfX.out; omega)).ww (WW.gr hgc))
        clear hBa hnets hgc hg3c HOA6 HOB6 HOX6 HOC6 HC9 HC11 HC12 HC14 HB6 HON HLO HCU HK HK0 HfA HfB HfC HfD HfE
        have HMI : Hid (IsEnts (fun b => w.heap.size ≤ b) w3 (.slice a3 m.ents.length c3) m.ents) := Lib.hid (SL.of_owns (by intro x hx; obtain ⟨e, _, rfl⟩ := List.mem_map.1 hx; rfl) (by rw [List.length_map]; exact HMO.out))
        go_wp2_with fail
        go_loopw [70] (fun rv wr => ∃ r : Nat, rv = .int .i64 r ∧ r ≤ 6 ∧ WW wc wr ∧ Gr w3 wr) (fun rv _ => 6 - (intOf rv).toNat)
        case atStart => exact ⟨0, rfl, by omega, WW.refl _, HG3C.out⟩
        case round =>
          obtain ⟨r, rfl, hr, hww, hgr⟩ := hrel
          by_cases hlt : r < 6
          · have hri : (r : Int) < 6 := by omega
            obtain ⟨B', cur, hv, hb, hnets⟩ := HSIX.out.ww hww
            simp only [Value.slice.injEq, Option.some.injEq, Addr.mk.injEq, and_true] at hv
            obtain rfl := hv
            obtain ⟨na', nn, nc', ns, nl', r0, r1, r2, hsh⟩ := hnets r hlt
            have q0 := cell_block hb r0
            have q1 := cell_block hb r1
            have q2 := cell_block hb r2
            have hlb : B < wr.heap.size := (Array.getElem?_eq_some_iff.1 hb).1
            have hnn := hsh.max
            obtain ⟨W17, hW17⟩ : ∃ W17, wr.alloc (.cells #[.slice na' nn nc', .int .i64 ns, .int .i64 nl'] 26) = W17 := ⟨_, rfl⟩
            have g17 : Gr wr W17 := by rw [← hW17]; exact Gr.alloc (Gr.refl _) _
            have H17 : Hid (W17.heap[wr.heap.size]? = some (.cells #[.slice na' nn nc', .int .i64 ns, .int .i64 nl'] 26 (0, 0))) := by rw [← hW17]; exact alloc1_heap _ _
            have HSH := Lib.hid (hsh.ww (WW.gr g17))
            have HWW := Lib.hid (hww.trans (WW.gr g17))
            have HGR := Lib.hid (hgr.trans g17)
            have HW17 := Lib.hid hW17
            obtain ⟨wo, rfl⟩ : ∃ wo : World, wo = wr := ⟨_, rfl⟩
            clear hb r0 r1 r2 hnets hsh hW17 g17 hww hgr
            go_wp2_with fail
            rw [HW17.out]
            clear HW17 q0 q1 q2
            go_loopw [18] (fun iv wr => ∃ i : Nat, iv = .int .i64 i ∧ i ≤ nn ∧ WW W17 wr ∧ Gr w3 wr) (fun iv _ => nn - (intOf iv).toNat)
            case atStart => exact ⟨0, rfl, by omega, WW.refl _, HGR.out⟩
            case round =>
              obtain ⟨i, rfl, hin, hww, hgr⟩ := hrel
              have hb17 := hww.plain H17.out (by decide) (by decide)
              have f0 := cell_block hb17 (j := 0) rfl
              have hl17 : wo.heap.size < wr.heap.size := (Array.getElem?_eq_some_iff.1 hb17).1
              by_cases hlt2 : i < nn
              · obtain ⟨g, cur31, u3, rfl, hDg, hgs, hb31, k3, z3, ea', el, ec', k9, hes⟩ := (HSH.out.ww hww).at hlt2
                have hel := hes.max
                have h1 : WW wr (wr.setCell ⟨g, i * 15 + 3, none⟩ (.int .i64 (-9))) := WW.term hb31 _
                have h2 : Gr w3 (wr.setCell ⟨g, i * 15 + 3, none⟩ (.int .i64 (-9))) := Gr.set hgr hDg _
                have k9' := cell_block9 hb31 k9
                obtain ⟨WS, hWS⟩ : ∃ WS, wr.setCell ⟨g, i * 15 + 3, none⟩ (.int .i64 (-9)) = WS := ⟨_, rfl⟩
                rw [hWS] at h1 h2
                have HB31 := Lib.hid (h1.keep _ _ _ hb31)
                have HK9 := Lib.hid k9'
                have HES := Lib.hid (hes.ww h1)
                have HWW2 := Lib.hid (hww.trans h1)
                have H2 := Lib.hid h2
                have HWS := Lib.hid hWS
                have H17' := Lib.hid (h1.plain hb17 (by decide) (by decide))
                clear hww hgr hb17 hb31 hes h1 h2 hWS k9' k9
                go_wp2_with fail
                rw [HWS.out]
                clear HWS k3 z3 f0
                obtain ⟨wi, rfl⟩ : ∃ wi : World, wi = wr := ⟨_, rfl⟩
                go_loopw [19] (fun kv wr => ∃ k : Nat, kv = .int .i64 k ∧ k ≤ el ∧ WW WS wr ∧ Gr w3 wr) (fun kv _ => el - (intOf kv).toNat)
                case atStart => exact ⟨0, rfl, by omega, WW.refl _, H2.out⟩
                case round =>
                  obtain ⟨k, rfl, hke, hww, hgr⟩ := hrel
                  have hb17 := hww.plain H17'.out (by decide) (by decide)
                  have f0 := cell_block hb17 (j := 0) rfl
                  have hl17' : wo.heap.size < wr.heap.size := (Array.getElem?_eq_some_iff.1 hb17).1
                  obtain ⟨cS, hbS, _, _, hcS⟩ := HB31.out
                  obtain ⟨cR, hbR, _, _, hcR⟩ := hww.keep _ _ _ hbS
                  have k9 : wr.cell? ⟨g, i * 15 + 9, none⟩ = some (.slice ea' el ec') := cell_block hbR (by rw [hcR (by first | rfl | trivial) _ (by omega), hcS (by first | rfl | trivial) _ (by omega)]; exact HK9.out)
                  have hgs' : g < wr.heap.size := (Array.getElem?_eq_some_iff.1 hbR).1
                  clear hbS hbR hcS hcR
                  by_cases hlt3 : k < el
                  · obtain ⟨h, cur53, u2, rfl, hDh, hhs, hb53, k2, z2⟩ := (HES.out.ww hww).at hlt3
                    have HWW3 := Lib.hid (hww.trans (WW.entry hb53 (i := k * 3 + 2) (.int .i64 (-9))))
                    have HGR3 := Lib.hid (Gr.set hgr (p := ⟨h, k * 3 + 2, none⟩) hDh (.int .i64 (-9)))
                    clear hww hgr hb17 hb53
                    go_wp2
                    exact ⟨⟨k + 1, by go_num, by omega, HWW3.out, HGR3.out⟩, by simp [intOf]; omega⟩
                  · have HWW3 := Lib.hid (HWW2.out.trans hww)
                    have HGR3 := Lib.hid hgr
                    clear hww hgr hb17
                    go_wp2
                    exact ⟨⟨i + 1, by go_num, by omega, HWW3.out, HGR3.out⟩, by simp [intOf]; omega⟩
              · have HWW3 := Lib.hid (HWW.out.trans hww)
                have HGR3 := Lib.hid hgr
                clear hww hgr hb17
                go_wp2
                exact ⟨⟨r + 1, by go_num, by omega, HWW3.out, HGR3.out⟩, by simp [intOf]; omega⟩
          · have hri : ¬ (r : Int) < 6 := by omega
            have HXS2 := Lib.hid (HXS.out.ww hww)
            obtain ⟨cX, hbX, _, _, hcX⟩ := hww.keep _ _ _ HCX.out
            have hcx9 : cX[9]? = some (.slice xa mx.ents.length xc) := by rw [hcX (by first | rfl | trivial) 9 (by decide)]; rfl
            have HBX := Lib.hid hbX
            have HCX9 := Lib.hid hcx9
            have HGR := Lib.hid hgr
            clear hww hgr hbX hcX hcx9 HSIX HCX
            go_wp2_with fail
            obtain ⟨wo, rfl⟩ : ∃ wo : World, wo = wr := ⟨_, rfl⟩
            go_loopw [20] (fun kv wr => ∃ k : Nat, kv = .int .i64 k ∧ k ≤ mx.ents.length ∧ WW wo wr ∧ Gr w3 wr) (fun kv _ => mx.ents.length - (intOf kv).toNat)
            case atStart => exact ⟨0, rfl, by omega, WW.refl _, HGR.out⟩
            case round =>
              obtain ⟨k, rfl, hke, hww, hgr⟩ := hrel
              obtain ⟨cR, hbR, _, _, hcR⟩ := hww.keep _ _ _ HBX.out
              have k9 : wr.cell? ⟨w5.heap.size + 1, 9, none⟩ = some (.slice xa mx.ents.length xc) := cell_block hbR (by rw [hcR (by first | rfl | trivial) _ (by decide)]; exact HCX9.out)
              have hlx : w5.heap.size + 1 < wr.heap.size := (Array.getElem?_eq_some_iff.1 hbR).1
              have hmx : mx.ents.length ≤ 20 := HfX.out
              clear hbR hcR
              by_cases hlt3 : k < mx.ents.length
              · obtain ⟨h, cur53, u2, rfl, hDh, hhs, hb53, k2, z2⟩ := (HXS2.out.ww hww).at hlt3
                have HWW3 := Lib.hid (hww.trans (WW.entry hb53 (i := k * 3 + 2) (.int .i64 (-9))))
                have HGR3 := Lib.hid (Gr.set hgr (p := ⟨h, k * 3 + 2, none⟩) hDh (.int .i64 (-9)))
                clear hww hgr hb53
                go_wp2
                exact ⟨⟨k + 1, by go_num, by omega, HWW3.out, HGR3.out⟩, by simp [intOf]; omega⟩
              · have c9 := cell_block (hgr.same HM3.out) (j := 9) (v := .slice ea m.ents.length ec) rfl
                have hlm : w.heap.size + 1 < wr.heap.size := (Array.getElem?_eq_some_iff.1 (hgr.same HM3.out)).1
                have HGRR := Lib.hid hgr
                have q1 : ((m.ents.length : Int) == (m.ents.length : Int)) = true := beq_self_eq_true _
                clear hww hgr
                go_wp2_with fail
                obtain ⟨wp, rfl⟩ : ∃ wp : World, wp = wr := ⟨_, rfl⟩
                clear k9 c9
                go_loopw [21] (fun iv wr => ∃ i : Nat, iv = .int .i64 i ∧ i ≤ m.ents.length ∧ Gr w3 wr) (fun iv _ => m.ents.length - (intOf iv).toNat)
                case atStart => exact ⟨0, rfl, by omega, HGRR.out⟩
                case round =>
                  obtain ⟨i, rfl, hie, hgr⟩ := hrel
                  by_cases hlt4 : i < m.ents.length
                  · obtain ⟨x, hx⟩ : ∃ x, m.ents[i]? = some x := ⟨_, List.getElem?_eq_getElem hlt4⟩
                    obtain ⟨b, o, c', hv, _, _, hbS, hrows⟩ := HE.out.some (by omega)
                    simp only [Value.slice.injEq, true_and] at hv
                    obtain ⟨rfl, rfl⟩ := hv
                    obtain ⟨b2, o2, c2, hv2, _, _, hbS2, hrows2⟩ := HMI.out.some (by omega)
                    simp only [Value.slice.injEq, true_and] at hv2
                    obtain ⟨rfl, rfl⟩ := hv2
                    obtain ⟨x0, x1, x2⟩ := ent_cells (later_range (HG3.out.trans hgr) (hrows i x hx))
                    obtain ⟨y0, y1, y2⟩ := ent_cells (later_range hgr (hrows2 i x hx))
                    have c9 := cell_block (hgr.same HM3.out) (j := 9) (v := .slice (some ⟨b, o, none⟩) m.ents.length ec) rfl
                    have HGI := Lib.hid hgr
                    clear hx hrows hrows2 hgr
                    go_wp2_with fail
                    go_quiet (fail)
                    go_wp2
                    exact ⟨⟨i + 1, by go_num, by omega, HGI.out.drewN _⟩, by simp [intOf]; omega⟩
                  · have hB3 := hgr.same HB3.out
                    have hB7 := hgr.same HB73.out
                    have b0 := cell_block hB3 (j := 0) rfl
                    have b1 := cell_block hB3 (j := 1) rfl
                    have b2 := cell_block hB3 (j := 2) rfl
                    have d0 := cell_block hB7 (j := 0) rfl
                    have d1 := cell_block hB7 (j := 1) rfl
                    have d2 := cell_block hB7 (j := 2) rfl
                    have hsa := refSame_any wr _ _ (.slice a n.msgs.length c) (.slice wa n.msgs.length wc') n n (HX.out.gr (HG3.out.trans hgr)) (HO3.out.gr hgr).is HF.out.small HF.out.small
                    simp only [decide_true] at hsa
                    have HSA := Lib.hid hsa
                    have HGF := Lib.hid (HG3.out.trans hgr)
                    clear hgr hB3 hB7 hsa
                    go_wp2_with fail
                    refine HSA.out.mono ?_
                    rintro e y8 ⟨rfl, hg8⟩
                    go_wp2_with fail
                    refine (HWK.out _).mono ?_
                    rintro e y9 ⟨rfl, hg9⟩
                    go_wp2
                    go_ret
                    exact ⟨rfl, (HGF.out.trans hg8).trans hg9⟩
end Go.Proofs.Ytajghkjghiifjaa
