/-
  Walks: a net of the messages of which it is so.
-/
import Derived.Test.YtajghkjghiifjaaWm
namespace Go.Proofs.Ytajghkjghiifjaa
open Go Go.RowKit
attribute [local go_sem ↓] opLoad31_eq opStore31_eq opRow1_eq opLoad31_in opStore31_in opRow1_in
attribute [local go_sem] Oper.semAt_some msgV opLoad31 opStore31 opRow1_msg rowAt_alloc_at rowAt_alloc_past rowAt_drew wholeAt_alloc_at wholeAt_alloc_past wholeAt_drew setRow_alloc_at setRow_alloc_past msg_0 msg_1 msg_2 msg_3 msg_9 msg_g0 msg_g1 msg_g2 msg_g3 msg_g9 msg_set9 msg_set3 msg_size msgCells_length msg_one_slice gr_alloc' gr_drew' gr_drewN'

theorem those1_enters : ∀ args w, (callFunc 33 args).run Try.prog w = .ok (.enter 33 args) w := enters_of Try.func33 (by kernel_rfl) rfl

/-- Between two rounds: the box B of the net that is made, the box Z of the result, what has been collected. -/
def ButI (w : World) (base B Z : Nat) (ys : List Msg) (s l : Int) (k : Nat) (W : World) : Prop :=
  ∃ (evs : List Value) (va : Option Addr) (vc : Nat), W.heap[B]? = some (.cells #[.slice va k vc, .int .i64 s, .int .i64 l] 26 (0, 0)) ∧ W.heap[Z]? = some (.cells #[.slice none 0 0, .int .i64 0, .int .i64 0] 26 (0, 0)) ∧
    OwnUp base W (.slice va k vc) ys k evs ∧ Below w.heap.size w W ∧ base ≤ W.heap.size
theorem ButI.data {w : World} {base B Z : Nat} {ys : List Msg} {s l : Int} {k n : Nat} (hn : w.heap.size ≤ n) : OfData n (ButI w base B Z ys s l k) := by
  rintro X Y ⟨evs, va, vc, h1, h2, h3, h4, h5⟩ hk
  exact ⟨evs, va, vc, hk.keep _ _ h1 (.inl rfl), hk.keep _ _ h2 (.inl rfl), h3.dat hk.data, hk.below hn (Nat.le_refl _) h4, Nat.le_trans h5 hk.size⟩
/-- One message more. -/
theorem ButI.push {w : World} {base B Z : Nat} {ys : List Msg} {s l : Int} {k : Nat} {A w2 : World} {evs : List Value} {va : Option Addr} {vc : Nat} {m : Msg} {fv v' : Value} {tmp : Obj}
    (h1 : A.heap[B]? = some (.cells #[.slice va k vc, .int .i64 s, .int .i64 l] 26 (0, 0))) (h2 : A.heap[Z]? = some (.cells #[.slice none 0 0, .int .i64 0, .int .i64 0] 26 (0, 0)))
    (h3 : OwnUp base A (.slice va k vc) ys k evs) (h4 : Below w.heap.size w A) (h5 : base ≤ A.heap.size) (hB : B < base) (hZ : Z < base) (hBw : w.heap.size ≤ B) (hBZ : B ≠ Z)
    (hm : ys[k]? = some m) (ho : OwnEnts base A fv m.ents)
    (hown : w2.ownsRow base 31 15 v' (k + 1) ((List.zipWith msgCells (ys.take k) evs).flatten ++ msgCells m fv)) (hg : (A.alloc tmp).grownBy w2 (Value.slice va k vc).ownBlock) :
    (∃ a' c', v' = .slice a' (k + 1) c') ∧ w2.heap[B]? = some (.cells #[.slice va k vc, .int .i64 s, .int .i64 l] 26 (0, 0)) ∧
    ButI w base B Z ys s l (k + 1) (w2.setCell ⟨B, 0, none⟩ v') ∧ Kp Rcd A (w2.setCell ⟨B, 0, none⟩ v') ∧
    ∀ N : Nat → Obj → Prop, (∀ k o, N k o → k < base ∧ k ≠ B) → Kp N A (w2.setCell ⟨B, 0, none⟩ v') := by
  have hrow : ∀ q, (Value.slice va k vc).ownBlock = some q → base ≤ q ∧ ∃ cur, A.heap[q]? = some (.cells cur 31 (0, 0)) := fun q hq => owns_elem h3.row hq
  have hkeep : ∀ q, q < base → w2.heap[q]? = A.heap[q]? := fun q hq => by
    rw [hg.block q (by simp; omega) (fun e => by have := (hrow q e.symm).1; omega)]
    exact Below.heap_alloc A tmp q (by omega)
  obtain ⟨a', c', rfl⟩ := owns_slice hown
  have hB2 := (hkeep B hB).trans h1
  have hZ2 := (hkeep Z hZ).trans h2
  have hup := h3.push hm ho hown hg
  have hsz : A.heap.size ≤ w2.heap.size := by have := hg.size; simp at this; omega
  refine ⟨⟨a', c', rfl⟩, hB2, ⟨_, a', c', setCell_block hB2 _, heap_set_other hZ2 (Ne.symm hBZ), hup.keep fun q hq _ => setCell_other _ (by omega), ?_, ?_⟩, ?_, ?_⟩
  · have hb2 : Below w.heap.size w w2 := by
      refine Below.grown (Below.alloc h4 h4.size tmp) hg ?_ fun q hq => ?_
      · have := h4.size; simp; omega
      · have := (hrow q hq).1; omega
    exact Below.setCell hb2 (p := ⟨B, 0, none⟩) hBw _
  · simp [World.setCell]; omega
  · refine Kp.setCell (Kp.grown (Kp.alloc (Kp.refl _ _) tmp) hg fun q o hq ho hn => ?_) _ _ fun o ho hn => ?_
    · obtain ⟨_, cur, hc⟩ := hrow q hq
      have hlt : q < A.heap.size := (Array.getElem?_eq_some_iff.1 hc).1
      rw [Below.heap_alloc A tmp q hlt, hc] at ho
      cases ho; cases hn
    · rw [hB2] at ho; cases ho; cases hn
  · intro N hN
    refine Kp.setCell (Kp.grown (Kp.alloc (Kp.refl _ _) tmp) hg fun q o hq ho hn => ?_) _ _ fun o ho hn => ?_
    · have := (hrow q hq).1; have := (hN _ _ hn).1; omega
    · exact (hN _ _ hn).2 rfl

set_option maxRecDepth 100000 in
set_option maxHeartbeats 1000000 in
theorem but_any (w : World) (n : Net) (a : Option Addr) (len c : Nat) (f : FuncId) (cap : Array Value) (p : Msg → Bool) (N0 : World → Prop)
    (hxs : IsMsgs (· < w.heap.size) w (.slice a len c) n.msgs) (hs : Small n.msgs) (hso : So f cap p N0) (heg : ∀ args w, (callFunc f args).run Try.prog w = .ok (.enter f args) w)
    (nN : ∀ A B, N0 A → (∀ k o, k < w.heap.size → isRec o = false → A.heap[k]? = some o → B.heap[k]? = some o) → N0 B) (h0 : N0 w) :
    Calls Try.prog 26 #[.agg #[.slice a len c, .int .i64 n.sent, .int .i64 n.lost], .func (.func f) #[] cap] w (OwnNetPost ⟨n.msgs.filter p, n.sent, n.lost⟩ w) := by
  obtain ⟨i0, hi, hz0, hz1, hz2⟩ := info_parts Try.info31
  have hG3 : Gr w (((w.alloc (.cells #[.slice a len c, .int .i64 n.sent, .int .i64 n.lost] 26)).alloc (.cells #[.slice none 0 0, .int .i64 0, .int .i64 0] 26)).alloc (.cells #[.slice none 0 0, .int .i64 n.sent, .int .i64 n.lost] 26)) := Gr.alloc (Gr.alloc (Gr.alloc (Gr.refl w) _) _) _
  have hit := those_iter (((w.alloc (.cells #[.slice a len c, .int .i64 n.sent, .int .i64 n.lost] 26)).alloc (.cells #[.slice none 0 0, .int .i64 0, .int .i64 0] 26)).alloc (.cells #[.slice none 0 0, .int .i64 n.sent, .int .i64 n.lost] 26)) w.heap.size (.slice a len c) (.int .i64 n.sent) (.int .i64 n.lost) n.msgs f cap p N0 (hxs.gr hG3) hs hso heg nN
    (nN _ _ h0 fun k o _ _ hko => hG3.same hko)
  have hZ3 : (((w.alloc (.cells #[.slice a len c, .int .i64 n.sent, .int .i64 n.lost] 26)).alloc (.cells #[.slice none 0 0, .int .i64 0, .int .i64 0] 26)).alloc (.cells #[.slice none 0 0, .int .i64 n.sent, .int .i64 n.lost] 26)).heap.size = w.heap.size + 1 + 1 + 1 := by simp
  have hB := alloc3_heap2 w (.cells #[.slice a len c, .int .i64 n.sent, .int .i64 n.lost] 26) (.cells #[.slice none 0 0, .int .i64 0, .int .i64 0] 26) (.cells #[.slice none 0 0, .int .i64 n.sent, .int .i64 n.lost] 26)
  have hZ := alloc3_heap1 w (.cells #[.slice a len c, .int .i64 n.sent, .int .i64 n.lost] 26) (.cells #[.slice none 0 0, .int .i64 0, .int .i64 0] 26) (.cells #[.slice none 0 0, .int .i64 n.sent, .int .i64 n.lost] 26)
  rw [hZ3] at hit
  have HIT := Lib.hid hit
  have HG3 := Lib.hid hG3
  have HB := Lib.hid hB
  have HZ := Lib.hid hZ
  have HZ3 := Lib.hid hZ3
  have HSm := Lib.hid hs
  clear hit hG3 hB hZ hZ3 hxs hs hso heg nN h0
  refine (callsIn_wide (n := 0)).1 ?_
  refine callsIn_of_wp_marks Try.func26 rfl trivial ?_ rfl
  simp only [Try.ntmps26, List.size_toArray, List.length_cons, List.length_nil, Nat.reduceAdd, Nat.reduceSub, Array.replicate_succ, Array.replicate_zero, List.push_toArray, List.append_toArray, List.nil_append, List.cons_append]
  gi_wp2_with fail
  refine ⟨trivial, rfl, (callsIn_wide.2 (those_any _ _ _ _ _ f cap rfl)).mono ?_⟩
  rintro e w1 ⟨rfl, rfl⟩
  gi_wp2_with fail
  generalize ((w.alloc (.cells #[.slice a len c, .int .i64 n.sent, .int .i64 n.lost] 26)).alloc (.cells #[.slice none 0 0, .int .i64 0, .int .i64 0] 26)).alloc (.cells #[.slice none 0 0, .int .i64 n.sent, .int .i64 n.lost] 26) = W3 at *
  refine range_iter (gf := 33) rfl those1_enters HIT.out (Gr.refl _) (fun b o h => h.1) (by rintro _ _ _ ⟨i, m, fv, _, rfl, _⟩; rfl)
    (ButI w (w.heap.size + 1 + 1 + 1 + 2) (w.heap.size + 1 + 1) (w.heap.size + 1) ((selUp p n.msgs n.msgs.length).map (·.2)) n.sent n.lost) (fun _ _ => False) (fun k => ButI.data ?_) (fun _ _ _ h _ => h) ?_ ?_ ?_ ?_
  · simp [HZ3.out]; omega
  · have g5 : Gr W3 ((W3.alloc (.cells #[.slice a len c, .int .i64 n.sent, .int .i64 n.lost] 26)).alloc (.cells #[.func (.func f) #[] cap] 59)) := Gr.alloc (Gr.alloc (Gr.refl W3) _) _
    exact ⟨[], none, 0, g5.same HB.out, g5.same HZ.out, OwnUp.start _ _ _, Gr.below (HG3.out.trans g5), by simp [HZ3.out]⟩
  · rintro l k args A hk hI ⟨i, m, fv, hsel, rfl, hown⟩
    obtain ⟨fa, fc, rfl⟩ := owns_slice hown
    have HI := Lib.hid hI
    have HS := Lib.hid hsel
    have HO := Lib.hid hown
    have hkl : k ≤ 1000000 := by have := selUp_length p n.msgs n.msgs.length; have := HSm.out.1; omega
    clear hI hsel hown
    gi_wp2
    refine ⟨fun A' => ButI w (w.heap.size + 1 + 1 + 1 + 2) (w.heap.size + 1 + 1) (w.heap.size + 1) ((selUp p n.msgs n.msgs.length).map (·.2)) n.sent n.lost k A' ∧ OwnEnts (w.heap.size + 1 + 1 + 1 + 2) A' (.slice fa m.ents.length fc) m.ents ∧
      A'.heap[A.heap.size]? = some (.cells (msgCells m (.slice fa m.ents.length fc)).toArray 31 (0, 0)), ?_, ?_, (Kp.refl _ _).alloc _, (Kp.refl _ _).alloc _, ?_⟩
    · rintro X Y ⟨z1, z2, z3⟩ hk
      exact ⟨ButI.data (by simp [HZ3.out]; omega) _ _ z1 hk, z2.dat hk.data, hk.keep _ _ z3 (.inl rfl)⟩
    · have g1 : Gr A (A.alloc (.cells (msgCells m (.slice fa m.ents.length fc)).toArray 31)) := Gr.alloc (Gr.refl A) _
      exact ⟨(ButI.data (Nat.le_refl _)).gr _ _ HI.out g1, HO.out.gr g1, alloc1_heap A _⟩
    · rintro A2 ⟨⟨evs, va, vc, h1, h2, h3, h4, h5⟩, ho, hm⟩ hkA
      have c0 := cell_block h1 (j := 0) (v := .slice va k vc) rfl
      have r7 := rowAt_block hm (n := 15) rfl
      have H1 := Lib.hid h1
      have H2 := Lib.hid h2
      have H3 := Lib.hid h3
      have H4 := Lib.hid h4
      have HR := Lib.hid h3.row
      have HOE := Lib.hid ho
      clear h1 h2 h3 h4 ho hm hkA
      gi_wp2_with (gi_at_builtin; go_loud (refine wpListIn_append_own_at _ rfl _ _ 24 rfl (w.heap.size + 1 + 1 + 1 + 2) 31 i0 _ 15 136 Try.underlying24 hi hz0 hz1 hz2 rfl (by decide) _ k _ rfl (HR.out.alloc _) ⟨A2.heap.size, 0, none⟩ 1 1 (msgCells m (.slice fa m.ents.length fc)) rfl ?c0 ?c1 ?c2 ?c3 ?c4 ?c5 ?_))
      case c0 => rw [msgCells_length]
      case c1 => exact add_cells (range_row (alloc1_heap A2 _))
      case c2 => exact msgCells_one _ _ rfl
      case c3 => unfold maxLen; omega
      case c4 => omega
      case c5 => simp only [World.size_alloc]; omega
      intro v' w2 hown hgrow _ _
      obtain ⟨⟨a', c', rfl⟩, hB2, hI2, hK2, hN2⟩ := ButI.push H1.out H2.out H3.out H4.out h5 (by omega) (by omega) (by omega) (by omega) (by rw [List.getElem?_map, HS.out]; rfl) HOE.out hown hgrow
      have c1' := cell_block hB2 (j := 0) (v := .slice va k vc) rfl
      have f1' := frozen_block hB2 (j := 0)
      have HI2 := Lib.hid hI2
      have HK2 := Lib.hid hK2
      have HN2 := Lib.hid hN2
      clear hown hgrow hB2 hI2 hK2 hN2 c0 r7
      gi_wp2
      exact ⟨HI2.out, HN2.out _ (fun k o h => by obtain ⟨_, h | h | h⟩ := h <;> omega), HK2.out⟩
  · intro D W hD hI hDD
    obtain ⟨evs, va, vc, h1, h2, h3, h4, h5⟩ := hI
    have c0 := cell_block h1 (j := 0) rfl
    have c1 := cell_block h1 (j := 1) rfl
    have c2 := cell_block h1 (j := 2) rfl
    have d0 := cell_block h2 (j := 0) rfl
    have d1 := cell_block h2 (j := 1) rfl
    have d2 := cell_block h2 (j := 2) rfl
    have e0 := frozen_block h2 (j := 0)
    have e1 := frozen_block h2 (j := 1)
    have e2 := frozen_block h2 (j := 2)
    have hD' : w.heap.size + 1 + 1 + 1 + 2 ≤ D := by simp [HZ3.out] at hD; omega
    have hys : (selUp p n.msgs n.msgs.length).map (·.2) = n.msgs.filter p := by rw [selUp_filter, List.take_length]
    have H2 := Lib.hid h2
    have H3 := Lib.hid h3
    have H4 := Lib.hid h4
    have HD := Lib.hid hDD
    have HYS := Lib.hid hys
    clear h1 h2 h3 h4 hDD hys hD
    gi_wp2
    refine ⟨by simp, .inl ⟨D, _, rfl, run_takeDeferred (heap_set_other (heap_set_other (heap_set_other HD.out (by omega)) (by omega)) (by omega)), ?_⟩⟩
    have hz := net_filled H2.out (.slice va (selUp p n.msgs n.msgs.length).length vc) (.int .i64 n.sent) (.int .i64 n.lost)
    refine ⟨_, results_row rfl Try.underlying26 rfl info26 rfl (rowAt_block (cs := #[.slice va (selUp p n.msgs n.msgs.length).length vc, .int .i64 n.sent, .int .i64 n.lost]) (t := 26) (f := (0, 0)) ?_ rfl), _, rfl, ?_, ?_⟩
    · exact (World.putObj_heap_other (by omega)).trans hz
    · have hb := Below.setCell (Below.setCell (Below.setCell H4.out (p := ⟨w.heap.size + 1, 0, none⟩) (by simp) (.slice va (selUp p n.msgs n.msgs.length).length vc)) (p := ⟨w.heap.size + 1, 1, none⟩) (by simp) (.int .i64 n.sent)) (p := ⟨w.heap.size + 1, 2, none⟩) (by simp) (.int .i64 n.lost)
      exact Below.trans hb ⟨rfl, rfl, rfl, by simp, fun q hq => World.putObj_heap_other (by omega)⟩
    · have h6 := H3.out.done (by simp)
      rw [HYS.out] at h6
      refine OwnMsgs.base (by omega) (h6.keepC fun q cur e hq hc => ?_)
      have hqD : q ≠ D := by rintro rfl; rw [HD.out] at hc; cases hc
      rw [World.putObj_heap_other hqD, setCell_other _ (by omega), setCell_other _ (by omega), setCell_other _ (by omega)]
  · intro D c W hD h
    exact h.elim
end Go.Proofs.Ytajghkjghiifjaa
