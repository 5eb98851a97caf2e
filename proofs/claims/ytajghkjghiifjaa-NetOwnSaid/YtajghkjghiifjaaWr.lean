/-
  Walks: messages put on their way.
-/
import Derived.Test.YtajghkjghiifjaaWq
namespace Go.Proofs.Ytajghkjghiifjaa
open Go Go.RowKit
attribute [local go_sem ↓] opLoad31_eq opStore31_eq opRow1_eq opLoad31_in opStore31_in opRow1_in
attribute [local go_sem] Oper.semAt_some msgV opLoad31 opStore31 opRow1_msg rowAt_alloc_at rowAt_alloc_past rowAt_drew wholeAt_alloc_at wholeAt_alloc_past wholeAt_drew setRow_alloc_at setRow_alloc_past msg_0 msg_1 msg_2 msg_3 msg_9 msg_g0 msg_g1 msg_g2 msg_g3 msg_g9 msg_set9 msg_set3 msg_size msgCells_length msg_one_slice gr_alloc' gr_drew' gr_drewN'

theorem IsMsgs.take {S : Nat → Prop} {w : World} {a : Option Addr} {n c : Nat} {ms : List Msg} (h : IsMsgs S w (.slice a n c) ms) (k : Nat) (hk : k ≤ n) : IsMsgs S w (.slice a k c) (ms.take k) := by
  obtain ⟨a', c', e, _, _⟩ := h.len
  simp only [Value.slice.injEq] at e
  obtain ⟨rfl, rfl, rfl⟩ := e
  obtain ⟨evs, h1, h2, h3⟩ := h
  have hz : List.zipWith msgCells (ms.take k) (evs.take k) = (List.zipWith msgCells ms evs).take k := by rw [List.take_zipWith]
  refine ⟨evs.take k, by simp [h1], ?_, fun i m ev hm he => ?_⟩
  · rw [hz]
    refine ⟨fun x hx => h2.1 x (List.mem_of_mem_take hx), ?_⟩
    rcases h2.2 with ⟨⟨a', c', e0, e3⟩, e1⟩ | ⟨b, off, cap, hv, h4, h5, h6, h7⟩
    · left
      simp only [Value.slice.injEq] at e0
      obtain ⟨rfl, e2, rfl⟩ := e0
      obtain rfl : k = 0 := by omega
      exact ⟨⟨a, c, rfl, e3⟩, by simp⟩
    · right
      simp only [Value.slice.injEq] at hv
      obtain ⟨rfl, _, rfl⟩ := hv
      have hl : (List.zipWith msgCells ms evs).length = ms.length := by simp [h1]
      refine ⟨b, off, c, by rw [List.length_take, hl, Nat.min_eq_left hk], by rw [List.length_take]; omega, h5, h6, fun j v hv => h7 j v ?_⟩
      obtain ⟨t, ht⟩ := List.take_prefix k (List.zipWith msgCells ms evs)
      have hf : ((List.zipWith msgCells ms evs).take k).flatten ++ t.flatten = (List.zipWith msgCells ms evs).flatten := by rw [← List.flatten_append, ht]
      rw [← hf, List.getElem?_append_left (List.getElem?_eq_some_iff.1 hv).1]; exact hv
  · have hi : i < k := by
      have := (List.getElem?_eq_some_iff.1 hm).1
      simp at this; omega
    rw [List.getElem?_take_of_lt hi] at hm he
    exact h3 i m ev hm he
theorem Small.take {ms : List Msg} (h : Small ms) (k : Nat) : Small (ms.take k) := ⟨by rw [List.length_take]; have := h.1; omega, fun m hm => h.2 m (List.mem_of_mem_take hm)⟩

/-- Own messages: the first of a longer list have been collected. -/
theorem OwnMsgs.up {base : Nat} {w : World} {v : Value} {ms : List Msg} (h : OwnMsgs base w v ms) (ys : List Msg) : ∃ evs, OwnUp base w v (ms ++ ys) ms.length evs := by
  obtain ⟨evs, h1, h2, h3⟩ := h
  refine ⟨evs, by simp, h1, by rw [List.take_left]; exact h2, fun i m ev hi hm he => h3 i m ev (by rwa [List.getElem?_append_left hi] at hm) he⟩

/-- Between two rounds. -/
def UpI (w : World) (base B : Nat) (ys : List Msg) (s l : Int) (k : Nat) (W : World) : Prop :=
  ∃ (evs : List Value) (va : Option Addr) (vc : Nat), W.heap[B]? = some (.cells #[.slice va k vc, .int .i64 s, .int .i64 l] 26 (0, 0)) ∧
    OwnUp base W (.slice va k vc) ys k evs ∧ Below w.heap.size w W ∧ base ≤ W.heap.size
theorem UpI.data {w : World} {base B : Nat} {ys : List Msg} {s l : Int} {k n : Nat} (hn : w.heap.size ≤ n) : OfData n (UpI w base B ys s l k) := by
  rintro X Y ⟨evs, va, vc, h1, h3, h4, h5⟩ hk
  exact ⟨evs, va, vc, hk.keep _ _ h1 (.inl rfl), h3.dat hk.data, hk.below hn (Nat.le_refl _) h4, Nat.le_trans h5 hk.size⟩
/-- One message more. -/
theorem UpI.push {w : World} {base B : Nat} {ys : List Msg} {s l : Int} {k : Nat} {A w2 : World} {evs : List Value} {va : Option Addr} {vc : Nat} {m : Msg} {fv v' : Value} {tmp : Obj}
    (h1 : A.heap[B]? = some (.cells #[.slice va k vc, .int .i64 s, .int .i64 l] 26 (0, 0)))
    (h3 : OwnUp base A (.slice va k vc) ys k evs) (h4 : Below w.heap.size w A) (h5 : base ≤ A.heap.size) (hB : B < base) (hBw : w.heap.size ≤ B)
    (hm : ys[k]? = some m) (ho : OwnEnts base A fv m.ents)
    (hown : w2.ownsRow base 31 15 v' (k + 1) ((List.zipWith msgCells (ys.take k) evs).flatten ++ msgCells m fv)) (hg : (A.alloc tmp).grownBy w2 (Value.slice va k vc).ownBlock) :
    (∃ a' c', v' = .slice a' (k + 1) c') ∧ w2.heap[B]? = some (.cells #[.slice va k vc, .int .i64 s, .int .i64 l] 26 (0, 0)) ∧
    UpI w base B ys s l (k + 1) (w2.setCell ⟨B, 0, none⟩ v') ∧ Kp Rcd A (w2.setCell ⟨B, 0, none⟩ v') ∧
    ∀ N : Nat → Obj → Prop, (∀ k o, N k o → A.heap[k]? = some o → k ≠ B ∧ ∀ cur, o ≠ .cells cur 31 (0, 0) ∨ k < base) → Kp N A (w2.setCell ⟨B, 0, none⟩ v') := by
  have hrow : ∀ q, (Value.slice va k vc).ownBlock = some q → base ≤ q ∧ ∃ cur, A.heap[q]? = some (.cells cur 31 (0, 0)) := fun q hq => owns_elem h3.row hq
  have hkeep : ∀ q, q < base → w2.heap[q]? = A.heap[q]? := fun q hq => by
    rw [hg.block q (by simp; omega) (fun e => by have := (hrow q e.symm).1; omega)]
    exact Below.heap_alloc A tmp q (by omega)
  obtain ⟨a', c', rfl⟩ := owns_slice hown
  have hB2 := (hkeep B hB).trans h1
  have hup := h3.push hm ho hown hg
  have hsz : A.heap.size ≤ w2.heap.size := by have := hg.size; simp at this; omega
  refine ⟨⟨a', c', rfl⟩, hB2, ⟨_, a', c', setCell_block hB2 _, hup.keep fun q hq _ => setCell_other _ (by omega), ?_, ?_⟩, ?_, ?_⟩
  · have hb2 : Below w.heap.size w w2 := by
      refine Below.grown (Below.alloc h4 h4.size tmp) hg ?_ fun q hq => ?_
      · have := h4.size; simp; omega
      · have := (hrow q hq).1; omega
    exact Below.setCell hb2 (p := ⟨B, 0, none⟩) hBw _
  · simp [World.setCell]; omega
  · refine Kp.setCell (Kp.grown (Kp.alloc (Kp.refl _ _) tmp) hg fun q o hq ho hn => ?_) _ _ fun o ho hn => ?_
    · obtain ⟨_, cur, hc⟩ := hrow q hq
      have hlt : q < A.heap.size := (Array.getElem?_eq_some_iff.1 hc).1
      rw [Below.heap_alloc A tmp q hlt, hc] at ho
      cases ho; cases hn
    · rw [hB2] at ho; cases ho; cases hn
  · intro N hN
    refine ⟨hg.os, hg.tape, hg.output, by simpa [World.setCell] using hsz, fun q o ho hn => ?_⟩
    obtain ⟨n1, n2⟩ := hN q o hn ho
    have hlt : q < A.heap.size := (Array.getElem?_eq_some_iff.1 ho).1
    rw [setCell_other _ n1, hg.block q (by simp; omega) ?_, Below.heap_alloc A tmp q hlt]
    · exact ho
    · intro e
      obtain ⟨b1, cur, hc⟩ := hrow q e.symm
      rw [hc] at ho
      rcases n2 cur with n3 | n3
      · exact n3 (Option.some.inj ho).symm
      · omega

theorem run_max (P : Program) (a : Array TypeId) (t : TypeId) (x y z : Int) (h : z = max x y) (W : World) : (Builtin.max_ a t #[.int .i64 x, .int .i64 y]).run P W = .ok (.int .i64 z) W := by
  subst h
  by_cases hc : x < y
  · rw [Int.max_eq_right (by omega)]; simp [go_sem, hc]
  · rw [Int.max_eq_left (by omega)]; simp [go_sem, hc]
theorem run_min (P : Program) (a : Array TypeId) (t : TypeId) (x y z : Int) (h : z = min x y) (W : World) : (Builtin.min_ a t #[.int .i64 x, .int .i64 y]).run P W = .ok (.int .i64 z) W := by
  subst h
  by_cases hc : y < x
  · rw [Int.min_eq_right (by omega)]; simp [go_sem, hc]
  · rw [Int.min_eq_left (by omega)]; simp [go_sem, hc]

theorem results_row_tmp {P : Program} {fn : Func} {t u : Tmp} {ty : TypeId} {n : Nat} {d : TypeDesc} (hr : fn.results = #[.cell t ty, .tmp u]) (hu : P.underlying ty = some d) (hd : d.isRow = true) (hi : (P.info? ty).map (·.size) = some n)
    {tmps : Array Value} {b : Nat} {w : World} {cs : Array Value} (ht : tmps.getD t undef = .pointer (some ⟨b, 0, none⟩)) (h : rowAt w b 0 n = some cs) :
    (results fn tmps).run P w = .ok (.tuple #[.agg cs, tmps.getD u undef]) w := by
  have hl := loadVar_row hu hd hi h
  have ht' : tmps[t]?.getD undef = .pointer (some ⟨b, 0, none⟩) := by simpa using ht
  simp only [results, hr]
  simp [ht', asAddr, hl]

/-- How many of the messages find room. -/
def room (n : Net) (l : List Msg) : Nat := min (60 - n.msgs.length) l.length
theorem room_le (n : Net) (l : List Msg) : room n l ≤ l.length := Nat.min_le_right _ _
/-- Push: the net, -/
def pushNet (n : Net) (l : List Msg) : Net :=
  ⟨n.msgs ++ l.take (room n l), wrap64 (n.sent + l.length), if room n l < l.length then wrap64 (n.lost + ((l.length : Int) - room n l)) else n.lost⟩
/-- .. and the word. -/
def pushErr (n : Net) (l : List Msg) : Int := if room n l < l.length then 270 else 0
def PushPost (n : Net) (l : List Msg) (w : World) (e : Ending) (w' : World) : Prop :=
  ∃ v, e = .returned (.tuple #[netV (pushNet n l) v, .int .i64 (pushErr n l)]) ∧ Gr w w' ∧ OwnMsgs w.heap.size w' v (pushNet n l).msgs

set_option maxRecDepth 100000 in
set_option maxHeartbeats 1000000 in
theorem push_net (w : World) (n : Net) (v lv : Value) (l : List Msg) (hxs : InMsgs w v n.msgs) (hs : Small n.msgs) (hxl : InMsgs w lv l) (hsl : Small l) :
    Calls Try.prog 8 #[netV n v, lv] w (PushPost n l w) := by
  obtain ⟨a, c, rfl, hc1, hc2⟩ := hxs.len
  obtain ⟨la, lc, rfl, hlc1, hlc2⟩ := hxl.len
  obtain ⟨i0, hi, hz0, hz1, hz2⟩ := info_parts Try.info31
  have hG2 : Gr w ((w.alloc (.cells #[.slice a n.msgs.length c, .int .i64 n.sent, .int .i64 n.lost] 26)).alloc (.cells #[.slice none 0 0, .int .i64 0, .int .i64 0] 26)) := Gr.alloc (Gr.alloc (Gr.refl w) _) _
  have hZ2 : ((w.alloc (.cells #[.slice a n.msgs.length c, .int .i64 n.sent, .int .i64 n.lost] 26)).alloc (.cells #[.slice none 0 0, .int .i64 0, .int .i64 0] 26)).heap.size = w.heap.size + 1 + 1 := by simp
  have hT := alloc2_heap0 w (.cells #[.slice a n.msgs.length c, .int .i64 n.sent, .int .i64 n.lost] 26) (.cells #[.slice none 0 0, .int .i64 0, .int .i64 0] 26)
  have hB := alloc2_heap1 w (.cells #[.slice a n.msgs.length c, .int .i64 n.sent, .int .i64 n.lost] 26) (.cells #[.slice none 0 0, .int .i64 0, .int .i64 0] 26)
  have HO := Lib.hid (own_net _ n (.slice a n.msgs.length c) (hxs.gr hG2) hs)
  obtain ⟨rm, hrm⟩ : ∃ rm, room n l = rm := ⟨_, rfl⟩
  have hn0' : n.msgs.length ≤ 1000000 := hs.1
  have hll' : l.length ≤ 1000000 := hsl.1
  have hrm' : rm = min (60 - n.msgs.length) l.length := by rw [← hrm]; rfl
  have hrl : rm ≤ l.length := by omega
  have HL := Lib.hid (hxl.take rm hrl)
  have HSL := Lib.hid (hsl.take rm)
  have HG2 := Lib.hid hG2
  have HT := Lib.hid hT
  have HB := Lib.hid hB
  have HZ2 := Lib.hid hZ2
  have HRM := Lib.hid hrm
  clear hG2 hT hB hZ2 hrm hxs hs hxl hsl
  show Calls Try.prog 8 #[.agg #[.slice a n.msgs.length c, .int .i64 n.sent, .int .i64 n.lost], .slice la l.length lc] w _
  refine (callsIn_wide (n := 0)).1 ?_
  refine callsIn_of_wp_marks Try.func8 rfl trivial ?_ rfl
  simp only [Try.ntmps8, List.size_toArray, List.length_cons, List.length_nil, Nat.reduceAdd, Nat.reduceSub, Array.replicate_succ, Array.replicate_zero, List.push_toArray, List.append_toArray, List.nil_append, List.cons_append]
  gi_wp2_with fail
  refine ⟨trivial, rfl, (callsIn_wide.2 HO.out).mono ?_⟩
  rintro e w1 ⟨fv, rfl, hg1, ho1⟩
  obtain ⟨fa, fc, rfl, _, _⟩ := ho1.is.len
  have hT1 := hg1.same HT.out
  have hB1 := hg1.same HB.out
  have c0 := cell_block hT1 (j := 0) rfl
  have d0 := cell_block hB1 (j := 0) rfl
  have d1 := cell_block hB1 (j := 1) rfl
  have d2 := cell_block hB1 (j := 2) rfl
  have e0 := frozen_block hB1 (j := 0)
  have e1 := frozen_block hB1 (j := 1)
  have e2 := frozen_block hB1 (j := 2)
  have hy1 : w.heap.size + 1 + 1 ≤ w1.heap.size := by rw [← HZ2.out]; exact hg1.size
  have hz2' : w.heap.size < w1.heap.size := by omega
  have hz3 : w.heap.size + 1 < w1.heap.size := by omega
  have hbf := setCell_block (setCell_block (setCell_block hB1 (j := 0) (.slice fa n.msgs.length fc)) (j := 1) (.int .i64 n.sent)) (j := 2) (.int .i64 n.lost)
  have HT1 := Lib.hid hT1
  have HB1 := Lib.hid hbf
  have HG1 := Lib.hid hg1
  have HO1 := Lib.hid ho1
  have hrc : rm ≤ lc := by omega
  obtain ⟨mx, hmx⟩ : ∃ mx : Int, mx = max (60 - (n.msgs.length : Int)) 0 := ⟨_, rfl⟩
  have hmax := fun a t => run_max Try.prog a t _ _ _ hmx
  have hmin := fun a t => run_min Try.prog a t mx (l.length : Int) (rm : Int) (by omega)
  have HRM2 := Lib.hid hrm'
  clear hmx hrm'
  clear hT1 hB1 hg1 ho1 hbf
  simp only [netV]
  gi_wp2_with fail
  have hG3 : Gr w (((w1.setCell ⟨w.heap.size + 1, 0, none⟩ (.slice fa n.msgs.length fc)).setCell ⟨w.heap.size + 1, 1, none⟩ (.int .i64 n.sent)).setCell ⟨w.heap.size + 1, 2, none⟩ (.int .i64 n.lost)) :=
    Gr.set (Gr.set (Gr.set (HG2.out.trans HG1.out) (by simp) _) (by simp) _) (by simp) _
  have hO3 : OwnMsgs (w.heap.size + 1 + 1) (((w1.setCell ⟨w.heap.size + 1, 0, none⟩ (.slice fa n.msgs.length fc)).setCell ⟨w.heap.size + 1, 1, none⟩ (.int .i64 n.sent)).setCell ⟨w.heap.size + 1, 2, none⟩ (.int .i64 n.lost)) (.slice fa n.msgs.length fc) n.msgs := by
    have h6 := HO1.out
    rw [HZ2.out] at h6
    exact h6.keep fun q hq _ => by rw [setCell_other _ (by omega), setCell_other _ (by omega), setCell_other _ (by omega)]
  have hS3 : (((w1.setCell ⟨w.heap.size + 1, 0, none⟩ (.slice fa n.msgs.length fc)).setCell ⟨w.heap.size + 1, 1, none⟩ (.int .i64 n.sent)).setCell ⟨w.heap.size + 1, 2, none⟩ (.int .i64 n.lost)).heap.size = w1.heap.size := by simp [World.setCell]
  have hB3 := HB1.out
  clear HB1 HO1 HT1 HG1 HT HB HO c0 d0 d1 d2 e0 e1 e2
  have hit := those_iter (((w1.setCell ⟨w.heap.size + 1, 0, none⟩ (.slice fa n.msgs.length fc)).setCell ⟨w.heap.size + 1, 1, none⟩ (.int .i64 n.sent)).setCell ⟨w.heap.size + 1, 2, none⟩ (.int .i64 n.lost)) w.heap.size (.slice la rm lc) (.int .i64 0) (.int .i64 0) (l.take rm) 23 #[] (fun _ => true) Always
    (IsMsgs.gr hG3 HL.out) HSL.out all_so all_enters (fun _ _ _ _ => trivial) trivial
  rw [hS3] at hit
  refine ⟨trivial, rfl, (callsIn_wide.2 (those_any _ _ _ _ _ 23 #[] rfl)).mono ?_⟩
  rintro e w2 ⟨rfl, rfl⟩
  have HIT := Lib.hid hit
  have HS3 := Lib.hid hS3
  have HG3 := Lib.hid hG3
  have HO3 := Lib.hid hO3
  have HB3 := Lib.hid hB3
  clear hit hG3 hO3 hB3
  rw [hS3]
  clear hS3
  gi_wp2_with fail
  generalize ((w1.setCell ⟨w.heap.size + 1, 0, none⟩ (.slice fa n.msgs.length fc)).setCell ⟨w.heap.size + 1, 1, none⟩ (.int .i64 n.sent)).setCell ⟨w.heap.size + 1, 2, none⟩ (.int .i64 n.lost) = W3 at *
  obtain ⟨sel, hsel⟩ : ∃ sel, selUp (fun _ => true) (l.take rm) (l.take rm).length = sel := ⟨_, rfl⟩
  have hselm : sel.map (·.2) = l.take rm := by rw [← hsel, selUp_filter, List.take_length]; simp
  have hsell : sel.length = rm := by have := congrArg List.length hselm; simp at this; omega
  rw [hsel] at HIT
  have HSEL := Lib.hid hselm
  clear hsel hselm
  refine range_iter (gf := 33) rfl those1_enters HIT.out (Gr.refl _) (fun b o h => h.1) (by rintro _ _ _ ⟨i, m, fv, _, rfl, _⟩; rfl)
    (fun k W => UpI w (w.heap.size + 1 + 1) (w.heap.size + 1) (n.msgs ++ l.take rm) n.sent n.lost (n.msgs.length + k) W ∧ (∃ c1, W.heap[w1.heap.size]? = some (.cells c1 26 (0, 0))) ∧ (∃ c2, W.heap[w1.heap.size + 1]? = some (.cells c2 59 (0, 0)))) (fun _ _ => False) (fun k => ?_) (fun _ _ _ h _ => h) ?_ ?_ ?_ ?_
  · rintro X Y ⟨h1, ⟨c1, h2⟩, ⟨c2, h3⟩⟩ hk
    exact ⟨UpI.data (by simp [HS3.out]; omega) _ _ h1 hk, ⟨c1, hk.keep _ _ h2 (.inl rfl)⟩, ⟨c2, hk.keep _ _ h3 (.inl rfl)⟩⟩
  · have g5 : Gr W3 ((W3.alloc (.cells #[.slice la rm lc, .int .i64 0, .int .i64 0] 26)).alloc (.cells #[.func (.func 23) #[] #[]] 59)) := Gr.alloc (Gr.alloc (Gr.refl W3) _) _
    obtain ⟨evs, hup⟩ := HO3.out.up (l.take rm)
    refine ⟨⟨evs, fa, fc, g5.same HB3.out, hup.gr g5, Gr.below (HG3.out.trans g5), by simp [HS3.out]; omega⟩, ⟨#[.slice la rm lc, .int .i64 0, .int .i64 0], ?_⟩, ⟨#[.func (.func 23) #[] #[]], ?_⟩⟩
    · rw [← HS3.out]; exact alloc2_heap0 _ _ _
    · rw [← HS3.out]; exact alloc2_heap1 _ _ _
  · rintro ll k args A hk ⟨hI, hc1, hc2⟩ ⟨i, m, fv, hse, rfl, hown⟩
    obtain ⟨fa', fc', rfl⟩ := owns_slice hown
    have HI := Lib.hid hI
    have HC1 := Lib.hid hc1
    have HC2 := Lib.hid hc2
    have HS := Lib.hid hse
    have HO := Lib.hid (hown.base (base' := w.heap.size + 1 + 1) (by omega))
    clear hI hse hown hc1 hc2
    gi_wp2
    refine ⟨fun A' => (UpI w (w.heap.size + 1 + 1) (w.heap.size + 1) (n.msgs ++ l.take rm) n.sent n.lost (n.msgs.length + k) A' ∧ (∃ c1, A'.heap[w1.heap.size]? = some (.cells c1 26 (0, 0))) ∧ (∃ c2, A'.heap[w1.heap.size + 1]? = some (.cells c2 59 (0, 0)))) ∧ OwnEnts (w.heap.size + 1 + 1) A' (.slice fa' m.ents.length fc') m.ents ∧
      A'.heap[A.heap.size]? = some (.cells (msgCells m (.slice fa' m.ents.length fc')).toArray 31 (0, 0)), ?_, ?_, (Kp.refl _ _).alloc _, (Kp.refl _ _).alloc _, ?_⟩
    · rintro X Y ⟨⟨z1, ⟨c1, h2⟩, ⟨c2, h3⟩⟩, z2, z3⟩ hk
      exact ⟨⟨UpI.data (by simp [HS3.out]; omega) _ _ z1 hk, ⟨c1, hk.keep _ _ h2 (.inl rfl)⟩, ⟨c2, hk.keep _ _ h3 (.inl rfl)⟩⟩, z2.dat hk.data, hk.keep _ _ z3 (.inl rfl)⟩
    · have g1 : Gr A (A.alloc (.cells (msgCells m (.slice fa' m.ents.length fc')).toArray 31)) := Gr.alloc (Gr.refl A) _
      obtain ⟨c1, h2⟩ := HC1.out
      obtain ⟨c2, h3⟩ := HC2.out
      exact ⟨⟨(UpI.data (Nat.le_refl _)).gr _ _ HI.out g1, ⟨c1, g1.same h2⟩, ⟨c2, g1.same h3⟩⟩, HO.out.gr g1, alloc1_heap A _⟩
    · rintro A2 ⟨⟨⟨evs, va, vc, h1, h3, h4, h5⟩, ⟨c1, hc1⟩, ⟨c2, hc2⟩⟩, ho, hm⟩ hkA
      have c0 := cell_block h1 (j := 0) (v := .slice va (n.msgs.length + k) vc) rfl
      have lB : w.heap.size + 1 < A2.heap.size := (Array.getElem?_eq_some_iff.1 h1).1
      have r7 := rowAt_block hm (n := 15) rfl
      have hlm : A.heap.size < A2.heap.size := (Array.getElem?_eq_some_iff.1 hm).1
      have H1 := Lib.hid h1
      have H3 := Lib.hid h3
      have H4 := Lib.hid h4
      have HR := Lib.hid h3.row
      have HOE := Lib.hid ho
      have HC1' := Lib.hid hc1
      have HC2' := Lib.hid hc2
      clear h1 h3 h4 ho hm hkA hc1 hc2
      gi_wp2_with (gi_at_builtin; go_loud (refine wpListIn_append_own_at _ rfl _ _ 24 rfl (w.heap.size + 1 + 1) 31 i0 _ 15 136 Try.underlying24 hi hz0 hz1 hz2 rfl (by decide) _ (n.msgs.length + k) _ rfl (HR.out.alloc _) ⟨A2.heap.size, 0, none⟩ 1 1 (msgCells m (.slice fa' m.ents.length fc')) rfl ?c0 ?c1 ?c2 ?c3 ?c4 ?c5 ?_))
      case c0 => rw [msgCells_length]
      case c1 => exact add_cells (range_row (alloc1_heap A2 _))
      case c2 => exact msgCells_one _ _ rfl
      case c3 => unfold maxLen; omega
      case c4 => omega
      case c5 => simp only [World.size_alloc]; omega
      intro v' w2 hown hgrow _ _
      have hmk : (n.msgs ++ l.take rm)[n.msgs.length + k]? = some m := by
        rw [List.getElem?_append_right (by omega), ← HSEL.out, List.getElem?_map, Nat.add_sub_cancel_left, HS.out]; rfl
      obtain ⟨⟨a', c', rfl⟩, hB2, hI2, hK2, hN2⟩ := UpI.push H1.out H3.out H4.out h5 (by omega) (by omega) hmk HOE.out hown hgrow
      have c1' := cell_block hB2 (j := 0) (v := .slice va (n.msgs.length + k) vc) rfl
      have f1' := frozen_block hB2 (j := 0)
      have lB2 : w.heap.size + 1 < w2.heap.size := (Array.getElem?_eq_some_iff.1 hB2).1
      have HI2 := Lib.hid hI2
      have HK2 := Lib.hid hK2
      have HN2 := Lib.hid hN2
      clear hown hgrow hB2 hI2 hK2 hN2 c0 r7 hmk
      gi_wp2
      have n26 : ∀ (c cur : Array Value), Obj.cells c 26 (0, 0) ≠ .cells cur 31 (0, 0) := fun c cur e => by simp at e
      have n59 : ∀ (c cur : Array Value), Obj.cells c 59 (0, 0) ≠ .cells cur 31 (0, 0) := fun c cur e => by simp at e
      have hN := HN2.out (fun q o => q ≠ w.heap.size + 1 ∧ ∀ cur, o ≠ .cells cur 31 (0, 0)) (fun q o h _ => ⟨h.1, fun cur => .inl (h.2 cur)⟩)
      refine ⟨⟨HI2.out, ⟨c1, hN.keep _ _ HC1'.out ⟨by omega, n26 c1⟩⟩, ⟨c2, hN.keep _ _ HC2'.out ⟨by omega, n59 c2⟩⟩⟩, HN2.out _ (fun q o h ho => ?_), HK2.out⟩
      obtain ⟨_, h | h | h⟩ := h
      · exact ⟨by omega, fun cur => .inr (by omega)⟩
      · subst h
        rw [HC1'.out] at ho
        obtain rfl := Option.some.inj ho
        exact ⟨by omega, fun cur => .inl (n26 c1 cur)⟩
      · subst h
        rw [HC2'.out] at ho
        obtain rfl := Option.some.inj ho
        exact ⟨by omega, fun cur => .inl (n59 c2 cur)⟩
  · rintro D W hD ⟨⟨evs, va, vc, h1, h3, h4, h5⟩, _, _⟩ hDD
    rw [hsell] at h1 h3
    have c0 := cell_block h1 (j := 0) rfl
    have c1 := cell_block h1 (j := 1) rfl
    have c2 := cell_block h1 (j := 2) rfl
    have e0 := frozen_block h1 (j := 0)
    have e1 := frozen_block h1 (j := 1)
    have e2 := frozen_block h1 (j := 2)
    have lB : w.heap.size + 1 < W.heap.size := (Array.getElem?_eq_some_iff.1 h1).1
    have hD' : w.heap.size + 1 + 1 ≤ D := by simp [HS3.out] at hD; omega
    have hdone := h3.done (by simp; omega)
    have H1 := Lib.hid h1
    have H3 := Lib.hid hdone
    have H4 := Lib.hid h4
    have HD := Lib.hid hDD
    clear h1 h3 h4 hDD hD hdone
    by_cases hov : rm < l.length
    · have hq : pushNet n l = ⟨n.msgs ++ l.take rm, wrap64 (n.sent + l.length), wrap64 (n.lost + ((l.length : Int) - rm))⟩ := by simp [pushNet, HRM.out, hov]
      have he : pushErr n l = 270 := by simp [pushErr, HRM.out, hov]
      have HQ := Lib.hid hq
      have HE := Lib.hid he
      clear hq he
      gi_wp2
      refine ⟨by simp, .inl ⟨D, _, rfl, run_takeDeferred (heap_set_other (heap_set_other (heap_set_other (heap_set_other (heap_set_other HD.out (by omega)) (by omega)) (by omega)) (by omega)) (by omega)), ?_⟩⟩
      have hz := net_filled (setCell_block (setCell_block H1.out (j := 1) (.int .i64 (wrap64 (n.sent + l.length)))) (j := 2) (.int .i64 (wrap64 (n.lost + ((l.length : Int) - rm))))) (.slice va (n.msgs.length + rm) vc) (.int .i64 (wrap64 (n.sent + l.length))) (.int .i64 (wrap64 (n.lost + ((l.length : Int) - rm))))
      refine ⟨_, results_row_tmp rfl Try.underlying26 rfl info26 rfl (rowAt_block (cs := #[.slice va (n.msgs.length + rm) vc, .int .i64 (wrap64 (n.sent + l.length)), .int .i64 (wrap64 (n.lost + ((l.length : Int) - rm)))]) (t := 26) (f := (0, 0)) ?_ rfl), .slice va (n.msgs.length + rm) vc, ?_, ?_, ?_⟩
      · exact (World.putObj_heap_other (by omega)).trans hz
      · rw [HQ.out, HE.out]; rfl
      · have hb := Below.setCell (Below.setCell (Below.setCell (Below.setCell (Below.setCell H4.out (p := ⟨w.heap.size + 1, 1, none⟩) (by simp) (.int .i64 (wrap64 (n.sent + l.length)))) (p := ⟨w.heap.size + 1, 2, none⟩) (by simp) (.int .i64 (wrap64 (n.lost + ((l.length : Int) - rm))))) (p := ⟨w.heap.size + 1, 0, none⟩) (by simp) (.slice va (n.msgs.length + rm) vc)) (p := ⟨w.heap.size + 1, 1, none⟩) (by simp) (.int .i64 (wrap64 (n.sent + l.length)))) (p := ⟨w.heap.size + 1, 2, none⟩) (by simp) (.int .i64 (wrap64 (n.lost + ((l.length : Int) - rm))))
        exact Below.trans hb ⟨rfl, rfl, rfl, by simp, fun q hq => World.putObj_heap_other (by omega)⟩
      · rw [HQ.out]
        refine OwnMsgs.base (by omega) (H3.out.keepC fun q cur e hq hc => ?_)
        have hqD : q ≠ D := by rintro rfl; rw [HD.out] at hc; cases hc
        rw [World.putObj_heap_other hqD, setCell_other _ (by omega), setCell_other _ (by omega), setCell_other _ (by omega), setCell_other _ (by omega), setCell_other _ (by omega)]
    · have hrl' : rm = l.length := by omega
      have hq : pushNet n l = ⟨n.msgs ++ l.take rm, wrap64 (n.sent + l.length), n.lost⟩ := by simp [pushNet, HRM.out, hov]
      have he : pushErr n l = 0 := by simp [pushErr, HRM.out, hov]
      have HQ := Lib.hid hq
      have HE := Lib.hid he
      clear hq he
      have h00 : (l.length : Int) - rm = 0 := by omega
      have HR2 := Lib.hid hrl'
      clear hrl'
      gi_wp2
      refine ⟨by simp, .inl ⟨D, _, rfl, run_takeDeferred (heap_set_other (heap_set_other (heap_set_other (heap_set_other HD.out (by omega)) (by omega)) (by omega)) (by omega)), ?_⟩⟩
      have hz := net_filled (setCell_block H1.out (j := 1) (.int .i64 (wrap64 (n.sent + l.length)))) (.slice va (n.msgs.length + rm) vc) (.int .i64 (wrap64 (n.sent + l.length))) (.int .i64 n.lost)
      refine ⟨_, results_row_tmp rfl Try.underlying26 rfl info26 rfl (rowAt_block (cs := #[.slice va (n.msgs.length + rm) vc, .int .i64 (wrap64 (n.sent + l.length)), .int .i64 n.lost]) (t := 26) (f := (0, 0)) ?_ rfl), .slice va (n.msgs.length + rm) vc, ?_, ?_, ?_⟩
      · exact (World.putObj_heap_other (by omega)).trans hz
      · rw [HQ.out, HE.out]; rfl
      · have hb := Below.setCell (Below.setCell (Below.setCell (Below.setCell H4.out (p := ⟨w.heap.size + 1, 1, none⟩) (by simp) (.int .i64 (wrap64 (n.sent + l.length)))) (p := ⟨w.heap.size + 1, 0, none⟩) (by simp) (.slice va (n.msgs.length + rm) vc)) (p := ⟨w.heap.size + 1, 1, none⟩) (by simp) (.int .i64 (wrap64 (n.sent + l.length)))) (p := ⟨w.heap.size + 1, 2, none⟩) (by simp) (.int .i64 n.lost)
        exact Below.trans hb ⟨rfl, rfl, rfl, by simp, fun q hq => World.putObj_heap_other (by omega)⟩
      · rw [HQ.out]
        refine OwnMsgs.base (by omega) (H3.out.keepC fun q cur e hq hc => ?_)
        have hqD : q ≠ D := by rintro rfl; rw [HD.out] at hc; cases hc
        rw [World.putObj_heap_other hqD, setCell_other _ (by omega), setCell_other _ (by omega), setCell_other _ (by omega), setCell_other _ (by omega)]
  · intro D c W hD h
    exact h.elim
end Go.Proofs.Ytajghkjghiifjaa
