/-
  Walks: the places of the messages to a node; a place of a row.
-/
import Derived.Test.YtajghkjghiifjaaWo
namespace Go.Proofs.Ytajghkjghiifjaa
open Go Go.RowKit
attribute [local go_sem] Oper.semAt_some

theorem Try.info3 : (Try.prog.info? 3).map (fun i => (i.zero, i.size, i.bytes)) = some (some (.int .i64 0), 1, 8) := by kernel_rfl

/-- Numbers of the call's own. -/
def OwnInts (base : Nat) (w : World) (v : Value) (zs : List Int) : Prop := w.ownsRow base 3 1 v zs.length (zs.map fun z => Value.int .i64 z)
theorem OwnInts.is {base : Nat} {w : World} {v : Value} {zs : List Int} (h : OwnInts base w v zs) : IsInts (fun b => base ≤ b) w v zs := by
  refine SL.of_owns (e := 3) (by intro x hx; obtain ⟨i, _, rfl⟩ := List.mem_map.1 hx; rfl) ?_
  have : (zs.map fun z => [Value.int .i64 z]).flatten = zs.map fun z => Value.int .i64 z := by
    clear h
    induction zs with
    | nil => rfl
    | cons z zs ih => simp only [List.map_cons, List.flatten_cons, ih]; rfl
  rw [List.length_map, this]
  exact h

theorem results_cell {P : Program} {fn : Func} {t : Tmp} {ty : TypeId} (hr : fn.results = #[.cell t ty]) (hd : ∀ w, (isAgg ty).run P w = .ok false w)
    {tmps : Array Value} {b : Nat} {w : World} {v : Value} (ht : tmps.getD t undef = .pointer (some ⟨b, 0, none⟩)) (h : w.cell? ⟨b, 0, none⟩ = some v) :
    (results fn tmps).run P w = .ok v w := by
  have ht' : tmps[t]?.getD undef = .pointer (some ⟨b, 0, none⟩) := by simpa using ht
  simp only [results, hr]
  simp [ht', asAddr, loadVar, hd, h, go_sem]

theorem agg42 (w : World) : (isAgg 42).run Try.prog w = .ok false w := by simp [go_sem]

/-- Between two rounds. -/
def ForI (w : World) (base B : Nat) (is : List Int) (k : Nat) (W : World) : Prop :=
  ∃ (va : Option Addr) (vc : Nat), W.heap[B]? = some (.cells #[.slice va k vc] 42 (0, 0)) ∧ W.ownsRow base 3 1 (.slice va k vc) k ((is.take k).map fun z => Value.int .i64 z) ∧ Below w.heap.size w W ∧ base ≤ W.heap.size
theorem ForI.data {w : World} {base B : Nat} {is : List Int} {k n : Nat} (hn : w.heap.size ≤ n) : OfData n (ForI w base B is k) := by
  rintro X Y ⟨va, vc, h1, h3, h4, h5⟩ hk
  exact ⟨va, vc, hk.keep _ _ h1 (.inl rfl), ownsRow_dat hk.data h3, hk.below hn (Nat.le_refl _) h4, Nat.le_trans h5 hk.size⟩
theorem ForI.push {w : World} {base B : Nat} {is : List Int} {k : Nat} {A w2 : World} {va : Option Addr} {vc : Nat} {i : Int} {v' : Value} {tmp : Obj}
    (h1 : A.heap[B]? = some (.cells #[.slice va k vc] 42 (0, 0)))
    (h3 : A.ownsRow base 3 1 (.slice va k vc) k ((is.take k).map fun z => Value.int .i64 z)) (h4 : Below w.heap.size w A) (h5 : base ≤ A.heap.size) (hB : B < base) (hBw : w.heap.size ≤ B)
    (hm : is[k]? = some i) (hown : w2.ownsRow base 3 1 v' (k + 1) (((is.take k).map fun z => Value.int .i64 z) ++ [.int .i64 i])) (hg : (A.alloc tmp).grownBy w2 (Value.slice va k vc).ownBlock) :
    (∃ a' c', v' = .slice a' (k + 1) c') ∧ w2.heap[B]? = some (.cells #[.slice va k vc] 42 (0, 0)) ∧
    ForI w base B is (k + 1) (w2.setCell ⟨B, 0, none⟩ v') ∧ Kp Rcd A (w2.setCell ⟨B, 0, none⟩ v') ∧
    ∀ N : Nat → Obj → Prop, (∀ k o, N k o → k < base ∧ k ≠ B) → Kp N A (w2.setCell ⟨B, 0, none⟩ v') := by
  have hrow : ∀ q, (Value.slice va k vc).ownBlock = some q → base ≤ q ∧ ∃ cur, A.heap[q]? = some (.cells cur 3 (0, 0)) := fun q hq => owns_elem h3 hq
  have hkeep : ∀ q, q < base → w2.heap[q]? = A.heap[q]? := fun q hq => by
    rw [hg.block q (by simp; omega) (fun e => by have := (hrow q e.symm).1; omega)]
    exact Below.heap_alloc A tmp q (by omega)
  obtain ⟨a', c', rfl⟩ := owns_slice hown
  have hB2 := (hkeep B hB).trans h1
  have hsz : A.heap.size ≤ w2.heap.size := by have := hg.size; simp at this; omega
  have e1 : (is.take (k + 1)).map (fun z => Value.int .i64 z) = ((is.take k).map fun z => Value.int .i64 z) ++ [.int .i64 i] := by
    rw [List.take_add_one, hm]; simp
  refine ⟨⟨a', c', rfl⟩, hB2, ⟨a', c', setCell_block hB2 _, ?_, ?_, ?_⟩, ?_, ?_⟩
  · rw [e1]
    exact owns_other hown fun q hq => setCell_other _ (by have := (World.ownsRow.lt hown q hq).1; omega)
  · have hb2 : Below w.heap.size w w2 := by
      refine Below.grown (Below.alloc h4 h4.size tmp) hg ?_ fun q hq => ?_
      · have := h4.size; simp; omega
      · have := (hrow q hq).1; omega
    exact Below.setCell hb2 (p := ⟨B, 0, none⟩) hBw _
  · simp [World.setCell]; omega
  · refine Kp.setCell (Kp.grown (Kp.alloc (Kp.refl _ _) tmp) hg fun q o hq ho hn => ?_) _ _ fun o ho hn => ?_
    · obtain ⟨_, cur, hc⟩ := hrow q hq
      have hlt : q < A.heap.size := (Array.getElem?_eq_some_iff.1 hc).1
      rw [Below.heap_alloc A tmp q hlt, hc] at ho
      cases ho; cases hn
    · rw [hB2] at ho; cases ho; cases hn
  · intro N hN
    refine Kp.setCell (Kp.grown (Kp.alloc (Kp.refl _ _) tmp) hg fun q o hq ho hn => ?_) _ _ fun o ho hn => ?_
    · have := (hrow q hq).1; have := (hN _ _ hn).1; omega
    · exact (hN _ _ hn).2 rfl

/-- The places of the messages to a node. -/
def forNet (ms : List Msg) (id : Int) : List Int := (selUp (toOf id) ms ms.length).map fun x => (x.1 : Int)

set_option maxRecDepth 100000 in
set_option maxHeartbeats 1000000 in
theorem for_net (w : World) (n : Net) (v : Value) (id : Int) (hxs : InMsgs w v n.msgs) (hs : Small n.msgs) :
    Calls Try.prog 16 #[netV n v, .int .i64 id] w fun e w' => ∃ r, e = .returned r ∧ Gr w w' ∧ OwnInts w.heap.size w' r (forNet n.msgs id) := by
  obtain ⟨a, c, rfl, _, _⟩ := hxs.len
  obtain ⟨i0, hi, hz0, hz1, hz2⟩ := info_parts Try.info3
  obtain ⟨len, hlen⟩ : ∃ len, n.msgs.length = len := ⟨_, rfl⟩
  have hG3 : Gr w (((w.alloc (.cells #[.slice a len c, .int .i64 n.sent, .int .i64 n.lost] 26)).alloc (.cells #[.int .i64 id] 3)).alloc (.cells #[.slice none 0 0] 42)) := Gr.alloc (Gr.alloc (Gr.alloc (Gr.refl w) _) _) _
  have hZ3 : (((w.alloc (.cells #[.slice a len c, .int .i64 n.sent, .int .i64 n.lost] 26)).alloc (.cells #[.int .i64 id] 3)).alloc (.cells #[.slice none 0 0] 42)).heap.size = w.heap.size + 1 + 1 + 1 := by simp
  have hI := alloc3_heap1 w (.cells #[.slice a len c, .int .i64 n.sent, .int .i64 n.lost] 26) (.cells #[.int .i64 id] 3) (.cells #[.slice none 0 0] 42)
  have hB := alloc3_heap2 w (.cells #[.slice a len c, .int .i64 n.sent, .int .i64 n.lost] 26) (.cells #[.int .i64 id] 3) (.cells #[.slice none 0 0] 42)
  rw [hlen] at hxs
  have hit := those_iter (((w.alloc (.cells #[.slice a len c, .int .i64 n.sent, .int .i64 n.lost] 26)).alloc (.cells #[.int .i64 id] 3)).alloc (.cells #[.slice none 0 0] 42)) (w.heap.size + 1 + 1) (.slice a len c) (.int .i64 n.sent) (.int .i64 n.lost) n.msgs 29 #[.pointer (some ⟨w.heap.size + 1, 0, none⟩)] (toOf id) (BoxAt (w.heap.size + 1) id)
    ((IsMsgs.gr hG3 hxs).mono fun b (hb : b < w.heap.size) => by omega) hs (for_so _ _) for_enters
    (fun A B hA hk => hk _ _ (by omega) rfl hA) hI
  rw [hZ3] at hit
  have HIT := Lib.hid hit
  have HG3 := Lib.hid hG3
  have HB := Lib.hid hB
  have HZ3 := Lib.hid hZ3
  have HSm := Lib.hid hs
  clear hit hG3 hB hZ3 hxs hs hI
  show Calls Try.prog 16 #[.agg #[.slice a n.msgs.length c, .int .i64 n.sent, .int .i64 n.lost], .int .i64 id] w _
  have HL := Lib.hid hlen
  rw [hlen]
  clear hlen
  refine (callsIn_wide (n := 0)).1 ?_
  refine callsIn_of_wp_marks Try.func16 rfl trivial ?_ rfl
  simp only [Try.ntmps16, List.size_toArray, List.length_cons, List.length_nil, Nat.reduceAdd, Nat.reduceSub, Array.replicate_succ, Array.replicate_zero, List.push_toArray, List.append_toArray, List.nil_append, List.cons_append]
  gi_wp2_with fail
  refine ⟨trivial, rfl, (callsIn_wide.2 (those_any _ _ _ _ _ 29 #[.pointer (some ⟨w.heap.size + 1, 0, none⟩)] rfl)).mono ?_⟩
  rintro e w1 ⟨rfl, rfl⟩
  gi_wp2_with fail
  generalize ((w.alloc (.cells #[.slice a len c, .int .i64 n.sent, .int .i64 n.lost] 26)).alloc (.cells #[.int .i64 id] 3)).alloc (.cells #[.slice none 0 0] 42) = W3 at *
  refine range_iter (gf := 33) rfl those1_enters HIT.out (Gr.refl _) (fun b o h => h.1) (by rintro _ _ _ ⟨i, m, fv, _, rfl, _⟩; rfl)
    (ForI w (w.heap.size + 1 + 1 + 1 + 2) (w.heap.size + 1 + 1) (forNet n.msgs id)) (fun _ _ => False) (fun k => ForI.data ?_) (fun _ _ _ h _ => h) ?_ ?_ ?_ ?_
  · simp [HZ3.out]; omega
  · have g5 : Gr W3 ((W3.alloc (.cells #[.slice a len c, .int .i64 n.sent, .int .i64 n.lost] 26)).alloc (.cells #[.func (.func 29) #[] #[.pointer (some ⟨w.heap.size + 1, 0, none⟩)]] 59)) := Gr.alloc (Gr.alloc (Gr.refl W3) _) _
    exact ⟨none, 0, g5.same HB.out, World.ownsRow_nil _ _ _ _, Gr.below (HG3.out.trans g5), by simp [HZ3.out]⟩
  · rintro l k args A hk hI ⟨i, m, fv, hsel, rfl, hown⟩
    have HI := Lib.hid hI
    have HS := Lib.hid hsel
    have hkl : k ≤ 1000000 := by have := selUp_length (toOf id) n.msgs n.msgs.length; have := HSm.out.1; omega
    clear hI hsel hown
    gi_wp2
    refine ⟨fun A' => ForI w (w.heap.size + 1 + 1 + 1 + 2) (w.heap.size + 1 + 1) (forNet n.msgs id) k A', ?_, HI.out, Kp.refl _ _, Kp.refl _ _, ?_⟩
    · exact ForI.data (by simp [HZ3.out]; omega)
    · rintro A2 ⟨va, vc, h1, h3, h4, h5⟩ hkA
      have c0 := cell_block h1 (j := 0) (v := .slice va k vc) rfl
      have lB : w.heap.size + 1 + 1 < A2.heap.size := (Array.getElem?_eq_some_iff.1 h1).1
      have H1 := Lib.hid h1
      have H3 := Lib.hid h3
      have H4 := Lib.hid h4
      clear h1 h3 h4 hkA
      gi_wp2_with (gi_at_builtin; go_loud (refine wpListIn_append_own_at _ rfl _ _ 42 rfl (w.heap.size + 1 + 1 + 1 + 2) 3 i0 _ 1 8 Try.underlying42 hi hz0 hz1 hz2 rfl (by decide) _ k _ rfl (H3.out.alloc _) ⟨A2.heap.size, 0, none⟩ 1 1 [.int .i64 i] rfl ?c0 ?c1 ?c2 ?c3 ?c4 ?c5 ?_))
      case c0 => rfl
      case c1 => exact add_cells (range_row (alloc1_heap A2 _))
      case c2 => intro u hu; simp at hu; subst hu; rfl
      case c3 => unfold maxLen; omega
      case c4 => omega
      case c5 => simp only [World.size_alloc]; omega
      intro v' w2 hown hgrow _ _
      obtain ⟨⟨a', c', rfl⟩, hB2, hI2, hK2, hN2⟩ := ForI.push (i := (i : Int)) H1.out H3.out H4.out h5 (by omega) (by omega) (by simp [forNet, HS.out]) (by rw [List.map_take]; exact hown) hgrow
      have c1' := cell_block hB2 (j := 0) (v := .slice va k vc) rfl
      have f1' := frozen_block hB2 (j := 0)
      have HI2 := Lib.hid hI2
      have HK2 := Lib.hid hK2
      have HN2 := Lib.hid hN2
      clear hown hgrow hB2 hI2 hK2 hN2 c0
      gi_wp2
      exact ⟨HI2.out, HN2.out _ (fun k o h => by obtain ⟨_, h | h | h⟩ := h <;> omega), HK2.out⟩
  · intro D W hD hI hDD
    obtain ⟨va, vc, h1, h3, h4, h5⟩ := hI
    have c0 := cell_block h1 (j := 0) rfl
    have e0 := frozen_block h1 (j := 0)
    have lB : w.heap.size + 1 + 1 < W.heap.size := (Array.getElem?_eq_some_iff.1 h1).1
    have hD' : w.heap.size + 1 + 1 + 1 + 2 ≤ D := by simp [HZ3.out] at hD; omega
    have H1 := Lib.hid h1
    have H3 := Lib.hid h3
    have H4 := Lib.hid h4
    have HD := Lib.hid hDD
    clear h1 h3 h4 hDD hD
    gi_wp2
    refine ⟨by simp, .inl ⟨D, _, rfl, run_takeDeferred (heap_set_other HD.out (by omega)), ?_⟩⟩
    have hz := setCell_block H1.out (j := 0) (.slice va (selUp (toOf id) n.msgs n.msgs.length).length vc)
    have hz' := (World.putObj_heap_other (r := D) (o := .deferred none) (w := W.setCell ⟨w.heap.size + 1 + 1, 0, none⟩ (.slice va (selUp (toOf id) n.msgs n.msgs.length).length vc)) (k := w.heap.size + 1 + 1) (by omega)).trans hz
    have c9 := cell_block hz' (j := 0) rfl
    refine ⟨_, results_cell rfl agg42 rfl c9, _, rfl, ?_, ?_⟩
    · exact Below.trans (Below.setCell H4.out (p := ⟨w.heap.size + 1 + 1, 0, none⟩) (by simp; omega) _) ⟨rfl, rfl, rfl, by simp, fun q hq => World.putObj_heap_other (by omega)⟩
    · have h6 := H3.out
      have e1 : (selUp (toOf id) n.msgs n.msgs.length).length = (forNet n.msgs id).length := by simp [forNet]
      rw [e1, List.take_length, ← e1] at h6
      have h7 := ownsRow_base (show w.heap.size ≤ w.heap.size + 1 + 1 + 1 + 2 by omega) (owns_other (w' := ((W.setCell ⟨w.heap.size + 1 + 1, 0, none⟩ (.slice va (selUp (toOf id) n.msgs n.msgs.length).length vc)).putObj D (.deferred none))) h6 fun q hq => by
        obtain ⟨hq1, cur, hc⟩ := owns_elem h6 hq
        have hqD : q ≠ D := by rintro rfl; rw [HD.out] at hc; cases hc
        rw [World.putObj_heap_other hqD, setCell_other _ (by omega)])
      unfold OwnInts
      rw [← e1]
      exact h7
  · intro D c W hD h
    exact h.elim

/-- A place of a row of so many, whatever number. -/
def spot (len : Nat) (at' : Int) : Nat := ((at'.tmod len + len).tmod len).toNat
theorem spot_eq {len : Nat} (h : len ≠ 0) (at' : Int) : ((spot len at' : Nat) : Int) = (at'.tmod len + len).tmod len := by
  have h2 := Int.lt_tmod_of_pos at' (show (0 : Int) < len by omega)
  have h3 : 0 ≤ (at'.tmod len + len).tmod len := Int.tmod_nonneg _ (by omega)
  unfold spot; omega
theorem spot_lt {len : Nat} (h : len ≠ 0) (at' : Int) : spot len at' < len := by
  have h1 := Int.tmod_lt_of_pos (at'.tmod len + len) (show (0 : Int) < len by omega)
  have := spot_eq h at'
  omega

set_option maxRecDepth 100000 in
set_option maxHeartbeats 1000000 in
/-- place: a place of a row. -/
theorem place_any (w : World) (n : Net) (a : Option Addr) (len c : Nat) (at' : Int) (hl : len ≤ 1000000) :
    Calls Try.prog 24 #[.agg #[.slice a len c, .int .i64 n.sent, .int .i64 n.lost], .int .i64 at'] w fun e w' =>
      e = .returned (if len = 0 then .tuple #[.int .i64 0, .bool false] else .tuple #[.int .i64 (spot len at' : Nat), .bool true]) ∧ Gr w w' := by
  by_cases h0 : len = 0
  · subst h0
    go_enter Try.func24, Try.ntmps24
    go_wp2
    go_ret2
    exact ⟨rfl, Gr.alloc (Gr.refl _) _⟩
  · have hb : ((len : Int) == 0) = false := beq_eq_false_iff_ne.2 (by omega)
    have hw : wrap64 (at'.tmod len + len) = at'.tmod len + len := by
      have h1 := Int.tmod_lt_of_pos at' (show (0 : Int) < len by omega)
      have h2 := Int.lt_tmod_of_pos at' (show (0 : Int) < len by omega)
      unfold wrap64; omega
    go_enter Try.func24, Try.ntmps24
    go_wp2
    go_ret2
    exact ⟨by rw [spot_eq h0]; rfl, Gr.alloc (Gr.refl _) _⟩
end Go.Proofs.Ytajghkjghiifjaa
