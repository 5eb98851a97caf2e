/-
  Walks: bytes cloned, an operation and a file in memory of their own, a new disk, the fuse.
  Conditions: none beyond those typed at each theorem.
-/
import Derived.Test.YtbgcjbpkgijmeaaDd
import Derived.Test.YtbgcjbpkgijmeaaShelf
namespace Go.Proofs.Ytbgcjbpkgijmeaa
open Go Go.RowKit Go.Maps
attribute [local go_sem high] str_eql str_neq str_lss str_leq str_geq str_eql0 str_neq0

theorem IsBy.inn {S : Nat → Prop} {w : World} {v : Value} {l : Bs} (h : IsBy S w v l) : IsBy (· < w.heap.size) w v l := by
  refine ⟨h.1, ?_⟩
  rcases h.2 with h0 | ⟨b, off, cap, hv, h1, h2, h3, h4⟩
  · exact .inl h0
  · by_cases h0 : 0 < l.length
    · refine .inr ⟨b, off, cap, hv, h1, h2, ?_, h4⟩
      rw [flat_one] at h4
      have := h4 0 (byteV l[0]) (by simp [List.getElem?_eq_getElem h0])
      show b < w.heap.size
      unfold World.cell? at this
      split at this
      · exact (Array.getElem?_eq_some_iff.1 (by assumption)).1
      · cases this
    · obtain rfl : l = [] := List.eq_nil_of_length_eq_zero (by omega)
      exact .inl ⟨⟨_, _, hv, h2⟩, rfl⟩
/-- bytes.Clone. -/
theorem clone_any (w : World) {S : Nat → Prop} {v : Value} {l : Bs} (h : IsBy S w v l) (hl : l.length ≤ 140737488355328) :
    Calls Try.prog 39 #[v] w fun e w' => ∃ v', e = .returned v' ∧ OwnBy w.heap.size w' v' l ∧ Gr w w' := by
  obtain ⟨a, c, rfl, _, _⟩ := h.len
  cases a with
  | none =>
    have hl0 : l = [] := by
      rcases h.2 with ⟨_, h0⟩ | ⟨b, off, cap, hv, _⟩
      · simpa using h0
      · cases hv
    subst hl0
    refine (Try.bytes_Clone_nil _ _ w).mono ?_
    rintro e w' ⟨rfl, rfl⟩
    exact ⟨_, rfl, World.ownsRow_nil _ _ _ _, Gr.refl _⟩
  | some a =>
    refine (Try.bytes_Clone_at a l.length c (l.map fun c => (c.toNat : Int)) w (by simp) hl fun i hi => ?_).mono ?_
    · obtain ⟨b, off, cap, hv, _, _, _, hr⟩ := h.some (by omega)
      cases hv
      rw [Addr.add_mid, hr i (byteV l[i]) (by simp [List.getElem?_eq_getElem hi])]
      simp [List.getD, List.getElem?_eq_getElem hi]
    · rintro e w' ⟨v', rfl, ho, _, hg⟩
      refine ⟨v', rfl, ?_, hg⟩
      unfold OwnBy
      rwa [List.map_map] at ho

/-- The n cells from place o of block b on. -/
def rowAt (w : World) (b o n : Nat) : Option (Array Value) :=
  match w.heap[b]? with
  | some (.cells c _ _) => if o + n ≤ c.size then some (c.extract o (o + n)) else none
  | _ => none
theorem rowAt_range {w : World} {b o n : Nat} {cs : Array Value} (h : rowAt w b o n = some cs) : w.rangeAt b o cs.toList ∧ cs.toList.length = n := by
  unfold rowAt at h
  split at h
  · rename_i c t f hb
    split at h
    · rename_i hle
      simp only [Option.some.injEq] at h
      subst h
      refine ⟨World.rangeAt_of_block hb o n, ?_⟩
      simp; omega
    · cases h
  · cases h
theorem loadVar_row {P : Program} {t : TypeId} {n : Nat} {d : TypeDesc} (hu : P.underlying t = some d) (hd : d.isRow = true) (hi : (P.info? t).map (·.size) = some n) {b o : Nat} {w : World} {cs : Array Value} (h : rowAt w b o n = some cs) :
    (loadVar t ⟨b, o, none⟩).run P w = .ok (.agg cs) w := by
  obtain ⟨h1, h2⟩ := rowAt_range h
  have := run_loadVar_mid (P := P) w b o t cs.toList d h1 hu hd (by rw [h2]; exact hi)
  simpa using this
theorem results_row {P : Program} {fn : Func} {t : Tmp} {ty : TypeId} {n : Nat} {d : TypeDesc} (hr : fn.results = #[.cell t ty]) (hu : P.underlying ty = some d) (hd : d.isRow = true) (hi : (P.info? ty).map (·.size) = some n)
    {tmps : Array Value} {b : Nat} {w : World} {cs : Array Value} (ht : tmps.getD t undef = .pointer (some ⟨b, 0, none⟩)) (h : rowAt w b 0 n = some cs) :
    (results fn tmps).run P w = .ok (.agg cs) w := by
  have hl := loadVar_row hu hd hi h
  have ht' : tmps[t]?.getD undef = .pointer (some ⟨b, 0, none⟩) := by simpa using ht
  simp only [results, hr]
  simp [ht', asAddr, hl]
/-- What a function hands back that has a row and a slot. -/
theorem results_row_tmp {P : Program} {fn : Func} {t u : Tmp} {ty : TypeId} {n : Nat} {d : TypeDesc} (hr : fn.results = #[.cell t ty, .tmp u]) (hu : P.underlying ty = some d) (hd : d.isRow = true) (hi : (P.info? ty).map (·.size) = some n)
    {tmps : Array Value} {b : Nat} {w : World} {cs : Array Value} (ht : tmps.getD t undef = .pointer (some ⟨b, 0, none⟩)) (h : rowAt w b 0 n = some cs) :
    (results fn tmps).run P w = .ok (.tuple #[.agg cs, tmps.getD u undef]) w := by
  have hl := loadVar_row hu hd hi h
  have ht' : tmps[t]?.getD undef = .pointer (some ⟨b, 0, none⟩) := by simpa using ht
  simp only [results, hr]
  simp [ht', asAddr, hl]
theorem rowAt_block {w : World} {b : Nat} {cs : Array Value} {t : TypeId} {f : Nat × Nat} (hb : w.heap[b]? = some (.cells cs t f)) {n : Nat} (hn : cs.size = n) : rowAt w b 0 n = some cs := by
  unfold rowAt; rw [hb]; simp [hn.symm]
theorem info25 : (Try.prog.info? 25).map (·.size) = some 5 := by kernel_rfl
theorem info32 : (Try.prog.info? 32).map (·.size) = some 4 := by kernel_rfl
theorem info40 : (Try.prog.info? 40).map (·.size) = some 2 := by kernel_rfl

abbrev flV (f : Fl) (bv : Value) : Value := .agg #[strV f.name, bv]

set_option maxRecDepth 100000 in
set_option maxHeartbeats 1000000 in
theorem op_any (w : World) (o : Opr) {S : Nat → Prop} {bv : Value} (h : IsBy S w bv o.data) (hl : o.data.length ≤ 140737488355328) :
    Calls Try.prog 28 #[opV o bv] w fun e w' => ∃ v', e = .returned (opV o v') ∧ OwnBy w.heap.size w' v' o.data ∧ Gr w w' := by
  obtain ⟨k, n, t, dt⟩ := o
  obtain ⟨ba, bc, rfl, _, _⟩ := h.len
  obtain ⟨W2, hW2⟩ : ∃ W2, (w.alloc (.cells #[.int .u8 k, strV n, strV t, .slice ba dt.length bc] 32)).alloc (.cells #[.int .u8 0, .string ⟨#[]⟩, .string ⟨#[]⟩, .slice none 0 0] 32) = W2 := ⟨_, rfl⟩
  have hB1 : W2.heap[w.heap.size]? = some (.cells #[.int .u8 k, strV n, strV t, .slice ba dt.length bc] 32 (0, 0)) := by rw [← hW2]; exact alloc2_heap0 _ _ _
  have hB2 : W2.heap[w.heap.size + 1]? = some (.cells #[.int .u8 0, .string ⟨#[]⟩, .string ⟨#[]⟩, .slice none 0 0] 32 (0, 0)) := by rw [← hW2]; exact alloc2_heap1 _ _ _
  have hG : Gr w W2 := by rw [← hW2]; exact (Gr.alloc (Gr.refl w) _).alloc _
  have HC := Lib.hid (clone_any W2 (h.gr hG) hl)
  have c3 := cell_block hB1 (j := 3) (v := .slice ba dt.length bc) rfl
  have hsz : w.heap.size ≤ W2.heap.size := hG.size
  have HB1 := Lib.hid hB1
  have HB2 := Lib.hid hB2
  have HG := Lib.hid hG
  have HW := Lib.hid hW2
  have HZ := Lib.hid hsz
  clear h hB1 hB2 hG hW2 hsz
  go_enter Try.func28, Try.ntmps28
  go_upto_region 1 with fail
  rw [HW.out]
  go_wp2_with fail
  refine HC.out.mono ?_
  rintro e w3 ⟨v', rfl, ho, hg⟩
  have b1 := hg.same HB1.out
  have b2 := hg.same HB2.out
  have d0 := cell_block b1 (j := 0) rfl
  have d1 := cell_block b1 (j := 1) rfl
  have d2 := cell_block b1 (j := 2) rfl
  have d3 := cell_block b1 (j := 3) rfl
  have e3 := frozen_block b1 (j := 3)
  have x0 := cell_block b2 (j := 0) rfl
  have x1 := cell_block b2 (j := 1) rfl
  have x2 := cell_block b2 (j := 2) rfl
  have x3 := cell_block b2 (j := 3) rfl
  have y0 := frozen_block b2 (j := 0)
  have y1 := frozen_block b2 (j := 1)
  have y2 := frozen_block b2 (j := 2)
  have y3 := frozen_block b2 (j := 3)
  obtain ⟨va, vc, rfl⟩ := ho.slice
  have HO := Lib.hid ho
  have HG3 := Lib.hid hg
  have HB2' := Lib.hid b2
  clear ho hg b1 b2 c3
  go_wp2
  have hne : w.heap.size + 1 ≠ w.heap.size := by omega
  have hz := HZ.out
  refine bodyPost_ret (v := opV ⟨k, n, t, dt⟩ (.slice va dt.length vc)) (results_row rfl Try.underlying32 rfl info32 rfl (rowAt_block (setCell_block (setCell_block (setCell_block (setCell_block (heap_set_other HB2'.out hne) _) _) _) _) rfl)) rfl ⟨_, rfl, ?_, ?_⟩
  · refine owns_other (ownsRow_base (base' := w.heap.size) hz HO.out) fun q hq => ?_
    have hq1 := (owns_elem HO.out hq).1
    have hq2 : w.heap.size + 1 < W2.heap.size := (Array.getElem?_eq_some_iff.1 HB2.out).1
    rw [setCell_other _ (by omega), setCell_other _ (by omega), setCell_other _ (by omega), setCell_other _ (by omega), setCell_other _ (by omega)]
  · exact Gr.set (Gr.set (Gr.set (Gr.set (Gr.set (HG.out.trans HG3.out) (by simp) _) (by simp) _) (by simp) _) (by simp) _) (by simp) _

set_option maxRecDepth 100000 in
set_option maxHeartbeats 1000000 in
theorem file_any (w : World) (f : Fl) {S : Nat → Prop} {bv : Value} (h : IsBy S w bv f.data) (hl : f.data.length ≤ 140737488355328) :
    Calls Try.prog 41 #[flV f bv] w fun e w' => ∃ v', e = .returned (flV f v') ∧ OwnBy w.heap.size w' v' f.data ∧ Gr w w' := by
  obtain ⟨n, dt⟩ := f
  obtain ⟨ba, bc, rfl, _, _⟩ := h.len
  obtain ⟨W2, hW2⟩ : ∃ W2, (w.alloc (.cells #[strV n, .slice ba dt.length bc] 40)).alloc (.cells #[.string ⟨#[]⟩, .slice none 0 0] 40) = W2 := ⟨_, rfl⟩
  have hB1 : W2.heap[w.heap.size]? = some (.cells #[strV n, .slice ba dt.length bc] 40 (0, 0)) := by rw [← hW2]; exact alloc2_heap0 _ _ _
  have hB2 : W2.heap[w.heap.size + 1]? = some (.cells #[.string ⟨#[]⟩, .slice none 0 0] 40 (0, 0)) := by rw [← hW2]; exact alloc2_heap1 _ _ _
  have hG : Gr w W2 := by rw [← hW2]; exact (Gr.alloc (Gr.refl w) _).alloc _
  have HC := Lib.hid (show Calls Try.prog 39 #[.slice ba dt.length bc] W2.drew fun e w' => ∃ v', e = .returned v' ∧ OwnBy W2.heap.size w' v' dt ∧ Gr W2.drew w' from clone_any W2.drew (h.gr hG.drew) hl)
  have c0 := cell_block hB1 (j := 0) (v := strV n) rfl
  have c1 := cell_block hB1 (j := 1) (v := .slice ba dt.length bc) rfl
  have hsz : w.heap.size ≤ W2.heap.size := hG.size
  have HB1 := Lib.hid hB1
  have HB2 := Lib.hid hB2
  have HG := Lib.hid hG
  have HW := Lib.hid hW2
  have HZ := Lib.hid hsz
  clear h hB1 hB2 hG hW2 hsz
  go_enter Try.func41, Try.ntmps41
  go_upto_region 1 with fail
  rw [HW.out]
  go_region_law (go_simp; refine HC.out.mono ?_; rintro e w3 ⟨v', rfl, ho, hg⟩; have b1 := hg.same (show W2.drew.heap[w.heap.size]? = _ from HB1.out); have b2 := hg.same (show W2.drew.heap[w.heap.size + 1]? = _ from HB2.out); have d0 := cell_block b1 (j := 0) (v := strV n) rfl; have x0 := cell_block b2 (j := 0) rfl; have x1 := cell_block b2 (j := 1) rfl; have y0 := frozen_block b2 (j := 0); have y1 := frozen_block b2 (j := 1); obtain ⟨va, vc, rfl⟩ := ho.slice; have HO := Lib.hid ho; have HG3 := Lib.hid hg; have HB2' := Lib.hid b2; clear ho hg b1 b2)
  all_goals
    go_wp2
    have hne : w.heap.size + 1 ≠ w.heap.size := by omega
    have hz := HZ.out
    refine bodyPost_ret (v := flV ⟨n, dt⟩ (.slice va dt.length vc)) (results_row rfl Try.underlying40 rfl info40 rfl (rowAt_block (setCell_block (setCell_block HB2'.out _) _) rfl)) rfl ⟨_, rfl, ?_, ?_⟩
    · refine owns_other (ownsRow_base (base' := w.heap.size) hz HO.out) fun q hq => ?_
      have hq1 := (owns_elem HO.out hq).1
      have hq2 : w.heap.size + 1 < W2.heap.size := (Array.getElem?_eq_some_iff.1 HB2.out).1
      rw [setCell_other _ (by omega), setCell_other _ (by omega)]
    · exact Gr.set (Gr.set (HG.out.trans ((Gr.refl W2).drew.trans HG3.out)) (by simp) _) (by simp) _

set_option maxRecDepth 100000 in
set_option maxHeartbeats 1000000 in
theorem new_any (w : World) (q : Int) (hq : (Lit.int .i64 q).wf = true) : Calls Try.prog 20 #[.int .i64 q] w fun e w' => ∃ v, e = .returned v ∧ OwnDsk w.heap.size w' v (newD q) ∧ Gr w w' := by
  go_enter Try.func20, Try.ntmps20
  go_wp2
  refine bodyPost_ret (v := .agg #[.slice none 0 0, .slice none 0 0, .int .i64 (max q 0), .int .i64 0, .bool false]) (results_row rfl Try.underlying25 rfl info25 rfl (rowAt_block (alloc1_heap _ _) rfl)) rfl ⟨_, rfl, ⟨_, _, rfl, OwnRow.nil _ _ _, OwnRow.nil _ _ _, ?_, rfl⟩, Gr.alloc (Gr.refl w) _⟩
  show (Lit.int .i64 (max q 0)).wf = true
  rcases Int.le_total q 0 with h | h
  · rw [Int.max_eq_right h]; rfl
  · rw [Int.max_eq_left h]; exact hq

theorem wf64 {x : Int} (h : (Lit.int .i64 x).wf = true) : -9223372036854775808 ≤ x ∧ x ≤ 9223372036854775807 := by
  have h1 : IntKind.i64.min = -9223372036854775808 := rfl
  have h2 : IntKind.i64.max = 9223372036854775807 := rfl
  simp [Lit.wf] at h
  omega
theorem wf64_of {x : Int} (h : -9223372036854775808 ≤ x ∧ x ≤ 9223372036854775807) : (Lit.int .i64 x).wf = true := by
  have h1 : IntKind.i64.min = -9223372036854775808 := rfl
  have h2 : IntKind.i64.max = 9223372036854775807 := rfl
  simp [Lit.wf]
  omega
/-- The fuse, one shorter. -/
theorem burn_any (w : World) (b : Nat) (fv qv : Value) (d : Dsk) (hd : Num d) (hb : w.heap[b]? = some (.cells #[fv, qv, .int .i64 d.quota, .int .i64 d.fuse, .bool d.dead] 25 (0, 0))) :
    Calls Try.prog 29 #[.pointer (some ⟨b, 0, none⟩)] w fun e w' => e = .returned (.tuple #[]) ∧
      w'.heap[b]? = some (.cells #[fv, qv, .int .i64 (burnP d).quota, .int .i64 (burnP d).fuse, .bool (burnP d).dead] 25 (0, 0)) ∧ w.grownBy w' (some b) := by
  obtain ⟨fs, q, qt, fu, dd⟩ := d
  have c3 := cell_block hb (j := 3) (v := .int .i64 fu) rfl
  have c4 := cell_block hb (j := 4) (v := .bool dd) rfl
  have f3 := frozen_block hb (j := 3)
  have f4 := frozen_block hb (j := 4)
  have HB := Lib.hid hb
  have hw := wf64 hd.2
  simp only at hw
  clear hb hd
  by_cases h : 0 < fu
  · have e1 : burnP ⟨fs, q, qt, fu, dd⟩ = ⟨fs, q, qt, fu - 1, decide (fu - 1 = 0)⟩ := by unfold burnP; rw [if_pos h]
    rw [e1]
    go_enter Try.func29, Try.ntmps29
    go_wp2
    refine bodyPost_end (results_none rfl _ _ _) rfl ⟨rfl, ?_, ⟨rfl, rfl, rfl, by simp [World.setCell], fun k _ hk => ?_⟩⟩
    · have := setCell_block (setCell_block HB.out (j := 3) (.int .i64 (fu - 1))) (j := 4) (.bool (fu - 1 == 0))
      rw [this]
      have e2 : (fu - 1 == 0) = decide (fu - 1 = 0) := by by_cases h : fu - 1 = 0 <;> simp [h]
      rw [e2]
      rfl
    · rw [setCell_other _ (fun e => hk (by rw [e])), setCell_other _ (fun e => hk (by rw [e]))]
  · have e1 : burnP ⟨fs, q, qt, fu, dd⟩ = ⟨fs, q, qt, fu, dd⟩ := by unfold burnP; rw [if_neg h]
    rw [e1]
    go_enter Try.func29, Try.ntmps29
    go_wp2
    exact bodyPost_end (results_none rfl _ _ _) rfl ⟨rfl, HB.out, ⟨rfl, rfl, rfl, Nat.le_refl _, fun _ _ _ => rfl⟩⟩
end Go.Proofs.Ytbgcjbpkgijmeaa
