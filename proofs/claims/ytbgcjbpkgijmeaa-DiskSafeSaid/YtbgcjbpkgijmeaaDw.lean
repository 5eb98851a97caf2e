/-
  Walk: a crash.
  Conditions: none beyond those typed at each theorem.
-/
import Derived.Test.YtbgcjbpkgijmeaaDy
namespace Go.Proofs.Ytbgcjbpkgijmeaa
open Go Go.RowKit Go.Maps
attribute [local go_sem ↓] Go.wp_at_zero Go.wp_at_succ
attribute [local go_sem high] str_eql str_neq str_lss str_leq str_geq str_eql0 str_neq0

theorem run_max (P : Program) (a : Array TypeId) (t : TypeId) (x y z : Int) (h : z = max x y) (W : World) : (Builtin.max_ a t #[.int .i64 x, .int .i64 y]).run P W = .ok (.int .i64 z) W := by
  subst h
  simp [go_sem]
theorem run_min (P : Program) (a : Array TypeId) (t : TypeId) (x y z : Int) (h : z = min x y) (W : World) : (Builtin.min_ a t #[.int .i64 x, .int .i64 y]).run P W = .ok (.int .i64 z) W := by
  subst h
  simp [go_sem]

/-- What is asked of a list of files that is to be told. -/
structure Told (l : List Fl) (fs : List Fl) (q : List Opr) : Prop where
  srt : Srt l
  len : l.length ≤ fs.length + q.length
  size : sizeL l ≤ sizeL fs + sizeQ q
theorem told_of (fs : List Fl) (q : List Opr) : Told (q.foldl step (taken fs)) fs q :=
  ⟨srt_foldl (srt_taken _), Nat.le_trans (len_foldl _ _) (Nat.add_le_add_right (len_taken _) _), Nat.le_trans (sizeL_foldl _ _) (Nat.add_le_add_right (sizeL_taken _) _)⟩

theorem sizeQ_take (q : List Opr) (k : Nat) : sizeQ (q.take k) ≤ sizeQ q := by
  have h := congrArg sizeQ (List.take_append_drop k q)
  rw [sizeQ_append] at h; omega

theorem tail_size {q : List Opr} {k : Nat} {o : Opr} (h : q[k]? = some o) : sizeQ (q.take k) + o.data.length ≤ sizeQ q ∧ k < q.length := by
  have h1 := congrArg sizeQ (List.take_append_drop (k + 1) q)
  rw [List.take_add_one, h, sizeQ_append, sizeQ_append] at h1
  have h2 : sizeQ (some o).toList = o.data.length := by simp [sizeQ]
  exact ⟨by omega, (List.getElem?_eq_some_iff.1 h).1⟩
theorem crash_facts (d : Dsk) (keep torn : Int) : Srt (crashL d keep torn) ∧ (crashL d keep torn).length ≤ cnt d ∧ sizeL (crashL d keep torn) ≤ tot d := by
  have ht := told_of d.files (d.queue.take (keepN d keep))
  have hk : keepN d keep ≤ d.queue.length := by unfold keepN; omega
  have h4 := ht.len
  have h5 := ht.size
  have h6 : (d.queue.take (keepN d keep)).length = keepN d keep := by rw [List.length_take]; omega
  unfold crashL cnt tot
  cases ho : d.queue[keepN d keep]? with
  | none =>
    have h3 := sizeQ_take d.queue (keepN d keep)
    show Srt ((d.queue.take (keepN d keep)).foldl step (taken d.files)) ∧ ((d.queue.take (keepN d keep)).foldl step (taken d.files)).length ≤ _ ∧ sizeL ((d.queue.take (keepN d keep)).foldl step (taken d.files)) ≤ _
    exact ⟨ht.srt, by omega, by omega⟩
  | some o =>
    obtain ⟨h1, h2⟩ := tail_size ho
    show Srt (if o.kind = 2 then _ else _) ∧ List.length (if o.kind = 2 then _ else _) ≤ _ ∧ sizeL (if o.kind = 2 then _ else _) ≤ _
    split
    · have h7 := len_step ((d.queue.take (keepN d keep)).foldl step (taken d.files)) (tornO o torn)
      have h8 := sizeL_step ((d.queue.take (keepN d keep)).foldl step (taken d.files)) (tornO o torn)
      have h9 : (if (tornO o torn).kind = 2 then (tornO o torn).data.length else 0) ≤ o.data.length := by
        split
        · unfold tornO; simp; omega
        · omega
      exact ⟨srt_step ht.srt _, by omega, by omega⟩
    · exact ⟨ht.srt, by omega, by omega⟩
theorem crash_names {P : Bs → Prop} {d : Dsk} (h1 : ∀ f ∈ d.files, P f.name) (h2 : ∀ o ∈ d.queue, P o.name ∧ P o.to) (keep torn : Int) : ∀ f ∈ crashL d keep torn, P f.name := by
  have h3 : ∀ f ∈ (d.queue.take (keepN d keep)).foldl step (taken d.files), P f.name := foldl_names (taken_names h1) fun o ho => h2 o (List.mem_of_mem_take ho)
  unfold crashL
  cases ho : d.queue[keepN d keep]? with
  | none => exact h3
  | some o =>
    show ∀ f ∈ ((if o.kind = 2 then step ((d.queue.take (keepN d keep)).foldl step (taken d.files)) (tornO o torn) else (d.queue.take (keepN d keep)).foldl step (taken d.files)) : List Fl), P f.name
    split
    · have h4 := h2 o (List.mem_of_getElem? ho)
      exact step_names h3 h4.1 h4.2
    · exact h3
set_option maxRecDepth 100000 in
set_option maxHeartbeats 8000000 in
theorem crash_any (w : World) {S : Nat → Prop} (v : Value) (d : Dsk) (keep torn : Int) (hx : IsDsk S w v d) (hc : cnt d ≤ 1000000) (ht : tot d ≤ 1000000000000) :
    Calls Try.prog 12 #[v, .int .i64 keep, .int .i64 torn] w fun e w' => ∃ v', e = .returned v' ∧ OwnDsk w.heap.size w' v' (crashD d keep torn) ∧ Gr w w' := by
  obtain ⟨fa, fc, qa, qc, rfl⟩ := dsk_val hx
  obtain ⟨W2, hW2⟩ : ∃ W2, (w.alloc (.cells #[.slice fa d.files.length fc, .slice qa d.queue.length qc, .int .i64 d.quota, .int .i64 d.fuse, .bool d.dead] 25)).alloc (.cells #[.slice none 0 0, .slice none 0 0, .int .i64 0, .int .i64 0, .bool false] 25) = W2 := ⟨_, rfl⟩
  have hG : Gr w W2 := by rw [← hW2]; exact (Gr.alloc (Gr.refl w) _).alloc _
  have hB1 : W2.heap[w.heap.size]? = some (.cells #[.slice fa d.files.length fc, .slice qa d.queue.length qc, .int .i64 d.quota, .int .i64 d.fuse, .bool d.dead] 25 (0, 0)) := by rw [← hW2]; exact alloc2_heap0 _ _ _
  have hB2 : W2.heap[w.heap.size + 1]? = some (.cells #[.slice none 0 0, .slice none 0 0, .int .i64 0, .int .i64 0, .bool false] 25 (0, 0)) := by rw [← hW2]; exact alloc2_heap1 _ _ _
  have hs2 : W2.heap.size = w.heap.size + 2 := by rw [← hW2]; simp
  have c0 := cell_block hB1 (j := 0) (v := .slice fa d.files.length fc) rfl
  have c1 := cell_block hB1 (j := 1) (v := .slice qa d.queue.length qc) rfl
  have c2 := cell_block hB1 (j := 2) (v := .int .i64 d.quota) rfl
  have c3 := cell_block hB1 (j := 3) (v := .int .i64 d.fuse) rfl
  have c4 := cell_block hB1 (j := 4) (v := .bool d.dead) rfl
  have HO := Lib.hid (own_any W2 _ d (hx.gr hG) hc ht)
  have HW := Lib.hid hW2
  have HG := Lib.hid hG
  have HB := Lib.hid (And.intro hB1 hB2)
  have HS2 := Lib.hid hs2
  have HCT := Lib.hid (And.intro hc ht)
  have HCF := Lib.hid (And.intro (crash_facts d keep torn) (show ∀ f ∈ crashL d keep torn, f.name.length ≤ maxLen from by
    obtain ⟨fv, qv, _, hf, hq, _⟩ := hx
    exact crash_names (P := fun n => n.length ≤ maxLen) hf.ok (fun o ho => ⟨(hq.ok o ho).1, (hq.ok o ho).2.1⟩) keep torn))
  have HRIg := Lib.hid (show ∀ (X : World) (S : Nat → Prop) (v : Value), IsDsk S X v d → Calls Try.prog 21 #[v] X fun e w' => e = .returned (.bool (rightB d)) ∧ Gr X w' from fun X S v h => right_any X v d h hc ht)
  have HCD := Lib.hid (show crashD d keep torn = if rightB d = true then ⟨crashL d keep torn, [], d.quota, 0, false⟩ else d from rfl)
  clear hx hG hB1 hB2 hW2 hc ht hs2
  generalize crashD d keep torn = sd at *
  generalize rightB d = r at *
  go_enter Try.func12, Try.ntmps12
  go_upto_region 1 with fail
  rw [HW.out]
  go_wp2_with fail
  refine HO.out.mono ?_
  rintro e w3 ⟨v3, rfl, ⟨fv, qv, rfl, hf, hq, hnum⟩, hg⟩
  obtain ⟨fa3, fc3, rfl⟩ := hf.slice
  obtain ⟨qa3, qc3, rfl⟩ := hq.slice
  have b1 := hg.same HB.out.1
  have b2 := hg.same HB.out.2
  have e0 := cell_block b1 (j := 0) rfl
  have e1 := cell_block b1 (j := 1) rfl
  have e2 := cell_block b1 (j := 2) rfl
  have e3 := cell_block b1 (j := 3) rfl
  have e4 := cell_block b1 (j := 4) rfl
  have f0 := frozen_block b1 (j := 0)
  have f1 := frozen_block b1 (j := 1)
  have f2 := frozen_block b1 (j := 2)
  have f3 := frozen_block b1 (j := 3)
  have f4 := frozen_block b1 (j := 4)
  have hbx := boxed_set b1 (HG.out.trans hg) (Nat.le_refl _) (show w.heap.size < W2.heap.size by have := HS2.out; omega) hf hq hnum
  have hr4 := (set5_other (X := w3) (b := w.heap.size) (k := w.heap.size + 1) (y0 := .slice fa3 d.files.length fc3) (y1 := .slice qa3 d.queue.length qc3) (y2 := .int .i64 d.quota) (y3 := .int .i64 d.fuse) (y4 := .bool d.dead) (by omega)).trans b2
  clear c0 c1 c2 c3 c4 hf hq hg b1 b2
  simp only [dskV]
  obtain ⟨W4, hW4⟩ : ∃ W4, set5 w3 w.heap.size (.slice fa3 d.files.length fc3) (.slice qa3 d.queue.length qc3) (.int .i64 d.quota) (.int .i64 d.fuse) (.bool d.dead) = W4 := ⟨_, rfl⟩
  rw [hW4] at hbx hr4
  unfold set5 at hW4
  have HBX := Lib.hid hbx
  have HR4 := Lib.hid hr4
  have HW4 := Lib.hid hW4
  have HZ4 := Lib.hid (show w.heap.size + 2 ≤ W4.heap.size from by have := (Array.getElem?_eq_some_iff.1 hr4).1; omega)
  have HBC := Lib.hid (show ∀ X, Gr W4 X → X.cell? ⟨w.heap.size, 0, none⟩ = some (.slice fa3 d.files.length fc3) ∧ X.cell? ⟨w.heap.size, 1, none⟩ = some (.slice qa3 d.queue.length qc3) ∧ X.cell? ⟨w.heap.size, 2, none⟩ = some (.int .i64 d.quota) ∧ X.cell? ⟨w.heap.size, 3, none⟩ = some (.int .i64 d.fuse) ∧ X.cell? ⟨w.heap.size, 4, none⟩ = some (.bool d.dead) from
    fun X h => ⟨cell_block (h.same hbx.row) rfl, cell_block (h.same hbx.row) rfl, cell_block (h.same hbx.row) rfl, cell_block (h.same hbx.row) rfl, cell_block (h.same hbx.row) rfl⟩)
  have HRI := Lib.hid (HRIg.out W4 _ _ hbx.is)
  obtain ⟨k0, k1, k2, k3, k4⟩ := HBC.out W4 (Gr.refl _)
  clear hbx hr4 hW4 HO HRIg HB HG HW
  go_upto_region 2 with fail
  rw [HW4.out]
  clear HW4 e0 e1 e2 e3 e4 f0 f1 f2 f3 f4
  go_wp2_with fail
  refine HRI.out.mono ?_
  rintro e w5 ⟨rfl, hg5⟩
  have HG5 := Lib.hid hg5
  clear hg5 HRI k0 k1 k2 k3 k4
  cases r with
  | false =>
    have HERR : sd = d := HCD.out.trans (if_neg (by simp))
    have hGX : Gr W4 w5 := HG5.out
    obtain ⟨k0, k1, k2, k3, k4⟩ := HBC.out _ hGX
    have hr := hGX.same HR4.out
    have x0 := cell_block hr (j := 0) rfl
    have x1 := cell_block hr (j := 1) rfl
    have x2 := cell_block hr (j := 2) rfl
    have x3 := cell_block hr (j := 3) rfl
    have x4 := cell_block hr (j := 4) rfl
    have y0 := frozen_block hr (j := 0)
    have y1 := frozen_block hr (j := 1)
    have y2 := frozen_block hr (j := 2)
    have y3 := frozen_block hr (j := 3)
    have y4 := frozen_block hr (j := 4)
    have HFX := Lib.hid (And.intro hGX (And.intro hr HERR))
    clear hGX hr HERR HCD
    go_wp2
    obtain ⟨p1, p2, p3⟩ := HFX.out
    have hb5 := HBX.out.gr' p1
    have hs2 := HS2.out
    refine bodyPost_ret (results_row rfl Try.underlying25 rfl info25 rfl (rowAt_block (row5_filled p2 _ _ _ _ _) rfl)) rfl ⟨_, rfl, ?_, ?_⟩
    · rw [p3]
      exact ⟨_, _, rfl, OwnRow.down (show w.heap.size ≤ W2.heap.size by omega) (hb5.files.keep fun k _ _ _ hk _ => set5_other (by omega)), OwnRow.down (show w.heap.size ≤ W2.heap.size by omega) (hb5.queue.keep fun k _ _ _ hk _ => set5_other (by omega)), hb5.num⟩
    · exact set5_gr hb5.gr (by omega)
  | true =>
    have HCD2 := Lib.hid (show sd = ⟨crashL d keep torn, [], d.quota, 0, false⟩ from HCD.out.trans (if_pos rfl))
    clear HCD
    obtain ⟨k0, k1, k2, k3, k4⟩ := HBC.out _ HG5.out
    have hlq : d.queue.length ≤ 1000000 := by have := HCT.out.1; unfold cnt at this; omega
    have hmK : min (max keep 0) (d.queue.length : Int) = (keepN d keep : Int) := by unfold keepN; omega
    have hKl : keepN d keep ≤ d.queue.length := by unfold keepN; omega
    have HCL := Lib.hid (show crashL d keep torn = match d.queue[keepN d keep]? with
      | some o => if o.kind = 2 then step ((d.queue.take (keepN d keep)).foldl step (taken d.files)) (tornO o torn) else (d.queue.take (keepN d keep)).foldl step (taken d.files)
      | none => (d.queue.take (keepN d keep)).foldl step (taken d.files) from rfl)
    generalize keepN d keep = K at *
    generalize crashL d keep torn = cl at *
    have HHX := Lib.hid (show ∀ X, Gr W4 X → IsFls (· < X.heap.size) X (.slice fa3 d.files.length fc3) d.files ∧ IsOps (· < X.heap.size) X (.slice qa3 d.queue.length qc3) d.queue from
      fun X h => ⟨row_inn (by decide) (HBX.out.gr' h).files.is, row_inn (by decide) (HBX.out.gr' h).queue.is⟩)
    obtain ⟨_, _, hv', hcap, hcap2⟩ := (HHX.out W4 (Gr.refl _)).2.len
    have hcq : d.queue.length ≤ qc3 := by cases hv'; omega
    have hqc : K ≤ qc3 := by omega
    clear hv'
    go_upto_region 5 with fail
    have hD5 : Gr W4 w5.drew := HG5.out.drew
    have HT := Lib.hid (taken_any w5.drew w5.drew.heap.size (Nat.le_refl _) (.slice fa3 d.files.length fc3) d.files (HHX.out _ hD5).1 (by have := HCT.out.1; unfold cnt at this; omega))
    have HDn := Lib.hid (show ∀ (X : World) (b : Nat) (D : DataW Value), Gr w5.drew X → OwnM X b d.files.length D → MapIs w5.drew.heap.size X D (taken d.files) → Calls Try.prog 31 #[.map (some b), .slice qa3 K qc3] X (DonePost w5.drew.heap.size b (d.files.length + (d.queue.take K).length) ((d.queue.take K).foldl step (taken d.files)) X) from
      fun X b D hg hm hl => done_any X w5.drew.heap.size b d.files.length D (taken d.files) _ (d.queue.take K) ((HHX.out X (hD5.trans hg)).2.take hKl) hm hl (by have := HCT.out.1; unfold cnt at this; rw [List.length_take]; omega)
        (by have h1 := sizeL_taken d.files; have h2 := HCT.out.2; unfold tot at h2; have h3 : sizeQ (d.queue.take K) ≤ sizeQ d.queue := sizeQ_take _ _; omega))
    clear hD5
    go_region_law (first
      | (go_simp; refine HT.out.mono ?_; rintro e w6 ⟨b, D, rfl, hb, hm, hl, hg⟩; have d1 := later_cell hg (show w5.drew.cell? _ = _ from k1); have HP := Lib.hid (And.intro hb (And.intro hm (And.intro hl hg))); clear hb hm hl hg)
      | (go_simp; refine (HDn.out _ _ _ HP.out.2.2.2 HP.out.2.1 HP.out.2.2.1).mono ?_; rintro e w7 ⟨rfl, D7, hm7, hl7, hg7⟩; have HP7 := Lib.hid (And.intro hm7 (And.intro hl7 hg7)); clear hm7 hl7 hg7))
    all_goals
      have hG7 : Gr W4 w7 := HG5.out.drew.trans (grown_gr HP.out.2.2.2 HP7.out.2.2 fun k hk => by cases hk; exact HP.out.1)
      have HG7 := Lib.hid hG7
      obtain ⟨k0, k1, k2, k3, k4⟩ := HBC.out _ hG7
      clear hG7 HT HDn
      by_cases hlt : 0 < d.queue.length - K
      ·
        have hne : ¬ qc3 = K := by omega
        obtain ⟨o, ho⟩ : ∃ o, d.queue[K]? = some o := ⟨_, List.getElem?_eq_getElem (by omega)⟩
        have HCL1 := Lib.hid (show cl = if o.kind = 2 then step ((d.queue.take K).foldl step (taken d.files)) (tornO o torn) else (d.queue.take K).foldl step (taken d.files) from HCL.out.trans (by rw [ho]))
        obtain ⟨qb, qo, qc', hv, _, _, _, hrows⟩ := (HHX.out W4 (Gr.refl _)).2.some (by omega)
        simp only [Value.slice.injEq, true_and] at hv
        obtain ⟨rfl, rfl⟩ := hv
        obtain ⟨ov, hr1, hbo⟩ := hrows K o ho
        obtain ⟨oa, oc, rfl, hoc, _⟩ := IsBy.len hbo
        have hok := (HHX.out W4 (Gr.refl _)).2.ok o (List.mem_of_getElem? ho)
        have HOK := Lib.hid hok
        have HBO := Lib.hid hbo
        have HOC := Lib.hid (show ∀ X, Gr W4 X → X.cell? ⟨qb, qo + K * 4, none⟩ = some (.int .u8 o.kind) ∧ X.cell? ⟨qb, qo + K * 4 + 1, none⟩ = some (strV o.name) ∧ X.cell? ⟨qb, qo + K * 4 + 2, none⟩ = some (strV o.to) ∧ X.cell? ⟨qb, qo + K * 4 + 3, none⟩ = some (.slice oa o.data.length oc) from
          fun X hX => ⟨later_cell hX (hr1 0 _ rfl), later_cell hX (hr1 1 _ rfl), later_cell hX (hr1 2 _ rfl), later_cell hX (hr1 3 _ rfl)⟩)
        obtain ⟨z0, z1, z2, z3⟩ := HOC.out _ HG7.out
        have HTS := Lib.hid (tail_size ho)
        clear hrows hr1 hbo ho hok
        by_cases h2 : o.kind = 2
        · have hb2 : (o.kind == 2) = true := by simp [h2]
          have HCL2 := Lib.hid (HCL1.out.trans (if_pos h2))
          clear h2 HCL HCL1
          obtain ⟨T, hT⟩ : ∃ T : Nat, T = (min (max torn 0) (o.data.length : Int)).toNat := ⟨_, rfl⟩
          have hmT : min (max torn 0) (o.data.length : Int) = (T : Int) := by omega
          have hTl : T ≤ o.data.length := by omega
          have hTc : T ≤ oc := Nat.le_trans hTl hoc
          have HTN := Lib.hid (show tornO o torn = { o with data := o.data.take T } by unfold tornO; rw [← hT])
          clear hT
          go_wp2_with fail
          obtain ⟨X9, hX9⟩ : ∃ X9, (w7.alloc (.cells #[.int .u8 o.kind, strV o.name, strV o.to, .slice oa T oc] 32)).alloc (.cells #[.int .u8 o.kind, strV o.name, strV o.to, .slice oa T oc] 32) = X9 := ⟨_, rfl⟩
          have gA : Gr w7 X9 := by rw [← hX9]; exact (Gr.alloc (Gr.alloc (Gr.refl _) _) _)
          have hB9 : X9.heap[w7.heap.size + 1]? = some (.cells #[.int .u8 o.kind, strV o.name, strV o.to, .slice oa T oc] 32 (0, 0)) := by rw [← hX9]; exact alloc2_heap1 _ _ _
          have hQ9 : IsOps (fun _ => True) X9 (.slice (some ⟨w7.heap.size + 1, 0, none⟩) 1 1) [tornO o torn] := by
            rw [HTN.out]
            exact ops_one (o := { o with data := o.data.take T }) hB9 (by_take (IsBy.mono (IsBy.gr (HG7.out.trans gA) HBO.out) fun _ _ => trivial) hTl) HOK.out
          have hG57 : Gr w5.drew w7 := grown_gr HP.out.2.2.2 HP7.out.2.2 fun k hk => by cases hk; exact HP.out.1
          have HD9 := Lib.hid (done_any X9 w5.drew.heap.size b (d.files.length + (d.queue.take K).length) D7 ((d.queue.take K).foldl step (taken d.files)) _ [tornO o torn] hQ9 (OwnM.gr gA HP7.out.1) (HP7.out.2.1.gr gA)
            (by have h1 := HCT.out.1; unfold cnt at h1; rw [List.length_take]; simp only [List.length_cons, List.length_nil]; omega)
            (by
              have h1 := HCT.out.2; have h2 := HTS.out.1; have h3 := sizeL_taken d.files; have h4 := sizeL_foldl (d.queue.take K) (taken d.files)
              have h5 : sizeQ [tornO o torn] ≤ o.data.length := by rw [HTN.out]; simp [sizeQ]; omega
              unfold tot at h1; omega))
          have HG59 := Lib.hid (hG57.trans gA)
          rw [hX9]
          clear hX9 gA hB9 hQ9 hG57
          refine HD9.out.mono ?_
          rintro e w10 ⟨rfl, D10, hm10, hl10, hg10⟩
          have hG10 : Gr W4 w10 := HG5.out.drew.trans (grown_gr HG59.out hg10 fun k hk => by cases hk; exact HP.out.1)
          have HGX := Lib.hid hG10
          have HN0 := Lib.hid (show w5.drew.heap.size ≤ w10.heap.size from by have h1 := HG59.out.size; have h2 := hg10.size; omega)
          have HMX := Lib.hid (show OwnM w10 b (d.files.length + (d.queue.take K).length + 1) D10 ∧ MapIs w5.drew.heap.size w10 D10 cl from ⟨hm10, by rw [HCL2.out]; exact hl10⟩)
          have HTO := Lib.hid (show Srt cl ∧ (d.files.length + (d.queue.take K).length + 1) ≤ 1000000 ∧ sizeL cl ≤ 1000000000000 ∧ cl.length ≤ 1000000 ∧ (∀ f ∈ cl, f.name.length ≤ maxLen) from by
            obtain ⟨⟨h1, h2, h3⟩, h4⟩ := HCF.out
            have h5 := HCT.out.1
            have h6 := HCT.out.2
            have h7 : (d.queue.take K).length ≤ K := by rw [List.length_take]; omega
            have h8 := HTS.out.2
            unfold cnt at h5 h2
            exact ⟨h1, by omega, by omega, by omega, h4⟩)
          clear hm10 hl10 hg10 hG10 z0 z1 z2 z3
          obtain ⟨k0, k1, k2, k3, k4⟩ := HBC.out _ HGX.out
          go_upto_region 11 with fail
          have gA : Gr w10 (w10.alloc (.cells #[.map (some b)] 54)).drew := (Gr.alloc (Gr.refl _) _).drew
          have gW : Gr W4 (w10.alloc (.cells #[.map (some b)] 54)).drew := HGX.out.trans gA
          have a2 : (w10.alloc (.cells #[.map (some b)] 54)).drew.cell? ⟨w.heap.size, 2, none⟩ = some (.int .i64 d.quota) := (HBC.out _ gW).2.2.1
          have HCO := Lib.hid (collect_any (w10.alloc (.cells #[.map (some b)] 54)).drew w5.drew.heap.size w10.heap.size b (d.files.length + (d.queue.take K).length + 1) D10 cl (Nat.le_trans HN0.out gA.size) HTO.out.1 HTO.out.2.1 HTO.out.2.2.1 HTO.out.2.2.2.1 HTO.out.2.2.2.2 (alloc1_heap w10 _) (OwnM.gr gA HMX.out.1) (HMX.out.2.gr gA))
          have HGW := Lib.hid gW
          have HZX := Lib.hid (show w.heap.size + 2 ≤ w10.heap.size from by have := HGX.out.size; have := HZ4.out; omega)
          clear gA gW
          go_region_law (first
            | (go_simp; refine (sorted_any _ _).mono ?_; rintro e w8 ⟨rfl, hw8⟩; subst hw8)
            | (go_simp; refine HCO.out.mono ?_; rintro e w9 ⟨v9, rfl, ho9, hg9⟩
               obtain ⟨fa9, fc9, rfl⟩ := ho9.slice
               have hG9 := HGW.out.trans hg9
               obtain ⟨_, _, m2, _, _⟩ := HBC.out _ hG9
               have hr := hG9.same HR4.out
               have x0 := cell_block hr (j := 0) rfl
               have x1 := cell_block hr (j := 1) rfl
               have x2 := cell_block hr (j := 2) rfl
               have x3 := cell_block hr (j := 3) rfl
               have x4 := cell_block hr (j := 4) rfl
               have y0 := frozen_block hr (j := 0)
               have y1 := frozen_block hr (j := 1)
               have y2 := frozen_block hr (j := 2)
               have y3 := frozen_block hr (j := 3)
               have y4 := frozen_block hr (j := 4)
               have HP9 := Lib.hid (And.intro ho9 (And.intro hG9 hr))
               clear ho9 hg9 hG9 hr))
          all_goals
            go_wp2
            all_goals
             obtain ⟨p1, p2, p3⟩ := HP9.out
             have hs2 := HZX.out
             refine bodyPost_ret (results_row rfl Try.underlying25 rfl info25 rfl (rowAt_block (row5_filled p3 _ _ _ _ _) rfl)) rfl ⟨_, rfl, ?_, ?_⟩
             · rw [HCD2.out]
               refine ⟨_, _, rfl, OwnRow.down (show w.heap.size ≤ _ by simp; omega) (p1.keep fun k _ _ _ hk _ => set5_other (by simp at hk; omega)), OwnRow.nil _ _ _, HBX.out.num.1, rfl⟩
             · exact set5_gr (HBX.out.gr.trans p2) (by omega)
        · have hb2 : (o.kind == 2) = false := by simp [h2]
          have HCL2 := Lib.hid (HCL1.out.trans (if_neg h2))
          clear h2 HCL HCL1
          have HGX := HG7
          have HN0 := Lib.hid (show w5.drew.heap.size ≤ w7.heap.size from by have h1 := HP.out.2.2.2.size; have h2 := HP7.out.2.2.size; simp at h1 h2 ⊢; omega)
          have HMX := Lib.hid (show OwnM w7 b _ D7 ∧ MapIs w5.drew.heap.size w7 D7 cl from ⟨HP7.out.1, by rw [HCL2.out]; exact HP7.out.2.1⟩)
          have HTO := Lib.hid (show Srt cl ∧ d.files.length + (d.queue.take K).length ≤ 1000000 ∧ sizeL cl ≤ 1000000000000 ∧ cl.length ≤ 1000000 ∧ (∀ f ∈ cl, f.name.length ≤ maxLen) from by
            obtain ⟨⟨h1, h2, h3⟩, h4⟩ := HCF.out
            have h5 := HCT.out.1
            have h6 := HCT.out.2
            have h7 : (d.queue.take K).length ≤ K := by rw [List.length_take]; omega
            unfold cnt at h5 h2
            exact ⟨h1, by omega, by omega, by omega, h4⟩)
          obtain ⟨k0, k1, k2, k3, k4⟩ := HBC.out _ HGX.out
          go_upto_region 11 with fail
          have gA : Gr w7 (w7.alloc (.cells #[.map (some b)] 54)).drew := (Gr.alloc (Gr.refl _) _).drew
          have gW : Gr W4 (w7.alloc (.cells #[.map (some b)] 54)).drew := HGX.out.trans gA
          have a2 : (w7.alloc (.cells #[.map (some b)] 54)).drew.cell? ⟨w.heap.size, 2, none⟩ = some (.int .i64 d.quota) := (HBC.out _ gW).2.2.1
          have HCO := Lib.hid (collect_any (w7.alloc (.cells #[.map (some b)] 54)).drew w5.drew.heap.size w7.heap.size b (d.files.length + (d.queue.take K).length) D7 cl (Nat.le_trans HN0.out gA.size) HTO.out.1 HTO.out.2.1 HTO.out.2.2.1 HTO.out.2.2.2.1 HTO.out.2.2.2.2 (alloc1_heap w7 _) (OwnM.gr gA HMX.out.1) (HMX.out.2.gr gA))
          have HGW := Lib.hid gW
          have HZX := Lib.hid (show w.heap.size + 2 ≤ w7.heap.size from by have := HGX.out.size; have := HZ4.out; omega)
          clear gA gW
          go_region_law (first
            | (go_simp; refine (sorted_any _ _).mono ?_; rintro e w8 ⟨rfl, hw8⟩; subst hw8)
            | (go_simp; refine HCO.out.mono ?_; rintro e w9 ⟨v9, rfl, ho9, hg9⟩
               obtain ⟨fa9, fc9, rfl⟩ := ho9.slice
               have hG9 := HGW.out.trans hg9
               obtain ⟨_, _, m2, _, _⟩ := HBC.out _ hG9
               have hr := hG9.same HR4.out
               have x0 := cell_block hr (j := 0) rfl
               have x1 := cell_block hr (j := 1) rfl
               have x2 := cell_block hr (j := 2) rfl
               have x3 := cell_block hr (j := 3) rfl
               have x4 := cell_block hr (j := 4) rfl
               have y0 := frozen_block hr (j := 0)
               have y1 := frozen_block hr (j := 1)
               have y2 := frozen_block hr (j := 2)
               have y3 := frozen_block hr (j := 3)
               have y4 := frozen_block hr (j := 4)
               have HP9 := Lib.hid (And.intro ho9 (And.intro hG9 hr))
               clear ho9 hg9 hG9 hr))
          all_goals
            go_wp2
            all_goals
             obtain ⟨p1, p2, p3⟩ := HP9.out
             have hs2 := HZX.out
             refine bodyPost_ret (results_row rfl Try.underlying25 rfl info25 rfl (rowAt_block (row5_filled p3 _ _ _ _ _) rfl)) rfl ⟨_, rfl, ?_, ?_⟩
             · rw [HCD2.out]
               refine ⟨_, _, rfl, OwnRow.down (show w.heap.size ≤ _ by simp; omega) (p1.keep fun k _ _ _ hk _ => set5_other (by simp at hk; omega)), OwnRow.nil _ _ _, HBX.out.num.1, rfl⟩
             · exact set5_gr (HBX.out.gr.trans p2) (by omega)
      · have HCL2 := Lib.hid (show cl = (d.queue.take K).foldl step (taken d.files) from HCL.out.trans (by rw [List.getElem?_eq_none (by omega)]))
        have hl0 : d.queue.length - K = 0 := by omega
        have HGX := HG7
        have HN0 := Lib.hid (show w5.drew.heap.size ≤ w7.heap.size from by have h1 := HP.out.2.2.2.size; have h2 := HP7.out.2.2.size; simp at h1 h2 ⊢; omega)
        have HMX := Lib.hid (show OwnM w7 b _ D7 ∧ MapIs w5.drew.heap.size w7 D7 cl from ⟨HP7.out.1, by rw [HCL2.out]; exact HP7.out.2.1⟩)
        have HTO := Lib.hid (show Srt cl ∧ d.files.length + (d.queue.take K).length ≤ 1000000 ∧ sizeL cl ≤ 1000000000000 ∧ cl.length ≤ 1000000 ∧ (∀ f ∈ cl, f.name.length ≤ maxLen) from by
          obtain ⟨⟨h1, h2, h3⟩, h4⟩ := HCF.out
          have h5 := HCT.out.1
          have h6 := HCT.out.2
          have h7 : (d.queue.take K).length ≤ K := by rw [List.length_take]; omega
          unfold cnt at h5 h2
          exact ⟨h1, by omega, by omega, by omega, h4⟩)
        obtain ⟨k0, k1, k2, k3, k4⟩ := HBC.out _ HGX.out
        go_upto_region 11 with fail
        have gA : Gr w7 (w7.alloc (.cells #[.map (some b)] 54)).drew := (Gr.alloc (Gr.refl _) _).drew
        have gW : Gr W4 (w7.alloc (.cells #[.map (some b)] 54)).drew := HGX.out.trans gA
        have a2 : (w7.alloc (.cells #[.map (some b)] 54)).drew.cell? ⟨w.heap.size, 2, none⟩ = some (.int .i64 d.quota) := (HBC.out _ gW).2.2.1
        have HCO := Lib.hid (collect_any (w7.alloc (.cells #[.map (some b)] 54)).drew w5.drew.heap.size w7.heap.size b (d.files.length + (d.queue.take K).length) D7 cl (Nat.le_trans HN0.out gA.size) HTO.out.1 HTO.out.2.1 HTO.out.2.2.1 HTO.out.2.2.2.1 HTO.out.2.2.2.2 (alloc1_heap w7 _) (OwnM.gr gA HMX.out.1) (HMX.out.2.gr gA))
        have HGW := Lib.hid gW
        have HZX := Lib.hid (show w.heap.size + 2 ≤ w7.heap.size from by have := HGX.out.size; have := HZ4.out; omega)
        clear gA gW
        go_region_law (first
          | (go_simp; refine (sorted_any _ _).mono ?_; rintro e w8 ⟨rfl, hw8⟩; subst hw8)
          | (go_simp; refine HCO.out.mono ?_; rintro e w9 ⟨v9, rfl, ho9, hg9⟩
             obtain ⟨fa9, fc9, rfl⟩ := ho9.slice
             have hG9 := HGW.out.trans hg9
             obtain ⟨_, _, m2, _, _⟩ := HBC.out _ hG9
             have hr := hG9.same HR4.out
             have x0 := cell_block hr (j := 0) rfl
             have x1 := cell_block hr (j := 1) rfl
             have x2 := cell_block hr (j := 2) rfl
             have x3 := cell_block hr (j := 3) rfl
             have x4 := cell_block hr (j := 4) rfl
             have y0 := frozen_block hr (j := 0)
             have y1 := frozen_block hr (j := 1)
             have y2 := frozen_block hr (j := 2)
             have y3 := frozen_block hr (j := 3)
             have y4 := frozen_block hr (j := 4)
             have HP9 := Lib.hid (And.intro ho9 (And.intro hG9 hr))
             clear ho9 hg9 hG9 hr))
        all_goals
          go_wp2
          all_goals
           obtain ⟨p1, p2, p3⟩ := HP9.out
           have hs2 := HZX.out
           refine bodyPost_ret (results_row rfl Try.underlying25 rfl info25 rfl (rowAt_block (row5_filled p3 _ _ _ _ _) rfl)) rfl ⟨_, rfl, ?_, ?_⟩
           · rw [HCD2.out]
             refine ⟨_, _, rfl, OwnRow.down (show w.heap.size ≤ _ by simp; omega) (p1.keep fun k _ _ _ hk _ => set5_other (by simp at hk; omega)), OwnRow.nil _ _ _, HBX.out.num.1, rfl⟩
           · exact set5_gr (HBX.out.gr.trans p2) (by omega)
end Go.Proofs.Ytbgcjbpkgijmeaa
