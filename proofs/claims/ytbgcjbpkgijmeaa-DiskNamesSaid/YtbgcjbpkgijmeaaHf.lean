/-
  Walk: the law of names.
  Conditions: none beyond those typed at each theorem.
-/
import Derived.Test.YtbgcjbpkgijmeaaHe
namespace Go.Proofs.Ytbgcjbpkgijmeaa
open Go Go.RowKit Go.Maps
attribute [local go_sem ↓] Go.wp_at_zero Go.wp_at_succ
attribute [local go_sem high] str_eql str_neq str_lss str_leq str_geq str_eql0 str_neq0

set_option maxRecDepth 100000 in
set_option maxHeartbeats 2000000 in
/-- A disk that is not too great is told to be so. -/
theorem great_fit (w : World) {S : Nat → Prop} (v : Value) (d : Dsk) (hx : IsDsk S w v d) (hft : Fit d) : Calls Try.prog 6 #[v] w fun e w' => e = .returned (.bool false) ∧ Gr w w' := by
  obtain ⟨fv, qv, rfl, hf, hq, hnum⟩ := hx
  obtain ⟨fa, fc, rfl, hfc, hfm⟩ := hf.len
  obtain ⟨qa, qc, rfl, hqc, hqm⟩ := hq.len
  have hfl := hft.files
  have hql := hft.queue
  have HFB := Lib.hid hft.fb
  have HQB := Lib.hid hft.qb
  have HF := Lib.hid hf
  have HQ := Lib.hid hq
  have HA := Lib.hid (Gr.alloc (Gr.refl w) (.cells #[.slice fa d.files.length fc, .slice qa d.queue.length qc, .int .i64 d.quota, .int .i64 d.fuse, .bool d.dead] 25))
  clear hf hq hnum hft
  show Calls Try.prog 6 #[.agg #[.slice fa d.files.length fc, .slice qa d.queue.length qc, .int .i64 d.quota, .int .i64 d.fuse, .bool d.dead]] w _
  go_enter Try.func6, Try.ntmps6
  go_wp2
  go_loop [3] (fun k => ∃ j : Nat, k = .int .i64 j ∧ j ≤ d.files.length) (fun k => 31 - (intOf k).toNat)
  case atStart => exact ⟨0, rfl, by omega⟩
  case round =>
    obtain ⟨j, rfl, hj⟩ := hrel
    by_cases hlt : j < d.files.length
    · obtain ⟨f, hfj⟩ : ∃ f, d.files[j]? = some f := ⟨_, List.getElem?_eq_getElem hlt⟩
      obtain ⟨b, o, c', hv, _, _, _, hrows⟩ := HF.out.some (by omega)
      simp only [Value.slice.injEq, true_and] at hv
      obtain ⟨rfl, rfl⟩ := hv
      obtain ⟨bv, hr, hb⟩ := hrows j f hfj
      obtain ⟨ba, bc, rfl, _, hbm⟩ := IsBy.len hb
      have k1 := later_cell HA.out (show w.cell? ⟨b, o + j * 2 + 1, none⟩ = some (.slice ba f.data.length bc) from hr 1 _ rfl)
      have h1000 := HFB.out f (List.mem_of_getElem? hfj)
      have h30 : j ≤ 30 := by omega
      clear hr hb hrows hfj
      go_wp2
      exact ⟨⟨j + 1, by go_num, by omega⟩, by simp [intOf]; omega⟩
    · go_wp2
      go_loop [4] (fun k => ∃ i : Nat, k = .int .i64 i ∧ i ≤ d.queue.length) (fun k => 61 - (intOf k).toNat)
      case atStart => exact ⟨0, rfl, by omega⟩
      case round =>
        obtain ⟨i, rfl, hi⟩ := hrel
        by_cases hlti : i < d.queue.length
        · obtain ⟨q, hqi⟩ : ∃ q, d.queue[i]? = some q := ⟨_, List.getElem?_eq_getElem hlti⟩
          obtain ⟨b, o, c', hv, _, _, _, hrows⟩ := HQ.out.some (by omega)
          simp only [Value.slice.injEq, true_and] at hv
          obtain ⟨rfl, rfl⟩ := hv
          obtain ⟨bv, hr, hb⟩ := hrows i q hqi
          obtain ⟨ba, bc, rfl, _, hbm⟩ := IsBy.len hb
          have k1 := later_cell HA.out (show w.cell? ⟨b, o + i * 4 + 3, none⟩ = some (.slice ba q.data.length bc) from hr 3 _ rfl)
          have h1000 := HQB.out q (List.mem_of_getElem? hqi)
          have h60 : i ≤ 60 := by omega
          clear hr hb hrows hqi
          go_wp2
          exact ⟨⟨i + 1, by go_num, by omega⟩, by simp [intOf]; omega⟩
        · go_wp2
          go_ret
          exact ⟨by simp; omega, Gr.alloc (Gr.refl w) _⟩

/-- What the law of names wants of the four operations. -/
structure NamesL (d d1 d2 d3 d4 : Dsk) (a b l : Bs) : Prop where
  e1 : doE d ⟨1, a, [], []⟩ = 0
  s1 : doD d ⟨1, a, [], []⟩ = d1
  r1 : readE d1 a = 0 ∧ readB d1 a = []
  e2 : doE d1 ⟨2, a, [], l⟩ = 0
  s2 : doD d1 ⟨2, a, [], l⟩ = d2
  r2 : readE d2 a = 0 ∧ readB d2 a = l
  e3 : doE d2 ⟨3, a, b, []⟩ = 0
  s3 : doD d2 ⟨3, a, b, []⟩ = d3
  r3 : readE d3 b = 0 ∧ readB d3 b = l
  r4 : readE d3 a = 42 ∧ readB d3 a = []
  e4 : doE d3 ⟨4, b, [], []⟩ = 0
  s4 : doD d3 ⟨4, b, [], []⟩ = d4
  r5 : readE d4 b = 42 ∧ readB d4 b = []
  c1 : cnt d1 ≤ 91 ∧ tot d1 ≤ 90000
  c2 : cnt d2 ≤ 92 ∧ tot d2 ≤ 90100
  c3 : cnt d3 ≤ 93 ∧ tot d3 ≤ 90100
  c4 : cnt d4 ≤ 94 ∧ tot d4 ≤ 90100
theorem read_some {d : Dsk} {n x : Bs} (h : get (nowL d) n = some x) : readE d n = 0 ∧ readB d n = x := by
  unfold readE readB; rw [h]; exact ⟨if_neg (by simp), rfl⟩
theorem read_none {d : Dsk} {n : Bs} (h : get (nowL d) n = none) : readE d n = 42 ∧ readB d n = [] := by
  unfold readE readB; rw [h]; exact ⟨if_pos rfl, rfl⟩
theorem names_l {d : Dsk} {a b l : Bs} (hr : Room d 40 100) (hc : cnt d ≤ 90) (ht : tot d ≤ 90000) (ha : a ≠ []) (hb : b ≠ []) (hab : a ≠ b) (hl : l.length ≤ 100) : ∃ d1 d2 d3 d4, NamesL d d1 d2 d3 d4 a b l := by
  have f1 : fineB ⟨1, a, [], []⟩ = true := by simp [fineB, ha]
  have f2 : fineB ⟨2, a, [], l⟩ = true := by simp [fineB, ha]
  have f3 : fineB ⟨3, a, b, []⟩ = true := by simp [fineB, ha, hb]
  have f4 : fineB ⟨4, b, [], []⟩ = true := by simp [fineB, hb]
  obtain ⟨a1, a2, a3, -, -⟩ := room_do (o := ⟨1, a, [], []⟩) hr (by omega) f1 (.inr rfl) (fun h => absurd h (show ¬ ((1 : Int) = 2) by decide))
  have g1 : get (nowL (doD d ⟨1, a, [], []⟩)) a = some [] := by rw [a2]; exact step_create _ _ _ _
  rw [if_neg (show ¬ ((1 : Int) = 2) by decide)] at a3
  obtain ⟨b1, b2, b3, -, -⟩ := room_do (o := ⟨2, a, [], l⟩) a3 (by omega) f2 (.inl (by rw [g1]; simp)) (fun _ => hl)
  have g2 : get (nowL (doD (doD d ⟨1, a, [], []⟩) ⟨2, a, [], l⟩)) a = some l := by rw [b2, step_append g1]; simp
  rw [if_pos rfl] at b3
  obtain ⟨c1, c2, c3, -, -⟩ := room_do (o := ⟨3, a, b, []⟩) b3 (by omega) f3 (.inl (by rw [g2]; simp)) (fun h => absurd h (show ¬ ((3 : Int) = 2) by decide))
  have g3 := step_rename g2 (t := b) (Ne.symm hab) []
  rw [← c2] at g3
  obtain ⟨e1, e2, _, -, -⟩ := room_do (o := ⟨4, b, [], []⟩) c3 (by omega) f4 (.inl (by rw [g3.1]; simp)) (fun h => absurd h (show ¬ ((4 : Int) = 2) by decide))
  have g4 := step_remove g3.1 [] []
  rw [← e2] at g4
  have k1 := do_cnt d ⟨1, a, [], []⟩
  have k2 := do_cnt (doD d ⟨1, a, [], []⟩) ⟨2, a, [], l⟩
  have k3 := do_cnt (doD (doD d ⟨1, a, [], []⟩) ⟨2, a, [], l⟩) ⟨3, a, b, []⟩
  have k4 := do_cnt (doD (doD (doD d ⟨1, a, [], []⟩) ⟨2, a, [], l⟩) ⟨3, a, b, []⟩) ⟨4, b, [], []⟩
  have t1 := do_tot d ⟨1, a, [], []⟩
  have t2 := do_tot (doD d ⟨1, a, [], []⟩) ⟨2, a, [], l⟩
  have t3 := do_tot (doD (doD d ⟨1, a, [], []⟩) ⟨2, a, [], l⟩) ⟨3, a, b, []⟩
  have t4 := do_tot (doD (doD (doD d ⟨1, a, [], []⟩) ⟨2, a, [], l⟩) ⟨3, a, b, []⟩) ⟨4, b, [], []⟩
  simp only [List.length_nil] at t1 t2 t3 t4
  exact ⟨_, _, _, _, a1, rfl, read_some g1, b1, rfl, read_some g2, c1, rfl, read_some g3.1, read_none g3.2, e1, rfl, read_none g4, by omega, by omega, by omega, by omega⟩

set_option maxRecDepth 100000 in
set_option maxHeartbeats 16000000 in
theorem names_any (w : World) {S T : Nat → Prop} (v lv : Value) (d : Dsk) (a b l : Bs) (hx : IsDsk S w v d) (hby : IsBy T w lv l) (ha : a.length ≤ maxLen) (hb : b.length ≤ maxLen) :
    Calls Try.prog 5 #[v, strV a, strV b, lv] w (LawPost w) := by
  have hx := dsk_inn hx
  have hxo := hx
  obtain ⟨fv, qv0, rfl, hf0, hq0, hnum⟩ := hx
  obtain ⟨fa, fc, rfl, _, _⟩ := hf0.len
  obtain ⟨da, dc, rfl, _, hdm⟩ := hq0.len
  obtain ⟨la, lc, rfl, hlc, hlm⟩ := hby.len
  obtain ⟨W1, hW1⟩ : ∃ W1, w.alloc (.cells #[.slice fa d.files.length fc, .slice da d.queue.length dc, .int .i64 d.quota, .int .i64 d.fuse, .bool d.dead] 25) = W1 := ⟨_, rfl⟩
  have hG : Gr w W1 := by rw [← hW1]; exact Gr.alloc (Gr.refl w) _
  have hB1 : W1.heap[w.heap.size]? = some (.cells #[.slice fa d.files.length fc, .slice da d.queue.length dc, .int .i64 d.quota, .int .i64 d.fuse, .bool d.dead] 25 (0, 0)) := by rw [← hW1]; exact alloc1_heap _ _
  have HD0 := Lib.hid (show IsDsk (fun k => k ≠ w.heap.size) W1 (dskV d (.slice fa d.files.length fc) (.slice da d.queue.length dc)) d from IsDsk.gr hG (IsDsk.mono ⟨_, _, rfl, hf0, hq0, hnum⟩ fun b hb => by have hb : b < w.heap.size := hb; show b ≠ w.heap.size; omega))
  have HBL := Lib.hid (show ∀ X, Gr w X → IsBy (fun _ => True) X (.slice la l.length lc) l from fun X hX => IsBy.gr hX (IsBy.mono hby fun _ _ => trivial))
  have HGF := Lib.hid (show ∀ X, Gr W1 X → Fit d → Calls Try.prog 6 #[.agg #[.slice fa d.files.length fc, .slice da d.queue.length dc, .int .i64 d.quota, .int .i64 d.fuse, .bool d.dead]] X fun e w' => e = .returned (.bool false) ∧ Gr X w' from fun X hX hf => great_fit X _ d (hxo.gr (hG.trans hX)) hf)
  have HGN := Lib.hid (show ∀ X, Gr W1 X → ¬ Fit d → Calls Try.prog 6 #[.agg #[.slice fa d.files.length fc, .slice da d.queue.length dc, .int .i64 d.quota, .int .i64 d.fuse, .bool d.dead]] X fun e w' => e = .returned (.bool true) ∧ Gr X w' from fun X hX hf => (great_any X _ d (hxo.gr (hG.trans hX))).mono fun e w' ⟨r, h1, h2, h3⟩ => ⟨by
    cases r with
    | true => exact h1
    | false => exact absurd (h2 rfl) hf, h3⟩)
  have HRI := Lib.hid (show ∀ X, Gr W1 X → Fit d → Calls Try.prog 7 #[.agg #[.slice fa d.files.length fc, .slice da d.queue.length dc, .int .i64 d.quota, .int .i64 d.fuse, .bool d.dead]] X fun e w' => e = .returned (.bool (rightB d)) ∧ Gr X w' from
    fun X hX hft => rightR_any X _ d (hxo.gr (hG.trans hX)) (by have := fit_cnt hft; omega) (by have := fit_cnt hft; omega))
  have HUS := Lib.hid (show ∀ X, Gr W1 X → Fit d → Calls Try.prog 16 #[.agg #[.slice fa d.files.length fc, .slice da d.queue.length dc, .int .i64 d.quota, .int .i64 d.fuse, .bool d.dead]] X fun e w' => e = .returned (.int .i64 (usedN d)) ∧ Gr X w' from
    fun X hX hft => usedR_any X _ d (hxo.gr (hG.trans hX)) (by have := fit_cnt hft; omega) (by have := fit_cnt hft; omega))
  have HUN := Lib.hid (show Fit d → (usedN d : Int) ≤ 90000 from fun h => by have h1 := fit_cnt h; have h2 := size_now d; omega)
  have HWA := Lib.hid (show ∀ X, Calls Try.prog 8 #[] X fun e w' => e = .returned (.bool true) ∧ Gr X w' from wakes_any)
  have HC1 := Lib.hid (show ∀ X, Gr W1 X → (Gr W1 X ∧ X.cell? ⟨w.heap.size, 0, none⟩ = some (.slice fa d.files.length fc) ∧ X.cell? ⟨w.heap.size, 1, none⟩ = some (.slice da d.queue.length dc) ∧ X.cell? ⟨w.heap.size, 2, none⟩ = some (.int .i64 d.quota) ∧ X.cell? ⟨w.heap.size, 3, none⟩ = some (.int .i64 d.fuse) ∧ X.cell? ⟨w.heap.size, 4, none⟩ = some (.bool d.dead)) from fun X h => ⟨h, cell_block (h.same hB1) rfl, cell_block (h.same hB1) rfl, cell_block (h.same hB1) rfl, cell_block (h.same hB1) rfl, cell_block (h.same hB1) rfl⟩)
  have HDO := Lib.hid (show ∀ (X : World) (v bv : Value) (d' d2 : Dsk) (o : Opr), Gr w X → IsDsk (fun k => k ≠ w.heap.size) X v d' → IsBy (fun _ => True) X bv o.data → opE.ok o → (cnt d' ≤ 1000000 ∧ tot d' ≤ 1000000000000) → o.data.length ≤ 1000000000000 → doE d' o = 0 → doD d' o = d2 →
      Calls Try.prog 10 #[v, opV o bv] X fun e w' => ∃ (fa : Option Addr) (fc : Nat) (da : Option Addr) (dc : Nat), e = .returned (.tuple #[.agg #[.slice fa d2.files.length fc, .slice da d2.queue.length dc, .int .i64 d2.quota, .int .i64 d2.fuse, .bool d2.dead], .int .i64 0]) ∧ OwnDsk w.heap.size w' (dskV d2 (.slice fa d2.files.length fc) (.slice da d2.queue.length dc)) d2 ∧ Gr X w' from
    fun X v bv d' d2 o hX hv hb hok hct hol he hs => (do_any X v bv d' o hv hb hok hct.1 hct.2 hol).mono fun e w' ⟨v', h1, ⟨fv, qv, h2, h3, h4, h5⟩, h6⟩ => by
      subst hs
      obtain ⟨fa, fc, rfl⟩ := h3.slice
      obtain ⟨qa, qc, rfl⟩ := h4.slice
      subst h2
      exact ⟨fa, fc, qa, qc, by rw [h1, he]; rfl, ⟨_, _, rfl, h3.down hX.size, h4.down hX.size, h5⟩, h6⟩)
  have HRD := Lib.hid (show ∀ (X : World) (v : Value) (d' : Dsk) (n : Bs) (x : Bs) (ee : Int), Gr w X → w.heap.size < X.heap.size → IsDsk (fun k => k ≠ w.heap.size) X v d' → n.length ≤ maxLen → (cnt d' ≤ 1000000 ∧ tot d' ≤ 1000000000000) → (readE d' n = ee ∧ readB d' n = x) →
      Calls Try.prog 17 #[v, strV n] X fun e w' => ∃ (ba : Option Addr) (bc : Nat), e = .returned (.tuple #[.slice ba x.length bc, .int .i64 ee]) ∧ IsBy (fun k => k ≠ w.heap.size) w' (.slice ba x.length bc) x ∧ Gr X w' from
    fun X v d' n x ee hX hz hv hn hct hr => (read_any X v d' n hn hv hct.1 hct.2).mono fun e w' ⟨bv, h1, h2, h3⟩ => by
      obtain ⟨rfl, rfl⟩ := hr
      obtain ⟨ba, bc, rfl⟩ := h2.slice
      exact ⟨ba, bc, h1, IsBy.mono h2.is (fun k hk => by have hk : X.heap.size ≤ k := hk; show k ≠ w.heap.size; omega), h3⟩)
  have HFN := Lib.hid (show rightB d = true → (∀ o ∈ d.queue, fineB o = true) ∧ d.queue.length ≤ 400 ∧ 0 ≤ d.quota ∧ 0 ≤ d.fuse from fun h => by obtain ⟨_, h2, h3, h4, h5, _⟩ := (right_iff d).1 h; exact ⟨h2, h3, h4, h5⟩)
  have HW := Lib.hid hW1
  have HG := Lib.hid hG
  have HB := Lib.hid hB1
  have HNM := Lib.hid (And.intro ha hb)
  have HZ1 := Lib.hid (show w.heap.size < W1.heap.size from (Array.getElem?_eq_some_iff.1 hB1).1)
  unfold maxLen at hdm hlm
  clear hxo hf0 hq0 hnum hby hG hB1 hW1 ha hb
  obtain ⟨-, k0, k1, k2, k3, k4⟩ := HC1.out W1 (Gr.refl _)
  show Calls Try.prog 5 #[.agg #[.slice fa d.files.length fc, .slice da d.queue.length dc, .int .i64 d.quota, .int .i64 d.fuse, .bool d.dead], strV a, strV b, .slice la l.length lc] w _
  go_enter Try.func5, Try.ntmps5
  go_upto_region 1 with fail
  rw [HW.out]
  clear k0 k1 k2 k3 k4
  by_cases hft : Fit d
  rotate_left
  · have HFT := Lib.hid hft
    clear hft
    have HGM := Lib.hid (show ∀ X, Gr W1 X → Calls Try.prog 6 #[.agg #[.slice fa d.files.length fc, .slice da d.queue.length dc, .int .i64 d.quota, .int .i64 d.fuse, .bool d.dead]] X fun e w' => e = .returned (.bool true) ∧ Gr X w' from fun X hX => HGN.out X hX HFT.out)
    go_wp2_with fail
    refine wp_region_qw (fun X => Gr W1 X ∧ X.cell? ⟨w.heap.size, 0, none⟩ = some (.slice fa d.files.length fc) ∧ X.cell? ⟨w.heap.size, 1, none⟩ = some (.slice da d.queue.length dc) ∧ X.cell? ⟨w.heap.size, 2, none⟩ = some (.int .i64 d.quota) ∧ X.cell? ⟨w.heap.size, 3, none⟩ = some (.int .i64 d.fuse) ∧ X.cell? ⟨w.heap.size, 4, none⟩ = some (.bool d.dead)) (by kernel_rfl) (by kernel_rfl) (HC1.out _ (Gr.refl W1).drew) ?_
    iterate 3
      refine qw_takeE (by kernel_rfl) ?_
      apply Exists.intro
      refine ⟨?_, ?_⟩
      · rintro X ⟨hg, e0, e1, e2, e3, e4⟩
        first
        | (go_simp; done)
        | (go_simp; with_reducible rfl)
        | (go_simp; go_at_call 6; refine (HGM.out _ hg).mono ?_; rintro e y1 ⟨rfl, hgy⟩; refine ⟨?_, HC1.out _ (hg.trans hgy)⟩; with_reducible rfl)
      simp only [Act.put, List.setIfInBounds_toArray, List.set_cons_zero, List.set_cons_succ]
    iterate 3
      refine qw_skip (by kernel_rfl) ?_
      simp only [Act.put, List.setIfInBounds_toArray, List.set_cons_zero, List.set_cons_succ]
    iterate 2
      refine qw_takeE (by kernel_rfl) ?_
      apply Exists.intro
      refine ⟨?_, ?_⟩
      · rintro X ⟨hg, e0, e1, e2, e3, e4⟩
        first
        | (go_simp; done)
        | (go_simp; with_reducible rfl)
        | (go_simp; go_at_call 6; refine (HGM.out _ hg).mono ?_; rintro e y1 ⟨rfl, hgy⟩; refine ⟨?_, HC1.out _ (hg.trans hgy)⟩; with_reducible rfl)
      simp only [Act.put, List.setIfInBounds_toArray, List.set_cons_zero, List.set_cons_succ]
    iterate 2
      refine qw_skip (by kernel_rfl) ?_
      simp only [Act.put, List.setIfInBounds_toArray, List.set_cons_zero, List.set_cons_succ]
    iterate 2
      refine qw_takeE (by kernel_rfl) ?_
      apply Exists.intro
      refine ⟨?_, ?_⟩
      · rintro X ⟨hg, e0, e1, e2, e3, e4⟩
        first
        | (go_simp; done)
        | (go_simp; with_reducible rfl)
        | (go_simp; go_at_call 6; refine (HGM.out _ hg).mono ?_; rintro e y1 ⟨rfl, hgy⟩; refine ⟨?_, HC1.out _ (hg.trans hgy)⟩; with_reducible rfl)
      simp only [Act.put, List.setIfInBounds_toArray, List.set_cons_zero, List.set_cons_succ]
    iterate 3
      refine qw_skip (by kernel_rfl) ?_
      simp only [Act.put, List.setIfInBounds_toArray, List.set_cons_zero, List.set_cons_succ]
    iterate 2
      refine qw_takeE (by kernel_rfl) ?_
      apply Exists.intro
      refine ⟨?_, ?_⟩
      · rintro X ⟨hg, e0, e1, e2, e3, e4⟩
        first
        | (go_simp; done)
        | (go_simp; with_reducible rfl)
        | (go_simp; go_at_call 6; refine (HGM.out _ hg).mono ?_; rintro e y1 ⟨rfl, hgy⟩; refine ⟨?_, HC1.out _ (hg.trans hgy)⟩; with_reducible rfl)
      simp only [Act.put, List.setIfInBounds_toArray, List.set_cons_zero, List.set_cons_succ]
    iterate 2
      refine qw_skip (by kernel_rfl) ?_
      simp only [Act.put, List.setIfInBounds_toArray, List.set_cons_zero, List.set_cons_succ]
    iterate 2
      refine qw_takeE (by kernel_rfl) ?_
      apply Exists.intro
      refine ⟨?_, ?_⟩
      · rintro X ⟨hg, e0, e1, e2, e3, e4⟩
        first
        | (go_simp; done)
        | (go_simp; with_reducible rfl)
        | (go_simp; go_at_call 6; refine (HGM.out _ hg).mono ?_; rintro e y1 ⟨rfl, hgy⟩; refine ⟨?_, HC1.out _ (hg.trans hgy)⟩; with_reducible rfl)
      simp only [Act.put, List.setIfInBounds_toArray, List.set_cons_zero, List.set_cons_succ]
    iterate 2
      refine qw_skip (by kernel_rfl) ?_
      simp only [Act.put, List.setIfInBounds_toArray, List.set_cons_zero, List.set_cons_succ]
    iterate 2
      refine qw_takeE (by kernel_rfl) ?_
      apply Exists.intro
      refine ⟨?_, ?_⟩
      · rintro X ⟨hg, e0, e1, e2, e3, e4⟩
        first
        | (go_simp; done)
        | (go_simp; with_reducible rfl)
        | (go_simp; go_at_call 6; refine (HGM.out _ hg).mono ?_; rintro e y1 ⟨rfl, hgy⟩; refine ⟨?_, HC1.out _ (hg.trans hgy)⟩; with_reducible rfl)
      simp only [Act.put, List.setIfInBounds_toArray, List.set_cons_zero, List.set_cons_succ]
    iterate 3
      refine qw_skip (by kernel_rfl) ?_
      simp only [Act.put, List.setIfInBounds_toArray, List.set_cons_zero, List.set_cons_succ]
    iterate 2
      refine qw_takeE (by kernel_rfl) ?_
      apply Exists.intro
      refine ⟨?_, ?_⟩
      · rintro X ⟨hg, e0, e1, e2, e3, e4⟩
        first
        | (go_simp; done)
        | (go_simp; with_reducible rfl)
        | (go_simp; go_at_call 6; refine (HGM.out _ hg).mono ?_; rintro e y1 ⟨rfl, hgy⟩; refine ⟨?_, HC1.out _ (hg.trans hgy)⟩; with_reducible rfl)
      simp only [Act.put, List.setIfInBounds_toArray, List.set_cons_zero, List.set_cons_succ]
    iterate 3
      refine qw_skip (by kernel_rfl) ?_
      simp only [Act.put, List.setIfInBounds_toArray, List.set_cons_zero, List.set_cons_succ]
    iterate 2
      refine qw_takeE (by kernel_rfl) ?_
      apply Exists.intro
      refine ⟨?_, ?_⟩
      · rintro X ⟨hg, e0, e1, e2, e3, e4⟩
        first
        | (go_simp; done)
        | (go_simp; with_reducible rfl)
        | (go_simp; go_at_call 6; refine (HGM.out _ hg).mono ?_; rintro e y1 ⟨rfl, hgy⟩; refine ⟨?_, HC1.out _ (hg.trans hgy)⟩; with_reducible rfl)
      simp only [Act.put, List.setIfInBounds_toArray, List.set_cons_zero, List.set_cons_succ]
    iterate 4
      refine qw_skip (by kernel_rfl) ?_
      simp only [Act.put, List.setIfInBounds_toArray, List.set_cons_zero, List.set_cons_succ]
    iterate 2
      refine qw_takeE (by kernel_rfl) ?_
      apply Exists.intro
      refine ⟨?_, ?_⟩
      · rintro X ⟨hg, e0, e1, e2, e3, e4⟩
        first
        | (go_simp; done)
        | (go_simp; with_reducible rfl)
        | (go_simp; go_at_call 6; refine (HGM.out _ hg).mono ?_; rintro e y1 ⟨rfl, hgy⟩; refine ⟨?_, HC1.out _ (hg.trans hgy)⟩; with_reducible rfl)
      simp only [Act.put, List.setIfInBounds_toArray, List.set_cons_zero, List.set_cons_succ]
    iterate 6
      refine qw_skip (by kernel_rfl) ?_
      simp only [Act.put, List.setIfInBounds_toArray, List.set_cons_zero, List.set_cons_succ]
    refine qw_takeE (by kernel_rfl) ?_
    apply Exists.intro
    refine ⟨?_, ?_⟩
    · rintro X ⟨hg, e0, e1, e2, e3, e4⟩
      first
      | (go_simp; done)
      | (go_simp; with_reducible rfl)
      | (go_simp; go_at_call 6; refine (HGM.out _ hg).mono ?_; rintro e y1 ⟨rfl, hgy⟩; refine ⟨?_, HC1.out _ (hg.trans hgy)⟩; with_reducible rfl)
    simp only [Act.put, List.setIfInBounds_toArray, List.set_cons_zero, List.set_cons_succ]
    refine qw_nil ?_
    rintro X ⟨hg, -⟩
    have HGX := Lib.hid hg
    clear hg
    go_wp2_with (go_at_call 8; refine (HWA.out _).mono ?_; rintro e w3 ⟨rfl, hg3⟩)
    go_ret
    exact ⟨rfl, (HG.out.trans HGX.out).trans hg3⟩
  have HFT := Lib.hid hft
  clear hft
  have HGM := Lib.hid (show ∀ X, Gr W1 X → Calls Try.prog 6 #[.agg #[.slice fa d.files.length fc, .slice da d.queue.length dc, .int .i64 d.quota, .int .i64 d.fuse, .bool d.dead]] X fun e w' => e = .returned (.bool false) ∧ Gr X w' from fun X hX => HGF.out X hX HFT.out)
  have hrb : rightB d = true ∨ rightB d = false := by cases rightB d <;> simp
  rcases hrb with hrb | hrb
  rotate_left
  · have HRM := Lib.hid (show ∀ X, Gr W1 X → Calls Try.prog 7 #[.agg #[.slice fa d.files.length fc, .slice da d.queue.length dc, .int .i64 d.quota, .int .i64 d.fuse, .bool d.dead]] X fun e w' => e = .returned (.bool false) ∧ Gr X w' from fun X hX => hrb ▸ HRI.out X hX HFT.out)
    clear hrb
    go_wp2_with fail
    refine wp_region_qw (fun X => Gr W1 X ∧ X.cell? ⟨w.heap.size, 0, none⟩ = some (.slice fa d.files.length fc) ∧ X.cell? ⟨w.heap.size, 1, none⟩ = some (.slice da d.queue.length dc) ∧ X.cell? ⟨w.heap.size, 2, none⟩ = some (.int .i64 d.quota) ∧ X.cell? ⟨w.heap.size, 3, none⟩ = some (.int .i64 d.fuse) ∧ X.cell? ⟨w.heap.size, 4, none⟩ = some (.bool d.dead)) (by kernel_rfl) (by kernel_rfl) (HC1.out _ (Gr.refl W1).drew) ?_
    iterate 8
      refine qw_takeE (by kernel_rfl) ?_
      apply Exists.intro
      refine ⟨?_, ?_⟩
      · rintro X ⟨hg, e0, e1, e2, e3, e4⟩
        first
        | (go_simp; done)
        | (go_simp; with_reducible rfl)
        | (go_simp; go_at_call 6; refine (HGM.out _ hg).mono ?_; rintro e y1 ⟨rfl, hgy⟩; refine ⟨?_, HC1.out _ (hg.trans hgy)⟩; with_reducible rfl)
        | (go_simp; go_at_call 7; refine (HRM.out _ hg).mono ?_; rintro e y1 ⟨rfl, hgy⟩; refine ⟨?_, HC1.out _ (hg.trans hgy)⟩; with_reducible rfl)
      simp only [Act.put, List.setIfInBounds_toArray, List.set_cons_zero, List.set_cons_succ]
    iterate 2
      refine qw_skip (by kernel_rfl) ?_
      simp only [Act.put, List.setIfInBounds_toArray, List.set_cons_zero, List.set_cons_succ]
    iterate 2
      refine qw_takeE (by kernel_rfl) ?_
      apply Exists.intro
      refine ⟨?_, ?_⟩
      · rintro X ⟨hg, e0, e1, e2, e3, e4⟩
        first
        | (go_simp; done)
        | (go_simp; with_reducible rfl)
        | (go_simp; go_at_call 6; refine (HGM.out _ hg).mono ?_; rintro e y1 ⟨rfl, hgy⟩; refine ⟨?_, HC1.out _ (hg.trans hgy)⟩; with_reducible rfl)
        | (go_simp; go_at_call 7; refine (HRM.out _ hg).mono ?_; rintro e y1 ⟨rfl, hgy⟩; refine ⟨?_, HC1.out _ (hg.trans hgy)⟩; with_reducible rfl)
      simp only [Act.put, List.setIfInBounds_toArray, List.set_cons_zero, List.set_cons_succ]
    iterate 3
      refine qw_skip (by kernel_rfl) ?_
      simp only [Act.put, List.setIfInBounds_toArray, List.set_cons_zero, List.set_cons_succ]
    iterate 2
      refine qw_takeE (by kernel_rfl) ?_
      apply Exists.intro
      refine ⟨?_, ?_⟩
      · rintro X ⟨hg, e0, e1, e2, e3, e4⟩
        first
        | (go_simp; done)
        | (go_simp; with_reducible rfl)
        | (go_simp; go_at_call 6; refine (HGM.out _ hg).mono ?_; rintro e y1 ⟨rfl, hgy⟩; refine ⟨?_, HC1.out _ (hg.trans hgy)⟩; with_reducible rfl)
        | (go_simp; go_at_call 7; refine (HRM.out _ hg).mono ?_; rintro e y1 ⟨rfl, hgy⟩; refine ⟨?_, HC1.out _ (hg.trans hgy)⟩; with_reducible rfl)
      simp only [Act.put, List.setIfInBounds_toArray, List.set_cons_zero, List.set_cons_succ]
    iterate 2
      refine qw_skip (by kernel_rfl) ?_
      simp only [Act.put, List.setIfInBounds_toArray, List.set_cons_zero, List.set_cons_succ]
    iterate 2
      refine qw_takeE (by kernel_rfl) ?_
      apply Exists.intro
      refine ⟨?_, ?_⟩
      · rintro X ⟨hg, e0, e1, e2, e3, e4⟩
        first
        | (go_simp; done)
        | (go_simp; with_reducible rfl)
        | (go_simp; go_at_call 6; refine (HGM.out _ hg).mono ?_; rintro e y1 ⟨rfl, hgy⟩; refine ⟨?_, HC1.out _ (hg.trans hgy)⟩; with_reducible rfl)
        | (go_simp; go_at_call 7; refine (HRM.out _ hg).mono ?_; rintro e y1 ⟨rfl, hgy⟩; refine ⟨?_, HC1.out _ (hg.trans hgy)⟩; with_reducible rfl)
      simp only [Act.put, List.setIfInBounds_toArray, List.set_cons_zero, List.set_cons_succ]
    iterate 2
      refine qw_skip (by kernel_rfl) ?_
      simp only [Act.put, List.setIfInBounds_toArray, List.set_cons_zero, List.set_cons_succ]
    iterate 2
      refine qw_takeE (by kernel_rfl) ?_
      apply Exists.intro
      refine ⟨?_, ?_⟩
      · rintro X ⟨hg, e0, e1, e2, e3, e4⟩
        first
        | (go_simp; done)
        | (go_simp; with_reducible rfl)
        | (go_simp; go_at_call 6; refine (HGM.out _ hg).mono ?_; rintro e y1 ⟨rfl, hgy⟩; refine ⟨?_, HC1.out _ (hg.trans hgy)⟩; with_reducible rfl)
        | (go_simp; go_at_call 7; refine (HRM.out _ hg).mono ?_; rintro e y1 ⟨rfl, hgy⟩; refine ⟨?_, HC1.out _ (hg.trans hgy)⟩; with_reducible rfl)
      simp only [Act.put, List.setIfInBounds_toArray, List.set_cons_zero, List.set_cons_succ]
    iterate 3
      refine qw_skip (by kernel_rfl) ?_
      simp only [Act.put, List.setIfInBounds_toArray, List.set_cons_zero, List.set_cons_succ]
    iterate 2
      refine qw_takeE (by kernel_rfl) ?_
      apply Exists.intro
      refine ⟨?_, ?_⟩
      · rintro X ⟨hg, e0, e1, e2, e3, e4⟩
        first
        | (go_simp; done)
        | (go_simp; with_reducible rfl)
        | (go_simp; go_at_call 6; refine (HGM.out _ hg).mono ?_; rintro e y1 ⟨rfl, hgy⟩; refine ⟨?_, HC1.out _ (hg.trans hgy)⟩; with_reducible rfl)
        | (go_simp; go_at_call 7; refine (HRM.out _ hg).mono ?_; rintro e y1 ⟨rfl, hgy⟩; refine ⟨?_, HC1.out _ (hg.trans hgy)⟩; with_reducible rfl)
      simp only [Act.put, List.setIfInBounds_toArray, List.set_cons_zero, List.set_cons_succ]
    iterate 3
      refine qw_skip (by kernel_rfl) ?_
      simp only [Act.put, List.setIfInBounds_toArray, List.set_cons_zero, List.set_cons_succ]
    iterate 2
      refine qw_takeE (by kernel_rfl) ?_
      apply Exists.intro
      refine ⟨?_, ?_⟩
      · rintro X ⟨hg, e0, e1, e2, e3, e4⟩
        first
        | (go_simp; done)
        | (go_simp; with_reducible rfl)
        | (go_simp; go_at_call 6; refine (HGM.out _ hg).mono ?_; rintro e y1 ⟨rfl, hgy⟩; refine ⟨?_, HC1.out _ (hg.trans hgy)⟩; with_reducible rfl)
        | (go_simp; go_at_call 7; refine (HRM.out _ hg).mono ?_; rintro e y1 ⟨rfl, hgy⟩; refine ⟨?_, HC1.out _ (hg.trans hgy)⟩; with_reducible rfl)
      simp only [Act.put, List.setIfInBounds_toArray, List.set_cons_zero, List.set_cons_succ]
    iterate 4
      refine qw_skip (by kernel_rfl) ?_
      simp only [Act.put, List.setIfInBounds_toArray, List.set_cons_zero, List.set_cons_succ]
    iterate 2
      refine qw_takeE (by kernel_rfl) ?_
      apply Exists.intro
      refine ⟨?_, ?_⟩
      · rintro X ⟨hg, e0, e1, e2, e3, e4⟩
        first
        | (go_simp; done)
        | (go_simp; with_reducible rfl)
        | (go_simp; go_at_call 6; refine (HGM.out _ hg).mono ?_; rintro e y1 ⟨rfl, hgy⟩; refine ⟨?_, HC1.out _ (hg.trans hgy)⟩; with_reducible rfl)
        | (go_simp; go_at_call 7; refine (HRM.out _ hg).mono ?_; rintro e y1 ⟨rfl, hgy⟩; refine ⟨?_, HC1.out _ (hg.trans hgy)⟩; with_reducible rfl)
      simp only [Act.put, List.setIfInBounds_toArray, List.set_cons_zero, List.set_cons_succ]
    iterate 6
      refine qw_skip (by kernel_rfl) ?_
      simp only [Act.put, List.setIfInBounds_toArray, List.set_cons_zero, List.set_cons_succ]
    refine qw_takeE (by kernel_rfl) ?_
    apply Exists.intro
    refine ⟨?_, ?_⟩
    · rintro X ⟨hg, e0, e1, e2, e3, e4⟩
      first
      | (go_simp; done)
      | (go_simp; with_reducible rfl)
      | (go_simp; go_at_call 6; refine (HGM.out _ hg).mono ?_; rintro e y1 ⟨rfl, hgy⟩; refine ⟨?_, HC1.out _ (hg.trans hgy)⟩; with_reducible rfl)
      | (go_simp; go_at_call 7; refine (HRM.out _ hg).mono ?_; rintro e y1 ⟨rfl, hgy⟩; refine ⟨?_, HC1.out _ (hg.trans hgy)⟩; with_reducible rfl)
    simp only [Act.put, List.setIfInBounds_toArray, List.set_cons_zero, List.set_cons_succ]
    refine qw_nil ?_
    rintro X ⟨hg, -⟩
    have HGX := Lib.hid hg
    clear hg
    go_wp2_with (go_at_call 8; refine (HWA.out _).mono ?_; rintro e w3 ⟨rfl, hg3⟩)
    go_ret
    exact ⟨rfl, (HG.out.trans HGX.out).trans hg3⟩
  have HRB := Lib.hid hrb
  have HRM := Lib.hid (show ∀ X, Gr W1 X → Calls Try.prog 7 #[.agg #[.slice fa d.files.length fc, .slice da d.queue.length dc, .int .i64 d.quota, .int .i64 d.fuse, .bool d.dead]] X fun e w' => e = .returned (.bool true) ∧ Gr X w' from fun X hX => hrb ▸ HRI.out X hX HFT.out)
  clear hrb
  have hdd : d.dead = true ∨ d.dead = false := by cases d.dead <;> simp
  rcases hdd with hdd | hdd
  ·
    have HCB := Lib.hid (show ∀ X, Gr W1 X → (Gr W1 X ∧ X.cell? ⟨w.heap.size, 0, none⟩ = some (.slice fa d.files.length fc) ∧ X.cell? ⟨w.heap.size, 1, none⟩ = some (.slice da d.queue.length dc) ∧ X.cell? ⟨w.heap.size, 2, none⟩ = some (.int .i64 d.quota) ∧ X.cell? ⟨w.heap.size, 3, none⟩ = some (.int .i64 d.fuse) ∧ X.cell? ⟨w.heap.size, 4, none⟩ = some (.bool true)) from fun X hX => by have h := HC1.out X hX; rw [hdd] at h; exact h)
    have HGB := Lib.hid (show ∀ X, Gr W1 X → Calls Try.prog 6 #[.agg #[.slice fa d.files.length fc, .slice da d.queue.length dc, .int .i64 d.quota, .int .i64 d.fuse, .bool true]] X fun e w' => e = .returned (.bool false) ∧ Gr X w' from fun X hX => by have h := HGM.out X hX; rw [hdd] at h; exact h)
    have HRM2 := Lib.hid (show ∀ X, Gr W1 X → Calls Try.prog 7 #[.agg #[.slice fa d.files.length fc, .slice da d.queue.length dc, .int .i64 d.quota, .int .i64 d.fuse, .bool true]] X fun e w' => e = .returned (.bool true) ∧ Gr X w' from fun X hX => by have h := HRM.out X hX; rw [hdd] at h; exact h)
    have HDD := Lib.hid hdd
    clear hdd
    go_wp2_with fail
    refine wp_region_qw (fun X => Gr W1 X ∧ X.cell? ⟨w.heap.size, 0, none⟩ = some (.slice fa d.files.length fc) ∧ X.cell? ⟨w.heap.size, 1, none⟩ = some (.slice da d.queue.length dc) ∧ X.cell? ⟨w.heap.size, 2, none⟩ = some (.int .i64 d.quota) ∧ X.cell? ⟨w.heap.size, 3, none⟩ = some (.int .i64 d.fuse) ∧ X.cell? ⟨w.heap.size, 4, none⟩ = some (.bool true)) (by kernel_rfl) (by kernel_rfl) (HCB.out _ (Gr.refl W1).drew) ?_
    iterate 12
      refine qw_takeE (by kernel_rfl) ?_
      apply Exists.intro
      refine ⟨?_, ?_⟩
      · rintro X ⟨hg, e0, e1, e2, e3, e4⟩
        first
        | (go_simp; done)
        | (go_simp; with_reducible rfl)
        | (go_simp; go_at_call 6; refine (HGB.out _ hg).mono ?_; rintro e y1 ⟨rfl, hgy⟩; refine ⟨?_, HCB.out _ (hg.trans hgy)⟩; with_reducible rfl)
        | (go_simp; go_at_call 7; refine (HRM2.out _ hg).mono ?_; rintro e y1 ⟨rfl, hgy⟩; refine ⟨?_, HCB.out _ (hg.trans hgy)⟩; with_reducible rfl)
      simp only [Act.put, List.setIfInBounds_toArray, List.set_cons_zero, List.set_cons_succ]
    iterate 3
      refine qw_skip (by kernel_rfl) ?_
      simp only [Act.put, List.setIfInBounds_toArray, List.set_cons_zero, List.set_cons_succ]
    iterate 2
      refine qw_takeE (by kernel_rfl) ?_
      apply Exists.intro
      refine ⟨?_, ?_⟩
      · rintro X ⟨hg, e0, e1, e2, e3, e4⟩
        first
        | (go_simp; done)
        | (go_simp; with_reducible rfl)
        | (go_simp; go_at_call 6; refine (HGB.out _ hg).mono ?_; rintro e y1 ⟨rfl, hgy⟩; refine ⟨?_, HCB.out _ (hg.trans hgy)⟩; with_reducible rfl)
        | (go_simp; go_at_call 7; refine (HRM2.out _ hg).mono ?_; rintro e y1 ⟨rfl, hgy⟩; refine ⟨?_, HCB.out _ (hg.trans hgy)⟩; with_reducible rfl)
      simp only [Act.put, List.setIfInBounds_toArray, List.set_cons_zero, List.set_cons_succ]
    iterate 2
      refine qw_skip (by kernel_rfl) ?_
      simp only [Act.put, List.setIfInBounds_toArray, List.set_cons_zero, List.set_cons_succ]
    iterate 2
      refine qw_takeE (by kernel_rfl) ?_
      apply Exists.intro
      refine ⟨?_, ?_⟩
      · rintro X ⟨hg, e0, e1, e2, e3, e4⟩
        first
        | (go_simp; done)
        | (go_simp; with_reducible rfl)
        | (go_simp; go_at_call 6; refine (HGB.out _ hg).mono ?_; rintro e y1 ⟨rfl, hgy⟩; refine ⟨?_, HCB.out _ (hg.trans hgy)⟩; with_reducible rfl)
        | (go_simp; go_at_call 7; refine (HRM2.out _ hg).mono ?_; rintro e y1 ⟨rfl, hgy⟩; refine ⟨?_, HCB.out _ (hg.trans hgy)⟩; with_reducible rfl)
      simp only [Act.put, List.setIfInBounds_toArray, List.set_cons_zero, List.set_cons_succ]
    iterate 2
      refine qw_skip (by kernel_rfl) ?_
      simp only [Act.put, List.setIfInBounds_toArray, List.set_cons_zero, List.set_cons_succ]
    iterate 2
      refine qw_takeE (by kernel_rfl) ?_
      apply Exists.intro
      refine ⟨?_, ?_⟩
      · rintro X ⟨hg, e0, e1, e2, e3, e4⟩
        first
        | (go_simp; done)
        | (go_simp; with_reducible rfl)
        | (go_simp; go_at_call 6; refine (HGB.out _ hg).mono ?_; rintro e y1 ⟨rfl, hgy⟩; refine ⟨?_, HCB.out _ (hg.trans hgy)⟩; with_reducible rfl)
        | (go_simp; go_at_call 7; refine (HRM2.out _ hg).mono ?_; rintro e y1 ⟨rfl, hgy⟩; refine ⟨?_, HCB.out _ (hg.trans hgy)⟩; with_reducible rfl)
      simp only [Act.put, List.setIfInBounds_toArray, List.set_cons_zero, List.set_cons_succ]
    iterate 3
      refine qw_skip (by kernel_rfl) ?_
      simp only [Act.put, List.setIfInBounds_toArray, List.set_cons_zero, List.set_cons_succ]
    iterate 2
      refine qw_takeE (by kernel_rfl) ?_
      apply Exists.intro
      refine ⟨?_, ?_⟩
      · rintro X ⟨hg, e0, e1, e2, e3, e4⟩
        first
        | (go_simp; done)
        | (go_simp; with_reducible rfl)
        | (go_simp; go_at_call 6; refine (HGB.out _ hg).mono ?_; rintro e y1 ⟨rfl, hgy⟩; refine ⟨?_, HCB.out _ (hg.trans hgy)⟩; with_reducible rfl)
        | (go_simp; go_at_call 7; refine (HRM2.out _ hg).mono ?_; rintro e y1 ⟨rfl, hgy⟩; refine ⟨?_, HCB.out _ (hg.trans hgy)⟩; with_reducible rfl)
      simp only [Act.put, List.setIfInBounds_toArray, List.set_cons_zero, List.set_cons_succ]
    iterate 3
      refine qw_skip (by kernel_rfl) ?_
      simp only [Act.put, List.setIfInBounds_toArray, List.set_cons_zero, List.set_cons_succ]
    iterate 2
      refine qw_takeE (by kernel_rfl) ?_
      apply Exists.intro
      refine ⟨?_, ?_⟩
      · rintro X ⟨hg, e0, e1, e2, e3, e4⟩
        first
        | (go_simp; done)
        | (go_simp; with_reducible rfl)
        | (go_simp; go_at_call 6; refine (HGB.out _ hg).mono ?_; rintro e y1 ⟨rfl, hgy⟩; refine ⟨?_, HCB.out _ (hg.trans hgy)⟩; with_reducible rfl)
        | (go_simp; go_at_call 7; refine (HRM2.out _ hg).mono ?_; rintro e y1 ⟨rfl, hgy⟩; refine ⟨?_, HCB.out _ (hg.trans hgy)⟩; with_reducible rfl)
      simp only [Act.put, List.setIfInBounds_toArray, List.set_cons_zero, List.set_cons_succ]
    iterate 4
      refine qw_skip (by kernel_rfl) ?_
      simp only [Act.put, List.setIfInBounds_toArray, List.set_cons_zero, List.set_cons_succ]
    iterate 2
      refine qw_takeE (by kernel_rfl) ?_
      apply Exists.intro
      refine ⟨?_, ?_⟩
      · rintro X ⟨hg, e0, e1, e2, e3, e4⟩
        first
        | (go_simp; done)
        | (go_simp; with_reducible rfl)
        | (go_simp; go_at_call 6; refine (HGB.out _ hg).mono ?_; rintro e y1 ⟨rfl, hgy⟩; refine ⟨?_, HCB.out _ (hg.trans hgy)⟩; with_reducible rfl)
        | (go_simp; go_at_call 7; refine (HRM2.out _ hg).mono ?_; rintro e y1 ⟨rfl, hgy⟩; refine ⟨?_, HCB.out _ (hg.trans hgy)⟩; with_reducible rfl)
      simp only [Act.put, List.setIfInBounds_toArray, List.set_cons_zero, List.set_cons_succ]
    iterate 6
      refine qw_skip (by kernel_rfl) ?_
      simp only [Act.put, List.setIfInBounds_toArray, List.set_cons_zero, List.set_cons_succ]
    refine qw_takeE (by kernel_rfl) ?_
    apply Exists.intro
    refine ⟨?_, ?_⟩
    · rintro X ⟨hg, e0, e1, e2, e3, e4⟩
      first
      | (go_simp; done)
      | (go_simp; with_reducible rfl)
      | (go_simp; go_at_call 6; refine (HGB.out _ hg).mono ?_; rintro e y1 ⟨rfl, hgy⟩; refine ⟨?_, HCB.out _ (hg.trans hgy)⟩; with_reducible rfl)
      | (go_simp; go_at_call 7; refine (HRM2.out _ hg).mono ?_; rintro e y1 ⟨rfl, hgy⟩; refine ⟨?_, HCB.out _ (hg.trans hgy)⟩; with_reducible rfl)
    simp only [Act.put, List.setIfInBounds_toArray, List.set_cons_zero, List.set_cons_succ]
    refine qw_nil ?_
    rintro X ⟨hg, -⟩
    have HGX := Lib.hid hg
    clear hg
    go_wp2_with (go_at_call 8; refine (HWA.out _).mono ?_; rintro e w3 ⟨rfl, hg3⟩)
    go_ret
    exact ⟨rfl, (HG.out.trans HGX.out).trans hg3⟩
  have HCB := Lib.hid (show ∀ X, Gr W1 X → (Gr W1 X ∧ X.cell? ⟨w.heap.size, 0, none⟩ = some (.slice fa d.files.length fc) ∧ X.cell? ⟨w.heap.size, 1, none⟩ = some (.slice da d.queue.length dc) ∧ X.cell? ⟨w.heap.size, 2, none⟩ = some (.int .i64 d.quota) ∧ X.cell? ⟨w.heap.size, 3, none⟩ = some (.int .i64 d.fuse) ∧ X.cell? ⟨w.heap.size, 4, none⟩ = some (.bool false)) from fun X hX => by have h := HC1.out X hX; rw [hdd] at h; exact h)
  have HGB := Lib.hid (show ∀ X, Gr W1 X → Calls Try.prog 6 #[.agg #[.slice fa d.files.length fc, .slice da d.queue.length dc, .int .i64 d.quota, .int .i64 d.fuse, .bool false]] X fun e w' => e = .returned (.bool false) ∧ Gr X w' from fun X hX => by have h := HGM.out X hX; rw [hdd] at h; exact h)
  have HRM2 := Lib.hid (show ∀ X, Gr W1 X → Calls Try.prog 7 #[.agg #[.slice fa d.files.length fc, .slice da d.queue.length dc, .int .i64 d.quota, .int .i64 d.fuse, .bool false]] X fun e w' => e = .returned (.bool true) ∧ Gr X w' from fun X hX => by have h := HRM.out X hX; rw [hdd] at h; exact h)
  have HDD := Lib.hid hdd
  clear hdd
  have hfu : decide (0 < d.fuse) = true ∨ decide (0 < d.fuse) = false := by cases decide (0 < d.fuse) <;> simp
  rcases hfu with hfu | hfu
  ·
    go_wp2_with fail
    refine wp_region_qw (fun X => Gr W1 X ∧ X.cell? ⟨w.heap.size, 0, none⟩ = some (.slice fa d.files.length fc) ∧ X.cell? ⟨w.heap.size, 1, none⟩ = some (.slice da d.queue.length dc) ∧ X.cell? ⟨w.heap.size, 2, none⟩ = some (.int .i64 d.quota) ∧ X.cell? ⟨w.heap.size, 3, none⟩ = some (.int .i64 d.fuse) ∧ X.cell? ⟨w.heap.size, 4, none⟩ = some (.bool false)) (by kernel_rfl) (by kernel_rfl) (HCB.out _ (Gr.refl W1).drew) ?_
    iterate 17
      refine qw_takeE (by kernel_rfl) ?_
      apply Exists.intro
      refine ⟨?_, ?_⟩
      · rintro X ⟨hg, e0, e1, e2, e3, e4⟩
        first
        | (go_simp; done)
        | (go_simp; with_reducible rfl)
        | (go_simp; go_at_call 6; refine (HGB.out _ hg).mono ?_; rintro e y1 ⟨rfl, hgy⟩; refine ⟨?_, HCB.out _ (hg.trans hgy)⟩; with_reducible rfl)
        | (go_simp; go_at_call 7; refine (HRM2.out _ hg).mono ?_; rintro e y1 ⟨rfl, hgy⟩; refine ⟨?_, HCB.out _ (hg.trans hgy)⟩; with_reducible rfl)
      simp only [Act.put, List.setIfInBounds_toArray, List.set_cons_zero, List.set_cons_succ]
    iterate 2
      refine qw_skip (by kernel_rfl) ?_
      simp only [Act.put, List.setIfInBounds_toArray, List.set_cons_zero, List.set_cons_succ]
    iterate 2
      refine qw_takeE (by kernel_rfl) ?_
      apply Exists.intro
      refine ⟨?_, ?_⟩
      · rintro X ⟨hg, e0, e1, e2, e3, e4⟩
        first
        | (go_simp; done)
        | (go_simp; with_reducible rfl)
        | (go_simp; go_at_call 6; refine (HGB.out _ hg).mono ?_; rintro e y1 ⟨rfl, hgy⟩; refine ⟨?_, HCB.out _ (hg.trans hgy)⟩; with_reducible rfl)
        | (go_simp; go_at_call 7; refine (HRM2.out _ hg).mono ?_; rintro e y1 ⟨rfl, hgy⟩; refine ⟨?_, HCB.out _ (hg.trans hgy)⟩; with_reducible rfl)
      simp only [Act.put, List.setIfInBounds_toArray, List.set_cons_zero, List.set_cons_succ]
    iterate 2
      refine qw_skip (by kernel_rfl) ?_
      simp only [Act.put, List.setIfInBounds_toArray, List.set_cons_zero, List.set_cons_succ]
    iterate 2
      refine qw_takeE (by kernel_rfl) ?_
      apply Exists.intro
      refine ⟨?_, ?_⟩
      · rintro X ⟨hg, e0, e1, e2, e3, e4⟩
        first
        | (go_simp; done)
        | (go_simp; with_reducible rfl)
        | (go_simp; go_at_call 6; refine (HGB.out _ hg).mono ?_; rintro e y1 ⟨rfl, hgy⟩; refine ⟨?_, HCB.out _ (hg.trans hgy)⟩; with_reducible rfl)
        | (go_simp; go_at_call 7; refine (HRM2.out _ hg).mono ?_; rintro e y1 ⟨rfl, hgy⟩; refine ⟨?_, HCB.out _ (hg.trans hgy)⟩; with_reducible rfl)
      simp only [Act.put, List.setIfInBounds_toArray, List.set_cons_zero, List.set_cons_succ]
    iterate 3
      refine qw_skip (by kernel_rfl) ?_
      simp only [Act.put, List.setIfInBounds_toArray, List.set_cons_zero, List.set_cons_succ]
    iterate 2
      refine qw_takeE (by kernel_rfl) ?_
      apply Exists.intro
      refine ⟨?_, ?_⟩
      · rintro X ⟨hg, e0, e1, e2, e3, e4⟩
        first
        | (go_simp; done)
        | (go_simp; with_reducible rfl)
        | (go_simp; go_at_call 6; refine (HGB.out _ hg).mono ?_; rintro e y1 ⟨rfl, hgy⟩; refine ⟨?_, HCB.out _ (hg.trans hgy)⟩; with_reducible rfl)
        | (go_simp; go_at_call 7; refine (HRM2.out _ hg).mono ?_; rintro e y1 ⟨rfl, hgy⟩; refine ⟨?_, HCB.out _ (hg.trans hgy)⟩; with_reducible rfl)
      simp only [Act.put, List.setIfInBounds_toArray, List.set_cons_zero, List.set_cons_succ]
    iterate 3
      refine qw_skip (by kernel_rfl) ?_
      simp only [Act.put, List.setIfInBounds_toArray, List.set_cons_zero, List.set_cons_succ]
    iterate 2
      refine qw_takeE (by kernel_rfl) ?_
      apply Exists.intro
      refine ⟨?_, ?_⟩
      · rintro X ⟨hg, e0, e1, e2, e3, e4⟩
        first
        | (go_simp; done)
        | (go_simp; with_reducible rfl)
        | (go_simp; go_at_call 6; refine (HGB.out _ hg).mono ?_; rintro e y1 ⟨rfl, hgy⟩; refine ⟨?_, HCB.out _ (hg.trans hgy)⟩; with_reducible rfl)
        | (go_simp; go_at_call 7; refine (HRM2.out _ hg).mono ?_; rintro e y1 ⟨rfl, hgy⟩; refine ⟨?_, HCB.out _ (hg.trans hgy)⟩; with_reducible rfl)
      simp only [Act.put, List.setIfInBounds_toArray, List.set_cons_zero, List.set_cons_succ]
    iterate 4
      refine qw_skip (by kernel_rfl) ?_
      simp only [Act.put, List.setIfInBounds_toArray, List.set_cons_zero, List.set_cons_succ]
    iterate 2
      refine qw_takeE (by kernel_rfl) ?_
      apply Exists.intro
      refine ⟨?_, ?_⟩
      · rintro X ⟨hg, e0, e1, e2, e3, e4⟩
        first
        | (go_simp; done)
        | (go_simp; with_reducible rfl)
        | (go_simp; go_at_call 6; refine (HGB.out _ hg).mono ?_; rintro e y1 ⟨rfl, hgy⟩; refine ⟨?_, HCB.out _ (hg.trans hgy)⟩; with_reducible rfl)
        | (go_simp; go_at_call 7; refine (HRM2.out _ hg).mono ?_; rintro e y1 ⟨rfl, hgy⟩; refine ⟨?_, HCB.out _ (hg.trans hgy)⟩; with_reducible rfl)
      simp only [Act.put, List.setIfInBounds_toArray, List.set_cons_zero, List.set_cons_succ]
    iterate 6
      refine qw_skip (by kernel_rfl) ?_
      simp only [Act.put, List.setIfInBounds_toArray, List.set_cons_zero, List.set_cons_succ]
    refine qw_takeE (by kernel_rfl) ?_
    apply Exists.intro
    refine ⟨?_, ?_⟩
    · rintro X ⟨hg, e0, e1, e2, e3, e4⟩
      first
      | (go_simp; done)
      | (go_simp; with_reducible rfl)
      | (go_simp; go_at_call 6; refine (HGB.out _ hg).mono ?_; rintro e y1 ⟨rfl, hgy⟩; refine ⟨?_, HCB.out _ (hg.trans hgy)⟩; with_reducible rfl)
      | (go_simp; go_at_call 7; refine (HRM2.out _ hg).mono ?_; rintro e y1 ⟨rfl, hgy⟩; refine ⟨?_, HCB.out _ (hg.trans hgy)⟩; with_reducible rfl)
    simp only [Act.put, List.setIfInBounds_toArray, List.set_cons_zero, List.set_cons_succ]
    refine qw_nil ?_
    rintro X ⟨hg, -⟩
    have HGX := Lib.hid hg
    clear hg
    go_wp2_with (go_at_call 8; refine (HWA.out _).mono ?_; rintro e w3 ⟨rfl, hg3⟩)
    go_ret
    exact ⟨rfl, (HG.out.trans HGX.out).trans hg3⟩
  have hea : eqB a [] = true ∨ eqB a [] = false := by cases eqB a [] <;> simp
  rcases hea with hea | hea
  ·
    go_wp2_with fail
    refine wp_region_qw (fun X => Gr W1 X ∧ X.cell? ⟨w.heap.size, 0, none⟩ = some (.slice fa d.files.length fc) ∧ X.cell? ⟨w.heap.size, 1, none⟩ = some (.slice da d.queue.length dc) ∧ X.cell? ⟨w.heap.size, 2, none⟩ = some (.int .i64 d.quota) ∧ X.cell? ⟨w.heap.size, 3, none⟩ = some (.int .i64 d.fuse) ∧ X.cell? ⟨w.heap.size, 4, none⟩ = some (.bool false)) (by kernel_rfl) (by kernel_rfl) (HCB.out _ (Gr.refl W1).drew) ?_
    iterate 21
      refine qw_takeE (by kernel_rfl) ?_
      apply Exists.intro
      refine ⟨?_, ?_⟩
      · rintro X ⟨hg, e0, e1, e2, e3, e4⟩
        first
        | (go_simp; done)
        | (go_simp; with_reducible rfl)
        | (go_simp; go_at_call 6; refine (HGB.out _ hg).mono ?_; rintro e y1 ⟨rfl, hgy⟩; refine ⟨?_, HCB.out _ (hg.trans hgy)⟩; with_reducible rfl)
        | (go_simp; go_at_call 7; refine (HRM2.out _ hg).mono ?_; rintro e y1 ⟨rfl, hgy⟩; refine ⟨?_, HCB.out _ (hg.trans hgy)⟩; with_reducible rfl)
      simp only [Act.put, List.setIfInBounds_toArray, List.set_cons_zero, List.set_cons_succ]
    iterate 2
      refine qw_skip (by kernel_rfl) ?_
      simp only [Act.put, List.setIfInBounds_toArray, List.set_cons_zero, List.set_cons_succ]
    iterate 2
      refine qw_takeE (by kernel_rfl) ?_
      apply Exists.intro
      refine ⟨?_, ?_⟩
      · rintro X ⟨hg, e0, e1, e2, e3, e4⟩
        first
        | (go_simp; done)
        | (go_simp; with_reducible rfl)
        | (go_simp; go_at_call 6; refine (HGB.out _ hg).mono ?_; rintro e y1 ⟨rfl, hgy⟩; refine ⟨?_, HCB.out _ (hg.trans hgy)⟩; with_reducible rfl)
        | (go_simp; go_at_call 7; refine (HRM2.out _ hg).mono ?_; rintro e y1 ⟨rfl, hgy⟩; refine ⟨?_, HCB.out _ (hg.trans hgy)⟩; with_reducible rfl)
      simp only [Act.put, List.setIfInBounds_toArray, List.set_cons_zero, List.set_cons_succ]
    iterate 3
      refine qw_skip (by kernel_rfl) ?_
      simp only [Act.put, List.setIfInBounds_toArray, List.set_cons_zero, List.set_cons_succ]
    iterate 2
      refine qw_takeE (by kernel_rfl) ?_
      apply Exists.intro
      refine ⟨?_, ?_⟩
      · rintro X ⟨hg, e0, e1, e2, e3, e4⟩
        first
        | (go_simp; done)
        | (go_simp; with_reducible rfl)
        | (go_simp; go_at_call 6; refine (HGB.out _ hg).mono ?_; rintro e y1 ⟨rfl, hgy⟩; refine ⟨?_, HCB.out _ (hg.trans hgy)⟩; with_reducible rfl)
        | (go_simp; go_at_call 7; refine (HRM2.out _ hg).mono ?_; rintro e y1 ⟨rfl, hgy⟩; refine ⟨?_, HCB.out _ (hg.trans hgy)⟩; with_reducible rfl)
      simp only [Act.put, List.setIfInBounds_toArray, List.set_cons_zero, List.set_cons_succ]
    iterate 3
      refine qw_skip (by kernel_rfl) ?_
      simp only [Act.put, List.setIfInBounds_toArray, List.set_cons_zero, List.set_cons_succ]
    iterate 2
      refine qw_takeE (by kernel_rfl) ?_
      apply Exists.intro
      refine ⟨?_, ?_⟩
      · rintro X ⟨hg, e0, e1, e2, e3, e4⟩
        first
        | (go_simp; done)
        | (go_simp; with_reducible rfl)
        | (go_simp; go_at_call 6; refine (HGB.out _ hg).mono ?_; rintro e y1 ⟨rfl, hgy⟩; refine ⟨?_, HCB.out _ (hg.trans hgy)⟩; with_reducible rfl)
        | (go_simp; go_at_call 7; refine (HRM2.out _ hg).mono ?_; rintro e y1 ⟨rfl, hgy⟩; refine ⟨?_, HCB.out _ (hg.trans hgy)⟩; with_reducible rfl)
      simp only [Act.put, List.setIfInBounds_toArray, List.set_cons_zero, List.set_cons_succ]
    iterate 4
      refine qw_skip (by kernel_rfl) ?_
      simp only [Act.put, List.setIfInBounds_toArray, List.set_cons_zero, List.set_cons_succ]
    iterate 2
      refine qw_takeE (by kernel_rfl) ?_
      apply Exists.intro
      refine ⟨?_, ?_⟩
      · rintro X ⟨hg, e0, e1, e2, e3, e4⟩
        first
        | (go_simp; done)
        | (go_simp; with_reducible rfl)
        | (go_simp; go_at_call 6; refine (HGB.out _ hg).mono ?_; rintro e y1 ⟨rfl, hgy⟩; refine ⟨?_, HCB.out _ (hg.trans hgy)⟩; with_reducible rfl)
        | (go_simp; go_at_call 7; refine (HRM2.out _ hg).mono ?_; rintro e y1 ⟨rfl, hgy⟩; refine ⟨?_, HCB.out _ (hg.trans hgy)⟩; with_reducible rfl)
      simp only [Act.put, List.setIfInBounds_toArray, List.set_cons_zero, List.set_cons_succ]
    iterate 6
      refine qw_skip (by kernel_rfl) ?_
      simp only [Act.put, List.setIfInBounds_toArray, List.set_cons_zero, List.set_cons_succ]
    refine qw_takeE (by kernel_rfl) ?_
    apply Exists.intro
    refine ⟨?_, ?_⟩
    · rintro X ⟨hg, e0, e1, e2, e3, e4⟩
      first
      | (go_simp; done)
      | (go_simp; with_reducible rfl)
      | (go_simp; go_at_call 6; refine (HGB.out _ hg).mono ?_; rintro e y1 ⟨rfl, hgy⟩; refine ⟨?_, HCB.out _ (hg.trans hgy)⟩; with_reducible rfl)
      | (go_simp; go_at_call 7; refine (HRM2.out _ hg).mono ?_; rintro e y1 ⟨rfl, hgy⟩; refine ⟨?_, HCB.out _ (hg.trans hgy)⟩; with_reducible rfl)
    simp only [Act.put, List.setIfInBounds_toArray, List.set_cons_zero, List.set_cons_succ]
    refine qw_nil ?_
    rintro X ⟨hg, -⟩
    have HGX := Lib.hid hg
    clear hg
    go_wp2_with (go_at_call 8; refine (HWA.out _).mono ?_; rintro e w3 ⟨rfl, hg3⟩)
    go_ret
    exact ⟨rfl, (HG.out.trans HGX.out).trans hg3⟩
  have heb : eqB b [] = true ∨ eqB b [] = false := by cases eqB b [] <;> simp
  rcases heb with heb | heb
  ·
    go_wp2_with fail
    refine wp_region_qw (fun X => Gr W1 X ∧ X.cell? ⟨w.heap.size, 0, none⟩ = some (.slice fa d.files.length fc) ∧ X.cell? ⟨w.heap.size, 1, none⟩ = some (.slice da d.queue.length dc) ∧ X.cell? ⟨w.heap.size, 2, none⟩ = some (.int .i64 d.quota) ∧ X.cell? ⟨w.heap.size, 3, none⟩ = some (.int .i64 d.fuse) ∧ X.cell? ⟨w.heap.size, 4, none⟩ = some (.bool false)) (by kernel_rfl) (by kernel_rfl) (HCB.out _ (Gr.refl W1).drew) ?_
    iterate 25
      refine qw_takeE (by kernel_rfl) ?_
      apply Exists.intro
      refine ⟨?_, ?_⟩
      · rintro X ⟨hg, e0, e1, e2, e3, e4⟩
        first
        | (go_simp; done)
        | (go_simp; with_reducible rfl)
        | (go_simp; go_at_call 6; refine (HGB.out _ hg).mono ?_; rintro e y1 ⟨rfl, hgy⟩; refine ⟨?_, HCB.out _ (hg.trans hgy)⟩; with_reducible rfl)
        | (go_simp; go_at_call 7; refine (HRM2.out _ hg).mono ?_; rintro e y1 ⟨rfl, hgy⟩; refine ⟨?_, HCB.out _ (hg.trans hgy)⟩; with_reducible rfl)
      simp only [Act.put, List.setIfInBounds_toArray, List.set_cons_zero, List.set_cons_succ]
    iterate 3
      refine qw_skip (by kernel_rfl) ?_
      simp only [Act.put, List.setIfInBounds_toArray, List.set_cons_zero, List.set_cons_succ]
    iterate 2
      refine qw_takeE (by kernel_rfl) ?_
      apply Exists.intro
      refine ⟨?_, ?_⟩
      · rintro X ⟨hg, e0, e1, e2, e3, e4⟩
        first
        | (go_simp; done)
        | (go_simp; with_reducible rfl)
        | (go_simp; go_at_call 6; refine (HGB.out _ hg).mono ?_; rintro e y1 ⟨rfl, hgy⟩; refine ⟨?_, HCB.out _ (hg.trans hgy)⟩; with_reducible rfl)
        | (go_simp; go_at_call 7; refine (HRM2.out _ hg).mono ?_; rintro e y1 ⟨rfl, hgy⟩; refine ⟨?_, HCB.out _ (hg.trans hgy)⟩; with_reducible rfl)
      simp only [Act.put, List.setIfInBounds_toArray, List.set_cons_zero, List.set_cons_succ]
    iterate 3
      refine qw_skip (by kernel_rfl) ?_
      simp only [Act.put, List.setIfInBounds_toArray, List.set_cons_zero, List.set_cons_succ]
    iterate 2
      refine qw_takeE (by kernel_rfl) ?_
      apply Exists.intro
      refine ⟨?_, ?_⟩
      · rintro X ⟨hg, e0, e1, e2, e3, e4⟩
        first
        | (go_simp; done)
        | (go_simp; with_reducible rfl)
        | (go_simp; go_at_call 6; refine (HGB.out _ hg).mono ?_; rintro e y1 ⟨rfl, hgy⟩; refine ⟨?_, HCB.out _ (hg.trans hgy)⟩; with_reducible rfl)
        | (go_simp; go_at_call 7; refine (HRM2.out _ hg).mono ?_; rintro e y1 ⟨rfl, hgy⟩; refine ⟨?_, HCB.out _ (hg.trans hgy)⟩; with_reducible rfl)
      simp only [Act.put, List.setIfInBounds_toArray, List.set_cons_zero, List.set_cons_succ]
    iterate 4
      refine qw_skip (by kernel_rfl) ?_
      simp only [Act.put, List.setIfInBounds_toArray, List.set_cons_zero, List.set_cons_succ]
    iterate 2
      refine qw_takeE (by kernel_rfl) ?_
      apply Exists.intro
      refine ⟨?_, ?_⟩
      · rintro X ⟨hg, e0, e1, e2, e3, e4⟩
        first
        | (go_simp; done)
        | (go_simp; with_reducible rfl)
        | (go_simp; go_at_call 6; refine (HGB.out _ hg).mono ?_; rintro e y1 ⟨rfl, hgy⟩; refine ⟨?_, HCB.out _ (hg.trans hgy)⟩; with_reducible rfl)
        | (go_simp; go_at_call 7; refine (HRM2.out _ hg).mono ?_; rintro e y1 ⟨rfl, hgy⟩; refine ⟨?_, HCB.out _ (hg.trans hgy)⟩; with_reducible rfl)
      simp only [Act.put, List.setIfInBounds_toArray, List.set_cons_zero, List.set_cons_succ]
    iterate 6
      refine qw_skip (by kernel_rfl) ?_
      simp only [Act.put, List.setIfInBounds_toArray, List.set_cons_zero, List.set_cons_succ]
    refine qw_takeE (by kernel_rfl) ?_
    apply Exists.intro
    refine ⟨?_, ?_⟩
    · rintro X ⟨hg, e0, e1, e2, e3, e4⟩
      first
      | (go_simp; done)
      | (go_simp; with_reducible rfl)
      | (go_simp; go_at_call 6; refine (HGB.out _ hg).mono ?_; rintro e y1 ⟨rfl, hgy⟩; refine ⟨?_, HCB.out _ (hg.trans hgy)⟩; with_reducible rfl)
      | (go_simp; go_at_call 7; refine (HRM2.out _ hg).mono ?_; rintro e y1 ⟨rfl, hgy⟩; refine ⟨?_, HCB.out _ (hg.trans hgy)⟩; with_reducible rfl)
    simp only [Act.put, List.setIfInBounds_toArray, List.set_cons_zero, List.set_cons_succ]
    refine qw_nil ?_
    rintro X ⟨hg, -⟩
    have HGX := Lib.hid hg
    clear hg
    go_wp2_with (go_at_call 8; refine (HWA.out _).mono ?_; rintro e w3 ⟨rfl, hg3⟩)
    go_ret
    exact ⟨rfl, (HG.out.trans HGX.out).trans hg3⟩
  have hab : eqB a b = true ∨ eqB a b = false := by cases eqB a b <;> simp
  rcases hab with hab | hab
  ·
    go_wp2_with fail
    refine wp_region_qw (fun X => Gr W1 X ∧ X.cell? ⟨w.heap.size, 0, none⟩ = some (.slice fa d.files.length fc) ∧ X.cell? ⟨w.heap.size, 1, none⟩ = some (.slice da d.queue.length dc) ∧ X.cell? ⟨w.heap.size, 2, none⟩ = some (.int .i64 d.quota) ∧ X.cell? ⟨w.heap.size, 3, none⟩ = some (.int .i64 d.fuse) ∧ X.cell? ⟨w.heap.size, 4, none⟩ = some (.bool false)) (by kernel_rfl) (by kernel_rfl) (HCB.out _ (Gr.refl W1).drew) ?_
    iterate 30
      refine qw_takeE (by kernel_rfl) ?_
      apply Exists.intro
      refine ⟨?_, ?_⟩
      · rintro X ⟨hg, e0, e1, e2, e3, e4⟩
        first
        | (go_simp; done)
        | (go_simp; with_reducible rfl)
        | (go_simp; go_at_call 6; refine (HGB.out _ hg).mono ?_; rintro e y1 ⟨rfl, hgy⟩; refine ⟨?_, HCB.out _ (hg.trans hgy)⟩; with_reducible rfl)
        | (go_simp; go_at_call 7; refine (HRM2.out _ hg).mono ?_; rintro e y1 ⟨rfl, hgy⟩; refine ⟨?_, HCB.out _ (hg.trans hgy)⟩; with_reducible rfl)
      simp only [Act.put, List.setIfInBounds_toArray, List.set_cons_zero, List.set_cons_succ]
    iterate 3
      refine qw_skip (by kernel_rfl) ?_
      simp only [Act.put, List.setIfInBounds_toArray, List.set_cons_zero, List.set_cons_succ]
    iterate 2
      refine qw_takeE (by kernel_rfl) ?_
      apply Exists.intro
      refine ⟨?_, ?_⟩
      · rintro X ⟨hg, e0, e1, e2, e3, e4⟩
        first
        | (go_simp; done)
        | (go_simp; with_reducible rfl)
        | (go_simp; go_at_call 6; refine (HGB.out _ hg).mono ?_; rintro e y1 ⟨rfl, hgy⟩; refine ⟨?_, HCB.out _ (hg.trans hgy)⟩; with_reducible rfl)
        | (go_simp; go_at_call 7; refine (HRM2.out _ hg).mono ?_; rintro e y1 ⟨rfl, hgy⟩; refine ⟨?_, HCB.out _ (hg.trans hgy)⟩; with_reducible rfl)
      simp only [Act.put, List.setIfInBounds_toArray, List.set_cons_zero, List.set_cons_succ]
    iterate 4
      refine qw_skip (by kernel_rfl) ?_
      simp only [Act.put, List.setIfInBounds_toArray, List.set_cons_zero, List.set_cons_succ]
    iterate 2
      refine qw_takeE (by kernel_rfl) ?_
      apply Exists.intro
      refine ⟨?_, ?_⟩
      · rintro X ⟨hg, e0, e1, e2, e3, e4⟩
        first
        | (go_simp; done)
        | (go_simp; with_reducible rfl)
        | (go_simp; go_at_call 6; refine (HGB.out _ hg).mono ?_; rintro e y1 ⟨rfl, hgy⟩; refine ⟨?_, HCB.out _ (hg.trans hgy)⟩; with_reducible rfl)
        | (go_simp; go_at_call 7; refine (HRM2.out _ hg).mono ?_; rintro e y1 ⟨rfl, hgy⟩; refine ⟨?_, HCB.out _ (hg.trans hgy)⟩; with_reducible rfl)
      simp only [Act.put, List.setIfInBounds_toArray, List.set_cons_zero, List.set_cons_succ]
    iterate 6
      refine qw_skip (by kernel_rfl) ?_
      simp only [Act.put, List.setIfInBounds_toArray, List.set_cons_zero, List.set_cons_succ]
    refine qw_takeE (by kernel_rfl) ?_
    apply Exists.intro
    refine ⟨?_, ?_⟩
    · rintro X ⟨hg, e0, e1, e2, e3, e4⟩
      first
      | (go_simp; done)
      | (go_simp; with_reducible rfl)
      | (go_simp; go_at_call 6; refine (HGB.out _ hg).mono ?_; rintro e y1 ⟨rfl, hgy⟩; refine ⟨?_, HCB.out _ (hg.trans hgy)⟩; with_reducible rfl)
      | (go_simp; go_at_call 7; refine (HRM2.out _ hg).mono ?_; rintro e y1 ⟨rfl, hgy⟩; refine ⟨?_, HCB.out _ (hg.trans hgy)⟩; with_reducible rfl)
    simp only [Act.put, List.setIfInBounds_toArray, List.set_cons_zero, List.set_cons_succ]
    refine qw_nil ?_
    rintro X ⟨hg, -⟩
    have HGX := Lib.hid hg
    clear hg
    go_wp2_with (go_at_call 8; refine (HWA.out _).mono ?_; rintro e w3 ⟨rfl, hg3⟩)
    go_ret
    exact ⟨rfl, (HG.out.trans HGX.out).trans hg3⟩
  by_cases hl : l.length ≤ 100
  rotate_left
  · have hl2 : decide ((100 : Int) < (l.length : Int)) = true := decide_eq_true (by omega)
    have hl3 : (100 : Int) < (l.length : Int) := by omega
    go_wp2_with fail
    refine wp_region_qw (fun X => Gr W1 X ∧ X.cell? ⟨w.heap.size, 0, none⟩ = some (.slice fa d.files.length fc) ∧ X.cell? ⟨w.heap.size, 1, none⟩ = some (.slice da d.queue.length dc) ∧ X.cell? ⟨w.heap.size, 2, none⟩ = some (.int .i64 d.quota) ∧ X.cell? ⟨w.heap.size, 3, none⟩ = some (.int .i64 d.fuse) ∧ X.cell? ⟨w.heap.size, 4, none⟩ = some (.bool false)) (by kernel_rfl) (by kernel_rfl) (HCB.out _ (Gr.refl W1).drew) ?_
    iterate 35
      refine qw_takeE (by kernel_rfl) ?_
      apply Exists.intro
      refine ⟨?_, ?_⟩
      · rintro X ⟨hg, e0, e1, e2, e3, e4⟩
        first
        | (go_simp; done)
        | (go_simp; with_reducible rfl)
        | (go_simp; go_at_call 6; refine (HGB.out _ hg).mono ?_; rintro e y1 ⟨rfl, hgy⟩; refine ⟨?_, HCB.out _ (hg.trans hgy)⟩; with_reducible rfl)
        | (go_simp; go_at_call 7; refine (HRM2.out _ hg).mono ?_; rintro e y1 ⟨rfl, hgy⟩; refine ⟨?_, HCB.out _ (hg.trans hgy)⟩; with_reducible rfl)
      simp only [Act.put, List.setIfInBounds_toArray, List.set_cons_zero, List.set_cons_succ]
    iterate 4
      refine qw_skip (by kernel_rfl) ?_
      simp only [Act.put, List.setIfInBounds_toArray, List.set_cons_zero, List.set_cons_succ]
    iterate 2
      refine qw_takeE (by kernel_rfl) ?_
      apply Exists.intro
      refine ⟨?_, ?_⟩
      · rintro X ⟨hg, e0, e1, e2, e3, e4⟩
        first
        | (go_simp; done)
        | (go_simp; with_reducible rfl)
        | (go_simp; go_at_call 6; refine (HGB.out _ hg).mono ?_; rintro e y1 ⟨rfl, hgy⟩; refine ⟨?_, HCB.out _ (hg.trans hgy)⟩; with_reducible rfl)
        | (go_simp; go_at_call 7; refine (HRM2.out _ hg).mono ?_; rintro e y1 ⟨rfl, hgy⟩; refine ⟨?_, HCB.out _ (hg.trans hgy)⟩; with_reducible rfl)
      simp only [Act.put, List.setIfInBounds_toArray, List.set_cons_zero, List.set_cons_succ]
    iterate 6
      refine qw_skip (by kernel_rfl) ?_
      simp only [Act.put, List.setIfInBounds_toArray, List.set_cons_zero, List.set_cons_succ]
    refine qw_takeE (by kernel_rfl) ?_
    apply Exists.intro
    refine ⟨?_, ?_⟩
    · rintro X ⟨hg, e0, e1, e2, e3, e4⟩
      first
      | (go_simp; done)
      | (go_simp; with_reducible rfl)
      | (go_simp; go_at_call 6; refine (HGB.out _ hg).mono ?_; rintro e y1 ⟨rfl, hgy⟩; refine ⟨?_, HCB.out _ (hg.trans hgy)⟩; with_reducible rfl)
      | (go_simp; go_at_call 7; refine (HRM2.out _ hg).mono ?_; rintro e y1 ⟨rfl, hgy⟩; refine ⟨?_, HCB.out _ (hg.trans hgy)⟩; with_reducible rfl)
    simp only [Act.put, List.setIfInBounds_toArray, List.set_cons_zero, List.set_cons_succ]
    refine qw_nil ?_
    rintro X ⟨hg, -⟩
    have HGX := Lib.hid hg
    clear hg
    go_wp2_with (go_at_call 8; refine (HWA.out _).mono ?_; rintro e w3 ⟨rfl, hg3⟩)
    go_ret
    exact ⟨rfl, (HG.out.trans HGX.out).trans hg3⟩
  have hl2 : decide ((100 : Int) < (l.length : Int)) = false := decide_eq_false (by omega)
  by_cases hq : d.queue.length ≤ 40
  rotate_left
  · have hq2 : decide ((40 : Int) < (d.queue.length : Int)) = true := decide_eq_true (by omega)
    have hq3 : (40 : Int) < (d.queue.length : Int) := by omega
    go_wp2_with fail
    refine wp_region_qw (fun X => Gr W1 X ∧ X.cell? ⟨w.heap.size, 0, none⟩ = some (.slice fa d.files.length fc) ∧ X.cell? ⟨w.heap.size, 1, none⟩ = some (.slice da d.queue.length dc) ∧ X.cell? ⟨w.heap.size, 2, none⟩ = some (.int .i64 d.quota) ∧ X.cell? ⟨w.heap.size, 3, none⟩ = some (.int .i64 d.fuse) ∧ X.cell? ⟨w.heap.size, 4, none⟩ = some (.bool false)) (by kernel_rfl) (by kernel_rfl) (HCB.out _ (Gr.refl W1).drew) ?_
    iterate 41
      refine qw_takeE (by kernel_rfl) ?_
      apply Exists.intro
      refine ⟨?_, ?_⟩
      · rintro X ⟨hg, e0, e1, e2, e3, e4⟩
        first
        | (go_simp; done)
        | (go_simp; with_reducible rfl)
        | (go_simp; go_at_call 6; refine (HGB.out _ hg).mono ?_; rintro e y1 ⟨rfl, hgy⟩; refine ⟨?_, HCB.out _ (hg.trans hgy)⟩; with_reducible rfl)
        | (go_simp; go_at_call 7; refine (HRM2.out _ hg).mono ?_; rintro e y1 ⟨rfl, hgy⟩; refine ⟨?_, HCB.out _ (hg.trans hgy)⟩; with_reducible rfl)
      simp only [Act.put, List.setIfInBounds_toArray, List.set_cons_zero, List.set_cons_succ]
    iterate 6
      refine qw_skip (by kernel_rfl) ?_
      simp only [Act.put, List.setIfInBounds_toArray, List.set_cons_zero, List.set_cons_succ]
    refine qw_takeE (by kernel_rfl) ?_
    apply Exists.intro
    refine ⟨?_, ?_⟩
    · rintro X ⟨hg, e0, e1, e2, e3, e4⟩
      first
      | (go_simp; done)
      | (go_simp; with_reducible rfl)
      | (go_simp; go_at_call 6; refine (HGB.out _ hg).mono ?_; rintro e y1 ⟨rfl, hgy⟩; refine ⟨?_, HCB.out _ (hg.trans hgy)⟩; with_reducible rfl)
      | (go_simp; go_at_call 7; refine (HRM2.out _ hg).mono ?_; rintro e y1 ⟨rfl, hgy⟩; refine ⟨?_, HCB.out _ (hg.trans hgy)⟩; with_reducible rfl)
    simp only [Act.put, List.setIfInBounds_toArray, List.set_cons_zero, List.set_cons_succ]
    refine qw_nil ?_
    rintro X ⟨hg, -⟩
    have HGX := Lib.hid hg
    clear hg
    go_wp2_with (go_at_call 8; refine (HWA.out _).mono ?_; rintro e w3 ⟨rfl, hg3⟩)
    go_ret
    exact ⟨rfl, (HG.out.trans HGX.out).trans hg3⟩
  have hq2 : decide ((40 : Int) < (d.queue.length : Int)) = false := decide_eq_false (by omega)
  have hun := HUN.out HFT.out
  have HUM := Lib.hid (show ∀ X, Gr W1 X → Calls Try.prog 16 #[.agg #[.slice fa d.files.length fc, .slice da d.queue.length dc, .int .i64 d.quota, .int .i64 d.fuse, .bool false]] X fun e w' => e = .returned (.int .i64 (usedN d)) ∧ Gr X w' from fun X hX => by have h := HUS.out X hX HFT.out; rw [HDD.out] at h; exact h)
  obtain ⟨un, hu⟩ : ∃ un, un = usedN d := ⟨_, rfl⟩
  have HUE := Lib.hid hu
  rw [← hu] at hun HUM
  clear hu
  have huw : IntKind.i64.wrap ((un : Int) + 100) = (un : Int) + 100 := by rw [IntKind.wrap_i64]; omega
  by_cases huq : (un : Int) + 100 ≤ d.quota
  rotate_left
  · have hu2 : decide (d.quota < (un : Int) + 100) = true := decide_eq_true (by omega)
    have hu3 : d.quota < (un : Int) + 100 := by omega
    go_wp2_with fail
    refine wp_region_qw (fun X => Gr W1 X ∧ X.cell? ⟨w.heap.size, 0, none⟩ = some (.slice fa d.files.length fc) ∧ X.cell? ⟨w.heap.size, 1, none⟩ = some (.slice da d.queue.length dc) ∧ X.cell? ⟨w.heap.size, 2, none⟩ = some (.int .i64 d.quota) ∧ X.cell? ⟨w.heap.size, 3, none⟩ = some (.int .i64 d.fuse) ∧ X.cell? ⟨w.heap.size, 4, none⟩ = some (.bool false)) (by kernel_rfl) (by kernel_rfl) (HCB.out _ (Gr.refl W1).drew) ?_
    iterate 48
      refine qw_takeE (by kernel_rfl) ?_
      apply Exists.intro
      refine ⟨?_, ?_⟩
      · rintro X ⟨hg, e0, e1, e2, e3, e4⟩
        first
        | (go_simp; done)
        | (go_simp; with_reducible rfl)
        | (go_simp; go_at_call 6; refine (HGB.out _ hg).mono ?_; rintro e y1 ⟨rfl, hgy⟩; refine ⟨?_, HCB.out _ (hg.trans hgy)⟩; with_reducible rfl)
        | (go_simp; go_at_call 7; refine (HRM2.out _ hg).mono ?_; rintro e y1 ⟨rfl, hgy⟩; refine ⟨?_, HCB.out _ (hg.trans hgy)⟩; with_reducible rfl)
        | (go_simp; go_at_call 16; refine (HUM.out _ hg).mono ?_; rintro e y1 ⟨rfl, hgy⟩; refine ⟨?_, HCB.out _ (hg.trans hgy)⟩; with_reducible rfl)
      simp only [Act.put, List.setIfInBounds_toArray, List.set_cons_zero, List.set_cons_succ]
    refine qw_nil ?_
    rintro X ⟨hg, -⟩
    have HGX := Lib.hid hg
    clear hg
    go_wp2_with (go_at_call 8; refine (HWA.out _).mono ?_; rintro e w3 ⟨rfl, hg3⟩)
    go_ret
    exact ⟨rfl, (HG.out.trans HGX.out).trans hg3⟩
  have hu2 : decide (d.quota < (un : Int) + 100) = false := decide_eq_false (by omega)
  go_wp2_with fail
  refine wp_region_qw (fun X => Gr W1 X ∧ X.cell? ⟨w.heap.size, 0, none⟩ = some (.slice fa d.files.length fc) ∧ X.cell? ⟨w.heap.size, 1, none⟩ = some (.slice da d.queue.length dc) ∧ X.cell? ⟨w.heap.size, 2, none⟩ = some (.int .i64 d.quota) ∧ X.cell? ⟨w.heap.size, 3, none⟩ = some (.int .i64 d.fuse) ∧ X.cell? ⟨w.heap.size, 4, none⟩ = some (.bool false)) (by kernel_rfl) (by kernel_rfl) (HCB.out _ (Gr.refl W1).drew) ?_
  iterate 48
    refine qw_takeE (by kernel_rfl) ?_
    apply Exists.intro
    refine ⟨?_, ?_⟩
    · rintro X ⟨hg, e0, e1, e2, e3, e4⟩
      first
      | (go_simp; done)
      | (go_simp; with_reducible rfl)
      | (go_simp; go_at_call 6; refine (HGB.out _ hg).mono ?_; rintro e y1 ⟨rfl, hgy⟩; refine ⟨?_, HCB.out _ (hg.trans hgy)⟩; with_reducible rfl)
      | (go_simp; go_at_call 7; refine (HRM2.out _ hg).mono ?_; rintro e y1 ⟨rfl, hgy⟩; refine ⟨?_, HCB.out _ (hg.trans hgy)⟩; with_reducible rfl)
      | (go_simp; go_at_call 16; refine (HUM.out _ hg).mono ?_; rintro e y1 ⟨rfl, hgy⟩; refine ⟨?_, HCB.out _ (hg.trans hgy)⟩; with_reducible rfl)
    simp only [Act.put, List.setIfInBounds_toArray, List.set_cons_zero, List.set_cons_succ]
  refine qw_nil ?_
  rintro X ⟨hg, -⟩
  have HGX := Lib.hid hg
  clear hg
  have hroom : Room d 40 100 := ⟨HRB.out, HDD.out, by have h1 := (HFN.out HRB.out).2.2.2; have h2 := of_decide_eq_false hfu; omega, hq, by rw [← HUE.out]; exact huq⟩
  have ha : a ≠ [] := fun h => by rw [eqB_iff.2 h] at hea; cases hea
  have hb : b ≠ [] := fun h => by rw [eqB_iff.2 h] at heb; cases heb
  have hne : a ≠ b := fun h => by rw [eqB_iff.2 h] at hab; cases hab
  have hcf := fit_cnt HFT.out
  obtain ⟨d1, d2, d3, d4, hnl⟩ := names_l hroom hcf.1 hcf.2 ha hb hne hl
  have HNL := Lib.hid hnl
  have HCF := Lib.hid (show cnt d ≤ 1000000 ∧ tot d ≤ 1000000000000 from by omega)
  have HLL := Lib.hid hl
  obtain ⟨Y0, hY0⟩ : ∃ Y0, Y0 = X := ⟨_, rfl⟩
  subst hY0
  have HST0 := Lib.hid (show (Y0.heap[w.heap.size]? = some (.cells #[.slice fa d.files.length fc, .slice da d.queue.length dc, .int .i64 d.quota, .int .i64 d.fuse, .bool d.dead] 25 (0, 0)) ∧ IsDsk (fun k => k ≠ w.heap.size) Y0 (dskV d (.slice fa d.files.length fc) (.slice da d.queue.length dc)) d ∧ Gr w Y0 ∧ w.heap.size < Y0.heap.size) from ⟨HGX.out.same HB.out, HD0.out.gr HGX.out, HG.out.trans HGX.out, Nat.lt_of_lt_of_le HZ1.out HGX.out.size⟩)
  clear hnl hroom ha hb hne hcf hl hl2 hq hq2 hun huw huq hu2 hfu hea heb hab HGM HRM HGB HRM2 HCB HDD HUM HUE HRB HFT HFN HUN HUS HRI HGN HGF HC1 HGX HB HD0 HZ1 HW
  go_upto_region 3 with fail
  go_cut [9] from 72 to 78 (fun e wx => e = .int .i64 0 ∧ ∃ (fa1 : Option Addr) (fc1 : Nat) (da1 : Option Addr) (dc1 : Nat), wx.heap[w.heap.size]? = some (.cells #[.slice fa1 d1.files.length fc1, .slice da1 d1.queue.length dc1, .int .i64 d1.quota, .int .i64 d1.fuse, .bool d1.dead] 25 (0, 0)) ∧ IsDsk (fun k => k ≠ w.heap.size) wx (dskV d1 (.slice fa1 d1.files.length fc1) (.slice da1 d1.queue.length dc1)) d1 ∧ Kp (fun k (_ : Obj) => k ≠ w.heap.size) Y0 wx ∧ Gr w wx)
  case first =>
    have hrow := HST0.out.1
    have e0 := cell_block hrow (j := 0) rfl
    have e1 := cell_block hrow (j := 1) rfl
    have e2 := cell_block hrow (j := 2) rfl
    have e3 := cell_block hrow (j := 3) rfl
    have e4 := cell_block hrow (j := 4) rfl
    have HC := Lib.hid (HDO.out Y0 _ (.slice none 0 0) d d1 ⟨1, a, [], []⟩ HST0.out.2.2.1 HST0.out.2.1 (by_nil _) ⟨HNM.out.1, Nat.zero_le _, (show (Lit.int .u8 1).wf = true by decide)⟩ HCF.out (by have := HLL.out; simp; try omega) HNL.out.e1 HNL.out.s1)
    clear hrow
    go_wp2_with fail
    refine HC.out.mono ?_
    rintro e y1 ⟨fa', fc', da', dc', rfl, ho, hgy⟩
    have hrow := hgy.same HST0.out.1
    have x0 := cell_block hrow (j := 0) rfl
    have x1 := cell_block hrow (j := 1) rfl
    have x2 := cell_block hrow (j := 2) rfl
    have x3 := cell_block hrow (j := 3) rfl
    have x4 := cell_block hrow (j := 4) rfl
    have g0 := frozen_block hrow (j := 0)
    have g1 := frozen_block hrow (j := 1)
    have g2 := frozen_block hrow (j := 2)
    have g3 := frozen_block hrow (j := 3)
    have g4 := frozen_block hrow (j := 4)
    have HP := Lib.hid (And.intro hrow (And.intro ho hgy))
    clear hrow ho hgy e0 e1 e2 e3 e4 HC
    go_wp2
    go_meet
    case rel =>
      exact ⟨rfl, fa', fc', da', dc', row5_filled HP.out.1 _ _ _ _ _, own_ne (OwnDsk.apart HP.out.2.1 HP.out.1 (fun k hk => set5_other hk)) (row5_filled HP.out.1 _ _ _ _ _), Kp.trans (Gr.kp HP.out.2.2 _) (kp_set5 _ _ _ _ _ _ _), set5_gr (HST0.out.2.2.1.trans HP.out.2.2) (Nat.le_refl _)⟩
  case rest =>
    obtain ⟨rfl, fa1, fc1, da1, dc1, hrow, his, hkp, hgw⟩ := hcut
    obtain ⟨Y1, hY⟩ : ∃ Y1, Y1 = wc := ⟨_, rfl⟩
    subst hY
    have HST1 := Lib.hid (show (Y1.heap[w.heap.size]? = some (.cells #[.slice fa1 d1.files.length fc1, .slice da1 d1.queue.length dc1, .int .i64 d1.quota, .int .i64 d1.fuse, .bool d1.dead] 25 (0, 0)) ∧ IsDsk (fun k => k ≠ w.heap.size) Y1 (dskV d1 (.slice fa1 d1.files.length fc1) (.slice da1 d1.queue.length dc1)) d1 ∧ Gr w Y1 ∧ w.heap.size < Y1.heap.size) from ⟨hrow, his, hgw, (Array.getElem?_eq_some_iff.1 hrow).1⟩)
    have HKP1 := Lib.hid hkp
    clear hrow his hkp hgw
    go_upto_region 4 with fail
    go_cut [10, 11] from 79 to 84 (fun b e wx => ∃ (ba : Option Addr) (bc : Nat), b = .slice ba ([] : Bs).length bc ∧ e = .int .i64 0 ∧ IsBy (fun k => k ≠ w.heap.size) wx (.slice ba ([] : Bs).length bc) ([] : Bs) ∧ Gr Y1 wx)
    case first =>
      have hrow := HST1.out.1
      have e0 := cell_block hrow (j := 0) rfl
      have e1 := cell_block hrow (j := 1) rfl
      have e2 := cell_block hrow (j := 2) rfl
      have e3 := cell_block hrow (j := 3) rfl
      have e4 := cell_block hrow (j := 4) rfl
      have HC := Lib.hid (HRD.out Y1 _ d1 a ([] : Bs) 0 HST1.out.2.2.1 HST1.out.2.2.2 HST1.out.2.1 HNM.out.1 (by have h := HNL.out.c1; omega) HNL.out.r1)
      clear hrow
      go_wp2_with fail
      refine HC.out.mono ?_
      rintro e y1 ⟨ba, bc, rfl, hby, hgy⟩
      have HP := Lib.hid (And.intro hby hgy)
      clear hby hgy e0 e1 e2 e3 e4 HC
      go_wp2
      go_meet
      case rel => exact ⟨ba, bc, rfl, rfl, HP.out.1, HP.out.2⟩
    case rest =>
      obtain ⟨bxa, bxc, rfl, rfl, hby, hgy⟩ := hcut
      obtain ⟨Y2, hY⟩ : ∃ Y2, Y2 = wc := ⟨_, rfl⟩
      subst hY
      have HST2 := Lib.hid (show (Y2.heap[w.heap.size]? = some (.cells #[.slice fa1 d1.files.length fc1, .slice da1 d1.queue.length dc1, .int .i64 d1.quota, .int .i64 d1.fuse, .bool d1.dead] 25 (0, 0)) ∧ IsDsk (fun k => k ≠ w.heap.size) Y2 (dskV d1 (.slice fa1 d1.files.length fc1) (.slice da1 d1.queue.length dc1)) d1 ∧ Gr w Y2 ∧ w.heap.size < Y2.heap.size) from ⟨hgy.same HST1.out.1, HST1.out.2.1.gr hgy, HST1.out.2.2.1.trans hgy, Nat.lt_of_lt_of_le HST1.out.2.2.2 hgy.size⟩)
      have HKP2 := Lib.hid (show Kp (fun k (_ : Obj) => k ≠ w.heap.size) Y1 Y2 from Gr.kp hgy _)
      have Hbx := Lib.hid hby
      clear hby hgy
      go_upto_region 5 with fail
      go_cut [12] from 85 to 92 (fun e wx => e = .int .i64 0 ∧ ∃ (fa3 : Option Addr) (fc3 : Nat) (da3 : Option Addr) (dc3 : Nat), wx.heap[w.heap.size]? = some (.cells #[.slice fa3 d2.files.length fc3, .slice da3 d2.queue.length dc3, .int .i64 d2.quota, .int .i64 d2.fuse, .bool d2.dead] 25 (0, 0)) ∧ IsDsk (fun k => k ≠ w.heap.size) wx (dskV d2 (.slice fa3 d2.files.length fc3) (.slice da3 d2.queue.length dc3)) d2 ∧ Kp (fun k (_ : Obj) => k ≠ w.heap.size) Y2 wx ∧ Gr w wx)
      case first =>
        have hrow := HST2.out.1
        have e0 := cell_block hrow (j := 0) rfl
        have e1 := cell_block hrow (j := 1) rfl
        have e2 := cell_block hrow (j := 2) rfl
        have e3 := cell_block hrow (j := 3) rfl
        have e4 := cell_block hrow (j := 4) rfl
        have HC := Lib.hid (HDO.out Y2 _ (.slice la l.length lc) d1 d2 ⟨2, a, [], l⟩ HST2.out.2.2.1 HST2.out.2.1 (HBL.out _ HST2.out.2.2.1) ⟨HNM.out.1, Nat.zero_le _, (show (Lit.int .u8 2).wf = true by decide)⟩ (by have h := HNL.out.c1; omega) (by have := HLL.out; simp; try omega) HNL.out.e2 HNL.out.s2)
        clear hrow
        go_wp2_with fail
        refine HC.out.mono ?_
        rintro e y1 ⟨fa', fc', da', dc', rfl, ho, hgy⟩
        have hrow := hgy.same HST2.out.1
        have x0 := cell_block hrow (j := 0) rfl
        have x1 := cell_block hrow (j := 1) rfl
        have x2 := cell_block hrow (j := 2) rfl
        have x3 := cell_block hrow (j := 3) rfl
        have x4 := cell_block hrow (j := 4) rfl
        have g0 := frozen_block hrow (j := 0)
        have g1 := frozen_block hrow (j := 1)
        have g2 := frozen_block hrow (j := 2)
        have g3 := frozen_block hrow (j := 3)
        have g4 := frozen_block hrow (j := 4)
        have HP := Lib.hid (And.intro hrow (And.intro ho hgy))
        clear hrow ho hgy e0 e1 e2 e3 e4 HC
        go_wp2
        go_meet
        case rel =>
          exact ⟨rfl, fa', fc', da', dc', row5_filled HP.out.1 _ _ _ _ _, own_ne (OwnDsk.apart HP.out.2.1 HP.out.1 (fun k hk => set5_other hk)) (row5_filled HP.out.1 _ _ _ _ _), Kp.trans (Gr.kp HP.out.2.2 _) (kp_set5 _ _ _ _ _ _ _), set5_gr (HST2.out.2.2.1.trans HP.out.2.2) (Nat.le_refl _)⟩
      case rest =>
        obtain ⟨rfl, fa3, fc3, da3, dc3, hrow, his, hkp, hgw⟩ := hcut
        obtain ⟨Y3, hY⟩ : ∃ Y3, Y3 = wc := ⟨_, rfl⟩
        subst hY
        have HST3 := Lib.hid (show (Y3.heap[w.heap.size]? = some (.cells #[.slice fa3 d2.files.length fc3, .slice da3 d2.queue.length dc3, .int .i64 d2.quota, .int .i64 d2.fuse, .bool d2.dead] 25 (0, 0)) ∧ IsDsk (fun k => k ≠ w.heap.size) Y3 (dskV d2 (.slice fa3 d2.files.length fc3) (.slice da3 d2.queue.length dc3)) d2 ∧ Gr w Y3 ∧ w.heap.size < Y3.heap.size) from ⟨hrow, his, hgw, (Array.getElem?_eq_some_iff.1 hrow).1⟩)
        have HKP3 := Lib.hid hkp
        clear hrow his hkp hgw
        go_upto_region 6 with fail
        go_cut [13, 14] from 93 to 98 (fun b e wx => ∃ (ba : Option Addr) (bc : Nat), b = .slice ba l.length bc ∧ e = .int .i64 0 ∧ IsBy (fun k => k ≠ w.heap.size) wx (.slice ba l.length bc) l ∧ Gr Y3 wx)
        case first =>
          have hrow := HST3.out.1
          have e0 := cell_block hrow (j := 0) rfl
          have e1 := cell_block hrow (j := 1) rfl
          have e2 := cell_block hrow (j := 2) rfl
          have e3 := cell_block hrow (j := 3) rfl
          have e4 := cell_block hrow (j := 4) rfl
          have HC := Lib.hid (HRD.out Y3 _ d2 a l 0 HST3.out.2.2.1 HST3.out.2.2.2 HST3.out.2.1 HNM.out.1 (by have h := HNL.out.c2; omega) HNL.out.r2)
          clear hrow
          go_wp2_with fail
          refine HC.out.mono ?_
          rintro e y1 ⟨ba, bc, rfl, hby, hgy⟩
          have HP := Lib.hid (And.intro hby hgy)
          clear hby hgy e0 e1 e2 e3 e4 HC
          go_wp2
          go_meet
          case rel => exact ⟨ba, bc, rfl, rfl, HP.out.1, HP.out.2⟩
        case rest =>
          obtain ⟨bya, byc, rfl, rfl, hby, hgy⟩ := hcut
          obtain ⟨Y4, hY⟩ : ∃ Y4, Y4 = wc := ⟨_, rfl⟩
          subst hY
          have HST4 := Lib.hid (show (Y4.heap[w.heap.size]? = some (.cells #[.slice fa3 d2.files.length fc3, .slice da3 d2.queue.length dc3, .int .i64 d2.quota, .int .i64 d2.fuse, .bool d2.dead] 25 (0, 0)) ∧ IsDsk (fun k => k ≠ w.heap.size) Y4 (dskV d2 (.slice fa3 d2.files.length fc3) (.slice da3 d2.queue.length dc3)) d2 ∧ Gr w Y4 ∧ w.heap.size < Y4.heap.size) from ⟨hgy.same HST3.out.1, HST3.out.2.1.gr hgy, HST3.out.2.2.1.trans hgy, Nat.lt_of_lt_of_le HST3.out.2.2.2 hgy.size⟩)
          have HKP4 := Lib.hid (show Kp (fun k (_ : Obj) => k ≠ w.heap.size) Y3 Y4 from Gr.kp hgy _)
          have Hby := Lib.hid hby
          clear hby hgy
          go_upto_region 7 with fail
          go_cut [15] from 99 to 106 (fun e wx => e = .int .i64 0 ∧ ∃ (fa5 : Option Addr) (fc5 : Nat) (da5 : Option Addr) (dc5 : Nat), wx.heap[w.heap.size]? = some (.cells #[.slice fa5 d3.files.length fc5, .slice da5 d3.queue.length dc5, .int .i64 d3.quota, .int .i64 d3.fuse, .bool d3.dead] 25 (0, 0)) ∧ IsDsk (fun k => k ≠ w.heap.size) wx (dskV d3 (.slice fa5 d3.files.length fc5) (.slice da5 d3.queue.length dc5)) d3 ∧ Kp (fun k (_ : Obj) => k ≠ w.heap.size) Y4 wx ∧ Gr w wx)
          case first =>
            have hrow := HST4.out.1
            have e0 := cell_block hrow (j := 0) rfl
            have e1 := cell_block hrow (j := 1) rfl
            have e2 := cell_block hrow (j := 2) rfl
            have e3 := cell_block hrow (j := 3) rfl
            have e4 := cell_block hrow (j := 4) rfl
            have HC := Lib.hid (HDO.out Y4 _ (.slice none 0 0) d2 d3 ⟨3, a, b, []⟩ HST4.out.2.2.1 HST4.out.2.1 (by_nil _) ⟨HNM.out.1, HNM.out.2, (show (Lit.int .u8 3).wf = true by decide)⟩ (by have h := HNL.out.c2; omega) (by have := HLL.out; simp; try omega) HNL.out.e3 HNL.out.s3)
            clear hrow
            go_wp2_with fail
            refine HC.out.mono ?_
            rintro e y1 ⟨fa', fc', da', dc', rfl, ho, hgy⟩
            have hrow := hgy.same HST4.out.1
            have x0 := cell_block hrow (j := 0) rfl
            have x1 := cell_block hrow (j := 1) rfl
            have x2 := cell_block hrow (j := 2) rfl
            have x3 := cell_block hrow (j := 3) rfl
            have x4 := cell_block hrow (j := 4) rfl
            have g0 := frozen_block hrow (j := 0)
            have g1 := frozen_block hrow (j := 1)
            have g2 := frozen_block hrow (j := 2)
            have g3 := frozen_block hrow (j := 3)
            have g4 := frozen_block hrow (j := 4)
            have HP := Lib.hid (And.intro hrow (And.intro ho hgy))
            clear hrow ho hgy e0 e1 e2 e3 e4 HC
            go_wp2
            go_meet
            case rel =>
              exact ⟨rfl, fa', fc', da', dc', row5_filled HP.out.1 _ _ _ _ _, own_ne (OwnDsk.apart HP.out.2.1 HP.out.1 (fun k hk => set5_other hk)) (row5_filled HP.out.1 _ _ _ _ _), Kp.trans (Gr.kp HP.out.2.2 _) (kp_set5 _ _ _ _ _ _ _), set5_gr (HST4.out.2.2.1.trans HP.out.2.2) (Nat.le_refl _)⟩
          case rest =>
            obtain ⟨rfl, fa5, fc5, da5, dc5, hrow, his, hkp, hgw⟩ := hcut
            obtain ⟨Y5, hY⟩ : ∃ Y5, Y5 = wc := ⟨_, rfl⟩
            subst hY
            have HST5 := Lib.hid (show (Y5.heap[w.heap.size]? = some (.cells #[.slice fa5 d3.files.length fc5, .slice da5 d3.queue.length dc5, .int .i64 d3.quota, .int .i64 d3.fuse, .bool d3.dead] 25 (0, 0)) ∧ IsDsk (fun k => k ≠ w.heap.size) Y5 (dskV d3 (.slice fa5 d3.files.length fc5) (.slice da5 d3.queue.length dc5)) d3 ∧ Gr w Y5 ∧ w.heap.size < Y5.heap.size) from ⟨hrow, his, hgw, (Array.getElem?_eq_some_iff.1 hrow).1⟩)
            have HKP5 := Lib.hid hkp
            clear hrow his hkp hgw
            go_upto_region 8 with fail
            go_cut [16, 17] from 107 to 112 (fun b e wx => ∃ (ba : Option Addr) (bc : Nat), b = .slice ba l.length bc ∧ e = .int .i64 0 ∧ IsBy (fun k => k ≠ w.heap.size) wx (.slice ba l.length bc) l ∧ Gr Y5 wx)
            case first =>
              have hrow := HST5.out.1
              have e0 := cell_block hrow (j := 0) rfl
              have e1 := cell_block hrow (j := 1) rfl
              have e2 := cell_block hrow (j := 2) rfl
              have e3 := cell_block hrow (j := 3) rfl
              have e4 := cell_block hrow (j := 4) rfl
              have HC := Lib.hid (HRD.out Y5 _ d3 b l 0 HST5.out.2.2.1 HST5.out.2.2.2 HST5.out.2.1 HNM.out.2 (by have h := HNL.out.c3; omega) HNL.out.r3)
              clear hrow
              go_wp2_with fail
              refine HC.out.mono ?_
              rintro e y1 ⟨ba, bc, rfl, hby, hgy⟩
              have HP := Lib.hid (And.intro hby hgy)
              clear hby hgy e0 e1 e2 e3 e4 HC
              go_wp2
              go_meet
              case rel => exact ⟨ba, bc, rfl, rfl, HP.out.1, HP.out.2⟩
            case rest =>
              obtain ⟨bza, bzc, rfl, rfl, hby, hgy⟩ := hcut
              obtain ⟨Y6, hY⟩ : ∃ Y6, Y6 = wc := ⟨_, rfl⟩
              subst hY
              have HST6 := Lib.hid (show (Y6.heap[w.heap.size]? = some (.cells #[.slice fa5 d3.files.length fc5, .slice da5 d3.queue.length dc5, .int .i64 d3.quota, .int .i64 d3.fuse, .bool d3.dead] 25 (0, 0)) ∧ IsDsk (fun k => k ≠ w.heap.size) Y6 (dskV d3 (.slice fa5 d3.files.length fc5) (.slice da5 d3.queue.length dc5)) d3 ∧ Gr w Y6 ∧ w.heap.size < Y6.heap.size) from ⟨hgy.same HST5.out.1, HST5.out.2.1.gr hgy, HST5.out.2.2.1.trans hgy, Nat.lt_of_lt_of_le HST5.out.2.2.2 hgy.size⟩)
              have HKP6 := Lib.hid (show Kp (fun k (_ : Obj) => k ≠ w.heap.size) Y5 Y6 from Gr.kp hgy _)
              have Hbz := Lib.hid hby
              clear hby hgy
              go_upto_region 9 with fail
              go_cut [18, 19] from 113 to 118 (fun b e wx => ∃ (ba : Option Addr) (bc : Nat), b = .slice ba ([] : Bs).length bc ∧ e = .int .i64 42 ∧ IsBy (fun k => k ≠ w.heap.size) wx (.slice ba ([] : Bs).length bc) ([] : Bs) ∧ Gr Y6 wx)
              case first =>
                have hrow := HST6.out.1
                have e0 := cell_block hrow (j := 0) rfl
                have e1 := cell_block hrow (j := 1) rfl
                have e2 := cell_block hrow (j := 2) rfl
                have e3 := cell_block hrow (j := 3) rfl
                have e4 := cell_block hrow (j := 4) rfl
                have HC := Lib.hid (HRD.out Y6 _ d3 a ([] : Bs) 42 HST6.out.2.2.1 HST6.out.2.2.2 HST6.out.2.1 HNM.out.1 (by have h := HNL.out.c3; omega) HNL.out.r4)
                clear hrow
                go_wp2_with fail
                refine HC.out.mono ?_
                rintro e y1 ⟨ba, bc, rfl, hby, hgy⟩
                have HP := Lib.hid (And.intro hby hgy)
                clear hby hgy e0 e1 e2 e3 e4 HC
                go_wp2
                go_meet
                case rel => exact ⟨ba, bc, rfl, rfl, HP.out.1, HP.out.2⟩
              case rest =>
                obtain ⟨bua, buc, rfl, rfl, hby, hgy⟩ := hcut
                obtain ⟨Y7, hY⟩ : ∃ Y7, Y7 = wc := ⟨_, rfl⟩
                subst hY
                have HST7 := Lib.hid (show (Y7.heap[w.heap.size]? = some (.cells #[.slice fa5 d3.files.length fc5, .slice da5 d3.queue.length dc5, .int .i64 d3.quota, .int .i64 d3.fuse, .bool d3.dead] 25 (0, 0)) ∧ IsDsk (fun k => k ≠ w.heap.size) Y7 (dskV d3 (.slice fa5 d3.files.length fc5) (.slice da5 d3.queue.length dc5)) d3 ∧ Gr w Y7 ∧ w.heap.size < Y7.heap.size) from ⟨hgy.same HST6.out.1, HST6.out.2.1.gr hgy, HST6.out.2.2.1.trans hgy, Nat.lt_of_lt_of_le HST6.out.2.2.2 hgy.size⟩)
                have HKP7 := Lib.hid (show Kp (fun k (_ : Obj) => k ≠ w.heap.size) Y6 Y7 from Gr.kp hgy _)
                have Hbu := Lib.hid hby
                clear hby hgy
                go_upto_region 10 with fail
                go_cut [20] from 119 to 125 (fun e wx => e = .int .i64 0 ∧ ∃ (fa8 : Option Addr) (fc8 : Nat) (da8 : Option Addr) (dc8 : Nat), wx.heap[w.heap.size]? = some (.cells #[.slice fa8 d4.files.length fc8, .slice da8 d4.queue.length dc8, .int .i64 d4.quota, .int .i64 d4.fuse, .bool d4.dead] 25 (0, 0)) ∧ IsDsk (fun k => k ≠ w.heap.size) wx (dskV d4 (.slice fa8 d4.files.length fc8) (.slice da8 d4.queue.length dc8)) d4 ∧ Kp (fun k (_ : Obj) => k ≠ w.heap.size) Y7 wx ∧ Gr w wx)
                case first =>
                  have hrow := HST7.out.1
                  have e0 := cell_block hrow (j := 0) rfl
                  have e1 := cell_block hrow (j := 1) rfl
                  have e2 := cell_block hrow (j := 2) rfl
                  have e3 := cell_block hrow (j := 3) rfl
                  have e4 := cell_block hrow (j := 4) rfl
                  have HC := Lib.hid (HDO.out Y7 _ (.slice none 0 0) d3 d4 ⟨4, b, [], []⟩ HST7.out.2.2.1 HST7.out.2.1 (by_nil _) ⟨HNM.out.2, Nat.zero_le _, (show (Lit.int .u8 4).wf = true by decide)⟩ (by have h := HNL.out.c3; omega) (by have := HLL.out; simp; try omega) HNL.out.e4 HNL.out.s4)
                  clear hrow
                  go_wp2_with fail
                  refine HC.out.mono ?_
                  rintro e y1 ⟨fa', fc', da', dc', rfl, ho, hgy⟩
                  have hrow := hgy.same HST7.out.1
                  have x0 := cell_block hrow (j := 0) rfl
                  have x1 := cell_block hrow (j := 1) rfl
                  have x2 := cell_block hrow (j := 2) rfl
                  have x3 := cell_block hrow (j := 3) rfl
                  have x4 := cell_block hrow (j := 4) rfl
                  have g0 := frozen_block hrow (j := 0)
                  have g1 := frozen_block hrow (j := 1)
                  have g2 := frozen_block hrow (j := 2)
                  have g3 := frozen_block hrow (j := 3)
                  have g4 := frozen_block hrow (j := 4)
                  have HP := Lib.hid (And.intro hrow (And.intro ho hgy))
                  clear hrow ho hgy e0 e1 e2 e3 e4 HC
                  go_wp2
                  go_meet
                  case rel =>
                    exact ⟨rfl, fa', fc', da', dc', row5_filled HP.out.1 _ _ _ _ _, own_ne (OwnDsk.apart HP.out.2.1 HP.out.1 (fun k hk => set5_other hk)) (row5_filled HP.out.1 _ _ _ _ _), Kp.trans (Gr.kp HP.out.2.2 _) (kp_set5 _ _ _ _ _ _ _), set5_gr (HST7.out.2.2.1.trans HP.out.2.2) (Nat.le_refl _)⟩
                case rest =>
                  obtain ⟨rfl, fa8, fc8, da8, dc8, hrow, his, hkp, hgw⟩ := hcut
                  obtain ⟨Y8, hY⟩ : ∃ Y8, Y8 = wc := ⟨_, rfl⟩
                  subst hY
                  have HST8 := Lib.hid (show (Y8.heap[w.heap.size]? = some (.cells #[.slice fa8 d4.files.length fc8, .slice da8 d4.queue.length dc8, .int .i64 d4.quota, .int .i64 d4.fuse, .bool d4.dead] 25 (0, 0)) ∧ IsDsk (fun k => k ≠ w.heap.size) Y8 (dskV d4 (.slice fa8 d4.files.length fc8) (.slice da8 d4.queue.length dc8)) d4 ∧ Gr w Y8 ∧ w.heap.size < Y8.heap.size) from ⟨hrow, his, hgw, (Array.getElem?_eq_some_iff.1 hrow).1⟩)
                  have HKP8 := Lib.hid hkp
                  clear hrow his hkp hgw
                  go_upto_region 11 with fail
                  go_cut [21, 22] from 126 to 131 (fun b e wx => ∃ (ba : Option Addr) (bc : Nat), b = .slice ba ([] : Bs).length bc ∧ e = .int .i64 42 ∧ IsBy (fun k => k ≠ w.heap.size) wx (.slice ba ([] : Bs).length bc) ([] : Bs) ∧ Gr Y8 wx)
                  case first =>
                    have hrow := HST8.out.1
                    have e0 := cell_block hrow (j := 0) rfl
                    have e1 := cell_block hrow (j := 1) rfl
                    have e2 := cell_block hrow (j := 2) rfl
                    have e3 := cell_block hrow (j := 3) rfl
                    have e4 := cell_block hrow (j := 4) rfl
                    have HC := Lib.hid (HRD.out Y8 _ d4 b ([] : Bs) 42 HST8.out.2.2.1 HST8.out.2.2.2 HST8.out.2.1 HNM.out.2 (by have h := HNL.out.c4; omega) HNL.out.r5)
                    clear hrow
                    go_wp2_with fail
                    refine HC.out.mono ?_
                    rintro e y1 ⟨ba, bc, rfl, hby, hgy⟩
                    have HP := Lib.hid (And.intro hby hgy)
                    clear hby hgy e0 e1 e2 e3 e4 HC
                    go_wp2
                    go_meet
                    case rel => exact ⟨ba, bc, rfl, rfl, HP.out.1, HP.out.2⟩
                  case rest =>
                    obtain ⟨bva, bvc, rfl, rfl, hby, hgy⟩ := hcut
                    obtain ⟨Y9, hY⟩ : ∃ Y9, Y9 = wc := ⟨_, rfl⟩
                    subst hY
                    have HST9 := Lib.hid (show (Y9.heap[w.heap.size]? = some (.cells #[.slice fa8 d4.files.length fc8, .slice da8 d4.queue.length dc8, .int .i64 d4.quota, .int .i64 d4.fuse, .bool d4.dead] 25 (0, 0)) ∧ IsDsk (fun k => k ≠ w.heap.size) Y9 (dskV d4 (.slice fa8 d4.files.length fc8) (.slice da8 d4.queue.length dc8)) d4 ∧ Gr w Y9 ∧ w.heap.size < Y9.heap.size) from ⟨hgy.same HST8.out.1, HST8.out.2.1.gr hgy, HST8.out.2.2.1.trans hgy, Nat.lt_of_lt_of_le HST8.out.2.2.2 hgy.size⟩)
                    have HKP9 := Lib.hid (show Kp (fun k (_ : Obj) => k ≠ w.heap.size) Y8 Y9 from Gr.kp hgy _)
                    have Hbv := Lib.hid hby
                    clear hby hgy
                    have hy : IsBy (fun k => k ≠ w.heap.size) Y9 (.slice bya l.length byc) l := SL.kp (HKP5.out.trans (HKP6.out.trans (HKP7.out.trans (HKP8.out.trans HKP9.out)))) Hby.out (fun b _ _ _ hb _ => hb)
                    have hz : IsBy (fun k => k ≠ w.heap.size) Y9 (.slice bza l.length bzc) l := SL.kp (HKP7.out.trans (HKP8.out.trans HKP9.out)) Hbz.out (fun b _ _ _ hb _ => hb)
                    have q1 := conv_by hy
                    have q2 := conv_by hz
                    have q3 := conv_by (HBL.out Y9 HST9.out.2.2.1)
                    have q4 : eqB l l = true := eqB_iff.2 rfl
                    clear hy hz
                    go_wp2_with (go_at_call 8; refine (HWA.out _).mono ?_; rintro e w3 ⟨rfl, hg3⟩)
                    go_ret
                    exact ⟨rfl, HST9.out.2.2.1.trans hg3⟩
end Go.Proofs.Ytbgcjbpkgijmeaa
