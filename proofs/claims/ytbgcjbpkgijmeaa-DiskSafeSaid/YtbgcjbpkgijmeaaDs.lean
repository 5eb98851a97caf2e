/-
  Walks: may a disk be? may anything be done?
  Conditions: none beyond those typed at each theorem.
-/
import Derived.Test.YtbgcjbpkgijmeaaDr
import Derived.Test.YtbgcjbpkgijmeaaQa
namespace Go.Proofs.Ytbgcjbpkgijmeaa
open Go Go.RowKit Go.Maps
attribute [local go_sem high] str_eql str_neq str_lss str_leq str_geq str_eql0 str_neq0

theorem chain_drop {fs : List Fl} {j : Nat} {f : Fl} (h : fs[j]? = some f) (last : Bs) : chainB last (fs.drop j) = (ltB last f.name && chainB f.name (fs.drop (j + 1))) := by
  have hj : j < fs.length := (List.getElem?_eq_some_iff.1 h).1
  have e : fs[j] = f := (List.getElem?_eq_some_iff.1 h).2
  rw [List.drop_eq_getElem_cons hj, e]
  show (decide (last < f.name) && _) = _
  unfold ltB; rfl

set_option maxRecDepth 100000 in
set_option maxHeartbeats 4000000 in
theorem right_any (w : World) {S : Nat → Prop} (v : Value) (d : Dsk) (hx : IsDsk S w v d) (hc : cnt d ≤ 1000000) (ht : tot d ≤ 1000000000000) :
    Calls Try.prog 21 #[v] w fun e w' => e = .returned (.bool (rightB d)) ∧ Gr w w' := by
  have hxo := hx
  obtain ⟨fv, qv, rfl, hf, hq, hnum⟩ := hx
  obtain ⟨fa, fc, rfl, _, _⟩ := hf.len
  obtain ⟨qa, qc, rfl, _, _⟩ := hq.len
  have hfl : d.files.length ≤ 1000000 := by unfold cnt at hc; omega
  have hql : d.queue.length ≤ 1000000 := by unfold cnt at hc; omega
  obtain ⟨W1, hW1⟩ : ∃ W1, w.alloc (.cells #[.slice fa d.files.length fc, .slice qa d.queue.length qc, .int .i64 d.quota, .int .i64 d.fuse, .bool d.dead] 25) = W1 := ⟨_, rfl⟩
  have hB : W1.heap[w.heap.size]? = some (.cells #[.slice fa d.files.length fc, .slice qa d.queue.length qc, .int .i64 d.quota, .int .i64 d.fuse, .bool d.dead] 25 (0, 0)) := by rw [← hW1]; exact alloc1_heap _ _
  have hG : Gr w W1 := by rw [← hW1]; exact Gr.alloc (Gr.refl w) _
  have c0 := cell_block hB (j := 0) (v := .slice fa d.files.length fc) rfl
  have HX := Lib.hid (And.intro (hf.gr hG) (hq.gr hG))
  have HU := Lib.hid (show ∀ X, Gr W1 X → Calls Try.prog 15 #[.agg #[.slice fa d.files.length fc, .slice qa d.queue.length qc, .int .i64 d.quota, .int .i64 d.fuse, .bool d.dead]] X fun e w' => e = .returned (.int .i64 (usedN d)) ∧ Gr X w' from
    fun X hX => used_any X _ d (hxo.gr (hG.trans hX)) hc ht)
  have HC := Lib.hid (show ∀ X, Gr W1 X → Calls Try.prog 35 #[.slice qa d.queue.length qc, .func (.func 36) #[] #[]] X fun e w' => e = .returned (.bool (!d.queue.all fineB)) ∧ Gr X w' from
    fun X hX => contains_any X _ d.queue (hq.gr (hG.trans hX)) hql)
  have hR : rightB d = (chainB [] d.files && d.queue.all fineB && decide (d.queue.length ≤ 400) && decide (0 ≤ d.quota) && decide (0 ≤ d.fuse) && decide ((usedN d : Int) ≤ d.quota)) := rfl
  have hus : (usedN d : Int) ≤ 1000000000000 := by have := size_now d; omega
  have HR := Lib.hid hR
  have HB := Lib.hid hB
  have HG := Lib.hid hG
  have HW := Lib.hid hW1
  clear hxo hf hq hR hB hG hW1 hc ht
  generalize rightB d = r at *
  generalize hun : usedN d = un at *
  have HN := Lib.hid hnum
  clear hun hnum
  show Calls Try.prog 21 #[.agg #[.slice fa d.files.length fc, .slice qa d.queue.length qc, .int .i64 d.quota, .int .i64 d.fuse, .bool d.dead]] w _
  go_enter Try.func21, Try.ntmps21
  go_wp2_with fail
  rw [HW.out]
  go_wp2_with fail
  go_loopw [3, 10] (fun lv k wr => ∃ (j : Nat) (last : Bs), lv = strV last ∧ k = .int .i64 j ∧ j ≤ d.files.length ∧ chainB [] d.files = chainB last (d.files.drop j) ∧ Gr W1 wr) (fun _ k _ => d.files.length - (intOf k).toNat)
  case atStart => exact ⟨0, [], rfl, rfl, Nat.zero_le _, rfl, Gr.refl _⟩
  case round =>
    obtain ⟨j, last, rfl, rfl, hj, hch, hg⟩ := hrel
    by_cases hlt : j < d.files.length
    · obtain ⟨f, hfj⟩ : ∃ f, d.files[j]? = some f := ⟨_, List.getElem?_eq_getElem hlt⟩
      obtain ⟨b, of, c', hv, _, _, _, hrows⟩ := HX.out.1.some (by omega)
      simp only [Value.slice.injEq, true_and] at hv
      obtain ⟨rfl, rfl⟩ := hv
      obtain ⟨bv, hr, hbv⟩ := hrows j f hfj
      obtain ⟨ba, bc, rfl, _, _⟩ := hbv.len
      have hr := later_range hg hr
      have k0 : wr.cell? ⟨b, of + j * 2, none⟩ = some (strV f.name) := hr 0 _ rfl
      have k1 : wr.cell? ⟨b, of + j * 2 + 1, none⟩ = some (.slice ba f.data.length bc) := hr 1 _ rfl
      have hch2 := hch.trans (chain_drop hfj last)
      have HGr := Lib.hid hg
      have HCH := Lib.hid hch2
      clear hr hbv hrows hfj hch hch2 hg
      cases hlb : ltB last f.name with
      | true =>
        have HL := Lib.hid (HCH.out.trans (by rw [hlb, Bool.true_and]))
        go_wp2
        exact ⟨⟨j + 1, f.name, rfl, by go_num, by omega, HL.out, HGr.out.alloc _⟩, by simp [intOf]; omega⟩
      | false =>
        have HL := Lib.hid (show r = false from HR.out.trans (by rw [HCH.out, hlb]; rfl))
        go_wp2
        go_ret
        exact ⟨by rw [HL.out]; rfl, HG.out.trans (HGr.out.alloc _)⟩
    · obtain rfl : j = d.files.length := by omega
      rw [List.drop_length] at hch
      have c1 : wr.cell? ⟨w.heap.size, 1, none⟩ = some (.slice qa d.queue.length qc) := cell_block (hg.same HB.out) rfl
      have HCt := Lib.hid (HC.out wr hg)
      have HR2 := Lib.hid (HR.out.trans (by rw [show chainB [] d.files = true from hch, Bool.true_and]))
      have HGr := Lib.hid hg
      clear hch hg c0
      go_wp2_with fail
      refine HCt.out.mono ?_
      rintro e w2 ⟨rfl, hg2⟩
      have HG2 := Lib.hid (HGr.out.trans hg2)
      clear hg2 c1
      have HCX := Lib.hid (show ∀ X, Gr W1 X → X.cell? ⟨w.heap.size, 0, none⟩ = some (.slice fa d.files.length fc) ∧ X.cell? ⟨w.heap.size, 1, none⟩ = some (.slice qa d.queue.length qc) ∧ X.cell? ⟨w.heap.size, 2, none⟩ = some (.int .i64 d.quota) ∧ X.cell? ⟨w.heap.size, 3, none⟩ = some (.int .i64 d.fuse) ∧ X.cell? ⟨w.heap.size, 4, none⟩ = some (.bool d.dead) from
        fun X hg => ⟨cell_block (hg.same HB.out) rfl, cell_block (hg.same HB.out) rfl, cell_block (hg.same HB.out) rfl, cell_block (hg.same HB.out) rfl, cell_block (hg.same HB.out) rfl⟩)
      have HS0 := Lib.hid (show Gr W1 w2.drew ∧ w2.drew.cell? ⟨w.heap.size, 0, none⟩ = some (.slice fa d.files.length fc) ∧ w2.drew.cell? ⟨w.heap.size, 1, none⟩ = some (.slice qa d.queue.length qc) ∧ w2.drew.cell? ⟨w.heap.size, 2, none⟩ = some (.int .i64 d.quota) ∧ w2.drew.cell? ⟨w.heap.size, 3, none⟩ = some (.int .i64 d.fuse) ∧ w2.drew.cell? ⟨w.heap.size, 4, none⟩ = some (.bool d.dead) from ⟨HG2.out.drew, HCX.out _ HG2.out.drew⟩)
      have HK := Lib.hid (show ∀ X Y, (Gr W1 X ∧ X.cell? ⟨w.heap.size, 0, none⟩ = some (.slice fa d.files.length fc) ∧ X.cell? ⟨w.heap.size, 1, none⟩ = some (.slice qa d.queue.length qc) ∧ X.cell? ⟨w.heap.size, 2, none⟩ = some (.int .i64 d.quota) ∧ X.cell? ⟨w.heap.size, 3, none⟩ = some (.int .i64 d.fuse) ∧ X.cell? ⟨w.heap.size, 4, none⟩ = some (.bool d.dead)) → Gr X Y →
          (Gr W1 Y ∧ Y.cell? ⟨w.heap.size, 0, none⟩ = some (.slice fa d.files.length fc) ∧ Y.cell? ⟨w.heap.size, 1, none⟩ = some (.slice qa d.queue.length qc) ∧ Y.cell? ⟨w.heap.size, 2, none⟩ = some (.int .i64 d.quota) ∧ Y.cell? ⟨w.heap.size, 3, none⟩ = some (.int .i64 d.fuse) ∧ Y.cell? ⟨w.heap.size, 4, none⟩ = some (.bool d.dead)) from fun X Y h hg => ⟨h.1.trans hg, HCX.out _ (h.1.trans hg)⟩)
      clear HCt HC HX HN HGr
      have hal : d.queue.all fineB = true ∨ d.queue.all fineB = false := by cases d.queue.all fineB <;> simp
      rcases hal with ha | ha
      by_cases hl : (d.queue.length : Int) ≤ 400
      by_cases hm : 0 ≤ min d.quota d.fuse
      · have HRF := Lib.hid (show r = decide ((un : Int) ≤ d.quota) from HR2.out.trans (by
          have h1 : 0 ≤ d.quota := Int.le_trans hm (Int.min_le_left _ _)
          have h2 : 0 ≤ d.fuse := Int.le_trans hm (Int.min_le_right _ _)
          have h3 : d.queue.length ≤ 400 := by omega
          rw [ha, decide_eq_true h1, decide_eq_true h2, decide_eq_true h3]; simp))
        rw [ha]
        clear HR2 HR
        go_wp2_with fail
        refine wp_region_class (fun X => Gr W1 X ∧ X.cell? ⟨w.heap.size, 0, none⟩ = some (.slice fa d.files.length fc) ∧ X.cell? ⟨w.heap.size, 1, none⟩ = some (.slice qa d.queue.length qc) ∧ X.cell? ⟨w.heap.size, 2, none⟩ = some (.int .i64 d.quota) ∧ X.cell? ⟨w.heap.size, 3, none⟩ = some (.int .i64 d.fuse) ∧ X.cell? ⟨w.heap.size, 4, none⟩ = some (.bool d.dead)) (by kernel_rfl) (by kernel_rfl) HS0.out ?_
        iterate 24
          refine wpQuiet_takeE (by kernel_rfl) ?_
          apply Exists.intro
          refine ⟨?_, ?_⟩
          · rintro X ⟨hg, e0, e1, e2, e3, e4⟩
            first
            | (go_simp; done)
            | (go_simp; with_reducible rfl)
            | (go_simp; go_at_call 15; refine (HU.out _ hg).mono ?_; rintro e y1 ⟨rfl, hgy⟩; refine ⟨?_, HK.out X y1 ⟨hg, e0, e1, e2, e3, e4⟩ hgy⟩; with_reducible rfl)
          simp only [Act.put, List.setIfInBounds_toArray, List.set_cons_zero, List.set_cons_succ]
        refine wpQuiet_nil ?_
        rintro X ⟨hg, -⟩
        have HGX := Lib.hid hg
        clear hg
        go_wp2
        go_ret
        exact ⟨by rw [HRF.out]; simp, HG.out.trans HGX.out⟩
      · have HRF := Lib.hid (show r = false from HR2.out.trans (by
          have h1 : ¬ (0 ≤ d.quota ∧ 0 ≤ d.fuse) := fun h => hm (by omega)
          by_cases h2 : 0 ≤ d.quota
          · have h3 : ¬ 0 ≤ d.fuse := fun h => h1 ⟨h2, h⟩
            rw [decide_eq_false h3]; simp
          · rw [decide_eq_false h2]; simp))
        have hmb : decide (0 ≤ min d.quota d.fuse) = false := decide_eq_false hm
        rw [ha]
        clear HR2 HR
        go_wp2_with fail
        refine wp_region_class (fun X => Gr W1 X ∧ X.cell? ⟨w.heap.size, 0, none⟩ = some (.slice fa d.files.length fc) ∧ X.cell? ⟨w.heap.size, 1, none⟩ = some (.slice qa d.queue.length qc) ∧ X.cell? ⟨w.heap.size, 2, none⟩ = some (.int .i64 d.quota) ∧ X.cell? ⟨w.heap.size, 3, none⟩ = some (.int .i64 d.fuse) ∧ X.cell? ⟨w.heap.size, 4, none⟩ = some (.bool d.dead)) (by kernel_rfl) (by kernel_rfl) HS0.out ?_
        iterate 17
          refine wpQuiet_takeE (by kernel_rfl) ?_
          apply Exists.intro
          refine ⟨?_, ?_⟩
          · rintro X ⟨hg, e0, e1, e2, e3, e4⟩
            first
            | (go_simp; done)
            | (go_simp; with_reducible rfl)
            | (go_simp; go_at_call 15; refine (HU.out _ hg).mono ?_; rintro e y1 ⟨rfl, hgy⟩; refine ⟨?_, HK.out X y1 ⟨hg, e0, e1, e2, e3, e4⟩ hgy⟩; with_reducible rfl)
          simp only [Act.put, List.setIfInBounds_toArray, List.set_cons_zero, List.set_cons_succ]
        iterate 5
          refine wpQuiet_skip (by kernel_rfl) ?_
          simp only [Act.put, List.setIfInBounds_toArray, List.set_cons_zero, List.set_cons_succ]
        iterate 2
          refine wpQuiet_takeE (by kernel_rfl) ?_
          apply Exists.intro
          refine ⟨?_, ?_⟩
          · rintro X ⟨hg, e0, e1, e2, e3, e4⟩
            first
            | (go_simp; done)
            | (go_simp; with_reducible rfl)
            | (go_simp; go_at_call 15; refine (HU.out _ hg).mono ?_; rintro e y1 ⟨rfl, hgy⟩; refine ⟨?_, HK.out X y1 ⟨hg, e0, e1, e2, e3, e4⟩ hgy⟩; with_reducible rfl)
          simp only [Act.put, List.setIfInBounds_toArray, List.set_cons_zero, List.set_cons_succ]
        refine wpQuiet_nil ?_
        rintro X ⟨hg, -⟩
        have HGX := Lib.hid hg
        clear hg
        go_wp2
        go_ret
        exact ⟨by rw [HRF.out]; simp, HG.out.trans HGX.out⟩
      · have HRF := Lib.hid (show r = false from HR2.out.trans (by
          have h3 : ¬ d.queue.length ≤ 400 := by omega
          rw [decide_eq_false h3]; simp))
        have hlb : decide ((d.queue.length : Int) ≤ 400) = false := decide_eq_false hl
        rw [ha]
        clear HR2 HR
        go_wp2_with fail
        refine wp_region_class (fun X => Gr W1 X ∧ X.cell? ⟨w.heap.size, 0, none⟩ = some (.slice fa d.files.length fc) ∧ X.cell? ⟨w.heap.size, 1, none⟩ = some (.slice qa d.queue.length qc) ∧ X.cell? ⟨w.heap.size, 2, none⟩ = some (.int .i64 d.quota) ∧ X.cell? ⟨w.heap.size, 3, none⟩ = some (.int .i64 d.fuse) ∧ X.cell? ⟨w.heap.size, 4, none⟩ = some (.bool d.dead)) (by kernel_rfl) (by kernel_rfl) HS0.out ?_
        iterate 9
          refine wpQuiet_takeE (by kernel_rfl) ?_
          apply Exists.intro
          refine ⟨?_, ?_⟩
          · rintro X ⟨hg, e0, e1, e2, e3, e4⟩
            first
            | (go_simp; done)
            | (go_simp; with_reducible rfl)
            | (go_simp; go_at_call 15; refine (HU.out _ hg).mono ?_; rintro e y1 ⟨rfl, hgy⟩; refine ⟨?_, HK.out X y1 ⟨hg, e0, e1, e2, e3, e4⟩ hgy⟩; with_reducible rfl)
          simp only [Act.put, List.setIfInBounds_toArray, List.set_cons_zero, List.set_cons_succ]
        iterate 6
          refine wpQuiet_skip (by kernel_rfl) ?_
          simp only [Act.put, List.setIfInBounds_toArray, List.set_cons_zero, List.set_cons_succ]
        iterate 2
          refine wpQuiet_takeE (by kernel_rfl) ?_
          apply Exists.intro
          refine ⟨?_, ?_⟩
          · rintro X ⟨hg, e0, e1, e2, e3, e4⟩
            first
            | (go_simp; done)
            | (go_simp; with_reducible rfl)
            | (go_simp; go_at_call 15; refine (HU.out _ hg).mono ?_; rintro e y1 ⟨rfl, hgy⟩; refine ⟨?_, HK.out X y1 ⟨hg, e0, e1, e2, e3, e4⟩ hgy⟩; with_reducible rfl)
          simp only [Act.put, List.setIfInBounds_toArray, List.set_cons_zero, List.set_cons_succ]
        iterate 5
          refine wpQuiet_skip (by kernel_rfl) ?_
          simp only [Act.put, List.setIfInBounds_toArray, List.set_cons_zero, List.set_cons_succ]
        iterate 2
          refine wpQuiet_takeE (by kernel_rfl) ?_
          apply Exists.intro
          refine ⟨?_, ?_⟩
          · rintro X ⟨hg, e0, e1, e2, e3, e4⟩
            first
            | (go_simp; done)
            | (go_simp; with_reducible rfl)
            | (go_simp; go_at_call 15; refine (HU.out _ hg).mono ?_; rintro e y1 ⟨rfl, hgy⟩; refine ⟨?_, HK.out X y1 ⟨hg, e0, e1, e2, e3, e4⟩ hgy⟩; with_reducible rfl)
          simp only [Act.put, List.setIfInBounds_toArray, List.set_cons_zero, List.set_cons_succ]
        refine wpQuiet_nil ?_
        rintro X ⟨hg, -⟩
        have HGX := Lib.hid hg
        clear hg
        go_wp2
        go_ret
        exact ⟨by rw [HRF.out]; simp, HG.out.trans HGX.out⟩
      · have HRF := Lib.hid (show r = false from HR2.out.trans (by rw [ha]; simp))
        rw [ha]
        clear HR2 HR
        go_wp2_with fail
        refine wp_region_class (fun X => Gr W1 X ∧ X.cell? ⟨w.heap.size, 0, none⟩ = some (.slice fa d.files.length fc) ∧ X.cell? ⟨w.heap.size, 1, none⟩ = some (.slice qa d.queue.length qc) ∧ X.cell? ⟨w.heap.size, 2, none⟩ = some (.int .i64 d.quota) ∧ X.cell? ⟨w.heap.size, 3, none⟩ = some (.int .i64 d.fuse) ∧ X.cell? ⟨w.heap.size, 4, none⟩ = some (.bool d.dead)) (by kernel_rfl) (by kernel_rfl) HS0.out ?_
        iterate 3
          refine wpQuiet_takeE (by kernel_rfl) ?_
          apply Exists.intro
          refine ⟨?_, ?_⟩
          · rintro X ⟨hg, e0, e1, e2, e3, e4⟩
            first
            | (go_simp; done)
            | (go_simp; with_reducible rfl)
            | (go_simp; go_at_call 15; refine (HU.out _ hg).mono ?_; rintro e y1 ⟨rfl, hgy⟩; refine ⟨?_, HK.out X y1 ⟨hg, e0, e1, e2, e3, e4⟩ hgy⟩; with_reducible rfl)
          simp only [Act.put, List.setIfInBounds_toArray, List.set_cons_zero, List.set_cons_succ]
        iterate 4
          refine wpQuiet_skip (by kernel_rfl) ?_
          simp only [Act.put, List.setIfInBounds_toArray, List.set_cons_zero, List.set_cons_succ]
        iterate 2
          refine wpQuiet_takeE (by kernel_rfl) ?_
          apply Exists.intro
          refine ⟨?_, ?_⟩
          · rintro X ⟨hg, e0, e1, e2, e3, e4⟩
            first
            | (go_simp; done)
            | (go_simp; with_reducible rfl)
            | (go_simp; go_at_call 15; refine (HU.out _ hg).mono ?_; rintro e y1 ⟨rfl, hgy⟩; refine ⟨?_, HK.out X y1 ⟨hg, e0, e1, e2, e3, e4⟩ hgy⟩; with_reducible rfl)
          simp only [Act.put, List.setIfInBounds_toArray, List.set_cons_zero, List.set_cons_succ]
        iterate 6
          refine wpQuiet_skip (by kernel_rfl) ?_
          simp only [Act.put, List.setIfInBounds_toArray, List.set_cons_zero, List.set_cons_succ]
        iterate 2
          refine wpQuiet_takeE (by kernel_rfl) ?_
          apply Exists.intro
          refine ⟨?_, ?_⟩
          · rintro X ⟨hg, e0, e1, e2, e3, e4⟩
            first
            | (go_simp; done)
            | (go_simp; with_reducible rfl)
            | (go_simp; go_at_call 15; refine (HU.out _ hg).mono ?_; rintro e y1 ⟨rfl, hgy⟩; refine ⟨?_, HK.out X y1 ⟨hg, e0, e1, e2, e3, e4⟩ hgy⟩; with_reducible rfl)
          simp only [Act.put, List.setIfInBounds_toArray, List.set_cons_zero, List.set_cons_succ]
        iterate 5
          refine wpQuiet_skip (by kernel_rfl) ?_
          simp only [Act.put, List.setIfInBounds_toArray, List.set_cons_zero, List.set_cons_succ]
        iterate 2
          refine wpQuiet_takeE (by kernel_rfl) ?_
          apply Exists.intro
          refine ⟨?_, ?_⟩
          · rintro X ⟨hg, e0, e1, e2, e3, e4⟩
            first
            | (go_simp; done)
            | (go_simp; with_reducible rfl)
            | (go_simp; go_at_call 15; refine (HU.out _ hg).mono ?_; rintro e y1 ⟨rfl, hgy⟩; refine ⟨?_, HK.out X y1 ⟨hg, e0, e1, e2, e3, e4⟩ hgy⟩; with_reducible rfl)
          simp only [Act.put, List.setIfInBounds_toArray, List.set_cons_zero, List.set_cons_succ]
        refine wpQuiet_nil ?_
        rintro X ⟨hg, -⟩
        have HGX := Lib.hid hg
        clear hg
        go_wp2
        go_ret
        exact ⟨by rw [HRF.out]; simp, HG.out.trans HGX.out⟩
end Go.Proofs.Ytbgcjbpkgijmeaa
