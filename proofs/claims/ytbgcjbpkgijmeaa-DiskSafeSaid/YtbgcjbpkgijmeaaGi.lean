/-
  Walks of the document's answer: files now, how many bytes, which disks may be.
  Conditions: none beyond those typed at each theorem.
-/
import Derived.Test.YtbgcjbpkgijmeaaGg
import Derived.Test.YtbgcjbpkgijmeaaGh
namespace Go.Proofs.Ytbgcjbpkgijmeaa
open Go Go.RowKit Go.Maps
attribute [local go_sem high] str_eql str_neq str_lss str_leq str_geq str_eql0 str_neq0

def NowRPost (w : World) (l' : List Fl) (e : Ending) (w' : World) : Prop := ∃ v', e = .returned v' ∧ IsFls (· < w'.heap.size) w' v' l' ∧ Gr w w'
set_option maxRecDepth 100000 in
set_option maxHeartbeats 2000000 in
theorem nowR_any (w : World) {S : Nat → Prop} (v : Value) (d : Dsk) (hx : IsDsk S w v d) (hc : cnt d ≤ 1000000) (ht : tot d ≤ 1000000000000) :
    Calls Try.prog 34 #[v] w fun e w' => ∃ v', e = .returned v' ∧ IsFls (· < w'.heap.size) w' v' (nowL d) ∧ Gr w w' := by
  show Calls Try.prog 34 #[v] w (NowRPost w (nowL d))
  obtain ⟨fa, fc, qa, qc, rfl⟩ := dsk_val hx
  obtain ⟨W1, hW1⟩ : ∃ W1, w.alloc (.cells #[.slice fa d.files.length fc, .slice qa d.queue.length qc, .int .i64 d.quota, .int .i64 d.fuse, .bool d.dead] 25) = W1 := ⟨_, rfl⟩
  have hG : Gr w W1 := by rw [← hW1]; exact Gr.alloc (Gr.refl w) _
  have hB : W1.heap[w.heap.size]? = some (.cells #[.slice fa d.files.length fc, .slice qa d.queue.length qc, .int .i64 d.quota, .int .i64 d.fuse, .bool d.dead] 25 (0, 0)) := by rw [← hW1]; exact alloc1_heap _ _
  have hz : W1.heap.size = w.heap.size + 1 := by rw [← hW1]; simp
  have c0 := cell_block hB (j := 0) (v := .slice fa d.files.length fc) rfl
  have c1 := cell_block hB (j := 1) (v := .slice qa d.queue.length qc) rfl
  have c2 := cell_block hB (j := 2) (v := .int .i64 d.quota) rfl
  have c3 := cell_block hB (j := 3) (v := .int .i64 d.fuse) rfl
  have c4 := cell_block hB (j := 4) (v := .bool d.dead) rfl
  have HO := Lib.hid (ownR_any W1 _ d (hx.gr hG) hc ht)
  have HCT := Lib.hid (And.intro hc ht)
  have HW := Lib.hid hW1
  have HG := Lib.hid hG
  have HB := Lib.hid hB
  have HZ := Lib.hid hz
  have HNW := Lib.hid (show nowL d = d.queue.foldl step (taken d.files) from rfl)
  clear hx hG hB hW1 hc ht hz
  generalize nowL d = ND at *
  go_enter Try.func34, Try.ntmps34
  go_upto_region 1 with fail
  rw [HW.out]
  go_wp2_with fail
  refine HO.out.mono ?_
  rintro e w3 ⟨v3, rfl, ⟨fv, qv, rfl, hf, hq, hnum⟩, hg⟩
  obtain ⟨fa3, fc3, rfl⟩ := hf.slice
  obtain ⟨qa3, qc3, rfl⟩ := hq.slice
  have b1 := hg.same HB.out
  have e0 := cell_block b1 (j := 0) rfl
  have e1 := cell_block b1 (j := 1) rfl
  have e2 := cell_block b1 (j := 2) rfl
  have e3 := cell_block b1 (j := 3) rfl
  have e4 := cell_block b1 (j := 4) rfl
  have f0 := frozen_block b1 (j := 0)
  have f1 := frozen_block b1 (j := 1)
  have f2 := frozen_block b1 (j := 2)
  have f3 := frozen_block b1 (j := 3)
  have f4 := frozen_block b1 (j := 4)
  have hbx := boxed_set b1 (HG.out.trans hg) (Nat.le_refl _) (show w.heap.size < W1.heap.size by have := HZ.out; omega) hf hq hnum
  clear c0 c1 c2 c3 c4 hf hq hg b1
  simp only [dskV]
  obtain ⟨W4, hW4⟩ : ∃ W4, set5 w3 w.heap.size (.slice fa3 d.files.length fc3) (.slice qa3 d.queue.length qc3) (.int .i64 d.quota) (.int .i64 d.fuse) (.bool d.dead) = W4 := ⟨_, rfl⟩
  rw [hW4] at hbx
  unfold set5 at hW4
  have HBX := Lib.hid hbx
  have HW4 := Lib.hid hW4
  have HAL := Lib.hid (all_any W4 _ _ d.files d.queue hbx.files.is hbx.queue.is HCT.out.1 HCT.out.2)
  have k0 := cell_block hbx.row (j := 0) (v := .slice fa3 d.files.length fc3) rfl
  have k1 := cell_block hbx.row (j := 1) (v := .slice qa3 d.queue.length qc3) rfl
  clear hbx hW4
  go_upto_region 2 with fail
  rw [HW4.out]
  clear HW4 e0 e1 e2 e3 e4 f0 f1 f2 f3 f4
  go_wp2_with fail
  refine HAL.out.mono ?_
  rintro e w5 ⟨v5, rfl, hx5, hg5⟩
  obtain ⟨a5, c5, rfl, _, _⟩ := hx5.len
  have HP := Lib.hid (And.intro hx5 (HBX.out.gr.trans hg5))
  clear hx5 hg5
  go_wp2
  go_ret
  exact ⟨_, rfl, by rw [HNW.out]; exact HP.out.1, HP.out.2⟩

set_option maxRecDepth 100000 in
set_option maxHeartbeats 1000000 in
theorem usedR_any (w : World) {S : Nat → Prop} (v : Value) (d : Dsk) (hx : IsDsk S w v d) (hc : cnt d ≤ 1000000) (ht : tot d ≤ 1000000000000) :
    Calls Try.prog 16 #[v] w fun e w' => e = .returned (.int .i64 (usedN d : Int)) ∧ Gr w w' := by
  obtain ⟨fa, fc, qa, qc, rfl⟩ := dsk_val hx
  obtain ⟨W1, hW1⟩ : ∃ W1, w.alloc (.cells #[.slice fa d.files.length fc, .slice qa d.queue.length qc, .int .i64 d.quota, .int .i64 d.fuse, .bool d.dead] 25) = W1 := ⟨_, rfl⟩
  have hG : Gr w W1 := by rw [← hW1]; exact Gr.alloc (Gr.refl w) _
  have hB : W1.heap[w.heap.size]? = some (.cells #[.slice fa d.files.length fc, .slice qa d.queue.length qc, .int .i64 d.quota, .int .i64 d.fuse, .bool d.dead] 25 (0, 0)) := by rw [← hW1]; exact alloc1_heap _ _
  have c0 := cell_block hB (j := 0) (v := .slice fa d.files.length fc) rfl
  have c1 := cell_block hB (j := 1) (v := .slice qa d.queue.length qc) rfl
  have c2 := cell_block hB (j := 2) (v := .int .i64 d.quota) rfl
  have c3 := cell_block hB (j := 3) (v := .int .i64 d.fuse) rfl
  have c4 := cell_block hB (j := 4) (v := .bool d.dead) rfl
  have HO := Lib.hid (nowR_any W1 _ d (hx.gr hG) hc ht)
  have HZ := Lib.hid (show (nowL d).length ≤ 2000000 ∧ sizeL (nowL d) ≤ 4000000000000 from by
    have h1 := len_now d
    have h2 := size_now d
    unfold usedN at h2
    omega)
  have HU := Lib.hid (show usedN d = sizeL (nowL d) from rfl)
  have HW := Lib.hid hW1
  have HG := Lib.hid hG
  clear hx hG hB hW1 hc ht
  generalize usedN d = U at *
  generalize nowL d = ND at *
  go_enter Try.func16, Try.ntmps16
  go_upto_region 1 with fail
  rw [HW.out]
  go_wp2_with fail
  refine HO.out.mono ?_
  rintro e w3 ⟨v3, rfl, hx3, hg3⟩
  obtain ⟨a3, c3, rfl, _, _⟩ := hx3.len
  have HS := Lib.hid (size_any w3 _ ND hx3 HZ.out.1 HZ.out.2)
  have HG3 := Lib.hid (HG.out.trans hg3)
  clear hx3 hg3
  go_wp2_with fail
  refine HS.out.mono ?_
  rintro e w4 ⟨rfl, h4⟩
  subst h4
  go_wp2
  go_ret
  exact ⟨by rw [HU.out]; rfl, HG3.out⟩

set_option maxRecDepth 100000 in
set_option maxHeartbeats 8000000 in
theorem rightR_any (w : World) {S : Nat → Prop} (v : Value) (d : Dsk) (hx : IsDsk S w v d) (hc : cnt d ≤ 1000000) (ht : tot d ≤ 1000000000000) :
    Calls Try.prog 7 #[v] w fun e w' => e = .returned (.bool (rightB d)) ∧ Gr w w' := by
  have hxo := hx
  obtain ⟨fv, qv, rfl, hf, hq, hnum⟩ := hx
  obtain ⟨fa, fc, rfl, _, _⟩ := hf.len
  obtain ⟨qa, qc, rfl, _, _⟩ := hq.len
  have hfl : d.files.length ≤ 1000000 := by unfold cnt at hc; omega
  have hql : d.queue.length ≤ 1000000 := by unfold cnt at hc; omega
  obtain ⟨W1, hW1⟩ : ∃ W1, w.alloc (.cells #[.slice fa d.files.length fc, .slice qa d.queue.length qc, .int .i64 d.quota, .int .i64 d.fuse, .bool d.dead] 25) = W1 := ⟨_, rfl⟩
  have hB : W1.heap[w.heap.size]? = some (.cells #[.slice fa d.files.length fc, .slice qa d.queue.length qc, .int .i64 d.quota, .int .i64 d.fuse, .bool d.dead] 25 (0, 0)) := by rw [← hW1]; exact alloc1_heap _ _
  have hG : Gr w W1 := by rw [← hW1]; exact Gr.alloc (Gr.refl w) _
  have HX := Lib.hid (And.intro (hf.gr hG) (hq.gr hG))
  have HU := Lib.hid (show ∀ X, Gr W1 X → Calls Try.prog 16 #[.agg #[.slice fa d.files.length fc, .slice qa d.queue.length qc, .int .i64 d.quota, .int .i64 d.fuse, .bool d.dead]] X fun e w' => e = .returned (.int .i64 (usedN d)) ∧ Gr X w' from
    fun X hX => usedR_any X _ d (hxo.gr (hG.trans hX)) hc ht)
  have hR : rightB d = (chainB [] d.files && d.queue.all fineB && decide (d.queue.length ≤ 400) && decide (0 ≤ d.quota) && decide (0 ≤ d.fuse) && decide ((usedN d : Int) ≤ d.quota)) := rfl
  have hus : (usedN d : Int) ≤ 1000000000000 := by have := size_now d; omega
  have HR := Lib.hid hR
  have HB := Lib.hid hB
  have HG := Lib.hid hG
  have HW := Lib.hid hW1
  have HCX := Lib.hid (show ∀ X, Gr W1 X → (Gr W1 X ∧ X.cell? ⟨w.heap.size, 0, none⟩ = some (.slice fa d.files.length fc) ∧ X.cell? ⟨w.heap.size, 1, none⟩ = some (.slice qa d.queue.length qc) ∧ X.cell? ⟨w.heap.size, 2, none⟩ = some (.int .i64 d.quota) ∧ X.cell? ⟨w.heap.size, 3, none⟩ = some (.int .i64 d.fuse) ∧ X.cell? ⟨w.heap.size, 4, none⟩ = some (.bool d.dead)) from
    fun X hg => ⟨hg, cell_block (hg.same hB) rfl, cell_block (hg.same hB) rfl, cell_block (hg.same hB) rfl, cell_block (hg.same hB) rfl, cell_block (hg.same hB) rfl⟩)
  clear hxo hf hq hR hB hG hW1 hc ht hnum
  generalize rightB d = r at *
  generalize hun : usedN d = un at *
  clear hun
  show Calls Try.prog 7 #[.agg #[.slice fa d.files.length fc, .slice qa d.queue.length qc, .int .i64 d.quota, .int .i64 d.fuse, .bool d.dead]] w _
  go_enter Try.func7, Try.ntmps7
  go_upto_region 1 with fail
  rw [HW.out]
  go_wp2_with fail
  go_loopw [3] (fun k wr => ∃ (j : Nat) (last : Bs), k = .int .i64 j ∧ j ≤ d.files.length ∧ (j = 0 → last = []) ∧ (∀ i g, j = i + 1 → d.files[i]? = some g → g.name = last) ∧ chainB [] d.files = chainB last (d.files.drop j) ∧ Gr W1 wr) (fun k _ => d.files.length - (intOf k).toNat)
  case atStart => exact ⟨0, [], rfl, Nat.zero_le _, fun _ => rfl, fun i g h => by omega, rfl, Gr.refl _⟩
  case round =>
    obtain ⟨j, last, rfl, hj, hl0, hl1, hch, hg⟩ := hrel
    obtain ⟨-, k0, k1, -⟩ := HCX.out wr hg
    have HGr := Lib.hid hg
    by_cases hlt : j < d.files.length
    · obtain ⟨f, hfj⟩ : ∃ f, d.files[j]? = some f := ⟨_, List.getElem?_eq_getElem hlt⟩
      obtain ⟨b, of, c', hv, _, _, _, hrows⟩ := HX.out.1.some (by omega)
      simp only [Value.slice.injEq, true_and] at hv
      obtain ⟨rfl, rfl⟩ := hv
      obtain ⟨bv, hr, hbv⟩ := hrows j f hfj
      have HN := Lib.hid (show ∀ X, Gr W1 X → X.cell? ⟨b, of + j * 2, none⟩ = some (strV f.name) from fun X hX => later_cell hX (hr 0 _ rfl))
      have hch2 := hch.trans (chain_drop hfj last)
      have HCH := Lib.hid hch2
      have HL := Lib.hid (And.intro hl0 (And.intro hl1 hfj))
      have HRW := Lib.hid hrows
      have hj0 : (0 : Int) ≤ (j : Int) := by omega
      have hj1 : (j : Int) < (d.files.length : Int) := by omega
      clear hr hbv hrows hfj hch hch2 hg hl0 hl1 k1
      by_cases hne : f.name = []
      · have hb1 : eqB f.name [] = true := eqB_iff.2 hne
        have HRF := Lib.hid (show r = false from HR.out.trans (by
          have h0 : ltB last f.name = false := Bool.eq_false_iff.2 fun h => bs_nlt_nil last (hne ▸ ltB_iff.1 h)
          rw [HCH.out, h0]; rfl))
        clear hne
        go_wp2_with fail
        refine wp_region_qw (fun X => Gr W1 X ∧ X.cell? ⟨w.heap.size, 0, none⟩ = some (.slice (some ⟨b, of, none⟩) d.files.length fc) ∧ X.cell? ⟨b, of + j * 2, none⟩ = some (strV f.name)) (by kernel_rfl) (by kernel_rfl) (⟨HGr.out.drew, (HCX.out _ HGr.out.drew).2.1, HN.out _ HGr.out.drew⟩) ?_
        iterate 8
          refine qw_takeE (by kernel_rfl) ?_
          apply Exists.intro
          refine ⟨?_, ?_⟩
          · rintro X ⟨hg, e0, e1⟩
            first
            | (go_simp; done)
            | (go_simp; with_reducible rfl)
          simp only [Act.put, List.setIfInBounds_toArray, List.set_cons_zero, List.set_cons_succ]
        iterate 18
          refine qw_skip (by kernel_rfl) ?_
          simp only [Act.put, List.setIfInBounds_toArray, List.set_cons_zero, List.set_cons_succ]
        refine qw_takeE (by kernel_rfl) ?_
        apply Exists.intro
        refine ⟨?_, ?_⟩
        · rintro X ⟨hg, e0, e1⟩
          first
          | (go_simp; done)
          | (go_simp; with_reducible rfl)
        simp only [Act.put, List.setIfInBounds_toArray, List.set_cons_zero, List.set_cons_succ]
        refine qw_nil ?_
        rintro X ⟨hg, -⟩
        have HGX := Lib.hid hg
        clear hg
        go_wp2
        go_ret
        exact ⟨by rw [HRF.out]; rfl, HG.out.trans HGX.out⟩
      · have hb1 : eqB f.name [] = false := Bool.eq_false_iff.2 fun h => hne (eqB_iff.1 h)
        by_cases hjz : j = 0
        · have hgt : decide (0 < j) = false := decide_eq_false (by omega)
          have hgt' : ¬ (0 < j) := by omega
          have HNX := Lib.hid (show chainB [] d.files = chainB f.name (d.files.drop (j + 1)) from by
            have h0 : ltB last f.name = true := ltB_iff.2 (by rw [HL.out.1 hjz]; exact bs_nil.2 hne)
            rw [HCH.out, h0, Bool.true_and])
          clear hne hjz
          go_wp2_with fail
          refine wp_region_qw (fun X => Gr W1 X ∧ X.cell? ⟨w.heap.size, 0, none⟩ = some (.slice (some ⟨b, of, none⟩) d.files.length fc) ∧ X.cell? ⟨b, of + j * 2, none⟩ = some (strV f.name)) (by kernel_rfl) (by kernel_rfl) (⟨HGr.out.drew, (HCX.out _ HGr.out.drew).2.1, HN.out _ HGr.out.drew⟩) ?_
          iterate 11
            refine qw_takeE (by kernel_rfl) ?_
            apply Exists.intro
            refine ⟨?_, ?_⟩
            · rintro X ⟨hg, e0, e1⟩
              first
              | (go_simp; done)
              | (go_simp; with_reducible rfl)
            simp only [Act.put, List.setIfInBounds_toArray, List.set_cons_zero, List.set_cons_succ]
          iterate 14
            refine qw_skip (by kernel_rfl) ?_
            simp only [Act.put, List.setIfInBounds_toArray, List.set_cons_zero, List.set_cons_succ]
          iterate 2
            refine qw_takeE (by kernel_rfl) ?_
            apply Exists.intro
            refine ⟨?_, ?_⟩
            · rintro X ⟨hg, e0, e1⟩
              first
              | (go_simp; done)
              | (go_simp; with_reducible rfl)
            simp only [Act.put, List.setIfInBounds_toArray, List.set_cons_zero, List.set_cons_succ]
          refine qw_nil ?_
          rintro X ⟨hg, -⟩
          have HGX := Lib.hid hg
          clear hg
          go_wp2
          exact ⟨⟨j + 1, f.name, by go_num, by omega, by omega, fun i g hi hgi => by rw [show i = j by omega, HL.out.2.2] at hgi; cases hgi; rfl, HNX.out, HGX.out⟩, by simp [intOf]; omega⟩
        · obtain ⟨i, hi⟩ : ∃ i, j = i + 1 := ⟨j - 1, by omega⟩
          have hgt : decide (0 < j) = true := decide_eq_true (by omega)
          have hgt' : 0 < j := by omega
          have hwj : IntKind.i64.wrap ((j : Int) - 1) = (i : Int) := by rw [IntKind.wrap_i64]; omega
          obtain ⟨g, hgi⟩ : ∃ g, d.files[i]? = some g := ⟨_, List.getElem?_eq_getElem (by omega)⟩
          have hlg := HL.out.2.1 i g hi hgi
          obtain ⟨gv, hr2, _⟩ := HRW.out i g hgi
          have HM := Lib.hid (show ∀ X, Gr W1 X → X.cell? ⟨b, of + i * 2, none⟩ = some (strV g.name) from fun X hX => later_cell hX (hr2 0 _ rfl))
          have hi0 : (0 : Int) ≤ (i : Int) := by omega
          have hi1 : (i : Int) < (d.files.length : Int) := by omega
          have HCG := Lib.hid (show chainB [] d.files = (ltB g.name f.name && chainB f.name (d.files.drop (j + 1))) from by rw [HCH.out, hlg])
          clear hne hjz hr2 hgi hlg
          have hJ := Lib.hid hi
          clear hi
          have hlb : ltB g.name f.name = true ∨ ltB g.name f.name = false := by cases ltB g.name f.name <;> simp
          rcases hlb with hlb | hlb
          · have HNX := Lib.hid (show chainB [] d.files = chainB f.name (d.files.drop (j + 1)) from by rw [HCG.out, hlb, Bool.true_and])
            go_wp2_with fail
            refine wp_region_qw (fun X => Gr W1 X ∧ X.cell? ⟨w.heap.size, 0, none⟩ = some (.slice (some ⟨b, of, none⟩) d.files.length fc) ∧ X.cell? ⟨b, of + j * 2, none⟩ = some (strV f.name) ∧ X.cell? ⟨b, of + i * 2, none⟩ = some (strV g.name)) (by kernel_rfl) (by kernel_rfl) (⟨HGr.out.drew, (HCX.out _ HGr.out.drew).2.1, HN.out _ HGr.out.drew, HM.out _ HGr.out.drew⟩) ?_
            iterate 27
              refine qw_takeE (by kernel_rfl) ?_
              apply Exists.intro
              refine ⟨?_, ?_⟩
              · rintro X ⟨hg, e0, e1, e2⟩
                first
                | (go_simp; done)
                | (go_simp; with_reducible rfl)
              simp only [Act.put, List.setIfInBounds_toArray, List.set_cons_zero, List.set_cons_succ]
            refine qw_nil ?_
            rintro X ⟨hg, -⟩
            have HGX := Lib.hid hg
            clear hg
            go_wp2
            exact ⟨⟨j + 1, f.name, by go_num, by omega, by omega, fun i g hi hgi => by rw [show i = j by omega, HL.out.2.2] at hgi; cases hgi; rfl, HNX.out, HGX.out⟩, by simp [intOf]; omega⟩
          · have HRF := Lib.hid (show r = false from HR.out.trans (by rw [HCG.out, hlb]; rfl))
            go_wp2_with fail
            refine wp_region_qw (fun X => Gr W1 X ∧ X.cell? ⟨w.heap.size, 0, none⟩ = some (.slice (some ⟨b, of, none⟩) d.files.length fc) ∧ X.cell? ⟨b, of + j * 2, none⟩ = some (strV f.name) ∧ X.cell? ⟨b, of + i * 2, none⟩ = some (strV g.name)) (by kernel_rfl) (by kernel_rfl) (⟨HGr.out.drew, (HCX.out _ HGr.out.drew).2.1, HN.out _ HGr.out.drew, HM.out _ HGr.out.drew⟩) ?_
            iterate 27
              refine qw_takeE (by kernel_rfl) ?_
              apply Exists.intro
              refine ⟨?_, ?_⟩
              · rintro X ⟨hg, e0, e1, e2⟩
                first
                | (go_simp; done)
                | (go_simp; with_reducible rfl)
              simp only [Act.put, List.setIfInBounds_toArray, List.set_cons_zero, List.set_cons_succ]
            refine qw_nil ?_
            rintro X ⟨hg, -⟩
            have HGX := Lib.hid hg
            clear hg
            go_wp2
            go_ret
            exact ⟨by rw [HRF.out]; rfl, HG.out.trans HGX.out⟩
    · have HR2 := Lib.hid (show r = (d.queue.all fineB && decide (d.queue.length ≤ 400) && decide (0 ≤ d.quota) && decide (0 ≤ d.fuse) && decide ((un : Int) ≤ d.quota)) from HR.out.trans (by rw [hch, List.drop_of_length_le (by omega)]; simp [chainB]))
      clear hg hl0 hl1 hch
      go_wp2
      go_loopw [4] (fun k wr => ∃ i : Nat, k = .int .i64 i ∧ i ≤ d.queue.length ∧ (∀ o ∈ d.queue.take i, fineB o = true) ∧ Gr W1 wr) (fun k _ => d.queue.length - (intOf k).toNat)
      case atStart => exact ⟨0, rfl, Nat.zero_le _, by simp, HGr.out⟩
      case round =>
        obtain ⟨i, rfl, hi, hall, hg⟩ := hrel
        clear k0 k1
        obtain ⟨-, k0, k1, -⟩ := HCX.out wr hg
        have HH := Lib.hid (And.intro hall hg)
        clear hall hg
        by_cases hlti : i < d.queue.length
        · obtain ⟨o, hoi⟩ : ∃ o, d.queue[i]? = some o := ⟨_, List.getElem?_eq_getElem hlti⟩
          obtain ⟨b2, o2, c2, hv2, _, _, _, hrows⟩ := HX.out.2.some (by omega)
          simp only [Value.slice.injEq, true_and] at hv2
          obtain ⟨rfl, rfl⟩ := hv2
          obtain ⟨bv, hr1, hbv⟩ := hrows i o hoi
          obtain ⟨ba, bc, rfl, _, _⟩ := IsBy.len hbv
          have m0 := later_cell HH.out.2 (show W1.cell? ⟨b2, o2 + i * 4, none⟩ = some (.int .u8 o.kind) from hr1 0 _ rfl)
          have m1 := later_cell HH.out.2 (show W1.cell? ⟨b2, o2 + i * 4 + 1, none⟩ = some (strV o.name) from hr1 1 _ rfl)
          have m2 := later_cell HH.out.2 (show W1.cell? ⟨b2, o2 + i * 4 + 2, none⟩ = some (strV o.to) from hr1 2 _ rfl)
          have m3 := later_cell HH.out.2 (show W1.cell? ⟨b2, o2 + i * 4 + 3, none⟩ = some (.slice ba o.data.length bc) from hr1 3 _ rfl)
          have HFI := Lib.hid (fineR_any wr o (.slice ba o.data.length bc))
          have HOI := Lib.hid hoi
          clear hrows hr1 hbv hoi
          go_wp2_with fail
          refine HFI.out.mono ?_
          rintro e w3 ⟨rfl, hg3⟩
          have HG3 := Lib.hid (HH.out.2.trans hg3)
          clear hg3 HFI
          have hfb : fineB o = true ∨ fineB o = false := by cases fineB o <;> simp
          rcases hfb with hfb | hfb
          · rw [hfb]
            have HUP := Lib.hid (upF_step (P := fun o => fineB o = true) HH.out.1 HOI.out hfb)
            clear hfb
            go_wp2
            exact ⟨⟨i + 1, by go_num, by omega, HUP.out, HG3.out⟩, by simp [intOf]; omega⟩
          · rw [hfb]
            have HRF := Lib.hid (show r = false from HR2.out.trans (by
              have h0 : d.queue.all fineB = false := List.all_eq_false.2 ⟨o, List.mem_of_getElem? HOI.out, by rw [hfb]; decide⟩
              rw [h0]; rfl))
            clear hfb
            go_wp2
            go_ret
            exact ⟨by rw [HRF.out]; rfl, HG.out.trans HG3.out⟩
        · have hall : d.queue.all fineB = true := List.all_eq_true.2 fun o ho => HH.out.1 o (by rw [List.take_of_length_le (by omega)]; exact ho)
          have HR3 := Lib.hid (show r = (decide (d.queue.length ≤ 400) && decide (0 ≤ d.quota) && decide (0 ≤ d.fuse) && decide ((un : Int) ≤ d.quota)) from HR2.out.trans (by rw [hall, Bool.true_and]))
          clear hall HX
          by_cases hl : (d.queue.length : Int) ≤ 400
          · by_cases hqt : 0 ≤ d.quota
            · by_cases hfu : 0 ≤ d.fuse
              · have HRF := Lib.hid (show r = decide ((un : Int) ≤ d.quota) from HR3.out.trans (by rw [decide_eq_true (show d.queue.length ≤ 400 by omega), decide_eq_true hqt, decide_eq_true hfu]; simp))
                go_wp2_with fail
                refine wp_region_qw (fun X => Gr W1 X ∧ X.cell? ⟨w.heap.size, 0, none⟩ = some (.slice fa d.files.length fc) ∧ X.cell? ⟨w.heap.size, 1, none⟩ = some (.slice qa d.queue.length qc) ∧ X.cell? ⟨w.heap.size, 2, none⟩ = some (.int .i64 d.quota) ∧ X.cell? ⟨w.heap.size, 3, none⟩ = some (.int .i64 d.fuse) ∧ X.cell? ⟨w.heap.size, 4, none⟩ = some (.bool d.dead)) (by kernel_rfl) (by kernel_rfl) (HCX.out _ HH.out.2.drew) ?_
                iterate 22
                  refine qw_takeE (by kernel_rfl) ?_
                  apply Exists.intro
                  refine ⟨?_, ?_⟩
                  · rintro X ⟨hg, e0, e1, e2, e3, e4⟩
                    first
                    | (go_simp; done)
                    | (go_simp; with_reducible rfl)
                    | (go_simp; go_at_call 16; refine (HU.out _ hg).mono ?_; rintro e y1 ⟨rfl, hgy⟩; refine ⟨?_, HCX.out _ (hg.trans hgy)⟩; with_reducible rfl)
                  simp only [Act.put, List.setIfInBounds_toArray, List.set_cons_zero, List.set_cons_succ]
                refine qw_nil ?_
                rintro X ⟨hg, -⟩
                have HGX := Lib.hid hg
                clear hg
                go_wp2
                go_ret
                exact ⟨by rw [HRF.out]; simp, HG.out.trans HGX.out⟩
              · have HRF := Lib.hid (show r = false from HR3.out.trans (by rw [decide_eq_false hfu]; simp))
                have hfb : decide (0 ≤ d.fuse) = false := decide_eq_false hfu
                go_wp2_with fail
                refine wp_region_qw (fun X => Gr W1 X ∧ X.cell? ⟨w.heap.size, 0, none⟩ = some (.slice fa d.files.length fc) ∧ X.cell? ⟨w.heap.size, 1, none⟩ = some (.slice qa d.queue.length qc) ∧ X.cell? ⟨w.heap.size, 2, none⟩ = some (.int .i64 d.quota) ∧ X.cell? ⟨w.heap.size, 3, none⟩ = some (.int .i64 d.fuse) ∧ X.cell? ⟨w.heap.size, 4, none⟩ = some (.bool d.dead)) (by kernel_rfl) (by kernel_rfl) (HCX.out _ HH.out.2.drew) ?_
                iterate 15
                  refine qw_takeE (by kernel_rfl) ?_
                  apply Exists.intro
                  refine ⟨?_, ?_⟩
                  · rintro X ⟨hg, e0, e1, e2, e3, e4⟩
                    first
                    | (go_simp; done)
                    | (go_simp; with_reducible rfl)
                    | (go_simp; go_at_call 16; refine (HU.out _ hg).mono ?_; rintro e y1 ⟨rfl, hgy⟩; refine ⟨?_, HCX.out _ (hg.trans hgy)⟩; with_reducible rfl)
                  simp only [Act.put, List.setIfInBounds_toArray, List.set_cons_zero, List.set_cons_succ]
                iterate 5
                  refine qw_skip (by kernel_rfl) ?_
                  simp only [Act.put, List.setIfInBounds_toArray, List.set_cons_zero, List.set_cons_succ]
                iterate 2
                  refine qw_takeE (by kernel_rfl) ?_
                  apply Exists.intro
                  refine ⟨?_, ?_⟩
                  · rintro X ⟨hg, e0, e1, e2, e3, e4⟩
                    first
                    | (go_simp; done)
                    | (go_simp; with_reducible rfl)
                    | (go_simp; go_at_call 16; refine (HU.out _ hg).mono ?_; rintro e y1 ⟨rfl, hgy⟩; refine ⟨?_, HCX.out _ (hg.trans hgy)⟩; with_reducible rfl)
                  simp only [Act.put, List.setIfInBounds_toArray, List.set_cons_zero, List.set_cons_succ]
                refine qw_nil ?_
                rintro X ⟨hg, -⟩
                have HGX := Lib.hid hg
                clear hg
                go_wp2
                go_ret
                exact ⟨by rw [HRF.out]; simp, HG.out.trans HGX.out⟩
            · have HRF := Lib.hid (show r = false from HR3.out.trans (by rw [decide_eq_false hqt]; simp))
              have hqb : decide (0 ≤ d.quota) = false := decide_eq_false hqt
              go_wp2_with fail
              refine wp_region_qw (fun X => Gr W1 X ∧ X.cell? ⟨w.heap.size, 0, none⟩ = some (.slice fa d.files.length fc) ∧ X.cell? ⟨w.heap.size, 1, none⟩ = some (.slice qa d.queue.length qc) ∧ X.cell? ⟨w.heap.size, 2, none⟩ = some (.int .i64 d.quota) ∧ X.cell? ⟨w.heap.size, 3, none⟩ = some (.int .i64 d.fuse) ∧ X.cell? ⟨w.heap.size, 4, none⟩ = some (.bool d.dead)) (by kernel_rfl) (by kernel_rfl) (HCX.out _ HH.out.2.drew) ?_
              iterate 10
                refine qw_takeE (by kernel_rfl) ?_
                apply Exists.intro
                refine ⟨?_, ?_⟩
                · rintro X ⟨hg, e0, e1, e2, e3, e4⟩
                  first
                  | (go_simp; done)
                  | (go_simp; with_reducible rfl)
                  | (go_simp; go_at_call 16; refine (HU.out _ hg).mono ?_; rintro e y1 ⟨rfl, hgy⟩; refine ⟨?_, HCX.out _ (hg.trans hgy)⟩; with_reducible rfl)
                simp only [Act.put, List.setIfInBounds_toArray, List.set_cons_zero, List.set_cons_succ]
              iterate 3
                refine qw_skip (by kernel_rfl) ?_
                simp only [Act.put, List.setIfInBounds_toArray, List.set_cons_zero, List.set_cons_succ]
              iterate 2
                refine qw_takeE (by kernel_rfl) ?_
                apply Exists.intro
                refine ⟨?_, ?_⟩
                · rintro X ⟨hg, e0, e1, e2, e3, e4⟩
                  first
                  | (go_simp; done)
                  | (go_simp; with_reducible rfl)
                  | (go_simp; go_at_call 16; refine (HU.out _ hg).mono ?_; rintro e y1 ⟨rfl, hgy⟩; refine ⟨?_, HCX.out _ (hg.trans hgy)⟩; with_reducible rfl)
                simp only [Act.put, List.setIfInBounds_toArray, List.set_cons_zero, List.set_cons_succ]
              iterate 5
                refine qw_skip (by kernel_rfl) ?_
                simp only [Act.put, List.setIfInBounds_toArray, List.set_cons_zero, List.set_cons_succ]
              iterate 2
                refine qw_takeE (by kernel_rfl) ?_
                apply Exists.intro
                refine ⟨?_, ?_⟩
                · rintro X ⟨hg, e0, e1, e2, e3, e4⟩
                  first
                  | (go_simp; done)
                  | (go_simp; with_reducible rfl)
                  | (go_simp; go_at_call 16; refine (HU.out _ hg).mono ?_; rintro e y1 ⟨rfl, hgy⟩; refine ⟨?_, HCX.out _ (hg.trans hgy)⟩; with_reducible rfl)
                simp only [Act.put, List.setIfInBounds_toArray, List.set_cons_zero, List.set_cons_succ]
              refine qw_nil ?_
              rintro X ⟨hg, -⟩
              have HGX := Lib.hid hg
              clear hg
              go_wp2
              go_ret
              exact ⟨by rw [HRF.out]; simp, HG.out.trans HGX.out⟩
          · have HRF := Lib.hid (show r = false from HR3.out.trans (by rw [decide_eq_false (show ¬ d.queue.length ≤ 400 by omega)]; simp))
            have hlb : decide ((d.queue.length : Int) ≤ 400) = false := decide_eq_false hl
            go_wp2_with fail
            refine wp_region_qw (fun X => Gr W1 X ∧ X.cell? ⟨w.heap.size, 0, none⟩ = some (.slice fa d.files.length fc) ∧ X.cell? ⟨w.heap.size, 1, none⟩ = some (.slice qa d.queue.length qc) ∧ X.cell? ⟨w.heap.size, 2, none⟩ = some (.int .i64 d.quota) ∧ X.cell? ⟨w.heap.size, 3, none⟩ = some (.int .i64 d.fuse) ∧ X.cell? ⟨w.heap.size, 4, none⟩ = some (.bool d.dead)) (by kernel_rfl) (by kernel_rfl) (HCX.out _ HH.out.2.drew) ?_
            iterate 5
              refine qw_takeE (by kernel_rfl) ?_
              apply Exists.intro
              refine ⟨?_, ?_⟩
              · rintro X ⟨hg, e0, e1, e2, e3, e4⟩
                first
                | (go_simp; done)
                | (go_simp; with_reducible rfl)
                | (go_simp; go_at_call 16; refine (HU.out _ hg).mono ?_; rintro e y1 ⟨rfl, hgy⟩; refine ⟨?_, HCX.out _ (hg.trans hgy)⟩; with_reducible rfl)
              simp only [Act.put, List.setIfInBounds_toArray, List.set_cons_zero, List.set_cons_succ]
            iterate 3
              refine qw_skip (by kernel_rfl) ?_
              simp only [Act.put, List.setIfInBounds_toArray, List.set_cons_zero, List.set_cons_succ]
            iterate 2
              refine qw_takeE (by kernel_rfl) ?_
              apply Exists.intro
              refine ⟨?_, ?_⟩
              · rintro X ⟨hg, e0, e1, e2, e3, e4⟩
                first
                | (go_simp; done)
                | (go_simp; with_reducible rfl)
                | (go_simp; go_at_call 16; refine (HU.out _ hg).mono ?_; rintro e y1 ⟨rfl, hgy⟩; refine ⟨?_, HCX.out _ (hg.trans hgy)⟩; with_reducible rfl)
              simp only [Act.put, List.setIfInBounds_toArray, List.set_cons_zero, List.set_cons_succ]
            iterate 3
              refine qw_skip (by kernel_rfl) ?_
              simp only [Act.put, List.setIfInBounds_toArray, List.set_cons_zero, List.set_cons_succ]
            iterate 2
              refine qw_takeE (by kernel_rfl) ?_
              apply Exists.intro
              refine ⟨?_, ?_⟩
              · rintro X ⟨hg, e0, e1, e2, e3, e4⟩
                first
                | (go_simp; done)
                | (go_simp; with_reducible rfl)
                | (go_simp; go_at_call 16; refine (HU.out _ hg).mono ?_; rintro e y1 ⟨rfl, hgy⟩; refine ⟨?_, HCX.out _ (hg.trans hgy)⟩; with_reducible rfl)
              simp only [Act.put, List.setIfInBounds_toArray, List.set_cons_zero, List.set_cons_succ]
            iterate 5
              refine qw_skip (by kernel_rfl) ?_
              simp only [Act.put, List.setIfInBounds_toArray, List.set_cons_zero, List.set_cons_succ]
            iterate 2
              refine qw_takeE (by kernel_rfl) ?_
              apply Exists.intro
              refine ⟨?_, ?_⟩
              · rintro X ⟨hg, e0, e1, e2, e3, e4⟩
                first
                | (go_simp; done)
                | (go_simp; with_reducible rfl)
                | (go_simp; go_at_call 16; refine (HU.out _ hg).mono ?_; rintro e y1 ⟨rfl, hgy⟩; refine ⟨?_, HCX.out _ (hg.trans hgy)⟩; with_reducible rfl)
              simp only [Act.put, List.setIfInBounds_toArray, List.set_cons_zero, List.set_cons_succ]
            refine qw_nil ?_
            rintro X ⟨hg, -⟩
            have HGX := Lib.hid hg
            clear hg
            go_wp2
            go_ret
            exact ⟨by rw [HRF.out]; simp, HG.out.trans HGX.out⟩
end Go.Proofs.Ytbgcjbpkgijmeaa
