/-
  Walks of the document's answer: the same files.
  Conditions: none beyond those typed at each theorem.
-/
import Derived.Test.YtbgcjbpkgijmeaaDd
import Derived.Test.YtbgcjbpkgijmeaaQb
namespace Go.Proofs.Ytbgcjbpkgijmeaa
open Go Go.RowKit
attribute [local go_sem high] str_eql str_neq str_lss str_leq str_geq str_eql0 str_neq0

theorem take_ext_step {α : Type} {xs ys : List α} {j : Nat} {x y : α} (h : xs.take j = ys.take j) (hx : xs[j]? = some x) (hy : ys[j]? = some y) (e : x = y) : xs.take (j + 1) = ys.take (j + 1) := by
  rw [List.take_add_one, List.take_add_one, hx, hy, h, e]
theorem ne_at {α : Type} {xs ys : List α} {j : Nat} {x y : α} (hx : xs[j]? = some x) (hy : ys[j]? = some y) (e : x ≠ y) : xs ≠ ys := fun h => by
  rw [h, hy] at hx; injection hx with hx; exact e hx.symm

set_option maxRecDepth 100000 in
set_option maxHeartbeats 4000000 in
theorem files_any (w : World) {S T : Nat → Prop} (va vb : Value) (a b : List Fl) (hx : IsFls S w va a) (hy : IsFls T w vb b) (hl : a.length ≤ 2000000) :
    Calls Try.prog 13 #[va, vb] w fun e w' => e = .returned (.bool (decide (a = b))) ∧ Gr w w' := by
  obtain ⟨aa, ac, rfl, hac, ham⟩ := hx.len
  obtain ⟨ba, bc, rfl, hbc, hbm⟩ := hy.len
  have HX := Lib.hid hx
  have HY := Lib.hid hy
  clear hx hy
  by_cases hlen : a.length = b.length
  · obtain ⟨n, hn⟩ : ∃ n, n = a.length := ⟨_, rfl⟩
    have HLA := Lib.hid hn.symm
    have HLB := Lib.hid (hlen.symm.trans hn.symm)
    rw [← hlen, ← hn]
    rw [← hn] at hl hac
    rw [← hlen, ← hn] at hbc
    rw [← hn] at HX
    rw [← hlen, ← hn] at HY
    clear hn hlen
    go_enter Try.func13, Try.ntmps13
    go_wp2
    go_loopw [5] (fun k wr => ∃ j : Nat, k = .int .i64 j ∧ j ≤ n ∧ a.take j = b.take j ∧ Gr w wr) (fun k _ => n - (intOf k).toNat)
    case atStart => exact ⟨0, rfl, by omega, rfl, Gr.refl _⟩
    case round =>
      obtain ⟨j, rfl, hj, he, hg⟩ := hrel
      have HE := Lib.hid (And.intro he hg)
      clear he hg
      by_cases hlt : j < n
      · obtain ⟨f, hf⟩ : ∃ f, a[j]? = some f := ⟨_, List.getElem?_eq_getElem (by have := HLA.out; omega)⟩
        obtain ⟨g, hgj⟩ : ∃ g, b[j]? = some g := ⟨_, List.getElem?_eq_getElem (by have := HLB.out; omega)⟩
        obtain ⟨b1, o1, c1, hv1, _, _, _, hrows1⟩ := HX.out.some (by have := HLA.out; omega)
        obtain ⟨b2, o2, c2, hv2, _, _, _, hrows2⟩ := HY.out.some (by have := HLB.out; omega)
        simp only [Value.slice.injEq] at hv1 hv2
        obtain ⟨rfl, -, rfl⟩ := hv1
        obtain ⟨rfl, -, rfl⟩ := hv2
        obtain ⟨fv, hr1, hb1⟩ := hrows1 j f hf
        obtain ⟨gv, hr2, hb2⟩ := hrows2 j g hgj
        obtain ⟨fa, fc, rfl, _, _⟩ := IsBy.len hb1
        obtain ⟨ga, gc, rfl, _, _⟩ := IsBy.len hb2
        have HKY := Lib.hid (show ∀ X, Gr w X → (Gr w X ∧ X.cell? ⟨b1, o1 + j * 2, none⟩ = some (strV f.name) ∧ X.cell? ⟨b1, o1 + j * 2 + 1, none⟩ = some (.slice fa f.data.length fc) ∧ X.cell? ⟨b2, o2 + j * 2, none⟩ = some (strV g.name) ∧ X.cell? ⟨b2, o2 + j * 2 + 1, none⟩ = some (.slice ga g.data.length gc) ∧ (convert 30 9 (.slice fa f.data.length fc)).run Try.prog X = .ok (strV f.data) X ∧ (convert 30 9 (.slice ga g.data.length gc)).run Try.prog X = .ok (strV g.data) X) from fun X hX => ⟨hX, later_cell hX (hr1 0 _ rfl), later_cell hX (hr1 1 _ rfl), later_cell hX (hr2 0 _ rfl), later_cell hX (hr2 1 _ rfl), conv_by (IsBy.gr hX hb1), conv_by (IsBy.gr hX hb2)⟩)
        have HF := Lib.hid (And.intro hf hgj)
        clear hr1 hr2 hb1 hb2 hrows1 hrows2 hf hgj
        by_cases hn : f.name = g.name
        · have hn1 : neB f.name g.name = false := Bool.eq_false_iff.2 fun h => neB_iff.1 h hn
          by_cases hd : f.data = g.data
          · have hd1 : neB f.data g.data = false := Bool.eq_false_iff.2 fun h => neB_iff.1 h hd
            have HQ := Lib.hid (show f = g by cases f; cases g; simp_all)
            clear hn hd
            go_wp2_with fail
            refine wp_region_qw (fun X => Gr w X ∧ X.cell? ⟨b1, o1 + j * 2, none⟩ = some (strV f.name) ∧ X.cell? ⟨b1, o1 + j * 2 + 1, none⟩ = some (.slice fa f.data.length fc) ∧ X.cell? ⟨b2, o2 + j * 2, none⟩ = some (strV g.name) ∧ X.cell? ⟨b2, o2 + j * 2 + 1, none⟩ = some (.slice ga g.data.length gc) ∧ (convert 30 9 (.slice fa f.data.length fc)).run Try.prog X = .ok (strV f.data) X ∧ (convert 30 9 (.slice ga g.data.length gc)).run Try.prog X = .ok (strV g.data) X) (by kernel_rfl) (by kernel_rfl) (HKY.out _ (HE.out.2.drew)) ?_
            iterate 26
              refine qw_takeE (by kernel_rfl) ?_
              apply Exists.intro
              refine ⟨?_, ?_⟩
              · rintro X ⟨hg, e0, e1, e2, e3, e4, e5⟩
                first
                | (go_simp; done)
                | (go_simp; with_reducible rfl)
              simp only [Act.put, List.setIfInBounds_toArray, List.set_cons_zero, List.set_cons_succ]
            refine qw_nil ?_
            rintro X ⟨hg, -⟩
            have HGX := Lib.hid hg
            clear hg HKY
            go_wp2
            exact ⟨⟨j + 1, by go_num, by omega, take_ext_step HE.out.1 HF.out.1 HF.out.2 HQ.out, HGX.out⟩, by simp [intOf]; omega⟩
          · have hd1 : neB f.data g.data = true := neB_iff.2 hd
            have HQ := Lib.hid (ne_at HF.out.1 HF.out.2 (show f ≠ g from fun h => hd (by rw [h])))
            clear hn hd
            go_wp2_with fail
            refine wp_region_qw (fun X => Gr w X ∧ X.cell? ⟨b1, o1 + j * 2, none⟩ = some (strV f.name) ∧ X.cell? ⟨b1, o1 + j * 2 + 1, none⟩ = some (.slice fa f.data.length fc) ∧ X.cell? ⟨b2, o2 + j * 2, none⟩ = some (strV g.name) ∧ X.cell? ⟨b2, o2 + j * 2 + 1, none⟩ = some (.slice ga g.data.length gc) ∧ (convert 30 9 (.slice fa f.data.length fc)).run Try.prog X = .ok (strV f.data) X ∧ (convert 30 9 (.slice ga g.data.length gc)).run Try.prog X = .ok (strV g.data) X) (by kernel_rfl) (by kernel_rfl) (HKY.out _ (HE.out.2.drew)) ?_
            iterate 26
              refine qw_takeE (by kernel_rfl) ?_
              apply Exists.intro
              refine ⟨?_, ?_⟩
              · rintro X ⟨hg, e0, e1, e2, e3, e4, e5⟩
                first
                | (go_simp; done)
                | (go_simp; with_reducible rfl)
              simp only [Act.put, List.setIfInBounds_toArray, List.set_cons_zero, List.set_cons_succ]
            refine qw_nil ?_
            rintro X ⟨hg, -⟩
            have HGX := Lib.hid hg
            clear hg HKY
            go_wp2
            go_ret
            exact ⟨by rw [decide_eq_false HQ.out]; rfl, HGX.out⟩
        · have hn1 : neB f.name g.name = true := neB_iff.2 hn
          have HQ := Lib.hid (ne_at HF.out.1 HF.out.2 (show f ≠ g from fun h => hn (by rw [h])))
          clear hn
          go_wp2_with fail
          refine wp_region_qw (fun X => Gr w X ∧ X.cell? ⟨b1, o1 + j * 2, none⟩ = some (strV f.name) ∧ X.cell? ⟨b1, o1 + j * 2 + 1, none⟩ = some (.slice fa f.data.length fc) ∧ X.cell? ⟨b2, o2 + j * 2, none⟩ = some (strV g.name) ∧ X.cell? ⟨b2, o2 + j * 2 + 1, none⟩ = some (.slice ga g.data.length gc) ∧ (convert 30 9 (.slice fa f.data.length fc)).run Try.prog X = .ok (strV f.data) X ∧ (convert 30 9 (.slice ga g.data.length gc)).run Try.prog X = .ok (strV g.data) X) (by kernel_rfl) (by kernel_rfl) (HKY.out _ (HE.out.2.drew)) ?_
          iterate 12
            refine qw_takeE (by kernel_rfl) ?_
            apply Exists.intro
            refine ⟨?_, ?_⟩
            · rintro X ⟨hg, e0, e1, e2, e3, e4, e5⟩
              first
              | (go_simp; done)
              | (go_simp; with_reducible rfl)
            simp only [Act.put, List.setIfInBounds_toArray, List.set_cons_zero, List.set_cons_succ]
          iterate 13
            refine qw_skip (by kernel_rfl) ?_
            simp only [Act.put, List.setIfInBounds_toArray, List.set_cons_zero, List.set_cons_succ]
          refine qw_takeE (by kernel_rfl) ?_
          apply Exists.intro
          refine ⟨?_, ?_⟩
          · rintro X ⟨hg, e0, e1, e2, e3, e4, e5⟩
            first
            | (go_simp; done)
            | (go_simp; with_reducible rfl)
          simp only [Act.put, List.setIfInBounds_toArray, List.set_cons_zero, List.set_cons_succ]
          refine qw_nil ?_
          rintro X ⟨hg, -⟩
          have HGX := Lib.hid hg
          clear hg HKY
          go_wp2
          go_ret
          exact ⟨by rw [decide_eq_false HQ.out]; rfl, HGX.out⟩
      · go_wp2
        go_ret
        refine ⟨?_, HE.out.2⟩
        have := HE.out.1
        rw [List.take_of_length_le (by have := HLA.out; omega), List.take_of_length_le (by have := HLB.out; omega)] at this
        simp [this]
  · have hne : a ≠ b := fun h => hlen (by rw [h])
    have hd : decide (a = b) = false := decide_eq_false hne
    rw [hd]
    have hlb : ((a.length : Int) != (b.length : Int)) = true := by simp; omega
    clear HX HY hne hd
    go_enter Try.func13, Try.ntmps13
    go_wp2
    go_ret
    exact ⟨rfl, Gr.refl _⟩
end Go.Proofs.Ytbgcjbpkgijmeaa
