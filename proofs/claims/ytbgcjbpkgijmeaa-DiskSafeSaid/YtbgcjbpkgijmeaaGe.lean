/-
  Walk of the document's answer: files with one, over what is there.
  Conditions: none beyond those typed at each theorem.
-/
import Derived.Test.YtbgcjbpkgijmeaaGd
import Derived.Test.YtbgcjbpkgijmeaaQb
namespace Go.Proofs.Ytbgcjbpkgijmeaa
open Go Go.RowKit
attribute [local go_sem ↓] Go.wp_at_zero Go.wp_at_succ
attribute [local go_sem high] str_eql str_neq str_lss str_leq str_geq str_eql0 str_neq0

theorem cells_src {w : World} {b : Nat} {l : List Value} {t : TypeId} {f : Nat × Nat} (h : w.heap[b]? = some (.cells l.toArray t f)) : ∀ ad, (some ⟨b, 0, none⟩ : Option Addr) = some ad → ∀ (j : Nat) u, l[j]? = some u → w.cell? (ad.add j) = some u := by
  intro ad had j u hu
  cases had
  have h1 := cell_block h (j := j) (v := u) (by simpa using hu)
  have h2 : (⟨b, 0, none⟩ : Addr).add j = ⟨b, j, none⟩ := by unfold Addr.add; by_cases hj : j = 0 <;> simp [hj]
  rw [h2]; exact h1
theorem grown_block {A B : World} {row : Option Nat} (h : A.grownBy B row) {k : Nat} {o : Obj} (hk : A.heap[k]? = some o) (hn : row ≠ some k) : B.heap[k]? = some o :=
  (h.block k (Array.getElem?_eq_some_iff.1 hk).1 (fun e => hn e.symm)).trans hk

set_option maxRecDepth 100000 in
set_option maxHeartbeats 4000000 in
theorem with_any (w : World) {S T : Nat → Prop} (v bv : Value) (l : List Fl) (f : Fl) (hx : IsFls S w v l) (hb : IsBy T w bv f.data) (hok : f.name.length ≤ maxLen) (hs : Srt l) (hl : l.length ≤ 1900000) :
    Calls Try.prog 58 #[v, .agg #[strV f.name, bv]] w fun e w' => ∃ v', e = .returned v' ∧ IsFls (· < w'.heap.size) w' v' (put l f) ∧ Gr w w' := by
  obtain ⟨i0, hi0, hz0, hz1, hz2⟩ := info_parts Try.info40
  obtain ⟨a, c, rfl, hcap, hcm⟩ := hx.len
  obtain ⟨ba, bc, rfl, _, _⟩ := hb.len
  obtain ⟨W1, hW1⟩ : ∃ W1, w.alloc (.cells #[strV f.name, .slice ba f.data.length bc] 40) = W1 := ⟨_, rfl⟩
  have hG : Gr w W1 := by rw [← hW1]; exact Gr.alloc (Gr.refl w) _
  have hB : W1.heap[w.heap.size]? = some (.cells #[strV f.name, .slice ba f.data.length bc] 40 (0, 0)) := by rw [← hW1]; exact alloc1_heap _ _
  have c0 := cell_block hB (j := 0) (v := strV f.name) rfl
  have HFN := Lib.hid (find_any W1 _ l f.name (hx.gr hG) (by omega))
  have HWO := Lib.hid (show ∀ r : Int, -1 ≤ r ∧ r < l.length → Calls Try.prog 72 #[.slice a l.length c, .int .i64 r] W1 fun e w' => ∃ v', e = .returned v' ∧ IsFls (· < w'.heap.size) w' v' (withoutP l r) ∧ Gr W1 w' from fun r hr => without_any W1 _ l r (hx.gr hG) (by omega) hr)
  have HC := Lib.hid (show ∀ X, Gr W1 X → X.cell? ⟨w.heap.size, 0, none⟩ = some (strV f.name) ∧ X.cell? ⟨w.heap.size, 1, none⟩ = some (.slice ba f.data.length bc) from fun X hX => ⟨cell_block (hX.same hB) rfl, cell_block (hX.same hB) rfl⟩)
  have HBY := Lib.hid (IsBy.gr hG hb)
  have HOK := Lib.hid hok
  have HS := Lib.hid hs
  have HW := Lib.hid hW1
  have HG := Lib.hid hG
  have HZ := Lib.hid hG.size
  have hdl := len_del_le l f.name
  have hlL : (del l f.name).length ≤ 1900000 := by omega
  have HP := Lib.hid (show put l f = ins f (del l f.name) from rfl)
  have HWD := Lib.hid (show ∀ r, FoundAt l f.name r → withoutP l r = del l f.name from fun r h => without_del hs h)
  clear hx hb hok hs hG hB hW1 hdl hcm
  generalize put l f = PL at *
  generalize del l f.name = L at *
  go_enter Try.func58, Try.ntmps58
  go_upto_region 1 with fail
  rw [HW.out]
  go_wp2_with fail
  refine HFN.out.mono ?_
  rintro e w2 ⟨r, rfl, hfa, rfl⟩
  have HFA := Lib.hid hfa
  have hrl := hfa.lt
  have HWO2 := Lib.hid (HWO.out r hrl)
  clear hfa HWO HFN
  go_wp2_with fail
  refine HWO2.out.mono ?_
  rintro e w3 ⟨v3, rfl, hx3, hg3⟩
  rw [HWD.out r HFA.out] at hx3
  obtain ⟨a3, c3, rfl, hcap3, hcm3⟩ := hx3.len
  unfold maxLen at hcm3
  have HX3 := Lib.hid hx3
  have HG3 := Lib.hid hg3
  clear hx3 hg3 HWO2 HWD HFA hrl c0
  go_wp2
  go_loopw [5] (fun k wr => ∃ j : Nat, k = .int .i64 j ∧ j ≤ L.length ∧ (∀ g ∈ L.take j, g.name < f.name) ∧ Gr w3 wr) (fun k _ => L.length - (intOf k).toNat)
  case atStart => exact ⟨0, rfl, by omega, by simp, Gr.refl _⟩
  case round =>
    obtain ⟨j, rfl, hj, ht, hg⟩ := hrel
    have HT := Lib.hid (And.intro ht hg)
    clear ht hg
    by_cases hlt : j < L.length
    · obtain ⟨g, hgj⟩ : ∃ g, L[j]? = some g := ⟨_, List.getElem?_eq_getElem hlt⟩
      obtain ⟨b1, o1, c1, hv1, _, _, _, hrows⟩ := HX3.out.some (by omega)
      simp only [Value.slice.injEq, true_and] at hv1
      obtain ⟨rfl, rfl⟩ := hv1
      obtain ⟨gv, hr1, _⟩ := hrows j g hgj
      have HKY := Lib.hid (show ∀ X, Gr w3 X → (Gr w3 X ∧ X.cell? ⟨b1, o1 + j * 2, none⟩ = some (strV g.name) ∧ X.cell? ⟨w.heap.size, 0, none⟩ = some (strV f.name)) from fun X hX => ⟨hX, later_cell hX (hr1 0 _ rfl), (HC.out X (HG3.out.trans hX)).1⟩)
      have HGJ := Lib.hid hgj
      clear hrows hr1 hgj
      by_cases hn : g.name < f.name
      · have hn1 : ltB g.name f.name = true := ltB_iff.2 hn
        have HN := Lib.hid hn
        clear hn
        go_wp2_with fail
        refine wp_region_qw (fun X => Gr w3 X ∧ X.cell? ⟨b1, o1 + j * 2, none⟩ = some (strV g.name) ∧ X.cell? ⟨w.heap.size, 0, none⟩ = some (strV f.name)) (by kernel_rfl) (by kernel_rfl) (HKY.out _ (HT.out.2.drew)) ?_
        iterate 14
          refine qw_takeE (by kernel_rfl) ?_
          apply Exists.intro
          refine ⟨?_, ?_⟩
          · rintro X ⟨hg, e0, e1⟩
            first
            | (go_simp; done)
            | (go_simp; with_reducible rfl)
          simp only [Act.put, List.setIfInBounds_toArray, List.set_cons_zero, List.set_cons_succ]
        refine qw_nil ?_
        rintro X ⟨hg, -⟩
        have HGX := Lib.hid hg
        clear hg HKY
        go_wp2
        exact ⟨⟨j + 1, by go_num, by omega, take_mem_step HGJ.out HT.out.1 HN.out, HGX.out⟩, by simp [intOf]; omega⟩
      · have hn1 : ltB g.name f.name = false := Bool.eq_false_iff.2 fun h => hn (ltB_iff.1 h)
        have HPL := Lib.hid (show PL = L.take j ++ f :: L.drop j from HP.out.trans (ins_at (by omega) HT.out.1 (fun x hx => by rw [HGJ.out] at hx; cases hx; exact hn)))
        clear hn
        go_wp2_with fail
        refine wp_region_qw (fun X => Gr w3 X ∧ X.cell? ⟨b1, o1 + j * 2, none⟩ = some (strV g.name) ∧ X.cell? ⟨w.heap.size, 0, none⟩ = some (strV f.name)) (by kernel_rfl) (by kernel_rfl) (HKY.out _ (HT.out.2.drew)) ?_
        iterate 14
          refine qw_takeE (by kernel_rfl) ?_
          apply Exists.intro
          refine ⟨?_, ?_⟩
          · rintro X ⟨hg, e0, e1⟩
            first
            | (go_simp; done)
            | (go_simp; with_reducible rfl)
          simp only [Act.put, List.setIfInBounds_toArray, List.set_cons_zero, List.set_cons_succ]
        refine qw_nil ?_
        rintro X ⟨hg, -⟩
        have HGX := Lib.hid hg
        clear hg HKY
        obtain ⟨ys1, s1, -, z1, r1⟩ := src_of_fls ((HX3.out.gr HGX.out).take (k := j) (by omega))
        obtain ⟨a2, ha2, hx2⟩ := row_from (HX3.out.gr HGX.out) (k := j) (by omega)
        subst ha2
        simp only [Option.map_some, Addr.add_mid] at hx2
        obtain ⟨ys2, s2, -, z2, r2⟩ := src_of_fls hx2
        have l1 : ys1.length = j * 2 := by rw [s1.len, List.length_take]; congr 1; omega
        have l2 : ys2.length = (L.length - j) * 2 := by rw [s2.len, List.length_drop]
        obtain ⟨N, hN⟩ : ∃ N, (L.take j ++ [f] ++ L.drop j).length = N := ⟨_, rfl⟩
        have HV := Lib.hid (show j + 1 + (L.length - j) = N by rw [← hN]; simp only [List.length_append, List.length_take, List.length_drop, List.length_cons, List.length_nil]; omega)
        have HN := Lib.hid hN
        have sf : Src X [f] (flCells f (.slice ba f.data.length bc)) := Src.one (IsBy.gr (HG3.out.trans HGX.out) (IsBy.mono HBY.out fun _ _ => trivial)) HOK.out
        have HSR := Lib.hid ((s1.append sf).append s2)
        have HL1 := Lib.hid l1
        have HL2 := Lib.hid l2
        have HZ1 := Lib.hid z1
        have HZ2 := Lib.hid z2
        have HR1 := Lib.hid r1
        have HR2 := Lib.hid r2
        have HU1 := Lib.hid s1.one_cell
        have HU2 := Lib.hid s2.one_cell
        have HUF := Lib.hid (flE.one f (.slice ba f.data.length bc) rfl)
        have hgA : Gr X (X.alloc (.cells #[] 40)) := Gr.alloc (Gr.refl _) _
        have hgB : Gr X ((X.alloc (.cells #[] 40)).alloc (.cells #[strV f.name, .slice ba f.data.length bc] 40)) := Gr.alloc hgA _
        have hgC : Gr X ((X.alloc (.cells #[strV f.name, .slice ba f.data.length bc] 40)).alloc (.cells #[] 40)) := Gr.alloc (Gr.alloc (Gr.refl _) _) _
        have zA : (X.alloc (.cells #[] 40)).heap.size = X.heap.size + 1 := by simp
        have zF : (X.alloc (.cells #[strV f.name, .slice ba f.data.length bc] 40)).heap.size = X.heap.size + 1 := by simp
        have HO1 : Hid ((X.alloc (.cells #[] 40)).drew.ownsRow X.heap.size 40 2 (.slice (some ⟨X.heap.size, 0, none⟩) 0 0) 0 []) := Lib.hid (ownsRow_dat (Gr.kp (Gr.drew (Gr.refl _)) _) (owns_empty 40 2 rfl (Nat.le_refl _)))
        have HO2 : Hid (((X.alloc (.cells #[] 40)).alloc (.cells #[strV f.name, .slice ba f.data.length bc] 40)).drew.ownsRow X.heap.size 40 2 (.slice (some ⟨X.heap.size, 0, none⟩) 0 0) 0 []) := Lib.hid (ownsRow_dat (Gr.kp (Gr.drew (Gr.alloc (Gr.refl _) _)) _) (owns_empty 40 2 rfl (Nat.le_refl _)))
        have HO3 : Hid (((X.alloc (.cells #[strV f.name, .slice ba f.data.length bc] 40)).alloc (.cells #[] 40)).drew.ownsRow X.heap.size 40 2 (.slice (some ⟨X.heap.size + 1, 0, none⟩) 0 0) 0 []) := Lib.hid (ownsRow_dat (Gr.kp (Gr.drew (Gr.refl _)) _) (owns_empty 40 2 zF.symm (by omega)))
        have HGW1 := Lib.hid (show ∀ w8, (X.alloc (.cells #[] 40)).drew.grownBy w8 (Value.ownBlock (.slice (some ⟨X.heap.size, 0, none⟩) 0 0)) → Gr X w8 from
          fun w8 hgr => Below.grown (Gr.drew hgA) hgr (Gr.drew hgA).size (by intro q hq; simp [Value.ownBlock] at hq; omega))
        have HGW2 := Lib.hid (show ∀ w8, ((X.alloc (.cells #[] 40)).alloc (.cells #[strV f.name, .slice ba f.data.length bc] 40)).drew.grownBy w8 (Value.ownBlock (.slice (some ⟨X.heap.size, 0, none⟩) 0 0)) → Gr X w8 ∧ w8.heap[X.heap.size + 1]? = some (.cells #[strV f.name, .slice ba f.data.length bc] 40 (0, 0)) from
          fun w8 hgr => ⟨Below.grown (Gr.drew hgB) hgr (Gr.drew hgB).size (by intro q hq; simp [Value.ownBlock] at hq; omega), grown_block hgr (show ((X.alloc (.cells #[] 40)).alloc (.cells #[strV f.name, .slice ba f.data.length bc] 40)).heap[X.heap.size + 1]? = _ from alloc2_heap1 _ _ _) (by simp [Value.ownBlock])⟩)
        have HGW3 := Lib.hid (show ∀ w8, ((X.alloc (.cells #[strV f.name, .slice ba f.data.length bc] 40)).alloc (.cells #[] 40)).drew.grownBy w8 (Value.ownBlock (.slice (some ⟨X.heap.size + 1, 0, none⟩) 0 0)) → Gr X w8 ∧ w8.heap[X.heap.size]? = some (.cells #[strV f.name, .slice ba f.data.length bc] 40 (0, 0)) from
          fun w8 hgr => ⟨Below.grown (Gr.drew hgC) hgr (Gr.drew hgC).size (by intro q hq; simp [Value.ownBlock] at hq; omega), grown_block hgr (show ((X.alloc (.cells #[strV f.name, .slice ba f.data.length bc] 40)).alloc (.cells #[] 40)).heap[X.heap.size]? = _ from alloc2_heap0 _ _ _) (by simp [Value.ownBlock])⟩)
        have HGA := Lib.hid (Gr.drew hgA)
        have HGB := Lib.hid (Gr.drew hgB)
        have HGC := Lib.hid (Gr.drew hgC)
        obtain ⟨k0, k1⟩ := HC.out _ (HG3.out.trans HGX.out)
        obtain ⟨kA0, kA1⟩ := HC.out _ ((HG3.out.trans HGX.out).trans hgA)
        have HB1 := Lib.hid (show 0 + j ≤ maxLen by unfold maxLen; omega)
        have HB2 := Lib.hid (show (0 + j) * 40 ≤ 140737488355328 by omega)
        have HB3 := Lib.hid (show j + 1 ≤ maxLen by unfold maxLen; omega)
        have HB4 := Lib.hid (show (j + 1) * 40 ≤ 140737488355328 by omega)
        have HB5 := Lib.hid (show j + 1 + (L.length - j) ≤ maxLen by unfold maxLen; omega)
        have HB6 := Lib.hid (show (j + 1 + (L.length - j)) * 40 ≤ 140737488355328 by omega)
        have hkc : j ≤ c3 := by omega
        have hkn : j ≤ L.length := hj
        have hk0 : 0 ≤ (j : Int) := by omega
        clear s1 s2 sf hx2 l1 l2 z1 z2 r1 r2 hN hgA hgB hgC zA zF
        go_upto_region 5 with fail
        go_region_law (first
          | (refine step_append_src rfl (.tmp 28) (.tmp 31) 22 rfl X.heap.size 40 i0 _ 2 40 Try.underlying22 hi0 hz0 hz1 hz2 rfl (by decide) (.slice (some ⟨X.heap.size, 0, none⟩) 0 0) 0 [] (by simp [Act.eval]) HO1.out (some ⟨b1, o1, none⟩) j c3 ys1 (by simp [Act.eval]) HL1.out HZ1.out (HR1.out _ HGA.out) HU1.out HB1.out HB2.out HGA.out.size ?_
             intro a8 c8 w8 hown8 hgrow8
             have hg8 := HGW1.out w8 hgrow8
             obtain ⟨m0, m1⟩ := HC.out _ ((HG3.out.trans HGX.out).trans hg8)
             have HFR := Lib.hid (alloc1_heap w8 (.cells #[strV f.name, .slice ba f.data.length bc] 40))
             have HG8 := Lib.hid (Gr.alloc hg8 (.cells #[strV f.name, .slice ba f.data.length bc] 40))
             have ho8 := Lib.hid (show (w8.alloc (.cells #[strV f.name, .slice ba f.data.length bc] 40)).ownsRow X.heap.size 40 2 (.slice a8 (0 + j) c8) (0 + j) ([] ++ ys1) from hown8.alloc _)
             clear hown8 hgrow8 hg8
             simp only [Nat.zero_add, List.nil_append] at ho8 ⊢)
          | (refine step_append_src rfl (.tmp 28) (.tmp 31) 22 rfl X.heap.size 40 i0 _ 2 40 Try.underlying22 hi0 hz0 hz1 hz2 rfl (by decide) (.slice (some ⟨X.heap.size, 0, none⟩) 0 0) 0 [] (by simp [Act.eval]) HO2.out (some ⟨b1, o1, none⟩) j c3 ys1 (by simp [Act.eval]) HL1.out HZ1.out (HR1.out _ HGB.out) HU1.out HB1.out HB2.out HGB.out.size ?_
             intro a8 c8 w8 hown8 hgrow8
             have HFR := Lib.hid (HGW2.out w8 hgrow8).2
             have HG8 := Lib.hid (HGW2.out w8 hgrow8).1
             have ho8 := Lib.hid hown8
             clear hown8 hgrow8
             simp only [Nat.zero_add, List.nil_append] at ho8 ⊢)
          | (refine step_append_src rfl (.tmp 28) (.tmp 31) 22 rfl X.heap.size 40 i0 _ 2 40 Try.underlying22 hi0 hz0 hz1 hz2 rfl (by decide) (.slice (some ⟨X.heap.size + 1, 0, none⟩) 0 0) 0 [] (by simp [Act.eval]) HO3.out (some ⟨b1, o1, none⟩) j c3 ys1 (by simp [Act.eval]) HL1.out HZ1.out (HR1.out _ HGC.out) HU1.out HB1.out HB2.out HGC.out.size ?_
             intro a8 c8 w8 hown8 hgrow8
             have HFR := Lib.hid (HGW3.out w8 hgrow8).2
             have HG8 := Lib.hid (HGW3.out w8 hgrow8).1
             have ho8 := Lib.hid hown8
             clear hown8 hgrow8
             simp only [Nat.zero_add, List.nil_append] at ho8 ⊢)
          | (refine step_append_src rfl (.tmp 32) (.tmp 34) 22 rfl X.heap.size 40 i0 _ 2 40 Try.underlying22 hi0 hz0 hz1 hz2 rfl (by decide) (.slice a8 j c8) j ys1 (by simp [Act.eval]) ho8.out (some ⟨w8.heap.size, 0, none⟩) 1 1 (flCells f (.slice ba f.data.length bc)) (by simp [Act.eval]) rfl (by intro h; cases h) (cells_src (l := [strV f.name, .slice ba f.data.length bc]) HFR.out) HUF.out HB3.out HB4.out HG8.out.size ?_
             intro a9 c9 w9 hown9 hgrow9
             have HG9 := Lib.hid (show Gr X w9 from Below.grown HG8.out hgrow9 HG8.out.size fun q hq => (owns_elem ho8.out hq).1)
             have ho9 := Lib.hid hown9
             clear hown9 hgrow9 ho8 HG8 HFR)
          | (refine step_append_src rfl (.tmp 32) (.tmp 34) 22 rfl X.heap.size 40 i0 _ 2 40 Try.underlying22 hi0 hz0 hz1 hz2 rfl (by decide) (.slice a8 j c8) j ys1 (by simp [Act.eval]) ho8.out (some ⟨X.heap.size + 1, 0, none⟩) 1 1 (flCells f (.slice ba f.data.length bc)) (by simp [Act.eval]) rfl (by intro h; cases h) (cells_src (l := [strV f.name, .slice ba f.data.length bc]) HFR.out) HUF.out HB3.out HB4.out HG8.out.size ?_
             intro a9 c9 w9 hown9 hgrow9
             have HG9 := Lib.hid (show Gr X w9 from Below.grown HG8.out hgrow9 HG8.out.size fun q hq => (owns_elem ho8.out hq).1)
             have ho9 := Lib.hid hown9
             clear hown9 hgrow9 ho8 HG8 HFR)
          | (refine step_append_src rfl (.tmp 32) (.tmp 34) 22 rfl X.heap.size 40 i0 _ 2 40 Try.underlying22 hi0 hz0 hz1 hz2 rfl (by decide) (.slice a8 j c8) j ys1 (by simp [Act.eval]) ho8.out (some ⟨X.heap.size, 0, none⟩) 1 1 (flCells f (.slice ba f.data.length bc)) (by simp [Act.eval]) rfl (by intro h; cases h) (cells_src (l := [strV f.name, .slice ba f.data.length bc]) HFR.out) HUF.out HB3.out HB4.out HG8.out.size ?_
             intro a9 c9 w9 hown9 hgrow9
             have HG9 := Lib.hid (show Gr X w9 from Below.grown HG8.out hgrow9 HG8.out.size fun q hq => (owns_elem ho8.out hq).1)
             have ho9 := Lib.hid hown9
             clear hown9 hgrow9 ho8 HG8 HFR)
          | (refine step_append_src rfl (.tmp 35) (.tmp 38) 22 rfl X.heap.size 40 i0 _ 2 40 Try.underlying22 hi0 hz0 hz1 hz2 rfl (by decide) (.slice a9 (j + 1) c9) (j + 1) (ys1 ++ flCells f (.slice ba f.data.length bc)) (by simp [Act.eval]) ho9.out (if c3 = j then (some ⟨b1, o1, none⟩) else some ⟨b1, o1 + j * 2, none⟩) (L.length - j) (c3 - j) ys2 (by simp [Act.eval]) HL2.out HZ2.out (HR2.out _ HG9.out) HU2.out HB5.out HB6.out HG9.out.size ?_
             intro a10 c10 w10 hown10 hgrow10
             have hg10 := Lib.hid (Below.grown HG9.out hgrow10 HG9.out.size fun q hq => (owns_elem ho9.out hq).1)
             rw [HV.out] at hown10
             have ho10 := Lib.hid hown10
             rw [HV.out]
             clear hown10 hgrow10 ho9 HG9))
        all_goals
          go_wp2
          all_goals
            go_ret
            refine ⟨_, rfl, ?_, HG.out.trans (HG3.out.trans (HGX.out.trans hg10.out))⟩
            rw [HPL.out, show L.take j ++ f :: L.drop j = L.take j ++ [f] ++ L.drop j by simp]
            exact fls_of_src HSR.out (by rw [HN.out]; exact ho10.out) hg10.out
    · have HPL := Lib.hid (show PL = L.take j ++ f :: L.drop j from HP.out.trans (ins_at (by omega) HT.out.1 (fun x hx => by rw [List.getElem?_eq_none (by omega)] at hx; cases hx)))
      go_wp2_with fail
      refine wp_region_qw (fun X => Gr w3 X) (by kernel_rfl) (by kernel_rfl) (HT.out.2.drew) ?_
      iterate 5
        refine qw_takeE (by kernel_rfl) ?_
        apply Exists.intro
        refine ⟨?_, ?_⟩
        · rintro X hg
          first
          | (go_simp; done)
          | (go_simp; with_reducible rfl)
        simp only [Act.put, List.setIfInBounds_toArray, List.set_cons_zero, List.set_cons_succ]
      iterate 8
        refine qw_skip (by kernel_rfl) ?_
        simp only [Act.put, List.setIfInBounds_toArray, List.set_cons_zero, List.set_cons_succ]
      refine qw_takeE (by kernel_rfl) ?_
      apply Exists.intro
      refine ⟨?_, ?_⟩
      · rintro X hg
        first
        | (go_simp; done)
        | (go_simp; with_reducible rfl)
      simp only [Act.put, List.setIfInBounds_toArray, List.set_cons_zero, List.set_cons_succ]
      refine qw_nil ?_
      intro X hg
      have HGX := Lib.hid hg
      clear hg
      obtain ⟨ys1, s1, -, z1, r1⟩ := src_of_fls ((HX3.out.gr HGX.out).take (k := j) (by omega))
      obtain ⟨a2, ha2, hx2⟩ := row_from (HX3.out.gr HGX.out) (k := j) (by omega)
      subst ha2
      obtain ⟨ys2, s2, -, z2, r2⟩ := src_of_fls hx2
      have l1 : ys1.length = j * 2 := by rw [s1.len, List.length_take]; congr 1; omega
      have l2 : ys2.length = (L.length - j) * 2 := by rw [s2.len, List.length_drop]
      obtain ⟨N, hN⟩ : ∃ N, (L.take j ++ [f] ++ L.drop j).length = N := ⟨_, rfl⟩
      have HV := Lib.hid (show j + 1 + (L.length - j) = N by rw [← hN]; simp only [List.length_append, List.length_take, List.length_drop, List.length_cons, List.length_nil]; omega)
      have HN := Lib.hid hN
      have sf : Src X [f] (flCells f (.slice ba f.data.length bc)) := Src.one (IsBy.gr (HG3.out.trans HGX.out) (IsBy.mono HBY.out fun _ _ => trivial)) HOK.out
      have HSR := Lib.hid ((s1.append sf).append s2)
      have HL1 := Lib.hid l1
      have HL2 := Lib.hid l2
      have HZ1 := Lib.hid z1
      have HZ2 := Lib.hid z2
      have HR1 := Lib.hid r1
      have HR2 := Lib.hid r2
      have HU1 := Lib.hid s1.one_cell
      have HU2 := Lib.hid s2.one_cell
      have HUF := Lib.hid (flE.one f (.slice ba f.data.length bc) rfl)
      have hgA : Gr X (X.alloc (.cells #[] 40)) := Gr.alloc (Gr.refl _) _
      have hgB : Gr X ((X.alloc (.cells #[] 40)).alloc (.cells #[strV f.name, .slice ba f.data.length bc] 40)) := Gr.alloc hgA _
      have hgC : Gr X ((X.alloc (.cells #[strV f.name, .slice ba f.data.length bc] 40)).alloc (.cells #[] 40)) := Gr.alloc (Gr.alloc (Gr.refl _) _) _
      have zA : (X.alloc (.cells #[] 40)).heap.size = X.heap.size + 1 := by simp
      have zF : (X.alloc (.cells #[strV f.name, .slice ba f.data.length bc] 40)).heap.size = X.heap.size + 1 := by simp
      have HO1 : Hid ((X.alloc (.cells #[] 40)).drew.ownsRow X.heap.size 40 2 (.slice (some ⟨X.heap.size, 0, none⟩) 0 0) 0 []) := Lib.hid (ownsRow_dat (Gr.kp (Gr.drew (Gr.refl _)) _) (owns_empty 40 2 rfl (Nat.le_refl _)))
      have HO2 : Hid (((X.alloc (.cells #[] 40)).alloc (.cells #[strV f.name, .slice ba f.data.length bc] 40)).drew.ownsRow X.heap.size 40 2 (.slice (some ⟨X.heap.size, 0, none⟩) 0 0) 0 []) := Lib.hid (ownsRow_dat (Gr.kp (Gr.drew (Gr.alloc (Gr.refl _) _)) _) (owns_empty 40 2 rfl (Nat.le_refl _)))
      have HO3 : Hid (((X.alloc (.cells #[strV f.name, .slice ba f.data.length bc] 40)).alloc (.cells #[] 40)).drew.ownsRow X.heap.size 40 2 (.slice (some ⟨X.heap.size + 1, 0, none⟩) 0 0) 0 []) := Lib.hid (ownsRow_dat (Gr.kp (Gr.drew (Gr.refl _)) _) (owns_empty 40 2 zF.symm (by omega)))
      have HGW1 := Lib.hid (show ∀ w8, (X.alloc (.cells #[] 40)).drew.grownBy w8 (Value.ownBlock (.slice (some ⟨X.heap.size, 0, none⟩) 0 0)) → Gr X w8 from
        fun w8 hgr => Below.grown (Gr.drew hgA) hgr (Gr.drew hgA).size (by intro q hq; simp [Value.ownBlock] at hq; omega))
      have HGW2 := Lib.hid (show ∀ w8, ((X.alloc (.cells #[] 40)).alloc (.cells #[strV f.name, .slice ba f.data.length bc] 40)).drew.grownBy w8 (Value.ownBlock (.slice (some ⟨X.heap.size, 0, none⟩) 0 0)) → Gr X w8 ∧ w8.heap[X.heap.size + 1]? = some (.cells #[strV f.name, .slice ba f.data.length bc] 40 (0, 0)) from
        fun w8 hgr => ⟨Below.grown (Gr.drew hgB) hgr (Gr.drew hgB).size (by intro q hq; simp [Value.ownBlock] at hq; omega), grown_block hgr (show ((X.alloc (.cells #[] 40)).alloc (.cells #[strV f.name, .slice ba f.data.length bc] 40)).heap[X.heap.size + 1]? = _ from alloc2_heap1 _ _ _) (by simp [Value.ownBlock])⟩)
      have HGW3 := Lib.hid (show ∀ w8, ((X.alloc (.cells #[strV f.name, .slice ba f.data.length bc] 40)).alloc (.cells #[] 40)).drew.grownBy w8 (Value.ownBlock (.slice (some ⟨X.heap.size + 1, 0, none⟩) 0 0)) → Gr X w8 ∧ w8.heap[X.heap.size]? = some (.cells #[strV f.name, .slice ba f.data.length bc] 40 (0, 0)) from
        fun w8 hgr => ⟨Below.grown (Gr.drew hgC) hgr (Gr.drew hgC).size (by intro q hq; simp [Value.ownBlock] at hq; omega), grown_block hgr (show ((X.alloc (.cells #[strV f.name, .slice ba f.data.length bc] 40)).alloc (.cells #[] 40)).heap[X.heap.size]? = _ from alloc2_heap0 _ _ _) (by simp [Value.ownBlock])⟩)
      have HGA := Lib.hid (Gr.drew hgA)
      have HGB := Lib.hid (Gr.drew hgB)
      have HGC := Lib.hid (Gr.drew hgC)
      obtain ⟨k0, k1⟩ := HC.out _ (HG3.out.trans HGX.out)
      obtain ⟨kA0, kA1⟩ := HC.out _ ((HG3.out.trans HGX.out).trans hgA)
      have HB1 := Lib.hid (show 0 + j ≤ maxLen by unfold maxLen; omega)
      have HB2 := Lib.hid (show (0 + j) * 40 ≤ 140737488355328 by omega)
      have HB3 := Lib.hid (show j + 1 ≤ maxLen by unfold maxLen; omega)
      have HB4 := Lib.hid (show (j + 1) * 40 ≤ 140737488355328 by omega)
      have HB5 := Lib.hid (show j + 1 + (L.length - j) ≤ maxLen by unfold maxLen; omega)
      have HB6 := Lib.hid (show (j + 1 + (L.length - j)) * 40 ≤ 140737488355328 by omega)
      have hkc : j ≤ c3 := by omega
      have hkn : j ≤ L.length := hj
      have hk0 : 0 ≤ (j : Int) := by omega
      clear s1 s2 sf hx2 l1 l2 z1 z2 r1 r2 hN hgA hgB hgC zA zF
      go_upto_region 5 with fail
      go_region_law (first
        | (refine step_append_src rfl (.tmp 28) (.tmp 31) 22 rfl X.heap.size 40 i0 _ 2 40 Try.underlying22 hi0 hz0 hz1 hz2 rfl (by decide) (.slice (some ⟨X.heap.size, 0, none⟩) 0 0) 0 [] (by simp [Act.eval]) HO1.out a3 j c3 ys1 (by simp [Act.eval]) HL1.out HZ1.out (HR1.out _ HGA.out) HU1.out HB1.out HB2.out HGA.out.size ?_
           intro a8 c8 w8 hown8 hgrow8
           have hg8 := HGW1.out w8 hgrow8
           obtain ⟨m0, m1⟩ := HC.out _ ((HG3.out.trans HGX.out).trans hg8)
           have HFR := Lib.hid (alloc1_heap w8 (.cells #[strV f.name, .slice ba f.data.length bc] 40))
           have HG8 := Lib.hid (Gr.alloc hg8 (.cells #[strV f.name, .slice ba f.data.length bc] 40))
           have ho8 := Lib.hid (show (w8.alloc (.cells #[strV f.name, .slice ba f.data.length bc] 40)).ownsRow X.heap.size 40 2 (.slice a8 (0 + j) c8) (0 + j) ([] ++ ys1) from hown8.alloc _)
           clear hown8 hgrow8 hg8
           simp only [Nat.zero_add, List.nil_append] at ho8 ⊢)
        | (refine step_append_src rfl (.tmp 28) (.tmp 31) 22 rfl X.heap.size 40 i0 _ 2 40 Try.underlying22 hi0 hz0 hz1 hz2 rfl (by decide) (.slice (some ⟨X.heap.size, 0, none⟩) 0 0) 0 [] (by simp [Act.eval]) HO2.out a3 j c3 ys1 (by simp [Act.eval]) HL1.out HZ1.out (HR1.out _ HGB.out) HU1.out HB1.out HB2.out HGB.out.size ?_
           intro a8 c8 w8 hown8 hgrow8
           have HFR := Lib.hid (HGW2.out w8 hgrow8).2
           have HG8 := Lib.hid (HGW2.out w8 hgrow8).1
           have ho8 := Lib.hid hown8
           clear hown8 hgrow8
           simp only [Nat.zero_add, List.nil_append] at ho8 ⊢)
        | (refine step_append_src rfl (.tmp 28) (.tmp 31) 22 rfl X.heap.size 40 i0 _ 2 40 Try.underlying22 hi0 hz0 hz1 hz2 rfl (by decide) (.slice (some ⟨X.heap.size + 1, 0, none⟩) 0 0) 0 [] (by simp [Act.eval]) HO3.out a3 j c3 ys1 (by simp [Act.eval]) HL1.out HZ1.out (HR1.out _ HGC.out) HU1.out HB1.out HB2.out HGC.out.size ?_
           intro a8 c8 w8 hown8 hgrow8
           have HFR := Lib.hid (HGW3.out w8 hgrow8).2
           have HG8 := Lib.hid (HGW3.out w8 hgrow8).1
           have ho8 := Lib.hid hown8
           clear hown8 hgrow8
           simp only [Nat.zero_add, List.nil_append] at ho8 ⊢)
        | (refine step_append_src rfl (.tmp 32) (.tmp 34) 22 rfl X.heap.size 40 i0 _ 2 40 Try.underlying22 hi0 hz0 hz1 hz2 rfl (by decide) (.slice a8 j c8) j ys1 (by simp [Act.eval]) ho8.out (some ⟨w8.heap.size, 0, none⟩) 1 1 (flCells f (.slice ba f.data.length bc)) (by simp [Act.eval]) rfl (by intro h; cases h) (cells_src (l := [strV f.name, .slice ba f.data.length bc]) HFR.out) HUF.out HB3.out HB4.out HG8.out.size ?_
           intro a9 c9 w9 hown9 hgrow9
           have HG9 := Lib.hid (show Gr X w9 from Below.grown HG8.out hgrow9 HG8.out.size fun q hq => (owns_elem ho8.out hq).1)
           have ho9 := Lib.hid hown9
           clear hown9 hgrow9 ho8 HG8 HFR)
        | (refine step_append_src rfl (.tmp 32) (.tmp 34) 22 rfl X.heap.size 40 i0 _ 2 40 Try.underlying22 hi0 hz0 hz1 hz2 rfl (by decide) (.slice a8 j c8) j ys1 (by simp [Act.eval]) ho8.out (some ⟨X.heap.size + 1, 0, none⟩) 1 1 (flCells f (.slice ba f.data.length bc)) (by simp [Act.eval]) rfl (by intro h; cases h) (cells_src (l := [strV f.name, .slice ba f.data.length bc]) HFR.out) HUF.out HB3.out HB4.out HG8.out.size ?_
           intro a9 c9 w9 hown9 hgrow9
           have HG9 := Lib.hid (show Gr X w9 from Below.grown HG8.out hgrow9 HG8.out.size fun q hq => (owns_elem ho8.out hq).1)
           have ho9 := Lib.hid hown9
           clear hown9 hgrow9 ho8 HG8 HFR)
        | (refine step_append_src rfl (.tmp 32) (.tmp 34) 22 rfl X.heap.size 40 i0 _ 2 40 Try.underlying22 hi0 hz0 hz1 hz2 rfl (by decide) (.slice a8 j c8) j ys1 (by simp [Act.eval]) ho8.out (some ⟨X.heap.size, 0, none⟩) 1 1 (flCells f (.slice ba f.data.length bc)) (by simp [Act.eval]) rfl (by intro h; cases h) (cells_src (l := [strV f.name, .slice ba f.data.length bc]) HFR.out) HUF.out HB3.out HB4.out HG8.out.size ?_
           intro a9 c9 w9 hown9 hgrow9
           have HG9 := Lib.hid (show Gr X w9 from Below.grown HG8.out hgrow9 HG8.out.size fun q hq => (owns_elem ho8.out hq).1)
           have ho9 := Lib.hid hown9
           clear hown9 hgrow9 ho8 HG8 HFR)
        | (refine step_append_src rfl (.tmp 35) (.tmp 38) 22 rfl X.heap.size 40 i0 _ 2 40 Try.underlying22 hi0 hz0 hz1 hz2 rfl (by decide) (.slice a9 (j + 1) c9) (j + 1) (ys1 ++ flCells f (.slice ba f.data.length bc)) (by simp [Act.eval]) ho9.out (if c3 = j then a3 else a3.map (·.add (j * 2))) (L.length - j) (c3 - j) ys2 (by simp [Act.eval]) HL2.out HZ2.out (HR2.out _ HG9.out) HU2.out HB5.out HB6.out HG9.out.size ?_
           intro a10 c10 w10 hown10 hgrow10
           have hg10 := Lib.hid (Below.grown HG9.out hgrow10 HG9.out.size fun q hq => (owns_elem ho9.out hq).1)
           rw [HV.out] at hown10
           have ho10 := Lib.hid hown10
           rw [HV.out]
           clear hown10 hgrow10 ho9 HG9))
      all_goals
        go_wp2
        all_goals
          go_ret
          refine ⟨_, rfl, ?_, HG.out.trans (HG3.out.trans (HGX.out.trans hg10.out))⟩
          rw [HPL.out, show L.take j ++ f :: L.drop j = L.take j ++ [f] ++ L.drop j by simp]
          exact fls_of_src HSR.out (by rw [HN.out]; exact ho10.out) hg10.out
end Go.Proofs.Ytbgcjbpkgijmeaa
