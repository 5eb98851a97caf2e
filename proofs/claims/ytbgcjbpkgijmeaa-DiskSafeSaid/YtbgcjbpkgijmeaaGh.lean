/-
  Walk of the document's answer: a disk in memory of its own.
  Conditions: none beyond those typed at each theorem.
-/
import Derived.Test.YtbgcjbpkgijmeaaGe
import Derived.Test.YtbgcjbpkgijmeaaDv
import Derived.Deep.RegionHeld3
namespace Go.Proofs.Ytbgcjbpkgijmeaa
open Go Go.RowKit Go.Maps
attribute [local go_sem ↓] Go.wp_at_zero Go.wp_at_succ

theorem row4_filled {w : World} {b : Nat} {x0 x1 x2 x3 : Value} {t : TypeId} (hb : w.heap[b]? = some (.cells #[x0, x1, x2, x3] t (0, 0))) (y0 y1 y2 y3 : Value) :
    ((((w.setCell ⟨b, 0, none⟩ y0).setCell ⟨b, 1, none⟩ y1).setCell ⟨b, 2, none⟩ y2).setCell ⟨b, 3, none⟩ y3).heap[b]? = some (.cells #[y0, y1, y2, y3] t (0, 0)) :=
  setCell_block (setCell_block (setCell_block (setCell_block hb y0) y1) y2) y3
/-- What the reference's Own is asked for. -/
def OwnRPost (w : World) (d : Dsk) (e : Ending) (w' : World) : Prop := ∃ v', e = .returned v' ∧ OwnDsk w.heap.size w' v' d ∧ Gr w w'

set_option maxRecDepth 100000 in
set_option maxHeartbeats 4000000 in
theorem ownR_any (w : World) {S : Nat → Prop} (v : Value) (d : Dsk) (hx : IsDsk S w v d) (hc : cnt d ≤ 1000000) (ht : tot d ≤ 1000000000000) :
    Calls Try.prog 46 #[v] w fun e w' => ∃ v', e = .returned v' ∧ OwnDsk w.heap.size w' v' d ∧ Gr w w' := by
  show Calls Try.prog 46 #[v] w (OwnRPost w d)
  obtain ⟨i0, hi0, hz0, hz1, hz2⟩ := info_parts Try.info40
  obtain ⟨i5, hi5, hy0, hy1, hy2⟩ := info_parts Try.info5
  obtain ⟨i3, hi3, hx0, hx1, hx2⟩ := info_parts Try.info32
  obtain ⟨fv, qv, rfl, hf, hq, hnum⟩ := hx
  obtain ⟨fa, fc, rfl, _, _⟩ := hf.len
  obtain ⟨qa, qc, rfl, _, _⟩ := hq.len
  unfold cnt at hc
  unfold tot at ht
  obtain ⟨W2, hW2⟩ : ∃ W2, (w.alloc (.cells #[.slice fa d.files.length fc, .slice qa d.queue.length qc, .int .i64 d.quota, .int .i64 d.fuse, .bool d.dead] 25)).alloc (.cells #[.slice none 0 0, .slice none 0 0, .int .i64 0, .int .i64 0, .bool false] 25) = W2 := ⟨_, rfl⟩
  have hG : Gr w W2 := by rw [← hW2]; exact (Gr.alloc (Gr.refl w) _).alloc _
  have hB1 : W2.heap[w.heap.size]? = some (.cells #[.slice fa d.files.length fc, .slice qa d.queue.length qc, .int .i64 d.quota, .int .i64 d.fuse, .bool d.dead] 25 (0, 0)) := by rw [← hW2]; exact alloc2_heap0 _ _ _
  have hB2 : W2.heap[w.heap.size + 1]? = some (.cells #[.slice none 0 0, .slice none 0 0, .int .i64 0, .int .i64 0, .bool false] 25 (0, 0)) := by rw [← hW2]; exact alloc2_heap1 _ _ _
  have hs2 : W2.heap.size = w.heap.size + 2 := by rw [← hW2]; simp
  have HF := Lib.hid (hf.gr hG)
  have HQ := Lib.hid (hq.gr hG)
  have hlf : d.files.length ≤ 1000000 := by omega
  have hlq : d.queue.length ≤ 1000000 := by omega
  have HSF := Lib.hid (show ∀ x ∈ d.files, x.data.length ≤ 1000000000000 from fun x hx => by have := sizeL_mem hx; omega)
  have HSQ := Lib.hid (show ∀ x ∈ d.queue, x.data.length ≤ 1000000000000 from fun x hx => by have := sizeQ_mem hx; omega)
  have HW := Lib.hid hW2
  have HG := Lib.hid hG
  have HB := Lib.hid (And.intro hB1 hB2)
  have HBC := Lib.hid (show ∀ X, Gr W2 X → X.cell? ⟨w.heap.size, 0, none⟩ = some (.slice fa d.files.length fc) ∧ X.cell? ⟨w.heap.size, 1, none⟩ = some (.slice qa d.queue.length qc) from
    fun X h => ⟨cell_block (h.same hB1) rfl, cell_block (h.same hB1) rfl⟩)
  have HS2 := Lib.hid hs2
  have HNUM := Lib.hid hnum
  clear hf hq hnum hG hB1 hB2 hW2 hc ht hs2
  show Calls Try.prog 46 #[.agg #[.slice fa d.files.length fc, .slice qa d.queue.length qc, .int .i64 d.quota, .int .i64 d.fuse, .bool d.dead]] w _
  go_enter Try.func46, Try.ntmps46
  go_upto_region 1 with fail
  rw [HW.out]
  go_wp2
  go_loopw [3, 4] (fun v k wr => ∃ (j : Nat) (va : Option Addr) (vc : Nat), v = .slice va j vc ∧ k = .int .i64 j ∧ j ≤ d.files.length ∧ OwnFls W2.heap.size wr (.slice va j vc) (d.files.take j) ∧ Gr W2 wr) (fun _ k _ => d.files.length - (intOf k).toNat)
  case atStart => exact ⟨0, none, 0, rfl, rfl, Nat.zero_le _, OwnRow.nil _ _ _, Gr.refl _⟩
  case round =>
    obtain ⟨j, va, vc, rfl, rfl, hj, ho, hg⟩ := hrel
    have HO := Lib.hid (And.intro ho hg)
    clear ho hg
    obtain ⟨b0, b1⟩ := HBC.out _ HO.out.2
    by_cases hlt : j < d.files.length
    · obtain ⟨f, hfj⟩ : ∃ f, d.files[j]? = some f := ⟨_, List.getElem?_eq_getElem hlt⟩
      obtain ⟨b1', o1, c1, hv1, _, _, _, hrows⟩ := HF.out.some (by omega)
      simp only [Value.slice.injEq, true_and] at hv1
      obtain ⟨rfl, rfl⟩ := hv1
      obtain ⟨bv, hr1, hbv⟩ := hrows j f hfj
      obtain ⟨ba, bc, rfl, _, _⟩ := IsBy.len hbv
      have HK := Lib.hid (show ∀ X, Gr W2 X → (Gr W2 X ∧ X.cell? ⟨w.heap.size, 0, none⟩ = some (.slice (some ⟨b1', o1, none⟩) d.files.length fc) ∧ X.cell? ⟨b1', o1 + j * 2, none⟩ = some (strV f.name) ∧ X.cell? ⟨b1', o1 + j * 2 + 1, none⟩ = some (.slice ba f.data.length bc)) from
        fun X hX => ⟨hX, (HBC.out X hX).1, later_cell hX (hr1 0 _ rfl), later_cell hX (hr1 1 _ rfl)⟩)
      have HK0 := Lib.hid (HK.out wr.drew HO.out.2.drew)
      have hok := HF.out.ok f (List.mem_of_getElem? hfj)
      have hdl := HSF.out f (List.mem_of_getElem? hfj)
      have hlk : (d.files.take j).length = j := by rw [List.length_take]; omega
      obtain ⟨ys, hys⟩ := OwnRow.flat HO.out.1
      rw [hlk] at hys
      have hgA : Gr wr (wr.alloc (.cells #[] 5)) := Gr.alloc (Gr.refl _) _
      obtain ⟨-, hz1', hr1'⟩ := by_src (IsBy.gr ((HO.out.2.trans hgA).drew) hbv)
      have HOE : Hid ((wr.alloc (.cells #[] 5)).drew.ownsRow wr.heap.size 5 1 (.slice (some ⟨wr.heap.size, 0, none⟩) 0 0) 0 []) := Lib.hid (ownsRow_dat (Gr.kp (Gr.drew (Gr.refl _)) _) (owns_empty 5 1 rfl (Nat.le_refl _)))
      have HZ1 := Lib.hid hz1'
      have HR1 := Lib.hid hr1'
      have HGW := Lib.hid (show ∀ w8, (wr.alloc (.cells #[] 5)).drew.grownBy w8 (Value.ownBlock (.slice (some ⟨wr.heap.size, 0, none⟩) 0 0)) → Gr wr w8 from
        fun w8 hgr => Below.grown (Gr.drew hgA) hgr (Gr.drew hgA).size (by intro q hq; simp [Value.ownBlock] at hq; omega))
      have HGA := Lib.hid (Gr.drew hgA)
      have HYS := Lib.hid hys
      have HOK := Lib.hid (And.intro hok hfj)
      have HB1 := Lib.hid (show 0 + f.data.length ≤ maxLen by unfold maxLen; omega)
      have HB2 := Lib.hid (show (0 + f.data.length) * 1 ≤ 140737488355328 by omega)
      have HB3 := Lib.hid (show j + 1 ≤ maxLen by unfold maxLen; omega)
      have HB4 := Lib.hid (show (j + 1) * 40 ≤ 140737488355328 by omega)
      have hj0 : (0 : Int) ≤ (j : Int) := by omega
      have hj1 : (j : Int) < (d.files.length : Int) := by omega
      have HWZ := Lib.hid (show W2.heap.size ≤ wr.heap.size from HO.out.2.size)
      clear hrows hr1 hbv hok hfj hlk hys hgA hz1' hr1'
      go_wp2
      go_region_held3 (fun X => Gr W2 X ∧ X.cell? ⟨w.heap.size, 0, none⟩ = some (.slice (some ⟨b1', o1, none⟩) d.files.length fc) ∧ X.cell? ⟨b1', o1 + j * 2, none⟩ = some (strV f.name) ∧ X.cell? ⟨b1', o1 + j * 2 + 1, none⟩ = some (.slice ba f.data.length bc))
        (first | exact HK0.out | exact HK.out _ (Gr.alloc (by assumption) _) | exact HK.out _ (by assumption) | exact HK.out _ (HO.out.2.trans HGA.out) | exact HK.out _ (Gr.alloc (And.left (by assumption)) _))
        (first
          | (refine step_append_src rfl (.tmp 22) (.tmp 28) 30 rfl wr.heap.size 5 i5 _ 1 1 Try.underlying30 hi5 hy0 hy1 hy2 rfl (by decide) (.slice (some ⟨wr.heap.size, 0, none⟩) 0 0) 0 [] (by simp [Act.eval]) HOE.out ba f.data.length bc (f.data.map byteV) (by simp [Act.eval]) (by simp) HZ1.out HR1.out (bytes_one _) HB1.out HB2.out HGA.out.size ?_
             intro a8 c8 w8 hown8 hgrow8
             have hgr8 := HGW.out w8 hgrow8
             have hg8 : Gr W2 w8 := HO.out.2.trans hgr8
             simp only [Nat.zero_add, List.nil_append] at hown8 ⊢
             have HP8 := Lib.hid (And.intro (show OwnBy wr.heap.size w8 (.slice a8 f.data.length c8) f.data from hown8) hgr8)
             have HYS8 := Lib.hid (ownsRow_dat (Gr.kp hgr8 _) HYS.out)
             have HWZ8 := Lib.hid (show W2.heap.size ≤ (w8.alloc (.cells #[strV f.name, .slice a8 f.data.length c8] 40)).heap.size by have h1 := HWZ.out; have h2 := hgr8.size; simp; omega)
             clear hown8 hgrow8 hgr8)
          | (refine step_append_src rfl (.tmp 15) (.tmp 31) 22 rfl W2.heap.size 40 i0 _ 2 40 Try.underlying22 hi0 hz0 hz1 hz2 rfl (by decide) (.slice va j vc) j ys (by simp [Act.eval]) (HYS8.out.alloc _) (some ⟨w8.heap.size, 0, none⟩) 1 1 (flCells f (.slice a8 f.data.length c8)) (by simp [Act.eval]) rfl (by intro h; cases h) (cells_src (l := [strV f.name, .slice a8 f.data.length c8]) (alloc1_heap w8 _)) (flE.one f _ rfl) HB3.out HB4.out HWZ8.out ?_
             intro a9 c9 w9 hown9 hgrow9
             have hg9 : Gr W2 w9 := grown_gr (hg8.alloc _) hgrow9 fun q hq => (owns_elem HYS.out hq).1
             have HP9 := Lib.hid (And.intro hown9 hgrow9)
             have HG9 := Lib.hid hg9
             clear hown9 hgrow9))
      all_goals
        have hlk : (d.files.take j).length = j := by rw [List.length_take]; omega
        have hp := OwnRow.push (E := flE) (OwnRow.gr HP8.out.2 HO.out.1) (OwnBy.base HWZ.out HP8.out.1) HOK.out.1 (by rw [hlk]; exact HYS8.out) (by rw [hlk]; exact HP9.out.1) HP9.out.2
        rw [← take_step HOK.out.2] at hp
        have HPP := Lib.hid hp
        clear hp hlk
        go_wp2
        exact ⟨⟨j + 1, a9, c9, by go_num, by go_num, by omega, HPP.out, HG9.out⟩, by simp [intOf]; omega⟩
    · have hjl : j = d.files.length := by omega
      subst hjl
      have hof := HO.out.1
      rw [List.take_length] at hof
      have HOF := Lib.hid (And.intro hof HO.out.2)
      clear hof HO
      go_wp2
      go_loopw [5, 6] (fun v k w5 => ∃ (i : Nat) (qa' : Option Addr) (qc' : Nat), v = .slice qa' i qc' ∧ k = .int .i64 i ∧ i ≤ d.queue.length ∧ OwnOps W2.heap.size w5 (.slice qa' i qc') (d.queue.take i) ∧ OwnFls W2.heap.size w5 (.slice va d.files.length vc) d.files ∧ Gr W2 w5) (fun _ k _ => d.queue.length - (intOf k).toNat)
      case atStart => exact ⟨0, none, 0, rfl, rfl, Nat.zero_le _, OwnRow.nil _ _ _, HOF.out.1, HOF.out.2⟩
      case round =>
        obtain ⟨i, qa', qc', rfl, rfl, hi, hoq, hof, hg⟩ := hrel
        have HP := Lib.hid (And.intro hoq (And.intro hof hg))
        clear hoq hof hg b0 b1
        obtain ⟨b0, b1⟩ := HBC.out _ HP.out.2.2
        by_cases hlti : i < d.queue.length
        · obtain ⟨o, hoi⟩ : ∃ o, d.queue[i]? = some o := ⟨_, List.getElem?_eq_getElem hlti⟩
          obtain ⟨b2, o2, c2, hv2, _, _, _, hrows⟩ := HQ.out.some (by omega)
          simp only [Value.slice.injEq, true_and] at hv2
          obtain ⟨rfl, rfl⟩ := hv2
          obtain ⟨bv, hr1, hbv⟩ := hrows i o hoi
          obtain ⟨ba, bc, rfl, _, _⟩ := IsBy.len hbv
          have k0 := later_cell HP.out.2.2 (show W2.cell? ⟨b2, o2 + i * 4, none⟩ = some (.int .u8 o.kind) from hr1 0 _ rfl)
          have k1 := later_cell HP.out.2.2 (show W2.cell? ⟨b2, o2 + i * 4 + 1, none⟩ = some (strV o.name) from hr1 1 _ rfl)
          have k2 := later_cell HP.out.2.2 (show W2.cell? ⟨b2, o2 + i * 4 + 2, none⟩ = some (strV o.to) from hr1 2 _ rfl)
          have k3 := later_cell HP.out.2.2 (show W2.cell? ⟨b2, o2 + i * 4 + 3, none⟩ = some (.slice ba o.data.length bc) from hr1 3 _ rfl)
          have hok := HQ.out.ok o (List.mem_of_getElem? hoi)
          have hdl := HSQ.out o (List.mem_of_getElem? hoi)
          have HOK := Lib.hid (And.intro hok (And.intro hoi hdl))
          have HBV := Lib.hid hbv
          clear hrows hr1 hbv hok hoi
          obtain ⟨X1, hX1⟩ : ∃ X1, wr.alloc (.cells #[.int .u8 o.kind, strV o.name, strV o.to, .slice ba o.data.length bc] 32) = X1 := ⟨_, rfl⟩
          have gX : Gr wr X1 := by rw [← hX1]; exact Gr.alloc (Gr.refl _) _
          have hBX : X1.heap[wr.heap.size]? = some (.cells #[.int .u8 o.kind, strV o.name, strV o.to, .slice ba o.data.length bc] 32 (0, 0)) := by rw [← hX1]; exact alloc1_heap _ _
          have hZX : X1.heap.size = wr.heap.size + 1 := by rw [← hX1]; simp
          have HX1 := Lib.hid hX1
          have HGX := Lib.hid gX
          have HBX := Lib.hid hBX
          have HZX := Lib.hid hZX
          have hown0 : (X1.alloc (.cells #[] 5)).ownsRow X1.heap.size 5 1 (.slice (some ⟨X1.heap.size, 0, none⟩) 0 0) 0 [] := owns_empty 5 1 rfl (Nat.le_refl _)
          obtain ⟨_, s1, s2⟩ := by_src (IsBy.gr ((HP.out.2.2.trans gX).trans (Gr.alloc (Gr.refl X1) (.cells #[] 5))) HBV.out)
          have HS := Lib.hid (And.intro hown0 (And.intro s1 s2))
          have hdl2 := HOK.out.2.2
          clear hX1 gX hBX hZX hown0 s1 s2
          go_upto_region 11 with fail
          rw [HX1.out]
          have m0 := cell_block HBX.out (j := 0) rfl
          have m3 : (X1.alloc (.cells #[] 5)).cell? ⟨wr.heap.size, 3, none⟩ = some (.slice ba o.data.length bc) := later_cell (Gr.alloc (Gr.refl _) _) (cell_block HBX.out (j := 3) rfl)
          clear k0 k1 k2 k3 b0 b1
          go_wp2_with (at_builtin; go_loud (refine wpList_append_src rfl _ _ 30 rfl X1.heap.size 5 i5 _ 1 1 Try.underlying30 hi5 hy0 hy1 hy2 rfl (by decide) _ 0 [] rfl HS.out.1 ba o.data.length bc (o.data.map byteV) rfl ?c0 HS.out.2.1 HS.out.2.2 ?c2 ?c3 ?c4 ?c5 ?_))
          case c2 => exact fun _ _ => rfl
          case c3 => unfold maxLen; omega
          case c4 => omega
          intro a8 c8 w8 hown8 hgrow8
          try simp only [Nat.zero_add, List.nil_append] at hown8
          try simp only [Nat.zero_add, List.nil_append]
          have hg8 : Gr X1 w8 := grown_gr ((Gr.refl X1).alloc _) hgrow8 fun q hq => (owns_elem HS.out.1 hq).1
          have hB8 := hg8.same HBX.out
          have hob : OwnBy X1.heap.size w8 (.slice a8 o.data.length c8) o.data := hown8
          obtain ⟨X2, hX2⟩ : ∃ X2, w8.setCell ⟨wr.heap.size, 3, none⟩ (.slice a8 o.data.length c8) = X2 := ⟨_, rfl⟩
          have hB2 : X2.heap[wr.heap.size]? = some (.cells #[.int .u8 o.kind, strV o.name, strV o.to, .slice a8 o.data.length c8] 32 (0, 0)) := by rw [← hX2]; exact setCell_block hB8 _
          have hg2 : Gr wr X2 := by rw [← hX2]; exact Gr.set (HGX.out.trans hg8) (Nat.le_refl _) _
          have hob2 : OwnBy X1.heap.size X2 (.slice a8 o.data.length c8) o.data := owns_other hob fun k hk => by
            have h1 := (owns_elem hob hk).1
            have h2 := HZX.out
            rw [← hX2]; exact setCell_other _ (by omega)
          have hz2 : W2.heap.size ≤ X1.heap.size := by have h1 := HP.out.2.2.size; have h2 := HZX.out; omega
          have HO2 := Lib.hid (OwnBy.base hz2 hob2)
          have HG2 := Lib.hid hg2
          have HQ2 := Lib.hid (OwnRow.gr hg2 HP.out.1)
          have HF2 := Lib.hid (OwnRow.gr hg2 HP.out.2.1)
          obtain ⟨ys, hys⟩ := OwnRow.flat HQ2.out
          have hlk : (d.queue.take i).length = i := by rw [List.length_take]; omega
          rw [hlk] at hys
          have HYS := Lib.hid hys
          have HX2 := Lib.hid hX2
          have HW2Z := Lib.hid (show W2.heap.size ≤ X2.heap.size from Nat.le_trans HP.out.2.2.size hg2.size)
          have e3 := cell_block hB8 (j := 3) rfl
          have f3 := frozen_block hB8 (j := 3)
          have n0 := cell_block hB2 (j := 0) (v := .int .u8 o.kind) rfl
          have n1 := cell_block hB2 (j := 1) (v := strV o.name) rfl
          have n2 := cell_block hB2 (j := 2) (v := strV o.to) rfl
          have n3 := cell_block hB2 (j := 3) (v := .slice a8 o.data.length c8) rfl
          clear hown8 hgrow8 hg8 hB8 hob hX2 hB2 hg2 hob2 hz2 hys hlk m0 m3
          go_upto_region 12 with fail
          rw [HX2.out]
          clear e3 f3
          have HN9 := Lib.hid (cells_src (l := [.int .u8 o.kind, strV o.name, strV o.to, .slice a8 o.data.length c8]) (alloc1_heap X2 (.cells #[.int .u8 o.kind, strV o.name, strV o.to, .slice a8 o.data.length c8] 32)))
          have HU9 := Lib.hid (opE.one o (.slice a8 o.data.length c8) rfl)
          have HL3 := Lib.hid (show i + 1 ≤ maxLen by unfold maxLen; omega)
          have HL4 := Lib.hid (show (i + 1) * 64 ≤ 140737488355328 by omega)
          have HL5 := Lib.hid (show W2.heap.size ≤ (X2.alloc (.cells #[.int .u8 o.kind, strV o.name, strV o.to, .slice a8 o.data.length c8] 32)).heap.size by have := HW2Z.out; simp; omega)
          go_wp2_with (at_builtin; go_loud (refine wpList_append_src rfl _ _ 23 rfl W2.heap.size 32 i3 _ 4 64 Try.underlying23 hi3 hx0 hx1 hx2 rfl (by decide) _ i ys rfl (HYS.out.alloc _) (some ⟨X2.heap.size, 0, none⟩) 1 1 (opCells o (.slice a8 o.data.length c8)) rfl rfl (by intro h; cases h) HN9.out HU9.out HL3.out HL4.out HL5.out ?_))
          intro a9 c9 w9 hown9 hgrow9
          have hlk : (d.queue.take i).length = i := by rw [List.length_take]; omega
          have hpp := ops_push (w := W2) (Nat.le_trans (Nat.le_refl _) HW2Z.out) (Nat.le_refl _) (HP.out.2.2.trans HG2.out) HQ2.out HO2.out HOK.out.1 (by rw [hlk]; exact HYS.out) (by rw [hlk]; exact hown9) hgrow9
          rw [← take_step HOK.out.2.1] at hpp
          have HPP := Lib.hid (And.intro hpp.1 (And.intro (hpp.2.2.2.2 _ _ HF2.out) hpp.2.1))
          clear hpp hlk hown9 hgrow9
          go_wp2
          exact ⟨⟨i + 1, a9, c9, by go_num, by go_num, by omega, HPP.out.1, HPP.out.2.1, HPP.out.2.2⟩, by simp [intOf]; omega⟩
        · have hil : i = d.queue.length := by omega
          subst hil
          have hoq := HP.out.1
          rw [List.take_length] at hoq
          have HOQ := Lib.hid hoq
          have p1 := HP.out.2.2.same HB.out.1
          have p2 := HP.out.2.2.same HB.out.2
          have e0 := cell_block p1 (j := 0) (v := .slice fa d.files.length fc) rfl
          have e1 := cell_block p1 (j := 1) (v := .slice qa d.queue.length qc) rfl
          have e2 := cell_block p1 (j := 2) (v := .int .i64 d.quota) rfl
          have e3 := cell_block p1 (j := 3) (v := .int .i64 d.fuse) rfl
          have e4 := cell_block p1 (j := 4) (v := .bool d.dead) rfl
          have f0 := frozen_block p1 (j := 0)
          have f1 := frozen_block p1 (j := 1)
          have x0 := cell_block p2 (j := 0) (v := .slice none 0 0) rfl
          have x1 := cell_block p2 (j := 1) (v := .slice none 0 0) rfl
          have x2 := cell_block p2 (j := 2) (v := .int .i64 0) rfl
          have x3 := cell_block p2 (j := 3) (v := .int .i64 0) rfl
          have x4 := cell_block p2 (j := 4) (v := .bool false) rfl
          have y0 := frozen_block p2 (j := 0)
          have y1 := frozen_block p2 (j := 1)
          have y2 := frozen_block p2 (j := 2)
          have y3 := frozen_block p2 (j := 3)
          have y4 := frozen_block p2 (j := 4)
          have HP2 := Lib.hid p2
          clear hoq p1 p2 b0 b1
          go_wp2
          obtain ⟨q1, q2, q3⟩ := HP.out
          have q4 := HOQ.out
          have q5 := HP2.out
          have hs2 := HS2.out
          have q6 := HG.out.trans q3
          have hne : w.heap.size + 1 ≠ w.heap.size := by omega
          refine bodyPost_ret (v := dskV d (.slice va d.files.length vc) (.slice qa' d.queue.length qc')) (results_row rfl Try.underlying25 rfl info25 rfl (rowAt_block (row5_filled (heap_set_other (heap_set_other q5 hne) hne) _ _ _ _ _) rfl)) rfl ⟨_, rfl, ⟨_, _, rfl, ?_, ?_, HNUM.out⟩, ?_⟩
          · refine OwnRow.down (show w.heap.size ≤ W2.heap.size by omega) (OwnRow.keep q2 fun q cur e hq hbq _ => ?_)
            rw [setCell_other _ (by omega), setCell_other _ (by omega), setCell_other _ (by omega), setCell_other _ (by omega), setCell_other _ (by omega), setCell_other _ (by omega), setCell_other _ (by omega)]
          · refine OwnRow.down (show w.heap.size ≤ W2.heap.size by omega) (OwnRow.keep q4 fun q cur e hq hbq _ => ?_)
            rw [setCell_other _ (by omega), setCell_other _ (by omega), setCell_other _ (by omega), setCell_other _ (by omega), setCell_other _ (by omega), setCell_other _ (by omega), setCell_other _ (by omega)]
          · exact Gr.set (Gr.set (Gr.set (Gr.set (Gr.set (Gr.set (Gr.set q6 (by simp) _) (by simp) _) (by simp) _) (by simp) _) (by simp) _) (by simp) _) (by simp) _
end Go.Proofs.Ytbgcjbpkgijmeaa
