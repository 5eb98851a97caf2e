/-
  Walk of the document's answer: the same disks.
  Conditions: none beyond those typed at each theorem.
-/
import Derived.Test.YtbgcjbpkgijmeaaGb
import Derived.Deep.DrawnRows
namespace Go.Proofs.Ytbgcjbpkgijmeaa
open Go Go.RowKit
attribute [local go_sem ↓] Go.wp_at_zero Go.wp_at_succ
attribute [local go_sem high] str_eql str_neq str_lss str_leq str_geq str_eql0 str_neq0

theorem nb_eq {a b : Bs} (h : neB a b = false) : a = b := Classical.byContradiction fun e => by rw [neB_iff.2 e] at h; cases h
theorem dsk_ne {a b : Dsk} (h : a.quota ≠ b.quota ∨ a.fuse ≠ b.fuse ∨ a.dead ≠ b.dead ∨ a.queue ≠ b.queue ∨ a.files ≠ b.files) : decide (a = b) = false :=
  decide_eq_false fun e => by subst e; simp at h

set_option maxRecDepth 100000 in
set_option maxHeartbeats 4000000 in
theorem same_any (w : World) {S T : Nat → Prop} (va vb : Value) (a b : Dsk) (hx : IsDsk S w va a) (hy : IsDsk T w vb b) (hl : a.files.length ≤ 2000000) (hq : a.queue.length ≤ 2000000) :
    Calls Try.prog 11 #[va, vb] w fun e w' => e = .returned (.bool (decide (a = b))) ∧ Gr w w' := by
  obtain ⟨afv, aqv, rfl, hxf, hxq, -⟩ := hx
  obtain ⟨bfv, bqv, rfl, hyf, hyq, -⟩ := hy
  obtain ⟨fa, fc, rfl, _, _⟩ := hxf.len
  obtain ⟨qa, qc, rfl, hqc, _⟩ := hxq.len
  obtain ⟨ga, gc, rfl, _, _⟩ := hyf.len
  obtain ⟨ra, rc, rfl, hrc, _⟩ := hyq.len
  obtain ⟨p, hp⟩ : ∃ p, a.dead = p := ⟨_, rfl⟩
  obtain ⟨q, hqd⟩ : ∃ q, b.dead = q := ⟨_, rfl⟩
  simp only [dskV, hp, hqd]
  have HPQ := Lib.hid (And.intro hp hqd)
  clear hp hqd
  obtain ⟨W2, hW2⟩ : ∃ W2, (w.alloc (.cells #[.slice fa a.files.length fc, .slice qa a.queue.length qc, .int .i64 a.quota, .int .i64 a.fuse, .bool p] 25)).alloc (.cells #[.slice ga b.files.length gc, .slice ra b.queue.length rc, .int .i64 b.quota, .int .i64 b.fuse, .bool q] 25) = W2 := ⟨_, rfl⟩
  have hG : Gr w W2 := by rw [← hW2]; exact (Gr.alloc (Gr.refl w) _).alloc _
  have hB1 : W2.heap[w.heap.size]? = some (.cells #[.slice fa a.files.length fc, .slice qa a.queue.length qc, .int .i64 a.quota, .int .i64 a.fuse, .bool p] 25 (0, 0)) := by rw [← hW2]; exact alloc2_heap0 _ _ _
  have hB2 : W2.heap[w.heap.size + 1]? = some (.cells #[.slice ga b.files.length gc, .slice ra b.queue.length rc, .int .i64 b.quota, .int .i64 b.fuse, .bool q] 25 (0, 0)) := by rw [← hW2]; exact alloc2_heap1 _ _ _
  have c0 := cell_block hB1 (j := 0) (v := .slice fa a.files.length fc) rfl
  have c1 := cell_block hB1 (j := 1) (v := .slice qa a.queue.length qc) rfl
  have c2 := cell_block hB1 (j := 2) (v := .int .i64 a.quota) rfl
  have c3 := cell_block hB1 (j := 3) (v := .int .i64 a.fuse) rfl
  have c4 := cell_block hB1 (j := 4) (v := .bool p) rfl
  have d0 := cell_block hB2 (j := 0) (v := .slice ga b.files.length gc) rfl
  have d1 := cell_block hB2 (j := 1) (v := .slice ra b.queue.length rc) rfl
  have d2 := cell_block hB2 (j := 2) (v := .int .i64 b.quota) rfl
  have d3 := cell_block hB2 (j := 3) (v := .int .i64 b.fuse) rfl
  have d4 := cell_block hB2 (j := 4) (v := .bool q) rfl
  have HFI := Lib.hid (files_any W2 _ _ a.files b.files (hxf.gr hG) (hyf.gr hG) hl)
  have HXQ := Lib.hid (hxq.gr hG)
  have HYQ := Lib.hid (hyq.gr hG)
  have HW := Lib.hid hW2
  have HG := Lib.hid hG
  have HB := Lib.hid (And.intro hB1 hB2)
  clear hxf hxq hyf hyq hG hB1 hB2 hW2
  have hq1 : (a.quota != b.quota) = true ∨ (a.quota != b.quota) = false := by cases (a.quota != b.quota) <;> simp
  have hf1 : (a.fuse != b.fuse) = true ∨ (a.fuse != b.fuse) = false := by cases (a.fuse != b.fuse) <;> simp
  have hd1 : ¬ p = q ∨ p = q := by cases p <;> cases q <;> simp
  have hn1 : ((a.queue.length : Int) != (b.queue.length : Int)) = true ∨ ((a.queue.length : Int) != (b.queue.length : Int)) = false := by cases ((a.queue.length : Int) != (b.queue.length : Int)) <;> simp
  rcases hq1 with hq1 | hq1
  · have HN := Lib.hid (dsk_ne (a := a) (b := b) (.inl (by simpa using hq1)))
    clear hf1 hd1 hn1
    go_enter Try.func11, Try.ntmps11
    go_upto_region 1 with fail
    rw [HW.out]
    go_wp2
    go_ret
    exact ⟨by rw [HN.out]; rfl, HG.out⟩
  rcases hf1 with hf1 | hf1
  · have HN := Lib.hid (dsk_ne (a := a) (b := b) (.inr (.inl (by simpa using hf1))))
    clear hd1 hn1
    go_enter Try.func11, Try.ntmps11
    go_upto_region 1 with fail
    rw [HW.out]
    go_wp2
    go_ret
    exact ⟨by rw [HN.out]; rfl, HG.out⟩
  rcases hd1 with hd1 | hd1
  · have HN := Lib.hid (dsk_ne (a := a) (b := b) (.inr (.inr (.inl (by rw [HPQ.out.1, HPQ.out.2]; exact hd1)))))
    clear hn1
    go_enter Try.func11, Try.ntmps11
    go_upto_region 1 with fail
    rw [HW.out]
    go_wp2
    go_ret
    exact ⟨by rw [HN.out]; rfl, HG.out⟩
  subst hd1
  rcases hn1 with hn1 | hn1
  · have HN := Lib.hid (dsk_ne (a := a) (b := b) (.inr (.inr (.inr (.inl (fun e => by rw [e] at hn1; simp at hn1))))))
    go_enter Try.func11, Try.ntmps11
    go_upto_region 1 with fail
    rw [HW.out]
    go_wp2
    go_ret
    exact ⟨by rw [HN.out]; rfl, HG.out⟩
  go_enter Try.func11, Try.ntmps11
  go_upto_region 1 with fail
  rw [HW.out]
  go_wp2_with fail
  refine HFI.out.mono ?_
  rintro e w3 ⟨rfl, hg3⟩
  have HG3 := Lib.hid hg3
  clear hg3 HFI
  by_cases hfe : a.files = b.files
  · have hfb : decide (a.files = b.files) = true := decide_eq_true hfe
    rw [hfb]
    have hlq : a.queue.length = b.queue.length := by
      have : (a.queue.length : Int) = (b.queue.length : Int) := by simpa using hn1
      omega
    obtain ⟨n, hn⟩ : ∃ n, n = a.queue.length := ⟨_, rfl⟩
    have HLA := Lib.hid hn.symm
    have HLB := Lib.hid (hlq.symm.trans hn.symm)
    have HFE := Lib.hid (show a.quota = b.quota ∧ a.fuse = b.fuse ∧ a.dead = b.dead ∧ a.files = b.files from ⟨by simpa using hq1, by simpa using hf1, by rw [HPQ.out.1, HPQ.out.2], hfe⟩)
    have HC := Lib.hid (show ∀ X, Gr W2 X → X.cell? ⟨w.heap.size, 1, none⟩ = some (.slice qa a.queue.length qc) ∧ X.cell? ⟨w.heap.size + 1, 1, none⟩ = some (.slice ra b.queue.length rc) from fun X hX => ⟨later_cell hX c1, later_cell hX d1⟩)
    rw [← hlq, ← hn] at HC
    rw [← hn] at hq hqc
    rw [← hlq, ← hn] at hrc
    clear c0 c1 c2 c3 c4 d0 d1 d2 d3 d4 hq1 hf1 hn1 hlq hn hfe hfb
    obtain ⟨e1, e2⟩ := HC.out _ HG3.out
    go_wp2
    go_loopw [5] (fun k wr => ∃ j : Nat, k = .int .i64 j ∧ j ≤ n ∧ a.queue.take j = b.queue.take j ∧ Gr W2 wr) (fun k _ => n - (intOf k).toNat)
    case atStart => exact ⟨0, rfl, by omega, rfl, HG3.out⟩
    case round =>
      obtain ⟨j, rfl, hj, he, hg⟩ := hrel
      have HE := Lib.hid (And.intro he hg)
      obtain ⟨g1, g2⟩ := HC.out _ hg
      clear he hg
      by_cases hlt : j < n
      · obtain ⟨x, hxj⟩ : ∃ x, a.queue[j]? = some x := ⟨_, List.getElem?_eq_getElem (by have := HLA.out; omega)⟩
        obtain ⟨y, hyj⟩ : ∃ y, b.queue[j]? = some y := ⟨_, List.getElem?_eq_getElem (by have := HLB.out; omega)⟩
        obtain ⟨b1, o1, k1, hv1, _, _, _, hrows1⟩ := HXQ.out.some (by have := HLA.out; omega)
        obtain ⟨b2, o2, k2, hv2, _, _, _, hrows2⟩ := HYQ.out.some (by have := HLB.out; omega)
        simp only [Value.slice.injEq] at hv1 hv2
        obtain ⟨rfl, -, rfl⟩ := hv1
        obtain ⟨rfl, -, rfl⟩ := hv2
        obtain ⟨xv, hr1, hb1⟩ := hrows1 j x hxj
        obtain ⟨yv, hr2, hb2⟩ := hrows2 j y hyj
        obtain ⟨xa, xc, rfl, _, _⟩ := IsBy.len hb1
        obtain ⟨ya, yc, rfl, _, _⟩ := IsBy.len hb2
        have hgr := HE.out.2
        have hgA := Gr.alloc hgr (.cells #[.int .u8 0, .string ⟨#[]⟩, .string ⟨#[]⟩, .slice none 0 0] 32)
        have hgB := Gr.alloc hgA (.cells #[.int .u8 0, .string ⟨#[]⟩, .string ⟨#[]⟩, .slice none 0 0] 32)
        have HXC := Lib.hid (show ∀ X, Gr W2 X → X.cell? ⟨b1, o1 + j * 4, none⟩ = some (.int .u8 x.kind) ∧ X.cell? ⟨b1, o1 + j * 4 + 1, none⟩ = some (strV x.name) ∧ X.cell? ⟨b1, o1 + j * 4 + 2, none⟩ = some (strV x.to) ∧ X.cell? ⟨b1, o1 + j * 4 + 3, none⟩ = some (.slice xa x.data.length xc) from
          fun X hX => ⟨later_cell hX (hr1 0 _ rfl), later_cell hX (hr1 1 _ rfl), later_cell hX (hr1 2 _ rfl), later_cell hX (hr1 3 _ rfl)⟩)
        have HYC := Lib.hid (show ∀ X, Gr W2 X → X.cell? ⟨b2, o2 + j * 4, none⟩ = some (.int .u8 y.kind) ∧ X.cell? ⟨b2, o2 + j * 4 + 1, none⟩ = some (strV y.name) ∧ X.cell? ⟨b2, o2 + j * 4 + 2, none⟩ = some (strV y.to) ∧ X.cell? ⟨b2, o2 + j * 4 + 3, none⟩ = some (.slice ya y.data.length yc) from
          fun X hX => ⟨later_cell hX (hr2 0 _ rfl), later_cell hX (hr2 1 _ rfl), later_cell hX (hr2 2 _ rfl), later_cell hX (hr2 3 _ rfl)⟩)
        have HBX := Lib.hid hb1
        have HBY := Lib.hid hb2
        have HXJ := Lib.hid (And.intro hxj hyj)
        clear hr1 hr2 hb1 hb2 hxj hyj hrows1 hrows2
        obtain ⟨x0, x1, x2, x3⟩ := HXC.out _ hgr
        obtain ⟨xA0, xA1, xA2, xA3⟩ := HXC.out _ hgA
        obtain ⟨xB0, xB1, xB2, xB3⟩ := HXC.out _ hgB
        obtain ⟨y0, y1, y2, y3⟩ := HYC.out _ hgr
        obtain ⟨yA0, yA1, yA2, yA3⟩ := HYC.out _ hgA
        obtain ⟨yB0, yB1, yB2, yB3⟩ := HYC.out _ hgB
        have hgC := Gr.alloc hgA (.cells #[.int .u8 x.kind, strV x.name, strV x.to, .slice xa x.data.length xc] 32)
        have hgD := Gr.alloc (Gr.alloc hgr (.cells #[.int .u8 x.kind, strV x.name, strV x.to, .slice xa x.data.length xc] 32)) (.cells #[.int .u8 0, .string ⟨#[]⟩, .string ⟨#[]⟩, .slice none 0 0] 32)
        obtain ⟨yC0, yC1, yC2, yC3⟩ := HYC.out _ hgC
        obtain ⟨yD0, yD1, yD2, yD3⟩ := HYC.out _ hgD
        obtain ⟨-, gC2⟩ := HC.out _ hgC
        obtain ⟨-, gD2⟩ := HC.out _ hgD
        obtain ⟨gA1, gA2⟩ := HC.out _ hgA
        obtain ⟨gB1, gB2⟩ := HC.out _ hgB
        clear hgA hgB hgC hgD
        clear hgr
        go_wp2_with fail
        go_region
        ·
          obtain ⟨W9, hW9⟩ : ∃ W9, ((wr.alloc (.cells #[.int .u8 x.kind, strV x.name, strV x.to, .slice xa x.data.length xc] 32)).alloc (.cells #[.int .u8 y.kind, strV y.name, strV y.to, .slice ya y.data.length yc] 32)).drew = W9 := ⟨_, rfl⟩
          have hgE : Gr W2 W9 := by rw [← hW9]; exact Gr.drew (Gr.alloc (Gr.alloc HE.out.2 _) _)
          have hx9 : W9.heap[wr.heap.size]? = some (.cells #[.int .u8 x.kind, strV x.name, strV x.to, .slice xa x.data.length xc] 32 (0, 0)) := by rw [← hW9]; exact alloc2_heap0 _ _ _
          have hy9 : W9.heap[wr.heap.size + 1]? = some (.cells #[.int .u8 y.kind, strV y.name, strV y.to, .slice ya y.data.length yc] 32 (0, 0)) := by rw [← hW9]; exact alloc2_heap1 _ _ _
          have v1 := conv_by (IsBy.gr hgE HBX.out)
          have v2 := conv_by (IsBy.gr hgE HBY.out)
          have q0 := cell_block hx9 (j := 0) rfl
          have q1 := cell_block hx9 (j := 1) rfl
          have q2 := cell_block hx9 (j := 2) rfl
          have q3 := cell_block hx9 (j := 3) rfl
          have r0 := cell_block hy9 (j := 0) rfl
          have r1 := cell_block hy9 (j := 1) rfl
          have r2 := cell_block hy9 (j := 2) rfl
          have r3 := cell_block hy9 (j := 3) rfl
          rw [hW9]
          have HGE := Lib.hid hgE
          clear hW9 hgE hx9 hy9 x0 x1 x2 x3 xA0 xA1 xA2 xA3 xB0 xB1 xB2 xB3 y0 y1 y2 y3 yA0 yA1 yA2 yA3 yB0 yB1 yB2 yB3 yC0 yC1 yC2 yC3 yD0 yD1 yD2 yD3 gC2 gD2 gA1 gA2 gB1 gB2 HXC HYC
          have tk : (x.kind != y.kind) = true ∨ (x.kind != y.kind) = false := by cases (x.kind != y.kind) <;> simp
          have tn : neB x.name y.name = true ∨ neB x.name y.name = false := by cases neB x.name y.name <;> simp
          have tt : neB x.to y.to = true ∨ neB x.to y.to = false := by cases neB x.to y.to <;> simp
          have td : neB x.data y.data = true ∨ neB x.data y.data = false := by cases neB x.data y.data <;> simp
          rcases tk with tk | tk
          · have HQ := Lib.hid (dsk_ne (a := a) (b := b) (.inr (.inr (.inr (.inl (ne_at HXJ.out.1 HXJ.out.2 (show x ≠ y from fun e => by rw [e] at tk; simp at tk)))))))
            clear tn tt td
            go_wp2
            go_ret
            exact ⟨by rw [HQ.out]; rfl, HG.out.trans HGE.out⟩
          rcases tn with tn | tn
          · have HQ := Lib.hid (dsk_ne (a := a) (b := b) (.inr (.inr (.inr (.inl (ne_at HXJ.out.1 HXJ.out.2 (show x ≠ y from fun e => neB_iff.1 tn (by rw [e]))))))))
            clear tt td
            go_wp2
            go_ret
            exact ⟨by rw [HQ.out]; rfl, HG.out.trans HGE.out⟩
          rcases tt with tt | tt
          · have HQ := Lib.hid (dsk_ne (a := a) (b := b) (.inr (.inr (.inr (.inl (ne_at HXJ.out.1 HXJ.out.2 (show x ≠ y from fun e => neB_iff.1 tt (by rw [e]))))))))
            clear td
            go_wp2
            go_ret
            exact ⟨by rw [HQ.out]; rfl, HG.out.trans HGE.out⟩
          rcases td with td | td
          · have HQ := Lib.hid (dsk_ne (a := a) (b := b) (.inr (.inr (.inr (.inl (ne_at HXJ.out.1 HXJ.out.2 (show x ≠ y from fun e => neB_iff.1 td (by rw [e]))))))))
            go_wp2
            go_ret
            exact ⟨by rw [HQ.out]; rfl, HG.out.trans HGE.out⟩
          have HQ := Lib.hid (show x = y from by
            have e1 : x.kind = y.kind := by simpa using tk
            have e2 := nb_eq tn
            have e3 := nb_eq tt
            have e4 := nb_eq td
            cases x; cases y; simp_all)
          go_wp2
          exact ⟨⟨j + 1, by go_num, by omega, take_ext_step HE.out.1 HXJ.out.1 HXJ.out.2 HQ.out, HGE.out⟩, by simp [intOf]; omega⟩
        ·
          obtain ⟨W9, hW9⟩ : ∃ W9, ((wr.alloc (.cells #[.int .u8 y.kind, strV y.name, strV y.to, .slice ya y.data.length yc] 32)).alloc (.cells #[.int .u8 x.kind, strV x.name, strV x.to, .slice xa x.data.length xc] 32)).drew = W9 := ⟨_, rfl⟩
          have hgE : Gr W2 W9 := by rw [← hW9]; exact Gr.drew (Gr.alloc (Gr.alloc HE.out.2 _) _)
          have hx9 : W9.heap[wr.heap.size + 1]? = some (.cells #[.int .u8 x.kind, strV x.name, strV x.to, .slice xa x.data.length xc] 32 (0, 0)) := by rw [← hW9]; exact alloc2_heap1 _ _ _
          have hy9 : W9.heap[wr.heap.size]? = some (.cells #[.int .u8 y.kind, strV y.name, strV y.to, .slice ya y.data.length yc] 32 (0, 0)) := by rw [← hW9]; exact alloc2_heap0 _ _ _
          have v1 := conv_by (IsBy.gr hgE HBX.out)
          have v2 := conv_by (IsBy.gr hgE HBY.out)
          have q0 := cell_block hx9 (j := 0) rfl
          have q1 := cell_block hx9 (j := 1) rfl
          have q2 := cell_block hx9 (j := 2) rfl
          have q3 := cell_block hx9 (j := 3) rfl
          have r0 := cell_block hy9 (j := 0) rfl
          have r1 := cell_block hy9 (j := 1) rfl
          have r2 := cell_block hy9 (j := 2) rfl
          have r3 := cell_block hy9 (j := 3) rfl
          rw [hW9]
          have HGE := Lib.hid hgE
          clear hW9 hgE hx9 hy9 x0 x1 x2 x3 xA0 xA1 xA2 xA3 xB0 xB1 xB2 xB3 y0 y1 y2 y3 yA0 yA1 yA2 yA3 yB0 yB1 yB2 yB3 yC0 yC1 yC2 yC3 yD0 yD1 yD2 yD3 gC2 gD2 gA1 gA2 gB1 gB2 HXC HYC
          have tk : (x.kind != y.kind) = true ∨ (x.kind != y.kind) = false := by cases (x.kind != y.kind) <;> simp
          have tn : neB x.name y.name = true ∨ neB x.name y.name = false := by cases neB x.name y.name <;> simp
          have tt : neB x.to y.to = true ∨ neB x.to y.to = false := by cases neB x.to y.to <;> simp
          have td : neB x.data y.data = true ∨ neB x.data y.data = false := by cases neB x.data y.data <;> simp
          rcases tk with tk | tk
          · have HQ := Lib.hid (dsk_ne (a := a) (b := b) (.inr (.inr (.inr (.inl (ne_at HXJ.out.1 HXJ.out.2 (show x ≠ y from fun e => by rw [e] at tk; simp at tk)))))))
            clear tn tt td
            go_wp2
            go_ret
            exact ⟨by rw [HQ.out]; rfl, HG.out.trans HGE.out⟩
          rcases tn with tn | tn
          · have HQ := Lib.hid (dsk_ne (a := a) (b := b) (.inr (.inr (.inr (.inl (ne_at HXJ.out.1 HXJ.out.2 (show x ≠ y from fun e => neB_iff.1 tn (by rw [e]))))))))
            clear tt td
            go_wp2
            go_ret
            exact ⟨by rw [HQ.out]; rfl, HG.out.trans HGE.out⟩
          rcases tt with tt | tt
          · have HQ := Lib.hid (dsk_ne (a := a) (b := b) (.inr (.inr (.inr (.inl (ne_at HXJ.out.1 HXJ.out.2 (show x ≠ y from fun e => neB_iff.1 tt (by rw [e]))))))))
            clear td
            go_wp2
            go_ret
            exact ⟨by rw [HQ.out]; rfl, HG.out.trans HGE.out⟩
          rcases td with td | td
          · have HQ := Lib.hid (dsk_ne (a := a) (b := b) (.inr (.inr (.inr (.inl (ne_at HXJ.out.1 HXJ.out.2 (show x ≠ y from fun e => neB_iff.1 td (by rw [e]))))))))
            go_wp2
            go_ret
            exact ⟨by rw [HQ.out]; rfl, HG.out.trans HGE.out⟩
          have HQ := Lib.hid (show x = y from by
            have e1 : x.kind = y.kind := by simpa using tk
            have e2 := nb_eq tn
            have e3 := nb_eq tt
            have e4 := nb_eq td
            cases x; cases y; simp_all)
          go_wp2
          exact ⟨⟨j + 1, by go_num, by omega, take_ext_step HE.out.1 HXJ.out.1 HXJ.out.2 HQ.out, HGE.out⟩, by simp [intOf]; omega⟩
      · go_wp2
        go_ret
        refine ⟨?_, HG.out.trans HE.out.2⟩
        have h1 := HE.out.1
        obtain ⟨h2, h3, h4, h5⟩ := HFE.out
        rw [List.take_of_length_le (by have := HLA.out; omega), List.take_of_length_le (by have := HLB.out; omega)] at h1
        rw [decide_eq_true (show a = b by cases a; cases b; simp_all)]
        rfl
  · have hfb : decide (a.files = b.files) = false := decide_eq_false hfe
    have HN := Lib.hid (dsk_ne (a := a) (b := b) (.inr (.inr (.inr (.inr hfe)))))
    rw [hfb]
    go_wp2
    go_ret
    exact ⟨by rw [HN.out]; rfl, HG.out.trans HG3.out⟩
end Go.Proofs.Ytbgcjbpkgijmeaa
