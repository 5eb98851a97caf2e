/-
  Walk: all made safe.
  Conditions: none beyond those typed at each theorem.
-/
import Derived.Test.YtbgcjbpkgijmeaaDt
namespace Go.Proofs.Ytbgcjbpkgijmeaa
open Go Go.RowKit Go.Maps

/-- A disk in the variable at b, its rows from base on. -/
structure Boxed (w : World) (b base : Nat) (X : World) (d : Dsk) (fv qv : Value) : Prop where
  row : X.heap[b]? = some (.cells #[fv, qv, .int .i64 d.quota, .int .i64 d.fuse, .bool d.dead] 25 (0, 0))
  files : OwnFls base X fv d.files
  queue : OwnOps base X qv d.queue
  num : Num d
  gr : Gr w X
  low : w.heap.size ≤ b
  lt : b < base
theorem Boxed.is {w X : World} {b base : Nat} {d : Dsk} {fv qv : Value} (h : Boxed w b base X d fv qv) : IsDsk (fun k => base ≤ k) X (dskV d fv qv) d := ⟨fv, qv, rfl, h.files.is, h.queue.is, h.num⟩
theorem Boxed.gr' {w X Y : World} {b base : Nat} {d : Dsk} {fv qv : Value} (h : Boxed w b base X d fv qv) (hg : Gr X Y) : Boxed w b base Y d fv qv :=
  ⟨hg.same h.row, h.files.gr hg, h.queue.gr hg, h.num, h.gr.trans hg, h.low, h.lt⟩
/-- Five cells written. -/
abbrev set5 (X : World) (b : Nat) (y0 y1 y2 y3 y4 : Value) : World := ((((X.setCell ⟨b, 0, none⟩ y0).setCell ⟨b, 1, none⟩ y1).setCell ⟨b, 2, none⟩ y2).setCell ⟨b, 3, none⟩ y3).setCell ⟨b, 4, none⟩ y4
theorem set5_other {X : World} {b k : Nat} {y0 y1 y2 y3 y4 : Value} (h : k ≠ b) : (set5 X b y0 y1 y2 y3 y4).heap[k]? = X.heap[k]? := by
  unfold set5
  rw [setCell_other _ h, setCell_other _ h, setCell_other _ h, setCell_other _ h, setCell_other _ h]
theorem set5_gr {w X : World} {b : Nat} {y0 y1 y2 y3 y4 : Value} (hg : Gr w X) (h : w.heap.size ≤ b) : Gr w (set5 X b y0 y1 y2 y3 y4) :=
  Gr.set (Gr.set (Gr.set (Gr.set (Gr.set hg h _) h _) h _) h _) h _
/-- What has come is put into the variable. -/
theorem boxed_set {w X : World} {b base : Nat} {d : Dsk} {fv qv x0 x1 x2 x3 x4 : Value} (hb : X.heap[b]? = some (.cells #[x0, x1, x2, x3, x4] 25 (0, 0))) (hg : Gr w X) (h : w.heap.size ≤ b) (hbb : b < base)
    (hf : OwnFls base X fv d.files) (hq : OwnOps base X qv d.queue) (hn : Num d) : Boxed w b base (set5 X b fv qv (.int .i64 d.quota) (.int .i64 d.fuse) (.bool d.dead)) d fv qv :=
  ⟨row5_filled hb _ _ _ _ _, hf.keep fun k _ _ _ hk _ => set5_other (by omega), hq.keep fun k _ _ _ hk _ => set5_other (by omega), hn, set5_gr hg h, h, hbb⟩

theorem row_grown {α : Type} {E : El α} {base b : Nat} {A B : World} {v : Value} {xs : List α} (h : OwnRow E base A v xs) (hg : A.grownBy B (some b)) (hb : b < base) : OwnRow E base B v xs :=
  h.keep fun k _ _ hk hbk _ => hg.block k (Array.getElem?_eq_some_iff.1 hk).1 (fun e => by injection e with e; omega)
theorem burn_num {d : Dsk} (h : Num d) : Num (burnP d) := by
  unfold burnP
  split
  · refine ⟨h.1, wf64_of ?_⟩
    have := wf64 h.2
    show -9223372036854775808 ≤ d.fuse - 1 ∧ d.fuse - 1 ≤ 9223372036854775807
    omega
  · exact h
theorem burn_files (d : Dsk) : (burnP d).files = d.files := by unfold burnP; split <;> rfl
theorem burn_queue (d : Dsk) : (burnP d).queue = d.queue := by unfold burnP; split <;> rfl
set_option maxRecDepth 100000 in
set_option maxHeartbeats 2000000 in
theorem sync_any (w : World) {S : Nat → Prop} (v : Value) (d : Dsk) (hx : IsDsk S w v d) (hc : cnt d ≤ 1000000) (ht : tot d ≤ 1000000000000) :
    Calls Try.prog 14 #[v] w fun e w' => ∃ v', e = .returned (.tuple #[v', .int .i64 (mayP d)]) ∧ OwnDsk w.heap.size w' v' (syncD d) ∧ Gr w w' := by
  obtain ⟨fa, fc, qa, qc, rfl⟩ := dsk_val hx
  obtain ⟨W2, hW2⟩ : ∃ W2, (w.alloc (.cells #[.slice fa d.files.length fc, .slice qa d.queue.length qc, .int .i64 d.quota, .int .i64 d.fuse, .bool d.dead] 25)).alloc (.cells #[.slice none 0 0, .slice none 0 0, .int .i64 0, .int .i64 0, .bool false] 25) = W2 := ⟨_, rfl⟩
  have hG : Gr w W2 := by rw [← hW2]; exact (Gr.alloc (Gr.refl w) _).alloc _
  have hB1 : W2.heap[w.heap.size]? = some (.cells #[.slice fa d.files.length fc, .slice qa d.queue.length qc, .int .i64 d.quota, .int .i64 d.fuse, .bool d.dead] 25 (0, 0)) := by rw [← hW2]; exact alloc2_heap0 _ _ _
  have hB2 : W2.heap[w.heap.size + 1]? = some (.cells #[.slice none 0 0, .slice none 0 0, .int .i64 0, .int .i64 0, .bool false] 25 (0, 0)) := by rw [← hW2]; exact alloc2_heap1 _ _ _
  have hs2 : W2.heap.size = w.heap.size + 2 := by rw [← hW2]; simp
  have c0 := cell_block hB1 (j := 0) (v := .slice fa d.files.length fc) rfl
  have c1 := cell_block hB1 (j := 1) (v := .slice qa d.queue.length qc) rfl
  have c2 := cell_block hB1 (j := 2) (v := .int .i64 d.quota) rfl
  have c3 := cell_block hB1 (j := 3) (v := .int .i64 d.fuse) rfl
  have c4 := cell_block hB1 (j := 4) (v := .bool d.dead) rfl
  have HO := Lib.hid (own_any W2 _ d (hx.gr hG) hc ht)
  have HCT := Lib.hid (And.intro hc ht)
  have HW := Lib.hid hW2
  have HG := Lib.hid hG
  have HB := Lib.hid (And.intro hB1 hB2)
  have HS2 := Lib.hid hs2
  have HMYg := Lib.hid (show ∀ (X : World) (S : Nat → Prop) (v : Value), IsDsk S X v d → Calls Try.prog 25 #[v] X fun e w' => e = .returned (.int .i64 (mayP d)) ∧ Gr X w' from fun X S v h => may_any X v d h hc ht)
  have HSD := Lib.hid (show syncD d = if mayP d = 0 then burnP { d with files := nowL d, queue := [] } else d from rfl)
  clear hx hG hB1 hB2 hW2 hc ht hs2
  generalize syncD d = sd at *
  generalize mayP d = m at *
  go_enter Try.func14, Try.ntmps14
  go_upto_region 1 with fail
  rw [HW.out]
  go_wp2_with fail
  refine HO.out.mono ?_
  rintro e w3 ⟨v3, rfl, ⟨fv, qv, rfl, hf, hq, hnum⟩, hg⟩
  obtain ⟨fa3, fc3, rfl⟩ := hf.slice
  obtain ⟨qa3, qc3, rfl⟩ := hq.slice
  have b1 := hg.same HB.out.1
  have b2 := hg.same HB.out.2
  have e0 := cell_block b1 (j := 0) rfl
  have e1 := cell_block b1 (j := 1) rfl
  have e2 := cell_block b1 (j := 2) rfl
  have e3 := cell_block b1 (j := 3) rfl
  have e4 := cell_block b1 (j := 4) rfl
  have f0 := frozen_block b1 (j := 0)
  have f1 := frozen_block b1 (j := 1)
  have f2 := frozen_block b1 (j := 2)
  have f3 := frozen_block b1 (j := 3)
  have f4 := frozen_block b1 (j := 4)
  have hbx := boxed_set b1 (HG.out.trans hg) (Nat.le_refl _) (show w.heap.size < W2.heap.size by have := HS2.out; omega) hf hq hnum
  have hr4 := (set5_other (X := w3) (b := w.heap.size) (k := w.heap.size + 1) (y0 := .slice fa3 d.files.length fc3) (y1 := .slice qa3 d.queue.length qc3) (y2 := .int .i64 d.quota) (y3 := .int .i64 d.fuse) (y4 := .bool d.dead) (by omega)).trans b2
  clear c0 c1 c2 c3 c4 hf hq hg b1 b2
  simp only [dskV]
  obtain ⟨W4, hW4⟩ : ∃ W4, set5 w3 w.heap.size (.slice fa3 d.files.length fc3) (.slice qa3 d.queue.length qc3) (.int .i64 d.quota) (.int .i64 d.fuse) (.bool d.dead) = W4 := ⟨_, rfl⟩
  rw [hW4] at hbx hr4
  unfold set5 at hW4
  have HBX := Lib.hid hbx
  have HR4 := Lib.hid hr4
  have HW4 := Lib.hid hW4
  clear hbx hr4 hW4
  have k0 := cell_block HBX.out.row (j := 0) (v := .slice fa3 d.files.length fc3) rfl
  have k1 := cell_block HBX.out.row (j := 1) (v := .slice qa3 d.queue.length qc3) rfl
  have k2 := cell_block HBX.out.row (j := 2) (v := .int .i64 d.quota) rfl
  have k3 := cell_block HBX.out.row (j := 3) (v := .int .i64 d.fuse) rfl
  have k4 := cell_block HBX.out.row (j := 4) (v := .bool d.dead) rfl
  go_upto_region 2 with fail
  rw [HW4.out]
  clear HW4 e0 e1 e2 e3 e4 f0 f1 f2 f3 f4
  have HMY := Lib.hid (HMYg.out W4 _ _ HBX.out.is)
  have HNW := Lib.hid (show ∀ X, Gr W4 X → Calls Try.prog 9 #[.agg #[.slice fa3 d.files.length fc3, .slice qa3 d.queue.length qc3, .int .i64 d.quota, .int .i64 d.fuse, .bool d.dead]] X fun e w' => ∃ v', e = .returned v' ∧ OwnFls X.heap.size w' v' (nowL d) ∧ Gr X w' from
    fun X hX => nowL_any X _ d (HBX.out.gr' hX).is HCT.out.1 HCT.out.2)
  by_cases hm : m = 0
  · have HSD2 := Lib.hid (HSD.out.trans (if_pos hm))
    clear HSD
    subst hm
    go_wp2_with fail
    refine HMY.out.mono ?_
    rintro e w5 ⟨rfl, hg5⟩
    have hbx5 := HBX.out.gr' hg5
    have k0 := cell_block hbx5.row (j := 0) (v := .slice fa3 d.files.length fc3) rfl
    have k1 := cell_block hbx5.row (j := 1) (v := .slice qa3 d.queue.length qc3) rfl
    have k2 := cell_block hbx5.row (j := 2) (v := .int .i64 d.quota) rfl
    have k3 := cell_block hbx5.row (j := 3) (v := .int .i64 d.fuse) rfl
    have k4 := cell_block hbx5.row (j := 4) (v := .bool d.dead) rfl
    have HNW5 := Lib.hid (HNW.out w5 hg5)
    have HG5 := Lib.hid (And.intro hg5 hbx5)
    clear hg5 hbx5 HNW HMY
    go_wp2_with fail
    refine HNW5.out.mono ?_
    rintro e w6 ⟨v6, rfl, ho6, hg6⟩
    obtain ⟨fa6, fc6, rfl⟩ := ho6.slice
    have hbx6 := HG5.out.2.gr' hg6
    have hr6 := hg6.same (HG5.out.1.same HR4.out)
    have e0 := cell_block hbx6.row (j := 0) rfl
    have e1 := cell_block hbx6.row (j := 1) rfl
    have e2 := cell_block hbx6.row (j := 2) rfl
    have f0 := frozen_block hbx6.row (j := 0)
    have f1 := frozen_block hbx6.row (j := 1)
    have hb7 : ((w6.setCell ⟨w.heap.size, 0, none⟩ (.slice fa6 (nowL d).length fc6)).setCell ⟨w.heap.size, 1, none⟩ (.slice none 0 0)).heap[w.heap.size]? = some (.cells #[.slice fa6 (nowL d).length fc6, .slice none 0 0, .int .i64 d.quota, .int .i64 d.fuse, .bool d.dead] 25 (0, 0)) :=
      setCell_block (setCell_block hbx6.row _) _
    have hz : w.heap.size + 2 ≤ w5.heap.size := by have := HS2.out; have := (HG.out.trans (Gr.refl W2)).size; have h1 := HG5.out.2.queue; have := HG5.out.1.size; have h3 := (Array.getElem?_eq_some_iff.1 HR4.out).1; omega
    have hf7 : OwnFls w5.heap.size ((w6.setCell ⟨w.heap.size, 0, none⟩ (.slice fa6 (nowL d).length fc6)).setCell ⟨w.heap.size, 1, none⟩ (.slice none 0 0)) (.slice fa6 (nowL d).length fc6) (nowL d) :=
      ho6.keep fun k _ _ _ hk _ => by rw [setCell_other _ (by omega), setCell_other _ (by omega)]
    have hr7 : ((w6.setCell ⟨w.heap.size, 0, none⟩ (.slice fa6 (nowL d).length fc6)).setCell ⟨w.heap.size, 1, none⟩ (.slice none 0 0)).heap[w.heap.size + 1]? = _ := heap_set_other (heap_set_other hr6 (by omega)) (by omega)
    have hg7 : Gr w ((w6.setCell ⟨w.heap.size, 0, none⟩ (.slice fa6 (nowL d).length fc6)).setCell ⟨w.heap.size, 1, none⟩ (.slice none 0 0)) := Gr.set (Gr.set hbx6.gr (Nat.le_refl _) _) (Nat.le_refl _) _
    have HB := Lib.hid (burn_any _ w.heap.size (.slice fa6 (nowL d).length fc6) (.slice none 0 0) { d with files := nowL d, queue := [] } hbx6.num hb7)
    have HP7 := Lib.hid (And.intro hf7 (And.intro hr7 (And.intro hg7 (And.intro hz hbx6.num))))
    clear hbx6 hr6 hb7 hf7 hr7 hg7 ho6 hg6 k0 k1 k2 k3 k4
    go_wp2_with fail
    refine HB.out.mono ?_
    rintro e w8 ⟨rfl, hb8, hg8⟩
    obtain ⟨q1, q2, q3, q4, q5⟩ := HP7.out
    have hf8 := row_grown q1 hg8 (by omega : w.heap.size < w5.heap.size)
    have hr8 := (hg8.block _ (Array.getElem?_eq_some_iff.1 q2).1 (fun e => by injection e with e; omega)).trans q2
    have hg8' := grown_gr q3 hg8 fun k hk => by cases hk; exact Nat.le_refl _
    have hbn := burn_num (d := { d with files := nowL d, queue := [] }) q5
    have hbf := burn_files { d with files := nowL d, queue := [] }
    have hbq := burn_queue { d with files := nowL d, queue := [] }
    rw [← HSD2.out] at hbn hbf hbq hb8
    have e0 := cell_block hb8 (j := 0) (v := .slice fa6 (nowL d).length fc6) rfl
    have e1 := cell_block hb8 (j := 1) (v := .slice none 0 0) rfl
    have e2 := cell_block hb8 (j := 2) (v := .int .i64 sd.quota) rfl
    have e3 := cell_block hb8 (j := 3) (v := .int .i64 sd.fuse) rfl
    have e4 := cell_block hb8 (j := 4) (v := .bool sd.dead) rfl
    have x0 := cell_block hr8 (j := 0) rfl
    have x1 := cell_block hr8 (j := 1) rfl
    have x2 := cell_block hr8 (j := 2) rfl
    have x3 := cell_block hr8 (j := 3) rfl
    have x4 := cell_block hr8 (j := 4) rfl
    have y0 := frozen_block hr8 (j := 0)
    have y1 := frozen_block hr8 (j := 1)
    have y2 := frozen_block hr8 (j := 2)
    have y3 := frozen_block hr8 (j := 3)
    have y4 := frozen_block hr8 (j := 4)
    have HP8 := Lib.hid (And.intro hf8 (And.intro hr8 (And.intro hg8' (And.intro hbn (And.intro hbf (And.intro hbq q4))))))
    clear hf8 hr8 hg8' hbn hbf hbq hb8 hg8 q1 q2 q3 q4 q5 HSD2
    go_wp2
    obtain ⟨p1, p2, p3, p4, p5, p6, p7⟩ := HP8.out
    refine bodyPost_ret (results_row_tmp rfl Try.underlying25 rfl info25 rfl (rowAt_block (row5_filled p2 _ _ _ _ _) rfl)) rfl ⟨_, rfl, ⟨_, _, rfl, ?_, ?_, p4⟩, ?_⟩
    · rw [p5]
      refine OwnRow.down (show w.heap.size ≤ w5.heap.size by omega) (p1.keep fun k _ _ _ hk _ => set5_other (by omega))
    · rw [p6]; exact OwnRow.nil _ _ _
    · exact set5_gr p3 (by omega)
  · have HSD2 := Lib.hid (HSD.out.trans (if_neg hm))
    have hm0 : (m == 0) = false := by simpa using hm
    clear HSD HNW
    go_wp2_with fail
    refine HMY.out.mono ?_
    rintro e w5 ⟨rfl, hg5⟩
    have hbx5 := HBX.out.gr' hg5
    have hr5 := hg5.same HR4.out
    have k0 := cell_block hbx5.row (j := 0) (v := .slice fa3 d.files.length fc3) rfl
    have k1 := cell_block hbx5.row (j := 1) (v := .slice qa3 d.queue.length qc3) rfl
    have k2 := cell_block hbx5.row (j := 2) (v := .int .i64 d.quota) rfl
    have k3 := cell_block hbx5.row (j := 3) (v := .int .i64 d.fuse) rfl
    have k4 := cell_block hbx5.row (j := 4) (v := .bool d.dead) rfl
    have x0 := cell_block hr5 (j := 0) rfl
    have x1 := cell_block hr5 (j := 1) rfl
    have x2 := cell_block hr5 (j := 2) rfl
    have x3 := cell_block hr5 (j := 3) rfl
    have x4 := cell_block hr5 (j := 4) rfl
    have y0 := frozen_block hr5 (j := 0)
    have y1 := frozen_block hr5 (j := 1)
    have y2 := frozen_block hr5 (j := 2)
    have y3 := frozen_block hr5 (j := 3)
    have y4 := frozen_block hr5 (j := 4)
    have HP5 := Lib.hid (And.intro hbx5 hr5)
    have hz2 := HS2.out
    have HM := Lib.hid hm
    clear hg5 hbx5 hr5 HMY hm
    go_wp2
    obtain ⟨p1, p2⟩ := HP5.out
    refine bodyPost_ret (results_row_tmp rfl Try.underlying25 rfl info25 rfl (rowAt_block (row5_filled p2 _ _ _ _ _) rfl)) rfl ⟨_, rfl, ?_, ?_⟩
    · rw [HSD2.out]
      exact ⟨_, _, rfl, OwnRow.down (show w.heap.size ≤ W2.heap.size by omega) (p1.files.keep fun k _ _ _ hk _ => set5_other (by omega)), OwnRow.down (show w.heap.size ≤ W2.heap.size by omega) (p1.queue.keep fun k _ _ _ hk _ => set5_other (by omega)), p1.num⟩
    · exact set5_gr p1.gr (by omega)
end Go.Proofs.Ytbgcjbpkgijmeaa
