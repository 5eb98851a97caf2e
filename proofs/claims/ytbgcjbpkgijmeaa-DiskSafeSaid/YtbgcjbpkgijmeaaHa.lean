/-
  Walk: operations, one behind the other, as far as they are done.
  Conditions: none beyond those typed at each theorem.
-/
import Derived.Test.YtbgcjbpkgijmeaaDw
import Derived.Test.YtbgcjbpkgijmeaaLb
namespace Go.Proofs.Ytbgcjbpkgijmeaa
open Go Go.RowKit Go.Maps
attribute [local go_sem ↓] Go.wp_at_zero Go.wp_at_succ

/-- A disk's rows lie elsewhere than what is written. -/
theorem IsDsk.kp {N : Nat → Obj → Prop} {A B : World} (h : Kp N A B) {S : Nat → Prop} {v : Value} {d : Dsk} (hs : IsDsk S A v d) (hN : ∀ b c e f, S b → A.heap[b]? = some (.cells c e f) → N b (.cells c e f)) : IsDsk S B v d := by
  obtain ⟨fv, qv, h1, h2, h3, h4⟩ := hs
  exact ⟨fv, qv, h1, h2.kp h hN, h3.kp h hN, h4⟩
theorem IsDsk.mono {A : World} {S T : Nat → Prop} {v : Value} {d : Dsk} (hs : IsDsk S A v d) (hST : ∀ b, S b → T b) : IsDsk T A v d := by
  obtain ⟨fv, qv, h1, h2, h3, h4⟩ := hs
  exact ⟨fv, qv, h1, h2.mono hST, h3.mono hST, h4⟩
/-- One cell written: all that lies elsewhere stays. -/
theorem kp_set (X : World) (b j : Nat) (v : Value) : Kp (fun k _ => k ≠ b) X (X.setCell ⟨b, j, none⟩ v) :=
  ⟨rfl, rfl, rfl, by simp [World.setCell], fun k ob hk hn => by rw [setCell_other _ hn]; exact hk⟩
set_option maxHeartbeats 4000000 in
theorem kp_set5 (X : World) (b : Nat) (y0 y1 y2 y3 y4 : Value) : Kp (fun k _ => k ≠ b) X (set5 X b y0 y1 y2 y3 y4) :=
  ⟨rfl, rfl, rfl, by simp [set5, World.setCell], fun k ob hk hn => by rw [set5_other hn]; exact hk⟩
theorem fold_cnt (q : List Opr) : ∀ d : Dsk, cnt (q.foldl doD d) ≤ cnt d + q.length ∧ tot (q.foldl doD d) ≤ tot d + sizeQ q := by
  induction q with
  | nil => intro d; exact ⟨Nat.le_refl _, Nat.le_refl _⟩
  | cons o q ih =>
    intro d
    have h1 := ih (doD d o)
    have h2 := do_cnt d o
    have h3 := do_tot d o
    rw [List.foldl_cons, List.length_cons, sizeQ_cons]
    omega
theorem do_snoc {q : List Opr} {j : Nat} {o : Opr} (h : q[j]? = some o) (d : Dsk) : (q.take (j + 1)).foldl doD d = doD ((q.take j).foldl doD d) o := by
  rw [take_step h, List.foldl_append]; rfl

def OpsPost (w : World) (d : Dsk) (e : Ending) (w' : World) : Prop := ∃ v', e = .returned v' ∧ IsDsk (· < w'.heap.size) w' v' d ∧ Gr w w'
set_option maxRecDepth 100000 in
set_option maxHeartbeats 4000000 in
theorem ops_any (w : World) {S T : Nat → Prop} (v qv : Value) (d : Dsk) (q : List Opr) (hx : IsDsk S w v d) (hq : IsOps T w qv q) (hc : cnt d + q.length ≤ 1000000) (ht : tot d + sizeQ q ≤ 1000000000000) :
    Calls Try.prog 19 #[v, qv] w (OpsPost w (q.foldl doD d)) := by
  have hx := dsk_inn hx
  obtain ⟨fv, qv0, rfl, hf0, hq0, hnum⟩ := hx
  obtain ⟨fa, fc, rfl, _, _⟩ := hf0.len
  obtain ⟨da, dc, rfl, _, _⟩ := hq0.len
  obtain ⟨qa, qc, rfl, hqc, hqm⟩ := hq.len
  obtain ⟨W2, hW2⟩ : ∃ W2, (w.alloc (.cells #[.slice fa d.files.length fc, .slice da d.queue.length dc, .int .i64 d.quota, .int .i64 d.fuse, .bool d.dead] 25)).alloc (.cells #[.slice none 0 0, .slice none 0 0, .int .i64 0, .int .i64 0, .bool false] 25) = W2 := ⟨_, rfl⟩
  have hG : Gr w W2 := by rw [← hW2]; exact (Gr.alloc (Gr.refl w) _).alloc _
  have hB1 : W2.heap[w.heap.size]? = some (.cells #[.slice fa d.files.length fc, .slice da d.queue.length dc, .int .i64 d.quota, .int .i64 d.fuse, .bool d.dead] 25 (0, 0)) := by rw [← hW2]; exact alloc2_heap0 _ _ _
  have hB2 : W2.heap[w.heap.size + 1]? = some (.cells #[.slice none 0 0, .slice none 0 0, .int .i64 0, .int .i64 0, .bool false] 25 (0, 0)) := by rw [← hW2]; exact alloc2_heap1 _ _ _
  have HD0 := Lib.hid (show IsDsk (fun k => k ≠ w.heap.size ∧ k ≠ w.heap.size + 1) W2 (dskV d (.slice fa d.files.length fc) (.slice da d.queue.length dc)) d from IsDsk.gr hG (IsDsk.mono ⟨_, _, rfl, hf0, hq0, hnum⟩ fun b hb => by have hb : b < w.heap.size := hb; show b ≠ w.heap.size ∧ b ≠ w.heap.size + 1; omega))
  have HQ := Lib.hid hq
  have HL := Lib.hid (And.intro hc ht)
  have hlq : q.length ≤ 1000000 := by omega
  have HW := Lib.hid hW2
  have HG := Lib.hid hG
  have HB := Lib.hid (And.intro hB1 hB2)
  clear hf0 hq0 hnum hq hG hB1 hB2 hW2 hc ht hqm
  show Calls Try.prog 19 #[.agg #[.slice fa d.files.length fc, .slice da d.queue.length dc, .int .i64 d.quota, .int .i64 d.fuse, .bool d.dead], .slice qa q.length qc] w _
  go_enter Try.func19, Try.ntmps19
  go_upto_region 1 with fail
  rw [HW.out]
  go_wp2
  go_loopw [5] (fun k wr => ∃ (j : Nat) (fa fc da dc : _) (dd : Dsk), k = .int .i64 j ∧ j ≤ q.length ∧ dd = (q.take j).foldl doD d ∧
      wr.heap[w.heap.size]? = some (.cells #[.slice fa dd.files.length fc, .slice da dd.queue.length dc, .int .i64 dd.quota, .int .i64 dd.fuse, .bool dd.dead] 25 (0, 0)) ∧
      wr.heap[w.heap.size + 1]? = some (.cells #[.slice none 0 0, .slice none 0 0, .int .i64 0, .int .i64 0, .bool false] 25 (0, 0)) ∧
      IsDsk (fun k => k ≠ w.heap.size ∧ k ≠ w.heap.size + 1) wr (dskV dd (.slice fa dd.files.length fc) (.slice da dd.queue.length dc)) dd ∧ Gr w wr) (fun k _ => q.length - (intOf k).toNat)
  case atStart => exact ⟨0, fa, fc, da, dc, d, rfl, Nat.zero_le _, rfl, HB.out.1, HB.out.2, HD0.out, HG.out⟩
  case round =>
    obtain ⟨j, fa, fc, da, dc, dd, rfl, hj, hdd, hb1, hb2, hd, hg⟩ := hrel
    have HR := Lib.hid (And.intro hb1 (And.intro hb2 (And.intro hd hg)))
    have HDD := Lib.hid hdd
    have e0 := cell_block hb1 (j := 0) rfl
    have e1 := cell_block hb1 (j := 1) rfl
    have e2 := cell_block hb1 (j := 2) rfl
    have e3 := cell_block hb1 (j := 3) rfl
    have e4 := cell_block hb1 (j := 4) rfl
    clear hb1 hb2 hd hg hdd
    by_cases hlt : j < q.length
    · obtain ⟨o, hoj⟩ : ∃ o, q[j]? = some o := ⟨_, List.getElem?_eq_getElem hlt⟩
      obtain ⟨b2, o2, c2, hv2, _, _, _, hrows⟩ := HQ.out.some (by omega)
      simp only [Value.slice.injEq, true_and] at hv2
      obtain ⟨rfl, rfl⟩ := hv2
      obtain ⟨bv, hr1, hbv⟩ := hrows j o hoj
      obtain ⟨ba, bc, rfl, _, _⟩ := IsBy.len hbv
      have hg := HR.out.2.2.2
      have m0 := later_cell hg (show w.cell? ⟨b2, o2 + j * 4, none⟩ = some (.int .u8 o.kind) from hr1 0 _ rfl)
      have m1 := later_cell hg (show w.cell? ⟨b2, o2 + j * 4 + 1, none⟩ = some (strV o.name) from hr1 1 _ rfl)
      have m2 := later_cell hg (show w.cell? ⟨b2, o2 + j * 4 + 2, none⟩ = some (strV o.to) from hr1 2 _ rfl)
      have m3 := later_cell hg (show w.cell? ⟨b2, o2 + j * 4 + 3, none⟩ = some (.slice ba o.data.length bc) from hr1 3 _ rfl)
      have hok := HQ.out.ok o (List.mem_of_getElem? hoj)
      have hfc := fold_cnt (q.take j) d
      rw [← HDD.out] at hfc
      have hL := HL.out
      have htl := tail_size hoj
      have hlk : (q.take j).length = j := by rw [List.length_take]; omega
      have HDO := Lib.hid (do_any wr.drew _ (.slice ba o.data.length bc) dd o (HR.out.2.2.1.gr (Gr.refl wr).drew) (IsBy.gr hg.drew hbv) hok (by omega) (by omega) (by omega))
      have HNX := Lib.hid (show doD dd o = (q.take (j + 1)).foldl doD d from by rw [do_snoc hoj, ← HDD.out])
      have hj0 : (0 : Int) ≤ (j : Int) := by omega
      have hj1 : (j : Int) < (q.length : Int) := by omega
      clear hrows hr1 hbv hok hoj hg hfc hL htl hlk
      go_wp2_with fail
      go_region_law (first
        | (go_simp; refine HDO.out.mono ?_; rintro e w3 ⟨v3, rfl, ⟨fv3, qv3, rfl, hf3, hq3, hnum3⟩, hg3⟩
           obtain ⟨fa3, fc3, rfl⟩ := hf3.slice
           obtain ⟨qa3, qc3, rfl⟩ := hq3.slice
           have hb1 := hg3.same (show wr.drew.heap[w.heap.size]? = _ from HR.out.1)
           have hb2 := hg3.same (show wr.drew.heap[w.heap.size + 1]? = _ from HR.out.2.1)
           have x0 := cell_block hb1 (j := 0) rfl
           have x1 := cell_block hb1 (j := 1) rfl
           have x2 := cell_block hb1 (j := 2) rfl
           have x3 := cell_block hb1 (j := 3) rfl
           have x4 := cell_block hb1 (j := 4) rfl
           have y0 := frozen_block hb1 (j := 0)
           have y1 := frozen_block hb1 (j := 1)
           have y2 := frozen_block hb1 (j := 2)
           have y3 := frozen_block hb1 (j := 3)
           have y4 := frozen_block hb1 (j := 4)
           have HP := Lib.hid (And.intro hb1 (And.intro hb2 (And.intro hf3 (And.intro hq3 (And.intro hnum3 (HR.out.2.2.2.drew.trans hg3))))))
           simp only [dskV]
           clear hb1 hb2 hf3 hq3 hnum3 hg3))
      all_goals
        go_wp2
        obtain ⟨p1, p2, p3, p4, p5, p6⟩ := HP.out
        have hz : w.heap.size < wr.drew.heap.size := (Array.getElem?_eq_some_iff.1 (show wr.drew.heap[w.heap.size]? = _ from HR.out.1)).1
        refine ⟨⟨j + 1, fa3, fc3, qa3, qc3, doD dd o, by go_num, by omega, HNX.out, row5_filled p1 _ _ _ _ _, (set5_other (by omega)).trans p2, ?_, set5_gr p6 (Nat.le_refl _)⟩, by simp [intOf]; omega⟩
        refine IsDsk.kp (kp_set5 _ _ _ _ _ _ _) (IsDsk.mono (OwnDsk.is ⟨_, _, rfl, p3, p4, p5⟩) fun b hb => ?_) fun b _ _ _ hb _ => hb.1
        have hb : wr.drew.heap.size ≤ b := hb
        have hz2 : w.heap.size + 1 < wr.drew.heap.size := (Array.getElem?_eq_some_iff.1 (show wr.drew.heap[w.heap.size + 1]? = _ from HR.out.2.1)).1
        show b ≠ w.heap.size ∧ b ≠ w.heap.size + 1
        omega
    · have hjl : j = q.length := by omega
      have HF := Lib.hid (show dd = q.foldl doD d from by rw [HDD.out, List.take_of_length_le (by omega)])
      have hb2 := HR.out.2.1
      have x0 := cell_block hb2 (j := 0) rfl
      have x1 := cell_block hb2 (j := 1) rfl
      have x2 := cell_block hb2 (j := 2) rfl
      have x3 := cell_block hb2 (j := 3) rfl
      have x4 := cell_block hb2 (j := 4) rfl
      have y0 := frozen_block hb2 (j := 0)
      have y1 := frozen_block hb2 (j := 1)
      have y2 := frozen_block hb2 (j := 2)
      have y3 := frozen_block hb2 (j := 3)
      have y4 := frozen_block hb2 (j := 4)
      clear hb2 hjl
      go_wp2
      obtain ⟨p1, p2, p3, p4⟩ := HR.out
      refine bodyPost_ret (v := dskV dd (.slice fa dd.files.length fc) (.slice da dd.queue.length dc)) (results_row rfl Try.underlying25 rfl info25 rfl (rowAt_block (row5_filled p2 _ _ _ _ _) rfl)) rfl ⟨_, rfl, ?_, set5_gr p4 (by omega)⟩
      rw [← HF.out]
      exact dsk_inn (IsDsk.kp (kp_set5 _ _ _ _ _ _ _) p3 fun b _ _ _ hb _ => hb.2)
end Go.Proofs.Ytbgcjbpkgijmeaa
