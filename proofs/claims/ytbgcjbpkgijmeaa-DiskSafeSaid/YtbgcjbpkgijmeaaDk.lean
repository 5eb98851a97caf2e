/-
  Walk: the files now, as a map.
  Conditions: none beyond those typed at each theorem.
-/
import Derived.Test.YtbgcjbpkgijmeaaDj
namespace Go.Proofs.Ytbgcjbpkgijmeaa
open Go Go.RowKit Go.Maps

theorem dsk_inn {S : Nat → Prop} {w : World} {v : Value} {d : Dsk} (h : IsDsk S w v d) : IsDsk (· < w.heap.size) w v d := by
  obtain ⟨fv, qv, h1, h2, h3, h4⟩ := h
  exact ⟨fv, qv, h1, row_inn (by decide) h2, row_inn (by decide) h3, h4⟩

set_option maxRecDepth 100000 in
set_option maxHeartbeats 1000000 in
theorem now_any (w : World) (n0 : Nat) (hn0 : n0 ≤ w.heap.size) (v : Value) (d : Dsk) (hx : IsDsk (· < n0) w v d) (hc : cnt d ≤ 1000000) (ht : tot d ≤ 1000000000000) :
    Calls Try.prog 22 #[v] w fun e w' => ∃ b D, e = .returned (.map (some b)) ∧ w.heap.size ≤ b ∧ OwnM w' b (cnt d) D ∧ MapIs n0 w' D (nowL d) ∧ Gr w w' := by
  obtain ⟨fv, qv, rfl, hf, hq, hnum⟩ := hx
  obtain ⟨fa, fc, rfl, _, _⟩ := hf.len
  obtain ⟨qa, qc, rfl, _, _⟩ := hq.len
  unfold cnt at hc
  unfold tot at ht
  obtain ⟨W1, hW1⟩ : ∃ W1, w.alloc (.cells #[.slice fa d.files.length fc, .slice qa d.queue.length qc, .int .i64 d.quota, .int .i64 d.fuse, .bool d.dead] 25) = W1 := ⟨_, rfl⟩
  have hB : W1.heap[w.heap.size]? = some (.cells #[.slice fa d.files.length fc, .slice qa d.queue.length qc, .int .i64 d.quota, .int .i64 d.fuse, .bool d.dead] 25 (0, 0)) := by rw [← hW1]; exact alloc1_heap _ _
  have hG : Gr w W1 := by rw [← hW1]; exact Gr.alloc (Gr.refl w) _
  have hG' : Gr w W1.drew := hG.drew
  have c0 := cell_block hB (j := 0) (v := .slice fa d.files.length fc) rfl
  have c1 := cell_block hB (j := 1) (v := .slice qa d.queue.length qc) rfl
  have HT := Lib.hid (taken_any W1.drew n0 (Nat.le_trans hn0 hG'.size) (.slice fa d.files.length fc) d.files (hf.gr hG') (by omega))
  have HDn := Lib.hid (show ∀ (w3 : World) (b : Nat) (D : DataW Value), Gr W1.drew w3 → OwnM w3 b d.files.length D → MapIs n0 w3 D (taken d.files) → Calls Try.prog 31 #[.map (some b), .slice qa d.queue.length qc] w3 (DonePost n0 b (d.files.length + d.queue.length) (nowL d) w3) from
    fun w3 b D hg hm hl => done_any w3 n0 b d.files.length D (taken d.files) _ d.queue (hq.gr (hG'.trans hg)) hm hl (by omega) (by have := sizeL_taken d.files; omega))
  have HW := Lib.hid hW1
  have HG := Lib.hid hG'
  have HB := Lib.hid hB
  have HZ := Lib.hid hG.size
  clear hf hq hnum hG hG' hB hW1 hc ht hn0
  show Calls Try.prog 22 #[.agg #[.slice fa d.files.length fc, .slice qa d.queue.length qc, .int .i64 d.quota, .int .i64 d.fuse, .bool d.dead]] w _
  go_enter Try.func22, Try.ntmps22
  go_upto_region 1 with fail
  rw [HW.out]
  go_region_law (first
    | (go_simp; refine HT.out.mono ?_; rintro e w3 ⟨b, D, rfl, hb, hm, hl, hg⟩; have d1 := later_cell hg (show W1.drew.cell? _ = _ from c1); have HP := Lib.hid (And.intro hb (And.intro hm (And.intro hl hg))); clear hb hm hl hg)
    | (go_simp; refine (HDn.out _ _ _ HP.out.2.2.2 HP.out.2.1 HP.out.2.2.1).mono ?_; rintro e w4 ⟨rfl, D4, hm4, hl4, hg4⟩; have HP4 := Lib.hid (And.intro hm4 (And.intro hl4 hg4)); clear hm4 hl4 hg4))
  all_goals
    go_wp2
    go_ret
    have h1 := HZ.out
    have h2 : W1.heap.size ≤ b := HP.out.1
    exact ⟨b, _, rfl, by omega, HP4.out.1, HP4.out.2.1, grown_gr (HG.out.trans HP.out.2.2.2) HP4.out.2.2 fun k hk => by cases hk; omega⟩
end Go.Proofs.Ytbgcjbpkgijmeaa
