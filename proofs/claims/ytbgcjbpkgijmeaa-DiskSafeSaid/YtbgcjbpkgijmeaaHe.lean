/-
  Walk: the law of the quota.
  Conditions: none beyond those typed at each theorem.
-/
import Derived.Test.YtbgcjbpkgijmeaaHc
import Derived.Test.YtbgcjbpkgijmeaaGi
import Derived.Test.YtbgcjbpkgijmeaaGc
namespace Go.Proofs.Ytbgcjbpkgijmeaa
open Go Go.RowKit Go.Maps
attribute [local go_sem ↓] Go.wp_at_zero Go.wp_at_succ

theorem fit_cnt {d : Dsk} (h : Fit d) : cnt d ≤ 90 ∧ tot d ≤ 90000 := by
  have h1 : ∀ l : List Fl, (∀ f ∈ l, f.data.length ≤ 1000) → sizeL l ≤ l.length * 1000 := by
    intro l
    induction l with
    | nil => intro _; exact Nat.le_refl _
    | cons f r ih => intro hl; rw [sizeL_cons, List.length_cons]; have a := ih fun x hx => hl x (by simp [hx]); have b := hl f (by simp); omega
  have h2 : ∀ l : List Opr, (∀ f ∈ l, f.data.length ≤ 1000) → sizeQ l ≤ l.length * 1000 := by
    intro l
    induction l with
    | nil => intro _; exact Nat.le_refl _
    | cons f r ih => intro hl; rw [sizeQ_cons, List.length_cons]; have a := ih fun x hx => hl x (by simp [hx]); have b := hl f (by simp); omega
  have a := h1 _ h.fb
  have b := h2 _ h.qb
  have c := h.files
  have e := h.queue
  unfold cnt tot
  omega
/-- Rows of the call's own lie elsewhere than a disk's variable. -/
theorem OwnRow.ne {α : Type} {E : El α} {base Bd : Nat} {A : World} {v : Value} {xs : List α} {cs : Array Value} {f : Nat × Nat} (h : OwnRow E base A v xs) (hE : E.ty ≠ 25)
    (hb : A.heap[Bd]? = some (.cells cs 25 f)) : IsRow E (fun k => k ≠ Bd) A v xs := by
  have key : ∀ {e : TypeId} {size : Nat} {u : Value} {els : List (List Value)}, (∀ y ∈ els, y.length = size) → e ≠ 25 → A.ownsRow base e size u els.length els.flatten → SL (fun k => k ≠ Bd) A size u els := by
    intro e size u els hl he ho
    refine ⟨hl, ?_⟩
    rcases (SL.of_owns hl ho).2 with h0 | ⟨b, off, cap, hv, h1, h2, h3, h4⟩
    · exact .inl h0
    · refine .inr ⟨b, off, cap, hv, h1, h2, fun hbb => ?_, h4⟩
      subst hbb
      obtain ⟨_, cur, hcur⟩ := owns_elem ho (k := b) (by rw [hv]; rfl)
      rw [hb] at hcur
      simp only [Option.some.injEq, Obj.cells.injEq] at hcur
      exact he hcur.2.1.symm
  obtain ⟨bs, h1, h2, h3, h4⟩ := h
  refine ⟨bs, h1, key (e := E.ty) ?_ hE ?_, fun i x b hx hb' => ?_, h4⟩
  · intro x hx
    obtain ⟨i, hi, rfl⟩ := List.mem_iff_getElem.1 hx
    rw [List.getElem_zipWith]; exact E.len _ _
  · have : (List.zipWith E.cells xs bs).length = xs.length := by simp [h1]
    rw [this]; exact h2
  · refine key (e := 5) ?_ (by decide) ?_
    · intro y hy; obtain ⟨c, _, rfl⟩ := List.mem_map.1 hy; rfl
    · rw [flat_one, List.length_map]; exact h3 i x b hx hb'
theorem own_ne {base Bd : Nat} {A : World} {v : Value} {d : Dsk} {cs : Array Value} {f : Nat × Nat} (h : OwnDsk base A v d) (hb : A.heap[Bd]? = some (.cells cs 25 f)) : IsDsk (fun k => k ≠ Bd) A v d := by
  obtain ⟨fv, qv, h1, h2, h3, h4⟩ := h
  exact ⟨fv, qv, h1, h2.ne (by decide) hb, h3.ne (by decide) hb, h4⟩
def LawPost (w : World) (e : Ending) (w' : World) : Prop := e = .returned (.bool true) ∧ Gr w w'

set_option maxRecDepth 100000 in
set_option maxHeartbeats 8000000 in
theorem quota_any (w : World) {S T : Nat → Prop} (v qv : Value) (d : Dsk) (q : List Opr) (hx : IsDsk S w v d) (hq : IsOps T w qv q) :
    Calls Try.prog 4 #[v, qv] w (LawPost w) := by
  have hx := dsk_inn hx
  have hxo := hx
  obtain ⟨fv, qv0, rfl, hf0, hq0, hnum⟩ := hx
  obtain ⟨fa, fc, rfl, _, _⟩ := hf0.len
  obtain ⟨da, dc, rfl, _, _⟩ := hq0.len
  obtain ⟨qa, qc, rfl, hqc, hqm⟩ := hq.len
  obtain ⟨W1, hW1⟩ : ∃ W1, w.alloc (.cells #[.slice fa d.files.length fc, .slice da d.queue.length dc, .int .i64 d.quota, .int .i64 d.fuse, .bool d.dead] 25) = W1 := ⟨_, rfl⟩
  have hG : Gr w W1 := by rw [← hW1]; exact Gr.alloc (Gr.refl w) _
  have hB1 : W1.heap[w.heap.size]? = some (.cells #[.slice fa d.files.length fc, .slice da d.queue.length dc, .int .i64 d.quota, .int .i64 d.fuse, .bool d.dead] 25 (0, 0)) := by rw [← hW1]; exact alloc1_heap _ _
  have HD0 := Lib.hid (show IsDsk (fun k => k ≠ w.heap.size) W1 (dskV d (.slice fa d.files.length fc) (.slice da d.queue.length dc)) d from IsDsk.gr hG (IsDsk.mono ⟨_, _, rfl, hf0, hq0, hnum⟩ fun b hb => by have hb : b < w.heap.size := hb; show b ≠ w.heap.size; omega))
  have HQ := Lib.hid hq
  have HGR := Lib.hid (show ∀ X, Gr W1 X → Calls Try.prog 6 #[.agg #[.slice fa d.files.length fc, .slice da d.queue.length dc, .int .i64 d.quota, .int .i64 d.fuse, .bool d.dead]] X (GreatPost d X) from fun X hX => great_any X _ d (hxo.gr (hG.trans hX)))
  have HRI := Lib.hid (show ∀ X, Gr W1 X → Fit d → Calls Try.prog 7 #[.agg #[.slice fa d.files.length fc, .slice da d.queue.length dc, .int .i64 d.quota, .int .i64 d.fuse, .bool d.dead]] X fun e w' => e = .returned (.bool (rightB d)) ∧ Gr X w' from
    fun X hX hft => rightR_any X _ d (hxo.gr (hG.trans hX)) (by have := fit_cnt hft; omega) (by have := fit_cnt hft; omega))
  have HWA := Lib.hid (show ∀ X, Calls Try.prog 8 #[] X fun e w' => e = .returned (.bool true) ∧ Gr X w' from wakes_any)
  have HC1 := Lib.hid (show ∀ X, Gr W1 X → X.cell? ⟨w.heap.size, 0, none⟩ = some (.slice fa d.files.length fc) ∧ X.cell? ⟨w.heap.size, 1, none⟩ = some (.slice da d.queue.length dc) ∧ X.cell? ⟨w.heap.size, 2, none⟩ = some (.int .i64 d.quota) ∧ X.cell? ⟨w.heap.size, 3, none⟩ = some (.int .i64 d.fuse) ∧ X.cell? ⟨w.heap.size, 4, none⟩ = some (.bool d.dead) from fun X h => ⟨cell_block (h.same hB1) rfl, cell_block (h.same hB1) rfl, cell_block (h.same hB1) rfl, cell_block (h.same hB1) rfl, cell_block (h.same hB1) rfl⟩)
  have HW := Lib.hid hW1
  have HG := Lib.hid hG
  have HB := Lib.hid hB1
  have hql0 : q.length ≤ maxLen := by omega
  unfold maxLen at hql0
  clear hxo hf0 hq0 hnum hq hG hB1 hW1 hqm
  obtain ⟨k0, k1, k2, k3, k4⟩ := HC1.out W1 (Gr.refl _)
  show Calls Try.prog 4 #[.agg #[.slice fa d.files.length fc, .slice da d.queue.length dc, .int .i64 d.quota, .int .i64 d.fuse, .bool d.dead], .slice qa q.length qc] w _
  go_enter Try.func4, Try.ntmps4
  go_upto_region 1 with fail
  rw [HW.out]
  go_wp2_with fail
  refine (HGR.out W1 (Gr.refl _)).mono ?_
  rintro e w2 ⟨r, rfl, hfit, hg2⟩
  have HG2 := Lib.hid hg2
  have HFT := Lib.hid hfit
  clear hg2 hfit k0 k1 k2 k3 k4
  cases r with
  | true =>
    go_wp2_with (go_at_call 8; refine (HWA.out _).mono ?_; rintro e w3 ⟨rfl, hg3⟩)
    go_ret
    exact ⟨rfl, (HG.out.trans HG2.out).trans hg3⟩
  | false =>
    have HF := Lib.hid (HFT.out rfl)
    obtain ⟨k0, k1, k2, k3, k4⟩ := HC1.out w2 HG2.out
    have HRW := Lib.hid (HRI.out w2 HG2.out HF.out)
    clear HRI HFT
    go_wp2_with fail
    refine HRW.out.mono ?_
    rintro e w3 ⟨rfl, hg3⟩
    have HG3 := Lib.hid (HG2.out.trans hg3)
    clear hg3 HRW k0 k1 k2 k3 k4
    have hrb : rightB d = true ∨ rightB d = false := by cases rightB d <;> simp
    rcases hrb with hrb | hrb
    · rw [hrb]
      have HRB := Lib.hid hrb
      clear hrb
      by_cases hlen : (q.length : Int) ≤ 40
      · go_wp2
        go_loopw [5] (fun k wr => ∃ (j : Nat) (fa fc da dc : _) (dd : Dsk), k = .int .i64 j ∧ j ≤ q.length ∧ (rightB dd = true ∧ cnt dd ≤ 90 + j ∧ tot dd ≤ 90000 + 1000 * j) ∧
            wr.heap[w.heap.size]? = some (.cells #[.slice fa dd.files.length fc, .slice da dd.queue.length dc, .int .i64 dd.quota, .int .i64 dd.fuse, .bool dd.dead] 25 (0, 0)) ∧ IsDsk (fun k => k ≠ w.heap.size) wr (dskV dd (.slice fa dd.files.length fc) (.slice da dd.queue.length dc)) dd ∧ Gr w wr) (fun k _ => q.length - (intOf k).toNat)
        case atStart =>
          have h1 := fit_cnt HF.out
          exact ⟨0, fa, fc, da, dc, d, rfl, Nat.zero_le _, ⟨HRB.out, by omega, by omega⟩, HG3.out.same HB.out, HD0.out.gr HG3.out, HG.out.trans HG3.out⟩
        case round =>
          obtain ⟨j, fa, fc, da, dc, dd, rfl, hj, hrc, hb, his, hg⟩ := hrel
          have HR := Lib.hid (And.intro hrc (And.intro hb (And.intro his hg)))
          clear hrc hb his hg
          by_cases hlt : j < q.length
          · obtain ⟨o, hoj⟩ : ∃ o, q[j]? = some o := ⟨_, List.getElem?_eq_getElem hlt⟩
            obtain ⟨b2, o2, c2, hv2, _, _, _, hrows⟩ := HQ.out.some (by omega)
            simp only [Value.slice.injEq, true_and] at hv2
            obtain ⟨rfl, rfl⟩ := hv2
            obtain ⟨bv, hr1, hbv⟩ := hrows j o hoj
            obtain ⟨ba, bc, rfl, _, hbm⟩ := IsBy.len hbv
            unfold maxLen at hbm
            have HBV := Lib.hid hbv
            have HMC := Lib.hid (show ∀ X, Gr w X → X.cell? ⟨b2, o2 + j * 4, none⟩ = some (.int .u8 o.kind) ∧ X.cell? ⟨b2, o2 + j * 4 + 1, none⟩ = some (strV o.name) ∧ X.cell? ⟨b2, o2 + j * 4 + 2, none⟩ = some (strV o.to) ∧ X.cell? ⟨b2, o2 + j * 4 + 3, none⟩ = some (.slice ba o.data.length bc) from
              fun X hX => ⟨later_cell hX (hr1 0 _ rfl), later_cell hX (hr1 1 _ rfl), later_cell hX (hr1 2 _ rfl), later_cell hX (hr1 3 _ rfl)⟩)
            have HOK := Lib.hid (HQ.out.ok o (List.mem_of_getElem? hoj))
            clear hrows hr1 hbv hoj
            obtain ⟨m0, m1, m2, m3⟩ := HMC.out wr HR.out.2.2.2
            by_cases hbig : (o.data.length : Int) ≤ 1000
            · have hdl : o.data.length ≤ 1000 := by omega
              have HCD := Lib.hid (show ∀ X, Gr wr X → X.cell? ⟨w.heap.size, 0, none⟩ = some (.slice fa dd.files.length fc) ∧ X.cell? ⟨w.heap.size, 1, none⟩ = some (.slice da dd.queue.length dc) ∧ X.cell? ⟨w.heap.size, 2, none⟩ = some (.int .i64 dd.quota) ∧ X.cell? ⟨w.heap.size, 3, none⟩ = some (.int .i64 dd.fuse) ∧ X.cell? ⟨w.heap.size, 4, none⟩ = some (.bool dd.dead) from fun X h => ⟨cell_block (h.same HR.out.2.1) rfl, cell_block (h.same HR.out.2.1) rfl, cell_block (h.same HR.out.2.1) rfl, cell_block (h.same HR.out.2.1) rfl, cell_block (h.same HR.out.2.1) rfl⟩)
              have HK := Lib.hid (show ∀ X, Gr wr X → (Gr wr X ∧ (X.cell? ⟨w.heap.size, 0, none⟩ = some (.slice fa dd.files.length fc) ∧ X.cell? ⟨w.heap.size, 1, none⟩ = some (.slice da dd.queue.length dc) ∧ X.cell? ⟨w.heap.size, 2, none⟩ = some (.int .i64 dd.quota) ∧ X.cell? ⟨w.heap.size, 3, none⟩ = some (.int .i64 dd.fuse) ∧ X.cell? ⟨w.heap.size, 4, none⟩ = some (.bool dd.dead)) ∧ X.cell? ⟨b2, o2 + j * 4, none⟩ = some (.int .u8 o.kind) ∧ X.cell? ⟨b2, o2 + j * 4 + 1, none⟩ = some (strV o.name) ∧ X.cell? ⟨b2, o2 + j * 4 + 2, none⟩ = some (strV o.to) ∧ X.cell? ⟨b2, o2 + j * 4 + 3, none⟩ = some (.slice ba o.data.length bc)) from fun X hX => ⟨hX, HCD.out X hX, HMC.out X (HR.out.2.2.2.trans hX)⟩)
              have HK0 := Lib.hid (HK.out wr.drew (Gr.refl wr).drew)
              have hcj : cnt dd ≤ 1000000 ∧ tot dd ≤ 1000000000000 := by have h := HR.out.1; omega
              have HDO := Lib.hid (show ∀ X, Gr wr X → Calls Try.prog 10 #[.agg #[.slice fa dd.files.length fc, .slice da dd.queue.length dc, .int .i64 dd.quota, .int .i64 dd.fuse, .bool dd.dead], .agg #[.int .u8 o.kind, strV o.name, strV o.to, .slice ba o.data.length bc]] X fun e w' => ∃ v', e = .returned (.tuple #[v', .int .i64 (doE dd o)]) ∧ OwnDsk w.heap.size w' v' (doD dd o) ∧ Gr X w' from
                fun X hX => (do_any X _ _ dd o (HR.out.2.2.1.gr hX) (IsBy.gr (HR.out.2.2.2.trans hX) HBV.out) HOK.out hcj.1 hcj.2 (by omega)).mono fun e w' ⟨v', h1, h2, h3⟩ => ⟨v', h1, h2.base (HR.out.2.2.2.trans hX).size, h3⟩)
              have HX := Lib.hid (show rightB (doD dd o) = true ∧ (usedN (doD dd o) : Int) ≤ (doD dd o).quota ∧ (doD dd o).quota = dd.quota ∧ (doE dd o ≠ 0 → doD dd o = dd) ∧ cnt (doD dd o) ≤ 90 + (j + 1) ∧ tot (doD dd o) ≤ 90000 + 1000 * (j + 1) from
                ⟨right_do o HR.out.1.1, used_right (right_do o HR.out.1.1), quota_do dd o, do_bad, by have h := HR.out.1; have := do_cnt dd o; omega, by have h := HR.out.1; have := do_tot dd o; omega⟩)
              have hj0 : (0 : Int) ≤ (j : Int) := by omega
              have hj1 : (j : Int) < (q.length : Int) := by omega
              have HJ := Lib.hid hcj
              clear hcj
              generalize doE dd o = de at *
              generalize doD dd o = x at *
              go_upto_region 8 with fail
              go_cut [6, 7] from 35 to 43 (fun p e wx => ∃ (Bx : Nat) (xa : Option Addr) (xc : Nat) (xd : Option Addr) (xe : Nat), p = .pointer (some ⟨Bx, 0, none⟩) ∧ e = .int .i64 de ∧ wx.heap[Bx]? = some (.cells #[.slice xa x.files.length xc, .slice xd x.queue.length xe, .int .i64 x.quota, .int .i64 x.fuse, .bool x.dead] 25 (0, 0)) ∧ OwnDsk w.heap.size wx (dskV x (.slice xa x.files.length xc) (.slice xd x.queue.length xe)) x ∧ wr.heap.size ≤ Bx ∧ Gr wr wx)
              case first =>
                clear m0 m1 m2 m3
                go_region_held3 (fun X => Gr wr X ∧ (X.cell? ⟨w.heap.size, 0, none⟩ = some (.slice fa dd.files.length fc) ∧ X.cell? ⟨w.heap.size, 1, none⟩ = some (.slice da dd.queue.length dc) ∧ X.cell? ⟨w.heap.size, 2, none⟩ = some (.int .i64 dd.quota) ∧ X.cell? ⟨w.heap.size, 3, none⟩ = some (.int .i64 dd.fuse) ∧ X.cell? ⟨w.heap.size, 4, none⟩ = some (.bool dd.dead)) ∧ X.cell? ⟨b2, o2 + j * 4, none⟩ = some (.int .u8 o.kind) ∧ X.cell? ⟨b2, o2 + j * 4 + 1, none⟩ = some (strV o.name) ∧ X.cell? ⟨b2, o2 + j * 4 + 2, none⟩ = some (strV o.to) ∧ X.cell? ⟨b2, o2 + j * 4 + 3, none⟩ = some (.slice ba o.data.length bc))
                  (first | (with_reducible exact HK.out _ (set5_gr hGY2 (by first | exact Nat.le_refl _ | exact Nat.le_succ _))) | (with_reducible exact HK0.out) | (with_reducible exact HK.out _ (by assumption)) | (with_reducible exact HK.out _ (Gr.alloc (by assumption) _)) | (with_reducible exact HK.out _ (Gr.alloc (And.left (by assumption)) _)) | (with_reducible exact HK.out _ (Gr.drew (Gr.alloc (Gr.refl _) _))))
                  (first
                    | (go_at_call 10; refine (HDO.out _ (And.left (by assumption))).mono ?_
                       rintro e y2 ⟨v2, rfl, ⟨fv2, qv2, rfl, hf2, hq2, hn2⟩, hgy2⟩
                       obtain ⟨fa2, fc2, rfl⟩ := hf2.slice
                       obtain ⟨qa2, qc2, rfl⟩ := hq2.slice
                       have hGY2 : Gr wr y2 := Gr.trans (And.left (by assumption)) hgy2
                       with_reducible first | have HQ2 := Lib.hid (hgy2.same (heap1d_at _ (.cells #[.slice none 0 0, .slice none 0 0, .int .i64 0, .int .i64 0, .bool false] 25) _ rfl)) | have HQ2 := Lib.hid (hgy2.same (alloc1_heap _ (.cells #[.slice none 0 0, .slice none 0 0, .int .i64 0, .int .i64 0, .bool false] 25))) | skip
                       try simp only [World.size_alloc] at HQ2
                       try (have x0 := cell_block HQ2.out (j := 0) rfl; have x1 := cell_block HQ2.out (j := 1) rfl; have x2 := cell_block HQ2.out (j := 2) rfl; have x3 := cell_block HQ2.out (j := 3) rfl; have x4 := cell_block HQ2.out (j := 4) rfl
                            have g0 := frozen_block HQ2.out (j := 0); have g1 := frozen_block HQ2.out (j := 1); have g2 := frozen_block HQ2.out (j := 2); have g3 := frozen_block HQ2.out (j := 3); have g4 := frozen_block HQ2.out (j := 4))
                       have HP3 := Lib.hid (And.intro (show OwnDsk w.heap.size y2 (dskV x _ _) x from ⟨_, _, rfl, hf2, hq2, hn2⟩) hGY2)
                       simp only [dskV]
                       clear hf2 hq2 hn2))
                all_goals
                  go_wp2
                  go_meet
                  case rel =>
                    refine ⟨_, fa2, fc2, qa2, qc2, rfl, rfl, ?_, ?_, ?_, ?_⟩
                    · with_reducible first | exact heap1_at _ _ _ (by first | with_unfolding_all rfl | simp) | exact row5_filled HQ2.out _ _ _ _ _
                    · with_reducible first | exact OwnDsk.gr (Gr.alloc (Gr.refl _) _) HP3.out.1 | exact OwnDsk.apart HP3.out.1 HQ2.out (fun k hk => set5_other hk)
                    · first | exact hGY2.size | exact Nat.le_refl _ | exact Nat.le_succ _
                    · with_reducible first | exact Gr.alloc HP3.out.2 _ | exact And.left (by assumption)
              case rest =>
                obtain ⟨Bx, xa, xc, xd, xe, rfl, rfl, hrow, hown, hbx, hg8⟩ := hcut
                obtain ⟨W8, hW8⟩ : ∃ W8, W8 = wc := ⟨_, rfl⟩
                subst hW8
                have HR8 := Lib.hid (And.intro hrow (And.intro hown (And.intro hbx hg8)))
                have HK9 := Lib.hid (show ∀ X, Gr W8 X → (Gr W8 X ∧ (X.cell? ⟨Bx, 0, none⟩ = some (.slice xa x.files.length xc) ∧ X.cell? ⟨Bx, 1, none⟩ = some (.slice xd x.queue.length xe) ∧ X.cell? ⟨Bx, 2, none⟩ = some (.int .i64 x.quota) ∧ X.cell? ⟨Bx, 3, none⟩ = some (.int .i64 x.fuse) ∧ X.cell? ⟨Bx, 4, none⟩ = some (.bool x.dead)) ∧ (X.cell? ⟨w.heap.size, 0, none⟩ = some (.slice fa dd.files.length fc) ∧ X.cell? ⟨w.heap.size, 1, none⟩ = some (.slice da dd.queue.length dc) ∧ X.cell? ⟨w.heap.size, 2, none⟩ = some (.int .i64 dd.quota) ∧ X.cell? ⟨w.heap.size, 3, none⟩ = some (.int .i64 dd.fuse) ∧ X.cell? ⟨w.heap.size, 4, none⟩ = some (.bool dd.dead))) from fun X hX => ⟨hX, ⟨cell_block (hX.same hrow) rfl, cell_block (hX.same hrow) rfl, cell_block (hX.same hrow) rfl, cell_block (hX.same hrow) rfl, cell_block (hX.same hrow) rfl⟩, HCD.out X (hg8.trans hX)⟩)
                have HXI := Lib.hid (show cnt x ≤ 1000000 ∧ tot x ≤ 1000000000000 from by have h := HX.out.2.2.2.2; omega)
                have HRX := Lib.hid (show ∀ X, Gr W8 X → Calls Try.prog 7 #[.agg #[.slice xa x.files.length xc, .slice xd x.queue.length xe, .int .i64 x.quota, .int .i64 x.fuse, .bool x.dead]] X fun e w' => e = .returned (.bool true) ∧ Gr X w' from
                  fun X hX => HX.out.1 ▸ rightR_any X _ x (hown.gr hX).is HXI.out.1 HXI.out.2)
                have HUX := Lib.hid (show ∀ X, Gr W8 X → Calls Try.prog 15 #[.agg #[.slice xa x.files.length xc, .slice xd x.queue.length xe, .int .i64 x.quota, .int .i64 x.fuse, .bool x.dead]] X fun e w' => e = .returned (.int .i64 (usedN x)) ∧ Gr X w' from
                  fun X hX => used_any X _ x (hown.gr hX).is HXI.out.1 HXI.out.2)
                have HSX := Lib.hid (show ∀ X, Gr W8 X → x = dd → Calls Try.prog 11 #[.agg #[.slice xa x.files.length xc, .slice xd x.queue.length xe, .int .i64 x.quota, .int .i64 x.fuse, .bool x.dead], .agg #[.slice fa dd.files.length fc, .slice da dd.queue.length dc, .int .i64 dd.quota, .int .i64 dd.fuse, .bool dd.dead]] X fun e w' => e = .returned (.bool true) ∧ Gr X w' from
                  fun X hX he => (same_any X _ _ x dd (hown.gr hX).is (HR.out.2.2.1.gr (hg8.trans hX)) (by have h := HXI.out.1; unfold cnt at h; omega) (by have h := HXI.out.1; unfold cnt at h; omega)).mono fun e w' ⟨h1, h2⟩ => ⟨by rw [h1, decide_eq_true he], h2⟩)
                have hun := HX.out.2.1
                have huq := HX.out.2.2.1
                have hub : decide ((usedN x : Int) > x.quota) = false := decide_eq_false (by omega)
                have hub2 : ¬ (x.quota < (usedN x : Int)) := by omega
                have hnq : (x.quota != dd.quota) = false := by rw [huq]; simp
                have HUQ := Lib.hid huq
                clear hrow hown hbx hg8 huq hun m0 m1 m2 m3
                generalize hu : usedN x = ux at *
                clear hu
                by_cases hez : de = 0
                · have hz1 : (de != 0) = false := by simp [hez]
                  clear hez
                  go_wp2_with fail
                  refine wp_region_qw (fun X => Gr W8 X ∧ (X.cell? ⟨Bx, 0, none⟩ = some (.slice xa x.files.length xc) ∧ X.cell? ⟨Bx, 1, none⟩ = some (.slice xd x.queue.length xe) ∧ X.cell? ⟨Bx, 2, none⟩ = some (.int .i64 x.quota) ∧ X.cell? ⟨Bx, 3, none⟩ = some (.int .i64 x.fuse) ∧ X.cell? ⟨Bx, 4, none⟩ = some (.bool x.dead)) ∧ (X.cell? ⟨w.heap.size, 0, none⟩ = some (.slice fa dd.files.length fc) ∧ X.cell? ⟨w.heap.size, 1, none⟩ = some (.slice da dd.queue.length dc) ∧ X.cell? ⟨w.heap.size, 2, none⟩ = some (.int .i64 dd.quota) ∧ X.cell? ⟨w.heap.size, 3, none⟩ = some (.int .i64 dd.fuse) ∧ X.cell? ⟨w.heap.size, 4, none⟩ = some (.bool dd.dead))) (by kernel_rfl) (by kernel_rfl) (HK9.out _ (Gr.refl W8).drew) ?_
                  iterate 21
                    refine qw_takeE (by kernel_rfl) ?_
                    apply Exists.intro
                    refine ⟨?_, ?_⟩
                    · rintro X ⟨hg, ⟨x0, x1, x2, x3, x4⟩, ⟨d0, d1, d2, d3, d4⟩⟩
                      first
                      | (go_simp; done)
                      | (go_simp; with_reducible rfl)
                      | (go_simp; go_at_call 7; refine (HRX.out _ hg).mono ?_; rintro e y1 ⟨rfl, hgy⟩; refine ⟨?_, HK9.out _ (hg.trans hgy)⟩; with_reducible rfl)
                      | (go_simp; go_at_call 15; refine (HUX.out _ hg).mono ?_; rintro e y1 ⟨rfl, hgy⟩; refine ⟨?_, HK9.out _ (hg.trans hgy)⟩; with_reducible rfl)
                    simp only [Act.put, List.setIfInBounds_toArray, List.set_cons_zero, List.set_cons_succ]
                  iterate 4
                    refine qw_skip (by kernel_rfl) ?_
                    simp only [Act.put, List.setIfInBounds_toArray, List.set_cons_zero, List.set_cons_succ]
                  iterate 2
                    refine qw_takeE (by kernel_rfl) ?_
                    apply Exists.intro
                    refine ⟨?_, ?_⟩
                    · rintro X ⟨hg, ⟨x0, x1, x2, x3, x4⟩, ⟨d0, d1, d2, d3, d4⟩⟩
                      first
                      | (go_simp; done)
                      | (go_simp; with_reducible rfl)
                      | (go_simp; go_at_call 7; refine (HRX.out _ hg).mono ?_; rintro e y1 ⟨rfl, hgy⟩; refine ⟨?_, HK9.out _ (hg.trans hgy)⟩; with_reducible rfl)
                      | (go_simp; go_at_call 15; refine (HUX.out _ hg).mono ?_; rintro e y1 ⟨rfl, hgy⟩; refine ⟨?_, HK9.out _ (hg.trans hgy)⟩; with_reducible rfl)
                    simp only [Act.put, List.setIfInBounds_toArray, List.set_cons_zero, List.set_cons_succ]
                  refine qw_nil ?_
                  rintro X ⟨hg, -⟩
                  have HGX := Lib.hid hg
                  clear hg
                  clear hz1
                  obtain ⟨-, ⟨x0, x1, x2, x3, x4⟩, -⟩ := HK9.out X HGX.out
                  have hrowX := (HR8.out.2.2.2.trans HGX.out).same HR.out.2.1
                  have e0 := cell_block hrowX (j := 0) rfl
                  have e1 := cell_block hrowX (j := 1) rfl
                  have e2 := cell_block hrowX (j := 2) rfl
                  have e3 := cell_block hrowX (j := 3) rfl
                  have e4 := cell_block hrowX (j := 4) rfl
                  have f0 := frozen_block hrowX (j := 0)
                  have f1 := frozen_block hrowX (j := 1)
                  have f2 := frozen_block hrowX (j := 2)
                  have f3 := frozen_block hrowX (j := 3)
                  have f4 := frozen_block hrowX (j := 4)
                  have HRX2 := Lib.hid hrowX
                  clear hrowX hub hub2 hnq
                  go_wp2
                  refine ⟨⟨j + 1, xa, xc, xd, xe, x, by go_num, by omega, ⟨HX.out.1, HX.out.2.2.2.2⟩, row5_filled HRX2.out _ _ _ _ _, ?_, set5_gr (HR.out.2.2.2.trans (HR8.out.2.2.2.trans HGX.out)) (Nat.le_refl _)⟩, by simp [intOf]; omega⟩
                  have h5 := OwnDsk.apart (HR8.out.2.1.gr HGX.out) HRX2.out (B := set5 X w.heap.size (.slice xa x.files.length xc) (.slice xd x.queue.length xe) (.int .i64 x.quota) (.int .i64 x.fuse) (.bool x.dead)) (fun k hk => set5_other hk)
                  exact own_ne h5 (row5_filled HRX2.out _ _ _ _ _)
                · have hz1 : (de != 0) = true := by simp [hez]
                  have HXE := Lib.hid (HX.out.2.2.2.1 hez)
                  clear hez
                  go_wp2_with fail
                  refine wp_region_qw (fun X => Gr W8 X ∧ (X.cell? ⟨Bx, 0, none⟩ = some (.slice xa x.files.length xc) ∧ X.cell? ⟨Bx, 1, none⟩ = some (.slice xd x.queue.length xe) ∧ X.cell? ⟨Bx, 2, none⟩ = some (.int .i64 x.quota) ∧ X.cell? ⟨Bx, 3, none⟩ = some (.int .i64 x.fuse) ∧ X.cell? ⟨Bx, 4, none⟩ = some (.bool x.dead)) ∧ (X.cell? ⟨w.heap.size, 0, none⟩ = some (.slice fa dd.files.length fc) ∧ X.cell? ⟨w.heap.size, 1, none⟩ = some (.slice da dd.queue.length dc) ∧ X.cell? ⟨w.heap.size, 2, none⟩ = some (.int .i64 dd.quota) ∧ X.cell? ⟨w.heap.size, 3, none⟩ = some (.int .i64 dd.fuse) ∧ X.cell? ⟨w.heap.size, 4, none⟩ = some (.bool dd.dead))) (by kernel_rfl) (by kernel_rfl) (HK9.out _ (Gr.refl W8).drew) ?_
                  iterate 27
                    refine qw_takeE (by kernel_rfl) ?_
                    apply Exists.intro
                    refine ⟨?_, ?_⟩
                    · rintro X ⟨hg, ⟨x0, x1, x2, x3, x4⟩, ⟨d0, d1, d2, d3, d4⟩⟩
                      first
                      | (go_simp; done)
                      | (go_simp; with_reducible rfl)
                      | (go_simp; go_at_call 7; refine (HRX.out _ hg).mono ?_; rintro e y1 ⟨rfl, hgy⟩; refine ⟨?_, HK9.out _ (hg.trans hgy)⟩; with_reducible rfl)
                      | (go_simp; go_at_call 15; refine (HUX.out _ hg).mono ?_; rintro e y1 ⟨rfl, hgy⟩; refine ⟨?_, HK9.out _ (hg.trans hgy)⟩; with_reducible rfl)
                      | (go_simp; go_at_call 11; refine (HSX.out _ hg HXE.out).mono ?_; rintro e y1 ⟨rfl, hgy⟩; refine ⟨?_, HK9.out _ (hg.trans hgy)⟩; with_reducible rfl)
                    simp only [Act.put, List.setIfInBounds_toArray, List.set_cons_zero, List.set_cons_succ]
                  refine qw_nil ?_
                  rintro X ⟨hg, -⟩
                  have HGX := Lib.hid hg
                  clear hg
                  clear hz1
                  obtain ⟨-, ⟨x0, x1, x2, x3, x4⟩, -⟩ := HK9.out X HGX.out
                  have hrowX := (HR8.out.2.2.2.trans HGX.out).same HR.out.2.1
                  have e0 := cell_block hrowX (j := 0) rfl
                  have e1 := cell_block hrowX (j := 1) rfl
                  have e2 := cell_block hrowX (j := 2) rfl
                  have e3 := cell_block hrowX (j := 3) rfl
                  have e4 := cell_block hrowX (j := 4) rfl
                  have f0 := frozen_block hrowX (j := 0)
                  have f1 := frozen_block hrowX (j := 1)
                  have f2 := frozen_block hrowX (j := 2)
                  have f3 := frozen_block hrowX (j := 3)
                  have f4 := frozen_block hrowX (j := 4)
                  have HRX2 := Lib.hid hrowX
                  clear hrowX hub hub2 hnq
                  go_wp2
                  refine ⟨⟨j + 1, xa, xc, xd, xe, x, by go_num, by omega, ⟨HX.out.1, HX.out.2.2.2.2⟩, row5_filled HRX2.out _ _ _ _ _, ?_, set5_gr (HR.out.2.2.2.trans (HR8.out.2.2.2.trans HGX.out)) (Nat.le_refl _)⟩, by simp [intOf]; omega⟩
                  have h5 := OwnDsk.apart (HR8.out.2.1.gr HGX.out) HRX2.out (B := set5 X w.heap.size (.slice xa x.files.length xc) (.slice xd x.queue.length xe) (.int .i64 x.quota) (.int .i64 x.fuse) (.bool x.dead)) (fun k hk => set5_other hk)
                  exact own_ne h5 (row5_filled HRX2.out _ _ _ _ _)
            · go_wp2_with (go_at_call 8; refine (HWA.out _).mono ?_; rintro e w4 ⟨rfl, hg4⟩)
              go_ret
              exact ⟨rfl, HR.out.2.2.2.trans hg4⟩
          · go_wp2_with (go_at_call 8; refine (HWA.out _).mono ?_; rintro e w4 ⟨rfl, hg4⟩)
            go_ret
            exact ⟨rfl, HR.out.2.2.2.trans hg4⟩
      · go_wp2_with (go_at_call 8; refine (HWA.out _).mono ?_; rintro e w4 ⟨rfl, hg4⟩)
        go_ret
        exact ⟨rfl, (HG.out.trans HG3.out).trans hg4⟩
    · rw [hrb]
      clear hrb
      go_wp2_with (go_at_call 8; refine (HWA.out _).mono ?_; rintro e w4 ⟨rfl, hg4⟩)
      go_ret
      exact ⟨rfl, (HG.out.trans HG3.out).trans hg4⟩
end Go.Proofs.Ytbgcjbpkgijmeaa
