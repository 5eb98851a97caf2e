/-
  Walk: the law of what is safe.
  Conditions: none beyond those typed at each theorem.
-/
import Derived.Test.YtbgcjbpkgijmeaaHg
import Derived.IntWalk
namespace Go.Proofs.Ytbgcjbpkgijmeaa
open Go Go.RowKit Go.Maps
attribute [local go_sem ↓] Go.wp_at_zero Go.wp_at_succ
attribute [local go_sem high] str_eql str_neq str_lss str_leq str_geq str_eql0 str_neq0

theorem field25_0 (a b : Option Addr) (i j k l : Nat) (m n : Int) (t : Bool) (w : World) : (Instr.field 25 (.agg #[.slice a i j, .slice b k l, .int .i64 m, .int .i64 n, .bool t]) 0).run Try.prog w = .ok (.slice a i j) w := by kernel_rfl
attribute [local go_sem] field25_0
set_option maxRecDepth 100000 in
set_option maxHeartbeats 32000000 in
theorem safe_any (w : World) {S T : Nat → Prop} (v qv : Value) (d : Dsk) (q : List Opr) (keep torn : Int) (hx : IsDsk S w v d) (hq : IsOps T w qv q) (hkw : (Lit.int .i64 keep).wf = true) :
    Calls Try.prog 3 #[v, qv, .int .i64 keep, .int .i64 torn] w (LawPost w) := by
  have hx := dsk_inn hx
  have hxo := hx
  obtain ⟨i22, hi22, hs0, hs1, hs2'⟩ := info_parts Try.info22
  obtain ⟨fv, qv0, rfl, hf0, hq0, hnum⟩ := hx
  obtain ⟨fa, fc, rfl, _, _⟩ := hf0.len
  obtain ⟨da, dc, rfl, _, hdm⟩ := hq0.len
  obtain ⟨qa, qc, rfl, hqc, hqm⟩ := hq.len
  obtain ⟨W1, hW1⟩ : ∃ W1, w.alloc (.cells #[.slice fa d.files.length fc, .slice da d.queue.length dc, .int .i64 d.quota, .int .i64 d.fuse, .bool d.dead] 25) = W1 := ⟨_, rfl⟩
  have hG : Gr w W1 := by rw [← hW1]; exact Gr.alloc (Gr.refl w) _
  have hB1 : W1.heap[w.heap.size]? = some (.cells #[.slice fa d.files.length fc, .slice da d.queue.length dc, .int .i64 d.quota, .int .i64 d.fuse, .bool d.dead] 25 (0, 0)) := by rw [← hW1]; exact alloc1_heap _ _
  have HD0 := Lib.hid hxo
  have HQ := Lib.hid hq
  have HGR := Lib.hid (show ∀ X, Gr W1 X → Calls Try.prog 6 #[.agg #[.slice fa d.files.length fc, .slice da d.queue.length dc, .int .i64 d.quota, .int .i64 d.fuse, .bool d.dead]] X (GreatPost d X) from fun X hX => great_any X _ d (hxo.gr (hG.trans hX)))
  have HRI := Lib.hid (show ∀ X, Gr W1 X → Fit d → Calls Try.prog 7 #[.agg #[.slice fa d.files.length fc, .slice da d.queue.length dc, .int .i64 d.quota, .int .i64 d.fuse, .bool d.dead]] X fun e w' => e = .returned (.bool (rightB d)) ∧ Gr X w' from
    fun X hX hft => rightR_any X _ d (hxo.gr (hG.trans hX)) (by have := fit_cnt hft; omega) (by have := fit_cnt hft; omega))
  have HWA := Lib.hid (show ∀ X, Calls Try.prog 8 #[] X fun e w' => e = .returned (.bool true) ∧ Gr X w' from wakes_any)
  have HC1 := Lib.hid (show ∀ X, Gr W1 X → X.cell? ⟨w.heap.size, 0, none⟩ = some (.slice fa d.files.length fc) ∧ X.cell? ⟨w.heap.size, 1, none⟩ = some (.slice da d.queue.length dc) ∧ X.cell? ⟨w.heap.size, 2, none⟩ = some (.int .i64 d.quota) ∧ X.cell? ⟨w.heap.size, 3, none⟩ = some (.int .i64 d.fuse) ∧ X.cell? ⟨w.heap.size, 4, none⟩ = some (.bool d.dead) from fun X h => ⟨cell_block (h.same hB1) rfl, cell_block (h.same hB1) rfl, cell_block (h.same hB1) rfl, cell_block (h.same hB1) rfl, cell_block (h.same hB1) rfl⟩)
  have HNOW := Lib.hid (show ∀ (X : World) (v : Value) (x : Dsk), Gr w X → Hd w X v x → (cnt x ≤ 1000000 ∧ tot x ≤ 1000000000000) → Calls Try.prog 9 #[v] X fun e w' => ∃ na nc, e = .returned (.slice na (nowL x).length nc) ∧ OwnFls w.heap.size w' (.slice na (nowL x).length nc) (nowL x) ∧ Gr X w' from
    fun X v x hX hh hc => (nowL_any X v x hh.is hc.1 hc.2).mono fun e w' ⟨v', h1, h2, h3⟩ => by
      obtain ⟨na, nc, rfl⟩ := h2.slice
      exact ⟨na, nc, h1, h2.down hX.size, h3⟩)
  have HW := Lib.hid hW1
  have HG := Lib.hid hG
  have HB := Lib.hid hB1
  have HKW := Lib.hid (wf64 hkw)
  have hql0 : q.length ≤ maxLen := by omega
  unfold maxLen at hql0 hdm
  clear hxo hf0 hq0 hnum hq hG hB1 hW1 hqm hkw
  obtain ⟨k0, k1, k2, k3, k4⟩ := HC1.out W1 (Gr.refl _)
  show Calls Try.prog 3 #[.agg #[.slice fa d.files.length fc, .slice da d.queue.length dc, .int .i64 d.quota, .int .i64 d.fuse, .bool d.dead], .slice qa q.length qc, .int .i64 keep, .int .i64 torn] w _
  go_enter Try.func3, Try.ntmps3
  go_upto_region 1 with fail
  rw [HW.out]
  go_wp2_with fail
  refine (HGR.out W1 (Gr.refl _)).mono ?_
  rintro e w2 ⟨r, rfl, hfit, hg2⟩
  have HG2 := Lib.hid hg2
  have HFT := Lib.hid hfit
  clear hg2 hfit k0 k1 k2 k3 k4
  cases r with
  | true =>
    go_wp2_with (go_at_call 8; refine (HWA.out _).mono ?_; rintro e w4 ⟨rfl, hg4⟩)
    go_ret
    exact ⟨rfl, (HG.out.trans HG2.out).trans hg4⟩
  | false =>
    have HF := Lib.hid (HFT.out rfl)
    obtain ⟨k0, k1, k2, k3, k4⟩ := HC1.out w2 HG2.out
    have HRW := Lib.hid (HRI.out w2 HG2.out HF.out)
    clear HRI HFT HGR
    go_wp2_with fail
    refine HRW.out.mono ?_
    rintro e w3 ⟨rfl, hg3⟩
    have HG3 := Lib.hid (HG2.out.trans hg3)
    clear hg3 HRW k0 k1 k2 k3 k4
    have hrb : rightB d = true ∨ rightB d = false := by cases rightB d <;> simp
    rcases hrb with hrb | hrb
    rotate_left
    · rw [hrb]
      clear hrb
      go_wp2_with (go_at_call 8; refine (HWA.out _).mono ?_; rintro e w4 ⟨rfl, hg4⟩)
      go_ret
      exact ⟨rfl, (HG.out.trans HG3.out).trans hg4⟩
    rw [hrb]
    have HRB := Lib.hid hrb
    clear hrb
    obtain ⟨k0, k1, k2, k3, k4⟩ := HC1.out w3 HG3.out
    by_cases hqz : 0 < d.queue.length
    · have hqz' : (0 : Int) < (d.queue.length : Int) := by omega
      go_wp2_with (go_at_call 8; refine (HWA.out _).mono ?_; rintro e w4 ⟨rfl, hg4⟩)
      go_ret
      exact ⟨rfl, (HG.out.trans HG3.out).trans hg4⟩
    have hdd : d.dead = true ∨ d.dead = false := by cases d.dead <;> simp
    rcases hdd with hdd | hdd
    · have hqz' : ¬ (0 : Int) < (d.queue.length : Int) := by omega
      go_wp2_with (go_at_call 8; refine (HWA.out _).mono ?_; rintro e w4 ⟨rfl, hg4⟩)
      go_ret
      exact ⟨rfl, (HG.out.trans HG3.out).trans hg4⟩
    by_cases hlen : (q.length : Int) ≤ 30
    rotate_left
    · have hqz' : ¬ (0 : Int) < (d.queue.length : Int) := by omega
      go_wp2_with (go_at_call 8; refine (HWA.out _).mono ?_; rintro e w4 ⟨rfl, hg4⟩)
      go_ret
      exact ⟨rfl, (HG.out.trans HG3.out).trans hg4⟩
    have hqz' : ¬ (0 : Int) < (d.queue.length : Int) := by omega
    have hrow3 := HG3.out.same HB.out
    have f3 := frozen_block hrow3 (j := 3)
    obtain ⟨d0, hd0⟩ : ∃ d0, d0 = { d with fuse := 0 } := ⟨_, rfl⟩
    obtain ⟨W3, hW3⟩ : ∃ W3, w3.setCell ⟨w.heap.size, 3, none⟩ (.int .i64 0) = W3 := ⟨_, rfl⟩
    have hgw3 : Gr w W3 := by rw [← hW3]; exact Gr.set (HG.out.trans HG3.out) (Nat.le_refl _) _
    have hr3 : W3.heap[w.heap.size]? = some (.cells #[.slice fa d0.files.length fc, .slice da d0.queue.length dc, .int .i64 d0.quota, .int .i64 d0.fuse, .bool d0.dead] 25 (0, 0)) := by rw [← hW3, hd0]; exact setCell_block hrow3 _
    have hh3 : Hd w W3 (dskV d0 (.slice fa d0.files.length fc) (.slice da d0.queue.length dc)) d0 := .inl (by
      have h := HD0.out.gr hgw3
      obtain ⟨fv, qv, h1, h2, h3, h4⟩ := h
      simp only [dskV, Value.agg.injEq, Array.mk.injEq, List.cons.injEq] at h1
      obtain ⟨rfl, rfl, -⟩ := h1
      rw [hd0]
      exact ⟨_, _, rfl, h2, h3, h4.1, (show (Lit.int .i64 0).wf = true by decide)⟩)
    have hwas0 : Was d0 [nowL d0] := by
      rw [hd0]
      exact was_start HRB.out hdd (List.eq_nil_of_length_eq_zero (by omega))
    have hc0 : cnt d0 ≤ 90 ∧ tot d0 ≤ 90000 := by rw [hd0]; have h := fit_cnt HF.out; exact h
    have HST := Lib.hid (And.intro hr3 (And.intro hh3 (And.intro hgw3 (And.intro hwas0 hc0))))
    have HW3 := Lib.hid hW3
    clear hrow3 hW3 hgw3 hr3 hh3 hwas0 hc0 hd0
    go_upto_region 4 with fail
    rw [HW3.out]
    clear k0 k1 k2 k3 k4 f3 hdd hqz hqz' HW3 HRB HF HG3 HG2 HB HC1 HW
    go_upto_region 5 with fail
    go_cut [9] from 49 to 53 (fun v wx => ∃ (wa : Option Addr) (wl : Nat), v = .slice wa 1 wl ∧ OwnWas w.heap.size wx (.slice wa 1 wl) [nowL d0] ∧ Gr w wx ∧ wx.heap[w.heap.size]? = some (.cells #[.slice fa d0.files.length fc, .slice da d0.queue.length dc, .int .i64 d0.quota, .int .i64 d0.fuse, .bool d0.dead] 25 (0, 0)) ∧ Hd w wx (dskV d0 (.slice fa d0.files.length fc) (.slice da d0.queue.length dc)) d0)
    case first =>
      have hrow := HST.out.1
      have e0 := cell_block hrow (j := 0) rfl
      have e1 := cell_block hrow (j := 1) rfl
      have e2 := cell_block hrow (j := 2) rfl
      have e3 := cell_block hrow (j := 3) rfl
      have e4 := cell_block hrow (j := 4) rfl
      have HC := Lib.hid (HNOW.out W3 _ d0 HST.out.2.2.1 HST.out.2.1 (by have := HST.out.2.2.2.2; omega))
      clear hrow
      go_wp2_with fail
      refine HC.out.mono ?_
      rintro e y1 ⟨na, nc, rfl, ho1, hgy⟩
      have hY : Gr w y1 := HST.out.2.2.1.trans hgy
      have HN9 := Lib.hid (cells_src (l := [.slice na (nowL d0).length nc]) (alloc1_heap y1 (.cells #[.slice na (nowL d0).length nc] 22)))
      have HU9 := Lib.hid (show ∀ u ∈ [Value.slice na (nowL d0).length nc], u.oneCell' = true from fun u hu => by rw [List.mem_singleton.1 hu]; rfl)
      have HO9 := Lib.hid (show (y1.alloc (.cells #[.slice na (nowL d0).length nc] 22)).ownsRow w.heap.size 22 1 (.slice none 0 0) 0 [] from World.ownsRow_nil _ _ _ _)
      have HL5 := Lib.hid (show w.heap.size ≤ (y1.alloc (.cells #[.slice na (nowL d0).length nc] 22)).heap.size from by have := hY.size; simp; omega)
      have HL3 := Lib.hid (show 0 + 1 ≤ maxLen by decide)
      have HL4 := Lib.hid (show (0 + 1) * 24 ≤ 140737488355328 by decide)
      have HP := Lib.hid (And.intro ho1 (And.intro hgy hY))
      clear ho1 hgy hY e0 e1 e2 e3 e4 HC
      go_wp2_with (at_builtin; go_loud (refine wpList_append_src rfl _ _ 28 rfl w.heap.size 22 i22 _ 1 24 Try.underlying28 hi22 hs0 hs1 hs2' rfl (by decide) _ 0 [] rfl HO9.out (some ⟨y1.heap.size, 0, none⟩) 1 1 [.slice na (nowL d0).length nc] rfl rfl (by intro h; cases h) HN9.out HU9.out HL3.out HL4.out HL5.out ?_))
      intro a9 c9 w9 hown9 hgrow9
      have hpp := OwnWas.push (OwnWas.nil w.heap.size y1) HP.out.1 (World.ownsRow_nil _ _ _ _) hown9 hgrow9
      have hgw9 : Gr w w9 := grown_gr (HP.out.2.2.alloc _) hgrow9 fun q hq => by cases hq
      have hbx := box_grew (HP.out.2.1.same HST.out.1) (World.ownsRow_nil y1 w.heap.size 22 1) hgrow9
      have hhx := Hd.grew (HST.out.2.1.gr HP.out.2.1) (World.ownsRow_nil _ _ _ _) hgrow9
      have HPP := Lib.hid (And.intro hpp (And.intro hgw9 (And.intro hbx hhx)))
      clear hown9 hgrow9 hpp hgw9 hbx hhx
      go_wp2
      go_meet
      case rel => exact ⟨a9, c9, rfl, HPP.out.1, HPP.out.2.1, HPP.out.2.2.1, HPP.out.2.2.2⟩
    case rest =>
      obtain ⟨wa, wl, rfl, how, hgw, hrw, hhw⟩ := hcut
      obtain ⟨W5, hW5⟩ : ∃ W5, W5 = wc := ⟨_, rfl⟩
      subst hW5
      have H5 := Lib.hid (And.intro how (And.intro hgw (And.intro hrw hhw)))
      clear how hgw hrw hhw
      go_upto_region 6 with fail
      go_cut [10] from 54 to 54 (fun p wx => ∃ B10 : Nat, p = .pointer (some ⟨B10, 0, none⟩) ∧ wx.heap[B10]? = some (.cells #[.slice fa d0.files.length fc, .slice da d0.queue.length dc, .int .i64 d0.quota, .int .i64 d0.fuse, .bool d0.dead] 25 (0, 0)) ∧ Hd w wx (dskV d0 (.slice fa d0.files.length fc) (.slice da d0.queue.length dc)) d0 ∧ OwnWas w.heap.size wx (.slice wa 1 wl) [nowL d0] ∧ Gr w wx ∧ w.heap.size ≤ B10)
      case first =>
        have hrow := H5.out.2.2.1
        have e0 := cell_block hrow (j := 0) rfl
        have e1 := cell_block hrow (j := 1) rfl
        have e2 := cell_block hrow (j := 2) rfl
        have e3 := cell_block hrow (j := 3) rfl
        have e4 := cell_block hrow (j := 4) rfl
        clear hrow
        go_wp2
        go_meet
        case rel => exact ⟨_, rfl, alloc1_heap _ _, H5.out.2.2.2.gr (Gr.alloc (Gr.refl _) _), H5.out.1.gr (Gr.alloc (Gr.refl _) _), Gr.alloc H5.out.2.1 _, H5.out.2.1.size⟩
      case rest =>
        obtain ⟨B10, rfl, hrow, hhd, how, hgw, hb10⟩ := hcut
        obtain ⟨W6, hW6⟩ : ∃ W6, W6 = wc := ⟨_, rfl⟩
        subst hW6
        have H6 := Lib.hid (And.intro hrow (And.intro hhd (And.intro how hgw)))
        clear hrow hhd how hgw
        go_wp2
        go_loopw [9, 11] (fun v k wr => ∃ (j : Nat) (wa : Option Addr) (wl : Nat) (was : List (List Fl)) (xa : Option Addr) (xc : Nat) (xd : Option Addr) (xe : Nat) (x : Dsk), v = .slice wa was.length wl ∧ k = .int .i64 j ∧ j ≤ q.length ∧ (Was x was ∧ was.length ≤ j + 1 ∧ cnt x ≤ 90 + j ∧ tot x ≤ 90000 + 100 * j) ∧
            wr.heap[B10]? = some (.cells #[.slice xa x.files.length xc, .slice xd x.queue.length xe, .int .i64 x.quota, .int .i64 x.fuse, .bool x.dead] 25 (0, 0)) ∧ Hd w wr (dskV x (.slice xa x.files.length xc) (.slice xd x.queue.length xe)) x ∧ OwnWas w.heap.size wr (.slice wa was.length wl) was ∧ Gr w wr) (fun _ k _ => q.length - (intOf k).toNat)
        case atStart =>
          have h := HST.out.2.2.2
          exact ⟨0, wa, wl, [nowL d0], fa, fc, da, dc, d0, rfl, rfl, Nat.zero_le _, ⟨h.1, by simp, by omega, by omega⟩, H6.out.1, H6.out.2.1, H6.out.2.2.1, H6.out.2.2.2⟩
        case round =>
          obtain ⟨j, wa, wl, was, xa, xc, xd, xe, x, rfl, rfl, hj, hwp, hrow, hhd, how, hgw⟩ := hrel
          have HR := Lib.hid (And.intro hwp (And.intro hrow (And.intro hhd (And.intro how hgw))))
          clear hwp hrow hhd how hgw
          by_cases hlt : j < q.length
          · obtain ⟨o, hoj⟩ : ∃ o, q[j]? = some o := ⟨_, List.getElem?_eq_getElem hlt⟩
            obtain ⟨b2, o2, c2, hv2, _, _, _, hrows⟩ := HQ.out.some (by omega)
            simp only [Value.slice.injEq, true_and] at hv2
            obtain ⟨rfl, rfl⟩ := hv2
            obtain ⟨bv, hr1, hbv⟩ := hrows j o hoj
            obtain ⟨ba, bc, rfl, _, hbm⟩ := IsBy.len hbv
            unfold maxLen at hbm
            have HBV := Lib.hid hbv
            have HMC := Lib.hid (show ∀ X, Gr w X → X.cell? ⟨b2, o2 + j * 4, none⟩ = some (.int .u8 o.kind) ∧ X.cell? ⟨b2, o2 + j * 4 + 1, none⟩ = some (strV o.name) ∧ X.cell? ⟨b2, o2 + j * 4 + 2, none⟩ = some (strV o.to) ∧ X.cell? ⟨b2, o2 + j * 4 + 3, none⟩ = some (.slice ba o.data.length bc) from
              fun X hX => ⟨later_cell hX (hr1 0 _ rfl), later_cell hX (hr1 1 _ rfl), later_cell hX (hr1 2 _ rfl), later_cell hX (hr1 3 _ rfl)⟩)
            have HOK := Lib.hid (HQ.out.ok o (List.mem_of_getElem? hoj))
            clear hrows hr1 hbv hoj
            have hgw := HR.out.2.2.2.2
            obtain ⟨m0, m1, m2, m3⟩ := HMC.out wr hgw
            clear hgw
            by_cases hbig : (o.data.length : Int) ≤ 100
            rotate_left
            · go_wp2_with (go_at_call 8; refine (HWA.out _).mono ?_; rintro e w4 ⟨rfl, hg4⟩)
              go_ret
              exact ⟨rfl, HR.out.2.2.2.2.trans hg4⟩
            have hdl : o.data.length ≤ 100 := by omega
            have HCD := Lib.hid (show ∀ X, Gr wr X → X.cell? ⟨B10, 0, none⟩ = some (.slice xa x.files.length xc) ∧ X.cell? ⟨B10, 1, none⟩ = some (.slice xd x.queue.length xe) ∧ X.cell? ⟨B10, 2, none⟩ = some (.int .i64 x.quota) ∧ X.cell? ⟨B10, 3, none⟩ = some (.int .i64 x.fuse) ∧ X.cell? ⟨B10, 4, none⟩ = some (.bool x.dead) from fun X h => ⟨cell_block (h.same HR.out.2.1) rfl, cell_block (h.same HR.out.2.1) rfl, cell_block (h.same HR.out.2.1) rfl, cell_block (h.same HR.out.2.1) rfl, cell_block (h.same HR.out.2.1) rfl⟩)
            have HK := Lib.hid (show ∀ X, Gr wr X → (Gr wr X ∧ (X.cell? ⟨B10, 0, none⟩ = some (.slice xa x.files.length xc) ∧ X.cell? ⟨B10, 1, none⟩ = some (.slice xd x.queue.length xe) ∧ X.cell? ⟨B10, 2, none⟩ = some (.int .i64 x.quota) ∧ X.cell? ⟨B10, 3, none⟩ = some (.int .i64 x.fuse) ∧ X.cell? ⟨B10, 4, none⟩ = some (.bool x.dead)) ∧ X.cell? ⟨b2, o2 + j * 4, none⟩ = some (.int .u8 o.kind) ∧ X.cell? ⟨b2, o2 + j * 4 + 1, none⟩ = some (strV o.name) ∧ X.cell? ⟨b2, o2 + j * 4 + 2, none⟩ = some (strV o.to) ∧ X.cell? ⟨b2, o2 + j * 4 + 3, none⟩ = some (.slice ba o.data.length bc)) from fun X hX => ⟨hX, HCD.out X hX, HMC.out X (HR.out.2.2.2.2.trans hX)⟩)
            have HK0 := Lib.hid (HK.out wr.drew (Gr.refl wr).drew)
            have hcj : cnt x ≤ 1000000 ∧ tot x ≤ 1000000000000 := by have h := HR.out.1; omega
            have HDO := Lib.hid (show ∀ X, Gr wr X → Calls Try.prog 10 #[.agg #[.slice xa x.files.length xc, .slice xd x.queue.length xe, .int .i64 x.quota, .int .i64 x.fuse, .bool x.dead], .agg #[.int .u8 o.kind, strV o.name, strV o.to, .slice ba o.data.length bc]] X fun e w' => ∃ v', e = .returned (.tuple #[v', .int .i64 (doE x o)]) ∧ OwnDsk w.heap.size w' v' (doD x o) ∧ Gr X w' from
              fun X hX => (do_any X _ _ x o (HR.out.2.2.1.gr hX).is (IsBy.gr (HR.out.2.2.2.2.trans hX) HBV.out) HOK.out hcj.1 hcj.2 (by omega)).mono fun e w' ⟨v', h1, h2, h3⟩ => ⟨v', h1, h2.base (HR.out.2.2.2.2.trans hX).size, h3⟩)
            have HX := Lib.hid (show (doE x o ≠ 0 → doD x o = x) ∧ (doE x o = 0 → Was (doD x o) (was ++ [nowL (doD x o)])) ∧ cnt (doD x o) ≤ 90 + (j + 1) ∧ tot (doD x o) ≤ 90000 + 100 * (j + 1) from
              ⟨do_bad, was_do HR.out.1.1, by have h := HR.out.1; have := do_cnt x o; omega, by have h := HR.out.1; have := do_tot x o; omega⟩)
            have hj0 : (0 : Int) ≤ (j : Int) := by omega
            have hj1 : (j : Int) < (q.length : Int) := by omega
            have hwl : was.length ≤ 40 := by have h := HR.out.1.2.1; omega
            have HJ := Lib.hid hcj
            clear hcj
            generalize doE x o = de at *
            generalize doD x o = y at *
            go_upto_region 12 with fail
            go_cut [12, 13] from 69 to 77 (fun p e wx => ∃ (Bx : Nat) (ya : Option Addr) (yc : Nat) (yd : Option Addr) (ye : Nat), p = .pointer (some ⟨Bx, 0, none⟩) ∧ e = .int .i64 de ∧ wx.heap[Bx]? = some (.cells #[.slice ya y.files.length yc, .slice yd y.queue.length ye, .int .i64 y.quota, .int .i64 y.fuse, .bool y.dead] 25 (0, 0)) ∧ OwnDsk w.heap.size wx (dskV y (.slice ya y.files.length yc) (.slice yd y.queue.length ye)) y ∧ wr.heap.size ≤ Bx ∧ Gr wr wx)
            case first =>
              as_aux_lemma =>
              clear m0 m1 m2 m3
              go_region_held3 (fun X => Gr wr X ∧ (X.cell? ⟨B10, 0, none⟩ = some (.slice xa x.files.length xc) ∧ X.cell? ⟨B10, 1, none⟩ = some (.slice xd x.queue.length xe) ∧ X.cell? ⟨B10, 2, none⟩ = some (.int .i64 x.quota) ∧ X.cell? ⟨B10, 3, none⟩ = some (.int .i64 x.fuse) ∧ X.cell? ⟨B10, 4, none⟩ = some (.bool x.dead)) ∧ X.cell? ⟨b2, o2 + j * 4, none⟩ = some (.int .u8 o.kind) ∧ X.cell? ⟨b2, o2 + j * 4 + 1, none⟩ = some (strV o.name) ∧ X.cell? ⟨b2, o2 + j * 4 + 2, none⟩ = some (strV o.to) ∧ X.cell? ⟨b2, o2 + j * 4 + 3, none⟩ = some (.slice ba o.data.length bc))
                (first | (with_reducible exact HK.out _ (set5_gr hGY2 (by first | exact Nat.le_refl _ | exact Nat.le_succ _))) | (with_reducible exact HK0.out) | (with_reducible exact HK.out _ (by assumption)) | (with_reducible exact HK.out _ (Gr.alloc (by assumption) _)) | (with_reducible exact HK.out _ (Gr.alloc (And.left (by assumption)) _)) | (with_reducible exact HK.out _ (Gr.drew (Gr.alloc (Gr.refl _) _))))
                (first
                  | (go_at_call 10; refine (HDO.out _ (And.left (by assumption))).mono ?_
                     rintro e z2 ⟨v2, rfl, ⟨fv2, qv2, rfl, hf2, hq2, hn2⟩, hgy2⟩
                     obtain ⟨fa2, fc2, rfl⟩ := hf2.slice
                     obtain ⟨qa2, qc2, rfl⟩ := hq2.slice
                     have hGY2 : Gr wr z2 := Gr.trans (And.left (by assumption)) hgy2
                     with_reducible first | have HQ2 := Lib.hid (hgy2.same (heap1d_at _ (.cells #[.slice none 0 0, .slice none 0 0, .int .i64 0, .int .i64 0, .bool false] 25) _ rfl)) | have HQ2 := Lib.hid (hgy2.same (alloc1_heap _ (.cells #[.slice none 0 0, .slice none 0 0, .int .i64 0, .int .i64 0, .bool false] 25))) | skip
                     try simp only [World.size_alloc] at HQ2
                     try (have x0 := cell_block HQ2.out (j := 0) rfl; have x1 := cell_block HQ2.out (j := 1) rfl; have x2 := cell_block HQ2.out (j := 2) rfl; have x3 := cell_block HQ2.out (j := 3) rfl; have x4 := cell_block HQ2.out (j := 4) rfl
                          have g0 := frozen_block HQ2.out (j := 0); have g1 := frozen_block HQ2.out (j := 1); have g2 := frozen_block HQ2.out (j := 2); have g3 := frozen_block HQ2.out (j := 3); have g4 := frozen_block HQ2.out (j := 4))
                     have HP3 := Lib.hid (And.intro (show OwnDsk w.heap.size z2 (dskV y _ _) y from ⟨_, _, rfl, hf2, hq2, hn2⟩) hGY2)
                     simp only [dskV]
                     clear hf2 hq2 hn2))
              all_goals
                go_wp2
                go_meet
                case rel =>
                  refine ⟨_, fa2, fc2, qa2, qc2, rfl, rfl, ?_, ?_, ?_, ?_⟩
                  · with_reducible first | exact heap1_at _ _ _ (by first | with_unfolding_all rfl | simp) | exact row5_filled HQ2.out _ _ _ _ _
                  · with_reducible first | exact OwnDsk.gr (Gr.alloc (Gr.refl _) _) HP3.out.1 | exact OwnDsk.apart HP3.out.1 HQ2.out (fun k hk => set5_other hk)
                  · first | exact hGY2.size | exact Nat.le_refl _ | exact Nat.le_succ _
                  · with_reducible first | exact Gr.alloc HP3.out.2 _ | exact And.left (by assumption)
            case rest =>
              obtain ⟨Bx, ya, yc, yd, ye, rfl, rfl, hrow, hown, hbx, hg8⟩ := hcut
              obtain ⟨W12, hW12⟩ : ∃ W12, W12 = wc := ⟨_, rfl⟩
              subst hW12
              have H12 := Lib.hid (And.intro hrow (And.intro hown (And.intro hbx hg8)))
              have hcx := HCD.out W12 hg8
              clear hrow hown hbx hg8 m0 m1 m2 m3
              obtain ⟨e0, e1, e2, e3, e4⟩ := hcx
              have hry := H12.out.1
              have y0 := cell_block hry (j := 0) rfl
              have y1 := cell_block hry (j := 1) rfl
              have y2 := cell_block hry (j := 2) rfl
              have y3 := cell_block hry (j := 3) rfl
              have y4 := cell_block hry (j := 4) rfl
              clear hry
              by_cases hez : de = 0
              · have hz1 : (de != 0) = false := by simp [hez]
                have HWN := Lib.hid (HX.out.2.1 hez)
                clear hez
                have hr10 := H12.out.2.2.2.same HR.out.2.1
                have g0 := frozen_block hr10 (j := 0)
                have g1 := frozen_block hr10 (j := 1)
                have g2 := frozen_block hr10 (j := 2)
                have g3 := frozen_block hr10 (j := 3)
                have g4 := frozen_block hr10 (j := 4)
                obtain ⟨W16, hW16⟩ : ∃ W16, set5 W12 B10 (.slice ya y.files.length yc) (.slice yd y.queue.length ye) (.int .i64 y.quota) (.int .i64 y.fuse) (.bool y.dead) = W16 := ⟨_, rfl⟩
                have hk16 : ∀ k, k ≠ B10 → W16.heap[k]? = W12.heap[k]? := fun k hk => by rw [← hW16]; exact set5_other hk
                have hr16 : W16.heap[B10]? = some (.cells #[.slice ya y.files.length yc, .slice yd y.queue.length ye, .int .i64 y.quota, .int .i64 y.fuse, .bool y.dead] 25 (0, 0)) := by rw [← hW16]; exact row5_filled hr10 _ _ _ _ _
                have hgw16 : Gr w W16 := by rw [← hW16]; exact set5_gr (HR.out.2.2.2.2.trans H12.out.2.2.2) hb10
                have H16 := Lib.hid (And.intro hr16 (And.intro (OwnDsk.apart H12.out.2.1 hr10 hk16) (And.intro (OwnWas.apart (HR.out.2.2.2.1.gr H12.out.2.2.2) hr10 hk16) hgw16)))
                have HW16 := Lib.hid hW16
                unfold set5 at HW16
                clear hr10 hW16 hk16 hr16 hgw16
                go_upto_region 17 with fail
                rw [HW16.out]
                clear e0 e1 e2 e3 e4 y0 y1 y2 y3 y4 g0 g1 g2 g3 g4 HW16 hz1
                have hr16 := H16.out.1
                have e0 := cell_block hr16 (j := 0) rfl
                have e1 := cell_block hr16 (j := 1) rfl
                have e2 := cell_block hr16 (j := 2) rfl
                have e3 := cell_block hr16 (j := 3) rfl
                have e4 := cell_block hr16 (j := 4) rfl
                have HC := Lib.hid (HNOW.out W16 _ y H16.out.2.2.2 (.inr H16.out.2.1) (by have := HX.out.2.2; omega))
                clear hr16
                go_wp2_with fail
                refine HC.out.mono ?_
                rintro e z1 ⟨na, nc, rfl, ho1, hgy⟩
                have hY : Gr w z1 := H16.out.2.2.2.trans hgy
                have howz := H16.out.2.2.1.gr hgy
                obtain ⟨vs, hvl, hvs, hvo⟩ := howz
                have howz : OwnWas w.heap.size z1 (.slice wa was.length wl) was := ⟨vs, hvl, hvs, hvo⟩
                have HN9 := Lib.hid (cells_src (l := [.slice na (nowL y).length nc]) (alloc1_heap z1 (.cells #[.slice na (nowL y).length nc] 22)))
                have HU9 := Lib.hid (show ∀ u ∈ [Value.slice na (nowL y).length nc], u.oneCell' = true from fun u hu => by rw [List.mem_singleton.1 hu]; rfl)
                have HO9 := Lib.hid (hvs.alloc (.cells #[.slice na (nowL y).length nc] 22))
                have HL5 := Lib.hid (show w.heap.size ≤ (z1.alloc (.cells #[.slice na (nowL y).length nc] 22)).heap.size from by have := hY.size; simp; omega)
                have HL3 := Lib.hid (show was.length + 1 ≤ maxLen by unfold maxLen; omega)
                have HL4 := Lib.hid (show (was.length + 1) * 24 ≤ 140737488355328 by omega)
                have HVS := Lib.hid hvs
                have HPZ := Lib.hid (And.intro ho1 (And.intro hgy (And.intro hY howz)))
                clear ho1 hgy hY e0 e1 e2 e3 e4 HC howz hvl hvs hvo
                go_wp2_with (at_builtin; go_loud (refine wpList_append_src rfl _ _ 28 rfl w.heap.size 22 i22 _ 1 24 Try.underlying28 hi22 hs0 hs1 hs2' rfl (by decide) _ was.length vs rfl HO9.out (some ⟨z1.heap.size, 0, none⟩) 1 1 [.slice na (nowL y).length nc] rfl rfl (by intro h; cases h) HN9.out HU9.out HL3.out HL4.out HL5.out ?_))
                intro a9 c9 w9 hown9 hgrow9
                have hpp := OwnWas.push HPZ.out.2.2.2 HPZ.out.1 HVS.out hown9 hgrow9
                have hgw9 : Gr w w9 := grown_gr (HPZ.out.2.2.1.alloc _) hgrow9 fun q hq => (owns_elem HVS.out hq).1
                have hbx := box_grew (HPZ.out.2.1.same H16.out.1) HVS.out hgrow9
                have hhx := Hd.grew (.inr (H16.out.2.1.gr HPZ.out.2.1)) HVS.out hgrow9
                have HPP := Lib.hid (And.intro hpp (And.intro hgw9 (And.intro hbx hhx)))
                clear hown9 hgrow9 hpp hgw9 hbx hhx
                have hla : (was ++ [nowL y]).length = was.length + 1 := by simp
                go_wp2
                refine ⟨⟨j + 1, a9, c9, was ++ [nowL y], ya, yc, yd, ye, y, by rw [hla], by go_num, by omega, ⟨HWN.out, by rw [hla]; have h := HR.out.1.2.1; omega, HX.out.2.2.1, HX.out.2.2.2⟩, HPP.out.2.2.1, HPP.out.2.2.2, ?_, HPP.out.2.1⟩, by simp [intOf]; omega⟩
                rw [hla]; exact HPP.out.1
              · have hz1 : (de != 0) = true := by simp [hez]
                have hyx := HX.out.1 hez
                have HSM := Lib.hid (show Calls Try.prog 11 #[.agg #[.slice xa x.files.length xc, .slice xd x.queue.length xe, .int .i64 x.quota, .int .i64 x.fuse, .bool x.dead], .agg #[.slice ya y.files.length yc, .slice yd y.queue.length ye, .int .i64 y.quota, .int .i64 y.fuse, .bool y.dead]] W12 (fun e w' => e = .returned (.bool true) ∧ Gr W12 w') from (same_any W12 _ _ x y (HR.out.2.2.1.gr H12.out.2.2.2).is H12.out.2.1.is (by have h := HJ.out.1; unfold cnt at h; omega) (by have h := HJ.out.1; unfold cnt at h; omega)).mono fun e w' ⟨h1, h2⟩ => ⟨by rw [h1, decide_eq_true hyx.symm], h2⟩)
                clear hez hyx
                go_wp2_with fail
                refine HSM.out.mono ?_
                rintro e w5 ⟨rfl, hg5⟩
                have HG5 := Lib.hid (H12.out.2.2.2.trans hg5)
                clear hg5 hz1 e0 e1 e2 e3 e4 y0 y1 y2 y3 y4
                go_wp2
                have h := HR.out.1
                exact ⟨⟨j + 1, wa, wl, was, xa, xc, xd, xe, x, rfl, by go_num, by omega, ⟨h.1, by omega, by omega, by omega⟩, HG5.out.same HR.out.2.1, HR.out.2.2.1.gr HG5.out, HR.out.2.2.2.1.gr HG5.out, HR.out.2.2.2.2.trans HG5.out⟩, by simp [intOf]; omega⟩
          · have HEND := Lib.hid hj
            have hjl : ¬ (j : Int) < (q.length : Int) := by omega
            have hwp := HR.out.1.1
            have hn1 : was.length = x.queue.length + 1 := hwp.len
            have hn2 : was.length ≤ 31 := by have h := HR.out.1.2.1; have := HEND.out; omega
            have HN := Lib.hid hn1
            obtain ⟨n, hn⟩ : ∃ n, n = was.length := ⟨_, rfl⟩
            have hn0 : 1 ≤ n := by omega
            have hn3 : n ≤ 31 := by omega
            have HWL := Lib.hid hn
            obtain ⟨wr0, hwr0⟩ : ∃ wr0, wr0 = wr := ⟨_, rfl⟩
            subst hwr0
            clear hwp hn1 hn2
            rw [← hn]
            clear hn
            have ht1 : -(n : Int) < Int.tmod keep n ∧ Int.tmod keep n < n := by
              have h1 := Int.natAbs_tmod keep (n : Int)
              have h2 := Nat.mod_lt keep.natAbs (show 0 < (n : Int).natAbs by omega)
              omega
            obtain ⟨t, ht⟩ : ∃ t, t = Int.tmod keep (n : Int) := ⟨_, rfl⟩
            rw [← ht] at ht1
            have HT := Lib.hid ht
            clear ht
            obtain ⟨K, hK⟩ : ∃ K : Nat, (K : Int) = Int.tmod (t + n) n := ⟨(Int.tmod (t + n) n).toNat, by
              have h1 := Int.tmod_nonneg (a := t + n) (n : Int) (by omega)
              omega⟩
            have hKn : K < n := by
              have h1 := Int.tmod_lt_of_pos (t + n) (show (0 : Int) < (n : Int) by omega)
              omega
            have hnz : ¬ n = 0 := by omega
            have hnz2 : ((n : Int) == 0) = false := by simp; omega
            have hw1 : IntKind.i64.wrap t = t := by rw [IntKind.wrap_i64]; omega
            obtain ⟨sm, hsm⟩ : ∃ sm : Int, sm = t + n := ⟨_, rfl⟩
            have hw2 : IntKind.i64.wrap (t + n) = sm := by rw [IntKind.wrap_i64]; omega
            have hw3 : IntKind.i64.wrap (K : Int) = K := by rw [IntKind.wrap_i64]; omega
            have hw4 := HT.out.symm
            have hw5 : Int.tmod sm n = K := by rw [hsm]; exact hK.symm
            clear hsm hK ht1
            go_upto_region 19 with fail
            clear hw1 hw2 hw3 hw4 hw5 hnz hnz2 hjl
            have hrt : rightB x = true := HR.out.1.1.right
            have HRT := Lib.hid hrt
            clear hrt
            have hxb : cnt x ≤ 1000000 ∧ tot x ≤ 1000000000000 := by have h := HR.out.1; have := HEND.out; omega
            have HXB := Lib.hid hxb
            clear hxb
            have HCR := Lib.hid (show ∀ (X : World) (tt : Int), Gr wr0 X → Calls Try.prog 12 #[.agg #[.slice xa x.files.length xc, .slice xd x.queue.length xe, .int .i64 x.quota, .int .i64 x.fuse, .bool x.dead], .int .i64 (K : Int), .int .i64 tt] X fun e w' => ∃ (ca : Option Addr) (cc : Nat) (ce : Option Addr) (cf : Nat),
                e = .returned (.agg #[.slice ca (crashL x K tt).length cc, .slice ce 0 cf, .int .i64 x.quota, .int .i64 0, .bool false]) ∧ OwnFls w.heap.size w' (.slice ca (crashL x K tt).length cc) (crashL x K tt) ∧ Gr X w' from
              fun X tt hX => (crash_any X _ x (K : Int) tt (HR.out.2.2.1.gr hX).is HXB.out.1 HXB.out.2).mono fun e w' ⟨v', h1, h2, h3⟩ => by
                have hcd : crashD x (K : Int) tt = ⟨crashL x K tt, [], x.quota, 0, false⟩ := by unfold crashD; rw [if_pos HRT.out]
                rw [hcd] at h2
                obtain ⟨fv, qv, h4, h5, h6, h7⟩ := h2
                obtain ⟨ca, cc, rfl⟩ := h5.slice
                obtain ⟨ce, cf, rfl⟩ := h6.slice
                subst h4
                exact ⟨ca, cc, ce, cf, h1, h5.down (HR.out.2.2.2.2.trans hX).size, h3⟩)
            go_cut [14] from 100 to 102 (fun p wx => ∃ (B14 : Nat) (ca : Option Addr) (cc : Nat) (ce : Option Addr) (cf : Nat), p = .pointer (some ⟨B14, 0, none⟩) ∧ wx.heap[B14]? = some (.cells #[.slice ca (crashL x K 0).length cc, .slice ce 0 cf, .int .i64 x.quota, .int .i64 0, .bool false] 25 (0, 0)) ∧ OwnFls w.heap.size wx (.slice ca (crashL x K 0).length cc) (crashL x K 0) ∧ Gr wr0 wx)
            case first =>
              have hrow := HR.out.2.1
              have e0 := cell_block hrow (j := 0) rfl
              have e1 := cell_block hrow (j := 1) rfl
              have e2 := cell_block hrow (j := 2) rfl
              have e3 := cell_block hrow (j := 3) rfl
              have e4 := cell_block hrow (j := 4) rfl
              have HC := Lib.hid (HCR.out wr0 0 (Gr.refl _))
              clear hrow
              go_wp2_with fail
              refine HC.out.mono ?_
              rintro e z1 ⟨ca, cc, ce, cf, rfl, ho, hgz⟩
              have HP := Lib.hid (And.intro ho hgz)
              clear ho hgz e0 e1 e2 e3 e4
              go_wp2
              go_meet
              case rel => exact ⟨_, ca, cc, ce, cf, rfl, heap1_at _ _ _ rfl, OwnRow.gr (Gr.alloc (Gr.refl _) _) HP.out.1, Gr.alloc HP.out.2 _⟩
            case rest =>
              obtain ⟨B14, ca, cc, ce, cf, rfl, hr14, ho14, hg19⟩ := hcut
              obtain ⟨W19, hW19⟩ : ∃ W19, W19 = wc := ⟨_, rfl⟩
              subst hW19
              have H19 := Lib.hid (And.intro hr14 (And.intro ho14 hg19))
              clear hr14 ho14 hg19
              go_upto_region 20 with fail
              go_cut [15] from 103 to 106 (fun p wx => ∃ (B15 : Nat) (pa : Option Addr) (pc : Nat) (pe : Option Addr) (pf : Nat), p = .pointer (some ⟨B15, 0, none⟩) ∧ wx.heap[B15]? = some (.cells #[.slice pa (crashL x K torn).length pc, .slice pe 0 pf, .int .i64 x.quota, .int .i64 0, .bool false] 25 (0, 0)) ∧ OwnFls w.heap.size wx (.slice pa (crashL x K torn).length pc) (crashL x K torn) ∧ Gr W19 wx)
              case first =>
                have hrow := H19.out.2.2.same HR.out.2.1
                have e0 := cell_block hrow (j := 0) rfl
                have e1 := cell_block hrow (j := 1) rfl
                have e2 := cell_block hrow (j := 2) rfl
                have e3 := cell_block hrow (j := 3) rfl
                have e4 := cell_block hrow (j := 4) rfl
                have HC := Lib.hid (HCR.out W19 torn H19.out.2.2)
                clear hrow
                go_wp2_with fail
                refine HC.out.mono ?_
                rintro e z1 ⟨pa, pc, pe, pf, rfl, ho, hgz⟩
                have HP := Lib.hid (And.intro ho hgz)
                clear ho hgz e0 e1 e2 e3 e4
                go_wp2
                go_meet
                case rel => exact ⟨_, pa, pc, pe, pf, rfl, heap1_at _ _ _ rfl, OwnRow.gr (Gr.alloc (Gr.refl _) _) HP.out.1, Gr.alloc HP.out.2 _⟩
              case rest =>
                obtain ⟨B15, pa, pc, pe, pf, rfl, hr15, ho15, hg20⟩ := hcut
                obtain ⟨W20, hW20⟩ : ∃ W20, W20 = wc := ⟨_, rfl⟩
                subst hW20
                have hg2 : Gr wr0 W20 := H19.out.2.2.trans hg20
                obtain ⟨vs, hvl, hvs, hvo⟩ := HR.out.2.2.2.1.gr hg2
                rw [← HWL.out] at hvl hvs
                have hwas := HR.out.1.1
                have hql : n = x.queue.length + 1 := by rw [HWL.out]; exact hwas.len
                obtain ⟨cur, hcur⟩ : ∃ cur, was[K]? = some cur := ⟨_, List.getElem?_eq_getElem (by rw [← HWL.out]; exact hKn)⟩
                obtain ⟨M, hM⟩ : ∃ M : Nat, M = min (K + 1) (n - 1) := ⟨_, rfl⟩
                obtain ⟨next, hnext⟩ : ∃ next, was[M]? = some next := ⟨_, List.getElem?_eq_getElem (by rw [← HWL.out]; omega)⟩
                have hlast : was[x.queue.length]? = some (nowL x) := by have h := was_last hwas; rw [hwas.len, Nat.add_sub_cancel] at h; exact h
                have hvK := List.getElem?_eq_getElem (l := vs) (i := K) (by omega)
                have hvM := List.getElem?_eq_getElem (l := vs) (i := M) (by omega)
                have hvL := List.getElem?_eq_getElem (l := vs) (i := x.queue.length) (by omega)
                have hoK := hvo K _ _ hcur hvK
                have hoM := hvo M _ _ hnext hvM
                have hoL := hvo _ _ _ hlast hvL
                obtain ⟨ua, uc, huv⟩ := hoK.slice
                obtain ⟨na, nc, hnv⟩ := hoM.slice
                obtain ⟨la, lc, hlv⟩ := hoL.slice
                rw [huv] at hvK hoK
                rw [hnv] at hvM hoM
                rw [hlv] at hvL hoL
                obtain ⟨wb, rfl⟩ : ∃ wb, wa = some ⟨wb, 0, none⟩ := by
                  rcases hvs.2 with ⟨h0, h1⟩ | ⟨g, cap, cur', hv, _⟩
                  · omega
                  · simp only [Value.slice.injEq] at hv; exact ⟨g, hv.1⟩
                have hcell : ∀ (i : Nat) (u : Value), vs[i]? = some u → W20.cell? ⟨wb, i, none⟩ = some u := fun i u hu => by
                  have h := World.ownsRow.cells hvs (by rfl) i u hu
                  rw [Addr.add_mid, Nat.zero_add] at h; exact h
                have hcwl : crashL x K 0 = cur := by have h := crash_whole hwas (k := K) (by omega); rw [hcur] at h; cases h; rfl
                have hcpt := crash_part hwas (k := K) (by omega) torn hcur (by rw [← HWL.out, ← hM]; exact hnext)
                have HCW := Lib.hid hcwl
                have HCP := Lib.hid hcpt
                have HV := Lib.hid (And.intro hoK (And.intro hoM hoL))
                have HVC := Lib.hid (And.intro (hcell K _ hvK) (And.intro (hcell M _ hvM) (hcell _ _ hvL)))
                have H20 := Lib.hid (And.intro hr15 (And.intro ho15 (And.intro hg20 hg2)))
                have hcl : cur.length ≤ 2000000 ∧ (crashL x K 0).length ≤ 2000000 := by
                  have h1 := (crash_facts x (K : Int) 0).2.1
                  have h2 := HXB.out.1
                  rw [hcwl] at h1 ⊢; omega
                have HCL := Lib.hid hcl
                have HMM := Lib.hid hM
                have HQL := Lib.hid hql
                have HS21 := Lib.hid (show ∀ X, Gr W20 X → (Gr W20 X ∧ X.cell? ⟨B10, 1, none⟩ = some (.slice xd x.queue.length xe) ∧ X.cell? ⟨B14, 0, none⟩ = some (.slice ca (crashL x K 0).length cc) ∧ X.cell? ⟨B14, 1, none⟩ = some (.slice ce 0 cf) ∧ X.cell? ⟨B14, 4, none⟩ = some (.bool false) ∧ X.cell? ⟨wb, K, none⟩ = some (.slice ua cur.length uc)) from fun X hX => ⟨hX, cell_block ((hg2.trans hX).same HR.out.2.1) rfl, cell_block ((hg20.trans hX).same H19.out.1) rfl, cell_block ((hg20.trans hX).same H19.out.1) rfl, cell_block ((hg20.trans hX).same H19.out.1) rfl, later_cell hX HVC.out.1⟩)
                have HFL := Lib.hid (show ∀ X, Gr W20 X → Calls Try.prog 13 #[.slice ca (crashL x K 0).length cc, .slice ua cur.length uc] X fun e w' => e = .returned (.bool true) ∧ Gr X w' from
                  fun X hX => (files_any X _ _ (crashL x K 0) cur (OwnRow.gr (hg20.trans hX) H19.out.2.1).is (OwnRow.gr hX hoK).is HCL.out.2).mono fun e w' ⟨h1, h2⟩ => ⟨by rw [h1, decide_eq_true HCW.out], h2⟩)
                have hwn : IntKind.i64.wrap ((n : Int) - 1) = (x.queue.length : Int) := by rw [IntKind.wrap_i64]; omega
                have hK0 : (0 : Int) ≤ (K : Int) := by omega
                have hK1 : (K : Int) < (n : Int) := by omega
                have HKN := Lib.hid (And.intro hn0 (And.intro hn3 hKn))
                clear hr15 ho15 hg20 hg2 hvl hvs hvo hwas hql hcur hnext hlast hvK hvM hvL hoK hoM hoL huv hnv hlv hcell hcwl hcpt hcl hM hn0 hn3 hKn
                go_upto_region 21 with fail
                go_wp2_with fail
                refine wp_region_qw (fun X => Gr W20 X ∧ X.cell? ⟨B10, 1, none⟩ = some (.slice xd x.queue.length xe) ∧ X.cell? ⟨B14, 0, none⟩ = some (.slice ca (crashL x K 0).length cc) ∧ X.cell? ⟨B14, 1, none⟩ = some (.slice ce 0 cf) ∧ X.cell? ⟨B14, 4, none⟩ = some (.bool false) ∧ X.cell? ⟨wb, K, none⟩ = some (.slice ua cur.length uc)) (by kernel_rfl) (by kernel_rfl) (HS21.out _ (Gr.refl W20).drew) ?_
                iterate 27
                  refine qw_takeE (by kernel_rfl) ?_
                  apply Exists.intro
                  refine ⟨?_, ?_⟩
                  · rintro X ⟨hg, e0, e1, e2, e3, e4⟩
                    first
                    | (go_simp; done)
                    | (go_simp; with_reducible rfl)
                    | (go_simp; go_at_call 13; refine (HFL.out _ hg).mono ?_; rintro e y1 ⟨rfl, hgy⟩; refine ⟨?_, HS21.out _ (hg.trans hgy)⟩; with_reducible rfl)
                  simp only [Act.put, List.setIfInBounds_toArray, List.set_cons_zero, List.set_cons_succ]
                refine qw_nil ?_
                rintro X ⟨hg, -⟩
                obtain ⟨Z0, hZ0⟩ : ∃ Z0, Z0 = X := ⟨_, rfl⟩
                subst hZ0
                have HZ0 := Lib.hid hg
                obtain ⟨K1, hKK⟩ : ∃ K1 : Nat, K1 = K + 1 := ⟨_, rfl⟩
                have hwk : IntKind.i64.wrap ((K : Int) + 1) = (K1 : Int) := by have h := HKN.out; rw [IntKind.wrap_i64]; omega
                have hmin : min (K1 : Int) (x.queue.length : Int) = (M : Int) := by have h := HMM.out; have h2 := HQL.out; omega
                have hM0 : (0 : Int) ≤ (M : Int) := by omega
                have hM1 : (M : Int) < (n : Int) := by have h := HMM.out; have h2 := HQL.out; omega
                have cM := later_cell hg HVC.out.2.1
                have HPC := Lib.hid (show ∀ X, Gr W20 X → X.cell? ⟨B15, 0, none⟩ = some (.slice pa (crashL x K torn).length pc) from fun X hX => cell_block (hX.same H20.out.1) rfl)
                have HPI := Lib.hid (show ∀ X, Gr W20 X → IsFls (fun b => w.heap.size ≤ b) X (.slice pa (crashL x K torn).length pc) (crashL x K torn) from fun X hX => (OwnRow.gr hX H20.out.2.1).is)
                have HCPL := Lib.hid (show (crashL x K torn).length ≤ 1000000 from by have h1 := (crash_facts x (K : Int) torn).2.1; have h2 := HXB.out.1; omega)
                clear hg hKK
                generalize crashL x K torn = P at *
                clear HS21 HFL HCR
                go_upto_region 24 with fail
                clear cM hmin hwk hwn hM0 hM1
                go_wp2
                go_loopw [17] (fun v wr => ∃ i : Nat, v = .int .i64 i ∧ i ≤ P.length ∧ Gr W20 wr) (fun v _ => P.length - (intOf v).toNat)
                case atStart => exact ⟨0, rfl, Nat.zero_le _, HZ0.out⟩
                case round =>
                  obtain ⟨i, rfl, hi, hg⟩ := hrel
                  have HG25 := Lib.hid hg
                  have cP := HPC.out wr hg
                  clear hg
                  by_cases hlti : i < P.length
                  · as_aux_lemma =>
                    obtain ⟨f, hfi⟩ : ∃ f, P[i]? = some f := ⟨_, List.getElem?_eq_getElem hlti⟩
                    obtain ⟨pb, po, pc', hpv, _, _, _, hrows⟩ := (HPI.out wr HG25.out).some (by omega)
                    simp only [Value.slice.injEq] at hpv
                    obtain ⟨rfl, -, rfl⟩ := hpv
                    obtain ⟨fbv, hfr, hfb⟩ := hrows i f hfi
                    obtain ⟨fba, fbc, rfl, _, _⟩ := IsBy.len hfb
                    have c0 : wr.cell? ⟨pb, po + i * 2, none⟩ = some (strV f.name) := hfr 0 _ rfl
                    have c1 : wr.cell? ⟨pb, po + i * 2 + 1, none⟩ = some (.slice fba f.data.length fbc) := hfr 1 _ rfl
                    have hi0 : (0 : Int) ≤ (i : Int) := by omega
                    have hi1 : (i : Int) < (P.length : Int) := by omega
                    have hpl := HCPL.out
                    have HFM := Lib.hid (HCP.out f (List.mem_of_getElem? hfi))
                    have HFB := Lib.hid hfb
                    obtain ⟨W27, hW27⟩ : ∃ W27, wr.alloc (.cells #[strV f.name, .slice fba f.data.length fbc] 40) = W27 := ⟨_, rfl⟩
                    obtain ⟨B18, hB18⟩ : ∃ B18, B18 = wr.heap.size := ⟨_, rfl⟩
                    have hg27 : Gr wr W27 := by rw [← hW27]; exact Gr.alloc (Gr.refl _) _
                    have hr27 : W27.heap[B18]? = some (.cells #[strV f.name, .slice fba f.data.length fbc] 40 (0, 0)) := by rw [← hW27, hB18]; exact alloc1_heap _ _
                    have H27 := Lib.hid (And.intro hr27 (And.intro hg27 (HG25.out.trans hg27)))
                    have HW27 := Lib.hid hW27
                    have HB18 := Lib.hid hB18.symm
                    have hfl : f.data.length ≤ maxLen := by obtain ⟨_, c, h, h1, h2⟩ := IsBy.len hfb; exact Nat.le_trans h1 h2
                    unfold maxLen at hfl
                    have hnl : next.length ≤ 9223372036854775807 ∧ cur.length ≤ 9223372036854775807 := by
                      obtain ⟨_, c1, h1, h2, h3⟩ := (HV.out.2.1).is.len
                      obtain ⟨_, c2, h4, h5, h6⟩ := (HV.out.1).is.len
                      unfold maxLen at h3 h6
                      exact ⟨by omega, by omega⟩
                    obtain ⟨hnl1, hnl2⟩ := hnl
                    clear hrows hfr hfb hfi hW27 hB18 hg27 hr27
                    go_upto_region 28 with fail
                    rw [HW27.out, HB18.out]
                    clear HW27 c0 c1
                    go_wp2
                    go_loopw [19, 20] (fun u v wr => ∃ (k : Nat) (fine : Bool), u = .bool fine ∧ v = .int .i64 k ∧ k ≤ next.length ∧ (fine = true ↔ ∃ g ∈ next.take k, g.name = f.name ∧ g.data.take (min g.data.length f.data.length) = f.data) ∧ Gr W27 wr) (fun _ v _ => next.length - (intOf v).toNat)
                    case atStart => exact ⟨0, false, rfl, rfl, Nat.zero_le _, by simp, Gr.refl _⟩
                    case round =>
                      obtain ⟨k, fine, rfl, rfl, hk, hfine, hg⟩ := hrel
                      have HGK := Lib.hid hg
                      have HFI := Lib.hid hfine
                      clear hg hfine
                      by_cases hltk : k < next.length
                      · obtain ⟨g, hgk⟩ : ∃ g, next[k]? = some g := ⟨_, List.getElem?_eq_getElem hltk⟩
                        obtain ⟨gb, go, gc', hgv, _, _, _, hrows⟩ := (HV.out.2.1).is.some (by omega)
                        simp only [Value.slice.injEq] at hgv
                        obtain ⟨rfl, -, rfl⟩ := hgv
                        obtain ⟨gbv, hgr, hgb⟩ := hrows k g hgk
                        obtain ⟨ga, gc, rfl, hgc, hgm⟩ := IsBy.len hgb
                        unfold maxLen at hgm
                        have hgW : ∀ X, Gr W27 X → Gr W20 X := fun X hX => H27.out.2.2.trans hX
                        obtain ⟨m, hm⟩ : ∃ m : Nat, m = min g.data.length f.data.length := ⟨_, rfl⟩
                        have HK32 := Lib.hid (show ∀ X, Gr W27 X → (Gr W27 X ∧ X.cell? ⟨gb, go + k * 2, none⟩ = some (strV g.name) ∧ X.cell? ⟨gb, go + k * 2 + 1, none⟩ = some (.slice ga g.data.length gc) ∧ X.cell? ⟨B18, 0, none⟩ = some (strV f.name) ∧ X.cell? ⟨B18, 1, none⟩ = some (.slice fba f.data.length fbc) ∧ (convert 30 9 (.slice ga m gc)).run Try.prog X = .ok (strV (g.data.take m)) X ∧ (convert 30 9 (.slice fba f.data.length fbc)).run Try.prog X = .ok (strV f.data) X) from fun X hX => ⟨hX, later_cell (hgW X hX) (hgr 0 _ rfl), later_cell (hgW X hX) (hgr 1 _ rfl), cell_block (hX.same H27.out.1) rfl, cell_block (hX.same H27.out.1) rfl, conv_by (by_take (IsBy.gr (hgW X hX) hgb) (show m ≤ g.data.length by omega)), conv_by (IsBy.gr (H27.out.2.1.trans hX) HFB.out)⟩)
                        have hmn : min (g.data.length : Int) (f.data.length : Int) = (m : Int) := by omega
                        have hgc' : g.data.length ≤ gc := hgc
                        have hmc : m ≤ gc := by omega
                        have hmc2 : (m : Int) ≤ (gc : Int) := by omega
                        have hm0 : (0 : Int) ≤ (m : Int) := by omega
                        have hk0 : (0 : Int) ≤ (k : Int) := by omega
                        have hk1 : (k : Int) < (next.length : Int) := by omega
                        have HNS := Lib.hid (show (∃ h ∈ next.take (k + 1), h.name = f.name ∧ h.data.take (min h.data.length f.data.length) = f.data) ↔ (∃ h ∈ next.take k, h.name = f.name ∧ h.data.take (min h.data.length f.data.length) = f.data) ∨ (g.name = f.name ∧ g.data.take m = f.data) from by
                          rw [take_step hgk, hm]
                          constructor
                          · rintro ⟨h, hh, h1⟩
                            rcases List.mem_append.1 hh with hh | hh
                            · exact .inl ⟨h, hh, h1⟩
                            · rw [List.mem_singleton.1 hh] at h1; exact .inr h1
                          · rintro (⟨h, hh, h1⟩ | h1)
                            · exact ⟨h, List.mem_append_left _ hh, h1⟩
                            · exact ⟨g, List.mem_append_right _ (List.mem_singleton.2 rfl), h1⟩)
                        clear hrows hgr hgb hgk hgW hm
                        go_wp2_with fail
                        refine wp_region_qw (fun X => Gr W27 X ∧ X.cell? ⟨gb, go + k * 2, none⟩ = some (strV g.name) ∧ X.cell? ⟨gb, go + k * 2 + 1, none⟩ = some (.slice ga g.data.length gc) ∧ X.cell? ⟨B18, 0, none⟩ = some (strV f.name) ∧ X.cell? ⟨B18, 1, none⟩ = some (.slice fba f.data.length fbc) ∧ (convert 30 9 (.slice ga m gc)).run Try.prog X = .ok (strV (g.data.take m)) X ∧ (convert 30 9 (.slice fba f.data.length fbc)).run Try.prog X = .ok (strV f.data) X) (by kernel_rfl) (by kernel_rfl) (HK32.out _ (HGK.out.drew)) ?_
                        iterate 11
                          refine qw_takeE (by kernel_rfl) ?_
                          apply Exists.intro
                          refine ⟨?_, ?_⟩
                          · rintro X ⟨hg, e0, e1, e2, e3, e4, e5⟩
                            first
                            | (go_simp; done)
                            | (go_simp; with_reducible rfl)
                          simp only [Act.put, List.setIfInBounds_toArray, List.set_cons_zero, List.set_cons_succ]
                        refine qw_nil ?_
                        rintro X ⟨hg, -⟩
                        have HGX := Lib.hid hg
                        clear hg
                        cases fine with
                        | true =>
                          as_aux_lemma =>
                          have HN := Lib.hid (HNS.out.2 (.inl (HFI.out.1 rfl)))
                          go_wp2_with fail
                          refine wp_region_qw (fun X => Gr W27 X ∧ X.cell? ⟨gb, go + k * 2, none⟩ = some (strV g.name) ∧ X.cell? ⟨gb, go + k * 2 + 1, none⟩ = some (.slice ga g.data.length gc) ∧ X.cell? ⟨B18, 0, none⟩ = some (strV f.name) ∧ X.cell? ⟨B18, 1, none⟩ = some (.slice fba f.data.length fbc) ∧ (convert 30 9 (.slice ga m gc)).run Try.prog X = .ok (strV (g.data.take m)) X ∧ (convert 30 9 (.slice fba f.data.length fbc)).run Try.prog X = .ok (strV f.data) X) (by kernel_rfl) (by kernel_rfl) (HK32.out _ (HGX.out.drew)) ?_
                          iterate 2
                            refine qw_takeE (by kernel_rfl) ?_
                            apply Exists.intro
                            refine ⟨?_, ?_⟩
                            · rintro X ⟨hg, e0, e1, e2, e3, e4, e5⟩
                              first
                              | (go_simp; done)
                              | (go_simp; with_reducible rfl)
                            simp only [Act.put, List.setIfInBounds_toArray, List.set_cons_zero, List.set_cons_succ]
                          iterate 22
                            refine qw_skip (by kernel_rfl) ?_
                            simp only [Act.put, List.setIfInBounds_toArray, List.set_cons_zero, List.set_cons_succ]
                          iterate 2
                            refine qw_takeE (by kernel_rfl) ?_
                            apply Exists.intro
                            refine ⟨?_, ?_⟩
                            · rintro X ⟨hg, e0, e1, e2, e3, e4, e5⟩
                              first
                              | (go_simp; done)
                              | (go_simp; with_reducible rfl)
                            simp only [Act.put, List.setIfInBounds_toArray, List.set_cons_zero, List.set_cons_succ]
                          refine qw_nil ?_
                          rintro X ⟨hg, -⟩
                          have HGY := Lib.hid hg
                          clear hg
                          go_wp2
                          exact ⟨⟨k + 1, true, rfl, by go_num, by omega, ⟨fun _ => HN.out, fun _ => rfl⟩, HGY.out⟩, by simp [intOf]; omega⟩
                        | false =>
                          have hnot : ¬ ∃ h ∈ next.take k, h.name = f.name ∧ h.data.take (min h.data.length f.data.length) = f.data := fun h => by have := HFI.out.2 h; cases this
                          by_cases hname : g.name = f.name
                          · as_aux_lemma =>
                            have hb1 : eqB g.name f.name = true := eqB_iff.2 hname
                            have hb2 : ∃ r, eqB (g.data.take m) f.data = r := ⟨_, rfl⟩
                            obtain ⟨r, hb2⟩ := hb2
                            have HN := Lib.hid (show (r = true) ↔ ∃ h ∈ next.take (k + 1), h.name = f.name ∧ h.data.take (min h.data.length f.data.length) = f.data from by
                              rw [HNS.out, ← hb2, eqB_iff]
                              exact ⟨fun h => .inr ⟨hname, h⟩, fun h => h.elim (fun h => absurd h hnot) fun h => h.2⟩)
                            clear hname hnot
                            go_wp2_with fail
                            refine wp_region_qw (fun X => Gr W27 X ∧ X.cell? ⟨gb, go + k * 2, none⟩ = some (strV g.name) ∧ X.cell? ⟨gb, go + k * 2 + 1, none⟩ = some (.slice ga g.data.length gc) ∧ X.cell? ⟨B18, 0, none⟩ = some (strV f.name) ∧ X.cell? ⟨B18, 1, none⟩ = some (.slice fba f.data.length fbc) ∧ (convert 30 9 (.slice ga m gc)).run Try.prog X = .ok (strV (g.data.take m)) X ∧ (convert 30 9 (.slice fba f.data.length fbc)).run Try.prog X = .ok (strV f.data) X) (by kernel_rfl) (by kernel_rfl) (HK32.out _ (HGX.out.drew)) ?_
                            iterate 26
                              refine qw_takeE (by kernel_rfl) ?_
                              apply Exists.intro
                              refine ⟨?_, ?_⟩
                              · rintro X ⟨hg, e0, e1, e2, e3, e4, e5⟩
                                first
                                | (go_simp; done)
                                | (go_simp; with_reducible rfl)
                              simp only [Act.put, List.setIfInBounds_toArray, List.set_cons_zero, List.set_cons_succ]
                            refine qw_nil ?_
                            rintro X ⟨hg, -⟩
                            have HGY := Lib.hid hg
                            clear hg
                            go_wp2
                            exact ⟨⟨k + 1, r, rfl, by go_num, by omega, HN.out, HGY.out⟩, by simp [intOf]; omega⟩
                          · as_aux_lemma =>
                            have hb1 : eqB g.name f.name = false := Bool.eq_false_iff.2 fun h => hname (eqB_iff.1 h)
                            have HN := Lib.hid (show (false = true) ↔ ∃ h ∈ next.take (k + 1), h.name = f.name ∧ h.data.take (min h.data.length f.data.length) = f.data from by
                              rw [HNS.out]
                              exact ⟨fun h => absurd h (by decide), fun h => h.elim (fun h => absurd h hnot) fun h => absurd h.1 hname⟩)
                            clear hname hnot
                            go_wp2_with fail
                            refine wp_region_qw (fun X => Gr W27 X ∧ X.cell? ⟨gb, go + k * 2, none⟩ = some (strV g.name) ∧ X.cell? ⟨gb, go + k * 2 + 1, none⟩ = some (.slice ga g.data.length gc) ∧ X.cell? ⟨B18, 0, none⟩ = some (strV f.name) ∧ X.cell? ⟨B18, 1, none⟩ = some (.slice fba f.data.length fbc) ∧ (convert 30 9 (.slice ga m gc)).run Try.prog X = .ok (strV (g.data.take m)) X ∧ (convert 30 9 (.slice fba f.data.length fbc)).run Try.prog X = .ok (strV f.data) X) (by kernel_rfl) (by kernel_rfl) (HK32.out _ (HGX.out.drew)) ?_
                            iterate 11
                              refine qw_takeE (by kernel_rfl) ?_
                              apply Exists.intro
                              refine ⟨?_, ?_⟩
                              · rintro X ⟨hg, e0, e1, e2, e3, e4, e5⟩
                                first
                                | (go_simp; done)
                                | (go_simp; with_reducible rfl)
                              simp only [Act.put, List.setIfInBounds_toArray, List.set_cons_zero, List.set_cons_succ]
                            iterate 12
                              refine qw_skip (by kernel_rfl) ?_
                              simp only [Act.put, List.setIfInBounds_toArray, List.set_cons_zero, List.set_cons_succ]
                            iterate 3
                              refine qw_takeE (by kernel_rfl) ?_
                              apply Exists.intro
                              refine ⟨?_, ?_⟩
                              · rintro X ⟨hg, e0, e1, e2, e3, e4, e5⟩
                                first
                                | (go_simp; done)
                                | (go_simp; with_reducible rfl)
                              simp only [Act.put, List.setIfInBounds_toArray, List.set_cons_zero, List.set_cons_succ]
                            refine qw_nil ?_
                            rintro X ⟨hg, -⟩
                            have HGY := Lib.hid hg
                            clear hg
                            go_wp2
                            exact ⟨⟨k + 1, false, rfl, by go_num, by omega, HN.out, HGY.out⟩, by simp [intOf]; omega⟩
                      · have HFA := Lib.hid (show fine = true ↔ ∃ g ∈ next, g.name = f.name ∧ g.data.take (min g.data.length f.data.length) = f.data from by have h := HFI.out; rwa [List.take_of_length_le (by omega)] at h)
                        obtain ⟨fineA, hfA⟩ : ∃ fineA, fineA = fine := ⟨_, rfl⟩
                        subst hfA
                        go_wp2
                        go_loopw [19, 22] (fun u v wr => ∃ (k : Nat) (fine : Bool), u = .bool fine ∧ v = .int .i64 k ∧ k ≤ cur.length ∧ (fine = true ↔ fineA = true ∨ ∃ g ∈ cur.take k, g.name = f.name ∧ g.data = f.data) ∧ Gr W27 wr) (fun _ v _ => cur.length - (intOf v).toNat)
                        case atStart => exact ⟨0, fineA, rfl, rfl, Nat.zero_le _, by simp, HGK.out⟩
                        case round =>
                          obtain ⟨k, fine, rfl, rfl, hk, hfine, hg⟩ := hrel
                          have HGK := Lib.hid hg
                          have HFI := Lib.hid hfine
                          have cK := later_cell (H27.out.2.2.trans hg) HVC.out.1
                          clear hg hfine
                          by_cases hltk : k < cur.length
                          · as_aux_lemma =>
                            obtain ⟨g, hgk⟩ : ∃ g, cur[k]? = some g := ⟨_, List.getElem?_eq_getElem hltk⟩
                            obtain ⟨ub, uo, uc', huv, _, _, _, hrows⟩ := (HV.out.1).is.some (by omega)
                            simp only [Value.slice.injEq] at huv
                            obtain ⟨rfl, -, rfl⟩ := huv
                            obtain ⟨gbv, hgr, hgb⟩ := hrows k g hgk
                            obtain ⟨ga, gc, rfl, hgc, hgm⟩ := IsBy.len hgb
                            have hgW : ∀ X, Gr W27 X → Gr W20 X := fun X hX => H27.out.2.2.trans hX
                            have HK37 := Lib.hid (show ∀ X, Gr W27 X → (Gr W27 X ∧ X.cell? ⟨wb, K, none⟩ = some (.slice (some ⟨ub, uo, none⟩) cur.length uc) ∧ X.cell? ⟨ub, uo + k * 2, none⟩ = some (strV g.name) ∧ X.cell? ⟨ub, uo + k * 2 + 1, none⟩ = some (.slice ga g.data.length gc) ∧ X.cell? ⟨B18, 0, none⟩ = some (strV f.name) ∧ X.cell? ⟨B18, 1, none⟩ = some (.slice fba f.data.length fbc) ∧ (convert 30 9 (.slice ga g.data.length gc)).run Try.prog X = .ok (strV g.data) X ∧ (convert 30 9 (.slice fba f.data.length fbc)).run Try.prog X = .ok (strV f.data) X) from fun X hX => ⟨hX, later_cell (hgW X hX) HVC.out.1, later_cell (hgW X hX) (hgr 0 _ rfl), later_cell (hgW X hX) (hgr 1 _ rfl), cell_block (hX.same H27.out.1) rfl, cell_block (hX.same H27.out.1) rfl, conv_by (IsBy.gr (hgW X hX) hgb), conv_by (IsBy.gr (H27.out.2.1.trans hX) HFB.out)⟩)
                            have hk0 : (0 : Int) ≤ (k : Int) := by omega
                            have hk1 : (k : Int) < (cur.length : Int) := by omega
                            have HNS := Lib.hid (show (fineA = true ∨ ∃ h ∈ cur.take (k + 1), h.name = f.name ∧ h.data = f.data) ↔ (fineA = true ∨ ∃ h ∈ cur.take k, h.name = f.name ∧ h.data = f.data) ∨ (g.name = f.name ∧ g.data = f.data) from by
                              rw [take_step hgk]
                              constructor
                              · rintro (h0 | ⟨h, hh, h1⟩)
                                · exact .inl (.inl h0)
                                · rcases List.mem_append.1 hh with hh | hh
                                  · exact .inl (.inr ⟨h, hh, h1⟩)
                                  · rw [List.mem_singleton.1 hh] at h1; exact .inr h1
                              · rintro ((h0 | ⟨h, hh, h1⟩) | h1)
                                · exact .inl h0
                                · exact .inr ⟨h, List.mem_append_left _ hh, h1⟩
                                · exact .inr ⟨g, List.mem_append_right _ (List.mem_singleton.2 rfl), h1⟩)
                            clear hrows hgr hgb hgk hgW hgm
                            cases fine with
                            | true =>
                              as_aux_lemma =>
                              have HN := Lib.hid (HNS.out.2 (.inl (HFI.out.1 rfl)))
                              go_wp2_with fail
                              refine wp_region_qw (fun X => Gr W27 X ∧ X.cell? ⟨wb, K, none⟩ = some (.slice (some ⟨ub, uo, none⟩) cur.length uc) ∧ X.cell? ⟨ub, uo + k * 2, none⟩ = some (strV g.name) ∧ X.cell? ⟨ub, uo + k * 2 + 1, none⟩ = some (.slice ga g.data.length gc) ∧ X.cell? ⟨B18, 0, none⟩ = some (strV f.name) ∧ X.cell? ⟨B18, 1, none⟩ = some (.slice fba f.data.length fbc) ∧ (convert 30 9 (.slice ga g.data.length gc)).run Try.prog X = .ok (strV g.data) X ∧ (convert 30 9 (.slice fba f.data.length fbc)).run Try.prog X = .ok (strV f.data) X) (by kernel_rfl) (by kernel_rfl) (HK37.out _ (HGK.out.drew)) ?_
                              iterate 2
                                refine qw_takeE (by kernel_rfl) ?_
                                apply Exists.intro
                                refine ⟨?_, ?_⟩
                                · rintro X ⟨hg, e0, e1, e2, e3, e4, e5, e6⟩
                                  first
                                  | (go_simp; done)
                                  | (go_simp; with_reducible rfl)
                                simp only [Act.put, List.setIfInBounds_toArray, List.set_cons_zero, List.set_cons_succ]
                              iterate 26
                                refine qw_skip (by kernel_rfl) ?_
                                simp only [Act.put, List.setIfInBounds_toArray, List.set_cons_zero, List.set_cons_succ]
                              iterate 2
                                refine qw_takeE (by kernel_rfl) ?_
                                apply Exists.intro
                                refine ⟨?_, ?_⟩
                                · rintro X ⟨hg, e0, e1, e2, e3, e4, e5, e6⟩
                                  first
                                  | (go_simp; done)
                                  | (go_simp; with_reducible rfl)
                                simp only [Act.put, List.setIfInBounds_toArray, List.set_cons_zero, List.set_cons_succ]
                              refine qw_nil ?_
                              rintro X ⟨hg, -⟩
                              have HGY := Lib.hid hg
                              clear hg
                              go_wp2
                              exact ⟨⟨k + 1, true, rfl, by go_num, by omega, ⟨fun _ => HN.out, fun _ => rfl⟩, HGY.out⟩, by simp [intOf]; omega⟩
                            | false =>
                              have hnot : ¬ (fineA = true ∨ ∃ h ∈ cur.take k, h.name = f.name ∧ h.data = f.data) := fun h => by have := HFI.out.2 h; cases this
                              by_cases hname : g.name = f.name
                              · as_aux_lemma =>
                                have hb1 : eqB g.name f.name = true := eqB_iff.2 hname
                                have hb2 : ∃ r, eqB g.data f.data = r := ⟨_, rfl⟩
                                obtain ⟨r, hb2⟩ := hb2
                                have HN := Lib.hid (show (r = true) ↔ (fineA = true ∨ ∃ h ∈ cur.take (k + 1), h.name = f.name ∧ h.data = f.data) from by
                                  rw [HNS.out, ← hb2, eqB_iff]
                                  exact ⟨fun h => .inr ⟨hname, h⟩, fun h => h.elim (fun h => absurd h hnot) fun h => h.2⟩)
                                clear hname hnot
                                go_wp2_with fail
                                refine wp_region_qw (fun X => Gr W27 X ∧ X.cell? ⟨wb, K, none⟩ = some (.slice (some ⟨ub, uo, none⟩) cur.length uc) ∧ X.cell? ⟨ub, uo + k * 2, none⟩ = some (strV g.name) ∧ X.cell? ⟨ub, uo + k * 2 + 1, none⟩ = some (.slice ga g.data.length gc) ∧ X.cell? ⟨B18, 0, none⟩ = some (strV f.name) ∧ X.cell? ⟨B18, 1, none⟩ = some (.slice fba f.data.length fbc) ∧ (convert 30 9 (.slice ga g.data.length gc)).run Try.prog X = .ok (strV g.data) X ∧ (convert 30 9 (.slice fba f.data.length fbc)).run Try.prog X = .ok (strV f.data) X) (by kernel_rfl) (by kernel_rfl) (HK37.out _ (HGK.out.drew)) ?_
                                iterate 30
                                  refine qw_takeE (by kernel_rfl) ?_
                                  apply Exists.intro
                                  refine ⟨?_, ?_⟩
                                  · rintro X ⟨hg, e0, e1, e2, e3, e4, e5, e6⟩
                                    first
                                    | (go_simp; done)
                                    | (go_simp; with_reducible rfl)
                                  simp only [Act.put, List.setIfInBounds_toArray, List.set_cons_zero, List.set_cons_succ]
                                refine qw_nil ?_
                                rintro X ⟨hg, -⟩
                                have HGY := Lib.hid hg
                                clear hg
                                go_wp2
                                exact ⟨⟨k + 1, r, rfl, by go_num, by omega, HN.out, HGY.out⟩, by simp [intOf]; omega⟩
                              · as_aux_lemma =>
                                have hb1 : eqB g.name f.name = false := Bool.eq_false_iff.2 fun h => hname (eqB_iff.1 h)
                                have HN := Lib.hid (show (false = true) ↔ (fineA = true ∨ ∃ h ∈ cur.take (k + 1), h.name = f.name ∧ h.data = f.data) from by
                                  rw [HNS.out]
                                  exact ⟨fun h => absurd h (by decide), fun h => h.elim (fun h => absurd h hnot) fun h => absurd h.1 hname⟩)
                                clear hname hnot
                                go_wp2_with fail
                                refine wp_region_qw (fun X => Gr W27 X ∧ X.cell? ⟨wb, K, none⟩ = some (.slice (some ⟨ub, uo, none⟩) cur.length uc) ∧ X.cell? ⟨ub, uo + k * 2, none⟩ = some (strV g.name) ∧ X.cell? ⟨ub, uo + k * 2 + 1, none⟩ = some (.slice ga g.data.length gc) ∧ X.cell? ⟨B18, 0, none⟩ = some (strV f.name) ∧ X.cell? ⟨B18, 1, none⟩ = some (.slice fba f.data.length fbc) ∧ (convert 30 9 (.slice ga g.data.length gc)).run Try.prog X = .ok (strV g.data) X ∧ (convert 30 9 (.slice fba f.data.length fbc)).run Try.prog X = .ok (strV f.data) X) (by kernel_rfl) (by kernel_rfl) (HK37.out _ (HGK.out.drew)) ?_
                                iterate 14
                                  refine qw_takeE (by kernel_rfl) ?_
                                  apply Exists.intro
                                  refine ⟨?_, ?_⟩
                                  · rintro X ⟨hg, e0, e1, e2, e3, e4, e5, e6⟩
                                    first
                                    | (go_simp; done)
                                    | (go_simp; with_reducible rfl)
                                  simp only [Act.put, List.setIfInBounds_toArray, List.set_cons_zero, List.set_cons_succ]
                                iterate 13
                                  refine qw_skip (by kernel_rfl) ?_
                                  simp only [Act.put, List.setIfInBounds_toArray, List.set_cons_zero, List.set_cons_succ]
                                iterate 3
                                  refine qw_takeE (by kernel_rfl) ?_
                                  apply Exists.intro
                                  refine ⟨?_, ?_⟩
                                  · rintro X ⟨hg, e0, e1, e2, e3, e4, e5, e6⟩
                                    first
                                    | (go_simp; done)
                                    | (go_simp; with_reducible rfl)
                                  simp only [Act.put, List.setIfInBounds_toArray, List.set_cons_zero, List.set_cons_succ]
                                refine qw_nil ?_
                                rintro X ⟨hg, -⟩
                                have HGY := Lib.hid hg
                                clear hg
                                go_wp2
                                exact ⟨⟨k + 1, false, rfl, by go_num, by omega, HN.out, HGY.out⟩, by simp [intOf]; omega⟩
                          · have hft : fine = true := HFI.out.2 (by
                              rw [List.take_of_length_le (by omega)]
                              rcases HFM.out with h | ⟨g, hg, h1, h2, h3⟩
                              · exact .inr ⟨f, h, rfl, rfl⟩
                              · exact .inl (HFA.out.2 ⟨g, hg, h1, by rw [Nat.min_eq_right h3]; exact h2.symm⟩))
                            subst hft
                            go_wp2
                            exact ⟨⟨i + 1, by go_num, by omega, H27.out.2.2.trans HGK.out⟩, by simp [intOf]; omega⟩
                  · as_aux_lemma =>
                    have HZ := Lib.hid (show Gr wr wr from Gr.refl _)
                    have hil : ¬ (i : Int) < (P.length : Int) := by omega
                    clear HPC HPI HCPL HCP
                    obtain ⟨sx, hsx⟩ : ∃ sx, sx = syncD x := ⟨_, rfl⟩
                    have hws := was_sync HR.out.1.1
                    have hsc : sx.queue = [] ∧ sx.files = nowL x := by
                      rw [hsx]; unfold syncD; rw [if_pos hws.1]
                      exact ⟨(burn_parts _).2.1, (burn_parts _).1⟩
                    have hsb : cnt sx ≤ 1000000 ∧ tot sx ≤ 1000000000000 := by
                      have h1 := len_now x
                      have h2 := size_now x
                      have h3 := HXB.out
                      unfold usedN at h2
                      unfold cnt tot
                      rw [hsc.1, hsc.2]
                      simp only [List.length_nil, sizeQ, List.map_nil, List.sum_nil, Nat.add_zero]
                      omega
                    have HSX := Lib.hid (show sx.files = nowL x ∧ rightB sx = true ∧ crashL sx 0 0 = nowL x ∧ (cnt sx ≤ 1000000 ∧ tot sx ≤ 1000000000000) from ⟨hsc.2, by rw [hsx]; exact hws.2.2.1, by rw [hsx]; exact hws.2.2.2, hsb⟩)
                    have hgz : Gr wr0 wr := H20.out.2.2.2.trans HG25.out
                    have hr10 := hgz.same HR.out.2.1
                    have HSY := Lib.hid (show Calls Try.prog 14 #[.agg #[.slice xa x.files.length xc, .slice xd x.queue.length xe, .int .i64 x.quota, .int .i64 x.fuse, .bool x.dead]] wr fun e w' => ∃ (fa : Option Addr) (fc : Nat) (qa : Option Addr) (qc : Nat), e = .returned (.tuple #[.agg #[.slice fa sx.files.length fc, .slice qa sx.queue.length qc, .int .i64 sx.quota, .int .i64 sx.fuse, .bool sx.dead], .int .i64 0]) ∧ OwnDsk w.heap.size w' (dskV sx (.slice fa sx.files.length fc) (.slice qa sx.queue.length qc)) sx ∧ Gr wr w' from
                      (sync_any wr _ x (HR.out.2.2.1.gr hgz).is HXB.out.1 HXB.out.2).mono fun e w' ⟨v', h1, h2, h3⟩ => by
                        rw [← hsx, hws.1] at *
                        obtain ⟨fv, qv, h4, h5, h6, h7⟩ := h2
                        obtain ⟨fa, fc, rfl⟩ := h5.slice
                        obtain ⟨qa, qc, rfl⟩ := h6.slice
                        subst h4
                        exact ⟨fa, fc, qa, qc, h1, ⟨_, _, rfl, h5.down (HR.out.2.2.2.2.trans hgz).size, h6.down (HR.out.2.2.2.2.trans hgz).size, h7⟩, h3⟩)
                    have HGZ := Lib.hid hgz
                    have HR10 := Lib.hid hr10
                    clear hws hsc hsb hsx hgz
                    go_upto_region 40 with fail
                    go_cut [23, 24] from 236 to 240 (fun p e wx => ∃ (B23 : Nat) (sa : Option Addr) (sc : Nat) (sd : Option Addr) (se : Nat), p = .pointer (some ⟨B23, 0, none⟩) ∧ e = .int .i64 0 ∧ wx.heap[B23]? = some (.cells #[.slice sa sx.files.length sc, .slice sd sx.queue.length se, .int .i64 sx.quota, .int .i64 sx.fuse, .bool sx.dead] 25 (0, 0)) ∧ OwnDsk w.heap.size wx (dskV sx (.slice sa sx.files.length sc) (.slice sd sx.queue.length se)) sx ∧ Gr wr wx)
                    case first =>
                      have e0 := cell_block hr10 (j := 0) rfl
                      have e1 := cell_block hr10 (j := 1) rfl
                      have e2 := cell_block hr10 (j := 2) rfl
                      have e3 := cell_block hr10 (j := 3) rfl
                      have e4 := cell_block hr10 (j := 4) rfl
                      clear hr10
                      go_wp2_with fail
                      refine HSY.out.mono ?_
                      rintro e z1 ⟨sa, sc, sd, se, rfl, ho, hgz⟩
                      have HP := Lib.hid (And.intro ho hgz)
                      clear ho hgz e0 e1 e2 e3 e4
                      go_wp2
                      go_meet
                      case rel => exact ⟨_, sa, sc, sd, se, rfl, rfl, heap1_at _ _ _ rfl, OwnDsk.gr (Gr.alloc (Gr.refl _) _) HP.out.1, Gr.alloc HP.out.2 _⟩
                    case rest =>
                      obtain ⟨B23, sa, sc, sd, se, rfl, rfl, hr23, ho23, hg23⟩ := hcut
                      obtain ⟨W23, hW23⟩ : ∃ W23, W23 = wc := ⟨_, rfl⟩
                      subst hW23
                      have hgw : Gr w W23 := HR.out.2.2.2.2.trans (HGZ.out.trans hg23)
                      have hg20 : Gr W20 W23 := HG25.out.trans hg23
                      have hgr : Gr wr0 W23 := HGZ.out.trans hg23
                      have HK41 := Lib.hid (show ∀ X, Gr W23 X → (Gr W23 X ∧ (X.cell? ⟨B23, 0, none⟩ = some (.slice sa sx.files.length sc) ∧ X.cell? ⟨B23, 1, none⟩ = some (.slice sd sx.queue.length se) ∧ X.cell? ⟨B23, 2, none⟩ = some (.int .i64 sx.quota) ∧ X.cell? ⟨B23, 3, none⟩ = some (.int .i64 sx.fuse) ∧ X.cell? ⟨B23, 4, none⟩ = some (.bool sx.dead)) ∧ (X.cell? ⟨B10, 0, none⟩ = some (.slice xa x.files.length xc) ∧ X.cell? ⟨B10, 1, none⟩ = some (.slice xd x.queue.length xe) ∧ X.cell? ⟨B10, 2, none⟩ = some (.int .i64 x.quota) ∧ X.cell? ⟨B10, 3, none⟩ = some (.int .i64 x.fuse) ∧ X.cell? ⟨B10, 4, none⟩ = some (.bool x.dead)) ∧ X.cell? ⟨wb, x.queue.length, none⟩ = some (.slice la (nowL x).length lc)) from fun X hX =>
                        ⟨hX, ⟨cell_block (hX.same hr23) rfl, cell_block (hX.same hr23) rfl, cell_block (hX.same hr23) rfl, cell_block (hX.same hr23) rfl, cell_block (hX.same hr23) rfl⟩,
                         ⟨cell_block ((hgr.trans hX).same HR.out.2.1) rfl, cell_block ((hgr.trans hX).same HR.out.2.1) rfl, cell_block ((hgr.trans hX).same HR.out.2.1) rfl, cell_block ((hgr.trans hX).same HR.out.2.1) rfl, cell_block ((hgr.trans hX).same HR.out.2.1) rfl⟩, later_cell (hg20.trans hX) HVC.out.2.2⟩)
                      have HK410 := Lib.hid (HK41.out W23.drew (Gr.refl W23).drew)
                      have hnl0 : (nowL x).length ≤ 1000000 := Nat.le_trans (len_now x) HXB.out.1
                      have HCR2 := Lib.hid (show ∀ (X : World), Gr W23 X → Calls Try.prog 12 #[.agg #[.slice sa sx.files.length sc, .slice sd sx.queue.length se, .int .i64 sx.quota, .int .i64 sx.fuse, .bool sx.dead], .int .i64 0, .int .i64 0] X fun e w' => ∃ (ka : Option Addr) (kc : Nat) (ke : Option Addr) (kf : Nat),
                          e = .returned (.agg #[.slice ka (nowL x).length kc, .slice ke 0 kf, .int .i64 sx.quota, .int .i64 0, .bool false]) ∧ OwnFls w.heap.size w' (.slice ka (nowL x).length kc) (nowL x) ∧ Gr X w' from
                        fun X hX => (crash_any X _ sx 0 0 (ho23.gr hX).is HSX.out.2.2.2.1 HSX.out.2.2.2.2).mono fun e w' ⟨v', h1, h2, h3⟩ => by
                          have hcd : crashD sx 0 0 = ⟨nowL x, [], sx.quota, 0, false⟩ := by unfold crashD; rw [if_pos HSX.out.2.1, HSX.out.2.2.1]
                          rw [hcd] at h2
                          obtain ⟨fv, qv, h4, h5, h6, h7⟩ := h2
                          obtain ⟨ka, kc, rfl⟩ := h5.slice
                          obtain ⟨ke, kf, rfl⟩ := h6.slice
                          subst h4
                          exact ⟨ka, kc, ke, kf, h1, h5.down (hgw.trans hX).size, h3⟩)
                      have HF1 := Lib.hid (show ∀ (X : World) (u v : Value) (a : List Fl), OwnFls w.heap.size X u a → OwnFls w.heap.size X v (nowL x) → a = nowL x → Calls Try.prog 13 #[u, v] X fun e w' => e = .returned (.bool true) ∧ Gr X w' from
                        fun X u v a h1 h2 h3 => (files_any X u v a (nowL x) h1.is h2.is (by rw [h3]; omega)).mono fun e w' ⟨h4, h5⟩ => ⟨by rw [h4, decide_eq_true h3], h5⟩)
                      have HN41 := Lib.hid (show ∀ X, Gr W23 X → Calls Try.prog 9 #[.agg #[.slice xa x.files.length xc, .slice xd x.queue.length xe, .int .i64 x.quota, .int .i64 x.fuse, .bool x.dead]] X fun e w' => ∃ ma mc, e = .returned (.slice ma (nowL x).length mc) ∧ OwnFls w.heap.size w' (.slice ma (nowL x).length mc) (nowL x) ∧ Gr X w' from
                        fun X hX => HNOW.out X _ x (hgw.trans hX) (HR.out.2.2.1.gr (hgr.trans hX)) HXB.out)
                      have HL41 := Lib.hid (show ∀ X, Gr W23 X → OwnFls w.heap.size X (.slice la (nowL x).length lc) (nowL x) from fun X hX => OwnRow.gr (hg20.trans hX) HV.out.2.2)
                      have HS41 := Lib.hid (show ∀ X, Gr W23 X → OwnFls w.heap.size X (.slice sa sx.files.length sc) sx.files from fun X hX => by
                        obtain ⟨fv, qv, h1, h2, _, _⟩ := ho23.gr hX
                        simp only [dskV, Value.agg.injEq, Array.mk.injEq, List.cons.injEq] at h1
                        obtain ⟨rfl, -⟩ := h1
                        exact h2)
                      have HGW := Lib.hid hgw
                      have hwn : IntKind.i64.wrap ((n : Int) - 1) = (x.queue.length : Int) := by have h := HQL.out; have h2 := HKN.out; rw [IntKind.wrap_i64]; omega
                      have hq0 : (0 : Int) ≤ (x.queue.length : Int) := by omega
                      have hq1 : (x.queue.length : Int) < (n : Int) := by have h := HQL.out; omega
                      clear hr23 ho23 hg23 hgw hg20 hgr hnl0 hr10
                      go_upto_region 41 with fail
                      go_region_held3 (fun X => Gr W23 X ∧ (X.cell? ⟨B23, 0, none⟩ = some (.slice sa sx.files.length sc) ∧ X.cell? ⟨B23, 1, none⟩ = some (.slice sd sx.queue.length se) ∧ X.cell? ⟨B23, 2, none⟩ = some (.int .i64 sx.quota) ∧ X.cell? ⟨B23, 3, none⟩ = some (.int .i64 sx.fuse) ∧ X.cell? ⟨B23, 4, none⟩ = some (.bool sx.dead)) ∧ (X.cell? ⟨B10, 0, none⟩ = some (.slice xa x.files.length xc) ∧ X.cell? ⟨B10, 1, none⟩ = some (.slice xd x.queue.length xe) ∧ X.cell? ⟨B10, 2, none⟩ = some (.int .i64 x.quota) ∧ X.cell? ⟨B10, 3, none⟩ = some (.int .i64 x.fuse) ∧ X.cell? ⟨B10, 4, none⟩ = some (.bool x.dead)) ∧ X.cell? ⟨wb, x.queue.length, none⟩ = some (.slice la (nowL x).length lc))
                        (first | (with_reducible exact HK410.out) | (with_reducible exact HK41.out _ (by assumption)))
                        (first
                          | (go_at_call 12; refine (HCR2.out _ (And.left (by assumption))).mono ?_
                             rintro e z1 ⟨ka, kc, ke, kf, rfl, hko, hgz1⟩
                             have hGZ1 : Gr W23 z1 := Gr.trans (And.left (by assumption)) hgz1
                             have HKO := Lib.hid hko
                             clear hko)
                          | (go_at_call 13; with_reducible refine (HF1.out _ _ _ _ HKO.out (HL41.out _ hGZ1) rfl).mono ?_
                             rintro e z2 ⟨rfl, hgz2⟩
                             have hGZ2 : Gr W23 z2 := Gr.trans hGZ1 hgz2)
                          | (go_at_call 9; refine (HN41.out _ hGZ2).mono ?_
                             rintro e z3 ⟨ma, mc, rfl, hmo, hgz3⟩
                             have hGZ3 : Gr W23 z3 := Gr.trans hGZ2 hgz3
                             have HMO := Lib.hid hmo
                             clear hmo)
                          | (go_at_call 13; with_reducible refine (HF1.out _ _ _ _ (HS41.out _ hGZ3) HMO.out HSX.out.1).mono ?_
                             rintro e z4 ⟨rfl, hgz4⟩
                             have hGZ4 : Gr W23 z4 := Gr.trans hGZ3 hgz4)
                          | (go_at_call 8; refine (HWA.out _).mono ?_
                             rintro e z5 ⟨rfl, hgz5⟩
                             have hGZ5 : Gr W23 z5 := Gr.trans hGZ4 hgz5))
                      all_goals
                        go_wp2
                        go_ret
                        exact ⟨rfl, HGW.out.trans hGZ5⟩
end Go.Proofs.Ytbgcjbpkgijmeaa
