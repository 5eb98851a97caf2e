/-
  Walks: the law of pushing and pulling.
-/
import Derived.Test.YtajghkjghiifjaaWz
namespace Go.Proofs.Ytajghkjghiifjaa
open Go Go.RowKit
attribute [local go_sem ↓] opLoad31_eq opStore31_eq opRow1_eq
attribute [local go_sem] Oper.semAt_some msgV opLoad31 opStore31 opRow1_msg rowAt_alloc_at rowAt_alloc_past rowAt_drew wholeAt_alloc_at wholeAt_alloc_past wholeAt_drew setRow_alloc_at setRow_alloc_past msg_0 msg_1 msg_2 msg_3 msg_9 msg_g0 msg_g1 msg_g2 msg_g3 msg_g9 msg_set9 msg_set3 msg_size msgCells_length msg_one_slice gr_alloc' gr_drew' gr_drewN' wholeAt_setCell rowAt_setCell cell_setRow frozen_setRow

set_option maxRecDepth 100000 in
set_option maxHeartbeats 2000000 in
theorem netOnce_law (w : World) (v pv : Value) (l : List Msg) (ps : List Int) (hl : InMsgs w v l) (hp : IsInts (· < w.heap.size) w pv ps) :
    Calls Try.prog 4 #[v, pv] w fun e w' => e = .returned (.bool true) ∧ Gr w w' := by
  obtain ⟨a, c, rfl, hc1, hc2⟩ := hl.len
  obtain ⟨pa, pc, rfl, hp1, hp2⟩ := hp.len
  by_cases hbig : 30 < l.length
  · have HW := Lib.hid (wakes_any w)
    clear hl hp
    go_enter Try.func4, Try.ntmps4
    go_wp2_with fail
    refine HW.out.mono ?_
    rintro e w2 ⟨rfl, hg2⟩
    go_wp2
    go_ret
    exact ⟨rfl, hg2⟩
  · have HGT := Lib.hid (great_any w _ (.slice a l.length c) (.int .i64 0) (.int .i64 0) l hl)
    have HL := Lib.hid hl
    have HP := Lib.hid hp
    obtain ⟨i0, hi0, hz0, hz1, hz2⟩ := info_parts Try.info31
    clear hl hp
    go_enter Try.func4, Try.ntmps4
    go_wp2_with fail
    refine HGT.out.mono ?_
    rintro e w1 ⟨r, rfl, hfit, hg1⟩
    cases r with
    | true =>
      have HW := Lib.hid (wakes_any w1)
      have HG := Lib.hid hg1
      clear hfit hg1
      go_wp2_with fail
      refine HW.out.mono ?_
      rintro e w2 ⟨rfl, hg2⟩
      go_wp2
      go_ret
      exact ⟨rfl, HG.out.trans hg2⟩
    | false =>
      have hf := hfit rfl
      have hL1 := HL.out.gr hg1
      have HPU : Hid (Calls Try.prog 8 #[.agg #[.slice none 0 0, .int .i64 0, .int .i64 0], .slice a l.length c] w1 (PushPost ⟨[], 0, 0⟩ l w1)) := Lib.hid (push_net w1 ⟨[], 0, 0⟩ (.slice none 0 0) _ l (nil_in w1) nil_small hL1 hf.small)
      have HG1 := Lib.hid hg1
      have HF := Lib.hid hf
      have HL1 := Lib.hid hL1
      clear hfit hg1 hf hL1 HGT
      go_wp2_with fail
      refine HPU.out.mono ?_
      rintro e w2 ⟨fv, rfl, hg2, ho2⟩
      obtain ⟨s0, hs0⟩ := once_push l (by omega)
      have hse := once_err l (by omega)
      rw [hs0] at ho2
      rw [hs0, hse]
      clear hs0 hse
      obtain ⟨fa, fc, rfl, _, _⟩ := ho2.is.len
      simp only [netV]
      obtain ⟨W3, hW3⟩ : ∃ W3, w2.alloc (.cells #[.slice fa l.length fc, .int .i64 s0, .int .i64 0] 26) = W3 := ⟨_, rfl⟩
      have g3 : Gr w2 W3 := by rw [← hW3]; exact Gr.alloc (Gr.refl _) _
      have hB3 : W3.heap[w2.heap.size]? = some (.cells #[.slice fa l.length fc, .int .i64 s0, .int .i64 0] 26 (0, 0)) := by rw [← hW3]; exact alloc1_heap _ _
      have ho3 := (OwnMsgs.base HG1.out.size ho2).gr g3
      have hL3 := HL1.out.gr (hg2.trans g3)
      have hall := all_any W3 _ _ (.slice fa l.length fc) (.slice a l.length c) l l ho3.is hL3 HF.out.small HF.out.small
      simp only [decide_true] at hall
      have HALL := Lib.hid hall
      have hszw : w.heap.size ≤ w2.heap.size := Nat.le_trans HG1.out.size hg2.size
      have HW3 := Lib.hid hW3
      have HG3 := Lib.hid (HG1.out.trans (hg2.trans g3))
      have HG12 := Lib.hid (HG1.out.trans hg2)
      have HG23 := Lib.hid g3
      have HB3 := Lib.hid hB3
      have HO3 := Lib.hid ho3
      have HL3 := Lib.hid hL3
      clear hg2 ho2 hW3 g3 hB3 ho3 hL3 hall HPU HL1
      go_wp2_with fail
      rw [HW3.out]
      refine HALL.out.mono ?_
      rintro e w4 ⟨rfl, hg4⟩
      have HG4 := Lib.hid hg4
      obtain ⟨evs, q1, q2, q3, q4, q5, q6, q7⟩ := HL.out.cells
      have hw4 : w.heap.size ≤ w4.heap.size := Nat.le_trans HG3.out.size hg4.size
      have hww4 : w2.heap.size ≤ w4.heap.size := Nat.le_trans HG23.out.size hg4.size
      have H5 := Lib.hid q5
      have H6 := Lib.hid q6
      have H1 := Lib.hid q1
      have H4 := Lib.hid q4
      have H7 := Lib.hid q7
      have hlm : l.length ≤ 30 := by omega
      clear hg4 q2 q5 q6 q7 HALL q1 q4
      go_wp2_with (at_builtin; go_loud (refine wpList_append_src rfl _ _ 24 rfl w.heap.size 31 i0 _ 15 136 Try.underlying24 hi0 hz0 hz1 hz2 rfl (by decide) _ 0 [] rfl ?hrow a l.length c (List.zipWith msgCells l evs).flatten rfl ?c0 q3 ?c1 ?c2 ?c3 ?c4 ?c5 ?_))
      case hrow => exact owns_empty 31 15 (by simp) (by omega)
      case c0 => exact H4.out
      case c1 => exact fun ad had j u hu => later_cell (Gr.alloc (HG3.out.trans HG4.out) _) (H5.out ad had j u hu)
      case c2 => exact H6.out
      case c3 => unfold maxLen; omega
      case c4 => omega
      case c5 => simp only [World.size_alloc]; omega
      intro a5 c5 w5 hown hgrow
      have hLE : LeftAt w w.heap.size w5 (.slice a5 l.length c5) l :=
        ⟨evs, H1.out, hown, fun i m ev hm he => IsEnts.gr ((HG3.out.trans HG4.out).trans (Below.grown (Gr.alloc (Gr.refl w4) _) hgrow (by simp) (by intro q hq; simp [Value.ownBlock] at hq; omega))) (H7.out i m ev hm he)⟩
      have hg5 : Gr w4 w5 := Below.grown (Gr.alloc (Gr.refl w4) _) hgrow (by simp) (by intro q hq; simp [Value.ownBlock] at hq; omega)
      have HLE := Lib.hid hLE
      have HG25 := Lib.hid (HG23.out.trans (HG4.out.trans hg5))
      have HHO := Lib.hid (show Home w2.heap.size w.heap.size ⟨l, s0, 0⟩ w5 from Home.gr (HG4.out.trans hg5) ⟨fa, fc, HB3.out, HO3.out⟩)
      have HGW2 := Lib.hid HG3.out
      have HGW := Lib.hid (HG3.out.trans (HG4.out.trans hg5))
      have hsz5 : w2.heap.size < w5.heap.size := Nat.lt_of_lt_of_le (Array.getElem?_eq_some_iff.1 HB3.out).1 (HG4.out.trans hg5).size
      clear hown hgrow hLE hg5 H1 H4 H5 H6 H7 HG4 HB3 HO3 HL3 HG23 HG3 HW3
      go_wp2_with fail
      go_loopw [7, 8] (fun lv iv wr => ∃ (i : Nat) (L : List Msg) (s : Int) (la : Option Addr) (lc : Nat), iv = .int .i64 i ∧ lv = .slice la L.length lc ∧ L.length + i = l.length ∧ Small L ∧ Home w2.heap.size w.heap.size ⟨L, s, 0⟩ wr ∧ LeftAt w w.heap.size wr (.slice la L.length lc) L ∧ Gr w2 wr) (fun _ iv _ => l.length - (intOf iv).toNat)
      case atStart => exact ⟨0, l, s0, a5, c5, rfl, rfl, rfl, HF.out.small, HHO.out, HLE.out, HG25.out⟩
      case round =>
        obtain ⟨i, L, s, la, lc, rfl, rfl, hLi, hsm, ⟨na, nc, hB, hown⟩, hleft, hgr⟩ := hrel
        clear HHO HLE HG25
        have b0 := cell_block hB (j := 0) rfl
        have b1 := cell_block hB (j := 1) rfl
        have b2 := cell_block hB (j := 2) rfl
        have hlB : w2.heap.size < wr.heap.size := (Array.getElem?_eq_some_iff.1 hB).1
        have hLL : L.length ≤ 30 := by omega
        have HB := Lib.hid hB
        have HOW := Lib.hid hown
        have HSM := Lib.hid hsm
        have HGR := Lib.hid hgr
        have HLE := Lib.hid hleft
        clear hB hown hsm hgr hleft
        by_cases hlt : i < l.length
        · have hL0 : L.length ≠ 0 := by omega
          obtain ⟨g, cap, evs, hv, hcl, hcm, hgb, hgs, hel, hcells, hrows, hone⟩ := HLE.out.row (by omega)
          simp only [Value.slice.injEq, true_and] at hv
          obtain ⟨rfl, rfl⟩ := hv
          have HCELLS := Lib.hid hcells
          have HROWS := Lib.hid hrows
          have HONE := Lib.hid hone
          have HEL := Lib.hid hel
          clear hcells hrows hone hel
          by_cases hpk : i < ps.length
          · obtain ⟨p, hpi⟩ : ∃ p, ps[i]? = some p := ⟨_, List.getElem?_eq_getElem hpk⟩
            obtain ⟨pb, po, pc', hpv, _, _, hpb, hps⟩ := HP.out.some (by omega)
            simp only [Value.slice.injEq, true_and] at hpv
            obtain ⟨rfl, rfl⟩ := hpv
            have hpc2 : wr.cell? ⟨pb, po + i, none⟩ = some (.int .i64 p) := later_cell (HG12.out.trans HGR.out) (hps i p hpi)
            clear hps hpi
            have HPL := Lib.hid (pull_net wr ⟨L, s, 0⟩ (.slice na L.length nc) (p) HOW.out.inn HSM.out)
            have hat := spot_eq hL0 (p)
            have hkl := spot_lt hL0 (p)
            have hwz : wrap64 ((p : Int).tmod L.length + L.length) = (p : Int).tmod L.length + L.length := by
              have h1 := Int.tmod_lt_of_pos (p) (show (0 : Int) < L.length by omega)
              have h2 := Int.lt_tmod_of_pos (p) (show (0 : Int) < L.length by omega)
              unfold wrap64; omega
            have hpn : pullNet ⟨L, s, 0⟩ (p) = ⟨L.eraseIdx (spot L.length (p)), s, 0⟩ := rfl
            have hpm : pullMsg ⟨L, s, 0⟩ (p) = L.getD (spot L.length (p)) Msg.zero := rfl
            have hpo : pullOk ⟨L, s, 0⟩ = true := by simp [pullOk, hL0]
            have HPN := Lib.hid hpn
            have HPM := Lib.hid hpm
            have HPO := Lib.hid hpo
            have hat' := hat.symm
            clear hpn hpm hpo hat
            generalize spot L.length (p) = k at *
            obtain ⟨m, hm⟩ : ∃ m, L[k]? = some m := ⟨_, List.getElem?_eq_getElem hkl⟩
            have hmd : L.getD k Msg.zero = m := by simp [List.getD, hm]
            have HM := Lib.hid hm
            have HMD := Lib.hid hmd
            clear hm hmd
            have HAT := Lib.hid hat'
            have HWZ := Lib.hid hwz
            clear hat' hwz
            go_wp2_with fail
            refine HPL.out.mono ?_
            rintro e w6 ⟨fv, ev6, rfl, hg6, ho6, hoe⟩
            rw [HPN.out] at ho6 ⊢
            rw [HPM.out, HMD.out] at hoe ⊢
            rw [HPO.out]
            clear HPN HPM HPO HMD
            obtain ⟨ea6, ec6, rfl⟩ := owns_slice hoe
            obtain ⟨fa6, fc6, rfl, _, _⟩ := ho6.is.len
            simp only [netV]
            have hRl : (L.eraseIdx k).length = L.length - 1 := by rw [List.length_eraseIdx, if_pos hkl]
            have HRS : Hid (Small (L.eraseIdx k)) := ⟨by have := HSM.out.1; omega, fun x hx => HSM.out.2 x ((List.eraseIdx_sublist L k).subset hx)⟩
            obtain ⟨R, hR⟩ : ∃ R, L.eraseIdx k = R := ⟨_, rfl⟩
            rw [hR] at ho6 hRl HRS ⊢
            have HRR := Lib.hid hR
            have HRL := Lib.hid hRl
            clear hR hRl
            obtain ⟨W6, hW6⟩ : ∃ W6, (w6.alloc (.cells #[.slice fa6 R.length fc6, .int .i64 s, .int .i64 0] 26)).alloc (.cells (msgCells m (.slice ea6 m.ents.length ec6)).toArray 31) = W6 := ⟨_, rfl⟩
            have g6 : Gr w6 W6 := by rw [← hW6]; exact Gr.alloc (Gr.alloc (Gr.refl _) _) _
            have hBA : W6.heap[w6.heap.size]? = some (.cells #[.slice fa6 R.length fc6, .int .i64 s, .int .i64 0] 26 (0, 0)) := by rw [← hW6]; exact alloc2_heap0 _ _ _
            have hBM : W6.heap[w6.heap.size + 1]? = some (.cells (msgCells m (.slice ea6 m.ents.length ec6)).toArray 31 (0, 0)) := by rw [← hW6]; exact alloc2_heap1 _ _ _
            obtain ⟨ev, hev⟩ : ∃ ev, evs[k]? = some ev := ⟨_, List.getElem?_eq_getElem (by rw [HEL.out]; exact hkl)⟩
            obtain ⟨rk, ek⟩ := HROWS.out k m ev HM.out hev
            obtain ⟨ea, ec, rfl, _, _⟩ := ek.len
            have rL := msg_row (hg6.trans g6) rk
            have rM : rowAt W6 (w6.heap.size + 1) 0 15 = some (msgCells m (.slice ea6 m.ents.length ec6)).toArray := rowAt_block hBM rfl
            have hmsz : m.ents.length ≤ 1000000 := HSM.out.2 m (List.mem_of_getElem? HM.out)
            have hal := alike20_any W6.drew _ _ m m (.slice ea6 m.ents.length ec6) (.slice ea m.ents.length ec) (hoe.is.gr (g6.trans (Gr.drew (Gr.refl _)))) ((ek.gr (hg6.trans g6)).gr (Gr.drew (Gr.refl _))) hmsz hmsz
            simp only [decide_true] at hal
            have HAL := Lib.hid hal
            have HW6 := Lib.hid hW6
            have HO6 := Lib.hid ((OwnMsgs.base (Nat.le_trans (Nat.le_of_lt (Nat.lt_of_le_of_lt hszw hlB)) (Nat.le_refl _)) ho6).gr g6)
            have HG6 := Lib.hid (HGR.out.trans (hg6.trans g6))
            have HR6 := Lib.hid (hg6.trans g6)
            have HBA := Lib.hid hBA
            have HBM := Lib.hid hBM
            have hat' := HAT.out
            have hwz := HWZ.out
            have hgs6 : g < W6.heap.size := Nat.lt_of_lt_of_le hgs (hg6.trans g6).size
            clear hg6 g6 ho6 hoe hBA hBM hev rk ek hmsz hal hW6 b0 b1 b2 HPL
            go_wp2_with fail
            rw [HW6.out]
            clear HW6 hat' hwz HAT HWZ
            go_still_tail 8, (by kernel_rfl)
            go_wp2_with (go_at_call 15; refine HAL.out.mono ?_; rintro e w7 ⟨rfl, hg7⟩)
            have h7 : Gr W6 w7 := (Gr.drew (Gr.refl _)).trans hg7
            have hw7 : Gr wr w7 := HR6.out.trans h7
            have hkc : k ≤ lc := by omega
            have hkc1 : k + 1 ≤ lc := by omega
            have hk0 : (0 : Int) ≤ (k : Int) + 1 := by omega
            have hkL : k + 1 ≤ L.length := by omega
            have hkLi : (k : Int) + 1 ≤ (L.length : Int) := by omega
            have hwk : IntKind.i64.wrap ((k : Int) + 1) = (k : Int) + 1 := by rw [IntKind.wrap_i64]; omega
            have htn : ((k : Int) + 1).toNat = k + 1 := by omega
            have hfl : (List.zipWith msgCells L evs).flatten.length = L.length * 15 := by rw [flatten_length _ (zip_len _ _)]; simp [HEL.out]
            obtain ⟨news1, hn1⟩ : ∃ x, x = (List.zipWith msgCells L evs).flatten.take (k * 15) := ⟨_, rfl⟩
            obtain ⟨news2, hn2⟩ : ∃ x, x = (List.zipWith msgCells L evs).flatten.drop ((k + 1) * 15) := ⟨_, rfl⟩
            have hl1 : news1.length = k * 15 := by rw [hn1, List.length_take, hfl]; omega
            have hl2 : news2.length = (L.length - (k + 1)) * 15 := by rw [hn2, List.length_drop, hfl]; omega
            obtain ⟨A, hA, hs2⟩ : ∃ A : Addr, (if lc = k + 1 then some (⟨g, 0, none⟩ : Addr) else some ⟨g, (k + 1) * 15, none⟩) = some A ∧ Hid (∀ X, Gr w7 X → ∀ ad, some A = some ad → ∀ t u, news2[t]? = some u → X.cell? (ad.add t) = some u) := by
              by_cases h : lc = k + 1
              · refine ⟨⟨g, 0, none⟩, by simp [h], fun X _ ad _ t u hu => ?_⟩
                have h0 : news2.length = 0 := by rw [hl2]; omega
                rw [List.length_eq_zero_iff.1 h0] at hu
                simp at hu
              · refine ⟨⟨g, (k + 1) * 15, none⟩, by simp [h], fun X hX ad had t u hu => ?_⟩
                cases had
                rw [Addr.add_mid]
                refine later_cell (hw7.trans hX) (HCELLS.out _ _ ?_)
                rw [hn2, List.getElem?_drop] at hu
                exact hu
            have HS1 : Hid (∀ ad, some (⟨g, 0, none⟩ : Addr) = some ad → ∀ t u, news1[t]? = some u → ((w7.alloc (.cells #[] 31)).drew).cell? (ad.add t) = some u) := by
              refine Lib.hid fun ad had t u hu => ?_
              cases had
              rw [Addr.add_mid, Nat.zero_add]
              refine later_cell (hw7.trans (Gr.drew (Gr.alloc (Gr.refl _) _))) (HCELLS.out _ _ ?_)
              rw [hn1] at hu
              have htl : t < k * 15 := by have := (List.getElem?_eq_some_iff.1 hu).1; rw [List.length_take] at this; omega
              rwa [List.getElem?_take_of_lt htl] at hu
            have HO1' : Hid (∀ u ∈ news1, u.oneCell' = true) := Lib.hid fun u hu => HONE.out u (List.mem_of_mem_take (by rw [← hn1]; exact hu))
            have HO2' : Hid (∀ u ∈ news2, u.oneCell' = true) := Lib.hid fun u hu => HONE.out u (List.mem_of_mem_drop (by rw [← hn2]; exact hu))
            have HOE : Hid (((w7.alloc (.cells #[] 31)).drew).ownsRow w7.heap.size 31 15 (.slice (some ⟨w7.heap.size, 0, none⟩) 0 0) 0 []) := Lib.hid (ownsRow_dat (Gr.kp (Gr.drew (Gr.refl _)) _) (owns_empty 31 15 rfl (Nat.le_refl _)))
            have hb1 : 0 + k ≤ maxLen := by unfold maxLen; omega
            have hb2 : (0 + k) * 136 ≤ 140737488355328 := by omega
            have hb3 : k + (L.length - (k + 1)) ≤ maxLen := by unfold maxLen; omega
            have hb4 : (k + (L.length - (k + 1))) * 136 ≤ 140737488355328 := by omega
            have hb5 : w7.heap.size ≤ ((w7.alloc (.cells #[] 31)).drew).heap.size := by show w7.heap.size ≤ (w7.alloc (.cells #[] 31)).heap.size; simp
            have hrl : k + (L.length - (k + 1)) = R.length := by rw [HRL.out]; omega
            have HLER : Hid (∀ a9 c9 w9, w9.ownsRow w7.heap.size 31 15 (.slice a9 (k + (L.length - (k + 1))) c9) (k + (L.length - (k + 1))) (news1 ++ news2) → Gr w7 w9 → LeftAt w w.heap.size w9 (.slice a9 R.length c9) R) := by
              refine Lib.hid fun a9 c9 w9 ho hg => ?_
              rw [hrl] at ho
              have hwb : w.heap.size ≤ w7.heap.size := by have := hw7.size; omega
              have := left_erase (w := w) (base := w.heap.size) HEL.out hkl HRL.out (ownsRow_base hwb (by rw [hn1, hn2] at ho; exact ho)) (fun i m ev hm he => IsEnts.gr (hw7.trans hg) (HROWS.out i m ev hm he).2)
              rwa [HRR.out] at this
            have HGW8 : Hid (∀ w8, ((w7.alloc (.cells #[] 31)).drew).grownBy w8 (Value.ownBlock (.slice (some ⟨w7.heap.size, 0, none⟩) 0 0)) → Gr w7 w8) :=
              Lib.hid fun w8 hgr => Below.grown (Gr.drew (Gr.alloc (Gr.refl _) _)) hgr hb5 (by intro q hq; simp [Value.ownBlock] at hq; omega)
            have HL1' := Lib.hid hl1
            have HL2' := Lib.hid hl2
            have HB1' := Lib.hid hb1
            have HB2' := Lib.hid hb2
            have HB3' := Lib.hid hb3
            have HB4' := Lib.hid hb4
            have HB5' := Lib.hid hb5
            have HRL' := Lib.hid hrl
            have HW7 := Lib.hid hw7
            have H76 := Lib.hid h7
            clear hl1 hl2 hb1 hb2 hb3 hb4 hb5 hrl hn1 hn2 hfl hw7 h7 hg7 HCELLS HROWS HONE HEL rL rM HAL
            go_region_law (first
              | (refine step_append_src rfl (.tmp 87) (.tmp 90) 24 rfl w7.heap.size 31 i0 _ 15 136 Try.underlying24 hi0 hz0 hz1 hz2 rfl (by decide) (.slice (some ⟨w7.heap.size, 0, none⟩) 0 0) 0 [] (by simp [Act.eval]) HOE.out (some ⟨g, 0, none⟩) k lc news1 (by simp [Act.eval]) HL1'.out (by intro h; cases h) HS1.out HO1'.out HB1'.out HB2'.out HB5'.out ?_; intro a8 c8 w8 hown8 hgrow8; have hg8 := Lib.hid (HGW8.out w8 hgrow8); have ho8 := Lib.hid hown8; clear hown8 hgrow8; simp only [Nat.zero_add, List.nil_append] at ho8 ⊢)
              | (refine step_append_src rfl (.tmp 91) (.tmp 95) 24 rfl w7.heap.size 31 i0 _ 15 136 Try.underlying24 hi0 hz0 hz1 hz2 rfl (by decide) (.slice a8 k c8) k news1 (by simp [Act.eval]) ho8.out (some A) (L.length - (k + 1)) (lc - (k + 1)) news2 (by simp [Act.eval]) HL2'.out (by intro h; cases h) (hs2.out _ hg8.out) HO2'.out HB3'.out HB4'.out hg8.out.size ?_; intro a9 c9 w9 hown9 hgrow9; have hg9 := Lib.hid (Below.grown hg8.out hgrow9 hg8.out.size fun q hq => (owns_elem ho8.out hq).1); have hl9 := Lib.hid (HLER.out a9 c9 w9 hown9 hg9.out); rw [HRL'.out]; clear hown9 hgrow9 ho8 hg8))
            have h69 : Gr W6 w9 := H76.out.trans hg9.out
            have hr9 : Gr wr w9 := HW7.out.trans hg9.out
            have hBA9 := h69.same HBA.out
            have c10 := cell_block hBA9 (j := 0) rfl
            have hls9 : w6.heap.size < w9.heap.size := (Array.getElem?_eq_some_iff.1 hBA9).1
            have hw9 : w.heap.size ≤ w9.heap.size := by have := hr9.size; omega
            have hall9 := all_any w9 _ _ (.slice fa6 R.length fc6) (.slice a9 R.length c9) R R (HO6.out.gr h69).is (hl9.out.inn hw9) HRS.out HRS.out
            simp only [decide_true] at hall9
            have HALL9 := Lib.hid hall9
            have HBA9 := Lib.hid hBA9
            have H69 := Lib.hid h69
            have HR9 := Lib.hid hr9
            clear hall9 hBA9 h69 hr9 hg9 HBA H76 HW7 HLER HGW8 HOE HS1 hs2 hA hwk htn hkLi
            go_wp2_with fail
            refine HALL9.out.mono ?_
            rintro e w10 ⟨rfl, hg10⟩
            have hr10 := HR9.out.trans hg10
            have hBA10 := hg10.same HBA9.out
            have hB10 := hr10.same HB.out
            clear c10
            have c0 := cell_block hBA10 (j := 0) rfl
            have c1 := cell_block hBA10 (j := 1) rfl
            have c2 := cell_block hBA10 (j := 2) rfl
            have d0 := cell_block hB10 (j := 0) rfl
            have d1 := cell_block hB10 (j := 1) rfl
            have d2 := cell_block hB10 (j := 2) rfl
            have e0 := frozen_block hB10 (j := 0)
            have e1 := frozen_block hB10 (j := 1)
            have e2 := frozen_block hB10 (j := 2)
            have hlB10 : w2.heap.size < w10.heap.size := (Array.getElem?_eq_some_iff.1 hB10).1
            have HEND := Lib.hid (Home.fill (w0 := w2) (n := ⟨R, s, 0⟩) hB10 ((HO6.out.gr H69.out).gr hg10) (LeftAt.gr hg10 hl9.out) (Nat.le_refl _) hszw (HGR.out.trans hr10))
            have hRi : R.length + (i + 1) = l.length := by have := HRL.out; omega
            clear hBA10 hB10 hr10 hg10 HALL9 HBA9 HR9 hl9
            go_wp2
            exact ⟨⟨i + 1, R, s, a9, c9, by go_num, rfl, hRi, HRS.out, HEND.out.1, HEND.out.2.1, HEND.out.2.2⟩, by simp [intOf]; omega⟩
          · have HPL := Lib.hid (pull_net wr ⟨L, s, 0⟩ (.slice na L.length nc) ((i : Int)) HOW.out.inn HSM.out)
            have hat := spot_eq hL0 ((i : Int))
            have hkl := spot_lt hL0 ((i : Int))
            have hwz : wrap64 (((i : Int) : Int).tmod L.length + L.length) = ((i : Int) : Int).tmod L.length + L.length := by
              have h1 := Int.tmod_lt_of_pos ((i : Int)) (show (0 : Int) < L.length by omega)
              have h2 := Int.lt_tmod_of_pos ((i : Int)) (show (0 : Int) < L.length by omega)
              unfold wrap64; omega
            have hpn : pullNet ⟨L, s, 0⟩ ((i : Int)) = ⟨L.eraseIdx (spot L.length ((i : Int))), s, 0⟩ := rfl
            have hpm : pullMsg ⟨L, s, 0⟩ ((i : Int)) = L.getD (spot L.length ((i : Int))) Msg.zero := rfl
            have hpo : pullOk ⟨L, s, 0⟩ = true := by simp [pullOk, hL0]
            have HPN := Lib.hid hpn
            have HPM := Lib.hid hpm
            have HPO := Lib.hid hpo
            have hat' := hat.symm
            clear hpn hpm hpo hat
            generalize spot L.length ((i : Int)) = k at *
            obtain ⟨m, hm⟩ : ∃ m, L[k]? = some m := ⟨_, List.getElem?_eq_getElem hkl⟩
            have hmd : L.getD k Msg.zero = m := by simp [List.getD, hm]
            have HM := Lib.hid hm
            have HMD := Lib.hid hmd
            clear hm hmd
            have HAT := Lib.hid hat'
            have HWZ := Lib.hid hwz
            clear hat' hwz
            go_wp2_with fail
            refine HPL.out.mono ?_
            rintro e w6 ⟨fv, ev6, rfl, hg6, ho6, hoe⟩
            rw [HPN.out] at ho6 ⊢
            rw [HPM.out, HMD.out] at hoe ⊢
            rw [HPO.out]
            clear HPN HPM HPO HMD
            obtain ⟨ea6, ec6, rfl⟩ := owns_slice hoe
            obtain ⟨fa6, fc6, rfl, _, _⟩ := ho6.is.len
            simp only [netV]
            have hRl : (L.eraseIdx k).length = L.length - 1 := by rw [List.length_eraseIdx, if_pos hkl]
            have HRS : Hid (Small (L.eraseIdx k)) := ⟨by have := HSM.out.1; omega, fun x hx => HSM.out.2 x ((List.eraseIdx_sublist L k).subset hx)⟩
            obtain ⟨R, hR⟩ : ∃ R, L.eraseIdx k = R := ⟨_, rfl⟩
            rw [hR] at ho6 hRl HRS ⊢
            have HRR := Lib.hid hR
            have HRL := Lib.hid hRl
            clear hR hRl
            obtain ⟨W6, hW6⟩ : ∃ W6, (w6.alloc (.cells #[.slice fa6 R.length fc6, .int .i64 s, .int .i64 0] 26)).alloc (.cells (msgCells m (.slice ea6 m.ents.length ec6)).toArray 31) = W6 := ⟨_, rfl⟩
            have g6 : Gr w6 W6 := by rw [← hW6]; exact Gr.alloc (Gr.alloc (Gr.refl _) _) _
            have hBA : W6.heap[w6.heap.size]? = some (.cells #[.slice fa6 R.length fc6, .int .i64 s, .int .i64 0] 26 (0, 0)) := by rw [← hW6]; exact alloc2_heap0 _ _ _
            have hBM : W6.heap[w6.heap.size + 1]? = some (.cells (msgCells m (.slice ea6 m.ents.length ec6)).toArray 31 (0, 0)) := by rw [← hW6]; exact alloc2_heap1 _ _ _
            obtain ⟨ev, hev⟩ : ∃ ev, evs[k]? = some ev := ⟨_, List.getElem?_eq_getElem (by rw [HEL.out]; exact hkl)⟩
            obtain ⟨rk, ek⟩ := HROWS.out k m ev HM.out hev
            obtain ⟨ea, ec, rfl, _, _⟩ := ek.len
            have rL := msg_row (hg6.trans g6) rk
            have rM : rowAt W6 (w6.heap.size + 1) 0 15 = some (msgCells m (.slice ea6 m.ents.length ec6)).toArray := rowAt_block hBM rfl
            have hmsz : m.ents.length ≤ 1000000 := HSM.out.2 m (List.mem_of_getElem? HM.out)
            have hal := alike20_any W6.drew _ _ m m (.slice ea6 m.ents.length ec6) (.slice ea m.ents.length ec) (hoe.is.gr (g6.trans (Gr.drew (Gr.refl _)))) ((ek.gr (hg6.trans g6)).gr (Gr.drew (Gr.refl _))) hmsz hmsz
            simp only [decide_true] at hal
            have HAL := Lib.hid hal
            have HW6 := Lib.hid hW6
            have HO6 := Lib.hid ((OwnMsgs.base (Nat.le_trans (Nat.le_of_lt (Nat.lt_of_le_of_lt hszw hlB)) (Nat.le_refl _)) ho6).gr g6)
            have HG6 := Lib.hid (HGR.out.trans (hg6.trans g6))
            have HR6 := Lib.hid (hg6.trans g6)
            have HBA := Lib.hid hBA
            have HBM := Lib.hid hBM
            have hmod : (i : Int).tmod L.length = (i : Int) % L.length := Int.tmod_eq_emod_of_nonneg (by omega)
            have hat' := HAT.out
            have hwz := HWZ.out
            rw [hmod] at hat' hwz
            clear hmod
            have hgs6 : g < W6.heap.size := Nat.lt_of_lt_of_le hgs (hg6.trans g6).size
            clear hg6 g6 ho6 hoe hBA hBM hev rk ek hmsz hal hW6 b0 b1 b2 HPL
            go_wp2_with fail
            rw [HW6.out]
            clear HW6 hat' hwz HAT HWZ
            go_still_tail 8, (by kernel_rfl)
            go_wp2_with (go_at_call 15; refine HAL.out.mono ?_; rintro e w7 ⟨rfl, hg7⟩)
            have h7 : Gr W6 w7 := (Gr.drew (Gr.refl _)).trans hg7
            have hw7 : Gr wr w7 := HR6.out.trans h7
            have hkc : k ≤ lc := by omega
            have hkc1 : k + 1 ≤ lc := by omega
            have hk0 : (0 : Int) ≤ (k : Int) + 1 := by omega
            have hkL : k + 1 ≤ L.length := by omega
            have hkLi : (k : Int) + 1 ≤ (L.length : Int) := by omega
            have hwk : IntKind.i64.wrap ((k : Int) + 1) = (k : Int) + 1 := by rw [IntKind.wrap_i64]; omega
            have htn : ((k : Int) + 1).toNat = k + 1 := by omega
            have hfl : (List.zipWith msgCells L evs).flatten.length = L.length * 15 := by rw [flatten_length _ (zip_len _ _)]; simp [HEL.out]
            obtain ⟨news1, hn1⟩ : ∃ x, x = (List.zipWith msgCells L evs).flatten.take (k * 15) := ⟨_, rfl⟩
            obtain ⟨news2, hn2⟩ : ∃ x, x = (List.zipWith msgCells L evs).flatten.drop ((k + 1) * 15) := ⟨_, rfl⟩
            have hl1 : news1.length = k * 15 := by rw [hn1, List.length_take, hfl]; omega
            have hl2 : news2.length = (L.length - (k + 1)) * 15 := by rw [hn2, List.length_drop, hfl]; omega
            obtain ⟨A, hA, hs2⟩ : ∃ A : Addr, (if lc = k + 1 then some (⟨g, 0, none⟩ : Addr) else some ⟨g, (k + 1) * 15, none⟩) = some A ∧ Hid (∀ X, Gr w7 X → ∀ ad, some A = some ad → ∀ t u, news2[t]? = some u → X.cell? (ad.add t) = some u) := by
              by_cases h : lc = k + 1
              · refine ⟨⟨g, 0, none⟩, by simp [h], fun X _ ad _ t u hu => ?_⟩
                have h0 : news2.length = 0 := by rw [hl2]; omega
                rw [List.length_eq_zero_iff.1 h0] at hu
                simp at hu
              · refine ⟨⟨g, (k + 1) * 15, none⟩, by simp [h], fun X hX ad had t u hu => ?_⟩
                cases had
                rw [Addr.add_mid]
                refine later_cell (hw7.trans hX) (HCELLS.out _ _ ?_)
                rw [hn2, List.getElem?_drop] at hu
                exact hu
            have HS1 : Hid (∀ ad, some (⟨g, 0, none⟩ : Addr) = some ad → ∀ t u, news1[t]? = some u → ((w7.alloc (.cells #[] 31)).drew).cell? (ad.add t) = some u) := by
              refine Lib.hid fun ad had t u hu => ?_
              cases had
              rw [Addr.add_mid, Nat.zero_add]
              refine later_cell (hw7.trans (Gr.drew (Gr.alloc (Gr.refl _) _))) (HCELLS.out _ _ ?_)
              rw [hn1] at hu
              have htl : t < k * 15 := by have := (List.getElem?_eq_some_iff.1 hu).1; rw [List.length_take] at this; omega
              rwa [List.getElem?_take_of_lt htl] at hu
            have HO1' : Hid (∀ u ∈ news1, u.oneCell' = true) := Lib.hid fun u hu => HONE.out u (List.mem_of_mem_take (by rw [← hn1]; exact hu))
            have HO2' : Hid (∀ u ∈ news2, u.oneCell' = true) := Lib.hid fun u hu => HONE.out u (List.mem_of_mem_drop (by rw [← hn2]; exact hu))
            have HOE : Hid (((w7.alloc (.cells #[] 31)).drew).ownsRow w7.heap.size 31 15 (.slice (some ⟨w7.heap.size, 0, none⟩) 0 0) 0 []) := Lib.hid (ownsRow_dat (Gr.kp (Gr.drew (Gr.refl _)) _) (owns_empty 31 15 rfl (Nat.le_refl _)))
            have hb1 : 0 + k ≤ maxLen := by unfold maxLen; omega
            have hb2 : (0 + k) * 136 ≤ 140737488355328 := by omega
            have hb3 : k + (L.length - (k + 1)) ≤ maxLen := by unfold maxLen; omega
            have hb4 : (k + (L.length - (k + 1))) * 136 ≤ 140737488355328 := by omega
            have hb5 : w7.heap.size ≤ ((w7.alloc (.cells #[] 31)).drew).heap.size := by show w7.heap.size ≤ (w7.alloc (.cells #[] 31)).heap.size; simp
            have hrl : k + (L.length - (k + 1)) = R.length := by rw [HRL.out]; omega
            have HLER : Hid (∀ a9 c9 w9, w9.ownsRow w7.heap.size 31 15 (.slice a9 (k + (L.length - (k + 1))) c9) (k + (L.length - (k + 1))) (news1 ++ news2) → Gr w7 w9 → LeftAt w w.heap.size w9 (.slice a9 R.length c9) R) := by
              refine Lib.hid fun a9 c9 w9 ho hg => ?_
              rw [hrl] at ho
              have hwb : w.heap.size ≤ w7.heap.size := by have := hw7.size; omega
              have := left_erase (w := w) (base := w.heap.size) HEL.out hkl HRL.out (ownsRow_base hwb (by rw [hn1, hn2] at ho; exact ho)) (fun i m ev hm he => IsEnts.gr (hw7.trans hg) (HROWS.out i m ev hm he).2)
              rwa [HRR.out] at this
            have HGW8 : Hid (∀ w8, ((w7.alloc (.cells #[] 31)).drew).grownBy w8 (Value.ownBlock (.slice (some ⟨w7.heap.size, 0, none⟩) 0 0)) → Gr w7 w8) :=
              Lib.hid fun w8 hgr => Below.grown (Gr.drew (Gr.alloc (Gr.refl _) _)) hgr hb5 (by intro q hq; simp [Value.ownBlock] at hq; omega)
            have HL1' := Lib.hid hl1
            have HL2' := Lib.hid hl2
            have HB1' := Lib.hid hb1
            have HB2' := Lib.hid hb2
            have HB3' := Lib.hid hb3
            have HB4' := Lib.hid hb4
            have HB5' := Lib.hid hb5
            have HRL' := Lib.hid hrl
            have HW7 := Lib.hid hw7
            have H76 := Lib.hid h7
            clear hl1 hl2 hb1 hb2 hb3 hb4 hb5 hrl hn1 hn2 hfl hw7 h7 hg7 HCELLS HROWS HONE HEL rL rM HAL
            go_region_law (first
              | (refine step_append_src rfl (.tmp 87) (.tmp 90) 24 rfl w7.heap.size 31 i0 _ 15 136 Try.underlying24 hi0 hz0 hz1 hz2 rfl (by decide) (.slice (some ⟨w7.heap.size, 0, none⟩) 0 0) 0 [] (by simp [Act.eval]) HOE.out (some ⟨g, 0, none⟩) k lc news1 (by simp [Act.eval]) HL1'.out (by intro h; cases h) HS1.out HO1'.out HB1'.out HB2'.out HB5'.out ?_; intro a8 c8 w8 hown8 hgrow8; have hg8 := Lib.hid (HGW8.out w8 hgrow8); have ho8 := Lib.hid hown8; clear hown8 hgrow8; simp only [Nat.zero_add, List.nil_append] at ho8 ⊢)
              | (refine step_append_src rfl (.tmp 91) (.tmp 95) 24 rfl w7.heap.size 31 i0 _ 15 136 Try.underlying24 hi0 hz0 hz1 hz2 rfl (by decide) (.slice a8 k c8) k news1 (by simp [Act.eval]) ho8.out (some A) (L.length - (k + 1)) (lc - (k + 1)) news2 (by simp [Act.eval]) HL2'.out (by intro h; cases h) (hs2.out _ hg8.out) HO2'.out HB3'.out HB4'.out hg8.out.size ?_; intro a9 c9 w9 hown9 hgrow9; have hg9 := Lib.hid (Below.grown hg8.out hgrow9 hg8.out.size fun q hq => (owns_elem ho8.out hq).1); have hl9 := Lib.hid (HLER.out a9 c9 w9 hown9 hg9.out); rw [HRL'.out]; clear hown9 hgrow9 ho8 hg8))
            have h69 : Gr W6 w9 := H76.out.trans hg9.out
            have hr9 : Gr wr w9 := HW7.out.trans hg9.out
            have hBA9 := h69.same HBA.out
            have c10 := cell_block hBA9 (j := 0) rfl
            have hls9 : w6.heap.size < w9.heap.size := (Array.getElem?_eq_some_iff.1 hBA9).1
            have hw9 : w.heap.size ≤ w9.heap.size := by have := hr9.size; omega
            have hall9 := all_any w9 _ _ (.slice fa6 R.length fc6) (.slice a9 R.length c9) R R (HO6.out.gr h69).is (hl9.out.inn hw9) HRS.out HRS.out
            simp only [decide_true] at hall9
            have HALL9 := Lib.hid hall9
            have HBA9 := Lib.hid hBA9
            have H69 := Lib.hid h69
            have HR9 := Lib.hid hr9
            clear hall9 hBA9 h69 hr9 hg9 HBA H76 HW7 HLER HGW8 HOE HS1 hs2 hA hwk htn hkLi
            go_wp2_with fail
            refine HALL9.out.mono ?_
            rintro e w10 ⟨rfl, hg10⟩
            have hr10 := HR9.out.trans hg10
            have hBA10 := hg10.same HBA9.out
            have hB10 := hr10.same HB.out
            clear c10
            have c0 := cell_block hBA10 (j := 0) rfl
            have c1 := cell_block hBA10 (j := 1) rfl
            have c2 := cell_block hBA10 (j := 2) rfl
            have d0 := cell_block hB10 (j := 0) rfl
            have d1 := cell_block hB10 (j := 1) rfl
            have d2 := cell_block hB10 (j := 2) rfl
            have e0 := frozen_block hB10 (j := 0)
            have e1 := frozen_block hB10 (j := 1)
            have e2 := frozen_block hB10 (j := 2)
            have hlB10 : w2.heap.size < w10.heap.size := (Array.getElem?_eq_some_iff.1 hB10).1
            have HEND := Lib.hid (Home.fill (w0 := w2) (n := ⟨R, s, 0⟩) hB10 ((HO6.out.gr H69.out).gr hg10) (LeftAt.gr hg10 hl9.out) (Nat.le_refl _) hszw (HGR.out.trans hr10))
            have hRi : R.length + (i + 1) = l.length := by have := HRL.out; omega
            clear hBA10 hB10 hr10 hg10 HALL9 HBA9 HR9 hl9
            go_wp2
            exact ⟨⟨i + 1, R, s, a9, c9, by go_num, rfl, hRi, HRS.out, HEND.out.1, HEND.out.2.1, HEND.out.2.2⟩, by simp [intOf]; omega⟩
        · have hL0 : L.length = 0 := by omega
          have hpo : pullOk ⟨L, s, 0⟩ = false := by simp [pullOk, hL0]
          have HPL := Lib.hid (pull_net wr ⟨L, s, 0⟩ (.slice na L.length nc) 0 HOW.out.inn HSM.out)
          have HPO := Lib.hid hpo
          have HGRW := Lib.hid (HG12.out.trans HGR.out)
          clear hpo hL0 hLi
          go_wp2_with fail
          refine HPL.out.mono ?_
          rintro e w6 ⟨fv, ev6, rfl, hg6, ho6, hoe⟩
          obtain ⟨ea6, ec6, rfl⟩ := owns_slice hoe
          obtain ⟨fa6, fc6, rfl, _, _⟩ := ho6.is.len
          rw [HPO.out]
          generalize pullNet ⟨L, s, 0⟩ 0 = n6 at *
          generalize pullMsg ⟨L, s, 0⟩ 0 = m6 at *
          simp only [netV]
          have HG6 := Lib.hid (HGRW.out.trans hg6)
          have HWK := Lib.hid (fun W => wakes_any W)
          clear hg6 ho6 hoe HPL HPO b0 b1 b2 HB
          go_wp2_with fail
          refine (HWK.out _).mono ?_
          rintro e w7 ⟨rfl, hg7⟩
          go_wp2
          go_ret
          exact ⟨rfl, (Gr.alloc (Gr.alloc HG6.out _) _).trans hg7⟩
end Go.Proofs.Ytajghkjghiifjaa
