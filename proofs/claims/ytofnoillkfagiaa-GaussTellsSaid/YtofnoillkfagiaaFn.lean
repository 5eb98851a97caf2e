/-
  Walks: the law of rows of one length.
-/
import Derived.Test.YtofnoillkfagiaaFm
namespace Go.Proofs.Ytofnoillkfagiaa
open Go Go.RowKit
attribute [local go_sem ↓] eql39

theorem made_bytes (w : World) (n : Nat) (h : n ≤ maxLen) : IsBytes (· < (w.alloc (.cells (madeCells #[.int .u8 0] n) 5)).heap.size) (w.alloc (.cells (madeCells #[.int .u8 0] n) 5)) (.slice (some ⟨w.heap.size, 0, none⟩) n n) (List.replicate n 0) := by
  have hb := alloc1_heap w (.cells (madeCells #[.int .u8 0] n) 5)
  refine ⟨fun x hx => by obtain ⟨z, _, rfl⟩ := List.mem_map.1 hx; rfl, ?_⟩
  by_cases h0 : n = 0
  · subst h0; exact .inl ⟨⟨_, 0, rfl, Nat.zero_le _⟩, rfl⟩
  · refine .inr ⟨w.heap.size, 0, n, by simp, by simp, h, by simp, fun j u hu => ?_⟩
    rw [Nat.zero_add]
    refine cell_block hb ?_
    have hl : (madeCells #[Value.int .u8 0] n).toList = List.replicate n (.int .u8 0) := toList_madeCells_one _ _
    have hf : ∀ m : Nat, ((List.replicate m (0 : Int)).map fun z => [Value.int .u8 z]).flatten = List.replicate m (.int .u8 0) := by
      intro m
      induction m with
      | zero => rfl
      | succ m ih => rw [List.replicate_succ, List.map_cons, List.flatten_cons, ih]; rfl
    rw [hf, ← hl, Array.getElem?_toList] at hu
    exact hu

set_option maxRecDepth 100000 in
set_option maxHeartbeats 1000000 in
theorem gaussLinear_law (w : World) (a b c d : Int) (v : Value) (bs : List Int) (hv : IsBytes (· < w.heap.size) w v bs) (hby : ∀ z ∈ bs, 0 ≤ z ∧ z ≤ 255) :
    Calls Try.prog 7 #[.int .i64 a, .int .i64 b, .int .i64 c, .int .i64 d, v] w fun e w' => e = .returned (.bool true) ∧ Gr w w' := by
  obtain ⟨la, lc, rfl, hl1, hl2⟩ := hv.len
  obtain ⟨mn, hmn⟩ : ∃ mn, mn = min (min (min a b) c) d := ⟨_, rfl⟩
  obtain ⟨mx, hmx⟩ : ∃ mx, mx = max (max (max a b) c) d := ⟨_, rfl⟩
  have r1 := fun s t W => run_min4 Try.prog s t a b c d mn hmn W
  have r2 := fun s t W => run_max4 Try.prog s t a b c d mx hmx W
  have HWK := Lib.hid (fun W => wakes_any W)
  have HV := Lib.hid hv
  have HBY := Lib.hid hby
  clear hv hby
  by_cases hbad : mn < 0 ∨ 10006 < mx ∨ 60 < bs.length
  · have hb' : mn < 0 ∨ (¬ mn < 0 ∧ 10006 < mx) ∨ (¬ mn < 0 ∧ ¬ 10006 < mx ∧ (60 : Int) < bs.length) := by omega
    clear hmn hmx hbad
    rcases hb' with h1 | ⟨h1, h2⟩ | ⟨h1, h2, h3⟩
    all_goals
      go_enter Try.func7, Try.ntmps7
      go_wp2_with fail
      refine (HWK.out _).mono ?_
      rintro e w2 ⟨rfl, hg2⟩
      go_wp2
      go_ret
      exact ⟨rfl, hg2⟩
  · have q1 : ¬ mn < 0 := by omega
    have q2 : ¬ 10006 < mx := by omega
    have q3 : ¬ (60 : Int) < bs.length := by omega
    have pz : Pt (a, b) := by unfold Pt; simp only; omega
    have pw : Pt (c, d) := by unfold Pt; simp only; omega
    obtain ⟨n, hn⟩ : ∃ n, bs.length = n := ⟨_, rfl⟩
    have hn60 : n ≤ 60 := by omega
    obtain ⟨i0, hi0, hz0, hz1, hz2⟩ : ∃ i, Try.prog.info? 5 = some i ∧ i.zero = some (.int .u8 0) ∧ i.size = 1 ∧ i.bytes = 1 := ⟨_, rfl, rfl, rfl, rfl⟩
    have hmk : ∀ X : World, (Instr.makeSlice 26 (.int .i64 (n : Int)) (.int .i64 (n : Int))).run Try.prog X = .ok (.slice (some ⟨X.heap.size, 0, none⟩) n n) (X.alloc (.cells (madeCells #[.int .u8 0] n) 5)) := fun X => by
      have := run_make (P := Try.prog) X 26 5 i0 (.int .u8 0) Try.underlying26 hi0 hz0 .i64 .i64 (n : Int) (n : Int) (by omega) (Int.le_refl _) (by rw [hz2]; omega) (by omega)
      rw [hz1, Int.toNat_natCast, Nat.mul_one] at this
      exact this
    obtain ⟨Wm, hWm⟩ : ∃ Wm, w.alloc (.cells (madeCells #[.int .u8 0] n) 5) = Wm := ⟨_, rfl⟩
    have gm : Gr w Wm := by rw [← hWm]; exact Gr.alloc (Gr.refl _) _
    have hmb := made_bytes w n (by unfold maxLen; omega)
    rw [hWm] at hmb
    have HVm : ∀ X, Gr Wm X → IsBytes (· < X.heap.size) X (.slice la bs.length lc) bs := fun X h => (HV.out.gr (gm.trans h)).mono fun q hq => Nat.lt_of_lt_of_le hq (gm.trans h).size
    have HOm : ∀ X, Gr Wm X → IsBytes (· < X.heap.size) X (.slice (some ⟨w.heap.size, 0, none⟩) n n) (List.replicate n 0) := fun X h => (hmb.gr h).mono fun q hq => Nat.lt_of_lt_of_le hq h.size
    have hzb : ∀ z ∈ List.replicate n (0 : Int), 0 ≤ z ∧ z ≤ 255 := fun z hz => by rw [List.eq_of_mem_replicate hz]; decide
    have wa := W.of a
    have wb := W.of b
    have wc := W.of c
    have wd := W.of d
    have fa : floatOfInt .f64 a = N a := rfl
    have fb : floatOfInt .f64 b = N b := rfl
    have fc : floatOfInt .f64 c = N c := rfl
    have fd : floatOfInt .f64 d = N d := rfl
    generalize N a = na at *
    generalize N b = nb at *
    generalize N c = nc at *
    generalize N d = nd at *
    have C1 := Lib.hid (fun X (h : Gr Wm X) => chain_one X la lc bs na nb (a, b) wa wb pz (HVm X h) (by omega) HBY.out)
    have C2 := Lib.hid (fun X (h : Gr Wm X) => chain_one X la lc bs nc nd (c, d) wc wd pw (HVm X h) (by omega) HBY.out)
    have C3 := Lib.hid (fun X (h : Gr Wm X) => chain_one X (some ⟨w.heap.size, 0, none⟩) n (List.replicate n 0) na nb (a, b) wa wb pz (by rw [List.length_replicate]; exact HOm X h) (by simp; omega) hzb)
    have C4 := Lib.hid (fun X (h : Gr Wm X) => chain_one X (some ⟨w.heap.size, 0, none⟩) n (List.replicate n 0) nc nd (c, d) wc wd pw (by rw [List.length_replicate]; exact HOm X h) (by simp; omega) hzb)
    simp only [List.length_replicate] at C3 C4
    have hcs := chain_same bs (List.replicate n 0) (a, b) (c, d) (a, b) (c, d) (by simp [hn]) rfl rfl
    have hs1 := apI_same hcs.1
    have hs2 := apI_same hcs.2
    have pp1 := chainP_pt pz bs
    have pp2 := chainP_pt pw bs
    have pp3 := chainP_pt pz (List.replicate n 0)
    have pp4 := chainP_pt pw (List.replicate n 0)
    have HPP := Lib.hid (And.intro pp1 (And.intro pp2 (And.intro pp3 pp4)))
    have HSS := Lib.hid (And.intro hs1 hs2)
    have HSZ : Hid (Wm.heap.size = w.heap.size + 1) := Lib.hid (by rw [← hWm]; simp)
    have HWm := Lib.hid hWm
    have HGm := Lib.hid gm
    have HN := Lib.hid hn
    clear hcs hs1 hs2 pp1 pp2 pp3 pp4 wa wb wc wd pz pw HVm HOm hzb hWm gm hmb hmn hmx hbad HV HBY
    rw [hn] at C1 C2 q3 ⊢
    clear hn
    go_enter Try.func7, Try.ntmps7
    go_wp2_with fail
    rw [HWm.out]
    have C1m := C1.out Wm (Gr.refl _)
    rw [HSZ.out] at C1m
    refine C1m.mono ?_
    clear C1m
    rintro e w1 ⟨p1, p1', rfl, hp1, hq1, hg1⟩
    go_wp2_with fail
    refine (C2.out w1 hg1).mono ?_
    rintro e w2 ⟨p2, p2', rfl, hp2, hq2, hg2⟩
    have HA1 := Lib.hid (apart_any _ _ _ _ _ _ _ _ hp1 hq1 hp2 hq2 HPP.out.1 HPP.out.2.1 w2)
    have G2 := Lib.hid (hg1.trans hg2)
    clear hp1 hq1 hp2 hq2 hg1 hg2
    go_wp2_with fail
    refine HA1.out.mono ?_
    rintro e w3 ⟨rfl, hg3⟩
    have G3 := Lib.hid (G2.out.trans hg3)
    clear hg3 G2
    go_wp2_with fail
    refine (C3.out w3 G3.out).mono ?_
    rintro e w4 ⟨p3, p3', rfl, hp3, hq3, hg4⟩
    have G4 := Lib.hid (G3.out.trans hg4)
    clear hg4
    go_wp2_with fail
    refine (C4.out w4 G4.out).mono ?_
    rintro e w5 ⟨p4, p4', rfl, hp4, hq4, hg5⟩
    have HA2 := Lib.hid (apart_any _ _ _ _ _ _ _ _ hp3 hq3 hp4 hq4 HPP.out.2.2.1 HPP.out.2.2.2 w5)
    rw [← HSS.out.1, ← HSS.out.2] at HA2
    have G5 := Lib.hid (G4.out.trans hg5)
    clear hp3 hq3 hp4 hq4 hg5
    go_wp2_with fail
    refine HA2.out.mono ?_
    rintro e w6 ⟨rfl, hg6⟩
    have G6 := Lib.hid (G5.out.trans hg6)
    clear hg6
    go_wp2_with fail
    refine (HWK.out _).mono ?_
    rintro e w7 ⟨rfl, hg7⟩
    go_wp2
    go_ret
    exact ⟨rfl, (HGm.out.trans G6.out).trans hg7⟩
end Go.Proofs.Ytofnoillkfagiaa
