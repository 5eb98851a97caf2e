/-
  Walk: the law's own trial.
  Conditions: none beyond those typed at each theorem.
-/
import Derived.Test.YtbgcjbpkgijmeaaHb
import Derived.Test.YtbgcjbpkgijmeaaGf
import Derived.Deep.RegionHeld3
import Derived.Deep.CutRange
namespace Go.Proofs.Ytbgcjbpkgijmeaa
open Go Go.RowKit Go.Maps
attribute [local go_sem ↓] Go.wp_at_zero Go.wp_at_succ
attribute [local go_sem high] str_eql str_neq str_lss str_leq str_geq str_eql0 str_neq0

theorem by_two {X : World} {p : Nat} (h : X.heap[p]? = some (.cells #[.int .u8 1, .int .u8 2] 5 (0, 0))) : IsBy (fun _ => True) X (.slice (some ⟨p, 0, none⟩) 2 2) [1, 2] := by
  refine ⟨fun e he => ?_, .inr ⟨p, 0, 2, rfl, Nat.le_refl _, by decide, trivial, ?_⟩⟩
  · obtain ⟨x, _, rfl⟩ := List.mem_map.1 he; rfl
  · rw [flat_one]; exact range_row h

theorem heap1_at (X : World) (a : Obj) (n : Nat) (h : n = X.heap.size) : (X.alloc a).heap[n]? = some a := h ▸ alloc1_heap X a
theorem heap20_at (X : World) (a b : Obj) (n : Nat) (h : n = X.heap.size) : ((X.alloc a).alloc b).heap[n]? = some a := h ▸ alloc2_heap0 X a b
theorem heap21_at (X : World) (a b : Obj) (n : Nat) (h : n = X.heap.size + 1) : ((X.alloc a).alloc b).heap[n]? = some b := h ▸ alloc2_heap1 X a b
theorem heap1d_at (X : World) (a : Obj) (n : Nat) (h : n = X.heap.size) : (X.alloc a).drew.heap[n]? = some a := h ▸ alloc1_heap X a
theorem heap20d_at (X : World) (a b : Obj) (n : Nat) (h : n = X.heap.size) : ((X.alloc a).alloc b).drew.heap[n]? = some a := h ▸ alloc2_heap0 X a b
theorem heap21d_at (X : World) (a b : Obj) (n : Nat) (h : n = X.heap.size + 1) : ((X.alloc a).alloc b).drew.heap[n]? = some b := h ▸ alloc2_heap1 X a b
set_option maxRecDepth 100000 in
set_option maxHeartbeats 8000000 in
theorem wakes_any (w : World) : Calls Try.prog 8 #[] w fun e w' => e = .returned (.bool true) ∧ Gr w w' := by
  obtain ⟨w1, hw1⟩ : ∃ w1, ((w.alloc (.cells #[.int .u8 1, .int .u8 2] 5)).alloc (.cells #[.int .u8 1, strV [97], strV [], .slice none 0 0] 32)).alloc (.cells #[.int .u8 2, strV [97], strV [], .slice (some ⟨w.heap.size, 0, none⟩) 2 2] 32) = w1 := ⟨_, rfl⟩
  have hG1 : Gr w w1 := by rw [← hw1]; exact ((Gr.alloc (Gr.refl w) _).alloc _).alloc _
  have hBb : w1.heap[w.heap.size]? = some (.cells #[.int .u8 1, .int .u8 2] 5 (0, 0)) := by rw [← hw1]; exact alloc3_heap0 _ _ _ _
  have hBc : w1.heap[w.heap.size + 1]? = some (.cells #[.int .u8 1, strV [97], strV [], .slice none 0 0] 32 (0, 0)) := by rw [← hw1]; exact alloc3_heap1 _ _ _ _
  have hBm : w1.heap[w.heap.size + 1 + 1]? = some (.cells #[.int .u8 2, strV [97], strV [], .slice (some ⟨w.heap.size, 0, none⟩) 2 2] 32 (0, 0)) := by rw [← hw1]; exact alloc3_heap2 _ _ _ _
  have hz1 : w1.heap.size = w.heap.size + 3 := by rw [← hw1]; simp
  obtain ⟨O1, hO1⟩ : ∃ O1, O1 = [crO].foldl doD (newD 3) := ⟨_, rfl⟩
  obtain ⟨D0, hD0⟩ : ∃ D0, D0 = tD0 := ⟨_, rfl⟩
  have HNEW := Lib.hid (show ∀ X, Calls Try.prog 20 #[.int .i64 3] X fun e w' => ∃ v, e = .returned v ∧ OwnDsk X.heap.size w' v (newD 3) ∧ Gr X w' from fun X => new_any X 3 (by decide))
  have HOPS := Lib.hid (show ∀ (X : World) (S : Nat → Prop) (v : Value) (p : Nat), X.heap[p]? = some (.cells #[.int .u8 1, strV [97], strV [], .slice none 0 0] 32 (0, 0)) → IsDsk S X v (newD 3) → Calls Try.prog 19 #[v, .slice (some ⟨p, 0, none⟩) 1 1] X (OpsPost X O1) from
    fun X S v p hp hd => hO1 ▸ ops_any X v _ (newD 3) [crO] hd (ops_one (o := crO) hp ⟨by simp [crO], .inl ⟨⟨none, 0, rfl, by decide⟩, by simp [crO]⟩⟩ ⟨by decide, by decide, by decide⟩) (by decide) (by decide))
  have HSYN := Lib.hid (show ∀ (X : World) (S : Nat → Prop) (v : Value), Gr w1 X → IsDsk S X v O1 → Calls Try.prog 14 #[v] X fun e w' => ∃ v', e = .returned (.tuple #[v', .int .i64 0]) ∧ OwnDsk w.heap.size w' v' D0 ∧ Gr X w' from
    fun X S v hg hd => (sync_any X v O1 hd (by rw [hO1]; decide) (by rw [hO1]; decide)).mono fun e w' ⟨v', h1, h2, h3⟩ => ⟨v', by rw [h1, hO1, wk0.1], by rw [hD0, ← wk0.2, ← hO1]; exact h2.base (by have := hg.size; have := hG1.size; omega), h3⟩)
  have HK1 := Lib.hid (show ∀ X, Gr w1 X → (Gr w1 X ∧ X.cell? ⟨w.heap.size + 1, 0, none⟩ = some (.int .u8 1) ∧ X.cell? ⟨w.heap.size + 1, 1, none⟩ = some (strV [97]) ∧ X.cell? ⟨w.heap.size + 1, 2, none⟩ = some (strV []) ∧ X.cell? ⟨w.heap.size + 1, 3, none⟩ = some (.slice none 0 0)) from
    fun X hX => ⟨hX, cell_block (hX.same hBc) rfl, cell_block (hX.same hBc) rfl, cell_block (hX.same hBc) rfl, cell_block (hX.same hBc) rfl⟩)
  have HK0 := Lib.hid (HK1.out w1.drew (Gr.refl w1).drew)
  have HW1 := Lib.hid hw1
  have HG1 := Lib.hid hG1
  have HBM := Lib.hid (And.intro hBb (And.intro hBm hz1))
  have HD0 := Lib.hid hD0
  clear hw1 hG1 hBb hBc hBm hz1 hO1 hD0
  go_enter Try.func8, Try.ntmps8
  go_upto_region 2 with fail
  rw [HW1.out]
  go_cut [3, 4] from 15 to 25 (fun p e wx => ∃ (Bd : Nat) (fa : Option Addr) (fc : Nat) (qa : Option Addr) (qc : Nat), p = .pointer (some ⟨Bd, 0, none⟩) ∧ e = .int .i64 0 ∧ wx.heap[Bd]? = some (.cells #[.slice fa D0.files.length fc, .slice qa D0.queue.length qc, .int .i64 D0.quota, .int .i64 D0.fuse, .bool D0.dead] 25 (0, 0)) ∧ OwnDsk w.heap.size wx (dskV D0 (.slice fa D0.files.length fc) (.slice qa D0.queue.length qc)) D0 ∧ w1.heap.size ≤ Bd ∧ Gr w1 wx)
  case first =>
    go_region_held3 (fun X => Gr w1 X ∧ X.cell? ⟨w.heap.size + 1, 0, none⟩ = some (.int .u8 1) ∧ X.cell? ⟨w.heap.size + 1, 1, none⟩ = some (strV [97]) ∧ X.cell? ⟨w.heap.size + 1, 2, none⟩ = some (strV []) ∧ X.cell? ⟨w.heap.size + 1, 3, none⟩ = some (.slice none 0 0))
      (first | (with_reducible exact HK1.out _ (set5_gr hGY3 (by first | exact hGY2.size | exact hGY1.size | exact Nat.le_succ_of_le hGY1.size | exact Nat.le_refl _ | exact Nat.le_succ _))) | (with_reducible exact HK0.out) | (with_reducible exact HK1.out _ (by assumption)) | (with_reducible exact HK1.out _ (Gr.alloc (by assumption) _)) | (with_reducible exact HK1.out _ (Gr.alloc (And.left (by assumption)) _)) | (with_reducible exact HK1.out _ (set5_gr (Gr.alloc hGY3 _) hGY3.size)))
      (first
        | (go_at_call 20; refine (HNEW.out _).mono ?_; rintro e y1 ⟨v1, rfl, ho1, hgy1⟩
           have hGY1 : Gr w1 y1 := Gr.trans (And.left (by assumption)) hgy1
           have HO1 := Lib.hid ho1
           have z1 := hgy1.size
           try simp only [World.size_alloc] at z1
           with_reducible first | have HQ1 := Lib.hid (hgy1.same (alloc1_heap _ (.cells #[.slice none 0 0, .slice none 0 0, .int .i64 0, .int .i64 0, .bool false] 25))) | have HQ1 := Lib.hid (hgy1.same (alloc2_heap0 _ (.cells #[.slice none 0 0, .slice none 0 0, .int .i64 0, .int .i64 0, .bool false] 25) _)) | skip
           try simp only [World.size_alloc] at HQ1
           clear ho1)
        | (go_at_call 19; refine (HOPS.out _ _ _ _ (by with_reducible first | exact heap1_at _ _ _ (by first | with_unfolding_all rfl | simp) | exact heap20_at _ _ _ _ (by first | with_unfolding_all rfl | simp) | exact heap21_at _ _ _ _ (by first | with_unfolding_all rfl | simp) | exact hgy1.same (heap1_at _ _ _ (by first | with_unfolding_all rfl | simp)) | exact hgy1.same (heap20_at _ _ _ _ (by first | with_unfolding_all rfl | simp)) | exact hgy1.same (heap21_at _ _ _ _ (by first | with_unfolding_all rfl | simp)) | exact (Gr.alloc hgy1 _).same (heap1_at _ _ _ (by first | with_unfolding_all rfl | simp))) (by with_reducible first | exact HO1.out.is | exact (HO1.out.gr (Gr.alloc (Gr.refl _) _)).is | exact (HO1.out.gr (Gr.alloc (Gr.alloc (Gr.refl _) _) _)).is)).mono ?_
           rintro e y2 ⟨v2, rfl, ho2, hgy2⟩
           have hGY2 : Gr w1 y2 := Gr.trans (And.left (by assumption)) hgy2
           have HO2 := Lib.hid ho2
           have z2 := hgy2.size
           try simp only [World.size_alloc] at z2
           with_reducible first | have HQ2 := Lib.hid (hgy2.same HQ1.out) | have HQ2 := Lib.hid (hgy2.same ((Gr.alloc (Gr.refl y1) _).same HQ1.out)) | have HQ2 := Lib.hid (hgy2.same (alloc1_heap _ (.cells #[.slice none 0 0, .slice none 0 0, .int .i64 0, .int .i64 0, .bool false] 25))) | have HQ2 := Lib.hid (hgy2.same (alloc2_heap0 _ (.cells #[.slice none 0 0, .slice none 0 0, .int .i64 0, .int .i64 0, .bool false] 25) _)) | skip
           try simp only [World.size_alloc] at HQ2
           clear ho2)
        | (go_at_call 14; refine (HSYN.out _ (· < y2.heap.size) _ (And.left (by assumption)) (by with_reducible first | exact HO2.out | exact IsDsk.gr (Gr.alloc (Gr.refl _) _) HO2.out)).mono ?_
           rintro e y3 ⟨v3, rfl, ⟨fv3, qv3, rfl, hf3, hq3, hn3⟩, hgy3⟩
           obtain ⟨fa3, fc3, rfl⟩ := hf3.slice
           obtain ⟨qa3, qc3, rfl⟩ := hq3.slice
           have hGY3 : Gr w1 y3 := Gr.trans (And.left (by assumption)) hgy3
           have z3 := hgy3.size
           try simp only [World.size_alloc] at z3
           with_reducible first | have HQ3 := Lib.hid (hgy3.same HQ2.out) | have HQ3 := Lib.hid (hgy3.same (alloc1_heap _ (.cells #[.slice none 0 0, .slice none 0 0, .int .i64 0, .int .i64 0, .bool false] 25))) | skip
           try simp only [World.size_alloc] at HQ3
           try (have x0 := cell_block HQ3.out (j := 0) rfl; have x1 := cell_block HQ3.out (j := 1) rfl; have x2 := cell_block HQ3.out (j := 2) rfl; have x3 := cell_block HQ3.out (j := 3) rfl; have x4 := cell_block HQ3.out (j := 4) rfl
                have g0 := frozen_block HQ3.out (j := 0); have g1 := frozen_block HQ3.out (j := 1); have g2 := frozen_block HQ3.out (j := 2); have g3 := frozen_block HQ3.out (j := 3); have g4 := frozen_block HQ3.out (j := 4))
           have HP3 := Lib.hid (And.intro (show OwnDsk w.heap.size y3 (dskV D0 _ _) D0 from ⟨_, _, rfl, hf3, hq3, hn3⟩) hGY3)
           simp only [dskV]
           clear hf3 hq3 hn3))
    all_goals
      go_wp2
      go_meet
      case rel =>
        refine ⟨_, fa3, fc3, qa3, qc3, rfl, rfl, ?_, ?_, ?_, ?_⟩
        · with_reducible first | exact heap1_at _ _ _ (by first | with_unfolding_all rfl | simp) | exact row5_filled HQ3.out _ _ _ _ _
        · with_reducible first | exact OwnDsk.gr (Gr.alloc (Gr.refl _) _) HP3.out.1 | exact OwnDsk.apart HP3.out.1 HQ3.out (fun k hk => set5_other hk)
        · first | exact hGY3.size | exact hGY2.size | exact hGY1.size | exact Nat.le_succ_of_le hGY1.size | exact Nat.le_refl _ | exact Nat.le_succ _
        · with_reducible first | exact Gr.alloc HP3.out.2 _ | exact And.left (by assumption)
  case rest =>
    obtain ⟨Bd, fa, fc, qa, qc, rfl, rfl, hrow, hown, hbd, hgr⟩ := hcut
    obtain ⟨W2, hW2⟩ : ∃ W2, W2 = wc := ⟨_, rfl⟩
    subst hW2
    obtain ⟨hBb, hBm, hz1⟩ := HBM.out
    obtain ⟨Dc, hDc⟩ : ∃ Dc, Dc = tDc := ⟨_, rfl⟩
    obtain ⟨Dx, hDx⟩ : ∃ Dx, Dx = tDx := ⟨_, rfl⟩
    have hmoK : opE.ok moO := ⟨by decide, by decide, by decide⟩
    have HOPM := Lib.hid (show ∀ (X : World) (S : Nat → Prop) (v : Value) (p : Nat) (d : Dsk), (d = tD0 ∨ d = { tD0 with fuse := 1 }) → IsBy (fun _ => True) X (.slice (some ⟨w.heap.size, 0, none⟩) 2 2) [1, 2] → X.heap[p]? = some (.cells #[.int .u8 2, strV [97], strV [], .slice (some ⟨w.heap.size, 0, none⟩) 2 2] 32 (0, 0)) → IsDsk S X v d → Calls Try.prog 19 #[v, .slice (some ⟨p, 0, none⟩) 1 1] X (OpsPost X ([moO].foldl doD d)) from
      fun X S v p d hd hby hp hx => ops_any X v _ d [moO] hx (ops_one (o := moO) hp hby hmoK) (by rcases hd with rfl | rfl <;> decide) (by rcases hd with rfl | rfl <;> decide))
    have HOPR := Lib.hid (show ∀ (X : World) (S : Nat → Prop) (v : Value) (p : Nat), X.heap[p]? = some (.cells #[.int .u8 3, strV [97], strV [122], .slice none 0 0] 32 (0, 0)) → IsDsk S X v Dc → Calls Try.prog 19 #[v, .slice (some ⟨p, 0, none⟩) 1 1] X (OpsPost X ([rnO].foldl doD Dc)) from
      fun X S v p hp hx => ops_any X v _ Dc [rnO] hx (ops_one (o := rnO) hp (by_nil X) ⟨by decide, by decide, by decide⟩) (by rw [hDc]; decide) (by rw [hDc]; decide))
    have HCRA := Lib.hid (show ∀ (X : World) (S : Nat → Prop) (v : Value), w.heap.size ≤ X.heap.size → IsDsk S X v ([moO].foldl doD D0) → Calls Try.prog 12 #[v, .int .i64 0, .int .i64 1] X fun e w' => ∃ v', e = .returned v' ∧ OwnDsk w.heap.size w' v' Dc ∧ Gr X w' from
      fun X S v hz hx => (crash_any X v _ 0 1 hx (by rw [HD0.out]; decide) (by rw [HD0.out]; decide)).mono fun e w' ⟨v', h1, h2, h3⟩ => ⟨v', h1, by rw [hDc, ← wk1, ← HD0.out]; exact h2.base hz, h3⟩)
    have HDOM := Lib.hid (show ∀ (X : World) (S : Nat → Prop) (v : Value), IsBy (fun _ => True) X (.slice (some ⟨w.heap.size, 0, none⟩) 2 2) [1, 2] → IsDsk S X v ([moO].foldl doD D0) → Calls Try.prog 10 #[v, .agg #[.int .u8 2, strV [97], strV [], .slice (some ⟨w.heap.size, 0, none⟩) 2 2]] X fun e w' => ∃ v' d, e = .returned (.tuple #[v', .int .i64 41]) ∧ OwnDsk X.heap.size w' v' d ∧ Gr X w' from
      fun X S v hby hx => (do_any X v _ _ moO hx hby hmoK (by rw [HD0.out]; decide) (by rw [HD0.out]; decide) (by decide)).mono fun e w' ⟨v', h1, h2, h3⟩ => ⟨v', _, by rw [h1, HD0.out, wk2], h2, h3⟩)
    have HDOR := Lib.hid (show ∀ (X : World) (S : Nat → Prop) (v : Value), IsDsk S X v D0 → Calls Try.prog 10 #[v, .agg #[.int .u8 4, strV [98], strV [], .slice none 0 0]] X fun e w' => ∃ v' d, e = .returned (.tuple #[v', .int .i64 42]) ∧ OwnDsk X.heap.size w' v' d ∧ Gr X w' from
      fun X S v hx => (do_any X v _ _ rmO hx (by_nil X) ⟨by decide, by decide, by decide⟩ (by rw [HD0.out]; decide) (by rw [HD0.out]; decide) (by decide)).mono fun e w' ⟨v', h1, h2, h3⟩ => ⟨v', _, by rw [h1, HD0.out, wk3], h2, h3⟩)
    have HSYX := Lib.hid (show ∀ (X : World) (S : Nat → Prop) (v : Value), IsDsk S X v Dx → Calls Try.prog 14 #[v] X fun e w' => ∃ v' d, e = .returned (.tuple #[v', .int .i64 40]) ∧ OwnDsk X.heap.size w' v' d ∧ Gr X w' from
      fun X S v hx => (sync_any X v Dx hx (by rw [hDx]; decide) (by rw [hDx]; decide)).mono fun e w' ⟨v', h1, h2, h3⟩ => ⟨v', _, by rw [h1, hDx, wk5], h2, h3⟩)
    have HRDR := Lib.hid (show ∀ (X : World) (S : Nat → Prop) (v : Value), IsDsk S X v ([rnO].foldl doD Dc) → Calls Try.prog 17 #[v, strV [122]] X fun e w' => ∃ ba bc, e = .returned (.tuple #[.slice ba 1 bc, .int .i64 0]) ∧ IsBy (fun _ => True) w' (.slice ba 1 bc) [1] ∧ Gr X w' from
      fun X S v hx => (read_any X v _ [122] (by decide) hx (by rw [hDc]; decide) (by rw [hDc]; decide)).mono fun e w' ⟨bv, h1, h2, h3⟩ => by
        rw [hDc, wk6.1] at h2
        obtain ⟨ba, bc, rfl⟩ := h2.slice
        exact ⟨ba, bc, by rw [h1, hDc, wk6.2]; rfl, IsBy.mono h2.is fun _ _ => trivial, h3⟩)
    have HUSX := Lib.hid (show ∀ (X : World) (S : Nat → Prop) (v : Value), IsDsk S X v Dx → Calls Try.prog 15 #[v] X fun e w' => e = .returned (.int .i64 2) ∧ Gr X w' from
      fun X S v hx => (used_any X v Dx hx (by rw [hDx]; decide) (by rw [hDx]; decide)).mono fun e w' ⟨h1, h2⟩ => ⟨by rw [h1, hDx, wk7.1]; rfl, h2⟩)
    have HRIX := Lib.hid (show ∀ (X : World) (S : Nat → Prop) (v : Value), IsDsk S X v Dx → Calls Try.prog 21 #[v] X fun e w' => e = .returned (.bool true) ∧ Gr X w' from
      fun X S v hx => (right_any X v Dx hx (by rw [hDx]; decide) (by rw [hDx]; decide)).mono fun e w' ⟨h1, h2⟩ => ⟨by rw [h1, hDx, wk7.2.1], h2⟩)
    have HRIN := Lib.hid (show ∀ (X : World), Calls Try.prog 21 #[.agg #[.slice none 0 0, .slice none 0 0, .int .i64 (-1), .int .i64 0, .bool false]] X fun e w' => e = .returned (.bool false) ∧ Gr X w' from
      fun X => (right_any X _ ⟨[], [], -1, 0, false⟩ (OwnDsk.is (base := 0) ⟨_, _, rfl, OwnRow.nil _ _ _, OwnRow.nil _ _ _, by decide, by decide⟩) (by decide) (by decide)).mono fun e w' ⟨h1, h2⟩ => ⟨by rw [h1, wk7.2.2], h2⟩)
    have HC2 := Lib.hid (show ∀ X, Gr W2 X → (X.cell? ⟨Bd, 0, none⟩ = some (.slice fa D0.files.length fc) ∧ X.cell? ⟨Bd, 1, none⟩ = some (.slice qa D0.queue.length qc) ∧ X.cell? ⟨Bd, 2, none⟩ = some (.int .i64 D0.quota) ∧ X.cell? ⟨Bd, 3, none⟩ = some (.int .i64 D0.fuse) ∧ X.cell? ⟨Bd, 4, none⟩ = some (.bool D0.dead)) ∧
        (X.cell? ⟨w.heap.size + 1 + 1, 0, none⟩ = some (.int .u8 2) ∧ X.cell? ⟨w.heap.size + 1 + 1, 1, none⟩ = some (strV [97]) ∧ X.cell? ⟨w.heap.size + 1 + 1, 2, none⟩ = some (strV []) ∧ X.cell? ⟨w.heap.size + 1 + 1, 3, none⟩ = some (.slice (some ⟨w.heap.size, 0, none⟩) 2 2)) from
      fun X hX => ⟨⟨cell_block (hX.same hrow) rfl, cell_block (hX.same hrow) rfl, cell_block (hX.same hrow) rfl, cell_block (hX.same hrow) rfl, cell_block (hX.same hrow) rfl⟩, cell_block ((hgr.trans hX).same hBm) rfl, cell_block ((hgr.trans hX).same hBm) rfl, cell_block ((hgr.trans hX).same hBm) rfl, cell_block ((hgr.trans hX).same hBm) rfl⟩)
    have HBY2 := Lib.hid (show ∀ X, Gr W2 X → IsBy (fun _ => True) X (.slice (some ⟨w.heap.size, 0, none⟩) 2 2) [1, 2] from fun X hX => by_two ((hgr.trans hX).same hBb))
    have HW2 := Lib.hid (And.intro hrow (And.intro hown (And.intro hbd hgr)))
    have HDC := Lib.hid hDc
    have HDX := Lib.hid hDx
    have HZW := Lib.hid (show w.heap.size ≤ W2.heap.size from by have h1 := hgr.size; omega)
    clear hBb hBm hz1 hDc hDx hrow hown hbd hgr HNEW HOPS HSYN HK0 HK1
    go_upto_region 3 with fail
    go_cut [5] from 26 to 30 (fun p wx => ∃ (Bc : Nat) (fa : Option Addr) (fc : Nat) (qa : Option Addr) (qc : Nat), p = .pointer (some ⟨Bc, 0, none⟩) ∧ wx.heap[Bc]? = some (.cells #[.slice fa Dc.files.length fc, .slice qa Dc.queue.length qc, .int .i64 Dc.quota, .int .i64 Dc.fuse, .bool Dc.dead] 25 (0, 0)) ∧ OwnDsk w.heap.size wx (dskV Dc (.slice fa Dc.files.length fc) (.slice qa Dc.queue.length qc)) Dc ∧ W2.heap.size ≤ Bc ∧ Gr W2 wx)
    case first =>
      obtain ⟨⟨e0, e1, e2, e3, e4⟩, m0, m1, m2, m3⟩ := HC2.out W2 (Gr.refl _)
      have gA : Gr W2 (W2.alloc (.cells #[.int .u8 2, strV [97], strV [], .slice (some ⟨w.heap.size, 0, none⟩) 2 2] 32)) := Gr.alloc (Gr.refl _) _
      have HC := Lib.hid (HOPM.out _ _ _ _ D0 (.inl HD0.out) (HBY2.out _ gA) (heap1_at W2 (.cells #[.int .u8 2, strV [97], strV [], .slice (some ⟨w.heap.size, 0, none⟩) 2 2] 32) _ rfl) (HW2.out.2.1.gr gA).is)
      have HGA := Lib.hid gA
      clear gA
      go_wp2_with fail
      refine HC.out.mono ?_
      rintro e y1 ⟨v1, rfl, hd1, hg1⟩
      have HC2' := Lib.hid (HCRA.out y1 _ v1 (Nat.le_trans HZW.out (HGA.out.trans hg1).size) hd1)
      have HG1' := Lib.hid (HGA.out.trans hg1)
      clear hd1 hg1
      go_wp2_with fail
      refine HC2'.out.mono ?_
      rintro e y2 ⟨v2, rfl, ⟨fv2, qv2, rfl, hf2, hq2, hn2⟩, hg2⟩
      obtain ⟨fa2, fc2, rfl⟩ := hf2.slice
      obtain ⟨qa2, qc2, rfl⟩ := hq2.slice
      have HP := Lib.hid (And.intro (show OwnDsk w.heap.size y2 (dskV Dc _ _) Dc from ⟨_, _, rfl, hf2, hq2, hn2⟩) (HG1'.out.trans hg2))
      simp only [dskV]
      clear hf2 hq2 hn2 hg2 e0 e1 e2 e3 e4 m0 m1 m2 m3
      go_wp2
      go_meet
      case rel =>
        exact ⟨_, fa2, fc2, qa2, qc2, rfl, heap1_at _ _ _ rfl, OwnDsk.gr (Gr.alloc (Gr.refl _) _) HP.out.1, HP.out.2.size, Gr.alloc HP.out.2 _⟩
    case rest =>
      obtain ⟨Bc, ca, cc, da, dc, rfl, hrow, hown, hbc, hgr⟩ := hcut
      obtain ⟨W3, hW3⟩ : ∃ W3, W3 = wc := ⟨_, rfl⟩
      subst hW3
      have HW3 := Lib.hid (And.intro hrow (And.intro hown (And.intro hbc hgr)))
      clear hrow hown hbc hgr
      have HG23 := Lib.hid (show Gr W2 W3 from HW3.out.2.2.2)
      have HK3 := Lib.hid (show ∀ X, Gr W3 X → (Gr W3 X ∧ (X.cell? ⟨Bd, 0, none⟩ = some (.slice fa D0.files.length fc) ∧ X.cell? ⟨Bd, 1, none⟩ = some (.slice qa D0.queue.length qc) ∧ X.cell? ⟨Bd, 2, none⟩ = some (.int .i64 D0.quota) ∧ X.cell? ⟨Bd, 3, none⟩ = some (.int .i64 D0.fuse) ∧ X.cell? ⟨Bd, 4, none⟩ = some (.bool D0.dead)) ∧ (X.cell? ⟨w.heap.size + 1 + 1, 0, none⟩ = some (.int .u8 2) ∧ X.cell? ⟨w.heap.size + 1 + 1, 1, none⟩ = some (strV [97]) ∧ X.cell? ⟨w.heap.size + 1 + 1, 2, none⟩ = some (strV []) ∧ X.cell? ⟨w.heap.size + 1 + 1, 3, none⟩ = some (.slice (some ⟨w.heap.size, 0, none⟩) 2 2))) from fun X hX => ⟨hX, HC2.out X (HG23.out.trans hX)⟩)
      have HK30 := Lib.hid (HK3.out W3.drew (Gr.refl W3).drew)
      go_upto_region 4 with fail
      go_cut [7] from 31 to 39 (fun e wx => e = .int .i64 41 ∧ Gr W3 wx)
      case first =>
        go_region_held3 (fun X => Gr W3 X ∧ (X.cell? ⟨Bd, 0, none⟩ = some (.slice fa D0.files.length fc) ∧ X.cell? ⟨Bd, 1, none⟩ = some (.slice qa D0.queue.length qc) ∧ X.cell? ⟨Bd, 2, none⟩ = some (.int .i64 D0.quota) ∧ X.cell? ⟨Bd, 3, none⟩ = some (.int .i64 D0.fuse) ∧ X.cell? ⟨Bd, 4, none⟩ = some (.bool D0.dead)) ∧ (X.cell? ⟨w.heap.size + 1 + 1, 0, none⟩ = some (.int .u8 2) ∧ X.cell? ⟨w.heap.size + 1 + 1, 1, none⟩ = some (strV [97]) ∧ X.cell? ⟨w.heap.size + 1 + 1, 2, none⟩ = some (strV []) ∧ X.cell? ⟨w.heap.size + 1 + 1, 3, none⟩ = some (.slice (some ⟨w.heap.size, 0, none⟩) 2 2)))
          (first | (with_reducible exact HK3.out _ (set5_gr hGY2 (by first | exact hGY1.size | exact Nat.le_refl _ | exact Nat.le_succ _))) | (with_reducible exact HK30.out) | (with_reducible exact HK3.out _ (by assumption)) | (with_reducible exact HK3.out _ (Gr.alloc (by assumption) _)) | (with_reducible exact HK3.out _ (Gr.alloc (And.left (by assumption)) _)))
          (first
            | (go_at_call 19; refine (HOPM.out _ _ _ _ D0 (.inl HD0.out) (HBY2.out _ (HG23.out.trans (And.left (by assumption)))) (by with_reducible first | exact heap1d_at _ _ _ (by first | with_unfolding_all rfl | simp) | exact heap20d_at _ _ _ _ (by first | with_unfolding_all rfl | simp) | exact heap21d_at _ _ _ _ (by first | with_unfolding_all rfl | simp) | exact heap1_at _ _ _ (by first | with_unfolding_all rfl | simp) | exact heap20_at _ _ _ _ (by first | with_unfolding_all rfl | simp) | exact heap21_at _ _ _ _ (by first | with_unfolding_all rfl | simp)) (OwnDsk.is (OwnDsk.gr (HG23.out.trans (And.left (by assumption))) HW2.out.2.1))).mono ?_
               rintro e y1 ⟨v1, rfl, ho1, hgy1⟩
               have hGY1 : Gr W3 y1 := Gr.trans (And.left (by assumption)) hgy1
               have HO1 := Lib.hid ho1
               with_reducible first | have HQ1 := Lib.hid (hgy1.same (heap1d_at _ (.cells #[.slice none 0 0, .slice none 0 0, .int .i64 0, .int .i64 0, .bool false] 25) _ rfl)) | have HQ1 := Lib.hid (hgy1.same (heap20d_at _ (.cells #[.slice none 0 0, .slice none 0 0, .int .i64 0, .int .i64 0, .bool false] 25) _ _ rfl)) | have HQ1 := Lib.hid (hgy1.same (alloc1_heap _ (.cells #[.slice none 0 0, .slice none 0 0, .int .i64 0, .int .i64 0, .bool false] 25))) | have HQ1 := Lib.hid (hgy1.same (alloc2_heap0 _ (.cells #[.slice none 0 0, .slice none 0 0, .int .i64 0, .int .i64 0, .bool false] 25) _)) | skip
               try simp only [World.size_alloc] at HQ1
               clear ho1)
            | (go_at_call 10; refine (HDOM.out _ (· < y1.heap.size) _ (HBY2.out _ (HG23.out.trans (And.left (by assumption)))) (by with_reducible first | exact HO1.out | exact IsDsk.gr (Gr.alloc (Gr.refl _) _) HO1.out)).mono ?_
               rintro e y2 ⟨v2, d2, rfl, ⟨fv2, qv2, rfl, hf2, hq2, hn2⟩, hgy2⟩
               obtain ⟨fa2, fc2, rfl⟩ := hf2.slice
               obtain ⟨qa2, qc2, rfl⟩ := hq2.slice
               have hGY2 : Gr W3 y2 := Gr.trans (And.left (by assumption)) hgy2
               with_reducible first | have HQ2 := Lib.hid (hgy2.same HQ1.out) | have HQ2 := Lib.hid (hgy2.same (alloc1_heap _ (.cells #[.slice none 0 0, .slice none 0 0, .int .i64 0, .int .i64 0, .bool false] 25))) | skip
               try simp only [World.size_alloc] at HQ2
               try (have x0 := cell_block HQ2.out (j := 0) rfl; have x1 := cell_block HQ2.out (j := 1) rfl; have x2 := cell_block HQ2.out (j := 2) rfl; have x3 := cell_block HQ2.out (j := 3) rfl; have x4 := cell_block HQ2.out (j := 4) rfl
                    have g0 := frozen_block HQ2.out (j := 0); have g1 := frozen_block HQ2.out (j := 1); have g2 := frozen_block HQ2.out (j := 2); have g3 := frozen_block HQ2.out (j := 3); have g4 := frozen_block HQ2.out (j := 4))
               simp only [dskV]
               clear hf2 hq2 hn2))
        all_goals
          go_wp2
          go_meet
          case rel => exact ⟨rfl, by with_reducible first | exact And.left (by assumption) | exact Gr.alloc hGY2 _⟩
      case rest =>
        obtain ⟨rfl, hg4⟩ := hcut
        obtain ⟨W4, hW4⟩ : ∃ W4, W4 = wc := ⟨_, rfl⟩
        subst hW4
        have HG4 := Lib.hid hg4
        clear hg4
        go_upto_region 5 with fail
        go_cut [9] from 40 to 45 (fun e wx => e = .int .i64 42 ∧ Gr W3 wx)
        case first =>
          obtain ⟨⟨e0, e1, e2, e3, e4⟩, -⟩ := HC2.out W4 (HG23.out.trans HG4.out)
          have HC := Lib.hid (HDOR.out W4 _ _ (HW2.out.2.1.gr (HG23.out.trans HG4.out)).is)
          go_wp2_with fail
          refine HC.out.mono ?_
          rintro e y2 ⟨v2, d2, rfl, ⟨fv2, qv2, rfl, hf2, hq2, hn2⟩, hgy2⟩
          obtain ⟨fa2, fc2, rfl⟩ := hf2.slice
          obtain ⟨qa2, qc2, rfl⟩ := hq2.slice
          have HG := Lib.hid (HG4.out.trans hgy2)
          simp only [dskV]
          clear hf2 hq2 hn2 hgy2 e0 e1 e2 e3 e4
          go_wp2
          go_meet
          case rel => exact ⟨rfl, Gr.alloc HG.out _⟩
        case rest =>
          obtain ⟨rfl, hg5⟩ := hcut
          obtain ⟨W5, hW5⟩ : ∃ W5, W5 = wc := ⟨_, rfl⟩
          subst hW5
          obtain ⟨hBb, hBm, hz1⟩ := HBM.out
          have hg25 := HG23.out.trans hg5
          have hg15 := HW2.out.2.2.2.trans hg25
          have hbd := HW2.out.2.2.1
          have hrow5 := hg25.same HW2.out.1
          have hown5 := HW2.out.2.1.gr hg25
          have hrc5 := hg5.same HW3.out.1
          have hoc5 := HW3.out.2.1.gr hg5
          have hbc := HW3.out.2.2.1
          have hdlt := (Array.getElem?_eq_some_iff.1 HW2.out.1).1
          have e3 := cell_block hrow5 (j := 3) rfl
          have f3 := frozen_block hrow5 (j := 3)
          obtain ⟨W6, hW6⟩ : ∃ W6, W5.setCell ⟨Bd, 3, none⟩ (.int .i64 1) = W6 := ⟨_, rfl⟩
          have hgw6 : Gr w W6 := by rw [← hW6]; exact Gr.set (HG1.out.trans hg15) (show w.heap.size ≤ Bd by omega) _
          have hk6 : ∀ k, k ≠ Bd → W6.heap[k]? = W5.heap[k]? := fun k hk => by rw [← hW6]; exact setCell_other _ hk
          have hrow6 : W6.heap[Bd]? = some (.cells #[.slice fa D0.files.length fc, .slice qa D0.queue.length qc, .int .i64 D0.quota, .int .i64 1, .bool D0.dead] 25 (0, 0)) := by rw [← hW6]; exact setCell_block hrow5 _
          have hown6 : OwnDsk w.heap.size W6 (dskV { D0 with fuse := 1 } (.slice fa D0.files.length fc) (.slice qa D0.queue.length qc)) { D0 with fuse := 1 } := by
            have h6 := OwnDsk.apart hown5 hrow5 hk6
            obtain ⟨fv, qv, h1, h2, h3, h4⟩ := h6
            simp only [dskV, Value.agg.injEq, Array.mk.injEq, List.cons.injEq] at h1
            obtain ⟨rfl, rfl, -⟩ := h1
            exact ⟨_, _, rfl, h2, h3, h4.1, (show (Lit.int .i64 1).wf = true by decide)⟩
          have hrc6 := (hk6 Bc (by omega)).trans hrc5
          have hoc6 := OwnDsk.apart hoc5 hrow5 hk6
          have hbm6 := (hk6 _ (by omega)).trans (hg15.same hBm)
          have hbb6 := (hk6 _ (by omega)).trans (hg15.same hBb)
          have HBY6 := Lib.hid (show ∀ X, Gr W6 X → IsBy (fun _ => True) X (.slice (some ⟨w.heap.size, 0, none⟩) 2 2) [1, 2] from fun X hX => by_two (hX.same hbb6))
          have HC6 := Lib.hid (show ∀ X, Gr W6 X → (X.cell? ⟨Bd, 0, none⟩ = some (.slice fa D0.files.length fc) ∧ X.cell? ⟨Bd, 1, none⟩ = some (.slice qa D0.queue.length qc) ∧ X.cell? ⟨Bd, 2, none⟩ = some (.int .i64 D0.quota) ∧ X.cell? ⟨Bd, 3, none⟩ = some (.int .i64 1) ∧ X.cell? ⟨Bd, 4, none⟩ = some (.bool D0.dead)) ∧
              (X.cell? ⟨w.heap.size + 1 + 1, 0, none⟩ = some (.int .u8 2) ∧ X.cell? ⟨w.heap.size + 1 + 1, 1, none⟩ = some (strV [97]) ∧ X.cell? ⟨w.heap.size + 1 + 1, 2, none⟩ = some (strV []) ∧ X.cell? ⟨w.heap.size + 1 + 1, 3, none⟩ = some (.slice (some ⟨w.heap.size, 0, none⟩) 2 2)) ∧
              (X.cell? ⟨Bc, 0, none⟩ = some (.slice ca Dc.files.length cc) ∧ X.cell? ⟨Bc, 1, none⟩ = some (.slice da Dc.queue.length dc) ∧ X.cell? ⟨Bc, 2, none⟩ = some (.int .i64 Dc.quota) ∧ X.cell? ⟨Bc, 3, none⟩ = some (.int .i64 Dc.fuse) ∧ X.cell? ⟨Bc, 4, none⟩ = some (.bool Dc.dead)) from
            fun X hX => ⟨⟨cell_block (hX.same hrow6) rfl, cell_block (hX.same hrow6) rfl, cell_block (hX.same hrow6) rfl, cell_block (hX.same hrow6) rfl, cell_block (hX.same hrow6) rfl⟩, ⟨cell_block (hX.same hbm6) rfl, cell_block (hX.same hbm6) rfl, cell_block (hX.same hbm6) rfl, cell_block (hX.same hbm6) rfl⟩, cell_block (hX.same hrc6) rfl, cell_block (hX.same hrc6) rfl, cell_block (hX.same hrc6) rfl, cell_block (hX.same hrc6) rfl, cell_block (hX.same hrc6) rfl⟩)
          have HOW6 := Lib.hid (And.intro hown6 (And.intro hoc6 hgw6))
          have HW6 := Lib.hid hW6
          clear hBb hBm hz1 hg25 hg15 hbd hrow5 hown5 hrc5 hoc5 hbc hdlt hW6 hgw6 hk6 hrow6 hown6 hrc6 hoc6 hbm6 hbb6 hg5
          go_upto_region 7 with fail
          rw [HW6.out]
          clear e3 f3
          go_cut [10] from 47 to 50 (fun p wx => ∃ (Bx : Nat) (fa : Option Addr) (fc : Nat) (qa : Option Addr) (qc : Nat), p = .pointer (some ⟨Bx, 0, none⟩) ∧ wx.heap[Bx]? = some (.cells #[.slice fa Dx.files.length fc, .slice qa Dx.queue.length qc, .int .i64 Dx.quota, .int .i64 Dx.fuse, .bool Dx.dead] 25 (0, 0)) ∧ IsDsk (fun _ => True) wx (dskV Dx (.slice fa Dx.files.length fc) (.slice qa Dx.queue.length qc)) Dx ∧ Gr W6 wx)
          case first =>
            obtain ⟨⟨e0, e1, e2, e3, e4⟩, ⟨m0, m1, m2, m3⟩, -⟩ := HC6.out W6 (Gr.refl _)
            have gA : Gr W6 (W6.alloc (.cells #[.int .u8 2, strV [97], strV [], .slice (some ⟨w.heap.size, 0, none⟩) 2 2] 32)) := Gr.alloc (Gr.refl _) _
            have HC := Lib.hid (HOPM.out _ _ _ _ { D0 with fuse := 1 } (.inr (by rw [HD0.out])) (HBY6.out _ gA) (heap1_at W6 (.cells #[.int .u8 2, strV [97], strV [], .slice (some ⟨w.heap.size, 0, none⟩) 2 2] 32) _ rfl) (HOW6.out.1.gr gA).is)
            have HX4 := Lib.hid (show [moO].foldl doD { D0 with fuse := 1 } = Dx from by rw [HD0.out, wk4, HDX.out])
            have HGA := Lib.hid gA
            clear gA
            go_wp2_with fail
            refine HC.out.mono ?_
            rintro e y1 ⟨v1, rfl, hd1, hg1⟩
            rw [HX4.out] at hd1
            obtain ⟨fa1, fc1, qa1, qc1, rfl⟩ := dsk_val hd1
            have HP := Lib.hid (And.intro hd1 (HGA.out.trans hg1))
            clear hd1 hg1 e0 e1 e2 e3 e4 m0 m1 m2 m3
            go_wp2
            go_meet
            case rel =>
              exact ⟨_, fa1, fc1, qa1, qc1, rfl, heap1_at _ _ _ rfl, IsDsk.mono (IsDsk.gr (Gr.alloc (Gr.refl _) _) HP.out.1) (fun _ _ => trivial), Gr.alloc HP.out.2 _⟩
          case rest =>
            obtain ⟨Bx, xa, xc, xd, xe, rfl, hrow, his, hg7⟩ := hcut
            obtain ⟨W7, hW7⟩ : ∃ W7, W7 = wc := ⟨_, rfl⟩
            subst hW7
            have hdead : Dx.dead = true := by rw [HDX.out]; rfl
            have HIX := Lib.hid (show ∀ X, Gr W7 X → (X.cell? ⟨Bx, 0, none⟩ = some (.slice xa Dx.files.length xc) ∧ X.cell? ⟨Bx, 1, none⟩ = some (.slice xd Dx.queue.length xe) ∧ X.cell? ⟨Bx, 2, none⟩ = some (.int .i64 Dx.quota) ∧ X.cell? ⟨Bx, 3, none⟩ = some (.int .i64 Dx.fuse) ∧ X.cell? ⟨Bx, 4, none⟩ = some (.bool true)) ∧ IsDsk (fun _ => True) X (.agg #[.slice xa Dx.files.length xc, .slice xd Dx.queue.length xe, .int .i64 Dx.quota, .int .i64 Dx.fuse, .bool true]) Dx from
              fun X hX => by
                rw [← hdead]
                exact ⟨⟨cell_block (hX.same hrow) rfl, cell_block (hX.same hrow) rfl, cell_block (hX.same hrow) rfl, cell_block (hX.same hrow) rfl, cell_block (hX.same hrow) rfl⟩, IsDsk.gr hX his⟩)
            have HG7 := Lib.hid hg7
            clear hrow his hg7 hdead
            go_upto_region 8 with fail
            go_cut [12] from 51 to 55 (fun e wx => e = .int .i64 40 ∧ Gr W7 wx)
            case first =>
              obtain ⟨⟨e0, e1, e2, e3, e4⟩, his⟩ := HIX.out W7 (Gr.refl _)
              have HC := Lib.hid (HSYX.out W7 _ _ his)
              clear his
              go_wp2_with fail
              refine HC.out.mono ?_
              rintro e y2 ⟨v2, d2, rfl, ⟨fv2, qv2, rfl, hf2, hq2, hn2⟩, hgy2⟩
              obtain ⟨fa2, fc2, rfl⟩ := hf2.slice
              obtain ⟨qa2, qc2, rfl⟩ := hq2.slice
              have HG := Lib.hid hgy2
              simp only [dskV]
              clear hf2 hq2 hn2 hgy2 e0 e1 e2 e3 e4
              go_wp2
              go_meet
              case rel => exact ⟨rfl, Gr.alloc HG.out _⟩
            case rest =>
              obtain ⟨rfl, hg8⟩ := hcut
              obtain ⟨W8, hW8⟩ : ∃ W8, W8 = wc := ⟨_, rfl⟩
              subst hW8
              have HG8 := Lib.hid hg8
              clear hg8
              go_upto_region 9 with fail
              go_cut [13, 14] from 56 to 63 (fun b e wx => ∃ (ba : Option Addr) (bc : Nat), b = .slice ba 1 bc ∧ e = .int .i64 0 ∧ IsBy (fun _ => True) wx (.slice ba 1 bc) [1] ∧ Gr W7 wx)
              case first =>
                obtain ⟨-, -, c0, c1, c2, c3, c4⟩ := HC6.out W8 (HG7.out.trans HG8.out)
                have gA : Gr W8 (W8.alloc (.cells #[.int .u8 3, strV [97], strV [122], .slice none 0 0] 32)) := Gr.alloc (Gr.refl _) _
                have HC := Lib.hid (HOPR.out _ _ _ _ (heap1_at W8 (.cells #[.int .u8 3, strV [97], strV [122], .slice none 0 0] 32) _ rfl) (HOW6.out.2.1.gr ((HG7.out.trans HG8.out).trans gA)).is)
                have HGA := Lib.hid (HG8.out.trans gA)
                clear gA
                go_wp2_with fail
                refine HC.out.mono ?_
                rintro e y1 ⟨v1, rfl, hd1, hg1⟩
                have HR := Lib.hid (HRDR.out y1 _ v1 hd1)
                have HG1' := Lib.hid (HGA.out.trans hg1)
                clear hd1 hg1 c0 c1 c2 c3 c4
                go_wp2_with fail
                refine HR.out.mono ?_
                rintro e y2 ⟨ba, bc, rfl, hby, hg2⟩
                have HP := Lib.hid (And.intro hby (HG1'.out.trans hg2))
                clear hby hg2
                go_wp2
                go_meet
                case rel => exact ⟨ba, bc, rfl, rfl, HP.out.1, HP.out.2⟩
              case rest =>
                obtain ⟨ba, bc, rfl, rfl, hby, hg9⟩ := hcut
                obtain ⟨W9, hW9⟩ : ∃ W9, W9 = wc := ⟨_, rfl⟩
                subst hW9
                have hgc := (HG7.out.trans hg9)
                obtain ⟨ffv, fqv, hval, hff, -, -⟩ := (HOW6.out.2.1.gr hgc)
                simp only [dskV, Value.agg.injEq, Array.mk.injEq, List.cons.injEq] at hval
                obtain ⟨rfl, -⟩ := hval
                have hff1 : IsFls (fun b => w.heap.size ≤ b) W9 (.slice ca 1 cc) [⟨[97], [1]⟩] := by have := hff.is; rw [HDC.out] at this; exact this
                obtain ⟨-, -, c0', -⟩ := HC6.out W9 hgc
                have c0 : W9.cell? ⟨Bc, 0, none⟩ = some (.slice ca 1 cc) := by rw [HDC.out] at c0'; exact c0'
                clear c0'
                obtain ⟨rb, ro, rc, hrv, _, _, _, hrows⟩ := hff1.some (by decide)
                simp only [Value.slice.injEq] at hrv
                obtain ⟨rfl, -, rfl⟩ := hrv
                obtain ⟨bv, hr, hbv⟩ := hrows 0 ⟨[97], [1]⟩ rfl
                obtain ⟨va, vc, rfl, _, _⟩ := IsBy.len hbv
                have r1 : W9.cell? ⟨rb, ro + 1, none⟩ = some (.slice va 1 vc) := by have := hr 1 _ rfl; simpa using this
                have q1 : (convert 30 9 (.slice va 1 vc)).run Try.prog W9 = .ok (strV [1]) W9 := conv_by (l := [1]) hbv
                have q2 := conv_by hby
                have q3 : eqB [1] [1] = true := eqB_iff.2 rfl
                obtain ⟨⟨x0, x1, x2, x3, x4⟩, hix⟩ := HIX.out W9 hg9
                have HCU := Lib.hid (HUSX.out W9 _ _ hix)
                have HG9 := Lib.hid hg9
                clear hgc hff hff1 hrows hr hbv hby hg9 hix
                go_wp2_with (first
                  | (go_at_call 15; refine HCU.out.mono ?_; rintro e y1 ⟨rfl, hy1⟩
                     obtain ⟨⟨z0, z1, z2, z3, z4⟩, hix⟩ := HIX.out y1 (HG9.out.trans hy1)
                     have HRI := Lib.hid (HRIX.out y1 _ _ hix)
                     have HY1 := Lib.hid (HG9.out.trans hy1)
                     clear hix hy1)
                  | (go_at_call 21; refine HRI.out.mono ?_; rintro e y2 ⟨rfl, hy2⟩
                     have HY2 := Lib.hid (HY1.out.trans hy2)
                     clear hy2 HRI)
                  | (go_at_call 21; refine (HRIN.out _).mono ?_; rintro e y3 ⟨rfl, hy3⟩
                     have HY3 := Lib.hid (HY2.out.trans hy3)
                     clear hy3))
                go_ret
                exact ⟨rfl, (HOW6.out.2.2.trans HG7.out).trans HY3.out⟩
end Go.Proofs.Ytbgcjbpkgijmeaa
