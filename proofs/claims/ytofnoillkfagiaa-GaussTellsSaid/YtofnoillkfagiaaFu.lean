/-
  Walks: a chain from any number.
-/
import Derived.Test.YtofnoillkfagiaaFt
namespace Go.Proofs.Ytofnoillkfagiaa
open Go Go.RowKit

attribute [local go_sem] run_store_complex Oper.semAt_some
set_option maxRecDepth 100000 in
set_option maxHeartbeats 1000000 in
theorem chain_bad (w : World) (x y : Nat) {o u : Option Nat} (hx : PartIs x o) (hy : PartIs y u) (hbad : (o.isSome && u.isSome) = false) (v : Value) (pss : List (List Int)) (hp : IsParts (· < w.heap.size) w v pss)
    (hl : pss.length ≤ 1000) (hps : ∀ ps ∈ pss, ps.length ≤ 1000) (hby : ∀ c ∈ pss.flatten, 0 ≤ c ∧ c ≤ 255) :
    Calls Try.prog 15 #[.complex .f64 x y, v] w fun e w' => ∃ p q, e = .returned (.complex .f64 p q) ∧ W p (chainP (0, 0) pss.flatten).1 ∧ W q (chainP (0, 0) pss.flatten).2 ∧ Gr w w' := by
  obtain ⟨z, hzz⟩ : ∃ z : Int × Int, z = (0, 0) := ⟨_, rfl⟩
  rw [← hzz]
  have hz : Pt z := by rw [hzz]; exact ⟨by decide, by decide, by decide, by decide⟩
  have hx0 : W 0 z.1 := by rw [hzz]; exact W_0
  have hy0 : W 0 z.2 := by rw [hzz]; exact W_0
  obtain ⟨va, vc, rfl, _, _⟩ := hp.len
  obtain ⟨W1, hW1⟩ : ∃ W1, w.alloc (.cells #[.complex .f64 x y] 27) = W1 := ⟨_, rfl⟩
  have g1 : Gr w W1 := by rw [← hW1]; exact Gr.alloc (Gr.refl _) _
  have hB : W1.heap[w.heap.size]? = some (.cells #[.complex .f64 x y] 27 (0, 0)) := by rw [← hW1]; exact alloc1_heap _ _
  have hsz : W1.heap.size = w.heap.size + 1 := by rw [← hW1]; simp
  obtain ⟨W2, hW2⟩ : ∃ W2, W1.setCell ⟨w.heap.size, 0, none⟩ (.complex .f64 0 0) = W2 := ⟨_, rfl⟩
  have g2 : Gr w W2 := by rw [← hW2]; exact Gr.set g1 (Nat.le_refl _) _
  have hB2 : W2.heap[w.heap.size]? = some (.cells #[.complex .f64 0 0] 27 (0, 0)) := by rw [← hW2]; exact setCell_block hB _
  have hsz2 : W2.heap.size = w.heap.size + 1 := by rw [← hW2]; simpa using hsz
  have hpW : IsParts (· < w.heap.size) W2 (.slice va pss.length vc) pss := by
    obtain ⟨pvs, p1, p2, p3⟩ := hp
    exact ⟨pvs, p1, p2.gr g2, fun i ps pv ha hb => SL.gr g2 (p3 i ps pv ha hb)⟩
  have HIT := Lib.hid (bytes_iter W2 w.heap.size (.slice va pss.length vc) pss hpW (by omega) (fun ps h => by have := hps ps h; omega))
  have HR := right_part hx hy W1
  rw [hbad] at HR
  have HR := Lib.hid HR
  have c0 := cell_block hB (j := 0) (v := .complex .f64 x y) rfl
  have f0 := frozen_block hB (j := 0)
  have lB : w.heap.size < W1.heap.size := by omega
  have HB := Lib.hid hB2
  have HG1 := Lib.hid g2
  have HX := Lib.hid hx0
  have HY := Lib.hid hy0
  have HZ := Lib.hid hz
  have HSZ := Lib.hid hsz2
  have HBY := Lib.hid hby
  have HW1 := Lib.hid hW1
  have HW2 := Lib.hid hW2
  clear g1 g2 hB hB2 hsz hsz2 hpW hp hx hy hz hby hW1 hW2 hps hx0 hy0 hzz hbad
  refine (callsIn_wide (n := 0)).1 ?_
  refine callsIn_of_wp_marks Try.func15 rfl trivial ?_ rfl
  simp only [Try.ntmps15, List.size_toArray, List.length_cons, List.length_nil, Nat.reduceAdd, Nat.reduceSub, Array.replicate_succ, Array.replicate_zero, List.push_toArray, List.append_toArray, List.nil_append, List.cons_append]
  gi_wp2_with fail
  rw [HW1.out]
  refine ⟨trivial, rfl, (callsIn_wide.2 HR.out).mono ?_⟩
  rintro e w1 ⟨rfl, rfl⟩
  gi_wp2_with fail
  rw [HW2.out]
  refine ⟨trivial, rfl, (callsIn_wide.2 (bytes_any _ _ _ _)).mono ?_⟩
  rintro e w2 ⟨rfl, rfl⟩
  gi_wp2_with fail
  have hg2 : Gr W2 (W2.alloc (.cells #[.slice va pss.length vc] 24)) := Gr.alloc (Gr.refl _) _
  refine range_iter (gf := 31) rfl bytes1_enters HIT.out (Gr.refl _) (fun b o h => h.1) (by rintro _ _ _ ⟨c, _, rfl⟩; rfl)
    (ChI w z pss.flatten) (fun _ _ => False) (fun k => ChI.data ?_) (fun _ _ _ h _ => h) ?_ ?_ ?_ ?_
  · simp [HSZ.out]; omega
  · exact ⟨0, 0, hg2.same HB.out, HX.out, HY.out, Gr.below (HG1.out.trans hg2)⟩
  · rintro l k args A hk hI ⟨c, hc, rfl⟩
    have HI := Lib.hid hI
    have HC := Lib.hid hc
    clear hI hc
    gi_wp2
    refine ⟨fun A' => ChI w z pss.flatten k A', ?_, HI.out, Kp.refl _ _, Kp.refl _ _, ?_⟩
    · exact ChI.data (by simp [HSZ.out]; omega)
    · rintro A2 ⟨p, q, h1, h2, h3, h4⟩ hkA
      have c1 := cell_block h1 (j := 0) rfl
      have f1 := frozen_block h1 (j := 0)
      have lB : w.heap.size < A2.heap.size := (Array.getElem?_eq_some_iff.1 h1).1
      obtain ⟨t1, t2, t3, t4⟩ := chainP_pt HZ.out (pss.flatten.take k)
      obtain ⟨u1, u2⟩ := HBY.out c (List.mem_of_getElem? HC.out)
      have HNX := Lib.hid (next_any h2 h3 t1 t2 t3 t4 u1 u2 A2)
      have HCT := Lib.hid (chainP_take (z := z) HC.out)
      have H1 := Lib.hid h1
      have H4 := Lib.hid h4
      clear h1 h2 h3 h4 hkA t1 t2 t3 t4 u1 u2
      gi_wp2_with fail
      refine ⟨trivial, rfl, (callsIn_wide.2 HNX.out).mono ?_⟩
      rintro e w3 ⟨p', q', rfl, hp', hq', rfl⟩
      have HP := Lib.hid hp'
      have HQ := Lib.hid hq'
      clear hp' hq'
      gi_wp2
      refine ⟨⟨p', q', setCell_block H1.out _, ?_, ?_, Below.setCell H4.out (p := ⟨w.heap.size, 0, none⟩) (Nat.le_refl _) _⟩, ?_, ?_⟩
      · rw [HCT.out]; exact HP.out
      · rw [HCT.out]; exact HQ.out
      · refine Kp.setCell (Kp.refl _ _) _ _ fun o ho hn => ?_
        rcases hn.2 with hn | hn
        · exact absurd hn (Nat.lt_irrefl _)
        · have := HSZ.out; simp only at hn; omega
      · refine Kp.setCell (Kp.refl _ _) _ _ fun o ho hn => ?_
        have h1 := H1.out
        simp only at ho
        rw [h1] at ho
        cases ho
        cases hn
  · rintro D X hD ⟨p, q, h1, h2, h3, h4⟩ hDD
    have c1 := cell_block h1 (j := 0) rfl
    have lB : w.heap.size < X.heap.size := (Array.getElem?_eq_some_iff.1 h1).1
    rw [List.take_length] at h2 h3
    have H2 := Lib.hid h2
    have H3 := Lib.hid h3
    have H4 := Lib.hid h4
    have HD := Lib.hid hDD
    have hD2 : w.heap.size ≤ D := by have := HSZ.out; simp at hD; omega
    clear h1 h2 h3 h4 hDD hD
    gi_wp2
    refine ⟨by simp, .inl ⟨D, _, rfl, run_takeDeferred HD.out, ?_⟩⟩
    refine ⟨.complex .f64 p q, by simp [results, Try.f15, go_sem], p, q, rfl, H2.out, H3.out, ?_⟩
    exact Below.trans H4.out ⟨rfl, rfl, rfl, by simp, fun r hr => World.putObj_heap_other (by omega)⟩
  · intro D c W hD h
    exact h.elim
end Go.Proofs.Ytofnoillkfagiaa
