/-
  Walks: a chain.
-/
import Derived.Test.YtofnoillkfagiaaFg
namespace Go.Proofs.Ytofnoillkfagiaa
open Go Go.RowKit
theorem run_store_complex (P : Program) (w : World) (a : Addr) (k : FloatKind) (x y : Nat) (m : Mode) : (store a (.complex k x y) m).run P w = stored P w a (.complex k x y) m := run_store P w a _ m rfl
attribute [local go_sem] Oper.semAt_some run_store_complex

theorem bytes_any (w : World) (a : Option Addr) (n c : Nat) : Calls Try.prog 26 #[.slice a n c] w fun e w' => e = .returned (.func (.func 31) #[] #[.pointer (some ⟨w.heap.size, 0, none⟩)]) ∧ w.alloc (.cells #[.slice a n c] 24) = w' := by
  go_enter Try.func26, Try.ntmps26
  go_wp2
  go_ret
  exact ⟨rfl, rfl⟩
theorem bytes1_enters : ∀ args w, (callFunc 31 args).run Try.prog w = .ok (.enter 31 args) w := enters_of Try.func31 (by kernel_rfl) rfl
/-- What the iterator leans on. -/
def BytesNd (base0 B1 : Nat) : Nat → Obj → Prop := fun b o => isRec o = false ∧ (b < base0 ∨ b = B1)
def BytesY (bs : List Int) (k : Nat) (args : Array Value) (_ : World) : Prop := ∃ z, bs[k]? = some z ∧ args = #[.int .u8 z]
theorem bytes_iter (w : World) (base0 : Nat) (v : Value) (pss : List (List Int)) (hx : IsParts (· < base0) w v pss) (hl : pss.length ≤ 1000000) (hps : ∀ ps ∈ pss, ps.length ≤ 1000000) :
    Iter Try.prog 31 #[.pointer (some ⟨w.heap.size, 0, none⟩)] pss.flatten.length (BytesY pss.flatten) (BytesNd base0 w.heap.size) (w.alloc (.cells #[v] 24)) := by
  intro ll J Jx W hW hJ _ hY hJ0
  have h1 := hW.same (alloc1_heap w (.cells #[v] 24))
  have hG : Gr w W := Gr.trans (Gr.alloc (Gr.refl w) _) hW
  have hxW : IsParts (· < base0) W v pss := by
    obtain ⟨pvs, p1, p2, p3⟩ := hx
    exact ⟨pvs, p1, p2.gr hG, fun i ps pv ha hb => SL.gr hG (p3 i ps pv ha hb)⟩
  exact bytes1_in (· < base0) pss w.heap.size v (BytesNd base0 w.heap.size) hl hps (fun _ _ _ => ⟨rfl, .inr rfl⟩) (fun b hb _ _ _ => ⟨rfl, .inl hb⟩) ll J Jx W h1 hxW hY hJ0

/-- The point behind bytes. -/
def chainP (z : Int × Int) (bs : List Int) : Int × Int := bs.foldl (fun z c => (nxR z.1 z.2 c, nxI z.1 z.2)) z
def Pt (z : Int × Int) : Prop := 0 ≤ z.1 ∧ z.1 ≤ 10006 ∧ 0 ≤ z.2 ∧ z.2 ≤ 10006
theorem nx_pt (a b c : Int) : Pt (nxR a b c, nxI a b) := by
  unfold Pt nxR nxI
  simp only
  omega
theorem chainP_snoc (z : Int × Int) (bs : List Int) (c : Int) : chainP z (bs ++ [c]) = (nxR (chainP z bs).1 (chainP z bs).2 c, nxI (chainP z bs).1 (chainP z bs).2) := by
  unfold chainP; rw [List.foldl_append]; rfl
theorem chainP_pt {z : Int × Int} (h : Pt z) : ∀ bs, Pt (chainP z bs)
  | [] => h
  | c :: bs => chainP_pt (nx_pt z.1 z.2 c) bs
theorem chainP_take {z : Int × Int} {bs : List Int} {k : Nat} {c : Int} (h : bs[k]? = some c) : chainP z (bs.take (k + 1)) = (nxR (chainP z (bs.take k)).1 (chainP z (bs.take k)).2 c, nxI (chainP z (bs.take k)).1 (chainP z (bs.take k)).2) := by
  rw [List.take_add_one, h]; exact chainP_snoc _ _ _

/-- Between two rounds. -/
def ChI (w : World) (z : Int × Int) (bs : List Int) (k : Nat) (X : World) : Prop :=
  ∃ p q, X.heap[w.heap.size]? = some (.cells #[.complex .f64 p q] 27 (0, 0)) ∧ W p (chainP z (bs.take k)).1 ∧ W q (chainP z (bs.take k)).2 ∧ Below w.heap.size w X
theorem ChI.data {w : World} {z : Int × Int} {bs : List Int} {k n : Nat} (hn : w.heap.size ≤ n) : OfData n (ChI w z bs k) := by
  rintro X Y ⟨p, q, h1, h2, h3, h4⟩ hk
  exact ⟨p, q, hk.keep _ _ h1 (.inl rfl), h2, h3, hk.below hn (Nat.le_refl _) h4⟩

set_option maxRecDepth 100000 in
set_option maxHeartbeats 1000000 in
theorem chain_any (w : World) (x y : Nat) (z : Int × Int) (hx : W x z.1) (hy : W y z.2) (hz : Pt z) (v : Value) (pss : List (List Int)) (hp : IsParts (· < w.heap.size) w v pss)
    (hl : pss.length ≤ 1000) (hps : ∀ ps ∈ pss, ps.length ≤ 1000) (hby : ∀ c ∈ pss.flatten, 0 ≤ c ∧ c ≤ 255) :
    Calls Try.prog 15 #[.complex .f64 x y, v] w fun e w' => ∃ p q, e = .returned (.complex .f64 p q) ∧ W p (chainP z pss.flatten).1 ∧ W q (chainP z pss.flatten).2 ∧ Gr w w' := by
  obtain ⟨va, vc, rfl, _, _⟩ := hp.len
  obtain ⟨W1, hW1⟩ : ∃ W1, w.alloc (.cells #[.complex .f64 x y] 27) = W1 := ⟨_, rfl⟩
  have g1 : Gr w W1 := by rw [← hW1]; exact Gr.alloc (Gr.refl _) _
  have hB : W1.heap[w.heap.size]? = some (.cells #[.complex .f64 x y] 27 (0, 0)) := by rw [← hW1]; exact alloc1_heap _ _
  have hsz : W1.heap.size = w.heap.size + 1 := by rw [← hW1]; simp
  have hpW : IsParts (· < w.heap.size) W1 (.slice va pss.length vc) pss := by
    obtain ⟨pvs, p1, p2, p3⟩ := hp
    exact ⟨pvs, p1, p2.gr g1, fun i ps pv ha hb => SL.gr g1 (p3 i ps pv ha hb)⟩
  have HIT := Lib.hid (bytes_iter W1 w.heap.size (.slice va pss.length vc) pss hpW (by omega) (fun ps h => by have := hps ps h; omega))
  obtain ⟨z1, z2, z3, z4⟩ := id hz
  have HR := Lib.hid (right_any x y z.1 z.2 hx hy (by omega) (by omega) W1)
  rw [okPart_true z1 z2, okPart_true z3 z4] at HR
  have c0 := cell_block hB (j := 0) (v := .complex .f64 x y) rfl
  have HB := Lib.hid hB
  have HG1 := Lib.hid g1
  have HX := Lib.hid hx
  have HY := Lib.hid hy
  have HZ := Lib.hid hz
  have HSZ := Lib.hid hsz
  have HBY := Lib.hid hby
  have HW1 := Lib.hid hW1
  clear g1 hB hsz hpW hp hx hy hz hby hW1 hps
  refine (callsIn_wide (n := 0)).1 ?_
  refine callsIn_of_wp_marks Try.func15 rfl trivial ?_ rfl
  simp only [Try.ntmps15, List.size_toArray, List.length_cons, List.length_nil, Nat.reduceAdd, Nat.reduceSub, Array.replicate_succ, Array.replicate_zero, List.push_toArray, List.append_toArray, List.nil_append, List.cons_append]
  gi_wp2_with fail
  rw [HW1.out]
  refine ⟨trivial, rfl, (callsIn_wide.2 HR.out).mono ?_⟩
  rintro e w1 ⟨rfl, rfl⟩
  gi_wp2_with fail
  refine ⟨trivial, rfl, (callsIn_wide.2 (bytes_any _ _ _ _)).mono ?_⟩
  rintro e w2 ⟨rfl, rfl⟩
  gi_wp2_with fail
  have hg2 : Gr w1 (w1.alloc (.cells #[.slice va pss.length vc] 24)) := Gr.alloc (Gr.refl _) _
  refine range_iter (gf := 31) rfl bytes1_enters HIT.out (Gr.refl _) (fun b o h => h.1) (by rintro _ _ _ ⟨c, _, rfl⟩; rfl)
    (ChI w z pss.flatten) (fun _ _ => False) (fun k => ChI.data ?_) (fun _ _ _ h _ => h) ?_ ?_ ?_ ?_
  · simp [HSZ.out]; omega
  · exact ⟨x, y, hg2.same HB.out, HX.out, HY.out, Gr.below (HG1.out.trans hg2)⟩
  · rintro l k args A hk hI ⟨c, hc, rfl⟩
    have HI := Lib.hid hI
    have HC := Lib.hid hc
    clear hI hc
    gi_wp2
    refine ⟨fun A' => ChI w z pss.flatten k A', ?_, HI.out, Kp.refl _ _, Kp.refl _ _, ?_⟩
    · exact ChI.data (by simp [HSZ.out]; omega)
    · rintro A2 ⟨p, q, h1, h2, h3, h4⟩ hkA
      have c1 := cell_block h1 (j := 0) rfl
      have f1 := frozen_block h1 (j := 0)
      have lB : w.heap.size < A2.heap.size := (Array.getElem?_eq_some_iff.1 h1).1
      obtain ⟨t1, t2, t3, t4⟩ := chainP_pt HZ.out (pss.flatten.take k)
      obtain ⟨u1, u2⟩ := HBY.out c (List.mem_of_getElem? HC.out)
      have HNX := Lib.hid (next_any h2 h3 t1 t2 t3 t4 u1 u2 A2)
      have HCT := Lib.hid (chainP_take (z := z) HC.out)
      have H1 := Lib.hid h1
      have H4 := Lib.hid h4
      clear h1 h2 h3 h4 hkA t1 t2 t3 t4 u1 u2
      gi_wp2_with fail
      refine ⟨trivial, rfl, (callsIn_wide.2 HNX.out).mono ?_⟩
      rintro e w3 ⟨p', q', rfl, hp', hq', rfl⟩
      have HP := Lib.hid hp'
      have HQ := Lib.hid hq'
      clear hp' hq'
      gi_wp2
      refine ⟨⟨p', q', setCell_block H1.out _, ?_, ?_, Below.setCell H4.out (p := ⟨w.heap.size, 0, none⟩) (Nat.le_refl _) _⟩, ?_, ?_⟩
      · rw [HCT.out]; exact HP.out
      · rw [HCT.out]; exact HQ.out
      · refine Kp.setCell (Kp.refl _ _) _ _ fun o ho hn => ?_
        rcases hn.2 with hn | hn
        · exact absurd hn (Nat.lt_irrefl _)
        · have := HSZ.out; simp only at hn; omega
      · refine Kp.setCell (Kp.refl _ _) _ _ fun o ho hn => ?_
        have h1 := H1.out
        simp only at ho
        rw [h1] at ho
        cases ho
        cases hn
  · rintro D X hD ⟨p, q, h1, h2, h3, h4⟩ hDD
    have c1 := cell_block h1 (j := 0) rfl
    have lB : w.heap.size < X.heap.size := (Array.getElem?_eq_some_iff.1 h1).1
    rw [List.take_length] at h2 h3
    have H2 := Lib.hid h2
    have H3 := Lib.hid h3
    have H4 := Lib.hid h4
    have HD := Lib.hid hDD
    have hD2 : w.heap.size ≤ D := by have := HSZ.out; simp at hD; omega
    clear h1 h2 h3 h4 hDD hD
    gi_wp2
    refine ⟨by simp, .inl ⟨D, _, rfl, run_takeDeferred HD.out, ?_⟩⟩
    refine ⟨.complex .f64 p q, by simp [results, Try.f15, go_sem], p, q, rfl, H2.out, H3.out, ?_⟩
    exact Below.trans H4.out ⟨rfl, rfl, rfl, by simp, fun r hr => World.putObj_heap_other (by omega)⟩
  · intro D c W hD h
    exact h.elim
end Go.Proofs.Ytofnoillkfagiaa
