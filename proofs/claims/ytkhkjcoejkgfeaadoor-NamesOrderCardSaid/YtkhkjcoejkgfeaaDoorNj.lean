/-
  Walk: Find.
  Conditions: none beyond those typed at each theorem.
-/
import Derived.Test.YtkhkjcoejkgfeaaDoorNi
namespace Go.Proofs.YtkhkjcoejkgfeaaDoor
open Go Go.RowKit
attribute [local go_sem] Oper.semAt_some

/-- The place of the first file with that name; -1: there is none. -/
def FindIs (ns : List (List UInt8)) (o : Option (List UInt8)) (z : Int) : Prop := match o with
  | none => z = -1
  | some l => (z = -1 ∧ ∀ j, j < ns.length → ns[j]? ≠ some l) ∨ ∃ i : Nat, z = i ∧ ns[i]? = some l ∧ ∀ j, j < i → ns[j]? ≠ some l

/-- Between two rounds. -/
def FnI (w : World) (b3 : Nat) (ns : List (List UInt8)) (l : List UInt8) (k : Nat) (X : World) : Prop :=
  X.heap[w.heap.size + 1]? = some (.cells #[.int .i64 0] 3 (0, 0)) ∧ X.heap[b3]? = some (.cells #[strV l] 9 (0, 0)) ∧ (∀ j, j < k → ns[j]? ≠ some l) ∧ Below w.heap.size w X
theorem FnI.data {w : World} {b3 : Nat} {ns : List (List UInt8)} {l : List UInt8} {k n : Nat} (hn : w.heap.size ≤ n) : OfData n (FnI w b3 ns l k) := by
  rintro X Y ⟨h1, h2, h3, h4⟩ hk
  exact ⟨hk.keep _ _ h1 (.inl rfl), hk.keep _ _ h2 (.inl rfl), h3, hk.below hn (Nat.le_refl _) h4⟩
def FnX (w : World) (ns : List (List UInt8)) (l : List UInt8) (c : Code) (X : World) : Prop :=
  c = .ret ∧ ∃ i : Nat, X.heap[w.heap.size + 1]? = some (.cells #[.int .i64 i] 3 (0, 0)) ∧ ns[i]? = some l ∧ (∀ j, j < i → ns[j]? ≠ some l) ∧ Below w.heap.size w X
theorem FnX.data {w : World} {ns : List (List UInt8)} {l : List UInt8} {c : Code} {n : Nat} (hn : w.heap.size ≤ n) : OfData n (FnX w ns l c) := by
  rintro X Y ⟨h0, i, h1, h2, h3, h4⟩ hk
  exact ⟨h0, i, hk.keep _ _ h1 (.inl rfl), h2, h3, hk.below hn (Nat.le_refl _) h4⟩

set_option maxRecDepth 100000 in
set_option maxHeartbeats 1000000 in
theorem find_any (w : World) (hT : Tab w) (x : Idn) (v : Value) (ns : List (List UInt8)) (hx : IsFiles (· < w.heap.size) w v ns) (hl : ns.length ≤ 1000) :
    Calls Tryd.prog 13 #[v, idV x] w fun e w' => ∃ z, e = .returned (.int .i64 z) ∧ FindIs ns (nameOf x) z ∧ Gr w w' := by
  obtain ⟨va, vc, rfl, _, _⟩ := hx.len
  obtain ⟨W1, hW1⟩ : ∃ W1, (w.alloc (.cells #[.int .u8 x.kind, .int .i64 x.seq, .int .i64 x.fmt] 23)).alloc (.cells #[.int .i64 0] 3) = W1 := ⟨_, rfl⟩
  have g1 : Gr w W1 := by rw [← hW1]; exact (Gr.alloc (Gr.refl _) _).alloc _
  have hB0 : W1.heap[w.heap.size]? = some (.cells #[.int .u8 x.kind, .int .i64 x.seq, .int .i64 x.fmt] 23 (0, 0)) := by rw [← hW1]; exact alloc2_heap0 _ _ _
  have hB1 : W1.heap[w.heap.size + 1]? = some (.cells #[.int .i64 0] 3 (0, 0)) := by rw [← hW1]; exact alloc2_heap1 _ _ _
  have hsz : W1.heap.size = w.heap.size + 2 := by rw [← hW1]; simp
  have hN := name_any x (hT.gr g1)
  unfold nameV at hN
  have c0 := cell_block hB0 (j := 0) (v := .int .u8 x.kind) rfl
  have c1 := cell_block hB0 (j := 1) (v := .int .i64 x.seq) rfl
  have c2 := cell_block hB0 (j := 2) (v := .int .i64 x.fmt) rfl
  have HX := Lib.hid (hx.gr g1)
  have HB1 := Lib.hid hB1
  have HG1 := Lib.hid g1
  have HSZ := Lib.hid hsz
  have HW1 := Lib.hid hW1
  clear hT g1 hB0 hB1 hsz hW1 hx
  generalize nameOf x = o at *
  cases o with
  | none =>
    replace hN : Calls Tryd.prog 8 #[idV x] W1 fun e w' => e = .returned (.tuple #[strV [], .int .i64 2]) ∧ Gr W1 w' := hN
    have HN := Lib.hid hN
    clear hN
    refine (callsIn_wide (n := 0)).1 ?_
    refine callsIn_of_wp_marks Tryd.func13 rfl trivial ?_ rfl
    simp only [Tryd.ntmps13, List.size_toArray, List.length_cons, List.length_nil, Nat.reduceAdd, Nat.reduceSub, Array.replicate_succ, Array.replicate_zero, List.push_toArray, List.append_toArray, List.nil_append, List.cons_append]
    gi_wp2_with fail
    rw [HW1.out]
    refine ⟨trivial, rfl, (callsIn_wide.2 HN.out).mono ?_⟩
    rintro e w2 ⟨rfl, hg2⟩
    have hB2 := hg2.same HB1.out
    have hsz2 : w.heap.size + 2 ≤ w2.heap.size := by have := hg2.size; have := HSZ.out; omega
    have d1 := cell_block hB2 (j := 0) (v := .int .i64 0) rfl
    have f1 := frozen_block hB2 (j := 0)
    have l1 : w.heap.size + 1 < w2.heap.size := by omega
    have HG2 := Lib.hid (HG1.out.trans hg2)
    have HB2 := Lib.hid hB2
    clear hB2 hg2 c0 c1 c2
    gi_wp2
    have hb := (Below.heap_alloc (w2.setCell ⟨w.heap.size + 1, 0, none⟩ (.int .i64 (-1))) (.cells #[.string ⟨#[]⟩] 9) (w.heap.size + 1) (by simp; omega)).trans (setCell_block HB2.out (j := 0) (.int .i64 (-1)))
    refine ⟨.int .i64 (-1), results_cell rfl (fun w => by simp [go_sem]) rfl (cell_block hb rfl), -1, rfl, rfl, ?_⟩
    exact Gr.alloc (Gr.set HG2.out (by simp) _) _
  | some l =>
    replace hN : Calls Tryd.prog 8 #[idV x] W1 fun e w' => e = .returned (.tuple #[strV l, .int .i64 0]) ∧ Gr W1 w' := hN
    have HN := Lib.hid hN
    clear hN
    refine (callsIn_wide (n := 0)).1 ?_
    refine callsIn_of_wp_marks Tryd.func13 rfl trivial ?_ rfl
    simp only [Tryd.ntmps13, List.size_toArray, List.length_cons, List.length_nil, Nat.reduceAdd, Nat.reduceSub, Array.replicate_succ, Array.replicate_zero, List.push_toArray, List.append_toArray, List.nil_append, List.cons_append]
    gi_wp2_with fail
    rw [HW1.out]
    refine ⟨trivial, rfl, (callsIn_wide.2 HN.out).mono ?_⟩
    rintro e w2 ⟨rfl, hg2⟩
    have hB2 := hg2.same HB1.out
    have hsz2 : w.heap.size + 2 ≤ w2.heap.size := by have := hg2.size; have := HSZ.out; omega
    have HG2 := Lib.hid (HG1.out.trans hg2)
    have HB2 := Lib.hid hB2
    have HX2 := Lib.hid (HX.out.gr hg2)
    clear hB2 hg2 c0 c1 c2
    gi_wp2_with fail
    refine ⟨trivial, rfl, (callsIn_wide.2 (called_any _ _ _ _)).mono ?_⟩
    rintro e w4 ⟨rfl, hw4⟩
    obtain ⟨w3, hw3⟩ : ∃ w3, w2.alloc (.cells #[.string ⟨l.toArray⟩] 9) = w3 := ⟨_, rfl⟩
    have hG23 : Gr w2 w3 := by rw [← hw3]; exact Gr.alloc (Gr.refl _) _
    have hB3 : w3.heap[w2.heap.size]? = some (.cells #[strV l] 9 (0, 0)) := by rw [← hw3]; exact alloc1_heap _ _
    have hs3 : w3.heap.size = w2.heap.size + 1 := by rw [← hw3]; simp
    have HIT := Lib.hid (called_iter w3 w.heap.size (.slice va ns.length vc) ns (HX2.out.gr hG23) (by omega))
    replace hw4 : w3.alloc (.cells #[.slice va ns.length vc] 32) = w4 := by rw [← hw3]; exact hw4
    have hG34 : Gr w3 w4 := by rw [← hw4]; exact Gr.alloc (Gr.refl _) _
    have hs4 : w4.heap.size = w3.heap.size + 1 := by rw [← hw4]; simp
    rw [hw4] at HIT
    have HB3 := Lib.hid (hG34.same hB3)
    have HB4 := Lib.hid (hG34.same (hG23.same HB2.out))
    have HG4 := Lib.hid ((HG2.out.trans hG23).trans hG34)
    have HS := Lib.hid (And.intro hsz2 (And.intro hs3 hs4))
    rw [hw3]
    clear hw3 hG23 hB3 hs3 hw4 hG34 hs4
    gi_wp2_with fail
    refine range_iter (gf := 26) rfl called1_enters HIT.out (Gr.refl _) (fun b o h => h.1) (by rintro _ _ _ ⟨c, _, rfl⟩; rfl)
      (FnI w w2.heap.size ns l) (FnX w ns l) (fun k => FnI.data ?_) (fun c => FnX.data ?_) ?_ ?_ ?_ ?_
    · exact HG4.out.size
    · exact HG4.out.size
    · exact ⟨HB4.out, HB3.out, fun j h => absurd h (Nat.not_lt_zero _), Gr.below HG4.out⟩
    · rintro ll k args A hk hI ⟨n, hn, rfl⟩
      have HI := Lib.hid hI
      have HN2 := Lib.hid hn
      clear hI hn
      gi_wp2
      refine ⟨FnI w w2.heap.size ns l k, FnI.data HG4.out.size, HI.out, Kp.refl _ _, Kp.refl _ _, ?_⟩
      rintro A2 ⟨h1, h2, h3, h4⟩ hkA
      have e3 := cell_block h2 (j := 0) (v := strV l) rfl
      have e1 := cell_block h1 (j := 0) (v := .int .i64 0) rfl
      have f1 := frozen_block h1 (j := 0)
      have l1 : w.heap.size + 1 < A2.heap.size := (Array.getElem?_eq_some_iff.1 h1).1
      have H1 := Lib.hid h1
      have H2 := Lib.hid h2
      have H3 := Lib.hid h3
      have H4 := Lib.hid h4
      clear h1 h2 h3 h4 hkA
      by_cases hnl : n = l
      · subst hnl
        gi_wp2
        refine ⟨⟨rfl, k, setCell_block H1.out _, HN2.out, H3.out, Below.setCell H4.out (p := ⟨w.heap.size + 1, 0, none⟩) (by simp) _⟩, ?_⟩
        refine Kp.setCell (Kp.refl _ _) _ _ fun o ho hn => ?_
        have h1 := H1.out
        simp only at ho
        rw [h1] at ho
        cases ho
        cases hn
      · have hb : (n == l) = false := by simpa using hnl
        gi_wp2
        refine ⟨⟨H1.out, H2.out, fun j hj => ?_, H4.out⟩, Kp.refl _ _, Kp.refl _ _⟩
        rcases Nat.lt_or_ge j k with h | h
        · exact H3.out j h
        · obtain rfl : j = k := by omega
          rw [HN2.out]
          simpa using hnl
    · rintro D X hD ⟨h1, h2, h3, h4⟩ hDD
      have e1 := cell_block h1 (j := 0) (v := .int .i64 0) rfl
      have f1 := frozen_block h1 (j := 0)
      have l1 : w.heap.size + 1 < X.heap.size := (Array.getElem?_eq_some_iff.1 h1).1
      have H1 := Lib.hid h1
      have H3 := Lib.hid h3
      have H4 := Lib.hid h4
      have HDD := Lib.hid hDD
      clear h1 h2 h3 h4 hDD
      gi_wp2
      have hsz := HG4.out.size
      have hs5 := HS.out
      have hDb : D ≠ w.heap.size + 1 := by omega
      refine ⟨by simp, .inl ⟨D, _, rfl, run_takeDeferred ((setCell_other _ hDb).trans HDD.out), ?_⟩⟩
      have hb := setCell_block H1.out (j := 0) (.int .i64 (-1))
      refine ⟨.int .i64 (-1), results_cell rfl (fun w => by simp [go_sem]) rfl (cell_block ((World.putObj_heap_other (by omega)).trans hb) rfl), -1, rfl, .inl ⟨rfl, fun j hj => H3.out j hj⟩, ?_⟩
      exact Below.trans (Below.setCell H4.out (p := ⟨w.heap.size + 1, 0, none⟩) (by simp) _) ⟨rfl, rfl, rfl, by simp, fun r hr => World.putObj_heap_other (by omega)⟩
    · rintro D c X hD ⟨rfl, i, h1, h2, h3, h4⟩ hDD
      have H1 := Lib.hid h1
      have H4 := Lib.hid h4
      have HF := Lib.hid (And.intro h2 h3)
      have HDD := Lib.hid hDD
      clear h1 h2 h3 h4 hDD
      gi_wp2
      have hsz := HG4.out.size
      have hs5 := HS.out
      have hDb : D ≠ w.heap.size + 1 := by omega
      refine ⟨by simp, .inl ⟨D, _, rfl, run_takeDeferred HDD.out, ?_⟩⟩
      refine ⟨.int .i64 i, results_cell rfl (fun w => by simp [go_sem]) rfl (cell_block ((World.putObj_heap_other (by omega)).trans H1.out) rfl), i, rfl, .inr ⟨i, rfl, HF.out.1, HF.out.2⟩, ?_⟩
      exact Below.trans H4.out ⟨rfl, rfl, rfl, by simp, fun r hr => World.putObj_heap_other (by omega)⟩
end Go.Proofs.YtkhkjcoejkgfeaaDoor
