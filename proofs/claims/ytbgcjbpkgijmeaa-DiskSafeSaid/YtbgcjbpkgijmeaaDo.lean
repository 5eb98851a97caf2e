/-
  Walks: slices.AppendSeq, slices.Collect over the files of a map.
  Conditions: none beyond those typed at each theorem.
-/
import Derived.Test.YtbgcjbpkgijmeaaDn
namespace Go.Proofs.Ytbgcjbpkgijmeaa
open Go Go.RowKit Go.Maps
attribute [local go_sem] Oper.semAt_some

set_option maxRecDepth 100000 in
set_option maxHeartbeats 1000000 in
theorem appendSeq_any (w : World) (n0 B b n : Nat) (D : DataW Value) (l : List Fl) (hn0 : n0 ≤ w.heap.size) (hs : Srt l) (hn : n ≤ 1000000) (hsz : sizeL l ≤ 1000000000000) (hll : l.length ≤ 1000000) (hnm : ∀ f ∈ l, f.name.length ≤ maxLen)
    (hB : w.heap[B]? = some (.cells #[.map (some b)] 54 (0, 0))) (hm : OwnM w b n D) (hl : MapIs n0 w D l) :
    Calls Try.prog 45 #[.slice none 0 0, .func (.func 37) #[] #[.pointer (some ⟨B, 0, none⟩)]] w fun e w' => ∃ v', e = .returned v' ∧ OwnFls w.heap.size w' v' l ∧ Gr w w' := by
  obtain ⟨i0, hi0, hz0, hz1, hz2⟩ := info_parts Try.info40
  obtain ⟨W1, hW1⟩ : ∃ W1, w.alloc (.cells #[.slice none 0 0] 22) = W1 := ⟨_, rfl⟩
  have g1 : Gr w W1 := by rw [← hW1]; exact Gr.alloc (Gr.refl w) _
  have hB1 : W1.heap[w.heap.size]? = some (.cells #[.slice none 0 0] 22 (0, 0)) := by rw [← hW1]; exact alloc1_heap _ _
  have hs1 : W1.heap.size = w.heap.size + 1 := by rw [← hW1]; simp
  have lB : B < w.heap.size := (Array.getElem?_eq_some_iff.1 hB).1
  have lb : b < w.heap.size := hm.lt
  have HIT := Lib.hid (show Iter Try.prog 37 #[.pointer (some ⟨B, 0, none⟩)] l.length (SorY (w.heap.size + 1) l) (SorNd n0 B b) W1 from
    fun ll J Jx W hW hJ _ hY hJ0 => sort1_in n0 (w.heap.size + 1) n D l B b hs hn hsz hnm ll J Jx W (by rw [← hs1]; exact hW.size) (hW.same (g1.same hB)) (OwnM.gr (g1.trans hW) hm) (hl.gr (g1.trans hW)) hJ hY hJ0)
  have HST := Lib.hid (show ColI w (w.heap.size + 1) w.heap.size l 0 W1 from ⟨none, 0, hB1, OwnRow.nil _ _ _, g1, by omega, Nat.zero_le _⟩)
  have HS1 := Lib.hid hs1
  have HW1 := Lib.hid hW1
  clear hB hm hl g1 hB1 hs1 hW1 hs hnm
  refine (callsIn_wide (n := 0)).1 ?_
  refine callsIn_of_wp_marks Try.func45 rfl trivial ?_ rfl
  simp only [Try.ntmps45, List.size_toArray, List.length_cons, List.length_nil, Nat.reduceAdd, Nat.reduceSub, Array.replicate_succ, Array.replicate_zero, List.push_toArray, List.append_toArray, List.nil_append, List.cons_append]
  gi_wp2_with fail
  rw [HW1.out]
  refine range_iter (gf := 37) rfl sort1_enters HIT.out (Gr.refl _) (fun b o h => h.1) (by rintro _ _ _ ⟨f, bv, _, rfl, _⟩; rfl)
    (ColI w (w.heap.size + 1) w.heap.size l) (fun _ _ => False) (fun k => ColI.data (by have := HS1.out; omega)) (fun _ _ _ h _ => h) ?_ ?_ ?_ ?_
  · exact HST.out
  · rintro ll k args A hk hI ⟨f, bv, hf, rfl, hbv, hok⟩
    obtain ⟨ba, bc, rfl⟩ := hbv.slice
    have HI := Lib.hid hI
    have HF := Lib.hid (And.intro hf (And.intro hbv hok))
    have HKL := Lib.hid hk
    clear hI hf hbv hok hk
    gi_wp2
    have gA : Gr A (A.alloc (.cells #[strV f.name, .slice ba f.data.length bc] 40)) := Gr.alloc (Gr.refl A) _
    refine ⟨fun X => ColI w (w.heap.size + 1) w.heap.size l k X ∧ X.heap[A.heap.size]? = some (.cells #[strV f.name, .slice ba f.data.length bc] 40 (0, 0)) ∧ OwnBy (w.heap.size + 1) X (.slice ba f.data.length bc) f.data, ?_, ⟨?_, alloc1_heap A _, ?_⟩, Gr.kp gA _, Gr.kp gA _, ?_⟩
    · rintro X Y ⟨h1, h2, h3⟩ hkp
      exact ⟨ColI.data (n := W1.heap.size) (by have := HS1.out; omega) X Y h1 hkp, hkp.keep _ _ h2 (.inl rfl), h3.dat hkp.data⟩
    · exact OfData.gr (ColI.data (n := W1.heap.size) (by have := HS1.out; omega)) _ _ HI.out gA
    · exact HF.out.2.1.gr gA
    · rintro A2 ⟨⟨va, vc, h1, h2, h3, h4, h5⟩, h6, h7⟩ hkA
      have q0 := cell_block h1 (j := 0) (v := .slice va k vc) rfl
      have d0 := cell_block h6 (j := 0) (v := strV f.name) rfl
      have d1 := cell_block h6 (j := 1) (v := .slice ba f.data.length bc) rfl
      have hlk : (l.take k).length = k := by rw [List.length_take]; omega
      obtain ⟨ys, hys⟩ := OwnRow.flat h2
      rw [hlk] at hys
      have HYS := Lib.hid hys
      have HP := Lib.hid (And.intro h1 (And.intro h2 (And.intro h3 (And.intro h4 h7))))
      have hkl := HKL.out
      have lbl : w.heap.size < A2.heap.size := (Array.getElem?_eq_some_iff.1 h1).1
      clear h1 h2 h3 h4 h6 h7 hkA hys hlk
      gi_wp2_with (gi_at_builtin; go_loud (refine wpListIn_append_own_at _ rfl _ _ 22 rfl (w.heap.size + 1) 40 i0 _ 2 40 Try.underlying22 hi0 hz0 hz1 hz2 rfl (by decide) _ k ys rfl (HYS.out.alloc _) ⟨A2.heap.size, 0, none⟩ 1 1 (flCells f (.slice ba f.data.length bc)) rfl ?c0 ?c1 ?c2 ?c3 ?c4 ?c5 ?_))
      case c0 => rfl
      case c1 => exact fun _ _ h => h
      case c2 => exact flE.one f _ rfl
      case c3 => unfold maxLen; omega
      case c4 => omega
      case c5 => have := HP.out.2.2.2.1; simp; omega
      intro v' w5 hown hgrow _ _
      obtain ⟨p1, p2, p3, p4, p7⟩ := HP.out
      obtain ⟨⟨a', c', rfl⟩, hB2, hI2, hN2⟩ := ColI.push p1 p2 p3 p4 (by omega) (by omega) HF.out.1 p7 HF.out.2.2 HYS.out hown hgrow
      have c1' := cell_block hB2 (j := 0) rfl
      have f1' := frozen_block hB2 (j := 0)
      have lbl5 : w.heap.size < w5.heap.size := (Array.getElem?_eq_some_iff.1 hB2).1
      have HI2 := Lib.hid hI2
      have HN2 := Lib.hid hN2
      clear hown hgrow hB2 hI2 hN2 q0 d0 d1 p1 p2 p3 p4 p7
      gi_wp2
      refine ⟨HI2.out, HN2.out _ ?_ ?_, HN2.out _ (fun hn => by cases hn) (fun q cur _ hn => by cases hn)⟩
      · rintro ⟨_, h | h | h | ⟨c, e, fz, h, h'⟩⟩
        · omega
        · omega
        · omega
        · cases h; rcases h' with h' | h' <;> cases h'
      · rintro q cur hq ⟨_, h | h | h | ⟨c, e, fz, h, h'⟩⟩
        · omega
        · omega
        · omega
        · cases h; rcases h' with h' | h' <;> cases h'
  · rintro D2 X hD ⟨va, vc, h1, h2, h3, h4, h5⟩ hDD
    rw [List.take_length] at h2
    have c0 := cell_block h1 (j := 0) (v := .slice va l.length vc) rfl
    have f0 := frozen_block h1 (j := 0)
    have lbl : w.heap.size < X.heap.size := (Array.getElem?_eq_some_iff.1 h1).1
    have HP := Lib.hid (And.intro h1 (And.intro h2 h3))
    have HDD := Lib.hid hDD
    have HD := Lib.hid hD
    clear h1 h2 h3 h4 h5 hDD hD
    gi_wp2
    have hd : w.heap.size < D2 := by have := HD.out; have := HS1.out; omega
    refine ⟨by simp, .inl ⟨D2, _, rfl, run_takeDeferred HDD.out, ?_⟩⟩
    obtain ⟨h1, h2, h3⟩ := HP.out
    refine ⟨_, results_tmp rfl _ _ _, _, rfl, ?_, ?_⟩
    · refine OwnRow.down (show w.heap.size ≤ w.heap.size + 1 by omega) (OwnRow.keep h2 fun q cur e hq hbq _ => ?_)
      have hqD : q ≠ D2 := by rintro rfl; rw [HDD.out] at hq; cases hq
      exact World.putObj_heap_other hqD
    · exact Gr.of (Below.trans h3.below ⟨rfl, rfl, rfl, by simp, fun q hq => World.putObj_heap_other (by omega)⟩)
  · intro D2 c X hD h
    exact h.elim

theorem collect_any (w : World) (n0 B b n : Nat) (D : DataW Value) (l : List Fl) (hn0 : n0 ≤ w.heap.size) (hs : Srt l) (hn : n ≤ 1000000) (hsz : sizeL l ≤ 1000000000000) (hll : l.length ≤ 1000000) (hnm : ∀ f ∈ l, f.name.length ≤ maxLen)
    (hB : w.heap[B]? = some (.cells #[.map (some b)] 54 (0, 0))) (hm : OwnM w b n D) (hl : MapIs n0 w D l) :
    Calls Try.prog 32 #[.func (.func 37) #[] #[.pointer (some ⟨B, 0, none⟩)]] w fun e w' => ∃ v', e = .returned v' ∧ OwnFls w.heap.size w' v' l ∧ Gr w w' := by
  have HA := Lib.hid (appendSeq_any w n0 B b n D l hn0 hs hn hsz hll hnm hB hm hl)
  clear hB hm hl hs hnm
  go_enter Try.func32, Try.ntmps32
  go_wp2_with fail
  refine HA.out.mono ?_
  rintro e w3 ⟨v', rfl, ho, hg⟩
  obtain ⟨a, c, rfl⟩ := ho.slice
  have HO := Lib.hid (And.intro ho hg)
  clear ho hg
  go_wp2
  go_ret
  exact ⟨_, rfl, HO.out⟩
end Go.Proofs.Ytbgcjbpkgijmeaa
