/-
  Walk: Rest.
  Conditions: none beyond those typed at each theorem.
-/
import Derived.Test.YtkhkjcoejkgfeaaDoorNk
namespace Go.Proofs.YtkhkjcoejkgfeaaDoor
open Go Go.RowKit Go.Maps
attribute [local go_sem] Oper.semAt_some

/-- Between two rounds over those that are kept. -/
def KpI (w : World) (xs : List Idn) (k : Nat) (X : World) : Prop :=
  X.heap[w.heap.size]? = some (.cells #[.slice none 0 0] 35 (0, 0)) ∧ X.heap[w.heap.size + 1 + 1]? = some (.cells #[.map (some (w.heap.size + 1))] 50 (0, 0)) ∧
  (∃ D, OwnMap X (w.heap.size + 1) k D ∧ KM (xs.take k) D) ∧ Gr w X ∧ w.heap.size + 3 ≤ X.heap.size

set_option maxRecDepth 100000 in
set_option maxHeartbeats 1000000 in
theorem rest_any (w : World) (hT : Tab w) (v : Value) (ns : List (List UInt8)) (hx : IsFiles (· < w.heap.size) w v ns) (hl : ns.length ≤ 1000) (hns : ∀ n ∈ ns, n.length ≤ 1000)
    (kv : Value) (xs : List Idn) (hks : IsIds (· < w.heap.size) w kv xs) (hkl : xs.length ≤ 1000) :
    Calls Tryd.prog 12 #[v, kv] w fun e w' => ∃ r, e = .returned r ∧ OwnStrs w.heap.size w' r (restOf ns xs) ∧ Gr w w' := by
  have hmm := @run_makeMap Tryd.prog
  obtain ⟨va, vc, rfl, _, _⟩ := hx.len
  obtain ⟨ka, kc, rfl, _, _⟩ := hks.len
  obtain ⟨W1, hW1⟩ : ∃ W1, ((w.alloc (.cells #[.slice none 0 0] 35)).alloc (.map #[] 0)).alloc (.cells #[.map (some (w.heap.size + 1))] 50) = W1 := ⟨_, rfl⟩
  have g1 : Gr w W1 := by rw [← hW1]; exact ((Gr.alloc (Gr.refl _) _).alloc _).alloc _
  have hB0 : W1.heap[w.heap.size]? = some (.cells #[.slice none 0 0] 35 (0, 0)) := by rw [← hW1]; exact alloc3_heap0 _ _ _ _
  have hB2 : W1.heap[w.heap.size + 1 + 1]? = some (.cells #[.map (some (w.heap.size + 1))] 50 (0, 0)) := by rw [← hW1]; exact alloc3_heap2 _ _ _ _
  have hM : OwnMap W1 (w.heap.size + 1) 0 (.map []) := by
    rw [← hW1]
    have := (World.ownsMap_made (H := Unit) (w.alloc (.cells #[.slice none 0 0] 35)) Tryd.prog 9 (plainElem Tryd.prog 3)).alloc (.cells #[.map (some (w.heap.size + 1))] 50)
    rwa [World.size_alloc] at this
  have hsz : W1.heap.size = w.heap.size + 3 := by rw [← hW1]; simp
  have hK0 : KpI w xs 0 W1 := ⟨hB0, hB2, ⟨_, hM, KM_nil⟩, g1, by omega⟩
  have HX := Lib.hid hx
  have HKS := Lib.hid hks
  have HK0 := Lib.hid hK0
  have HW1 := Lib.hid hW1
  have HT := Lib.hid hT
  have HNS := Lib.hid hns
  clear hx hks hK0 g1 hB0 hB2 hM hsz hW1 hT hns
  refine (callsIn_wide (n := 0)).1 ?_
  refine callsIn_of_wp_marks Tryd.func12 rfl trivial ?_ rfl
  simp only [Tryd.ntmps12, List.size_toArray, List.length_cons, List.length_nil, Nat.reduceAdd, Nat.reduceSub, Array.replicate_succ, Array.replicate_zero, List.push_toArray, List.append_toArray, List.nil_append, List.cons_append]
  gi_wp2_with fail
  gi_loopw [15] (fun iv wr => ∃ i : Nat, iv = .int .i64 i ∧ i ≤ xs.length ∧ KpI w xs i wr) (fun iv _ => xs.length - (intOf iv).toNat)
  case atStart =>
    refine ⟨0, rfl, Nat.zero_le _, ?_⟩
    rw [HW1.out]
    exact HK0.out
  case round =>
    obtain ⟨i, rfl, hi, h1, h2, ⟨D, h3, h4⟩, h5, h6⟩ := hrel
    by_cases hlt : i < xs.length
    · obtain ⟨x, hx⟩ : ∃ x, xs[i]? = some x := ⟨_, List.getElem?_eq_getElem hlt⟩
      obtain ⟨b, o, c', hv, hSb, hrows⟩ := HKS.out.some (by omega)
      simp only [Value.slice.injEq, true_and] at hv
      obtain ⟨rfl, rfl⟩ := hv
      have hr := later_range h5 (hrows i x hx)
      have q0 : wr.cell? ⟨b, o + i * 3, none⟩ = some (.int .u8 x.kind) := hr 0 _ rfl
      have q1 : wr.cell? ⟨b, o + i * 3 + 1, none⟩ = some (.int .i64 x.seq) := hr 1 _ rfl
      have q2 : wr.cell? ⟨b, o + i * 3 + 2, none⟩ = some (.int .i64 x.fmt) := hr 2 _ rfl
      have gA : Gr wr (wr.alloc (.cells #[.int .u8 x.kind, .int .i64 x.seq, .int .i64 x.fmt] 23)) := Gr.alloc (Gr.refl _) _
      have hN := name_any x ((HT.out.gr h5).gr gA)
      unfold nameV at hN
      have htk : xs.take (i + 1) = xs.take i ++ [x] := by rw [List.take_add_one, hx]; rfl
      have H1 := Lib.hid (gA.same h1)
      have H2 := Lib.hid (gA.same h2)
      have H3 := Lib.hid (OwnMap.gr gA h3)
      have H4 := Lib.hid h4
      have H5 := Lib.hid (h5.trans gA)
      have H6 := Lib.hid (Nat.le_trans h6 gA.size)
      have HTK := Lib.hid htk
      clear h1 h2 h3 h4 h5 h6 hr hrows hx htk gA
      cases hnm : nameOf x with
      | none =>
        rw [hnm] at hN
        replace hN : Calls Tryd.prog 8 #[idV x] (wr.alloc (.cells #[.int .u8 x.kind, .int .i64 x.seq, .int .i64 x.fmt] 23)) fun e w' => e = .returned (.tuple #[strV [], .int .i64 2]) ∧ Gr (wr.alloc (.cells #[.int .u8 x.kind, .int .i64 x.seq, .int .i64 x.fmt] 23)) w' := hN
        have HN := Lib.hid hN
        have HNM := Lib.hid hnm
        clear hN hnm
        gi_wp2_with fail
        refine ⟨trivial, rfl, (callsIn_wide.2 HN.out).mono ?_⟩
        rintro e w2 ⟨rfl, hg2⟩
        have H1' := Lib.hid (hg2.same H1.out)
        have H2' := Lib.hid (hg2.same H2.out)
        have H3' := Lib.hid (OwnMap.gr hg2 H3.out)
        have H5' := Lib.hid (H5.out.trans hg2)
        have H6' := Lib.hid (Nat.le_trans H6.out hg2.size)
        clear hg2 q0 q1 q2
        gi_wp2
        refine ⟨⟨i + 1, by go_num, by omega, H1'.out, H2'.out, ⟨D, World.ownsMap.mono H3'.out (Nat.le_succ _), ?_⟩, H5'.out, H6'.out⟩, by simp [intOf]; omega⟩
        rw [HTK.out]
        exact KM_skip H4.out HNM.out
      | some l =>
        rw [hnm] at hN
        replace hN : Calls Tryd.prog 8 #[idV x] (wr.alloc (.cells #[.int .u8 x.kind, .int .i64 x.seq, .int .i64 x.fmt] 23)) fun e w' => e = .returned (.tuple #[strV l, .int .i64 0]) ∧ Gr (wr.alloc (.cells #[.int .u8 x.kind, .int .i64 x.seq, .int .i64 x.fmt] 23)) w' := hN
        have HN := Lib.hid hN
        have HNM := Lib.hid hnm
        clear hN hnm
        gi_wp2_with fail
        refine ⟨trivial, rfl, (callsIn_wide.2 HN.out).mono ?_⟩
        rintro e w2 ⟨rfl, hg2⟩
        have h2' := hg2.same H2.out
        have q3 := cell_block h2' (j := 0) (v := .map (some (w.heap.size + 1))) rfl
        have H1' := Lib.hid (hg2.same H1.out)
        have H2' := Lib.hid h2'
        have H3' := Lib.hid (OwnMap.gr hg2 H3.out)
        have H5' := Lib.hid (H5.out.trans hg2)
        have H6' := Lib.hid (Nat.le_trans H6.out hg2.size)
        have HKEY := Lib.hid (key_str (l := l) (by have := (nameOf_le HNM.out).1; unfold maxLen; omega))
        clear hg2 q0 q1 q2 h2'
        gi_wp2_with (gi_at_mapUpdate; go_loud (refine wpListIn_mapUpdate_own _ rfl _ _ _ 50 rfl 9 3 law9 Tryd.underlying50 _ (w.heap.size + 1) i D rfl H3'.out (by unfold maxLen; omega) _ _ _ rfl rfl HKEY.out _ [] (plainElem_int Tryd.underlying3 (q := .i64) (a := 1) rfl) ?_))
        intro w3 hown hgrow
        have hlt0 : w.heap.size < w2.heap.size := by have := H6'.out; omega
        have hlt2 : w.heap.size + 1 + 1 < w2.heap.size := by have := H6'.out; omega
        have k1 := (hgrow.block _ hlt0 (by simp)).trans H1'.out
        have k2 := (hgrow.block _ hlt2 (by simp)).trans H2'.out
        have k5 : Gr w w3 := Gr.of (Below.grown (Gr.below H5'.out) hgrow (Gr.size H5'.out) (fun q hq => by cases hq; omega))
        have k6 : w.heap.size + 3 ≤ w3.heap.size := Nat.le_trans H6'.out hgrow.size
        have HF := Lib.hid (And.intro k1 (And.intro k2 (And.intro hown (And.intro k5 k6))))
        clear hown hgrow k1 k2 k5 k6 q3
        gi_wp2
        obtain ⟨k1, k2, hown, k5, k6⟩ := HF.out
        refine ⟨⟨i + 1, by go_num, by omega, k1, k2, ⟨_, hown, ?_⟩, k5, k6⟩, by simp [intOf]; omega⟩
        rw [HTK.out]
        exact KM_put H4.out HNM.out
    · obtain rfl : i = xs.length := by omega
      rw [List.take_length] at h4
      obtain ⟨i0, hi0, hz0, hz1, hz2⟩ := info_parts Tryd.info9
      have HIT := Lib.hid (called_iter wr w.heap.size (.slice va ns.length vc) ns (HX.out.gr h5) (by omega))
      have gA : Gr wr (wr.alloc (.cells #[.slice va ns.length vc] 32)) := Gr.alloc (Gr.refl _) _
      have hsA : (wr.alloc (.cells #[.slice va ns.length vc] 32)).heap.size = wr.heap.size + 1 := by simp
      have hStart : RsI w (wr.heap.size + 1) w.heap.size (w.heap.size + 1) (w.heap.size + 1 + 1) xs.length D (fun k => restOf (ns.take k) xs) 0 (wr.alloc (.cells #[.slice va ns.length vc] 32)) :=
        ⟨none, 0, gA.same h1, World.ownsRow_nil _ _ _ _, gA.same h2, OwnMap.gr gA h3, Gr.below (h5.trans gA), by rw [hsA]; exact Nat.le_refl _⟩
      have HST := Lib.hid hStart
      have H4 := Lib.hid h4
      have h6' := h6
      have HSA := Lib.hid hsA
      have hG := Lib.hid (h5.trans gA)
      clear h1 h2 h3 h4 h5 gA hStart hsA
      gi_wp2_with fail
      refine ⟨trivial, rfl, (callsIn_wide.2 (called_any _ _ _ _)).mono ?_⟩
      rintro e w4 ⟨rfl, hw4⟩
      rw [hw4] at HIT HST HSA hG
      clear hw4
      gi_wp2_with fail
      refine range_iter (gf := 26) rfl called1_enters HIT.out (Gr.refl _) (fun b o h => h.1) (by rintro _ _ _ ⟨c, _, rfl⟩; rfl)
        (RsI w (wr.heap.size + 1) w.heap.size (w.heap.size + 1) (w.heap.size + 1 + 1) xs.length D (fun k => restOf (ns.take k) xs)) (fun _ _ => False) (fun k => RsI.data ?_) (fun _ _ _ h _ => h) ?_ ?_ ?_ ?_
      · exact hG.out.size
      · exact HST.out
      · rintro ll k args A hk hI ⟨n, hn, rfl⟩
        have HI := Lib.hid hI
        have HN2 := Lib.hid hn
        have hnl := HNS.out n (List.mem_of_getElem? hn)
        have HKEY := Lib.hid (key_str (l := n) (by unfold maxLen; omega))
        clear hI hn
        gi_wp2
        refine ⟨RsI w (wr.heap.size + 1) w.heap.size (w.heap.size + 1) (w.heap.size + 1 + 1) xs.length D (fun k => restOf (ns.take k) xs) k, RsI.data hG.out.size, HI.out, Kp.refl _ _, Kp.refl _ _, ?_⟩
        rintro A2 ⟨ra, rc, h1, h2, h3, h4', h5, h7⟩ hkA
        have q0 := cell_block h1 (j := 0) rfl
        have q3 := cell_block h3 (j := 0) rfl
        have lB : w.heap.size < A2.heap.size := (Array.getElem?_eq_some_iff.1 h1).1
        have H1 := Lib.hid h1
        have H2 := Lib.hid h2
        have H3 := Lib.hid h3
        have H4' := Lib.hid h4'
        have H5 := Lib.hid h5
        clear h1 h2 h3 h4' h5 hkA
        gi_wp2_with (gi_at_lookup; go_loud (refine wpListIn_lookup_own_int _ rfl _ _ 50 rfl 9 3 .i64 law9 Tryd.underlying50 Tryd.underlying3 (zero3 _) (w.heap.size + 1) xs.length D rfl H4'.out _ _ rfl HKEY.out ?_))
        intro c hat _
        rw [H4.out.2 n] at hat
        injection hat with hat
        injection hat with _ hat
        cases hkb : keptBy xs n with
        | true =>
          rw [hkb] at hat
          simp only [if_true] at hat
          subst hat
          have HKB := Lib.hid hkb
          clear hkb
          gi_wp2
          obtain ⟨e1, e2, e3, e4, e5⟩ := And.intro H1.out (And.intro H2.out (And.intro H3.out (And.intro H4'.out H5.out)))
          refine ⟨⟨ra, rc, ?_, ?_, e3, e4, e5, h7⟩, Kp.refl _ _, Kp.refl _ _⟩
          · simp only [restOf_no HN2.out HKB.out]; exact e1
          · simp only [restOf_no HN2.out HKB.out]; exact e2
        | false =>
          rw [hkb] at hat
          simp only [Bool.false_eq_true, if_false] at hat
          subst hat
          have HKB := Lib.hid hkb
          clear hkb
          have hrl := restOf_le ns xs k
          gi_wp2_with (gi_at_builtin; go_loud (refine wpListIn_append_own_at _ rfl _ _ 35 rfl (wr.heap.size + 1) 9 i0 _ 1 16 Tryd.underlying35 hi0 hz0 hz1 hz2 rfl (by decide) _ (restOf (ns.take k) xs).length _ rfl (H2.out.alloc _) ⟨A2.heap.size, 0, none⟩ 1 1 [strV n] rfl ?c0 ?c1 ?c2 ?c3 ?c4 ?c5 ?_))
          case c2 => rfl
          case c3 => unfold maxLen; omega
          case c4 => omega
          case c5 => omega
          intro v' w2 hown hgrow _ _
          obtain ⟨⟨a', c', rfl⟩, hB2, hI2, hK2, hN3⟩ := RsI.push (rs := fun k => restOf (ns.take k) xs) (k := k) (n := n) H1.out H2.out H3.out H4'.out H5.out h7 (by omega) (by omega) (by omega) (by omega) (by omega) (Nat.le_refl _) (restOf_yes HN2.out HKB.out) hown hgrow
          have c1' := cell_block hB2 (j := 0) rfl
          have f1' := frozen_block hB2 (j := 0)
          have HI2 := Lib.hid hI2
          have HK2 := Lib.hid hK2
          have HN3 := Lib.hid hN3
          clear hown hgrow hB2 hI2 hK2 hN3 q0 q3
          gi_wp2
          exact ⟨HI2.out, HN3.out _ (fun k o h => by obtain ⟨_, h | h⟩ := h <;> omega), HK2.out⟩
      · rintro D2 X hD ⟨ra, rc, h1, h2, h3, h4', h5, h7⟩ hDD
        simp only [List.take_length] at h1 h2
        have c0 := cell_block h1 (j := 0) (v := .slice ra (restOf ns xs).length rc) rfl
        have e0 := frozen_block h1 (j := 0)
        have lB : w.heap.size < X.heap.size := (Array.getElem?_eq_some_iff.1 h1).1
        have hD' : w.heap.size + 3 ≤ D2 := by have := HSA.out; omega
        have H1 := Lib.hid h1
        have H2 := Lib.hid h2
        have H5 := Lib.hid h5
        have HDD := Lib.hid hDD
        clear h1 h2 h3 h4' h5 hDD hD
        gi_wp2
        refine ⟨by simp, .inl ⟨D2, _, rfl, run_takeDeferred (heap_set_other HDD.out (by omega)), ?_⟩⟩
        have hz := setCell_block H1.out (j := 0) (.slice ra (restOf ns xs).length rc)
        have hz' := (World.putObj_heap_other (r := D2) (o := .deferred none) (w := X.setCell ⟨w.heap.size, 0, none⟩ (.slice ra (restOf ns xs).length rc)) (k := w.heap.size) (by omega)).trans hz
        have c9 := cell_block hz' (j := 0) rfl
        refine ⟨_, results_cell rfl (fun w => by simp [go_sem]) rfl c9, _, rfl, ?_, ?_⟩
        · have h7' := ownsRow_base (show w.heap.size ≤ wr.heap.size + 1 by omega) (owns_other (w' := ((X.setCell ⟨w.heap.size, 0, none⟩ (.slice ra (restOf ns xs).length rc)).putObj D2 (.deferred none))) H2.out fun q hq => by
            obtain ⟨hq1, cur, hc⟩ := owns_elem H2.out hq
            have hqD : q ≠ D2 := by rintro rfl; rw [HDD.out] at hc; cases hc
            rw [World.putObj_heap_other hqD, setCell_other _ (by omega)])
          exact h7'
        · exact Below.trans (Below.setCell H5.out (p := ⟨w.heap.size, 0, none⟩) (Nat.le_refl _) _) ⟨rfl, rfl, rfl, by simp, fun q hq => World.putObj_heap_other (by omega)⟩
      · intro D2 c X hD h
        exact h.elim
end Go.Proofs.YtkhkjcoejkgfeaaDoor
