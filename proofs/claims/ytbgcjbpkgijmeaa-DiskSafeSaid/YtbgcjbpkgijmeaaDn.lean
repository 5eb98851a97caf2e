/-
  Walk: the files now.
  Conditions: none beyond those typed at each theorem.
-/
import Derived.Test.YtbgcjbpkgijmeaaDm
namespace Go.Proofs.Ytbgcjbpkgijmeaa
open Go Go.RowKit Go.Maps
attribute [local go_sem] Oper.semAt_some

theorem sorted_any (w : World) (b : Option Nat) : Calls Try.prog 23 #[.map b] w fun e w' => e = .returned (.func (.func 37) #[] #[.pointer (some ⟨w.heap.size, 0, none⟩)]) ∧ w.alloc (.cells #[.map b] 54) = w' := by
  go_enter Try.func23, Try.ntmps23
  go_wp2
  go_ret
  exact ⟨rfl, rfl⟩
theorem sort1_enters : ∀ args w, (callFunc 37 args).run Try.prog w = .ok (.enter 37 args) w := enters_of Try.func37 (by kernel_rfl) rfl
theorem sort_iter (w : World) (n0 n1 n : Nat) (D : DataW Value) (l : List Fl) (b : Nat) (hs : Srt l) (hn : n ≤ 1000000) (hsz : sizeL l ≤ 1000000000000) (hnm : ∀ f ∈ l, f.name.length ≤ maxLen) (hn1 : n1 ≤ w.heap.size + 1)
    (hm : OwnM w b n D) (hl : MapIs n0 w D l) :
    Iter Try.prog 37 #[.pointer (some ⟨w.heap.size, 0, none⟩)] l.length (SorY n1 l) (SorNd n0 w.heap.size b) (w.alloc (.cells #[.map (some b)] 54)) := by
  intro ll J Jx W hW hJ _ hY hJ0
  have h1 := hW.same (alloc1_heap w (.cells #[.map (some b)] 54))
  have hG : Gr w W := Gr.trans (Gr.alloc (Gr.refl w) _) hW
  have hsz' : w.heap.size + 1 ≤ W.heap.size := by have := hW.size; simpa using this
  exact sort1_in n0 n1 n D l w.heap.size b hs hn hsz hnm ll J Jx W (by omega) h1 (OwnM.gr hG hm) (hl.gr hG) hJ hY hJ0

theorem step_names {P : Bs → Prop} {l : List Fl} {o : Opr} (hl : ∀ f ∈ l, P f.name) (h1 : P o.name) (h2 : P o.to) : ∀ f ∈ step l o, P f.name := by
  intro f hf
  unfold step at hf
  have hput : ∀ {l' : List Fl} {g : Fl}, (∀ f ∈ l', P f.name) → P g.name → ∀ f ∈ put l' g, P f.name := fun {l' g} h hg f hf => by
    rcases mem_ins.1 hf with rfl | hf
    · exact hg
    · exact h f (mem_del.1 hf).1
  split at hf
  · exact hput hl h1 f hf
  · split at hf
    · exact hl f hf
    · split at hf
      · exact hput hl h1 f hf
      · split at hf
        · exact hput (fun g hg => hl g (mem_del.1 hg).1) h2 f hf
        · split at hf
          · exact hl f (mem_del.1 hf).1
          · exact hl f hf
theorem foldl_names {P : Bs → Prop} {q : List Opr} : ∀ {l : List Fl}, (∀ f ∈ l, P f.name) → (∀ o ∈ q, P o.name ∧ P o.to) → ∀ f ∈ q.foldl step l, P f.name := by
  induction q with
  | nil => exact fun h _ => h
  | cons o q ih => exact fun h hq => ih (step_names h (hq o (by simp)).1 (hq o (by simp)).2) fun o' ho => hq o' (by simp [ho])
theorem taken_names {P : Bs → Prop} : ∀ {fs : List Fl}, (∀ f ∈ fs, P f.name) → ∀ f ∈ taken fs, P f.name
  | [], _, f, hf => by simp [taken] at hf
  | g :: r, h, f, hf => by
    have hf : f ∈ put (taken r) g := hf
    rcases mem_ins.1 hf with rfl | hf
    · exact h _ (by simp)
    · exact taken_names (fun x hx => h x (by simp [hx])) f (mem_del.1 hf).1
theorem now_names {P : Bs → Prop} {d : Dsk} (h1 : ∀ f ∈ d.files, P f.name) (h2 : ∀ o ∈ d.queue, P o.name ∧ P o.to) : ∀ f ∈ nowL d, P f.name := foldl_names (taken_names h1) h2
theorem dsk_names {S : Nat → Prop} {w : World} {v : Value} {d : Dsk} (h : IsDsk S w v d) : ∀ f ∈ nowL d, f.name.length ≤ maxLen := by
  obtain ⟨fv, qv, _, hf, hq, _⟩ := h
  exact now_names (P := fun n => n.length ≤ maxLen) hf.ok fun o ho => ⟨(hq.ok o ho).1, (hq.ok o ho).2.1⟩
/-- Between two rounds: a row in the variable at bl. -/
def ColI (w : World) (base bl : Nat) (l : List Fl) (k : Nat) (X : World) : Prop :=
  ∃ (va : Option Addr) (vc : Nat), X.heap[bl]? = some (.cells #[.slice va k vc] 22 (0, 0)) ∧ OwnFls base X (.slice va k vc) (l.take k) ∧ Gr w X ∧ base ≤ X.heap.size ∧ k ≤ l.length
theorem ColI.data {w : World} {base bl : Nat} {l : List Fl} {k n : Nat} (hn : w.heap.size ≤ n) : OfData n (ColI w base bl l k) := by
  rintro X Y ⟨va, vc, h1, h2, h3, h4, h5⟩ hk
  exact ⟨va, vc, hk.keep _ _ h1 (.inl rfl), OwnRow.dat hk.data h2, Gr.of (hk.below hn (Nat.le_refl _) h3.below), Nat.le_trans h4 hk.size, h5⟩
theorem flats_len (xs : List Fl) (bs : List Value) (h : bs.length = xs.length) : (List.zipWith flCells xs bs).flatten.length = xs.length * 2 := by
  rw [flatten_length (size := 2)]
  · simp [h]
  · intro x hx
    obtain ⟨i, hi, rfl⟩ := List.mem_iff_getElem.1 hx
    rw [List.getElem_zipWith]; rfl
theorem Try.info40 : (Try.prog.info? 40).map (fun i => (i.zero, i.size, i.bytes)) = some (some (.agg #[.string ⟨#[]⟩, .slice none 0 0]), 2, 40) := by kernel_rfl
/-- One more. -/
theorem ColI.push {w : World} {base bl : Nat} {l : List Fl} {k : Nat} {A w2 : World} {va : Option Addr} {vc : Nat} {f : Fl} {bv v' : Value} {tmp : Obj} {ys : List Value}
    (h1 : A.heap[bl]? = some (.cells #[.slice va k vc] 22 (0, 0))) (h2 : OwnFls base A (.slice va k vc) (l.take k)) (h3 : Gr w A) (h4 : base ≤ A.heap.size)
    (hbl : w.heap.size ≤ bl) (hbb : bl < base) (hf : l[k]? = some f) (hbv : OwnBy base A bv f.data) (hok : f.name.length ≤ maxLen) (hys : A.ownsRow base 40 2 (.slice va k vc) k ys)
    (hown : w2.ownsRow base 40 2 v' (k + 1) (ys ++ flCells f bv)) (hg : (A.alloc tmp).grownBy w2 (Value.slice va k vc).ownBlock) :
    (∃ a' c', v' = .slice a' (k + 1) c') ∧ w2.heap[bl]? = some (.cells #[.slice va k vc] 22 (0, 0)) ∧ ColI w base bl l (k + 1) (w2.setCell ⟨bl, 0, none⟩ v') ∧
    ∀ N : Nat → Obj → Prop, ¬ N bl (.cells #[.slice va k vc] 22 (0, 0)) → (∀ q cur, base ≤ q → ¬ N q (.cells cur 40 (0, 0))) → Kp N A (w2.setCell ⟨bl, 0, none⟩ v') := by
  have hlt : k < l.length := (List.getElem?_eq_some_iff.1 hf).1
  have hl : (l.take k).length = k := by rw [List.length_take]; omega
  have hrow : ∀ q, (Value.slice va k vc).ownBlock = some q → base ≤ q ∧ ∃ cur, A.heap[q]? = some (.cells cur 40 (0, 0)) := fun q hq => owns_elem hys hq
  have hkeep : w2.heap[bl]? = A.heap[bl]? := by
    rw [hg.block bl (by simp; omega) (fun e => by have := (hrow bl e.symm).1; omega)]
    exact Below.heap_alloc A tmp bl (by omega)
  obtain ⟨a', c', rfl⟩ := owns_slice hown
  have hB2 := hkeep.trans h1
  have hsz : A.heap.size ≤ w2.heap.size := by have := hg.size; simp at this; omega
  have hp := OwnRow.push (E := flE) h2 hbv hok (by rw [hl]; exact hys) (by rw [hl]; exact hown) hg
  have htk : l.take k ++ [f] = l.take (k + 1) := by rw [List.take_add_one, hf]; rfl
  rw [htk] at hp
  refine ⟨⟨a', c', rfl⟩, hB2, ⟨a', c', setCell_block hB2 _, ?_, ?_, by simp [World.setCell]; omega, hlt⟩, ?_⟩
  · refine OwnRow.keep hp fun q cur e hq hbq _ => setCell_other _ (by omega)
  · exact Gr.set (grown_gr (h3.alloc tmp) hg fun q hq => by have := (hrow q hq).1; omega) hbl _
  · intro N hN hN2
    refine Kp.setCell (Kp.grown (Kp.alloc (Kp.refl _ _) tmp) hg fun q o hq ho hn => ?_) _ _ fun o ho hn => ?_
    · obtain ⟨hb, cur, hc⟩ := hrow q hq
      have hlt : q < A.heap.size := (Array.getElem?_eq_some_iff.1 hc).1
      rw [Below.heap_alloc A tmp q hlt, hc] at ho
      cases ho
      exact hN2 _ _ hb hn
    · rw [hB2] at ho; cases ho; exact hN hn

set_option maxRecDepth 100000 in
set_option maxHeartbeats 1000000 in
theorem nowL_any (w : World) {S : Nat → Prop} (v : Value) (d : Dsk) (hx : IsDsk S w v d) (hc : cnt d ≤ 1000000) (ht : tot d ≤ 1000000000000) :
    Calls Try.prog 9 #[v] w fun e w' => ∃ v', e = .returned v' ∧ OwnFls w.heap.size w' v' (nowL d) ∧ Gr w w' := by
  have hnm := dsk_names hx
  have hx := dsk_inn hx
  obtain ⟨fa, fc, qa, qc, rfl⟩ := dsk_val hx
  obtain ⟨i0, hi0, hz0, hz1, hz2⟩ := info_parts Try.info40
  obtain ⟨W1, hW1⟩ : ∃ W1, (w.alloc (.cells #[.slice fa d.files.length fc, .slice qa d.queue.length qc, .int .i64 d.quota, .int .i64 d.fuse, .bool d.dead] 25)).alloc (.cells #[.slice none 0 0] 22) = W1 := ⟨_, rfl⟩
  have g1 : Gr w W1 := by rw [← hW1]; exact (Gr.alloc (Gr.refl w) _).alloc _
  have hB0 : W1.heap[w.heap.size]? = some (.cells #[.slice fa d.files.length fc, .slice qa d.queue.length qc, .int .i64 d.quota, .int .i64 d.fuse, .bool d.dead] 25 (0, 0)) := by rw [← hW1]; exact alloc2_heap0 _ _ _
  have hB1 : W1.heap[w.heap.size + 1]? = some (.cells #[.slice none 0 0] 22 (0, 0)) := by rw [← hW1]; exact alloc2_heap1 _ _ _
  have c0 := cell_block hB0 (j := 0) (v := .slice fa d.files.length fc) rfl
  have c1 := cell_block hB0 (j := 1) (v := .slice qa d.queue.length qc) rfl
  have c2 := cell_block hB0 (j := 2) (v := .int .i64 d.quota) rfl
  have c3 := cell_block hB0 (j := 3) (v := .int .i64 d.fuse) rfl
  have c4 := cell_block hB0 (j := 4) (v := .bool d.dead) rfl
  have HN := Lib.hid (now_any W1 w.heap.size g1.size _ d (hx.gr g1) hc ht)
  have HW1 := Lib.hid hW1
  have HB1 := Lib.hid hB1
  have HG1 := Lib.hid g1
  have hll : (nowL d).length ≤ 1000000 := Nat.le_trans (len_now d) hc
  have HSZ := Lib.hid (And.intro hc (And.intro (Nat.le_trans (size_now d) ht) hnm))
  clear hx hc ht hnm g1 hB0 hB1 hW1
  refine (callsIn_wide (n := 0)).1 ?_
  refine callsIn_of_wp_marks Try.func9 rfl trivial ?_ rfl
  simp only [Try.ntmps9, List.size_toArray, List.length_cons, List.length_nil, Nat.reduceAdd, Nat.reduceSub, Array.replicate_succ, Array.replicate_zero, List.push_toArray, List.append_toArray, List.nil_append, List.cons_append]
  gi_wp2_with fail
  rw [HW1.out]
  gi_wp2_with fail
  refine ⟨trivial, rfl, (callsIn_wide.2 HN.out).mono ?_⟩
  rintro e w3 ⟨b, D, rfl, hb, hm, hl, hg3⟩
  have hIT := sort_iter w3 w.heap.size (w3.heap.size + 1) (cnt d) D (nowL d) b (srt_now d) HSZ.out.1 HSZ.out.2.1 HSZ.out.2.2 (Nat.le_refl _) hm hl
  have hG3 := HG1.out.trans hg3
  have hB3 := hg3.same HB1.out
  have HIT := Lib.hid hIT
  have HG3 := Lib.hid hG3
  have HB3 := Lib.hid hB3
  have HBM := Lib.hid (And.intro hb (And.intro hm.lt (Nat.le_trans (by rw [← HW1.out]; simp) hb : w.heap.size + 2 ≤ b)))
  clear hb hm hl hg3 hIT hG3 hB3 c0 c1 c2 c3 c4
  gi_wp2_with fail
  refine ⟨trivial, rfl, (callsIn_wide.2 (sorted_any _ _)).mono ?_⟩
  rintro e w4 ⟨rfl, hw4⟩
  have hst : ColI w (w3.heap.size + 1) (w.heap.size + 1) (nowL d) 0 w4 := by
    rw [← hw4]
    have gA : Gr w3 (w3.alloc (.cells #[.map (some b)] 54)) := Gr.alloc (Gr.refl _) _
    exact ⟨none, 0, gA.same HB3.out, OwnRow.nil _ _ _, HG3.out.trans gA, by simp, Nat.zero_le _⟩
  rw [hw4] at HIT
  have hs4 : w4.heap.size = w3.heap.size + 1 := by rw [← hw4]; simp
  have HS4 := Lib.hid hs4
  have HST := Lib.hid hst
  have HZ3 := Lib.hid (show w.heap.size + 2 ≤ w3.heap.size from by have := HBM.out; omega)
  clear hw4 hst hs4
  gi_wp2_with fail
  refine range_iter (gf := 37) rfl sort1_enters HIT.out (Gr.refl _) (fun b o h => h.1) (by rintro _ _ _ ⟨f, bv, _, rfl, _⟩; rfl)
    (ColI w (w3.heap.size + 1) (w.heap.size + 1) (nowL d)) (fun _ _ => False) (fun k => ColI.data (by have := HS4.out; have := HZ3.out; omega)) (fun _ _ _ h _ => h) ?_ ?_ ?_ ?_
  · exact HST.out
  · rintro ll k args A hk hI ⟨f, bv, hf, rfl, hbv, hok⟩
    obtain ⟨ba, bc, rfl⟩ := hbv.slice
    have HI := Lib.hid hI
    have HF := Lib.hid (And.intro hf (And.intro hbv hok))
    have HKL := Lib.hid hk
    clear hI hf hbv hok hk
    gi_wp2
    have gA : Gr A (A.alloc (.cells #[strV f.name, .slice ba f.data.length bc] 40)) := Gr.alloc (Gr.refl A) _
    refine ⟨fun X => ColI w (w3.heap.size + 1) (w.heap.size + 1) (nowL d) k X ∧ X.heap[A.heap.size]? = some (.cells #[strV f.name, .slice ba f.data.length bc] 40 (0, 0)) ∧ OwnBy (w3.heap.size + 1) X (.slice ba f.data.length bc) f.data, ?_, ⟨?_, alloc1_heap A _, ?_⟩, Gr.kp gA _, Gr.kp gA _, ?_⟩
    · rintro X Y ⟨h1, h2, h3⟩ hkp
      exact ⟨ColI.data (n := w4.heap.size) (by have := HS4.out; have := HZ3.out; omega) X Y h1 hkp, hkp.keep _ _ h2 (.inl rfl), h3.dat hkp.data⟩
    · exact OfData.gr (ColI.data (n := w4.heap.size) (by have := HS4.out; have := HZ3.out; omega)) _ _ HI.out gA
    · exact HF.out.2.1.gr gA
    · rintro A2 ⟨⟨va, vc, h1, h2, h3, h4, h5⟩, h6, h7⟩ hkA
      have q0 := cell_block h1 (j := 0) (v := .slice va k vc) rfl
      have d0 := cell_block h6 (j := 0) (v := strV f.name) rfl
      have d1 := cell_block h6 (j := 1) (v := .slice ba f.data.length bc) rfl
      have hlk : ((nowL d).take k).length = k := by rw [List.length_take]; omega
      obtain ⟨ys, hys⟩ := OwnRow.flat h2
      rw [hlk] at hys
      have HYS := Lib.hid hys
      have HP := Lib.hid (And.intro h1 (And.intro h2 (And.intro h3 (And.intro h4 h7))))
      have hkl := HKL.out
      have lbl : w.heap.size + 1 < A2.heap.size := (Array.getElem?_eq_some_iff.1 h1).1
      clear h1 h2 h3 h4 h6 h7 hkA hys hlk
      gi_wp2_with (gi_at_builtin; go_loud (refine wpListIn_append_own_at _ rfl _ _ 22 rfl (w3.heap.size + 1) 40 i0 _ 2 40 Try.underlying22 hi0 hz0 hz1 hz2 rfl (by decide) _ k ys rfl (HYS.out.alloc _) ⟨A2.heap.size, 0, none⟩ 1 1 (flCells f (.slice ba f.data.length bc)) rfl ?c0 ?c1 ?c2 ?c3 ?c4 ?c5 ?_))
      case c0 => rfl
      case c1 => exact fun _ _ h => h
      case c2 => exact flE.one f _ rfl
      case c3 => unfold maxLen; omega
      case c4 => omega
      case c5 => have := HP.out.2.2.2.1; simp; omega
      intro v' w5 hown hgrow _ _
      obtain ⟨p1, p2, p3, p4, p7⟩ := HP.out
      obtain ⟨⟨a', c', rfl⟩, hB2, hI2, hN2⟩ := ColI.push p1 p2 p3 p4 (by omega) (by have := HZ3.out; omega) HF.out.1 p7 HF.out.2.2 HYS.out hown hgrow
      have c1' := cell_block hB2 (j := 0) rfl
      have f1' := frozen_block hB2 (j := 0)
      have lbl5 : w.heap.size + 1 < w5.heap.size := (Array.getElem?_eq_some_iff.1 hB2).1
      have HI2 := Lib.hid hI2
      have HN2 := Lib.hid hN2
      clear hown hgrow hB2 hI2 hN2 q0 d0 d1 p1 p2 p3 p4 p7
      gi_wp2
      have hz3 := HZ3.out
      have hbm := HBM.out
      refine ⟨HI2.out, HN2.out _ ?_ ?_, HN2.out _ (fun hn => by cases hn) (fun q cur _ hn => by cases hn)⟩
      · rintro ⟨_, h | h | h | ⟨c, e, fz, h, h'⟩⟩
        · omega
        · omega
        · omega
        · cases h; rcases h' with h' | h' <;> cases h'
      · rintro q cur hq ⟨_, h | h | h | ⟨c, e, fz, h, h'⟩⟩
        · omega
        · omega
        · omega
        · cases h; rcases h' with h' | h' <;> cases h'
  · rintro D2 X hD ⟨va, vc, h1, h2, h3, h4, h5⟩ hDD
    rw [List.take_length] at h2
    have c0 := cell_block h1 (j := 0) (v := .slice va (nowL d).length vc) rfl
    have f0 := frozen_block h1 (j := 0)
    have lbl : w.heap.size + 1 < X.heap.size := (Array.getElem?_eq_some_iff.1 h1).1
    have HP := Lib.hid (And.intro h1 (And.intro h2 h3))
    have HDD := Lib.hid hDD
    have HD := Lib.hid hD
    clear h1 h2 h3 h4 h5 hDD hD
    gi_wp2
    have hd : w.heap.size + 1 < D2 := by have := HD.out; have := HS4.out; have := HZ3.out; omega
    refine ⟨by simp, .inl ⟨D2, _, rfl, run_takeDeferred (heap_set_other HDD.out (by omega)), ?_⟩⟩
    obtain ⟨h1, h2, h3⟩ := HP.out
    have hz := setCell_block h1 (j := 0) (.slice va (nowL d).length vc)
    have hz' := (World.putObj_heap_other (r := D2) (o := .deferred none) (w := X.setCell ⟨w.heap.size + 1, 0, none⟩ (.slice va (nowL d).length vc)) (k := w.heap.size + 1) (by omega)).trans hz
    have c9 := cell_block hz' (j := 0) rfl
    refine ⟨_, results_cell rfl (fun w => by simp [go_sem]) rfl c9, _, rfl, ?_, ?_⟩
    · refine OwnRow.down (show w.heap.size ≤ w3.heap.size + 1 by have := HZ3.out; omega) (OwnRow.keep h2 fun q cur e hq hbq _ => ?_)
      have hqD : q ≠ D2 := by rintro rfl; rw [HDD.out] at hq; cases hq
      rw [World.putObj_heap_other hqD, setCell_other _ (by have := HZ3.out; omega)]
    · exact Gr.of (Below.trans (Below.setCell h3.below (p := ⟨w.heap.size + 1, 0, none⟩) (Nat.le_add_right _ _) _) ⟨rfl, rfl, rfl, by simp, fun q hq => World.putObj_heap_other (by omega)⟩)
  · intro D2 c X hD h
    exact h.elim
end Go.Proofs.Ytbgcjbpkgijmeaa
