/-
  Walk: an operation, done.
  Conditions: none beyond those typed at each theorem.
-/
import Derived.Test.YtbgcjbpkgijmeaaDu
import Derived.Test.YtbgcjbpkgijmeaaQb
import Derived.Deep.DrawnRows
namespace Go.Proofs.Ytbgcjbpkgijmeaa
open Go Go.RowKit Go.Maps
attribute [local go_sem ↓] Go.wp_at_zero Go.wp_at_succ
attribute [local go_sem high] str_eql str_neq str_lss str_leq str_geq str_eql0 str_neq0

theorem news_cells {w : World} {b : Nat} {l : List Value} {t : TypeId} {f : Nat × Nat} (h : w.heap[b]? = some (.cells l.toArray t f)) : ∀ ad, (some ⟨b, 0, none⟩ : Option Addr) = some ad → ∀ (j : Nat) u, l[j]? = some u → w.cell? (ad.add j) = some u := by
  intro ad had j u hu
  cases had
  have h1 := cell_block h (j := j) (v := u) (by simpa using hu)
  have h2 : (⟨b, 0, none⟩ : Addr).add j = ⟨b, j, none⟩ := by unfold Addr.add; by_cases hj : j = 0 <;> simp [hj]
  rw [h2]; exact h1
/-- A row of operations grows by one. -/
theorem ops_push {w X w2 : World} {base : Nat} {xs : List Opr} {qv v' : Value} {o : Opr} {bv : Value} {tmp : Obj} {ys : List Value} (hb : base ≤ X.heap.size) (hw : w.heap.size ≤ base) (hgr : Gr w X)
    (hq : OwnOps base X qv xs) (hby : OwnBy base X bv o.data) (ho : opE.ok o) (hys : X.ownsRow base 32 4 qv xs.length ys)
    (hown : w2.ownsRow base 32 4 v' (xs.length + 1) (ys ++ opCells o bv)) (hg : (X.alloc tmp).grownBy w2 qv.ownBlock) :
    OwnOps base w2 v' (xs ++ [o]) ∧ Gr w w2 ∧ X.heap.size ≤ w2.heap.size ∧ (∀ k, k < base → w2.heap[k]? = X.heap[k]?) ∧ (∀ fv fs, OwnFls base X fv fs → OwnFls base w2 fv fs) := by
  have hrow : ∀ q, qv.ownBlock = some q → base ≤ q ∧ ∃ cur, X.heap[q]? = some (.cells cur 32 (0, 0)) := fun q hq => owns_elem hys hq
  have hsz : X.heap.size ≤ w2.heap.size := by have := hg.size; simp at this; omega
  refine ⟨OwnRow.push (E := opE) hq hby ho hys hown hg, grown_gr (hgr.alloc tmp) hg fun q hq => by have := (hrow q hq).1; omega, hsz, fun k hk => ?_, fun fv fs hf => OwnRow.keep hf fun k cur e hk hbk he => ?_⟩
  · rw [hg.block k (by simp; omega) (fun e => by have := (hrow k e.symm).1; omega)]
    exact Below.heap_alloc X tmp k (by omega)
  · have hlt := (Array.getElem?_eq_some_iff.1 hk).1
    rw [hg.block k (by simp; omega) (fun e' => by
      obtain ⟨_, cur', hc⟩ := hrow k e'.symm
      rw [hk] at hc; cases hc; rcases he with he | he <;> cases he)]
    exact Below.heap_alloc X tmp k hlt

set_option maxRecDepth 100000 in
set_option maxHeartbeats 8000000 in
theorem do_any (w : World) {S T : Nat → Prop} (v bv : Value) (d : Dsk) (o : Opr) (hx : IsDsk S w v d) (hb : IsBy T w bv o.data) (hok : opE.ok o) (hc : cnt d ≤ 1000000) (ht : tot d ≤ 1000000000000) (hol : o.data.length ≤ 1000000000000) :
    Calls Try.prog 10 #[v, opV o bv] w fun e w' => ∃ v', e = .returned (.tuple #[v', .int .i64 (doE d o)]) ∧ OwnDsk w.heap.size w' v' (doD d o) ∧ Gr w w' := by
  obtain ⟨i0, hi0, hz0, hz1, hz2⟩ := info_parts Try.info32
  obtain ⟨fa, fc, qa, qc, rfl⟩ := dsk_val hx
  obtain ⟨ba, bc, rfl, _, _⟩ := hb.len
  obtain ⟨W2, hW2⟩ : ∃ W2, ((w.alloc (.cells #[.slice fa d.files.length fc, .slice qa d.queue.length qc, .int .i64 d.quota, .int .i64 d.fuse, .bool d.dead] 25)).alloc (.cells #[.int .u8 o.kind, strV o.name, strV o.to, .slice ba o.data.length bc] 32)).alloc (.cells #[.slice none 0 0, .slice none 0 0, .int .i64 0, .int .i64 0, .bool false] 25) = W2 := ⟨_, rfl⟩
  have hG : Gr w W2 := by rw [← hW2]; exact ((Gr.alloc (Gr.refl w) _).alloc _).alloc _
  have hB1 : W2.heap[w.heap.size]? = some (.cells #[.slice fa d.files.length fc, .slice qa d.queue.length qc, .int .i64 d.quota, .int .i64 d.fuse, .bool d.dead] 25 (0, 0)) := by rw [← hW2]; exact alloc3_heap0 _ _ _ _
  have hB2 : W2.heap[w.heap.size + 1]? = some (.cells #[.int .u8 o.kind, strV o.name, strV o.to, .slice ba o.data.length bc] 32 (0, 0)) := by rw [← hW2]; exact alloc3_heap1 _ _ _ _
  have hB3 : W2.heap[w.heap.size + 1 + 1]? = some (.cells #[.slice none 0 0, .slice none 0 0, .int .i64 0, .int .i64 0, .bool false] 25 (0, 0)) := by rw [← hW2]; exact alloc3_heap2 _ _ _ _
  have hs2 : W2.heap.size = w.heap.size + 3 := by rw [← hW2]; simp
  have c0 := cell_block hB1 (j := 0) (v := .slice fa d.files.length fc) rfl
  have c1 := cell_block hB1 (j := 1) (v := .slice qa d.queue.length qc) rfl
  have c2 := cell_block hB1 (j := 2) (v := .int .i64 d.quota) rfl
  have c3 := cell_block hB1 (j := 3) (v := .int .i64 d.fuse) rfl
  have c4 := cell_block hB1 (j := 4) (v := .bool d.dead) rfl
  have HO := Lib.hid (own_any W2 _ d (hx.gr hG) hc ht)
  have HCT := Lib.hid (And.intro hc ht)
  have HW := Lib.hid hW2
  have HG := Lib.hid hG
  have HB := Lib.hid (And.intro hB1 (And.intro hB2 hB3))
  have HS2 := Lib.hid hs2
  have HBY := Lib.hid (IsBy.gr hG hb.inn)
  have HOK := Lib.hid hok
  have HOL := Lib.hid hol
  have hul := size_now d
  have hql : d.queue.length ≤ 1000000 := by unfold cnt at hc; omega
  have HMYg := Lib.hid (show ∀ (X : World) (S : Nat → Prop) (v : Value), IsDsk S X v d → Calls Try.prog 25 #[v] X fun e w' => e = .returned (.int .i64 (mayP d)) ∧ Gr X w' from fun X S v h => may_any X v d h hc ht)
  have HNOg := Lib.hid (show ∀ (X : World) (S : Nat → Prop) (v : Value), IsDsk S X v d → Calls Try.prog 22 #[v] X fun e w' => ∃ b D, e = .returned (.map (some b)) ∧ X.heap.size ≤ b ∧ OwnM w' b (cnt d) D ∧ MapIs X.heap.size w' D (nowL d) ∧ Gr X w' from fun X S v h => now_any X X.heap.size (Nat.le_refl _) v d (dsk_inn h) hc ht)
  have HUSg := Lib.hid (show ∀ (X : World) (n0 b n : Nat) (D : DataW Value), OwnM X b n D → MapIs n0 X D (nowL d) → Calls Try.prog 27 #[.map (some b)] X fun e w' => e = .returned (.int .i64 (usedN d)) ∧ Gr X w' from
    fun X n0 b n D hm hl => used_map X n0 b n D (nowL d) (srt_now d) hm hl (Nat.le_trans hul ht))
  have HFIg := Lib.hid (show ∀ X, Calls Try.prog 26 #[opV o (.slice ba o.data.length bc)] X fun e w' => e = .returned (.bool (fineB o)) ∧ Gr X w' from fun X => fine_any X o _ hok.2.2)
  have HE := Lib.hid (show doE d o = if mayP d ≠ 0 then mayP d else if fineB o = false then 2 else if get (nowL d) o.name = none ∧ o.kind ≠ 1 then 42 else if (o.kind = 2 ∧ (usedN d : Int) + o.data.length > d.quota) ∨ d.queue.length = 400 then 41 else 0 from rfl)
  have HSD := Lib.hid (show doD d o = if doE d o = 0 then burnP { d with queue := d.queue ++ [o] } else d from rfl)
  have hus : (usedN d : Int) ≤ 1000000000000 := by omega
  clear hx hb hok hol hG hB1 hB2 hB3 hW2 hc ht hs2 hul
  generalize doD d o = sd at *
  generalize doE d o = de at *
  generalize mayP d = m at *
  generalize fineB o = fi at *
  generalize usedN d = un at *
  generalize hND : nowL d = ND at *
  clear hND
  obtain ⟨ok, on, ot, od⟩ := o
  simp only at *
  go_enter Try.func10, Try.ntmps10
  go_upto_region 1 with fail
  rw [HW.out]
  go_wp2_with fail
  refine HO.out.mono ?_
  rintro e w3 ⟨v3, rfl, ⟨fv, qv, rfl, hf, hq, hnum⟩, hg⟩
  obtain ⟨fa3, fc3, rfl⟩ := hf.slice
  obtain ⟨qa3, qc3, rfl⟩ := hq.slice
  have b1 := hg.same HB.out.1
  have b2 := hg.same HB.out.2.1
  have b3 := hg.same HB.out.2.2
  have e0 := cell_block b1 (j := 0) rfl
  have e1 := cell_block b1 (j := 1) rfl
  have e2 := cell_block b1 (j := 2) rfl
  have e3 := cell_block b1 (j := 3) rfl
  have e4 := cell_block b1 (j := 4) rfl
  have f0 := frozen_block b1 (j := 0)
  have f1 := frozen_block b1 (j := 1)
  have f2 := frozen_block b1 (j := 2)
  have f3 := frozen_block b1 (j := 3)
  have f4 := frozen_block b1 (j := 4)
  have hbx := boxed_set b1 (HG.out.trans hg) (Nat.le_refl _) (show w.heap.size < W2.heap.size by have := HS2.out; omega) hf hq hnum
  have ho4 := (set5_other (X := w3) (b := w.heap.size) (k := w.heap.size + 1) (y0 := .slice fa3 d.files.length fc3) (y1 := .slice qa3 d.queue.length qc3) (y2 := .int .i64 d.quota) (y3 := .int .i64 d.fuse) (y4 := .bool d.dead) (by omega)).trans b2
  have hr4 := (set5_other (X := w3) (b := w.heap.size) (k := w.heap.size + 1 + 1) (y0 := .slice fa3 d.files.length fc3) (y1 := .slice qa3 d.queue.length qc3) (y2 := .int .i64 d.quota) (y3 := .int .i64 d.fuse) (y4 := .bool d.dead) (by omega)).trans b3
  have hG4 : Gr W2 w3 := hg
  have hby4 : IsBy (· < w.heap.size) (set5 w3 w.heap.size (.slice fa3 d.files.length fc3) (.slice qa3 d.queue.length qc3) (.int .i64 d.quota) (.int .i64 d.fuse) (.bool d.dead)) (.slice ba od.length bc) od := by
    refine SL.kp (N := fun k _ => k < w.heap.size) (A := w3) ?_ (IsBy.gr hg HBY.out) (fun b c e f hb _ => hb)
    exact ⟨rfl, rfl, rfl, by simp [set5, World.setCell], fun k ob hk hn => by rw [set5_other (by omega)]; exact hk⟩
  clear c0 c1 c2 c3 c4 hf hq hg b1 b2 b3 hG4
  simp only [dskV]
  obtain ⟨W4, hW4⟩ : ∃ W4, set5 w3 w.heap.size (.slice fa3 d.files.length fc3) (.slice qa3 d.queue.length qc3) (.int .i64 d.quota) (.int .i64 d.fuse) (.bool d.dead) = W4 := ⟨_, rfl⟩
  rw [hW4] at hbx hr4 ho4 hby4
  unfold set5 at hW4
  have HBX := Lib.hid hbx
  have HR4 := Lib.hid hr4
  have HO4 := Lib.hid ho4
  have HBY4 := Lib.hid hby4
  have HW4 := Lib.hid hW4
  have HMY := Lib.hid (HMYg.out W4 _ _ hbx.is)
  have HZ4 := Lib.hid (show w.heap.size + 3 ≤ W4.heap.size from by have := (Array.getElem?_eq_some_iff.1 hr4).1; omega)
  have HBC := Lib.hid (show ∀ X, Gr W4 X → X.cell? ⟨w.heap.size, 0, none⟩ = some (.slice fa3 d.files.length fc3) ∧ X.cell? ⟨w.heap.size, 1, none⟩ = some (.slice qa3 d.queue.length qc3) ∧ X.cell? ⟨w.heap.size, 2, none⟩ = some (.int .i64 d.quota) ∧ X.cell? ⟨w.heap.size, 3, none⟩ = some (.int .i64 d.fuse) ∧ X.cell? ⟨w.heap.size, 4, none⟩ = some (.bool d.dead) from
    fun X h => ⟨cell_block (h.same hbx.row) rfl, cell_block (h.same hbx.row) rfl, cell_block (h.same hbx.row) rfl, cell_block (h.same hbx.row) rfl, cell_block (h.same hbx.row) rfl⟩)
  have HOC := Lib.hid (show ∀ X, Gr W4 X → X.cell? ⟨w.heap.size + 1, 0, none⟩ = some (.int .u8 ok) ∧ X.cell? ⟨w.heap.size + 1, 1, none⟩ = some (strV on) ∧ X.cell? ⟨w.heap.size + 1, 2, none⟩ = some (strV ot) ∧ X.cell? ⟨w.heap.size + 1, 3, none⟩ = some (.slice ba od.length bc) from
    fun X h => ⟨cell_block (h.same ho4) rfl, cell_block (h.same ho4) rfl, cell_block (h.same ho4) rfl, cell_block (h.same ho4) rfl⟩)
  obtain ⟨k0, k1, k2, k3, k4⟩ := HBC.out W4 (Gr.refl _)
  clear hbx hr4 ho4 hby4 hW4 HO HMYg HB HBY HG HW
  go_upto_region 2 with fail
  rw [HW4.out]
  clear HW4 e0 e1 e2 e3 e4 f0 f1 f2 f3 f4
  by_cases hm : m = 0
  · subst hm
    have HE1 := Lib.hid (show de = if fi = false then 2 else if get ND on = none ∧ ok ≠ 1 then 42 else if (ok = 2 ∧ (un : Int) + od.length > d.quota) ∨ d.queue.length = 400 then 41 else 0 from HE.out)
    clear HE
    go_wp2_with fail
    refine HMY.out.mono ?_
    rintro e w5 ⟨rfl, hg5⟩
    obtain ⟨k0, k1, k2, k3, k4⟩ := HBC.out w5 hg5
    have HN5 := Lib.hid (HNOg.out w5 _ _ (HBX.out.gr' hg5).is)
    have HG5 := Lib.hid hg5
    clear hg5 HMY HNOg
    go_wp2_with fail
    refine HN5.out.mono ?_
    rintro e w6 ⟨b, D, rfl, hb, hm6, hl6, hg6⟩
    have HG6 := Lib.hid (HG5.out.trans hg6)
    have HMP := Lib.hid (And.intro hb (And.intro hm6 hl6))
    have hlk : ∃ (va : Option Addr) (vn vc : Nat), (Instr.lookup 54 (.map (some b)) (strV on) true).run Try.prog w6 = .ok (.tuple #[.slice va vn vc, .bool (get ND on).isSome]) w6 := by
      cases hgt : get ND on with
      | none => exact ⟨none, 0, 0, hl6.look_no hm6 HOK.out.1 hgt⟩
      | some x =>
        obtain ⟨xv, h1, _, h2⟩ := hl6.look hm6 HOK.out.1 hgt
        obtain ⟨xa, xc, rfl, _, _⟩ := IsBy.len h2
        exact ⟨_, _, _, h1⟩
    obtain ⟨va, vn, vc, hlk⟩ := hlk
    obtain ⟨z0, z1, z2, z3⟩ := HOC.out w6 HG6.out
    have his : (get ND on).isSome = true ∧ ¬ (get ND on = none) ∨ (get ND on).isSome = false ∧ get ND on = none := by cases get ND on <;> simp
    generalize (get ND on).isSome = isb at hlk his
    have HIS := Lib.hid his
    have HFI := Lib.hid (HFIg.out w6)
    clear hb hm6 hl6 hg6 HN5 HFIg his
    go_wp2_with fail
    refine HFI.out.mono ?_
    rintro e w7 ⟨rfl, hg7⟩
    have HG7 := Lib.hid (HG6.out.trans hg7)
    have HM7 := Lib.hid (And.intro (OwnM.gr hg7 HMP.out.2.1) (HMP.out.2.2.gr hg7))
    clear hg7 HFI hlk z0 z1 z2 z3 k0 k1 k2 k3 k4
    cases fi with
    | false =>
      have HERR : de = 2 ∧ sd = d := by
        have h : de = 2 := HE1.out.trans (if_pos rfl)
        exact ⟨h, HSD.out.trans (if_neg (by rw [h]; decide))⟩
      have hGX : Gr W4 w7 := HG7.out
      obtain ⟨k0, k1, k2, k3, k4⟩ := HBC.out _ hGX
      have hr := hGX.same HR4.out
      have x0 := cell_block hr (j := 0) rfl
      have x1 := cell_block hr (j := 1) rfl
      have x2 := cell_block hr (j := 2) rfl
      have x3 := cell_block hr (j := 3) rfl
      have x4 := cell_block hr (j := 4) rfl
      have y0 := frozen_block hr (j := 0)
      have y1 := frozen_block hr (j := 1)
      have y2 := frozen_block hr (j := 2)
      have y3 := frozen_block hr (j := 3)
      have y4 := frozen_block hr (j := 4)
      have HFX := Lib.hid (And.intro hGX (And.intro hr (show de = 2 ∧ sd = d from HERR)))
      clear hGX hr HERR HSD
      go_wp2
      obtain ⟨p1, p2, p3, p4⟩ := HFX.out
      have hb5 := HBX.out.gr' p1
      have hs2 := HS2.out
      refine bodyPost_ret (results_row_tmp rfl Try.underlying25 rfl info25 rfl (rowAt_block (row5_filled p2 _ _ _ _ _) rfl)) rfl ⟨_, by rw [p3]; rfl, ?_, ?_⟩
      · rw [p4]
        exact ⟨_, _, rfl, OwnRow.down (show w.heap.size ≤ W2.heap.size by omega) (hb5.files.keep fun k _ _ _ hk _ => set5_other (by omega)), OwnRow.down (show w.heap.size ≤ W2.heap.size by omega) (hb5.queue.keep fun k _ _ _ hk _ => set5_other (by omega)), hb5.num⟩
      · exact set5_gr hb5.gr (by omega)
    | true =>
      have HE2 := Lib.hid (show de = if get ND on = none ∧ ok ≠ 1 then 42 else if (ok = 2 ∧ (un : Int) + od.length > d.quota) ∨ d.queue.length = 400 then 41 else 0 from HE1.out.trans (if_neg (by simp)))
      obtain ⟨z0, z1, z2, z3⟩ := HOC.out w7 HG7.out
      have h3 : (isb = false ∧ (ok != 1) = true ∧ (get ND on = none ∧ ok ≠ 1)) ∨ (isb = true ∧ ¬ (get ND on = none ∧ ok ≠ 1)) ∨ (isb = false ∧ (ok != 1) = false ∧ ¬ (get ND on = none ∧ ok ≠ 1)) := by
        rcases HIS.out with ⟨h1, h2⟩ | ⟨h1, h2⟩
        · exact .inr (.inl ⟨h1, fun h => h2 h.1⟩)
        · by_cases h : ok = 1
          · exact .inr (.inr ⟨h1, by simp [h], fun h' => h'.2 h⟩)
          · exact .inl ⟨h1, by simpa using h, h2, h⟩
      clear HE1 HIS
      rcases h3 with ⟨rfl, hk1, hc⟩ | ⟨rfl, hc⟩ | ⟨rfl, hk1, hc⟩
      · have HERR : de = 42 ∧ sd = d := by
          have h : de = 42 := HE2.out.trans (if_pos hc)
          exact ⟨h, HSD.out.trans (if_neg (by rw [h]; decide))⟩
        have hGX : Gr W4 w7 := HG7.out
        obtain ⟨k0, k1, k2, k3, k4⟩ := HBC.out _ hGX
        have hr := hGX.same HR4.out
        have x0 := cell_block hr (j := 0) rfl
        have x1 := cell_block hr (j := 1) rfl
        have x2 := cell_block hr (j := 2) rfl
        have x3 := cell_block hr (j := 3) rfl
        have x4 := cell_block hr (j := 4) rfl
        have y0 := frozen_block hr (j := 0)
        have y1 := frozen_block hr (j := 1)
        have y2 := frozen_block hr (j := 2)
        have y3 := frozen_block hr (j := 3)
        have y4 := frozen_block hr (j := 4)
        have HFX := Lib.hid (And.intro hGX (And.intro hr (show de = 42 ∧ sd = d from HERR)))
        clear hGX hr HERR HSD
        go_wp2
        obtain ⟨p1, p2, p3, p4⟩ := HFX.out
        have hb5 := HBX.out.gr' p1
        have hs2 := HS2.out
        refine bodyPost_ret (results_row_tmp rfl Try.underlying25 rfl info25 rfl (rowAt_block (row5_filled p2 _ _ _ _ _) rfl)) rfl ⟨_, by rw [p3]; rfl, ?_, ?_⟩
        · rw [p4]
          exact ⟨_, _, rfl, OwnRow.down (show w.heap.size ≤ W2.heap.size by omega) (hb5.files.keep fun k _ _ _ hk _ => set5_other (by omega)), OwnRow.down (show w.heap.size ≤ W2.heap.size by omega) (hb5.queue.keep fun k _ _ _ hk _ => set5_other (by omega)), hb5.num⟩
        · exact set5_gr hb5.gr (by omega)
      ·
        have HE3 := Lib.hid (HE2.out.trans (if_neg hc))
        clear HE2 hc
        have HU7 := Lib.hid (show ∀ X, Gr w7 X → Calls Try.prog 27 #[.map (some b)] X fun e w' => e = .returned (.int .i64 (un : Int)) ∧ Gr X w' from
          fun X hX => HUSg.out X _ b _ D (OwnM.gr hX HM7.out.1) (HM7.out.2.gr hX))
        have HKY := Lib.hid (show ∀ X, Gr w7 X → (Gr w7 X ∧ X.cell? ⟨w.heap.size + 1, 0, none⟩ = some (.int .u8 ok) ∧ X.cell? ⟨w.heap.size + 1, 3, none⟩ = some (.slice ba od.length bc) ∧ X.cell? ⟨w.heap.size, 1, none⟩ = some (.slice qa3 d.queue.length qc3) ∧ X.cell? ⟨w.heap.size, 2, none⟩ = some (.int .i64 d.quota)) from fun X hX => ⟨hX, (HOC.out X (HG7.out.trans hX)).1, (HOC.out X (HG7.out.trans hX)).2.2.2, (HBC.out X (HG7.out.trans hX)).2.1, (HBC.out X (HG7.out.trans hX)).2.2.1⟩)
        have hodl := HOL.out
        have hwr : IntKind.i64.wrap ((un : Int) + od.length) = (un : Int) + od.length := by
          rw [IntKind.wrap_i64]; omega
        clear HUSg
        have hk2 : (ok = 2 ∧ (ok == 2) = true) ∨ (ok ≠ 2 ∧ (ok == 2) = false) := by by_cases h : ok = 2 <;> simp [h]
        rcases hk2 with ⟨hk2, hkb⟩ | ⟨hk2, hkb⟩
        · have HK2 := Lib.hid hk2
          clear hk2
          by_cases hgt : d.quota < (un : Int) + od.length
          ·
            have hgb : decide (d.quota < (un : Int) + od.length) = true := decide_eq_true hgt
            go_wp2_with fail
            refine wp_region_qw (fun X => Gr w7 X ∧ X.cell? ⟨w.heap.size + 1, 0, none⟩ = some (.int .u8 ok) ∧ X.cell? ⟨w.heap.size + 1, 3, none⟩ = some (.slice ba od.length bc) ∧ X.cell? ⟨w.heap.size, 1, none⟩ = some (.slice qa3 d.queue.length qc3) ∧ X.cell? ⟨w.heap.size, 2, none⟩ = some (.int .i64 d.quota)) (by kernel_rfl) (by kernel_rfl) (HKY.out _ (Gr.refl w7).drew) ?_
            iterate 15
              refine qw_takeE (by kernel_rfl) ?_
              apply Exists.intro
              refine ⟨?_, ?_⟩
              · rintro X ⟨hg, e0, e3, b1, b2⟩
                first
                | (go_simp; done)
                | (go_simp; with_reducible rfl)
                | (go_simp; go_at_call 27; refine (HU7.out _ hg).mono ?_; rintro e y1 ⟨rfl, hgy⟩; refine ⟨?_, HKY.out _ (hg.trans hgy)⟩; with_reducible rfl)
              simp only [Act.put, List.setIfInBounds_toArray, List.set_cons_zero, List.set_cons_succ]
            iterate 4
              refine qw_skip (by kernel_rfl) ?_
              simp only [Act.put, List.setIfInBounds_toArray, List.set_cons_zero, List.set_cons_succ]
            iterate 2
              refine qw_takeE (by kernel_rfl) ?_
              apply Exists.intro
              refine ⟨?_, ?_⟩
              · rintro X ⟨hg, e0, e3, b1, b2⟩
                first
                | (go_simp; done)
                | (go_simp; with_reducible rfl)
                | (go_simp; go_at_call 27; refine (HU7.out _ hg).mono ?_; rintro e y1 ⟨rfl, hgy⟩; refine ⟨?_, HKY.out _ (hg.trans hgy)⟩; with_reducible rfl)
              simp only [Act.put, List.setIfInBounds_toArray, List.set_cons_zero, List.set_cons_succ]
            refine qw_nil ?_
            rintro X ⟨hg, -⟩
            have HGX := Lib.hid (HG7.out.trans hg)
            clear hg HU7 HKY z0 z1 z2 z3
            have HERR : de = 41 ∧ sd = d := by
              have h : de = 41 := HE3.out.trans (if_pos (.inl ⟨HK2.out, hgt⟩))
              exact ⟨h, HSD.out.trans (if_neg (by rw [h]; decide))⟩
            have hGX : Gr W4 X := HGX.out
            obtain ⟨k0, k1, k2, k3, k4⟩ := HBC.out _ hGX
            have hr := hGX.same HR4.out
            have x0 := cell_block hr (j := 0) rfl
            have x1 := cell_block hr (j := 1) rfl
            have x2 := cell_block hr (j := 2) rfl
            have x3 := cell_block hr (j := 3) rfl
            have x4 := cell_block hr (j := 4) rfl
            have y0 := frozen_block hr (j := 0)
            have y1 := frozen_block hr (j := 1)
            have y2 := frozen_block hr (j := 2)
            have y3 := frozen_block hr (j := 3)
            have y4 := frozen_block hr (j := 4)
            have HFX := Lib.hid (And.intro hGX (And.intro hr (show de = 41 ∧ sd = d from HERR)))
            clear hGX hr HERR HSD
            go_wp2
            obtain ⟨p1, p2, p3, p4⟩ := HFX.out
            have hb5 := HBX.out.gr' p1
            have hs2 := HS2.out
            refine bodyPost_ret (results_row_tmp rfl Try.underlying25 rfl info25 rfl (rowAt_block (row5_filled p2 _ _ _ _ _) rfl)) rfl ⟨_, by rw [p3]; rfl, ?_, ?_⟩
            · rw [p4]
              exact ⟨_, _, rfl, OwnRow.down (show w.heap.size ≤ W2.heap.size by omega) (hb5.files.keep fun k _ _ _ hk _ => set5_other (by omega)), OwnRow.down (show w.heap.size ≤ W2.heap.size by omega) (hb5.queue.keep fun k _ _ _ hk _ => set5_other (by omega)), hb5.num⟩
            · exact set5_gr hb5.gr (by omega)
          · by_cases hq4 : (d.queue.length : Int) = 400
            ·
              have hgb : decide (d.quota < (un : Int) + od.length) = false := decide_eq_false hgt
              have hqb4 : ((d.queue.length : Int) == 400) = true := by simpa using hq4
              go_wp2_with fail
              refine wp_region_qw (fun X => Gr w7 X ∧ X.cell? ⟨w.heap.size + 1, 0, none⟩ = some (.int .u8 ok) ∧ X.cell? ⟨w.heap.size + 1, 3, none⟩ = some (.slice ba od.length bc) ∧ X.cell? ⟨w.heap.size, 1, none⟩ = some (.slice qa3 d.queue.length qc3) ∧ X.cell? ⟨w.heap.size, 2, none⟩ = some (.int .i64 d.quota)) (by kernel_rfl) (by kernel_rfl) (HKY.out _ (Gr.refl w7).drew) ?_
              iterate 21
                refine qw_takeE (by kernel_rfl) ?_
                apply Exists.intro
                refine ⟨?_, ?_⟩
                · rintro X ⟨hg, e0, e3, b1, b2⟩
                  first
                  | (go_simp; done)
                  | (go_simp; with_reducible rfl)
                  | (go_simp; go_at_call 27; refine (HU7.out _ hg).mono ?_; rintro e y1 ⟨rfl, hgy⟩; refine ⟨?_, HKY.out _ (hg.trans hgy)⟩; with_reducible rfl)
                simp only [Act.put, List.setIfInBounds_toArray, List.set_cons_zero, List.set_cons_succ]
              refine qw_nil ?_
              rintro X ⟨hg, -⟩
              have HGX := Lib.hid (HG7.out.trans hg)
              clear hg HU7 HKY z0 z1 z2 z3
              have HERR : de = 41 ∧ sd = d := by
                have h : de = 41 := HE3.out.trans (if_pos (.inr (by omega)))
                exact ⟨h, HSD.out.trans (if_neg (by rw [h]; decide))⟩
              have hGX : Gr W4 X := HGX.out
              obtain ⟨k0, k1, k2, k3, k4⟩ := HBC.out _ hGX
              have hr := hGX.same HR4.out
              have x0 := cell_block hr (j := 0) rfl
              have x1 := cell_block hr (j := 1) rfl
              have x2 := cell_block hr (j := 2) rfl
              have x3 := cell_block hr (j := 3) rfl
              have x4 := cell_block hr (j := 4) rfl
              have y0 := frozen_block hr (j := 0)
              have y1 := frozen_block hr (j := 1)
              have y2 := frozen_block hr (j := 2)
              have y3 := frozen_block hr (j := 3)
              have y4 := frozen_block hr (j := 4)
              have HFX := Lib.hid (And.intro hGX (And.intro hr (show de = 41 ∧ sd = d from HERR)))
              clear hGX hr HERR HSD
              go_wp2
              obtain ⟨p1, p2, p3, p4⟩ := HFX.out
              have hb5 := HBX.out.gr' p1
              have hs2 := HS2.out
              refine bodyPost_ret (results_row_tmp rfl Try.underlying25 rfl info25 rfl (rowAt_block (row5_filled p2 _ _ _ _ _) rfl)) rfl ⟨_, by rw [p3]; rfl, ?_, ?_⟩
              · rw [p4]
                exact ⟨_, _, rfl, OwnRow.down (show w.heap.size ≤ W2.heap.size by omega) (hb5.files.keep fun k _ _ _ hk _ => set5_other (by omega)), OwnRow.down (show w.heap.size ≤ W2.heap.size by omega) (hb5.queue.keep fun k _ _ _ hk _ => set5_other (by omega)), hb5.num⟩
              · exact set5_gr hb5.gr (by omega)
            ·
              have hgb : decide (d.quota < (un : Int) + od.length) = false := decide_eq_false hgt
              have hqb4 : ((d.queue.length : Int) == 400) = false := by simpa using hq4
              go_wp2_with fail
              refine wp_region_qw (fun X => Gr w7 X ∧ X.cell? ⟨w.heap.size + 1, 0, none⟩ = some (.int .u8 ok) ∧ X.cell? ⟨w.heap.size + 1, 3, none⟩ = some (.slice ba od.length bc) ∧ X.cell? ⟨w.heap.size, 1, none⟩ = some (.slice qa3 d.queue.length qc3) ∧ X.cell? ⟨w.heap.size, 2, none⟩ = some (.int .i64 d.quota)) (by kernel_rfl) (by kernel_rfl) (HKY.out _ (Gr.refl w7).drew) ?_
              iterate 21
                refine qw_takeE (by kernel_rfl) ?_
                apply Exists.intro
                refine ⟨?_, ?_⟩
                · rintro X ⟨hg, e0, e3, b1, b2⟩
                  first
                  | (go_simp; done)
                  | (go_simp; with_reducible rfl)
                  | (go_simp; go_at_call 27; refine (HU7.out _ hg).mono ?_; rintro e y1 ⟨rfl, hgy⟩; refine ⟨?_, HKY.out _ (hg.trans hgy)⟩; with_reducible rfl)
                simp only [Act.put, List.setIfInBounds_toArray, List.set_cons_zero, List.set_cons_succ]
              refine qw_nil ?_
              rintro X ⟨hg, -⟩
              have HGX := Lib.hid (HG7.out.trans hg)
              clear hg HU7 HKY z0 z1 z2 z3
              have hde : de = 0 := HE3.out.trans (if_neg (fun h => h.elim (fun h => by have := h.2; omega) (fun h => hq4 (by omega))))
              have HDE := Lib.hid (And.intro hde (HSD.out.trans (if_pos hde)))
              clear hde HSD
              obtain ⟨k0, k1, k2, k3, k4⟩ := HBC.out _ HGX.out
              obtain ⟨z0, z1, z2, z3⟩ := HOC.out _ HGX.out
              go_upto_region 13 with fail
              have k1d : X.drew.cell? ⟨w.heap.size, 1, none⟩ = some (.slice qa3 d.queue.length qc3) := (HBC.out _ HGX.out.drew).2.1
              have hop := op_any X.drew ⟨ok, on, ot, od⟩ (IsBy.gr HGX.out.drew HBY4.out) (by have := HOL.out; simp only; omega)
              have HOP := Lib.hid hop
              clear hop
              have hqb : d.queue.length ≤ 1000000 := hql
              go_region_law (first
                | (refine step_append_src rfl (.tmp 64) (.tmp 67) 23 rfl W2.heap.size 32 i0 _ 4 64 Try.underlying23 hi0 hz0 hz1 hz2 rfl (by decide) (.slice qa3 d.queue.length qc3) d.queue.length ys (by simp [Act.eval]) (HYS.out.alloc _) (some ⟨w8.heap.size, 0, none⟩) 1 1 (opCells ⟨ok, on, ot, od⟩ (.slice da od.length dc)) (by simp [Act.eval]) rfl (by intro h; cases h) HNEW.out (opE.one _ _ rfl) HM1.out HM2.out HM3.out ?_
                   intro a9 c9 w9 hown9 hgrow9
                   obtain ⟨p1, p2, p3, p4, p5⟩ := ops_push HL8.out.1 HL8.out.2 HB8.out.gr HB8.out.queue HBY8.out HOK.out HYS.out hown9 hgrow9
                   have b9 := (p4 _ HB8.out.lt).trans HB8.out.row
                   have g1 := cell_block b9 (j := 1) rfl
                   have j1 := frozen_block b9 (j := 1)
                   have HP9 := Lib.hid (And.intro p1 (And.intro p2 (And.intro (p5 _ _ HB8.out.files) (And.intro b9 ((p4 _ (show w.heap.size + 1 + 1 < W2.heap.size from HZ2.out)).trans HR8.out)))))
                   clear p1 p2 p3 p4 p5 b9 hown9 hgrow9)
                | (go_simp; refine HOP.out.mono ?_; rintro e w8 ⟨v8, rfl, ho8, hg8⟩
                   obtain ⟨da, dc, hv8⟩ := ho8.slice
                   change v8 = .slice da od.length dc at hv8
                   subst hv8
                   have hG8 := HGX.out.drew.trans hg8
                   have hb8 := HBX.out.gr' hG8
                   have k18 : w8.cell? ⟨w.heap.size, 1, none⟩ = some (.slice qa3 d.queue.length qc3) := cell_block hb8.row rfl
                   have k19 : (w8.alloc (.cells #[.int .u8 ok, strV on, strV ot, .slice da od.length dc] 32)).cell? ⟨w.heap.size, 1, none⟩ = some (.slice qa3 d.queue.length qc3) := cell_block (hb8.gr' (Gr.alloc (Gr.refl w8) _)).row rfl
                   obtain ⟨ys, hys⟩ := OwnRow.flat hb8.queue
                   have HYS := Lib.hid hys
                   have hsz8 : W2.heap.size ≤ w8.heap.size := by have := hG8.size; have := HZ4.out; have := HS2.out; omega
                   have HNEW := Lib.hid (show ∀ ad, (some ⟨w8.heap.size, 0, none⟩ : Option Addr) = some ad → ∀ (j : Nat) u, (opCells ⟨ok, on, ot, od⟩ (.slice da od.length dc))[j]? = some u → (w8.alloc (.cells #[.int .u8 ok, strV on, strV ot, .slice da od.length dc] 32)).cell? (ad.add j) = some u from news_cells (l := [.int .u8 ok, strV on, strV ot, .slice da od.length dc]) (alloc1_heap w8 (.cells #[.int .u8 ok, strV on, strV ot, .slice da od.length dc] 32)))
                   have HM1 := Lib.hid (show d.queue.length + 1 ≤ maxLen from by unfold maxLen; omega)
                   have HM2 := Lib.hid (show (d.queue.length + 1) * 64 ≤ 140737488355328 from by omega)
                   have HM3 := Lib.hid (show W2.heap.size ≤ (w8.alloc (.cells #[.int .u8 ok, strV on, strV ot, .slice da od.length dc] 32)).heap.size from by simp; omega)
                   have HL8 := Lib.hid (And.intro hsz8 (show w.heap.size ≤ W2.heap.size by have := HS2.out; omega))
                   have HB8 := Lib.hid hb8
                   have HBY8 := Lib.hid (OwnBy.base (base' := W2.heap.size) (show W2.heap.size ≤ X.drew.heap.size by have := HGX.out.drew.size; have := HZ4.out; have := HS2.out; omega) ho8)
                   have HR8 := Lib.hid (hG8.same HR4.out)
                   have HZ2 := Lib.hid (show w.heap.size + 1 + 1 < W2.heap.size by have := HS2.out; omega)
                   clear ho8 hg8 hG8 hb8 hys hsz8))
              all_goals
                obtain ⟨p1, p2, p3, p4, p5⟩ := HP9.out
                have hx13 := HB8.out
                have hb10 : (w9.setCell ⟨w.heap.size, 1, none⟩ (.slice a9 (d.queue.length + 1) c9)).heap[w.heap.size]? = some (.cells #[.slice fa3 d.files.length fc3, .slice a9 (d.queue.length + 1) c9, .int .i64 d.quota, .int .i64 d.fuse, .bool d.dead] 25 (0, 0)) := setCell_block p4 _
                have hf10 : OwnFls W2.heap.size (w9.setCell ⟨w.heap.size, 1, none⟩ (.slice a9 (d.queue.length + 1) c9)) (.slice fa3 d.files.length fc3) d.files := OwnRow.keep p3 fun k _ _ _ hk _ => setCell_other _ (by have := hx13.lt; omega)
                have hq10 : OwnOps W2.heap.size (w9.setCell ⟨w.heap.size, 1, none⟩ (.slice a9 (d.queue.length + 1) c9)) (.slice a9 (d.queue.length + 1) c9) (d.queue ++ [⟨ok, on, ot, od⟩]) := OwnRow.keep p1 fun k _ _ _ hk _ => setCell_other _ (by have := hx13.lt; omega)
                have hr10 : (w9.setCell ⟨w.heap.size, 1, none⟩ (.slice a9 (d.queue.length + 1) c9)).heap[w.heap.size + 1 + 1]? = _ := heap_set_other p5 (by omega)
                have hg10 : Gr w (w9.setCell ⟨w.heap.size, 1, none⟩ (.slice a9 (d.queue.length + 1) c9)) := Gr.set p2 (Nat.le_refl _) _
                have HB10 := Lib.hid (burn_any _ w.heap.size (.slice fa3 d.files.length fc3) (.slice a9 (d.queue.length + 1) c9) { d with queue := d.queue ++ [⟨ok, on, ot, od⟩] } hx13.num hb10)
                have HP10 := Lib.hid (And.intro hf10 (And.intro hq10 (And.intro hr10 (And.intro hg10 (And.intro hx13.lt hx13.num)))))
                clear p1 p2 p3 p4 p5 hx13 hb10 hf10 hq10 hr10 hg10 HB8 HP9
                go_wp2_with fail
                refine HB10.out.mono ?_
                rintro e w11 ⟨rfl, hb11, hg11⟩
                obtain ⟨q1, q2, q3, q4, q5, q6⟩ := HP10.out
                have hf11 := row_grown q1 hg11 q5
                have hq11 := row_grown q2 hg11 q5
                have hr11 := (hg11.block _ (Array.getElem?_eq_some_iff.1 q3).1 (fun e => by injection e with e; omega)).trans q3
                have hg11' := grown_gr q4 hg11 fun k hk => by cases hk; exact Nat.le_refl _
                have hbn := burn_num (d := { d with queue := d.queue ++ [⟨ok, on, ot, od⟩] }) q6
                have hbf := burn_files { d with queue := d.queue ++ [⟨ok, on, ot, od⟩] }
                have hbq := burn_queue { d with queue := d.queue ++ [⟨ok, on, ot, od⟩] }
                rw [← HDE.out.2] at hbn hbf hbq hb11
                have e0 := cell_block hb11 (j := 0) (v := .slice fa3 d.files.length fc3) rfl
                have e1 := cell_block hb11 (j := 1) (v := .slice a9 (d.queue.length + 1) c9) rfl
                have e2 := cell_block hb11 (j := 2) (v := .int .i64 sd.quota) rfl
                have e3 := cell_block hb11 (j := 3) (v := .int .i64 sd.fuse) rfl
                have e4 := cell_block hb11 (j := 4) (v := .bool sd.dead) rfl
                have x0 := cell_block hr11 (j := 0) rfl
                have x1 := cell_block hr11 (j := 1) rfl
                have x2 := cell_block hr11 (j := 2) rfl
                have x3 := cell_block hr11 (j := 3) rfl
                have x4 := cell_block hr11 (j := 4) rfl
                have y0 := frozen_block hr11 (j := 0)
                have y1 := frozen_block hr11 (j := 1)
                have y2 := frozen_block hr11 (j := 2)
                have y3 := frozen_block hr11 (j := 3)
                have y4 := frozen_block hr11 (j := 4)
                have HP11 := Lib.hid (And.intro hf11 (And.intro hq11 (And.intro hr11 (And.intro hg11' (And.intro hbn (And.intro hbf hbq))))))
                clear hf11 hq11 hr11 hg11' hbn hbf hbq hb11 hg11 q1 q2 q3 q4 q5 q6
                go_wp2
                obtain ⟨p1, p2, p3, p4, p5, p6, p7⟩ := HP11.out
                have hs2 := HS2.out
                refine bodyPost_ret (results_row_tmp rfl Try.underlying25 rfl info25 rfl (rowAt_block (row5_filled p3 _ _ _ _ _) rfl)) rfl ⟨_, by rw [HDE.out.1]; rfl, ⟨_, _, rfl, ?_, ?_, p5⟩, ?_⟩
                · rw [p6]
                  refine OwnRow.down (show w.heap.size ≤ W2.heap.size by omega) (p1.keep fun k _ _ _ hk _ => set5_other (by omega))
                · rw [p7]
                  refine OwnRow.down (show w.heap.size ≤ W2.heap.size by omega) (p2.keep fun k _ _ _ hk _ => set5_other (by omega))
                · exact set5_gr p4 (by omega)
        · by_cases hq4 : (d.queue.length : Int) = 400
          ·
            have hqb4 : ((d.queue.length : Int) == 400) = true := by simpa using hq4
            go_wp2_with fail
            refine wp_region_qw (fun X => Gr w7 X ∧ X.cell? ⟨w.heap.size + 1, 0, none⟩ = some (.int .u8 ok) ∧ X.cell? ⟨w.heap.size + 1, 3, none⟩ = some (.slice ba od.length bc) ∧ X.cell? ⟨w.heap.size, 1, none⟩ = some (.slice qa3 d.queue.length qc3) ∧ X.cell? ⟨w.heap.size, 2, none⟩ = some (.int .i64 d.quota)) (by kernel_rfl) (by kernel_rfl) (HKY.out _ (Gr.refl w7).drew) ?_
            iterate 4
              refine qw_takeE (by kernel_rfl) ?_
              apply Exists.intro
              refine ⟨?_, ?_⟩
              · rintro X ⟨hg, e0, e3, b1, b2⟩
                first
                | (go_simp; done)
                | (go_simp; with_reducible rfl)
                | (go_simp; go_at_call 27; refine (HU7.out _ hg).mono ?_; rintro e y1 ⟨rfl, hgy⟩; refine ⟨?_, HKY.out _ (hg.trans hgy)⟩; with_reducible rfl)
              simp only [Act.put, List.setIfInBounds_toArray, List.set_cons_zero, List.set_cons_succ]
            iterate 9
              refine qw_skip (by kernel_rfl) ?_
              simp only [Act.put, List.setIfInBounds_toArray, List.set_cons_zero, List.set_cons_succ]
            iterate 8
              refine qw_takeE (by kernel_rfl) ?_
              apply Exists.intro
              refine ⟨?_, ?_⟩
              · rintro X ⟨hg, e0, e3, b1, b2⟩
                first
                | (go_simp; done)
                | (go_simp; with_reducible rfl)
                | (go_simp; go_at_call 27; refine (HU7.out _ hg).mono ?_; rintro e y1 ⟨rfl, hgy⟩; refine ⟨?_, HKY.out _ (hg.trans hgy)⟩; with_reducible rfl)
              simp only [Act.put, List.setIfInBounds_toArray, List.set_cons_zero, List.set_cons_succ]
            refine qw_nil ?_
            rintro X ⟨hg, -⟩
            have HGX := Lib.hid (HG7.out.trans hg)
            clear hg HU7 HKY z0 z1 z2 z3
            have HERR : de = 41 ∧ sd = d := by
              have h : de = 41 := HE3.out.trans (if_pos (.inr (by omega)))
              exact ⟨h, HSD.out.trans (if_neg (by rw [h]; decide))⟩
            have hGX : Gr W4 X := HGX.out
            obtain ⟨k0, k1, k2, k3, k4⟩ := HBC.out _ hGX
            have hr := hGX.same HR4.out
            have x0 := cell_block hr (j := 0) rfl
            have x1 := cell_block hr (j := 1) rfl
            have x2 := cell_block hr (j := 2) rfl
            have x3 := cell_block hr (j := 3) rfl
            have x4 := cell_block hr (j := 4) rfl
            have y0 := frozen_block hr (j := 0)
            have y1 := frozen_block hr (j := 1)
            have y2 := frozen_block hr (j := 2)
            have y3 := frozen_block hr (j := 3)
            have y4 := frozen_block hr (j := 4)
            have HFX := Lib.hid (And.intro hGX (And.intro hr (show de = 41 ∧ sd = d from HERR)))
            clear hGX hr HERR HSD
            go_wp2
            obtain ⟨p1, p2, p3, p4⟩ := HFX.out
            have hb5 := HBX.out.gr' p1
            have hs2 := HS2.out
            refine bodyPost_ret (results_row_tmp rfl Try.underlying25 rfl info25 rfl (rowAt_block (row5_filled p2 _ _ _ _ _) rfl)) rfl ⟨_, by rw [p3]; rfl, ?_, ?_⟩
            · rw [p4]
              exact ⟨_, _, rfl, OwnRow.down (show w.heap.size ≤ W2.heap.size by omega) (hb5.files.keep fun k _ _ _ hk _ => set5_other (by omega)), OwnRow.down (show w.heap.size ≤ W2.heap.size by omega) (hb5.queue.keep fun k _ _ _ hk _ => set5_other (by omega)), hb5.num⟩
            · exact set5_gr hb5.gr (by omega)
          ·
            have hqb4 : ((d.queue.length : Int) == 400) = false := by simpa using hq4
            go_wp2_with fail
            refine wp_region_qw (fun X => Gr w7 X ∧ X.cell? ⟨w.heap.size + 1, 0, none⟩ = some (.int .u8 ok) ∧ X.cell? ⟨w.heap.size + 1, 3, none⟩ = some (.slice ba od.length bc) ∧ X.cell? ⟨w.heap.size, 1, none⟩ = some (.slice qa3 d.queue.length qc3) ∧ X.cell? ⟨w.heap.size, 2, none⟩ = some (.int .i64 d.quota)) (by kernel_rfl) (by kernel_rfl) (HKY.out _ (Gr.refl w7).drew) ?_
            iterate 4
              refine qw_takeE (by kernel_rfl) ?_
              apply Exists.intro
              refine ⟨?_, ?_⟩
              · rintro X ⟨hg, e0, e3, b1, b2⟩
                first
                | (go_simp; done)
                | (go_simp; with_reducible rfl)
                | (go_simp; go_at_call 27; refine (HU7.out _ hg).mono ?_; rintro e y1 ⟨rfl, hgy⟩; refine ⟨?_, HKY.out _ (hg.trans hgy)⟩; with_reducible rfl)
              simp only [Act.put, List.setIfInBounds_toArray, List.set_cons_zero, List.set_cons_succ]
            iterate 9
              refine qw_skip (by kernel_rfl) ?_
              simp only [Act.put, List.setIfInBounds_toArray, List.set_cons_zero, List.set_cons_succ]
            iterate 8
              refine qw_takeE (by kernel_rfl) ?_
              apply Exists.intro
              refine ⟨?_, ?_⟩
              · rintro X ⟨hg, e0, e3, b1, b2⟩
                first
                | (go_simp; done)
                | (go_simp; with_reducible rfl)
                | (go_simp; go_at_call 27; refine (HU7.out _ hg).mono ?_; rintro e y1 ⟨rfl, hgy⟩; refine ⟨?_, HKY.out _ (hg.trans hgy)⟩; with_reducible rfl)
              simp only [Act.put, List.setIfInBounds_toArray, List.set_cons_zero, List.set_cons_succ]
            refine qw_nil ?_
            rintro X ⟨hg, -⟩
            have HGX := Lib.hid (HG7.out.trans hg)
            clear hg HU7 HKY z0 z1 z2 z3
            have hde : de = 0 := HE3.out.trans (if_neg (fun h => h.elim (fun h => hk2 h.1) (fun h => hq4 (by omega))))
            have HDE := Lib.hid (And.intro hde (HSD.out.trans (if_pos hde)))
            clear hde HSD
            obtain ⟨k0, k1, k2, k3, k4⟩ := HBC.out _ HGX.out
            obtain ⟨z0, z1, z2, z3⟩ := HOC.out _ HGX.out
            go_upto_region 13 with fail
            have k1d : X.drew.cell? ⟨w.heap.size, 1, none⟩ = some (.slice qa3 d.queue.length qc3) := (HBC.out _ HGX.out.drew).2.1
            have hop := op_any X.drew ⟨ok, on, ot, od⟩ (IsBy.gr HGX.out.drew HBY4.out) (by have := HOL.out; simp only; omega)
            have HOP := Lib.hid hop
            clear hop
            have hqb : d.queue.length ≤ 1000000 := hql
            go_region_law (first
              | (refine step_append_src rfl (.tmp 64) (.tmp 67) 23 rfl W2.heap.size 32 i0 _ 4 64 Try.underlying23 hi0 hz0 hz1 hz2 rfl (by decide) (.slice qa3 d.queue.length qc3) d.queue.length ys (by simp [Act.eval]) (HYS.out.alloc _) (some ⟨w8.heap.size, 0, none⟩) 1 1 (opCells ⟨ok, on, ot, od⟩ (.slice da od.length dc)) (by simp [Act.eval]) rfl (by intro h; cases h) HNEW.out (opE.one _ _ rfl) HM1.out HM2.out HM3.out ?_
                 intro a9 c9 w9 hown9 hgrow9
                 obtain ⟨p1, p2, p3, p4, p5⟩ := ops_push HL8.out.1 HL8.out.2 HB8.out.gr HB8.out.queue HBY8.out HOK.out HYS.out hown9 hgrow9
                 have b9 := (p4 _ HB8.out.lt).trans HB8.out.row
                 have g1 := cell_block b9 (j := 1) rfl
                 have j1 := frozen_block b9 (j := 1)
                 have HP9 := Lib.hid (And.intro p1 (And.intro p2 (And.intro (p5 _ _ HB8.out.files) (And.intro b9 ((p4 _ (show w.heap.size + 1 + 1 < W2.heap.size from HZ2.out)).trans HR8.out)))))
                 clear p1 p2 p3 p4 p5 b9 hown9 hgrow9)
              | (go_simp; refine HOP.out.mono ?_; rintro e w8 ⟨v8, rfl, ho8, hg8⟩
                 obtain ⟨da, dc, hv8⟩ := ho8.slice
                 change v8 = .slice da od.length dc at hv8
                 subst hv8
                 have hG8 := HGX.out.drew.trans hg8
                 have hb8 := HBX.out.gr' hG8
                 have k18 : w8.cell? ⟨w.heap.size, 1, none⟩ = some (.slice qa3 d.queue.length qc3) := cell_block hb8.row rfl
                 have k19 : (w8.alloc (.cells #[.int .u8 ok, strV on, strV ot, .slice da od.length dc] 32)).cell? ⟨w.heap.size, 1, none⟩ = some (.slice qa3 d.queue.length qc3) := cell_block (hb8.gr' (Gr.alloc (Gr.refl w8) _)).row rfl
                 obtain ⟨ys, hys⟩ := OwnRow.flat hb8.queue
                 have HYS := Lib.hid hys
                 have hsz8 : W2.heap.size ≤ w8.heap.size := by have := hG8.size; have := HZ4.out; have := HS2.out; omega
                 have HNEW := Lib.hid (show ∀ ad, (some ⟨w8.heap.size, 0, none⟩ : Option Addr) = some ad → ∀ (j : Nat) u, (opCells ⟨ok, on, ot, od⟩ (.slice da od.length dc))[j]? = some u → (w8.alloc (.cells #[.int .u8 ok, strV on, strV ot, .slice da od.length dc] 32)).cell? (ad.add j) = some u from news_cells (l := [.int .u8 ok, strV on, strV ot, .slice da od.length dc]) (alloc1_heap w8 (.cells #[.int .u8 ok, strV on, strV ot, .slice da od.length dc] 32)))
                 have HM1 := Lib.hid (show d.queue.length + 1 ≤ maxLen from by unfold maxLen; omega)
                 have HM2 := Lib.hid (show (d.queue.length + 1) * 64 ≤ 140737488355328 from by omega)
                 have HM3 := Lib.hid (show W2.heap.size ≤ (w8.alloc (.cells #[.int .u8 ok, strV on, strV ot, .slice da od.length dc] 32)).heap.size from by simp; omega)
                 have HL8 := Lib.hid (And.intro hsz8 (show w.heap.size ≤ W2.heap.size by have := HS2.out; omega))
                 have HB8 := Lib.hid hb8
                 have HBY8 := Lib.hid (OwnBy.base (base' := W2.heap.size) (show W2.heap.size ≤ X.drew.heap.size by have := HGX.out.drew.size; have := HZ4.out; have := HS2.out; omega) ho8)
                 have HR8 := Lib.hid (hG8.same HR4.out)
                 have HZ2 := Lib.hid (show w.heap.size + 1 + 1 < W2.heap.size by have := HS2.out; omega)
                 clear ho8 hg8 hG8 hb8 hys hsz8))
            all_goals
              obtain ⟨p1, p2, p3, p4, p5⟩ := HP9.out
              have hx13 := HB8.out
              have hb10 : (w9.setCell ⟨w.heap.size, 1, none⟩ (.slice a9 (d.queue.length + 1) c9)).heap[w.heap.size]? = some (.cells #[.slice fa3 d.files.length fc3, .slice a9 (d.queue.length + 1) c9, .int .i64 d.quota, .int .i64 d.fuse, .bool d.dead] 25 (0, 0)) := setCell_block p4 _
              have hf10 : OwnFls W2.heap.size (w9.setCell ⟨w.heap.size, 1, none⟩ (.slice a9 (d.queue.length + 1) c9)) (.slice fa3 d.files.length fc3) d.files := OwnRow.keep p3 fun k _ _ _ hk _ => setCell_other _ (by have := hx13.lt; omega)
              have hq10 : OwnOps W2.heap.size (w9.setCell ⟨w.heap.size, 1, none⟩ (.slice a9 (d.queue.length + 1) c9)) (.slice a9 (d.queue.length + 1) c9) (d.queue ++ [⟨ok, on, ot, od⟩]) := OwnRow.keep p1 fun k _ _ _ hk _ => setCell_other _ (by have := hx13.lt; omega)
              have hr10 : (w9.setCell ⟨w.heap.size, 1, none⟩ (.slice a9 (d.queue.length + 1) c9)).heap[w.heap.size + 1 + 1]? = _ := heap_set_other p5 (by omega)
              have hg10 : Gr w (w9.setCell ⟨w.heap.size, 1, none⟩ (.slice a9 (d.queue.length + 1) c9)) := Gr.set p2 (Nat.le_refl _) _
              have HB10 := Lib.hid (burn_any _ w.heap.size (.slice fa3 d.files.length fc3) (.slice a9 (d.queue.length + 1) c9) { d with queue := d.queue ++ [⟨ok, on, ot, od⟩] } hx13.num hb10)
              have HP10 := Lib.hid (And.intro hf10 (And.intro hq10 (And.intro hr10 (And.intro hg10 (And.intro hx13.lt hx13.num)))))
              clear p1 p2 p3 p4 p5 hx13 hb10 hf10 hq10 hr10 hg10 HB8 HP9
              go_wp2_with fail
              refine HB10.out.mono ?_
              rintro e w11 ⟨rfl, hb11, hg11⟩
              obtain ⟨q1, q2, q3, q4, q5, q6⟩ := HP10.out
              have hf11 := row_grown q1 hg11 q5
              have hq11 := row_grown q2 hg11 q5
              have hr11 := (hg11.block _ (Array.getElem?_eq_some_iff.1 q3).1 (fun e => by injection e with e; omega)).trans q3
              have hg11' := grown_gr q4 hg11 fun k hk => by cases hk; exact Nat.le_refl _
              have hbn := burn_num (d := { d with queue := d.queue ++ [⟨ok, on, ot, od⟩] }) q6
              have hbf := burn_files { d with queue := d.queue ++ [⟨ok, on, ot, od⟩] }
              have hbq := burn_queue { d with queue := d.queue ++ [⟨ok, on, ot, od⟩] }
              rw [← HDE.out.2] at hbn hbf hbq hb11
              have e0 := cell_block hb11 (j := 0) (v := .slice fa3 d.files.length fc3) rfl
              have e1 := cell_block hb11 (j := 1) (v := .slice a9 (d.queue.length + 1) c9) rfl
              have e2 := cell_block hb11 (j := 2) (v := .int .i64 sd.quota) rfl
              have e3 := cell_block hb11 (j := 3) (v := .int .i64 sd.fuse) rfl
              have e4 := cell_block hb11 (j := 4) (v := .bool sd.dead) rfl
              have x0 := cell_block hr11 (j := 0) rfl
              have x1 := cell_block hr11 (j := 1) rfl
              have x2 := cell_block hr11 (j := 2) rfl
              have x3 := cell_block hr11 (j := 3) rfl
              have x4 := cell_block hr11 (j := 4) rfl
              have y0 := frozen_block hr11 (j := 0)
              have y1 := frozen_block hr11 (j := 1)
              have y2 := frozen_block hr11 (j := 2)
              have y3 := frozen_block hr11 (j := 3)
              have y4 := frozen_block hr11 (j := 4)
              have HP11 := Lib.hid (And.intro hf11 (And.intro hq11 (And.intro hr11 (And.intro hg11' (And.intro hbn (And.intro hbf hbq))))))
              clear hf11 hq11 hr11 hg11' hbn hbf hbq hb11 hg11 q1 q2 q3 q4 q5 q6
              go_wp2
              obtain ⟨p1, p2, p3, p4, p5, p6, p7⟩ := HP11.out
              have hs2 := HS2.out
              refine bodyPost_ret (results_row_tmp rfl Try.underlying25 rfl info25 rfl (rowAt_block (row5_filled p3 _ _ _ _ _) rfl)) rfl ⟨_, by rw [HDE.out.1]; rfl, ⟨_, _, rfl, ?_, ?_, p5⟩, ?_⟩
              · rw [p6]
                refine OwnRow.down (show w.heap.size ≤ W2.heap.size by omega) (p1.keep fun k _ _ _ hk _ => set5_other (by omega))
              · rw [p7]
                refine OwnRow.down (show w.heap.size ≤ W2.heap.size by omega) (p2.keep fun k _ _ _ hk _ => set5_other (by omega))
              · exact set5_gr p4 (by omega)
      ·
        have HE3 := Lib.hid (HE2.out.trans (if_neg hc))
        clear HE2 hc
        have HU7 := Lib.hid (show ∀ X, Gr w7 X → Calls Try.prog 27 #[.map (some b)] X fun e w' => e = .returned (.int .i64 (un : Int)) ∧ Gr X w' from
          fun X hX => HUSg.out X _ b _ D (OwnM.gr hX HM7.out.1) (HM7.out.2.gr hX))
        have HKY := Lib.hid (show ∀ X, Gr w7 X → (Gr w7 X ∧ X.cell? ⟨w.heap.size + 1, 0, none⟩ = some (.int .u8 ok) ∧ X.cell? ⟨w.heap.size + 1, 3, none⟩ = some (.slice ba od.length bc) ∧ X.cell? ⟨w.heap.size, 1, none⟩ = some (.slice qa3 d.queue.length qc3) ∧ X.cell? ⟨w.heap.size, 2, none⟩ = some (.int .i64 d.quota)) from fun X hX => ⟨hX, (HOC.out X (HG7.out.trans hX)).1, (HOC.out X (HG7.out.trans hX)).2.2.2, (HBC.out X (HG7.out.trans hX)).2.1, (HBC.out X (HG7.out.trans hX)).2.2.1⟩)
        have hodl := HOL.out
        have hwr : IntKind.i64.wrap ((un : Int) + od.length) = (un : Int) + od.length := by
          rw [IntKind.wrap_i64]; omega
        clear HUSg
        have hk1' : ok = 1 := by simpa using hk1
        have hk2 : ok ≠ 2 := by omega
        clear hk1'
        have hkb : (ok == 2) = false := by simp [hk2]
        by_cases hq4 : (d.queue.length : Int) = 400
        ·
          have hqb4 : ((d.queue.length : Int) == 400) = true := by simpa using hq4
          go_wp2_with fail
          refine wp_region_qw (fun X => Gr w7 X ∧ X.cell? ⟨w.heap.size + 1, 0, none⟩ = some (.int .u8 ok) ∧ X.cell? ⟨w.heap.size + 1, 3, none⟩ = some (.slice ba od.length bc) ∧ X.cell? ⟨w.heap.size, 1, none⟩ = some (.slice qa3 d.queue.length qc3) ∧ X.cell? ⟨w.heap.size, 2, none⟩ = some (.int .i64 d.quota)) (by kernel_rfl) (by kernel_rfl) (HKY.out _ (Gr.refl w7).drew) ?_
          iterate 4
            refine qw_takeE (by kernel_rfl) ?_
            apply Exists.intro
            refine ⟨?_, ?_⟩
            · rintro X ⟨hg, e0, e3, b1, b2⟩
              first
              | (go_simp; done)
              | (go_simp; with_reducible rfl)
              | (go_simp; go_at_call 27; refine (HU7.out _ hg).mono ?_; rintro e y1 ⟨rfl, hgy⟩; refine ⟨?_, HKY.out _ (hg.trans hgy)⟩; with_reducible rfl)
            simp only [Act.put, List.setIfInBounds_toArray, List.set_cons_zero, List.set_cons_succ]
          iterate 9
            refine qw_skip (by kernel_rfl) ?_
            simp only [Act.put, List.setIfInBounds_toArray, List.set_cons_zero, List.set_cons_succ]
          iterate 8
            refine qw_takeE (by kernel_rfl) ?_
            apply Exists.intro
            refine ⟨?_, ?_⟩
            · rintro X ⟨hg, e0, e3, b1, b2⟩
              first
              | (go_simp; done)
              | (go_simp; with_reducible rfl)
              | (go_simp; go_at_call 27; refine (HU7.out _ hg).mono ?_; rintro e y1 ⟨rfl, hgy⟩; refine ⟨?_, HKY.out _ (hg.trans hgy)⟩; with_reducible rfl)
            simp only [Act.put, List.setIfInBounds_toArray, List.set_cons_zero, List.set_cons_succ]
          refine qw_nil ?_
          rintro X ⟨hg, -⟩
          have HGX := Lib.hid (HG7.out.trans hg)
          clear hg HU7 HKY z0 z1 z2 z3
          have HERR : de = 41 ∧ sd = d := by
            have h : de = 41 := HE3.out.trans (if_pos (.inr (by omega)))
            exact ⟨h, HSD.out.trans (if_neg (by rw [h]; decide))⟩
          have hGX : Gr W4 X := HGX.out
          obtain ⟨k0, k1, k2, k3, k4⟩ := HBC.out _ hGX
          have hr := hGX.same HR4.out
          have x0 := cell_block hr (j := 0) rfl
          have x1 := cell_block hr (j := 1) rfl
          have x2 := cell_block hr (j := 2) rfl
          have x3 := cell_block hr (j := 3) rfl
          have x4 := cell_block hr (j := 4) rfl
          have y0 := frozen_block hr (j := 0)
          have y1 := frozen_block hr (j := 1)
          have y2 := frozen_block hr (j := 2)
          have y3 := frozen_block hr (j := 3)
          have y4 := frozen_block hr (j := 4)
          have HFX := Lib.hid (And.intro hGX (And.intro hr (show de = 41 ∧ sd = d from HERR)))
          clear hGX hr HERR HSD
          go_wp2
          obtain ⟨p1, p2, p3, p4⟩ := HFX.out
          have hb5 := HBX.out.gr' p1
          have hs2 := HS2.out
          refine bodyPost_ret (results_row_tmp rfl Try.underlying25 rfl info25 rfl (rowAt_block (row5_filled p2 _ _ _ _ _) rfl)) rfl ⟨_, by rw [p3]; rfl, ?_, ?_⟩
          · rw [p4]
            exact ⟨_, _, rfl, OwnRow.down (show w.heap.size ≤ W2.heap.size by omega) (hb5.files.keep fun k _ _ _ hk _ => set5_other (by omega)), OwnRow.down (show w.heap.size ≤ W2.heap.size by omega) (hb5.queue.keep fun k _ _ _ hk _ => set5_other (by omega)), hb5.num⟩
          · exact set5_gr hb5.gr (by omega)
        ·
          have hqb4 : ((d.queue.length : Int) == 400) = false := by simpa using hq4
          go_wp2_with fail
          refine wp_region_qw (fun X => Gr w7 X ∧ X.cell? ⟨w.heap.size + 1, 0, none⟩ = some (.int .u8 ok) ∧ X.cell? ⟨w.heap.size + 1, 3, none⟩ = some (.slice ba od.length bc) ∧ X.cell? ⟨w.heap.size, 1, none⟩ = some (.slice qa3 d.queue.length qc3) ∧ X.cell? ⟨w.heap.size, 2, none⟩ = some (.int .i64 d.quota)) (by kernel_rfl) (by kernel_rfl) (HKY.out _ (Gr.refl w7).drew) ?_
          iterate 4
            refine qw_takeE (by kernel_rfl) ?_
            apply Exists.intro
            refine ⟨?_, ?_⟩
            · rintro X ⟨hg, e0, e3, b1, b2⟩
              first
              | (go_simp; done)
              | (go_simp; with_reducible rfl)
              | (go_simp; go_at_call 27; refine (HU7.out _ hg).mono ?_; rintro e y1 ⟨rfl, hgy⟩; refine ⟨?_, HKY.out _ (hg.trans hgy)⟩; with_reducible rfl)
            simp only [Act.put, List.setIfInBounds_toArray, List.set_cons_zero, List.set_cons_succ]
          iterate 9
            refine qw_skip (by kernel_rfl) ?_
            simp only [Act.put, List.setIfInBounds_toArray, List.set_cons_zero, List.set_cons_succ]
          iterate 8
            refine qw_takeE (by kernel_rfl) ?_
            apply Exists.intro
            refine ⟨?_, ?_⟩
            · rintro X ⟨hg, e0, e3, b1, b2⟩
              first
              | (go_simp; done)
              | (go_simp; with_reducible rfl)
              | (go_simp; go_at_call 27; refine (HU7.out _ hg).mono ?_; rintro e y1 ⟨rfl, hgy⟩; refine ⟨?_, HKY.out _ (hg.trans hgy)⟩; with_reducible rfl)
            simp only [Act.put, List.setIfInBounds_toArray, List.set_cons_zero, List.set_cons_succ]
          refine qw_nil ?_
          rintro X ⟨hg, -⟩
          have HGX := Lib.hid (HG7.out.trans hg)
          clear hg HU7 HKY z0 z1 z2 z3
          have hde : de = 0 := HE3.out.trans (if_neg (fun h => h.elim (fun h => hk2 h.1) (fun h => hq4 (by omega))))
          have HDE := Lib.hid (And.intro hde (HSD.out.trans (if_pos hde)))
          clear hde HSD
          obtain ⟨k0, k1, k2, k3, k4⟩ := HBC.out _ HGX.out
          obtain ⟨z0, z1, z2, z3⟩ := HOC.out _ HGX.out
          go_upto_region 13 with fail
          have k1d : X.drew.cell? ⟨w.heap.size, 1, none⟩ = some (.slice qa3 d.queue.length qc3) := (HBC.out _ HGX.out.drew).2.1
          have hop := op_any X.drew ⟨ok, on, ot, od⟩ (IsBy.gr HGX.out.drew HBY4.out) (by have := HOL.out; simp only; omega)
          have HOP := Lib.hid hop
          clear hop
          have hqb : d.queue.length ≤ 1000000 := hql
          go_region_law (first
            | (refine step_append_src rfl (.tmp 64) (.tmp 67) 23 rfl W2.heap.size 32 i0 _ 4 64 Try.underlying23 hi0 hz0 hz1 hz2 rfl (by decide) (.slice qa3 d.queue.length qc3) d.queue.length ys (by simp [Act.eval]) (HYS.out.alloc _) (some ⟨w8.heap.size, 0, none⟩) 1 1 (opCells ⟨ok, on, ot, od⟩ (.slice da od.length dc)) (by simp [Act.eval]) rfl (by intro h; cases h) HNEW.out (opE.one _ _ rfl) HM1.out HM2.out HM3.out ?_
               intro a9 c9 w9 hown9 hgrow9
               obtain ⟨p1, p2, p3, p4, p5⟩ := ops_push HL8.out.1 HL8.out.2 HB8.out.gr HB8.out.queue HBY8.out HOK.out HYS.out hown9 hgrow9
               have b9 := (p4 _ HB8.out.lt).trans HB8.out.row
               have g1 := cell_block b9 (j := 1) rfl
               have j1 := frozen_block b9 (j := 1)
               have HP9 := Lib.hid (And.intro p1 (And.intro p2 (And.intro (p5 _ _ HB8.out.files) (And.intro b9 ((p4 _ (show w.heap.size + 1 + 1 < W2.heap.size from HZ2.out)).trans HR8.out)))))
               clear p1 p2 p3 p4 p5 b9 hown9 hgrow9)
            | (go_simp; refine HOP.out.mono ?_; rintro e w8 ⟨v8, rfl, ho8, hg8⟩
               obtain ⟨da, dc, hv8⟩ := ho8.slice
               change v8 = .slice da od.length dc at hv8
               subst hv8
               have hG8 := HGX.out.drew.trans hg8
               have hb8 := HBX.out.gr' hG8
               have k18 : w8.cell? ⟨w.heap.size, 1, none⟩ = some (.slice qa3 d.queue.length qc3) := cell_block hb8.row rfl
               have k19 : (w8.alloc (.cells #[.int .u8 ok, strV on, strV ot, .slice da od.length dc] 32)).cell? ⟨w.heap.size, 1, none⟩ = some (.slice qa3 d.queue.length qc3) := cell_block (hb8.gr' (Gr.alloc (Gr.refl w8) _)).row rfl
               obtain ⟨ys, hys⟩ := OwnRow.flat hb8.queue
               have HYS := Lib.hid hys
               have hsz8 : W2.heap.size ≤ w8.heap.size := by have := hG8.size; have := HZ4.out; have := HS2.out; omega
               have HNEW := Lib.hid (show ∀ ad, (some ⟨w8.heap.size, 0, none⟩ : Option Addr) = some ad → ∀ (j : Nat) u, (opCells ⟨ok, on, ot, od⟩ (.slice da od.length dc))[j]? = some u → (w8.alloc (.cells #[.int .u8 ok, strV on, strV ot, .slice da od.length dc] 32)).cell? (ad.add j) = some u from news_cells (l := [.int .u8 ok, strV on, strV ot, .slice da od.length dc]) (alloc1_heap w8 (.cells #[.int .u8 ok, strV on, strV ot, .slice da od.length dc] 32)))
               have HM1 := Lib.hid (show d.queue.length + 1 ≤ maxLen from by unfold maxLen; omega)
               have HM2 := Lib.hid (show (d.queue.length + 1) * 64 ≤ 140737488355328 from by omega)
               have HM3 := Lib.hid (show W2.heap.size ≤ (w8.alloc (.cells #[.int .u8 ok, strV on, strV ot, .slice da od.length dc] 32)).heap.size from by simp; omega)
               have HL8 := Lib.hid (And.intro hsz8 (show w.heap.size ≤ W2.heap.size by have := HS2.out; omega))
               have HB8 := Lib.hid hb8
               have HBY8 := Lib.hid (OwnBy.base (base' := W2.heap.size) (show W2.heap.size ≤ X.drew.heap.size by have := HGX.out.drew.size; have := HZ4.out; have := HS2.out; omega) ho8)
               have HR8 := Lib.hid (hG8.same HR4.out)
               have HZ2 := Lib.hid (show w.heap.size + 1 + 1 < W2.heap.size by have := HS2.out; omega)
               clear ho8 hg8 hG8 hb8 hys hsz8))
          all_goals
            obtain ⟨p1, p2, p3, p4, p5⟩ := HP9.out
            have hx13 := HB8.out
            have hb10 : (w9.setCell ⟨w.heap.size, 1, none⟩ (.slice a9 (d.queue.length + 1) c9)).heap[w.heap.size]? = some (.cells #[.slice fa3 d.files.length fc3, .slice a9 (d.queue.length + 1) c9, .int .i64 d.quota, .int .i64 d.fuse, .bool d.dead] 25 (0, 0)) := setCell_block p4 _
            have hf10 : OwnFls W2.heap.size (w9.setCell ⟨w.heap.size, 1, none⟩ (.slice a9 (d.queue.length + 1) c9)) (.slice fa3 d.files.length fc3) d.files := OwnRow.keep p3 fun k _ _ _ hk _ => setCell_other _ (by have := hx13.lt; omega)
            have hq10 : OwnOps W2.heap.size (w9.setCell ⟨w.heap.size, 1, none⟩ (.slice a9 (d.queue.length + 1) c9)) (.slice a9 (d.queue.length + 1) c9) (d.queue ++ [⟨ok, on, ot, od⟩]) := OwnRow.keep p1 fun k _ _ _ hk _ => setCell_other _ (by have := hx13.lt; omega)
            have hr10 : (w9.setCell ⟨w.heap.size, 1, none⟩ (.slice a9 (d.queue.length + 1) c9)).heap[w.heap.size + 1 + 1]? = _ := heap_set_other p5 (by omega)
            have hg10 : Gr w (w9.setCell ⟨w.heap.size, 1, none⟩ (.slice a9 (d.queue.length + 1) c9)) := Gr.set p2 (Nat.le_refl _) _
            have HB10 := Lib.hid (burn_any _ w.heap.size (.slice fa3 d.files.length fc3) (.slice a9 (d.queue.length + 1) c9) { d with queue := d.queue ++ [⟨ok, on, ot, od⟩] } hx13.num hb10)
            have HP10 := Lib.hid (And.intro hf10 (And.intro hq10 (And.intro hr10 (And.intro hg10 (And.intro hx13.lt hx13.num)))))
            clear p1 p2 p3 p4 p5 hx13 hb10 hf10 hq10 hr10 hg10 HB8 HP9
            go_wp2_with fail
            refine HB10.out.mono ?_
            rintro e w11 ⟨rfl, hb11, hg11⟩
            obtain ⟨q1, q2, q3, q4, q5, q6⟩ := HP10.out
            have hf11 := row_grown q1 hg11 q5
            have hq11 := row_grown q2 hg11 q5
            have hr11 := (hg11.block _ (Array.getElem?_eq_some_iff.1 q3).1 (fun e => by injection e with e; omega)).trans q3
            have hg11' := grown_gr q4 hg11 fun k hk => by cases hk; exact Nat.le_refl _
            have hbn := burn_num (d := { d with queue := d.queue ++ [⟨ok, on, ot, od⟩] }) q6
            have hbf := burn_files { d with queue := d.queue ++ [⟨ok, on, ot, od⟩] }
            have hbq := burn_queue { d with queue := d.queue ++ [⟨ok, on, ot, od⟩] }
            rw [← HDE.out.2] at hbn hbf hbq hb11
            have e0 := cell_block hb11 (j := 0) (v := .slice fa3 d.files.length fc3) rfl
            have e1 := cell_block hb11 (j := 1) (v := .slice a9 (d.queue.length + 1) c9) rfl
            have e2 := cell_block hb11 (j := 2) (v := .int .i64 sd.quota) rfl
            have e3 := cell_block hb11 (j := 3) (v := .int .i64 sd.fuse) rfl
            have e4 := cell_block hb11 (j := 4) (v := .bool sd.dead) rfl
            have x0 := cell_block hr11 (j := 0) rfl
            have x1 := cell_block hr11 (j := 1) rfl
            have x2 := cell_block hr11 (j := 2) rfl
            have x3 := cell_block hr11 (j := 3) rfl
            have x4 := cell_block hr11 (j := 4) rfl
            have y0 := frozen_block hr11 (j := 0)
            have y1 := frozen_block hr11 (j := 1)
            have y2 := frozen_block hr11 (j := 2)
            have y3 := frozen_block hr11 (j := 3)
            have y4 := frozen_block hr11 (j := 4)
            have HP11 := Lib.hid (And.intro hf11 (And.intro hq11 (And.intro hr11 (And.intro hg11' (And.intro hbn (And.intro hbf hbq))))))
            clear hf11 hq11 hr11 hg11' hbn hbf hbq hb11 hg11 q1 q2 q3 q4 q5 q6
            go_wp2
            obtain ⟨p1, p2, p3, p4, p5, p6, p7⟩ := HP11.out
            have hs2 := HS2.out
            refine bodyPost_ret (results_row_tmp rfl Try.underlying25 rfl info25 rfl (rowAt_block (row5_filled p3 _ _ _ _ _) rfl)) rfl ⟨_, by rw [HDE.out.1]; rfl, ⟨_, _, rfl, ?_, ?_, p5⟩, ?_⟩
            · rw [p6]
              refine OwnRow.down (show w.heap.size ≤ W2.heap.size by omega) (p1.keep fun k _ _ _ hk _ => set5_other (by omega))
            · rw [p7]
              refine OwnRow.down (show w.heap.size ≤ W2.heap.size by omega) (p2.keep fun k _ _ _ hk _ => set5_other (by omega))
            · exact set5_gr p4 (by omega)
  · have hm0 : (m == 0) = false := by simpa using hm
    have hm1 : (m != 0) = true := by simpa using hm
    clear HNOg HUSg HFIg HOK HBY4 HO4 HOC
    go_wp2_with fail
    refine HMY.out.mono ?_
    rintro e w5 ⟨rfl, hg5⟩
    have HG5 := Lib.hid hg5
    clear hg5 HMY k0 k1 k2 k3 k4
    have HERR : de = m ∧ sd = d := by
      have h : de = m := HE.out.trans (if_pos hm)
      exact ⟨h, HSD.out.trans (if_neg (by rw [h]; assumption))⟩
    have hGX : Gr W4 w5 := HG5.out
    obtain ⟨k0, k1, k2, k3, k4⟩ := HBC.out _ hGX
    have hr := hGX.same HR4.out
    have x0 := cell_block hr (j := 0) rfl
    have x1 := cell_block hr (j := 1) rfl
    have x2 := cell_block hr (j := 2) rfl
    have x3 := cell_block hr (j := 3) rfl
    have x4 := cell_block hr (j := 4) rfl
    have y0 := frozen_block hr (j := 0)
    have y1 := frozen_block hr (j := 1)
    have y2 := frozen_block hr (j := 2)
    have y3 := frozen_block hr (j := 3)
    have y4 := frozen_block hr (j := 4)
    have HFX := Lib.hid (And.intro hGX (And.intro hr (show de = m ∧ sd = d from HERR)))
    clear hGX hr HERR HSD
    go_wp2
    obtain ⟨p1, p2, p3, p4⟩ := HFX.out
    have hb5 := HBX.out.gr' p1
    have hs2 := HS2.out
    refine bodyPost_ret (results_row_tmp rfl Try.underlying25 rfl info25 rfl (rowAt_block (row5_filled p2 _ _ _ _ _) rfl)) rfl ⟨_, by rw [p3]; rfl, ?_, ?_⟩
    · rw [p4]
      exact ⟨_, _, rfl, OwnRow.down (show w.heap.size ≤ W2.heap.size by omega) (hb5.files.keep fun k _ _ _ hk _ => set5_other (by omega)), OwnRow.down (show w.heap.size ≤ W2.heap.size by omega) (hb5.queue.keep fun k _ _ _ hk _ => set5_other (by omega)), hb5.num⟩
    · exact set5_gr hb5.gr (by omega)
end Go.Proofs.Ytbgcjbpkgijmeaa
