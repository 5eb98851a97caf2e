/-
  Walk of the document's answer: files behind an operation.
  Conditions: none beyond those typed at each theorem.
-/
import Derived.Test.YtbgcjbpkgijmeaaGe
namespace Go.Proofs.Ytbgcjbpkgijmeaa
open Go Go.RowKit
attribute [local go_sem ↓] Go.wp_at_zero Go.wp_at_succ
attribute [local go_sem high] str_eql str_neq str_lss str_leq str_geq str_eql0 str_neq0

theorem by_nil (w : World) : IsBy (fun _ => True) w (.slice none 0 0) [] := ⟨by simp, .inl ⟨⟨none, 0, rfl, by decide⟩, rfl⟩⟩
def StepRPost (w : World) (l' : List Fl) (e : Ending) (w' : World) : Prop := ∃ v', e = .returned v' ∧ IsFls (· < w'.heap.size) w' v' l' ∧ Gr w w'

set_option maxRecDepth 100000 in
set_option maxHeartbeats 4000000 in
theorem stepR_any (w : World) {S T : Nat → Prop} (v bv : Value) (l : List Fl) (o : Opr) (hx : IsFls S w v l) (hb : IsBy T w bv o.data) (hok : opE.ok o) (hs : Srt l) (hl : l.length ≤ 1800000) (hd : sizeL l + o.data.length ≤ 4000000000000) :
    Calls Try.prog 59 #[v, opV o bv] w fun e w' => ∃ v', e = .returned v' ∧ IsFls (· < w'.heap.size) w' v' (step l o) ∧ Gr w w' := by
  show Calls Try.prog 59 #[v, opV o bv] w (StepRPost w (step l o))
  obtain ⟨i5, hi5, hy0, hy1, hy2⟩ := info_parts Try.info5
  obtain ⟨a, c, rfl, hcap, hcm⟩ := hx.len
  obtain ⟨ba, bc, rfl, _, _⟩ := hb.len
  obtain ⟨ok, on, ot, od⟩ := o
  obtain ⟨hon, hot, hokw⟩ := hok
  simp only at hon hot hokw hb hd
  obtain ⟨W1, hW1⟩ : ∃ W1, w.alloc (.cells #[.int .u8 ok, strV on, strV ot, .slice ba od.length bc] 32) = W1 := ⟨_, rfl⟩
  have hG : Gr w W1 := by rw [← hW1]; exact Gr.alloc (Gr.refl w) _
  have hB : W1.heap[w.heap.size]? = some (.cells #[.int .u8 ok, strV on, strV ot, .slice ba od.length bc] 32 (0, 0)) := by rw [← hW1]; exact alloc1_heap _ _
  have HC := Lib.hid (show ∀ X, Gr W1 X → X.cell? ⟨w.heap.size, 0, none⟩ = some (.int .u8 ok) ∧ X.cell? ⟨w.heap.size, 1, none⟩ = some (strV on) ∧ X.cell? ⟨w.heap.size, 2, none⟩ = some (strV ot) ∧ X.cell? ⟨w.heap.size, 3, none⟩ = some (.slice ba od.length bc) from
    fun X hX => ⟨cell_block (hX.same hB) rfl, cell_block (hX.same hB) rfl, cell_block (hX.same hB) rfl, cell_block (hX.same hB) rfl⟩)
  have hx1 := hx.gr hG
  have hb1 := IsBy.gr hG hb
  have HFN := Lib.hid (find_any W1 _ l on hx1 (by omega))
  have HWI := Lib.hid (show ∀ (X : World) (fv : Value) (m b : Bs), Gr W1 X → IsBy (fun _ => True) X fv b → m.length ≤ maxLen → Calls Try.prog 58 #[.slice a l.length c, .agg #[strV m, fv]] X fun e w' => ∃ v', e = .returned v' ∧ IsFls (· < w'.heap.size) w' v' (put l ⟨m, b⟩) ∧ Gr X w' from
    fun X fv m b hX hbv hm => with_any X _ fv l ⟨m, b⟩ (hx1.gr hX) hbv hm hs (by omega))
  have HWD := Lib.hid (show ∀ (X : World) (fv v' : Value) (m b : Bs), IsFls (· < X.heap.size) X v' (del l on) → IsBy (fun _ => True) X fv b → m.length ≤ maxLen → Calls Try.prog 58 #[v', .agg #[strV m, fv]] X fun e w' => ∃ v', e = .returned v' ∧ IsFls (· < w'.heap.size) w' v' (put (del l on) ⟨m, b⟩) ∧ Gr X w' from
    fun X fv v' m b hX hbv hm => with_any X _ fv (del l on) ⟨m, b⟩ hX hbv hm (srt_del hs _) (by have := len_del_le l on; omega))
  have HWO := Lib.hid (show ∀ (X : World) (r : Int), Gr W1 X → FoundAt l on r → Calls Try.prog 72 #[.slice a l.length c, .int .i64 r] X fun e w' => ∃ v', e = .returned v' ∧ IsFls (· < w'.heap.size) w' v' (del l on) ∧ Gr X w' from
    fun X r hX hr => by rw [← without_del hs hr]; exact without_any X _ l r (hx1.gr hX) (by omega) hr.lt)
  have HSELF := Lib.hid (show ∀ b, get l on = some b → put (del l on) ⟨on, b⟩ = l from fun b h => put_self hs h)
  have HDB := Lib.hid (show ∀ b, get l on = some b → b.length ≤ 4000000000000 ∧ b.length + od.length ≤ 4000000000000 from fun b h => by have := sizeL_get h; omega)
  have HX := Lib.hid (row_inn (by decide) hx1)
  have HBY := Lib.hid hb1
  have HW := Lib.hid hW1
  have HG := Lib.hid hG
  have HN := Lib.hid (And.intro hon hot)
  have HST := Lib.hid (show step l ⟨ok, on, ot, od⟩ = if ok = 1 then put l ⟨on, []⟩ else match get l on with | none => l | some b => if ok = 2 then put l ⟨on, b ++ od⟩ else if ok = 3 then put (del l on) ⟨ot, b⟩ else if ok = 4 then del l on else l from rfl)
  clear hx hb hx1 hb1 hs hG hB hW1 hcm hd hon hot hokw
  generalize step l ⟨ok, on, ot, od⟩ = SL at *
  obtain ⟨k0, k1, k2, k3⟩ := HC.out W1 (Gr.refl _)
  go_enter Try.func59, Try.ntmps59
  go_upto_region 1 with fail
  rw [HW.out]
  go_wp2_with fail
  refine HFN.out.mono ?_
  rintro e w2 ⟨r, rfl, hfa, rfl⟩
  have HFA := Lib.hid hfa
  clear hfa HFN
  by_cases h1 : ok = 1
  · have HR := Lib.hid (show SL = put l ⟨on, []⟩ from HST.out.trans (if_pos h1))
    have hb1 : (ok == 1) = true := by simp [h1]
    clear h1 HST
    have HCW := Lib.hid (HWI.out w2 (.slice none 0 0) on [] (Gr.refl _) (by_nil _) HN.out.1)
    go_wp2_with fail
    refine HCW.out.mono ?_
    rintro e w3 ⟨v3, rfl, hx3, hg3⟩
    obtain ⟨a3, c3, rfl, _, _⟩ := hx3.len
    have HP := Lib.hid (And.intro hx3 hg3)
    clear hx3 hg3
    go_wp2
    go_ret
    exact ⟨_, rfl, by rw [HR.out]; exact HP.out.1, HG.out.trans HP.out.2⟩
  have hb1 : (ok == 1) = false := by simp [h1]
  have HS1 := Lib.hid (HST.out.trans (if_neg h1))
  clear h1 HST
  rcases HFA.out with ⟨rfl, hno⟩ | ⟨k, f, rfl, hk, hfn, hft⟩
  · have HR := Lib.hid (show SL = l from HS1.out.trans (by rw [get_none.2 hno]))
    clear hno
    go_wp2
    go_ret
    exact ⟨_, rfl, by rw [HR.out]; exact HX.out, HG.out⟩
  have hget : get l on = some f.data := get_at hk hfn hft
  have HS2 := Lib.hid (show SL = if ok = 2 then put l ⟨on, f.data ++ od⟩ else if ok = 3 then put (del l on) ⟨ot, f.data⟩ else if ok = 4 then del l on else l from HS1.out.trans (by rw [hget]))
  have HGT := Lib.hid hget
  have hkl : k < l.length := (List.getElem?_eq_some_iff.1 hk).1
  obtain ⟨b1, o1, c1, hv1, _, _, _, hrows⟩ := HX.out.some (by omega)
  simp only [Value.slice.injEq, true_and] at hv1
  obtain ⟨rfl, rfl⟩ := hv1
  obtain ⟨fv, hr1, hbf⟩ := hrows k f hk
  obtain ⟨fa, fc, rfl, _, _⟩ := IsBy.len hbf
  have HFC := Lib.hid (show ∀ X, Gr w2 X → X.cell? ⟨b1, o1 + k * 2 + 1, none⟩ = some (.slice fa f.data.length fc) from fun X hX => later_cell hX (hr1 1 _ rfl))
  have HFB := Lib.hid (show ∀ X, Gr w2 X → IsBy (fun _ => True) X (.slice fa f.data.length fc) f.data from fun X hX => IsBy.gr hX (IsBy.mono hbf fun _ _ => trivial))
  clear hrows hr1 hbf hk hfn hft hget HS1
  have f0 := HFC.out _ (Gr.refl _)
  by_cases h2 : ok = 2
  · have HR := Lib.hid (show SL = put l ⟨on, f.data ++ od⟩ from HS2.out.trans (if_pos h2))
    have hb2 : (ok == 2) = true := by simp [h2]
    clear h2 HS2
    obtain ⟨-, hz1, hr1⟩ := by_src (HFB.out ((w2.alloc (.cells #[] 5)).drew) (Gr.drew (Gr.alloc (Gr.refl _) _)))
    obtain ⟨-, hz2, -⟩ := by_src HBY.out
    have HZ1 := Lib.hid hz1
    have HZ2 := Lib.hid hz2
    have HR1 := Lib.hid hr1
    have HR2 := Lib.hid (show ∀ X, Gr w2 X → ∀ ad, ba = some ad → ∀ j u, (od.map byteV)[j]? = some u → X.cell? (ad.add j) = some u from fun X hX => (by_src (IsBy.gr hX HBY.out)).2.2)
    have hgA : Gr w2 (w2.alloc (.cells #[] 5)) := Gr.alloc (Gr.refl _) _
    have HO1 : Hid ((w2.alloc (.cells #[] 5)).drew.ownsRow w2.heap.size 5 1 (.slice (some ⟨w2.heap.size, 0, none⟩) 0 0) 0 []) := Lib.hid (ownsRow_dat (Gr.kp (Gr.drew (Gr.refl _)) _) (owns_empty 5 1 rfl (Nat.le_refl _)))
    have HGW1 := Lib.hid (show ∀ w8, (w2.alloc (.cells #[] 5)).drew.grownBy w8 (Value.ownBlock (.slice (some ⟨w2.heap.size, 0, none⟩) 0 0)) → Gr w2 w8 from
      fun w8 hgr => Below.grown (Gr.drew hgA) hgr (Gr.drew hgA).size (by intro q hq; simp [Value.ownBlock] at hq; omega))
    have HGA := Lib.hid (Gr.drew hgA)
    obtain ⟨-, kA1, -, kA3⟩ := HC.out _ hgA
    have f1 := HFC.out _ hgA
    obtain ⟨hd1, hd2⟩ := HDB.out _ HGT.out
    have HB1 := Lib.hid (show 0 + f.data.length ≤ maxLen by unfold maxLen; omega)
    have HB2 := Lib.hid (show (0 + f.data.length) * 1 ≤ 140737488355328 by omega)
    have HB3 := Lib.hid (show f.data.length + od.length ≤ maxLen by unfold maxLen; omega)
    have HB4 := Lib.hid (show (f.data.length + od.length) * 1 ≤ 140737488355328 by omega)
    clear hz1 hz2 hr1 hgA hd1 hd2
    go_upto_region 6 with fail
    go_region_law (first
      | (refine step_append_src rfl (.tmp 29) (.tmp 34) 30 rfl w2.heap.size 5 i5 _ 1 1 Try.underlying30 hi5 hy0 hy1 hy2 rfl (by decide) (.slice (some ⟨w2.heap.size, 0, none⟩) 0 0) 0 [] (by simp [Act.eval]) HO1.out fa f.data.length fc (f.data.map byteV) (by simp [Act.eval]) (by simp) HZ1.out HR1.out (bytes_one _) HB1.out HB2.out HGA.out.size ?_
         intro a8 c8 w8 hown8 hgrow8
         have hg8 := HGW1.out w8 hgrow8
         obtain ⟨-, m1, -, m3⟩ := HC.out _ hg8
         have HG8 := Lib.hid hg8
         have ho8 := Lib.hid hown8
         clear hown8 hgrow8 hg8
         simp only [Nat.zero_add, List.nil_append] at ho8 ⊢)
      | (refine step_append_src rfl (.tmp 35) (.tmp 37) 30 rfl w2.heap.size 5 i5 _ 1 1 Try.underlying30 hi5 hy0 hy1 hy2 rfl (by decide) (.slice a8 f.data.length c8) f.data.length (f.data.map byteV) (by simp [Act.eval]) ho8.out ba od.length bc (od.map byteV) (by simp [Act.eval]) (by simp) HZ2.out (HR2.out _ HG8.out) (bytes_one _) HB3.out HB4.out HG8.out.size ?_
         intro a9 c9 w9 hown9 hgrow9
         have hg9 := Below.grown HG8.out hgrow9 HG8.out.size fun q hq => (owns_elem ho8.out hq).1
         obtain ⟨-, n1, -, n3⟩ := HC.out _ hg9
         have hob : OwnBy w2.heap.size w9 (.slice a9 (f.data.length + od.length) c9) (f.data ++ od) := by unfold OwnBy; rw [List.length_append, List.map_append]; exact hown9
         have HCW := Lib.hid (HWI.out w9 (.slice a9 (f.data.length + od.length) c9) on (f.data ++ od) hg9 (IsBy.mono hob.is fun _ _ => trivial) HN.out.1)
         have HG9 := Lib.hid (show Gr w2 w9 from hg9)
         clear hown9 hgrow9 ho8 HG8 hg9 hob)
      | (go_simp; refine HCW.out.mono ?_; rintro e w10 ⟨v10, rfl, hx10, hg10⟩
         obtain ⟨a10, c10, rfl, _, _⟩ := hx10.len
         have HP := Lib.hid (And.intro hx10 (HG9.out.trans hg10))
         clear hx10 hg10))
    all_goals
      go_wp2
      go_ret
      exact ⟨_, rfl, by rw [HR.out]; exact HP.out.1, HG.out.trans HP.out.2⟩
  have hb2 : (ok == 2) = false := by simp [h2]
  have HS3 := Lib.hid (HS2.out.trans (if_neg h2))
  clear h2 HS2
  by_cases h3 : ok = 3
  · have HR0 := Lib.hid (show SL = put (del l on) ⟨ot, f.data⟩ from HS3.out.trans (if_pos h3))
    have hb3 : (ok == 3) = true := by simp [h3]
    have hb4 : (ok == 4) = false := by simp [h3]
    clear h3 HS3
    by_cases hto : ot = on
    · subst hto
      have HR := Lib.hid (show SL = l from HR0.out.trans (HSELF.out _ HGT.out))
      have hn1 : neB ot ot = false := Bool.eq_false_iff.2 fun h => neB_iff.1 h rfl
      go_wp2
      go_ret
      exact ⟨_, rfl, by rw [HR.out]; exact HX.out, HG.out⟩
    · have hn1 : neB ot on = true := neB_iff.2 hto
      clear hto
      have HCO := Lib.hid (HWO.out w2.drew k (Gr.drew (Gr.refl _)) HFA.out)
      go_upto_region 8 with fail
      go_region_law (first
        | (go_simp; refine HCO.out.mono ?_; rintro e w8 ⟨v8, rfl, hx8, hg8⟩
           obtain ⟨a8, c8, rfl, _, _⟩ := hx8.len
           obtain ⟨-, -, m2, -⟩ := HC.out w8 ((Gr.drew (Gr.refl _)).trans hg8)
           have m4 := HFC.out w8 ((Gr.drew (Gr.refl _)).trans hg8)
           have HCW := Lib.hid (HWD.out w8 (.slice fa f.data.length fc) _ ot f.data hx8 (HFB.out w8 ((Gr.drew (Gr.refl _)).trans hg8)) HN.out.2)
           have HG8 := Lib.hid (show Gr w2 w8 from (Gr.drew (Gr.refl _)).trans hg8)
           clear hx8 hg8)
        | (go_simp; refine HCW.out.mono ?_; rintro e w10 ⟨v10, rfl, hx10, hg10⟩
           obtain ⟨a10, c10, rfl, _, _⟩ := hx10.len
           have HP := Lib.hid (And.intro hx10 (HG8.out.trans hg10))
           clear hx10 hg10))
      all_goals
        go_wp2
        go_ret
        exact ⟨_, rfl, by rw [HR0.out]; exact HP.out.1, HG.out.trans HP.out.2⟩
  have hb3 : (ok == 3) = false := by simp [h3]
  have HS4 := Lib.hid (HS3.out.trans (if_neg h3))
  clear h3 HS3
  by_cases h4 : ok = 4
  · have HR := Lib.hid (show SL = del l on from HS4.out.trans (if_pos h4))
    have hb4 : (ok == 4) = true := by simp [h4]
    clear h4 HS4
    have HCO := Lib.hid (HWO.out w2 k (Gr.refl _) HFA.out)
    go_wp2_with fail
    refine HCO.out.mono ?_
    rintro e w3 ⟨v3, rfl, hx3, hg3⟩
    obtain ⟨a3, c3, rfl, _, _⟩ := hx3.len
    have HP := Lib.hid (And.intro hx3 hg3)
    clear hx3 hg3
    go_wp2
    go_ret
    exact ⟨_, rfl, by rw [HR.out]; exact HP.out.1, HG.out.trans HP.out.2⟩
  · have hb4 : (ok == 4) = false := by simp [h4]
    have HR := Lib.hid (show SL = l from HS4.out.trans (if_neg h4))
    clear h4 HS4
    go_wp2
    go_ret
    exact ⟨_, rfl, by rw [HR.out]; exact HX.out, HG.out⟩
end Go.Proofs.Ytbgcjbpkgijmeaa
