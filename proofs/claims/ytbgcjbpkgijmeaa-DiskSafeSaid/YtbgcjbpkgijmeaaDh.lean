/-
  Walks: what Rename and Append do to a map of files.
  Conditions: none beyond those typed at each theorem.
-/
import Derived.Test.YtbgcjbpkgijmeaaDg
namespace Go.Proofs.Ytbgcjbpkgijmeaa
open Go Go.RowKit Go.Maps
attribute [local go_sem high] str_eql str_neq str_lss str_leq str_geq str_eql0 str_neq0

set_option maxRecDepth 100000 in
set_option maxHeartbeats 1000000 in
theorem rename_any (w : World) (n0 b n : Nat) (D : DataW Value) (l : List Fl) (o : Opr) (bv : Value) (hm : OwnM w b n D) (hl : MapIs n0 w D l) (hn : n < maxLen) (hk : o.name.length ≤ maxLen) (ht : o.to.length ≤ maxLen) :
    Calls Try.prog 54 #[.map (some b), opV o bv] w (StepPost n0 b n (match get l o.name with | none => l | some x => put (del l o.name) ⟨o.to, x⟩) w) := by
  obtain ⟨k, nm, t, dt⟩ := o
  obtain ⟨W1, hW1⟩ : ∃ W1, w.alloc (.cells #[.int .u8 k, strV nm, strV t, bv] 32) = W1 := ⟨_, rfl⟩
  have hB : W1.heap[w.heap.size]? = some (.cells #[.int .u8 k, strV nm, strV t, bv] 32 (0, 0)) := by rw [← hW1]; exact alloc1_heap _ _
  have hG : w.grownBy W1 (some b) := by rw [← hW1]; exact World.grownBy_alloc _ _ _
  have c1 := cell_block hB (j := 1) (v := strV nm) rfl
  have hm1 : OwnM W1 b n D := by rw [← hW1]; exact hm.alloc' _
  have hl1 := hl.grown hm hG
  have hkey := key_str hk
  have hkey2 := key_str ht
  have HW := Lib.hid hW1
  clear hW1
  cases hg : get l nm with
  | none =>
    have hlk := hl1.look_no hm1 hk hg
    have HP := Lib.hid (show OwnM W1 b (n + 1) D ∧ MapIs n0 W1 D l ∧ w.grownBy W1 (some b) from ⟨hm1.mono (Nat.le_succ _), hl1, hG⟩)
    have HL := Lib.hid (show (match get l nm with | none => l | some x => put (del l nm) ⟨t, x⟩) = l by rw [hg])
    clear hm hl hm1 hl1 hG hB hkey hkey2 hg
    go_enter Try.func54, Try.ntmps54
    go_upto_region 1 with fail
    rw [HW.out]
    go_wp2
    exact bodyPost_end (results_none rfl _ _ _) rfl ⟨rfl, _, HP.out⟩
  | some x =>
    obtain ⟨v, hlk, _, hv⟩ := hl1.look hm1 hk hg
    have hlt : w.heap.size ≠ b := by have := hm.lt; omega
    obtain ⟨va, vc, rfl, _, _⟩ := IsBy.len hv
    have HM := Lib.hid (And.intro hm1 hkey)
    have HP := Lib.hid (show ∀ w2, OwnM w2 b n (D.del (.string nm)) → W1.grownBy w2 (some b) → MapIs n0 w2 _ _ ∧ By5 n0 w2 (.slice va x.length vc) x ∧ w.grownBy w2 (some b) ∧ w2.heap[w.heap.size]? = some (.cells #[.int .u8 k, strV nm, strV t, bv] 32 (0, 0)) from
      fun w2 hm2 hg2 => ⟨(hl1.grown hm1 hg2).del nm, hv.grown hm1 hg2, hG.andThen hg2 fun j hj => .inr hj, (hg2.block _ (Array.getElem?_eq_some_iff.1 hB).1 (fun e => hlt (by injection e))).trans hB⟩)
    have HK2 := Lib.hid hkey2
    have HN := Lib.hid hn
    clear hm hl hm1 hl1 hG hB hkey hkey2 hg hv
    go_enter Try.func54, Try.ntmps54
    go_upto_region 1 with fail
    rw [HW.out]
    go_wp2_with (at_delete; go_loud (refine wpList_delete_own _ rfl _ _ 54 9 rfl 30 law9 Try.underlying54 heldE b n D rfl HM.out.1 _ _ rfl HM.out.2 ?_))
    intro w2 hm2 ht2
    obtain ⟨p1, p2, p3, p4⟩ := HP.out w2 hm2 ht2.grown
    have c2 := cell_block p4 (j := 2) (v := strV t) rfl
    obtain ⟨w3, hr, hm3, hg3⟩ := hm2.update (t := 54) law9 Try.underlying54 HN.out HK2.out (val := .slice va x.length vc) (d := .held (.slice va x.length vc)) (ps := []) rfl
    have HP3 := Lib.hid (show OwnM w3 b (n + 1) _ ∧ MapIs n0 w3 _ _ ∧ w.grownBy w3 (some b) from ⟨hm3, (p1.grown hm2 hg3).put t (p2.grown hm2 hg3), p3.andThen hg3 fun j hj => .inr hj⟩)
    clear hm2 ht2 p1 p2 p3 p4 hm3 hg3
    go_wp2
    exact bodyPost_end (results_none rfl _ _ _) rfl ⟨rfl, _, HP3.out⟩

theorem _root_.Go.World.grownBy.of_gr {A B : World} (h : Gr A B) (b : Nat) : A.grownBy B (some b) :=
  ⟨h.below.os, h.below.tape, h.below.output, h.size, fun k hk _ => h.below.block k hk⟩
set_option maxRecDepth 100000 in
set_option maxHeartbeats 1000000 in
theorem append_any (w : World) (n0 b n : Nat) (D : DataW Value) (l : List Fl) (o : Opr) {S : Nat → Prop} (bv : Value) (hbv : IsBy S w bv o.data) (hm : OwnM w b n D) (hl : MapIs n0 w D l) (hn : n < maxLen) (hk : o.name.length ≤ maxLen) (hsz : sizeL l + o.data.length ≤ 1000000000000) :
    Calls Try.prog 52 #[.map (some b), opV o bv] w (StepPost n0 b n (match get l o.name with | none => l | some x => put l ⟨o.name, x ++ o.data⟩) w) := by
  obtain ⟨k, nm, t, dt⟩ := o
  obtain ⟨ba, bc, rfl, _, _⟩ := hbv.len
  obtain ⟨W1, hW1⟩ : ∃ W1, w.alloc (.cells #[.int .u8 k, strV nm, strV t, .slice ba dt.length bc] 32) = W1 := ⟨_, rfl⟩
  have hB : W1.heap[w.heap.size]? = some (.cells #[.int .u8 k, strV nm, strV t, .slice ba dt.length bc] 32 (0, 0)) := by rw [← hW1]; exact alloc1_heap _ _
  have hG : Gr w W1 := by rw [← hW1]; exact Gr.alloc (Gr.refl w) _
  have c1 := cell_block hB (j := 1) (v := strV nm) rfl
  have c3 := cell_block hB (j := 3) (v := .slice ba dt.length bc) rfl
  have hm1 : OwnM W1 b n D := hm.gr hG
  have hl1 := hl.gr hG
  have hkey := key_str hk
  have HW := Lib.hid hW1
  clear hW1
  cases hg : get l nm with
  | none =>
    have hlk := hl1.look_no hm1 hk hg
    have HP := Lib.hid (show OwnM W1 b (n + 1) D ∧ MapIs n0 W1 D l ∧ w.grownBy W1 (some b) from ⟨hm1.mono (Nat.le_succ _), hl1, by rw [← HW.out]; exact World.grownBy_alloc _ _ _⟩)
    clear hm hl hm1 hl1 hG hB hkey hg hbv
    go_enter Try.func52, Try.ntmps52
    go_upto_region 1 with fail
    rw [HW.out]
    go_wp2
    exact bodyPost_end (results_none rfl _ _ _) rfl ⟨rfl, _, HP.out⟩
  | some x =>
    obtain ⟨v, hlk, _, hv⟩ := hl1.look hm1 hk hg
    obtain ⟨va, vc, rfl, _, _⟩ := IsBy.len hv
    have hxl := sizeL_get hg
    have hgA : Gr W1 (W1.drew.alloc (.cells #[.slice va x.length vc, .slice ba dt.length bc] 30)) := (Gr.refl W1).drew.alloc _
    have HC := Lib.hid (concat_any (W1.drew.alloc (.cells #[.slice va x.length vc, .slice ba dt.length bc] 30)) W1.heap.size (S := fun _ => True) (v1 := .slice va x.length vc) (v2 := .slice ba dt.length bc) (l1 := x) (l2 := dt) (alloc1_heap W1.drew _) (IsBy.mono (IsBy.gr hgA hv) fun _ _ => trivial) (IsBy.mono (IsBy.gr (hG.trans hgA) hbv) fun _ _ => trivial) (by simp only at hsz; omega))
    have HP := Lib.hid (show ∀ w3, Gr (W1.drew.alloc (.cells #[.slice va x.length vc, .slice ba dt.length bc] 30)) w3 → OwnM w3 b n D ∧ MapIs n0 w3 D l ∧ Gr w w3 ∧ w3.heap[w.heap.size]? = some (.cells #[.int .u8 k, strV nm, strV t, .slice ba dt.length bc] 32 (0, 0)) from
      fun w3 hg3 => ⟨hm1.gr (hgA.trans hg3), hl1.gr (hgA.trans hg3), hG.trans (hgA.trans hg3), (hgA.trans hg3).same hB⟩)
    have c1' : (W1.alloc (.cells #[.slice va x.length vc, .slice ba dt.length bc] 30)).cell? ⟨w.heap.size, 1, none⟩ = some (strV nm) := later_cell (Gr.alloc (Gr.refl W1) _) c1
    have HK := Lib.hid hkey
    have HN := Lib.hid hn
    clear hm hl hm1 hl1 hG hB hkey hg hv hbv hgA hxl hsz
    go_enter Try.func52, Try.ntmps52
    go_upto_region 1 with fail
    rw [HW.out]
    go_wp2_with fail
    go_region_law (go_simp; refine HC.out.mono ?_; rintro e w3 ⟨v', rfl, ho, hg⟩; obtain ⟨q1, q2, q3, q4⟩ := HP.out w3 hg; have d1 := cell_block q4 (j := 1) (v := strV nm) rfl; obtain ⟨va', vc', hv'⟩ := ho.slice; rw [List.length_append] at hv'; subst hv'; obtain ⟨w4, hr, hm4, hg4⟩ := q1.update (t := 54) law9 Try.underlying54 HN.out HK.out (val := .slice va' (x.length + dt.length) vc') (d := .held (.slice va' (x.length + dt.length) vc')) (ps := []) rfl; have HP4 := Lib.hid (show OwnM w4 b (n + 1) _ ∧ MapIs n0 w4 _ _ ∧ w.grownBy w4 (some b) from ⟨hm4, (q2.grown q1 hg4).put nm ((By5.of_own ho).grown q1 hg4), (World.grownBy.of_gr q3 b).andThen hg4 fun j hj => .inr hj⟩); clear ho hg q1 q2 q3 q4 hm4 hg4)
    all_goals
      go_wp2
      exact bodyPost_end (results_none rfl _ _ _) rfl ⟨rfl, _, HP4.out⟩
end Go.Proofs.Ytbgcjbpkgijmeaa
