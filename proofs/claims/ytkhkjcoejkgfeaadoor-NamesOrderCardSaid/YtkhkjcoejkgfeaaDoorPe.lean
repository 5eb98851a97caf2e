/-
  The card of the law of order: whatever three identities and whatever row of identities come in, the law answers true, and what came in reads as it did.
  Conditions: the library's three tables, which the card ties to the program's text.
-/
import Derived.Test.YtkhkjcoejkgfeaaDoorPa
import Derived.Test.YtkhkjcoejkgfeaaDoorSj
import Derived.Test.YtkhkjcoejkgfeaaDoorOp
import Derived.Test.YtkhkjcoejkgfeaaDoorTie
import Derived.Test.YtkhkjcoejkgfeaaDoorCards
import Derived.SevenTiedAt
namespace Go.Proofs.YtkhkjcoejkgfeaaDoor
open Go Go.RowKit Go.ChangeShapes Go.WideShapes Go.ChangeAt
section
variable {H : Type} {enc : TypeId × Value → H} {W : World} {base : Nat} {spare : Nat → Bool} {held : Bool}
theorem trodAll_four {t0 t1 t2 t3 : TypeId} {args : Array Value} {ds : List (DataW H)} {ps : List MemPlace} (h : DataW.TrodAll enc Tryd.prog W base spare held [t0, t1, t2, t3] args.toList ds ps) :
    ∃ v0 v1 v2 v3 d0 d1 d2 d3 p0 p1 p2 p3, args = #[v0, v1, v2, v3] ∧ ds = [d0, d1, d2, d3] ∧ ps = p0 ++ (p1 ++ (p2 ++ p3)) ∧
      DataW.Trod enc Tryd.prog W base spare held t0 v0 d0 p0 ∧ DataW.Trod enc Tryd.prog W base spare held t1 v1 d1 p1 ∧ DataW.Trod enc Tryd.prog W base spare held t2 v2 d2 p2 ∧ DataW.Trod enc Tryd.prog W base spare held t3 v3 d3 p3 := by
  obtain ⟨v0, r0, d0, s0, p0, q0, ha, rfl, rfl, h0, h⟩ := trodAll_cons h
  obtain ⟨v1, r1, d1, s1, p1, q1, rfl, rfl, rfl, h1, h⟩ := trodAll_cons h
  obtain ⟨v2, r2, d2, s2, p2, q2, rfl, rfl, rfl, h2, h⟩ := trodAll_cons h
  obtain ⟨v3, r3, d3, s3, p3, q3, rfl, rfl, rfl, h3, h⟩ := trodAll_cons h
  obtain ⟨rfl, rfl, rfl⟩ := trodAll_nil h
  exact ⟨v0, v1, v2, v3, d0, d1, d2, d3, p0, p1, p2, p3, by cases args; simp_all, rfl, by simp, h0, h1, h2, h3⟩
end
set_option maxRecDepth 100000 in
theorem namesOrder_lifted (os : Os) (started : os.Started) (H : Type) (enc : TypeId × Value → H) :
    ReturnsInHanded {} Tryd.checked os 6 .any (fun w args => (Rows.namesOrderSpec.pre enc Tryd.prog Tryd.f6 [] false w args ∧ laidMetH Tryd.prog laid3 w) ∧ sizedMet enc Tryd.prog Tryd.f6 (OpenSpec.ofChange Rows.namesOrderSpec) false w args)
      (Rows.namesOrderSpec.post enc Tryd.prog Tryd.f6 false true false false) := by
  refine returnsInHanded_of_change_and (C := Tryd.checked) (X := fun w _ => laidMetH Tryd.prog laid3 w) (fun _ _ _ hh h => h.of_heap hh) Tryd.own started (by kernel_rfl) Tryd.func6
    (ChangeSpec.witness_shaped (enc := enc) (C := Tryd.checked) (os := os) (X := fun w _ => laidMetH Tryd.prog laid3 w) false (World.doorLaid Tryd.prog 400 os) #[.agg #[.int .u8 0, .int .i64 0, .int .i64 0], .agg #[.int .u8 0, .int .i64 0, .int .i64 0], .agg #[.int .u8 0, .int .i64 0, .int .i64 0], .slice none 0 0] 8 rfl (World.shaped_of_RefB (by kernel_rfl) (by kernel_rfl)) (by kernel_rfl) (by kernel_rfl) (by kernel_rfl) (door_met os _)) ?_
  intro W base args ds gs before hval0 hW _ _ hL _
  have hval : ∀ (j : Nat) t v, Tryd.f6.params[j]? = some t → args[j]? = some v → Value.okWide Tryd.prog W .any base t v := hval0
  have hW' := hW
  obtain ⟨p, q, hA0, hV, rfl, hfz, hnd⟩ := hW
  have hA : DataW.TrodAll enc Tryd.prog W 0 (fun _ => true) true Tryd.f6.params.toList args.toList ds p := hA0
  rw [Tryd.params6] at hA hval
  obtain ⟨v0, v1, v2, v3, d0, d1, d2, d3, p0, p1, p2, p3, rfl, rfl, rfl, h0, h1, h2, h3⟩ := trodAll_four hA
  obtain ⟨rfl, rfl⟩ := trodVars_none hV
  have h3' := h3
  obtain ⟨x0, rfl⟩ := open_id (hval 0 23 v0 rfl rfl) h0
  obtain ⟨x1, rfl⟩ := open_id (hval 1 23 v1 rfl rfl) h1
  obtain ⟨x2, rfl⟩ := open_id (hval 2 23 v2 rfl rfl) h2
  obtain ⟨sa1, sl1, sc1, rfl⟩ := okWide_slice Tryd.underlying33 (hval 3 33 v3 rfl rfl)
  obtain ⟨fuel1, hf1⟩ := h3
  obtain ⟨sv1, xs, e1, hxs⟩ := open_ids hf1
  simp only [Value.cells, List.cons.injEq, and_true] at e1
  subst e1
  clear hA0 hval0
  refine (orderlaw_any W (tab_of_laid hL) x0 x1 x2 _ xs hxs).mono fun e W' ⟨he, hg⟩ => ?_
  subst he
  have hlt : ∀ z ∈ p0 ++ (p1 ++ (p2 ++ p3)), z.block < W.heap.size := fun z hz => hW'.lt z (by simpa using hz)
  refine ⟨_, rfl, post_gr (pa := p0 ++ (p1 ++ (p2 ++ p3))) (pv := []) hW' (fun _ _ _ => trodAll_mk1 (shut_bool Tryd.underlying4 true))
    (fun sp hsp => trodAll_mkc ?_ (trodAll_mkc ?_ (trodAll_mk2 ?_ ?_)))
    (fun _ _ => rfl) rfl (Gr.below hg) (ok_one (by kernel_rfl) rfl (okWide_bool_mk Tryd.underlying4 true))⟩
  · exact WideElems.Trod_stays Tryd.laidOut (by kernel_rfl) (of_decide_eq_true (by kernel_rfl)) h0 (fun z hz => (Gr.below hg).same (hlt z (by simp [hz]))) (fun z hz => hsp z (by simp [hz]))
  · exact WideElems.Trod_stays Tryd.laidOut (by kernel_rfl) (of_decide_eq_true (by kernel_rfl)) h1 (fun z hz => (Gr.below hg).same (hlt z (by simp [hz]))) (fun z hz => hsp z (by simp [hz]))
  · exact WideElems.Trod_stays Tryd.laidOut (by kernel_rfl) (of_decide_eq_true (by kernel_rfl)) h2 (fun z hz => (Gr.below hg).same (hlt z (by simp [hz]))) (fun z hz => hsp z (by simp [hz]))
  · exact WideElems.Trod_stays Tryd.laidOut (by kernel_rfl) (of_decide_eq_true (by kernel_rfl)) h3' (fun z hz => (Gr.below hg).same (hlt z (by simp [hz]))) (fun z hz => hsp z (by simp [hz]))

theorem namesOrder_row : Rows.NamesOrderSaid :=
  OpenClaim.holds_of_wide 6 Tryd.f6 rfl rfl rfl rfl rfl rfl rfl ⟨rfl, rfl, rfl, rfl, rfl⟩ rfl rfl rfl rfl rfl (by kernel_rfl) Tryd.func6 (by kernel_rfl)
    (of_decide_eq_true (by kernel_rfl)) (by unfold Func.isWrapper; first | (rw [if_pos (by decide +kernel)]; kernel_rfl) | (rw [if_neg (by decide +kernel)]; exact ⟨rfl, rfl⟩))
    (fun os started H enc _ => namesOrder_lifted os started H enc)
theorem namesOrder_holds : Rows.NamesOrderCardSaid :=
  Claim7.holds_tied_plain_at .later [] [.data, .data, .data] true (true, "c67a40ab331ea11b9499ba4829df297aedd51e2aa8492fd09f893724359617ae") false
    namesOrder_row (fun _ h => by cases h) (by kernel_rfl) (fun _ h => by cases h) namesOrder_row_tie rfl ⟨rfl, rfl⟩ (by kernel_rfl) rfl
    (fun f fn hf hfn => by
      obtain rfl : f = 6 := Option.some.inj ((show Tryd.prog.funcNamed "moult/moultlaw05.NamesOrder" = some 6 by kernel_rfl).symm.trans hf) |>.symm
      obtain rfl : fn = Tryd.f6 := (Option.some.inj (Tryd.func6.symm.trans hfn)).symm
      exact ⟨by kernel_rfl, fun j t ht => by
        rw [Tryd.params6] at ht
        have hm : t ∈ [23, 23, 23, 33] := by simpa using Array.mem_of_getElem? ht
        have hall : ([23, 23, 23, 33].all fun u => !Tryd.prog.wantsStandIn u) = true := by kernel_rfl
        exact (show Tryd.prog.wantsStandIn t = false by simpa using List.all_eq_true.1 hall t hm)⟩)
    (by kernel_rfl)
end Go.Proofs.YtkhkjcoejkgfeaaDoor
