/-
  The row of the law of rows of one length.
-/
import Derived.Test.YtofnoillkfagiaaPb
import Derived.Test.YtofnoillkfagiaaFn
import Derived.ChangeSlices
namespace Go.Proofs.Ytofnoillkfagiaa
open Go Go.RowKit Go.ChangeShapes Go.WideShapes Go.ChangeAt
section
variable {H : Type} {enc : TypeId × Value → H} {W : World} {base : Nat} {spare : Nat → Bool} {held : Bool}
theorem open_bs {n : Nat} {cs : List Value} {y : DataW H × List MemPlace} (h : DataW.trod enc Try.prog W base spare held n 26 cs = some y) :
    ∃ (v : Value) (bs : List Int), cs = [v] ∧ IsBytes (· < W.heap.size) W v bs ∧ ∀ z ∈ bs, 0 ≤ z ∧ z ≤ 255 := by
  rcases open_ints Try.underlying26 Try.underlying5 (by kernel_rfl) h with ⟨rfl, _⟩ | ⟨a, len, cap, zs, rfl, hb, hl, hm, hz, _, hc, hw⟩
  · exact ⟨_, [], rfl, ⟨by simp, .inl ⟨⟨none, 0, rfl, Nat.zero_le _⟩, rfl⟩⟩, by simp⟩
  · have hlz : len ≤ zs.length := by rw [hz]; split <;> omega
    have htl : (zs.take len).length = len := by rw [List.length_take]; omega
    refine ⟨_, zs.take len, rfl, ⟨fun x hx => by obtain ⟨z, _, rfl⟩ := List.mem_map.1 hx; rfl, ?_⟩, fun z hz => byte_wf (hw z (List.mem_of_mem_take hz))⟩
    by_cases h0 : len = 0
    · subst h0; exact .inl ⟨⟨_, cap, rfl, hm⟩, by simp⟩
    · have c0 := hc 0 (by omega)
      have hsp : a.spot = none := by
        have := World.cell?_spot c0
        simpa [Addr.add] using this
      obtain ⟨ab, ao, asp⟩ := a
      simp only at hsp
      subst hsp
      refine .inr ⟨ab, ao, cap, by rw [List.length_map, htl], by rw [List.length_map, htl]; exact hl, hm, ?_, fun j u hu => ?_⟩
      · have := World.block_lt_of_cell? W _ c0
        simpa [Addr.add] using this
      · have hf : ∀ l : List Int, (l.map fun z => [Value.int .u8 z]).flatten = l.map (Value.int .u8) := by
          intro l
          induction l with
          | nil => rfl
          | cons z l ih => rw [List.map_cons, List.flatten_cons, ih]; rfl
        rw [hf, List.getElem?_map] at hu
        have hj : j < len := by
          by_cases hj : j < len
          · exact hj
          · rw [List.getElem?_eq_none (by omega)] at hu; simp at hu
        rw [List.getElem?_take_of_lt hj] at hu
        have := hc j (by omega)
        rw [Addr.add_mid] at this
        rw [this, ← hu, List.getElem?_eq_getElem (by omega)]
        simp [List.getD, List.getElem?_eq_getElem (show j < zs.length by omega)]
theorem trodAll_five {t0 t1 t2 t3 t4 : TypeId} {args : Array Value} {ds : List (DataW H)} {ps : List MemPlace} (h : DataW.TrodAll enc Try.prog W base spare held [t0, t1, t2, t3, t4] args.toList ds ps) :
    ∃ v0 v1 v2 v3 v4 d0 d1 d2 d3 d4 p0 p1 p2 p3 p4, args = #[v0, v1, v2, v3, v4] ∧ ds = [d0, d1, d2, d3, d4] ∧ ps = p0 ++ (p1 ++ (p2 ++ (p3 ++ p4))) ∧
      DataW.Trod enc Try.prog W base spare held t0 v0 d0 p0 ∧ DataW.Trod enc Try.prog W base spare held t1 v1 d1 p1 ∧ DataW.Trod enc Try.prog W base spare held t2 v2 d2 p2 ∧ DataW.Trod enc Try.prog W base spare held t3 v3 d3 p3 ∧ DataW.Trod enc Try.prog W base spare held t4 v4 d4 p4 := by
  obtain ⟨v0, r0, d0, s0, p0, q0, ha, rfl, rfl, h0, h⟩ := trodAll_cons h
  obtain ⟨v1, r1, d1, s1, p1, q1, rfl, rfl, rfl, h1, h⟩ := trodAll_cons h
  obtain ⟨v2, r2, d2, s2, p2, q2, rfl, rfl, rfl, h2, h⟩ := trodAll_cons h
  obtain ⟨v3, r3, d3, s3, p3, q3, rfl, rfl, rfl, h3, h⟩ := trodAll_cons h
  obtain ⟨v4, r4, d4, s4, p4, q4, rfl, rfl, rfl, h4, h⟩ := trodAll_cons h
  obtain ⟨rfl, rfl, rfl⟩ := trodAll_nil h
  exact ⟨v0, v1, v2, v3, v4, d0, d1, d2, d3, d4, p0, p1, p2, p3, p4, by cases args; simp_all, rfl, by simp, h0, h1, h2, h3, h4⟩
end
set_option maxRecDepth 100000 in
theorem gaussLinear_lifted (os : Os) (started : os.Started) (H : Type) (enc : TypeId × Value → H) :
    ReturnsInHanded {} Try.checked os 7 .any (Rows.gaussLinearSpec.pre6 enc Try.prog Try.f7 Rows.gaussLinearRow.domain false) (Rows.gaussLinearSpec.post enc Try.prog Try.f7 false true false false) := by
  refine returnsInHanded_of_change (C := Try.checked) Try.own started (by kernel_rfl) Try.func7
    (ChangeSpec.witness6 (enc := enc) (C := Try.checked) false ⟨#[], #[.int .i64 0, .int .i64 0, .int .i64 0, .int .i64 0, .slice none 0 0], []⟩ 8 (by kernel_rfl) (by kernel_rfl) (by kernel_rfl) (by kernel_rfl)) ?_
  intro W base args ds gs before hval0 hW hcnd _
  have hval : ∀ (j : Nat) t v, Try.f7.params[j]? = some t → args[j]? = some v → Value.okWide Try.prog W .any base t v := hval0
  have hW' := hW
  obtain ⟨p, q, hA0, hV, rfl, hfz, hnd⟩ := hW
  have hA : DataW.TrodAll enc Try.prog W 0 (fun _ => true) true Try.f7.params.toList args.toList ds p := hA0
  rw [Try.params7] at hA hval
  obtain ⟨v0, v1, v2, v3, v4, d0, d1, d2, d3, d4, p0, p1, p2, p3, p4, rfl, rfl, rfl, h0, h1, h2, h3, h4⟩ := trodAll_five hA
  obtain ⟨rfl, rfl⟩ := trodVars_none hV
  obtain ⟨z0, rfl, rfl, rfl, w0⟩ := open_int Try.underlying3 (hval 0 3 v0 rfl rfl) h0
  obtain ⟨z1, rfl, rfl, rfl, w1⟩ := open_int Try.underlying3 (hval 1 3 v1 rfl rfl) h1
  obtain ⟨z2, rfl, rfl, rfl, w2⟩ := open_int Try.underlying3 (hval 2 3 v2 rfl rfl) h2
  obtain ⟨z3, rfl, rfl, rfl, w3⟩ := open_int Try.underlying3 (hval 3 3 v3 rfl rfl) h3
  have h4' := h4
  obtain ⟨sa, sl, sc, rfl⟩ := okWide_slice Try.underlying26 (hval 4 26 v4 rfl rfl)
  obtain ⟨fuel, hf⟩ := h4
  obtain ⟨sv, bs, e0, hbs, hby⟩ := open_bs hf
  simp only [Value.cells, List.cons.injEq, and_true] at e0
  subst e0
  clear hA0 hval0
  refine (gaussLinear_law W z0 z1 z2 z3 _ bs hbs hby).mono fun e W' ⟨he, hg⟩ => ?_
  subst he
  have hlt : ∀ x ∈ p4, x.block < W.heap.size := fun x hx => hW'.lt x (by simpa using hx)
  exact ⟨_, rfl, post_gr (pa := [] ++ ([] ++ ([] ++ ([] ++ p4)))) (pv := []) hW' (fun _ _ _ => trodAll_mk1 (shut_bool Try.underlying4 true))
    (fun sp hsp => trodAll_mkc (shut_int Try.underlying3 w0) (trodAll_mkc (shut_int Try.underlying3 w1) (trodAll_mkc (shut_int Try.underlying3 w2) (trodAll_mk2 (shut_int Try.underlying3 w3)
      (WideElems.Trod_stays Try.laidOut (by kernel_rfl) (of_decide_eq_true (by kernel_rfl)) h4' (fun x hx => (Gr.below hg).same (hlt x hx)) (fun x hx => hsp x (by simpa using hx)))))))
    (fun _ _ => rfl) rfl (Gr.below hg) (ok_one (by kernel_rfl) rfl (okWide_bool_mk Try.underlying4 true))⟩

theorem gaussLinear_holds : Rows.GaussLinearSaid :=
  OpenClaim.holds_of_wide 7 Try.f7 rfl rfl rfl rfl rfl rfl rfl ⟨rfl, rfl, rfl, rfl, rfl⟩ rfl rfl rfl rfl rfl (by kernel_rfl) Try.func7 (by kernel_rfl)
    (of_decide_eq_true (by kernel_rfl)) (by unfold Func.isWrapper; first | (rw [if_pos (by decide +kernel)]; kernel_rfl) | (rw [if_neg (by decide +kernel)]; exact ⟨rfl, rfl⟩))
    (fun os started H enc _ => gaussLinear_lifted os started H enc)
end Go.Proofs.Ytofnoillkfagiaa
