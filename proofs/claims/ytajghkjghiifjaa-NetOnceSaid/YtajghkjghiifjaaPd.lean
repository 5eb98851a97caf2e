/-
  The row of the law of pushing and pulling.
-/
import Derived.Test.YtajghkjghiifjaaPa
import Derived.Test.YtajghkjghiifjaaXa
namespace Go.Proofs.Ytajghkjghiifjaa
open Go Go.RowKit Go.ChangeShapes Go.WideShapes Go.ChangeAt
section
variable {H : Type} {enc : TypeId × Value → H} {W : World} {base : Nat} {spare : Nat → Bool} {held : Bool}
theorem open_numbers {n : Nat} {cs : List Value} {y : DataW H × List MemPlace} (h : DataW.trod enc Try.prog W base spare held n 42 cs = some y) : ∃ (v : Value) (zs : List Int), cs = [v] ∧ IsInts (· < W.heap.size) W v zs := by
  obtain ⟨v, zs, css, rfl, hl, hsl, hr⟩ := open_rows (size := 1) Try.underlying42 (by kernel_rfl) (by decide) (fun (z : Int) cs => cs = [.int .i64 z]) (fun n cs y h hl => by
    obtain ⟨z, e, _⟩ := DataW.trod_int Try.underlying3 h
    exact ⟨z, e⟩) h
  refine ⟨v, zs, rfl, ?_⟩
  have : css = zs.map fun z => [Value.int .i64 z] := by
    apply List.ext_getElem?
    intro i
    by_cases hi : i < zs.length
    · have h1 := List.getElem?_eq_getElem hi
      have h2 := List.getElem?_eq_getElem (l := css) (i := i) (by omega)
      rw [h2, List.getElem?_map, h1, hr i _ _ h1 h2]; rfl
    · rw [List.getElem?_eq_none (by omega), List.getElem?_eq_none (by simp; omega)]
  unfold IsInts
  rw [← this]
  exact hsl
end
set_option maxRecDepth 100000 in
theorem netOnce_lifted (os : Os) (started : os.Started) (H : Type) (enc : TypeId × Value → H) :
    ReturnsInHanded {} Try.checked os 4 .any (Rows.netOnceSpec.pre6 enc Try.prog Try.f4 Rows.netOnceRow.domain false) (Rows.netOnceSpec.post enc Try.prog Try.f4 false true false false) := by
  refine returnsInHanded_of_change (C := Try.checked) Try.own started (by kernel_rfl) Try.func4
    (ChangeSpec.witness6 (enc := enc) (C := Try.checked) false ⟨#[], #[.slice none 0 0, .slice none 0 0], []⟩ 8 (by kernel_rfl) (by kernel_rfl) (by kernel_rfl) (by kernel_rfl)) ?_
  intro W base args ds gs before hval0 hW hcnd _
  have hval : ∀ (j : Nat) t v, Try.f4.params[j]? = some t → args[j]? = some v → Value.okWide Try.prog W .any base t v := hval0
  have hW' := hW
  obtain ⟨p, q, hA0, hV, rfl, hfz, hnd⟩ := hW
  have hA : DataW.TrodAll enc Try.prog W 0 (fun _ => true) true Try.f4.params.toList args.toList ds p := hA0
  rw [Try.params4] at hA hval
  obtain ⟨v0, v1, d0, d1, p0, p1, rfl, rfl, rfl, h0, h1⟩ := trodAll_two hA
  obtain ⟨rfl, rfl⟩ := trodVars_none hV
  have h0' := h0
  have h1' := h1
  obtain ⟨sa, sl, sc, rfl⟩ := okWide_slice Try.underlying24 (hval 0 24 v0 rfl rfl)
  obtain ⟨ta, tl, tc, rfl⟩ := okWide_slice Try.underlying42 (hval 1 42 v1 rfl rfl)
  obtain ⟨fuel, hf⟩ := h0
  obtain ⟨sv, ms, e0, hms⟩ := open_msgs hf
  simp only [Value.cells, List.cons.injEq, and_true] at e0
  subst e0
  obtain ⟨fuel1, hf1⟩ := h1
  obtain ⟨tv, zs, e1, hzs⟩ := open_numbers hf1
  simp only [Value.cells, List.cons.injEq, and_true] at e1
  subst e1
  clear hA0 hval0
  refine (netOnce_law W _ _ ms zs hms hzs).mono fun e W' ⟨he, hg⟩ => ?_
  subst he
  have hlt : ∀ x ∈ p0 ++ p1, x.block < W.heap.size := fun x hx => hW'.lt x (by simpa using hx)
  exact ⟨_, rfl, post_gr (pa := p0 ++ p1) (pv := []) hW' (fun _ _ _ => trodAll_mk1 (shut_bool Try.underlying4 true))
    (fun sp hsp => trodAll_mk2 (WideElems.Trod_stays Try.laidOut (by kernel_rfl) (of_decide_eq_true (by kernel_rfl)) h0' (fun x hx => (Gr.below hg).same (hlt x (List.mem_append_left _ hx))) (fun x hx => hsp x (by simp [hx])))
      (WideElems.Trod_stays Try.laidOut (by kernel_rfl) (of_decide_eq_true (by kernel_rfl)) h1' (fun x hx => (Gr.below hg).same (hlt x (List.mem_append_right _ hx))) (fun x hx => hsp x (by simp [hx])))) (fun _ _ => rfl) rfl
    (Gr.below hg) (ok_one (by kernel_rfl) rfl (okWide_bool_mk Try.underlying4 true))⟩

theorem netOnce_holds : Rows.NetOnceSaid :=
  OpenClaim.holds_of_wide 4 Try.f4 rfl rfl rfl rfl rfl rfl rfl ⟨rfl, rfl, rfl, rfl, rfl⟩ rfl rfl rfl rfl rfl (by kernel_rfl) Try.func4 (by kernel_rfl)
    (of_decide_eq_true (by kernel_rfl)) (by unfold Func.isWrapper; first | (rw [if_pos (by decide +kernel)]; kernel_rfl) | (rw [if_neg (by decide +kernel)]; exact ⟨rfl, rfl⟩))
    (fun os started H enc _ => netOnce_lifted os started H enc)
end Go.Proofs.Ytajghkjghiifjaa
