/-
  The row of the law of points' bytes.
-/
import Derived.Test.YtofnoillkfagiaaPb
import Derived.Test.YtofnoillkfagiaaFl
import Derived.Laws.IdiomArrays
namespace Go.Proofs.Ytofnoillkfagiaa
open Go Go.RowKit Go.ChangeShapes Go.WideShapes Go.ChangeAt
theorem okWide_arr {P : Program} {w : World} {r : Reach} {base n : Nat} {t e : TypeId} {v : Value} (ht : P.underlying t = some (.array n e)) (h : Value.okWide P w r base t v) : ∃ cs, v = .agg cs ∧ cs.size = P.cellsOf t := by
  simp only [Value.okWide, ht] at h
  obtain ⟨cs, h1, h2, _⟩ := h
  exact ⟨cs, h1, h2⟩
theorem list4 {l : List Value} (h : l.length = 4) : ∃ a b c d, l = [a, b, c, d] := by
  match l, h with
  | [a, b, c, d], _ => exact ⟨a, b, c, d, rfl⟩
set_option maxRecDepth 100000 in
theorem gaussBytes_lifted (os : Os) (started : os.Started) (H : Type) (enc : TypeId × Value → H) :
    ReturnsInHanded {} Try.checked os 6 .any (Rows.gaussBytesSpec.pre6 enc Try.prog Try.f6 Rows.gaussBytesRow.domain false) (Rows.gaussBytesSpec.post enc Try.prog Try.f6 false true false false) := by
  refine returnsInHanded_of_change (C := Try.checked) Try.own started (by kernel_rfl) Try.func6
    (ChangeSpec.witness6 (enc := enc) (C := Try.checked) false ⟨#[], #[.agg #[.int .u8 0, .int .u8 0, .int .u8 0, .int .u8 0]], []⟩ 8 (by kernel_rfl) (by kernel_rfl) (by kernel_rfl) (by kernel_rfl)) ?_
  intro W base args ds gs before hval0 hW hcnd _
  have hval : ∀ (j : Nat) t v, Try.f6.params[j]? = some t → args[j]? = some v → Value.okWide Try.prog W .any base t v := hval0
  have hW' := hW
  obtain ⟨p, q, hA0, hV, rfl, hfz, hnd⟩ := hW
  have hA : DataW.TrodAll enc Try.prog W 0 (fun _ => true) true Try.f6.params.toList args.toList ds p := hA0
  rw [Try.params6] at hA hval
  obtain ⟨v0, d0, rfl, rfl, h0⟩ := trodAll_one hA
  obtain ⟨rfl, rfl⟩ := trodVars_none hV
  have h0' := h0
  obtain ⟨cs, rfl, hcs⟩ := okWide_arr Try.underlying23 (hval 0 23 v0 rfl rfl)
  have h4 : Try.prog.cellsOf 23 = 4 := by kernel_rfl
  obtain ⟨fuel, hf⟩ := h0
  obtain ⟨a, b, c, d, hl⟩ := list4 (l := cs.toList) (by simp [hcs, h4])
  obtain rfl : cs = #[a, b, c, d] := by
    apply Array.ext'
    rw [hl]
  obtain ⟨y0, y1, y2, y3, n, _, t0, t1, t2, t3⟩ := trod_array4 Try.underlying23 (by kernel_rfl) hf
  obtain ⟨z0, e0, _, w0⟩ := DataW.trod_int Try.underlying5 t0
  obtain ⟨z1, e1, _, w1⟩ := DataW.trod_int Try.underlying5 t1
  obtain ⟨z2, e2, _, w2⟩ := DataW.trod_int Try.underlying5 t2
  obtain ⟨z3, e3, _, w3⟩ := DataW.trod_int Try.underlying5 t3
  simp only [List.cons.injEq, and_true] at e0 e1 e2 e3
  subst e0 e1 e2 e3
  have b0 := byte_wf w0
  have b1 := byte_wf w1
  have b2 := byte_wf w2
  have b3 := byte_wf w3
  obtain ⟨m0, rfl⟩ : ∃ m : Nat, z0 = (m : Int) := ⟨z0.toNat, by omega⟩
  obtain ⟨m1, rfl⟩ : ∃ m : Nat, z1 = (m : Int) := ⟨z1.toNat, by omega⟩
  obtain ⟨m2, rfl⟩ : ∃ m : Nat, z2 = (m : Int) := ⟨z2.toNat, by omega⟩
  obtain ⟨m3, rfl⟩ : ∃ m : Nat, z3 = (m : Int) := ⟨z3.toNat, by omega⟩
  clear hA0 hval0
  refine (gaussBytes_law W m0 m1 m2 m3 (by omega) (by omega) (by omega) (by omega)).mono fun e W' ⟨he, hg⟩ => ?_
  subst he
  have hlt : ∀ x ∈ p, x.block < W.heap.size := fun x hx => hW'.lt x (by simpa using hx)
  exact ⟨_, rfl, post_gr (pa := p) (pv := []) hW' (fun _ _ _ => trodAll_mk1 (shut_bool Try.underlying4 true))
    (fun sp hsp => trodAll_mk1 (WideElems.Trod_stays Try.laidOut (by kernel_rfl) (of_decide_eq_true (by kernel_rfl)) h0' (fun x hx => (Gr.below hg).same (hlt x hx)) (fun x hx => hsp x (by simpa using hx)))) (fun _ _ => rfl) rfl
    (Gr.below hg) (ok_one (by kernel_rfl) rfl (okWide_bool_mk Try.underlying4 true))⟩

theorem gaussBytes_holds : Rows.GaussBytesSaid :=
  OpenClaim.holds_of_wide 6 Try.f6 rfl rfl rfl rfl rfl rfl rfl ⟨rfl, rfl, rfl, rfl, rfl⟩ rfl rfl rfl rfl rfl (by kernel_rfl) Try.func6 (by kernel_rfl)
    (of_decide_eq_true (by kernel_rfl)) (by unfold Func.isWrapper; first | (rw [if_pos (by decide +kernel)]; kernel_rfl) | (rw [if_neg (by decide +kernel)]; exact ⟨rfl, rfl⟩))
    (fun os started H enc _ => gaussBytes_lifted os started H enc)
end Go.Proofs.Ytofnoillkfagiaa
