/-
  The row of the law of points told.
-/
import Derived.Test.YtofnoillkfagiaaPc
import Derived.Test.YtofnoillkfagiaaPd
import Derived.Test.YtofnoillkfagiaaFw
import Derived.Deep.Slices
import Derived.Lib.SmallJoins
import Derived.Laws.Cover2
namespace Go.Proofs.Ytofnoillkfagiaa
open Go Go.RowKit Go.ChangeShapes Go.WideShapes Go.ChangeAt Go.Deep
section
variable {H : Type} {enc : TypeId × Value → H} {W : World} {base : Nat} {spare : Nat → Bool} {held : Bool}
/-- A slice's elements, each by what a reading of its cells says. -/
theorem open_rows {α : Type} {t e : TypeId} {fuel size : Nat} {cs : List Value} {x : DataW H × List MemPlace} (ht : Try.prog.underlying t = some (.slice e)) (hC : Try.prog.cellsOf e = size) (hs0 : 0 < size)
    (R : α → List Value → Prop) (hel : ∀ (n : Nat) (cs : List Value) (y : DataW H × List MemPlace), DataW.trod enc Try.prog W base spare held n e cs = some y → cs.length = size → ∃ m, R m cs)
    (h : DataW.trod enc Try.prog W base spare held fuel t cs = some x) :
    ∃ (v : Value) (ms : List α) (css : List (List Value)), cs = [v] ∧ css.length = ms.length ∧ SL (· < W.heap.size) W size v css ∧ ∀ (i : Nat) (m : α) (c : List Value), ms[i]? = some m → css[i]? = some c → R m c := by
  rcases open_slice ht h with ⟨rfl, _⟩ | ⟨a, len, cap, m, n, D, Pl, rfl, hb, hl, hm, hmm, _, hi⟩
  · exact ⟨_, [], [], rfl, rfl, ⟨by simp, .inl ⟨⟨none, 0, rfl, Nat.zero_le _⟩, rfl⟩⟩, fun i m c h => by simp at h⟩
  · have hlm : len ≤ m := by rw [hmm]; split <;> omega
    have hex : ∀ i, i < len → ∃ (c : List Value) (y : α), c.length = size ∧ R y c ∧ ∀ j, j < size → W.cell? (a.add (i * size + j)) = c[j]? := fun i hil => by
      obtain ⟨c, hc, hd⟩ := hi i (by omega)
      rw [hC] at hc
      obtain ⟨_, hcl, hat⟩ := World.cells?_some hc
      obtain ⟨y, hy⟩ := hel _ _ _ hd hcl
      refine ⟨c, y, hcl, hy, fun j hj => ?_⟩
      rw [← Go.Deep.add_add]
      exact hat j hj
    have hpick : ∀ k, k ≤ len → ∃ (ms : List α) (css : List (List Value)), ms.length = k ∧ css.length = k ∧ (∀ c ∈ css, c.length = size) ∧
        (∀ i c, css[i]? = some c → ∀ j, j < size → W.cell? (a.add (i * size + j)) = c[j]?) ∧ ∀ (i : Nat) (m : α) (c : List Value), ms[i]? = some m → css[i]? = some c → R m c := by
      intro k
      induction k with
      | zero => exact fun _ => ⟨[], [], rfl, rfl, by simp, fun i c h => by simp at h, fun i m c h => by simp at h⟩
      | succ k ih =>
        intro hk
        obtain ⟨ms, css, l1, l2, hsz, hcell, hR⟩ := ih (by omega)
        obtain ⟨c, y, hcl, hy, hcc⟩ := hex k (by omega)
        refine ⟨ms ++ [y], css ++ [c], by simp [l1], by simp [l2], ?_, fun i c' hc' => ?_, fun i m c' hm' hc' => ?_⟩
        · intro z hz
          rcases List.mem_append.1 hz with hz | hz
          · exact hsz z hz
          · simp at hz; subst hz; exact hcl
        · by_cases e : i < k
          · rw [List.getElem?_append_left (by omega)] at hc'; exact hcell i c' hc'
          · rw [List.getElem?_append_right (by omega)] at hc'
            have : i - css.length = 0 := by
              have := (List.getElem?_eq_some_iff.1 hc').1
              simp at this; omega
            rw [this] at hc'; simp at hc'; subst hc'
            obtain rfl : i = k := by omega
            exact hcc
        · by_cases e : i < k
          · rw [List.getElem?_append_left (by omega)] at hm' hc'; exact hR i m c' hm' hc'
          · rw [List.getElem?_append_right (by omega)] at hm' hc'
            have e1 : i - css.length = 0 := by
              have := (List.getElem?_eq_some_iff.1 hc').1
              simp at this; omega
            rw [l1, ← l2, e1] at hm'
            rw [e1] at hc'
            simp at hm' hc'; subst hm' hc'; exact hy
    obtain ⟨ms, css, l1, l2, hsz, hcell, hR⟩ := hpick len (Nat.le_refl _)
    refine ⟨_, ms, css, rfl, by rw [l1, l2], ⟨hsz, ?_⟩, hR⟩
    by_cases h0 : len = 0
    · subst h0
      exact .inl ⟨⟨some a, cap, rfl, hm⟩, List.eq_nil_of_length_eq_zero l2⟩
    · right
      have hlc : 0 < css.length := by omega
      have hc0 : W.cell? (a.add (0 * size + 0)) = (css[0]'hlc)[0]? := hcell 0 _ (List.getElem?_eq_getElem hlc) 0 hs0
      have hl0 : (css[0]'hlc).length = size := hsz _ (List.getElem_mem hlc)
      obtain ⟨u, hu⟩ : ∃ u, (css[0]'hlc)[0]? = some u := ⟨(css[0]'hlc)[0]'(by rw [hl0]; exact hs0), List.getElem?_eq_getElem _⟩
      rw [hu] at hc0
      have hsp : a.spot = none := by
        have := World.cell?_spot hc0
        simpa [Addr.add] using this
      obtain ⟨ab, ao, asp⟩ := a
      simp only at hsp
      subst hsp
      refine ⟨ab, ao, cap, by rw [l2], by omega, hm, ?_, ?_⟩
      · have := World.block_lt_of_cell? W _ hc0
        simpa [Addr.add] using this
      · intro j u hj
        have hjl := (List.getElem?_eq_some_iff.1 hj).1
        rw [flatten_length css hsz, l2] at hjl
        have hdiv : j / size < len := Nat.div_lt_of_lt_mul (by rw [Nat.mul_comm]; exact hjl)
        have hmod : j % size < size := Nat.mod_lt _ hs0
        have hcs := List.getElem?_eq_getElem (l := css) (i := j / size) (by omega)
        have h1 := hcell (j / size) _ hcs (j % size) hmod
        have hl1 := hsz _ (List.getElem_mem (l := css) (n := j / size) (by omega))
        have h2 := flatten_at css hsz (j / size) _ hcs (j % size) _ (List.getElem?_eq_getElem (by omega))
        have e1 : j / size * size + j % size = j := by rw [Nat.mul_comm]; exact Nat.div_add_mod j size
        rw [e1] at h1 h2
        rw [Addr.add_mid] at h1
        rw [h1, List.getElem?_eq_getElem (by omega), ← h2, hj]

theorem pick_parts {Q : List Int → Value → Prop} : ∀ (ms : List (List Int)) (css : List (List Value)), css.length = ms.length → (∀ (i : Nat) (m : List Int) (c : List Value), ms[i]? = some m → css[i]? = some c → ∃ v, c = [v] ∧ Q m v) →
    ∃ vs : List Value, vs.length = ms.length ∧ css = vs.map (fun v => [v]) ∧ ∀ (i : Nat) (m : List Int) (v : Value), ms[i]? = some m → vs[i]? = some v → Q m v
  | [], [], _, _ => ⟨[], rfl, rfl, fun i m v h => by simp at h⟩
  | m :: ms, c :: css, hl, h => by
    obtain ⟨v, hc, hq⟩ := h 0 m c rfl rfl
    obtain ⟨vs, h1, h2, h3⟩ := pick_parts ms css (by simpa using hl) (fun i m c hm hc => h (i + 1) m c (by simpa using hm) (by simpa using hc))
    refine ⟨v :: vs, by simp [h1], by rw [h2, hc]; rfl, fun i m' v' hm he => ?_⟩
    cases i with
    | zero => simp at hm he; subst hm he; exact hq
    | succ i => exact h3 i m' v' (by simpa using hm) (by simpa using he)
theorem open_parts {n : Nat} {cs : List Value} {y : DataW H × List MemPlace} (h : DataW.trod enc Try.prog W base spare held n 24 cs = some y) :
    ∃ (v : Value) (pss : List (List Int)), cs = [v] ∧ IsParts (· < W.heap.size) W v pss ∧ ∀ ps ∈ pss, ∀ z ∈ ps, 0 ≤ z ∧ z ≤ 255 := by
  obtain ⟨v, ms, css, rfl, hl, hsl, hr⟩ := open_rows (size := 1) Try.underlying24 (by kernel_rfl) (by decide) (fun (m : List Int) cs => ∃ v, cs = [v] ∧ IsBytes (· < W.heap.size) W v m ∧ ∀ z ∈ m, 0 ≤ z ∧ z ≤ 255)
    (fun n cs y h _ => by obtain ⟨v, bs, h1, h2, h3⟩ := open_bs h; exact ⟨bs, v, h1, h2, h3⟩) h
  obtain ⟨vs, h1, h2, h3⟩ := pick_parts ms css hl hr
  refine ⟨v, ms, rfl, ⟨vs, h1, by rw [← h2]; exact hsl, fun i ps pv hp hv => (h3 i ps pv hp hv).1⟩, fun ps hps z hz => ?_⟩
  obtain ⟨i, hi, he⟩ := List.getElem_of_mem hps
  exact (h3 i ps (vs[i]'(by omega)) (by rw [List.getElem?_eq_getElem hi, he]) (List.getElem?_eq_getElem _)).2 z hz
end
theorem float_wf {b : Nat} (h : (Lit.float .f64 b).wf = true) : b < 18446744073709551616 := by
  simpa [Lit.wf] using h
set_option maxRecDepth 100000 in
theorem gaussTells_lifted (os : Os) (started : os.Started) (H : Type) (enc : TypeId × Value → H) :
    ReturnsInHanded {} Try.checked os 3 .any (Rows.gaussTellsSpec.pre6 enc Try.prog Try.f3 Rows.gaussTellsRow.domain false) (Rows.gaussTellsSpec.post enc Try.prog Try.f3 false true false false) := by
  refine returnsInHanded_of_change (C := Try.checked) Try.own started (by kernel_rfl) Try.func3
    (ChangeSpec.witness6 (enc := enc) (C := Try.checked) false ⟨#[], #[.float .f64 0, .float .f64 0, .int .u8 0, .agg #[.int .u8 0, .int .u8 0, .int .u8 0, .int .u8 0], .slice none 0 0], []⟩ 8 (by kernel_rfl) (by kernel_rfl) (by kernel_rfl) (by kernel_rfl)) ?_
  intro W base args ds gs before hval0 hW hcnd _
  have hval : ∀ (j : Nat) t v, Try.f3.params[j]? = some t → args[j]? = some v → Value.okWide Try.prog W .any base t v := hval0
  have hW' := hW
  obtain ⟨p, q, hA0, hV, rfl, hfz, hnd⟩ := hW
  have hA : DataW.TrodAll enc Try.prog W 0 (fun _ => true) true Try.f3.params.toList args.toList ds p := hA0
  rw [Try.params3] at hA hval
  obtain ⟨v0, v1, v2, v3, v4, d0, d1, d2, d3, d4, p0, p1, p2, p3, p4, rfl, rfl, rfl, h0, h1, h2, h3, h4⟩ := trodAll_five hA
  obtain ⟨rfl, rfl⟩ := trodVars_none hV
  obtain ⟨x, rfl, rfl, rfl, w0⟩ := open_float Try.underlying22 (hval 0 22 v0 rfl rfl) h0
  obtain ⟨y, rfl, rfl, rfl, w1⟩ := open_float Try.underlying22 (hval 1 22 v1 rfl rfl) h1
  obtain ⟨c, rfl, rfl, rfl, w2⟩ := open_int Try.underlying5 (hval 2 5 v2 rfl rfl) h2
  have h3' := h3
  obtain ⟨cs, rfl, hcs⟩ := okWide_arr Try.underlying23 (hval 3 23 v3 rfl rfl)
  have h44 : Try.prog.cellsOf 23 = 4 := by kernel_rfl
  obtain ⟨fuel, hf⟩ := h3
  obtain ⟨a, b, c', d, hl⟩ := list4 (l := cs.toList) (by simp [hcs, h44])
  obtain rfl : cs = #[a, b, c', d] := by
    apply Array.ext'
    rw [hl]
  obtain ⟨y0, y1, y2, y3, n, _, t0, t1, t2, t3⟩ := trod_array4 Try.underlying23 (by kernel_rfl) hf
  obtain ⟨z0, e0, _, u0⟩ := DataW.trod_int Try.underlying5 t0
  obtain ⟨z1, e1, _, u1⟩ := DataW.trod_int Try.underlying5 t1
  obtain ⟨z2, e2, _, u2⟩ := DataW.trod_int Try.underlying5 t2
  obtain ⟨z3, e3, _, u3⟩ := DataW.trod_int Try.underlying5 t3
  simp only [List.cons.injEq, and_true] at e0 e1 e2 e3
  subst e0 e1 e2 e3
  have b0 := byte_wf u0
  have b1 := byte_wf u1
  have b2 := byte_wf u2
  have b3 := byte_wf u3
  have b4 := byte_wf w2
  obtain ⟨m0, rfl⟩ : ∃ m : Nat, z0 = (m : Int) := ⟨z0.toNat, by omega⟩
  obtain ⟨m1, rfl⟩ : ∃ m : Nat, z1 = (m : Int) := ⟨z1.toNat, by omega⟩
  obtain ⟨m2, rfl⟩ : ∃ m : Nat, z2 = (m : Int) := ⟨z2.toNat, by omega⟩
  obtain ⟨m3, rfl⟩ : ∃ m : Nat, z3 = (m : Int) := ⟨z3.toNat, by omega⟩
  have h4' := h4
  obtain ⟨sa, sl, sc, rfl⟩ := okWide_slice Try.underlying24 (hval 4 24 v4 rfl rfl)
  obtain ⟨fuel4, hf4⟩ := h4
  obtain ⟨sv, pss, ee, hps, hby⟩ := open_parts hf4
  simp only [Value.cells, List.cons.injEq, and_true] at ee
  subst ee
  clear hA0 hval0
  refine (gaussTells_law W x y (float_wf w0) (float_wf w1) c b4.1 b4.2 m0 m1 m2 m3 (by omega) (by omega) (by omega) (by omega) _ pss hps hby).mono fun e W' ⟨he, hg⟩ => ?_
  subst he
  have hlt : ∀ z ∈ p3 ++ p4, z.block < W.heap.size := fun z hz => hW'.lt z (by simpa using hz)
  exact ⟨_, rfl, post_gr (pa := [] ++ ([] ++ ([] ++ (p3 ++ p4)))) (pv := []) hW' (fun _ _ _ => trodAll_mk1 (shut_bool Try.underlying4 true))
    (fun sp hsp => trodAll_mkc (shut_float Try.underlying22 w0) (trodAll_mkc (shut_float Try.underlying22 w1) (trodAll_mkc (shut_int Try.underlying5 w2) (trodAll_mk2
      (WideElems.Trod_stays Try.laidOut (by kernel_rfl) (of_decide_eq_true (by kernel_rfl)) h3' (fun z hz => (Gr.below hg).same (hlt z (List.mem_append_left _ hz))) (fun z hz => hsp z (by simp [hz])))
      (WideElems.Trod_stays Try.laidOut (by kernel_rfl) (of_decide_eq_true (by kernel_rfl)) h4' (fun z hz => (Gr.below hg).same (hlt z (List.mem_append_right _ hz))) (fun z hz => hsp z (by simp [hz])))))))
    (fun _ _ => rfl) rfl (Gr.below hg) (ok_one (by kernel_rfl) rfl (okWide_bool_mk Try.underlying4 true))⟩

theorem gaussTells_holds : Rows.GaussTellsSaid :=
  OpenClaim.holds_of_wide 3 Try.f3 rfl rfl rfl rfl rfl rfl rfl ⟨rfl, rfl, rfl, rfl, rfl⟩ rfl rfl rfl rfl rfl (by kernel_rfl) Try.func3 (by kernel_rfl)
    (of_decide_eq_true (by kernel_rfl)) (by unfold Func.isWrapper; first | (rw [if_pos (by decide +kernel)]; kernel_rfl) | (rw [if_neg (by decide +kernel)]; exact ⟨rfl, rfl⟩))
    (fun os started H enc _ => gaussTells_lifted os started H enc)
end Go.Proofs.Ytofnoillkfagiaa
