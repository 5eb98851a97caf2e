/-
  What the form of claims reads, opened: bytes, files, operations, disks.
  Conditions: none beyond those typed at each theorem.
-/
import Derived.Test.YtbgcjbpkgijmeaaDe
import Derived.Test.YtbgcjbpkgijmeaaPa
namespace Go.Proofs.Ytbgcjbpkgijmeaa
open Go Go.RowKit Go.ChangeShapes Go.WideShapes Go.Deep

section
variable {H : Type} {enc : TypeId × Value → H} {W : World} {base : Nat} {spare : Nat → Bool} {held : Bool}
theorem list1 {l : List Value} (h : l.length = 1) : ∃ a, l = [a] := by
  match l, h with
  | [a], _ => exact ⟨a, rfl⟩
theorem list2 {l : List Value} (h : l.length = 2) : ∃ a b, l = [a, b] := by
  match l, h with
  | [a, b], _ => exact ⟨a, b, rfl⟩
theorem list4 {l : List Value} (h : l.length = 4) : ∃ a b c d, l = [a, b, c, d] := by
  match l, h with
  | [a, b, c, d], _ => exact ⟨a, b, c, d, rfl⟩
theorem arr5 {cs : Array Value} (h : cs.size = 5) : ∃ a b c d e, cs = #[a, b, c, d, e] := by
  obtain ⟨l⟩ := cs
  match l, h with
  | [a, b, c, d, e], _ => exact ⟨a, b, c, d, e, rfl⟩
/-- A slice's elements, each by what a reading of its cells says. -/
theorem open_rows {α : Type} {t e : TypeId} {fuel size : Nat} {cs : List Value} {x : DataW H × List MemPlace} (ht : Try.prog.underlying t = some (.slice e)) (hC : Try.prog.cellsOf e = size) (hs0 : 0 < size)
    (R : α → List Value → Prop) (hel : ∀ (n : Nat) (cs : List Value) (y : DataW H × List MemPlace), DataW.trod enc Try.prog W base spare held n e cs = some y → cs.length = size → ∃ m, R m cs)
    (h : DataW.trod enc Try.prog W base spare held fuel t cs = some x) :
    ∃ (v : Value) (ms : List α) (css : List (List Value)), cs = [v] ∧ css.length = ms.length ∧ SL (· < W.heap.size) W size v css ∧ ∀ (i : Nat) (m : α) (c : List Value), ms[i]? = some m → css[i]? = some c → R m c := by
  rcases open_slice ht h with ⟨rfl, _⟩ | ⟨a, len, cap, m, n, D, Pl, rfl, hb, hl, hm, hmm, _, hi⟩
  · exact ⟨_, [], [], rfl, rfl, ⟨by simp, .inl ⟨⟨none, 0, rfl, Nat.zero_le _⟩, rfl⟩⟩, fun i m c h => by simp at h⟩
  · have hlm : len ≤ m := by rw [hmm]; split <;> omega
    have hex : ∀ i, i < len → ∃ (c : List Value) (y : α), c.length = size ∧ R y c ∧ ∀ j, j < size → W.cell? (a.add (i * size + j)) = c[j]? := fun i hil => by
      obtain ⟨c, hc, hd⟩ := hi i (by omega)
      rw [hC] at hc
      obtain ⟨_, hcl, hat⟩ := World.cells?_some hc
      obtain ⟨y, hy⟩ := hel _ _ _ hd hcl
      refine ⟨c, y, hcl, hy, fun j hj => ?_⟩
      rw [← Go.Deep.add_add]
      exact hat j hj
    have hpick : ∀ k, k ≤ len → ∃ (ms : List α) (css : List (List Value)), ms.length = k ∧ css.length = k ∧ (∀ c ∈ css, c.length = size) ∧
        (∀ i c, css[i]? = some c → ∀ j, j < size → W.cell? (a.add (i * size + j)) = c[j]?) ∧ ∀ (i : Nat) (m : α) (c : List Value), ms[i]? = some m → css[i]? = some c → R m c := by
      intro k
      induction k with
      | zero => exact fun _ => ⟨[], [], rfl, rfl, by simp, fun i c h => by simp at h, fun i m c h => by simp at h⟩
      | succ k ih =>
        intro hk
        obtain ⟨ms, css, l1, l2, hsz, hcell, hR⟩ := ih (by omega)
        obtain ⟨c, y, hcl, hy, hcc⟩ := hex k (by omega)
        refine ⟨ms ++ [y], css ++ [c], by simp [l1], by simp [l2], ?_, fun i c' hc' => ?_, fun i m c' hm' hc' => ?_⟩
        · intro z hz
          rcases List.mem_append.1 hz with hz | hz
          · exact hsz z hz
          · simp at hz; subst hz; exact hcl
        · by_cases e : i < k
          · rw [List.getElem?_append_left (by omega)] at hc'; exact hcell i c' hc'
          · rw [List.getElem?_append_right (by omega)] at hc'
            have : i - css.length = 0 := by
              have := (List.getElem?_eq_some_iff.1 hc').1
              simp at this; omega
            rw [this] at hc'; simp at hc'; subst hc'
            obtain rfl : i = k := by omega
            exact hcc
        · by_cases e : i < k
          · rw [List.getElem?_append_left (by omega)] at hm' hc'; exact hR i m c' hm' hc'
          · rw [List.getElem?_append_right (by omega)] at hm' hc'
            have e1 : i - css.length = 0 := by
              have := (List.getElem?_eq_some_iff.1 hc').1
              simp at this; omega
            rw [l1, ← l2, e1] at hm'
            rw [e1] at hc'
            simp at hm' hc'; subst hm' hc'; exact hy
    obtain ⟨ms, css, l1, l2, hsz, hcell, hR⟩ := hpick len (Nat.le_refl _)
    refine ⟨_, ms, css, rfl, by rw [l1, l2], ⟨hsz, ?_⟩, hR⟩
    by_cases h0 : len = 0
    · subst h0
      exact .inl ⟨⟨some a, cap, rfl, hm⟩, List.eq_nil_of_length_eq_zero l2⟩
    · right
      have hlc : 0 < css.length := by omega
      have hc0 : W.cell? (a.add (0 * size + 0)) = (css[0]'hlc)[0]? := hcell 0 _ (List.getElem?_eq_getElem hlc) 0 hs0
      have hl0 : (css[0]'hlc).length = size := hsz _ (List.getElem_mem hlc)
      obtain ⟨u, hu⟩ : ∃ u, (css[0]'hlc)[0]? = some u := ⟨(css[0]'hlc)[0]'(by rw [hl0]; exact hs0), List.getElem?_eq_getElem _⟩
      rw [hu] at hc0
      have hsp : a.spot = none := by
        have := World.cell?_spot hc0
        simpa [Addr.add] using this
      obtain ⟨ab, ao, asp⟩ := a
      simp only at hsp
      subst hsp
      refine ⟨ab, ao, cap, by rw [l2], by omega, hm, ?_, ?_⟩
      · have := World.block_lt_of_cell? W _ hc0
        simpa [Addr.add] using this
      · intro j u hj
        have hjl := (List.getElem?_eq_some_iff.1 hj).1
        rw [flatten_length css hsz, l2] at hjl
        have hdiv : j / size < len := Nat.div_lt_of_lt_mul (by rw [Nat.mul_comm]; exact hjl)
        have hmod : j % size < size := Nat.mod_lt _ hs0
        have hcs := List.getElem?_eq_getElem (l := css) (i := j / size) (by omega)
        have h1 := hcell (j / size) _ hcs (j % size) hmod
        have hl1 := hsz _ (List.getElem_mem (l := css) (n := j / size) (by omega))
        have h2 := flatten_at css hsz (j / size) _ hcs (j % size) _ (List.getElem?_eq_getElem (by omega))
        have e1 : j / size * size + j % size = j := by rw [Nat.mul_comm]; exact Nat.div_add_mod j size
        rw [e1] at h1 h2
        rw [Addr.add_mid] at h1
        rw [h1, List.getElem?_eq_getElem (by omega), ← h2, hj]

theorem wf_u8 {z : Int} (h : (Lit.int .u8 z).wf = true) : 0 ≤ z ∧ z ≤ 255 := by
  simp [Lit.wf, IntKind.min, IntKind.max, IntKind.signed, IntKind.bits] at h
  omega
theorem open_by {n : Nat} {cs : List Value} {y : DataW H × List MemPlace} (h : DataW.trod enc Try.prog W base spare held n 30 cs = some y) : ∃ (v : Value) (l : Bs), cs = [v] ∧ IsBy (· < W.heap.size) W v l := by
  obtain ⟨v, ms, css, rfl, hl, hsl, hr⟩ := open_rows (size := 1) Try.underlying30 (by kernel_rfl) (by decide) (fun (c : UInt8) cs => cs = [byteV c]) (fun n cs y h hl => by
    obtain ⟨z, e, _, hw⟩ := DataW.trod_int Try.underlying5 h
    subst e
    have hz := wf_u8 hw
    refine ⟨UInt8.ofNat z.toNat, ?_⟩
    have : ((UInt8.ofNat z.toNat).toNat : Int) = z := by
      rw [UInt8.toNat_ofNat', Nat.mod_eq_of_lt (by omega)]; omega
    show [Value.int .u8 z] = [Value.int .u8 ((UInt8.ofNat z.toNat).toNat : Int)]
    rw [this]) h
  refine ⟨v, ms, rfl, ?_⟩
  have : css = ms.map fun c => [byteV c] := by
    apply List.ext_getElem?
    intro i
    by_cases hi : i < ms.length
    · rw [List.getElem?_map, List.getElem?_eq_getElem hi, List.getElem?_eq_getElem (by omega)]
      have := hr i _ _ (List.getElem?_eq_getElem hi) (List.getElem?_eq_getElem (by omega))
      simp [this]
    · rw [List.getElem?_eq_none (by omega), List.getElem?_eq_none (by simp; omega)]
  unfold IsBy
  rw [← this]
  exact hsl
theorem str_of {s : ByteArray} (h : s.size ≤ maxLen) : ∃ l : Bs, Value.string s = strV l ∧ l.length ≤ maxLen :=
  ⟨s.data.toList, by cases s; rfl, by cases s; rw [Array.length_toList]; exact h⟩
set_option maxRecDepth 100000 in
theorem open_fl {n : Nat} {cs : List Value} {y : DataW H × List MemPlace} (h : DataW.trod enc Try.prog W base spare held n 40 cs = some y) (hl : cs.length = 2) : ∃ f : Fl, ∃ bv, cs = flE.cells f bv ∧ (IsBy (· < W.heap.size) W bv (flE.data f) ∧ flE.ok f) := by
  obtain ⟨a, b, rfl⟩ := list2 hl
  obtain ⟨xs, k, _, _, _, hx, hf⟩ := DataW.trod_struct Try.underlying40 h
  obtain ⟨v0, h0⟩ : ∃ v, xs[0]? = some v := ⟨_, List.getElem?_eq_getElem (by rw [hx]; decide)⟩
  obtain ⟨v1, h1⟩ : ∃ v, xs[1]? = some v := ⟨_, List.getElem?_eq_getElem (by rw [hx]; decide)⟩
  have c9 : Try.prog.cellsOf 9 = 1 := by kernel_rfl
  have c30 : Try.prog.cellsOf 30 = 1 := by kernel_rfl
  have f0 := (hf 0 _ rfl).trans h0
  have f1 := (hf 1 _ rfl).trans h1
  obtain ⟨s, e0, _, hs⟩ := DataW.trod_string Try.underlying9 f0
  obtain ⟨bv, l, e1, hby⟩ := open_by f1
  simp [c9, c30] at e0 e1
  subst e0 e1
  obtain ⟨nm, e2, hnm⟩ := str_of hs
  rw [e2]
  exact ⟨⟨nm, l⟩, b, rfl, hby, hnm⟩
set_option maxRecDepth 100000 in
theorem open_op {n : Nat} {cs : List Value} {y : DataW H × List MemPlace} (h : DataW.trod enc Try.prog W base spare held n 32 cs = some y) (hl : cs.length = 4) : ∃ f : Opr, ∃ bv, cs = opE.cells f bv ∧ (IsBy (· < W.heap.size) W bv (opE.data f) ∧ opE.ok f) := by
  obtain ⟨a, b, c, d, rfl⟩ := list4 hl
  obtain ⟨xs, k, _, _, _, hx, hf⟩ := DataW.trod_struct Try.underlying32 h
  obtain ⟨v0, h0⟩ : ∃ v, xs[0]? = some v := ⟨_, List.getElem?_eq_getElem (by rw [hx]; decide)⟩
  obtain ⟨v1, h1⟩ : ∃ v, xs[1]? = some v := ⟨_, List.getElem?_eq_getElem (by rw [hx]; decide)⟩
  obtain ⟨v2, h2⟩ : ∃ v, xs[2]? = some v := ⟨_, List.getElem?_eq_getElem (by rw [hx]; decide)⟩
  obtain ⟨v3, h3⟩ : ∃ v, xs[3]? = some v := ⟨_, List.getElem?_eq_getElem (by rw [hx]; decide)⟩
  have c5 : Try.prog.cellsOf 5 = 1 := by kernel_rfl
  have c9 : Try.prog.cellsOf 9 = 1 := by kernel_rfl
  have c30 : Try.prog.cellsOf 30 = 1 := by kernel_rfl
  have f0 := (hf 0 _ rfl).trans h0
  have f1 := (hf 1 _ rfl).trans h1
  have f2 := (hf 2 _ rfl).trans h2
  have f3 := (hf 3 _ rfl).trans h3
  obtain ⟨z, e0, _, hw⟩ := DataW.trod_int Try.underlying5 f0
  obtain ⟨s, e1, _, hs⟩ := DataW.trod_string Try.underlying9 f1
  obtain ⟨t, e2, _, ht⟩ := DataW.trod_string Try.underlying9 f2
  obtain ⟨bv, l, e3, hby⟩ := open_by f3
  simp [c5, c9, c30] at e0 e1 e2 e3
  subst e0 e1 e2 e3
  obtain ⟨nm, e4, hnm⟩ := str_of hs
  obtain ⟨tm, e5, htm⟩ := str_of ht
  rw [e4, e5]
  exact ⟨⟨z, nm, tm, l⟩, d, rfl, hby, hnm, htm, hw⟩
theorem pick_row {α : Type} (E : El α) {Q : α → Value → Prop} : ∀ (ms : List α) (css : List (List Value)), css.length = ms.length → (∀ (i : Nat) (m : α) (c : List Value), ms[i]? = some m → css[i]? = some c → ∃ ev, c = E.cells m ev ∧ Q m ev) →
    ∃ evs : List Value, evs.length = ms.length ∧ css = List.zipWith E.cells ms evs ∧ ∀ (i : Nat) (m : α) (ev : Value), ms[i]? = some m → evs[i]? = some ev → Q m ev
  | [], [], _, _ => ⟨[], rfl, rfl, fun i m ev h => by simp at h⟩
  | m :: ms, c :: css, hl, h => by
    obtain ⟨ev, hc, hq⟩ := h 0 m c rfl rfl
    obtain ⟨evs, h1, h2, h3⟩ := pick_row E ms css (by simpa using hl) (fun i m c hm hc => h (i + 1) m c (by simpa using hm) (by simpa using hc))
    refine ⟨ev :: evs, by simp [h1], by rw [h2, hc]; rfl, fun i m' ev' hm he => ?_⟩
    cases i with
    | zero => simp at hm he; subst hm he; exact hq
    | succ i => exact h3 i m' ev' (by simpa using hm) (by simpa using he)
theorem row_of {α : Type} (E : El α) {v : Value} {ms : List α} {css : List (List Value)} (hl : css.length = ms.length) (hsl : SL (· < W.heap.size) W E.size v css)
    (hr : ∀ (i : Nat) (m : α) (c : List Value), ms[i]? = some m → css[i]? = some c → ∃ bv, c = E.cells m bv ∧ (IsBy (· < W.heap.size) W bv (E.data m) ∧ E.ok m)) : IsRow E (· < W.heap.size) W v ms := by
  obtain ⟨evs, h1, h2, h3⟩ := pick_row E (Q := fun m bv => IsBy (· < W.heap.size) W bv (E.data m) ∧ E.ok m) ms css hl hr
  refine ⟨evs, h1, by rw [← h2]; exact hsl, fun i x b hx hb => (h3 i x b hx hb).1, fun x hx => ?_⟩
  obtain ⟨i, hi, rfl⟩ := List.mem_iff_getElem.1 hx
  exact (h3 i _ _ (List.getElem?_eq_getElem hi) (List.getElem?_eq_getElem (by rw [h1]; exact hi))).2
theorem open_fls {n : Nat} {cs : List Value} {y : DataW H × List MemPlace} (h : DataW.trod enc Try.prog W base spare held n 22 cs = some y) : ∃ (v : Value) (ms : List Fl), cs = [v] ∧ IsFls (· < W.heap.size) W v ms := by
  obtain ⟨v, ms, css, rfl, hl, hsl, hr⟩ := open_rows (size := 2) Try.underlying22 (by kernel_rfl) (by decide) (fun (m : Fl) cs => ∃ bv, cs = flE.cells m bv ∧ (IsBy (· < W.heap.size) W bv (flE.data m) ∧ flE.ok m)) (fun n cs y h hl => open_fl h hl) h
  exact ⟨v, ms, rfl, row_of flE hl hsl hr⟩
theorem open_ops {n : Nat} {cs : List Value} {y : DataW H × List MemPlace} (h : DataW.trod enc Try.prog W base spare held n 23 cs = some y) : ∃ (v : Value) (ms : List Opr), cs = [v] ∧ IsOps (· < W.heap.size) W v ms := by
  obtain ⟨v, ms, css, rfl, hl, hsl, hr⟩ := open_rows (size := 4) Try.underlying23 (by kernel_rfl) (by decide) (fun (m : Opr) cs => ∃ bv, cs = opE.cells m bv ∧ (IsBy (· < W.heap.size) W bv (opE.data m) ∧ opE.ok m)) (fun n cs y h hl => open_op h hl) h
  exact ⟨v, ms, rfl, row_of opE hl hsl hr⟩
set_option maxRecDepth 100000 in
theorem open_dsk {r : Reach} {b0 : Nat} {v : Value} {d : DataW H} {p : List MemPlace} (hv : Value.okWide Try.prog W r b0 25 v) (h : DataW.Trod enc Try.prog W base spare held 25 v d p) : ∃ x : Dsk, IsDsk (· < W.heap.size) W v x := by
  obtain ⟨cs, rfl, hsz⟩ := okWide_struct Try.underlying25 hv
  obtain ⟨a0, a1, a2, a3, a4, rfl⟩ := arr5 (hsz.trans (by kernel_rfl))
  obtain ⟨fuel, hf⟩ := h
  obtain ⟨xs, k, _, _, _, hx, hf⟩ := DataW.trod_struct Try.underlying25 hf
  obtain ⟨v0, h0⟩ : ∃ v, xs[0]? = some v := ⟨_, List.getElem?_eq_getElem (by rw [hx]; decide)⟩
  obtain ⟨v1, h1⟩ : ∃ v, xs[1]? = some v := ⟨_, List.getElem?_eq_getElem (by rw [hx]; decide)⟩
  obtain ⟨v2, h2⟩ : ∃ v, xs[2]? = some v := ⟨_, List.getElem?_eq_getElem (by rw [hx]; decide)⟩
  obtain ⟨v3, h3⟩ : ∃ v, xs[3]? = some v := ⟨_, List.getElem?_eq_getElem (by rw [hx]; decide)⟩
  obtain ⟨v4, h4⟩ : ∃ v, xs[4]? = some v := ⟨_, List.getElem?_eq_getElem (by rw [hx]; decide)⟩
  have c3 : Try.prog.cellsOf 3 = 1 := by kernel_rfl
  have c4 : Try.prog.cellsOf 4 = 1 := by kernel_rfl
  have c22 : Try.prog.cellsOf 22 = 1 := by kernel_rfl
  have c23 : Try.prog.cellsOf 23 = 1 := by kernel_rfl
  have f0 := (hf 0 _ rfl).trans h0
  have f1 := (hf 1 _ rfl).trans h1
  have f2 := (hf 2 _ rfl).trans h2
  have f3 := (hf 3 _ rfl).trans h3
  have f4 := (hf 4 _ rfl).trans h4
  obtain ⟨fv, fs, e0, hfs⟩ := open_fls f0
  obtain ⟨qv, q, e1, hq⟩ := open_ops f1
  obtain ⟨z2, e2, _, w2⟩ := DataW.trod_int Try.underlying3 f2
  obtain ⟨z3, e3, _, w3⟩ := DataW.trod_int Try.underlying3 f3
  obtain ⟨z4, e4, _⟩ := DataW.trod_bool Try.underlying4 f4
  simp [Value.cells, c3, c4, c22, c23] at e0 e1 e2 e3 e4
  subst e0 e1 e2 e3 e4
  exact ⟨⟨fs, q, z2, z3, z4⟩, _, _, rfl, hfs, hq, w2, w3⟩
set_option maxRecDepth 100000 in
theorem open_ops_arg {r : Reach} {b0 : Nat} {v : Value} {d : DataW H} {p : List MemPlace} (hv : Value.okWide Try.prog W r b0 23 v) (h : DataW.Trod enc Try.prog W base spare held 23 v d p) : ∃ x : List Opr, IsOps (· < W.heap.size) W v x := by
  obtain ⟨a, l, c, rfl⟩ := okWide_slice Try.underlying23 hv
  obtain ⟨fuel, hf⟩ := h
  obtain ⟨sv, xs, e0, hxs⟩ := open_ops hf
  simp only [Value.cells, List.cons.injEq, and_true] at e0
  subst e0
  exact ⟨xs, hxs⟩
set_option maxRecDepth 100000 in
theorem open_by_arg {r : Reach} {b0 : Nat} {v : Value} {d : DataW H} {p : List MemPlace} (hv : Value.okWide Try.prog W r b0 30 v) (h : DataW.Trod enc Try.prog W base spare held 30 v d p) : ∃ x : Bs, IsBy (· < W.heap.size) W v x := by
  obtain ⟨a, l, c, rfl⟩ := okWide_slice Try.underlying30 hv
  obtain ⟨fuel, hf⟩ := h
  obtain ⟨sv, xs, e0, hxs⟩ := open_by hf
  simp only [Value.cells, List.cons.injEq, and_true] at e0
  subst e0
  exact ⟨xs, hxs⟩
end
end Go.Proofs.Ytbgcjbpkgijmeaa
