/-
  What the form of claims reads, opened: files, identities.
  Conditions: none beyond those typed at each theorem.
-/
import Derived.Test.YtkhkjcoejkgfeaaDoorNi
import Derived.Test.YtkhkjcoejkgfeaaDoorPa
namespace Go.Proofs.YtkhkjcoejkgfeaaDoor
open Go Go.RowKit Go.ChangeShapes Go.WideShapes Go.Deep

section
variable {H : Type} {enc : TypeId × Value → H} {W : World} {base : Nat} {spare : Nat → Bool} {held : Bool}
theorem list2 {l : List Value} (h : l.length = 2) : ∃ a b, l = [a, b] := by
  match l, h with
  | [a, b], _ => exact ⟨a, b, rfl⟩
theorem list3 {l : List Value} (h : l.length = 3) : ∃ a b c, l = [a, b, c] := by
  match l, h with
  | [a, b, c], _ => exact ⟨a, b, c, rfl⟩
/-- A slice's elements, each by what a reading of its cells says. -/
theorem open_rows {α : Type} {t e : TypeId} {fuel size : Nat} {cs : List Value} {x : DataW H × List MemPlace} (ht : Tryd.prog.underlying t = some (.slice e)) (hC : Tryd.prog.cellsOf e = size) (hs0 : 0 < size)
    (R : α → List Value → Prop) (hel : ∀ (n : Nat) (cs : List Value) (y : DataW H × List MemPlace), DataW.trod enc Tryd.prog W base spare held n e cs = some y → cs.length = size → ∃ m, R m cs)
    (h : DataW.trod enc Tryd.prog W base spare held fuel t cs = some x) :
    ∃ (v : Value) (ms : List α) (css : List (List Value)), cs = [v] ∧ css.length = ms.length ∧ SL (· < W.heap.size) W size v css ∧ ∀ (i : Nat) (m : α) (c : List Value), ms[i]? = some m → css[i]? = some c → R m c := by
  rcases open_slice ht h with ⟨rfl, _⟩ | ⟨a, len, cap, m, n, D, Pl, rfl, hb, hl, hm, hmm, _, hi⟩
  · exact ⟨_, [], [], rfl, rfl, ⟨by simp, .inl ⟨⟨none, 0, rfl, Nat.zero_le _⟩, rfl⟩⟩, fun i m c h => by simp at h⟩
  · have hlm : len ≤ m := by rw [hmm]; split <;> omega
    have hex : ∀ i, i < len → ∃ (c : List Value) (y : α), c.length = size ∧ R y c ∧ ∀ j, j < size → W.cell? (a.add (i * size + j)) = c[j]? := fun i hil => by
      obtain ⟨c, hc, hd⟩ := hi i (by omega)
      rw [hC] at hc
      obtain ⟨_, hcl, hat⟩ := World.cells?_some hc
      obtain ⟨y, hy⟩ := hel _ _ _ hd hcl
      refine ⟨c, y, hcl, hy, fun j hj => ?_⟩
      rw [← Go.Deep.add_add]
      exact hat j hj
    have hpick : ∀ k, k ≤ len → ∃ (ms : List α) (css : List (List Value)), ms.length = k ∧ css.length = k ∧ (∀ c ∈ css, c.length = size) ∧
        (∀ i c, css[i]? = some c → ∀ j, j < size → W.cell? (a.add (i * size + j)) = c[j]?) ∧ ∀ (i : Nat) (m : α) (c : List Value), ms[i]? = some m → css[i]? = some c → R m c := by
      intro k
      induction k with
      | zero => exact fun _ => ⟨[], [], rfl, rfl, by simp, fun i c h => by simp at h, fun i m c h => by simp at h⟩
      | succ k ih =>
        intro hk
        obtain ⟨ms, css, l1, l2, hsz, hcell, hR⟩ := ih (by omega)
        obtain ⟨c, y, hcl, hy, hcc⟩ := hex k (by omega)
        refine ⟨ms ++ [y], css ++ [c], by simp [l1], by simp [l2], ?_, fun i c' hc' => ?_, fun i m c' hm' hc' => ?_⟩
        · intro z hz
          rcases List.mem_append.1 hz with hz | hz
          · exact hsz z hz
          · simp at hz; subst hz; exact hcl
        · by_cases e : i < k
          · rw [List.getElem?_append_left (by omega)] at hc'; exact hcell i c' hc'
          · rw [List.getElem?_append_right (by omega)] at hc'
            have : i - css.length = 0 := by
              have := (List.getElem?_eq_some_iff.1 hc').1
              simp at this; omega
            rw [this] at hc'; simp at hc'; subst hc'
            obtain rfl : i = k := by omega
            exact hcc
        · by_cases e : i < k
          · rw [List.getElem?_append_left (by omega)] at hm' hc'; exact hR i m c' hm' hc'
          · rw [List.getElem?_append_right (by omega)] at hm' hc'
            have e1 : i - css.length = 0 := by
              have := (List.getElem?_eq_some_iff.1 hc').1
              simp at this; omega
            rw [l1, ← l2, e1] at hm'
            rw [e1] at hc'
            simp at hm' hc'; subst hm' hc'; exact hy
    obtain ⟨ms, css, l1, l2, hsz, hcell, hR⟩ := hpick len (Nat.le_refl _)
    refine ⟨_, ms, css, rfl, by rw [l1, l2], ⟨hsz, ?_⟩, hR⟩
    by_cases h0 : len = 0
    · subst h0
      exact .inl ⟨⟨some a, cap, rfl, hm⟩, List.eq_nil_of_length_eq_zero l2⟩
    · right
      have hlc : 0 < css.length := by omega
      have hc0 : W.cell? (a.add (0 * size + 0)) = (css[0]'hlc)[0]? := hcell 0 _ (List.getElem?_eq_getElem hlc) 0 hs0
      have hl0 : (css[0]'hlc).length = size := hsz _ (List.getElem_mem hlc)
      obtain ⟨u, hu⟩ : ∃ u, (css[0]'hlc)[0]? = some u := ⟨(css[0]'hlc)[0]'(by rw [hl0]; exact hs0), List.getElem?_eq_getElem _⟩
      rw [hu] at hc0
      have hsp : a.spot = none := by
        have := World.cell?_spot hc0
        simpa [Addr.add] using this
      obtain ⟨ab, ao, asp⟩ := a
      simp only at hsp
      subst hsp
      refine ⟨ab, ao, cap, by rw [l2], by omega, hm, ?_, ?_⟩
      · have := World.block_lt_of_cell? W _ hc0
        simpa [Addr.add] using this
      · intro j u hj
        have hjl := (List.getElem?_eq_some_iff.1 hj).1
        rw [flatten_length css hsz, l2] at hjl
        have hdiv : j / size < len := Nat.div_lt_of_lt_mul (by rw [Nat.mul_comm]; exact hjl)
        have hmod : j % size < size := Nat.mod_lt _ hs0
        have hcs := List.getElem?_eq_getElem (l := css) (i := j / size) (by omega)
        have h1 := hcell (j / size) _ hcs (j % size) hmod
        have hl1 := hsz _ (List.getElem_mem (l := css) (n := j / size) (by omega))
        have h2 := flatten_at css hsz (j / size) _ hcs (j % size) _ (List.getElem?_eq_getElem (by omega))
        have e1 : j / size * size + j % size = j := by rw [Nat.mul_comm]; exact Nat.div_add_mod j size
        rw [e1] at h1 h2
        rw [Addr.add_mid] at h1
        rw [h1, List.getElem?_eq_getElem (by omega), ← h2, hj]

theorem open_idc {n : Nat} {cs : List Value} {y : DataW H × List MemPlace} (h : DataW.trod enc Tryd.prog W base spare held n 23 cs = some y) (hl : cs.length = 3) : ∃ x : Idn, cs = idCells x := by
  obtain ⟨a, b, c, rfl⟩ := list3 hl
  obtain ⟨xs, k, _, _, _, hx, hf⟩ := DataW.trod_struct Tryd.underlying23 h
  obtain ⟨v0, h0⟩ : ∃ v, xs[0]? = some v := ⟨_, List.getElem?_eq_getElem (by rw [hx]; decide)⟩
  obtain ⟨v1, h1⟩ : ∃ v, xs[1]? = some v := ⟨_, List.getElem?_eq_getElem (by rw [hx]; decide)⟩
  obtain ⟨v2, h2⟩ : ∃ v, xs[2]? = some v := ⟨_, List.getElem?_eq_getElem (by rw [hx]; decide)⟩
  have c3 : Tryd.prog.cellsOf 3 = 1 := by kernel_rfl
  have c5 : Tryd.prog.cellsOf 5 = 1 := by kernel_rfl
  have f0 := (hf 0 _ rfl).trans h0
  have f1 := (hf 1 _ rfl).trans h1
  have f2 := (hf 2 _ rfl).trans h2
  obtain ⟨z0, e0, _⟩ := DataW.trod_int Tryd.underlying5 f0
  obtain ⟨z1, e1, _⟩ := DataW.trod_int Tryd.underlying3 f1
  obtain ⟨z2, e2, _⟩ := DataW.trod_int Tryd.underlying3 f2
  simp [c3, c5] at e0 e1 e2
  subst e0 e1 e2
  exact ⟨⟨z0, z1, z2⟩, rfl⟩
theorem open_file {n : Nat} {cs : List Value} {y : DataW H × List MemPlace} (h : DataW.trod enc Tryd.prog W base spare held n 39 cs = some y) (hl : cs.length = 2) : ∃ l : List UInt8, ∃ a k c, cs = [strV l, .slice a k c] := by
  obtain ⟨a, b, rfl⟩ := list2 hl
  obtain ⟨xs, k, _, _, _, hx, hf⟩ := DataW.trod_struct Tryd.underlying39 h
  obtain ⟨v0, h0⟩ : ∃ v, xs[0]? = some v := ⟨_, List.getElem?_eq_getElem (by rw [hx]; decide)⟩
  obtain ⟨v1, h1⟩ : ∃ v, xs[1]? = some v := ⟨_, List.getElem?_eq_getElem (by rw [hx]; decide)⟩
  have c9 : Tryd.prog.cellsOf 9 = 1 := by kernel_rfl
  have c37 : Tryd.prog.cellsOf 37 = 1 := by kernel_rfl
  have f0 := (hf 0 _ rfl).trans h0
  have f1 := (hf 1 _ rfl).trans h1
  obtain ⟨s, e0, _, _⟩ := DataW.trod_string Tryd.underlying9 f0
  have e1 : ∃ a k c, b = Value.slice a k c := by
    rcases open_slice Tryd.underlying37 f1 with ⟨e, _⟩ | ⟨a', len, cap, m, n, D, Pl, e, _⟩
    · simp [c37] at e
      exact ⟨_, _, _, e⟩
    · simp [c37] at e
      exact ⟨_, _, _, e⟩
  obtain ⟨a', k', c', rfl⟩ := e1
  simp [c9] at e0
  subst e0
  exact ⟨s.data.toList, a', k', c', rfl⟩
theorem open_ids {n : Nat} {cs : List Value} {y : DataW H × List MemPlace} (h : DataW.trod enc Tryd.prog W base spare held n 33 cs = some y) : ∃ (v : Value) (xs : List Idn), cs = [v] ∧ IsIds (· < W.heap.size) W v xs := by
  obtain ⟨v, ms, css, rfl, hl, hsl, hr⟩ := open_rows (size := 3) Tryd.underlying33 (by kernel_rfl) (by decide) (fun (m : Idn) cs => cs = idCells m) (fun n cs y h hl => open_idc h hl) h
  refine ⟨v, ms, rfl, ?_⟩
  have : css = ms.map idCells := by
    apply List.ext_getElem?
    intro i
    by_cases hi : i < ms.length
    · rw [List.getElem?_map, List.getElem?_eq_getElem hi, List.getElem?_eq_getElem (by omega)]
      have := hr i _ _ (List.getElem?_eq_getElem hi) (List.getElem?_eq_getElem (by omega))
      simp [this]
    · rw [List.getElem?_eq_none (by omega), List.getElem?_eq_none (by simp; omega)]
  unfold IsIds
  rw [← this]
  exact hsl
theorem open_files {n : Nat} {cs : List Value} {y : DataW H × List MemPlace} (h : DataW.trod enc Tryd.prog W base spare held n 32 cs = some y) : ∃ (v : Value) (ns : List (List UInt8)), cs = [v] ∧ IsFiles (· < W.heap.size) W v ns := by
  obtain ⟨v, ms, css, rfl, hl, hsl, hr⟩ := open_rows (size := 2) Tryd.underlying32 (by kernel_rfl) (by decide) (fun (m : List UInt8) cs => ∃ a k c, cs = [strV m, .slice a k c]) (fun n cs y h hl => open_file h hl) h
  refine ⟨v, ms, rfl, css, hl, hsl, fun i m hm => ?_⟩
  have hi : i < css.length := by rw [hl]; exact (List.getElem?_eq_some_iff.1 hm).1
  obtain ⟨a, k, c, e⟩ := hr i m _ hm (List.getElem?_eq_getElem hi)
  exact ⟨a, k, c, by rw [List.getElem?_eq_getElem hi, e]⟩
theorem trodAll_two' {t0 t1 : TypeId} {args : Array Value} {ds : List (DataW H)} {ps : List MemPlace} (h : DataW.TrodAll enc Tryd.prog W base spare held [t0, t1] args.toList ds ps) :
    ∃ v0 v1 d0 d1 p0 p1, args = #[v0, v1] ∧ ds = [d0, d1] ∧ ps = p0 ++ p1 ∧ DataW.Trod enc Tryd.prog W base spare held t0 v0 d0 p0 ∧ DataW.Trod enc Tryd.prog W base spare held t1 v1 d1 p1 := by
  obtain ⟨v0, r0, d0, s0, p0, q0, ha, rfl, rfl, h0, h⟩ := trodAll_cons h
  obtain ⟨v1, r1, d1, s1, p1, q1, rfl, rfl, rfl, h1, h⟩ := trodAll_cons h
  obtain ⟨rfl, rfl, rfl⟩ := trodAll_nil h
  exact ⟨v0, v1, d0, d1, p0, p1, by cases args; simp_all, rfl, by simp, h0, h1⟩
end
end Go.Proofs.YtkhkjcoejkgfeaaDoor
