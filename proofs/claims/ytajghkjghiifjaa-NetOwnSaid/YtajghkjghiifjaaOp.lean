/-
  What the form of claims reads, opened: entries, messages, a net.
-/
import Derived.Test.YtajghkjghiifjaaData
import Derived.Test.YtajghkjghiifjaaRows
import Derived.ProofKit
import Derived.Deep.Slices
import Derived.Deep.Fields
import Derived.Lib.SmallJoins
namespace Go.Proofs.Ytajghkjghiifjaa
open Go Go.RowKit Go.ChangeShapes Go.WideShapes Go.Deep

section
variable {H : Type} {enc : TypeId × Value → H} {W : World} {base : Nat} {spare : Nat → Bool} {held : Bool}

theorem list1 {l : List Value} (h : l.length = 1) : ∃ v, l = [v] := by
  match l, h with
  | [v], _ => exact ⟨v, rfl⟩
theorem list3 {l : List Value} (h : l.length = 3) : ∃ a b c, l = [a, b, c] := by
  match l, h with
  | [a, b, c], _ => exact ⟨a, b, c, rfl⟩
theorem list15 {l : List Value} (h : l.length = 15) : ∃ a b c d e f g h i j k m n o p, l = [a, b, c, d, e, f, g, h, i, j, k, m, n, o, p] := by
  match l, h with
  | [a, b, c, d, e, f, g, h, i, j, k, m, n, o, p], _ => exact ⟨a, b, c, d, e, f, g, h, i, j, k, m, n, o, p, rfl⟩

/-- A slice's elements, each by what a reading of its cells says. -/
theorem open_rows {α : Type} {t e : TypeId} {fuel size : Nat} {cs : List Value} {x : DataW H × List MemPlace} (ht : Try.prog.underlying t = some (.slice e)) (hC : Try.prog.cellsOf e = size) (hs0 : 0 < size)
    (R : α → List Value → Prop) (hel : ∀ (n : Nat) (cs : List Value) (y : DataW H × List MemPlace), DataW.trod enc Try.prog W base spare held n e cs = some y → cs.length = size → ∃ m, R m cs)
    (h : DataW.trod enc Try.prog W base spare held fuel t cs = some x) :
    ∃ (v : Value) (ms : List α) (css : List (List Value)), cs = [v] ∧ css.length = ms.length ∧ SL (· < W.heap.size) W size v css ∧ ∀ (i : Nat) (m : α) (c : List Value), ms[i]? = some m → css[i]? = some c → R m c := by
  rcases open_slice ht h with ⟨rfl, _⟩ | ⟨a, len, cap, m, n, D, Pl, rfl, hb, hl, hm, hmm, _, hi⟩
  · exact ⟨_, [], [], rfl, rfl, ⟨by simp, .inl ⟨⟨none, 0, rfl, Nat.zero_le _⟩, rfl⟩⟩, fun i m c h => by simp at h⟩
  · have hlm : len ≤ m := by rw [hmm]; split <;> omega
    have hex : ∀ i, i < len → ∃ (c : List Value) (y : α), c.length = size ∧ R y c ∧ ∀ j, j < size → W.cell? (a.add (i * size + j)) = c[j]? := fun i hil => by
      obtain ⟨c, hc, hd⟩ := hi i (by omega)
      rw [hC] at hc
      obtain ⟨_, hcl, hat⟩ := World.cells?_some hc
      obtain ⟨y, hy⟩ := hel _ _ _ hd hcl
      refine ⟨c, y, hcl, hy, fun j hj => ?_⟩
      rw [← Go.Deep.add_add]
      exact hat j hj
    have hpick : ∀ k, k ≤ len → ∃ (ms : List α) (css : List (List Value)), ms.length = k ∧ css.length = k ∧ (∀ c ∈ css, c.length = size) ∧
        (∀ i c, css[i]? = some c → ∀ j, j < size → W.cell? (a.add (i * size + j)) = c[j]?) ∧ ∀ (i : Nat) (m : α) (c : List Value), ms[i]? = some m → css[i]? = some c → R m c := by
      intro k
      induction k with
      | zero => exact fun _ => ⟨[], [], rfl, rfl, by simp, fun i c h => by simp at h, fun i m c h => by simp at h⟩
      | succ k ih =>
        intro hk
        obtain ⟨ms, css, l1, l2, hsz, hcell, hR⟩ := ih (by omega)
        obtain ⟨c, y, hcl, hy, hcc⟩ := hex k (by omega)
        refine ⟨ms ++ [y], css ++ [c], by simp [l1], by simp [l2], ?_, fun i c' hc' => ?_, fun i m c' hm' hc' => ?_⟩
        · intro z hz
          rcases List.mem_append.1 hz with hz | hz
          · exact hsz z hz
          · simp at hz; subst hz; exact hcl
        · by_cases e : i < k
          · rw [List.getElem?_append_left (by omega)] at hc'; exact hcell i c' hc'
          · rw [List.getElem?_append_right (by omega)] at hc'
            have : i - css.length = 0 := by
              have := (List.getElem?_eq_some_iff.1 hc').1
              simp at this; omega
            rw [this] at hc'; simp at hc'; subst hc'
            obtain rfl : i = k := by omega
            exact hcc
        · by_cases e : i < k
          · rw [List.getElem?_append_left (by omega)] at hm' hc'; exact hR i m c' hm' hc'
          · rw [List.getElem?_append_right (by omega)] at hm' hc'
            have e1 : i - css.length = 0 := by
              have := (List.getElem?_eq_some_iff.1 hc').1
              simp at this; omega
            rw [l1, ← l2, e1] at hm'
            rw [e1] at hc'
            simp at hm' hc'; subst hm' hc'; exact hy
    obtain ⟨ms, css, l1, l2, hsz, hcell, hR⟩ := hpick len (Nat.le_refl _)
    refine ⟨_, ms, css, rfl, by rw [l1, l2], ⟨hsz, ?_⟩, hR⟩
    by_cases h0 : len = 0
    · subst h0
      exact .inl ⟨⟨some a, cap, rfl, hm⟩, List.eq_nil_of_length_eq_zero l2⟩
    · right
      have hlc : 0 < css.length := by omega
      have hc0 : W.cell? (a.add (0 * size + 0)) = (css[0]'hlc)[0]? := hcell 0 _ (List.getElem?_eq_getElem hlc) 0 hs0
      have hl0 : (css[0]'hlc).length = size := hsz _ (List.getElem_mem hlc)
      obtain ⟨u, hu⟩ : ∃ u, (css[0]'hlc)[0]? = some u := ⟨(css[0]'hlc)[0]'(by rw [hl0]; exact hs0), List.getElem?_eq_getElem _⟩
      rw [hu] at hc0
      have hsp : a.spot = none := by
        have := World.cell?_spot hc0
        simpa [Addr.add] using this
      obtain ⟨ab, ao, asp⟩ := a
      simp only at hsp
      subst hsp
      refine ⟨ab, ao, cap, by rw [l2], by omega, hm, ?_, ?_⟩
      · have := World.block_lt_of_cell? W _ hc0
        simpa [Addr.add] using this
      · intro j u hj
        have hjl := (List.getElem?_eq_some_iff.1 hj).1
        rw [flatten_length css hsz, l2] at hjl
        have hdiv : j / size < len := Nat.div_lt_of_lt_mul (by rw [Nat.mul_comm]; exact hjl)
        have hmod : j % size < size := Nat.mod_lt _ hs0
        have hcs := List.getElem?_eq_getElem (l := css) (i := j / size) (by omega)
        have h1 := hcell (j / size) _ hcs (j % size) hmod
        have hl1 := hsz _ (List.getElem_mem (l := css) (n := j / size) (by omega))
        have h2 := flatten_at css hsz (j / size) _ hcs (j % size) _ (List.getElem?_eq_getElem (by omega))
        have e1 : j / size * size + j % size = j := by rw [Nat.mul_comm]; exact Nat.div_add_mod j size
        rw [e1] at h1 h2
        rw [Addr.add_mid] at h1
        rw [h1, List.getElem?_eq_getElem (by omega), ← h2, hj]

theorem open_ent {n : Nat} {cs : List Value} {y : DataW H × List MemPlace} (h : DataW.trod enc Try.prog W base spare held n 53 cs = some y) (hl : cs.length = 3) : ∃ m : Ent, cs = entCells m := by
  obtain ⟨a, b, c, rfl⟩ := list3 hl
  obtain ⟨xs, k, _, _, _, hx, hf⟩ := DataW.trod_struct Try.underlying53 h
  obtain ⟨v0, h0⟩ : ∃ v, xs[0]? = some v := ⟨_, List.getElem?_eq_getElem (by rw [hx]; decide)⟩
  obtain ⟨v1, h1⟩ : ∃ v, xs[1]? = some v := ⟨_, List.getElem?_eq_getElem (by rw [hx]; decide)⟩
  obtain ⟨v2, h2⟩ : ∃ v, xs[2]? = some v := ⟨_, List.getElem?_eq_getElem (by rw [hx]; decide)⟩
  have c3 : Try.prog.cellsOf 3 = 1 := by kernel_rfl
  have f0 := (hf 0 _ rfl).trans h0
  have f1 := (hf 1 _ rfl).trans h1
  have f2 := (hf 2 _ rfl).trans h2
  obtain ⟨z0, e0, _⟩ := DataW.trod_int Try.underlying3 f0
  obtain ⟨z1, e1, _⟩ := DataW.trod_int Try.underlying3 f1
  obtain ⟨z2, e2, _⟩ := DataW.trod_int Try.underlying3 f2
  simp [c3] at e0 e1 e2
  subst e0 e1 e2
  exact ⟨⟨z0, z1, z2⟩, rfl⟩
theorem open_ents {n : Nat} {cs : List Value} {y : DataW H × List MemPlace} (h : DataW.trod enc Try.prog W base spare held n 27 cs = some y) : ∃ (v : Value) (es : List Ent), cs = [v] ∧ IsEnts (· < W.heap.size) W v es := by
  obtain ⟨v, ms, css, rfl, hl, hsl, hr⟩ := open_rows (size := 3) Try.underlying27 (by kernel_rfl) (by decide) (fun (m : Ent) cs => cs = entCells m) (fun n cs y h hl => open_ent h hl) h
  refine ⟨v, ms, rfl, ?_⟩
  have : css = ms.map entCells := by
    apply List.ext_getElem?
    intro i
    by_cases hi : i < ms.length
    · have h1 := List.getElem?_eq_getElem hi
      have h2 := List.getElem?_eq_getElem (l := css) (i := i) (by omega)
      rw [h2, List.getElem?_map, h1, hr i _ _ h1 h2]; rfl
    · rw [List.getElem?_eq_none (by omega), List.getElem?_eq_none (by simp; omega)]
  unfold IsEnts
  rw [← this]
  exact hsl
theorem open_msg {n : Nat} {cs : List Value} {y : DataW H × List MemPlace} (h : DataW.trod enc Try.prog W base spare held n 31 cs = some y) (hl : cs.length = 15) :
    ∃ m : Msg, ∃ ev, cs = msgCells m ev ∧ IsEnts (· < W.heap.size) W ev m.ents := by
  obtain ⟨a0, a1, a2, a3, a4, a5, a6, a7, a8, a9, a10, a11, a12, a13, a14, rfl⟩ := list15 hl
  obtain ⟨xs, k, _, _, _, hx, hf⟩ := DataW.trod_struct Try.underlying31 h
  have hz : ∀ i, i < 11 → ∃ v, xs[i]? = some v := fun i hi => ⟨_, List.getElem?_eq_getElem (by rw [hx]; exact hi)⟩
  have c3 : Try.prog.cellsOf 3 = 1 := by kernel_rfl
  have c4 : Try.prog.cellsOf 4 = 1 := by kernel_rfl
  have c5 : Try.prog.cellsOf 5 = 1 := by kernel_rfl
  have c27 : Try.prog.cellsOf 27 = 1 := by kernel_rfl
  have c29 : Try.prog.cellsOf 29 = 5 := by kernel_rfl
  obtain ⟨v0, h0⟩ := hz 0 (by decide)
  obtain ⟨v1, h1⟩ := hz 1 (by decide)
  obtain ⟨v2, h2⟩ := hz 2 (by decide)
  obtain ⟨v3, h3⟩ := hz 3 (by decide)
  obtain ⟨v4, h4⟩ := hz 4 (by decide)
  obtain ⟨v5, h5⟩ := hz 5 (by decide)
  obtain ⟨v6, h6⟩ := hz 6 (by decide)
  obtain ⟨v7, h7⟩ := hz 7 (by decide)
  obtain ⟨v8, h8⟩ := hz 8 (by decide)
  obtain ⟨v9, h9⟩ := hz 9 (by decide)
  obtain ⟨v10, h10⟩ := hz 10 (by decide)
  have f0 := (hf 0 _ rfl).trans h0
  have f1 := (hf 1 _ rfl).trans h1
  have f2 := (hf 2 _ rfl).trans h2
  have f3 := (hf 3 _ rfl).trans h3
  have f4 := (hf 4 _ rfl).trans h4
  have f5 := (hf 5 _ rfl).trans h5
  have f6 := (hf 6 _ rfl).trans h6
  have f7 := (hf 7 _ rfl).trans h7
  have f8 := (hf 8 _ rfl).trans h8
  have f9 := (hf 9 _ rfl).trans h9
  have f10 := (hf 10 _ rfl).trans h10
  obtain ⟨z0, e0, _⟩ := DataW.trod_int Try.underlying5 f0
  obtain ⟨z1, e1, _⟩ := DataW.trod_int Try.underlying3 f1
  obtain ⟨z2, e2, _⟩ := DataW.trod_int Try.underlying3 f2
  obtain ⟨z3, e3, _⟩ := DataW.trod_int Try.underlying3 f3
  obtain ⟨z4, e4, _⟩ := DataW.trod_int Try.underlying3 f4
  obtain ⟨z5, e5, _⟩ := DataW.trod_int Try.underlying3 f5
  obtain ⟨z6, e6, _⟩ := DataW.trod_int Try.underlying3 f6
  obtain ⟨z7, e7, _⟩ := DataW.trod_int Try.underlying3 f7
  obtain ⟨z8, e8, _⟩ := DataW.trod_bool Try.underlying4 f8
  obtain ⟨ev, es, e9, hes⟩ := open_ents f9
  obtain ⟨ys, k2, _, _, _, hy, hg⟩ := DataW.trod_struct Try.underlying29 f10
  have hq : ∀ i, i < 5 → ∃ v, ys[i]? = some v := fun i hi => ⟨_, List.getElem?_eq_getElem (by rw [hy]; exact hi)⟩
  obtain ⟨u0, q0⟩ := hq 0 (by decide)
  obtain ⟨u1, q1⟩ := hq 1 (by decide)
  obtain ⟨u2, q2⟩ := hq 2 (by decide)
  obtain ⟨u3, q3⟩ := hq 3 (by decide)
  obtain ⟨u4, q4⟩ := hq 4 (by decide)
  have g0 := (hg 0 _ rfl).trans q0
  have g1 := (hg 1 _ rfl).trans q1
  have g2 := (hg 2 _ rfl).trans q2
  have g3 := (hg 3 _ rfl).trans q3
  have g4 := (hg 4 _ rfl).trans q4
  obtain ⟨s0, i0, _⟩ := DataW.trod_int Try.underlying3 g0
  obtain ⟨s1, i1, _⟩ := DataW.trod_int Try.underlying3 g1
  obtain ⟨s2, i2, _⟩ := DataW.trod_int Try.underlying3 g2
  obtain ⟨s3, i3, _⟩ := DataW.trod_int Try.underlying3 g3
  obtain ⟨s4, i4, _⟩ := DataW.trod_bool Try.underlying4 g4
  simp [c3, c4, c5, c27, c29] at e0 e1 e2 e3 e4 e5 e6 e7 e8 e9 i0 i1 i2 i3 i4
  subst e0 e1 e2 e3 e4 e5 e6 e7 e8 e9 i0 i1 i2 i3 i4
  exact ⟨⟨z0, z1, z2, z3, z4, z5, z6, z7, z8, es, s0, s1, s2, s3, s4⟩, _, rfl, hes⟩
theorem pick_evs {Q : Msg → Value → Prop} : ∀ (ms : List Msg) (css : List (List Value)), css.length = ms.length → (∀ (i : Nat) (m : Msg) (c : List Value), ms[i]? = some m → css[i]? = some c → ∃ ev, c = msgCells m ev ∧ Q m ev) →
    ∃ evs : List Value, evs.length = ms.length ∧ css = List.zipWith msgCells ms evs ∧ ∀ (i : Nat) (m : Msg) (ev : Value), ms[i]? = some m → evs[i]? = some ev → Q m ev
  | [], [], _, _ => ⟨[], rfl, rfl, fun i m ev h => by simp at h⟩
  | m :: ms, c :: css, hl, h => by
    obtain ⟨ev, hc, hq⟩ := h 0 m c rfl rfl
    obtain ⟨evs, h1, h2, h3⟩ := pick_evs ms css (by simpa using hl) (fun i m c hm hc => h (i + 1) m c (by simpa using hm) (by simpa using hc))
    refine ⟨ev :: evs, by simp [h1], by rw [h2, hc]; rfl, fun i m' ev' hm he => ?_⟩
    cases i with
    | zero => simp at hm he; subst hm he; exact hq
    | succ i => exact h3 i m' ev' (by simpa using hm) (by simpa using he)
theorem open_msgs {n : Nat} {cs : List Value} {y : DataW H × List MemPlace} (h : DataW.trod enc Try.prog W base spare held n 24 cs = some y) : ∃ (v : Value) (ms : List Msg), cs = [v] ∧ IsMsgs (· < W.heap.size) W v ms := by
  obtain ⟨v, ms, css, rfl, hl, hsl, hr⟩ := open_rows (size := 15) Try.underlying24 (by kernel_rfl) (by decide) (fun (m : Msg) cs => ∃ ev, cs = msgCells m ev ∧ IsEnts (· < W.heap.size) W ev m.ents) (fun n cs y h hl => open_msg h hl) h
  obtain ⟨evs, h1, h2, h3⟩ := pick_evs ms css hl hr
  exact ⟨v, ms, rfl, evs, h1, by rw [← h2]; exact hsl, h3⟩
end
end Go.Proofs.Ytajghkjghiifjaa
