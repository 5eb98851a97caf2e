/-
  Walk: files without one, as the document's answer has it.
  Conditions: none beyond those typed at each theorem.
-/
import Derived.Test.YtbgcjbpkgijmeaaEb
import Derived.Test.YtbgcjbpkgijmeaaDn
namespace Go.Proofs.Ytbgcjbpkgijmeaa
open Go Go.RowKit
attribute [local go_sem high] str_eql str_neq str_lss str_leq str_geq str_eql0 str_neq0

/-- The cells of a row of files whose bytes lie in a world. -/
def Src (w : World) (l : List Fl) (ys : List Value) : Prop :=
  ∃ bs : List Value, bs.length = l.length ∧ ys = (List.zipWith flCells l bs).flatten ∧ (∀ (i : Nat) (x : Fl) (b : Value), l[i]? = some x → bs[i]? = some b → IsBy (fun _ => True) w b x.data) ∧ ∀ x ∈ l, flE.ok x
theorem Src.nil (w : World) : Src w [] [] := ⟨[], rfl, rfl, fun i x b h => by simp at h, fun x h => by simp at h⟩
theorem Src.append {w : World} {l m : List Fl} {ys zs : List Value} (h : Src w l ys) (k : Src w m zs) : Src w (l ++ m) (ys ++ zs) := by
  obtain ⟨bs, h1, h2, h3, h4⟩ := h
  obtain ⟨cs, k1, k2, k3, k4⟩ := k
  refine ⟨bs ++ cs, by simp [h1, k1], ?_, fun i x b hx hb => ?_, fun x hx => ?_⟩
  · rw [List.zipWith_append h1.symm, List.flatten_append, h2, k2]
  · by_cases hi : i < l.length
    · rw [List.getElem?_append_left hi] at hx
      rw [List.getElem?_append_left (by omega)] at hb
      exact h3 i x b hx hb
    · rw [List.getElem?_append_right (by omega)] at hx
      rw [List.getElem?_append_right (by omega), h1] at hb
      exact k3 _ x b hx hb
  · rcases List.mem_append.1 hx with hx | hx
    · exact h4 x hx
    · exact k4 x hx
theorem Src.gr {w w' : World} {l : List Fl} {ys : List Value} (h : Src w l ys) (hg : Gr w w') : Src w' l ys := by
  obtain ⟨bs, h1, h2, h3, h4⟩ := h
  exact ⟨bs, h1, h2, fun i x b hx hb => (h3 i x b hx hb).gr hg, h4⟩
theorem Src.one {w : World} {f : Fl} {bv : Value} (hb : IsBy (fun _ => True) w bv f.data) (ho : flE.ok f) : Src w [f] (flCells f bv) :=
  ⟨[bv], rfl, by simp, fun i x b hx hb' => by
    cases i with
    | zero => simp at hx hb'; subst hx; subst hb'; exact hb
    | succ i => simp at hx, fun x hx => by rw [List.mem_singleton.1 hx]; exact ho⟩
theorem Src.len {w : World} {l : List Fl} {ys : List Value} (h : Src w l ys) : ys.length = l.length * 2 := by
  obtain ⟨bs, h1, h2, h3, h4⟩ := h
  rw [h2, flatten_length (size := 2) _ fun e he => by
    obtain ⟨i, hi, rfl⟩ := List.mem_iff_getElem.1 he
    rw [List.getElem_zipWith]; rfl]
  simp [h1]
theorem Src.one_cell {w : World} {l : List Fl} {ys : List Value} (h : Src w l ys) : ∀ u ∈ ys, u.oneCell' = true := by
  obtain ⟨bs, h1, h2, h3, h4⟩ := h
  rw [h2]
  intro u hu
  obtain ⟨e, he, hue⟩ := List.mem_flatten.1 hu
  obtain ⟨i, hi, rfl⟩ := List.mem_iff_getElem.1 he
  rw [List.getElem_zipWith] at hue
  simp only [List.length_zipWith] at hi
  obtain ⟨a, c, hv, _⟩ := (h3 i (l[i]'(by omega)) (bs[i]'(by omega)) (List.getElem?_eq_getElem _) (List.getElem?_eq_getElem _)).len
  simp only [flCells, List.mem_cons, List.not_mem_nil, or_false] at hue
  rcases hue with rfl | rfl
  · rfl
  · rw [hv]; rfl
/-- A row that lies so is one of files. -/
theorem fls_of_src {w0 w : World} {l : List Fl} {ys : List Value} {base : Nat} {v : Value} (h : Src w0 l ys) (ho : w.ownsRow base 40 2 v l.length ys) (hg : Gr w0 w) : IsFls (· < w.heap.size) w v l := by
  obtain ⟨bs, h1, h2, h3, h4⟩ := h
  refine row_inn (S := fun _ => True) (by decide) ⟨bs, h1, ?_, fun i x b hx hb => (h3 i x b hx hb).gr hg, h4⟩
  refine SL.mono (SL.of_owns (e := 40) (base := base) ?_ ?_) fun _ _ => trivial
  · intro x hx
    obtain ⟨i, hi, rfl⟩ := List.mem_iff_getElem.1 hx
    rw [List.getElem_zipWith]; rfl
  · have : (List.zipWith flCells l bs).length = l.length := by simp [h1]
    rw [this, ← h2]; exact ho
theorem src_of_fls {S : Nat → Prop} {w : World} {a : Option Addr} {n c : Nat} {l : List Fl} (h : IsFls S w (.slice a n c) l) :
    ∃ ys, Src w l ys ∧ n = l.length ∧ (a = none → n = 0) ∧ ∀ X, Gr w X → ∀ ad, a = some ad → ∀ (j : Nat) u, ys[j]? = some u → X.cell? (ad.add j) = some u := by
  obtain ⟨a', c', hv, _, _⟩ := IsRow.len h
  simp only [Value.slice.injEq] at hv
  obtain ⟨rfl, rfl, rfl⟩ := hv
  obtain ⟨bs, h1, h2, h3, h4⟩ := h
  refine ⟨(List.zipWith flCells l bs).flatten, ⟨bs, h1, rfl, fun i x b hx hb => (h3 i x b hx hb).mono fun _ _ => trivial, h4⟩, rfl, ?_, ?_⟩
  · intro ha
    rcases h2.2 with ⟨_, h0⟩ | ⟨b', off, cap, hv, _⟩
    · have := congrArg List.length h0
      simp [h1] at this; simp [this]
    · subst ha; cases hv
  · intro X hg ad had j u hu
    rcases h2.2 with ⟨_, h0⟩ | ⟨b', off, cap, hv, h5, h6, h7, h8⟩
    · change (List.zipWith flCells l bs) = [] at h0
      rw [h0] at hu; simp at hu
    · simp only [Value.slice.injEq] at hv
      obtain ⟨rfl, _, _⟩ := hv
      cases had
      exact add_cells (later_range hg h8) j u hu

section
variable {α : Type} {E : El α} {S : Nat → Prop} {w : World} {xs : List α}
theorem flatten_drop {size : Nat} : ∀ (els : List (List Value)), (∀ e ∈ els, e.length = size) → ∀ (k j : Nat), els.flatten[k * size + j]? = (els.drop k).flatten[j]?
  | els, _, 0, j => by simp
  | [], _, k + 1, j => by simp
  | x :: els, hl, k + 1, j => by
    have hx : x.length = size := hl x (by simp)
    have := flatten_drop els (fun e he => hl e (by simp [he])) k j
    rw [List.drop_succ_cons, ← this, List.flatten_cons, List.getElem?_append_right (by rw [hx, Nat.add_mul]; omega), hx]
    congr 1
    rw [Nat.add_mul]; omega
/-- What is behind a place of a row. -/
theorem row_drop {b o n c : Nat} (hs : IsRow E S w (.slice (some ⟨b, o, none⟩) n c) xs) {k : Nat} (_hk : k ≤ xs.length) : IsRow E S w (.slice (some ⟨b, o + k * E.size, none⟩) (n - k) (c - k)) (xs.drop k) := by
  obtain ⟨bs, h1, h2, h3, h4⟩ := hs
  refine ⟨bs.drop k, by simp [h1], ?_, fun i x b hx hb => ?_, fun x hx => h4 x (List.mem_of_mem_drop hx)⟩
  · have e : List.zipWith E.cells (xs.drop k) (bs.drop k) = (List.zipWith E.cells xs bs).drop k := by rw [List.drop_zipWith]
    rw [e]
    refine ⟨fun y hy => h2.1 y (List.mem_of_mem_drop hy), ?_⟩
    rcases h2.2 with ⟨⟨a', c', hv, hc⟩, h0⟩ | ⟨b', off, cap, hv, h5, h6, h7, h8⟩
    · cases hv
      exact .inl ⟨⟨_, _, by rw [Nat.zero_sub], by omega⟩, by rw [h0]; simp⟩
    · simp only [Value.slice.injEq, Option.some.injEq, Addr.mk.injEq, and_true] at hv
      obtain ⟨⟨rfl, rfl⟩, hn, rfl⟩ := hv
      have hl : ((List.zipWith E.cells xs bs).drop k).length = n - k := by rw [List.length_drop, hn]
      refine .inr ⟨b, o + k * E.size, c - k, by rw [hl], by rw [hl]; rw [← hn] at h5; omega, by omega, h7, fun j u hu => ?_⟩
      have := h8 (k * E.size + j) u (by rw [flatten_drop _ h2.1]; exact hu)
      rwa [← Nat.add_assoc] at this
  · rw [List.getElem?_drop] at hx hb
    exact h3 _ x b hx hb
end
/-- .. as the language has it: at the very end it is the row's own address. -/
theorem row_from {α : Type} {E : El α} {S : Nat → Prop} {w : World} {xs : List α} {a : Option Addr} {n c : Nat} (hs : IsRow E S w (.slice a n c) xs) {k : Nat} (hk : k ≤ xs.length) :
    ∃ a', (a' = if c = k then a else a.map (·.add (k * E.size))) ∧ IsRow E S w (.slice a' (n - k) (c - k)) (xs.drop k) := by
  obtain ⟨a', c', hv, hcap, hcm⟩ := hs.len
  simp only [Value.slice.injEq] at hv
  obtain ⟨rfl, rfl, rfl⟩ := hv
  by_cases h0 : k = xs.length
  · subst h0
    refine ⟨_, rfl, ⟨[], by simp, ⟨by simp, .inl ⟨⟨_, _, by rw [Nat.sub_self], by omega⟩, by simp⟩⟩, fun i x b hx => by simp at hx, fun x hx => by simp at hx⟩⟩
  · have hlt : k < xs.length := by omega
    obtain ⟨b, off, cap, hv, _, _, _, _⟩ := hs.some (by omega)
    simp only [Value.slice.injEq, true_and] at hv
    obtain ⟨rfl, rfl⟩ := hv
    refine ⟨_, rfl, ?_⟩
    rw [if_neg (by omega)]
    have := row_drop hs hk
    simp only [Option.map_some, Addr.add_mid]
    exact this
end Go.Proofs.Ytbgcjbpkgijmeaa
