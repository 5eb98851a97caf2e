/-
  What lies in memory, read as bytes, files, operations and disks; how such readings are kept; files and operations of the call's own.
  Conditions: none beyond those typed at each theorem.
-/
import Derived.Test.YtbgcjbpkgijmeaaData
import Derived.Test.YtbgcjbpkgijmeaaDa
import Derived.Laws.BytesArg
namespace Go.Proofs.Ytbgcjbpkgijmeaa
open Go Go.RowKit

abbrev strV (l : Bs) : Value := .string ⟨l.toArray⟩
abbrev byteV (c : UInt8) : Value := .int .u8 c.toNat
theorem str_inj {a b : Bs} (h : strV a = strV b) : a = b := by
  simp only [Value.string.injEq, ByteArray.mk.injEq] at h
  simpa using congrArg Array.toList h

/-- Bytes to be read. -/
def IsBy (S : Nat → Prop) (w : World) (v : Value) (l : Bs) : Prop := SL S w 1 v (l.map fun c => [byteV c])
theorem IsBy.dat {A B : World} (h : Kp Dat A B) {S : Nat → Prop} {v : Value} {l : Bs} (hs : IsBy S A v l) : IsBy S B v l := SL.dat h hs
theorem IsBy.gr {A B : World} (h : Gr A B) {S : Nat → Prop} {v : Value} {l : Bs} (hs : IsBy S A v l) : IsBy S B v l := SL.gr h hs
theorem IsBy.mono {A : World} {S T : Nat → Prop} {v : Value} {l : Bs} (hs : IsBy S A v l) (hST : ∀ b, S b → T b) : IsBy T A v l := SL.mono hs hST
theorem IsBy.len {w : World} {S : Nat → Prop} {v : Value} {l : Bs} (hs : IsBy S w v l) : ∃ a cap, v = .slice a l.length cap ∧ l.length ≤ cap ∧ cap ≤ maxLen := by
  have := SL.len hs; simpa using this
theorem flat_one {α : Type} (f : α → Value) : ∀ l : List α, (l.map fun c => [f c]).flatten = l.map f
  | [] => rfl
  | c :: l => by simp only [List.map_cons, List.flatten_cons, flat_one f l]; rfl
theorem IsBy.some {w : World} {S : Nat → Prop} {v : Value} {l : Bs} (hs : IsBy S w v l) (h0 : 0 < l.length) :
    ∃ b off cap, v = .slice (some ⟨b, off, none⟩) l.length cap ∧ l.length ≤ cap ∧ cap ≤ maxLen ∧ S b ∧ w.rangeAt b off (l.map byteV) := by
  have hs' := hs
  unfold IsBy SL at hs'
  rcases hs'.2 with ⟨_, h⟩ | ⟨b, off, cap, hv, h1, h2, h3, h4⟩
  · have : l = [] := by simpa using h
    rw [this] at h0; simp at h0
  · rw [flat_one] at h4
    exact ⟨b, off, cap, by simpa using hv, by simpa using h1, h2, h3, h4⟩
/-- Bytes of the call's own. -/
def OwnBy (base : Nat) (w : World) (v : Value) (l : Bs) : Prop := w.ownsRow base 5 1 v l.length (l.map byteV)
theorem OwnBy.is {base : Nat} {w : World} {v : Value} {l : Bs} (h : OwnBy base w v l) : IsBy (fun b => base ≤ b) w v l := by
  refine SL.of_owns (e := 5) (by intro x hx; obtain ⟨c, _, rfl⟩ := List.mem_map.1 hx; rfl) ?_
  rw [flat_one, List.length_map]; exact h
theorem OwnBy.dat {A B : World} (h : Kp Dat A B) {base : Nat} {v : Value} {l : Bs} (hs : OwnBy base A v l) : OwnBy base B v l := ownsRow_dat h hs
theorem OwnBy.gr {A B : World} (h : Gr A B) {base : Nat} {v : Value} {l : Bs} (hs : OwnBy base A v l) : OwnBy base B v l := hs.dat (Gr.kp h _)
theorem OwnBy.base {w : World} {base base' : Nat} {v : Value} {l : Bs} (hb : base' ≤ base) (h : OwnBy base w v l) : OwnBy base' w v l := ownsRow_base hb h
theorem OwnBy.slice {w : World} {base : Nat} {v : Value} {l : Bs} (h : OwnBy base w v l) : ∃ a c, v = .slice a l.length c := owns_slice h

/-- The string of bytes. -/
theorem conv_by {S : Nat → Prop} {w : World} {v : Value} {l : Bs} (h : IsBy S w v l) : (convert 30 9 v).run Try.prog w = .ok (strV l) w := by
  have hs : Try.prog.underlying 30 = some (.slice 5) := by kernel_rfl
  have he : Try.prog.underlying 5 = some (.int .u8) := by kernel_rfl
  have hd : Try.prog.underlying 9 = some .string := by kernel_rfl
  by_cases h0 : 0 < l.length
  · obtain ⟨b, off, cap, rfl, _, _, _, hr⟩ := h.some h0
    have := run_convert_bytes_arg (P := Try.prog) w 30 5 hs he b off l.length cap (l.map fun c => (c.toNat : Int)) (by simp) (fun i hi => by
      rw [hr i (byteV l[i]) (by simp [List.getElem?_eq_getElem hi])]
      simp [List.getD, List.getElem?_eq_getElem hi]) 9 hd
    rw [this]
    simp only [strOfNums, List.map_map]
    have e : (List.map ((fun n : Int => UInt8.ofNat n.toNat) ∘ fun c : UInt8 => (c.toNat : Int)) l) = l := by
      conv => rhs; rw [← List.map_id l]
      refine List.map_congr_left fun c _ => ?_
      simp
    rw [e]
  · obtain rfl : l = [] := List.eq_nil_of_length_eq_zero (by omega)
    obtain ⟨a, c, rfl, _, _⟩ := h.len
    rw [run_convert_bytes_string w 30 9 5 _ _ _ hs he hd]
    cases a <;> simp [Conv.bytesToString, loadCells, loadCellsFrom] <;> rfl

/-- Elements whose last cell is a slice of bytes. -/
structure El (α : Type) where
  size : Nat
  ty : TypeId
  cells : α → Value → List Value
  data : α → Bs
  ok : α → Prop
  len : ∀ x v, (cells x v).length = size
  one : ∀ x (v : Value), v.oneCell' = true → ∀ u ∈ cells x v, u.oneCell' = true
  tyne : ty ≠ 5
def flCells (f : Fl) (v : Value) : List Value := [strV f.name, v]
def opCells (o : Opr) (v : Value) : List Value := [.int .u8 o.kind, strV o.name, strV o.to, v]
abbrev flE : El Fl := ⟨2, 40, flCells, Fl.data, fun f => f.name.length ≤ maxLen, fun _ _ => rfl, fun x v h u hu => by
  simp only [flCells, List.mem_cons, List.not_mem_nil, or_false] at hu
  rcases hu with rfl | rfl <;> first | rfl | exact h, by decide⟩
abbrev opE : El Opr := ⟨4, 32, opCells, Opr.data, fun o => o.name.length ≤ maxLen ∧ o.to.length ≤ maxLen ∧ (Lit.int .u8 o.kind).wf = true, fun _ _ => rfl, fun x v h u hu => by
  simp only [opCells, List.mem_cons, List.not_mem_nil, or_false] at hu
  rcases hu with rfl | rfl | rfl | rfl <;> first | rfl | exact h, by decide⟩

section
variable {α : Type} {E : El α} {S T : Nat → Prop} {w A B : World} {v : Value} {xs : List α} {base : Nat}
/-- .. to be read. -/
def IsRow (E : El α) (S : Nat → Prop) (w : World) (v : Value) (xs : List α) : Prop :=
  ∃ bs : List Value, bs.length = xs.length ∧ SL S w E.size v (List.zipWith E.cells xs bs) ∧ (∀ (i : Nat) (x : α) (b : Value), xs[i]? = some x → bs[i]? = some b → IsBy S w b (E.data x)) ∧ ∀ x ∈ xs, E.ok x
theorem IsRow.dat (h : Kp Dat A B) (hs : IsRow E S A v xs) : IsRow E S B v xs := by
  obtain ⟨bs, h1, h2, h3, h4⟩ := hs
  exact ⟨bs, h1, h2.dat h, fun i x b hx hb => (h3 i x b hx hb).dat h, h4⟩
theorem IsRow.gr (h : Gr A B) (hs : IsRow E S A v xs) : IsRow E S B v xs := hs.dat (Gr.kp h _)
theorem IsRow.mono (hs : IsRow E S A v xs) (hST : ∀ b, S b → T b) : IsRow E T A v xs := by
  obtain ⟨bs, h1, h2, h3, h4⟩ := hs
  exact ⟨bs, h1, h2.mono hST, fun i x b hx hb => (h3 i x b hx hb).mono hST, h4⟩
theorem IsRow.kp {N : Nat → Obj → Prop} (h : Kp N A B) (hs : IsRow E S A v xs) (hN : ∀ b c e f, S b → A.heap[b]? = some (.cells c e f) → N b (.cells c e f)) : IsRow E S B v xs := by
  obtain ⟨bs, h1, h2, h3, h4⟩ := hs
  exact ⟨bs, h1, h2.kp h hN, fun i x b hx hb => SL.kp h (h3 i x b hx hb) hN, h4⟩
theorem IsRow.len (hs : IsRow E S w v xs) : ∃ a cap, v = .slice a xs.length cap ∧ xs.length ≤ cap ∧ cap ≤ maxLen := by
  obtain ⟨bs, h1, h2, h3, h4⟩ := hs
  obtain ⟨a, cap, hv, h5, h6⟩ := h2.len
  have : (List.zipWith E.cells xs bs).length = xs.length := by simp [h1]
  rw [this] at hv h5
  exact ⟨a, cap, hv, h5, h6⟩
theorem IsRow.ok (hs : IsRow E S w v xs) : ∀ x ∈ xs, E.ok x := let ⟨_, _, _, _, h⟩ := hs; h
theorem IsRow.some (hs : IsRow E S w v xs) (h0 : 0 < xs.length) :
    ∃ b off cap, v = .slice (some ⟨b, off, none⟩) xs.length cap ∧ xs.length ≤ cap ∧ cap ≤ maxLen ∧ S b ∧
      ∀ (i : Nat) (x : α), xs[i]? = Option.some x → ∃ bv, w.rangeAt b (off + i * E.size) (E.cells x bv) ∧ IsBy S w bv (E.data x) := by
  obtain ⟨bs, h1, h2, h3, h4⟩ := hs
  have hl : (List.zipWith E.cells xs bs).length = xs.length := by simp [h1]
  obtain ⟨b, off, cap, hv, h4, h5, h6⟩ := h2.some (by omega)
  have hv' := hv
  rw [hl] at hv h4
  refine ⟨b, off, cap, hv, h4, h5, h6, fun i x hx => ?_⟩
  have hi : i < xs.length := (List.getElem?_eq_some_iff.1 hx).1
  obtain ⟨bv, he⟩ : ∃ bv, bs[i]? = Option.some bv := ⟨bs[i]'(by omega), List.getElem?_eq_getElem (by omega)⟩
  exact ⟨bv, h2.at hv' (by rw [List.getElem?_zipWith, hx, he]), h3 i x bv hx he⟩
/-- A part of it. -/
theorem IsRow.take {a : Option Addr} {n c : Nat} (hs : IsRow E S w (.slice a n c) xs) {k : Nat} (hk : k ≤ xs.length) : IsRow E S w (.slice a k c) (xs.take k) := by
  obtain ⟨bs, h1, h2, h3, h4⟩ := hs
  refine ⟨bs.take k, by simp [h1], ?_, fun i x b hx hb => ?_, fun x hx => h4 x (List.mem_of_mem_take hx)⟩
  · have e : List.zipWith E.cells (xs.take k) (bs.take k) = (List.zipWith E.cells xs bs).take k := by rw [List.take_zipWith]
    rw [e]
    refine ⟨fun y hy => h2.1 y (List.mem_of_mem_take hy), ?_⟩
    rcases h2.2 with ⟨⟨a', c', hv, hc⟩, h0⟩ | ⟨b', off, cap, hv, h5, h6, h7, h8⟩
    · cases hv
      rw [h0]
      have : xs = [] := by
        have hl := congrArg List.length h0
        simp [h1] at hl; exact hl
      subst this
      have hk0 : k = 0 := by simpa using hk
      subst hk0
      exact .inl ⟨⟨_, _, rfl, hc⟩, rfl⟩
    · simp only [Value.slice.injEq] at hv
      obtain ⟨rfl, hn, rfl⟩ := hv
      have hl : ((List.zipWith E.cells xs bs).take k).length = k := by simp [h1, hk]
      refine .inr ⟨b', off, _, by rw [hl], by rw [hl]; simp [h1] at h5; omega, h6, h7, fun j u hu => h8 j u ?_⟩
      have e2 : (List.zipWith E.cells xs bs).flatten = ((List.zipWith E.cells xs bs).take k).flatten ++ ((List.zipWith E.cells xs bs).drop k).flatten := by
        rw [← List.flatten_append, List.take_append_drop]
      rw [e2, List.getElem?_append_left (List.getElem?_eq_some_iff.1 hu).1]; exact hu
  · rw [List.getElem?_take] at hx hb
    split at hx
    · rw [if_pos (by assumption)] at hb; exact h3 i x b hx hb
    · cases hx
/-- .. of the call's own. -/
def OwnRow (E : El α) (base : Nat) (w : World) (v : Value) (xs : List α) : Prop :=
  ∃ bs : List Value, bs.length = xs.length ∧ w.ownsRow base E.ty E.size v xs.length (List.zipWith E.cells xs bs).flatten ∧ (∀ (i : Nat) (x : α) (b : Value), xs[i]? = some x → bs[i]? = some b → OwnBy base w b (E.data x)) ∧ ∀ x ∈ xs, E.ok x
theorem OwnRow.is (h : OwnRow E base w v xs) : IsRow E (fun b => base ≤ b) w v xs := by
  obtain ⟨bs, h1, h2, h3, h4⟩ := h
  refine ⟨bs, h1, SL.of_owns (e := E.ty) ?_ ?_, fun i x b hx hb => (h3 i x b hx hb).is, h4⟩
  · intro x hx
    obtain ⟨i, hi, rfl⟩ := List.mem_iff_getElem.1 hx
    rw [List.getElem_zipWith]; exact E.len _ _
  · have : (List.zipWith E.cells xs bs).length = xs.length := by simp [h1]
    rw [this]; exact h2
theorem OwnRow.dat (h : Kp Dat A B) (hs : OwnRow E base A v xs) : OwnRow E base B v xs := by
  obtain ⟨bs, h1, h2, h3, h4⟩ := hs
  exact ⟨bs, h1, ownsRow_dat h h2, fun i x b hx hb => (h3 i x b hx hb).dat h, h4⟩
theorem OwnRow.gr (h : Gr A B) (hs : OwnRow E base A v xs) : OwnRow E base B v xs := hs.dat (Gr.kp h _)
theorem OwnRow.down {base' : Nat} (hb : base' ≤ base) (h : OwnRow E base w v xs) : OwnRow E base' w v xs := by
  obtain ⟨bs, h1, h2, h3, h4⟩ := h
  exact ⟨bs, h1, ownsRow_base hb h2, fun i x b hx hb' => (h3 i x b hx hb').base hb, h4⟩
theorem OwnRow.slice (h : OwnRow E base w v xs) : ∃ a c, v = .slice a xs.length c := let ⟨_, _, h2, _⟩ := h; owns_slice h2
theorem OwnRow.nil (E : El α) (base : Nat) (w : World) : OwnRow E base w (.slice none 0 0) [] :=
  ⟨[], rfl, World.ownsRow_nil _ _ _ _, fun i x b hx => by simp at hx, fun x hx => by simp at hx⟩
theorem owns_elem {w : World} {base : Nat} {e : TypeId} {size : Nat} {v : Value} {n : Nat} {xs : List Value} (h : w.ownsRow base e size v n xs) {k : Nat} (hk : v.ownBlock = some k) : base ≤ k ∧ ∃ cur, w.heap[k]? = some (.cells cur e (0, 0)) := by
  rcases h.2 with ⟨rfl, _⟩ | ⟨g, cap, cur, rfl, hg, hh, _⟩
  · cases hk
  · cases hk; exact ⟨hg, cur, hh⟩
theorem owns_apart {w : World} {b1 b2 : Nat} {e1 e2 : TypeId} {s1 s2 : Nat} {v1 v2 : Value} {n1 n2 : Nat} {x1 x2 : List Value} (h1 : w.ownsRow b1 e1 s1 v1 n1 x1) (h2 : w.ownsRow b2 e2 s2 v2 n2 x2) (he : e1 ≠ e2) {k : Nat} (hk : v1.ownBlock = some k) : v2.ownBlock ≠ some k := by
  intro hk2
  obtain ⟨_, c1, hc1⟩ := owns_elem h1 hk
  obtain ⟨_, c2, hc2⟩ := owns_elem h2 hk2
  rw [hc1] at hc2
  simp at hc2
  exact he hc2.2
theorem OwnRow.flat (h : OwnRow E base w v xs) : ∃ ys, w.ownsRow base E.ty E.size v xs.length ys := let ⟨_, _, h2, _⟩ := h; ⟨_, h2⟩
/-- Written elsewhere. -/
theorem OwnRow.keep (h : OwnRow E base A v xs) (hk : ∀ k cur e, A.heap[k]? = some (.cells cur e (0, 0)) → base ≤ k → e = E.ty ∨ e = 5 → B.heap[k]? = A.heap[k]?) : OwnRow E base B v xs := by
  obtain ⟨bs, h1, h2, h3, h4⟩ := h
  refine ⟨bs, h1, owns_other h2 fun k hv => ?_, fun i x b hx hb => ?_, h4⟩
  · obtain ⟨h5, cur, h6⟩ := owns_elem h2 hv
    exact hk k cur _ h6 h5 (.inl rfl)
  · refine owns_other (h3 i x b hx hb) fun k hv => ?_
    obtain ⟨h5, cur, h6⟩ := owns_elem (h3 i x b hx hb) hv
    exact hk k cur _ h6 h5 (.inr rfl)
/-- One more is appended. -/
theorem OwnRow.push (h : OwnRow E base w v xs) {x : α} {bv : Value} (hb : OwnBy base w bv (E.data x)) (ho : E.ok x) {tmp : Obj} {w2 : World} {v' : Value} {ys : List Value} (hys : w.ownsRow base E.ty E.size v xs.length ys)
    (hown : w2.ownsRow base E.ty E.size v' (xs.length + 1) (ys ++ E.cells x bv)) (hg : (w.alloc tmp).grownBy w2 v.ownBlock) : OwnRow E base w2 v' (xs ++ [x]) := by
  obtain ⟨bs, h1, h2, h3, h4⟩ := h
  have eys : ys = (List.zipWith E.cells xs bs).flatten := by
    have l1 : ys.length = xs.length * E.size := hys.1
    have l2 : (List.zipWith E.cells xs bs).flatten.length = xs.length * E.size := h2.1
    rcases hys.2 with ⟨_, h0⟩ | ⟨g, cap, cur, hv, hg, hh, hn, hc, hs, ht⟩
    · have e1 : ys = [] := List.eq_nil_of_length_eq_zero (by rw [l1, h0, Nat.zero_mul])
      have e2 : (List.zipWith E.cells xs bs).flatten = [] := List.eq_nil_of_length_eq_zero (by rw [l2, h0, Nat.zero_mul])
      rw [e1, e2]
    · apply List.ext_getElem?
      intro j
      by_cases hj : j < ys.length
      · have c1 := World.ownsRow.cells hys (by rw [hv]; rfl) j ys[j] (List.getElem?_eq_getElem hj)
        have hj2 : j < (List.zipWith E.cells xs bs).flatten.length := by rw [l2, ← l1]; exact hj
        have c2 := World.ownsRow.cells h2 (by rw [hv]; rfl) j _ (List.getElem?_eq_getElem hj2)
        rw [List.getElem?_eq_getElem hj, List.getElem?_eq_getElem hj2]
        rw [c1] at c2; exact c2
      · rw [List.getElem?_eq_none (by omega), List.getElem?_eq_none (by omega)]
  subst eys
  have keep : ∀ (b : Value) (l : Bs), OwnBy base w b l → OwnBy base w2 b l := fun b l hbl =>
    owns_other hbl fun k hk => by
      have hlt : k < w.heap.size := (World.ownsRow.lt hbl k hk).2
      rw [hg.block k (by simp; omega) (fun e => owns_apart hbl h2 (Ne.symm E.tyne) hk e.symm)]
      exact Below.heap_alloc w tmp k hlt
  refine ⟨bs ++ [bv], by simp [h1], ?_, fun i y b hy hb' => ?_, fun y hy => ?_⟩
  · rw [List.zipWith_append (by simp [h1]), List.flatten_append, List.length_append]
    simpa using hown
  · by_cases e : i < xs.length
    · rw [List.getElem?_append_left e] at hy
      rw [List.getElem?_append_left (by omega)] at hb'
      exact keep _ _ (h3 i y b hy hb')
    · rw [List.getElem?_append_right (by omega)] at hy
      rw [List.getElem?_append_right (by omega), h1] at hb'
      have e0 : i - xs.length = 0 := by
        have := (List.getElem?_eq_some_iff.1 hy).1
        simp at this; omega
      rw [e0] at hy hb'
      simp at hy hb'
      subst hy hb'
      exact keep _ _ hb
  · rcases List.mem_append.1 hy with hy | hy
    · exact h4 y hy
    · simp at hy; subst hy; exact ho
end

abbrev IsFls := IsRow flE
abbrev IsOps := IsRow opE
abbrev OwnFls := OwnRow flE
abbrev OwnOps := OwnRow opE
def dskV (d : Dsk) (fv qv : Value) : Value := .agg #[fv, qv, .int .i64 d.quota, .int .i64 d.fuse, .bool d.dead]
def Num (d : Dsk) : Prop := (Lit.int .i64 d.quota).wf = true ∧ (Lit.int .i64 d.fuse).wf = true
/-- A disk of the call's own. -/
def OwnDsk (base : Nat) (w : World) (v : Value) (d : Dsk) : Prop := ∃ fv qv, v = dskV d fv qv ∧ OwnFls base w fv d.files ∧ OwnOps base w qv d.queue ∧ Num d
def IsDsk (S : Nat → Prop) (w : World) (v : Value) (d : Dsk) : Prop := ∃ fv qv, v = dskV d fv qv ∧ IsFls S w fv d.files ∧ IsOps S w qv d.queue ∧ Num d
theorem OwnDsk.is {base : Nat} {w : World} {v : Value} {d : Dsk} (h : OwnDsk base w v d) : IsDsk (fun b => base ≤ b) w v d := by
  obtain ⟨fv, qv, h1, h2, h3, h4⟩ := h
  exact ⟨fv, qv, h1, h2.is, h3.is, h4⟩
theorem IsDsk.dat {A B : World} (h : Kp Dat A B) {S : Nat → Prop} {v : Value} {d : Dsk} (hs : IsDsk S A v d) : IsDsk S B v d := by
  obtain ⟨fv, qv, h1, h2, h3, h4⟩ := hs
  exact ⟨fv, qv, h1, h2.dat h, h3.dat h, h4⟩
theorem IsDsk.gr {A B : World} (h : Gr A B) {S : Nat → Prop} {v : Value} {d : Dsk} (hs : IsDsk S A v d) : IsDsk S B v d := hs.dat (Gr.kp h _)
theorem OwnDsk.dat {A B : World} (h : Kp Dat A B) {base : Nat} {v : Value} {d : Dsk} (hs : OwnDsk base A v d) : OwnDsk base B v d := by
  obtain ⟨fv, qv, h1, h2, h3, h4⟩ := hs
  exact ⟨fv, qv, h1, h2.dat h, h3.dat h, h4⟩
theorem OwnDsk.gr {A B : World} (h : Gr A B) {base : Nat} {v : Value} {d : Dsk} (hs : OwnDsk base A v d) : OwnDsk base B v d := hs.dat (Gr.kp h _)
theorem OwnDsk.base {w : World} {base base' : Nat} {v : Value} {d : Dsk} (hb : base' ≤ base) (h : OwnDsk base w v d) : OwnDsk base' w v d := by
  obtain ⟨fv, qv, h1, h2, h3, h4⟩ := h
  exact ⟨fv, qv, h1, h2.down hb, h3.down hb, h4⟩
end Go.Proofs.Ytbgcjbpkgijmeaa
