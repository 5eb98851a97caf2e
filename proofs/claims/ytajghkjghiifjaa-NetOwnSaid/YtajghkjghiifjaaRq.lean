/-
  Messages collected one behind the other, in memory of the call's own.
  Conditions: none beyond those typed at each theorem.
-/
import Derived.Test.YtajghkjghiifjaaWj
import Derived.Maps.OwnIn
namespace Go.Proofs.Ytajghkjghiifjaa
open Go Go.RowKit

theorem owns_elem {w : World} {base : Nat} {e : TypeId} {size : Nat} {v : Value} {n : Nat} {xs : List Value} (h : w.ownsRow base e size v n xs) {k : Nat} (hk : v.ownBlock = some k) : base ≤ k ∧ ∃ cur, w.heap[k]? = some (.cells cur e (0, 0)) := by
  rcases h.2 with ⟨rfl, _⟩ | ⟨g, cap, cur, rfl, hb, hh, _⟩
  · simp [Value.ownBlock] at hk
  · simp only [Value.ownBlock, Option.some.injEq] at hk
    subst hk
    exact ⟨hb, cur, hh⟩
theorem owns_apart {w : World} {b1 b2 : Nat} {e1 e2 : TypeId} {s1 s2 : Nat} {v1 v2 : Value} {n1 n2 : Nat} {x1 x2 : List Value} (h1 : w.ownsRow b1 e1 s1 v1 n1 x1) (h2 : w.ownsRow b2 e2 s2 v2 n2 x2) (he : e1 ≠ e2) {k : Nat} (hk : v1.ownBlock = some k) : v2.ownBlock ≠ some k := by
  intro hk2
  obtain ⟨_, c1, hc1⟩ := owns_elem h1 hk
  obtain ⟨_, c2, hc2⟩ := owns_elem h2 hk2
  rw [hc1] at hc2
  simp at hc2
  exact he hc2.2

/-- The first j of xs have been collected: the row v, each one's entries. -/
structure OwnUp (base : Nat) (w : World) (v : Value) (xs : List Msg) (j : Nat) (evs : List Value) : Prop where
  le : j ≤ xs.length
  len : evs.length = j
  row : w.ownsRow base 31 15 v j (List.zipWith msgCells (xs.take j) evs).flatten
  ents : ∀ (i : Nat) (m : Msg) (ev : Value), i < j → xs[i]? = some m → evs[i]? = some ev → OwnEnts base w ev m.ents

section
variable {base : Nat} {w w' : World} {v : Value} {xs : List Msg} {j : Nat} {evs : List Value}
theorem OwnUp.start (base : Nat) (w : World) (xs : List Msg) : OwnUp base w (.slice none 0 0) xs 0 [] :=
  ⟨Nat.zero_le _, rfl, World.ownsRow_nil _ _ _ _, fun i m ev hi => by omega⟩
theorem OwnUp.dat (h : OwnUp base w v xs j evs) (hk : Kp Dat w w') : OwnUp base w' v xs j evs :=
  ⟨h.le, h.len, ownsRow_dat hk h.row, fun i m ev hi hm he => (h.ents i m ev hi hm he).dat hk⟩
theorem OwnUp.gr (h : OwnUp base w v xs j evs) (hg : Gr w w') : OwnUp base w' v xs j evs := h.dat (Gr.kp hg _)
theorem OwnUp.flat (h : OwnUp base w v xs j evs) : (List.zipWith msgCells (xs.take j) evs).flatten.length = j * 15 := h.row.1
theorem OwnUp.push (h : OwnUp base w v xs j evs) {x : Msg} (hx : xs[j]? = some x) {fv : Value} (he : OwnEnts base w fv x.ents) {tmp : Obj} {w2 : World} {v' : Value}
    (hown : w2.ownsRow base 31 15 v' (j + 1) ((List.zipWith msgCells (xs.take j) evs).flatten ++ msgCells x fv)) (hg : (w.alloc tmp).grownBy w2 v.ownBlock) :
    OwnUp base w2 v' xs (j + 1) (evs ++ [fv]) := by
  have hlt : j < xs.length := (List.getElem?_eq_some_iff.1 hx).1
  have keep : ∀ (ev : Value) (es : List Ent), OwnEnts base w ev es → OwnEnts base w2 ev es := fun ev es hev =>
    owns_other hev fun k hk => by
      have hlt : k < w.heap.size := (World.ownsRow.lt hev k hk).2
      rw [hg.block k (by simp; omega) (fun e => owns_apart hev h.row (by decide) hk e.symm)]
      exact Below.heap_alloc w tmp k hlt
  refine ⟨hlt, by simp [h.len], ?_, ?_⟩
  · have : List.zipWith msgCells (xs.take (j + 1)) (evs ++ [fv]) = List.zipWith msgCells (xs.take j) evs ++ [msgCells x fv] := by
      rw [List.take_add_one, hx]
      rw [List.zipWith_append (by simp [h.len]; omega)]
      rfl
    rw [this, List.flatten_append]
    simpa using hown
  · intro i m ev hi hm hev
    by_cases e : i = j
    · subst e
      rw [hx] at hm; cases hm
      rw [List.getElem?_append_right (by rw [h.len]; omega), h.len] at hev
      simp at hev; subst hev
      exact keep _ _ he
    · rw [List.getElem?_append_left (by rw [h.len]; omega)] at hev
      exact keep _ _ (h.ents i m ev (by omega) hm hev)
theorem OwnUp.done (h : OwnUp base w v xs j evs) (hj : xs.length ≤ j) : OwnMsgs base w v xs := by
  have e : j = xs.length := Nat.le_antisymm h.le hj
  subst e
  refine ⟨evs, h.len, ?_, fun i m ev hm he => h.ents i m ev ((List.getElem?_eq_some_iff.1 hm).1) hm he⟩
  have := h.row
  rwa [List.take_length] at this
theorem OwnUp.slice (h : OwnUp base w v xs j evs) : ∃ a c, v = .slice a j c := owns_slice h.row
end

theorem OwnMsgs.keep {base : Nat} {w w' : World} {v : Value} {ms : List Msg} (h : OwnMsgs base w v ms) (hk : ∀ k, base ≤ k → k < w.heap.size → w'.heap[k]? = w.heap[k]?) : OwnMsgs base w' v ms := by
  obtain ⟨evs, h1, h2, h3⟩ := h
  exact ⟨evs, h1, owns_other h2 fun k e => hk k (World.ownsRow.lt h2 k e).1 (World.ownsRow.lt h2 k e).2, fun i m ev hm he => owns_other (h3 i m ev hm he) fun k e => hk k (World.ownsRow.lt (h3 i m ev hm he) k e).1 (World.ownsRow.lt (h3 i m ev hm he) k e).2⟩

/-- A scope whose one label stands behind a first part: J holds at the label, whenever. -/
theorem wpIn_scope_label {F : Fence} {n : Nat} {P : Program} {a : Act} {w : World} {Q : Exit → Act → World → Prop} {pre X : Code} (l : Nat) (J : Act → World → Prop) (μ : Act → World → Nat) (hf : findLabel pre l = none) (hro : F.round = none)
    (first : pre.wpIn F n P (Exit.then J (Exit.jump l J Q)) a w)
    (pass : ∀ a w, J a w → X.wpIn F n P (Exit.jump l (fun a' w' => J a' w' ∧ μ a' w' < μ a w) Q) a w) : (Code.scope (.seq pre (.seq (.label l) X))).wpIn F n P Q a w := by
  have weak : ∀ a w, J a w → X.wpIn F n P (Exit.jump l J Q) a w := fun a w h => wpIn_mono (pass a w h) fun e a' w' hq => by
    cases e <;> first | exact hq | exact ⟨hq.1, hq.2.1⟩
  refine wpIn_scope_jumps (rest := .seq .skip X) l J μ (by simp [findLabel, hf]) hro ?_ ?_
  · refine wpIn_seq (wpIn_mono first fun e a' w' hq => ?_)
    cases e with
    | normal => exact wpIn_seq (wpIn_label (weak a' w' hq))
    | _ => exact hq
  · intro a' w' hJ
    exact wpIn_seq (wpIn_skip (pass a' w' hJ))

/-- buildSlice of one message -/
def opRow1 (P : Program) (v : Value) (w : World) : Result Next := Sem.run P (do pure (Next.value (← Instr.buildSlice 24 1 #[(0, v)]))) w
theorem opRow1_eq (ρ : Operand → Value) (dst : Option Tmp) (x : Operand) (ty : TypeId) (pos : String) (af : Array Edge) (gd : Option (Nat × Bool)) (w : World) :
    (execOp ρ ⟨dst, .buildSlice 24 1 #[(0, x)], ty, pos, af, gd⟩).run Try.prog w = opRow1 Try.prog (ρ x) w := by simp [execOp, opRow1]
theorem opRow1_msg (m : Msg) (ev : Value) (w : World) : opRow1 Try.prog (.agg (msgCells m ev).toArray) w = .ok (.value (.slice (some ⟨w.heap.size, 0, none⟩) 1 1)) (w.alloc (.cells (msgCells m ev).toArray 31)) := by
  unfold opRow1 msgCells
  simp [go_sem, Instr.buildSlice]
theorem opLoad31_in (r : Option Nat) (ρ : Operand → Value) (dst : Option Tmp) (x : Operand) (ty : TypeId) (pos : String) (af : Array Edge) (gd : Option (Nat × Bool)) (w : World) :
    (Oper.semAt r ρ ⟨dst, .load 31 x, ty, pos, af, gd⟩).run Try.prog w = opLoad Try.prog 31 (ρ x) w := by
  rw [← opLoad31_eq ρ dst x ty pos af gd w]; cases r <;> rfl
theorem opStore31_in (r : Option Nat) (ρ : Operand → Value) (dst : Option Tmp) (x y : Operand) (ty : TypeId) (pos : String) (af : Array Edge) (gd : Option (Nat × Bool)) (w : World) :
    (Oper.semAt r ρ ⟨dst, .store 31 x y, ty, pos, af, gd⟩).run Try.prog w = opStore Try.prog 31 (ρ x) (ρ y) w := by
  rw [← opStore31_eq ρ dst x y ty pos af gd w]; cases r <;> rfl
theorem opRow1_in (r : Option Nat) (ρ : Operand → Value) (dst : Option Tmp) (x : Operand) (ty : TypeId) (pos : String) (af : Array Edge) (gd : Option (Nat × Bool)) (w : World) :
    (Oper.semAt r ρ ⟨dst, .buildSlice 24 1 #[(0, x)], ty, pos, af, gd⟩).run Try.prog w = opRow1 Try.prog (ρ x) w := by
  rw [← opRow1_eq ρ dst x ty pos af gd w]; cases r <;> rfl
attribute [irreducible] opRow1
end Go.Proofs.Ytajghkjghiifjaa
