/-
  A law for a range over an iterator whose elements lie in memory, a law for a scope that is jumped back in, and what worlds keep.
  Conditions: none beyond those typed at each theorem. No program in sight.
-/
import Derived.RangeFuncNested
import Derived.RangeFuncBound
import Derived.RangeFuncCalls
import Derived.RangeFuncLeaves
import Derived.Scope
import Derived.WalkSmall
import Derived.ScopeJumps
namespace Go.Proofs.Ytbgcjbpkgijmeaa
open Go Go.RowKit

/-- Nothing that lay in w has turned. -/
def Gr (w w' : World) : Prop := Below w.heap.size w w'

theorem Gr.below {w w' : World} (h : Gr w w') : Below w.heap.size w w' := h
theorem Gr.of {w w' : World} (h : Below w.heap.size w w') : Gr w w' := h
theorem Gr.size {w w' : World} (h : Gr w w') : w.heap.size ≤ w'.heap.size := Below.size h
theorem Gr.refl (w : World) : Gr w w := Below.refl _ _
theorem Gr.trans {a b c : World} (h : Gr a b) (k : Gr b c) : Gr a c := Below.trans h (Below.mono k h.size)
theorem Gr.alloc {a w : World} (h : Gr a w) (o : Obj) : Gr a (w.alloc o) := Below.alloc h h.size o
theorem Gr.drew {a w : World} (h : Gr a w) : Gr a w.drew := Below.drew h
theorem Gr.drewN {a w : World} (h : Gr a w) (n : Nat) : Gr a (w.drewN n) := Below.trans h ⟨rfl, rfl, rfl, Nat.le_refl _, fun _ _ => rfl⟩
theorem Gr.same {a b : World} (h : Gr a b) {k : Nat} {o : Obj} (ho : a.heap[k]? = some o) : b.heap[k]? = some o :=
  (Below.block h k (Array.getElem?_eq_some_iff.1 ho).1).trans ho
/-- .. a store into a block that did not lie there. -/
theorem Gr.set {a w : World} (h : Gr a w) {p : Addr} (hp : a.heap.size ≤ p.block) (u : Value) : Gr a (w.setCell p u) := Below.setCell h hp u

/-- The objects that N names lie as they lay; nothing has gone. -/
structure Kp (N : Nat → Obj → Prop) (A B : World) : Prop where
  os : B.os = A.os
  tape : B.tape = A.tape
  output : B.output = A.output
  size : A.heap.size ≤ B.heap.size
  keep : ∀ b o, A.heap[b]? = some o → N b o → B.heap[b]? = some o

/-- cells and maps -/
def isData : Obj → Bool
  | .cells .. => true
  | .map .. => true
  | _ => false
/-- a loop's record, the block for deferred calls -/
def isRec : Obj → Bool
  | .loop _ => true
  | .deferred _ => true
  | _ => false

abbrev Dat : Nat → Obj → Prop := fun _ o => isData o = true
abbrev Rcd : Nat → Obj → Prop := fun _ o => isRec o = true

section
variable {N M : Nat → Obj → Prop} {A B C : World}
theorem Kp.refl (N : Nat → Obj → Prop) (A : World) : Kp N A A := ⟨rfl, rfl, rfl, Nat.le_refl _, fun _ _ h _ => h⟩
theorem Kp.trans (h : Kp N A B) (k : Kp N B C) : Kp N A C :=
  ⟨k.os.trans h.os, k.tape.trans h.tape, k.output.trans h.output, Nat.le_trans h.size k.size, fun b o hb hn => k.keep b o (h.keep b o hb hn) hn⟩
theorem Kp.mono (h : Kp N A B) (hm : ∀ b o, M b o → N b o) : Kp M A B :=
  ⟨h.os, h.tape, h.output, h.size, fun b o hb hn => h.keep b o hb (hm b o hn)⟩
theorem Gr.kp (h : Gr A B) (N : Nat → Obj → Prop) : Kp N A B :=
  ⟨h.os, h.tape, h.output, h.size, fun _ _ hb _ => Gr.same h hb⟩
theorem Kp.alloc (h : Kp N A B) (o : Obj) : Kp N A (B.alloc o) := h.trans (Gr.kp (Gr.alloc (Gr.refl B) o) N)
theorem Kp.drew (h : Kp N A B) : Kp N A B.drew := h.trans (Gr.kp (Gr.drew (Gr.refl B)) N)
theorem Kp.putObj (h : Kp N A B) {l : Nat} {o : Obj} (o' : Obj) (hl : B.heap[l]? = some o) (hn : ¬ N l o) : Kp N A (B.putObj l o') :=
  h.trans ⟨rfl, rfl, rfl, by simp, fun b o'' hb hN => by
    by_cases e : b = l
    · subst e; rw [hl] at hb; cases hb; exact absurd hN hn
    · exact (World.putObj_heap_other e).trans hb⟩
theorem Kp.setCell (h : Kp N A B) (a : Addr) (v : Value) (hn : ∀ o, B.heap[a.block]? = some o → ¬ N a.block o) : Kp N A (B.setCell a v) :=
  h.trans ⟨rfl, rfl, rfl, by simp [World.setCell], fun b o hb hN => by
    by_cases e : b = a.block
    · subst e; exact absurd hN (hn o hb)
    · exact (Below.heap_setCell B a v b e).trans hb⟩
theorem Kp.grown (h : Kp N A B) {row : Option Nat} (hg : B.grownBy C row) (hn : ∀ k o, row = some k → B.heap[k]? = some o → ¬ N k o) : Kp N A C :=
  h.trans ⟨hg.os, hg.tape, hg.output, hg.size, fun b o hb hN =>
    (hg.block b (Array.getElem?_eq_some_iff.1 hb).1 (fun e => hn b o e.symm hb hN)).trans hb⟩
end

/-- What speaks of cells and maps alone, and of whatever lies below s. -/
abbrev OfData (s : Nat) (I : World → Prop) : Prop := ∀ A B, I A → Kp (fun b o => isData o = true ∨ b < s) A B → I B

theorem OfData.gr {s : Nat} {I : World → Prop} (h : OfData s I) : ∀ A B, I A → Gr A B → I B := fun A B hi hg => h A B hi (Gr.kp hg _)
theorem OfData.put {s : Nat} {I : World → Prop} (h : OfData s I) {W : World} {l : Nat} {o : Obj} (o' : Obj) (hi : I W) (hl : W.heap[l]? = some o) (ho : isData o = false) (hs : s ≤ l) : I (W.putObj l o') :=
  h _ _ hi ((Kp.refl _ _).putObj o' hl (by simp [ho]; omega))
theorem Kp.data {s : Nat} {A B : World} (h : Kp (fun b o => isData o = true ∨ b < s) A B) : Kp Dat A B := h.mono fun _ _ h => .inl h
theorem Kp.below {s n : Nat} {w A B : World} (h : Kp (fun b o => isData o = true ∨ b < s) A B) (hn : n ≤ s) (hw : n ≤ w.heap.size) (hb : Below n w A) : Below n w B :=
  ⟨h.os.trans hb.os, h.tape.trans hb.tape, h.output.trans hb.output, Nat.le_trans hb.size h.size, fun k hk => by
    have h1 := hb.block k hk
    have hlt : k < w.heap.size := by omega
    rw [Array.getElem?_eq_getElem hlt] at h1 ⊢
    exact h.keep _ _ h1 (.inr (by omega))⟩

/-- AN ITERATOR's WORD: the value '.func (.func gf) #[] lb', made in w: it hands N elements to yield, one behind the other, the k-th so that Y says of it; what Nd names must lie, behind a round, as it lay. -/
def Iter (P : Program) (gf : Nat) (lb : Array Value) (N : Nat) (Y : Nat → Array Value → World → Prop) (Nd : Nat → Obj → Prop) (w : World) : Prop :=
  ∀ (l : Nat) (J : Nat → World → Prop) (Jx : World → Prop) (W : World), Gr w W →
    (∀ k A B, J k A → Gr A B → J k B) → (∀ A B, Jx A → Gr A B → Jx B) →
    (∀ k args A, k < N → J k A → Y k args A → YieldAt Fence.wide 0 P l args A fun e B =>
      (e = .returned (.bool true) ∧ J (k + 1) B ∧ Kp Nd A B) ∨ (e = .returned (.bool false) ∧ Jx B)) →
    J 0 W →
    CallsIn Fence.wide 0 P gf (#[.func (.yield l) #[] #[]] ++ lb) W fun e W' => (∃ v, e = .returned v) ∧ (J N W' ∨ Jx W')

/-- What a body must achieve: it goes on: J; or it leaves by a jump: Jx. -/
def roundEnd (J : World → Prop) (Jx : Code → World → Prop) (Nd : Nat → Obj → Prop) (A : World) : Exit → Act → World → Prop
  | .normal, _, B => J B ∧ Kp Nd A B ∧ Kp Rcd A B
  | .ret, _, B => Jx .ret B ∧ Kp Rcd A B
  | .exit id, _, B => Jx (.exit id) B ∧ Kp Rcd A B
  | .goto t, _, B => Jx (.goto t) B ∧ Kp Rcd A B
  | .panic _, _, _ => False
  | .outgrown, _, _ => False

theorem wide_depth (n : Nat) : (Fence.wide.depth.isSome = true → 1 ≤ n) := fun h => by simp [Fence.wide] at h

theorem range_iter {P : Program} {g : Operand} {ps : Array Tmp} {assign body : Code} {Q : Exit → Act → World → Prop} {a : Act} {w : World} {gf : Nat} {lb : Array Value}
    (hg : a.eval g = .func (.func gf) #[] lb) (eg : ∀ args w, (callFunc gf args).run P w = .ok (.enter gf args) w)
    {N : Nat} {Y : Nat → Array Value → World → Prop} {Nd : Nat → Obj → Prop} {w0 : World} (hit : Iter P gf lb N Y Nd w0) (hw0 : Gr w0 w)
    (hNd : ∀ b o, Nd b o → isRec o = false)
    (hps : ∀ k args A, Y k args A → args.size = ps.size)
    (I : Nat → World → Prop) (Ix : Code → World → Prop) (hI : ∀ k, OfData w.heap.size (I k)) (hIx : ∀ c, OfData w.heap.size (Ix c)) (h0 : I 0 w)
    (hround : ∀ (l : Nat) (k : Nat) (args : Array Value) (A : World), k < N → I k A → Y k args A →
      assign.wpIn (Fence.wide.inRound l) 0 P (Exit.then (fun a₁ A₁ => ∃ Z : World → Prop, OfData w.heap.size Z ∧ Z A₁ ∧ Kp Nd A A₁ ∧ Kp Rcd A A₁ ∧
          (∀ A₂, Z A₂ → Kp Nd A A₂ → body.wpIn (Fence.wide.inRound l) 0 P (roundEnd (I (k + 1)) Ix Nd A₂) a₁ A₂)) (fun _ _ _ => False))
        { tmps := (ps.zip args).foldl (fun t (p, v) => t.setIfInBounds p v) a.tmps, defers := [] } A)
    (hdone : ∀ (D : Nat) (W : World), w.heap.size ≤ D → I N W → W.heap[D]? = some (.deferred (some [])) → Q .normal { a with defers := { target := .collected D, args := #[] } :: a.defers } W)
    (hstop : ∀ (D : Nat) (c : Code) (W : World), w.heap.size ≤ D → Ix c W → W.heap[D]? = some (.deferred (some [])) → c.wpIn Fence.wide 0 P Q { a with defers := { target := .collected D, args := #[] } :: a.defers } W) :
    (Code.rangeFunc g ps assign body).wpIn Fence.wide 0 P Q a w := by
  refine wpIn_rangeFunc ?_
  intro fn hfn
  obtain ⟨rec, hrec⟩ : ∃ rec : LoopState → Option Code → Loop, rec = fun st pe => { state := st, pending := pe, fn, tmps := a.tmps, params := ps, assign, body, defers := w.heap.size } := ⟨_, rfl⟩
  obtain ⟨W1, hW1⟩ : ∃ W1, (w.alloc (.deferred (some []))).alloc (.loop (rec .ready none)) = W1 := ⟨_, rfl⟩
  have hL1 : W1.heap[w.heap.size + 1]? = some (.loop (rec .ready none)) := by
    rw [← hW1]; have := World.alloc_heap_new (w.alloc (.deferred (some []))) (.loop (rec .ready none)); rwa [World.size_alloc] at this
  have hK1 : W1.heap[w.heap.size]? = some (.deferred (some [])) := by
    rw [← hW1]; exact (Below.heap_alloc _ _ _ (by simp)).trans (World.alloc_heap_new w _)
  have hgr1 : Gr w W1 := by rw [← hW1]; exact Gr.alloc (Gr.alloc (Gr.refl w) _) _
  have hI1 : I 0 W1 := (hI 0).gr _ _ h0 hgr1
  have hb1 : Gr w0 W1 := Gr.trans hw0 hgr1
  refine ⟨w.heap.size + 1, [{ target := .collected w.heap.size, args := #[] }], W1, { target := .fn (.func gf) lb, args := #[.func (.yield (w.heap.size + 1)) #[] #[]] }, W1, gf,
    #[.func (.yield (w.heap.size + 1)) #[] #[]] ++ lb, W1, ?_, ?_, fun _ _ => trivial, ?_, wide_depth 0, ?_⟩
  · rw [← hW1, hrec]; exact run_enterLoop_outer _ _ _ _ _
  · simp only [resolve, hg]
    simp [go_sem]
  · simp [invoke, go_sem, eg]
  · refine (hit (w.heap.size + 1)
      (fun k W => I k W ∧ W.heap[w.heap.size + 1]? = some (.loop (rec .ready none)) ∧ W.heap[w.heap.size]? = some (.deferred (some [])))
      (fun W => ∃ c, Ix c W ∧ W.heap[w.heap.size + 1]? = some (.loop (rec .done (some c))) ∧ W.heap[w.heap.size]? = some (.deferred (some [])))
      W1 hb1
      (fun k A B hs hg' => ⟨(hI k).gr _ _ hs.1 hg', hg'.same hs.2.1, hg'.same hs.2.2⟩)
      (fun A B hs hg' => by
        obtain ⟨c, hc, hl, hk⟩ := hs
        exact ⟨c, (hIx c).gr _ _ hc hg', hg'.same hl, hg'.same hk⟩)
      ?_ ⟨hI1, hL1, hK1⟩).mono ?_
    · rintro k args A hkN ⟨hi, hl, hk⟩ hy
      have hlt : w.heap.size + 1 < A.heap.size := (Array.getElem?_eq_some_iff.1 hl).1
      have hrun := run_yield (P := P) (args := args) hl (by rw [hrec]; exact hps k args A hy)
      rw [hrec] at hrun
      refine ⟨fn, _, assign, body, hrun, roundIn_of_wpIn hfn (wpIn_mono (hround _ k args A hkN hi hy) ?_)⟩
      intro e a₁ A₁ hq
      cases e with
      | normal =>
        obtain ⟨Z, hZ, hz, hkn, hkr, hbody⟩ := hq
        have hl1 := hkr.keep _ _ hl rfl
        have hd1 := hkr.keep _ _ hk rfl
        have hlt1 : w.heap.size + 1 < A₁.heap.size := (Array.getElem?_eq_some_iff.1 hl1).1
        refine ⟨_, run_beginRound hl1 (by rw [hrec]), ?_⟩
        have hl2 : (A₁.putObj (w.heap.size + 1) (.loop { rec .ready none with state := .busy })).heap[w.heap.size + 1]? = some (.loop { rec .ready none with state := .busy }) := World.putObj_heap_same hlt1
        have hk2 : (A₁.putObj (w.heap.size + 1) (.loop { rec .ready none with state := .busy })).heap[w.heap.size]? = some (.deferred (some [])) := (World.putObj_heap_other (by omega)).trans hd1
        have hnr : ∀ (r : Loop), ¬ Nd (w.heap.size + 1) (.loop r) := fun r h => by have := hNd _ _ h; simp [isRec] at this
        have hkn2 : Kp Nd A (A₁.putObj (w.heap.size + 1) (.loop { rec .ready none with state := .busy })) := hkn.putObj _ hl1 (hnr _)
        refine wpIn_mono (hbody _ (hZ.put _ hz hl1 rfl (by omega)) hkn2) ?_
        have fin : ∀ (jump : Option Code) (W3 : World), Kp Rcd (A₁.putObj (w.heap.size + 1) (.loop { rec .ready none with state := .busy })) W3 →
            (Instr.endRound (w.heap.size + 1) jump).run P W3 = .ok (.bool jump.isNone) (W3.putObj (w.heap.size + 1) (.loop (rec (if jump.isNone then .ready else .done) jump))) ∧
            W3.heap[w.heap.size + 1]? = some (.loop { rec .ready none with state := .busy }) ∧
            (W3.putObj (w.heap.size + 1) (.loop (rec (if jump.isNone then .ready else .done) jump))).heap[w.heap.size + 1]? = some (.loop (rec (if jump.isNone then .ready else .done) jump)) ∧
            (W3.putObj (w.heap.size + 1) (.loop (rec (if jump.isNone then .ready else .done) jump))).heap[w.heap.size]? = some (.deferred (some [])) := fun jump W3 hk3 => by
          have hl3 := hk3.keep _ _ hl2 rfl
          have := run_endRound (P := P) jump hl3
          rw [hrec] at this ⊢
          exact ⟨this, by rw [hrec] at hl3; exact hl3, World.putObj_heap_same (Array.getElem?_eq_some_iff.1 hl3).1, (World.putObj_heap_other (by omega)).trans (hk3.keep _ _ hk2 rfl)⟩
        rintro e3 a3 W3 hp
        cases e3 with
        | normal =>
          obtain ⟨hi3, hkn3, hkr3⟩ := hp
          obtain ⟨hr, hl3, hl4, hk4⟩ := fin none W3 hkr3
          exact ⟨_, _, hr, .inl ⟨rfl, ⟨(hI (k + 1)).put _ hi3 hl3 rfl (by omega), hl4, hk4⟩, (hkn2.trans hkn3).putObj _ hl3 (hnr _)⟩⟩
        | ret =>
          obtain ⟨hi3, hkr3⟩ := hp
          obtain ⟨hr, hl3, hl4, hk4⟩ := fin (some .ret) W3 hkr3
          exact ⟨_, _, hr, .inr ⟨rfl, .ret, (hIx _).put _ hi3 hl3 rfl (by omega), hl4, hk4⟩⟩
        | exit id =>
          obtain ⟨hi3, hkr3⟩ := hp
          obtain ⟨hr, hl3, hl4, hk4⟩ := fin (some (.exit id)) W3 hkr3
          exact ⟨_, _, hr, .inr ⟨rfl, .exit id, (hIx _).put _ hi3 hl3 rfl (by omega), hl4, hk4⟩⟩
        | goto t =>
          obtain ⟨hi3, hkr3⟩ := hp
          obtain ⟨hr, hl3, hl4, hk4⟩ := fin (some (.goto t)) W3 hkr3
          exact ⟨_, _, hr, .inr ⟨rfl, .goto t, (hIx _).put _ hi3 hl3 rfl (by omega), hl4, hk4⟩⟩
        | panic ch => exact hp.elim
        | outgrown => exact hp.elim
      | exit id => exact hq.elim
      | goto l => exact hq.elim
      | ret => exact hq.elim
      | panic ch => exact hq.elim
      | outgrown => exact hq.elim
    · rintro e W' ⟨⟨v, rfl⟩, ⟨hi, hl, hk⟩ | ⟨c, hi, hl, hk⟩⟩
      · exact ⟨none, _, by have := run_endLoop (P := P) hl (by rw [hrec]; simp); rw [hrec] at this; exact this, hdone _ _ (Nat.le_refl _) ((hI N).put _ hi hl rfl (by omega)) ((World.putObj_heap_other (by omega)).trans hk)⟩
      · exact ⟨some c, _, by have := run_endLoop (P := P) hl (by rw [hrec]; simp); rw [hrec] at this; exact this, hstop _ c _ (Nat.le_refl _) ((hIx c).put _ hi hl rfl (by omega)) ((World.putObj_heap_other (by omega)).trans hk)⟩

/-! ### A scope that is jumped back in, within a fence -/
section
variable {F : Fence} {n : Nat} {P : Program} {b : Frame} {a : Act} {k : List Item} {cs : List Frame} {w : World}
theorem stepR_scope' {c : Code} : step P (lone (b.atR a (.code (.scope c) :: k)) cs w) = .next (lone (b.atR a (.code c :: .inScope c :: k)) cs w) :=
  step_lone_go (by simp [stepG, stepG.exec, Frame.atR])
theorem stepR_inScope' {c : Code} : step P (lone (b.atR a (.inScope c :: k)) cs w) = .next (lone (b.atR a k) cs w) :=
  step_lone_go (by simp [stepG, stepG.exec, Frame.atR])

theorem wpIn_scope_jumps {Q : Exit → Act → World → Prop} {c rest : Code} (l : Nat) (J : Act → World → Prop) (μ : Act → World → Nat) (hf : findLabel c l = some rest) (hro : F.round = none)
    (first : c.wpIn F n P (Exit.jump l J Q) a w)
    (pass : ∀ a w, J a w → rest.wpIn F n P (Exit.jump l (fun a' w' => J a' w' ∧ μ a' w' < μ a w) Q) a w) : (Code.scope c).wpIn F n P Q a w := by
  intro b k cs hb hfn hr
  have hbn : b.roundOf = none := hb.trans hro
  have hg : gotoIn l (.inScope c :: k) = some (.code rest :: .inScope c :: k) := by simp [gotoIn, hf]
  have h0 : (lone (b.atR a (.code (.scope c) :: k)) cs w).fenced P F := fenced_calm hfn hr rfl
  have hex : ∀ id, exitTo id (.inScope c :: k) = exitTo id k := fun id => by simp [exitTo]
  have fin : ∀ a₁ w₁, StepsIn (Machine.fenced P F) P (lone (b.atR a₁ (.inScope c :: k)) cs w₁) (lone (b.atR a₁ k) cs w₁) :=
    fun a₁ w₁ => .one (fenced_calm hfn hr rfl) stepR_inScope'
  have key : ∀ m a w, μ a w = m → J a w → ∃ e a' w', Q e a' w' ∧ ArrivesIn (Machine.fenced P F) P (lone (b.atR a (.code rest :: .inScope c :: k)) cs w) b k cs e a' w' := by
    intro m
    induction m using Nat.strongRecOn with
    | _ m ih =>
      intro a w hn hJ
      obtain ⟨e, a₁, w₁, hq, harr⟩ := pass a w hJ b (.inScope c :: k) cs hb hfn hr
      cases e with
      | normal => exact ⟨.normal, a₁, w₁, hq, StepsIn.trans harr (fin _ _)⟩
      | exit id => exact ⟨.exit id, a₁, w₁, hq, fun k' hk => harr.1 k' (by rw [hex]; exact hk), fun hro' => by rw [hbn] at hro'; cases hro'⟩
      | goto l' =>
        obtain ⟨rfl, hJ', hlt⟩ := hq
        obtain ⟨e₂, a₂, w₂, hq₂, harr₂⟩ := ih _ (by omega) a₁ w₁ rfl hJ'
        exact ⟨e₂, a₂, w₂, hq₂, .of_steps (harr.1 _ hg) harr₂⟩
      | ret => exact ⟨_, a₁, w₁, hq, harr⟩
      | panic ch => exact ⟨_, a₁, w₁, hq, harr⟩
      | outgrown => exact ⟨_, a₁, w₁, hq, harr⟩
  obtain ⟨e, a₁, w₁, hq, harr⟩ := first b (.inScope c :: k) cs hb hfn hr
  cases e with
  | normal => exact ⟨.normal, a₁, w₁, hq, .head h0 stepR_scope' (StepsIn.trans harr (fin _ _))⟩
  | exit id => exact ⟨.exit id, a₁, w₁, hq, fun k' hk => .head h0 stepR_scope' (harr.1 k' (by rw [hex]; exact hk)), fun hro' => by rw [hbn] at hro'; cases hro'⟩
  | goto l' =>
    obtain ⟨rfl, hJ'⟩ := hq
    obtain ⟨e₂, a₂, w₂, hq₂, harr₂⟩ := key _ a₁ w₁ rfl hJ'
    exact ⟨e₂, a₂, w₂, hq₂, .of_steps (.head h0 stepR_scope' (harr.1 _ hg)) harr₂⟩
  | ret => exact ⟨_, a₁, w₁, hq, .of_steps (.one h0 stepR_scope') harr⟩
  | panic ch => exact ⟨_, a₁, w₁, hq, .of_steps (.one h0 stepR_scope') harr⟩
  | outgrown => exact ⟨_, a₁, w₁, hq, .of_steps (.one h0 stepR_scope') harr⟩
end
end Go.Proofs.Ytbgcjbpkgijmeaa
