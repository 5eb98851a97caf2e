/-
  Whole rows read and written by one step of the walk; a message's cells by name.
  Conditions: none beyond those typed at each theorem.
-/
import Derived.Test.YtajghkjghiifjaaWg
import Derived.StillTailTactics
namespace Go.Proofs.Ytajghkjghiifjaa
open Go Go.RowKit

/-- The n cells from place o of block b on. -/
def rowAt (w : World) (b o n : Nat) : Option (Array Value) :=
  match w.heap[b]? with
  | some (.cells c _ _) => if o + n ≤ c.size then some (c.extract o (o + n)) else none
  | _ => none
/-- How many cells block b has, if none is frozen. -/
def wholeAt (w : World) (b : Nat) : Option Nat :=
  match w.heap[b]? with
  | some (.cells c _ f) => if f = (0, 0) then some c.size else none
  | _ => none
def oneCells (cs : Array Value) : Bool := cs.all (·.oneCell')

theorem rowAt_range {w : World} {b o n : Nat} {cs : Array Value} (h : rowAt w b o n = some cs) : w.rangeAt b o cs.toList ∧ cs.toList.length = n := by
  unfold rowAt at h
  split at h
  · rename_i c t f hb
    split at h
    · rename_i hle
      simp only [Option.some.injEq] at h
      subst h
      refine ⟨World.rangeAt_of_block hb o n, ?_⟩
      simp; omega
    · cases h
  · cases h
theorem rowAt_of_range {w : World} {b o : Nat} {cs : List Value} (h : w.rangeAt b o cs) (h0 : 0 < cs.length) : rowAt w b o cs.length = some cs.toArray := by
  have h1 := h (cs.length - 1) (cs[cs.length - 1]'(by omega)) (List.getElem?_eq_getElem _)
  unfold World.cell? at h1
  unfold rowAt
  split at h1
  · rename_i c t f hb
    rw [hb]
    have hlt : o + (cs.length - 1) < c.size := by
      rcases Nat.lt_or_ge (o + (cs.length - 1)) c.size with h' | h'
      · exact h'
      · simp [Array.getElem?_eq_none h'] at h1
    simp only
    rw [if_pos (by omega)]
    congr 1
    apply Array.ext
    · simp; omega
    · intro i hi1 hi2
      simp at hi1 hi2
      have := h i (cs[i]'(by omega)) (List.getElem?_eq_getElem _)
      unfold World.cell? at this
      rw [hb] at this
      simp at this
      simp
      rw [Array.getElem?_eq_getElem (by omega)] at this
      exact Option.some.inj this
  · cases h1
theorem rowAt_alloc_at {w : World} (c : Array Value) (t : TypeId) (n k : Nat) (hn : n = w.heap.size) (hk : c.size = k) : rowAt (w.alloc (.cells c t)) n 0 k = some c := by
  subst hn
  have hb : (w.alloc (.cells c t)).heap[w.heap.size]? = some (.cells c t (0, 0)) := World.alloc_heap_new w _
  unfold rowAt; rw [hb]; simp [hk.symm]
theorem rowAt_alloc_past {w : World} (o : Obj) (b p n : Nat) (hb : b < w.heap.size) : rowAt (w.alloc o) b p n = rowAt w b p n := by
  unfold rowAt; rw [Below.heap_alloc w o b hb]
theorem rowAt_drew (w : World) (b p n : Nat) : rowAt w.drew b p n = rowAt w b p n := rfl
theorem rowAt_gr {A B : World} (h : Gr A B) {b o n : Nat} {cs : Array Value} (hr : rowAt A b o n = some cs) : rowAt B b o n = some cs := by
  unfold rowAt at hr ⊢
  split at hr
  · rename_i c t f hb
    rw [Gr.same h hb]; exact hr
  · cases hr
theorem wholeAt_alloc_at {w : World} (c : Array Value) (t : TypeId) (n : Nat) (hn : n = w.heap.size) : wholeAt (w.alloc (.cells c t)) n = some c.size := by
  subst hn
  have hb : (w.alloc (.cells c t)).heap[w.heap.size]? = some (.cells c t (0, 0)) := World.alloc_heap_new w _
  unfold wholeAt; rw [hb]; simp
theorem wholeAt_alloc_past {w : World} (o : Obj) (b : Nat) (hb : b < w.heap.size) : wholeAt (w.alloc o) b = wholeAt w b := by
  unfold wholeAt; rw [Below.heap_alloc w o b hb]
theorem wholeAt_drew (w : World) (b : Nat) : wholeAt w.drew b = wholeAt w b := rfl
theorem setRow_alloc_at {w : World} (c cs : Array Value) (t : TypeId) (n : Nat) (hn : n = w.heap.size) : (w.alloc (.cells c t)).setRow n cs = w.alloc (.cells cs t) := by
  subst hn
  simp only [World.setRow, World.alloc]
  congr 1
  rw [Array.ext_iff]
  refine ⟨by simp, fun i h1 h2 => ?_⟩
  simp at h1 h2
  simp [Array.getElem_modify, Array.getElem_push]
  by_cases hi : i = w.heap.size
  · subst hi; simp
  · rw [if_neg (by omega), dif_pos (by omega), dif_pos (by omega)]
theorem setRow_alloc_past {w : World} (o : Obj) (b : Nat) (cs : Array Value) (hb : b < w.heap.size) : (w.alloc o).setRow b cs = (w.setRow b cs).alloc o := by
  simp only [World.setRow, World.alloc]
  congr 1
  rw [Array.ext_iff]
  refine ⟨by simp, fun i h1 h2 => ?_⟩
  simp at h1 h2
  simp [Array.getElem_modify, Array.getElem_push]
  by_cases hi : i = w.heap.size
  · subst hi; rw [if_neg (by omega), dif_neg (by omega), dif_neg (by omega)]
  · by_cases hbi : b = i
    · subst hbi; rw [if_pos rfl, dif_pos (by omega), dif_pos (by omega), if_pos rfl]
    · rw [if_neg hbi]
      split <;> rfl

/-- The load of a whole row, which the walk is not to open. -/
def opLoad (P : Program) (t : TypeId) (v : Value) (w : World) : Result Next := Sem.run P (do pure (Next.value (← Instr.loadAt t v))) w
/-- The store of a whole row, which the walk is not to open. -/
def opStore (P : Program) (t : TypeId) (v u : Value) (w : World) : Result Next := Sem.run P (do Instr.storeAt t v u; pure Next.skip) w
/-- .. and these two, where the row is not known. -/
def rawLoad (P : Program) (t : TypeId) (b o : Nat) (w : World) : Result Next := opLoad P t (.pointer (some ⟨b, o, none⟩)) w
def rawStore (P : Program) (t : TypeId) (b : Nat) (u : Value) (w : World) : Result Next := opStore P t (.pointer (some ⟨b, 0, none⟩)) u w

theorem opLoad_of {P : Program} {t : TypeId} {n : Nat} {d : TypeDesc} (hu : P.underlying t = some d) (hd : d.isRow = true) (hi : (P.info? t).map (·.size) = some n) (b o : Nat) (w : World) :
    opLoad P t (.pointer (some ⟨b, o, none⟩)) w = match rowAt w b o n with
      | some cs => .ok (.value (.agg cs)) w
      | none => rawLoad P t b o w := by
  cases h : rowAt w b o n with
  | none => rfl
  | some cs =>
    obtain ⟨h1, h2⟩ := rowAt_range h
    unfold opLoad
    simp only [Sem.run_bind, run_loadAt_mid w b o t cs.toList d h1 hu hd (by rw [h2]; exact hi), Result.andThen_ok, Sem.run_pure]
theorem opStore_of {P : Program} {t : TypeId} {n : Nat} (hi : (P.info? t).map (·.size) = some n) (b : Nat) (cs : Array Value) (w : World) :
    opStore P t (.pointer (some ⟨b, 0, none⟩)) (.agg cs) w = match wholeAt w b with
      | some k => if k = n ∧ cs.size = n ∧ oneCells cs = true then .ok .skip (w.setRow b cs) else rawStore P t b (.agg cs) w
      | none => rawStore P t b (.agg cs) w := by
  cases h : wholeAt w b with
  | none => rfl
  | some k =>
    simp only
    split
    · rename_i hc
      obtain ⟨h1, h2, h3⟩ := hc
      unfold wholeAt at h
      split at h
      · rename_i c e f hb
        split at h
        rotate_left
        · cases h
        rename_i hf
        subst hf
        have := run_storeVar_row (P := P) w b e t c cs hb (by rw [h2]; exact hi) (by simp at h; omega) h3
        unfold opStore
        simp only [Instr.storeAt, Instr.sureAddr, Sem.run_bind, Sem.run_pure, Result.andThen_ok, this]
      · cases h
    · rfl
attribute [irreducible] opLoad opStore

theorem opLoad31_eq (ρ : Operand → Value) (dst : Option Tmp) (x : Operand) (ty : TypeId) (pos : String) (af : Array Edge) (gd : Option (Nat × Bool)) (w : World) :
    (execOp ρ ⟨dst, .load 31 x, ty, pos, af, gd⟩).run Try.prog w = opLoad Try.prog 31 (ρ x) w := by unfold opLoad; rfl
theorem opStore31_eq (ρ : Operand → Value) (dst : Option Tmp) (x y : Operand) (ty : TypeId) (pos : String) (af : Array Edge) (gd : Option (Nat × Bool)) (w : World) :
    (execOp ρ ⟨dst, .store 31 x y, ty, pos, af, gd⟩).run Try.prog w = opStore Try.prog 31 (ρ x) (ρ y) w := by unfold opStore; rfl
theorem opLoad31 (b o : Nat) (w : World) : opLoad Try.prog 31 (.pointer (some ⟨b, o, none⟩)) w = match rowAt w b o 15 with
      | some cs => .ok (.value (.agg cs)) w
      | none => rawLoad Try.prog 31 b o w := opLoad_of Try.underlying31 rfl info31 b o w
theorem opStore31 (b : Nat) (cs : Array Value) (w : World) : opStore Try.prog 31 (.pointer (some ⟨b, 0, none⟩)) (.agg cs) w = match wholeAt w b with
      | some k => if k = 15 ∧ cs.size = 15 ∧ oneCells cs = true then .ok .skip (w.setRow b cs) else rawStore Try.prog 31 b (.agg cs) w
      | none => rawStore Try.prog 31 b (.agg cs) w := opStore_of info31 b cs w

/-! A message's cells by name -/
section
variable (m : Msg) (ev : Value)
theorem msg_0 : (msgCells m ev)[0]? = some (.int .u8 m.kind) := rfl
theorem msg_1 : (msgCells m ev)[1]? = some (.int .i64 m.frm) := rfl
theorem msg_2 : (msgCells m ev)[2]? = some (.int .i64 m.to) := rfl
theorem msg_3 : (msgCells m ev)[3]? = some (.int .i64 m.term) := rfl
theorem msg_9 : (msgCells m ev)[9]? = some ev := rfl
theorem msg_g0 (h : 0 < (msgCells m ev).length) : (msgCells m ev)[0]'h = .int .u8 m.kind := rfl
theorem msg_g1 (h : 1 < (msgCells m ev).length) : (msgCells m ev)[1]'h = .int .i64 m.frm := rfl
theorem msg_g2 (h : 2 < (msgCells m ev).length) : (msgCells m ev)[2]'h = .int .i64 m.to := rfl
theorem msg_g3 (h : 3 < (msgCells m ev).length) : (msgCells m ev)[3]'h = .int .i64 m.term := rfl
theorem msg_g9 (h : 9 < (msgCells m ev).length) : (msgCells m ev)[9]'h = ev := rfl
theorem msg_set9 (fv : Value) : (msgCells m ev).set 9 fv = msgCells m fv := rfl
theorem msg_set3 (t : Int) : (msgCells m ev).set 3 (.int .i64 t) = msgCells { m with term := t } ev := rfl
theorem msg_size : (msgCells m ev).toArray.size = 15 := rfl
theorem msg_one (h : ev.oneCell' = true) : oneCells (msgCells m ev).toArray = true := by
  exact Array.all_eq_true_iff_forall_mem.2 (fun u hu => msgCells_one m ev h u (by simpa using hu))
theorem msg_one_slice (a : Option Addr) (n c : Nat) : oneCells (msgCells m (.slice a n c)).toArray = true := msg_one m _ rfl
end

theorem loadVar_row {P : Program} {t : TypeId} {n : Nat} {d : TypeDesc} (hu : P.underlying t = some d) (hd : d.isRow = true) (hi : (P.info? t).map (·.size) = some n) {b o : Nat} {w : World} {cs : Array Value} (h : rowAt w b o n = some cs) :
    (loadVar t ⟨b, o, none⟩).run P w = .ok (.agg cs) w := by
  obtain ⟨h1, h2⟩ := rowAt_range h
  have := run_loadVar_mid (P := P) w b o t cs.toList d h1 hu hd (by rw [h2]; exact hi)
  simpa using this
theorem results_row {P : Program} {fn : Func} {t : Tmp} {ty : TypeId} {n : Nat} {d : TypeDesc} (hr : fn.results = #[.cell t ty]) (hu : P.underlying ty = some d) (hd : d.isRow = true) (hi : (P.info? ty).map (·.size) = some n)
    {tmps : Array Value} {b : Nat} {w : World} {cs : Array Value} (ht : tmps.getD t undef = .pointer (some ⟨b, 0, none⟩)) (h : rowAt w b 0 n = some cs) :
    (results fn tmps).run P w = .ok (.agg cs) w := by
  have hl := loadVar_row hu hd hi h
  have ht' : tmps[t]?.getD undef = .pointer (some ⟨b, 0, none⟩) := by simpa using ht
  simp only [results, hr]
  simp [ht', asAddr, hl]
theorem rowAt_block {w : World} {b : Nat} {cs : Array Value} {t : TypeId} {f : Nat × Nat} (hb : w.heap[b]? = some (.cells cs t f)) {n : Nat} (hn : cs.size = n) : rowAt w b 0 n = some cs := by
  unfold rowAt; rw [hb]; simp [hn.symm]
theorem wholeAt_block {w : World} {b : Nat} {cs : Array Value} {t : TypeId} (hb : w.heap[b]? = some (.cells cs t (0, 0))) : wholeAt w b = some cs.size := by
  unfold wholeAt; rw [hb]; simp
theorem cell_block {w : World} {b j : Nat} {cs : Array Value} {t : TypeId} {f : Nat × Nat} (hb : w.heap[b]? = some (.cells cs t f)) {v : Value} (hv : cs[j]? = some v) : w.cell? ⟨b, j, none⟩ = some v := by
  rw [cell_of_row w b j cs t f hb]; exact hv
theorem frozen_block {w : World} {b j : Nat} {cs : Array Value} {t : TypeId} (hb : w.heap[b]? = some (.cells cs t (0, 0))) : w.frozen? ⟨b, j, none⟩ = false := by
  simp [World.frozen?, hb]
theorem setCell_block {w : World} {b j : Nat} {cs : Array Value} {t : TypeId} {f : Nat × Nat} (hb : w.heap[b]? = some (.cells cs t f)) (v : Value) : (w.setCell ⟨b, j, none⟩ v).heap[b]? = some (.cells (cs.setIfInBounds j v) t f) := by
  obtain ⟨hlt, hk⟩ := Array.getElem?_eq_some_iff.1 hb
  simp only [World.setCell]
  rw [Array.getElem?_eq_getElem (by rw [Array.size_modify]; exact hlt), Array.getElem_modify_self, hk]
  rfl
theorem setCell_other {w : World} {b c j : Nat} (v : Value) (h : c ≠ b) : (w.setCell ⟨b, j, none⟩ v).heap[c]? = w.heap[c]? := Below.heap_setCell w _ v c h
theorem owns_slice {w : World} {base : Nat} {e : TypeId} {size : Nat} {v : Value} {n : Nat} {xs : List Value} (h : w.ownsRow base e size v n xs) : ∃ a c, v = .slice a n c := by
  rcases h.2 with ⟨rfl, rfl⟩ | ⟨g, cap, cur, rfl, _⟩
  · exact ⟨none, 0, rfl⟩
  · exact ⟨_, cap, rfl⟩

theorem owns_other {w w' : World} {base : Nat} {e : TypeId} {size : Nat} {v : Value} {n : Nat} {xs : List Value} (h : w.ownsRow base e size v n xs) (hk : ∀ k, v.ownBlock = some k → w'.heap[k]? = w.heap[k]?) : w'.ownsRow base e size v n xs := by
  refine ⟨h.1, ?_⟩
  rcases h.2 with h0 | ⟨g, cap, cur, rfl, hb, hh, r⟩
  · exact .inl h0
  · exact .inr ⟨g, cap, cur, rfl, hb, (hk g rfl).trans hh, r⟩
theorem alloc1_heap (w : World) (a : Obj) : (w.alloc a).heap[w.heap.size]? = some a := World.alloc_heap_new w a
theorem alloc2_heap0 (w : World) (a b : Obj) : ((w.alloc a).alloc b).heap[w.heap.size]? = some a := (Below.heap_alloc _ _ _ (by simp)).trans (alloc1_heap w a)
theorem alloc2_heap1 (w : World) (a b : Obj) : ((w.alloc a).alloc b).heap[w.heap.size + 1]? = some b := by
  have := alloc1_heap (w.alloc a) b; rwa [World.size_alloc] at this
theorem alloc3_heap0 (w : World) (a b c : Obj) : (((w.alloc a).alloc b).alloc c).heap[w.heap.size]? = some a := (Below.heap_alloc _ _ _ (by simp; omega)).trans (alloc2_heap0 w a b)
theorem alloc3_heap1 (w : World) (a b c : Obj) : (((w.alloc a).alloc b).alloc c).heap[w.heap.size + 1]? = some b := (Below.heap_alloc _ _ _ (by simp)).trans (alloc2_heap1 w a b)
theorem alloc3_heap2 (w : World) (a b c : Obj) : (((w.alloc a).alloc b).alloc c).heap[w.heap.size + 2]? = some c := by
  have := alloc1_heap ((w.alloc a).alloc b) c; rwa [World.size_alloc, World.size_alloc] at this

/-- A row of no cells, just laid. -/
theorem owns_empty {w : World} {base n : Nat} (e : TypeId) (size : Nat) (hn : n = w.heap.size) (hb : base ≤ w.heap.size) : (w.alloc (.cells #[] e)).ownsRow base e size (.slice (some ⟨n, 0, none⟩) 0 0) 0 [] := by
  subst hn
  exact World.ownsRow_made w #[] 0 hb (Nat.zero_le _) (by simp)
theorem gr_setRow' {a w : World} (h : Gr a w) (g : Nat) (hg : a.heap.size ≤ g) (cs : Array Value) : Gr a (w.setRow g cs) := gr_setRow h g hg cs
theorem msg_row {w W : World} (h : Gr w W) {b o : Nat} {m : Msg} {ev : Value} (hr : w.rangeAt b o (msgCells m ev)) : rowAt W b o 15 = some (msgCells m ev).toArray :=
  rowAt_of_range (later_range h hr) (by rw [msgCells_length]; decide)
theorem gr_alloc' {a w : World} (o : Obj) (h : Gr a w) : Gr a (w.alloc o) := Gr.alloc h o
theorem gr_drew' {a w : World} (h : Gr a w) : Gr a w.drew := Gr.drew h
theorem gr_drewN' {a w : World} (n : Nat) (h : Gr a w) : Gr a (w.drewN n) := Gr.drewN h n
end Go.Proofs.Ytajghkjghiifjaa
