/-
  A region that draws its order: two boxes of messages laid and filled.
-/
import Derived.Test.YtajghkjghiifjaaWb
import Derived.OrdersHeld
import Derived.Deep.RegionHeld3
import Derived.Laws.Tables
import Derived.Laws.CopyOwn
namespace Go.Proofs.Ytajghkjghiifjaa
open Go Go.RowKit

def swapOps : Array Oper :=
  #[{ dst := some 8, op := Op.load 31 (Operand.tmp 2), type := 31, pos := "msg.go:131", after := #[], guard := none },
    { dst := some 9, op := Op.load 31 (Operand.tmp 3), type := 31, pos := "msg.go:131",
      after := #[{ on := 4, ground := Ground.gcOnly Departure.lateStores }], guard := none },
    { dst := some 5, op := Op.alloc 31, type := 0, pos := "msg.go:131", after := #[], guard := none },
    { dst := some 6, op := Op.alloc 31, type := 0, pos := "msg.go:131", after := #[], guard := none },
    { dst := none, op := Op.store 31 (Operand.tmp 5) (Operand.tmp 8), type := 0, pos := "msg.go:131",
      after :=
        #[{ on := 2, ground := Ground.data }, { on := 0, ground := Ground.data },
          { on := 0, ground := Ground.phase }, { on := 1, ground := Ground.textOnly Departure.lateStores },
          { on := 2, ground := Ground.phase }, { on := 3, ground := Ground.phase }], guard := none },
    { dst := none, op := Op.store 31 (Operand.tmp 6) (Operand.tmp 9), type := 0, pos := "msg.go:131",
      after :=
        #[{ on := 3, ground := Ground.data }, { on := 1, ground := Ground.data },
          { on := 4, ground := Ground.chain }, { on := 0, ground := Ground.phase },
          { on := 1, ground := Ground.phase }, { on := 2, ground := Ground.phase },
          { on := 3, ground := Ground.phase }, { on := 4, ground := Ground.phase }], guard := none }]

theorem eval_put_same (a : Act) (d : Nat) (v : Value) (h : d < a.tmps.size) : (a.put (some d) v).eval (.tmp d) = v := by
  simp [Act.eval, Act.put, h]
theorem eval_put_other (a : Act) (d t : Nat) (v : Value) (h : d ≠ t) : (a.put (some d) v).eval (.tmp t) = a.eval (.tmp t) := by
  simp [Act.eval, Act.put, Array.getElem?_setIfInBounds_ne h]
theorem size_put (a : Act) (d : Option Nat) (v : Value) : (a.put d v).tmps.size = a.tmps.size := by
  cases d <;> simp [Act.put]

theorem alloc31 (w : World) : ∃ zs : Array Value, zs.size = 15 ∧ (Instr.alloc 31 true undef).run Try.prog w = .ok (.pointer (some ⟨w.heap.size, 0, none⟩)) (w.alloc (.cells zs 31)) := by
  refine ⟨_, ?_, by simp [Instr.alloc, go_sem]; rfl⟩
  rfl

theorem info31 : (Try.prog.info? 31).map (·.size) = some 15 := by kernel_rfl

section
variable {ops : Array Oper} {Q : Exit → Act → World → Prop} {i : Nat} {K : Act → World → Prop} {a : Act} {w : World}
theorem wpOp_of {o : Oper} (ho : ops[i]? = some o) (hg : o.guard = none) (h : o.wp Try.prog a w K Q) : wpOp Try.prog ops Q i K a w := by
  unfold wpOp
  simp only [ho, Region.wanted, hg, if_true]
  exact .inl h
theorem wpOp_alloc31 {o : Oper} (ho : ops[i]? = some o) (hg : o.guard = none) (hop : o.op = .alloc 31)
    (h : ∀ zs : Array Value, zs.size = 15 → K (a.put o.dst (.pointer (some ⟨w.heap.size, 0, none⟩))) (w.alloc (.cells zs 31))) : wpOp Try.prog ops Q i K a w := by
  refine wpOp_of ho hg ?_
  obtain ⟨zs, hz, hr⟩ := alloc31 w
  have := h zs hz
  unfold Oper.wp execOp
  have hr' : (Instr.alloc 31 true (Value.tuple #[])).run Try.prog w = .ok (.pointer (some ⟨w.heap.size, 0, none⟩)) (w.alloc (.cells zs 31)) := hr
  simp only [hop, Sem.run_bind, hr', Result.andThen_ok, Sem.run_pure]
  exact this
theorem wpOp_store31 {o : Oper} (ho : ops[i]? = some o) (hg : o.guard = none) (x y : Operand) (hop : o.op = .store 31 x y) (g : Nat) (old cells : Array Value)
    (hx : a.eval x = .pointer (some ⟨g, 0, none⟩)) (hy : a.eval y = .agg cells) (hh : w.heap[g]? = some (.cells old 31 (0, 0))) (hs : old.size = 15) (hc : cells.size = 15) (h1 : cells.all (·.oneCell') = true)
    (h : K (a.put o.dst undef) (w.setRow g cells)) : wpOp Try.prog ops Q i K a w := by
  refine wpOp_of ho hg ?_
  exact wp_store_row 31 x y hop g cells hx hy 31 old hh (by rw [hc]; exact info31) (by omega) h1 h
end

theorem range_setRow {w : World} {b : Nat} {cs : List Value} (h : w.rangeAt b 0 cs) (g : Nat) (cells : Array Value) (hb : b ≠ g) : (w.setRow g cells).rangeAt b 0 cs := by
  intro j v hv
  rw [cell_setRow_other w g cells _ hb]; exact h j v hv
theorem gr_setRow {a w : World} (h : Gr a w) (g : Nat) (hg : a.heap.size ≤ g) (cs : Array Value) : Gr a (w.setRow g cs) := below_setRow h hg cs

theorem range_row {w : World} {p : Nat} {cs : List Value} {t : TypeId} (h : w.heap[p]? = some (.cells cs.toArray t (0, 0))) : w.rangeAt p 0 cs := by
  intro j v hv
  rw [Nat.zero_add, cell_of_row w p j cs.toArray t (0, 0) h]; simpa using hv
theorem cells15 {w : World} {p : Nat} {x0 x1 x2 x3 x4 x5 x6 x7 x8 x9 x10 x11 x12 x13 x14 : Value} (h : w.rangeAt p 0 [x0, x1, x2, x3, x4, x5, x6, x7, x8, x9, x10, x11, x12, x13, x14]) :
    w.cell? ⟨p, 0, none⟩ = some x0 ∧ w.cell? ⟨p, 1, none⟩ = some x1 ∧ w.cell? ⟨p, 2, none⟩ = some x2 ∧ w.cell? ⟨p, 3, none⟩ = some x3 ∧ w.cell? ⟨p, 4, none⟩ = some x4 ∧ w.cell? ⟨p, 5, none⟩ = some x5 ∧ w.cell? ⟨p, 6, none⟩ = some x6 ∧ w.cell? ⟨p, 7, none⟩ = some x7 ∧
    w.cell? ⟨p, 8, none⟩ = some x8 ∧ w.cell? ⟨p, 9, none⟩ = some x9 ∧ w.cell? ⟨p, 10, none⟩ = some x10 ∧ w.cell? ⟨p, 11, none⟩ = some x11 ∧ w.cell? ⟨p, 12, none⟩ = some x12 ∧ w.cell? ⟨p, 13, none⟩ = some x13 ∧ w.cell? ⟨p, 14, none⟩ = some x14 :=
  ⟨h 0 _ rfl, h 1 _ rfl, h 2 _ rfl, h 3 _ rfl, h 4 _ rfl, h 5 _ rfl, h 6 _ rfl, h 7 _ rfl, h 8 _ rfl, h 9 _ rfl, h 10 _ rfl, h 11 _ rfl, h 12 _ rfl, h 13 _ rfl, h 14 _ rfl⟩

theorem swap_tail {Q : Exit → Act → World → Prop} (S : World → Prop) (listed : Array Bool) (a : Act) (w0 w : World) (cs1 cs2 : List Value) (p q : Nat) (z1 z2 : Array Value) (hz1 : z1.size = 15) (hz2 : z2.size = 15)
    (hr4 : Region.ready .any swapOps listed = [4]) (hr5 : Region.ready .any swapOps (listed.setIfInBounds 4 true) = [5]) (hr6 : Region.ready .any swapOps ((listed.setIfInBounds 4 true).setIfInBounds 5 true) = [])
    (v5 : a.eval (.tmp 5) = .pointer (some ⟨p, 0, none⟩)) (v6 : a.eval (.tmp 6) = .pointer (some ⟨q, 0, none⟩)) (v8 : a.eval (.tmp 8) = .agg cs1.toArray) (v9 : a.eval (.tmp 9) = .agg cs2.toArray)
    (hgr : Gr w0 w) (hp : w0.heap.size ≤ p) (hq : w0.heap.size ≤ q) (hpq : p ≠ q) (hbp : w.heap[p]? = some (.cells z1 31 (0, 0))) (hbq : w.heap[q]? = some (.cells z2 31 (0, 0)))
    (l1 : cs1.length = 15) (l2 : cs2.length = 15) (o1 : cs1.toArray.all (·.oneCell') = true) (o2 : cs2.toArray.all (·.oneCell') = true)
    (hS : ∀ w', Gr w0 w' → S w')
    (H : ∀ w', Gr w0 w' → w'.heap[p]? = some (.cells cs1.toArray 31 (0, 0)) → w'.heap[q]? = some (.cells cs2.toArray 31 (0, 0)) → Q .normal a w') :
    wpAnyH Try.prog .any swapOps Q S 2 listed a w := by
  refine wpAnyH_all (rs := [4]) hr4 (by simp) ?_
  intro i hi
  simp only [List.mem_cons, List.not_mem_nil, or_false] at hi
  subst hi
  refine wpOp_store31 rfl rfl (.tmp 5) (.tmp 8) rfl p z1 cs1.toArray v5 v8 hbp hz1 (by simp [l1]) o1 ?_
  have g1 : Gr w0 (w.setRow p cs1.toArray) := gr_setRow hgr p hp _
  refine ⟨hS _ g1, ?_⟩
  refine wpAnyH_all (rs := [5]) hr5 (by simp) ?_
  intro i hi
  simp only [List.mem_cons, List.not_mem_nil, or_false] at hi
  subst hi
  have hbq1 : (w.setRow p cs1.toArray).heap[q]? = some (.cells z2 31 (0, 0)) := by rw [setRow_other _ _ _ _ (Ne.symm hpq)]; exact hbq
  refine wpOp_store31 rfl rfl (.tmp 6) (.tmp 9) rfl q z2 cs2.toArray v6 v9 hbq1 hz2 (by simp [l2]) o2 ?_
  have g2 : Gr w0 ((w.setRow p cs1.toArray).setRow q cs2.toArray) := gr_setRow g1 q hq _
  refine ⟨hS _ g2, wpAnyH_done hr6 (H _ g2 ?_ ?_) _⟩
  · rw [setRow_other _ _ _ _ hpq]; exact setRow_heap _ _ _ _ _ _ hbp
  · exact setRow_heap _ _ _ _ _ _ hbq1

theorem swap_region {id : Nat} {Q : Exit → Act → World → Prop} (a : Act) (w : World) (b1 b2 : Nat) (cs1 cs2 : List Value) (hs : 9 < a.tmps.size)
    (h2 : a.eval (.tmp 2) = .pointer (some ⟨b1, 0, none⟩)) (h3 : a.eval (.tmp 3) = .pointer (some ⟨b2, 0, none⟩))
    (hA : w.rangeAt b1 0 cs1) (hB : w.rangeAt b2 0 cs2) (l1 : cs1.length = 15) (l2 : cs2.length = 15) (o1 : cs1.toArray.all (·.oneCell') = true) (o2 : cs2.toArray.all (·.oneCell') = true)
    (H0 : ∀ p q w', Gr w w' → w.heap.size ≤ p → w.heap.size ≤ q → w'.rangeAt b1 0 cs1 → w'.rangeAt b2 0 cs2 → w'.rangeAt p 0 cs1 → w'.rangeAt q 0 cs2 →
      Q .normal ((((a.put (some 8) (.agg cs1.toArray)).put (some 9) (.agg cs2.toArray)).put (some 5) (.pointer (some ⟨p, 0, none⟩))).put (some 6) (.pointer (some ⟨q, 0, none⟩))) w') :
    (Code.region id swapOps true).wp Try.prog Q a w := by
  refine wp_region_noPanic ?_
  have H : ∀ p q w', Gr w w' → w.heap.size ≤ p → w.heap.size ≤ q → w'.heap[p]? = some (.cells cs1.toArray 31 (0, 0)) → w'.heap[q]? = some (.cells cs2.toArray 31 (0, 0)) →
      NoPanic Q .normal ((((a.put (some 8) (.agg cs1.toArray)).put (some 9) (.agg cs2.toArray)).put (some 5) (.pointer (some ⟨p, 0, none⟩))).put (some 6) (.pointer (some ⟨q, 0, none⟩))) w' :=
    fun p q w' h1 h2 h3 h4 h5 => H0 p q w' h1 h2 h3 (later_range h1 hA) (later_range h1 hB) (range_row h4) (range_row h5)
  refine wp_region_held (S := fun w' => w'.rangeAt b1 0 cs1 ∧ w'.rangeAt b2 0 cs2) (by kernel_rfl) ?_
  have hS0 : (fun w' : World => w'.rangeAt b1 0 cs1 ∧ w'.rangeAt b2 0 cs2) w.drew := ⟨hA, hB⟩
  refine wpAnyH_take (i := 0) (v := .agg cs1.toArray) rfl (by kernel_rfl) (by kernel_rfl) (by kernel_rfl) (fun _ _ _ h => h)
    (yieldsIf_load_mid (by kernel_rfl) 31 (.tmp 2) rfl b1 0 h2 cs1 _ (fun w h => h.1) Try.underlying31 rfl (by rw [l1]; exact info31)) hS0 ?_
  refine wpAnyH_take (i := 1) (v := .agg cs2.toArray) rfl (by kernel_rfl) (by kernel_rfl) (by kernel_rfl) (fun _ _ _ h => h)
    (yieldsIf_load_mid (by kernel_rfl) 31 (.tmp 3) rfl b2 0 ((eval_put_other _ _ _ _ (by decide)).trans h3) cs2 _ (fun w h => h.2) Try.underlying31 rfl (by rw [l2]; exact info31)) hS0 ?_
  change wpAnyH _ _ _ _ _ _ _ ((a.put (some 8) (.agg cs1.toArray)).put (some 9) (.agg cs2.toArray)) w.drew
  obtain ⟨a2, ha2⟩ : ∃ a2, a2 = (a.put (some 8) (.agg cs1.toArray)).put (some 9) (.agg cs2.toArray) := ⟨_, rfl⟩
  have z2 : a2.tmps.size = a.tmps.size := by rw [ha2, size_put, size_put]
  have v8 : a2.eval (.tmp 8) = .agg cs1.toArray := by rw [ha2, eval_put_other _ _ _ _ (by decide)]; exact eval_put_same _ _ _ (by omega)
  have v9 : a2.eval (.tmp 9) = .agg cs2.toArray := by rw [ha2]; exact eval_put_same _ _ _ (by rw [size_put]; omega)
  have zz : w.drew.heap.size = w.heap.size := rfl
  rw [← ha2] at H ⊢
  refine wpAnyH_all (rs := [2, 3]) (by kernel_rfl) (by simp) ?_
  intro i hi
  simp only [List.mem_cons, List.not_mem_nil, or_false] at hi
  rcases hi with rfl | rfl
  · refine wpOp_alloc31 rfl rfl rfl ?_
    intro zs hz
    have hg1 : Gr w (w.drew.alloc (.cells zs 31)) := Gr.alloc (Gr.drew (Gr.refl w)) _
    refine ⟨⟨later_range hg1 hA, later_range hg1 hB⟩, ?_⟩
    refine wpAnyH_all (rs := [3]) (by kernel_rfl) (by simp) ?_
    intro i hi
    simp only [List.mem_cons, List.not_mem_nil, or_false] at hi
    subst hi
    refine wpOp_alloc31 rfl rfl rfl ?_
    intro zs' hz'
    have hg2 : Gr w ((w.drew.alloc (.cells zs 31)).alloc (.cells zs' 31)) := Gr.alloc hg1 _
    refine ⟨⟨later_range hg2 hA, later_range hg2 hB⟩, ?_⟩
    have s1 : (w.drew.alloc (.cells zs 31)).heap.size = w.heap.size + 1 := by simp
    refine swap_tail _ _ _ w _ cs1 cs2 w.heap.size (w.heap.size + 1) zs zs' hz hz' (by kernel_rfl) (by kernel_rfl) (by kernel_rfl) ?_ ?_ ?_ ?_ hg2 (Nat.le_refl _) (Nat.le_succ _) (by omega) ?_ ?_ l1 l2 o1 o2
      (fun w' h => ⟨later_range h hA, later_range h hB⟩) ?_
    · exact (eval_put_other _ _ _ _ (by decide)).trans (eval_put_same _ _ _ (by omega))
    · exact (eval_put_same _ _ _ (by rw [size_put]; omega)).trans (by rw [s1])
    · exact (eval_put_other _ _ _ _ (by decide)).trans ((eval_put_other _ _ _ _ (by decide)).trans v8)
    · exact (eval_put_other _ _ _ _ (by decide)).trans ((eval_put_other _ _ _ _ (by decide)).trans v9)
    · rw [Below.heap_alloc _ _ _ (by simp)]; exact World.alloc_heap_new w.drew _
    · have := World.alloc_heap_new (w.drew.alloc (.cells zs 31)) (.cells zs' 31); rwa [s1] at this
    · intro w' g hp hq
      have := H w.heap.size (w.heap.size + 1) w' g (Nat.le_refl _) (Nat.le_succ _) hp hq
      rw [s1]; exact this
  · refine wpOp_alloc31 rfl rfl rfl ?_
    intro zs hz
    have hg1 : Gr w (w.drew.alloc (.cells zs 31)) := Gr.alloc (Gr.drew (Gr.refl w)) _
    refine ⟨⟨later_range hg1 hA, later_range hg1 hB⟩, ?_⟩
    refine wpAnyH_all (rs := [2]) (by kernel_rfl) (by simp) ?_
    intro i hi
    simp only [List.mem_cons, List.not_mem_nil, or_false] at hi
    subst hi
    refine wpOp_alloc31 rfl rfl rfl ?_
    intro zs' hz'
    have hg2 : Gr w ((w.drew.alloc (.cells zs 31)).alloc (.cells zs' 31)) := Gr.alloc hg1 _
    refine ⟨⟨later_range hg2 hA, later_range hg2 hB⟩, ?_⟩
    have s1 : (w.drew.alloc (.cells zs 31)).heap.size = w.heap.size + 1 := by simp
    refine swap_tail _ _ _ w _ cs1 cs2 (w.heap.size + 1) w.heap.size zs' zs hz' hz (by kernel_rfl) (by kernel_rfl) (by kernel_rfl) ?_ ?_ ?_ ?_ hg2 (Nat.le_succ _) (Nat.le_refl _) (by omega) ?_ ?_ l1 l2 o1 o2
      (fun w' h => ⟨later_range h hA, later_range h hB⟩) ?_
    · exact (eval_put_same _ _ _ (by rw [size_put]; omega)).trans (by rw [s1])
    · exact (eval_put_other _ _ _ _ (by decide)).trans (eval_put_same _ _ _ (by omega))
    · exact (eval_put_other _ _ _ _ (by decide)).trans ((eval_put_other _ _ _ _ (by decide)).trans v8)
    · exact (eval_put_other _ _ _ _ (by decide)).trans ((eval_put_other _ _ _ _ (by decide)).trans v9)
    · have := World.alloc_heap_new (w.drew.alloc (.cells zs 31)) (.cells zs' 31); rwa [s1] at this
    · rw [Below.heap_alloc _ _ _ (by simp)]; exact World.alloc_heap_new w.drew _
    · intro w' g hp hq
      have := H (w.heap.size + 1) w.heap.size w' g (Nat.le_succ _) (Nat.le_refl _) hp hq
      rw [Act.put_comm _ _ _ (by simp)] at this
      rw [s1]; exact this
end Go.Proofs.Ytajghkjghiifjaa
