/-
  Walks: those, and the three predicates.
-/
import Derived.Test.YtajghkjghiifjaaWl
namespace Go.Proofs.Ytajghkjghiifjaa
open Go Go.RowKit
attribute [local go_sem ↓] opLoad31_eq opStore31_eq opRow1_eq opLoad31_in opStore31_in opRow1_in
attribute [local go_sem] msgV opLoad31 opStore31 opRow1_msg rowAt_alloc_at rowAt_alloc_past rowAt_drew wholeAt_alloc_at wholeAt_alloc_past wholeAt_drew setRow_alloc_at setRow_alloc_past msg_0 msg_1 msg_2 msg_3 msg_9 msg_g0 msg_g1 msg_g2 msg_g3 msg_g9 msg_set9 msg_set3 msg_size msgCells_length msg_one_slice gr_alloc' gr_drew' gr_drewN'

set_option maxRecDepth 100000 in
set_option maxHeartbeats 1000000 in
theorem those1_none (B1 : Nat) (B2 : Nat) (a : Option Addr) (c : Nat) (s l : Value) (ll : Nat) (J : Nat → World → Prop) (W : World)
    (h1 : W.heap[B1]? = some (.cells #[.slice a 0 c, s, l] 26 (0, 0))) (h0 : J 0 W) :
    CallsIn Fence.wide 0 Try.prog 33 #[.func (.yield ll) #[] #[], .pointer (some ⟨B1, 0, none⟩), .pointer (some ⟨B2, 0, none⟩)] W fun e W' => (∃ v, e = .returned v) ∧ J 0 W' := by
  refine callsIn_of_wp Try.func33 rfl trivial ?_ rfl
  simp only [Try.ntmps33, List.size_toArray, List.length_cons, List.length_nil, Nat.reduceAdd, Nat.reduceSub, Array.replicate_succ, Array.replicate_zero, List.push_toArray, List.append_toArray, List.nil_append, List.cons_append]
  have c10 := cell_block h1 (j := 0) (v := .slice a 0 c) rfl
  refine wpIn_scope_label 0 (fun a' W' => W' = W ∧ ∃ (u5 u6 u7 u8 u9 u10 u11 u12 u13 u14 u15 u16 u17 u18 u19 u20 u21 u22 u23 u24 u25 u26 u27 u28 u29 : Value),
      a' = { tmps := #[.func (.yield ll) #[] #[], .pointer (some ⟨B1, 0, none⟩), .pointer (some ⟨B2, 0, none⟩), undef, .int .i64 0, u5, u6, u7, u8, u9, u10, u11, u12, u13, u14, u15, u16, u17, u18, u19, u20, u21, u22, u23, u24, u25, u26, u27, u28, u29], defers := [] }) (fun _ _ => 0) rfl rfl ?_ ?_
  · gi_wp2
    exact ⟨trivial, _, _, _, _, _, _, _, _, _, _, _, _, _, _, _, _, _, _, _, _, _, _, _, _, _, rfl⟩
  · rintro a' A ⟨rfl, u5, u6, u7, u8, u9, u10, u11, u12, u13, u14, u15, u16, u17, u18, u19, u20, u21, u22, u23, u24, u25, u26, u27, u28, u29, rfl⟩
    gi_wp2
    simp only [Exit.jump]
    exact bodyPost_ret (results_none rfl _ _ _) rfl ⟨⟨_, rfl⟩, h0⟩

set_option maxHeartbeats 1000000 in
theorem those_any (w : World) (v s l sv : Value) (f : FuncId) (cap : Array Value) (hv : sv = .func (.func f) #[] cap) :
    Calls Try.prog 22 #[.agg #[v, s, l], sv] w fun e w' => e = .returned (.func (.func 33) #[] #[.pointer (some ⟨w.heap.size, 0, none⟩), .pointer (some ⟨w.heap.size + 1, 0, none⟩)]) ∧
      (w.alloc (.cells #[v, s, l] 26)).alloc (.cells #[sv] 59) = w' := by
  subst hv
  go_enter Try.func22, Try.ntmps22
  go_wp2
  go_ret
  exact ⟨rfl, rfl⟩

/-- What the iterator leans on. -/
def ThoseNd (base0 B1 B2 : Nat) : Nat → Obj → Prop := fun b o => isRec o = false ∧ (b < base0 ∨ b = B1 ∨ b = B2)

/-- **those(n, so): an iterator over the messages of which it is so.** -/
theorem those_iter (w : World) (base0 : Nat) (v s l : Value) (xs : List Msg) (f : FuncId) (cap : Array Value) (p : Msg → Bool) (N0 : World → Prop) 
    (hxs : IsMsgs (· < base0) w v xs) (hs : Small xs) (hso : So f cap p N0) (heg : ∀ args w, (callFunc f args).run Try.prog w = .ok (.enter f args) w)
    (nN : ∀ A B, N0 A → (∀ k o, k < base0 → isRec o = false → A.heap[k]? = some o → B.heap[k]? = some o) → N0 B) (h0 : N0 w) :
    Iter Try.prog 33 #[.pointer (some ⟨w.heap.size, 0, none⟩), .pointer (some ⟨w.heap.size + 1, 0, none⟩)] (selUp p xs xs.length).length (Hands (w.heap.size + 2) (selUp p xs xs.length))
      (ThoseNd base0 w.heap.size (w.heap.size + 1)) ((w.alloc (.cells #[v, s, l] 26)).alloc (.cells #[.func (.func f) #[] cap] 59)) := by
  intro ll J Jx W hW hJ _ hY hJ0
  have h1 := hW.same (alloc2_heap0 w (.cells #[v, s, l] 26) (.cells #[.func (.func f) #[] cap] 59))
  have h2 := hW.same (alloc2_heap1 w (.cells #[v, s, l] 26) (.cells #[.func (.func f) #[] cap] 59))
  have hG : Gr w W := Gr.trans (Gr.alloc (Gr.alloc (Gr.refl w) _) _) hW
  have hsz : w.heap.size + 2 ≤ W.heap.size := by have := hW.size; simpa using this
  by_cases hn : 0 < xs.length
  · obtain ⟨b, o, c, rfl, _, _, hSb, hx⟩ := (hxs.gr hG).some hn
    have nd : ∀ k, (k < base0 ∨ k = w.heap.size ∨ k = w.heap.size + 1) → ∀ o, isRec o = false → ThoseNd base0 w.heap.size (w.heap.size + 1) k o := fun k h o ho => ⟨ho, h⟩
    refine those1_in (· < base0) xs b o c xs.length w.heap.size (w.heap.size + 1) (w.heap.size + 2) f cap p N0 hso heg s l (ThoseNd base0 w.heap.size (w.heap.size + 1)) rfl hs.1 hs.2
      (fun _ _ _ => nd _ (.inr (.inl rfl)) _ rfl) (fun _ _ _ => nd _ (.inr (.inr rfl)) _ rfl) (fun k hk _ _ _ => nd _ (.inl hk) _ rfl) (fun _ _ _ => nd _ (.inl hSb) _ rfl)
      (fun A B hA hK => nN A B hA fun k o hk ho hko => hK.keep k o hko ⟨ho, .inl hk⟩) (fun A B hA hG => nN A B hA fun k o _ _ hko => hG.same hko) ll J Jx W hsz h1 h2
      (nN _ _ h0 fun k o _ _ hko => hG.same hko) hx hJ hY hJ0
  · have e1 : xs = [] := List.eq_nil_of_length_eq_zero (by omega)
    subst e1
    obtain ⟨a, c, rfl, _, _⟩ := hxs.len
    exact (those1_none _ _ a c s l ll J W h1 hJ0).mono fun e W' ⟨he, hj⟩ => ⟨he, .inl hj⟩

theorem selUp_length (p : Msg → Bool) (xs : List Msg) : ∀ n, (selUp p xs n).length ≤ n
  | 0 => by simp [selUp]
  | n + 1 => by
    have := selUp_length p xs n
    cases h : xs[n]? with
    | none => simp [selUp, h]; omega
    | some m => by_cases hp : p m = true <;> simp [selUp, h, hp] <;> omega
theorem OwnUp.keep {base : Nat} {w w' : World} {v : Value} {xs : List Msg} {j : Nat} {evs : List Value} (h : OwnUp base w v xs j evs) (hk : ∀ k, base ≤ k → k < w.heap.size → w'.heap[k]? = w.heap[k]?) : OwnUp base w' v xs j evs :=
  ⟨h.le, h.len, owns_other h.row fun k e => hk k (World.ownsRow.lt h.row k e).1 (World.ownsRow.lt h.row k e).2, fun i m ev hi hm he => owns_other (h.ents i m ev hi hm he) fun k e => hk k (World.ownsRow.lt (h.ents i m ev hi hm he) k e).1 (World.ownsRow.lt (h.ents i m ev hi hm he) k e).2⟩

theorem OwnMsgs.keepC {base : Nat} {w w' : World} {v : Value} {ms : List Msg} (h : OwnMsgs base w v ms) (hk : ∀ k cur e, base ≤ k → w.heap[k]? = some (.cells cur e (0, 0)) → w'.heap[k]? = w.heap[k]?) : OwnMsgs base w' v ms := by
  obtain ⟨evs, h1, h2, h3⟩ := h
  exact ⟨evs, h1, owns_other h2 fun k e => by obtain ⟨hb, cur, hc⟩ := owns_elem h2 e; exact hk k cur _ hb hc, fun i m ev hm he => owns_other (h3 i m ev hm he) fun k e => by obtain ⟨hb, cur, hc⟩ := owns_elem (h3 i m ev hm he) e; exact hk k cur _ hb hc⟩

/-! ### The three predicates -/
def Always (_ : World) : Prop := True
set_option maxHeartbeats 1000000 in
theorem all_so : So 23 #[] (fun _ => true) Always := by
  intro W m a n c _
  show Calls Try.prog 23 #[.agg (msgCells m (.slice a n c)).toArray] W _
  go_enter Try.func23, Try.ntmps23
  go_wp2
  go_ret
  exact ⟨rfl, Gr.alloc (Gr.refl W) _⟩
theorem all_enters : ∀ args w, (callFunc 23 args).run Try.prog w = .ok (.enter 23 args) w := enters_of Try.func23 (by kernel_rfl) rfl

/-- The box of a captured number. -/
def BoxAt (B : Nat) (id : Int) (W : World) : Prop := W.heap[B]? = some (.cells #[.int .i64 id] 3 (0, 0))
def notOf (id : Int) (m : Msg) : Bool := m.to != id && m.frm != id
def toOf (id : Int) (m : Msg) : Bool := m.to == id
set_option maxHeartbeats 1000000 in
theorem cut_so (B : Nat) (id : Int) : So 27 #[.pointer (some ⟨B, 0, none⟩)] (notOf id) (BoxAt B id) := by
  intro W m a n c h
  have hc := cell_block (h : W.heap[B]? = _) (j := 0) (v := .int .i64 id) rfl
  have hlt : B < W.heap.size := (Array.getElem?_eq_some_iff.1 (h : W.heap[B]? = _)).1
  show Calls Try.prog 27 #[.agg (msgCells m (.slice a n c)).toArray, .pointer (some ⟨B, 0, none⟩)] W _
  clear h
  by_cases h1 : m.to = id
  · have h1' : (m.to != id) = false := by simp [h1]
    clear h1
    go_enter Try.func27, Try.ntmps27
    go_wp2
    go_ret
    exact ⟨by simp [notOf, h1'], Gr.alloc (Gr.refl W) _⟩
  · have h1' : (m.to != id) = true := by simp [h1]
    clear h1
    go_enter Try.func27, Try.ntmps27
    go_wp2
    go_ret
    exact ⟨by simp [notOf, h1'], Gr.alloc (Gr.refl W) _⟩
theorem cut_enters : ∀ args w, (callFunc 27 args).run Try.prog w = .ok (.enter 27 args) w := enters_of Try.func27 (by kernel_rfl) rfl
set_option maxHeartbeats 1000000 in
theorem for_so (B : Nat) (id : Int) : So 29 #[.pointer (some ⟨B, 0, none⟩)] (toOf id) (BoxAt B id) := by
  intro W m a n c h
  have hc := cell_block (h : W.heap[B]? = _) (j := 0) (v := .int .i64 id) rfl
  have hlt : B < W.heap.size := (Array.getElem?_eq_some_iff.1 (h : W.heap[B]? = _)).1
  show Calls Try.prog 29 #[.agg (msgCells m (.slice a n c)).toArray, .pointer (some ⟨B, 0, none⟩)] W _
  clear h
  go_enter Try.func29, Try.ntmps29
  go_wp2
  go_ret
  exact ⟨rfl, Gr.alloc (Gr.refl W) _⟩
theorem for_enters : ∀ args w, (callFunc 29 args).run Try.prog w = .ok (.enter 29 args) w := enters_of Try.func29 (by kernel_rfl) rfl
end Go.Proofs.Ytajghkjghiifjaa
