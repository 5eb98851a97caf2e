/-
  Walks: the iterator over messages.
-/
import Derived.Test.YtajghkjghiifjaaWk
import Derived.OwnWalkIn
import Derived.TacticsInMore
import Derived.LoopNIn
import Derived.LoopIn
import Derived.Shelf.Abstract
import Derived.Shelf.RegionOpen
namespace Go.Proofs.Ytajghkjghiifjaa
open Go Go.RowKit
attribute [local go_sem ↓] opLoad31_eq opStore31_eq opRow1_eq opLoad31_in opStore31_in opRow1_in
attribute [local go_sem] msgV opLoad31 opStore31 opRow1_msg rowAt_alloc_at rowAt_alloc_past rowAt_drew wholeAt_alloc_at wholeAt_alloc_past wholeAt_drew setRow_alloc_at setRow_alloc_past msg_0 msg_1 msg_2 msg_3 msg_9 msg_g0 msg_g1 msg_g2 msg_g3 msg_g9 msg_set9 msg_set3 msg_size msgCells_length msg_one_slice gr_alloc' gr_drew' gr_drewN'

/-- Of the first j messages those of which it is so, with their places. -/
def selUp (p : Msg → Bool) (xs : List Msg) : Nat → List (Nat × Msg)
  | 0 => []
  | j + 1 => selUp p xs j ++ match xs[j]? with
    | some m => if p m then [(j, m)] else []
    | none => []
theorem selUp_yes {p : Msg → Bool} {xs : List Msg} {j : Nat} {m : Msg} (hm : xs[j]? = some m) (hp : p m = true) : selUp p xs (j + 1) = selUp p xs j ++ [(j, m)] := by simp [selUp, hm, hp]
theorem selUp_no {p : Msg → Bool} {xs : List Msg} {j : Nat} {m : Msg} (hm : xs[j]? = some m) (hp : p m = false) : selUp p xs (j + 1) = selUp p xs j := by simp [selUp, hm, hp]
theorem selUp_prefix (p : Msg → Bool) (xs : List Msg) (j : Nat) : ∀ d, selUp p xs j <+: selUp p xs (j + d)
  | 0 => List.prefix_refl _
  | d + 1 => (selUp_prefix p xs j d).trans (by rw [← Nat.add_assoc]; exact List.prefix_append _ _)
theorem selUp_at {p : Msg → Bool} {xs : List Msg} {j n : Nat} {m : Msg} (hm : xs[j]? = some m) (hp : p m = true) (hj : j < n) : (selUp p xs n)[(selUp p xs j).length]? = some (j, m) := by
  have h := selUp_prefix p xs (j + 1) (n - (j + 1))
  rw [show j + 1 + (n - (j + 1)) = n by omega, selUp_yes hm hp] at h
  obtain ⟨t, ht⟩ := h
  rw [← ht]; simp
theorem selUp_lt {p : Msg → Bool} {xs : List Msg} {j n : Nat} {m : Msg} (hm : xs[j]? = some m) (hp : p m = true) (hj : j < n) : (selUp p xs j).length < (selUp p xs n).length :=
  (List.getElem?_eq_some_iff.1 (selUp_at hm hp hj)).1
theorem selUp_filter (p : Msg → Bool) (xs : List Msg) : ∀ n, (selUp p xs n).map (·.2) = (xs.take n).filter p
  | 0 => by simp [selUp]
  | n + 1 => by
    rw [selUp, List.map_append, selUp_filter p xs n, List.take_add_one, List.filter_append]
    congr 1
    cases h : xs[n]? with
    | none => simp
    | some m => by_cases hp : p m <;> simp [hp]

/-- A predicate of messages, as a function value: it answers p; N0: what it leans on. -/
def So (f : FuncId) (cap : Array Value) (p : Msg → Bool) (N0 : World → Prop) : Prop :=
  ∀ (W : World) (m : Msg) (a : Option Addr) (n c : Nat), N0 W → Calls Try.prog f (#[msgV m (.slice a n c)] ++ cap) W fun e W' => e = .returned (.bool (p m)) ∧ Gr W W'

/-- What the iterator hands over: the k-th place and message. -/
def Hands (base : Nat) (sel : List (Nat × Msg)) (k : Nat) (args : Array Value) (A : World) : Prop :=
  ∃ i m fv, sel[k]? = some (i, m) ∧ args = #[.int .i64 i, msgV m fv] ∧ OwnEnts base A fv m.ents

set_option maxRecDepth 100000 in
set_option maxHeartbeats 1000000 in
theorem those1_in (S : Nat → Prop) (xs : List Msg) (b o c n B1 B2 base f : Nat) (cap : Array Value) (p : Msg → Bool) (N0 : World → Prop) (hso : So f cap p N0) (heg : ∀ args w, (callFunc f args).run Try.prog w = .ok (.enter f args) w) (s l : Value)
    (Nd : Nat → Obj → Prop) (hn : xs.length = n) (hl : n ≤ 1000000) (hs : ∀ m ∈ xs, m.ents.length ≤ 1000000)
    (nB1 : ∀ c e f, Nd B1 (.cells c e f)) (nB2 : ∀ c e f, Nd B2 (.cells c e f)) (nS : ∀ b, S b → ∀ c e f, Nd b (.cells c e f)) (nb : ∀ c e f, Nd b (.cells c e f)) (nN : ∀ A B, N0 A → Kp Nd A B → N0 B) (nG : ∀ A B, N0 A → Gr A B → N0 B)
    (ll : Nat) (J : Nat → World → Prop) (Jx : World → Prop) (W : World) (hbase : base ≤ W.heap.size)
    (h1 : W.heap[B1]? = some (.cells #[.slice (some ⟨b, o, none⟩) n c, s, l] 26 (0, 0))) (h2 : W.heap[B2]? = some (.cells #[.func (.func f) #[] cap] 59 (0, 0))) (h3 : N0 W)
    (hx : ∀ (i : Nat) (m : Msg), xs[i]? = some m → ∃ ev, W.rangeAt b (o + i * 15) (msgCells m ev) ∧ IsEnts S W ev m.ents)
    (hJ : ∀ k A B, J k A → Gr A B → J k B)
    (hY : ∀ k args A, k < (selUp p xs n).length → J k A → Hands base (selUp p xs n) k args A → YieldAt Fence.wide 0 Try.prog ll args A fun e B =>
      (e = .returned (.bool true) ∧ J (k + 1) B ∧ Kp Nd A B) ∨ (e = .returned (.bool false) ∧ Jx B))
    (h0 : J 0 W) :
    CallsIn Fence.wide 0 Try.prog 33 #[.func (.yield ll) #[] #[], .pointer (some ⟨B1, 0, none⟩), .pointer (some ⟨B2, 0, none⟩)] W fun e W' => (∃ v, e = .returned v) ∧ (J (selUp p xs n).length W' ∨ Jx W') := by
  refine callsIn_of_wp Try.func33 rfl trivial ?_ rfl
  simp only [Try.ntmps33, List.size_toArray, List.length_cons, List.length_nil, Nat.reduceAdd, Nat.reduceSub, Array.replicate_succ, Array.replicate_zero, List.push_toArray, List.append_toArray, List.nil_append, List.cons_append]
  refine wpIn_scope_label 0 (fun a' W' => ∃ (j : Nat) (u5 u6 u7 u8 u9 u10 u11 u12 u13 u14 u15 u16 u17 u18 u19 u20 u21 u22 u23 u24 u25 u26 u27 u28 u29 : Value),
      a' = { tmps := #[.func (.yield ll) #[] #[], .pointer (some ⟨B1, 0, none⟩), .pointer (some ⟨B2, 0, none⟩), undef, .int .i64 j, u5, u6, u7, u8, u9, u10, u11, u12, u13, u14, u15, u16, u17, u18, u19, u20, u21, u22, u23, u24, u25, u26, u27, u28, u29], defers := [] }
      ∧ j ≤ n ∧ J (selUp p xs j).length W' ∧ Kp Nd W W') (fun a' _ => n - (intOf (a'.tmps.getD 4 undef)).toNat) rfl rfl ?_ ?_
  · gi_wp2
    exact ⟨0, _, _, _, _, _, _, _, _, _, _, _, _, _, _, _, _, _, _, _, _, _, _, _, _, _, rfl, Nat.zero_le _, h0, Kp.refl _ _⟩
  · rintro a' A ⟨j, u5, u6, u7, u8, u9, u10, u11, u12, u13, u14, u15, u16, u17, u18, u19, u20, u21, u22, u23, u24, u25, u26, u27, u28, u29, rfl, hj, hJA, hk⟩
    have hA1 := hk.keep _ _ h1 (nB1 _ _ _)
    have hA2 := hk.keep _ _ h2 (nB2 _ _ _)
    have hA3 := nN _ _ h3 hk
    have c10 := cell_block hA1 (j := 0) (v := .slice (some ⟨b, o, none⟩) n c) rfl
    have c20 := cell_block hA2 (j := 0) (v := .func (.func f) #[] cap) rfl
    have lB1 : B1 < A.heap.size := (Array.getElem?_eq_some_iff.1 hA1).1
    have lB2 : B2 < A.heap.size := (Array.getElem?_eq_some_iff.1 hA2).1
    by_cases hlt : j < n
    · obtain ⟨x, hxj⟩ : ∃ x, xs[j]? = some x := ⟨xs[j]'(by rw [hn]; exact hlt), List.getElem?_eq_getElem _⟩
      obtain ⟨ev, rx, ex⟩ := hx j x hxj
      obtain ⟨ea, ec, rfl, _, _⟩ := ex.len
      have lx : rowAt A b (o + j * 15) 15 = some (msgCells x (.slice ea x.ents.length ec)).toArray := msg_row (Gr.refl A) (rangeAt_kp hk rx (fun _ _ _ _ => nb _ _ _))
      have exA : IsEnts S A (.slice ea x.ents.length ec) x.ents := SL.kp hk ex (fun b c e f hS _ => nS b hS c e f)
      have hlx := hs x (List.mem_of_getElem? hxj)
      have HN0 := Lib.hid (nG _ _ hA3 (Gr.alloc (Gr.refl A) (.cells (msgCells x (.slice ea x.ents.length ec)).toArray 31)))
      have HSO := Lib.hid hso
      have HX := Lib.hid hx
      have HS := Lib.hid hs
      have HNd := Lib.hid (And.intro nB1 (And.intro nB2 (And.intro nS (And.intro nb (And.intro nN nG)))))
      have HJ := Lib.hid hJ
      have HY := Lib.hid hY
      have H123 := Lib.hid (And.intro h1 (And.intro h2 h3))
      have HK := Lib.hid hk
      have HJA := Lib.hid hJA
      have HXJ := Lib.hid hxj
      have HEX := Lib.hid exA
      have HNn := Lib.hid hn
      clear hx hs nB1 nB2 nS nb nN nG hJ hY h1 h2 h3 hk hJA hxj exA hA1 hA2 hA3 hso rx ex h0 hn
      have hjn : ((j : Int) == (n : Int)) = false := beq_eq_false_iff_ne.2 (by omega)
      gi_wp2_with fail
      refine ⟨trivial, rfl, (callsIn_wide.2 (HSO.out _ x ea _ ec HN0.out)).mono ?_⟩
      rintro e w1 ⟨rfl, hg1⟩
      have hbox := hg1.same (alloc1_heap A (.cells (msgCells x (.slice ea x.ents.length ec)).toArray 31))
      have hgA : Gr A w1 := Gr.trans (Gr.alloc (Gr.refl A) _) hg1
      have hsz : A.heap.size < w1.heap.size := by have := hg1.size; simp at this; omega
      by_cases hp : p x = true
      · have c9 := cell_block hbox (j := 9) (v := .slice ea x.ents.length ec) rfl
        have HC := Lib.hid (clone_any w1 S _ x.ents (HEX.out.gr hgA) hlx)
        have HBOX := Lib.hid hbox
        have HGA := Lib.hid hgA
        clear hbox hgA hg1 lx c10 c20
        gi_wp2_with fail
        refine ⟨trivial, rfl, (callsIn_wide.2 HC.out).mono ?_⟩
        rintro e w2 ⟨fv, rfl, hg2, ho2⟩
        obtain ⟨fa, fc, rfl⟩ := owns_slice ho2
        have hb2 := hg2.same HBOX.out
        have hsz2 : w1.heap.size ≤ w2.heap.size := hg2.size
        have c9' := cell_block hb2 (j := 9) (v := .slice ea x.ents.length ec) rfl
        have f9' := frozen_block hb2 (j := 9)
        have hb3 := setCell_block hb2 (j := 9) (.slice fa x.ents.length fc)
        have r3 : rowAt (w2.setCell ⟨A.heap.size, 9, none⟩ (.slice fa x.ents.length fc)) A.heap.size 0 15 = some (msgCells x (.slice fa x.ents.length fc)).toArray := rowAt_block hb3 rfl
        have hG3 : Gr A (w2.setCell ⟨A.heap.size, 9, none⟩ (.slice fa x.ents.length fc)) := Gr.set (HGA.out.trans hg2) (Nat.le_refl _) _
        have hO3 : OwnEnts base (w2.setCell ⟨A.heap.size, 9, none⟩ (.slice fa x.ents.length fc)) (.slice fa x.ents.length fc) x.ents := by
          have hb : base ≤ w1.heap.size := by have := HK.out.size; omega
          refine owns_other (ho2.base hb) fun k hk => setCell_other _ ?_
          have := (World.ownsRow.lt ho2 k hk).1
          omega
        obtain ⟨fn, tmps, assign, body, hy, hR⟩ := HY.out _ #[.int .i64 j, msgV x (.slice fa x.ents.length fc)] _ (selUp_lt HXJ.out hp hlt) (HJ.out _ _ _ HJA.out hG3) ⟨j, x, _, selUp_at HXJ.out hp hlt, rfl, hO3⟩
        simp only [msgV] at hy
        have HR := Lib.hid hR
        have HG3 := Lib.hid hG3
        clear hb2 hb3 hg2 ho2 hG3 hO3 hR c9
        gi_wp2_with fail
        refine ⟨rfl, HR.out.mono ?_⟩
        rintro e W3 (⟨rfl, hJ3, hk3⟩ | ⟨rfl, hJx3⟩)
        · have HJ3 := Lib.hid hJ3
          have HK3 := Lib.hid hk3
          clear hJ3 hk3 r3 c9' f9' hy
          gi_wp2
          refine wpIn_goto ?_
          refine ⟨rfl, ⟨j + 1, _, _, _, _, _, _, _, _, _, _, _, _, _, _, _, _, _, _, _, _, _, _, _, _, _, by rw [show ((j + 1 : Nat) : Int) = (j : Int) + 1 by omega], by omega, ?_, ?_⟩, by simp [intOf]; omega⟩
          · rw [selUp_yes HXJ.out hp, List.length_append]; exact HJ3.out
          · exact (HK.out.trans (HG3.out.kp _)).trans HK3.out
        · gi_wp2
          simp only [Exit.jump]
          exact bodyPost_ret (results_none rfl _ _ _) rfl ⟨⟨_, rfl⟩, .inr hJx3⟩
      · have hp' : p x = false := by simpa using hp
        clear hp
        gi_wp2
        refine wpIn_goto ?_
        refine ⟨rfl, ⟨j + 1, _, _, _, _, _, _, _, _, _, _, _, _, _, _, _, _, _, _, _, _, _, _, _, _, _, by rw [show ((j + 1 : Nat) : Int) = (j : Int) + 1 by omega], by omega, ?_, ?_⟩, by simp [intOf]; omega⟩
        · rw [selUp_no HXJ.out hp']; exact HJ.out _ _ _ HJA.out hgA
        · exact HK.out.trans (hgA.kp _)
    · obtain rfl : j = n := by omega
      have hjn : ((j : Int) == (j : Int)) = true := beq_iff_eq.2 rfl
      gi_wp2
      simp only [Exit.jump]
      exact bodyPost_ret (results_none rfl _ _ _) rfl ⟨⟨_, rfl⟩, .inl hJA⟩
end Go.Proofs.Ytajghkjghiifjaa
