/-
  Walks: slices.Grow of nothing, slices.Concat of two.
  Conditions: none beyond those typed at each theorem.
-/
import Derived.Test.YtbgcjbpkgijmeaaRa
import Derived.Shelf.Spec.SlicesGrow
namespace Go.Proofs
open Go.Shelf
def Try.lays8_ren : Go.Shelf.Ren := ⟨fun | 4 => 71 | n => n, fun | 22 => 30 | 25 => 5 | n => n, fun | n => n⟩
theorem Try.lays8 : Go.Proofs.Lays8.n4 Try.prog Try.lays8_ren := {
  mixed := by kernel_rfl
  f4 := ⟨Try.f71.name, by decide, Try.func71.trans (congrArg some (by kernel_rfl))⟩
  t0 := Try.underlying0
  a0 := Try.isAgg0
  z0 := Try.sizeOf0
  v0 := Try.zeroValue0
  t3 := Try.underlying3
  a3 := Try.isAgg3
  z3 := Try.sizeOf3
  v3 := Try.zeroValue3
  t4 := Try.underlying4
  a4 := Try.isAgg4
  z4 := Try.sizeOf4
  v4 := Try.zeroValue4
  t9 := Try.underlying9
  a9 := Try.isAgg9
  z9 := Try.sizeOf9
  v9 := Try.zeroValue9
  t20 := Try.underlying20
  a20 := Try.isAgg20
  z20 := Try.sizeOf20
  v20 := Try.zeroValue20
  t22 := Try.underlying30
  a22 := Try.isAgg30
  z22 := Try.sizeOf30
  v22 := Try.zeroValue30 }
end Go.Proofs
namespace Go.Proofs.Ytbgcjbpkgijmeaa
open Go Go.RowKit

theorem grow_any (w : World) (n : Nat) (hn : n ≤ 1000000000000) : Calls Try.prog 71 #[.slice none 0 0, .int .i64 n] w fun e w' => ∃ v, e = .returned v ∧ w'.ownsRow w.heap.size 5 1 v 0 [] ∧ Gr w w' := by
  obtain ⟨i0, hi, hz0, hz1, hz2⟩ := info_parts Try.info5
  by_cases h : n = 0
  · subst h
    refine (Any8.slices_Grow_room Try.lays8 none 0 0 0 w (by omega) (by omega) (by omega) (by omega)).mono ?_
    rintro e w' ⟨rfl, rfl⟩
    exact ⟨_, rfl, World.ownsRow_nil _ _ _ _, Gr.refl _⟩
  · refine (Any8.slices_Grow_grow Try.lays8 i0 (.int .u8 0) hi hz0 (by omega) none 0 0 n [] w (by omega) (by omega) (by rw [hz2]; omega) (by omega) (by simp) (fun _ => rfl) (fun a ha => by cases ha)).mono ?_
    rintro e w' ⟨rfl, rfl⟩
    refine ⟨_, rfl, ?_, (Gr.refl w).drew.alloc _⟩
    have hg := grownCap_ge w (0 + n) 0 5
    refine World.ownsRow_made w.drew _ _ (Nat.le_refl _) (grownCap_le_maxLen w (0 + n) 0 5 (by unfold maxLen; omega)) ?_
    show (#[] ++ Builtin.zeroCells #[.int .u8 0] (0 + n - 0) ++ Builtin.zeroCells #[.int .u8 0] (grownCap w (0 + n) 0 5 - (0 + n))).size = grownCap w (0 + n) 0 5 * 1
    rw [Nat.zero_add] at hg ⊢
    simp [Builtin.zeroCells]
    omega

set_option maxRecDepth 100000 in
set_option maxHeartbeats 1000000 in
theorem concat_any (w : World) (B : Nat) {S : Nat → Prop} {v1 v2 : Value} {l1 l2 : Bs} (hB : w.heap[B]? = some (.cells #[v1, v2] 30 (0, 0))) (h1 : IsBy S w v1 l1) (h2 : IsBy S w v2 l2) (hl : l1.length + l2.length ≤ 1000000000000) :
    Calls Try.prog 53 #[.slice (some ⟨B, 0, none⟩) 2 2] w fun e w' => ∃ v, e = .returned v ∧ OwnBy w.heap.size w' v (l1 ++ l2) ∧ Gr w w' := by
  obtain ⟨i0, hi, hz0, hz1, hz2⟩ := info_parts Try.info5
  obtain ⟨a1, c1, rfl, _, _⟩ := h1.len
  obtain ⟨a2, c2, rfl, _, _⟩ := h2.len
  have d0 := cell_block hB (j := 0) (v := .slice a1 l1.length c1) rfl
  have d1 := cell_block hB (j := 1) (v := .slice a2 l2.length c2) rfl
  have HG := Lib.hid (show Calls Try.prog 71 #[.slice none 0 0, .int .i64 ((l1.length : Int) + (l2.length : Int))] w fun e w' => ∃ v, e = .returned v ∧ w'.ownsRow w.heap.size 5 1 v 0 [] ∧ Gr w w' from by have := grow_any w (l1.length + l2.length) hl; rwa [Int.natCast_add] at this)
  have HB := Lib.hid hB
  have H1 := Lib.hid h1
  have H2 := Lib.hid h2
  have HBL := Lib.hid (Array.getElem?_eq_some_iff.1 hB).1
  clear hB h1 h2
  go_enter Try.func53, Try.ntmps53
  go_wp2
  refine wp_loop_rounds 3 ?_
  rw [rounds_succ]
  go_wp2
  rw [rounds_succ]
  go_wp2
  rw [rounds_succ]
  go_wp2_with fail
  refine HG.out.mono ?_
  rintro e w1 ⟨v, rfl, ho, hg⟩
  obtain ⟨va, vc, rfl⟩ := owns_slice ho
  have e0 := cell_block (hg.same HB.out) (j := 0) (v := .slice a1 l1.length c1) rfl
  have e1 := cell_block (hg.same HB.out) (j := 1) (v := .slice a2 l2.length c2) rfl
  obtain ⟨_, s1, s2⟩ := by_src (H1.out.gr hg)
  have HO := Lib.hid ho
  have HG1 := Lib.hid hg
  have S1 := Lib.hid s1
  have S2 := Lib.hid s2
  clear ho hg d0 d1 s1 s2
  go_wp2
  refine wp_loop_rounds 3 ?_
  rw [rounds_succ]
  go_wp2_with (at_builtin; go_loud (refine wpList_append_src rfl _ _ 30 rfl w.heap.size 5 i0 _ 1 1 Try.underlying30 hi hz0 hz1 hz2 rfl (by decide) _ 0 [] rfl HO.out a1 l1.length c1 (l1.map byteV) rfl ?c0 S1.out S2.out ?c2 ?c3 ?c4 ?c5 ?_))
  case c0 => simp
  case c2 => exact bytes_one l1
  case c3 => unfold maxLen; omega
  case c4 => omega
  case c5 => exact HG1.out.size
  intro a3 c3 w2 ho2 hg2
  have hG2 : Gr w w2 := grown_gr HG1.out hg2 fun k hk => (owns_elem HO.out hk).1
  have e1' := cell_block (hG2.same HB.out) (j := 1) (v := .slice a2 l2.length c2) rfl
  obtain ⟨_, s1, s2⟩ := by_src (H2.out.gr hG2)
  have HO2 := Lib.hid ho2
  have HG2 := Lib.hid hG2
  have T1 := Lib.hid s1
  have T2 := Lib.hid s2
  clear ho2 hg2 hG2 s1 s2 e0 e1
  go_wp2
  rw [rounds_succ]
  go_wp2_with (at_builtin; go_loud (refine wpList_append_src rfl _ _ 30 rfl w.heap.size 5 i0 _ 1 1 Try.underlying30 hi hz0 hz1 hz2 rfl (by decide) _ l1.length (l1.map byteV) rfl HO2.out a2 l2.length c2 (l2.map byteV) rfl ?d0 T1.out T2.out ?d2 ?d3 ?d4 ?d5 ?_))
  case d0 => simp
  case d2 => exact bytes_one l2
  case d3 => unfold maxLen; omega
  case d4 => omega
  case d5 => exact HG2.out.size
  intro a4 c4 w3 ho3 hg3
  have hG3 : Gr w w3 := grown_gr HG2.out hg3 fun k hk => (owns_elem HO2.out hk).1
  have HO3 := Lib.hid ho3
  have HG3 := Lib.hid hG3
  clear ho3 hg3 hG3 e1'
  go_wp2
  rw [rounds_succ]
  go_wp2
  go_ret
  exact ⟨_, rfl, by unfold OwnBy; rw [List.length_append, List.map_append]; exact HO3.out, HG3.out⟩
end Go.Proofs.Ytbgcjbpkgijmeaa
