/-
  Walks: files, operations in memory of their own.
  Conditions: none beyond those typed at each theorem.
-/
import Derived.Test.YtbgcjbpkgijmeaaDo
namespace Go.Proofs.Ytbgcjbpkgijmeaa
open Go Go.RowKit Go.Maps

theorem Try.info32 : (Try.prog.info? 32).map (fun i => (i.zero, i.size, i.bytes)) = some (some (.agg #[.int .u8 0, .string ⟨#[]⟩, .string ⟨#[]⟩, .slice none 0 0]), 4, 64) := by kernel_rfl
theorem sizeL_mem {l : List Fl} {f : Fl} (h : f ∈ l) : f.data.length ≤ sizeL l := by
  induction l with
  | nil => simp at h
  | cons g r ih =>
    rw [sizeL_cons]
    rcases List.mem_cons.1 h with rfl | h
    · omega
    · have := ih h; omega
theorem sizeQ_mem {q : List Opr} {o : Opr} (h : o ∈ q) : o.data.length ≤ sizeQ q := by
  induction q with
  | nil => simp at h
  | cons g r ih =>
    rw [sizeQ_cons]
    rcases List.mem_cons.1 h with rfl | h
    · omega
    · have := ih h; omega

set_option maxRecDepth 100000 in
set_option maxHeartbeats 1000000 in
theorem own40_any (w : World) {S : Nat → Prop} (v : Value) (xs : List Fl) (hx : IsRow flE S w v xs) (hl : xs.length ≤ 1000000) (hd : ∀ x ∈ xs, x.data.length ≤ 1000000000000) :
    Calls Try.prog 40 #[v, .func (.func 41) #[] #[]] w fun e w' => ∃ v', e = .returned v' ∧ OwnRow flE w.heap.size w' v' xs ∧ Gr w w' := by
  obtain ⟨i0, hi0, hz0, hz1, hz2⟩ := info_parts Try.info40
  obtain ⟨a, c, rfl, _, _⟩ := hx.len
  have HX := Lib.hid hx
  have HD := Lib.hid hd
  clear hx hd
  go_enter Try.func40, Try.ntmps40
  go_wp2
  go_loopw [4, 9] (fun v k wr => ∃ (j : Nat) (va : Option Addr) (vc : Nat), v = .slice va j vc ∧ k = .int .i64 j ∧ j ≤ xs.length ∧ OwnRow flE w.heap.size wr (.slice va j vc) (xs.take j) ∧ Gr w wr) (fun _ k _ => xs.length - (intOf k).toNat)
  case atStart => exact ⟨0, none, 0, rfl, rfl, Nat.zero_le _, OwnRow.nil _ _ _, Gr.refl _⟩
  case round =>
    obtain ⟨j, va, vc, rfl, rfl, hj, ho, hg⟩ := hrel
    by_cases hlt : j < xs.length
    · obtain ⟨x, hxj⟩ : ∃ x, xs[j]? = some x := ⟨_, List.getElem?_eq_getElem hlt⟩
      obtain ⟨b, o, c', hv, _, _, _, hrows⟩ := HX.out.some (by omega)
      simp only [Value.slice.injEq, true_and] at hv
      obtain ⟨rfl, rfl⟩ := hv
      obtain ⟨bv, hr, hbv⟩ := hrows j x hxj
      obtain ⟨ba, bc, rfl, _, _⟩ := hbv.len
      have hr := later_range hg hr
      have k0 : wr.cell? ⟨b, o + j * 2, none⟩ = some (strV x.name) := hr 0 _ rfl
      have k1 : wr.cell? ⟨b, o + j * 2 + 1, none⟩ = some (.slice ba x.data.length bc) := hr 1 _ rfl
      have hok := HX.out.ok x (List.mem_of_getElem? hxj)
      have hlk : (xs.take j).length = j := by rw [List.length_take]; omega
      obtain ⟨ys, hys⟩ := OwnRow.flat ho
      rw [hlk] at hys
      have hgA : Gr wr (wr.alloc (.cells #[strV x.name, .slice ba x.data.length bc] 40)) := Gr.alloc (Gr.refl _) _
      have HC := Lib.hid (file_any (wr.alloc (.cells #[strV x.name, .slice ba x.data.length bc] 40)) x (bv := .slice ba x.data.length bc) (hbv.gr (hg.trans hgA)) (by have := HD.out x (List.mem_of_getElem? hxj); omega))
      have HO := Lib.hid (And.intro (OwnRow.gr hgA ho) (And.intro (hg.trans hgA) (And.intro hok hxj)))
      have HYS := Lib.hid (show (wr.alloc (.cells #[strV x.name, .slice ba x.data.length bc] 40)).ownsRow w.heap.size 40 2 (.slice va j vc) j ys from ownsRow_dat (Gr.kp hgA _) hys)
      have hwz : w.heap.size ≤ wr.heap.size := hg.size
      clear ho hg hr hbv hrows hxj hys hok hgA hlk
      go_wp2_with fail
      refine HC.out.mono ?_
      rintro e w3 ⟨v', rfl, ho3, hg3⟩
      obtain ⟨ya, yc, rfl⟩ := ho3.slice
      obtain ⟨q1, q2, q3, q4⟩ := HO.out
      have HO3 := Lib.hid (And.intro (OwnRow.gr hg3 q1) (And.intro (q2.trans hg3) (And.intro (OwnBy.base (base' := w.heap.size) (by simp; omega) ho3) (And.intro q3 q4))))
      have hys3 := ownsRow_dat (Gr.kp hg3 _) HYS.out
      have HYS3 := Lib.hid hys3
      have hw3 : w.heap.size ≤ w3.heap.size := Nat.le_trans q2.size hg3.size
      clear ho3 hg3 q1 q2 q3 q4 hys3 HYS HO
      go_wp2_with (at_builtin; go_loud (refine wpList_append_own_at _ rfl _ _ 22 rfl w.heap.size 40 i0 _ 2 40 Try.underlying22 hi0 hz0 hz1 hz2 rfl (by decide) _ j ys rfl (HYS3.out.alloc _) ⟨w3.heap.size, 0, none⟩ 1 1 (flCells x (.slice ya x.data.length yc)) rfl ?c0 ?c1 ?c2 ?c3 ?c4 ?c5 ?_))
      case c0 => rfl
      case c1 => exact add_cells (range_row (alloc1_heap w3 _))
      case c2 => exact flE.one x _ rfl
      case c3 => unfold maxLen; omega
      case c4 => omega
      case c5 => simp; omega
      intro v' w5 hown hgrow _ _
      obtain ⟨q1, q2, q5, q3, q4⟩ := HO3.out
      obtain ⟨a5, c5, rfl⟩ := owns_slice hown
      have hlk : (xs.take j).length = j := by rw [List.length_take]; omega
      have hp := OwnRow.push (E := flE) q1 q5 q3 (by rw [hlk]; exact HYS3.out) (by rw [hlk]; exact hown) hgrow
      have htk : xs.take j ++ [x] = xs.take (j + 1) := by rw [List.take_add_one, q4]; rfl
      rw [htk] at hp
      have HP := Lib.hid (And.intro hp (grown_gr (q2.alloc _) hgrow fun q hq => (owns_elem HYS3.out hq).1))
      clear hown hgrow q1 q2 q3 q4 q5 hp htk hlk
      go_wp2
      exact ⟨⟨j + 1, a5, c5, by go_num, by go_num, by omega, HP.out.1, HP.out.2⟩, by simp [intOf]; omega⟩
    · obtain rfl : j = xs.length := by omega
      rw [List.take_length] at ho
      have HO := Lib.hid (And.intro ho hg)
      clear ho hg
      go_wp2
      go_ret
      exact ⟨_, rfl, HO.out⟩

set_option maxRecDepth 100000 in
set_option maxHeartbeats 1000000 in
theorem own42_any (w : World) {S : Nat → Prop} (v : Value) (xs : List Opr) (hx : IsRow opE S w v xs) (hl : xs.length ≤ 1000000) (hd : ∀ x ∈ xs, x.data.length ≤ 1000000000000) :
    Calls Try.prog 42 #[v, .func (.func 28) #[] #[]] w fun e w' => ∃ v', e = .returned v' ∧ OwnRow opE w.heap.size w' v' xs ∧ Gr w w' := by
  obtain ⟨i0, hi0, hz0, hz1, hz2⟩ := info_parts Try.info32
  obtain ⟨a, c, rfl, _, _⟩ := hx.len
  have HX := Lib.hid hx
  have HD := Lib.hid hd
  clear hx hd
  go_enter Try.func42, Try.ntmps42
  go_wp2
  go_loopw [4, 9] (fun v k wr => ∃ (j : Nat) (va : Option Addr) (vc : Nat), v = .slice va j vc ∧ k = .int .i64 j ∧ j ≤ xs.length ∧ OwnRow opE w.heap.size wr (.slice va j vc) (xs.take j) ∧ Gr w wr) (fun _ k _ => xs.length - (intOf k).toNat)
  case atStart => exact ⟨0, none, 0, rfl, rfl, Nat.zero_le _, OwnRow.nil _ _ _, Gr.refl _⟩
  case round =>
    obtain ⟨j, va, vc, rfl, rfl, hj, ho, hg⟩ := hrel
    by_cases hlt : j < xs.length
    · obtain ⟨x, hxj⟩ : ∃ x, xs[j]? = some x := ⟨_, List.getElem?_eq_getElem hlt⟩
      obtain ⟨b, o, c', hv, _, _, _, hrows⟩ := HX.out.some (by omega)
      simp only [Value.slice.injEq, true_and] at hv
      obtain ⟨rfl, rfl⟩ := hv
      obtain ⟨bv, hr, hbv⟩ := hrows j x hxj
      obtain ⟨ba, bc, rfl, _, _⟩ := hbv.len
      have hr := later_range hg hr
      have k0 : wr.cell? ⟨b, o + j * 4, none⟩ = some (.int .u8 x.kind) := hr 0 _ rfl
      have k1 : wr.cell? ⟨b, o + j * 4 + 1, none⟩ = some (strV x.name) := hr 1 _ rfl
      have k2 : wr.cell? ⟨b, o + j * 4 + 2, none⟩ = some (strV x.to) := hr 2 _ rfl
      have k3 : wr.cell? ⟨b, o + j * 4 + 3, none⟩ = some (.slice ba x.data.length bc) := hr 3 _ rfl
      have hok := HX.out.ok x (List.mem_of_getElem? hxj)
      have hlk : (xs.take j).length = j := by rw [List.length_take]; omega
      obtain ⟨ys, hys⟩ := OwnRow.flat ho
      rw [hlk] at hys
      have hgA : Gr wr (wr.alloc (.cells #[.int .u8 x.kind, strV x.name, strV x.to, .slice ba x.data.length bc] 32)) := Gr.alloc (Gr.refl _) _
      have HC := Lib.hid (op_any (wr.alloc (.cells #[.int .u8 x.kind, strV x.name, strV x.to, .slice ba x.data.length bc] 32)) x (bv := .slice ba x.data.length bc) (hbv.gr (hg.trans hgA)) (by have := HD.out x (List.mem_of_getElem? hxj); omega))
      have HO := Lib.hid (And.intro (OwnRow.gr hgA ho) (And.intro (hg.trans hgA) (And.intro hok hxj)))
      have HYS := Lib.hid (show (wr.alloc (.cells #[.int .u8 x.kind, strV x.name, strV x.to, .slice ba x.data.length bc] 32)).ownsRow w.heap.size 32 4 (.slice va j vc) j ys from ownsRow_dat (Gr.kp hgA _) hys)
      have hwz : w.heap.size ≤ wr.heap.size := hg.size
      clear ho hg hr hbv hrows hxj hys hok hgA hlk
      go_wp2_with fail
      refine HC.out.mono ?_
      rintro e w3 ⟨v', rfl, ho3, hg3⟩
      obtain ⟨ya, yc, rfl⟩ := ho3.slice
      obtain ⟨q1, q2, q3, q4⟩ := HO.out
      have HO3 := Lib.hid (And.intro (OwnRow.gr hg3 q1) (And.intro (q2.trans hg3) (And.intro (OwnBy.base (base' := w.heap.size) (by simp; omega) ho3) (And.intro q3 q4))))
      have hys3 := ownsRow_dat (Gr.kp hg3 _) HYS.out
      have HYS3 := Lib.hid hys3
      have hw3 : w.heap.size ≤ w3.heap.size := Nat.le_trans q2.size hg3.size
      clear ho3 hg3 q1 q2 q3 q4 hys3 HYS HO
      go_wp2_with (at_builtin; go_loud (refine wpList_append_own_at _ rfl _ _ 23 rfl w.heap.size 32 i0 _ 4 64 Try.underlying23 hi0 hz0 hz1 hz2 rfl (by decide) _ j ys rfl (HYS3.out.alloc _) ⟨w3.heap.size, 0, none⟩ 1 1 (opCells x (.slice ya x.data.length yc)) rfl ?c0 ?c1 ?c2 ?c3 ?c4 ?c5 ?_))
      case c0 => rfl
      case c1 => exact add_cells (range_row (alloc1_heap w3 _))
      case c2 => exact opE.one x _ rfl
      case c3 => unfold maxLen; omega
      case c4 => omega
      case c5 => simp; omega
      intro v' w5 hown hgrow _ _
      obtain ⟨q1, q2, q5, q3, q4⟩ := HO3.out
      obtain ⟨a5, c5, rfl⟩ := owns_slice hown
      have hlk : (xs.take j).length = j := by rw [List.length_take]; omega
      have hp := OwnRow.push (E := opE) q1 q5 q3 (by rw [hlk]; exact HYS3.out) (by rw [hlk]; exact hown) hgrow
      have htk : xs.take j ++ [x] = xs.take (j + 1) := by rw [List.take_add_one, q4]; rfl
      rw [htk] at hp
      have HP := Lib.hid (And.intro hp (grown_gr (q2.alloc _) hgrow fun q hq => (owns_elem HYS3.out hq).1))
      clear hown hgrow q1 q2 q3 q4 q5 hp htk hlk
      go_wp2
      exact ⟨⟨j + 1, a5, c5, by go_num, by go_num, by omega, HP.out.1, HP.out.2⟩, by simp [intOf]; omega⟩
    · obtain rfl : j = xs.length := by omega
      rw [List.take_length] at ho
      have HO := Lib.hid (And.intro ho hg)
      clear ho hg
      go_wp2
      go_ret
      exact ⟨_, rfl, HO.out⟩
end Go.Proofs.Ytbgcjbpkgijmeaa
