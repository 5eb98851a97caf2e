/-
  Walk of the document's answer: files without one.
  Conditions: none beyond those typed at each theorem.
-/
import Derived.Test.YtbgcjbpkgijmeaaEc
import Derived.Deep.DrawnRows
namespace Go.Proofs.Ytbgcjbpkgijmeaa
open Go Go.RowKit
attribute [local go_sem ↓] Go.wp_at_zero Go.wp_at_succ
attribute [local go_sem high] str_eql str_neq str_lss str_leq str_geq str_eql0 str_neq0

theorem owns_empty {w : World} {base n : Nat} (e : TypeId) (size : Nat) (hn : n = w.heap.size) (hb : base ≤ w.heap.size) : (w.alloc (.cells #[] e)).ownsRow base e size (.slice (some ⟨n, 0, none⟩) 0 0) 0 [] := by
  subst hn
  exact World.ownsRow_made w #[] 0 hb (Nat.zero_le _) (by simp)

set_option maxRecDepth 100000 in
set_option maxHeartbeats 2000000 in
theorem without_any (w : World) {S : Nat → Prop} (v : Value) (l : List Fl) (r : Int) (hx : IsFls S w v l) (hl : l.length ≤ 2000000) (hr : -1 ≤ r ∧ r < l.length) :
    Calls Try.prog 72 #[v, .int .i64 r] w fun e w' => ∃ v', e = .returned v' ∧ IsFls (· < w'.heap.size) w' v' (withoutP l r) ∧ Gr w w' := by
  obtain ⟨i0, hi0, hz0, hz1, hz2⟩ := info_parts Try.info40
  obtain ⟨a, c, rfl, hcap, hcm⟩ := hx.len
  by_cases h0 : r < 0
  · have hv : withoutP l r = l := if_pos h0
    rw [hv]
    have HX := Lib.hid (row_inn (by decide) hx)
    clear hx hv
    go_enter Try.func72, Try.ntmps72
    go_wp2
    go_ret
    exact ⟨_, rfl, HX.out, Gr.refl _⟩
  · obtain ⟨k, rfl⟩ : ∃ k : Nat, r = k := ⟨r.toNat, by omega⟩
    have hk : k < l.length := by omega
    have hv : withoutP l k = l.take k ++ l.drop (k + 1) := by unfold withoutP; rw [if_neg h0, Int.toNat_natCast]
    rw [hv]
    obtain ⟨ys1, s1, -, z1, r1⟩ := src_of_fls (hx.take (k := k) (by omega))
    obtain ⟨a2, ha2, hx2⟩ := row_from hx (k := k + 1) (by omega)
    obtain ⟨ys2, s2, -, z2, r2⟩ := src_of_fls hx2
    subst ha2
    have l1 : ys1.length = k * 2 := by rw [s1.len, List.length_take]; congr 1; omega
    have l2 : ys2.length = (l.length - (k + 1)) * 2 := by rw [s2.len, List.length_drop]
    have HOE : Hid (((w.alloc (.cells #[] 40)).drew).ownsRow w.heap.size 40 2 (.slice (some ⟨w.heap.size, 0, none⟩) 0 0) 0 []) := Lib.hid (ownsRow_dat (Gr.kp (Gr.drew (Gr.refl _)) _) (owns_empty 40 2 rfl (Nat.le_refl _)))
    have HS := Lib.hid (s1.append s2)
    have HL1 := Lib.hid l1
    have HL2 := Lib.hid l2
    have HZ1 := Lib.hid z1
    have HZ2 := Lib.hid z2
    have HR1 := Lib.hid r1
    have HR2 := Lib.hid r2
    have HU1 := Lib.hid s1.one_cell
    have HU2 := Lib.hid s2.one_cell
    obtain ⟨N, hN⟩ : ∃ N, (l.take k ++ l.drop (k + 1)).length = N := ⟨_, rfl⟩
    have HV := Lib.hid (show k + (l.length - (k + 1)) = N by rw [← hN, List.length_append, List.length_take, List.length_drop]; omega)
    have HN := Lib.hid hN
    clear hN
    clear hx hx2 s1 s2 l1 l2 z1 z2 r1 r2 hv
    go_enter Try.func72, Try.ntmps72
    go_wp2_with fail
    have hkc : k ≤ c := by omega
    have hk0 : 0 ≤ (k : Int) + 1 := by omega
    have hkn : k + 1 ≤ l.length := hk
    have hwk : IntKind.i64.wrap ((k : Int) + 1) = (k : Int) + 1 := by rw [IntKind.wrap_i64]; omega
    have htn : ((k : Int) + 1).toNat = k + 1 := by omega
    have hkn2 : (k : Int) + 1 ≤ (l.length : Int) := by omega
    have HB1 := Lib.hid (show 0 + k ≤ maxLen by unfold maxLen; omega)
    have HB2 := Lib.hid (show (0 + k) * 40 ≤ 140737488355328 by omega)
    have HB3 := Lib.hid (show k + (l.length - (k + 1)) ≤ maxLen by unfold maxLen; omega)
    have HB4 := Lib.hid (show (k + (l.length - (k + 1))) * 40 ≤ 140737488355328 by omega)
    have HB5 := Lib.hid (show w.heap.size ≤ ((w.alloc (.cells #[] 40)).drew).heap.size by show w.heap.size ≤ (w.alloc (.cells #[] 40)).heap.size; simp)
    have HGA := Lib.hid (show Gr w ((w.alloc (.cells #[] 40)).drew) from Gr.drew (Gr.alloc (Gr.refl _) _))
    have HGW := Lib.hid (show ∀ w8, ((w.alloc (.cells #[] 40)).drew).grownBy w8 (Value.ownBlock (.slice (some ⟨w.heap.size, 0, none⟩) 0 0)) → Gr w w8 from
      fun w8 hgr => Below.grown HGA.out hgr HB5.out (by intro q hq; simp [Value.ownBlock] at hq; omega))
    go_region_law (first
      | (refine step_append_src rfl (.tmp 8) (.tmp 11) 22 rfl w.heap.size 40 i0 _ 2 40 Try.underlying22 hi0 hz0 hz1 hz2 rfl (by decide) (.slice (some ⟨w.heap.size, 0, none⟩) 0 0) 0 [] (by simp [Act.eval]) HOE.out a k c ys1 (by simp [Act.eval]) HL1.out HZ1.out (HR1.out _ HGA.out) HU1.out HB1.out HB2.out HB5.out ?_
         intro a8 c8 w8 hown8 hgrow8
         have hg8 := Lib.hid (HGW.out w8 hgrow8)
         have ho8 := Lib.hid hown8
         clear hown8 hgrow8
         simp only [Nat.zero_add, List.nil_append] at ho8 ⊢)
      | (refine step_append_src rfl (.tmp 12) (.tmp 16) 22 rfl w.heap.size 40 i0 _ 2 40 Try.underlying22 hi0 hz0 hz1 hz2 rfl (by decide) (.slice a8 k c8) k ys1 (by simp [Act.eval]) ho8.out (if c = k + 1 then a else a.map (·.add ((k + 1) * 2))) (l.length - (k + 1)) (c - (k + 1)) ys2 (by simp [Act.eval]) HL2.out HZ2.out (HR2.out _ hg8.out) HU2.out HB3.out HB4.out hg8.out.size ?_
         intro a9 c9 w9 hown9 hgrow9
         have hg9 := Lib.hid (Below.grown hg8.out hgrow9 hg8.out.size fun q hq => (owns_elem ho8.out hq).1)
         rw [HV.out] at hown9
         have ho9 := Lib.hid hown9
         rw [HV.out]
         clear hown9 hgrow9 ho8 hg8))
    go_wp2
    all_goals
      go_ret
      exact ⟨_, rfl, fls_of_src HS.out (by rw [HN.out]; exact ho9.out) hg9.out, hg9.out⟩
end Go.Proofs.Ytbgcjbpkgijmeaa
