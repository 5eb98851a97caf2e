/-
  Walk: two rows of identities that are the same.
  Conditions: none beyond those typed at each theorem.
-/
import Derived.Test.YtkhkjcoejkgfeaaDoorSg
import Derived.Test.YtkhkjcoejkgfeaaDoorNm
namespace Go.Proofs.YtkhkjcoejkgfeaaDoor
open Go Go.RowKit

/-- Two identities are one. -/
def eqB (k s f k' s' f' : Int) : Bool := k == k' && (s == s' && f == f')
instance : DecidableEq Idn := fun a b => decidable_of_iff (a.kind = b.kind ∧ a.seq = b.seq ∧ a.fmt = b.fmt) (by cases a; cases b; simp)
theorem eqB_iff (x y : Idn) : eqB x.kind x.seq x.fmt y.kind y.seq y.fmt = decide (x = y) := by
  obtain ⟨k, s, f⟩ := x
  obtain ⟨k', s', f'⟩ := y
  unfold eqB
  by_cases h1 : k = k' <;> by_cases h2 : s = s' <;> by_cases h3 : f = f' <;> simp [h1, h2, h3]
theorem eql23 (w : World) (k s f k' s' f' : Int) : (binOp .eql 23 (.agg #[.int .u8 k, .int .i64 s, .int .i64 f]) (.agg #[.int .u8 k', .int .i64 s', .int .i64 f'])).run Tryd.prog w = .ok (.bool (eqB k s f k' s' f')) w := by
  unfold eqB
  by_cases h1 : k = k' <;> by_cases h2 : s = s' <;> by_cases h3 : f = f' <;> go_simp <;> simp [h1, h2, h3]
theorem neq23 (w : World) (k s f k' s' f' : Int) : (binOp .neq 23 (.agg #[.int .u8 k, .int .i64 s, .int .i64 f]) (.agg #[.int .u8 k', .int .i64 s', .int .i64 f'])).run Tryd.prog w = .ok (.bool (!eqB k s f k' s' f')) w := by
  unfold eqB
  by_cases h1 : k = k' <;> by_cases h2 : s = s' <;> by_cases h3 : f = f' <;> go_simp <;> simp [h1, h2, h3]
attribute [local go_sem ↓] eql23 neq23
set_option maxHeartbeats 400000 in
theorem idents_apart (w : World) (a1 a2 : Option Addr) (n1 c1 n2 c2 : Nat) (_h1 : n1 ≤ 1000000) (_h2 : n2 ≤ 1000000) (hne : n1 ≠ n2) :
    Calls Tryd.prog 16 #[.slice a1 n1 c1, .slice a2 n2 c2] w fun e w' => e = .returned (.bool false) ∧ Gr w w' := by
  have hq : ((n1 : Int) != (n2 : Int)) = true := by rw [bne_iff_ne]; omega
  go_enter Tryd.func16, Tryd.ntmps16
  go_wp2
  go_ret
  exact ⟨rfl, Gr.refl w⟩
set_option maxHeartbeats 400000 in
theorem idents_none (w : World) (a1 a2 : Option Addr) (c1 c2 : Nat) :
    Calls Tryd.prog 16 #[.slice a1 0 c1, .slice a2 0 c2] w fun e w' => e = .returned (.bool true) ∧ Gr w w' := by
  go_enter Tryd.func16, Tryd.ntmps16
  go_wp2
  go_loopw [5] (fun k wr => k = .int .i64 0 ∧ Gr w wr) (fun _ _ => 0)
  case atStart => exact ⟨rfl, Gr.refl w⟩
  case round =>
    obtain ⟨rfl, hgr⟩ := hrel
    go_wp2
    go_ret
    exact ⟨rfl, hgr⟩
set_option maxHeartbeats 400000 in
theorem idents_some (w : World) (b1 o1 c1 b2 o2 c2 : Nat) (xs ys : List Idn) (hlen : ys.length = xs.length) (hl : xs.length ≤ 1000000)
    (hx : ∀ (i : Nat) (z : Idn), xs[i]? = some z → w.rangeAt b1 (o1 + i * 3) (idCells z)) (hy : ∀ (i : Nat) (z : Idn), ys[i]? = some z → w.rangeAt b2 (o2 + i * 3) (idCells z)) :
    Calls Tryd.prog 16 #[.slice (some ⟨b1, o1, none⟩) xs.length c1, .slice (some ⟨b2, o2, none⟩) xs.length c2] w fun e w' => e = .returned (.bool (decide (xs = ys))) ∧ Gr w w' := by
  have HL := Lib.hid hlen
  have HX := Lib.hid hx
  have HY := Lib.hid hy
  clear hx hy hlen
  generalize hn : xs.length = n at *
  have HN := Lib.hid hn
  clear hn
  go_enter Tryd.func16, Tryd.ntmps16
  go_wp2
  go_loopw [5] (fun k wr => ∃ j : Nat, k = .int .i64 j ∧ j ≤ n ∧ xs.take j = ys.take j ∧ Gr w wr) (fun k _ => n - (intOf k).toNat)
  case atStart => exact ⟨0, rfl, by omega, rfl, Gr.refl _⟩
  case round =>
    obtain ⟨j, rfl, hj, htk, hgr⟩ := hrel
    have HT := Lib.hid htk
    clear htk
    by_cases hlt : j < n
    · obtain ⟨x, hxj⟩ : ∃ x, xs[j]? = some x := ⟨xs[j]'(by rw [HN.out]; exact hlt), List.getElem?_eq_getElem _⟩
      obtain ⟨y, hyj⟩ : ∃ y, ys[j]? = some y := ⟨ys[j]'(by rw [HL.out]; exact hlt), List.getElem?_eq_getElem _⟩
      have hrx := later_range hgr (HX.out j x hxj)
      have hry := later_range hgr (HY.out j y hyj)
      have x0 : wr.cell? ⟨b1, o1 + j * 3, none⟩ = some (.int .u8 x.kind) := hrx 0 _ rfl
      have x1 : wr.cell? ⟨b1, o1 + j * 3 + 1, none⟩ = some (.int .i64 x.seq) := hrx 1 _ rfl
      have x2 : wr.cell? ⟨b1, o1 + j * 3 + 2, none⟩ = some (.int .i64 x.fmt) := hrx 2 _ rfl
      have y0 : wr.cell? ⟨b2, o2 + j * 3, none⟩ = some (.int .u8 y.kind) := hry 0 _ rfl
      have y1 : wr.cell? ⟨b2, o2 + j * 3 + 1, none⟩ = some (.int .i64 y.seq) := hry 1 _ rfl
      have y2 : wr.cell? ⟨b2, o2 + j * 3 + 2, none⟩ = some (.int .i64 y.fmt) := hry 2 _ rfl
      have HXJ := Lib.hid hxj
      have HYJ := Lib.hid hyj
      clear hxj hyj hrx hry
      by_cases he : x = y
      · have hb : eqB x.kind x.seq x.fmt y.kind y.seq y.fmt = true := by rw [eqB_iff]; exact decide_eq_true he
        have HE := Lib.hid he
        clear he
        go_wp2
        go_quiet (fail)
        go_wp2
        exact ⟨⟨j + 1, by go_num, by omega, upto_step HXJ.out HYJ.out HT.out HE.out, hgr.drewN _⟩, by simp [intOf]; omega⟩
      · have hb : eqB x.kind x.seq x.fmt y.kind y.seq y.fmt = false := by rw [eqB_iff]; exact decide_eq_false he
        have HE := Lib.hid he
        clear he
        go_wp2
        go_quiet (fail)
        go_wp2
        go_ret
        exact ⟨ret_bool (by simp [upto_ne HXJ.out HYJ.out HE.out]), hgr.drewN _⟩
    · go_wp2
      go_ret
      exact ⟨ret_bool (by simp [upto_end HT.out (by rw [HN.out]; omega) (by rw [HL.out]; omega)]), hgr⟩
theorem idents_any (w : World) (S T : Nat → Prop) (v1 v2 : Value) (xs ys : List Idn) (h1 : IsIds S w v1 xs) (h2 : IsIds T w v2 ys) (l1 : xs.length ≤ 1000000) (l2 : ys.length ≤ 1000000) :
    Calls Tryd.prog 16 #[v1, v2] w fun e w' => e = .returned (.bool (decide (xs = ys))) ∧ Gr w w' := by
  obtain ⟨a1, c1, rfl, _, _⟩ := h1.len
  obtain ⟨a2, c2, rfl, _, _⟩ := h2.len
  by_cases hne : xs.length = ys.length
  · by_cases h0 : 0 < xs.length
    · obtain ⟨b, o, c, hv, _, hx⟩ := h1.some h0
      obtain ⟨b', o', c', hv', _, hy⟩ := h2.some (by omega)
      rw [hv, hv', ← hne]
      exact idents_some w b o c b' o' c' xs ys hne.symm l1 hx hy
    · have e1 : xs = [] := List.eq_nil_of_length_eq_zero (by omega)
      have e2 : ys = [] := List.eq_nil_of_length_eq_zero (by omega)
      subst e1; subst e2
      exact (idents_none w a1 a2 c1 c2).mono fun e w' ⟨he, hw⟩ => ⟨by rw [he]; simp, hw⟩
  · refine (idents_apart w a1 a2 _ c1 _ c2 l1 l2 hne).mono fun e w' ⟨he, hw⟩ => ⟨?_, hw⟩
    rw [he]; exact ret_bool (by simp; intro h; exact hne (by rw [h]))
end Go.Proofs.YtkhkjcoejkgfeaaDoor
