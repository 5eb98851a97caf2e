/-
  Walks: rows of messages compared.
-/
import Derived.Test.YtajghkjghiifjaaRo
import Derived.StillTailTactics
namespace Go.Proofs.Ytajghkjghiifjaa
open Go Go.RowKit

theorem cells15_at {w : World} {b o : Nat} {x0 x1 x2 x3 x4 x5 x6 x7 x8 x9 x10 x11 x12 x13 x14 : Value} (h : w.rangeAt b o [x0, x1, x2, x3, x4, x5, x6, x7, x8, x9, x10, x11, x12, x13, x14]) :
    w.cell? ⟨b, o, none⟩ = some x0 ∧ w.cell? ⟨b, o + 1, none⟩ = some x1 ∧ w.cell? ⟨b, o + 2, none⟩ = some x2 ∧ w.cell? ⟨b, o + 3, none⟩ = some x3 ∧ w.cell? ⟨b, o + 4, none⟩ = some x4 ∧ w.cell? ⟨b, o + 5, none⟩ = some x5 ∧ w.cell? ⟨b, o + 6, none⟩ = some x6 ∧ w.cell? ⟨b, o + 7, none⟩ = some x7 ∧
    w.cell? ⟨b, o + 8, none⟩ = some x8 ∧ w.cell? ⟨b, o + 9, none⟩ = some x9 ∧ w.cell? ⟨b, o + 10, none⟩ = some x10 ∧ w.cell? ⟨b, o + 11, none⟩ = some x11 ∧ w.cell? ⟨b, o + 12, none⟩ = some x12 ∧ w.cell? ⟨b, o + 13, none⟩ = some x13 ∧ w.cell? ⟨b, o + 14, none⟩ = some x14 :=
  ⟨h 0 _ rfl, h 1 _ rfl, h 2 _ rfl, h 3 _ rfl, h 4 _ rfl, h 5 _ rfl, h 6 _ rfl, h 7 _ rfl, h 8 _ rfl, h 9 _ rfl, h 10 _ rfl, h 11 _ rfl, h 12 _ rfl, h 13 _ rfl, h 14 _ rfl⟩

theorem opLoad_msg {w : World} {b o : Nat} {m : Msg} {ev : Value} (h : w.rangeAt b o (msgCells m ev)) : opLoad Try.prog 31 (.pointer (some ⟨b, o, none⟩)) w = .ok (.value (msgV m ev)) w := by
  rw [opLoad31, msg_row (Gr.refl w) h]; rfl
attribute [local go_sem ↓] opLoad31_eq

def Small (ms : List Msg) : Prop := ms.length ≤ 1000000 ∧ ∀ m ∈ ms, m.ents.length ≤ 1000000

set_option maxRecDepth 100000 in
set_option maxHeartbeats 1000000 in
theorem all_some (w : World) (S T : Nat → Prop) (b1 o1 c1 b2 o2 c2 : Nat) (xs ys : List Msg) (hlen : ys.length = xs.length) (hl : xs.length ≤ 1000000)
    (sx : ∀ m ∈ xs, m.ents.length ≤ 1000000) (sy : ∀ m ∈ ys, m.ents.length ≤ 1000000)
    (hx : ∀ (i : Nat) (m : Msg), xs[i]? = some m → ∃ ev, w.rangeAt b1 (o1 + i * 15) (msgCells m ev) ∧ IsEnts S w ev m.ents)
    (hy : ∀ (i : Nat) (m : Msg), ys[i]? = some m → ∃ ev, w.rangeAt b2 (o2 + i * 15) (msgCells m ev) ∧ IsEnts T w ev m.ents) :
    Calls Try.prog 14 #[.slice (some ⟨b1, o1, none⟩) xs.length c1, .slice (some ⟨b2, o2, none⟩) xs.length c2] w fun e w' => e = .returned (.bool (decide (xs = ys))) ∧ Gr w w' := by
  have HL := Lib.hid hlen
  have HX := Lib.hid hx
  have HY := Lib.hid hy
  have SX := Lib.hid sx
  have SY := Lib.hid sy
  clear hx hy hlen sx sy
  generalize hn : xs.length = n at *
  have HN := Lib.hid hn
  clear hn
  go_enter Try.func14, Try.ntmps14
  go_wp2
  go_loopw [5] (fun k wr => ∃ j : Nat, k = .int .i64 j ∧ j ≤ n ∧ xs.take j = ys.take j ∧ Gr w wr) (fun k _ => n - (intOf k).toNat)
  case atStart => exact ⟨0, rfl, by omega, rfl, Gr.refl _⟩
  case round =>
    obtain ⟨j, rfl, hj, htk, hgr⟩ := hrel
    have HT := Lib.hid htk
    have HG := Lib.hid hgr
    clear htk hgr
    by_cases hlt : j < n
    · obtain ⟨x, hxj⟩ : ∃ x, xs[j]? = some x := ⟨xs[j]'(by rw [HN.out]; exact hlt), List.getElem?_eq_getElem _⟩
      obtain ⟨y, hyj⟩ : ∃ y, ys[j]? = some y := ⟨ys[j]'(by rw [HL.out]; exact hlt), List.getElem?_eq_getElem _⟩
      obtain ⟨ev, rx, ex⟩ := HX.out j x hxj
      obtain ⟨fv, ry, ey⟩ := HY.out j y hyj
      have lx := opLoad_msg (later_range (HG.out.drew) rx)
      have ly := opLoad_msg (later_range (HG.out.drew) ry)
      have HE := Lib.hid (alike20_any wr.drew S T x y ev fv (ex.gr (HG.out.drew)) (ey.gr (HG.out.drew)) (SX.out x (List.mem_of_getElem? hxj)) (SY.out y (List.mem_of_getElem? hyj)))
      have HXJ := Lib.hid hxj
      have HYJ := Lib.hid hyj
      clear hxj hyj rx ry ex ey
      go_wp2_with fail
      go_still_tail 8, (by kernel_rfl)
      go_wp2_with (go_at_call 15; refine HE.out.mono ?_; rintro e w1 ⟨rfl, hg1⟩)
      · have hne : (!decide (x = y)) = true := by assumption
        go_ret
        exact ⟨ret_bool (by simp [upto_ne HXJ.out HYJ.out (by simpa using hne)]), HG.out.drew.trans hg1⟩
      · have he : (!decide (x = y)) = false := by assumption
        exact ⟨⟨j + 1, by go_num, by omega, upto_step HXJ.out HYJ.out HT.out (by simpa using he), HG.out.drew.trans hg1⟩, by simp [intOf]; omega⟩
    · go_wp2
      go_ret
      exact ⟨ret_bool (by simp [upto_end HT.out (by rw [HN.out]; omega) (by rw [HL.out]; omega)]), HG.out⟩

set_option maxHeartbeats 400000 in
theorem all_apart (w : World) (a1 a2 : Option Addr) (n1 c1 n2 c2 : Nat) (_h1 : n1 ≤ 1000000) (_h2 : n2 ≤ 1000000) (hne : n1 ≠ n2) :
    Calls Try.prog 14 #[.slice a1 n1 c1, .slice a2 n2 c2] w fun e w' => e = .returned (.bool false) ∧ Gr w w' := by
  have hq : ((n1 : Int) != (n2 : Int)) = true := by rw [bne_iff_ne]; omega
  go_enter Try.func14, Try.ntmps14
  go_wp2
  go_ret
  exact ⟨rfl, Gr.refl w⟩
set_option maxHeartbeats 400000 in
theorem all_none (w : World) (a1 a2 : Option Addr) (c1 c2 : Nat) :
    Calls Try.prog 14 #[.slice a1 0 c1, .slice a2 0 c2] w fun e w' => e = .returned (.bool true) ∧ Gr w w' := by
  go_enter Try.func14, Try.ntmps14
  go_wp2
  go_loopw [5] (fun k wr => k = .int .i64 0 ∧ Gr w wr) (fun _ _ => 0)
  case atStart => exact ⟨rfl, Gr.refl w⟩
  case round =>
    obtain ⟨rfl, hgr⟩ := hrel
    go_wp2
    go_ret
    exact ⟨rfl, hgr⟩
theorem all_any (w : World) (S T : Nat → Prop) (v1 v2 : Value) (xs ys : List Msg) (h1 : IsMsgs S w v1 xs) (h2 : IsMsgs T w v2 ys) (s1 : Small xs) (s2 : Small ys) :
    Calls Try.prog 14 #[v1, v2] w fun e w' => e = .returned (.bool (decide (xs = ys))) ∧ Gr w w' := by
  obtain ⟨a1, c1, rfl, _, _⟩ := h1.len
  obtain ⟨a2, c2, rfl, _, _⟩ := h2.len
  by_cases hne : xs.length = ys.length
  · by_cases h0 : 0 < xs.length
    · obtain ⟨b, o, c, hv, _, _, _, hx⟩ := h1.some h0
      obtain ⟨b', o', c', hv', _, _, _, hy⟩ := h2.some (by omega)
      rw [hv, hv', ← hne]
      exact all_some w S T b o c b' o' c' xs ys hne.symm s1.1 s1.2 s2.2 hx hy
    · have e1 : xs = [] := List.eq_nil_of_length_eq_zero (by omega)
      have e2 : ys = [] := List.eq_nil_of_length_eq_zero (by omega)
      subst e1; subst e2
      exact (all_none w a1 a2 c1 c2).mono fun e w' ⟨he, hw⟩ => ⟨by rw [he]; simp, hw⟩
  · refine (all_apart w a1 a2 _ c1 _ c2 s1.1 s2.1 hne).mono fun e w' ⟨he, hw⟩ => ⟨?_, hw⟩
    rw [he]; exact ret_bool (by simp; intro h; exact hne (by rw [h]))
end Go.Proofs.Ytajghkjghiifjaa
