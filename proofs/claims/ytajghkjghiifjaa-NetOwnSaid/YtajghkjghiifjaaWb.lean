/-
  Walks: rows compared.
-/
import Derived.Test.YtajghkjghiifjaaWc
namespace Go.Proofs.Ytajghkjghiifjaa
open Go Go.RowKit
attribute [local go_sem ↓] neq53 eql53 eql29 eql69

theorem upto_step {α : Type} {xs ys : List α} {j : Nat} {x y : α} (hx : xs[j]? = some x) (hy : ys[j]? = some y) (ht : xs.take j = ys.take j) (e : x = y) : xs.take (j + 1) = ys.take (j + 1) := by
  rw [List.take_add_one, List.take_add_one, hx, hy, ht, e]
theorem upto_ne {α : Type} {xs ys : List α} {j : Nat} {x y : α} (hx : xs[j]? = some x) (hy : ys[j]? = some y) (e : x ≠ y) : xs ≠ ys := by
  intro h; rw [h, hy] at hx; exact e (Option.some.inj hx).symm
theorem upto_end {α : Type} {xs ys : List α} {j : Nat} (ht : xs.take j = ys.take j) (h1 : xs.length ≤ j) (h2 : ys.length ≤ j) : xs = ys := by
  rwa [List.take_of_length_le h1, List.take_of_length_le h2] at ht
theorem ret_bool {a b : Bool} (h : a = b) : Ending.returned (.bool a) = .returned (.bool b) := by rw [h]
theorem ent_cells {w : World} {b o : Nat} {e : Ent} (h : w.rangeAt b o (entCells e)) :
    w.cell? ⟨b, o, none⟩ = some (.int .i64 e.term) ∧ w.cell? ⟨b, o + 1, none⟩ = some (.int .i64 e.kind) ∧ w.cell? ⟨b, o + 2, none⟩ = some (.int .i64 e.value) :=
  ⟨h 0 _ rfl, h 1 _ rfl, h 2 _ rfl⟩
theorem ent_eq {x y : Ent} (h1 : (!x.term == y.term) = false ∧ (!x.kind == y.kind) = false ∧ (!x.value == y.value) = false) : x = y := by
  obtain ⟨a, b, c⟩ := h1
  cases x; cases y; simp_all
theorem ent_ne {x y : Ent} (h1 : (!x.term == y.term) = true ∨ (!x.kind == y.kind) = true ∨ (!x.value == y.value) = true) : x ≠ y := by
  rintro rfl; simp at h1
theorem later_range {A B : World} (h : Gr A B) {b o : Nat} {cs : List Value} (hr : A.rangeAt b o cs) : B.rangeAt b o cs := rangeAt_kp (Gr.kp h (fun _ _ => True)) hr (fun _ _ _ _ => trivial)

set_option maxHeartbeats 400000 in
theorem equal_some (w : World) (b1 o1 c1 b2 o2 c2 : Nat) (xs ys : List Ent) (hlen : ys.length = xs.length) (hl : xs.length ≤ 1000000)
    (hx : ∀ (i : Nat) (e : Ent), xs[i]? = some e → w.rangeAt b1 (o1 + i * 3) (entCells e)) (hy : ∀ (i : Nat) (e : Ent), ys[i]? = some e → w.rangeAt b2 (o2 + i * 3) (entCells e)) :
    Calls Try.prog 35 #[.slice (some ⟨b1, o1, none⟩) xs.length c1, .slice (some ⟨b2, o2, none⟩) xs.length c2] w fun e w' => e = .returned (.bool (decide (xs = ys))) ∧ Gr w w' := by
  have HL := Lib.hid hlen
  have HX := Lib.hid hx
  have HY := Lib.hid hy
  clear hx hy hlen
  generalize hn : xs.length = n at *
  have HN := Lib.hid hn
  clear hn
  go_enter Try.func35, Try.ntmps35
  go_wp2
  go_loopw [5, 13] (fun i k wr => ∃ j : Nat, k = .int .i64 j ∧ j ≤ n ∧ xs.take j = ys.take j ∧ Gr w wr) (fun _ k _ => n - (intOf k).toNat)
  case atStart => exact ⟨0, rfl, by omega, rfl, Gr.refl _⟩
  case round =>
    obtain ⟨j, rfl, hj, htk, hgr⟩ := hrel
    have HT := Lib.hid htk
    clear htk
    by_cases hlt : j < n
    · obtain ⟨x, hxj⟩ : ∃ x, xs[j]? = some x := ⟨xs[j]'(by rw [HN.out]; exact hlt), List.getElem?_eq_getElem _⟩
      obtain ⟨y, hyj⟩ : ∃ y, ys[j]? = some y := ⟨ys[j]'(by rw [HL.out]; exact hlt), List.getElem?_eq_getElem _⟩
      obtain ⟨x0, x1, x2⟩ := ent_cells (later_range hgr (HX.out j x hxj))
      obtain ⟨y0, y1, y2⟩ := ent_cells (later_range hgr (HY.out j y hyj))
      have HXJ := Lib.hid hxj
      have HYJ := Lib.hid hyj
      clear hxj hyj
      go_wp2
      go_quiet (fail)
      go_wp2
      · have hne := ent_ne (x := x) (y := y) (by assumption)
        go_ret
        exact ⟨ret_bool (by simp [upto_ne HXJ.out HYJ.out hne]), hgr.drewN _⟩
      · have he := ent_eq (x := x) (y := y) (by assumption)
        exact ⟨⟨j + 1, by go_num, by omega, upto_step HXJ.out HYJ.out HT.out he, hgr.drewN _⟩, by simp [intOf]; omega⟩
    · go_wp2
      go_ret
      exact ⟨ret_bool (by simp [upto_end HT.out (by rw [HN.out]; omega) (by rw [HL.out]; omega)]), hgr⟩
set_option maxHeartbeats 400000 in
theorem same06_some (w : World) (b1 o1 c1 b2 o2 c2 : Nat) (xs ys : List Ent) (hlen : ys.length = xs.length) (hl : xs.length ≤ 1000000)
    (hx : ∀ (i : Nat) (e : Ent), xs[i]? = some e → w.rangeAt b1 (o1 + i * 3) (entCells e)) (hy : ∀ (i : Nat) (e : Ent), ys[i]? = some e → w.rangeAt b2 (o2 + i * 3) (entCells e)) :
    Calls Try.prog 28 #[.slice (some ⟨b1, o1, none⟩) xs.length c1, .slice (some ⟨b2, o2, none⟩) xs.length c2] w fun e w' => e = .returned (.bool (decide (xs = ys))) ∧ Gr w w' := by
  have HL := Lib.hid hlen
  have HX := Lib.hid hx
  have HY := Lib.hid hy
  clear hx hy hlen
  generalize hn : xs.length = n at *
  have HN := Lib.hid hn
  clear hn
  go_enter Try.func28, Try.ntmps28
  go_wp2
  go_loopw [5] (fun k wr => ∃ j : Nat, k = .int .i64 j ∧ j ≤ n ∧ xs.take j = ys.take j ∧ Gr w wr) (fun k _ => n - (intOf k).toNat)
  case atStart => exact ⟨0, rfl, by omega, rfl, Gr.refl _⟩
  case round =>
    obtain ⟨j, rfl, hj, htk, hgr⟩ := hrel
    have HT := Lib.hid htk
    clear htk
    by_cases hlt : j < n
    · obtain ⟨x, hxj⟩ : ∃ x, xs[j]? = some x := ⟨xs[j]'(by rw [HN.out]; exact hlt), List.getElem?_eq_getElem _⟩
      obtain ⟨y, hyj⟩ : ∃ y, ys[j]? = some y := ⟨ys[j]'(by rw [HL.out]; exact hlt), List.getElem?_eq_getElem _⟩
      obtain ⟨x0, x1, x2⟩ := ent_cells (later_range hgr (HX.out j x hxj))
      obtain ⟨y0, y1, y2⟩ := ent_cells (later_range hgr (HY.out j y hyj))
      have HXJ := Lib.hid hxj
      have HYJ := Lib.hid hyj
      clear hxj hyj
      go_wp2
      go_quiet (fail)
      go_wp2
      · have hne := ent_ne (x := x) (y := y) (by assumption)
        go_ret
        exact ⟨ret_bool (by simp [upto_ne HXJ.out HYJ.out hne]), hgr.drewN _⟩
      · have he := ent_eq (x := x) (y := y) (by assumption)
        exact ⟨⟨j + 1, by go_num, by omega, upto_step HXJ.out HYJ.out HT.out he, hgr.drewN _⟩, by simp [intOf]; omega⟩
    · go_wp2
      go_ret
      exact ⟨ret_bool (by simp [upto_end HT.out (by rw [HN.out]; omega) (by rw [HL.out]; omega)]), hgr⟩

def IsInts (S : Nat → Prop) (w : World) (v : Value) (zs : List Int) : Prop := SL S w 1 v (zs.map fun z => [Value.int .i64 z])
theorem IsInts.len {w : World} {S : Nat → Prop} {v : Value} {zs : List Int} (hs : IsInts S w v zs) : ∃ a cap, v = .slice a zs.length cap ∧ zs.length ≤ cap ∧ cap ≤ maxLen := by
  have := SL.len hs; simpa using this
theorem IsInts.some {w : World} {S : Nat → Prop} {v : Value} {zs : List Int} (hs : IsInts S w v zs) (h0 : 0 < zs.length) :
    ∃ b off cap, v = .slice (some ⟨b, off, none⟩) zs.length cap ∧ zs.length ≤ cap ∧ cap ≤ maxLen ∧ S b ∧ ∀ (i : Nat) (z : Int), zs[i]? = Option.some z → w.cell? ⟨b, off + i, none⟩ = Option.some (.int .i64 z) := by
  obtain ⟨b, off, cap, hv, h4, h5, h6⟩ := SL.some hs (by simpa using h0)
  refine ⟨b, off, cap, by simpa using hv, by simpa using h4, h5, h6, fun i z hz => ?_⟩
  have := SL.at hs hv (i := i) (e := [.int .i64 z]) (by rw [List.getElem?_map, hz]; rfl) 0 _ rfl
  simpa using this
theorem later_cell {A B : World} (h : Gr A B) {a : Addr} {v : Value} (hc : A.cell? a = some v) : B.cell? a = some v := cell_kp (Gr.kp h (fun _ _ => True)) hc (fun _ _ _ _ => trivial)

set_option maxHeartbeats 400000 in
theorem ints_some (w : World) (b1 o1 c1 b2 o2 c2 : Nat) (xs ys : List Int) (hlen : ys.length = xs.length) (hl : xs.length ≤ 1000000)
    (hx : ∀ (i : Nat) (z : Int), xs[i]? = some z → w.cell? ⟨b1, o1 + i, none⟩ = some (.int .i64 z)) (hy : ∀ (i : Nat) (z : Int), ys[i]? = some z → w.cell? ⟨b2, o2 + i, none⟩ = some (.int .i64 z)) :
    Calls Try.prog 20 #[.slice (some ⟨b1, o1, none⟩) xs.length c1, .slice (some ⟨b2, o2, none⟩) xs.length c2] w fun e w' => e = .returned (.bool (decide (xs = ys))) ∧ Gr w w' := by
  have HL := Lib.hid hlen
  have HX := Lib.hid hx
  have HY := Lib.hid hy
  clear hx hy hlen
  generalize hn : xs.length = n at *
  have HN := Lib.hid hn
  clear hn
  go_enter Try.func20, Try.ntmps20
  go_wp2
  go_loopw [5] (fun k wr => ∃ j : Nat, k = .int .i64 j ∧ j ≤ n ∧ xs.take j = ys.take j ∧ Gr w wr) (fun k _ => n - (intOf k).toNat)
  case atStart => exact ⟨0, rfl, by omega, rfl, Gr.refl _⟩
  case round =>
    obtain ⟨j, rfl, hj, htk, hgr⟩ := hrel
    have HT := Lib.hid htk
    clear htk
    by_cases hlt : j < n
    · obtain ⟨x, hxj⟩ : ∃ x, xs[j]? = some x := ⟨xs[j]'(by rw [HN.out]; exact hlt), List.getElem?_eq_getElem _⟩
      obtain ⟨y, hyj⟩ : ∃ y, ys[j]? = some y := ⟨ys[j]'(by rw [HL.out]; exact hlt), List.getElem?_eq_getElem _⟩
      have x0 := later_cell hgr (HX.out j x hxj)
      have y0 := later_cell hgr (HY.out j y hyj)
      have HXJ := Lib.hid hxj
      have HYJ := Lib.hid hyj
      clear hxj hyj
      go_wp2
      go_quiet (fail)
      go_wp2
      · have hne : (x != y) = true := by assumption
        go_ret
        exact ⟨ret_bool (by simp [upto_ne HXJ.out HYJ.out (by simpa using hne)]), hgr.drewN _⟩
      · have he : (x != y) = false := by assumption
        exact ⟨⟨j + 1, by go_num, by omega, upto_step HXJ.out HYJ.out HT.out (by simpa using he), hgr.drewN _⟩, by simp [intOf]; omega⟩
    · go_wp2
      go_ret
      exact ⟨ret_bool (by simp [upto_end HT.out (by rw [HN.out]; omega) (by rw [HL.out]; omega)]), hgr⟩

set_option maxHeartbeats 400000 in
theorem equal_apart (w : World) (a1 a2 : Option Addr) (n1 c1 n2 c2 : Nat) (_h1 : n1 ≤ 1000000) (_h2 : n2 ≤ 1000000) (hne : n1 ≠ n2) :
    Calls Try.prog 35 #[.slice a1 n1 c1, .slice a2 n2 c2] w fun e w' => e = .returned (.bool false) ∧ Gr w w' := by
  have hq : ((n1 : Int) != (n2 : Int)) = true := by rw [bne_iff_ne]; omega
  go_enter Try.func35, Try.ntmps35
  go_wp2
  go_ret
  exact ⟨rfl, Gr.refl w⟩
set_option maxHeartbeats 400000 in
theorem equal_none (w : World) (a1 a2 : Option Addr) (c1 c2 : Nat) :
    Calls Try.prog 35 #[.slice a1 0 c1, .slice a2 0 c2] w fun e w' => e = .returned (.bool true) ∧ Gr w w' := by
  go_enter Try.func35, Try.ntmps35
  go_wp2
  go_loopw [13] (fun k wr => k = .int .i64 0 ∧ Gr w wr) (fun _ _ => 0)
  case atStart => exact ⟨rfl, Gr.refl w⟩
  case round =>
    obtain ⟨rfl, hgr⟩ := hrel
    go_wp2
    go_ret
    exact ⟨rfl, hgr⟩

set_option maxHeartbeats 400000 in
theorem same06_apart (w : World) (a1 a2 : Option Addr) (n1 c1 n2 c2 : Nat) (_h1 : n1 ≤ 1000000) (_h2 : n2 ≤ 1000000) (hne : n1 ≠ n2) :
    Calls Try.prog 28 #[.slice a1 n1 c1, .slice a2 n2 c2] w fun e w' => e = .returned (.bool false) ∧ Gr w w' := by
  have hq : ((n1 : Int) != (n2 : Int)) = true := by rw [bne_iff_ne]; omega
  go_enter Try.func28, Try.ntmps28
  go_wp2
  go_ret
  exact ⟨rfl, Gr.refl w⟩
set_option maxHeartbeats 400000 in
theorem same06_none (w : World) (a1 a2 : Option Addr) (c1 c2 : Nat) :
    Calls Try.prog 28 #[.slice a1 0 c1, .slice a2 0 c2] w fun e w' => e = .returned (.bool true) ∧ Gr w w' := by
  go_enter Try.func28, Try.ntmps28
  go_wp2
  go_loopw [5] (fun k wr => k = .int .i64 0 ∧ Gr w wr) (fun _ _ => 0)
  case atStart => exact ⟨rfl, Gr.refl w⟩
  case round =>
    obtain ⟨rfl, hgr⟩ := hrel
    go_wp2
    go_ret
    exact ⟨rfl, hgr⟩

set_option maxHeartbeats 400000 in
theorem ints_apart (w : World) (a1 a2 : Option Addr) (n1 c1 n2 c2 : Nat) (_h1 : n1 ≤ 1000000) (_h2 : n2 ≤ 1000000) (hne : n1 ≠ n2) :
    Calls Try.prog 20 #[.slice a1 n1 c1, .slice a2 n2 c2] w fun e w' => e = .returned (.bool false) ∧ Gr w w' := by
  have hq : ((n1 : Int) != (n2 : Int)) = true := by rw [bne_iff_ne]; omega
  go_enter Try.func20, Try.ntmps20
  go_wp2
  go_ret
  exact ⟨rfl, Gr.refl w⟩
set_option maxHeartbeats 400000 in
theorem ints_none (w : World) (a1 a2 : Option Addr) (c1 c2 : Nat) :
    Calls Try.prog 20 #[.slice a1 0 c1, .slice a2 0 c2] w fun e w' => e = .returned (.bool true) ∧ Gr w w' := by
  go_enter Try.func20, Try.ntmps20
  go_wp2
  go_loopw [5] (fun k wr => k = .int .i64 0 ∧ Gr w wr) (fun _ _ => 0)
  case atStart => exact ⟨rfl, Gr.refl w⟩
  case round =>
    obtain ⟨rfl, hgr⟩ := hrel
    go_wp2
    go_ret
    exact ⟨rfl, hgr⟩

theorem equal_any (w : World) (S T : Nat → Prop) (v1 v2 : Value) (xs ys : List Ent) (h1 : IsEnts S w v1 xs) (h2 : IsEnts T w v2 ys) (l1 : xs.length ≤ 1000000) (l2 : ys.length ≤ 1000000) :
    Calls Try.prog 35 #[v1, v2] w fun e w' => e = .returned (.bool (decide (xs = ys))) ∧ Gr w w' := by
  obtain ⟨a1, c1, rfl, _, _⟩ := h1.len
  obtain ⟨a2, c2, rfl, _, _⟩ := h2.len
  by_cases hne : xs.length = ys.length
  · by_cases h0 : 0 < xs.length
    · obtain ⟨b, o, c, hv, _, _, _, hx⟩ := h1.some h0
      obtain ⟨b', o', c', hv', _, _, _, hy⟩ := h2.some (by omega)
      rw [hv, hv', ← hne]
      exact equal_some w b o c b' o' c' xs ys hne.symm l1 hx hy
    · have e1 : xs = [] := List.eq_nil_of_length_eq_zero (by omega)
      have e2 : ys = [] := List.eq_nil_of_length_eq_zero (by omega)
      subst e1; subst e2
      exact (equal_none w a1 a2 c1 c2).mono fun e w' ⟨he, hw⟩ => ⟨by rw [he]; simp, hw⟩
  · refine (equal_apart w a1 a2 _ c1 _ c2 l1 l2 hne).mono fun e w' ⟨he, hw⟩ => ⟨?_, hw⟩
    rw [he]; exact ret_bool (by simp; intro h; exact hne (by rw [h]))

theorem same06_any (w : World) (S T : Nat → Prop) (v1 v2 : Value) (xs ys : List Ent) (h1 : IsEnts S w v1 xs) (h2 : IsEnts T w v2 ys) (l1 : xs.length ≤ 1000000) (l2 : ys.length ≤ 1000000) :
    Calls Try.prog 28 #[v1, v2] w fun e w' => e = .returned (.bool (decide (xs = ys))) ∧ Gr w w' := by
  obtain ⟨a1, c1, rfl, _, _⟩ := h1.len
  obtain ⟨a2, c2, rfl, _, _⟩ := h2.len
  by_cases hne : xs.length = ys.length
  · by_cases h0 : 0 < xs.length
    · obtain ⟨b, o, c, hv, _, _, _, hx⟩ := h1.some h0
      obtain ⟨b', o', c', hv', _, _, _, hy⟩ := h2.some (by omega)
      rw [hv, hv', ← hne]
      exact same06_some w b o c b' o' c' xs ys hne.symm l1 hx hy
    · have e1 : xs = [] := List.eq_nil_of_length_eq_zero (by omega)
      have e2 : ys = [] := List.eq_nil_of_length_eq_zero (by omega)
      subst e1; subst e2
      exact (same06_none w a1 a2 c1 c2).mono fun e w' ⟨he, hw⟩ => ⟨by rw [he]; simp, hw⟩
  · refine (same06_apart w a1 a2 _ c1 _ c2 l1 l2 hne).mono fun e w' ⟨he, hw⟩ => ⟨?_, hw⟩
    rw [he]; exact ret_bool (by simp; intro h; exact hne (by rw [h]))

theorem ints_any (w : World) (S T : Nat → Prop) (v1 v2 : Value) (xs ys : List Int) (h1 : IsInts S w v1 xs) (h2 : IsInts T w v2 ys) (l1 : xs.length ≤ 1000000) (l2 : ys.length ≤ 1000000) :
    Calls Try.prog 20 #[v1, v2] w fun e w' => e = .returned (.bool (decide (xs = ys))) ∧ Gr w w' := by
  obtain ⟨a1, c1, rfl, _, _⟩ := h1.len
  obtain ⟨a2, c2, rfl, _, _⟩ := h2.len
  by_cases hne : xs.length = ys.length
  · by_cases h0 : 0 < xs.length
    · obtain ⟨b, o, c, hv, _, _, _, hx⟩ := h1.some h0
      obtain ⟨b', o', c', hv', _, _, _, hy⟩ := h2.some (by omega)
      rw [hv, hv', ← hne]
      exact ints_some w b o c b' o' c' xs ys hne.symm l1 hx hy
    · have e1 : xs = [] := List.eq_nil_of_length_eq_zero (by omega)
      have e2 : ys = [] := List.eq_nil_of_length_eq_zero (by omega)
      subst e1; subst e2
      exact (ints_none w a1 a2 c1 c2).mono fun e w' ⟨he, hw⟩ => ⟨by rw [he]; simp, hw⟩
  · refine (ints_apart w a1 a2 _ c1 _ c2 l1 l2 hne).mono fun e w' ⟨he, hw⟩ => ⟨?_, hw⟩
    rw [he]; exact ret_bool (by simp; intro h; exact hne (by rw [h]))
end Go.Proofs.Ytajghkjghiifjaa
