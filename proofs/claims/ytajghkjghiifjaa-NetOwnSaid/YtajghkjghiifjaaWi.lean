/-
  Walks: rows of messages compared, as Go's library has it; nets compared.
-/
import Derived.Test.YtajghkjghiifjaaWh
import Derived.Test.YtajghkjghiifjaaRo
namespace Go.Proofs.Ytajghkjghiifjaa
open Go Go.RowKit
attribute [local go_sem ↓] opLoad31_eq opStore31_eq
attribute [local go_sem] opLoad31 opStore31 rowAt_alloc_at rowAt_alloc_past rowAt_drew wholeAt_alloc_at wholeAt_alloc_past wholeAt_drew setRow_alloc_at setRow_alloc_past msg_size msgCells_length msg_one_slice gr_alloc' gr_drew' gr_drewN'

set_option maxRecDepth 100000 in
set_option maxHeartbeats 1000000 in
theorem equalFunc_some (w : World) (S T : Nat → Prop) (b1 o1 c1 b2 o2 c2 : Nat) (xs ys : List Msg) (hlen : ys.length = xs.length) (hl : xs.length ≤ 1000000)
    (sx : ∀ m ∈ xs, m.ents.length ≤ 1000000) (sy : ∀ m ∈ ys, m.ents.length ≤ 1000000)
    (hx : ∀ (i : Nat) (m : Msg), xs[i]? = some m → ∃ ev, w.rangeAt b1 (o1 + i * 15) (msgCells m ev) ∧ IsEnts S w ev m.ents)
    (hy : ∀ (i : Nat) (m : Msg), ys[i]? = some m → ∃ ev, w.rangeAt b2 (o2 + i * 15) (msgCells m ev) ∧ IsEnts T w ev m.ents) :
    Calls Try.prog 31 #[.slice (some ⟨b1, o1, none⟩) xs.length c1, .slice (some ⟨b2, o2, none⟩) xs.length c2, .func (.func 32) #[] #[]] w fun e w' => e = .returned (.bool (decide (xs = ys))) ∧ Gr w w' := by
  have HL := Lib.hid hlen
  have HX := Lib.hid hx
  have HY := Lib.hid hy
  have SX := Lib.hid sx
  have SY := Lib.hid sy
  clear hx hy hlen sx sy
  generalize hn : xs.length = n at *
  have HN := Lib.hid hn
  clear hn
  go_enter Try.func31, Try.ntmps31
  go_wp2
  go_loopw [7, 8, 9, 17] (fun _ _ _ k wr => ∃ j : Nat, k = .int .i64 j ∧ j ≤ n ∧ xs.take j = ys.take j ∧ Gr w wr) (fun _ _ _ k _ => n - (intOf k).toNat)
  case atStart => exact ⟨0, rfl, by omega, rfl, Gr.refl _⟩
  case round =>
    obtain ⟨j, rfl, hj, htk, hgr⟩ := hrel
    have HT := Lib.hid htk
    have HG := Lib.hid hgr
    clear htk hgr
    by_cases hlt : j < n
    · obtain ⟨x, hxj⟩ : ∃ x, xs[j]? = some x := ⟨xs[j]'(by rw [HN.out]; exact hlt), List.getElem?_eq_getElem _⟩
      obtain ⟨y, hyj⟩ : ∃ y, ys[j]? = some y := ⟨ys[j]'(by rw [HL.out]; exact hlt), List.getElem?_eq_getElem _⟩
      obtain ⟨ev, rx, ex⟩ := HX.out j x hxj
      obtain ⟨fv, ry, ey⟩ := HY.out j y hyj
      obtain ⟨a1, k1, rfl, _, _⟩ := ex.len
      obtain ⟨a2, k2, rfl, _, _⟩ := ey.len
      have lx : ∀ W, Gr w W → rowAt W b1 (o1 + j * 15) 15 = some (msgCells x (.slice a1 x.ents.length k1)).toArray := fun W h => msg_row h rx
      have ly : ∀ W, Gr w W → rowAt W b2 (o2 + j * 15) 15 = some (msgCells y (.slice a2 y.ents.length k2)).toArray := fun W h => msg_row h ry
      have hgr := HG.out
      have HE := Lib.hid (fun w1 (hg : Gr w w1) => alike32_any w1 S T x y _ _ (ex.gr hg) (ey.gr hg) (SX.out x (List.mem_of_getElem? hxj)) (SY.out y (List.mem_of_getElem? hyj)))
      have HXJ := Lib.hid hxj
      have HYJ := Lib.hid hyj
      clear hxj hyj rx ry ex ey
      go_wp2_with fail
      refine (HE.out _ ?hg).mono ?_
      case hg => exact Gr.alloc (Gr.alloc HG.out _) _
      rintro e w1 ⟨rfl, hg1⟩
      go_wp2
      · have hne : (!decide (x = y)) = true := by assumption
        go_ret
        exact ⟨ret_bool (by simp [upto_ne HXJ.out HYJ.out (by simpa using hne)]), (Gr.alloc (Gr.alloc HG.out _) _).trans hg1⟩
      · have he : (!decide (x = y)) = false := by assumption
        exact ⟨⟨j + 1, by go_num, by omega, upto_step HXJ.out HYJ.out HT.out (by simpa using he), (Gr.alloc (Gr.alloc HG.out _) _).trans hg1⟩, by simp [intOf]; omega⟩
    · go_wp2
      go_ret
      exact ⟨ret_bool (by simp [upto_end HT.out (by rw [HN.out]; omega) (by rw [HL.out]; omega)]), HG.out⟩

set_option maxHeartbeats 400000 in
theorem equalFunc_apart (w : World) (a1 a2 : Option Addr) (n1 c1 n2 c2 : Nat) (f : Value) (_h1 : n1 ≤ 1000000) (_h2 : n2 ≤ 1000000) (hne : n1 ≠ n2) :
    Calls Try.prog 31 #[.slice a1 n1 c1, .slice a2 n2 c2, f] w fun e w' => e = .returned (.bool false) ∧ Gr w w' := by
  have hq : ((n1 : Int) != (n2 : Int)) = true := by rw [bne_iff_ne]; omega
  go_enter Try.func31, Try.ntmps31
  go_wp2
  go_ret
  exact ⟨rfl, Gr.refl w⟩
set_option maxHeartbeats 400000 in
theorem equalFunc_none (w : World) (a1 a2 : Option Addr) (c1 c2 : Nat) (f : Value) :
    Calls Try.prog 31 #[.slice a1 0 c1, .slice a2 0 c2, f] w fun e w' => e = .returned (.bool true) ∧ Gr w w' := by
  go_enter Try.func31, Try.ntmps31
  go_wp2
  go_loopw [17] (fun k wr => k = .int .i64 0 ∧ Gr w wr) (fun _ _ => 0)
  case atStart => exact ⟨rfl, Gr.refl w⟩
  case round =>
    obtain ⟨rfl, hgr⟩ := hrel
    go_wp2
    go_ret
    exact ⟨rfl, hgr⟩
theorem equalFunc_any (w : World) (S T : Nat → Prop) (v1 v2 : Value) (xs ys : List Msg) (h1 : IsMsgs S w v1 xs) (h2 : IsMsgs T w v2 ys) (s1 : Small xs) (s2 : Small ys) :
    Calls Try.prog 31 #[v1, v2, .func (.func 32) #[] #[]] w fun e w' => e = .returned (.bool (decide (xs = ys))) ∧ Gr w w' := by
  obtain ⟨a1, c1, rfl, _, _⟩ := h1.len
  obtain ⟨a2, c2, rfl, _, _⟩ := h2.len
  by_cases hne : xs.length = ys.length
  · by_cases h0 : 0 < xs.length
    · obtain ⟨b, o, c, hv, _, _, _, hx⟩ := h1.some h0
      obtain ⟨b', o', c', hv', _, _, _, hy⟩ := h2.some (by omega)
      rw [hv, hv', ← hne]
      exact equalFunc_some w S T b o c b' o' c' xs ys hne.symm s1.1 s1.2 s2.2 hx hy
    · have e1 : xs = [] := List.eq_nil_of_length_eq_zero (by omega)
      have e2 : ys = [] := List.eq_nil_of_length_eq_zero (by omega)
      subst e1; subst e2
      exact (equalFunc_none w a1 a2 c1 c2 _).mono fun e w' ⟨he, hw⟩ => ⟨by rw [he]; simp, hw⟩
  · refine (equalFunc_apart w a1 a2 _ c1 _ c2 _ s1.1 s2.1 hne).mono fun e w' ⟨he, hw⟩ => ⟨?_, hw⟩
    rw [he]; exact ret_bool (by simp; intro h; exact hne (by rw [h]))

set_option maxRecDepth 100000 in
set_option maxHeartbeats 1000000 in
theorem netSame_1 (w : World) (x1 x2 x3 y1 y2 y3 : Value) (s1 s2 : Int) (h1 : x2 = .int .i64 s1) (h2 : y2 = .int .i64 s2) (hd : (s1 == s2) = false) :
    Calls Try.prog 21 #[.agg #[x1, x2, x3], .agg #[y1, y2, y3]] w fun e w' => e = .returned (.bool false) ∧ Gr w w' := by
  subst h1; subst h2
  go_enter Try.func21, Try.ntmps21
  go_wp2
  go_ret
  exact ⟨rfl, Gr.alloc (Gr.alloc (Gr.refl w) _) _⟩
set_option maxRecDepth 100000 in
set_option maxHeartbeats 1000000 in
theorem netSame_2 (w : World) (x1 x3 y1 y3 : Value) (s l1 l2 : Int) (h1 : x3 = .int .i64 l1) (h2 : y3 = .int .i64 l2) (hd : (l1 == l2) = false) :
    Calls Try.prog 21 #[.agg #[x1, .int .i64 s, x3], .agg #[y1, .int .i64 s, y3]] w fun e w' => e = .returned (.bool false) ∧ Gr w w' := by
  subst h1; subst h2
  go_enter Try.func21, Try.ntmps21
  go_wp2
  go_ret
  exact ⟨rfl, Gr.alloc (Gr.alloc (Gr.refl w) _) _⟩
set_option maxRecDepth 100000 in
set_option maxHeartbeats 1000000 in
theorem netSame_3 (w : World) (S T : Nat → Prop) (v1 v2 : Value) (xs ys : List Msg) (s l : Int) (h1 : IsMsgs S w v1 xs) (h2 : IsMsgs T w v2 ys) (s1 : Small xs) (s2 : Small ys) :
    Calls Try.prog 21 #[.agg #[v1, .int .i64 s, .int .i64 l], .agg #[v2, .int .i64 s, .int .i64 l]] w fun e w' => e = .returned (.bool (decide (xs = ys))) ∧ Gr w w' := by
  obtain ⟨a1, c1, rfl, _, _⟩ := h1.len
  obtain ⟨a2, c2, rfl, _, _⟩ := h2.len
  have H1 := Lib.hid h1
  have H2 := Lib.hid h2
  clear h1 h2
  go_enter Try.func21, Try.ntmps21
  go_wp2_with fail
  refine (equalFunc_any _ S T _ _ xs ys ?g1 ?g2 s1 s2).mono ?_
  case g1 => exact H1.out.gr (Gr.alloc (Gr.alloc (Gr.refl w) _) _)
  case g2 => exact H2.out.gr (Gr.alloc (Gr.alloc (Gr.refl w) _) _)
  rintro e w' ⟨rfl, hgr⟩
  go_wp2
  go_ret
  exact ⟨rfl, Gr.trans (Gr.alloc (Gr.alloc (Gr.refl w) _) _) hgr⟩
/-- Nets, the same? -/
theorem netSame_any (w : World) (S T : Nat → Prop) (v1 v2 : Value) (x y : Net) (h1 : IsMsgs S w v1 x.msgs) (h2 : IsMsgs T w v2 y.msgs) (s1 : Small x.msgs) (s2 : Small y.msgs) :
    Calls Try.prog 21 #[netV x v1, netV y v2] w fun e w' => e = .returned (.bool (decide (x = y))) ∧ Gr w w' := by
  cases x with | mk xs xt xl =>
  cases y with | mk ys yt yl =>
  have fin : ∀ {p : Prop} [Decidable p], ¬ p → ∀ (e : Ending) (w' : World), (e = .returned (.bool false) ∧ Gr w w') → (e = .returned (.bool (decide p)) ∧ Gr w w') := fun h e w' ⟨he, hg⟩ => ⟨by rw [he, decide_eq_false h], hg⟩
  by_cases e1 : ¬ (xt = yt)
  · exact (netSame_1 w _ _ _ _ _ _ xt yt rfl rfl (beq_false_of e1)).mono (fin (by intro h; injection h; exact e1 ‹_›))
  replace e1 := Decidable.not_not.1 e1
  subst e1
  by_cases e2 : ¬ (xl = yl)
  · exact (netSame_2 w _ _ _ _ xt xl yl rfl rfl (beq_false_of e2)).mono (fin (by intro h; injection h; exact e2 ‹_›))
  replace e2 := Decidable.not_not.1 e2
  subst e2
  refine (netSame_3 w S T v1 v2 xs ys xt xl h1 h2 s1 s2).mono ?_
  rintro e w' ⟨he, hg⟩
  refine ⟨?_, hg⟩
  rw [he]
  by_cases hq : xs = ys
  · subst hq; simp
  · rw [decide_eq_false hq, decide_eq_false (by intro h; injection h; exact hq ‹_›)]

set_option maxRecDepth 100000 in
set_option maxHeartbeats 1000000 in
theorem refSame_1 (w : World) (x1 x2 x3 y1 y2 y3 : Value) (s1 s2 : Int) (h1 : x2 = .int .i64 s1) (h2 : y2 = .int .i64 s2) (hd : (s1 == s2) = false) :
    Calls Try.prog 17 #[.agg #[x1, x2, x3], .agg #[y1, y2, y3]] w fun e w' => e = .returned (.bool false) ∧ Gr w w' := by
  subst h1; subst h2
  go_enter Try.func17, Try.ntmps17
  go_wp2
  go_ret
  exact ⟨rfl, Gr.alloc (Gr.alloc (Gr.refl w) _) _⟩
set_option maxRecDepth 100000 in
set_option maxHeartbeats 1000000 in
theorem refSame_2 (w : World) (x1 x3 y1 y3 : Value) (s l1 l2 : Int) (h1 : x3 = .int .i64 l1) (h2 : y3 = .int .i64 l2) (hd : (l1 == l2) = false) :
    Calls Try.prog 17 #[.agg #[x1, .int .i64 s, x3], .agg #[y1, .int .i64 s, y3]] w fun e w' => e = .returned (.bool false) ∧ Gr w w' := by
  subst h1; subst h2
  go_enter Try.func17, Try.ntmps17
  go_wp2
  go_ret
  exact ⟨rfl, Gr.alloc (Gr.alloc (Gr.refl w) _) _⟩
set_option maxRecDepth 100000 in
set_option maxHeartbeats 1000000 in
theorem refSame_3 (w : World) (S T : Nat → Prop) (v1 v2 : Value) (xs ys : List Msg) (s l : Int) (h1 : IsMsgs S w v1 xs) (h2 : IsMsgs T w v2 ys) (s1 : Small xs) (s2 : Small ys) :
    Calls Try.prog 17 #[.agg #[v1, .int .i64 s, .int .i64 l], .agg #[v2, .int .i64 s, .int .i64 l]] w fun e w' => e = .returned (.bool (decide (xs = ys))) ∧ Gr w w' := by
  obtain ⟨a1, c1, rfl, _, _⟩ := h1.len
  obtain ⟨a2, c2, rfl, _, _⟩ := h2.len
  have H1 := Lib.hid h1
  have H2 := Lib.hid h2
  clear h1 h2
  go_enter Try.func17, Try.ntmps17
  go_wp2_with fail
  refine (all_any _ S T _ _ xs ys ?g1 ?g2 s1 s2).mono ?_
  case g1 => exact H1.out.gr (Gr.alloc (Gr.alloc (Gr.refl w) _) _)
  case g2 => exact H2.out.gr (Gr.alloc (Gr.alloc (Gr.refl w) _) _)
  rintro e w' ⟨rfl, hgr⟩
  go_wp2
  go_ret
  exact ⟨rfl, Gr.trans (Gr.alloc (Gr.alloc (Gr.refl w) _) _) hgr⟩
/-- Nets, the same? -/
theorem refSame_any (w : World) (S T : Nat → Prop) (v1 v2 : Value) (x y : Net) (h1 : IsMsgs S w v1 x.msgs) (h2 : IsMsgs T w v2 y.msgs) (s1 : Small x.msgs) (s2 : Small y.msgs) :
    Calls Try.prog 17 #[netV x v1, netV y v2] w fun e w' => e = .returned (.bool (decide (x = y))) ∧ Gr w w' := by
  cases x with | mk xs xt xl =>
  cases y with | mk ys yt yl =>
  have fin : ∀ {p : Prop} [Decidable p], ¬ p → ∀ (e : Ending) (w' : World), (e = .returned (.bool false) ∧ Gr w w') → (e = .returned (.bool (decide p)) ∧ Gr w w') := fun h e w' ⟨he, hg⟩ => ⟨by rw [he, decide_eq_false h], hg⟩
  by_cases e1 : ¬ (xt = yt)
  · exact (refSame_1 w _ _ _ _ _ _ xt yt rfl rfl (beq_false_of e1)).mono (fin (by intro h; injection h; exact e1 ‹_›))
  replace e1 := Decidable.not_not.1 e1
  subst e1
  by_cases e2 : ¬ (xl = yl)
  · exact (refSame_2 w _ _ _ _ xt xl yl rfl rfl (beq_false_of e2)).mono (fin (by intro h; injection h; exact e2 ‹_›))
  replace e2 := Decidable.not_not.1 e2
  subst e2
  refine (refSame_3 w S T v1 v2 xs ys xt xl h1 h2 s1 s2).mono ?_
  rintro e w' ⟨he, hg⟩
  refine ⟨?_, hg⟩
  rw [he]
  by_cases hq : xs = ys
  · subst hq; simp
  · rw [decide_eq_false hq, decide_eq_false (by intro h; injection h; exact hq ‹_›)]
end Go.Proofs.Ytajghkjghiifjaa
