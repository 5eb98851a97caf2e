/-
  Walk: symMerge where the right side has one element.
  Conditions: none beyond those typed at each theorem.
-/
import Derived.Test.YtkhkjcoejkgfeaaDoorSa
namespace Go.Proofs.YtkhkjcoejkgfeaaDoor
open Go Go.RowKit

set_option maxRecDepth 100000 in
set_option maxHeartbeats 8000000 in
theorem sm_right (w : World) (B n cap : Nat) (hB : B < w.heap.size) (pre : List Idn) (x : Idn) (L post : List Idn) (hL : 1 < L.length) (hs : Srt L) (W : World) (hr : RW w B n (pre ++ (L ++ x :: post)) W) (hn : n ≤ 1000000) (a m b : Nat) (ha : a = pre.length) (hm : m = pre.length + L.length) (hb : b = pre.length + L.length + 1) :
    Calls Tryd.prog 35 #[.slice (some ⟨B, 0, none⟩) n cap, .int .i64 a, .int .i64 m, .int .i64 b, .func (.func 22) #[] #[]] W fun e w' => (∃ v, e = .returned v) ∧ ∃ M, M.Perm (x :: L) ∧ Srt M ∧ RW w B n (pre ++ M ++ post) w' := by
  have hl := hr.len
  simp only [List.length_append, List.length_cons] at hl
  obtain ⟨d, hd⟩ : ∃ d, pre ++ (L ++ x :: post) = d := ⟨_, rfl⟩
  have hso : SrtOn d a m := by
    have := srtOn_seg (pre := pre) (post := x :: post) hs
    rw [← hd, hm, ha]
    simpa using this
  have hx : d[m]? = some x := by
    rw [← hd, hm, ← List.append_assoc, ← List.length_append]
    exact at_seg _ _ _
  have a1 : pre.length ≤ a := by omega
  have a2 : a ≤ pre.length := by omega
  have m1 : a + L.length ≤ m := by omega
  have m2 : m ≤ a + L.length := by omega
  have b1 : m + 1 ≤ b := by omega
  have b2 : b ≤ m + 1 := by omega
  have hbn : b ≤ n := by omega
  rw [hd] at hr
  have hma : ¬ ((m : Int) - (a : Int)) = 1 := by omega
  have hbm : ((b : Int) - (m : Int)) = 1 := by omega
  have HR := Lib.hid hr
  have HSO := Lib.hid hso
  have HX := Lib.hid hx
  have HD := Lib.hid hd
  have HS := Lib.hid hs
  clear hr ha hb hm hl hso hx hd hs
  go_enter Tryd.func35, Tryd.ntmps35
  go_wp2
  go_loopw [14, 15] (fun iv jv wr => ∃ (i j : Nat), iv = .int .i64 i ∧ jv = .int .i64 j ∧ a ≤ i ∧ i ≤ j ∧ j ≤ m ∧ (∀ t y, a ≤ t → t < i → d[t]? = some y → Le y x) ∧ (∀ t y, j ≤ t → t < m → d[t]? = some y → ordI x y < 0) ∧ RW w B n d wr) (fun iv jv _ => (intOf jv).toNat - (intOf iv).toNat)
  case atStart => exact ⟨a, m, rfl, rfl, Nat.le_refl _, by omega, Nat.le_refl _, fun t y h1 h2 => by omega, fun t y h1 h2 => by omega, HR.out⟩
  case round =>
    obtain ⟨i, j, rfl, rfl, hai, hij, hjm, hlo, hhi, h⟩ := hrel
    by_cases hlt : i < j
    · obtain ⟨h', hh⟩ : ∃ h', (i + j) / 2 = h' := ⟨_, rfl⟩
      have hhz : ((i : Int) + (j : Int)) / 2 = (h' : Int) := by omega
      have hh1 : i ≤ h' := by omega
      have hh2 : h' < j := by omega
      obtain ⟨y, hy⟩ : ∃ y, d[h']? = some y := ⟨_, List.getElem?_eq_getElem (by have := h.len; omega)⟩
      have HLO := Lib.hid hlo
      have HHI := Lib.hid hhi
      have hltz : (i : Int) < (j : Int) := by omega
      have q0 : (0 : Int) ≤ (h' : Int) := by omega
      have q1 : (h' : Int) < (n : Int) := by omega
      have q2 : (0 : Int) ≤ (m : Int) := by omega
      have q3 : (m : Int) < (n : Int) := by omega
      have HYY := Lib.hid hy
      clear hlo hhi hh hy
      have HQ := Lib.hid h
      clear h
      go_wp2_with fail
      have h := HQ.out
      have ep := h.el m x HX.out
      have eq' := h.el h' y HYY.out
      obtain ⟨c0, c1, c2⟩ := ep.cells
      obtain ⟨d0, d1, d2⟩ := eq'.cells
      have HO := Lib.hid (order_any x y)
      have HH := Lib.hid h
      have HK0 := Lib.hid (show Gr wr wr.drew ∧ wr.drew.cell? ⟨B, m * 3, none⟩ = some (.int .u8 x.kind) ∧ wr.drew.cell? ⟨B, m * 3 + 1, none⟩ = some (.int .i64 x.seq) ∧ wr.drew.cell? ⟨B, m * 3 + 2, none⟩ = some (.int .i64 x.fmt) ∧ wr.drew.cell? ⟨B, h' * 3, none⟩ = some (.int .u8 y.kind) ∧ wr.drew.cell? ⟨B, h' * 3 + 1, none⟩ = some (.int .i64 y.seq) ∧ wr.drew.cell? ⟨B, h' * 3 + 2, none⟩ = some (.int .i64 y.fmt) from ⟨(Gr.refl wr).drew, c0, c1, c2, d0, d1, d2⟩)
      have HK := Lib.hid (show ∀ X Y, (Gr wr X ∧ X.cell? ⟨B, m * 3, none⟩ = some (.int .u8 x.kind) ∧ X.cell? ⟨B, m * 3 + 1, none⟩ = some (.int .i64 x.seq) ∧ X.cell? ⟨B, m * 3 + 2, none⟩ = some (.int .i64 x.fmt) ∧ X.cell? ⟨B, h' * 3, none⟩ = some (.int .u8 y.kind) ∧ X.cell? ⟨B, h' * 3 + 1, none⟩ = some (.int .i64 y.seq) ∧ X.cell? ⟨B, h' * 3 + 2, none⟩ = some (.int .i64 y.fmt)) → Gr X Y → (Gr wr Y ∧ Y.cell? ⟨B, m * 3, none⟩ = some (.int .u8 x.kind) ∧ Y.cell? ⟨B, m * 3 + 1, none⟩ = some (.int .i64 x.seq) ∧ Y.cell? ⟨B, m * 3 + 2, none⟩ = some (.int .i64 x.fmt) ∧ Y.cell? ⟨B, h' * 3, none⟩ = some (.int .u8 y.kind) ∧ Y.cell? ⟨B, h' * 3 + 1, none⟩ = some (.int .i64 y.seq) ∧ Y.cell? ⟨B, h' * 3 + 2, none⟩ = some (.int .i64 y.fmt)) from
        fun X Y h hg => ⟨h.1.trans hg, later_cell hg h.2.1, later_cell hg h.2.2.1, later_cell hg h.2.2.2.1, later_cell hg h.2.2.2.2.1, later_cell hg h.2.2.2.2.2.1, later_cell hg h.2.2.2.2.2.2⟩)
      clear ep eq' h
      go_region_held3 (fun X => Gr wr X ∧ X.cell? ⟨B, m * 3, none⟩ = some (.int .u8 x.kind) ∧ X.cell? ⟨B, m * 3 + 1, none⟩ = some (.int .i64 x.seq) ∧ X.cell? ⟨B, m * 3 + 2, none⟩ = some (.int .i64 x.fmt) ∧ X.cell? ⟨B, h' * 3, none⟩ = some (.int .u8 y.kind) ∧ X.cell? ⟨B, h' * 3 + 1, none⟩ = some (.int .i64 y.seq) ∧ X.cell? ⟨B, h' * 3 + 2, none⟩ = some (.int .i64 y.fmt))
        (first | exact HK0.out | exact HK.out _ _ (by assumption) (by assumption) | exact HK.out _ _ (by assumption) (Gr.refl _))
        (first | (go_at_call 22; refine (HO.out _).mono ?_; rintro e y1 ⟨rfl, hgy1⟩))
      all_goals
        have hheld := (by assumption : Gr wr y1 ∧ _)
        have HY1 := Lib.hid (HH.out.later (Nat.lt_of_lt_of_le hB HH.out.gr.size) hheld.1)
        clear hheld hgy1
        by_cases hlv : ordI x y < 0
        · have HLV := Lib.hid hlv
          have hlv2 : ¬ (0 : Int) ≤ ordI x y := by omega
          have hlv3 : (!decide (ordI x y < 0)) = false := by simp; omega
          rw [hlv3]
          go_wp2
          refine ⟨⟨i, rfl, h', rfl, hai, by omega, by omega, HLO.out, fun t z h1 h2 hz => ?_, HY1.out⟩, by simp [intOf]; omega⟩
          exact lt_of_lt_le HLV.out (HSO.out h' t y z (by omega) h1 h2 HYY.out hz)
        · have HLV := Lib.hid (show Le y x from hlv)
          have hlv2 : (0 : Int) ≤ ordI x y := by omega
          have hlv3 : (!decide (ordI x y < 0)) = true := by simp; omega
          rw [hlv3]
          go_wp2
          refine ⟨⟨h' + 1, by go_num, j, rfl, by omega, by omega, hjm, fun t z h1 h2 hz => ?_, HHI.out, HY1.out⟩, by simp [intOf]; omega⟩
          exact Le.trans (HSO.out t h' z y h1 (by omega) (by omega) hz HYY.out) HLV.out
    · have hij' : i = j := by omega
      subst hij'
      have hsplit : L.take (i - a) ++ L.drop (i - a) = L := List.take_append_drop _ _
      have hlen1 : (L.take (i - a)).length = i - a := by rw [List.length_take]; omega
      have hd1 : ∀ r ∈ L.take (i - a), Le r x := fun r hr => by
        obtain ⟨t, ht, rfl⟩ := List.getElem_of_mem hr
        have ht' : t < i - a := by omega
        refine hlo (a + t) _ (by omega) (by omega) ?_
        rw [← HD.out, List.getElem?_append_right (by omega), show a + t - pre.length = t by omega, List.getElem?_append_left (by omega), List.getElem_take, List.getElem?_eq_getElem]
      have hd2 : ∀ r ∈ L.drop (i - a), ordI x r < 0 := fun r hr => by
        obtain ⟨t, ht, rfl⟩ := List.getElem_of_mem hr
        have ht' : (i - a) + t < L.length := by rw [List.length_drop] at ht; omega
        refine hhi (i + t) _ (by omega) (by omega) ?_
        rw [← HD.out, List.getElem?_append_right (by omega), show i + t - pre.length = (i - a + t) by omega, List.getElem?_append_left ht', List.getElem_drop, List.getElem?_eq_getElem]
      obtain ⟨L1, hL1⟩ : ∃ L1, L.take (i - a) = L1 := ⟨_, rfl⟩
      obtain ⟨L2, hL2⟩ : ∃ L2, L.drop (i - a) = L2 := ⟨_, rfl⟩
      rw [hL1] at hsplit hlen1 hd1
      rw [hL2] at hsplit hd2
      have HF := Lib.hid (And.intro hsplit (And.intro hd1 hd2))
      have h0 : RW w B n (pre ++ L1 ++ L2 ++ x :: post) wr := by
        have e : pre ++ L1 ++ L2 ++ x :: post = d := by rw [← HD.out, ← hsplit]; simp
        rw [e]; exact h
      have H0 := Lib.hid h0
      have hlen2 : L1.length + L2.length = L.length := by rw [← hsplit, List.length_append]
      have i1 : i ≤ a + L1.length := by omega
      have i2 : a + L1.length ≤ i := by omega
      have i3 : m ≤ i + L2.length := by omega
      have i4 : i + L2.length ≤ m := by omega
      clear hlo hhi h hsplit hd1 hd2 h0 hL1 hL2 hlen1 hlen2
      go_wp2
      go_loopw [17] (fun kv wr => ∃ (k : Nat) (U V : List Idn), kv = .int .i64 (k : Int) ∧ U ++ V = L2 ∧ k ≤ i + U.length ∧ i + U.length ≤ k ∧ RW w B n (pre ++ L1 ++ U ++ x :: (V ++ post)) wr) (fun kv _ => (intOf kv).toNat)
      case atStart => exact ⟨m, L2, [], rfl, by simp, i3, i4, by simpa using H0.out⟩
      case round =>
        obtain ⟨k, U, V, rfl, huv, hk1, hk2, h⟩ := hrel
        rcases List.eq_nil_or_concat U with rfl | ⟨U', r, rfl⟩
        · have hkz : ¬ (k : Int) > (i : Int) := by simp at hk1; omega
          have hkz2 : ¬ (i : Int) < (k : Int) := by omega
          have hv : V = L2 := by simpa using huv
          have HQ := Lib.hid (And.intro h hv)
          clear h hv huv hk1 hk2
          go_wp2
          obtain ⟨h1, h2, h3⟩ := HF.out
          obtain ⟨h, hv⟩ := HQ.out
          have hsr := HS.out
          rw [← h1] at hsr
          refine bodyPost_ret (results_none rfl _ _ _) rfl ⟨⟨_, rfl⟩, L1 ++ x :: L2, ?_, ?_, by rw [hv] at h; simpa using h⟩
          · rw [← h1]; exact List.perm_middle
          · exact srt_in hsr (fun p hp => h2 p hp) (fun p hp => Le.of_lt (h3 p hp))
        · rw [List.concat_eq_append] at huv hk1 hk2 h
          rw [List.length_append, List.length_singleton] at hk1 hk2
          obtain ⟨l, hl⟩ : ∃ l, i + U'.length = l := ⟨_, rfl⟩
          have hA : (pre ++ L1 ++ U').length = l := by rw [List.length_append, List.length_append]; omega
          have hd : pre ++ L1 ++ (U' ++ [r]) ++ x :: (V ++ post) = (pre ++ L1 ++ U') ++ r :: x :: (V ++ post) := by simp
          rw [hd] at h
          have hkl : k = l + 1 := by omega
          have hkx : ((pre ++ L1 ++ U') ++ r :: x :: (V ++ post))[k]? = some x := by rw [hkl, ← hA]; exact at_seg1 _ _ _ _
          have hlr : ((pre ++ L1 ++ U') ++ r :: x :: (V ++ post))[l]? = some r := by rw [← hA]; exact at_seg _ _ _
          have hlen := congrArg List.length huv
          rw [List.length_append, List.length_append, List.length_singleton] at hlen
          have w1 : IntKind.i64.wrap ((k : Int) - 1) = (l : Int) := by rw [IntKind.wrap_i64]; omega
          have hkz : (k : Int) > (i : Int) := by omega
          have hkz2 : (i : Int) < (k : Int) := by omega
          have q0 : (0 : Int) ≤ (k : Int) := by omega
          have q1 : (k : Int) < (n : Int) := by omega
          have q2 : (0 : Int) ≤ (l : Int) := by omega
          have q3 : (l : Int) < (n : Int) := by omega
          have HA := Lib.hid (And.intro hA (And.intro huv (And.intro hkl hl)))
          have k1 : l + 1 ≤ k := by omega
          have k2 : k ≤ l + 1 := by omega
          have HKL := Lib.hid (And.intro hkx hlr)
          have HQ := Lib.hid h
          clear hA hd hkx hlr h hl hkl huv hlen hk1 hk2
          go_wp2_with fail
          have h := HQ.out
          obtain ⟨c0, c1, c2⟩ := (h.el k x HKL.out.1).cells
          obtain ⟨d0, d1, d2⟩ := (h.el l r HKL.out.2).cells
          obtain ⟨f0, f1, f2⟩ := (h.th k (by omega)).frozen
          obtain ⟨g0, g1, g2⟩ := (h.th l (by omega)).frozen
          have n1 : ¬ k * 3 = l * 3 + 1 := by omega
          have n2 : ¬ k * 3 = l * 3 + 2 := by omega
          have n3 : ¬ k * 3 + 1 = l * 3 := by omega
          have n4 : ¬ k * 3 + 1 = l * 3 + 2 := by omega
          have n5 : ¬ k * 3 + 2 = l * 3 := by omega
          have n6 : ¬ k * 3 + 2 = l * 3 + 1 := by omega
          have n7 : ¬ k = l := by omega
          have HY := Lib.hid h
          clear h
          go_region
          obtain ⟨W4, hW4⟩ : ∃ W4, ((((((wr.setCell ⟨B, k * 3, none⟩ (.int .u8 r.kind)).setCell ⟨B, k * 3 + 1, none⟩ (.int .i64 r.seq)).setCell ⟨B, k * 3 + 2, none⟩ (.int .i64 r.fmt)).setCell ⟨B, l * 3, none⟩ (.int .u8 x.kind)).setCell ⟨B, l * 3 + 1, none⟩ (.int .i64 x.seq)).setCell ⟨B, l * 3 + 2, none⟩ (.int .i64 x.fmt)).drew = W4 := ⟨_, rfl⟩
          have h4 : RW w B n ((pre ++ L1 ++ U') ++ x :: r :: (V ++ post)) W4 := by
            rw [← hW4]
            have h5 := RW.drew (RW.put (RW.put HY.out (i := k) (by omega) r) (i := l) (by omega) x)
            have e := set_two (pre ++ L1 ++ U') r x (V ++ post)
            rw [HA.out.1, ← HA.out.2.2.1] at e
            rw [e] at h5
            exact h5
          have H4 := Lib.hid h4
          rw [hW4]
          clear h4 hW4 c0 c1 c2 d0 d1 d2 f0 f1 f2 g0 g1 g2 n1 n2 n3 n4 n5 n6 n7
          go_wp2
          refine ⟨⟨l, U', r :: V, by first | rfl | (rw [w1]), by rw [← HA.out.2.1]; simp, by have := HA.out.2.2.2; omega, by have := HA.out.2.2.2; omega, by simpa using H4.out⟩, by simp [intOf]; omega⟩
end Go.Proofs.YtkhkjcoejkgfeaaDoor
