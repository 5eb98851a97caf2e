/-
  Walk: symMerge where the left side has one element.
  Conditions: none beyond those typed at each theorem.
-/
import Derived.Test.YtkhkjcoejkgfeaaDoorNz
namespace Go.Proofs.YtkhkjcoejkgfeaaDoor
open Go Go.RowKit

/-- Sorted from place m up to place b. -/
def SrtOn (d : List Idn) (m b : Nat) : Prop := ∀ s t y z, m ≤ s → s ≤ t → t < b → d[s]? = some y → d[t]? = some z → Le y z
theorem srtOn_seg {pre R post : List Idn} (h : Srt R) : SrtOn (pre ++ R ++ post) pre.length (pre.length + R.length) := by
  intro s t y z h1 h2 h3 hy hz
  rw [List.getElem?_append_left (by simp; omega), List.getElem?_append_right h1] at hy
  rw [List.getElem?_append_left (by simp; omega), List.getElem?_append_right (by omega)] at hz
  obtain ⟨h4, rfl⟩ := List.getElem?_eq_some_iff.1 hy
  obtain ⟨h5, rfl⟩ := List.getElem?_eq_some_iff.1 hz
  rcases Nat.lt_or_ge s t with hst | hst
  · exact List.pairwise_iff_getElem.1 h _ _ h4 h5 (by omega)
  · have : s = t := by omega
    subst this
    exact Le.refl _
/-- What one look at the row needs, and what it leaves. -/
theorem lt_of_le_lt {x y z : Idn} (h : Le x y) (g : ordI y z < 0) : ordI x z < 0 := by
  unfold Le at h
  rw [ordI_lt] at *
  omega
theorem lt_of_lt_le {x y z : Idn} (h : ordI x y < 0) (g : Le y z) : ordI x z < 0 := by
  unfold Le at g
  rw [ordI_lt] at *
  omega

set_option maxRecDepth 100000 in
set_option maxHeartbeats 8000000 in
theorem sm_left (w : World) (B n cap : Nat) (hB : B < w.heap.size) (pre : List Idn) (x : Idn) (R post : List Idn) (hR : 0 < R.length) (hs : Srt R) (W : World) (hr : RW w B n (pre ++ x :: (R ++ post)) W) (hn : n ≤ 1000000) (a m b : Nat) (ha : a = pre.length) (hm : m = pre.length + 1) (hb : b = pre.length + 1 + R.length) :
    Calls Tryd.prog 35 #[.slice (some ⟨B, 0, none⟩) n cap, .int .i64 a, .int .i64 m, .int .i64 b, .func (.func 22) #[] #[]] W fun e w' => (∃ v, e = .returned v) ∧ ∃ M, M.Perm (x :: R) ∧ Srt M ∧ RW w B n (pre ++ M ++ post) w' := by
  have hl := hr.len
  simp only [List.length_append, List.length_cons] at hl
  obtain ⟨d, hd⟩ : ∃ d, pre ++ x :: (R ++ post) = d := ⟨_, rfl⟩
  have hso : SrtOn d m b := by
    have := srtOn_seg (pre := pre ++ [x]) (post := post) hs
    rw [← hd, hm, hb]
    simpa [Nat.add_assoc] using this
  have hx : d[a]? = some x := by rw [← hd, ha]; exact at_seg _ _ _
  have a1 : pre.length ≤ a := by omega
  have a2 : a ≤ pre.length := by omega
  have m1 : a + 1 ≤ m := by omega
  have m2 : m ≤ a + 1 := by omega
  have b1 : m + R.length ≤ b := by omega
  have b2 : b ≤ m + R.length := by omega
  have hbn : b ≤ n := by omega
  rw [hd] at hr
  have hma : ((m : Int) - (a : Int)) = 1 := by omega
  have HR := Lib.hid hr
  have HSO := Lib.hid hso
  have HX := Lib.hid hx
  have HD := Lib.hid hd
  have HS := Lib.hid hs
  clear hr ha hb hm hl hso hx hd hs
  go_enter Tryd.func35, Tryd.ntmps35
  go_wp2
  go_loopw [10, 11] (fun iv jv wr => ∃ (i j : Nat), iv = .int .i64 i ∧ jv = .int .i64 j ∧ m ≤ i ∧ i ≤ j ∧ j ≤ b ∧ (∀ t y, m ≤ t → t < i → d[t]? = some y → ordI y x < 0) ∧ (∀ t y, j ≤ t → t < b → d[t]? = some y → Le x y) ∧ RW w B n d wr) (fun iv jv _ => (intOf jv).toNat - (intOf iv).toNat)
  case atStart => exact ⟨m, b, rfl, rfl, Nat.le_refl _, by omega, Nat.le_refl _, fun t y h1 h2 => by omega, fun t y h1 h2 => by omega, HR.out⟩
  case round =>
    obtain ⟨i, j, rfl, rfl, hmi, hij, hjb, hlo, hhi, h⟩ := hrel
    by_cases hlt : i < j
    · obtain ⟨h', hh⟩ : ∃ h', (i + j) / 2 = h' := ⟨_, rfl⟩
      have hhz : ((i : Int) + (j : Int)) / 2 = (h' : Int) := by omega
      have hh1 : i ≤ h' := by omega
      have hh2 : h' < j := by omega
      obtain ⟨y, hy⟩ : ∃ y, d[h']? = some y := ⟨_, List.getElem?_eq_getElem (by have := h.len; omega)⟩
      have HLO := Lib.hid hlo
      have HHI := Lib.hid hhi
      have hltz : (i : Int) < (j : Int) := by omega
      have q0 : (0 : Int) ≤ (h' : Int) := by omega
      have q1 : (h' : Int) < (n : Int) := by omega
      have q2 : (0 : Int) ≤ (a : Int) := by omega
      have q3 : (a : Int) < (n : Int) := by omega
      have HYY := Lib.hid hy
      clear hlo hhi hh hy
      have HQ := Lib.hid h
      clear h
      go_wp2_with fail
      have h := HQ.out
      have ep := h.el h' y HYY.out
      have eq' := h.el a x HX.out
      obtain ⟨c0, c1, c2⟩ := ep.cells
      obtain ⟨d0, d1, d2⟩ := eq'.cells
      have HO := Lib.hid (order_any y x)
      have HH := Lib.hid h
      have HK0 := Lib.hid (show Gr wr wr.drew ∧ wr.drew.cell? ⟨B, h' * 3, none⟩ = some (.int .u8 y.kind) ∧ wr.drew.cell? ⟨B, h' * 3 + 1, none⟩ = some (.int .i64 y.seq) ∧ wr.drew.cell? ⟨B, h' * 3 + 2, none⟩ = some (.int .i64 y.fmt) ∧ wr.drew.cell? ⟨B, a * 3, none⟩ = some (.int .u8 x.kind) ∧ wr.drew.cell? ⟨B, a * 3 + 1, none⟩ = some (.int .i64 x.seq) ∧ wr.drew.cell? ⟨B, a * 3 + 2, none⟩ = some (.int .i64 x.fmt) from ⟨(Gr.refl wr).drew, c0, c1, c2, d0, d1, d2⟩)
      have HK := Lib.hid (show ∀ X Y, (Gr wr X ∧ X.cell? ⟨B, h' * 3, none⟩ = some (.int .u8 y.kind) ∧ X.cell? ⟨B, h' * 3 + 1, none⟩ = some (.int .i64 y.seq) ∧ X.cell? ⟨B, h' * 3 + 2, none⟩ = some (.int .i64 y.fmt) ∧ X.cell? ⟨B, a * 3, none⟩ = some (.int .u8 x.kind) ∧ X.cell? ⟨B, a * 3 + 1, none⟩ = some (.int .i64 x.seq) ∧ X.cell? ⟨B, a * 3 + 2, none⟩ = some (.int .i64 x.fmt)) → Gr X Y → (Gr wr Y ∧ Y.cell? ⟨B, h' * 3, none⟩ = some (.int .u8 y.kind) ∧ Y.cell? ⟨B, h' * 3 + 1, none⟩ = some (.int .i64 y.seq) ∧ Y.cell? ⟨B, h' * 3 + 2, none⟩ = some (.int .i64 y.fmt) ∧ Y.cell? ⟨B, a * 3, none⟩ = some (.int .u8 x.kind) ∧ Y.cell? ⟨B, a * 3 + 1, none⟩ = some (.int .i64 x.seq) ∧ Y.cell? ⟨B, a * 3 + 2, none⟩ = some (.int .i64 x.fmt)) from
        fun X Y h hg => ⟨h.1.trans hg, later_cell hg h.2.1, later_cell hg h.2.2.1, later_cell hg h.2.2.2.1, later_cell hg h.2.2.2.2.1, later_cell hg h.2.2.2.2.2.1, later_cell hg h.2.2.2.2.2.2⟩)
      clear ep eq' h
      go_region_held3 (fun X => Gr wr X ∧ X.cell? ⟨B, h' * 3, none⟩ = some (.int .u8 y.kind) ∧ X.cell? ⟨B, h' * 3 + 1, none⟩ = some (.int .i64 y.seq) ∧ X.cell? ⟨B, h' * 3 + 2, none⟩ = some (.int .i64 y.fmt) ∧ X.cell? ⟨B, a * 3, none⟩ = some (.int .u8 x.kind) ∧ X.cell? ⟨B, a * 3 + 1, none⟩ = some (.int .i64 x.seq) ∧ X.cell? ⟨B, a * 3 + 2, none⟩ = some (.int .i64 x.fmt))
        (first | exact HK0.out | exact HK.out _ _ (by assumption) (by assumption) | exact HK.out _ _ (by assumption) (Gr.refl _))
        (first | (go_at_call 22; refine (HO.out _).mono ?_; rintro e y1 ⟨rfl, hgy1⟩))
      all_goals
        have hheld := (by assumption : Gr wr y1 ∧ _)
        have HY1 := Lib.hid (HH.out.later (Nat.lt_of_lt_of_le hB HH.out.gr.size) hheld.1)
        clear hheld hgy1
        by_cases hlv : ordI y x < 0
        · have HLV := Lib.hid hlv
          go_wp2
          refine ⟨⟨h' + 1, j, by go_num, rfl, by omega, by omega, hjb, fun t z h1 h2 hz => ?_, HHI.out, HY1.out⟩, by simp [intOf]; omega⟩
          exact lt_of_le_lt (HSO.out t h' z y h1 (by omega) (by omega) hz HYY.out) HLV.out
        · have HLV := Lib.hid (show Le x y from hlv)
          go_wp2
          refine ⟨⟨i, h', rfl, rfl, hmi, by omega, by omega, HLO.out, fun t z h1 h2 hz => ?_, HY1.out⟩, by simp [intOf]; omega⟩
          exact Le.trans (show Le x y from HLV.out) (HSO.out h' t y z (by omega) h1 h2 HYY.out hz)
    · have hij' : i = j := by omega
      subst hij'
      have hsplit : R.take (i - m) ++ R.drop (i - m) = R := List.take_append_drop _ _
      have hlen1 : (R.take (i - m)).length = i - m := by rw [List.length_take]; omega
      have hd1 : ∀ r ∈ R.take (i - m), ordI r x < 0 := fun r hr => by
        obtain ⟨t, ht, rfl⟩ := List.getElem_of_mem hr
        have ht' : t < i - m := by omega
        refine hlo (m + t) _ (by omega) (by omega) ?_
        rw [← HD.out, List.getElem?_append_right (by omega), show m + t - pre.length = t + 1 by omega, List.getElem?_cons_succ, List.getElem?_append_left (by omega), List.getElem_take, List.getElem?_eq_getElem]
      have hd2 : ∀ r ∈ R.drop (i - m), Le x r := fun r hr => by
        obtain ⟨t, ht, rfl⟩ := List.getElem_of_mem hr
        have ht' : (i - m) + t < R.length := by rw [List.length_drop] at ht; omega
        refine hhi (i + t) _ (by omega) (by omega) ?_
        rw [← HD.out, List.getElem?_append_right (by omega), show i + t - pre.length = (i - m + t) + 1 by omega, List.getElem?_cons_succ, List.getElem?_append_left ht', List.getElem_drop, List.getElem?_eq_getElem]
      obtain ⟨R1, hR1⟩ : ∃ R1, R.take (i - m) = R1 := ⟨_, rfl⟩
      obtain ⟨R2, hR2⟩ : ∃ R2, R.drop (i - m) = R2 := ⟨_, rfl⟩
      rw [hR1] at hsplit hlen1 hd1
      rw [hR2] at hsplit hd2
      have HF := Lib.hid (And.intro hsplit (And.intro hd1 hd2))
      have h0 : RW w B n (pre ++ x :: (R1 ++ R2 ++ post)) wr := by rw [hsplit, HD.out]; exact h
      have H0 := Lib.hid h0
      have i1 : i ≤ m + R1.length := by omega
      have i2 : m + R1.length ≤ i := by omega
      clear hlo hhi h hsplit hd1 hd2 h0 hR1 hR2 hlen1
      go_wp2
      go_loopw [13] (fun kv wr => ∃ (t : Nat), kv = .int .i64 ((a + t : Nat) : Int) ∧ t ≤ R1.length ∧ RW w B n (pre ++ R1.take t ++ x :: (R1.drop t ++ R2 ++ post)) wr) (fun kv _ => b - (intOf kv).toNat)
      case atStart => exact ⟨0, rfl, Nat.zero_le _, by simpa using H0.out⟩
      case round =>
        obtain ⟨t, rfl, ht, h⟩ := hrel
        obtain ⟨k, hk⟩ : ∃ k, a + t = k := ⟨_, rfl⟩
        rw [hk]
        by_cases hlt2 : t < R1.length
        · have hkz : (k : Int) < (i : Int) - 1 := by omega
          obtain ⟨r, hr⟩ : ∃ r, R1[t]? = some r := ⟨_, List.getElem?_eq_getElem hlt2⟩
          have hdr : R1.drop t = r :: R1.drop (t + 1) := by
            rw [List.drop_eq_getElem_cons hlt2]
            congr 1
            rw [List.getElem?_eq_getElem hlt2] at hr
            exact Option.some.inj hr
          have htk : R1.take (t + 1) = R1.take t ++ [r] := by rw [List.take_add_one, hr]; rfl
          have hA : (pre ++ R1.take t).length = k := by rw [List.length_append, List.length_take]; omega
          obtain ⟨l, hl⟩ : ∃ l, k + 1 = l := ⟨_, rfl⟩
          have hd : pre ++ R1.take t ++ x :: (R1.drop t ++ R2 ++ post) = (pre ++ R1.take t) ++ x :: r :: (R1.drop (t + 1) ++ R2 ++ post) := by rw [hdr]; rfl
          rw [hd] at h
          have hkx : ((pre ++ R1.take t) ++ x :: r :: (R1.drop (t + 1) ++ R2 ++ post))[k]? = some x := by rw [← hA]; exact at_seg _ _ _
          have hlr : ((pre ++ R1.take t) ++ x :: r :: (R1.drop (t + 1) ++ R2 ++ post))[l]? = some r := by rw [← hl, ← hA]; exact at_seg1 _ _ _ _
          have w1 : IntKind.i64.wrap ((k : Int) + 1) = (l : Int) := by rw [IntKind.wrap_i64]; omega
          have q0 : (0 : Int) ≤ (k : Int) := by omega
          have q1 : (k : Int) < (n : Int) := by omega
          have q2 : (0 : Int) ≤ (l : Int) := by omega
          have q3 : (l : Int) < (n : Int) := by omega
          have HA := Lib.hid (And.intro hA (And.intro htk hd))
          have k1 : k + 1 ≤ l := by omega
          have k2 : l ≤ k + 1 := by omega
          have k3 : a + t ≤ k := by omega
          have k4 : k ≤ a + t := by omega
          have HKL := Lib.hid (And.intro hkx hlr)
          have HQ := Lib.hid h
          clear hr hdr htk hA hd hkx hlr h hk hl
          go_wp2_with fail
          have h := HQ.out
          obtain ⟨c0, c1, c2⟩ := (h.el k x HKL.out.1).cells
          obtain ⟨d0, d1, d2⟩ := (h.el l r HKL.out.2).cells
          obtain ⟨f0, f1, f2⟩ := (h.th k (by omega)).frozen
          obtain ⟨g0, g1, g2⟩ := (h.th l (by omega)).frozen
          have n1 : ¬ k * 3 = l * 3 + 1 := by omega
          have n2 : ¬ k * 3 = l * 3 + 2 := by omega
          have n3 : ¬ k * 3 + 1 = l * 3 := by omega
          have n4 : ¬ k * 3 + 1 = l * 3 + 2 := by omega
          have n5 : ¬ k * 3 + 2 = l * 3 := by omega
          have n6 : ¬ k * 3 + 2 = l * 3 + 1 := by omega
          have n7 : ¬ k = l := by omega
          have HY := Lib.hid h
          clear h
          go_region
          obtain ⟨W4, hW4⟩ : ∃ W4, ((((((wr.setCell ⟨B, k * 3, none⟩ (.int .u8 r.kind)).setCell ⟨B, k * 3 + 1, none⟩ (.int .i64 r.seq)).setCell ⟨B, k * 3 + 2, none⟩ (.int .i64 r.fmt)).setCell ⟨B, l * 3, none⟩ (.int .u8 x.kind)).setCell ⟨B, l * 3 + 1, none⟩ (.int .i64 x.seq)).setCell ⟨B, l * 3 + 2, none⟩ (.int .i64 x.fmt)).drew = W4 := ⟨_, rfl⟩
          have h4 : RW w B n ((pre ++ R1.take t) ++ r :: x :: (R1.drop (t + 1) ++ R2 ++ post)) W4 := by
            rw [← hW4]
            have h5 := RW.drew (RW.put (RW.put HY.out (i := k) (by omega) r) (i := l) (by omega) x)
            have e : (((pre ++ R1.take t) ++ x :: r :: (R1.drop (t + 1) ++ R2 ++ post)).set k r).set l x = (pre ++ R1.take t) ++ r :: x :: (R1.drop (t + 1) ++ R2 ++ post) := by
              rw [show l = (pre ++ R1.take t).length + 1 by have := HA.out.1; omega, ← HA.out.1]
              rw [List.set_append_right _ _ (by omega), List.set_append_right _ _ (by omega)]
              simp
            rw [e] at h5
            exact h5
          have H4 := Lib.hid h4
          rw [hW4]
          clear h4 hW4 c0 c1 c2 d0 d1 d2 f0 f1 f2 g0 g1 g2 n1 n2 n3 n4 n5 n6 n7
          go_wp2
          refine ⟨⟨t + 1, by go_num, by omega, ?_⟩, by simp [intOf]; omega⟩
          rw [HA.out.2.1]
          simpa using H4.out
        · have htR : t = R1.length := by omega
          subst htR
          have hkz : ¬ (k : Int) < (i : Int) - 1 := by omega
          rw [List.take_length, List.drop_length] at h
          have HQ := Lib.hid h
          clear h
          go_wp2
          obtain ⟨h1, h2, h3⟩ := HF.out
          have hsr := HS.out
          rw [← h1] at hsr
          refine bodyPost_ret (results_none rfl _ _ _) rfl ⟨⟨_, rfl⟩, R1 ++ x :: R2, ?_, ?_, by simpa using HQ.out⟩
          · rw [← h1]; exact List.perm_middle
          · exact srt_in hsr (fun p hp => Le.of_lt (h2 p hp)) (fun p hp => h3 p hp)
end Go.Proofs.YtkhkjcoejkgfeaaDoor
