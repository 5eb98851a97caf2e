/-
  Walk: symMerge.
  Conditions: none beyond those typed at each theorem.
-/
import Derived.Test.YtkhkjcoejkgfeaaDoorSd
import Derived.Deep.DeepCutAuto
namespace Go.Proofs.YtkhkjcoejkgfeaaDoor
open Go Go.RowKit

set_option maxRecDepth 100000 in
set_option maxHeartbeats 8000000 in
theorem sm_any (w : World) (B n cap : Nat) (hB : B < w.heap.size) (hn : n ≤ 1000000) : ∀ k (pre L R post : List Idn) (W : World), L.length + R.length ≤ k → 0 < L.length → 0 < R.length → Srt L → Srt R →
    RW w B n (pre ++ L ++ R ++ post) W → ∀ {a' m' b' : Int}, a' = (pre.length : Nat) → m' = ((pre.length + L.length : Nat) : Int) → b' = ((pre.length + L.length + R.length : Nat) : Int) →
    Calls Tryd.prog 35 #[.slice (some ⟨B, 0, none⟩) n cap, .int .i64 a', .int .i64 m', .int .i64 b', .func (.func 22) #[] #[]] W fun e w' => (∃ v, e = .returned v) ∧ ∃ M, M.Perm (L ++ R) ∧ Srt M ∧ RW w B n (pre ++ M ++ post) w' := by
  intro k
  induction k with
  | zero => intro pre L R post W hk hL hR; omega
  | succ k ih =>
  intro pre L R post W hk hL hR sL sR hr a' m' b' ha' hm' hb'
  have hl := hr.len
  simp only [List.length_append] at hl
  by_cases hL1 : L.length = 1
  · match L, hL1 with
    | [x], _ =>
      obtain ⟨a, ha⟩ : ∃ a, pre.length = a := ⟨_, rfl⟩
      obtain rfl : a' = (a : Int) := by omega
      obtain rfl : m' = ((a + 1 : Nat) : Int) := by simp at hm'; omega
      obtain rfl : b' = ((a + 1 + R.length : Nat) : Int) := by simp at hb'; omega
      exact sm_left w B n cap hB pre x R post hR sR W (by simpa using hr) hn a (a + 1) (a + 1 + R.length) ha.symm (by omega) (by omega)
  by_cases hR1 : R.length = 1
  · match R, hR1 with
    | [x], _ =>
      obtain ⟨a, ha⟩ : ∃ a, pre.length = a := ⟨_, rfl⟩
      obtain rfl : a' = (a : Int) := by omega
      obtain rfl : m' = ((a + L.length : Nat) : Int) := by simp at hm'; omega
      obtain rfl : b' = ((a + L.length + 1 : Nat) : Int) := by simp at hb'; omega
      refine (sm_right w B n cap hB pre x L post (by omega) sL W (by simpa using hr) hn a (a + L.length) (a + L.length + 1) ha.symm (by omega) (by omega)).mono ?_
      rintro e w' ⟨h1, M, h2, h3, h4⟩
      exact ⟨h1, M, h2.trans (List.perm_append_comm (l₁ := [x]) (l₂ := L)), h3, h4⟩
  obtain ⟨d, hd⟩ : ∃ d, pre ++ L ++ R ++ post = d := ⟨_, rfl⟩
  obtain ⟨a, ha⟩ : ∃ a, pre.length = a := ⟨_, rfl⟩
  obtain ⟨m, hm⟩ : ∃ m, pre.length + L.length = m := ⟨_, rfl⟩
  obtain ⟨b, hb⟩ : ∃ b, pre.length + L.length + R.length = b := ⟨_, rfl⟩
  obtain ⟨h, hh⟩ : ∃ h, (a + b) / 2 = h := ⟨_, rfl⟩
  obtain rfl : a' = (a : Int) := by omega
  obtain rfl : m' = (m : Int) := by omega
  obtain rfl : b' = (b : Int) := by omega
  have dL : ∀ i, a ≤ i → i < m → d[i]? = L[i - a]? := fun i h1 h2 => by
    rw [← hd, List.getElem?_append_left (by simp; omega), List.getElem?_append_left (by simp; omega), List.getElem?_append_right (by omega), ha]
  have dR : ∀ i, m ≤ i → i < b → d[i]? = R[i - m]? := fun i h1 h2 => by
    rw [← hd, List.getElem?_append_left (by simp; omega), List.getElem?_append_right (by simp; omega), List.length_append, hm]
  rw [hd] at hr
  have a2 : a + 2 ≤ m := by omega
  have m2 : m + 2 ≤ b := by omega
  have bn : b ≤ n := by omega
  have h1 : a < h := by omega
  have h2 : h < b := by omega
  have hh1 : h + h ≤ a + b := by omega
  have hh2 : a + b ≤ h + h + 1 := by omega
  have hhz : ((a : Int) + (b : Int)) / 2 = (h : Int) := by omega
  obtain ⟨p, hp⟩ : ∃ p, h + m = p + 1 := ⟨h + m - 1, by omega⟩
  have hpz : (h : Int) + (m : Int) - 1 = (p : Int) := by omega
  have p1 : h + m ≤ p + 1 := by omega
  have p2 : p + 1 ≤ h + m := by omega
  have c1 : ¬ ((m : Int) - (a : Int)) = 1 := by omega
  have c2 : ¬ ((b : Int) - (m : Int)) = 1 := by omega
  have HR := Lib.hid hr
  have HD := Lib.hid (And.intro dL dR)
  have HS := Lib.hid (And.intro sL sR)
  have HQ := Lib.hid (And.intro hd (And.intro ha (And.intro hm (And.intro hb hk))))
  have HIH : Hid (SmIH w B n cap k) := Lib.hid ih
  clear hr dL dR sL sR ha' hm' hb' hd ha hm hb hk ih hh hp hl hL hR hL1 hR1
  go_enter Tryd.func35, Tryd.ntmps35
  go_upto_if 140 with (fail)
  go_cut [20, 21] (fun sv rv wx => ∃ s0 r0 : Nat, sv = .int .i64 (s0 : Int) ∧ rv = .int .i64 (r0 : Int) ∧ a ≤ s0 ∧ s0 ≤ r0 ∧ r0 ≤ m ∧ h + m ≤ b + s0 ∧ r0 ≤ h ∧ Hid ((s0 = a ∨ h + m = b + s0) ∧ (r0 = h ∨ r0 = m)) ∧ RW w B n d wx)
  case first =>
    by_cases hmh : (m : Int) > (h : Int)
    · go_wp2
      go_meet
      exact ⟨h + m - b, h, by first | rfl | go_num | (congr 1; omega), rfl, by omega, by omega, by omega, by omega, by omega, Lib.hid ⟨.inr (by omega), .inl rfl⟩, HR.out⟩
    · go_wp2
      go_meet
      exact ⟨a, m, rfl, rfl, by omega, by omega, by omega, by omega, by omega, Lib.hid ⟨.inl rfl, .inr rfl⟩, HR.out⟩
  case rest =>
  obtain ⟨s0, r0, rfl, rfl, e1, e2, e3, e4, e5, HE, hrc⟩ := hcut
  have HRC := Lib.hid hrc
  clear hrc
  go_wp2
  go_loopw [20, 21] (fun sv rv wr => ∃ (s r : Nat), sv = .int .i64 s ∧ rv = .int .i64 r ∧ s0 ≤ s ∧ s ≤ r ∧ r ≤ r0 ∧ (s = s0 ∨ ∃ x y, d[p - (s - 1)]? = some x ∧ d[s - 1]? = some y ∧ Le y x) ∧ (r = r0 ∨ ∃ x y, d[p - r]? = some x ∧ d[r]? = some y ∧ Le x y) ∧ RW w B n d wr) (fun sv rv _ => (intOf rv).toNat - (intOf sv).toNat)
  case atStart => exact ⟨s0, r0, rfl, rfl, Nat.le_refl _, e2, Nat.le_refl _, .inl rfl, .inl rfl, HRC.out⟩
  case round =>
    obtain ⟨s, r, rfl, rfl, f1, f2, f3, hs, hr, hw⟩ := hrel
    by_cases hlt : s < r
    · obtain ⟨c, hc⟩ : ∃ c, (s + r) / 2 = c := ⟨_, rfl⟩
      have hcz : ((s : Int) + (r : Int)) / 2 = (c : Int) := by omega
      have g1 : s ≤ c := by omega
      have g2 : c < r := by omega
      obtain ⟨q, hq⟩ : ∃ q, p - c = q := ⟨_, rfl⟩
      have g3 : q + c ≤ p := by omega
      have g4 : p ≤ q + c := by omega
      have w1 : IntKind.i64.wrap ((p : Int) - (c : Int)) = (q : Int) := by rw [IntKind.wrap_i64]; omega
      obtain ⟨x, hx⟩ : ∃ x, d[q]? = some x := ⟨_, List.getElem?_eq_getElem (by have := hw.len; omega)⟩
      obtain ⟨y, hy⟩ : ∃ y, d[c]? = some y := ⟨_, List.getElem?_eq_getElem (by have := hw.len; omega)⟩
      have HSR := Lib.hid (And.intro hs hr)
      have HXY := Lib.hid (And.intro hx hy)
      have HCQ := Lib.hid hq
      have hltz : (s : Int) < (r : Int) := by omega
      have q0 : (0 : Int) ≤ (q : Int) := by omega
      have q1 : (q : Int) < (n : Int) := by omega
      have q2 : (0 : Int) ≤ (c : Int) := by omega
      have q3 : (c : Int) < (n : Int) := by omega
      have HW := Lib.hid hw
      clear hs hr hx hy hc hq hw
      go_wp2_with fail
      have hw := HW.out
      have ep := hw.el q x HXY.out.1
      have eq' := hw.el c y HXY.out.2
      obtain ⟨c0, c1, c2⟩ := ep.cells
      obtain ⟨d0, d1, d2⟩ := eq'.cells
      have HO := Lib.hid (order_any x y)
      have HH := Lib.hid hw
      have HK0 := Lib.hid (show Gr wr wr.drew ∧ wr.drew.cell? ⟨B, q * 3, none⟩ = some (.int .u8 x.kind) ∧ wr.drew.cell? ⟨B, q * 3 + 1, none⟩ = some (.int .i64 x.seq) ∧ wr.drew.cell? ⟨B, q * 3 + 2, none⟩ = some (.int .i64 x.fmt) ∧ wr.drew.cell? ⟨B, c * 3, none⟩ = some (.int .u8 y.kind) ∧ wr.drew.cell? ⟨B, c * 3 + 1, none⟩ = some (.int .i64 y.seq) ∧ wr.drew.cell? ⟨B, c * 3 + 2, none⟩ = some (.int .i64 y.fmt) from ⟨(Gr.refl wr).drew, c0, c1, c2, d0, d1, d2⟩)
      have HK := Lib.hid (show ∀ X Y, (Gr wr X ∧ X.cell? ⟨B, q * 3, none⟩ = some (.int .u8 x.kind) ∧ X.cell? ⟨B, q * 3 + 1, none⟩ = some (.int .i64 x.seq) ∧ X.cell? ⟨B, q * 3 + 2, none⟩ = some (.int .i64 x.fmt) ∧ X.cell? ⟨B, c * 3, none⟩ = some (.int .u8 y.kind) ∧ X.cell? ⟨B, c * 3 + 1, none⟩ = some (.int .i64 y.seq) ∧ X.cell? ⟨B, c * 3 + 2, none⟩ = some (.int .i64 y.fmt)) → Gr X Y → (Gr wr Y ∧ Y.cell? ⟨B, q * 3, none⟩ = some (.int .u8 x.kind) ∧ Y.cell? ⟨B, q * 3 + 1, none⟩ = some (.int .i64 x.seq) ∧ Y.cell? ⟨B, q * 3 + 2, none⟩ = some (.int .i64 x.fmt) ∧ Y.cell? ⟨B, c * 3, none⟩ = some (.int .u8 y.kind) ∧ Y.cell? ⟨B, c * 3 + 1, none⟩ = some (.int .i64 y.seq) ∧ Y.cell? ⟨B, c * 3 + 2, none⟩ = some (.int .i64 y.fmt)) from
        fun X Y h hg => ⟨h.1.trans hg, later_cell hg h.2.1, later_cell hg h.2.2.1, later_cell hg h.2.2.2.1, later_cell hg h.2.2.2.2.1, later_cell hg h.2.2.2.2.2.1, later_cell hg h.2.2.2.2.2.2⟩)
      clear ep eq' hw
      go_region_held3 (fun X => Gr wr X ∧ X.cell? ⟨B, q * 3, none⟩ = some (.int .u8 x.kind) ∧ X.cell? ⟨B, q * 3 + 1, none⟩ = some (.int .i64 x.seq) ∧ X.cell? ⟨B, q * 3 + 2, none⟩ = some (.int .i64 x.fmt) ∧ X.cell? ⟨B, c * 3, none⟩ = some (.int .u8 y.kind) ∧ X.cell? ⟨B, c * 3 + 1, none⟩ = some (.int .i64 y.seq) ∧ X.cell? ⟨B, c * 3 + 2, none⟩ = some (.int .i64 y.fmt))
        (first | exact HK0.out | exact HK.out _ _ (by assumption) (by assumption) | exact HK.out _ _ (by assumption) (Gr.refl _))
        (first | (go_at_call 22; refine (HO.out _).mono ?_; rintro e y1 ⟨rfl, hgy1⟩))
      all_goals
        have hheld := (by assumption : Gr wr y1 ∧ _)
        have HY1 := Lib.hid (HH.out.later (Nat.lt_of_lt_of_le hB HH.out.gr.size) hheld.1)
        clear hheld hgy1
        by_cases hlv : ordI x y < 0
        · have HLV := Lib.hid (Le.of_lt hlv)
          have hlv2 : ¬ (0 : Int) ≤ ordI x y := by omega
          have hlv3 : (!decide (ordI x y < 0)) = false := by simp; omega
          rw [hlv3]
          go_wp2
          refine ⟨⟨s, c, rfl, rfl, f1, g1, by omega, HSR.out.1, .inr ⟨x, y, ?_, HXY.out.2, HLV.out⟩, HY1.out⟩, by simp [intOf]; omega⟩
          rw [HCQ.out]; exact HXY.out.1
        · have HLV := Lib.hid (show Le y x from hlv)
          have hlv2 : (0 : Int) ≤ ordI x y := by omega
          have hlv3 : (!decide (ordI x y < 0)) = true := by simp; omega
          rw [hlv3]
          go_wp2
          refine ⟨⟨c + 1, r, by go_num, rfl, by omega, by omega, f3, .inr ⟨x, y, ?_, HXY.out.2, HLV.out⟩, HSR.out.2, HY1.out⟩, by simp [intOf]; omega⟩
          rw [show p - (c + 1 - 1) = q by rw [← HCQ.out]; omega]; exact HXY.out.1
    · have hsr : s = r := by omega
      subst hsr
      obtain ⟨e, he⟩ : ∃ e, h + m - s = e := ⟨_, rfl⟩
      have hez : (h : Int) + (m : Int) - (s : Int) = (e : Int) := by omega
      have g1 : e + s ≤ h + m := by omega
      have g2 : h + m ≤ e + s := by omega
      obtain ⟨hd, ha, hm, hb, hk⟩ := HQ.out
      obtain ⟨dL, dR⟩ := HD.out
      have hA : s - a = 0 ∨ e - m = R.length ∨ ∃ x y, L[s - a - 1]? = some x ∧ R[e - m]? = some y ∧ Le x y := by
        rcases Nat.lt_or_ge s0 s with hss | hss
        · rcases hs with hs | ⟨x, y, hx, hy, hxy⟩
          · omega
          · refine .inr (.inr ⟨y, x, ?_, ?_, hxy⟩)
            · rw [← hy, dL _ (by omega) (by omega)]; congr 1; omega
            · rw [← hx, dR _ (by omega) (by omega)]; congr 1; omega
        · rcases HE.out.1 with h0 | h0
          · exact .inl (by omega)
          · exact .inr (.inl (by omega))
      have hBB : s - a = L.length ∨ e - m = 0 ∨ ∃ x y, L[s - a]? = some x ∧ R[e - m - 1]? = some y ∧ Le y x := by
        rcases Nat.lt_or_ge s r0 with hss | hss
        · rcases hr with hr | ⟨x, y, hx, hy, hxy⟩
          · omega
          · refine .inr (.inr ⟨y, x, ?_, ?_, hxy⟩)
            · rw [← hy, dL _ (by omega) (by omega)]
            · rw [← hx, dR _ (by omega) (by omega)]; congr 1; omega
        · rcases HE.out.2 with h0 | h0
          · exact .inr (.inl (by omega))
          · exact .inl (by omega)
      have hfin := fun (M1 M2 : List Idn) => parted (M1 := M1) (M2 := M2) HS.out.1 HS.out.2 (s - a) (e - m) hA hBB
      have k1 : (L.take (s - a)).length = s - a := by rw [List.length_take]; omega
      have k2 : (L.drop (s - a)).length = m - s := by rw [List.length_drop]; omega
      have k3 : (R.take (e - m)).length = e - m := by rw [List.length_take]; omega
      have k4 : (R.drop (e - m)).length = b - e := by rw [List.length_drop]; omega
      have t1 : Srt (L.take (s - a)) := HS.out.1.sublist (List.take_sublist _ _)
      have t2 : Srt (L.drop (s - a)) := HS.out.1.sublist (List.drop_sublist _ _)
      have t3 : Srt (R.take (e - m)) := HS.out.2.sublist (List.take_sublist _ _)
      have t4 : Srt (R.drop (e - m)) := HS.out.2.sublist (List.drop_sublist _ _)
      have hsp : d = pre ++ L.take (s - a) ++ L.drop (s - a) ++ R.take (e - m) ++ (R.drop (e - m) ++ post) := by
        rw [← hd]
        conv => lhs; rw [← List.take_append_drop (s - a) L, ← List.take_append_drop (e - m) R]
        simp only [List.append_assoc]
      obtain ⟨L1, hL1⟩ : ∃ l, L.take (s - a) = l := ⟨_, rfl⟩
      obtain ⟨L2, hL2⟩ : ∃ l, L.drop (s - a) = l := ⟨_, rfl⟩
      obtain ⟨R1, hR1⟩ : ∃ l, R.take (e - m) = l := ⟨_, rfl⟩
      obtain ⟨R2, hR2⟩ : ∃ l, R.drop (e - m) = l := ⟨_, rfl⟩
      rw [hL1, hR1, hL2, hR2] at hfin hsp
      rw [hL1] at k1 t1
      rw [hL2] at k2 t2
      rw [hR1] at k3 t3
      rw [hR2] at k4 t4
      rw [hsp] at hw
      have hkk : b - a ≤ k + 1 := by omega
      have HK := Lib.hid (And.intro hkk (And.intro k1 (And.intro k2 (And.intro k3 (And.intro k4 (And.intro ha (And.intro t1 (And.intro t2 (And.intro t3 t4)))))))))
      have HF := Lib.hid hfin
      have HW := Lib.hid hw
      clear hw hfin hsp hL1 hL2 hR1 hR2 k1 k2 k3 k4 t1 t2 t3 t4 hA hBB dL dR hd ha hm hb hk he hs hr hkk
      go_upto_region 38 with fail
      obtain ⟨hkk, k1, k2, k3, k4, ha, t1, t2, t3, t4⟩ := HK.out
      exact sm_tail w B n cap hn k HIH.out pre L1 L2 R1 R2 post (fun M => M.Perm (L ++ R) ∧ Srt M) _ a m b h s e bn h1 h2 (by omega) (by omega) (by omega) (by omega) g1 g2 hkk k1 k2 k3 k4 ha t1 t2 t3 t4
        (fun M1 M2 p1 p2 s1 s2 => (HF.out M1 M2 p1 p2 s1 s2).symm) HW.out _ _ rfl _ (by simp only [and_assoc]; rfl) _ (by assumption) _ _ _ _ _ _ _ _ _ _ _ _ _ _ _ _ _ _ _ _ _ _ _ _ _ _ _ _ _ _ _ _ _ _ _ _ _ _ _ _ _ _ _ _ _ _ _ _ _ _ _ _ _ _ _ _ _ _ _ _ _ _ _ _ _ _ _ _ _ _ _ _ _ _ _ _ _ _ _ _ _ _ _ _ _ _ _ _ _ _ _ _ _ _ _ _ _ _ _ _ _ _ _ _ _ _ _ _ _ _ _ _ _ _ _ _ _ _ _ _ _ _ _ _ _ _ _ _ _ _ _ _ _ _ _ _ _ _ _ _ _ _ _ _ _ _ _ _ _ _ _ _ _ _ _ _ _ _ _ _ _ _ _ _ _ _ _ _ _ _ _ _ _ _ _ _ _ _ _ _ _ _ _ _ _ _ _ _ _ _ _ _ _ _ _ _ _ _ _ _ _ _ _ _ _ _ _ _ _ _ _ _
end Go.Proofs.YtkhkjcoejkgfeaaDoor
