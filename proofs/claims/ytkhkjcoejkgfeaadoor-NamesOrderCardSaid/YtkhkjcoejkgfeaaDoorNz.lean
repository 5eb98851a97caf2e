/-
  Walk: insertionSort.
  Conditions: none beyond those typed at each theorem.
-/
import Derived.Test.YtkhkjcoejkgfeaaDoorNy
namespace Go.Proofs.YtkhkjcoejkgfeaaDoor
open Go Go.RowKit

theorem insertion_none (w : World) (B n cap : Nat) (d : List Idn) (W : World) (hr : RW w B n d W) (a : Nat) (ha : a ≤ 1000000) (f : Value) :
    Calls Tryd.prog 34 #[.slice (some ⟨B, 0, none⟩) n cap, .int .i64 a, .int .i64 a, f] W fun e w' => (∃ v, e = .returned v) ∧ RW w B n d w' := by
  have HR := Lib.hid hr
  clear hr
  go_enter Tryd.func34, Tryd.ntmps34
  go_wp2
  go_loopw [8] (fun iv wr => iv = .int .i64 ((a + 1 : Nat) : Int) ∧ RW w B n d wr) (fun _ _ => 0)
  case atStart => exact ⟨by go_num, HR.out⟩
  case round =>
    obtain ⟨rfl, h⟩ := hrel
    go_wp2
    exact bodyPost_end (results_none rfl _ _ _) rfl ⟨⟨_, rfl⟩, h⟩

set_option maxRecDepth 100000 in
set_option maxHeartbeats 8000000 in
theorem insertion_some (w : World) (B n cap : Nat) (hB : B < w.heap.size) (pre S post : List Idn) (x0 : Idn) (W : World) (hr : RW w B n (pre ++ x0 :: S ++ post) W) (hn : n ≤ 1000000) (a b : Nat) (ha : a = pre.length) (hb : b = pre.length + S.length + 1) :
    Calls Tryd.prog 34 #[.slice (some ⟨B, 0, none⟩) n cap, .int .i64 a, .int .i64 b, .func (.func 22) #[] #[]] W fun e w' => (∃ v, e = .returned v) ∧ ∃ S', S'.Perm (x0 :: S) ∧ Srt S' ∧ RW w B n (pre ++ S' ++ post) w' := by
  have hl := hr.len
  simp only [List.length_append, List.length_cons] at hl
  have a1 : pre.length ≤ a := by omega
  have a2 : a ≤ pre.length := by omega
  have b1 : pre.length + S.length + 1 ≤ b := by omega
  have b2 : b ≤ pre.length + S.length + 1 := by omega
  have hbn : b ≤ n := by omega
  have HR := Lib.hid hr
  clear hr ha hb hl
  go_enter Tryd.func34, Tryd.ntmps34
  go_wp2
  go_loopw [8] (fun iv wr => ∃ (i : Nat) (P Q : List Idn), iv = .int .i64 i ∧ i = a + P.length ∧ 0 < P.length ∧ (P ++ Q).Perm (x0 :: S) ∧ Srt P ∧ RW w B n (pre ++ P ++ Q ++ post) wr) (fun iv _ => b - (intOf iv).toNat)
  case atStart => exact ⟨a + 1, [x0], S, by go_num, rfl, Nat.zero_lt_one, List.Perm.refl _, List.pairwise_singleton _ _, by simpa using HR.out⟩
  case round =>
    obtain ⟨i, P, Q, rfl, hi, hP, hperm, hs, h⟩ := hrel
    have hpl := hperm.length_eq
    simp only [List.length_append, List.length_cons] at hpl
    by_cases hlt : i < b
    · obtain ⟨q, Q', rfl⟩ : ∃ q Q', Q = q :: Q' := List.exists_cons_of_ne_nil (by intro hc; subst hc; simp at hpl; omega)
      have hltz : (i : Int) < (b : Int) := by omega
      have HH := Lib.hid h
      have HP := Lib.hid (And.intro hi hperm)
      have HS := Lib.hid hs
      clear h hi hperm hs
      go_wp2_with fail
      obtain ⟨wo, rfl⟩ : ∃ wo : World, wo = wr := ⟨_, rfl⟩
      go_loopw [9] (fun jv wr => ∃ (j : Nat) (P1 P2 : List Idn), jv = .int .i64 j ∧ j = a + P1.length ∧ P1 ++ P2 = P ∧ (∀ p ∈ P2, Le q p) ∧ RW w B n (pre ++ P1 ++ q :: (P2 ++ Q' ++ post)) wr) (fun jv _ => (intOf jv).toNat)
      case atStart => exact ⟨i, P, [], rfl, HP.out.1, by simp, by simp, by simpa using HH.out⟩
      case round =>
        obtain ⟨j, P1, P2, rfl, hj, hpp, hle, h⟩ := hrel
        rcases List.eq_nil_or_concat P1 with rfl | ⟨P1', p, rfl⟩
        · have hja : decide ((a : Int) < (j : Int)) = false := by simp at hj; simp; omega
          have hjl : j = a := by simpa using hj
          have HPP := Lib.hid hpp
          have HLE := Lib.hid hle
          have H2 := Lib.hid h
          clear hpp hle h hj
          go_wp2
          go_quiet (fail)
          have H3 := Lib.hid (show RW w B n (pre ++ (q :: P2) ++ Q' ++ post) (wr.drewN nq) from by
            have := H2.out.later (Nat.lt_of_lt_of_le hB H2.out.gr.size) ((Gr.refl wr).drewN nq)
            simpa using this)
          have hP2 : P2 = P := by simpa using HPP.out
          subst hP2
          go_wp2
          refine ⟨⟨i + 1, q :: P2, Q', by go_num, by have := HP.out.1; simp; omega, by simp, ?_, ?_, H3.out⟩, by simp [intOf]; omega⟩
          · refine List.Perm.trans ?_ HP.out.2
            simpa using (List.perm_middle (a := q) (l₁ := P2) (l₂ := Q')).symm
          · exact srt_in (P1 := []) HS.out (by simp) HLE.out
        · rw [List.concat_eq_append] at hj hpp h
          obtain ⟨jp, hjp⟩ : ∃ jp, a + P1'.length = jp := ⟨_, rfl⟩
          have hj1 : j = jp + 1 := by rw [hj, ← hjp]; simp; omega
          have hA : (pre ++ P1').length = jp := by rw [List.length_append]; omega
          have hd : pre ++ (P1' ++ [p]) ++ q :: (P2 ++ Q' ++ post) = (pre ++ P1') ++ p :: q :: (P2 ++ Q' ++ post) := by simp
          rw [hd] at h
          have hln := h.len
          simp only [List.length_append, List.length_cons] at hln
          have hjn : j < n := by rw [List.length_append] at hA; omega
          have ep := h.el jp p (by rw [← hA]; exact at_seg _ _ _)
          have eq' := h.el j q (by rw [hj1, ← hA]; exact at_seg1 _ _ _ _)
          obtain ⟨c0, c1, c2⟩ := ep.cells
          obtain ⟨d0, d1, d2⟩ := eq'.cells
          obtain ⟨f0, f1, f2⟩ := (h.th jp (by omega)).frozen
          obtain ⟨g0, g1, g2⟩ := (h.th j (by omega)).frozen
          have hja : (a : Int) < (j : Int) := by omega
          have w1 : IntKind.i64.wrap ((j : Int) - 1) = (jp : Int) := by rw [IntKind.wrap_i64]; omega
          have p0 : (0 : Int) ≤ (jp : Int) := by omega
          have p1 : (jp : Int) < (n : Int) := by omega
          have q0 : (0 : Int) ≤ (j : Int) := by omega
          have q1 : (j : Int) < (n : Int) := by omega
          have HPP := Lib.hid hpp
          have HLE := Lib.hid hle
          have H2 := Lib.hid h
          have HA := Lib.hid (And.intro hA (And.intro hj1 hjp))
          have HO := Lib.hid (order_any q p)
          have HK0 := Lib.hid (show Gr wr wr.drew ∧ wr.drew.cell? ⟨B, jp * 3, none⟩ = some (.int .u8 p.kind) ∧ wr.drew.cell? ⟨B, jp * 3 + 1, none⟩ = some (.int .i64 p.seq) ∧ wr.drew.cell? ⟨B, jp * 3 + 2, none⟩ = some (.int .i64 p.fmt) ∧ wr.drew.cell? ⟨B, j * 3, none⟩ = some (.int .u8 q.kind) ∧ wr.drew.cell? ⟨B, j * 3 + 1, none⟩ = some (.int .i64 q.seq) ∧ wr.drew.cell? ⟨B, j * 3 + 2, none⟩ = some (.int .i64 q.fmt) from
            ⟨(Gr.refl wr).drew, c0, c1, c2, d0, d1, d2⟩)
          have HK := Lib.hid (show ∀ X Y, (Gr wr X ∧ X.cell? ⟨B, jp * 3, none⟩ = some (.int .u8 p.kind) ∧ X.cell? ⟨B, jp * 3 + 1, none⟩ = some (.int .i64 p.seq) ∧ X.cell? ⟨B, jp * 3 + 2, none⟩ = some (.int .i64 p.fmt) ∧ X.cell? ⟨B, j * 3, none⟩ = some (.int .u8 q.kind) ∧ X.cell? ⟨B, j * 3 + 1, none⟩ = some (.int .i64 q.seq) ∧ X.cell? ⟨B, j * 3 + 2, none⟩ = some (.int .i64 q.fmt)) → Gr X Y →
              (Gr wr Y ∧ Y.cell? ⟨B, jp * 3, none⟩ = some (.int .u8 p.kind) ∧ Y.cell? ⟨B, jp * 3 + 1, none⟩ = some (.int .i64 p.seq) ∧ Y.cell? ⟨B, jp * 3 + 2, none⟩ = some (.int .i64 p.fmt) ∧ Y.cell? ⟨B, j * 3, none⟩ = some (.int .u8 q.kind) ∧ Y.cell? ⟨B, j * 3 + 1, none⟩ = some (.int .i64 q.seq) ∧ Y.cell? ⟨B, j * 3 + 2, none⟩ = some (.int .i64 q.fmt)) from
            fun X Y h hg => ⟨h.1.trans hg, later_cell hg h.2.1, later_cell hg h.2.2.1, later_cell hg h.2.2.2.1, later_cell hg h.2.2.2.2.1, later_cell hg h.2.2.2.2.2.1, later_cell hg h.2.2.2.2.2.2⟩)
          clear hpp hle h hj hd hln ep eq' hA hj1 hjp
          go_wp2
          go_region_held3 (fun X => Gr wr X ∧ X.cell? ⟨B, jp * 3, none⟩ = some (.int .u8 p.kind) ∧ X.cell? ⟨B, jp * 3 + 1, none⟩ = some (.int .i64 p.seq) ∧ X.cell? ⟨B, jp * 3 + 2, none⟩ = some (.int .i64 p.fmt) ∧ X.cell? ⟨B, j * 3, none⟩ = some (.int .u8 q.kind) ∧ X.cell? ⟨B, j * 3 + 1, none⟩ = some (.int .i64 q.seq) ∧ X.cell? ⟨B, j * 3 + 2, none⟩ = some (.int .i64 q.fmt))
            (first | exact HK0.out | exact HK.out _ _ (by assumption) (by assumption) | exact HK.out _ _ (by assumption) (Gr.refl _))
            (first | (go_at_call 22; refine (HO.out _).mono ?_; rintro e y1 ⟨rfl, hgy1⟩))
          all_goals
            have hheld := (by assumption : Gr wr y1 ∧ _)
            have hy := H2.out.later (Nat.lt_of_lt_of_le hB H2.out.gr.size) hheld.1
            by_cases hlv : ordI q p < 0
            · clear c0 c1 c2 d0 d1 d2 f0 f1 f2 g0 g1 g2
              obtain ⟨hA, hj1, hjp⟩ := HA.out
              obtain ⟨_, c0, c1, c2, d0, d1, d2⟩ := hheld
              obtain ⟨f0, f1, f2⟩ := (hy.th jp (by omega)).frozen
              obtain ⟨g0, g1, g2⟩ := (hy.th j (by omega)).frozen
              have n1 : ¬ j * 3 = jp * 3 + 1 := by omega
              have n2 : ¬ j * 3 = jp * 3 + 2 := by omega
              have n3 : ¬ j * 3 + 1 = jp * 3 := by omega
              have n4 : ¬ j * 3 + 1 = jp * 3 + 2 := by omega
              have n5 : ¬ j * 3 + 2 = jp * 3 := by omega
              have n6 : ¬ j * 3 + 2 = jp * 3 + 1 := by omega
              have n7 : ¬ j = jp := by omega
              have HY := Lib.hid hy
              clear hy hgy1 hA hj1 hjp
              go_wp2_with fail
              go_region
              obtain ⟨W4, hW4⟩ : ∃ W4, ((((((y1.setCell ⟨B, j * 3, none⟩ (.int .u8 p.kind)).setCell ⟨B, j * 3 + 1, none⟩ (.int .i64 p.seq)).setCell ⟨B, j * 3 + 2, none⟩ (.int .i64 p.fmt)).setCell ⟨B, jp * 3, none⟩ (.int .u8 q.kind)).setCell ⟨B, jp * 3 + 1, none⟩ (.int .i64 q.seq)).setCell ⟨B, jp * 3 + 2, none⟩ (.int .i64 q.fmt)).drew = W4 := ⟨_, rfl⟩
              have h4 : RW w B n (pre ++ P1' ++ q :: ((p :: P2) ++ Q' ++ post)) W4 := by
                rw [← hW4]
                obtain ⟨hA, hj1, hjp⟩ := HA.out
                have e := set_two (pre ++ P1') p q (P2 ++ Q' ++ post)
                rw [hA, ← hj1] at e
                have := RW.drew (RW.put (RW.put HY.out (i := j) (by omega) p) (i := jp) (by omega) q)
                rw [e] at this
                exact this
              have H4 := Lib.hid h4
              have HLV := Lib.hid hlv
              rw [hW4]
              clear h4 hW4 c0 c1 c2 d0 d1 d2 f0 f1 f2 g0 g1 g2 hlv
              go_wp2
              refine ⟨⟨jp, P1', p :: P2, by first | rfl | (rw [w1]), HA.out.2.2.symm, by rw [← HPP.out]; simp, ?_, H4.out⟩, by simp [intOf]; have := HA.out.2.1; omega⟩
              intro z hz
              rcases List.mem_cons.1 hz with rfl | hz
              · exact Le.of_lt HLV.out
              · exact HLE.out z hz
            · have HY := Lib.hid hy
              have HLV := Lib.hid hlv
              clear hheld hy hgy1
              go_wp2
              have hsP := HS.out
              rw [← HPP.out] at hsP
              have hperm := HP.out.2
              rw [← HPP.out] at hperm
              refine ⟨⟨i + 1, (P1' ++ [p]) ++ q :: P2, Q', by go_num, by have h1 := HP.out.1; have h2 := congrArg List.length HPP.out; simp at h2; simp; omega, by simp; omega, ?_, ?_, by simpa using HY.out⟩, by simp [intOf]; omega⟩
              · refine List.Perm.trans ?_ hperm
                have := (List.perm_middle (a := q) (l₁ := (P1' ++ [p]) ++ P2) (l₂ := Q')).symm
                refine List.Perm.trans ?_ this
                have h2 := List.perm_middle (a := q) (l₁ := P1' ++ [p]) (l₂ := P2 ++ Q')
                simpa using h2
              · refine srt_in hsP (fun z hz => ?_) HLE.out
                have hlp : Le p q := HLV.out
                rcases List.mem_append.1 hz with hz | hz
                · rw [List.append_assoc] at hsP
                  exact Le.trans ((List.pairwise_append.1 hsP).2.2 z hz p (by simp)) hlp
                · simp only [List.mem_singleton] at hz
                  subst hz
                  exact hlp
    · have hib : i = b := by omega
      have hQ : Q = [] := List.eq_nil_of_length_eq_zero (by omega)
      subst hQ
      have H2 := Lib.hid (And.intro hperm (And.intro hs h))
      clear hperm hs h
      go_wp2
      obtain ⟨hperm, hs, h⟩ := H2.out
      exact bodyPost_end (results_none rfl _ _ _) rfl ⟨⟨_, rfl⟩, P, by simpa using hperm, hs, by simpa using h⟩
end Go.Proofs.YtkhkjcoejkgfeaaDoor
