/-
  Walk: Parse, its loop and its head.
  Conditions: none beyond those typed at each theorem.
-/
import Derived.Test.YtkhkjcoejkgfeaaDoorNg
namespace Go.Proofs.YtkhkjcoejkgfeaaDoor
open Go Go.RowKit

attribute [local go_sem ↓] index_bt
theorem parse_tail' (l : List UInt8) (hl : (l.length : Int) ≤ 9223372036854775807) (w : World) (x t : Code) (hr : findLabel pcode 1 = some (.seq .skip (.seq x t))) (Q : Exit → Act → World → Prop)
    (hQ : Q = bodyPost Tryd.prog Tryd.f9 fun e w' => e = .returned (parV (parO l)) ∧ Gr w w') (J' : Nat → Act → World → Prop) (i seq : Int) (HR : Rnd l i seq)
    (hstop : ¬ (48 ≤ bt l i ∧ bt l i ≤ 57 ∧ seq ≤ 1073741824 ∧ i < (l.length : Int) - 2))
    (hJ0 : ∀ a' W', PJ w l 0 a' W' → J' 0 a' W') (ts : Array Value) (ht : ts = arr1 w l i seq (fun k => ts.getD k undef)) :
    t.wp Tryd.prog (Exit.jumps (findLabel pcode) J' Q) { tmps := ts, defers := [] } (pw w) := by
  rw [ht]
  exact parse_tail l hl w x t hr Q hQ J' i seq HR _ hstop hJ0
set_option maxRecDepth 1000000 in
set_option maxHeartbeats 4000000 in
theorem parse_round (l : List UInt8) (hl : (l.length : Int) ≤ 9223372036854775807) (w : World) (rest : Code) (hr : findLabel pcode 1 = some (.seq .skip rest)) (Q : Exit → Act → World → Prop)
    (hQ : Q = bodyPost Tryd.prog Tryd.f9 fun e w' => e = .returned (parV (parO l)) ∧ Gr w w') (a : Act) (W : World) (hJ : PJ w l 1 a W) :
    rest.wp Tryd.prog (Exit.jumps (findLabel pcode) (fun l' a' w' => PJ w l l' a' w' ∧ Pm l l' a' w' < Pm l 1 a W) Q) a W := by
  have hrest := Option.some.inj hr
  injection hrest with a_eq hrest
  subst hrest
  clear a_eq
  obtain ⟨rfl, i, seq, HR, u, rfl⟩ := hJ
  have hJ0 : ∀ a' W', PJ w l 0 a' W' → (PJ w l 0 a' W' ∧ Pm l 0 a' W' < Pm l 1 { tmps := arr1 w l i seq u, defers := [] } (pw w)) := fun a' W' h => ⟨h, by show 0 < _ + 1; omega⟩
  obtain ⟨J', hJ'⟩ : ∃ J', J' = (fun l' a' w' => PJ w l l' a' w' ∧ Pm l l' a' w' < Pm l 1 { tmps := arr1 w l i seq u, defers := [] } (pw w)) := ⟨_, rfl⟩
  have hJ0' : ∀ a' W', PJ w l 0 a' W' → J' 0 a' W' := by rw [hJ']; exact hJ0
  have hJ1 : ∀ (ts : Array Value) (i' seq' : Int), i < i' → i' ≤ (l.length : Int) → Rnd l i' seq' → ts = arr1 w l i' seq' (fun k => ts.getD k undef) → J' 1 { tmps := ts, defers := [] } (pw w) := by
    intro ts i' seq' h1 h1' h2 h3
    rw [hJ']
    refine ⟨PJ1_of h2 h3, ?_⟩
    rw [h3]
    show l.length - i'.toNat + 1 < l.length - i.toNat + 1
    have := HR.lo
    omega
  rw [← hJ']
  have hn := HR.len
  have hlo := HR.lo
  have hhi := HR.hi
  have htop := HR.top
  have hsq := HR.nonneg
  have hb0 := bt_bounds l i
  have hi0 : 0 ≤ i := by omega
  have hin : i < (l.length : Int) := by omega
  have hstep := rnd_next HR
  have HR := Lib.hid HR
  have HQ := Lib.hid hQ
  have HJ0 := Lib.hid hJ0'
  have HJ1 := Lib.hid hJ1
  have HST := Lib.hid hstep
  clear hr hJ' hJ0 hJ0' hJ1 hQ hstep
  show Code.wp _ (Code.seq _ _) _ _ (w.alloc (.cells #[.int .u8 0, .int .i64 0, .int .i64 0] 23))
  refine wp_seq_k fun K hK => ?_
  have HK := Lib.hid hK
  clear hK
  have hcases : (48 ≤ bt l i ∧ bt l i ≤ 57 ∧ seq ≤ 1073741824 ∧ i < (l.length : Int) - 2) ∨
      (¬ 48 ≤ bt l i ∨ (48 ≤ bt l i ∧ ¬ bt l i ≤ 57) ∨ (48 ≤ bt l i ∧ bt l i ≤ 57 ∧ ¬ seq ≤ 1073741824) ∨ (48 ≤ bt l i ∧ bt l i ≤ 57 ∧ seq ≤ 1073741824 ∧ ¬ i < (l.length : Int) - 2)) := by omega
  rcases hcases with ⟨c1, c2, c3, c4⟩ | hbad
  · go_wp2
    go_step3
    exact Exit.jumps_goto (Q := Q) rfl (HJ1.out _ (i + 1) (10 * seq + (bt l i - 48)) (by omega) (by omega) (HST.out c1 c2 c3 c4) rfl)
  · have hstop : ¬ (48 ≤ bt l i ∧ bt l i ≤ 57 ∧ seq ≤ 1073741824 ∧ i < (l.length : Int) - 2) := by omega
    have HS := Lib.hid hstop
    clear hstop
    rcases hbad with c1 | ⟨c1, c2⟩ | ⟨c1, c2, c3⟩ | ⟨c1, c2, c3, c4⟩
    all_goals
      go_wp2
      exact HK.out _ _ (parse_tail' l hl w _ _ rfl Q HQ.out J' i seq HR.out HS.out HJ0.out _ rfl)

theorem jumps_less (w : World) (l : List UInt8) (a : Act) (W : World) {Q : Exit → Act → World → Prop} (e : Exit) (a' : Act) (W' : World) (h : Exit.jumps (findLabel pcode) (fun l' a' w' => PJ w l l' a' w' ∧ Pm l l' a' w' < Pm l 1 a W) Q e a' W') : Exit.jumps (findLabel pcode) (PJ w l) Q e a' W' := by
  cases e with
  | goto l' => exact ⟨h.1, h.2.1⟩
  | normal => exact h
  | exit id => exact h
  | ret => exact h
  | panic ch => exact h
  | outgrown => exact h
set_option maxRecDepth 1000000 in
set_option maxHeartbeats 4000000 in
theorem parse_any (l : List UInt8) (hl : (l.length : Int) ≤ 9223372036854775807) (w : World) :
    Calls Tryd.prog 9 #[strV l] w fun e w' => e = .returned (parV (parO l)) ∧ Gr w w' := by
  have hcases : l = [77] ∨ (¬ l = [77] ∧ l = [77, 46, 110, 101, 119]) ∨ (¬ l = [77] ∧ ¬ l = [77, 46, 110, 101, 119]) := by
    by_cases h1 : l = [77]
    · exact .inl h1
    · by_cases h2 : l = [77, 46, 110, 101, 119]
      · exact .inr (.inl ⟨h1, h2⟩)
      · exact .inr (.inr ⟨h1, h2⟩)
  rcases hcases with rfl | ⟨h1, rfl⟩ | ⟨h1, h2⟩
  · rw [show parO [77] = some ⟨1, 0, 0⟩ from parO_some rfl]
    go_enter Tryd.func9, Tryd.ntmps9
    go_wp2
    refine wp_scope_straight ?_
    go_wp2
    first | rw [Exit.noGoto_ret] | skip
    exact bodyPost_ret (results_row_tmp rfl Tryd.underlying23 rfl info23 rfl (rowAt_block (alloc1_heap _ _) rfl)) rfl ⟨rfl, Gr.alloc (Gr.refl _) _⟩
  · rw [show parO [77, 46, 110, 101, 119] = some ⟨2, 0, 0⟩ from parO_some rfl]
    go_enter Tryd.func9, Tryd.ntmps9
    go_wp2
    refine wp_scope_straight ?_
    go_wp2
    first | rw [Exit.noGoto_ret] | skip
    exact bodyPost_ret (results_row_tmp rfl Tryd.underlying23 rfl info23 rfl (rowAt_block (alloc1_heap _ _) rfl)) rfl ⟨rfl, Gr.alloc (Gr.refl _) _⟩
  · have b1 : (l == [77]) = false := by simpa using h1
    have b2 : (l == [77, 46, 110, 101, 119]) = false := by simpa using h2
    go_enter Tryd.func9, Tryd.ntmps9
    go_wp2
    refine wp_scope_many (findLabel pcode) (fun _ _ h => h) (PJ w l) (Pm l) ?_ ?_
    · have hcases : (l.length : Int) < 4 ∨ (¬ (l.length : Int) < 4 ∧ ¬ bt l 0 = 115 ∧ ¬ bt l 0 = 112) ∨ (¬ (l.length : Int) < 4 ∧ bt l 0 = 115 ∧ bt l 1 = 48) ∨ (¬ (l.length : Int) < 4 ∧ ¬ bt l 0 = 115 ∧ bt l 0 = 112 ∧ bt l 1 = 48) ∨
          (¬ (l.length : Int) < 4 ∧ bt l 0 = 115 ∧ ¬ bt l 1 = 48) ∨ (¬ (l.length : Int) < 4 ∧ ¬ bt l 0 = 115 ∧ bt l 0 = 112 ∧ ¬ bt l 1 = 48) := by omega
      have HN := Lib.hid (no_name h1 h2)
      have HF := Lib.hid (@rnd_first l)
      clear h1 h2
      rcases hcases with c1 | ⟨c0, c1, c2⟩ | ⟨c0, c1, c2⟩ | ⟨c0, c1, c2, c3⟩ | ⟨c0, c1, c2⟩ | ⟨c0, c1, c2, c3⟩
      rotate_left 4
      · have y0 : 0 < l.length := by omega
        have y1 : (1 : Int) < l.length := by omega
        go_wp2
        go_step3
        rename_i K hK
        exact hK _ _ (wp_mono (parse_round l hl w _ rfl _ rfl _ _ (PJ1_of (HF.out (by omega) (by omega) c2) rfl)) (jumps_less w l _ _))
      · have y0 : 0 < l.length := by omega
        have y1 : (1 : Int) < l.length := by omega
        go_wp2
        go_step3
        rename_i K hK
        exact hK _ _ (wp_mono (parse_round l hl w _ rfl _ rfl _ _ (PJ1_of (HF.out (by omega) (by omega) c3) rfl)) (jumps_less w l _ _))
      · have HP := Lib.hid (HN.out (by omega))
        go_wp2
        go_step3
        exact Exit.jumps_goto (Q := bodyPost Tryd.prog Tryd.f9 fun e w' => e = Ending.returned (parV (parO l)) ∧ Gr w w') rfl (PJ0_of HP.out rfl)
      all_goals
        have HP := Lib.hid (HN.out (by omega))
        have y0 : 0 < l.length := by omega
        have y1 : (1 : Int) < l.length := by omega
        go_wp2
        go_step3
        exact Exit.jumps_goto (Q := bodyPost Tryd.prog Tryd.f9 fun e w' => e = Ending.returned (parV (parO l)) ∧ Gr w w') rfl (PJ0_of HP.out rfl)
    · intro l' rest hr a W hJ
      match l', hr, hJ with
      | 0, hr, hJ => exact parse_none l w rest hr _ rfl _ a W hJ
      | 1, hr, hJ =>
        have hrest := Option.some.inj hr
        subst hrest
        exact wp_seq (wp_skip (parse_round l hl w _ rfl _ rfl a W hJ))
end Go.Proofs.YtkhkjcoejkgfeaaDoor
