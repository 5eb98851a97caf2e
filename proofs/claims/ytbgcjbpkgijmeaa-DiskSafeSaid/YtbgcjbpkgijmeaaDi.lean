/-
  Walk: operations done, one behind the other.
  Conditions: none beyond those typed at each theorem.
-/
import Derived.Test.YtbgcjbpkgijmeaaDh
import Derived.ScopeJumps
namespace Go.Proofs.Ytbgcjbpkgijmeaa
open Go Go.RowKit Go.Maps
attribute [local go_sem high] str_eql str_neq str_lss str_leq str_geq str_eql0 str_neq0

/-- A scope that begins with its one label: J holds there, whenever. -/
theorem wp_scope_label {P : Program} {a : Act} {w : World} {Q : Exit → Act → World → Prop} {X : Code} (l : Nat) (J : Act → World → Prop) (μ : Act → World → Nat) (first : J a w)
    (pass : ∀ a w, J a w → X.wp P (Exit.jump l (fun a' w' => J a' w' ∧ μ a' w' < μ a w) Q) a w) : (Code.scope (.seq (.label l) X)).wp P Q a w := by
  refine wp_scope_jumps (rest := .seq .skip X) l J μ (by simp [findLabel]) ?_ ?_
  · exact wp_seq (wp_label (Code.wp_mono (fun e a' w' hq => by
      cases e <;> first | exact hq | exact ⟨hq.1, hq.2.1⟩) (pass a w first)))
  · intro a' w' hJ
    exact wp_seq (wp_skip (pass a' w' hJ))

theorem step_one {o : Opr} (h : o.kind = 1) (l : List Fl) : step l o = put l ⟨o.name, []⟩ := by unfold step; rw [if_pos h]
theorem step_two {o : Opr} (h : o.kind = 2) (l : List Fl) : step l o = (match get l o.name with | none => l | some x => put l ⟨o.name, x ++ o.data⟩) := by
  unfold step
  rw [if_neg (by omega)]
  cases get l o.name with
  | none => rfl
  | some x => exact if_pos h
theorem step_three {o : Opr} (h : o.kind = 3) (l : List Fl) : step l o = (match get l o.name with | none => l | some x => put (del l o.name) ⟨o.to, x⟩) := by
  unfold step
  rw [if_neg (by omega)]
  cases get l o.name with
  | none => rfl
  | some x => exact (if_neg (by omega)).trans (if_pos h)
theorem step_four {o : Opr} (h : o.kind = 4) (l : List Fl) : step l o = (match get l o.name with | none => l | some _ => del l o.name) := by
  unfold step
  rw [if_neg (by omega)]
  cases get l o.name with
  | none => rfl
  | some x => exact (if_neg (by omega)).trans ((if_neg (by omega)).trans (if_pos h))
/-- What an operation does is a step. -/
theorem does_any (w : World) (n0 b n : Nat) (D : DataW Value) (l : List Fl) (o : Opr) {S : Nat → Prop} (bv : Value) (hbv : IsBy S w bv o.data) (hm : OwnM w b n D) (hl : MapIs n0 w D l) (hn : n < maxLen) (hk : o.name.length ≤ maxLen) (ht : o.to.length ≤ maxLen) (hsz : sizeL l + o.data.length ≤ 1000000000000)
    (f : Nat) (hf : deedV o.kind = fnV f) : Calls Try.prog f #[.map (some b), opV o bv] w (StepPost n0 b n (step l o) w) := by
  unfold deedV at hf
  by_cases h1 : o.kind = 1
  · rw [if_pos h1] at hf
    obtain rfl : 51 = f := by simpa using hf
    rw [step_one h1]
    exact create_any w n0 b n D l o bv hm hl hn hk
  · rw [if_neg h1] at hf
    by_cases h2 : o.kind = 2
    · rw [if_pos h2] at hf
      obtain rfl : 52 = f := by simpa using hf
      rw [step_two h2]
      exact append_any w n0 b n D l o bv hbv hm hl hn hk hsz
    · rw [if_neg h2] at hf
      by_cases h3 : o.kind = 3
      · rw [if_pos h3] at hf
        obtain rfl : 54 = f := by simpa using hf
        rw [step_three h3]
        exact rename_any w n0 b n D l o bv hm hl hn hk ht
      · rw [if_neg h3] at hf
        by_cases h4 : o.kind = 4
        · rw [if_pos h4] at hf
          obtain rfl : 55 = f := by simpa using hf
          rw [step_four h4]
          refine (remove_any w n0 b n D l o bv hm hl hk).mono ?_
          rintro e w' ⟨rfl, D', p1, p2, p3⟩
          refine ⟨rfl, D', p1, ?_, p3⟩
          cases hg : get l o.name with
          | none => exact p2.same fun m => get_del_none hg m
          | some x => exact p2
        · rw [if_neg h4] at hf
          cases hf
theorem step_no {o : Opr} (h : deedV o.kind = .nilFunc) (l : List Fl) : step l o = l := by
  unfold deedV at h
  unfold step
  by_cases h1 : o.kind = 1
  · rw [if_pos h1] at h; cases h
  · rw [if_neg h1] at h ⊢
    by_cases h2 : o.kind = 2
    · rw [if_pos h2] at h; cases h
    · rw [if_neg h2] at h
      by_cases h3 : o.kind = 3
      · rw [if_pos h3] at h; cases h
      · rw [if_neg h3] at h
        by_cases h4 : o.kind = 4
        · rw [if_pos h4] at h; cases h
        · simp only [h2, h3, h4, if_false]
          cases get l o.name <;> rfl
theorem deed_or (k : Int) : deedV k = .nilFunc ∨ deedV k = fnV 51 ∨ deedV k = fnV 52 ∨ deedV k = fnV 54 ∨ deedV k = fnV 55 := by
  unfold deedV
  by_cases h1 : k = 1
  · simp [h1]
  · by_cases h2 : k = 2
    · simp [h2]
    · by_cases h3 : k = 3
      · simp [h3]
      · by_cases h4 : k = 4
        · simp [h4]
        · simp [h1, h2, h3, h4]
theorem row_tail {α : Type} {E : El α} {S : Nat → Prop} {w : World} {b o n c : Nat} {x : α} {xs : List α} (h : IsRow E S w (.slice (some ⟨b, o, none⟩) (n + 1) c) (x :: xs)) : IsRow E S w (.slice (some ⟨b, o + E.size, none⟩) n (c - 1)) xs := by
  obtain ⟨bs, h1, h2, h3, h4⟩ := h
  cases bs with
  | nil => simp at h1
  | cons y ys =>
    simp only [List.length_cons, Nat.add_right_cancel_iff] at h1
    refine ⟨ys, h1, ⟨fun e he => h2.1 e (by simp [he]), ?_⟩, fun i z bz hz hb => h3 (i + 1) z bz (by simpa using hz) (by simpa using hb), fun z hz => h4 z (by simp [hz])⟩
    rcases h2.2 with ⟨_, h0⟩ | ⟨b', off, cap, hv, h5, h6, h7, h8⟩
    · simp at h0
    · simp only [List.zipWith_cons_cons, List.length_cons, List.length_zipWith, h1, Nat.min_self, Value.slice.injEq, Option.some.injEq, Addr.mk.injEq, and_true] at hv h5
      obtain ⟨⟨rfl, rfl⟩, hn, rfl⟩ := hv
      refine .inr ⟨b, o + E.size, c - 1, by simp [h1]; omega, by simp [h1]; omega, by omega, h7, fun j u hu => ?_⟩
      have hl := h2.1 (E.cells x y) (by simp)
      have := h8 (E.size + j) u (by rw [List.zipWith_cons_cons, List.flatten_cons, List.getElem?_append_right (by omega), hl, Nat.add_sub_cancel_left]; exact hu)
      rwa [← Nat.add_assoc] at this
theorem IsOps.grown {S : Nat → Prop} {A B : World} {v : Value} {q : List Opr} (h : IsOps S A v q) {b n : Nat} {D' : DataW Value} (hm : OwnM A b n D') (hg : A.grownBy B (some b)) : IsOps S B v q := by
  obtain ⟨es, clock, hb, _⟩ := hm
  refine IsRow.kp (N := fun k _ => k ≠ b) (Kp.grown (Kp.refl _ _) hg fun k o hk _ hn => by cases hk; exact hn rfl) h fun k c e f _ hk hkb => ?_
  subst hkb
  rw [hb] at hk; cases hk
theorem row_nil {α : Type} (E : El α) (S : Nat → Prop) (w : World) (a : Option Addr) : IsRow E S w (.slice a 0 0) [] :=
  ⟨[], rfl, ⟨by simp, .inl ⟨⟨a, 0, rfl, Nat.zero_le _⟩, rfl⟩⟩, fun i x b hx => by simp at hx, fun x hx => by simp at hx⟩
/-- The post of all. -/
def DonePost (n0 b n : Nat) (l : List Fl) (w : World) (e : Ending) (w' : World) : Prop :=
  e = .returned (.map (some b)) ∧ ∃ D', OwnM w' b n D' ∧ MapIs n0 w' D' l ∧ w.grownBy w' (some b)

set_option maxRecDepth 100000 in
set_option maxHeartbeats 4000000 in
theorem done_any (w : World) (n0 b n : Nat) (D : DataW Value) (l : List Fl) {S : Nat → Prop} (qv : Value) (q : List Opr) (hq : IsOps S w qv q) (hm : OwnM w b n D) (hl : MapIs n0 w D l)
    (hn : n + q.length ≤ 10000000) (hsz : sizeL l + sizeQ q ≤ 1000000000000) :
    Calls Try.prog 31 #[.map (some b), qv] w (DonePost n0 b (n + q.length) (q.foldl step l) w) := by
  obtain ⟨qa, qc, rfl, _, _⟩ := hq.len
  have HQ := Lib.hid hq
  have HM := Lib.hid hm
  have HL := Lib.hid hl
  have HSZ := Lib.hid hsz
  clear hq hm hl hsz
  go_enter Try.func31, Try.ntmps31
  go_wp2_with fail
  refine wp_scope_label 0 (fun a' W' => ∃ (q1 q2 : List Opr) (D' : DataW Value) (ra : Option Addr) (rc : Nat) (u2 u3 u4 u5 u6 u7 u8 u9 u10 u11 u12 u13 u14 u15 u16 u17 u18 u19 u20 u21 u22 u23 u24 u25 : Value),
      a' = { tmps := #[.map (some b), .slice ra q2.length rc, u2, u3, u4, u5, u6, u7, u8, u9, u10, u11, u12, u13, u14, u15, u16, u17, u18, u19, u20, u21, u22, u23, u24, u25], defers := [] }
      ∧ q = q1 ++ q2 ∧ OwnM W' b (n + q1.length) D' ∧ MapIs n0 W' D' (q1.foldl step l) ∧ w.grownBy W' (some b) ∧ IsOps S W' (.slice ra q2.length rc) q2)
    (fun a' _ => match a'.tmps.getD 1 undef with | .slice _ k _ => k | _ => 0) ?_ ?_
  · exact ⟨[], q, D, _, _, _, _, _, _, _, _, _, _, _, _, _, _, _, _, _, _, _, _, _, _, _, _, _, _, rfl, rfl, HM.out, HL.out, ⟨rfl, rfl, rfl, Nat.le_refl _, fun _ _ _ => rfl⟩, HQ.out⟩
  · rintro a' A ⟨q1, q2, D', ra, rc, u2, u3, u4, u5, u6, u7, u8, u9, u10, u11, u12, u13, u14, u15, u16, u17, u18, u19, u20, u21, u22, u23, u24, u25, rfl, rfl, hm, hl, hg, hq⟩
    cases q2 with
    | nil =>
      have HP := Lib.hid (show ∃ D', OwnM A b (n + q1.length) D' ∧ MapIs n0 A D' (q1.foldl step l) ∧ w.grownBy A (some b) from ⟨_, hm, hl, hg⟩)
      clear hm hl hg hq
      go_wp2
      go_ret
      exact ⟨rfl, HP.out⟩
    | cons o q2 =>
      obtain ⟨ob, oo, oc, hv, hcap, hcm, hS, hrows⟩ := hq.some (by simp)
      simp only [List.length_cons, Value.slice.injEq, true_and] at hv
      obtain ⟨rfl, rfl⟩ := hv
      obtain ⟨bv, hr, hbv⟩ := hrows 0 o rfl
      simp only [Nat.zero_mul, Nat.add_zero] at hr
      have k0 : A.cell? ⟨ob, oo, none⟩ = some (.int .u8 o.kind) := hr 0 _ rfl
      obtain ⟨ba, bc, rfl, _, _⟩ := hbv.len
      have hok := hq.ok o (by simp)
      have hsz' : sizeL (q1.foldl step l) + o.data.length ≤ 1000000000000 := by
        have h1 := sizeL_foldl q1 l
        have h2 := HSZ.out
        rw [sizeQ_append, sizeQ_cons] at h2
        omega
      have HD := Lib.hid deeds_any
      have HR := Lib.hid hr
      have HLk := Lib.hid (show ∀ (X : World) (c : Nat), X.ownsMap Try.prog 5 heldE c 4 deedsD → (Instr.lookup 77 (.map (some c)) (.int .u8 o.kind) false).run Try.prog X = .ok (deedV o.kind) X from fun X c h => deed_look h hok.2.2)
      have HDo := Lib.hid (show ∀ X, Gr A X → ∀ f, deedV o.kind = fnV f → Calls Try.prog f #[.map (some b), opV o (.slice ba o.data.length bc)] X (StepPost n0 b (n + q1.length) (step (q1.foldl step l) o) X) from
        fun X hX f hf => does_any X n0 b (n + q1.length) D' (q1.foldl step l) o _ (hbv.gr hX) (OwnM.gr hX hm) (hl.gr hX) (by unfold maxLen; simp at hn; omega) hok.1 hok.2.1 hsz' f hf)
      have HNo := Lib.hid (fun h => step_no (o := o) h (q1.foldl step l))
      have HM2 := Lib.hid (And.intro hm (And.intro hl (And.intro hg hq)))
      clear hm hl hg hq hrows hr hbv hsz' hok
      have hrow : ∀ X, IsOps S X (.slice (some ⟨ob, oo, none⟩) (q2.length + 1) rc) (o :: q2) → IsOps S X (.slice (some ⟨ob, oo + 4, none⟩) q2.length (rc - 1)) q2 := fun X h => row_tail h
      have HRow := Lib.hid hrow
      clear hrow
      obtain ⟨v, hv⟩ : ∃ v, deedV o.kind = v := ⟨_, rfl⟩
      have hcase := deed_or o.kind
      rw [hv] at hcase HLk HDo HNo
      obtain ⟨ok, on, ot, od⟩ := o
      by_cases hrc : rc = 1
      · subst hrc
        obtain rfl : q2 = [] := List.eq_nil_of_length_eq_zero (by simp only [List.length_cons] at hcap; omega)
        rcases hcase with rfl | rfl | rfl | rfl | rfl
        · go_wp2_with fail
          go_region_law (go_simp; refine (HD.out _).mono ?_; rintro e w3 ⟨rfl, ho, hg⟩; have hl : (Instr.lookup 77 (.map (some A.heap.size)) (.int .u8 ok) false).run Try.prog w3 = _ := HLk.out _ _ ho; have k3 := later_cell hg (show A.drew.cell? _ = _ from k0); have HG3 := Lib.hid ((Gr.refl A).drew.trans hg); clear ho hg)
          all_goals
            go_wp2_with fail
            obtain ⟨hm, hl, hg, _⟩ := HM2.out
            refine wp_goto ⟨rfl, ⟨q1 ++ [⟨ok, on, ot, od⟩], [], D', _, _, _, _, _, _, _, _, _, _, _, _, _, _, _, _, _, _, _, _, _, _, _, _, _, _, rfl, by simp, ?_, ?_, ?_, ?_⟩, ?_⟩
            · rw [List.length_append]; exact (OwnM.gr HG3.out hm).mono (by simp)
            · rw [List.foldl_append]; simp only [List.foldl_cons, List.foldl_nil]; rw [HNo.out trivial]; exact hl.gr HG3.out
            · exact hg.andThen (World.grownBy.of_gr HG3.out b) fun j hj => .inr hj
            · exact row_nil _ _ _ _
            · show 0 < 1; omega
        all_goals
          go_wp2_with fail
          go_region_law (go_simp; refine (HD.out _).mono ?_; rintro e w3 ⟨rfl, ho, hg⟩; have hl : (Instr.lookup 77 (.map (some A.heap.size)) (.int .u8 ok) false).run Try.prog w3 = _ := HLk.out _ _ ho; have k3 := later_cell hg (show A.drew.cell? _ = _ from k0); have hG := (Gr.refl A).drew.trans hg; have hr3 := later_range hG HR.out; have k31 : w3.cell? ⟨ob, oo + 1, none⟩ = some (strV on) := hr3 1 _ rfl; have k32 : w3.cell? ⟨ob, oo + 2, none⟩ = some (strV ot) := hr3 2 _ rfl; have k33 : w3.cell? ⟨ob, oo + 3, none⟩ = some (.slice ba od.length bc) := hr3 3 _ rfl; have HG3 := Lib.hid hG; clear ho hg hG hr3)
          all_goals
            go_wp2_with fail
            refine (HDo.out _ HG3.out _ rfl).mono ?_
            rintro e w4 ⟨rfl, D4, p1, p2, p3⟩
            have HP4 := Lib.hid (And.intro p1 (And.intro p2 p3))
            clear p1 p2 p3
            go_wp2_with fail
            obtain ⟨p1, p2, p3⟩ := HP4.out
            obtain ⟨hm, hl, hg, _⟩ := HM2.out
            refine wp_goto ⟨rfl, ⟨q1 ++ [⟨ok, on, ot, od⟩], [], D4, _, _, _, _, _, _, _, _, _, _, _, _, _, _, _, _, _, _, _, _, _, _, _, _, _, _, rfl, by simp, ?_, ?_, ?_, ?_⟩, ?_⟩
            · rw [List.length_append]; exact p1
            · rw [List.foldl_append]; exact p2
            · exact (hg.andThen (World.grownBy.of_gr HG3.out b) fun j hj => .inr hj).andThen p3 fun j hj => .inr hj
            · exact row_nil _ _ _ _
            · show 0 < 1; omega
      rcases hcase with rfl | rfl | rfl | rfl | rfl
      · go_wp2_with fail
        go_region_law (go_simp; refine (HD.out _).mono ?_; rintro e w3 ⟨rfl, ho, hg⟩; have hl : (Instr.lookup 77 (.map (some A.heap.size)) (.int .u8 ok) false).run Try.prog w3 = _ := HLk.out _ _ ho; have k3 := later_cell hg (show A.drew.cell? _ = _ from k0); have HG3 := Lib.hid ((Gr.refl A).drew.trans hg); clear ho hg)
        all_goals
          go_wp2_with fail
          obtain ⟨hm, hl, hg, hq⟩ := HM2.out
          refine wp_goto ⟨rfl, ⟨q1 ++ [⟨ok, on, ot, od⟩], q2, D', _, _, _, _, _, _, _, _, _, _, _, _, _, _, _, _, _, _, _, _, _, _, _, _, _, _, rfl, by simp, ?_, ?_, ?_, ?_⟩, ?_⟩
          · rw [List.length_append]; exact (OwnM.gr HG3.out hm).mono (by simp)
          · rw [List.foldl_append]; simp only [List.foldl_cons, List.foldl_nil]; rw [HNo.out trivial]; exact hl.gr HG3.out
          · exact hg.andThen (World.grownBy.of_gr HG3.out b) fun j hj => .inr hj
          · exact HRow.out _ (IsRow.gr HG3.out hq)
          · show q2.length < q2.length + 1; omega
      all_goals
        go_wp2_with fail
        go_region_law (go_simp; refine (HD.out _).mono ?_; rintro e w3 ⟨rfl, ho, hg⟩; have hl : (Instr.lookup 77 (.map (some A.heap.size)) (.int .u8 ok) false).run Try.prog w3 = _ := HLk.out _ _ ho; have k3 := later_cell hg (show A.drew.cell? _ = _ from k0); have hG := (Gr.refl A).drew.trans hg; have hr3 := later_range hG HR.out; have k31 : w3.cell? ⟨ob, oo + 1, none⟩ = some (strV on) := hr3 1 _ rfl; have k32 : w3.cell? ⟨ob, oo + 2, none⟩ = some (strV ot) := hr3 2 _ rfl; have k33 : w3.cell? ⟨ob, oo + 3, none⟩ = some (.slice ba od.length bc) := hr3 3 _ rfl; have HG3 := Lib.hid hG; clear ho hg hG hr3)
        all_goals
          go_wp2_with fail
          refine (HDo.out _ HG3.out _ rfl).mono ?_
          rintro e w4 ⟨rfl, D4, p1, p2, p3⟩
          have HP4 := Lib.hid (And.intro p1 (And.intro p2 p3))
          clear p1 p2 p3
          go_wp2_with fail
          obtain ⟨p1, p2, p3⟩ := HP4.out
          obtain ⟨hm, hl, hg, hq⟩ := HM2.out
          refine wp_goto ⟨rfl, ⟨q1 ++ [⟨ok, on, ot, od⟩], q2, D4, _, _, _, _, _, _, _, _, _, _, _, _, _, _, _, _, _, _, _, _, _, _, _, _, _, _, rfl, by simp, ?_, ?_, ?_, ?_⟩, ?_⟩
          · rw [List.length_append]; exact p1
          · rw [List.foldl_append]; exact p2
          · exact (hg.andThen (World.grownBy.of_gr HG3.out b) fun j hj => .inr hj).andThen p3 fun j hj => .inr hj
          · exact HRow.out _ (IsOps.grown (IsRow.gr HG3.out hq) (OwnM.gr HG3.out hm) p3)
          · show q2.length < q2.length + 1; omega
end Go.Proofs.Ytbgcjbpkgijmeaa
