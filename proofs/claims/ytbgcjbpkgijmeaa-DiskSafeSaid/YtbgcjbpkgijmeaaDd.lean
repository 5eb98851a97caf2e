/-
  Walks: what an operation must be.
  Conditions: none beyond those typed at each theorem.
-/
import Derived.Test.YtbgcjbpkgijmeaaDc
import Derived.Deep.RegionHeld3
import Derived.Deep.RegionLaw
import Derived.Deep.Cut
import Derived.Deep.CutRange
import Derived.Laws.Cover1
import Derived.Sort.Walk0
namespace Go.Proofs.Ytbgcjbpkgijmeaa
open Go Go.RowKit Go.Maps Go.Proofs

/-! ### strings -/
def eqB (a b : Bs) : Bool := decide (a = b)
def neB (a b : Bs) : Bool := decide (a ≠ b)
def ltB (a b : Bs) : Bool := decide (a < b)
theorem eqB_iff {a b : Bs} : eqB a b = true ↔ a = b := by simp [eqB]
theorem neB_iff {a b : Bs} : neB a b = true ↔ a ≠ b := by simp [neB]
theorem ltB_iff {a b : Bs} : ltB a b = true ↔ a < b := by simp [ltB]
theorem beq_eqB (a b : Bs) : (a == b) = eqB a b := by
  by_cases h : a = b
  · subst h; simp [eqB]
  · simp [eqB, h]
theorem neB_not (a b : Bs) : neB a b = !eqB a b := by simp [neB, eqB]
theorem str_list (a : Bs) : (⟨a.toArray⟩ : ByteArray).toList = a := by rw [Lib.toList_data]
theorem str_eql (a b : Bs) : binOp .eql 9 (.string ⟨a.toArray⟩) (.string ⟨b.toArray⟩) = pure (.bool (eqB a b)) := by rw [binOp_string_eql, str_list, str_list, beq_eqB]
theorem str_neq (a b : Bs) : binOp .neq 9 (.string ⟨a.toArray⟩) (.string ⟨b.toArray⟩) = pure (.bool (neB a b)) := by rw [binOp_string_neq, str_list, str_list, beq_eqB, neB_not]
theorem str_lss (a b : Bs) : binOp .lss 9 (.string ⟨a.toArray⟩) (.string ⟨b.toArray⟩) = pure (.bool (ltB a b)) := by rw [binOp_string_lss, str_list, str_list, bytesLess_eq]; rfl
theorem str_leq (a b : Bs) : binOp .leq 9 (.string ⟨a.toArray⟩) (.string ⟨b.toArray⟩) = pure (.bool (!ltB b a)) := by
  rw [binOp_string_leq, str_list, str_list, bytesLess_eq, beq_eqB]
  congr 2
  unfold ltB eqB
  by_cases h : a < b
  · simp [h, bs_asym h]
  · by_cases k : b < a
    · have : a ≠ b := (bs_ne k).symm
      simp [h, k, this]
    · simp [bs_eq h k]
theorem str_geq (a b : Bs) : binOp .geq 9 (.string ⟨a.toArray⟩) (.string ⟨b.toArray⟩) = pure (.bool (!ltB a b)) := by rw [binOp_string_geq, str_list, str_list, bytesLess_eq]; rfl
theorem str_eql0 (a : Bs) : binOp .eql 9 (.string ⟨a.toArray⟩) (.string ⟨#[]⟩) = pure (.bool (eqB a [])) := str_eql a []
theorem str_neq0 (a : Bs) : binOp .neq 9 (.string ⟨a.toArray⟩) (.string ⟨#[]⟩) = pure (.bool (neB a [])) := str_neq a []
attribute [irreducible] eqB neB ltB

abbrev opV (o : Opr) (bv : Value) : Value := .agg #[.int .u8 o.kind, strV o.name, strV o.to, bv]
theorem deed_look {X : World} {b : Nat} (h : X.ownsMap Try.prog 5 heldE b 4 deedsD) {k : Int} (hk : (Lit.int .u8 k).wf = true) : (Instr.lookup 77 (.map (some b)) (.int .u8 k) false).run Try.prog X = .ok (deedV k) X :=
  look_held h law5 Try.underlying77 (zero76 X) (key_u8 hk) (deedsD_at k)

@[go_sem] theorem fn_nil (w : World) : (binOp .neq 76 .nilFunc .nilFunc).run Try.prog w = .ok (.bool false) w := by kernel_rfl
@[go_sem] theorem fn_not (f : Nat) (w : World) : (binOp .neq 76 (fnV f) .nilFunc).run Try.prog w = .ok (.bool true) w := by kernel_rfl

attribute [local go_sem] undef
attribute [local go_sem high] str_eql str_neq str_lss str_leq str_geq str_eql0 str_neq0
set_option maxRecDepth 100000 in
set_option maxHeartbeats 1000000 in
theorem fine_any (w : World) (o : Opr) (bv : Value) (hk : (Lit.int .u8 o.kind).wf = true) : Calls Try.prog 26 #[opV o bv] w fun e w' => e = .returned (.bool (fineB o)) ∧ Gr w w' := by
  obtain ⟨k, n, t, dt⟩ := o
  obtain ⟨v, hv⟩ : ∃ v, deedV k = v := ⟨_, rfl⟩
  have HL := Lib.hid (show ∀ (X : World) (b : Nat), X.ownsMap Try.prog 5 heldE b 4 deedsD → (Instr.lookup 77 (.map (some b)) (.int .u8 k) false).run Try.prog X = .ok v X from fun X b h => by rw [← hv]; exact deed_look h hk)
  have HD := Lib.hid deeds_any
  obtain ⟨W1, hW1⟩ : ∃ W1, w.alloc (.cells #[.int .u8 k, strV n, strV t, bv] 32) = W1 := ⟨_, rfl⟩
  have hB : W1.heap[w.heap.size]? = some (.cells #[.int .u8 k, strV n, strV t, bv] 32 (0, 0)) := by rw [← hW1]; exact alloc1_heap _ _
  have hG : Gr w W1 := by rw [← hW1]; exact Gr.alloc (Gr.refl w) _
  have HB := Lib.hid hB
  have HG := Lib.hid hG
  have HW := Lib.hid hW1
  clear hk hB hG hW1
  have hvk : (v = .nilFunc ∧ (decide (1 ≤ k) && decide (k ≤ 4)) = false) ∨ (∃ f, v = fnV f) ∧ (decide (1 ≤ k) && decide (k ≤ 4)) = true := by
    rw [← hv]; unfold deedV
    by_cases h1 : k = 1
    · subst h1; exact .inr ⟨⟨51, rfl⟩, rfl⟩
    · by_cases h2 : k = 2
      · subst h2; exact .inr ⟨⟨52, rfl⟩, rfl⟩
      · by_cases h3 : k = 3
        · subst h3; exact .inr ⟨⟨54, rfl⟩, rfl⟩
        · by_cases h4 : k = 4
          · subst h4; exact .inr ⟨⟨55, rfl⟩, rfl⟩
          · refine .inl ⟨by rw [if_neg h1, if_neg h2, if_neg h3, if_neg h4], ?_⟩
            have : ¬ (1 ≤ k ∧ k ≤ 4) := by omega
            by_cases h : 1 ≤ k
            · have h' : ¬ k ≤ 4 := fun h' => this ⟨h, h'⟩
              simp [h']
            · simp [h]
  have HF := Lib.hid (show fineB ⟨k, n, t, dt⟩ = (decide (1 ≤ k) && decide (k ≤ 4) && neB n [] && ((k != 3) || neB t [])) by unfold neB fineB; congr 2; by_cases h : k = 3 <;> simp [h])
  generalize fineB ⟨k, n, t, dt⟩ = r at *
  have HCX := Lib.hid (show ∀ X, Gr W1 X → X.cell? ⟨w.heap.size, 0, none⟩ = some (.int .u8 k) ∧ X.cell? ⟨w.heap.size, 1, none⟩ = some (strV n) ∧ X.cell? ⟨w.heap.size, 2, none⟩ = some (strV t) from
    fun X hg => ⟨cell_block (hg.same HB.out) rfl, cell_block (hg.same HB.out) rfl, cell_block (hg.same HB.out) rfl⟩)
  have HS0 := Lib.hid (show Gr W1 W1.drew ∧ W1.drew.cell? ⟨w.heap.size, 0, none⟩ = some (.int .u8 k) ∧ W1.drew.cell? ⟨w.heap.size, 1, none⟩ = some (strV n) ∧ W1.drew.cell? ⟨w.heap.size, 2, none⟩ = some (strV t) from ⟨(Gr.refl W1).drew, HCX.out _ (Gr.refl W1).drew⟩)
  have HK := Lib.hid (show ∀ X Y, (Gr W1 X ∧ X.cell? ⟨w.heap.size, 0, none⟩ = some (.int .u8 k) ∧ X.cell? ⟨w.heap.size, 1, none⟩ = some (strV n) ∧ X.cell? ⟨w.heap.size, 2, none⟩ = some (strV t)) → Gr X Y →
      (Gr W1 Y ∧ Y.cell? ⟨w.heap.size, 0, none⟩ = some (.int .u8 k) ∧ Y.cell? ⟨w.heap.size, 1, none⟩ = some (strV n) ∧ Y.cell? ⟨w.heap.size, 2, none⟩ = some (strV t)) from fun X Y h hg => ⟨h.1.trans hg, HCX.out _ (h.1.trans hg)⟩)
  have hnb : neB n [] = true ∨ neB n [] = false := by cases neB n [] <;> simp
  have htb : neB t [] = true ∨ neB t [] = false := by cases neB t [] <;> simp
  have hkb : (k != 3) = true ∨ (k != 3) = false := by cases (k != 3) <;> simp
  rcases hvk with ⟨rfl, hf⟩ | ⟨⟨f, rfl⟩, hf⟩
  · have HF2 := Lib.hid (HF.out.trans (show _ = false by rw [hf]; rfl))
    clear hnb htb hkb hf
    go_enter Try.func26, Try.ntmps26
    go_upto_region 1 with fail
    rw [HW.out]
    have c0 := cell_block HB.out (j := 0) rfl
    first
    | (go_region_law (go_simp; refine (HD.out _).mono ?_; rintro e w2 ⟨rfl, hown, hg⟩; have hb2 := hg.same HB.out; have d0 := cell_block hb2 (j := 0) (v := .int .u8 k) rfl; have d1 := cell_block hb2 (j := 1) (v := strV n) rfl; have d2 := cell_block hb2 (j := 2) (v := strV t) rfl; have hl : (Instr.lookup 77 (.map (some W1.heap.size)) (.int .u8 k) false).run Try.prog w2 = _ := HL.out _ _ hown; have HG2 := Lib.hid hg; clear hg hown hb2))
    | fail
    all_goals
      go_wp2
      go_ret
      exact ⟨by rw [HF2.out]; rfl, HG.out.trans ((Gr.refl W1).drew.trans HG2.out)⟩
  rcases hnb with hn | hn
  rcases hkb with hk | hk
  · have HF2 := Lib.hid (HF.out.trans (show _ = true by rw [hf, hn, hk]; rfl))
    clear htb hf
    go_enter Try.func26, Try.ntmps26
    go_upto_region 1 with fail
    rw [HW.out]
    have c0 := cell_block HB.out (j := 0) rfl
    first
    | (go_region_law (go_simp; refine (HD.out _).mono ?_; rintro e w2 ⟨rfl, hown, hg⟩; have hb2 := hg.same HB.out; have d0 := cell_block hb2 (j := 0) (v := .int .u8 k) rfl; have d1 := cell_block hb2 (j := 1) (v := strV n) rfl; have d2 := cell_block hb2 (j := 2) (v := strV t) rfl; have hl : (Instr.lookup 77 (.map (some W1.heap.size)) (.int .u8 k) false).run Try.prog w2 = _ := HL.out _ _ hown; have HG2 := Lib.hid hg; clear hg hown hb2))
    | fail
    all_goals
      go_wp2
      go_ret
      exact ⟨by rw [HF2.out]; rfl, HG.out.trans ((Gr.refl W1).drew.trans HG2.out)⟩
  rcases htb with ht | ht
  · have HF2 := Lib.hid (HF.out.trans (show _ = true by rw [hf, hn, hk, ht]; rfl))
    clear hf
    go_enter Try.func26, Try.ntmps26
    go_upto_region 1 with fail
    rw [HW.out]
    have c0 := cell_block HB.out (j := 0) rfl
    first
    | (go_region_law (go_simp; refine (HD.out _).mono ?_; rintro e w2 ⟨rfl, hown, hg⟩; have hb2 := hg.same HB.out; have d0 := cell_block hb2 (j := 0) (v := .int .u8 k) rfl; have d1 := cell_block hb2 (j := 1) (v := strV n) rfl; have d2 := cell_block hb2 (j := 2) (v := strV t) rfl; have hl : (Instr.lookup 77 (.map (some W1.heap.size)) (.int .u8 k) false).run Try.prog w2 = _ := HL.out _ _ hown; have HG2 := Lib.hid hg; clear hg hown hb2))
    | fail
    all_goals
      go_wp2
      go_ret
      exact ⟨by rw [HF2.out]; rfl, HG.out.trans ((Gr.refl W1).drew.trans HG2.out)⟩
  · have HF2 := Lib.hid (HF.out.trans (show _ = false by rw [hf, hn, hk, ht]; rfl))
    clear hf
    go_enter Try.func26, Try.ntmps26
    go_upto_region 1 with fail
    rw [HW.out]
    have c0 := cell_block HB.out (j := 0) rfl
    first
    | (go_region_law (go_simp; refine (HD.out _).mono ?_; rintro e w2 ⟨rfl, hown, hg⟩; have hb2 := hg.same HB.out; have d0 := cell_block hb2 (j := 0) (v := .int .u8 k) rfl; have d1 := cell_block hb2 (j := 1) (v := strV n) rfl; have d2 := cell_block hb2 (j := 2) (v := strV t) rfl; have hl : (Instr.lookup 77 (.map (some W1.heap.size)) (.int .u8 k) false).run Try.prog w2 = _ := HL.out _ _ hown; have HG2 := Lib.hid hg; clear hg hown hb2))
    | fail
    all_goals
      go_wp2
      go_ret
      exact ⟨by rw [HF2.out]; rfl, HG.out.trans ((Gr.refl W1).drew.trans HG2.out)⟩
  · have HF2 := Lib.hid (HF.out.trans (show _ = false by rw [hf, hn]; rfl))
    clear htb hkb hf
    go_enter Try.func26, Try.ntmps26
    go_upto_region 1 with fail
    rw [HW.out]
    have c0 := cell_block HB.out (j := 0) rfl
    first
    | (go_region_law (go_simp; refine (HD.out _).mono ?_; rintro e w2 ⟨rfl, hown, hg⟩; have hb2 := hg.same HB.out; have d0 := cell_block hb2 (j := 0) (v := .int .u8 k) rfl; have d1 := cell_block hb2 (j := 1) (v := strV n) rfl; have d2 := cell_block hb2 (j := 2) (v := strV t) rfl; have hl : (Instr.lookup 77 (.map (some W1.heap.size)) (.int .u8 k) false).run Try.prog w2 = _ := HL.out _ _ hown; have HG2 := Lib.hid hg; clear hg hown hb2))
    | fail
    all_goals
      go_wp2
      go_ret
      exact ⟨by rw [HF2.out]; rfl, HG.out.trans ((Gr.refl W1).drew.trans HG2.out)⟩
end Go.Proofs.Ytbgcjbpkgijmeaa
