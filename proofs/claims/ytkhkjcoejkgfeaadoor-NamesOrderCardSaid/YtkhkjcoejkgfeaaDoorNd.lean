/-
  Walk: Name, where there is a numeral.
  Conditions: none beyond those typed at each theorem.
-/
import Derived.Test.YtkhkjcoejkgfeaaDoorNc
import Derived.Deep.RegionHeld3
namespace Go.Proofs.YtkhkjcoejkgfeaaDoor
open Go Go.RowKit

theorem name_right {k s f : Int} {c : UInt8} (hs1 : 1 ≤ s) (hs2 : s ≤ 1073741824) (hf1 : 1 ≤ f) (hf2 : f ≤ 2) (h1 : letterS k = [c]) (h2 : plainS k = []) {w : World} (hT : Tab w) :
    Calls Tryd.prog 8 #[.agg #[.int .u8 k, .int .i64 s, .int .i64 f]] w fun e w' => e = .returned (.tuple #[strV (c :: (Lib.itoa s ++ (46 :: Lib.itoa f))), .int .i64 0]) ∧ Gr w w' := by
  have HL := Lib.hid (letter_any k)
  have HP := Lib.hid (plain_any k)
  rw [h1] at HL
  rw [h2] at HP
  obtain ⟨W1, hW1⟩ : ∃ W1, w.alloc (.cells #[.int .u8 k, .int .i64 s, .int .i64 f] 23) = W1 := ⟨_, rfl⟩
  have g1 : Gr w W1 := by rw [← hW1]; exact Gr.alloc (Gr.refl _) _
  have hB : W1.heap[w.heap.size]? = some (.cells #[.int .u8 k, .int .i64 s, .int .i64 f] 23 (0, 0)) := by rw [← hW1]; exact alloc1_heap _ _
  have c0 := cell_block hB (j := 0) (v := .int .u8 k) rfl
  have c1 := cell_block hB (j := 1) (v := .int .i64 s) rfl
  have c2 := cell_block hB (j := 2) (v := .int .i64 f) rfl
  have hT1 := hT.gr g1
  have HS := Lib.hid (show ∀ X, Tab X → Calls Tryd.prog 20 #[.int .i64 s] X (fun e w' => e = .returned (strV (Lib.itoa s)) ∧ Gr X w') from fun X h => itoa_any (by omega) (by omega) h)
  have HF := Lib.hid (show ∀ X, Tab X → Calls Tryd.prog 20 #[.int .i64 f] X (fun e w' => e = .returned (strV (Lib.itoa f)) ∧ Gr X w') from fun X h => itoa_any (by omega) (by omega) h)
  have a1 : ¬ s < 1 := by omega
  have a2 : ¬ 1073741824 < s := by omega
  have a3 : ¬ f < 1 := by omega
  have a4 : ¬ 2 < f := by omega
  have l1 := itoa_le (n := s) (by omega) hs2
  have l2 := itoa_le (n := f) (by omega) (by omega)
  have hres : (ByteArray.mk #[c] ++ ByteArray.mk (Lib.itoa s).toArray ++ ByteArray.mk #[46] ++ ByteArray.mk (Lib.itoa f).toArray) = ByteArray.mk (c :: (Lib.itoa s ++ (46 :: Lib.itoa f))).toArray := by
    rw [show ByteArray.mk #[c] = ByteArray.mk [c].toArray from rfl, show ByteArray.mk #[46] = ByteArray.mk [46].toArray from rfl, ByteArray.mk_append_mk, ByteArray.mk_append_mk, ByteArray.mk_append_mk]
    simp
  have HRES := Lib.hid hres
  have HW1 := Lib.hid hW1
  have HG1 := Lib.hid g1
  clear hW1 g1 hB hT h1 h2 hs1 hs2 hf1 hf2 hres
  generalize Lib.itoa s = ds at *
  generalize Lib.itoa f = fs at *
  have b1 : ¬ (9223372036854775807 < 1 + ds.length) := by omega
  have b2 : ¬ (9223372036854775807 < 1 + ds.length + 1) := by omega
  have b3 : ¬ (9223372036854775807 < 1 + ds.length + 1 + fs.length) := by omega
  clear l1 l2
  go_enter Tryd.func8, Tryd.ntmps8
  go_wp2_with fail
  rw [HW1.out]
  go_quiet (first | with_reducible exact Calls.quiet_of_same (HL.out _) | with_reducible exact Calls.quiet_of_same (HP.out _))
  obtain ⟨w3, hw3⟩ : ∃ w3, W1.drewN nq = w3 := ⟨_, rfl⟩
  have g13 : Gr W1 w3 := by rw [← hw3]; exact (Gr.refl W1).drewN _
  have d0 := later_cell g13 c0
  have d1 := later_cell g13 c1
  have d2 := later_cell g13 c2
  have hT3 := hT1.gr g13
  have HG13 := Lib.hid (HG1.out.trans g13)
  rw [hw3]
  clear hw3 g13 c0 c1 c2 hT1
  go_wp2_with fail
  have HK0 := Lib.hid (show Tab w3.drew ∧ Gr w3 w3.drew ∧ w3.drew.cell? ⟨w.heap.size, 1, none⟩ = some (.int .i64 s) ∧ w3.drew.cell? ⟨w.heap.size, 2, none⟩ = some (.int .i64 f) from
    have g := (Gr.refl w3).drew
    ⟨hT3.gr g, g, later_cell g d1, later_cell g d2⟩)
  have HK := Lib.hid (show ∀ X Y, (Tab X ∧ Gr w3 X ∧ X.cell? ⟨w.heap.size, 1, none⟩ = some (.int .i64 s) ∧ X.cell? ⟨w.heap.size, 2, none⟩ = some (.int .i64 f)) → Gr X Y → (Tab Y ∧ Gr w3 Y ∧ Y.cell? ⟨w.heap.size, 1, none⟩ = some (.int .i64 s) ∧ Y.cell? ⟨w.heap.size, 2, none⟩ = some (.int .i64 f)) from
    fun X Y h hg => ⟨h.1.gr hg, h.2.1.trans hg, later_cell hg h.2.2.1, later_cell hg h.2.2.2⟩)
  have HS' := Lib.hid (show ∀ X, (Tab X ∧ Gr w3 X ∧ X.cell? ⟨w.heap.size, 1, none⟩ = some (.int .i64 s) ∧ X.cell? ⟨w.heap.size, 2, none⟩ = some (.int .i64 f)) → Calls Tryd.prog 20 #[.int .i64 s] X (fun e w' => e = .returned (strV ds) ∧ Gr X w') from fun X h => HS.out X h.1)
  have HF' := Lib.hid (show ∀ X, (Tab X ∧ Gr w3 X ∧ X.cell? ⟨w.heap.size, 1, none⟩ = some (.int .i64 s) ∧ X.cell? ⟨w.heap.size, 2, none⟩ = some (.int .i64 f)) → Calls Tryd.prog 20 #[.int .i64 f] X (fun e w' => e = .returned (strV fs) ∧ Gr X w') from fun X h => HF.out X h.1)
  clear d0 d1 d2 hT3
  go_region_held3 (fun X => Tab X ∧ Gr w3 X ∧ X.cell? ⟨w.heap.size, 1, none⟩ = some (.int .i64 s) ∧ X.cell? ⟨w.heap.size, 2, none⟩ = some (.int .i64 f))
      (first | exact HK0.out | exact HK.out _ _ (by assumption) (by assumption) | exact HK.out _ _ (by assumption) (Gr.refl _))
      (first
        | (go_at_call 20; refine (HS'.out _ (by assumption)).mono ?_; rintro e y1 ⟨rfl, hgy1⟩)
        | (go_at_call 20; refine (HF'.out _ (by assumption)).mono ?_; rintro e y2 ⟨rfl, hgy2⟩))
  all_goals
    rw [HRES.out]
    go_wp2
    go_ret2
    exact ⟨rfl, HG13.out.trans ((by assumption : (Tab _ ∧ Gr w3 _ ∧ _)).2.1)⟩

theorem name_any (x : Idn) {w : World} (hT : Tab w) : Calls Tryd.prog 8 #[idV x] w fun e w' => e = .returned (nameV x) ∧ Gr w w' := by
  obtain ⟨k, s, f⟩ := x
  show Calls Tryd.prog 8 #[.agg #[.int .u8 k, .int .i64 s, .int .i64 f]] w fun e w' => e = .returned (nameV ⟨k, s, f⟩) ∧ Gr w w'
  have hnone : nameOf ⟨k, s, f⟩ = none → nameV ⟨k, s, f⟩ = .tuple #[strV [], .int .i64 2] := fun h => by unfold nameV; rw [h]
  have hsome : ∀ l, nameOf ⟨k, s, f⟩ = some l → nameV ⟨k, s, f⟩ = .tuple #[strV l, .int .i64 0] := fun l h => by unfold nameV; rw [h]
  by_cases h12 : k = 1 ∨ k = 2
  · have hl : ∃ l, (l = [77] ∨ l = [77, 46, 110, 101, 119]) ∧ letterS k = [] ∧ plainS k = l ∧ nameOf ⟨k, 0, 0⟩ = some l := by
      rcases h12 with rfl | rfl
      · exact ⟨_, .inl rfl, rfl, rfl, rfl⟩
      · exact ⟨_, .inr rfl, rfl, rfl, rfl⟩
    obtain ⟨l, hl, e1, e2, e3⟩ := hl
    by_cases h0 : s = 0 ∧ f = 0
    · obtain ⟨rfl, rfl⟩ := h0
      rw [hsome l e3]
      exact name_plain hl e1 e2 w
    · rw [hnone (by unfold nameOf; rw [if_neg (by simp only; omega), if_neg (by simp only; omega), if_neg (by simp only; omega)])]
      exact name_none (.inr ⟨hl, by omega⟩) e1 e2 w
  · by_cases h34 : k = 3 ∨ k = 4
    · have hl : ∃ c, letterS k = [c] ∧ plainS k = [] ∧ letter k = c := by
        rcases h34 with rfl | rfl
        · exact ⟨_, rfl, rfl, rfl⟩
        · exact ⟨_, rfl, rfl, rfl⟩
      obtain ⟨c, e1, e2, e3⟩ := hl
      by_cases hr : 1 ≤ s ∧ s ≤ 1073741824 ∧ 1 ≤ f ∧ f ≤ 2
      · obtain ⟨r1, r2, r3, r4⟩ := hr
        have := nameOf_many (x := ⟨k, s, f⟩) h34 r1 r2 r3 r4
        rw [hsome _ this]
        show Calls Tryd.prog 8 #[.agg #[.int .u8 k, .int .i64 s, .int .i64 f]] w fun e w' => e = .returned (.tuple #[strV (letter k :: (Lib.itoa s ++ (46 :: Lib.itoa f))), .int .i64 0]) ∧ Gr w w'
        rw [e3]
        exact name_right r1 r2 r3 r4 e1 e2 hT
      · rw [hnone (by unfold nameOf; rw [if_neg (by simp only; omega), if_neg (by simp only; omega), if_neg (by simp only; omega)])]
        exact name_wrong (by omega) e1 e2 w
    · rw [hnone (by unfold nameOf; rw [if_neg (by simp only; omega), if_neg (by simp only; omega), if_neg (by simp only; omega)])]
      refine name_none (.inl rfl) ?_ ?_ w
      · unfold letterS; rw [if_neg (by omega), if_neg (by omega)]
      · unfold plainS; rw [if_neg (by omega), if_neg (by omega)]
end Go.Proofs.YtkhkjcoejkgfeaaDoor
