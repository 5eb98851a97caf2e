/-
  The law of names turned, walked.
  Conditions: none beyond those typed at each theorem.
-/
import Derived.Test.YtkhkjcoejkgfeaaDoorNr
import Derived.Laws.BytesString
import Derived.Laws.Strings2
import Derived.Laws.Strings3
namespace Go.Proofs.YtkhkjcoejkgfeaaDoor
open Go Go.RowKit

theorem conv_one (w : World) (b : Nat) (z : Int) (h : w.cell? ⟨b, 0, none⟩ = some (.int .u8 z)) : (convert 37 9 (.slice (some ⟨b, 0, none⟩) 1 1)).run Tryd.prog w = .ok (.string ⟨#[UInt8.ofNat z.toNat]⟩) w := by
  rw [run_convert_bytes_string w 37 9 5 _ _ _ Tryd.underlying37 Tryd.underlying5 Tryd.underlying9, run_bytesToString w _ _ _ [z] (by simp [loadCells, loadCellsFrom, h, go_sem])]
  rfl
/-- A beginning, a rest, both together: by names that the walk does not open. -/
def tkL (l : List UInt8) (i : Int) : List UInt8 := l.take i.toNat
def dpL (l : List UInt8) (i : Int) : List UInt8 := l.drop i.toNat
def apL (x y : List UInt8) : List UInt8 := x ++ y
def Sm (x : List UInt8) : Prop := x.length ≤ 1000
theorem extract_mk (l : List UInt8) (a b : Nat) : (ByteArray.mk l.toArray).extract a b = ByteArray.mk ((l.take b).drop a).toArray := by
  apply ByteArray.ext
  rw [ByteArray.data_extract]
  apply Array.ext'
  simp [List.drop_take]
theorem slice_to_l (w : World) (l : List UInt8) (k : IntKind) (i : Int) (h0 : 0 ≤ i) (h1 : i ≤ l.length) : (Instr.slice 9 (.string ⟨l.toArray⟩) none (some (.int k i)) none).run Tryd.prog w = .ok (.string ⟨(tkL l i).toArray⟩) w := by
  rw [run_slice_string_to_if w 9 _ k i Tryd.underlying9, if_pos ⟨h0, by simpa [ByteArray.size] using h1⟩, extract_mk]
  rfl
theorem slice_from_l (w : World) (l : List UInt8) (k : IntKind) (i : Int) (h0 : 0 ≤ i) (h1 : i ≤ l.length) : (Instr.slice 9 (.string ⟨l.toArray⟩) (some (.int k i)) none none).run Tryd.prog w = .ok (.string ⟨(dpL l i).toArray⟩) w := by
  rw [run_slice_string_from_if w 9 _ k i Tryd.underlying9, if_pos ⟨h0, by simpa [ByteArray.size] using h1⟩, extract_mk]
  have : l.take (ByteArray.mk l.toArray).size = l := List.take_of_length_le (by simp [ByteArray.size])
  rw [this]
  rfl
theorem add_l (w : World) (x y : List UInt8) (hx : Sm x) (hy : Sm y) : (Op.stringOp .add ⟨x.toArray⟩ ⟨y.toArray⟩).run Tryd.prog w = .ok (.string ⟨(apL x y).toArray⟩) w := by
  unfold Sm at hx hy
  exact run_string_add_lists w x y (by omega) (by omega)
theorem ap_le {x y : List UInt8} (hx : Sm x) (hy : Sm y) : (apL x y).length ≤ 5000 := by
  unfold apL Sm at *
  rw [List.length_append]; omega
theorem not_none (x : Idn) (at' by' : Int) (hx : nameOf x = none) {w : World} (hT : Tab w) : Calls Tryd.prog 5 #[idV x, .int .i64 at', .int .u8 by'] w fun e w' => e = .returned (.bool true) ∧ Gr w w' := by
  obtain ⟨k, s, f⟩ := x
  show Calls Tryd.prog 5 #[.agg #[.int .u8 k, .int .i64 s, .int .i64 f], .int .i64 at', .int .u8 by'] w fun e w' => e = .returned (.bool true) ∧ Gr w w'
  obtain ⟨W1, hW1⟩ : ∃ W1, w.alloc (.cells #[.int .u8 k, .int .i64 s, .int .i64 f] 23) = W1 := ⟨_, rfl⟩
  have g1 : Gr w W1 := by rw [← hW1]; exact (Gr.refl w).alloc _
  have hA : W1.heap[w.heap.size]? = some (.cells #[.int .u8 k, .int .i64 s, .int .i64 f] 23 (0, 0)) := by rw [← hW1]; exact alloc1_heap _ _
  have N1 := Lib.hid (name_isnt hx)
  have hm := fun X => may_any ⟨k, s, f⟩ X
  rw [hx] at hm
  have HM := Lib.hid (show ∀ X, Calls Tryd.prog 10 #[.agg #[.int .u8 k, .int .i64 s, .int .i64 f]] X fun e w' => e = .returned (.bool false) ∧ Gr X w' from hm)
  have HT := Lib.hid (hT.gr g1)
  have HW1 := Lib.hid hW1
  have HG1 := Lib.hid g1
  have HA := Lib.hid hA
  clear hA hm hT hW1 g1 hx
  go_enter Tryd.func5, Tryd.ntmps5
  go_wp2_with fail
  rw [HW1.out]
  have c0 := cell_block HA.out (j := 0) (v := .int .u8 k) rfl
  have c1 := cell_block HA.out (j := 1) (v := .int .i64 s) rfl
  have c2 := cell_block HA.out (j := 2) (v := .int .i64 f) rfl
  refine (N1.out _ HT.out).mono ?_
  rintro e w1 ⟨rfl, g1⟩
  have d0 := later_cell g1 c0
  have d1 := later_cell g1 c1
  have d2 := later_cell g1 c2
  have HT1 := Lib.hid (HT.out.gr g1)
  have HG2 := Lib.hid (HG1.out.trans g1)
  clear g1 c0 c1 c2
  go_wp2_with fail
  refine (HM.out _).mono ?_
  rintro e w2 ⟨rfl, g2⟩
  have HT2 := Lib.hid (HT1.out.gr g2)
  have HG3 := Lib.hid (HG2.out.trans g2)
  clear g2
  go_wp2_with fail
  refine (wakes_any HT2.out).mono ?_
  rintro e w3 ⟨rfl, g3⟩
  have HG4 := Lib.hid (HG3.out.trans g3)
  clear g3
  go_wp2
  go_ret
  exact ⟨rfl, HG4.out⟩
attribute [local go_sem ↓] conv_one slice_to_l slice_from_l add_l
set_option maxRecDepth 100000 in
set_option maxHeartbeats 4000000 in
theorem not_some (k s f : Int) (l : List UInt8) (at' by' : Int) (hx : nameOf ⟨k, s, f⟩ = some l) {w : World} (hT : Tab w) :
    Calls Tryd.prog 5 #[.agg #[.int .u8 k, .int .i64 s, .int .i64 f], .int .i64 at', .int .u8 by'] w fun e w' => e = .returned (.bool true) ∧ Gr w w' := by
  obtain ⟨W1, hW1⟩ : ∃ W1, w.alloc (.cells #[.int .u8 k, .int .i64 s, .int .i64 f] 23) = W1 := ⟨_, rfl⟩
  have g1 : Gr w W1 := by rw [← hW1]; exact (Gr.refl w).alloc _
  have hA : W1.heap[w.heap.size]? = some (.cells #[.int .u8 k, .int .i64 s, .int .i64 f] 23 (0, 0)) := by rw [← hW1]; exact alloc1_heap _ _
  obtain ⟨hlen, hne⟩ := nameOf_le hx
  have hpos : 0 < l.length := List.length_pos_iff.2 hne
  obtain ⟨a, ha, halt⟩ : ∃ a : Nat, (at'.tmod (l.length : Int) + (l.length : Int)).tmod (l.length : Int) = (a : Int) ∧ a < l.length := by
    have h1 := Int.tmod_lt_of_pos (at'.tmod l.length + l.length) (show (0 : Int) < l.length by omega)
    have h2 := Int.lt_tmod_of_pos at' (show (0 : Int) < l.length by omega)
    have h3 : 0 ≤ (at'.tmod l.length + l.length).tmod l.length := Int.tmod_nonneg _ (by omega)
    exact ⟨((at'.tmod l.length + l.length).tmod l.length).toNat, by omega, by omega⟩
  have hw : wrap64 (at'.tmod l.length + l.length) = at'.tmod l.length + l.length := by
    have h1 := Int.tmod_lt_of_pos at' (show (0 : Int) < l.length by omega)
    have h2 := Int.lt_tmod_of_pos at' (show (0 : Int) < l.length by omega)
    unfold wrap64; omega
  have hb : ((l.length : Int) == 0) = false := beq_eq_false_iff_ne.2 (by omega)
  have N1 := Lib.hid (name_is hx)
  have HT := Lib.hid (hT.gr g1)
  have HW1 := Lib.hid hW1
  have HG1 := Lib.hid g1
  have HA := Lib.hid hA
  have HX := Lib.hid hx
  clear hA hT hW1 g1 hx
  go_enter Tryd.func5, Tryd.ntmps5
  go_wp2_with fail
  rw [HW1.out]
  have c0 := cell_block HA.out (j := 0) (v := .int .u8 k) rfl
  have c1 := cell_block HA.out (j := 1) (v := .int .i64 s) rfl
  have c2 := cell_block HA.out (j := 2) (v := .int .i64 f) rfl
  refine (N1.out _ HT.out).mono ?_
  rintro e w1 ⟨rfl, g1⟩
  have d0 := later_cell g1 c0
  have d1 := later_cell g1 c1
  have d2 := later_cell g1 c2
  have HT1 := Lib.hid (HT.out.gr g1)
  have HG2 := Lib.hid (HG1.out.trans g1)
  clear g1 c0 c1 c2
  go_wp2_with fail
  have i0 : (0 : Int) ≤ a := by omega
  have i1 : (a : Int) ≤ (l.length : Int) := by omega
  have i2 : (0 : Int) ≤ (a : Int) + 1 := by omega
  have i3 : (a : Int) + 1 ≤ (l.length : Int) := by omega
  have hw1 : IntKind.i64.wrap ((a : Int) + 1) = (a : Int) + 1 := by rw [IntKind.wrap_i64]; omega
  have m1 : Sm (tkL l a) := by unfold Sm tkL; rw [List.length_take]; omega
  have m2 : Sm (dpL l a) := by unfold Sm dpL; rw [List.length_drop]; omega
  have m3 : Sm (dpL l ((a : Int) + 1)) := by unfold Sm dpL; rw [List.length_drop]; omega
  have m4 : Sm [UInt8.ofNat by'.toNat] := by unfold Sm; simp
  have m5 : Sm (apL (tkL l a) [UInt8.ofNat by'.toNat]) := by unfold Sm apL tkL; rw [List.length_append, List.length_take]; simp; omega
  obtain ⟨W2, hW2⟩ : ∃ W2, w1.alloc (.cells #[.int .u8 by'] 5) = W2 := ⟨_, rfl⟩
  have g2 : Gr w1 W2 := by rw [← hW2]; exact Gr.alloc (Gr.refl _) _
  have HT2 := Lib.hid (HT1.out.gr g2)
  have HG3 := Lib.hid (HG2.out.trans g2)
  have HC := Lib.hid (show ∀ X, Gr W2 X → X.cell? ⟨w.heap.size, 0, none⟩ = some (.int .u8 k) ∧ X.cell? ⟨w.heap.size, 1, none⟩ = some (.int .i64 s) ∧ X.cell? ⟨w.heap.size, 2, none⟩ = some (.int .i64 f) from
    fun X hg => ⟨later_cell (g2.trans hg) d0, later_cell (g2.trans hg) d1, later_cell (g2.trans hg) d2⟩)
  have HS0 := Lib.hid (show Gr W2 W2.drew from (Gr.refl W2).drew)
  rw [hW2]
  clear hW2 g2 d0 d1 d2 hw ha hb
  go_region_held3 (fun X => Gr W2 X)
    (first | exact HS0.out | assumption | exact Gr.alloc (by assumption) _)
    (fail)
  have u0 := ap_le m5 m2
  have u1 := ap_le m1 m3
  have u2 := ap_le m5 m3
  all_goals
    generalize apL (apL (tkL l (a : Int)) [UInt8.ofNat by'.toNat]) (dpL l (a : Int)) = t0 at *
    generalize apL (tkL l (a : Int)) (dpL l ((a : Int) + 1)) = t1 at *
    generalize apL (apL (tkL l (a : Int)) [UInt8.ofNat by'.toNat]) (dpL l ((a : Int) + 1)) = t2 at *
    obtain ⟨W4, hW4⟩ : ∃ W4, (W2.alloc (.cells #[.string ⟨t0.toArray⟩, .string ⟨t1.toArray⟩, .string ⟨t2.toArray⟩] 9)).drew = W4 := ⟨_, rfl⟩
    have hG34 : Gr W2 W4 := by rw [← hW4]; exact (Gr.alloc (Gr.refl _) _).drew
    have hB4 : W4.heap[W2.heap.size]? = some (.cells #[strV t0, strV t1, strV t2] 9 (0, 0)) := by rw [← hW4]; exact alloc1_heap W2 _
    have HB4 := Lib.hid hB4
    have HG4 := Lib.hid hG34
    rw [hW4]
    clear hW4 hG34 hB4
    go_wp2
    go_loopw [72] (fun iv wr => ∃ i : Nat, iv = .int .i64 i ∧ i ≤ 3 ∧ Gr W4 wr) (fun iv _ => 3 - (intOf iv).toNat)
    case atStart => exact ⟨0, rfl, by omega, Gr.refl _⟩
    case round =>
      obtain ⟨i, rfl, hi, hg⟩ := hrel
      by_cases hlt : i < 3
      · obtain ⟨t, ht, htl⟩ : ∃ t : List UInt8, (#[strV t0, strV t1, strV t2] : Array Value)[i]? = some (strV t) ∧ t.length ≤ 5000 := by
          match i, hlt with
          | 0, _ => exact ⟨t0, rfl, u0⟩
          | 1, _ => exact ⟨t1, rfl, u1⟩
          | 2, _ => exact ⟨t2, rfl, u2⟩
        have q := cell_block (hg.same HB4.out) (j := i) ht
        have HTr := Lib.hid (HT2.out.gr (HG4.out.trans hg))
        have HGr := Lib.hid (HG4.out.trans hg)
        have HGg := Lib.hid hg
        clear hg ht
        cases hp : parO t with
        | none =>
          have P := Lib.hid (par_isnt (by omega) hp)
          clear hp
          go_wp2_with fail
          refine (P.out _).mono ?_
          rintro e w5 ⟨rfl, g5⟩
          have HG5 := Lib.hid ((HGg.out.trans g5).trans (Gr.alloc (Gr.refl w5) (.cells #[.int .u8 0, .int .i64 0, .int .i64 0] 23)))
          clear g5 q
          go_wp2
          exact ⟨⟨i + 1, by go_num, by omega, HG5.out⟩, by simp [intOf]; omega⟩
        | some z =>
          obtain ⟨zk, zs, zf⟩ := z
          have hn := parO_name hp
          have P := Lib.hid (par_is (by omega) hp)
          have hsame : (zk = k ∧ zs = s ∧ zf = f ∧ t = l) ∨ ((¬ zk = k ∨ (zk = k ∧ ¬ zs = s) ∨ (zk = k ∧ zs = s ∧ ¬ zf = f)) ∧ (t == l) = false) := by
            by_cases htl' : t = l
            · left
              rw [htl'] at hn
              have := nameOf_inj hn HX.out
              injection this with e1 e2 e3
              exact ⟨e1, e2, e3, htl'⟩
            · right
              refine ⟨?_, by simpa using htl'⟩
              by_cases e1 : zk = k
              · by_cases e2 : zs = s
                · by_cases e3 : zf = f
                  · exfalso
                    subst e1; subst e2; subst e3
                    have := hn.symm.trans HX.out
                    injection this with this
                    exact htl' this
                  · exact .inr (.inr ⟨e1, e2, e3⟩)
                · exact .inr (.inl ⟨e1, e2⟩)
              · exact .inl e1
          clear hp hn
          rcases hsame with ⟨rfl, rfl, rfl, rfl⟩ | ⟨e1 | ⟨rfl, e1⟩ | ⟨rfl, rfl, e1⟩, htl'⟩
          all_goals
            go_wp2_with fail
            refine (P.out _).mono ?_
            rintro e w5 ⟨rfl, g5⟩
            obtain ⟨d0, d1, d2⟩ := HC.out _ (HGr.out.trans g5)
            have s0 : w.heap.size < w5.heap.size := World.block_lt_of_cell? _ _ d0
            have HG5 := Lib.hid ((HGg.out.trans g5).trans (Gr.alloc (Gr.refl w5) (.cells #[.int .u8 zk, .int .i64 zs, .int .i64 zf] 23)))
            clear g5 q
            go_wp2
            exact ⟨⟨i + 1, by go_num, by omega, HG5.out⟩, by simp [intOf]; omega⟩
      · have hi3 : i = 3 := by omega
        subst hi3
        have HTr := Lib.hid (HT2.out.gr (HG4.out.trans hg))
        have HGr := Lib.hid (HG3.out.trans (HG4.out.trans hg))
        clear hg
        go_wp2_with fail
        refine (wakes_any HTr.out).mono ?_
        rintro e w9 ⟨rfl, g9⟩
        have HG9 := Lib.hid (HGr.out.trans g9)
        clear g9
        go_wp2
        go_ret
        exact ⟨rfl, HG9.out⟩
theorem not_any (x : Idn) (at' by' : Int) {w : World} (hT : Tab w) : Calls Tryd.prog 5 #[idV x, .int .i64 at', .int .u8 by'] w fun e w' => e = .returned (.bool true) ∧ Gr w w' := by
  cases hx : nameOf x with
  | none => exact not_none x at' by' hx hT
  | some l => exact not_some x.kind x.seq x.fmt l at' by' hx hT
end Go.Proofs.YtkhkjcoejkgfeaaDoor
