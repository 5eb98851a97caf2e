/-
  Walks: the law of chains.
-/
import Derived.Test.YtofnoillkfagiaaFo
namespace Go.Proofs.Ytofnoillkfagiaa
open Go Go.RowKit

theorem owns_empty {w : World} {base n : Nat} (e : TypeId) (size : Nat) (hn : n = w.heap.size) (hb : base ≤ w.heap.size) : (w.alloc (.cells #[] e)).ownsRow base e size (.slice (some ⟨n, 0, none⟩) 0 0) 0 [] := by
  subst hn
  exact World.ownsRow_made w #[] 0 hb (Nat.zero_le _) (by simp)
theorem info_parts {t : TypeId} {z : Option Value} {n b : Nat} (h : (Try.prog.info? t).map (fun i => (i.zero, i.size, i.bytes)) = some (z, n, b)) : ∃ i, Try.prog.info? t = some i ∧ i.zero = z ∧ i.size = n ∧ i.bytes = b := by
  cases hi : Try.prog.info? t with
  | none => rw [hi] at h; simp at h
  | some i =>
    rw [hi] at h
    simp only [Option.map_some, Option.some.injEq, Prod.mk.injEq] at h
    exact ⟨i, rfl, h.1, h.2.1, h.2.2⟩
theorem info5 : (Try.prog.info? 5).map (fun i => (i.zero, i.size, i.bytes)) = some (some (.int .u8 0), 1, 1) := by kernel_rfl
theorem two_parts {W : World} {b : Nat} {a a' : Option Addr} {c c' : Nat} {bs bs' : List Int} {S : Nat → Prop} (hb : W.heap[b]? = some (.cells #[.slice a bs.length c, .slice a' bs'.length c'] 26 (0, 0))) (hS : S b)
    (hv : IsBytes S W (.slice a bs.length c) bs) (hv' : IsBytes S W (.slice a' bs'.length c') bs') : IsParts S W (.slice (some ⟨b, 0, none⟩) 2 2) [bs, bs'] := by
  refine ⟨[.slice a bs.length c, .slice a' bs'.length c'], rfl, ⟨by simp, .inr ⟨b, 0, 2, rfl, Nat.le_refl _, by decide, hS, range_row hb⟩⟩, fun i ps pv hp hq => ?_⟩
  match i, hp, hq with
  | 0, hp, hq =>
    simp at hp hq
    subst hp hq
    exact hv
  | 1, hp, hq =>
    simp at hp hq
    subst hp hq
    exact hv'
/-- A place of a row of so many, whatever number. -/
def spot (len : Nat) (at' : Int) : Nat := ((at'.tmod len + len).tmod len).toNat
theorem spot_eq {len : Nat} (h : len ≠ 0) (at' : Int) : ((spot len at' : Nat) : Int) = (at'.tmod len + len).tmod len := by
  have h2 := Int.lt_tmod_of_pos at' (show (0 : Int) < len by omega)
  have h3 : 0 ≤ (at'.tmod len + len).tmod len := Int.tmod_nonneg _ (by omega)
  unfold spot; omega
theorem spot_lt {len : Nat} (h : len ≠ 0) (at' : Int) : spot len at' < len := by
  have h1 := Int.tmod_lt_of_pos (at'.tmod len + len) (show (0 : Int) < len by omega)
  have := spot_eq h at'
  omega

set_option maxRecDepth 100000 in
set_option maxHeartbeats 1000000 in
theorem gaussChains_law (w : World) (v v' : Value) (xs bs : List Int) (at' : Int) (mix : Nat) (hv : IsBytes (· < w.heap.size) w v xs) (hv' : IsBytes (· < w.heap.size) w v' bs)
    (hby : ∀ z ∈ xs, 0 ≤ z ∧ z ≤ 255) (hby' : ∀ z ∈ bs, 0 ≤ z ∧ z ≤ 255) (hbb : mix < 256) :
    Calls Try.prog 5 #[v, v', .int .i64 at', .int .u8 mix] w fun e w' => e = .returned (.bool true) ∧ Gr w w' := by
  obtain ⟨la, lc, rfl, hl1, hl2⟩ := hv.len
  obtain ⟨ka, kc, rfl, hk1, hk2⟩ := hv'.len
  have HWK := Lib.hid (fun W => wakes_any W)
  by_cases hbad : 400 < xs.length ∨ 400 < bs.length
  · have hb' : (400 : Int) < xs.length ∨ (¬ (400 : Int) < xs.length ∧ (400 : Int) < bs.length) := by omega
    clear hbad hv hv' hby hby'
    rcases hb' with h1 | ⟨h1, h2⟩
    all_goals
      go_enter Try.func5, Try.ntmps5
      go_wp2_with fail
      refine (HWK.out _).mono ?_
      rintro e w2 ⟨rfl, hg2⟩
      go_wp2
      go_ret
      exact ⟨rfl, hg2⟩
  · have q1 : ¬ (400 : Int) < xs.length := by omega
    have q2 : ¬ (400 : Int) < bs.length := by omega
    have la4 : xs.length ≤ 400 := by omega
    have lb4 : bs.length ≤ 400 := by omega
    have w0 : W 0 0 := .inl N_zero.symm
    have p0 : Pt (0, 0) := by unfold Pt; decide
    have HVA := Lib.hid (fun X (h : Gr w X) => (hv.gr h).mono (T := (· < X.heap.size)) fun q hq => Nat.lt_of_lt_of_le hq h.size)
    have HVB := Lib.hid (fun X (h : Gr w X) => (hv'.gr h).mono (T := (· < X.heap.size)) fun q hq => Nat.lt_of_lt_of_le hq h.size)
    have HBA := Lib.hid hby
    have HBB := Lib.hid hby'
    have HC1 := Lib.hid (chain_one w la lc xs 0 0 (0, 0) w0 w0 p0 (HVA.out w (Gr.refl _)) (by omega) hby)
    obtain ⟨i1, hi1, hy0, hy1, hy2⟩ := info_parts info5
    obtain ⟨P, hP⟩ : ∃ P, chainP (0, 0) xs = P := ⟨_, rfl⟩
    obtain ⟨Q, hQ⟩ : ∃ Q, chainP P bs = Q := ⟨_, rfl⟩
    have hPt := chainP_pt p0 xs
    rw [hP] at hPt HC1
    have hQt := chainP_pt hPt bs
    rw [hQ] at hQt
    have HP := Lib.hid hP
    have HQ := Lib.hid hQ
    clear hP hQ hv hv' hby hby' hbad
    go_enter Try.func5, Try.ntmps5
    go_wp2_with fail
    refine HC1.out.mono ?_
    rintro e w1 ⟨x1, y1, rfl, hx1, hy1', hg1⟩
    have hc2 := chain_one w1 ka kc bs x1 y1 P hx1 hy1' hPt (HVB.out w1 hg1) (by omega) HBB.out
    rw [HQ.out] at hc2
    have HC2 := Lib.hid hc2
    have HX1 := Lib.hid (And.intro hx1 hy1')
    have G1 := Lib.hid hg1
    clear hc2 hx1 hy1' hg1 HC1
    go_wp2_with fail
    refine HC2.out.mono ?_
    rintro e w2 ⟨x2, y2, rfl, hx2, hy2', hg2⟩
    have G2 := Lib.hid (G1.out.trans hg2)
    have HX2 := Lib.hid (And.intro hx2 hy2')
    clear hx2 hy2' hg2 HC2
    -- two parts
    obtain ⟨W3, hW3⟩ : ∃ W3, w2.alloc (.cells #[.slice la xs.length lc, .slice ka bs.length kc] 26) = W3 := ⟨_, rfl⟩
    have g3 : Gr w2 W3 := by rw [← hW3]; exact Gr.alloc (Gr.refl _) _
    have hb3 : W3.heap[w2.heap.size]? = some (.cells #[.slice la xs.length lc, .slice ka bs.length kc] 26 (0, 0)) := by rw [← hW3]; exact alloc1_heap _ _
    have hlt3 : w2.heap.size < W3.heap.size := (Array.getElem?_eq_some_iff.1 hb3).1
    have hc3 := chain_any W3 0 0 (0, 0) w0 w0 p0 _ [xs, bs] (two_parts hb3 hlt3 (HVA.out W3 (G2.out.trans g3)) (HVB.out W3 (G2.out.trans g3))) (by simp) (by simp; omega)
      (by intro z hz; simp at hz; rcases hz with hz | hz; exact HBA.out z hz; exact HBB.out z hz)
    rw [show [xs, bs].flatten = xs ++ bs by simp, chainP_append, HP.out, HQ.out] at hc3
    have HC3 := Lib.hid hc3
    have G3 := Lib.hid (G2.out.trans g3)
    have HW3 := Lib.hid hW3
    clear hc3 g3 hb3 hlt3 hW3
    go_wp2_with fail
    rw [HW3.out]
    refine HC3.out.mono ?_
    rintro e w4 ⟨x4, y4, rfl, hx4, hy4, hg4⟩
    have o1 := eq_W HX2.out.1 hx4 (by have := hQt.1; have := hQt.2.1; omega) (by have := hQt.1; have := hQt.2.1; omega)
    have o2 := eq_W HX2.out.2 hy4 (by have := hQt.2.2.1; have := hQt.2.2.2; omega) (by have := hQt.2.2.1; have := hQt.2.2.2; omega)
    rw [decide_eq_true rfl] at o1 o2
    have G4 := Lib.hid (G3.out.trans hg4)
    have hga : Gr w4 (w4.alloc (.cells #[] 5)) := Gr.alloc (Gr.refl _) _
    have S1 := Lib.hid (bytes_src (HVA.out _ (G4.out.trans hga)))
    clear hx4 hy4 hg4 HC3 HW3
    go_wp2_with (at_builtin; go_loud (refine wpList_append_src_g (by rfl) _ _ 26 rfl w4.heap.size 5 i1 _ 1 1 Try.underlying26 hi1 hy0 hy1 hy2 rfl (by decide) _ 0 [] rfl ?hrow la xs.length lc (xs.map (Value.int .u8)) rfl ?c0 S1.out.1 S1.out.2 ?c2 ?c3 ?c4 ?c5 ?_))
    case hrow => exact owns_empty 5 1 rfl (Nat.le_refl _)
    case c0 => simp
    case c2 => exact bytes_one _
    case c3 => unfold maxLen; omega
    case c4 => omega
    case c5 => simp
    intro a5 c5 w5 hown5 hgrow5
    have hg5 : Gr w4 w5 := Below.grown hga hgrow5 (by simp) (by intro q hq; simp [Value.ownBlock] at hq; omega)
    have S2 := Lib.hid (bytes_src (HVB.out _ (G4.out.trans hg5)))
    have H5 := Lib.hid hown5
    have G5 := Lib.hid hg5
    clear hown5 hgrow5 hg5 hga
    go_wp2_with (at_builtin; go_loud (refine wpList_append_src_g (by rfl) _ _ 26 rfl w4.heap.size 5 i1 _ 1 1 Try.underlying26 hi1 hy0 hy1 hy2 rfl (by decide) _ xs.length (xs.map (Value.int .u8)) rfl H5.out ka bs.length kc (bs.map (Value.int .u8)) rfl ?d0 S2.out.1 S2.out.2 ?d2 ?d3 ?d4 ?d5 ?_))
    case d0 => simp
    case d2 => exact bytes_one _
    case d3 => unfold maxLen; omega
    case d4 => omega
    case d5 => exact G5.out.size
    intro a6 c6 w6 hown6 hgrow6
    have hg6 : Gr w4 w6 := Below.grown G5.out hgrow6 G5.out.size (fun q hq => (World.ownsRow.lt H5.out q hq).1)
    have hb6 : IsBytes (· < w6.heap.size) w6 (.slice a6 (xs ++ bs).length c6) (xs ++ bs) := by
      rw [List.length_append]
      exact own_bytes (base := w4.heap.size) (n := xs.length + bs.length) (by rw [List.length_append]) (by rw [List.map_append]; exact hown6)
    have hc5 := chain_one w6 a6 c6 (xs ++ bs) 0 0 (0, 0) w0 w0 p0 hb6 (by rw [List.length_append]; omega)
      (by intro z hz; rcases List.mem_append.1 hz with hz | hz; exact HBA.out z hz; exact HBB.out z hz)
    rw [chainP_append, HP.out, HQ.out, List.length_append] at hc5
    have HC5 := Lib.hid hc5
    have G6 := Lib.hid (G4.out.trans hg6)
    clear hc5 hb6 hg6 hown6 hgrow6 H5 G5 S1 S2
    go_wp2_with fail
    refine HC5.out.mono ?_
    rintro e w7 ⟨x7, y7, rfl, hx7, hy7, hg7⟩
    have o3 := eq_W HX2.out.1 hx7 (by have := hQt.1; have := hQt.2.1; omega) (by have := hQt.1; have := hQt.2.1; omega)
    have o4 := eq_W HX2.out.2 hy7 (by have := hQt.2.2.1; have := hQt.2.2.2; omega) (by have := hQt.2.2.1; have := hQt.2.2.2; omega)
    rw [decide_eq_true rfl] at o3 o4
    have G7 := Lib.hid (G6.out.trans hg7)
    have hc6 := chain_any w7 x1 y1 P HX1.out.1 HX1.out.2 hPt (.slice none 0 0) [] ⟨[], rfl, ⟨by simp, .inl ⟨⟨none, 0, rfl, Nat.zero_le _⟩, rfl⟩⟩, fun i ps pv h => by simp at h⟩ (by simp) (by simp) (by simp)
    have HC6 := Lib.hid hc6
    clear hc6 hx7 hy7 hg7 HC5
    go_wp2_with fail
    refine HC6.out.mono ?_
    rintro e w8 ⟨x8, y8, rfl, hx8, hy8, hg8⟩
    have o5 := eq_W hx8 HX1.out.1 (by have := hPt.1; have := hPt.2.1; show P.1.natAbs < _; omega) (by have := hPt.1; have := hPt.2.1; omega)
    have o6 := eq_W hy8 HX1.out.2 (by have := hPt.2.2.1; have := hPt.2.2.2; show P.2.natAbs < _; omega) (by have := hPt.2.2.1; have := hPt.2.2.2; omega)
    rw [show decide ((chainP P ([] : List (List Int)).flatten).1 = P.1) = true from decide_eq_true rfl] at o5
    rw [show decide ((chainP P ([] : List (List Int)).flatten).2 = P.2) = true from decide_eq_true rfl] at o6
    have G8 := Lib.hid (G7.out.trans hg8)
    clear hx8 hy8 hg8 HC6
    by_cases hend : bs.length = 0 ∨ mix = 0
    · have he : ((bs.length : Int) == 0) = true ∨ (((bs.length : Int) == 0) = false ∧ ((mix : Int) == 0) = true) := by
        by_cases h : bs.length = 0
        · left; rw [h]; rfl
        · right; exact ⟨beq_eq_false_iff_ne.2 (by omega), beq_iff_eq.2 (by omega)⟩
      clear hend
      rcases he with h1 | ⟨h1, h2⟩
      all_goals
        go_wp2_with fail
        refine (HWK.out _).mono ?_
        rintro e w9 ⟨rfl, hg9⟩
        go_wp2
        go_ret
        exact ⟨rfl, G8.out.trans hg9⟩
    · have hn0 : bs.length ≠ 0 := by omega
      have hm0 : mix ≠ 0 := by omega
      have h1 : ((bs.length : Int) == 0) = false := beq_eq_false_iff_ne.2 (by omega)
      have h2 : ((mix : Int) == 0) = false := beq_eq_false_iff_ne.2 (by omega)
      have hat := (spot_eq hn0 at').symm
      have hkl := spot_lt hn0 at'
      have hwz : wrap64 (at'.tmod bs.length + bs.length) = at'.tmod bs.length + bs.length := by
        have h1 := Int.tmod_lt_of_pos at' (show (0 : Int) < bs.length by omega)
        have h2 := Int.lt_tmod_of_pos at' (show (0 : Int) < bs.length by omega)
        unfold wrap64; omega
      generalize spot bs.length at' = k at *
      have hga : Gr w8 (w8.alloc (.cells #[] 5)) := Gr.alloc (Gr.refl _) _
      have S3 := Lib.hid (bytes_src (HVB.out _ (G8.out.trans hga)))
      clear hend
      go_wp2_with (at_builtin; go_loud (refine wpList_append_src rfl _ _ 26 rfl w8.heap.size 5 i1 _ 1 1 Try.underlying26 hi1 hy0 hy1 hy2 rfl (by decide) _ 0 [] rfl ?grow ka bs.length kc (bs.map (Value.int .u8)) rfl ?g0 S3.out.1 S3.out.2 ?g2 ?g3 ?g4 ?g5 ?_))
      case grow => exact owns_empty 5 1 rfl (Nat.le_refl _)
      case g0 => simp
      case g2 => exact bytes_one _
      case g3 => unfold maxLen; omega
      case g4 => omega
      case g5 => simp
      intro a9 c9 w9 hown9 hgrow9
      have hg9 : Gr w8 w9 := Below.grown hga hgrow9 (by simp) (by intro q hq; simp [Value.ownBlock] at hq; omega)
      rcases hown9.2 with ⟨_, h⟩ | ⟨g, cap, cur, hvv, hb, hh, hnc, hcm, hsz, ht⟩
      · omega
      simp only [Value.slice.injEq, true_and] at hvv
      obtain ⟨rfl, rfl⟩ := hvv
      obtain ⟨z, hz⟩ : ∃ z, bs[k]? = some z := ⟨_, List.getElem?_eq_getElem hkl⟩
      obtain ⟨z0, z1⟩ := HBB.out z (List.mem_of_getElem? hz)
      obtain ⟨xn, rfl⟩ : ∃ m : Nat, z = (m : Int) := ⟨z.toNat, by omega⟩
      have hcur : ∀ j u, j < bs.length → (bs.map (Value.int .u8))[j]? = some u → cur[j]? = some u := fun j u hj hu => by
        rw [← ht, List.getElem?_take_of_lt (by omega), Array.getElem?_toList] at hu
        exact hu
      have hck := hcur k _ hkl (by rw [List.getElem?_map, hz]; rfl)
      have u0 := cell_block hh hck
      have f0 := frozen_block hh (j := k)
      have hgl : g < w9.heap.size := (Array.getElem?_eq_some_iff.1 hh).1
      obtain ⟨hxor, hylt, hyne⟩ := xor_byte (x := xn) (y := mix) (by omega) hbb hm0
      obtain ⟨y, hy⟩ : ∃ y, xn ^^^ mix = y := ⟨_, rfl⟩
      rw [hy] at hxor hylt hyne
      obtain ⟨W10, hW10⟩ : ∃ W10, w9.setCell ⟨g, k, none⟩ (.int .u8 (y : Int)) = W10 := ⟨_, rfl⟩
      have hg10 : Gr w8 W10 := by rw [← hW10]; exact Gr.set hg9 hb _
      have hb10 : IsBytes (· < W10.heap.size) W10 (.slice (some ⟨g, 0, none⟩) (bs.set k (y : Int)).length c9) (bs.set k (y : Int)) := by
        have hset := setCell_block (j := k) hh (.int .u8 (y : Int))
        rw [hW10] at hset
        refine ⟨fun x hx => by obtain ⟨z, _, rfl⟩ := List.mem_map.1 hx; rfl, .inr ⟨g, 0, c9, by rw [List.length_map], by rw [List.length_map, List.length_set]; exact hnc, hcm, (Array.getElem?_eq_some_iff.1 hset).1, fun j u hu => ?_⟩⟩
        have hf : ∀ l : List Int, (l.map fun z => [Value.int .u8 z]).flatten = l.map (Value.int .u8) := by
          intro l
          induction l with
          | nil => rfl
          | cons z l ih => rw [List.map_cons, List.flatten_cons, ih]; rfl
        rw [hf] at hu
        have hj : j < bs.length := by have := (List.getElem?_eq_some_iff.1 hu).1; simpa using this
        rw [Nat.zero_add]
        refine cell_block hset ?_
        by_cases hjk : j = k
        · subst hjk
          rw [Array.getElem?_setIfInBounds_self_of_lt (by omega)]
          rw [List.getElem?_map, List.getElem?_set_self hj] at hu
          exact hu
        · rw [Array.getElem?_setIfInBounds_ne (fun e => hjk e.symm)]
          rw [List.getElem?_map, List.getElem?_set_ne (fun e => hjk e.symm), ← List.getElem?_map] at hu
          exact hcur j u hj hu
      have hdif := chainP_differs hPt hz z0 z1 (show (0 : Int) ≤ (y : Int) by omega) (by omega) (by omega)
      rw [HQ.out] at hdif
      have hPt2 := chainP_pt hPt (bs.set k (y : Int))
      have hc10 := chain_one W10 (some ⟨g, 0, none⟩) c9 (bs.set k (y : Int)) x1 y1 P HX1.out.1 HX1.out.2 hPt hb10 (by rw [List.length_set]; omega)
        (by intro z hz; rcases List.mem_or_eq_of_mem_set hz with hz | rfl; exact HBB.out z hz; omega)
      rw [List.length_set] at hc10
      generalize chainP P (bs.set k (y : Int)) = R at *
      obtain ⟨b1, hb1⟩ : ∃ b1, decide (R.1 = Q.1) = b1 := ⟨_, rfl⟩
      obtain ⟨b2, hb2⟩ : ∃ b2, decide (R.2 = Q.2) = b2 := ⟨_, rfl⟩
      have hbf : (b1 && b2) = false := by
        rw [← hb1, ← hb2, ← Bool.decide_and]
        exact decide_eq_false fun h => hdif (Prod.ext h.1 h.2)
      have hszW : W10.heap.size = w9.heap.size := by rw [← hW10]; simp [World.setCell]
      rw [hszW] at hc10
      have HC10 := Lib.hid hc10
      have G10 := Lib.hid (G8.out.trans hg10)
      have HB1 := Lib.hid hb1
      have HB2 := Lib.hid hb2
      have HW10 := Lib.hid hW10
      clear hc10 hg10 hb10 hdif hb1 hb2 hg9 hown9 hgrow9 hh ht hsz hcur hck hz hW10 hszW hga hy z0 z1
      go_wp2_with fail
      rw [HW10.out]
      refine HC10.out.mono ?_
      rintro e w11 ⟨xa, ya, rfl, hxa, hya, hg11⟩
      have o7 := eq_W hxa HX2.out.1 (by have := hPt2.1; have := hPt2.2.1; omega) (by have := hQt.1; have := hQt.2.1; omega)
      have o8 := eq_W hya HX2.out.2 (by have := hPt2.2.2.1; have := hPt2.2.2.2; omega) (by have := hQt.2.2.1; have := hQt.2.2.2; omega)
      rw [HB1.out] at o7
      rw [HB2.out] at o8
      have G11 := Lib.hid (G10.out.trans hg11)
      clear hxa hya hg11 HC10
      go_wp2_with fail
      refine (HWK.out _).mono ?_
      rintro e w12 ⟨rfl, hg12⟩
      go_wp2
      go_ret
      exact ⟨rfl, G11.out.trans hg12⟩
end Go.Proofs.Ytofnoillkfagiaa
