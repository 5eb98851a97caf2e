/-
  The law of order, walked.
  Conditions: none beyond those typed at each theorem.
-/
import Derived.Test.YtkhkjcoejkgfeaaDoorSi
namespace Go.Proofs.YtkhkjcoejkgfeaaDoor
open Go Go.RowKit
attribute [local go_sem ↓] eql23 neq23

theorem ids_none {W : World} {S : Nat → Prop} {n c : Nat} {xs : List Idn} (h : IsIds S W (.slice none n c) xs) : xs = [] := by
  rcases h.2 with ⟨_, h0⟩ | ⟨b, off, cap, hv, _⟩
  · simpa using h0
  · simp at hv
theorem ids_news {W : World} {S : Nat → Prop} {ad : Addr} {n c : Nat} {xs : List Idn} (h : IsIds S W (.slice (some ad) n c) xs) : ∀ j u, (xs.map idCells).flatten[j]? = some u → W.cell? (ad.add j) = some u := by
  rcases h.2 with ⟨_, h0⟩ | ⟨b, off, cap, hv, _, _, _, h4⟩
  · intro j u hu; rw [h0] at hu; simp at hu
  · simp only [Value.slice.injEq, Option.some.injEq] at hv
    obtain ⟨rfl, _, _⟩ := hv
    exact add_cells h4

set_option maxRecDepth 100000 in
set_option maxHeartbeats 16000000 in
theorem orderlaw_any (w : World) (hT : Tab w) (x y z : Idn) (v : Value) (xs : List Idn) (hx : IsIds (· < w.heap.size) w v xs) :
    Calls Tryd.prog 6 #[idV x, idV y, idV z, v] w fun e w' => e = .returned (.bool true) ∧ Gr w w' := by
  obtain ⟨sa, sc, rfl, hx1, hx2⟩ := hx.len
  by_cases hm : 40 < (xs.length : Int)
  · exact order_great w hT x y z sa _ sc hm
  obtain ⟨W1, hW1⟩ : ∃ W1, ((w.alloc (.cells #[.int .u8 x.kind, .int .i64 x.seq, .int .i64 x.fmt] 23)).alloc (.cells #[.int .u8 y.kind, .int .i64 y.seq, .int .i64 y.fmt] 23)).alloc (.cells #[.int .u8 z.kind, .int .i64 z.seq, .int .i64 z.fmt] 23) = W1 := ⟨_, rfl⟩
  have g1 : Gr w W1 := by rw [← hW1]; exact ((Gr.alloc (Gr.refl w) _).alloc _).alloc _
  have hB0 : W1.heap[w.heap.size]? = some (.cells #[.int .u8 x.kind, .int .i64 x.seq, .int .i64 x.fmt] 23 (0, 0)) := by rw [← hW1]; exact alloc3_heap0 _ _ _ _
  have hB1 : W1.heap[w.heap.size + 1]? = some (.cells #[.int .u8 y.kind, .int .i64 y.seq, .int .i64 y.fmt] 23 (0, 0)) := by rw [← hW1]; exact alloc3_heap1 _ _ _ _
  have hB2 : W1.heap[w.heap.size + 1 + 1]? = some (.cells #[.int .u8 z.kind, .int .i64 z.seq, .int .i64 z.fmt] 23 (0, 0)) := by rw [← hW1]; exact alloc3_heap2 _ _ _ _
  have hC : ∀ X, Gr W1 X → X.cell? ⟨w.heap.size, 0, none⟩ = some (.int .u8 x.kind) ∧ X.cell? ⟨w.heap.size, 1, none⟩ = some (.int .i64 x.seq) ∧ X.cell? ⟨w.heap.size, 2, none⟩ = some (.int .i64 x.fmt) ∧ X.cell? ⟨w.heap.size + 1, 0, none⟩ = some (.int .u8 y.kind) ∧ X.cell? ⟨w.heap.size + 1, 1, none⟩ = some (.int .i64 y.seq) ∧ X.cell? ⟨w.heap.size + 1, 2, none⟩ = some (.int .i64 y.fmt) ∧ X.cell? ⟨w.heap.size + 1 + 1, 0, none⟩ = some (.int .u8 z.kind) ∧ X.cell? ⟨w.heap.size + 1 + 1, 1, none⟩ = some (.int .i64 z.seq) ∧ X.cell? ⟨w.heap.size + 1 + 1, 2, none⟩ = some (.int .i64 z.fmt) := fun X hg =>
    ⟨cell_block (hg.same hB0) rfl, cell_block (hg.same hB0) rfl, cell_block (hg.same hB0) rfl, cell_block (hg.same hB1) rfl, cell_block (hg.same hB1) rfl, cell_block (hg.same hB1) rfl, cell_block (hg.same hB2) rfl, cell_block (hg.same hB2) rfl, cell_block (hg.same hB2) rfl⟩
  have HX := Lib.hid (show ∀ X, Gr W1 X → IsIds (· < w.heap.size) X (.slice sa xs.length sc) xs from fun X hg => hx.gr (g1.trans hg))
  have HT := Lib.hid (show ∀ X, Gr W1 X → Tab X from fun X hg => hT.gr (g1.trans hg))
  have HG1 := Lib.hid g1
  have HC := Lib.hid hC
  have HW1 := Lib.hid hW1
  clear hx hT g1 hB0 hB1 hB2 hC hW1 hx1 hx2
  go_enter Tryd.func6, Tryd.ntmps6
  go_upto_region 3 with fail
  rw [HW1.out]
  go_cut [63] (fun v wx => v = .bool false ∧ Gr W1 wx)
  case first =>
    obtain ⟨a0, a1, a2, b0, b1, b2, c0, c1, c2⟩ := HC.out _ (Gr.refl W1)
    have G0 := Lib.hid (Gr.refl W1)
    by_cases hxy : ordI x y < 0
    · have eb : eqB x.kind x.seq x.fmt y.kind y.seq y.fmt = false := by rw [eqB_iff]; exact decide_eq_false (ordI_ne hxy)
      have Lxx := Lib.hid (less_is x x false (decide_eq_false (ordI_irr x)))
      have Lxy := Lib.hid (less_is x y true (decide_eq_true hxy))
      have Lyx := Lib.hid (less_is y x false (decide_eq_false (ordI_asym hxy)))
      by_cases hyz : ordI y z < 0
      · have Lyz := Lib.hid (less_is y z true (decide_eq_true hyz))
        have Lxz := Lib.hid (less_is x z true (decide_eq_true (ordI_tr hxy hyz)))
        clear hxy hyz
        go_wp2_with fail
        refine (Lxx.out _).mono ?_
        rintro e w1 ⟨rfl, g⟩
        have G1 := Lib.hid (G0.out.trans g)
        clear g a0 a1 a2 b0 b1 b2 c0 c1 c2
        obtain ⟨a0, a1, a2, b0, b1, b2, c0, c1, c2⟩ := HC.out _ G1.out
        go_wp2_with fail
        refine (Lxy.out _).mono ?_
        rintro e w2 ⟨rfl, g⟩
        have G2 := Lib.hid (G1.out.trans g)
        clear g a0 a1 a2 b0 b1 b2 c0 c1 c2
        obtain ⟨a0, a1, a2, b0, b1, b2, c0, c1, c2⟩ := HC.out _ G2.out
        go_wp2_with fail
        refine (Lyx.out _).mono ?_
        rintro e w3 ⟨rfl, g⟩
        have G3 := Lib.hid (G2.out.trans g)
        clear g a0 a1 a2 b0 b1 b2 c0 c1 c2
        obtain ⟨a0, a1, a2, b0, b1, b2, c0, c1, c2⟩ := HC.out _ G3.out
        go_wp2_with fail
        refine (Lxy.out _).mono ?_
        rintro e w4 ⟨rfl, g⟩
        have G4 := Lib.hid (G3.out.trans g)
        clear g a0 a1 a2 b0 b1 b2 c0 c1 c2
        obtain ⟨a0, a1, a2, b0, b1, b2, c0, c1, c2⟩ := HC.out _ G4.out
        go_wp2_with fail
        refine (Lxy.out _).mono ?_
        rintro e w5 ⟨rfl, g⟩
        have G5 := Lib.hid (G4.out.trans g)
        clear g a0 a1 a2 b0 b1 b2 c0 c1 c2
        obtain ⟨a0, a1, a2, b0, b1, b2, c0, c1, c2⟩ := HC.out _ G5.out
        go_wp2_with fail
        refine (Lyz.out _).mono ?_
        rintro e w6 ⟨rfl, g⟩
        have G6 := Lib.hid (G5.out.trans g)
        clear g a0 a1 a2 b0 b1 b2 c0 c1 c2
        obtain ⟨a0, a1, a2, b0, b1, b2, c0, c1, c2⟩ := HC.out _ G6.out
        go_wp2_with fail
        refine (Lxz.out _).mono ?_
        rintro e w7 ⟨rfl, g⟩
        have G7 := Lib.hid (G6.out.trans g)
        clear g a0 a1 a2 b0 b1 b2 c0 c1 c2
        obtain ⟨a0, a1, a2, b0, b1, b2, c0, c1, c2⟩ := HC.out _ G7.out
        go_wp2
        go_meet
        exact ⟨rfl, G7.out⟩
      · have Lyz := Lib.hid (less_is y z false (decide_eq_false hyz))
        clear hxy hyz
        go_wp2_with fail
        refine (Lxx.out _).mono ?_
        rintro e w1 ⟨rfl, g⟩
        have G1 := Lib.hid (G0.out.trans g)
        clear g a0 a1 a2 b0 b1 b2 c0 c1 c2
        obtain ⟨a0, a1, a2, b0, b1, b2, c0, c1, c2⟩ := HC.out _ G1.out
        go_wp2_with fail
        refine (Lxy.out _).mono ?_
        rintro e w2 ⟨rfl, g⟩
        have G2 := Lib.hid (G1.out.trans g)
        clear g a0 a1 a2 b0 b1 b2 c0 c1 c2
        obtain ⟨a0, a1, a2, b0, b1, b2, c0, c1, c2⟩ := HC.out _ G2.out
        go_wp2_with fail
        refine (Lyx.out _).mono ?_
        rintro e w3 ⟨rfl, g⟩
        have G3 := Lib.hid (G2.out.trans g)
        clear g a0 a1 a2 b0 b1 b2 c0 c1 c2
        obtain ⟨a0, a1, a2, b0, b1, b2, c0, c1, c2⟩ := HC.out _ G3.out
        go_wp2_with fail
        refine (Lxy.out _).mono ?_
        rintro e w4 ⟨rfl, g⟩
        have G4 := Lib.hid (G3.out.trans g)
        clear g a0 a1 a2 b0 b1 b2 c0 c1 c2
        obtain ⟨a0, a1, a2, b0, b1, b2, c0, c1, c2⟩ := HC.out _ G4.out
        go_wp2_with fail
        refine (Lxy.out _).mono ?_
        rintro e w5 ⟨rfl, g⟩
        have G5 := Lib.hid (G4.out.trans g)
        clear g a0 a1 a2 b0 b1 b2 c0 c1 c2
        obtain ⟨a0, a1, a2, b0, b1, b2, c0, c1, c2⟩ := HC.out _ G5.out
        go_wp2_with fail
        refine (Lyz.out _).mono ?_
        rintro e w6 ⟨rfl, g⟩
        have G6 := Lib.hid (G5.out.trans g)
        clear g a0 a1 a2 b0 b1 b2 c0 c1 c2
        obtain ⟨a0, a1, a2, b0, b1, b2, c0, c1, c2⟩ := HC.out _ G6.out
        go_wp2
        go_meet
        exact ⟨rfl, G6.out⟩
    · by_cases hyx : ordI y x < 0
      · have eb : eqB x.kind x.seq x.fmt y.kind y.seq y.fmt = false := by rw [eqB_iff]; exact decide_eq_false (ordI_ne hyx).symm
        have Lxx := Lib.hid (less_is x x false (decide_eq_false (ordI_irr x)))
        have Lxy := Lib.hid (less_is x y false (decide_eq_false hxy))
        have Lyx := Lib.hid (less_is y x true (decide_eq_true hyx))
        clear hxy hyx
        go_wp2_with fail
        refine (Lxx.out _).mono ?_
        rintro e w1 ⟨rfl, g⟩
        have G1 := Lib.hid (G0.out.trans g)
        clear g a0 a1 a2 b0 b1 b2 c0 c1 c2
        obtain ⟨a0, a1, a2, b0, b1, b2, c0, c1, c2⟩ := HC.out _ G1.out
        go_wp2_with fail
        refine (Lxy.out _).mono ?_
        rintro e w2 ⟨rfl, g⟩
        have G2 := Lib.hid (G1.out.trans g)
        clear g a0 a1 a2 b0 b1 b2 c0 c1 c2
        obtain ⟨a0, a1, a2, b0, b1, b2, c0, c1, c2⟩ := HC.out _ G2.out
        go_wp2_with fail
        refine (Lxy.out _).mono ?_
        rintro e w3 ⟨rfl, g⟩
        have G3 := Lib.hid (G2.out.trans g)
        clear g a0 a1 a2 b0 b1 b2 c0 c1 c2
        obtain ⟨a0, a1, a2, b0, b1, b2, c0, c1, c2⟩ := HC.out _ G3.out
        go_wp2_with fail
        refine (Lyx.out _).mono ?_
        rintro e w4 ⟨rfl, g⟩
        have G4 := Lib.hid (G3.out.trans g)
        clear g a0 a1 a2 b0 b1 b2 c0 c1 c2
        obtain ⟨a0, a1, a2, b0, b1, b2, c0, c1, c2⟩ := HC.out _ G4.out
        go_wp2_with fail
        refine (Lxy.out _).mono ?_
        rintro e w5 ⟨rfl, g⟩
        have G5 := Lib.hid (G4.out.trans g)
        clear g a0 a1 a2 b0 b1 b2 c0 c1 c2
        obtain ⟨a0, a1, a2, b0, b1, b2, c0, c1, c2⟩ := HC.out _ G5.out
        go_wp2
        go_meet
        exact ⟨rfl, G5.out⟩
      · have eb : eqB x.kind x.seq x.fmt y.kind y.seq y.fmt = true := by rw [eqB_iff]; exact decide_eq_true (ordI_tri hxy hyx)
        have Lxx := Lib.hid (less_is x x false (decide_eq_false (ordI_irr x)))
        have Lxy := Lib.hid (less_is x y false (decide_eq_false hxy))
        clear hxy hyx
        go_wp2_with fail
        refine (Lxx.out _).mono ?_
        rintro e w1 ⟨rfl, g⟩
        have G1 := Lib.hid (G0.out.trans g)
        clear g a0 a1 a2 b0 b1 b2 c0 c1 c2
        obtain ⟨a0, a1, a2, b0, b1, b2, c0, c1, c2⟩ := HC.out _ G1.out
        go_wp2_with fail
        refine (Lxy.out _).mono ?_
        rintro e w2 ⟨rfl, g⟩
        have G2 := Lib.hid (G1.out.trans g)
        clear g a0 a1 a2 b0 b1 b2 c0 c1 c2
        obtain ⟨a0, a1, a2, b0, b1, b2, c0, c1, c2⟩ := HC.out _ G2.out
        go_wp2_with fail
        refine (Lxy.out _).mono ?_
        rintro e w3 ⟨rfl, g⟩
        have G3 := Lib.hid (G2.out.trans g)
        clear g a0 a1 a2 b0 b1 b2 c0 c1 c2
        obtain ⟨a0, a1, a2, b0, b1, b2, c0, c1, c2⟩ := HC.out _ G3.out
        go_wp2
        go_meet
        exact ⟨rfl, G3.out⟩
  case rest =>
  obtain ⟨rfl, hg2⟩ := hcut
  have HG2 := Lib.hid hg2
  clear hg2
  go_upto_region 5 with fail
  go_cut [9] (fun v wx => ∃ a c, v = .slice a xs.length c ∧ IsIds (fun _ => True) wx (.slice a xs.length c) xs ∧ Gr W1 wx)
  case first =>
    obtain ⟨i0, hi, hz0, hz1, hz2⟩ := info23_parts
    have hrow := World.ownsRow_made wc (#[] : Array Value) 0 (base := wc.heap.size) (e := 23) (size := 3) (Nat.le_refl _) (Nat.zero_le _) rfl
    cases sa with
    | none =>
      have hxs := ids_none (HX.out _ (Gr.refl W1))
      subst hxs
      go_wp2_with (at_builtin; refine wpList_append_none_c _ rfl _ _ 33 rfl wc.heap.size 23 i0 3 Tryd.underlying33 hi _ _ _ rfl hrow sc rfl ?_)
      go_wp2
      go_meet
      exact ⟨_, _, rfl, ⟨by simp, .inl ⟨⟨_, _, rfl, Nat.zero_le _⟩, rfl⟩⟩, HG2.out.alloc _⟩
    | some ad =>
      have n1 := ids_flat_length xs
      have n2 := ids_flat_one xs
      have n3 := ids_news (HX.out _ (HG2.out.alloc (.cells #[] 23)))
      obtain ⟨l, hl⟩ : ∃ l, (xs.map idCells).flatten = l := ⟨_, rfl⟩
      rw [hl] at n1 n2 n3
      have HN := Lib.hid (And.intro n1 (And.intro n2 (And.intro n3 hl)))
      clear n1 n2 n3 hl
      go_wp2_with (at_builtin; refine wpList_append_own_at _ rfl _ _ 33 rfl wc.heap.size 23 i0 _ 3 24 Tryd.underlying33 hi hz0 hz1 hz2 rfl (by decide) _ _ _ rfl hrow ad xs.length sc l rfl ?c0 ?c1 ?c2 ?c3 ?c4 ?c5 ?_)
      case c0 => exact HN.out.1
      case c1 => exact HN.out.2.2.1
      case c2 => exact HN.out.2.1
      case c3 => unfold maxLen; omega
      case c4 => omega
      intro v' w1 hown hgr _ _
      have hown2 : OwnIds wc.heap.size w1 v' xs := by unfold OwnIds; rw [HN.out.2.2.2]; simpa using hown
      have hi2 := hown2.is
      obtain ⟨a', c', rfl, _, _⟩ := hi2.len
      have HI := Lib.hid hi2
      have HGR := Lib.hid (Below.grown (HG2.out.alloc (.cells #[] 23)) hgr (by have := HG2.out.size; simp; omega) (by intro k hk; simp [Value.ownBlock] at hk; have := HG2.out.size; omega))
      clear hown hgr hown2 hi2
      go_wp2
      go_meet
      exact ⟨_, _, rfl, HI.out.mono (fun _ _ => trivial), HGR.out⟩
  case rest =>
  obtain ⟨ka, kc, rfl, hk, hg3⟩ := hcut
  have HK := Lib.hid hk
  have HG3 := Lib.hid hg3
  clear hk hg3 HG2
  go_wp2_with fail
  refine (sort_any _ _ _ xs (HX.out _ HG3.out) (by omega)).mono ?_
  rintro e w3 ⟨v', M, rfl, hM, hperm, hs, g3⟩
  obtain ⟨oa, oc, rfl, _, _⟩ := hM.len
  have hperm' := hperm.length_eq
  rw [hperm']
  rw [hperm'] at hM
  have HM := Lib.hid hM
  have HPM := Lib.hid hperm
  have HS := Lib.hid hs
  have HG4 := Lib.hid (HG3.out.trans g3)
  have HK4 := Lib.hid (HK.out.gr g3)
  clear hM hperm hs g3 HK
  go_wp2_with fail
  refine (idents_any _ _ _ _ _ xs xs (HX.out _ HG4.out) HK4.out (by omega) (by omega)).mono ?_
  rintro e w4 ⟨he, g4⟩
  rw [decide_eq_true (show xs = xs from rfl)] at he
  subst he
  have HM5 := Lib.hid (HM.out.gr g4)
  have HG5 := Lib.hid (HG4.out.trans g4)
  have hn40 : xs.length ≤ 40 := by omega
  have HML := Lib.hid hperm'
  clear g4 HM HK4 hm hperm'
  obtain ⟨n, hn⟩ : ∃ n, xs.length = n := ⟨_, rfl⟩
  rw [hn] at HM5 HX hn40 ⊢
  have HN := Lib.hid hn
  clear hn
  go_wp2
  go_loopw [11] (fun iv wr => ∃ i : Nat, iv = .int .i64 i ∧ i ≤ n ∧ Gr w4 wr) (fun iv _ => n - (intOf iv).toNat)
  case atStart => exact ⟨0, rfl, Nat.zero_le _, Gr.refl _⟩
  case round =>
    obtain ⟨i, rfl, hi, hgr⟩ := hrel
    by_cases hlt : i < n
    · obtain ⟨xi, hxi⟩ : ∃ t, xs[i]? = some t := ⟨_, List.getElem?_eq_getElem (by rw [HN.out]; exact hlt)⟩
      have hX4 := HX.out _ HG5.out
      rw [← HN.out] at hX4
      obtain ⟨b, o, c, hv, _, hrows⟩ := hX4.some (by rw [HN.out]; omega)
      have hM4 := HM5.out
      rw [← HN.out, ← HML.out] at hM4
      obtain ⟨b', o', c', hv', _, hrows'⟩ := hM4.some (by rw [HML.out, HN.out]; omega)
      simp only [Value.slice.injEq, true_and] at hv hv'
      obtain ⟨rfl, rfl⟩ := hv
      obtain ⟨rfl, rfl⟩ := hv'
      have HR := Lib.hid hrows
      have HR' := Lib.hid hrows'
      have HGR := Lib.hid hgr
      have HXI := Lib.hid hxi
      have HI := Lib.hid hi
      have hltz : (i : Int) < (n : Int) := by omega
      clear hrows hrows' hgr hxi hX4 hM4 hi
      go_wp2
      go_loopw [12, 13] (fun nv jv wr => ∃ (j : Nat) (t : Int), nv = .int .i64 t ∧ jv = .int .i64 j ∧ j ≤ n ∧ -(j : Int) ≤ t ∧ t ≤ j ∧ Hid (t = ((M.take j).count xi : Int) - ((xs.take j).count xi : Int)) ∧ Gr w4 wr) (fun _ jv _ => n - (intOf jv).toNat)
      case atStart => exact ⟨0, 0, rfl, rfl, Nat.zero_le _, by omega, by omega, Lib.hid (by simp), HGR.out⟩
      case round =>
        obtain ⟨j, t, rfl, rfl, hj, ht1, ht2, HTT, hgr⟩ := hrel
        by_cases hlt2 : j < n
        · obtain ⟨xj, hxj⟩ : ∃ t, xs[j]? = some t := ⟨_, List.getElem?_eq_getElem (by rw [HN.out]; exact hlt2)⟩
          obtain ⟨mj, hmj⟩ : ∃ t, M[j]? = some t := ⟨_, List.getElem?_eq_getElem (by rw [HML.out, HN.out]; exact hlt2)⟩
          have r1 := later_range hgr (HR.out i xi HXI.out)
          have r2 := later_range hgr (HR.out j xj hxj)
          have r3 := later_range hgr (HR'.out j mj hmj)
          have x0 : wr.cell? ⟨b, o + i * 3, none⟩ = some (.int .u8 xi.kind) := r1 0 _ rfl
          have x1 : wr.cell? ⟨b, o + i * 3 + 1, none⟩ = some (.int .i64 xi.seq) := r1 1 _ rfl
          have x2 : wr.cell? ⟨b, o + i * 3 + 2, none⟩ = some (.int .i64 xi.fmt) := r1 2 _ rfl
          have y0 : wr.cell? ⟨b, o + j * 3, none⟩ = some (.int .u8 xj.kind) := r2 0 _ rfl
          have y1 : wr.cell? ⟨b, o + j * 3 + 1, none⟩ = some (.int .i64 xj.seq) := r2 1 _ rfl
          have y2 : wr.cell? ⟨b, o + j * 3 + 2, none⟩ = some (.int .i64 xj.fmt) := r2 2 _ rfl
          have m0 : wr.cell? ⟨b', o' + j * 3, none⟩ = some (.int .u8 mj.kind) := r3 0 _ rfl
          have m1 : wr.cell? ⟨b', o' + j * 3 + 1, none⟩ = some (.int .i64 mj.seq) := r3 1 _ rfl
          have m2 : wr.cell? ⟨b', o' + j * 3 + 2, none⟩ = some (.int .i64 mj.fmt) := r3 2 _ rfl
          have tk1 : xs.take (j + 1) = xs.take j ++ [xj] := by rw [List.take_add_one, hxj]; rfl
          have tk2 : M.take (j + 1) = M.take j ++ [mj] := by rw [List.take_add_one, hmj]; rfl
          have hltz2 : (j : Int) < (n : Int) := by omega
          have HTK := Lib.hid (And.intro tk1 tk2)
          clear r1 r2 r3 hxj hmj tk1 tk2
          by_cases e1 : mj = xi <;> by_cases e2 : xj = xi
          · have b1 : eqB mj.kind mj.seq mj.fmt xi.kind xi.seq xi.fmt = true := by rw [eqB_iff]; exact decide_eq_true e1
            have b2 : eqB xj.kind xj.seq xj.fmt xi.kind xi.seq xi.fmt = true := by rw [eqB_iff]; exact decide_eq_true e2
            have HE := Lib.hid (And.intro e1 e2)
            clear e1 e2
            go_wp2
            go_quiet (fail)
            go_wp2
            go_quiet (fail)
            go_wp2
            refine ⟨⟨j + 1, t, by first | rfl | go_num, by go_num, by omega, by omega, by omega, Lib.hid ?_, by first | exact (hgr.drewN _).drewN _ | exact hgr.drewN _⟩, by simp [intOf]; omega⟩
            obtain ⟨e1, e2⟩ := HE.out
            rw [HTK.out.1, HTK.out.2, List.count_append, List.count_append, e1, e2, HTT.out]
            simp; omega
          · have b1 : eqB mj.kind mj.seq mj.fmt xi.kind xi.seq xi.fmt = true := by rw [eqB_iff]; exact decide_eq_true e1
            have b2 : eqB xj.kind xj.seq xj.fmt xi.kind xi.seq xi.fmt = false := by rw [eqB_iff]; exact decide_eq_false e2
            have HE := Lib.hid (And.intro e1 e2)
            clear e1 e2
            go_wp2
            go_quiet (fail)
            go_wp2
            go_quiet (fail)
            go_wp2
            refine ⟨⟨j + 1, t + 1, by first | rfl | go_num, by go_num, by omega, by omega, by omega, Lib.hid ?_, by first | exact (hgr.drewN _).drewN _ | exact hgr.drewN _⟩, by simp [intOf]; omega⟩
            obtain ⟨e1, e2⟩ := HE.out
            rw [HTK.out.1, HTK.out.2, List.count_append, List.count_append, e1, HTT.out]
            simp [e2]; omega
          · have b1 : eqB mj.kind mj.seq mj.fmt xi.kind xi.seq xi.fmt = false := by rw [eqB_iff]; exact decide_eq_false e1
            have b2 : eqB xj.kind xj.seq xj.fmt xi.kind xi.seq xi.fmt = true := by rw [eqB_iff]; exact decide_eq_true e2
            have HE := Lib.hid (And.intro e1 e2)
            clear e1 e2
            go_wp2
            go_quiet (fail)
            go_wp2
            go_quiet (fail)
            go_wp2
            refine ⟨⟨j + 1, t - 1, by first | rfl | go_num, by go_num, by omega, by omega, by omega, Lib.hid ?_, by first | exact (hgr.drewN _).drewN _ | exact hgr.drewN _⟩, by simp [intOf]; omega⟩
            obtain ⟨e1, e2⟩ := HE.out
            rw [HTK.out.1, HTK.out.2, List.count_append, List.count_append, e2, HTT.out]
            simp [e1]; omega
          · have b1 : eqB mj.kind mj.seq mj.fmt xi.kind xi.seq xi.fmt = false := by rw [eqB_iff]; exact decide_eq_false e1
            have b2 : eqB xj.kind xj.seq xj.fmt xi.kind xi.seq xi.fmt = false := by rw [eqB_iff]; exact decide_eq_false e2
            have HE := Lib.hid (And.intro e1 e2)
            clear e1 e2
            go_wp2
            go_quiet (fail)
            go_wp2
            go_quiet (fail)
            go_wp2
            refine ⟨⟨j + 1, t, by first | rfl | go_num, by go_num, by omega, by omega, by omega, Lib.hid ?_, by first | exact (hgr.drewN _).drewN _ | exact hgr.drewN _⟩, by simp [intOf]; omega⟩
            obtain ⟨e1, e2⟩ := HE.out
            rw [HTK.out.1, HTK.out.2, List.count_append, List.count_append, HTT.out]
            simp [e1, e2]
        · have hjn : j = n := by omega
          subst hjn
          have ht0 : t = 0 := by
            rw [HTT.out, List.take_of_length_le (by rw [HML.out, HN.out]; omega), List.take_of_length_le (by rw [HN.out]; omega), HPM.out.count_eq]
            omega
          subst ht0
          clear HTT ht1 ht2 hj
          have HGR2 := Lib.hid hgr
          by_cases hi0 : 0 < i
          · obtain ⟨ip, hip⟩ : ∃ ip, i - 1 = ip := ⟨_, rfl⟩
            have k1 : ip + 1 ≤ i := by omega
            have k2 : i ≤ ip + 1 := by omega
            obtain ⟨p, hp⟩ : ∃ t, M[ip]? = some t := ⟨_, List.getElem?_eq_getElem (by rw [HML.out, HN.out]; omega)⟩
            obtain ⟨q, hq⟩ : ∃ t, M[i]? = some t := ⟨_, List.getElem?_eq_getElem (by rw [HML.out, HN.out]; omega)⟩
            have r1 := later_range hgr (HR'.out ip p hp)
            have r2 := later_range hgr (HR'.out i q hq)
            have x0 : wr.cell? ⟨b', o' + ip * 3, none⟩ = some (.int .u8 p.kind) := r1 0 _ rfl
            have x1 : wr.cell? ⟨b', o' + ip * 3 + 1, none⟩ = some (.int .i64 p.seq) := r1 1 _ rfl
            have x2 : wr.cell? ⟨b', o' + ip * 3 + 2, none⟩ = some (.int .i64 p.fmt) := r1 2 _ rfl
            have y0 : wr.cell? ⟨b', o' + i * 3, none⟩ = some (.int .u8 q.kind) := r2 0 _ rfl
            have y1 : wr.cell? ⟨b', o' + i * 3 + 1, none⟩ = some (.int .i64 q.seq) := r2 1 _ rfl
            have y2 : wr.cell? ⟨b', o' + i * 3 + 2, none⟩ = some (.int .i64 q.fmt) := r2 2 _ rfl
            have hle : Le p q := srt_at HS.out (by omega) hp hq
            have HL := Lib.hid (less_is q p false (decide_eq_false hle))
            have w1 : IntKind.i64.wrap ((i : Int) - 1) = (ip : Int) := by rw [IntKind.wrap_i64]; omega
            have i0 : (i : Int) > 0 := by omega
            have i0' : (0 : Int) < (i : Int) := by omega
            have q0 : (0 : Int) ≤ (ip : Int) := by omega
            have q1 : (ip : Int) < (j : Int) := by omega
            have q2 : (0 : Int) ≤ (i : Int) := by omega
            have hz : ((0 : Int) != 0) = false := rfl
            have HK0 := Lib.hid (show Gr wr wr.drew ∧ wr.drew.cell? ⟨b', o' + ip * 3, none⟩ = some (.int .u8 p.kind) ∧ wr.drew.cell? ⟨b', o' + ip * 3 + 1, none⟩ = some (.int .i64 p.seq) ∧ wr.drew.cell? ⟨b', o' + ip * 3 + 2, none⟩ = some (.int .i64 p.fmt) ∧ wr.drew.cell? ⟨b', o' + i * 3, none⟩ = some (.int .u8 q.kind) ∧ wr.drew.cell? ⟨b', o' + i * 3 + 1, none⟩ = some (.int .i64 q.seq) ∧ wr.drew.cell? ⟨b', o' + i * 3 + 2, none⟩ = some (.int .i64 q.fmt) from ⟨(Gr.refl wr).drew, x0, x1, x2, y0, y1, y2⟩)
            have HKK := Lib.hid (show ∀ X Y, (Gr wr X ∧ X.cell? ⟨b', o' + ip * 3, none⟩ = some (.int .u8 p.kind) ∧ X.cell? ⟨b', o' + ip * 3 + 1, none⟩ = some (.int .i64 p.seq) ∧ X.cell? ⟨b', o' + ip * 3 + 2, none⟩ = some (.int .i64 p.fmt) ∧ X.cell? ⟨b', o' + i * 3, none⟩ = some (.int .u8 q.kind) ∧ X.cell? ⟨b', o' + i * 3 + 1, none⟩ = some (.int .i64 q.seq) ∧ X.cell? ⟨b', o' + i * 3 + 2, none⟩ = some (.int .i64 q.fmt)) → Gr X Y → (Gr wr Y ∧ Y.cell? ⟨b', o' + ip * 3, none⟩ = some (.int .u8 p.kind) ∧ Y.cell? ⟨b', o' + ip * 3 + 1, none⟩ = some (.int .i64 p.seq) ∧ Y.cell? ⟨b', o' + ip * 3 + 2, none⟩ = some (.int .i64 p.fmt) ∧ Y.cell? ⟨b', o' + i * 3, none⟩ = some (.int .u8 q.kind) ∧ Y.cell? ⟨b', o' + i * 3 + 1, none⟩ = some (.int .i64 q.seq) ∧ Y.cell? ⟨b', o' + i * 3 + 2, none⟩ = some (.int .i64 q.fmt)) from
              fun X Y h hg => ⟨h.1.trans hg, later_cell hg h.2.1, later_cell hg h.2.2.1, later_cell hg h.2.2.2.1, later_cell hg h.2.2.2.2.1, later_cell hg h.2.2.2.2.2.1, later_cell hg h.2.2.2.2.2.2⟩)
            clear r1 r2 hp hq hle hgr hip
            go_wp2
            go_region_held3 (fun X => Gr wr X ∧ X.cell? ⟨b', o' + ip * 3, none⟩ = some (.int .u8 p.kind) ∧ X.cell? ⟨b', o' + ip * 3 + 1, none⟩ = some (.int .i64 p.seq) ∧ X.cell? ⟨b', o' + ip * 3 + 2, none⟩ = some (.int .i64 p.fmt) ∧ X.cell? ⟨b', o' + i * 3, none⟩ = some (.int .u8 q.kind) ∧ X.cell? ⟨b', o' + i * 3 + 1, none⟩ = some (.int .i64 q.seq) ∧ X.cell? ⟨b', o' + i * 3 + 2, none⟩ = some (.int .i64 q.fmt))
              (first | exact HK0.out | exact HKK.out _ _ (by assumption) (by assumption) | exact HKK.out _ _ (by assumption) (Gr.refl _))
              (first | (go_at_call 14; refine (HL.out _).mono ?_; rintro e y1 ⟨rfl, hgy1⟩))
            all_goals
              have hheld := (by assumption : Gr wr y1 ∧ _)
              have HY := Lib.hid (HGR2.out.trans hheld.1)
              clear hheld hgy1
              go_wp2
              exact ⟨⟨i + 1, by go_num, by omega, HY.out⟩, by simp [intOf]; omega⟩
          · have hi00 : i = 0 := by omega
            subst hi00
            go_wp2
            go_quiet (fail)
            go_wp2
            exact ⟨⟨1, by go_num, by omega, HGR2.out.drewN _⟩, by simp [intOf]; omega⟩
    · have hin : i = n := by omega
      subst hin
      have HGR := Lib.hid (HG5.out.trans hgr)
      clear hgr
      obtain ⟨a0, a1, a2, b0, b1, b2, c0, c1, c2⟩ := HC.out _ HGR.out
      have HWK := Lib.hid (fun X (h : Gr W1 X) => wakes_any (HT.out X h))
      by_cases hseq : x.seq ≥ y.seq
      · have hs2 : y.seq ≤ x.seq := hseq
        go_wp2_with fail
        refine (HWK.out _ HGR.out).mono ?_
        rintro e w5 ⟨rfl, g5⟩
        have HG6 := Lib.hid (HG1.out.trans (HGR.out.trans g5))
        clear g5
        go_wp2
        go_ret
        exact ⟨rfl, HG6.out⟩
      · have hs2 : ¬ y.seq ≤ x.seq := hseq
        have HLL := Lib.hid (less_is x y true (decide_eq_true (by rw [ordI_lt]; omega)))
        go_wp2_with fail
        refine (HLL.out _).mono ?_
        rintro e w5 ⟨rfl, g5⟩
        have HG6 := Lib.hid (HGR.out.trans g5)
        clear g5
        go_wp2_with fail
        refine (HWK.out _ HG6.out).mono ?_
        rintro e w6 ⟨rfl, g6⟩
        have HG7 := Lib.hid (HG1.out.trans (HG6.out.trans g6))
        clear g6
        go_wp2
        go_ret
        exact ⟨rfl, HG7.out⟩
end Go.Proofs.YtkhkjcoejkgfeaaDoor
