/-
  Walks: the law of points told.
-/
import Derived.Test.YtofnoillkfagiaaFv
namespace Go.Proofs.Ytofnoillkfagiaa
open Go Go.RowKit

attribute [local go_sem ↓] eql23
theorem IsParts.up {A B : World} (h : Gr A B) {v : Value} {pss : List (List Int)} (hp : IsParts (· < A.heap.size) A v pss) : IsParts (· < B.heap.size) B v pss := by
  obtain ⟨pvs, p1, p2, p3⟩ := hp
  have hz := h.size
  exact ⟨pvs, p1, (p2.gr h).mono fun b hb => Nat.lt_of_lt_of_le hb hz, fun i ps pv ha hb => (SL.gr h (p3 i ps pv ha hb)).mono fun b hb => Nat.lt_of_lt_of_le hb hz⟩
theorem chain_part (w : World) (x y : Nat) {o u : Option Nat} (hx : PartIs x o) (hy : PartIs y u) (v : Value) (pss : List (List Int)) (hp : IsParts (· < w.heap.size) w v pss)
    (hl : pss.length ≤ 1000) (hps : ∀ ps ∈ pss, ps.length ≤ 1000) (hby : ∀ c ∈ pss.flatten, 0 ≤ c ∧ c ≤ 255) :
    Calls Try.prog 15 #[.complex .f64 x y, v] w fun e w' => ∃ p q, e = .returned (.complex .f64 p q) ∧ W p (chainP (startZ o u) pss.flatten).1 ∧ W q (chainP (startZ o u) pss.flatten).2 ∧ Gr w w' := by
  rcases startZ_or hx hy with ⟨_, h1, h2, h3⟩ | ⟨h0, h1⟩
  · exact chain_any w x y _ h1 h2 h3 v pss hp hl hps hby
  · rw [h1]; exact chain_bad w x y hx hy h0 v pss hp hl hps hby
theorem dchain_part (w : World) (x y : Nat) {o u : Option Nat} (hx : PartIs x o) (hy : PartIs y u) (v : Value) (pss : List (List Int)) (hp : IsParts (· < w.heap.size) w v pss)
    (hl : pss.length ≤ 1000) (hps : ∀ ps ∈ pss, ps.length ≤ 1000) (hby : ∀ c ∈ pss.flatten, 0 ≤ c ∧ c ≤ 255) :
    Calls Try.prog 16 #[.complex .f64 x y, v] w fun e w' => ∃ p q, e = .returned (.complex .f64 p q) ∧ W p (chainP (startZ o u) pss.flatten).1 ∧ W q (chainP (startZ o u) pss.flatten).2 ∧ w' = w := by
  have HR := Lib.hid (fun w => dright_part hx hy w)
  rcases startZ_or hx hy with ⟨h0, h1, h2, h3⟩ | ⟨h0, h1⟩
  · rw [h0] at HR
    exact dchain_loop w x y x y _ true HR (fun _ => ⟨rfl, rfl⟩) (fun h => by cases h) h1 h2 h3 v pss hp hl hps hby
  · rw [h0] at HR
    rw [h1]
    exact dchain_loop w x y 0 0 _ false HR (fun h => by cases h) (fun _ => ⟨rfl, rfl⟩) W_0 W_0 ⟨by decide, by decide, by decide, by decide⟩ v pss hp hl hps hby
theorem same_W {p q : Nat} {z : Int} (h : W p z) (g : W q z) (h0 : 0 ≤ z) (h1 : z ≤ 10006) : (FloatKind.f64.format.order p q == some .eq) = true := by
  rw [eq_W h g (by omega) (by omega), decide_eq_true rfl]
theorem ofV_is (a b : Nat) : ∃ (px py : Nat) (e : Int), ofV a b = .tuple #[.complex .f64 px py, .int .i64 e] ∧ (FloatKind.f64.format.order px px == some .eq) = true ∧ (FloatKind.f64.format.order py py == some .eq) = true := by
  by_cases h : a ≤ 10006 ∧ b ≤ 10006
  · exact ⟨_, _, _, if_pos h, same_W (W.of _) (W.of _) (by omega) (by omega), same_W (W.of _) (W.of _) (by omega) (by omega)⟩
  · exact ⟨_, _, _, if_neg h, same_W W_0 W_0 (by decide) (by decide), same_W W_0 W_0 (by decide) (by decide)⟩

set_option maxRecDepth 100000 in
set_option maxHeartbeats 1000000 in
theorem gaussTells_law (w : World) (x y : Nat) (hx : x < 18446744073709551616) (hy : y < 18446744073709551616) (c : Int) (hc0 : 0 ≤ c) (hc1 : c ≤ 255) (p q r s : Nat) (hp : p < 256) (hq : q < 256) (hr : r < 256) (hs : s < 256)
    (v : Value) (pss : List (List Int)) (hv : IsParts (· < w.heap.size) w v pss) (hby : ∀ ps ∈ pss, ∀ c ∈ ps, 0 ≤ c ∧ c ≤ 255) :
    Calls Try.prog 3 #[.float .f64 x, .float .f64 y, .int .u8 c, .agg #[.int .u8 p, .int .u8 q, .int .u8 r, .int .u8 s], v] w fun e w' => e = .returned (.bool true) ∧ Gr w w' := by
  obtain ⟨va, vc, rfl, _, _⟩ := hv.len
  obtain ⟨W1, hW1⟩ : ∃ W1, w.alloc (.cells #[.int .u8 p, .int .u8 q, .int .u8 r, .int .u8 s] 23) = W1 := ⟨_, rfl⟩
  have g1 : Gr w W1 := by rw [← hW1]; exact Gr.alloc (Gr.refl _) _
  have hB : W1.heap[w.heap.size]? = some (.cells #[.int .u8 p, .int .u8 q, .int .u8 r, .int .u8 s] 23 (0, 0)) := by rw [← hW1]; exact alloc1_heap _ _
  obtain ⟨o, po⟩ := partIs x hx
  obtain ⟨u, pu⟩ := partIs y hy
  obtain ⟨px, py, er, hof, of1, of2⟩ := ofV_is (p * 256 + q) (r * 256 + s)
  have HOF := Lib.hid (fun X => of_any X p q r s hp hq hr hs)
  have HDOF := Lib.hid (fun X => dof_any X p q r s hp hq hr hs)
  rw [hof] at HOF HDOF
  have HWK := Lib.hid (fun W => wakes_any W)
  have HV := Lib.hid hv
  have HB := Lib.hid hB
  have HG1 := Lib.hid g1
  have HW1 := Lib.hid hW1
  have HBY := Lib.hid hby
  have HR1 := Lib.hid (fun X => right_part po pu X)
  have HR2 := Lib.hid (fun X => dright_part po pu X)
  have HN1 := Lib.hid (fun X => next_part po pu hc0 hc1 X)
  have HN2 := Lib.hid (fun X => dnext_part po pu hc0 hc1 X)
  have HP1 := Lib.hid (fun X => pbytes_part po pu X)
  have HP2 := Lib.hid (fun X => dbytes_part po pu X)
  have HC1 := Lib.hid (fun X => chain_part X x y po pu)
  have HC2 := Lib.hid (fun X => dchain_part X x y po pu)
  have HNP := Lib.hid (nextZ_pt o u c)
  have HSP : Hid (Pt (startZ o u)) := by
    rcases startZ_or po pu with ⟨_, _, _, h⟩ | ⟨_, h⟩
    · exact Lib.hid h
    · rw [h]; exact Lib.hid ⟨by decide, by decide, by decide, by decide⟩
  clear g1 hB hW1 hv hby po pu hof hx hy hp hq hr hs hc0 hc1
  by_cases hbad : 20 < pss.length
  · go_enter Try.func3, Try.ntmps3
    go_wp2_with fail
    rw [HW1.out]
    refine (HWK.out _).mono ?_
    rintro e w2 ⟨rfl, hg2⟩
    go_wp2
    go_ret
    exact ⟨rfl, HG1.out.trans hg2⟩
  · go_enter Try.func3, Try.ntmps3
    go_wp2_with fail
    rw [HW1.out]
    go_loopw [11] (fun iv wr => ∃ i : Nat, iv = .int .i64 i ∧ i ≤ pss.length ∧ (∀ j < i, ∀ ps, pss[j]? = some ps → ps.length ≤ 200) ∧ W1 = wr) (fun iv _ => pss.length - (intOf iv).toNat)
    case atStart => exact ⟨0, rfl, Nat.zero_le _, fun j hj => absurd hj (Nat.not_lt_zero _), rfl⟩
    case round =>
      obtain ⟨i, rfl, hi, hsm, rfl⟩ := hrel
      have HSM := Lib.hid hsm
      clear hsm
      by_cases hlt : i < pss.length
      · obtain ⟨ps, hp⟩ : ∃ ps, pss[i]? = some ps := ⟨_, List.getElem?_eq_getElem hlt⟩
        obtain ⟨b, o, c', hv, hSb, hrows⟩ := (HV.out.up HG1.out).some (by omega)
        simp only [Value.slice.injEq, true_and] at hv
        obtain ⟨rfl, rfl⟩ := hv
        obtain ⟨pa, pc, hc, hbs⟩ := hrows i ps hp
        have HPP := Lib.hid hp
        clear hrows hp hbs
        by_cases hb2 : 200 < ps.length
        · go_wp2_with fail
          refine (HWK.out _).mono ?_
          rintro e w2 ⟨rfl, hg2⟩
          go_wp2
          go_ret
          exact ⟨rfl, HG1.out.trans hg2⟩
        · go_wp2
          refine ⟨⟨i + 1, by go_num, by omega, fun j hj ps' hp' => ?_, trivial⟩, by simp [intOf]; omega⟩
          by_cases hji : j < i
          · exact HSM.out j hji ps' hp'
          · obtain rfl : j = i := by omega
            rw [HPP.out] at hp'
            cases hp'
            omega
      · obtain rfl : i = pss.length := by omega
        have hall : ∀ ps ∈ pss, ps.length ≤ 1000 := by
          intro ps hps
          obtain ⟨j, hj, hj2⟩ := List.getElem_of_mem hps
          have := HSM.out j hj ps (by rw [List.getElem?_eq_getElem hj, hj2])
          omega
        have hfl : ∀ c ∈ pss.flatten, 0 ≤ c ∧ c ≤ 255 := by
          intro c hc
          obtain ⟨ps, h1, h2⟩ := List.mem_flatten.1 hc
          exact HBY.out ps h1 c h2
        have HX1 := Lib.hid (fun (X : World) (hg : Gr w X) => HC1.out X _ pss (HV.out.up hg) (by omega) hall hfl)
        have HX2 := Lib.hid (fun (X : World) (hg : Gr w X) => HC2.out X _ pss (HV.out.up hg) (by omega) hall hfl)
        clear hall hfl
        have c0 := cell_block HB.out (j := 0) (v := .int .u8 p) rfl
        have c1 := cell_block HB.out (j := 1) (v := .int .u8 q) rfl
        have c2 := cell_block HB.out (j := 2) (v := .int .u8 r) rfl
        have c3 := cell_block HB.out (j := 3) (v := .int .u8 s) rfl
        go_wp2_with fail
        refine (HOF.out _).mono ?_
        rintro e w2 ⟨rfl, hg2⟩
        have hb2 := hg2.same HB.out
        have d0 := cell_block hb2 (j := 0) (v := .int .u8 p) rfl
        have d1 := cell_block hb2 (j := 1) (v := .int .u8 q) rfl
        have d2 := cell_block hb2 (j := 2) (v := .int .u8 r) rfl
        have d3 := cell_block hb2 (j := 3) (v := .int .u8 s) rfl
        have HG2 := Lib.hid (HG1.out.trans hg2)
        clear hg2 hb2 c0 c1 c2 c3
        go_wp2_with fail
        refine (HDOF.out _).mono ?_
        rintro e w3 ⟨rfl, hg3⟩
        have HG3 := Lib.hid (HG2.out.trans hg3)
        clear hg3 d0 d1 d2 d3
        go_wp2_with fail
        refine (HR1.out _).mono ?_
        rintro e w4 ⟨rfl, rfl⟩
        go_wp2_with fail
        refine (HR2.out _).mono ?_
        rintro e w5 ⟨rfl, rfl⟩
        go_wp2_with fail
        refine (HN1.out _).mono ?_
        rintro e w6 ⟨n1, n2, rfl, hn1, hn2, rfl⟩
        go_wp2_with fail
        refine (HN2.out _).mono ?_
        rintro e w7 ⟨m1, m2, rfl, hm1, hm2, rfl⟩
        obtain ⟨z1, z2, z3, z4⟩ := HNP.out
        have e1 := same_W hn1 hm1 z1 z2
        have e2 := same_W hn2 hm2 z3 z4
        clear hn1 hn2 hm1 hm2 z1 z2 z3 z4
        go_wp2_with fail
        refine (HX1.out _ HG3.out).mono ?_
        rintro e w8 ⟨k1, k2, rfl, hk1, hk2, hg8⟩
        have HG8 := Lib.hid (HG3.out.trans hg8)
        clear hg8
        go_wp2_with fail
        refine (HX2.out _ HG8.out).mono ?_
        rintro e w9 ⟨l1, l2, rfl, hl1, hl2, rfl⟩
        obtain ⟨z1, z2, z3, z4⟩ := chainP_pt HSP.out pss.flatten
        have e3 := same_W hk1 hl1 z1 z2
        have e4 := same_W hk2 hl2 z3 z4
        clear hk1 hk2 hl1 hl2 z1 z2 z3 z4
        go_wp2_with fail
        refine (HP1.out _).mono ?_
        rintro e w10 ⟨rfl, hg10⟩
        have HG10 := Lib.hid (HG8.out.trans hg10)
        clear hg10
        go_wp2_with fail
        refine (HP2.out _).mono ?_
        rintro e w11 ⟨rfl, hg11⟩
        have HG11 := Lib.hid (HG10.out.trans hg11)
        clear hg11
        unfold fourV
        go_wp2_with fail
        refine (HWK.out _).mono ?_
        rintro e w12 ⟨rfl, hg12⟩
        go_wp2
        go_ret
        exact ⟨rfl, HG11.out.trans hg12⟩
end Go.Proofs.Ytofnoillkfagiaa
