/-
  Walks: how far points are apart; the law of rows of one length.
-/
import Derived.Test.YtofnoillkfagiaaFk
import Derived.Laws.OwnMore
namespace Go.Proofs.Ytofnoillkfagiaa
open Go Go.RowKit

theorem info39 : (Try.prog.info? 39).map (·.size) = some 2 := by kernel_rfl
/-- How far numbers are apart. -/
def apI (a b : Int) : Int := (a - b + 10007) % 10007
theorem apI_go {a b : Int} (ha0 : 0 ≤ a) (ha1 : a ≤ 10006) (hb0 : 0 ≤ b) (hb1 : b ≤ 10006) :
    wrap64 (a - b) = a - b ∧ (a - b).tmod 10007 = a - b ∧ wrap64 (a - b + 10007) = a - b + 10007 ∧ (a - b + 10007).tmod 10007 = apI a b := by
  refine ⟨by unfold wrap64; omega, ?_, by unfold wrap64; omega, ?_⟩
  · by_cases h : 0 ≤ a - b
    · rw [Int.tmod_eq_emod_of_nonneg h]; omega
    · obtain ⟨n, hn⟩ : ∃ n : Int, a - b = -n := ⟨b - a, by omega⟩
      rw [hn, Int.neg_tmod, Int.tmod_eq_emod_of_nonneg (by omega)]; omega
  · rw [Int.tmod_eq_emod_of_nonneg (by omega)]; rfl

set_option maxRecDepth 100000 in
theorem apart_any (x y x' y' : Nat) (a b a' b' : Int) (h1 : W x a) (h2 : W y b) (h3 : W x' a') (h4 : W y' b') (hp : Pt (a, b)) (hp' : Pt (a', b')) (w : World) :
    Calls Try.prog 19 #[.complex .f64 x y, .complex .f64 x' y'] w fun e w' => e = .returned (.agg #[.int .i64 (apI a a'), .int .i64 (apI b b')]) ∧ Gr w w' := by
  obtain ⟨a0, a1, b0, b1⟩ := hp
  obtain ⟨c0, c1, d0, d1⟩ := hp'
  simp only at a0 a1 b0 b1 c0 c1 d0 d1
  have k1 := fun W => run_convert_float_int (P := Try.prog) W 22 3 .f64 .i64 x a (by kernel_rfl) Try.underlying3 (toInt_W h1 (by omega) (by omega) (by omega))
  have k2 := fun W => run_convert_float_int (P := Try.prog) W 22 3 .f64 .i64 y b (by kernel_rfl) Try.underlying3 (toInt_W h2 (by omega) (by omega) (by omega))
  have k3 := fun W => run_convert_float_int (P := Try.prog) W 22 3 .f64 .i64 x' a' (by kernel_rfl) Try.underlying3 (toInt_W h3 (by omega) (by omega) (by omega))
  have k4 := fun W => run_convert_float_int (P := Try.prog) W 22 3 .f64 .i64 y' b' (by kernel_rfl) Try.underlying3 (toInt_W h4 (by omega) (by omega) (by omega))
  obtain ⟨p1, p2, p3, p4⟩ := apI_go a0 a1 c0 c1
  obtain ⟨q1, q2, q3, q4⟩ := apI_go b0 b1 d0 d1
  generalize apI a a' = r at *
  generalize apI b b' = s at *
  clear h1 h2 h3 h4 a0 a1 b0 b1 c0 c1 d0 d1
  go_enter Try.func19, Try.ntmps19
  go_wp2
  exact bodyPost_ret (results_row rfl Try.underlying39 rfl info39 rfl (rowAt_block (alloc1_heap _ _) rfl)) rfl ⟨rfl, Gr.alloc (Gr.refl _) _⟩

theorem equal39 (w : World) (a b x y : Int) :
   (Op.equal 39 (.agg #[.int .i64 a, .int .i64 b]) (.agg #[.int .i64 x, .int .i64 y])).run Try.prog w = .ok (a == x && b == y) w := by
  obtain ⟨i0, hi⟩ : ∃ i, Try.prog.info? 3 = some i := ⟨_, rfl⟩
  unfold Op.equal Op.maxDepth
  rw [run_equalIn_array w 9999 _ _ Try.underlying39 hi]
  have hc : Try.prog.cellsOf 3 = 1 := by kernel_rfl
  rw [hc]
  simp [Op.eqItems, go_sem, List.range_succ]
  (repeat' split) <;> simp_all
theorem eql39 (w : World) (a b x y : Int) : (binOp .eql 39 (.agg #[.int .i64 a, .int .i64 b]) (.agg #[.int .i64 x, .int .i64 y])).run Try.prog w = .ok (.bool (a == x && b == y)) w := by
  simp only [binOp]; simp [equal39]

/-! The law in numbers -/
theorem mod_of {X Y : Int} (k : Int) (h : X = Y + 10007 * k) : X % 10007 = Y % 10007 := by rw [h, Int.add_mul_emod_self_left]
/-- How the way apart goes on. -/
theorem nx_apart (a b a' b' c : Int) : (nxR a b c - nxR a' b' c) % 10007 = (3 * ((a - a') % 10007) - 5 * ((b - b') % 10007)) % 10007 ∧
    (nxI a b - nxI a' b') % 10007 = (5 * ((a - a') % 10007) + 3 * ((b - b') % 10007)) % 10007 := by
  unfold nxR nxI
  have e1 := Int.emod_add_mul_ediv (a * 3 - b * 5 + (c + 1)) 10007
  have e2 := Int.emod_add_mul_ediv (a' * 3 - b' * 5 + (c + 1)) 10007
  have e3 := Int.emod_add_mul_ediv (a * 5 + b * 3) 10007
  have e4 := Int.emod_add_mul_ediv (a' * 5 + b' * 3) 10007
  have e5 := Int.emod_add_mul_ediv (a - a') 10007
  have e6 := Int.emod_add_mul_ediv (b - b') 10007
  generalize (a * 3 - b * 5 + (c + 1)) / 10007 = g1 at e1
  generalize (a' * 3 - b' * 5 + (c + 1)) / 10007 = g2 at e2
  generalize (a * 5 + b * 3) / 10007 = g3 at e3
  generalize (a' * 5 + b' * 3) / 10007 = g4 at e4
  generalize (a - a') / 10007 = g5 at e5
  generalize (b - b') / 10007 = g6 at e6
  generalize (a * 3 - b * 5 + (c + 1)) % 10007 = m1 at *
  generalize (a' * 3 - b' * 5 + (c + 1)) % 10007 = m2 at *
  generalize (a * 5 + b * 3) % 10007 = m3 at *
  generalize (a' * 5 + b' * 3) % 10007 = m4 at *
  generalize (a - a') % 10007 = m5 at *
  generalize (b - b') % 10007 = m6 at *
  exact ⟨mod_of (3 * g5 - 5 * g6 - g1 + g2) (by omega), mod_of (5 * g5 + 3 * g6 - g3 + g4) (by omega)⟩
theorem nx_same {p q r s : Int × Int} {c d : Int} (h1 : (p.1 - q.1) % 10007 = (r.1 - s.1) % 10007) (h2 : (p.2 - q.2) % 10007 = (r.2 - s.2) % 10007) :
    (nxR p.1 p.2 c - nxR q.1 q.2 c) % 10007 = (nxR r.1 r.2 d - nxR s.1 s.2 d) % 10007 ∧ (nxI p.1 p.2 - nxI q.1 q.2) % 10007 = (nxI r.1 r.2 - nxI s.1 s.2) % 10007 := by
  obtain ⟨u1, u2⟩ := nx_apart p.1 p.2 q.1 q.2 c
  obtain ⟨v1, v2⟩ := nx_apart r.1 r.2 s.1 s.2 d
  rw [u1, u2, v1, v2, h1, h2]
  exact ⟨rfl, rfl⟩
theorem chain_same : ∀ (bs cs : List Int) (p q r s : Int × Int), bs.length = cs.length → (p.1 - q.1) % 10007 = (r.1 - s.1) % 10007 → (p.2 - q.2) % 10007 = (r.2 - s.2) % 10007 →
    ((chainP p bs).1 - (chainP q bs).1) % 10007 = ((chainP r cs).1 - (chainP s cs).1) % 10007 ∧ ((chainP p bs).2 - (chainP q bs).2) % 10007 = ((chainP r cs).2 - (chainP s cs).2) % 10007
  | [], [], _, _, _, _, _, h1, h2 => ⟨h1, h2⟩
  | b :: bs, c :: cs, p, q, r, s, hl, h1, h2 => by
    obtain ⟨n1, n2⟩ := nx_same (c := b) (d := c) h1 h2
    exact chain_same bs cs (nxR p.1 p.2 b, nxI p.1 p.2) (nxR q.1 q.2 b, nxI q.1 q.2) (nxR r.1 r.2 c, nxI r.1 r.2) (nxR s.1 s.2 c, nxI s.1 s.2) (by simpa using hl) n1 n2
theorem apI_same {a b c d : Int} (h : (a - b) % 10007 = (c - d) % 10007) : apI a b = apI c d := by
  unfold apI
  rw [Int.add_emod_right, Int.add_emod_right, h]

/-! Parts in memory -/
theorem one_part {W : World} {b : Nat} {a : Option Addr} {c : Nat} {bs : List Int} {S : Nat → Prop} (hb : W.heap[b]? = some (.cells #[.slice a bs.length c] 26 (0, 0))) (hS : S b) (hv : IsBytes S W (.slice a bs.length c) bs) :
    IsParts S W (.slice (some ⟨b, 0, none⟩) 1 1) [bs] := by
  refine ⟨[.slice a bs.length c], rfl, ⟨by simp, .inr ⟨b, 0, 1, rfl, Nat.le_refl _, by decide, hS, range_row hb⟩⟩, fun i ps pv hp hq => ?_⟩
  match i, hp, hq with
  | 0, hp, hq =>
    simp at hp hq
    subst hp hq
    exact hv
theorem IsBytes.gr {A B : World} (h : Gr A B) {S : Nat → Prop} {v : Value} {bs : List Int} (hs : IsBytes S A v bs) : IsBytes S B v bs := SL.gr h hs
theorem IsBytes.mono {A : World} {S T : Nat → Prop} {v : Value} {bs : List Int} (hs : IsBytes S A v bs) (h : ∀ b, S b → T b) : IsBytes T A v bs := SL.mono hs h
/-- A chain of one part. -/
theorem chain_one (W : World) (a : Option Addr) (c : Nat) (bs : List Int) (x y : Nat) (z : Int × Int) (hx : Go.Proofs.Ytofnoillkfagiaa.W x z.1) (hy : Go.Proofs.Ytofnoillkfagiaa.W y z.2) (hz : Pt z) (hv : IsBytes (· < W.heap.size) W (.slice a bs.length c) bs)
    (hl : bs.length ≤ 1000) (hby : ∀ c ∈ bs, 0 ≤ c ∧ c ≤ 255) :
    Calls Try.prog 15 #[.complex .f64 x y, .slice (some ⟨W.heap.size, 0, none⟩) 1 1] (W.alloc (.cells #[.slice a bs.length c] 26)) fun e w' => ∃ p q, e = .returned (.complex .f64 p q) ∧
      Go.Proofs.Ytofnoillkfagiaa.W p (chainP z bs).1 ∧ Go.Proofs.Ytofnoillkfagiaa.W q (chainP z bs).2 ∧ Gr W w' := by
  have g : Gr W (W.alloc (.cells #[.slice a bs.length c] 26)) := Gr.alloc (Gr.refl _) _
  have hp : IsParts (· < (W.alloc (.cells #[.slice a bs.length c] 26)).heap.size) (W.alloc (.cells #[.slice a bs.length c] 26)) (.slice (some ⟨W.heap.size, 0, none⟩) 1 1) [bs] :=
    one_part (alloc1_heap _ _) (by simp) ((hv.gr g).mono fun b hb => Nat.lt_of_lt_of_le hb g.size)
  have := chain_any (W.alloc (.cells #[.slice a bs.length c] 26)) x y z hx hy hz _ [bs] hp (by simp) (by simpa using hl) (by simpa using hby)
  simp only [List.flatten_cons, List.flatten_nil, List.append_nil] at this
  exact this.mono fun e w' ⟨p, q, he, h1, h2, h3⟩ => ⟨p, q, he, h1, h2, g.trans h3⟩
end Go.Proofs.Ytofnoillkfagiaa
