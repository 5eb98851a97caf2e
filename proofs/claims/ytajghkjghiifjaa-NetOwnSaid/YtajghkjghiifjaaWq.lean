/-
  Walks: slices.Delete of one message, in a row of the call's own.
-/
import Derived.Test.YtajghkjghiifjaaWp
import Derived.Shelf.RegionOpenPlain
import Derived.Deep.RegionLaw
import Derived.Lib.SliceRun
namespace Go.Proofs.Ytajghkjghiifjaa
open Go Go.RowKit
attribute [local go_sem] Oper.semAt_some

theorem setCells_block' {g : Nat} {e : TypeId} : ∀ (vs : List Value) (o : Nat) (w : World) (cur : Array Value), w.heap[g]? = some (.cells cur e (0, 0)) →
    ∃ cur' : Array Value, (w.setCells g o vs).heap[g]? = some (.cells cur' e (0, 0)) ∧ cur'.size = cur.size ∧ ∀ i, cur'[i]? = if o ≤ i ∧ i < o + vs.length ∧ i < cur.size then vs[i - o]? else cur[i]?
  | [], o, w, cur, h => ⟨cur, h, rfl, fun i => by rw [if_neg (by simp; omega)]⟩
  | v :: r, o, w, cur, h => by
    obtain ⟨c1, h1, h2, h3⟩ := setCells_block' r (o + 1) (w.setCell ⟨g, o, none⟩ v) _ (setCell_block h v)
    refine ⟨c1, h1, by simpa using h2, fun i => ?_⟩
    rw [h3 i]
    simp only [Array.size_setIfInBounds, List.length_cons]
    by_cases hi : i = o
    · subst hi
      rw [if_neg (by omega), Array.getElem?_setIfInBounds_self]
      by_cases hs : i < cur.size
      · simp [hs]
      · simp [hs]
    · by_cases hc : o + 1 ≤ i ∧ i < o + 1 + r.length ∧ i < cur.size
      · rw [if_pos hc, if_pos (by omega)]
        obtain ⟨d, rfl⟩ : ∃ d, i = o + 1 + d := ⟨i - (o + 1), by omega⟩
        rw [show o + 1 + d - o = d + 1 by omega]
        simp
      · rw [if_neg hc, if_neg (by omega), Array.getElem?_setIfInBounds_ne (fun e => hi e.symm)]
theorem setCells_gr {g : Nat} : ∀ (vs : List Value) (o : Nat) (w : World), w.grownBy (w.setCells g o vs) (some g)
  | [], _, w => ⟨rfl, rfl, rfl, Nat.le_refl _, fun _ _ _ => rfl⟩
  | v :: r, o, w => by
    have h := setCells_gr (g := g) r (o + 1) (w.setCell ⟨g, o, none⟩ v)
    refine ⟨h.os, h.tape, h.output, Nat.le_trans (Nat.le_of_eq (by simp [World.setCell])) h.size, fun k hk hn => ?_⟩
    exact (h.block k (by simpa [World.setCell] using hk) hn).trans (setCell_other v fun e => hn (by rw [e]))
theorem grown_trans {a b c : World} {r : Option Nat} (h : a.grownBy b r) (k : b.grownBy c r) : a.grownBy c r :=
  ⟨k.os.trans h.os, k.tape.trans h.tape, k.output.trans h.output, Nat.le_trans h.size k.size, fun i hi hn => (k.block i (Nat.lt_of_lt_of_le hi h.size) hn).trans (h.block i hi hn)⟩

def zero31 : List Value := [.int .u8 0, .int .i64 0, .int .i64 0, .int .i64 0, .int .i64 0, .int .i64 0, .int .i64 0, .int .i64 0, .bool false, .slice none 0 0, .int .i64 0, .int .i64 0, .int .i64 0, .int .i64 0, .bool false]
theorem zero31_run (w : World) : (zeroValue 31).run Try.prog w = .ok (.agg zero31.toArray) w := by simp [go_sem, zero31]
theorem clear31 (W : World) (ty : TypeId) (g o c : Nat) (cur : Array Value) (h : W.heap[g]? = some (.cells cur 31 (0, 0))) (ho : o + 15 ≤ cur.size) :
    (Builtin.clear_ #[24] ty #[.slice (some ⟨g, o, none⟩) 1 c]).run Try.prog W = .ok (.tuple #[]) (W.setCells g o zero31) := by
  have hst := run_storeCells_cells (P := Try.prog) g o zero31 0 W
    (fun j hj => by
      have hj' : j < 15 := hj
      rw [cell_block h (Array.getElem?_eq_getElem (by omega))]; rfl)
    (fun j _ => frozen_block h) (by intro v hv; simp only [zero31, List.mem_cons, List.not_mem_nil, or_false] at hv; rcases hv with rfl | rfl | rfl | rfl | rfl | rfl | rfl | rfl | rfl | rfl | rfl | rfl | rfl | rfl | rfl <;> rfl)
  simp only [Nat.add_zero] at hst
  have hz : (Builtin.zeroCells (Value.agg zero31.toArray).cells 1).toList = zero31 := by
    simp [Builtin.zeroCells, zero31, Value.cells]
    rfl
  have hr : (zeroValue 31).run Try.prog W = .ok (.agg zero31.toArray) W := zero31_run W
  unfold Builtin.clear_
  simp only [List.getElem?_toArray, List.getElem?_cons_zero, Sem.run_bind, run_underlying Try.underlying24, Result.andThen_ok, hr, hz, hst, Sem.run_pure]

set_option maxRecDepth 1000000 in
set_option maxHeartbeats 400000 in
theorem delete_any (w : World) (base g cap m i : Nat) (xs : List Value) (hx : w.ownsRow base 31 15 (.slice (some ⟨g, 0, none⟩) (m + 1) cap) (m + 1) xs) (h1 : ∀ u ∈ xs, u.oneCell' = true) (hi : i ≤ m) (hm : m ≤ 1000000) :
    Calls Try.prog 25 #[.slice (some ⟨g, 0, none⟩) (m + 1 : Nat) cap, .int .i64 i, .int .i64 (i + 1 : Nat)] w fun e w' => e = .returned (.slice (some ⟨g, 0, none⟩) m cap) ∧
      w'.ownsRow base 31 15 (.slice (some ⟨g, 0, none⟩) m cap) m (xs.take (i * 15) ++ xs.drop ((i + 1) * 15)) ∧ w.grownBy w' (some g) := by
  obtain ⟨i0, hi0, hz0, hz1, hz2⟩ := info_parts Try.info31
  obtain ⟨hlen, hrest⟩ := hx
  rcases hrest with ⟨_, h0⟩ | ⟨g', cap', cur, hv, hb, hh, hn, hc, hs, ht⟩
  · omega
  simp only [Value.slice.injEq, Option.some.injEq, Addr.mk.injEq, and_true, true_and] at hv
  obtain ⟨rfl, rfl⟩ := hv
  obtain ⟨news, hnews⟩ : ∃ news, news = xs.drop ((i + 1) * 15) := ⟨_, rfl⟩
  have hnl : news.length = (m - i) * 15 := by rw [hnews, List.length_drop, hlen]; omega
  have hxc : ∀ k, k < (m + 1) * 15 → cur[k]? = xs[k]? := fun k hk => by
    rw [← ht, List.getElem?_take_of_lt hk, Array.getElem?_toList]
  obtain ⟨A, hA, hsrc⟩ : ∃ A : Addr, (if cap = i + 1 then some (⟨g, 0, none⟩ : Addr) else some ⟨g, (i + 1) * 15, none⟩) = some A ∧ Hid (∀ t u, news[t]? = some u → w.drew.cell? (A.add t) = some u) := by
    by_cases h : cap = i + 1
    · refine ⟨⟨g, 0, none⟩, by simp [h], fun t u hu => ?_⟩
      have h0 : news.length = 0 := by rw [hnl]; omega
      rw [List.length_eq_zero_iff.1 h0] at hu
      simp at hu
    · refine ⟨⟨g, (i + 1) * 15, none⟩, by simp [h], fun t u hu => ?_⟩
      have htl : t < (m - i) * 15 := by
        have := (List.getElem?_eq_some_iff.1 hu).1
        rwa [hnl] at this
      rw [Addr.add_mid]
      show w.cell? _ = _
      refine cell_block hh ?_
      rw [hxc _ (by omega), ← hu, hnews, List.getElem?_drop]
  have s2 : Hid (∀ u ∈ news, u.oneCell' = true) := fun u hu => h1 u (List.mem_of_mem_drop (by rw [← hnews]; exact hu))
  have s3 : Hid (∀ t, t < news.length → (w.drew.cell? ⟨g, 0 + i * 15 + t, none⟩).isSome = true ∧ w.drew.frozen? ⟨g, 0 + i * 15 + t, none⟩ = false) := by
    intro t htl
    rw [hnl] at htl
    refine ⟨?_, frozen_block (w := w) hh⟩
    show (w.cell? _).isSome = true
    rw [cell_block hh (Array.getElem?_eq_getElem (by omega))]; rfl
  obtain ⟨W1, hW1⟩ : ∃ W1, W1 = w.drew.setCells g (0 + i * 15) news := ⟨_, rfl⟩
  obtain ⟨c1, hc1, hs1, hg1⟩ := setCells_block' news (0 + i * 15) w.drew cur hh
  rw [← hW1] at hc1
  have hgr1 : w.grownBy W1 (some g) := by
    have := setCells_gr (g := g) news (0 + i * 15) w.drew
    rw [hW1]; exact ⟨this.os, this.tape, this.output, this.size, this.block⟩
  have hcl : ∀ ty, (Builtin.clear_ #[24] ty #[.slice (some ⟨g, m * 15, none⟩) 1 (cap - m)]).run Try.prog W1 = .ok (.tuple #[]) (W1.setCells g (m * 15) zero31) := fun ty =>
    clear31 W1 ty g (m * 15) (cap - m) c1 hc1 (by omega)
  obtain ⟨c2, hc2, hs2, hg2⟩ := setCells_block' zero31 (m * 15) W1 c1 hc1
  have hgr2 := grown_trans hgr1 (setCells_gr (g := g) zero31 (m * 15) W1)
  have hfin : (W1.setCells g (m * 15) zero31).ownsRow base 31 15 (.slice (some ⟨g, 0, none⟩) m cap) m (xs.take (i * 15) ++ news) := by
    refine ⟨by simp [hnl, hlen]; omega, .inr ⟨g, cap, c2, rfl, hb, hc2, by omega, hc, by omega, ?_⟩⟩
    apply List.ext_getElem?
    intro k
    by_cases hk : k < m * 15
    · rw [List.getElem?_take_of_lt hk, Array.getElem?_toList, hg2, if_neg (by omega), hg1]
      by_cases hki : k < i * 15
      · rw [if_neg (by omega), List.getElem?_append_left (by simp [hlen]; omega), List.getElem?_take_of_lt hki, hxc k (by omega)]
      · have htl : (xs.take (i * 15)).length = i * 15 := by rw [List.length_take, hlen]; omega
        rw [if_pos (by omega), List.getElem?_append_right (by omega), htl, Nat.zero_add]
    · rw [List.getElem?_eq_none (by simp; omega), List.getElem?_eq_none (by simp [hlen, hnl]; omega)]
  have HF := Lib.hid hfin
  have HG := Lib.hid hgr2
  have hW : Hid (W1 = w.drew.setCells g (0 + i * 15) news) := hW1
  have HNL := Lib.hid hnl
  have hk : i + (m - i) = m := by omega
  clear hfin hgr2 hgr1 hg1 hg2 hc1 hc2 hW1 hs1 hs2 hxc ht hs hh hlen h1 hnl
  rw [← hnews]
  clear hnews
  have hic : i ≤ cap := by omega
  have hjc : i + 1 ≤ cap := by omega
  have h0i : (0 : Int) ≤ (i : Int) + 1 := by omega
  have b1 : ((i : Int) == ((i + 1 : Nat) : Int)) = false := beq_eq_false_iff_ne.2 (by omega)
  go_enter Try.func25, Try.ntmps25
  go_wp2_with fail
  go_region_law (refine step_append_room rfl (.tmp 22) (.tmp 25) 24 rfl 31 i0 15 Try.underlying24 hi0 hz1 g 0 i cap (by simp [Act.eval, Act.put]) A (m - i) (cap - (i + 1)) news (by simp [Act.eval, Act.put]) HNL.out hsrc.out s2.out (by omega) s3.out ?_; rw [← hW.out, hk])
  go_wp2
  go_ret
  exact ⟨rfl, HF.out, HG.out⟩
end Go.Proofs.Ytajghkjghiifjaa
