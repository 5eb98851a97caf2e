/-
  Walks: the iterator over parts' bytes.
-/
import Derived.Test.YtofnoillkfagiaaFf
import Derived.Test.YtofnoillkfagiaaData
import Derived.OwnWalkIn
import Derived.TacticsInMore
import Derived.LoopNIn
import Derived.LoopIn
import Derived.Shelf.Abstract
import Derived.Shelf.RegionOpen
namespace Go.Proofs.Ytofnoillkfagiaa
open Go Go.RowKit

/-- Bytes to be read. -/
def IsBytes (S : Nat → Prop) (w : World) (v : Value) (bs : List Int) : Prop := SL S w 1 v (bs.map fun z => [Value.int .u8 z])
theorem IsBytes.len {w : World} {S : Nat → Prop} {v : Value} {bs : List Int} (hs : IsBytes S w v bs) : ∃ a cap, v = .slice a bs.length cap ∧ bs.length ≤ cap ∧ cap ≤ maxLen := by
  have := SL.len hs; simpa using this
theorem IsBytes.some {w : World} {S : Nat → Prop} {v : Value} {bs : List Int} (hs : IsBytes S w v bs) (h0 : 0 < bs.length) :
    ∃ b off cap, v = .slice (some ⟨b, off, none⟩) bs.length cap ∧ bs.length ≤ cap ∧ cap ≤ maxLen ∧ S b ∧ ∀ (i : Nat) (z : Int), bs[i]? = Option.some z → w.cell? ⟨b, off + i, none⟩ = Option.some (.int .u8 z) := by
  obtain ⟨b, off, cap, hv, h4, h5, h6⟩ := SL.some hs (by simpa using h0)
  refine ⟨b, off, cap, by simpa using hv, by simpa using h4, h5, h6, fun i z hz => ?_⟩
  have := SL.at hs hv (i := i) (e := [.int .u8 z]) (by rw [List.getElem?_map, hz]; rfl) 0 _ rfl
  simpa using this
/-- Parts to be read. -/
def IsParts (S : Nat → Prop) (w : World) (v : Value) (pss : List (List Int)) : Prop :=
  ∃ pvs : List Value, pvs.length = pss.length ∧ SL S w 1 v (pvs.map fun p => [p]) ∧ ∀ (i : Nat) (ps : List Int) (pv : Value), pss[i]? = Option.some ps → pvs[i]? = Option.some pv → IsBytes S w pv ps
theorem IsParts.len {w : World} {S : Nat → Prop} {v : Value} {pss : List (List Int)} (hs : IsParts S w v pss) : ∃ a cap, v = .slice a pss.length cap ∧ pss.length ≤ cap ∧ cap ≤ maxLen := by
  obtain ⟨pvs, h1, h2, h3⟩ := hs
  have := SL.len h2
  simpa [h1] using this
theorem IsParts.some {w : World} {S : Nat → Prop} {v : Value} {pss : List (List Int)} (hs : IsParts S w v pss) (h0 : 0 < pss.length) :
    ∃ b off cap, v = .slice (some ⟨b, off, none⟩) pss.length cap ∧ S b ∧ ∀ (i : Nat) (ps : List Int), pss[i]? = Option.some ps → ∃ pa pc, w.cell? ⟨b, off + i, none⟩ = Option.some (.slice pa ps.length pc) ∧ IsBytes S w (.slice pa ps.length pc) ps := by
  obtain ⟨pvs, h1, h2, h3⟩ := hs
  obtain ⟨b, off, cap, hv, h4, h5, h6⟩ := SL.some h2 (by simpa [h1] using h0)
  refine ⟨b, off, cap, by simpa [h1] using hv, h6, fun i ps hp => ?_⟩
  have hi : i < pss.length := (List.getElem?_eq_some_iff.1 hp).1
  obtain ⟨pv, hpv⟩ : ∃ pv, pvs[i]? = Option.some pv := ⟨_, List.getElem?_eq_getElem (by omega)⟩
  have hb := h3 i ps pv hp hpv
  obtain ⟨pa, pc, rfl, _, _⟩ := hb.len
  refine ⟨pa, pc, ?_, hb⟩
  have := SL.at h2 hv (i := i) (e := [.slice pa ps.length pc]) (by rw [List.getElem?_map, hpv]; rfl) 0 _ rfl
  simpa using this

/-- How many bytes there are ahead of a part. -/
def ahead (pss : List (List Int)) (i : Nat) : Nat := (pss.take i).flatten.length
theorem ahead_step {pss : List (List Int)} {i : Nat} {ps : List Int} (h : pss[i]? = some ps) : ahead pss (i + 1) = ahead pss i + ps.length := by
  unfold ahead
  rw [List.take_add_one, h, List.flatten_append, List.length_append]
  simp
theorem ahead_all (pss : List (List Int)) : ahead pss pss.length = pss.flatten.length := by unfold ahead; rw [List.take_length]
theorem ahead_at {pss : List (List Int)} {i j : Nat} {ps : List Int} {z : Int} (h : pss[i]? = some ps) (hz : ps[j]? = some z) : pss.flatten[ahead pss i + j]? = some z := by
  have h1 : pss = pss.take i ++ ps :: pss.drop (i + 1) := by
    obtain ⟨hi, hx⟩ := List.getElem?_eq_some_iff.1 h
    rw [← hx, ← List.drop_eq_getElem_cons hi, List.take_append_drop]
  have h2 : pss.flatten = (pss.take i).flatten ++ (ps ++ (pss.drop (i + 1)).flatten) := by
    conv => lhs; rw [h1]
    rw [List.flatten_append, List.flatten_cons]
  unfold ahead
  rw [h2, List.getElem?_append_right (Nat.le_add_right _ _), Nat.add_sub_cancel_left, List.getElem?_append_left (List.getElem?_eq_some_iff.1 hz).1, hz]

set_option maxRecDepth 100000 in
set_option maxHeartbeats 1000000 in
theorem bytes1_in (S : Nat → Prop) (pss : List (List Int)) (B1 : Nat) (v : Value) (Nd : Nat → Obj → Prop) (hl : pss.length ≤ 1000000) (hps : ∀ ps ∈ pss, ps.length ≤ 1000000)
    (nB1 : ∀ c e f, Nd B1 (.cells c e f)) (nS : ∀ b, S b → ∀ c e f, Nd b (.cells c e f))
    (ll : Nat) (J : Nat → World → Prop) (Jx : World → Prop) (W : World) (h1 : W.heap[B1]? = some (.cells #[v] 24 (0, 0))) (hx : IsParts S W v pss)
    (hY : ∀ k args A, k < pss.flatten.length → J k A → (∃ z, pss.flatten[k]? = some z ∧ args = #[.int .u8 z]) → YieldAt Fence.wide 0 Try.prog ll args A fun e B =>
      (e = .returned (.bool true) ∧ J (k + 1) B ∧ Kp Nd A B) ∨ (e = .returned (.bool false) ∧ Jx B))
    (h0 : J 0 W) :
    CallsIn Fence.wide 0 Try.prog 31 #[.func (.yield ll) #[] #[], .pointer (some ⟨B1, 0, none⟩)] W fun e W' => (∃ v, e = .returned v) ∧ (J pss.flatten.length W' ∨ Jx W') := by
  obtain ⟨a, c, rfl, _, _⟩ := hx.len
  have c10 := cell_block h1 (j := 0) (v := .slice a pss.length c) rfl
  have lB1 : B1 < W.heap.size := (Array.getElem?_eq_some_iff.1 h1).1
  have HX := Lib.hid hx
  have HY := Lib.hid hY
  have HNd := Lib.hid (And.intro nB1 nS)
  have HP := Lib.hid hps
  clear hx hY nB1 nS hps h1
  refine callsIn_of_wp Try.func31 rfl trivial ?_ rfl
  simp only [Try.ntmps31, List.size_toArray, List.length_cons, List.length_nil, Nat.reduceAdd, Nat.reduceSub, Array.replicate_succ, Array.replicate_zero, List.push_toArray, List.append_toArray, List.nil_append, List.cons_append]
  gi_wp2_with fail
  gi_loopw [9] (fun iv wr => ∃ i : Nat, iv = .int .i64 i ∧ i ≤ pss.length ∧ J (ahead pss i) wr ∧ Kp Nd W wr) (fun iv _ => pss.length - (intOf iv).toNat)
  case atStart => exact ⟨0, rfl, Nat.zero_le _, h0, Kp.refl _ _⟩
  case round =>
    obtain ⟨i, rfl, hi, hJ, hk⟩ := hrel
    by_cases hlt : i < pss.length
    · obtain ⟨ps, hp⟩ : ∃ ps, pss[i]? = some ps := ⟨_, List.getElem?_eq_getElem hlt⟩
      obtain ⟨b, o, c', hv, hSb, hrows⟩ := HX.out.some (by omega)
      simp only [Value.slice.injEq, true_and] at hv
      obtain ⟨rfl, rfl⟩ := hv
      obtain ⟨pa, pc, hc, hbs⟩ := hrows i ps hp
      have q0 := cell_kp hk hc (fun c e f _ => HNd.out.2 _ hSb c e f)
      have hpl : ps.length ≤ 1000000 := HP.out ps (List.mem_of_getElem? hp)
      have HBS := Lib.hid hbs
      have HPP := Lib.hid hp
      have HJ := Lib.hid hJ
      have HK := Lib.hid hk
      clear hrows hc hbs hp hJ hk h0
      gi_wp2_with fail
      obtain ⟨wo, rfl⟩ : ∃ wo : World, wo = wr := ⟨_, rfl⟩
      gi_loopw [15] (fun jv wr => ∃ j : Nat, jv = .int .i64 j ∧ j ≤ ps.length ∧ J (ahead pss i + j) wr ∧ Kp Nd W wr) (fun jv _ => ps.length - (intOf jv).toNat)
      case atStart => exact ⟨0, rfl, Nat.zero_le _, HJ.out, HK.out⟩
      case round =>
        obtain ⟨j, rfl, hj, hJ, hk⟩ := hrel
        by_cases hlt2 : j < ps.length
        · obtain ⟨z, hz⟩ : ∃ z, ps[j]? = some z := ⟨_, List.getElem?_eq_getElem hlt2⟩
          obtain ⟨pb, po, pc', hv, _, _, hSp, hcells⟩ := HBS.out.some (by omega)
          simp only [Value.slice.injEq, true_and] at hv
          obtain ⟨rfl, rfl⟩ := hv
          have q1 := cell_kp hk (hcells j z hz) (fun c e f _ => HNd.out.2 _ hSp c e f)
          have hat := ahead_at HPP.out hz
          obtain ⟨fn, tmps, assign, body, hy, hR⟩ := HY.out (ahead pss i + j) #[.int .u8 z] wr (List.getElem?_eq_some_iff.1 hat).1 hJ ⟨z, hat, rfl⟩
          have HR := Lib.hid hR
          have HK2 := Lib.hid hk
          clear hcells hz hat hR hJ hk
          gi_wp2_with fail
          refine ⟨rfl, HR.out.mono ?_⟩
          rintro e W3 (⟨rfl, hJ3, hk3⟩ | ⟨rfl, hJx3⟩)
          · have HJ3 := Lib.hid hJ3
            have HK3 := Lib.hid hk3
            clear hJ3 hk3 hy q1
            gi_wp2
            exact ⟨⟨j + 1, by go_num, by omega, HJ3.out, HK2.out.trans HK3.out⟩, by simp [intOf]; omega⟩
          · gi_wp2
            exact bodyPost_ret (results_none rfl _ _ _) rfl ⟨⟨_, rfl⟩, .inr hJx3⟩
        · obtain rfl : j = ps.length := by omega
          rw [← ahead_step HPP.out] at hJ
          have HJ2 := Lib.hid hJ
          have HK2 := Lib.hid hk
          clear hJ hk
          gi_wp2
          exact ⟨⟨i + 1, by go_num, by omega, HJ2.out, HK2.out⟩, by simp [intOf]; omega⟩
    · obtain rfl : i = pss.length := by omega
      rw [ahead_all] at hJ
      have HJ2 := Lib.hid hJ
      clear hJ hk
      gi_wp2
      exact bodyPost_end (results_none rfl _ _ _) rfl ⟨⟨_, rfl⟩, .inl HJ2.out⟩
end Go.Proofs.Ytofnoillkfagiaa
