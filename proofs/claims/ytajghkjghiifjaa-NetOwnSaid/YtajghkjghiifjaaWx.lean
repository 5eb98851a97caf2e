/-
  Plain law: what was sent is what was taken, lost, and is on its way.
-/
import Derived.Test.YtajghkjghiifjaaWv
import Derived.Test.YtajghkjghiifjaaOc
namespace Go.Proofs.Ytajghkjghiifjaa
open Go Go.RowKit

/-- What holds behind i deeds, of which t messages were taken. -/
structure Inv (i : Nat) (t : Int) (n : Net) : Prop where
  t0 : 0 ≤ t
  l0 : 0 ≤ n.lost
  way : n.msgs.length ≤ 60
  sum : n.sent = t + n.lost + n.msgs.length
  top : n.sent ≤ 20 * (i : Int)
  ents : ∀ m ∈ n.msgs, m.ents.length ≤ 20

theorem Inv.small {i : Nat} {t : Int} {n : Net} (h : Inv i t n) : Small n.msgs := ⟨by have := h.way; omega, fun m hm => by have := h.ents m hm; omega⟩
theorem Inv.start : Inv 0 0 ⟨[], 0, 0⟩ := ⟨by omega, by show (0 : Int) ≤ 0; omega, by simp, by simp, by simp, by simp⟩
theorem wrap_id {x : Int} (h0 : 0 ≤ x) (h1 : x ≤ 1000000) : wrap64 x = x := by unfold wrap64; omega

theorem Inv.push {i : Nat} {t : Int} {n : Net} (h : Inv i t n) (hi : i < 40) {l : List Msg} (hl : l.length ≤ 20) (he : ∀ m ∈ l, m.ents.length ≤ 20) :
    Inv (i + 1) t (pushNet n l) ∧ (pushNet n l).sent = n.sent + l.length ∧ n.lost ≤ (pushNet n l).lost ∧ (pushErr n l == 0) = ((pushNet n l).lost == n.lost) := by
  obtain ⟨t0, l0, way, sum, top, ents⟩ := h
  have hs : (pushNet n l).sent = n.sent + l.length := wrap_id (by omega) (by omega)
  have hr : room n l = min (60 - n.msgs.length) l.length := rfl
  have hm : (pushNet n l).msgs = n.msgs ++ l.take (room n l) := rfl
  have hml : ((pushNet n l).msgs.length : Int) = n.msgs.length + room n l := by rw [hm, List.length_append, List.length_take]; omega
  have hents : ∀ m ∈ (pushNet n l).msgs, m.ents.length ≤ 20 := by
    intro m hmm
    rw [hm] at hmm
    rcases List.mem_append.1 hmm with h | h
    · exact ents m h
    · exact he m (List.mem_of_mem_take h)
  by_cases ho : room n l < l.length
  · have hll : (pushNet n l).lost = n.lost + ((l.length : Int) - room n l) := by
      show (if room n l < l.length then wrap64 (n.lost + ((l.length : Int) - room n l)) else n.lost) = _
      rw [if_pos ho]; exact wrap_id (by omega) (by omega)
    have hee : pushErr n l = 270 := if_pos ho
    refine ⟨⟨t0, by omega, by omega, by omega, by omega, hents⟩, hs, by omega, ?_⟩
    rw [hee, hll]
    have h1 : ((270 : Int) == 0) = false := rfl
    have h2 : (n.lost + ((l.length : Int) - room n l) == n.lost) = false := by rw [beq_eq_false_iff_ne]; omega
    rw [h1, h2]
  · have hll : (pushNet n l).lost = n.lost := by
      show (if room n l < l.length then wrap64 (n.lost + ((l.length : Int) - room n l)) else n.lost) = _
      rw [if_neg ho]
    have hee : pushErr n l = 0 := if_neg ho
    refine ⟨⟨t0, by omega, by omega, by omega, by omega, hents⟩, hs, by omega, ?_⟩
    rw [hee, hll]
    have h1 : ((0 : Int) == 0) = true := rfl
    have h2 : (n.lost == n.lost) = true := beq_self_eq_true _
    rw [h1, h2]
theorem erase_ents {ms : List Msg} (h : ∀ m ∈ ms, m.ents.length ≤ 20) (k : Nat) : ∀ m ∈ ms.eraseIdx k, m.ents.length ≤ 20 := fun m hm => h m ((List.eraseIdx_sublist ms k).subset hm)
theorem Inv.pull {i : Nat} {t : Int} {n : Net} (h : Inv i t n) (at' : Int) :
    Inv (i + 1) (if pullOk n = true then t + 1 else t) (pullNet n at') := by
  obtain ⟨t0, l0, way, sum, top, ents⟩ := h
  by_cases h0 : n.msgs.length = 0
  · have hok : pullOk n = false := by simp [pullOk, h0]
    have hn : n.msgs = [] := List.eq_nil_of_length_eq_zero h0
    have hp : pullNet n at' = n := by
      show (⟨n.msgs.eraseIdx _, n.sent, n.lost⟩ : Net) = n
      rw [hn, List.eraseIdx_nil, ← hn]
    rw [hok, hp]
    exact ⟨t0, l0, way, sum, by omega, ents⟩
  · have hok : pullOk n = true := by simp [pullOk, h0]
    have hlen : (pullNet n at').msgs.length = n.msgs.length - 1 := by
      show (n.msgs.eraseIdx (spot n.msgs.length at')).length = _
      rw [List.length_eraseIdx, if_pos (spot_lt h0 at')]
    have hs : (pullNet n at').sent = n.sent := rfl
    have hl : (pullNet n at').lost = n.lost := rfl
    rw [hok, if_pos rfl]
    exact ⟨by omega, by omega, by omega, by omega, by omega, erase_ents ents _⟩
theorem Inv.lose {i : Nat} {t : Int} {n : Net} (h : Inv i t n) (hi : i < 40) (at' : Int) : Inv (i + 1) t (loseNet n at') ∧ n.lost ≤ (loseNet n at').lost := by
  obtain ⟨t0, l0, way, sum, top, ents⟩ := h
  by_cases h0 : n.msgs.length = 0
  · have hn : n.msgs = [] := List.eq_nil_of_length_eq_zero h0
    have hp : loseNet n at' = n := by
      show (⟨n.msgs.eraseIdx _, n.sent, if n.msgs.length ≠ 0 then wrap64 (n.lost + 1) else n.lost⟩ : Net) = n
      rw [if_neg (by omega), hn, List.eraseIdx_nil, ← hn]
    rw [hp]
    exact ⟨⟨t0, l0, way, sum, by omega, ents⟩, by omega⟩
  · have hlen : (loseNet n at').msgs.length = n.msgs.length - 1 := by
      show (n.msgs.eraseIdx (spot n.msgs.length at')).length = _
      rw [List.length_eraseIdx, if_pos (spot_lt h0 at')]
    have hs : (loseNet n at').sent = n.sent := rfl
    have hl : (loseNet n at').lost = n.lost + 1 := by
      show (if n.msgs.length ≠ 0 then wrap64 (n.lost + 1) else n.lost) = _
      rw [if_pos h0]; exact wrap_id (by omega) (by omega)
    exact ⟨⟨by omega, by omega, by omega, by omega, by omega, erase_ents ents _⟩, by omega⟩
theorem pullMsg_mem {n : Net} (h0 : n.msgs.length ≠ 0) (at' : Int) : pullMsg n at' ∈ n.msgs := by
  obtain ⟨m, hm⟩ : ∃ m, n.msgs[spot n.msgs.length at']? = some m := ⟨_, List.getElem?_eq_getElem (spot_lt h0 at')⟩
  have : pullMsg n at' = m := by simp [pullMsg, List.getD, hm]
  rw [this]; exact List.mem_of_getElem? hm
theorem Inv.again {i : Nat} {t : Int} {n : Net} (h : Inv i t n) (hi : i < 40) (at' : Int) : Inv (i + 1) t (againNet n at') ∧ n.lost ≤ (againNet n at').lost ∧ n.sent ≤ (againNet n at').sent := by
  by_cases h0 : 60 ≤ n.msgs.length ∨ n.msgs.length = 0
  · have hp : againNet n at' = n := if_pos h0
    rw [hp]
    obtain ⟨t0, l0, way, sum, top, ents⟩ := h
    exact ⟨⟨t0, l0, way, sum, by omega, ents⟩, by omega, by omega⟩
  · have hp : againNet n at' = pushNet n [pullMsg n at'] := if_neg h0
    have := h.push hi (l := [pullMsg n at']) (by simp) (fun m hm => by
      rw [List.mem_singleton.1 hm]; exact h.ents _ (pullMsg_mem (by omega) at'))
    rw [hp]
    exact ⟨this.1, this.2.2.1, by have := this.2.1; omega⟩
theorem Inv.cut {i : Nat} {t : Int} {n : Net} (h : Inv i t n) (hi : i < 40) (id : Int) : Inv (i + 1) t (cutNet n id) ∧ n.lost ≤ (cutNet n id).lost := by
  obtain ⟨t0, l0, way, sum, top, ents⟩ := h
  have hlen : (n.msgs.filter (notOf id)).length ≤ n.msgs.length := List.length_filter_le _ _
  have hm : (cutNet n id).msgs = n.msgs.filter (notOf id) := rfl
  have hs : (cutNet n id).sent = n.sent := rfl
  have hl : (cutNet n id).lost = n.lost + ((n.msgs.length : Int) - ((n.msgs.filter (notOf id)).length : Int)) := wrap_id (by omega) (by omega)
  refine ⟨⟨t0, by omega, by rw [hm]; omega, by rw [hs, hl, hm]; omega, by omega, ?_⟩, by omega⟩
  rw [hm]
  exact fun m hmm => ents m (List.mem_filter.1 hmm).1
end Go.Proofs.Ytajghkjghiifjaa
