/-
  Walk: great; plain laws of the rest.
  Conditions: none beyond those typed at each theorem.
-/
import Derived.Test.YtkhkjcoejkgfeaaDoorNq
namespace Go.Proofs.YtkhkjcoejkgfeaaDoor
open Go Go.RowKit

theorem IsFiles.mono {A : World} {S T : Nat → Prop} {v : Value} {ns : List (List UInt8)} (hs : IsFiles S A v ns) (h : ∀ b, S b → T b) : IsFiles T A v ns := by
  obtain ⟨els, h1, h2, h3⟩ := hs
  exact ⟨els, h1, h2.mono h, h3⟩
theorem IsIds.mono {A : World} {S T : Nat → Prop} {v : Value} {xs : List Idn} (hs : IsIds S A v xs) (h : ∀ b, S b → T b) : IsIds T A v xs := SL.mono hs h
/-- The rest, from a place on. -/
theorem rest_at {ns : List (List UInt8)} {xs : List Idn} {i : Nat} {n : List UInt8} (h : ns[i]? = some n) (hk : keptBy xs n = false) :
    (restOf (ns.take i) xs).length < (restOf ns xs).length ∧ (restOf ns xs)[(restOf (ns.take i) xs).length]? = some n := by
  have hi : i < ns.length := (List.getElem?_eq_some_iff.1 h).1
  have hd : ns = ns.take i ++ n :: ns.drop (i + 1) := by
    have e : ns[i] = n := (List.getElem?_eq_some_iff.1 h).2
    rw [← e, ← List.drop_eq_getElem_cons hi, List.take_append_drop]
  have hr : restOf ns xs = restOf (ns.take i) xs ++ n :: restOf (ns.drop (i + 1)) xs := by
    conv => lhs; rw [hd]
    unfold restOf
    rw [List.filter_append, List.filter_cons]
    simp [hk]
  rw [hr]
  refine ⟨by simp, ?_⟩
  rw [List.getElem?_append_right (Nat.le_refl _), Nat.sub_self]; rfl
theorem rest_none (ns : List (List UInt8)) : restOf ns [] = ns := by
  unfold restOf keptBy
  simp
theorem find_le {ns : List (List UInt8)} {l : List UInt8} {i : Nat} {z : Int} (hi : ns[i]? = some l) (h : FindIs ns (some l) z) : ∃ j : Nat, z = j ∧ j ≤ i ∧ ns[j]? = some l := by
  rcases h with ⟨_, h⟩ | ⟨j, rfl, h1, h2⟩
  · exact absurd hi (h i (List.getElem?_eq_some_iff.1 hi).1)
  · refine ⟨j, rfl, ?_, h1⟩
    rcases Nat.lt_or_ge i j with h | h
    · exact absurd hi (h2 i h)
    · exact h

set_option maxHeartbeats 1000000 in
theorem great_some (w : World) (b o c len : Nat) (ns : List (List UInt8)) (hlen : ns.length = len) (hl : (len : Int) ≤ 9223372036854775807)
    (hx : ∀ (i : Nat) (n : List UInt8), ns[i]? = some n → ∃ a k c', w.rangeAt b (o + i * 2) [strV n, .slice a k c']) :
    Calls Tryd.prog 11 #[.slice (some ⟨b, o, none⟩) len c] w fun e w' => ∃ r : Bool, e = .returned (.bool r) ∧ (r = false → ns.length ≤ 40 ∧ ∀ n ∈ ns, n.length ≤ 60) ∧ w' = w := by
  have HX := Lib.hid hx
  have HL := Lib.hid hlen
  clear hx hlen
  go_enter Tryd.func11, Tryd.ntmps11
  go_wp2
  go_loopw [3] (fun iv wr => ∃ i : Nat, iv = .int .i64 i ∧ i ≤ len ∧ i ≤ 41 ∧ (∀ j n, j < i → ns[j]? = some n → n.length ≤ 60) ∧ w = wr) (fun iv _ => 41 - (intOf iv).toNat)
  case atStart => exact ⟨0, rfl, Nat.zero_le _, by omega, fun j n h => absurd h (Nat.not_lt_zero _), rfl⟩
  case round =>
    obtain ⟨i, rfl, hi, hi', hall, hwr⟩ := hrel
    subst hwr
    have HA := Lib.hid hall
    clear hall
    by_cases hlt : i < len
    · by_cases h40 : i ≤ 40
      · obtain ⟨n, hn⟩ : ∃ n, ns[i]? = some n := ⟨_, List.getElem?_eq_getElem (by rw [HL.out]; exact hlt)⟩
        obtain ⟨fa, fk, fc, hr⟩ := HX.out i n hn
        have q0 : w.cell? ⟨b, o + i * 2, none⟩ = some (strV n) := hr 0 _ rfl
        have HN := Lib.hid hn
        clear hr hn
        by_cases hbig : 60 < (n.length : Int)
        · go_wp2
          go_ret
          exact ⟨true, rfl, (fun h => by cases h), rfl⟩
        · go_wp2
          refine ⟨⟨i + 1, by go_num, by omega, by omega, fun j m hj hm => ?_, trivial⟩, by simp [intOf]; omega⟩
          rcases Nat.lt_or_ge j i with h | h
          · exact HA.out j m h hm
          · obtain rfl : j = i := by omega
            rw [HN.out] at hm
            injection hm with hm
            subst hm; omega
      · have h41 : i = 41 := by omega
        subst h41
        have hbig : 40 < (len : Int) := by omega
        go_wp2
        go_ret
        exact ⟨true, rfl, (fun h => by cases h), rfl⟩
    · have : i = len := by omega
      subst this
      by_cases hbig : 40 < (i : Int)
      · go_wp2
        go_ret
        exact ⟨true, rfl, (fun h => by cases h), rfl⟩
      · go_wp2
        go_ret
        refine .inl ⟨rfl, ⟨by have := HL.out; omega, fun n hn => ?_⟩, rfl⟩
        obtain ⟨j, hj⟩ := List.getElem?_of_mem hn
        exact HA.out j n (by have := (List.getElem?_eq_some_iff.1 hj).1; have := HL.out; omega) hj
set_option maxHeartbeats 400000 in
theorem great_none (w : World) (a : Option Addr) (c : Nat) : Calls Tryd.prog 11 #[.slice a 0 c] w fun e w' => e = .returned (.bool false) ∧ w' = w := by
  go_enter Tryd.func11, Tryd.ntmps11
  go_wp2
  go_loopw [3] (fun iv wr => iv = .int .i64 0 ∧ w = wr) (fun _ _ => 0)
  case atStart => exact ⟨rfl, rfl⟩
  case round =>
    obtain ⟨rfl, hwr⟩ := hrel
    subst hwr
    go_wp2
    go_ret
    exact ⟨rfl, rfl⟩
theorem great_any (w : World) (S : Nat → Prop) (v : Value) (ns : List (List UInt8)) (hs : IsFiles S w v ns) :
    Calls Tryd.prog 11 #[v] w fun e w' => ∃ r : Bool, e = .returned (.bool r) ∧ (r = false → ns.length ≤ 40 ∧ ∀ n ∈ ns, n.length ≤ 60) ∧ w' = w := by
  obtain ⟨a, c, rfl, h1, h2⟩ := hs.len
  by_cases h0 : 0 < ns.length
  · obtain ⟨b, o, c', hv, _, hx⟩ := hs.some h0
    rw [hv]
    exact great_some w b o c' ns.length ns rfl (by unfold maxLen at h2; omega) hx
  · obtain rfl : ns = [] := List.eq_nil_of_length_eq_zero (by omega)
    exact (great_none w a c).mono fun e w' ⟨he, hw⟩ => ⟨false, he, fun _ => ⟨by simp, by simp⟩, hw⟩
end Go.Proofs.YtkhkjcoejkgfeaaDoor
