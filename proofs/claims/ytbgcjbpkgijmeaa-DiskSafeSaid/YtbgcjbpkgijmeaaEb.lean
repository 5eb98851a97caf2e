/-
  Walk: the place of a file, as the document's answer finds it.
  Conditions: none beyond those typed at each theorem.
-/
import Derived.Test.YtbgcjbpkgijmeaaEa
import Derived.Test.YtbgcjbpkgijmeaaRa
namespace Go.Proofs.Ytbgcjbpkgijmeaa
open Go Go.RowKit
attribute [local go_sem high] str_eql str_neq str_lss str_leq str_geq str_eql0 str_neq0

set_option maxRecDepth 100000 in
set_option maxHeartbeats 1000000 in
/-- The place of a file. -/
theorem find_any (w : World) {S : Nat → Prop} (v : Value) (l : List Fl) (n : Bs) (hx : IsFls S w v l) (hl : l.length ≤ 2000000) :
    Calls Try.prog 57 #[v, strV n] w fun e w' => ∃ r : Int, e = .returned (.int .i64 r) ∧ FoundAt l n r ∧ w' = w := by
  obtain ⟨a, c, rfl, hcap, hcm⟩ := hx.len
  have HX := Lib.hid hx
  clear hx
  go_enter Try.func57, Try.ntmps57
  go_wp2
  go_loop [5] (fun k => ∃ j : Nat, k = .int .i64 j ∧ j ≤ l.length ∧ ∀ g ∈ l.take j, g.name ≠ n) (fun k => l.length - (intOf k).toNat)
  case atStart => exact ⟨0, rfl, by omega, by simp⟩
  case round =>
    obtain ⟨j, rfl, hj, ht⟩ := hrel
    have HT := Lib.hid ht
    clear ht
    by_cases hlt : j < l.length
    · obtain ⟨f, hf⟩ : ∃ f, l[j]? = some f := ⟨_, List.getElem?_eq_getElem hlt⟩
      obtain ⟨b, o, c', hv, _, _, _, hrows⟩ := HX.out.some (by omega)
      simp only [Value.slice.injEq, true_and] at hv
      obtain ⟨rfl, rfl⟩ := hv
      obtain ⟨bv, hr, hb⟩ := hrows j f hf
      have k0 : w.cell? ⟨b, o + j * 2, none⟩ = some (strV f.name) := hr 0 _ rfl
      have HF := Lib.hid hf
      clear hr hb hrows hf
      by_cases hn : f.name = n
      · have hn1 : eqB f.name n = true := eqB_iff.2 hn
        have HN := Lib.hid hn
        clear hn
        go_wp2
        go_ret
        exact ⟨_, rfl, .inr ⟨j, f, rfl, HF.out, HN.out, HT.out⟩, rfl⟩
      · have hn1 : eqB f.name n = false := Bool.eq_false_iff.2 fun h => hn (eqB_iff.1 h)
        have HN := Lib.hid hn
        clear hn
        go_wp2
        exact ⟨⟨j + 1, by go_num, by omega, take_mem_step HF.out HT.out HN.out⟩, by simp [intOf]; omega⟩
    · go_wp2
      go_ret
      exact ⟨_, rfl, .inl ⟨rfl, by have := HT.out; rwa [List.take_of_length_le (by omega)] at this⟩, rfl⟩
end Go.Proofs.Ytbgcjbpkgijmeaa
