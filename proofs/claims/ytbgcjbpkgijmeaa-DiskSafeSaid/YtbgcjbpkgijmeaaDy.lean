/-
  A row of one operation in a block of its own; the first bytes of a row of bytes.
  Conditions: none beyond those typed at each theorem.
-/
import Derived.Test.YtbgcjbpkgijmeaaDv
namespace Go.Proofs.Ytbgcjbpkgijmeaa
open Go Go.RowKit

theorem by_take {S : Nat → Prop} {w : World} {a : Option Addr} {n c : Nat} {l : Bs} (h : IsBy S w (.slice a n c) l) {k : Nat} (hk : k ≤ l.length) : IsBy S w (.slice a k c) (l.take k) := by
  have hl : (l.take k).length = k := by rw [List.length_take]; omega
  unfold IsBy SL at h ⊢
  refine ⟨fun e he => ?_, ?_⟩
  · obtain ⟨x, _, rfl⟩ := List.mem_map.1 he; rfl
  · rcases h.2 with ⟨⟨a', c', hv, hc⟩, h0⟩ | ⟨b, off, cap, hv, h1, h2, h3, h4⟩
    · simp only [Value.slice.injEq] at hv
      obtain ⟨rfl, rfl, rfl⟩ := hv
      have h00 : l = [] := by simpa using h0
      subst h00
      have hk0 : k = 0 := by simpa using hk
      subst hk0
      exact .inl ⟨⟨_, _, rfl, hc⟩, rfl⟩
    · simp only [Value.slice.injEq] at hv
      obtain ⟨rfl, hn, rfl⟩ := hv
      rw [flat_one] at h4
      refine .inr ⟨b, off, c, by rw [List.length_map, hl], by rw [List.length_map, hl]; rw [List.length_map] at h1; omega, h2, h3, ?_⟩
      rw [flat_one]
      intro j u hu
      refine h4 j u ?_
      rw [List.map_take] at hu
      rw [List.getElem?_take] at hu
      split at hu
      · exact hu
      · cases hu
theorem ops_one {w : World} {p : Nat} {o : Opr} {bv : Value} (h : w.heap[p]? = some (.cells #[.int .u8 o.kind, strV o.name, strV o.to, bv] 32 (0, 0))) (hb : IsBy (fun _ => True) w bv o.data) (hok : opE.ok o) :
    IsOps (fun _ => True) w (.slice (some ⟨p, 0, none⟩) 1 1) [o] := by
  refine ⟨[bv], rfl, ⟨fun e he => ?_, .inr ⟨p, 0, 1, rfl, Nat.le_refl _, by decide, trivial, ?_⟩⟩, fun i x b hx hb' => ?_, fun x hx => ?_⟩
  · simp only [List.zipWith_cons_cons, List.zipWith_nil_right, List.mem_singleton] at he
    subst he; rfl
  · show w.rangeAt p 0 (opCells o bv ++ [])
    rw [List.append_nil]
    exact range_row h
  · cases i with
    | zero =>
      simp only [List.getElem?_cons_zero, Option.some.injEq] at hx hb'
      subst hx; subst hb'; exact hb
    | succ i => simp at hx
  · rw [List.mem_singleton.1 hx]; exact hok
end Go.Proofs.Ytbgcjbpkgijmeaa
