/-
  Maps whose elements are taken as they stand; the map of what operations do.
  Conditions: none beyond those typed at each theorem.
-/
import Derived.Test.YtbgcjbpkgijmeaaDb
import Derived.Maps.OwnIn
import Derived.Maps.Views
import Derived.OwnWalkIn
import Derived.TacticsInMore
import Derived.LoopNIn
import Derived.LoopIn
import Derived.Lib.Hide
import Derived.Shelf.Abstract
import Derived.Shelf.RegionOpen
namespace Go.Proofs.Ytbgcjbpkgijmeaa
open Go Go.RowKit Go.Maps

/-- An element is read as itself. -/
def heldE (v : Value) : Option (DataW Value × List MemPlace) := some (.held v, [])
theorem law9 : Keyed Try.prog 9 := string_keyed Try.underlying9
theorem law5 : Keyed Try.prog 5 := int_keyed Try.underlying5
theorem zero76 (w : World) : (zeroValue 76).run Try.prog w = .ok .nilFunc w := by kernel_rfl
theorem zero30 (w : World) : (zeroValue 30).run Try.prog w = .ok (.slice none 0 0) w := by kernel_rfl
theorem key_str {l : Bs} (h : l.length ≤ maxLen) : keyOf Try.prog 9 (strV l) = some (.string l) := by
  have := WideMaps.keyOf_string_mk Try.underlying9 (s := ⟨l.toArray⟩) (by simpa [ByteArray.size] using h)
  simpa using this
theorem key_u8 {k : Int} (h : (Lit.int .u8 k).wf = true) : keyOf Try.prog 5 (.int .u8 k) = some (.int .u8 k) := keyOf_int_mk Try.underlying5 h

theorem look_held {w : World} {b n : Nat} {D : DataW Value} {K t e : TypeId} (hown : w.ownsMap Try.prog K heldE b n D) (law : Keyed Try.prog K) (ht : Try.prog.underlying t = some (.map K e)) {z : Value} (hz : (zeroValue e).run Try.prog w = .ok z w)
    {key : Value} {kl : Lit} (hkey : keyOf Try.prog K key = some kl) {v : Value} (hv : D.atKey kl (.held z) = .held v) : (Instr.lookup t (.map (some b)) key false).run Try.prog w = .ok v w := by
  obtain ⟨v', ps, hrun, hv'⟩ := hown.lookup law ht hz (z := z) (zd := .held z) (zp := []) rfl hkey
  rw [hv] at hv'
  simp only [heldE, Option.some.injEq, Prod.mk.injEq, DataW.held.injEq] at hv'
  rw [hrun, hv'.1]
theorem look_held_ok {w : World} {b n : Nat} {D : DataW Value} {K t e : TypeId} (hown : w.ownsMap Try.prog K heldE b n D) (law : Keyed Try.prog K) (ht : Try.prog.underlying t = some (.map K e)) {z : Value} (hz : (zeroValue e).run Try.prog w = .ok z w)
    {key : Value} {kl : Lit} (hkey : keyOf Try.prog K key = some kl) {v : Value} (hv : D.atKey kl (.held z) = .held v) {r : Bool} (hr : Maps.has D kl = r) : (Instr.lookup t (.map (some b)) key true).run Try.prog w = .ok (.tuple #[v, .bool r]) w := by
  obtain ⟨v', ps, hrun, hv'⟩ := hown.look_ok law ht hz (z := z) (zd := .held z) (zp := []) rfl hkey
  rw [hv] at hv'
  simp only [heldE, Option.some.injEq, Prod.mk.injEq, DataW.held.injEq] at hv'
  rw [hrun, hv'.1, hr]

theorem Try.underlying77 : Try.prog.underlying 77 = some (.map 5 76) := by kernel_rfl
abbrev fnV (f : Nat) : Value := .func (.func f) #[] #[]
/-- What operations do. -/
def deedsD : DataW Value := ((((DataW.map []).put (.int .u8 1) (.held (fnV 51))).put (.int .u8 2) (.held (fnV 52))).put (.int .u8 3) (.held (fnV 54))).put (.int .u8 4) (.held (fnV 55))
def deedV (k : Int) : Value := if k = 1 then fnV 51 else if k = 2 then fnV 52 else if k = 3 then fnV 54 else if k = 4 then fnV 55 else .nilFunc
theorem deedsD_at (k : Int) : deedsD.atKey (.int .u8 k) (.held .nilFunc) = .held (deedV k) := by
  unfold deedsD deedV
  have m0 : IsMap (.map [] : DataW Value) := isMap_empty
  have key : ∀ a : Int, WideAt.IsKeyLit (.int .u8 a) := fun _ => trivial
  have ne : ∀ {a b : Int}, a ≠ b → (Lit.int .u8 a) ≠ .int .u8 b := fun h e => h (by injection e)
  by_cases h4 : k = 4
  · subst h4
    rw [atKey_put_same (((m0.put _ _).put _ _).put _ _) (key 4)]; rfl
  · rw [atKey_put_other (ne h4)]
    by_cases h3 : k = 3
    · subst h3
      rw [atKey_put_same ((m0.put _ _).put _ _) (key 3)]; rfl
    · rw [atKey_put_other (ne h3)]
      by_cases h2 : k = 2
      · subst h2
        rw [atKey_put_same (m0.put _ _) (key 2)]; rfl
      · rw [atKey_put_other (ne h2)]
        by_cases h1 : k = 1
        · subst h1
          rw [atKey_put_same m0 (key 1)]; rfl
        · rw [atKey_put_other (ne h1), if_neg h1, if_neg h2, if_neg h3, if_neg h4]
          rfl
theorem grown_gr {A B C : World} (h : Gr A B) {row : Option Nat} (hg : B.grownBy C row) (hr : ∀ k, row = some k → A.heap.size ≤ k) : Gr A C := Gr.of (Below.grown (Gr.below h) hg h.size hr)

set_option maxRecDepth 100000 in
set_option maxHeartbeats 1000000 in
theorem deeds_any (w : World) : Calls Try.prog 43 #[] w fun e w' => e = .returned (.map (some w.heap.size)) ∧ w'.ownsMap Try.prog 5 heldE w.heap.size 4 deedsD ∧ Gr w w' := by
  have hmm := @run_makeMap Try.prog
  have h0 := World.ownsMap_made w Try.prog 5 heldE
  obtain ⟨w1, r1, h1, g1⟩ := h0.update (t := 77) law5 Try.underlying77 (by decide) (key_u8 (k := 1) rfl) (val := fnV 51) rfl
  obtain ⟨w2, r2, h2, g2⟩ := h1.update (t := 77) law5 Try.underlying77 (by decide) (key_u8 (k := 2) rfl) (val := fnV 52) rfl
  obtain ⟨w3, r3, h3, g3⟩ := h2.update (t := 77) law5 Try.underlying77 (by decide) (key_u8 (k := 3) rfl) (val := fnV 54) rfl
  obtain ⟨w4, r4, h4, g4⟩ := h3.update (t := 77) law5 Try.underlying77 (by decide) (key_u8 (k := 4) rfl) (val := fnV 55) rfl
  have le : ∀ k, some w.heap.size = some k → w.heap.size ≤ k := fun k hk => by cases hk; exact Nat.le_refl _
  have H4 := Lib.hid h4
  have G4 := Lib.hid (grown_gr (grown_gr (grown_gr (grown_gr (Gr.alloc (Gr.refl w) _) g1 le) g2 le) g3 le) g4 le)
  clear h0 h1 h2 h3 h4 g1 g2 g3 g4 le
  go_enter Try.func43, Try.ntmps43
  go_wp2
  go_ret
  exact ⟨rfl, H4.out, G4.out⟩
end Go.Proofs.Ytbgcjbpkgijmeaa
