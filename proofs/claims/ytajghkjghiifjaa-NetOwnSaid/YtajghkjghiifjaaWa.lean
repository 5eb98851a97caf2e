/-
  Walks: small functions of slices of entries and messages.
-/
import Derived.Test.YtajghkjghiifjaaProg
import Derived.Test.YtajghkjghiifjaaData
import Derived.WalkKit
import Derived.WalkSpells
import Derived.WalkLawsBesides
import Derived.Lib.Hide
import Derived.Deep.QuietTactic
import Derived.BigQuiet
import Derived.Maps.AppendAt
namespace Go.Proofs.Ytajghkjghiifjaa
open Go Go.RowKit
theorem Try.info53 : (Try.prog.info? 53).map (fun i => (i.zero, i.size, i.bytes)) = some (some (.agg #[.int .i64 0, .int .i64 0, .int .i64 0]), 3, 24) := by kernel_rfl

theorem eq_nil27 (w : World) (a : Option Addr) (n c : Nat) : (binOp .eql 27 (.slice a n c) (.slice none 0 0)).run Try.prog w = .ok (.bool a.isNone) w :=
  Lib.run_eql_slice_nil w 27 53 a n c 0 0 Try.underlying27
attribute [local go_sem] eq_nil27

set_option maxHeartbeats 400000 in
theorem clone_nil (w : World) (c : Nat) : Calls Try.prog 34 #[.slice none 0 c] w fun e w' => e = .returned (.slice none 0 0) ∧ w = w' := by
  go_enter Try.func34, Try.ntmps34
  go_wp2
  go_ret
  exact ⟨rfl, rfl⟩
set_option maxHeartbeats 400000 in
theorem clone_some (w : World) (ad : Addr) (len cap : Nat) (es : List Ent) (hlen : len = es.length) (hl : len ≤ 1000000) (hr : ∀ W, Gr w W → ∀ j u, (es.map entCells).flatten[j]? = some u → W.cell? (ad.add j) = some u) :
    Calls Try.prog 34 #[.slice (some ad) len cap] w fun e w' => ∃ v', e = .returned v' ∧ Gr w w' ∧ OwnEnts w.heap.size w' v' es := by
  obtain ⟨i0, hi, hz0, hz1, hz2⟩ := info_parts Try.info53
  have hrow := World.ownsRow_made w (#[] : Array Value) 0 (base := w.heap.size) (e := 53) (size := 3) (Nat.le_refl _) (Nat.zero_le _) rfl
  have hr' := hr _ (Gr.alloc (Gr.refl w) (.cells #[] 53))
  have HR := Lib.hid hr'
  clear hr hr'
  have HL := Lib.hid hlen
  clear hlen
  go_enter Try.func34, Try.ntmps34
  go_wp2_with (at_builtin; refine wpList_append_own_at _ rfl _ _ 27 rfl w.heap.size 53 i0 _ 3 24 Try.underlying27 hi hz0 hz1 hz2 rfl (by decide) _ _ _ rfl hrow ad len cap (es.map entCells).flatten rfl ?c0 ?c1 ?c2 ?c3 ?c4 ?c5 ?_)
  case c0 => rw [ents_flat_length, HL.out]
  case c1 => exact HR.out
  case c2 => exact ents_flat_one es
  case c3 => unfold maxLen; omega
  case c4 => omega
  case c5 => simp
  intro v' w1 hown hgr _ _
  go_wp2
  go_ret
  refine ⟨v', rfl, ?_, by unfold OwnEnts; rw [← HL.out]; exact hown⟩
  exact Below.grown (Gr.alloc (Gr.refl w) _) hgr (by simp) (by intro k hk; simp [Value.ownBlock] at hk; omega)

/-- slices.Clone of entries: as many of the call's own. -/
theorem clone_any (w : World) (S : Nat → Prop) (v : Value) (es : List Ent) (hv : IsEnts S w v es) (hl : es.length ≤ 1000000) :
    Calls Try.prog 34 #[v] w fun e w' => ∃ v', e = .returned v' ∧ Gr w w' ∧ OwnEnts w.heap.size w' v' es := by
  rcases hv.2 with ⟨⟨a, c, rfl, _⟩, h0⟩ | ⟨b, off, cap, rfl, h1, h2, h3, h4⟩
  · have : es = [] := by simpa using h0
    subst this
    cases a with
    | none =>
      refine (clone_nil w c).mono ?_
      rintro e w' ⟨rfl, rfl⟩
      exact ⟨_, rfl, Gr.refl w, World.ownsRow_nil _ _ _ _⟩
    | some ad => exact clone_some w ad 0 c [] rfl (by omega) (fun W _ j u hu => by simp at hu)
  · refine clone_some w ⟨b, off, none⟩ _ cap es (by simp) (by simpa using hl) (fun W hg => add_cells (rangeAt_kp (Gr.kp hg (fun _ _ => True)) h4 (fun _ _ _ _ => trivial)))
end Go.Proofs.Ytajghkjghiifjaa
