/-
  Walks: slices.Clone at identities, slices.SortStableFunc, names.Sort.
  Conditions: none beyond those typed at each theorem.
-/
import Derived.Test.YtkhkjcoejkgfeaaDoorSf
import Derived.Test.YtkhkjcoejkgfeaaDoorNl
namespace Go.Proofs.YtkhkjcoejkgfeaaDoor
open Go Go.RowKit
theorem Tryd.info23 : (Tryd.prog.info? 23).map (fun i => (i.zero, i.size, i.bytes)) = some (some (.agg #[.int .u8 0, .int .i64 0, .int .i64 0]), 3, 24) := by kernel_rfl

theorem eq_nil33 (w : World) (a : Option Addr) (n c : Nat) : (binOp .eql 33 (.slice a n c) (.slice none 0 0)).run Tryd.prog w = .ok (.bool a.isNone) w :=
  Lib.run_eql_slice_nil w 33 23 a n c 0 0 Tryd.underlying33
attribute [local go_sem] eq_nil33

theorem ids_flat_length (xs : List Idn) : (xs.map idCells).flatten.length = xs.length * 3 := by
  rw [flatten_length (size := 3)]
  · simp
  · intro x hx; obtain ⟨e, _, rfl⟩ := List.mem_map.1 hx; rfl
theorem ids_flat_one (xs : List Idn) : ∀ u ∈ (xs.map idCells).flatten, u.oneCell' = true := by
  intro u hu
  obtain ⟨l, hl, hu⟩ := List.mem_flatten.1 hu
  obtain ⟨e, _, rfl⟩ := List.mem_map.1 hl
  simp only [idCells, List.mem_cons, List.not_mem_nil, or_false] at hu
  rcases hu with rfl | rfl | rfl <;> rfl
/-- A row of the call's own. -/
def OwnIds (base : Nat) (w : World) (v : Value) (xs : List Idn) : Prop := w.ownsRow base 23 3 v xs.length (xs.map idCells).flatten
theorem OwnIds.is {w : World} {base : Nat} {v : Value} {xs : List Idn} (h : OwnIds base w v xs) : IsIds (base ≤ ·) w v xs := by
  refine SL.of_owns (e := 23) ?_ ?_
  · intro x hx; obtain ⟨e, _, rfl⟩ := List.mem_map.1 hx; rfl
  · rw [List.length_map]; exact h
theorem range_flat {X : World} {B : Nat} : ∀ (xs : List Idn) (o : Nat), (∀ i x, xs[i]? = some x → X.rangeAt B (o + i * 3) (idCells x)) → X.rangeAt B o (xs.map idCells).flatten
  | [], _, _ => fun j v hv => by simp at hv
  | x :: xs, o, h => fun j v hv => by
    rw [List.map_cons, List.flatten_cons] at hv
    rcases Nat.lt_or_ge j 3 with hj | hj
    · rw [List.getElem?_append_left (by exact hj)] at hv
      have := h 0 x rfl j v hv
      simpa using this
    · rw [List.getElem?_append_right (by exact hj)] at hv
      have h2 := range_flat xs (o + 3) (fun i y hy => by
        have := h (i + 1) y (by simpa using hy)
        rwa [show o + (i + 1) * 3 = o + 3 + i * 3 by omega] at this) (j - 3) v hv
      rwa [show o + 3 + (j - 3) = o + j by omega] at h2

set_option maxHeartbeats 400000 in
theorem clone_nil (w : World) (c : Nat) : Calls Tryd.prog 23 #[.slice none 0 c] w fun e w' => e = .returned (.slice none 0 0) ∧ w = w' := by
  go_enter Tryd.func23, Tryd.ntmps23
  go_wp2
  go_ret
  exact ⟨rfl, rfl⟩
set_option maxHeartbeats 400000 in
theorem clone_some (w : World) (ad : Addr) (len cap : Nat) (es : List Idn) (hlen : len = es.length) (hl : len ≤ 1000000) (hr : ∀ W, Gr w W → ∀ j u, (es.map idCells).flatten[j]? = some u → W.cell? (ad.add j) = some u) :
    Calls Tryd.prog 23 #[.slice (some ad) len cap] w fun e w' => ∃ v', e = .returned v' ∧ Gr w w' ∧ OwnIds w.heap.size w' v' es := by
  obtain ⟨i0, hi, hz0, hz1, hz2⟩ : ∃ i0, Tryd.prog.info? 23 = some i0 ∧ i0.zero = some (.agg #[.int .u8 0, .int .i64 0, .int .i64 0]) ∧ i0.size = 3 ∧ i0.bytes = 24 := by
    have := Tryd.info23
    cases hh : Tryd.prog.info? 23 with
    | none => rw [hh] at this; cases this
    | some i =>
      rw [hh] at this
      simp only [Option.map_some, Option.some.injEq, Prod.mk.injEq] at this
      exact ⟨i, rfl, this.1, this.2.1, this.2.2⟩
  have hrow := World.ownsRow_made w (#[] : Array Value) 0 (base := w.heap.size) (e := 23) (size := 3) (Nat.le_refl _) (Nat.zero_le _) rfl
  have hr' := hr _ (Gr.alloc (Gr.refl w) (.cells #[] 23))
  have HR := Lib.hid hr'
  clear hr hr'
  have HL := Lib.hid hlen
  clear hlen
  go_enter Tryd.func23, Tryd.ntmps23
  go_wp2_with (at_builtin; refine wpList_append_own_at _ rfl _ _ 33 rfl w.heap.size 23 i0 _ 3 24 Tryd.underlying33 hi hz0 hz1 hz2 rfl (by decide) _ _ _ rfl hrow ad len cap (es.map idCells).flatten rfl ?c0 ?c1 ?c2 ?c3 ?c4 ?c5 ?_)
  case c0 => rw [ids_flat_length, HL.out]
  case c1 => exact HR.out
  case c2 => exact ids_flat_one es
  case c3 => unfold maxLen; omega
  case c4 => omega
  case c5 => simp
  intro v' w1 hown hgr _ _
  go_wp2
  go_ret
  refine ⟨v', rfl, ?_, by unfold OwnIds; rw [← HL.out]; simpa using hown⟩
  exact Below.grown (Gr.alloc (Gr.refl w) _) hgr (by simp) (by intro k hk; simp [Value.ownBlock] at hk; omega)

/-- slices.Clone of identities: as many of the call's own. -/
theorem clone_any (w : World) (S : Nat → Prop) (v : Value) (es : List Idn) (hv : IsIds S w v es) (hl : es.length ≤ 1000000) :
    Calls Tryd.prog 23 #[v] w fun e w' => ∃ v', e = .returned v' ∧ Gr w w' ∧ OwnIds w.heap.size w' v' es := by
  rcases hv.2 with ⟨⟨a, c, rfl, _⟩, h0⟩ | ⟨b, off, cap, rfl, h1, h2, h3, h4⟩
  · have : es = [] := by simpa using h0
    subst this
    cases a with
    | none =>
      refine (clone_nil w c).mono ?_
      rintro e w' ⟨rfl, rfl⟩
      exact ⟨_, rfl, Gr.refl w, World.ownsRow_nil _ _ _ _⟩
    | some ad => exact clone_some w ad 0 c [] rfl (by omega) (fun W _ j u hu => by simp at hu)
  · refine clone_some w ⟨b, off, none⟩ _ cap es (by simp) (by simpa using hl) (fun W hg => add_cells (rangeAt_kp (Gr.kp hg (fun _ _ => True)) h4 (fun _ _ _ _ => trivial)))

theorem insertion_zero (V f : Value) (W : World) : Calls Tryd.prog 34 #[V, .int .i64 0, .int .i64 0, f] W fun e w' => (∃ v, e = .returned v) ∧ w' = W := by
  go_enter Tryd.func34, Tryd.ntmps34
  go_wp2
  go_loopw [8] (fun iv wr => iv = .int .i64 1 ∧ wr = W) (fun _ _ => 0)
  case atStart => exact ⟨rfl, rfl⟩
  case round =>
    obtain ⟨rfl, h⟩ := hrel
    go_wp2
    exact bodyPost_end (results_none rfl _ _ _) rfl ⟨⟨_, rfl⟩, rfl⟩
theorem stable_zero (V f : Value) (W : World) : Calls Tryd.prog 30 #[V, .int .i64 0, f] W fun e w' => (∃ v, e = .returned v) ∧ w' = W := by
  have HI := Lib.hid (insertion_zero V f)
  go_enter Tryd.func30, Tryd.ntmps30
  go_wp2
  go_loopw [7, 8] (fun av bv wr => av = .int .i64 0 ∧ bv = .int .i64 20 ∧ wr = W) (fun _ _ _ => 0)
  case atStart => exact ⟨rfl, rfl, rfl⟩
  case round =>
    obtain ⟨rfl, rfl, h⟩ := hrel
    have HH := Lib.hid h
    clear h
    go_wp2_with fail
    refine (HI.out _).mono ?_
    rintro e w1 ⟨⟨v, rfl⟩, h1⟩
    have H1 := Lib.hid (h1.trans HH.out)
    clear h1
    go_wp2
    go_loopw [6] (fun sv wr => sv = .int .i64 20 ∧ wr = W) (fun _ _ => 0)
    case atStart => exact ⟨rfl, H1.out⟩
    case round =>
      obtain ⟨rfl, h⟩ := hrel
      go_wp2
      exact bodyPost_end (results_none rfl _ _ _) rfl ⟨⟨_, rfl⟩, rfl⟩

theorem sorts_zero (W : World) : Calls Tryd.prog 24 #[.slice none 0 0, .func (.func 22) #[] #[]] W fun e w' => (∃ v, e = .returned v) ∧ w' = W := by
  have HI := Lib.hid (stable_zero (.slice none 0 0) (.func (.func 22) #[] #[]))
  go_enter Tryd.func24, Tryd.ntmps24
  go_wp2_with fail
  refine (HI.out _).mono ?_
  rintro e w1 ⟨⟨v, rfl⟩, h1⟩
  have H1 := Lib.hid h1
  clear h1
  go_wp2
  exact bodyPost_end (results_none rfl _ _ _) rfl ⟨⟨_, rfl⟩, H1.out⟩
theorem sorts_some (w : World) (B n cap : Nat) (hB : B < w.heap.size) (d : List Idn) (W : World) (hr : RW w B n d W) (hn : n ≤ 40) :
    Calls Tryd.prog 24 #[.slice (some ⟨B, 0, none⟩) n cap, .func (.func 22) #[] #[]] W fun e w' => (∃ v, e = .returned v) ∧ ∃ M, M.Perm d ∧ Srt M ∧ RW w B n M w' := by
  have HR := Lib.hid hr
  clear hr
  go_enter Tryd.func24, Tryd.ntmps24
  go_wp2_with fail
  refine (stable_any w B n cap hB d _ HR.out hn).mono ?_
  rintro e w1 ⟨⟨v, rfl⟩, h1⟩
  have H1 := Lib.hid h1
  clear h1
  go_wp2
  exact bodyPost_end (results_none rfl _ _ _) rfl ⟨⟨_, rfl⟩, H1.out⟩

/-- names.Sort: a row of the call's own, in order. -/
theorem sort_any (w : World) (S : Nat → Prop) (v : Value) (xs : List Idn) (hv : IsIds S w v xs) (hl : xs.length ≤ 40) :
    Calls Tryd.prog 15 #[v] w fun e w' => ∃ v' M, e = .returned v' ∧ IsIds (w.heap.size ≤ ·) w' v' M ∧ M.Perm xs ∧ Srt M ∧ Gr w w' := by
  have HC := Lib.hid (clone_any w S v xs hv (by omega))
  clear hv
  go_enter Tryd.func15, Tryd.ntmps15
  go_wp2_with fail
  refine HC.out.mono ?_
  rintro e w1 ⟨v', rfl, hg, hown⟩
  rcases hown.2 with ⟨rfl, h0⟩ | ⟨g, cap, cur, rfl, hbg, hh, hn, hcm, hcs, ht⟩
  · have hx : xs = [] := List.eq_nil_of_length_eq_zero h0
    subst hx
    have H1 := Lib.hid (And.intro hg hown)
    clear hg hown h0
    go_wp2_with fail
    refine (sorts_zero w1).mono ?_
    rintro e w2 ⟨⟨v, rfl⟩, rfl⟩
    go_wp2
    go_ret
    exact ⟨_, [], rfl, OwnIds.is H1.out.2, List.Perm.refl _, srt_nil, H1.out.1⟩
  · have hB : g < w1.heap.size := by
      rcases Nat.lt_or_ge g w1.heap.size with h | h
      · exact h
      · rw [Array.getElem?_eq_none h] at hh; cases hh
    have hrw : RW w1 g xs.length xs w1 := by
      refine ⟨rfl, fun i x hx => ?_, fun i hi => ?_, ⟨rfl, rfl, rfl, Nat.le_refl _, fun _ _ _ => rfl⟩⟩
      · have hr := OwnIds.is hown
        obtain ⟨b, off, c, he, _, hrows⟩ := hr.some (by have := (List.getElem?_eq_some_iff.1 hx).1; omega)
        simp only [Value.slice.injEq, Option.some.injEq, Addr.mk.injEq, and_true, true_and] at he
        obtain ⟨⟨rfl, rfl⟩, rfl⟩ := he
        have := hrows i x hx
        rwa [Nat.zero_add] at this
      · intro j hj
        have hsz : i * 3 + j < cur.size := by rw [hcs]; omega
        refine ⟨?_, frozen_block hh⟩
        rw [cell_of_row w1 g (i * 3 + j) cur 23 (0, 0) hh, Array.getElem?_eq_getElem hsz]
        rfl
    have H1 := Lib.hid (And.intro hg (And.intro hrw (And.intro hB (And.intro hn (And.intro hcm hbg)))))
    clear hg hown hh hn hcm hcs ht hrw hB hbg
    go_wp2_with fail
    refine (sorts_some w1 g xs.length cap H1.out.2.2.1 xs w1 H1.out.2.1 hl).mono ?_
    rintro e w2 ⟨⟨v, rfl⟩, M, m1, m2, m3⟩
    have H2 := Lib.hid (And.intro m1 (And.intro m2 m3))
    clear m1 m2 m3
    go_wp2
    go_ret
    obtain ⟨hg, hrw, hB, hn, hcm, hbg⟩ := H1.out
    obtain ⟨m1, m2, m3⟩ := H2.out
    refine ⟨_, M, rfl, ⟨?_, ?_⟩, m1, m2, ?_⟩
    · intro x hx; obtain ⟨e, _, rfl⟩ := List.mem_map.1 hx; rfl
    · refine .inr ⟨g, 0, cap, by rw [List.length_map, m3.len]; rfl, by rw [List.length_map, m3.len]; exact hn, hcm, hbg, range_flat M 0 (fun i x hx => ?_)⟩
      rw [Nat.zero_add]
      exact m3.el i x hx
    · exact Below.grown hg m3.gr hg.size (by intro k hk; simp at hk; omega)
end Go.Proofs.YtkhkjcoejkgfeaaDoor
