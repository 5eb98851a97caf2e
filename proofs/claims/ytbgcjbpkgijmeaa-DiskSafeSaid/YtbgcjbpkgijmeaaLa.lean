/-
  The plain law of disks: what an operation leaves; a disk that may be may be behind it.
  Conditions: none beyond those typed at each theorem. No program in sight.
-/
import Derived.Test.YtbgcjbpkgijmeaaDa
namespace Go.Proofs.Ytbgcjbpkgijmeaa

theorem right_iff (d : Dsk) : rightB d = true ↔ chainB [] d.files = true ∧ (∀ o ∈ d.queue, fineB o = true) ∧ d.queue.length ≤ 400 ∧ 0 ≤ d.quota ∧ 0 ≤ d.fuse ∧ (usedN d : Int) ≤ d.quota := by
  unfold rightB
  simp only [Bool.and_eq_true, List.all_eq_true, decide_eq_true_eq]
  exact ⟨fun ⟨⟨⟨⟨⟨a, b⟩, c⟩, d⟩, e⟩, f⟩ => ⟨a, b, c, d, e, f⟩, fun ⟨a, b, c, d, e, f⟩ => ⟨⟨⟨⟨⟨a, b⟩, c⟩, d⟩, e⟩, f⟩⟩
theorem now_push (d : Dsk) (o : Opr) : nowL { d with queue := d.queue ++ [o] } = step (nowL d) o := by simp [nowL]
theorem burn_parts (d : Dsk) : (burnP d).files = d.files ∧ (burnP d).queue = d.queue ∧ (burnP d).quota = d.quota := by unfold burnP; split <;> exact ⟨rfl, rfl, rfl⟩
theorem burn_now (d : Dsk) : nowL (burnP d) = nowL d := by
  obtain ⟨h1, h2, h3⟩ := burn_parts d
  unfold nowL; rw [h1, h2]
theorem burn_fuse {d : Dsk} (h : 0 ≤ d.fuse) : 0 ≤ (burnP d).fuse := by
  unfold burnP; split
  · show 0 ≤ d.fuse - 1; omega
  · exact h
theorem right_burn {d : Dsk} (h : rightB d = true) : rightB (burnP d) = true := by
  obtain ⟨h1, h2, h3, h4, h5, h6⟩ := (right_iff d).1 h
  obtain ⟨k1, k2, k3⟩ := burn_parts d
  refine (right_iff _).2 ⟨by rw [k1]; exact h1, by rw [k2]; exact h2, by rw [k2]; exact h3, by rw [k3]; exact h4, burn_fuse h5, ?_⟩
  unfold usedN at h6 ⊢
  rw [burn_now, k3]; exact h6
/-- What an operation wants to be done. -/
theorem do_ok {d : Dsk} {o : Opr} : doE d o = 0 ↔ rightB d = true ∧ d.dead = false ∧ fineB o = true ∧ (get (nowL d) o.name ≠ none ∨ o.kind = 1) ∧ (o.kind = 2 → (usedN d : Int) + o.data.length ≤ d.quota) ∧ d.queue.length ≠ 400 := by
  unfold doE mayP
  cases hr : rightB d
  · simp
  · cases hd : d.dead
    · cases hf : fineB o
      · simp
      · simp only [Bool.true_eq_false, if_false, Bool.false_eq_true, ne_eq, not_true_eq_false, if_false, true_and]
        by_cases h1 : get (nowL d) o.name = none ∧ ¬ o.kind = 1
        · rw [if_pos h1]
          constructor
          · intro h; exact absurd h (by decide)
          · rintro ⟨h2, _⟩
            rcases h2 with h2 | h2
            · exact absurd h1.1 h2
            · exact absurd h2 h1.2
        · rw [if_neg h1]
          have h1' : ¬ get (nowL d) o.name = none ∨ o.kind = 1 := by
            by_cases h : o.kind = 1
            · exact .inr h
            · exact .inl fun e => h1 ⟨e, h⟩
          by_cases h2 : o.kind = 2 ∧ (usedN d : Int) + o.data.length > d.quota ∨ d.queue.length = 400
          · rw [if_pos h2]
            constructor
            · intro h; exact absurd h (by decide)
            · rintro ⟨_, h3, h4⟩
              rcases h2 with ⟨h2, h5⟩ | h2
              · have := h3 h2; omega
              · exact absurd h2 h4
          · rw [if_neg h2]
            refine ⟨fun _ => ⟨h1', fun h => ?_, fun h => h2 (.inr h)⟩, fun _ => rfl⟩
            have : ¬ (usedN d : Int) + o.data.length > d.quota := fun e => h2 (.inl ⟨h, e⟩)
            omega
    · simp
theorem do_bad {d : Dsk} {o : Opr} (h : doE d o ≠ 0) : doD d o = d := if_neg h
theorem do_good {d : Dsk} {o : Opr} (h : doE d o = 0) : doD d o = burnP { d with queue := d.queue ++ [o] } := if_pos h
theorem right_push {d : Dsk} {o : Opr} (h : doE d o = 0) : rightB { d with queue := d.queue ++ [o] } = true := by
  obtain ⟨hr, _, hf, _, hq, hn⟩ := do_ok.1 h
  obtain ⟨h1, h2, h3, h4, h5, h6⟩ := (right_iff d).1 hr
  refine (right_iff _).2 ⟨h1, fun x hx => ?_, by simp; omega, h4, h5, ?_⟩
  · rcases List.mem_append.1 hx with hx | hx
    · exact h2 x hx
    · rw [List.mem_singleton.1 hx]; exact hf
  · unfold usedN at hq h6 ⊢
    rw [now_push]
    have := sizeL_step (nowL d) o
    show (sizeL (step (nowL d) o) : Int) ≤ d.quota
    by_cases hk : o.kind = 2
    · have := hq hk; rw [if_pos hk] at *; omega
    · rw [if_neg hk] at *; omega
theorem right_do {d : Dsk} (o : Opr) (h : rightB d = true) : rightB (doD d o) = true := by
  by_cases he : doE d o = 0
  · rw [do_good he]; exact right_burn (right_push he)
  · rw [do_bad he]; exact h
theorem quota_do (d : Dsk) (o : Opr) : (doD d o).quota = d.quota := by
  by_cases he : doE d o = 0
  · rw [do_good he, (burn_parts _).2.2]
  · rw [do_bad he]
theorem used_right {d : Dsk} (h : rightB d = true) : (usedN d : Int) ≤ d.quota := ((right_iff d).1 h).2.2.2.2.2
theorem do_cnt (d : Dsk) (o : Opr) : cnt (doD d o) ≤ cnt d + 1 := by
  by_cases he : doE d o = 0
  · rw [do_good he]; unfold cnt; rw [(burn_parts _).1, (burn_parts _).2.1]; simp; omega
  · rw [do_bad he]; omega
theorem do_tot (d : Dsk) (o : Opr) : tot (doD d o) ≤ tot d + o.data.length := by
  by_cases he : doE d o = 0
  · rw [do_good he]; unfold tot; rw [(burn_parts _).1, (burn_parts _).2.1]; simp only [sizeQ_append, sizeQ_cons]
    have : sizeQ [] = 0 := rfl
    omega
  · rw [do_bad he]; omega
theorem do_now {d : Dsk} {o : Opr} (h : doE d o = 0) : nowL (doD d o) = step (nowL d) o := by rw [do_good h, burn_now, now_push]

/-! ### names: a disk with room -/
theorem burn_zero {d : Dsk} (h : d.fuse = 0) : burnP d = d := by unfold burnP; rw [if_neg (by omega)]
/-- What is asked of a disk at each step of the law of names. -/
structure Room (d : Dsk) (q m : Nat) : Prop where
  right : rightB d = true
  dead : d.dead = false
  fuse : d.fuse = 0
  len : d.queue.length ≤ q
  used : (usedN d : Int) + m ≤ d.quota
theorem room_do {d : Dsk} {q m : Nat} {o : Opr} (h : Room d q m) (hq : q < 400) (hf : fineB o = true) (hg : get (nowL d) o.name ≠ none ∨ o.kind = 1) (hk : o.kind = 2 → o.data.length ≤ m) :
    doE d o = 0 ∧ nowL (doD d o) = step (nowL d) o ∧ Room (doD d o) (q + 1) (if o.kind = 2 then m - o.data.length else m) ∧ (doD d o).files = d.files ∧ (doD d o).queue = d.queue ++ [o] := by
  have he : doE d o = 0 := do_ok.2 ⟨h.right, h.dead, hf, hg, fun k => by have := h.used; have := hk k; omega, by have := h.len; omega⟩
  have hb : doD d o = { d with queue := d.queue ++ [o] } := by rw [do_good he]; exact burn_zero h.fuse
  refine ⟨he, do_now he, ⟨right_do o h.right, by rw [hb]; exact h.dead, by rw [hb]; exact h.fuse, ?_, ?_⟩, by rw [hb], by rw [hb]⟩
  · rw [hb]; have := h.len; simp; omega
  · rw [quota_do]
    unfold usedN
    rw [do_now he]
    have h1 := sizeL_step (nowL d) o
    have h2 := h.used
    unfold usedN at h2
    by_cases k : o.kind = 2
    · rw [if_pos k] at h1; rw [if_pos k]; have := hk k; omega
    · rw [if_neg k] at h1; rw [if_neg k]; omega
theorem step_create (l : List Fl) (n t b : Bs) : get (step l ⟨1, n, t, b⟩) n = some [] := by
  show get (put l ⟨n, []⟩) n = _
  rw [get_put, if_pos rfl]
theorem step_append {l : List Fl} {n x : Bs} (h : get l n = some x) (t b : Bs) : get (step l ⟨2, n, t, b⟩) n = some (x ++ b) := by
  unfold step
  rw [if_neg (show ¬ ((2 : Int) = 1) by decide)]
  simp only [h]
  show get (put l ⟨n, x ++ b⟩) n = _
  rw [get_put, if_pos rfl]
theorem step_rename {l : List Fl} {n x : Bs} (h : get l n = some x) {t : Bs} (ht : t ≠ n) (b : Bs) : get (step l ⟨3, n, t, b⟩) t = some x ∧ get (step l ⟨3, n, t, b⟩) n = none := by
  unfold step
  rw [if_neg (show ¬ ((3 : Int) = 1) by decide)]
  simp only [h]
  show get (put (del l n) ⟨t, x⟩) t = _ ∧ get (put (del l n) ⟨t, x⟩) n = _
  rw [get_put, if_pos rfl, get_put, if_neg (show n ≠ t from ht.symm), get_del, if_pos rfl]
  exact ⟨rfl, rfl⟩
theorem step_remove {l : List Fl} {n x : Bs} (h : get l n = some x) (t b : Bs) : get (step l ⟨4, n, t, b⟩) n = none := by
  unfold step
  rw [if_neg (show ¬ ((4 : Int) = 1) by decide)]
  simp only [h]
  show get (del l n) n = _
  rw [get_del, if_pos rfl]
end Go.Proofs.Ytbgcjbpkgijmeaa
