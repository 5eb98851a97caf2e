/-
  The plain law of what is safe: behind a crash files are as behind a beginning of the operations, but for the last one's bytes.
  Conditions: none beyond those typed at each theorem. No program in sight.
-/
import Derived.Test.YtbgcjbpkgijmeaaLa
import Derived.Test.YtbgcjbpkgijmeaaEa
namespace Go.Proofs.Ytbgcjbpkgijmeaa

theorem chain_names : ∀ {fs : List Fl} {last : Bs}, chainB last fs = true → (∀ f ∈ fs, last < f.name) ∧ Srt fs
  | [], _, _ => ⟨by simp, by simp [Srt]⟩
  | f :: r, last, h => by
    unfold chainB at h
    simp only [Bool.and_eq_true, decide_eq_true_eq] at h
    obtain ⟨h1, h2⟩ := chain_names h.2
    refine ⟨fun g hg => ?_, List.pairwise_cons.2 ⟨h1, h2⟩⟩
    rcases List.mem_cons.1 hg with rfl | hg
    · exact h.1
    · exact bs_tr h.1 (h1 g hg)
theorem chain_of : ∀ {fs : List Fl} {last : Bs}, (∀ f ∈ fs, last < f.name) → Srt fs → chainB last fs = true
  | [], _, _, _ => rfl
  | f :: r, last, h, hs => by
    obtain ⟨h1, h2⟩ := List.pairwise_cons.1 hs
    unfold chainB
    rw [decide_eq_true (h f (by simp)), chain_of h1 h2]; rfl
/-- Names of files behind an operation that may be. -/
def Nm (l : List Fl) : Prop := ∀ f ∈ l, f.name ≠ []
theorem nm_put {l : List Fl} {f : Fl} (h : Nm l) (hf : f.name ≠ []) : Nm (put l f) := by
  intro g hg
  rcases mem_ins.1 hg with rfl | hg
  · exact hf
  · exact h g (mem_del.1 hg).1
theorem nm_del {l : List Fl} (n : Bs) (h : Nm l) : Nm (del l n) := fun g hg => h g (mem_del.1 hg).1
theorem fine_parts {o : Opr} (h : fineB o = true) : 1 ≤ o.kind ∧ o.kind ≤ 4 ∧ o.name ≠ [] ∧ (o.kind = 3 → o.to ≠ []) := by
  unfold fineB at h
  simp only [Bool.and_eq_true, Bool.or_eq_true, decide_eq_true_eq] at h
  obtain ⟨⟨⟨h1, h2⟩, h3⟩, h4⟩ := h
  exact ⟨h1, h2, h3, fun e => h4.elim (fun k => absurd e k) id⟩
theorem nm_step {l : List Fl} {o : Opr} (h : Nm l) (ho : fineB o = true) : Nm (step l o) := by
  obtain ⟨h1, h2, h3, h4⟩ := fine_parts ho
  unfold step
  split
  · exact nm_put h h3
  · split
    · exact h
    · split
      · exact nm_put h h3
      · split
        · rename_i h5; exact nm_put (nm_del _ h) (h4 h5)
        · split
          · exact nm_del _ h
          · exact h
theorem nm_foldl {q : List Opr} : ∀ {l : List Fl}, Nm l → (∀ o ∈ q, fineB o = true) → Nm (q.foldl step l) := by
  induction q with
  | nil => exact fun h _ => h
  | cons o q ih => exact fun h hq => ih (nm_step h (hq o (by simp))) fun x hx => hq x (by simp [hx])
theorem now_chain {d : Dsk} (h : rightB d = true) : chainB [] (nowL d) = true := by
  obtain ⟨h1, h2, _⟩ := (right_iff d).1 h
  obtain ⟨h3, h4⟩ := chain_names h1
  refine chain_of (fun f hf => bs_nil.2 ?_) (srt_now d)
  refine nm_foldl ?_ h2 f hf
  rw [taken_srt h4]
  exact fun g hg => bs_nil.1 (h3 g hg)

/-- A disk whose queue came of operations, one behind the other; the files behind each. -/
structure Was (x : Dsk) (was : List (List Fl)) : Prop where
  right : rightB x = true
  dead : x.dead = false
  fuse : x.fuse = 0
  len : was.length = x.queue.length + 1
  at' : ∀ k, k ≤ x.queue.length → was[k]? = some ((x.queue.take k).foldl step (taken x.files))
theorem was_start {d : Dsk} (hr : rightB d = true) (hd : d.dead = false) (hq : d.queue = []) : Was { d with fuse := 0 } [nowL { d with fuse := 0 }] := by
  obtain ⟨h1, h2, h3, h4, h5, h6⟩ := (right_iff d).1 hr
  refine ⟨(right_iff _).2 ⟨h1, h2, h3, h4, Int.le_refl _, h6⟩, hd, rfl, by simp [hq], fun k hk => ?_⟩
  simp only [hq] at hk ⊢
  have : k = 0 := by simpa using hk
  subst this
  simp [nowL]
theorem was_do {x : Dsk} {was : List (List Fl)} {o : Opr} (h : Was x was) (he : doE x o = 0) : Was (doD x o) (was ++ [nowL (doD x o)]) := by
  have hb : doD x o = { x with queue := x.queue ++ [o] } := by rw [do_good he]; exact burn_zero h.fuse
  refine ⟨right_do o h.right, by rw [hb]; exact h.dead, by rw [hb]; exact h.fuse, by rw [hb]; simp [h.len], fun k hk => ?_⟩
  rw [hb] at hk ⊢
  simp only [List.length_append, List.length_cons, List.length_nil] at hk ⊢
  by_cases hl : k ≤ x.queue.length
  · rw [List.getElem?_append_left (by have := h.len; omega), h.at' k hl, List.take_append_of_le_length hl]
  · have : k = x.queue.length + 1 := by omega
    subst this
    rw [List.getElem?_append_right (by have := h.len; omega), h.len, Nat.sub_self, List.take_of_length_le (by simp)]
    rfl
theorem was_last {x : Dsk} {was : List (List Fl)} (h : Was x was) : was[was.length - 1]? = some (nowL x) := by
  rw [h.len, Nat.add_sub_cancel, h.at' _ (Nat.le_refl _), List.take_length]; rfl
theorem keep_id {x : Dsk} {k : Nat} (hk : k ≤ x.queue.length) : keepN x (k : Int) = k := by unfold keepN; omega
/-- The torn operation: an Append of none is no operation. -/
theorem put_same {l : List Fl} {n b : Bs} (hs : Srt l) (h : get l n = some b) : put l ⟨n, b⟩ = l := by
  refine srt_ext (srt_put hs _) hs fun m => ?_
  rw [get_put]
  by_cases e : m = n
  · subst e; rw [if_pos rfl, h]
  · rw [if_neg e]
theorem step_torn {l : List Fl} {o : Opr} (hk : o.kind = 2) (t : Bs) : step l { o with data := t } = match get l o.name with | none => l | some b => put l ⟨o.name, b ++ t⟩ := by
  unfold step
  rw [if_neg (by show ¬ o.kind = 1; omega)]
  show (match get l o.name with | none => l | some b => _) = _
  cases get l o.name with
  | none => rfl
  | some b => show (if o.kind = 2 then _ else _) = _; rw [if_pos hk]
theorem crash_whole {x : Dsk} {was : List (List Fl)} (h : Was x was) {k : Nat} (hk : k ≤ x.queue.length) : was[k]? = some (crashL x k 0) := by
  rw [h.at' k hk]
  unfold crashL
  rw [keep_id hk]
  have hs : Srt ((x.queue.take k).foldl step (taken x.files)) := srt_foldl (srt_taken _)
  generalize (x.queue.take k).foldl step (taken x.files) = l at *
  cases x.queue[k]? with
  | none => rfl
  | some o =>
    show _ = some (if o.kind = 2 then step l (tornO o 0) else l)
    by_cases ho : o.kind = 2
    · rw [if_pos ho]
      have e : tornO o 0 = { o with data := [] } := by unfold tornO; simp; omega
      rw [e, step_torn ho]
      cases hg : get l o.name with
      | none => rfl
      | some b => show some l = some (put l ⟨o.name, b ++ []⟩); rw [List.append_nil, put_same hs hg]
    · rw [if_neg ho]
/-- Each file of a torn crash is one that was, or begins as the next one does. -/
theorem crash_part {x : Dsk} {was : List (List Fl)} (h : Was x was) {k : Nat} (hk : k ≤ x.queue.length) (torn : Int) {cur next : List Fl} (hc : was[k]? = some cur) (hn : was[min (k + 1) (was.length - 1)]? = some next) :
    ∀ f ∈ crashL x k torn, f ∈ cur ∨ ∃ g ∈ next, g.name = f.name ∧ f.data = g.data.take f.data.length ∧ f.data.length ≤ g.data.length := by
  rw [h.at' k hk] at hc
  simp only [Option.some.injEq] at hc
  unfold crashL
  rw [keep_id hk]
  rw [hc]
  have hs : Srt cur := by rw [← hc]; exact srt_foldl (srt_taken _)
  cases hq : x.queue[k]? with
  | none => exact fun f hf => .inl hf
  | some o =>
    have hlt : k < x.queue.length := (List.getElem?_eq_some_iff.1 hq).1
    show ∀ f ∈ (if o.kind = 2 then step cur (tornO o torn) else cur), _
    by_cases ho : o.kind = 2
    · rw [if_pos ho]
      have e : tornO o torn = { o with data := o.data.take (min (max torn 0) o.data.length).toNat } := rfl
      rw [e, step_torn ho]
      have hnx : next = step cur o := by
        have := h.at' (k + 1) hlt
        rw [show min (k + 1) (was.length - 1) = k + 1 by have := h.len; omega, this] at hn
        simp only [Option.some.injEq] at hn
        rw [← hn, take_step hq, List.foldl_append, hc]; rfl
      have hso := step_torn (l := cur) ho o.data
      rw [show ({ o with data := o.data } : Opr) = o from rfl, ← hnx] at hso
      cases hg : get cur o.name with
      | none => exact fun f hf => .inl hf
      | some b =>
        rw [hg] at hso
        intro f hf
        rcases mem_ins.1 (show f ∈ put cur ⟨o.name, b ++ _⟩ from hf) with rfl | hf
        · refine .inr ⟨⟨o.name, b ++ o.data⟩, ?_, rfl, ?_, ?_⟩
          · rw [hso]; exact mem_ins.2 (.inl rfl)
          · show b ++ _ = (b ++ o.data).take (b ++ _).length
            rw [List.length_append, List.take_length_add_append]
            congr 1
            generalize (min (max torn 0) (o.data.length : Int)).toNat = n
            rw [List.length_take]
            by_cases hn : n ≤ o.data.length
            · rw [Nat.min_eq_left hn]
            · rw [Nat.min_eq_right (by omega), List.take_of_length_le (by omega), List.take_length]
          · show (b ++ _).length ≤ (b ++ o.data).length
            simp only [List.length_append, List.length_take]
            omega
        · exact .inl (mem_del.1 hf).1
    · rw [if_neg ho]; exact fun f hf => .inl hf
/-- All is made safe. -/
theorem was_sync {x : Dsk} {was : List (List Fl)} (h : Was x was) : mayP x = 0 ∧ (syncD x).files = nowL x ∧ rightB (syncD x) = true ∧ crashL (syncD x) 0 0 = nowL x := by
  have hm : mayP x = 0 := by unfold mayP; rw [h.right, h.dead]; decide
  have he : syncD x = { x with files := nowL x, queue := [] } := by
    unfold syncD; rw [if_pos hm]; exact burn_zero h.fuse
  have hn : nowL { x with files := nowL x, queue := [] } = nowL x := by
    show taken (nowL x) = _
    exact taken_srt (srt_now x)
  refine ⟨hm, by rw [he], ?_, ?_⟩
  · rw [he]
    obtain ⟨h1, h2, h3, h4, h5, h6⟩ := (right_iff x).1 h.right
    refine (right_iff _).2 ⟨now_chain h.right, by simp, by simp, h4, h5, ?_⟩
    unfold usedN at h6 ⊢
    rw [hn]; exact h6
  · rw [he]; exact hn
end Go.Proofs.Ytbgcjbpkgijmeaa
