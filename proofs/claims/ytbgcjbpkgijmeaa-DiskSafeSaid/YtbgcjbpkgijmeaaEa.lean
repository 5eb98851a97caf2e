/-
  The document's answer of disks: where a file lies, files without one; as plain lists.
  Conditions: none beyond those typed at each theorem. No program in sight.
-/
import Derived.Test.YtbgcjbpkgijmeaaDa
namespace Go.Proofs.Ytbgcjbpkgijmeaa

/-- Where the first file of that name lies, or -1. -/
def FoundAt (l : List Fl) (n : Bs) (r : Int) : Prop :=
  (r = -1 ∧ ∀ f ∈ l, f.name ≠ n) ∨ ∃ (k : Nat) (f : Fl), r = (k : Int) ∧ l[k]? = some f ∧ f.name = n ∧ ∀ g ∈ l.take k, g.name ≠ n
theorem FoundAt.lt {l : List Fl} {n : Bs} {r : Int} (h : FoundAt l n r) : -1 ≤ r ∧ r < l.length := by
  rcases h with ⟨rfl, _⟩ | ⟨k, f, rfl, hk, _⟩
  · omega
  · have := (List.getElem?_eq_some_iff.1 hk).1; omega
theorem take_step {α : Type} {l : List α} {k : Nat} {x : α} (h : l[k]? = some x) : l.take (k + 1) = l.take k ++ [x] := by
  rw [List.take_add_one, h]; rfl
theorem take_mem_step {l : List Fl} {k : Nat} {x : Fl} {P : Fl → Prop} (h : l[k]? = some x) (hp : ∀ g ∈ l.take k, P g) (hx : P x) : ∀ g ∈ l.take (k + 1), P g := by
  rw [take_step h]
  intro g hg
  rcases List.mem_append.1 hg with hg | hg
  · exact hp g hg
  · rw [List.mem_singleton.1 hg]; exact hx
theorem get_at {l : List Fl} {n : Bs} : ∀ {k : Nat} {f : Fl}, l[k]? = some f → f.name = n → (∀ g ∈ l.take k, g.name ≠ n) → get l n = some f.data := by
  induction l with
  | nil => intro k f h; simp at h
  | cons g r ih =>
    intro k f h hn ht
    cases k with
    | zero =>
      simp at h; subst h
      unfold get; rw [if_pos hn]
    | succ k =>
      unfold get
      rw [if_neg (ht g (by simp))]
      exact ih (by simpa using h) hn fun x hx => ht x (by simp [hx])
theorem FoundAt.get_none {l : List Fl} {n : Bs} {r : Int} (h : FoundAt l n r) : (r < 0) ↔ get l n = none := by
  rcases h with ⟨rfl, h⟩ | ⟨k, f, rfl, hk, hn, ht⟩
  · exact ⟨fun _ => Go.Proofs.Ytbgcjbpkgijmeaa.get_none.2 h, fun _ => by decide⟩
  · rw [get_at hk hn ht]
    exact ⟨fun h => by omega, fun h => by cases h⟩
/-- Files without one. -/
def withoutP (l : List Fl) (r : Int) : List Fl := if r < 0 then l else l.take r.toNat ++ l.drop (r.toNat + 1)
theorem without_del {l : List Fl} {n : Bs} {r : Int} (hs : Srt l) (h : FoundAt l n r) : withoutP l r = del l n := by
  rcases h with ⟨rfl, h⟩ | ⟨k, f, rfl, hk, hn, ht⟩
  · unfold withoutP del
    rw [if_pos (by decide)]
    exact (List.filter_eq_self.2 fun f hf => by simp [h f hf]).symm
  · unfold withoutP
    rw [if_neg (by omega), Int.toNat_natCast]
    subst hn
    have hsplit : l = l.take k ++ f :: l.drop (k + 1) := by
      have h1 := List.take_append_drop (k + 1) l
      rw [take_step hk, List.append_assoc] at h1
      exact h1.symm
    have h2 : ∀ g ∈ l.drop (k + 1), g.name ≠ f.name := by
      intro g hg
      rw [hsplit] at hs
      have h3 := (List.pairwise_append.1 hs).2.1
      exact (bs_ne ((List.pairwise_cons.1 h3).1 g hg)).symm
    generalize hA : l.take k = A at *
    generalize hB : l.drop (k + 1) = B at *
    rw [hsplit]
    unfold del
    rw [List.filter_append, List.filter_cons]
    simp only [decide_true, Bool.not_true, Bool.false_eq_true, if_false]
    rw [List.filter_eq_self.2 fun g hg => by simp [ht g hg], List.filter_eq_self.2 fun g hg => by simp [h2 g hg]]
theorem ins_at {f : Fl} : ∀ {l : List Fl} {k : Nat}, k ≤ l.length → (∀ g ∈ l.take k, g.name < f.name) → (∀ g, l[k]? = some g → ¬ g.name < f.name) → ins f l = l.take k ++ f :: l.drop k
  | [], k, hk, _, _ => by
    have : k = 0 := by simpa using hk
    subst this; rfl
  | g :: r, 0, _, _, h2 => by
    have := h2 g rfl
    unfold ins; rw [if_neg this]; rfl
  | g :: r, k + 1, hk, h1, h2 => by
    unfold ins
    rw [if_pos (h1 g (by simp))]
    have := ins_at (f := f) (l := r) (k := k) (by simpa using hk) (fun x hx => h1 x (by simp [hx])) (fun x hx => h2 x (by simpa using hx))
    rw [this]; rfl
theorem put_self {l : List Fl} {n b : Bs} (hs : Srt l) (h : get l n = some b) : put (del l n) ⟨n, b⟩ = l := by
  refine srt_ext (srt_put (srt_del hs _) _) hs fun m => ?_
  rw [get_put, get_del]
  by_cases e : m = n
  · subst e; simp [h]
  · simp [e]
/-- The first one of each name. -/
def firsts (l : List Fl) (f : Fl) : List Fl := if get l f.name = none then put l f else l
theorem srt_firsts {l : List Fl} (h : Srt l) (f : Fl) : Srt (firsts l f) := by
  unfold firsts; split
  · exact srt_put h f
  · exact h
theorem srt_firsts_all : ∀ (fs : List Fl) {l : List Fl}, Srt l → Srt (fs.foldl firsts l)
  | [], _, h => h
  | f :: fs, _, h => srt_firsts_all fs (srt_firsts h f)
theorem get_firsts (l : List Fl) (f : Fl) (n : Bs) : get (firsts l f) n = (get l n).or (get [f] n) := by
  unfold firsts
  by_cases h : get l f.name = none
  · rw [if_pos h, get_put]
    by_cases e : n = f.name
    · subst e; rw [if_pos rfl, h]; simp [get]
    · rw [if_neg e]; simp [get, Ne.symm e]
  · rw [if_neg h]
    by_cases e : n = f.name
    · subst e
      obtain ⟨x, hx⟩ := Option.ne_none_iff_exists'.1 h
      rw [hx]; rfl
    · simp [get, Ne.symm e]
theorem get_firsts_all (n : Bs) : ∀ (fs l : List Fl), get (fs.foldl firsts l) n = (get l n).or (get fs n)
  | [], l => by simp [get]
  | f :: fs, l => by
    rw [List.foldl_cons, get_firsts_all n fs, get_firsts, Option.or_assoc]
    congr 1
    rw [show get [f] n = if f.name = n then some f.data else none from rfl, show get (f :: fs) n = if f.name = n then some f.data else get fs n from rfl]
    by_cases e : f.name = n
    · simp [e]
    · simp [e]
theorem firsts_taken (fs : List Fl) : fs.foldl firsts [] = taken fs :=
  srt_ext (srt_firsts_all fs (by simp [Srt])) (srt_taken fs) fun n => by rw [get_firsts_all, get_taken]; rfl
end Go.Proofs.Ytbgcjbpkgijmeaa
