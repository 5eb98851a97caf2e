/-
  The plain law of disks: files in a sorted row, operations, what a disk answers.
  Conditions: none beyond those typed at each theorem. No program in sight.
-/
import Derived.Test.YtbgcjbpkgijmeaaRows
namespace Go.Proofs.Ytbgcjbpkgijmeaa

abbrev Bs := List UInt8
/-- A file. -/
structure Fl where
  name : Bs
  data : Bs
  deriving DecidableEq
/-- An operation. -/
structure Opr where
  kind : Int
  name : Bs
  to : Bs
  data : Bs
  deriving DecidableEq
/-- A disk. -/
structure Dsk where
  files : List Fl
  queue : List Opr
  quota : Int
  fuse : Int
  dead : Bool
  deriving DecidableEq

theorem bs_irr (a : Bs) : ¬ a < a := List.lt_irrefl a
theorem bs_tr {a b c : Bs} (h : a < b) (k : b < c) : a < c := List.lt_trans h k
theorem bs_eq {a b : Bs} (h : ¬ a < b) (k : ¬ b < a) : a = b := List.le_antisymm (List.not_lt.1 k) (List.not_lt.1 h)
theorem bs_asym {a b : Bs} (h : a < b) : ¬ b < a := fun k => bs_irr a (bs_tr h k)
theorem bs_ne {a b : Bs} (h : a < b) : a ≠ b := fun e => bs_irr b (e ▸ h)
theorem bs_nil {a : Bs} : [] < a ↔ a ≠ [] := by cases a <;> simp
theorem bs_nlt_nil (a : Bs) : ¬ a < [] := by cases a <;> simp
theorem bs_le_lt {a b c : Bs} (h : ¬ b < a) (k : b < c) : a < c := by
  by_cases e : a = b
  · subst e; exact k
  · by_cases l : a < b
    · exact bs_tr l k
    · exact absurd (bs_eq l h) e

/-! ### rows of files -/
/-- The bytes of the first file of that name. -/
def get : List Fl → Bs → Option Bs
  | [], _ => none
  | f :: r, n => if f.name = n then some f.data else get r n
def del (l : List Fl) (n : Bs) : List Fl := l.filter fun f => !decide (f.name = n)
def ins (f : Fl) : List Fl → List Fl
  | [] => [f]
  | g :: r => if g.name < f.name then g :: ins f r else f :: g :: r
def put (l : List Fl) (f : Fl) : List Fl := ins f (del l f.name)
def step (l : List Fl) (o : Opr) : List Fl :=
  if o.kind = 1 then put l ⟨o.name, []⟩
  else match get l o.name with
    | none => l
    | some b => if o.kind = 2 then put l ⟨o.name, b ++ o.data⟩ else if o.kind = 3 then put (del l o.name) ⟨o.to, b⟩ else if o.kind = 4 then del l o.name else l
def taken (fs : List Fl) : List Fl := fs.foldr (fun f l => put l f) []
def sizeL (l : List Fl) : Nat := (l.map fun f => f.data.length).sum
/-- Sorted by name. -/
def Srt (l : List Fl) : Prop := l.Pairwise fun a b => a.name < b.name

theorem get_none {l : List Fl} {n : Bs} : get l n = none ↔ ∀ f ∈ l, f.name ≠ n := by
  induction l with
  | nil => simp [get]
  | cons g r ih =>
    unfold get
    by_cases h : g.name = n
    · simp [h]
    · simp [h, ih]
theorem get_mem {l : List Fl} {n b : Bs} (h : get l n = some b) : (⟨n, b⟩ : Fl) ∈ l := by
  induction l with
  | nil => simp [get] at h
  | cons g r ih =>
    unfold get at h
    by_cases hg : g.name = n
    · rw [if_pos hg] at h; cases h; subst hg; simp
    · rw [if_neg hg] at h; simp [ih h]
theorem get_of_mem {l : List Fl} (hs : Srt l) {f : Fl} (h : f ∈ l) : get l f.name = some f.data := by
  induction l with
  | nil => simp at h
  | cons g r ih =>
    obtain ⟨h1, h2⟩ := List.pairwise_cons.1 hs
    unfold get
    rcases List.mem_cons.1 h with rfl | h
    · simp
    · rw [if_neg (bs_ne (h1 f h)), ih h2 h]
theorem mem_del {l : List Fl} {n : Bs} {f : Fl} : f ∈ del l n ↔ f ∈ l ∧ f.name ≠ n := by simp [del]
theorem mem_ins {f x : Fl} : ∀ {l : List Fl}, x ∈ ins f l ↔ x = f ∨ x ∈ l
  | [] => by simp [ins]
  | g :: r => by
    unfold ins
    split
    · simp only [List.mem_cons, mem_ins (l := r)]
      constructor
      · rintro (h | h | h) <;> simp [h]
      · rintro (h | h | h) <;> simp [h]
    · simp
theorem srt_del {l : List Fl} (h : Srt l) (n : Bs) : Srt (del l n) := List.Pairwise.filter _ h
theorem srt_ins {f : Fl} : ∀ {l : List Fl}, Srt l → (∀ g ∈ l, g.name ≠ f.name) → Srt (ins f l)
  | [], _, _ => by simp [ins, Srt]
  | g :: r, h, hn => by
    obtain ⟨h1, h2⟩ := List.pairwise_cons.1 h
    unfold ins
    split
    · rename_i hl
      refine List.pairwise_cons.2 ⟨fun x hx => ?_, srt_ins h2 fun x hx => hn x (by simp [hx])⟩
      rcases mem_ins.1 hx with rfl | hx
      · exact hl
      · exact h1 x hx
    · rename_i hl
      have hfg : f.name < g.name := by
        by_cases hlt : f.name < g.name
        · exact hlt
        · exact absurd (bs_eq hl hlt) (hn g (by simp))
      refine List.pairwise_cons.2 ⟨fun x hx => ?_, h⟩
      rcases List.mem_cons.1 hx with rfl | hx
      · exact hfg
      · exact bs_tr hfg (h1 x hx)
theorem srt_put {l : List Fl} (h : Srt l) (f : Fl) : Srt (put l f) := srt_ins (srt_del h _) fun _ hg => (mem_del.1 hg).2
theorem get_del {l : List Fl} (n m : Bs) : get (del l n) m = if m = n then none else get l m := by
  by_cases h : m = n
  · rw [if_pos h, get_none]; intro f hf; rw [h]; exact (mem_del.1 hf).2
  · rw [if_neg h]
    induction l with
    | nil => rfl
    | cons g r ih =>
      have e : del (g :: r) n = if g.name = n then del r n else g :: del r n := by
        by_cases hg : g.name = n <;> simp [del, hg]
      rw [e]
      by_cases hg : g.name = n
      · rw [if_pos hg, ih, get, if_neg (by rw [hg]; exact Ne.symm h)]
      · rw [if_neg hg, get, get, ih]
theorem get_ins {f : Fl} (m : Bs) : ∀ {l : List Fl}, (∀ g ∈ l, g.name ≠ f.name) → get (ins f l) m = if m = f.name then some f.data else get l m
  | [], _ => by
    by_cases h : m = f.name
    · subst h; simp [ins, get]
    · simp [ins, get, h, Ne.symm h]
  | g :: r, hn => by
    have hg := hn g (by simp)
    unfold ins
    split
    · rw [get, get_ins m fun x hx => hn x (by simp [hx]), get]
      by_cases h : m = f.name
      · subst h; simp [hg]
      · simp [h]
    · rw [get]
      by_cases h : m = f.name
      · subst h; simp
      · simp [h, Ne.symm h]
theorem get_put {l : List Fl} (f : Fl) (m : Bs) : get (put l f) m = if m = f.name then some f.data else get l m := by
  unfold put
  rw [get_ins m fun g hg => (mem_del.1 hg).2, get_del]
  by_cases h : m = f.name <;> simp [h]
/-- A sorted row is what it says. -/
theorem srt_ext : ∀ {a b : List Fl}, Srt a → Srt b → (∀ n, get a n = get b n) → a = b
  | [], [], _, _, _ => rfl
  | [], g :: r, _, _, h => by have := h g.name; simp [get] at this
  | g :: r, [], _, _, h => by have := h g.name; simp [get] at this
  | f :: a, g :: b, ha, hb, h => by
    obtain ⟨h1, h2⟩ := List.pairwise_cons.1 ha
    obtain ⟨h3, h4⟩ := List.pairwise_cons.1 hb
    have le : ∀ {f g : Fl} {a b : List Fl}, Srt (f :: a) → Srt (g :: b) → (∀ n, get (f :: a) n = get (g :: b) n) → ¬ f.name < g.name := fun {f g a b} hA hB hh hl => by
      have e1 : get (f :: a) f.name = some f.data := by simp [get]
      rw [hh] at e1
      have hm := get_mem e1
      rcases List.mem_cons.1 hm with e | e
      · rw [← e] at hl; exact bs_irr _ hl
      · exact bs_irr _ (bs_tr hl ((List.pairwise_cons.1 hB).1 _ e))
    have hn : f.name = g.name := bs_eq (le ha hb h) (le hb ha fun n => (h n).symm)
    have hd : f = g := by
      have e1 := h f.name
      rw [get, if_pos rfl, get, if_pos hn.symm] at e1
      cases f; cases g; simp_all
    subst hd
    refine congrArg _ (srt_ext h2 h4 fun n => ?_)
    by_cases e : f.name = n
    · have k1 : get a n = none := get_none.2 fun x hx => by rw [← e]; exact (bs_ne (h1 x hx)).symm
      have k2 : get b n = none := get_none.2 fun x hx => by rw [← e]; exact (bs_ne (h3 x hx)).symm
      rw [k1, k2]
    · have := h n
      rwa [get, if_neg e, get, if_neg e] at this

theorem srt_step {l : List Fl} (h : Srt l) (o : Opr) : Srt (step l o) := by
  unfold step
  split
  · exact srt_put h _
  · split
    · exact h
    · split
      · exact srt_put h _
      · split
        · exact srt_put (srt_del h _) _
        · split
          · exact srt_del h _
          · exact h
theorem srt_taken : ∀ fs : List Fl, Srt (taken fs)
  | [] => by simp [taken, Srt]
  | f :: r => srt_put (srt_taken r) f
theorem get_taken (n : Bs) : ∀ fs : List Fl, get (taken fs) n = get fs n
  | [] => rfl
  | f :: r => by
    show get (put (taken r) f) n = _
    rw [get_put, get_taken n r, get]
    by_cases h : n = f.name
    · subst h; simp
    · simp [h, Ne.symm h]
theorem taken_srt {fs : List Fl} (h : Srt fs) : taken fs = fs := srt_ext (srt_taken fs) h fun n => get_taken n fs
theorem srt_foldl {q : List Opr} : ∀ {l : List Fl}, Srt l → Srt (q.foldl step l) := by
  induction q with
  | nil => exact fun h => h
  | cons o q ih => exact fun h => ih (srt_step h o)

/-! ### sizes -/
theorem sizeL_cons (f : Fl) (r : List Fl) : sizeL (f :: r) = f.data.length + sizeL r := by simp [sizeL]
theorem sizeL_ins (f : Fl) : ∀ l : List Fl, sizeL (ins f l) = f.data.length + sizeL l
  | [] => by simp [ins, sizeL]
  | g :: r => by
    unfold ins
    split
    · rw [sizeL_cons, sizeL_ins f r, sizeL_cons]; omega
    · rw [sizeL_cons]
theorem sizeL_del_le (n : Bs) : ∀ l : List Fl, sizeL (del l n) ≤ sizeL l
  | [] => Nat.le_refl _
  | g :: r => by
    have := sizeL_del_le n r
    by_cases hg : g.name = n
    · have e : del (g :: r) n = del r n := by simp [del, hg]
      rw [e, sizeL_cons]; omega
    · have e : del (g :: r) n = g :: del r n := by simp [del, hg]
      rw [e, sizeL_cons, sizeL_cons]; omega
theorem sizeL_del_get {n b : Bs} : ∀ {l : List Fl}, get l n = some b → sizeL (del l n) + b.length ≤ sizeL l
  | [], h => by simp [get] at h
  | g :: r, h => by
    unfold get at h
    by_cases hg : g.name = n
    · have e : del (g :: r) n = del r n := by simp [del, hg]
      rw [if_pos hg] at h; cases h
      have := sizeL_del_le n r
      rw [e, sizeL_cons]; omega
    · have e : del (g :: r) n = g :: del r n := by simp [del, hg]
      rw [if_neg hg] at h
      have := sizeL_del_get h
      rw [e, sizeL_cons, sizeL_cons]; omega
theorem sizeL_put (l : List Fl) (f : Fl) : sizeL (put l f) = f.data.length + sizeL (del l f.name) := sizeL_ins _ _
theorem sizeL_get {l : List Fl} {n b : Bs} (h : get l n = some b) : b.length ≤ sizeL l := by have := sizeL_del_get h; omega
/-- An operation adds its bytes at most, and these only where it is an Append. -/
theorem sizeL_step (l : List Fl) (o : Opr) : sizeL (step l o) ≤ sizeL l + (if o.kind = 2 then o.data.length else 0) := by
  unfold step
  split
  · rename_i h
    rw [sizeL_put]; have := sizeL_del_le o.name l; simp; omega
  · split
    · omega
    · rename_i b hb
      have h1 := sizeL_del_get hb
      split
      · rw [sizeL_put]; simp; omega
      · split
        · rw [sizeL_put]
          have := sizeL_del_le o.to (del l o.name)
          simp; omega
        · split
          · omega
          · omega
theorem sizeL_taken : ∀ fs : List Fl, sizeL (taken fs) ≤ sizeL fs
  | [] => Nat.le_refl _
  | f :: r => by
    have h1 : sizeL (taken (f :: r)) = f.data.length + sizeL (del (taken r) f.name) := sizeL_put _ _
    have h2 := sizeL_del_le f.name (taken r)
    have h3 := sizeL_taken r
    rw [h1, sizeL_cons]; omega
def sizeQ (q : List Opr) : Nat := (q.map fun o => o.data.length).sum
theorem sizeQ_cons (o : Opr) (q : List Opr) : sizeQ (o :: q) = o.data.length + sizeQ q := by simp [sizeQ]
theorem sizeQ_append (p q : List Opr) : sizeQ (p ++ q) = sizeQ p + sizeQ q := by simp [sizeQ]
theorem sizeL_foldl (q : List Opr) : ∀ l : List Fl, sizeL (q.foldl step l) ≤ sizeL l + sizeQ q := by
  induction q with
  | nil => intro l; simp
  | cons o q ih =>
    intro l
    have h1 := ih (step l o)
    have h2 := sizeL_step l o
    have h3 : sizeL (step l o) ≤ sizeL l + o.data.length := by split at h2 <;> omega
    rw [sizeQ_cons, List.foldl_cons]; omega
theorem len_del_le (l : List Fl) (n : Bs) : (del l n).length ≤ l.length := List.length_filter_le _ _
theorem len_del_get {n b : Bs} : ∀ {l : List Fl}, get l n = some b → (del l n).length + 1 ≤ l.length
  | [], h => by simp [get] at h
  | g :: r, h => by
    unfold get at h
    by_cases hg : g.name = n
    · have e : del (g :: r) n = del r n := by simp [del, hg]
      have := len_del_le r n
      rw [e, List.length_cons]; omega
    · have e : del (g :: r) n = g :: del r n := by simp [del, hg]
      rw [if_neg hg] at h
      have := len_del_get h
      rw [e, List.length_cons, List.length_cons]; omega
theorem len_ins (f : Fl) : ∀ l : List Fl, (ins f l).length = l.length + 1
  | [] => rfl
  | g :: r => by
    unfold ins
    split
    · simp [len_ins f r]
    · simp
theorem len_put_le (l : List Fl) (f : Fl) : (put l f).length ≤ l.length + 1 := by
  unfold put; rw [len_ins]; have := len_del_le l f.name; omega
theorem len_step (l : List Fl) (o : Opr) : (step l o).length ≤ l.length + 1 := by
  unfold step
  split
  · exact len_put_le _ _
  · split
    · omega
    · rename_i b hb
      have h1 := len_del_get hb
      split
      · exact len_put_le _ _
      · split
        · have := len_put_le (del l o.name) ⟨o.to, b⟩; omega
        · split <;> omega
theorem len_taken : ∀ fs : List Fl, (taken fs).length ≤ fs.length
  | [] => Nat.le_refl _
  | f :: r => by
    have h1 : (taken (f :: r)).length ≤ (taken r).length + 1 := len_put_le _ _
    have := len_taken r
    simp; omega
theorem len_foldl (q : List Opr) : ∀ l : List Fl, (q.foldl step l).length ≤ l.length + q.length := by
  induction q with
  | nil => intro l; simp
  | cons o q ih =>
    intro l
    have h1 := ih (step l o)
    have h2 := len_step l o
    simp only [List.foldl_cons, List.length_cons]; omega

/-! ### disks -/
def nowL (d : Dsk) : List Fl := d.queue.foldl step (taken d.files)
def usedN (d : Dsk) : Nat := sizeL (nowL d)
def fineB (o : Opr) : Bool := decide (1 ≤ o.kind) && decide (o.kind ≤ 4) && decide (o.name ≠ []) && (decide (o.kind ≠ 3) || decide (o.to ≠ []))
def chainB : Bs → List Fl → Bool
  | _, [] => true
  | last, f :: r => decide (last < f.name) && chainB f.name r
def rightB (d : Dsk) : Bool := chainB [] d.files && d.queue.all fineB && decide (d.queue.length ≤ 400) && decide (0 ≤ d.quota) && decide (0 ≤ d.fuse) && decide ((usedN d : Int) ≤ d.quota)
def burnP (d : Dsk) : Dsk := if 0 < d.fuse then { d with fuse := d.fuse - 1, dead := decide (d.fuse - 1 = 0) } else d
def mayP (d : Dsk) : Int := if rightB d = false then 2 else if d.dead = true then 40 else 0
def doE (d : Dsk) (o : Opr) : Int :=
  if mayP d ≠ 0 then mayP d else if fineB o = false then 2 else if get (nowL d) o.name = none ∧ o.kind ≠ 1 then 42
  else if (o.kind = 2 ∧ (usedN d : Int) + o.data.length > d.quota) ∨ d.queue.length = 400 then 41 else 0
def doD (d : Dsk) (o : Opr) : Dsk := if doE d o = 0 then burnP { d with queue := d.queue ++ [o] } else d
def syncD (d : Dsk) : Dsk := if mayP d = 0 then burnP { d with files := nowL d, queue := [] } else d
def tornO (o : Opr) (torn : Int) : Opr := { o with data := o.data.take (min (max torn 0) o.data.length).toNat }
def keepN (d : Dsk) (keep : Int) : Nat := (min (max keep 0) d.queue.length).toNat
def crashL (d : Dsk) (keep torn : Int) : List Fl :=
  match d.queue[keepN d keep]? with
  | some o => if o.kind = 2 then step ((d.queue.take (keepN d keep)).foldl step (taken d.files)) (tornO o torn) else (d.queue.take (keepN d keep)).foldl step (taken d.files)
  | none => (d.queue.take (keepN d keep)).foldl step (taken d.files)
def crashD (d : Dsk) (keep torn : Int) : Dsk := if rightB d = true then ⟨crashL d keep torn, [], d.quota, 0, false⟩ else d
def newD (quota : Int) : Dsk := ⟨[], [], max quota 0, 0, false⟩
def readE (d : Dsk) (n : Bs) : Int := if get (nowL d) n = none then 42 else 0
def readB (d : Dsk) (n : Bs) : Bs := (get (nowL d) n).getD []
/-- No more than so many. -/
structure Sm (d : Dsk) : Prop where
  cnt : d.files.length + d.queue.length ≤ 1000000
  tot : sizeL d.files + sizeQ d.queue ≤ 1000000000000
def cnt (d : Dsk) : Nat := d.files.length + d.queue.length
def tot (d : Dsk) : Nat := sizeL d.files + sizeQ d.queue
theorem srt_now (d : Dsk) : Srt (nowL d) := srt_foldl (srt_taken _)
theorem len_now (d : Dsk) : (nowL d).length ≤ cnt d := Nat.le_trans (len_foldl _ _) (Nat.add_le_add_right (len_taken _) _)
theorem size_now (d : Dsk) : usedN d ≤ tot d := Nat.le_trans (sizeL_foldl _ _) (Nat.add_le_add_right (sizeL_taken _) _)
end Go.Proofs.Ytbgcjbpkgijmeaa
