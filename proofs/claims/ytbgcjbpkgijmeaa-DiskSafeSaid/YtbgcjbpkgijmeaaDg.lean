/-
  A map of files: what it says, how it is kept; walks: what each operation does to it.
  Conditions: none beyond those typed at each theorem.
-/
import Derived.Test.YtbgcjbpkgijmeaaDf
namespace Go.Proofs.Ytbgcjbpkgijmeaa
open Go Go.RowKit Go.Maps
attribute [local go_sem high] str_eql str_neq str_lss str_leq str_geq str_eql0 str_neq0

/-- Bytes that lie below n0, or in a row of bytes. -/
def By5 (n0 : Nat) (w : World) (v : Value) (l : Bs) : Prop := IsBy (fun b => b < n0 ∨ ∃ c f, w.heap[b]? = some (.cells c 5 f)) w v l
theorem By5.is {n0 : Nat} {w : World} {v : Value} {l : Bs} (h : By5 n0 w v l) : ∃ S, IsBy S w v l := ⟨_, h⟩
theorem By5.of_own {n0 base : Nat} {w : World} {v : Value} {l : Bs} (h : OwnBy base w v l) : By5 n0 w v l := by
  have hs := h.is
  refine ⟨hs.1, ?_⟩
  rcases hs.2 with h0 | ⟨b, off, cap, hv, h1, h2, h3, h4⟩
  · exact .inl h0
  · refine .inr ⟨b, off, cap, hv, h1, h2, .inr ?_, h4⟩
    obtain ⟨_, cur, hc⟩ := owns_elem h (k := b) (by rw [hv]; rfl)
    exact ⟨cur, _, hc⟩
theorem By5.of_low {n0 : Nat} {w : World} {v : Value} {l : Bs} (h : IsBy (· < n0) w v l) : By5 n0 w v l := h.mono fun _ hb => .inl hb
/-- .. as long as those below, and rows of bytes, are kept. -/
theorem By5.kp {n0 : Nat} {N : Nat → Obj → Prop} {A B : World} {v : Value} {l : Bs} (h : By5 n0 A v l) (hk : Kp N A B) (hN : ∀ b c e f, b < n0 ∨ e = 5 → A.heap[b]? = some (.cells c e f) → N b (.cells c e f)) : By5 n0 B v l := by
  have h1 := SL.kp hk h fun b c e f hS hb => hN b c e f (by
    rcases hS with h | ⟨c', f', h'⟩
    · exact .inl h
    · rw [hb] at h'; cases h'; exact .inr rfl) hb
  refine SL.mono h1 fun b hb => ?_
  rcases hb with h | ⟨c, f, h'⟩
  · exact .inl h
  · exact .inr ⟨c, f, hk.keep _ _ h' (hN b c 5 f (.inr rfl) h')⟩
theorem By5.gr {n0 : Nat} {A B : World} {v : Value} {l : Bs} (h : By5 n0 A v l) (hg : Gr A B) : By5 n0 B v l := h.kp (Gr.kp hg fun _ _ => True) fun _ _ _ _ _ _ => trivial

/-- A map of files. -/
abbrev OwnM (w : World) (b n : Nat) (D : DataW Value) : Prop := w.ownsMap Try.prog 9 heldE b n D
structure MapIs (n0 : Nat) (w : World) (D : DataW Value) (l : List Fl) : Prop where
  map : IsMap D
  no : ∀ n, get l n = none → Maps.has D (.string n) = false
  yes : ∀ n b, get l n = some b → ∃ v, (∀ zd, D.atKey (.string n) zd = .held v) ∧ By5 n0 w v b
section
variable {n0 : Nat} {w A B : World} {D : DataW Value} {l : List Fl}
theorem MapIs.kp {N : Nat → Obj → Prop} (h : MapIs n0 A D l) (hk : Kp N A B) (hN : ∀ b c e f, b < n0 ∨ e = 5 → A.heap[b]? = some (.cells c e f) → N b (.cells c e f)) : MapIs n0 B D l :=
  ⟨h.map, h.no, fun n b hb => let ⟨v, h1, h2⟩ := h.yes n b hb; ⟨v, h1, h2.kp hk hN⟩⟩
theorem MapIs.gr (h : MapIs n0 A D l) (hg : Gr A B) : MapIs n0 B D l := h.kp (Gr.kp hg fun _ _ => True) fun _ _ _ _ _ _ => trivial
theorem MapIs.nil (n0 : Nat) (w : World) : MapIs n0 w (.map []) [] := ⟨isMap_empty, fun _ _ => rfl, fun n b hb => by simp [get] at hb⟩
theorem MapIs.put (h : MapIs n0 w D l) (n : Bs) {v : Value} {b : Bs} (hv : By5 n0 w v b) : MapIs n0 w (D.put (.string n) (.held v)) (put l ⟨n, b⟩) := by
  refine ⟨h.map.put _ _, fun m hm => ?_, fun m b' hm => ?_⟩
  · rw [get_put] at hm
    split at hm
    · cases hm
    · rename_i hne
      rw [has_put_other (by intro hc; injection hc with hc; exact hne hc)]
      exact h.no m hm
  · rw [get_put] at hm
    split at hm
    · rename_i he
      cases hm
      subst he
      exact ⟨v, fun zd => atKey_put_same h.map (k := .string _) trivial _ _, hv⟩
    · rename_i hne
      obtain ⟨v', h1, h2⟩ := h.yes m b' hm
      exact ⟨v', fun zd => by rw [atKey_put_other (by intro hc; injection hc with hc; exact hne hc)]; exact h1 zd, h2⟩
theorem MapIs.del (h : MapIs n0 w D l) (n : Bs) : MapIs n0 w (D.del (.string n)) (del l n) := by
  refine ⟨h.map.del _, fun m hm => ?_, fun m b' hm => ?_⟩
  · rw [get_del] at hm
    split at hm
    · rename_i he; subst he; exact has_del_same
    · rename_i hne
      rw [has_del_other (by intro hc; injection hc with hc; exact hne hc)]
      exact h.no m hm
  · rw [get_del] at hm
    split at hm
    · cases hm
    · rename_i hne
      obtain ⟨v', h1, h2⟩ := h.yes m b' hm
      exact ⟨v', fun zd => by rw [atKey_del_other (by intro hc; injection hc with hc; exact hne hc)]; exact h1 zd, h2⟩
theorem MapIs.same (h : MapIs n0 w D l) {l' : List Fl} (hl : ∀ n, get l n = get l' n) : MapIs n0 w D l' :=
  ⟨h.map, fun n hn => h.no n (by rw [hl]; exact hn), fun n b hb => h.yes n b (by rw [hl]; exact hb)⟩
/-- Where the map itself is written. -/
theorem MapIs.grown (h : MapIs n0 A D l) {b n : Nat} {D' : DataW Value} (hm : OwnM A b n D') (hg : A.grownBy B (some b)) : MapIs n0 B D l := by
  obtain ⟨es, clock, hb, _⟩ := hm
  refine h.kp (N := fun k _ => k ≠ b) (Kp.grown (Kp.refl _ _) hg fun k o hk _ hn => by cases hk; exact hn rfl) fun k c e f _ hk hkb => ?_
  subst hkb
  rw [hb] at hk; cases hk
theorem By5.grown {v : Value} {x : Bs} (h : By5 n0 A v x) {b n : Nat} {D' : DataW Value} (hm : OwnM A b n D') (hg : A.grownBy B (some b)) : By5 n0 B v x := by
  obtain ⟨es, clock, hb, _⟩ := hm
  refine h.kp (N := fun k _ => k ≠ b) (Kp.grown (Kp.refl _ _) hg fun k o hk _ hn => by cases hk; exact hn rfl) fun k c e f _ hk hkb => ?_
  subst hkb
  rw [hb] at hk; cases hk
theorem OwnM.gr (h : Gr A B) {b n : Nat} {D : DataW Value} (hm : OwnM A b n D) : OwnM B b n D := by
  obtain ⟨es, clock, hb, r⟩ := hm
  exact ⟨es, clock, h.same hb, r⟩
theorem OwnM.alloc' {b n : Nat} {D : DataW Value} (hm : OwnM A b n D) (o : Obj) : OwnM (A.alloc o) b n D := OwnM.gr (Gr.alloc (Gr.refl A) o) hm
/-- Looked up: it is there. -/
theorem MapIs.look (h : MapIs n0 w D l) {b n : Nat} (hm : OwnM w b n D) {k : Bs} (hk : k.length ≤ maxLen) {x : Bs} (hx : get l k = some x) :
    ∃ v, (Instr.lookup 54 (.map (some b)) (strV k) true).run Try.prog w = .ok (.tuple #[v, .bool true]) w ∧ (Instr.lookup 54 (.map (some b)) (strV k) false).run Try.prog w = .ok v w ∧ By5 n0 w v x := by
  obtain ⟨v, h1, h2⟩ := h.yes k x hx
  exact ⟨v, look_held_ok hm law9 Try.underlying54 (zero30 w) (key_str hk) (h1 _) (has_true_of_atKey h1), look_held hm law9 Try.underlying54 (zero30 w) (key_str hk) (h1 _), h2⟩
theorem MapIs.look_no (h : MapIs n0 w D l) {b n : Nat} (hm : OwnM w b n D) {k : Bs} (hk : k.length ≤ maxLen) (hx : get l k = none) :
    (Instr.lookup 54 (.map (some b)) (strV k) true).run Try.prog w = .ok (.tuple #[.slice none 0 0, .bool false]) w :=
  look_held_ok hm law9 Try.underlying54 (zero30 w) (key_str hk) (atKey_of_not_has (h.no k hx) _) (h.no k hx)
end
/-- Behind an operation. -/
def StepPost (n0 b n : Nat) (l : List Fl) (w : World) (e : Ending) (w' : World) : Prop :=
  e = .returned (.tuple #[]) ∧ ∃ D', OwnM w' b (n + 1) D' ∧ MapIs n0 w' D' l ∧ w.grownBy w' (some b)
theorem get_del_none {l : List Fl} {n : Bs} (h : get l n = none) (m : Bs) : get (del l n) m = get l m := by
  rw [get_del]
  split
  · rename_i e; rw [e, h]
  · rfl

set_option maxRecDepth 100000 in
set_option maxHeartbeats 1000000 in
theorem create_any (w : World) (n0 b n : Nat) (D : DataW Value) (l : List Fl) (o : Opr) (bv : Value) (hm : OwnM w b n D) (hl : MapIs n0 w D l) (hn : n < maxLen) (hk : o.name.length ≤ maxLen) :
    Calls Try.prog 51 #[.map (some b), opV o bv] w (StepPost n0 b n (put l ⟨o.name, []⟩) w) := by
  obtain ⟨k, nm, t, dt⟩ := o
  obtain ⟨W1, hW1⟩ : ∃ W1, w.alloc (.cells #[.int .u8 k, strV nm, strV t, bv] 32) = W1 := ⟨_, rfl⟩
  have hB : W1.heap[w.heap.size]? = some (.cells #[.int .u8 k, strV nm, strV t, bv] 32 (0, 0)) := by rw [← hW1]; exact alloc1_heap _ _
  have hG : w.grownBy W1 (some b) := by rw [← hW1]; exact World.grownBy_alloc _ _ _
  have c1 := cell_block hB (j := 1) (v := strV nm) rfl
  have hm1 : OwnM W1 b n D := by rw [← hW1]; exact hm.alloc' _
  obtain ⟨w2, hr, hm2, hg2⟩ := hm1.update (t := 54) law9 Try.underlying54 hn (key_str hk) (val := .slice none 0 0) (d := .held (.slice none 0 0)) (ps := []) rfl
  have h0 : By5 n0 w2 (.slice none 0 0) [] := ⟨by simp, .inl ⟨⟨none, 0, rfl, Nat.zero_le _⟩, rfl⟩⟩
  have HP := Lib.hid (show OwnM w2 b (n + 1) _ ∧ MapIs n0 w2 _ _ ∧ w.grownBy w2 (some b) from ⟨hm2, ((hl.grown hm hG).grown hm1 hg2).put nm h0, hG.andThen hg2 fun j hj => .inr hj⟩)
  have HW := Lib.hid hW1
  clear hm hl hm1 hm2 hg2 h0 hG hB hW1
  go_enter Try.func51, Try.ntmps51
  go_upto_region 1 with fail
  rw [HW.out]
  go_wp2
  exact bodyPost_end (results_none rfl _ _ _) rfl ⟨rfl, _, HP.out⟩

set_option maxRecDepth 100000 in
set_option maxHeartbeats 1000000 in
theorem remove_any (w : World) (n0 b n : Nat) (D : DataW Value) (l : List Fl) (o : Opr) (bv : Value) (hm : OwnM w b n D) (hl : MapIs n0 w D l) (hk : o.name.length ≤ maxLen) :
    Calls Try.prog 55 #[.map (some b), opV o bv] w (StepPost n0 b n (del l o.name) w) := by
  obtain ⟨k, nm, t, dt⟩ := o
  obtain ⟨W1, hW1⟩ : ∃ W1, w.alloc (.cells #[.int .u8 k, strV nm, strV t, bv] 32) = W1 := ⟨_, rfl⟩
  have hB : W1.heap[w.heap.size]? = some (.cells #[.int .u8 k, strV nm, strV t, bv] 32 (0, 0)) := by rw [← hW1]; exact alloc1_heap _ _
  have hG : w.grownBy W1 (some b) := by rw [← hW1]; exact World.grownBy_alloc _ _ _
  have c1 := cell_block hB (j := 1) (v := strV nm) rfl
  have hm1 : OwnM W1 b n D := by rw [← hW1]; exact hm.alloc' _
  have hkey := key_str hk
  have HM := Lib.hid (And.intro hm1 hkey)
  have HP := Lib.hid (show ∀ w2, OwnM w2 b n (D.del (.string nm)) → W1.grownBy w2 (some b) → OwnM w2 b (n + 1) _ ∧ MapIs n0 w2 _ _ ∧ w.grownBy w2 (some b) from fun w2 hm2 hg2 => ⟨hm2.mono (Nat.le_succ _), ((hl.grown hm hG).grown hm1 hg2).del nm, hG.andThen hg2 fun j hj => .inr hj⟩)
  have HW := Lib.hid hW1
  clear hm hl hm1 hG hB hW1 hkey
  go_enter Try.func55, Try.ntmps55
  go_upto_region 1 with fail
  rw [HW.out]
  go_wp2_with (at_delete; go_loud (refine wpList_delete_own _ rfl _ _ 54 9 rfl 30 law9 Try.underlying54 heldE b n D rfl HM.out.1 _ _ rfl HM.out.2 ?_))
  intro w2 hm2 ht2
  have HP2 := Lib.hid (HP.out w2 hm2 ht2.grown)
  clear hm2 ht2
  go_wp2
  exact bodyPost_end (results_none rfl _ _ _) rfl ⟨rfl, _, HP2.out⟩
end Go.Proofs.Ytbgcjbpkgijmeaa
