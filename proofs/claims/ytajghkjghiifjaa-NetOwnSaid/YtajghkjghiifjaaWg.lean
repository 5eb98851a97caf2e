/-
  Walks: messages compared, whatever they are.
-/
import Derived.Test.YtajghkjghiifjaaWd
import Derived.Test.YtajghkjghiifjaaWf
namespace Go.Proofs.Ytajghkjghiifjaa
open Go Go.RowKit

theorem beq_false_of {α : Type} [BEq α] [LawfulBEq α] {a b : α} (h : a ≠ b) : (a == b) = false := by simpa using h

theorem alike20_any (w : World) (S T : Nat → Prop) (m n : Msg) (ev fv : Value) (h1 : IsEnts S w ev m.ents) (h2 : IsEnts T w fv n.ents) (l1 : m.ents.length ≤ 1000000) (l2 : n.ents.length ≤ 1000000) :
    Calls Try.prog 15 #[msgV m ev, msgV n fv] w fun e w' => e = .returned (.bool (decide (m = n))) ∧ Gr w w' := by
  cases m with | mk mk mf mt mm mc ml ma mo mb me mp mq mr ms mz =>
  cases n with | mk nk nf nt nm nc nl na no nb ne np nq nr ns nz =>
  have fin : ∀ {p : Prop} [Decidable p], ¬ p → ∀ (e : Ending) (w' : World), (e = .returned (.bool false) ∧ Gr w w') → (e = .returned (.bool (decide p)) ∧ Gr w w') := fun h e w' ⟨he, hg⟩ => ⟨by rw [he, decide_eq_false h], hg⟩
  by_cases e0 : ¬ (mk = nk)
  · exact (alike20_no0 _ _ _ _ _ _ _ _ _ _ _ _ _ _ _ _ _ _ _ _ _ _ _ _ _ _ _ _ _ _ w (beq_false_of e0)).mono (fin (by intro h; injection h; exact e0 ‹_›))
  replace e0 := Decidable.not_not.1 e0
  by_cases e1 : ¬ (mf = nf)
  · subst e0; exact (alike20_no1 _ _ _ _ _ _ _ _ _ _ _ _ _ _ _ _ _ _ _ _ _ _ _ _ _ _ _ _ _ w (beq_false_of e1)).mono (fin (by intro h; injection h; exact e1 ‹_›))
  replace e1 := Decidable.not_not.1 e1
  by_cases e2 : ¬ (mt = nt)
  · subst e0; subst e1; exact (alike20_no2 _ _ _ _ _ _ _ _ _ _ _ _ _ _ _ _ _ _ _ _ _ _ _ _ _ _ _ _ w (beq_false_of e2)).mono (fin (by intro h; injection h; exact e2 ‹_›))
  replace e2 := Decidable.not_not.1 e2
  by_cases e3 : ¬ (mm = nm)
  · subst e0; subst e1; subst e2; exact (alike20_no3 _ _ _ _ _ _ _ _ _ _ _ _ _ _ _ _ _ _ _ _ _ _ _ _ _ _ _ w (beq_false_of e3)).mono (fin (by intro h; injection h; exact e3 ‹_›))
  replace e3 := Decidable.not_not.1 e3
  by_cases e4 : ¬ (mc = nc)
  · subst e0; subst e1; subst e2; subst e3; exact (alike20_no4 _ _ _ _ _ _ _ _ _ _ _ _ _ _ _ _ _ _ _ _ _ _ _ _ _ _ w (beq_false_of e4)).mono (fin (by intro h; injection h; exact e4 ‹_›))
  replace e4 := Decidable.not_not.1 e4
  by_cases e5 : ¬ (ml = nl)
  · subst e0; subst e1; subst e2; subst e3; subst e4; exact (alike20_no5 _ _ _ _ _ _ _ _ _ _ _ _ _ _ _ _ _ _ _ _ _ _ _ _ _ w (beq_false_of e5)).mono (fin (by intro h; injection h; exact e5 ‹_›))
  replace e5 := Decidable.not_not.1 e5
  by_cases e6 : ¬ (ma = na)
  · subst e0; subst e1; subst e2; subst e3; subst e4; subst e5; exact (alike20_no6 _ _ _ _ _ _ _ _ _ _ _ _ _ _ _ _ _ _ _ _ _ _ _ _ w (beq_false_of e6)).mono (fin (by intro h; injection h; exact e6 ‹_›))
  replace e6 := Decidable.not_not.1 e6
  by_cases e7 : ¬ (mo = no)
  · subst e0; subst e1; subst e2; subst e3; subst e4; subst e5; subst e6; exact (alike20_no7 _ _ _ _ _ _ _ _ _ _ _ _ _ _ _ _ _ _ _ _ _ _ _ w (beq_false_of e7)).mono (fin (by intro h; injection h; exact e7 ‹_›))
  replace e7 := Decidable.not_not.1 e7
  by_cases e8 : ¬ (mb = nb)
  · subst e0; subst e1; subst e2; subst e3; subst e4; subst e5; subst e6; subst e7; exact (alike20_no8 _ _ _ _ _ _ _ _ _ _ _ _ _ _ _ _ _ _ _ _ _ _ w (beq_false_of e8)).mono (fin (by intro h; injection h; exact e8 ‹_›))
  replace e8 := Decidable.not_not.1 e8
  by_cases e10g : ¬ (mp = np ∧ mq = nq ∧ mr = nr ∧ ms = ns ∧ mz = nz)
  · subst e0; subst e1; subst e2; subst e3; subst e4; subst e5; subst e6; subst e7; subst e8; exact (alike20_no9 _ _ _ _ _ _ _ _ _ _ _ _ _ _ _ _ _ _ _ _ _ w (by rw [Bool.eq_false_iff]; intro h; simp only [Bool.and_eq_true, beq_iff_eq] at h; exact e10g h)).mono (fin (by intro h; injection h; exact e10g ⟨‹_›, ‹_›, ‹_›, ‹_›, ‹_›⟩))
  replace e10g := Decidable.not_not.1 e10g
  obtain ⟨e10, e11, e12, e13, e14⟩ := e10g
  subst e0
  subst e1
  subst e2
  subst e3
  subst e4
  subst e5
  subst e6
  subst e7
  subst e8
  subst e10
  subst e11
  subst e12
  subst e13
  subst e14
  refine (alike20_yes _ _ _ _ _ _ _ _ _ _ _ _ _ _ _ _ w S T me ne h1 h2 l1 l2).mono ?_
  rintro e w' ⟨he, hg⟩
  refine ⟨?_, hg⟩
  rw [he]
  by_cases hq : me = ne
  · subst hq; simp
  · rw [decide_eq_false hq, decide_eq_false (by intro h; injection h; exact hq ‹_›)]

theorem alike32_any (w : World) (S T : Nat → Prop) (m n : Msg) (ev fv : Value) (h1 : IsEnts S w ev m.ents) (h2 : IsEnts T w fv n.ents) (l1 : m.ents.length ≤ 1000000) (l2 : n.ents.length ≤ 1000000) :
    Calls Try.prog 32 #[msgV m ev, msgV n fv] w fun e w' => e = .returned (.bool (decide (m = n))) ∧ Gr w w' := by
  cases m with | mk mk mf mt mm mc ml ma mo mb me mp mq mr ms mz =>
  cases n with | mk nk nf nt nm nc nl na no nb ne np nq nr ns nz =>
  have fin : ∀ {p : Prop} [Decidable p], ¬ p → ∀ (e : Ending) (w' : World), (e = .returned (.bool false) ∧ Gr w w') → (e = .returned (.bool (decide p)) ∧ Gr w w') := fun h e w' ⟨he, hg⟩ => ⟨by rw [he, decide_eq_false h], hg⟩
  by_cases he : ¬ me = ne
  · refine (alike32_no0 _ _ _ _ _ _ _ _ _ _ _ _ _ _ _ _ _ _ _ _ _ _ _ _ _ _ _ _ _ _ w S T me ne h1 h2 l1 l2 (decide_eq_false he)).mono (fin (by intro h; injection h; exact he ‹_›))
  replace he := Decidable.not_not.1 he
  by_cases e0 : ¬ (mk = nk)
  · exact (alike32_no1 _ _ _ _ _ _ _ _ _ _ _ _ _ _ _ _ _ _ _ _ _ _ _ _ _ _ _ _ _ _ w S T me ne h1 h2 l1 l2 (decide_eq_true he) (beq_false_of e0)).mono (fin (by intro h; injection h; exact e0 ‹_›))
  replace e0 := Decidable.not_not.1 e0
  by_cases e8 : ¬ (mb = nb)
  · subst e0; exact (alike32_no2 _ _ _ _ _ _ _ _ _ _ _ _ _ _ _ _ _ _ _ _ _ _ _ _ _ _ _ _ _ w S T me ne h1 h2 l1 l2 (decide_eq_true he) (beq_false_of e8)).mono (fin (by intro h; injection h; exact e8 ‹_›))
  replace e8 := Decidable.not_not.1 e8
  by_cases e10g : ¬ (mp = np ∧ mq = nq ∧ mr = nr ∧ ms = ns ∧ mz = nz)
  · subst e0; subst e8; exact (alike32_no3 _ _ _ _ _ _ _ _ _ _ _ _ _ _ _ _ _ _ _ _ _ _ _ _ _ _ _ _ w S T me ne h1 h2 l1 l2 (decide_eq_true he) (by rw [Bool.eq_false_iff]; intro h; simp only [Bool.and_eq_true, beq_iff_eq] at h; exact e10g h)).mono (fin (by intro h; injection h; exact e10g ⟨‹_›, ‹_›, ‹_›, ‹_›, ‹_›⟩))
  replace e10g := Decidable.not_not.1 e10g
  obtain ⟨e10, e11, e12, e13, e14⟩ := e10g
  by_cases e1g : ¬ (mf = nf ∧ mt = nt ∧ mm = nm ∧ mc = nc ∧ ml = nl ∧ ma = na ∧ mo = no)
  · subst e0; subst e8; subst e10; subst e11; subst e12; subst e13; subst e14; exact (alike32_no4 _ _ _ _ _ _ _ _ _ _ _ _ _ _ _ _ _ _ _ _ _ _ _ w S T me ne h1 h2 l1 l2 (decide_eq_true he) (by rw [Bool.eq_false_iff]; intro h; simp only [Bool.and_eq_true, beq_iff_eq] at h; exact e1g h)).mono (fin (by intro h; injection h; exact e1g ⟨‹_›, ‹_›, ‹_›, ‹_›, ‹_›, ‹_›, ‹_›⟩))
  replace e1g := Decidable.not_not.1 e1g
  obtain ⟨e1, e2, e3, e4, e5, e6, e7⟩ := e1g
  subst e0
  subst e8
  subst e10
  subst e11
  subst e12
  subst e13
  subst e14
  subst e1
  subst e2
  subst e3
  subst e4
  subst e5
  subst e6
  subst e7
  subst he
  refine (alike32_yes _ _ _ _ _ _ _ _ _ _ _ _ _ _ _ _ w S T me me h1 h2 l1 l2 (decide_eq_true rfl)).mono ?_
  rintro e w' ⟨he, hg⟩
  exact ⟨by rw [he]; simp, hg⟩
end Go.Proofs.Ytajghkjghiifjaa
