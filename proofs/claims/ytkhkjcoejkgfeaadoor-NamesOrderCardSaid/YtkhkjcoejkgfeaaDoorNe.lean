/-
  What a name says: the plain law of Parse's loop; no program in sight.
-/
import Derived.Test.YtkhkjcoejkgfeaaDoorNa
namespace Go.Proofs.YtkhkjcoejkgfeaaDoor
open Go

open Classical in
/-- What a name says, if it is one. -/
noncomputable def parO (l : List UInt8) : Option Idn := if h : ∃ x, nameOf x = some l then some (Classical.choose h) else none
theorem parO_some {x : Idn} {l : List UInt8} (h : nameOf x = some l) : parO l = some x := by
  have hx : ∃ x, nameOf x = some l := ⟨x, h⟩
  unfold parO
  rw [dif_pos hx, nameOf_inj (Classical.choose_spec hx) h]
theorem parO_none {l : List UInt8} (h : ∀ x, nameOf x ≠ some l) : parO l = none := by
  unfold parO
  rw [dif_neg (fun ⟨x, hx⟩ => h x hx)]
theorem parO_name {x : Idn} {l : List UInt8} (h : parO l = some x) : nameOf x = some l := by
  unfold parO at h
  split at h
  · rename_i hx
    injection h with h
    subst h
    exact Classical.choose_spec hx
  · cases h

/-- A byte of a name. -/
def bt (l : List UInt8) (i : Int) : Int := ((l.getD i.toNat 0).toNat : Int)
theorem bt_bounds (l : List UInt8) (i : Int) : 0 ≤ bt l i ∧ bt l i ≤ 255 := by
  unfold bt
  have := (l.getD i.toNat 0).toNat_lt
  omega
theorem bt_of {l : List UInt8} {i : Nat} {d : UInt8} (h : l[i]? = some d) : bt l (i : Int) = d.toNat := by
  unfold bt
  rw [Int.toNat_natCast, List.getD_eq_getElem?_getD, h]; rfl
theorem bt_some {l : List UInt8} {i : Nat} (h : i < l.length) : ∃ d, l[i]? = some d ∧ bt l (i : Int) = d.toNat := ⟨l[i], List.getElem?_eq_getElem h, bt_of (List.getElem?_eq_getElem h)⟩

/-- What holds at each round. -/
structure Rnd (l : List UInt8) (i seq : Int) : Prop where
  len : 4 ≤ l.length
  head : bt l 0 = 115 ∨ bt l 0 = 112
  zero : bt l 1 ≠ 48
  lo : 1 ≤ i
  hi : i ≤ (l.length : Int) - 2
  dig : ∀ d ∈ (l.drop 1).take (i.toNat - 1), isDig d
  val : seq = val ((l.drop 1).take (i.toNat - 1))
  top : seq ≤ 10737418249
theorem Rnd.nonneg {l : List UInt8} {i seq : Int} (h : Rnd l i seq) : 0 ≤ seq := by rw [h.val]; omega
theorem rnd_first {l : List UInt8} (h : 4 ≤ l.length) (h1 : bt l 0 = 115 ∨ bt l 0 = 112) (h2 : bt l 1 ≠ 48) : Rnd l 1 0 :=
  ⟨h, h1, h2, by omega, by omega, by simp, by rfl, by omega⟩
theorem rnd_next {l : List UInt8} {i seq : Int} (h : Rnd l i seq) (h1 : 48 ≤ bt l i) (h2 : bt l i ≤ 57) (h3 : seq ≤ 1073741824) (h4 : i < (l.length : Int) - 2) : Rnd l (i + 1) (10 * seq + (bt l i - 48)) := by
  obtain ⟨j, rfl⟩ : ∃ j : Nat, i = ((j + 1 : Nat) : Int) := ⟨(i - 1).toNat, by have := h.lo; omega⟩
  obtain ⟨d, hd, hb⟩ := bt_some (l := l) (i := j + 1) (by omega)
  have ht : (l.drop 1).take ((((j + 1 : Nat) : Int) + 1).toNat - 1) = (l.drop 1).take ((((j + 1 : Nat) : Int)).toNat - 1) ++ [d] := by
    rw [show (((j + 1 : Nat) : Int) + 1).toNat - 1 = j + 1 by omega, show (((j + 1 : Nat) : Int)).toNat - 1 = j by omega]
    rw [List.take_add_one, List.getElem?_drop, show 1 + j = j + 1 by omega, hd]; rfl
  refine ⟨h.len, h.head, h.zero, by have := h.lo; omega, by omega, ?_, ?_, by omega⟩
  · rw [ht]
    intro e he
    rcases List.mem_append.1 he with he | he
    · exact h.dig e he
    · simp only [List.mem_singleton] at he
      subst he
      unfold isDig; omega
  · rw [ht, val_snoc, h.val]
    rw [hb] at h1 h2 ⊢
    omega
theorem val_grow (a b : List UInt8) : val a ≤ val (a ++ b) := by
  induction b generalizing a with
  | nil => simp
  | cons d b ih =>
    have := ih (a ++ [d])
    rw [val_snoc] at this
    simp only [List.append_assoc, List.cons_append, List.nil_append] at this
    omega
theorem nat_48 {f : Int} (h1 : 1 ≤ f) (h2 : f ≤ 2) : ((UInt8.ofNat (48 + f.toNat)).toNat : Int) = 48 + f := by
  rw [digit_nat (by omega)]; omega
/-- Where the loop ends, and the tests fail: no name. -/
theorem rnd_none {l : List UInt8} {i seq : Int} (h : Rnd l i seq) (hstop : ¬ (48 ≤ bt l i ∧ bt l i ≤ 57 ∧ seq ≤ 1073741824 ∧ i < (l.length : Int) - 2))
    (hbad : ¬ (i = (l.length : Int) - 2 ∧ i ≠ 1 ∧ seq ≤ 1073741824 ∧ bt l i = 46 ∧ (bt l (i + 1) = 49 ∨ bt l (i + 1) = 50))) : parO l = none := by
  refine parO_none fun x hx => ?_
  rcases nameOf_cases hx with ⟨_, rfl⟩ | ⟨_, rfl⟩ | ⟨hk, s1, s2, f1, f2, hl⟩
  · have := h.len; simp at this
  · have := h.head
    revert this; decide
  · obtain ⟨j, rfl⟩ : ∃ j : Nat, i = ((j + 1 : Nat) : Int) := ⟨(i - 1).toNat, by have := h.lo; omega⟩
    rw [itoa_fmt f1 f2] at hl
    have hv : (val (Lib.itoa x.seq) : Int) = x.seq := by rw [itoa_of (by omega), val_dec]; omega
    have hdig : ∀ d ∈ Lib.itoa x.seq, isDig d := by rw [itoa_of (by omega)]; exact dec_dig _
    have hne : Lib.itoa x.seq ≠ [] := by rw [itoa_of (by omega)]; exact dec_ne _
    generalize Lib.itoa x.seq = D at hl hv hdig hne
    have hn : l.length = D.length + 3 := by rw [hl]; simp
    have hhi := h.hi
    have hdr : l.drop 1 = D ++ (46 :: [UInt8.ofNat (48 + x.fmt.toNat)]) := by rw [hl]; rfl
    have hjD : j ≤ D.length := by omega
    have htk : (l.drop 1).take ((((j + 1 : Nat) : Int)).toNat - 1) = D.take j := by
      rw [hdr, show (((j + 1 : Nat) : Int)).toNat - 1 = j by omega, List.take_append_of_le_length hjD]
    have hseq := h.val
    rw [htk] at hseq
    have hpre : val (D.take j) ≤ val D := by
      have := val_grow (D.take j) (D.drop j)
      rwa [List.take_append_drop] at this
    have hat : ∀ k, l[k + 1]? = (D ++ (46 :: [UInt8.ofNat (48 + x.fmt.toNat)]))[k]? := by
      intro k
      rw [hl]; rfl
    by_cases hj : j < D.length
    · apply hstop
      have hb : l[j + 1]? = some D[j] := by
        rw [hat, List.getElem?_append_left hj, List.getElem?_eq_getElem hj]
      rw [bt_of hb]
      have := hdig D[j] (List.getElem_mem hj)
      unfold isDig at this
      omega
    · obtain rfl : j = D.length := by omega
      apply hbad
      have hb : l[D.length + 1]? = some 46 := by
        rw [hat, List.getElem?_append_right (Nat.le_refl _), Nat.sub_self]; rfl
      have hb2 : l[D.length + 1 + 1]? = some (UInt8.ofNat (48 + x.fmt.toNat)) := by
        rw [hat, List.getElem?_append_right (by omega), show D.length + 1 - D.length = 1 by omega]; rfl
      have hpos : 0 < D.length := List.length_pos_iff.2 hne
      rw [bt_of hb, show (((D.length + 1 : Nat) : Int)) + 1 = ((D.length + 1 + 1 : Nat) : Int) by omega, bt_of hb2, nat_48 f1 f2]
      refine ⟨by omega, by omega, by omega, rfl, by omega⟩
/-- .. and they do not: what it says. -/
theorem rnd_some {l : List UInt8} {i seq : Int} (h : Rnd l i seq) (h1 : i = (l.length : Int) - 2) (h2 : i ≠ 1) (h3 : seq ≤ 1073741824) (h4 : bt l i = 46) (h5 : bt l (i + 1) = 49 ∨ bt l (i + 1) = 50) :
    parO l = some ⟨if bt l 0 = 112 then 4 else 3, seq, bt l (i + 1) - 48⟩ := by
  refine parO_some ?_
  obtain ⟨j, rfl⟩ : ∃ j : Nat, i = ((j + 1 : Nat) : Int) := ⟨(i - 1).toNat, by have := h.lo; omega⟩
  have hlen : l.length = j + 3 := by omega
  match l, hlen, h, h4, h5 with
  | c :: t, hlen, h, h4, h5 =>
    have ht : t.length = j + 2 := by simpa using hlen
    have hd : (List.drop 1 (c :: t)).take ((((j + 1 : Nat) : Int)).toNat - 1) = t.take j := by
      rw [show (((j + 1 : Nat) : Int)).toNat - 1 = j by omega]; rfl
    have hdig := h.dig
    have hval := h.val
    rw [hd] at hdig hval
    obtain ⟨a, ha, hba⟩ := bt_some (l := c :: t) (i := j + 1) (by simp; omega)
    obtain ⟨b, hb, hbb⟩ := bt_some (l := c :: t) (i := j + 1 + 1) (by simp; omega)
    obtain ⟨z, hz, hbz⟩ := bt_some (l := c :: t) (i := 1) (by simp; omega)
    rw [h4] at hba
    have e1 : (((j + 1 : Nat) : Int)) + 1 = ((j + 1 + 1 : Nat) : Int) := by omega
    rw [e1] at h5 ⊢
    rw [hbb] at h5 ⊢
    have hsplit : t = t.take j ++ [a, b] := by
      apply List.ext_getElem?
      intro k
      simp only [List.getElem?_cons_succ] at ha hb
      by_cases hk : k < j
      · rw [List.getElem?_append_left (by rw [List.length_take]; omega), List.getElem?_take, if_pos hk]
      · rw [List.getElem?_append_right (by rw [List.length_take]; omega), List.length_take, ht, Nat.min_eq_left (by omega)]
        by_cases hk0 : k = j
        · subst hk0; rw [ha, Nat.sub_self]; rfl
        · by_cases hk1 : k = j + 1
          · subst hk1; rw [hb, show j + 1 - j = 1 by omega]; rfl
          · rw [List.getElem?_eq_none (by omega), List.getElem?_eq_none (by simp; omega)]
    have ha46 : a = 46 := by
      apply byte_ext
      have e : (46 : UInt8).toNat = 46 := rfl
      omega
    have hc0 : bt (c :: t) 0 = c.toNat := rfl
    have hne : t.take j ≠ [] := by
      intro hc
      have := congrArg List.length hc
      rw [List.length_take, ht] at this
      simp at this
      omega
    have hhead : ∀ d, (t.take j).head? = some d → d ≠ 48 := by
      intro d hd' hc
      subst hc
      have hz' : t[0]? = some z := by simpa using hz
      rw [List.head?_take] at hd'
      split at hd'
      · cases hd'
      · rw [List.head?_eq_getElem?, hz'] at hd'
        injection hd' with hd'
        subst hd'
        exact h.zero hbz
    obtain ⟨v1, v2⟩ := dec_val _ (t.take j) rfl hne hdig hhead
    have hit : Lib.itoa seq = t.take j := by
      rw [itoa_of (by omega), hval, Int.toNat_natCast, v2]
    have hfm : ∀ f : Int, 1 ≤ f → f ≤ 2 → (b.toNat : Int) - 48 = f → Lib.itoa f = [b] := by
      intro f g1 g2 g3
      rw [itoa_fmt g1 g2]
      congr 1
      apply byte_ext
      rw [digit_nat (by omega)]; omega
    have hlet : letter (if bt (c :: t) 0 = 112 then 4 else 3) = c := by
      have hh := h.head
      rw [hc0] at hh ⊢
      apply byte_ext
      unfold letter
      by_cases hc : ((c.toNat : Nat) : Int) = 112
      · rw [if_pos hc, if_neg (by decide)]
        have e : (112 : UInt8).toNat = 112 := rfl
        omega
      · rw [if_neg hc, if_pos rfl]
        have e : (115 : UInt8).toNat = 115 := rfl
        omega
    rw [nameOf_many (by simp only; split <;> simp) (by simp only; omega) (by simp only; omega) (by simp only; omega) (by simp only; omega)]
    simp only
    rw [hlet, hit, hfm _ (by omega) (by omega) rfl]
    congr 2
    rw [← ha46]
    exact hsplit.symm
/-- No name: too short, or with another beginning. -/
theorem no_name {l : List UInt8} (h1 : l ≠ [77]) (h2 : l ≠ [77, 46, 110, 101, 119]) (h : l.length < 4 ∨ (bt l 0 ≠ 115 ∧ bt l 0 ≠ 112) ∨ bt l 1 = 48) : parO l = none := by
  refine parO_none fun x hx => ?_
  rcases nameOf_cases hx with ⟨_, e⟩ | ⟨_, e⟩ | ⟨hk, s1, s2, f1, f2, hl⟩
  · exact h1 e
  · exact h2 e
  · rw [itoa_fmt f1 f2, itoa_of (by omega)] at hl
    have hne := dec_ne x.seq.toNat
    have hh := dec_head (n := x.seq.toNat) (by omega)
    generalize Lib.decDigits x.seq.toNat = D at *
    obtain ⟨d, D', rfl⟩ := List.exists_cons_of_ne_nil hne
    subst hl
    rcases h with h | ⟨h, h'⟩ | h
    · simp at h; omega
    · have e : bt (letter x.kind :: (d :: D' ++ 46 :: [UInt8.ofNat (48 + x.fmt.toNat)])) 0 = (letter x.kind).toNat := rfl
      rw [e] at h h'
      unfold letter at h h'
      split at h
      · exact h rfl
      · rename_i hk3
        rw [if_neg hk3] at h'
        exact h' rfl
    · have e : bt (letter x.kind :: (d :: D' ++ 46 :: [UInt8.ofNat (48 + x.fmt.toNat)])) 1 = d.toNat := rfl
      rw [e] at h
      refine hh d rfl (byte_ext ?_)
      have e : (48 : UInt8).toNat = 48 := rfl
      omega
end Go.Proofs.YtkhkjcoejkgfeaaDoor
