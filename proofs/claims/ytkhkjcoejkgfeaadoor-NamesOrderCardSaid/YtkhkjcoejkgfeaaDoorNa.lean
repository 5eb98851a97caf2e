/-
  What names say: plain law, no program in sight.
-/
import Derived.Lib.ItoaNum
namespace Go.Proofs.YtkhkjcoejkgfeaaDoor
open Go

/-- What a name says. -/
structure Idn where
  kind : Int
  seq : Int
  fmt : Int

/-- A name's letter. -/
def letter (k : Int) : UInt8 := if k = 3 then 115 else 112
/-- A name, if there is one. -/
def nameOf (x : Idn) : Option (List UInt8) :=
  if x.kind = 1 ∧ x.seq = 0 ∧ x.fmt = 0 then some [77]
  else if x.kind = 2 ∧ x.seq = 0 ∧ x.fmt = 0 then some [77, 46, 110, 101, 119]
  else if (x.kind = 3 ∨ x.kind = 4) ∧ 1 ≤ x.seq ∧ x.seq ≤ 1073741824 ∧ 1 ≤ x.fmt ∧ x.fmt ≤ 2 then some (letter x.kind :: (Lib.itoa x.seq ++ (46 :: Lib.itoa x.fmt)))
  else none

/-! Numerals -/
def val (ds : List UInt8) : Nat := ds.foldl (fun a d => 10 * a + (d.toNat - 48)) 0
theorem val_snoc (ds : List UInt8) (d : UInt8) : val (ds ++ [d]) = 10 * val ds + (d.toNat - 48) := by unfold val; rw [List.foldl_append]; rfl
def isDig (d : UInt8) : Prop := 48 ≤ d.toNat ∧ d.toNat ≤ 57
theorem dec_small {n : Nat} (h : n < 10) : Lib.decDigits n = [UInt8.ofNat (48 + n)] := by rw [Lib.decDigits, dif_pos h]
theorem dec_big {n : Nat} (h : ¬ n < 10) : Lib.decDigits n = Lib.decDigits (n / 10) ++ [UInt8.ofNat (48 + n % 10)] := by rw [Lib.decDigits, dif_neg h]
theorem digit_nat {n : Nat} (h : n < 10) : (UInt8.ofNat (48 + n)).toNat = 48 + n := by
  rw [UInt8.toNat_ofNat']; omega
theorem val_dec (n : Nat) : val (Lib.decDigits n) = n := by
  induction n using Nat.strongRecOn with
  | _ n ih =>
    by_cases h : n < 10
    · rw [dec_small h]
      show 10 * 0 + ((UInt8.ofNat (48 + n)).toNat - 48) = n
      rw [digit_nat h]; omega
    · rw [dec_big h, val_snoc, ih (n / 10) (by omega), digit_nat (by omega)]; omega
theorem dec_ne (n : Nat) : Lib.decDigits n ≠ [] := by
  by_cases h : n < 10
  · rw [dec_small h]; simp
  · rw [dec_big h]; simp
theorem dec_dig (n : Nat) : ∀ d ∈ Lib.decDigits n, isDig d := by
  induction n using Nat.strongRecOn with
  | _ n ih =>
    by_cases h : n < 10
    · rw [dec_small h]
      intro d hd
      simp only [List.mem_singleton] at hd
      subst hd
      unfold isDig; rw [digit_nat h]; omega
    · rw [dec_big h]
      intro d hd
      rcases List.mem_append.1 hd with hd | hd
      · exact ih (n / 10) (by omega) d hd
      · simp only [List.mem_singleton] at hd
        subst hd
        unfold isDig; rw [digit_nat (by omega)]; omega
theorem dec_head {n : Nat} (h1 : 1 ≤ n) : ∀ d, (Lib.decDigits n).head? = some d → d ≠ 48 := by
  induction n using Nat.strongRecOn with
  | _ n ih =>
    intro d hd
    by_cases h : n < 10
    · rw [dec_small h] at hd
      simp only [List.head?_cons, Option.some.injEq] at hd
      subst hd
      intro hc
      have := congrArg UInt8.toNat hc
      rw [digit_nat h] at this
      have e : (48 : UInt8).toNat = 48 := rfl
      omega
    · rw [dec_big h] at hd
      obtain ⟨c, cs, hc⟩ := List.exists_cons_of_ne_nil (dec_ne (n / 10))
      rw [hc] at hd
      simp only [List.cons_append, List.head?_cons, Option.some.injEq] at hd
      subst hd
      exact ih (n / 10) (by omega) (by omega) c (by rw [hc]; rfl)
theorem snoc_of {α : Type} {l : List α} (h : l ≠ []) : ∃ l' a, l = l' ++ [a] := ⟨l.dropLast, l.getLast h, (List.dropLast_concat_getLast h).symm⟩
theorem byte_ext {a b : UInt8} (h : a.toNat = b.toNat) : a = b := UInt8.toNat_inj.1 h
/-- The numeral of a numeral's number is itself. -/
theorem dec_val (n : Nat) : ∀ ds : List UInt8, ds.length = n → ds ≠ [] → (∀ d ∈ ds, isDig d) → (∀ d, ds.head? = some d → d ≠ 48) → 1 ≤ val ds ∧ Lib.decDigits (val ds) = ds := by
  induction n with
  | zero => intro ds hl hne; exact absurd (List.eq_nil_of_length_eq_zero hl) hne
  | succ n ih =>
    intro ds hl hne hd hh
    obtain ⟨l, d, rfl⟩ := snoc_of hne
    have hdd := hd d (by simp)
    by_cases h0 : l = []
    · subst h0
      have hne48 : d ≠ 48 := hh d rfl
      have hv : val ([] ++ [d]) = d.toNat - 48 := by rw [val_snoc]; show 10 * 0 + _ = _; omega
      have h48 : d.toNat ≠ 48 := fun h => hne48 (byte_ext h)
      have hb := hdd.1
      have hc := hdd.2
      rw [hv]
      refine ⟨by omega, ?_⟩
      rw [dec_small (by omega)]
      show [_] = [d]
      congr 1
      apply byte_ext
      rw [digit_nat (by omega)]; omega
    · obtain ⟨e1, e2⟩ := ih l (by simpa using hl) h0 (fun d hd' => hd d (by simp [hd'])) (fun d' hd' => hh d' (by
        obtain ⟨c, cs, rfl⟩ := List.exists_cons_of_ne_nil h0
        simpa using hd'))
      have hb := hdd.1
      have hc := hdd.2
      rw [val_snoc]
      refine ⟨by omega, ?_⟩
      rw [dec_big (by omega), show (10 * val l + (d.toNat - 48)) / 10 = val l by omega, e2]
      congr 2
      apply byte_ext
      rw [digit_nat (by omega)]; omega
theorem itoa_of {n : Int} (h : 0 ≤ n) : Lib.itoa n = Lib.decDigits n.toNat := by unfold Lib.itoa; rw [if_neg (by omega)]
theorem itoa_inj {a b : Int} (ha : 0 ≤ a) (hb : 0 ≤ b) (h : Lib.itoa a = Lib.itoa b) : a = b := by
  rw [itoa_of ha, itoa_of hb] at h
  have := congrArg val h
  rw [val_dec, val_dec] at this
  omega
theorem itoa_fmt {f : Int} (h1 : 1 ≤ f) (h2 : f ≤ 2) : Lib.itoa f = [UInt8.ofNat (48 + f.toNat)] := by rw [itoa_of (by omega), dec_small (by omega)]

/-! Names -/
theorem nameOf_cases {x : Idn} {l : List UInt8} (h : nameOf x = some l) : (x = ⟨1, 0, 0⟩ ∧ l = [77]) ∨ (x = ⟨2, 0, 0⟩ ∧ l = [77, 46, 110, 101, 119]) ∨
    ((x.kind = 3 ∨ x.kind = 4) ∧ 1 ≤ x.seq ∧ x.seq ≤ 1073741824 ∧ 1 ≤ x.fmt ∧ x.fmt ≤ 2 ∧ l = letter x.kind :: (Lib.itoa x.seq ++ (46 :: Lib.itoa x.fmt))) := by
  obtain ⟨k, s, f⟩ := x
  unfold nameOf at h
  split at h
  · rename_i hc
    obtain ⟨rfl, rfl, rfl⟩ := hc
    exact .inl ⟨rfl, by simpa using h.symm⟩
  · split at h
    · rename_i hc
      obtain ⟨rfl, rfl, rfl⟩ := hc
      exact .inr (.inl ⟨rfl, by simpa using h.symm⟩)
    · split at h
      · rename_i hc
        obtain ⟨h1, h2, h3, h4, h5⟩ := hc
        exact .inr (.inr ⟨h1, h2, h3, h4, h5, by simpa using h.symm⟩)
      · cases h
theorem nameOf_many {x : Idn} (h : x.kind = 3 ∨ x.kind = 4) (h1 : 1 ≤ x.seq) (h2 : x.seq ≤ 1073741824) (h3 : 1 ≤ x.fmt) (h4 : x.fmt ≤ 2) : nameOf x = some (letter x.kind :: (Lib.itoa x.seq ++ (46 :: Lib.itoa x.fmt))) := by
  unfold nameOf
  rw [if_neg (by omega), if_neg (by omega), if_pos ⟨h, h1, h2, h3, h4⟩]
theorem letter_ne (k : Int) : letter k ≠ 77 := by unfold letter; split <;> decide
theorem letter_inj {a b : Int} (ha : a = 3 ∨ a = 4) (hb : b = 3 ∨ b = 4) (h : letter a = letter b) : a = b := by
  rcases ha with rfl | rfl <;> rcases hb with rfl | rfl <;> first | rfl | (exact absurd h (by decide))
/-- No two have one name. -/
theorem nameOf_inj {x y : Idn} {l : List UInt8} (hx : nameOf x = some l) (hy : nameOf y = some l) : x = y := by
  rcases nameOf_cases hx with ⟨rfl, e⟩ | ⟨rfl, e⟩ | ⟨k1, s1, s2, f1, f2, e⟩ <;> rcases nameOf_cases hy with ⟨rfl, g⟩ | ⟨rfl, g⟩ | ⟨k1', s1', s2', f1', f2', g⟩
  · rfl
  · rw [e] at g; exact absurd g (by decide)
  · rw [e] at g
    injection g with g1 g2
    exact absurd g1.symm (letter_ne _)
  · rw [e] at g; exact absurd g (by decide)
  · rfl
  · rw [e] at g
    injection g with g1 g2
    exact absurd g1.symm (letter_ne _)
  · rw [g] at e
    injection e with g1 g2
    exact absurd g1.symm (letter_ne _)
  · rw [g] at e
    injection e with g1 g2
    exact absurd g1.symm (letter_ne _)
  · obtain ⟨k, s, f⟩ := x
    obtain ⟨k', s', f'⟩ := y
    simp only at *
    rw [e, itoa_fmt f1 f2, itoa_fmt f1' f2'] at g
    injection g with g1 g2
    obtain ⟨e1, e2⟩ := List.append_inj' g2 rfl
    have hs := itoa_inj (by omega) (by omega) e1
    have hk := letter_inj k1 k1' g1
    injection e2 with _ e3
    injection e3 with e4 _
    have := congrArg UInt8.toNat e4
    rw [digit_nat (by omega), digit_nat (by omega)] at this
    have hf : f = f' := by omega
    rw [hs, hk, hf]
/-- How long a name may be; what its bytes are. -/
theorem dec_le (k : Nat) : ∀ n : Nat, 1 ≤ k → n < 10 ^ k → (Lib.decDigits n).length ≤ k := by
  induction k with
  | zero => intro n h; omega
  | succ k ih =>
    intro n _ h
    by_cases h10 : n < 10
    · rw [dec_small h10]; simp
    · rw [dec_big h10, List.length_append, List.length_singleton]
      by_cases hk : 1 ≤ k
      · have := ih (n / 10) hk (by rw [Nat.pow_succ] at h; omega)
        omega
      · exfalso
        have : k = 0 := by omega
        subst this
        simp at h; omega
theorem itoa_le {n : Int} (h0 : 0 ≤ n) (h1 : n ≤ 1073741824) : (Lib.itoa n).length ≤ 10 := by
  rw [itoa_of h0]
  exact dec_le 10 _ (by decide) (by have : (10 : Nat) ^ 10 = 10000000000 := by decide
                                    omega)
theorem nameOf_le {x : Idn} {l : List UInt8} (h : nameOf x = some l) : l.length ≤ 22 ∧ l ≠ [] := by
  rcases nameOf_cases h with ⟨_, rfl⟩ | ⟨_, rfl⟩ | ⟨_, h1, h2, h3, h4, rfl⟩
  · decide
  · decide
  · have := itoa_le (n := x.seq) (by omega) h2
    refine ⟨?_, by simp⟩
    rw [itoa_fmt h3 h4]
    simp only [List.length_cons, List.length_append, List.length_nil]
    omega
end Go.Proofs.YtkhkjcoejkgfeaaDoor
