/-
  The rest's laws: what the map of kept names says, the row that is filled.
  Conditions: none beyond those typed at each theorem.
-/
import Derived.Test.YtkhkjcoejkgfeaaDoorNi
import Derived.Maps.OwnIn
import Derived.Maps.Views
namespace Go.Proofs.YtkhkjcoejkgfeaaDoor
open Go Go.RowKit Go.Maps

theorem owns_elem {w : World} {base : Nat} {e : TypeId} {size : Nat} {v : Value} {n : Nat} {xs : List Value} (h : w.ownsRow base e size v n xs) {k : Nat} (hk : v.ownBlock = some k) : base ≤ k ∧ ∃ cur, w.heap[k]? = some (.cells cur e (0, 0)) := by
  rcases h.2 with ⟨rfl, _⟩ | ⟨g, cap, cur, rfl, hg, hh, _⟩
  · cases hk
  · cases hk; exact ⟨hg, cur, hh⟩

/-- Is there one of that name among them? -/
def keptBy (xs : List Idn) (n : List UInt8) : Bool := xs.any fun x => nameOf x == some n
theorem keptBy_snoc (xs : List Idn) (x : Idn) (n : List UInt8) : keptBy (xs ++ [x]) n = (keptBy xs n || nameOf x == some n) := by
  unfold keptBy; rw [List.any_append]; simp
/-- The names that are not kept, in order. -/
def restOf (ns : List (List UInt8)) (xs : List Idn) : List (List UInt8) := ns.filter fun n => !keptBy xs n
theorem restOf_yes {ns : List (List UInt8)} {xs : List Idn} {k : Nat} {n : List UInt8} (h : ns[k]? = some n) (hk : keptBy xs n = false) : restOf (ns.take (k + 1)) xs = restOf (ns.take k) xs ++ [n] := by
  unfold restOf; rw [List.take_add_one, h, List.filter_append]; simp [hk]
theorem restOf_no {ns : List (List UInt8)} {xs : List Idn} {k : Nat} {n : List UInt8} (h : ns[k]? = some n) (hk : keptBy xs n = true) : restOf (ns.take (k + 1)) xs = restOf (ns.take k) xs := by
  unfold restOf; rw [List.take_add_one, h, List.filter_append]; simp [hk]
theorem restOf_le (ns : List (List UInt8)) (xs : List Idn) (k : Nat) : (restOf (ns.take k) xs).length ≤ ns.length := by
  unfold restOf
  exact Nat.le_trans (List.length_filter_le _ _) (by rw [List.length_take]; omega)

/-- What the map says. -/
def KM (xs : List Idn) (D : DataW Unit) : Prop := IsMap D ∧ ∀ n, D.atKey (.string n) (.lit (.int .i64 0)) = .lit (.int .i64 (if keptBy xs n then 1 else 0))
theorem KM_nil : KM [] (.map []) := ⟨isMap_empty, fun _ => rfl⟩
theorem KM_skip {xs : List Idn} {x : Idn} {D : DataW Unit} (h : KM xs D) (hx : nameOf x = none) : KM (xs ++ [x]) D := by
  refine ⟨h.1, fun n => ?_⟩
  rw [keptBy_snoc, hx, h.2 n]
  simp
theorem KM_put {xs : List Idn} {x : Idn} {D : DataW Unit} {l : List UInt8} (h : KM xs D) (hx : nameOf x = some l) : KM (xs ++ [x]) (D.put (.string l) (.lit (.int .i64 1))) := by
  refine ⟨h.1.put _ _, fun n => ?_⟩
  rw [keptBy_snoc, hx]
  by_cases hn : n = l
  · subst hn
    rw [atKey_put_same h.1 (show WideAt.IsKeyLit (.string n) from trivial)]
    simp
  · rw [atKey_put_other (by intro hc; injection hc with hc; exact hn hc), h.2 n]
    have e : (some l == some n) = false := by simpa using fun hc : l = n => hn hc.symm
    rw [e, Bool.or_false]

theorem law9 : Keyed Tryd.prog 9 := string_keyed Tryd.underlying9
theorem zero3 (w : World) : (zeroValue 3).run Tryd.prog w = .ok (.int .i64 0) w := by kernel_rfl
theorem Tryd.info9 : (Tryd.prog.info? 9).map (fun i => (i.zero, i.size, i.bytes)) = some (some (.string ⟨#[]⟩), 1, 16) := by kernel_rfl
theorem key_str {l : List UInt8} (h : l.length ≤ maxLen) : keyOf Tryd.prog 9 (strV l) = some (.string l) := by
  have := WideMaps.keyOf_string_mk Tryd.underlying9 (s := ⟨l.toArray⟩) (by simpa [ByteArray.size] using h)
  simpa using this
abbrev OwnMap (w : World) (b n : Nat) (D : DataW Unit) : Prop := w.ownsMap Tryd.prog 9 (plainElem (H := Unit) Tryd.prog 3) b n D
theorem OwnMap.gr {A B : World} (h : Gr A B) {b n : Nat} {D : DataW Unit} (hm : OwnMap A b n D) : OwnMap B b n D := by
  obtain ⟨es, clock, hb, r⟩ := hm
  exact ⟨es, clock, h.same hb, r⟩
theorem OwnMap.dat {A B : World} (h : Kp Dat A B) {b n : Nat} {D : DataW Unit} (hm : OwnMap A b n D) : OwnMap B b n D := by
  obtain ⟨es, clock, hb, r⟩ := hm
  exact ⟨es, clock, h.keep _ _ hb rfl, r⟩

/-- Names of the call's own. -/
def OwnStrs (base : Nat) (w : World) (v : Value) (ns : List (List UInt8)) : Prop := w.ownsRow base 9 1 v ns.length (ns.map fun n => strV n)
theorem OwnStrs.is {base : Nat} {w : World} {v : Value} {zs : List (List UInt8)} (h : OwnStrs base w v zs) : IsStrs (fun b => base ≤ b) w v zs := by
  refine SL.of_owns (e := 9) (by intro x hx; obtain ⟨i, _, rfl⟩ := List.mem_map.1 hx; rfl) ?_
  have : (zs.map fun z => [strV z]).flatten = zs.map fun z => strV z := by
    clear h
    induction zs with
    | nil => rfl
    | cons z zs ih => simp only [List.map_cons, List.flatten_cons, ih]; rfl
  rw [List.length_map, this]
  exact h

/-- Between two rounds over the files. -/
def RsI (w : World) (base b0 b1 b2 m : Nat) (D : DataW Unit) (rs : Nat → List (List UInt8)) (k : Nat) (X : World) : Prop :=
  ∃ (va : Option Addr) (vc : Nat), X.heap[b0]? = some (.cells #[.slice va (rs k).length vc] 35 (0, 0)) ∧ X.ownsRow base 9 1 (.slice va (rs k).length vc) (rs k).length ((rs k).map fun n => strV n) ∧
    X.heap[b2]? = some (.cells #[.map (some b1)] 50 (0, 0)) ∧ OwnMap X b1 m D ∧ Below w.heap.size w X ∧ base ≤ X.heap.size
theorem RsI.data {w : World} {base b0 b1 b2 m : Nat} {D : DataW Unit} {rs : Nat → List (List UInt8)} {k n : Nat} (hn : w.heap.size ≤ n) : OfData n (RsI w base b0 b1 b2 m D rs k) := by
  rintro X Y ⟨va, vc, h1, h2, h3, h4, h5, h6⟩ hk
  exact ⟨va, vc, hk.keep _ _ h1 (.inl rfl), ownsRow_dat hk.data h2, hk.keep _ _ h3 (.inl rfl), h4.dat hk.data, hk.below hn (Nat.le_refl _) h5, Nat.le_trans h6 hk.size⟩
theorem RsI.push {w : World} {base b0 b1 b2 m : Nat} {D : DataW Unit} {rs : Nat → List (List UInt8)} {k : Nat} {A w2 : World} {va : Option Addr} {vc : Nat} {n : List UInt8} {v' : Value} {tmp : Obj}
    (h1 : A.heap[b0]? = some (.cells #[.slice va (rs k).length vc] 35 (0, 0))) (h2 : A.ownsRow base 9 1 (.slice va (rs k).length vc) (rs k).length ((rs k).map fun n => strV n))
    (h3 : A.heap[b2]? = some (.cells #[.map (some b1)] 50 (0, 0))) (h4 : OwnMap A b1 m D) (h5 : Below w.heap.size w A) (h6 : base ≤ A.heap.size)
    (hb0 : b0 < base) (hb1 : b1 < base) (hb2 : b2 < base) (h01 : b0 ≠ b1) (h02 : b0 ≠ b2) (hw : w.heap.size ≤ b0)
    (hrs : rs (k + 1) = rs k ++ [n]) (hown : w2.ownsRow base 9 1 v' ((rs k).length + 1) (((rs k).map fun n => strV n) ++ [strV n])) (hg : (A.alloc tmp).grownBy w2 (Value.slice va (rs k).length vc).ownBlock) :
    (∃ a' c', v' = .slice a' ((rs k).length + 1) c') ∧ w2.heap[b0]? = some (.cells #[.slice va (rs k).length vc] 35 (0, 0)) ∧
    RsI w base b0 b1 b2 m D rs (k + 1) (w2.setCell ⟨b0, 0, none⟩ v') ∧ Kp Rcd A (w2.setCell ⟨b0, 0, none⟩ v') ∧
    ∀ N : Nat → Obj → Prop, (∀ k o, N k o → k < base ∧ k ≠ b0) → Kp N A (w2.setCell ⟨b0, 0, none⟩ v') := by
  have hrow : ∀ q, (Value.slice va (rs k).length vc).ownBlock = some q → base ≤ q ∧ ∃ cur, A.heap[q]? = some (.cells cur 9 (0, 0)) := fun q hq => owns_elem h2 hq
  have hkeep : ∀ q, q < base → w2.heap[q]? = A.heap[q]? := fun q hq => by
    rw [hg.block q (by simp; omega) (fun e => by have := (hrow q e.symm).1; omega)]
    exact Below.heap_alloc A tmp q (by omega)
  obtain ⟨a', c', rfl⟩ := owns_slice hown
  have hB2 := (hkeep b0 hb0).trans h1
  have hsz : A.heap.size ≤ w2.heap.size := by have := hg.size; simp at this; omega
  have hlen : (rs (k + 1)).length = (rs k).length + 1 := by rw [hrs]; simp
  refine ⟨⟨a', c', rfl⟩, hB2, ⟨a', c', ?_, ?_, ?_, ?_, ?_, ?_⟩, ?_, ?_⟩
  · rw [hlen]; exact setCell_block hB2 _
  · rw [hlen, hrs, List.map_append]
    exact owns_other hown fun q hq => setCell_other _ (by have := (World.ownsRow.lt hown q hq).1; omega)
  · rw [setCell_other _ (Ne.symm h02), hkeep b2 hb2]; exact h3
  · obtain ⟨es, clock, hb, r⟩ := h4
    exact ⟨es, clock, by rw [setCell_other _ (Ne.symm h01), hkeep b1 hb1]; exact hb, r⟩
  · have hb2' : Below w.heap.size w w2 := by
      refine Below.grown (Below.alloc h5 h5.size tmp) hg ?_ fun q hq => ?_
      · have := h5.size; simp; omega
      · have := (hrow q hq).1; omega
    exact Below.setCell hb2' (p := ⟨b0, 0, none⟩) hw _
  · simp [World.setCell]; omega
  · refine Kp.setCell (Kp.grown (Kp.alloc (Kp.refl _ _) tmp) hg fun q o hq ho hn => ?_) _ _ fun o ho hn => ?_
    · obtain ⟨_, cur, hc⟩ := hrow q hq
      have hlt : q < A.heap.size := (Array.getElem?_eq_some_iff.1 hc).1
      rw [Below.heap_alloc A tmp q hlt, hc] at ho
      cases ho; cases hn
    · rw [hB2] at ho; cases ho; cases hn
  · intro N hN
    refine Kp.setCell (Kp.grown (Kp.alloc (Kp.refl _ _) tmp) hg fun q o hq ho hn => ?_) _ _ fun o ho hn => ?_
    · have := (hrow q hq).1; have := (hN _ _ hn).1; omega
    · exact (hN _ _ hn).2 rfl
end Go.Proofs.YtkhkjcoejkgfeaaDoor
