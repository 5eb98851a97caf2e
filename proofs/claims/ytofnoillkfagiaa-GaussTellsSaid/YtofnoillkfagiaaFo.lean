/-
  Appending onto a row of one's own, whatever lies at the end of the source; plain facts on chains.
-/
import Derived.Test.YtofnoillkfagiaaFn
import Derived.Deep.RegionLaw
import Derived.Maps.AppendAt
namespace Go.Proofs.Ytofnoillkfagiaa
open Go Go.RowKit

section
variable {P : Program} {w : World}
theorem run_append_none' (base : Nat) (t ty e : TypeId) (i : TypeInfo) (size c : Nat) (ht : P.underlying t = some (.slice e)) (hi : P.info? e = some i)
    (v : Value) (n : Nat) (xs : List Value) (hown : w.ownsRow base e size v n xs) :
    (Builtin.append_ #[t, t] ty #[v, .slice none 0 c]).run P w = .ok v w := by
  rcases hown.2 with ⟨rfl, rfl⟩ | ⟨g, cap, cur, rfl, _, _, hnc, _⟩
  · simp [Builtin.append_, run_underlying ht, sizeOf, typeInfo, hi, Builtin.lenOf, Builtin.firstCells]
  · simp [Builtin.append_, run_underlying ht, sizeOf, typeInfo, hi, Builtin.lenOf, Builtin.firstCells, hnc, storeCells]

theorem run_append_src (base : Nat) (t ty e : TypeId) (i : TypeInfo) (z : Value) (size bytes : Nat) (ht : P.underlying t = some (.slice e)) (hi : P.info? e = some i) (hz : i.zero = some z)
    (hsize : i.size = size) (hby : i.bytes = bytes) (hzs : z.cells.size = size) (hsz : 0 < size)
    (v : Value) (n : Nat) (xs : List Value) (hown : w.ownsRow base e size v n xs)
    (so : Option Addr) (m c : Nat) (news : List Value) (hl : news.length = m * size) (hso : so = none → m = 0) (hnews : ∀ ad, so = some ad → ∀ j u, news[j]? = some u → w.cell? (ad.add j) = some u) (h1 : ∀ u ∈ news, u.oneCell' = true)
    (h63 : n + m ≤ maxLen) (hbytes : (n + m) * bytes ≤ 140737488355328) (hbase : base ≤ w.heap.size) :
    ∃ a' c' w', (Builtin.append_ #[t, t] ty #[v, .slice so m c]).run P w = .ok (.slice a' (n + m) c') w' ∧ w'.ownsRow base e size (.slice a' (n + m) c') (n + m) (xs ++ news) ∧ w.grownBy w' v.ownBlock := by
  cases so with
  | none =>
    have hm : m = 0 := hso rfl
    subst hm
    have hn : news = [] := List.eq_nil_of_length_eq_zero (by omega)
    subst hn
    obtain ⟨a', c', rfl⟩ := owns_slice hown
    refine ⟨a', c', w, ?_, by simpa using hown, ⟨rfl, rfl, rfl, Nat.le_refl _, fun _ _ _ => rfl⟩⟩
    exact run_append_none' base t ty e i size c ht hi _ n xs hown
  | some ad =>
    obtain ⟨v', w', hr, h2, h3, h4, h5⟩ := run_append_own_at (P := P) w base t ty e i z size bytes ht hi hz hsize hby hzs hsz v n xs hown ad m c news hl (hnews ad rfl) h1 h63 hbytes hbase
    obtain ⟨a', c', rfl⟩ := owns_slice h2
    exact ⟨a', c', w', hr, h2, h3⟩

/-- At the list of a plain region's operations. -/
theorem wpList_append_src {ops : Array Oper} {rest : List Oper} {o : Oper} {a : Act} {Q : Exit → Act → World → Prop} (hgd : o.guard = none) (s x : Operand) (t : TypeId)
    (ho : o.op = .call { callee := .builtin .append, args := #[s, x], argTypes := #[t, t] })
    (base : Nat) (e : TypeId) (i : TypeInfo) (z : Value) (size bytes : Nat) (ht : P.underlying t = some (.slice e)) (hi : P.info? e = some i) (hz : i.zero = some z)
    (hsize : i.size = size) (hby : i.bytes = bytes) (hzs : z.cells.size = size) (hsz : 0 < size)
    (v : Value) (n : Nat) (xs : List Value) (hs : a.eval s = v) (hown : w.ownsRow base e size v n xs)
    (so : Option Addr) (m c : Nat) (news : List Value) (hx : a.eval x = .slice so m c) (hl : news.length = m * size) (hso : so = none → m = 0) (hnews : ∀ ad, so = some ad → ∀ j u, news[j]? = some u → w.cell? (ad.add j) = some u) (h1 : ∀ u ∈ news, u.oneCell' = true)
    (h63 : n + m ≤ maxLen) (hbytes : (n + m) * bytes ≤ 140737488355328) (hbase : base ≤ w.heap.size)
    (h : ∀ a' c' w', w'.ownsRow base e size (.slice a' (n + m) c') (n + m) (xs ++ news) → w.grownBy w' v.ownBlock → wpList P ops Q rest (a.put o.dst (.slice a' (n + m) c')) w') :
    wpList P ops Q (o :: rest) a w := by
  refine wpList_plain hgd fun K hK => ?_
  obtain ⟨a', c', w', hr, h2, h3⟩ := run_append_src (P := P) (w := w) base t o.type e i z size bytes ht hi hz hsize hby hzs hsz v n xs hown so m c news hl hso hnews h1 h63 hbytes hbase
  unfold Oper.wp execOp
  simp only [ho, resolve, invoke, builtin, Sem.run_bind, Sem.run_pure, Result.andThen_ok, List.map_toArray, List.map_cons, List.map_nil, hs, hx, hr]
  exact hK _ _ (h a' c' w' h2 h3)

/-- .. the same, behind a guard. -/
theorem wpList_append_src_g {ops : Array Oper} {rest : List Oper} {o : Oper} {a : Act} {Q : Exit → Act → World → Prop} (hgd : Region.wanted o (yielded ops a.tmps) = true) (s x : Operand) (t : TypeId)
    (ho : o.op = .call { callee := .builtin .append, args := #[s, x], argTypes := #[t, t] })
    (base : Nat) (e : TypeId) (i : TypeInfo) (z : Value) (size bytes : Nat) (ht : P.underlying t = some (.slice e)) (hi : P.info? e = some i) (hz : i.zero = some z)
    (hsize : i.size = size) (hby : i.bytes = bytes) (hzs : z.cells.size = size) (hsz : 0 < size)
    (v : Value) (n : Nat) (xs : List Value) (hs : a.eval s = v) (hown : w.ownsRow base e size v n xs)
    (so : Option Addr) (m c : Nat) (news : List Value) (hx : a.eval x = .slice so m c) (hl : news.length = m * size) (hso : so = none → m = 0) (hnews : ∀ ad, so = some ad → ∀ j u, news[j]? = some u → w.cell? (ad.add j) = some u) (h1 : ∀ u ∈ news, u.oneCell' = true)
    (h63 : n + m ≤ maxLen) (hbytes : (n + m) * bytes ≤ 140737488355328) (hbase : base ≤ w.heap.size)
    (h : ∀ a' c' w', w'.ownsRow base e size (.slice a' (n + m) c') (n + m) (xs ++ news) → w.grownBy w' v.ownBlock → wpList P ops Q rest (a.put o.dst (.slice a' (n + m) c')) w') :
    wpList P ops Q (o :: rest) a w := by
  refine wpList_step fun K hK => ?_
  rw [if_pos hgd]
  obtain ⟨a', c', w', hr, h2, h3⟩ := run_append_src (P := P) (w := w) base t o.type e i z size bytes ht hi hz hsize hby hzs hsz v n xs hown so m c news hl hso hnews h1 h63 hbytes hbase
  unfold Oper.wp execOp
  simp only [ho, resolve, invoke, builtin, Sem.run_bind, Sem.run_pure, Result.andThen_ok, List.map_toArray, List.map_cons, List.map_nil, hs, hx, hr]
  exact hK _ _ (h a' c' w' h2 h3)

end

/-! Chains in numbers -/
theorem chainP_append (z : Int × Int) (bs cs : List Int) : chainP z (bs ++ cs) = chainP (chainP z bs) cs := by unfold chainP; rw [List.foldl_append]
theorem nx_inj {p q : Int × Int} (hp : Pt p) (hq : Pt q) {c : Int} (h1 : nxR p.1 p.2 c = nxR q.1 q.2 c) (h2 : nxI p.1 p.2 = nxI q.1 q.2) : p = q := by
  obtain ⟨a0, a1, b0, b1⟩ := hp
  obtain ⟨c0, c1, d0, d1⟩ := hq
  have := apart_point p.1 p.2 q.1 q.2 c a0 a1 b0 b1 c0 c1 d0 d1
  rw [decide_eq_true h1, decide_eq_true h2] at this
  have h : p.1 = q.1 ∧ p.2 = q.2 := by simpa using this.symm
  exact Prod.ext h.1 h.2
theorem chainP_inj : ∀ (bs : List Int) {p q : Int × Int}, Pt p → Pt q → chainP p bs = chainP q bs → p = q
  | [], _, _, _, _, h => h
  | c :: bs, p, q, hp, hq, h => by
    have := chainP_inj bs (nx_pt p.1 p.2 c) (nx_pt q.1 q.2 c) h
    simp only [Prod.mk.injEq] at this
    exact nx_inj hp hq this.1 this.2
theorem chainP_differs {z : Int × Int} (hz : Pt z) {bs : List Int} {k : Nat} {x y : Int} (hk : bs[k]? = some x) (hx0 : 0 ≤ x) (hx1 : x ≤ 255) (hy0 : 0 ≤ y) (hy1 : y ≤ 255) (hne : y ≠ x) : chainP z (bs.set k y) ≠ chainP z bs := by
  obtain ⟨hlt, hx⟩ := List.getElem?_eq_some_iff.1 hk
  have e1 : bs = bs.take k ++ x :: bs.drop (k + 1) := by rw [← hx, ← List.drop_eq_getElem_cons hlt, List.take_append_drop]
  have e2 : bs.set k y = bs.take k ++ y :: bs.drop (k + 1) := by rw [List.set_eq_take_append_cons_drop, if_pos hlt]
  intro h
  rw [e2] at h
  conv at h => rhs; rw [e1]
  rw [chainP_append, chainP_append] at h
  have hp := chainP_pt hz (bs.take k)
  generalize chainP z (bs.take k) = p at *
  have := chainP_inj (bs.drop (k + 1)) (nx_pt p.1 p.2 y) (nx_pt p.1 p.2 x) h
  simp only [Prod.mk.injEq, and_true] at this
  have hb := apart_byte p.1 p.2 y x hy0 hy1 hx0 hx1
  rw [decide_eq_true this] at hb
  exact hne (of_decide_eq_true hb.symm)
theorem xor_byte {x y : Nat} (hx : x < 256) (hy : y < 256) (h0 : y ≠ 0) : bits .xor .u8 (x : Int) (y : Int) = ((x ^^^ y : Nat) : Int) ∧ x ^^^ y < 256 ∧ x ^^^ y ≠ x := by
  have hlt : x ^^^ y < 256 := Nat.xor_lt_two_pow (n := 8) hx hy
  refine ⟨?_, hlt, fun h => h0 ?_⟩
  · have h1 : (BitVec.ofInt IntKind.u8.bits (x : Int)).toNat = x := by
      show (BitVec.ofInt 8 (x : Int)).toNat = _
      rw [BitVec.ofInt_natCast]; exact (BitVec.toNat_ofNat ..).trans (Nat.mod_eq_of_lt hx)
    have h2 : (BitVec.ofInt IntKind.u8.bits (y : Int)).toNat = y := by
      show (BitVec.ofInt 8 (y : Int)).toNat = _
      rw [BitVec.ofInt_natCast]; exact (BitVec.toNat_ofNat ..).trans (Nat.mod_eq_of_lt hy)
    show IntKind.u8.wrap _ = _
    rw [BitVec.toNat_xor, h1, h2]
    generalize x ^^^ y = m at hlt
    simp [IntKind.wrap, IntKind.signed, IntKind.bits]; omega
  · have : x ^^^ (x ^^^ y) = x ^^^ x := by rw [h]
    rwa [← Nat.xor_assoc, Nat.xor_self, Nat.zero_xor] at this

/-- Bytes of the call's own. -/
theorem own_bytes {base n : Nat} {w : World} {v : Value} {bs : List Int} (hn : n = bs.length) (h : w.ownsRow base 5 1 v n (bs.map (Value.int .u8))) : IsBytes (· < w.heap.size) w v bs := by
  subst hn
  have hf : (bs.map fun z => [Value.int .u8 z]).flatten = bs.map (Value.int .u8) := by
    clear h
    induction bs with
    | nil => rfl
    | cons z l ih => rw [List.map_cons, List.flatten_cons, ih]; rfl
  have hs := SL.of_owns (els := bs.map fun z => [Value.int .u8 z]) (size := 1) (e := 5) (v := v) (w := w) (base := base) (by intro x hx; obtain ⟨z, _, rfl⟩ := List.mem_map.1 hx; rfl) (by rw [hf, List.length_map]; exact h)
  refine ⟨hs.1, ?_⟩
  rcases hs.2 with h0 | ⟨b, off, cap, hv, h4, h5, h6, h7⟩
  · exact .inl h0
  · exact .inr ⟨b, off, cap, hv, h4, h5, (World.ownsRow.lt h b (by rw [hv]; rfl)).2, h7⟩
/-- A source of bytes, as the law of append wants it. -/
theorem bytes_src {S : Nat → Prop} {w : World} {a : Option Addr} {c : Nat} {bs : List Int} (h : IsBytes S w (.slice a bs.length c) bs) :
    (a = none → bs.length = 0) ∧ ∀ ad, a = some ad → ∀ j u, (bs.map (Value.int .u8))[j]? = some u → w.cell? (ad.add j) = some u := by
  have hf : (bs.map fun z => [Value.int .u8 z]).flatten = bs.map (Value.int .u8) := by
    clear h
    induction bs with
    | nil => rfl
    | cons z l ih => rw [List.map_cons, List.flatten_cons, ih]; rfl
  constructor
  · rintro rfl
    rcases h.2 with ⟨_, h0⟩ | ⟨b, off, cap, hv, _⟩
    · simpa using h0
    · simp at hv
  · rintro ad rfl j u hu
    rcases h.2 with ⟨_, h0⟩ | ⟨b, off, cap, hv, _, _, _, hr⟩
    · have : bs = [] := by simpa using h0
      subst this; simp at hu
    · simp only [Value.slice.injEq, Option.some.injEq] at hv
      obtain ⟨rfl, _⟩ := hv
      rw [hf] at hr
      exact add_cells hr j u hu
theorem bytes_one (bs : List Int) : ∀ u ∈ bs.map (Value.int .u8), u.oneCell' = true := by
  intro u hu
  obtain ⟨z, _, rfl⟩ := List.mem_map.1 hu
  rfl
end Go.Proofs.Ytofnoillkfagiaa
