/-
  A law for a scope with several labels; a law for the bytes of a string.
  Conditions: none beyond those typed at each theorem.
-/
import Derived.Test.YtkhkjcoejkgfeaaDoorNb
import Derived.Test.YtkhkjcoejkgfeaaDoorNe
import Derived.Laws.Strings3
import Derived.Scope
import Derived.WalkMore
import Derived.ScopeJumps
namespace Go.Proofs.YtkhkjcoejkgfeaaDoor
open Go Go.RowKit

/-- As Q; by a goto to a label of R: J. -/
def Exit.jumps (R : Nat → Option Code) (J : Nat → Act → World → Prop) (Q : Exit → Act → World → Prop) : Exit → Act → World → Prop
  | .goto l, a, w => (R l).isSome = true ∧ J l a w
  | e, a, w => Q e a w
section
variable {P : Program} {a : Act} {w : World} {Q : Exit → Act → World → Prop} {R : Nat → Option Code} {J : Nat → Act → World → Prop}
@[go_sem] theorem Exit.jumps_normal : Exit.jumps R J Q .normal a w = Q .normal a w := rfl
@[go_sem] theorem Exit.jumps_exit (id : Nat) : Exit.jumps R J Q (.exit id) a w = Q (.exit id) a w := rfl
@[go_sem] theorem Exit.jumps_ret : Exit.jumps R J Q .ret a w = Q .ret a w := rfl
@[go_sem] theorem Exit.jumps_panic (ch : List PanicEntry) : Exit.jumps R J Q (.panic ch) a w = Q (.panic ch) a w := rfl
theorem Exit.jumps_goto {l : Nat} (hR : (R l).isSome = true) (h : J l a w) : Exit.jumps R J Q (.goto l) a w := ⟨hR, h⟩

theorem wp_scope_many {c : Code} (R : Nat → Option Code) (hf : ∀ l rest, R l = some rest → findLabel c l = some rest) (J : Nat → Act → World → Prop) (μ : Nat → Act → World → Nat)
    (first : c.wp P (Exit.jumps R J Q) a w)
    (pass : ∀ l rest, R l = some rest → ∀ a w, J l a w → rest.wp P (Exit.jumps R (fun l' a' w' => J l' a' w' ∧ μ l' a' w' < μ l a w) Q) a w) : (Code.scope c).wp P Q a w := by
  intro b k cs
  have hg : ∀ l rest, R l = some rest → gotoIn l (.inScope c :: k) = some (.code rest :: .inScope c :: k) := fun l rest h => by simp [gotoIn, hf l rest h]
  have key : ∀ n l rest a w, R l = some rest → μ l a w = n → J l a w → ∃ e a' w', Q e a' w' ∧ Arrives P (lone (b.at a (.code rest :: .inScope c :: k)) cs w) b k cs e a' w' := by
    intro n
    induction n using Nat.strongRecOn with
    | _ n ih =>
      intro l rest a w hr hn hJ
      obtain ⟨e, a₁, w₁, hq, harr⟩ := pass l rest hr a w hJ b (.inScope c :: k) cs
      cases e with
      | normal => exact ⟨.normal, a₁, w₁, hq, Steps.trans harr (.one step_inScope)⟩
      | exit id => exact ⟨.exit id, a₁, w₁, hq, fun k' hk => harr k' (by simp [exitTo, hk])⟩
      | goto l' =>
        obtain ⟨hR, hJ', hlt⟩ := hq
        obtain ⟨rest', hr'⟩ := Option.isSome_iff_exists.1 hR
        obtain ⟨e₂, a₂, w₂, hq₂, harr₂⟩ := ih _ (by omega) l' rest' a₁ w₁ hr' rfl hJ'
        exact ⟨e₂, a₂, w₂, hq₂, .of_steps (harr _ (hg l' rest' hr')) harr₂⟩
      | ret => exact ⟨_, a₁, w₁, hq, harr⟩
      | panic ch => exact ⟨_, a₁, w₁, hq, harr⟩
      | outgrown => exact ⟨_, a₁, w₁, hq, harr⟩
  obtain ⟨e, a₁, w₁, hq, harr⟩ := first b (.inScope c :: k) cs
  cases e with
  | normal => exact ⟨.normal, a₁, w₁, hq, .head step_scope (Steps.trans harr (.one step_inScope))⟩
  | exit id => exact ⟨.exit id, a₁, w₁, hq, fun k' hk => .head step_scope (harr k' (by simp [exitTo, hk]))⟩
  | goto l' =>
    obtain ⟨hR, hJ'⟩ := hq
    obtain ⟨rest', hr'⟩ := Option.isSome_iff_exists.1 hR
    obtain ⟨e₂, a₂, w₂, hq₂, harr₂⟩ := key _ l' rest' a₁ w₁ hr' rfl hJ'
    exact ⟨e₂, a₂, w₂, hq₂, .of_steps (.head step_scope (harr _ (hg l' rest' hr'))) harr₂⟩
  | ret => exact ⟨_, a₁, w₁, hq, .of_steps (.one step_scope) harr⟩
  | panic ch => exact ⟨_, a₁, w₁, hq, .of_steps (.one step_scope) harr⟩
  | outgrown => exact ⟨_, a₁, w₁, hq, .of_steps (.one step_scope) harr⟩
end

/-- A byte of a string, whatever string. -/
theorem index_bt (w : World) (l : List UInt8) (k : IntKind) (i : Int) (h0 : 0 ≤ i) (h1 : i < l.length) :
    (Instr.index 9 (.string ⟨l.toArray⟩) (.int k i)).run Tryd.prog w = .ok (.int .u8 (bt l i)) w := by
  rw [run_index_string w 9 ⟨l.toArray⟩ k i Tryd.underlying9, dif_pos ⟨h0, by show i < ((l.toArray.size : Nat) : Int); simpa using h1⟩]
  have hi : i.toNat < l.length := by omega
  have e : bt l i = ((l[i.toNat]).toNat : Int) := by
    unfold bt
    rw [List.getD_eq_getElem?_getD, List.getElem?_eq_getElem hi]; rfl
  rw [e]
  rfl

/-- The n cells from place o of block b on. -/
def rowAt (w : World) (b o n : Nat) : Option (Array Value) :=
  match w.heap[b]? with
  | some (.cells c _ _) => if o + n ≤ c.size then some (c.extract o (o + n)) else none
  | _ => none
theorem rowAt_range {w : World} {b o n : Nat} {cs : Array Value} (h : rowAt w b o n = some cs) : w.rangeAt b o cs.toList ∧ cs.toList.length = n := by
  unfold rowAt at h
  split at h
  · rename_i c t f hb
    split at h
    · rename_i hle
      simp only [Option.some.injEq] at h
      subst h
      refine ⟨World.rangeAt_of_block hb o n, ?_⟩
      simp; omega
    · cases h
  · cases h
theorem loadVar_row {P : Program} {t : TypeId} {n : Nat} {d : TypeDesc} (hu : P.underlying t = some d) (hd : d.isRow = true) (hi : (P.info? t).map (·.size) = some n) {b o : Nat} {w : World} {cs : Array Value} (h : rowAt w b o n = some cs) :
    (loadVar t ⟨b, o, none⟩).run P w = .ok (.agg cs) w := by
  obtain ⟨h1, h2⟩ := rowAt_range h
  have := run_loadVar_mid (P := P) w b o t cs.toList d h1 hu hd (by rw [h2]; exact hi)
  simpa using this
theorem results_row {P : Program} {fn : Func} {t : Tmp} {ty : TypeId} {n : Nat} {d : TypeDesc} (hr : fn.results = #[.cell t ty]) (hu : P.underlying ty = some d) (hd : d.isRow = true) (hi : (P.info? ty).map (·.size) = some n)
    {tmps : Array Value} {b : Nat} {w : World} {cs : Array Value} (ht : tmps.getD t undef = .pointer (some ⟨b, 0, none⟩)) (h : rowAt w b 0 n = some cs) :
    (results fn tmps).run P w = .ok (.agg cs) w := by
  have hl := loadVar_row hu hd hi h
  have ht' : tmps[t]?.getD undef = .pointer (some ⟨b, 0, none⟩) := by simpa using ht
  simp only [results, hr]
  simp [ht', asAddr, hl]
/-- What a function hands back that has a row and a slot. -/
theorem results_row_tmp {P : Program} {fn : Func} {t u : Tmp} {ty : TypeId} {n : Nat} {d : TypeDesc} (hr : fn.results = #[.cell t ty, .tmp u]) (hu : P.underlying ty = some d) (hd : d.isRow = true) (hi : (P.info? ty).map (·.size) = some n)
    {tmps : Array Value} {b : Nat} {w : World} {cs : Array Value} (ht : tmps.getD t undef = .pointer (some ⟨b, 0, none⟩)) (h : rowAt w b 0 n = some cs) :
    (results fn tmps).run P w = .ok (.tuple #[.agg cs, tmps.getD u undef]) w := by
  have hl := loadVar_row hu hd hi h
  have ht' : tmps[t]?.getD undef = .pointer (some ⟨b, 0, none⟩) := by simpa using ht
  simp only [results, hr]
  simp [ht', asAddr, hl]
theorem rowAt_block {w : World} {b : Nat} {cs : Array Value} {t : TypeId} {f : Nat × Nat} (hb : w.heap[b]? = some (.cells cs t f)) {n : Nat} (hn : cs.size = n) : rowAt w b 0 n = some cs := by
  unfold rowAt; rw [hb]; simp [hn.symm]
theorem info23 : (Tryd.prog.info? 23).map (·.size) = some 3 := by kernel_rfl
end Go.Proofs.YtkhkjcoejkgfeaaDoor
