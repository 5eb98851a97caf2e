/-
  What lies in memory, read as entries, messages and nets; how such readings are kept.
  Conditions: none beyond those typed at each theorem. No program in sight.
-/
import Derived.Test.YtajghkjghiifjaaBase
import Derived.Deep.MidRow
import Derived.Laws.AppendOwn
namespace Go.Proofs.Ytajghkjghiifjaa
open Go Go.RowKit

structure Ent where
  term : Int
  kind : Int
  value : Int
  deriving DecidableEq

structure Msg where
  kind : Int
  frm : Int
  to : Int
  term : Int
  cap : Int
  last : Int
  lastTerm : Int
  commit : Int
  ok : Bool
  ents : List Ent
  si : Int
  st : Int
  ss : Int
  sl : Int
  sf : Bool
  deriving DecidableEq

structure Net where
  msgs : List Msg
  sent : Int
  lost : Int
  deriving DecidableEq

def entCells (e : Ent) : List Value := [.int .i64 e.term, .int .i64 e.kind, .int .i64 e.value]
def msgCells (m : Msg) (ev : Value) : List Value :=
  [.int .u8 m.kind, .int .i64 m.frm, .int .i64 m.to, .int .i64 m.term, .int .i64 m.cap, .int .i64 m.last, .int .i64 m.lastTerm, .int .i64 m.commit, .bool m.ok, ev,
   .int .i64 m.si, .int .i64 m.st, .int .i64 m.ss, .int .i64 m.sl, .bool m.sf]
theorem entCells_length (e : Ent) : (entCells e).length = 3 := rfl
theorem msgCells_length (m : Msg) (ev : Value) : (msgCells m ev).length = 15 := rfl

/-- The value is a slice whose elements, of 'size' cells each, are els; its block is one of S. -/
def SL (S : Nat → Prop) (w : World) (size : Nat) (v : Value) (els : List (List Value)) : Prop :=
  (∀ e ∈ els, e.length = size) ∧
  (((∃ a c, v = .slice a 0 c ∧ c ≤ maxLen) ∧ els = []) ∨ ∃ b off cap, v = .slice (some ⟨b, off, none⟩) els.length cap ∧ els.length ≤ cap ∧ cap ≤ maxLen ∧ S b ∧ w.rangeAt b off els.flatten)

theorem rangeAt_kp {N : Nat → Obj → Prop} {A B : World} (h : Kp N A B) {b o : Nat} {cs : List Value} (hr : A.rangeAt b o cs) (hN : ∀ c e f, A.heap[b]? = some (.cells c e f) → N b (.cells c e f)) : B.rangeAt b o cs := by
  intro j v hv
  have hc := hr j v hv
  unfold World.cell? at hc ⊢
  split at hc
  · rename_i c e f ho
    rw [h.keep _ _ ho (hN _ _ _ ho)]
    exact hc
  · cases hc
theorem cell_kp {N : Nat → Obj → Prop} {A B : World} (h : Kp N A B) {a : Addr} {v : Value} (hc : A.cell? a = some v) (hN : ∀ c e f, A.heap[a.block]? = some (.cells c e f) → N a.block (.cells c e f)) : B.cell? a = some v := by
  unfold World.cell? at hc ⊢
  split at hc
  · rename_i c e f ho
    rw [h.keep _ _ ho (hN _ _ _ ho)]
    exact hc
  · cases hc
theorem SL.kp {N : Nat → Obj → Prop} {A B : World} (h : Kp N A B) {S : Nat → Prop} {size : Nat} {v : Value} {els : List (List Value)} (hs : SL S A size v els)
    (hN : ∀ b c e f, S b → A.heap[b]? = some (.cells c e f) → N b (.cells c e f)) : SL S B size v els := by
  refine ⟨hs.1, ?_⟩
  rcases hs.2 with h0 | ⟨b, off, cap, hv, h1, h2, h3, h4⟩
  · exact .inl h0
  · exact .inr ⟨b, off, cap, hv, h1, h2, h3, rangeAt_kp h h4 (fun c e f => hN b c e f h3)⟩
theorem SL.mono {A : World} {S T : Nat → Prop} {size : Nat} {v : Value} {els : List (List Value)} (hs : SL S A size v els) (hST : ∀ b, S b → T b) : SL T A size v els := by
  refine ⟨hs.1, ?_⟩
  rcases hs.2 with h0 | ⟨b, off, cap, hv, h1, h2, h3, h4⟩
  · exact .inl h0
  · exact .inr ⟨b, off, cap, hv, h1, h2, hST _ h3, h4⟩
theorem SL.dat {A B : World} (h : Kp Dat A B) {S : Nat → Prop} {size : Nat} {v : Value} {els : List (List Value)} (hs : SL S A size v els) : SL S B size v els :=
  hs.kp h (fun _ _ _ _ _ _ => rfl)
theorem SL.gr {A B : World} (h : Gr A B) {S : Nat → Prop} {size : Nat} {v : Value} {els : List (List Value)} (hs : SL S A size v els) : SL S B size v els := hs.dat (Gr.kp h _)

theorem flatten_at {size : Nat} : ∀ (els : List (List Value)), (∀ e ∈ els, e.length = size) → ∀ (i : Nat) (e : List Value), els[i]? = some e → ∀ (j : Nat) (v : Value), e[j]? = some v → els.flatten[i * size + j]? = some v
  | [], _, i, e, he, _, _, _ => by simp at he
  | x :: els, hl, i, e, he, j, v, hv => by
    have hx : x.length = size := hl x (by simp)
    cases i with
    | zero =>
      simp at he; subst he
      simp only [Nat.zero_mul, Nat.zero_add, List.flatten_cons]
      rw [List.getElem?_append_left (by exact (List.getElem?_eq_some_iff.1 hv).1)]; exact hv
    | succ i =>
      simp only [List.getElem?_cons_succ] at he
      have := flatten_at els (fun e he => hl e (by simp [he])) i e he j v hv
      simp only [List.flatten_cons]
      rw [List.getElem?_append_right (by rw [hx, Nat.add_mul]; omega), hx]
      have e1 : (i + 1) * size + j - size = i * size + j := by rw [Nat.add_mul]; omega
      rw [e1]; exact this
theorem flatten_length {size : Nat} : ∀ (els : List (List Value)), (∀ e ∈ els, e.length = size) → els.flatten.length = els.length * size
  | [], _ => by simp
  | x :: els, hl => by
    have hx : x.length = size := hl x (by simp)
    have := flatten_length els (fun e he => hl e (by simp [he]))
    simp only [List.flatten_cons, List.length_append, List.length_cons, this, hx, Nat.add_mul]; omega

/-- A slice that has an element, written out; the element's cells. -/
theorem SL.at {S : Nat → Prop} {w : World} {size : Nat} {v : Value} {els : List (List Value)} (hs : SL S w size v els) {b off len cap : Nat} (hv : v = .slice (some ⟨b, off, none⟩) len cap) {i : Nat} {e : List Value} (he : els[i]? = some e) :
    w.rangeAt b (off + i * size) e := by
  rcases hs.2 with ⟨h0, h1⟩ | ⟨b', off', cap', hv', h1, h2, h3, h4⟩
  · subst h1; simp at he
  · rw [hv] at hv'
    simp only [Value.slice.injEq, Option.some.injEq, Addr.mk.injEq, and_true] at hv'
    obtain ⟨⟨rfl, rfl⟩, _, rfl⟩ := hv'
    intro j u hu
    have := h4 _ _ (flatten_at els hs.1 i e he j u hu)
    rw [← Nat.add_assoc] at this; exact this
theorem SL.len {S : Nat → Prop} {w : World} {size : Nat} {v : Value} {els : List (List Value)} (hs : SL S w size v els) : ∃ a cap, v = .slice a els.length cap ∧ els.length ≤ cap ∧ cap ≤ maxLen := by
  rcases hs.2 with ⟨⟨a, c, rfl, hc⟩, rfl⟩ | ⟨b', off', cap', hv', h1, h2, h3, h4⟩
  · exact ⟨a, c, rfl, Nat.zero_le _, hc⟩
  · exact ⟨_, cap', hv', h1, h2⟩
theorem SL.some {S : Nat → Prop} {w : World} {size : Nat} {v : Value} {els : List (List Value)} (hs : SL S w size v els) (h : 0 < els.length) : ∃ b off cap, v = .slice (some ⟨b, off, none⟩) els.length cap ∧ els.length ≤ cap ∧ cap ≤ maxLen ∧ S b := by
  rcases hs.2 with ⟨_, rfl⟩ | ⟨b', off', cap', hv', h1, h2, h3, h4⟩
  · simp at h
  · exact ⟨_, _, cap', hv', h1, h2, h3⟩

/-- What the call owns is a slice to be read. -/
theorem SL.of_owns {w : World} {base : Nat} {e : TypeId} {size : Nat} {v : Value} {els : List (List Value)} (hl : ∀ x ∈ els, x.length = size) (h : w.ownsRow base e size v els.length els.flatten) : SL (fun b => base ≤ b) w size v els := by
  refine ⟨hl, ?_⟩
  rcases h.2 with ⟨h0, h1⟩ | ⟨g, cap, cur, hv, hg, hh, hn, hc, hs, ht⟩
  · exact .inl ⟨⟨none, 0, h0, Nat.zero_le _⟩, List.eq_nil_of_length_eq_zero h1⟩
  · refine .inr ⟨g, 0, cap, hv, hn, hc, hg, fun j u hu => ?_⟩
    have hk : w.cell? ((⟨g, 0, none⟩ : Addr).add j) = Option.some u := World.ownsRow.cells h (by rw [hv]; rfl) j u hu
    rwa [Addr.add_mid] at hk

def IsEnts (S : Nat → Prop) (w : World) (v : Value) (es : List Ent) : Prop := SL S w 3 v (es.map entCells)
/-- Messages to be read: the row in a block of S, each one's entries in blocks of S. -/
def IsMsgs (S : Nat → Prop) (w : World) (v : Value) (ms : List Msg) : Prop :=
  ∃ evs : List Value, evs.length = ms.length ∧ SL S w 15 v (List.zipWith msgCells ms evs) ∧ ∀ (i : Nat) (m : Msg) (ev : Value), ms[i]? = Option.some m → evs[i]? = Option.some ev → IsEnts S w ev m.ents
def netV (n : Net) (v : Value) : Value := .agg #[v, .int .i64 n.sent, .int .i64 n.lost]
def msgV (m : Msg) (ev : Value) : Value := .agg (msgCells m ev).toArray

theorem IsEnts.dat {A B : World} (h : Kp Dat A B) {S : Nat → Prop} {v : Value} {es : List Ent} (hs : IsEnts S A v es) : IsEnts S B v es := SL.dat h hs
theorem IsEnts.gr {A B : World} (h : Gr A B) {S : Nat → Prop} {v : Value} {es : List Ent} (hs : IsEnts S A v es) : IsEnts S B v es := SL.gr h hs
theorem IsMsgs.dat {A B : World} (h : Kp Dat A B) {S : Nat → Prop} {v : Value} {ms : List Msg} (hs : IsMsgs S A v ms) : IsMsgs S B v ms := by
  obtain ⟨evs, h1, h2, h3⟩ := hs
  exact ⟨evs, h1, h2.dat h, fun i m ev hm he => (h3 i m ev hm he).dat h⟩
theorem IsMsgs.gr {A B : World} (h : Gr A B) {S : Nat → Prop} {v : Value} {ms : List Msg} (hs : IsMsgs S A v ms) : IsMsgs S B v ms := hs.dat (Gr.kp h _)
theorem IsMsgs.mono {A : World} {S T : Nat → Prop} {v : Value} {ms : List Msg} (hs : IsMsgs S A v ms) (hST : ∀ b, S b → T b) : IsMsgs T A v ms := by
  obtain ⟨evs, h1, h2, h3⟩ := hs
  exact ⟨evs, h1, h2.mono hST, fun i m ev hm he => (h3 i m ev hm he).mono hST⟩
theorem IsMsgs.kp {N : Nat → Obj → Prop} {A B : World} (h : Kp N A B) {S : Nat → Prop} {v : Value} {ms : List Msg} (hs : IsMsgs S A v ms)
    (hN : ∀ b c e f, S b → A.heap[b]? = Option.some (.cells c e f) → N b (.cells c e f)) : IsMsgs S B v ms := by
  obtain ⟨evs, h1, h2, h3⟩ := hs
  exact ⟨evs, h1, h2.kp h hN, fun i m ev hm he => SL.kp h (h3 i m ev hm he) hN⟩
theorem IsMsgs.len {w : World} {S : Nat → Prop} {v : Value} {ms : List Msg} (hs : IsMsgs S w v ms) : ∃ a cap, v = .slice a ms.length cap ∧ ms.length ≤ cap ∧ cap ≤ maxLen := by
  obtain ⟨evs, h1, h2, h3⟩ := hs
  obtain ⟨a, cap, hv, h4, h5⟩ := h2.len
  have : (List.zipWith msgCells ms evs).length = ms.length := by simp [h1]
  rw [this] at hv h4
  exact ⟨a, cap, hv, h4, h5⟩
theorem IsMsgs.some {w : World} {S : Nat → Prop} {v : Value} {ms : List Msg} (hs : IsMsgs S w v ms) (h0 : 0 < ms.length) :
    ∃ b off cap, v = .slice (some ⟨b, off, none⟩) ms.length cap ∧ ms.length ≤ cap ∧ cap ≤ maxLen ∧ S b ∧
      ∀ (i : Nat) (m : Msg), ms[i]? = Option.some m → ∃ ev, w.rangeAt b (off + i * 15) (msgCells m ev) ∧ IsEnts S w ev m.ents := by
  obtain ⟨evs, h1, h2, h3⟩ := hs
  have hl : (List.zipWith msgCells ms evs).length = ms.length := by simp [h1]
  obtain ⟨b, off, cap, hv, h4, h5, h6⟩ := h2.some (by omega)
  have hv' := hv
  rw [hl] at hv h4
  refine ⟨b, off, cap, hv, h4, h5, h6, fun i m hm => ?_⟩
  have hi : i < ms.length := (List.getElem?_eq_some_iff.1 hm).1
  obtain ⟨ev, he⟩ : ∃ ev, evs[i]? = Option.some ev := ⟨evs[i]'(by omega), List.getElem?_eq_getElem (by omega)⟩
  exact ⟨ev, h2.at hv' (by rw [List.getElem?_zipWith, hm, he]), h3 i m ev hm he⟩
theorem IsEnts.len {w : World} {S : Nat → Prop} {v : Value} {es : List Ent} (hs : IsEnts S w v es) : ∃ a cap, v = .slice a es.length cap ∧ es.length ≤ cap ∧ cap ≤ maxLen := by
  have := SL.len hs; simpa using this
theorem IsEnts.some {w : World} {S : Nat → Prop} {v : Value} {es : List Ent} (hs : IsEnts S w v es) (h0 : 0 < es.length) :
    ∃ b off cap, v = .slice (some ⟨b, off, none⟩) es.length cap ∧ es.length ≤ cap ∧ cap ≤ maxLen ∧ S b ∧
      ∀ (i : Nat) (e : Ent), es[i]? = Option.some e → w.rangeAt b (off + i * 3) (entCells e) := by
  obtain ⟨b, off, cap, hv, h4, h5, h6⟩ := SL.some hs (by simpa using h0)
  refine ⟨b, off, cap, by simpa using hv, by simpa using h4, h5, h6, fun i e he => SL.at hs hv (by rw [List.getElem?_map, he]; rfl)⟩

/-- Entries of the call's own. -/
def OwnEnts (base : Nat) (w : World) (v : Value) (es : List Ent) : Prop := w.ownsRow base 53 3 v es.length (es.map entCells).flatten
theorem OwnEnts.is {base : Nat} {w : World} {v : Value} {es : List Ent} (h : OwnEnts base w v es) : IsEnts (fun b => base ≤ b) w v es :=
  SL.of_owns (by intro x hx; obtain ⟨e, _, rfl⟩ := List.mem_map.1 hx; rfl) (by rw [List.length_map]; exact h)
/-- Messages of the call's own. -/
def OwnMsgs (base : Nat) (w : World) (v : Value) (ms : List Msg) : Prop :=
  ∃ evs : List Value, evs.length = ms.length ∧ w.ownsRow base 31 15 v ms.length (List.zipWith msgCells ms evs).flatten ∧ ∀ (i : Nat) (m : Msg) (ev : Value), ms[i]? = Option.some m → evs[i]? = Option.some ev → OwnEnts base w ev m.ents
theorem OwnMsgs.is {base : Nat} {w : World} {v : Value} {ms : List Msg} (h : OwnMsgs base w v ms) : IsMsgs (fun b => base ≤ b) w v ms := by
  obtain ⟨evs, h1, h2, h3⟩ := h
  refine ⟨evs, h1, SL.of_owns (e := 31) ?_ ?_, fun i m ev hm he => (h3 i m ev hm he).is⟩
  · intro x hx
    obtain ⟨i, hi, rfl⟩ := List.mem_iff_getElem.1 hx
    rw [List.getElem_zipWith]; rfl
  · have : (List.zipWith msgCells ms evs).length = ms.length := by simp [h1]
    rw [this]; exact h2

theorem ownsRow_dat {A B : World} (h : Kp Dat A B) {base : Nat} {e : TypeId} {size : Nat} {v : Value} {n : Nat} {xs : List Value} (hr : A.ownsRow base e size v n xs) : B.ownsRow base e size v n xs := by
  refine ⟨hr.1, ?_⟩
  rcases hr.2 with h0 | ⟨g, cap, cur, hv, hg, hh, r⟩
  · exact .inl h0
  · exact .inr ⟨g, cap, cur, hv, hg, h.keep _ _ hh rfl, r⟩
theorem OwnEnts.dat {A B : World} (h : Kp Dat A B) {base : Nat} {v : Value} {es : List Ent} (hs : OwnEnts base A v es) : OwnEnts base B v es := ownsRow_dat h hs
theorem OwnMsgs.dat {A B : World} (h : Kp Dat A B) {base : Nat} {v : Value} {ms : List Msg} (hs : OwnMsgs base A v ms) : OwnMsgs base B v ms := by
  obtain ⟨evs, h1, h2, h3⟩ := hs
  exact ⟨evs, h1, ownsRow_dat h h2, fun i m ev hm he => (h3 i m ev hm he).dat h⟩
theorem OwnMsgs.gr {A B : World} (h : Gr A B) {base : Nat} {v : Value} {ms : List Msg} (hs : OwnMsgs base A v ms) : OwnMsgs base B v ms := hs.dat (Gr.kp h _)
theorem OwnEnts.gr {A B : World} (h : Gr A B) {base : Nat} {v : Value} {es : List Ent} (hs : OwnEnts base A v es) : OwnEnts base B v es := hs.dat (Gr.kp h _)
theorem ownsRow_base {w : World} {base base' : Nat} {e : TypeId} {size : Nat} {v : Value} {n : Nat} {xs : List Value} (hb : base' ≤ base) (h : w.ownsRow base e size v n xs) : w.ownsRow base' e size v n xs := by
  refine ⟨h.1, ?_⟩
  rcases h.2 with h0 | ⟨g, cap, cur, hv, hg, r⟩
  · exact .inl h0
  · exact .inr ⟨g, cap, cur, hv, by omega, r⟩
theorem OwnEnts.base {w : World} {base base' : Nat} {v : Value} {es : List Ent} (hb : base' ≤ base) (h : OwnEnts base w v es) : OwnEnts base' w v es := ownsRow_base hb h
theorem OwnMsgs.base {w : World} {base base' : Nat} {v : Value} {ms : List Msg} (hb : base' ≤ base) (h : OwnMsgs base w v ms) : OwnMsgs base' w v ms := by
  obtain ⟨evs, h1, h2, h3⟩ := h
  exact ⟨evs, h1, ownsRow_base hb h2, fun i m ev hm he => (h3 i m ev hm he).base hb⟩

theorem ents_flat_length (es : List Ent) : (es.map entCells).flatten.length = es.length * 3 := by
  rw [flatten_length (size := 3)]
  · simp
  · intro x hx; obtain ⟨e, _, rfl⟩ := List.mem_map.1 hx; rfl
theorem ents_flat_one (es : List Ent) : ∀ u ∈ (es.map entCells).flatten, u.oneCell' = true := by
  intro u hu
  obtain ⟨l, hl, hu⟩ := List.mem_flatten.1 hu
  obtain ⟨e, _, rfl⟩ := List.mem_map.1 hl
  simp only [entCells, List.mem_cons, List.not_mem_nil, or_false] at hu
  rcases hu with rfl | rfl | rfl <;> rfl
theorem msgCells_one (m : Msg) (ev : Value) (h : ev.oneCell' = true) : ∀ u ∈ msgCells m ev, u.oneCell' = true := by
  intro u hu
  simp only [msgCells, List.mem_cons, List.not_mem_nil, or_false] at hu
  rcases hu with rfl | rfl | rfl | rfl | rfl | rfl | rfl | rfl | rfl | rfl | rfl | rfl | rfl | rfl | rfl <;> first | rfl | exact h
theorem add_cells {w : World} {b o : Nat} {cs : List Value} (h : w.rangeAt b o cs) : ∀ j u, cs[j]? = some u → w.cell? ((⟨b, o, none⟩ : Addr).add j) = some u := by
  intro j u hu; rw [Addr.add_mid]; exact h j u hu
end Go.Proofs.Ytajghkjghiifjaa
