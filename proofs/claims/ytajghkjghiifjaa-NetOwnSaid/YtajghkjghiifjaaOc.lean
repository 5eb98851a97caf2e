/-
  Deeds as they lie in memory, and how the form of claims opens them.
-/
import Derived.Test.YtajghkjghiifjaaOp
namespace Go.Proofs.Ytajghkjghiifjaa
open Go Go.RowKit Go.ChangeShapes Go.WideShapes Go.Deep

structure Dd where
  what : Int
  place : Int
  many : Int
  msg : Msg

def deedCells (d : Dd) (ev : Value) : List Value := .int .i64 d.what :: .int .i64 d.place :: .int .i64 d.many :: msgCells d.msg ev
theorem deedCells_length (d : Dd) (ev : Value) : (deedCells d ev).length = 18 := rfl
/-- Deeds that lie in memory. -/
def InDeeds (w : World) (v : Value) (ds : List Dd) : Prop :=
  ∃ evs : List Value, evs.length = ds.length ∧ SL (· < w.heap.size) w 18 v (List.zipWith deedCells ds evs) ∧ ∀ (i : Nat) (d : Dd) (ev : Value), ds[i]? = some d → evs[i]? = some ev → IsEnts (· < w.heap.size) w ev d.msg.ents
theorem InDeeds.len {w : World} {v : Value} {ds : List Dd} (hs : InDeeds w v ds) : ∃ a cap, v = .slice a ds.length cap ∧ ds.length ≤ cap ∧ cap ≤ maxLen := by
  obtain ⟨evs, h1, h2, h3⟩ := hs
  obtain ⟨a, cap, hv, h4, h5⟩ := h2.len
  have : (List.zipWith deedCells ds evs).length = ds.length := by simp [h1]
  rw [this] at hv h4
  exact ⟨a, cap, hv, h4, h5⟩
theorem InDeeds.row {w : World} {v : Value} {ds : List Dd} (hs : InDeeds w v ds) (h0 : 0 < ds.length) :
    ∃ b off cap, v = .slice (some ⟨b, off, none⟩) ds.length cap ∧ ds.length ≤ cap ∧ cap ≤ maxLen ∧ b < w.heap.size ∧
      ∀ (i : Nat) (d : Dd), ds[i]? = some d → ∃ ev, w.rangeAt b (off + i * 18) (deedCells d ev) ∧ IsEnts (· < w.heap.size) w ev d.msg.ents := by
  obtain ⟨evs, h1, h2, h3⟩ := hs
  have hl : (List.zipWith deedCells ds evs).length = ds.length := by simp [h1]
  obtain ⟨b, off, cap, hv, h4, h5, h6⟩ := h2.some (by omega)
  have hv' := hv
  rw [hl] at hv h4
  refine ⟨b, off, cap, hv, h4, h5, h6, fun i d hd => ?_⟩
  have hi : i < ds.length := (List.getElem?_eq_some_iff.1 hd).1
  obtain ⟨ev, he⟩ : ∃ ev, evs[i]? = some ev := ⟨evs[i]'(by omega), List.getElem?_eq_getElem (by omega)⟩
  exact ⟨ev, h2.at hv' (by rw [List.getElem?_zipWith, hd, he]), h3 i d ev hd he⟩

section
variable {H : Type} {enc : TypeId × Value → H} {W : World} {base : Nat} {spare : Nat → Bool} {held : Bool}
theorem open_deed {n : Nat} {cs : List Value} {y : DataW H × List MemPlace} (h : DataW.trod enc Try.prog W base spare held n 33 cs = some y) (hl : cs.length = 18) :
    ∃ d : Dd, ∃ ev, cs = deedCells d ev ∧ IsEnts (· < W.heap.size) W ev d.msg.ents := by
  obtain ⟨xs, k, _, _, _, hx, hf⟩ := DataW.trod_struct Try.underlying33 h
  have hz : ∀ i, i < 4 → ∃ v, xs[i]? = some v := fun i hi => ⟨_, List.getElem?_eq_getElem (by rw [hx]; exact hi)⟩
  have c3 : Try.prog.cellsOf 3 = 1 := by kernel_rfl
  have c31 : Try.prog.cellsOf 31 = 15 := by kernel_rfl
  obtain ⟨v0, h0⟩ := hz 0 (by decide)
  obtain ⟨v1, h1⟩ := hz 1 (by decide)
  obtain ⟨v2, h2⟩ := hz 2 (by decide)
  obtain ⟨v3, h3⟩ := hz 3 (by decide)
  have f0 := (hf 0 _ rfl).trans h0
  have f1 := (hf 1 _ rfl).trans h1
  have f2 := (hf 2 _ rfl).trans h2
  have f3 := (hf 3 _ rfl).trans h3
  obtain ⟨z0, e0, _⟩ := DataW.trod_int Try.underlying3 f0
  obtain ⟨z1, e1, _⟩ := DataW.trod_int Try.underlying3 f1
  obtain ⟨z2, e2, _⟩ := DataW.trod_int Try.underlying3 f2
  match cs, hl with
  | a :: b :: c :: rest, hl =>
    have hr : rest.length = 15 := by simpa using hl
    have f3' : DataW.trod enc Try.prog W base spare held k 31 (List.take (Try.prog.cellsOf 31) rest) = some v3 := f3
    rw [c31, List.take_of_length_le (by omega)] at f3'
    obtain ⟨m, ev, e3, hev⟩ := open_msg f3' hr
    simp [c3] at e0 e1 e2
    subst e0 e1 e2 e3
    exact ⟨⟨z0, z1, z2, m⟩, ev, rfl, hev⟩
theorem pick_evd {Q : Dd → Value → Prop} : ∀ (ds : List Dd) (css : List (List Value)), css.length = ds.length → (∀ (i : Nat) (d : Dd) (c : List Value), ds[i]? = some d → css[i]? = some c → ∃ ev, c = deedCells d ev ∧ Q d ev) →
    ∃ evs : List Value, evs.length = ds.length ∧ css = List.zipWith deedCells ds evs ∧ ∀ (i : Nat) (d : Dd) (ev : Value), ds[i]? = some d → evs[i]? = some ev → Q d ev
  | [], [], _, _ => ⟨[], rfl, rfl, fun i m ev h => by simp at h⟩
  | m :: ms, c :: css, hl, h => by
    obtain ⟨ev, hc, hq⟩ := h 0 m c rfl rfl
    obtain ⟨evs, h1, h2, h3⟩ := pick_evd ms css (by simpa using hl) (fun i m c hm hc => h (i + 1) m c (by simpa using hm) (by simpa using hc))
    refine ⟨ev :: evs, by simp [h1], by rw [h2, hc]; rfl, fun i m' ev' hm he => ?_⟩
    cases i with
    | zero => simp at hm he; subst hm he; exact hq
    | succ i => exact h3 i m' ev' (by simpa using hm) (by simpa using he)
theorem open_deeds {n : Nat} {cs : List Value} {y : DataW H × List MemPlace} (h : DataW.trod enc Try.prog W base spare held n 22 cs = some y) : ∃ (v : Value) (ds : List Dd), cs = [v] ∧ InDeeds W v ds := by
  obtain ⟨v, ms, css, rfl, hl, hsl, hr⟩ := open_rows (size := 18) Try.underlying22 (by kernel_rfl) (by decide) (fun (d : Dd) cs => ∃ ev, cs = deedCells d ev ∧ IsEnts (· < W.heap.size) W ev d.msg.ents) (fun n cs y h hl => open_deed h hl) h
  obtain ⟨evs, h1, h2, h3⟩ := pick_evd ms css hl hr
  exact ⟨v, ms, rfl, evs, h1, by rw [← h2]; exact hsl, h3⟩
end
end Go.Proofs.Ytajghkjghiifjaa
