/-
  Walk: how many bytes the files of a map have.
  Conditions: none beyond those typed at each theorem.
-/
import Derived.Test.YtbgcjbpkgijmeaaDk
import Derived.Sort.KeysCollected
import Derived.Maps.RangeWalk
namespace Go.Proofs.Ytbgcjbpkgijmeaa
open Go Go.RowKit Go.Maps

theorem sizeL_del_eq {n b : Bs} : ∀ {l : List Fl}, Srt l → get l n = some b → b.length + sizeL (del l n) = sizeL l
  | [], _, h => by simp [get] at h
  | g :: r, hs, h => by
    obtain ⟨h1, h2⟩ := List.pairwise_cons.1 hs
    unfold get at h
    by_cases hg : g.name = n
    · have e : del (g :: r) n = del r n := by simp [del, hg]
      have e2 : del r n = r := by
        unfold del
        refine List.filter_eq_self.2 fun f hf => ?_
        have := bs_ne (h1 f hf)
        rw [hg] at this
        simpa using fun h => this h.symm
      rw [if_pos hg] at h; cases h
      rw [e, e2, sizeL_cons]
    · have e : del (g :: r) n = g :: del r n := by simp [del, hg]
      rw [if_neg hg] at h
      have := sizeL_del_eq h2 h
      rw [e, sizeL_cons, sizeL_cons]; omega
/-- Those that are still to come. -/
def remL (left : Lit → Bool) (l : List Fl) : List Fl := l.filter fun f => left (.string f.name)
theorem sameKey_str (a b : Bs) : (Lit.string a).sameKey (.string b) = decide (a = b) := by
  by_cases h : a = b
  · subst h; rw [WideAt.sameKey_self (a := .string a) trivial]; simp
  · rw [Maps.sameKey_ne (fun e => h (by injection e))]; simp [h]
theorem remL_step (left : Lit → Bool) (l : List Fl) (x : Bs) : remL (fun z => left z && !z.sameKey (.string x)) l = del (remL left l) x := by
  unfold remL del
  rw [List.filter_filter]
  refine List.filter_congr fun f _ => ?_
  show (left (.string f.name) && !(Lit.string f.name).sameKey (.string x)) = _
  rw [sameKey_str, Bool.and_comm]
theorem get_remL {left : Lit → Bool} {l : List Fl} (hs : Srt l) {x b : Bs} (hl : left (.string x) = true) (hg : get l x = some b) : get (remL left l) x = some b := by
  have hm : (⟨x, b⟩ : Fl) ∈ remL left l := List.mem_filter.2 ⟨get_mem hg, hl⟩
  exact get_of_mem (List.Pairwise.filter _ hs) hm

/-- What a key of the map says. -/
theorem MapIs.key {n0 : Nat} {w : World} {D : DataW Value} {l : List Fl} (h : MapIs n0 w D l) {x : Bs} {v : Value} (hat : ∀ zd, D.atKey (.string x) zd = .held v) : ∃ b, get l x = some b ∧ By5 n0 w v b := by
  cases hg : get l x with
  | none =>
    have := h.no x hg
    rw [has_true_of_atKey hat] at this; cases this
  | some b =>
    obtain ⟨v', h1, h2⟩ := h.yes x b hg
    have e := (hat .nil).symm.trans (h1 .nil)
    injection e with e
    subst e
    exact ⟨b, rfl, h2⟩

set_option maxRecDepth 100000 in
set_option maxHeartbeats 1000000 in
theorem used_map (w : World) (n0 b n : Nat) (D : DataW Value) (l : List Fl) (hs : Srt l) (hm : OwnM w b n D) (hl : MapIs n0 w D l) (hsz : sizeL l ≤ 1000000000000) :
    Calls Try.prog 27 #[.map (some b)] w fun e w' => e = .returned (.int .i64 (sizeL l)) ∧ Gr w w' := by
  have hstart : sizeL (remL (Maps.has D) l) = sizeL l := by
    have : remL (Maps.has D) l = l := by
      refine List.filter_eq_self.2 fun f hf => ?_
      obtain ⟨v, h1, _⟩ := hl.yes _ _ (get_of_mem hs hf)
      exact has_true_of_atKey h1
    rw [this]
  have HL := Lib.hid hl
  have HM := Lib.hid hm
  have HS := Lib.hid hs
  have HST := Lib.hid hstart
  clear hl hm hs hstart
  go_enter Try.func27, Try.ntmps27
  go_wp2_with (at_range; go_loud (refine wpList_range_own _ rfl _ 54 rfl 9 30 law9 Try.underlying54 heldE b n D rfl HM.out ?_))
  intro w1 hr1 hg1 hs1
  have HR1 := Lib.hid hr1
  have HG1 := Lib.hid hg1
  clear hr1 hg1 hs1
  go_wp2_with fail
  go_loopw [2] (fun nv wr => ∃ (left : Lit → Bool) (c k : Nat), wr.ranges Try.prog 9 heldE b w.heap.size n D left c ∧ nv = .int .i64 k ∧ k + sizeL (remL left l) = sizeL l ∧ Gr w wr) (fun _ wr => wr.rangeLeft b w.heap.size)
  case atStart => exact ⟨_, _, 0, HR1.out, rfl, by rw [HST.out, Nat.zero_add], Gr.of ⟨HG1.out.os, HG1.out.tape, HG1.out.output, HG1.out.size, fun k hk => HG1.out.block k hk (by simp)⟩⟩
  case round =>
    obtain ⟨left, c, k, hrg, rfl, hk, hg⟩ := hrel
    have HG := Lib.hid hg
    have HK := Lib.hid hk
    have hle := hrg.left_eq
    have HLE := Lib.hid hle
    have HRG := Lib.hid hrg
    clear hg hk hle hrg
    go_wp2_with (at_next; go_loud (refine wpList_next_ranges _ rfl _ rfl 9 law9 heldE strV id (fun key kl hk => by obtain ⟨x, hx, _⟩ := Maps.keyOf_str Try.underlying9 hk; exact ⟨x, hx⟩) (fun v y _ => ⟨v, rfl⟩) b w.heap.size n _ _ _ rfl HRG.out ?_ ?_))
    · intro hc0 hl0
      have hz : remL left l = [] := List.filter_eq_nil_iff.2 fun f _ => by rw [hl0]; simp
      have HZ := Lib.hid hz
      clear hc0 hl0 hz
      go_wp2
      go_ret
      have e : sizeL l = k := by rw [← HK.out, HZ.out]; rfl
      exact ⟨by rw [e]; rfl, HG.out⟩
    · intro x v kl yd yp w2 c2 hkey hlk hv hat hrg2 hlt hg2 hs2 hen
      obtain ⟨x', ex, rfl, _⟩ := Maps.keyOf_str Try.underlying9 hkey
      obtain rfl : x = x' := str_inj ex
      simp only [heldE, Option.some.injEq, Prod.mk.injEq] at hv
      obtain ⟨rfl, rfl⟩ := hv
      obtain ⟨dt, hgt, hby⟩ := (HL.out.gr HG.out).key hat
      obtain ⟨va, vc, rfl, _, _⟩ := IsBy.len hby
      have hdel := sizeL_del_eq (List.Pairwise.filter _ HS.out) (get_remL HS.out hlk hgt)
      have hG2 : Gr w w2 := grown_gr HG.out hg2 fun q hq => by cases hq; exact Nat.le_refl _
      have hk := HK.out
      have e2 := remL_step left l x
      have hk2 : (k + dt.length) + sizeL (remL (fun z => left z && !z.sameKey (.string x)) l) = sizeL l := by
        rw [e2]
        unfold remL at hk hdel ⊢
        omega
      have hlt2 : w2.rangeLeft b w.heap.size < wr.rangeLeft b w.heap.size := by rw [hrg2.left_eq, HLE.out]; exact hlt
      have hkl : k + dt.length ≤ 1000000000000 := by omega
      have HP := Lib.hid (And.intro hrg2 (And.intro hk2 (And.intro hG2 hlt2)))
      clear hs2 hkey hlk hat hrg2 hlt hg2 hby hdel hG2 hk e2 hk2 hlt2 ex hgt
      go_wp2
      exact ⟨⟨_, _, k + dt.length, HP.out.1, by go_num, HP.out.2.1, HP.out.2.2.1⟩, HP.out.2.2.2⟩

/-- A disk's value, its slices written out. -/
theorem dsk_val {S : Nat → Prop} {w : World} {v : Value} {d : Dsk} (h : IsDsk S w v d) : ∃ fa fc qa qc, v = .agg #[.slice fa d.files.length fc, .slice qa d.queue.length qc, .int .i64 d.quota, .int .i64 d.fuse, .bool d.dead] := by
  obtain ⟨fv, qv, rfl, hf, hq, hnum⟩ := h
  obtain ⟨fa, fc, rfl, _, _⟩ := hf.len
  obtain ⟨qa, qc, rfl, _, _⟩ := hq.len
  exact ⟨fa, fc, qa, qc, rfl⟩
set_option maxRecDepth 100000 in
set_option maxHeartbeats 1000000 in
theorem used_any (w : World) {S : Nat → Prop} (v : Value) (d : Dsk) (hx : IsDsk S w v d) (hc : cnt d ≤ 1000000) (ht : tot d ≤ 1000000000000) :
    Calls Try.prog 15 #[v] w fun e w' => e = .returned (.int .i64 (usedN d)) ∧ Gr w w' := by
  have hx := dsk_inn hx
  obtain ⟨fa, fc, qa, qc, rfl⟩ := dsk_val hx
  have g1 : Gr w (w.alloc (.cells #[.slice fa d.files.length fc, .slice qa d.queue.length qc, .int .i64 d.quota, .int .i64 d.fuse, .bool d.dead] 25)) := Gr.alloc (Gr.refl w) _
  have HN := Lib.hid (now_any _ w.heap.size g1.size _ d (hx.gr g1) hc ht)
  have HU := Lib.hid (show ∀ (X : World) (b : Nat) (D : DataW Value), OwnM X b (cnt d) D → MapIs w.heap.size X D (nowL d) → Calls Try.prog 27 #[.map (some b)] X fun e w' => e = .returned (.int .i64 (usedN d)) ∧ Gr X w' from
    fun X b D hm hl => used_map X _ b _ D (nowL d) (srt_now d) hm hl (Nat.le_trans (size_now d) ht))
  have HG1 := Lib.hid g1
  clear hx hc ht g1
  go_enter Try.func15, Try.ntmps15
  go_wp2_with fail
  refine HN.out.mono ?_
  rintro e w3 ⟨b, D, rfl, hb, hm, hl, hg⟩
  have HU3 := Lib.hid (HU.out w3 b D hm hl)
  have HG := Lib.hid (HG1.out.trans hg)
  clear hb hm hl hg
  go_wp2_with fail
  refine HU3.out.mono ?_
  rintro e w4 ⟨rfl, hg⟩
  have HG4 := Lib.hid (HG.out.trans hg)
  clear hg
  go_wp2
  go_ret
  exact ⟨rfl, HG4.out⟩
end Go.Proofs.Ytbgcjbpkgijmeaa
