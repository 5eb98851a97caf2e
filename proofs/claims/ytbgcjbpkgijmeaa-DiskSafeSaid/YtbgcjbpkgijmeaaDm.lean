/-
  Walk: the iterator over the files of a map, by name.
  Conditions: none beyond those typed at each theorem.
-/
import Derived.Test.YtbgcjbpkgijmeaaDl
import Derived.Sort.OwnSorted
import Derived.Sort.MapsRangeIn
namespace Go.Proofs.Ytbgcjbpkgijmeaa
open Go Go.RowKit Go.Maps Go.Sort
attribute [local go_sem] Oper.semAt_some

/-- The sorted names. -/
theorem names_sorted {n0 : Nat} {w : World} {D : DataW Value} {l : List Fl} (hs : Srt l) (hl : MapIs n0 w D l) {left : Lit → Bool} {ss : List Bs} (hC : Collected D left ss) (h0 : ∀ kl, left kl = false) : ss.mergeSort leB = l.map Fl.name := by
  have hp : ss.Perm (l.map Fl.name) := by
    refine (List.perm_ext_iff_of_nodup hC.1 ?_).2 fun x => ?_
    · refine List.pairwise_map.2 (hs.imp fun {a b} h => bs_ne h)
    · rw [hC.2 x]
      constructor
      · rintro ⟨hx, _⟩
        cases hg : get l x with
        | none => rw [hl.no x hg] at hx; cases hx
        | some b => exact List.mem_map.2 ⟨⟨x, b⟩, get_mem hg, rfl⟩
      · intro hx
        obtain ⟨f, hf, rfl⟩ := List.mem_map.1 hx
        obtain ⟨v, h1, _⟩ := hl.yes _ _ (get_of_mem hs hf)
        exact ⟨has_true_of_atKey h1, h0 _⟩
  rw [mergeSort_of_perm hp]
  refine List.mergeSort_of_pairwise ?_
  refine List.pairwise_map.2 (hs.imp fun {a b} h => ?_)
  simp only [leB, decide_eq_true_eq]
  exact List.not_lt.1 (bs_asym h)
theorem Try.info9 : (Try.prog.info? 9).map (fun i => (i.zero, i.size, i.bytes)) = some (some (.string ⟨#[]⟩), 1, 16) := by kernel_rfl

/-- slices.Sort, of a row of one's own. -/
theorem sort_any (w : World) (base : Nat) (va : Option Addr) (vc : Nat) (ss : List Bs) (hrow : w.ownsRow base 9 1 (.slice va ss.length vc) ss.length (ss.map encStr)) (hl : ss.length ≤ 1000000) :
    Calls Try.prog 38 #[.slice va ss.length vc] w fun e w' => e = .returned (.tuple #[]) ∧ w'.ownsRow base 9 1 (.slice va ss.length vc) ss.length ((ss.mergeSort leB).map encStr) ∧ w.grownBy w' (Value.slice va ss.length vc).ownBlock := by
  have hrow' := hrow
  rcases hrow.2 with ⟨hnil, h0⟩ | ⟨g, cap, cur, hv, hbase, hb, h1, h2, h3, h4⟩
  · obtain rfl : ss = [] := List.eq_nil_of_length_eq_zero h0
    refine (Try.slices_Sort_string_none va vc w).mono ?_
    rintro e w' ⟨rfl, rfl⟩
    exact ⟨rfl, by simpa using hrow', ⟨rfl, rfl, rfl, Nat.le_refl _, fun _ _ _ => rfl⟩⟩
  · cases hv
    refine (Try.slices_Sort_string g 0 vc ss w (holds_of_block hb (by simpa using h4)) (Array.getElem?_eq_some_iff.1 hb).1 (by omega)).mono ?_
    rintro e w' ⟨rfl, n, os, rfl⟩
    exact ⟨rfl, ownsRow_sorted (by simp) hbase hb h1 h2 h3, grownBy_sorted _⟩
/-- What the iterator leans on; what it hands over. -/
def SorNd (n0 B b : Nat) : Nat → Obj → Prop := fun k o => isRec o = false ∧ (k < n0 ∨ k = B ∨ k = b ∨ ∃ c e f, o = .cells c e f ∧ (e = 5 ∨ e = 9))
def SorY (n1 : Nat) (l : List Fl) (k : Nat) (args : Array Value) (A : World) : Prop := ∃ f bv, l[k]? = some f ∧ args = #[flV f bv] ∧ OwnBy n1 A bv f.data ∧ f.name.length ≤ maxLen
theorem ownM_le {w : World} {b n : Nat} {D : DataW Value} (h : OwnM w b n D) : Maps.size D ≤ n := World.ownsMap.size_le h
theorem MapIs.kpS {n0 B b : Nat} {A C : World} {D : DataW Value} {l : List Fl} (h : MapIs n0 A D l) (hk : Kp (SorNd n0 B b) A C) : MapIs n0 C D l :=
  h.kp hk fun k c e f hh _ => ⟨rfl, by
    rcases hh with h | h
    · exact .inl h
    · exact .inr (.inr (.inr ⟨c, e, f, rfl, .inl h⟩))⟩

set_option maxRecDepth 100000 in
set_option maxHeartbeats 2000000 in
theorem sort1_in (n0 n1 n : Nat) (D : DataW Value) (l : List Fl) (B b : Nat) (hs : Srt l) (hn : n ≤ 1000000) (hsz : sizeL l ≤ 1000000000000) (hnm : ∀ f ∈ l, f.name.length ≤ maxLen)
    (ll : Nat) (J : Nat → World → Prop) (Jx : World → Prop) (W : World) (hn1 : n1 ≤ W.heap.size) (h1 : W.heap[B]? = some (.cells #[.map (some b)] 54 (0, 0))) (hm : OwnM W b n D) (hl : MapIs n0 W D l)
    (hG : ∀ k A B, J k A → Gr A B → J k B)
    (hY : ∀ k args A, k < l.length → J k A → SorY n1 l k args A → YieldAt Fence.wide 0 Try.prog ll args A fun e B' =>
      (e = .returned (.bool true) ∧ J (k + 1) B' ∧ Kp (SorNd n0 B b) A B') ∨ (e = .returned (.bool false) ∧ Jx B'))
    (h0 : J 0 W) :
    CallsIn Fence.wide 0 Try.prog 37 #[.func (.yield ll) #[] #[], .pointer (some ⟨B, 0, none⟩)] W fun e W' => (∃ v, e = .returned v) ∧ (J l.length W' ∨ Jx W') := by
  obtain ⟨i0, hi, hz0, hz1, hz2⟩ := info_parts Try.info9
  have c10 := cell_block h1 (j := 0) (v := .map (some b)) rfl
  have lB : B < W.heap.size := (Array.getElem?_eq_some_iff.1 h1).1
  have lb := hm.lt
  have HM := Lib.hid hm
  have HL := Lib.hid hl
  have H1 := Lib.hid h1
  have HS := Lib.hid hs
  have HY := Lib.hid hY
  have HG := Lib.hid hG
  have H0 := Lib.hid h0
  have HNM := Lib.hid hnm
  have hDn := ownM_le hm
  clear hm hl h1 hs hY hG h0 hnm
  refine callsIn_of_wp Try.func37 rfl trivial ?_ rfl
  simp only [Try.ntmps37, List.size_toArray, List.length_cons, List.length_nil, Nat.reduceAdd, Nat.reduceSub, Array.replicate_succ, Array.replicate_zero, List.push_toArray, List.append_toArray, List.nil_append, List.cons_append]
  gi_wp2_with (gi_at_range; go_loud (refine wpListIn_range_own _ rfl _ 54 rfl 9 30 law9 Try.underlying54 heldE b n D rfl HM.out ?_))
  intro w1 hr1 hg1 hs1
  have HR1 := Lib.hid hr1
  have HG1 := Lib.hid (show Gr W w1 from Gr.of ⟨hg1.os, hg1.tape, hg1.output, hg1.size, fun k hk => hg1.block k hk (by simp)⟩)
  clear hr1 hg1 hs1
  gi_wp2_with fail
  gi_loopw [3] (fun nv wr => ∃ (left : Lit → Bool) (c : Nat) (ss : List Bs), wr.ranges Try.prog 9 heldE b W.heap.size n D left c ∧ ss.length + c ≤ Maps.size D ∧
      wr.ownsRow W.heap.size 9 1 nv ss.length (ss.map encStr) ∧ Collected D left ss ∧ Gr W wr) (fun _ wr => wr.rangeLeft b W.heap.size)
  case atStart => exact ⟨_, _, [], HR1.out, by simp, World.ownsRow_nil _ _ _ _, Collected.start D, HG1.out⟩
  case round =>
    obtain ⟨left, c, ss, hrg, hcs, hrow, hC, hg⟩ := hrel
    obtain ⟨va, vc, rfl⟩ := owns_slice hrow
    have hle := hrg.left_eq
    have HRG := Lib.hid hrg
    have HLE := Lib.hid hle
    have HROW := Lib.hid hrow
    have HC := Lib.hid hC
    have HGr := Lib.hid hg
    clear hrg hle hrow hC hg
    gi_wp2_with (gi_at_next; go_loud (refine wpListIn_next_ranges _ rfl _ rfl 9 law9 heldE encStr id (fun key kl hk => by obtain ⟨x, hx, _⟩ := Maps.keyOf_str Try.underlying9 hk; exact ⟨x, hx⟩) (fun v y _ => ⟨v, rfl⟩) b W.heap.size n _ _ _ rfl HRG.out ?_ ?_))
    · intro hc0 hl0
      have hsrt := names_sorted HS.out HL.out HC.out hl0
      have HSRT := Lib.hid hsrt
      clear hc0 hl0 hsrt
      have hN : ss.length = l.length := by have := congrArg List.length HSRT.out; simpa using this
      have HSO := Lib.hid (sort_any wr W.heap.size va vc ss HROW.out (by omega))
      rw [hN] at HSO
      have HN := Lib.hid hN
      rw [HN.out]
      gi_wp2_with fail
      refine ⟨trivial, rfl, (callsIn_wide.2 HSO.out).mono ?_⟩
      rintro e W2 ⟨rfl, ho, hg2⟩
      have hG2 : Gr W W2 := grown_gr HGr.out hg2 fun q hq => by
        have := owns_elem HROW.out (k := q) (by rw [HN.out]; exact hq)
        exact this.1
      rw [HSRT.out] at ho
      have HO := Lib.hid ho
      have HG2 := Lib.hid hG2
      have hll : l.length ≤ 1000000 := by omega
      clear ho hg2 hG2 hcs
      gi_wp2_with fail
      gi_loopw [21] (fun iv wr => ∃ i : Nat, iv = .int .i64 i ∧ i ≤ l.length ∧ J i wr ∧ Kp (SorNd n0 B b) W2 wr) (fun iv _ => l.length - (intOf iv).toNat)
      case atStart => exact ⟨0, rfl, Nat.zero_le _, HG.out _ _ _ H0.out HG2.out, Kp.refl _ _⟩
      case round =>
        obtain ⟨i, rfl, hi', hJ, hk⟩ := hrel
        have hBr := hk.keep _ _ (HG2.out.same H1.out) ⟨rfl, .inr (.inl rfl)⟩
        have cBr := cell_block hBr (j := 0) (v := .map (some b)) rfl
        by_cases hlt : i < l.length
        · obtain ⟨f, hf⟩ : ∃ f, l[i]? = some f := ⟨_, List.getElem?_eq_getElem hlt⟩
          obtain ⟨g, cap, cur, hv, hgW, hgb, _, _, _, _⟩ : ∃ g cap cur, (Value.slice va l.length vc = .slice (some ⟨g, 0, none⟩) l.length cap) ∧ W.heap.size ≤ g ∧ W2.heap[g]? = some (.cells cur 9 (0, 0)) ∧ True ∧ True ∧ True ∧ True := by
            rcases HO.out.2 with ⟨_, h0⟩ | ⟨g, cap, cur, hv, h1, h2, _⟩
            · omega
            · exact ⟨g, cap, cur, hv, h1, h2, trivial, trivial, trivial, trivial⟩
          simp only [Value.slice.injEq, true_and] at hv
          obtain ⟨rfl, rfl⟩ := hv
          have hc : W2.cell? ((⟨g, 0, none⟩ : Addr).add i) = some (encStr f.name) := World.ownsRow.cells HO.out rfl i _ (by rw [List.map_map, List.getElem?_map, hf]; rfl)
          rw [Addr.add_mid, Nat.zero_add] at hc
          have q0 : wr.cell? ⟨g, i, none⟩ = some (encStr f.name) := cell_kp hk hc fun c e fz _ => by
            rename_i hh
            rw [hgb] at hh; cases hh
            exact ⟨rfl, .inr (.inr (.inr ⟨_, _, _, rfl, .inr rfl⟩))⟩
          have hfm := List.mem_of_getElem? hf
          have hmr : OwnM wr b n D := by
            obtain ⟨es, clock, hb', r⟩ := OwnM.gr HG2.out HM.out
            exact ⟨es, clock, hk.keep _ _ hb' ⟨rfl, .inr (.inr (.inl rfl))⟩, r⟩
          obtain ⟨v, _, hlk, hv⟩ := ((HL.out.gr HG2.out).kpS hk).look hmr (HNM.out f hfm) (get_of_mem HS.out hfm)
          have hfl := sizeL_get (get_of_mem HS.out hfm)
          have HCL := Lib.hid (clone_any wr hv (by omega))
          have HK := Lib.hid hk
          have HJ := Lib.hid hJ
          have HF := Lib.hid (And.intro hf (HNM.out f hfm))
          have hw1 : n1 ≤ wr.heap.size := Nat.le_trans hn1 (Nat.le_trans HG2.out.size hk.size)
          obtain ⟨xa, xc, rfl, _, _⟩ := IsBy.len hv
          clear hJ hk hf hmr hv hgb hc hfm hBr
          gi_wp2_with fail
          refine ⟨trivial, rfl, (callsIn_wide.2 HCL.out).mono ?_⟩
          rintro e w3 ⟨v', rfl, ho3, hg3⟩
          obtain ⟨ya, yc, rfl⟩ := ho3.slice
          obtain ⟨fn, tmps, assign, body, hy, hR⟩ := HY.out i #[flV f (.slice ya f.data.length yc)] w3 hlt (HG.out _ _ _ HJ.out hg3) ⟨f, _, HF.out.1, rfl, ho3.base hw1, HF.out.2⟩
          have HR := Lib.hid hR
          have HG3 := Lib.hid hg3
          clear hR ho3 hg3 hlk q0
          gi_wp2_with fail
          refine ⟨rfl, HR.out.mono ?_⟩
          rintro e W3 (⟨rfl, hJ3, hk3⟩ | ⟨rfl, hJx3⟩)
          · have HJ3 := Lib.hid hJ3
            have HK3 := Lib.hid hk3
            clear hJ3 hk3 hy
            gi_wp2
            exact ⟨⟨i + 1, by go_num, by omega, HJ3.out, (HK.out.trans (Gr.kp HG3.out _)).trans HK3.out⟩, by simp [intOf]; omega⟩
          · gi_wp2
            exact bodyPost_ret (results_none rfl _ _ _) rfl ⟨⟨_, rfl⟩, .inr hJx3⟩
        · obtain rfl : i = l.length := by omega
          have HJ2 := Lib.hid hJ
          clear hJ hk
          gi_wp2
          exact bodyPost_end (results_none rfl _ _ _) rfl ⟨⟨_, rfl⟩, .inl HJ2.out⟩
    · intro x v kl yd yp w2 c2 hkey hlk hv hat hrg2 hlt hg2 hs2 hen
      obtain ⟨x', ex, rfl, _⟩ := Maps.keyOf_str Try.underlying9 hkey
      obtain rfl : x = x' := encStr_inj ex
      have hrow2 := HROW.out.kept hg2 (Or.inr (row_ne_iter HROW.out HRG.out).symm)
      have hG2 : Gr W w2 := grown_gr HGr.out hg2 fun q hq => by cases hq; exact Nat.le_refl _
      have hC2 := HC.out.step hlk hat
      have hw2 := hG2.size
      have hlt2 : w2.rangeLeft b W.heap.size < wr.rangeLeft b W.heap.size := by rw [hrg2.left_eq, HLE.out]; exact hlt
      have HROW2 := Lib.hid hrow2
      have HP := Lib.hid (And.intro hrg2 (And.intro hG2 (And.intro hC2 (And.intro hlt2 hlt))))
      clear hs2 hkey hlk hat hrg2 hlt hg2 hrow2 hG2 hC2 hlt2 ex hv
      gi_wp2_with (gi_at_builtin; go_loud (refine wpListIn_append_own _ rfl _ _ 70 rfl W.heap.size 9 i0 (.string ⟨#[]⟩) 1 16 Try.underlying70 hi hz0 hz1 hz2 rfl (by decide) _ _ _ rfl (HROW2.out.alloc _) ⟨w2.heap.size, 0, none⟩ 1 1 [encStr x] rfl rfl (cell_one_new _ _ _) (by simp [Value.oneCell', encStr]) (by unfold maxLen at *; omega) (by omega) (by simp; omega) ?_))
      intro v' w3 hown' hg3 hnil3
      have hrg3 := (HP.out.1.alloc (.cells #[encStr x] 9)).kept hg3 (row_ne_low HROW2.out lb) (row_ne_iter HROW2.out HP.out.1)
      have hG3 : Gr W w3 := grown_gr (HP.out.2.1.alloc _) hg3 fun q hq => (owns_elem HROW2.out hq).1
      have hlt3 : w3.rangeLeft b W.heap.size < wr.rangeLeft b W.heap.size := by rw [hrg3.left_eq, HLE.out]; exact HP.out.2.2.2.2
      obtain ⟨va', vc', rfl⟩ := owns_slice hown'
      have HP3 := Lib.hid (And.intro hrg3 (And.intro hown' (And.intro hG3 hlt3)))
      have hcl := HP.out.2.2.2.2
      have hcs2 : (ss ++ [x]).length + c2 ≤ Maps.size D := by rw [List.length_append]; simp; omega
      have HCS := Lib.hid hcs2
      clear hrg3 hown' hG3 hlt3 hg3 hnil3 hcl hcs2 hcs
      gi_wp2
      exact ⟨⟨_, c2, ss ++ [x], HP3.out.1, HCS.out, by simpa using HP3.out.2.1, HP.out.2.2.1, HP3.out.2.2.1⟩, HP3.out.2.2.2⟩
end Go.Proofs.Ytbgcjbpkgijmeaa
