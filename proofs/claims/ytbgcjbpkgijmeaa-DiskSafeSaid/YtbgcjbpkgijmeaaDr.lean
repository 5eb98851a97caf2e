/-
  Walks: are all operations what they must be; the files' names.
  Conditions: none beyond those typed at each theorem.
-/
import Derived.Test.YtbgcjbpkgijmeaaDq
namespace Go.Proofs.Ytbgcjbpkgijmeaa
open Go Go.RowKit Go.Maps

theorem bad_any (w : World) (o : Opr) (a : Option Addr) (n c : Nat) (hk : (Lit.int .u8 o.kind).wf = true) : Calls Try.prog 36 #[opV o (.slice a n c)] w fun e w' => e = .returned (.bool (!fineB o)) ∧ Gr w w' := by
  have HF := Lib.hid (fun X => fine_any X o (.slice a n c) hk)
  have HG := Lib.hid (Gr.alloc (Gr.refl w) (.cells #[.int .u8 o.kind, strV o.name, strV o.to, .slice a n c] 32))
  generalize fineB o = r at *
  go_enter Try.func36, Try.ntmps36
  go_wp2_with fail
  refine (HF.out _).mono ?_
  rintro e w1 ⟨rfl, hg⟩
  have HG1 := Lib.hid (HG.out.trans hg)
  clear hg
  go_wp2
  go_ret
  exact ⟨rfl, HG1.out⟩

set_option maxRecDepth 100000 in
set_option maxHeartbeats 1000000 in
theorem index_any (w : World) {S : Nat → Prop} (v : Value) (q : List Opr) (hx : IsOps S w v q) (hl : q.length ≤ 1000000) :
    Calls Try.prog 48 #[v, .func (.func 36) #[] #[]] w fun e w' => ∃ r : Int, e = .returned (.int .i64 r) ∧ (decide (0 ≤ r) = !q.all fineB) ∧ -1 ≤ r ∧ r ≤ 1000000 ∧ Gr w w' := by
  obtain ⟨a, c, rfl, _, _⟩ := hx.len
  have HX := Lib.hid hx
  clear hx
  go_enter Try.func48, Try.ntmps48
  go_wp2
  go_loopw [8] (fun k wr => ∃ j : Nat, k = .int .i64 j ∧ j ≤ q.length ∧ (q.take j).all fineB = true ∧ Gr w wr) (fun k _ => q.length - (intOf k).toNat)
  case atStart => exact ⟨0, rfl, Nat.zero_le _, rfl, Gr.refl _⟩
  case round =>
    obtain ⟨j, rfl, hj, hall, hg⟩ := hrel
    by_cases hlt : j < q.length
    · obtain ⟨o, hoj⟩ : ∃ o, q[j]? = some o := ⟨_, List.getElem?_eq_getElem hlt⟩
      obtain ⟨b, of, c', hv, _, _, _, hrows⟩ := HX.out.some (by omega)
      simp only [Value.slice.injEq, true_and] at hv
      obtain ⟨rfl, rfl⟩ := hv
      obtain ⟨bv, hr, hbv⟩ := hrows j o hoj
      obtain ⟨ba, bc, rfl, _, _⟩ := hbv.len
      have hr := later_range hg hr
      have k0 : wr.cell? ⟨b, of + j * 4, none⟩ = some (.int .u8 o.kind) := hr 0 _ rfl
      have k1 : wr.cell? ⟨b, of + j * 4 + 1, none⟩ = some (strV o.name) := hr 1 _ rfl
      have k2 : wr.cell? ⟨b, of + j * 4 + 2, none⟩ = some (strV o.to) := hr 2 _ rfl
      have k3 : wr.cell? ⟨b, of + j * 4 + 3, none⟩ = some (.slice ba o.data.length bc) := hr 3 _ rfl
      have hok := HX.out.ok o (List.mem_of_getElem? hoj)
      have HB := Lib.hid (bad_any wr o ba o.data.length bc hok.2.2)
      have HG := Lib.hid hg
      have htk : (q.take (j + 1)).all fineB = fineB o := by rw [List.take_add_one, hoj, List.all_append, hall]; simp
      have HTK := Lib.hid htk
      have hbad : fineB o = false → q.all fineB = false := fun h => by
        rw [List.all_eq_false]
        exact ⟨o, List.mem_of_getElem? hoj, by simp [h]⟩
      have HBAD := Lib.hid hbad
      clear hr hbv hrows hoj hok hg hall htk hbad
      cases hfb : fineB o with
      | true =>
        rw [hfb] at HB HTK
        have HB' := Lib.hid (show Calls Try.prog 36 #[opV o (.slice ba o.data.length bc)] wr fun e w' => e = .returned (.bool false) ∧ Gr wr w' from HB.out)
        clear hfb HBAD HB
        go_wp2_with fail
        refine HB'.out.mono ?_
        rintro e w1 ⟨rfl, hg⟩
        have HG1 := Lib.hid (HG.out.trans hg)
        clear hg
        go_wp2
        exact ⟨⟨j + 1, by go_num, by omega, HTK.out, HG1.out⟩, by simp [intOf]; omega⟩
      | false =>
        rw [hfb] at HB
        have HQ := Lib.hid (HBAD.out hfb)
        have HB' := Lib.hid (show Calls Try.prog 36 #[opV o (.slice ba o.data.length bc)] wr fun e w' => e = .returned (.bool true) ∧ Gr wr w' from HB.out)
        clear hfb HBAD HB HTK
        go_wp2_with fail
        refine HB'.out.mono ?_
        rintro e w1 ⟨rfl, hg⟩
        have HG1 := Lib.hid (HG.out.trans hg)
        clear hg
        go_wp2
        go_ret
        exact ⟨j, rfl, by rw [HQ.out]; simp, by omega, by omega, HG1.out⟩
    · obtain rfl : j = q.length := by omega
      rw [List.take_length] at hall
      have HA := Lib.hid (And.intro hall hg)
      clear hall hg
      go_wp2
      go_ret
      exact ⟨-1, rfl, by rw [HA.out.1]; simp, by omega, by omega, HA.out.2⟩

theorem contains_any (w : World) {S : Nat → Prop} (v : Value) (q : List Opr) (hx : IsOps S w v q) (hl : q.length ≤ 1000000) :
    Calls Try.prog 35 #[v, .func (.func 36) #[] #[]] w fun e w' => e = .returned (.bool (!q.all fineB)) ∧ Gr w w' := by
  obtain ⟨a, c, rfl, _, _⟩ := hx.len
  have HI := Lib.hid (index_any w _ q hx hl)
  clear hx
  go_enter Try.func35, Try.ntmps35
  go_wp2_with fail
  refine HI.out.mono ?_
  rintro e w1 ⟨r, rfl, hr, _, _, hg⟩
  have HG := Lib.hid (And.intro hr hg)
  clear hr hg
  go_wp2
  go_ret
  exact ⟨by rw [← HG.out.1]; simp, HG.out.2⟩
end Go.Proofs.Ytbgcjbpkgijmeaa
