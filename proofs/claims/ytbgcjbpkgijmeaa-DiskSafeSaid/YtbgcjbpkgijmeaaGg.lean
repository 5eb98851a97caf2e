/-
  Walk of the document's answer: all files, behind operations.
  Conditions: none beyond those typed at each theorem.
-/
import Derived.Test.YtbgcjbpkgijmeaaGf
import Derived.Test.YtbgcjbpkgijmeaaGa
namespace Go.Proofs.Ytbgcjbpkgijmeaa
open Go Go.RowKit
attribute [local go_sem ↓] Go.wp_at_zero Go.wp_at_succ
attribute [local go_sem high] str_eql str_neq str_lss str_leq str_geq str_eql0 str_neq0

theorem taken_snoc {fs : List Fl} {j : Nat} {f : Fl} (h : fs[j]? = some f) : taken (fs.take (j + 1)) = firsts (taken (fs.take j)) f := by
  rw [← firsts_taken, ← firsts_taken, take_step h, List.foldl_append]; rfl
theorem fold_snoc {q : List Opr} {j : Nat} {o : Opr} (h : q[j]? = some o) (l : List Fl) : (q.take (j + 1)).foldl step l = step ((q.take j).foldl step l) o := by
  rw [take_step h, List.foldl_append]; rfl
theorem taken_len (fs : List Fl) (j : Nat) : (taken (fs.take j)).length ≤ fs.length ∧ sizeL (taken (fs.take j)) ≤ sizeL fs := by
  refine ⟨Nat.le_trans (len_taken _) ?_, Nat.le_trans (sizeL_taken _) (sizeL_take_le _ _)⟩
  rw [List.length_take]; omega
theorem fold_len (q : List Opr) (l : List Fl) (j : Nat) {o : Opr} (h : q[j]? = some o) : ((q.take j).foldl step l).length ≤ l.length + q.length ∧ sizeL ((q.take j).foldl step l) + o.data.length ≤ sizeL l + sizeQ q := by
  have h1 := len_foldl (q.take j) l
  have h2 := sizeL_foldl (q.take j) l
  have h3 := congrArg sizeQ (List.take_append_drop (j + 1) q)
  rw [take_step h, sizeQ_append, sizeQ_append, sizeQ_cons] at h3
  rw [List.length_take] at h1
  have h4 : sizeQ [] = 0 := rfl
  omega

def AllPost (w : World) (l' : List Fl) (e : Ending) (w' : World) : Prop := ∃ v', e = .returned v' ∧ IsFls (· < w'.heap.size) w' v' l' ∧ Gr w w'
set_option maxRecDepth 100000 in
set_option maxHeartbeats 2000000 in
theorem all_any (w : World) {S T : Nat → Prop} (fv qv : Value) (fs : List Fl) (q : List Opr) (hf : IsFls S w fv fs) (hq : IsOps T w qv q) (hl : fs.length + q.length ≤ 1000000) (hd : sizeL fs + sizeQ q ≤ 1000000000000) :
    Calls Try.prog 47 #[fv, qv] w fun e w' => ∃ v', e = .returned v' ∧ IsFls (· < w'.heap.size) w' v' (q.foldl step (taken fs)) ∧ Gr w w' := by
  show Calls Try.prog 47 #[fv, qv] w (AllPost w (q.foldl step (taken fs)))
  obtain ⟨fa, fc, rfl, hfc, hfm⟩ := hf.len
  obtain ⟨qa, qc, rfl, hqc, hqm⟩ := hq.len
  have HF := Lib.hid hf
  have HQ := Lib.hid hq
  have HL := Lib.hid (And.intro hl hd)
  have hlf : fs.length ≤ 1000000 := by omega
  have hlq : q.length ≤ 1000000 := by omega
  clear hf hq hl hd hfm hqm
  go_enter Try.func47, Try.ntmps47
  go_wp2
  go_loopw [5, 6] (fun l k wr => ∃ (j : Nat) (a : Option Addr) (c : Nat) (L : List Fl), k = .int .i64 j ∧ j ≤ fs.length ∧ l = .slice a L.length c ∧ L = taken (fs.take j) ∧ IsFls (· < wr.heap.size) wr (.slice a L.length c) L ∧ Gr w wr) (fun _ k _ => fs.length - (intOf k).toNat)
  case atStart => exact ⟨0, none, 0, [], rfl, by omega, rfl, rfl, ⟨[], rfl, ⟨by simp, .inl ⟨⟨none, 0, rfl, by decide⟩, rfl⟩⟩, fun i x b h => by simp at h, fun x h => by simp at h⟩, Gr.refl _⟩
  case round =>
    obtain ⟨j, a, c, L, rfl, hj, rfl, hL, hx, hg⟩ := hrel
    have HX := Lib.hid (And.intro hx hg)
    have HLL := Lib.hid hL
    have htl := taken_len fs j
    rw [← hL] at htl
    have hll : L.length ≤ 1000000 := by omega
    clear hx hg hL htl
    by_cases hlt : j < fs.length
    · obtain ⟨f, hfj⟩ : ∃ f, fs[j]? = some f := ⟨_, List.getElem?_eq_getElem hlt⟩
      obtain ⟨b1, o1, c1, hv1, _, _, _, hrows⟩ := HF.out.some (by omega)
      simp only [Value.slice.injEq, true_and] at hv1
      obtain ⟨rfl, rfl⟩ := hv1
      obtain ⟨gv, hr1, hb1⟩ := hrows j f hfj
      obtain ⟨ga, gc, rfl, _, _⟩ := IsBy.len hb1
      have k0 := later_cell HX.out.2 (show w.cell? ⟨b1, o1 + j * 2, none⟩ = some (strV f.name) from hr1 0 _ rfl)
      have HC := Lib.hid (show ∀ X, Gr w X → X.cell? ⟨b1, o1 + j * 2, none⟩ = some (strV f.name) ∧ X.cell? ⟨b1, o1 + j * 2 + 1, none⟩ = some (.slice ga f.data.length gc) from fun X hX => ⟨later_cell hX (hr1 0 _ rfl), later_cell hX (hr1 1 _ rfl)⟩)
      have hsr : Srt L := by rw [HLL.out]; exact srt_taken _
      have hok := HF.out.ok f (List.mem_of_getElem? hfj)
      have HFN := Lib.hid (find_any wr _ L f.name HX.out.1 (by omega))
      have HWI := Lib.hid (with_any wr _ (.slice ga f.data.length gc) L f HX.out.1 (IsBy.gr HX.out.2 hb1) hok hsr (by omega))
      have HNX := Lib.hid (show taken (fs.take (j + 1)) = if get L f.name = none then put L f else L from by rw [taken_snoc hfj, ← HLL.out]; rfl)
      clear hrows hr1 hb1 hfj hsr hok
      go_wp2_with fail
      refine HFN.out.mono ?_
      rintro e w2 ⟨r, rfl, hfa, h2⟩
      subst h2
      have HFA := Lib.hid hfa
      clear hfa HFN
      rcases HFA.out with ⟨rfl, hno⟩ | ⟨k, g, rfl, hk, hfn, hft⟩
      · have HR := Lib.hid (show put L f = taken (fs.take (j + 1)) by rw [HNX.out, if_pos (get_none.2 hno)])
        obtain ⟨m0, m1⟩ := HC.out _ HX.out.2
        clear hno HNX
        go_wp2_with fail
        refine HWI.out.mono ?_
        rintro e w3 ⟨v3, rfl, hx3, hg3⟩
        rw [HR.out] at hx3
        obtain ⟨a3, c3, rfl, _, _⟩ := hx3.len
        have HP := Lib.hid (And.intro hx3 (HX.out.2.trans hg3))
        clear hx3 hg3
        go_wp2
        exact ⟨⟨j + 1, a3, c3, _, by go_num, by omega, rfl, rfl, HP.out.1, HP.out.2⟩, by simp [intOf]; omega⟩
      · have HR := Lib.hid (show L = taken (fs.take (j + 1)) by rw [HNX.out, if_neg (by rw [get_at hk hfn hft]; simp)])
        clear hk hfn hft HNX HWI
        go_wp2
        exact ⟨⟨j + 1, a, c, L, by go_num, by omega, rfl, HR.out, HX.out.1, HX.out.2⟩, by simp [intOf]; omega⟩
    · have hjl : j = fs.length := by omega
      subst hjl
      have HT := Lib.hid (show L = taken fs by rw [HLL.out, List.take_length])
      have hbz := HL.out.2
      have hbt : (taken fs).length ≤ fs.length ∧ sizeL (taken fs) ≤ sizeL fs := ⟨len_taken _, sizeL_taken _⟩
      have HBT := Lib.hid hbt
      have hst := srt_taken fs
      have HST := Lib.hid hst
      clear hst hbt HLL
      generalize taken fs = TK at *
      go_wp2
      go_loopw [5, 7] (fun l k wr => ∃ (i : Nat) (a : Option Addr) (c : Nat) (M : List Fl), k = .int .i64 i ∧ i ≤ q.length ∧ l = .slice a M.length c ∧ M = (q.take i).foldl step TK ∧ IsFls (· < wr.heap.size) wr (.slice a M.length c) M ∧ Gr w wr) (fun _ k _ => q.length - (intOf k).toNat)
      case atStart => exact ⟨0, a, c, L, rfl, by omega, rfl, by rw [HT.out]; rfl, HX.out.1, HX.out.2⟩
      case round =>
        obtain ⟨i, a, c, M, rfl, hi, rfl, hM, hx, hg⟩ := hrel
        have HY := Lib.hid (And.intro hx hg)
        have HMM := Lib.hid hM
        clear hx hg hM
        by_cases hlti : i < q.length
        · obtain ⟨o, hoi⟩ : ∃ o, q[i]? = some o := ⟨_, List.getElem?_eq_getElem hlti⟩
          obtain ⟨b2, o2, c2, hv2, _, _, _, hrows⟩ := HQ.out.some (by omega)
          simp only [Value.slice.injEq, true_and] at hv2
          obtain ⟨rfl, rfl⟩ := hv2
          obtain ⟨gv, hr1, hb1⟩ := hrows i o hoi
          obtain ⟨ga, gc, rfl, _, _⟩ := IsBy.len hb1
          have k0 := later_cell HY.out.2 (show w.cell? ⟨b2, o2 + i * 4, none⟩ = some (.int .u8 o.kind) from hr1 0 _ rfl)
          have k1 := later_cell HY.out.2 (show w.cell? ⟨b2, o2 + i * 4 + 1, none⟩ = some (strV o.name) from hr1 1 _ rfl)
          have k2 := later_cell HY.out.2 (show w.cell? ⟨b2, o2 + i * 4 + 2, none⟩ = some (strV o.to) from hr1 2 _ rfl)
          have k3 := later_cell HY.out.2 (show w.cell? ⟨b2, o2 + i * 4 + 3, none⟩ = some (.slice ga o.data.length gc) from hr1 3 _ rfl)
          have hsr : Srt M := by rw [HMM.out]; exact srt_foldl HST.out
          have hok := HQ.out.ok o (List.mem_of_getElem? hoi)
          have hfl := fold_len q TK i hoi
          rw [← HMM.out] at hfl
          have hL1 := HL.out
          have hB1 := HBT.out
          have HSTP := Lib.hid (stepR_any wr _ (.slice ga o.data.length gc) M o HY.out.1 (IsBy.gr HY.out.2 hb1) hok hsr (by omega) (by omega))
          have HR := Lib.hid (show step M o = (q.take (i + 1)).foldl step TK by rw [fold_snoc hoi, ← HMM.out])
          clear hrows hr1 hb1 hoi hsr hok hfl hL1 hB1
          go_wp2_with fail
          refine HSTP.out.mono ?_
          rintro e w3 ⟨v3, rfl, hx3, hg3⟩
          rw [HR.out] at hx3
          obtain ⟨a3, c3, rfl, _, _⟩ := hx3.len
          have HP := Lib.hid (And.intro hx3 (HY.out.2.trans hg3))
          clear hx3 hg3
          go_wp2
          exact ⟨⟨i + 1, a3, c3, _, by go_num, by omega, rfl, rfl, HP.out.1, HP.out.2⟩, by simp [intOf]; omega⟩
        · have hil : i = q.length := by omega
          subst hil
          have HR := Lib.hid (show M = q.foldl step TK by rw [HMM.out, List.take_length])
          go_wp2
          go_ret
          exact ⟨_, rfl, by rw [← HR.out]; exact HY.out.1, HY.out.2⟩
end Go.Proofs.Ytbgcjbpkgijmeaa
