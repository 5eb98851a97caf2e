/-
  The law of the rest, walked.
  Conditions: none beyond those typed at each theorem.
-/
import Derived.Test.YtkhkjcoejkgfeaaDoorNr
import Derived.Test.YtkhkjcoejkgfeaaDoorNt
namespace Go.Proofs.YtkhkjcoejkgfeaaDoor
open Go Go.RowKit

set_option maxRecDepth 100000 in
set_option maxHeartbeats 4000000 in
theorem restlaw_great (w : World) (hT : Tab w) (v : Value) (ns : List (List UInt8)) (hx : IsFiles (· < w.heap.size) w v ns) (ka : Option Addr) (m kc : Nat)
    (h : 40 < (m : Int)) : Calls Tryd.prog 4 #[v, .slice ka m kc] w fun e w' => e = .returned (.bool true) ∧ Gr w w' := by
  have HG := Lib.hid (great_any w _ v ns hx)
  have HW := Lib.hid (wakes_any hT)
  clear hx hT
  go_enter Tryd.func4, Tryd.ntmps4
  go_wp2_with fail
  refine HG.out.mono ?_
  rintro e w1 ⟨r, rfl, _, rfl⟩
  cases r
  all_goals
    go_wp2_with fail
    refine HW.out.mono ?_
    rintro e w2 ⟨rfl, g2⟩
    have HG2 := Lib.hid g2
    clear g2
    go_wp2
    go_ret
    exact ⟨rfl, HG2.out⟩

set_option maxRecDepth 100000 in
set_option maxHeartbeats 8000000 in
theorem restlaw_any (w : World) (hT : Tab w) (v : Value) (ns : List (List UInt8)) (hx : IsFiles (· < w.heap.size) w v ns) (kv : Value) (xs : List Idn) (hk : IsIds (· < w.heap.size) w kv xs) :
    Calls Tryd.prog 4 #[v, kv] w fun e w' => e = .returned (.bool true) ∧ Gr w w' := by
  obtain ⟨va, vc, rfl, _, _⟩ := hx.len
  obtain ⟨ka, kc, rfl, hk1, hk2⟩ := hk.len
  by_cases hm : 40 < (xs.length : Int)
  · exact restlaw_great w hT _ ns hx ka _ kc hm
  have HX := Lib.hid hx
  have HKS := Lib.hid hk
  have HT := Lib.hid hT
  have HG := Lib.hid (great_any w _ _ ns hx)
  have HW := Lib.hid (wakes_any hT)
  clear hx hk hT hk1 hk2
  go_enter Tryd.func4, Tryd.ntmps4
  go_wp2_with fail
  refine HG.out.mono ?_
  rintro e w1 ⟨r, rfl, hr, hw1⟩
  cases r with
  | true =>
    rw [hw1]
    clear hw1 w1
    go_wp2_with fail
    refine HW.out.mono ?_
    rintro e w2 ⟨rfl, g2⟩
    have HG2 := Lib.hid g2
    clear g2 hr
    go_wp2
    go_ret
    exact ⟨rfl, HG2.out⟩
  | false =>
    rw [hw1]
    clear hw1 w1
    obtain ⟨hn40, hn60⟩ := hr rfl
    clear hr
    have HN := Lib.hid hn60
    clear hn60
    go_wp2_with fail
    refine (rest_any _ HT.out _ ns HX.out (by omega) (fun n hn => by have := HN.out n hn; omega) _ xs HKS.out (by omega)).mono ?_
    rintro e w2 ⟨rv, rfl, ho, g2⟩
    have hrs := ho.is
    obtain ⟨ra, rc, rfl, _, _⟩ := hrs.len
    have HR := Lib.hid hrs
    have HG2 := Lib.hid g2
    clear ho hrs g2
    go_wp2
    go_loopw [6, 7] (fun nv iv wr => ∃ i : Nat, iv = .int .i64 i ∧ nv = .int .i64 ((restOf (ns.take i) xs).length : Nat) ∧ i ≤ ns.length ∧ Gr w2 wr) (fun _ iv _ => ns.length - (intOf iv).toNat)
    case atStart => exact ⟨0, rfl, rfl, Nat.zero_le _, Gr.refl _⟩
    case round =>
      obtain ⟨i, rfl, rfl, hi, hg⟩ := hrel
      by_cases hlt : i < ns.length
      · obtain ⟨n, hn⟩ : ∃ n, ns[i]? = some n := ⟨_, List.getElem?_eq_getElem hlt⟩
        obtain ⟨b, o, c', hv, hSb, hrows⟩ := HX.out.some (by omega)
        simp only [Value.slice.injEq, true_and] at hv
        obtain ⟨rfl, rfl⟩ := hv
        obtain ⟨fa, fk, fc, hf⟩ := hrows i n hn
        have HF := Lib.hid hf
        have HRW := Lib.hid hrows
        have HNI := Lib.hid hn
        have HGi := Lib.hid hg
        clear hf hrows hn hg
        go_wp2_with fail
        obtain ⟨wo, rfl⟩ : ∃ wo : World, wo = wr := ⟨_, rfl⟩
        go_loopw [8, 9] (fun kb kv wr => ∃ k : Nat, kv = .int .i64 k ∧ kb = .bool (keptBy (xs.take k) n) ∧ k ≤ xs.length ∧ Gr w2 wr) (fun _ kv _ => xs.length - (intOf kv).toNat)
        case atStart => exact ⟨0, rfl, rfl, Nat.zero_le _, HGi.out⟩
        case round =>
          obtain ⟨k, rfl, rfl, hk, hg⟩ := hrel
          by_cases hlt2 : k < xs.length
          · obtain ⟨x, hx⟩ : ∃ x, xs[k]? = some x := ⟨_, List.getElem?_eq_getElem hlt2⟩
            obtain ⟨kb, ko, kcc, hv, _, hids⟩ := HKS.out.some (by omega)
            simp only [Value.slice.injEq, true_and] at hv
            obtain ⟨rfl, rfl⟩ := hv
            have gw := HG2.out.trans hg
            have hri := later_range gw (hids k x hx)
            have p0 : wr.cell? ⟨kb, ko + k * 3, none⟩ = some (.int .u8 x.kind) := hri 0 _ rfl
            have p1 : wr.cell? ⟨kb, ko + k * 3 + 1, none⟩ = some (.int .i64 x.seq) := hri 1 _ rfl
            have p2 : wr.cell? ⟨kb, ko + k * 3 + 2, none⟩ = some (.int .i64 x.fmt) := hri 2 _ rfl
            have HRI := Lib.hid hri
            have hstep : keptBy (xs.take (k + 1)) n = (keptBy (xs.take k) n || nameOf x == some n) := by rw [List.take_add_one, hx]; exact keptBy_snoc _ _ _
            have HGk := Lib.hid hg
            have HTk := Lib.hid (HT.out.gr gw)
            have HGW := Lib.hid gw
            clear hg hri hx hids gw
            cases hnm : nameOf x with
            | none =>
              rw [hnm] at hstep
              have hstep' : keptBy (xs.take (k + 1)) n = keptBy (xs.take k) n := by rw [hstep]; simp
              have HST := Lib.hid hstep'
              have NX := Lib.hid (name_isnt hnm)
              clear hstep hstep' hnm
              generalize keptBy (xs.take k) n = kp at *
              cases kp
              all_goals
                go_wp2_with fail
                refine (NX.out _ HTk.out).mono ?_
                rintro e w5 ⟨rfl, g5⟩
                have q0 := later_cell (HGW.out.trans g5) (show w.cell? ⟨b, o + i * 2, none⟩ = some (strV n) from HF.out 0 _ rfl)
                have HG5 := Lib.hid (HGk.out.trans g5)
                clear g5 p0 p1 p2
                go_wp2
                exact ⟨⟨k + 1, by go_num, by rw [HST.out], by omega, HG5.out⟩, by simp [intOf]; omega⟩
            | some l =>
              rw [hnm] at hstep
              have NX := Lib.hid (name_is hnm)
              by_cases hln : l = n
              · subst hln
                have hstep' : keptBy (xs.take (k + 1)) l = true := by rw [hstep]; simp
                have HST := Lib.hid hstep'
                have HFD := Lib.hid (fun X hT v hf => find_any X hT x v ns hf (by omega))
                have HNM := Lib.hid hnm
                clear hstep hstep' hnm
                generalize keptBy (xs.take k) l = kp at *
                cases kp
                all_goals
                  go_wp2_with fail
                  refine (NX.out _ HTk.out).mono ?_
                  rintro e w5 ⟨rfl, g5⟩
                  have q0 := later_cell (HGW.out.trans g5) (show w.cell? ⟨b, o + i * 2, none⟩ = some (strV l) from HF.out 0 _ rfl)
                  have p0 : w5.cell? ⟨kb, ko + k * 3, none⟩ = some (.int .u8 x.kind) := later_cell g5 (HRI.out 0 _ rfl)
                  have p1 : w5.cell? ⟨kb, ko + k * 3 + 1, none⟩ = some (.int .i64 x.seq) := later_cell g5 (HRI.out 1 _ rfl)
                  have p2 : w5.cell? ⟨kb, ko + k * 3 + 2, none⟩ = some (.int .i64 x.fmt) := later_cell g5 (HRI.out 2 _ rfl)
                  have HG5 := Lib.hid (HGk.out.trans g5)
                  have HGW5 := Lib.hid (HGW.out.trans g5)
                  have HT5 := Lib.hid (HTk.out.gr g5)
                  clear g5
                  go_wp2_with fail
                  refine (HFD.out _ HT5.out _ ((HX.out.gr HGW5.out).mono fun b hb => Nat.lt_of_lt_of_le hb HGW5.out.size)).mono ?_
                  rintro e w6 ⟨z, rfl, hz, g6⟩
                  rw [HNM.out] at hz
                  obtain ⟨j, rfl, hji, hj⟩ := find_le HNI.out hz
                  obtain ⟨ja, jk, jc, hjr⟩ := HRW.out j l hj
                  have q1 := later_cell (HGW5.out.trans g6) (show w.cell? ⟨b, o + j * 2, none⟩ = some (strV l) from hjr 0 _ rfl)
                  have hjn : j < ns.length := (List.getElem?_eq_some_iff.1 hj).1
                  have HG6 := Lib.hid (HG5.out.trans g6)
                  clear g6 hz hj hjr p0 p1 p2 q0
                  go_wp2
                  exact ⟨⟨k + 1, by go_num, by rw [HST.out], by omega, HG6.out⟩, by simp [intOf]; omega⟩
              · have hstep' : keptBy (xs.take (k + 1)) n = keptBy (xs.take k) n := by
                  rw [hstep]
                  have : (some l == some n) = false := by simpa using hln
                  rw [this, Bool.or_false]
                have HST := Lib.hid hstep'
                have hb1 : (l == n) = false := by simpa using hln
                clear hstep hstep' hnm hln
                generalize keptBy (xs.take k) n = kp at *
                cases kp
                all_goals
                  go_wp2_with fail
                  refine (NX.out _ HTk.out).mono ?_
                  rintro e w5 ⟨rfl, g5⟩
                  have q0 := later_cell (HGW.out.trans g5) (show w.cell? ⟨b, o + i * 2, none⟩ = some (strV n) from HF.out 0 _ rfl)
                  have HG5 := Lib.hid (HGk.out.trans g5)
                  clear g5 p0 p1 p2
                  go_wp2
                  exact ⟨⟨k + 1, by go_num, by rw [HST.out], by omega, HG5.out⟩, by simp [intOf]; omega⟩
          · obtain rfl : k = xs.length := by omega
            rw [List.take_length]
            have q0 := later_cell (HG2.out.trans hg) (show w.cell? ⟨b, o + i * 2, none⟩ = some (strV n) from HF.out 0 _ rfl)
            cases hkb : keptBy xs n with
            | true =>
              have HKB := Lib.hid hkb
              have HGk := Lib.hid hg
              clear hkb hg
              go_wp2
              exact ⟨⟨i + 1, by go_num, by rw [restOf_no HNI.out HKB.out], by omega, HGk.out⟩, by simp [intOf]; omega⟩
            | false =>
              obtain ⟨hnl, hat⟩ := rest_at HNI.out hkb
              obtain ⟨rb, ro, rcc, hv, _, hcells⟩ := HR.out.some (by omega)
              simp only [Value.slice.injEq, true_and] at hv
              obtain ⟨rfl, rfl⟩ := hv
              have q1 := later_cell hg (hcells _ _ hat)
              have HKB := Lib.hid hkb
              have HGk := Lib.hid hg
              have HAT := Lib.hid hat
              clear hkb hg hcells hat
              go_wp2_with fail
              go_quiet (fail)
              go_wp2
              have hrl := restOf_le ns xs i
              exact ⟨⟨i + 1, by go_num, by rw [restOf_yes HNI.out HKB.out]; simp; unfold wrap64; omega, by omega, HGk.out.drewN _⟩, by simp [intOf]; omega⟩
      · obtain rfl : i = ns.length := by omega
        rw [List.take_length]
        have HGi := Lib.hid hg
        have gw := HG2.out.trans hg
        have HTi := Lib.hid (HT.out.gr gw)
        have HFi := Lib.hid ((HX.out.gr gw).mono fun b hb => Nat.lt_of_lt_of_le hb gw.size)
        have HGw := Lib.hid gw
        clear hg gw
        go_wp2_with fail
        refine (rest_any _ HTi.out _ ns HFi.out (by omega) (fun n hn => by have := HN.out n hn; omega) _ [] ⟨by simp, .inl ⟨⟨none, 0, rfl, Nat.zero_le _⟩, rfl⟩⟩ (by simp)).mono ?_
        rintro e w7 ⟨sv, rfl, ho, g7⟩
        rw [rest_none] at ho
        obtain ⟨sa, sc, rfl, _, _⟩ := ho.is.len
        have HT7 := Lib.hid (HTi.out.gr g7)
        have HG7 := Lib.hid (HGw.out.trans g7)
        clear ho g7
        go_wp2_with fail
        refine (wakes_any HT7.out).mono ?_
        rintro e w8 ⟨rfl, g8⟩
        have HG8 := Lib.hid (HG7.out.trans g8)
        clear g8
        go_wp2
        go_ret
        exact ⟨rfl, HG8.out⟩
end Go.Proofs.YtkhkjcoejkgfeaaDoor
