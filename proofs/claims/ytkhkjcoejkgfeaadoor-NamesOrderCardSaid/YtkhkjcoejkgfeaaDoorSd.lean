/-
  Walk: symMerge's tail, behind the search.
  Conditions: none beyond those typed at each theorem.
-/
import Derived.Test.YtkhkjcoejkgfeaaDoorSc
import Derived.Deep.DeepCutAuto
namespace Go.Proofs.YtkhkjcoejkgfeaaDoor
open Go Go.RowKit

/-- What stands behind block k. -/
def behind (k : Nat) : Code → Option Code
  | .seq a b => match behind k a with
    | some c => some c
    | none => match a with
      | .block j _ => if j = k then some b else behind k b
      | _ => behind k b
  | .block _ c => behind k c
  | .scope c => behind k c
  | _ => none
/-- What symMerge calls itself by. -/
def SmIH (w : World) (B n cap k : Nat) : Prop := ∀ (pre L R post : List Idn) (W : World), L.length + R.length ≤ k → 0 < L.length → 0 < R.length → Srt L → Srt R →
    RW w B n (pre ++ L ++ R ++ post) W → ∀ {a' m' b' : Int}, a' = (pre.length : Nat) → m' = ((pre.length + L.length : Nat) : Int) → b' = ((pre.length + L.length + R.length : Nat) : Int) →
    Calls Tryd.prog 35 #[.slice (some ⟨B, 0, none⟩) n cap, .int .i64 a', .int .i64 m', .int .i64 b', .func (.func 22) #[] #[]] W fun e w' => (∃ v, e = .returned v) ∧ ∃ M, M.Perm (L ++ R) ∧ Srt M ∧ RW w B n (pre ++ M ++ post) w'
noncomputable abbrev smTail : Option Code := match Tryd.f35.body with
  | some c => behind 8 c
  | none => none

set_option maxRecDepth 1000000 in
set_option maxHeartbeats 8000000 in
theorem sm_tail (w : World) (B n cap : Nat) (hn : n ≤ 1000000) (k : Nat) (hih : SmIH w B n cap k) (pre L1 L2 R1 R2 post : List Idn) (P : List Idn → Prop) (wr : World) (a m b h s e : Nat) (bn : b ≤ n) (h1 : a < h) (h2 : h < b) (y1 : a ≤ s) (y2 : s ≤ m) (y3 : m ≤ e) (y4 : e ≤ b) (g1 : e + s ≤ h + m) (g2 : h + m ≤ e + s)
    (hkk : b - a ≤ k + 1) (k1 : L1.length = s - a) (k2 : L2.length = m - s) (k3 : R1.length = e - m) (k4 : R2.length = b - e) (ha : pre.length = a) (t1 : Srt L1) (t2 : Srt L2) (t3 : Srt R1) (t4 : Srt R2)
    (hfin : ∀ M1 M2 : List Idn, M1.Perm (L1 ++ R1) → M2.Perm (L2 ++ R2) → Srt M1 → Srt M2 → P (M1 ++ M2)) (hw : RW w B n (pre ++ L1 ++ L2 ++ R1 ++ (R2 ++ post)) wr)
    (c c' : Code) (ht : smTail = some (.seq c c')) (Q : Exit → Act → World → Prop) (hQ : Q = bodyPost Tryd.prog Tryd.f35 fun e w' => (∃ v, e = .returned v) ∧ ∃ M, P M ∧ RW w B n (pre ++ M ++ post) w')
    (K : Act → World → Prop) (hK : ∀ a w, Code.wp Tryd.prog c' Q a w → K a w)
    (x5 x6 x7 x8 x9 x10 x11 x12 x13 x14 x15 x16 x17 x21 x22 x23 x24 x25 x26 x27 x28 x29 x30 x31 x32 x33 x34 x35 x36 x37 x38 x39 x40 x41 x42 x43 x44 x45 x46 x47 x48 x49 x50 x51 x52 x53 x54 x55 x56 x57 x58 x59 x60 x61 x62 x63 x64 x65 x66 x67 x68 x69 x70 x71 x72 x73 x74 x75 x76 x77 x78 x79 x80 x81 x82 x83 x84 x85 x86 x87 x88 x89 x90 x91 x92 x93 x94 x95 x96 x97 x98 x99 x100 x101 x102 x103 x104 x105 x106 x107 x108 x109 x110 x111 x112 x113 x114 x115 x116 x117 x118 x119 x120 x121 x122 x123 x124 x125 x126 x127 x128 x129 x130 x131 x132 x133 x134 x135 x136 x137 x138 x139 x140 x141 x142 x143 x144 x145 x146 x147 x148 x149 x150 x151 x152 x153 x154 x155 x156 x157 x158 x159 x160 x161 x162 x163 x164 x165 x166 x167 x168 x169 x170 x171 x172 x173 x174 x175 x176 x177 x178 x179 x180 x181 x182 x183 x184 x185 x186 x187 x188 x189 x190 x191 x192 x193 x194 x195 x196 x197 x198 x199 x200 x201 x202 x203 x204 x205 x206 x207 x208 x209 x210 x211 x212 x213 x214 x215 x216 x217 x218 x219 : Value) : c.wp Tryd.prog (Exit.then K Q) { tmps := #[.slice (some ⟨B, 0, none⟩) n cap, .int .i64 (a : Int), .int .i64 (m : Int), .int .i64 (b : Int), .func (.func 22) #[] #[], x5, x6, x7, x8, x9, x10, x11, x12, x13, x14, x15, x16, x17, .int .i64 (h : Int), .int .i64 ((h : Int) + (m : Int)), .int .i64 (s : Int), x21, x22, x23, x24, x25, x26, x27, x28, x29, x30, x31, x32, x33, x34, x35, x36, x37, x38, x39, x40, x41, x42, x43, x44, x45, x46, x47, x48, x49, x50, x51, x52, x53, x54, x55, x56, x57, x58, x59, x60, x61, x62, x63, x64, x65, x66, x67, x68, x69, x70, x71, x72, x73, x74, x75, x76, x77, x78, x79, x80, x81, x82, x83, x84, x85, x86, x87, x88, x89, x90, x91, x92, x93, x94, x95, x96, x97, x98, x99, x100, x101, x102, x103, x104, x105, x106, x107, x108, x109, x110, x111, x112, x113, x114, x115, x116, x117, x118, x119, x120, x121, x122, x123, x124, x125, x126, x127, x128, x129, x130, x131, x132, x133, x134, x135, x136, x137, x138, x139, x140, x141, x142, x143, x144, x145, x146, x147, x148, x149, x150, x151, x152, x153, x154, x155, x156, x157, x158, x159, x160, x161, x162, x163, x164, x165, x166, x167, x168, x169, x170, x171, x172, x173, x174, x175, x176, x177, x178, x179, x180, x181, x182, x183, x184, x185, x186, x187, x188, x189, x190, x191, x192, x193, x194, x195, x196, x197, x198, x199, x200, x201, x202, x203, x204, x205, x206, x207, x208, x209, x210, x211, x212, x213, x214, x215, x216, x217, x218, x219], defers := [] } wr := by
  have h3 := Option.some.inj ht
  injection h3 with e1 e2
  subst e1
  subst e2
  clear ht
  have hez : (h : Int) + (m : Int) - (s : Int) = (e : Int) := by omega
  have HK := Lib.hid (And.intro k1 (And.intro k2 (And.intro k3 k4)))
  have HT := Lib.hid (And.intro t1 (And.intro t2 (And.intro t3 t4)))
  have HF := Lib.hid hfin
  have HA := Lib.hid ha
  have HW := Lib.hid hw
  have HIH := Lib.hid hih
  have HQ := Lib.hid hQ
  clear hw hfin k1 k2 k3 k4 t1 t2 t3 t4 ha hih hQ
  go_upto_region 39 with fail
  go_cut [185] from 175 to 219 (fun v wx => v = .bool (decide (s < m ∧ m < e)) ∧ RW w B n (pre ++ L1 ++ L2 ++ R1 ++ (R2 ++ post)) wx)
  case first =>
    by_cases u1 : (s : Int) < (m : Int)
    · by_cases u2 : (m : Int) < (e : Int)
      · go_wp2
        go_meet
        exact ⟨congrArg Value.bool (by simp; omega), HW.out⟩
      · go_wp2
        go_meet
        exact ⟨congrArg Value.bool (by simp; omega), HW.out⟩
    · have u3 : decide ((s : Int) < (m : Int)) = false := decide_eq_false u1
      go_wp2
      go_meet
      exact ⟨congrArg Value.bool (by simp; omega), HW.out⟩
  case rest =>
  obtain ⟨rfl, h39⟩ := hcut
  have H39 := Lib.hid h39
  clear h39
  go_upto_if 185 with fail
  go_cut [] from 175 to 219 (fun wx => RW w B n (pre ++ L1 ++ R1 ++ L2 ++ (R2 ++ post)) wx)
  case first =>
    obtain ⟨k1, k2, k3, k4⟩ := HK.out
    by_cases u1 : s < m ∧ m < e
    · have u3 : decide (s < m ∧ m < e) = true := decide_eq_true u1
      have HU := Lib.hid (And.intro k1 (And.intro k2 (And.intro k3 k4)))
      clear k1 k2 k3 k4
      rw [u3]
      go_wp2_with fail
      obtain ⟨k1, k2, k3, k4⟩ := HU.out
      have hA := HA.out
      refine (rotate_any w B n cap (pre ++ L1) L2 R1 (R2 ++ post) _ H39.out (by omega) (by omega) hn _ (by rw [List.length_append]; omega) (by rw [List.length_append]; omega) (by rw [List.length_append]; omega)).mono ?_
      rintro ee w1 ⟨⟨v, rfl⟩, h1⟩
      have H1 := Lib.hid h1
      clear h1 k1 k2 k3 k4 hA
      go_wp2
      go_meet
      exact H1.out
    · have u3 : decide (s < m ∧ m < e) = false := decide_eq_false u1
      have hsame : pre ++ L1 ++ L2 ++ R1 ++ (R2 ++ post) = pre ++ L1 ++ R1 ++ L2 ++ (R2 ++ post) := by
        rcases Nat.lt_or_ge s m with h0 | h0
        · rw [List.eq_nil_of_length_eq_zero (l := R1) (by omega)]; simp
        · rw [List.eq_nil_of_length_eq_zero (l := L2) (by omega)]; simp
      have H1 := Lib.hid (hsame ▸ H39.out)
      clear k1 k2 k3 k4 hsame
      rw [u3]
      go_wp2
      go_meet
      exact H1.out
  case rest =>
  have H40 := Lib.hid hcut
  clear hcut H39
  go_upto_region 41 with fail
  go_cut [199] from 175 to 219 (fun v wx => v = .bool (decide (a < s ∧ s < h)) ∧ RW w B n (pre ++ L1 ++ R1 ++ L2 ++ (R2 ++ post)) wx)
  case first =>
    by_cases u1 : (a : Int) < (s : Int)
    · by_cases u2 : (s : Int) < (h : Int)
      · go_wp2
        go_meet
        exact ⟨congrArg Value.bool (by simp; omega), H40.out⟩
      · go_wp2
        go_meet
        exact ⟨congrArg Value.bool (by simp; omega), H40.out⟩
    · have u3 : decide ((a : Int) < (s : Int)) = false := decide_eq_false u1
      go_wp2
      go_meet
      exact ⟨congrArg Value.bool (by simp; omega), H40.out⟩
  case rest =>
  obtain ⟨rfl, h41⟩ := hcut
  have H41 := Lib.hid h41
  clear h41 H40
  go_upto_if 199 with fail
  go_cut [] from 175 to 219 (fun wx => ∃ M1, M1.Perm (L1 ++ R1) ∧ Srt M1 ∧ RW w B n (pre ++ M1 ++ (L2 ++ R2 ++ post)) wx)
  case first =>
    obtain ⟨k1, k2, k3, k4⟩ := HK.out
    by_cases u1 : a < s ∧ s < h
    · have u3 : decide (a < s ∧ s < h) = true := decide_eq_true u1
      clear k1 k2 k3 k4
      rw [u3]
      go_wp2_with fail
      obtain ⟨k1, k2, k3, k4⟩ := HK.out
      have hA := HA.out
      refine (HIH.out pre L1 R1 (L2 ++ R2 ++ post) _ (by omega) (by omega) (by omega) HT.out.1 HT.out.2.2.1 (by simpa using H41.out) (by omega) (by omega) (by omega)).mono ?_
      rintro ee w1 ⟨⟨v, rfl⟩, M1, h1, h2, h3⟩
      have H1 := Lib.hid (And.intro h1 (And.intro h2 h3))
      clear h1 h2 h3 k1 k2 k3 k4 hA
      go_wp2
      go_meet
      exact ⟨M1, H1.out⟩
    · have u3 : decide (a < s ∧ s < h) = false := decide_eq_false u1
      have hs1 : Srt (L1 ++ R1) := by
        rcases Nat.lt_or_ge a s with h0 | h0
        · rw [List.eq_nil_of_length_eq_zero (l := R1) (by omega), List.append_nil]; exact HT.out.1
        · rw [List.eq_nil_of_length_eq_zero (l := L1) (by omega)]; exact HT.out.2.2.1
      have HS1 := Lib.hid hs1
      clear k1 k2 k3 k4 hs1
      rw [u3]
      go_wp2
      go_meet
      exact ⟨L1 ++ R1, List.Perm.refl _, HS1.out, by simpa using H41.out⟩
  case rest =>
  obtain ⟨M1, pm1, sm1, h42⟩ := hcut
  have H42 := Lib.hid (And.intro pm1 (And.intro sm1 h42))
  clear h42 H41 pm1 sm1
  go_upto_region 43 with fail
  go_cut [213] from 175 to 219 (fun v wx => v = .bool (decide (h < e ∧ e < b)) ∧ RW w B n (pre ++ M1 ++ (L2 ++ R2 ++ post)) wx)
  case first =>
    by_cases u1 : (h : Int) < (e : Int)
    · by_cases u2 : (e : Int) < (b : Int)
      · go_wp2
        go_meet
        exact ⟨congrArg Value.bool (by simp; omega), H42.out.2.2⟩
      · go_wp2
        go_meet
        exact ⟨congrArg Value.bool (by simp; omega), H42.out.2.2⟩
    · have u3 : decide ((h : Int) < (e : Int)) = false := decide_eq_false u1
      go_wp2
      go_meet
      exact ⟨congrArg Value.bool (by simp; omega), H42.out.2.2⟩
  case rest =>
  obtain ⟨rfl, h43⟩ := hcut
  have H43 := Lib.hid h43
  clear h43
  obtain ⟨k1, k2, k3, k4⟩ := HK.out
  have km := H42.out.1.length_eq
  rw [List.length_append] at km
  have HKM := Lib.hid km
  by_cases u1 : h < e ∧ e < b
  · have u3 : decide (h < e ∧ e < b) = true := decide_eq_true u1
    clear k1 k2 k3 k4 km
    rw [u3]
    go_wp2_with fail
    obtain ⟨k1, k2, k3, k4⟩ := HK.out
    have km := HKM.out
    have hA := HA.out
    refine (HIH.out (pre ++ M1) L2 R2 post _ (by omega) (by omega) (by omega) HT.out.2.1 HT.out.2.2.2 (by simpa using H43.out) (by rw [List.length_append]; omega) (by rw [List.length_append]; omega) (by rw [List.length_append]; omega)).mono ?_
    rintro ee w1 ⟨⟨v, rfl⟩, M2, h1, h2, h3⟩
    have H1 := Lib.hid (And.intro h1 (And.intro h2 h3))
    clear h1 h2 h3 k1 k2 k3 k4 hA km
    go_wp2
    obtain ⟨h1, h2, h3⟩ := H1.out
    rw [HQ.out]
    exact bodyPost_end (results_none rfl _ _ _) rfl ⟨⟨_, rfl⟩, M1 ++ M2, HF.out M1 M2 H42.out.1 h1 H42.out.2.1 h2, by simpa using h3⟩
  · have u3 : decide (h < e ∧ e < b) = false := decide_eq_false u1
    have hs2 : Srt (L2 ++ R2) := by
      rcases Nat.lt_or_ge h e with h0 | h0
      · rw [List.eq_nil_of_length_eq_zero (l := R2) (by omega), List.append_nil]; exact HT.out.2.1
      · rw [List.eq_nil_of_length_eq_zero (l := L2) (by omega)]; exact HT.out.2.2.2
    have HS2 := Lib.hid hs2
    clear k1 k2 k3 k4 hs2 km
    rw [u3]
    go_wp2
    rw [HQ.out]
    exact bodyPost_end (results_none rfl _ _ _) rfl ⟨⟨_, rfl⟩, M1 ++ (L2 ++ R2), HF.out M1 (L2 ++ R2) H42.out.1 (List.Perm.refl _) H42.out.2.1 HS2.out, by simpa using H43.out⟩
end Go.Proofs.YtkhkjcoejkgfeaaDoor
