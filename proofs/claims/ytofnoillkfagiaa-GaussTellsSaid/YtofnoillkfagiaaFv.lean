/-
  Walks: the document's chain.
-/
import Derived.Test.YtofnoillkfagiaaFu
namespace Go.Proofs.Ytofnoillkfagiaa
open Go Go.RowKit

theorem PartIs.of {x : Nat} {a : Int} (h : W x a) (h0 : 0 ≤ a) (h1 : a ≤ 10006) : PartIs x (some a.toNat) :=
  ⟨by omega, by rw [show ((a.toNat : Nat) : Int) = a by omega]; exact h⟩
theorem dnext_any {x y : Nat} {z : Int × Int} (h : W x z.1) (g : W y z.2) (hz : Pt z) {c : Int} (hc0 : 0 ≤ c) (hc1 : c ≤ 255) (w : World) :
    Calls Try.prog 14 #[.complex .f64 x y, .int .u8 c] w fun e w' => ∃ p q, e = .returned (.complex .f64 p q) ∧ W p (nxR z.1 z.2 c) ∧ W q (nxI z.1 z.2) ∧ w' = w := by
  obtain ⟨h1, h2, h3, h4⟩ := hz
  have := dnext_part (PartIs.of h h1 h2) (PartIs.of g h3 h4) hc0 hc1 w
  have e : nextZ (some z.1.toNat) (some z.2.toNat) c = (nxR z.1 z.2 c, nxI z.1 z.2) := by
    show (nxR ((z.1.toNat : Nat) : Int) ((z.2.toNat : Nat) : Int) c, nxI ((z.1.toNat : Nat) : Int) ((z.2.toNat : Nat) : Int)) = _
    rw [show ((z.1.toNat : Nat) : Int) = z.1 by omega, show ((z.2.toNat : Nat) : Int) = z.2 by omega]
  rw [e] at this
  exact this
/-- Where a chain from any number starts. -/
def startZ (o u : Option Nat) : Int × Int := match o, u with
  | some a, some b => ((a : Int), (b : Int))
  | _, _ => (0, 0)
theorem startZ_or {x y : Nat} {o u : Option Nat} (h : PartIs x o) (g : PartIs y u) :
    ((o.isSome && u.isSome) = true ∧ W x (startZ o u).1 ∧ W y (startZ o u).2 ∧ Pt (startZ o u)) ∨ ((o.isSome && u.isSome) = false ∧ startZ o u = (0, 0)) := by
  cases o with
  | none => exact .inr ⟨rfl, rfl⟩
  | some a => cases u with
    | none => exact .inr ⟨rfl, rfl⟩
    | some b =>
      have h1 := h.1
      have h2 := g.1
      exact .inl ⟨rfl, h.2, g.2, ⟨by show (0 : Int) ≤ (a : Int); omega, by show (a : Int) ≤ 10006; omega, by show (0 : Int) ≤ (b : Int); omega, by show (b : Int) ≤ 10006; omega⟩⟩
/-- The points between. -/
def At (z : Int × Int) (bs : List Int) (v : Value) : Prop := ∃ p q, v = .complex .f64 p q ∧ W p (chainP z bs).1 ∧ W q (chainP z bs).2

set_option maxRecDepth 100000 in
set_option maxHeartbeats 1000000 in
theorem dchain_loop (w : World) (x y : Nat) (p0 q0 : Nat) (z : Int × Int) (ok : Bool) (HR : Hid (∀ w, Calls Try.prog 12 #[.complex .f64 x y] w fun e w' => e = .returned (.bool ok) ∧ w' = w))
    (h1 : ok = true → p0 = x ∧ q0 = y) (h2 : ok = false → p0 = 0 ∧ q0 = 0) (hx : W p0 z.1) (hy : W q0 z.2) (hz : Pt z) (v : Value) (pss : List (List Int)) (hp : IsParts (· < w.heap.size) w v pss)
    (hl : pss.length ≤ 1000) (hps : ∀ ps ∈ pss, ps.length ≤ 1000) (hby : ∀ c ∈ pss.flatten, 0 ≤ c ∧ c ≤ 255) :
    Calls Try.prog 16 #[.complex .f64 x y, v] w fun e w' => ∃ p q, e = .returned (.complex .f64 p q) ∧ W p (chainP z pss.flatten).1 ∧ W q (chainP z pss.flatten).2 ∧ w' = w := by
  obtain ⟨va, vc, rfl, _, _⟩ := hp.len
  have HX := Lib.hid hp
  have HS := Lib.hid (show At z (pss.take 0).flatten (.complex .f64 p0 q0) from ⟨p0, q0, rfl, hx, hy⟩)
  have HZ := Lib.hid hz
  have HP := Lib.hid hps
  have HBY := Lib.hid hby
  clear hp hx hy hz hps hby
  cases ok
  case' false => obtain ⟨rfl, rfl⟩ := h2 rfl
  case' true => obtain ⟨rfl, rfl⟩ := h1 rfl
  all_goals
    clear h1 h2
    go_enter Try.func16, Try.ntmps16
    go_wp2_with fail
    refine (HR.out _).mono ?_
    rintro e w1 ⟨rfl, rfl⟩
    go_wp2_with fail
    go_loopw [0, 5] (fun v iv wr => ∃ i : Nat, iv = .int .i64 i ∧ i ≤ pss.length ∧ At z (pss.take i).flatten v ∧ w1 = wr) (fun _ iv _ => pss.length - (intOf iv).toNat)
    case atStart => exact ⟨0, rfl, Nat.zero_le _, HS.out, rfl⟩
    case round =>
      obtain ⟨i, rfl, hi, ⟨p, q, rfl, hpp, hqq⟩, rfl⟩ := hrel
      by_cases hlt : i < pss.length
      · obtain ⟨ps, hp⟩ : ∃ ps, pss[i]? = some ps := ⟨_, List.getElem?_eq_getElem hlt⟩
        obtain ⟨b, o, c', hv, hSb, hrows⟩ := HX.out.some (by omega)
        simp only [Value.slice.injEq, true_and] at hv
        obtain ⟨rfl, rfl⟩ := hv
        obtain ⟨pa, pc, hc, hbs⟩ := hrows i ps hp
        have hpl : ps.length ≤ 1000 := HP.out ps (List.mem_of_getElem? hp)
        have HBS := Lib.hid hbs
        have HPP := Lib.hid hp
        have HS2 := Lib.hid (show At z ((pss.take i).flatten ++ ps.take 0) (.complex .f64 p q) from ⟨p, q, rfl, by simpa using hpp, by simpa using hqq⟩)
        clear hrows hbs hp hpp hqq
        go_wp2_with fail
        go_loopw [0, 6] (fun v jv wr => ∃ j : Nat, jv = .int .i64 j ∧ j ≤ ps.length ∧ At z ((pss.take i).flatten ++ ps.take j) v ∧ w1 = wr) (fun _ jv _ => ps.length - (intOf jv).toNat)
        case atStart => exact ⟨0, rfl, Nat.zero_le _, HS2.out, rfl⟩
        case round =>
          obtain ⟨j, rfl, hj, ⟨p, q, rfl, hpp, hqq⟩, rfl⟩ := hrel
          by_cases hlt2 : j < ps.length
          · obtain ⟨d, hd⟩ : ∃ d, ps[j]? = some d := ⟨_, List.getElem?_eq_getElem hlt2⟩
            obtain ⟨pb, po, pc', hv, _, _, hSp, hcells⟩ := HBS.out.some (by omega)
            simp only [Value.slice.injEq, true_and] at hv
            obtain ⟨rfl, rfl⟩ := hv
            have q1 := hcells j d hd
            obtain ⟨u1, u2⟩ := HBY.out d (List.mem_of_getElem? (ahead_at HPP.out hd))
            have HNX := Lib.hid (fun W => dnext_any hpp hqq (chainP_pt HZ.out _) u1 u2 W)
            have HCT := Lib.hid (show chainP z ((pss.take i).flatten ++ ps.take (j + 1)) = (nxR (chainP z ((pss.take i).flatten ++ ps.take j)).1 (chainP z ((pss.take i).flatten ++ ps.take j)).2 d, nxI (chainP z ((pss.take i).flatten ++ ps.take j)).1 (chainP z ((pss.take i).flatten ++ ps.take j)).2) by
              rw [List.take_add_one, hd]
              show chainP z (_ ++ (_ ++ [d])) = _
              rw [← List.append_assoc]; exact chainP_snoc _ _ _)
            clear hcells hd hpp hqq u1 u2
            go_wp2_with fail
            refine (HNX.out _).mono ?_
            rintro e w3 ⟨p', q', rfl, hp', hq', rfl⟩
            have HN := Lib.hid (show At z ((pss.take i).flatten ++ ps.take (j + 1)) (.complex .f64 p' q') from ⟨p', q', rfl, by rw [HCT.out]; exact hp', by rw [HCT.out]; exact hq'⟩)
            clear hp' hq'
            go_wp2
            exact ⟨⟨j + 1, by go_num, by omega, HN.out, trivial⟩, by simp [intOf]; omega⟩
          · obtain rfl : j = ps.length := by omega
            have HN := Lib.hid (show At z (pss.take (i + 1)).flatten (.complex .f64 p q) from ⟨p, q, rfl, by
              rw [List.take_add_one, HPP.out, List.flatten_append]; simpa using hpp, by
              rw [List.take_add_one, HPP.out, List.flatten_append]; simpa using hqq⟩)
            clear hpp hqq
            go_wp2
            exact ⟨⟨i + 1, by go_num, by omega, HN.out, trivial⟩, by simp [intOf]; omega⟩
      · obtain rfl : i = pss.length := by omega
        rw [List.take_length] at hpp hqq
        have HN := Lib.hid (And.intro hpp hqq)
        clear hpp hqq
        go_wp2
        go_ret
        exact ⟨p, q, rfl, HN.out.1, HN.out.2, rfl⟩
end Go.Proofs.Ytofnoillkfagiaa
