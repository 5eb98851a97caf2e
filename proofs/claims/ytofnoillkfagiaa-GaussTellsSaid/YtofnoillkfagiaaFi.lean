/-
  Walks: points' bytes, bytes' points.
-/
import Derived.Test.YtofnoillkfagiaaFh
import Derived.Deep.RegionHeld3
namespace Go.Proofs.Ytofnoillkfagiaa
open Go Go.RowKit

theorem bits_or_part {p q : Nat} (hp : p < 256) (hq : q < 256) : bits .or .i64 ((p * 256 : Nat) : Int) (q : Int) = ((p * 256 + q : Nat) : Int) := by
  have h1 : (BitVec.ofInt IntKind.i64.bits ((p * 256 : Nat) : Int)).toNat = p * 256 := by
    show (BitVec.ofInt 64 ((p * 256 : Nat) : Int)).toNat = _
    rw [BitVec.ofInt_natCast]; exact (BitVec.toNat_ofNat ..).trans (Nat.mod_eq_of_lt (by omega))
  have h2 : (BitVec.ofInt IntKind.i64.bits (q : Int)).toNat = q := by
    show (BitVec.ofInt 64 (q : Int)).toNat = _
    rw [BitVec.ofInt_natCast]; exact (BitVec.toNat_ofNat ..).trans (Nat.mod_eq_of_lt (by omega))
  show IntKind.i64.wrap _ = _
  rw [BitVec.toNat_or, h1, h2]
  have e : p * 256 ||| q = p * 256 + q := by
    have := Nat.two_pow_add_eq_or_of_lt (i := 8) hq p
    have e2 : (2 ^ 8 * p : Nat) = p * 256 := by omega
    rw [e2] at this; exact this.symm
  rw [e, IntKind.wrap_i64]
  omega

theorem part_any (w : World) (b o n c p q : Nat) (hn : 2 ≤ n) (hp : p < 256) (hq : q < 256) (c0 : w.cell? ⟨b, o, none⟩ = some (.int .u8 p)) (c1 : w.cell? ⟨b, o + 1, none⟩ = some (.int .u8 q)) :
    Calls Try.prog 20 #[.slice (some ⟨b, o, none⟩) n c] w fun e w' => e = .returned (.float .f64 (N ((p * 256 + q : Nat) : Int))) ∧ ∃ m, w' = w.drewN m := by
  have hb := bits_or_part hp hq
  rw [show ((p * 256 : Nat) : Int) = (p : Int) * 256 by omega] at hb
  have HB := Lib.hid hb
  clear hb
  go_enter Try.func20, Try.ntmps20
  go_wp2_with fail
  go_quiet (fail)
  go_wp2
  go_ret
  refine ⟨?_, _, rfl⟩
  show Ending.returned (.float .f64 (floatOfInt .f64 (bits .or .i64 ((p : Int) * 256) (q : Int)))) = _
  rw [HB.out]
  rfl

/-- Of's answer. -/
def ofV (x y : Nat) : Value := if x ≤ 10006 ∧ y ≤ 10006 then .tuple #[.complex .f64 (N (x : Int)) (N (y : Int)), .int .i64 0] else .tuple #[.complex .f64 0 0, .int .i64 11]
set_option maxRecDepth 100000 in
set_option maxHeartbeats 400000 in
theorem of_any (w : World) (p q r s : Nat) (hp : p < 256) (hq : q < 256) (hr : r < 256) (hs : s < 256) :
    Calls Try.prog 9 #[.agg #[.int .u8 p, .int .u8 q, .int .u8 r, .int .u8 s]] w fun e w' => e = .returned (ofV (p * 256 + q) (r * 256 + s)) ∧ Gr w w' := by
  obtain ⟨W1, hW1⟩ : ∃ W1, w.alloc (.cells #[.int .u8 p, .int .u8 q, .int .u8 r, .int .u8 s] 23) = W1 := ⟨_, rfl⟩
  have g1 : Gr w W1 := by rw [← hW1]; exact Gr.alloc (Gr.refl _) _
  have hB : W1.heap[w.heap.size]? = some (.cells #[.int .u8 p, .int .u8 q, .int .u8 r, .int .u8 s] 23 (0, 0)) := by rw [← hW1]; exact alloc1_heap _ _
  have c0 := cell_block hB (j := 0) (v := .int .u8 p) rfl
  have c1 := cell_block hB (j := 1) (v := .int .u8 q) rfl
  have c2 := cell_block hB (j := 2) (v := .int .u8 r) rfl
  have c3 := cell_block hB (j := 3) (v := .int .u8 s) rfl
  obtain ⟨x, hx⟩ : ∃ x, p * 256 + q = x := ⟨_, rfl⟩
  obtain ⟨y, hy⟩ : ∃ y, r * 256 + s = y := ⟨_, rfl⟩
  have hA := fun m => part_any (W1.drewN m) w.heap.size 0 2 4 p q (by decide) hp hq c0 c1
  have hC := fun m => part_any (W1.drewN m) w.heap.size 2 2 2 r s (by decide) hr hs c2 c3
  rw [hx] at hA
  rw [hy] at hC
  have hxl : x ≤ 65535 := by omega
  have hyl : y ≤ 65535 := by omega
  have HR := Lib.hid (fun X => right_any (N (x : Int)) (N (y : Int)) x y (W.of _) (W.of _) (by omega) (by omega) X)
  have HA := Lib.hid hA
  have HC := Lib.hid hC
  have HW1 := Lib.hid hW1
  have HG1 := Lib.hid g1
  rw [hx, hy]
  have hv : (okPart (x : Int) && okPart (y : Int)) = true ∧ ofV x y = .tuple #[.complex .f64 (N (x : Int)) (N (y : Int)), .int .i64 0] ∨ (okPart (x : Int) && okPart (y : Int)) = false ∧ ofV x y = .tuple #[.complex .f64 0 0, .int .i64 11] := by
    unfold ofV okPart
    by_cases h : x ≤ 10006 ∧ y ≤ 10006
    · left
      rw [if_pos h, decide_eq_true (by omega), decide_eq_true (by omega)]
      exact ⟨rfl, rfl⟩
    · right
      rw [if_neg h]
      refine ⟨?_, rfl⟩
      by_cases h2 : x ≤ 10006
      · rw [decide_eq_false (p := 0 ≤ (y : Int) ∧ (y : Int) ≤ 10006) (by omega), Bool.and_false]
      · rw [decide_eq_false (by omega), Bool.false_and]
  generalize ofV x y = res at *
  generalize (okPart (x : Int) && okPart (y : Int)) = ok at *
  clear hA hC hW1 g1 hB c0 c1 c2 c3 hp hq hr hs hx hy hxl hyl
  generalize N (x : Int) = nx at *
  generalize N (y : Int) = ny at *
  go_enter Try.func9, Try.ntmps9
  go_wp2_with fail
  rw [HW1.out]
  go_quiet (first
    | (go_at_call 20; with_reducible exact Calls.quiet_of (HA.out _))
    | (go_at_call 20; with_reducible exact Calls.quiet_of (HC.out _)))
  rcases hv with ⟨rfl, rfl⟩ | ⟨rfl, rfl⟩
  all_goals
    go_wp2_with fail
    refine (HR.out _).mono ?_
    rintro e w1 ⟨rfl, rfl⟩
    go_wp2
    go_ret2
    exact ⟨rfl, HG1.out.drewN _⟩
/-- The n cells from place o of block b on. -/
def rowAt (w : World) (b o n : Nat) : Option (Array Value) :=
  match w.heap[b]? with
  | some (.cells c _ _) => if o + n ≤ c.size then some (c.extract o (o + n)) else none
  | _ => none
theorem rowAt_range {w : World} {b o n : Nat} {cs : Array Value} (h : rowAt w b o n = some cs) : w.rangeAt b o cs.toList ∧ cs.toList.length = n := by
  unfold rowAt at h
  split at h
  · rename_i c t f hb
    split at h
    · rename_i hle
      simp only [Option.some.injEq] at h
      subst h
      refine ⟨World.rangeAt_of_block hb o n, ?_⟩
      simp; omega
    · cases h
  · cases h
theorem loadVar_row {P : Program} {t : TypeId} {n : Nat} {d : TypeDesc} (hu : P.underlying t = some d) (hd : d.isRow = true) (hi : (P.info? t).map (·.size) = some n) {b o : Nat} {w : World} {cs : Array Value} (h : rowAt w b o n = some cs) :
    (loadVar t ⟨b, o, none⟩).run P w = .ok (.agg cs) w := by
  obtain ⟨h1, h2⟩ := rowAt_range h
  have := run_loadVar_mid (P := P) w b o t cs.toList d h1 hu hd (by rw [h2]; exact hi)
  simpa using this
theorem results_row {P : Program} {fn : Func} {t : Tmp} {ty : TypeId} {n : Nat} {d : TypeDesc} (hr : fn.results = #[.cell t ty]) (hu : P.underlying ty = some d) (hd : d.isRow = true) (hi : (P.info? ty).map (·.size) = some n)
    {tmps : Array Value} {b : Nat} {w : World} {cs : Array Value} (ht : tmps.getD t undef = .pointer (some ⟨b, 0, none⟩)) (h : rowAt w b 0 n = some cs) :
    (results fn tmps).run P w = .ok (.agg cs) w := by
  have hl := loadVar_row hu hd hi h
  have ht' : tmps[t]?.getD undef = .pointer (some ⟨b, 0, none⟩) := by simpa using ht
  simp only [results, hr]
  simp [ht', asAddr, hl]
theorem rowAt_block {w : World} {b : Nat} {cs : Array Value} {t : TypeId} {f : Nat × Nat} (hb : w.heap[b]? = some (.cells cs t f)) {n : Nat} (hn : cs.size = n) : rowAt w b 0 n = some cs := by
  unfold rowAt; rw [hb]; simp [hn.symm]
theorem info23 : (Try.prog.info? 23).map (·.size) = some 4 := by kernel_rfl
set_option maxRecDepth 100000 in
theorem pbytes_any (x y a b : Nat) (h : W x (a : Int)) (g : W y (b : Int)) (ha : a ≤ 10006) (hb : b ≤ 10006) (w : World) :
    Calls Try.prog 17 #[.complex .f64 x y] w fun e w' => e = .returned (.agg #[.int .u8 (a / 256 : Nat), .int .u8 (a % 256 : Nat), .int .u8 (b / 256 : Nat), .int .u8 (b % 256 : Nat)]) ∧ Gr w w' := by
  have HR := Lib.hid (fun X => right_any x y a b h g (by omega) (by omega) X)
  rw [okPart_true (z := (a : Int)) (by omega) (by omega), okPart_true (z := (b : Int)) (by omega) (by omega)] at HR
  have k1 := fun W => run_convert_float_int (P := Try.prog) W 22 3 .f64 .i64 x a (by kernel_rfl) Try.underlying3 (toInt_W h (by omega) (by omega) (by omega))
  have k2 := fun W => run_convert_float_int (P := Try.prog) W 22 3 .f64 .i64 y b (by kernel_rfl) Try.underlying3 (toInt_W g (by omega) (by omega) (by omega))
  clear h g
  go_enter Try.func17, Try.ntmps17
  go_wp2_with fail
  refine (HR.out _).mono ?_
  rintro e w1 ⟨rfl, rfl⟩
  go_wp2
  exact bodyPost_ret (results_row rfl Try.underlying23 rfl info23 rfl (rowAt_block (alloc1_heap _ _) rfl)) rfl ⟨rfl, Gr.alloc (Gr.refl _) _⟩
end Go.Proofs.Ytofnoillkfagiaa
