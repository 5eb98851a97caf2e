/-
  Walks: files taken from behind; files now, as a map.
  Conditions: none beyond those typed at each theorem.
-/
import Derived.Test.YtbgcjbpkgijmeaaDi
namespace Go.Proofs.Ytbgcjbpkgijmeaa
open Go Go.RowKit Go.Maps
attribute [local go_sem] Oper.semAt_some

def intOf : Value → Int | .int _ q => q | _ => 0
theorem SL.inn {S : Nat → Prop} {w : World} {size : Nat} {v : Value} {els : List (List Value)} (hsz : 0 < size) (h : SL S w size v els) : SL (· < w.heap.size) w size v els := by
  refine ⟨h.1, ?_⟩
  rcases h.2 with h0 | ⟨b, off, cap, hv, h1, h2, h3, h4⟩
  · exact .inl h0
  · cases els with
    | nil => exact .inl ⟨⟨_, _, hv, h2⟩, rfl⟩
    | cons e es =>
      refine .inr ⟨b, off, cap, hv, h1, h2, ?_, h4⟩
      have hl := h.1 e (by simp)
      have := h4 0 (e[0]'(by omega)) (by rw [List.flatten_cons, List.getElem?_append_left (by omega)]; exact List.getElem?_eq_getElem (by omega))
      show b < w.heap.size
      unfold World.cell? at this
      split at this
      · exact (Array.getElem?_eq_some_iff.1 (by assumption)).1
      · cases this
theorem row_inn {α : Type} {E : El α} {S : Nat → Prop} {w : World} {v : Value} {xs : List α} (hE : 0 < E.size) (h : IsRow E S w v xs) : IsRow E (· < w.heap.size) w v xs := by
  obtain ⟨bs, h1, h2, h3, h4⟩ := h
  exact ⟨bs, h1, SL.inn hE h2, fun i x b hx hb => IsBy.inn (h3 i x b hx hb), h4⟩

/-- What the iterator leans on; what it hands over. -/
def BakNd (n0 B1 : Nat) : Nat → Obj → Prop := fun b o => isRec o = false ∧ (b < n0 ∨ b = B1)
def BakY (n0 : Nat) (fs : List Fl) (k : Nat) (args : Array Value) (A : World) : Prop := ∃ f bv, fs[fs.length - 1 - k]? = some f ∧ args = #[.int .i64 ((fs.length : Int) - 1 - k), flV f bv] ∧ IsBy (· < n0) A bv f.data ∧ f.name.length ≤ maxLen

set_option maxRecDepth 100000 in
set_option maxHeartbeats 1000000 in
theorem back1_in (n0 : Nat) (fs : List Fl) (B1 : Nat) (v : Value) (hl : fs.length ≤ 1000000)
    (ll : Nat) (J : Nat → World → Prop) (Jx : World → Prop) (W : World) (h1 : W.heap[B1]? = some (.cells #[v] 22 (0, 0))) (hx : IsFls (· < n0) W v fs)
    (hG : ∀ k A B, J k A → Gr A B → J k B)
    (hY : ∀ k args A, k < fs.length → J k A → BakY n0 fs k args A → YieldAt Fence.wide 0 Try.prog ll args A fun e B =>
      (e = .returned (.bool true) ∧ J (k + 1) B ∧ Kp (BakNd n0 B1) A B) ∨ (e = .returned (.bool false) ∧ Jx B))
    (h0 : J 0 W) :
    CallsIn Fence.wide 0 Try.prog 56 #[.func (.yield ll) #[] #[], .pointer (some ⟨B1, 0, none⟩)] W fun e W' => (∃ v, e = .returned v) ∧ (J fs.length W' ∨ Jx W') := by
  obtain ⟨a, c, rfl, _, _⟩ := hx.len
  have c10 := cell_block h1 (j := 0) (v := .slice a fs.length c) rfl
  have lB1 : B1 < W.heap.size := (Array.getElem?_eq_some_iff.1 h1).1
  have HX := Lib.hid hx
  have HY := Lib.hid hY
  have HG := Lib.hid hG
  have H1 := Lib.hid h1
  clear hx hY h1 hG
  refine callsIn_of_wp Try.func56 rfl trivial ?_ rfl
  simp only [Try.ntmps56, List.size_toArray, List.length_cons, List.length_nil, Nat.reduceAdd, Nat.reduceSub, Array.replicate_succ, Array.replicate_zero, List.push_toArray, List.append_toArray, List.nil_append, List.cons_append]
  gi_wp2_with fail
  gi_loopw [3] (fun iv wr => ∃ i : Nat, iv = .int .i64 ((fs.length : Int) - 1 - i) ∧ i ≤ fs.length ∧ J i wr ∧ Kp (BakNd n0 B1) W wr) (fun iv _ => (intOf iv + 1).toNat)
  case atStart => exact ⟨0, by simp, Nat.zero_le _, h0, Kp.refl _ _⟩
  case round =>
    obtain ⟨i, rfl, hi, hJ, hk⟩ := hrel
    have c1r := cell_block (hk.keep _ _ H1.out ⟨rfl, .inr rfl⟩) (j := 0) (v := .slice a fs.length c) rfl
    have lB1r : B1 < wr.heap.size := Nat.lt_of_lt_of_le lB1 hk.size
    by_cases hlt : i < fs.length
    · obtain ⟨f, hf⟩ : ∃ f, fs[fs.length - 1 - i]? = some f := ⟨_, List.getElem?_eq_getElem (by omega)⟩
      obtain ⟨b, o, c', hv, _, _, hSb, hrows⟩ := HX.out.some (by omega)
      simp only [Value.slice.injEq, true_and] at hv
      obtain ⟨rfl, rfl⟩ := hv
      obtain ⟨bv, hc, hbv⟩ := hrows _ f hf
      obtain ⟨ba, bc, rfl, _, _⟩ := hbv.len
      have hr := rangeAt_kp hk hc (fun c e f _ => ⟨rfl, .inl hSb⟩)
      have hbr : IsBy (· < n0) wr (.slice ba f.data.length bc) f.data := SL.kp hk hbv (fun b c e f hb _ => ⟨rfl, .inl hb⟩)
      have hok := HX.out.ok f (List.mem_of_getElem? hf)
      have e1 : (fs.length : Int) - 1 - i = ((fs.length - 1 - i : Nat) : Int) := by omega
      have q0 : wr.cell? ⟨b, o + (fs.length - 1 - i) * 2, none⟩ = some (strV f.name) := hr 0 _ rfl
      have q1 : wr.cell? ⟨b, o + (fs.length - 1 - i) * 2 + 1, none⟩ = some (.slice ba f.data.length bc) := hr 1 _ rfl
      obtain ⟨fn, tmps, assign, body, hy, hR⟩ := HY.out i #[.int .i64 ((fs.length : Int) - 1 - i), flV f (.slice ba f.data.length bc)] wr hlt hJ ⟨f, _, hf, rfl, hbr, hok⟩
      have HR := Lib.hid hR
      have HK := Lib.hid hk
      clear hrows hc hf hJ hk h0 hR hr hbv hbr hok
      generalize hj : fs.length - 1 - i = j at *
      have hjl : j < fs.length := by omega
      rw [e1]
      rw [e1] at hy
      gi_wp2_with fail
      refine ⟨rfl, HR.out.mono ?_⟩
      rintro e W3 (⟨rfl, hJ3, hk3⟩ | ⟨rfl, hJx3⟩)
      · have HJ3 := Lib.hid hJ3
        have HK3 := Lib.hid hk3
        clear hJ3 hk3 hy q0 q1
        gi_wp2
        exact ⟨⟨i + 1, by go_num, by omega, HJ3.out, HK.out.trans HK3.out⟩, by simp [intOf]⟩
      · gi_wp2
        exact bodyPost_ret (results_none rfl _ _ _) rfl ⟨⟨_, rfl⟩, .inr hJx3⟩
    · obtain rfl : i = fs.length := by omega
      have HJ2 := Lib.hid hJ
      have e1 : (fs.length : Int) - 1 - fs.length = -1 := by omega
      clear hJ hk
      rw [e1]
      gi_wp2
      exact bodyPost_end (results_none rfl _ _ _) rfl ⟨⟨_, rfl⟩, .inl HJ2.out⟩

theorem back_any (w : World) (a : Option Addr) (n c : Nat) : Calls Try.prog 44 #[.slice a n c] w fun e w' => e = .returned (.func (.func 56) #[] #[.pointer (some ⟨w.heap.size, 0, none⟩)]) ∧ w.alloc (.cells #[.slice a n c] 22) = w' := by
  go_enter Try.func44, Try.ntmps44
  go_wp2
  go_ret
  exact ⟨rfl, rfl⟩
theorem back1_enters : ∀ args w, (callFunc 56 args).run Try.prog w = .ok (.enter 56 args) w := enters_of Try.func56 (by kernel_rfl) rfl
theorem back_iter (w : World) (n0 : Nat) (v : Value) (fs : List Fl) (hx : IsFls (· < n0) w v fs) (hl : fs.length ≤ 1000000) :
    Iter Try.prog 56 #[.pointer (some ⟨w.heap.size, 0, none⟩)] fs.length (BakY n0 fs) (BakNd n0 w.heap.size) (w.alloc (.cells #[v] 22)) := by
  intro ll J Jx W hW hJ _ hY hJ0
  have h1 := hW.same (alloc1_heap w (.cells #[v] 22))
  have hG : Gr w W := Gr.trans (Gr.alloc (Gr.refl w) _) hW
  exact back1_in n0 fs w.heap.size v hl ll J Jx W h1 (hx.gr hG) hJ hY hJ0

/-- The files from behind, as far as they have come. -/
theorem taken_drop {fs : List Fl} {k : Nat} {f : Fl} (h : fs[fs.length - 1 - k]? = some f) (hk : k < fs.length) : taken (fs.drop (fs.length - (k + 1))) = put (taken (fs.drop (fs.length - k))) f := by
  have e1 : fs.length - (k + 1) = fs.length - 1 - k := by omega
  have hlt : fs.length - 1 - k < fs.length := by omega
  have e2 : fs.drop (fs.length - 1 - k) = f :: fs.drop (fs.length - 1 - k + 1) := by
    rw [List.drop_eq_getElem_cons hlt]
    rw [List.getElem?_eq_getElem hlt] at h
    injection h with h
    rw [h]
  rw [e1, e2]
  have e3 : fs.length - 1 - k + 1 = fs.length - k := by omega
  rw [e3]
  rfl
/-- Between two rounds. -/
def TkI (w : World) (n0 bm bb : Nat) (fs : List Fl) (k : Nat) (X : World) : Prop :=
  X.heap[bb]? = some (.cells #[.map (some bm)] 54 (0, 0)) ∧ (∃ D, OwnM X bm k D ∧ MapIs n0 X D (taken (fs.drop (fs.length - k)))) ∧ Gr w X
theorem TkI.data {w : World} {n0 bm bb : Nat} {fs : List Fl} {k n : Nat} (hn : w.heap.size ≤ n) : OfData n (TkI w n0 bm bb fs k) := by
  rintro X Y ⟨h1, ⟨D, h2, h3⟩, h4⟩ hk
  refine ⟨hk.keep _ _ h1 (.inl rfl), ⟨D, ?_, h3.kp hk fun _ _ _ _ _ _ => .inl rfl⟩, Gr.of (hk.below hn (Nat.le_refl _) h4.below)⟩
  obtain ⟨es, clock, hb, r⟩ := h2
  exact ⟨es, clock, hk.keep _ _ hb (.inl rfl), r⟩

set_option maxRecDepth 100000 in
set_option maxHeartbeats 1000000 in
theorem taken_any (w : World) (n0 : Nat) (hn0 : n0 ≤ w.heap.size) (v : Value) (fs : List Fl) (hx : IsFls (· < n0) w v fs) (hl : fs.length ≤ 1000000) :
    Calls Try.prog 30 #[v] w fun e w' => ∃ b D, e = .returned (.map (some b)) ∧ w.heap.size ≤ b ∧ OwnM w' b fs.length D ∧ MapIs n0 w' D (taken fs) ∧ Gr w w' := by
  have hmm := @run_makeMap Try.prog
  obtain ⟨va, vc, rfl, _, _⟩ := hx.len
  obtain ⟨W1, hW1⟩ : ∃ W1, (w.alloc (.map #[] 0)).alloc (.cells #[.map (some w.heap.size)] 54) = W1 := ⟨_, rfl⟩
  have g1 : Gr w W1 := by rw [← hW1]; exact (Gr.alloc (Gr.refl _) _).alloc _
  have hB1 : W1.heap[w.heap.size + 1]? = some (.cells #[.map (some w.heap.size)] 54 (0, 0)) := by rw [← hW1]; exact alloc2_heap1 _ _ _
  have hM : OwnM W1 w.heap.size 0 (.map []) := by
    rw [← hW1]
    exact (World.ownsMap_made w Try.prog 9 heldE).alloc _
  have hsz : W1.heap.size = w.heap.size + 2 := by rw [← hW1]; simp
  have HIT := Lib.hid (back_iter W1 n0 (.slice va fs.length vc) fs (hx.gr g1) hl)
  have gA : Gr W1 (W1.alloc (.cells #[.slice va fs.length vc] 22)) := Gr.alloc (Gr.refl _) _
  have hStart : TkI w n0 w.heap.size (w.heap.size + 1) fs 0 (W1.alloc (.cells #[.slice va fs.length vc] 22)) :=
    ⟨gA.same hB1, ⟨_, hM.gr gA, by rw [Nat.sub_zero, List.drop_length]; exact MapIs.nil _ _⟩, g1.trans gA⟩
  have HST := Lib.hid hStart
  have HW1 := Lib.hid hW1
  have HSZ := Lib.hid hsz
  clear hx hStart gA hM hB1 g1 hsz hW1
  refine (callsIn_wide (n := 0)).1 ?_
  refine callsIn_of_wp_marks Try.func30 rfl trivial ?_ rfl
  simp only [Try.ntmps30, List.size_toArray, List.length_cons, List.length_nil, Nat.reduceAdd, Nat.reduceSub, Array.replicate_succ, Array.replicate_zero, List.push_toArray, List.append_toArray, List.nil_append, List.cons_append]
  gi_wp2_with fail
  rw [HW1.out]
  refine ⟨trivial, rfl, (callsIn_wide.2 (back_any _ _ _ _)).mono ?_⟩
  rintro e w4 ⟨rfl, hw4⟩
  rw [hw4] at HIT HST
  have HW4 := Lib.hid hw4
  clear hw4
  gi_wp2_with fail
  have hs4 : w4.heap.size = w.heap.size + 3 := by rw [← HW4.out]; simp [HSZ.out]
  have HS4 := Lib.hid hs4
  clear hs4
  refine range_iter (gf := 56) rfl back1_enters HIT.out (Gr.refl _) (fun b o h => h.1) (by rintro _ _ _ ⟨f, bv, _, rfl, _⟩; rfl)
    (TkI w n0 w.heap.size (w.heap.size + 1) fs) (fun _ _ => False) (fun k => TkI.data (by rw [HS4.out]; omega)) (fun _ _ _ h _ => h) ?_ ?_ ?_ ?_
  · exact HST.out
  · rintro ll k args A hk hI ⟨f, bv, hf, rfl, hbv, hok⟩
    obtain ⟨ba, bc, rfl, _, _⟩ := hbv.len
    have HI := Lib.hid hI
    have HF := Lib.hid (And.intro hf (And.intro hbv hok))
    have HKL := Lib.hid hk
    clear hI hf hbv hok hk
    gi_wp2
    have gA : Gr A (A.alloc (.cells #[strV f.name, .slice ba f.data.length bc] 40)) := Gr.alloc (Gr.refl A) _
    refine ⟨fun X => TkI w n0 w.heap.size (w.heap.size + 1) fs k X ∧ X.heap[A.heap.size]? = some (.cells #[strV f.name, .slice ba f.data.length bc] 40 (0, 0)) ∧ By5 n0 X (.slice ba f.data.length bc) f.data, ?_, ⟨?_, alloc1_heap A _, ?_⟩, Gr.kp gA _, Gr.kp gA _, ?_⟩
    · rintro X Y ⟨h1, h2, h3⟩ hkp
      exact ⟨TkI.data (by rw [HS4.out]; omega) X Y h1 hkp, hkp.keep _ _ h2 (.inl rfl), h3.kp hkp fun _ _ _ _ _ _ => .inl rfl⟩
    · exact OfData.gr (TkI.data (n := w4.heap.size) (by rw [HS4.out]; omega)) _ _ HI.out gA
    · exact By5.of_low (IsBy.gr gA HF.out.2.1)
    · rintro A2 ⟨⟨h1, ⟨D, h2, h3⟩, h4⟩, h5, h6⟩ hkA
      have c0 := cell_block h1 (j := 0) rfl
      have d0 := cell_block h5 (j := 0) rfl
      have d1 := cell_block h5 (j := 1) rfl
      obtain ⟨w5, hr, hm5, hg5⟩ := h2.update (t := 54) law9 Try.underlying54 (by have := HKL.out; unfold maxLen; omega) (key_str HF.out.2.2) (val := .slice ba f.data.length bc) (d := .held (.slice ba f.data.length bc)) (ps := []) rfl
      have HP := Lib.hid (And.intro h1 (And.intro h2 (And.intro h3 (And.intro h4 (And.intro h6 (And.intro hm5 hg5))))))
      clear h1 h2 h3 h4 h5 h6 hm5 hg5 hkA
      gi_wp2
      obtain ⟨h1, h2, h3, h4, h6, hm5, hg5⟩ := HP.out
      have hl1 : w.heap.size + 1 < A2.heap.size := (Array.getElem?_eq_some_iff.1 h1).1
      refine ⟨⟨(hg5.block _ hl1 (by simp)).trans h1, ⟨_, hm5, ?_⟩, grown_gr h4 hg5 fun q hq => by cases hq; exact Nat.le_refl _⟩, ?_, ?_⟩
      · rw [taken_drop HF.out.1 HKL.out]
        exact (h3.grown h2 hg5).put f.name (h6.grown h2 hg5)
      · refine Kp.grown (Kp.refl _ _) hg5 fun q o hq _ hn => ?_
        cases hq
        rcases hn.2 with h | h
        · omega
        · have := HSZ.out; omega
      · refine Kp.grown (Kp.refl _ _) hg5 fun q o hq ho hn => ?_
        cases hq
        obtain ⟨es, cl, hb, _⟩ := h2
        rw [hb] at ho; cases ho; cases hn
  · rintro D2 X hD ⟨h1, ⟨D, h2, h3⟩, h4⟩ hDD
    have c0 := cell_block h1 (j := 0) rfl
    have HP := Lib.hid (And.intro h2 (And.intro h3 h4))
    have HDD := Lib.hid hDD
    have HD := Lib.hid hD
    clear h1 h2 h3 h4 hDD hD
    gi_wp2
    refine ⟨by simp, .inl ⟨D2, _, rfl, run_takeDeferred HDD.out, ?_⟩⟩
    obtain ⟨h2, h3, h4⟩ := HP.out
    have hd : w.heap.size < D2 := by have := HD.out; have := HS4.out; omega
    have hkp : Kp (fun b o => isRec o = false ∨ b < w.heap.size) X (X.putObj D2 (.deferred none)) := (Kp.refl _ _).putObj _ HDD.out (by intro h; rcases h with h | h; cases h; omega)
    refine ⟨_, results_tmp rfl _ _ _, w.heap.size, D, rfl, Nat.le_refl _, ?_, ?_, ?_⟩
    · obtain ⟨es, clock, hb, r⟩ := h2
      exact ⟨es, clock, hkp.keep _ _ hb (.inl rfl), r⟩
    · rw [Nat.sub_self] at h3
      exact MapIs.kp (by simpa using h3) hkp fun _ _ _ _ _ _ => .inl rfl
    · exact Gr.of (Below.trans h4.below ⟨rfl, rfl, rfl, by simp, fun r hr => World.putObj_heap_other (by omega)⟩)
  · intro D2 c X hD h
    exact h.elim
end Go.Proofs.Ytbgcjbpkgijmeaa
