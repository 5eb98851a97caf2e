/-
  Readings of files, identities and names; the iterator over files.
  Conditions: none beyond those typed at each theorem.
-/
import Derived.Test.YtkhkjcoejkgfeaaDoorNd
import Derived.Test.YtkhkjcoejkgfeaaDoorNf
import Derived.OwnWalkIn
import Derived.TacticsInMore
import Derived.LoopNIn
import Derived.LoopIn
import Derived.Shelf.Abstract
import Derived.Shelf.RegionOpen
namespace Go.Proofs.YtkhkjcoejkgfeaaDoor
open Go Go.RowKit

def intOf : Value → Int | .int _ q => q | _ => 0
/-- Files to be read, by their names. -/
def IsFiles (S : Nat → Prop) (w : World) (v : Value) (ns : List (List UInt8)) : Prop :=
  ∃ els : List (List Value), els.length = ns.length ∧ SL S w 2 v els ∧ ∀ (i : Nat) (n : List UInt8), ns[i]? = some n → ∃ a k c, els[i]? = some [strV n, .slice a k c]
theorem IsFiles.gr {A B : World} (h : Gr A B) {S : Nat → Prop} {v : Value} {ns : List (List UInt8)} (hs : IsFiles S A v ns) : IsFiles S B v ns := by
  obtain ⟨els, h1, h2, h3⟩ := hs
  exact ⟨els, h1, h2.gr h, h3⟩
theorem IsFiles.len {w : World} {S : Nat → Prop} {v : Value} {ns : List (List UInt8)} (hs : IsFiles S w v ns) : ∃ a cap, v = .slice a ns.length cap ∧ ns.length ≤ cap ∧ cap ≤ maxLen := by
  obtain ⟨els, h1, h2, h3⟩ := hs
  have := h2.len
  rwa [h1] at this
theorem IsFiles.some {w : World} {S : Nat → Prop} {v : Value} {ns : List (List UInt8)} (hs : IsFiles S w v ns) (h0 : 0 < ns.length) :
    ∃ b off cap, v = .slice (some ⟨b, off, none⟩) ns.length cap ∧ S b ∧ ∀ (i : Nat) (n : List UInt8), ns[i]? = Option.some n → ∃ a k c, w.rangeAt b (off + i * 2) [strV n, .slice a k c] := by
  obtain ⟨els, h1, h2, h3⟩ := hs
  obtain ⟨b, off, cap, hv, h4, h5, h6⟩ := SL.some h2 (by omega)
  refine ⟨b, off, cap, by rw [← h1]; exact hv, h6, fun i n hn => ?_⟩
  obtain ⟨a, k, c, he⟩ := h3 i n hn
  exact ⟨a, k, c, SL.at h2 hv he⟩
/-- Identities to be read. -/
def idCells (x : Idn) : List Value := [.int .u8 x.kind, .int .i64 x.seq, .int .i64 x.fmt]
def IsIds (S : Nat → Prop) (w : World) (v : Value) (xs : List Idn) : Prop := SL S w 3 v (xs.map idCells)
theorem IsIds.gr {A B : World} (h : Gr A B) {S : Nat → Prop} {v : Value} {xs : List Idn} (hs : IsIds S A v xs) : IsIds S B v xs := SL.gr h hs
theorem IsIds.len {w : World} {S : Nat → Prop} {v : Value} {xs : List Idn} (hs : IsIds S w v xs) : ∃ a cap, v = .slice a xs.length cap ∧ xs.length ≤ cap ∧ cap ≤ maxLen := by
  have := SL.len hs; simpa using this
theorem IsIds.some {w : World} {S : Nat → Prop} {v : Value} {xs : List Idn} (hs : IsIds S w v xs) (h0 : 0 < xs.length) :
    ∃ b off cap, v = .slice (some ⟨b, off, none⟩) xs.length cap ∧ S b ∧ ∀ (i : Nat) (x : Idn), xs[i]? = Option.some x → w.rangeAt b (off + i * 3) (idCells x) := by
  obtain ⟨b, off, cap, hv, h4, h5, h6⟩ := SL.some hs (by simpa using h0)
  refine ⟨b, off, cap, by simpa using hv, h6, fun i x hx => ?_⟩
  exact SL.at hs hv (by rw [List.getElem?_map, hx]; rfl)
/-- Names to be read. -/
def IsStrs (S : Nat → Prop) (w : World) (v : Value) (ns : List (List UInt8)) : Prop := SL S w 1 v (ns.map fun n => [strV n])
theorem IsStrs.gr {A B : World} (h : Gr A B) {S : Nat → Prop} {v : Value} {ns : List (List UInt8)} (hs : IsStrs S A v ns) : IsStrs S B v ns := SL.gr h hs
theorem IsStrs.len {w : World} {S : Nat → Prop} {v : Value} {ns : List (List UInt8)} (hs : IsStrs S w v ns) : ∃ a cap, v = .slice a ns.length cap ∧ ns.length ≤ cap ∧ cap ≤ maxLen := by
  have := SL.len hs; simpa using this
theorem IsStrs.some {w : World} {S : Nat → Prop} {v : Value} {ns : List (List UInt8)} (hs : IsStrs S w v ns) (h0 : 0 < ns.length) :
    ∃ b off cap, v = .slice (some ⟨b, off, none⟩) ns.length cap ∧ S b ∧ ∀ (i : Nat) (n : List UInt8), ns[i]? = Option.some n → w.cell? ⟨b, off + i, none⟩ = Option.some (strV n) := by
  obtain ⟨b, off, cap, hv, h4, h5, h6⟩ := SL.some hs (by simpa using h0)
  refine ⟨b, off, cap, by simpa using hv, h6, fun i n hn => ?_⟩
  have := SL.at hs hv (i := i) (e := [strV n]) (by rw [List.getElem?_map, hn]; rfl) 0 _ rfl
  simpa using this

set_option maxRecDepth 100000 in
set_option maxHeartbeats 1000000 in
theorem called1_in (S : Nat → Prop) (ns : List (List UInt8)) (B1 : Nat) (v : Value) (Nd : Nat → Obj → Prop) (hl : ns.length ≤ 1000000)
    (nB1 : ∀ c e f, Nd B1 (.cells c e f)) (nS : ∀ b, S b → ∀ c e f, Nd b (.cells c e f))
    (ll : Nat) (J : Nat → World → Prop) (Jx : World → Prop) (W : World) (h1 : W.heap[B1]? = some (.cells #[v] 32 (0, 0))) (hx : IsFiles S W v ns)
    (hG : ∀ k A B, J k A → Gr A B → J k B)
    (hY : ∀ k args A, k < ns.length → J k A → (∃ z, ns[k]? = some z ∧ args = #[.int .i64 k, strV z]) → YieldAt Fence.wide 0 Tryd.prog ll args A fun e B =>
      (e = .returned (.bool true) ∧ J (k + 1) B ∧ Kp Nd A B) ∨ (e = .returned (.bool false) ∧ Jx B))
    (h0 : J 0 W) :
    CallsIn Fence.wide 0 Tryd.prog 26 #[.func (.yield ll) #[] #[], .pointer (some ⟨B1, 0, none⟩)] W fun e W' => (∃ v, e = .returned v) ∧ (J ns.length W' ∨ Jx W') := by
  obtain ⟨a, c, rfl, _, _⟩ := hx.len
  have c10 := cell_block h1 (j := 0) (v := .slice a ns.length c) rfl
  have lB1 : B1 < W.heap.size := (Array.getElem?_eq_some_iff.1 h1).1
  have HX := Lib.hid hx
  have HY := Lib.hid hY
  have HG := Lib.hid hG
  have HNd := Lib.hid (And.intro nB1 nS)
  clear hx hY nB1 nS h1 hG
  refine callsIn_of_wp Tryd.func26 rfl trivial ?_ rfl
  simp only [Tryd.ntmps26, List.size_toArray, List.length_cons, List.length_nil, Nat.reduceAdd, Nat.reduceSub, Array.replicate_succ, Array.replicate_zero, List.push_toArray, List.append_toArray, List.nil_append, List.cons_append]
  gi_wp2_with fail
  gi_loopw [7] (fun iv wr => ∃ i : Nat, iv = .int .i64 i ∧ i ≤ ns.length ∧ J i wr ∧ Kp Nd W wr) (fun iv _ => ns.length - (intOf iv).toNat)
  case atStart => exact ⟨0, rfl, Nat.zero_le _, h0, Kp.refl _ _⟩
  case round =>
    obtain ⟨i, rfl, hi, hJ, hk⟩ := hrel
    by_cases hlt : i < ns.length
    · obtain ⟨n, hn⟩ : ∃ n, ns[i]? = some n := ⟨_, List.getElem?_eq_getElem hlt⟩
      obtain ⟨b, o, c', hv, hSb, hrows⟩ := HX.out.some (by omega)
      simp only [Value.slice.injEq, true_and] at hv
      obtain ⟨rfl, rfl⟩ := hv
      obtain ⟨fa, fl, fc, hc⟩ := hrows i n hn
      have hr := rangeAt_kp hk hc (fun c e f _ => HNd.out.2 _ hSb c e f)
      have q0 : wr.cell? ⟨b, o + i * 2, none⟩ = some (strV n) := hr 0 _ rfl
      have q1 : wr.cell? ⟨b, o + i * 2 + 1, none⟩ = some (.slice fa fl fc) := hr 1 _ rfl
      obtain ⟨fn, tmps, assign, body, hy, hR⟩ := HY.out i #[.int .i64 i, strV n] _ hlt (HG.out i _ _ hJ (Gr.alloc (Gr.refl wr) (.cells #[strV n, .slice fa fl fc] 39))) ⟨n, hn, rfl⟩
      have HR := Lib.hid hR
      have HK := Lib.hid hk
      clear hrows hc hn hJ hk h0 hR hr
      gi_wp2_with fail
      refine ⟨rfl, HR.out.mono ?_⟩
      rintro e W3 (⟨rfl, hJ3, hk3⟩ | ⟨rfl, hJx3⟩)
      · have HJ3 := Lib.hid hJ3
        have HK3 := Lib.hid (hk3 : Kp Nd (wr.alloc (.cells #[strV n, .slice fa fl fc] 39)) W3)
        clear hJ3 hk3 hy q0 q1
        gi_wp2
        exact ⟨⟨i + 1, by go_num, by omega, HJ3.out, (HK.out.trans (Gr.kp (Gr.alloc (Gr.refl wr) _) _)).trans HK3.out⟩, by simp [intOf]; omega⟩
      · gi_wp2
        exact bodyPost_ret (results_none rfl _ _ _) rfl ⟨⟨_, rfl⟩, .inr hJx3⟩
    · obtain rfl : i = ns.length := by omega
      have HJ2 := Lib.hid hJ
      clear hJ hk
      gi_wp2
      exact bodyPost_end (results_none rfl _ _ _) rfl ⟨⟨_, rfl⟩, .inl HJ2.out⟩

theorem called_any (w : World) (a : Option Addr) (n c : Nat) : Calls Tryd.prog 21 #[.slice a n c] w fun e w' => e = .returned (.func (.func 26) #[] #[.pointer (some ⟨w.heap.size, 0, none⟩)]) ∧ w.alloc (.cells #[.slice a n c] 32) = w' := by
  go_enter Tryd.func21, Tryd.ntmps21
  go_wp2
  go_ret
  exact ⟨rfl, rfl⟩
theorem called1_enters : ∀ args w, (callFunc 26 args).run Tryd.prog w = .ok (.enter 26 args) w := enters_of Tryd.func26 (by kernel_rfl) rfl
/-- What the iterator leans on; what it hands over. -/
def CalNd (base0 B1 : Nat) : Nat → Obj → Prop := fun b o => isRec o = false ∧ (b < base0 ∨ b = B1)
def CalY (ns : List (List UInt8)) (k : Nat) (args : Array Value) (_ : World) : Prop := ∃ z, ns[k]? = some z ∧ args = #[.int .i64 k, strV z]
theorem called_iter (w : World) (base0 : Nat) (v : Value) (ns : List (List UInt8)) (hx : IsFiles (· < base0) w v ns) (hl : ns.length ≤ 1000000) :
    Iter Tryd.prog 26 #[.pointer (some ⟨w.heap.size, 0, none⟩)] ns.length (CalY ns) (CalNd base0 w.heap.size) (w.alloc (.cells #[v] 32)) := by
  intro ll J Jx W hW hJ _ hY hJ0
  have h1 := hW.same (alloc1_heap w (.cells #[v] 32))
  have hG : Gr w W := Gr.trans (Gr.alloc (Gr.refl w) _) hW
  exact called1_in (· < base0) ns w.heap.size v (CalNd base0 w.heap.size) hl (fun _ _ _ => ⟨rfl, .inr rfl⟩) (fun b hb _ _ _ => ⟨rfl, .inl hb⟩) ll J Jx W h1 (hx.gr hG) hJ hY hJ0
end Go.Proofs.YtkhkjcoejkgfeaaDoor
