/-
  Walks: may anything be done; a file read; all made safe.
  Conditions: none beyond those typed at each theorem.
-/
import Derived.Test.YtbgcjbpkgijmeaaDs
namespace Go.Proofs.Ytbgcjbpkgijmeaa
open Go Go.RowKit Go.Maps

set_option maxRecDepth 100000 in
set_option maxHeartbeats 1000000 in
theorem may_any (w : World) {S : Nat → Prop} (v : Value) (d : Dsk) (hx : IsDsk S w v d) (hc : cnt d ≤ 1000000) (ht : tot d ≤ 1000000000000) :
    Calls Try.prog 25 #[v] w fun e w' => e = .returned (.int .i64 (mayP d)) ∧ Gr w w' := by
  obtain ⟨fa, fc, qa, qc, rfl⟩ := dsk_val hx
  have hG : Gr w (w.alloc (.cells #[.slice fa d.files.length fc, .slice qa d.queue.length qc, .int .i64 d.quota, .int .i64 d.fuse, .bool d.dead] 25)) := Gr.alloc (Gr.refl w) _
  have HR := Lib.hid (right_any _ _ d (hx.gr hG) hc ht)
  have HB := Lib.hid (alloc1_heap w (.cells #[.slice fa d.files.length fc, .slice qa d.queue.length qc, .int .i64 d.quota, .int .i64 d.fuse, .bool d.dead] 25))
  have HM := Lib.hid (show mayP d = if rightB d = false then 2 else if d.dead = true then 40 else 0 from rfl)
  have HG := Lib.hid hG
  clear hx hc ht hG
  generalize mayP d = m at *
  generalize rightB d = r at *
  generalize hdq : d.dead = dd at *
  clear hdq
  cases r with
  | false =>
    have HM2 := Lib.hid (show m = 2 from HM.out)
    go_enter Try.func25, Try.ntmps25
    go_wp2_with fail
    refine HR.out.mono ?_
    rintro e w2 ⟨rfl, hg⟩
    have HG2 := Lib.hid (HG.out.trans hg)
    clear hg
    go_wp2
    go_ret
    exact ⟨by rw [HM2.out]; rfl, HG2.out⟩
  | true =>
    cases dd with
    | true =>
      have HM2 := Lib.hid (show m = 40 from HM.out)
      go_enter Try.func25, Try.ntmps25
      go_wp2_with fail
      refine HR.out.mono ?_
      rintro e w2 ⟨rfl, hg⟩
      have c4 := cell_block (hg.same HB.out) (j := 4) rfl
      have HG2 := Lib.hid (HG.out.trans hg)
      clear hg
      go_wp2
      go_ret
      exact ⟨by rw [HM2.out]; rfl, HG2.out⟩
    | false =>
      have HM2 := Lib.hid (show m = 0 from HM.out)
      go_enter Try.func25, Try.ntmps25
      go_wp2_with fail
      refine HR.out.mono ?_
      rintro e w2 ⟨rfl, hg⟩
      have c4 := cell_block (hg.same HB.out) (j := 4) rfl
      have HG2 := Lib.hid (HG.out.trans hg)
      clear hg
      go_wp2
      go_ret
      exact ⟨by rw [HM2.out]; rfl, HG2.out⟩

/-- A file, read. -/
theorem now_len {n b : Bs} {d : Dsk} (h : get (nowL d) n = some b) : b.length ≤ tot d := Nat.le_trans (sizeL_get h) (size_now d)
set_option maxRecDepth 100000 in
set_option maxHeartbeats 1000000 in
theorem read_any (w : World) {S : Nat → Prop} (v : Value) (d : Dsk) (n : Bs) (hn : n.length ≤ maxLen) (hx : IsDsk S w v d) (hc : cnt d ≤ 1000000) (ht : tot d ≤ 1000000000000) :
    Calls Try.prog 17 #[v, strV n] w fun e w' => ∃ bv, e = .returned (.tuple #[bv, .int .i64 (readE d n)]) ∧ OwnBy w.heap.size w' bv (readB d n) ∧ Gr w w' := by
  obtain ⟨i0, hi, hz0, hz1, hz2⟩ := info_parts Try.info5
  have hx := dsk_inn hx
  obtain ⟨fa, fc, qa, qc, rfl⟩ := dsk_val hx
  have hG : Gr w (w.alloc (.cells #[.slice fa d.files.length fc, .slice qa d.queue.length qc, .int .i64 d.quota, .int .i64 d.fuse, .bool d.dead] 25)) := Gr.alloc (Gr.refl w) _
  have HN := Lib.hid (now_any _ w.heap.size hG.size _ d (hx.gr hG) hc ht)
  have HG := Lib.hid hG
  have HX := Lib.hid (And.intro hx (And.intro hc ht))
  clear hx hc ht hG
  cases hg : get (nowL d) n with
  | none =>
    have HE := Lib.hid (show readE d n = 42 ∧ readB d n = [] from ⟨by unfold readE; rw [hg, if_pos rfl], by unfold readB; rw [hg]; rfl⟩)
    have HGn := Lib.hid hg
    clear hg
    go_enter Try.func17, Try.ntmps17
    go_wp2_with fail
    refine HN.out.mono ?_
    rintro e w2 ⟨b, D, rfl, hb, hm, hl, hg⟩
    have hlk := hl.look_no hm hn HGn.out
    have HG2 := Lib.hid (HG.out.trans hg)
    clear hb hm hl hg
    go_wp2
    go_ret2
    exact ⟨_, by rw [HE.out.1]; rfl, by rw [HE.out.2]; exact World.ownsRow_nil _ _ _ _, HG2.out⟩
  | some x =>
    have HE := Lib.hid (show readE d n = 0 ∧ readB d n = x from ⟨by unfold readE; rw [hg, if_neg (by simp)], by unfold readB; rw [hg]; rfl⟩)
    have HGn := Lib.hid hg
    clear hg
    go_enter Try.func17, Try.ntmps17
    go_wp2_with fail
    refine HN.out.mono ?_
    rintro e w2 ⟨b, D, rfl, hb, hm, hl, hg⟩
    obtain ⟨xv, hlk, _, hxv⟩ := hl.look hm hn HGn.out
    obtain ⟨xa, xc, rfl, _, _⟩ := IsBy.len hxv
    have hG2 := HG.out.trans hg
    have hrow : (w2.alloc (.cells #[] 5)).ownsRow w.heap.size 5 1 (.slice (some ⟨w2.heap.size, 0, none⟩) 0 0) 0 [] := World.ownsRow_made w2 #[] 0 hG2.size (Nat.zero_le _) rfl
    obtain ⟨_, s1, s2⟩ := by_src (IsBy.gr (Gr.alloc (Gr.refl w2) (.cells #[] 5)) hxv)
    have hxl := now_len HGn.out
    have htt := HX.out.2.2
    have HP := Lib.hid (And.intro hrow (And.intro s1 (And.intro s2 hG2)))
    clear hb hm hl hg hxv hrow s1 s2 hG2
    go_wp2_with (at_builtin; go_loud (refine wpList_append_src rfl _ _ 30 rfl w.heap.size 5 i0 _ 1 1 Try.underlying30 hi hz0 hz1 hz2 rfl (by decide) _ 0 [] rfl HP.out.1 xa x.length xc (x.map byteV) rfl ?c0 HP.out.2.1 HP.out.2.2.1 ?c2 ?c3 ?c4 ?c5 ?_))
    case c0 => simp
    case c2 => exact bytes_one x
    case c3 => unfold maxLen; omega
    case c4 => omega
    case c5 => have := HP.out.2.2.2.size; simp; omega
    intro a3 c3 w3 ho3 hg3
    have HP3 := Lib.hid (And.intro ho3 (grown_gr (HP.out.2.2.2.alloc _) hg3 fun q hq => (owns_elem HP.out.1 hq).1))
    clear ho3 hg3 hlk
    go_wp2
    go_ret2
    exact ⟨_, by rw [HE.out.1]; rfl, by rw [HE.out.2]; unfold OwnBy; exact HP3.out.1, HP3.out.2⟩
end Go.Proofs.Ytbgcjbpkgijmeaa
