/-
  Walks: messages compared, as the program has it.
-/
import Derived.Test.YtajghkjghiifjaaWe
namespace Go.Proofs.Ytajghkjghiifjaa
open Go Go.RowKit
attribute [local go_sem ↓] neq53 eql53 eql29 eql69

set_option maxRecDepth 100000 in
set_option maxHeartbeats 1000000 in
theorem alike32_no0 (xk : Int) (xf : Int) (xt : Int) (xm : Int) (xc : Int) (xl : Int) (xa : Int) (xo : Int) (xb : Bool) (xe : Value) (xp : Int) (xq : Int) (xr : Int) (xs : Int) (xz : Bool) (yk : Int) (yf : Int) (yt : Int) (ym : Int) (yc : Int) (yl : Int) (ya : Int) (yo : Int) (yb : Bool) (ye : Value) (yp : Int) (yq : Int) (yr : Int) (ys : Int) (yz : Bool) (w : World) (S T : Nat → Prop) (es fs : List Ent) (h1 : IsEnts S w xe es) (h2 : IsEnts T w ye fs) (l1 : es.length ≤ 1000000) (l2 : fs.length ≤ 1000000) (hd : decide (es = fs) = false) :
    Calls Try.prog 32 #[.agg #[.int .u8 xk, .int .i64 xf, .int .i64 xt, .int .i64 xm, .int .i64 xc, .int .i64 xl, .int .i64 xa, .int .i64 xo, .bool xb, xe, .int .i64 xp, .int .i64 xq, .int .i64 xr, .int .i64 xs, .bool xz], .agg #[.int .u8 yk, .int .i64 yf, .int .i64 yt, .int .i64 ym, .int .i64 yc, .int .i64 yl, .int .i64 ya, .int .i64 yo, .bool yb, ye, .int .i64 yp, .int .i64 yq, .int .i64 yr, .int .i64 ys, .bool yz]] w fun e w' => e = .returned (.bool false) ∧ Gr w w' := by
  obtain ⟨a1, c1, rfl, _, _⟩ := h1.len
  obtain ⟨a2, c2, rfl, _, _⟩ := h2.len
  have H1 := Lib.hid h1
  have H2 := Lib.hid h2
  clear h1 h2
  go_enter Try.func32, Try.ntmps32
  go_wp2_with fail
  refine swap_region _ _ _ _ [.int .u8 xk, .int .i64 xf, .int .i64 xt, .int .i64 xm, .int .i64 xc, .int .i64 xl, .int .i64 xa, .int .i64 xo, .bool xb, .slice a1 es.length c1, .int .i64 xp, .int .i64 xq, .int .i64 xr, .int .i64 xs, .bool xz] [.int .u8 yk, .int .i64 yf, .int .i64 yt, .int .i64 ym, .int .i64 yc, .int .i64 yl, .int .i64 ya, .int .i64 yo, .bool yb, .slice a2 fs.length c2, .int .i64 yp, .int .i64 yq, .int .i64 yr, .int .i64 ys, .bool yz] (by simp) rfl rfl ?_ ?_ rfl rfl (by simp [Value.oneCell']) (by simp [Value.oneCell']) ?_
  · exact range_row ((Below.heap_alloc _ _ _ (by simp)).trans (World.alloc_heap_new _ _))
  · have := World.alloc_heap_new (w.alloc (.cells #[.int .u8 xk, .int .i64 xf, .int .i64 xt, .int .i64 xm, .int .i64 xc, .int .i64 xl, .int .i64 xa, .int .i64 xo, .bool xb, .slice a1 es.length c1, .int .i64 xp, .int .i64 xq, .int .i64 xr, .int .i64 xs, .bool xz] 31)) (.cells #[.int .u8 yk, .int .i64 yf, .int .i64 yt, .int .i64 ym, .int .i64 yc, .int .i64 yl, .int .i64 ya, .int .i64 yo, .bool yb, .slice a2 fs.length c2, .int .i64 yp, .int .i64 yq, .int .i64 yr, .int .i64 ys, .bool yz] 31)
    rw [World.size_alloc] at this
    exact range_row this
  intro p q w1 hgr _ _ r1 r2 r3 r4
  have hg0 : Gr w w1 := Gr.trans (Gr.alloc (Gr.alloc (Gr.refl w) _) _) hgr
  have hz : w.heap.size + 1 < w1.heap.size := by have := Gr.size hgr; simp at this; omega
  have H1' := H1.out.gr hg0
  have H2' := H2.out.gr hg0
  have HC := Lib.hid (equal_any w1 S T _ _ es fs H1' H2' l1 l2)
  have HG := Lib.hid hg0
  clear hgr hg0 H1' H2'
  obtain ⟨a0, a1, a2, a3, a4, a5, a6, a7, a8, a9, a10, a11, a12, a13, a14⟩ := cells15 r1
  obtain ⟨b0, b1, b2, b3, b4, b5, b6, b7, b8, b9, b10, b11, b12, b13, b14⟩ := cells15 r2
  have R1 := Lib.hid r1
  have R2 := Lib.hid r2
  have R3 := Lib.hid r3
  have R4 := Lib.hid r4
  clear r1 r2 r3 r4
  simp only [Act.put, List.setIfInBounds_toArray, List.set_cons_succ, List.set_cons_zero]
  go_wp2_with fail
  refine HC.out.mono ?_
  rintro e w2 ⟨rfl, hg2⟩
  clear a0 a1 a2 a3 a4 a5 a6 a7 a8 a9 a10 a11 a12 a13 a14 b0 b1 b2 b3 b4 b5 b6 b7 b8 b9 b10 b11 b12 b13 b14
  obtain ⟨a0, -, -, -, -, -, -, -, a8, a9, a10, a11, a12, a13, a14⟩ := cells15 (later_range hg2 R1.out)
  obtain ⟨b0, -, -, -, -, -, -, -, b8, b9, b10, b11, b12, b13, b14⟩ := cells15 (later_range hg2 R2.out)
  obtain ⟨-, c1', c2', c3, c4, c5, c6, c7, -, -, -, -, -, -, -⟩ := cells15 (later_range hg2 R3.out)
  obtain ⟨-, d1, d2, d3, d4, d5, d6, d7, -, -, -, -, -, -, -⟩ := cells15 (later_range hg2 R4.out)
  go_wp2
  go_ret
  exact ⟨rfl, HG.out.trans hg2⟩

set_option maxRecDepth 100000 in
set_option maxHeartbeats 1000000 in
theorem alike32_no1 (xk : Int) (xf : Int) (xt : Int) (xm : Int) (xc : Int) (xl : Int) (xa : Int) (xo : Int) (xb : Bool) (xe : Value) (xp : Int) (xq : Int) (xr : Int) (xs : Int) (xz : Bool) (yk : Int) (yf : Int) (yt : Int) (ym : Int) (yc : Int) (yl : Int) (ya : Int) (yo : Int) (yb : Bool) (ye : Value) (yp : Int) (yq : Int) (yr : Int) (ys : Int) (yz : Bool) (w : World) (S T : Nat → Prop) (es fs : List Ent) (h1 : IsEnts S w xe es) (h2 : IsEnts T w ye fs) (l1 : es.length ≤ 1000000) (l2 : fs.length ≤ 1000000) (he : decide (es = fs) = true) (hd : (xk == yk) = false) :
    Calls Try.prog 32 #[.agg #[.int .u8 xk, .int .i64 xf, .int .i64 xt, .int .i64 xm, .int .i64 xc, .int .i64 xl, .int .i64 xa, .int .i64 xo, .bool xb, xe, .int .i64 xp, .int .i64 xq, .int .i64 xr, .int .i64 xs, .bool xz], .agg #[.int .u8 yk, .int .i64 yf, .int .i64 yt, .int .i64 ym, .int .i64 yc, .int .i64 yl, .int .i64 ya, .int .i64 yo, .bool yb, ye, .int .i64 yp, .int .i64 yq, .int .i64 yr, .int .i64 ys, .bool yz]] w fun e w' => e = .returned (.bool false) ∧ Gr w w' := by
  obtain ⟨a1, c1, rfl, _, _⟩ := h1.len
  obtain ⟨a2, c2, rfl, _, _⟩ := h2.len
  have H1 := Lib.hid h1
  have H2 := Lib.hid h2
  clear h1 h2
  go_enter Try.func32, Try.ntmps32
  go_wp2_with fail
  refine swap_region _ _ _ _ [.int .u8 xk, .int .i64 xf, .int .i64 xt, .int .i64 xm, .int .i64 xc, .int .i64 xl, .int .i64 xa, .int .i64 xo, .bool xb, .slice a1 es.length c1, .int .i64 xp, .int .i64 xq, .int .i64 xr, .int .i64 xs, .bool xz] [.int .u8 yk, .int .i64 yf, .int .i64 yt, .int .i64 ym, .int .i64 yc, .int .i64 yl, .int .i64 ya, .int .i64 yo, .bool yb, .slice a2 fs.length c2, .int .i64 yp, .int .i64 yq, .int .i64 yr, .int .i64 ys, .bool yz] (by simp) rfl rfl ?_ ?_ rfl rfl (by simp [Value.oneCell']) (by simp [Value.oneCell']) ?_
  · exact range_row ((Below.heap_alloc _ _ _ (by simp)).trans (World.alloc_heap_new _ _))
  · have := World.alloc_heap_new (w.alloc (.cells #[.int .u8 xk, .int .i64 xf, .int .i64 xt, .int .i64 xm, .int .i64 xc, .int .i64 xl, .int .i64 xa, .int .i64 xo, .bool xb, .slice a1 es.length c1, .int .i64 xp, .int .i64 xq, .int .i64 xr, .int .i64 xs, .bool xz] 31)) (.cells #[.int .u8 yk, .int .i64 yf, .int .i64 yt, .int .i64 ym, .int .i64 yc, .int .i64 yl, .int .i64 ya, .int .i64 yo, .bool yb, .slice a2 fs.length c2, .int .i64 yp, .int .i64 yq, .int .i64 yr, .int .i64 ys, .bool yz] 31)
    rw [World.size_alloc] at this
    exact range_row this
  intro p q w1 hgr _ _ r1 r2 r3 r4
  have hg0 : Gr w w1 := Gr.trans (Gr.alloc (Gr.alloc (Gr.refl w) _) _) hgr
  have hz : w.heap.size + 1 < w1.heap.size := by have := Gr.size hgr; simp at this; omega
  have H1' := H1.out.gr hg0
  have H2' := H2.out.gr hg0
  have HC := Lib.hid (equal_any w1 S T _ _ es fs H1' H2' l1 l2)
  have HG := Lib.hid hg0
  clear hgr hg0 H1' H2'
  obtain ⟨a0, a1, a2, a3, a4, a5, a6, a7, a8, a9, a10, a11, a12, a13, a14⟩ := cells15 r1
  obtain ⟨b0, b1, b2, b3, b4, b5, b6, b7, b8, b9, b10, b11, b12, b13, b14⟩ := cells15 r2
  have R1 := Lib.hid r1
  have R2 := Lib.hid r2
  have R3 := Lib.hid r3
  have R4 := Lib.hid r4
  clear r1 r2 r3 r4
  simp only [Act.put, List.setIfInBounds_toArray, List.set_cons_succ, List.set_cons_zero]
  go_wp2_with fail
  refine HC.out.mono ?_
  rintro e w2 ⟨rfl, hg2⟩
  clear a0 a1 a2 a3 a4 a5 a6 a7 a8 a9 a10 a11 a12 a13 a14 b0 b1 b2 b3 b4 b5 b6 b7 b8 b9 b10 b11 b12 b13 b14
  obtain ⟨a0, -, -, -, -, -, -, -, a8, a9, a10, a11, a12, a13, a14⟩ := cells15 (later_range hg2 R1.out)
  obtain ⟨b0, -, -, -, -, -, -, -, b8, b9, b10, b11, b12, b13, b14⟩ := cells15 (later_range hg2 R2.out)
  obtain ⟨-, c1', c2', c3, c4, c5, c6, c7, -, -, -, -, -, -, -⟩ := cells15 (later_range hg2 R3.out)
  obtain ⟨-, d1, d2, d3, d4, d5, d6, d7, -, -, -, -, -, -, -⟩ := cells15 (later_range hg2 R4.out)
  go_wp2
  go_ret
  exact ⟨rfl, HG.out.trans hg2⟩

set_option maxRecDepth 100000 in
set_option maxHeartbeats 1000000 in
theorem alike32_no2 (xk : Int) (xf : Int) (xt : Int) (xm : Int) (xc : Int) (xl : Int) (xa : Int) (xo : Int) (xb : Bool) (xe : Value) (xp : Int) (xq : Int) (xr : Int) (xs : Int) (xz : Bool) (yf : Int) (yt : Int) (ym : Int) (yc : Int) (yl : Int) (ya : Int) (yo : Int) (yb : Bool) (ye : Value) (yp : Int) (yq : Int) (yr : Int) (ys : Int) (yz : Bool) (w : World) (S T : Nat → Prop) (es fs : List Ent) (h1 : IsEnts S w xe es) (h2 : IsEnts T w ye fs) (l1 : es.length ≤ 1000000) (l2 : fs.length ≤ 1000000) (he : decide (es = fs) = true) (hd : (xb == yb) = false) :
    Calls Try.prog 32 #[.agg #[.int .u8 xk, .int .i64 xf, .int .i64 xt, .int .i64 xm, .int .i64 xc, .int .i64 xl, .int .i64 xa, .int .i64 xo, .bool xb, xe, .int .i64 xp, .int .i64 xq, .int .i64 xr, .int .i64 xs, .bool xz], .agg #[.int .u8 xk, .int .i64 yf, .int .i64 yt, .int .i64 ym, .int .i64 yc, .int .i64 yl, .int .i64 ya, .int .i64 yo, .bool yb, ye, .int .i64 yp, .int .i64 yq, .int .i64 yr, .int .i64 ys, .bool yz]] w fun e w' => e = .returned (.bool false) ∧ Gr w w' := by
  obtain ⟨a1, c1, rfl, _, _⟩ := h1.len
  obtain ⟨a2, c2, rfl, _, _⟩ := h2.len
  have H1 := Lib.hid h1
  have H2 := Lib.hid h2
  clear h1 h2
  go_enter Try.func32, Try.ntmps32
  go_wp2_with fail
  refine swap_region _ _ _ _ [.int .u8 xk, .int .i64 xf, .int .i64 xt, .int .i64 xm, .int .i64 xc, .int .i64 xl, .int .i64 xa, .int .i64 xo, .bool xb, .slice a1 es.length c1, .int .i64 xp, .int .i64 xq, .int .i64 xr, .int .i64 xs, .bool xz] [.int .u8 xk, .int .i64 yf, .int .i64 yt, .int .i64 ym, .int .i64 yc, .int .i64 yl, .int .i64 ya, .int .i64 yo, .bool yb, .slice a2 fs.length c2, .int .i64 yp, .int .i64 yq, .int .i64 yr, .int .i64 ys, .bool yz] (by simp) rfl rfl ?_ ?_ rfl rfl (by simp [Value.oneCell']) (by simp [Value.oneCell']) ?_
  · exact range_row ((Below.heap_alloc _ _ _ (by simp)).trans (World.alloc_heap_new _ _))
  · have := World.alloc_heap_new (w.alloc (.cells #[.int .u8 xk, .int .i64 xf, .int .i64 xt, .int .i64 xm, .int .i64 xc, .int .i64 xl, .int .i64 xa, .int .i64 xo, .bool xb, .slice a1 es.length c1, .int .i64 xp, .int .i64 xq, .int .i64 xr, .int .i64 xs, .bool xz] 31)) (.cells #[.int .u8 xk, .int .i64 yf, .int .i64 yt, .int .i64 ym, .int .i64 yc, .int .i64 yl, .int .i64 ya, .int .i64 yo, .bool yb, .slice a2 fs.length c2, .int .i64 yp, .int .i64 yq, .int .i64 yr, .int .i64 ys, .bool yz] 31)
    rw [World.size_alloc] at this
    exact range_row this
  intro p q w1 hgr _ _ r1 r2 r3 r4
  have hg0 : Gr w w1 := Gr.trans (Gr.alloc (Gr.alloc (Gr.refl w) _) _) hgr
  have hz : w.heap.size + 1 < w1.heap.size := by have := Gr.size hgr; simp at this; omega
  have H1' := H1.out.gr hg0
  have H2' := H2.out.gr hg0
  have HC := Lib.hid (equal_any w1 S T _ _ es fs H1' H2' l1 l2)
  have HG := Lib.hid hg0
  clear hgr hg0 H1' H2'
  obtain ⟨a0, a1, a2, a3, a4, a5, a6, a7, a8, a9, a10, a11, a12, a13, a14⟩ := cells15 r1
  obtain ⟨b0, b1, b2, b3, b4, b5, b6, b7, b8, b9, b10, b11, b12, b13, b14⟩ := cells15 r2
  have R1 := Lib.hid r1
  have R2 := Lib.hid r2
  have R3 := Lib.hid r3
  have R4 := Lib.hid r4
  clear r1 r2 r3 r4
  simp only [Act.put, List.setIfInBounds_toArray, List.set_cons_succ, List.set_cons_zero]
  go_wp2_with fail
  refine HC.out.mono ?_
  rintro e w2 ⟨rfl, hg2⟩
  clear a0 a1 a2 a3 a4 a5 a6 a7 a8 a9 a10 a11 a12 a13 a14 b0 b1 b2 b3 b4 b5 b6 b7 b8 b9 b10 b11 b12 b13 b14
  obtain ⟨a0, -, -, -, -, -, -, -, a8, a9, a10, a11, a12, a13, a14⟩ := cells15 (later_range hg2 R1.out)
  obtain ⟨b0, -, -, -, -, -, -, -, b8, b9, b10, b11, b12, b13, b14⟩ := cells15 (later_range hg2 R2.out)
  obtain ⟨-, c1', c2', c3, c4, c5, c6, c7, -, -, -, -, -, -, -⟩ := cells15 (later_range hg2 R3.out)
  obtain ⟨-, d1, d2, d3, d4, d5, d6, d7, -, -, -, -, -, -, -⟩ := cells15 (later_range hg2 R4.out)
  go_wp2
  go_ret
  exact ⟨rfl, HG.out.trans hg2⟩

set_option maxRecDepth 100000 in
set_option maxHeartbeats 1000000 in
theorem alike32_no3 (xk : Int) (xf : Int) (xt : Int) (xm : Int) (xc : Int) (xl : Int) (xa : Int) (xo : Int) (xb : Bool) (xe : Value) (xp : Int) (xq : Int) (xr : Int) (xs : Int) (xz : Bool) (yf : Int) (yt : Int) (ym : Int) (yc : Int) (yl : Int) (ya : Int) (yo : Int) (ye : Value) (yp : Int) (yq : Int) (yr : Int) (ys : Int) (yz : Bool) (w : World) (S T : Nat → Prop) (es fs : List Ent) (h1 : IsEnts S w xe es) (h2 : IsEnts T w ye fs) (l1 : es.length ≤ 1000000) (l2 : fs.length ≤ 1000000) (he : decide (es = fs) = true) (hd : (xp == yp && (xq == yq && (xr == yr && (xs == ys && (xz == yz))))) = false) :
    Calls Try.prog 32 #[.agg #[.int .u8 xk, .int .i64 xf, .int .i64 xt, .int .i64 xm, .int .i64 xc, .int .i64 xl, .int .i64 xa, .int .i64 xo, .bool xb, xe, .int .i64 xp, .int .i64 xq, .int .i64 xr, .int .i64 xs, .bool xz], .agg #[.int .u8 xk, .int .i64 yf, .int .i64 yt, .int .i64 ym, .int .i64 yc, .int .i64 yl, .int .i64 ya, .int .i64 yo, .bool xb, ye, .int .i64 yp, .int .i64 yq, .int .i64 yr, .int .i64 ys, .bool yz]] w fun e w' => e = .returned (.bool false) ∧ Gr w w' := by
  obtain ⟨a1, c1, rfl, _, _⟩ := h1.len
  obtain ⟨a2, c2, rfl, _, _⟩ := h2.len
  have H1 := Lib.hid h1
  have H2 := Lib.hid h2
  clear h1 h2
  go_enter Try.func32, Try.ntmps32
  go_wp2_with fail
  refine swap_region _ _ _ _ [.int .u8 xk, .int .i64 xf, .int .i64 xt, .int .i64 xm, .int .i64 xc, .int .i64 xl, .int .i64 xa, .int .i64 xo, .bool xb, .slice a1 es.length c1, .int .i64 xp, .int .i64 xq, .int .i64 xr, .int .i64 xs, .bool xz] [.int .u8 xk, .int .i64 yf, .int .i64 yt, .int .i64 ym, .int .i64 yc, .int .i64 yl, .int .i64 ya, .int .i64 yo, .bool xb, .slice a2 fs.length c2, .int .i64 yp, .int .i64 yq, .int .i64 yr, .int .i64 ys, .bool yz] (by simp) rfl rfl ?_ ?_ rfl rfl (by simp [Value.oneCell']) (by simp [Value.oneCell']) ?_
  · exact range_row ((Below.heap_alloc _ _ _ (by simp)).trans (World.alloc_heap_new _ _))
  · have := World.alloc_heap_new (w.alloc (.cells #[.int .u8 xk, .int .i64 xf, .int .i64 xt, .int .i64 xm, .int .i64 xc, .int .i64 xl, .int .i64 xa, .int .i64 xo, .bool xb, .slice a1 es.length c1, .int .i64 xp, .int .i64 xq, .int .i64 xr, .int .i64 xs, .bool xz] 31)) (.cells #[.int .u8 xk, .int .i64 yf, .int .i64 yt, .int .i64 ym, .int .i64 yc, .int .i64 yl, .int .i64 ya, .int .i64 yo, .bool xb, .slice a2 fs.length c2, .int .i64 yp, .int .i64 yq, .int .i64 yr, .int .i64 ys, .bool yz] 31)
    rw [World.size_alloc] at this
    exact range_row this
  intro p q w1 hgr _ _ r1 r2 r3 r4
  have hg0 : Gr w w1 := Gr.trans (Gr.alloc (Gr.alloc (Gr.refl w) _) _) hgr
  have hz : w.heap.size + 1 < w1.heap.size := by have := Gr.size hgr; simp at this; omega
  have H1' := H1.out.gr hg0
  have H2' := H2.out.gr hg0
  have HC := Lib.hid (equal_any w1 S T _ _ es fs H1' H2' l1 l2)
  have HG := Lib.hid hg0
  clear hgr hg0 H1' H2'
  obtain ⟨a0, a1, a2, a3, a4, a5, a6, a7, a8, a9, a10, a11, a12, a13, a14⟩ := cells15 r1
  obtain ⟨b0, b1, b2, b3, b4, b5, b6, b7, b8, b9, b10, b11, b12, b13, b14⟩ := cells15 r2
  have R1 := Lib.hid r1
  have R2 := Lib.hid r2
  have R3 := Lib.hid r3
  have R4 := Lib.hid r4
  clear r1 r2 r3 r4
  simp only [Act.put, List.setIfInBounds_toArray, List.set_cons_succ, List.set_cons_zero]
  go_wp2_with fail
  refine HC.out.mono ?_
  rintro e w2 ⟨rfl, hg2⟩
  clear a0 a1 a2 a3 a4 a5 a6 a7 a8 a9 a10 a11 a12 a13 a14 b0 b1 b2 b3 b4 b5 b6 b7 b8 b9 b10 b11 b12 b13 b14
  obtain ⟨a0, -, -, -, -, -, -, -, a8, a9, a10, a11, a12, a13, a14⟩ := cells15 (later_range hg2 R1.out)
  obtain ⟨b0, -, -, -, -, -, -, -, b8, b9, b10, b11, b12, b13, b14⟩ := cells15 (later_range hg2 R2.out)
  obtain ⟨-, c1', c2', c3, c4, c5, c6, c7, -, -, -, -, -, -, -⟩ := cells15 (later_range hg2 R3.out)
  obtain ⟨-, d1, d2, d3, d4, d5, d6, d7, -, -, -, -, -, -, -⟩ := cells15 (later_range hg2 R4.out)
  go_wp2
  go_ret
  exact ⟨rfl, HG.out.trans hg2⟩

set_option maxRecDepth 100000 in
set_option maxHeartbeats 1000000 in
theorem alike32_no4 (xk : Int) (xf : Int) (xt : Int) (xm : Int) (xc : Int) (xl : Int) (xa : Int) (xo : Int) (xb : Bool) (xe : Value) (xp : Int) (xq : Int) (xr : Int) (xs : Int) (xz : Bool) (yf : Int) (yt : Int) (ym : Int) (yc : Int) (yl : Int) (ya : Int) (yo : Int) (ye : Value) (w : World) (S T : Nat → Prop) (es fs : List Ent) (h1 : IsEnts S w xe es) (h2 : IsEnts T w ye fs) (l1 : es.length ≤ 1000000) (l2 : fs.length ≤ 1000000) (he : decide (es = fs) = true) (hd : (xf == yf && (xt == yt && (xm == ym && (xc == yc && (xl == yl && (xa == ya && (xo == yo))))))) = false) :
    Calls Try.prog 32 #[.agg #[.int .u8 xk, .int .i64 xf, .int .i64 xt, .int .i64 xm, .int .i64 xc, .int .i64 xl, .int .i64 xa, .int .i64 xo, .bool xb, xe, .int .i64 xp, .int .i64 xq, .int .i64 xr, .int .i64 xs, .bool xz], .agg #[.int .u8 xk, .int .i64 yf, .int .i64 yt, .int .i64 ym, .int .i64 yc, .int .i64 yl, .int .i64 ya, .int .i64 yo, .bool xb, ye, .int .i64 xp, .int .i64 xq, .int .i64 xr, .int .i64 xs, .bool xz]] w fun e w' => e = .returned (.bool false) ∧ Gr w w' := by
  obtain ⟨a1, c1, rfl, _, _⟩ := h1.len
  obtain ⟨a2, c2, rfl, _, _⟩ := h2.len
  have H1 := Lib.hid h1
  have H2 := Lib.hid h2
  clear h1 h2
  go_enter Try.func32, Try.ntmps32
  go_wp2_with fail
  refine swap_region _ _ _ _ [.int .u8 xk, .int .i64 xf, .int .i64 xt, .int .i64 xm, .int .i64 xc, .int .i64 xl, .int .i64 xa, .int .i64 xo, .bool xb, .slice a1 es.length c1, .int .i64 xp, .int .i64 xq, .int .i64 xr, .int .i64 xs, .bool xz] [.int .u8 xk, .int .i64 yf, .int .i64 yt, .int .i64 ym, .int .i64 yc, .int .i64 yl, .int .i64 ya, .int .i64 yo, .bool xb, .slice a2 fs.length c2, .int .i64 xp, .int .i64 xq, .int .i64 xr, .int .i64 xs, .bool xz] (by simp) rfl rfl ?_ ?_ rfl rfl (by simp [Value.oneCell']) (by simp [Value.oneCell']) ?_
  · exact range_row ((Below.heap_alloc _ _ _ (by simp)).trans (World.alloc_heap_new _ _))
  · have := World.alloc_heap_new (w.alloc (.cells #[.int .u8 xk, .int .i64 xf, .int .i64 xt, .int .i64 xm, .int .i64 xc, .int .i64 xl, .int .i64 xa, .int .i64 xo, .bool xb, .slice a1 es.length c1, .int .i64 xp, .int .i64 xq, .int .i64 xr, .int .i64 xs, .bool xz] 31)) (.cells #[.int .u8 xk, .int .i64 yf, .int .i64 yt, .int .i64 ym, .int .i64 yc, .int .i64 yl, .int .i64 ya, .int .i64 yo, .bool xb, .slice a2 fs.length c2, .int .i64 xp, .int .i64 xq, .int .i64 xr, .int .i64 xs, .bool xz] 31)
    rw [World.size_alloc] at this
    exact range_row this
  intro p q w1 hgr _ _ r1 r2 r3 r4
  have hg0 : Gr w w1 := Gr.trans (Gr.alloc (Gr.alloc (Gr.refl w) _) _) hgr
  have hz : w.heap.size + 1 < w1.heap.size := by have := Gr.size hgr; simp at this; omega
  have H1' := H1.out.gr hg0
  have H2' := H2.out.gr hg0
  have HC := Lib.hid (equal_any w1 S T _ _ es fs H1' H2' l1 l2)
  have HG := Lib.hid hg0
  clear hgr hg0 H1' H2'
  obtain ⟨a0, a1, a2, a3, a4, a5, a6, a7, a8, a9, a10, a11, a12, a13, a14⟩ := cells15 r1
  obtain ⟨b0, b1, b2, b3, b4, b5, b6, b7, b8, b9, b10, b11, b12, b13, b14⟩ := cells15 r2
  have R1 := Lib.hid r1
  have R2 := Lib.hid r2
  have R3 := Lib.hid r3
  have R4 := Lib.hid r4
  clear r1 r2 r3 r4
  simp only [Act.put, List.setIfInBounds_toArray, List.set_cons_succ, List.set_cons_zero]
  go_wp2_with fail
  refine HC.out.mono ?_
  rintro e w2 ⟨rfl, hg2⟩
  clear a0 a1 a2 a3 a4 a5 a6 a7 a8 a9 a10 a11 a12 a13 a14 b0 b1 b2 b3 b4 b5 b6 b7 b8 b9 b10 b11 b12 b13 b14
  obtain ⟨a0, -, -, -, -, -, -, -, a8, a9, a10, a11, a12, a13, a14⟩ := cells15 (later_range hg2 R1.out)
  obtain ⟨b0, -, -, -, -, -, -, -, b8, b9, b10, b11, b12, b13, b14⟩ := cells15 (later_range hg2 R2.out)
  obtain ⟨-, c1', c2', c3, c4, c5, c6, c7, -, -, -, -, -, -, -⟩ := cells15 (later_range hg2 R3.out)
  obtain ⟨-, d1, d2, d3, d4, d5, d6, d7, -, -, -, -, -, -, -⟩ := cells15 (later_range hg2 R4.out)
  go_wp2
  go_ret
  exact ⟨rfl, HG.out.trans hg2⟩

set_option maxRecDepth 100000 in
set_option maxHeartbeats 1000000 in
theorem alike32_yes (xk : Int) (xf : Int) (xt : Int) (xm : Int) (xc : Int) (xl : Int) (xa : Int) (xo : Int) (xb : Bool) (xe : Value) (xp : Int) (xq : Int) (xr : Int) (xs : Int) (xz : Bool) (ye : Value) (w : World) (S T : Nat → Prop) (es fs : List Ent) (h1 : IsEnts S w xe es) (h2 : IsEnts T w ye fs) (l1 : es.length ≤ 1000000) (l2 : fs.length ≤ 1000000) (he : decide (es = fs) = true) :
    Calls Try.prog 32 #[.agg #[.int .u8 xk, .int .i64 xf, .int .i64 xt, .int .i64 xm, .int .i64 xc, .int .i64 xl, .int .i64 xa, .int .i64 xo, .bool xb, xe, .int .i64 xp, .int .i64 xq, .int .i64 xr, .int .i64 xs, .bool xz], .agg #[.int .u8 xk, .int .i64 xf, .int .i64 xt, .int .i64 xm, .int .i64 xc, .int .i64 xl, .int .i64 xa, .int .i64 xo, .bool xb, ye, .int .i64 xp, .int .i64 xq, .int .i64 xr, .int .i64 xs, .bool xz]] w fun e w' => e = .returned (.bool true) ∧ Gr w w' := by
  obtain ⟨a1, c1, rfl, _, _⟩ := h1.len
  obtain ⟨a2, c2, rfl, _, _⟩ := h2.len
  have H1 := Lib.hid h1
  have H2 := Lib.hid h2
  clear h1 h2
  go_enter Try.func32, Try.ntmps32
  go_wp2_with fail
  refine swap_region _ _ _ _ [.int .u8 xk, .int .i64 xf, .int .i64 xt, .int .i64 xm, .int .i64 xc, .int .i64 xl, .int .i64 xa, .int .i64 xo, .bool xb, .slice a1 es.length c1, .int .i64 xp, .int .i64 xq, .int .i64 xr, .int .i64 xs, .bool xz] [.int .u8 xk, .int .i64 xf, .int .i64 xt, .int .i64 xm, .int .i64 xc, .int .i64 xl, .int .i64 xa, .int .i64 xo, .bool xb, .slice a2 fs.length c2, .int .i64 xp, .int .i64 xq, .int .i64 xr, .int .i64 xs, .bool xz] (by simp) rfl rfl ?_ ?_ rfl rfl (by simp [Value.oneCell']) (by simp [Value.oneCell']) ?_
  · exact range_row ((Below.heap_alloc _ _ _ (by simp)).trans (World.alloc_heap_new _ _))
  · have := World.alloc_heap_new (w.alloc (.cells #[.int .u8 xk, .int .i64 xf, .int .i64 xt, .int .i64 xm, .int .i64 xc, .int .i64 xl, .int .i64 xa, .int .i64 xo, .bool xb, .slice a1 es.length c1, .int .i64 xp, .int .i64 xq, .int .i64 xr, .int .i64 xs, .bool xz] 31)) (.cells #[.int .u8 xk, .int .i64 xf, .int .i64 xt, .int .i64 xm, .int .i64 xc, .int .i64 xl, .int .i64 xa, .int .i64 xo, .bool xb, .slice a2 fs.length c2, .int .i64 xp, .int .i64 xq, .int .i64 xr, .int .i64 xs, .bool xz] 31)
    rw [World.size_alloc] at this
    exact range_row this
  intro p q w1 hgr _ _ r1 r2 r3 r4
  have hg0 : Gr w w1 := Gr.trans (Gr.alloc (Gr.alloc (Gr.refl w) _) _) hgr
  have hz : w.heap.size + 1 < w1.heap.size := by have := Gr.size hgr; simp at this; omega
  have H1' := H1.out.gr hg0
  have H2' := H2.out.gr hg0
  have HC := Lib.hid (equal_any w1 S T _ _ es fs H1' H2' l1 l2)
  have HG := Lib.hid hg0
  clear hgr hg0 H1' H2'
  obtain ⟨a0, a1, a2, a3, a4, a5, a6, a7, a8, a9, a10, a11, a12, a13, a14⟩ := cells15 r1
  obtain ⟨b0, b1, b2, b3, b4, b5, b6, b7, b8, b9, b10, b11, b12, b13, b14⟩ := cells15 r2
  have R1 := Lib.hid r1
  have R2 := Lib.hid r2
  have R3 := Lib.hid r3
  have R4 := Lib.hid r4
  clear r1 r2 r3 r4
  simp only [Act.put, List.setIfInBounds_toArray, List.set_cons_succ, List.set_cons_zero]
  go_wp2_with fail
  refine HC.out.mono ?_
  rintro e w2 ⟨rfl, hg2⟩
  clear a0 a1 a2 a3 a4 a5 a6 a7 a8 a9 a10 a11 a12 a13 a14 b0 b1 b2 b3 b4 b5 b6 b7 b8 b9 b10 b11 b12 b13 b14
  obtain ⟨a0, -, -, -, -, -, -, -, a8, a9, a10, a11, a12, a13, a14⟩ := cells15 (later_range hg2 R1.out)
  obtain ⟨b0, -, -, -, -, -, -, -, b8, b9, b10, b11, b12, b13, b14⟩ := cells15 (later_range hg2 R2.out)
  obtain ⟨-, c1', c2', c3, c4, c5, c6, c7, -, -, -, -, -, -, -⟩ := cells15 (later_range hg2 R3.out)
  obtain ⟨-, d1, d2, d3, d4, d5, d6, d7, -, -, -, -, -, -, -⟩ := cells15 (later_range hg2 R4.out)
  go_wp2
  go_ret
  exact ⟨rfl, HG.out.trans hg2⟩
end Go.Proofs.Ytajghkjghiifjaa
