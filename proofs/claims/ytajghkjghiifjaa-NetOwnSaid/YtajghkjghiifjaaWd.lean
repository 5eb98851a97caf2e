/-
  Walks: messages compared, as the document has it.
-/
import Derived.Test.YtajghkjghiifjaaWb
namespace Go.Proofs.Ytajghkjghiifjaa
open Go Go.RowKit
attribute [local go_sem ↓] neq53 eql53 eql29 eql69

set_option maxRecDepth 100000 in
set_option maxHeartbeats 1000000 in
theorem alike20_no0 (xk : Int) (xf : Int) (xt : Int) (xm : Int) (xc : Int) (xl : Int) (xa : Int) (xo : Int) (xb : Bool) (xe : Value) (xp : Int) (xq : Int) (xr : Int) (xs : Int) (xz : Bool) (yk : Int) (yf : Int) (yt : Int) (ym : Int) (yc : Int) (yl : Int) (ya : Int) (yo : Int) (yb : Bool) (ye : Value) (yp : Int) (yq : Int) (yr : Int) (ys : Int) (yz : Bool) (w : World) (hd : (xk == yk) = false) :
    Calls Try.prog 15 #[.agg #[.int .u8 xk, .int .i64 xf, .int .i64 xt, .int .i64 xm, .int .i64 xc, .int .i64 xl, .int .i64 xa, .int .i64 xo, .bool xb, xe, .int .i64 xp, .int .i64 xq, .int .i64 xr, .int .i64 xs, .bool xz], .agg #[.int .u8 yk, .int .i64 yf, .int .i64 yt, .int .i64 ym, .int .i64 yc, .int .i64 yl, .int .i64 ya, .int .i64 yo, .bool yb, ye, .int .i64 yp, .int .i64 yq, .int .i64 yr, .int .i64 ys, .bool yz]] w fun e w' => e = .returned (.bool false) ∧ Gr w w' := by
  go_enter Try.func15, Try.ntmps15
  go_wp2
  go_ret
  exact ⟨rfl, Gr.alloc (Gr.alloc (Gr.refl w) _) _⟩

set_option maxRecDepth 100000 in
set_option maxHeartbeats 1000000 in
theorem alike20_no1 (xk : Int) (xf : Int) (xt : Int) (xm : Int) (xc : Int) (xl : Int) (xa : Int) (xo : Int) (xb : Bool) (xe : Value) (xp : Int) (xq : Int) (xr : Int) (xs : Int) (xz : Bool) (yf : Int) (yt : Int) (ym : Int) (yc : Int) (yl : Int) (ya : Int) (yo : Int) (yb : Bool) (ye : Value) (yp : Int) (yq : Int) (yr : Int) (ys : Int) (yz : Bool) (w : World) (hd : (xf == yf) = false) :
    Calls Try.prog 15 #[.agg #[.int .u8 xk, .int .i64 xf, .int .i64 xt, .int .i64 xm, .int .i64 xc, .int .i64 xl, .int .i64 xa, .int .i64 xo, .bool xb, xe, .int .i64 xp, .int .i64 xq, .int .i64 xr, .int .i64 xs, .bool xz], .agg #[.int .u8 xk, .int .i64 yf, .int .i64 yt, .int .i64 ym, .int .i64 yc, .int .i64 yl, .int .i64 ya, .int .i64 yo, .bool yb, ye, .int .i64 yp, .int .i64 yq, .int .i64 yr, .int .i64 ys, .bool yz]] w fun e w' => e = .returned (.bool false) ∧ Gr w w' := by
  go_enter Try.func15, Try.ntmps15
  go_wp2
  go_ret
  exact ⟨rfl, Gr.alloc (Gr.alloc (Gr.refl w) _) _⟩

set_option maxRecDepth 100000 in
set_option maxHeartbeats 1000000 in
theorem alike20_no2 (xk : Int) (xf : Int) (xt : Int) (xm : Int) (xc : Int) (xl : Int) (xa : Int) (xo : Int) (xb : Bool) (xe : Value) (xp : Int) (xq : Int) (xr : Int) (xs : Int) (xz : Bool) (yt : Int) (ym : Int) (yc : Int) (yl : Int) (ya : Int) (yo : Int) (yb : Bool) (ye : Value) (yp : Int) (yq : Int) (yr : Int) (ys : Int) (yz : Bool) (w : World) (hd : (xt == yt) = false) :
    Calls Try.prog 15 #[.agg #[.int .u8 xk, .int .i64 xf, .int .i64 xt, .int .i64 xm, .int .i64 xc, .int .i64 xl, .int .i64 xa, .int .i64 xo, .bool xb, xe, .int .i64 xp, .int .i64 xq, .int .i64 xr, .int .i64 xs, .bool xz], .agg #[.int .u8 xk, .int .i64 xf, .int .i64 yt, .int .i64 ym, .int .i64 yc, .int .i64 yl, .int .i64 ya, .int .i64 yo, .bool yb, ye, .int .i64 yp, .int .i64 yq, .int .i64 yr, .int .i64 ys, .bool yz]] w fun e w' => e = .returned (.bool false) ∧ Gr w w' := by
  go_enter Try.func15, Try.ntmps15
  go_wp2
  go_ret
  exact ⟨rfl, Gr.alloc (Gr.alloc (Gr.refl w) _) _⟩

set_option maxRecDepth 100000 in
set_option maxHeartbeats 1000000 in
theorem alike20_no3 (xk : Int) (xf : Int) (xt : Int) (xm : Int) (xc : Int) (xl : Int) (xa : Int) (xo : Int) (xb : Bool) (xe : Value) (xp : Int) (xq : Int) (xr : Int) (xs : Int) (xz : Bool) (ym : Int) (yc : Int) (yl : Int) (ya : Int) (yo : Int) (yb : Bool) (ye : Value) (yp : Int) (yq : Int) (yr : Int) (ys : Int) (yz : Bool) (w : World) (hd : (xm == ym) = false) :
    Calls Try.prog 15 #[.agg #[.int .u8 xk, .int .i64 xf, .int .i64 xt, .int .i64 xm, .int .i64 xc, .int .i64 xl, .int .i64 xa, .int .i64 xo, .bool xb, xe, .int .i64 xp, .int .i64 xq, .int .i64 xr, .int .i64 xs, .bool xz], .agg #[.int .u8 xk, .int .i64 xf, .int .i64 xt, .int .i64 ym, .int .i64 yc, .int .i64 yl, .int .i64 ya, .int .i64 yo, .bool yb, ye, .int .i64 yp, .int .i64 yq, .int .i64 yr, .int .i64 ys, .bool yz]] w fun e w' => e = .returned (.bool false) ∧ Gr w w' := by
  go_enter Try.func15, Try.ntmps15
  go_wp2
  go_ret
  exact ⟨rfl, Gr.alloc (Gr.alloc (Gr.refl w) _) _⟩

set_option maxRecDepth 100000 in
set_option maxHeartbeats 1000000 in
theorem alike20_no4 (xk : Int) (xf : Int) (xt : Int) (xm : Int) (xc : Int) (xl : Int) (xa : Int) (xo : Int) (xb : Bool) (xe : Value) (xp : Int) (xq : Int) (xr : Int) (xs : Int) (xz : Bool) (yc : Int) (yl : Int) (ya : Int) (yo : Int) (yb : Bool) (ye : Value) (yp : Int) (yq : Int) (yr : Int) (ys : Int) (yz : Bool) (w : World) (hd : (xc == yc) = false) :
    Calls Try.prog 15 #[.agg #[.int .u8 xk, .int .i64 xf, .int .i64 xt, .int .i64 xm, .int .i64 xc, .int .i64 xl, .int .i64 xa, .int .i64 xo, .bool xb, xe, .int .i64 xp, .int .i64 xq, .int .i64 xr, .int .i64 xs, .bool xz], .agg #[.int .u8 xk, .int .i64 xf, .int .i64 xt, .int .i64 xm, .int .i64 yc, .int .i64 yl, .int .i64 ya, .int .i64 yo, .bool yb, ye, .int .i64 yp, .int .i64 yq, .int .i64 yr, .int .i64 ys, .bool yz]] w fun e w' => e = .returned (.bool false) ∧ Gr w w' := by
  go_enter Try.func15, Try.ntmps15
  go_wp2
  go_ret
  exact ⟨rfl, Gr.alloc (Gr.alloc (Gr.refl w) _) _⟩

set_option maxRecDepth 100000 in
set_option maxHeartbeats 1000000 in
theorem alike20_no5 (xk : Int) (xf : Int) (xt : Int) (xm : Int) (xc : Int) (xl : Int) (xa : Int) (xo : Int) (xb : Bool) (xe : Value) (xp : Int) (xq : Int) (xr : Int) (xs : Int) (xz : Bool) (yl : Int) (ya : Int) (yo : Int) (yb : Bool) (ye : Value) (yp : Int) (yq : Int) (yr : Int) (ys : Int) (yz : Bool) (w : World) (hd : (xl == yl) = false) :
    Calls Try.prog 15 #[.agg #[.int .u8 xk, .int .i64 xf, .int .i64 xt, .int .i64 xm, .int .i64 xc, .int .i64 xl, .int .i64 xa, .int .i64 xo, .bool xb, xe, .int .i64 xp, .int .i64 xq, .int .i64 xr, .int .i64 xs, .bool xz], .agg #[.int .u8 xk, .int .i64 xf, .int .i64 xt, .int .i64 xm, .int .i64 xc, .int .i64 yl, .int .i64 ya, .int .i64 yo, .bool yb, ye, .int .i64 yp, .int .i64 yq, .int .i64 yr, .int .i64 ys, .bool yz]] w fun e w' => e = .returned (.bool false) ∧ Gr w w' := by
  go_enter Try.func15, Try.ntmps15
  go_wp2
  go_ret
  exact ⟨rfl, Gr.alloc (Gr.alloc (Gr.refl w) _) _⟩

set_option maxRecDepth 100000 in
set_option maxHeartbeats 1000000 in
theorem alike20_no6 (xk : Int) (xf : Int) (xt : Int) (xm : Int) (xc : Int) (xl : Int) (xa : Int) (xo : Int) (xb : Bool) (xe : Value) (xp : Int) (xq : Int) (xr : Int) (xs : Int) (xz : Bool) (ya : Int) (yo : Int) (yb : Bool) (ye : Value) (yp : Int) (yq : Int) (yr : Int) (ys : Int) (yz : Bool) (w : World) (hd : (xa == ya) = false) :
    Calls Try.prog 15 #[.agg #[.int .u8 xk, .int .i64 xf, .int .i64 xt, .int .i64 xm, .int .i64 xc, .int .i64 xl, .int .i64 xa, .int .i64 xo, .bool xb, xe, .int .i64 xp, .int .i64 xq, .int .i64 xr, .int .i64 xs, .bool xz], .agg #[.int .u8 xk, .int .i64 xf, .int .i64 xt, .int .i64 xm, .int .i64 xc, .int .i64 xl, .int .i64 ya, .int .i64 yo, .bool yb, ye, .int .i64 yp, .int .i64 yq, .int .i64 yr, .int .i64 ys, .bool yz]] w fun e w' => e = .returned (.bool false) ∧ Gr w w' := by
  go_enter Try.func15, Try.ntmps15
  go_wp2
  go_ret
  exact ⟨rfl, Gr.alloc (Gr.alloc (Gr.refl w) _) _⟩

set_option maxRecDepth 100000 in
set_option maxHeartbeats 1000000 in
theorem alike20_no7 (xk : Int) (xf : Int) (xt : Int) (xm : Int) (xc : Int) (xl : Int) (xa : Int) (xo : Int) (xb : Bool) (xe : Value) (xp : Int) (xq : Int) (xr : Int) (xs : Int) (xz : Bool) (yo : Int) (yb : Bool) (ye : Value) (yp : Int) (yq : Int) (yr : Int) (ys : Int) (yz : Bool) (w : World) (hd : (xo == yo) = false) :
    Calls Try.prog 15 #[.agg #[.int .u8 xk, .int .i64 xf, .int .i64 xt, .int .i64 xm, .int .i64 xc, .int .i64 xl, .int .i64 xa, .int .i64 xo, .bool xb, xe, .int .i64 xp, .int .i64 xq, .int .i64 xr, .int .i64 xs, .bool xz], .agg #[.int .u8 xk, .int .i64 xf, .int .i64 xt, .int .i64 xm, .int .i64 xc, .int .i64 xl, .int .i64 xa, .int .i64 yo, .bool yb, ye, .int .i64 yp, .int .i64 yq, .int .i64 yr, .int .i64 ys, .bool yz]] w fun e w' => e = .returned (.bool false) ∧ Gr w w' := by
  go_enter Try.func15, Try.ntmps15
  go_wp2
  go_ret
  exact ⟨rfl, Gr.alloc (Gr.alloc (Gr.refl w) _) _⟩

set_option maxRecDepth 100000 in
set_option maxHeartbeats 1000000 in
theorem alike20_no8 (xk : Int) (xf : Int) (xt : Int) (xm : Int) (xc : Int) (xl : Int) (xa : Int) (xo : Int) (xb : Bool) (xe : Value) (xp : Int) (xq : Int) (xr : Int) (xs : Int) (xz : Bool) (yb : Bool) (ye : Value) (yp : Int) (yq : Int) (yr : Int) (ys : Int) (yz : Bool) (w : World) (hd : (xb == yb) = false) :
    Calls Try.prog 15 #[.agg #[.int .u8 xk, .int .i64 xf, .int .i64 xt, .int .i64 xm, .int .i64 xc, .int .i64 xl, .int .i64 xa, .int .i64 xo, .bool xb, xe, .int .i64 xp, .int .i64 xq, .int .i64 xr, .int .i64 xs, .bool xz], .agg #[.int .u8 xk, .int .i64 xf, .int .i64 xt, .int .i64 xm, .int .i64 xc, .int .i64 xl, .int .i64 xa, .int .i64 xo, .bool yb, ye, .int .i64 yp, .int .i64 yq, .int .i64 yr, .int .i64 ys, .bool yz]] w fun e w' => e = .returned (.bool false) ∧ Gr w w' := by
  go_enter Try.func15, Try.ntmps15
  go_wp2
  go_ret
  exact ⟨rfl, Gr.alloc (Gr.alloc (Gr.refl w) _) _⟩

set_option maxRecDepth 100000 in
set_option maxHeartbeats 1000000 in
theorem alike20_no9 (xk : Int) (xf : Int) (xt : Int) (xm : Int) (xc : Int) (xl : Int) (xa : Int) (xo : Int) (xb : Bool) (xe : Value) (xp : Int) (xq : Int) (xr : Int) (xs : Int) (xz : Bool) (ye : Value) (yp : Int) (yq : Int) (yr : Int) (ys : Int) (yz : Bool) (w : World) (hd : (xp == yp && (xq == yq && (xr == yr && (xs == ys && (xz == yz))))) = false) :
    Calls Try.prog 15 #[.agg #[.int .u8 xk, .int .i64 xf, .int .i64 xt, .int .i64 xm, .int .i64 xc, .int .i64 xl, .int .i64 xa, .int .i64 xo, .bool xb, xe, .int .i64 xp, .int .i64 xq, .int .i64 xr, .int .i64 xs, .bool xz], .agg #[.int .u8 xk, .int .i64 xf, .int .i64 xt, .int .i64 xm, .int .i64 xc, .int .i64 xl, .int .i64 xa, .int .i64 xo, .bool xb, ye, .int .i64 yp, .int .i64 yq, .int .i64 yr, .int .i64 ys, .bool yz]] w fun e w' => e = .returned (.bool false) ∧ Gr w w' := by
  go_enter Try.func15, Try.ntmps15
  go_wp2
  go_ret
  exact ⟨rfl, Gr.alloc (Gr.alloc (Gr.refl w) _) _⟩

set_option maxRecDepth 100000 in
set_option maxHeartbeats 1000000 in
theorem alike20_yes (xk : Int) (xf : Int) (xt : Int) (xm : Int) (xc : Int) (xl : Int) (xa : Int) (xo : Int) (xb : Bool) (xe : Value) (xp : Int) (xq : Int) (xr : Int) (xs : Int) (xz : Bool) (ye : Value) (w : World) (S T : Nat → Prop) (es fs : List Ent) (h1 : IsEnts S w xe es) (h2 : IsEnts T w ye fs) (l1 : es.length ≤ 1000000) (l2 : fs.length ≤ 1000000) :
    Calls Try.prog 15 #[.agg #[.int .u8 xk, .int .i64 xf, .int .i64 xt, .int .i64 xm, .int .i64 xc, .int .i64 xl, .int .i64 xa, .int .i64 xo, .bool xb, xe, .int .i64 xp, .int .i64 xq, .int .i64 xr, .int .i64 xs, .bool xz], .agg #[.int .u8 xk, .int .i64 xf, .int .i64 xt, .int .i64 xm, .int .i64 xc, .int .i64 xl, .int .i64 xa, .int .i64 xo, .bool xb, ye, .int .i64 xp, .int .i64 xq, .int .i64 xr, .int .i64 xs, .bool xz]] w fun e w' => e = .returned (.bool (decide (es = fs))) ∧ Gr w w' := by
  obtain ⟨a1, c1, rfl, _, _⟩ := h1.len
  obtain ⟨a2, c2, rfl, _, _⟩ := h2.len
  have H1 := Lib.hid h1
  have H2 := Lib.hid h2
  clear h1 h2
  go_enter Try.func15, Try.ntmps15
  go_wp2_with (go_at_call 28; refine (same06_any _ S T _ _ es fs ?g1 ?g2 l1 l2).mono ?_)
  case g1 => exact H1.out.gr (Gr.alloc (Gr.alloc (Gr.refl w) _) _)
  case g2 => exact H2.out.gr (Gr.alloc (Gr.alloc (Gr.refl w) _) _)
  rintro e w' ⟨rfl, hgr⟩
  go_wp2
  go_ret
  exact ⟨rfl, Gr.trans (Gr.alloc (Gr.alloc (Gr.refl w) _) _) hgr⟩
end Go.Proofs.Ytajghkjghiifjaa
