/-
  Walks: comparing structs.
-/
import Derived.Test.YtajghkjghiifjaaWa
import Derived.Laws.StructEq
import Derived.ChangeKeysEq
namespace Go.Proofs.Ytajghkjghiifjaa
open Go Go.RowKit
theorem equal53 (w : World) (a b c x y z : Int) :
   (Op.equal 53 (.agg #[.int .i64 a, .int .i64 b, .int .i64 c]) (.agg #[.int .i64 x, .int .i64 y, .int .i64 z])).run Try.prog w = .ok (a == x && (b == y && c == z)) w := by
  unfold Op.equal Op.maxDepth
  rw [run_equalIn_struct w 9999 53 _ _ (by kernel_rfl) (by kernel_rfl)]
  simp [go_sem]
  (repeat' split) <;> simp_all
theorem equal29 (w : World) (a b c d x y z u : Int) (p q : Bool) :
   (Op.equal 29 (.agg #[.int .i64 a, .int .i64 b, .int .i64 c, .int .i64 d, .bool p]) (.agg #[.int .i64 x, .int .i64 y, .int .i64 z, .int .i64 u, .bool q])).run Try.prog w = .ok (a == x && (b == y && (c == z && (d == u && p == q)))) w := by
  unfold Op.equal Op.maxDepth
  rw [run_equalIn_struct w 9999 29 _ _ (by kernel_rfl) (by kernel_rfl)]
  simp [go_sem]
  (repeat' split) <;> simp_all
theorem equal69 (w : World) (a b c d e f g a' b' c' d' e' f' g' : Int) :
   (Op.equal 69 (.agg #[.int .i64 a, .int .i64 b, .int .i64 c, .int .i64 d, .int .i64 e, .int .i64 f, .int .i64 g]) (.agg #[.int .i64 a', .int .i64 b', .int .i64 c', .int .i64 d', .int .i64 e', .int .i64 f', .int .i64 g'])).run Try.prog w
     = .ok (a == a' && (b == b' && (c == c' && (d == d' && (e == e' && (f == f' && g == g')))))) w := by
  obtain ⟨i0, hi⟩ : ∃ i, Try.prog.info? 3 = some i := ⟨_, rfl⟩
  unfold Op.equal Op.maxDepth
  rw [run_equalIn_array w 9999 _ _ Try.underlying69 hi]
  have hc : Try.prog.cellsOf 3 = 1 := by kernel_rfl
  rw [hc]
  simp [Op.eqItems, go_sem, List.range_succ]
  (repeat' split) <;> simp_all
theorem eql53 (w : World) (a b c x y z : Int) : (binOp .eql 53 (.agg #[.int .i64 a, .int .i64 b, .int .i64 c]) (.agg #[.int .i64 x, .int .i64 y, .int .i64 z])).run Try.prog w = .ok (.bool (a == x && (b == y && c == z))) w := by
  simp only [binOp]; simp [equal53 w a b c x y z]
theorem neq53 (w : World) (a b c x y z : Int) : (binOp .neq 53 (.agg #[.int .i64 a, .int .i64 b, .int .i64 c]) (.agg #[.int .i64 x, .int .i64 y, .int .i64 z])).run Try.prog w = .ok (.bool (!(a == x && (b == y && c == z)))) w := by
  simp only [binOp]; simp [equal53 w a b c x y z]
theorem eql29 (w : World) (a b c d x y z u : Int) (p q : Bool) : (binOp .eql 29 (.agg #[.int .i64 a, .int .i64 b, .int .i64 c, .int .i64 d, .bool p]) (.agg #[.int .i64 x, .int .i64 y, .int .i64 z, .int .i64 u, .bool q])).run Try.prog w = .ok (.bool (a == x && (b == y && (c == z && (d == u && p == q))))) w := by
  simp only [binOp]; simp [equal29 w a b c d x y z u p q]
theorem eql69 (w : World) (a b c d e f g a' b' c' d' e' f' g' : Int) :
   (binOp .eql 69 (.agg #[.int .i64 a, .int .i64 b, .int .i64 c, .int .i64 d, .int .i64 e, .int .i64 f, .int .i64 g]) (.agg #[.int .i64 a', .int .i64 b', .int .i64 c', .int .i64 d', .int .i64 e', .int .i64 f', .int .i64 g'])).run Try.prog w
     = .ok (.bool (a == a' && (b == b' && (c == c' && (d == d' && (e == e' && (f == f' && g == g'))))))) w := by
  simp only [binOp]; simp [equal69]
end Go.Proofs.Ytajghkjghiifjaa
