/- What package event does: two events held against each other, and whether an event may be. -/
import Derived.Test.YtggoigdlggenfaaEvR
import Derived.Laws.StructEq
import Derived.StillTailTactics
namespace Go.Proofs.Ytggoigdlggenfaa
open Go.RowKit Go.Proofs.Ytggoigdlggenfaa.Plain

set_option maxHeartbeats 4000000 in
set_option maxRecDepth 100000 in
theorem run_eql_ev (b0 b1 b2 b3 b4 b5 b6 b7 b8 b9 b10 b11 a0 a1 a2 a3 a4 a5 a6 a7 a8 a9 a10 a11 : Int) (w : World) :
    (binOp .eql 46 (.agg #[.int .i64 b0, .int .i64 b1, .int .i64 b2, .int .i64 b3, .int .i64 b4, .int .i64 b5, .int .i64 b6, .int .i64 b7, .int .i64 b8, .int .i64 b9, .int .i64 b10, .int .i64 b11]) (.agg #[.int .i64 a0, .int .i64 a1, .int .i64 a2, .int .i64 a3, .int .i64 a4, .int .i64 a5, .int .i64 a6, .int .i64 a7, .int .i64 a8, .int .i64 a9, .int .i64 a10, .int .i64 a11])).run Try.prog w = .ok (.bool (decide ([b0, b1, b2, b3, b4, b5, b6, b7, b8, b9, b10, b11] = [a0, a1, a2, a3, a4, a5, a6, a7, a8, a9, a10, a11]))) w := by
  by_cases h0 : b0 = a0
  case neg => simp [binOp, Op.equal, Op.maxDepth, run_equalIn_struct, Op.eqFields, go_sem, h0]
  by_cases h1 : b1 = a1
  case neg => simp [binOp, Op.equal, Op.maxDepth, run_equalIn_struct, Op.eqFields, go_sem, h1, h0]
  by_cases h2 : b2 = a2
  case neg => simp [binOp, Op.equal, Op.maxDepth, run_equalIn_struct, Op.eqFields, go_sem, h2, h0, h1]
  by_cases h3 : b3 = a3
  case neg => simp [binOp, Op.equal, Op.maxDepth, run_equalIn_struct, Op.eqFields, go_sem, h3, h0, h1, h2]
  by_cases h4 : b4 = a4
  case neg => simp [binOp, Op.equal, Op.maxDepth, run_equalIn_struct, Op.eqFields, go_sem, h4, h0, h1, h2, h3]
  by_cases h5 : b5 = a5
  case neg => simp [binOp, Op.equal, Op.maxDepth, run_equalIn_struct, Op.eqFields, go_sem, h5, h0, h1, h2, h3, h4]
  by_cases h6 : b6 = a6
  case neg => simp [binOp, Op.equal, Op.maxDepth, run_equalIn_struct, Op.eqFields, go_sem, h6, h0, h1, h2, h3, h4, h5]
  by_cases h7 : b7 = a7
  case neg => simp [binOp, Op.equal, Op.maxDepth, run_equalIn_struct, Op.eqFields, go_sem, h7, h0, h1, h2, h3, h4, h5, h6]
  by_cases h8 : b8 = a8
  case neg => simp [binOp, Op.equal, Op.maxDepth, run_equalIn_struct, Op.eqFields, go_sem, h8, h0, h1, h2, h3, h4, h5, h6, h7]
  by_cases h9 : b9 = a9
  case neg => simp [binOp, Op.equal, Op.maxDepth, run_equalIn_struct, Op.eqFields, go_sem, h9, h0, h1, h2, h3, h4, h5, h6, h7, h8]
  by_cases h10 : b10 = a10
  case neg => simp [binOp, Op.equal, Op.maxDepth, run_equalIn_struct, Op.eqFields, go_sem, h10, h0, h1, h2, h3, h4, h5, h6, h7, h8, h9]
  by_cases h11 : b11 = a11
  case neg => simp [binOp, Op.equal, Op.maxDepth, run_equalIn_struct, Op.eqFields, go_sem, h11, h0, h1, h2, h3, h4, h5, h6, h7, h8, h9, h10]
  simp [binOp, Op.equal, Op.maxDepth, run_equalIn_struct, Op.eqFields, go_sem, h0, h1, h2, h3, h4, h5, h6, h7, h8, h9, h10, h11]
end Go.Proofs.Ytggoigdlggenfaa
