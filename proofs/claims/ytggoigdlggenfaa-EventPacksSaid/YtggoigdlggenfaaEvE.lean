/- What package event does: two plans held against each other. -/
import Derived.Test.YtggoigdlggenfaaEvP
namespace Go.Proofs.Ytggoigdlggenfaa
open Go.RowKit Go.Proofs.Ytggoigdlggenfaa.Plain

set_option maxHeartbeats 4000000 in
set_option maxRecDepth 100000 in
theorem run_eql_plan (b0 b1 b2 b3 b4 b5 a0 a1 a2 a3 a4 a5 : Int) (w : World) :
    (binOp .eql 48 (.agg #[.int .i64 b0, .int .i64 b1, .int .i64 b2, .int .i64 b3, .int .i64 b4, .int .i64 b5]) (.agg #[.int .i64 a0, .int .i64 a1, .int .i64 a2, .int .i64 a3, .int .i64 a4, .int .i64 a5])).run Try.prog w = .ok (.bool (decide ([b0, b1, b2, b3, b4, b5] = [a0, a1, a2, a3, a4, a5]))) w := by
  by_cases h0 : b0 = a0
  case neg => simp [binOp, Op.equal, Op.maxDepth, run_equalIn_struct, Op.eqFields, go_sem, h0]
  by_cases h1 : b1 = a1
  case neg => simp [binOp, Op.equal, Op.maxDepth, run_equalIn_struct, Op.eqFields, go_sem, h1, h0]
  by_cases h2 : b2 = a2
  case neg => simp [binOp, Op.equal, Op.maxDepth, run_equalIn_struct, Op.eqFields, go_sem, h2, h0, h1]
  by_cases h3 : b3 = a3
  case neg => simp [binOp, Op.equal, Op.maxDepth, run_equalIn_struct, Op.eqFields, go_sem, h3, h0, h1, h2]
  by_cases h4 : b4 = a4
  case neg => simp [binOp, Op.equal, Op.maxDepth, run_equalIn_struct, Op.eqFields, go_sem, h4, h0, h1, h2, h3]
  by_cases h5 : b5 = a5
  case neg => simp [binOp, Op.equal, Op.maxDepth, run_equalIn_struct, Op.eqFields, go_sem, h5, h0, h1, h2, h3, h4]
  simp [binOp, Op.equal, Op.maxDepth, run_equalIn_struct, Op.eqFields, go_sem, h0, h1, h2, h3, h4, h5]
end Go.Proofs.Ytggoigdlggenfaa
