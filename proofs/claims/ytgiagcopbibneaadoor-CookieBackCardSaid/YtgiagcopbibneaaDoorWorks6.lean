/- The anchor of the laws of layer 6: the sum that everybody knows. -/
import Derived.Test.YtgiagcopbibneaaDoorStSum
import Derived.Test.YtgiagcopbibneaaDoorLaws3
import Derived.Test.YtgiagcopbibneaaDoorShaEval
namespace Go.Proofs.YtgiagcopbibneaaDoor
open Go.RowKit
open Sha (W)

theorem eq32 (l : List UInt8) (h : l.length = 32) (w : World) : (binOp .eql 106 (.agg (bv l).toArray) (.agg (bv l).toArray)).run Tryd.prog w = .ok (.bool true) w :=
  run_eql_arr 106 5 32 .u8 Tryd.underlying106 Tryd.underlying5 (by kernel_rfl) _ (bv_ints l 32 h) w
theorem ne32 (l : List UInt8) (h : l.length = 32) (w : World) : (binOp .neq 106 (.agg (bv l).toArray) (.agg (bv l).toArray)).run Tryd.prog w = .ok (.bool false) w :=
  run_neq_arr 106 5 32 .u8 Tryd.underlying106 Tryd.underlying5 (by kernel_rfl) _ (bv_ints l 32 h) w
end Go.Proofs.YtgiagcopbibneaaDoor
