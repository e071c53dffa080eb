/-
  Five flags compared.
-/
import Derived.Test.YtelangbockagnaaMetaSW
namespace Go.Proofs.Ytelangbockagnaa
open Go.RowKit
theorem were_eq (a b c d e : Bool) (w : World) : (Op.equalIn 10000 47 (.agg #[.bool a, .bool b, .bool c, .bool d, .bool e]) (.agg #[.bool true, .bool true, .bool true, .bool true, .bool true])).run Try.prog w = .ok (a && b && c && d && e) w := by
  cases a <;> cases b <;> cases c <;> cases d <;> cases e <;> kernel_rfl
end Go.Proofs.Ytelangbockagnaa
