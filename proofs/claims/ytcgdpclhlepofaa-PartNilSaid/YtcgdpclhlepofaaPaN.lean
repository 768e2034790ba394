/- Functions held against nil. -/
import Derived.Test.YtcgdpclhlepofaaPaB
namespace Go.Proofs.Ytcgdpclhlepofaa
open Go.RowKit
@[go_sem] theorem eqfnG (w : World) (f : Fn) (a b : Array Value) : (binOp BinOp.eql 38 (.func f a b) .nilFunc).run Try.prog w = .ok (.bool false) w := by rfl
@[go_sem] theorem eqfnG0 (w : World) : (binOp BinOp.eql 38 .nilFunc .nilFunc).run Try.prog w = .ok (.bool true) w := by rfl
@[go_sem] theorem eqfnP (w : World) (f : Fn) (a b : Array Value) : (binOp BinOp.eql 36 (.func f a b) .nilFunc).run Try.prog w = .ok (.bool false) w := by rfl
@[go_sem] theorem eqfnP0 (w : World) : (binOp BinOp.eql 36 .nilFunc .nilFunc).run Try.prog w = .ok (.bool true) w := by rfl
@[go_sem] theorem eqfnT (w : World) (f : Fn) (a b : Array Value) : (binOp BinOp.eql 37 (.func f a b) .nilFunc).run Try.prog w = .ok (.bool false) w := by rfl
@[go_sem] theorem eqfnT0 (w : World) : (binOp BinOp.eql 37 .nilFunc .nilFunc).run Try.prog w = .ok (.bool true) w := by rfl
end Go.Proofs.Ytcgdpclhlepofaa
