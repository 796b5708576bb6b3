/-
  Contracts: FacingOf of both, its result written out.
-/
import Derived.Test.YtbefioljddhhpaaVma
import Derived.Test.YtbefioljddhhpaaHbx
namespace Go.Proofs.Ytbefioljddhhpaa
set_option maxRecDepth 10000
open Go.RowKit
theorem impl_FacingOf_v {f b c l d : Value} {m : Mac} {nb na : Int} {B : Nat} {w : World} (h : SlM w B f b c l d m) (hB : B ≤ w.heap.size) :
    Calls Try.prog 27 #[.agg #[.int .i64 m.wd, .int .i64 m.rk, f, b, c, l, d], .agg #[.int .i64 nb, .int .i64 na]] w fun e w' => e = .returned (.tuple #[.agg #[.int .i64 (faceB m nb na), .int .i64 (faceA m nb na)], .bool (faceOk m nb na)]) ∧ Below w.heap.size w w' := impl_FacingOf_any h hB
theorem spec_FacingOf_v {f b c l d : Value} {m : Mac} {nb na : Int} {B : Nat} {w : World} (h : SlM w B f b c l d m) (hB : B ≤ w.heap.size) (hs : smallM m) :
    Calls Try.prog 26 #[.agg #[.int .i64 m.wd, .int .i64 m.rk, f, b, c, l, d], .agg #[.int .i64 nb, .int .i64 na]] w fun e w' => e = .returned (.tuple #[.agg #[.int .i64 (faceB m nb na), .int .i64 (faceA m nb na)], .bool (faceOk m nb na)]) ∧ Below w.heap.size w w' := spec_FacingOf_any h hB hs
end Go.Proofs.Ytbefioljddhhpaa
