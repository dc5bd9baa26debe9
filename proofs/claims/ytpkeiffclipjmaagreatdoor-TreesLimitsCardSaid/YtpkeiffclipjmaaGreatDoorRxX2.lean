/-
  TreesLimits over what raw items read as.
-/
import Derived.Test.YtpkeiffclipjmaaGreatDoorRxJa
import Derived.Test.YtpkeiffclipjmaaGreatDoorRxX1
namespace Go.Proofs.YtpkeiffclipjmaaGreatDoor.Rx
open Go
theorem limits_law_den (raw : List Raw) (l : Lim) (m0 m1 m2 : Int) (hr : ∀ x ∈ raw, x.well) (fr : ∀ x ∈ raw, x.fit) (hl : inR l.depth ∧ inR l.size ∧ inR l.count) (hm : inR m0 ∧ inR m1 ∧ inR m2) :
    Den Sy 6 [sR raw, lA l, .agg [.int .i64 m0, .int .i64 m1, .int .i64 m2]] = some (.bool true) := limits_den raw (raws_ok hr fr) l m0 m1 m2 hl hm
end Go.Proofs.YtpkeiffclipjmaaGreatDoor.Rx
