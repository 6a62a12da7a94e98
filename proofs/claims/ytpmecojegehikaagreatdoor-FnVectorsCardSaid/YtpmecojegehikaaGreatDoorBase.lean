/- Small laws that the walks of this claim use: floats stored into cells, and the run of a float operation whose outcome is known. -/
import Derived.WalkKit
import Derived.WalkSpells
import Derived.WalkLawsBesides
import Derived.Lib.Hide
import Derived.BigQuiet
import Derived.Deep.QuietTactic
import Derived.Deep.RegionHeld3
import Derived.Deep.DeepCutAuto
namespace Go
section
variable (P : Program) (w : World) (a : Addr) (m : Mode)
@[go_sem] theorem run_store_float (k : FloatKind) (b : Nat) : (store a (.float k b) m).run P w = stored P w a (.float k b) m := run_store P w a _ m rfl
end
end Go
namespace Go.Proofs.YtpmecojegehikaaGreatDoor
open Go.RowKit

theorem opf {P : Program} (op : BinOp) (k : FloatKind) (x y r : Nat) (h : floatBits op k x y = some r) :
    ∀ t w, (binOp op t (.float k x) (.float k y)).run P w = .ok (.float k r) w := fun t w => run_float_arith w op t k x y r h

end Go.Proofs.YtpmecojegehikaaGreatDoor
