/- The machine, bytes live. -/
import Derived.Test.YtnoeanngdhaobaaXM2
namespace Go.Proofs.Ytnoeanngdhaobaa
open Go.Ts
def lv3 (f t : Nat) : Bool := (Nat.beq t 27 && !Nat.beq f 7 && !Nat.beq f 8) || Nat.beq f 66
theorem m3_ok : MachOK Try.prog (mach lv3 kn2) := mach_ok lv3 kn2_ok
end Go.Proofs.Ytnoeanngdhaobaa
