/- cats: the law CatsBounds: its begun, by the machine. -/
import Derived.Test.YtdcnaddjmikmlaaXM1
import Derived.Test.YtdcnaddjmikmlaaTsXJ
import Derived.KernelRfl
namespace Go.Ts
theorem run_pure0 {P : Program} {M : Mach} (hM : MachOK P M) {n f : Nat} (h : (match callX M n f [] hs0 with | some (.bool true, _) => true | _ => false) = true) : Pure P f [] (.bool true) := by
  revert h
  cases hx : callX M n f [] hs0 with
  | none => intro h; cases h
  | some q =>
    obtain ⟨t, h'⟩ := q
    cases t with
    | bool b => cases b with
      | true =>
        intro _
        refine cold_pure (nx := h'.nx) fun σ c => (callX_ok hM n f [] hs0 _ h' hx σ c).mono ?_
        rintro u σ' ⟨rfl, k⟩
        exact ⟨rfl, k.none⟩
      | false => intro h; cases h
    | _ => intro h; cases h
end Go.Ts
namespace Go.Proofs.Ytdcnaddjmikmlaa
open Go.Ts
def lvC (f _t : Nat) : Bool := Nat.beq f 15
theorem kn0_ok : ∀ g f, noKnown g = some f → ∀ ts h t h', f ts h = some (t, h') → ∀ σ, HCov σ h → ACalls Try.prog g ts σ (fun u σ' => u = t ∧ HCov σ' h') := fun g f h => by cases h
set_option maxRecDepth 100000 in
theorem c_begun : Ts.Pure Try.prog 4 [] (.bool true) := run_pure0 (M := mach lvC noKnown) (mach_ok lvC kn0_ok) (n := 20000) (by kernel_rfl)
end Go.Proofs.Ytdcnaddjmikmlaa
