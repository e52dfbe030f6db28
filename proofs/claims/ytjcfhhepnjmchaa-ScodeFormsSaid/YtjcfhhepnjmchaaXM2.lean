/- The machine, with what is known of some calls. -/
import Derived.Test.YtjcfhhepnjmchaaXK1
namespace Go.Proofs.Ytjcfhhepnjmchaa
open Go.Ts
def kn2 (g : FuncId) : Option (List T → HS → Option (T × HS)) := cond (Nat.beq g 55) (some growK) (cond (Nat.beq g 46) (some cloneK) none)
theorem kn2_ok : ∀ g f, kn2 g = some f → ∀ ts h t h', f ts h = some (t, h') → ∀ σ, HCov σ h → ACalls Try.prog g ts σ (fun u σ' => u = t ∧ HCov σ' h') := by
  intro g f hg
  unfold kn2 at hg
  by_cases e : g = 55
  · subst e; simp only [Nat.beq_refl, cond_true] at hg; injection hg with hg; subst hg; exact growK_ok
  · rw [beqF e, cond_false] at hg
    by_cases e : g = 46
    · subst e; simp only [Nat.beq_refl, cond_true] at hg; injection hg with hg; subst hg; exact cloneK_ok
    · rw [beqF e] at hg; cases hg
def lv2 (f t : Nat) : Bool := false
theorem m2_ok : MachOK Try.prog (mach lv2 kn2) := mach_ok lv2 kn2_ok
end Go.Proofs.Ytjcfhhepnjmchaa
