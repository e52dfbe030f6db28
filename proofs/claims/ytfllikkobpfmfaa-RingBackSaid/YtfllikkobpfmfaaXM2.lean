/- The machine, with what is known of some calls. -/
import Derived.Test.YtfllikkobpfmfaaXK1
namespace Go.Proofs.Ytfllikkobpfmfaa
open Go.Ts
def kn2 (g : FuncId) : Option (List T → HS → Option (T × HS)) := cond (Nat.beq g 26) (some growK) (cond (Nat.beq g 17) (some cloneK) none)
theorem kn2_ok : ∀ g f, kn2 g = some f → ∀ ts h t h', f ts h = some (t, h') → ∀ σ, HCov σ h → ACalls Try.prog g ts σ (fun u σ' => u = t ∧ HCov σ' h') := by
  intro g f hg
  unfold kn2 at hg
  by_cases e : g = 26
  · subst e; simp only [Nat.beq_refl, cond_true] at hg; injection hg with hg; subst hg; exact growK_ok
  · rw [beqF e, cond_false] at hg
    by_cases e : g = 17
    · subst e; simp only [Nat.beq_refl, cond_true] at hg; injection hg with hg; subst hg; exact cloneK_ok
    · rw [beqF e] at hg; cases hg
end Go.Proofs.Ytfllikkobpfmfaa
