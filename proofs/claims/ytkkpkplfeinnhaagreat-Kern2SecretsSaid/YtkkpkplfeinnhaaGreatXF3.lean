/- The machine of the second kernel's laws: with what the begun kernel comes to. -/
import Derived.Test.YtkkpkplfeinnhaaGreatXCBegun
namespace Go.Proofs.YtkkpkplfeinnhaaGreat
open Go.Ts
theorem knB_ok : ∀ g f, knB g = some f → ∀ ts h t h', f ts h = some (t, h') → ∀ σ, HCov σ h → ACalls Tryz.prog g ts σ (fun u σ' => u = t ∧ HCov σ' h') := by
  intro g f hg
  unfold knB at hg
  by_cases e : g = 9
  · subst e; simp only [Nat.beq_refl, cond_true] at hg; injection hg with hg; subst hg; exact coldK_ok Begun_call
  · rw [beqF e, cond_false] at hg; exact knK_ok g f hg
theorem mB_ok : MachOK Tryz.prog (mach lvK knB) := mach_ok lvK knB_ok
end Go.Proofs.YtkkpkplfeinnhaaGreat
