/- The machine, with what is known of some calls. -/
import Derived.Test.YtkkpkplfeinnhaaGreatXK1
namespace Go.Proofs.YtkkpkplfeinnhaaGreat
open Go.Ts
def kn2 (g : FuncId) : Option (List T → HS → Option (T × HS)) := cond (Nat.beq g 137) (some growK) (cond (Nat.beq g 62) (some cloneK) none)
theorem kn2_ok : ∀ g f, kn2 g = some f → ∀ ts h t h', f ts h = some (t, h') → ∀ σ, HCov σ h → ACalls Tryz.prog g ts σ (fun u σ' => u = t ∧ HCov σ' h') := by
  intro g f hg
  unfold kn2 at hg
  by_cases e : g = 137
  · subst e; simp only [Nat.beq_refl, cond_true] at hg; injection hg with hg; subst hg; exact growK_ok
  · rw [beqF e, cond_false] at hg
    by_cases e : g = 62
    · subst e; simp only [Nat.beq_refl, cond_true] at hg; injection hg with hg; subst hg; exact cloneK_ok
    · rw [beqF e] at hg; cases hg
def lv2 (f t : Nat) : Bool := Nat.beq f 82
theorem m2_ok : MachOK Tryz.prog (mach lv2 kn2) := mach_ok lv2 kn2_ok
end Go.Proofs.YtkkpkplfeinnhaaGreat
