/- The machine of the second kernel: which slices are live, and what is known of some calls. -/
import Derived.Test.YtkkpkplfeinnhaaGreatXF1
import Derived.Test.YtkkpkplfeinnhaaGreatXM2
import Derived.Test.YtkkpkplfeinnhaaGreatTsXJ
namespace Go.Proofs.YtkkpkplfeinnhaaGreat
open Go.Ts
def u (n : Int) : T := .int .u8 n
def usedK (ts : List T) (h : HS) : Option (T × HS) := match ts with
  | [.ptr i o] => match readX G h 201 i o with
    | some (.aref 17 j 0 n _) => match h.L.get j with
      | some (.th _ zn z ov) => cond (!z.isEmpty && Nat.ble (n * 17) zn && Nat.ble n 4294967296 && z.all T.scalar && Tr.allB T.scalar ov) (match countB z ov 17 16 n 0 0 with
        | some tot => some (.int .i64 tot, ⟨h.L, h.R, h.nx + n⟩)
        | none => none) none
      | _ => none
    | _ => none
  | _ => none
theorem usedK_ok : ∀ ts h t h', usedK ts h = some (t, h') → ∀ σ, HCov σ h → ACalls Tryz.prog 134 ts σ (fun u σ' => u = t ∧ HCov σ' h') := by
  intro ts h t h' hk σ c
  unfold usedK at hk
  split at hk
  · rename_i i o
    split at hk
    · rename_i j n cap hr
      split at hk
      · rename_i nt zn z ov hj
        cases hc : (!z.isEmpty && Nat.ble (n * 17) zn && Nat.ble n 4294967296 && z.all T.scalar && Tr.allB T.scalar ov) with
        | false => rw [hc] at hk; cases hk
        | true =>
          rw [hc, cond_true] at hk
          split at hk
          · rename_i tot htot
            injection hk with hk; injection hk with h1 h2; subst h1; subst h2
            simp only [Bool.and_eq_true] at hc
            obtain ⟨⟨⟨⟨a1, a2⟩, a3⟩, a4⟩, a5⟩ := hc
            exact used_walk c hr hj (by cases hz : z.isEmpty with | false => rfl | true => rw [hz] at a1; cases a1) (Nat.le_of_ble_eq_true a2) (Nat.le_of_ble_eq_true a3) a4 a5 htot
          · cases hk
      · cases hk
    · cases hk
  · cases hk
def knK (g : FuncId) : Option (List T → HS → Option (T × HS)) := cond (Nat.beq g 134) (some usedK) (kn2 g)
theorem knK_ok : ∀ g f, knK g = some f → ∀ ts h t h', f ts h = some (t, h') → ∀ σ, HCov σ h → ACalls Tryz.prog g ts σ (fun u σ' => u = t ∧ HCov σ' h') := by
  intro g f hg
  unfold knK at hg
  by_cases e : g = 134
  · subst e; simp only [Nat.beq_refl, cond_true] at hg; injection hg with hg; subst hg; exact usedK_ok
  · rw [beqF e, cond_false] at hg; exact kn2_ok g f hg
def lvK (f t : Nat) : Bool := Nat.beq t 94 || Nat.beq t 47 || Nat.beq t 201 || (Nat.beq t 63 && Nat.beq f 24) || (Nat.beq t 35 && (Nat.beq f 45 || Nat.beq f 3 || Nat.beq f 4 || Nat.beq f 5))
/-- With what the begun kernel comes to. -/
def knB (g : FuncId) : Option (List T → HS → Option (T × HS)) := cond (Nat.beq g 9) (some (coldK 1785)) (knK g)
theorem mK_ok : MachOK Tryz.prog (mach lvK knK) := mach_ok lvK knK_ok
end Go.Proofs.YtkkpkplfeinnhaaGreat
