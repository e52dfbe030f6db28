/- Proved: the law Kern2Secrets of this program returns true for every input, and each argument reads behind the call as before. Conditions: none. -/
import Derived.Test.YtkkpkplfeinnhaaGreatRows
import Derived.Test.YtkkpkplfeinnhaaGreatTsH
import Derived.Test.YtkkpkplfeinnhaaGreatXLKern2Secrets
import Derived.WalkKit
import Derived.ProofKit
import Derived.OpenShut
import Derived.ShutString
import Derived.ChangeOld
import Derived.Below
import Derived.Carry
import Derived.SizedLaws
namespace Go.Proofs.YtkkpkplfeinnhaaGreat.kern2Secrets
open Go.ChangeShapes Go.WideShapes Go.ChangeAt Go.RowKit Go.Ts
open Go.ChangeMaps (open_string shut_string)
set_option linter.unusedVariables false
theorem own : ownKnob Tryz.prog.godebug = none := by kernel_rfl
theorem laidOut : laidOutB Tryz.prog = true := by kernel_rfl
theorem rels_nil {w : World} : ∀ (j : Nat) (x : T) (v : Value), ([] : List T)[j]? = some x → (#[] : Array Value)[j]? = some v → Go.Ts.Rel w μ0 σ0 v x := fun j x v h => by cases h
theorem rels_cons {w : World} {v : Value} {x : T} {vs : List Value} {xs : List T} (h : Go.Ts.Rel w μ0 σ0 v x) (r : ∀ (j : Nat) (x : T) (v : Value), xs[j]? = some x → vs.toArray[j]? = some v → Go.Ts.Rel w μ0 σ0 v x) : ∀ (j : Nat) (y : T) (u : Value), (x :: xs)[j]? = some y → (v :: vs).toArray[j]? = some u → Go.Ts.Rel w μ0 σ0 u y := by
  intro j y u hy hu
  cases j with
  | zero => simp at hy hu; subst hy; subst hu; exact h
  | succ j => exact r j y u (by simpa using hy) (by simpa using hu)
set_option maxRecDepth 100000 in
theorem lifted (os : Os) (started : os.Started) (H : Type) (enc : TypeId × Value → H) :
    ReturnsInHanded {} Tryz.checked os 3 .any (Rows.kern2SecretsSpec.pre6 enc Tryz.prog Tryz.f3 Rows.kern2SecretsRow.domain false) (Rows.kern2SecretsSpec.post enc Tryz.prog Tryz.f3 false true false false) := by
  refine returnsInHanded_of_change_sized (C := Tryz.checked) own started (by kernel_rfl) Tryz.func3
    (ChangeSpec.witness6 (enc := enc) (C := Tryz.checked) false ⟨#[], #[], []⟩ 8 (by kernel_rfl) (by kernel_rfl) (by kernel_rfl) (by kernel_rfl)) ?_
  intro W base args ds gs before hval0 hW hcnd hsz0 _
  have hsz : (DataW.weightsEach Tryz.prog (Tryz.f3.params.toList ++ Rows.kern2SecretsSpec.plain.varTypes Tryz.prog) (ds ++ gs)).all (· ≤ reachBytes) = true := hsz0
  have hval : ∀ (j : Nat) t v, Tryz.f3.params[j]? = some t → args[j]? = some v → Value.okWide Tryz.prog W .any base t v := hval0
  have hW' := hW
  obtain ⟨p, q, hA0, hV, rfl, hfz, hnd⟩ := hW
  have hA : DataW.TrodAll enc Tryz.prog W 0 (fun _ => true) true Tryz.f3.params.toList args.toList ds p := hA0
  rw [Tryz.params3] at hA hval hsz
  obtain ⟨rfl, rfl, rfl⟩ := trodAll_none hA
  obtain ⟨rfl, rfl⟩ := trodVars_none hV
  refine (law_calls (xs := []) rfl rels_nil (kern2Secrets_law W )).mono fun e W' ⟨he, bel⟩ => ?_
  subst he
  exact ⟨_, rfl, _, _, _, [], _, [], hW', trodAll_mk1 (shut_bool Tryz.underlying4 _), trodAll_mk0, rfl, bel.frame _, fun h => by cases h⟩
theorem over : Rows.kern2SecretsRow.holds Tryz.pinned (OpenSpec.ofChange Rows.kern2SecretsSpec) :=
  OpenClaim.holds_of_wide 3 Tryz.f3 rfl rfl rfl rfl rfl rfl rfl ⟨rfl, rfl, rfl, rfl, rfl⟩ rfl rfl rfl rfl rfl (by kernel_rfl) Tryz.func3 (by kernel_rfl)
    (of_decide_eq_true (by kernel_rfl)) (by unfold Func.isWrapper; first | (rw [if_pos (by decide +kernel)]; kernel_rfl) | (rw [if_neg (by decide +kernel)]; exact ⟨rfl, rfl⟩))
    (fun os started H enc _ => lifted os started H enc)
theorem proved : Rows.Kern2SecretsSaid := over
end Go.Proofs.YtkkpkplfeinnhaaGreat.kern2Secrets
namespace Go.Proofs.YtkkpkplfeinnhaaGreat
/-- The row, under a short name, for the claim. -/
theorem kern2Secrets_holds : Rows.Kern2SecretsSaid := kern2Secrets.proved
end Go.Proofs.YtkkpkplfeinnhaaGreat
