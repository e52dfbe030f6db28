/- The row of the law NumParts: its arguments as trees, its walk, and that what lay below stays. -/
import Derived.Test.YtjcfhhepnjmchaaRows
import Derived.Test.YtjcfhhepnjmchaaTrH
import Derived.Test.YtjcfhhepnjmchaaN4
import Derived.WalkKit
import Derived.ProofKit
import Derived.OpenShut
import Derived.ShutString
import Derived.ChangeOld
import Derived.Below
import Derived.Carry
import Derived.SizedLaws
namespace Go.Proofs.Ytjcfhhepnjmchaa.numParts
open Go.ChangeShapes Go.WideShapes Go.ChangeAt Go.RowKit Go.Tr
open Go.ChangeMaps (open_string shut_string)
set_option linter.unusedVariables false
theorem own : ownKnob Try.prog.godebug = none := by kernel_rfl
theorem laidOut : laidOutB Try.prog = true := by kernel_rfl
theorem rels_nil {w : World} {σ : St} : ∀ (j : Nat) (x : T) (v : Value), ([] : List T)[j]? = some x → (#[] : Array Value)[j]? = some v → Rel w σ v x := fun j x v h => by cases h
theorem rels_cons {w : World} {σ : St} {v : Value} {x : T} {vs : List Value} {xs : List T} (h : Rel w σ v x) (r : ∀ (j : Nat) (x : T) (v : Value), xs[j]? = some x → vs.toArray[j]? = some v → Rel w σ v x) : ∀ (j : Nat) (y : T) (u : Value), (x :: xs)[j]? = some y → (v :: vs).toArray[j]? = some u → Rel w σ u y := by
  intro j y u hy hu
  cases j with
  | zero => simp at hy hu; subst hy; subst hu; exact h
  | succ j => exact r j y u (by simpa using hy) (by simpa using hu)
set_option maxRecDepth 100000 in
theorem lifted (os : Os) (started : os.Started) (H : Type) (enc : TypeId × Value → H) :
    ReturnsInHanded {} Try.checked os 11 .any (Rows.numPartsSpec.pre6 enc Try.prog Try.f11 Rows.numPartsRow.domain false) (Rows.numPartsSpec.post enc Try.prog Try.f11 false true false false) := by
  refine returnsInHanded_of_change_sized (C := Try.checked) own started (by kernel_rfl) Try.func11
    (ChangeSpec.witness6 (enc := enc) (C := Try.checked) false ⟨#[], #[.int .u64 0, .int .u8 0, .int .u8 0], []⟩ 8 (by kernel_rfl) (by kernel_rfl) (by kernel_rfl) (by kernel_rfl)) ?_
  intro W base args ds gs before hval0 hW hcnd hsz0 _
  have hsz : (DataW.weightsEach Try.prog (Try.f11.params.toList ++ Rows.numPartsSpec.plain.varTypes Try.prog) (ds ++ gs)).all (· ≤ reachBytes) = true := hsz0
  have hval : ∀ (j : Nat) t v, Try.f11.params[j]? = some t → args[j]? = some v → Value.okWide Try.prog W .any base t v := hval0
  have hW' := hW
  obtain ⟨p, q, hA0, hV, rfl, hfz, hnd⟩ := hW
  have hA : DataW.TrodAll enc Try.prog W 0 (fun _ => true) true Try.f11.params.toList args.toList ds p := hA0
  rw [Try.params11] at hA hval hsz
  obtain ⟨v0, vs0, d0, ds0, p0, q0, hargs, rfl, rfl, h0, r0⟩ := trodAll_cons hA
  obtain ⟨v1, vs1, d1, ds1, p1, q1, rfl, rfl, rfl, h1, r1⟩ := trodAll_cons r0
  obtain ⟨v2, vs2, d2, ds2, p2, q2, rfl, rfl, rfl, h2, r2⟩ := trodAll_cons r1
  obtain ⟨rfl, rfl, rfl⟩ := trodAll_nil r2
  obtain rfl : args = #[v0, v1, v2] := by cases args; simp_all
  obtain ⟨rfl, rfl⟩ := trodVars_none hV
  obtain ⟨a0, rfl, rfl, rfl, w0⟩ := open_int Try.underlying22 (hval 0 22 v0 rfl rfl) h0
  obtain ⟨a1, rfl, rfl, rfl, w1⟩ := open_int Try.underlying5 (hval 1 5 v1 rfl rfl) h1
  obtain ⟨a2, rfl, rfl, rfl, w2⟩ := open_int Try.underlying5 (hval 2 5 v2 rfl rfl) h2
  refine (law_calls (xs := [.int .u64 a0, .int .u8 a1, .int .u8 a2]) rfl (rels_cons (.int _ _) (rels_cons (.int _ _) (rels_cons (.int _ _) rels_nil))) (numParts_law W a0 w0 a1 w1 a2 w2)).mono fun e W' ⟨he, bel⟩ => ?_
  subst he
  exact ⟨_, rfl, _, _, _, [], _, [], hW', trodAll_mk1 (shut_bool Try.underlying4 _), (trodAll_cons_mk (shut_int Try.underlying22 w0) (trodAll_cons_mk (shut_int Try.underlying5 w1) (trodAll_cons_mk (shut_int Try.underlying5 w2) trodAll_mk0))), rfl, bel.frame _, fun h => by cases h⟩
theorem over : Rows.numPartsRow.holds Try.pinned (OpenSpec.ofChange Rows.numPartsSpec) :=
  OpenClaim.holds_of_wide 11 Try.f11 rfl rfl rfl rfl rfl rfl rfl ⟨rfl, rfl, rfl, rfl, rfl⟩ rfl rfl rfl rfl rfl (by kernel_rfl) Try.func11 (by kernel_rfl)
    (of_decide_eq_true (by kernel_rfl)) (by unfold Func.isWrapper; first | (rw [if_pos (by decide +kernel)]; kernel_rfl) | (rw [if_neg (by decide +kernel)]; exact ⟨rfl, rfl⟩))
    (fun os started H enc _ => lifted os started H enc)
theorem proved : Rows.NumPartsSaid := over
end Go.Proofs.Ytjcfhhepnjmchaa.numParts
namespace Go.Proofs.Ytjcfhhepnjmchaa
/-- The row, under a short name, for the claim. -/
theorem numParts_holds : Rows.NumPartsSaid := numParts.proved
end Go.Proofs.Ytjcfhhepnjmchaa
