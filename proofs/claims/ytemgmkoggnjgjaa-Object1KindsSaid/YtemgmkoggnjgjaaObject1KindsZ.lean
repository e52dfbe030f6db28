/- Proved: the law Object1Kinds of this program returns true for every input, and each argument reads behind the call as before. Conditions: none. -/
import Derived.Test.YtemgmkoggnjgjaaObject1KindsG
import Derived.Test.YtemgmkoggnjgjaaRows
import Derived.WalkKit
import Derived.ProofKit
import Derived.OpenShut
import Derived.ShutString
import Derived.ChangeOld
import Derived.Below
import Derived.Carry
import Derived.SizedLaws
namespace Go.Proofs.Ytemgmkoggnjgjaa.object1Kinds
open Go.ChangeShapes Go.WideShapes Go.ChangeAt Go.RowKit Go.Ts
open Go.ChangeMaps (open_string shut_string)
set_option linter.unusedVariables false
theorem own : ownKnob Try.prog.godebug = none := by kernel_rfl
theorem laidOut : laidOutB Try.prog = true := by kernel_rfl
theorem rels_nil {w : World} : ∀ (j : Nat) (x : T) (v : Value), ([] : List T)[j]? = some x → (#[] : Array Value)[j]? = some v → Go.Ts.Rel w μ0 σ0 v x := fun j x v h => by cases h
theorem rels_cons {w : World} {v : Value} {x : T} {vs : List Value} {xs : List T} (h : Go.Ts.Rel w μ0 σ0 v x) (r : ∀ (j : Nat) (x : T) (v : Value), xs[j]? = some x → vs.toArray[j]? = some v → Go.Ts.Rel w μ0 σ0 v x) : ∀ (j : Nat) (y : T) (u : Value), (x :: xs)[j]? = some y → (v :: vs).toArray[j]? = some u → Go.Ts.Rel w μ0 σ0 u y := by
  intro j y u hy hu
  cases j with
  | zero => simp at hy hu; subst hy; subst hu; exact h
  | succ j => exact r j y u (by simpa using hy) (by simpa using hu)
set_option maxRecDepth 100000 in
theorem lifted (os : Os) (started : os.Started) (H : Type) (enc : TypeId × Value → H) :
    ReturnsInHanded {} Try.checked os 6 .any (Rows.object1KindsSpec.pre6 enc Try.prog Try.f6 Rows.object1KindsRow.domain false) (Rows.object1KindsSpec.post enc Try.prog Try.f6 false true false false) := by
  refine returnsInHanded_of_change_sized (C := Try.checked) own started (by kernel_rfl) Try.func6
    (ChangeSpec.witness6 (enc := enc) (C := Try.checked) false ⟨#[], #[.int .u8 0, .int .u8 0, .int .u8 0, .slice none 0 0, .int .u16 0, .slice none 0 0], []⟩ 8 (by kernel_rfl) (by kernel_rfl) (by kernel_rfl) (by kernel_rfl)) ?_
  intro W base args ds gs before hval0 hW hcnd hsz0 _
  have hsz : (DataW.weightsEach Try.prog (Try.f6.params.toList ++ Rows.object1KindsSpec.plain.varTypes Try.prog) (ds ++ gs)).all (· ≤ reachBytes) = true := hsz0
  have hval : ∀ (j : Nat) t v, Try.f6.params[j]? = some t → args[j]? = some v → Value.okWide Try.prog W .any base t v := hval0
  have hW' := hW
  obtain ⟨p, q, hA0, hV, rfl, hfz, hnd⟩ := hW
  have hA : DataW.TrodAll enc Try.prog W 0 (fun _ => true) true Try.f6.params.toList args.toList ds p := hA0
  rw [Try.params6] at hA hval hsz
  obtain ⟨v0, vs0, d0, ds0, p0, q0, hargs, rfl, rfl, h0, r0⟩ := trodAll_cons hA
  obtain ⟨v1, vs1, d1, ds1, p1, q1, rfl, rfl, rfl, h1, r1⟩ := trodAll_cons r0
  obtain ⟨v2, vs2, d2, ds2, p2, q2, rfl, rfl, rfl, h2, r2⟩ := trodAll_cons r1
  obtain ⟨v3, vs3, d3, ds3, p3, q3, rfl, rfl, rfl, h3, r3⟩ := trodAll_cons r2
  obtain ⟨v4, vs4, d4, ds4, p4, q4, rfl, rfl, rfl, h4, r4⟩ := trodAll_cons r3
  obtain ⟨v5, vs5, d5, ds5, p5, q5, rfl, rfl, rfl, h5, r5⟩ := trodAll_cons r4
  obtain ⟨rfl, rfl, rfl⟩ := trodAll_nil r5
  obtain rfl : args = #[v0, v1, v2, v3, v4, v5] := by cases args; simp_all
  obtain ⟨rfl, rfl⟩ := trodVars_none hV
  obtain ⟨a0, rfl, rfl, rfl, w0⟩ := open_int Try.underlying5 (hval 0 5 v0 rfl rfl) h0
  obtain ⟨a1, rfl, rfl, rfl, w1⟩ := open_int Try.underlying5 (hval 1 5 v1 rfl rfl) h1
  obtain ⟨a2, rfl, rfl, rfl, w2⟩ := open_int Try.underlying5 (hval 2 5 v2 rfl rfl) h2
  have lt3 : ∀ x ∈ p3, x.block < W.heap.size := by obtain ⟨m, hm⟩ := h3; exact DataW.trod_lt m _ _ _ hm
  obtain ⟨x3, rel3, ty3⟩ := arg_rel hG (n := 6) (by kernel_rfl) (hval 3 22 v3 rfl rfl) h3 (fun x hx => by simpa using List.all_eq_true.1 hsz _ (DataW.weights_mem_each (j := 3) (t := 22) rfl rfl x hx))
  obtain ⟨a4, rfl, rfl, rfl, w4⟩ := open_int Try.underlying49 (hval 4 49 v4 rfl rfl) h4
  have lt5 : ∀ x ∈ p5, x.block < W.heap.size := by obtain ⟨m, hm⟩ := h5; exact DataW.trod_lt m _ _ _ hm
  obtain ⟨x5, rel5, ty5⟩ := arg_rel hG (n := 6) (by kernel_rfl) (hval 5 22 v5 rfl rfl) h5 (fun x hx => by simpa using List.all_eq_true.1 hsz _ (DataW.weights_mem_each (j := 5) (t := 22) rfl rfl x hx))
  refine (law_calls (xs := [.int .u8 a0, .int .u8 a1, .int .u8 a2, x3, .int .u16 a4, x5]) rfl (rels_cons (.int _ _) (rels_cons (.int _ _) (rels_cons (.int _ _) (rels_cons rel3 (rels_cons (.int _ _) (rels_cons rel5 rels_nil)))))) (object1Kinds_law W a0 w0 a1 w1 a2 w2 x3 ty3 a4 w4 x5 ty5)).mono fun e W' ⟨he, bel⟩ => ?_
  subst he
  exact ⟨_, rfl, _, _, _, [], _, [], hW', trodAll_mk1 (shut_bool Try.underlying4 _), (trodAll_cons_mk (shut_int Try.underlying5 w0) (trodAll_cons_mk (shut_int Try.underlying5 w1) (trodAll_cons_mk (shut_int Try.underlying5 w2) (trodAll_cons_mk (Below.trod laidOut (by kernel_rfl) (of_decide_eq_true (by kernel_rfl)) h3 bel lt3) (trodAll_cons_mk (shut_int Try.underlying49 w4) (trodAll_cons_mk (Below.trod laidOut (by kernel_rfl) (of_decide_eq_true (by kernel_rfl)) h5 bel lt5) trodAll_mk0)))))), rfl, bel.frame _, fun h => by cases h⟩
theorem over : Rows.object1KindsRow.holds Try.pinned (OpenSpec.ofChange Rows.object1KindsSpec) :=
  OpenClaim.holds_of_wide 6 Try.f6 rfl rfl rfl rfl rfl rfl rfl ⟨rfl, rfl, rfl, rfl, rfl⟩ rfl rfl rfl rfl rfl (by kernel_rfl) Try.func6 (by kernel_rfl)
    (of_decide_eq_true (by kernel_rfl)) (by unfold Func.isWrapper; first | (rw [if_pos (by decide +kernel)]; kernel_rfl) | (rw [if_neg (by decide +kernel)]; exact ⟨rfl, rfl⟩))
    (fun os started H enc _ => lifted os started H enc)
theorem proved : Rows.Object1KindsSaid := over
end Go.Proofs.Ytemgmkoggnjgjaa.object1Kinds
namespace Go.Proofs.Ytemgmkoggnjgjaa
theorem object1Kinds_holds : Rows.Object1KindsSaid := object1Kinds.proved
end Go.Proofs.Ytemgmkoggnjgjaa
