/- Proved: the law ArenaAll of this program returns true for every input, and each argument reads behind the call as before. Conditions: none. -/
import Derived.Test.YthfgocinlbogeaaArenaAllG
import Derived.Test.YthfgocinlbogeaaRows
import Derived.WalkKit
import Derived.ProofKit
import Derived.OpenShut
import Derived.ShutString
import Derived.ChangeOld
import Derived.Below
import Derived.Carry
import Derived.SizedLaws
namespace Go.Proofs.Ythfgocinlbogeaa.arenaAll
open Go.ChangeShapes Go.WideShapes Go.ChangeAt Go.RowKit Go.Ts
open Go.ChangeMaps (open_string shut_string)
set_option linter.unusedVariables false
theorem own : ownKnob Try.prog.godebug = none := by kernel_rfl
theorem laidOut : laidOutB Try.prog = true := by kernel_rfl
theorem rels_nil {w : World} : ∀ (j : Nat) (x : T) (v : Value), ([] : List T)[j]? = some x → (#[] : Array Value)[j]? = some v → Go.Ts.Rel w μ0 σ0 v x := fun j x v h => by cases h
theorem rels_cons {w : World} {v : Value} {x : T} {vs : List Value} {xs : List T} (h : Go.Ts.Rel w μ0 σ0 v x) (r : ∀ (j : Nat) (x : T) (v : Value), xs[j]? = some x → vs.toArray[j]? = some v → Go.Ts.Rel w μ0 σ0 v x) : ∀ (j : Nat) (y : T) (u : Value), (x :: xs)[j]? = some y → (v :: vs).toArray[j]? = some u → Go.Ts.Rel w μ0 σ0 u y := by
  intro j y u hy hu
  cases j with
  | zero => simp at hy hu; subst hy; subst hu; exact h
  | succ j => exact r j y u (by simpa using hy) (by simpa using hu)
set_option maxRecDepth 100000 in
theorem lifted (os : Os) (started : os.Started) (H : Type) (enc : TypeId × Value → H) :
    ReturnsInHanded {} Try.checked os 9 .any (Rows.arenaAllSpec.pre6 enc Try.prog Try.f9 Rows.arenaAllRow.domain false) (Rows.arenaAllSpec.post enc Try.prog Try.f9 false true false false) := by
  refine returnsInHanded_of_change_sized (C := Try.checked) own started (by kernel_rfl) Try.func9
    (ChangeSpec.witness6 (enc := enc) (C := Try.checked) false ⟨#[], #[.int .u8 0, .slice none 0 0], []⟩ 8 (by kernel_rfl) (by kernel_rfl) (by kernel_rfl) (by kernel_rfl)) ?_
  intro W base args ds gs before hval0 hW hcnd hsz0 _
  have hsz : (DataW.weightsEach Try.prog (Try.f9.params.toList ++ Rows.arenaAllSpec.plain.varTypes Try.prog) (ds ++ gs)).all (· ≤ reachBytes) = true := hsz0
  have hval : ∀ (j : Nat) t v, Try.f9.params[j]? = some t → args[j]? = some v → Value.okWide Try.prog W .any base t v := hval0
  have hW' := hW
  obtain ⟨p, q, hA0, hV, rfl, hfz, hnd⟩ := hW
  have hA : DataW.TrodAll enc Try.prog W 0 (fun _ => true) true Try.f9.params.toList args.toList ds p := hA0
  rw [Try.params9] at hA hval hsz
  obtain ⟨v0, vs0, d0, ds0, p0, q0, hargs, rfl, rfl, h0, r0⟩ := trodAll_cons hA
  obtain ⟨v1, vs1, d1, ds1, p1, q1, rfl, rfl, rfl, h1, r1⟩ := trodAll_cons r0
  obtain ⟨rfl, rfl, rfl⟩ := trodAll_nil r1
  obtain rfl : args = #[v0, v1] := by cases args; simp_all
  obtain ⟨rfl, rfl⟩ := trodVars_none hV
  obtain ⟨a0, rfl, rfl, rfl, w0⟩ := open_int Try.underlying5 (hval 0 5 v0 rfl rfl) h0
  have lt1 : ∀ x ∈ p1, x.block < W.heap.size := by obtain ⟨m, hm⟩ := h1; exact DataW.trod_lt m _ _ _ hm
  obtain ⟨x1, rel1, ty1⟩ := arg_rel hG (n := 6) (by kernel_rfl) (hval 1 64 v1 rfl rfl) h1 (fun x hx => by simpa using List.all_eq_true.1 hsz _ (DataW.weights_mem_each (j := 1) (t := 64) rfl rfl x hx))
  refine (law_calls (xs := [.int .u8 a0, x1]) rfl (rels_cons (.int _ _) (rels_cons rel1 rels_nil)) (arenaAll_law W a0 w0 x1 ty1)).mono fun e W' ⟨he, bel⟩ => ?_
  subst he
  exact ⟨_, rfl, _, _, _, [], _, [], hW', trodAll_mk1 (shut_bool Try.underlying4 _), (trodAll_cons_mk (shut_int Try.underlying5 w0) (trodAll_cons_mk (Below.trod laidOut (by kernel_rfl) (of_decide_eq_true (by kernel_rfl)) h1 bel lt1) trodAll_mk0)), rfl, bel.frame _, fun h => by cases h⟩
theorem over : Rows.arenaAllRow.holds Try.pinned (OpenSpec.ofChange Rows.arenaAllSpec) :=
  OpenClaim.holds_of_wide 9 Try.f9 rfl rfl rfl rfl rfl rfl rfl ⟨rfl, rfl, rfl, rfl, rfl⟩ rfl rfl rfl rfl rfl (by kernel_rfl) Try.func9 (by kernel_rfl)
    (of_decide_eq_true (by kernel_rfl)) (by unfold Func.isWrapper; first | (rw [if_pos (by decide +kernel)]; kernel_rfl) | (rw [if_neg (by decide +kernel)]; exact ⟨rfl, rfl⟩))
    (fun os started H enc _ => lifted os started H enc)
theorem proved : Rows.ArenaAllSaid := over
end Go.Proofs.Ythfgocinlbogeaa.arenaAll
namespace Go.Proofs.Ythfgocinlbogeaa
theorem arenaAll_holds : Rows.ArenaAllSaid := arenaAll.proved
end Go.Proofs.Ythfgocinlbogeaa
