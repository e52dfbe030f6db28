/- A machine over trees: the tables of a program, quickly looked up. -/
import Derived.Test.YtholeicgmkjadaaTsXG
set_option linter.unusedVariables false
namespace Go.Ts
def tabG (t : Tr (Option TI)) (i : Nat) : Option TI := match t.get i with
  | some x => x
  | none => none
theorem tabG_fits {P : Program} {L : List (Option TI)} (h : Fits P (tab L)) : Fits P (tabG (Tr.of L)) := by
  intro t i ht
  refine h t i ?_
  unfold tabG at ht
  split at ht
  · rename_i x hx
    unfold tab; rw [Tr.get_of hx]; exact ht
  · cases ht
def namesOK : List Func → Bool
  | [] => true
  | f :: fs => !(f.name == "runtime.NumGoroutine") && namesOK fs
theorem namesOK_at : ∀ {l : List Func} {i : Nat} {f : Func}, namesOK l = true → l[i]? = some f → (f.name == "runtime.NumGoroutine") = false
  | [], i, f, _, h => by simp at h
  | g :: l, 0, f, hn, h => by
    simp at h; subst h
    simp only [namesOK, Bool.and_eq_true, Bool.not_eq_true'] at hn; exact hn.1
  | g :: l, i + 1, f, hn, h => by
    simp only [namesOK, Bool.and_eq_true] at hn
    exact namesOK_at hn.2 (by simpa using h)
theorem func_ok {P : Program} (hn : namesOK P.funcs.toList = true) (f : FuncId) (fn : Func) (h : (Tr.of P.funcs.toList).get f = some fn) : P.funcs[f]? = some fn ∧ (fn.name == "runtime.NumGoroutine") = false := by
  have h1 := Tr.get_of h
  exact ⟨by simpa using h1, namesOK_at hn h1⟩
end Go.Ts
