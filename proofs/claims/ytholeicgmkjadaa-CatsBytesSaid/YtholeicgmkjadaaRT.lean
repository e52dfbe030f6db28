/- A rule more: a slice without its first ones keeps its room. -/
import Derived.Test.YtholeicgmkjadaaTsR
namespace Go.Ts
section
variable {P : Program} {G : Nat → Option TI} {σ : St} {N : Nat} {a : Env} {α : Type}
theorem op_sl_own (hG : Fits P G) {K : Env → St → Prop} {o : Oper} {t : TypeId} {x lo : Operand} {k : IntKind} {l : Nat} {sz e : Nat} {own : Own} {f : α → T} {xs : List α} {ti te : TI}
    (hop : o.op = .slice t x (some lo) none none) (hx : evalO a x = some (.sl sz own (xs.map f))) (hl : evalO a lo = some (.int k (l : Int)))
    (ht : G t = some ti) (htd : ti.d = .slice e) (hte : G e = some te) (hsz : Nat.beq sz te.size = true) {d : Tmp} (hdd : o.dst = some d) (hd : fitsD N (some d) = true)
    (hb : l ≤ xs.length) (kk : K (put a (some d) (.sl sz own ((xs.drop l).map f))) σ) : AOp P N o a σ K := by
  refine op_slice hG hop hx (k := k) (l := (l : Int)) hl (k' := .i64) (h := ((xs.map f).length : Int)) rfl ht htd hte hsz hdd hd ⟨Int.natCast_nonneg _, by simpa using hb, Int.le_refl _⟩ ?_
  have h1 : ((((xs.map f).length : Int)) == ((xs.map f).length : Int)) = true := by simp
  rw [h1, cond_true, Int.toNat_natCast, Int.toNat_natCast, List.take_length, ← List.map_drop]
  exact kk
/-- An operation's answer, known less well. -/
theorem aop_wk {K : Env → St → Prop} {o : Oper} {d : Tmp} {t u : T} (h : AOp P N o a σ (fun a' σ' => a' = put a (some d) t ∧ σ' = σ)) (hw : Wk t u) (kk : K (put a (some d) u) σ) : AOp P N o a σ K := by
  intro av w μ hi' hr next Qc hn
  refine h av w μ hi' hr next Qc ?_
  rintro av' w' μ' a' σ' h1 h2 h3 ⟨rfl, rfl⟩
  refine hn av' w' μ' _ _ h1 h2 ⟨h3.size, h3.defers, fun i x hi => ?_⟩ kk
  by_cases e : d = i
  · subst e
    have : x = u := by simpa [put, get] using hi.symm
    subst this
    obtain ⟨v, hv, r⟩ := h3.tmp d t (by simp [put, get])
    exact ⟨v, hv, hw _ _ _ _ r⟩
  · exact h3.tmp i x (by simpa [put, get, beqF e] using hi)
theorem al_forget {Q : Exit → Env → St → Prop} {ops : Array Oper} {i : Nat} {os : List Oper} {b : Env} (k : Knows a b) (h : AL P N ops Q i os b σ) : AL P N ops Q i os a σ :=
  fun he av w μ hi hr => h he av w μ hi (hr.knows k)
/-- One slot is known less well. -/
theorem al_slot {Q : Exit → Env → St → Prop} {ops : Array Oper} {i : Nat} {os : List Oper} (j : Nat) {t u : T} (hg : get a j = some t) (hw : Wk t u) (h : AL P N ops Q i os ((j, u) :: a) σ) : AL P N ops Q i os a σ :=
  al_forget (.consW hg hw (.refl a)) h
theorem op_minl {K : Env → St → Prop} {o : Oper} {x y : Operand} {tys : Array TypeId} {k : IntKind} {m n : Int}
    (hop : o.op = .call { callee := .builtin .min, args := #[x, y], argTypes := tys }) (hx : evalO a x = some (.int k m)) (hy : evalO a y = some (.int k n)) (h : m ≤ n) {d : Tmp} (hdd : o.dst = some d) (hd : fitsD N (some d) = true)
    (kk : K (put a (some d) (.int k m)) σ) : AOp P N o a σ K := by
  refine op_min hop hx hy hdd hd ?_
  rw [Int.min_eq_left h]; exact kk
theorem op_minr {K : Env → St → Prop} {o : Oper} {x y : Operand} {tys : Array TypeId} {k : IntKind} {m n : Int}
    (hop : o.op = .call { callee := .builtin .min, args := #[x, y], argTypes := tys }) (hx : evalO a x = some (.int k m)) (hy : evalO a y = some (.int k n)) (h : n ≤ m) {d : Tmp} (hdd : o.dst = some d) (hd : fitsD N (some d) = true)
    (kk : K (put a (some d) (.int k n)) σ) : AOp P N o a σ K := by
  refine op_min hop hx hy hdd hd ?_
  rw [Int.min_eq_right h]; exact kk
end
end Go.Ts
