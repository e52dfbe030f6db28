/- Trees, continued: min, max; regions that draw their order up to a tail that stands behind all else. -/
import Derived.Test.YtjcfhhepnjmchaaTrL
namespace Go.Tr
set_option linter.unusedSimpArgs false
set_option linter.unusedVariables false
section
variable {P : Program} {G : Nat → Option TI} {N : Nat} {σ σ0 σ1 σ2 : St} {a : Env} {Q : Exit → Env → St → Prop}
theorem op_max {K : Env → St → Prop} {o : Oper} {x y : Operand} {tys : Array TypeId} {k : IntKind} {m n : Int}
    (hop : o.op = .call { callee := .builtin .max, args := #[x, y], argTypes := tys }) (hx : evalO a x = some (.int k m)) (hy : evalO a y = some (.int k n)) {d : Option Tmp} (hdd : o.dst = d) (hd : fitsD N d = true)
    (kk : K (put a d (.int k (max m n))) σ) : AOp P N o a σ K := by
  subst hdd
  intro av w hi hr next Qc hnx
  have rx := evalO_rel hr hx
  have ry := evalO_rel hr hy
  generalize hvx : av.eval x = vx at rx
  generalize hvy : av.eval y = vy at ry
  cases rx; cases ry
  have hrun : (execOp av.eval o).run P w = .ok (.value (.int k (max m n))) w := by
    simp [execOp, hop, resolve, invoke, builtin, Builtin.max_, Builtin.max2, hvx, hvy]
    omega
  unfold Oper.wp
  rw [hrun]
  exact hnx _ _ _ _ (.refl _ _) hi (hr.put hd (.int _ _)) kk
theorem op_min {K : Env → St → Prop} {o : Oper} {x y : Operand} {tys : Array TypeId} {k : IntKind} {m n : Int}
    (hop : o.op = .call { callee := .builtin .min, args := #[x, y], argTypes := tys }) (hx : evalO a x = some (.int k m)) (hy : evalO a y = some (.int k n)) {d : Option Tmp} (hdd : o.dst = d) (hd : fitsD N d = true)
    (kk : K (put a d (.int k (min m n))) σ) : AOp P N o a σ K := by
  subst hdd
  intro av w hi hr next Qc hnx
  have rx := evalO_rel hr hx
  have ry := evalO_rel hr hy
  generalize hvx : av.eval x = vx at rx
  generalize hvy : av.eval y = vy at ry
  cases rx; cases ry
  have hrun : (execOp av.eval o).run P w = .ok (.value (.int k (min m n))) w := by
    simp [execOp, hop, resolve, invoke, builtin, Builtin.min_, Builtin.min2, hvx, hvy]
    omega
  unfold Oper.wp
  rw [hrun]
  exact hnx _ _ _ _ (.refl _ _) hi (hr.put hd (.int _ _)) kk
/-- Comparisons of a thing with itself. -/
theorem op_eqs (hG : Fits P G) {K : Env → St → Prop} {o : Oper} {x : Int} (hcc : cmpOp o.op = true) (he : evalOp G σ.objs (evalO a) o.op = some (.bool (x == x))) {d : Option Tmp} (hdd : o.dst = d) (hd : fitsD N d = true)
    (k : K (put a d (.bool true)) σ) : AOp P N o a σ K := by
  subst hdd; exact op_q' hG (.bool true) he (by simp) rfl hd k
theorem op_nes (hG : Fits P G) {K : Env → St → Prop} {o : Oper} {x : Int} (hcc : cmpOp o.op = true) (he : evalOp G σ.objs (evalO a) o.op = some (.bool (x != x))) {d : Option Tmp} (hdd : o.dst = d) (hd : fitsD N d = true)
    (k : K (put a d (.bool false)) σ) : AOp P N o a σ K := by
  subst hdd; exact op_q' hG (.bool false) he (by simp) rfl hd k
theorem op_beqs (hG : Fits P G) {K : Env → St → Prop} {o : Oper} {x : List UInt8} (hcc : cmpOp o.op = true) (he : evalOp G σ.objs (evalO a) o.op = some (.bool (x == x))) {d : Option Tmp} (hdd : o.dst = d) (hd : fitsD N d = true)
    (k : K (put a d (.bool true)) σ) : AOp P N o a σ K := by
  subst hdd; exact op_q' hG (.bool true) he (by simp) rfl hd k
end
end Go.Tr
