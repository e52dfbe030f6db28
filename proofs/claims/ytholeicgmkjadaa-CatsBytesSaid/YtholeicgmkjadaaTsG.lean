/- Trees, continued: the rules in the form in which a walk applies them. -/
import Derived.Test.YtholeicgmkjadaaTsH
set_option linter.unusedVariables false
set_option linter.unusedSimpArgs false
namespace Go.Ts
section
variable {P : Program} {G : Nat → Option TI} {σ : St} {N : Nat} {a : Env} {Q : Exit → Env → St → Prop}

def cmpOp : Op → Bool
  | .binOp .eql .. | .binOp .neq .. | .binOp .lss .. | .binOp .leq .. | .binOp .gtr .. | .binOp .geq .. => true
  | _ => false
def arithOp : Op → Bool
  | .binOp .add .. | .binOp .sub .. | .binOp .mul .. | .binOp .quo .. | .convert .. | .unOp .. => true
  | _ => false

theorem aw_reg {id : Nat} {ops : Array Oper} {l : List Nat} (hl : List.range ops.size = l) (h : AOps P N ops Q l a σ) : AW P N (.region id ops false) Q a σ := aw_region (hl ▸ h)

theorem op_q (hG : Fits P G) {K : Env → St → Prop} {o : Oper} {t : T} (he : evalOp G (fun _ => none) (evalO a) o.op = some t) {d : Tmp} (hdd : o.dst = some d) (hd : fitsD N (some d) = true)
    (k : K (put a (some d) t) σ) : AOp P N o a σ K := by
  generalize some d = dd at *
  subst hdd
  exact (aop_quiet0 hG he hd k)

/-- the same, with another form of the value. -/
theorem op_q' (hG : Fits P G) {K : Env → St → Prop} {o : Oper} {t : T} (u : T) (he : evalOp G (fun _ => none) (evalO a) o.op = some t) (hu : t = u) {d : Tmp} (hdd : o.dst = some d) (hd : fitsD N (some d) = true)
    (k : K (put a (some d) u) σ) : AOp P N o a σ K := by
  generalize some d = dd at *
  subst hdd
  exact (aop_quiet0 hG (hu ▸ he) hd k)

/-- The rest of a region's operations, as they stand in the text. -/
def AL (P : Program) (N : Nat) (ops : Array Oper) (Q : Exit → Env → St → Prop) (k : Nat) (os : List Oper) (a : Env) (σ : St) : Prop :=
  ops.toList.drop k = os → AOps P N ops Q (List.range' k os.length) a σ

theorem aw_regL {id : Nat} {os : List Oper} (h : AL P N ⟨os⟩ Q 0 os a σ) : AW P N (.region id ⟨os⟩ false) Q a σ := by
  refine aw_region ?_
  have := h (by simp)
  rwa [List.range_eq_range']
theorem al_nil {ops : Array Oper} {k : Nat} (h : Q .normal a σ) : AL P N ops Q k [] a σ := fun _ => aops_nil h
theorem al_get {ops : Array Oper} {k : Nat} {o : Oper} {os : List Oper} (h : ops.toList.drop k = o :: os) : ops[k]? = some o ∧ ops.toList.drop (k + 1) = os := by
  constructor
  · have := congrArg (fun l => l[0]?) h
    simpa using this
  · rw [← List.drop_drop, h]; rfl
theorem al_cons {ops : Array Oper} {k : Nat} {o : Oper} {os : List Oper} (hg : guardOf ops a o = some true) (h : AOp P N o a σ (fun a' σ' => AL P N ops Q (k + 1) os a' σ')) : AL P N ops Q k (o :: os) a σ := by
  intro hd
  obtain ⟨h1, h2⟩ := al_get hd
  rw [List.length_cons, List.range'_succ]
  refine aops_cons h1 hg ?_
  intro av w μ hi hr next Qc hn
  exact h av w μ hi hr next Qc fun av' w' μ' a' σ' k1 k2 k3 k4 => hn av' w' μ' a' σ' k1 k2 k3 (k4 h2)
theorem al_s {ops : Array Oper} {k : Nat} {o : Oper} {os : List Oper} (hg : guardOf ops a o = some false) {d : Tmp} (hdd : o.dst = some d) (hd : fitsD N (some d) = true) (h : AL P N ops Q (k + 1) os (put a (some d) (.tup [])) σ) : AL P N ops Q k (o :: os) a σ := by
  generalize some d = dd at *
  subst hdd
  intro hdr
  obtain ⟨h1, h2⟩ := al_get hdr
  rw [List.length_cons, List.range'_succ]
  exact aops_skip h1 hg hd (h h2)

theorem op_call {K : Env → St → Prop} {o : Oper} {f : Operand} {args : Array Operand} {tys : Array TypeId} {g : FuncId} {caps ts : List T} 
    (hop : o.op = .call { callee := .value f, args := args, argTypes := tys }) (hf : evalO a f = some (.fn (.func g) caps)) (ha : argsT a args.toList = some ts) {d : Tmp} (hdd : o.dst = some d) (hd : fitsD N (some d) = true)
    (k : ACalls P g (ts ++ caps) σ (fun r σ' => K (put a (some d) r) σ')) : AOp P N o a σ K := by
  generalize some d = dd at *
  subst hdd
  exact (aop_call hop hf ha hd k)

theorem op_box (hG : Fits P G) {K : Env → St → Prop} {o : Oper} {e : TypeId} {x : Operand} {t : T}
    (hop : o.op = .box e x) (hx : evalO a x = some t) (hraw : notRaw t = true) {d : Tmp} (hdd : o.dst = some d) (hd : fitsD N (some d) = true)
    (k : ∀ i, K (put a (some d) (.ptr i 0)) (σ.new i (.cells t.cells))) : AOp P N o a σ K := by
  generalize some d = dd at *
  subst hdd
  exact (aop_box hG hop hx hraw hd fun i _ => k i)

theorem op_alloc (hG : Fits P G) {K : Env → St → Prop} {o : Oper} {e : TypeId} {ti : TI}
    (hop : o.op = .alloc e) (he : G e = some ti) {d : Tmp} (hdd : o.dst = some d) (hd : fitsD N (some d) = true)
    (k : ∀ i, K (put a (some d) (.ptr i 0)) (σ.new i (.cells ti.tree.cells))) : AOp P N o a σ K := by
  generalize some d = dd at *
  subst hdd
  exact (aop_alloc hG hop he hd fun i _ => k i)

theorem op_callN {K : Env → St → Prop} {o : Oper} {f : Operand} {args : Array Operand} {tys : Array TypeId} {g : FuncId} {caps ts : List T}
    (hop : o.op = .call { callee := .value f, args := args, argTypes := tys }) (hf : evalO a f = some (.fn (.func g) caps)) (ha : argsT a args.toList = some ts) (hdd : o.dst = none)
    (k : ACalls P g (ts ++ caps) σ (fun r σ' => K a σ')) : AOp P N o a σ K :=
  aop_call hop hf ha (by rw [hdd]; rfl) (by rw [hdd]; exact k)

theorem op_store (n : Nat) (hG : Fits P G) {K : Env → St → Prop} {o : Oper} {ty : TypeId} {x y : Operand} {i p : Nat} {t : T} {ts : List T} {ti : TI}
    (hop : o.op = .store ty x y) (hx : evalO a x = some (.ptr i p)) (hob : σ.L[n]? = some (i, .cells ts)) (hy : evalO a y = some t)
    (hsc : (notRaw t && t.cells.all T.scalar) = true) (hty : G ty = some ti) (hsz : Nat.beq t.cells.length ti.size = true) (hle : Nat.ble (p + t.cells.length) ts.length = true) (hdd : o.dst = none)
    (k : K a (σ.set n i (.cells (stored ts t.cells p)))) : AOp P N o a σ K :=
  aop_store hG hop hx hy hob hsc hty hsz hle (by rw [hdd]; rfl) (by rw [hdd]; exact k)

theorem op_load (n : Nat) (hG : Fits P G) {K : Env → St → Prop} {o : Oper} {ty : TypeId} {x : Operand} {i p : Nat} {t : T} {ts : List T}
    (hop : o.op = .load ty x) (hx : evalO a x = some (.ptr i p)) (hob : σ.L[n]? = some (i, .cells ts)) (ht : readT G ty ts p = some t) {d : Tmp} (hdd : o.dst = some d) (hd : fitsD N (some d) = true)
    (k : K (put a (some d) t) σ) : AOp P N o a σ K := by
  generalize some d = dd at *
  subst hdd
  intro av w μ hi hr next Qc hn
  have rx := evalO_rel hr hx
  generalize hv : av.eval x = vx at rx
  cases rx with
  | ptr i b q p hl =>
    obtain ⟨b', q', hl', hcells⟩ := hi.cells (List.mem_of_getElem? hob)
    rw [hl] at hl'; injection hl' with hl'; injection hl' with e1 e2; subst e1; subst e2
    obtain ⟨u, hu, ru⟩ := readT_run (P := P) hG hcells ht
    have hrun : (execOp av.eval o).run P w = .ok (.value u) w := by
      simp only [execOp, hop, Instr.loadAt, hv, Instr.sureAddr, Sem.run_bind, Sem.run_pure, Result.andThen_ok, hu]
    unfold Oper.wp
    rw [hrun]
    exact hn _ _ _ _ _ (.refl _ _ _) hi (hr.put hd ru) k

theorem op_append (n : Nat) (hG : Fits P G) {K : Env → St → Prop} {o : Oper} {x y : Operand} {t1 t2 : TypeId} {e sz : Nat} {i1 i2 ie : TI} {k0 : Nat} {xs ys : List T} {ty : T}
    (hop : o.op = .call { callee := .builtin .append, args := #[x, y], argTypes := #[t1, t2] }) (hx : evalO a x = some (.sl sz (.tok k0) xs)) (hRn : σ.R[n]? = some k0) (hnx : σ.nx = none) (h1 : G t1 = some i1) (h1d : i1.d = .slice e) (he : G e = some ie) (h2 : G t2 = some i2) (h2d : ∃ e2, i2.d = .slice e2)
    (hy : evalO a y = some ty) (hsrc : srcOf (fun _ => none) sz ty = some ys) (hsz : (Nat.beq sz ie.size && Nat.blt 0 sz && Nat.ble ie.bytes 4096) = true) {d : Tmp} (hdd : o.dst = some d) (hd : fitsD N (some d) = true)
    (hsc : Scal ys) (hlen : xs.length + ys.length ≤ 4294967296)
    (k : ∀ k', K (put a (some d) (.sl sz (.tok k') (xs ++ ys))) (σ.tk n k')) : AOp P N o a σ K := by
  generalize some d = dd at *
  subst hdd
  exact aop_append hG hop h1 h1d he h2 h2d hx hy hsrc hsz hnx hRn hsc hlen hd k
theorem op_append0 (hG : Fits P G) {K : Env → St → Prop} {o : Oper} {x y : Operand} {t1 t2 : TypeId} {e sz : Nat} {i1 i2 ie : TI} {xs ys : List T} {tx ty : T}
    (hop : o.op = .call { callee := .builtin .append, args := #[x, y], argTypes := #[t1, t2] }) (hx : evalO a x = some tx) (hnr : noRoom tx = some xs) (hnx : σ.nx = none) (h1 : G t1 = some i1) (h1d : i1.d = .slice e) (he : G e = some ie) (h2 : G t2 = some i2) (h2d : ∃ e2, i2.d = .slice e2)
    (hnz : noRoomSz ie.size tx = true) (hy : evalO a y = some ty) (hsrc : srcOf (fun _ => none) ie.size ty = some ys) (hsz : (Nat.blt 0 ie.size && Nat.ble ie.bytes 4096) = true) {d : Tmp} (hdd : o.dst = some d) (hd : fitsD N (some d) = true)
    (hsc : Scal ys) (hlen : xs.length + ys.length ≤ 4294967296)
    (k : ∀ k', K (put a (some d) (.sl ie.size (.tok k') (xs ++ ys))) { σ with R := k' :: σ.R }) : AOp P N o a σ K := by
  generalize some d = dd at *
  subst hdd
  rw [Bool.and_eq_true] at hsz
  exact aop_append0 hG hop h1 h1d he h2 h2d hx hnr hnz hy hsrc (by simp [hsz]) hnx hsc hlen hd k

theorem op_mkslice (hG : Fits P G) {K : Env → St → Prop} {o : Oper} {t : TypeId} {len e : Nat} {parts : Array (Nat × Operand)} {ti ie : TI} {pt : List (Nat × T)}
    (hop : o.op = .buildSlice t len parts) (ht : G t = some ti) (htd : ti.d = .slice e) (he : G e = some ie) (hp : partsT a parts.toList = some pt)
    (hok : (decide (pt.map Prod.fst = List.range' 0 len) && Nat.beq pt.length len && (pt.all fun p => notRaw p.2 && Nat.beq p.2.cells.length ie.size) && Nat.ble (len * ie.size) 16777216 && Nat.blt 0 ie.size) = true) {d : Tmp} (hdd : o.dst = some d) (hd : fitsD N (some d) = true)
    (k : K (put a (some d) (.sl ie.size .full (pt.map Prod.snd))) σ) : AOp P N o a σ K := by
  generalize some d = dd at *
  subst hdd
  exact
  (aop_buildSlice hG hop ht htd he hp hok hd k)

theorem op_build (hG : Fits P G) {K : Env → St → Prop} {o : Oper} {t : TypeId} {parts : Array (Nat × Operand)} {ti : TI} {pt : List (Nat × T)} {cs : List T}
    (hop : o.op = .build t parts) (ht : G t = some ti) (hpl : (placesOk G ti) = true) (hp : partsT a parts.toList = some pt) (hf : treeFill (placeOf G ti) (ti.zero.map Z.tree) pt = some cs) {d : Tmp} (hdd : o.dst = some d) (hd : fitsD N (some d) = true)
    (k : K (put a (some d) (.agg cs)) σ) : AOp P N o a σ K := by
  generalize some d = dd at *
  subst hdd
  exact (aop_build hG hop ht hpl hp hf hd k)

/-- '== nil' of a slice of which it is not known whether it is nil: both ways (if it is empty). -/
theorem op_eqnil (hG : Fits P G) {K : Env → St → Prop} {o : Oper} {op : BinOp} {xt yt : TypeId} {x y : Operand} {sz : Nat} {own : Own} {xs : List T} {ti : TI} {e : Nat}
    (hop : o.op = .binOp op xt x y yt) (hop2 : isEq op = some true) (ht : G xt = some ti) (htd : ti.d = .slice e)
    (hx : evalO a x = some (.sl sz own xs)) (hy : evalO a y = some .nilsl) {d : Tmp} (hdd : o.dst = some d) (hd : fitsD N (some d) = true)
    (k : ∀ b : Bool, (b = true → xs = []) → K (put a (some d) (.bool b)) σ) : AOp P N o a σ K := by
  generalize some d = dd at *
  subst hdd
  intro av w μ hi hr next Qc hn
  obtain rfl : op = .eql := by cases op <;> simp [isEq] at hop2; rfl
  have rx := evalO_rel hr hx
  have ry := evalO_rel hr hy
  obtain ⟨d1, u1, f1⟩ := g_under (P := P) (w := w) hG ht
  rw [htd] at f1; obtain rfl := td_slice f1
  generalize hvy : av.eval y = vy at ry
  cases ry
  have run : ∀ (vx : Value) (b : Bool), av.eval x = vx → (∀ n, (Op.equalIn (n + 1) xt vx (.slice none 0 0)).run P w = .ok b w) → (eqGuard .eql xt x y vx (.slice none 0 0)).run P w = .ok () w →
      (binOp .eql xt vx (.slice none 0 0)).run P w = .ok (.bool b) w → (execOp av.eval o).run P w = .ok (.value (.bool b)) w := by
    intro vx b hvx h1 h2 h3
    simp [execOp, hop, hvx, hvy, h2, h3]
  generalize hvx : av.eval x = vx at rx
  cases rx with
  | slnil =>
    have hrun : (execOp av.eval o).run P w = .ok (.value (.bool true)) w := by
      refine run _ true hvx (fun n => by simp [Op.equalIn, u1]) rfl ?_
      simp only [binOp, equal_unf]
      generalize 9999 = n
      simp [Op.equalIn, u1]
    unfold Oper.wp
    rw [hrun]
    exact hn _ _ _ _ _ (.refl _ _ _) hi (hr.put hd (.bool _)) (k true fun _ => rfl)
  | slz ad sz own h =>
    have hrun : (execOp av.eval o).run P w = .ok (.value (.bool false)) w := by
      refine run _ false hvx (fun n => by simp [Op.equalIn, u1]) rfl ?_
      simp only [binOp, equal_unf]
      generalize 9999 = n
      simp [Op.equalIn, u1]
    unfold Oper.wp
    rw [hrun]
    exact hn _ _ _ _ _ (.refl _ _ _) hi (hr.put hd (.bool _)) (k false fun h => by cases h)
  | sl b p cap sz own xs n hxn hc ho hs h r =>
    have hrun : (execOp av.eval o).run P w = .ok (.value (.bool false)) w := by
      refine run _ false hvx (fun n => by simp [Op.equalIn, u1]) rfl ?_
      simp only [binOp, equal_unf]
      generalize 9999 = n
      simp [Op.equalIn, u1]
    unfold Oper.wp
    rw [hrun]
    exact hn _ _ _ _ _ (.refl _ _ _) hi (hr.put hd (.bool _)) (k false fun h => by cases h)

theorem acalls_mk (hG : Fits P G) {f : FuncId} {fn : Func} {c : Code} {ts : List T} {R : T → St → Prop} {rs : List ResultVar} (hf : P.funcs[f]? = some fn) (hb : fn.body = some c) (hN : fn.ntmps = N) (hrs : fn.results.toList = rs) (hname : (fn.name == "runtime.NumGoroutine") = false) (hlen : Nat.ble ts.length N = true)
    (h : AW P N c (retA G rs R) (envOf 0 ts) σ) : ACalls P f ts σ R := by
  subst hN; subst hrs
  exact acalls_of hG hf hb (by simpa using hname) (Nat.le_of_ble_eq_true hlen) h

/-- A test: both ways, the value a literal. -/
theorem op_d (hG : Fits P G) {K : Env → St → Prop} {o : Oper} {p : Prop} {inst : Decidable p} (hcc : cmpOp o.op = true) (he : evalOp G (fun _ => none) (evalO a) o.op = some (.bool (@decide p inst))) {d : Tmp} (hdd : o.dst = some d) (hd : fitsD N (some d) = true)
    (kt : p → K (put a (some d) (.bool true)) σ) (kf : ¬ p → K (put a (some d) (.bool false)) σ) : AOp P N o a σ K := by
  by_cases h : p
  · exact op_q' hG (.bool true) he (by rw [decide_eq_true h]) hdd hd (kt h)
  · exact op_q' hG (.bool false) he (by rw [decide_eq_false h]) hdd hd (kf h)
theorem op_e (hG : Fits P G) {K : Env → St → Prop} {o : Oper} {x y : Int} (hcc : cmpOp o.op = true) (he : evalOp G (fun _ => none) (evalO a) o.op = some (.bool (x == y))) {d : Tmp} (hdd : o.dst = some d) (hd : fitsD N (some d) = true)
    (kt : x = y → K (put a (some d) (.bool true)) σ) (kf : ¬ x = y → K (put a (some d) (.bool false)) σ) : AOp P N o a σ K := by
  by_cases h : x = y
  · exact op_q' hG (.bool true) he (by rw [beq_iff_eq.2 h]) hdd hd (kt h)
  · exact op_q' hG (.bool false) he (by rw [beq_eq_false_iff_ne.2 h]) hdd hd (kf h)
theorem op_ne (hG : Fits P G) {K : Env → St → Prop} {o : Oper} {x y : Int} (hcc : cmpOp o.op = true) (he : evalOp G (fun _ => none) (evalO a) o.op = some (.bool (x != y))) {d : Tmp} (hdd : o.dst = some d) (hd : fitsD N (some d) = true)
    (kt : ¬ x = y → K (put a (some d) (.bool true)) σ) (kf : x = y → K (put a (some d) (.bool false)) σ) : AOp P N o a σ K := by
  by_cases h : x = y
  · exact op_q' hG (.bool false) he (by rw [show (x != y) = false by simp [h]]) hdd hd (kf h)
  · exact op_q' hG (.bool true) he (by rw [show (x != y) = true by simp [h]]) hdd hd (kt h)
/-- any Bool that is not settled. -/
theorem op_b (hG : Fits P G) {K : Env → St → Prop} {o : Oper} {b : Bool} (he : evalOp G (fun _ => none) (evalO a) o.op = some (.bool b)) {d : Tmp} (hdd : o.dst = some d) (hd : fitsD N (some d) = true)
    (kt : b = true → K (put a (some d) (.bool true)) σ) (kf : b = false → K (put a (some d) (.bool false)) σ) : AOp P N o a σ K := by
  cases b with
  | true => exact op_q hG he hdd hd (kt rfl)
  | false => exact op_q hG he hdd hd (kf rfl)

theorem aw_if_t {c : Operand} {x y : Code} (hc : evalO a c = some (.bool true)) (h : AW P N x Q a σ) : AW P N (.cond c x y) Q a σ := aw_cond hc h
theorem aw_if_f {c : Operand} {x y : Code} (hc : evalO a c = some (.bool false)) (h : AW P N y Q a σ) : AW P N (.cond c x y) Q a σ := aw_cond hc h
theorem aw_if {c : Operand} {x y : Code} {b : Bool} (hc : evalO a c = some (.bool b)) (ht : b = true → AW P N x Q a σ) (hf : b = false → AW P N y Q a σ) : AW P N (.cond c x y) Q a σ := by
  cases b with
  | true => exact aw_cond hc (ht rfl)
  | false => exact aw_cond hc (hf rfl)

theorem aw_ret' {R : T → St → Prop} {rs : List ResultVar} {ts : List T} (u : T) (σ1 : St) (h : ResRs G a σ rs ts) (hw : Conv σ (tup1 ts) σ1 u) (k : R u σ1) : retA G rs R .ret a σ := ⟨ts, h, hw.cr k⟩
theorem res_nil : ResRs G a σ [] [] := rfl
theorem res_tmp {x : Tmp} {t : T} {rs : List ResultVar} {ts : List T} (h : get a x = some t) (k : ResRs G a σ rs ts) : ResRs G a σ (.tmp x :: rs) (t :: ts) := ⟨t, ts, h, k, rfl⟩
theorem res_cell (n : Nat) {x : Tmp} {ty : TypeId} {i o : Nat} {cs : List T} {t : T} {rs : List ResultVar} {ts : List T} (h : get a x = some (.ptr i o)) (ho : σ.L[n]? = some (i, .cells cs)) (hr : readT G ty cs o = some t) (k : ResRs G a σ rs ts) :
    ResRs G a σ (.cell x ty :: rs) (t :: ts) := ⟨t, ts, ⟨n, i, o, cs, h, ho, hr⟩, k, rfl⟩
/-- All that was the call's own is let go. -/
theorem conv_drop {t u : T} {L' : List (Nat × Ob)} {R' : List Nat} (hL : L'.Sublist σ.L) (hR : R'.Sublist σ.R) (h : Wk t u) : Conv σ t ⟨L', R', σ.off, σ.nx⟩ u := (Conv.g (keep_step hL hR)).trans (Conv.wk h)
theorem i64_in {n : Int} (h1 : -9223372036854775808 ≤ n) (h2 : n ≤ 9223372036854775807) : IntKind.i64.wrap n = n := by
  unfold IntKind.wrap; simp [IntKind.bits, IntKind.signed]; omega
theorem u8_in {n : Int} (h1 : 0 ≤ n) (h2 : n < 256) : IntKind.u8.wrap n = n := by
  unfold IntKind.wrap; simp [IntKind.bits, IntKind.signed]; omega
theorem u16_in {n : Int} (h1 : 0 ≤ n) (h2 : n < 65536) : IntKind.u16.wrap n = n := by
  unfold IntKind.wrap; simp [IntKind.bits, IntKind.signed]; omega
theorem u64_in {n : Int} (h1 : 0 ≤ n) (h2 : n < 18446744073709551616) : IntKind.u64.wrap n = n := by
  unfold IntKind.wrap; simp [IntKind.bits, IntKind.signed]; omega
theorem u8_wrap (n : Int) : IntKind.u8.wrap n = n % 256 := by unfold IntKind.wrap; simp [IntKind.bits, IntKind.signed]
theorem u16_wrap (n : Int) : IntKind.u16.wrap n = n % 65536 := by unfold IntKind.wrap; simp [IntKind.bits, IntKind.signed]
theorem u64_wrap (n : Int) : IntKind.u64.wrap n = n % 18446744073709551616 := by unfold IntKind.wrap; simp [IntKind.bits, IntKind.signed]

theorem Wk.int {k : IntKind} {x y : Int} (h : x = y) : Wk (.int k x) (.int k y) := by subst h; exact .refl _
theorem Wk.eq {x y : T} (h : x = y) : Wk x y := by subst h; exact .refl _

/-- sums that need no wrap -/
theorem op_w {K : Env → St → Prop} {o : Oper} {x : Int} (hG : Fits P G) (hcc : arithOp o.op = true) (he : evalOp G (fun _ => none) (evalO a) o.op = some (.int .i64 (IntKind.i64.wrap x))) {d : Tmp} (hdd : o.dst = some d) (hd : fitsD N (some d) = true)
    (hx : -9223372036854775808 ≤ x ∧ x ≤ 9223372036854775807) (k : K (put a (some d) (.int .i64 x)) σ) : AOp P N o a σ K := by
  exact
  op_q' hG _ he (by rw [i64_in hx.1 hx.2]) hdd hd k
theorem op_w8 {K : Env → St → Prop} {o : Oper} {x : Int} (hG : Fits P G) (hcc : arithOp o.op = true) (he : evalOp G (fun _ => none) (evalO a) o.op = some (.int .u8 (IntKind.u8.wrap x))) {d : Tmp} (hdd : o.dst = some d) (hd : fitsD N (some d) = true)
    (hx : 0 ≤ x ∧ x < 256) (k : K (put a (some d) (.int .u8 x)) σ) : AOp P N o a σ K := by
  exact
  op_q' hG _ he (by rw [u8_in hx.1 hx.2]) hdd hd k
theorem op_w16 {K : Env → St → Prop} {o : Oper} {x : Int} (hG : Fits P G) (hcc : arithOp o.op = true) (he : evalOp G (fun _ => none) (evalO a) o.op = some (.int .u16 (IntKind.u16.wrap x))) {d : Tmp} (hdd : o.dst = some d) (hd : fitsD N (some d) = true)
    (hx : 0 ≤ x ∧ x < 65536) (k : K (put a (some d) (.int .u16 x)) σ) : AOp P N o a σ K := by
  exact
  op_q' hG _ he (by rw [u16_in hx.1 hx.2]) hdd hd k
theorem op_wu {K : Env → St → Prop} {o : Oper} {x : Int} (hG : Fits P G) (hcc : arithOp o.op = true) (he : evalOp G (fun _ => none) (evalO a) o.op = some (.int .u64 (IntKind.u64.wrap x))) {d : Tmp} (hdd : o.dst = some d) (hd : fitsD N (some d) = true)
    (hx : 0 ≤ x ∧ x < 18446744073709551616) (k : K (put a (some d) (.int .u64 x)) σ) : AOp P N o a σ K := by
  exact
  op_q' hG _ he (by rw [u64_in hx.1 hx.2]) hdd hd k

theorem op_idx (hG : Fits P G) {K : Env → St → Prop} {o : Oper} {t : TypeId} {x ix : Operand} {k : IntKind} {n : Int} {sz e : Nat} {own : Own} {xs : List T} {y : T} {ti te : TI}
    (hop : o.op = .indexAddr t x ix) (hn : evalO a ix = some (.int k n)) (hx : evalO a x = some (.sl sz own xs)) (ht : G t = some ti) (htd : ti.d = .slice e) (hte : G e = some te) (hsz : Nat.beq sz te.size = true) {d : Tmp} (hdd : o.dst = some d) (hd : fitsD N (some d) = true)
    (h0 : 0 ≤ n) (hy : xs[n.toNat]? = some y) (kk : K (put a (some d) (.ro y 0)) σ) : AOp P N o a σ K := by
  refine op_q hG ?_ hdd hd kk
  obtain ⟨d, s1, s2, s3⟩ := ti
  simp only at htd; subst htd
  simp only [hop, evalOp, hn, ht, hx, sizeT, hte, Option.map_some, h0, decide_true, cond_true, hsz, hy]

theorem op_shr (hG : Fits P G) {K : Env → St → Prop} {o : Oper} {t yt : TypeId} {x y : Operand} {k k' : IntKind} {n m : Int} {ti : TI}
    (hop : o.op = .binOp .shr t x y yt) (ht : G t = some ti) (hx : evalO a x = some (.int k n)) (hy : evalO a y = some (.int k' m)) {d : Tmp} (hdd : o.dst = some d) (hd : fitsD N (some d) = true)
    (h0 : 0 ≤ m) (kk : K (put a (some d) (.int k (n / 2 ^ (min m.toNat k.bits)))) σ) : AOp P N o a σ K := by
  refine op_q hG ?_ hdd hd kk
  have : ¬ m < 0 := by omega
  simp only [hop, evalOp, hx, hy, ht, evalBin, isShift, cond_true, evalShift, this, decide_false, cond_false]
  rw [Int.fdiv_eq_ediv_of_nonneg _ (Int.pow_nonneg (by omega))]

theorem op_slice (hG : Fits P G) {K : Env → St → Prop} {o : Oper} {t : TypeId} {x : Operand} {lo hi : Option Operand} {k k' : IntKind} {l h : Int} {sz e : Nat} {own : Own} {xs : List T} {ti te : TI}
    (hop : o.op = .slice t x lo hi none) (hx : evalO a x = some (.sl sz own xs)) (hl : (lo.map (evalO a)).getD (some (.int .i64 0)) = some (.int k l)) (hh : (hi.map (evalO a)).getD (some (.int .i64 xs.length)) = some (.int k' h))
    (ht : G t = some ti) (htd : ti.d = .slice e) (hte : G e = some te) (hsz : Nat.beq sz te.size = true) {d : Tmp} (hdd : o.dst = some d) (hd : fitsD N (some d) = true)
    (hb : 0 ≤ l ∧ l ≤ h ∧ h ≤ xs.length) (kk : K (put a (some d) (.sl sz (cond (h == (xs.length : Int)) own .no) ((xs.take h.toNat).drop l.toNat))) σ) : AOp P N o a σ K := by
  refine op_q hG ?_ hdd hd kk
  obtain ⟨d, s1, s2, s3⟩ := ti
  simp only at htd; subst htd
  simp only [hop, evalOp, ht, sizeT, hte, Option.map_some, hx, hl, hh, hsz, hb.1, hb.2.1, hb.2.2, decide_true, Bool.and_self, cond_true]

def plainOp : Op → Bool
  | .move _ | .assign _ | .load .. | .fieldAddr .. | .field .. | .extract .. | .nilCheck _ | .makeFunc .. => true
  | .call { callee := .builtin .len, .. } => true
  | .call { callee := .builtin .cap, .. } => true
  | _ => false
/-- the operations that ask for no other rule. -/
theorem op_m (hG : Fits P G) {K : Env → St → Prop} {o : Oper} {t : T} (hp : plainOp o.op = true) (he : evalOp G (fun _ => none) (evalO a) o.op = some t) {d : Tmp} (hdd : o.dst = some d) (hd : fitsD N (some d) = true)
    (k : K (put a (some d) t) σ) : AOp P N o a σ K := op_q hG he hdd hd k

theorem op_idx_aref (hG : Fits P G) {K : Env → St → Prop} {o : Oper} {t : TypeId} {x ix : Operand} {k : IntKind} {n : Int} {sz e i p len : Nat} {cap : Option Nat} {ti te : TI}
    (hop : o.op = .indexAddr t x ix) (hn : evalO a ix = some (.int k n)) (hx : evalO a x = some (.aref sz i p len cap)) (ht : G t = some ti) (htd : ti.d = .slice e) (hte : G e = some te) (hsz : Nat.beq sz te.size = true) {d : Tmp} (hdd : o.dst = some d) (hd : fitsD N (some d) = true)
    (h0 : 0 ≤ n ∧ n < len) (kk : K (put a (some d) (.ptr i (p + n.toNat * sz))) σ) : AOp P N o a σ K := by
  refine op_q hG ?_ hdd hd kk
  obtain ⟨d, s1, s2, s3⟩ := ti
  simp only at htd; subst htd
  simp only [hop, evalOp, hn, ht, hx, sizeT, hte, Option.map_some, h0.1, h0.2, decide_true, cond_true, hsz, Bool.and_self]

/-- Lists of values of one cell each, one by one. -/
theorem Wk.list {sz : Nat} {own : Own} {xs ys : List T} (hl : xs.length = ys.length) (h : ∀ (i : Nat) (x y : T), xs[i]? = some x → ys[i]? = some y → x.scalar = true ∧ y.scalar = true ∧ Wk x y) : Wk (.sl sz own xs) (.sl sz own ys) := by
  intro w μ σ v r
  have hx : ∀ (i : Nat) (y : T), ys[i]? = some y → ∃ x, xs[i]? = some x ∧ x.scalar = true ∧ y.scalar = true ∧ Wk x y := by
    intro i y hy
    have hi : i < xs.length := by
      rcases Nat.lt_or_ge i ys.length with h' | h'
      · omega
      · rw [List.getElem?_eq_none h'] at hy; cases hy
    exact ⟨xs[i], List.getElem?_eq_getElem hi, h i _ y (List.getElem?_eq_getElem hi) hy⟩
  cases r with
  | slnil sz own h0 => cases ys with
    | nil => exact .slnil _ _ h0
    | cons y ys => simp at hl
  | slz ad sz own h0 => cases ys with
    | nil => exact .slz ad _ _ h0
    | cons y ys => simp at hl
  | sl b p cap sz own xs n hn hc ho hs h0 r0 =>
    refine .sl b p cap sz own ys n (by omega) hc ho (fun i y hy => ?_) (fun i y j c hy hj => ?_) (fun i y j c v hy hj hv => ?_)
    · obtain ⟨x, hx1, hx2, hx3, _⟩ := hx i y hy
      have := hs i x hx1
      rw [scalar_cells hx2] at this; rw [scalar_cells hx3]; exact this
    · obtain ⟨x, hx1, hx2, hx3, _⟩ := hx i y hy
      rw [scalar_cells hx3] at hj
      cases j with
      | zero => exact h0 i x 0 x hx1 (by rw [scalar_cells hx2]; rfl)
      | succ j => simp at hj
    · obtain ⟨x, hx1, hx2, hx3, hw⟩ := hx i y hy
      rw [scalar_cells hx3] at hj
      cases j with
      | zero => simp at hj; subst hj; exact hw _ _ _ _ (r0 i x 0 x v hx1 (by rw [scalar_cells hx2]; rfl) hv)
      | succ j => simp at hj

theorem Wk.tup {cs ds : List T} (hl : cs.length = ds.length) (h : ∀ (j : Nat) (c d : T), cs[j]? = some c → ds[j]? = some d → Wk c d) : Wk (.tup cs) (.tup ds) := by
  intro w μ σ v r
  cases r with
  | tup cs vs hn r0 =>
    refine .tup ds vs (by omega) (fun j d v hd hv => ?_)
    have hj : j < cs.length := by
      rcases Nat.lt_or_ge j ds.length with h' | h'
      · omega
      · rw [List.getElem?_eq_none h'] at hd; cases hd
    exact h j _ d (List.getElem?_eq_getElem hj) hd w μ σ v (r0 j _ v (List.getElem?_eq_getElem hj) hv)
theorem Wk.agg {cs ds : List T} (hl : cs.length = ds.length) (h : ∀ (j : Nat) (c d : T), cs[j]? = some c → ds[j]? = some d → Wk c d) : Wk (.agg cs) (.agg ds) := by
  intro w μ σ v r
  cases r with
  | agg cs vs hn r0 =>
    refine .agg ds vs (by omega) (fun j d v hd hv => ?_)
    have hj : j < cs.length := by
      rcases Nat.lt_or_ge j ds.length with h' | h'
      · omega
      · rw [List.getElem?_eq_none h'] at hd; cases hd
    exact h j _ d (List.getElem?_eq_getElem hj) hd w μ σ v (r0 j _ v (List.getElem?_eq_getElem hj) hv)
def WkL : List T → List T → Prop
  | [], [] => True
  | c :: cs, d :: ds => Wk c d ∧ WkL cs ds
  | _, _ => False
theorem WkL.get : ∀ {cs ds : List T}, WkL cs ds → cs.length = ds.length ∧ ∀ (j : Nat) (c d : T), cs[j]? = some c → ds[j]? = some d → Wk c d
  | [], [], _ => ⟨rfl, fun j c d h => by simp at h⟩
  | [], _ :: _, h => h.elim
  | _ :: _, [], h => h.elim
  | c :: cs, d :: ds, h => by
    obtain ⟨h1, h2⟩ := h.2.get
    refine ⟨by simp [h1], fun j x y hx hy => ?_⟩
    cases j with
    | zero => simp at hx hy; subst hx; subst hy; exact h.1
    | succ j => exact h2 j x y (by simpa using hx) (by simpa using hy)
theorem Wk.tupL {cs ds : List T} (h : WkL cs ds) : Wk (.tup cs) (.tup ds) := .tup h.get.1 h.get.2
theorem Wk.aggL {cs ds : List T} (h : WkL cs ds) : Wk (.agg cs) (.agg ds) := .agg h.get.1 h.get.2
theorem ACalls.weakL {f : FuncId} {ts us : List T} {R : T → St → Prop} (h : ACalls P f us σ R) (hw : WkL ts us) : ACalls P f ts σ R := h.weak hw.get.1 hw.get.2

theorem wk1 {a b : T} (h1 : Wk a b) : WkL [a] [b] := And.intro h1 trivial
theorem wk2 {a b c d : T} (h1 : Wk a b) (h2 : Wk c d) : WkL [a, c] [b, d] := And.intro h1 (wk1 h2)
theorem wk3 {a b c d e f : T} (h1 : Wk a b) (h2 : Wk c d) (h3 : Wk e f) : WkL [a, c, e] [b, d, f] := And.intro h1 (wk2 h2 h3)
theorem wk4 {a b c d e f g h : T} (h1 : Wk a b) (h2 : Wk c d) (h3 : Wk e f) (h4 : Wk g h) : WkL [a, c, e, g] [b, d, f, h] := And.intro h1 (wk3 h2 h3 h4)
theorem wkc {a b : T} {l m : List T} (h1 : Wk a b) (h2 : WkL l m) : WkL (a :: l) (b :: m) := And.intro h1 h2

/-- A function that only answers: it is called in any state. -/
def Pure (P : Program) (f : FuncId) (ts : List T) (r : T) : Prop := ∀ off, ACalls P f ts ⟨[], [], off, none⟩ (fun u σ' => u = r ∧ σ' = ⟨[], [], off, none⟩)
theorem Pure.calls {f : FuncId} {ts : List T} {r : T} (h : Pure P f ts r) (hnx : σ.nx = none) {R : T → St → Prop} (k : R r σ) : ACalls P f ts σ R := by
  refine (frame (Ls := []) (Lf := σ.L) (List.Perm.refl _) (R := fun u L R => u = r ∧ L = [] ∧ R = []) hnx fun off => (h off).mono fun u σ' ⟨h1, h2⟩ => by subst h2; exact ⟨rfl, h1, rfl, rfl⟩).mono ?_
  rintro u σ' ⟨L', R', ⟨rfl, rfl, rfl⟩, rfl⟩
  obtain ⟨L, R, off, nx⟩ := σ
  simp only at hnx; subst hnx
  exact k
/-- A function whose answer is a slice of its own. -/
def Owns (P : Program) (f : FuncId) (ts : List T) (sz : Nat) (xs : List T) : Prop := ∀ off, ACalls P f ts ⟨[], [], off, none⟩ (fun u σ' => ∃ k, u = .sl sz (.tok k) xs ∧ σ' = ⟨[], [k], off, none⟩)
theorem Owns.calls {f : FuncId} {ts : List T} {sz : Nat} {xs : List T} (h : Owns P f ts sz xs) (hnx : σ.nx = none) {R : T → St → Prop} (k : ∀ k, R (.sl sz (.tok k) xs) { σ with R := k :: σ.R }) : ACalls P f ts σ R := by
  refine (frame (Ls := []) (Lf := σ.L) (List.Perm.refl _) (R := fun u L R => ∃ k, u = .sl sz (.tok k) xs ∧ L = [] ∧ R = [k]) hnx fun off => (h off).mono fun u σ' ⟨k, h1, h2⟩ => by subst h2; exact ⟨rfl, k, h1, rfl, rfl⟩).mono ?_
  rintro u σ' ⟨L', R', ⟨k0, rfl, rfl, rfl⟩, rfl⟩
  obtain ⟨L, R, off, nx⟩ := σ
  simp only at hnx; subst hnx
  exact k k0
theorem ACalls.conv {f : FuncId} {ts : List T} {R R' : T → St → Prop} (h : ACalls P f ts σ R) (k : ∀ t σ1, R t σ1 → CR σ1 t R') : ACalls P f ts σ R' := by
  refine ⟨h.1, fun vs w μ hi hs hr => (h.2 vs w μ hi hs hr).mono ?_⟩
  rintro e w' ⟨v, t, σ', μ', rfl, ev, hi', r, hR⟩
  obtain ⟨μ2, σ2, u, g1, g2, g3, hR'⟩ := k t σ' hR w' μ' v hi' r
  exact ⟨v, u, σ2, μ2, rfl, ev.trans g2, g1, g3, hR'⟩
theorem Owns.pure {f : FuncId} {ts : List T} {sz : Nat} {xs : List T} (h : Owns P f ts sz xs) : Pure P f ts (.sl sz .no xs) := by
  intro off
  refine (h off).conv ?_
  rintro t σ1 ⟨k, rfl, rfl⟩
  exact (conv_drop (L' := []) (R' := []) (List.nil_sublist _) (List.nil_sublist _) (Wk.own _ _ _)).cr ⟨rfl, rfl⟩
theorem Pure.weak {f : FuncId} {ts us : List T} {r : T} (h : Pure P f us r) (hw : WkL ts us) : Pure P f ts r := fun off => (h off).weakL hw
theorem Owns.weak {f : FuncId} {ts us : List T} {sz : Nat} {xs : List T} (h : Owns P f us sz xs) (hw : WkL ts us) : Owns P f ts sz xs := fun off => (h off).weakL hw
theorem op_pure {K : Env → St → Prop} {o : Oper} {f : Operand} {args : Array Operand} {tys : Array TypeId} {g : FuncId} {caps ts : List T} {r : T}
    (hop : o.op = .call { callee := .value f, args := args, argTypes := tys }) (hf : evalO a f = some (.fn (.func g) caps)) (ha : argsT a args.toList = some ts) {d : Tmp} (hdd : o.dst = some d) (hd : fitsD N (some d) = true) (hnx : σ.nx = none)
    (h : Pure P g (ts ++ caps) r) (k : K (put a (some d) r) σ) : AOp P N o a σ K := op_call hop hf ha hdd hd (h.calls hnx k)
theorem op_owns {K : Env → St → Prop} {o : Oper} {f : Operand} {args : Array Operand} {tys : Array TypeId} {g : FuncId} {caps ts : List T} {sz : Nat} {xs : List T}
    (hop : o.op = .call { callee := .value f, args := args, argTypes := tys }) (hf : evalO a f = some (.fn (.func g) caps)) (ha : argsT a args.toList = some ts) {d : Tmp} (hdd : o.dst = some d) (hd : fitsD N (some d) = true) (hnx : σ.nx = none)
    (h : Owns P g (ts ++ caps) sz xs) (k : ∀ k, K (put a (some d) (.sl sz (.tok k) xs)) { σ with R := k :: σ.R }) : AOp P N o a σ K := op_call hop hf ha hdd hd (h.calls hnx k)

theorem op_tostr (hG : Fits P G) {K : Env → St → Prop} {o : Oper} {src dst : TypeId} {x : Operand} {own : Own} {xs : List T} {s : List UInt8} {e : Nat} {ts td te : TI}
    (hop : o.op = .convert src dst x) (hx : evalO a x = some (.sl 1 own xs)) (hs : G src = some ts) (hsd : ts.d = .slice e) (hd1 : G dst = some td) (hdd1 : td.d = .str) (he : G e = some te) (hed : te.d = .int .u8) {d : Tmp} (hdd : o.dst = some d) (hd : fitsD N (some d) = true)
    (hb : bytesOf xs = some s) (kk : K (put a (some d) (.str s)) σ) : AOp P N o a σ K := by
  refine op_q hG ?_ hdd hd kk
  obtain ⟨d1, s1, s2, s3⟩ := ts
  obtain ⟨d2, t1, t2, t3⟩ := td
  obtain ⟨d3, u1, u2, u3⟩ := te
  simp only at hsd hdd1 hed; subst hsd; subst hdd1; subst hed
  simp only [hop, evalOp, hx, hs, hd1, he, hb, Option.map_some]
theorem bytesOf_map : ∀ (l : List UInt8), bytesOf (l.map bT) = some l
  | [] => rfl
  | x :: l => by
    have hx := x.toNat_lt
    have : byteOfT (bT x) = some x := by
      unfold bT byteOfT
      have h1 : (decide ((0 : Int) ≤ (x.toNat : Int)) && decide ((x.toNat : Int) < 256)) = true := by simp; omega
      simp only [h1, cond_true]
      simp
    simp only [List.map_cons, bytesOf, this, bytesOf_map l]

theorem op_rem (hG : Fits P G) {K : Env → St → Prop} {o : Oper} {t yt : TypeId} {x y : Operand} {k : IntKind} {n m : Int} {ti : TI}
    (hop : o.op = .binOp .rem t x y yt) (ht : G t = some ti) (hx : evalO a x = some (.int k n)) (hy : evalO a y = some (.int k m)) {d : Tmp} (hdd : o.dst = some d) (hd : fitsD N (some d) = true)
    (h0 : 0 ≤ n ∧ 0 < m) (kk : K (put a (some d) (.int k (n % m))) σ) : AOp P N o a σ K := by
  refine op_q hG ?_ hdd hd kk
  have h1 : (m == 0) = false := by simp; omega
  simp only [hop, evalOp, hx, hy, ht, evalBin, isShift, cond_false, decide_true, cond_true, evalInt, h1, Int.tmod_eq_emod_of_nonneg h0.1]
theorem op_quo (hG : Fits P G) {K : Env → St → Prop} {o : Oper} {t yt : TypeId} {x y : Operand} {k : IntKind} {n m : Int} {ti : TI}
    (hop : o.op = .binOp .quo t x y yt) (ht : G t = some ti) (hx : evalO a x = some (.int k n)) (hy : evalO a y = some (.int k m)) {d : Tmp} (hdd : o.dst = some d) (hd : fitsD N (some d) = true)
    (h0 : 0 ≤ n ∧ 0 < m) (kk : K (put a (some d) (.int k (k.wrap (n / m)))) σ) : AOp P N o a σ K := by
  refine op_q hG ?_ hdd hd kk
  have h1 : (m == 0) = false := by simp; omega
  simp only [hop, evalOp, hx, hy, ht, evalBin, isShift, cond_false, decide_true, cond_true, evalInt, h1, Int.tdiv_eq_ediv_of_nonneg h0.1]
theorem op_beq (hG : Fits P G) {K : Env → St → Prop} {o : Oper} {x y : List UInt8} (hcc : cmpOp o.op = true) (he : evalOp G (fun _ => none) (evalO a) o.op = some (.bool (x == y))) {d : Tmp} (hdd : o.dst = some d) (hd : fitsD N (some d) = true)
    (kt : x = y → K (put a (some d) (.bool true)) σ) (kf : ¬ x = y → K (put a (some d) (.bool false)) σ) : AOp P N o a σ K := by
  by_cases h : x = y
  · exact op_q' hG (.bool true) he (by rw [beq_iff_eq.2 h]) hdd hd (kt h)
  · exact op_q' hG (.bool false) he (by rw [beq_eq_false_iff_ne.2 h]) hdd hd (kf h)
theorem op_trem (hG : Fits P G) {K : Env → St → Prop} {o : Oper} {t yt : TypeId} {x y : Operand} {k : IntKind} {n m : Int} {ti : TI}
    (hop : o.op = .binOp .rem t x y yt) (ht : G t = some ti) (hx : evalO a x = some (.int k n)) (hy : evalO a y = some (.int k m)) {d : Tmp} (hdd : o.dst = some d) (hd : fitsD N (some d) = true)
    (h0 : 0 < m) (kk : K (put a (some d) (.int k (n.tmod m))) σ) : AOp P N o a σ K := by
  refine op_q hG ?_ hdd hd kk
  have h1 : (m == 0) = false := by simp; omega
  simp only [hop, evalOp, hx, hy, ht, evalBin, isShift, cond_false, decide_true, cond_true, evalInt, h1]
theorem op_shl (hG : Fits P G) {K : Env → St → Prop} {o : Oper} {t yt : TypeId} {x y : Operand} {k k' : IntKind} {n m : Int} {ti : TI}
    (hop : o.op = .binOp .shl t x y yt) (ht : G t = some ti) (hx : evalO a x = some (.int k n)) (hy : evalO a y = some (.int k' m)) {d : Tmp} (hdd : o.dst = some d) (hd : fitsD N (some d) = true)
    (h0 : 0 ≤ m) (kk : K (put a (some d) (.int k (k.wrap (n * 2 ^ (min m.toNat k.bits))))) σ) : AOp P N o a σ K := by
  refine op_q hG ?_ hdd hd kk
  have : ¬ m < 0 := by omega
  simp only [hop, evalOp, hx, hy, ht, evalBin, isShift, cond_true, evalShift, this, decide_false, cond_false]
/-- A pure answer out of whatever state. -/
theorem ret_pure {rs : List ResultVar} {ts : List T} {r : T} (h : ResRs G a σ rs ts) (hw : Wk (tup1 ts) r) (hnx : σ.nx = none) : retA G rs (fun u σ' => u = r ∧ σ' = ⟨[], [], σ.off, none⟩) .ret a σ := by
  refine ⟨ts, h, ((conv_drop (L' := []) (R' := []) (List.nil_sublist _) (List.nil_sublist _) hw).cr ⟨rfl, ?_⟩)⟩
  rw [hnx]
/-- A slice of one's own. -/
theorem ret_owns (n : Nat) {rs : List ResultVar} {k sz : Nat} {xs ys : List T} (h : ResRs G a σ rs [.sl sz (.tok k) ys]) (hn : σ.R[n]? = some k) (he : ys = xs) (hnx : σ.nx = none) : retA G rs (fun u σ' => ∃ k, u = .sl sz (.tok k) xs ∧ σ' = ⟨[], [k], σ.off, none⟩) .ret a σ := by
  subst he
  refine ⟨_, h, ((conv_drop (L' := []) (R' := [k]) (List.nil_sublist _) (List.singleton_sublist.2 (List.mem_of_getElem? hn)) (Wk.refl _)).cr ⟨k, rfl, ?_⟩)⟩
  rw [hnx]
theorem tok_value {w : World} {μ : Gh} (hi : Inv w μ σ) (hnx : σ.nx = none) {v : Value} {t : T} {sz : Nat} {xs : List T} (r : Rel w μ σ v t) (h1 : noRoom t = some xs) (h2 : noRoomSz sz t = true) :
    ∃ k μ', Ev w μ σ w μ' { σ with R := k :: σ.R } ∧ Inv w μ' { σ with R := k :: σ.R } ∧ Rel w μ' { σ with R := k :: σ.R } v (.sl sz (.tok k) xs) := by
  have rx := noRoom_rel r h1 h2
  obtain ⟨k1, f1, f2, f3, f4⟩ := hi.pick
  obtain ⟨x0, hx0, hown⟩ : ∃ x0 : Nat × Nat × Nat, x0.2.1 = x0.2.2 ∧ ∀ w μ' σ', Rel w μ' σ' v (.sl sz .full xs) → μ'.tok k1 = some x0 → Rel w μ' σ' v (.sl sz (.tok k1) xs) := by
    cases rx with
    | slnil => exact ⟨(0, 0, 0), rfl, fun w μ' σ' r h => .slnil _ _ ⟨_, h, rfl⟩⟩
    | slz ad => exact ⟨(0, 0, 0), rfl, fun w μ' σ' r h => .slz ad _ _ ⟨_, h, rfl⟩⟩
    | sl b p cap sz own xs n hn hc ho hs h0 r0 =>
      refine ⟨(b, p + n * sz, p + cap * sz), ho, fun w μ' σ' r h => ?_⟩
      cases r with
      | slz ad => exact .slz _ _ _ ⟨_, h, ho⟩
      | sl b p cap sz own xs n hn hc ho hs h0 r0 => exact .sl b p cap sz _ xs n hn hc ⟨_, h, .inl rfl⟩ hs h0 r0
  obtain ⟨ev1, hi1⟩ := tok_step hi hnx f1 f2 f4 x0 hx0
  exact ⟨k1, _, ev1, hi1, hown _ _ _ (rx.ev ev1) (addT_same _ _)⟩
theorem ret_owns0 {rs : List ResultVar} {sz : Nat} {t : T} {xs ys : List T} (h : ResRs G a σ rs [t]) (h1 : noRoom t = some ys) (h2 : noRoomSz sz t = true) (he : ys = xs) (hnx : σ.nx = none) : retA G rs (fun u σ' => ∃ k, u = .sl sz (.tok k) xs ∧ σ' = ⟨[], [k], σ.off, none⟩) .ret a σ := by
  subst he
  refine ⟨_, h, fun w μ v hi r => ?_⟩
  obtain ⟨k, μ1, e1, i1, r1⟩ := tok_value hi hnx r h1 h2
  obtain ⟨i2, e2⟩ := keep_step (σ := { σ with R := k :: σ.R }) (L' := []) (R' := [k]) (List.nil_sublist _) (List.singleton_sublist.2 (by simp)) w μ1 i1
  refine ⟨μ1, _, _, i2, e1.trans e2, r1.ev e2, k, rfl, ?_⟩
  rw [hnx]
/-- A room, empty as yet, gets a name. -/
theorem aw_tok0 {c : Code} (i sz : Nat) {t : T} {xs : List T} (hg : get a i = some t) (h1 : noRoom t = some xs) (h2 : noRoomSz sz t = true) (hnx : σ.nx = none) (h : ∀ k, AW P N c Q ((i, .sl sz (.tok k) xs) :: a) { σ with R := k :: σ.R }) : AW P N c Q a σ := by
  intro av w μ hi hr
  obtain ⟨v, hv, r⟩ := hr.tmp i t hg
  obtain ⟨k, μ1, e1, i1, r1⟩ := tok_value hi hnx r h1 h2
  have hr1 := hr.ev e1
  refine wp_mono (h k av w μ1 i1 ⟨hr1.size, hr1.defers, fun j u hj => ?_⟩) fun e av' w' ⟨a', σ', μ', k1, k2, k3, k4⟩ => ⟨a', σ', μ', e1.trans k1, k2, k3, k4⟩
  by_cases e : i = j
  · subst e
    have : T.sl sz (.tok k) xs = u := by simpa [get] using hj
    subst this
    exact ⟨v, hv, r1⟩
  · exact hr1.tmp j u (by simpa [get, beqF e] using hj)
theorem retA_true {rs : List ResultVar} {R : T → St → Prop} (h : ResRs G a σ rs [.bool true]) (k : R (.bool true) ⟨[], [], σ.off, σ.nx⟩) : retA G rs R .ret a σ :=
  aw_ret' (T.bool true) _ h (conv_drop (List.nil_sublist _) (List.nil_sublist _) (Wk.refl _)) k
theorem op_max {K : Env → St → Prop} {o : Oper} {x y : Operand} {tys : Array TypeId} {k : IntKind} {m n : Int}
    (hop : o.op = .call { callee := .builtin .max, args := #[x, y], argTypes := tys }) (hx : evalO a x = some (.int k m)) (hy : evalO a y = some (.int k n)) {d : Tmp} (hdd : o.dst = some d) (hd : fitsD N (some d) = true)
    (kk : K (put a (some d) (.int k (max m n))) σ) : AOp P N o a σ K := by
  generalize some d = dd at *
  subst hdd
  intro av w μ hi hr next Qc hnx
  have rx := evalO_rel hr hx
  have ry := evalO_rel hr hy
  generalize hvx : av.eval x = vx at rx
  generalize hvy : av.eval y = vy at ry
  cases rx; cases ry
  have hrun : (execOp av.eval o).run P w = .ok (.value (.int k (max m n))) w := by
    simp [execOp, hop, resolve, invoke, builtin, Builtin.max_, Builtin.max2, hvx, hvy]
    omega
  unfold Oper.wp
  rw [hrun]
  exact hnx _ _ _ _ _ (.refl _ _ _) hi (hr.put hd (.int _ _)) kk
theorem op_min {K : Env → St → Prop} {o : Oper} {x y : Operand} {tys : Array TypeId} {k : IntKind} {m n : Int}
    (hop : o.op = .call { callee := .builtin .min, args := #[x, y], argTypes := tys }) (hx : evalO a x = some (.int k m)) (hy : evalO a y = some (.int k n)) {d : Tmp} (hdd : o.dst = some d) (hd : fitsD N (some d) = true)
    (kk : K (put a (some d) (.int k (min m n))) σ) : AOp P N o a σ K := by
  generalize some d = dd at *
  subst hdd
  intro av w μ hi hr next Qc hnx
  have rx := evalO_rel hr hx
  have ry := evalO_rel hr hy
  generalize hvx : av.eval x = vx at rx
  generalize hvy : av.eval y = vy at ry
  cases rx; cases ry
  have hrun : (execOp av.eval o).run P w = .ok (.value (.int k (min m n))) w := by
    simp [execOp, hop, resolve, invoke, builtin, Builtin.min_, Builtin.min2, hvx, hvy]
    omega
  unfold Oper.wp
  rw [hrun]
  exact hnx _ _ _ _ _ (.refl _ _ _) hi (hr.put hd (.int _ _)) kk
/-- Comparisons of a thing with itself. -/
theorem op_eqs (hG : Fits P G) {K : Env → St → Prop} {o : Oper} {x : Int} (hcc : cmpOp o.op = true) (he : evalOp G (fun _ => none) (evalO a) o.op = some (.bool (x == x))) {d : Tmp} (hdd : o.dst = some d) (hd : fitsD N (some d) = true)
    (k : K (put a (some d) (.bool true)) σ) : AOp P N o a σ K := by
  exact op_q' hG (.bool true) he (by simp) hdd hd k
theorem op_nes (hG : Fits P G) {K : Env → St → Prop} {o : Oper} {x : Int} (hcc : cmpOp o.op = true) (he : evalOp G (fun _ => none) (evalO a) o.op = some (.bool (x != x))) {d : Tmp} (hdd : o.dst = some d) (hd : fitsD N (some d) = true)
    (k : K (put a (some d) (.bool false)) σ) : AOp P N o a σ K := by
  exact op_q' hG (.bool false) he (by simp) hdd hd k
theorem op_beqs (hG : Fits P G) {K : Env → St → Prop} {o : Oper} {x : List UInt8} (hcc : cmpOp o.op = true) (he : evalOp G (fun _ => none) (evalO a) o.op = some (.bool (x == x))) {d : Tmp} (hdd : o.dst = some d) (hd : fitsD N (some d) = true)
    (k : K (put a (some d) (.bool true)) σ) : AOp P N o a σ K := by
  exact op_q' hG (.bool true) he (by simp) hdd hd k
end
end Go.Ts
