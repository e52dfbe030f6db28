/- Trees, continued: the rules in the form in which a walk applies them. -/
import Derived.Test.YtjcfhhepnjmchaaTrF
set_option linter.unusedVariables false
set_option linter.unusedSimpArgs false
namespace Go.Tr
section
variable {P : Program} {G : Nat → Option TI} {σ : St} {N : Nat} {a : Env} {Q : Exit → Env → St → Prop}

def cmpOp : Op → Bool
  | .binOp .eql .. | .binOp .neq .. | .binOp .lss .. | .binOp .leq .. | .binOp .gtr .. | .binOp .geq .. => true
  | _ => false
def arithOp : Op → Bool
  | .binOp .add .. | .binOp .sub .. | .binOp .mul .. | .binOp .quo .. | .convert .. | .unOp .. => true
  | _ => false

theorem aw_reg {id : Nat} {ops : Array Oper} {l : List Nat} (hl : List.range ops.size = l) (h : AOps P N ops Q l a σ) : AW P N (.region id ops false) Q a σ := aw_region (hl ▸ h)

theorem op_q (hG : Fits P G) {K : Env → St → Prop} {o : Oper} {t : T} (he : evalOp G σ.objs (evalO a) o.op = some t) {d : Option Tmp} (hdd : o.dst = d) (hd : fitsD N d = true)
    (k : K (put a d t) σ) : AOp P N o a σ K := by
  subst hdd
  exact (aop_quiet hG he hd k)

/-- the same, with another form of the value. -/
theorem op_q' (hG : Fits P G) {K : Env → St → Prop} {o : Oper} {t : T} (u : T) (he : evalOp G σ.objs (evalO a) o.op = some t) (hu : t = u) {d : Option Tmp} (hdd : o.dst = d) (hd : fitsD N d = true)
    (k : K (put a d u) σ) : AOp P N o a σ K := by
  subst hdd
  exact (aop_quiet hG (hu ▸ he) hd k)

/-- The rest of a region's operations, as they stand in the text. -/
def AL (P : Program) (N : Nat) (ops : Array Oper) (Q : Exit → Env → St → Prop) (k : Nat) (os : List Oper) (a : Env) (σ : St) : Prop :=
  ops.toList.drop k = os → AOps P N ops Q (List.range' k os.length) a σ

theorem aw_regL {id : Nat} {os : List Oper} (h : AL P N ⟨os⟩ Q 0 os a σ) : AW P N (.region id ⟨os⟩ false) Q a σ := by
  refine aw_region ?_
  have := h (by simp)
  rwa [List.range_eq_range']
theorem al_nil {ops : Array Oper} {k : Nat} (h : Q .normal a σ) : AL P N ops Q k [] a σ := fun _ => aops_nil h
theorem al_get {ops : Array Oper} {k : Nat} {o : Oper} {os : List Oper} (h : ops.toList.drop k = o :: os) : ops[k]? = some o ∧ ops.toList.drop (k + 1) = os := by
  constructor
  · have := congrArg (fun l => l[0]?) h
    simpa using this
  · rw [← List.drop_drop, h]; rfl
theorem al_cons {ops : Array Oper} {k : Nat} {o : Oper} {os : List Oper} (hg : guardOf ops a o = some true) (h : AOp P N o a σ (fun a' σ' => AL P N ops Q (k + 1) os a' σ')) : AL P N ops Q k (o :: os) a σ := by
  intro hd
  obtain ⟨h1, h2⟩ := al_get hd
  rw [List.length_cons, List.range'_succ]
  refine aops_cons h1 hg ?_
  intro av w hi hr next Qc hn
  exact h av w hi hr next Qc fun av' w' a' σ' k1 k2 k3 k4 => hn av' w' a' σ' k1 k2 k3 (k4 h2)
theorem al_s {ops : Array Oper} {k : Nat} {o : Oper} {os : List Oper} (hg : guardOf ops a o = some false) {d : Option Tmp} (hdd : o.dst = d) (hd : fitsD N d = true) (h : AL P N ops Q (k + 1) os (put a d (.tup [])) σ) : AL P N ops Q k (o :: os) a σ := by
  subst hdd
  intro hdr
  obtain ⟨h1, h2⟩ := al_get hdr
  rw [List.length_cons, List.range'_succ]
  exact aops_skip h1 hg hd (h h2)

theorem op_call {K : Env → St → Prop} {o : Oper} {f : Operand} {args : Array Operand} {tys : Array TypeId} {g : FuncId} {caps ts : List T} 
    (hop : o.op = .call { callee := .value f, args := args, argTypes := tys }) (hf : evalO a f = some (.fn (.func g) caps)) (ha : argsT a args.toList = some ts) {d : Option Tmp} (hdd : o.dst = d) (hd : fitsD N d = true)
    (k : ACalls P g (ts ++ caps) σ (fun r σ' => K (put a d r) σ')) : AOp P N o a σ K := by
  subst hdd
  exact (aop_call hop hf ha hd k)

theorem op_box (hG : Fits P G) {K : Env → St → Prop} {o : Oper} {e : TypeId} {x : Operand} {t : T} 
    (hop : o.op = .box e x) (hx : evalO a x = some t) (hraw : notRaw t = true) {d : Option Tmp} (hdd : o.dst = d) (hd : fitsD N d = true)
    (k : ∀ b, σ.objs b = none → σ.spare b = none → K (put a d (.ptr b 0)) (σ.setO b (some (.cells t.cells)))) : AOp P N o a σ K := by
  subst hdd
  exact (aop_box hG hop hx hraw hd k)

theorem op_alloc (hG : Fits P G) {K : Env → St → Prop} {o : Oper} {e : TypeId} {ti : TI} 
    (hop : o.op = .alloc e) (he : G e = some ti) {d : Option Tmp} (hdd : o.dst = d) (hd : fitsD N d = true)
    (k : ∀ b, σ.objs b = none → σ.spare b = none → K (put a d (.ptr b 0)) (σ.setO b (some (.cells ti.tree.cells)))) : AOp P N o a σ K := by
  subst hdd
  exact (aop_alloc hG hop he hd k)

theorem op_store (hG : Fits P G) {K : Env → St → Prop} {o : Oper} {ty : TypeId} {x y : Operand} {b p : Nat} {t : T} {ts : List T} {ti : TI} 
    (hop : o.op = .store ty x y) (hx : evalO a x = some (.ptr b p)) (hy : evalO a y = some t)
    (hob : σ.objs b = some (.cells ts)) (hsc : (notRaw t && t.cells.all T.scalar) = true) (hty : G ty = some ti) (hsz : Nat.beq t.cells.length ti.size = true) (hle : Nat.ble (p + t.cells.length) ts.length = true) (hdd : o.dst = none)
    (k : K (a) (σ.setO b (some (.cells (stored ts t.cells p))))) : AOp P N o a σ K := by
  exact
  (aop_store hG hop hx hy hob hsc hty hsz hle (by rw [hdd]; rfl) (by rw [hdd]; exact k))

theorem op_append (hG : Fits P G) {K : Env → St → Prop} {o : Oper} {x y : Operand} {t1 t2 : TypeId} {e sz : Nat} {i1 i2 ie : TI} {own : Nat × Nat × Nat} {xs ys : List T} {ty : T} {σ0 : St}
    (hop : o.op = .call { callee := .builtin .append, args := #[x, y], argTypes := #[t1, t2] }) (h1 : G t1 = some i1) (h1d : i1.d = .slice e) (he : G e = some ie) (h2 : G t2 = some i2) (h2d : ∃ e2, i2.d = .slice e2)
    (hx : evalO a x = some (.sl sz (some own) xs)) (hy : evalO a y = some ty) (hsrc : srcOf σ.objs sz ty = some ys) (hsz : (Nat.beq sz ie.size && Nat.blt 0 sz && Nat.ble ie.bytes 4096) = true)
    (hσ : σ = σ0.sp own) (hfr : Fresh σ0 own) (hsc : Scal ys) (hlen : xs.length + ys.length ≤ 4294967296) {d : Option Tmp} (hdd : o.dst = d) (hd : fitsD N d = true)
    (k : ∀ own', Fresh σ0 own' → K (put a d (.sl sz (some own') (xs ++ ys))) (σ0.sp own')) : AOp P N o a σ K := by
  subst hdd
  exact
  (aop_append hG hop h1 h1d he h2 h2d hx hy hsrc hsz hσ hfr hsc hlen hd k)

theorem op_mkslice (hG : Fits P G) {K : Env → St → Prop} {o : Oper} {t : TypeId} {len e : Nat} {parts : Array (Nat × Operand)} {ti ie : TI} {pt : List (Nat × T)}
    (hop : o.op = .buildSlice t len parts) (ht : G t = some ti) (htd : ti.d = .slice e) (he : G e = some ie) (hp : partsT a parts.toList = some pt)
    (hok : (decide (pt.map Prod.fst = List.range' 0 len) && Nat.beq pt.length len && (pt.all fun p => notRaw p.2 && Nat.beq p.2.cells.length ie.size) && Nat.ble (len * ie.size) 16777216 && Nat.blt 0 ie.size) = true) {d : Option Tmp} (hdd : o.dst = d) (hd : fitsD N d = true)
    (k : K (put a d (.sl ie.size (some (0, 0, 0)) (pt.map Prod.snd))) σ) : AOp P N o a σ K := by
  subst hdd
  exact
  (aop_buildSlice hG hop ht htd he hp hok hd k)

theorem op_build (hG : Fits P G) {K : Env → St → Prop} {o : Oper} {t : TypeId} {parts : Array (Nat × Operand)} {ti : TI} {pt : List (Nat × T)} {cs : List T}
    (hop : o.op = .build t parts) (ht : G t = some ti) (hpl : (placesOk G ti) = true) (hp : partsT a parts.toList = some pt) (hf : treeFill (placeOf G ti) (ti.zero.map Z.tree) pt = some cs) {d : Option Tmp} (hdd : o.dst = d) (hd : fitsD N d = true)
    (k : K (put a d (.agg cs)) σ) : AOp P N o a σ K := by
  subst hdd
  exact (aop_build hG hop ht hpl hp hf hd k)

/-- '== nil' of a slice of which it is not known whether it is nil: both ways (if it is empty). -/
theorem op_eqnil (hG : Fits P G) {K : Env → St → Prop} {o : Oper} {op : BinOp} {xt yt : TypeId} {x y : Operand} {sz : Nat} {own : Option (Nat × Nat × Nat)} {xs : List T} {ti : TI} {e : Nat}
    (hop : o.op = .binOp op xt x y yt) (hop2 : isEq op = some true) (ht : G xt = some ti) (htd : ti.d = .slice e)
    (hx : evalO a x = some (.sl sz own xs)) (hy : evalO a y = some .nilsl) {d : Option Tmp} (hdd : o.dst = d) (hd : fitsD N d = true)
    (k : ∀ b : Bool, (b = true → xs = []) → K (put a d (.bool b)) σ) : AOp P N o a σ K := by
  subst hdd
  intro av w hi hr next Qc hn
  obtain rfl : op = .eql := by cases op <;> simp [isEq] at hop2; rfl
  have rx := evalO_rel hr hx
  have ry := evalO_rel hr hy
  obtain ⟨d1, u1, f1⟩ := g_under (P := P) (w := w) hG ht
  rw [htd] at f1; obtain rfl := td_slice f1
  generalize hvy : av.eval y = vy at ry
  cases ry
  have run : ∀ (vx : Value) (b : Bool), av.eval x = vx → (∀ n, (Op.equalIn (n + 1) xt vx (.slice none 0 0)).run P w = .ok b w) → (eqGuard .eql xt x y vx (.slice none 0 0)).run P w = .ok () w →
      (binOp .eql xt vx (.slice none 0 0)).run P w = .ok (.bool b) w → (execOp av.eval o).run P w = .ok (.value (.bool b)) w := by
    intro vx b hvx h1 h2 h3
    simp [execOp, hop, hvx, hvy, h2, h3]
  generalize hvx : av.eval x = vx at rx
  cases rx with
  | slnil =>
    have hrun : (execOp av.eval o).run P w = .ok (.value (.bool true)) w := by
      refine run _ true hvx (fun n => by simp [Op.equalIn, u1]) rfl ?_
      simp only [binOp, equal_unf]
      generalize 9999 = n
      simp [Op.equalIn, u1]
    unfold Oper.wp
    rw [hrun]
    exact hn _ _ _ _ (.refl _ _) hi (hr.put hd (.bool _)) (k true fun _ => rfl)
  | slz ad sz own h =>
    have hrun : (execOp av.eval o).run P w = .ok (.value (.bool false)) w := by
      refine run _ false hvx (fun n => by simp [Op.equalIn, u1]) rfl ?_
      simp only [binOp, equal_unf]
      generalize 9999 = n
      simp [Op.equalIn, u1]
    unfold Oper.wp
    rw [hrun]
    exact hn _ _ _ _ (.refl _ _) hi (hr.put hd (.bool _)) (k false fun h => by cases h)
  | sl b p cap sz own xs n hxn hc ho hs h r =>
    have hrun : (execOp av.eval o).run P w = .ok (.value (.bool false)) w := by
      refine run _ false hvx (fun n => by simp [Op.equalIn, u1]) rfl ?_
      simp only [binOp, equal_unf]
      generalize 9999 = n
      simp [Op.equalIn, u1]
    unfold Oper.wp
    rw [hrun]
    exact hn _ _ _ _ (.refl _ _) hi (hr.put hd (.bool _)) (k false fun h => by cases h)

theorem acalls_mk (hG : Fits P G) {f : FuncId} {fn : Func} {c : Code} {ts : List T} {R : T → St → Prop} {rs : List ResultVar} (hf : P.funcs[f]? = some fn) (hb : fn.body = some c) (hN : fn.ntmps = N) (hrs : fn.results.toList = rs) (hname : (fn.name == "runtime.NumGoroutine") = false) (hlen : Nat.ble ts.length N = true)
    (h : AW P N c (retA G rs R) (envOf 0 ts) σ) : ACalls P f ts σ R := by
  subst hN; subst hrs
  exact acalls_of hG hf hb (by simpa using hname) (Nat.le_of_ble_eq_true hlen) h

/-- A test: both ways, the value a literal. -/
theorem op_d (hG : Fits P G) {K : Env → St → Prop} {o : Oper} {p : Prop} {inst : Decidable p} (hcc : cmpOp o.op = true) (he : evalOp G σ.objs (evalO a) o.op = some (.bool (@decide p inst))) {d : Option Tmp} (hdd : o.dst = d) (hd : fitsD N d = true)
    (kt : p → K (put a d (.bool true)) σ) (kf : ¬ p → K (put a d (.bool false)) σ) : AOp P N o a σ K := by
  subst hdd
  by_cases h : p
  · exact op_q' hG (.bool true) he (by rw [decide_eq_true h]) rfl hd (kt h)
  · exact op_q' hG (.bool false) he (by rw [decide_eq_false h]) rfl hd (kf h)
theorem op_e (hG : Fits P G) {K : Env → St → Prop} {o : Oper} {x y : Int} (hcc : cmpOp o.op = true) (he : evalOp G σ.objs (evalO a) o.op = some (.bool (x == y))) {d : Option Tmp} (hdd : o.dst = d) (hd : fitsD N d = true)
    (kt : x = y → K (put a d (.bool true)) σ) (kf : ¬ x = y → K (put a d (.bool false)) σ) : AOp P N o a σ K := by
  subst hdd
  by_cases h : x = y
  · exact op_q' hG (.bool true) he (by rw [beq_iff_eq.2 h]) rfl hd (kt h)
  · exact op_q' hG (.bool false) he (by rw [beq_eq_false_iff_ne.2 h]) rfl hd (kf h)
theorem op_ne (hG : Fits P G) {K : Env → St → Prop} {o : Oper} {x y : Int} (hcc : cmpOp o.op = true) (he : evalOp G σ.objs (evalO a) o.op = some (.bool (x != y))) {d : Option Tmp} (hdd : o.dst = d) (hd : fitsD N d = true)
    (kt : ¬ x = y → K (put a d (.bool true)) σ) (kf : x = y → K (put a d (.bool false)) σ) : AOp P N o a σ K := by
  subst hdd
  by_cases h : x = y
  · exact op_q' hG (.bool false) he (by rw [show (x != y) = false by simp [h]]) rfl hd (kf h)
  · exact op_q' hG (.bool true) he (by rw [show (x != y) = true by simp [h]]) rfl hd (kt h)
/-- any Bool that is not settled. -/
theorem op_b (hG : Fits P G) {K : Env → St → Prop} {o : Oper} {b : Bool} (he : evalOp G σ.objs (evalO a) o.op = some (.bool b)) {d : Option Tmp} (hdd : o.dst = d) (hd : fitsD N d = true)
    (kt : b = true → K (put a d (.bool true)) σ) (kf : b = false → K (put a d (.bool false)) σ) : AOp P N o a σ K := by
  subst hdd
  cases b with
  | true => exact op_q hG he rfl hd (kt rfl)
  | false => exact op_q hG he rfl hd (kf rfl)

theorem aw_if_t {c : Operand} {x y : Code} (hc : evalO a c = some (.bool true)) (h : AW P N x Q a σ) : AW P N (.cond c x y) Q a σ := aw_cond hc h
theorem aw_if_f {c : Operand} {x y : Code} (hc : evalO a c = some (.bool false)) (h : AW P N y Q a σ) : AW P N (.cond c x y) Q a σ := aw_cond hc h
theorem aw_if {c : Operand} {x y : Code} {b : Bool} (hc : evalO a c = some (.bool b)) (ht : b = true → AW P N x Q a σ) (hf : b = false → AW P N y Q a σ) : AW P N (.cond c x y) Q a σ := by
  cases b with
  | true => exact aw_cond hc (ht rfl)
  | false => exact aw_cond hc (hf rfl)

theorem aw_ret' {R : T → St → Prop} {rs : List ResultVar} {t : T} (u : T) (h : resT G a σ rs = some t) (hw : Wk t u) (k : R u σ) : retA G rs R .ret a σ := ⟨t, u, h, hw, k⟩
theorem i64_in {n : Int} (h1 : -9223372036854775808 ≤ n) (h2 : n ≤ 9223372036854775807) : IntKind.i64.wrap n = n := by
  unfold IntKind.wrap; simp [IntKind.bits, IntKind.signed]; omega
theorem u8_in {n : Int} (h1 : 0 ≤ n) (h2 : n < 256) : IntKind.u8.wrap n = n := by
  unfold IntKind.wrap; simp [IntKind.bits, IntKind.signed]; omega
theorem u16_in {n : Int} (h1 : 0 ≤ n) (h2 : n < 65536) : IntKind.u16.wrap n = n := by
  unfold IntKind.wrap; simp [IntKind.bits, IntKind.signed]; omega
theorem u64_in {n : Int} (h1 : 0 ≤ n) (h2 : n < 18446744073709551616) : IntKind.u64.wrap n = n := by
  unfold IntKind.wrap; simp [IntKind.bits, IntKind.signed]; omega
theorem u8_wrap (n : Int) : IntKind.u8.wrap n = n % 256 := by unfold IntKind.wrap; simp [IntKind.bits, IntKind.signed]
theorem u16_wrap (n : Int) : IntKind.u16.wrap n = n % 65536 := by unfold IntKind.wrap; simp [IntKind.bits, IntKind.signed]
theorem u64_wrap (n : Int) : IntKind.u64.wrap n = n % 18446744073709551616 := by unfold IntKind.wrap; simp [IntKind.bits, IntKind.signed]

theorem Wk.int {k : IntKind} {x y : Int} (h : x = y) : Wk (.int k x) (.int k y) := by subst h; exact .refl _
theorem Wk.eq {x y : T} (h : x = y) : Wk x y := by subst h; exact .refl _

/-- sums that need no wrap -/
theorem op_w {K : Env → St → Prop} {o : Oper} {x : Int} (hG : Fits P G) (hcc : arithOp o.op = true) (he : evalOp G σ.objs (evalO a) o.op = some (.int .i64 (IntKind.i64.wrap x))) {d : Option Tmp} (hdd : o.dst = d) (hd : fitsD N d = true)
    (hx : -9223372036854775808 ≤ x ∧ x ≤ 9223372036854775807) (k : K (put a d (.int .i64 x)) σ) : AOp P N o a σ K := by
  subst hdd
  exact
  op_q' hG _ he (by rw [i64_in hx.1 hx.2]) rfl hd k
theorem op_w8 {K : Env → St → Prop} {o : Oper} {x : Int} (hG : Fits P G) (hcc : arithOp o.op = true) (he : evalOp G σ.objs (evalO a) o.op = some (.int .u8 (IntKind.u8.wrap x))) {d : Option Tmp} (hdd : o.dst = d) (hd : fitsD N d = true)
    (hx : 0 ≤ x ∧ x < 256) (k : K (put a d (.int .u8 x)) σ) : AOp P N o a σ K := by
  subst hdd
  exact
  op_q' hG _ he (by rw [u8_in hx.1 hx.2]) rfl hd k
theorem op_w16 {K : Env → St → Prop} {o : Oper} {x : Int} (hG : Fits P G) (hcc : arithOp o.op = true) (he : evalOp G σ.objs (evalO a) o.op = some (.int .u16 (IntKind.u16.wrap x))) {d : Option Tmp} (hdd : o.dst = d) (hd : fitsD N d = true)
    (hx : 0 ≤ x ∧ x < 65536) (k : K (put a d (.int .u16 x)) σ) : AOp P N o a σ K := by
  subst hdd
  exact
  op_q' hG _ he (by rw [u16_in hx.1 hx.2]) rfl hd k
theorem op_wu {K : Env → St → Prop} {o : Oper} {x : Int} (hG : Fits P G) (hcc : arithOp o.op = true) (he : evalOp G σ.objs (evalO a) o.op = some (.int .u64 (IntKind.u64.wrap x))) {d : Option Tmp} (hdd : o.dst = d) (hd : fitsD N d = true)
    (hx : 0 ≤ x ∧ x < 18446744073709551616) (k : K (put a d (.int .u64 x)) σ) : AOp P N o a σ K := by
  subst hdd
  exact
  op_q' hG _ he (by rw [u64_in hx.1 hx.2]) rfl hd k

theorem op_idx (hG : Fits P G) {K : Env → St → Prop} {o : Oper} {t : TypeId} {x ix : Operand} {k : IntKind} {n : Int} {sz e : Nat} {own : Option (Nat × Nat × Nat)} {xs : List T} {y : T} {ti te : TI}
    (hop : o.op = .indexAddr t x ix) (hn : evalO a ix = some (.int k n)) (hx : evalO a x = some (.sl sz own xs)) (ht : G t = some ti) (htd : ti.d = .slice e) (hte : G e = some te) (hsz : Nat.beq sz te.size = true) {d : Option Tmp} (hdd : o.dst = d) (hd : fitsD N d = true)
    (h0 : 0 ≤ n) (hy : xs[n.toNat]? = some y) (kk : K (put a d (.ro y 0)) σ) : AOp P N o a σ K := by
  subst hdd
  refine op_q hG ?_ rfl hd kk
  obtain ⟨d, s1, s2, s3⟩ := ti
  simp only at htd; subst htd
  simp only [hop, evalOp, hn, ht, hx, sizeT, hte, Option.map_some, h0, decide_true, cond_true, hsz, hy]

theorem op_shr (hG : Fits P G) {K : Env → St → Prop} {o : Oper} {t yt : TypeId} {x y : Operand} {k k' : IntKind} {n m : Int} {ti : TI}
    (hop : o.op = .binOp .shr t x y yt) (ht : G t = some ti) (hx : evalO a x = some (.int k n)) (hy : evalO a y = some (.int k' m)) {d : Option Tmp} (hdd : o.dst = d) (hd : fitsD N d = true)
    (h0 : 0 ≤ m) (kk : K (put a d (.int k (n / 2 ^ (min m.toNat k.bits)))) σ) : AOp P N o a σ K := by
  subst hdd
  refine op_q hG ?_ rfl hd kk
  have : ¬ m < 0 := by omega
  simp only [hop, evalOp, hx, hy, ht, evalBin, isShift, cond_true, evalShift, this, decide_false, cond_false]
  rw [Int.fdiv_eq_ediv_of_nonneg _ (Int.pow_nonneg (by omega))]

theorem op_slice (hG : Fits P G) {K : Env → St → Prop} {o : Oper} {t : TypeId} {x : Operand} {lo hi : Option Operand} {k k' : IntKind} {l h : Int} {sz e : Nat} {own : Option (Nat × Nat × Nat)} {xs : List T} {ti te : TI}
    (hop : o.op = .slice t x lo hi none) (hx : evalO a x = some (.sl sz own xs)) (hl : (lo.map (evalO a)).getD (some (.int .i64 0)) = some (.int k l)) (hh : (hi.map (evalO a)).getD (some (.int .i64 xs.length)) = some (.int k' h))
    (ht : G t = some ti) (htd : ti.d = .slice e) (hte : G e = some te) (hsz : Nat.beq sz te.size = true) {d : Option Tmp} (hdd : o.dst = d) (hd : fitsD N d = true)
    (hb : 0 ≤ l ∧ l ≤ h ∧ h ≤ xs.length) (kk : K (put a d (.sl sz (cond (h == (xs.length : Int)) own none) ((xs.take h.toNat).drop l.toNat))) σ) : AOp P N o a σ K := by
  subst hdd
  refine op_q hG ?_ rfl hd kk
  obtain ⟨d, s1, s2, s3⟩ := ti
  simp only at htd; subst htd
  simp only [hop, evalOp, ht, sizeT, hte, Option.map_some, hx, hl, hh, hsz, hb.1, hb.2.1, hb.2.2, decide_true, Bool.and_self, cond_true]

/-- A scope with one label: a pass from the label on may be used where the label is met the first time. -/
theorem aw_scope' {c y : Code} (l : Nat) (hf : findLabel c l = some (.seq .skip y)) {X : Type} (E : X → Env) (S : X → St) (m : X → Nat)
    (pass : ∀ x, AW P N y (jumpA l (fun a' σ' => ∃ x', m x' < m x ∧ Knows a' (E x') ∧ S x' = σ') Q) (E x) (S x))
    (first : (∀ x, AW P N y (jumpA l (fun a' σ' => ∃ x', Knows a' (E x') ∧ S x' = σ') Q) (E x) (S x)) → AW P N c (jumpA l (fun a' σ' => ∃ x', Knows a' (E x') ∧ S x' = σ') Q) a σ) : AW P N (.scope c) Q a σ := by
  refine aw_scope l hf E S m (fun x => aw_seq (aw_skip (pass x))) (first fun x => (pass x).mono ?_)
  intro e a σ h
  cases e with
  | goto l' => obtain ⟨h1, x', _, h2, h3⟩ := h; exact ⟨h1, x', h2, h3⟩
  | _ => exact h

def plainOp : Op → Bool
  | .move _ | .assign _ | .load .. | .fieldAddr .. | .field .. | .extract .. | .nilCheck _ | .makeFunc .. => true
  | .call { callee := .builtin .len, .. } => true
  | .call { callee := .builtin .cap, .. } => true
  | _ => false
/-- the operations that ask for no other rule. -/
theorem op_m (hG : Fits P G) {K : Env → St → Prop} {o : Oper} {t : T} (hp : plainOp o.op = true) (he : evalOp G σ.objs (evalO a) o.op = some t) {d : Option Tmp} (hdd : o.dst = d) (hd : fitsD N d = true)
    (k : K (put a d t) σ) : AOp P N o a σ K := op_q hG he hdd hd k

theorem op_slice_aref (hG : Fits P G) {K : Env → St → Prop} {o : Oper} {t : TypeId} {x : Operand} {lo hi : Option Operand} {k k' : IntKind} {l h : Int} {sz e b p n : Nat} {own : Option (Nat × Nat × Nat)} {ti te : TI}
    (hop : o.op = .slice t x lo hi none) (hx : evalO a x = some (.aref sz own b p n)) (hl : (lo.map (evalO a)).getD (some (.int .i64 0)) = some (.int k l)) (hh : (hi.map (evalO a)).getD (some (.int .i64 n)) = some (.int k' h))
    (ht : G t = some ti) (htd : ti.d = .slice e) (hte : G e = some te) (hsz : Nat.beq sz te.size = true) {d : Option Tmp} (hdd : o.dst = d) (hd : fitsD N d = true)
    (hb : 0 ≤ l ∧ l ≤ h ∧ h ≤ n ∧ l < n) (kk : K (put a d (.aref sz own b (p + l.toNat * sz) (h.toNat - l.toNat))) σ) : AOp P N o a σ K := by
  subst hdd
  refine op_q hG ?_ rfl hd kk
  obtain ⟨d, s1, s2, s3⟩ := ti
  simp only at htd; subst htd
  simp only [hop, evalOp, ht, sizeT, hte, Option.map_some, hx, hl, hh, hsz, hb.1, hb.2.1, hb.2.2.1, hb.2.2.2, decide_true, Bool.and_self, cond_true]
theorem op_idx_aref (hG : Fits P G) {K : Env → St → Prop} {o : Oper} {t : TypeId} {x ix : Operand} {k : IntKind} {n : Int} {sz e b p len : Nat} {own : Option (Nat × Nat × Nat)} {ti te : TI}
    (hop : o.op = .indexAddr t x ix) (hn : evalO a ix = some (.int k n)) (hx : evalO a x = some (.aref sz own b p len)) (ht : G t = some ti) (htd : ti.d = .slice e) (hte : G e = some te) (hsz : Nat.beq sz te.size = true) {d : Option Tmp} (hdd : o.dst = d) (hd : fitsD N d = true)
    (h0 : 0 ≤ n ∧ n < len) (kk : K (put a d (.ptr b (p + n.toNat * sz))) σ) : AOp P N o a σ K := by
  subst hdd
  refine op_q hG ?_ rfl hd kk
  obtain ⟨d, s1, s2, s3⟩ := ti
  simp only at htd; subst htd
  simp only [hop, evalOp, hn, ht, hx, sizeT, hte, Option.map_some, h0.1, h0.2, decide_true, cond_true, hsz, Bool.and_self]

/-- Lists of values of one cell each, one by one. -/
theorem Wk.list {sz : Nat} {own : Option (Nat × Nat × Nat)} {xs ys : List T} (hl : xs.length = ys.length) (h : ∀ (i : Nat) (x y : T), xs[i]? = some x → ys[i]? = some y → x.scalar = true ∧ y.scalar = true ∧ Wk x y) : Wk (.sl sz own xs) (.sl sz own ys) := by
  intro w σ v r
  have hx : ∀ (i : Nat) (y : T), ys[i]? = some y → ∃ x, xs[i]? = some x ∧ x.scalar = true ∧ y.scalar = true ∧ Wk x y := by
    intro i y hy
    have hi : i < xs.length := by
      rcases Nat.lt_or_ge i ys.length with h' | h'
      · omega
      · rw [List.getElem?_eq_none h'] at hy; cases hy
    exact ⟨xs[i], List.getElem?_eq_getElem hi, h i _ y (List.getElem?_eq_getElem hi) hy⟩
  cases r with
  | slnil sz own h0 => cases ys with
    | nil => exact .slnil _ _ h0
    | cons y ys => simp at hl
  | slz ad sz own h0 => cases ys with
    | nil => exact .slz ad _ _ h0
    | cons y ys => simp at hl
  | sl b p cap sz own xs n hn hc ho hs h0 r0 =>
    refine .sl b p cap sz own ys n (by omega) hc ho (fun i y hy => ?_) (fun i y j c hy hj => ?_) (fun i y j c v hy hj hv => ?_)
    · obtain ⟨x, hx1, hx2, hx3, _⟩ := hx i y hy
      have := hs i x hx1
      rw [scalar_cells hx2] at this; rw [scalar_cells hx3]; exact this
    · obtain ⟨x, hx1, hx2, hx3, _⟩ := hx i y hy
      rw [scalar_cells hx3] at hj
      cases j with
      | zero => exact h0 i x 0 x hx1 (by rw [scalar_cells hx2]; rfl)
      | succ j => simp at hj
    · obtain ⟨x, hx1, hx2, hx3, hw⟩ := hx i y hy
      rw [scalar_cells hx3] at hj
      cases j with
      | zero => simp at hj; subst hj; exact hw _ _ _ (r0 i x 0 x v hx1 (by rw [scalar_cells hx2]; rfl) hv)
      | succ j => simp at hj

/-- What a call hands back as its own, taken as data alone. -/
theorem ACalls.drop {f : FuncId} {ts : List T} {sz : Nat} {xs : List T} (h : ACalls P f ts σ (fun r σ' => ∃ own', Fresh σ own' ∧ r = .sl sz (some own') xs ∧ σ' = σ.sp own')) :
    ACalls P f ts σ (fun r σ' => r = .sl sz none xs ∧ σ' = σ) := by
  refine ⟨h.1, fun vs w hi hs hr => (h.2 vs w hi hs hr).mono ?_⟩
  rintro e w' ⟨v, t, σ', rfl, ev, hi', r, own', hf, rfl, rfl⟩
  obtain ⟨h1, h2⟩ := sp_drop hf w' hi'
  exact ⟨v, .sl sz none xs, σ, rfl, ev.trans h2, h1, Wk.own _ _ _ _ _ _ (r.ev h2), rfl, rfl⟩

theorem Wk.tup {cs ds : List T} (hl : cs.length = ds.length) (h : ∀ (j : Nat) (c d : T), cs[j]? = some c → ds[j]? = some d → Wk c d) : Wk (.tup cs) (.tup ds) := by
  intro w σ v r
  cases r with
  | tup cs vs hn r0 =>
    refine .tup ds vs (by omega) (fun j d v hd hv => ?_)
    have hj : j < cs.length := by
      rcases Nat.lt_or_ge j ds.length with h' | h'
      · omega
      · rw [List.getElem?_eq_none h'] at hd; cases hd
    exact h j _ d (List.getElem?_eq_getElem hj) hd w σ v (r0 j _ v (List.getElem?_eq_getElem hj) hv)
theorem Wk.agg {cs ds : List T} (hl : cs.length = ds.length) (h : ∀ (j : Nat) (c d : T), cs[j]? = some c → ds[j]? = some d → Wk c d) : Wk (.agg cs) (.agg ds) := by
  intro w σ v r
  cases r with
  | agg cs vs hn r0 =>
    refine .agg ds vs (by omega) (fun j d v hd hv => ?_)
    have hj : j < cs.length := by
      rcases Nat.lt_or_ge j ds.length with h' | h'
      · omega
      · rw [List.getElem?_eq_none h'] at hd; cases hd
    exact h j _ d (List.getElem?_eq_getElem hj) hd w σ v (r0 j _ v (List.getElem?_eq_getElem hj) hv)
def WkL : List T → List T → Prop
  | [], [] => True
  | c :: cs, d :: ds => Wk c d ∧ WkL cs ds
  | _, _ => False
theorem WkL.get : ∀ {cs ds : List T}, WkL cs ds → cs.length = ds.length ∧ ∀ (j : Nat) (c d : T), cs[j]? = some c → ds[j]? = some d → Wk c d
  | [], [], _ => ⟨rfl, fun j c d h => by simp at h⟩
  | [], _ :: _, h => h.elim
  | _ :: _, [], h => h.elim
  | c :: cs, d :: ds, h => by
    obtain ⟨h1, h2⟩ := h.2.get
    refine ⟨by simp [h1], fun j x y hx hy => ?_⟩
    cases j with
    | zero => simp at hx hy; subst hx; subst hy; exact h.1
    | succ j => exact h2 j x y (by simpa using hx) (by simpa using hy)
theorem Wk.tupL {cs ds : List T} (h : WkL cs ds) : Wk (.tup cs) (.tup ds) := .tup h.get.1 h.get.2
theorem Wk.aggL {cs ds : List T} (h : WkL cs ds) : Wk (.agg cs) (.agg ds) := .agg h.get.1 h.get.2
theorem ACalls.weakL {f : FuncId} {ts us : List T} {R : T → St → Prop} (h : ACalls P f us σ R) (hw : WkL ts us) : ACalls P f ts σ R := h.weak hw.get.1 hw.get.2

theorem wk1 {a b : T} (h1 : Wk a b) : WkL [a] [b] := And.intro h1 trivial
theorem wk2 {a b c d : T} (h1 : Wk a b) (h2 : Wk c d) : WkL [a, c] [b, d] := And.intro h1 (wk1 h2)
theorem wk3 {a b c d e f : T} (h1 : Wk a b) (h2 : Wk c d) (h3 : Wk e f) : WkL [a, c, e] [b, d, f] := And.intro h1 (wk2 h2 h3)
theorem wk4 {a b c d e f g h : T} (h1 : Wk a b) (h2 : Wk c d) (h3 : Wk e f) (h4 : Wk g h) : WkL [a, c, e, g] [b, d, f, h] := And.intro h1 (wk3 h2 h3 h4)
theorem wkc {a b : T} {l m : List T} (h1 : Wk a b) (h2 : WkL l m) : WkL (a :: l) (b :: m) := And.intro h1 h2

theorem ACalls.pure {f : FuncId} {ts : List T} {t : T} {R : T → St → Prop} (h : ACalls P f ts σ (fun r σ' => r = t ∧ σ' = σ)) (k : R t σ) : ACalls P f ts σ R :=
  h.mono (by rintro r σ' ⟨rfl, h2⟩; rw [h2]; exact k)
theorem ACalls.owned {f : FuncId} {ts : List T} {sz : Nat} {xs : List T} {R : T → St → Prop} (h : ACalls P f ts σ (fun r σ' => ∃ own', Fresh σ own' ∧ r = .sl sz (some own') xs ∧ σ' = σ.sp own'))
    (k : ∀ own', Fresh σ own' → R (.sl sz (some own') xs) (σ.sp own')) : ACalls P f ts σ R :=
  h.mono (by rintro r σ' ⟨own', hf, rfl, h2⟩; rw [h2]; exact k own' hf)

theorem op_tostr (hG : Fits P G) {K : Env → St → Prop} {o : Oper} {src dst : TypeId} {x : Operand} {own : Option (Nat × Nat × Nat)} {xs : List T} {s : List UInt8} {e : Nat} {ts td te : TI}
    (hop : o.op = .convert src dst x) (hx : evalO a x = some (.sl 1 own xs)) (hs : G src = some ts) (hsd : ts.d = .slice e) (hd1 : G dst = some td) (hdd1 : td.d = .str) (he : G e = some te) (hed : te.d = .int .u8) {d : Option Tmp} (hdd : o.dst = d) (hd : fitsD N d = true)
    (hb : bytesOf xs = some s) (kk : K (put a d (.str s)) σ) : AOp P N o a σ K := by
  subst hdd
  refine op_q hG ?_ rfl hd kk
  obtain ⟨d1, s1, s2, s3⟩ := ts
  obtain ⟨d2, t1, t2, t3⟩ := td
  obtain ⟨d3, u1, u2, u3⟩ := te
  simp only at hsd hdd1 hed; subst hsd; subst hdd1; subst hed
  simp only [hop, evalOp, hx, hs, hd1, he, hb, Option.map_some]
theorem bytesOf_map : ∀ (l : List UInt8), bytesOf (l.map bT) = some l
  | [] => rfl
  | x :: l => by
    have hx := x.toNat_lt
    have : byteOfT (bT x) = some x := by
      unfold bT byteOfT
      have h1 : (decide ((0 : Int) ≤ (x.toNat : Int)) && decide ((x.toNat : Int) < 256)) = true := by simp; omega
      simp only [h1, cond_true]
      simp
    simp only [List.map_cons, bytesOf, this, bytesOf_map l]

theorem op_rem (hG : Fits P G) {K : Env → St → Prop} {o : Oper} {t yt : TypeId} {x y : Operand} {k : IntKind} {n m : Int} {ti : TI}
    (hop : o.op = .binOp .rem t x y yt) (ht : G t = some ti) (hx : evalO a x = some (.int k n)) (hy : evalO a y = some (.int k m)) {d : Option Tmp} (hdd : o.dst = d) (hd : fitsD N d = true)
    (h0 : 0 ≤ n ∧ 0 < m) (kk : K (put a d (.int k (n % m))) σ) : AOp P N o a σ K := by
  subst hdd
  refine op_q hG ?_ rfl hd kk
  have h1 : (m == 0) = false := by simp; omega
  simp only [hop, evalOp, hx, hy, ht, evalBin, isShift, cond_false, decide_true, cond_true, evalInt, h1, Int.tmod_eq_emod_of_nonneg h0.1]
theorem op_quo (hG : Fits P G) {K : Env → St → Prop} {o : Oper} {t yt : TypeId} {x y : Operand} {k : IntKind} {n m : Int} {ti : TI}
    (hop : o.op = .binOp .quo t x y yt) (ht : G t = some ti) (hx : evalO a x = some (.int k n)) (hy : evalO a y = some (.int k m)) {d : Option Tmp} (hdd : o.dst = d) (hd : fitsD N d = true)
    (h0 : 0 ≤ n ∧ 0 < m) (kk : K (put a d (.int k (k.wrap (n / m)))) σ) : AOp P N o a σ K := by
  subst hdd
  refine op_q hG ?_ rfl hd kk
  have h1 : (m == 0) = false := by simp; omega
  simp only [hop, evalOp, hx, hy, ht, evalBin, isShift, cond_false, decide_true, cond_true, evalInt, h1, Int.tdiv_eq_ediv_of_nonneg h0.1]
theorem op_beq (hG : Fits P G) {K : Env → St → Prop} {o : Oper} {x y : List UInt8} (hcc : cmpOp o.op = true) (he : evalOp G σ.objs (evalO a) o.op = some (.bool (x == y))) {d : Option Tmp} (hdd : o.dst = d) (hd : fitsD N d = true)
    (kt : x = y → K (put a d (.bool true)) σ) (kf : ¬ x = y → K (put a d (.bool false)) σ) : AOp P N o a σ K := by
  subst hdd
  by_cases h : x = y
  · exact op_q' hG (.bool true) he (by rw [beq_iff_eq.2 h]) rfl hd (kt h)
  · exact op_q' hG (.bool false) he (by rw [beq_eq_false_iff_ne.2 h]) rfl hd (kf h)
end
end Go.Tr
