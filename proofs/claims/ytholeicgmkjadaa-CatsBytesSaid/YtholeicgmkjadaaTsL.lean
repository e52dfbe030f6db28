/- Trees, continued: live slices: appended to, copied into, made of strings. -/
import Derived.Test.YtholeicgmkjadaaTsI
namespace Go.Ts
set_option linter.unusedSimpArgs false
set_option linter.unusedVariables false
section
variable {P : Program} {G : Nat → Option TI} {w w1 : World} {μ : Gh} {σ : St} {N : Nat} {a : Env} {Q : Exit → Env → St → Prop}

def St.era (σ : St) (n : Nat) : St := { σ with L := σ.L.eraseIdx n }
theorem era_get {n m : Nat} {x : Nat × Ob} (h : (σ.era n).L[m]? = some x) : ∃ m', m' ≠ n ∧ σ.L[m']? = some x ∧ (m < n → m' = m) ∧ (n ≤ m → m' = m + 1) := by
  simp only [St.era, List.getElem?_eraseIdx] at h
  split at h
  · rename_i hlt; exact ⟨m, by omega, h, fun _ => rfl, fun h => by omega⟩
  · rename_i hge; exact ⟨m + 1, by omega, h, fun h => by omega, fun _ => rfl⟩
theorem era_mem {n : Nat} {x : Nat × Ob} (h : x ∈ (σ.era n).L) : x ∈ σ.L := (List.eraseIdx_sublist _ _).subset h

/-- A live thing gets another name, and begins later. -/
theorem rename_step (hi : Inv w μ σ) {n i i' b p o : Nat} {ts : List T} (hn : σ.L[n]? = some (i, .cells ts)) (hl : μ.loc i = some (b, p)) (ho : o ≤ ts.length)
    (hf : μ.loc i' = none) (hft : μ.tok i' = none) (hfn : ∀ n, σ.nx = some n → i' = n) (hfj : ∀ j, i' ≤ j → μ.loc j = none ∧ μ.tok j = none) :
    Ev w μ σ w (μ.addL i' (b, p + o)) ((σ.era n).new i' (.cells (ts.drop o))) ∧ Inv w (μ.addL i' (b, p + o)) ((σ.era n).new i' (.cells (ts.drop o))) := by
  have hin := List.mem_of_getElem? hn
  obtain ⟨b', p', c, e, hl', hh, hlen, hcells⟩ := hi.obj i ts hin
  rw [hl] at hl'; injection hl' with hl'; injection hl' with q1 q2; subst q1; subst q2
  have hmem : ∀ j x, (j, x) ∈ ((σ.era n).new i' (.cells (ts.drop o))).L → (j = i' ∧ x = .cells (ts.drop o)) ∨ ((j, x) ∈ (σ.era n).L ∧ j ≠ i') := by
    intro j x h
    rcases List.mem_cons.1 h with h | h
    · injection h with h1 h2; exact .inl ⟨h1, h2⟩
    · exact .inr ⟨h, fun e => hi.idlt (era_mem h) (e ▸ hf)⟩
  have hne : ∀ j x b2 p2, (j, x) ∈ (σ.era n).L → μ.loc j = some (b2, p2) → b2 ≠ b := by
    rintro j x b2 p2 h1 h2 rfl
    obtain ⟨m, hm⟩ := List.getElem?_of_mem h1
    obtain ⟨m', h3, h4, _⟩ := era_get hm
    exact h3 (hi.inj m' n j i x _ _ p2 p h4 hn h2 hl)
  have ev : Ev w μ σ w (μ.addL i' (b, p + o)) ((σ.era n).new i' (.cells (ts.drop o))) := by
    refine ⟨.refl _ _, addL_mono hf, fun _ _ h => h, rfl, fun _ _ h => h, fun x hb hlv => ⟨?_, rfl⟩, fun x q h => ⟨⟨h.lt, h.off, fun j y p' h1 h2 => ?_, h.room⟩, rfl⟩⟩
    · rintro (⟨j, y, p', h1, h2⟩ | h)
      · rcases hmem j y h1 with ⟨rfl, _⟩ | ⟨h1, hne'⟩
        · rw [addL_same] at h2; injection h2 with h2; injection h2 with h2; subst h2; exact hlv (.inl ⟨i, _, p, hin, hl⟩)
        · rw [addL_ne _ hne'] at h2; exact hlv (.inl ⟨j, y, p', era_mem h1, h2⟩)
      · exact hlv (.inr h)
    · rcases hmem j y h1 with ⟨rfl, _⟩ | ⟨h1, hne'⟩
      · rw [addL_same] at h2; injection h2 with h2; injection h2 with h2; subst h2; exact h.obj i _ p hin hl
      · rw [addL_ne _ hne'] at h2; exact h.obj j y p' (era_mem h1) h2
  refine ⟨ev, fun j us h => ?_, fun j es h => ?_, fun n1 m j k x y b2 p2 q2 h1 h2 h3 h4 => ?_, fun k hk => ?_, hi.rinj, ⟨i' + 1, fun j hj => ⟨by rw [addL_ne _ (by omega)]; exact (hfj j (by omega)).1, (hfj j (by omega)).2⟩, fun m hm => ?_⟩, hi.offlt, fun j x b2 p2 h1 h2 => ?_⟩
  · rcases hmem j _ h with ⟨rfl, h1⟩ | ⟨h1, hne'⟩
    · injection h1 with h1; subst h1
      refine ⟨b, p + o, c, e, addL_same _ _, hh, by rw [List.length_drop]; omega, fun m t v h2 h3 => ?_⟩
      rw [List.getElem?_drop] at h2
      rw [Nat.add_assoc] at h3
      exact (hcells (o + m) t v h2 h3).ev ev
    · obtain ⟨b2, p2, c2, e2, h2, h3, h4, h5⟩ := hi.obj j us (era_mem h1)
      exact ⟨b2, p2, c2, e2, by rw [addL_ne _ hne']; exact h2, h3, h4, fun m t v h6 h7 => (h5 m t v h6 h7).ev ev⟩
  · rcases hmem j _ h with ⟨rfl, h1⟩ | ⟨h1, hne'⟩
    · cases h1
    · obtain ⟨b2, en, cl, h2, h3, h4, h5⟩ := hi.map j es (era_mem h1)
      exact ⟨b2, en, cl, by rw [addL_ne _ hne']; exact h2, h3, h4, fun m k u e' h6 h7 => let ⟨h8, h9⟩ := h5 m k u e' h6 h7; ⟨h8.ev ev, h9.ev ev⟩⟩
  · have hnew : ∀ (b2 p2 : Nat), (μ.addL i' (b, p + o)).loc i' = some (b2, p2) → b2 = b := by
      intro b2 p2 h; rw [addL_same] at h; injection h with h; injection h with h; exact h.symm
    have hold : ∀ (n1 j : Nat) (x : Ob) (b2 p2 : Nat), (σ.era n).L[n1]? = some (j, x) → (μ.addL i' (b, p + o)).loc j = some (b2, p2) → μ.loc j = some (b2, p2) ∧ b2 ≠ b := by
      intro n1 j x b2 p2 h1 h2
      have hm := List.mem_of_getElem? h1
      have hne' : j ≠ i' := by rintro rfl; exact hi.idlt (era_mem hm) hf
      rw [addL_ne _ hne'] at h2
      exact ⟨h2, hne j x b2 p2 hm h2⟩
    cases n1 with
    | zero =>
      have e1 : (i', Ob.cells (ts.drop o)) = (j, x) := by simpa [St.new] using h1
      injection e1 with e1 e2; subst e1
      cases m with
      | zero => rfl
      | succ m => exact absurd (hnew b2 p2 h3) (hold m k y b2 q2 (by simpa [St.new] using h2) h4).2
    | succ n1 =>
      cases m with
      | zero =>
        have e1 : (i', Ob.cells (ts.drop o)) = (k, y) := by simpa [St.new] using h2
        injection e1 with e1 e2; subst e1
        exact absurd (hnew b2 q2 h4) (hold n1 j x b2 p2 (by simpa [St.new] using h1) h3).2
      | succ m =>
        have h1' : (σ.era n).L[n1]? = some (j, x) := by simpa [St.new] using h1
        have h2' : (σ.era n).L[m]? = some (k, y) := by simpa [St.new] using h2
        obtain ⟨n2, g1, g2, g3, g4⟩ := era_get h1'
        obtain ⟨m2, k1, k2, k3, k4⟩ := era_get h2'
        have := hi.inj n2 m2 j k x y b2 p2 q2 g2 k2 (hold n1 j x b2 p2 h1' h3).1 (hold m k y b2 q2 h2' h4).1
        omega
  · obtain ⟨b2, f, t, h1, h2, h3⟩ := hi.room k hk
    refine ⟨b2, f, t, h1, h2, fun hlt => ?_⟩
    obtain ⟨h4, h6, h7⟩ := h3 hlt
    refine ⟨h4, fun j x p' h8 h9 => ?_, h7⟩
    rcases hmem j x h8 with ⟨rfl, _⟩ | ⟨h, hne'⟩
    · rw [addL_same] at h9; injection h9 with h9; injection h9 with h9; subst h9; exact h6 i _ p hin hl
    · rw [addL_ne _ hne'] at h9; exact h6 j x p' (era_mem h) h9
  · simp only [St.new, St.era] at hm
    cases hx : σ.nx with
    | none => rw [hx] at hm; cases hm
    | some n => rw [hx] at hm; simp at hm; omega
  · rcases hmem j x h1 with ⟨rfl, _⟩ | ⟨h, hne'⟩
    · rw [addL_same] at h2; injection h2 with h2; injection h2 with h2 h3; subst h2
      exact hi.offobj i _ b p hin hl
    · rw [addL_ne _ hne'] at h2; exact hi.offobj j x b2 p2 (era_mem h) h2

/-- What an append takes, and what it says. -/
structure Src (P : Program) (w : World) (μ : Gh) (σ : St) (sz : Nat) (v : Value) (n : Nat) (cs : List T) : Prop where
  len : (Builtin.lenOf v).run P w = .ok n w
  num : cs.length = n * sz
  run : ∃ vs : Array Value, (∀ w1 : World, w1.heap = w.heap → (Builtin.firstCells sz n v).run P w1 = .ok vs w1) ∧ vs.size = cs.length ∧ ∀ (k : Nat) (c : T) (u : Value), cs[k]? = some c → vs[k]? = some u → Rel w μ σ u c

/-- append onto a live slice that ends where what is known of its thing ends. -/
theorem aop_appL (hG : Fits P G) {o : Oper} {x y : Operand} {t1 t2 : TypeId} {e sz : Nat} {i1 i2 ie : TI} {n i p len : Nat} {cap : Option Nat} {ts ys : List T} {ty : T} {K : Env → St → Prop}
    (ho : o.op = .call { callee := .builtin .append, args := #[x, y], argTypes := #[t1, t2] }) (h1 : G t1 = some i1) (h1d : i1.d = .slice e) (he : G e = some ie) (h2 : G t2 = some i2) (h2d : ∃ e2, i2.d = .slice e2)
    (hx : evalO a x = some (.aref sz i p len cap)) (hLn : σ.L[n]? = some (i, .cells ts)) (hend : p + len * sz = ts.length) (hy : evalO a y = some ty) {objs : Nat → Option Ob} (hob : ∀ i o, objs i = some o → (i, o) ∈ σ.L) (hsrc : srcOf objs sz ty = some ys)
    (hsz : (Nat.beq sz ie.size && Nat.blt 0 sz && Nat.ble ie.bytes 4096) = true) (hsc : Scal ys) (hlen : len + ys.length ≤ 4294967296) (hd : fitsD N o.dst = true)
    (k : ∀ i', (∀ n, σ.nx = some n → i' = n) → K (put a o.dst (.aref sz i' 0 (len + ys.length) none)) ((σ.era n).new i' (.cells (ts.drop p ++ flat ys)))) : AOp P N o a σ K := by
  intro av w μ hi hr next Qc hn
  simp only [Bool.and_eq_true] at hsz
  obtain rfl : sz = ie.size := Nat.eq_of_beq_eq_true hsz.1.1
  have hsz0 : 0 < ie.size := by have := hsz.1.2; simpa [Nat.blt_eq] using this
  have hby := Nat.le_of_ble_eq_true hsz.2
  obtain ⟨e2, h2d⟩ := h2d
  obtain ⟨d1, u1, f1⟩ := g_under (P := P) (w := w) hG h1
  rw [h1d] at f1; obtain rfl := td_slice f1
  obtain ⟨d2, u2, f2⟩ := g_under (P := P) (w := w) hG h2
  rw [h2d] at f2; obtain rfl := td_slice f2
  have us := g_size (P := P) (w := w) hG he
  have rx := evalO_rel hr hx
  have ry := evalO_rel hr hy
  obtain ⟨s1, s2, vs, s3, s4, s5⟩ := srcOf_run (P := P) hi hob ry hsrc
  have hexec : (execOp av.eval o).run P w = ((Builtin.append_ #[t1, t2] o.type #[av.eval x, av.eval y]).run P w).andThen fun v w' => .ok (.value v) w' := by
    simp [execOp, ho, resolve, invoke, builtin]
  have hfl := flat_length s2
  obtain ⟨i', f1', f2', f3', f4'⟩ := hi.pick
  generalize hvx : av.eval x = vx at rx
  have hin := List.mem_of_getElem? hLn
  cases rx with
  | aref i b q p len c sz cap hl hc hcap hbd =>
  obtain ⟨b', q', cs, el, hl', hh, hlen', hcells⟩ := hi.obj i ts hin
  rw [hl] at hl'; injection hl' with hl'; injection hl' with q1 q2; subst q1; subst q2
  have hbd' : q + p + c * ie.size ≤ cs.size := by
    obtain ⟨c2, e2, f2', h1, h2⟩ := hbd
    rw [hh] at h1; injection h1 with h1; injection h1 with h1; subst h1; exact h2
  have hpt : p ≤ ts.length := by omega
  rcases Nat.lt_or_ge c (len + ys.length) with hlt | hge
  · -- a new block
    obtain ⟨info, ui, hib, his⟩ := g_info (P := P) (w := w) hG he
    have ui' : ∀ w, (typeInfo e).run P w = .ok info w := by
      intro w2
      obtain ⟨i0, d0, k1, k2, _⟩ := hG e ie he
      have e1 : (typeInfo e).run P w = .ok i0 w := by simp [typeInfo, k1]
      rw [ui] at e1; injection e1 with e1; subst e1
      simp [typeInfo, k1]
    obtain ⟨z, uz, rz, hz1, hz2⟩ := g_zero (P := P) (w := w) (μ := μ) (σ := σ) hG he
    have uz' : ∀ w, (zeroValue e).run P w = .ok z w := by
      intro w2
      obtain ⟨i0, d0, k1, k2, k3, k4, k5, k6, _⟩ := hG e ie he
      have e1 : ∀ w, (zeroValue e).run P w = .ok (if ie.d.agg then .agg (ie.zero.map Z.value).toArray else (ie.zero.headD .b).value) w := by
        intro w; simp only [zeroValue, typeInfo, Sem.run_bind, run_program, Result.andThen_ok, k1, k6, Sem.run_pure]
      rw [e1] at uz; injection uz with uz; rw [e1, uz]
    have u1' : ∀ w, (underlying t1).run P w = .ok (.slice e) w := by
      intro w2; obtain ⟨d, u, f⟩ := g_under (P := P) (w := w2) hG h1; rw [h1d] at f; obtain rfl := td_slice f; exact u
    have u2' : ∀ w, (underlying t2).run P w = .ok (.slice e2) w := by
      intro w2; obtain ⟨d, u, f⟩ := g_under (P := P) (w := w2) hG h2; rw [h2d] at f; obtain rfl := td_slice f; exact u
    have hcat : CellsAt w μ σ b q ts := by
      obtain ⟨b2, p2, hl2, hc2⟩ := hi.cells hin
      rw [hl] at hl2; injection hl2 with hl2; injection hl2 with q1 q2; subst q1; subst q2
      exact hc2
    obtain ⟨old, g1, g2, g3⟩ := loadCells_rel (P := P) hcat (o := p) (n := len * ie.size) (by omega)
    have g1' : ∀ w1 : World, w1.heap = w.heap → (Builtin.firstCells ie.size len (.slice (some ⟨b, q + p, none⟩) len c)).run P w1 = .ok old w1 := by
      intro w1 hw1
      have hex : ∀ j, j < len * ie.size → ∃ v, w.cell? ⟨b, q + p + j, none⟩ = some v := by
        intro j hj
        obtain ⟨v, hv, _⟩ := hcat (p + j) _ (List.getElem?_eq_getElem (by omega))
        exact ⟨v, by rw [Nat.add_assoc]; exact hv⟩
      have e1 := run_loadCells (P := P) w ⟨b, q + p, none⟩ (len * ie.size) (fun j => (w.cell? ⟨b, q + p + j, none⟩).getD undef) (fun j hj => by
        rw [add_at]; obtain ⟨v, hv⟩ := hex j hj; simp [hv])
      have e2 := run_loadCells (P := P) w1 ⟨b, q + p, none⟩ (len * ie.size) (fun j => (w.cell? ⟨b, q + p + j, none⟩).getD undef) (fun j hj => by
        rw [add_at, cell_of_heap (show w1.heap[b]? = w.heap[b]? by rw [hw1])]; obtain ⟨v, hv⟩ := hex j hj; simp [hv])
      show (loadCells ⟨b, q + p, none⟩ (len * ie.size)).run P w1 = _
      rw [e2]
      rw [g1] at e1
      injection e1 with e1
      rw [e1]
    obtain ⟨newCap, hnc, hrun⟩ := append_grow_run (P := P) (ty := o.type) (ie := info) (base := some ⟨b, q + p, none⟩) (sLen := len) (sCap := c) (vy := av.eval y) (old := old) (vs := vs) (n := ys.length) u1' u2' (fun w => by rw [his]; exact g_size hG he) ui' uz' s1 hlt (by omega) (by omega) (.inr trivial)
      (by rw [his]; exact g1' w.drew rfl) (by rw [his]; exact s3 w.drew rfl)
    have ev1 : Ev w μ σ w.drew μ σ := ev_same rfl rfl rfl rfl
    have hi1 : Inv w.drew μ σ := hi.ev_heap rfl ev1
    obtain ⟨i2, ev2⟩ := erase_step n w.drew μ hi1
    generalize hrest : Builtin.zeroCells z.cells (newCap - (len + ys.length)) = rest at hrun
    have hrs : rest.size = (newCap - (len + ys.length)) * ie.size := by rw [← hrest, zeroCells_size, hz1]
    have hcs : (old ++ vs ++ rest).size = newCap * ie.size := by
      rw [Array.size_append, Array.size_append, g2, s4, hfl, hrs, ← Nat.add_mul, ← Nat.add_mul]
      congr 1; omega
    have hdl : (ts.drop p).length = len * ie.size := by rw [List.length_drop]; omega
    have evA := ev1.trans ev2
    obtain ⟨ev3, i3⟩ := new_step i2 (old ++ vs ++ rest) e f1' f2' f3' f4' (ts := ts.drop p ++ flat ys) (by rw [hcs, List.length_append, hdl, hfl, ← Nat.add_mul]; exact Nat.mul_le_mul_right _ hnc) (fun j t u hj hu => by
      rw [Nat.zero_add] at hu
      refine Rel.ev (w := w) ?_ evA
      rcases Nat.lt_or_ge j (len * ie.size) with h | h
      · rw [List.getElem?_append_left (by omega)] at hj
        rw [Array.append_assoc, Array.getElem?_append_left (by omega)] at hu
        refine g3 j t u ?_ hu
        rw [List.getElem?_take, if_pos h]; exact hj
      · rw [List.getElem?_append_right (by omega), hdl] at hj
        have h4 : j - len * ie.size < (flat ys).length := lt_of_get hj
        rw [Array.append_assoc, Array.getElem?_append_right (by omega), g2, Array.getElem?_append_left (by omega)] at hu
        exact s5 _ t u hj hu)
    have ev := evA.trans ev3
    unfold Oper.wp
    rw [hexec, hvx, hrun]
    refine hn _ _ _ _ _ ev i3 ((hr.ev ev).put hd (Rel.aref i' w.heap.size 0 0 (len + ys.length) newCap ie.size none (addL_same _ _) hnc (fun x hx => by cases hx) ⟨_, e, _, heap_alloc_at w.drew _, by rw [hcs]; simp⟩)) (k i' f3')
  · -- in place
    have hvl : vs.toList.length = ys.length * ie.size := by rw [Array.length_toList, s4, hfl]
    have hsum : len * ie.size + ys.length * ie.size ≤ c * ie.size := by rw [← Nat.add_mul]; exact Nat.mul_le_mul_right _ hge
    have hone : ∀ v ∈ vs.toList, v.oneCell' = true := by
      intro v hv
      obtain ⟨j, hj, hjv⟩ := List.getElem_of_mem hv
      have hj' : j < (flat ys).length := by rw [Array.length_toList] at hj; omega
      refine (s5 j (flat ys)[j] v (List.getElem?_eq_getElem hj') ?_).scalar (hsc _ (List.getElem_mem hj'))
      rw [← hjv]; simp
    have hst := run_storeCells_at (P := P) b (q + p + len * ie.size) el vs.toList 0 cs w hh (by omega) hone
    generalize hc' : (cs.toList.take (q + p + len * ie.size + 0) ++ vs.toList ++ cs.toList.drop (q + p + len * ie.size + 0 + vs.toList.length)).toArray = c' at hst
    have hc'size : c'.size = cs.size := by rw [← hc']; simp; omega
    have hrun := append_room_run (P := P) (ty := o.type) u1 u2 us s1 (s3 w rfl) (sLen := len) (sCap := c) (base := some ⟨b, q + p, none⟩) hge (w1 := w.setRow b c') (by
      simp only [add_at]; exact hst)
    have ev1 : Ev w μ σ (w.setRow b c') μ (σ.set n i (.cells (ts ++ flat ys))) := set_ev hi hLn hl hh hc'size
    have hi1 : Inv (w.setRow b c') μ (σ.set n i (.cells (ts ++ flat ys))) := by
      refine set_inv hi hLn hl hh hc'size (by rw [List.length_append, hfl]; omega) fun j t v hj hv' => ?_
      rw [← hc', List.getElem?_toArray] at hv'
      have hl1 : (cs.toList.take (q + p + len * ie.size + 0)).length = q + p + len * ie.size := by simp; omega
      rcases Nat.lt_or_ge j ts.length with h | h
      · rw [List.getElem?_append_left h] at hj
        rw [List.append_assoc, List.getElem?_append_left (by omega), List.getElem?_take, if_pos (by omega)] at hv'
        exact hcells j t v hj (by simpa using hv')
      · rw [List.getElem?_append_right h] at hj
        have h4 : j - ts.length < (flat ys).length := lt_of_get hj
        rw [List.append_assoc, List.getElem?_append_right (by omega), hl1, List.getElem?_append_left (by omega), show q + j - (q + p + len * ie.size) = j - ts.length by omega] at hv'
        exact s5 _ t v hj (by simpa using hv')
    have hLn1 : (σ.set n i (.cells (ts ++ flat ys))).L[n]? = some (i, .cells (ts ++ flat ys)) := by
      simp [St.set, List.getElem?_set, lt_of_get hLn]
    obtain ⟨ev2, hi2⟩ := rename_step hi1 hLn1 hl (o := p) (by rw [List.length_append]; omega) f1' f2' f3' f4'
    have hst2 : ((σ.set n i (.cells (ts ++ flat ys))).era n).new i' (.cells ((ts ++ flat ys).drop p)) = (σ.era n).new i' (.cells (ts.drop p ++ flat ys)) := by
      rw [List.drop_append_of_le_length hpt]
      simp only [St.new, St.era, St.set]
      congr 2
      apply List.ext_getElem?
      intro m
      simp only [List.getElem?_eraseIdx, List.getElem?_set]
      split
      · rename_i h; rw [if_neg (by omega)]
      · rename_i h; rw [if_neg (by omega)]
    rw [hst2] at ev2 hi2
    have ev := ev1.trans ev2
    unfold Oper.wp
    rw [hexec, hvx, hrun]
    refine hn _ _ _ _ _ ev hi2 ((hr.ev ev).put hd ?_) (k i' f3')
    have := Rel.aref (w := w.setRow b c') (μ := μ.addL i' (b, q + p)) (σ := (σ.era n).new i' (.cells (ts.drop p ++ flat ys))) i' b (q + p) 0 (len + ys.length) c ie.size none (addL_same _ _) hge (fun x hx => by cases hx) ⟨c', el, _, setRow_heap w b cs c' el (0, 0) hh, by rw [hc'size, Nat.add_zero]; exact hbd'⟩
    exact this
end
end Go.Ts
