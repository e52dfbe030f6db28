/- A machine over trees: rules for operations on live slices, and for what is only looked at. -/
import Derived.Test.YtholeicgmkjadaaTsXM
set_option linter.unusedVariables false
set_option linter.unusedSimpArgs false
namespace Go.Ts
section
variable {P : Program} {G : Nat → Option TI} {w w1 : World} {μ : Gh} {σ σ1 : St} {N : Nat} {a : Env} {Q : Exit → Env → St → Prop}

theorem aop_buildSliceL (hG : Fits P G) {o : Oper} {t : TypeId} {len e : Nat} {parts : Array (Nat × Operand)} {i ie : TI} {pt : List (Nat × T)} {K : Env → St → Prop}
    (ho : o.op = .buildSlice t len parts) (ht : G t = some i) (htd : i.d = .slice e) (he : G e = some ie) (hp : partsT a parts.toList = some pt)
    (hok : (decide (pt.map Prod.fst = List.range' 0 len) && Nat.beq pt.length len && (pt.all fun p => notRaw p.2 && Nat.beq p.2.cells.length ie.size) && Nat.ble (len * ie.size) 16777216 && Nat.blt 0 ie.size) = true) (hd : fitsD N o.dst = true)
    (k : ∀ i', (∀ n, σ.nx = some n → i' = n) → K (put a o.dst (.aref ie.size i' 0 len (some len))) (σ.new i' (.cells (flat (pt.map Prod.snd))))) : AOp P N o a σ K := by
  intro av w μ hi hr next Qc hn
  simp only [Bool.and_eq_true, decide_eq_true_eq] at hok
  obtain ⟨⟨⟨⟨hok1, hok2⟩, hok3⟩, hok4⟩, hok5⟩ := hok
  have hok2 := Nat.eq_of_beq_eq_true hok2
  have hok4 := Nat.le_of_ble_eq_true hok4
  obtain ⟨d1, u1, f1⟩ := g_under (P := P) (w := w) hG ht
  rw [htd] at f1; obtain rfl := td_slice f1
  have us := g_size (P := P) (w := w) hG he
  obtain ⟨z, uz, rz, hz1, hz2⟩ := g_zero (P := P) (w := w) (μ := μ) (σ := σ) hG he
  obtain ⟨hl, hrel⟩ := partsT_rel hr hp
  generalize hzero : (if len * ie.size = 0 then (#[] : Array Value) else z.cells) = zero
  have hzr : (if len * ie.size = 0 then (pure #[] : Sem (Array Value)) else do pure (← zeroValue e).cells).run P w = .ok zero w := by
    rw [← hzero]; split
    · rfl
    · simp [uz]
  generalize hcells : (Array.range (len * ie.size)).map (fun q => zero[q % zero.size]!) = cells
  have hcs : cells.size = len * ie.size := by rw [← hcells]; simp
  have hcr : CellsRel w μ σ cells (cells.toList.map T.raw) := by
    refine ⟨by simp, fun j c v h1 h2 => ?_⟩
    rw [List.getElem?_map, Array.getElem?_toList, h2] at h1
    simp at h1; subst h1; exact .raw v
  have hseq := treeFill_seq (sz := ie.size) pt (cells.toList.map T.raw) 0 (by rw [hok1, hok2]) hok3 (by simp [hcs, hok2])
  simp only [Nat.zero_mul, List.take_zero, List.nil_append] at hseq
  obtain ⟨cells', h1, h2, h3⟩ := fill_rel (place := fun j => some (j * ie.size, ie.size)) (parts.toList.map fun p => (p.1, av.eval p.2)) pt _ _ _ hcr (by simpa using hl)
    (fun j i i' v t h1 h2 => by obtain ⟨h3, h4⟩ := hrel j i i' v t h1 h2; exact ⟨h3, rfl, h4⟩) hseq
  have hrun : (execOp av.eval o).run P w = .ok (.value (.slice (some ⟨w.heap.size, 0, none⟩) len len)) (w.alloc (.cells cells' e)) := by
    have hle : ¬ (16777216 < len * ie.size) := by omega
    simp only [execOp, ho, Instr.buildSlice, Sem.run_bind, u1, us, Result.andThen_ok]
    simp [hle, us]
    by_cases hz0 : len * ie.size = 0
    · rw [if_pos hz0] at hzero ⊢
      have hce : Array.map (fun x => (default : Value)) (Array.range (len * ie.size)) = cells := by
        rw [← hcells, ← hzero]; simp
      rw [hce, h1]
      simp [newRow]
    · rw [if_neg hz0] at hzero ⊢
      simp only [uz, Result.andThen_ok, hzero, hcells, h1]
      simp [newRow]
  have hsized : sized ie.size (pt.map Prod.snd) := by
    intro j x hx
    rw [List.getElem?_map] at hx
    cases hj : pt[j]? with
    | none => simp [hj] at hx
    | some p =>
      simp [hj] at hx; subst hx
      have := List.all_eq_true.1 hok3 p (List.mem_of_getElem? hj)
      rw [Bool.and_eq_true] at this
      exact Nat.eq_of_beq_eq_true this.2
  have hfl := flat_length hsized
  have hlen : (pt.map Prod.snd).length = len := by simp [hok2]
  obtain ⟨i', f1', f2', f3', f4'⟩ := hi.pick
  have hcl : cells'.size = len * ie.size := by rw [h2, hfl, hlen]
  obtain ⟨ev, hi'⟩ := new_step hi cells' e f1' f2' f3' f4' (ts := flat (pt.map Prod.snd)) (by rw [h2]; exact Nat.le_refl _) (fun j c u hc hu => h3 j c u hc (by simpa using hu))
  unfold Oper.wp
  rw [hrun]
  exact hn _ _ _ _ _ ev hi' ((hr.ev ev).put hd (Rel.aref i' w.heap.size 0 0 len len ie.size (some len) (addL_same _ _) (Nat.le_refl _) (fun x hx => by injection hx) ⟨_, e, _, heap_alloc_at w _, by rw [hcl]; simp⟩)) (k i' f3')
/-- An operation that leaves the state as it is, by what is known of its operands. -/
theorem aop_quietX (hG : Fits P G) {o : Oper} {t : T} {K : Env → St → Prop} {ρ : Operand → Option T} (hρ : ∀ x t, ρ x = some t → evalO a x = some t) (h : evalOp G (fun _ => none) ρ o.op = some t) (hd : fitsD N o.dst = true) (k : K (put a o.dst t) σ) : AOp P N o a σ K := by
  intro av w μ hi hr next Qc hn
  obtain ⟨v, h1, h2⟩ := evalOp_run (P := P) hG hi (ρv := av.eval) (fun x t hx => evalO_rel hr (hρ x t hx)) (objs := fun _ => none) (fun i o h => by cases h) h
  unfold Oper.wp
  rw [h1]
  exact hn _ _ _ _ _ (.refl _ _ _) hi (hr.put hd h2) k

/-- append onto nothing: a live slice. -/
theorem aop_app0L (hG : Fits P G) {o : Oper} {x y : Operand} {t1 t2 : TypeId} {e : Nat} {i1 i2 ie : TI} {ys : List T} {ty : T} {K : Env → St → Prop}
    (ho : o.op = .call { callee := .builtin .append, args := #[x, y], argTypes := #[t1, t2] }) (h1 : G t1 = some i1) (h1d : i1.d = .slice e) (he : G e = some ie) (h2 : G t2 = some i2) (h2d : ∃ e2, i2.d = .slice e2)
    (hx : evalO a x = some .nilsl) (hy : evalO a y = some ty) {objs : Nat → Option Ob} (hob : ∀ i o, objs i = some o → (i, o) ∈ σ.L) (hsrc : srcOf objs ie.size ty = some ys)
    (hsz : (Nat.blt 0 ie.size && Nat.ble ie.bytes 4096) = true) (hys : ys ≠ []) (hlen : ys.length ≤ 4294967296) (hd : fitsD N o.dst = true)
    (k : ∀ i', (∀ n, σ.nx = some n → i' = n) → K (put a o.dst (.aref ie.size i' 0 ys.length none)) (σ.new i' (.cells (flat ys)))) : AOp P N o a σ K := by
  intro av w μ hi hr next Qc hn
  simp only [Bool.and_eq_true] at hsz
  have hsz0 : 0 < ie.size := by have := hsz.1; simpa [Nat.blt_eq] using this
  have hby := Nat.le_of_ble_eq_true hsz.2
  have hypos : 0 < ys.length := List.length_pos_iff.2 hys
  obtain ⟨e2, h2d⟩ := h2d
  have us := g_size (P := P) (w := w) hG he
  have rx := evalO_rel hr hx
  have ry := evalO_rel hr hy
  obtain ⟨s1, s2, vs, s3, s4, s5⟩ := srcOf_run (P := P) hi hob ry hsrc
  have hexec : (execOp av.eval o).run P w = ((Builtin.append_ #[t1, t2] o.type #[av.eval x, av.eval y]).run P w).andThen fun v w' => .ok (.value v) w' := by
    simp [execOp, ho, resolve, invoke, builtin]
  have hfl := flat_length s2
  obtain ⟨i', f1', f2', f3', f4'⟩ := hi.pick
  generalize hvx : av.eval x = vx at rx
  cases rx with
  | nilsl =>
  obtain ⟨info, ui, hib, his⟩ := g_info (P := P) (w := w) hG he
  have ui' : ∀ w, (typeInfo e).run P w = .ok info w := by
    intro w2
    obtain ⟨i0, d0, k1, k2, _⟩ := hG e ie he
    have e1 : (typeInfo e).run P w = .ok i0 w := by simp [typeInfo, k1]
    rw [ui] at e1; injection e1 with e1; subst e1
    simp [typeInfo, k1]
  obtain ⟨z, uz, rz, hz1, hz2⟩ := g_zero (P := P) (w := w) (μ := μ) (σ := σ) hG he
  have uz' : ∀ w, (zeroValue e).run P w = .ok z w := by
    intro w2
    obtain ⟨i0, d0, k1, k2, k3, k4, k5, k6, _⟩ := hG e ie he
    have e1 : ∀ w, (zeroValue e).run P w = .ok (if ie.d.agg then .agg (ie.zero.map Z.value).toArray else (ie.zero.headD .b).value) w := by
      intro w; simp only [zeroValue, typeInfo, Sem.run_bind, run_program, Result.andThen_ok, k1, k6, Sem.run_pure]
    rw [e1] at uz; injection uz with uz; rw [e1, uz]
  have u1' : ∀ w, (underlying t1).run P w = .ok (.slice e) w := by
    intro w2; obtain ⟨d, u, f⟩ := g_under (P := P) (w := w2) hG h1; rw [h1d] at f; obtain rfl := td_slice f; exact u
  have u2' : ∀ w, (underlying t2).run P w = .ok (.slice e2) w := by
    intro w2; obtain ⟨d, u, f⟩ := g_under (P := P) (w := w2) hG h2; rw [h2d] at f; obtain rfl := td_slice f; exact u
  obtain ⟨newCap, hnc, hrun⟩ := append_grow_run (P := P) (ty := o.type) (ie := info) (base := none) (sLen := 0) (sCap := 0) (vy := av.eval y) (old := #[]) (vs := vs) (n := ys.length) u1' u2' (fun w => by rw [his]; exact g_size hG he) ui' uz' s1 (by omega) (by omega) (by omega) (.inr trivial)
    rfl (by rw [his]; exact s3 w.drew rfl)
  simp only [Nat.zero_add, Array.empty_append] at hrun hnc
  have ev1 : Ev w μ σ w.drew μ σ := ev_same rfl rfl rfl rfl
  have hi1 : Inv w.drew μ σ := hi.ev_heap rfl ev1
  generalize hrest : Builtin.zeroCells z.cells (newCap - ys.length) = rest at hrun
  have hrs : rest.size = (newCap - ys.length) * ie.size := by rw [← hrest, zeroCells_size, hz1]
  have hcs : (vs ++ rest).size = newCap * ie.size := by
    rw [Array.size_append, s4, hfl, hrs, ← Nat.add_mul]
    congr 1; omega
  obtain ⟨ev3, i3⟩ := new_step hi1 (vs ++ rest) e f1' f2' f3' f4' (ts := flat ys) (by rw [hcs, hfl]; exact Nat.mul_le_mul_right _ hnc) (fun j t u hj hu => by
    rw [Nat.zero_add] at hu
    refine Rel.ev (w := w) ?_ ev1
    have h4 : j < (flat ys).length := lt_of_get hj
    rw [Array.getElem?_append_left (by omega)] at hu
    exact s5 _ t u hj hu)
  have ev := ev1.trans ev3
  unfold Oper.wp
  rw [hexec, hvx, hrun]
  refine hn _ _ _ _ _ ev i3 ((hr.ev ev).put hd (Rel.aref i' w.heap.size 0 0 ys.length newCap ie.size none (addL_same _ _) hnc (fun x hx => by cases hx) ⟨_, e, _, heap_alloc_at w.drew _, by rw [hcs]; simp⟩)) (k i' f3')

/-- clear of a live slice. -/
theorem aop_clear (hG : Fits P G) {o : Oper} {x : Operand} {t : TypeId} {el : Nat} {ti te : TI} {i p n m : Nat} {cap : Option Nat} {ts : List T} {K : Env → St → Prop}
    (ho : o.op = .call { callee := .builtin .clear, args := #[x], argTypes := #[t] }) (ht : G t = some ti) (htd : ti.d = .slice el) (he : G el = some te) (hs0 : 0 < te.size) (hx : evalO a x = some (.aref te.size i p n cap)) (hob : σ.L[m]? = some (i, .cells ts))
    (hz : te.zero.all (fun z => z.tree.scalar) = true) (hle : p + n * te.size ≤ ts.length) (hn0 : 0 < n) (hd : fitsD N o.dst = true) (k : K (put a o.dst (.tup [])) (σ.set m i (.cells (stored ts (zerosT te n) p)))) : AOp P N o a σ K := by
  intro av w μ hi hr next Qc hn
  obtain ⟨d1, u1, f1⟩ := g_under (P := P) (w := w) hG ht
  rw [htd] at f1; obtain rfl := td_slice f1
  obtain ⟨z, hzz, hz1, hz2, hz3⟩ := zeros_rel hG he hs0 n
  have rx := evalO_rel hr hx
  obtain ⟨b, q, c, e, hl, hc, hlen, hrel⟩ := hi.obj i ts (List.mem_of_getElem? hob)
  generalize hvx : av.eval x = vx at rx
  cases rx with
  | aref i b' q' p n c0 sz cap hl' hnc hcap hbd =>
  rw [hl] at hl'; injection hl' with hl'; injection hl' with e1 e2; subst e1; subst e2
  generalize hcells : (Array.range (n * te.size)).map (fun q => z.cells[q % z.cells.size]!) = cells at hz3
  have hcs : cells.size = n * te.size := by rw [← hcells]; simp
  have hzc : Builtin.zeroCells z.cells n = cells := by
    rw [← hcells]; unfold Builtin.zeroCells; rw [hz1]
  have hone : ∀ v ∈ cells.toList, v.oneCell' = true := by
    intro v hv
    obtain ⟨j, hj, hjv⟩ := List.getElem_of_mem hv
    have hj' : j < (zerosT te n).length := by rw [Array.length_toList] at hj; omega
    refine (hz3 w μ σ j (zerosT te n)[j] v (List.getElem?_eq_getElem hj') ?_).scalar ?_
    · rw [← hjv]; simp
    · have hm : (zerosT te n)[j] ∈ zerosT te n := List.getElem_mem hj'
      have hall : ∀ t ∈ zerosT te n, t.scalar = true := by
        intro t ht
        unfold zerosT at ht
        rw [List.mem_flatMap] at ht
        obtain ⟨y, hy, hty⟩ := ht
        rw [List.mem_replicate] at hy
        obtain ⟨_, rfl⟩ := hy
        unfold TI.tree at hty
        split at hty
        · simp only [T.cells, List.mem_map] at hty
          obtain ⟨zz, hzz1, rfl⟩ := hty
          exact List.all_eq_true.1 hz zz hzz1
        · have hc1 : ∀ zz : Z, zz.tree.cells = [zz.tree] ∧ zz.tree.scalar = true := by intro zz; cases zz <;> exact ⟨rfl, rfl⟩
          rw [(hc1 _).1, List.mem_singleton] at hty
          rw [hty]; exact (hc1 _).2
      exact hall _ hm
  have hst := run_storeCells_at (P := P) b (q + p) e cells.toList 0 c w hc (by rw [Array.length_toList]; omega) hone
  generalize hc' : (c.toList.take (q + p + 0) ++ cells.toList ++ c.toList.drop (q + p + 0 + cells.toList.length)).toArray = c' at hst
  have hrun : (execOp av.eval o).run P w = .ok (.value (.tuple #[])) (w.setRow b c') := by
    have : (Builtin.clear_ #[t] o.type #[.slice (some ⟨b, q + p, none⟩) n c0]).run P w = .ok (.tuple #[]) (w.setRow b c') := by
      obtain ⟨n', rfl⟩ : ∃ n', n = n' + 1 := ⟨n - 1, by omega⟩
      simp [Builtin.clear_, u1, hzz, hzc]
      try simp at hst
      simp [hst]
    simp [execOp, ho, resolve, invoke, builtin, hvx, this]
  have hc'size : c'.size = c.size := by rw [← hc']; simp; omega
  have hle' : p + (zerosT te n).length ≤ ts.length := by rw [hz2]; exact hle
  have ev : Ev w μ σ (w.setRow b c') μ (σ.set m i (.cells (stored ts (zerosT te n) p))) := set_ev hi hob hl hc hc'size
  have hi' : Inv (w.setRow b c') μ (σ.set m i (.cells (stored ts (zerosT te n) p))) := by
    refine set_inv hi hob hl hc hc'size (by rw [stored_length hle']; omega) fun j t' v hj hv' => ?_
    rw [← hc'] at hv'
    simp only [Nat.add_zero, List.getElem?_toArray] at hv'
    rw [stored_get hle'] at hj
    have hl2 : (c.toList.take (q + p)).length = q + p := by simp; omega
    rw [List.append_assoc] at hv'
    rcases Nat.lt_or_ge j p with h | h
    · rw [if_neg (by omega)] at hj
      rw [List.getElem?_append_left (by omega), List.getElem?_take, if_pos (by omega)] at hv'
      exact hrel j t' v hj (by simpa using hv')
    · rw [List.getElem?_append_right (by omega), hl2, show q + j - (q + p) = j - p by omega] at hv'
      by_cases h2 : j < p + (zerosT te n).length
      · rw [if_pos ⟨h, h2⟩] at hj
        rw [List.getElem?_append_left (by rw [Array.length_toList]; omega)] at hv'
        exact hz3 w μ σ _ t' v hj (by simpa using hv')
      · rw [if_neg (by omega)] at hj
        rw [List.getElem?_append_right (by rw [Array.length_toList]; omega), List.getElem?_drop, Array.length_toList] at hv'
        rw [show q + p + cells.size + (j - p - cells.size) = q + j by omega] at hv'
        exact hrel j t' v hj (by simpa using hv')
  unfold Oper.wp
  rw [hrun]
  exact hn _ _ _ _ _ ev hi' ((hr.ev ev).put hd (.tup [] #[] rfl fun j c v h1 h2 => by simp at h1)) k

theorem srcOf_nilsl {objs : Nat → Option Ob} {sz : Nat} : srcOf objs sz .nilsl = some [] := rfl
end
end Go.Ts
