/- Trees, continued: literals of structs and slices, calls, whole functions. -/
import Derived.Test.YtholeicgmkjadaaTsD
set_option linter.unusedVariables false
set_option linter.unusedSimpArgs false
namespace Go.Ts

theorem set_loop : ∀ (l : List Value) (cells : Array Value) (off st : Nat), off + st + l.length ≤ cells.size →
    ((l.zipIdx st).foldl (fun cs (x : Value × Nat) => cs.setIfInBounds (off + x.2) x.1) cells).size = cells.size ∧
    ∀ k, ((l.zipIdx st).foldl (fun cs (x : Value × Nat) => cs.setIfInBounds (off + x.2) x.1) cells)[k]? = if off + st ≤ k ∧ k < off + st + l.length then l[k - (off + st)]? else cells[k]?
  | [], cells, off, st, h => by
    refine ⟨rfl, fun k => ?_⟩
    have : ¬ (off + st ≤ k ∧ k < off + st + ([] : List Value).length) := by simp only [List.length_nil]; omega
    rw [if_neg this]; rfl
  | v :: l, cells, off, st, h => by
    simp only [List.length_cons] at h
    obtain ⟨h1, h2⟩ := set_loop l (cells.setIfInBounds (off + st) v) off (st + 1) (by simp; omega)
    refine ⟨by simpa using h1, fun k => ?_⟩
    simp only [List.zipIdx_cons, List.foldl_cons]
    rw [h2 k]
    by_cases h3 : k = off + st
    · subst h3
      rw [if_neg (by omega), if_pos (by simp only [List.length_cons]; omega), Array.getElem?_setIfInBounds, if_pos rfl, if_pos (by omega)]
      simp
    · by_cases h4 : off + (st + 1) ≤ k ∧ k < off + (st + 1) + l.length
      · rw [if_pos h4, if_pos (by simp only [List.length_cons]; omega)]
        rw [show k - (off + st) = (k - (off + (st + 1))) + 1 by omega, List.getElem?_cons_succ]
      · rw [if_neg h4, if_neg (by simp only [List.length_cons]; omega)]
        rw [Array.getElem?_setIfInBounds, if_neg (by omega)]

def treeFill (place : Nat → Option (Nat × Nat)) (ts : List T) : List (Nat × T) → Option (List T)
  | [] => some ts
  | (i, t) :: rest => match place i with
    | some (off, size) => cond (notRaw t && Nat.beq t.cells.length size && Nat.ble (off + t.cells.length) ts.length) (treeFill place (stored ts t.cells off) rest) none
    | none => none

section
variable {P : Program} {G : Nat → Option TI} {w w1 : World} {μ : Gh} {σ σ1 : St} {N : Nat} {a : Env} {Q : Exit → Env → St → Prop}

/-- A new block in which nothing will be written. -/
theorem frozen_step (hi : Inv w μ σ) (c : Array Value) (e : TypeId) : Ev w μ σ (w.alloc (.cells c e)) μ σ ∧ Inv (w.alloc (.cells c e)) μ σ := by
  have hsz := size_alloc w (.cells c e)
  have ev : Ev w μ σ (w.alloc (.cells c e)) μ σ := ev_new hi (fun _ _ h => h) (fun _ _ h => h) rfl (fun i o b p h1 h2 _ => ⟨o, i, p, h1, h2⟩) (fun k b f t h1 h2 _ _ => ⟨h1, h2⟩)
  refine ⟨ev, fun i ts h => ?_, fun i es h => ?_, hi.inj, fun k hk => ?_, hi.rinj, hi.fin, fun b o h => by have := hi.offlt b o h; omega, hi.offobj⟩
  · obtain ⟨b, p, c', e', h1, h2, h3, h4⟩ := hi.obj i ts h
    exact ⟨b, p, c', e', h1, by rw [heap_alloc_ne w _ (Array.getElem?_eq_some_iff.1 h2).1]; exact h2, h3, fun j t v h5 h6 => (h4 j t v h5 h6).ev ev⟩
  · obtain ⟨b, en, cl, h1, h2, h3, h4⟩ := hi.map i es h
    exact ⟨b, en, cl, h1, by rw [heap_alloc_ne w _ (Array.getElem?_eq_some_iff.1 h2).1]; exact h2, h3, fun j k u e' h5 h6 => let ⟨h7, h8⟩ := h4 j k u e' h5 h6; ⟨h7.ev ev, h8.ev ev⟩⟩
  · obtain ⟨b, f, t, h1, h2, h3⟩ := hi.room k hk
    exact ⟨b, f, t, h1, h2, fun hlt => let ⟨⟨c', e', h4, h5⟩, h6⟩ := h3 hlt; ⟨⟨c', e', by rw [heap_alloc_ne w _ (Array.getElem?_eq_some_iff.1 h4).1]; exact h4, h5⟩, h6⟩⟩
theorem fresh_imm (hi : Inv w μ σ) {ob : Obj} {c : Array Value} {e : TypeId} {f : Nat × Nat} (h : (w.alloc ob).heap[w.heap.size]? = some (.cells c e f)) (q : Nat) : Imm (w.alloc ob) μ σ w.heap.size (0 + q) := by
  refine ⟨(Array.getElem?_eq_some_iff.1 h).1, fun h => absurd (hi.offlt _ _ h) (Nat.lt_irrefl _), fun i ob p h1 h2 => absurd (hi.lts h1 h2) (Nat.lt_irrefl _), fun k f t h1 h2 => ?_⟩
  obtain ⟨b', f', t', r1, r2, r3⟩ := hi.room k h1
  rw [h2] at r1; injection r1 with r1; injection r1 with r1 r4; injection r4 with r4 r5
  subst r4; subst r5
  intro ⟨q5, q6⟩
  obtain ⟨⟨c, e', r6, _⟩, _⟩ := r3 (by omega)
  have := (Array.getElem?_eq_some_iff.1 r6).1; omega

def CellsRel (w : World) (μ : Gh) (σ : St) (vs : Array Value) (ts : List T) : Prop := vs.size = ts.length ∧ ∀ (j : Nat) (c : T) (v : Value), ts[j]? = some c → vs[j]? = some v → Rel w μ σ v c

theorem stored_get {ts cs : List T} {o : Nat} (h : o + cs.length ≤ ts.length) (k : Nat) : (stored ts cs o)[k]? = if o ≤ k ∧ k < o + cs.length then cs[k - o]? else ts[k]? := by
  unfold stored
  have hl : (ts.take o).length = o := by simp; omega
  rw [List.append_assoc]
  rcases Nat.lt_or_ge k o with h1 | h1
  · rw [List.getElem?_append_left (by omega), if_neg (by omega), List.getElem?_take, if_pos h1]
  · rw [List.getElem?_append_right (by omega), hl]
    rcases Nat.lt_or_ge (k - o) cs.length with h2 | h2
    · rw [List.getElem?_append_left h2, if_pos (by omega)]
    · rw [List.getElem?_append_right h2, if_neg (by omega), List.getElem?_drop, show o + cs.length + (k - o - cs.length) = k by omega]

theorem fill_rel {place placeT : Nat → Option (Nat × Nat)} : ∀ (ps : List (Nat × Value)) (pt : List (Nat × T)) (cells : Array Value) (ts ts' : List T), CellsRel w μ σ cells ts →
    ps.length = pt.length → (∀ (j : Nat) (i i' : Nat) (v : Value) (t : T), ps[j]? = some (i, v) → pt[j]? = some (i', t) → i = i' ∧ place i = placeT i ∧ Rel w μ σ v t) →
    treeFill placeT ts pt = some ts' → ∃ cells', Instr.fill place cells ps = some cells' ∧ CellsRel w μ σ cells' ts'
  | [], [], cells, ts, ts', h, _, _, hf => by simp [treeFill] at hf; subst hf; exact ⟨cells, rfl, h⟩
  | [], _ :: _, _, _, _, _, hl, _, _ => by simp at hl
  | _ :: _, [], _, _, _, _, hl, _, _ => by simp at hl
  | (i, v) :: ps, (i', t) :: pt, cells, ts, ts', h, hl, hr, hf => by
    obtain ⟨rfl, hp, hv⟩ := hr 0 i i' v t rfl rfl
    simp only [treeFill] at hf
    cases hpl : placeT i with
    | none => simp [hpl] at hf
    | some os =>
      obtain ⟨off, size⟩ := os
      simp only [hpl] at hf
      cases hc : (notRaw t && Nat.beq t.cells.length size && Nat.ble (off + t.cells.length) ts.length) with
      | false => simp [hc] at hf
      | true =>
        rw [hc] at hf
        simp only [cond_true] at hf
        simp only [Bool.and_eq_true] at hc
        obtain ⟨⟨hc0, hc1⟩, hc2⟩ := hc
        have hc1 := Nat.eq_of_beq_eq_true hc1
        have hc2 := Nat.le_of_ble_eq_true hc2
        obtain ⟨hv1, hv2⟩ := hv.cells (notRaw_ne hc0)
        obtain ⟨hs1, hs2⟩ := h
        obtain ⟨hz1, hz2⟩ := set_loop v.cells.toList cells off 0 (by rw [Array.length_toList]; omega)
        simp only [Nat.add_zero, Array.length_toList] at hz1 hz2
        have hnew : CellsRel w μ σ ((v.cells.toList.zipIdx 0).foldl (fun cs (x : Value × Nat) => cs.setIfInBounds (off + x.2) x.1) cells) (stored ts t.cells off) := by
          refine ⟨by rw [hz1, stored_length hc2, hs1], fun j c u hj hu => ?_⟩
          rw [stored_get hc2] at hj
          rw [hz2, hv1] at hu
          split at hj
          · rename_i hcond
            rw [if_pos hcond] at hu
            exact hv2 _ c u hj (by simpa using hu)
          · rename_i hcond
            rw [if_neg hcond] at hu
            exact hs2 j c u hj hu
        obtain ⟨cells', h3, h4⟩ := fill_rel ps pt _ _ ts' hnew (by simpa using hl) (fun j i i' v t h5 h6 => hr (j + 1) i i' v t (by simpa using h5) (by simpa using h6)) hf
        refine ⟨cells', ?_, h4⟩
        simp only [Instr.fill, hp, hpl]
        rw [if_neg (by simp; omega), ← h3]
        congr 1
        rw [← Array.foldl_toList, Array.toList_zipIdx]

def partsT (a : Env) : List (Nat × Operand) → Option (List (Nat × T))
  | [] => some []
  | (i, x) :: r => match evalO a x, partsT a r with
    | some t, some ts => some ((i, t) :: ts)
    | _, _ => none

theorem partsT_rel {av : Act} (hr : RelA w μ σ N av a) : ∀ {ps : List (Nat × Operand)} {pt : List (Nat × T)}, partsT a ps = some pt → ps.length = pt.length ∧
    ∀ (j : Nat) (i i' : Nat) (v : Value) (t : T), (ps.map fun p => (p.1, av.eval p.2))[j]? = some (i, v) → pt[j]? = some (i', t) → i = i' ∧ Rel w μ σ v t
  | [], pt, h => by simp [partsT] at h; subst h; exact ⟨rfl, fun j i i' v t h1 => by simp at h1⟩
  | (i, x) :: ps, pt, h => by
    simp only [partsT] at h
    split at h
    · rename_i t ts ht hts
      injection h with h; subst h
      obtain ⟨h1, h2⟩ := partsT_rel hr hts
      refine ⟨by simp [h1], fun j i i' v t hj ht' => ?_⟩
      cases j with
      | zero =>
        simp at hj ht'
        obtain ⟨rfl, rfl⟩ := hj
        obtain ⟨rfl, rfl⟩ := ht'
        exact ⟨rfl, evalO_rel hr ht⟩
      | succ j => exact h2 j i i' v t (by simpa using hj) (by simpa using ht')
    · cases h

def placeOf (G : Nat → Option TI) (i : TI) : Nat → Option (Nat × Nat) := fun j =>
  match i.d with
  | .struct fs => match fs[j]? with
    | some (off, ft) => match sizeT G ft with
      | some n => some (off, n)
      | none => none
    | none => none
  | .arr _ e => match sizeT G e with
    | some n => some (j * n, n)
    | none => none
  | _ => none

def placesOk (G : Nat → Option TI) (i : TI) : Bool :=
  match i.d with
  | .struct fs => fs.all fun f => (sizeT G f.2).isSome
  | _ => false

theorem sizeT_some {t n : Nat} (h : sizeT G t = some n) : ∃ i, G t = some i ∧ i.size = n := by
  unfold sizeT at h; cases hg : G t with
  | none => simp [hg] at h
  | some i => simp [hg] at h; exact ⟨i, rfl, h⟩

theorem mapM_places (hG : Fits P G) : ∀ (fs : List Field), (fs.all fun f => (sizeT G f.type).isSome) = true →
    (fs.mapM (m := Sem) fun f => Prod.mk f.offset <$> sizeOf f.type).run P w = .ok (fs.map fun f => (f.offset, (sizeT G f.type).getD 0)) w
  | [], _ => rfl
  | f :: fs, h => by
    simp only [List.all_cons, Bool.and_eq_true] at h
    obtain ⟨n, hn⟩ := Option.isSome_iff_exists.1 h.1
    obtain ⟨i, hi, hi'⟩ := sizeT_some hn
    have := g_size (P := P) (w := w) hG hi
    simp [List.mapM_cons, this, mapM_places hG fs h.2, hn, hi']

theorem aop_build (hG : Fits P G) {o : Oper} {t : TypeId} {parts : Array (Nat × Operand)} {i : TI} {pt : List (Nat × T)} {cs : List T} {K : Env → St → Prop}
    (ho : o.op = .build t parts) (ht : G t = some i) (hpl : (placesOk G i) = true) (hp : partsT a parts.toList = some pt) (hf : treeFill (placeOf G i) (i.zero.map Z.tree) pt = some cs) (hd : fitsD N o.dst = true)
    (k : K (put a o.dst (.agg cs)) σ) : AOp P N o a σ K := by
  intro av w μ hi hr next Qc hn
  have hagg : i.d.agg = true := by
    unfold placesOk at hpl; cases hdd : i.d <;> rw [hdd] at hpl <;> first | rfl | cases hpl
  obtain ⟨info, d, k1, k2, k3, k4, k5, k6, k7, k8⟩ := hG t i ht
  rw [hagg] at k6
  have hz : (zeroValue t).run P w = .ok (.agg (i.zero.map Z.value).toArray) w := by simp only [zeroValue, typeInfo, Sem.run_bind, run_program, Result.andThen_ok, k1, k6, if_true, Sem.run_pure]
  have hcr : CellsRel w μ σ (i.zero.map Z.value).toArray (i.zero.map Z.tree) := ⟨by simp, by simpa using zrel_list i.zero⟩
  obtain ⟨hl, hrel⟩ := partsT_rel hr hp
  have key : ∀ place : Nat → Option (Nat × Nat), (∀ j, place j = placeOf G i j) → ∃ cells', Instr.fill place (i.zero.map Z.value).toArray (parts.toList.map fun p => (p.1, av.eval p.2)) = some cells' ∧ CellsRel w μ σ cells' cs := by
    intro place hpl
    exact fill_rel _ pt _ _ cs hcr (by simpa using hl) (fun j i i' v t h1 h2 => by obtain ⟨h3, h4⟩ := hrel j i i' v t h1 h2; exact ⟨h3, hpl i, h4⟩) hf
  have fin : ∀ place : Nat → Option (Nat × Nat), (∀ j, place j = placeOf G i j) → (∀ cells', Instr.fill place (i.zero.map Z.value).toArray (parts.toList.map fun p => (p.1, av.eval p.2)) = some cells' →
      (execOp av.eval o).run P w = .ok (.value (.agg cells')) w) → Oper.wp P o av w next Qc := by
    intro place hpl hrun
    obtain ⟨cells', h1, h2, h3⟩ := key place hpl
    unfold Oper.wp
    rw [hrun cells' h1]
    exact hn _ _ _ _ _ (.refl _ _ _) hi (hr.put hd (.agg _ _ h2 h3)) k
  have hund : (underlying t).run P w = .ok d w := by simp [underlying, k2]
  unfold placesOk at hpl
  cases hdd : i.d with
  | struct fl =>
    rw [hdd] at hpl k3
    obtain ⟨fs, rfl, hfs⟩ := td_struct k3
    have hall : (fs.toList.all fun f => (sizeT G f.type).isSome) = true := by
      simp only at hpl
      rw [← hfs, List.all_map] at hpl; exact hpl
    have hm := mapM_places (w := w) hG fs.toList hall
    refine fin (fun j => ((fs.toList.map fun f => (f.offset, (sizeT G f.type).getD 0)).toArray)[j]?) (fun j => ?_) (fun cells' hc => ?_)
    · simp only [placeOf, hdd, ← hfs]
      simp only [List.getElem?_toArray, List.getElem?_map]
      cases hj : fs.toList[j]? with
      | none => simp
      | some f =>
        simp only [Option.map_some]
        obtain ⟨n, hn⟩ := Option.isSome_iff_exists.1 (List.all_eq_true.1 hall f (List.mem_of_getElem? hj))
        simp [hn]
    · have hmm : (fs.mapM (m := Sem) fun f => Prod.mk f.offset <$> sizeOf f.type).run P w = .ok (fs.toList.map fun f => (f.offset, (sizeT G f.type).getD 0)).toArray w := by
        rw [Array.mapM_eq_mapM_toList]
        simp [hm]
      have hz' : (zeroValue t).run P w = .ok (.agg (i.zero.map Z.value).toArray) w := hz
      have hpa : (parts.map fun (p : Nat × Operand) => (p.1, av.eval p.2)).toList = parts.toList.map fun p => (p.1, av.eval p.2) := by simp
      simp [execOp, ho, Instr.build, hz', Value.cells, hund, hmm]
      simp at hc
      rw [hc]
      rfl
  | arr n e => rw [hdd] at hpl; cases hpl
  | _ => rw [hdd] at hagg; cases hagg

theorem treeFill_seq {sz : Nat} : ∀ (pt : List (Nat × T)) (ts : List T) (i : Nat), pt.map Prod.fst = List.range' i pt.length → (pt.all fun p => notRaw p.2 && Nat.beq p.2.cells.length sz) = true → ts.length = (i + pt.length) * sz →
    treeFill (fun j => some (j * sz, sz)) ts pt = some (ts.take (i * sz) ++ flat (pt.map Prod.snd))
  | [], ts, i, _, _, hl => by
    simp at hl
    simp [treeFill, flat, ← hl]
  | (j, t) :: pt, ts, i, hi, ha, hl => by
    simp only [List.map_cons, List.length_cons, List.range'_succ, List.cons.injEq] at hi
    obtain ⟨rfl, hi⟩ := hi
    simp only [List.all_cons, Bool.and_eq_true] at ha
    obtain ⟨⟨ha1, ha2⟩, ha3⟩ := ha
    have hsz := Nat.eq_of_beq_eq_true ha2
    have hle : j * sz + sz ≤ ts.length := by
      rw [hl, List.length_cons, show j * sz + sz = (j + 1) * sz by rw [Nat.add_mul]; omega]
      exact Nat.mul_le_mul_right _ (by omega)
    have hb : Nat.ble (j * sz + t.cells.length) ts.length = true := Nat.ble_eq_true_of_le (by omega)
    simp only [treeFill, ha1, ha2, hb, Bool.and_self, cond_true]
    rw [treeFill_seq pt _ (j + 1) hi ha3 (by rw [stored_length (by omega), hl, List.length_cons]; congr 1; omega)]
    congr 1
    simp only [List.map_cons, flat_cons]
    rw [← List.append_assoc]
    congr 1
    unfold stored
    rw [hsz, show (j + 1) * sz = j * sz + sz by rw [Nat.add_mul]; omega]
    have h1 : (ts.take (j * sz)).length = j * sz := by simp; omega
    rw [List.append_assoc, List.take_append, h1, List.take_of_length_le (by omega), show j * sz + sz - j * sz = t.cells.length by omega, List.take_append, List.take_of_length_le (Nat.le_refl _)]
    simp

theorem aop_buildSlice (hG : Fits P G) {o : Oper} {t : TypeId} {len e : Nat} {parts : Array (Nat × Operand)} {i ie : TI} {pt : List (Nat × T)} {K : Env → St → Prop}
    (ho : o.op = .buildSlice t len parts) (ht : G t = some i) (htd : i.d = .slice e) (he : G e = some ie) (hp : partsT a parts.toList = some pt)
    (hok : (decide (pt.map Prod.fst = List.range' 0 len) && Nat.beq pt.length len && (pt.all fun p => notRaw p.2 && Nat.beq p.2.cells.length ie.size) && Nat.ble (len * ie.size) 16777216 && Nat.blt 0 ie.size) = true) (hd : fitsD N o.dst = true)
    (k : K (put a o.dst (.sl ie.size .full (pt.map Prod.snd))) σ) : AOp P N o a σ K := by
  intro av w μ hi hr next Qc hn
  simp only [Bool.and_eq_true, decide_eq_true_eq] at hok
  obtain ⟨⟨⟨⟨hok1, hok2⟩, hok3⟩, hok4⟩, hok5⟩ := hok
  have hok2 := Nat.eq_of_beq_eq_true hok2
  have hok4 := Nat.le_of_ble_eq_true hok4
  obtain ⟨d1, u1, f1⟩ := g_under (P := P) (w := w) hG ht
  rw [htd] at f1; obtain rfl := td_slice f1
  have us := g_size (P := P) (w := w) hG he
  obtain ⟨z, uz, rz, hz1, hz2⟩ := g_zero (P := P) (w := w) (μ := μ) (σ := σ) hG he
  obtain ⟨hl, hrel⟩ := partsT_rel hr hp
  generalize hzero : (if len * ie.size = 0 then (#[] : Array Value) else z.cells) = zero
  have hzr : (if len * ie.size = 0 then (pure #[] : Sem (Array Value)) else do pure (← zeroValue e).cells).run P w = .ok zero w := by
    rw [← hzero]; split
    · rfl
    · simp [uz]
  generalize hcells : (Array.range (len * ie.size)).map (fun q => zero[q % zero.size]!) = cells
  have hcs : cells.size = len * ie.size := by rw [← hcells]; simp
  have hcr : CellsRel w μ σ cells (cells.toList.map T.raw) := by
    refine ⟨by simp, fun j c v h1 h2 => ?_⟩
    rw [List.getElem?_map, Array.getElem?_toList, h2] at h1
    simp at h1; subst h1; exact .raw v
  have hseq := treeFill_seq (sz := ie.size) pt (cells.toList.map T.raw) 0 (by rw [hok1, hok2]) hok3 (by simp [hcs, hok2])
  simp only [Nat.zero_mul, List.take_zero, List.nil_append] at hseq
  obtain ⟨cells', h1, h2, h3⟩ := fill_rel (place := fun j => some (j * ie.size, ie.size)) (parts.toList.map fun p => (p.1, av.eval p.2)) pt _ _ _ hcr (by simpa using hl)
    (fun j i i' v t h1 h2 => by obtain ⟨h3, h4⟩ := hrel j i i' v t h1 h2; exact ⟨h3, rfl, h4⟩) hseq
  have hrun : (execOp av.eval o).run P w = .ok (.value (.slice (some ⟨w.heap.size, 0, none⟩) len len)) (w.alloc (.cells cells' e)) := by
    have hle : ¬ (16777216 < len * ie.size) := by omega
    simp only [execOp, ho, Instr.buildSlice, Sem.run_bind, u1, us, Result.andThen_ok]
    simp [hle, us]
    by_cases hz0 : len * ie.size = 0
    · rw [if_pos hz0] at hzero ⊢
      have hce : Array.map (fun x => (default : Value)) (Array.range (len * ie.size)) = cells := by
        rw [← hcells, ← hzero]; simp
      rw [hce, h1]
      simp [newRow]
    · rw [if_neg hz0] at hzero ⊢
      simp only [uz, Result.andThen_ok, hzero, hcells, h1]
      simp [newRow]
  obtain ⟨ev, hi'⟩ := frozen_step hi cells' e
  have hsized : sized ie.size (pt.map Prod.snd) := by
    intro j x hx
    rw [List.getElem?_map] at hx
    cases hj : pt[j]? with
    | none => simp [hj] at hx
    | some p =>
      simp [hj] at hx; subst hx
      have := List.all_eq_true.1 hok3 p (List.mem_of_getElem? hj)
      rw [Bool.and_eq_true] at this
      exact Nat.eq_of_beq_eq_true this.2
  have hfl := flat_length hsized
  have hlen : (pt.map Prod.snd).length = len := by simp [hok2]
  unfold Oper.wp
  rw [hrun]
  refine hn _ _ _ _ _ ev hi' ((hr.ev ev).put hd (sl_mk hlen (Nat.le_refl _) (show OwnOK μ .full _ _ _ from rfl) hsized (fun k c hk => ?_))) k
  have hheap : (w.alloc (.cells cells' e)).heap[w.heap.size]? = some (.cells cells' e (0, 0)) := heap_alloc_at w _
  have hklt : k < (flat (pt.map Prod.snd)).length := by
    rcases Nat.lt_or_ge k (flat (pt.map Prod.snd)).length with h | h
    · exact h
    · rw [List.getElem?_eq_none h] at hk; cases hk
  have hkc : cells'[k]? = some cells'[k] := Array.getElem?_eq_getElem (by omega)
  refine ⟨fresh_imm hi hheap k, cells'[k], ?_, (h3 k c _ hk hkc).ev ev⟩
  simp only [World.cell?, hheap, Nat.zero_add]
  simp

/-- A function can be called, and what the call comes to. -/
def ACalls (P : Program) (f : FuncId) (ts : List T) (σ : St) (R : T → St → Prop) : Prop :=
  (∃ fn, P.funcs[f]? = some fn ∧ fn.name ≠ "runtime.NumGoroutine" ∧ fn.body.isNone = false) ∧
  ∀ (vs : Array Value) (w : World) (μ : Gh), Inv w μ σ → vs.size = ts.length → (∀ (j : Nat) (t : T) (v : Value), ts[j]? = some t → vs[j]? = some v → Rel w μ σ v t) →
    Calls P f vs w fun e w' => ∃ v t σ' μ', e = .returned v ∧ Ev w μ σ w' μ' σ' ∧ Inv w' μ' σ' ∧ Rel w' μ' σ' v t ∧ R t σ'

theorem ACalls.mono {f : FuncId} {ts : List T} {R R' : T → St → Prop} (h : ACalls P f ts σ R) (k : ∀ t σ, R t σ → R' t σ) : ACalls P f ts σ R' :=
  ⟨h.1, fun vs w μ hi hs hr => (h.2 vs w μ hi hs hr).mono fun e w' ⟨v, t, σ', μ', h1, h2, h3, h4, h5⟩ => ⟨v, t, σ', μ', h1, h2, h3, h4, k _ _ h5⟩⟩

theorem ACalls.weak {f : FuncId} {ts us : List T} {R : T → St → Prop} (h : ACalls P f us σ R) (hl : ts.length = us.length) (hw : ∀ (j : Nat) (t u : T), ts[j]? = some t → us[j]? = some u → Wk t u) : ACalls P f ts σ R :=
  ⟨h.1, fun vs w μ hi hs hr => h.2 vs w μ hi (by omega) fun j u v hu hv => by
    have hj := lt_of_get hu
    have ht : ts[j]? = some ts[j] := List.getElem?_eq_getElem (by omega)
    exact hw j _ u ht hu w μ σ v (hr j _ v ht hv)⟩

def argsT (a : Env) : List Operand → Option (List T)
  | [] => some []
  | x :: r => match evalO a x, argsT a r with
    | some t, some ts => some (t :: ts)
    | _, _ => none

theorem argsT_rel {av : Act} (hr : RelA w μ σ N av a) : ∀ {xs : List Operand} {ts : List T}, argsT a xs = some ts → xs.length = ts.length ∧
    ∀ (j : Nat) (v : Value) (t : T), ts[j]? = some t → (xs.map av.eval)[j]? = some v → Rel w μ σ v t
  | [], ts, h => by simp [argsT] at h; subst h; exact ⟨rfl, fun j v t h1 => by simp at h1⟩
  | x :: xs, ts, h => by
    simp only [argsT] at h
    split at h
    · rename_i t ts ht hts
      injection h with h; subst h
      obtain ⟨h1, h2⟩ := argsT_rel hr hts
      refine ⟨by simp [h1], fun j v u hu hv => ?_⟩
      cases j with
      | zero => simp at hu hv; subst hu; subst hv; exact evalO_rel hr ht
      | succ j => exact h2 j v u (by simpa using hu) (by simpa using hv)
    · cases h

theorem aop_call {o : Oper} {f : Operand} {args : Array Operand} {tys : Array TypeId} {g : FuncId} {caps ts : List T} {K : Env → St → Prop}
    (ho : o.op = .call { callee := .value f, args := args, argTypes := tys }) (hf : evalO a f = some (.fn (.func g) caps)) (ha : argsT a args.toList = some ts) (hd : fitsD N o.dst = true)
    (k : ACalls P g (ts ++ caps) σ (fun r σ' => K (put a o.dst r) σ')) : AOp P N o a σ K := by
  intro av w μ hi hr next Qc hn
  obtain ⟨⟨fn, hfn1, hfn2, hfn3⟩, hc⟩ := k
  have rf := evalO_rel hr hf
  obtain ⟨hl, hrel⟩ := argsT_rel hr ha
  generalize hv : av.eval f = vf at rf
  cases rf with
  | fn _ _ vs hvs r =>
    have hbn : fn.body ≠ none := by intro h; rw [h] at hfn3; cases hfn3
    have hrun : (execOp av.eval o).run P w = .ok (.enter g (args.map av.eval ++ vs)) w := by
      simp [execOp, ho, resolve, hv, Deferred.ofValue, invoke, callFunc, hfn1, hfn2, hbn]
    unfold Oper.wp
    rw [hrun]
    refine (hc (args.map av.eval ++ vs) w μ hi (by simp at hl; simp [hvs, hl]) (fun j t v ht hv' => ?_)).mono ?_
    · have hl' : args.size = ts.length := by simpa using hl
      rcases Nat.lt_or_ge j ts.length with h | h
      · rw [List.getElem?_append_left h] at ht
        rw [Array.getElem?_append_left (by simp; omega)] at hv'
        exact hrel j v t ht (by simpa using hv')
      · rw [List.getElem?_append_right h] at ht
        rw [Array.getElem?_append_right (by simp; omega)] at hv'
        simp only [Array.size_map, hl'] at hv'
        exact r _ t v ht hv'
    · rintro e w' ⟨v, t, σ', μ', rfl, ev, hi', hrv, hk⟩
      exact hn _ _ _ _ _ ev hi' ((hr.ev ev).put hd hrv) hk

/-- A bound method is called. -/
theorem aop_callB {o : Oper} {f : Operand} {args : Array Operand} {tys : Array TypeId} {g : FuncId} {caps ts : List T} {K : Env → St → Prop}
    (ho : o.op = .call { callee := .value f, args := args, argTypes := tys }) (hf : evalO a f = some (.bnd (.func g) caps)) (ha : argsT a args.toList = some ts) (hd : fitsD N o.dst = true)
    (k : ACalls P g (caps ++ ts) σ (fun r σ' => K (put a o.dst r) σ')) : AOp P N o a σ K := by
  intro av w μ hi hr next Qc hn
  obtain ⟨⟨fn, hfn1, hfn2, hfn3⟩, hc⟩ := k
  have rf := evalO_rel hr hf
  obtain ⟨hl, hrel⟩ := argsT_rel hr ha
  generalize hv : av.eval f = vf at rf
  cases rf with
  | bnd _ _ vs hvs r =>
    have hbn : fn.body ≠ none := by intro h; rw [h] at hfn3; cases hfn3
    have hrun : (execOp av.eval o).run P w = .ok (.enter g (vs ++ args.map av.eval)) w := by
      simp [execOp, ho, resolve, hv, Deferred.ofValue, invoke, callFunc, hfn1, hfn2, hbn]
    unfold Oper.wp
    rw [hrun]
    refine (hc (vs ++ args.map av.eval) w μ hi (by simp at hl; simp [hvs, hl]) (fun j t v ht hv' => ?_)).mono ?_
    · have hl' : args.size = ts.length := by simpa using hl
      rcases Nat.lt_or_ge j caps.length with h | h
      · rw [List.getElem?_append_left h] at ht
        rw [Array.getElem?_append_left (by omega)] at hv'
        exact r j t v ht hv'
      · rw [List.getElem?_append_right h] at ht
        rw [Array.getElem?_append_right (by omega), hvs] at hv'
        exact hrel _ v t ht (by simpa using hv')
    · rintro e w' ⟨v, t, σ', μ', rfl, ev, hi', hrv, hk⟩
      exact hn _ _ _ _ _ ev hi' ((hr.ev ev).put hd hrv) hk

/-- What a function's results are. -/
def ResR1 (G : Nat → Option TI) (a : Env) (σ : St) (t : T) : ResultVar → Prop
  | .tmp x => get a x = some t
  | .cell x ty => ∃ (n i o : Nat) (ts : List T), get a x = some (.ptr i o) ∧ σ.L[n]? = some (i, Ob.cells ts) ∧ readT G ty ts o = some t
def ResRs (G : Nat → Option TI) (a : Env) (σ : St) : List ResultVar → List T → Prop
  | [], ts => ts = []
  | r :: rs, ts => ∃ t us, ResR1 G a σ t r ∧ ResRs G a σ rs us ∧ ts = t :: us
def tup1 : List T → T
  | [t] => t
  | ts => .tup ts
/-- A value is read anew, in a state of another book-keeping. -/
def Conv (σ : St) (t : T) (σ' : St) (u : T) : Prop := ∀ w μ v, Inv w μ σ → Rel w μ σ v t → ∃ μ', Inv w μ' σ' ∧ Ev w μ σ w μ' σ' ∧ Rel w μ' σ' v u
theorem Conv.wk {t u : T} (h : Wk t u) : Conv σ t σ u := fun w μ v hi r => ⟨μ, hi, .refl _ _ _, h _ _ _ _ r⟩
theorem Conv.g {t : T} {σ' : St} (h : GStep σ σ') : Conv σ t σ' t := fun w μ v hi r => let ⟨h1, h2⟩ := h w μ hi; ⟨μ, h1, h2, r.ev h2⟩
theorem Conv.trans {t u s : T} {σ1 σ2 : St} (h : Conv σ t σ1 u) (k : Conv σ1 u σ2 s) : Conv σ t σ2 s := fun w μ v hi r =>
  let ⟨μ1, h1, h2, h3⟩ := h w μ v hi r; let ⟨μ2, k1, k2, k3⟩ := k w μ1 v h1 h3; ⟨μ2, k1, h2.trans k2, k3⟩

/-- A value can be read so that it is as R says. -/
def CR (σ : St) (t : T) (R : T → St → Prop) : Prop := ∀ w μ v, Inv w μ σ → Rel w μ σ v t → ∃ μ' σ' u, Inv w μ' σ' ∧ Ev w μ σ w μ' σ' ∧ Rel w μ' σ' v u ∧ R u σ'
theorem Conv.cr {t u : T} {σ' : St} {R : T → St → Prop} (h : Conv σ t σ' u) (k : R u σ') : CR σ t R := fun w μ v hi r => let ⟨μ', h1, h2, h3⟩ := h w μ v hi r; ⟨μ', σ', u, h1, h2, h3, k⟩

def retA (G : Nat → Option TI) (rs : List ResultVar) (R : T → St → Prop) : Exit → Env → St → Prop
  | .ret, a, σ | .normal, a, σ => ∃ ts, ResRs G a σ rs ts ∧ CR σ (tup1 ts) R
  | _, _, _ => False

def envOf : Nat → List T → Env
  | _, [] => []
  | i, t :: ts => (i, t) :: envOf (i + 1) ts
theorem envOf_get : ∀ (ts : List T) (i j : Nat) (t : T), get (envOf i ts) j = some t → i ≤ j ∧ ts[j - i]? = some t
  | [], i, j, t, h => by simp [envOf, get] at h
  | u :: ts, i, j, t, h => by
    simp only [envOf, get] at h
    by_cases e : i = j
    · subst e; simp at h; subst h; simp
    · rw [beqF e, cond_false] at h
      obtain ⟨h1, h2⟩ := envOf_get ts (i + 1) j t h
      refine ⟨by omega, ?_⟩
      rw [show j - i = (j - (i + 1)) + 1 by omega, List.getElem?_cons_succ]; exact h2

theorem resTs_run (hG : Fits P G) (hi : Inv w μ σ) {av : Act} (hr : RelA w μ σ N av a) : ∀ (rs : List ResultVar) (ts : List T), ResRs G a σ rs ts →
    ∃ vs : List Value, (rs.mapM (m := Sem) fun
      | .tmp t => pure (av.tmps.getD t undef)
      | .cell a t => do loadVar t (← asAddr (av.tmps.getD a undef))).run P w = .ok vs w ∧ vs.length = ts.length ∧ ∀ (j : Nat) (t : T) (v : Value), ts[j]? = some t → vs[j]? = some v → Rel w μ σ v t
  | [], ts, h => by simp [ResRs] at h; subst h; exact ⟨[], rfl, rfl, fun j t v h1 => by simp at h1⟩
  | r :: rs, ts, h => by
    obtain ⟨t, ts, ht, hts, rfl⟩ := h
    obtain ⟨vs, h1, h2, h3⟩ := resTs_run hG hi hr rs ts hts
    have one : ∃ v, (match r with
        | .tmp t => pure (av.tmps.getD t undef)
        | .cell a t => do loadVar t (← asAddr (av.tmps.getD a undef)) : Sem Value).run P w = .ok v w ∧ Rel w μ σ v t := by
      cases r with
      | tmp i =>
        obtain ⟨v, hv, rv⟩ := hr.tmp i t (show get a i = some t from ht)
        exact ⟨v, by simp [hv], rv⟩
      | cell i ty =>
        obtain ⟨n, j, o, cs, hg, hcs, ht⟩ := ht
        obtain ⟨v, hv, rv⟩ := hr.tmp i _ hg
        cases rv with
        | ptr j b p o hl =>
          obtain ⟨b', p', hl', hcells⟩ := hi.cells (List.mem_of_getElem? hcs)
          rw [hl] at hl'; injection hl' with hl'; injection hl' with e1 e2; subst e1; subst e2
          obtain ⟨u, hu, ru⟩ := readT_run (P := P) hG hcells ht
          exact ⟨u, by simp [hv, asAddr]; simpa using hu, ru⟩
    obtain ⟨v, hv, rv⟩ := one
    refine ⟨v :: vs, ?_, by simp [h2], fun j t v hj hv => ?_⟩
    · rw [List.mapM_cons]
      simp only [Sem.run_bind, Sem.run_pure]
      cases r <;> simp_all
    · cases j with
      | zero => simp at hj hv; subst hj; subst hv; exact rv
      | succ j => exact h3 j t v (by simpa using hj) (by simpa using hv)

theorem resT_run (hG : Fits P G) (hi : Inv w μ σ) {av : Act} (hr : RelA w μ σ N av a) {fn : Func} {ts : List T} (hts : ResRs G a σ fn.results.toList ts) :
    ∃ v, (results fn av.tmps).run P w = .ok v w ∧ Rel w μ σ v (tup1 ts) := by
  obtain ⟨vs, h1, h2, h3⟩ := resTs_run hG hi hr _ _ hts
  have hm : (fn.results.mapM (m := Sem) fun
    | .tmp t => pure (av.tmps.getD t undef)
    | .cell a t => do loadVar t (← asAddr (av.tmps.getD a undef))).run P w = .ok vs.toArray w := by
    rw [Array.mapM_eq_mapM_toList, Sem.run_map, h1]
    rfl
  have hrun : (results fn av.tmps).run P w = .ok (if h : vs.toArray.size = 1 then vs.toArray[0] else .tuple vs.toArray) w := by
    unfold results
    rw [Sem.run_bind]
    exact congrArg (fun r => Result.andThen r (fun (a : Array Value) w' => Sem.run P (pure (if h : a.size = 1 then a[0] else Value.tuple a)) w')) hm
  refine ⟨_, hrun, ?_⟩
  have tup : vs.length ≠ 1 → Rel w μ σ (if h : vs.toArray.size = 1 then vs.toArray[0] else .tuple vs.toArray) (.tup ts) := by
    intro hne
    rw [dif_neg (by simpa using hne)]
    exact .tup _ _ (by simpa using h2) (fun j c v hc hv => h3 j c v hc (by simpa using hv))
  cases ts with
  | nil => exact tup (by simp at h2; simp [h2])
  | cons t0 ts =>
    cases ts with
    | nil =>
      obtain ⟨v, rfl⟩ : ∃ v, vs = [v] := by
        cases vs with
        | nil => simp at h2
        | cons v vs => cases vs with
          | nil => exact ⟨v, rfl⟩
          | cons _ _ => simp at h2
      simpa [tup1] using h3 0 t0 v rfl rfl
    | cons t1 ts => exact tup (by rw [h2]; simp)

/-- A whole function, out of its body. -/
theorem acalls_of (hG : Fits P G) {f : FuncId} {fn : Func} {c : Code} {ts : List T} {R : T → St → Prop} (hf : P.funcs[f]? = some fn) (hb : fn.body = some c) (hname : fn.name ≠ "runtime.NumGoroutine") (hlen : ts.length ≤ fn.ntmps)
    (h : AW P fn.ntmps c (retA G fn.results.toList R) (envOf 0 ts) σ) : ACalls P f ts σ R := by
  refine ⟨⟨fn, hf, hname, by rw [hb]; rfl⟩, fun vs w μ hi hs hr => ?_⟩
  refine calls_of_wp hf hb ?_
  have hra : RelA w μ σ fn.ntmps { tmps := vs ++ Array.replicate (fn.ntmps - vs.size) undef, defers := [] } (envOf 0 ts) := by
    refine ⟨by simp; omega, rfl, fun j t hj => ?_⟩
    obtain ⟨_, hj⟩ := envOf_get ts 0 j t hj
    have hlt : j < ts.length := by have := lt_of_get hj; omega
    have hv : vs[j]? = some vs[j] := Array.getElem?_eq_getElem (by omega)
    exact ⟨vs[j], by simp only; rw [Array.getElem?_append_left (by omega), hv], hr j t _ hj hv⟩
  refine wp_mono (h _ w μ hi hra) ?_
  rintro e av' w' ⟨a', σ', μ', h1, h2, h3, h4⟩
  have fin : (∃ ts, ResRs G a' σ' fn.results.toList ts ∧ CR σ' (tup1 ts) R) → av'.defers = [] ∧ ∃ v, (results fn av'.tmps).run P w' = .ok v w' ∧
      ∃ v' t σ' μ', Ending.returned v = .returned v' ∧ Ev w μ σ w' μ' σ' ∧ Inv w' μ' σ' ∧ Rel w' μ' σ' v' t ∧ R t σ' := by
    rintro ⟨ts, ht, hw⟩
    obtain ⟨v, hv, rv⟩ := resT_run (P := P) hG h2 h3 ht
    obtain ⟨μ1, σ1, u, g1, g2, g3, hR⟩ := hw w' μ' v h2 rv
    exact ⟨h3.defers, v, hv, v, u, σ1, μ1, rfl, h1.trans g2, g1, g3, hR⟩
  cases e with
  | normal => exact fin h4
  | ret => exact fin h4
  | exit id => exact h4
  | goto l => exact h4
  | panic ch => exact h4.elim
  | outgrown => exact h4.elim

/-! What a callee does not see stays as it is. -/
def Apart (μ : Gh) (x y : Nat × Ob) : Prop := ∀ b p q, μ.loc x.1 = some (b, p) → μ.loc y.1 = some (b, q) → False
theorem Apart.symm {x y : Nat × Ob} (h : Apart μ x y) : Apart μ y x := fun b p q h1 h2 => h b q p h2 h1
theorem inj_pair : (∀ (n m i j : Nat) (x y : Ob) (b p q : Nat), σ.L[n]? = some (i, x) → σ.L[m]? = some (j, y) → μ.loc i = some (b, p) → μ.loc j = some (b, q) → n = m) ↔ σ.L.Pairwise (Apart μ) := by
  rw [List.pairwise_iff_getElem]
  constructor
  · intro h n m hn hm hlt b p q h1 h2
    have := h n m σ.L[n].1 σ.L[m].1 σ.L[n].2 σ.L[m].2 b p q (List.getElem?_eq_getElem hn) (List.getElem?_eq_getElem hm) h1 h2
    omega
  · intro h n m i j x y b p q h1 h2 h3 h4
    obtain ⟨hn, e1⟩ := List.getElem?_eq_some_iff.1 h1
    obtain ⟨hm, e2⟩ := List.getElem?_eq_some_iff.1 h2
    rcases Nat.lt_trichotomy n m with h5 | h5 | h5
    · exact (h n m hn hm h5 b p q (by rw [e1]; exact h3) (by rw [e2]; exact h4)).elim
    · exact h5
    · exact (h m n hm hn h5 b q p (by rw [e2]; exact h4) (by rw [e1]; exact h3)).elim
def ApartR (μ : Gh) (k l : Nat) : Prop := ∀ b f t g u, μ.tok k = some (b, f, t) → μ.tok l = some (b, g, u) → f < t → g < u → False
theorem ApartR.symm {x y : Nat} (h : ApartR μ x y) : ApartR μ y x := fun b f t g u h1 h2 h3 h4 => h b g u f t h2 h1 h4 h3
theorem rinj_pair : (∀ (n m k l b f t g u : Nat), σ.R[n]? = some k → σ.R[m]? = some l → μ.tok k = some (b, f, t) → μ.tok l = some (b, g, u) → f < t → g < u → n = m) ↔ σ.R.Pairwise (ApartR μ) := by
  rw [List.pairwise_iff_getElem]
  constructor
  · intro h n m hn hm hlt b f t g u h1 h2 h3 h4
    have := h n m σ.R[n] σ.R[m] b f t g u (List.getElem?_eq_getElem hn) (List.getElem?_eq_getElem hm) h1 h2 h3 h4
    omega
  · intro h n m k l b f t g u h1 h2 h3 h4 h5 h6
    obtain ⟨hn, e1⟩ := List.getElem?_eq_some_iff.1 h1
    obtain ⟨hm, e2⟩ := List.getElem?_eq_some_iff.1 h2
    rcases Nat.lt_trichotomy n m with h7 | h7 | h7
    · exact (h n m hn hm h7 b f t g u (by rw [e1]; exact h3) (by rw [e2]; exact h4) h5 h6).elim
    · exact h7
    · exact (h m n hm hn h7 b g u f t (by rw [e2]; exact h4) (by rw [e1]; exact h3) h6 h5).elim

theorem frame {f : FuncId} {ts : List T} {Ls Lf : List (Nat × Ob)} (hp : σ.L.Perm (Ls ++ Lf)) {R : T → List (Nat × Ob) → List Nat → Prop} (hnx : σ.nx = none)
    (h : ∀ off, ACalls P f ts ⟨Ls, [], off, none⟩ (fun r σ' => σ'.nx = none ∧ R r σ'.L σ'.R)) : ACalls P f ts σ (fun r σ' => ∃ L' R', R r L' R' ∧ σ' = ⟨L' ++ Lf, R' ++ σ.R, σ.off, none⟩) := by
  refine ⟨(h (fun _ _ => False)).1, fun vs w μ hi hs hr => ?_⟩
  obtain ⟨off', hoff'⟩ : ∃ o : Nat → Nat → Prop, o = fun b q => σ.off b q ∨ (∃ i ob p, (i, ob) ∈ Lf ∧ μ.loc i = some (b, p)) ∨ (∃ k f t, k ∈ σ.R ∧ μ.tok k = some (b, f, t) ∧ f ≤ q ∧ q < t) := ⟨_, rfl⟩
  have hmem : ∀ x, x ∈ Ls ∨ x ∈ Lf ↔ x ∈ σ.L := fun x => by rw [hp.mem_iff, List.mem_append]
  have hpw : (Ls ++ Lf).Pairwise (Apart μ) := (hp.pairwise_iff (fun h => Apart.symm h)).1 (inj_pair.1 hi.inj)
  rw [List.pairwise_append] at hpw
  obtain ⟨hp1, hp2, hp3⟩ := hpw
  have eimm : ∀ b o, Imm w μ σ b o → Imm w μ ⟨Ls, [], off', none⟩ b o := by
    intro b o hx
    refine ⟨hx.lt, ?_, fun i ob p h1 => hx.obj i ob p ((hmem _).1 (.inl h1)), fun k f t h1 => by cases h1⟩
    show ¬ off' b o
    rw [hoff']
    rintro (h1 | ⟨i, ob, p, h1, h2⟩ | ⟨k, f, t, h1, h2, h3⟩)
    · exact hx.off h1
    · exact hx.obj i ob p ((hmem _).1 (.inr h1)) h2
    · exact hx.room k f t h1 h2 h3
  have e0 : Ev0 w μ σ w μ ⟨Ls, [], off', none⟩ := ⟨fun _ _ h => h, fun _ _ h => h, fun _ _ h => h, fun b o hx => ⟨eimm b o hx, rfl⟩⟩
  have his : Inv w μ ⟨Ls, [], off', none⟩ := by
    refine ⟨fun i ts h1 => ?_, fun i es h1 => ?_, inj_pair.2 hp1, fun k hk => absurd hk List.not_mem_nil, fun n m k l b f t g u h1 => by simp at h1, ?_, fun b o h1 => ?_, fun i ob b p h1 h2 o h3 => ?_⟩
    · obtain ⟨b, p, c, e, h2, h3, h4, h5⟩ := hi.obj i ts ((hmem _).1 (.inl h1))
      exact ⟨b, p, c, e, h2, h3, h4, fun j t v h6 h7 => (h5 j t v h6 h7).ev' e0⟩
    · obtain ⟨b, c, e, h2, h3, h4, h5⟩ := hi.map i es ((hmem _).1 (.inl h1))
      exact ⟨b, c, e, h2, h3, h4, fun j k u e' h6 h7 => let ⟨h8, h9⟩ := h5 j k u e' h6 h7; ⟨h8.ev' e0, h9.ev' e0⟩⟩
    · obtain ⟨n, h1, _⟩ := hi.fin
      exact ⟨n, h1, fun m hm => by cases hm⟩
    · have h1 : off' b o := h1
      rw [hoff'] at h1
      rcases h1 with h1 | ⟨i, ob, p, h1, h2⟩ | ⟨k, f, t, h1, h2, h3⟩
      · exact hi.offlt b o h1
      · exact hi.lts ((hmem _).1 (.inr h1)) h2
      · obtain ⟨b', f', t', r1, r2, r3⟩ := hi.room k h1
        rw [h2] at r1; injection r1 with r1; injection r1 with r1 r4; injection r4 with r4 r5
        subst r1; subst r4; subst r5
        obtain ⟨⟨c, e', r6, _⟩, _⟩ := r3 (by omega)
        exact (Array.getElem?_eq_some_iff.1 r6).1
    · have h3 : off' b o := h3
      rw [hoff'] at h3
      rcases h3 with h3 | ⟨j, ob', q, h3, h4⟩ | ⟨k, f, t, h3, h4, h5⟩
      · exact hi.offobj i ob b p ((hmem _).1 (.inl h1)) h2 o h3
      · exact hp3 _ h1 _ h3 b p q h2 h4
      · obtain ⟨b', f', t', r1, r2, r3⟩ := hi.room k h3
        rw [h4] at r1; injection r1 with r1; injection r1 with r1 r4; injection r4 with r4 r5
        subst r1; subst r4; subst r5
        obtain ⟨_, r6, _⟩ := r3 (by omega)
        exact r6 i ob p ((hmem _).1 (.inl h1)) h2
  refine ((h off').2 vs w μ his hs fun j t v h1 h2 => (hr j t v h1 h2).ev' e0).mono ?_
  rintro e w' ⟨v, t, σs, μ', rfl, ev, his', rv, hnx', hR⟩
  have hoffs : σs.off = off' := ev.off
  -- the others' blocks are not touched, and are still theirs
  have notlive : ∀ b, (∃ i ob p, (i, ob) ∈ Lf ∧ μ.loc i = some (b, p)) ∨ (∃ k f t, k ∈ σ.R ∧ μ.tok k = some (b, f, t) ∧ f < t) → b < w.heap.size ∧ ¬ Live μ ⟨Ls, [], off', none⟩ b := by
    rintro b (⟨i, ob, p, h1, h2⟩ | ⟨k, f, t, h1, h2, h3⟩)
    · refine ⟨hi.lts ((hmem _).1 (.inr h1)) h2, ?_⟩
      rintro (⟨j, ob', q, h3, h4⟩ | ⟨k, f, t, h3, _⟩)
      · exact hp3 _ h3 _ h1 b q p h4 h2
      · cases h3
    · obtain ⟨b', f', t', r1, r2, r3⟩ := hi.room k h1
      rw [h2] at r1; injection r1 with r1; injection r1 with r1 r4; injection r4 with r4 r5
      subst r1; subst r4; subst r5
      obtain ⟨⟨c, e', r6, _⟩, r7, _⟩ := r3 h3
      refine ⟨(Array.getElem?_eq_some_iff.1 r6).1, ?_⟩
      rintro (⟨j, ob', q, h3, h4⟩ | ⟨k, f, t, h3, _⟩)
      · exact r7 j ob' q ((hmem _).1 (.inl h3)) h4
      · cases h3
  have oldloc : ∀ i ob b p, (i, ob) ∈ Lf → μ'.loc i = some (b, p) → μ.loc i = some (b, p) := by
    intro i ob b p h1 h2
    obtain ⟨b', p', h3, _⟩ := hi.lt ((hmem _).1 (.inr h1))
    rw [ev.loc _ _ h3] at h2; rw [h3, h2]
  have oldtok : ∀ k x, k ∈ σ.R → μ'.tok k = some x → μ.tok k = some x := by
    intro k x h1 h2
    obtain ⟨b', f', t', h3, _⟩ := hi.room k h1
    rw [ev.tok _ _ h3] at h2; rw [h3, h2]
  have evB : Ev w μ σ w' μ' ⟨σs.L ++ Lf, σs.R ++ σ.R, σ.off, none⟩ := by
    refine ⟨ev.below, ev.loc, ev.tok, rfl, ev.shape, fun b hb hl => ?_, fun b o hx => ?_⟩
    · have hls : ¬ Live μ ⟨Ls, [], off', none⟩ b := by
        rintro (⟨j, ob', q, h3, h4⟩ | ⟨k, f, t, h3, _⟩)
        · exact hl (.inl ⟨j, ob', q, (hmem _).1 (.inl h3), h4⟩)
        · cases h3
      obtain ⟨h1, h2⟩ := ev.live b hb hls
      refine ⟨?_, h2⟩
      rintro (⟨i, ob, p, h3, h4⟩ | ⟨k, f, t, h3, h4, h5⟩)
      · rcases List.mem_append.1 h3 with h3 | h3
        · exact h1 (.inl ⟨i, ob, p, h3, h4⟩)
        · exact hl (.inl ⟨i, ob, p, (hmem _).1 (.inr h3), oldloc i ob b p h3 h4⟩)
      · rcases List.mem_append.1 h3 with h3 | h3
        · exact h1 (.inr ⟨k, f, t, h3, h4, h5⟩)
        · exact hl (.inr ⟨k, f, t, h3, oldtok k _ h3 h4, h5⟩)
    · obtain ⟨h1, h2⟩ := ev.imm b o (eimm b o hx)
      refine ⟨⟨h1.lt, hx.off, fun i ob p h3 h4 => ?_, fun k f t h3 h4 => ?_⟩, h2⟩
      · rcases List.mem_append.1 h3 with h3 | h3
        · exact h1.obj i ob p h3 h4
        · exact hx.obj i ob p ((hmem _).1 (.inr h3)) (oldloc i ob b p h3 h4)
      · rcases List.mem_append.1 h3 with h3 | h3
        · exact h1.room k f t h3 h4
        · exact hx.room k f t h3 (oldtok k _ h3 h4)
  have e1 : Ev0 w' μ' σs w' μ' ⟨σs.L ++ Lf, σs.R ++ σ.R, σ.off, none⟩ := by
    refine ⟨fun _ _ h => h, fun _ _ h => h, fun _ _ h => h, fun b o hx => ⟨⟨hx.lt, fun h1 => ?_, fun i ob p h3 h4 => ?_, fun k f t h3 h4 h5 => ?_⟩, rfl⟩⟩
    · have := hx.off; rw [hoffs, hoff'] at this; exact this (.inl h1)
    · rcases List.mem_append.1 h3 with h3 | h3
      · exact hx.obj i ob p h3 h4
      · have := hx.off; rw [hoffs, hoff'] at this; exact this (.inr (.inl ⟨i, ob, p, h3, oldloc i ob b p h3 h4⟩))
    · rcases List.mem_append.1 h3 with h3 | h3
      · exact hx.room k f t h3 h4 h5
      · have := hx.off; rw [hoffs, hoff'] at this; exact this (.inr (.inr ⟨k, f, t, h3, oldtok k _ h3 h4, h5⟩))
  have foreign : ∀ b, (∃ i ob p, (i, ob) ∈ Lf ∧ μ.loc i = some (b, p)) ∨ (∃ k f t, k ∈ σ.R ∧ μ.tok k = some (b, f, t) ∧ f < t) → ¬ Live μ' σs b ∧ w'.heap[b]? = w.heap[b]? := fun b hb =>
    let ⟨h1, h2⟩ := notlive b hb; ev.live b h1 h2
  refine ⟨v, t, ⟨σs.L ++ Lf, σs.R ++ σ.R, σ.off, none⟩, μ', rfl, evB, ?_, rv.ev' e1, σs.L, σs.R, hR, rfl⟩
  refine ⟨fun i us h1 => ?_, fun i es h1 => ?_, inj_pair.2 ?_, fun k hk => ?_, rinj_pair.2 ?_, ?_, fun b o h1 => Nat.lt_of_lt_of_le (hi.offlt b o h1) ev.below.size, fun i ob b p h1 h2 o h3 => ?_⟩
  · rcases List.mem_append.1 h1 with h1 | h1
    · obtain ⟨b, p, c, e, h2, h3, h4, h5⟩ := his'.obj i us h1
      exact ⟨b, p, c, e, h2, h3, h4, fun j t v h6 h7 => (h5 j t v h6 h7).ev' e1⟩
    · obtain ⟨b, p, c, e, h2, h3, h4, h5⟩ := hi.obj i us ((hmem _).1 (.inr h1))
      exact ⟨b, p, c, e, ev.loc _ _ h2, by rw [(foreign b (.inl ⟨i, _, p, h1, h2⟩)).2]; exact h3, h4, fun j t v h6 h7 => (h5 j t v h6 h7).ev evB⟩
  · rcases List.mem_append.1 h1 with h1 | h1
    · obtain ⟨b, c, e, h2, h3, h4, h5⟩ := his'.map i es h1
      exact ⟨b, c, e, h2, h3, h4, fun j k u e' h6 h7 => let ⟨h8, h9⟩ := h5 j k u e' h6 h7; ⟨h8.ev' e1, h9.ev' e1⟩⟩
    · obtain ⟨b, c, e, h2, h3, h4, h5⟩ := hi.map i es ((hmem _).1 (.inr h1))
      exact ⟨b, c, e, ev.loc _ _ h2, by rw [(foreign b (.inl ⟨i, _, 0, h1, h2⟩)).2]; exact h3, h4, fun j k u e' h6 h7 => let ⟨h8, h9⟩ := h5 j k u e' h6 h7; ⟨h8.ev evB, h9.ev evB⟩⟩
  · rw [List.pairwise_append]
    refine ⟨inj_pair.1 his'.inj, hp2.imp_of_mem fun {x y} hx hy h b p q h1 h2 => h b p q (oldloc x.1 x.2 b p hx h1) (oldloc y.1 y.2 b q hy h2), fun x hx y hy b p q h1 h2 => ?_⟩
    exact (foreign b (.inl ⟨y.1, y.2, q, hy, oldloc y.1 y.2 b q hy h2⟩)).1 (.inl ⟨x.1, x.2, p, hx, h1⟩)
  · rcases List.mem_append.1 hk with hk | hk
    · obtain ⟨b, f, t, h1, h2, h3⟩ := his'.room k hk
      refine ⟨b, f, t, h1, h2, fun hlt => ?_⟩
      obtain ⟨h4, h5, h6⟩ := h3 hlt
      refine ⟨h4, fun i ob p h7 h8 => ?_, fun o h7 h8 h9 => h6 o h7 h8 (by rw [hoffs, hoff']; exact .inl h9)⟩
      rcases List.mem_append.1 h7 with h7 | h7
      · exact h5 i ob p h7 h8
      · exact (foreign b (.inl ⟨i, ob, p, h7, oldloc i ob b p h7 h8⟩)).1 (.inr ⟨k, f, t, hk, h1, hlt⟩)
    · obtain ⟨b, f, t, h1, h2, h3⟩ := hi.room k hk
      refine ⟨b, f, t, ev.tok _ _ h1, h2, fun hlt => ?_⟩
      obtain ⟨⟨c, e, h4, h4'⟩, h5, h6⟩ := h3 hlt
      obtain ⟨g1, g2⟩ := foreign b (.inr ⟨k, f, t, hk, h1, hlt⟩)
      refine ⟨⟨c, e, by rw [g2]; exact h4, h4'⟩, fun i ob p h7 h8 => ?_, h6⟩
      rcases List.mem_append.1 h7 with h7 | h7
      · exact g1 (.inl ⟨i, ob, p, h7, h8⟩)
      · exact h5 i ob p ((hmem _).1 (.inr h7)) (oldloc i ob b p h7 h8)
  · rw [List.pairwise_append]
    refine ⟨rinj_pair.1 his'.rinj, (rinj_pair.1 hi.rinj).imp_of_mem fun {x y} hx hy h b f t g u h1 h2 => h b f t g u (oldtok x _ hx h1) (oldtok y _ hy h2), fun x hx y hy b f t g u h1 h2 h3 h4 => ?_⟩
    exact (foreign b (.inr ⟨y, g, u, hy, oldtok y _ hy h2, h4⟩)).1 (.inr ⟨x, f, t, hx, h1, h3⟩)
  · obtain ⟨n, h1, _⟩ := his'.fin
    exact ⟨n, h1, fun m hm => by cases hm⟩
  · rcases List.mem_append.1 h1 with h1 | h1
    · exact his'.offobj i ob b p h1 h2 o (by rw [hoffs, hoff']; exact .inl h3)
    · exact hi.offobj i ob b p ((hmem _).1 (.inr h1)) (oldloc i ob b p h1 h2) o h3
end
end Go.Ts
