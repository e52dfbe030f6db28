/- Trees, continued: append. -/
import Derived.Test.YtholeicgmkjadaaTsC
set_option linter.unusedVariables false
set_option linter.unusedSimpArgs false
namespace Go.Ts

def flat (xs : List T) : List T := xs.flatMap T.cells
def sized (sz : Nat) (xs : List T) : Prop := ∀ (i : Nat) (x : T), xs[i]? = some x → x.cells.length = sz

theorem flat_nil : flat [] = [] := rfl
theorem flat_cons (x : T) (xs : List T) : flat (x :: xs) = x.cells ++ flat xs := by simp [flat]
theorem flat_append (xs ys : List T) : flat (xs ++ ys) = flat xs ++ flat ys := by simp [flat]
theorem sized_cons {sz : Nat} {x : T} {xs : List T} (h : sized sz (x :: xs)) : x.cells.length = sz ∧ sized sz xs := ⟨h 0 x rfl, fun i y hy => h (i + 1) y (by simpa using hy)⟩
theorem sized_append {sz : Nat} {xs ys : List T} (h : sized sz xs) (k : sized sz ys) : sized sz (xs ++ ys) := by
  intro i x hx
  rcases Nat.lt_or_ge i xs.length with h1 | h1
  · rw [List.getElem?_append_left h1] at hx; exact h i x hx
  · rw [List.getElem?_append_right h1] at hx; exact k _ x hx
theorem flat_length : ∀ {xs : List T} {sz : Nat}, sized sz xs → (flat xs).length = xs.length * sz
  | [], sz, _ => by simp [flat]
  | x :: xs, sz, h => by
    obtain ⟨h1, h2⟩ := sized_cons h
    rw [flat_cons, List.length_append, h1, flat_length h2, List.length_cons, Nat.add_mul]; omega
theorem flat_get : ∀ {xs : List T} {sz k : Nat} {c : T}, sized sz xs → (flat xs)[k]? = some c → ∃ i j x, k = i * sz + j ∧ xs[i]? = some x ∧ x.cells[j]? = some c
  | [], sz, k, c, _, h => by simp [flat] at h
  | x :: xs, sz, k, c, hs, h => by
    obtain ⟨h1, h2⟩ := sized_cons hs
    rw [flat_cons] at h
    rcases Nat.lt_or_ge k sz with h3 | h3
    · rw [List.getElem?_append_left (by omega)] at h
      exact ⟨0, k, x, by simp, rfl, h⟩
    · rw [List.getElem?_append_right (by omega), h1] at h
      obtain ⟨i, j, y, h4, h5, h6⟩ := flat_get h2 h
      exact ⟨i + 1, j, y, by rw [Nat.add_mul]; omega, by simpa using h5, h6⟩
theorem flat_at : ∀ {xs : List T} {sz i j : Nat} {x c : T}, sized sz xs → xs[i]? = some x → x.cells[j]? = some c → (flat xs)[i * sz + j]? = some c
  | [], sz, i, j, x, c, _, h, _ => by simp at h
  | y :: xs, sz, i, j, x, c, hs, h, hc => by
    obtain ⟨h1, h2⟩ := sized_cons hs
    rw [flat_cons]
    cases i with
    | zero =>
      simp at h; subst h
      have : j < y.cells.length := by
        rcases Nat.lt_or_ge j y.cells.length with h' | h'
        · exact h'
        · rw [List.getElem?_eq_none h'] at hc; cases hc
      rw [List.getElem?_append_left (by omega)]
      simpa using hc
    | succ i =>
      rw [List.getElem?_append_right (by rw [Nat.add_mul]; omega), h1, show (i + 1) * sz + j - sz = i * sz + j by rw [Nat.add_mul]; omega]
      exact flat_at h2 (by simpa using h) hc

section
variable {P : Program} {G : Nat → Option TI} {w w1 : World} {μ : Gh} {σ σ1 : St} {N : Nat} {a : Env} {Q : Exit → Env → St → Prop}

theorem sl_mk {b p cap sz n : Nat} {own : Own} {xs : List T} (hn : xs.length = n) (hc : n ≤ cap) (ho : OwnOK μ own b (p + n * sz) (p + cap * sz)) (hs : sized sz xs)
    (h : ∀ k c, (flat xs)[k]? = some c → Imm w μ σ b (p + k) ∧ ∃ v, w.cell? ⟨b, p + k, none⟩ = some v ∧ Rel w μ σ v c) : Rel w μ σ (.slice (some ⟨b, p, none⟩) n cap) (.sl sz own xs) := by
  refine .sl b p cap sz own xs n hn hc ho hs (fun i x j c hx hj => ?_) (fun i x j c v hx hj hv => ?_)
  · obtain ⟨h1, v, h2, h3⟩ := h _ c (flat_at hs hx hj)
    rw [← Nat.add_assoc] at h1 h2
    exact ⟨h1, v, h2⟩
  · obtain ⟨h1, u, h2, h3⟩ := h _ c (flat_at hs hx hj)
    rw [← Nat.add_assoc, hv] at h2
    injection h2 with h2
    exact h2 ▸ h3

theorem scalar_cells {t : T} (h : t.scalar = true) : t.cells = [t] := by cases t <;> first | rfl | cases h

theorem flat_scalar : ∀ {xs : List T}, xs.all T.scalar = true → flat xs = xs ∧ sized 1 xs
  | [], _ => ⟨rfl, fun i x h => by simp at h⟩
  | x :: xs, h => by
    simp only [List.all_cons, Bool.and_eq_true] at h
    obtain ⟨h1, h2⟩ := flat_scalar h.2
    rw [flat_cons, scalar_cells h.1, h1]
    refine ⟨rfl, fun i y hy => ?_⟩
    cases i with
    | zero => simp at hy; subst hy; rw [scalar_cells h.1]; rfl
    | succ i => exact h2 i y (by simpa using hy)

/-- A row of cells as elements. -/
def chunks (sz : Nat) : Nat → List T → List T
  | 0, _ => []
  | n + 1, cs => (cond (Nat.beq sz 1) (cs.headD .nilp) (.agg (cs.take sz))) :: chunks sz n (cs.drop sz)
theorem chunks_length (sz : Nat) : ∀ (n : Nat) (cs : List T), (chunks sz n cs).length = n
  | 0, cs => rfl
  | n + 1, cs => by simp [chunks, chunks_length sz n]
theorem chunks_flat (sz : Nat) : ∀ (n : Nat) (cs : List T), cs.all T.scalar = true → n * sz ≤ cs.length → flat (chunks sz n cs) = cs.take (n * sz) ∧ sized sz (chunks sz n cs)
  | 0, cs, _, _ => ⟨by simp [chunks, flat], fun i x h => by simp [chunks] at h⟩
  | n + 1, cs, hs, hl => by
    have hm : (n + 1) * sz = sz + n * sz := by rw [Nat.add_mul]; omega
    have hd : (cs.drop sz).all T.scalar = true := List.all_eq_true.2 fun x hx => List.all_eq_true.1 hs x (List.drop_subset _ _ hx)
    obtain ⟨h1, h2⟩ := chunks_flat sz n (cs.drop sz) hd (by rw [List.length_drop]; omega)
    have hc : (cond (Nat.beq sz 1) (cs.headD .nilp) (T.agg (cs.take sz))).cells = cs.take sz := by
      cases hb : Nat.beq sz 1 with
      | false => rfl
      | true =>
        obtain rfl : sz = 1 := Nat.eq_of_beq_eq_true hb
        cases cs with
        | nil => simp at hl
        | cons c cs =>
          simp only [List.all_cons, Bool.and_eq_true] at hs
          simp [scalar_cells hs.1]
    refine ⟨?_, fun i x hx => ?_⟩
    · unfold chunks
      rw [flat_cons, hc, h1, hm, List.take_add]
    · cases i with
      | zero =>
        simp only [chunks, List.getElem?_cons_zero] at hx; injection hx with hx; subst hx
        rw [hc, List.length_take]; omega
      | succ i => exact h2 i x (by simpa [chunks] using hx)

/-- The elements of what is appended. -/
def srcOf (objs : Nat → Option Ob) (sz : Nat) : T → Option (List T)
  | .sl sz' _ ys => cond (Nat.beq sz' sz) (some ys) none
  | .nilsl => some []
  | .aref sz' i o n _ => cond (Nat.beq sz' sz) (match objs i with
    | some (.cells ts) => cond (Nat.ble (o + n * sz) ts.length && ((ts.drop o).take (n * sz)).all T.scalar) (some (chunks sz n ((ts.drop o).take (n * sz)))) none
    | _ => none) none
  | _ => none

theorem srcOf_run (hi : Inv w μ σ) {objs : Nat → Option Ob} (hob : ∀ i o, objs i = some o → (i, o) ∈ σ.L) {sz : Nat} {v : Value} {t : T} {ys : List T} (r : Rel w μ σ v t) (h : srcOf objs sz t = some ys) :
    (Builtin.lenOf v).run P w = .ok ys.length w ∧ sized sz ys ∧ ∃ vs : Array Value, (∀ w1 : World, w1.heap = w.heap → (Builtin.firstCells sz ys.length v).run P w1 = .ok vs w1) ∧ vs.size = (flat ys).length ∧
      ∀ (k : Nat) (c : T) (u : Value), (flat ys)[k]? = some c → vs[k]? = some u → Rel w μ σ u c := by
  cases r with
  | nilsl =>
    simp [srcOf] at h; subst h
    exact ⟨rfl, fun i x hx => by simp at hx, #[], fun _ _ => rfl, rfl, fun k c u hk => by simp [flat] at hk⟩
  | slnil sz' own h0 =>
    simp only [srcOf] at h
    cases hb : Nat.beq sz' sz with
    | false => simp [hb] at h
    | true =>
      simp [hb] at h; subst h
      exact ⟨rfl, fun i x hx => by simp at hx, #[], fun _ _ => rfl, rfl, fun k c u hk => by simp [flat] at hk⟩
  | slz ad sz' own h0 =>
    simp only [srcOf] at h
    cases hb : Nat.beq sz' sz with
    | false => simp [hb] at h
    | true =>
      simp [hb] at h; subst h
      exact ⟨rfl, fun i x hx => by simp at hx, #[], fun _ _ => by simp [Builtin.firstCells, loadCells, loadCellsFrom], rfl, fun k c u hk => by simp [flat] at hk⟩
  | sl b p cap sz' own xs n hn hc ho hs h0 r0 =>
    simp only [srcOf] at h
    cases hb : Nat.beq sz' sz with
    | false => simp [hb] at h
    | true =>
      simp [hb] at h; subst h
      obtain rfl : sz' = sz := Nat.eq_of_beq_eq_true hb
      have hcells : CellsAt w μ σ b p (flat xs) := by
        intro k c hk
        obtain ⟨i, j, x, rfl, hx, hj⟩ := flat_get hs hk
        obtain ⟨_, v, hv⟩ := h0 i x j c hx hj
        rw [← Nat.add_assoc]
        exact ⟨v, hv, r0 i x j c v hx hj hv⟩
      refine ⟨by rw [hn]; rfl, hs, ?_⟩
      have hl := flat_length hs
      obtain ⟨vs, h1, h2, h3⟩ := loadCells_rel (P := P) hcells (o := 0) (n := xs.length * sz') (by omega)
      refine ⟨vs, fun w1 hw1 => ?_, by omega, fun k c u hk hu => h3 k c u (by rw [List.drop_zero, List.take_of_length_le (by omega)]; exact hk) hu⟩
      have hex : ∀ j, j < xs.length * sz' → ∃ v, w.cell? ⟨b, p + j, none⟩ = some v := by
        intro j hj
        obtain ⟨v, hv, _⟩ := hcells j _ (List.getElem?_eq_getElem (by omega))
        exact ⟨v, hv⟩
      have e1 := run_loadCells (P := P) w ⟨b, p, none⟩ (xs.length * sz') (fun j => (w.cell? ⟨b, p + j, none⟩).getD undef) (fun j hj => by
        rw [add_at]; obtain ⟨v, hv⟩ := hex j hj; simp [hv])
      have e2 := run_loadCells (P := P) w1 ⟨b, p, none⟩ (xs.length * sz') (fun j => (w.cell? ⟨b, p + j, none⟩).getD undef) (fun j hj => by
        rw [add_at, cell_of_heap (show w1.heap[b]? = w.heap[b]? by rw [hw1])]; obtain ⟨v, hv⟩ := hex j hj; simp [hv])
      rw [Nat.add_zero, e1] at h1
      injection h1 with h1
      show (loadCells ⟨b, p, none⟩ (xs.length * sz')).run P w1 = _
      rw [e2, h1]
  | aref i b p o n c sz' cap hloc hc hcap hbd =>
    simp only [srcOf] at h
    cases hb : Nat.beq sz' sz with
    | false => simp [hb] at h
    | true =>
      obtain rfl : sz' = sz := Nat.eq_of_beq_eq_true hb
      simp only [hb, cond_true] at h
      split at h
      · rename_i ts hts
        cases hb2 : (Nat.ble (o + n * sz') ts.length && ((ts.drop o).take (n * sz')).all T.scalar) with
        | false => rw [hb2] at h; cases h
        | true =>
          rw [hb2] at h
          simp only [cond_true] at h
          injection h with h; subst h
          rw [Bool.and_eq_true] at hb2
          have hle := Nat.le_of_ble_eq_true hb2.1
          obtain ⟨hf1, hf2⟩ := chunks_flat sz' n _ hb2.2 (by simp; omega)
          rw [List.take_take, Nat.min_self] at hf1
          refine ⟨by rw [chunks_length]; rfl, hf2, ?_⟩
          obtain ⟨b', p', hl', hcells⟩ := hi.cells (hob _ _ hts)
          rw [hloc] at hl'; injection hl' with hl'; injection hl' with e1 e2; subst e1; subst e2
          obtain ⟨vs, h1, h2, h3⟩ := loadCells_rel (P := P) hcells (o := o) (n := n * sz') hle
          refine ⟨vs, fun w1 hw1 => ?_, by rw [hf1, h2]; simp; omega, fun k c u hk hu => h3 k c u (by rw [← hf1]; exact hk) hu⟩
          have hcells1 : ∀ j, w1.cell? ⟨b, p + o + j, none⟩ = w.cell? ⟨b, p + o + j, none⟩ := fun j => cell_of_heap (by rw [hw1]) _
          have hex : ∀ j, j < n * sz' → ∃ v, w.cell? ⟨b, p + o + j, none⟩ = some v := by
            intro j hj
            obtain ⟨v, hv, _⟩ := hcells (o + j) _ (List.getElem?_eq_getElem (by omega))
            exact ⟨v, by rw [Nat.add_assoc]; exact hv⟩
          have e1 := run_loadCells (P := P) w ⟨b, p + o, none⟩ (n * sz') (fun j => (w.cell? ⟨b, p + o + j, none⟩).getD undef) (fun j hj => by
            rw [add_at]; obtain ⟨v, hv⟩ := hex j hj; simp [hv])
          have e2 := run_loadCells (P := P) w1 ⟨b, p + o, none⟩ (n * sz') (fun j => (w.cell? ⟨b, p + o + j, none⟩).getD undef) (fun j hj => by
            rw [add_at, hcells1 j]; obtain ⟨v, hv⟩ := hex j hj; simp [hv])
          show (loadCells ⟨b, p + o, none⟩ ((chunks sz' n _).length * sz')).run P w1 = _
          rw [chunks_length, e2]
          rw [h1] at e1
          injection e1 with e1
          rw [e1]
      · cases h
  | _ => simp [srcOf] at h

theorem growBy_le (n : Nat) : ∀ (r c : Nat), c ≤ 2 * n + 768 → Builtin.growBy n r c ≤ 2 * n + 768
  | 0, c, h => h
  | r + 1, c, h => by
    simp only [Builtin.growBy]
    split
    · exact h
    · exact growBy_le n r _ (by omega)
theorem nextslicecap_le (n c : Nat) (h : c < n) : Builtin.nextslicecap n c ≤ 2 * n + 768 := by
  unfold Builtin.nextslicecap
  split
  · omega
  · split
    · omega
    · exact growBy_le n 4 c (by omega)

theorem zeroCells_size (zero : Array Value) (n : Nat) : (Builtin.zeroCells zero n).size = n * zero.size := by simp [Builtin.zeroCells]

theorem ev_same (hh : w1.heap = w.heap) (hos : w1.os = w.os) (htape : w1.tape = w.tape) (hout : w1.output = w.output) : Ev w μ σ w1 μ σ :=
  ⟨⟨hos, htape, hout, by rw [hh]; exact Nat.le_refl _, fun k hk => by omega⟩, fun _ _ h => h, fun _ _ h => h, rfl, fun b n ⟨c, e, f, h1, h2⟩ => ⟨c, e, f, by rw [hh]; exact h1, h2⟩, fun b _ h => ⟨h, by rw [hh]⟩,
    fun b o h => ⟨⟨by rw [hh]; exact h.lt, h.off, h.obj, h.room⟩, cell_of_heap (by rw [hh]) o⟩⟩
theorem Inv.ev_heap (hi : Inv w μ σ) (hh : w1.heap = w.heap) (ev : Ev w μ σ w1 μ σ) : Inv w1 μ σ := by
  refine ⟨fun i ts hx => ?_, fun i es hx => ?_, hi.inj, fun k hk => ?_, hi.rinj, hi.fin, by rw [hh]; exact hi.offlt, hi.offobj⟩
  · obtain ⟨b, p, c, e, h1, h2, h3, h4⟩ := hi.obj i ts hx
    exact ⟨b, p, c, e, h1, by rw [hh]; exact h2, h3, fun j t v h5 h6 => (h4 j t v h5 h6).ev ev⟩
  · obtain ⟨b, c, e, h1, h2, h3, h4⟩ := hi.map i es hx
    exact ⟨b, c, e, h1, by rw [hh]; exact h2, h3, fun j k u e h5 h6 => let ⟨h7, h8⟩ := h4 j k u e h5 h6; ⟨h7.ev ev, h8.ev ev⟩⟩
  · obtain ⟨b, f, t, h1, h2, h3⟩ := hi.room k hk
    exact ⟨b, f, t, h1, h2, fun hlt => let ⟨⟨c, e, h4, h5⟩, h6⟩ := h3 hlt; ⟨⟨c, e, by rw [hh]; exact h4, h5⟩, h6⟩⟩

/-- A name for a room in which there is no room. -/
theorem tok_stepX (hi : Inv w μ σ) {k : Nat} (hfl : μ.loc k = none) (hft : μ.tok k = none) (hfj : ∀ j, k ≤ j → μ.loc j = none ∧ μ.tok j = none) (x : Nat × Nat × Nat) (hx : x.2.1 = x.2.2) :
    Ev w μ σ w (μ.addT k x) (σ.newT k) ∧ Inv w (μ.addT k x) (σ.newT k) := by
  obtain ⟨b0, f0, t0⟩ := x
  simp only at hx; subst hx
  have old : ∀ l, l ∈ σ.R → l ≠ k := by
    rintro l hl rfl
    obtain ⟨b', f', t', h1, _⟩ := hi.room l hl
    rw [hft] at h1; cases h1
  have new : ∀ b f t, (μ.addT k (b0, f0, f0)).tok k = some (b, f, t) → b = b0 ∧ f = f0 ∧ t = f0 := by
    intro b f t h; rw [addT_same] at h; injection h with h; injection h with h1 h; injection h with h2 h3; exact ⟨h1.symm, h2.symm, h3.symm⟩
  have ev : Ev w μ σ w (μ.addT k (b0, f0, f0)) (σ.newT k) := by
    refine ⟨.refl _ _, fun _ _ h => h, addT_mono hft, rfl, fun _ _ h => h, fun b hb hl => ⟨?_, rfl⟩, fun x o h => ⟨⟨h.lt, h.off, h.obj, fun l g u h1 h2 => ?_⟩, rfl⟩⟩
    · rintro (h | ⟨l, f, t, h1, h2, h3⟩)
      · exact hl (.inl h)
      · rcases List.mem_cons.1 h1 with rfl | h1
        · obtain ⟨_, rfl, rfl⟩ := new _ _ _ h2; omega
        · rw [addT_ne _ (old l h1)] at h2; exact hl (.inr ⟨l, f, t, h1, h2, h3⟩)
    · rcases List.mem_cons.1 h1 with rfl | h1
      · obtain ⟨_, rfl, rfl⟩ := new _ _ _ h2; omega
      · rw [addT_ne _ (old l h1)] at h2; exact h.room l g u h1 h2
  refine ⟨ev, ⟨fun i ts hx => ?_, fun i es hx => ?_, hi.inj, fun l hl => ?_, fun n m l l' b f t g u h1 h2 h3 h4 h5 h6 => ?_, ⟨k + 1, fun j hj => ⟨(hfj j (by omega)).1, by rw [addT_ne _ (by omega)]; exact (hfj j (by omega)).2⟩, fun m hm => by simp only [St.newT, Option.map_eq_some_iff] at hm; obtain ⟨_, _, hm⟩ := hm; exact hm.symm⟩, hi.offlt, hi.offobj⟩⟩
  · obtain ⟨b, p, c, e, h1, h2, h3, h4⟩ := hi.obj i ts hx
    exact ⟨b, p, c, e, h1, h2, h3, fun j t v h5 h6 => (h4 j t v h5 h6).ev ev⟩
  · obtain ⟨b, c, e, h1, h2, h3, h4⟩ := hi.map i es hx
    exact ⟨b, c, e, h1, h2, h3, fun j k u e h5 h6 => let ⟨h7, h8⟩ := h4 j k u e h5 h6; ⟨h7.ev ev, h8.ev ev⟩⟩
  · rcases List.mem_cons.1 hl with rfl | hl
    · exact ⟨b0, f0, f0, addT_same _ _, Nat.le_refl _, fun h => absurd h (Nat.lt_irrefl _)⟩
    · obtain ⟨b, f, t, h1, h2⟩ := hi.room l hl
      exact ⟨b, f, t, by rw [addT_ne _ (old l hl)]; exact h1, h2⟩
  · have h1' : (k :: σ.R)[n]? = some l := h1
    have h2' : (k :: σ.R)[m]? = some l' := h2
    cases n with
    | zero => simp at h1'; subst h1'; obtain ⟨_, rfl, rfl⟩ := new _ _ _ h3; omega
    | succ n =>
      cases m with
      | zero => simp at h2'; subst h2'; obtain ⟨_, rfl, rfl⟩ := new _ _ _ h4; omega
      | succ m =>
        have e1 : σ.R[n]? = some l := by simpa using h1'
        have e2 : σ.R[m]? = some l' := by simpa using h2'
        rw [addT_ne _ (old l (List.mem_of_getElem? e1))] at h3
        rw [addT_ne _ (old l' (List.mem_of_getElem? e2))] at h4
        rw [hi.rinj n m l l' b f t g u e1 e2 h3 h4 h5 h6]

theorem newT_eq (σ : St) (k : Nat) (h : σ.nx = none) : σ.newT k = { σ with R := k :: σ.R } := by cases σ; simp only at h; subst h; rfl
theorem tok_step (hi : Inv w μ σ) {k : Nat} (hnx : σ.nx = none) (hfl : μ.loc k = none) (hft : μ.tok k = none) (hfj : ∀ j, k ≤ j → μ.loc j = none ∧ μ.tok j = none) (x : Nat × Nat × Nat) (hx : x.2.1 = x.2.2) :
    Ev w μ σ w (μ.addT k x) { σ with R := k :: σ.R } ∧ Inv w (μ.addT k x) { σ with R := k :: σ.R } := by
  rw [← newT_eq σ k hnx]; exact tok_stepX hi hfl hft hfj x hx
def St.tk (σ : St) (n k : Nat) : St := { σ with R := σ.R.set n k }
theorem setT_eq (σ : St) (n k : Nat) (h : σ.nx = none) : σ.setT n k = σ.tk n k := by cases σ; simp only at h; subst h; rfl
theorem setT_mem {n k : Nat} {l : Nat} (h : l ∈ (σ.setT n k).R) : l = k ∨ l ∈ σ.R := by
  rcases List.mem_or_eq_of_mem_set h with h | h
  · exact .inr h
  · exact .inl h

/-- A room takes another one's place: in a block where the elder one was, or in a new one. What is asked of it is told by its triple. -/
theorem room_inv (hi : Inv w μ σ) {n k k' : Nat} (hn : σ.R[n]? = some k) (hfl : μ.loc k' = none) (hft : μ.tok k' = none) (hfj : ∀ j, k' ≤ j → μ.loc j = none ∧ μ.tok j = none) {x : Nat × Nat × Nat} (hx1 : x.2.1 ≤ x.2.2)
    (ev : Ev w μ σ w1 (μ.addT k' x) (σ.setT n k')) (hobj : ∀ i b p, (∃ o, (i, o) ∈ σ.L) → μ.loc i = some (b, p) → w1.heap[b]? = w.heap[b]?)
    (hroom : ∀ l b f t, l ∈ σ.R → μ.tok l = some (b, f, t) → f < t → ∀ c e, w.heap[b]? = some (.cells c e (0, 0)) → ∃ c', w1.heap[b]? = some (.cells c' e (0, 0)) ∧ c'.size = c.size)
    (hnew : x.2.1 < x.2.2 → (∃ c e, w1.heap[x.1]? = some (.cells c e (0, 0)) ∧ x.2.2 ≤ c.size) ∧ (∀ i ob p, (i, ob) ∈ σ.L → μ.loc i ≠ some (x.1, p)) ∧ (∀ o, x.2.1 ≤ o → o < x.2.2 → ¬ σ.off x.1 o) ∧ ∀ m l f t, m ≠ n → σ.R[m]? = some l → μ.tok l = some (x.1, f, t) → ¬ f < t) : Inv w1 (μ.addT k' x) (σ.setT n k') := by
  have old : ∀ l, l ∈ σ.R → l ≠ k' := by
    rintro l hl rfl
    obtain ⟨b', f', t', h1, _⟩ := hi.room l hl
    rw [hft] at h1; cases h1
  have hlt := lt_of_get hn
  refine ⟨fun i ts hx => ?_, fun i es hx => ?_, hi.inj, fun l hl => ?_, fun n1 m l l' b f t g u h1 h2 h3 h4 h5 h6 => ?_, ⟨k' + 1, fun j hj => ⟨(hfj j (by omega)).1, by rw [addT_ne _ (by omega)]; exact (hfj j (by omega)).2⟩, fun m hm => by simp only [St.setT, Option.map_eq_some_iff] at hm; obtain ⟨_, _, hm⟩ := hm; exact hm.symm⟩, fun b o h => Nat.lt_of_lt_of_le (hi.offlt b o h) ev.below.size, hi.offobj⟩
  · obtain ⟨b, p, c, e, h1, h2, h3, h4⟩ := hi.obj i ts hx
    exact ⟨b, p, c, e, h1, by rw [hobj i b p ⟨_, hx⟩ h1]; exact h2, h3, fun j t v h5 h6 => (h4 j t v h5 h6).ev ev⟩
  · obtain ⟨b, c, e, h1, h2, h3, h4⟩ := hi.map i es hx
    exact ⟨b, c, e, h1, by rw [hobj i b 0 ⟨_, hx⟩ h1]; exact h2, h3, fun j k u e h5 h6 => let ⟨h7, h8⟩ := h4 j k u e h5 h6; ⟨h7.ev ev, h8.ev ev⟩⟩
  · rcases setT_mem hl with rfl | hl
    · obtain ⟨b, f, t⟩ := x
      exact ⟨b, f, t, addT_same _ _, hx1, fun h => let ⟨h1, h2, h3, _⟩ := hnew h; ⟨h1, h2, h3⟩⟩
    · obtain ⟨b, f, t, h1, h2, h3⟩ := hi.room l hl
      refine ⟨b, f, t, by rw [addT_ne _ (old l hl)]; exact h1, h2, fun h => ?_⟩
      obtain ⟨⟨c, e, h4, h5⟩, h6, h7⟩ := h3 h
      obtain ⟨c', h8, h9⟩ := hroom l b f t hl h1 h c e h4
      exact ⟨⟨c', e, h8, by omega⟩, h6, h7⟩
  · have get : ∀ m l, (σ.setT n k').R[m]? = some l → (m = n ∧ l = k') ∨ (m ≠ n ∧ σ.R[m]? = some l) := by
      intro m l h
      simp only [St.setT, List.getElem?_set] at h
      split at h
      · rename_i e; subst e
        first | (rw [if_pos hlt] at h; injection h with h; exact .inl ⟨rfl, h.symm⟩) | (injection h with h; exact .inl ⟨rfl, h.symm⟩)
      · rename_i e; exact .inr ⟨fun h => e h.symm, h⟩
    rcases get n1 l h1 with ⟨rfl, rfl⟩ | ⟨e1, g1⟩ <;> rcases get m l' h2 with ⟨rfl, rfl⟩ | ⟨e2, g2⟩
    · rfl
    · rw [addT_same] at h3; injection h3 with h3; subst h3
      rw [addT_ne _ (old l' (List.mem_of_getElem? g2))] at h4
      exact absurd h6 ((hnew h5).2.2.2 m l' g u e2 g2 h4)
    · rw [addT_same] at h4; injection h4 with h4; subst h4
      rw [addT_ne _ (old l (List.mem_of_getElem? g1))] at h3
      exact absurd h5 ((hnew h6).2.2.2 n1 l f t e1 g1 h3)
    · rw [addT_ne _ (old l (List.mem_of_getElem? g1))] at h3
      rw [addT_ne _ (old l' (List.mem_of_getElem? g2))] at h4
      exact hi.rinj n1 m l l' b f t g u g1 g2 h3 h4 h5 h6

theorem append_room_run {t1 t2 ty : TypeId} {e e2 sz : Nat} {base : Option Addr} {sLen sCap n : Nat} {vy : Value} {vs : Array Value}
    (u1 : (underlying t1).run P w = .ok (.slice e) w) (u2 : (underlying t2).run P w = .ok (.slice e2) w) (us : (sizeOf e).run P w = .ok sz w)
    (hn : (Builtin.lenOf vy).run P w = .ok n w) (hv : (Builtin.firstCells sz n vy).run P w = .ok vs w) (hle : sLen + n ≤ sCap) {w1 : World}
    (hst : (match base with | some a => storeCells (a.add (sLen * sz)) vs.toList | none => pure ()).run P w = .ok () w1) :
    (Builtin.append_ #[t1, t2] ty #[.slice base sLen sCap, vy]).run P w = .ok (.slice base (sLen + n) sCap) w1 := by
  simp only [Builtin.append_]
  cases base with
  | none =>
    simp only [Sem.run_pure] at hst
    injection hst with _ hst; subst hst
    simp [u1, u2, us, hn, hv, hle]
  | some ad => simp [u1, u2, us, hn, hv, hle, hst]

theorem append_grow_run {t1 t2 ty : TypeId} {e e2 : Nat} {ie : TypeInfo} {base : Option Addr} {sLen sCap n : Nat} {vy z : Value} {old vs : Array Value}
    (u1 : ∀ w, (underlying t1).run P w = .ok (.slice e) w) (u2 : ∀ w, (underlying t2).run P w = .ok (.slice e2) w) (us : ∀ w, (sizeOf e).run P w = .ok ie.size w) (ui : ∀ w, (typeInfo e).run P w = .ok ie w) (uz : ∀ w, (zeroValue e).run P w = .ok z w)
    (hn : (Builtin.lenOf vy).run P w = .ok n w) (hlt : sCap < sLen + n) (hbound : sLen + n ≤ 4294967296) (hby : ie.bytes ≤ 4096) (hby0 : ie.bytes ≠ 0 ∨ True)
    (hold : (Builtin.firstCells ie.size sLen (.slice base sLen sCap)).run P w.drew = .ok old w.drew) (hv : (Builtin.firstCells ie.size n vy).run P w.drew = .ok vs w.drew) :
    ∃ newCap, sLen + n ≤ newCap ∧ (Builtin.append_ #[t1, t2] ty #[.slice base sLen sCap, vy]).run P w =
      .ok (.slice (some ⟨w.heap.size, 0, none⟩) (sLen + n) newCap) (w.drew.alloc (.cells (old ++ vs ++ Builtin.zeroCells z.cells (newCap - (sLen + n))) e)) := by
  have hb1 : ¬ (Builtin.nextslicecap (sLen + n) sCap * ie.bytes > 2 ^ 48) := by
    have h1 := nextslicecap_le (sLen + n) sCap hlt
    have h2 : Builtin.nextslicecap (sLen + n) sCap * ie.bytes ≤ 8589935360 * 4096 := Nat.mul_le_mul (by omega) hby
    omega
  have hb2 : ¬ (((sLen + n : Nat) : Int) > IntKind.i64.max ∧ (False ∨ ie.bytes = 0)) := by
    intro ⟨h, _⟩
    have : IntKind.i64.max = 9223372036854775807 := by decide
    omega
  refine ⟨(Question.appendCap (sLen + n) sCap e).cut (w.tape w.drawn (.appendCap (sLen + n) sCap e)), by simp only [Question.cut]; omega, ?_⟩
  have hnle : ¬ (sLen + n ≤ sCap) := by omega
  have hb3 : ¬ (281474976710656 < Builtin.nextslicecap (sLen + n) sCap * ie.bytes) := by omega
  have hb4 : ¬ (9223372036854775807 < (sLen : Int) + (n : Int) ∧ ie.bytes = 0) := by intro ⟨h, _⟩; omega
  have hfo : (Question.appendCap (sLen + n) sCap e).forced = false := rfl
  simp only [Builtin.append_]
  simp [u1, u2, us, ui, uz, hn, hnle, hold, hv, hb3, hb4, hfo, newRow]

def Scal (ys : List T) : Prop := ∀ c, c ∈ flat ys → c.scalar = true


theorem append_coreX (hG : Fits P G) {o : Oper} {x y : Operand} {t1 t2 : TypeId} {e sz : Nat} {i1 i2 ie : TI} {n k0 : Nat} {xs ys : List T} {ty : T} {K : Env → St → Prop}
    (ho : o.op = .call { callee := .builtin .append, args := #[x, y], argTypes := #[t1, t2] }) (h1 : G t1 = some i1) (h1d : i1.d = .slice e) (he : G e = some ie) (h2 : G t2 = some i2) (h2d : ∃ e2, i2.d = .slice e2)
    {av : Act} {next : Act → World → Prop} {Qc : Exit → Act → World → Prop} (hi : Inv w μ σ) (hr : RelA w μ σ N av a) (rx : Rel w μ σ (av.eval x) (.sl sz (.tok k0) xs)) (ry : Rel w μ σ (av.eval y) ty)
    {objs : Nat → Option Ob} (hob : ∀ i o, objs i = some o → (i, o) ∈ σ.L) (hsrc : srcOf objs sz ty = some ys) (hsz : (Nat.beq sz ie.size && Nat.blt 0 sz && Nat.ble ie.bytes 4096) = true)
    (hnx : ys = [] → σ.nx = none) (hRn : σ.R[n]? = some k0) (hsc : Scal ys) (hlen : xs.length + ys.length ≤ 4294967296) (hd : fitsD N o.dst = true)
    (hn : ∀ av' w' μ' a' σ', Ev w μ σ w' μ' σ' → Inv w' μ' σ' → RelA w' μ' σ' N av' a' → K a' σ' → next av' w')
    (k : ∀ k', (∀ m, σ.nx = some m → k' = m) → K (put a o.dst (.sl sz (.tok k') (xs ++ ys))) (σ.setT n k')) : Oper.wp P o av w next Qc := by
  simp only [Bool.and_eq_true] at hsz
  obtain rfl : sz = ie.size := Nat.eq_of_beq_eq_true hsz.1.1
  have hsz0 : 0 < ie.size := by have := hsz.1.2; simpa [Nat.blt_eq] using this
  have hby := Nat.le_of_ble_eq_true hsz.2
  obtain ⟨e2, h2d⟩ := h2d
  obtain ⟨d1, u1, f1⟩ := g_under (P := P) (w := w) hG h1
  rw [h1d] at f1; obtain rfl := td_slice f1
  obtain ⟨d2, u2, f2⟩ := g_under (P := P) (w := w) hG h2
  rw [h2d] at f2; obtain rfl := td_slice f2
  have us := g_size (P := P) (w := w) hG he
  obtain ⟨s1, s2, vs, s3, s4, s5⟩ := srcOf_run (P := P) hi hob ry hsrc
  have hexec : (execOp av.eval o).run P w = ((Builtin.append_ #[t1, t2] o.type #[av.eval x, av.eval y]).run P w).andThen fun v w' => .ok (.value v) w' := by
    simp [execOp, ho, resolve, invoke, builtin]
  have hfl := flat_length s2
  have hin := List.mem_of_getElem? hRn
  obtain ⟨k', hfl', hft', hfn', hfj'⟩ := hi.pick
  have hkne : ∀ l, l ∈ σ.R → l ≠ k' := by
    rintro l hl rfl
    obtain ⟨b', f', t', q1, _⟩ := hi.room l hl
    rw [hft'] at q1; cases q1
  have hself : σ.nx = none → σ.setT n k0 = σ := by
    intro hnx0
    rw [setT_eq _ _ _ hnx0]
    unfold St.tk
    have : σ.R.set n k0 = σ.R := by
      apply List.ext_getElem?
      intro m
      rw [List.getElem?_set]
      split
      · rename_i e; subst e; first | (rw [if_pos (lt_of_get hRn)]; exact hRn.symm) | exact hRn.symm
      · rfl
    rw [this]
  -- the two ways out
  have stay : ∀ (vx : Value) (base : Option Addr) (len cap : Nat), av.eval x = vx → vx = .slice base len cap → Rel w μ σ vx (.sl ie.size (.tok k0) xs) → ys = [] → len ≤ cap →
      Oper.wp P o av w next Qc := by
    intro vx base len cap hvx hb r hy0 hle
    subst hy0
    have hvs : vs.toList = [] := by
      have : vs.size = 0 := by rw [s4]; rfl
      exact List.eq_nil_of_length_eq_zero (by simpa using this)
    have hr1 := append_room_run (P := P) (ty := o.type) u1 u2 us s1 (s3 w rfl) (sLen := len) (sCap := cap) (base := base) (by simpa using hle) (w1 := w) (by
      cases base with
      | none => rfl
      | some ad => simp [hvs, storeCells])
    unfold Oper.wp
    rw [hexec, hvx, hb, hr1]
    simp only [List.length_nil, Nat.add_zero, Result.andThen_ok]
    have hnx0 := hnx rfl
    have hk0 := k k0 (fun m hm => by rw [hnx0] at hm; cases hm)
    rw [hself hnx0] at hk0
    exact hn _ _ _ _ _ (.refl _ _ _) hi (hr.put hd (by rw [List.append_nil, ← hb]; exact r)) hk0
  have grow : ∀ (vx : Value) (base : Option Addr) (cap : Nat) (old : Array Value), av.eval x = vx → vx = .slice base xs.length cap → cap < xs.length + ys.length → sized ie.size xs →
      (∀ w1 : World, w1.heap = w.heap → (Builtin.firstCells ie.size xs.length (.slice base xs.length cap)).run P w1 = .ok old w1) → old.size = (flat xs).length →
      (∀ (k : Nat) (c : T) (u : Value), (flat xs)[k]? = some c → old[k]? = some u → Rel w μ σ u c) → Oper.wp P o av w next Qc := by
    intro vx base cap old hvx hb hlt hsx hold hos hor
    obtain ⟨info, ui, hib, his⟩ := g_info (P := P) (w := w) hG he
    have ui' : ∀ w, (typeInfo e).run P w = .ok info w := by
      intro w2
      obtain ⟨i0, d0, k1, k2, _⟩ := hG e ie he
      have e1 : (typeInfo e).run P w = .ok i0 w := by simp [typeInfo, k1]
      rw [ui] at e1; injection e1 with e1; subst e1
      simp [typeInfo, k1]
    obtain ⟨z, uz, rz, hz1, hz2⟩ := g_zero (P := P) (w := w) (μ := μ) (σ := σ) hG he
    have uz' : ∀ w, (zeroValue e).run P w = .ok z w := by
      intro w2
      obtain ⟨i0, d0, k1, k2, k3, k4, k5, k6, _⟩ := hG e ie he
      have e1 : ∀ w, (zeroValue e).run P w = .ok (if ie.d.agg then .agg (ie.zero.map Z.value).toArray else (ie.zero.headD .b).value) w := by
        intro w; simp only [zeroValue, typeInfo, Sem.run_bind, run_program, Result.andThen_ok, k1, k6, Sem.run_pure]
      rw [e1] at uz; injection uz with uz; rw [e1, uz]
    have u1' : ∀ w, (underlying t1).run P w = .ok (.slice e) w := by
      intro w2; obtain ⟨d, u, f⟩ := g_under (P := P) (w := w2) hG h1; rw [h1d] at f; obtain rfl := td_slice f; exact u
    have u2' : ∀ w, (underlying t2).run P w = .ok (.slice e2) w := by
      intro w2; obtain ⟨d, u, f⟩ := g_under (P := P) (w := w2) hG h2; rw [h2d] at f; obtain rfl := td_slice f; exact u
    obtain ⟨newCap, hnc, hrun⟩ := append_grow_run (P := P) (ty := o.type) (ie := info) (base := base) (sLen := xs.length) (sCap := cap) (vy := av.eval y) (old := old) (vs := vs) (n := ys.length) u1' u2' (fun w => by rw [his]; exact g_size hG he) ui' uz' s1 hlt (by omega) (by omega) (.inr trivial)
      (by rw [his]; exact hold w.drew rfl) (by rw [his]; exact s3 w.drew rfl)
    have ev1 : Ev w μ σ w.drew μ σ := ev_same rfl rfl rfl rfl
    have hi1 : Inv w.drew μ σ := hi.ev_heap rfl ev1
    generalize hrest : Builtin.zeroCells z.cells (newCap - (xs.length + ys.length)) = rest at hrun
    have hrs : rest.size = (newCap - (xs.length + ys.length)) * ie.size := by rw [← hrest, zeroCells_size, hz1]
    have hflx := flat_length hsx
    have hcs : (old ++ vs ++ rest).size = newCap * ie.size := by
      rw [Array.size_append, Array.size_append, hos, s4, hflx, hfl, hrs, ← Nat.add_mul, ← Nat.add_mul]
      congr 1; omega
    obtain ⟨own', hown'⟩ : ∃ x : Nat × Nat × Nat, x = (w.heap.size, (xs.length + ys.length) * ie.size, newCap * ie.size) := ⟨_, rfl⟩
    have ho1 : own'.1 = w.heap.size := by rw [hown']
    have ho2 : own'.2.1 = (xs.length + ys.length) * ie.size := by rw [hown']
    have ho3 : own'.2.2 = newCap * ie.size := by rw [hown']
    have hle' : (xs.length + ys.length) * ie.size ≤ newCap * ie.size := Nat.mul_le_mul_right _ hnc
    have hheap : (w.drew.alloc (.cells (old ++ vs ++ rest) e)).heap[w.heap.size]? = some (.cells (old ++ vs ++ rest) e) := heap_alloc_at w.drew _
    have ev2 : Ev w.drew μ σ (w.drew.alloc (.cells (old ++ vs ++ rest) e)) (μ.addT k' own') (σ.setT n k') := by
      refine ev_new hi1 (fun _ _ h => h) (addT_mono hft') rfl (fun i o b p q1 q2 q3 => ⟨o, i, p, q1, q2⟩) (fun l b f t q1 q2 q3 q4 => ?_)
      rcases setT_mem q1 with rfl | q1
      · rw [addT_same] at q2; injection q2 with q2
        have : own'.1 = b := by rw [q2]
        have : b < w.heap.size := q4
        omega
      · rw [addT_ne _ (hkne l q1)] at q2; exact ⟨q1, q2⟩
    have hi2 : Inv (w.drew.alloc (.cells (old ++ vs ++ rest) e)) (μ.addT k' own') (σ.setT n k') := by
      refine room_inv hi1 hRn hfl' hft' hfj' (by omega) ev2 (fun i b p ⟨o, q1⟩ q2 => heap_alloc_ne w.drew _ (hi1.lts q1 q2)) (fun l b f t q1 q2 q3 c e q4 => ⟨c, by rw [heap_alloc_ne w.drew _ (Array.getElem?_eq_some_iff.1 q4).1]; exact q4, rfl⟩) (fun hlt2 => ?_)
      refine ⟨⟨_, e, by rw [ho1]; exact hheap, by rw [hcs, ho3]; exact Nat.le_refl _⟩, fun i ob p q1 q2 => ?_, fun o q1 q2 q3 => ?_, fun m l f t q1 q2 q3 q4 => ?_⟩
      · have := hi.lts q1 q2; omega
      · have := hi.offlt _ _ q3; omega
      · obtain ⟨b', f', t', r1, r2, r3⟩ := hi.room l (List.mem_of_getElem? q2)
        rw [q3] at r1; injection r1 with r1; injection r1 with r1 r4; injection r4 with r4 r5
        subst r4; subst r5
        obtain ⟨⟨c, e', r6, _⟩, _⟩ := r3 q4
        have := (Array.getElem?_eq_some_iff.1 r6).1; omega
    have evA := ev1.trans ev2
    have hrel : Rel (w.drew.alloc (.cells (old ++ vs ++ rest) e)) (μ.addT k' own') (σ.setT n k') (.slice (some ⟨w.heap.size, 0, none⟩) (xs.length + ys.length) newCap) (.sl ie.size (.tok k') (xs ++ ys)) := by
      refine sl_mk (by simp) hnc ⟨own', addT_same _ _, .inl (by rw [hown']; simp)⟩ (sized_append hsx s2) (fun q c hk => ?_)
      have hklt : q < (xs.length + ys.length) * ie.size := by
        rcases Nat.lt_or_ge q (flat (xs ++ ys)).length with h | h
        · rw [flat_append, List.length_append, hflx, hfl, ← Nat.add_mul] at h; exact h
        · rw [List.getElem?_eq_none h] at hk; cases hk
      have hkc : q < (old ++ vs ++ rest).size := by rw [hcs]; exact Nat.lt_of_lt_of_le hklt (Nat.mul_le_mul_right _ hnc)
      have hcell : (w.drew.alloc (.cells (old ++ vs ++ rest) e)).cell? ⟨w.heap.size, 0 + q, none⟩ = some (old ++ vs ++ rest)[q] := by
        simp only [World.cell?, hheap, Nat.zero_add]
        simp [hkc]
      refine ⟨⟨(Array.getElem?_eq_some_iff.1 hheap).1, fun h => absurd (hi.offlt _ _ h) (Nat.lt_irrefl _), fun i ob p q1 q2 => absurd (hi.lts q1 q2) (Nat.lt_irrefl _), fun l f t q1 q2 => ?_⟩, _, hcell, ?_⟩
      · rcases setT_mem q1 with rfl | q1
        · rw [addT_same, hown'] at q2; injection q2 with q2; injection q2 with q2 q3; injection q3 with q3 q4; omega
        · rw [addT_ne _ (hkne l q1)] at q2
          obtain ⟨b', f', t', r1, r2, r3⟩ := hi.room l q1
          rw [q2] at r1; injection r1 with r1; injection r1 with r1 r4; injection r4 with r4 r5
          subst r4; subst r5
          intro ⟨q5, q6⟩
          obtain ⟨⟨c, e', r6, _⟩, _⟩ := r3 (by omega)
          have := (Array.getElem?_eq_some_iff.1 r6).1; omega
      · refine Rel.ev (w := w) ?_ evA
        rw [flat_append] at hk
        have hget : (old ++ vs ++ rest)[q]? = some (old ++ vs ++ rest)[q] := Array.getElem?_eq_getElem hkc
        generalize (old ++ vs ++ rest)[q] = u at hget ⊢
        rcases Nat.lt_or_ge q (flat xs).length with h | h
        · rw [List.getElem?_append_left h] at hk
          rw [Array.append_assoc, Array.getElem?_append_left (by omega)] at hget
          exact hor q c u hk hget
        · rw [List.getElem?_append_right h] at hk
          have h2 : q - (flat xs).length < (flat ys).length := lt_of_get hk
          rw [Array.append_assoc, Array.getElem?_append_right (by omega), hos, Array.getElem?_append_left (by omega)] at hget
          exact s5 _ c u hk hget
    unfold Oper.wp
    rw [hexec, hvx, hb, hrun]
    exact hn _ _ _ _ _ evA hi2 ((hr.ev evA).put hd hrel) (k k' hfn')
  generalize hvx : av.eval x = vx at *
  cases rx with
  | slnil sz own1 h0 =>
    cases ys with
    | nil => exact stay _ none 0 0 rfl rfl (.slnil _ _ h0) rfl (Nat.le_refl _)
    | cons y0 ys =>
      exact grow _ none 0 #[] rfl rfl (by simp) (fun i x hx => by simp at hx) (fun _ _ => rfl) rfl (fun k c u hk => by simp [flat] at hk)
  | slz ad sz own1 h0 =>
    cases ys with
    | nil => exact stay _ (some ad) 0 0 rfl rfl (.slz ad _ _ h0) rfl (Nat.le_refl _)
    | cons y0 ys =>
      exact grow _ (some ad) 0 #[] rfl rfl (by simp) (fun i x hx => by simp at hx) (fun _ _ => by simp [Builtin.firstCells, loadCells, loadCellsFrom]) rfl (fun k c u hk => by simp [flat] at hk)
  | sl b p cap sz own1 xs nn hxn hc hown hs h0 r0 =>
    have rx' : Rel w μ σ (.slice (some ⟨b, p, none⟩) nn cap) (.sl ie.size (.tok k0) xs) := .sl b p cap _ (.tok k0) xs nn hxn hc hown hs h0 r0
    subst hxn
    by_cases hy0 : ys = []
    · exact stay _ _ _ _ rfl rfl rx' hy0 hc
    · have hypos : 0 < ys.length := List.length_pos_iff.2 hy0
      rcases Nat.lt_or_ge cap (xs.length + ys.length) with hlt | hge
      · obtain ⟨q1, q2, old, q3, q4, q5⟩ := srcOf_run (P := P) (sz := ie.size) hi (objs := fun _ => none) (fun i o h => by cases h) rx' (ys := xs) (by simp [srcOf])
        exact grow _ _ cap old rfl rfl hlt q2 q3 q4 q5
      · -- in place
        have hmul : xs.length * ie.size < cap * ie.size := Nat.mul_lt_mul_of_pos_right (by omega) hsz0
        obtain ⟨own, htok, hown⟩ := hown
        have hown0 : own = (b, p + xs.length * ie.size, p + cap * ie.size) := by
          rcases hown with h | h
          · exact h
          · have := h.1; omega
        subst hown0
        obtain ⟨b', f', t', r1, hft, r3⟩ := hi.room k0 hin
        rw [htok] at r1; injection r1 with r1; injection r1 with r1 r4; injection r4 with r4 r5
        subst r1; subst r4; subst r5
        obtain ⟨⟨c, el, hheap, htc⟩, hnob, hnoff⟩ := r3 (by omega)
        have hvl : vs.toList.length = ys.length * ie.size := by rw [Array.length_toList, s4, hfl]
        have hsum : xs.length * ie.size + ys.length * ie.size ≤ cap * ie.size := by rw [← Nat.add_mul]; exact Nat.mul_le_mul_right _ hge
        have hone : ∀ v ∈ vs.toList, v.oneCell' = true := by
          intro v hv
          obtain ⟨j, hj, hjv⟩ := List.getElem_of_mem hv
          have hj' : j < (flat ys).length := by rw [Array.length_toList] at hj; omega
          refine (s5 j (flat ys)[j] v (List.getElem?_eq_getElem hj') ?_).scalar (hsc _ (List.getElem_mem hj'))
          rw [← hjv]; simp
        have hst := run_storeCells_at (P := P) b (p + xs.length * ie.size) el vs.toList 0 c w hheap (by omega) hone
        generalize hc' : (c.toList.take (p + xs.length * ie.size + 0) ++ vs.toList ++ c.toList.drop (p + xs.length * ie.size + 0 + vs.toList.length)).toArray = c' at hst
        have hc'size : c'.size = c.size := by rw [← hc']; simp; omega
        have hrun := append_room_run (P := P) (ty := o.type) u1 u2 us s1 (s3 w rfl) (sLen := xs.length) (sCap := cap) (base := some ⟨b, p, none⟩) hge (w1 := w.setRow b c') (by
          simp only [add_at]; exact hst)
        have hh1 : (w.setRow b c').heap[b]? = some (.cells c' el (0, 0)) := setRow_heap w b c c' el (0, 0) hheap
        have hc'get : ∀ q, (q < p + xs.length * ie.size ∨ p + xs.length * ie.size + ys.length * ie.size ≤ q) → c'[q]? = c[q]? := by
          intro q hq
          rw [← hc', List.getElem?_toArray]
          have hl1 : (c.toList.take (p + xs.length * ie.size + 0)).length = p + xs.length * ie.size := by simp; omega
          rcases hq with hq | hq
          · rw [List.append_assoc, List.getElem?_append_left (by omega), List.getElem?_take, if_pos (by omega)]; simp
          · rw [List.append_assoc, List.getElem?_append_right (by omega), hl1, List.getElem?_append_right (by omega), List.getElem?_drop, hvl,
              show p + xs.length * ie.size + 0 + ys.length * ie.size + (q - (p + xs.length * ie.size) - ys.length * ie.size) = q by omega]
            simp
        have hc'new : ∀ q, q < ys.length * ie.size → c'[p + xs.length * ie.size + q]? = vs[q]? := by
          intro q hq
          rw [← hc', List.getElem?_toArray]
          have hl1 : (c.toList.take (p + xs.length * ie.size + 0)).length = p + xs.length * ie.size := by simp; omega
          rw [List.append_assoc, List.getElem?_append_right (by omega), hl1, List.getElem?_append_left (by omega), show p + xs.length * ie.size + q - (p + xs.length * ie.size) = q by omega]
          simp
        have hrooms : ∀ l g u, l ∈ (σ.setT n k').R → (μ.addT k' (b, p + xs.length * ie.size + ys.length * ie.size, p + cap * ie.size)).tok l = some (b, g, u) → g < u → p + xs.length * ie.size + ys.length * ie.size ≤ g ∧ u ≤ p + cap * ie.size := by
          intro l g u q1 q2 q3
          obtain ⟨m, hm⟩ := List.getElem?_of_mem q1
          simp only [St.setT, List.getElem?_set] at hm
          split at hm
          · rename_i e; subst e
            have hm' : k' = l := by first | (rw [if_pos (lt_of_get hRn)] at hm; injection hm) | injection hm
            subst hm'
            rw [addT_same] at q2; injection q2 with q2; injection q2 with q2 q4; injection q4 with q4 q5
            omega
          · rename_i e
            rw [addT_ne _ (hkne l (List.mem_of_getElem? hm))] at q2
            exact absurd (hi.rinj n m k0 l b _ _ g u hRn hm htok q2 (by omega) q3) e
        have ev : Ev w μ σ (w.setRow b c') (μ.addT k' (b, p + xs.length * ie.size + ys.length * ie.size, p + cap * ie.size)) (σ.setT n k') := by
          refine ⟨⟨rfl, rfl, rfl, by simp, fun k hk => by omega⟩, fun _ _ h => h, addT_mono hft', rfl, fun x m ⟨c2, e2, f2, q1, q2⟩ => ?_, fun x hx hlv => ?_, fun x q hx => ?_⟩
          · by_cases h : x = b
            · subst h
              rw [hheap] at q1; injection q1 with q1; injection q1 with q1; subst q1
              exact ⟨c', el, _, hh1, by omega⟩
            · exact ⟨c2, e2, f2, by rw [setRow_other w b x c' h]; exact q1, q2⟩
          · have hne : x ≠ b := by rintro rfl; exact hlv (.inr ⟨k0, _, _, hin, htok, by omega⟩)
            refine ⟨?_, setRow_other w b x c' hne⟩
            rintro (h | ⟨l, g, u, q1, q2, q3⟩)
            · exact hlv (.inl h)
            · rcases setT_mem q1 with rfl | q1
              · rw [addT_same] at q2; injection q2 with q2; injection q2 with q2; exact hne q2.symm
              · rw [addT_ne _ (hkne l q1)] at q2; exact hlv (.inr ⟨l, g, u, q1, q2, q3⟩)
          · by_cases h : x = b
            · subst h
              have hout := hx.room k0 _ _ hin htok
              refine ⟨⟨by have := hx.lt; simpa using this, hx.off, hx.obj, fun l g u q1 q2 q3 => ?_⟩, ?_⟩
              · have := hrooms l g u q1 q2 (by omega); omega
              · simp only [World.cell?, hh1, hheap]; simp [hc'get q (by omega)]
            · refine ⟨⟨by have := hx.lt; simpa using this, hx.off, hx.obj, fun l g u q1 q2 => ?_⟩, cell_of_heap (setRow_other w b x c' h) q⟩
              rcases setT_mem q1 with rfl | q1
              · rw [addT_same] at q2; injection q2 with q2; injection q2 with q2; exact absurd q2.symm h
              · rw [addT_ne _ (hkne l q1)] at q2; exact hx.room l g u q1 q2
        have hi' : Inv (w.setRow b c') (μ.addT k' (b, p + xs.length * ie.size + ys.length * ie.size, p + cap * ie.size)) (σ.setT n k') := by
          refine room_inv hi hRn hfl' hft' hfj' (by show p + xs.length * ie.size + ys.length * ie.size ≤ p + cap * ie.size; omega) ev (fun i b2 p2 ⟨ob, q1⟩ q2 => setRow_other w b b2 c' (by rintro rfl; exact hnob i ob p2 q1 q2)) (fun l b2 f t q1 q2 q3 c2 e2 q4 => ?_) (fun hlt2 => ?_)
          · by_cases h : b2 = b
            · subst h
              rw [hheap] at q4; injection q4 with q4; injection q4 with q4 q5; subst q4; subst q5
              exact ⟨c', hh1, hc'size⟩
            · exact ⟨c2, by rw [setRow_other w b b2 c' h]; exact q4, rfl⟩
          · refine ⟨⟨c', el, hh1, by rw [hc'size]; exact htc⟩, hnob, fun q q1 q2 => hnoff q (by have : p + xs.length * ie.size + ys.length * ie.size ≤ q := q1; omega) q2, fun m l f t q1 q2 q3 q4 => ?_⟩
            exact q1 (hi.rinj n m k0 l b _ _ f t hRn q2 htok q3 (by omega) q4).symm
        have hflx := flat_length hs
        have hrel : Rel (w.setRow b c') (μ.addT k' (b, p + xs.length * ie.size + ys.length * ie.size, p + cap * ie.size)) (σ.setT n k') (.slice (some ⟨b, p, none⟩) (xs.length + ys.length) cap) (.sl ie.size (.tok k') (xs ++ ys)) := by
          refine sl_mk (by simp) hge ⟨_, addT_same _ _, .inl ?_⟩ (sized_append hs s2) (fun q c0 hk => ?_)
          · rw [Nat.add_mul]; congr 2; omega
          · rw [flat_append] at hk
            rcases Nat.lt_or_ge q (flat xs).length with h | h
            · rw [List.getElem?_append_left h] at hk
              obtain ⟨i, j, x0, rfl, hx0, hj0⟩ := flat_get hs hk
              obtain ⟨hI, v, hv⟩ := h0 i x0 j c0 hx0 hj0
              rw [← Nat.add_assoc]
              exact ⟨(ev.imm _ _ hI).1, v, (ev.imm _ _ hI).2.trans hv, (r0 i x0 j c0 v hx0 hj0 hv).ev ev⟩
            · rw [List.getElem?_append_right h] at hk
              have h2 : q - (flat xs).length < (flat ys).length := lt_of_get hk
              have hvk : vs[q - (flat xs).length]? = some vs[q - (flat xs).length] := Array.getElem?_eq_getElem (by omega)
              have hnew := hc'new (q - (flat xs).length) (by omega)
              rw [show p + xs.length * ie.size + (q - (flat xs).length) = p + q by omega, hvk] at hnew
              refine ⟨⟨by rw [setRow_size]; exact (Array.getElem?_eq_some_iff.1 hheap).1, hnoff (p + q) (by omega) (by omega), fun i ob p2 => hnob i ob p2, fun l g u q1 q2 q3 => ?_⟩, _, ?_, (s5 _ c0 _ hk hvk).ev ev⟩
              · have := hrooms l g u q1 q2 (by omega); omega
              · simp only [World.cell?, hh1]; simpa using hnew
        unfold Oper.wp
        rw [hexec, hrun]
        exact hn _ _ _ _ _ ev hi' ((hr.ev ev).put hd hrel) (k k' hfn')

/-- append onto a slice whose room is one's own. -/
theorem aop_append (hG : Fits P G) {o : Oper} {x y : Operand} {t1 t2 : TypeId} {e sz : Nat} {i1 i2 ie : TI} {n k0 : Nat} {xs ys : List T} {ty : T} {K : Env → St → Prop}
    (ho : o.op = .call { callee := .builtin .append, args := #[x, y], argTypes := #[t1, t2] }) (h1 : G t1 = some i1) (h1d : i1.d = .slice e) (he : G e = some ie) (h2 : G t2 = some i2) (h2d : ∃ e2, i2.d = .slice e2)
    (hx : evalO a x = some (.sl sz (.tok k0) xs)) (hy : evalO a y = some ty) (hsrc : srcOf (fun _ => none) sz ty = some ys) (hsz : (Nat.beq sz ie.size && Nat.blt 0 sz && Nat.ble ie.bytes 4096) = true)
    (hnx : σ.nx = none) (hRn : σ.R[n]? = some k0) (hsc : Scal ys) (hlen : xs.length + ys.length ≤ 4294967296) (hd : fitsD N o.dst = true)
    (k : ∀ k', K (put a o.dst (.sl sz (.tok k') (xs ++ ys))) (σ.tk n k')) : AOp P N o a σ K :=
  fun av w μ hi hr next Qc hn => append_coreX hG ho h1 h1d he h2 h2d hi hr (evalO_rel hr hx) (evalO_rel hr hy) (objs := fun _ => none) (fun i o h => by cases h) hsrc hsz (fun _ => hnx) hRn hsc hlen hd hn (fun k' _ => by rw [setT_eq _ _ _ hnx]; exact k k')

/-- What has no room behind it. -/
def noRoom : T → Option (List T)
  | .nilsl => some []
  | .sl _ .full xs => some xs
  | _ => none
def noRoomSz (sz : Nat) : T → Bool
  | .nilsl => true
  | .sl sz' .full _ => Nat.beq sz' sz
  | _ => false
theorem noRoom_rel {v : Value} {t : T} {sz : Nat} {xs : List T} (r : Rel w μ σ v t) (h1 : noRoom t = some xs) (h2 : noRoomSz sz t = true) : Rel w μ σ v (.sl sz .full xs) := by
  unfold noRoom at h1
  split at h1
  · injection h1 with h1; subst h1; exact Wk.nil0 sz _ _ _ _ r
  · injection h1 with h1; subst h1
    obtain rfl := Nat.eq_of_beq_eq_true h2
    exact r
  · cases h1
theorem aop_append0 (hG : Fits P G) {o : Oper} {x y : Operand} {t1 t2 : TypeId} {e sz : Nat} {i1 i2 ie : TI} {xs ys : List T} {tx ty : T} {K : Env → St → Prop}
    (ho : o.op = .call { callee := .builtin .append, args := #[x, y], argTypes := #[t1, t2] }) (h1 : G t1 = some i1) (h1d : i1.d = .slice e) (he : G e = some ie) (h2 : G t2 = some i2) (h2d : ∃ e2, i2.d = .slice e2)
    (hx : evalO a x = some tx) (hnr : noRoom tx = some xs) (hnz : noRoomSz sz tx = true) (hy : evalO a y = some ty) (hsrc : srcOf (fun _ => none) sz ty = some ys) (hsz : (Nat.beq sz ie.size && Nat.blt 0 sz && Nat.ble ie.bytes 4096) = true)
    (hnx : σ.nx = none) (hsc : Scal ys) (hlen : xs.length + ys.length ≤ 4294967296) (hd : fitsD N o.dst = true)
    (k : ∀ k', K (put a o.dst (.sl sz (.tok k') (xs ++ ys))) { σ with R := k' :: σ.R }) : AOp P N o a σ K := by
  intro av w μ hi hr next Qc hn
  have rx := noRoom_rel (evalO_rel hr hx) hnr hnz
  obtain ⟨k1, f1, f2, f3, f4⟩ := hi.pick
  obtain ⟨x0, hx0, hown⟩ : ∃ x0 : Nat × Nat × Nat, x0.2.1 = x0.2.2 ∧ ∀ w μ' σ', Rel w μ' σ' (av.eval x) (.sl sz .full xs) → μ'.tok k1 = some x0 → Rel w μ' σ' (av.eval x) (.sl sz (.tok k1) xs) := by
    generalize av.eval x = vx at rx
    cases rx with
    | slnil => exact ⟨(0, 0, 0), rfl, fun w μ' σ' r h => .slnil _ _ ⟨_, h, rfl⟩⟩
    | slz ad => exact ⟨(0, 0, 0), rfl, fun w μ' σ' r h => .slz ad _ _ ⟨_, h, rfl⟩⟩
    | sl b p cap sz own xs n hn hc ho hs h0 r0 =>
      refine ⟨(b, p + n * sz, p + cap * sz), ho, fun w μ' σ' r h => ?_⟩
      cases r with
      | slz ad => exact .slz _ _ _ ⟨_, h, ho⟩
      | sl b p cap sz own xs n hn hc ho hs h0 r0 => exact .sl b p cap sz _ xs n hn hc ⟨_, h, .inl rfl⟩ hs h0 r0
  obtain ⟨ev1, hi1⟩ := tok_step hi hnx f1 f2 f4 x0 hx0
  have hr1 := hr.ev ev1
  refine append_coreX (σ := { σ with R := k1 :: σ.R }) (n := 0) hG ho h1 h1d he h2 h2d hi1 hr1 (hown _ _ _ (rx.ev ev1) (addT_same _ _)) (evalO_rel hr1 hy) (objs := fun _ => none) (fun i o h => by cases h) hsrc hsz (fun _ => hnx) rfl hsc hlen hd
    (fun av' w' μ' a' σ' q1 q2 q3 q4 => hn av' w' μ' a' σ' (ev1.trans q1) q2 q3 q4) (fun k' _ => by
      rw [show ({ σ with R := k1 :: σ.R } : St).setT 0 k' = { σ with R := k' :: σ.R } from by cases σ; simp only at hnx; subst hnx; rfl]
      exact k k')
/-- The same, the name told. -/
theorem aop_append0X (hG : Fits P G) {o : Oper} {x y : Operand} {t1 t2 : TypeId} {e sz : Nat} {i1 i2 ie : TI} {xs ys : List T} {tx ty : T} {K : Env → St → Prop}
    (ho : o.op = .call { callee := .builtin .append, args := #[x, y], argTypes := #[t1, t2] }) (h1 : G t1 = some i1) (h1d : i1.d = .slice e) (he : G e = some ie) (h2 : G t2 = some i2) (h2d : ∃ e2, i2.d = .slice e2)
    (hx : evalO a x = some tx) (hnr : noRoom tx = some xs) (hnz : noRoomSz sz tx = true) (hy : evalO a y = some ty) {objs : Nat → Option Ob} (hob : ∀ i o, objs i = some o → (i, o) ∈ σ.L) (hsrc : srcOf objs sz ty = some ys) (hsz : (Nat.beq sz ie.size && Nat.blt 0 sz && Nat.ble ie.bytes 4096) = true)
    (hys : ys ≠ []) (hsc : Scal ys) (hlen : xs.length + ys.length ≤ 4294967296) (hd : fitsD N o.dst = true) {m : Nat} (hnx : σ.nx = some m)
    (k : K (put a o.dst (.sl sz (.tok (m + 1)) (xs ++ ys))) { σ with R := (m + 1) :: σ.R, nx := some (m + 2) }) : AOp P N o a σ K := by
  intro av w μ hi hr next Qc hn
  have rx := noRoom_rel (evalO_rel hr hx) hnr hnz
  obtain ⟨k1, f1, f2, f3, f4⟩ := hi.pick
  obtain ⟨x0, hx0, hown⟩ : ∃ x0 : Nat × Nat × Nat, x0.2.1 = x0.2.2 ∧ ∀ w μ' σ', Rel w μ' σ' (av.eval x) (.sl sz .full xs) → μ'.tok k1 = some x0 → Rel w μ' σ' (av.eval x) (.sl sz (.tok k1) xs) := by
    generalize av.eval x = vx at rx
    cases rx with
    | slnil => exact ⟨(0, 0, 0), rfl, fun w μ' σ' r h => .slnil _ _ ⟨_, h, rfl⟩⟩
    | slz ad => exact ⟨(0, 0, 0), rfl, fun w μ' σ' r h => .slz ad _ _ ⟨_, h, rfl⟩⟩
    | sl b p cap sz own xs n hn hc ho hs h0 r0 =>
      refine ⟨(b, p + n * sz, p + cap * sz), ho, fun w μ' σ' r h => ?_⟩
      cases r with
      | slz ad => exact .slz _ _ _ ⟨_, h, ho⟩
      | sl b p cap sz own xs n hn hc ho hs h0 r0 => exact .sl b p cap sz _ xs n hn hc ⟨_, h, .inl rfl⟩ hs h0 r0
  obtain rfl := f3 m hnx
  obtain ⟨ev1, hi1⟩ := tok_stepX hi f1 f2 f4 x0 hx0
  have hr1 := hr.ev ev1
  have hnx1 : (σ.newT k1).nx = some (k1 + 1) := by simp [St.newT, hnx]
  refine append_coreX (σ := σ.newT k1) (n := 0) hG ho h1 h1d he h2 h2d hi1 hr1 (hown _ _ _ (rx.ev ev1) (addT_same _ _)) (evalO_rel hr1 hy) (objs := objs) (fun i o h => hob i o h) hsrc hsz (fun h => absurd h hys) rfl hsc hlen hd
    (fun av' w' μ' a' σ' q1 q2 q3 q4 => hn av' w' μ' a' σ' (ev1.trans q1) q2 q3 q4) (fun k' hk' => ?_)
  obtain rfl := hk' _ hnx1
  have : (σ.newT k1).setT 0 (k1 + 1) = { σ with R := (k1 + 1) :: σ.R, nx := some (k1 + 2) } := by
    cases σ; simp only at hnx; subst hnx; rfl
  rw [this]; exact k
theorem aop_appendX (hG : Fits P G) {o : Oper} {x y : Operand} {t1 t2 : TypeId} {e sz : Nat} {i1 i2 ie : TI} {n k0 : Nat} {xs ys : List T} {ty : T} {K : Env → St → Prop}
    (ho : o.op = .call { callee := .builtin .append, args := #[x, y], argTypes := #[t1, t2] }) (h1 : G t1 = some i1) (h1d : i1.d = .slice e) (he : G e = some ie) (h2 : G t2 = some i2) (h2d : ∃ e2, i2.d = .slice e2)
    (hx : evalO a x = some (.sl sz (.tok k0) xs)) (hy : evalO a y = some ty) {objs : Nat → Option Ob} (hob : ∀ i o, objs i = some o → (i, o) ∈ σ.L) (hsrc : srcOf objs sz ty = some ys) (hsz : (Nat.beq sz ie.size && Nat.blt 0 sz && Nat.ble ie.bytes 4096) = true)
    (hys : ys ≠ []) (hRn : σ.R[n]? = some k0) (hsc : Scal ys) (hlen : xs.length + ys.length ≤ 4294967296) (hd : fitsD N o.dst = true) {m : Nat} (hnx : σ.nx = some m)
    (k : K (put a o.dst (.sl sz (.tok m) (xs ++ ys))) (σ.setT n m)) : AOp P N o a σ K :=
  fun av w μ hi hr next Qc hn => append_coreX hG ho h1 h1d he h2 h2d hi hr (evalO_rel hr hx) (evalO_rel hr hy) (objs := objs) hob hsrc hsz (fun h => absurd h hys) hRn hsc hlen hd hn (fun k' hk' => by obtain rfl := hk' m hnx; exact k)
/-- append of nothing. -/
theorem aop_append_nil (hG : Fits P G) {o : Oper} {x y : Operand} {t1 t2 : TypeId} {e : Nat} {i1 i2 ie : TI} {tx ty : T} {K : Env → St → Prop}
    (ho : o.op = .call { callee := .builtin .append, args := #[x, y], argTypes := #[t1, t2] }) (h1 : G t1 = some i1) (h1d : i1.d = .slice e) (he : G e = some ie) (h2 : G t2 = some i2) (h2d : ∃ e2, i2.d = .slice e2)
    (hx : evalO a x = some tx) (hsl : (match tx with | .nilsl => true | .sl .. => true | .aref .. => true | _ => false) = true) (hy : evalO a y = some ty) {objs : Nat → Option Ob} (hob : ∀ i o, objs i = some o → (i, o) ∈ σ.L) (hsrc : srcOf objs ie.size ty = some []) (hd : fitsD N o.dst = true)
    (k : K (put a o.dst tx) σ) : AOp P N o a σ K := by
  intro av w μ hi hr next Qc hn
  obtain ⟨e2, h2d⟩ := h2d
  obtain ⟨d1, u1, f1⟩ := g_under (P := P) (w := w) hG h1
  rw [h1d] at f1; obtain rfl := td_slice f1
  obtain ⟨d2, u2, f2⟩ := g_under (P := P) (w := w) hG h2
  rw [h2d] at f2; obtain rfl := td_slice f2
  have us := g_size (P := P) (w := w) hG he
  have rx := evalO_rel hr hx
  obtain ⟨s1, s2, vs, s3, s4, s5⟩ := srcOf_run (P := P) hi hob (evalO_rel hr hy) hsrc
  have hexec : (execOp av.eval o).run P w = ((Builtin.append_ #[t1, t2] o.type #[av.eval x, av.eval y]).run P w).andThen fun v w' => .ok (.value v) w' := by
    simp [execOp, ho, resolve, invoke, builtin]
  have hvs : vs.toList = [] := by
    have : vs.size = 0 := by rw [s4]; rfl
    exact List.eq_nil_of_length_eq_zero (by simpa using this)
  obtain ⟨base, len, cap, hv, hle⟩ : ∃ base len cap, av.eval x = .slice base len cap ∧ len ≤ cap := by
    generalize av.eval x = vx at rx
    cases rx <;> simp only [Bool.false_eq_true] at hsl
    · exact ⟨_, _, _, rfl, Nat.le_refl _⟩
    · exact ⟨_, _, _, rfl, Nat.le_refl _⟩
    · exact ⟨_, _, _, rfl, Nat.le_refl _⟩
    · rename_i hc _ _ _ _; exact ⟨_, _, _, rfl, by assumption⟩
    · exact ⟨_, _, _, rfl, by assumption⟩
  have hr1 := append_room_run (P := P) (ty := o.type) u1 u2 us s1 (s3 w rfl) (sLen := len) (sCap := cap) (base := base) (by simpa using hle) (w1 := w) (by
    cases base with
    | none => rfl
    | some ad => simp [hvs, storeCells])
  unfold Oper.wp
  rw [hexec, hv, hr1]
  simp only [List.length_nil, Nat.add_zero, Result.andThen_ok]
  exact hn _ _ _ _ _ (.refl _ _ _) hi (hr.put hd (by rw [← hv]; exact rx)) k
end
end Go.Ts
