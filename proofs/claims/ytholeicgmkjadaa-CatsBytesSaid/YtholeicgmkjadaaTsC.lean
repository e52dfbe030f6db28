/- Trees, continued: the steps that change the state: new things, stores. -/
import Derived.Test.YtholeicgmkjadaaTsB
set_option linter.unusedVariables false
set_option linter.unusedSimpArgs false
namespace Go.Ts

def Gh.addL (μ : Gh) (i : Nat) (x : Nat × Nat) : Gh := { μ with loc := fun j => if j = i then some x else μ.loc j }
def Gh.addT (μ : Gh) (i : Nat) (x : Nat × Nat × Nat) : Gh := { μ with tok := fun j => if j = i then some x else μ.tok j }
def St.new (σ : St) (i : Nat) (o : Ob) : St := { σ with L := (i, o) :: σ.L, nx := σ.nx.map fun _ => i + 1 }
def St.newT (σ : St) (k : Nat) : St := { σ with R := k :: σ.R, nx := σ.nx.map fun _ => k + 1 }
def St.set (σ : St) (n : Nat) (i : Nat) (o : Ob) : St := { σ with L := σ.L.set n (i, o) }
def St.setT (σ : St) (n : Nat) (k : Nat) : St := { σ with R := σ.R.set n k, nx := σ.nx.map fun _ => k + 1 }

section
variable {P : Program} {G : Nat → Option TI} {w w1 : World} {μ μ1 : Gh} {σ σ1 : St} {N : Nat} {a : Env} {Q : Exit → Env → St → Prop}

theorem addL_same (i : Nat) (x : Nat × Nat) : (μ.addL i x).loc i = some x := by simp [Gh.addL]
theorem addL_ne {i j : Nat} (x : Nat × Nat) (h : j ≠ i) : (μ.addL i x).loc j = μ.loc j := by simp [Gh.addL, h]
theorem addL_mono {i : Nat} {x : Nat × Nat} (h : μ.loc i = none) : ∀ j y, μ.loc j = some y → (μ.addL i x).loc j = some y := by
  intro j y hy
  have : j ≠ i := by rintro rfl; rw [h] at hy; cases hy
  rw [addL_ne x this]; exact hy
theorem addT_same (i : Nat) (x : Nat × Nat × Nat) : (μ.addT i x).tok i = some x := by simp [Gh.addT]
theorem addT_ne {i j : Nat} (x : Nat × Nat × Nat) (h : j ≠ i) : (μ.addT i x).tok j = μ.tok j := by simp [Gh.addT, h]
theorem addT_mono {i : Nat} {x : Nat × Nat × Nat} (h : μ.tok i = none) : ∀ j y, μ.tok j = some y → (μ.addT i x).tok j = some y := by
  intro j y hy
  have : j ≠ i := by rintro rfl; rw [h] at hy; cases hy
  rw [addT_ne x this]; exact hy

theorem Inv.pick (hi : Inv w μ σ) : ∃ i, μ.loc i = none ∧ μ.tok i = none ∧ (∀ n, σ.nx = some n → i = n) ∧ ∀ j, i ≤ j → μ.loc j = none ∧ μ.tok j = none := by
  obtain ⟨n, h, hn⟩ := hi.fin
  exact ⟨n, (h n (Nat.le_refl _)).1, (h n (Nat.le_refl _)).2, fun m hm => (hn m hm).symm, h⟩

theorem cell_of_heap {w w1 : World} {b : Nat} (h : w1.heap[b]? = w.heap[b]?) (o : Nat) : w1.cell? ⟨b, o, none⟩ = w.cell? ⟨b, o, none⟩ := by
  simp only [World.cell?, h]

theorem heap_alloc_at (w : World) (o : Obj) : (w.alloc o).heap[w.heap.size]? = some o := by show (w.heap.push o)[w.heap.size]? = some o; simp
theorem heap_alloc_ne (w : World) (o : Obj) {k : Nat} (h : k < w.heap.size) : (w.alloc o).heap[k]? = w.heap[k]? := by
  show (w.heap.push o)[k]? = _
  rw [Array.getElem?_push, if_neg (by omega)]
theorem size_alloc (w : World) (o : Obj) : (w.alloc o).heap.size = w.heap.size + 1 := by show (w.heap.push o).size = _; simp

theorem lt_of_get {α : Type} {l : List α} {i : Nat} {x : α} (h : l[i]? = some x) : i < l.length := by
  rcases Nat.lt_or_ge i l.length with h' | h'
  · exact h'
  · rw [List.getElem?_eq_none h'] at h; cases h

theorem Inv.lts (hi : Inv w μ σ) {i : Nat} {o : Ob} {b p : Nat} (h : (i, o) ∈ σ.L) (hl : μ.loc i = some (b, p)) : b < w.heap.size := by
  obtain ⟨b', p', h1, h2⟩ := hi.lt h
  rw [hl] at h1; injection h1 with h1; injection h1 with h1; omega
theorem Inv.idlt (hi : Inv w μ σ) {i : Nat} {o : Ob} (h : (i, o) ∈ σ.L) : μ.loc i ≠ none := by
  obtain ⟨b', p', h1, h2⟩ := hi.lt h
  rw [h1]; simp

/-- Everything but one block stays; that one is new. -/
theorem ev_new {ob : Obj} (hi : Inv w μ σ) (hloc : ∀ i x, μ.loc i = some x → μ1.loc i = some x) (htok : ∀ i x, μ.tok i = some x → μ1.tok i = some x) (hoff : σ1.off = σ.off)
    (hL : ∀ i o b p, (i, o) ∈ σ1.L → μ1.loc i = some (b, p) → b < w.heap.size → ∃ o' j q, (j, o') ∈ σ.L ∧ μ.loc j = some (b, q))
    (hR : ∀ k b f t, k ∈ σ1.R → μ1.tok k = some (b, f, t) → f < t → b < w.heap.size → k ∈ σ.R ∧ μ.tok k = some (b, f, t)) : Ev w μ σ (w.alloc ob) μ1 σ1 := by
  have hsz := size_alloc w ob
  refine ⟨⟨rfl, rfl, rfl, by omega, fun k hk => by omega⟩, hloc, htok, hoff, fun b n ⟨c, e, f, h1, h2⟩ => ⟨c, e, f, ?_, h2⟩, fun b hb hl => ⟨?_, heap_alloc_ne w _ hb⟩, fun b o hx => ?_⟩
  · rw [heap_alloc_ne w _ (Array.getElem?_eq_some_iff.1 h1).1]; exact h1
  · rintro (⟨i, o, p, h1, h2⟩ | ⟨k, f, t, h1, h2, hft⟩)
    · obtain ⟨o', j, q, h3, h4⟩ := hL i o b p h1 h2 hb
      exact hl (.inl ⟨j, o', q, h3, h4⟩)
    · obtain ⟨h3, h4⟩ := hR k b f t h1 h2 hft hb
      exact hl (.inr ⟨k, f, t, h3, h4, hft⟩)
  · refine ⟨⟨by have := hx.lt; omega, by rw [hoff]; exact hx.off, fun i o' p h1 h2 => ?_, fun k f t h1 h2 => ?_⟩, cell_of_heap (heap_alloc_ne w _ hx.lt) o⟩
    · obtain ⟨o2, j, q, h3, h4⟩ := hL i o' b p h1 h2 hx.lt
      exact hx.obj j o2 q h3 h4
    · intro hq
      obtain ⟨h3, h4⟩ := hR k b f t h1 h2 (by omega) hx.lt
      exact hx.room k f t h3 h4 hq

/-- A new thing. -/
theorem new_step (hi : Inv w μ σ) (c : Array Value) (e : TypeId) {i : Nat} (hf : μ.loc i = none) (hft : μ.tok i = none) (hfn : ∀ n, σ.nx = some n → i = n) (hfj : ∀ j, i ≤ j → μ.loc j = none ∧ μ.tok j = none) {ts : List T} (hlen : ts.length ≤ c.size) (hc : CellsIn w μ σ ts c 0) :
    Ev w μ σ (w.alloc (.cells c e)) (μ.addL i (w.heap.size, 0)) (σ.new i (.cells ts)) ∧ Inv (w.alloc (.cells c e)) (μ.addL i (w.heap.size, 0)) (σ.new i (.cells ts)) := by
  have hsz := size_alloc w (.cells c e)
  have hmem : ∀ j o, (j, o) ∈ (σ.new i (.cells ts)).L → (j = i ∧ o = .cells ts) ∨ ((j, o) ∈ σ.L ∧ j ≠ i) := by
    intro j o h
    rcases List.mem_cons.1 h with h | h
    · injection h with h1 h2; exact .inl ⟨h1, h2⟩
    · exact .inr ⟨h, fun e => hi.idlt h (e ▸ hf)⟩
  have ev : Ev w μ σ (w.alloc (.cells c e)) (μ.addL i (w.heap.size, 0)) (σ.new i (.cells ts)) := by
    refine ev_new hi (addL_mono hf) (fun _ _ h => h) rfl (fun j o b p h1 h2 h3 => ?_) (fun k b f t h1 h2 h3 h4 => ⟨h1, h2⟩)
    rcases hmem j o h1 with ⟨rfl, _⟩ | ⟨h, hne⟩
    · rw [addL_same] at h2; injection h2 with h2; injection h2 with h2; omega
    · rw [addL_ne _ hne] at h2; exact ⟨o, j, p, h, h2⟩
  refine ⟨ev, ⟨fun j us h => ?_, fun j es h => ?_, fun n m j k x y b p q h1 h2 h3 h4 => ?_, fun k hk => ?_, fun n m k l b f t g u h1 h2 h3 h4 => hi.rinj n m k l b f t g u h1 h2 h3 h4, ?_, fun b o h => ?_, fun j o b p h1 h2 q => ?_⟩⟩
  · rcases hmem j _ h with ⟨rfl, h1⟩ | ⟨h1, hne⟩
    · injection h1 with h1; subst h1
      exact ⟨w.heap.size, 0, c, e, addL_same _ _, heap_alloc_at w _, by omega, fun n t v h1 h2 => (hc n t v h1 h2).ev ev⟩
    · obtain ⟨b, p, c', e', h2, h3, h4, h5⟩ := hi.obj j us h1
      exact ⟨b, p, c', e', by rw [addL_ne _ hne]; exact h2, by rw [heap_alloc_ne w _ (Array.getElem?_eq_some_iff.1 h3).1]; exact h3, h4, fun n t v h6 h7 => (h5 n t v h6 h7).ev ev⟩
  · rcases hmem j _ h with ⟨rfl, h1⟩ | ⟨h1, hne⟩
    · cases h1
    · obtain ⟨b, en, cl, h2, h3, h4, h5⟩ := hi.map j es h1
      exact ⟨b, en, cl, by rw [addL_ne _ hne]; exact h2, by rw [heap_alloc_ne w _ (Array.getElem?_eq_some_iff.1 h3).1]; exact h3, h4, fun n k u e' h6 h7 => let ⟨h8, h9⟩ := h5 n k u e' h6 h7; ⟨h8.ev ev, h9.ev ev⟩⟩
  · have hold : ∀ (n j : Nat) (x : Ob) (b p : Nat), σ.L[n]? = some (j, x) → (μ.addL i (w.heap.size, 0)).loc j = some (b, p) → μ.loc j = some (b, p) ∧ b < w.heap.size := by
      intro n j x b p h1 h2
      have hm := List.mem_of_getElem? h1
      have hne : j ≠ i := by rintro rfl; exact hi.idlt hm hf
      rw [addL_ne _ hne] at h2
      exact ⟨h2, hi.lts hm h2⟩
    have hnew : ∀ (b p : Nat), (μ.addL i (w.heap.size, 0)).loc i = some (b, p) → b = w.heap.size := by
      intro b p h; rw [addL_same] at h; injection h with h; injection h with h; exact h.symm
    cases n with
    | zero =>
      have e1 : (i, Ob.cells ts) = (j, x) := by simpa [St.new] using h1
      injection e1 with e1 e2; subst e1
      cases m with
      | zero => rfl
      | succ m =>
        have := (hold m k y b q (by simpa [St.new] using h2) h4).2
        have := hnew b p h3
        omega
    | succ n =>
      cases m with
      | zero =>
        have e1 : (i, Ob.cells ts) = (k, y) := by simpa [St.new] using h2
        injection e1 with e1 e2; subst e1
        have := (hold n j x b p (by simpa [St.new] using h1) h3).2
        have := hnew b q h4
        omega
      | succ m =>
        have h1' : σ.L[n]? = some (j, x) := by simpa [St.new] using h1
        have h2' : σ.L[m]? = some (k, y) := by simpa [St.new] using h2
        rw [hi.inj n m j k x y b p q h1' h2' (hold n j x b p h1' h3).1 (hold m k y b q h2' h4).1]
  · obtain ⟨b, f, t, h1, h2, h3⟩ := hi.room k hk
    refine ⟨b, f, t, h1, h2, fun hlt => ?_⟩
    obtain ⟨⟨c', e', h4, h5⟩, h6, h7⟩ := h3 hlt
    have hb := (Array.getElem?_eq_some_iff.1 h4).1
    refine ⟨⟨c', e', by rw [heap_alloc_ne w _ hb]; exact h4, h5⟩, fun j o p h8 h9 => ?_, h7⟩
    rcases hmem j o h8 with ⟨rfl, _⟩ | ⟨h, hne⟩
    · rw [addL_same] at h9; injection h9 with h9; injection h9 with h9; omega
    · rw [addL_ne _ hne] at h9; exact h6 j o p h h9
  · refine ⟨i + 1, fun j hj => ⟨by rw [addL_ne _ (by omega)]; exact (hfj j (by omega)).1, (hfj j (by omega)).2⟩, fun m hm => ?_⟩
    simp only [St.new] at hm
    cases hx : σ.nx with
    | none => rw [hx] at hm; cases hm
    | some n => rw [hx] at hm; simp at hm; omega
  · have := hi.offlt b o h; omega
  · rcases hmem j o h1 with ⟨rfl, _⟩ | ⟨h, hne⟩
    · rw [addL_same] at h2; injection h2 with h2; injection h2 with h2 h3; subst h2
      intro h; exact absurd (hi.offlt _ _ h) (by omega)
    · rw [addL_ne _ hne] at h2; exact hi.offobj j o b p h h2 q

/-- An operation that leaves the state as it is. -/
theorem aop_quiet (hG : Fits P G) {o : Oper} {t : T} {K : Env → St → Prop} (h : evalOp G (look σ.L) (evalO a) o.op = some t) (hd : fitsD N o.dst = true) (k : K (put a o.dst t) σ) : AOp P N o a σ K := by
  intro av w μ hi hr next Qc hn
  obtain ⟨v, h1, h2⟩ := evalOp_run (P := P) hG hi (ρ := evalO a) (ρv := av.eval) (fun x t hx => evalO_rel hr hx) (fun i o h => look_mem h) h
  unfold Oper.wp
  rw [h1]
  exact hn _ _ _ _ _ (.refl _ _ _) hi (hr.put hd h2) k
/-- The same with nothing looked up. -/
theorem aop_quiet0 (hG : Fits P G) {o : Oper} {t : T} {K : Env → St → Prop} (h : evalOp G (fun _ => none) (evalO a) o.op = some t) (hd : fitsD N o.dst = true) (k : K (put a o.dst t) σ) : AOp P N o a σ K := by
  intro av w μ hi hr next Qc hn
  obtain ⟨v, h1, h2⟩ := evalOp_run (P := P) hG hi (ρ := evalO a) (ρv := av.eval) (fun x t hx => evalO_rel hr hx) (fun i o h => by cases h) h
  unfold Oper.wp
  rw [h1]
  exact hn _ _ _ _ _ (.refl _ _ _) hi (hr.put hd h2) k

/-- The cells of a value, as its tree has them. -/
theorem Rel.cells {v : Value} {t : T} (h : Rel w μ σ v t) (hr : ∀ u, t ≠ .raw u) : v.cells.size = t.cells.length ∧ ∀ (j : Nat) (c : T) (u : Value), t.cells[j]? = some c → v.cells[j]? = some u → Rel w μ σ u c := by
  have one : ∀ {v : Value} {t : T}, v.cells = #[v] → t.cells = [t] → Rel w μ σ v t → v.cells.size = t.cells.length ∧ ∀ (j : Nat) (c : T) (u : Value), t.cells[j]? = some c → v.cells[j]? = some u → Rel w μ σ u c := by
    intro v t h1 h2 h3
    refine ⟨by rw [h1, h2]; rfl, fun j c u hc hu => ?_⟩
    rw [h2] at hc; rw [h1] at hu
    cases j with
    | zero => simp at hc hu; subst hc; subst hu; exact h3
    | succ j => simp at hc
  cases h with
  | agg cs vs hn r => exact ⟨hn, r⟩
  | raw v => exact absurd rfl (hr v)
  | bool b => exact one rfl rfl (.bool b)
  | int k n => exact one rfl rfl (.int k n)
  | flt k n => exact one rfl rfl (.flt k n)
  | cplx k m n => exact one rfl rfl (.cplx k m n)
  | str s => exact one rfl rfl (.str s)
  | nilp => exact one rfl rfl .nilp
  | ptr i b p o h => exact one rfl rfl (.ptr i b p o h)
  | ro b p o x h r => exact one rfl rfl (.ro b p o x h r)
  | nilsl => exact one rfl rfl .nilsl
  | slnil sz own h => exact one rfl rfl (.slnil sz own h)
  | slz a sz own h => exact one rfl rfl (.slz a sz own h)
  | sl b p cap sz own xs n hn hc ho hs h r => exact one rfl rfl (.sl b p cap sz own xs n hn hc ho hs h r)
  | aref i b p o n c sz cap h hc hcap hb => exact one rfl rfl (.aref i b p o n c sz cap h hc hcap hb)
  | mapnil => exact one rfl rfl .mapnil
  | map i b p h => exact one rfl rfl (.map i b p h)
  | fn f caps vs hn r => exact one rfl rfl (.fn f caps vs hn r)
  | bnd f caps vs hn r => exact one rfl rfl (.bnd f caps vs hn r)
  | nilfn => exact one rfl rfl .nilfn
  | tup cs vs hn r => exact one rfl rfl (.tup cs vs hn r)

def T.scalar : T → Bool
  | .agg _ | .tup _ | .raw _ => false
  | _ => true
theorem Rel.scalar {v : Value} {t : T} (h : Rel w μ σ v t) (ht : t.scalar = true) : v.oneCell' = true := by
  cases h <;> first | rfl | cases ht
def notRaw : T → Bool
  | .raw _ => false
  | _ => true
theorem notRaw_ne {t : T} (h : notRaw t = true) : ∀ u, t ≠ .raw u := by rintro u rfl; cases h

theorem aop_box (hG : Fits P G) {o : Oper} {e : TypeId} {x : Operand} {t : T} {K : Env → St → Prop} (ho : o.op = .box e x) (hx : evalO a x = some t) (hraw : notRaw t = true) (hd : fitsD N o.dst = true)
    (k : ∀ i, (∀ n, σ.nx = some n → i = n) → K (put a o.dst (.ptr i 0)) (σ.new i (.cells t.cells))) : AOp P N o a σ K := by
  intro av w μ hi hr next Qc hn
  have rx := evalO_rel hr hx
  obtain ⟨hc1, hc2⟩ := rx.cells (notRaw_ne hraw)
  obtain ⟨i, f1, f2, f3, f4⟩ := hi.pick
  obtain ⟨ev, hi'⟩ := new_step hi (av.eval x).cells e f1 f2 f3 f4 (ts := t.cells) (by omega) (fun j c u hc hu => hc2 j c u hc (by simpa using hu))
  have hrun : (execOp av.eval o).run P w = .ok (.value (.pointer (some ⟨w.heap.size, 0 + 0, none⟩))) (w.alloc (.cells (av.eval x).cells e)) := by
    simp [execOp, ho, Instr.box, newVar, newRow]
  unfold Oper.wp
  rw [hrun]
  exact hn _ _ _ _ _ ev hi' ((hr.ev ev).put hd (.ptr _ _ _ _ (addL_same _ _))) (k i f3)

theorem aop_alloc (hG : Fits P G) {o : Oper} {e : TypeId} {ti : TI} {K : Env → St → Prop} (ho : o.op = .alloc e) (he : G e = some ti) (hd : fitsD N o.dst = true)
    (k : ∀ i, (∀ n, σ.nx = some n → i = n) → K (put a o.dst (.ptr i 0)) (σ.new i (.cells ti.tree.cells))) : AOp P N o a σ K := by
  intro av w μ hi hr next Qc hn
  obtain ⟨v, hv, rv, hs1, hs2⟩ := g_zero (w := w) (μ := μ) (σ := σ) hG he
  have hraw : notRaw ti.tree = true := by
    unfold TI.tree; split
    · rfl
    · cases ti.zero.headD .b <;> rfl
  obtain ⟨hc1, hc2⟩ := rv.cells (notRaw_ne hraw)
  obtain ⟨i, f1, f2, f3, f4⟩ := hi.pick
  obtain ⟨ev, hi'⟩ := new_step hi v.cells e f1 f2 f3 f4 (ts := ti.tree.cells) (by omega) (fun j c u hc hu => hc2 j c u hc (by simpa using hu))
  have hrun : (execOp av.eval o).run P w = .ok (.value (.pointer (some ⟨w.heap.size, 0 + 0, none⟩))) (w.alloc (.cells v.cells e)) := by
    simp [execOp, ho, Instr.alloc, hv, newVar, newRow]
  unfold Oper.wp
  rw [hrun]
  exact hn _ _ _ _ _ ev hi' ((hr.ev ev).put hd (.ptr _ _ _ _ (addL_same _ _))) (k i f3)

/-- What a store of cells leaves. -/
def stored (ts cs : List T) (o : Nat) : List T := ts.take o ++ cs ++ ts.drop (o + cs.length)
theorem stored_length {ts cs : List T} {o : Nat} (h : o + cs.length ≤ ts.length) : (stored ts cs o).length = ts.length := by simp [stored]; omega

theorem set_mem {σ : St} {n i : Nat} {o o' : Ob} (hn : σ.L[n]? = some (i, o)) {j : Nat} {x : Ob} (h : (j, x) ∈ (σ.set n i o').L) : (j = i ∧ x = o') ∨ (∃ m, m ≠ n ∧ σ.L[m]? = some (j, x)) := by
  obtain ⟨m, hm⟩ := List.getElem?_of_mem h
  simp only [St.set, List.getElem?_set] at hm
  split at hm
  · rename_i e; subst e
    rw [if_pos (lt_of_get hn)] at hm
    injection hm with hm; injection hm with h1 h2; exact .inl ⟨h1.symm, h2.symm⟩
  · rename_i e; exact .inr ⟨m, fun h => e h.symm, hm⟩
theorem set_mem' {σ : St} {n i : Nat} {o o' : Ob} (hn : σ.L[n]? = some (i, o)) {j : Nat} {x : Ob} (h : (j, x) ∈ (σ.set n i o').L) : ∃ x', (j, x') ∈ σ.L := by
  rcases set_mem hn h with ⟨rfl, _⟩ | ⟨m, _, h⟩
  · exact ⟨o, List.mem_of_getElem? hn⟩
  · exact ⟨x, List.mem_of_getElem? h⟩
theorem mem_set' {σ : St} {n i : Nat} {o o' : Ob} (hn : σ.L[n]? = some (i, o)) {j : Nat} {x : Ob} (h : (j, x) ∈ σ.L) : ∃ x', (j, x') ∈ (σ.set n i o').L := by
  obtain ⟨m, hm⟩ := List.getElem?_of_mem h
  by_cases e : n = m
  · subst e; rw [hn] at hm; injection hm with hm; injection hm with h1 h2; subst h1
    exact ⟨o', List.mem_of_getElem? (i := n) (by simp [St.set, List.getElem?_set, lt_of_get hn])⟩
  · exact ⟨x, List.mem_of_getElem? (i := m) (by simp [St.set, List.getElem?_set, e, hm])⟩

/-- The row of a live thing is written anew. -/
theorem set_ev (hi : Inv w μ σ) {n i b p : Nat} {o o' : Ob} (hn : σ.L[n]? = some (i, o)) (hl : μ.loc i = some (b, p)) {c c' : Array Value} {e : TypeId} (hc : w.heap[b]? = some (.cells c e (0, 0))) (hsz : c'.size = c.size) :
    Ev w μ σ (w.setRow b c') μ (σ.set n i o') := by
  have hb1 := setRow_heap w b c c' e (0, 0) hc
  have hin := List.mem_of_getElem? hn
  refine ⟨⟨rfl, rfl, rfl, by simp, fun k hk => by omega⟩, fun _ _ h => h, fun _ _ h => h, rfl, fun x m ⟨c2, e2, f2, h1, h2⟩ => ?_, fun x hx hlv => ?_, fun x q hx => ?_⟩
  · by_cases h : x = b
    · subst h
      rw [hc] at h1; injection h1 with h1; injection h1 with h1; subst h1
      exact ⟨c', e, _, hb1, by omega⟩
    · exact ⟨c2, e2, f2, by rw [setRow_other w b x c' h]; exact h1, h2⟩
  · have hne : x ≠ b := by rintro rfl; exact hlv (.inl ⟨i, o, p, hin, hl⟩)
    refine ⟨?_, setRow_other w b x c' hne⟩
    rintro (⟨j, y, q, h1, h2⟩ | h)
    · obtain ⟨y', h3⟩ := set_mem' hn h1
      exact hlv (.inl ⟨j, y', q, h3, h2⟩)
    · exact hlv (.inr h)
  · have hne : x ≠ b := by rintro rfl; exact hx.obj i o p hin hl
    refine ⟨⟨by have := hx.lt; simpa using this, hx.off, fun j y r h1 h2 => ?_, hx.room⟩, cell_of_heap (setRow_other w b x c' hne) q⟩
    obtain ⟨y', h3⟩ := set_mem' hn h1
    exact hx.obj j y' r h3 h2

theorem set_inv (hi : Inv w μ σ) {n i b p : Nat} {o : Ob} {ts' : List T} (hn : σ.L[n]? = some (i, o)) (hl : μ.loc i = some (b, p)) {c c' : Array Value} {e : TypeId} (hc : w.heap[b]? = some (.cells c e (0, 0))) (hsz : c'.size = c.size)
    (hlen : p + ts'.length ≤ c.size) (hcells : CellsIn w μ σ ts' c' p) : Inv (w.setRow b c') μ (σ.set n i (.cells ts')) := by
  have ev : Ev w μ σ (w.setRow b c') μ (σ.set n i (.cells ts')) := set_ev hi hn hl hc hsz
  have hb1 := setRow_heap w b c c' e (0, 0) hc
  have hin := List.mem_of_getElem? hn
  have hother : ∀ (m j : Nat) (x : Ob) (b' q : Nat), m ≠ n → σ.L[m]? = some (j, x) → μ.loc j = some (b', q) → b' ≠ b := by
    rintro m j x b' q hne h1 h2 rfl
    exact hne (hi.inj m n j i x o b' q p h1 hn h2 hl)
  refine ⟨fun j us h => ?_, fun j es h => ?_, fun n1 m j k x y b p q h1 h2 h3 h4 => ?_, fun k hk => ?_, hi.rinj, hi.fin, fun b o h => ?_, fun j x b p h1 h2 => ?_⟩
  · rcases set_mem hn h with ⟨rfl, h1⟩ | ⟨m, hne, h1⟩
    · injection h1 with h1; subst h1
      exact ⟨b, p, c', e, hl, hb1, by omega, fun m t v h1 h2 => (hcells m t v h1 h2).ev ev⟩
    · obtain ⟨b', p', c2, e2, h2, h3, h4, h5⟩ := hi.obj j us (List.mem_of_getElem? h1)
      have hne2 := hother m j _ b' p' hne h1 h2
      exact ⟨b', p', c2, e2, h2, by rw [setRow_other w b b' c' hne2]; exact h3, h4, fun m t v h6 h7 => (h5 m t v h6 h7).ev ev⟩
  · rcases set_mem hn h with ⟨rfl, h1⟩ | ⟨m, hne, h1⟩
    · cases h1
    · obtain ⟨b', en, cl, h2, h3, h4, h5⟩ := hi.map j es (List.mem_of_getElem? h1)
      have hne2 := hother m j _ b' 0 hne h1 h2
      exact ⟨b', en, cl, h2, by rw [setRow_other w b b' c' hne2]; exact h3, h4, fun m k u e' h6 h7 => let ⟨h8, h9⟩ := h5 m k u e' h6 h7; ⟨h8.ev ev, h9.ev ev⟩⟩
  · have old : ∀ (m j : Nat) (x : Ob), (σ.set n i (.cells ts')).L[m]? = some (j, x) → ∃ x', σ.L[m]? = some (j, x') := by
      intro m j x h
      simp only [St.set, List.getElem?_set] at h
      split at h
      · rename_i e; subst e
        rw [if_pos (lt_of_get hn)] at h
        injection h with h; injection h with h1 h2; subst h1
        exact ⟨o, hn⟩
      · exact ⟨x, h⟩
    obtain ⟨x', h1'⟩ := old n1 j x h1
    obtain ⟨y', h2'⟩ := old m k y h2
    exact hi.inj n1 m j k x' y' b p q h1' h2' h3 h4
  · obtain ⟨b', f, t, h1, h2, h3⟩ := hi.room k hk
    refine ⟨b', f, t, h1, h2, fun hlt => ?_⟩
    obtain ⟨⟨c2, e2, h4, h5⟩, h6, h7⟩ := h3 hlt
    have hne : b' ≠ b := by rintro rfl; exact h6 i o p hin hl
    refine ⟨⟨c2, e2, by rw [setRow_other w b b' c' hne]; exact h4, h5⟩, fun j x q h8 h9 => ?_, h7⟩
    obtain ⟨x', h10⟩ := set_mem' hn h8
    exact h6 j x' q h10 h9
  · have := hi.offlt b o h; simpa using this
  · obtain ⟨x', h3⟩ := set_mem' hn h1
    exact hi.offobj j x' b p h3 h2

theorem aop_store (hG : Fits P G) {o : Oper} {ty : TypeId} {x y : Operand} {n i p : Nat} {t : T} {ts : List T} {ti : TI} {K : Env → St → Prop} (ho : o.op = .store ty x y) (hx : evalO a x = some (.ptr i p)) (hy : evalO a y = some t)
    (hob : σ.L[n]? = some (i, .cells ts)) (hsc : (notRaw t && t.cells.all T.scalar) = true) (hty : G ty = some ti) (hsz : Nat.beq t.cells.length ti.size = true) (hle : Nat.ble (p + t.cells.length) ts.length = true) (hd : fitsD N o.dst = true)
    (k : K (put a o.dst (.tup [])) (σ.set n i (.cells (stored ts t.cells p)))) : AOp P N o a σ K := by
  intro av w μ hi hr next Qc hn
  rw [Bool.and_eq_true] at hsc
  have rx := evalO_rel hr hx
  have ry := evalO_rel hr hy
  obtain ⟨hc1, hc2⟩ := ry.cells (notRaw_ne hsc.1)
  obtain ⟨b, q, c, e, hl, hc, hlen, hrel⟩ := hi.obj i ts (List.mem_of_getElem? hob)
  have hle' := Nat.le_of_ble_eq_true hle
  have hsz' := Nat.eq_of_beq_eq_true hsz
  have hone : ∀ v ∈ (av.eval y).cells.toList, v.oneCell' = true := by
    intro v hv
    obtain ⟨j, hj, hjv⟩ := List.getElem_of_mem hv
    have hj' : j < t.cells.length := by rw [Array.length_toList] at hj; omega
    refine (hc2 j t.cells[j] v (List.getElem?_eq_getElem hj') ?_).scalar (List.all_eq_true.1 hsc.2 _ (List.getElem_mem hj'))
    rw [← hjv]; simp
  have hst := run_storeCells_at (P := P) b (q + p) e (av.eval y).cells.toList 0 c w hc (by rw [Array.length_toList]; omega) hone
  generalize hv : av.eval x = vx at rx
  cases rx with
  | ptr i b' q' p hl' =>
  rw [hl] at hl'; injection hl' with hl'; injection hl' with e1 e2; subst e1; subst e2
  generalize hc' : (c.toList.take (q + p + 0) ++ (av.eval y).cells.toList ++ c.toList.drop (q + p + 0 + (av.eval y).cells.toList.length)).toArray = c' at hst
  have hrun : (execOp av.eval o).run P w = .ok .skip (w.setRow b c') := by
    simp only [execOp, ho, Instr.storeAt, hv, Instr.sureAddr, Sem.run_bind, Sem.run_pure, Result.andThen_ok, storeVar, g_size hG hty]
    rw [if_neg (by rw [hc1]; simpa using hsz')]
    simp [hst]
  have hc'size : c'.size = c.size := by rw [← hc']; simp; omega
  have ev : Ev w μ σ (w.setRow b c') μ (σ.set n i (.cells (stored ts t.cells p))) := set_ev hi hob hl hc hc'size
  have hi' : Inv (w.setRow b c') μ (σ.set n i (.cells (stored ts t.cells p))) := by
    refine set_inv hi hob hl hc hc'size (by rw [stored_length hle']; omega) fun j t' v hj hv' => ?_
    rw [← hc'] at hv'
    simp only [Nat.add_zero, List.getElem?_toArray] at hv'
    unfold stored at hj
    rw [List.append_assoc] at hj hv'
    have hl1 : (ts.take p).length = p := by simp; omega
    have hl2 : (c.toList.take (q + p)).length = q + p := by simp; omega
    rcases Nat.lt_or_ge j p with h | h
    · rw [List.getElem?_append_left (by omega)] at hj hv'
      rw [List.getElem?_take] at hj hv'
      rw [if_pos h] at hj
      rw [if_pos (by omega)] at hv'
      exact hrel j t' v hj (by simpa using hv')
    · rw [List.getElem?_append_right (by omega), hl1] at hj
      rw [List.getElem?_append_right (by omega), hl2] at hv'
      rw [show q + j - (q + p) = j - p by omega] at hv'
      rcases Nat.lt_or_ge (j - p) t.cells.length with h2 | h2
      · rw [List.getElem?_append_left (by omega)] at hj
        rw [List.getElem?_append_left (by rw [Array.length_toList]; omega)] at hv'
        exact hc2 _ t' v hj (by simpa using hv')
      · rw [List.getElem?_append_right (by omega), List.getElem?_drop] at hj
        rw [List.getElem?_append_right (by rw [Array.length_toList]; omega), List.getElem?_drop, Array.length_toList] at hv'
        rw [show p + t.cells.length + (j - p - t.cells.length) = j by omega] at hj
        rw [show q + p + (av.eval y).cells.size + (j - p - (av.eval y).cells.size) = q + j by omega] at hv'
        exact hrel j t' v hj (by simpa using hv')
  unfold Oper.wp
  rw [hrun]
  exact hn _ _ _ _ _ ev hi' ((hr.ev ev).put hd (.tup [] #[] rfl fun j c v h1 h2 => by simp at h1)) k

theorem sub_emb {α : Type} {l m : List α} (h : l.Sublist m) : ∃ φ : Nat → Nat, (∀ i j, φ i = φ j → i = j) ∧ ∀ i x, l[i]? = some x → m[φ i]? = some x := by
  induction h with
  | slnil => exact ⟨id, fun i j h => h, fun i x h => h⟩
  | cons a _ ih =>
    obtain ⟨φ, h1, h2⟩ := ih
    exact ⟨fun i => φ i + 1, fun i j h => h1 i j (by simpa using h), fun i x h => by simpa using h2 i x h⟩
  | cons_cons a _ ih =>
    obtain ⟨φ, h1, h2⟩ := ih
    refine ⟨fun i => match i with | 0 => 0 | i + 1 => φ i + 1, fun i j h => ?_, fun i x h => ?_⟩
    · cases i <;> cases j <;> simp at h ⊢
      exact h1 _ _ h
    · cases i with
      | zero => simpa using h
      | succ i => simpa using h2 i x (by simpa using h)

/-- Things are let go: they will not be written any more. -/
theorem keep_step {L' : List (Nat × Ob)} {R' : List Nat} (hL : L'.Sublist σ.L) (hR : R'.Sublist σ.R) : GStep σ { σ with L := L', R := R' } := by
  intro w μ hi
  have ev : Ev w μ σ w μ { σ with L := L', R := R' } := by
    refine ⟨.refl _ _, fun _ _ h => h, fun _ _ h => h, rfl, fun _ _ h => h, fun b hb hl => ⟨?_, rfl⟩, fun b o h => ⟨⟨h.lt, h.off, fun i x p h1 => h.obj i x p (hL.subset h1), fun k f t h1 => h.room k f t (hR.subset h1)⟩, rfl⟩⟩
    rintro (⟨i, x, p, h1, h2⟩ | ⟨k, f, t, h1, h2, h3⟩)
    · exact hl (.inl ⟨i, x, p, hL.subset h1, h2⟩)
    · exact hl (.inr ⟨k, f, t, hR.subset h1, h2, h3⟩)
  refine ⟨⟨fun i ts h => ?_, fun i es h => ?_, fun n m i j x y b p q h1 h2 h3 h4 => ?_, fun k hk => ?_, fun n m k l b f t g u h1 h2 h3 h4 => ?_, hi.fin, hi.offlt, fun i x b p h1 => hi.offobj i x b p (hL.subset h1)⟩, ev⟩
  · obtain ⟨b, p, c, e, h1, h2, h3, h4⟩ := hi.obj i ts (hL.subset h)
    exact ⟨b, p, c, e, h1, h2, h3, fun j t v h5 h6 => (h4 j t v h5 h6).ev ev⟩
  · obtain ⟨b, c, e, h1, h2, h3, h4⟩ := hi.map i es (hL.subset h)
    exact ⟨b, c, e, h1, h2, h3, fun j k u e' h5 h6 => let ⟨h7, h8⟩ := h4 j k u e' h5 h6; ⟨h7.ev ev, h8.ev ev⟩⟩
  · obtain ⟨φ, hf, hφ⟩ := sub_emb hL
    exact hf _ _ (hi.inj _ _ i j x y b p q (hφ _ _ h1) (hφ _ _ h2) h3 h4)
  · obtain ⟨b, f, t, h1, h2, h3⟩ := hi.room k (hR.subset hk)
    exact ⟨b, f, t, h1, h2, fun hlt => let ⟨h4, h5, h6⟩ := h3 hlt; ⟨h4, fun i x p h7 => h5 i x p (hL.subset h7), h6⟩⟩
  · obtain ⟨φ, hf, hφ⟩ := sub_emb hR
    exact fun h5 h6 => hf _ _ (hi.rinj _ _ k l b f t g u (hφ _ _ h1) (hφ _ _ h2) h3 h4 h5 h6)
end
end Go.Ts
