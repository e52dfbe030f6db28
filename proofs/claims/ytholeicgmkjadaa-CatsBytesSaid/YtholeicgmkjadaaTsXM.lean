/- Trees: maps with whole numbers as keys. -/
import Derived.Test.YtholeicgmkjadaaTsXA
import Derived.MapKept
set_option linter.unusedVariables false
set_option linter.unusedSimpArgs false
namespace Go.Ts
section
variable {P : Program} {G : Nat → Option TI} {w w1 : World} {μ : Gh} {σ : St} {N : Nat} {a : Env} {Q : Exit → Env → St → Prop}

/-- A new map. -/
theorem new_map_step (hi : Inv w μ σ) {i : Nat} (hf : μ.loc i = none) (hft : μ.tok i = none) (hfn : ∀ n, σ.nx = some n → i = n) (hfj : ∀ j, i ≤ j → μ.loc j = none ∧ μ.tok j = none) :
    Ev w μ σ (w.alloc (.map #[] 0)) (μ.addL i (w.heap.size, 0)) (σ.new i (.map [])) ∧ Inv (w.alloc (.map #[] 0)) (μ.addL i (w.heap.size, 0)) (σ.new i (.map [])) := by
  have hsz := size_alloc w (.map #[] 0)
  have hmem : ∀ j o, (j, o) ∈ (σ.new i (.map [])).L → (j = i ∧ o = .map []) ∨ ((j, o) ∈ σ.L ∧ j ≠ i) := by
    intro j o h
    rcases List.mem_cons.1 h with h | h
    · injection h with h1 h2; exact .inl ⟨h1, h2⟩
    · exact .inr ⟨h, fun e => hi.idlt h (e ▸ hf)⟩
  have ev : Ev w μ σ (w.alloc (.map #[] 0)) (μ.addL i (w.heap.size, 0)) (σ.new i (.map [])) := by
    refine ev_new hi (addL_mono hf) (fun _ _ h => h) rfl (fun j o b p h1 h2 h3 => ?_) (fun k b f t h1 h2 h3 h4 => ⟨h1, h2⟩)
    rcases hmem j o h1 with ⟨rfl, _⟩ | ⟨h, hne⟩
    · rw [addL_same] at h2; injection h2 with h2; injection h2 with h2; omega
    · rw [addL_ne _ hne] at h2; exact ⟨o, j, p, h, h2⟩
  refine ⟨ev, ⟨fun j us h => ?_, fun j es h => ?_, fun n m j k x y b p q h1 h2 h3 h4 => ?_, fun k hk => ?_, fun n m k l b f t g u h1 h2 h3 h4 => hi.rinj n m k l b f t g u h1 h2 h3 h4, ?_, fun b o h => ?_, fun j o b p h1 h2 q => ?_⟩⟩
  · rcases hmem j _ h with ⟨rfl, h1⟩ | ⟨h1, hne⟩
    · cases h1
    · obtain ⟨b, p, c', e', h2, h3, h4, h5⟩ := hi.obj j us h1
      exact ⟨b, p, c', e', by rw [addL_ne _ hne]; exact h2, by rw [heap_alloc_ne w _ (Array.getElem?_eq_some_iff.1 h3).1]; exact h3, h4, fun n t v h6 h7 => (h5 n t v h6 h7).ev ev⟩
  · rcases hmem j _ h with ⟨rfl, h1⟩ | ⟨h1, hne⟩
    · injection h1 with h1; subst h1
      exact ⟨w.heap.size, #[], 0, addL_same _ _, heap_alloc_at w _, rfl, fun n k u e h1 => by simp at h1⟩
    · obtain ⟨b, en, cl, h2, h3, h4, h5⟩ := hi.map j es h1
      exact ⟨b, en, cl, by rw [addL_ne _ hne]; exact h2, by rw [heap_alloc_ne w _ (Array.getElem?_eq_some_iff.1 h3).1]; exact h3, h4, fun n k u e' h6 h7 => let ⟨h8, h9⟩ := h5 n k u e' h6 h7; ⟨h8.ev ev, h9.ev ev⟩⟩
  · have hold : ∀ (n j : Nat) (x : Ob) (b p : Nat), σ.L[n]? = some (j, x) → (μ.addL i (w.heap.size, 0)).loc j = some (b, p) → μ.loc j = some (b, p) ∧ b < w.heap.size := by
      intro n j x b p h1 h2
      have hm := List.mem_of_getElem? h1
      have hne : j ≠ i := by rintro rfl; exact hi.idlt hm hf
      rw [addL_ne _ hne] at h2
      exact ⟨h2, hi.lts hm h2⟩
    have hnew : ∀ (b p : Nat), (μ.addL i (w.heap.size, 0)).loc i = some (b, p) → b = w.heap.size := by
      intro b p h; rw [addL_same] at h; injection h with h; injection h with h; exact h.symm
    cases n with
    | zero =>
      have e1 : (i, Ob.map []) = (j, x) := by simpa [St.new] using h1
      injection e1 with e1 e2; subst e1
      cases m with
      | zero => rfl
      | succ m =>
        have := (hold m k y b q (by simpa [St.new] using h2) h4).2
        have := hnew b p h3
        omega
    | succ n =>
      cases m with
      | zero =>
        have e1 : (i, Ob.map []) = (k, y) := by simpa [St.new] using h2
        injection e1 with e1 e2; subst e1
        have := (hold n j x b p (by simpa [St.new] using h1) h3).2
        have := hnew b q h4
        omega
      | succ m =>
        have h1' : σ.L[n]? = some (j, x) := by simpa [St.new] using h1
        have h2' : σ.L[m]? = some (k, y) := by simpa [St.new] using h2
        rw [hi.inj n m j k x y b p q h1' h2' (hold n j x b p h1' h3).1 (hold m k y b q h2' h4).1]
  · obtain ⟨b, f, t, h1, h2, h3⟩ := hi.room k hk
    refine ⟨b, f, t, h1, h2, fun hlt => ?_⟩
    obtain ⟨⟨c', e', h4, h5⟩, h6, h7⟩ := h3 hlt
    have hb := (Array.getElem?_eq_some_iff.1 h4).1
    refine ⟨⟨c', e', by rw [heap_alloc_ne w _ hb]; exact h4, h5⟩, fun j o p h8 h9 => ?_, h7⟩
    rcases hmem j o h8 with ⟨rfl, _⟩ | ⟨h, hne⟩
    · rw [addL_same] at h9; injection h9 with h9; injection h9 with h9; omega
    · rw [addL_ne _ hne] at h9; exact h6 j o p h h9
  · refine ⟨i + 1, fun j hj => ⟨by rw [addL_ne _ (by omega)]; exact (hfj j (by omega)).1, (hfj j (by omega)).2⟩, fun m hm => ?_⟩
    simp only [St.new] at hm
    cases hx : σ.nx with
    | none => rw [hx] at hm; cases hm
    | some n => rw [hx] at hm; simp at hm; omega
  · have := hi.offlt b o h; omega
  · rcases hmem j o h1 with ⟨rfl, _⟩ | ⟨h, hne⟩
    · rw [addL_same] at h2; injection h2 with h2; injection h2 with h2 h3; subst h2
      intro h; exact absurd (hi.offlt _ _ h) (by omega)
    · rw [addL_ne _ hne] at h2; exact hi.offobj j o b p h h2 q

def setMap (w : World) (b : Nat) (en : Array MapEntry) (cl : Nat) : World := { w with heap := w.heap.setIfInBounds b (.map en cl) }
theorem setMap_same {b : Nat} {en en' : Array MapEntry} {cl cl' : Nat} (h : w.heap[b]? = some (.map en cl)) : (setMap w b en' cl').heap[b]? = some (.map en' cl') := by
  have := (Array.getElem?_eq_some_iff.1 h).1
  simp [setMap, this]
theorem setMap_ne {b x : Nat} {en' : Array MapEntry} {cl' : Nat} (h : x ≠ b) : (setMap w b en' cl').heap[x]? = w.heap[x]? := by
  simp [setMap, Array.getElem?_setIfInBounds, Ne.symm h]
theorem setMap_size {b : Nat} {en' : Array MapEntry} {cl' : Nat} : (setMap w b en' cl').heap.size = w.heap.size := by simp [setMap]

/-- A map's entries are written anew. -/
theorem map_step (hi : Inv w μ σ) {n i b : Nat} {es es' : List (T × T)} (hn : σ.L[n]? = some (i, .map es)) (hl : μ.loc i = some (b, 0)) {en en' : Array MapEntry} {cl cl' : Nat} (hc : w.heap[b]? = some (.map en cl)) (hsz : en'.size = es'.length)
    (hen : ∀ (j : Nat) (k u : T) (e : MapEntry), es'[j]? = some (k, u) → en'[j]? = some e → Rel w μ σ e.key k ∧ Rel w μ σ e.val u) :
    Ev w μ σ (setMap w b en' cl') μ (σ.set n i (.map es')) ∧ Inv (setMap w b en' cl') μ (σ.set n i (.map es')) := by
  have hb1 : (setMap w b en' cl').heap[b]? = some (.map en' cl') := setMap_same hc
  have hin := List.mem_of_getElem? hn
  have ev : Ev w μ σ (setMap w b en' cl') μ (σ.set n i (.map es')) := by
    refine ⟨⟨rfl, rfl, rfl, by rw [setMap_size]; exact Nat.le_refl _, fun k hk => by omega⟩, fun _ _ h => h, fun _ _ h => h, rfl, fun x m ⟨c2, e2, f2, h1, h2⟩ => ?_, fun x hx hlv => ?_, fun x q hx => ?_⟩
    · have h : x ≠ b := by rintro rfl; rw [hc] at h1; cases h1
      exact ⟨c2, e2, f2, by rw [setMap_ne h]; exact h1, h2⟩
    · have hne : x ≠ b := by rintro rfl; exact hlv (.inl ⟨i, _, 0, hin, hl⟩)
      refine ⟨?_, setMap_ne hne⟩
      rintro (⟨j, y, q, h1, h2⟩ | h)
      · obtain ⟨y', h3⟩ := set_mem' hn h1
        exact hlv (.inl ⟨j, y', q, h3, h2⟩)
      · exact hlv (.inr h)
    · have hne : x ≠ b := by rintro rfl; exact hx.obj i _ 0 hin hl
      refine ⟨⟨by have := hx.lt; rw [setMap_size]; exact this, hx.off, fun j y r h1 h2 => ?_, hx.room⟩, cell_of_heap (setMap_ne hne) q⟩
      obtain ⟨y', h3⟩ := set_mem' hn h1
      exact hx.obj j y' r h3 h2
  have hother : ∀ (m j : Nat) (x : Ob) (b' q : Nat), m ≠ n → σ.L[m]? = some (j, x) → μ.loc j = some (b', q) → b' ≠ b := by
    rintro m j x b' q hne h1 h2 rfl
    exact hne (hi.inj m n j i x _ b' q 0 h1 hn h2 hl)
  refine ⟨ev, ⟨fun j us h => ?_, fun j es2 h => ?_, fun n1 m j k x y b p q h1 h2 h3 h4 => ?_, fun k hk => ?_, hi.rinj, hi.fin, fun b o h => ?_, fun j x b p h1 h2 => ?_⟩⟩
  · rcases set_mem hn h with ⟨rfl, h1⟩ | ⟨m, hne, h1⟩
    · cases h1
    · obtain ⟨b', p', c2, e2, h2, h3, h4, h5⟩ := hi.obj j us (List.mem_of_getElem? h1)
      have hne2 := hother m j _ b' p' hne h1 h2
      exact ⟨b', p', c2, e2, h2, by rw [setMap_ne hne2]; exact h3, h4, fun m t v h6 h7 => (h5 m t v h6 h7).ev ev⟩
  · rcases set_mem hn h with ⟨rfl, h1⟩ | ⟨m, hne, h1⟩
    · injection h1 with h1; subst h1
      exact ⟨b, en', cl', hl, hb1, hsz, fun m k u e h1 h2 => let ⟨h3, h4⟩ := hen m k u e h1 h2; ⟨h3.ev ev, h4.ev ev⟩⟩
    · obtain ⟨b', en2, cl2, h2, h3, h4, h5⟩ := hi.map j es2 (List.mem_of_getElem? h1)
      have hne2 := hother m j _ b' 0 hne h1 h2
      exact ⟨b', en2, cl2, h2, by rw [setMap_ne hne2]; exact h3, h4, fun m k u e' h6 h7 => let ⟨h8, h9⟩ := h5 m k u e' h6 h7; ⟨h8.ev ev, h9.ev ev⟩⟩
  · have old : ∀ (m j : Nat) (x : Ob), (σ.set n i (.map es')).L[m]? = some (j, x) → ∃ x', σ.L[m]? = some (j, x') := by
      intro m j x h
      simp only [St.set, List.getElem?_set] at h
      split at h
      · rename_i e; subst e
        rw [if_pos (lt_of_get hn)] at h
        injection h with h; injection h with h1 h2; subst h1
        exact ⟨_, hn⟩
      · exact ⟨x, h⟩
    obtain ⟨x', h1'⟩ := old n1 j x h1
    obtain ⟨y', h2'⟩ := old m k y h2
    exact hi.inj n1 m j k x' y' b p q h1' h2' h3 h4
  · obtain ⟨b', f, t, h1, h2, h3⟩ := hi.room k hk
    refine ⟨b', f, t, h1, h2, fun hlt => ?_⟩
    obtain ⟨⟨c2, e2, h4, h5⟩, h6, h7⟩ := h3 hlt
    have hne : b' ≠ b := by rintro rfl; exact h6 i _ 0 hin hl
    refine ⟨⟨c2, e2, by rw [setMap_ne hne]; exact h4, h5⟩, fun j x q h8 h9 => ?_, h7⟩
    obtain ⟨x', h10⟩ := set_mem' hn h8
    exact h6 j x' q h10 h9
  · have := hi.offlt b o h; rw [setMap_size]; exact this
  · obtain ⟨x', h3⟩ := set_mem' hn h1
    exact hi.offobj j x' b p h3 h2

/-- Where a key stands among the entries. -/
def findX (k : IntKind) (n : Int) : List (T × T) → Nat → Option (Option (Nat × T))
  | [], _ => some none
  | (.int k' m, u) :: es, i => cond (decide (k = k')) (cond (decide (n = m)) (some (some (i, u))) (findX k n es (i + 1))) none
  | _ :: _, _ => none
theorem findX_run {k k0 : IntKind} {n : Int} : ∀ (es : List (T × T)) (en : List MapEntry) (i : Nat) (r : Option (Nat × T)), findX k n es i = some r → en.length = es.length →
    (∀ (j : Nat) (x u : T) (e : MapEntry), es[j]? = some (x, u) → en[j]? = some e → Rel w μ σ e.key x ∧ Rel w μ σ e.val u) →
    match r with
    | none => Instr.findNow (.int k0) (.int k n) en i = some none
    | some (p, u) => i ≤ p ∧ ∃ e v, en[p - i]? = some e ∧ e.key = .int k n ∧ e.val = v ∧ Rel w μ σ v u ∧ es[p - i]? = some (.int k n, u) ∧ Instr.findNow (.int k0) (.int k n) en i = some (some (p, v))
  | [], en, i, r, h, hl, _ => by
    simp [findX] at h; subst h
    obtain rfl : en = [] := List.eq_nil_of_length_eq_zero (by simpa using hl)
    rfl
  | (x, u) :: es, en, i, r, h, hl, hr => by
    cases en with
    | nil => simp at hl
    | cons e en =>
      obtain ⟨r1, r2⟩ := hr 0 x u e rfl rfl
      cases x with
      | int k' m =>
        simp only [findX] at h
        by_cases hk : k = k'
        · subst hk
          simp only [decide_true, cond_true] at h
          generalize hek : e.key = ek at r1
          cases r1
          by_cases hn : n = m
          · subst hn
            simp only [decide_true, cond_true] at h
            injection h with h; subst h
            refine ⟨Nat.le_refl _, e, e.val, by simp, hek, rfl, r2, by simp, ?_⟩
            simp [Instr.findNow, hek, Instr.sameNow]
          · simp only [decide_eq_false hn, cond_false] at h
            have ih := findX_run (k0 := k0) es en (i + 1) r h (by simpa using hl) (fun j x u e h1 h2 => hr (j + 1) x u e (by simpa using h1) (by simpa using h2))
            have hf : Instr.findNow (.int k0) (.int k n) (e :: en) i = Instr.findNow (.int k0) (.int k n) en (i + 1) := by
              have hb : (n == m) = false := by simpa using hn
              simp [Instr.findNow, hek, Instr.sameNow, hb]
            cases r with
            | none => exact hf.trans ih
            | some q =>
              obtain ⟨p, v0⟩ := q
              obtain ⟨h1, e', v, h2, h3, h4, h5, h6, h7⟩ := ih
              refine ⟨by omega, e', v, by rw [show p - i = (p - (i + 1)) + 1 by omega]; simpa using h2, h3, h4, h5, by rw [show p - i = (p - (i + 1)) + 1 by omega]; simpa using h6, hf.trans h7⟩
        · simp [decide_eq_false hk] at h
      | _ => simp [findX] at h

theorem checkKey_int {b : Bool} {m : Nat} {t : TypeId} {ti : TI} {k k0 : IntKind} {n : Int} (hG : Fits P G) (ht : G t = some ti) (hd : ti.d = .int k0) : (Instr.checkKey b (m + 1) t (.int k n)).run P w = .ok () w := by
  obtain ⟨d, u, f⟩ := g_under (P := P) (w := w) hG ht
  rw [hd] at f; obtain rfl := td_int f
  simp [Instr.checkKey, u]

theorem aop_makeMap (hG : Fits P G) {o : Oper} {t : TypeId} {K : Env → St → Prop} (ho : o.op = .makeMap t none) (hd : fitsD N o.dst = true)
    (k : ∀ i, (∀ n, σ.nx = some n → i = n) → K (put a o.dst (.map (some i))) (σ.new i (.map []))) : AOp P N o a σ K := by
  intro av w μ hi hr next Qc hn
  obtain ⟨i, f1, f2, f3, f4⟩ := hi.pick
  obtain ⟨ev, hi'⟩ := new_map_step hi f1 f2 f3 f4
  have hrun : (execOp av.eval o).run P w = .ok (.value (.map (some w.heap.size))) (w.alloc (.map #[] 0)) := by
    simp [execOp, ho, Instr.makeMap, newObj]
    rfl
  unfold Oper.wp
  rw [hrun]
  exact hn _ _ _ _ _ ev hi' ((hr.ev ev).put hd (.map _ _ 0 (addL_same _ _))) (k i f3)

/-- What a look-up finds. -/
def foundX (z : T) : Option (Nat × T) → T
  | some (_, u) => u
  | none => z
theorem aop_lookup (hG : Fits P G) {o : Oper} {t kt et : TypeId} {x y : Operand} {ok : Bool} {ti tk te : TI} {k k0 : IntKind} {n : Int} {i : Nat} {es : List (T × T)} {r : Option (Nat × T)} {K : Env → St → Prop}
    (ho : o.op = .lookup t x y ok) (ht : G t = some ti) (htd : ti.d = .map kt et) (hk : G kt = some tk) (hkd : tk.d = .int k0) (he : G et = some te) (hx : evalO a x = some (.map (some i))) (hy : evalO a y = some (.int k n)) (hob : (i, .map es) ∈ σ.L)
    (hf : findX k n es 0 = some r) (hd : fitsD N o.dst = true)
    (kk : K (put a o.dst (cond ok (.tup [foundX te.tree r, .bool r.isSome]) (foundX te.tree r))) σ) : AOp P N o a σ K := by
  intro av w μ hi hr next Qc hn
  obtain ⟨b, en, cl, hl, hc, hsz, hrel⟩ := hi.map i es hob
  obtain ⟨d1, u1, f1⟩ := g_under (P := P) (w := w) hG ht
  rw [htd] at f1; obtain rfl := td_map f1
  obtain ⟨d2, u2, f2⟩ := g_under (P := P) (w := w) hG hk
  rw [hkd] at f2; obtain rfl := td_int f2
  obtain ⟨z, uz, rz, hz1, hz2⟩ := g_zero (P := P) (w := w) (μ := μ) (σ := σ) hG he
  have rx := evalO_rel hr hx
  have ry := evalO_rel hr hy
  generalize hvx : av.eval x = vx at rx
  generalize hvy : av.eval y = vy at ry
  cases ry
  cases rx with
  | map i b' p hl' =>
  rw [hl] at hl'; injection hl' with hl'; injection hl' with e1 e2; subst e1
  have hget : (getObj b).run P w = .ok (.map en cl) w := by simp [getObj, Sem.run, hc]
  have hck : ∀ bb, (Instr.checkKey bb 10000 kt (.int k n)).run P w = .ok () w := fun bb => checkKey_int hG hk hkd
  have hfr := findX_run (w := w) (μ := μ) (σ := σ) (k0 := k0) es en.toList 0 r hf (by simpa using hsz) (fun j x u e h1 h2 => hrel j x u e h1 (by simpa using h2))
  have tupR : ∀ (v : Value) (u : T) (bb : Bool), Rel w μ σ v u → Rel w μ σ (.tuple #[v, .bool bb]) (.tup [u, .bool bb]) := by
    intro v u bb h
    refine .tup _ _ rfl fun j c v' h1 h2 => ?_
    match j with
    | 0 => simp at h1 h2; subst h1; subst h2; exact h
    | 1 => simp at h1 h2; subst h1; subst h2; exact .bool _
    | j + 2 => simp at h1
  obtain ⟨v, hv, rv⟩ : ∃ v, (Instr.lookup t (.map (some b)) (.int k n) ok).run P w = .ok v w ∧ Rel w μ σ v (cond ok (.tup [foundX te.tree r, .bool r.isSome]) (foundX te.tree r)) := by
    cases r with
    | none =>
      have hfk : (Instr.findKey kt (.int k n) en.toList).run P w = .ok none w := by simp [Instr.findKey, u2, hfr]
      cases ok
      · exact ⟨z, by unfold Instr.lookup; simp [u1, hget, hck, hfk, uz], rz⟩
      · exact ⟨_, by unfold Instr.lookup; simp [u1, hget, hck, hfk, uz], tupR _ _ _ rz⟩
    | some q =>
      obtain ⟨p, u⟩ := q
      obtain ⟨_, e', v, _, _, _, h5, _, h7⟩ := hfr
      have hfk : (Instr.findKey kt (.int k n) en.toList).run P w = .ok (some (p, v)) w := by simp [Instr.findKey, u2, h7]
      cases ok
      · exact ⟨v, by unfold Instr.lookup; simp [u1, hget, hck, hfk], h5⟩
      · exact ⟨_, by unfold Instr.lookup; simp [u1, hget, hck, hfk], tupR _ _ _ h5⟩
  have hrun : (execOp av.eval o).run P w = .ok (.value v) w := by
    simp [execOp, ho, hvx, hvy, hv]
  unfold Oper.wp
  rw [hrun]
  exact hn _ _ _ _ _ (.refl _ _ _) hi (hr.put hd rv) kk

/-- A map with an entry. -/
def mapSet (k : IntKind) (n : Int) (u : T) (es : List (T × T)) : Option (Nat × T) → List (T × T)
  | some (p, _) => es.set p (.int k n, u)
  | none => es ++ [(.int k n, u)]

theorem aop_mapUpdate (hG : Fits P G) {o : Oper} {t kt et : TypeId} {m x y : Operand} {ti tk : TI} {k k0 : IntKind} {n : Int} {q i : Nat} {u : T} {es : List (T × T)} {r : Option (Nat × T)} {K : Env → St → Prop}
    (ho : o.op = .mapUpdate t m x y) (ht : G t = some ti) (htd : ti.d = .map kt et) (hk : G kt = some tk) (hkd : tk.d = .int k0) (hm : evalO a m = some (.map (some i))) (hx : evalO a x = some (.int k n)) (hy : evalO a y = some u)
    (hob : σ.L[q]? = some (i, .map es)) (hf : findX k n es 0 = some r) (hd : fitsD N o.dst = true) (kk : K (put a o.dst (.tup [])) (σ.set q i (.map (mapSet k n u es r)))) : AOp P N o a σ K := by
  intro av w μ hi hr next Qc hn
  obtain ⟨b, en, cl, hl, hc, hsz, hrel⟩ := hi.map i es (List.mem_of_getElem? hob)
  obtain ⟨d1, u1, f1⟩ := g_under (P := P) (w := w) hG ht
  rw [htd] at f1; obtain rfl := td_map f1
  obtain ⟨d2, u2, f2⟩ := g_under (P := P) (w := w) hG hk
  rw [hkd] at f2; obtain rfl := td_int f2
  have rm := evalO_rel hr hm
  have rx := evalO_rel hr hx
  have ry := evalO_rel hr hy
  generalize hvm : av.eval m = vm at rm
  generalize hvx : av.eval x = vx at rx
  generalize hvy : av.eval y = vy at ry
  cases rx
  cases rm with
  | map i b' p hl' =>
  rw [hl] at hl'; injection hl' with hl'; injection hl' with e1 e2; subst e1
  have hget : (getObj b).run P w = .ok (.map en cl) w := by simp [getObj, Sem.run, hc]
  have hset : ∀ en' cl', (setObj b (.map en' cl')).run P w = .ok () (setMap w b en' cl') := fun en' cl' => by simp [setObj, Sem.run, hc, setMap]
  have hck : (Instr.checkKey false 10000 kt (.int k n)).run P w = .ok () w := checkKey_int hG hk hkd
  have hfr := findX_run (w := w) (μ := μ) (σ := σ) (k0 := k0) es en.toList 0 r hf (by simpa using hsz) (fun j x u e h1 h2 => hrel j x u e h1 (by simpa using h2))
  obtain ⟨en', cl', hrun0, hsz', hen'⟩ : ∃ en' cl', (Instr.mapUpdate t (.map (some b)) (.int k n) vy).run P w = .ok () (setMap w b en' cl') ∧ en'.size = (mapSet k n u es r).length ∧
      ∀ (j : Nat) (x u' : T) (e : MapEntry), (mapSet k n u es r)[j]? = some (x, u') → en'[j]? = some e → Rel w μ σ e.key x ∧ Rel w μ σ e.val u' := by
    cases r with
    | none =>
      refine ⟨en.push { key := .int k n, val := vy, born := cl }, cl + 1, ?_, by simp [mapSet, hsz], fun j x u' e h1 h2 => ?_⟩
      · have hfk : (Instr.findKey kt (.int k n) en.toList).run P w = .ok none w := by simp [Instr.findKey, u2, hfr]
        unfold Instr.mapUpdate
        simp [u1, hget, hck, hfk, hset]
      · simp only [mapSet] at h1
        rcases Nat.lt_trichotomy j es.length with h | h | h
        · rw [List.getElem?_append_left h] at h1
          rw [Array.getElem?_push_lt (by omega)] at h2
          exact hrel j x u' e h1 (by rw [← h2]; simp [hsz, h])
        · subst h
          rw [List.getElem?_append_right (Nat.le_refl _)] at h1
          simp at h1
          obtain ⟨rfl, rfl⟩ := h1
          rw [← hsz, Array.getElem?_push_size] at h2
          injection h2 with h2; subst h2
          exact ⟨.int _ _, ry⟩
        · rw [List.getElem?_append_right (by omega)] at h1
          rw [List.getElem?_eq_none (by simp; omega)] at h1; cases h1
    | some pu =>
      obtain ⟨p, u0⟩ := pu
      obtain ⟨_, e', v, h2, h3, h4, h5, h6, h7⟩ := hfr
      simp only [Nat.sub_zero] at h2 h6
      have hp : p < es.length := lt_of_get h6
      refine ⟨en.modify p fun e => { e with key := .int k n, val := vy }, cl, ?_, by simp [mapSet, hsz], fun j x u' e h8 h9 => ?_⟩
      · have hfk : (Instr.findKey kt (.int k n) en.toList).run P w = .ok (some (p, v)) w := by simp [Instr.findKey, u2, h7]
        have hk2 : ((en[p]?).map (·.key)).getD (.int k n) = .int k n := by
          have : en[p]? = some e' := by simpa using h2
          rw [this]; exact h3
        have hst : (Instr.keyThatStays (((en[p]?).map (·.key)).getD (.int k n)) (.int k n)).run P w = .ok (.int k n) w := by
          rw [hk2]
          have : Instr.sameBits 10000 (.int k n) (.int k n) = true := by simp [Instr.sameBits]
          simp [Instr.keyThatStays, this]
        unfold Instr.mapUpdate
        simp only [Sem.run_bind, u1, Result.andThen_ok, hget, hck, hfk, hst, hset]
      · simp only [mapSet, List.getElem?_set] at h8
        rw [Array.getElem?_modify] at h9
        by_cases e0 : p = j
        · subst e0
          rw [if_pos rfl, if_pos hp] at h8
          injection h8 with h8; injection h8 with h8 h10; subst h8; subst h10
          rw [if_pos rfl] at h9
          cases hq : en[p]? with
          | none => rw [hq] at h9; cases h9
          | some e1 => rw [hq] at h9; simp at h9; subst h9; exact ⟨.int _ _, ry⟩
        · rw [if_neg e0] at h8 h9
          exact hrel j x u' e h8 h9
  obtain ⟨ev, hi'⟩ := map_step (cl' := cl') hi hob hl hc hsz' hen'
  have hrun : (execOp av.eval o).run P w = .ok .skip (setMap w b en' cl') := by
    simp [execOp, ho, hvm, hvx, hvy, hrun0]
  unfold Oper.wp
  rw [hrun]
  exact hn _ _ _ _ _ ev hi' ((hr.ev ev).put hd (.tup [] #[] rfl fun j c v h1 h2 => by simp at h1)) kk

/-- The entries without one. -/
def mapDel (es : List (T × T)) : Option (Nat × T) → List (T × T)
  | some (p, _) => es.eraseIdx p
  | none => es
theorem aop_delete (hG : Fits P G) {o : Oper} {t t2 kt et : TypeId} {m x : Operand} {ti tk : TI} {k k0 : IntKind} {n : Int} {q i : Nat} {es : List (T × T)} {r : Option (Nat × T)} {K : Env → St → Prop}
    (ho : o.op = .call { callee := .builtin .delete, args := #[m, x], argTypes := #[t, t2] }) (ht : G t = some ti) (htd : ti.d = .map kt et) (hk : G kt = some tk) (hkd : tk.d = .int k0) (hm : evalO a m = some (.map (some i))) (hx : evalO a x = some (.int k n))
    (hob : σ.L[q]? = some (i, .map es)) (hf : findX k n es 0 = some r) (hd : fitsD N o.dst = true) (kk : K (put a o.dst (.tup [])) (σ.set q i (.map (mapDel es r)))) : AOp P N o a σ K := by
  intro av w μ hi hr next Qc hn
  obtain ⟨b, en, cl, hl, hc, hsz, hrel⟩ := hi.map i es (List.mem_of_getElem? hob)
  obtain ⟨d1, u1, f1⟩ := g_under (P := P) (w := w) hG ht
  rw [htd] at f1; obtain rfl := td_map f1
  obtain ⟨d2, u2, f2⟩ := g_under (P := P) (w := w) hG hk
  rw [hkd] at f2; obtain rfl := td_int f2
  have rm := evalO_rel hr hm
  have rx := evalO_rel hr hx
  generalize hvm : av.eval m = vm at rm
  generalize hvx : av.eval x = vx at rx
  cases rx
  cases rm with
  | map i b' p hl' =>
  rw [hl] at hl'; injection hl' with hl'; injection hl' with e1 e2; subst e1
  have hget : (getObj b).run P w = .ok (.map en cl) w := by simp [getObj, Sem.run, hc]
  have hset : ∀ en' cl', (setObj b (.map en' cl')).run P w = .ok () (setMap w b en' cl') := fun en' cl' => by simp [setObj, Sem.run, hc, setMap]
  have hck : ∀ bb, (Instr.checkKey bb 10000 kt (.int k n)).run P w = .ok () w := fun bb => checkKey_int hG hk hkd
  have hfr := findX_run (w := w) (μ := μ) (σ := σ) (k0 := k0) es en.toList 0 r hf (by simpa using hsz) (fun j x u e h1 h2 => hrel j x u e h1 (by simpa using h2))
  obtain ⟨en', cl', hrun0, hsz', hen'⟩ : ∃ en' cl', (Builtin.delete_ #[t, t2] o.type #[.map (some b), .int k n]).run P w = .ok (.tuple #[]) (setMap w b en' cl') ∧ en'.size = (mapDel es r).length ∧
      ∀ (j : Nat) (x u' : T) (e : MapEntry), (mapDel es r)[j]? = some (x, u') → en'[j]? = some e → Rel w μ σ e.key x ∧ Rel w μ σ e.val u' := by
    cases r with
    | none =>
      refine ⟨en, cl, ?_, hsz, hrel⟩
      have hfk : (Instr.findKey kt (.int k n) en.toList).run P w = .ok none w := by simp [Instr.findKey, u2, hfr]
      simp [Builtin.delete_, u1, hget, hck, hfk, hset]
    | some pu =>
      obtain ⟨p, u0⟩ := pu
      obtain ⟨_, e', v, h2, h3, h4, h5, h6, h7⟩ := hfr
      simp only [Nat.sub_zero] at h2 h6
      have hp : p < es.length := lt_of_get h6
      have hp' : p < en.size := by omega
      have hq : ∀ j, (en.eraseIdxIfInBounds p)[j]? = if j < p then en[j]? else en[j + 1]? := by
        intro j
        rw [Array.eraseIdxIfInBounds, dif_pos hp', Array.getElem?_eraseIdx]
      refine ⟨en.eraseIdxIfInBounds p, cl, ?_, ?_, fun j x u' e h8 h9 => ?_⟩
      · have hfk : (Instr.findKey kt (.int k n) en.toList).run P w = .ok (some (p, v)) w := by simp [Instr.findKey, u2, h7]
        simp [Builtin.delete_, u1, hget, hck, hfk, hset]
      · rw [Array.eraseIdxIfInBounds, dif_pos hp', Array.size_eraseIdx, mapDel, List.length_eraseIdx, if_pos hp, hsz]
      · rw [hq] at h9
        simp only [mapDel, List.getElem?_eraseIdx] at h8
        by_cases hj : j < p
        · rw [if_pos hj] at h8 h9; exact hrel j x u' e h8 h9
        · rw [if_neg hj] at h8 h9; exact hrel (j + 1) x u' e h8 h9
  obtain ⟨ev, hi'⟩ := map_step (cl' := cl') hi hob hl hc hsz' hen'
  have hrun : (execOp av.eval o).run P w = .ok (.value (.tuple #[])) (setMap w b en' cl') := by
    simp [execOp, ho, resolve, invoke, builtin, hvm, hvx, hrun0]
  unfold Oper.wp
  rw [hrun]
  exact hn _ _ _ _ _ ev hi' ((hr.ev ev).put hd (.tup [] #[] rfl fun j c v h1 h2 => by simp at h1)) kk
end
end Go.Ts
