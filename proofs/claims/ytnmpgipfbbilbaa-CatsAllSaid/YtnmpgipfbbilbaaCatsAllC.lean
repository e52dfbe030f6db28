/- Part of the proof of the law CatsAll: the texts TsXM, TsXB, TsXC, SJ, S2, S4, S5, SM, SN, S6, S7, CW, TsXCv. No conditions. -/
import Derived.Test.YtnmpgipfbbilbaaCatsAllB
import Derived.MapKept
import Derived.Sort.LotD5
set_option linter.unusedSimpArgs false
set_option linter.unusedVariables false
set_option linter.unusedVariables false
set_option linter.unusedSimpArgs false
namespace Go.Ts
section
variable {P : Program} {G : Nat → Option TI} {w w1 : World} {μ : Gh} {σ : St} {N : Nat} {a : Env} {Q : Exit → Env → St → Prop}

theorem new_map_step (hi : Inv w μ σ) {i : Nat} (hf : μ.loc i = none) (hft : μ.tok i = none) (hfn : ∀ n, σ.nx = some n → i = n) (hfj : ∀ j, i ≤ j → μ.loc j = none ∧ μ.tok j = none) :
    Ev w μ σ (w.alloc (.map #[] 0)) (μ.addL i (w.heap.size, 0)) (σ.new i (.map [])) ∧ Inv (w.alloc (.map #[] 0)) (μ.addL i (w.heap.size, 0)) (σ.new i (.map [])) := by
  have hsz := size_alloc w (.map #[] 0)
  have hmem : ∀ j o, (j, o) ∈ (σ.new i (.map [])).L → (j = i ∧ o = .map []) ∨ ((j, o) ∈ σ.L ∧ j ≠ i) := by
    intro j o h
    rcases List.mem_cons.1 h with h | h
    · injection h with h1 h2; exact .inl ⟨h1, h2⟩
    · exact .inr ⟨h, fun e => hi.idlt h (e ▸ hf)⟩
  have ev : Ev w μ σ (w.alloc (.map #[] 0)) (μ.addL i (w.heap.size, 0)) (σ.new i (.map [])) := by
    refine ev_new hi (addL_mono hf) (fun _ _ h => h) rfl (fun j o b p h1 h2 h3 => ?_) (fun k b f t h1 h2 h3 h4 => ⟨h1, h2⟩)
    rcases hmem j o h1 with ⟨rfl, _⟩ | ⟨h, hne⟩
    · rw [Bl] at h2; injection h2 with h2; injection h2 with h2; omega
    · rw [Bu _ hne] at h2; exact ⟨o, j, p, h, h2⟩
  refine ⟨ev, ⟨fun j us h => ?_, fun j es h => ?_, fun n m j k x y b p q h1 h2 h3 h4 => ?_, fun k hk => ?_, fun n m k l b f t g u h1 h2 h3 h4 => hi.rinj n m k l b f t g u h1 h2 h3 h4, ?_, fun b o h => ?_, fun j o b p h1 h2 q => ?_⟩⟩
  · rcases hmem j _ h with ⟨rfl, h1⟩ | ⟨h1, hne⟩
    · cases h1
    · obtain ⟨b, p, c', e', h2, h3, h4, h5⟩ := hi.obj j us h1
      exact ⟨b, p, c', e', by rw [Bu _ hne]; exact h2, by rw [Bf w _ (Array.getElem?_eq_some_iff.1 h3).1]; exact h3, h4, fun n t v h6 h7 => (h5 n t v h6 h7).ev ev⟩
  · rcases hmem j _ h with ⟨rfl, h1⟩ | ⟨h1, hne⟩
    · injection h1 with h1; subst h1
      exact ⟨w.heap.size, #[], 0, Bl _ _, heap_alloc_at w _, rfl, fun n k u e h1 => by simp at h1⟩
    · obtain ⟨b, en, cl, h2, h3, h4, h5⟩ := hi.map j es h1
      exact ⟨b, en, cl, by rw [Bu _ hne]; exact h2, by rw [Bf w _ (Array.getElem?_eq_some_iff.1 h3).1]; exact h3, h4, fun n k u e' h6 h7 => let ⟨h8, h9⟩ := h5 n k u e' h6 h7; ⟨h8.ev ev, h9.ev ev⟩⟩
  · have hold : ∀ (n j : Nat) (x : Ob) (b p : Nat), σ.L[n]? = some (j, x) → (μ.addL i (w.heap.size, 0)).loc j = some (b, p) → μ.loc j = some (b, p) ∧ b < w.heap.size := by
      intro n j x b p h1 h2
      have hm := List.mem_of_getElem? h1
      have hne : j ≠ i := by rintro rfl; exact hi.idlt hm hf
      rw [Bu _ hne] at h2
      exact ⟨h2, hi.lts hm h2⟩
    have hnew : ∀ (b p : Nat), (μ.addL i (w.heap.size, 0)).loc i = some (b, p) → b = w.heap.size := by
      intro b p h; rw [Bl] at h; injection h with h; injection h with h; exact h.symm
    cases n with
    | zero =>
      have e1 : (i, Ob.map []) = (j, x) := by simpa [St.new] using h1
      injection e1 with e1 e2; subst e1
      cases m with
      | zero => rfl
      | succ m =>
        have := (hold m k y b q (by simpa [St.new] using h2) h4).2
        have := hnew b p h3
        omega
    | succ n =>
      cases m with
      | zero =>
        have e1 : (i, Ob.map []) = (k, y) := by simpa [St.new] using h2
        injection e1 with e1 e2; subst e1
        have := (hold n j x b p (by simpa [St.new] using h1) h3).2
        have := hnew b q h4
        omega
      | succ m =>
        have h1' : σ.L[n]? = some (j, x) := by simpa [St.new] using h1
        have h2' : σ.L[m]? = some (k, y) := by simpa [St.new] using h2
        rw [hi.inj n m j k x y b p q h1' h2' (hold n j x b p h1' h3).1 (hold m k y b q h2' h4).1]
  · obtain ⟨b, f, t, h1, h2, h3⟩ := hi.room k hk
    refine ⟨b, f, t, h1, h2, fun hlt => ?_⟩
    obtain ⟨⟨c', e', h4, h5⟩, h6, h7⟩ := h3 hlt
    have hb := (Array.getElem?_eq_some_iff.1 h4).1
    refine ⟨⟨c', e', by rw [Bf w _ hb]; exact h4, h5⟩, fun j o p h8 h9 => ?_, h7⟩
    rcases hmem j o h8 with ⟨rfl, _⟩ | ⟨h, hne⟩
    · rw [Bl] at h9; injection h9 with h9; injection h9 with h9; omega
    · rw [Bu _ hne] at h9; exact h6 j o p h h9
  · refine ⟨i + 1, fun j hj => ⟨by rw [Bu _ (by omega)]; exact (hfj j (by omega)).1, (hfj j (by omega)).2⟩, fun m hm => ?_⟩
    simp only [St.new] at hm
    cases hx : σ.nx with
    | none => rw [hx] at hm; cases hm
    | some n => rw [hx] at hm; simp at hm; omega
  · have := hi.offlt b o h; omega
  · rcases hmem j o h1 with ⟨rfl, _⟩ | ⟨h, hne⟩
    · rw [Bl] at h2; injection h2 with h2; injection h2 with h2 h3; subst h2
      intro h; exact absurd (hi.offlt _ _ h) (by omega)
    · rw [Bu _ hne] at h2; exact hi.offobj j o b p h h2 q

def setMap (w : World) (b : Nat) (en : Array MapEntry) (cl : Nat) : World := { w with heap := w.heap.setIfInBounds b (.map en cl) }
theorem setMap_same {b : Nat} {en en' : Array MapEntry} {cl cl' : Nat} (h : w.heap[b]? = some (.map en cl)) : (setMap w b en' cl').heap[b]? = some (.map en' cl') := by
  have := (Array.getElem?_eq_some_iff.1 h).1
  simp [setMap, this]
theorem setMap_ne {b x : Nat} {en' : Array MapEntry} {cl' : Nat} (h : x ≠ b) : (setMap w b en' cl').heap[x]? = w.heap[x]? := by
  simp [setMap, Array.getElem?_setIfInBounds, Ne.symm h]
theorem setMap_size {b : Nat} {en' : Array MapEntry} {cl' : Nat} : (setMap w b en' cl').heap.size = w.heap.size := by simp [setMap]

theorem map_step (hi : Inv w μ σ) {n i b : Nat} {es es' : List (T × T)} (hn : σ.L[n]? = some (i, .map es)) (hl : μ.loc i = some (b, 0)) {en en' : Array MapEntry} {cl cl' : Nat} (hc : w.heap[b]? = some (.map en cl)) (hsz : en'.size = es'.length)
    (hen : ∀ (j : Nat) (k u : T) (e : MapEntry), es'[j]? = some (k, u) → en'[j]? = some e → Rel w μ σ e.key k ∧ Rel w μ σ e.val u) :
    Ev w μ σ (setMap w b en' cl') μ (σ.set n i (.map es')) ∧ Inv (setMap w b en' cl') μ (σ.set n i (.map es')) := by
  have hb1 : (setMap w b en' cl').heap[b]? = some (.map en' cl') := setMap_same hc
  have hin := List.mem_of_getElem? hn
  have ev : Ev w μ σ (setMap w b en' cl') μ (σ.set n i (.map es')) := by
    refine ⟨⟨rfl, rfl, rfl, by rw [setMap_size]; exact Nat.le_refl _, fun k hk => by omega⟩, fun _ _ h => h, fun _ _ h => h, rfl, fun x m ⟨c2, e2, f2, h1, h2⟩ => ?_, fun x hx hlv => ?_, fun x q hx => ?_⟩
    · have h : x ≠ b := by rintro rfl; rw [hc] at h1; cases h1
      exact ⟨c2, e2, f2, by rw [setMap_ne h]; exact h1, h2⟩
    · have hne : x ≠ b := by rintro rfl; exact hlv (.inl ⟨i, _, 0, hin, hl⟩)
      refine ⟨?_, setMap_ne hne⟩
      rintro (⟨j, y, q, h1, h2⟩ | h)
      · obtain ⟨y', h3⟩ := set_mem' hn h1
        exact hlv (.inl ⟨j, y', q, h3, h2⟩)
      · exact hlv (.inr h)
    · have hne : x ≠ b := by rintro rfl; exact hx.obj i _ 0 hin hl
      refine ⟨⟨by have := hx.lt; rw [setMap_size]; exact this, hx.off, fun j y r h1 h2 => ?_, hx.room⟩, cell_of_heap (setMap_ne hne) q⟩
      obtain ⟨y', h3⟩ := set_mem' hn h1
      exact hx.obj j y' r h3 h2
  have hother : ∀ (m j : Nat) (x : Ob) (b' q : Nat), m ≠ n → σ.L[m]? = some (j, x) → μ.loc j = some (b', q) → b' ≠ b := by
    rintro m j x b' q hne h1 h2 rfl
    exact hne (hi.inj m n j i x _ b' q 0 h1 hn h2 hl)
  refine ⟨ev, ⟨fun j us h => ?_, fun j es2 h => ?_, fun n1 m j k x y b p q h1 h2 h3 h4 => ?_, fun k hk => ?_, hi.rinj, hi.fin, fun b o h => ?_, fun j x b p h1 h2 => ?_⟩⟩
  · rcases set_mem hn h with ⟨rfl, h1⟩ | ⟨m, hne, h1⟩
    · cases h1
    · obtain ⟨b', p', c2, e2, h2, h3, h4, h5⟩ := hi.obj j us (List.mem_of_getElem? h1)
      have hne2 := hother m j _ b' p' hne h1 h2
      exact ⟨b', p', c2, e2, h2, by rw [setMap_ne hne2]; exact h3, h4, fun m t v h6 h7 => (h5 m t v h6 h7).ev ev⟩
  · rcases set_mem hn h with ⟨rfl, h1⟩ | ⟨m, hne, h1⟩
    · injection h1 with h1; subst h1
      exact ⟨b, en', cl', hl, hb1, hsz, fun m k u e h1 h2 => let ⟨h3, h4⟩ := hen m k u e h1 h2; ⟨h3.ev ev, h4.ev ev⟩⟩
    · obtain ⟨b', en2, cl2, h2, h3, h4, h5⟩ := hi.map j es2 (List.mem_of_getElem? h1)
      have hne2 := hother m j _ b' 0 hne h1 h2
      exact ⟨b', en2, cl2, h2, by rw [setMap_ne hne2]; exact h3, h4, fun m k u e' h6 h7 => let ⟨h8, h9⟩ := h5 m k u e' h6 h7; ⟨h8.ev ev, h9.ev ev⟩⟩
  · have old : ∀ (m j : Nat) (x : Ob), (σ.set n i (.map es')).L[m]? = some (j, x) → ∃ x', σ.L[m]? = some (j, x') := by
      intro m j x h
      simp only [St.set, List.getElem?_set] at h
      split at h
      · rename_i e; subst e
        rw [if_pos (Bt hn)] at h
        injection h with h; injection h with h1 h2; subst h1
        exact ⟨_, hn⟩
      · exact ⟨x, h⟩
    obtain ⟨x', h1'⟩ := old n1 j x h1
    obtain ⟨y', h2'⟩ := old m k y h2
    exact hi.inj n1 m j k x' y' b p q h1' h2' h3 h4
  · obtain ⟨b', f, t, h1, h2, h3⟩ := hi.room k hk
    refine ⟨b', f, t, h1, h2, fun hlt => ?_⟩
    obtain ⟨⟨c2, e2, h4, h5⟩, h6, h7⟩ := h3 hlt
    have hne : b' ≠ b := by rintro rfl; exact h6 i _ 0 hin hl
    refine ⟨⟨c2, e2, by rw [setMap_ne hne]; exact h4, h5⟩, fun j x q h8 h9 => ?_, h7⟩
    obtain ⟨x', h10⟩ := set_mem' hn h8
    exact h6 j x' q h10 h9
  · have := hi.offlt b o h; rw [setMap_size]; exact this
  · obtain ⟨x', h3⟩ := set_mem' hn h1
    exact hi.offobj j x' b p h3 h2

def findX (k : IntKind) (n : Int) : List (T × T) → Nat → Option (Option (Nat × T))
  | [], _ => some none
  | (.int k' m, u) :: es, i => cond (decide (k = k')) (cond (decide (n = m)) (some (some (i, u))) (findX k n es (i + 1))) none
  | _ :: _, _ => none
theorem findX_run {k k0 : IntKind} {n : Int} : ∀ (es : List (T × T)) (en : List MapEntry) (i : Nat) (r : Option (Nat × T)), findX k n es i = some r → en.length = es.length →
    (∀ (j : Nat) (x u : T) (e : MapEntry), es[j]? = some (x, u) → en[j]? = some e → Rel w μ σ e.key x ∧ Rel w μ σ e.val u) →
    match r with
    | none => Instr.findNow (.int k0) (.int k n) en i = some none
    | some (p, u) => i ≤ p ∧ ∃ e v, en[p - i]? = some e ∧ e.key = .int k n ∧ e.val = v ∧ Rel w μ σ v u ∧ es[p - i]? = some (.int k n, u) ∧ Instr.findNow (.int k0) (.int k n) en i = some (some (p, v))
  | [], en, i, r, h, hl, _ => by
    simp [findX] at h; subst h
    obtain rfl : en = [] := List.eq_nil_of_length_eq_zero (by simpa using hl)
    rfl
  | (x, u) :: es, en, i, r, h, hl, hr => by
    cases en with
    | nil => simp at hl
    | cons e en =>
      obtain ⟨r1, r2⟩ := hr 0 x u e rfl rfl
      cases x with
      | int k' m =>
        simp only [findX] at h
        by_cases hk : k = k'
        · subst hk
          simp only [decide_true, cond_true] at h
          generalize hek : e.key = ek at r1
          cases r1
          by_cases hn : n = m
          · subst hn
            simp only [decide_true, cond_true] at h
            injection h with h; subst h
            refine ⟨Nat.le_refl _, e, e.val, by simp, hek, rfl, r2, by simp, ?_⟩
            simp [Instr.findNow, hek, Instr.sameNow]
          · simp only [decide_eq_false hn, cond_false] at h
            have ih := findX_run (k0 := k0) es en (i + 1) r h (by simpa using hl) (fun j x u e h1 h2 => hr (j + 1) x u e (by simpa using h1) (by simpa using h2))
            have hf : Instr.findNow (.int k0) (.int k n) (e :: en) i = Instr.findNow (.int k0) (.int k n) en (i + 1) := by
              have hb : (n == m) = false := by simpa using hn
              simp [Instr.findNow, hek, Instr.sameNow, hb]
            cases r with
            | none => exact hf.trans ih
            | some q =>
              obtain ⟨p, v0⟩ := q
              obtain ⟨h1, e', v, h2, h3, h4, h5, h6, h7⟩ := ih
              refine ⟨by omega, e', v, by rw [show p - i = (p - (i + 1)) + 1 by omega]; simpa using h2, h3, h4, h5, by rw [show p - i = (p - (i + 1)) + 1 by omega]; simpa using h6, hf.trans h7⟩
        · simp [decide_eq_false hk] at h
      | _ => simp [findX] at h

theorem checkKey_int {b : Bool} {m : Nat} {t : TypeId} {ti : TI} {k k0 : IntKind} {n : Int} (hG : Fits P G) (ht : G t = some ti) (hd : ti.d = .int k0) : (Instr.checkKey b (m + 1) t (.int k n)).run P w = .ok () w := by
  obtain ⟨d, u, f⟩ := Bc (P := P) (w := w) hG ht
  rw [hd] at f; obtain rfl := td_int f
  simp [Instr.checkKey, u]

theorem aop_makeMap (hG : Fits P G) {o : Oper} {t : TypeId} {K : Env → St → Prop} (ho : o.op = .makeMap t none) (hd : A3 N o.dst = true)
    (k : ∀ i, (∀ n, σ.nx = some n → i = n) → K (put a o.dst (.map (some i))) (σ.new i (.map []))) : AOp P N o a σ K := by
  intro av w μ hi hr next Qc hn
  obtain ⟨i, f1, f2, f3, f4⟩ := hi.pick
  obtain ⟨ev, hi'⟩ := new_map_step hi f1 f2 f3 f4
  have hrun : (execOp av.eval o).run P w = .ok (.value (.map (some w.heap.size))) (w.alloc (.map #[] 0)) := by
    simp [execOp, ho, Instr.makeMap, newObj]
    rfl
  unfold Oper.wp
  rw [hrun]
  exact hn _ _ _ _ _ ev hi' ((hr.ev ev).put hd (.map _ _ 0 (Bl _ _))) (k i f3)

def foundX (z : T) : Option (Nat × T) → T
  | some (_, u) => u
  | none => z
theorem aop_lookup (hG : Fits P G) {o : Oper} {t kt et : TypeId} {x y : Operand} {ok : Bool} {ti tk te : TI} {k k0 : IntKind} {n : Int} {i : Nat} {es : List (T × T)} {r : Option (Nat × T)} {K : Env → St → Prop}
    (ho : o.op = .lookup t x y ok) (ht : G t = some ti) (htd : ti.d = .map kt et) (hk : G kt = some tk) (hkd : tk.d = .int k0) (he : G et = some te) (hx : Aj a x = some (.map (some i))) (hy : Aj a y = some (.int k n)) (hob : (i, .map es) ∈ σ.L)
    (hf : findX k n es 0 = some r) (hd : A3 N o.dst = true)
    (kk : K (put a o.dst (cond ok (.tup [foundX te.tree r, .bool r.isSome]) (foundX te.tree r))) σ) : AOp P N o a σ K := by
  intro av w μ hi hr next Qc hn
  obtain ⟨b, en, cl, hl, hc, hsz, hrel⟩ := hi.map i es hob
  obtain ⟨d1, u1, f1⟩ := Bc (P := P) (w := w) hG ht
  rw [htd] at f1; obtain rfl := td_map f1
  obtain ⟨d2, u2, f2⟩ := Bc (P := P) (w := w) hG hk
  rw [hkd] at f2; obtain rfl := td_int f2
  obtain ⟨z, uz, rz, hz1, hz2⟩ := g_zero (P := P) (w := w) (μ := μ) (σ := σ) hG he
  have rx := A2 hr hx
  have ry := A2 hr hy
  generalize hvx : av.eval x = vx at rx
  generalize hvy : av.eval y = vy at ry
  cases ry
  cases rx with
  | map i b' p hl' =>
  rw [hl] at hl'; injection hl' with hl'; injection hl' with e1 e2; subst e1
  have hget : (getObj b).run P w = .ok (.map en cl) w := by simp [getObj, Sem.run, hc]
  have hck : ∀ bb, (Instr.checkKey bb 10000 kt (.int k n)).run P w = .ok () w := fun bb => checkKey_int hG hk hkd
  have hfr := findX_run (w := w) (μ := μ) (σ := σ) (k0 := k0) es en.toList 0 r hf (by simpa using hsz) (fun j x u e h1 h2 => hrel j x u e h1 (by simpa using h2))
  have tupR : ∀ (v : Value) (u : T) (bb : Bool), Rel w μ σ v u → Rel w μ σ (.tuple #[v, .bool bb]) (.tup [u, .bool bb]) := by
    intro v u bb h
    refine .tup _ _ rfl fun j c v' h1 h2 => ?_
    match j with
    | 0 => simp at h1 h2; subst h1; subst h2; exact h
    | 1 => simp at h1 h2; subst h1; subst h2; exact .bool _
    | j + 2 => simp at h1
  obtain ⟨v, hv, rv⟩ : ∃ v, (Instr.lookup t (.map (some b)) (.int k n) ok).run P w = .ok v w ∧ Rel w μ σ v (cond ok (.tup [foundX te.tree r, .bool r.isSome]) (foundX te.tree r)) := by
    cases r with
    | none =>
      have hfk : (Instr.findKey kt (.int k n) en.toList).run P w = .ok none w := by simp [Instr.findKey, u2, hfr]
      cases ok
      · exact ⟨z, by unfold Instr.lookup; simp [u1, hget, hck, hfk, uz], rz⟩
      · exact ⟨_, by unfold Instr.lookup; simp [u1, hget, hck, hfk, uz], tupR _ _ _ rz⟩
    | some q =>
      obtain ⟨p, u⟩ := q
      obtain ⟨_, e', v, _, _, _, h5, _, h7⟩ := hfr
      have hfk : (Instr.findKey kt (.int k n) en.toList).run P w = .ok (some (p, v)) w := by simp [Instr.findKey, u2, h7]
      cases ok
      · exact ⟨v, by unfold Instr.lookup; simp [u1, hget, hck, hfk], h5⟩
      · exact ⟨_, by unfold Instr.lookup; simp [u1, hget, hck, hfk], tupR _ _ _ h5⟩
  have hrun : (execOp av.eval o).run P w = .ok (.value v) w := by
    simp [execOp, ho, hvx, hvy, hv]
  unfold Oper.wp
  rw [hrun]
  exact hn _ _ _ _ _ (.refl _ _ _) hi (hr.put hd rv) kk

def mapSet (k : IntKind) (n : Int) (u : T) (es : List (T × T)) : Option (Nat × T) → List (T × T)
  | some (p, _) => es.set p (.int k n, u)
  | none => es ++ [(.int k n, u)]

theorem aop_mapUpdate (hG : Fits P G) {o : Oper} {t kt et : TypeId} {m x y : Operand} {ti tk : TI} {k k0 : IntKind} {n : Int} {q i : Nat} {u : T} {es : List (T × T)} {r : Option (Nat × T)} {K : Env → St → Prop}
    (ho : o.op = .mapUpdate t m x y) (ht : G t = some ti) (htd : ti.d = .map kt et) (hk : G kt = some tk) (hkd : tk.d = .int k0) (hm : Aj a m = some (.map (some i))) (hx : Aj a x = some (.int k n)) (hy : Aj a y = some u)
    (hob : σ.L[q]? = some (i, .map es)) (hf : findX k n es 0 = some r) (hd : A3 N o.dst = true) (kk : K (put a o.dst (.tup [])) (σ.set q i (.map (mapSet k n u es r)))) : AOp P N o a σ K := by
  intro av w μ hi hr next Qc hn
  obtain ⟨b, en, cl, hl, hc, hsz, hrel⟩ := hi.map i es (List.mem_of_getElem? hob)
  obtain ⟨d1, u1, f1⟩ := Bc (P := P) (w := w) hG ht
  rw [htd] at f1; obtain rfl := td_map f1
  obtain ⟨d2, u2, f2⟩ := Bc (P := P) (w := w) hG hk
  rw [hkd] at f2; obtain rfl := td_int f2
  have rm := A2 hr hm
  have rx := A2 hr hx
  have ry := A2 hr hy
  generalize hvm : av.eval m = vm at rm
  generalize hvx : av.eval x = vx at rx
  generalize hvy : av.eval y = vy at ry
  cases rx
  cases rm with
  | map i b' p hl' =>
  rw [hl] at hl'; injection hl' with hl'; injection hl' with e1 e2; subst e1
  have hget : (getObj b).run P w = .ok (.map en cl) w := by simp [getObj, Sem.run, hc]
  have hset : ∀ en' cl', (setObj b (.map en' cl')).run P w = .ok () (setMap w b en' cl') := fun en' cl' => by simp [setObj, Sem.run, hc, setMap]
  have hck : (Instr.checkKey false 10000 kt (.int k n)).run P w = .ok () w := checkKey_int hG hk hkd
  have hfr := findX_run (w := w) (μ := μ) (σ := σ) (k0 := k0) es en.toList 0 r hf (by simpa using hsz) (fun j x u e h1 h2 => hrel j x u e h1 (by simpa using h2))
  obtain ⟨en', cl', hrun0, hsz', hen'⟩ : ∃ en' cl', (Instr.mapUpdate t (.map (some b)) (.int k n) vy).run P w = .ok () (setMap w b en' cl') ∧ en'.size = (mapSet k n u es r).length ∧
      ∀ (j : Nat) (x u' : T) (e : MapEntry), (mapSet k n u es r)[j]? = some (x, u') → en'[j]? = some e → Rel w μ σ e.key x ∧ Rel w μ σ e.val u' := by
    cases r with
    | none =>
      refine ⟨en.push { key := .int k n, val := vy, born := cl }, cl + 1, ?_, by simp [mapSet, hsz], fun j x u' e h1 h2 => ?_⟩
      · have hfk : (Instr.findKey kt (.int k n) en.toList).run P w = .ok none w := by simp [Instr.findKey, u2, hfr]
        unfold Instr.mapUpdate
        simp [u1, hget, hck, hfk, hset]
      · simp only [mapSet] at h1
        rcases Nat.lt_trichotomy j es.length with h | h | h
        · rw [List.getElem?_append_left h] at h1
          rw [Array.getElem?_push_lt (by omega)] at h2
          exact hrel j x u' e h1 (by rw [← h2]; simp [hsz, h])
        · subst h
          rw [List.getElem?_append_right (Nat.le_refl _)] at h1
          simp at h1
          obtain ⟨rfl, rfl⟩ := h1
          rw [← hsz, Array.getElem?_push_size] at h2
          injection h2 with h2; subst h2
          exact ⟨.int _ _, ry⟩
        · rw [List.getElem?_append_right (by omega)] at h1
          rw [List.getElem?_eq_none (by simp; omega)] at h1; cases h1
    | some pu =>
      obtain ⟨p, u0⟩ := pu
      obtain ⟨_, e', v, h2, h3, h4, h5, h6, h7⟩ := hfr
      simp only [Nat.sub_zero] at h2 h6
      have hp : p < es.length := Bt h6
      refine ⟨en.modify p fun e => { e with key := .int k n, val := vy }, cl, ?_, by simp [mapSet, hsz], fun j x u' e h8 h9 => ?_⟩
      · have hfk : (Instr.findKey kt (.int k n) en.toList).run P w = .ok (some (p, v)) w := by simp [Instr.findKey, u2, h7]
        have hk2 : ((en[p]?).map (·.key)).getD (.int k n) = .int k n := by
          have : en[p]? = some e' := by simpa using h2
          rw [this]; exact h3
        have hst : (Instr.keyThatStays (((en[p]?).map (·.key)).getD (.int k n)) (.int k n)).run P w = .ok (.int k n) w := by
          rw [hk2]
          have : Instr.sameBits 10000 (.int k n) (.int k n) = true := by simp [Instr.sameBits]
          simp [Instr.keyThatStays, this]
        unfold Instr.mapUpdate
        simp only [Sem.run_bind, u1, Result.andThen_ok, hget, hck, hfk, hst, hset]
      · simp only [mapSet, List.getElem?_set] at h8
        rw [Array.getElem?_modify] at h9
        by_cases e0 : p = j
        · subst e0
          rw [if_pos rfl, if_pos hp] at h8
          injection h8 with h8; injection h8 with h8 h10; subst h8; subst h10
          rw [if_pos rfl] at h9
          cases hq : en[p]? with
          | none => rw [hq] at h9; cases h9
          | some e1 => rw [hq] at h9; simp at h9; subst h9; exact ⟨.int _ _, ry⟩
        · rw [if_neg e0] at h8 h9
          exact hrel j x u' e h8 h9
  obtain ⟨ev, hi'⟩ := map_step (cl' := cl') hi hob hl hc hsz' hen'
  have hrun : (execOp av.eval o).run P w = .ok .skip (setMap w b en' cl') := by
    simp [execOp, ho, hvm, hvx, hvy, hrun0]
  unfold Oper.wp
  rw [hrun]
  exact hn _ _ _ _ _ ev hi' ((hr.ev ev).put hd (.tup [] #[] rfl fun j c v h1 h2 => by simp at h1)) kk

def mapDel (es : List (T × T)) : Option (Nat × T) → List (T × T)
  | some (p, _) => es.eraseIdx p
  | none => es
theorem aop_delete (hG : Fits P G) {o : Oper} {t t2 kt et : TypeId} {m x : Operand} {ti tk : TI} {k k0 : IntKind} {n : Int} {q i : Nat} {es : List (T × T)} {r : Option (Nat × T)} {K : Env → St → Prop}
    (ho : o.op = .call { callee := .builtin .delete, args := #[m, x], argTypes := #[t, t2] }) (ht : G t = some ti) (htd : ti.d = .map kt et) (hk : G kt = some tk) (hkd : tk.d = .int k0) (hm : Aj a m = some (.map (some i))) (hx : Aj a x = some (.int k n))
    (hob : σ.L[q]? = some (i, .map es)) (hf : findX k n es 0 = some r) (hd : A3 N o.dst = true) (kk : K (put a o.dst (.tup [])) (σ.set q i (.map (mapDel es r)))) : AOp P N o a σ K := by
  intro av w μ hi hr next Qc hn
  obtain ⟨b, en, cl, hl, hc, hsz, hrel⟩ := hi.map i es (List.mem_of_getElem? hob)
  obtain ⟨d1, u1, f1⟩ := Bc (P := P) (w := w) hG ht
  rw [htd] at f1; obtain rfl := td_map f1
  obtain ⟨d2, u2, f2⟩ := Bc (P := P) (w := w) hG hk
  rw [hkd] at f2; obtain rfl := td_int f2
  have rm := A2 hr hm
  have rx := A2 hr hx
  generalize hvm : av.eval m = vm at rm
  generalize hvx : av.eval x = vx at rx
  cases rx
  cases rm with
  | map i b' p hl' =>
  rw [hl] at hl'; injection hl' with hl'; injection hl' with e1 e2; subst e1
  have hget : (getObj b).run P w = .ok (.map en cl) w := by simp [getObj, Sem.run, hc]
  have hset : ∀ en' cl', (setObj b (.map en' cl')).run P w = .ok () (setMap w b en' cl') := fun en' cl' => by simp [setObj, Sem.run, hc, setMap]
  have hck : ∀ bb, (Instr.checkKey bb 10000 kt (.int k n)).run P w = .ok () w := fun bb => checkKey_int hG hk hkd
  have hfr := findX_run (w := w) (μ := μ) (σ := σ) (k0 := k0) es en.toList 0 r hf (by simpa using hsz) (fun j x u e h1 h2 => hrel j x u e h1 (by simpa using h2))
  obtain ⟨en', cl', hrun0, hsz', hen'⟩ : ∃ en' cl', (Builtin.delete_ #[t, t2] o.type #[.map (some b), .int k n]).run P w = .ok (.tuple #[]) (setMap w b en' cl') ∧ en'.size = (mapDel es r).length ∧
      ∀ (j : Nat) (x u' : T) (e : MapEntry), (mapDel es r)[j]? = some (x, u') → en'[j]? = some e → Rel w μ σ e.key x ∧ Rel w μ σ e.val u' := by
    cases r with
    | none =>
      refine ⟨en, cl, ?_, hsz, hrel⟩
      have hfk : (Instr.findKey kt (.int k n) en.toList).run P w = .ok none w := by simp [Instr.findKey, u2, hfr]
      simp [Builtin.delete_, u1, hget, hck, hfk, hset]
    | some pu =>
      obtain ⟨p, u0⟩ := pu
      obtain ⟨_, e', v, h2, h3, h4, h5, h6, h7⟩ := hfr
      simp only [Nat.sub_zero] at h2 h6
      have hp : p < es.length := Bt h6
      have hp' : p < en.size := by omega
      have hq : ∀ j, (en.eraseIdxIfInBounds p)[j]? = if j < p then en[j]? else en[j + 1]? := by
        intro j
        rw [Array.eraseIdxIfInBounds, dif_pos hp', Array.getElem?_eraseIdx]
      refine ⟨en.eraseIdxIfInBounds p, cl, ?_, ?_, fun j x u' e h8 h9 => ?_⟩
      · have hfk : (Instr.findKey kt (.int k n) en.toList).run P w = .ok (some (p, v)) w := by simp [Instr.findKey, u2, h7]
        simp [Builtin.delete_, u1, hget, hck, hfk, hset]
      · rw [Array.eraseIdxIfInBounds, dif_pos hp', Array.size_eraseIdx, mapDel, List.length_eraseIdx, if_pos hp, hsz]
      · rw [hq] at h9
        simp only [mapDel, List.getElem?_eraseIdx] at h8
        by_cases hj : j < p
        · rw [if_pos hj] at h8 h9; exact hrel j x u' e h8 h9
        · rw [if_neg hj] at h8 h9; exact hrel (j + 1) x u' e h8 h9
  obtain ⟨ev, hi'⟩ := map_step (cl' := cl') hi hob hl hc hsz' hen'
  have hrun : (execOp av.eval o).run P w = .ok (.value (.tuple #[])) (setMap w b en' cl') := by
    simp [execOp, ho, resolve, invoke, builtin, hvm, hvx, hrun0]
  unfold Oper.wp
  rw [hrun]
  exact hn _ _ _ _ _ ev hi' ((hr.ev ev).put hd (.tup [] #[] rfl fun j c v h1 h2 => by simp at h1)) kk
end
end Go.Ts
set_option linter.unusedVariables false
set_option linter.unusedSimpArgs false
namespace Go.Ts
section
variable {P : Program} {G : Nat → Option TI} {w w1 : World} {μ : Gh} {σ σ1 : St} {N : Nat} {a : Env} {Q : Exit → Env → St → Prop}

theorem aop_buildSliceL (hG : Fits P G) {o : Oper} {t : TypeId} {len e : Nat} {parts : Array (Nat × Operand)} {i ie : TI} {pt : List (Nat × T)} {K : Env → St → Prop}
    (ho : o.op = .buildSlice t len parts) (ht : G t = some i) (htd : i.d = .slice e) (he : G e = some ie) (hp : partsT a parts.toList = some pt)
    (hok : (decide (pt.map Prod.fst = List.range' 0 len) && Nat.beq pt.length len && (pt.all fun p => notRaw p.2 && Nat.beq p.2.cells.length ie.size) && Nat.ble (len * ie.size) 16777216 && Nat.blt 0 ie.size) = true) (hd : A3 N o.dst = true)
    (k : ∀ i', (∀ n, σ.nx = some n → i' = n) → K (put a o.dst (.aref ie.size i' 0 len (some len))) (σ.new i' (.cells (flat (pt.map Prod.snd))))) : AOp P N o a σ K := by
  intro av w μ hi hr next Qc hn
  simp only [Bool.and_eq_true, decide_eq_true_eq] at hok
  obtain ⟨⟨⟨⟨hok1, hok2⟩, hok3⟩, hok4⟩, hok5⟩ := hok
  have hok2 := Nat.eq_of_beq_eq_true hok2
  have hok4 := Nat.le_of_ble_eq_true hok4
  obtain ⟨d1, u1, f1⟩ := Bc (P := P) (w := w) hG ht
  rw [htd] at f1; obtain rfl := Bq f1
  have us := g_size (P := P) (w := w) hG he
  obtain ⟨z, uz, rz, hz1, hz2⟩ := g_zero (P := P) (w := w) (μ := μ) (σ := σ) hG he
  obtain ⟨hl, hrel⟩ := partsT_rel hr hp
  generalize hzero : (if len * ie.size = 0 then (#[] : Array Value) else z.cells) = zero
  have hzr : (if len * ie.size = 0 then (pure #[] : Sem (Array Value)) else do pure (← zeroValue e).cells).run P w = .ok zero w := by
    rw [← hzero]; split
    · rfl
    · simp [uz]
  generalize hcells : (Array.range (len * ie.size)).map (fun q => zero[q % zero.size]!) = cells
  have hcs : cells.size = len * ie.size := by rw [← hcells]; simp
  have hcr : CellsRel w μ σ cells (cells.toList.map T.raw) := by
    refine ⟨by simp, fun j c v h1 h2 => ?_⟩
    rw [List.getElem?_map, Array.getElem?_toList, h2] at h1
    simp at h1; subst h1; exact .raw v
  have hseq := treeFill_seq (sz := ie.size) pt (cells.toList.map T.raw) 0 (by rw [hok1, hok2]) hok3 (by simp [hcs, hok2])
  simp only [Nat.zero_mul, List.take_zero, List.nil_append] at hseq
  obtain ⟨cells', h1, h2, h3⟩ := fill_rel (place := fun j => some (j * ie.size, ie.size)) (parts.toList.map fun p => (p.1, av.eval p.2)) pt _ _ _ hcr (by simpa using hl)
    (fun j i i' v t h1 h2 => by obtain ⟨h3, h4⟩ := hrel j i i' v t h1 h2; exact ⟨h3, rfl, h4⟩) hseq
  have hrun : (execOp av.eval o).run P w = .ok (.value (.slice (some ⟨w.heap.size, 0, none⟩) len len)) (w.alloc (.cells cells' e)) := by
    have hle : ¬ (16777216 < len * ie.size) := by omega
    simp only [execOp, ho, Instr.buildSlice, Sem.run_bind, u1, us, Result.andThen_ok]
    simp [hle, us]
    by_cases hz0 : len * ie.size = 0
    · rw [if_pos hz0] at hzero ⊢
      have hce : Array.map (fun x => (default : Value)) (Array.range (len * ie.size)) = cells := by
        rw [← hcells, ← hzero]; simp
      rw [hce, h1]
      simp [newRow]
    · rw [if_neg hz0] at hzero ⊢
      simp only [uz, Result.andThen_ok, hzero, hcells, h1]
      simp [newRow]
  have hsized : sized ie.size (pt.map Prod.snd) := by
    intro j x hx
    rw [List.getElem?_map] at hx
    cases hj : pt[j]? with
    | none => simp [hj] at hx
    | some p =>
      simp [hj] at hx; subst hx
      have := List.all_eq_true.1 hok3 p (List.mem_of_getElem? hj)
      rw [Bool.and_eq_true] at this
      exact Nat.eq_of_beq_eq_true this.2
  have hfl := flat_length hsized
  have hlen : (pt.map Prod.snd).length = len := by simp [hok2]
  obtain ⟨i', f1', f2', f3', f4'⟩ := hi.pick
  have hcl : cells'.size = len * ie.size := by rw [h2, hfl, hlen]
  obtain ⟨ev, hi'⟩ := new_step hi cells' e f1' f2' f3' f4' (ts := flat (pt.map Prod.snd)) (by rw [h2]; exact Nat.le_refl _) (fun j c u hc hu => h3 j c u hc (by simpa using hu))
  unfold Oper.wp
  rw [hrun]
  exact hn _ _ _ _ _ ev hi' ((hr.ev ev).put hd (Rel.aref i' w.heap.size 0 0 len len ie.size (some len) (Bl _ _) (Nat.le_refl _) (fun x hx => by injection hx) ⟨_, e, _, heap_alloc_at w _, by rw [hcl]; simp⟩)) (k i' f3')
theorem aop_quietX (hG : Fits P G) {o : Oper} {t : T} {K : Env → St → Prop} {ρ : Operand → Option T} (hρ : ∀ x t, ρ x = some t → Aj a x = some t) (h : Br G (fun _ => none) ρ o.op = some t) (hd : A3 N o.dst = true) (k : K (put a o.dst t) σ) : AOp P N o a σ K := by
  intro av w μ hi hr next Qc hn
  obtain ⟨v, h1, h2⟩ := evalOp_run (P := P) hG hi (ρv := av.eval) (fun x t hx => A2 hr (hρ x t hx)) (objs := fun _ => none) (fun i o h => by cases h) h
  unfold Oper.wp
  rw [h1]
  exact hn _ _ _ _ _ (.refl _ _ _) hi (hr.put hd h2) k

theorem aop_app0L (hG : Fits P G) {o : Oper} {x y : Operand} {t1 t2 : TypeId} {e : Nat} {i1 i2 ie : TI} {ys : List T} {ty : T} {K : Env → St → Prop}
    (ho : o.op = .call { callee := .builtin .append, args := #[x, y], argTypes := #[t1, t2] }) (h1 : G t1 = some i1) (h1d : i1.d = .slice e) (he : G e = some ie) (h2 : G t2 = some i2) (h2d : ∃ e2, i2.d = .slice e2)
    (hx : Aj a x = some .nilsl) (hy : Aj a y = some ty) {objs : Nat → Option Ob} (hob : ∀ i o, objs i = some o → (i, o) ∈ σ.L) (hsrc : srcOf objs ie.size ty = some ys)
    (hsz : (Nat.blt 0 ie.size && Nat.ble ie.bytes 4096) = true) (hys : ys ≠ []) (hlen : ys.length ≤ 4294967296) (hd : A3 N o.dst = true)
    (k : ∀ i', (∀ n, σ.nx = some n → i' = n) → K (put a o.dst (.aref ie.size i' 0 ys.length none)) (σ.new i' (.cells (flat ys)))) : AOp P N o a σ K := by
  intro av w μ hi hr next Qc hn
  simp only [Bool.and_eq_true] at hsz
  have hsz0 : 0 < ie.size := by have := hsz.1; simpa [Nat.blt_eq] using this
  have hby := Nat.le_of_ble_eq_true hsz.2
  have hypos : 0 < ys.length := List.length_pos_iff.2 hys
  obtain ⟨e2, h2d⟩ := h2d
  have us := g_size (P := P) (w := w) hG he
  have rx := A2 hr hx
  have ry := A2 hr hy
  obtain ⟨s1, s2, vs, s3, s4, s5⟩ := srcOf_run (P := P) hi hob ry hsrc
  have hexec : (execOp av.eval o).run P w = ((Builtin.append_ #[t1, t2] o.type #[av.eval x, av.eval y]).run P w).andThen fun v w' => .ok (.value v) w' := by
    simp [execOp, ho, resolve, invoke, builtin]
  have hfl := flat_length s2
  obtain ⟨i', f1', f2', f3', f4'⟩ := hi.pick
  generalize hvx : av.eval x = vx at rx
  cases rx with
  | nilsl =>
  obtain ⟨info, ui, hib, his⟩ := g_info (P := P) (w := w) hG he
  have ui' : ∀ w, (typeInfo e).run P w = .ok info w := by
    intro w2
    obtain ⟨i0, d0, k1, k2, _⟩ := hG e ie he
    have e1 : (typeInfo e).run P w = .ok i0 w := by simp [typeInfo, k1]
    rw [ui] at e1; injection e1 with e1; subst e1
    simp [typeInfo, k1]
  obtain ⟨z, uz, rz, hz1, hz2⟩ := g_zero (P := P) (w := w) (μ := μ) (σ := σ) hG he
  have uz' : ∀ w, (zeroValue e).run P w = .ok z w := by
    intro w2
    obtain ⟨i0, d0, k1, k2, k3, k4, k5, k6, _⟩ := hG e ie he
    have e1 : ∀ w, (zeroValue e).run P w = .ok (if ie.d.agg then .agg (ie.zero.map Z.value).toArray else (ie.zero.headD .b).value) w := by
      intro w; simp only [zeroValue, typeInfo, Sem.run_bind, run_program, Result.andThen_ok, k1, k6, Sem.run_pure]
    rw [e1] at uz; injection uz with uz; rw [e1, uz]
  have u1' : ∀ w, (underlying t1).run P w = .ok (.slice e) w := by
    intro w2; obtain ⟨d, u, f⟩ := Bc (P := P) (w := w2) hG h1; rw [h1d] at f; obtain rfl := Bq f; exact u
  have u2' : ∀ w, (underlying t2).run P w = .ok (.slice e2) w := by
    intro w2; obtain ⟨d, u, f⟩ := Bc (P := P) (w := w2) hG h2; rw [h2d] at f; obtain rfl := Bq f; exact u
  obtain ⟨newCap, hnc, hrun⟩ := append_grow_run (P := P) (ty := o.type) (ie := info) (base := none) (sLen := 0) (sCap := 0) (vy := av.eval y) (old := #[]) (vs := vs) (n := ys.length) u1' u2' (fun w => by rw [his]; exact g_size hG he) ui' uz' s1 (by omega) (by omega) (by omega) (.inr trivial)
    rfl (by rw [his]; exact s3 w.drew rfl)
  simp only [Nat.zero_add, Array.empty_append] at hrun hnc
  have ev1 : Ev w μ σ w.drew μ σ := ev_same rfl rfl rfl rfl
  have hi1 : Inv w.drew μ σ := hi.ev_heap rfl ev1
  generalize hrest : Builtin.zeroCells z.cells (newCap - ys.length) = rest at hrun
  have hrs : rest.size = (newCap - ys.length) * ie.size := by rw [← hrest, zeroCells_size, hz1]
  have hcs : (vs ++ rest).size = newCap * ie.size := by
    rw [Array.size_append, s4, hfl, hrs, ← Nat.add_mul]
    congr 1; omega
  obtain ⟨ev3, i3⟩ := new_step hi1 (vs ++ rest) e f1' f2' f3' f4' (ts := flat ys) (by rw [hcs, hfl]; exact Nat.mul_le_mul_right _ hnc) (fun j t u hj hu => by
    rw [Nat.zero_add] at hu
    refine Rel.ev (w := w) ?_ ev1
    have h4 : j < (flat ys).length := Bt hj
    rw [Array.getElem?_append_left (by omega)] at hu
    exact s5 _ t u hj hu)
  have ev := ev1.trans ev3
  unfold Oper.wp
  rw [hexec, hvx, hrun]
  refine hn _ _ _ _ _ ev i3 ((hr.ev ev).put hd (Rel.aref i' w.heap.size 0 0 ys.length newCap ie.size none (Bl _ _) hnc (fun x hx => by cases hx) ⟨_, e, _, heap_alloc_at w.drew _, by rw [hcs]; simp⟩)) (k i' f3')

theorem aop_clear (hG : Fits P G) {o : Oper} {x : Operand} {t : TypeId} {el : Nat} {ti te : TI} {i p n m : Nat} {cap : Option Nat} {ts : List T} {K : Env → St → Prop}
    (ho : o.op = .call { callee := .builtin .clear, args := #[x], argTypes := #[t] }) (ht : G t = some ti) (htd : ti.d = .slice el) (he : G el = some te) (hs0 : 0 < te.size) (hx : Aj a x = some (.aref te.size i p n cap)) (hob : σ.L[m]? = some (i, .cells ts))
    (hz : te.zero.all (fun z => z.tree.scalar) = true) (hle : p + n * te.size ≤ ts.length) (hn0 : 0 < n) (hd : A3 N o.dst = true) (k : K (put a o.dst (.tup [])) (σ.set m i (.cells (stored ts (zerosT te n) p)))) : AOp P N o a σ K := by
  intro av w μ hi hr next Qc hn
  obtain ⟨d1, u1, f1⟩ := Bc (P := P) (w := w) hG ht
  rw [htd] at f1; obtain rfl := Bq f1
  obtain ⟨z, hzz, hz1, hz2, hz3⟩ := zeros_rel hG he hs0 n
  have rx := A2 hr hx
  obtain ⟨b, q, c, e, hl, hc, hlen, hrel⟩ := hi.obj i ts (List.mem_of_getElem? hob)
  generalize hvx : av.eval x = vx at rx
  cases rx with
  | aref i b' q' p n c0 sz cap hl' hnc hcap hbd =>
  rw [hl] at hl'; injection hl' with hl'; injection hl' with e1 e2; subst e1; subst e2
  generalize hcells : (Array.range (n * te.size)).map (fun q => z.cells[q % z.cells.size]!) = cells at hz3
  have hcs : cells.size = n * te.size := by rw [← hcells]; simp
  have hzc : Builtin.zeroCells z.cells n = cells := by
    rw [← hcells]; unfold Builtin.zeroCells; rw [hz1]
  have hone : ∀ v ∈ cells.toList, v.oneCell' = true := by
    intro v hv
    obtain ⟨j, hj, hjv⟩ := List.getElem_of_mem hv
    have hj' : j < (zerosT te n).length := by rw [Array.length_toList] at hj; omega
    refine (hz3 w μ σ j (zerosT te n)[j] v (List.getElem?_eq_getElem hj') ?_).scalar ?_
    · rw [← hjv]; simp
    · have hm : (zerosT te n)[j] ∈ zerosT te n := List.getElem_mem hj'
      have hall : ∀ t ∈ zerosT te n, t.scalar = true := by
        intro t ht
        unfold zerosT at ht
        rw [List.mem_flatMap] at ht
        obtain ⟨y, hy, hty⟩ := ht
        rw [List.mem_replicate] at hy
        obtain ⟨_, rfl⟩ := hy
        unfold TI.tree at hty
        split at hty
        · simp only [T.cells, List.mem_map] at hty
          obtain ⟨zz, hzz1, rfl⟩ := hty
          exact List.all_eq_true.1 hz zz hzz1
        · have hc1 : ∀ zz : Z, zz.tree.cells = [zz.tree] ∧ zz.tree.scalar = true := by intro zz; cases zz <;> exact ⟨rfl, rfl⟩
          rw [(hc1 _).1, List.mem_singleton] at hty
          rw [hty]; exact (hc1 _).2
      exact hall _ hm
  have hst := run_storeCells_at (P := P) b (q + p) e cells.toList 0 c w hc (by rw [Array.length_toList]; omega) hone
  generalize hc' : (c.toList.take (q + p + 0) ++ cells.toList ++ c.toList.drop (q + p + 0 + cells.toList.length)).toArray = c' at hst
  have hrun : (execOp av.eval o).run P w = .ok (.value (.tuple #[])) (w.setRow b c') := by
    have : (Builtin.clear_ #[t] o.type #[.slice (some ⟨b, q + p, none⟩) n c0]).run P w = .ok (.tuple #[]) (w.setRow b c') := by
      obtain ⟨n', rfl⟩ : ∃ n', n = n' + 1 := ⟨n - 1, by omega⟩
      simp [Builtin.clear_, u1, hzz, hzc]
      try simp at hst
      simp [hst]
    simp [execOp, ho, resolve, invoke, builtin, hvx, this]
  have hc'size : c'.size = c.size := by rw [← hc']; simp; omega
  have hle' : p + (zerosT te n).length ≤ ts.length := by rw [hz2]; exact hle
  have ev : Ev w μ σ (w.setRow b c') μ (σ.set m i (.cells (stored ts (zerosT te n) p))) := set_ev hi hob hl hc hc'size
  have hi' : Inv (w.setRow b c') μ (σ.set m i (.cells (stored ts (zerosT te n) p))) := by
    refine set_inv hi hob hl hc hc'size (by rw [stored_length hle']; omega) fun j t' v hj hv' => ?_
    rw [← hc'] at hv'
    simp only [Nat.add_zero, List.getElem?_toArray] at hv'
    rw [stored_get hle'] at hj
    have hl2 : (c.toList.take (q + p)).length = q + p := by simp; omega
    rw [List.append_assoc] at hv'
    rcases Nat.lt_or_ge j p with h | h
    · rw [if_neg (by omega)] at hj
      rw [List.getElem?_append_left (by omega), List.getElem?_take, if_pos (by omega)] at hv'
      exact hrel j t' v hj (by simpa using hv')
    · rw [List.getElem?_append_right (by omega), hl2, show q + j - (q + p) = j - p by omega] at hv'
      by_cases h2 : j < p + (zerosT te n).length
      · rw [if_pos ⟨h, h2⟩] at hj
        rw [List.getElem?_append_left (by rw [Array.length_toList]; omega)] at hv'
        exact hz3 w μ σ _ t' v hj (by simpa using hv')
      · rw [if_neg (by omega)] at hj
        rw [List.getElem?_append_right (by rw [Array.length_toList]; omega), List.getElem?_drop, Array.length_toList] at hv'
        rw [show q + p + cells.size + (j - p - cells.size) = q + j by omega] at hv'
        exact hrel j t' v hj (by simpa using hv')
  unfold Oper.wp
  rw [hrun]
  exact hn _ _ _ _ _ ev hi' ((hr.ev ev).put hd (.tup [] #[] rfl fun j c v h1 h2 => by simp at h1)) k

end
end Go.Ts
set_option linter.unusedVariables false
set_option linter.unusedSimpArgs false
namespace Go.Ts

def HS.new (h : HS) (o : HO) : HS := ⟨h.L.set h.nx o, h.R, h.nx + 1⟩
def thOf (cs : List T) : HO := .th cs.length cs.length cs .leaf
theorem thOf_ok (cs : List T) : ThOK cs.length cs .leaf cs := by
  intro j t h
  simp only [cellX, Tr.get] at h
  cases hb : Nat.blt j cs.length with
  | false => rw [hb] at h; cases h
  | true =>
    rw [hb, cond_true] at h
    rw [Nat.blt_eq] at hb
    rwa [Nat.mod_eq_of_lt hb] at h

theorem Tr.get_up_none {α : Type} : ∀ (f : Nat) (t : Tr α) (i : Nat) (x : Option α) (j : Nat), i + 1 < 2 ^ f → (Tr.up f t i x).get j = none → (j = i ∧ x = none) ∨ (j ≠ i ∧ t.get j = none)
  | 0, t, i, x, j, hf, h => by simp at hf
  | f + 1, t, i, x, j, hf, h => by
    have hf' : i + 1 < 2 * 2 ^ f := by rw [Nat.pow_succ, Nat.mul_comm] at hf; exact hf
    simp only [Tr.up] at h
    rw [Tr.get_parts t j]
    by_cases hi : i = 0
    · subst hi
      simp only [Nat.beq_refl, cond_true, Tr.get] at h
      by_cases hj : j = 0
      · subst hj; simp at h; exact .inl ⟨rfl, h⟩
      · rw [beqF hj] at h ⊢; exact .inr ⟨hj, h⟩
    · rw [beqF hi, cond_false] at h
      by_cases hp : i % 2 = 1
      · rw [hp, Nat.beq_refl, cond_true] at h
        simp only [Tr.get] at h
        by_cases hj : j = 0
        · subst hj; simp only [Nat.beq_refl, cond_true] at h ⊢; exact .inr ⟨fun e => hi e.symm, h⟩
        · rw [beqF hj, cond_false] at h ⊢
          by_cases hq : j % 2 = 1
          · rw [hq, Nat.beq_refl, cond_true] at h ⊢
            rcases Tr.get_up_none f _ _ _ _ (by omega) h with ⟨h1, h2⟩ | ⟨h1, h2⟩
            · exact .inl ⟨by omega, h2⟩
            · exact .inr ⟨fun e => h1 (by rw [e]), h2⟩
          · rw [beqF hq, cond_false] at h ⊢
            exact .inr ⟨fun e => hq (by rw [e]; exact hp), h⟩
      · rw [beqF hp, cond_false] at h
        simp only [Tr.get] at h
        by_cases hj : j = 0
        · subst hj; simp only [Nat.beq_refl, cond_true] at h ⊢; exact .inr ⟨fun e => hi e.symm, h⟩
        · rw [beqF hj, cond_false] at h ⊢
          by_cases hq : j % 2 = 1
          · rw [hq, Nat.beq_refl, cond_true] at h ⊢
            exact .inr ⟨fun e => hp (by rw [← e]; exact hq), h⟩
          · rw [beqF hq, cond_false] at h ⊢
            rcases Tr.get_up_none f _ _ _ _ (by omega) h with ⟨h1, h2⟩ | ⟨h1, h2⟩
            · exact .inl ⟨by omega, h2⟩
            · exact .inr ⟨fun e => h1 (by rw [e]), h2⟩
def far40 : Nat := 1000000000000
theorem get_setCells_none : ∀ (l : List T) (ov : Tr T) (p j : Nat), p + l.length ≤ far40 → (setCells ov p l).get j = none → (j < p ∨ p + l.length ≤ j) ∧ ov.get j = none
  | [], ov, p, j, hf, h => ⟨by simp; omega, h⟩
  | x :: l, ov, p, j, hf, h => by
    have hf2 : p + (l.length + 1) ≤ 1000000000000 := by simpa [far40] using hf
    obtain ⟨h1, h2⟩ := get_setCells_none l _ (p + 1) j (by show p + 1 + l.length ≤ 1000000000000; omega) h
    rcases Tr.get_up_none 40 _ _ _ _ (by
      show p + 1 < 2 ^ 40
      have : (2 : Nat) ^ 40 = 1099511627776 := by decide
      omega) h2 with ⟨h3, h4⟩ | ⟨h3, h4⟩
    · cases h4
    · exact ⟨by simp; omega, h4⟩
theorem ThOK.stored {zn : Nat} {z : List T} {ov : Tr T} {ts : List T} (h : ThOK zn z ov ts) {p : Nat} {cs : List T} (hp : p + cs.length ≤ ts.length) (hf : p + cs.length ≤ far40) : ThOK zn z (setCells ov p cs) (stored ts cs p) := by
  intro j t hj
  rw [stored_get hp]
  unfold cellX at hj
  cases hg : (setCells ov p cs).get j with
  | some u =>
    rw [hg] at hj; injection hj with hj; subst hj
    rcases get_setCells cs ov p j u hg with ⟨h1, h2⟩ | ⟨h1, h2⟩
    · rw [if_pos ⟨h1, by have := Bt h2; omega⟩]; exact h2
    · rw [if_neg (by omega)]; exact h j u (by rw [cellX, h2])
  | none =>
    rw [hg] at hj
    obtain ⟨h1, h2⟩ := get_setCells_none cs ov p j hf hg
    rw [if_neg (by omega)]
    exact h j t (by rw [cellX, h2]; exact hj)
theorem ThOK.append {zn : Nat} {z : List T} {ov : Tr T} {ts : List T} (h : ThOK zn z ov ts) {cs : List T} (hf : ts.length + cs.length ≤ far40) : ThOK zn z (setCells ov ts.length cs) (ts ++ cs) := by
  intro j t hj
  unfold cellX at hj
  have old : cellX zn z ov j = some t → (ts ++ cs)[j]? = some t := by
    intro h0
    have h1 := h j t h0
    rw [List.getElem?_append_left (Bt h1)]; exact h1
  cases hg : (setCells ov ts.length cs).get j with
  | some u =>
    rw [hg] at hj; injection hj with hj; subst hj
    rcases get_setCells cs ov _ j u hg with ⟨h1, h2⟩ | ⟨h1, h2⟩
    · rw [List.getElem?_append_right h1]; exact h2
    · exact old (by rw [cellX, h2])
  | none =>
    rw [hg] at hj
    obtain ⟨h1, h2⟩ := get_setCells_none cs ov _ j hf hg
    exact old (by rw [cellX, h2]; exact hj)

section
variable {σ : St} {h : HS}
theorem mem_set_ne {q i j : Nat} {o o' x : Ob} (hq : σ.L[q]? = some (i, o)) (hj : (j, x) ∈ σ.L) (hne : j ≠ i) : (j, x) ∈ (σ.set q i o').L := by
  obtain ⟨m, hm⟩ := List.getElem?_of_mem hj
  have : m ≠ q := by rintro rfl; rw [hq] at hm; injection hm with hm; injection hm with hm; exact hne hm.symm
  refine List.mem_of_getElem? (i := m) ?_
  simp only [St.set, List.getElem?_set]
  rw [if_neg (fun e => this e.symm)]; exact hm
theorem mem_set_self {q i : Nat} {o o' : Ob} (hq : σ.L[q]? = some (i, o)) : (i, o') ∈ (σ.set q i o').L := by
  refine List.mem_of_getElem? (i := q) ?_
  simp only [St.set, List.getElem?_set]
  simp [Bt hq]
theorem mem_era_ne {q i j : Nat} {o x : Ob} (hq : σ.L[q]? = some (i, o)) (hj : (j, x) ∈ σ.L) (hne : j ≠ i) : (j, x) ∈ (σ.era q).L := by
  obtain ⟨m, hm⟩ := List.getElem?_of_mem hj
  have hmq : m ≠ q := by rintro rfl; rw [hq] at hm; injection hm with hm; injection hm with hm; exact hne hm.symm
  rcases Nat.lt_or_ge m q with h | h
  · refine List.mem_of_getElem? (i := m) ?_
    simp only [St.era, List.getElem?_eraseIdx]
    rw [if_pos h]; exact hm
  · refine List.mem_of_getElem? (i := m - 1) ?_
    simp only [St.era, List.getElem?_eraseIdx]
    rw [if_neg (by omega), show m - 1 + 1 = m by omega]; exact hm

theorem HCov.newTh (c : HCov σ h) {ts : List T} {n zn : Nat} {z : List T} {ov : Tr T} (hn : ts.length = n) (hok : ThOK zn z ov ts) : HCov (σ.new h.nx (.cells ts)) (h.new (.th n zn z ov)) := by
  refine ⟨fun i n' zn' z' ov' hi => ?_, fun i es hi => ?_, fun k u hk => c.room k u hk, by simp [St.new, HS.new, c.nx]⟩
  · rcases Tr.get_set hi with ⟨h1, h2⟩ | ⟨h1, h2⟩
    · injection h2 with h2 h3 h4 h5; subst h1; subst h2; subst h3; subst h4; subst h5
      exact ⟨ts, by simp [St.new], hn, hok⟩
    · obtain ⟨us, h3, h4⟩ := c.th i n' zn' z' ov' h2
      exact ⟨us, List.mem_cons_of_mem _ h3, h4⟩
  · rcases Tr.get_set hi with ⟨h1, h2⟩ | ⟨h1, h2⟩
    · cases h2
    · exact List.mem_cons_of_mem _ (c.mp i es h2)
theorem HCov.newMp (c : HCov σ h) {es : List (T × T)} : HCov (σ.new h.nx (.map es)) (h.new (.mp es)) := by
  refine ⟨fun i n' zn' z' ov' hi => ?_, fun i es hi => ?_, fun k u hk => c.room k u hk, by simp [St.new, HS.new, c.nx]⟩
  · rcases Tr.get_set hi with ⟨h1, h2⟩ | ⟨h1, h2⟩
    · cases h2
    · obtain ⟨us, h3, h4⟩ := c.th i n' zn' z' ov' h2
      exact ⟨us, List.mem_cons_of_mem _ h3, h4⟩
  · rcases Tr.get_set hi with ⟨h1, h2⟩ | ⟨h1, h2⟩
    · injection h2 with h2; subst h1; subst h2; simp [St.new]
    · exact List.mem_cons_of_mem _ (c.mp i es h2)
theorem HCov.setTh (c : HCov σ h) {q i : Nat} {o : Ob} (hq : σ.L[q]? = some (i, o)) {ts : List T} {n zn : Nat} {z : List T} {ov : Tr T} (hn : ts.length = n) (hok : ThOK zn z ov ts) : HCov (σ.set q i (.cells ts)) { h with L := h.L.set i (.th n zn z ov) } := by
  refine ⟨fun j n' zn' z' ov' hi => ?_, fun j es hi => ?_, fun k u hk => c.room k u hk, c.nx⟩
  · rcases Tr.get_set hi with ⟨h1, h2⟩ | ⟨h1, h2⟩
    · injection h2 with h2 h3 h4 h5; subst h1; subst h2; subst h3; subst h4; subst h5
      exact ⟨ts, mem_set_self hq, hn, hok⟩
    · obtain ⟨us, h3, h4⟩ := c.th j n' zn' z' ov' h2
      exact ⟨us, mem_set_ne hq h3 h1, h4⟩
  · rcases Tr.get_set hi with ⟨h1, h2⟩ | ⟨h1, h2⟩
    · cases h2
    · exact mem_set_ne hq (c.mp j es h2) h1
theorem HCov.setMp (c : HCov σ h) {q i : Nat} {o : Ob} (hq : σ.L[q]? = some (i, o)) {es : List (T × T)} : HCov (σ.set q i (.map es)) { h with L := h.L.set i (.mp es) } := by
  refine ⟨fun j n' zn' z' ov' hi => ?_, fun j es hi => ?_, fun k u hk => c.room k u hk, c.nx⟩
  · rcases Tr.get_set hi with ⟨h1, h2⟩ | ⟨h1, h2⟩
    · cases h2
    · obtain ⟨us, h3, h4⟩ := c.th j n' zn' z' ov' h2
      exact ⟨us, mem_set_ne hq h3 h1, h4⟩
  · rcases Tr.get_set hi with ⟨h1, h2⟩ | ⟨h1, h2⟩
    · injection h2 with h2; subst h1; subst h2; exact mem_set_self hq
    · exact mem_set_ne hq (c.mp j es h2) h1
theorem HCov.eraNew (c : HCov σ h) {q i : Nat} {o : Ob} (hq : σ.L[q]? = some (i, o)) {ts : List T} {n zn : Nat} {z : List T} {ov : Tr T} (hn : ts.length = n) (hok : ThOK zn z ov ts) : HCov ((σ.era q).new h.nx (.cells ts)) ⟨(h.L.del i).set h.nx (.th n zn z ov), h.R, h.nx + 1⟩ := by
  refine ⟨fun j n' zn' z' ov' hi => ?_, fun j es hi => ?_, fun k u hk => c.room k u hk, by simp [St.new, St.era, c.nx]⟩
  · rcases Tr.get_set hi with ⟨h1, h2⟩ | ⟨h1, h2⟩
    · injection h2 with h2 h3 h4 h5; subst h1; subst h2; subst h3; subst h4; subst h5
      exact ⟨ts, by simp [St.new], hn, hok⟩
    · obtain ⟨h3, h4⟩ := Tr.get_del h2
      obtain ⟨us, h5, h6⟩ := c.th j n' zn' z' ov' h4
      exact ⟨us, List.mem_cons_of_mem _ (mem_era_ne hq h5 h3), h6⟩
  · rcases Tr.get_set hi with ⟨h1, h2⟩ | ⟨h1, h2⟩
    · cases h2
    · obtain ⟨h3, h4⟩ := Tr.get_del h2
      exact List.mem_cons_of_mem _ (mem_era_ne hq (c.mp j es h4) h3)
theorem HCov.setT (c : HCov σ h) {n k0 : Nat} (hn : σ.R[n]? = some k0) : HCov (σ.setT n h.nx) ⟨h.L, (h.R.del k0).set h.nx (), h.nx + 1⟩ := by
  refine ⟨c.th, c.mp, fun k u hk => ?_, by simp [St.setT, c.nx]⟩
  rcases Tr.get_set hk with ⟨h1, _⟩ | ⟨h1, h2⟩
  · subst h1
    refine List.mem_of_getElem? (i := n) ?_
    simp only [St.setT, List.getElem?_set]
    simp [Bt hn]
  · obtain ⟨h3, h4⟩ := Tr.get_del h2
    obtain ⟨m, hm⟩ := List.getElem?_of_mem (c.room k u h4)
    have hmn : n ≠ m := by rintro rfl; rw [hn] at hm; injection hm with hm; exact h3 hm.symm
    refine List.mem_of_getElem? (i := m) ?_
    simp only [St.setT, List.getElem?_set]
    rw [if_neg hmn]; exact hm
end

def only (i : Nat) (ts : List T) (j : Nat) : Option Ob := cond (Nat.beq j i) (some (.cells ts)) none
theorem only_self {i : Nat} {ts : List T} : only i ts i = some (.cells ts) := by simp [only]
theorem only_mem {σ : St} {i : Nat} {ts : List T} (h : (i, .cells ts) ∈ σ.L) (j : Nat) (o : Ob) (hj : only i ts j = some o) : (j, o) ∈ σ.L := by
  unfold only at hj
  by_cases e : j = i
  · subst e; simp at hj; subst hj; exact h
  · rw [beqF e] at hj; cases hj
def srcX (h : HS) (sz : Nat) : T → Option (List T)
  | .sl sz' _ ys => cond (Nat.beq sz' sz) (some ys) none
  | .nilsl => some []
  | .aref sz' i o n _ => cond (Nat.beq sz' sz) (match h.L.get i with
    | some (.th nt zn z ov) => cond (Nat.ble (o + n * sz) nt) (match cellsX zn z ov o (n * sz) with
      | some cs => cond (cs.all T.scalar) (some (chunks sz n cs)) none
      | none => none) none
    | _ => none) none
  | _ => none
theorem srcX_of {σ : St} {h : HS} (c : HCov σ h) {sz : Nat} {t : T} {ys : List T} (hs : srcX h sz t = some ys) : ∃ objs : Nat → Option Ob, (∀ i o, objs i = some o → (i, o) ∈ σ.L) ∧ srcOf objs sz t = some ys := by
  unfold srcX at hs
  split at hs
  · exact ⟨fun _ => none, (fun i o h => by cases h), hs⟩
  · exact ⟨fun _ => none, (fun i o h => by cases h), hs⟩
  · rename_i sz' i o n cp
    cases hb : Nat.beq sz' sz with
    | false => rw [hb] at hs; cases hs
    | true =>
      rw [hb, cond_true] at hs
      split at hs
      · rename_i nt zn z ov hg
        obtain ⟨ts, h1, h2, h3⟩ := c.th i nt zn z ov hg
        cases hle : Nat.ble (o + n * sz) nt with
        | false => rw [hle] at hs; cases hs
        | true =>
          rw [hle, cond_true] at hs
          split at hs
          · rename_i cs hcs
            cases hsc : cs.all T.scalar with
            | false => rw [hsc] at hs; cases hs
            | true =>
              rw [hsc, cond_true] at hs
              have hle' := Nat.le_of_ble_eq_true hle
              refine ⟨only i ts, only_mem h1, ?_⟩
              · have hcs' : (ts.drop o).take (n * sz) = cs := by
                  rcases Nat.eq_zero_or_pos (n * sz) with h0 | h0
                  · have hl0 := (cellsX_take h3 _ _ _ hcs).1
                    rw [h0] at hl0 ⊢; rw [List.eq_nil_of_length_eq_zero hl0]; simp
                  · exact (cellsX_eq h3 hcs h0).2
                have hb2 : Nat.ble (o + n * sz) ts.length = true := by rw [h2]; exact hle
                simp only [srcOf, hb, cond_true, only_self, hcs', hb2, hsc, Bool.true_and, Bool.and_self]
                exact hs
          · cases hs
      · cases hs
  · cases hs

def readX (G : Nat → Option TI) (h : HS) (ty i p : Nat) : Option T :=
  match h.L.get i with
  | some (.th _ zn z ov) => match G ty with
    | some ti => cond ti.d.agg (cond (Nat.blt 0 ti.size) ((cellsX zn z ov p ti.size).map .agg) none) (cellX zn z ov p)
    | none => none
  | _ => none
theorem readX_ok {G : Nat → Option TI} {σ : St} {h : HS} (c : HCov σ h) {ty i p : Nat} {t : T} (hr : readX G h ty i p = some t) : ∃ ts, (i, .cells ts) ∈ σ.L ∧ readT G ty ts p = some t := by
  unfold readX at hr
  split at hr
  · rename_i nt zn z ov hg
    obtain ⟨ts, h1, h2, h3⟩ := c.th i nt zn z ov hg
    refine ⟨ts, h1, ?_⟩
    split at hr
    · rename_i ti hti
      simp only [readT, hti]
      cases ha : ti.d.agg with
      | true =>
        rw [ha, cond_true] at hr
        rw [cond_true]
        cases hb : Nat.blt 0 ti.size with
        | false => rw [hb] at hr; cases hr
        | true =>
          rw [hb, cond_true] at hr
          cases hc : cellsX zn z ov p ti.size with
          | none => rw [hc] at hr; cases hr
          | some cs =>
            rw [hc] at hr
            obtain ⟨h4, h5⟩ := cellsX_eq h3 hc (by rwa [Nat.blt_eq] at hb)
            rw [Nat.ble_eq_true_of_le h4, cond_true, h5]; exact hr
      | false =>
        rw [ha, cond_false] at hr
        rw [cond_false]
        exact h3 p t hr
    · cases hr
  · cases hr

def heapX (G : Nat → Option TI) (e : Tr T) (h : HS) (op : Op) : Option T :=
  match op with
  | .load ty x => match evX e x with
    | some (.ptr i p) => readX G h ty i p
    | _ => none
  | .convert src dst x => match evX e x, G src, G dst with
    | some (.aref 1 i o n _), some { d := .slice el, .. }, some { d := .str, .. } => match G el, h.L.get i with
      | some { d := .int .u8, .. }, some (.th nt zn z ov) => cond (Nat.ble (o + n) nt) (match cellsX zn z ov o n with
        | some cs => (bytesOf cs).map .str
        | none => none) none
      | _, _ => none
    | _, _, _ => none
  | .build t parts => match G t, partsX e parts.toList with
    | some ti, some pt => cond (placesOk G ti) ((treeFill (placeOf G ti) (ti.zero.map Z.tree) pt).map .agg) none
    | _, _ => none
  | .lookup t x y ok => match evX e x, evX e y, G t with
    | some (.map (some i)), some (.int k n), some { d := .map kt et, .. } => match G kt, G et, h.L.get i with
      | some { d := .int _, .. }, some te, some (.mp es) => match findX k n es 0 with
        | some r => some (cond ok (.tup [foundX te.tree r, .bool r.isSome]) (foundX te.tree r))
        | none => none
      | _, _, _ => none
    | _, _, _ => none
  | .index t x i => match evX e x, evX e i, G t with
    | some (.str s), some (.int _ n), some { d := .str, .. } => cond (decide (0 ≤ n)) ((s[n.toNat]?).map fun b => .int .u8 b.toNat) none
    | _, _, _ => none
  | .call ⟨.builtin .max, ⟨[x, y]⟩, _⟩ => match evX e x, evX e y with
    | some (.int k m), some (.int l n) => cond (decide (k = l)) (some (.int k (cond (decide (m < n)) n m))) none
    | _, _ => none
  | .call ⟨.builtin .min, ⟨[x, y]⟩, _⟩ => match evX e x, evX e y with
    | some (.int k m), some (.int l n) => cond (decide (k = l)) (some (.int k (cond (decide (n < m)) n m))) none
    | _, _ => none
  | _ => none
def immX (G : Nat → Option TI) (e : Tr T) (op : Op) : Option T :=
  match op with
  | .buildSlice t len parts => match G t, partsX e parts.toList with
    | some { d := .slice el, .. }, some pt => match G el with
      | some ie => cond (decide (pt.map Prod.fst = List.range' 0 len) && Nat.beq pt.length len && (pt.all fun p => notRaw p.2 && Nat.beq p.2.cells.length ie.size) && Nat.ble (len * ie.size) 16777216 && Nat.blt 0 ie.size)
        (some (.sl ie.size .full (pt.map Prod.snd))) none
      | none => none
    | _, _ => none
  | .makeSlice t x y => match G t, evX e x, evX e y with
    | some { d := .slice el, .. }, some (.int _ n), some (.int _ m) => match G el with
      | some te => cond (decide (n = m) && decide (0 ≤ n) && decide (n ≤ 4294967296) && (Nat.blt 0 te.size && Nat.ble te.bytes 4096))
          (some (.sl te.size .full (List.replicate n.toNat te.tree))) none
      | none => none
    | _, _, _ => none
  | _ => none

section
variable {P : Program} {G : Nat → Option TI} {σ : St} {h : HS} {N : Nat} {a : Env} {e : Tr T}

theorem aop_quietO (hG : Fits P G) {o : Oper} {t : T} {K : Env → St → Prop} {ρ : Operand → Option T} (hρ : ∀ x t, ρ x = some t → Aj a x = some t) {objs : Nat → Option Ob} (hob : ∀ i o, objs i = some o → (i, o) ∈ σ.L)
    (h : Br G objs ρ o.op = some t) (hd : A3 N o.dst = true) (k : K (put a o.dst t) σ) : AOp P N o a σ K := by
  intro av w μ hi hr next Qc hn
  obtain ⟨v, h1, h2⟩ := evalOp_run (P := P) hG hi (ρv := av.eval) (fun x t hx => A2 hr (hρ x t hx)) (objs := objs) hob h
  unfold Oper.wp
  rw [h1]
  exact hn _ _ _ _ _ (.refl _ _ _) hi (hr.put hd h2) k

theorem aop_max2 (hG : Fits P G) {o : Oper} {x y : Operand} {tys : Array TypeId} {k : IntKind} {m n : Int} {K : Env → St → Prop} (hop : o.op = .call ⟨.builtin .max, ⟨[x, y]⟩, tys⟩) (hx : Aj a x = some (.int k m)) (hy : Aj a y = some (.int k n)) (hd : A3 N o.dst = true)
    (kk : K (put a o.dst (.int k (cond (decide (m < n)) n m))) σ) : AOp P N o a σ K := by
  intro av w μ hi hr next Qc hnx
  have rx := A2 hr hx
  have ry := A2 hr hy
  generalize hvx : av.eval x = vx at rx
  generalize hvy : av.eval y = vy at ry
  cases rx; cases ry
  have hrun : (execOp av.eval o).run P w = .ok (.value (.int k (cond (decide (m < n)) n m))) w := by
    simp [execOp, hop, resolve, invoke, builtin, Builtin.max_, Builtin.max2, hvx, hvy]
    try (by_cases h : m < n <;> simp [h])
  unfold Oper.wp
  rw [hrun]
  exact hnx _ _ _ _ _ (.refl _ _ _) hi (hr.put hd (.int _ _)) kk
theorem aop_min2 (hG : Fits P G) {o : Oper} {x y : Operand} {tys : Array TypeId} {k : IntKind} {m n : Int} {K : Env → St → Prop} (hop : o.op = .call ⟨.builtin .min, ⟨[x, y]⟩, tys⟩) (hx : Aj a x = some (.int k m)) (hy : Aj a y = some (.int k n)) (hd : A3 N o.dst = true)
    (kk : K (put a o.dst (.int k (cond (decide (n < m)) n m))) σ) : AOp P N o a σ K := by
  intro av w μ hi hr next Qc hnx
  have rx := A2 hr hx
  have ry := A2 hr hy
  generalize hvx : av.eval x = vx at rx
  generalize hvy : av.eval y = vy at ry
  cases rx; cases ry
  have hrun : (execOp av.eval o).run P w = .ok (.value (.int k (cond (decide (n < m)) n m))) w := by
    simp [execOp, hop, resolve, invoke, builtin, Builtin.min_, Builtin.min2, hvx, hvy]
    try (by_cases h : n < m <;> simp [h])
  unfold Oper.wp
  rw [hrun]
  exact hnx _ _ _ _ _ (.refl _ _ _) hi (hr.put hd (.int _ _)) kk

theorem aop_indexS (hG : Fits P G) {o : Oper} {t : TypeId} {x y : Operand} {ti : TI} {s : List UInt8} {k : IntKind} {n : Int} {b : UInt8} {K : Env → St → Prop} (hop : o.op = .index t x y) (ht : G t = some ti) (htd : ti.d = .str) (hx : Aj a x = some (.str s)) (hy : Aj a y = some (.int k n)) (h0 : 0 ≤ n) (hb : s[n.toNat]? = some b) (hd : A3 N o.dst = true)
    (kk : K (put a o.dst (.int .u8 b.toNat)) σ) : AOp P N o a σ K := by
  intro av w μ hi hr next Qc hnx
  obtain ⟨d1, u1, f1⟩ := Bc (P := P) (w := w) hG ht
  rw [htd] at f1; obtain rfl := td_str f1
  have rx := A2 hr hx
  have ry := A2 hr hy
  generalize hvx : av.eval x = vx at rx
  generalize hvy : av.eval y = vy at ry
  cases ry
  cases rx with
  | str sb =>
  have hget : sb[n.toNat]? = some b := by
    have h1 : sb.data[n.toNat]? = some b := by simpa using hb
    have h2 := (Array.getElem?_eq_some_iff.1 h1)
    obtain ⟨h3, h4⟩ := h2
    have h5 : n.toNat < sb.size := h3
    rw [getElem?_pos sb n.toNat h5]
    exact congrArg some h4
  have hrun : (execOp av.eval o).run P w = .ok (.value (.int .u8 b.toNat)) w := by
    simp [execOp, hop, hvx, hvy, Instr.index, asIntOf, u1, h0, hget]
  unfold Oper.wp
  rw [hrun]
  exact hnx _ _ _ _ _ (.refl _ _ _) hi (hr.put hd (.int _ _)) kk

theorem heapX_sound (hG : Fits P G) {o : Oper} {t : T} {K : Env → St → Prop} (hx : heapX G e h o.op = some t) (c : HCov σ h) (ce : CovE a e) (hd : A3 N o.dst = true) (k : K (put a o.dst t) σ) : AOp P N o a σ K := by
  have hρ : ∀ x t, evX e x = some t → Aj a x = some t := fun x t h => ce.ev h
  unfold heapX at hx
  split at hx
  · rename_i ty x hop
    split at hx
    · rename_i i p hp
      obtain ⟨ts, h1, h2⟩ := readX_ok c hx
      refine aop_quietO hG hρ (objs := only i ts) (only_mem h1) ?_ hd k
      rw [hop]; simp only [Br, hp, only_self]; exact h2
    · cases hx
  · rename_i src dst x hop
    split at hx
    · rename_i i o' n cp el z1 z2 z3 z4 z5 z6 hv hs hd'
      split at hx
      · rename_i q1 q2 q3 nt zn z ov hel hg
        cases hle : Nat.ble (o' + n) nt with
        | false => rw [hle] at hx; cases hx
        | true =>
          rw [hle, cond_true] at hx
          split at hx
          · rename_i cs hcs
            obtain ⟨ts, h1, h2, h3⟩ := c.th i nt zn z ov hg
            have hcs' : (ts.drop o').take n = cs := by
              rcases Nat.eq_zero_or_pos n with h0 | h0
              · subst h0; rw [List.eq_nil_of_length_eq_zero (cellsX_take h3 _ _ _ hcs).1]; simp
              · exact (cellsX_eq h3 hcs h0).2
            have hb2 : Nat.ble (o' + n) ts.length = true := by rw [h2]; exact hle
            refine aop_quietO hG hρ (objs := only i ts) (only_mem h1) ?_ hd k
            rw [hop]; simp only [Br, hv, hs, hd', hel, only_self, hb2, cond_true, hcs']; exact hx
          · cases hx
      · cases hx
    · cases hx
  · rename_i t' parts hop
    split at hx
    · rename_i ti pt hti hpt
      cases hpl : placesOk G ti with
      | false => rw [hpl] at hx; cases hx
      | true =>
        rw [hpl, cond_true] at hx
        cases hf : treeFill (placeOf G ti) (ti.zero.map Z.tree) pt with
        | none => rw [hf] at hx; cases hx
        | some cs =>
          rw [hf] at hx; injection hx with hx; subst hx
          exact aop_build hG hop hti hpl (ce.parts hpt) hf hd k
    · cases hx
  · rename_i t' x y ok hop
    split at hx
    · rename_i i kk n kt et z1 z2 z3 hvx hvy hti
      split at hx
      · rename_i k0 z4 z5 z6 te es hkt het hg
        split at hx
        · rename_i r hr
          injection hx with hx; subst hx
          exact aop_lookup hG hop hti rfl hkt rfl het (ce.ev hvx) (ce.ev hvy) (c.mp i es hg) hr hd k
        · cases hx
      · cases hx
    · cases hx
  · rename_i t' x y hop
    split at hx
    · rename_i s kk n z1 z2 z3 hvx hvy hti
      by_cases h0 : 0 ≤ n
      · simp only [decide_eq_true h0, cond_true] at hx
        cases hb : s[n.toNat]? with
        | none => rw [hb] at hx; cases hx
        | some b =>
          rw [hb] at hx; injection hx with hx; subst hx
          exact aop_indexS hG hop hti rfl (ce.ev hvx) (ce.ev hvy) h0 hb hd k
      · simp [decide_eq_false h0] at hx
    · cases hx
  · rename_i x y tys hop
    split at hx
    · rename_i k1 m k2 n hvx hvy
      by_cases hk : k1 = k2
      · subst hk
        simp only [decide_true, cond_true] at hx
        injection hx with hx; subst hx
        exact aop_max2 hG hop (ce.ev hvx) (ce.ev hvy) hd k
      · simp [decide_eq_false hk] at hx
    · cases hx
  · rename_i x y tys hop
    split at hx
    · rename_i k1 m k2 n hvx hvy
      by_cases hk : k1 = k2
      · subst hk
        simp only [decide_true, cond_true] at hx
        injection hx with hx; subst hx
        exact aop_min2 hG hop (ce.ev hvx) (ce.ev hvy) hd k
      · simp [decide_eq_false hk] at hx
    · cases hx
  · cases hx
theorem immX_sound (hG : Fits P G) {o : Oper} {t : T} {K : Env → St → Prop} (hx : immX G e o.op = some t) (ce : CovE a e) (hd : A3 N o.dst = true) (k : K (put a o.dst t) σ) : AOp P N o a σ K := by
  unfold immX at hx
  split at hx
  · rename_i t' len parts hop
    split at hx
    · rename_i el z1 z2 z3 pt hti hpt
      split at hx
      · rename_i ie hie
        revert hx
        cases hok : (decide (pt.map Prod.fst = List.range' 0 len) && Nat.beq pt.length len && (pt.all fun p => notRaw p.2 && Nat.beq p.2.cells.length ie.size) && Nat.ble (len * ie.size) 16777216 && Nat.blt 0 ie.size) with
        | false => intro hx; cases hx
        | true =>
          intro hx
          injection hx with hx; subst hx
          exact aop_buildSlice hG hop hti rfl hie (ce.parts hpt) hok hd k
      · cases hx
    · cases hx
  · rename_i t' x y hop
    split at hx
    · rename_i el z1 z2 z3 k1 n k2 m hti hvx hvy
      split at hx
      · rename_i te hte
        revert hx
        cases hc : (decide (n = m) && decide (0 ≤ n) && decide (n ≤ 4294967296) && (Nat.blt 0 te.size && Nat.ble te.bytes 4096)) with
        | false => intro hx; cases hx
        | true =>
          intro hx
          rw [Bool.and_eq_true, Bool.and_eq_true, Bool.and_eq_true, decide_eq_true_eq, decide_eq_true_eq, decide_eq_true_eq] at hc
          obtain ⟨⟨⟨rfl, c2⟩, c3⟩, c4⟩ := hc
          injection hx with hx; subst hx
          exact aop_makeI hG hop hti rfl hte (ce.ev hvx) (ce.ev hvy) c4 hd ⟨c2, c3⟩ k
      · cases hx
    · cases hx
  · cases hx
end
end Go.Ts
namespace Go.Ts
section
variable {P : Program} {G : Nat → Option TI} {N : Nat} {σ : St} {a : Env} {K : Env → St → Prop} {d : Tmp} {ty : TypeId} {pos : String} {af : Array Edge} {gd : Option (Nat × Bool)}
theorem r_shrU {t yt : TypeId} {x y : Operand} {n : Nat} {k : IntKind} {m : Int} {ti : TI} (hG : Fits P G) (ht : G t = some ti) (hx : Aj a x = some (.int .u64 ((n : Nat) : Int))) (hy : Aj a y = some (.int k m)) (hd : A3 N (some d) = true)
    (hm : 0 ≤ m ∧ m ≤ 63) (kk : K (put a (some d) (.int .u64 ((n / 2 ^ m.toNat : Nat) : Int))) σ) : AOp P N ⟨some d, .binOp .shr t x y yt, ty, pos, af, gd⟩ a σ K := by
  refine r_shr hG ht hx hy hd hm.1 ?_
  rw [show IntKind.u64.bits = 64 from rfl, show min m.toNat 64 = m.toNat by omega]
  rw [show (n : Int) / 2 ^ m.toNat = ((n / 2 ^ m.toNat : Nat) : Int) by simp]
  exact kk
end
end Go.Ts
namespace Go.Proofs.Ytnmpgipfbbilbaa
open Go.Ts
set_option linter.unusedSimpArgs false
set_option linter.unusedVariables false
attribute [local irreducible] Go.Ts.AW Go.Ts.AOps Go.Ts.AL Go.Ts.AOp Go.Ts.ACalls Go.Ts.DL Go.Ts.DQ0 Go.Ts.EL
open Go.Sort
end Go.Proofs.Ytnmpgipfbbilbaa
namespace Go.Proofs.Ytnmpgipfbbilbaa
open Go.Ts
attribute [local irreducible] Go.Ts.AW Go.Ts.AOps Go.Ts.AL Go.Ts.AOp Go.Ts.ACalls Go.Ts.DL
def lT (l : List (List UInt8)) : T := .sl 1 .no (l.map sT)
instance : Enc lT 1 := ⟨fun x c h => by simp [lT, T.cells] at h; subst h; rfl, fun x => rfl⟩

theorem take_getD {α : Type} [Inhabited α] (l : List α) (i : Nat) (h : i < l.length) : l.take (i + 1) = l.take i ++ [l.getD i default] := by
  rw [List.take_succ_eq_append_getElem h]; simp [List.getElem?_eq_getElem h]

end Go.Proofs.Ytnmpgipfbbilbaa
namespace Go.Proofs.Ytnmpgipfbbilbaa
open Go.Ts Go.Sets
attribute [local irreducible] Go.Ts.AW Go.Ts.AOps Go.Ts.AL Go.Ts.AOp Go.Ts.ACalls Go.Ts.DL
theorem hT_lt {x y : UInt16} : ((x.toNat : Int) < (y.toNat : Int)) ↔ x < y := by rw [UInt16.lt_iff_toNat_lt]; omega

structure MX (keep : Bool → Bool → Bool) (a b : List UInt16) where
  a' : List UInt16
  b' : List UInt16
  pre : List UInt16
  k : Nat
  hp : pre ++ Bk keep a' b' = Bk keep a b
  hl : pre.length + a'.length + b'.length ≤ a.length + b.length
set_option maxHeartbeats 4000000 in
theorem merge_any {g : Nat} {keep : Bool → Bool → Bool} (hk : ∀ i t, Pure Try.prog g [.bool i, .bool t] (.bool (keep i t))) {x y : T} {a b : List UInt16} (hx : catsT x = some a) (hy : catsT y = some b) (hl : a.length + b.length ≤ 4294967000) :
    Owns Try.prog 33 [x, y, .fn (.func g) []] 1 ((Bk keep a b).map hT) := by
  refine Owns.weak (us := [cT a, cT b, .fn (.func g) []]) ?_ (wk3 (Bw hx) (Bw hy) (.refl _))
  intro off
  refine Bn (N := 72) (rs := [.tmp 6]) hG Try.func33 rfl rfl rfl rfl rfl ?_
  repeat' (first
    | ((first | (show AL _ _ _ _ _ _ _ _; refine Ah Y ?_) | (show DL _ _ _ _ _ _ _; refine' A9 Y Y (fun K kk => ?_) ?_; try (show Go.Ts.T; rotate_left))); (first
      | (show AOp _ _ ⟨_, .move _, _, _, _, _⟩ _ _ _; refine Ap hG Y Y ?_)
      | (show AOp _ _ ⟨_, .assign _, _, _, _, _⟩ _ _ _; refine A6 hG Y Y ?_)
      | (show AOp _ _ ⟨_, .call ⟨.builtin .len, _, _⟩, _, _, _, _⟩ _ _ _; first | refine Ay hG Y Y Y Y ?_ | refine Bb hG Y Y Y Y Y ?_)
      | (show AOp _ _ ⟨_, .binOp .add _ _ _ _, _, _, _, _⟩ _ _ _; first | refine Al hG Y Y Y Y Y (by omega) ?_)
      | (show AOp _ _ ⟨_, .binOp _ _ _ _ _, _, _, _, _⟩ _ _ _; first | refine Aw hG Y Y Y Y Y (by omega) ?_ | refine Ax hG Y Y Y Y Y (by omega) ?_ | ((fail_if_success have := kk); refine Ak hG Y Y Y Y Y (fun h => ?_) (fun h => ?_)))
      | (show AOp _ _ ⟨_, .load _ _, _, _, _, _⟩ _ _ _; first | refine A7 hG Y Y Y ?_ | refine r_ld 0 hG Y Y Y Y ?_)
      | (show AOp _ _ ⟨_, .indexAddr _ _ _, _, _, _, _⟩ _ _ _; first | refine r_idx0 hG Y Y Y Y Y Y Y ?_ | refine Az hG Y Y Y Y Y Y Y (by omega) ?_ | refine A0 hG Y Y Y Y Y Y Y (by omega) ?_ | refine Bd hG Y Y ?_)
      | (show AOp _ _ ⟨_, .slice _ _ _ _ _, _, _, _, _⟩ _ _ _; first | refine A8 hG Y Y Y Y Y Y Y (by omega) ?_ | refine Be hG Y Y Y Y Y Y Y (by omega) ?_ | refine r_sl hG Y Y ?_)
      | (show AOp _ _ ⟨_, .pick _ _ _, _, _, _, _⟩ _ _ _; refine Ba hG Y Y Y ?_)
      | (show AOp _ _ ⟨_, .buildSlice _ _ _, _, _, _, _⟩ _ _ _; first | refine r_mk (sz := 1) hG Y Y Y Y Y Y Y ?_)
      | (show AOp _ _ ⟨_, .call ⟨.builtin .append, _, _⟩, _, _, _, _⟩ _ _ _; first | refine Bg (sz := 1) (xs := []) hG Y Y Y Y Y Y Y ⟨_, Y⟩ Y Y Y Y Y Y Y (by first | omega | (simp; omega)) (fun k => ?_) | refine Bi 0 hG Y Y Y Y Y Y Y ⟨_, Y⟩ Y Y Y Y Y (by first | omega | (simp only [List.length_append, List.length_cons, List.length_nil]; omega)) (fun k => ?_) | fail)
      | refine r_q hG Y Y Y ?_); try exact kk)
    | (show AL _ _ _ _ _ _ _ _; first | refine al_s Y Y Y ?_ | (refine Au ?_; first | show AW _ _ _ _ _ _ | show ∃ x', _ < _ ∧ _)) | (show AW _ _ (.seq _ _) _ _ _; refine Ai ?_; intro Q1) | (show AW _ _ (.region _ _ false) _ _ _; refine Af ?_; intro O1) | (show AW _ _ (.cond _ _ _) _ _ _; first | refine As Y ?_ | refine Av Y ?_) | (show AW _ _ (.skip) _ _ _; refine Aq ?_; first | show AW _ _ _ _ _ _ | show ∃ x', _ < _ ∧ _) | (show AW _ _ (.goto _) _ _ _; refine Bs ?_; try dsimp only [Am, Aa, Ao, Ad]) | (show AW _ _ (.ret) _ _ _; refine Ar ?_; try dsimp only [Am, Aa, Ao, Ad])
    | (show DL _ _ _ _ _ _ _; refine dl_d Y Y (fun K kt kf => Ak hG Y Y Y Y Y kt kf) (fun h => ?_) (fun h => ?_))
    | (show DL _ _ _ _ _ _ _; refine dl_s Y Y Y ?_) | (show DL _ _ _ _ _ _ _; refine Bj ?_; first | show AW _ _ _ _ _ _ | show ∃ x', _ < _ ∧ _) | (show AW _ _ (.region _ _ true) _ _ _; refine A1 mix (by kernel_rfl) ?_; intro O1) | fail)
  refine aw_scope' 0 rfl (X := MX keep a b) (fun x => [(0, cT x.a'), (1, cT x.b'), (2, .fn (.func g) []), (7, .sl 1 (.tok x.k) (x.pre.map hT))]) (fun x => ⟨[], [x.k], off, none⟩) (fun x => x.a'.length + x.b'.length) ?_ ?_
  · rintro ⟨a', b', pre, k, hp, hl'⟩
    dsimp only at *
    cases a' with
    | nil =>
      have n1 : ([] : List UInt16).length = 0 := rfl
      cases b' with
      | nil =>
        repeat' (first
    | ((first | (show AL _ _ _ _ _ _ _ _; refine Ah Y ?_) | (show DL _ _ _ _ _ _ _; refine' A9 Y Y (fun K kk => ?_) ?_; try (show Go.Ts.T; rotate_left))); (first
      | (show AOp _ _ ⟨_, .move _, _, _, _, _⟩ _ _ _; refine Ap hG Y Y ?_)
      | (show AOp _ _ ⟨_, .assign _, _, _, _, _⟩ _ _ _; refine A6 hG Y Y ?_)
      | (show AOp _ _ ⟨_, .call ⟨.builtin .len, _, _⟩, _, _, _, _⟩ _ _ _; first | refine Ay hG Y Y Y Y ?_ | refine Bb hG Y Y Y Y Y ?_)
      | (show AOp _ _ ⟨_, .binOp .add _ _ _ _, _, _, _, _⟩ _ _ _; first | refine Al hG Y Y Y Y Y (by omega) ?_)
      | (show AOp _ _ ⟨_, .binOp _ _ _ _ _, _, _, _, _⟩ _ _ _; first | refine Aw hG Y Y Y Y Y (by omega) ?_ | refine Ax hG Y Y Y Y Y (by omega) ?_ | ((fail_if_success have := kk); refine Ak hG Y Y Y Y Y (fun h => ?_) (fun h => ?_)))
      | (show AOp _ _ ⟨_, .load _ _, _, _, _, _⟩ _ _ _; first | refine A7 hG Y Y Y ?_ | refine r_ld 0 hG Y Y Y Y ?_)
      | (show AOp _ _ ⟨_, .indexAddr _ _ _, _, _, _, _⟩ _ _ _; first | refine r_idx0 hG Y Y Y Y Y Y Y ?_ | refine Az hG Y Y Y Y Y Y Y (by omega) ?_ | refine A0 hG Y Y Y Y Y Y Y (by omega) ?_ | refine Bd hG Y Y ?_)
      | (show AOp _ _ ⟨_, .slice _ _ _ _ _, _, _, _, _⟩ _ _ _; first | refine A8 hG Y Y Y Y Y Y Y (by omega) ?_ | refine Be hG Y Y Y Y Y Y Y (by omega) ?_ | refine r_sl hG Y Y ?_)
      | (show AOp _ _ ⟨_, .pick _ _ _, _, _, _, _⟩ _ _ _; refine Ba hG Y Y Y ?_)
      | (show AOp _ _ ⟨_, .buildSlice _ _ _, _, _, _, _⟩ _ _ _; first | refine r_mk (sz := 1) hG Y Y Y Y Y Y Y ?_)
      | (show AOp _ _ ⟨_, .call ⟨.builtin .append, _, _⟩, _, _, _, _⟩ _ _ _; first | refine Bg (sz := 1) (xs := []) hG Y Y Y Y Y Y Y ⟨_, Y⟩ Y Y Y Y Y Y Y (by first | omega | (simp; omega)) (fun k => ?_) | refine Bi 0 hG Y Y Y Y Y Y Y ⟨_, Y⟩ Y Y Y Y Y (by first | omega | (simp only [List.length_append, List.length_cons, List.length_nil]; omega)) (fun k => ?_) | fail)
      | refine r_q hG Y Y Y ?_); try exact kk)
    | (show AL _ _ _ _ _ _ _ _; first | refine al_s Y Y Y ?_ | (refine Au ?_; first | show AW _ _ _ _ _ _ | show ∃ x', _ < _ ∧ _)) | (show AW _ _ (.seq _ _) _ _ _; refine Ai ?_; intro Q1) | (show AW _ _ (.region _ _ false) _ _ _; refine Af ?_; intro O1) | (show AW _ _ (.cond _ _ _) _ _ _; first | refine As Y ?_ | refine Av Y ?_) | (show AW _ _ (.skip) _ _ _; refine Aq ?_; first | show AW _ _ _ _ _ _ | show ∃ x', _ < _ ∧ _) | (show AW _ _ (.goto _) _ _ _; refine Bs ?_; try dsimp only [Am, Aa, Ao, Ad]) | (show AW _ _ (.ret) _ _ _; refine Ar ?_; try dsimp only [Am, Aa, Ao, Ad])
    | (show DL _ _ _ _ _ _ _; refine dl_d Y Y (fun K kt kf => Ak hG Y Y Y Y Y kt kf) (fun h => ?_) (fun h => ?_))
    | (show DL _ _ _ _ _ _ _; refine dl_s Y Y Y ?_) | (show DL _ _ _ _ _ _ _; refine Bj ?_; first | show AW _ _ _ _ _ _ | show ∃ x', _ < _ ∧ _) | (show AW _ _ (.region _ _ true) _ _ _; refine A1 mix (by kernel_rfl) ?_; intro O1) | fail)
        exact ret_owns 0 (Bm rfl Bp) rfl (by rw [← hp]; simp [Bk]) rfl
      | cons y b1 =>
        have n2 : (y :: b1).length = b1.length + 1 := rfl
        rw [Bk] at hp
        have hk' := hk false true
        cases hkk : keep false true <;> rw [hkk] at hk' hp
        · repeat' (first
    | ((first | (show AL _ _ _ _ _ _ _ _; refine Ah Y ?_) | (show DL _ _ _ _ _ _ _; refine' A9 Y Y (fun K kk => ?_) ?_; try (show Go.Ts.T; rotate_left))); (first
      | (show AOp _ _ ⟨_, .move _, _, _, _, _⟩ _ _ _; refine Ap hG Y Y ?_)
      | (show AOp _ _ ⟨_, .assign _, _, _, _, _⟩ _ _ _; refine A6 hG Y Y ?_)
      | (show AOp _ _ ⟨_, .call ⟨.builtin .len, _, _⟩, _, _, _, _⟩ _ _ _; first | refine Ay hG Y Y Y Y ?_ | refine Bb hG Y Y Y Y Y ?_)
      | (show AOp _ _ ⟨_, .binOp .add _ _ _ _, _, _, _, _⟩ _ _ _; first | refine Al hG Y Y Y Y Y (by omega) ?_)
      | (show AOp _ _ ⟨_, .binOp _ _ _ _ _, _, _, _, _⟩ _ _ _; first | refine Aw hG Y Y Y Y Y (by omega) ?_ | refine Ax hG Y Y Y Y Y (by omega) ?_ | ((fail_if_success have := kk); refine Ak hG Y Y Y Y Y (fun h => ?_) (fun h => ?_)))
      | (show AOp _ _ ⟨_, .load _ _, _, _, _, _⟩ _ _ _; first | refine A7 hG Y Y Y ?_ | refine r_ld 0 hG Y Y Y Y ?_)
      | (show AOp _ _ ⟨_, .indexAddr _ _ _, _, _, _, _⟩ _ _ _; first | refine r_idx0 hG Y Y Y Y Y Y Y ?_ | refine Az hG Y Y Y Y Y Y Y (by omega) ?_ | refine A0 hG Y Y Y Y Y Y Y (by omega) ?_ | refine Bd hG Y Y ?_)
      | (show AOp _ _ ⟨_, .slice _ _ _ _ _, _, _, _, _⟩ _ _ _; first | refine A8 hG Y Y Y Y Y Y Y (by omega) ?_ | refine Be hG Y Y Y Y Y Y Y (by omega) ?_ | refine r_sl hG Y Y ?_)
      | (show AOp _ _ ⟨_, .pick _ _ _, _, _, _, _⟩ _ _ _; refine Ba hG Y Y Y ?_)
      | (show AOp _ _ ⟨_, .buildSlice _ _ _, _, _, _, _⟩ _ _ _; first | refine r_mk (sz := 1) hG Y Y Y Y Y Y Y ?_)
      | (show AOp _ _ ⟨_, .call ⟨.builtin .append, _, _⟩, _, _, _, _⟩ _ _ _; first | refine Bg (sz := 1) (xs := []) hG Y Y Y Y Y Y Y ⟨_, Y⟩ Y Y Y Y Y Y Y (by first | omega | (simp; omega)) (fun k => ?_) | refine Bi 0 hG Y Y Y Y Y Y Y ⟨_, Y⟩ Y Y Y Y Y (by first | omega | (simp only [List.length_append, List.length_cons, List.length_nil]; omega)) (fun k => ?_) | fail)
      | (show AOp _ _ ⟨_, .call ⟨.value _, _, _⟩, _, _, _, _⟩ _ _ _; first | refine A5 Y Y Y Y Y (by apply hk' <;> (first | assumption | omega | exact Ab _ _ | exact Ae _ | exact Ac _ _ | exact Ag _ | rfl | (simp; omega))) ?_ | fail)
      | refine r_q hG Y Y Y ?_); try exact kk)
    | (show AL _ _ _ _ _ _ _ _; first | refine al_s Y Y Y ?_ | (refine Au ?_; first | show AW _ _ _ _ _ _ | show ∃ x', _ < _ ∧ _)) | (show AW _ _ (.seq _ _) _ _ _; refine Ai ?_; intro Q1) | (show AW _ _ (.region _ _ false) _ _ _; refine Af ?_; intro O1) | (show AW _ _ (.cond _ _ _) _ _ _; first | refine As Y ?_ | refine Av Y ?_) | (show AW _ _ (.skip) _ _ _; refine Aq ?_; first | show AW _ _ _ _ _ _ | show ∃ x', _ < _ ∧ _) | (show AW _ _ (.goto _) _ _ _; refine Bs ?_; try dsimp only [Am, Aa, Ao, Ad]) | (show AW _ _ (.ret) _ _ _; refine Ar ?_; try dsimp only [Am, Aa, Ao, Ad])
    | (show DL _ _ _ _ _ _ _; refine dl_d Y Y (fun K kt kf => Ak hG Y Y Y Y Y kt kf) (fun h => ?_) (fun h => ?_))
    | (show DL _ _ _ _ _ _ _; refine dl_s Y Y Y ?_) | (show DL _ _ _ _ _ _ _; refine Bj ?_; first | show AW _ _ _ _ _ _ | show ∃ x', _ < _ ∧ _) | (show AW _ _ (.region _ _ true) _ _ _; refine A1 mix (by kernel_rfl) ?_; intro O1) | fail)
          refine ⟨rfl, ⟨[], b1, pre, k, hp, by simp only [List.length_cons] at *; omega⟩, by simp only [List.length_cons]; omega, ?_, .refl _⟩
          exact .consW rfl (.eq (by simp [cT])) (.consW rfl (.eq (by simp [cT])) (.cons rfl (.cons rfl (.nil _))))
        · repeat' (first
    | ((first | (show AL _ _ _ _ _ _ _ _; refine Ah Y ?_) | (show DL _ _ _ _ _ _ _; refine' A9 Y Y (fun K kk => ?_) ?_; try (show Go.Ts.T; rotate_left))); (first
      | (show AOp _ _ ⟨_, .move _, _, _, _, _⟩ _ _ _; refine Ap hG Y Y ?_)
      | (show AOp _ _ ⟨_, .assign _, _, _, _, _⟩ _ _ _; refine A6 hG Y Y ?_)
      | (show AOp _ _ ⟨_, .call ⟨.builtin .len, _, _⟩, _, _, _, _⟩ _ _ _; first | refine Ay hG Y Y Y Y ?_ | refine Bb hG Y Y Y Y Y ?_)
      | (show AOp _ _ ⟨_, .binOp .add _ _ _ _, _, _, _, _⟩ _ _ _; first | refine Al hG Y Y Y Y Y (by omega) ?_)
      | (show AOp _ _ ⟨_, .binOp _ _ _ _ _, _, _, _, _⟩ _ _ _; first | refine Aw hG Y Y Y Y Y (by omega) ?_ | refine Ax hG Y Y Y Y Y (by omega) ?_ | ((fail_if_success have := kk); refine Ak hG Y Y Y Y Y (fun h => ?_) (fun h => ?_)))
      | (show AOp _ _ ⟨_, .load _ _, _, _, _, _⟩ _ _ _; first | refine A7 hG Y Y Y ?_ | refine r_ld 0 hG Y Y Y Y ?_)
      | (show AOp _ _ ⟨_, .indexAddr _ _ _, _, _, _, _⟩ _ _ _; first | refine r_idx0 hG Y Y Y Y Y Y Y ?_ | refine Az hG Y Y Y Y Y Y Y (by omega) ?_ | refine A0 hG Y Y Y Y Y Y Y (by omega) ?_ | refine Bd hG Y Y ?_)
      | (show AOp _ _ ⟨_, .slice _ _ _ _ _, _, _, _, _⟩ _ _ _; first | refine A8 hG Y Y Y Y Y Y Y (by omega) ?_ | refine Be hG Y Y Y Y Y Y Y (by omega) ?_ | refine r_sl hG Y Y ?_)
      | (show AOp _ _ ⟨_, .pick _ _ _, _, _, _, _⟩ _ _ _; refine Ba hG Y Y Y ?_)
      | (show AOp _ _ ⟨_, .buildSlice _ _ _, _, _, _, _⟩ _ _ _; first | refine r_mk (sz := 1) hG Y Y Y Y Y Y Y ?_)
      | (show AOp _ _ ⟨_, .call ⟨.builtin .append, _, _⟩, _, _, _, _⟩ _ _ _; first | refine Bi 0 (ys := [y]) hG Y Y Y Y Y Y Y ⟨_, Y⟩ Y Y Y Y Y (by simp only [List.length_append, List.length_map, List.length_cons, List.length_nil]; omega) (fun k => ?_) | refine Bg (sz := 1) (xs := []) hG Y Y Y Y Y Y Y ⟨_, Y⟩ Y Y Y Y Y Y Y (by first | omega | (simp; omega)) (fun k => ?_) | refine Bi 0 hG Y Y Y Y Y Y Y ⟨_, Y⟩ Y Y Y Y Y (by first | omega | (simp only [List.length_append, List.length_cons, List.length_nil]; omega)) (fun k => ?_) | fail)
      | (show AOp _ _ ⟨_, .call ⟨.value _, _, _⟩, _, _, _, _⟩ _ _ _; first | refine A5 Y Y Y Y Y (by apply hk' <;> (first | assumption | omega | exact Ab _ _ | exact Ae _ | exact Ac _ _ | exact Ag _ | rfl | (simp; omega))) ?_ | fail)
      | refine r_q hG Y Y Y ?_); try exact kk)
    | (show AL _ _ _ _ _ _ _ _; first | refine al_s Y Y Y ?_ | (refine Au ?_; first | show AW _ _ _ _ _ _ | show ∃ x', _ < _ ∧ _)) | (show AW _ _ (.seq _ _) _ _ _; refine Ai ?_; intro Q1) | (show AW _ _ (.region _ _ false) _ _ _; refine Af ?_; intro O1) | (show AW _ _ (.cond _ _ _) _ _ _; first | refine As Y ?_ | refine Av Y ?_) | (show AW _ _ (.skip) _ _ _; refine Aq ?_; first | show AW _ _ _ _ _ _ | show ∃ x', _ < _ ∧ _) | (show AW _ _ (.goto _) _ _ _; refine Bs ?_; try dsimp only [Am, Aa, Ao, Ad]) | (show AW _ _ (.ret) _ _ _; refine Ar ?_; try dsimp only [Am, Aa, Ao, Ad])
    | (show DL _ _ _ _ _ _ _; refine dl_d Y Y (fun K kt kf => Ak hG Y Y Y Y Y kt kf) (fun h => ?_) (fun h => ?_))
    | (show DL _ _ _ _ _ _ _; refine dl_s Y Y Y ?_) | (show DL _ _ _ _ _ _ _; refine Bj ?_; first | show AW _ _ _ _ _ _ | show ∃ x', _ < _ ∧ _) | (show AW _ _ (.region _ _ true) _ _ _; refine A1 mix (by kernel_rfl) ?_; intro O1) | fail)
          refine ⟨rfl, ⟨[], b1, pre ++ [y], _, by simpa using hp, by simp only [List.length_cons, List.length_append, List.length_nil] at *; omega⟩, by simp only [List.length_cons]; omega, ?_, .refl _⟩
          exact .consW rfl (.eq (by simp [cT])) (.consW rfl (.eq (by simp [cT])) (.cons rfl (.cons rfl (.nil _))))
    | cons x a1 =>
      have n1 : (x :: a1).length = a1.length + 1 := rfl
      cases b' with
      | nil =>
        have n2 : ([] : List UInt16).length = 0 := rfl
        rw [Bk] at hp
        have hk' := hk true false
        cases hkk : keep true false <;> rw [hkk] at hk' hp
        · repeat' (first
    | ((first | (show AL _ _ _ _ _ _ _ _; refine Ah Y ?_) | (show DL _ _ _ _ _ _ _; refine' A9 Y Y (fun K kk => ?_) ?_; try (show Go.Ts.T; rotate_left))); (first
      | (show AOp _ _ ⟨_, .move _, _, _, _, _⟩ _ _ _; refine Ap hG Y Y ?_)
      | (show AOp _ _ ⟨_, .assign _, _, _, _, _⟩ _ _ _; refine A6 hG Y Y ?_)
      | (show AOp _ _ ⟨_, .call ⟨.builtin .len, _, _⟩, _, _, _, _⟩ _ _ _; first | refine Ay hG Y Y Y Y ?_ | refine Bb hG Y Y Y Y Y ?_)
      | (show AOp _ _ ⟨_, .binOp .add _ _ _ _, _, _, _, _⟩ _ _ _; first | refine Al hG Y Y Y Y Y (by omega) ?_)
      | (show AOp _ _ ⟨_, .binOp _ _ _ _ _, _, _, _, _⟩ _ _ _; first | refine Aw hG Y Y Y Y Y (by omega) ?_ | refine Ax hG Y Y Y Y Y (by omega) ?_ | ((fail_if_success have := kk); refine Ak hG Y Y Y Y Y (fun h => ?_) (fun h => ?_)))
      | (show AOp _ _ ⟨_, .load _ _, _, _, _, _⟩ _ _ _; first | refine A7 hG Y Y Y ?_ | refine r_ld 0 hG Y Y Y Y ?_)
      | (show AOp _ _ ⟨_, .indexAddr _ _ _, _, _, _, _⟩ _ _ _; first | refine r_idx0 hG Y Y Y Y Y Y Y ?_ | refine Az hG Y Y Y Y Y Y Y (by omega) ?_ | refine A0 hG Y Y Y Y Y Y Y (by omega) ?_ | refine Bd hG Y Y ?_)
      | (show AOp _ _ ⟨_, .slice _ _ _ _ _, _, _, _, _⟩ _ _ _; first | refine A8 hG Y Y Y Y Y Y Y (by omega) ?_ | refine Be hG Y Y Y Y Y Y Y (by omega) ?_ | refine r_sl hG Y Y ?_)
      | (show AOp _ _ ⟨_, .pick _ _ _, _, _, _, _⟩ _ _ _; refine Ba hG Y Y Y ?_)
      | (show AOp _ _ ⟨_, .buildSlice _ _ _, _, _, _, _⟩ _ _ _; first | refine r_mk (sz := 1) hG Y Y Y Y Y Y Y ?_)
      | (show AOp _ _ ⟨_, .call ⟨.builtin .append, _, _⟩, _, _, _, _⟩ _ _ _; first | refine Bg (sz := 1) (xs := []) hG Y Y Y Y Y Y Y ⟨_, Y⟩ Y Y Y Y Y Y Y (by first | omega | (simp; omega)) (fun k => ?_) | refine Bi 0 hG Y Y Y Y Y Y Y ⟨_, Y⟩ Y Y Y Y Y (by first | omega | (simp only [List.length_append, List.length_cons, List.length_nil]; omega)) (fun k => ?_) | fail)
      | (show AOp _ _ ⟨_, .call ⟨.value _, _, _⟩, _, _, _, _⟩ _ _ _; first | refine A5 Y Y Y Y Y (by apply hk' <;> (first | assumption | omega | exact Ab _ _ | exact Ae _ | exact Ac _ _ | exact Ag _ | rfl | (simp; omega))) ?_ | fail)
      | refine r_q hG Y Y Y ?_); try exact kk)
    | (show AL _ _ _ _ _ _ _ _; first | refine al_s Y Y Y ?_ | (refine Au ?_; first | show AW _ _ _ _ _ _ | show ∃ x', _ < _ ∧ _)) | (show AW _ _ (.seq _ _) _ _ _; refine Ai ?_; intro Q1) | (show AW _ _ (.region _ _ false) _ _ _; refine Af ?_; intro O1) | (show AW _ _ (.cond _ _ _) _ _ _; first | refine As Y ?_ | refine Av Y ?_) | (show AW _ _ (.skip) _ _ _; refine Aq ?_; first | show AW _ _ _ _ _ _ | show ∃ x', _ < _ ∧ _) | (show AW _ _ (.goto _) _ _ _; refine Bs ?_; try dsimp only [Am, Aa, Ao, Ad]) | (show AW _ _ (.ret) _ _ _; refine Ar ?_; try dsimp only [Am, Aa, Ao, Ad])
    | (show DL _ _ _ _ _ _ _; refine dl_d Y Y (fun K kt kf => Ak hG Y Y Y Y Y kt kf) (fun h => ?_) (fun h => ?_))
    | (show DL _ _ _ _ _ _ _; refine dl_s Y Y Y ?_) | (show DL _ _ _ _ _ _ _; refine Bj ?_; first | show AW _ _ _ _ _ _ | show ∃ x', _ < _ ∧ _) | (show AW _ _ (.region _ _ true) _ _ _; refine A1 mix (by kernel_rfl) ?_; intro O1) | fail)
          refine ⟨rfl, ⟨a1, [], pre, k, hp, by simp only [List.length_cons] at *; omega⟩, by simp only [List.length_cons]; omega, ?_, .refl _⟩
          exact .consW rfl (.eq (by simp [cT])) (.consW rfl (.eq (by simp [cT])) (.cons rfl (.cons rfl (.nil _))))
        · repeat' (first
    | ((first | (show AL _ _ _ _ _ _ _ _; refine Ah Y ?_) | (show DL _ _ _ _ _ _ _; refine' A9 Y Y (fun K kk => ?_) ?_; try (show Go.Ts.T; rotate_left))); (first
      | (show AOp _ _ ⟨_, .move _, _, _, _, _⟩ _ _ _; refine Ap hG Y Y ?_)
      | (show AOp _ _ ⟨_, .assign _, _, _, _, _⟩ _ _ _; refine A6 hG Y Y ?_)
      | (show AOp _ _ ⟨_, .call ⟨.builtin .len, _, _⟩, _, _, _, _⟩ _ _ _; first | refine Ay hG Y Y Y Y ?_ | refine Bb hG Y Y Y Y Y ?_)
      | (show AOp _ _ ⟨_, .binOp .add _ _ _ _, _, _, _, _⟩ _ _ _; first | refine Al hG Y Y Y Y Y (by omega) ?_)
      | (show AOp _ _ ⟨_, .binOp _ _ _ _ _, _, _, _, _⟩ _ _ _; first | refine Aw hG Y Y Y Y Y (by omega) ?_ | refine Ax hG Y Y Y Y Y (by omega) ?_ | ((fail_if_success have := kk); refine Ak hG Y Y Y Y Y (fun h => ?_) (fun h => ?_)))
      | (show AOp _ _ ⟨_, .load _ _, _, _, _, _⟩ _ _ _; first | refine A7 hG Y Y Y ?_ | refine r_ld 0 hG Y Y Y Y ?_)
      | (show AOp _ _ ⟨_, .indexAddr _ _ _, _, _, _, _⟩ _ _ _; first | refine r_idx0 hG Y Y Y Y Y Y Y ?_ | refine Az hG Y Y Y Y Y Y Y (by omega) ?_ | refine A0 hG Y Y Y Y Y Y Y (by omega) ?_ | refine Bd hG Y Y ?_)
      | (show AOp _ _ ⟨_, .slice _ _ _ _ _, _, _, _, _⟩ _ _ _; first | refine A8 hG Y Y Y Y Y Y Y (by omega) ?_ | refine Be hG Y Y Y Y Y Y Y (by omega) ?_ | refine r_sl hG Y Y ?_)
      | (show AOp _ _ ⟨_, .pick _ _ _, _, _, _, _⟩ _ _ _; refine Ba hG Y Y Y ?_)
      | (show AOp _ _ ⟨_, .buildSlice _ _ _, _, _, _, _⟩ _ _ _; first | refine r_mk (sz := 1) hG Y Y Y Y Y Y Y ?_)
      | (show AOp _ _ ⟨_, .call ⟨.builtin .append, _, _⟩, _, _, _, _⟩ _ _ _; first | refine Bi 0 (ys := [x]) hG Y Y Y Y Y Y Y ⟨_, Y⟩ Y Y Y Y Y (by simp only [List.length_append, List.length_map, List.length_cons, List.length_nil]; omega) (fun k => ?_) | refine Bg (sz := 1) (xs := []) hG Y Y Y Y Y Y Y ⟨_, Y⟩ Y Y Y Y Y Y Y (by first | omega | (simp; omega)) (fun k => ?_) | refine Bi 0 hG Y Y Y Y Y Y Y ⟨_, Y⟩ Y Y Y Y Y (by first | omega | (simp only [List.length_append, List.length_cons, List.length_nil]; omega)) (fun k => ?_) | fail)
      | (show AOp _ _ ⟨_, .call ⟨.value _, _, _⟩, _, _, _, _⟩ _ _ _; first | refine A5 Y Y Y Y Y (by apply hk' <;> (first | assumption | omega | exact Ab _ _ | exact Ae _ | exact Ac _ _ | exact Ag _ | rfl | (simp; omega))) ?_ | fail)
      | refine r_q hG Y Y Y ?_); try exact kk)
    | (show AL _ _ _ _ _ _ _ _; first | refine al_s Y Y Y ?_ | (refine Au ?_; first | show AW _ _ _ _ _ _ | show ∃ x', _ < _ ∧ _)) | (show AW _ _ (.seq _ _) _ _ _; refine Ai ?_; intro Q1) | (show AW _ _ (.region _ _ false) _ _ _; refine Af ?_; intro O1) | (show AW _ _ (.cond _ _ _) _ _ _; first | refine As Y ?_ | refine Av Y ?_) | (show AW _ _ (.skip) _ _ _; refine Aq ?_; first | show AW _ _ _ _ _ _ | show ∃ x', _ < _ ∧ _) | (show AW _ _ (.goto _) _ _ _; refine Bs ?_; try dsimp only [Am, Aa, Ao, Ad]) | (show AW _ _ (.ret) _ _ _; refine Ar ?_; try dsimp only [Am, Aa, Ao, Ad])
    | (show DL _ _ _ _ _ _ _; refine dl_d Y Y (fun K kt kf => Ak hG Y Y Y Y Y kt kf) (fun h => ?_) (fun h => ?_))
    | (show DL _ _ _ _ _ _ _; refine dl_s Y Y Y ?_) | (show DL _ _ _ _ _ _ _; refine Bj ?_; first | show AW _ _ _ _ _ _ | show ∃ x', _ < _ ∧ _) | (show AW _ _ (.region _ _ true) _ _ _; refine A1 mix (by kernel_rfl) ?_; intro O1) | fail)
          refine ⟨rfl, ⟨a1, [], pre ++ [x], _, by simpa using hp, by simp only [List.length_cons, List.length_append, List.length_nil] at *; omega⟩, by simp only [List.length_cons]; omega, ?_, .refl _⟩
          exact .consW rfl (.eq (by simp [cT])) (.consW rfl (.eq (by simp [cT])) (.cons rfl (.cons rfl (.nil _))))
      | cons y b1 =>
        have n2 : (y :: b1).length = b1.length + 1 := rfl
        rw [Bk] at hp
        by_cases h1 : x < y
        · rw [if_pos h1] at hp
          rw [← hT_lt] at h1
          have hk' := hk true false
          cases hkk : keep true false <;> rw [hkk] at hk' hp
          · repeat' (first
    | ((first | (show AL _ _ _ _ _ _ _ _; refine Ah Y ?_) | (show DL _ _ _ _ _ _ _; refine' A9 Y Y (fun K kk => ?_) ?_; try (show Go.Ts.T; rotate_left))); (first
      | (show AOp _ _ ⟨_, .move _, _, _, _, _⟩ _ _ _; refine Ap hG Y Y ?_)
      | (show AOp _ _ ⟨_, .assign _, _, _, _, _⟩ _ _ _; refine A6 hG Y Y ?_)
      | (show AOp _ _ ⟨_, .call ⟨.builtin .len, _, _⟩, _, _, _, _⟩ _ _ _; first | refine Ay hG Y Y Y Y ?_ | refine Bb hG Y Y Y Y Y ?_)
      | (show AOp _ _ ⟨_, .binOp .add _ _ _ _, _, _, _, _⟩ _ _ _; first | refine Al hG Y Y Y Y Y (by omega) ?_)
      | (show AOp _ _ ⟨_, .binOp _ _ _ _ _, _, _, _, _⟩ _ _ _; first | refine Aw hG Y Y Y Y Y (by omega) ?_ | refine Ax hG Y Y Y Y Y (by omega) ?_ | ((fail_if_success have := kk); refine Ak hG Y Y Y Y Y (fun h => ?_) (fun h => ?_)))
      | (show AOp _ _ ⟨_, .load _ _, _, _, _, _⟩ _ _ _; first | refine A7 hG Y Y Y ?_ | refine r_ld 0 hG Y Y Y Y ?_)
      | (show AOp _ _ ⟨_, .indexAddr _ _ _, _, _, _, _⟩ _ _ _; first | refine r_idx0 hG Y Y Y Y Y Y Y ?_ | refine Az hG Y Y Y Y Y Y Y (by omega) ?_ | refine A0 hG Y Y Y Y Y Y Y (by omega) ?_ | refine Bd hG Y Y ?_)
      | (show AOp _ _ ⟨_, .slice _ _ _ _ _, _, _, _, _⟩ _ _ _; first | refine A8 hG Y Y Y Y Y Y Y (by omega) ?_ | refine Be hG Y Y Y Y Y Y Y (by omega) ?_ | refine r_sl hG Y Y ?_)
      | (show AOp _ _ ⟨_, .pick _ _ _, _, _, _, _⟩ _ _ _; refine Ba hG Y Y Y ?_)
      | (show AOp _ _ ⟨_, .buildSlice _ _ _, _, _, _, _⟩ _ _ _; first | refine r_mk (sz := 1) hG Y Y Y Y Y Y Y ?_)
      | (show AOp _ _ ⟨_, .call ⟨.builtin .append, _, _⟩, _, _, _, _⟩ _ _ _; first | refine Bg (sz := 1) (xs := []) hG Y Y Y Y Y Y Y ⟨_, Y⟩ Y Y Y Y Y Y Y (by first | omega | (simp; omega)) (fun k => ?_) | refine Bi 0 hG Y Y Y Y Y Y Y ⟨_, Y⟩ Y Y Y Y Y (by first | omega | (simp only [List.length_append, List.length_cons, List.length_nil]; omega)) (fun k => ?_) | fail)
      | (show AOp _ _ ⟨_, .call ⟨.value _, _, _⟩, _, _, _, _⟩ _ _ _; first | refine A5 Y Y Y Y Y (by apply hk' <;> (first | assumption | omega | exact Ab _ _ | exact Ae _ | exact Ac _ _ | exact Ag _ | rfl | (simp; omega))) ?_ | fail)
      | refine r_q hG Y Y Y ?_); try exact kk)
    | (show AL _ _ _ _ _ _ _ _; first | refine al_s Y Y Y ?_ | (refine Au ?_; first | show AW _ _ _ _ _ _ | show ∃ x', _ < _ ∧ _)) | (show AW _ _ (.seq _ _) _ _ _; refine Ai ?_; intro Q1) | (show AW _ _ (.region _ _ false) _ _ _; refine Af ?_; intro O1) | (show AW _ _ (.cond _ _ _) _ _ _; first | refine As Y ?_ | refine Av Y ?_) | (show AW _ _ (.skip) _ _ _; refine Aq ?_; first | show AW _ _ _ _ _ _ | show ∃ x', _ < _ ∧ _) | (show AW _ _ (.goto _) _ _ _; refine Bs ?_; try dsimp only [Am, Aa, Ao, Ad]) | (show AW _ _ (.ret) _ _ _; refine Ar ?_; try dsimp only [Am, Aa, Ao, Ad])
    | (show DL _ _ _ _ _ _ _; refine dl_d Y Y (fun K kt kf => Ak hG Y Y Y Y Y kt kf) (fun h => ?_) (fun h => ?_))
    | (show DL _ _ _ _ _ _ _; refine dl_s Y Y Y ?_) | (show DL _ _ _ _ _ _ _; refine Bj ?_; first | show AW _ _ _ _ _ _ | show ∃ x', _ < _ ∧ _) | (show AW _ _ (.region _ _ true) _ _ _; refine A1 mix (by kernel_rfl) ?_; intro O1) | fail)
            refine ⟨rfl, ⟨a1, y :: b1, pre, k, hp, by simp only [List.length_cons] at *; omega⟩, by simp only [List.length_cons]; omega, ?_, .refl _⟩
            exact .consW rfl (.eq (by simp [cT])) (.consW rfl (.eq (by simp [cT])) (.cons rfl (.cons rfl (.nil _))))
          · repeat' (first
    | ((first | (show AL _ _ _ _ _ _ _ _; refine Ah Y ?_) | (show DL _ _ _ _ _ _ _; refine' A9 Y Y (fun K kk => ?_) ?_; try (show Go.Ts.T; rotate_left))); (first
      | (show AOp _ _ ⟨_, .move _, _, _, _, _⟩ _ _ _; refine Ap hG Y Y ?_)
      | (show AOp _ _ ⟨_, .assign _, _, _, _, _⟩ _ _ _; refine A6 hG Y Y ?_)
      | (show AOp _ _ ⟨_, .call ⟨.builtin .len, _, _⟩, _, _, _, _⟩ _ _ _; first | refine Ay hG Y Y Y Y ?_ | refine Bb hG Y Y Y Y Y ?_)
      | (show AOp _ _ ⟨_, .binOp .add _ _ _ _, _, _, _, _⟩ _ _ _; first | refine Al hG Y Y Y Y Y (by omega) ?_)
      | (show AOp _ _ ⟨_, .binOp _ _ _ _ _, _, _, _, _⟩ _ _ _; first | refine Aw hG Y Y Y Y Y (by omega) ?_ | refine Ax hG Y Y Y Y Y (by omega) ?_ | ((fail_if_success have := kk); refine Ak hG Y Y Y Y Y (fun h => ?_) (fun h => ?_)))
      | (show AOp _ _ ⟨_, .load _ _, _, _, _, _⟩ _ _ _; first | refine A7 hG Y Y Y ?_ | refine r_ld 0 hG Y Y Y Y ?_)
      | (show AOp _ _ ⟨_, .indexAddr _ _ _, _, _, _, _⟩ _ _ _; first | refine r_idx0 hG Y Y Y Y Y Y Y ?_ | refine Az hG Y Y Y Y Y Y Y (by omega) ?_ | refine A0 hG Y Y Y Y Y Y Y (by omega) ?_ | refine Bd hG Y Y ?_)
      | (show AOp _ _ ⟨_, .slice _ _ _ _ _, _, _, _, _⟩ _ _ _; first | refine A8 hG Y Y Y Y Y Y Y (by omega) ?_ | refine Be hG Y Y Y Y Y Y Y (by omega) ?_ | refine r_sl hG Y Y ?_)
      | (show AOp _ _ ⟨_, .pick _ _ _, _, _, _, _⟩ _ _ _; refine Ba hG Y Y Y ?_)
      | (show AOp _ _ ⟨_, .buildSlice _ _ _, _, _, _, _⟩ _ _ _; first | refine r_mk (sz := 1) hG Y Y Y Y Y Y Y ?_)
      | (show AOp _ _ ⟨_, .call ⟨.builtin .append, _, _⟩, _, _, _, _⟩ _ _ _; first | refine Bi 0 (ys := [x]) hG Y Y Y Y Y Y Y ⟨_, Y⟩ Y Y Y Y Y (by simp only [List.length_append, List.length_map, List.length_cons, List.length_nil]; omega) (fun k => ?_) | refine Bg (sz := 1) (xs := []) hG Y Y Y Y Y Y Y ⟨_, Y⟩ Y Y Y Y Y Y Y (by first | omega | (simp; omega)) (fun k => ?_) | refine Bi 0 hG Y Y Y Y Y Y Y ⟨_, Y⟩ Y Y Y Y Y (by first | omega | (simp only [List.length_append, List.length_cons, List.length_nil]; omega)) (fun k => ?_) | fail)
      | (show AOp _ _ ⟨_, .call ⟨.value _, _, _⟩, _, _, _, _⟩ _ _ _; first | refine A5 Y Y Y Y Y (by apply hk' <;> (first | assumption | omega | exact Ab _ _ | exact Ae _ | exact Ac _ _ | exact Ag _ | rfl | (simp; omega))) ?_ | fail)
      | refine r_q hG Y Y Y ?_); try exact kk)
    | (show AL _ _ _ _ _ _ _ _; first | refine al_s Y Y Y ?_ | (refine Au ?_; first | show AW _ _ _ _ _ _ | show ∃ x', _ < _ ∧ _)) | (show AW _ _ (.seq _ _) _ _ _; refine Ai ?_; intro Q1) | (show AW _ _ (.region _ _ false) _ _ _; refine Af ?_; intro O1) | (show AW _ _ (.cond _ _ _) _ _ _; first | refine As Y ?_ | refine Av Y ?_) | (show AW _ _ (.skip) _ _ _; refine Aq ?_; first | show AW _ _ _ _ _ _ | show ∃ x', _ < _ ∧ _) | (show AW _ _ (.goto _) _ _ _; refine Bs ?_; try dsimp only [Am, Aa, Ao, Ad]) | (show AW _ _ (.ret) _ _ _; refine Ar ?_; try dsimp only [Am, Aa, Ao, Ad])
    | (show DL _ _ _ _ _ _ _; refine dl_d Y Y (fun K kt kf => Ak hG Y Y Y Y Y kt kf) (fun h => ?_) (fun h => ?_))
    | (show DL _ _ _ _ _ _ _; refine dl_s Y Y Y ?_) | (show DL _ _ _ _ _ _ _; refine Bj ?_; first | show AW _ _ _ _ _ _ | show ∃ x', _ < _ ∧ _) | (show AW _ _ (.region _ _ true) _ _ _; refine A1 mix (by kernel_rfl) ?_; intro O1) | fail)
            refine ⟨rfl, ⟨a1, y :: b1, pre ++ [x], _, by simpa using hp, by simp only [List.length_cons, List.length_append, List.length_nil] at *; omega⟩, by simp only [List.length_cons]; omega, ?_, .refl _⟩
            exact .consW rfl (.eq (by simp [cT])) (.consW rfl (.eq (by simp [cT])) (.cons rfl (.cons rfl (.nil _))))
        · rw [if_neg h1] at hp
          rw [← hT_lt] at h1
          by_cases h2 : y < x
          · rw [if_pos h2] at hp
            rw [← hT_lt] at h2
            have hk' := hk false true
            cases hkk : keep false true <;> rw [hkk] at hk' hp
            · repeat' (first
    | ((first | (show AL _ _ _ _ _ _ _ _; refine Ah Y ?_) | (show DL _ _ _ _ _ _ _; refine' A9 Y Y (fun K kk => ?_) ?_; try (show Go.Ts.T; rotate_left))); (first
      | (show AOp _ _ ⟨_, .move _, _, _, _, _⟩ _ _ _; refine Ap hG Y Y ?_)
      | (show AOp _ _ ⟨_, .assign _, _, _, _, _⟩ _ _ _; refine A6 hG Y Y ?_)
      | (show AOp _ _ ⟨_, .call ⟨.builtin .len, _, _⟩, _, _, _, _⟩ _ _ _; first | refine Ay hG Y Y Y Y ?_ | refine Bb hG Y Y Y Y Y ?_)
      | (show AOp _ _ ⟨_, .binOp .add _ _ _ _, _, _, _, _⟩ _ _ _; first | refine Al hG Y Y Y Y Y (by omega) ?_)
      | (show AOp _ _ ⟨_, .binOp _ _ _ _ _, _, _, _, _⟩ _ _ _; first | refine Aw hG Y Y Y Y Y (by omega) ?_ | refine Ax hG Y Y Y Y Y (by omega) ?_ | ((fail_if_success have := kk); refine Ak hG Y Y Y Y Y (fun h => ?_) (fun h => ?_)))
      | (show AOp _ _ ⟨_, .load _ _, _, _, _, _⟩ _ _ _; first | refine A7 hG Y Y Y ?_ | refine r_ld 0 hG Y Y Y Y ?_)
      | (show AOp _ _ ⟨_, .indexAddr _ _ _, _, _, _, _⟩ _ _ _; first | refine r_idx0 hG Y Y Y Y Y Y Y ?_ | refine Az hG Y Y Y Y Y Y Y (by omega) ?_ | refine A0 hG Y Y Y Y Y Y Y (by omega) ?_ | refine Bd hG Y Y ?_)
      | (show AOp _ _ ⟨_, .slice _ _ _ _ _, _, _, _, _⟩ _ _ _; first | refine A8 hG Y Y Y Y Y Y Y (by omega) ?_ | refine Be hG Y Y Y Y Y Y Y (by omega) ?_ | refine r_sl hG Y Y ?_)
      | (show AOp _ _ ⟨_, .pick _ _ _, _, _, _, _⟩ _ _ _; refine Ba hG Y Y Y ?_)
      | (show AOp _ _ ⟨_, .buildSlice _ _ _, _, _, _, _⟩ _ _ _; first | refine r_mk (sz := 1) hG Y Y Y Y Y Y Y ?_)
      | (show AOp _ _ ⟨_, .call ⟨.builtin .append, _, _⟩, _, _, _, _⟩ _ _ _; first | refine Bg (sz := 1) (xs := []) hG Y Y Y Y Y Y Y ⟨_, Y⟩ Y Y Y Y Y Y Y (by first | omega | (simp; omega)) (fun k => ?_) | refine Bi 0 hG Y Y Y Y Y Y Y ⟨_, Y⟩ Y Y Y Y Y (by first | omega | (simp only [List.length_append, List.length_cons, List.length_nil]; omega)) (fun k => ?_) | fail)
      | (show AOp _ _ ⟨_, .call ⟨.value _, _, _⟩, _, _, _, _⟩ _ _ _; first | refine A5 Y Y Y Y Y (by apply hk' <;> (first | assumption | omega | exact Ab _ _ | exact Ae _ | exact Ac _ _ | exact Ag _ | rfl | (simp; omega))) ?_ | fail)
      | refine r_q hG Y Y Y ?_); try exact kk)
    | (show AL _ _ _ _ _ _ _ _; first | refine al_s Y Y Y ?_ | (refine Au ?_; first | show AW _ _ _ _ _ _ | show ∃ x', _ < _ ∧ _)) | (show AW _ _ (.seq _ _) _ _ _; refine Ai ?_; intro Q1) | (show AW _ _ (.region _ _ false) _ _ _; refine Af ?_; intro O1) | (show AW _ _ (.cond _ _ _) _ _ _; first | refine As Y ?_ | refine Av Y ?_) | (show AW _ _ (.skip) _ _ _; refine Aq ?_; first | show AW _ _ _ _ _ _ | show ∃ x', _ < _ ∧ _) | (show AW _ _ (.goto _) _ _ _; refine Bs ?_; try dsimp only [Am, Aa, Ao, Ad]) | (show AW _ _ (.ret) _ _ _; refine Ar ?_; try dsimp only [Am, Aa, Ao, Ad])
    | (show DL _ _ _ _ _ _ _; refine dl_d Y Y (fun K kt kf => Ak hG Y Y Y Y Y kt kf) (fun h => ?_) (fun h => ?_))
    | (show DL _ _ _ _ _ _ _; refine dl_s Y Y Y ?_) | (show DL _ _ _ _ _ _ _; refine Bj ?_; first | show AW _ _ _ _ _ _ | show ∃ x', _ < _ ∧ _) | (show AW _ _ (.region _ _ true) _ _ _; refine A1 mix (by kernel_rfl) ?_; intro O1) | fail)
              refine ⟨rfl, ⟨x :: a1, b1, pre, k, hp, by simp only [List.length_cons] at *; omega⟩, by simp only [List.length_cons]; omega, ?_, .refl _⟩
              exact .consW rfl (.eq (by simp [cT])) (.consW rfl (.eq (by simp [cT])) (.cons rfl (.cons rfl (.nil _))))
            · repeat' (first
    | ((first | (show AL _ _ _ _ _ _ _ _; refine Ah Y ?_) | (show DL _ _ _ _ _ _ _; refine' A9 Y Y (fun K kk => ?_) ?_; try (show Go.Ts.T; rotate_left))); (first
      | (show AOp _ _ ⟨_, .move _, _, _, _, _⟩ _ _ _; refine Ap hG Y Y ?_)
      | (show AOp _ _ ⟨_, .assign _, _, _, _, _⟩ _ _ _; refine A6 hG Y Y ?_)
      | (show AOp _ _ ⟨_, .call ⟨.builtin .len, _, _⟩, _, _, _, _⟩ _ _ _; first | refine Ay hG Y Y Y Y ?_ | refine Bb hG Y Y Y Y Y ?_)
      | (show AOp _ _ ⟨_, .binOp .add _ _ _ _, _, _, _, _⟩ _ _ _; first | refine Al hG Y Y Y Y Y (by omega) ?_)
      | (show AOp _ _ ⟨_, .binOp _ _ _ _ _, _, _, _, _⟩ _ _ _; first | refine Aw hG Y Y Y Y Y (by omega) ?_ | refine Ax hG Y Y Y Y Y (by omega) ?_ | ((fail_if_success have := kk); refine Ak hG Y Y Y Y Y (fun h => ?_) (fun h => ?_)))
      | (show AOp _ _ ⟨_, .load _ _, _, _, _, _⟩ _ _ _; first | refine A7 hG Y Y Y ?_ | refine r_ld 0 hG Y Y Y Y ?_)
      | (show AOp _ _ ⟨_, .indexAddr _ _ _, _, _, _, _⟩ _ _ _; first | refine r_idx0 hG Y Y Y Y Y Y Y ?_ | refine Az hG Y Y Y Y Y Y Y (by omega) ?_ | refine A0 hG Y Y Y Y Y Y Y (by omega) ?_ | refine Bd hG Y Y ?_)
      | (show AOp _ _ ⟨_, .slice _ _ _ _ _, _, _, _, _⟩ _ _ _; first | refine A8 hG Y Y Y Y Y Y Y (by omega) ?_ | refine Be hG Y Y Y Y Y Y Y (by omega) ?_ | refine r_sl hG Y Y ?_)
      | (show AOp _ _ ⟨_, .pick _ _ _, _, _, _, _⟩ _ _ _; refine Ba hG Y Y Y ?_)
      | (show AOp _ _ ⟨_, .buildSlice _ _ _, _, _, _, _⟩ _ _ _; first | refine r_mk (sz := 1) hG Y Y Y Y Y Y Y ?_)
      | (show AOp _ _ ⟨_, .call ⟨.builtin .append, _, _⟩, _, _, _, _⟩ _ _ _; first | refine Bi 0 (ys := [y]) hG Y Y Y Y Y Y Y ⟨_, Y⟩ Y Y Y Y Y (by simp only [List.length_append, List.length_map, List.length_cons, List.length_nil]; omega) (fun k => ?_) | refine Bg (sz := 1) (xs := []) hG Y Y Y Y Y Y Y ⟨_, Y⟩ Y Y Y Y Y Y Y (by first | omega | (simp; omega)) (fun k => ?_) | refine Bi 0 hG Y Y Y Y Y Y Y ⟨_, Y⟩ Y Y Y Y Y (by first | omega | (simp only [List.length_append, List.length_cons, List.length_nil]; omega)) (fun k => ?_) | fail)
      | (show AOp _ _ ⟨_, .call ⟨.value _, _, _⟩, _, _, _, _⟩ _ _ _; first | refine A5 Y Y Y Y Y (by apply hk' <;> (first | assumption | omega | exact Ab _ _ | exact Ae _ | exact Ac _ _ | exact Ag _ | rfl | (simp; omega))) ?_ | fail)
      | refine r_q hG Y Y Y ?_); try exact kk)
    | (show AL _ _ _ _ _ _ _ _; first | refine al_s Y Y Y ?_ | (refine Au ?_; first | show AW _ _ _ _ _ _ | show ∃ x', _ < _ ∧ _)) | (show AW _ _ (.seq _ _) _ _ _; refine Ai ?_; intro Q1) | (show AW _ _ (.region _ _ false) _ _ _; refine Af ?_; intro O1) | (show AW _ _ (.cond _ _ _) _ _ _; first | refine As Y ?_ | refine Av Y ?_) | (show AW _ _ (.skip) _ _ _; refine Aq ?_; first | show AW _ _ _ _ _ _ | show ∃ x', _ < _ ∧ _) | (show AW _ _ (.goto _) _ _ _; refine Bs ?_; try dsimp only [Am, Aa, Ao, Ad]) | (show AW _ _ (.ret) _ _ _; refine Ar ?_; try dsimp only [Am, Aa, Ao, Ad])
    | (show DL _ _ _ _ _ _ _; refine dl_d Y Y (fun K kt kf => Ak hG Y Y Y Y Y kt kf) (fun h => ?_) (fun h => ?_))
    | (show DL _ _ _ _ _ _ _; refine dl_s Y Y Y ?_) | (show DL _ _ _ _ _ _ _; refine Bj ?_; first | show AW _ _ _ _ _ _ | show ∃ x', _ < _ ∧ _) | (show AW _ _ (.region _ _ true) _ _ _; refine A1 mix (by kernel_rfl) ?_; intro O1) | fail)
              refine ⟨rfl, ⟨x :: a1, b1, pre ++ [y], _, by simpa using hp, by simp only [List.length_cons, List.length_append, List.length_nil] at *; omega⟩, by simp only [List.length_cons]; omega, ?_, .refl _⟩
              exact .consW rfl (.eq (by simp [cT])) (.consW rfl (.eq (by simp [cT])) (.cons rfl (.cons rfl (.nil _))))
          · rw [if_neg h2] at hp
            rw [← hT_lt] at h2
            have hk' := hk true true
            cases hkk : keep true true <;> rw [hkk] at hk' hp
            · repeat' (first
    | ((first | (show AL _ _ _ _ _ _ _ _; refine Ah Y ?_) | (show DL _ _ _ _ _ _ _; refine' A9 Y Y (fun K kk => ?_) ?_; try (show Go.Ts.T; rotate_left))); (first
      | (show AOp _ _ ⟨_, .move _, _, _, _, _⟩ _ _ _; refine Ap hG Y Y ?_)
      | (show AOp _ _ ⟨_, .assign _, _, _, _, _⟩ _ _ _; refine A6 hG Y Y ?_)
      | (show AOp _ _ ⟨_, .call ⟨.builtin .len, _, _⟩, _, _, _, _⟩ _ _ _; first | refine Ay hG Y Y Y Y ?_ | refine Bb hG Y Y Y Y Y ?_)
      | (show AOp _ _ ⟨_, .binOp .add _ _ _ _, _, _, _, _⟩ _ _ _; first | refine Al hG Y Y Y Y Y (by omega) ?_)
      | (show AOp _ _ ⟨_, .binOp _ _ _ _ _, _, _, _, _⟩ _ _ _; first | refine Aw hG Y Y Y Y Y (by omega) ?_ | refine Ax hG Y Y Y Y Y (by omega) ?_ | ((fail_if_success have := kk); refine Ak hG Y Y Y Y Y (fun h => ?_) (fun h => ?_)))
      | (show AOp _ _ ⟨_, .load _ _, _, _, _, _⟩ _ _ _; first | refine A7 hG Y Y Y ?_ | refine r_ld 0 hG Y Y Y Y ?_)
      | (show AOp _ _ ⟨_, .indexAddr _ _ _, _, _, _, _⟩ _ _ _; first | refine r_idx0 hG Y Y Y Y Y Y Y ?_ | refine Az hG Y Y Y Y Y Y Y (by omega) ?_ | refine A0 hG Y Y Y Y Y Y Y (by omega) ?_ | refine Bd hG Y Y ?_)
      | (show AOp _ _ ⟨_, .slice _ _ _ _ _, _, _, _, _⟩ _ _ _; first | refine A8 hG Y Y Y Y Y Y Y (by omega) ?_ | refine Be hG Y Y Y Y Y Y Y (by omega) ?_ | refine r_sl hG Y Y ?_)
      | (show AOp _ _ ⟨_, .pick _ _ _, _, _, _, _⟩ _ _ _; refine Ba hG Y Y Y ?_)
      | (show AOp _ _ ⟨_, .buildSlice _ _ _, _, _, _, _⟩ _ _ _; first | refine r_mk (sz := 1) hG Y Y Y Y Y Y Y ?_)
      | (show AOp _ _ ⟨_, .call ⟨.builtin .append, _, _⟩, _, _, _, _⟩ _ _ _; first | refine Bg (sz := 1) (xs := []) hG Y Y Y Y Y Y Y ⟨_, Y⟩ Y Y Y Y Y Y Y (by first | omega | (simp; omega)) (fun k => ?_) | refine Bi 0 hG Y Y Y Y Y Y Y ⟨_, Y⟩ Y Y Y Y Y (by first | omega | (simp only [List.length_append, List.length_cons, List.length_nil]; omega)) (fun k => ?_) | fail)
      | (show AOp _ _ ⟨_, .call ⟨.value _, _, _⟩, _, _, _, _⟩ _ _ _; first | refine A5 Y Y Y Y Y (by apply hk' <;> (first | assumption | omega | exact Ab _ _ | exact Ae _ | exact Ac _ _ | exact Ag _ | rfl | (simp; omega))) ?_ | fail)
      | refine r_q hG Y Y Y ?_); try exact kk)
    | (show AL _ _ _ _ _ _ _ _; first | refine al_s Y Y Y ?_ | (refine Au ?_; first | show AW _ _ _ _ _ _ | show ∃ x', _ < _ ∧ _)) | (show AW _ _ (.seq _ _) _ _ _; refine Ai ?_; intro Q1) | (show AW _ _ (.region _ _ false) _ _ _; refine Af ?_; intro O1) | (show AW _ _ (.cond _ _ _) _ _ _; first | refine As Y ?_ | refine Av Y ?_) | (show AW _ _ (.skip) _ _ _; refine Aq ?_; first | show AW _ _ _ _ _ _ | show ∃ x', _ < _ ∧ _) | (show AW _ _ (.goto _) _ _ _; refine Bs ?_; try dsimp only [Am, Aa, Ao, Ad]) | (show AW _ _ (.ret) _ _ _; refine Ar ?_; try dsimp only [Am, Aa, Ao, Ad])
    | (show DL _ _ _ _ _ _ _; refine dl_d Y Y (fun K kt kf => Ak hG Y Y Y Y Y kt kf) (fun h => ?_) (fun h => ?_))
    | (show DL _ _ _ _ _ _ _; refine dl_s Y Y Y ?_) | (show DL _ _ _ _ _ _ _; refine Bj ?_; first | show AW _ _ _ _ _ _ | show ∃ x', _ < _ ∧ _) | (show AW _ _ (.region _ _ true) _ _ _; refine A1 mix (by kernel_rfl) ?_; intro O1) | fail)
              refine ⟨rfl, ⟨a1, b1, pre, k, hp, by simp only [List.length_cons] at *; omega⟩, by simp only [List.length_cons]; omega, ?_, .refl _⟩
              exact .consW rfl (.eq (by simp [cT])) (.consW rfl (.eq (by simp [cT])) (.cons rfl (.cons rfl (.nil _))))
            · repeat' (first
    | ((first | (show AL _ _ _ _ _ _ _ _; refine Ah Y ?_) | (show DL _ _ _ _ _ _ _; refine' A9 Y Y (fun K kk => ?_) ?_; try (show Go.Ts.T; rotate_left))); (first
      | (show AOp _ _ ⟨_, .move _, _, _, _, _⟩ _ _ _; refine Ap hG Y Y ?_)
      | (show AOp _ _ ⟨_, .assign _, _, _, _, _⟩ _ _ _; refine A6 hG Y Y ?_)
      | (show AOp _ _ ⟨_, .call ⟨.builtin .len, _, _⟩, _, _, _, _⟩ _ _ _; first | refine Ay hG Y Y Y Y ?_ | refine Bb hG Y Y Y Y Y ?_)
      | (show AOp _ _ ⟨_, .binOp .add _ _ _ _, _, _, _, _⟩ _ _ _; first | refine Al hG Y Y Y Y Y (by omega) ?_)
      | (show AOp _ _ ⟨_, .binOp _ _ _ _ _, _, _, _, _⟩ _ _ _; first | refine Aw hG Y Y Y Y Y (by omega) ?_ | refine Ax hG Y Y Y Y Y (by omega) ?_ | ((fail_if_success have := kk); refine Ak hG Y Y Y Y Y (fun h => ?_) (fun h => ?_)))
      | (show AOp _ _ ⟨_, .load _ _, _, _, _, _⟩ _ _ _; first | refine A7 hG Y Y Y ?_ | refine r_ld 0 hG Y Y Y Y ?_)
      | (show AOp _ _ ⟨_, .indexAddr _ _ _, _, _, _, _⟩ _ _ _; first | refine r_idx0 hG Y Y Y Y Y Y Y ?_ | refine Az hG Y Y Y Y Y Y Y (by omega) ?_ | refine A0 hG Y Y Y Y Y Y Y (by omega) ?_ | refine Bd hG Y Y ?_)
      | (show AOp _ _ ⟨_, .slice _ _ _ _ _, _, _, _, _⟩ _ _ _; first | refine A8 hG Y Y Y Y Y Y Y (by omega) ?_ | refine Be hG Y Y Y Y Y Y Y (by omega) ?_ | refine r_sl hG Y Y ?_)
      | (show AOp _ _ ⟨_, .pick _ _ _, _, _, _, _⟩ _ _ _; refine Ba hG Y Y Y ?_)
      | (show AOp _ _ ⟨_, .buildSlice _ _ _, _, _, _, _⟩ _ _ _; first | refine r_mk (sz := 1) hG Y Y Y Y Y Y Y ?_)
      | (show AOp _ _ ⟨_, .call ⟨.builtin .append, _, _⟩, _, _, _, _⟩ _ _ _; first | refine Bi 0 (ys := [x]) hG Y Y Y Y Y Y Y ⟨_, Y⟩ Y Y Y Y Y (by simp only [List.length_append, List.length_map, List.length_cons, List.length_nil]; omega) (fun k => ?_) | refine Bg (sz := 1) (xs := []) hG Y Y Y Y Y Y Y ⟨_, Y⟩ Y Y Y Y Y Y Y (by first | omega | (simp; omega)) (fun k => ?_) | refine Bi 0 hG Y Y Y Y Y Y Y ⟨_, Y⟩ Y Y Y Y Y (by first | omega | (simp only [List.length_append, List.length_cons, List.length_nil]; omega)) (fun k => ?_) | fail)
      | (show AOp _ _ ⟨_, .call ⟨.value _, _, _⟩, _, _, _, _⟩ _ _ _; first | refine A5 Y Y Y Y Y (by apply hk' <;> (first | assumption | omega | exact Ab _ _ | exact Ae _ | exact Ac _ _ | exact Ag _ | rfl | (simp; omega))) ?_ | fail)
      | refine r_q hG Y Y Y ?_); try exact kk)
    | (show AL _ _ _ _ _ _ _ _; first | refine al_s Y Y Y ?_ | (refine Au ?_; first | show AW _ _ _ _ _ _ | show ∃ x', _ < _ ∧ _)) | (show AW _ _ (.seq _ _) _ _ _; refine Ai ?_; intro Q1) | (show AW _ _ (.region _ _ false) _ _ _; refine Af ?_; intro O1) | (show AW _ _ (.cond _ _ _) _ _ _; first | refine As Y ?_ | refine Av Y ?_) | (show AW _ _ (.skip) _ _ _; refine Aq ?_; first | show AW _ _ _ _ _ _ | show ∃ x', _ < _ ∧ _) | (show AW _ _ (.goto _) _ _ _; refine Bs ?_; try dsimp only [Am, Aa, Ao, Ad]) | (show AW _ _ (.ret) _ _ _; refine Ar ?_; try dsimp only [Am, Aa, Ao, Ad])
    | (show DL _ _ _ _ _ _ _; refine dl_d Y Y (fun K kt kf => Ak hG Y Y Y Y Y kt kf) (fun h => ?_) (fun h => ?_))
    | (show DL _ _ _ _ _ _ _; refine dl_s Y Y Y ?_) | (show DL _ _ _ _ _ _ _; refine Bj ?_; first | show AW _ _ _ _ _ _ | show ∃ x', _ < _ ∧ _) | (show AW _ _ (.region _ _ true) _ _ _; refine A1 mix (by kernel_rfl) ?_; intro O1) | fail)
              refine ⟨rfl, ⟨a1, b1, pre ++ [x], _, by simpa using hp, by simp only [List.length_cons, List.length_append, List.length_nil] at *; omega⟩, by simp only [List.length_cons]; omega, ?_, .refl _⟩
              exact .consW rfl (.eq (by simp [cT])) (.consW rfl (.eq (by simp [cT])) (.cons rfl (.cons rfl (.nil _))))
  · intro key
    repeat' (first
    | ((first | (show AL _ _ _ _ _ _ _ _; refine Ah Y ?_) | (show DL _ _ _ _ _ _ _; refine' A9 Y Y (fun K kk => ?_) ?_; try (show Go.Ts.T; rotate_left))); (first
      | (show AOp _ _ ⟨_, .move _, _, _, _, _⟩ _ _ _; refine Ap hG Y Y ?_)
      | (show AOp _ _ ⟨_, .assign _, _, _, _, _⟩ _ _ _; refine A6 hG Y Y ?_)
      | (show AOp _ _ ⟨_, .call ⟨.builtin .len, _, _⟩, _, _, _, _⟩ _ _ _; first | refine Ay hG Y Y Y Y ?_ | refine Bb hG Y Y Y Y Y ?_)
      | (show AOp _ _ ⟨_, .binOp .add _ _ _ _, _, _, _, _⟩ _ _ _; first | refine Al hG Y Y Y Y Y (by omega) ?_)
      | (show AOp _ _ ⟨_, .binOp _ _ _ _ _, _, _, _, _⟩ _ _ _; first | refine Aw hG Y Y Y Y Y (by omega) ?_ | refine Ax hG Y Y Y Y Y (by omega) ?_ | ((fail_if_success have := kk); refine Ak hG Y Y Y Y Y (fun h => ?_) (fun h => ?_)))
      | (show AOp _ _ ⟨_, .load _ _, _, _, _, _⟩ _ _ _; first | refine A7 hG Y Y Y ?_ | refine r_ld 0 hG Y Y Y Y ?_)
      | (show AOp _ _ ⟨_, .indexAddr _ _ _, _, _, _, _⟩ _ _ _; first | refine r_idx0 hG Y Y Y Y Y Y Y ?_ | refine Az hG Y Y Y Y Y Y Y (by omega) ?_ | refine A0 hG Y Y Y Y Y Y Y (by omega) ?_ | refine Bd hG Y Y ?_)
      | (show AOp _ _ ⟨_, .slice _ _ _ _ _, _, _, _, _⟩ _ _ _; first | refine A8 hG Y Y Y Y Y Y Y (by omega) ?_ | refine Be hG Y Y Y Y Y Y Y (by omega) ?_ | refine r_sl hG Y Y ?_)
      | (show AOp _ _ ⟨_, .pick _ _ _, _, _, _, _⟩ _ _ _; refine Ba hG Y Y Y ?_)
      | (show AOp _ _ ⟨_, .buildSlice _ _ _, _, _, _, _⟩ _ _ _; first | refine r_mk (sz := 1) hG Y Y Y Y Y Y Y ?_)
      | (show AOp _ _ ⟨_, .call ⟨.builtin .append, _, _⟩, _, _, _, _⟩ _ _ _; first | refine Bg (sz := 1) (xs := []) hG Y Y Y Y Y Y Y ⟨_, Y⟩ Y Y Y Y Y Y Y (by first | omega | (simp; omega)) (fun k => ?_) | refine Bi 0 hG Y Y Y Y Y Y Y ⟨_, Y⟩ Y Y Y Y Y (by first | omega | (simp only [List.length_append, List.length_cons, List.length_nil]; omega)) (fun k => ?_) | fail)
      | refine r_q hG Y Y Y ?_); try exact kk)
    | (show AL _ _ _ _ _ _ _ _; first | refine al_s Y Y Y ?_ | (refine Au ?_; first | show AW _ _ _ _ _ _ | show ∃ x', _ < _ ∧ _)) | (show AW _ _ (.seq _ _) _ _ _; refine Ai ?_; intro Q1) | (show AW _ _ (.region _ _ false) _ _ _; refine Af ?_; intro O1) | (show AW _ _ (.cond _ _ _) _ _ _; first | refine As Y ?_ | refine Av Y ?_) | (show AW _ _ (.skip) _ _ _; refine Aq ?_; first | show AW _ _ _ _ _ _ | show ∃ x', _ < _ ∧ _) | (show AW _ _ (.goto _) _ _ _; refine Bs ?_; try dsimp only [Am, Aa, Ao, Ad]) | (show AW _ _ (.ret) _ _ _; refine Ar ?_; try dsimp only [Am, Aa, Ao, Ad])
    | (show DL _ _ _ _ _ _ _; refine dl_d Y Y (fun K kt kf => Ak hG Y Y Y Y Y kt kf) (fun h => ?_) (fun h => ?_))
    | (show DL _ _ _ _ _ _ _; refine dl_s Y Y Y ?_) | (show DL _ _ _ _ _ _ _; refine Bj ?_; first | show AW _ _ _ _ _ _ | show ∃ x', _ < _ ∧ _) | (show AW _ _ (.region _ _ true) _ _ _; refine A1 mix (by kernel_rfl) ?_; intro O1) | fail)
    refine aw_label ?_
    show AW _ _ _ _ _ _
    refine aw_tok0 7 1 rfl rfl rfl rfl (fun k => ?_)
    refine aw_forget ?_ (key ⟨a, b, [], k, rfl, by simp⟩)
    exact .cons rfl (.cons rfl (.cons rfl (.cons rfl (.nil _))))
end Go.Proofs.Ytnmpgipfbbilbaa
namespace Go.Proofs.Ytnmpgipfbbilbaa
open Go.Ts Go.Sets
attribute [local irreducible] Go.Ts.AW Go.Ts.AOps Go.Ts.AL Go.Ts.AOp Go.Ts.ACalls Go.Ts.DL
theorem drop_tok {k : Nat} {R' : List Nat} {off : Nat → Nat → Prop} : Go.Ts.GStep ⟨[], k :: R', off, none⟩ ⟨[], [k], off, none⟩ :=
  keep_step (σ := ⟨[], k :: R', off, none⟩) (List.Sublist.refl _) (List.singleton_sublist.2 (by simp))
theorem cats_Or1 (i t : Bool) : Pure Try.prog 34 [.bool i, .bool t] (.bool (kOr i t)) := by
  intro off
  refine Bn (N := 5) (rs := [.tmp 4]) hG Try.func34 rfl rfl rfl rfl rfl ?_
  repeat' (first
    | ((show AL _ _ _ _ _ _ _ _; refine Ah Y ?_); (first
      | (show AOp _ _ ⟨_, .assign _, _, _, _, _⟩ _ _ _; refine A6 hG Y Y ?_)
      | refine r_q hG Y Y Y ?_))
    | (show AL _ _ _ _ _ _ _ _; first | refine al_s Y Y Y ?_ | (refine Au ?_; first | show AW _ _ _ _ _ _ | show ∃ x', _ < _ ∧ _)) | (show AW _ _ (.seq _ _) _ _ _; refine Ai ?_; intro Q1) | (show AW _ _ (.region _ _ false) _ _ _; refine Af ?_; intro O1) | (show AW _ _ (.ret) _ _ _; refine Ar ?_; try dsimp only [Am, Aa, Ao, Ad]) | fail)
  exact Bv (Bm rfl Bp) (.refl _) rfl
end Go.Proofs.Ytnmpgipfbbilbaa
set_option linter.unusedVariables false
set_option linter.unusedSimpArgs false
namespace Go.Ts
section
variable {P : Program} {G : Nat → Option TI} {w w1 : World} {μ : Gh} {σ σ1 : St} {N : Nat} {a : Env} {Q : Exit → Env → St → Prop}
theorem ret_live {rs : List ResultVar} {ts : List T} {r : T} {R : T → St → Prop} (h : ResRs G a σ rs ts) (hw : Wk (tup1 ts) r) (hR : R r σ) : retA G rs R .ret a σ :=
  ⟨ts, h, (conv_drop (L' := σ.L) (R' := σ.R) (List.Sublist.refl _) (List.Sublist.refl _) hw).cr hR⟩
end
end Go.Ts
namespace Go.Proofs.Ytnmpgipfbbilbaa
open Go.Ts
attribute [local irreducible] Go.Ts.AW Go.Ts.AOps Go.Ts.AL Go.Ts.AOp Go.Ts.ACalls Go.Ts.DL Go.Ts.DQ0 Go.Ts.EL
end Go.Proofs.Ytnmpgipfbbilbaa
namespace Go.Ts
section
variable {P : Program} {G : Nat → Option TI} {N : Nat} {σ : St} {a : Env} {K : Env → St → Prop} {d : Tmp} {ty : TypeId} {pos : String} {af : Array Edge} {gd : Option (Nat × Bool)}
end
end Go.Ts
namespace Go.Proofs.Ytnmpgipfbbilbaa
open Go.Ts
set_option linter.unusedSimpArgs false
set_option linter.unusedVariables false
attribute [local irreducible] Go.Ts.AW Go.Ts.AOps Go.Ts.AL Go.Ts.AOp Go.Ts.ACalls Go.Ts.DL Go.Ts.DQ0 Go.Ts.EL
def dd : List UInt16 → List UInt16
  | [] => []
  | [x] => [x]
  | x :: y :: t => if x = y then dd (y :: t) else x :: dd (y :: t)
end Go.Proofs.Ytnmpgipfbbilbaa
namespace Go.Proofs.Ytnmpgipfbbilbaa
open Go.Ts Go.Sets
attribute [local irreducible] Go.Ts.AW Go.Ts.AOps Go.Ts.AL Go.Ts.AOp Go.Ts.ACalls Go.Ts.DL Go.Ts.DQ Go.Ts.EL
theorem ins_at {x : UInt16} : ∀ (l : List UInt16) (n : Nat), n ≤ l.length → (∀ j, j < n → l.getD j default < x) → (n < l.length → ¬ l.getD n default < x) →
    ins x l = if n < l.length ∧ l.getD n default = x then l else l.take n ++ x :: l.drop n
  | [], n, hn, _, _ => by
    have : n = 0 := by simpa using hn
    subst this; simp [ins]
  | y :: l, 0, _, _, h => by
    have h0 : ¬ y < x := by simpa using h (by simp)
    rw [ins]
    by_cases h1 : x < y
    · rw [if_pos h1, if_neg (by simp; exact fun e => lt_irrefl x (e ▸ h1 : x < x))]; rfl
    · have : x = y := by rcases lt_or (x := x) (y := y) with h | h | h
                         · exact absurd h h1
                         · exact h
                         · exact absurd h h0
      subst this
      rw [if_neg h1, if_pos rfl, if_pos (by simp)]
  | y :: l, n + 1, hn, hb, h => by
    have h0 : y < x := by simpa using hb 0 (by omega)
    rw [ins, if_neg (lt_asymm h0), if_neg (fun e => lt_irrefl x (by rw [e] at h0 ⊢; exact (e ▸ h0))),
      ins_at l n (by simpa using hn) (fun j hj => by simpa using hb (j + 1) (by omega)) (fun hj => by simpa using h (by simpa using hj))]
    by_cases hc : n < l.length ∧ l.getD n default = x
    · rw [if_pos hc, if_pos (by simpa using hc)]
    · rw [if_neg hc, if_neg (by simpa using hc)]; rfl
theorem mk_snoc (l : List UInt16) (x : UInt16) : mk (l ++ [x]) = ins x (mk l) := by simp [mk, List.foldl_append]

structure MkX (a : List UInt16) where
  i : Nat
  k : Nat
  hi : i ≤ a.length
structure MkY (l : List UInt16) (x : UInt16) where
  n : Nat
  hn : n ≤ l.length
  hb : ∀ j, j < n → l.getD j default < x
set_option maxHeartbeats 800000 in
theorem ref_Make {x : T} {a : List UInt16} (hx : catsT x = some a) (hl : a.length ≤ 4294967000) : Owns Try.prog 13 [x] 1 ((mk a).map hT) := by
  refine Owns.weak (us := [cT a]) ?_ (wk1 (Bw hx))
  intro off
  refine Bn (N := 60) (rs := [.tmp 2]) hG Try.func13 rfl rfl rfl rfl rfl ?_
  repeat' (first
    | ((first | (show AL _ _ _ _ _ _ _ _; refine Ah Y ?_) | (show DL _ _ _ _ _ _ _; refine' A9 Y Y (fun K kk => ?_) ?_; try (show Go.Ts.T; rotate_left))); (first
      | (show AOp _ _ ⟨_, .move _, _, _, _, _⟩ _ _ _; refine Ap hG Y Y ?_)
      | (show AOp _ _ ⟨_, .assign _, _, _, _, _⟩ _ _ _; refine A6 hG Y Y ?_)
      | (show AOp _ _ ⟨_, .call ⟨.builtin .len, _, _⟩, _, _, _, _⟩ _ _ _; first | refine Ay hG Y Y Y Y ?_ | refine Bb hG Y Y Y Y Y ?_)
      | (show AOp _ _ ⟨_, .binOp .add _ _ _ _, _, _, _, _⟩ _ _ _; first | refine Al hG Y Y Y Y Y (by omega) ?_)
      | (show AOp _ _ ⟨_, .binOp _ _ _ _ _, _, _, _, _⟩ _ _ _; first | refine Aw hG Y Y Y Y Y (by omega) ?_ | refine Ax hG Y Y Y Y Y (by omega) ?_ | ((fail_if_success have := kk); refine Ak hG Y Y Y Y Y (fun h => ?_) (fun h => ?_)))
      | (show AOp _ _ ⟨_, .load _ _, _, _, _, _⟩ _ _ _; first | refine A7 hG Y Y Y ?_ | refine r_ld 0 hG Y Y Y Y ?_)
      | (show AOp _ _ ⟨_, .indexAddr _ _ _, _, _, _, _⟩ _ _ _; first | refine Az hG Y Y Y Y Y Y Y (by omega) ?_ | refine A0 hG Y Y Y Y Y Y Y (by omega) ?_ | refine Bd hG Y Y ?_)
      | (show AOp _ _ ⟨_, .slice _ _ _ _ _, _, _, _, _⟩ _ _ _; first | refine A8 hG Y Y Y Y Y Y Y (by omega) ?_ | refine r_sl_hin hG Y Y Y Y Y Y Y (by omega) ?_ | refine Be hG Y Y Y Y Y Y Y (by omega) ?_ | refine r_sl_hi hG Y Y Y Y Y Y Y (by omega) ?_ | refine op_cut0 hG Y Y Y Y Y Y Y Y Y Y ?_ | refine r_sl hG Y Y ?_)
      | (show AOp _ _ ⟨_, .pick _ _ _, _, _, _, _⟩ _ _ _; refine Ba hG Y Y Y ?_)
      | (show AOp _ _ ⟨_, .buildSlice _ _ _, _, _, _, _⟩ _ _ _; first | refine r_mk (sz := 1) hG Y Y Y Y Y Y Y ?_)
      | (show AOp _ _ ⟨_, .call ⟨.builtin .append, _, _⟩, _, _, _, _⟩ _ _ _; first | refine Bg (sz := 1) (xs := []) hG Y Y Y Y Y Y Y ⟨_, Y⟩ Y Y Y Y Y Y Y (by first | omega | (simp; omega)) (fun k => ?_) | refine Bi 0 hG Y Y Y Y Y Y Y ⟨_, Y⟩ Y Y Y Y Y (by first | omega | (simp only [List.length_append, List.length_cons, List.length_nil]; omega)) (fun k => ?_) | fail)
      | refine r_q hG Y Y Y ?_); try exact kk)
    | (show AL _ _ _ _ _ _ _ _; first | refine al_s Y Y Y ?_ | (refine Au ?_; first | show AW _ _ _ _ _ _ | show ∃ x', _ < _ ∧ _)) | (show AW _ _ (.seq _ _) _ _ _; refine Ai ?_; intro Q1) | (show AW _ _ (.region _ _ false) _ _ _; refine Af ?_; intro O1) | (show AW _ _ (.cond _ _ _) _ _ _; first | refine As Y ?_ | refine Av Y ?_) | (show AW _ _ (.skip) _ _ _; refine Aq ?_; first | show AW _ _ _ _ _ _ | show ∃ x', _ < _ ∧ _) | (show AW _ _ (.block _ _) _ _ _; refine A4 ?_; intro Q1) | (show AW _ _ (.exit _) _ _ _; refine Bh ?_; first | show AW _ _ _ _ _ _ | show ∃ x', _ < _ ∧ _) | (show AW _ _ (.ret) _ _ _; refine Ar ?_; try dsimp only [Am, Aa, Ao, Ad])
    | (show DL _ _ _ _ _ _ _; refine dl_d Y Y (fun K kt kf => Ak hG Y Y Y Y Y kt kf) (fun h => ?_) (fun h => ?_))
    | (show DL _ _ _ _ _ _ _; refine dl_s Y Y Y ?_) | (show DL _ _ _ _ _ _ _; refine Bj ?_; first | show AW _ _ _ _ _ _ | show ∃ x', _ < _ ∧ _) | (show AW _ _ (.region _ _ true) _ _ _; refine A1 mix (by kernel_rfl) ?_; intro O1) | fail)
  refine aw_tok0 3 1 rfl rfl rfl rfl (fun k => ?_)
  refine aw_loop (X := MkX a) (fun x => [(0, cT a), (4, .int .i64 x.i), (3, .sl 1 (.tok x.k) ((mk (a.take x.i)).map hT))]) (fun x => ⟨[], [x.k], off, none⟩) (fun x => a.length - x.i) ⟨0, k, Nat.zero_le _⟩ ?_ (.refl _) ?_
  · exact .cons rfl (.consW rfl (.int rfl) (.consW rfl (.eq (by simp [mk])) (.nil _)))
  rintro ⟨i, k, hi⟩
  dsimp only
  by_cases hib : i < a.length
  · have hml := mk_length_le (a.take i)
    have htl : (a.take i).length = i := by rw [List.length_take]; omega
    have hnew : mk (a.take (i + 1)) = ins (a.getD i default) (mk (a.take i)) := by rw [take_getD a i hib, mk_snoc]
    generalize hm : mk (a.take i) = m at *
    repeat' (first
    | ((first | (show AL _ _ _ _ _ _ _ _; refine Ah Y ?_) | (show DL _ _ _ _ _ _ _; refine' A9 Y Y (fun K kk => ?_) ?_; try (show Go.Ts.T; rotate_left))); (first
      | (show AOp _ _ ⟨_, .move _, _, _, _, _⟩ _ _ _; refine Ap hG Y Y ?_)
      | (show AOp _ _ ⟨_, .assign _, _, _, _, _⟩ _ _ _; refine A6 hG Y Y ?_)
      | (show AOp _ _ ⟨_, .call ⟨.builtin .len, _, _⟩, _, _, _, _⟩ _ _ _; first | refine Ay hG Y Y Y Y ?_ | refine Bb hG Y Y Y Y Y ?_)
      | (show AOp _ _ ⟨_, .binOp .add _ _ _ _, _, _, _, _⟩ _ _ _; first | refine Al hG Y Y Y Y Y (by omega) ?_)
      | (show AOp _ _ ⟨_, .binOp _ _ _ _ _, _, _, _, _⟩ _ _ _; first | refine Aw hG Y Y Y Y Y (by omega) ?_ | refine Ax hG Y Y Y Y Y (by omega) ?_ | ((fail_if_success have := kk); refine Ak hG Y Y Y Y Y (fun h => ?_) (fun h => ?_)))
      | (show AOp _ _ ⟨_, .load _ _, _, _, _, _⟩ _ _ _; first | refine A7 hG Y Y Y ?_ | refine r_ld 0 hG Y Y Y Y ?_)
      | (show AOp _ _ ⟨_, .indexAddr _ _ _, _, _, _, _⟩ _ _ _; first | refine Az hG Y Y Y Y Y Y Y (by omega) ?_ | refine A0 hG Y Y Y Y Y Y Y (by omega) ?_ | refine Bd hG Y Y ?_)
      | (show AOp _ _ ⟨_, .slice _ _ _ _ _, _, _, _, _⟩ _ _ _; first | refine A8 hG Y Y Y Y Y Y Y (by omega) ?_ | refine r_sl_hin hG Y Y Y Y Y Y Y (by omega) ?_ | refine Be hG Y Y Y Y Y Y Y (by omega) ?_ | refine r_sl_hi hG Y Y Y Y Y Y Y (by omega) ?_ | refine op_cut0 hG Y Y Y Y Y Y Y Y Y Y ?_ | refine r_sl hG Y Y ?_)
      | (show AOp _ _ ⟨_, .pick _ _ _, _, _, _, _⟩ _ _ _; refine Ba hG Y Y Y ?_)
      | (show AOp _ _ ⟨_, .buildSlice _ _ _, _, _, _, _⟩ _ _ _; first | refine r_mk (sz := 1) hG Y Y Y Y Y Y Y ?_)
      | (show AOp _ _ ⟨_, .call ⟨.builtin .append, _, _⟩, _, _, _, _⟩ _ _ _; first | refine Bg (sz := 1) (xs := []) hG Y Y Y Y Y Y Y ⟨_, Y⟩ Y Y Y Y Y Y Y (by first | omega | (simp; omega)) (fun k => ?_) | refine Bi 0 hG Y Y Y Y Y Y Y ⟨_, Y⟩ Y Y Y Y Y (by first | omega | (simp only [List.length_append, List.length_cons, List.length_nil]; omega)) (fun k => ?_) | fail)
      | refine r_q hG Y Y Y ?_); try exact kk)
    | (show AL _ _ _ _ _ _ _ _; first | refine al_s Y Y Y ?_ | (refine Au ?_; first | show AW _ _ _ _ _ _ | show ∃ x', _ < _ ∧ _)) | (show AW _ _ (.seq _ _) _ _ _; refine Ai ?_; intro Q1) | (show AW _ _ (.region _ _ false) _ _ _; refine Af ?_; intro O1) | (show AW _ _ (.cond _ _ _) _ _ _; first | refine As Y ?_ | refine Av Y ?_) | (show AW _ _ (.skip) _ _ _; refine Aq ?_; first | show AW _ _ _ _ _ _ | show ∃ x', _ < _ ∧ _) | (show AW _ _ (.block _ _) _ _ _; refine A4 ?_; intro Q1) | (show AW _ _ (.exit _) _ _ _; refine Bh ?_; first | show AW _ _ _ _ _ _ | show ∃ x', _ < _ ∧ _) | (show AW _ _ (.ret) _ _ _; refine Ar ?_; try dsimp only [Am, Aa, Ao, Ad])
    | (show DL _ _ _ _ _ _ _; refine dl_d Y Y (fun K kt kf => Ak hG Y Y Y Y Y kt kf) (fun h => ?_) (fun h => ?_))
    | (show DL _ _ _ _ _ _ _; refine dl_s Y Y Y ?_) | (show DL _ _ _ _ _ _ _; refine Bj ?_; first | show AW _ _ _ _ _ _ | show ∃ x', _ < _ ∧ _) | (show AW _ _ (.region _ _ true) _ _ _; refine A1 mix (by kernel_rfl) ?_; intro O1) | fail)
    refine aw_loop (X := MkY m (a.getD i default)) (fun x => [(0, cT a), (4, .int .i64 i), (3, .sl 1 (.tok k) (m.map hT)), (5, .int .i64 x.n)]) (fun x => ⟨[], [k], off, none⟩) (fun x => m.length - x.n) ⟨0, Nat.zero_le _, fun j hj => by omega⟩ ?_ (.refl _) ?_
    · exact .cons rfl (.cons rfl (.cons rfl (.consW rfl (.int rfl) (.nil _))))
    rintro ⟨n, hn, hb⟩
    dsimp only
    have htn : (m.take n).length = n := by rw [List.length_take]; omega
    have hdn : (m.drop n).length = m.length - n := List.length_drop
    by_cases hnm : n < m.length
    · by_cases hlt : (((m.getD n default).toNat : Int) < ((a.getD i default).toNat : Int))
      · repeat' (first
    | ((first | (show AL _ _ _ _ _ _ _ _; refine Ah Y ?_) | (show DL _ _ _ _ _ _ _; refine' A9 Y Y (fun K kk => ?_) ?_; try (show Go.Ts.T; rotate_left))); (first
      | (show AOp _ _ ⟨_, .move _, _, _, _, _⟩ _ _ _; refine Ap hG Y Y ?_)
      | (show AOp _ _ ⟨_, .assign _, _, _, _, _⟩ _ _ _; refine A6 hG Y Y ?_)
      | (show AOp _ _ ⟨_, .call ⟨.builtin .len, _, _⟩, _, _, _, _⟩ _ _ _; first | refine Ay hG Y Y Y Y ?_ | refine Bb hG Y Y Y Y Y ?_)
      | (show AOp _ _ ⟨_, .binOp .add _ _ _ _, _, _, _, _⟩ _ _ _; first | refine Al hG Y Y Y Y Y (by omega) ?_)
      | (show AOp _ _ ⟨_, .binOp _ _ _ _ _, _, _, _, _⟩ _ _ _; first | refine Aw hG Y Y Y Y Y (by omega) ?_ | refine Ax hG Y Y Y Y Y (by omega) ?_ | ((fail_if_success have := kk); refine Ak hG Y Y Y Y Y (fun h => ?_) (fun h => ?_)))
      | (show AOp _ _ ⟨_, .load _ _, _, _, _, _⟩ _ _ _; first | refine A7 hG Y Y Y ?_ | refine r_ld 0 hG Y Y Y Y ?_)
      | (show AOp _ _ ⟨_, .indexAddr _ _ _, _, _, _, _⟩ _ _ _; first | refine Az hG Y Y Y Y Y Y Y (by omega) ?_ | refine A0 hG Y Y Y Y Y Y Y (by omega) ?_ | refine Bd hG Y Y ?_)
      | (show AOp _ _ ⟨_, .slice _ _ _ _ _, _, _, _, _⟩ _ _ _; first | refine A8 hG Y Y Y Y Y Y Y (by omega) ?_ | refine r_sl_hin hG Y Y Y Y Y Y Y (by omega) ?_ | refine Be hG Y Y Y Y Y Y Y (by omega) ?_ | refine r_sl_hi hG Y Y Y Y Y Y Y (by omega) ?_ | refine op_cut0 hG Y Y Y Y Y Y Y Y Y Y ?_ | refine r_sl hG Y Y ?_)
      | (show AOp _ _ ⟨_, .pick _ _ _, _, _, _, _⟩ _ _ _; refine Ba hG Y Y Y ?_)
      | (show AOp _ _ ⟨_, .buildSlice _ _ _, _, _, _, _⟩ _ _ _; first | refine r_mk (sz := 1) hG Y Y Y Y Y Y Y ?_)
      | (show AOp _ _ ⟨_, .call ⟨.builtin .append, _, _⟩, _, _, _, _⟩ _ _ _; first | refine Bg (sz := 1) (xs := []) hG Y Y Y Y Y Y Y ⟨_, Y⟩ Y Y Y Y Y Y Y (by first | omega | (simp; omega)) (fun k => ?_) | refine Bi 0 hG Y Y Y Y Y Y Y ⟨_, Y⟩ Y Y Y Y Y (by first | omega | (simp only [List.length_append, List.length_cons, List.length_nil]; omega)) (fun k => ?_) | fail)
      | refine r_q hG Y Y Y ?_); try exact kk)
    | (show AL _ _ _ _ _ _ _ _; first | refine al_s Y Y Y ?_ | (refine Au ?_; first | show AW _ _ _ _ _ _ | show ∃ x', _ < _ ∧ _)) | (show AW _ _ (.seq _ _) _ _ _; refine Ai ?_; intro Q1) | (show AW _ _ (.region _ _ false) _ _ _; refine Af ?_; intro O1) | (show AW _ _ (.cond _ _ _) _ _ _; first | refine As Y ?_ | refine Av Y ?_) | (show AW _ _ (.skip) _ _ _; refine Aq ?_; first | show AW _ _ _ _ _ _ | show ∃ x', _ < _ ∧ _) | (show AW _ _ (.block _ _) _ _ _; refine A4 ?_; intro Q1) | (show AW _ _ (.exit _) _ _ _; refine Bh ?_; first | show AW _ _ _ _ _ _ | show ∃ x', _ < _ ∧ _) | (show AW _ _ (.ret) _ _ _; refine Ar ?_; try dsimp only [Am, Aa, Ao, Ad])
    | (show DL _ _ _ _ _ _ _; refine dl_d Y Y (fun K kt kf => Ak hG Y Y Y Y Y kt kf) (fun h => ?_) (fun h => ?_))
    | (show DL _ _ _ _ _ _ _; refine dl_s Y Y Y ?_) | (show DL _ _ _ _ _ _ _; refine Bj ?_; first | show AW _ _ _ _ _ _ | show ∃ x', _ < _ ∧ _) | (show AW _ _ (.region _ _ true) _ _ _; refine A1 mix (by kernel_rfl) ?_; intro O1) | fail)
        refine ⟨⟨n + 1, by omega, fun j hj => ?_⟩, by dsimp only; omega, ?_, .refl _⟩
        · by_cases hj2 : j < n
          · exact hb j hj2
          · obtain rfl : j = n := by omega
            rw [UInt16.lt_iff_toNat_lt]; omega
        · exact .cons rfl (.cons rfl (.cons rfl (.consW rfl (.int (by simp)) (.nil _))))
      · have hi2 := ins_at m n hn hb (fun _ h => hlt (hT_lt.2 h))
        by_cases heq : (((m.getD n default).toNat : Int) = ((a.getD i default).toNat : Int))
        · rw [if_pos ⟨hnm, by rw [← UInt16.toNat_inj]; omega⟩] at hi2
          repeat' (first
    | ((first | (show AL _ _ _ _ _ _ _ _; refine Ah Y ?_) | (show DL _ _ _ _ _ _ _; refine' A9 Y Y (fun K kk => ?_) ?_; try (show Go.Ts.T; rotate_left))); (first
      | (show AOp _ _ ⟨_, .move _, _, _, _, _⟩ _ _ _; refine Ap hG Y Y ?_)
      | (show AOp _ _ ⟨_, .assign _, _, _, _, _⟩ _ _ _; refine A6 hG Y Y ?_)
      | (show AOp _ _ ⟨_, .call ⟨.builtin .len, _, _⟩, _, _, _, _⟩ _ _ _; first | refine Ay hG Y Y Y Y ?_ | refine Bb hG Y Y Y Y Y ?_)
      | (show AOp _ _ ⟨_, .binOp .add _ _ _ _, _, _, _, _⟩ _ _ _; first | refine Al hG Y Y Y Y Y (by omega) ?_)
      | (show AOp _ _ ⟨_, .binOp _ _ _ _ _, _, _, _, _⟩ _ _ _; first | refine Aw hG Y Y Y Y Y (by omega) ?_ | refine Ax hG Y Y Y Y Y (by omega) ?_ | ((fail_if_success have := kk); refine Ak hG Y Y Y Y Y (fun h => ?_) (fun h => ?_)))
      | (show AOp _ _ ⟨_, .load _ _, _, _, _, _⟩ _ _ _; first | refine A7 hG Y Y Y ?_ | refine r_ld 0 hG Y Y Y Y ?_)
      | (show AOp _ _ ⟨_, .indexAddr _ _ _, _, _, _, _⟩ _ _ _; first | refine Az hG Y Y Y Y Y Y Y (by omega) ?_ | refine A0 hG Y Y Y Y Y Y Y (by omega) ?_ | refine Bd hG Y Y ?_)
      | (show AOp _ _ ⟨_, .slice _ _ _ _ _, _, _, _, _⟩ _ _ _; first | refine A8 hG Y Y Y Y Y Y Y (by omega) ?_ | refine r_sl_hin hG Y Y Y Y Y Y Y (by omega) ?_ | refine Be hG Y Y Y Y Y Y Y (by omega) ?_ | refine r_sl_hi hG Y Y Y Y Y Y Y (by omega) ?_ | refine op_cut0 hG Y Y Y Y Y Y Y Y Y Y ?_ | refine r_sl hG Y Y ?_)
      | (show AOp _ _ ⟨_, .pick _ _ _, _, _, _, _⟩ _ _ _; refine Ba hG Y Y Y ?_)
      | (show AOp _ _ ⟨_, .buildSlice _ _ _, _, _, _, _⟩ _ _ _; first | refine r_mk (sz := 1) hG Y Y Y Y Y Y Y ?_)
      | (show AOp _ _ ⟨_, .call ⟨.builtin .append, _, _⟩, _, _, _, _⟩ _ _ _; first | refine Bg (sz := 1) (xs := []) hG Y Y Y Y Y Y Y ⟨_, Y⟩ Y Y Y Y Y Y Y (by first | omega | (simp; omega)) (fun k => ?_) | refine Bi 0 hG Y Y Y Y Y Y Y ⟨_, Y⟩ Y Y Y Y Y (by first | omega | (simp only [List.length_append, List.length_cons, List.length_nil]; omega)) (fun k => ?_) | fail)
      | refine r_q hG Y Y Y ?_); try exact kk)
    | (show AL _ _ _ _ _ _ _ _; first | refine al_s Y Y Y ?_ | (refine Au ?_; first | show AW _ _ _ _ _ _ | show ∃ x', _ < _ ∧ _)) | (show AW _ _ (.seq _ _) _ _ _; refine Ai ?_; intro Q1) | (show AW _ _ (.region _ _ false) _ _ _; refine Af ?_; intro O1) | (show AW _ _ (.cond _ _ _) _ _ _; first | refine As Y ?_ | refine Av Y ?_) | (show AW _ _ (.skip) _ _ _; refine Aq ?_; first | show AW _ _ _ _ _ _ | show ∃ x', _ < _ ∧ _) | (show AW _ _ (.block _ _) _ _ _; refine A4 ?_; intro Q1) | (show AW _ _ (.exit _) _ _ _; refine Bh ?_; first | show AW _ _ _ _ _ _ | show ∃ x', _ < _ ∧ _) | (show AW _ _ (.ret) _ _ _; refine Ar ?_; try dsimp only [Am, Aa, Ao, Ad])
    | (show DL _ _ _ _ _ _ _; refine dl_d Y Y (fun K kt kf => Ak hG Y Y Y Y Y kt kf) (fun h => ?_) (fun h => ?_))
    | (show DL _ _ _ _ _ _ _; refine dl_s Y Y Y ?_) | (show DL _ _ _ _ _ _ _; refine Bj ?_; first | show AW _ _ _ _ _ _ | show ∃ x', _ < _ ∧ _) | (show AW _ _ (.region _ _ true) _ _ _; refine A1 mix (by kernel_rfl) ?_; intro O1) | fail)
          refine ⟨⟨i + 1, _, by omega⟩, by dsimp only; omega, ?_, .refl _⟩
          exact .cons rfl (.consW rfl (.int (by simp)) (.consW rfl (.eq (by rw [hnew, hi2])) (.nil _)))
        · rw [if_neg (fun h => heq (by rw [h.2]))] at hi2
          repeat' (first
    | ((first | (show AL _ _ _ _ _ _ _ _; refine Ah Y ?_) | (show DL _ _ _ _ _ _ _; refine' A9 Y Y (fun K kk => ?_) ?_; try (show Go.Ts.T; rotate_left))); (first
      | (show AOp _ _ ⟨_, .move _, _, _, _, _⟩ _ _ _; refine Ap hG Y Y ?_)
      | (show AOp _ _ ⟨_, .assign _, _, _, _, _⟩ _ _ _; refine A6 hG Y Y ?_)
      | (show AOp _ _ ⟨_, .call ⟨.builtin .len, _, _⟩, _, _, _, _⟩ _ _ _; first | refine Ay hG Y Y Y Y ?_ | refine Bb hG Y Y Y Y Y ?_)
      | (show AOp _ _ ⟨_, .binOp .add _ _ _ _, _, _, _, _⟩ _ _ _; first | refine Al hG Y Y Y Y Y (by omega) ?_)
      | (show AOp _ _ ⟨_, .binOp _ _ _ _ _, _, _, _, _⟩ _ _ _; first | refine Aw hG Y Y Y Y Y (by omega) ?_ | refine Ax hG Y Y Y Y Y (by omega) ?_ | ((fail_if_success have := kk); refine Ak hG Y Y Y Y Y (fun h => ?_) (fun h => ?_)))
      | (show AOp _ _ ⟨_, .load _ _, _, _, _, _⟩ _ _ _; first | refine A7 hG Y Y Y ?_ | refine r_ld 0 hG Y Y Y Y ?_)
      | (show AOp _ _ ⟨_, .indexAddr _ _ _, _, _, _, _⟩ _ _ _; first | refine Az hG Y Y Y Y Y Y Y (by omega) ?_ | refine A0 hG Y Y Y Y Y Y Y (by omega) ?_ | refine Bd hG Y Y ?_)
      | (show AOp _ _ ⟨_, .slice _ _ _ _ _, _, _, _, _⟩ _ _ _; first | refine A8 hG Y Y Y Y Y Y Y (by omega) ?_ | refine r_sl_hin hG Y Y Y Y Y Y Y (by omega) ?_ | refine Be hG Y Y Y Y Y Y Y (by omega) ?_ | refine r_sl_hi hG Y Y Y Y Y Y Y (by omega) ?_ | refine op_cut0 hG Y Y Y Y Y Y Y Y Y Y ?_ | refine r_sl hG Y Y ?_)
      | (show AOp _ _ ⟨_, .pick _ _ _, _, _, _, _⟩ _ _ _; refine Ba hG Y Y Y ?_)
      | (show AOp _ _ ⟨_, .buildSlice _ _ _, _, _, _, _⟩ _ _ _; first | refine r_mk (sz := 1) hG Y Y Y Y Y Y Y ?_)
      | (show AOp _ _ ⟨_, .call ⟨.builtin .append, _, _⟩, _, _, _, _⟩ _ _ _; first | refine Bg (sz := 1) (xs := []) hG Y Y Y Y Y Y Y ⟨_, Y⟩ Y Y Y Y Y Y Y (by first | omega | (simp; omega)) (fun k => ?_) | refine Bi 0 hG Y Y Y Y Y Y Y ⟨_, Y⟩ Y Y Y Y Y (by first | omega | (simp only [List.length_append, List.length_cons, List.length_nil]; omega)) (fun k => ?_) | fail)
      | refine r_q hG Y Y Y ?_); try exact kk)
    | (show AL _ _ _ _ _ _ _ _; first | refine al_s Y Y Y ?_ | (refine Au ?_; first | show AW _ _ _ _ _ _ | show ∃ x', _ < _ ∧ _)) | (show AW _ _ (.seq _ _) _ _ _; refine Ai ?_; intro Q1) | (show AW _ _ (.region _ _ false) _ _ _; (fail_if_success show AW _ _ (.region 9 _ _) _ _ _); refine Af ?_; intro O1) | (show AW _ _ (.cond _ _ _) _ _ _; first | refine As Y ?_ | refine Av Y ?_) | (show AW _ _ (.skip) _ _ _; refine Aq ?_; first | show AW _ _ _ _ _ _ | show ∃ x', _ < _ ∧ _) | (show AW _ _ (.block _ _) _ _ _; refine A4 ?_; intro Q1) | (show AW _ _ (.exit _) _ _ _; refine Bh ?_; first | show AW _ _ _ _ _ _ | show ∃ x', _ < _ ∧ _) | (show AW _ _ (.ret) _ _ _; refine Ar ?_; try dsimp only [Am, Aa, Ao, Ad])
    | (show DL _ _ _ _ _ _ _; refine dl_d Y Y (fun K kt kf => Ak hG Y Y Y Y Y kt kf) (fun h => ?_) (fun h => ?_))
    | (show DL _ _ _ _ _ _ _; refine dl_s Y Y Y ?_) | (show DL _ _ _ _ _ _ _; refine Bj ?_; first | show AW _ _ _ _ _ _ | show ∃ x', _ < _ ∧ _) | (show AW _ _ (.region _ _ true) _ _ _; (fail_if_success show AW _ _ (.region 9 _ _) _ _ _); refine A1 mix (by kernel_rfl) ?_; intro O1) | fail)
          refine aw_drawE' (m := 15) [4, 10, 14] (fun σ => ∃ R, σ = ⟨[], R, off, none⟩) mix rfl (by repeat (first | exact Sp.zero _ | apply Sp.succ)) ?_; intro O1 F1 Z1 Q2
          repeat' (first
    | (refine' dq_cons Y Y Y (fun σ hσ K kk => ?_) ?_; (try (show Go.Ts.T; rotate_left)); (obtain ⟨R, rfl⟩ := hσ); (first
      | (show AOp _ _ ⟨_, .move _, _, _, _, _⟩ _ _ _; refine Ap hG Y Y ?_)
      | (show AOp _ _ ⟨_, .assign _, _, _, _, _⟩ _ _ _; refine A6 hG Y Y ?_)
      | (show AOp _ _ ⟨_, .call ⟨.builtin .len, _, _⟩, _, _, _, _⟩ _ _ _; first | refine Ay hG Y Y Y Y ?_ | refine Bb hG Y Y Y Y Y ?_)
      | (show AOp _ _ ⟨_, .binOp .add _ _ _ _, _, _, _, _⟩ _ _ _; first | refine Al hG Y Y Y Y Y (by omega) ?_)
      | (show AOp _ _ ⟨_, .binOp _ _ _ _ _, _, _, _, _⟩ _ _ _; first | refine Aw hG Y Y Y Y Y (by omega) ?_ | refine Ax hG Y Y Y Y Y (by omega) ?_)
      | (show AOp _ _ ⟨_, .load _ _, _, _, _, _⟩ _ _ _; first | refine A7 hG Y Y Y ?_ | refine r_ld 0 hG Y Y Y Y ?_)
      | (show AOp _ _ ⟨_, .indexAddr _ _ _, _, _, _, _⟩ _ _ _; first | refine Az hG Y Y Y Y Y Y Y (by omega) ?_ | refine A0 hG Y Y Y Y Y Y Y (by omega) ?_ | refine Bd hG Y Y ?_)
      | (show AOp _ _ ⟨_, .slice _ _ _ _ _, _, _, _, _⟩ _ _ _; first | refine A8 hG Y Y Y Y Y Y Y (by omega) ?_ | refine r_sl_hin hG Y Y Y Y Y Y Y (by omega) ?_ | refine Be hG Y Y Y Y Y Y Y (by omega) ?_ | refine r_sl_hi hG Y Y Y Y Y Y Y (by omega) ?_ | refine op_cut0 hG Y Y Y Y Y Y Y Y Y Y ?_ | refine r_sl hG Y Y ?_)
      | (show AOp _ _ ⟨_, .pick _ _ _, _, _, _, _⟩ _ _ _; refine Ba hG Y Y Y ?_)
      | (show AOp _ _ ⟨_, .buildSlice _ _ _, _, _, _, _⟩ _ _ _; first | refine r_mk (sz := 1) hG Y Y Y Y Y Y Y ?_)
      | (show AOp _ _ ⟨_, .call ⟨.builtin .append, _, _⟩, _, _, _, _⟩ _ _ _; first | refine Bi 0 (ys := [a.getD i default]) hG Y Y Y Y Y Y Y ⟨_, Y⟩ Y Y Y Y Y (by simp only [List.length_append, List.length_map, List.length_cons, List.length_nil]; omega) (fun k => ?_) | refine Bg (sz := 1) (xs := []) hG Y Y Y Y Y Y Y ⟨_, Y⟩ Y Y Y Y Y Y Y (by first | omega | (simp; omega)) (fun k => ?_) | refine Bi 0 hG Y Y Y Y Y Y Y ⟨_, Y⟩ Y Y Y Y Y (by first | omega | (simp only [List.length_append, List.length_cons, List.length_nil]; omega)) (fun k => ?_) | fail)
      | refine r_q hG Y Y Y ?_); exact kk)
    | refine dq_d Y Y Y (fun σ hσ K kt kf => by obtain ⟨R, rfl⟩ := hσ; exact Ak hG Y Y Y Y Y kt kf) (fun h => ?_) (fun h => ?_)
    | refine dq_d Y Y Y (fun σ hσ K kt kf => by obtain ⟨R, rfl⟩ := hσ; exact r_str hG Y Y Y Y kt kf) (fun h => ?_) (fun h => ?_)
    | refine dq_s Y Y Y Y ?_ | refine dq_e Y ?_ | (refine dq_nil ?_; show EL _ _ _ _ _ _ _ _ _) | refine el_s ⟨_, Y⟩ Y Y Y Y ?_
    | ((first | refine el_cons ⟨_, Y⟩ Y Y Y (fun K ke => ?_) | refine el_consN ⟨_, Y⟩ Y Y Y (fun K ke => ?_)); (first
      | (show AOp _ _ ⟨_, .move _, _, _, _, _⟩ _ _ _; refine Ap hG Y Y ?_)
      | (show AOp _ _ ⟨_, .assign _, _, _, _, _⟩ _ _ _; refine A6 hG Y Y ?_)
      | (show AOp _ _ ⟨_, .call ⟨.builtin .len, _, _⟩, _, _, _, _⟩ _ _ _; first | refine Ay hG Y Y Y Y ?_ | refine Bb hG Y Y Y Y Y ?_)
      | (show AOp _ _ ⟨_, .binOp .add _ _ _ _, _, _, _, _⟩ _ _ _; first | refine Al hG Y Y Y Y Y (by omega) ?_)
      | (show AOp _ _ ⟨_, .binOp _ _ _ _ _, _, _, _, _⟩ _ _ _; first | refine Aw hG Y Y Y Y Y (by omega) ?_ | refine Ax hG Y Y Y Y Y (by omega) ?_)
      | (show AOp _ _ ⟨_, .load _ _, _, _, _, _⟩ _ _ _; first | refine A7 hG Y Y Y ?_ | refine r_ld 0 hG Y Y Y Y ?_)
      | (show AOp _ _ ⟨_, .indexAddr _ _ _, _, _, _, _⟩ _ _ _; first | refine Az hG Y Y Y Y Y Y Y (by omega) ?_ | refine A0 hG Y Y Y Y Y Y Y (by omega) ?_ | refine Bd hG Y Y ?_)
      | (show AOp _ _ ⟨_, .slice _ _ _ _ _, _, _, _, _⟩ _ _ _; first | refine A8 hG Y Y Y Y Y Y Y (by omega) ?_ | refine r_sl_hin hG Y Y Y Y Y Y Y (by omega) ?_ | refine Be hG Y Y Y Y Y Y Y (by omega) ?_ | refine r_sl_hi hG Y Y Y Y Y Y Y (by omega) ?_ | refine op_cut0 hG Y Y Y Y Y Y Y Y Y Y ?_ | refine r_sl hG Y Y ?_)
      | (show AOp _ _ ⟨_, .pick _ _ _, _, _, _, _⟩ _ _ _; refine Ba hG Y Y Y ?_)
      | (show AOp _ _ ⟨_, .buildSlice _ _ _, _, _, _, _⟩ _ _ _; first | refine r_mk (sz := 1) hG Y Y Y Y Y Y Y ?_)
      | (show AOp _ _ ⟨_, .call ⟨.builtin .append, _, _⟩, _, _, _, _⟩ _ _ _; first | refine Bi 0 (ys := [a.getD i default]) hG Y Y Y Y Y Y Y ⟨_, Y⟩ Y Y Y Y Y (by simp only [List.length_append, List.length_map, List.length_cons, List.length_nil]; omega) (fun k => ?_) | refine Bg (sz := 1) (xs := []) hG Y Y Y Y Y Y Y ⟨_, Y⟩ Y Y Y Y Y Y Y (by first | omega | (simp; omega)) (fun k => ?_) | refine Bi 0 hG Y Y Y Y Y Y Y ⟨_, Y⟩ Y Y Y Y Y (by first | omega | (simp only [List.length_append, List.length_cons, List.length_nil]; omega)) (fun k => ?_) | fail)
      | refine r_q hG Y Y Y ?_); refine ke _ _ ?_)
    | (refine el_nil ⟨_, Y⟩ ?_; show AL _ _ _ _ _ _ _ _) | fail)
          repeat' (first
    | ((first | (show AL _ _ _ _ _ _ _ _; refine Ah Y ?_) | (show DL _ _ _ _ _ _ _; refine' A9 Y Y (fun K kk => ?_) ?_; try (show Go.Ts.T; rotate_left))); (first
      | (show AOp _ _ ⟨_, .move _, _, _, _, _⟩ _ _ _; refine Ap hG Y Y ?_)
      | (show AOp _ _ ⟨_, .assign _, _, _, _, _⟩ _ _ _; refine A6 hG Y Y ?_)
      | (show AOp _ _ ⟨_, .call ⟨.builtin .len, _, _⟩, _, _, _, _⟩ _ _ _; first | refine Ay hG Y Y Y Y ?_ | refine Bb hG Y Y Y Y Y ?_)
      | (show AOp _ _ ⟨_, .binOp .add _ _ _ _, _, _, _, _⟩ _ _ _; first | refine Al hG Y Y Y Y Y (by omega) ?_)
      | (show AOp _ _ ⟨_, .binOp _ _ _ _ _, _, _, _, _⟩ _ _ _; first | refine Aw hG Y Y Y Y Y (by omega) ?_ | refine Ax hG Y Y Y Y Y (by omega) ?_ | ((fail_if_success have := kk); refine Ak hG Y Y Y Y Y (fun h => ?_) (fun h => ?_)))
      | (show AOp _ _ ⟨_, .load _ _, _, _, _, _⟩ _ _ _; first | refine A7 hG Y Y Y ?_ | refine r_ld 0 hG Y Y Y Y ?_)
      | (show AOp _ _ ⟨_, .indexAddr _ _ _, _, _, _, _⟩ _ _ _; first | refine Az hG Y Y Y Y Y Y Y (by omega) ?_ | refine A0 hG Y Y Y Y Y Y Y (by omega) ?_ | refine Bd hG Y Y ?_)
      | (show AOp _ _ ⟨_, .slice _ _ _ _ _, _, _, _, _⟩ _ _ _; first | refine A8 hG Y Y Y Y Y Y Y (by omega) ?_ | refine r_sl_hin hG Y Y Y Y Y Y Y (by omega) ?_ | refine Be hG Y Y Y Y Y Y Y (by omega) ?_ | refine r_sl_hi hG Y Y Y Y Y Y Y (by omega) ?_ | refine op_cut0 hG Y Y Y Y Y Y Y Y Y Y ?_ | refine r_sl hG Y Y ?_)
      | (show AOp _ _ ⟨_, .pick _ _ _, _, _, _, _⟩ _ _ _; refine Ba hG Y Y Y ?_)
      | (show AOp _ _ ⟨_, .buildSlice _ _ _, _, _, _, _⟩ _ _ _; first | refine r_mk (sz := 1) hG Y Y Y Y Y Y Y ?_)
      | (show AOp _ _ ⟨_, .call ⟨.builtin .append, _, _⟩, _, _, _, _⟩ _ _ _; first | refine Bg (sz := 1) (xs := []) hG Y Y Y Y Y Y Y ⟨_, Y⟩ Y Y Y Y Y Y Y (by first | omega | (simp; omega)) (fun k => ?_) | refine Bi 0 hG Y Y Y Y Y Y Y ⟨_, Y⟩ Y Y Y Y Y (by first | omega | (simp only [List.length_append, List.length_cons, List.length_nil]; omega)) (fun k => ?_) | fail)
      | refine r_q hG Y Y Y ?_); try exact kk)
    | (show AL _ _ _ _ _ _ _ _; first | refine al_s Y Y Y ?_ | (refine Au ?_; first | show AW _ _ _ _ _ _ | show ∃ x', _ < _ ∧ _)) | (show AW _ _ (.seq _ _) _ _ _; refine Ai ?_; intro Q1) | (show AW _ _ (.region _ _ false) _ _ _; refine Af ?_; intro O1) | (show AW _ _ (.cond _ _ _) _ _ _; first | refine As Y ?_ | refine Av Y ?_) | (show AW _ _ (.skip) _ _ _; refine Aq ?_; first | show AW _ _ _ _ _ _ | show ∃ x', _ < _ ∧ _) | (show AW _ _ (.block _ _) _ _ _; refine A4 ?_; intro Q1) | (show AW _ _ (.exit _) _ _ _; refine Bh ?_; first | show AW _ _ _ _ _ _ | show ∃ x', _ < _ ∧ _) | (show AW _ _ (.ret) _ _ _; refine Ar ?_; try dsimp only [Am, Aa, Ao, Ad])
    | (show DL _ _ _ _ _ _ _; refine dl_d Y Y (fun K kt kf => Ak hG Y Y Y Y Y kt kf) (fun h => ?_) (fun h => ?_))
    | (show DL _ _ _ _ _ _ _; refine dl_s Y Y Y ?_) | (show DL _ _ _ _ _ _ _; refine Bj ?_; first | show AW _ _ _ _ _ _ | show ∃ x', _ < _ ∧ _) | (show AW _ _ (.region _ _ true) _ _ _; refine A1 mix (by kernel_rfl) ?_; intro O1) | fail)
          refine ⟨⟨i + 1, _, by omega⟩, by dsimp only; omega, ?_, drop_tok⟩
          exact .cons rfl (.consW rfl (.int (by simp)) (.consW rfl (.eq (by rw [hnew, hi2]; simp)) (.nil _)))
    · have hi2 := ins_at m n hn hb (fun h => absurd h hnm)
      rw [if_neg (fun h => hnm h.1)] at hi2
      repeat' (first
    | ((first | (show AL _ _ _ _ _ _ _ _; refine Ah Y ?_) | (show DL _ _ _ _ _ _ _; refine' A9 Y Y (fun K kk => ?_) ?_; try (show Go.Ts.T; rotate_left))); (first
      | (show AOp _ _ ⟨_, .move _, _, _, _, _⟩ _ _ _; refine Ap hG Y Y ?_)
      | (show AOp _ _ ⟨_, .assign _, _, _, _, _⟩ _ _ _; refine A6 hG Y Y ?_)
      | (show AOp _ _ ⟨_, .call ⟨.builtin .len, _, _⟩, _, _, _, _⟩ _ _ _; first | refine Ay hG Y Y Y Y ?_ | refine Bb hG Y Y Y Y Y ?_)
      | (show AOp _ _ ⟨_, .binOp .add _ _ _ _, _, _, _, _⟩ _ _ _; first | refine Al hG Y Y Y Y Y (by omega) ?_)
      | (show AOp _ _ ⟨_, .binOp _ _ _ _ _, _, _, _, _⟩ _ _ _; first | refine Aw hG Y Y Y Y Y (by omega) ?_ | refine Ax hG Y Y Y Y Y (by omega) ?_ | ((fail_if_success have := kk); refine Ak hG Y Y Y Y Y (fun h => ?_) (fun h => ?_)))
      | (show AOp _ _ ⟨_, .load _ _, _, _, _, _⟩ _ _ _; first | refine A7 hG Y Y Y ?_ | refine r_ld 0 hG Y Y Y Y ?_)
      | (show AOp _ _ ⟨_, .indexAddr _ _ _, _, _, _, _⟩ _ _ _; first | refine Az hG Y Y Y Y Y Y Y (by omega) ?_ | refine A0 hG Y Y Y Y Y Y Y (by omega) ?_ | refine Bd hG Y Y ?_)
      | (show AOp _ _ ⟨_, .slice _ _ _ _ _, _, _, _, _⟩ _ _ _; first | refine A8 hG Y Y Y Y Y Y Y (by omega) ?_ | refine r_sl_hin hG Y Y Y Y Y Y Y (by omega) ?_ | refine Be hG Y Y Y Y Y Y Y (by omega) ?_ | refine r_sl_hi hG Y Y Y Y Y Y Y (by omega) ?_ | refine op_cut0 hG Y Y Y Y Y Y Y Y Y Y ?_ | refine r_sl hG Y Y ?_)
      | (show AOp _ _ ⟨_, .pick _ _ _, _, _, _, _⟩ _ _ _; refine Ba hG Y Y Y ?_)
      | (show AOp _ _ ⟨_, .buildSlice _ _ _, _, _, _, _⟩ _ _ _; first | refine r_mk (sz := 1) hG Y Y Y Y Y Y Y ?_)
      | (show AOp _ _ ⟨_, .call ⟨.builtin .append, _, _⟩, _, _, _, _⟩ _ _ _; first | refine Bg (sz := 1) (xs := []) hG Y Y Y Y Y Y Y ⟨_, Y⟩ Y Y Y Y Y Y Y (by first | omega | (simp; omega)) (fun k => ?_) | refine Bi 0 hG Y Y Y Y Y Y Y ⟨_, Y⟩ Y Y Y Y Y (by first | omega | (simp only [List.length_append, List.length_cons, List.length_nil]; omega)) (fun k => ?_) | fail)
      | refine r_q hG Y Y Y ?_); try exact kk)
    | (show AL _ _ _ _ _ _ _ _; first | refine al_s Y Y Y ?_ | (refine Au ?_; first | show AW _ _ _ _ _ _ | show ∃ x', _ < _ ∧ _)) | (show AW _ _ (.seq _ _) _ _ _; refine Ai ?_; intro Q1) | (show AW _ _ (.region _ _ false) _ _ _; (fail_if_success show AW _ _ (.region 9 _ _) _ _ _); refine Af ?_; intro O1) | (show AW _ _ (.cond _ _ _) _ _ _; first | refine As Y ?_ | refine Av Y ?_) | (show AW _ _ (.skip) _ _ _; refine Aq ?_; first | show AW _ _ _ _ _ _ | show ∃ x', _ < _ ∧ _) | (show AW _ _ (.block _ _) _ _ _; refine A4 ?_; intro Q1) | (show AW _ _ (.exit _) _ _ _; refine Bh ?_; first | show AW _ _ _ _ _ _ | show ∃ x', _ < _ ∧ _) | (show AW _ _ (.ret) _ _ _; refine Ar ?_; try dsimp only [Am, Aa, Ao, Ad])
    | (show DL _ _ _ _ _ _ _; refine dl_d Y Y (fun K kt kf => Ak hG Y Y Y Y Y kt kf) (fun h => ?_) (fun h => ?_))
    | (show DL _ _ _ _ _ _ _; refine dl_s Y Y Y ?_) | (show DL _ _ _ _ _ _ _; refine Bj ?_; first | show AW _ _ _ _ _ _ | show ∃ x', _ < _ ∧ _) | (show AW _ _ (.region _ _ true) _ _ _; (fail_if_success show AW _ _ (.region 9 _ _) _ _ _); refine A1 mix (by kernel_rfl) ?_; intro O1) | fail)
      refine aw_drawE' (m := 15) [4, 10, 14] (fun σ => ∃ R, σ = ⟨[], R, off, none⟩) mix rfl (by repeat (first | exact Sp.zero _ | apply Sp.succ)) ?_; intro O1 F1 Z1 Q2
      repeat' (first
    | (refine' dq_cons Y Y Y (fun σ hσ K kk => ?_) ?_; (try (show Go.Ts.T; rotate_left)); (obtain ⟨R, rfl⟩ := hσ); (first
      | (show AOp _ _ ⟨_, .move _, _, _, _, _⟩ _ _ _; refine Ap hG Y Y ?_)
      | (show AOp _ _ ⟨_, .assign _, _, _, _, _⟩ _ _ _; refine A6 hG Y Y ?_)
      | (show AOp _ _ ⟨_, .call ⟨.builtin .len, _, _⟩, _, _, _, _⟩ _ _ _; first | refine Ay hG Y Y Y Y ?_ | refine Bb hG Y Y Y Y Y ?_)
      | (show AOp _ _ ⟨_, .binOp .add _ _ _ _, _, _, _, _⟩ _ _ _; first | refine Al hG Y Y Y Y Y (by omega) ?_)
      | (show AOp _ _ ⟨_, .binOp _ _ _ _ _, _, _, _, _⟩ _ _ _; first | refine Aw hG Y Y Y Y Y (by omega) ?_ | refine Ax hG Y Y Y Y Y (by omega) ?_)
      | (show AOp _ _ ⟨_, .load _ _, _, _, _, _⟩ _ _ _; first | refine A7 hG Y Y Y ?_ | refine r_ld 0 hG Y Y Y Y ?_)
      | (show AOp _ _ ⟨_, .indexAddr _ _ _, _, _, _, _⟩ _ _ _; first | refine Az hG Y Y Y Y Y Y Y (by omega) ?_ | refine A0 hG Y Y Y Y Y Y Y (by omega) ?_ | refine Bd hG Y Y ?_)
      | (show AOp _ _ ⟨_, .slice _ _ _ _ _, _, _, _, _⟩ _ _ _; first | refine A8 hG Y Y Y Y Y Y Y (by omega) ?_ | refine r_sl_hin hG Y Y Y Y Y Y Y (by omega) ?_ | refine Be hG Y Y Y Y Y Y Y (by omega) ?_ | refine r_sl_hi hG Y Y Y Y Y Y Y (by omega) ?_ | refine op_cut0 hG Y Y Y Y Y Y Y Y Y Y ?_ | refine r_sl hG Y Y ?_)
      | (show AOp _ _ ⟨_, .pick _ _ _, _, _, _, _⟩ _ _ _; refine Ba hG Y Y Y ?_)
      | (show AOp _ _ ⟨_, .buildSlice _ _ _, _, _, _, _⟩ _ _ _; first | refine r_mk (sz := 1) hG Y Y Y Y Y Y Y ?_)
      | (show AOp _ _ ⟨_, .call ⟨.builtin .append, _, _⟩, _, _, _, _⟩ _ _ _; first | refine Bi 0 (ys := [a.getD i default]) hG Y Y Y Y Y Y Y ⟨_, Y⟩ Y Y Y Y Y (by simp only [List.length_append, List.length_map, List.length_cons, List.length_nil]; omega) (fun k => ?_) | refine Bg (sz := 1) (xs := []) hG Y Y Y Y Y Y Y ⟨_, Y⟩ Y Y Y Y Y Y Y (by first | omega | (simp; omega)) (fun k => ?_) | refine Bi 0 hG Y Y Y Y Y Y Y ⟨_, Y⟩ Y Y Y Y Y (by first | omega | (simp only [List.length_append, List.length_cons, List.length_nil]; omega)) (fun k => ?_) | fail)
      | refine r_q hG Y Y Y ?_); exact kk)
    | refine dq_d Y Y Y (fun σ hσ K kt kf => by obtain ⟨R, rfl⟩ := hσ; exact Ak hG Y Y Y Y Y kt kf) (fun h => ?_) (fun h => ?_)
    | refine dq_d Y Y Y (fun σ hσ K kt kf => by obtain ⟨R, rfl⟩ := hσ; exact r_str hG Y Y Y Y kt kf) (fun h => ?_) (fun h => ?_)
    | refine dq_s Y Y Y Y ?_ | refine dq_e Y ?_ | (refine dq_nil ?_; show EL _ _ _ _ _ _ _ _ _) | refine el_s ⟨_, Y⟩ Y Y Y Y ?_
    | ((first | refine el_cons ⟨_, Y⟩ Y Y Y (fun K ke => ?_) | refine el_consN ⟨_, Y⟩ Y Y Y (fun K ke => ?_)); (first
      | (show AOp _ _ ⟨_, .move _, _, _, _, _⟩ _ _ _; refine Ap hG Y Y ?_)
      | (show AOp _ _ ⟨_, .assign _, _, _, _, _⟩ _ _ _; refine A6 hG Y Y ?_)
      | (show AOp _ _ ⟨_, .call ⟨.builtin .len, _, _⟩, _, _, _, _⟩ _ _ _; first | refine Ay hG Y Y Y Y ?_ | refine Bb hG Y Y Y Y Y ?_)
      | (show AOp _ _ ⟨_, .binOp .add _ _ _ _, _, _, _, _⟩ _ _ _; first | refine Al hG Y Y Y Y Y (by omega) ?_)
      | (show AOp _ _ ⟨_, .binOp _ _ _ _ _, _, _, _, _⟩ _ _ _; first | refine Aw hG Y Y Y Y Y (by omega) ?_ | refine Ax hG Y Y Y Y Y (by omega) ?_)
      | (show AOp _ _ ⟨_, .load _ _, _, _, _, _⟩ _ _ _; first | refine A7 hG Y Y Y ?_ | refine r_ld 0 hG Y Y Y Y ?_)
      | (show AOp _ _ ⟨_, .indexAddr _ _ _, _, _, _, _⟩ _ _ _; first | refine Az hG Y Y Y Y Y Y Y (by omega) ?_ | refine A0 hG Y Y Y Y Y Y Y (by omega) ?_ | refine Bd hG Y Y ?_)
      | (show AOp _ _ ⟨_, .slice _ _ _ _ _, _, _, _, _⟩ _ _ _; first | refine A8 hG Y Y Y Y Y Y Y (by omega) ?_ | refine r_sl_hin hG Y Y Y Y Y Y Y (by omega) ?_ | refine Be hG Y Y Y Y Y Y Y (by omega) ?_ | refine r_sl_hi hG Y Y Y Y Y Y Y (by omega) ?_ | refine op_cut0 hG Y Y Y Y Y Y Y Y Y Y ?_ | refine r_sl hG Y Y ?_)
      | (show AOp _ _ ⟨_, .pick _ _ _, _, _, _, _⟩ _ _ _; refine Ba hG Y Y Y ?_)
      | (show AOp _ _ ⟨_, .buildSlice _ _ _, _, _, _, _⟩ _ _ _; first | refine r_mk (sz := 1) hG Y Y Y Y Y Y Y ?_)
      | (show AOp _ _ ⟨_, .call ⟨.builtin .append, _, _⟩, _, _, _, _⟩ _ _ _; first | refine Bi 0 (ys := [a.getD i default]) hG Y Y Y Y Y Y Y ⟨_, Y⟩ Y Y Y Y Y (by simp only [List.length_append, List.length_map, List.length_cons, List.length_nil]; omega) (fun k => ?_) | refine Bg (sz := 1) (xs := []) hG Y Y Y Y Y Y Y ⟨_, Y⟩ Y Y Y Y Y Y Y (by first | omega | (simp; omega)) (fun k => ?_) | refine Bi 0 hG Y Y Y Y Y Y Y ⟨_, Y⟩ Y Y Y Y Y (by first | omega | (simp only [List.length_append, List.length_cons, List.length_nil]; omega)) (fun k => ?_) | fail)
      | refine r_q hG Y Y Y ?_); refine ke _ _ ?_)
    | (refine el_nil ⟨_, Y⟩ ?_; show AL _ _ _ _ _ _ _ _) | fail)
      repeat' (first
    | ((first | (show AL _ _ _ _ _ _ _ _; refine Ah Y ?_) | (show DL _ _ _ _ _ _ _; refine' A9 Y Y (fun K kk => ?_) ?_; try (show Go.Ts.T; rotate_left))); (first
      | (show AOp _ _ ⟨_, .move _, _, _, _, _⟩ _ _ _; refine Ap hG Y Y ?_)
      | (show AOp _ _ ⟨_, .assign _, _, _, _, _⟩ _ _ _; refine A6 hG Y Y ?_)
      | (show AOp _ _ ⟨_, .call ⟨.builtin .len, _, _⟩, _, _, _, _⟩ _ _ _; first | refine Ay hG Y Y Y Y ?_ | refine Bb hG Y Y Y Y Y ?_)
      | (show AOp _ _ ⟨_, .binOp .add _ _ _ _, _, _, _, _⟩ _ _ _; first | refine Al hG Y Y Y Y Y (by omega) ?_)
      | (show AOp _ _ ⟨_, .binOp _ _ _ _ _, _, _, _, _⟩ _ _ _; first | refine Aw hG Y Y Y Y Y (by omega) ?_ | refine Ax hG Y Y Y Y Y (by omega) ?_ | ((fail_if_success have := kk); refine Ak hG Y Y Y Y Y (fun h => ?_) (fun h => ?_)))
      | (show AOp _ _ ⟨_, .load _ _, _, _, _, _⟩ _ _ _; first | refine A7 hG Y Y Y ?_ | refine r_ld 0 hG Y Y Y Y ?_)
      | (show AOp _ _ ⟨_, .indexAddr _ _ _, _, _, _, _⟩ _ _ _; first | refine Az hG Y Y Y Y Y Y Y (by omega) ?_ | refine A0 hG Y Y Y Y Y Y Y (by omega) ?_ | refine Bd hG Y Y ?_)
      | (show AOp _ _ ⟨_, .slice _ _ _ _ _, _, _, _, _⟩ _ _ _; first | refine A8 hG Y Y Y Y Y Y Y (by omega) ?_ | refine r_sl_hin hG Y Y Y Y Y Y Y (by omega) ?_ | refine Be hG Y Y Y Y Y Y Y (by omega) ?_ | refine r_sl_hi hG Y Y Y Y Y Y Y (by omega) ?_ | refine op_cut0 hG Y Y Y Y Y Y Y Y Y Y ?_ | refine r_sl hG Y Y ?_)
      | (show AOp _ _ ⟨_, .pick _ _ _, _, _, _, _⟩ _ _ _; refine Ba hG Y Y Y ?_)
      | (show AOp _ _ ⟨_, .buildSlice _ _ _, _, _, _, _⟩ _ _ _; first | refine r_mk (sz := 1) hG Y Y Y Y Y Y Y ?_)
      | (show AOp _ _ ⟨_, .call ⟨.builtin .append, _, _⟩, _, _, _, _⟩ _ _ _; first | refine Bg (sz := 1) (xs := []) hG Y Y Y Y Y Y Y ⟨_, Y⟩ Y Y Y Y Y Y Y (by first | omega | (simp; omega)) (fun k => ?_) | refine Bi 0 hG Y Y Y Y Y Y Y ⟨_, Y⟩ Y Y Y Y Y (by first | omega | (simp only [List.length_append, List.length_cons, List.length_nil]; omega)) (fun k => ?_) | fail)
      | refine r_q hG Y Y Y ?_); try exact kk)
    | (show AL _ _ _ _ _ _ _ _; first | refine al_s Y Y Y ?_ | (refine Au ?_; first | show AW _ _ _ _ _ _ | show ∃ x', _ < _ ∧ _)) | (show AW _ _ (.seq _ _) _ _ _; refine Ai ?_; intro Q1) | (show AW _ _ (.region _ _ false) _ _ _; refine Af ?_; intro O1) | (show AW _ _ (.cond _ _ _) _ _ _; first | refine As Y ?_ | refine Av Y ?_) | (show AW _ _ (.skip) _ _ _; refine Aq ?_; first | show AW _ _ _ _ _ _ | show ∃ x', _ < _ ∧ _) | (show AW _ _ (.block _ _) _ _ _; refine A4 ?_; intro Q1) | (show AW _ _ (.exit _) _ _ _; refine Bh ?_; first | show AW _ _ _ _ _ _ | show ∃ x', _ < _ ∧ _) | (show AW _ _ (.ret) _ _ _; refine Ar ?_; try dsimp only [Am, Aa, Ao, Ad])
    | (show DL _ _ _ _ _ _ _; refine dl_d Y Y (fun K kt kf => Ak hG Y Y Y Y Y kt kf) (fun h => ?_) (fun h => ?_))
    | (show DL _ _ _ _ _ _ _; refine dl_s Y Y Y ?_) | (show DL _ _ _ _ _ _ _; refine Bj ?_; first | show AW _ _ _ _ _ _ | show ∃ x', _ < _ ∧ _) | (show AW _ _ (.region _ _ true) _ _ _; refine A1 mix (by kernel_rfl) ?_; intro O1) | fail)
      refine ⟨⟨i + 1, _, by omega⟩, by dsimp only; omega, ?_, drop_tok⟩
      exact .cons rfl (.consW rfl (.int (by simp)) (.consW rfl (.eq (by rw [hnew, hi2]; simp)) (.nil _)))
  · obtain rfl : i = a.length := by omega
    repeat' (first
    | ((first | (show AL _ _ _ _ _ _ _ _; refine Ah Y ?_) | (show DL _ _ _ _ _ _ _; refine' A9 Y Y (fun K kk => ?_) ?_; try (show Go.Ts.T; rotate_left))); (first
      | (show AOp _ _ ⟨_, .move _, _, _, _, _⟩ _ _ _; refine Ap hG Y Y ?_)
      | (show AOp _ _ ⟨_, .assign _, _, _, _, _⟩ _ _ _; refine A6 hG Y Y ?_)
      | (show AOp _ _ ⟨_, .call ⟨.builtin .len, _, _⟩, _, _, _, _⟩ _ _ _; first | refine Ay hG Y Y Y Y ?_ | refine Bb hG Y Y Y Y Y ?_)
      | (show AOp _ _ ⟨_, .binOp .add _ _ _ _, _, _, _, _⟩ _ _ _; first | refine Al hG Y Y Y Y Y (by omega) ?_)
      | (show AOp _ _ ⟨_, .binOp _ _ _ _ _, _, _, _, _⟩ _ _ _; first | refine Aw hG Y Y Y Y Y (by omega) ?_ | refine Ax hG Y Y Y Y Y (by omega) ?_ | ((fail_if_success have := kk); refine Ak hG Y Y Y Y Y (fun h => ?_) (fun h => ?_)))
      | (show AOp _ _ ⟨_, .load _ _, _, _, _, _⟩ _ _ _; first | refine A7 hG Y Y Y ?_ | refine r_ld 0 hG Y Y Y Y ?_)
      | (show AOp _ _ ⟨_, .indexAddr _ _ _, _, _, _, _⟩ _ _ _; first | refine Az hG Y Y Y Y Y Y Y (by omega) ?_ | refine A0 hG Y Y Y Y Y Y Y (by omega) ?_ | refine Bd hG Y Y ?_)
      | (show AOp _ _ ⟨_, .slice _ _ _ _ _, _, _, _, _⟩ _ _ _; first | refine A8 hG Y Y Y Y Y Y Y (by omega) ?_ | refine r_sl_hin hG Y Y Y Y Y Y Y (by omega) ?_ | refine Be hG Y Y Y Y Y Y Y (by omega) ?_ | refine r_sl_hi hG Y Y Y Y Y Y Y (by omega) ?_ | refine op_cut0 hG Y Y Y Y Y Y Y Y Y Y ?_ | refine r_sl hG Y Y ?_)
      | (show AOp _ _ ⟨_, .pick _ _ _, _, _, _, _⟩ _ _ _; refine Ba hG Y Y Y ?_)
      | (show AOp _ _ ⟨_, .buildSlice _ _ _, _, _, _, _⟩ _ _ _; first | refine r_mk (sz := 1) hG Y Y Y Y Y Y Y ?_)
      | (show AOp _ _ ⟨_, .call ⟨.builtin .append, _, _⟩, _, _, _, _⟩ _ _ _; first | refine Bg (sz := 1) (xs := []) hG Y Y Y Y Y Y Y ⟨_, Y⟩ Y Y Y Y Y Y Y (by first | omega | (simp; omega)) (fun k => ?_) | refine Bi 0 hG Y Y Y Y Y Y Y ⟨_, Y⟩ Y Y Y Y Y (by first | omega | (simp only [List.length_append, List.length_cons, List.length_nil]; omega)) (fun k => ?_) | fail)
      | refine r_q hG Y Y Y ?_); try exact kk)
    | (show AL _ _ _ _ _ _ _ _; first | refine al_s Y Y Y ?_ | (refine Au ?_; first | show AW _ _ _ _ _ _ | show ∃ x', _ < _ ∧ _)) | (show AW _ _ (.seq _ _) _ _ _; refine Ai ?_; intro Q1) | (show AW _ _ (.region _ _ false) _ _ _; refine Af ?_; intro O1) | (show AW _ _ (.cond _ _ _) _ _ _; first | refine As Y ?_ | refine Av Y ?_) | (show AW _ _ (.skip) _ _ _; refine Aq ?_; first | show AW _ _ _ _ _ _ | show ∃ x', _ < _ ∧ _) | (show AW _ _ (.block _ _) _ _ _; refine A4 ?_; intro Q1) | (show AW _ _ (.exit _) _ _ _; refine Bh ?_; first | show AW _ _ _ _ _ _ | show ∃ x', _ < _ ∧ _) | (show AW _ _ (.ret) _ _ _; refine Ar ?_; try dsimp only [Am, Aa, Ao, Ad])
    | (show DL _ _ _ _ _ _ _; refine dl_d Y Y (fun K kt kf => Ak hG Y Y Y Y Y kt kf) (fun h => ?_) (fun h => ?_))
    | (show DL _ _ _ _ _ _ _; refine dl_s Y Y Y ?_) | (show DL _ _ _ _ _ _ _; refine Bj ?_; first | show AW _ _ _ _ _ _ | show ∃ x', _ < _ ∧ _) | (show AW _ _ (.region _ _ true) _ _ _; refine A1 mix (by kernel_rfl) ?_; intro O1) | fail)
    exact ret_owns 0 (Bm rfl Bp) rfl (by rw [List.take_length]) rfl
theorem ref_Or {x y : T} {a b : List UInt16} (hx : catsT x = some a) (hy : catsT y = some b) (hl : a.length + b.length ≤ 4294967000) : Owns Try.prog 20 [x, y] 1 ((mk (a ++ b)).map hT) := by
  refine Owns.weak (us := [cT a, cT b]) ?_ (wk2 (Bw hx) (Bw hy))
  intro off
  refine Bn (N := 11) (rs := [.tmp 4]) hG Try.func20 rfl rfl rfl rfl rfl ?_
  repeat' (first
    | ((show AL _ _ _ _ _ _ _ _; refine Ah Y ?_); (first
      | (show AOp _ _ ⟨_, .move _, _, _, _, _⟩ _ _ _; refine Ap hG Y Y ?_)
      | (show AOp _ _ ⟨_, .assign _, _, _, _, _⟩ _ _ _; refine A6 hG Y Y ?_)
      | (show AOp _ _ ⟨_, .buildSlice _ _ _, _, _, _, _⟩ _ _ _; first | refine r_mk (sz := 1) hG Y Y Y Y Y Y Y ?_)
      | (show AOp _ _ ⟨_, .call ⟨.builtin .append, _, _⟩, _, _, _, _⟩ _ _ _; first | refine Bg (sz := 1) (xs := []) hG Y Y Y Y Y Y Y ⟨_, Y⟩ Y Y Y Y Y Y Y (by first | omega | (simp; omega)) (fun k => ?_) | refine Bi 0 hG Y Y Y Y Y Y Y ⟨_, Y⟩ Y Y Y Y Y (by first | omega | (simp only [List.length_append, List.length_cons, List.length_nil]; omega)) (fun k => ?_) | fail)
      | refine r_q hG Y Y Y ?_))
    | (show AL _ _ _ _ _ _ _ _; first | refine al_s Y Y Y ?_ | (refine Au ?_; first | show AW _ _ _ _ _ _ | show ∃ x', _ < _ ∧ _)) | (show AW _ _ (.seq _ _) _ _ _; refine Ai ?_; intro Q1) | (show AW _ _ (.region _ _ false) _ _ _; refine Af ?_; intro O1) | (show AW _ _ (.ret) _ _ _; refine Ar ?_; try dsimp only [Am, Aa, Ao, Ad]) | fail)
  have hc := ref_Make (x := .sl 1 (.tok k) (([] ++ a ++ b).map hT)) (Ac _ _) (by simp; omega)
  repeat' (first
    | ((show AL _ _ _ _ _ _ _ _; refine Ah Y ?_); (first
      | (show AOp _ _ ⟨_, .move _, _, _, _, _⟩ _ _ _; refine Ap hG Y Y ?_)
      | (show AOp _ _ ⟨_, .assign _, _, _, _, _⟩ _ _ _; refine A6 hG Y Y ?_)
      | (show AOp _ _ ⟨_, .buildSlice _ _ _, _, _, _, _⟩ _ _ _; first | refine r_mk (sz := 1) hG Y Y Y Y Y Y Y ?_)
      | (show AOp _ _ ⟨_, .call ⟨.builtin .append, _, _⟩, _, _, _, _⟩ _ _ _; first | refine Bg (sz := 1) (xs := []) hG Y Y Y Y Y Y Y ⟨_, Y⟩ Y Y Y Y Y Y Y (by first | omega | (simp; omega)) (fun k => ?_) | refine Bi 0 hG Y Y Y Y Y Y Y ⟨_, Y⟩ Y Y Y Y Y (by first | omega | (simp only [List.length_append, List.length_cons, List.length_nil]; omega)) (fun k => ?_) | fail)
      | (show AOp _ _ ⟨_, .call ⟨.value _, _, _⟩, _, _, _, _⟩ _ _ _; first | (refine r_owns Y Y Y Y Y (by apply hc <;> (first | assumption | omega | exact Ab _ _ | exact Ae _ | exact Ac _ _ | exact Ag _ | rfl | (simp; omega))) (fun k => ?_)) | (have := kk; clear this; refine A5 Y Y Y Y Y (Owns.pure (by apply hc <;> (first | assumption | omega | exact Ab _ _ | exact Ae _ | exact Ac _ _ | exact Ag _ | rfl | (simp; omega)))) ?_) | fail)
      | refine r_q hG Y Y Y ?_))
    | (show AL _ _ _ _ _ _ _ _; first | refine al_s Y Y Y ?_ | (refine Au ?_; first | show AW _ _ _ _ _ _ | show ∃ x', _ < _ ∧ _)) | (show AW _ _ (.seq _ _) _ _ _; refine Ai ?_; intro Q1) | (show AW _ _ (.region _ _ false) _ _ _; refine Af ?_; intro O1) | (show AW _ _ (.ret) _ _ _; refine Ar ?_; try dsimp only [Am, Aa, Ao, Ad]) | fail)
  exact ret_owns 0 (Bm rfl Bp) rfl rfl rfl
end Go.Proofs.Ytnmpgipfbbilbaa
namespace Go.Proofs.Ytnmpgipfbbilbaa
open Go.Ts Go.Sets
attribute [local irreducible] Go.Ts.AW Go.Ts.AOps Go.Ts.AL Go.Ts.AOp Go.Ts.ACalls Go.Ts.DL Go.Ts.DQ Go.Ts.EL
structure SSX (a b : List UInt16) where
  i : Nat
  hi : i ≤ a.length
  hp : ∀ j, j < i → a.getD j default = b.getD j default
theorem ref_SameSet {x y : T} {a b : List UInt16} (hx : catsT x = some a) (hy : catsT y = some b) (hl : a.length ≤ 4294967296) (hm : b.length ≤ 4294967296) : Pure Try.prog 11 [x, y] (.bool (decide (a = b))) := by
  refine Pure.weak (us := [cT a, cT b]) ?_ (wk2 (Bw hx) (Bw hy))
  intro off
  refine Bn (N := 26) (rs := [.tmp 4]) hG Try.func11 rfl rfl rfl rfl rfl ?_
  by_cases hlen : a.length = b.length
  · repeat' (first
    | ((first | (show AL _ _ _ _ _ _ _ _; refine Ah Y ?_) | (show DL _ _ _ _ _ _ _; refine' A9 Y Y (fun K kk => ?_) ?_; try (show Go.Ts.T; rotate_left))); (first
      | (show AOp _ _ ⟨_, .move _, _, _, _, _⟩ _ _ _; refine Ap hG Y Y ?_)
      | (show AOp _ _ ⟨_, .assign _, _, _, _, _⟩ _ _ _; refine A6 hG Y Y ?_)
      | (show AOp _ _ ⟨_, .call ⟨.builtin .len, _, _⟩, _, _, _, _⟩ _ _ _; first | refine Ay hG Y Y Y Y ?_ | refine Bb hG Y Y Y Y Y ?_)
      | (show AOp _ _ ⟨_, .binOp .add _ _ _ _, _, _, _, _⟩ _ _ _; first | refine Al hG Y Y Y Y Y (by omega) ?_)
      | (show AOp _ _ ⟨_, .binOp _ _ _ _ _, _, _, _, _⟩ _ _ _; first | refine Aw hG Y Y Y Y Y (by omega) ?_ | refine Ax hG Y Y Y Y Y (by omega) ?_ | ((fail_if_success have := kk); refine Ak hG Y Y Y Y Y (fun h => ?_) (fun h => ?_)))
      | (show AOp _ _ ⟨_, .load _ _, _, _, _, _⟩ _ _ _; first | refine A7 hG Y Y Y ?_ | refine r_ld 0 hG Y Y Y Y ?_)
      | (show AOp _ _ ⟨_, .indexAddr _ _ _, _, _, _, _⟩ _ _ _; first | refine Az hG Y Y Y Y Y Y Y (by omega) ?_ | refine A0 hG Y Y Y Y Y Y Y (by omega) ?_ | refine Bd hG Y Y ?_)
      | refine r_q hG Y Y Y ?_); try exact kk)
    | (show AL _ _ _ _ _ _ _ _; first | refine al_s Y Y Y ?_ | (refine Au ?_; first | show AW _ _ _ _ _ _ | show ∃ x', _ < _ ∧ _)) | (show AW _ _ (.seq _ _) _ _ _; refine Ai ?_; intro Q1) | (show AW _ _ (.region _ _ false) _ _ _; refine Af ?_; intro O1) | (show AW _ _ (.cond _ _ _) _ _ _; first | refine As Y ?_ | refine Av Y ?_) | (show AW _ _ (.skip) _ _ _; refine Aq ?_; first | show AW _ _ _ _ _ _ | show ∃ x', _ < _ ∧ _) | (show AW _ _ (.block _ _) _ _ _; refine A4 ?_; intro Q1) | (show AW _ _ (.exit _) _ _ _; refine Bh ?_; first | show AW _ _ _ _ _ _ | show ∃ x', _ < _ ∧ _) | (show AW _ _ (.ret) _ _ _; refine Ar ?_; try dsimp only [Am, Aa, Ao, Ad])
    | (show DL _ _ _ _ _ _ _; refine dl_d Y Y (fun K kt kf => Ak hG Y Y Y Y Y kt kf) (fun h => ?_) (fun h => ?_))
    | (show DL _ _ _ _ _ _ _; refine dl_s Y Y Y ?_) | (show DL _ _ _ _ _ _ _; refine Bj ?_; first | show AW _ _ _ _ _ _ | show ∃ x', _ < _ ∧ _) | (show AW _ _ (.region _ _ true) _ _ _; refine A1 mix (by kernel_rfl) ?_; intro O1) | fail)
    refine aw_loop (X := SSX a b) (fun x => [(0, cT a), (1, cT b), (5, .int .i64 x.i)]) (fun x => ⟨[], [], off, none⟩) (fun x => a.length - x.i) ⟨0, Nat.zero_le _, fun j hj => by omega⟩ ?_ (.refl _) ?_
    · exact .cons rfl (.cons rfl (.consW rfl (.int rfl) (.nil _)))
    rintro ⟨i, hi, hp⟩
    dsimp only
    by_cases hib : i < a.length
    · by_cases heq : (((a.getD i default).toNat : Int) = ((b.getD i default).toNat : Int))
      · repeat' (first
    | ((first | (show AL _ _ _ _ _ _ _ _; refine Ah Y ?_) | (show DL _ _ _ _ _ _ _; refine' A9 Y Y (fun K kk => ?_) ?_; try (show Go.Ts.T; rotate_left))); (first
      | (show AOp _ _ ⟨_, .move _, _, _, _, _⟩ _ _ _; refine Ap hG Y Y ?_)
      | (show AOp _ _ ⟨_, .assign _, _, _, _, _⟩ _ _ _; refine A6 hG Y Y ?_)
      | (show AOp _ _ ⟨_, .call ⟨.builtin .len, _, _⟩, _, _, _, _⟩ _ _ _; first | refine Ay hG Y Y Y Y ?_ | refine Bb hG Y Y Y Y Y ?_)
      | (show AOp _ _ ⟨_, .binOp .add _ _ _ _, _, _, _, _⟩ _ _ _; first | refine Al hG Y Y Y Y Y (by omega) ?_)
      | (show AOp _ _ ⟨_, .binOp _ _ _ _ _, _, _, _, _⟩ _ _ _; first | refine Aw hG Y Y Y Y Y (by omega) ?_ | refine Ax hG Y Y Y Y Y (by omega) ?_ | ((fail_if_success have := kk); refine Ak hG Y Y Y Y Y (fun h => ?_) (fun h => ?_)))
      | (show AOp _ _ ⟨_, .load _ _, _, _, _, _⟩ _ _ _; first | refine A7 hG Y Y Y ?_ | refine r_ld 0 hG Y Y Y Y ?_)
      | (show AOp _ _ ⟨_, .indexAddr _ _ _, _, _, _, _⟩ _ _ _; first | refine Az hG Y Y Y Y Y Y Y (by omega) ?_ | refine A0 hG Y Y Y Y Y Y Y (by omega) ?_ | refine Bd hG Y Y ?_)
      | refine r_q hG Y Y Y ?_); try exact kk)
    | (show AL _ _ _ _ _ _ _ _; first | refine al_s Y Y Y ?_ | (refine Au ?_; first | show AW _ _ _ _ _ _ | show ∃ x', _ < _ ∧ _)) | (show AW _ _ (.seq _ _) _ _ _; refine Ai ?_; intro Q1) | (show AW _ _ (.region _ _ false) _ _ _; refine Af ?_; intro O1) | (show AW _ _ (.cond _ _ _) _ _ _; first | refine As Y ?_ | refine Av Y ?_) | (show AW _ _ (.skip) _ _ _; refine Aq ?_; first | show AW _ _ _ _ _ _ | show ∃ x', _ < _ ∧ _) | (show AW _ _ (.block _ _) _ _ _; refine A4 ?_; intro Q1) | (show AW _ _ (.exit _) _ _ _; refine Bh ?_; first | show AW _ _ _ _ _ _ | show ∃ x', _ < _ ∧ _) | (show AW _ _ (.ret) _ _ _; refine Ar ?_; try dsimp only [Am, Aa, Ao, Ad])
    | (show DL _ _ _ _ _ _ _; refine dl_d Y Y (fun K kt kf => Ak hG Y Y Y Y Y kt kf) (fun h => ?_) (fun h => ?_))
    | (show DL _ _ _ _ _ _ _; refine dl_s Y Y Y ?_) | (show DL _ _ _ _ _ _ _; refine Bj ?_; first | show AW _ _ _ _ _ _ | show ∃ x', _ < _ ∧ _) | (show AW _ _ (.region _ _ true) _ _ _; refine A1 mix (by kernel_rfl) ?_; intro O1) | fail)
        refine ⟨⟨i + 1, by omega, fun j hj => ?_⟩, by dsimp only; omega, ?_, .refl _⟩
        · by_cases hj2 : j < i
          · exact hp j hj2
          · obtain rfl : j = i := by omega
            rw [← UInt16.toNat_inj]; omega
        · exact .cons rfl (.cons rfl (.consW rfl (.int (by simp)) (.nil _)))
      · repeat' (first
    | ((first | (show AL _ _ _ _ _ _ _ _; refine Ah Y ?_) | (show DL _ _ _ _ _ _ _; refine' A9 Y Y (fun K kk => ?_) ?_; try (show Go.Ts.T; rotate_left))); (first
      | (show AOp _ _ ⟨_, .move _, _, _, _, _⟩ _ _ _; refine Ap hG Y Y ?_)
      | (show AOp _ _ ⟨_, .assign _, _, _, _, _⟩ _ _ _; refine A6 hG Y Y ?_)
      | (show AOp _ _ ⟨_, .call ⟨.builtin .len, _, _⟩, _, _, _, _⟩ _ _ _; first | refine Ay hG Y Y Y Y ?_ | refine Bb hG Y Y Y Y Y ?_)
      | (show AOp _ _ ⟨_, .binOp .add _ _ _ _, _, _, _, _⟩ _ _ _; first | refine Al hG Y Y Y Y Y (by omega) ?_)
      | (show AOp _ _ ⟨_, .binOp _ _ _ _ _, _, _, _, _⟩ _ _ _; first | refine Aw hG Y Y Y Y Y (by omega) ?_ | refine Ax hG Y Y Y Y Y (by omega) ?_ | ((fail_if_success have := kk); refine Ak hG Y Y Y Y Y (fun h => ?_) (fun h => ?_)))
      | (show AOp _ _ ⟨_, .load _ _, _, _, _, _⟩ _ _ _; first | refine A7 hG Y Y Y ?_ | refine r_ld 0 hG Y Y Y Y ?_)
      | (show AOp _ _ ⟨_, .indexAddr _ _ _, _, _, _, _⟩ _ _ _; first | refine Az hG Y Y Y Y Y Y Y (by omega) ?_ | refine A0 hG Y Y Y Y Y Y Y (by omega) ?_ | refine Bd hG Y Y ?_)
      | refine r_q hG Y Y Y ?_); try exact kk)
    | (show AL _ _ _ _ _ _ _ _; first | refine al_s Y Y Y ?_ | (refine Au ?_; first | show AW _ _ _ _ _ _ | show ∃ x', _ < _ ∧ _)) | (show AW _ _ (.seq _ _) _ _ _; refine Ai ?_; intro Q1) | (show AW _ _ (.region _ _ false) _ _ _; refine Af ?_; intro O1) | (show AW _ _ (.cond _ _ _) _ _ _; first | refine As Y ?_ | refine Av Y ?_) | (show AW _ _ (.skip) _ _ _; refine Aq ?_; first | show AW _ _ _ _ _ _ | show ∃ x', _ < _ ∧ _) | (show AW _ _ (.block _ _) _ _ _; refine A4 ?_; intro Q1) | (show AW _ _ (.exit _) _ _ _; refine Bh ?_; first | show AW _ _ _ _ _ _ | show ∃ x', _ < _ ∧ _) | (show AW _ _ (.ret) _ _ _; refine Ar ?_; try dsimp only [Am, Aa, Ao, Ad])
    | (show DL _ _ _ _ _ _ _; refine dl_d Y Y (fun K kt kf => Ak hG Y Y Y Y Y kt kf) (fun h => ?_) (fun h => ?_))
    | (show DL _ _ _ _ _ _ _; refine dl_s Y Y Y ?_) | (show DL _ _ _ _ _ _ _; refine Bj ?_; first | show AW _ _ _ _ _ _ | show ∃ x', _ < _ ∧ _) | (show AW _ _ (.region _ _ true) _ _ _; refine A1 mix (by kernel_rfl) ?_; intro O1) | fail)
        refine Bv (Bm rfl Bp) (.eq ?_) rfl
        rw [decide_eq_false (fun h => heq (by rw [h]))]; rfl
    · repeat' (first
    | ((first | (show AL _ _ _ _ _ _ _ _; refine Ah Y ?_) | (show DL _ _ _ _ _ _ _; refine' A9 Y Y (fun K kk => ?_) ?_; try (show Go.Ts.T; rotate_left))); (first
      | (show AOp _ _ ⟨_, .move _, _, _, _, _⟩ _ _ _; refine Ap hG Y Y ?_)
      | (show AOp _ _ ⟨_, .assign _, _, _, _, _⟩ _ _ _; refine A6 hG Y Y ?_)
      | (show AOp _ _ ⟨_, .call ⟨.builtin .len, _, _⟩, _, _, _, _⟩ _ _ _; first | refine Ay hG Y Y Y Y ?_ | refine Bb hG Y Y Y Y Y ?_)
      | (show AOp _ _ ⟨_, .binOp .add _ _ _ _, _, _, _, _⟩ _ _ _; first | refine Al hG Y Y Y Y Y (by omega) ?_)
      | (show AOp _ _ ⟨_, .binOp _ _ _ _ _, _, _, _, _⟩ _ _ _; first | refine Aw hG Y Y Y Y Y (by omega) ?_ | refine Ax hG Y Y Y Y Y (by omega) ?_ | ((fail_if_success have := kk); refine Ak hG Y Y Y Y Y (fun h => ?_) (fun h => ?_)))
      | (show AOp _ _ ⟨_, .load _ _, _, _, _, _⟩ _ _ _; first | refine A7 hG Y Y Y ?_ | refine r_ld 0 hG Y Y Y Y ?_)
      | (show AOp _ _ ⟨_, .indexAddr _ _ _, _, _, _, _⟩ _ _ _; first | refine Az hG Y Y Y Y Y Y Y (by omega) ?_ | refine A0 hG Y Y Y Y Y Y Y (by omega) ?_ | refine Bd hG Y Y ?_)
      | refine r_q hG Y Y Y ?_); try exact kk)
    | (show AL _ _ _ _ _ _ _ _; first | refine al_s Y Y Y ?_ | (refine Au ?_; first | show AW _ _ _ _ _ _ | show ∃ x', _ < _ ∧ _)) | (show AW _ _ (.seq _ _) _ _ _; refine Ai ?_; intro Q1) | (show AW _ _ (.region _ _ false) _ _ _; refine Af ?_; intro O1) | (show AW _ _ (.cond _ _ _) _ _ _; first | refine As Y ?_ | refine Av Y ?_) | (show AW _ _ (.skip) _ _ _; refine Aq ?_; first | show AW _ _ _ _ _ _ | show ∃ x', _ < _ ∧ _) | (show AW _ _ (.block _ _) _ _ _; refine A4 ?_; intro Q1) | (show AW _ _ (.exit _) _ _ _; refine Bh ?_; first | show AW _ _ _ _ _ _ | show ∃ x', _ < _ ∧ _) | (show AW _ _ (.ret) _ _ _; refine Ar ?_; try dsimp only [Am, Aa, Ao, Ad])
    | (show DL _ _ _ _ _ _ _; refine dl_d Y Y (fun K kt kf => Ak hG Y Y Y Y Y kt kf) (fun h => ?_) (fun h => ?_))
    | (show DL _ _ _ _ _ _ _; refine dl_s Y Y Y ?_) | (show DL _ _ _ _ _ _ _; refine Bj ?_; first | show AW _ _ _ _ _ _ | show ∃ x', _ < _ ∧ _) | (show AW _ _ (.region _ _ true) _ _ _; refine A1 mix (by kernel_rfl) ?_; intro O1) | fail)
      refine Bv (Bm rfl Bp) (.eq ?_) rfl
      have : a = b := List.ext_getElem hlen fun j h1 h2 => by
        have := hp j (by omega)
        simpa [List.getD_eq_getElem?_getD, List.getElem?_eq_getElem, h1, h2] using this
      rw [decide_eq_true this]; rfl
  · repeat' (first
    | ((first | (show AL _ _ _ _ _ _ _ _; refine Ah Y ?_) | (show DL _ _ _ _ _ _ _; refine' A9 Y Y (fun K kk => ?_) ?_; try (show Go.Ts.T; rotate_left))); (first
      | (show AOp _ _ ⟨_, .move _, _, _, _, _⟩ _ _ _; refine Ap hG Y Y ?_)
      | (show AOp _ _ ⟨_, .assign _, _, _, _, _⟩ _ _ _; refine A6 hG Y Y ?_)
      | (show AOp _ _ ⟨_, .call ⟨.builtin .len, _, _⟩, _, _, _, _⟩ _ _ _; first | refine Ay hG Y Y Y Y ?_ | refine Bb hG Y Y Y Y Y ?_)
      | (show AOp _ _ ⟨_, .binOp .add _ _ _ _, _, _, _, _⟩ _ _ _; first | refine Al hG Y Y Y Y Y (by omega) ?_)
      | (show AOp _ _ ⟨_, .binOp _ _ _ _ _, _, _, _, _⟩ _ _ _; first | refine Aw hG Y Y Y Y Y (by omega) ?_ | refine Ax hG Y Y Y Y Y (by omega) ?_ | ((fail_if_success have := kk); refine Ak hG Y Y Y Y Y (fun h => ?_) (fun h => ?_)))
      | (show AOp _ _ ⟨_, .load _ _, _, _, _, _⟩ _ _ _; first | refine A7 hG Y Y Y ?_ | refine r_ld 0 hG Y Y Y Y ?_)
      | (show AOp _ _ ⟨_, .indexAddr _ _ _, _, _, _, _⟩ _ _ _; first | refine Az hG Y Y Y Y Y Y Y (by omega) ?_ | refine A0 hG Y Y Y Y Y Y Y (by omega) ?_ | refine Bd hG Y Y ?_)
      | refine r_q hG Y Y Y ?_); try exact kk)
    | (show AL _ _ _ _ _ _ _ _; first | refine al_s Y Y Y ?_ | (refine Au ?_; first | show AW _ _ _ _ _ _ | show ∃ x', _ < _ ∧ _)) | (show AW _ _ (.seq _ _) _ _ _; refine Ai ?_; intro Q1) | (show AW _ _ (.region _ _ false) _ _ _; refine Af ?_; intro O1) | (show AW _ _ (.cond _ _ _) _ _ _; first | refine As Y ?_ | refine Av Y ?_) | (show AW _ _ (.skip) _ _ _; refine Aq ?_; first | show AW _ _ _ _ _ _ | show ∃ x', _ < _ ∧ _) | (show AW _ _ (.block _ _) _ _ _; refine A4 ?_; intro Q1) | (show AW _ _ (.exit _) _ _ _; refine Bh ?_; first | show AW _ _ _ _ _ _ | show ∃ x', _ < _ ∧ _) | (show AW _ _ (.ret) _ _ _; refine Ar ?_; try dsimp only [Am, Aa, Ao, Ad])
    | (show DL _ _ _ _ _ _ _; refine dl_d Y Y (fun K kt kf => Ak hG Y Y Y Y Y kt kf) (fun h => ?_) (fun h => ?_))
    | (show DL _ _ _ _ _ _ _; refine dl_s Y Y Y ?_) | (show DL _ _ _ _ _ _ _; refine Bj ?_; first | show AW _ _ _ _ _ _ | show ∃ x', _ < _ ∧ _) | (show AW _ _ (.region _ _ true) _ _ _; refine A1 mix (by kernel_rfl) ?_; intro O1) | fail)
    refine Bv (Bm rfl Bp) (.eq ?_) rfl
    rw [decide_eq_false (fun h => hlen (by rw [h]))]; rfl
end Go.Proofs.Ytnmpgipfbbilbaa
namespace Go.Proofs.Ytnmpgipfbbilbaa
open Go.Ts Go.Sets
set_option linter.unusedSimpArgs false
set_option linter.unusedVariables false
attribute [local irreducible] Go.Ts.AW Go.Ts.AOps Go.Ts.AL Go.Ts.AOp Go.Ts.ACalls Go.Ts.DL Go.Ts.DQ Go.Ts.EL
theorem cats_And1 (i t : Bool) : Pure Try.prog 36 [.bool i, .bool t] (.bool (kAnd i t)) := by
  intro off
  cases i with
  | true =>
    refine Bn (N := 9) (rs := [.tmp 4]) hG Try.func36 rfl rfl rfl rfl rfl ?_
    repeat' (first
    | ((show AL _ _ _ _ _ _ _ _; refine Ah Y ?_); (first
      | (show AOp _ _ ⟨_, .move _, _, _, _, _⟩ _ _ _; refine Ap hG Y Y ?_)
      | (show AOp _ _ ⟨_, .assign _, _, _, _, _⟩ _ _ _; refine A6 hG Y Y ?_)
      | (show AOp _ _ ⟨_, .pick _ _ _, _, _, _, _⟩ _ _ _; refine Ba hG Y Y Y ?_)
      | refine r_q hG Y Y Y ?_))
    | (show AL _ _ _ _ _ _ _ _; first | refine al_s Y Y Y ?_ | (refine Au ?_; first | show AW _ _ _ _ _ _ | show ∃ x', _ < _ ∧ _)) | (show AW _ _ (.seq _ _) _ _ _; refine Ai ?_; intro Q1) | (show AW _ _ (.region _ _ false) _ _ _; refine Af ?_; intro O1) | (show AW _ _ (.ret) _ _ _; refine Ar ?_; try dsimp only [Am, Aa, Ao, Ad]) | fail)
    exact Bv (Bm rfl Bp) (.refl _) rfl
  | false =>
    refine Bn (N := 9) (rs := [.tmp 4]) hG Try.func36 rfl rfl rfl rfl rfl ?_
    repeat' (first
    | ((show AL _ _ _ _ _ _ _ _; refine Ah Y ?_); (first
      | (show AOp _ _ ⟨_, .move _, _, _, _, _⟩ _ _ _; refine Ap hG Y Y ?_)
      | (show AOp _ _ ⟨_, .assign _, _, _, _, _⟩ _ _ _; refine A6 hG Y Y ?_)
      | (show AOp _ _ ⟨_, .pick _ _ _, _, _, _, _⟩ _ _ _; refine Ba hG Y Y Y ?_)
      | refine r_q hG Y Y Y ?_))
    | (show AL _ _ _ _ _ _ _ _; first | refine al_s Y Y Y ?_ | (refine Au ?_; first | show AW _ _ _ _ _ _ | show ∃ x', _ < _ ∧ _)) | (show AW _ _ (.seq _ _) _ _ _; refine Ai ?_; intro Q1) | (show AW _ _ (.region _ _ false) _ _ _; refine Af ?_; intro O1) | (show AW _ _ (.ret) _ _ _; refine Ar ?_; try dsimp only [Am, Aa, Ao, Ad]) | fail)
    exact Bv (Bm rfl Bp) (.refl _) rfl
theorem cats_And {x y : T} {a b : List UInt16} (hx : catsT x = some a) (hy : catsT y = some b) (hl : a.length + b.length ≤ 4294967000) :
    Owns Try.prog 21 [x, y] 1 ((Bk kAnd a b).map hT) := by
  refine Owns.weak (us := [cT a, cT b]) ?_ (wk2 (Bw hx) (Bw hy))
  intro off
  refine Bn (N := 8) (rs := [.tmp 4]) hG Try.func21 rfl rfl rfl rfl rfl ?_
  have hc := merge_any cats_And1 (Ag a) (Ag b) hl
  repeat' (first
    | ((show AL _ _ _ _ _ _ _ _; refine Ah Y ?_); (first
      | (show AOp _ _ ⟨_, .move _, _, _, _, _⟩ _ _ _; refine Ap hG Y Y ?_)
      | (show AOp _ _ ⟨_, .assign _, _, _, _, _⟩ _ _ _; refine A6 hG Y Y ?_)
      | (show AOp _ _ ⟨_, .call ⟨.value _, _, _⟩, _, _, _, _⟩ _ _ _; first | (refine r_owns Y Y Y Y Y (by first | (apply hc <;> (first | assumption | omega | exact Ab _ _ | exact Ae _ | exact Ac _ _ | exact Ag _ | rfl | (simp; omega))) | fail) (fun k => ?_)) | (have := kk; clear this; refine A5 Y Y Y Y Y (Owns.pure (by first | (apply hc <;> (first | assumption | omega | exact Ab _ _ | exact Ae _ | exact Ac _ _ | exact Ag _ | rfl | (simp; omega))) | fail)) ?_) | fail)
      | refine r_q hG Y Y Y ?_))
    | (show AL _ _ _ _ _ _ _ _; first | refine al_s Y Y Y ?_ | (refine Au ?_; first | show AW _ _ _ _ _ _ | show ∃ x', _ < _ ∧ _)) | (show AW _ _ (.seq _ _) _ _ _; refine Ai ?_; intro Q1) | (show AW _ _ (.region _ _ false) _ _ _; refine Af ?_; intro O1) | (show AW _ _ (.ret) _ _ _; refine Ar ?_; try dsimp only [Am, Aa, Ao, Ad]) | fail)
  exact ret_owns 0 (Bm rfl Bp) rfl rfl rfl
theorem cats_Less1 (i t : Bool) : Pure Try.prog 38 [.bool i, .bool t] (.bool (kLess i t)) := by
  intro off
  refine Bn (N := 7) (rs := [.tmp 4]) hG Try.func38 rfl rfl rfl rfl rfl ?_
  repeat' (first
    | ((show AL _ _ _ _ _ _ _ _; refine Ah Y ?_); (first
      | (show AOp _ _ ⟨_, .move _, _, _, _, _⟩ _ _ _; refine Ap hG Y Y ?_)
      | (show AOp _ _ ⟨_, .assign _, _, _, _, _⟩ _ _ _; refine A6 hG Y Y ?_)
      | (show AOp _ _ ⟨_, .unOp _ _ _, _, _, _, _⟩ _ _ _; refine r_not hG Y Y Y ?_)
      | refine r_q hG Y Y Y ?_))
    | (show AL _ _ _ _ _ _ _ _; first | refine al_s Y Y Y ?_ | (refine Au ?_; first | show AW _ _ _ _ _ _ | show ∃ x', _ < _ ∧ _)) | (show AW _ _ (.seq _ _) _ _ _; refine Ai ?_; intro Q1) | (show AW _ _ (.region _ _ false) _ _ _; refine Af ?_; intro O1) | (show AW _ _ (.ret) _ _ _; refine Ar ?_; try dsimp only [Am, Aa, Ao, Ad]) | fail)
  exact Bv (Bm rfl Bp) (.refl _) rfl
theorem cats_Less {x y : T} {a b : List UInt16} (hx : catsT x = some a) (hy : catsT y = some b) (hl : a.length + b.length ≤ 4294967000) :
    Owns Try.prog 23 [x, y] 1 ((Bk kLess a b).map hT) := by
  refine Owns.weak (us := [cT a, cT b]) ?_ (wk2 (Bw hx) (Bw hy))
  intro off
  refine Bn (N := 8) (rs := [.tmp 4]) hG Try.func23 rfl rfl rfl rfl rfl ?_
  have hc := merge_any cats_Less1 (Ag a) (Ag b) hl
  repeat' (first
    | ((show AL _ _ _ _ _ _ _ _; refine Ah Y ?_); (first
      | (show AOp _ _ ⟨_, .move _, _, _, _, _⟩ _ _ _; refine Ap hG Y Y ?_)
      | (show AOp _ _ ⟨_, .assign _, _, _, _, _⟩ _ _ _; refine A6 hG Y Y ?_)
      | (show AOp _ _ ⟨_, .call ⟨.value _, _, _⟩, _, _, _, _⟩ _ _ _; first | (refine r_owns Y Y Y Y Y (by first | (apply hc <;> (first | assumption | omega | exact Ab _ _ | exact Ae _ | exact Ac _ _ | exact Ag _ | rfl | (simp; omega))) | fail) (fun k => ?_)) | (have := kk; clear this; refine A5 Y Y Y Y Y (Owns.pure (by first | (apply hc <;> (first | assumption | omega | exact Ab _ _ | exact Ae _ | exact Ac _ _ | exact Ag _ | rfl | (simp; omega))) | fail)) ?_) | fail)
      | refine r_q hG Y Y Y ?_))
    | (show AL _ _ _ _ _ _ _ _; first | refine al_s Y Y Y ?_ | (refine Au ?_; first | show AW _ _ _ _ _ _ | show ∃ x', _ < _ ∧ _)) | (show AW _ _ (.seq _ _) _ _ _; refine Ai ?_; intro Q1) | (show AW _ _ (.region _ _ false) _ _ _; refine Af ?_; intro O1) | (show AW _ _ (.ret) _ _ _; refine Ar ?_; try dsimp only [Am, Aa, Ao, Ad]) | fail)
  exact ret_owns 0 (Bm rfl Bp) rfl rfl rfl
theorem cats_In {x y : T} {a b : List UInt16} (hx : catsT x = some a) (hy : catsT y = some b) (hl : a.length + b.length ≤ 4294967000) :
    Pure Try.prog 25 [x, y] (.bool (decide (Bk kLess a b = []))) := by
  refine Pure.weak (us := [cT a, cT b]) ?_ (wk2 (Bw hx) (Bw hy))
  have hc := cats_Less (Ag a) (Ag b) hl
  generalize Bk kLess a b = m at *
  intro off
  cases m with
  | nil =>
    rw [decide_eq_true rfl]
    refine Bn (N := 10) (rs := [.tmp 4]) hG Try.func25 rfl rfl rfl rfl rfl ?_
    repeat' (first
    | ((show AL _ _ _ _ _ _ _ _; refine Ah Y ?_); (first
      | (show AOp _ _ ⟨_, .move _, _, _, _, _⟩ _ _ _; refine Ap hG Y Y ?_)
      | (show AOp _ _ ⟨_, .assign _, _, _, _, _⟩ _ _ _; refine A6 hG Y Y ?_)
      | (show AOp _ _ ⟨_, .call ⟨.builtin .len, _, _⟩, _, _, _, _⟩ _ _ _; first | refine Ay hG Y Y Y Y ?_ | refine Bb hG Y Y Y Y Y ?_)
      | (show AOp _ _ ⟨_, .binOp _ _ _ _ _, _, _, _, _⟩ _ _ _; first | refine Aw hG Y Y Y Y Y (by omega) ?_ | refine Ax hG Y Y Y Y Y (by omega) ?_ | (refine Ak hG Y Y Y Y Y (fun h => ?_) (fun h => ?_)))
      | (show AOp _ _ ⟨_, .call ⟨.value _, _, _⟩, _, _, _, _⟩ _ _ _; first | (refine r_owns Y Y Y Y Y (by first | (apply hc <;> (first | assumption | omega | exact Ab _ _ | exact Ae _ | exact Ac _ _ | exact Ag _ | rfl | (simp; omega))) | fail) (fun k => ?_)) | (have := kk; clear this; refine A5 Y Y Y Y Y (Owns.pure (by first | (apply hc <;> (first | assumption | omega | exact Ab _ _ | exact Ae _ | exact Ac _ _ | exact Ag _ | rfl | (simp; omega))) | fail)) ?_) | fail)
      | refine r_q hG Y Y Y ?_))
    | (show AL _ _ _ _ _ _ _ _; first | refine al_s Y Y Y ?_ | (refine Au ?_; first | show AW _ _ _ _ _ _ | show ∃ x', _ < _ ∧ _)) | (show AW _ _ (.seq _ _) _ _ _; refine Ai ?_; intro Q1) | (show AW _ _ (.region _ _ false) _ _ _; refine Af ?_; intro O1) | (show AW _ _ (.ret) _ _ _; refine Ar ?_; try dsimp only [Am, Aa, Ao, Ad]) | fail)
    · exact Bv (Bm rfl Bp) (.refl _) rfl
    · exact absurd (by simp) h
  | cons z m =>
    rw [decide_eq_false (by simp)]
    refine Bn (N := 10) (rs := [.tmp 4]) hG Try.func25 rfl rfl rfl rfl rfl ?_
    repeat' (first
    | ((show AL _ _ _ _ _ _ _ _; refine Ah Y ?_); (first
      | (show AOp _ _ ⟨_, .move _, _, _, _, _⟩ _ _ _; refine Ap hG Y Y ?_)
      | (show AOp _ _ ⟨_, .assign _, _, _, _, _⟩ _ _ _; refine A6 hG Y Y ?_)
      | (show AOp _ _ ⟨_, .call ⟨.builtin .len, _, _⟩, _, _, _, _⟩ _ _ _; first | refine Ay hG Y Y Y Y ?_ | refine Bb hG Y Y Y Y Y ?_)
      | (show AOp _ _ ⟨_, .binOp _ _ _ _ _, _, _, _, _⟩ _ _ _; first | refine Aw hG Y Y Y Y Y (by omega) ?_ | refine Ax hG Y Y Y Y Y (by omega) ?_ | (refine Ak hG Y Y Y Y Y (fun h => ?_) (fun h => ?_)))
      | (show AOp _ _ ⟨_, .call ⟨.value _, _, _⟩, _, _, _, _⟩ _ _ _; first | (refine r_owns Y Y Y Y Y (by first | (apply hc <;> (first | assumption | omega | exact Ab _ _ | exact Ae _ | exact Ac _ _ | exact Ag _ | rfl | (simp; omega))) | fail) (fun k => ?_)) | (have := kk; clear this; refine A5 Y Y Y Y Y (Owns.pure (by first | (apply hc <;> (first | assumption | omega | exact Ab _ _ | exact Ae _ | exact Ac _ _ | exact Ag _ | rfl | (simp; omega))) | fail)) ?_) | fail)
      | refine r_q hG Y Y Y ?_))
    | (show AL _ _ _ _ _ _ _ _; first | refine al_s Y Y Y ?_ | (refine Au ?_; first | show AW _ _ _ _ _ _ | show ∃ x', _ < _ ∧ _)) | (show AW _ _ (.seq _ _) _ _ _; refine Ai ?_; intro Q1) | (show AW _ _ (.region _ _ false) _ _ _; refine Af ?_; intro O1) | (show AW _ _ (.ret) _ _ _; refine Ar ?_; try dsimp only [Am, Aa, Ao, Ad]) | fail)
    · exact absurd h (by simp; omega)
    · exact Bv (Bm rfl Bp) (.refl _) rfl
structure BsX (l : List UInt16) (c : UInt16) where
  i : Nat
  j : Nat
  hij : i ≤ j
  hj : j ≤ l.length
  hl : ∀ k, k < i → l.getD k default < c
  hr : ∀ k, j ≤ k → k < l.length → ¬ l.getD k default < c
theorem is_NaN (x : UInt16) : Ts.Pure Try.prog 43 [hT x] (.bool false) := by
  intro off
  refine Bn (N := 6) (rs := [.tmp 2]) hG Try.func43 rfl rfl rfl rfl rfl ?_
  repeat' (first
    | ((show AL _ _ _ _ _ _ _ _; refine Ah Y ?_); (first
      | (show AOp _ _ ⟨_, .move _, _, _, _, _⟩ _ _ _; refine Ap hG Y Y ?_)
      | (show AOp _ _ ⟨_, .assign _, _, _, _, _⟩ _ _ _; refine A6 hG Y Y ?_)
      | (show AOp _ _ ⟨_, .binOp _ _ _ _ _, _, _, _, _⟩ _ _ _; first | refine Aw hG Y Y Y Y Y (by omega) ?_ | refine Ax hG Y Y Y Y Y (by omega) ?_ | (refine Ak hG Y Y Y Y Y (fun h => ?_) (fun h => ?_)))
      | refine r_q hG Y Y Y ?_))
    | (show AL _ _ _ _ _ _ _ _; first | refine al_s Y Y Y ?_ | (refine Au ?_; first | show AW _ _ _ _ _ _ | show ∃ x', _ < _ ∧ _)) | (show AW _ _ (.seq _ _) _ _ _; refine Ai ?_; intro Q1) | (show AW _ _ (.region _ _ false) _ _ _; refine Af ?_; intro O1) | (show AW _ _ (.ret) _ _ _; refine Ar ?_; try dsimp only [Am, Aa, Ao, Ad]) | fail)
  exact Bv (Bm rfl Bp) (.refl _) rfl
def bsI (l : List UInt16) (c : UInt16) : Nat := (l.filter (fun x => decide (x < c))).length
theorem getD_lt {l : List UInt16} {k : Nat} (d : UInt16) (h : k < l.length) : l.getD k d = l[k] := by simp [List.getD, h]
theorem bsI_at {l : List UInt16} {c : UInt16} {i : Nat} (hi : i ≤ l.length) (hl : ∀ k, k < i → l.getD k default < c) (hr : ∀ k, i ≤ k → k < l.length → ¬ l.getD k default < c) : bsI l c = i := by
  unfold bsI
  rw [← List.take_append_drop i l, List.filter_append, List.filter_eq_self.2, List.filter_eq_nil_iff.2]
  · simp; omega
  · intro x hx
    obtain ⟨k, hk, rfl⟩ := List.mem_iff_getElem.1 hx
    simp only [List.length_drop] at hk
    have := hr (i + k) (by omega) (by omega)
    rw [getD_lt _ (by omega)] at this
    simpa using this
  · intro x hx
    obtain ⟨k, hk, rfl⟩ := List.mem_iff_getElem.1 hx
    simp only [List.length_take] at hk
    have := hl k (by omega)
    rw [getD_lt _ (by omega)] at this
    simpa using this
theorem bs_has {l : List UInt16} {c : UInt16} {i : Nat} (hu : Up l) (hi : i ≤ l.length) (hl : ∀ k, k < i → l.getD k default < c) (hr : ∀ k, i ≤ k → k < l.length → ¬ l.getD k default < c) : c ∈ l ↔ i < l.length ∧ l.getD i default = c := by
  constructor
  · intro hm
    obtain ⟨k, hk, rfl⟩ := List.mem_iff_getElem.1 hm
    have hki : ¬ k < i := fun h => by
      have := hl k h
      rw [getD_lt _ hk] at this
      exact lt_irrefl _ this
    rcases Nat.lt_or_ge i k with h | h
    · exfalso
      have h1 := hr i (Nat.le_refl _) (by omega)
      rw [getD_lt _ (by omega)] at h1
      exact h1 (List.pairwise_iff_getElem.1 hu i k (by omega) hk h)
    · obtain rfl : k = i := by omega
      exact ⟨hk, by rw [getD_lt _ hk]⟩
  · rintro ⟨h1, h2⟩
    rw [getD_lt _ h1] at h2
    exact h2 ▸ List.getElem_mem h1
theorem up_le2 {l : List UInt16} {c : UInt16} {k q : Nat} (hu : Up l) (hkq : k ≤ q) (hq : q < l.length) (h : l.getD q default < c) : l.getD k default < c := by
  rcases Nat.lt_or_ge k q with h1 | h1
  · rw [getD_lt _ hq] at h
    rw [getD_lt _ (by omega)]
    exact lt_trans (List.pairwise_iff_getElem.1 hu k q (by omega) hq h1) h
  · obtain rfl : k = q := by omega
    exact h
theorem bin_search {l : List UInt16} {c : UInt16} (hu : Up l) (hn : l.length ≤ 4294967296) : Ts.Pure Try.prog 35 [cT l, hT c] (.tup [.int .i64 (bsI l c : Int), .bool (decide (c ∈ l))]) := by
  obtain ⟨B, hB⟩ : ∃ B, bsI l c = B := ⟨_, rfl⟩
  obtain ⟨D, hD⟩ : ∃ D, decide (c ∈ l) = D := ⟨_, rfl⟩
  rw [hB, hD]
  intro off
  refine Bn (N := 54) (rs := [.tmp 4, .tmp 5]) hG Try.func35 rfl rfl rfl rfl rfl ?_
  repeat' (first
    | ((show AL _ _ _ _ _ _ _ _; refine Ah Y ?_); (first
      | (show AOp _ _ ⟨_, .move _, _, _, _, _⟩ _ _ _; refine Ap hG Y Y ?_)
      | (show AOp _ _ ⟨_, .assign _, _, _, _, _⟩ _ _ _; refine A6 hG Y Y ?_)
      | (show AOp _ _ ⟨_, .call ⟨.builtin .len, _, _⟩, _, _, _, _⟩ _ _ _; first | refine Ay hG Y Y Y Y ?_ | refine Bb hG Y Y Y Y Y ?_)
      | (show AOp _ _ ⟨_, .binOp .add _ _ _ _, _, _, _, _⟩ _ _ _; first | refine r_arN hG Y Y Y Y Y (by omega) ?_ | refine r_arN (m := 1) hG Y Y Y Y Y (by omega) ?_ | refine Al hG Y Y Y Y Y (by omega) ?_)
      | (show AOp _ _ ⟨_, .binOp .shr _ _ _ _, _, _, _, _⟩ _ _ _; refine r_shr hG Y Y Y Y (by omega) ?_)
      | (show AOp _ _ ⟨_, .binOp _ _ _ _ _, _, _, _, _⟩ _ _ _; first | refine Aw hG Y Y Y Y Y (by omega) ?_ | refine Ax hG Y Y Y Y Y (by omega) ?_ | (refine Ak hG Y Y Y Y Y (fun h => ?_) (fun h => ?_)))
      | (show AOp _ _ ⟨_, .load _ _, _, _, _, _⟩ _ _ _; first | refine r_ldL (α := UInt16) 0 hG Y Y Y Y (by omega) Y ?_ | refine A7 hG Y Y Y ?_ | refine r_ld 0 hG Y Y Y Y ?_)
      | (show AOp _ _ ⟨_, .indexAddr _ _ _, _, _, _, _⟩ _ _ _; first | refine r_idxL hG Y Y Y Y Y Y Y (by omega) ?_ | refine Az hG Y Y Y Y Y Y Y (by omega) ?_ | refine A0 hG Y Y Y Y Y Y Y (by omega) ?_ | refine Bd hG Y Y ?_)
      | (show AOp _ _ ⟨_, .convert _ _ _, _, _, _, _⟩ _ _ _; first | refine r_cv_i64 hG Y Y Y Y Y (by omega) ?_ | refine r_cv_u64 hG Y Y Y Y Y (by omega) ?_ | refine r_cvw hG Y Y Y Y Y ?_)
      | (show AOp _ _ ⟨_, .pick _ _ _, _, _, _, _⟩ _ _ _; refine Ba hG Y Y Y ?_)
      | refine r_q hG Y Y Y ?_))
    | (show AL _ _ _ _ _ _ _ _; first | refine al_s Y Y Y ?_ | (refine Au ?_; first | show AW _ _ _ _ _ _ | show ∃ x', _ < _ ∧ _)) | (show AW _ _ (.seq _ _) _ _ _; refine Ai ?_; intro Q1) | (show AW _ _ (.region _ _ false) _ _ _; refine Af ?_; intro O1) | (show AW _ _ (.cond _ _ _) _ _ _; first | refine As Y ?_ | refine Av Y ?_ | refine aw_if Y (fun h => ?_) (fun h => ?_)) | (show AW _ _ (.skip) _ _ _; refine Aq ?_; first | show AW _ _ _ _ _ _ | show ∃ x', _ < _ ∧ _) | (show AW _ _ (.block _ _) _ _ _; refine A4 ?_; intro Q1) | (show AW _ _ (.exit _) _ _ _; refine Bh ?_; first | show AW _ _ _ _ _ _ | show ∃ x', _ < _ ∧ _) | (show AW _ _ (.ret) _ _ _; refine Ar ?_; try dsimp only [Am, Aa, Ao, Ad]) | fail)
  refine aw_loop (X := BsX l c) (fun x => [(0, cT l), (1, hT c), (6, .int .i64 (l.length : Int)), (7, .int .i64 (x.i : Int)), (8, .int .i64 (x.j : Int))]) (fun x => ⟨[], [], off, none⟩) (fun x => x.j - x.i) ⟨0, l.length, by omega, by omega, fun k h => by omega, fun k h1 h2 => by omega⟩ (by repeat (first | exact .nil _ | refine .cons rfl ?_)) (.refl _) ?_
  rintro ⟨i, j, hij, hj, hl, hr⟩
  dsimp only
  by_cases h : i < j
  · obtain ⟨q, hq⟩ : ∃ q, q = (i + j) / 2 := ⟨_, rfl⟩
    have hq1 : (i + j) / 2 ^ Int.toNat 1 = q := hq.symm
    have hq2 : (i + j) / 2 ^ Int.toNat 1 ≤ 4294967296 := by omega
    repeat' (first
    | ((show AL _ _ _ _ _ _ _ _; refine Ah Y ?_); (first
      | (show AOp _ _ ⟨_, .move _, _, _, _, _⟩ _ _ _; refine Ap hG Y Y ?_)
      | (show AOp _ _ ⟨_, .assign _, _, _, _, _⟩ _ _ _; refine A6 hG Y Y ?_)
      | (show AOp _ _ ⟨_, .call ⟨.builtin .len, _, _⟩, _, _, _, _⟩ _ _ _; first | refine Ay hG Y Y Y Y ?_ | refine Bb hG Y Y Y Y Y ?_)
      | (show AOp _ _ ⟨_, .binOp .add _ _ _ _, _, _, _, _⟩ _ _ _; first | refine r_arN hG Y Y Y Y Y (by omega) ?_ | refine r_arN (m := 1) hG Y Y Y Y Y (by omega) ?_ | refine Al hG Y Y Y Y Y (by omega) ?_)
      | (show AOp _ _ ⟨_, .binOp .shr _ _ _ _, _, _, _, _⟩ _ _ _; refine r_shrU hG Y Y Y Y (by omega) ?_)
      | (show AOp _ _ ⟨_, .binOp .shr _ _ _ _, _, _, _, _⟩ _ _ _; refine r_shr hG Y Y Y Y (by omega) ?_)
      | (show AOp _ _ ⟨_, .binOp _ _ _ _ _, _, _, _, _⟩ _ _ _; first | refine Aw hG Y Y Y Y Y (by omega) ?_ | refine Ax hG Y Y Y Y Y (by omega) ?_ | (refine Ak hG Y Y Y Y Y (fun h => ?_) (fun h => ?_)))
      | (show AOp _ _ ⟨_, .load _ _, _, _, _, _⟩ _ _ _; first | refine r_ldL (α := UInt16) 0 hG Y Y Y Y (by omega) Y ?_ | refine r_ldL (α := UInt16) 1 hG Y Y Y Y (by omega) Y ?_ | refine A7 hG Y Y Y ?_ | refine r_ld 0 hG Y Y Y Y ?_)
      | (show AOp _ _ ⟨_, .indexAddr _ _ _, _, _, _, _⟩ _ _ _; first | refine r_idxL hG Y Y Y Y Y Y Y (by omega) ?_ | refine Az hG Y Y Y Y Y Y Y (by omega) ?_ | refine A0 hG Y Y Y Y Y Y Y (by omega) ?_ | refine Bd hG Y Y ?_)
      | (show AOp _ _ ⟨_, .convert _ _ _, _, _, _, _⟩ _ _ _; first | refine r_cv_i64 hG Y Y Y Y Y (by omega) ?_ | refine r_cv_u64 hG Y Y Y Y Y (by omega) ?_ | refine r_cvw hG Y Y Y Y Y ?_)
      | (show AOp _ _ ⟨_, .pick _ _ _, _, _, _, _⟩ _ _ _; refine Ba hG Y Y Y ?_)
      | refine r_q hG Y Y Y ?_))
    | (show AL _ _ _ _ _ _ _ _; first | refine al_s Y Y Y ?_ | (refine Au ?_; first | show AW _ _ _ _ _ _ | show ∃ x', _ < _ ∧ _)) | (show AW _ _ (.seq _ _) _ _ _; refine Ai ?_; intro Q1) | (show AW _ _ (.region _ _ false) _ _ _; (fail_if_success show AW _ _ (.region 5 _ _) _ _ _); refine Af ?_; intro O1) | (show AW _ _ (.cond _ _ _) _ _ _; first | refine As Y ?_ | refine Av Y ?_ | refine aw_if Y (fun h => ?_) (fun h => ?_)) | (show AW _ _ (.skip) _ _ _; refine Aq ?_; first | show AW _ _ _ _ _ _ | show ∃ x', _ < _ ∧ _) | (show AW _ _ (.block _ _) _ _ _; refine A4 ?_; intro Q1) | (show AW _ _ (.exit _) _ _ _; refine Bh ?_; first | show AW _ _ _ _ _ _ | show ∃ x', _ < _ ∧ _) | (show AW _ _ (.ret) _ _ _; refine Ar ?_; try dsimp only [Am, Aa, Ao, Ad]) | fail)
    rw [hq1]
    repeat' (first
    | ((show AL _ _ _ _ _ _ _ _; refine Ah Y ?_); (first
      | (show AOp _ _ ⟨_, .move _, _, _, _, _⟩ _ _ _; refine Ap hG Y Y ?_)
      | (show AOp _ _ ⟨_, .assign _, _, _, _, _⟩ _ _ _; refine A6 hG Y Y ?_)
      | (show AOp _ _ ⟨_, .call ⟨.builtin .len, _, _⟩, _, _, _, _⟩ _ _ _; first | refine Ay hG Y Y Y Y ?_ | refine Bb hG Y Y Y Y Y ?_)
      | (show AOp _ _ ⟨_, .binOp .add _ _ _ _, _, _, _, _⟩ _ _ _; first | refine r_arN hG Y Y Y Y Y (by omega) ?_ | refine r_arN (m := 1) hG Y Y Y Y Y (by omega) ?_ | refine Al hG Y Y Y Y Y (by omega) ?_)
      | (show AOp _ _ ⟨_, .binOp .shr _ _ _ _, _, _, _, _⟩ _ _ _; refine r_shrU hG Y Y Y Y (by omega) ?_)
      | (show AOp _ _ ⟨_, .binOp .shr _ _ _ _, _, _, _, _⟩ _ _ _; refine r_shr hG Y Y Y Y (by omega) ?_)
      | (show AOp _ _ ⟨_, .binOp _ _ _ _ _, _, _, _, _⟩ _ _ _; first | refine Aw hG Y Y Y Y Y (by omega) ?_ | refine Ax hG Y Y Y Y Y (by omega) ?_ | (refine Ak hG Y Y Y Y Y (fun h => ?_) (fun h => ?_)))
      | (show AOp _ _ ⟨_, .load _ _, _, _, _, _⟩ _ _ _; first | refine r_ldL (α := UInt16) 0 hG Y Y Y Y (by omega) Y ?_ | refine r_ldL (α := UInt16) 1 hG Y Y Y Y (by omega) Y ?_ | refine A7 hG Y Y Y ?_ | refine r_ld 0 hG Y Y Y Y ?_)
      | (show AOp _ _ ⟨_, .indexAddr _ _ _, _, _, _, _⟩ _ _ _; first | refine r_idxL hG Y Y Y Y Y Y Y (by omega) ?_ | refine Az hG Y Y Y Y Y Y Y (by omega) ?_ | refine A0 hG Y Y Y Y Y Y Y (by omega) ?_ | refine Bd hG Y Y ?_)
      | (show AOp _ _ ⟨_, .convert _ _ _, _, _, _, _⟩ _ _ _; first | refine r_cv_i64 hG Y Y Y Y Y (by omega) ?_ | refine r_cv_u64 hG Y Y Y Y Y (by omega) ?_ | refine r_cvw hG Y Y Y Y Y ?_)
      | (show AOp _ _ ⟨_, .pick _ _ _, _, _, _, _⟩ _ _ _; refine Ba hG Y Y Y ?_)
      | (show AOp _ _ ⟨_, .call ⟨.value _, _, _⟩, _, _, _, _⟩ _ _ _; first | refine A5 Y Y Y Y Y (by first | (apply cmp_Less <;> (first | assumption | omega | exact Ab _ _ | exact Ae _ | exact Ac _ _ | exact Ag _ | rfl | (simp; omega))) | fail) ?_ | fail)
      | refine r_q hG Y Y Y ?_))
    | (show AL _ _ _ _ _ _ _ _; first | refine al_s Y Y Y ?_ | (refine Au ?_; first | show AW _ _ _ _ _ _ | show ∃ x', _ < _ ∧ _)) | (show AW _ _ (.seq _ _) _ _ _; refine Ai ?_; intro Q1) | (show AW _ _ (.region _ _ false) _ _ _; refine Af ?_; intro O1) | (show AW _ _ (.cond _ _ _) _ _ _; first | refine As Y ?_ | refine Av Y ?_ | refine aw_if Y (fun h => ?_) (fun h => ?_)) | (show AW _ _ (.skip) _ _ _; refine Aq ?_; first | show AW _ _ _ _ _ _ | show ∃ x', _ < _ ∧ _) | (show AW _ _ (.block _ _) _ _ _; refine A4 ?_; intro Q1) | (show AW _ _ (.exit _) _ _ _; refine Bh ?_; first | show AW _ _ _ _ _ _ | show ∃ x', _ < _ ∧ _) | (show AW _ _ (.ret) _ _ _; refine Ar ?_; try dsimp only [Am, Aa, Ao, Ad]) | fail)
    · have hlt : l.getD q default < c := by rw [UInt16.lt_iff_toNat_lt]; simpa [ltH] using h
      exact ⟨⟨q + 1, j, by omega, hj, fun k hk => up_le2 hu (by omega) (by omega) hlt, hr⟩, by dsimp only; omega, (by repeat (first | exact .nil _ | refine .cons rfl ?_)), .refl _⟩
    · have hlt : ¬ l.getD q default < c := by rw [UInt16.lt_iff_toNat_lt]; simpa [ltH] using h
      exact ⟨⟨i, q, by omega, by omega, hl, fun k h1 h2 h3 => hlt (up_le2 hu h1 h2 h3)⟩, by dsimp only; omega, (by repeat (first | exact .nil _ | refine .cons rfl ?_)), .refl _⟩
  · obtain rfl : i = j := by omega
    obtain rfl : i = B := by rw [← hB, bsI_at (c := c) hj hl hr]
    by_cases hi : i < l.length
    · by_cases he : l.getD i default = c
      · have hd : decide (c ∈ l) = true := decide_eq_true ((bs_has hu hj hl hr).2 ⟨hi, he⟩)
        rw [hd] at hD; subst hD
        have he2 : ((l.getD i default).toNat : Int) = (c.toNat : Int) := by rw [he]
        repeat' (first
    | ((show AL _ _ _ _ _ _ _ _; refine Ah Y ?_); (first
      | (show AOp _ _ ⟨_, .move _, _, _, _, _⟩ _ _ _; refine Ap hG Y Y ?_)
      | (show AOp _ _ ⟨_, .assign _, _, _, _, _⟩ _ _ _; refine A6 hG Y Y ?_)
      | (show AOp _ _ ⟨_, .call ⟨.builtin .len, _, _⟩, _, _, _, _⟩ _ _ _; first | refine Ay hG Y Y Y Y ?_ | refine Bb hG Y Y Y Y Y ?_)
      | (show AOp _ _ ⟨_, .binOp .add _ _ _ _, _, _, _, _⟩ _ _ _; first | refine r_arN hG Y Y Y Y Y (by omega) ?_ | refine r_arN (m := 1) hG Y Y Y Y Y (by omega) ?_ | refine Al hG Y Y Y Y Y (by omega) ?_)
      | (show AOp _ _ ⟨_, .binOp .shr _ _ _ _, _, _, _, _⟩ _ _ _; refine r_shrU hG Y Y Y Y (by omega) ?_)
      | (show AOp _ _ ⟨_, .binOp .shr _ _ _ _, _, _, _, _⟩ _ _ _; refine r_shr hG Y Y Y Y (by omega) ?_)
      | (show AOp _ _ ⟨_, .binOp _ _ _ _ _, _, _, _, _⟩ _ _ _; first | refine Aw hG Y Y Y Y Y (by omega) ?_ | refine Ax hG Y Y Y Y Y (by omega) ?_ | (refine Ak hG Y Y Y Y Y (fun h => ?_) (fun h => ?_)))
      | (show AOp _ _ ⟨_, .load _ _, _, _, _, _⟩ _ _ _; first | refine r_ldL (α := UInt16) 0 hG Y Y Y Y (by omega) Y ?_ | refine r_ldL (α := UInt16) 1 hG Y Y Y Y (by omega) Y ?_ | refine A7 hG Y Y Y ?_ | refine r_ld 0 hG Y Y Y Y ?_)
      | (show AOp _ _ ⟨_, .indexAddr _ _ _, _, _, _, _⟩ _ _ _; first | refine r_idxL hG Y Y Y Y Y Y Y (by omega) ?_ | refine Az hG Y Y Y Y Y Y Y (by omega) ?_ | refine A0 hG Y Y Y Y Y Y Y (by omega) ?_ | refine Bd hG Y Y ?_)
      | (show AOp _ _ ⟨_, .convert _ _ _, _, _, _, _⟩ _ _ _; first | refine r_cv_i64 hG Y Y Y Y Y (by omega) ?_ | refine r_cv_u64 hG Y Y Y Y Y (by omega) ?_ | refine r_cvw hG Y Y Y Y Y ?_)
      | (show AOp _ _ ⟨_, .pick _ _ _, _, _, _, _⟩ _ _ _; refine Ba hG Y Y Y ?_)
      | (show AOp _ _ ⟨_, .call ⟨.value _, _, _⟩, _, _, _, _⟩ _ _ _; first | refine A5 Y Y Y Y Y (by first | (apply is_NaN <;> (first | assumption | omega | exact Ab _ _ | exact Ae _ | exact Ac _ _ | exact Ag _ | rfl | (simp; omega))) | fail) ?_ | fail)
      | refine r_q hG Y Y Y ?_))
    | (show AL _ _ _ _ _ _ _ _; first | refine al_s Y Y Y ?_ | (refine Au ?_; first | show AW _ _ _ _ _ _ | show ∃ x', _ < _ ∧ _)) | (show AW _ _ (.seq _ _) _ _ _; refine Ai ?_; intro Q1) | (show AW _ _ (.region _ _ false) _ _ _; refine Af ?_; intro O1) | (show AW _ _ (.cond _ _ _) _ _ _; first | refine As Y ?_ | refine Av Y ?_ | refine aw_if Y (fun h => ?_) (fun h => ?_)) | (show AW _ _ (.skip) _ _ _; refine Aq ?_; first | show AW _ _ _ _ _ _ | show ∃ x', _ < _ ∧ _) | (show AW _ _ (.block _ _) _ _ _; refine A4 ?_; intro Q1) | (show AW _ _ (.exit _) _ _ _; refine Bh ?_; first | show AW _ _ _ _ _ _ | show ∃ x', _ < _ ∧ _) | (show AW _ _ (.ret) _ _ _; refine Ar ?_; try dsimp only [Am, Aa, Ao, Ad]) | fail)
        exact Bv (Bm rfl (Bm rfl Bp)) (.refl _) rfl
      · have hd : decide (c ∈ l) = false := decide_eq_false (fun hm => he ((bs_has hu hj hl hr).1 hm).2)
        rw [hd] at hD; subst hD
        have he2 : ¬ ((l.getD i default).toNat : Int) = (c.toNat : Int) := fun h' => he (UInt16.toNat_inj.1 (by omega))
        repeat' (first
    | ((show AL _ _ _ _ _ _ _ _; refine Ah Y ?_); (first
      | (show AOp _ _ ⟨_, .move _, _, _, _, _⟩ _ _ _; refine Ap hG Y Y ?_)
      | (show AOp _ _ ⟨_, .assign _, _, _, _, _⟩ _ _ _; refine A6 hG Y Y ?_)
      | (show AOp _ _ ⟨_, .call ⟨.builtin .len, _, _⟩, _, _, _, _⟩ _ _ _; first | refine Ay hG Y Y Y Y ?_ | refine Bb hG Y Y Y Y Y ?_)
      | (show AOp _ _ ⟨_, .binOp .add _ _ _ _, _, _, _, _⟩ _ _ _; first | refine r_arN hG Y Y Y Y Y (by omega) ?_ | refine r_arN (m := 1) hG Y Y Y Y Y (by omega) ?_ | refine Al hG Y Y Y Y Y (by omega) ?_)
      | (show AOp _ _ ⟨_, .binOp .shr _ _ _ _, _, _, _, _⟩ _ _ _; refine r_shrU hG Y Y Y Y (by omega) ?_)
      | (show AOp _ _ ⟨_, .binOp .shr _ _ _ _, _, _, _, _⟩ _ _ _; refine r_shr hG Y Y Y Y (by omega) ?_)
      | (show AOp _ _ ⟨_, .binOp _ _ _ _ _, _, _, _, _⟩ _ _ _; first | refine Aw hG Y Y Y Y Y (by omega) ?_ | refine Ax hG Y Y Y Y Y (by omega) ?_ | (refine Ak hG Y Y Y Y Y (fun h => ?_) (fun h => ?_)))
      | (show AOp _ _ ⟨_, .load _ _, _, _, _, _⟩ _ _ _; first | refine r_ldL (α := UInt16) 0 hG Y Y Y Y (by omega) Y ?_ | refine r_ldL (α := UInt16) 1 hG Y Y Y Y (by omega) Y ?_ | refine A7 hG Y Y Y ?_ | refine r_ld 0 hG Y Y Y Y ?_)
      | (show AOp _ _ ⟨_, .indexAddr _ _ _, _, _, _, _⟩ _ _ _; first | refine r_idxL hG Y Y Y Y Y Y Y (by omega) ?_ | refine Az hG Y Y Y Y Y Y Y (by omega) ?_ | refine A0 hG Y Y Y Y Y Y Y (by omega) ?_ | refine Bd hG Y Y ?_)
      | (show AOp _ _ ⟨_, .convert _ _ _, _, _, _, _⟩ _ _ _; first | refine r_cv_i64 hG Y Y Y Y Y (by omega) ?_ | refine r_cv_u64 hG Y Y Y Y Y (by omega) ?_ | refine r_cvw hG Y Y Y Y Y ?_)
      | (show AOp _ _ ⟨_, .pick _ _ _, _, _, _, _⟩ _ _ _; refine Ba hG Y Y Y ?_)
      | (show AOp _ _ ⟨_, .call ⟨.value _, _, _⟩, _, _, _, _⟩ _ _ _; first | refine A5 Y Y Y Y Y (by first | (apply is_NaN <;> (first | assumption | omega | exact Ab _ _ | exact Ae _ | exact Ac _ _ | exact Ag _ | rfl | (simp; omega))) | fail) ?_ | fail)
      | refine r_q hG Y Y Y ?_))
    | (show AL _ _ _ _ _ _ _ _; first | refine al_s Y Y Y ?_ | (refine Au ?_; first | show AW _ _ _ _ _ _ | show ∃ x', _ < _ ∧ _)) | (show AW _ _ (.seq _ _) _ _ _; refine Ai ?_; intro Q1) | (show AW _ _ (.region _ _ false) _ _ _; refine Af ?_; intro O1) | (show AW _ _ (.cond _ _ _) _ _ _; first | refine As Y ?_ | refine Av Y ?_ | refine aw_if Y (fun h => ?_) (fun h => ?_)) | (show AW _ _ (.skip) _ _ _; refine Aq ?_; first | show AW _ _ _ _ _ _ | show ∃ x', _ < _ ∧ _) | (show AW _ _ (.block _ _) _ _ _; refine A4 ?_; intro Q1) | (show AW _ _ (.exit _) _ _ _; refine Bh ?_; first | show AW _ _ _ _ _ _ | show ∃ x', _ < _ ∧ _) | (show AW _ _ (.ret) _ _ _; refine Ar ?_; try dsimp only [Am, Aa, Ao, Ad]) | fail)
        exact Bv (Bm rfl (Bm rfl Bp)) (.refl _) rfl
    · have hd : decide (c ∈ l) = false := decide_eq_false (fun hm => hi ((bs_has hu hj hl hr).1 hm).1)
      rw [hd] at hD; subst hD
      repeat' (first
    | ((show AL _ _ _ _ _ _ _ _; refine Ah Y ?_); (first
      | (show AOp _ _ ⟨_, .move _, _, _, _, _⟩ _ _ _; refine Ap hG Y Y ?_)
      | (show AOp _ _ ⟨_, .assign _, _, _, _, _⟩ _ _ _; refine A6 hG Y Y ?_)
      | (show AOp _ _ ⟨_, .call ⟨.builtin .len, _, _⟩, _, _, _, _⟩ _ _ _; first | refine Ay hG Y Y Y Y ?_ | refine Bb hG Y Y Y Y Y ?_)
      | (show AOp _ _ ⟨_, .binOp .add _ _ _ _, _, _, _, _⟩ _ _ _; first | refine r_arN hG Y Y Y Y Y (by omega) ?_ | refine r_arN (m := 1) hG Y Y Y Y Y (by omega) ?_ | refine Al hG Y Y Y Y Y (by omega) ?_)
      | (show AOp _ _ ⟨_, .binOp .shr _ _ _ _, _, _, _, _⟩ _ _ _; refine r_shrU hG Y Y Y Y (by omega) ?_)
      | (show AOp _ _ ⟨_, .binOp .shr _ _ _ _, _, _, _, _⟩ _ _ _; refine r_shr hG Y Y Y Y (by omega) ?_)
      | (show AOp _ _ ⟨_, .binOp _ _ _ _ _, _, _, _, _⟩ _ _ _; first | refine Aw hG Y Y Y Y Y (by omega) ?_ | refine Ax hG Y Y Y Y Y (by omega) ?_ | (refine Ak hG Y Y Y Y Y (fun h => ?_) (fun h => ?_)))
      | (show AOp _ _ ⟨_, .load _ _, _, _, _, _⟩ _ _ _; first | refine r_ldL (α := UInt16) 0 hG Y Y Y Y (by omega) Y ?_ | refine r_ldL (α := UInt16) 1 hG Y Y Y Y (by omega) Y ?_ | refine A7 hG Y Y Y ?_ | refine r_ld 0 hG Y Y Y Y ?_)
      | (show AOp _ _ ⟨_, .indexAddr _ _ _, _, _, _, _⟩ _ _ _; first | refine r_idxL hG Y Y Y Y Y Y Y (by omega) ?_ | refine Az hG Y Y Y Y Y Y Y (by omega) ?_ | refine A0 hG Y Y Y Y Y Y Y (by omega) ?_ | refine Bd hG Y Y ?_)
      | (show AOp _ _ ⟨_, .convert _ _ _, _, _, _, _⟩ _ _ _; first | refine r_cv_i64 hG Y Y Y Y Y (by omega) ?_ | refine r_cv_u64 hG Y Y Y Y Y (by omega) ?_ | refine r_cvw hG Y Y Y Y Y ?_)
      | (show AOp _ _ ⟨_, .pick _ _ _, _, _, _, _⟩ _ _ _; refine Ba hG Y Y Y ?_)
      | (show AOp _ _ ⟨_, .call ⟨.value _, _, _⟩, _, _, _, _⟩ _ _ _; first | refine A5 Y Y Y Y Y (by first | (apply is_NaN <;> (first | assumption | omega | exact Ab _ _ | exact Ae _ | exact Ac _ _ | exact Ag _ | rfl | (simp; omega))) | fail) ?_ | fail)
      | refine r_q hG Y Y Y ?_))
    | (show AL _ _ _ _ _ _ _ _; first | refine al_s Y Y Y ?_ | (refine Au ?_; first | show AW _ _ _ _ _ _ | show ∃ x', _ < _ ∧ _)) | (show AW _ _ (.seq _ _) _ _ _; refine Ai ?_; intro Q1) | (show AW _ _ (.region _ _ false) _ _ _; refine Af ?_; intro O1) | (show AW _ _ (.cond _ _ _) _ _ _; first | refine As Y ?_ | refine Av Y ?_ | refine aw_if Y (fun h => ?_) (fun h => ?_)) | (show AW _ _ (.skip) _ _ _; refine Aq ?_; first | show AW _ _ _ _ _ _ | show ∃ x', _ < _ ∧ _) | (show AW _ _ (.block _ _) _ _ _; refine A4 ?_; intro Q1) | (show AW _ _ (.exit _) _ _ _; refine Bh ?_; first | show AW _ _ _ _ _ _ | show ∃ x', _ < _ ∧ _) | (show AW _ _ (.ret) _ _ _; refine Ar ?_; try dsimp only [Am, Aa, Ao, Ad]) | fail)
      exact Bv (Bm rfl (Bm rfl Bp)) (.refl _) rfl
theorem cats_Has {x : T} {l : List UInt16} {c : UInt16} (hx : catsT x = some l) (hu : Up l) (hn : l.length ≤ 4294967296) : Ts.Pure Try.prog 18 [x, hT c] (.bool (decide (c ∈ l))) := by
  refine Pure.weak (us := [cT l, hT c]) ?_ (wk2 (Bw hx) (.refl _))
  have h := bin_search (c := c) hu hn
  intro off
  refine Bn (N := 14) (rs := [.tmp 4]) hG Try.func18 rfl rfl rfl rfl rfl ?_
  repeat' (first
    | ((show AL _ _ _ _ _ _ _ _; refine Ah Y ?_); (first
      | (show AOp _ _ ⟨_, .move _, _, _, _, _⟩ _ _ _; refine Ap hG Y Y ?_)
      | (show AOp _ _ ⟨_, .assign _, _, _, _, _⟩ _ _ _; refine A6 hG Y Y ?_)
      | (show AOp _ _ ⟨_, .call ⟨.value _, _, _⟩, _, _, _, _⟩ _ _ _; first | refine A5 Y Y Y Y Y (by first | (apply h <;> (first | assumption | omega | exact Ab _ _ | exact Ae _ | exact Ac _ _ | exact Ag _ | rfl | (simp; omega))) | fail) ?_ | fail)
      | refine r_q hG Y Y Y ?_))
    | (show AL _ _ _ _ _ _ _ _; first | refine al_s Y Y Y ?_ | (refine Au ?_; first | show AW _ _ _ _ _ _ | show ∃ x', _ < _ ∧ _)) | (show AW _ _ (.seq _ _) _ _ _; refine Ai ?_; intro Q1) | (show AW _ _ (.region _ _ false) _ _ _; refine Af ?_; intro O1) | (show AW _ _ (.ret) _ _ _; refine Ar ?_; try dsimp only [Am, Aa, Ao, Ad]) | fail)
  exact Bv (Bm rfl Bp) (.refl _) rfl
end Go.Proofs.Ytnmpgipfbbilbaa
set_option linter.unusedVariables false
set_option linter.unusedSimpArgs false
namespace Go.Ts
section
variable {P : Program} {G : Nat → Option TI} {w : World} {μ : Gh} {σ : St} {N : Nat} {a : Env} {h : HS}
theorem frz_at {b k : Nat} {c : Array Value} {e : TypeId} (hb : w.heap[b]? = some (.cells c e (0, 0))) : (w.freeze ⟨b, k, none⟩ 1).heap[b]? = some (.cells c e (k, k + 1)) := by
  unfold World.freeze
  rw [if_neg (by decide)]
  simp [Array.getElem?_modify, hb]
theorem frz_ne {b b' k : Nat} (hne : b' ≠ b) : (w.freeze ⟨b, k, none⟩ 1).heap[b']? = w.heap[b']? := by
  unfold World.freeze
  rw [if_neg (by decide)]
  simp only [Array.getElem?_modify]
  rw [if_neg (fun h => hne h.symm)]
theorem frz_size {b k : Nat} : (w.freeze ⟨b, k, none⟩ 1).heap.size = w.heap.size := by
  unfold World.freeze
  rw [if_neg (by decide)]
  simp
theorem frz_cell {b k : Nat} {c : Array Value} {e : TypeId} (hb : w.heap[b]? = some (.cells c e (0, 0))) (x : Addr) : (w.freeze ⟨b, k, none⟩ 1).cell? x = w.cell? x := by
  unfold World.cell?
  by_cases hx : x.block = b
  · rw [hx, frz_at hb, hb]
  · rw [frz_ne hx]
theorem frz_bound {b k : Nat} {c : Array Value} {e : TypeId} (hb : w.heap[b]? = some (.cells c e (0, 0))) (x n : Nat) (h : Bound w x n) : Bound (w.freeze ⟨b, k, none⟩ 1) x n := by
  obtain ⟨c2, e2, f2, h1, h2⟩ := h
  by_cases hx : x = b
  · subst hx
    rw [hb] at h1; injection h1 with h1; injection h1 with q1 q2 q3; subst q1
    exact ⟨c, e, _, frz_at hb, h2⟩
  · exact ⟨c2, e2, f2, by rw [frz_ne hx]; exact h1, h2⟩
theorem frz_ev0 {b k : Nat} {c : Array Value} {e : TypeId} (hb : w.heap[b]? = some (.cells c e (0, 0))) : Ev0 w μ σ (w.freeze ⟨b, k, none⟩ 1) μ σ :=
  ⟨fun _ _ h => h, fun _ _ h => h, fun x n h => frz_bound hb x n h, fun x o hx => ⟨⟨by rw [frz_size]; exact hx.lt, hx.off, hx.obj, hx.room⟩, frz_cell hb _⟩⟩
theorem frz_inv (hi : Inv w μ σ) {b k : Nat} {c : Array Value} {e : TypeId} (hb : w.heap[b]? = some (.cells c e (0, 0))) (hno : ∀ i ob p, (i, ob) ∈ σ.L → μ.loc i ≠ some (b, p)) (hnr : ∀ l f t, l ∈ σ.R → μ.tok l = some (b, f, t) → ¬ f < t) :
    Inv (w.freeze ⟨b, k, none⟩ 1) μ σ := by
  refine ⟨fun i ts hx => ?_, fun i es hx => ?_, hi.inj, fun l hl => ?_, hi.rinj, hi.fin, fun x o h => by rw [frz_size]; exact hi.offlt x o h, hi.offobj⟩
  · obtain ⟨x, p, c2, e2, h1, h2, h3, h4⟩ := hi.obj i ts hx
    have hne : x ≠ b := fun h => hno i _ p hx (by rw [h1, h])
    exact ⟨x, p, c2, e2, h1, by rw [frz_ne hne]; exact h2, h3, fun j t v q1 q2 => (h4 j t v q1 q2).ev' (frz_ev0 hb)⟩
  · obtain ⟨x, c2, e2, h1, h2, h3, h4⟩ := hi.map i es hx
    have hne : x ≠ b := fun h => hno i _ 0 hx (by rw [h1, h])
    exact ⟨x, c2, e2, h1, by rw [frz_ne hne]; exact h2, h3, fun j k u e' q1 q2 => ⟨(h4 j k u e' q1 q2).1.ev' (frz_ev0 hb), (h4 j k u e' q1 q2).2.ev' (frz_ev0 hb)⟩⟩
  · obtain ⟨x, f, t, h1, h2, h3⟩ := hi.room l hl
    refine ⟨x, f, t, h1, h2, fun hlt => ?_⟩
    obtain ⟨⟨c2, e2, h4, h5⟩, h6⟩ := h3 hlt
    have hne : x ≠ b := fun h => hnr l f t hl (by rw [h1, h]) hlt
    exact ⟨⟨c2, e2, by rw [frz_ne hne]; exact h4, h5⟩, h6⟩
theorem aop_convI (hG : Fits P G) {o : Oper} {t el : TypeId} {x : Operand} {ti te : TI} {n i p m : Nat} {cap : Option Nat} {ts : List T} {K : Env → St → Prop} (ho : o.op = .convert t t x) (hx : Aj a x = some (.aref 1 i p m cap))
    (ht : G t = some ti) (htd : ti.d = .slice el) (he : G el = some te) (hed : te.d = .int .u8) (hob : σ.L[n]? = some (i, .cells ts)) (hle : p + m * 1 ≤ ts.length) (hsc : ((ts.drop p).take (m * 1)).all T.scalar = true) (hd : A3 N o.dst = true)
    (k : K (put a o.dst (.sl 1 .no (chunks 1 m ((ts.drop p).take (m * 1))))) (σ.era n)) : AOp P N o a σ K := by
  intro av w μ hi hr next Qc hn
  have rx := A2 hr hx
  have rf := freeze_value hi hob rx hle hsc
  obtain ⟨d1, e1, f1⟩ := Bc (w := w) hG ht
  obtain ⟨d2, e2, f2⟩ := Bc (w := w) hG he
  rw [htd] at f1; rw [hed] at f2
  obtain rfl := Bq f1
  obtain rfl := td_int f2
  obtain ⟨b, q, c, e, hl, hc, hlen, hrel⟩ := hi.obj i ts (List.mem_of_getElem? hob)
  have hshape : w.shape? b = some (e, c.size) := by unfold World.shape?; rw [hc]
  generalize hv : av.eval x = vx at rx rf
  have hrun : (execOp av.eval o).run P w = .ok (.value vx) (w.freeze ⟨b, c.size, none⟩ 1) := by
    cases rx with
    | aref i b' q' p n' c' sz cap hl' hc' hcap hb =>
    rw [hl] at hl'; injection hl' with hl'; injection hl' with q1 q2; subst q1; subst q2
    simp [execOp, ho, hv, convert, e1, e2, markStringish, hshape]
  obtain ⟨i1, ev1⟩ := erase_step n w μ hi
  have hno : ∀ j ob p', (j, ob) ∈ (σ.era n).L → μ.loc j ≠ some (b, p') := (erase_imm hi hob hl 0).obj
  have hnr : ∀ l f t, l ∈ (σ.era n).R → μ.tok l = some (b, f, t) → ¬ f < t := fun l f t h1 h2 h3 => by
    have := (erase_imm hi hob hl f).room l f t h1 h2; omega
  have inv : Inv (w.freeze ⟨b, c.size, none⟩ 1) μ (σ.era n) := frz_inv i1 hc hno hnr
  have ev : Ev w μ σ (w.freeze ⟨b, c.size, none⟩ 1) μ (σ.era n) := by
    refine ⟨?_, ev1.loc, ev1.tok, rfl, fun x m h => frz_bound hc x m h, fun x hx hlv => ⟨(ev1.live x hx hlv).1, ?_⟩, fun x q' hx => ⟨?_, frz_cell hc _⟩⟩
    · exact ⟨by unfold World.freeze; rw [if_neg (by decide)], by unfold World.freeze; rw [if_neg (by decide)], by unfold World.freeze; rw [if_neg (by decide)], by rw [frz_size]; exact Nat.le_refl _, fun k hk => by omega⟩
    · refine frz_ne (fun hxb => hlv (.inl ⟨i, _, q, List.mem_of_getElem? hob, by rw [hl, hxb]⟩))
    · have := (ev1.imm x q' hx).1
      exact ⟨by rw [frz_size]; exact this.lt, this.off, this.obj, this.room⟩
  unfold Oper.wp
  rw [hrun]
  exact hn _ _ _ _ _ ev inv ((hr.ev ev).put hd (rf.ev' (frz_ev0 hc))) k
theorem HCov.era (c : HCov σ h) {q i : Nat} {o : Ob} (hq : σ.L[q]? = some (i, o)) : HCov (σ.era q) { h with L := h.L.del i } := by
  refine ⟨fun j n zn z ov hj => ?_, fun j es hj => ?_, fun k u hk => c.room k u hk, c.nx⟩
  · obtain ⟨h1, h2⟩ := Tr.get_del hj
    obtain ⟨ts, h3, h4⟩ := c.th j n zn z ov h2
    exact ⟨ts, mem_era_ne hq h3 h1, h4⟩
  · obtain ⟨h1, h2⟩ := Tr.get_del hj
    exact mem_era_ne hq (c.mp j es h2) h1
end
end Go.Ts
