/- Trees, continued: the steps that change the state: new variables, stores, appends, calls. -/
import Derived.Test.YtjcfhhepnjmchaaTrB
set_option linter.unusedVariables false
set_option linter.unusedSimpArgs false
namespace Go.Tr

def St.setO (σ : St) (b : Nat) (o : Option Ob) : St := { σ with objs := fun x => cond (Nat.beq x b) o (σ.objs x) }
def St.setR (σ : St) (b : Nat) (r : Option (Nat × Nat)) : St := { σ with spare := fun x => cond (Nat.beq x b) r (σ.spare x) }

section
variable {P : Program} {G : Nat → Option TI} {w w1 : World} {σ σ1 : St} {N : Nat} {a : Env} {Q : Exit → Env → St → Prop}

theorem beqT (b : Nat) : Nat.beq b b = true := Nat.beq_refl b
theorem objs_setO_same (b : Nat) (o : Option Ob) : (σ.setO b o).objs b = o := by simp [St.setO, beqT]
theorem objs_setO_ne {b x : Nat} (o : Option Ob) (h : x ≠ b) : (σ.setO b o).objs x = σ.objs x := by simp [St.setO, beqF h]
theorem spare_setR_same (b : Nat) (r : Option (Nat × Nat)) : (σ.setR b r).spare b = r := by simp [St.setR, beqT]
theorem spare_setR_ne {b x : Nat} (r : Option (Nat × Nat)) (h : x ≠ b) : (σ.setR b r).spare x = σ.spare x := by simp [St.setR, beqF h]

theorem cell_of_heap {w w1 : World} {b : Nat} (h : w1.heap[b]? = w.heap[b]?) (o : Nat) : w1.cell? ⟨b, o, none⟩ = w.cell? ⟨b, o, none⟩ := by
  simp only [World.cell?, h]

theorem ev_at {b : Nat} {c' : Array Value} {e : TypeId} (hb : σ.base ≤ b) (hos : w1.os = w.os) (htape : w1.tape = w.tape) (hout : w1.output = w.output)
    (hsz : w.heap.size ≤ w1.heap.size) (hother : ∀ k, k ≠ b → k < w.heap.size → w1.heap[k]? = w.heap[k]?) (hb1 : w1.heap[b]? = some (.cells c' e (0, 0)))
    (hbase : σ1.base = σ.base) (hO : ∀ k, k ≠ b → σ1.objs k = σ.objs k) (hR : ∀ k, k ≠ b → σ1.spare k = σ.spare k) (hi : σ.base ≤ w.heap.size)
    (hImm : ∀ o, Imm w σ b o → σ1.objs b = none ∧ (∀ f t, σ1.spare b = some (f, t) → ¬ (f ≤ o ∧ o < t)) ∧ w.cell? ⟨b, o, none⟩ = c'[o]?) : Ev w σ w1 σ1 := by
  refine ⟨hbase, ⟨hos, htape, hout, hsz, fun k hk => hother k (by omega) (by omega)⟩, fun x o hx => ?_⟩
  by_cases e : x = b
  · subst e
    obtain ⟨h1, h2, h3⟩ := hImm o hx
    exact ⟨⟨by have := hx.1; omega, h1, h2⟩, by rw [h3]; simp [World.cell?, hb1]⟩
  · exact ⟨⟨by have := hx.1; omega, by rw [hO x e]; exact hx.2.1, by rw [hR x e]; exact hx.2.2⟩, cell_of_heap (hother x e hx.1) o⟩

theorem inv_at {b : Nat} {c' : Array Value} {e : TypeId} (hi : Inv w σ) (ev : Ev w σ w1 σ1) (hb : σ.base ≤ b)
    (hother : ∀ k, k ≠ b → k < w.heap.size → w1.heap[k]? = w.heap[k]?) (hb1 : w1.heap[b]? = some (.cells c' e (0, 0)))
    (hO : ∀ k, k ≠ b → σ1.objs k = σ.objs k) (hR : ∀ k, k ≠ b → σ1.spare k = σ.spare k)
    (hobj : ∀ o, σ1.objs b = some o → ∃ ts, o = .cells ts ∧ ts.length ≤ c'.size ∧ ∀ (j : Nat) (t : T) (v : Value), ts[j]? = some t → c'[j]? = some v → Rel w1 σ1 v t)
    (hroom : ∀ f t, σ1.spare b = some (f, t) → f ≤ t ∧ t ≤ c'.size ∧ ∀ ts, σ1.objs b = some (.cells ts) → ts.length ≤ f) : Inv w1 σ1 := by
  refine ⟨by rw [ev.base]; exact Nat.le_trans hi.base ev.below.size, fun x ts hx => ?_, fun x f t hx => ?_, fun x es hx => ?_⟩
  · by_cases h : x = b
    · subst h
      obtain ⟨ts', h1, h2, h3⟩ := hobj _ hx
      injection h1 with h1; subst h1
      exact ⟨by rw [ev.base]; exact hb, c', e, hb1, h2, h3⟩
    · rw [hO x h] at hx
      obtain ⟨h1, c, e', h2, h3, h4⟩ := hi.obj x ts hx
      exact ⟨by rw [ev.base]; exact h1, c, e', by rw [hother x h (Array.getElem?_eq_some_iff.1 h2).1]; exact h2, h3, fun j t v h5 h6 => (h4 j t v h5 h6).ev ev⟩
  · by_cases h : x = b
    · subst h
      obtain ⟨h1, h2, h3⟩ := hroom f t hx
      exact ⟨by rw [ev.base]; exact hb, h1, c', e, hb1, h2, h3⟩
    · rw [hR x h] at hx
      obtain ⟨h1, h2, c, e', h3, h4, h5⟩ := hi.room x f t hx
      exact ⟨by rw [ev.base]; exact h1, h2, c, e', by rw [hother x h (Array.getElem?_eq_some_iff.1 h3).1]; exact h3, h4, fun ts hts => h5 ts (by rw [hO x h] at hts; exact hts)⟩
  · by_cases h : x = b
    · subst h
      obtain ⟨ts, h1, _⟩ := hobj _ hx
      cases h1
    · rw [hO x h] at hx
      obtain ⟨h1, en, clock, h2, h3, h4⟩ := hi.map x es hx
      exact ⟨by rw [ev.base]; exact h1, en, clock, by rw [hother x h (Array.getElem?_eq_some_iff.1 h2).1]; exact h2, h3, fun j k u e h5 h6 => let ⟨h7, h8⟩ := h4 j k u e h5 h6; ⟨h7.ev ev, h8.ev ev⟩⟩

/-- The same heap. -/
theorem ev_same (hh : w1.heap = w.heap) (hos : w1.os = w.os) (htape : w1.tape = w.tape) (hout : w1.output = w.output) : Ev w σ w1 σ :=
  ⟨rfl, ⟨hos, htape, hout, by rw [hh]; exact Nat.le_refl _, fun k _ => by rw [hh]⟩, fun b o h => ⟨⟨by rw [hh]; exact h.1, h.2⟩, cell_of_heap (by rw [hh]) o⟩⟩
theorem Inv.ev_heap (hi : Inv w σ) (hh : w1.heap = w.heap) (ev : Ev w σ w1 σ) : Inv w1 σ := by
  refine ⟨by rw [hh]; exact hi.base, fun x ts hx => ?_, fun x f t hx => ?_, fun x es hx => ?_⟩
  · obtain ⟨h1, c, e, h2, h3, h4⟩ := hi.obj x ts hx
    exact ⟨h1, c, e, by rw [hh]; exact h2, h3, fun j t v h5 h6 => (h4 j t v h5 h6).ev ev⟩
  · rw [hh]; exact hi.room x f t hx
  · obtain ⟨h1, en, clock, h2, h3, h4⟩ := hi.map x es hx
    exact ⟨h1, en, clock, by rw [hh]; exact h2, h3, fun j k u e h5 h6 => let ⟨h7, h8⟩ := h4 j k u e h5 h6; ⟨h7.ev ev, h8.ev ev⟩⟩

theorem heap_alloc_at (w : World) (o : Obj) : (w.alloc o).heap[w.heap.size]? = some o := by show (w.heap.push o)[w.heap.size]? = some o; simp
theorem heap_alloc_ne (w : World) (o : Obj) {k : Nat} (h : k < w.heap.size) : (w.alloc o).heap[k]? = w.heap[k]? := by
  show (w.heap.push o)[k]? = _
  rw [Array.getElem?_push, if_neg (by omega)]

/-- A new block. -/
theorem alloc_step (hi : Inv w σ) (c : Array Value) (e : TypeId) (hbase : σ1.base = σ.base) (hO : ∀ k, k ≠ w.heap.size → σ1.objs k = σ.objs k) (hR : ∀ k, k ≠ w.heap.size → σ1.spare k = σ.spare k)
    (hobj : Ev w σ (w.alloc (.cells c e)) σ1 → ∀ o, σ1.objs w.heap.size = some o → ∃ ts, o = .cells ts ∧ ts.length ≤ c.size ∧ ∀ (j : Nat) (t : T) (v : Value), ts[j]? = some t → c[j]? = some v → Rel (w.alloc (.cells c e)) σ1 v t)
    (hroom : ∀ f t, σ1.spare w.heap.size = some (f, t) → f ≤ t ∧ t ≤ c.size ∧ ∀ ts, σ1.objs w.heap.size = some (.cells ts) → ts.length ≤ f) :
    Ev w σ (w.alloc (.cells c e)) σ1 ∧ Inv (w.alloc (.cells c e)) σ1 := by
  have ev : Ev w σ (w.alloc (.cells c e)) σ1 := ev_at (c' := c) (e := e) hi.base rfl rfl rfl (by show w.heap.size ≤ (w.heap.push _).size; simp) (fun k _ hk => heap_alloc_ne w _ hk) (heap_alloc_at w _) hbase hO hR hi.base
    (fun o h => absurd h.1 (Nat.lt_irrefl _))
  exact ⟨ev, inv_at hi ev hi.base (fun k _ hk => heap_alloc_ne w _ hk) (heap_alloc_at w _) hO hR (hobj ev) hroom⟩

theorem Inv.fresh_obj (hi : Inv w σ) : σ.objs w.heap.size = none := by
  cases h : σ.objs w.heap.size with
  | none => rfl
  | some o => have := (hi.lt h).2; omega
theorem Inv.fresh_room (hi : Inv w σ) : σ.spare w.heap.size = none := by
  cases h : σ.spare w.heap.size with
  | none => rfl
  | some o => obtain ⟨f, t⟩ := o; have := (hi.lt_room h).2; omega

/-- An operation that leaves the state as it is. -/
theorem aop_quiet (hG : Fits P G) {o : Oper} {t : T} {K : Env → St → Prop} (h : evalOp G σ.objs (evalO a) o.op = some t) (hd : fitsD N o.dst = true) (k : K (put a o.dst t) σ) : AOp P N o a σ K := by
  intro av w hi hr next Qc hn
  obtain ⟨v, h1, h2⟩ := evalOp_run (P := P) hG hi (ρ := evalO a) (ρv := av.eval) (fun x t hx => evalO_rel hr hx) h
  unfold Oper.wp
  rw [h1]
  exact hn _ _ _ _ (.refl _ _) hi (hr.put hd h2) k

/-- The cells of a value, as its tree has them. -/
theorem Rel.cells {v : Value} {t : T} (h : Rel w σ v t) (hr : ∀ u, t ≠ .raw u) : v.cells.size = t.cells.length ∧ ∀ (j : Nat) (c : T) (u : Value), t.cells[j]? = some c → v.cells[j]? = some u → Rel w σ u c := by
  have one : ∀ {v : Value} {t : T}, v.cells = #[v] → t.cells = [t] → Rel w σ v t → v.cells.size = t.cells.length ∧ ∀ (j : Nat) (c : T) (u : Value), t.cells[j]? = some c → v.cells[j]? = some u → Rel w σ u c := by
    intro v t h1 h2 h3
    refine ⟨by rw [h1, h2]; rfl, fun j c u hc hu => ?_⟩
    rw [h2] at hc; rw [h1] at hu
    cases j with
    | zero => simp at hc hu; subst hc; subst hu; exact h3
    | succ j => simp at hc
  cases h with
  | agg cs vs hn r => exact ⟨hn, r⟩
  | raw v => exact absurd rfl (hr v)
  | bool b => exact one rfl rfl (.bool b)
  | int k n => exact one rfl rfl (.int k n)
  | flt k n => exact one rfl rfl (.flt k n)
  | cplx k m n => exact one rfl rfl (.cplx k m n)
  | str s => exact one rfl rfl (.str s)
  | nilp => exact one rfl rfl .nilp
  | ptr b o => exact one rfl rfl (.ptr b o)
  | ro b p o x h r => exact one rfl rfl (.ro b p o x h r)
  | nilsl => exact one rfl rfl .nilsl
  | slnil sz own h => exact one rfl rfl (.slnil sz own h)
  | slz ad sz own h => exact one rfl rfl (.slz ad sz own h)
  | sl b p cap sz own xs n hn hc ho hs h r => exact one rfl rfl (.sl b p cap sz own xs n hn hc ho hs h r)
  | aref b o n cap sz own hc ho => exact one rfl rfl (.aref b o n cap sz own hc ho)
  | map r => exact one rfl rfl (.map r)
  | fn f caps vs hn r => exact one rfl rfl (.fn f caps vs hn r)
  | nilfn => exact one rfl rfl .nilfn
  | tup cs vs hn r => exact one rfl rfl (.tup cs vs hn r)

def T.scalar : T → Bool
  | .agg _ | .tup _ | .raw _ => false
  | _ => true
theorem Rel.scalar {v : Value} {t : T} (h : Rel w σ v t) (ht : t.scalar = true) : v.oneCell' = true := by
  cases h <;> first | rfl | cases ht
def notRaw : T → Bool
  | .raw _ => false
  | _ => true
theorem notRaw_ne {t : T} (h : notRaw t = true) : ∀ u, t ≠ .raw u := by rintro u rfl; cases h

theorem aop_box (hG : Fits P G) {o : Oper} {e : TypeId} {x : Operand} {t : T} {K : Env → St → Prop} (ho : o.op = .box e x) (hx : evalO a x = some t) (hraw : notRaw t = true) (hd : fitsD N o.dst = true)
    (k : ∀ b, σ.objs b = none → σ.spare b = none → K (put a o.dst (.ptr b 0)) (σ.setO b (some (.cells t.cells)))) : AOp P N o a σ K := by
  intro av w hi hr next Qc hn
  have rx := evalO_rel hr hx
  obtain ⟨hc1, hc2⟩ := rx.cells (notRaw_ne hraw)
  obtain ⟨ev, hi'⟩ := alloc_step (σ1 := σ.setO w.heap.size (some (.cells t.cells))) hi (av.eval x).cells e rfl (fun k hk => objs_setO_ne _ hk) (fun k hk => rfl)
    (fun ev o ho => by
      rw [objs_setO_same] at ho; injection ho with ho; subst ho
      exact ⟨t.cells, rfl, by omega, fun j c u hc hu => (hc2 j c u hc hu).ev ev⟩)
    (fun f t hf => by
      have : σ.spare w.heap.size = some (f, t) := hf
      rw [hi.fresh_room] at this; cases this)
  have hrun : (execOp av.eval o).run P w = .ok (.value (.pointer (some ⟨w.heap.size, 0, none⟩))) (w.alloc (.cells (av.eval x).cells e)) := by
    simp [execOp, ho, Instr.box, newVar, newRow]
  unfold Oper.wp
  rw [hrun]
  exact hn _ _ _ _ ev hi' ((hr.ev ev).put hd (.ptr _ _)) (k w.heap.size hi.fresh_obj hi.fresh_room)

theorem aop_alloc (hG : Fits P G) {o : Oper} {e : TypeId} {i : TI} {K : Env → St → Prop} (ho : o.op = .alloc e) (he : G e = some i) (hd : fitsD N o.dst = true)
    (k : ∀ b, σ.objs b = none → σ.spare b = none → K (put a o.dst (.ptr b 0)) (σ.setO b (some (.cells i.tree.cells)))) : AOp P N o a σ K := by
  intro av w hi hr next Qc hn
  obtain ⟨v, hv, rv, hs1, hs2⟩ := g_zero (w := w) (σ := σ) hG he
  have hraw : notRaw i.tree = true := by
    unfold TI.tree; split
    · rfl
    · cases i.zero.headD .b <;> rfl
  obtain ⟨hc1, hc2⟩ := rv.cells (notRaw_ne hraw)
  obtain ⟨ev, hi'⟩ := alloc_step (σ1 := σ.setO w.heap.size (some (.cells i.tree.cells))) hi v.cells e rfl (fun k hk => objs_setO_ne _ hk) (fun k hk => rfl)
    (fun ev o ho => by
      rw [objs_setO_same] at ho; injection ho with ho; subst ho
      exact ⟨i.tree.cells, rfl, by omega, fun j c u hc hu => (hc2 j c u hc hu).ev ev⟩)
    (fun f t hf => by
      have : σ.spare w.heap.size = some (f, t) := hf
      rw [hi.fresh_room] at this; cases this)
  have hrun : (execOp av.eval o).run P w = .ok (.value (.pointer (some ⟨w.heap.size, 0, none⟩))) (w.alloc (.cells v.cells e)) := by
    simp [execOp, ho, Instr.alloc, hv, newVar, newRow]
  unfold Oper.wp
  rw [hrun]
  exact hn _ _ _ _ ev hi' ((hr.ev ev).put hd (.ptr _ _)) (k w.heap.size hi.fresh_obj hi.fresh_room)

/-- What a store of cells leaves. -/
def stored (ts cs : List T) (o : Nat) : List T := ts.take o ++ cs ++ ts.drop (o + cs.length)

theorem setRow_ev (hi : Inv w σ) {b : Nat} {c c' : Array Value} {e : TypeId} {ts : List T} (hob : σ.objs b = some (.cells ts)) (hc : w.heap[b]? = some (.cells c e (0, 0))) (ts' : List T) :
    Ev w σ (w.setRow b c') (σ.setO b (some (.cells ts'))) :=
  ev_at (c' := c') (e := e) (hi.lt hob).1 rfl rfl rfl (by simp) (fun k hk _ => setRow_other w b k c' hk) (setRow_heap w b c c' e (0, 0) hc) rfl (fun k hk => objs_setO_ne _ hk) (fun k hk => rfl) hi.base
    (fun o h => by have := h.2.1; rw [hob] at this; cases this)

theorem aop_store (hG : Fits P G) {o : Oper} {ty : TypeId} {x y : Operand} {b p : Nat} {t : T} {ts : List T} {i : TI} {K : Env → St → Prop} (ho : o.op = .store ty x y) (hx : evalO a x = some (.ptr b p)) (hy : evalO a y = some t)
    (hob : σ.objs b = some (.cells ts)) (hsc : (notRaw t && t.cells.all T.scalar) = true) (hty : G ty = some i) (hsz : Nat.beq t.cells.length i.size = true) (hle : Nat.ble (p + t.cells.length) ts.length = true) (hd : fitsD N o.dst = true)
    (k : K (put a o.dst (.tup [])) (σ.setO b (some (.cells (stored ts t.cells p))))) : AOp P N o a σ K := by
  intro av w hi hr next Qc hn
  rw [Bool.and_eq_true] at hsc
  have rx := evalO_rel hr hx
  have ry := evalO_rel hr hy
  obtain ⟨hc1, hc2⟩ := ry.cells (notRaw_ne hsc.1)
  obtain ⟨hb1, c, e, hc, hlen, hrel⟩ := hi.obj b ts hob
  have hle' := Nat.le_of_ble_eq_true hle
  have hsz' := Nat.eq_of_beq_eq_true hsz
  have hone : ∀ v ∈ (av.eval y).cells.toList, v.oneCell' = true := by
    intro v hv
    obtain ⟨j, hj, hjv⟩ := List.getElem_of_mem hv
    have hj' : j < t.cells.length := by rw [Array.length_toList] at hj; omega
    refine (hc2 j t.cells[j] v (List.getElem?_eq_getElem hj') ?_).scalar (List.all_eq_true.1 hsc.2 _ (List.getElem_mem hj'))
    rw [← hjv]; simp
  have hst := run_storeCells_at (P := P) b p e (av.eval y).cells.toList 0 c w hc (by rw [Array.length_toList]; omega) hone
  generalize hv : av.eval x = vx at rx
  cases rx
  generalize hc' : (c.toList.take (p + 0) ++ (av.eval y).cells.toList ++ c.toList.drop (p + 0 + (av.eval y).cells.toList.length)).toArray = c' at hst
  have hrun : (execOp av.eval o).run P w = .ok .skip (w.setRow b c') := by
    simp only [execOp, ho, Instr.storeAt, hv, Instr.sureAddr, Sem.run_bind, Sem.run_pure, Result.andThen_ok, storeVar, g_size hG hty]
    rw [if_neg (by rw [hc1]; simpa using hsz')]
    simp [hst]
  have ev := setRow_ev (c' := c') hi hob hc (stored ts t.cells p)
  have hc'size : c'.size = c.size := by rw [← hc']; simp; omega
  have hi' : Inv (w.setRow b c') (σ.setO b (some (.cells (stored ts t.cells p)))) := by
    refine inv_at hi ev hb1 (fun k hk _ => setRow_other w b k c' hk) (setRow_heap w b c c' e (0, 0) hc) (fun k hk => objs_setO_ne _ hk) (fun k hk => rfl) ?_ ?_
    · intro ob hob'
      rw [objs_setO_same] at hob'; injection hob' with hob'; subst hob'
      refine ⟨_, rfl, by rw [hc'size]; simp [stored]; omega, fun j t' v hj hv' => ?_⟩
      refine Rel.ev (σ := σ) (w := w) ?_ ev
      rw [← hc'] at hv'
      simp only [Nat.add_zero, List.getElem?_toArray] at hv'
      unfold stored at hj
      rw [List.append_assoc] at hj hv'
      have hl1 : (ts.take p).length = p := by simp; omega
      have hl2 : (c.toList.take p).length = p := by simp; omega
      rcases Nat.lt_or_ge j p with h | h
      · rw [List.getElem?_append_left (by omega)] at hj hv'
        rw [List.getElem?_take, if_pos h] at hj hv'
        exact hrel j t' v hj (by simpa using hv')
      · rw [List.getElem?_append_right (by omega), hl1] at hj
        rw [List.getElem?_append_right (by omega), hl2] at hv'
        rcases Nat.lt_or_ge (j - p) t.cells.length with h2 | h2
        · rw [List.getElem?_append_left (by omega)] at hj
          rw [List.getElem?_append_left (by rw [Array.length_toList]; omega)] at hv'
          exact hc2 _ t' v hj (by simpa using hv')
        · rw [List.getElem?_append_right (by omega), List.getElem?_drop] at hj
          rw [List.getElem?_append_right (by rw [Array.length_toList]; omega), List.getElem?_drop, Array.length_toList] at hv'
          rw [show p + t.cells.length + (j - p - t.cells.length) = j by omega] at hj
          rw [show p + (av.eval y).cells.size + (j - p - (av.eval y).cells.size) = j by omega] at hv'
          exact hrel j t' v hj (by simpa using hv')
    · intro f t' hf
      obtain ⟨h1, h2, c2, e2, h3, h4, h5⟩ := hi.room b f t' hf
      rw [hc] at h3; injection h3 with h3; injection h3 with h3 h6; subst h3
      refine ⟨h2, by omega, fun ts2 hts2 => ?_⟩
      rw [objs_setO_same] at hts2; injection hts2 with hts2; injection hts2 with hts2; subst hts2
      have := h5 ts hob
      simp [stored]; omega
  unfold Oper.wp
  rw [hrun]
  exact hn _ _ _ _ ev hi' ((hr.ev ev).put hd (.tup [] #[] rfl fun j c v h1 h2 => by simp at h1)) k
end
end Go.Tr
