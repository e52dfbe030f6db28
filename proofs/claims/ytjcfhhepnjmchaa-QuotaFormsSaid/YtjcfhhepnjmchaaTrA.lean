/- Trees: values read as data, without addresses; the state of what may still be written; semantic triples over the model's own weakest preconditions. A library of my own: no program in sight. -/
import Derived.ScopeJumps
import Derived.Below
import Derived.Deep.LoopGhost
set_option linter.unusedVariables false
set_option linter.unusedSimpArgs false
namespace Go.Tr

/-- A value as data. 'ro': the address of a place inside a tree that will not change. 'sl': a slice told by its elements ('sz' cells each); 'own': where its room begins and ends. 'aref': a slice of an array that may be written. -/
inductive T where
  | bool (b : Bool)
  | int (k : IntKind) (n : Int)
  | flt (k : FloatKind) (bits : Nat)
  | cplx (k : FloatKind) (re im : Nat)
  | str (s : List UInt8)
  | nilp
  | ptr (b o : Nat)
  | ro (x : T) (o : Nat)
  | nilsl
  | sl (sz : Nat) (own : Option (Nat × Nat × Nat)) (xs : List T)
  | aref (sz : Nat) (own : Option (Nat × Nat × Nat)) (b o n : Nat)
  | map (r : Option Nat)
  | fn (f : Fn) (caps : List T)
  | nilfn
  | agg (cs : List T)
  | tup (cs : List T)
  | raw (v : Value)
  deriving Inhabited

def T.cells : T → List T
  | .agg cs => cs
  | t => [t]

inductive Ob where
  | cells (ts : List T)
  | map (es : List (T × T))

structure St where
  base : Nat
  objs : Nat → Option Ob
  spare : Nat → Option (Nat × Nat)

/-- A cell that will not be written any more. -/
def Imm (w : World) (σ : St) (b o : Nat) : Prop :=
  b < w.heap.size ∧ σ.objs b = none ∧ ∀ f t, σ.spare b = some (f, t) → ¬ (f ≤ o ∧ o < t)

def OwnOK (own : Option (Nat × Nat × Nat)) (b f t : Nat) : Prop := ∀ x, own = some x → x = (b, f, t) ∨ (f = t ∧ x.2.1 = x.2.2)
def OwnNil (own : Option (Nat × Nat × Nat)) : Prop := ∀ b f t, own = some (b, f, t) → f = t

inductive Rel (w : World) (σ : St) : Value → T → Prop where
  | bool (b : Bool) : Rel w σ (.bool b) (.bool b)
  | int (k : IntKind) (n : Int) : Rel w σ (.int k n) (.int k n)
  | flt (k : FloatKind) (n : Nat) : Rel w σ (.float k n) (.flt k n)
  | cplx (k : FloatKind) (m n : Nat) : Rel w σ (.complex k m n) (.cplx k m n)
  | str (s : ByteArray) : Rel w σ (.string s) (.str s.data.toList)
  | nilp : Rel w σ (.pointer none) .nilp
  | ptr (b o : Nat) : Rel w σ (.pointer (some ⟨b, o, none⟩)) (.ptr b o)
  | ro (b p o : Nat) (x : T)
      (h : ∀ (j : Nat) (c : T), x.cells[j]? = some c → Imm w σ b (p + j) ∧ ∃ v, w.cell? ⟨b, p + j, none⟩ = some v)
      (r : ∀ (j : Nat) (c : T) (v : Value), x.cells[j]? = some c → w.cell? ⟨b, p + j, none⟩ = some v → Rel w σ v c) :
      Rel w σ (.pointer (some ⟨b, p + o, none⟩)) (.ro x o)
  | nilsl : Rel w σ (.slice none 0 0) .nilsl
  | slnil (sz : Nat) (own : Option (Nat × Nat × Nat)) (h : OwnNil own) : Rel w σ (.slice none 0 0) (.sl sz own [])
  | slz (a : Addr) (sz : Nat) (own : Option (Nat × Nat × Nat)) (h : OwnNil own) : Rel w σ (.slice (some a) 0 0) (.sl sz own [])
  | sl (b p cap sz : Nat) (own : Option (Nat × Nat × Nat)) (xs : List T) (n : Nat) (hn : xs.length = n) (hc : n ≤ cap) (ho : OwnOK own b (p + n * sz) (p + cap * sz))
      (hs : ∀ (i : Nat) (x : T), xs[i]? = some x → x.cells.length = sz)
      (h : ∀ (i : Nat) (x : T) (j : Nat) (c : T), xs[i]? = some x → x.cells[j]? = some c → Imm w σ b (p + i * sz + j) ∧ ∃ v, w.cell? ⟨b, p + i * sz + j, none⟩ = some v)
      (r : ∀ (i : Nat) (x : T) (j : Nat) (c : T) (v : Value), xs[i]? = some x → x.cells[j]? = some c → w.cell? ⟨b, p + i * sz + j, none⟩ = some v → Rel w σ v c) :
      Rel w σ (.slice (some ⟨b, p, none⟩) n cap) (.sl sz own xs)
  | aref (b o n cap sz : Nat) (own : Option (Nat × Nat × Nat)) (hc : n ≤ cap) (ho : ∀ x, own = some x → x.1 = b ∧ x.2.2 = o + cap * sz) :
      Rel w σ (.slice (some ⟨b, o, none⟩) n cap) (.aref sz own b o n)
  | map (r : Option Nat) : Rel w σ (.map r) (.map r)
  | fn (f : Fn) (caps : List T) (vs : Array Value) (hn : vs.size = caps.length) (r : ∀ (j : Nat) (c : T) (v : Value), caps[j]? = some c → vs[j]? = some v → Rel w σ v c) :
      Rel w σ (.func f #[] vs) (.fn f caps)
  | nilfn : Rel w σ .nilFunc .nilfn
  | agg (cs : List T) (vs : Array Value) (hn : vs.size = cs.length) (r : ∀ (j : Nat) (c : T) (v : Value), cs[j]? = some c → vs[j]? = some v → Rel w σ v c) : Rel w σ (.agg vs) (.agg cs)
  | tup (cs : List T) (vs : Array Value) (hn : vs.size = cs.length) (r : ∀ (j : Nat) (c : T) (v : Value), cs[j]? = some c → vs[j]? = some v → Rel w σ v c) : Rel w σ (.tuple vs) (.tup cs)
  | raw (v : Value) : Rel w σ v (.raw v)

structure Ev (w : World) (σ : St) (w' : World) (σ' : St) : Prop where
  base : σ'.base = σ.base
  below : Go.RowKit.Below σ.base w w'
  imm : ∀ b o, Imm w σ b o → Imm w' σ' b o ∧ w'.cell? ⟨b, o, none⟩ = w.cell? ⟨b, o, none⟩

theorem Ev.refl (w : World) (σ : St) : Ev w σ w σ := ⟨rfl, .refl _ _, fun _ _ h => ⟨h, rfl⟩⟩
theorem Ev.trans {w w1 w2 : World} {σ σ1 σ2 : St} (h : Ev w σ w1 σ1) (k : Ev w1 σ1 w2 σ2) : Ev w σ w2 σ2 :=
  ⟨k.base.trans h.base, h.below.trans (h.base ▸ k.below), fun b o hi => ⟨(k.imm b o (h.imm b o hi).1).1, ((k.imm b o (h.imm b o hi).1).2).trans (h.imm b o hi).2⟩⟩

theorem Rel.ev {w w' : World} {σ σ' : St} {v : Value} {t : T} (h : Rel w σ v t) (e : Ev w σ w' σ') : Rel w' σ' v t := by
  induction h with
  | bool b => exact .bool b
  | int k n => exact .int k n
  | flt k n => exact .flt k n
  | cplx k m n => exact .cplx k m n
  | str s => exact .str s
  | nilp => exact .nilp
  | ptr b o => exact .ptr b o
  | ro b p o x h r ih =>
    refine .ro b p o x (fun j c hj => ?_) (fun j c v hj hv => ?_)
    · obtain ⟨hi, v, hv⟩ := h j c hj
      exact ⟨(e.imm _ _ hi).1, v, (e.imm _ _ hi).2.trans hv⟩
    · exact ih j c v hj ((e.imm _ _ (h j c hj).1).2.symm.trans hv)
  | nilsl => exact .nilsl
  | slnil sz own h => exact .slnil sz own h
  | slz a sz own h => exact .slz a sz own h
  | sl b p cap sz own xs n hn hc ho hs h r ih =>
    refine .sl b p cap sz own xs n hn hc ho hs (fun i x j c hx hj => ?_) (fun i x j c v hx hj hv => ?_)
    · obtain ⟨hi, v, hv⟩ := h i x j c hx hj
      exact ⟨(e.imm _ _ hi).1, v, (e.imm _ _ hi).2.trans hv⟩
    · exact ih i x j c v hx hj ((e.imm _ _ (h i x j c hx hj).1).2.symm.trans hv)
  | aref b o n cap sz own hc ho => exact .aref b o n cap sz own hc ho
  | map r => exact .map r
  | fn f caps vs hn r ih => exact .fn f caps vs hn ih
  | nilfn => exact .nilfn
  | agg cs vs hn r ih => exact .agg cs vs hn ih
  | tup cs vs hn r ih => exact .tup cs vs hn ih
  | raw v => exact .raw v

/-- What stands in memory of the things that may be written. -/
structure Inv (w : World) (σ : St) : Prop where
  base : σ.base ≤ w.heap.size
  obj : ∀ b ts, σ.objs b = some (.cells ts) → σ.base ≤ b ∧ ∃ (c : Array Value) (e : TypeId), w.heap[b]? = some (.cells c e (0, 0)) ∧ ts.length ≤ c.size ∧ ∀ (j : Nat) (t : T) (v : Value), ts[j]? = some t → c[j]? = some v → Rel w σ v t
  room : ∀ b f t, σ.spare b = some (f, t) → σ.base ≤ b ∧ f ≤ t ∧ ∃ (c : Array Value) (e : TypeId), w.heap[b]? = some (.cells c e (0, 0)) ∧ t ≤ c.size ∧ ∀ ts, σ.objs b = some (.cells ts) → ts.length ≤ f
  map : ∀ b es, σ.objs b = some (.map es) → σ.base ≤ b ∧ ∃ (en : Array MapEntry) (clock : Nat), w.heap[b]? = some (.map en clock) ∧ en.size = es.length ∧ ∀ (j : Nat) (k u : T) (e : MapEntry), es[j]? = some (k, u) → en[j]? = some e → Rel w σ e.key k ∧ Rel w σ e.val u

theorem Inv.lt {w : World} {σ : St} (h : Inv w σ) {b : Nat} {o : Ob} (hb : σ.objs b = some o) : σ.base ≤ b ∧ b < w.heap.size := by
  cases o with
  | cells ts => obtain ⟨h1, c, e, h2, _⟩ := h.obj b ts hb; exact ⟨h1, (Array.getElem?_eq_some_iff.1 h2).1⟩
  | map es => obtain ⟨h1, c, e, h2, _⟩ := h.map b es hb; exact ⟨h1, (Array.getElem?_eq_some_iff.1 h2).1⟩
theorem Inv.lt_room {w : World} {σ : St} (h : Inv w σ) {b f t : Nat} (hb : σ.spare b = some (f, t)) : σ.base ≤ b ∧ b < w.heap.size := by
  obtain ⟨h1, _, c, e, h2, _⟩ := h.room b f t hb; exact ⟨h1, (Array.getElem?_eq_some_iff.1 h2).1⟩

theorem beqF {i j : Nat} (h : i ≠ j) : Nat.beq i j = false := by
  cases hb : Nat.beq i j with
  | false => rfl
  | true => exact absurd (Nat.eq_of_beq_eq_true hb) h

/-- What is known of the temporaries. -/
abbrev Env := List (Nat × T)
def get : Env → Nat → Option T
  | [], _ => none
  | (i, t) :: r, j => cond (Nat.beq i j) (some t) (get r j)

structure RelA (w : World) (σ : St) (N : Nat) (av : Act) (a : Env) : Prop where
  size : av.tmps.size = N
  defers : av.defers = []
  tmp : ∀ i t, get a i = some t → ∃ v, av.tmps[i]? = some v ∧ Rel w σ v t

theorem RelA.ev {w w' : World} {σ σ' : St} {N : Nat} {av : Act} {a : Env} (h : RelA w σ N av a) (e : Ev w σ w' σ') : RelA w' σ' N av a :=
  ⟨h.size, h.defers, fun i t hi => let ⟨v, hv, r⟩ := h.tmp i t hi; ⟨v, hv, r.ev e⟩⟩

def put (a : Env) : Option Tmp → T → Env
  | some d, t => (d, t) :: a
  | none, _ => a

def fitsD (N : Nat) : Option Tmp → Bool
  | some d => Nat.blt d N
  | none => true

theorem RelA.put {w : World} {σ : St} {N : Nat} {av : Act} {a : Env} (h : RelA w σ N av a) {d : Option Tmp} (hd : fitsD N d = true) {v : Value} {t : T} (r : Rel w σ v t) :
    RelA w σ N (av.put d v) (put a d t) := by
  cases d with
  | none => exact h
  | some d =>
    have hd' : d < N := by simpa [fitsD, Nat.blt_eq] using hd
    refine ⟨by simp [Act.put, h.size], by simp [Act.put, h.defers], fun i u hi => ?_⟩
    by_cases e : d = i
    · subst e
      have : t = u := by simpa [Tr.put, get] using hi
      subst this
      exact ⟨v, by simp [Act.put, h.size, hd'], r⟩
    · have hb : Nat.beq d i = false := beqF e
      have : get a i = some u := by simpa [Tr.put, get, hb] using hi
      obtain ⟨v', hv', r'⟩ := h.tmp i u this
      exact ⟨v', by simp [Act.put, Array.getElem?_setIfInBounds, e, hv'], r'⟩

/-- The semantic triple of a piece of code. -/
def AW (P : Program) (N : Nat) (c : Code) (Q : Exit → Env → St → Prop) (a : Env) (σ : St) : Prop :=
  ∀ av w, Inv w σ → RelA w σ N av a → c.wp P (fun e av' w' => ∃ a' σ', Ev w σ w' σ' ∧ Inv w' σ' ∧ RelA w' σ' N av' a' ∧ Q e a' σ') av w

section
variable {P : Program} {N : Nat} {Q : Exit → Env → St → Prop} {a : Env} {σ : St}

theorem AW.mono {c : Code} {Q' : Exit → Env → St → Prop} (h : AW P N c Q a σ) (k : ∀ e a σ, Q e a σ → Q' e a σ) : AW P N c Q' a σ :=
  fun av w hi hr => wp_mono (h av w hi hr) fun e av' w' ⟨a', σ', h1, h2, h3, h4⟩ => ⟨a', σ', h1, h2, h3, k _ _ _ h4⟩

theorem aw_skip (h : Q .normal a σ) : AW P N .skip Q a σ := fun av w hi hr => wp_skip ⟨a, σ, .refl _ _, hi, hr, h⟩
theorem aw_label {l : Nat} (h : Q .normal a σ) : AW P N (.label l) Q a σ := fun av w hi hr => wp_label ⟨a, σ, .refl _ _, hi, hr, h⟩
theorem aw_exit {id : Nat} (h : Q (.exit id) a σ) : AW P N (.exit id) Q a σ := fun av w hi hr => wp_exit ⟨a, σ, .refl _ _, hi, hr, h⟩
theorem aw_goto {l : Nat} (h : Q (.goto l) a σ) : AW P N (.goto l) Q a σ := fun av w hi hr => wp_goto ⟨a, σ, .refl _ _, hi, hr, h⟩
theorem aw_ret (h : Q .ret a σ) : AW P N .ret Q a σ := fun av w hi hr => wp_ret ⟨a, σ, .refl _ _, hi, hr, h⟩

def thenA (next : Env → St → Prop) (Q : Exit → Env → St → Prop) : Exit → Env → St → Prop
  | .normal, a, σ => next a σ
  | e, a, σ => Q e a σ

theorem aw_seq {x y : Code} (h : AW P N x (thenA (AW P N y Q) Q) a σ) : AW P N (.seq x y) Q a σ := by
  intro av w hi hr
  refine wp_seq (wp_mono (h av w hi hr) ?_)
  rintro e av' w' ⟨a', σ', h1, h2, h3, h4⟩
  cases e with
  | normal => exact wp_mono (h4 av' w' h2 h3) fun e av2 w2 ⟨a2, σ2, k1, k2, k3, k4⟩ => ⟨a2, σ2, h1.trans k1, k2, k3, k4⟩
  | exit id => exact ⟨a', σ', h1, h2, h3, h4⟩
  | goto l => exact ⟨a', σ', h1, h2, h3, h4⟩
  | ret => exact ⟨a', σ', h1, h2, h3, h4⟩
  | panic ch => exact ⟨a', σ', h1, h2, h3, h4⟩
  | outgrown => exact ⟨a', σ', h1, h2, h3, h4⟩

def inBlockA (id : Nat) (Q : Exit → Env → St → Prop) : Exit → Env → St → Prop
  | .exit id', a, σ => cond (Nat.beq id' id) (Q .normal a σ) (Q (.exit id') a σ)
  | e, a, σ => Q e a σ

theorem aw_block {id : Nat} {c : Code} (h : AW P N c (inBlockA id Q) a σ) : AW P N (.block id c) Q a σ := by
  intro av w hi hr
  refine wp_block (wp_mono (h av w hi hr) ?_)
  rintro e av' w' ⟨a', σ', h1, h2, h3, h4⟩
  cases e with
  | exit id' =>
    by_cases hid : id' = id
    · subst hid
      have : Q .normal a' σ' := by simpa [inBlockA] using h4
      simpa [Exit.inBlock] using ⟨a', σ', h1, h2, h3, this⟩
    · have hb : Nat.beq id' id = false := beqF hid
      have : Q (.exit id') a' σ' := by simpa [inBlockA, hb] using h4
      simpa [Exit.inBlock, hid] using ⟨a', σ', h1, h2, h3, this⟩
  | normal => exact ⟨a', σ', h1, h2, h3, h4⟩
  | goto l => exact ⟨a', σ', h1, h2, h3, h4⟩
  | ret => exact ⟨a', σ', h1, h2, h3, h4⟩
  | panic ch => exact ⟨a', σ', h1, h2, h3, h4⟩
  | outgrown => exact ⟨a', σ', h1, h2, h3, h4⟩

/-- Whatever reads as the one reads as the other too. -/
def Wk (u t : T) : Prop := ∀ w σ v, Rel w σ v u → Rel w σ v t
theorem Wk.refl (t : T) : Wk t t := fun _ _ _ h => h
theorem Wk.trans {s t u : T} (h : Wk s t) (k : Wk t u) : Wk s u := fun w σ v r => k w σ v (h w σ v r)
theorem Wk.own (sz : Nat) (own : Option (Nat × Nat × Nat)) (xs : List T) : Wk (.sl sz own xs) (.sl sz none xs) := by
  intro w σ v h
  cases h with
  | slnil => exact .slnil _ _ (fun b f t h => by cases h)
  | slz a => exact .slz a _ _ (fun b f t h => by cases h)
  | sl b p cap sz own xs n hn hc ho hs h r => exact .sl b p cap sz none xs n hn hc (fun x hx => by cases hx) hs h r
theorem Wk.nil (sz : Nat) : Wk .nilsl (.sl sz none []) := by
  intro w σ v h; cases h; exact .slnil _ _ (fun b f t h => by cases h)
theorem Wk.nil0 (sz : Nat) : Wk .nilsl (.sl sz (some (0, 0, 0)) []) := by
  intro w σ v h; cases h; exact .slnil _ _ (fun b f t h => by injection h with h; injection h with h1 h; injection h with h2 h3; omega)

/-- What is known in a, of the slots of b, is (or can be read as) what b says. -/
def Knows (a b : Env) : Prop := ∀ i t, get b i = some t → ∃ u, get a i = some u ∧ Wk u t
theorem Knows.nil (a : Env) : Knows a [] := fun i t h => by simp [get] at h
theorem Knows.consW {a b : Env} {i : Nat} {u t : T} (h : get a i = some u) (hw : Wk u t) (k : Knows a b) : Knows a ((i, t) :: b) := by
  intro j s hj
  by_cases e : i = j
  · subst e; simp [get] at hj; subst hj; exact ⟨u, h, hw⟩
  · have hb : Nat.beq i j = false := beqF e
    exact k j s (by simpa [get, hb] using hj)
theorem Knows.cons {a b : Env} {i : Nat} {t : T} (h : get a i = some t) (k : Knows a b) : Knows a ((i, t) :: b) := .consW h (.refl t) k
theorem Knows.refl (a : Env) : Knows a a := fun i t h => ⟨t, h, .refl t⟩
theorem RelA.knows {w : World} {σ : St} {av : Act} {b : Env} (h : RelA w σ N av a) (k : Knows a b) : RelA w σ N av b :=
  ⟨h.size, h.defers, fun i t hi => let ⟨u, hu, hw⟩ := k i t hi; let ⟨v, hv, r⟩ := h.tmp i u hu; ⟨v, hv, hw _ _ _ r⟩⟩

theorem aw_forget {c : Code} {b : Env} (k : Knows a b) (h : AW P N c Q b σ) : AW P N c Q a σ :=
  fun av w hi hr => h av w hi (hr.knows k)

/-- A step of the book-keeping, what is known of the temporaries turned with it. -/
theorem aw_conv {c : Code} {a' : Env} {σ' : St} (g : ∀ w av, Inv w σ → RelA w σ N av a → Inv w σ' ∧ Ev w σ w σ' ∧ RelA w σ' N av a') (h : AW P N c Q a' σ') : AW P N c Q a σ := by
  intro av w hi hr
  obtain ⟨h1, h2, h3⟩ := g w av hi hr
  exact wp_mono (h av w h1 h3) fun e av' w' ⟨a', σ', k1, k2, k3, k4⟩ => ⟨a', σ', h2.trans k1, k2, k3, k4⟩
/-- A step of the book-keeping alone. -/
def GStep (σ σ' : St) : Prop := ∀ w, Inv w σ → Inv w σ' ∧ Ev w σ w σ'
theorem aw_ghost {c : Code} {σ' : St} (g : GStep σ σ') (h : AW P N c Q a σ') : AW P N c Q a σ := by
  intro av w hi hr
  obtain ⟨h1, h2⟩ := g w hi
  exact wp_mono (h av w h1 (hr.ev h2)) fun e av' w' ⟨a', σ', k1, k2, k3, k4⟩ => ⟨a', σ', h2.trans k1, k2, k3, k4⟩

/-- A loop: what is known at its head is one of a family; each round comes to one of a smaller measure. -/
theorem aw_loop {c : Code} {X : Type} (E : X → Env) (S : X → St) (m : X → Nat) (x : X) (h0 : Knows a (E x)) (hs : S x = σ)
    (round : ∀ x, AW P N c (thenA (fun a' σ' => ∃ x', m x' < m x ∧ Knows a' (E x') ∧ S x' = σ') Q) (E x) (S x)) : AW P N (.loop c) Q a σ := by
  subst hs
  intro av w hi hr
  refine wp_loop_ghost (fun n av' w' => ∃ x', m x' = n ∧ Ev w (S x) w' (S x') ∧ Inv w' (S x') ∧ RelA w' (S x') N av' (E x')) (m x) ⟨x, rfl, .refl _ _, hi, hr.knows h0⟩ ?_
  rintro n av1 w1 ⟨x1, rfl, e1, i1, r1⟩
  refine wp_mono (round x1 av1 w1 i1 r1) ?_
  rintro e av' w' ⟨a', σ', h1, h2, h3, h4⟩
  cases e with
  | normal =>
    obtain ⟨x2, hlt, hk, rfl⟩ := h4
    exact ⟨m x2, hlt, x2, rfl, e1.trans h1, h2, h3.knows hk⟩
  | exit id => exact ⟨a', σ', e1.trans h1, h2, h3, h4⟩
  | goto l => exact ⟨a', σ', e1.trans h1, h2, h3, h4⟩
  | ret => exact ⟨a', σ', e1.trans h1, h2, h3, h4⟩
  | panic ch => exact ⟨a', σ', e1.trans h1, h2, h3, h4⟩
  | outgrown => exact ⟨a', σ', e1.trans h1, h2, h3, h4⟩

def jumpA (l : Nat) (J : Env → St → Prop) (Q : Exit → Env → St → Prop) : Exit → Env → St → Prop
  | .goto l', a, σ => l' = l ∧ J a σ
  | e, a, σ => Q e a σ
def noGotoA (Q : Exit → Env → St → Prop) : Exit → Env → St → Prop
  | .goto _, _, _ => False
  | e, a, σ => Q e a σ

theorem aw_scope_straight {c : Code} (h : AW P N c (noGotoA Q) a σ) : AW P N (.scope c) Q a σ := by
  intro av w hi hr
  refine wp_scope_straight (wp_mono (h av w hi hr) ?_)
  rintro e av' w' ⟨a', σ', h1, h2, h3, h4⟩
  cases e with
  | goto l => exact h4
  | normal => exact ⟨a', σ', h1, h2, h3, h4⟩
  | exit id => exact ⟨a', σ', h1, h2, h3, h4⟩
  | ret => exact ⟨a', σ', h1, h2, h3, h4⟩
  | panic ch => exact ⟨a', σ', h1, h2, h3, h4⟩
  | outgrown => exact ⟨a', σ', h1, h2, h3, h4⟩

/-- A scope with one label that is jumped to. -/
theorem aw_scope {c rest : Code} (l : Nat) (hf : findLabel c l = some rest) {X : Type} (E : X → Env) (S : X → St) (m : X → Nat)
    (pass : ∀ x, AW P N rest (jumpA l (fun a' σ' => ∃ x', m x' < m x ∧ Knows a' (E x') ∧ S x' = σ') Q) (E x) (S x))
    (first : AW P N c (jumpA l (fun a' σ' => ∃ x', Knows a' (E x') ∧ S x' = σ') Q) a σ) : AW P N (.scope c) Q a σ := by
  intro av w hi hr
  refine wp_scope_jumps l (fun av' w' => ∃ n, ∃ x', m x' = n ∧ Ev w σ w' (S x') ∧ Inv w' (S x') ∧ RelA w' (S x') N av' (E x'))
    (fun av' w' => leastOf (fun n => ∃ x', m x' = n ∧ Ev w σ w' (S x') ∧ Inv w' (S x') ∧ RelA w' (S x') N av' (E x'))) hf ?_ ?_
  · refine wp_mono (first av w hi hr) ?_
    rintro e av' w' ⟨a', σ', h1, h2, h3, h4⟩
    cases e with
    | goto l' => obtain ⟨rfl, x, hk, rfl⟩ := h4; exact ⟨rfl, m x, x, rfl, h1, h2, h3.knows hk⟩
    | normal => exact ⟨a', σ', h1, h2, h3, h4⟩
    | exit id => exact ⟨a', σ', h1, h2, h3, h4⟩
    | ret => exact ⟨a', σ', h1, h2, h3, h4⟩
    | panic ch => exact ⟨a', σ', h1, h2, h3, h4⟩
    | outgrown => exact ⟨a', σ', h1, h2, h3, h4⟩
  · intro av1 w1 hJ
    obtain ⟨x1, hm, e1, i1, r1⟩ := (leastOf_spec hJ).1
    refine wp_mono (pass x1 av1 w1 i1 r1) ?_
    rintro e av' w' ⟨a', σ', h1, h2, h3, h4⟩
    cases e with
    | goto l' =>
      obtain ⟨rfl, x2, hlt, hk, rfl⟩ := h4
      have hp : ∃ x', m x' = m x2 ∧ Ev w σ w' (S x') ∧ Inv w' (S x') ∧ RelA w' (S x') N av' (E x') := ⟨x2, rfl, e1.trans h1, h2, h3.knows hk⟩
      exact ⟨rfl, ⟨m x2, hp⟩, Nat.lt_of_le_of_lt ((leastOf_spec ⟨m x2, hp⟩).2 _ hp) (hm ▸ hlt)⟩
    | normal => exact ⟨a', σ', e1.trans h1, h2, h3, h4⟩
    | exit id => exact ⟨a', σ', e1.trans h1, h2, h3, h4⟩
    | ret => exact ⟨a', σ', e1.trans h1, h2, h3, h4⟩
    | panic ch => exact ⟨a', σ', e1.trans h1, h2, h3, h4⟩
    | outgrown => exact ⟨a', σ', e1.trans h1, h2, h3, h4⟩

/-- A constant as data. -/
def constC (v : Value) : T :=
  match v with
  | .bool b => .bool b
  | .int k n => .int k n
  | .float k n => .flt k n
  | .complex k m n => .cplx k m n
  | .string s => .str s.data.toList
  | .pointer a => match a with
    | none => .nilp
    | some _ => .raw v
  | .slice a n c => match a, n, c with
    | none, 0, 0 => .nilsl
    | _, _, _ => .raw v
  | .map a => .map a
  | .nilFunc => .nilfn
  | .tuple cs => match cs with
    | ⟨[]⟩ => .tup []
    | _ => .raw v
  | _ => .raw v
def constT : Value → T
  | .agg cs => .agg (cs.toList.map constC)
  | v => constC v
theorem constC_rel (w : World) (σ : St) (v : Value) : Rel w σ v (constC v) := by
  unfold constC
  cases v with
  | pointer a => cases a <;> constructor
  | slice a n c =>
    cases a with
    | none => cases n with
      | zero => cases c <;> constructor
      | succ n => constructor
    | some a => constructor
  | tuple cs =>
    obtain ⟨cs⟩ := cs
    cases cs with
    | nil => exact .tup [] #[] rfl fun j c v h1 h2 => by simp at h1
    | cons x xs => constructor
  | _ => constructor
theorem constT_rel (w : World) (σ : St) (v : Value) : Rel w σ v (constT v) := by
  unfold constT
  split
  · rename_i cs
    refine .agg _ _ (by simp) fun j c v h1 h2 => ?_
    have : cs.toList[j]? = some v := by simpa using h2
    rw [List.getElem?_map, this] at h1
    simp at h1
    subst h1
    exact constC_rel w σ v
  · exact constC_rel w σ v

def evalO (a : Env) : Operand → Option T
  | .tmp t => get a t
  | .const v => some (constT v)
  | .global _ => none
  | .func f => some (.fn (.func f) [])

theorem evalO_rel {w : World} {av : Act} (h : RelA w σ N av a) {x : Operand} {t : T} (hx : evalO a x = some t) : Rel w σ (av.eval x) t := by
  cases x with
  | tmp i =>
    obtain ⟨v, hv, r⟩ := h.tmp i t hx
    have : av.eval (.tmp i) = v := by simp [Act.eval, hv]
    rw [this]; exact r
  | const v => injection hx with hx; subst hx; exact constT_rel w σ v
  | global g => cases hx
  | func f => injection hx with hx; subst hx; exact .fn _ _ _ rfl fun j c v h1 h2 => by simp at h1

theorem aw_cond {c : Operand} {x y : Code} {b : Bool} (hc : evalO a c = some (.bool b)) (h : AW P N (cond b x y) Q a σ) : AW P N (.cond c x y) Q a σ := by
  intro av w hi hr
  have hb := evalO_rel hr hc
  generalize hv : av.eval c = v at hb
  cases hb
  cases b
  · exact wp_cond_false hv (h av w hi hr)
  · exact wp_cond_true hv (h av w hi hr)

/-- The semantic triple of one operation that gives a value (or none). -/
def AOp (P : Program) (N : Nat) (o : Oper) (a : Env) (σ : St) (K : Env → St → Prop) : Prop :=
  ∀ av w, Inv w σ → RelA w σ N av a → ∀ (next : Act → World → Prop) (Qc : Exit → Act → World → Prop),
    (∀ av' w' a' σ', Ev w σ w' σ' → Inv w' σ' → RelA w' σ' N av' a' → K a' σ' → next av' w') → o.wp P av w next Qc

def AOps (P : Program) (N : Nat) (ops : Array Oper) (Q : Exit → Env → St → Prop) (l : List Nat) (a : Env) (σ : St) : Prop :=
  ∀ av w, Inv w σ → RelA w σ N av a → ∀ Qc : Exit → Act → World → Prop,
    (∀ e av' w' a' σ', Ev w σ w' σ' → Inv w' σ' → RelA w' σ' N av' a' → Q e a' σ' → Qc e av' w') → wpOps P ops Qc l av w

theorem aw_region {id : Nat} {ops : Array Oper} (h : AOps P N ops Q (List.range ops.size) a σ) : AW P N (.region id ops false) Q a σ :=
  fun av w hi hr => wp_region (h av w hi hr _ fun e av' w' a' σ' h1 h2 h3 h4 => ⟨a', σ', h1, h2, h3, h4⟩)

theorem aops_nil {ops : Array Oper} (h : Q .normal a σ) : AOps P N ops Q [] a σ := fun av w hi hr Qc k => k _ _ _ a σ (.refl _ _) hi hr h

/-- Is the operation carried out? (by what is known of the guard's value) -/
def guardOf (ops : Array Oper) (a : Env) (o : Oper) : Option Bool :=
  match o.guard with
  | none => some true
  | some (j, want) => match (ops[j]?).bind (·.dst) with
    | some d => match get a d with
      | some (.bool b) => some (b == want)
      | _ => none
    | none => none

theorem wanted_of {w : World} {ops : Array Oper} {o : Oper} {av : Act} {b : Bool} (hr : RelA w σ N av a) (h : guardOf ops a o = some b) :
    Region.wanted o (yielded ops av.tmps) = b := by
  unfold guardOf at h
  unfold Region.wanted
  split at h
  · rename_i hg; simp [hg]; simpa using h
  · rename_i j want hg
    simp only [hg]
    split at h
    · rename_i d hd
      split at h
      · rename_i b' hb'
        obtain ⟨v, hv, r⟩ := hr.tmp d _ hb'
        cases r
        simp only [yielded, hd, Option.bind_some, hv]
        simpa using h
      · cases h
    · cases h

theorem aops_cons {ops : Array Oper} {i : Nat} {rest : List Nat} {o : Oper} (ho : ops[i]? = some o) (hg : guardOf ops a o = some true)
    (h : AOp P N o a σ (fun a' σ' => AOps P N ops Q rest a' σ')) : AOps P N ops Q (i :: rest) a σ := by
  intro av w hi hr Qc k
  simp only [wpOps, ho, wanted_of hr hg, if_true]
  refine .inl (h av w hi hr _ _ ?_)
  intro av' w' a' σ' h1 h2 h3 h4
  exact h4 av' w' h2 h3 Qc fun e av2 w2 a2 σ2 k1 k2 k3 k4 => k e av2 w2 a2 σ2 (h1.trans k1) k2 k3 k4

theorem aops_skip {ops : Array Oper} {i : Nat} {rest : List Nat} {o : Oper} (ho : ops[i]? = some o) (hg : guardOf ops a o = some false) (hd : fitsD N o.dst = true)
    (h : AOps P N ops Q rest (put a o.dst (.tup [])) σ) : AOps P N ops Q (i :: rest) a σ := by
  intro av w hi hr Qc k
  simp only [wpOps, ho, wanted_of hr hg, if_false, Bool.false_eq_true]
  exact h _ w hi (hr.put hd (.tup [] #[] rfl fun j c v h1 h2 => by simp at h1)) Qc k
end
end Go.Tr
