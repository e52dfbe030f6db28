/- Trees: values read as data, without addresses; things that may be written stand in a list, by names; semantic triples over the model's own weakest preconditions. A library of my own: no program in sight. -/
import Derived.ScopeJumps
import Derived.Below
import Derived.Deep.LoopGhost
set_option linter.unusedVariables false
set_option linter.unusedSimpArgs false
namespace Go.Ts

/-- Who owns the spare room behind a slice: nobody known; there is none; the one of a name. -/
inductive Own where
  | no
  | full
  | tok (k : Nat)
  deriving Inhabited, DecidableEq

/-- A value as data. 'ptr i o': a place in the thing of name i. 'ro': the address of a place inside a tree that will not change. 'sl': a slice told by its elements ('sz' cells each). 'aref': a slice of a thing that may be written. -/
inductive T where
  | bool (b : Bool)
  | int (k : IntKind) (n : Int)
  | flt (k : FloatKind) (bits : Nat)
  | cplx (k : FloatKind) (re im : Nat)
  | str (s : List UInt8)
  | nilp
  | ptr (i o : Nat)
  | ro (x : T) (o : Nat)
  | nilsl
  | sl (sz : Nat) (own : Own) (xs : List T)
  | aref (sz i o n : Nat) (cap : Option Nat)
  | map (r : Option Nat)
  | fn (f : Fn) (caps : List T)
  | bnd (f : Fn) (first : List T)
  | nilfn
  | agg (cs : List T)
  | tup (cs : List T)
  | raw (v : Value)
  deriving Inhabited

def T.cells : T → List T
  | .agg cs => cs
  | t => [t]

inductive Ob where
  | cells (ts : List T)
  | map (es : List (T × T))

/-- Where the named things lie. -/
structure Gh where
  loc : Nat → Option (Nat × Nat)
  tok : Nat → Option (Nat × Nat × Nat)

/-- The things that may be written, by name; the rooms that may be appended into; what belongs to others; the next name, where names are told. -/
structure St where
  L : List (Nat × Ob)
  R : List Nat
  off : Nat → Nat → Prop
  nx : Option Nat

/-- A cell that will not be written any more. -/
structure Imm (w : World) (μ : Gh) (σ : St) (b o : Nat) : Prop where
  lt : b < w.heap.size
  off : ¬ σ.off b o
  obj : ∀ i ob p, (i, ob) ∈ σ.L → μ.loc i ≠ some (b, p)
  room : ∀ k f t, k ∈ σ.R → μ.tok k = some (b, f, t) → ¬ (f ≤ o ∧ o < t)

def OwnOK (μ : Gh) (own : Own) (b f t : Nat) : Prop :=
  match own with
  | .no => True
  | .full => f = t
  | .tok k => ∃ x, μ.tok k = some x ∧ (x = (b, f, t) ∨ (f = t ∧ x.2.1 = x.2.2))
def OwnNil (μ : Gh) (own : Own) : Prop :=
  match own with
  | .no => True
  | .full => True
  | .tok k => ∃ x, μ.tok k = some x ∧ x.2.1 = x.2.2

def Bound (w : World) (b n : Nat) : Prop := ∃ c e f, w.heap[b]? = some (.cells c e f) ∧ n ≤ c.size

inductive Rel (w : World) (μ : Gh) (σ : St) : Value → T → Prop where
  | bool (b : Bool) : Rel w μ σ (.bool b) (.bool b)
  | int (k : IntKind) (n : Int) : Rel w μ σ (.int k n) (.int k n)
  | flt (k : FloatKind) (n : Nat) : Rel w μ σ (.float k n) (.flt k n)
  | cplx (k : FloatKind) (m n : Nat) : Rel w μ σ (.complex k m n) (.cplx k m n)
  | str (s : ByteArray) : Rel w μ σ (.string s) (.str s.data.toList)
  | nilp : Rel w μ σ (.pointer none) .nilp
  | ptr (i b p o : Nat) (h : μ.loc i = some (b, p)) : Rel w μ σ (.pointer (some ⟨b, p + o, none⟩)) (.ptr i o)
  | ro (b p o : Nat) (x : T)
      (h : ∀ (j : Nat) (c : T), x.cells[j]? = some c → Imm w μ σ b (p + j) ∧ ∃ v, w.cell? ⟨b, p + j, none⟩ = some v)
      (r : ∀ (j : Nat) (c : T) (v : Value), x.cells[j]? = some c → w.cell? ⟨b, p + j, none⟩ = some v → Rel w μ σ v c) :
      Rel w μ σ (.pointer (some ⟨b, p + o, none⟩)) (.ro x o)
  | nilsl : Rel w μ σ (.slice none 0 0) .nilsl
  | slnil (sz : Nat) (own : Own) (h : OwnNil μ own) : Rel w μ σ (.slice none 0 0) (.sl sz own [])
  | slz (a : Addr) (sz : Nat) (own : Own) (h : OwnNil μ own) : Rel w μ σ (.slice (some a) 0 0) (.sl sz own [])
  | sl (b p cap sz : Nat) (own : Own) (xs : List T) (n : Nat) (hn : xs.length = n) (hc : n ≤ cap) (ho : OwnOK μ own b (p + n * sz) (p + cap * sz))
      (hs : ∀ (i : Nat) (x : T), xs[i]? = some x → x.cells.length = sz)
      (h : ∀ (i : Nat) (x : T) (j : Nat) (c : T), xs[i]? = some x → x.cells[j]? = some c → Imm w μ σ b (p + i * sz + j) ∧ ∃ v, w.cell? ⟨b, p + i * sz + j, none⟩ = some v)
      (r : ∀ (i : Nat) (x : T) (j : Nat) (c : T) (v : Value), xs[i]? = some x → x.cells[j]? = some c → w.cell? ⟨b, p + i * sz + j, none⟩ = some v → Rel w μ σ v c) :
      Rel w μ σ (.slice (some ⟨b, p, none⟩) n cap) (.sl sz own xs)
  | aref (i b p o n c sz : Nat) (cap : Option Nat) (h : μ.loc i = some (b, p)) (hc : n ≤ c) (hcap : ∀ x, cap = some x → c = x) (hb : Bound w b (p + o + c * sz)) :
      Rel w μ σ (.slice (some ⟨b, p + o, none⟩) n c) (.aref sz i o n cap)
  | mapnil : Rel w μ σ (.map none) (.map none)
  | map (i b p : Nat) (h : μ.loc i = some (b, p)) : Rel w μ σ (.map (some b)) (.map (some i))
  | fn (f : Fn) (caps : List T) (vs : Array Value) (hn : vs.size = caps.length) (r : ∀ (j : Nat) (c : T) (v : Value), caps[j]? = some c → vs[j]? = some v → Rel w μ σ v c) :
      Rel w μ σ (.func f #[] vs) (.fn f caps)
  | bnd (f : Fn) (cs : List T) (vs : Array Value) (hn : vs.size = cs.length) (r : ∀ (j : Nat) (c : T) (v : Value), cs[j]? = some c → vs[j]? = some v → Rel w μ σ v c) :
      Rel w μ σ (.func f vs #[]) (.bnd f cs)
  | nilfn : Rel w μ σ .nilFunc .nilfn
  | agg (cs : List T) (vs : Array Value) (hn : vs.size = cs.length) (r : ∀ (j : Nat) (c : T) (v : Value), cs[j]? = some c → vs[j]? = some v → Rel w μ σ v c) : Rel w μ σ (.agg vs) (.agg cs)
  | tup (cs : List T) (vs : Array Value) (hn : vs.size = cs.length) (r : ∀ (j : Nat) (c : T) (v : Value), cs[j]? = some c → vs[j]? = some v → Rel w μ σ v c) : Rel w μ σ (.tuple vs) (.tup cs)
  | raw (v : Value) : Rel w μ σ v (.raw v)

/-- Is a block one in which something may be written? -/
def Live (μ : Gh) (σ : St) (b : Nat) : Prop := (∃ i ob p, (i, ob) ∈ σ.L ∧ μ.loc i = some (b, p)) ∨ (∃ k f t, k ∈ σ.R ∧ μ.tok k = some (b, f, t) ∧ f < t)

structure Ev (w : World) (μ : Gh) (σ : St) (w' : World) (μ' : Gh) (σ' : St) : Prop where
  below : Go.RowKit.Below 0 w w'
  loc : ∀ i x, μ.loc i = some x → μ'.loc i = some x
  tok : ∀ i x, μ.tok i = some x → μ'.tok i = some x
  off : σ'.off = σ.off
  shape : ∀ b n, Bound w b n → Bound w' b n
  live : ∀ b, b < w.heap.size → ¬ Live μ σ b → ¬ Live μ' σ' b ∧ w'.heap[b]? = w.heap[b]?
  imm : ∀ b o, Imm w μ σ b o → Imm w' μ' σ' b o ∧ w'.cell? ⟨b, o, none⟩ = w.cell? ⟨b, o, none⟩

theorem Ev.refl (w : World) (μ : Gh) (σ : St) : Ev w μ σ w μ σ := ⟨.refl _ _, fun _ _ h => h, fun _ _ h => h, rfl, fun _ _ h => h, fun _ _ h => ⟨h, rfl⟩, fun _ _ h => ⟨h, rfl⟩⟩
theorem Ev.trans {w w1 w2 : World} {μ μ1 μ2 : Gh} {σ σ1 σ2 : St} (h : Ev w μ σ w1 μ1 σ1) (k : Ev w1 μ1 σ1 w2 μ2 σ2) : Ev w μ σ w2 μ2 σ2 :=
  ⟨h.below.trans k.below, fun i x hx => k.loc i x (h.loc i x hx), fun i x hx => k.tok i x (h.tok i x hx), k.off.trans h.off, fun b n hb => k.shape b n (h.shape b n hb),
    fun b hb hl => let ⟨h1, h2⟩ := h.live b hb hl; let ⟨h3, h4⟩ := k.live b (Nat.lt_of_lt_of_le hb h.below.size) h1; ⟨h3, h4.trans h2⟩,
    fun b o hi => ⟨(k.imm b o (h.imm b o hi).1).1, ((k.imm b o (h.imm b o hi).1).2).trans (h.imm b o hi).2⟩⟩

theorem OwnOK.ev {μ μ' : Gh} (ht : ∀ i x, μ.tok i = some x → μ'.tok i = some x) {own : Own} {b f t : Nat} (h : OwnOK μ own b f t) : OwnOK μ' own b f t := by
  cases own with
  | no => trivial
  | full => exact h
  | tok k => obtain ⟨x, h1, h2⟩ := h; exact ⟨x, ht _ _ h1, h2⟩
theorem OwnNil.ev {μ μ' : Gh} (ht : ∀ i x, μ.tok i = some x → μ'.tok i = some x) {own : Own} (h : OwnNil μ own) : OwnNil μ' own := by
  cases own with
  | no => trivial
  | full => trivial
  | tok k => obtain ⟨x, h1, h2⟩ := h; exact ⟨x, ht _ _ h1, h2⟩

/-- What a reading leans on. -/
structure Ev0 (w : World) (μ : Gh) (σ : St) (w' : World) (μ' : Gh) (σ' : St) : Prop where
  loc : ∀ i x, μ.loc i = some x → μ'.loc i = some x
  tok : ∀ i x, μ.tok i = some x → μ'.tok i = some x
  shape : ∀ b n, Bound w b n → Bound w' b n
  imm : ∀ b o, Imm w μ σ b o → Imm w' μ' σ' b o ∧ w'.cell? ⟨b, o, none⟩ = w.cell? ⟨b, o, none⟩
theorem Ev.ev0 {w w' : World} {μ μ' : Gh} {σ σ' : St} (e : Ev w μ σ w' μ' σ') : Ev0 w μ σ w' μ' σ' := ⟨e.loc, e.tok, e.shape, e.imm⟩

theorem Rel.ev' {w w' : World} {μ μ' : Gh} {σ σ' : St} {v : Value} {t : T} (h : Rel w μ σ v t) (e : Ev0 w μ σ w' μ' σ') : Rel w' μ' σ' v t := by
  induction h with
  | bool b => exact .bool b
  | int k n => exact .int k n
  | flt k n => exact .flt k n
  | cplx k m n => exact .cplx k m n
  | str s => exact .str s
  | nilp => exact .nilp
  | ptr i b p o h => exact .ptr i b p o (e.loc _ _ h)
  | ro b p o x h r ih =>
    refine .ro b p o x (fun j c hj => ?_) (fun j c v hj hv => ?_)
    · obtain ⟨hi, v, hv⟩ := h j c hj
      exact ⟨(e.imm _ _ hi).1, v, (e.imm _ _ hi).2.trans hv⟩
    · exact ih j c v hj ((e.imm _ _ (h j c hj).1).2.symm.trans hv)
  | nilsl => exact .nilsl
  | slnil sz own h => exact .slnil sz own (h.ev e.tok)
  | slz a sz own h => exact .slz a sz own (h.ev e.tok)
  | sl b p cap sz own xs n hn hc ho hs h r ih =>
    refine .sl b p cap sz own xs n hn hc (ho.ev e.tok) hs (fun i x j c hx hj => ?_) (fun i x j c v hx hj hv => ?_)
    · obtain ⟨hi, v, hv⟩ := h i x j c hx hj
      exact ⟨(e.imm _ _ hi).1, v, (e.imm _ _ hi).2.trans hv⟩
    · exact ih i x j c v hx hj ((e.imm _ _ (h i x j c hx hj).1).2.symm.trans hv)
  | aref i b p o n c sz cap h hc hcap hb => exact .aref i b p o n c sz cap (e.loc _ _ h) hc hcap (e.shape _ _ hb)
  | mapnil => exact .mapnil
  | map i b p h => exact .map i b p (e.loc _ _ h)
  | fn f caps vs hn r ih => exact .fn f caps vs hn ih
  | bnd f caps vs hn r ih => exact .bnd f caps vs hn ih
  | nilfn => exact .nilfn
  | agg cs vs hn r ih => exact .agg cs vs hn ih
  | tup cs vs hn r ih => exact .tup cs vs hn ih
  | raw v => exact .raw v
theorem Rel.ev {w w' : World} {μ μ' : Gh} {σ σ' : St} {v : Value} {t : T} (h : Rel w μ σ v t) (e : Ev w μ σ w' μ' σ') : Rel w' μ' σ' v t := h.ev' e.ev0

def CellsIn (w : World) (μ : Gh) (σ : St) (ts : List T) (c : Array Value) (p : Nat) : Prop := ∀ (j : Nat) (t : T) (v : Value), ts[j]? = some t → c[p + j]? = some v → Rel w μ σ v t

/-- What stands in memory of the things that may be written. -/
structure Inv (w : World) (μ : Gh) (σ : St) : Prop where
  obj : ∀ (i : Nat) (ts : List T), (i, .cells ts) ∈ σ.L → ∃ b p c e, μ.loc i = some (b, p) ∧ w.heap[b]? = some (.cells c e (0, 0)) ∧ p + ts.length ≤ c.size ∧ CellsIn w μ σ ts c p
  map : ∀ (i : Nat) (es : List (T × T)), (i, .map es) ∈ σ.L → ∃ b en clock, μ.loc i = some (b, 0) ∧ w.heap[b]? = some (.map en clock) ∧ en.size = es.length ∧
    ∀ (j : Nat) (k u : T) (e : MapEntry), es[j]? = some (k, u) → en[j]? = some e → Rel w μ σ e.key k ∧ Rel w μ σ e.val u
  inj : ∀ (n m i j : Nat) (x y : Ob) (b p q : Nat), σ.L[n]? = some (i, x) → σ.L[m]? = some (j, y) → μ.loc i = some (b, p) → μ.loc j = some (b, q) → n = m
  room : ∀ k, k ∈ σ.R → ∃ b f t, μ.tok k = some (b, f, t) ∧ f ≤ t ∧ (f < t → (∃ c e, w.heap[b]? = some (.cells c e (0, 0)) ∧ t ≤ c.size) ∧ (∀ i ob p, (i, ob) ∈ σ.L → μ.loc i ≠ some (b, p)) ∧ ∀ o, f ≤ o → o < t → ¬ σ.off b o)
  rinj : ∀ (n m k l b f t g u : Nat), σ.R[n]? = some k → σ.R[m]? = some l → μ.tok k = some (b, f, t) → μ.tok l = some (b, g, u) → f < t → g < u → n = m
  fin : ∃ n, (∀ i, n ≤ i → μ.loc i = none ∧ μ.tok i = none) ∧ ∀ m, σ.nx = some m → m = n
  offlt : ∀ b o, σ.off b o → b < w.heap.size
  offobj : ∀ i ob b p, (i, ob) ∈ σ.L → μ.loc i = some (b, p) → ∀ o, ¬ σ.off b o

theorem Inv.lt {w : World} {μ : Gh} {σ : St} (h : Inv w μ σ) {i : Nat} {o : Ob} (hb : (i, o) ∈ σ.L) : ∃ b p, μ.loc i = some (b, p) ∧ b < w.heap.size := by
  cases o with
  | cells ts => obtain ⟨b, p, c, e, h1, h2, _⟩ := h.obj i ts hb; exact ⟨b, p, h1, (Array.getElem?_eq_some_iff.1 h2).1⟩
  | map es => obtain ⟨b, c, e, h1, h2, _⟩ := h.map i es hb; exact ⟨b, 0, h1, (Array.getElem?_eq_some_iff.1 h2).1⟩

theorem beqF {i j : Nat} (h : i ≠ j) : Nat.beq i j = false := by
  cases hb : Nat.beq i j with
  | false => rfl
  | true => exact absurd (Nat.eq_of_beq_eq_true hb) h

/-- What is known of the temporaries. -/
abbrev Env := List (Nat × T)
def get : Env → Nat → Option T
  | [], _ => none
  | (i, t) :: r, j => cond (Nat.beq i j) (some t) (get r j)

structure RelA (w : World) (μ : Gh) (σ : St) (N : Nat) (av : Act) (a : Env) : Prop where
  size : av.tmps.size = N
  defers : av.defers = []
  tmp : ∀ i t, get a i = some t → ∃ v, av.tmps[i]? = some v ∧ Rel w μ σ v t

theorem RelA.ev {w w' : World} {μ μ' : Gh} {σ σ' : St} {N : Nat} {av : Act} {a : Env} (h : RelA w μ σ N av a) (e : Ev w μ σ w' μ' σ') : RelA w' μ' σ' N av a :=
  ⟨h.size, h.defers, fun i t hi => let ⟨v, hv, r⟩ := h.tmp i t hi; ⟨v, hv, r.ev e⟩⟩

def put (a : Env) : Option Tmp → T → Env
  | some d, t => (d, t) :: a
  | none, _ => a

def fitsD (N : Nat) : Option Tmp → Bool
  | some d => Nat.blt d N
  | none => true

theorem RelA.put {w : World} {μ : Gh} {σ : St} {N : Nat} {av : Act} {a : Env} (h : RelA w μ σ N av a) {d : Option Tmp} (hd : fitsD N d = true) {v : Value} {t : T} (r : Rel w μ σ v t) :
    RelA w μ σ N (av.put d v) (put a d t) := by
  cases d with
  | none => exact h
  | some d =>
    have hd' : d < N := by simpa [fitsD, Nat.blt_eq] using hd
    refine ⟨by simp [Act.put, h.size], by simp [Act.put, h.defers], fun i u hi => ?_⟩
    by_cases e : d = i
    · subst e
      have : t = u := by simpa [Ts.put, get] using hi
      subst this
      exact ⟨v, by simp [Act.put, h.size, hd'], r⟩
    · have hb : Nat.beq d i = false := beqF e
      have : get a i = some u := by simpa [Ts.put, get, hb] using hi
      obtain ⟨v', hv', r'⟩ := h.tmp i u this
      exact ⟨v', by simp [Act.put, Array.getElem?_setIfInBounds, e, hv'], r'⟩

/-- The semantic triple of a piece of code. -/
def AW (P : Program) (N : Nat) (c : Code) (Q : Exit → Env → St → Prop) (a : Env) (σ : St) : Prop :=
  ∀ av w μ, Inv w μ σ → RelA w μ σ N av a → c.wp P (fun e av' w' => ∃ a' σ' μ', Ev w μ σ w' μ' σ' ∧ Inv w' μ' σ' ∧ RelA w' μ' σ' N av' a' ∧ Q e a' σ') av w

section
variable {P : Program} {N : Nat} {Q : Exit → Env → St → Prop} {a : Env} {σ : St}

theorem AW.mono {c : Code} {Q' : Exit → Env → St → Prop} (h : AW P N c Q a σ) (k : ∀ e a σ, Q e a σ → Q' e a σ) : AW P N c Q' a σ :=
  fun av w μ hi hr => wp_mono (h av w μ hi hr) fun e av' w' ⟨a', σ', μ', h1, h2, h3, h4⟩ => ⟨a', σ', μ', h1, h2, h3, k _ _ _ h4⟩

theorem aw_skip (h : Q .normal a σ) : AW P N .skip Q a σ := fun av w μ hi hr => wp_skip ⟨a, σ, μ, .refl _ _ _, hi, hr, h⟩
theorem aw_label {l : Nat} (h : Q .normal a σ) : AW P N (.label l) Q a σ := fun av w μ hi hr => wp_label ⟨a, σ, μ, .refl _ _ _, hi, hr, h⟩
theorem aw_exit {id : Nat} (h : Q (.exit id) a σ) : AW P N (.exit id) Q a σ := fun av w μ hi hr => wp_exit ⟨a, σ, μ, .refl _ _ _, hi, hr, h⟩
theorem aw_goto {l : Nat} (h : Q (.goto l) a σ) : AW P N (.goto l) Q a σ := fun av w μ hi hr => wp_goto ⟨a, σ, μ, .refl _ _ _, hi, hr, h⟩
theorem aw_ret (h : Q .ret a σ) : AW P N .ret Q a σ := fun av w μ hi hr => wp_ret ⟨a, σ, μ, .refl _ _ _, hi, hr, h⟩

def thenA (next : Env → St → Prop) (Q : Exit → Env → St → Prop) : Exit → Env → St → Prop
  | .normal, a, σ => next a σ
  | e, a, σ => Q e a σ

theorem aw_seq {x y : Code} (h : AW P N x (thenA (AW P N y Q) Q) a σ) : AW P N (.seq x y) Q a σ := by
  intro av w μ hi hr
  refine wp_seq (wp_mono (h av w μ hi hr) ?_)
  rintro e av' w' ⟨a', σ', μ', h1, h2, h3, h4⟩
  cases e with
  | normal => exact wp_mono (h4 av' w' μ' h2 h3) fun e av2 w2 ⟨a2, σ2, μ2, k1, k2, k3, k4⟩ => ⟨a2, σ2, μ2, h1.trans k1, k2, k3, k4⟩
  | exit id => exact ⟨a', σ', μ', h1, h2, h3, h4⟩
  | goto l => exact ⟨a', σ', μ', h1, h2, h3, h4⟩
  | ret => exact ⟨a', σ', μ', h1, h2, h3, h4⟩
  | panic ch => exact ⟨a', σ', μ', h1, h2, h3, h4⟩
  | outgrown => exact ⟨a', σ', μ', h1, h2, h3, h4⟩

def inBlockA (id : Nat) (Q : Exit → Env → St → Prop) : Exit → Env → St → Prop
  | .exit id', a, σ => cond (Nat.beq id' id) (Q .normal a σ) (Q (.exit id') a σ)
  | e, a, σ => Q e a σ

theorem aw_block {id : Nat} {c : Code} (h : AW P N c (inBlockA id Q) a σ) : AW P N (.block id c) Q a σ := by
  intro av w μ hi hr
  refine wp_block (wp_mono (h av w μ hi hr) ?_)
  rintro e av' w' ⟨a', σ', μ', h1, h2, h3, h4⟩
  cases e with
  | exit id' =>
    by_cases hid : id' = id
    · subst hid
      have : Q .normal a' σ' := by simpa [inBlockA] using h4
      simpa [Exit.inBlock] using ⟨a', σ', μ', h1, h2, h3, this⟩
    · have hb : Nat.beq id' id = false := beqF hid
      have : Q (.exit id') a' σ' := by simpa [inBlockA, hb] using h4
      simpa [Exit.inBlock, hid] using ⟨a', σ', μ', h1, h2, h3, this⟩
  | normal => exact ⟨a', σ', μ', h1, h2, h3, h4⟩
  | goto l => exact ⟨a', σ', μ', h1, h2, h3, h4⟩
  | ret => exact ⟨a', σ', μ', h1, h2, h3, h4⟩
  | panic ch => exact ⟨a', σ', μ', h1, h2, h3, h4⟩
  | outgrown => exact ⟨a', σ', μ', h1, h2, h3, h4⟩

/-- Whatever reads as the one reads as the other too. -/
def Wk (u t : T) : Prop := ∀ w μ σ v, Rel w μ σ v u → Rel w μ σ v t
theorem Wk.refl (t : T) : Wk t t := fun _ _ _ _ h => h
theorem Wk.trans {s t u : T} (h : Wk s t) (k : Wk t u) : Wk s u := fun w μ σ v r => k w μ σ v (h w μ σ v r)
theorem Wk.own (sz : Nat) (own : Own) (xs : List T) : Wk (.sl sz own xs) (.sl sz .no xs) := by
  intro w μ σ v h
  cases h with
  | slnil => exact .slnil _ _ trivial
  | slz a => exact .slz a _ _ trivial
  | sl b p cap sz own xs n hn hc ho hs h r => exact .sl b p cap sz .no xs n hn hc trivial hs h r
theorem Wk.nil (sz : Nat) : Wk .nilsl (.sl sz .no []) := by
  intro w μ σ v h; cases h; exact .slnil _ _ trivial
theorem Wk.nil0 (sz : Nat) : Wk .nilsl (.sl sz .full []) := by
  intro w μ σ v h; cases h; exact .slnil _ _ trivial

/-- What is known in a, of the slots of b, is (or can be read as) what b says. -/
def Knows (a b : Env) : Prop := ∀ i t, get b i = some t → ∃ u, get a i = some u ∧ Wk u t
theorem Knows.nil (a : Env) : Knows a [] := fun i t h => by simp [get] at h
theorem Knows.consW {a b : Env} {i : Nat} {u t : T} (h : get a i = some u) (hw : Wk u t) (k : Knows a b) : Knows a ((i, t) :: b) := by
  intro j s hj
  by_cases e : i = j
  · subst e; simp [get] at hj; subst hj; exact ⟨u, h, hw⟩
  · have hb : Nat.beq i j = false := beqF e
    exact k j s (by simpa [get, hb] using hj)
theorem Knows.cons {a b : Env} {i : Nat} {t : T} (h : get a i = some t) (k : Knows a b) : Knows a ((i, t) :: b) := .consW h (.refl t) k
theorem Knows.refl (a : Env) : Knows a a := fun i t h => ⟨t, h, .refl t⟩
theorem RelA.knows {w : World} {μ : Gh} {σ : St} {av : Act} {b : Env} (h : RelA w μ σ N av a) (k : Knows a b) : RelA w μ σ N av b :=
  ⟨h.size, h.defers, fun i t hi => let ⟨u, hu, hw⟩ := k i t hi; let ⟨v, hv, r⟩ := h.tmp i u hu; ⟨v, hv, hw _ _ _ _ r⟩⟩

theorem aw_forget {c : Code} {b : Env} (k : Knows a b) (h : AW P N c Q b σ) : AW P N c Q a σ :=
  fun av w μ hi hr => h av w μ hi (hr.knows k)

/-- A step of the book-keeping, what is known of the temporaries turned with it. -/
theorem aw_conv {c : Code} {a' : Env} {σ' : St} (g : ∀ w μ av, Inv w μ σ → RelA w μ σ N av a → ∃ μ', Inv w μ' σ' ∧ Ev w μ σ w μ' σ' ∧ RelA w μ' σ' N av a') (h : AW P N c Q a' σ') : AW P N c Q a σ := by
  intro av w μ hi hr
  obtain ⟨μ1, h1, h2, h3⟩ := g w μ av hi hr
  exact wp_mono (h av w μ1 h1 h3) fun e av' w' ⟨a', σ', μ', k1, k2, k3, k4⟩ => ⟨a', σ', μ', h2.trans k1, k2, k3, k4⟩
/-- A step of the book-keeping alone. -/
def GStep (σ σ' : St) : Prop := ∀ w μ, Inv w μ σ → Inv w μ σ' ∧ Ev w μ σ w μ σ'
theorem GStep.refl (σ : St) : GStep σ σ := fun w μ hi => ⟨hi, .refl _ _ _⟩
theorem GStep.trans {σ σ1 σ2 : St} (h : GStep σ σ1) (k : GStep σ1 σ2) : GStep σ σ2 := fun w μ hi => let ⟨h1, h2⟩ := h w μ hi; let ⟨k1, k2⟩ := k w μ h1; ⟨k1, h2.trans k2⟩
theorem aw_ghost {c : Code} {σ' : St} (g : GStep σ σ') (h : AW P N c Q a σ') : AW P N c Q a σ := by
  intro av w μ hi hr
  obtain ⟨h1, h2⟩ := g w μ hi
  exact wp_mono (h av w μ h1 (hr.ev h2)) fun e av' w' ⟨a', σ', μ', k1, k2, k3, k4⟩ => ⟨a', σ', μ', h2.trans k1, k2, k3, k4⟩

/-- A loop: what is known at its head is one of a family; each round comes to one of a smaller measure. -/
theorem aw_loop {c : Code} {X : Type} (E : X → Env) (S : X → St) (m : X → Nat) (x : X) (h0 : Knows a (E x)) (hs : GStep σ (S x))
    (round : ∀ x, AW P N c (thenA (fun a' σ' => ∃ x', m x' < m x ∧ Knows a' (E x') ∧ GStep σ' (S x')) Q) (E x) (S x)) : AW P N (.loop c) Q a σ := by
  refine aw_ghost hs ?_
  intro av w μ hi hr
  refine wp_loop_ghost (fun n av' w' => ∃ x' μ', m x' = n ∧ Ev w μ (S x) w' μ' (S x') ∧ Inv w' μ' (S x') ∧ RelA w' μ' (S x') N av' (E x')) (m x) ⟨x, μ, rfl, .refl _ _ _, hi, hr.knows h0⟩ ?_
  rintro n av1 w1 ⟨x1, μ1, rfl, e1, i1, r1⟩
  refine wp_mono (round x1 av1 w1 μ1 i1 r1) ?_
  rintro e av' w' ⟨a', σ', μ', h1, h2, h3, h4⟩
  cases e with
  | normal =>
    obtain ⟨x2, hlt, hk, hg⟩ := h4
    obtain ⟨g1, g2⟩ := hg w' μ' h2
    exact ⟨m x2, hlt, x2, μ', rfl, (e1.trans h1).trans g2, g1, (h3.ev g2).knows hk⟩
  | exit id => exact ⟨a', σ', μ', e1.trans h1, h2, h3, h4⟩
  | goto l => exact ⟨a', σ', μ', e1.trans h1, h2, h3, h4⟩
  | ret => exact ⟨a', σ', μ', e1.trans h1, h2, h3, h4⟩
  | panic ch => exact ⟨a', σ', μ', e1.trans h1, h2, h3, h4⟩
  | outgrown => exact ⟨a', σ', μ', e1.trans h1, h2, h3, h4⟩

def jumpA (l : Nat) (J : Env → St → Prop) (Q : Exit → Env → St → Prop) : Exit → Env → St → Prop
  | .goto l', a, σ => l' = l ∧ J a σ
  | e, a, σ => Q e a σ
def noGotoA (Q : Exit → Env → St → Prop) : Exit → Env → St → Prop
  | .goto _, _, _ => False
  | e, a, σ => Q e a σ

theorem aw_scope_straight {c : Code} (h : AW P N c (noGotoA Q) a σ) : AW P N (.scope c) Q a σ := by
  intro av w μ hi hr
  refine wp_scope_straight (wp_mono (h av w μ hi hr) ?_)
  rintro e av' w' ⟨a', σ', μ', h1, h2, h3, h4⟩
  cases e with
  | goto l => exact h4
  | normal => exact ⟨a', σ', μ', h1, h2, h3, h4⟩
  | exit id => exact ⟨a', σ', μ', h1, h2, h3, h4⟩
  | ret => exact ⟨a', σ', μ', h1, h2, h3, h4⟩
  | panic ch => exact ⟨a', σ', μ', h1, h2, h3, h4⟩
  | outgrown => exact ⟨a', σ', μ', h1, h2, h3, h4⟩

/-- A scope with one label that is jumped to. -/
theorem aw_scope {c rest : Code} (l : Nat) (hf : findLabel c l = some rest) {X : Type} (E : X → Env) (S : X → St) (m : X → Nat)
    (pass : ∀ x, AW P N rest (jumpA l (fun a' σ' => ∃ x', m x' < m x ∧ Knows a' (E x') ∧ GStep σ' (S x')) Q) (E x) (S x))
    (first : AW P N c (jumpA l (fun a' σ' => ∃ x', Knows a' (E x') ∧ GStep σ' (S x')) Q) a σ) : AW P N (.scope c) Q a σ := by
  intro av w μ hi hr
  refine wp_scope_jumps l (fun av' w' => ∃ n, ∃ x' μ', m x' = n ∧ Ev w μ σ w' μ' (S x') ∧ Inv w' μ' (S x') ∧ RelA w' μ' (S x') N av' (E x'))
    (fun av' w' => leastOf (fun n => ∃ x' μ', m x' = n ∧ Ev w μ σ w' μ' (S x') ∧ Inv w' μ' (S x') ∧ RelA w' μ' (S x') N av' (E x'))) hf ?_ ?_
  · refine wp_mono (first av w μ hi hr) ?_
    rintro e av' w' ⟨a', σ', μ', h1, h2, h3, h4⟩
    cases e with
    | goto l' => obtain ⟨rfl, x, hk, hg⟩ := h4; obtain ⟨g1, g2⟩ := hg w' μ' h2; exact ⟨rfl, m x, x, μ', rfl, h1.trans g2, g1, (h3.ev g2).knows hk⟩
    | normal => exact ⟨a', σ', μ', h1, h2, h3, h4⟩
    | exit id => exact ⟨a', σ', μ', h1, h2, h3, h4⟩
    | ret => exact ⟨a', σ', μ', h1, h2, h3, h4⟩
    | panic ch => exact ⟨a', σ', μ', h1, h2, h3, h4⟩
    | outgrown => exact ⟨a', σ', μ', h1, h2, h3, h4⟩
  · intro av1 w1 hJ
    obtain ⟨x1, μ1, hm, e1, i1, r1⟩ := (leastOf_spec hJ).1
    refine wp_mono (pass x1 av1 w1 μ1 i1 r1) ?_
    rintro e av' w' ⟨a', σ', μ', h1, h2, h3, h4⟩
    cases e with
    | goto l' =>
      obtain ⟨rfl, x2, hlt, hk, hg⟩ := h4
      obtain ⟨g1, g2⟩ := hg w' μ' h2
      have hp : ∃ x' μ', m x' = m x2 ∧ Ev w μ σ w' μ' (S x') ∧ Inv w' μ' (S x') ∧ RelA w' μ' (S x') N av' (E x') := ⟨x2, μ', rfl, (e1.trans h1).trans g2, g1, (h3.ev g2).knows hk⟩
      exact ⟨rfl, ⟨m x2, hp⟩, Nat.lt_of_le_of_lt ((leastOf_spec ⟨m x2, hp⟩).2 _ hp) (hm ▸ hlt)⟩
    | normal => exact ⟨a', σ', μ', e1.trans h1, h2, h3, h4⟩
    | exit id => exact ⟨a', σ', μ', e1.trans h1, h2, h3, h4⟩
    | ret => exact ⟨a', σ', μ', e1.trans h1, h2, h3, h4⟩
    | panic ch => exact ⟨a', σ', μ', e1.trans h1, h2, h3, h4⟩
    | outgrown => exact ⟨a', σ', μ', e1.trans h1, h2, h3, h4⟩

/-- A scope with one label: a pass from the label on may be used where the label is met the first time. -/
theorem aw_scope' {c y : Code} (l : Nat) (hf : findLabel c l = some (.seq .skip y)) {X : Type} (E : X → Env) (S : X → St) (m : X → Nat)
    (pass : ∀ x, AW P N y (jumpA l (fun a' σ' => ∃ x', m x' < m x ∧ Knows a' (E x') ∧ GStep σ' (S x')) Q) (E x) (S x))
    (first : (∀ x, AW P N y (jumpA l (fun a' σ' => ∃ x', Knows a' (E x') ∧ GStep σ' (S x')) Q) (E x) (S x)) → AW P N c (jumpA l (fun a' σ' => ∃ x', Knows a' (E x') ∧ GStep σ' (S x')) Q) a σ) : AW P N (.scope c) Q a σ := by
  refine aw_scope l hf E S m (fun x => aw_seq (aw_skip (pass x))) (first fun x => (pass x).mono ?_)
  intro e a σ h
  cases e with
  | goto l' => obtain ⟨h1, x', _, h2, h3⟩ := h; exact ⟨h1, x', h2, h3⟩
  | _ => exact h

/-- A constant as data. -/
def constC (v : Value) : T :=
  match v with
  | .bool b => .bool b
  | .int k n => .int k n
  | .float k n => .flt k n
  | .complex k m n => .cplx k m n
  | .string s => .str s.data.toList
  | .pointer a => match a with
    | none => .nilp
    | some _ => .raw v
  | .slice a n c => match a, n, c with
    | none, 0, 0 => .nilsl
    | _, _, _ => .raw v
  | .map a => match a with
    | none => .map none
    | some _ => .raw v
  | .nilFunc => .nilfn
  | .tuple cs => match cs with
    | ⟨[]⟩ => .tup []
    | _ => .raw v
  | _ => .raw v
def constT : Value → T
  | .agg cs => .agg (cs.toList.map constC)
  | v => constC v
theorem constC_rel (w : World) (μ : Gh) (σ : St) (v : Value) : Rel w μ σ v (constC v) := by
  unfold constC
  cases v with
  | pointer a => cases a <;> constructor
  | slice a n c =>
    cases a with
    | none => cases n with
      | zero => cases c <;> constructor
      | succ n => constructor
    | some a => constructor
  | map a => cases a <;> constructor
  | tuple cs =>
    obtain ⟨cs⟩ := cs
    cases cs with
    | nil => exact .tup [] #[] rfl fun j c v h1 h2 => by simp at h1
    | cons x xs => constructor
  | _ => constructor
theorem constT_rel (w : World) (μ : Gh) (σ : St) (v : Value) : Rel w μ σ v (constT v) := by
  unfold constT
  split
  · rename_i cs
    refine .agg _ _ (by simp) fun j c v h1 h2 => ?_
    have : cs.toList[j]? = some v := by simpa using h2
    rw [List.getElem?_map, this] at h1
    simp at h1
    subst h1
    exact constC_rel w μ σ v
  · exact constC_rel w μ σ v

def evalO (a : Env) : Operand → Option T
  | .tmp t => get a t
  | .const v => some (constT v)
  | .global _ => none
  | .func f => some (.fn (.func f) [])

theorem evalO_rel {w : World} {μ : Gh} {av : Act} (h : RelA w μ σ N av a) {x : Operand} {t : T} (hx : evalO a x = some t) : Rel w μ σ (av.eval x) t := by
  cases x with
  | tmp i =>
    obtain ⟨v, hv, r⟩ := h.tmp i t hx
    have : av.eval (.tmp i) = v := by simp [Act.eval, hv]
    rw [this]; exact r
  | const v => injection hx with hx; subst hx; exact constT_rel w μ σ v
  | global g => cases hx
  | func f => injection hx with hx; subst hx; exact .fn _ _ _ rfl fun j c v h1 h2 => by simp at h1

theorem aw_cond {c : Operand} {x y : Code} {b : Bool} (hc : evalO a c = some (.bool b)) (h : AW P N (cond b x y) Q a σ) : AW P N (.cond c x y) Q a σ := by
  intro av w μ hi hr
  have hb := evalO_rel hr hc
  generalize hv : av.eval c = v at hb
  cases hb
  cases b
  · exact wp_cond_false hv (h av w μ hi hr)
  · exact wp_cond_true hv (h av w μ hi hr)

/-- The semantic triple of one operation that gives a value (or none). -/
def AOp (P : Program) (N : Nat) (o : Oper) (a : Env) (σ : St) (K : Env → St → Prop) : Prop :=
  ∀ av w μ, Inv w μ σ → RelA w μ σ N av a → ∀ (next : Act → World → Prop) (Qc : Exit → Act → World → Prop),
    (∀ av' w' μ' a' σ', Ev w μ σ w' μ' σ' → Inv w' μ' σ' → RelA w' μ' σ' N av' a' → K a' σ' → next av' w') → o.wp P av w next Qc

def AOps (P : Program) (N : Nat) (ops : Array Oper) (Q : Exit → Env → St → Prop) (l : List Nat) (a : Env) (σ : St) : Prop :=
  ∀ av w μ, Inv w μ σ → RelA w μ σ N av a → ∀ Qc : Exit → Act → World → Prop,
    (∀ e av' w' μ' a' σ', Ev w μ σ w' μ' σ' → Inv w' μ' σ' → RelA w' μ' σ' N av' a' → Q e a' σ' → Qc e av' w') → wpOps P ops Qc l av w

theorem aw_region {id : Nat} {ops : Array Oper} (h : AOps P N ops Q (List.range ops.size) a σ) : AW P N (.region id ops false) Q a σ :=
  fun av w μ hi hr => wp_region (h av w μ hi hr _ fun e av' w' μ' a' σ' h1 h2 h3 h4 => ⟨a', σ', μ', h1, h2, h3, h4⟩)

theorem aops_nil {ops : Array Oper} (h : Q .normal a σ) : AOps P N ops Q [] a σ := fun av w μ hi hr Qc k => k _ _ _ _ a σ (.refl _ _ _) hi hr h

/-- Is the operation carried out? (by what is known of the guard's value) -/
def guardOf (ops : Array Oper) (a : Env) (o : Oper) : Option Bool :=
  match o.guard with
  | none => some true
  | some (j, want) => match (ops[j]?).bind (·.dst) with
    | some d => match get a d with
      | some (.bool b) => some (b == want)
      | some (.tup _) => some false
      | _ => none
    | none => none

theorem wanted_of {w : World} {μ : Gh} {ops : Array Oper} {o : Oper} {av : Act} {b : Bool} (hr : RelA w μ σ N av a) (h : guardOf ops a o = some b) :
    Region.wanted o (yielded ops av.tmps) = b := by
  unfold guardOf at h
  unfold Region.wanted
  split at h
  · rename_i hg; simp [hg]; simpa using h
  · rename_i j want hg
    simp only [hg]
    split at h
    · rename_i d hd
      split at h
      · rename_i b' hb'
        obtain ⟨v, hv, r⟩ := hr.tmp d _ hb'
        cases r
        simp only [yielded, hd, Option.bind_some, hv]
        simpa using h
      · rename_i ts hb'
        obtain ⟨v, hv, r⟩ := hr.tmp d _ hb'
        cases r
        simp only [yielded, hd, Option.bind_some, hv]
        simpa using h
      · cases h
    · cases h

theorem aops_cons {ops : Array Oper} {i : Nat} {rest : List Nat} {o : Oper} (ho : ops[i]? = some o) (hg : guardOf ops a o = some true)
    (h : AOp P N o a σ (fun a' σ' => AOps P N ops Q rest a' σ')) : AOps P N ops Q (i :: rest) a σ := by
  intro av w μ hi hr Qc k
  simp only [wpOps, ho, wanted_of hr hg, if_true]
  refine .inl (h av w μ hi hr _ _ ?_)
  intro av' w' μ' a' σ' h1 h2 h3 h4
  exact h4 av' w' μ' h2 h3 Qc fun e av2 w2 μ2 a2 σ2 k1 k2 k3 k4 => k e av2 w2 μ2 a2 σ2 (h1.trans k1) k2 k3 k4

theorem aops_skip {ops : Array Oper} {i : Nat} {rest : List Nat} {o : Oper} (ho : ops[i]? = some o) (hg : guardOf ops a o = some false) (hd : fitsD N o.dst = true)
    (h : AOps P N ops Q rest (put a o.dst (.tup [])) σ) : AOps P N ops Q (i :: rest) a σ := by
  intro av w μ hi hr Qc k
  simp only [wpOps, ho, wanted_of hr hg, if_false, Bool.false_eq_true]
  exact h _ w μ hi (hr.put hd (.tup [] #[] rfl fun j c v h1 h2 => by simp at h1)) Qc k
end
end Go.Ts
