/- Part of the proof of the law ArenaAll: the texts TsA, TsB, TsC, TsD, TsE, TsF. No conditions. -/
import Derived.ScopeJumps
import Derived.Below
import Derived.Deep.LoopGhost
import Derived.Laws.Cells
import Derived.Laws.Strings
import Derived.Laws.CopyRow
set_option linter.unusedSimpArgs false
set_option linter.unusedVariables false
set_option linter.unusedVariables false
set_option linter.unusedSimpArgs false
namespace Go.Ts

inductive Own where
  | no
  | full
  | tok (k : Nat)
  deriving Inhabited, DecidableEq

inductive T where
  | bool (b : Bool)
  | int (k : IntKind) (n : Int)
  | flt (k : FloatKind) (bits : Nat)
  | cplx (k : FloatKind) (re im : Nat)
  | str (s : List UInt8)
  | nilp
  | ptr (i o : Nat)
  | ro (x : T) (o : Nat)
  | nilsl
  | sl (sz : Nat) (own : Own) (xs : List T)
  | aref (sz i o n : Nat) (cap : Option Nat)
  | map (r : Option Nat)
  | mro (ks us : List T)
  | fn (f : Fn) (caps : List T)
  | bnd (f : Fn) (first : List T)
  | nilfn
  | agg (cs : List T)
  | tup (cs : List T)
  | raw (v : Value)
  deriving Inhabited

def T.cells : T → List T
  | .agg cs => cs
  | t => [t]

inductive Ob where
  | cells (ts : List T)
  | map (es : List (T × T))

structure Gh where
  loc : Nat → Option (Nat × Nat)
  tok : Nat → Option (Nat × Nat × Nat)

structure St where
  L : List (Nat × Ob)
  R : List Nat
  off : Nat → Nat → Prop
  nx : Option Nat

structure Imm (w : World) (μ : Gh) (σ : St) (b o : Nat) : Prop where
  lt : b < w.heap.size
  off : ¬ σ.off b o
  obj : ∀ i ob p, (i, ob) ∈ σ.L → μ.loc i ≠ some (b, p)
  room : ∀ k f t, k ∈ σ.R → μ.tok k = some (b, f, t) → ¬ (f ≤ o ∧ o < t)

def OwnOK (μ : Gh) (own : Own) (b f t : Nat) : Prop :=
  match own with
  | .no => True
  | .full => f = t
  | .tok k => ∃ x, μ.tok k = some x ∧ (x = (b, f, t) ∨ (f = t ∧ x.2.1 = x.2.2))
def OwnNil (μ : Gh) (own : Own) : Prop :=
  match own with
  | .no => True
  | .full => True
  | .tok k => ∃ x, μ.tok k = some x ∧ x.2.1 = x.2.2

def Bound (w : World) (b n : Nat) : Prop := ∃ c e f, w.heap[b]? = some (.cells c e f) ∧ n ≤ c.size

def Born (en : Array MapEntry) (clock : Nat) : Prop := (∀ e, e ∈ en.toList → e.born < clock) ∧ (en.toList.map MapEntry.born).Nodup
inductive Rel (w : World) (μ : Gh) (σ : St) : Value → T → Prop where
  | bool (b : Bool) : Rel w μ σ (.bool b) (.bool b)
  | int (k : IntKind) (n : Int) : Rel w μ σ (.int k n) (.int k n)
  | flt (k : FloatKind) (n : Nat) : Rel w μ σ (.float k n) (.flt k n)
  | cplx (k : FloatKind) (m n : Nat) : Rel w μ σ (.complex k m n) (.cplx k m n)
  | str (s : ByteArray) : Rel w μ σ (.string s) (.str s.data.toList)
  | nilp : Rel w μ σ (.pointer none) .nilp
  | ptr (i b p o : Nat) (h : μ.loc i = some (b, p)) : Rel w μ σ (.pointer (some ⟨b, p + o, none⟩)) (.ptr i o)
  | ro (b p o : Nat) (x : T)
      (h : ∀ (j : Nat) (c : T), x.cells[j]? = some c → Imm w μ σ b (p + j) ∧ ∃ v, w.cell? ⟨b, p + j, none⟩ = some v)
      (r : ∀ (j : Nat) (c : T) (v : Value), x.cells[j]? = some c → w.cell? ⟨b, p + j, none⟩ = some v → Rel w μ σ v c) :
      Rel w μ σ (.pointer (some ⟨b, p + o, none⟩)) (.ro x o)
  | nilsl : Rel w μ σ (.slice none 0 0) .nilsl
  | slnil (sz : Nat) (own : Own) (h : OwnNil μ own) : Rel w μ σ (.slice none 0 0) (.sl sz own [])
  | slz (a : Addr) (sz : Nat) (own : Own) (h : OwnNil μ own) : Rel w μ σ (.slice (some a) 0 0) (.sl sz own [])
  | sl (b p cap sz : Nat) (own : Own) (xs : List T) (n : Nat) (hn : xs.length = n) (hc : n ≤ cap) (ho : OwnOK μ own b (p + n * sz) (p + cap * sz))
      (hs : ∀ (i : Nat) (x : T), xs[i]? = some x → x.cells.length = sz)
      (h : ∀ (i : Nat) (x : T) (j : Nat) (c : T), xs[i]? = some x → x.cells[j]? = some c → Imm w μ σ b (p + i * sz + j) ∧ ∃ v, w.cell? ⟨b, p + i * sz + j, none⟩ = some v)
      (r : ∀ (i : Nat) (x : T) (j : Nat) (c : T) (v : Value), xs[i]? = some x → x.cells[j]? = some c → w.cell? ⟨b, p + i * sz + j, none⟩ = some v → Rel w μ σ v c) :
      Rel w μ σ (.slice (some ⟨b, p, none⟩) n cap) (.sl sz own xs)
  | aref (i b p o n c sz : Nat) (cap : Option Nat) (h : μ.loc i = some (b, p)) (hc : n ≤ c) (hcap : ∀ x, cap = some x → c = x) (hb : Bound w b (p + o + c * sz)) :
      Rel w μ σ (.slice (some ⟨b, p + o, none⟩) n c) (.aref sz i o n cap)
  | mapnil : Rel w μ σ (.map none) (.map none)
  | map (i b p : Nat) (h : μ.loc i = some (b, p)) : Rel w μ σ (.map (some b)) (.map (some i))
  | mro (b : Nat) (ks us : List T) (en : Array MapEntry) (cl : Nat) (h : w.heap[b]? = some (.map en cl)) (hs : en.size = ks.length) (hu : us.length = ks.length) (hb : Born en cl) (hi : ∀ o, Imm w μ σ b o)
      (rk : ∀ (j : Nat) (k : T) (e : MapEntry), ks[j]? = some k → en[j]? = some e → Rel w μ σ e.key k) (rv : ∀ (j : Nat) (u : T) (e : MapEntry), us[j]? = some u → en[j]? = some e → Rel w μ σ e.val u) : Rel w μ σ (.map (some b)) (.mro ks us)
  | fn (f : Fn) (caps : List T) (vs : Array Value) (hn : vs.size = caps.length) (r : ∀ (j : Nat) (c : T) (v : Value), caps[j]? = some c → vs[j]? = some v → Rel w μ σ v c) :
      Rel w μ σ (.func f #[] vs) (.fn f caps)
  | bnd (f : Fn) (cs : List T) (vs : Array Value) (hn : vs.size = cs.length) (r : ∀ (j : Nat) (c : T) (v : Value), cs[j]? = some c → vs[j]? = some v → Rel w μ σ v c) :
      Rel w μ σ (.func f vs #[]) (.bnd f cs)
  | nilfn : Rel w μ σ .nilFunc .nilfn
  | agg (cs : List T) (vs : Array Value) (hn : vs.size = cs.length) (r : ∀ (j : Nat) (c : T) (v : Value), cs[j]? = some c → vs[j]? = some v → Rel w μ σ v c) : Rel w μ σ (.agg vs) (.agg cs)
  | tup (cs : List T) (vs : Array Value) (hn : vs.size = cs.length) (r : ∀ (j : Nat) (c : T) (v : Value), cs[j]? = some c → vs[j]? = some v → Rel w μ σ v c) : Rel w μ σ (.tuple vs) (.tup cs)
  | raw (v : Value) : Rel w μ σ v (.raw v)

def Live (μ : Gh) (σ : St) (b : Nat) : Prop := (∃ i ob p, (i, ob) ∈ σ.L ∧ μ.loc i = some (b, p)) ∨ (∃ k f t, k ∈ σ.R ∧ μ.tok k = some (b, f, t) ∧ f < t)

structure Ev (w : World) (μ : Gh) (σ : St) (w' : World) (μ' : Gh) (σ' : St) : Prop where
  below : Go.RowKit.Below 0 w w'
  loc : ∀ i x, μ.loc i = some x → μ'.loc i = some x
  tok : ∀ i x, μ.tok i = some x → μ'.tok i = some x
  off : σ'.off = σ.off
  shape : ∀ b n, Bound w b n → Bound w' b n
  live : ∀ b, b < w.heap.size → ¬ Live μ σ b → ¬ Live μ' σ' b ∧ w'.heap[b]? = w.heap[b]?
  imm : ∀ b o, Imm w μ σ b o → Imm w' μ' σ' b o ∧ w'.cell? ⟨b, o, none⟩ = w.cell? ⟨b, o, none⟩

theorem Ev.refl (w : World) (μ : Gh) (σ : St) : Ev w μ σ w μ σ := ⟨.refl _ _, fun _ _ h => h, fun _ _ h => h, rfl, fun _ _ h => h, fun _ _ h => ⟨h, rfl⟩, fun _ _ h => ⟨h, rfl⟩⟩
theorem Ev.trans {w w1 w2 : World} {μ μ1 μ2 : Gh} {σ σ1 σ2 : St} (h : Ev w μ σ w1 μ1 σ1) (k : Ev w1 μ1 σ1 w2 μ2 σ2) : Ev w μ σ w2 μ2 σ2 :=
  ⟨h.below.trans k.below, fun i x hx => k.loc i x (h.loc i x hx), fun i x hx => k.tok i x (h.tok i x hx), k.off.trans h.off, fun b n hb => k.shape b n (h.shape b n hb),
    fun b hb hl => let ⟨h1, h2⟩ := h.live b hb hl; let ⟨h3, h4⟩ := k.live b (Nat.lt_of_lt_of_le hb h.below.size) h1; ⟨h3, h4.trans h2⟩,
    fun b o hi => ⟨(k.imm b o (h.imm b o hi).1).1, ((k.imm b o (h.imm b o hi).1).2).trans (h.imm b o hi).2⟩⟩

theorem OwnOK.ev {μ μ' : Gh} (ht : ∀ i x, μ.tok i = some x → μ'.tok i = some x) {own : Own} {b f t : Nat} (h : OwnOK μ own b f t) : OwnOK μ' own b f t := by
  cases own with
  | no => trivial
  | full => exact h
  | tok k => obtain ⟨x, h1, h2⟩ := h; exact ⟨x, ht _ _ h1, h2⟩
theorem OwnNil.ev {μ μ' : Gh} (ht : ∀ i x, μ.tok i = some x → μ'.tok i = some x) {own : Own} (h : OwnNil μ own) : OwnNil μ' own := by
  cases own with
  | no => trivial
  | full => trivial
  | tok k => obtain ⟨x, h1, h2⟩ := h; exact ⟨x, ht _ _ h1, h2⟩

structure Ev0 (w : World) (μ : Gh) (σ : St) (w' : World) (μ' : Gh) (σ' : St) : Prop where
  loc : ∀ i x, μ.loc i = some x → μ'.loc i = some x
  tok : ∀ i x, μ.tok i = some x → μ'.tok i = some x
  shape : ∀ b n, Bound w b n → Bound w' b n
  imm : ∀ b o, Imm w μ σ b o → Imm w' μ' σ' b o ∧ w'.cell? ⟨b, o, none⟩ = w.cell? ⟨b, o, none⟩
  whole : ∀ (b : Nat) (en : Array MapEntry) (cl : Nat), w.heap[b]? = some (.map en cl) → (∀ o, Imm w μ σ b o) → w'.heap[b]? = some (.map en cl)
theorem Ev.ev0 {w w' : World} {μ μ' : Gh} {σ σ' : St} (e : Ev w μ σ w' μ' σ') : Ev0 w μ σ w' μ' σ' := by
  refine ⟨e.loc, e.tok, e.shape, e.imm, fun b en cl h hx => ?_⟩
  rw [(e.live b (hx 0).lt ?_).2]
  · exact h
  · rintro (⟨i, ob, p, h1, h2⟩ | ⟨k, f, t, h1, h2, h3⟩)
    · exact (hx 0).obj i ob p h1 h2
    · exact (hx f).room k f t h1 h2 ⟨Nat.le_refl _, h3⟩

theorem Rel.ev' {w w' : World} {μ μ' : Gh} {σ σ' : St} {v : Value} {t : T} (h : Rel w μ σ v t) (e : Ev0 w μ σ w' μ' σ') : Rel w' μ' σ' v t := by
  induction h with
  | bool b => exact .bool b
  | int k n => exact .int k n
  | flt k n => exact .flt k n
  | cplx k m n => exact .cplx k m n
  | str s => exact .str s
  | nilp => exact .nilp
  | ptr i b p o h => exact .ptr i b p o (e.loc _ _ h)
  | ro b p o x h r ih =>
    refine .ro b p o x (fun j c hj => ?_) (fun j c v hj hv => ?_)
    · obtain ⟨hi, v, hv⟩ := h j c hj
      exact ⟨(e.imm _ _ hi).1, v, (e.imm _ _ hi).2.trans hv⟩
    · exact ih j c v hj ((e.imm _ _ (h j c hj).1).2.symm.trans hv)
  | nilsl => exact .nilsl
  | slnil sz own h => exact .slnil sz own (h.ev e.tok)
  | slz a sz own h => exact .slz a sz own (h.ev e.tok)
  | sl b p cap sz own xs n hn hc ho hs h r ih =>
    refine .sl b p cap sz own xs n hn hc (ho.ev e.tok) hs (fun i x j c hx hj => ?_) (fun i x j c v hx hj hv => ?_)
    · obtain ⟨hi, v, hv⟩ := h i x j c hx hj
      exact ⟨(e.imm _ _ hi).1, v, (e.imm _ _ hi).2.trans hv⟩
    · exact ih i x j c v hx hj ((e.imm _ _ (h i x j c hx hj).1).2.symm.trans hv)
  | aref i b p o n c sz cap h hc hcap hb => exact .aref i b p o n c sz cap (e.loc _ _ h) hc hcap (e.shape _ _ hb)
  | mapnil => exact .mapnil
  | map i b p h => exact .map i b p (e.loc _ _ h)
  | mro b ks us en cl h hs hu hb hi rk rv ihk ihv => exact .mro b ks us en cl (e.whole b en cl h hi) hs hu hb (fun o => (e.imm b o (hi o)).1) ihk ihv
  | fn f caps vs hn r ih => exact .fn f caps vs hn ih
  | bnd f caps vs hn r ih => exact .bnd f caps vs hn ih
  | nilfn => exact .nilfn
  | agg cs vs hn r ih => exact .agg cs vs hn ih
  | tup cs vs hn r ih => exact .tup cs vs hn ih
  | raw v => exact .raw v
theorem Rel.ev {w w' : World} {μ μ' : Gh} {σ σ' : St} {v : Value} {t : T} (h : Rel w μ σ v t) (e : Ev w μ σ w' μ' σ') : Rel w' μ' σ' v t := h.ev' e.ev0

def CellsIn (w : World) (μ : Gh) (σ : St) (ts : List T) (c : Array Value) (p : Nat) : Prop := ∀ (j : Nat) (t : T) (v : Value), ts[j]? = some t → c[p + j]? = some v → Rel w μ σ v t

structure Inv (w : World) (μ : Gh) (σ : St) : Prop where
  obj : ∀ (i : Nat) (ts : List T), (i, .cells ts) ∈ σ.L → ∃ b p c e, μ.loc i = some (b, p) ∧ w.heap[b]? = some (.cells c e (0, 0)) ∧ p + ts.length ≤ c.size ∧ CellsIn w μ σ ts c p
  map : ∀ (i : Nat) (es : List (T × T)), (i, .map es) ∈ σ.L → ∃ b en clock, μ.loc i = some (b, 0) ∧ w.heap[b]? = some (.map en clock) ∧ (en.size = es.length ∧ Born en clock) ∧
    ∀ (j : Nat) (k u : T) (e : MapEntry), es[j]? = some (k, u) → en[j]? = some e → Rel w μ σ e.key k ∧ Rel w μ σ e.val u
  inj : ∀ (n m i j : Nat) (x y : Ob) (b p q : Nat), σ.L[n]? = some (i, x) → σ.L[m]? = some (j, y) → μ.loc i = some (b, p) → μ.loc j = some (b, q) → n = m
  room : ∀ k, k ∈ σ.R → ∃ b f t, μ.tok k = some (b, f, t) ∧ f ≤ t ∧ (f < t → (∃ c e, w.heap[b]? = some (.cells c e (0, 0)) ∧ t ≤ c.size) ∧ (∀ i ob p, (i, ob) ∈ σ.L → μ.loc i ≠ some (b, p)) ∧ ∀ o, f ≤ o → o < t → ¬ σ.off b o)
  rinj : ∀ (n m k l b f t g u : Nat), σ.R[n]? = some k → σ.R[m]? = some l → μ.tok k = some (b, f, t) → μ.tok l = some (b, g, u) → f < t → g < u → n = m
  fin : ∃ n, (∀ i, n ≤ i → μ.loc i = none ∧ μ.tok i = none) ∧ ∀ m, σ.nx = some m → m = n
  offlt : ∀ b o, σ.off b o → b < w.heap.size
  offobj : ∀ i ob b p, (i, ob) ∈ σ.L → μ.loc i = some (b, p) → ∀ o, ¬ σ.off b o

theorem Inv.lt {w : World} {μ : Gh} {σ : St} (h : Inv w μ σ) {i : Nat} {o : Ob} (hb : (i, o) ∈ σ.L) : ∃ b p, μ.loc i = some (b, p) ∧ b < w.heap.size := by
  cases o with
  | cells ts => obtain ⟨b, p, c, e, h1, h2, _⟩ := h.obj i ts hb; exact ⟨b, p, h1, (Array.getElem?_eq_some_iff.1 h2).1⟩
  | map es => obtain ⟨b, c, e, h1, h2, _⟩ := h.map i es hb; exact ⟨b, 0, h1, (Array.getElem?_eq_some_iff.1 h2).1⟩

theorem beqF {i j : Nat} (h : i ≠ j) : Nat.beq i j = false := by
  cases hb : Nat.beq i j with
  | false => rfl
  | true => exact absurd (Nat.eq_of_beq_eq_true hb) h

abbrev Env := List (Nat × T)
def get : Env → Nat → Option T
  | [], _ => none
  | (i, t) :: r, j => cond (Nat.beq i j) (some t) (get r j)

structure RelA (w : World) (μ : Gh) (σ : St) (N : Nat) (av : Act) (a : Env) : Prop where
  size : av.tmps.size = N
  defers : av.defers = []
  tmp : ∀ i t, get a i = some t → ∃ v, av.tmps[i]? = some v ∧ Rel w μ σ v t

theorem RelA.ev {w w' : World} {μ μ' : Gh} {σ σ' : St} {N : Nat} {av : Act} {a : Env} (h : RelA w μ σ N av a) (e : Ev w μ σ w' μ' σ') : RelA w' μ' σ' N av a :=
  ⟨h.size, h.defers, fun i t hi => let ⟨v, hv, r⟩ := h.tmp i t hi; ⟨v, hv, r.ev e⟩⟩

def put (a : Env) : Option Tmp → T → Env
  | some d, t => (d, t) :: a
  | none, _ => a

def Ai (N : Nat) : Option Tmp → Bool
  | some d => Nat.blt d N
  | none => true

theorem RelA.put {w : World} {μ : Gh} {σ : St} {N : Nat} {av : Act} {a : Env} (h : RelA w μ σ N av a) {d : Option Tmp} (hd : Ai N d = true) {v : Value} {t : T} (r : Rel w μ σ v t) :
    RelA w μ σ N (av.put d v) (put a d t) := by
  cases d with
  | none => exact h
  | some d =>
    have hd' : d < N := by simpa [Ai, Nat.blt_eq] using hd
    refine ⟨by simp [Act.put, h.size], by simp [Act.put, h.defers], fun i u hi => ?_⟩
    by_cases e : d = i
    · subst e
      have : t = u := by simpa [Ts.put, get] using hi
      subst this
      exact ⟨v, by simp [Act.put, h.size, hd'], r⟩
    · have hb : Nat.beq d i = false := beqF e
      have : get a i = some u := by simpa [Ts.put, get, hb] using hi
      obtain ⟨v', hv', r'⟩ := h.tmp i u this
      exact ⟨v', by simp [Act.put, Array.getElem?_setIfInBounds, e, hv'], r'⟩

def AW (P : Program) (N : Nat) (c : Code) (Q : Exit → Env → St → Prop) (a : Env) (σ : St) : Prop :=
  ∀ av w μ, Inv w μ σ → RelA w μ σ N av a → c.wp P (fun e av' w' => ∃ a' σ' μ', Ev w μ σ w' μ' σ' ∧ Inv w' μ' σ' ∧ RelA w' μ' σ' N av' a' ∧ Q e a' σ') av w

section
variable {P : Program} {N : Nat} {Q : Exit → Env → St → Prop} {a : Env} {σ : St}

theorem AW.mono {c : Code} {Q' : Exit → Env → St → Prop} (h : AW P N c Q a σ) (k : ∀ e a σ, Q e a σ → Q' e a σ) : AW P N c Q' a σ :=
  fun av w μ hi hr => wp_mono (h av w μ hi hr) fun e av' w' ⟨a', σ', μ', h1, h2, h3, h4⟩ => ⟨a', σ', μ', h1, h2, h3, k _ _ _ h4⟩

theorem aw_skip (h : Q .normal a σ) : AW P N .skip Q a σ := fun av w μ hi hr => wp_skip ⟨a, σ, μ, .refl _ _ _, hi, hr, h⟩
theorem aw_label {l : Nat} (h : Q .normal a σ) : AW P N (.label l) Q a σ := fun av w μ hi hr => wp_label ⟨a, σ, μ, .refl _ _ _, hi, hr, h⟩
theorem Be {id : Nat} (h : Q (.exit id) a σ) : AW P N (.exit id) Q a σ := fun av w μ hi hr => wp_exit ⟨a, σ, μ, .refl _ _ _, hi, hr, h⟩
theorem aw_goto {l : Nat} (h : Q (.goto l) a σ) : AW P N (.goto l) Q a σ := fun av w μ hi hr => wp_goto ⟨a, σ, μ, .refl _ _ _, hi, hr, h⟩
theorem aw_ret (h : Q .ret a σ) : AW P N .ret Q a σ := fun av w μ hi hr => wp_ret ⟨a, σ, μ, .refl _ _ _, hi, hr, h⟩

def A7 (next : Env → St → Prop) (Q : Exit → Env → St → Prop) : Exit → Env → St → Prop
  | .normal, a, σ => next a σ
  | e, a, σ => Q e a σ

theorem aw_seq {x y : Code} (h : AW P N x (A7 (AW P N y Q) Q) a σ) : AW P N (.seq x y) Q a σ := by
  intro av w μ hi hr
  refine wp_seq (wp_mono (h av w μ hi hr) ?_)
  rintro e av' w' ⟨a', σ', μ', h1, h2, h3, h4⟩
  cases e with
  | normal => exact wp_mono (h4 av' w' μ' h2 h3) fun e av2 w2 ⟨a2, σ2, μ2, k1, k2, k3, k4⟩ => ⟨a2, σ2, μ2, h1.trans k1, k2, k3, k4⟩
  | exit id => exact ⟨a', σ', μ', h1, h2, h3, h4⟩
  | goto l => exact ⟨a', σ', μ', h1, h2, h3, h4⟩
  | ret => exact ⟨a', σ', μ', h1, h2, h3, h4⟩
  | panic ch => exact ⟨a', σ', μ', h1, h2, h3, h4⟩
  | outgrown => exact ⟨a', σ', μ', h1, h2, h3, h4⟩

def Am (id : Nat) (Q : Exit → Env → St → Prop) : Exit → Env → St → Prop
  | .exit id', a, σ => cond (Nat.beq id' id) (Q .normal a σ) (Q (.exit id') a σ)
  | e, a, σ => Q e a σ

theorem aw_block {id : Nat} {c : Code} (h : AW P N c (Am id Q) a σ) : AW P N (.block id c) Q a σ := by
  intro av w μ hi hr
  refine wp_block (wp_mono (h av w μ hi hr) ?_)
  rintro e av' w' ⟨a', σ', μ', h1, h2, h3, h4⟩
  cases e with
  | exit id' =>
    by_cases hid : id' = id
    · subst hid
      have : Q .normal a' σ' := by simpa [Am] using h4
      simpa [Exit.inBlock] using ⟨a', σ', μ', h1, h2, h3, this⟩
    · have hb : Nat.beq id' id = false := beqF hid
      have : Q (.exit id') a' σ' := by simpa [Am, hb] using h4
      simpa [Exit.inBlock, hid] using ⟨a', σ', μ', h1, h2, h3, this⟩
  | normal => exact ⟨a', σ', μ', h1, h2, h3, h4⟩
  | goto l => exact ⟨a', σ', μ', h1, h2, h3, h4⟩
  | ret => exact ⟨a', σ', μ', h1, h2, h3, h4⟩
  | panic ch => exact ⟨a', σ', μ', h1, h2, h3, h4⟩
  | outgrown => exact ⟨a', σ', μ', h1, h2, h3, h4⟩

def Wk (u t : T) : Prop := ∀ w μ σ v, Rel w μ σ v u → Rel w μ σ v t
theorem Wk.refl (t : T) : Wk t t := fun _ _ _ _ h => h
theorem Wk.trans {s t u : T} (h : Wk s t) (k : Wk t u) : Wk s u := fun w μ σ v r => k w μ σ v (h w μ σ v r)
theorem Wk.own (sz : Nat) (own : Own) (xs : List T) : Wk (.sl sz own xs) (.sl sz .no xs) := by
  intro w μ σ v h
  cases h with
  | slnil => exact .slnil _ _ trivial
  | slz a => exact .slz a _ _ trivial
  | sl b p cap sz own xs n hn hc ho hs h r => exact .sl b p cap sz .no xs n hn hc trivial hs h r
theorem Wk.nil (sz : Nat) : Wk .nilsl (.sl sz .no []) := by
  intro w μ σ v h; cases h; exact .slnil _ _ trivial
theorem Wk.nil0 (sz : Nat) : Wk .nilsl (.sl sz .full []) := by
  intro w μ σ v h; cases h; exact .slnil _ _ trivial

def Knows (a b : Env) : Prop := ∀ i t, get b i = some t → ∃ u, get a i = some u ∧ Wk u t
theorem Knows.nil (a : Env) : Knows a [] := fun i t h => by simp [get] at h
theorem Knows.consW {a b : Env} {i : Nat} {u t : T} (h : get a i = some u) (hw : Wk u t) (k : Knows a b) : Knows a ((i, t) :: b) := by
  intro j s hj
  by_cases e : i = j
  · subst e; simp [get] at hj; subst hj; exact ⟨u, h, hw⟩
  · have hb : Nat.beq i j = false := beqF e
    exact k j s (by simpa [get, hb] using hj)
theorem Knows.cons {a b : Env} {i : Nat} {t : T} (h : get a i = some t) (k : Knows a b) : Knows a ((i, t) :: b) := .consW h (.refl t) k
theorem Knows.refl (a : Env) : Knows a a := fun i t h => ⟨t, h, .refl t⟩
theorem RelA.knows {w : World} {μ : Gh} {σ : St} {av : Act} {b : Env} (h : RelA w μ σ N av a) (k : Knows a b) : RelA w μ σ N av b :=
  ⟨h.size, h.defers, fun i t hi => let ⟨u, hu, hw⟩ := k i t hi; let ⟨v, hv, r⟩ := h.tmp i u hu; ⟨v, hv, hw _ _ _ _ r⟩⟩

theorem aw_forget {c : Code} {b : Env} (k : Knows a b) (h : AW P N c Q b σ) : AW P N c Q a σ :=
  fun av w μ hi hr => h av w μ hi (hr.knows k)

theorem aw_conv {c : Code} {a' : Env} {σ' : St} (g : ∀ w μ av, Inv w μ σ → RelA w μ σ N av a → ∃ μ', Inv w μ' σ' ∧ Ev w μ σ w μ' σ' ∧ RelA w μ' σ' N av a') (h : AW P N c Q a' σ') : AW P N c Q a σ := by
  intro av w μ hi hr
  obtain ⟨μ1, h1, h2, h3⟩ := g w μ av hi hr
  exact wp_mono (h av w μ1 h1 h3) fun e av' w' ⟨a', σ', μ', k1, k2, k3, k4⟩ => ⟨a', σ', μ', h2.trans k1, k2, k3, k4⟩
def GStep (σ σ' : St) : Prop := ∀ w μ, Inv w μ σ → Inv w μ σ' ∧ Ev w μ σ w μ σ'
theorem GStep.refl (σ : St) : GStep σ σ := fun w μ hi => ⟨hi, .refl _ _ _⟩
theorem GStep.trans {σ σ1 σ2 : St} (h : GStep σ σ1) (k : GStep σ1 σ2) : GStep σ σ2 := fun w μ hi => let ⟨h1, h2⟩ := h w μ hi; let ⟨k1, k2⟩ := k w μ h1; ⟨k1, h2.trans k2⟩
theorem aw_ghost {c : Code} {σ' : St} (g : GStep σ σ') (h : AW P N c Q a σ') : AW P N c Q a σ := by
  intro av w μ hi hr
  obtain ⟨h1, h2⟩ := g w μ hi
  exact wp_mono (h av w μ h1 (hr.ev h2)) fun e av' w' ⟨a', σ', μ', k1, k2, k3, k4⟩ => ⟨a', σ', μ', h2.trans k1, k2, k3, k4⟩

theorem A5 {c : Code} {X : Type} (E : X → Env) (S : X → St) (m : X → Nat) (x : X) (h0 : Knows a (E x)) (hs : GStep σ (S x))
    (round : ∀ x, AW P N c (A7 (fun a' σ' => ∃ x', m x' < m x ∧ Knows a' (E x') ∧ GStep σ' (S x')) Q) (E x) (S x)) : AW P N (.loop c) Q a σ := by
  refine aw_ghost hs ?_
  intro av w μ hi hr
  refine wp_loop_ghost (fun n av' w' => ∃ x' μ', m x' = n ∧ Ev w μ (S x) w' μ' (S x') ∧ Inv w' μ' (S x') ∧ RelA w' μ' (S x') N av' (E x')) (m x) ⟨x, μ, rfl, .refl _ _ _, hi, hr.knows h0⟩ ?_
  rintro n av1 w1 ⟨x1, μ1, rfl, e1, i1, r1⟩
  refine wp_mono (round x1 av1 w1 μ1 i1 r1) ?_
  rintro e av' w' ⟨a', σ', μ', h1, h2, h3, h4⟩
  cases e with
  | normal =>
    obtain ⟨x2, hlt, hk, hg⟩ := h4
    obtain ⟨g1, g2⟩ := hg w' μ' h2
    exact ⟨m x2, hlt, x2, μ', rfl, (e1.trans h1).trans g2, g1, (h3.ev g2).knows hk⟩
  | exit id => exact ⟨a', σ', μ', e1.trans h1, h2, h3, h4⟩
  | goto l => exact ⟨a', σ', μ', e1.trans h1, h2, h3, h4⟩
  | ret => exact ⟨a', σ', μ', e1.trans h1, h2, h3, h4⟩
  | panic ch => exact ⟨a', σ', μ', e1.trans h1, h2, h3, h4⟩
  | outgrown => exact ⟨a', σ', μ', e1.trans h1, h2, h3, h4⟩

def jumpA (l : Nat) (J : Env → St → Prop) (Q : Exit → Env → St → Prop) : Exit → Env → St → Prop
  | .goto l', a, σ => l' = l ∧ J a σ
  | e, a, σ => Q e a σ
def noGotoA (Q : Exit → Env → St → Prop) : Exit → Env → St → Prop
  | .goto _, _, _ => False
  | e, a, σ => Q e a σ

theorem aw_scope {c rest : Code} (l : Nat) (hf : findLabel c l = some rest) {X : Type} (E : X → Env) (S : X → St) (m : X → Nat)
    (pass : ∀ x, AW P N rest (jumpA l (fun a' σ' => ∃ x', m x' < m x ∧ Knows a' (E x') ∧ GStep σ' (S x')) Q) (E x) (S x))
    (first : AW P N c (jumpA l (fun a' σ' => ∃ x', Knows a' (E x') ∧ GStep σ' (S x')) Q) a σ) : AW P N (.scope c) Q a σ := by
  intro av w μ hi hr
  refine wp_scope_jumps l (fun av' w' => ∃ n, ∃ x' μ', m x' = n ∧ Ev w μ σ w' μ' (S x') ∧ Inv w' μ' (S x') ∧ RelA w' μ' (S x') N av' (E x'))
    (fun av' w' => leastOf (fun n => ∃ x' μ', m x' = n ∧ Ev w μ σ w' μ' (S x') ∧ Inv w' μ' (S x') ∧ RelA w' μ' (S x') N av' (E x'))) hf ?_ ?_
  · refine wp_mono (first av w μ hi hr) ?_
    rintro e av' w' ⟨a', σ', μ', h1, h2, h3, h4⟩
    cases e with
    | goto l' => obtain ⟨rfl, x, hk, hg⟩ := h4; obtain ⟨g1, g2⟩ := hg w' μ' h2; exact ⟨rfl, m x, x, μ', rfl, h1.trans g2, g1, (h3.ev g2).knows hk⟩
    | normal => exact ⟨a', σ', μ', h1, h2, h3, h4⟩
    | exit id => exact ⟨a', σ', μ', h1, h2, h3, h4⟩
    | ret => exact ⟨a', σ', μ', h1, h2, h3, h4⟩
    | panic ch => exact ⟨a', σ', μ', h1, h2, h3, h4⟩
    | outgrown => exact ⟨a', σ', μ', h1, h2, h3, h4⟩
  · intro av1 w1 hJ
    obtain ⟨x1, μ1, hm, e1, i1, r1⟩ := (leastOf_spec hJ).1
    refine wp_mono (pass x1 av1 w1 μ1 i1 r1) ?_
    rintro e av' w' ⟨a', σ', μ', h1, h2, h3, h4⟩
    cases e with
    | goto l' =>
      obtain ⟨rfl, x2, hlt, hk, hg⟩ := h4
      obtain ⟨g1, g2⟩ := hg w' μ' h2
      have hp : ∃ x' μ', m x' = m x2 ∧ Ev w μ σ w' μ' (S x') ∧ Inv w' μ' (S x') ∧ RelA w' μ' (S x') N av' (E x') := ⟨x2, μ', rfl, (e1.trans h1).trans g2, g1, (h3.ev g2).knows hk⟩
      exact ⟨rfl, ⟨m x2, hp⟩, Nat.lt_of_le_of_lt ((leastOf_spec ⟨m x2, hp⟩).2 _ hp) (hm ▸ hlt)⟩
    | normal => exact ⟨a', σ', μ', e1.trans h1, h2, h3, h4⟩
    | exit id => exact ⟨a', σ', μ', e1.trans h1, h2, h3, h4⟩
    | ret => exact ⟨a', σ', μ', e1.trans h1, h2, h3, h4⟩
    | panic ch => exact ⟨a', σ', μ', e1.trans h1, h2, h3, h4⟩
    | outgrown => exact ⟨a', σ', μ', e1.trans h1, h2, h3, h4⟩

theorem aw_scope' {c y : Code} (l : Nat) (hf : findLabel c l = some (.seq .skip y)) {X : Type} (E : X → Env) (S : X → St) (m : X → Nat)
    (pass : ∀ x, AW P N y (jumpA l (fun a' σ' => ∃ x', m x' < m x ∧ Knows a' (E x') ∧ GStep σ' (S x')) Q) (E x) (S x))
    (first : (∀ x, AW P N y (jumpA l (fun a' σ' => ∃ x', Knows a' (E x') ∧ GStep σ' (S x')) Q) (E x) (S x)) → AW P N c (jumpA l (fun a' σ' => ∃ x', Knows a' (E x') ∧ GStep σ' (S x')) Q) a σ) : AW P N (.scope c) Q a σ := by
  refine aw_scope l hf E S m (fun x => aw_seq (aw_skip (pass x))) (first fun x => (pass x).mono ?_)
  intro e a σ h
  cases e with
  | goto l' => obtain ⟨h1, x', _, h2, h3⟩ := h; exact ⟨h1, x', h2, h3⟩
  | _ => exact h

def constC (v : Value) : T :=
  match v with
  | .bool b => .bool b
  | .int k n => .int k n
  | .float k n => .flt k n
  | .complex k m n => .cplx k m n
  | .string s => .str s.data.toList
  | .pointer a => match a with
    | none => .nilp
    | some _ => .raw v
  | .slice a n c => match a, n, c with
    | none, 0, 0 => .nilsl
    | _, _, _ => .raw v
  | .map a => match a with
    | none => .map none
    | some _ => .raw v
  | .nilFunc => .nilfn
  | .tuple cs => match cs with
    | ⟨[]⟩ => .tup []
    | _ => .raw v
  | _ => .raw v
def constT : Value → T
  | .agg cs => .agg (cs.toList.map constC)
  | v => constC v
theorem constC_rel (w : World) (μ : Gh) (σ : St) (v : Value) : Rel w μ σ v (constC v) := by
  unfold constC
  cases v with
  | pointer a => cases a <;> constructor
  | slice a n c =>
    cases a with
    | none => cases n with
      | zero => cases c <;> constructor
      | succ n => constructor
    | some a => constructor
  | map a => cases a <;> constructor
  | tuple cs =>
    obtain ⟨cs⟩ := cs
    cases cs with
    | nil => exact .tup [] #[] rfl fun j c v h1 h2 => by simp at h1
    | cons x xs => constructor
  | _ => constructor
theorem constT_rel (w : World) (μ : Gh) (σ : St) (v : Value) : Rel w μ σ v (constT v) := by
  unfold constT
  split
  · rename_i cs
    refine .agg _ _ (by simp) fun j c v h1 h2 => ?_
    have : cs.toList[j]? = some v := by simpa using h2
    rw [List.getElem?_map, this] at h1
    simp at h1
    subst h1
    exact constC_rel w μ σ v
  · exact constC_rel w μ σ v

def Ad (a : Env) : Operand → Option T
  | .tmp t => get a t
  | .const v => some (constT v)
  | .global _ => none
  | .func f => some (.fn (.func f) [])

theorem Al {w : World} {μ : Gh} {av : Act} (h : RelA w μ σ N av a) {x : Operand} {t : T} (hx : Ad a x = some t) : Rel w μ σ (av.eval x) t := by
  cases x with
  | tmp i =>
    obtain ⟨v, hv, r⟩ := h.tmp i t hx
    have : av.eval (.tmp i) = v := by simp [Act.eval, hv]
    rw [this]; exact r
  | const v => injection hx with hx; subst hx; exact constT_rel w μ σ v
  | global g => cases hx
  | func f => injection hx with hx; subst hx; exact .fn _ _ _ rfl fun j c v h1 h2 => by simp at h1

theorem aw_cond {c : Operand} {x y : Code} {b : Bool} (hc : Ad a c = some (.bool b)) (h : AW P N (cond b x y) Q a σ) : AW P N (.cond c x y) Q a σ := by
  intro av w μ hi hr
  have hb := Al hr hc
  generalize hv : av.eval c = v at hb
  cases hb
  cases b
  · exact wp_cond_false hv (h av w μ hi hr)
  · exact wp_cond_true hv (h av w μ hi hr)

def AOp (P : Program) (N : Nat) (o : Oper) (a : Env) (σ : St) (K : Env → St → Prop) : Prop :=
  ∀ av w μ, Inv w μ σ → RelA w μ σ N av a → ∀ (next : Act → World → Prop) (Qc : Exit → Act → World → Prop),
    (∀ av' w' μ' a' σ', Ev w μ σ w' μ' σ' → Inv w' μ' σ' → RelA w' μ' σ' N av' a' → K a' σ' → next av' w') → o.wp P av w next Qc

def AOps (P : Program) (N : Nat) (ops : Array Oper) (Q : Exit → Env → St → Prop) (l : List Nat) (a : Env) (σ : St) : Prop :=
  ∀ av w μ, Inv w μ σ → RelA w μ σ N av a → ∀ Qc : Exit → Act → World → Prop,
    (∀ e av' w' μ' a' σ', Ev w μ σ w' μ' σ' → Inv w' μ' σ' → RelA w' μ' σ' N av' a' → Q e a' σ' → Qc e av' w') → wpOps P ops Qc l av w

theorem aw_region {id : Nat} {ops : Array Oper} (h : AOps P N ops Q (List.range ops.size) a σ) : AW P N (.region id ops false) Q a σ :=
  fun av w μ hi hr => wp_region (h av w μ hi hr _ fun e av' w' μ' a' σ' h1 h2 h3 h4 => ⟨a', σ', μ', h1, h2, h3, h4⟩)

theorem aops_nil {ops : Array Oper} (h : Q .normal a σ) : AOps P N ops Q [] a σ := fun av w μ hi hr Qc k => k _ _ _ _ a σ (.refl _ _ _) hi hr h

def Bb (ops : Array Oper) (a : Env) (o : Oper) : Option Bool :=
  match o.guard with
  | none => some true
  | some (j, want) => match (ops[j]?).bind (·.dst) with
    | some d => match get a d with
      | some (.bool b) => some (b == want)
      | some (.tup _) => some false
      | _ => none
    | none => none

theorem wanted_of {w : World} {μ : Gh} {ops : Array Oper} {o : Oper} {av : Act} {b : Bool} (hr : RelA w μ σ N av a) (h : Bb ops a o = some b) :
    Region.wanted o (yielded ops av.tmps) = b := by
  unfold Bb at h
  unfold Region.wanted
  split at h
  · rename_i hg; simp [hg]; simpa using h
  · rename_i j want hg
    simp only [hg]
    split at h
    · rename_i d hd
      split at h
      · rename_i b' hb'
        obtain ⟨v, hv, r⟩ := hr.tmp d _ hb'
        cases r
        simp only [yielded, hd, Option.bind_some, hv]
        simpa using h
      · rename_i ts hb'
        obtain ⟨v, hv, r⟩ := hr.tmp d _ hb'
        cases r
        simp only [yielded, hd, Option.bind_some, hv]
        simpa using h
      · cases h
    · cases h

theorem aops_cons {ops : Array Oper} {i : Nat} {rest : List Nat} {o : Oper} (ho : ops[i]? = some o) (hg : Bb ops a o = some true)
    (h : AOp P N o a σ (fun a' σ' => AOps P N ops Q rest a' σ')) : AOps P N ops Q (i :: rest) a σ := by
  intro av w μ hi hr Qc k
  simp only [wpOps, ho, wanted_of hr hg, if_true]
  refine .inl (h av w μ hi hr _ _ ?_)
  intro av' w' μ' a' σ' h1 h2 h3 h4
  exact h4 av' w' μ' h2 h3 Qc fun e av2 w2 μ2 a2 σ2 k1 k2 k3 k4 => k e av2 w2 μ2 a2 σ2 (h1.trans k1) k2 k3 k4

theorem aops_skip {ops : Array Oper} {i : Nat} {rest : List Nat} {o : Oper} (ho : ops[i]? = some o) (hg : Bb ops a o = some false) (hd : Ai N o.dst = true)
    (h : AOps P N ops Q rest (put a o.dst (.tup [])) σ) : AOps P N ops Q (i :: rest) a σ := by
  intro av w μ hi hr Qc k
  simp only [wpOps, ho, wanted_of hr hg, if_false, Bool.false_eq_true]
  exact h _ w μ hi (hr.put hd (.tup [] #[] rfl fun j c v h1 h2 => by simp at h1)) Qc k
end
end Go.Ts
set_option linter.unusedVariables false
set_option linter.unusedSimpArgs false
namespace Go.Ts

inductive TD where
  | bool | str
  | int (k : IntKind)
  | flt (k : FloatKind)
  | cplx (k : FloatKind)
  | ptr (e : Nat)
  | slice (e : Nat)
  | arr (n e : Nat)
  | struct (fs : List (Nat × Nat))
  | map (k e : Nat)
  | fn
  | other
  deriving DecidableEq
inductive Z where
  | b | i (k : IntKind) | f (k : FloatKind) | c (k : FloatKind) | s | p | sl | m | fn
  deriving DecidableEq
structure TI where
  d : TD
  size : Nat
  bytes : Nat
  zero : List Z
  deriving DecidableEq

def Z.value : Z → Value
  | .b => .bool false
  | .i k => .int k 0
  | .f k => .float k 0
  | .c k => .complex k 0 0
  | .s => .string ⟨#[]⟩
  | .p => .pointer none
  | .sl => .slice none 0 0
  | .m => .map none
  | .fn => .nilFunc
def Z.tree : Z → T
  | .b => .bool false
  | .i k => .int k 0
  | .f k => .flt k 0
  | .c k => .cplx k 0 0
  | .s => .str []
  | .p => .nilp
  | .sl => .nilsl
  | .m => .map none
  | .fn => .nilfn
theorem Z.rel (w : World) (μ : Gh) (σ : St) (z : Z) : Rel w μ σ z.value z.tree := by
  cases z <;> first | exact .str ⟨#[]⟩ | constructor

def tdOf : TypeDesc → TD
  | .bool => .bool
  | .int k => .int k
  | .float k => .flt k
  | .complex k => .cplx k
  | .string => .str
  | .pointer e => .ptr e
  | .slice e => .slice e
  | .array n e => .arr n e
  | .map k e => .map k e
  | .struct fs => .struct (fs.toList.map fun f => (f.offset, f.type))
  | .func .. => .fn
  | _ => .other
def TD.agg : TD → Bool
  | .arr .. | .struct .. => true
  | _ => false

def fits1 (P : Program) (t : Nat) (i : TI) : Prop :=
  ∃ info d, P.info? t = some info ∧ P.underlying t = some d ∧ tdOf d = i.d ∧ info.size = i.size ∧ info.bytes = i.bytes ∧
    info.zero = some (if i.d.agg then .agg (i.zero.map Z.value).toArray else (i.zero.headD .b).value) ∧ i.zero.length = i.size ∧ (i.d.agg = false → i.size = 1)
def Fits (P : Program) (G : Nat → Option TI) : Prop := ∀ t i, G t = some i → fits1 P t i

def TI.tree (i : TI) : T := if i.d.agg then .agg (i.zero.map Z.tree) else (i.zero.headD .b).tree

def readT (G : Nat → Option TI) (t : Nat) (cs : List T) (o : Nat) : Option T :=
  match G t with
  | none => none
  | some i => cond i.d.agg (cond (Nat.ble (o + i.size) cs.length) (some (.agg ((cs.drop o).take i.size))) none) (cs[o]?)

def sizeT (G : Nat → Option TI) (t : Nat) : Option Nat := (G t).map (·.size)

def byteOfT : T → Option UInt8
  | .int .u8 n => cond (decide (0 ≤ n) && decide (n < 256)) (some (UInt8.ofNat n.toNat)) none
  | _ => none
def bytesOf : List T → Option (List UInt8)
  | [] => some []
  | t :: r => match byteOfT t, bytesOf r with
    | some b, some s => some (b :: s)
    | _, _ => none
def bT (b : UInt8) : T := .int .u8 b.toNat

def isEq : BinOp → Option Bool
  | .eql => some true
  | .neq => some false
  | _ => none
def eqn (op : BinOp) (b : Bool) : Option T :=
  match op with
  | .eql => some (.bool b)
  | .neq => some (.bool (!b))
  | _ => none

def evalInt (op : BinOp) (k : IntKind) (a b : Int) : Option T :=
  match op with
  | .add => some (.int k (k.wrap (a + b)))
  | .sub => some (.int k (k.wrap (a - b)))
  | .mul => some (.int k (k.wrap (a * b)))
  | .quo => cond (b == 0) none (some (.int k (k.wrap (a.tdiv b))))
  | .rem => cond (b == 0) none (some (.int k (a.tmod b)))
  | .and => some (.int k (k.wrap ((BitVec.ofInt k.bits a &&& BitVec.ofInt k.bits b).toNat)))
  | .or => some (.int k (k.wrap ((BitVec.ofInt k.bits a ||| BitVec.ofInt k.bits b).toNat)))
  | .xor => some (.int k (k.wrap ((BitVec.ofInt k.bits a ^^^ BitVec.ofInt k.bits b).toNat)))
  | .andNot => some (.int k (k.wrap ((BitVec.ofInt k.bits a &&& ~~~(BitVec.ofInt k.bits b)).toNat)))
  | .eql => some (.bool (a == b))
  | .neq => some (.bool (a != b))
  | .lss => some (.bool (decide (a < b)))
  | .leq => some (.bool (decide (a ≤ b)))
  | .gtr => some (.bool (decide (b < a)))
  | .geq => some (.bool (decide (b ≤ a)))
  | _ => none

def evalShift (op : BinOp) (k : IntKind) (a b : Int) : Option T :=
  cond (decide (b < 0)) none (match op with
    | .shl => some (.int k (k.wrap (a * 2 ^ (min b.toNat k.bits))))
    | .shr => some (.int k (a.fdiv (2 ^ (min b.toNat k.bits))))
    | _ => none)

def isShift : BinOp → Bool
  | .shl | .shr => true
  | _ => false

def evalStr (op : BinOp) (a b : List UInt8) : Option T :=
  match op with
  | .eql => some (.bool (a == b))
  | .neq => some (.bool (!(a == b)))
  | _ => none

def evalBin (d : TD) (op : BinOp) (x y : T) : Option T :=
  match x, y with
  | .int k a, .int k' b => cond (isShift op) (evalShift op k a b) (cond (decide (k = k')) (evalInt op k a b) none)
  | .str a, .str b => evalStr op a b
  | .bool a, .bool b => match d with
    | .bool => eqn op (a == b)
    | _ => none
  | .nilsl, .nilsl => match d with
    | .slice _ => eqn op true
    | _ => none
  | .sl _ _ (_ :: _), .nilsl => match d with
    | .slice _ => eqn op false
    | _ => none
  | .aref .., .nilsl => match d with
    | .slice _ => eqn op false
    | _ => none
  | .nilp, .nilp => match d with
    | .ptr _ => eqn op true
    | _ => none
  | .ptr _ _, .nilp => match d with
    | .ptr _ => eqn op false
    | _ => none
  | .nilp, .ptr _ _ => match d with
    | .ptr _ => eqn op false
    | _ => none
  | .map none, .map none => match d with
    | .map _ _ => eqn op true
    | _ => none
  | .map (some _), .map none => match d with
    | .map _ _ => eqn op false
    | _ => none
  | _, _ => none

def evalUn (op : UnOp) (x : T) : Option T :=
  match op, x with
  | .neg, .int k n => some (.int k (k.wrap (0 - n)))
  | .not, .bool b => some (.bool (!b))
  | _, _ => none

def fieldOf (G : Nat → Option TI) (s f : Nat) : Option (Nat × Nat) :=
  match G s with
  | some { d := .struct fs, .. } => fs[f]?
  | _ => none

def Av (G : Nat → Option TI) (objs : Nat → Option Ob) (ρ : Operand → Option T) (o : Op) : Option T :=
  match o with
  | .move x | .assign x => ρ x
  | .pick c a b => match ρ c with
    | some (.bool true) => ρ a
    | some (.bool false) => ρ b
    | _ => none
  | .binOp op t x y _ => match ρ x, ρ y with
    | some a, some b => match G t with
      | some i => evalBin i.d op a b
      | none => none
    | _, _ => none
  | .unOp op _ x => match ρ x with
    | some a => evalUn op a
    | none => none
  | .convert src dst x => match ρ x, G src, G dst with
    | some (.int _ n), some _, some { d := .int k, .. } => some (.int k (k.wrap n))
    | some (.str s), some _, some { d := .str, .. } => some (.str s)
    | some (.sl 1 _ xs), some { d := .slice e, .. }, some { d := .str, .. } => match G e with
      | some { d := .int .u8, .. } => (bytesOf xs).map .str
      | _ => none
    | some .nilsl, some { d := .slice e, .. }, some { d := .str, .. } => match G e with
      | some { d := .int .u8, .. } => some (.str [])
      | _ => none
    | some (.aref 1 i o n _), some { d := .slice e, .. }, some { d := .str, .. } => match G e, objs i with
      | some { d := .int .u8, .. }, some (.cells ts) => cond (Nat.ble (o + n) ts.length) ((bytesOf ((ts.drop o).take n)).map .str) none
      | _, _ => none
    | _, _, _ => none
  | .fieldAddr s x f => match fieldOf G s f with
    | some (off, ft) => match sizeT G ft with
      | some (_ + 1) => match ρ x with
        | some (.ptr b o) => some (.ptr b (o + off))
        | some (.ro t o) => some (.ro t (o + off))
        | _ => none
      | _ => none
    | none => none
  | .field s x f => match fieldOf G s f with
    | some (off, ft) => match ρ x with
      | some (.agg cs) => readT G ft cs off
      | _ => none
    | none => none
  | .indexAddr t x i => match ρ i with
    | some (.int _ n) => cond (decide (0 ≤ n)) (match G t with
      | some { d := .slice e, .. } => match ρ x, sizeT G e with
        | some (.sl sz _ xs), some se => cond (Nat.beq sz se) ((xs[n.toNat]?).map (fun x => .ro x 0)) none
        | some (.aref sz b o len _), some se => cond (Nat.beq sz se && decide (n < len)) (some (.ptr b (o + n.toNat * sz))) none
        | _, _ => none
      | some { d := .arr len e, .. } => match ρ x, sizeT G e with
        | some (.ptr b o), some se => cond (decide (n < len)) (some (.ptr b (o + n.toNat * se))) none
        | some (.ro y o), some se => cond (decide (n < len)) (some (.ro y (o + n.toNat * se))) none
        | _, _ => none
      | _ => none) none
    | _ => none
  | .load t x => match ρ x with
    | some (.ro y o) => readT G t y.cells o
    | some (.ptr b o) => match objs b with
      | some (.cells ts) => readT G t ts o
      | _ => none
    | _ => none
  | .extract x i => match ρ x with
    | some (.tup cs) => cs[i]?
    | _ => none
  | .nilCheck x => match ρ x with
    | some (.ptr b o) => some (.ptr b o)
    | some (.ro y o) => some (.ro y o)
    | _ => none
  | .slice t x lo hi none => match G t with
    | some { d := .slice e, .. } => match sizeT G e, ρ x, (lo.map ρ).getD (some (.int .i64 0)) with
      | some se, some (.sl sz own xs), some (.int _ l) =>
        match (hi.map ρ).getD (some (.int .i64 xs.length)) with
        | some (.int _ h) => cond (Nat.beq sz se && decide (0 ≤ l) && decide (l ≤ h) && decide (h ≤ xs.length))
            (some (.sl sz (cond (h == (xs.length : Int)) own .no) ((xs.take h.toNat).drop l.toNat))) none
        | _ => none
      | some se, some (.aref sz b o n cap), some (.int _ l) =>
        match (hi.map ρ).getD (some (.int .i64 n)) with
        | some (.int _ h) => cond (Nat.beq sz se && decide (0 ≤ l) && decide (l ≤ h) && decide (h ≤ (cap.getD n : Nat)))
            (cond (decide (l < h)) (some (.aref sz b (o + l.toNat * sz) (h.toNat - l.toNat) (cap.map fun c => c - l.toNat))) (some (.sl sz .no []))) none
        | _ => none
      | some _, some .nilsl, some (.int _ l) =>
        match (hi.map ρ).getD (some (.int .i64 0)) with
        | some (.int _ h) => cond (decide (l = 0) && decide (h = 0)) (some .nilsl) none
        | _ => none
      | _, _, _ => none
    | _ => none
  | .call { callee := .builtin .len, args, argTypes } => match args.toList, argTypes.toList with
    | [x], [t] => match ρ x, (G t).map TI.d with
      | some (.sl _ _ xs), some (.slice _) => some (.int .i64 xs.length)
      | some .nilsl, some (.slice _) => some (.int .i64 0)
      | some (.aref _ _ _ n _), some (.slice _) => some (.int .i64 n)
      | some (.str s), some .str => some (.int .i64 s.length)
      | _, _ => none
    | _, _ => none
  | .call { callee := .builtin .cap, args, argTypes } => match args.toList, argTypes.toList with
    | [x], [t] => match ρ x, (G t).map TI.d with
      | some .nilsl, some (.slice _) => some (.int .i64 0)
      | some (.aref _ _ _ _ (some c)), some (.slice _) => some (.int .i64 c)
      | _, _ => none
    | _, _ => none
  | .makeFunc fn first captured => match first.toList with
    | [] => (captured.toList.mapM ρ).map (.fn fn)
    | _ => match captured.toList with
      | [] => (first.toList.mapM ρ).map (.bnd fn)
      | _ => none
  | _ => none

section
variable {P : Program} {G : Nat → Option TI} {w : World} {μ : Gh} {σ : St}

theorem Aq (hG : Fits P G) {t : Nat} {i : TI} (h : G t = some i) : ∃ d, (underlying t).run P w = .ok d w ∧ tdOf d = i.d := by
  obtain ⟨info, d, h1, h2, h3, _⟩ := hG t i h
  exact ⟨d, by simp [underlying, h2], h3⟩
theorem g_size (hG : Fits P G) {t : Nat} {i : TI} (h : G t = some i) : (sizeOf t).run P w = .ok i.size w := by
  obtain ⟨info, d, h1, h2, h3, h4, _⟩ := hG t i h
  simp [sizeOf, typeInfo, h1, h4]
theorem g_info (hG : Fits P G) {t : Nat} {i : TI} (h : G t = some i) : ∃ info, (typeInfo t).run P w = .ok info w ∧ info.bytes = i.bytes ∧ info.size = i.size := by
  obtain ⟨info, d, h1, h2, h3, h4, h5, _⟩ := hG t i h
  exact ⟨info, by simp [typeInfo, h1], h5, h4⟩
theorem g_agg (hG : Fits P G) {t : Nat} {i : TI} (h : G t = some i) : (isAgg t).run P w = .ok i.d.agg w := by
  obtain ⟨info, d, h1, h2, h3, h4, _⟩ := hG t i h
  have : (isAgg t).run P w = .ok (tdOf d).agg w := by
    simp only [isAgg, underlying, Sem.run_bind, run_program, Result.andThen_ok, h2]
    cases d <;> simp [tdOf, TD.agg]
  rw [this, h3]
theorem zrel_list (zs : List Z) : ∀ (j : Nat) (c : T) (v : Value), (zs.map Z.tree)[j]? = some c → (zs.map Z.value)[j]? = some v → Rel w μ σ v c := by
  intro j c v h1 h2
  rw [List.getElem?_map] at h1 h2
  cases hz : zs[j]? with
  | none => simp [hz] at h1
  | some z => simp [hz] at h1 h2; subst h1; subst h2; exact Z.rel w μ σ z
theorem g_zero (hG : Fits P G) {t : Nat} {i : TI} (h : G t = some i) : ∃ v, (zeroValue t).run P w = .ok v w ∧ Rel w μ σ v i.tree ∧ v.cells.size = i.size ∧ i.tree.cells.length = i.size := by
  obtain ⟨info, d, h1, h2, h3, h4, h5, h6, h7, h8⟩ := hG t i h
  refine ⟨(if i.d.agg then .agg (i.zero.map Z.value).toArray else (i.zero.headD .b).value), by simp only [zeroValue, typeInfo, Sem.run_bind, run_program, Result.andThen_ok, h1, h6, Sem.run_pure], ?_⟩
  unfold TI.tree
  cases ha : i.d.agg with
  | true => exact ⟨.agg _ _ (by simp) (by simpa using zrel_list i.zero), by simp [Value.cells, h7], by simp [T.cells, h7]⟩
  | false =>
    have h9 := h8 ha
    simp only [Bool.false_eq_true, if_false]
    refine ⟨Z.rel w μ σ _, ?_, ?_⟩ <;> cases i.zero.headD .b <;> simp [Z.value, Z.tree, Value.cells, T.cells, h9]

theorem add_at (b o n : Nat) : (⟨b, o, none⟩ : Addr).add n = ⟨b, o + n, none⟩ := by
  unfold Addr.add; split
  · subst_vars; rfl
  · rfl

def CellsAt (w : World) (μ : Gh) (σ : St) (b p : Nat) (cs : List T) : Prop :=
  ∀ j c, cs[j]? = some c → ∃ v, w.cell? ⟨b, p + j, none⟩ = some v ∧ Rel w μ σ v c

theorem loadCells_rel {b p o n : Nat} {cs : List T} (h : CellsAt w μ σ b p cs) (hn : o + n ≤ cs.length) :
    ∃ vs : Array Value, (loadCells ⟨b, p + o, none⟩ n).run P w = .ok vs w ∧ vs.size = n ∧ ∀ (j : Nat) (c : T) (v : Value), ((cs.drop o).take n)[j]? = some c → vs[j]? = some v → Rel w μ σ v c := by
  have hc : ∀ j, j < n → ∃ v, w.cell? ⟨b, p + o + j, none⟩ = some v ∧ ∀ c, cs[o + j]? = some c → Rel w μ σ v c := by
    intro j hj
    obtain ⟨v, hv, r⟩ := h (o + j) cs[o + j] (List.getElem?_eq_getElem (by omega))
    refine ⟨v, by rw [← Nat.add_assoc] at hv; exact hv, fun c hc => ?_⟩
    rw [List.getElem?_eq_getElem (by omega)] at hc
    injection hc with hc
    exact hc ▸ r
  have := run_loadCells (P := P) w ⟨b, p + o, none⟩ n (fun j => (w.cell? ⟨b, p + o + j, none⟩).getD undef) (fun j hj => by
    rw [add_at]; obtain ⟨v, hv, _⟩ := hc j hj; simp [hv])
  refine ⟨_, this, by simp, fun j c v h1 h2 => ?_⟩
  have hj : j < n := by
    rw [List.getElem?_take] at h1
    split at h1
    · assumption
    · cases h1
  obtain ⟨u, hu, r⟩ := hc j hj
  rw [List.getElem?_take, if_pos hj, List.getElem?_drop] at h1
  simp [hj, hu] at h2
  exact h2 ▸ r c h1

theorem readT_run (hG : Fits P G) {b p o t : Nat} {cs : List T} {x : T} (h : CellsAt w μ σ b p cs) (hx : readT G t cs o = some x) :
    ∃ v, (loadVar t ⟨b, p + o, none⟩).run P w = .ok v w ∧ Rel w μ σ v x := by
  unfold readT at hx
  cases hi : G t with
  | none => simp [hi] at hx
  | some i =>
    simp only [hi] at hx
    simp only [loadVar, Sem.run_bind, g_agg hG hi, Result.andThen_ok]
    cases ha : i.d.agg with
    | true =>
      simp only [ha, cond_true] at hx
      by_cases hb : Nat.ble (o + i.size) cs.length = true
      · simp only [hb, cond_true] at hx
        injection hx with hx; subst hx
        obtain ⟨vs, h1, h2, h3⟩ := loadCells_rel (P := P) h (Nat.le_of_ble_eq_true hb)
        refine ⟨.agg vs, by simp [g_size hG hi, h1], .agg _ _ ?_ h3⟩
        rw [h2, List.length_take, List.length_drop]
        have := Nat.le_of_ble_eq_true hb
        omega
      · rw [Bool.not_eq_true] at hb; simp [hb] at hx
    | false =>
      simp only [ha, cond_false] at hx
      obtain ⟨v, hv, r⟩ := h o x hx
      exact ⟨v, by simp [hv], r⟩

theorem Inv.cells (hi : Inv w μ σ) {i : Nat} {ts : List T} (h : (i, .cells ts) ∈ σ.L) : ∃ b p, μ.loc i = some (b, p) ∧ CellsAt w μ σ b p ts := by
  obtain ⟨b, p, c, e, h0, h1, h2, h3⟩ := hi.obj i ts h
  refine ⟨b, p, h0, fun j t hj => ?_⟩
  have hlt : j < ts.length := by
    rcases Nat.lt_or_ge j ts.length with h | h
    · exact h
    · rw [List.getElem?_eq_none h] at hj; cases hj
  have : c[p + j]? = some c[p + j] := Array.getElem?_eq_getElem (by omega)
  exact ⟨c[p + j], by simp [World.cell?, h1, this], h3 j t _ hj this⟩

def look : List (Nat × Ob) → Nat → Option Ob
  | [], _ => none
  | (i, o) :: L, j => cond (Nat.beq i j) (some o) (look L j)
section
variable {P : Program} {G : Nat → Option TI} {w : World} {μ : Gh} {σ : St}

theorem evalInt_run {op : BinOp} {k : IntKind} {a b : Int} {t : T} (h : evalInt op k a b = some t) (hs : isShift op = false) (xt : TypeId) :
    ∃ v, (binOp op xt (.int k a) (.int k b)).run P w = .ok v w ∧ Rel w μ σ v t := by
  cases op <;> simp only [evalInt, isShift, Bool.true_eq_false, reduceCtorEq] at h hs <;>
    first
    | (injection h with h; subst h; refine ⟨_, by simp only [binOp, Op.intArith, Op.intBits, Op.intCmp, ne_eq, not_true_eq_false, if_false]; rfl, ?_⟩; constructor)
    | (cases hb : (b == 0) with
       | true => simp [hb] at h
       | false =>
         simp only [hb, cond_false] at h
         injection h with h; subst h
         have hb' : ¬ b = 0 := by simpa using hb
         refine ⟨_, by simp only [binOp, Op.intDiv, ne_eq, not_true_eq_false, if_false, if_neg hb']; rfl, ?_⟩; constructor)

theorem evalShift_run {op : BinOp} {k k' : IntKind} {a b : Int} {t : T} (h : evalShift op k a b = some t) (xt : TypeId) :
    ∃ v, (binOp op xt (.int k a) (.int k' b)).run P w = .ok v w ∧ Rel w μ σ v t := by
  unfold evalShift at h
  by_cases hb : b < 0
  · simp [hb] at h
  · simp only [hb, decide_false, cond_false] at h
    cases op <;> simp only [reduceCtorEq] at h <;> (injection h with h; subst h; refine ⟨_, by simp only [binOp, Op.shift, if_neg hb]; rfl, ?_⟩; constructor)

theorem eqn_run {op : BinOp} {b : Bool} {t : T} (h : eqn op b = some t) {xt : TypeId} {x y : Value} (he : (Op.equal xt x y).run P w = .ok b w)
    (hs : ∀ op, op = .eql ∨ op = .neq → binOp op xt x y = (do let r ← Op.equal xt x y; pure (.bool (if op = .eql then r else !r)))) :
    ∃ v, (binOp op xt x y).run P w = .ok v w ∧ Rel w μ σ v t := by
  cases op <;> simp only [eqn, reduceCtorEq] at h <;> injection h with h <;> subst h
  · exact ⟨_, by rw [hs .eql (.inl rfl)]; simp [he], .bool _⟩
  · exact ⟨_, by rw [hs .neq (.inr rfl)]; simp [he], .bool _⟩

theorem equal_unf (xt : TypeId) (x y : Value) : Op.equal xt x y = Op.equalIn (9999 + 1) xt x y := rfl

theorem td_bool {d : TypeDesc} (h : tdOf d = .bool) : d = .bool := by cases d <;> simp [tdOf] at h ⊢
theorem td_int {d : TypeDesc} {k : IntKind} (h : tdOf d = .int k) : d = .int k := by cases d <;> simp [tdOf] at h ⊢; exact h
theorem td_str {d : TypeDesc} (h : tdOf d = .str) : d = .string := by cases d <;> simp [tdOf] at h ⊢
theorem A0 {d : TypeDesc} {e : Nat} (h : tdOf d = .slice e) : d = .slice e := by cases d <;> simp [tdOf] at h ⊢; exact h
theorem td_ptr {d : TypeDesc} {e : Nat} (h : tdOf d = .ptr e) : d = .pointer e := by cases d <;> simp [tdOf] at h ⊢; exact h
theorem td_map {d : TypeDesc} {k e : Nat} (h : tdOf d = .map k e) : d = .map k e := by cases d <;> simp [tdOf] at h ⊢; exact h
theorem td_arr {d : TypeDesc} {k e : Nat} (h : tdOf d = .arr k e) : d = .array k e := by cases d <;> simp [tdOf] at h ⊢; exact h
theorem td_struct {d : TypeDesc} {fs : List (Nat × Nat)} (h : tdOf d = .struct fs) : ∃ f : Array Field, d = .struct f ∧ f.toList.map (fun f => (f.offset, f.type)) = fs := by
  cases d <;> simp [tdOf] at h ⊢; exact h

theorem evalBin_run (hG : Fits P G) {op : BinOp} {x y : Value} {a b t : T} (hx : Rel w μ σ x a) (hy : Rel w μ σ y b) {xt : TypeId} {i : TI} (hi : G xt = some i) (h : evalBin i.d op a b = some t) :
    ∃ v, (binOp op xt x y).run P w = .ok v w ∧ Rel w μ σ v t := by
  obtain ⟨d, hd, hd'⟩ := Aq (w := w) hG hi
  unfold evalBin at h
  split at h
  · cases hx; cases hy
    cases hs : isShift op with
    | true => simp only [hs, cond_true] at h; exact evalShift_run h xt
    | false =>
      simp only [hs, cond_false] at h
      rename_i k a k' b
      by_cases hk : k = k'
      · subst hk
        simp only [decide_true, cond_true] at h
        exact evalInt_run h hs xt
      · simp [hk] at h
  · cases hx; cases hy
    cases op <;> simp only [evalStr, reduceCtorEq] at h <;> injection h with h <;> subst h
    · exact ⟨_, by simp only [binOp, Op.stringOp, ByteArray.toList_eq]; rfl, .bool _⟩
    · exact ⟨_, by simp only [binOp, Op.stringOp, ByteArray.toList_eq]; rfl, .bool _⟩
  all_goals first
    | (split at h
       · rename_i hid
         rw [hid] at hd'
         first
         | obtain rfl := td_bool hd'
         | obtain rfl := A0 hd'
         | obtain rfl := td_ptr hd'
         | obtain rfl := td_map hd'
         cases hx; cases hy
         refine eqn_run h (by rw [equal_unf]; generalize 9999 = n; simp [Op.equalIn, hd]) ?_
         rintro op (rfl | rfl) <;> simp [binOp]
       · cases h)
    | cases h
theorem bytesOf_get : ∀ {xs : List T} {s : List UInt8} {j : Nat} {c : T}, bytesOf xs = some s → xs[j]? = some c → ∃ n, c = .int .u8 n
  | [], s, j, c, h, hc => by simp at hc
  | x :: xs, s, j, c, h, hc => by
    simp only [bytesOf] at h
    split at h
    · rename_i b r hb hr
      cases j with
      | zero =>
        simp at hc; subst hc
        unfold byteOfT at hb
        split at hb
        · exact ⟨_, rfl⟩
        · cases hb
      | succ j => exact bytesOf_get hr (by simpa using hc)
    · cases h

theorem bytes_loop (b p : Nat) : ∀ (cs : Array Value) (l : List T) (s : List UInt8) (acc : ByteArray), bytesOf l = some s → cs.size = l.length →
    (∀ (j : Nat) (c : T) (v : Value), l[j]? = some c → cs[j]? = some v → Rel w μ σ v c) →
    ∃ r : ByteArray, (forIn (m := Sem) cs.toList acc fun c r => do
      let .int .u8 n := c | stuck "bytesToString: byte expected"
      let r := r.push (UInt8.ofNat n.toNat)
      pure (ForInStep.yield r)).run P w = .ok r w ∧ r.data.toList = acc.data.toList ++ s := by
  rintro ⟨cs⟩
  induction cs with
  | nil =>
    intro l s acc hb hn h
    have : l = [] := by simpa using hn.symm
    subst this
    simp [bytesOf] at hb; subst hb
    exact ⟨acc, rfl, by simp⟩
  | cons c cs ih =>
    intro l s acc hb hn h
    cases l with
    | nil => simp at hn
    | cons x l =>
      simp only [bytesOf] at hb
      split at hb
      · rename_i b0 s0 hb0 hs0
        injection hb with hb; subst hb
        have h0 := h 0 x c rfl rfl
        unfold byteOfT at hb0
        split at hb0
        · rename_i n
          cases h0
          obtain ⟨r, h1, h2⟩ := ih l s0 (acc.push (UInt8.ofNat n.toNat)) hs0 (by simpa using hn) (fun j c v h3 h4 => h (j + 1) c v (by simpa using h3) (by simpa using h4))
          refine ⟨r, by simpa using h1, ?_⟩
          rw [h2]
          have : b0 = UInt8.ofNat n.toNat := by
            cases hc : (decide (0 ≤ n) && decide (n < 256)) <;> simp [hc] at hb0
            exact hb0.symm
          subst this
          simp [ByteArray.push]
        · cases hb0
      · cases hb

theorem field_info (hG : Fits P G) {s f off ft : Nat} (h : fieldOf G s f = some (off, ft)) :
    ∃ fs : Array Field, ∃ g : Field, (underlying s).run P w = .ok (.struct fs) w ∧ fs[f]? = some g ∧ g.offset = off ∧ g.type = ft := by
  unfold fieldOf at h
  split at h
  · rename_i fl _ _ _ hs
    obtain ⟨d, h1, h2⟩ := Aq (w := w) hG hs
    obtain ⟨fs, rfl, hf⟩ := td_struct h2
    rw [← hf] at h
    rw [List.getElem?_map, Array.getElem?_toList] at h
    cases hg : fs[f]? with
    | none => simp [hg] at h
    | some g => simp [hg] at h; exact ⟨fs, g, h1, hg, h.1, h.2⟩
  · cases h

theorem sliceBounds_run {n cap : Nat} {lov hiv : Option Value} {l h : Int} (hl : (lov = none ∧ l = 0) ∨ ∃ k, lov = some (.int k l)) (hh : (hiv = none ∧ h = n) ∨ ∃ k, hiv = some (.int k h))
    (h0 : 0 ≤ l) (h1 : l ≤ h) (h2 : h ≤ (cap : Int)) (h3 : n ≤ cap) : (Instr.sliceBounds true n cap lov hiv none).run P w = .ok (l.toNat, h.toNat, cap) w := by
  have hc : 0 ≤ h ∧ h ≤ (cap : Int) := by omega
  have hk : 0 ≤ h := hc.1
  have hc2 : h ≤ (cap : Int) := hc.2
  have hhn : ((h.toNat : Nat) : Int) = h := Int.toNat_of_nonneg hk
  rcases hl with ⟨rfl, rfl⟩ | ⟨k1, rfl⟩ <;> rcases hh with ⟨rfl, rfl⟩ | ⟨k2, rfl⟩
  · simp [Instr.sliceBounds]
  · simp [Instr.sliceBounds, Instr.sliceBound, asIntOf, hk, hc2]
  · have hln : l ≤ (n : Int) := h1
    simp [Instr.sliceBounds, Instr.sliceBound, asIntOf, h0, hln]
  · have hln : l ≤ ((h.toNat : Nat) : Int) := by omega
    simp [Instr.sliceBounds, Instr.sliceBound, asIntOf, h0, hk, hc2, hhn, h1]

theorem mapM_rel (ρ : Operand → Option T) (ρv : Operand → Value) (hr : ∀ x t, ρ x = some t → Rel w μ σ (ρv x) t) :
    ∀ (l : List Operand) (ts : List T), l.mapM ρ = some ts → ts.length = l.length ∧ ∀ (j : Nat) (c : T) (v : Value), ts[j]? = some c → (l.map ρv)[j]? = some v → Rel w μ σ v c
  | [], ts, h => by simp at h; subst h; simp
  | x :: l, ts, h => by
    simp only [List.mapM_cons, Option.pure_def, Option.bind_eq_bind, Option.bind_eq_some_iff] at h
    obtain ⟨t, ht, us, hu, h⟩ := h
    injection h with h; subst h
    obtain ⟨h1, h2⟩ := mapM_rel ρ ρv hr l us hu
    refine ⟨by simp [h1], fun j c v hc hv => ?_⟩
    cases j with
    | zero => simp at hc hv; subst hc; subst hv; exact hr x _ ht
    | succ j => exact h2 j c v (by simpa using hc) (by simpa using hv)

theorem evalOp_run (hG : Fits P G) (hi : Inv w μ σ) {ρ : Operand → Option T} {ρv : Operand → Value} (hr : ∀ x t, ρ x = some t → Rel w μ σ (ρv x) t) {o : Oper} {t : T}
    {objs : Nat → Option Ob} (hob : ∀ i o, objs i = some o → (i, o) ∈ σ.L)
    (h : Av G objs ρ o.op = some t) : ∃ v, (execOp ρv o).run P w = .ok (.value v) w ∧ Rel w μ σ v t := by
  obtain ⟨dst, op, ty, pos, after, guard⟩ := o
  dsimp only at h
  have hbe : ∀ {s : Sem Value}, (∃ v, s.run P w = .ok v w ∧ Rel w μ σ v t) → ∃ v, (do pure (Next.value (← s)) : Sem Next).run P w = .ok (.value v) w ∧ Rel w μ σ v t := by
    rintro s ⟨v, h1, h2⟩; exact ⟨v, by simp [h1], h2⟩
  cases op with
  | move x => exact ⟨ρv x, rfl, hr x t h⟩
  | assign x => exact ⟨ρv x, rfl, hr x t h⟩
  | pick c a b =>
    simp only [Av] at h
    split at h
    · rename_i hc; have := hr c _ hc; generalize hv : ρv c = v at this; cases this
      exact ⟨ρv a, by simp [execOp, hv, asBool], hr a t h⟩
    · rename_i hc; have := hr c _ hc; generalize hv : ρv c = v at this; cases this
      exact ⟨ρv b, by simp [execOp, hv, asBool], hr b t h⟩
    · cases h
  | binOp op xt x y yt =>
    simp only [Av] at h
    split at h
    · rename_i a b ha hb
      split at h
      · rename_i i hi'
        obtain ⟨v, h1, h2⟩ := evalBin_run hG (hr x _ ha) (hr y _ hb) hi' h
        refine ⟨v, ?_, h2⟩
        have hg : (eqGuard op xt x y (ρv x) (ρv y)).run P w = .ok () w := by
          have r1 := hr x _ ha; have r2 := hr y _ hb
          generalize ρv x = vx at *; generalize ρv y = vy at *
          unfold eqGuard
          cases op <;> simp only [Bool.not_true, Bool.not_false, Bool.false_eq_true, if_false, if_true, Sem.run_pure] <;>
            (cases r1 <;> cases r2 <;> first | rfl | (simp [evalBin] at h))
        simp [execOp, hg, h1]
      · cases h
    · cases h
  | unOp op xt x =>
    simp only [Av] at h
    split at h
    · rename_i a ha
      have := hr x _ ha
      refine hbe ?_
      generalize ρv x = vx at *
      unfold evalUn at h
      split at h
      · cases this; injection h with h; subst h
        exact ⟨_, by simp [Op.unary, Op.intArith], .int _ _⟩
      · cases this; injection h with h; subst h
        exact ⟨_, by simp [Op.unary], .bool _⟩
      · cases h
    · cases h
  | convert src dst x =>
    simp only [Av] at h
    split at h
    · rename_i k0 n si k2 z2 z3 z4 hx hs hd
      have := hr x _ hx; refine hbe ?_
      generalize ρv x = vx at *
      cases this
      injection h with h; subst h
      obtain ⟨d1, e1, f1⟩ := Aq (w := w) hG hs
      obtain ⟨d2, e2, f2⟩ := Aq (w := w) hG hd
      obtain rfl := td_int f2
      exact ⟨_, by simp [convert, e1, e2, Conv.intToInt], .int _ _⟩
    · rename_i s0 si z2 z3 z4 hx hs hd
      have := hr x _ hx; refine hbe ?_
      generalize ρv x = vx at *
      cases this
      injection h with h; subst h
      obtain ⟨d1, e1, f1⟩ := Aq (w := w) hG hs
      obtain ⟨d2, e2, f2⟩ := Aq (w := w) hG hd
      obtain rfl := td_str f2
      exact ⟨_, by simp [convert, e1, e2], .str _⟩
    · rename_i own xs e z1 z2 z3 z4 z5 z6 hx hs hd
      split at h
      · rename_i z7 z8 z9 he
        obtain ⟨d1, e1, f1⟩ := Aq (w := w) hG hs
        obtain ⟨d2, e2, f2⟩ := Aq (w := w) hG hd
        obtain ⟨d3, e3, f3⟩ := Aq (w := w) hG he
        obtain rfl := A0 f1
        obtain rfl := td_str f2
        obtain rfl := td_int f3
        have := hr x _ hx; refine hbe ?_
        generalize ρv x = vx at *
        cases hb : bytesOf xs with
        | none => simp [hb] at h
        | some s0 =>
          simp [hb] at h; subst h
          cases this with
          | slnil sz own h0 =>
            simp [bytesOf] at hb; subst hb
            exact ⟨.string .empty, by simp [convert, e1, e2, e3, Conv.bytesToString], .str .empty⟩
          | slz ad sz own h0 =>
            simp [bytesOf] at hb; subst hb
            exact ⟨.string .empty, by simp [convert, e1, e2, e3, Conv.bytesToString, loadCells, loadCellsFrom], .str .empty⟩
          | sl b p cap sz own xs n hn hc ho hsz h0 r0 =>
            have hcells : CellsAt w μ σ b p xs := by
              intro j c hj
              have hc1 : c.cells = [c] := by
                obtain ⟨n, rfl⟩ := bytesOf_get hb hj
                rfl
              obtain ⟨_, v, hv⟩ := h0 j c 0 c hj (by rw [hc1]; rfl)
              simp only [Nat.mul_one, Nat.add_zero] at hv
              exact ⟨v, hv, r0 j c 0 c v hj (by rw [hc1]; rfl) (by simpa using hv)⟩
            obtain ⟨vs, h1, h2, h3⟩ := loadCells_rel (P := P) hcells (o := 0) (n := n) (by omega)
            simp only [List.drop_zero, Nat.add_zero] at h1 h3
            obtain ⟨r, h4, h5⟩ := bytes_loop (P := P) b p vs xs s0 ByteArray.empty hb (by omega) (by
              intro j c v hc hv; exact h3 j c v (by rw [List.getElem?_take]; split; exact hc; rename_i hh; rw [List.getElem?_eq_none (by omega)] at hc; cases hc) hv)
            have h6 : r.data.toList = s0 := by simpa using h5
            subst h6
            refine ⟨.string r, ?_, .str r⟩
            simp [convert, e1, e2, e3, Conv.bytesToString, h1]
            rw [← Array.forIn_toList]
            have hf : ∀ (f g : Value → ByteArray → Sem (ForInStep ByteArray)), f = g → (forIn (m := Sem) vs.toList ByteArray.empty f).run P w = .ok r w → (forIn (m := Sem) vs.toList ByteArray.empty g).run P w = .ok r w := by
              rintro f _ rfl h; exact h
            rw [hf _ _ ?_ h4]
            · rfl
            · funext c s
              cases c with
              | int k n => cases k <;> rfl
              | _ => rfl
      · cases h
    · rename_i e z1 z2 z3 z4 z5 z6 hx hs hd
      split at h
      · rename_i z7 z8 z9 he
        obtain ⟨d1, e1, f1⟩ := Aq (w := w) hG hs
        obtain ⟨d2, e2, f2⟩ := Aq (w := w) hG hd
        obtain ⟨d3, e3, f3⟩ := Aq (w := w) hG he
        obtain rfl := A0 f1
        obtain rfl := td_str f2
        obtain rfl := td_int f3
        have := hr x _ hx; refine hbe ?_
        generalize ρv x = vx at *
        injection h with h; subst h
        cases this
        exact ⟨.string .empty, by simp [convert, e1, e2, e3, Conv.bytesToString], .str .empty⟩
      · cases h
    · rename_i i0 o0 n0 cap0 e z1 z2 z3 z4 z5 z6 hx hs hd
      split at h
      · rename_i z7 z8 z9 ts he hts
        obtain ⟨d1, e1, f1⟩ := Aq (w := w) hG hs
        obtain ⟨d2, e2, f2⟩ := Aq (w := w) hG hd
        obtain ⟨d3, e3, f3⟩ := Aq (w := w) hG he
        obtain rfl := A0 f1
        obtain rfl := td_str f2
        obtain rfl := td_int f3
        obtain ⟨bb, pp, hloc, hcells0⟩ := hi.cells (hob _ _ hts)
        have := hr x _ hx; refine hbe ?_
        generalize ρv x = vx at *
        cases hle : Nat.ble (o0 + n0) ts.length with
        | false => simp [hle] at h
        | true =>
          have hle' := Nat.le_of_ble_eq_true hle
          simp only [hle, cond_true] at h
          cases hb : bytesOf ((ts.drop o0).take n0) with
          | none => simp [hb] at h
          | some s0 =>
            simp [hb] at h; subst h
            cases this with
            | aref i b p o n c sz cap hl hc hcap hbd =>
              rw [hloc] at hl; injection hl with hl; injection hl with hl1 hl2; subst hl1; subst hl2
              obtain ⟨vs, h1, h2, h3⟩ := loadCells_rel (P := P) hcells0 (o := o0) (n := n0) (by omega)
              obtain ⟨r, h4, h5⟩ := bytes_loop (P := P) bb pp vs _ s0 ByteArray.empty hb (by rw [h2]; simp; omega) h3
              have h6 : r.data.toList = s0 := by simpa using h5
              subst h6
              refine ⟨.string r, ?_, .str r⟩
              simp [convert, e1, e2, e3, Conv.bytesToString, h1]
              rw [← Array.forIn_toList]
              have hf : ∀ (f g : Value → ByteArray → Sem (ForInStep ByteArray)), f = g → (forIn (m := Sem) vs.toList ByteArray.empty f).run P w = .ok r w → (forIn (m := Sem) vs.toList ByteArray.empty g).run P w = .ok r w := by
                rintro f _ rfl h; exact h
              rw [hf _ _ ?_ h4]
              · rfl
              · funext c s
                cases c with
                | int k n => cases k <;> rfl
                | _ => rfl
      · cases h
    · cases h
  | fieldAddr s x f =>
    simp only [Av] at h
    split at h
    · rename_i off ft hf
      obtain ⟨fs, g, h1, h2, h3, h4⟩ := field_info (w := w) hG hf
      split at h
      · rename_i n hn
        obtain ⟨i, hi', hi''⟩ : ∃ i, G ft = some i ∧ i.size = n + 1 := by
          unfold sizeT at hn
          cases hg : G ft with
          | none => simp [hg] at hn
          | some i => simp [hg] at hn; exact ⟨i, rfl, hn⟩
        have hsz := g_size (w := w) (P := P) hG hi'
        refine hbe ?_
        split at h
        · rename_i b o hx
          injection h with h; subst h
          have := hr x _ hx; generalize ρv x = vx at *
          cases this with
          | ptr i b p o hl =>
            refine ⟨.pointer (some ⟨b, p + (o + off), none⟩), ?_, .ptr _ _ _ _ hl⟩
            simp [Instr.fieldAt, h1, h2, Instr.sureAddr, fieldPlace, h4, hsz, hi'', h3, add_at, Nat.add_assoc]
        · rename_i y o hx
          injection h with h; subst h
          have := hr x _ hx; generalize ρv x = vx at *
          cases this with
          | ro b p o y h0 r0 =>
            refine ⟨_, ?_, .ro b p (o + off) y h0 r0⟩
            simp [Instr.fieldAt, h1, h2, Instr.sureAddr, fieldPlace, h4, hsz, hi'', h3, add_at, Nat.add_assoc]
        · cases h
      · cases h
    · cases h
  | field s x f =>
    simp only [Av] at h
    split at h
    · rename_i off ft hf
      obtain ⟨fs, g, h1, h2, h3, h4⟩ := field_info (w := w) hG hf
      split at h
      · rename_i cs hx
        have := hr x _ hx; refine hbe ?_
        generalize ρv x = vx at *
        cases this with
        | agg cs vs hn r =>
          unfold readT at h
          cases hg : G ft with
          | none => simp [hg] at h
          | some i =>
            simp only [hg] at h
            have ha := g_agg (w := w) hG hg
            have hsz := g_size (w := w) (P := P) hG hg
            cases hb : i.d.agg with
            | true =>
              simp only [hb, cond_true] at h
              by_cases hle : Nat.ble (off + i.size) cs.length = true
              · simp only [hle, cond_true] at h
                injection h with h; subst h
                have hle' := Nat.le_of_ble_eq_true hle
                refine ⟨.agg (vs.extract off (off + i.size)), by simp [Instr.field, h1, h2, asAgg, part, h4, h3, ha, hb, hsz], .agg _ _ ?_ ?_⟩
                · simp [Array.size_extract, List.length_take, List.length_drop, hn]; omega
                · intro j c v hc hv
                  rw [List.getElem?_take] at hc
                  split at hc
                  · rw [List.getElem?_drop] at hc
                    rw [Array.getElem?_extract] at hv
                    split at hv
                    · exact r _ _ _ hc hv
                    · cases hv
                  · cases hc
              · rw [Bool.not_eq_true] at hle; simp [hle] at h
            | false =>
              simp only [hb, cond_false] at h
              have hlt : off < cs.length := by
                rcases Nat.lt_or_ge off cs.length with h' | h'
                · exact h'
                · rw [List.getElem?_eq_none h'] at h; cases h
              have hv : vs[off]? = some vs[off] := Array.getElem?_eq_getElem (by omega)
              exact ⟨vs[off], by simp [Instr.field, h1, h2, asAgg, part, h4, h3, ha, hb, hv], r _ _ _ h hv⟩
      · cases h
    · cases h
  | load lt x =>
    simp only [Av] at h
    split at h
    · rename_i y o hx
      have := hr x _ hx; refine hbe ?_
      generalize ρv x = vx at *
      cases this with
      | ro b p o y h0 r0 =>
        obtain ⟨v, h1, h2⟩ := readT_run (P := P) hG (b := b) (p := p) (fun j c hj => let ⟨_, v, hv⟩ := h0 j c hj; ⟨v, hv, r0 j c v hj hv⟩) h
        exact ⟨v, by simpa [Instr.loadAt, Instr.sureAddr] using h1, h2⟩
    · rename_i b o hx
      split at h
      · rename_i ts hts
        have := hr x _ hx; refine hbe ?_
        generalize ρv x = vx at *
        cases this with
        | ptr i b p o hl =>
          obtain ⟨bb, pp, hloc, hcells0⟩ := hi.cells (hob _ _ hts)
          rw [hloc] at hl; injection hl with hl; injection hl with hl1 hl2; subst hl1; subst hl2
          obtain ⟨v, h1, h2⟩ := readT_run (P := P) hG hcells0 h
          exact ⟨v, by simpa [Instr.loadAt, Instr.sureAddr] using h1, h2⟩
      · cases h
    · cases h
  | extract x i =>
    simp only [Av] at h
    split at h
    · rename_i cs hx
      have := hr x _ hx; refine hbe ?_
      generalize ρv x = vx at *
      cases this with
      | tup cs vs hn r =>
        have hlt : i < cs.length := by
          rcases Nat.lt_or_ge i cs.length with h' | h'
          · exact h'
          · rw [List.getElem?_eq_none h'] at h; cases h
        have hv : vs[i]? = some vs[i] := Array.getElem?_eq_getElem (by omega)
        exact ⟨vs[i], by simp [Instr.extract, hv], r _ _ _ h hv⟩
    · cases h
  | nilCheck x =>
    simp only [Av] at h
    split at h
    · rename_i b o hx
      injection h with h; subst h
      have := hr x _ hx
      generalize hv : ρv x = vx at this
      have h3 := this
      cases this
      exact ⟨_, by simp [execOp, hv], h3⟩
    · rename_i y o hx
      injection h with h; subst h
      have := hr x _ hx
      generalize hv : ρv x = vx at this
      have h3 := this
      cases this
      exact ⟨_, by simp [execOp, hv], h3⟩
    · cases h
  | indexAddr it x i =>
    simp only [Av] at h
    split at h
    · rename_i ki n hn
      have rn := hr i _ hn
      generalize hvi : ρv i = vi at rn
      cases rn
      by_cases h0 : 0 ≤ n
      · simp only [h0, decide_true, cond_true] at h
        obtain ⟨m, rfl⟩ := Int.eq_ofNat_of_zero_le h0
        simp only [Int.toNat_natCast] at h
        split at h
        · rename_i e z1 z2 z3 ht
          obtain ⟨d1, e1, f1⟩ := Aq (w := w) hG ht
          obtain rfl := A0 f1
          split at h
          · rename_i sz own xs se hx hse
            obtain ⟨ie, he, he'⟩ : ∃ ie, G e = some ie ∧ ie.size = se := by
              unfold sizeT at hse; cases hg : G e with
              | none => simp [hg] at hse
              | some ie => simp [hg] at hse; exact ⟨ie, rfl, hse⟩
            have hsz := g_size (w := w) (P := P) hG he
            cases hb : Nat.beq sz se with
            | false => simp [hb] at h
            | true =>
              have hb' := Nat.eq_of_beq_eq_true hb
              simp only [hb, cond_true] at h
              cases hxm : xs[m]? with
              | none => simp [hxm] at h
              | some y =>
                simp [hxm] at h; subst h
                have rx := hr x _ hx; refine hbe ?_
                generalize ρv x = vx at *
                cases rx with
                | slnil => simp at hxm
                | slz => simp at hxm
                | sl b p cap sz own xs n hn' hc ho hs h1 r1 =>
                  have hlt : m < n := by
                    rcases Nat.lt_or_ge m n with h' | h'
                    · exact h'
                    · rw [List.getElem?_eq_none (by omega)] at hxm; cases hxm
                  refine ⟨.pointer (some ⟨b, p + m * sz, none⟩), ?_, .ro b (p + m * sz) 0 y (fun j c hj => h1 m y j c hxm hj) (fun j c v hj hv => r1 m y j c v hxm hj hv)⟩
                  simp only [Instr.indexAt, hvi, asIntOf, e1, Sem.run_bind, Sem.run_pure, Result.andThen_ok]
                  have hq : (0 : Int) ≤ (m : Int) ∧ (m : Int) < (n : Int) := by omega
                  simp [hq, hlt, hsz, he', hb', add_at]
          · rename_i sz b o len cap0 se hx hse
            obtain ⟨ie, he, he'⟩ : ∃ ie, G e = some ie ∧ ie.size = se := by
              unfold sizeT at hse; cases hg : G e with
              | none => simp [hg] at hse
              | some ie => simp [hg] at hse; exact ⟨ie, rfl, hse⟩
            have hsz := g_size (w := w) (P := P) hG he
            cases hb : (Nat.beq sz se && decide ((m : Int) < (len : Int))) with
            | false => rw [hb] at h; cases h
            | true =>
              simp only [hb, cond_true] at h
              injection h with h; subst h
              simp only [Bool.and_eq_true, decide_eq_true_eq] at hb
              have hb' := Nat.eq_of_beq_eq_true hb.1
              have hlt : m < len := by omega
              have rx := hr x _ hx; refine hbe ?_
              generalize ρv x = vx at *
              cases rx with
              | aref i b p o n c sz cap hl hc hcap hbd =>
                refine ⟨.pointer (some ⟨b, p + (o + m * sz), none⟩), ?_, .ptr _ _ _ _ hl⟩
                simp only [Instr.indexAt, hvi, asIntOf, e1, Sem.run_bind, Sem.run_pure, Result.andThen_ok]
                have hq : (0 : Int) ≤ (m : Int) ∧ (m : Int) < (len : Int) := by omega
                simp [hq, hlt, hsz, he', hb', add_at, Nat.add_assoc]
          · cases h
        · rename_i len e z1 z2 z3 ht
          obtain ⟨d1, e1, f1⟩ := Aq (w := w) hG ht
          obtain rfl := td_arr f1
          split at h
          · rename_i b o se hx hse
            obtain ⟨ie, he, he'⟩ : ∃ ie, G e = some ie ∧ ie.size = se := by
              unfold sizeT at hse; cases hg : G e with
              | none => simp [hg] at hse
              | some ie => simp [hg] at hse; exact ⟨ie, rfl, hse⟩
            have hsz := g_size (w := w) (P := P) hG he
            cases hb : decide ((m : Int) < (len : Int)) with
            | false => rw [hb] at h; cases h
            | true =>
              simp only [hb, cond_true] at h
              injection h with h; subst h
              simp only [decide_eq_true_eq] at hb
              have hlt : m < len := by omega
              have rx := hr x _ hx; refine hbe ?_
              generalize ρv x = vx at *
              cases rx with
              | ptr i b p o hl =>
                refine ⟨.pointer (some ⟨b, p + (o + m * se), none⟩), ?_, .ptr _ _ _ _ hl⟩
                simp only [Instr.indexAt, hvi, asIntOf, e1, Sem.run_bind, Sem.run_pure, Result.andThen_ok]
                simp [hlt, hsz, he', add_at, Instr.sureAddr, e1, Nat.add_assoc]
          · rename_i y o se hx hse
            obtain ⟨ie, he, he'⟩ : ∃ ie, G e = some ie ∧ ie.size = se := by
              unfold sizeT at hse; cases hg : G e with
              | none => simp [hg] at hse
              | some ie => simp [hg] at hse; exact ⟨ie, rfl, hse⟩
            have hsz := g_size (w := w) (P := P) hG he
            cases hb : decide ((m : Int) < (len : Int)) with
            | false => rw [hb] at h; cases h
            | true =>
              simp only [hb, cond_true] at h
              injection h with h; subst h
              simp only [decide_eq_true_eq] at hb
              have hlt : m < len := by omega
              have rx := hr x _ hx; refine hbe ?_
              generalize ρv x = vx at *
              cases rx with
              | ro b p o y h0 r0 =>
                refine ⟨.pointer (some ⟨b, p + (o + m * se), none⟩), ?_, .ro b p (o + m * se) y h0 r0⟩
                simp only [Instr.indexAt, hvi, asIntOf, e1, Sem.run_bind, Sem.run_pure, Result.andThen_ok]
                simp [hlt, hsz, he', add_at, Instr.sureAddr, e1, Nat.add_assoc]
          · cases h
        · cases h
      · simp [h0] at h
    · cases h
  | slice st x lo hi mx =>
    cases mx with
    | some m => simp [Av] at h
    | none =>
      simp only [Av] at h
      split at h
      · rename_i e z1 z2 z3 ht
        obtain ⟨d1, e1, f1⟩ := Aq (w := w) hG ht
        obtain rfl := A0 f1
        have opt : ∀ (x : Option Operand) (d k : IntKind) (m l : Int), (x.map ρ).getD (some (.int d m)) = some (.int k l) → (x.map ρv = none ∧ l = m) ∨ ∃ k', x.map ρv = some (.int k' l) := by
          intro x d k m l hl
          cases x with
          | none => simp at hl; exact .inl ⟨rfl, hl.2.symm⟩
          | some x =>
            simp at hl
            have := hr x _ hl
            generalize hv : ρv x = v at this
            cases this
            exact .inr ⟨k, by simp [hv]⟩
        split at h
        · rename_i se sz own xs k1 l hse hx hl
          obtain ⟨ie, he, he'⟩ : ∃ ie, G e = some ie ∧ ie.size = se := by
            unfold sizeT at hse; cases hg : G e with
            | none => simp [hg] at hse
            | some ie => simp [hg] at hse; exact ⟨ie, rfl, hse⟩
          have hsz := g_size (w := w) (P := P) hG he
          split at h
          · rename_i k2 hh hhv
            cases hb : (Nat.beq sz se && decide (0 ≤ l) && decide (l ≤ hh) && decide (hh ≤ (xs.length : Int))) with
            | false => rw [hb] at h; cases h
            | true =>
              rw [hb] at h
              simp only [cond_true] at h
              injection h with h; subst h
              simp only [Bool.and_eq_true, decide_eq_true_eq] at hb
              obtain ⟨⟨⟨hb1, hb2⟩, hb3⟩, hb4⟩ := hb
              obtain rfl : sz = se := Nat.eq_of_beq_eq_true hb1
              obtain ⟨l, rfl⟩ := Int.eq_ofNat_of_zero_le hb2
              obtain ⟨hh, rfl⟩ := Int.eq_ofNat_of_zero_le (Int.le_trans hb2 hb3)
              have rx := hr x _ hx; refine hbe ?_
              generalize ρv x = vx at *
              simp only [Int.toNat_natCast]
              have hl' := opt lo _ _ _ _ hl
              have hh' := opt hi _ _ _ _ hhv
              cases rx with
              | slnil sz own h0 =>
                have hsb := sliceBounds_run (P := P) (w := w) (n := 0) (cap := 0) hl' hh' (by omega) (by omega) (by simpa using hb4) (by omega)
                simp at hb4
                obtain rfl : hh = 0 := by omega
                obtain rfl : l = 0 := by omega
                refine ⟨.slice none 0 0, ?_, ?_⟩
                · simp [Instr.sliceAt, Instr.slice, e1, hsb, hsz]
                · simp only [List.take_nil, List.drop_nil]
                  refine .slnil _ _ ?_
                  cases (((0 : Nat) : Int) == (([] : List T).length : Int)) with
                  | true => exact h0
                  | false => trivial
              | slz ad sz own h0 =>
                have hsb := sliceBounds_run (P := P) (w := w) (n := 0) (cap := 0) hl' hh' (by omega) (by omega) (by simpa using hb4) (by omega)
                simp at hb4
                obtain rfl : hh = 0 := by omega
                obtain rfl : l = 0 := by omega
                refine ⟨.slice (some ad) 0 0, ?_, ?_⟩
                · simp [Instr.sliceAt, Instr.slice, e1, hsb, hsz]
                · simp only [List.take_nil, List.drop_nil]
                  refine .slz ad _ _ ?_
                  cases (((0 : Nat) : Int) == (([] : List T).length : Int)) with
                  | true => exact h0
                  | false => trivial
              | sl b p cap sz own xs n hn hc ho hs h0 r0 =>
                have hsb := sliceBounds_run (P := P) (w := w) (n := n) (cap := cap) hl' (by rw [hn] at hh'; exact hh') (by omega) (by omega) (by omega) hc
                simp only [Int.toNat_natCast] at hsb
                refine ⟨.slice (some ⟨b, if cap = l then p else p + l * sz, none⟩) (hh - l) (cap - l), ?_, ?_⟩
                · have h9 : (Instr.sliceAt st (.slice (some ⟨b, p, none⟩) n cap) (lo.map ρv) (hi.map ρv) none).run P w = .ok (.slice (if cap = l then some ⟨b, p, none⟩ else some ((⟨b, p, none⟩ : Addr).add (l * sz))) (hh - l) (cap - l)) w := by
                    simp [Instr.sliceAt, Instr.slice, e1, hsb, hsz, he']
                  simp only [Option.map_none]
                  rw [h9]
                  by_cases hcl : cap = l
                  · rw [if_pos hcl, if_pos hcl]
                  · rw [if_neg hcl, if_neg hcl, add_at]
                · have hdrop : ∀ i y, ((xs.take hh).drop l)[i]? = some y → xs[l + i]? = some y ∧ l + i < hh := by
                    intro i y hy
                    rw [List.getElem?_drop, List.getElem?_take] at hy
                    split at hy
                    · exact ⟨hy, by assumption⟩
                    · cases hy
                  have hlen : ((xs.take hh).drop l).length = hh - l := by simp; omega
                  by_cases hcl : cap = l
                  · have h1 : hh = l := by omega
                    have hnil : (xs.take hh).drop l = [] := List.eq_nil_of_length_eq_zero (by omega)
                    simp only [if_pos hcl]
                    refine .sl b p (cap - l) sz _ _ (hh - l) hlen (by omega) ?_ ?_ ?_ ?_
                    · cases hcond : ((hh : Int) == (xs.length : Int)) with
                      | false => trivial
                      | true =>
                        have hn2 : n = cap := by have : (hh : Int) = xs.length := by simpa using hcond
                                                 omega
                        have h9 : p + (hh - l) * sz = p + (cap - l) * sz := by rw [show hh - l = 0 by omega, show cap - l = 0 by omega]
                        cases own with
                        | no => trivial
                        | full => exact h9
                        | tok k =>
                          obtain ⟨x, hx1, hx2⟩ := ho
                          refine ⟨x, hx1, .inr ⟨h9, ?_⟩⟩
                          rcases hx2 with h3 | h3
                          · subst h3; simp [hn2]
                          · exact h3.2
                    · rw [hnil]; intro i y hy; simp at hy
                    · rw [hnil]; intro i y j c hy; simp at hy
                    · rw [hnil]; intro i y j c v hy; simp at hy
                  · simp only [if_neg hcl]
                    have harith : ∀ i, p + l * sz + i * sz = p + (l + i) * sz := by intro i; rw [Nat.add_mul]; omega
                    refine .sl b (p + l * sz) (cap - l) sz _ _ (hh - l) hlen (by omega) ?_ ?_ ?_ ?_
                    · cases hcond : ((hh : Int) == (xs.length : Int)) with
                      | false => trivial
                      | true =>
                        have hn2 : hh = n := by have : (hh : Int) = xs.length := by simpa using hcond
                                                omega
                        have e3 : p + l * sz + (hh - l) * sz = p + n * sz := by rw [harith]; congr 2; omega
                        have e4 : p + l * sz + (cap - l) * sz = p + cap * sz := by rw [harith]; congr 2; omega
                        rw [e3, e4]
                        exact ho
                    · intro i y hy; exact hs _ y (hdrop i y hy).1
                    · intro i y j c hy hj; rw [harith]; exact h0 _ y j c (hdrop i y hy).1 hj
                    · intro i y j c v hy hj hv; rw [harith] at hv; exact r0 _ y j c v (hdrop i y hy).1 hj hv
          · cases h
        · rename_i se sz i0 o n cap0 k1 l hse hx hl
          obtain ⟨ie, he, he'⟩ : ∃ ie, G e = some ie ∧ ie.size = se := by
            unfold sizeT at hse; cases hg : G e with
            | none => simp [hg] at hse
            | some ie => simp [hg] at hse; exact ⟨ie, rfl, hse⟩
          have hsz := g_size (w := w) (P := P) hG he
          split at h
          · rename_i k2 hh hhv
            cases hb : (Nat.beq sz se && decide (0 ≤ l) && decide (l ≤ hh) && decide (hh ≤ ((cap0.getD n : Nat) : Int))) with
            | false => rw [hb] at h; cases h
            | true =>
              rw [hb] at h
              simp only [cond_true] at h
              simp only [Bool.and_eq_true, decide_eq_true_eq] at hb
              obtain ⟨⟨⟨hb1, hb2⟩, hb3⟩, hb4⟩ := hb
              obtain rfl : sz = se := Nat.eq_of_beq_eq_true hb1
              obtain ⟨l, rfl⟩ := Int.eq_ofNat_of_zero_le hb2
              obtain ⟨hh, rfl⟩ := Int.eq_ofNat_of_zero_le (Int.le_trans hb2 hb3)
              have rx := hr x _ hx; refine hbe ?_
              generalize ρv x = vx at *
              simp only [Int.toNat_natCast] at h
              have hl' := opt lo _ _ _ _ hl
              have hh' := opt hi _ _ _ _ hhv
              cases rx with
              | aref i b p o n c sz cap hloc hc hcap hbd =>
                have hhc : hh ≤ c := by
                  cases cap0 with
                  | none => simp at hb4; omega
                  | some x => have := hcap x rfl; simp at hb4; omega
                have hsb := sliceBounds_run (P := P) (w := w) (n := n) (cap := c) hl' hh' (by omega) (by omega) (by omega) hc
                simp only [Int.toNat_natCast] at hsb
                have harith : ∀ i, p + (o + l * sz) + i * sz = p + o + (l + i) * sz := by intro i; rw [Nat.add_mul]; omega
                have h9 : (Instr.sliceAt st (.slice (some ⟨b, p + o, none⟩) n c) (lo.map ρv) (hi.map ρv) none).run P w = .ok (.slice (if c = l then some ⟨b, p + o, none⟩ else some ((⟨b, p + o, none⟩ : Addr).add (l * sz))) (hh - l) (c - l)) w := by
                  simp [Instr.sliceAt, Instr.slice, e1, hsb, hsz, he']
                simp only [Option.map_none]
                by_cases hlt : (l : Int) < (hh : Int)
                · rw [decide_eq_true hlt] at h
                  simp only [cond_true] at h
                  injection h with h; subst h
                  have hcl : ¬ c = l := by omega
                  refine ⟨_, h9, ?_⟩
                  rw [if_neg hcl, add_at, Nat.add_assoc]
                  refine .aref i0 b p (o + l * sz) (hh - l) (c - l) sz _ hloc (by omega) ?_ ?_
                  · intro x hx2
                    cases cap0 with
                    | none => cases hx2
                    | some y => have := hcap y rfl; simp at hx2; omega
                  · rw [harith, show l + (c - l) = c by omega]; exact hbd
                · rw [decide_eq_false hlt] at h
                  simp only [cond_false] at h
                  injection h with h; subst h
                  refine ⟨_, h9, ?_⟩
                  have h0 : hh - l = 0 := by omega
                  rw [h0]
                  have hsl : ∀ b' p', Rel w μ σ (.slice (some ⟨b', p', none⟩) 0 (c - l)) (.sl sz .no []) := fun b' p' =>
                    .sl b' p' (c - l) sz .no [] 0 rfl (by omega) trivial (by intro i y hy; simp at hy) (by intro i y j c hy; simp at hy) (by intro i y j c v hy; simp at hy)
                  by_cases hcl : c = l
                  · rw [if_pos hcl]; exact hsl _ _
                  · rw [if_neg hcl, add_at]; exact hsl _ _
          · cases h
        · rename_i se k1 l hse hx hl
          obtain ⟨ie, he, he'⟩ : ∃ ie, G e = some ie ∧ ie.size = se := by
            unfold sizeT at hse; cases hg : G e with
            | none => simp [hg] at hse
            | some ie => simp [hg] at hse; exact ⟨ie, rfl, hse⟩
          have hsz := g_size (w := w) (P := P) hG he
          split at h
          · rename_i k2 hh hhv
            cases hb : (decide (l = 0) && decide (hh = 0)) with
            | false => rw [hb] at h; cases h
            | true =>
              rw [hb] at h
              simp only [cond_true] at h
              injection h with h; subst h
              simp only [Bool.and_eq_true, decide_eq_true_eq] at hb
              obtain ⟨rfl, rfl⟩ := hb
              have rx := hr x _ hx; refine hbe ?_
              generalize ρv x = vx at *
              have hl' := opt lo _ _ _ _ hl
              have hh' := opt hi _ _ _ _ hhv
              cases rx
              have hsb := sliceBounds_run (P := P) (w := w) (n := 0) (cap := 0) hl' hh' (by omega) (by omega) (by omega) (by omega)
              refine ⟨.slice none 0 0, ?_, .nilsl⟩
              simp [Instr.sliceAt, Instr.slice, e1, hsb, hsz]
          · cases h
        · cases h
      · cases h
  | call c =>
    obtain ⟨callee, args, argTypes⟩ := c
    cases callee with
    | value f => simp [Av] at h
    | invoke r m => simp [Av] at h
    | builtin b =>
      cases b <;> simp only [Av, reduceCtorEq] at h
      case cap =>
        split at h
        · rename_i x t0 ha ht
          have ha' : args = #[x] := by cases args; simp_all
          have ht' : argTypes = #[t0] := by cases argTypes; simp_all
          subst ha'; subst ht'
          split at h
          · rename_i e hx hd
            obtain ⟨i, hi', hi''⟩ : ∃ i, G t0 = some i ∧ i.d = .slice e := by cases hg : G t0 with
              | none => simp [hg] at hd
              | some i => simp [hg] at hd; exact ⟨i, rfl, hd⟩
            obtain ⟨d1, e1, f1⟩ := Aq (w := w) hG hi'
            rw [hi''] at f1
            obtain rfl := A0 f1
            have rx := hr x _ hx
            generalize hv : ρv x = vx at *
            injection h with h; subst h
            cases rx
            exact ⟨_, by simp [execOp, resolve, invoke, builtin, Builtin.cap_, hv, e1, goInt], .int _ _⟩
          · rename_i z1 z2 z3 z4 c0 e hx hd
            obtain ⟨i, hi', hi''⟩ : ∃ i, G t0 = some i ∧ i.d = .slice e := by cases hg : G t0 with
              | none => simp [hg] at hd
              | some i => simp [hg] at hd; exact ⟨i, rfl, hd⟩
            obtain ⟨d1, e1, f1⟩ := Aq (w := w) hG hi'
            rw [hi''] at f1
            obtain rfl := A0 f1
            have rx := hr x _ hx
            generalize hv : ρv x = vx at *
            injection h with h; subst h
            cases rx with
            | aref i b p o n c sz cap hloc hc hcap hbd =>
              have := hcap _ rfl
              subst this
              exact ⟨.int .i64 c, by simp [execOp, resolve, invoke, builtin, Builtin.cap_, hv, e1, goInt], .int _ _⟩
          · cases h
        · cases h
      split at h
      · rename_i x t0 ha ht
        have ha' : args = #[x] := by cases args; simp_all
        have ht' : argTypes = #[t0] := by cases argTypes; simp_all
        subst ha'; subst ht'
        split at h
        · rename_i sz own xs e hx hd
          obtain ⟨i, hi', hi''⟩ : ∃ i, G t0 = some i ∧ i.d = .slice e := by cases hg : G t0 with
            | none => simp [hg] at hd
            | some i => simp [hg] at hd; exact ⟨i, rfl, hd⟩
          obtain ⟨d1, e1, f1⟩ := Aq (w := w) hG hi'
          rw [hi''] at f1
          obtain rfl := A0 f1
          have rx := hr x _ hx
          generalize hv : ρv x = vx at *
          injection h with h; subst h
          cases rx with
          | slnil => exact ⟨_, by simp [execOp, resolve, invoke, builtin, Builtin.len_, hv, e1, goInt], .int _ _⟩
          | slz => exact ⟨_, by simp [execOp, resolve, invoke, builtin, Builtin.len_, hv, e1, goInt], .int _ _⟩
          | sl b p cap sz own xs n hn => subst hn; exact ⟨_, by simp [execOp, resolve, invoke, builtin, Builtin.len_, hv, e1, goInt], .int _ _⟩
        · rename_i e hx hd
          obtain ⟨i, hi', hi''⟩ : ∃ i, G t0 = some i ∧ i.d = .slice e := by cases hg : G t0 with
            | none => simp [hg] at hd
            | some i => simp [hg] at hd; exact ⟨i, rfl, hd⟩
          obtain ⟨d1, e1, f1⟩ := Aq (w := w) hG hi'
          rw [hi''] at f1
          obtain rfl := A0 f1
          have rx := hr x _ hx
          generalize hv : ρv x = vx at *
          injection h with h; subst h
          cases rx
          exact ⟨_, by simp [execOp, resolve, invoke, builtin, Builtin.len_, hv, e1, goInt], .int _ _⟩
        · rename_i sz b o n cap0 e hx hd
          obtain ⟨i, hi', hi''⟩ : ∃ i, G t0 = some i ∧ i.d = .slice e := by cases hg : G t0 with
            | none => simp [hg] at hd
            | some i => simp [hg] at hd; exact ⟨i, rfl, hd⟩
          obtain ⟨d1, e1, f1⟩ := Aq (w := w) hG hi'
          rw [hi''] at f1
          obtain rfl := A0 f1
          have rx := hr x _ hx
          generalize hv : ρv x = vx at *
          injection h with h; subst h
          cases rx
          exact ⟨_, by simp [execOp, resolve, invoke, builtin, Builtin.len_, hv, e1, goInt], .int _ _⟩
        · rename_i s0 hx hd
          obtain ⟨i, hi', hi''⟩ : ∃ i, G t0 = some i ∧ i.d = .str := by cases hg : G t0 with
            | none => simp [hg] at hd
            | some i => simp [hg] at hd; exact ⟨i, rfl, hd⟩
          obtain ⟨d1, e1, f1⟩ := Aq (w := w) hG hi'
          rw [hi''] at f1
          obtain rfl := td_str f1
          have rx := hr x _ hx
          generalize hv : ρv x = vx at *
          injection h with h; subst h
          cases rx with
          | str s0 => exact ⟨_, by simp [execOp, resolve, invoke, builtin, Builtin.len_, hv, e1, goInt], .int _ _⟩
        · cases h
      · cases h
  | makeFunc fn first captured =>
    simp only [Av] at h
    split at h
    · rename_i hf
      have hf' : first = #[] := by cases first; simp_all
      subst hf'
      cases hm : captured.toList.mapM ρ with
      | none => rw [hm] at h; simp at h
      | some ts =>
        rw [hm] at h; simp at h; subst h
        obtain ⟨h1, h2⟩ := mapM_rel ρ ρv hr _ _ hm
        refine hbe ⟨.func fn #[] (captured.map ρv), by simp [Instr.makeFunc], .fn _ _ _ ?_ ?_⟩
        · simp [h1]
        · intro j c v hc hv
          exact h2 j c v hc (by simpa using hv)
    · split at h
      · rename_i hf
        have hf' : captured = #[] := by cases captured; simp_all
        subst hf'
        cases hm : first.toList.mapM ρ with
        | none => rw [hm] at h; simp at h
        | some ts =>
          rw [hm] at h; simp at h; subst h
          obtain ⟨h1, h2⟩ := mapM_rel ρ ρv hr _ _ hm
          refine hbe ⟨.func fn (first.map ρv) #[], by simp [Instr.makeFunc], .bnd _ _ _ ?_ ?_⟩
          · simp [h1]
          · intro j c v hc hv
            exact h2 j c v hc (by simpa using hv)
      · cases h
  | _ => simp [Av] at h
end
end
end Go.Ts
set_option linter.unusedVariables false
set_option linter.unusedSimpArgs false
namespace Go.Ts

def Gh.addL (μ : Gh) (i : Nat) (x : Nat × Nat) : Gh := { μ with loc := fun j => if j = i then some x else μ.loc j }
def Gh.addT (μ : Gh) (i : Nat) (x : Nat × Nat × Nat) : Gh := { μ with tok := fun j => if j = i then some x else μ.tok j }
def St.new (σ : St) (i : Nat) (o : Ob) : St := { σ with L := (i, o) :: σ.L, nx := σ.nx.map fun _ => i + 1 }
def St.newT (σ : St) (k : Nat) : St := { σ with R := k :: σ.R, nx := σ.nx.map fun _ => k + 1 }
def St.set (σ : St) (n : Nat) (i : Nat) (o : Ob) : St := { σ with L := σ.L.set n (i, o) }
def St.setT (σ : St) (n : Nat) (k : Nat) : St := { σ with R := σ.R.set n k, nx := σ.nx.map fun _ => k + 1 }

section
variable {P : Program} {G : Nat → Option TI} {w w1 : World} {μ μ1 : Gh} {σ σ1 : St} {N : Nat} {a : Env} {Q : Exit → Env → St → Prop}

theorem A6 (i : Nat) (x : Nat × Nat) : (μ.addL i x).loc i = some x := by simp [Gh.addL]
theorem addL_ne {i j : Nat} (x : Nat × Nat) (h : j ≠ i) : (μ.addL i x).loc j = μ.loc j := by simp [Gh.addL, h]
theorem addL_mono {i : Nat} {x : Nat × Nat} (h : μ.loc i = none) : ∀ j y, μ.loc j = some y → (μ.addL i x).loc j = some y := by
  intro j y hy
  have : j ≠ i := by rintro rfl; rw [h] at hy; cases hy
  rw [addL_ne x this]; exact hy
theorem addT_same (i : Nat) (x : Nat × Nat × Nat) : (μ.addT i x).tok i = some x := by simp [Gh.addT]
theorem addT_ne {i j : Nat} (x : Nat × Nat × Nat) (h : j ≠ i) : (μ.addT i x).tok j = μ.tok j := by simp [Gh.addT, h]
theorem addT_mono {i : Nat} {x : Nat × Nat × Nat} (h : μ.tok i = none) : ∀ j y, μ.tok j = some y → (μ.addT i x).tok j = some y := by
  intro j y hy
  have : j ≠ i := by rintro rfl; rw [h] at hy; cases hy
  rw [addT_ne x this]; exact hy

theorem Inv.pick (hi : Inv w μ σ) : ∃ i, μ.loc i = none ∧ μ.tok i = none ∧ (∀ n, σ.nx = some n → i = n) ∧ ∀ j, i ≤ j → μ.loc j = none ∧ μ.tok j = none := by
  obtain ⟨n, h, hn⟩ := hi.fin
  exact ⟨n, (h n (Nat.le_refl _)).1, (h n (Nat.le_refl _)).2, fun m hm => (hn m hm).symm, h⟩

theorem cell_of_heap {w w1 : World} {b : Nat} (h : w1.heap[b]? = w.heap[b]?) (o : Nat) : w1.cell? ⟨b, o, none⟩ = w.cell? ⟨b, o, none⟩ := by
  simp only [World.cell?, h]

theorem Bl (w : World) (o : Obj) : (w.alloc o).heap[w.heap.size]? = some o := by show (w.heap.push o)[w.heap.size]? = some o; simp
theorem A9 (w : World) (o : Obj) {k : Nat} (h : k < w.heap.size) : (w.alloc o).heap[k]? = w.heap[k]? := by
  show (w.heap.push o)[k]? = _
  rw [Array.getElem?_push, if_neg (by omega)]
theorem size_alloc (w : World) (o : Obj) : (w.alloc o).heap.size = w.heap.size + 1 := by show (w.heap.push o).size = _; simp

theorem Bk {α : Type} {l : List α} {i : Nat} {x : α} (h : l[i]? = some x) : i < l.length := by
  rcases Nat.lt_or_ge i l.length with h' | h'
  · exact h'
  · rw [List.getElem?_eq_none h'] at h; cases h

theorem Inv.lts (hi : Inv w μ σ) {i : Nat} {o : Ob} {b p : Nat} (h : (i, o) ∈ σ.L) (hl : μ.loc i = some (b, p)) : b < w.heap.size := by
  obtain ⟨b', p', h1, h2⟩ := hi.lt h
  rw [hl] at h1; injection h1 with h1; injection h1 with h1; omega
theorem Inv.idlt (hi : Inv w μ σ) {i : Nat} {o : Ob} (h : (i, o) ∈ σ.L) : μ.loc i ≠ none := by
  obtain ⟨b', p', h1, h2⟩ := hi.lt h
  rw [h1]; simp

theorem ev_new {ob : Obj} (hi : Inv w μ σ) (hloc : ∀ i x, μ.loc i = some x → μ1.loc i = some x) (htok : ∀ i x, μ.tok i = some x → μ1.tok i = some x) (hoff : σ1.off = σ.off)
    (hL : ∀ i o b p, (i, o) ∈ σ1.L → μ1.loc i = some (b, p) → b < w.heap.size → ∃ o' j q, (j, o') ∈ σ.L ∧ μ.loc j = some (b, q))
    (hR : ∀ k b f t, k ∈ σ1.R → μ1.tok k = some (b, f, t) → f < t → b < w.heap.size → k ∈ σ.R ∧ μ.tok k = some (b, f, t)) : Ev w μ σ (w.alloc ob) μ1 σ1 := by
  have hsz := size_alloc w ob
  refine ⟨⟨rfl, rfl, rfl, by omega, fun k hk => by omega⟩, hloc, htok, hoff, fun b n ⟨c, e, f, h1, h2⟩ => ⟨c, e, f, ?_, h2⟩, fun b hb hl => ⟨?_, A9 w _ hb⟩, fun b o hx => ?_⟩
  · rw [A9 w _ (Array.getElem?_eq_some_iff.1 h1).1]; exact h1
  · rintro (⟨i, o, p, h1, h2⟩ | ⟨k, f, t, h1, h2, hft⟩)
    · obtain ⟨o', j, q, h3, h4⟩ := hL i o b p h1 h2 hb
      exact hl (.inl ⟨j, o', q, h3, h4⟩)
    · obtain ⟨h3, h4⟩ := hR k b f t h1 h2 hft hb
      exact hl (.inr ⟨k, f, t, h3, h4, hft⟩)
  · refine ⟨⟨by have := hx.lt; omega, by rw [hoff]; exact hx.off, fun i o' p h1 h2 => ?_, fun k f t h1 h2 => ?_⟩, cell_of_heap (A9 w _ hx.lt) o⟩
    · obtain ⟨o2, j, q, h3, h4⟩ := hL i o' b p h1 h2 hx.lt
      exact hx.obj j o2 q h3 h4
    · intro hq
      obtain ⟨h3, h4⟩ := hR k b f t h1 h2 (by omega) hx.lt
      exact hx.room k f t h3 h4 hq

theorem new_step (hi : Inv w μ σ) (c : Array Value) (e : TypeId) {i : Nat} (hf : μ.loc i = none) (hft : μ.tok i = none) (hfn : ∀ n, σ.nx = some n → i = n) (hfj : ∀ j, i ≤ j → μ.loc j = none ∧ μ.tok j = none) {ts : List T} (hlen : ts.length ≤ c.size) (hc : CellsIn w μ σ ts c 0) :
    Ev w μ σ (w.alloc (.cells c e)) (μ.addL i (w.heap.size, 0)) (σ.new i (.cells ts)) ∧ Inv (w.alloc (.cells c e)) (μ.addL i (w.heap.size, 0)) (σ.new i (.cells ts)) := by
  have hsz := size_alloc w (.cells c e)
  have hmem : ∀ j o, (j, o) ∈ (σ.new i (.cells ts)).L → (j = i ∧ o = .cells ts) ∨ ((j, o) ∈ σ.L ∧ j ≠ i) := by
    intro j o h
    rcases List.mem_cons.1 h with h | h
    · injection h with h1 h2; exact .inl ⟨h1, h2⟩
    · exact .inr ⟨h, fun e => hi.idlt h (e ▸ hf)⟩
  have ev : Ev w μ σ (w.alloc (.cells c e)) (μ.addL i (w.heap.size, 0)) (σ.new i (.cells ts)) := by
    refine ev_new hi (addL_mono hf) (fun _ _ h => h) rfl (fun j o b p h1 h2 h3 => ?_) (fun k b f t h1 h2 h3 h4 => ⟨h1, h2⟩)
    rcases hmem j o h1 with ⟨rfl, _⟩ | ⟨h, hne⟩
    · rw [A6] at h2; injection h2 with h2; injection h2 with h2; omega
    · rw [addL_ne _ hne] at h2; exact ⟨o, j, p, h, h2⟩
  refine ⟨ev, ⟨fun j us h => ?_, fun j es h => ?_, fun n m j k x y b p q h1 h2 h3 h4 => ?_, fun k hk => ?_, fun n m k l b f t g u h1 h2 h3 h4 => hi.rinj n m k l b f t g u h1 h2 h3 h4, ?_, fun b o h => ?_, fun j o b p h1 h2 q => ?_⟩⟩
  · rcases hmem j _ h with ⟨rfl, h1⟩ | ⟨h1, hne⟩
    · injection h1 with h1; subst h1
      exact ⟨w.heap.size, 0, c, e, A6 _ _, Bl w _, by omega, fun n t v h1 h2 => (hc n t v h1 h2).ev ev⟩
    · obtain ⟨b, p, c', e', h2, h3, h4, h5⟩ := hi.obj j us h1
      exact ⟨b, p, c', e', by rw [addL_ne _ hne]; exact h2, by rw [A9 w _ (Array.getElem?_eq_some_iff.1 h3).1]; exact h3, h4, fun n t v h6 h7 => (h5 n t v h6 h7).ev ev⟩
  · rcases hmem j _ h with ⟨rfl, h1⟩ | ⟨h1, hne⟩
    · cases h1
    · obtain ⟨b, en, cl, h2, h3, h4, h5⟩ := hi.map j es h1
      exact ⟨b, en, cl, by rw [addL_ne _ hne]; exact h2, by rw [A9 w _ (Array.getElem?_eq_some_iff.1 h3).1]; exact h3, h4, fun n k u e' h6 h7 => let ⟨h8, h9⟩ := h5 n k u e' h6 h7; ⟨h8.ev ev, h9.ev ev⟩⟩
  · have hold : ∀ (n j : Nat) (x : Ob) (b p : Nat), σ.L[n]? = some (j, x) → (μ.addL i (w.heap.size, 0)).loc j = some (b, p) → μ.loc j = some (b, p) ∧ b < w.heap.size := by
      intro n j x b p h1 h2
      have hm := List.mem_of_getElem? h1
      have hne : j ≠ i := by rintro rfl; exact hi.idlt hm hf
      rw [addL_ne _ hne] at h2
      exact ⟨h2, hi.lts hm h2⟩
    have hnew : ∀ (b p : Nat), (μ.addL i (w.heap.size, 0)).loc i = some (b, p) → b = w.heap.size := by
      intro b p h; rw [A6] at h; injection h with h; injection h with h; exact h.symm
    cases n with
    | zero =>
      have e1 : (i, Ob.cells ts) = (j, x) := by simpa [St.new] using h1
      injection e1 with e1 e2; subst e1
      cases m with
      | zero => rfl
      | succ m =>
        have := (hold m k y b q (by simpa [St.new] using h2) h4).2
        have := hnew b p h3
        omega
    | succ n =>
      cases m with
      | zero =>
        have e1 : (i, Ob.cells ts) = (k, y) := by simpa [St.new] using h2
        injection e1 with e1 e2; subst e1
        have := (hold n j x b p (by simpa [St.new] using h1) h3).2
        have := hnew b q h4
        omega
      | succ m =>
        have h1' : σ.L[n]? = some (j, x) := by simpa [St.new] using h1
        have h2' : σ.L[m]? = some (k, y) := by simpa [St.new] using h2
        rw [hi.inj n m j k x y b p q h1' h2' (hold n j x b p h1' h3).1 (hold m k y b q h2' h4).1]
  · obtain ⟨b, f, t, h1, h2, h3⟩ := hi.room k hk
    refine ⟨b, f, t, h1, h2, fun hlt => ?_⟩
    obtain ⟨⟨c', e', h4, h5⟩, h6, h7⟩ := h3 hlt
    have hb := (Array.getElem?_eq_some_iff.1 h4).1
    refine ⟨⟨c', e', by rw [A9 w _ hb]; exact h4, h5⟩, fun j o p h8 h9 => ?_, h7⟩
    rcases hmem j o h8 with ⟨rfl, _⟩ | ⟨h, hne⟩
    · rw [A6] at h9; injection h9 with h9; injection h9 with h9; omega
    · rw [addL_ne _ hne] at h9; exact h6 j o p h h9
  · refine ⟨i + 1, fun j hj => ⟨by rw [addL_ne _ (by omega)]; exact (hfj j (by omega)).1, (hfj j (by omega)).2⟩, fun m hm => ?_⟩
    simp only [St.new] at hm
    cases hx : σ.nx with
    | none => rw [hx] at hm; cases hm
    | some n => rw [hx] at hm; simp at hm; omega
  · have := hi.offlt b o h; omega
  · rcases hmem j o h1 with ⟨rfl, _⟩ | ⟨h, hne⟩
    · rw [A6] at h2; injection h2 with h2; injection h2 with h2 h3; subst h2
      intro h; exact absurd (hi.offlt _ _ h) (by omega)
    · rw [addL_ne _ hne] at h2; exact hi.offobj j o b p h h2 q

theorem aop_quiet0 (hG : Fits P G) {o : Oper} {t : T} {K : Env → St → Prop} (h : Av G (fun _ => none) (Ad a) o.op = some t) (hd : Ai N o.dst = true) (k : K (put a o.dst t) σ) : AOp P N o a σ K := by
  intro av w μ hi hr next Qc hn
  obtain ⟨v, h1, h2⟩ := evalOp_run (P := P) hG hi (ρ := Ad a) (ρv := av.eval) (fun x t hx => Al hr hx) (fun i o h => by cases h) h
  unfold Oper.wp
  rw [h1]
  exact hn _ _ _ _ _ (.refl _ _ _) hi (hr.put hd h2) k

theorem Rel.cells {v : Value} {t : T} (h : Rel w μ σ v t) (hr : ∀ u, t ≠ .raw u) : v.cells.size = t.cells.length ∧ ∀ (j : Nat) (c : T) (u : Value), t.cells[j]? = some c → v.cells[j]? = some u → Rel w μ σ u c := by
  have one : ∀ {v : Value} {t : T}, v.cells = #[v] → t.cells = [t] → Rel w μ σ v t → v.cells.size = t.cells.length ∧ ∀ (j : Nat) (c : T) (u : Value), t.cells[j]? = some c → v.cells[j]? = some u → Rel w μ σ u c := by
    intro v t h1 h2 h3
    refine ⟨by rw [h1, h2]; rfl, fun j c u hc hu => ?_⟩
    rw [h2] at hc; rw [h1] at hu
    cases j with
    | zero => simp at hc hu; subst hc; subst hu; exact h3
    | succ j => simp at hc
  cases h with
  | agg cs vs hn r => exact ⟨hn, r⟩
  | raw v => exact absurd rfl (hr v)
  | bool b => exact one rfl rfl (.bool b)
  | int k n => exact one rfl rfl (.int k n)
  | flt k n => exact one rfl rfl (.flt k n)
  | cplx k m n => exact one rfl rfl (.cplx k m n)
  | str s => exact one rfl rfl (.str s)
  | nilp => exact one rfl rfl .nilp
  | ptr i b p o h => exact one rfl rfl (.ptr i b p o h)
  | ro b p o x h r => exact one rfl rfl (.ro b p o x h r)
  | nilsl => exact one rfl rfl .nilsl
  | slnil sz own h => exact one rfl rfl (.slnil sz own h)
  | slz a sz own h => exact one rfl rfl (.slz a sz own h)
  | sl b p cap sz own xs n hn hc ho hs h r => exact one rfl rfl (.sl b p cap sz own xs n hn hc ho hs h r)
  | aref i b p o n c sz cap h hc hcap hb => exact one rfl rfl (.aref i b p o n c sz cap h hc hcap hb)
  | mapnil => exact one rfl rfl .mapnil
  | map i b p h => exact one rfl rfl (.map i b p h)
  | mro b ks us en cl h hs hu hb hi rk rv => exact one rfl rfl (.mro b ks us en cl h hs hu hb hi rk rv)
  | fn f caps vs hn r => exact one rfl rfl (.fn f caps vs hn r)
  | bnd f caps vs hn r => exact one rfl rfl (.bnd f caps vs hn r)
  | nilfn => exact one rfl rfl .nilfn
  | tup cs vs hn r => exact one rfl rfl (.tup cs vs hn r)

def T.scalar : T → Bool
  | .agg _ | .tup _ | .raw _ => false
  | _ => true
theorem Rel.scalar {v : Value} {t : T} (h : Rel w μ σ v t) (ht : t.scalar = true) : v.oneCell' = true := by
  cases h <;> first | rfl | cases ht
def notRaw : T → Bool
  | .raw _ => false
  | _ => true
theorem notRaw_ne {t : T} (h : notRaw t = true) : ∀ u, t ≠ .raw u := by rintro u rfl; cases h

theorem aop_box (hG : Fits P G) {o : Oper} {e : TypeId} {x : Operand} {t : T} {K : Env → St → Prop} (ho : o.op = .box e x) (hx : Ad a x = some t) (hraw : notRaw t = true) (hd : Ai N o.dst = true)
    (k : ∀ i, (∀ n, σ.nx = some n → i = n) → K (put a o.dst (.ptr i 0)) (σ.new i (.cells t.cells))) : AOp P N o a σ K := by
  intro av w μ hi hr next Qc hn
  have rx := Al hr hx
  obtain ⟨hc1, hc2⟩ := rx.cells (notRaw_ne hraw)
  obtain ⟨i, f1, f2, f3, f4⟩ := hi.pick
  obtain ⟨ev, hi'⟩ := new_step hi (av.eval x).cells e f1 f2 f3 f4 (ts := t.cells) (by omega) (fun j c u hc hu => hc2 j c u hc (by simpa using hu))
  have hrun : (execOp av.eval o).run P w = .ok (.value (.pointer (some ⟨w.heap.size, 0 + 0, none⟩))) (w.alloc (.cells (av.eval x).cells e)) := by
    simp [execOp, ho, Instr.box, newVar, newRow]
  unfold Oper.wp
  rw [hrun]
  exact hn _ _ _ _ _ ev hi' ((hr.ev ev).put hd (.ptr _ _ _ _ (A6 _ _))) (k i f3)

theorem aop_alloc (hG : Fits P G) {o : Oper} {e : TypeId} {ti : TI} {K : Env → St → Prop} (ho : o.op = .alloc e) (he : G e = some ti) (hd : Ai N o.dst = true)
    (k : ∀ i, (∀ n, σ.nx = some n → i = n) → K (put a o.dst (.ptr i 0)) (σ.new i (.cells ti.tree.cells))) : AOp P N o a σ K := by
  intro av w μ hi hr next Qc hn
  obtain ⟨v, hv, rv, hs1, hs2⟩ := g_zero (w := w) (μ := μ) (σ := σ) hG he
  have hraw : notRaw ti.tree = true := by
    unfold TI.tree; split
    · rfl
    · cases ti.zero.headD .b <;> rfl
  obtain ⟨hc1, hc2⟩ := rv.cells (notRaw_ne hraw)
  obtain ⟨i, f1, f2, f3, f4⟩ := hi.pick
  obtain ⟨ev, hi'⟩ := new_step hi v.cells e f1 f2 f3 f4 (ts := ti.tree.cells) (by omega) (fun j c u hc hu => hc2 j c u hc (by simpa using hu))
  have hrun : (execOp av.eval o).run P w = .ok (.value (.pointer (some ⟨w.heap.size, 0 + 0, none⟩))) (w.alloc (.cells v.cells e)) := by
    simp [execOp, ho, Instr.alloc, hv, newVar, newRow]
  unfold Oper.wp
  rw [hrun]
  exact hn _ _ _ _ _ ev hi' ((hr.ev ev).put hd (.ptr _ _ _ _ (A6 _ _))) (k i f3)

def stored (ts cs : List T) (o : Nat) : List T := ts.take o ++ cs ++ ts.drop (o + cs.length)
theorem stored_length {ts cs : List T} {o : Nat} (h : o + cs.length ≤ ts.length) : (stored ts cs o).length = ts.length := by simp [stored]; omega

theorem set_mem {σ : St} {n i : Nat} {o o' : Ob} (hn : σ.L[n]? = some (i, o)) {j : Nat} {x : Ob} (h : (j, x) ∈ (σ.set n i o').L) : (j = i ∧ x = o') ∨ (∃ m, m ≠ n ∧ σ.L[m]? = some (j, x)) := by
  obtain ⟨m, hm⟩ := List.getElem?_of_mem h
  simp only [St.set, List.getElem?_set] at hm
  split at hm
  · rename_i e; subst e
    rw [if_pos (Bk hn)] at hm
    injection hm with hm; injection hm with h1 h2; exact .inl ⟨h1.symm, h2.symm⟩
  · rename_i e; exact .inr ⟨m, fun h => e h.symm, hm⟩
theorem set_mem' {σ : St} {n i : Nat} {o o' : Ob} (hn : σ.L[n]? = some (i, o)) {j : Nat} {x : Ob} (h : (j, x) ∈ (σ.set n i o').L) : ∃ x', (j, x') ∈ σ.L := by
  rcases set_mem hn h with ⟨rfl, _⟩ | ⟨m, _, h⟩
  · exact ⟨o, List.mem_of_getElem? hn⟩
  · exact ⟨x, List.mem_of_getElem? h⟩
theorem set_ev (hi : Inv w μ σ) {n i b p : Nat} {o o' : Ob} (hn : σ.L[n]? = some (i, o)) (hl : μ.loc i = some (b, p)) {c c' : Array Value} {e : TypeId} (hc : w.heap[b]? = some (.cells c e (0, 0))) (hsz : c'.size = c.size) :
    Ev w μ σ (w.setRow b c') μ (σ.set n i o') := by
  have hb1 := setRow_heap w b c c' e (0, 0) hc
  have hin := List.mem_of_getElem? hn
  refine ⟨⟨rfl, rfl, rfl, by simp, fun k hk => by omega⟩, fun _ _ h => h, fun _ _ h => h, rfl, fun x m ⟨c2, e2, f2, h1, h2⟩ => ?_, fun x hx hlv => ?_, fun x q hx => ?_⟩
  · by_cases h : x = b
    · subst h
      rw [hc] at h1; injection h1 with h1; injection h1 with h1; subst h1
      exact ⟨c', e, _, hb1, by omega⟩
    · exact ⟨c2, e2, f2, by rw [setRow_other w b x c' h]; exact h1, h2⟩
  · have hne : x ≠ b := by rintro rfl; exact hlv (.inl ⟨i, o, p, hin, hl⟩)
    refine ⟨?_, setRow_other w b x c' hne⟩
    rintro (⟨j, y, q, h1, h2⟩ | h)
    · obtain ⟨y', h3⟩ := set_mem' hn h1
      exact hlv (.inl ⟨j, y', q, h3, h2⟩)
    · exact hlv (.inr h)
  · have hne : x ≠ b := by rintro rfl; exact hx.obj i o p hin hl
    refine ⟨⟨by have := hx.lt; simpa using this, hx.off, fun j y r h1 h2 => ?_, hx.room⟩, cell_of_heap (setRow_other w b x c' hne) q⟩
    obtain ⟨y', h3⟩ := set_mem' hn h1
    exact hx.obj j y' r h3 h2

theorem set_inv (hi : Inv w μ σ) {n i b p : Nat} {o : Ob} {ts' : List T} (hn : σ.L[n]? = some (i, o)) (hl : μ.loc i = some (b, p)) {c c' : Array Value} {e : TypeId} (hc : w.heap[b]? = some (.cells c e (0, 0))) (hsz : c'.size = c.size)
    (hlen : p + ts'.length ≤ c.size) (hcells : CellsIn w μ σ ts' c' p) : Inv (w.setRow b c') μ (σ.set n i (.cells ts')) := by
  have ev : Ev w μ σ (w.setRow b c') μ (σ.set n i (.cells ts')) := set_ev hi hn hl hc hsz
  have hb1 := setRow_heap w b c c' e (0, 0) hc
  have hin := List.mem_of_getElem? hn
  have hother : ∀ (m j : Nat) (x : Ob) (b' q : Nat), m ≠ n → σ.L[m]? = some (j, x) → μ.loc j = some (b', q) → b' ≠ b := by
    rintro m j x b' q hne h1 h2 rfl
    exact hne (hi.inj m n j i x o b' q p h1 hn h2 hl)
  refine ⟨fun j us h => ?_, fun j es h => ?_, fun n1 m j k x y b p q h1 h2 h3 h4 => ?_, fun k hk => ?_, hi.rinj, hi.fin, fun b o h => ?_, fun j x b p h1 h2 => ?_⟩
  · rcases set_mem hn h with ⟨rfl, h1⟩ | ⟨m, hne, h1⟩
    · injection h1 with h1; subst h1
      exact ⟨b, p, c', e, hl, hb1, by omega, fun m t v h1 h2 => (hcells m t v h1 h2).ev ev⟩
    · obtain ⟨b', p', c2, e2, h2, h3, h4, h5⟩ := hi.obj j us (List.mem_of_getElem? h1)
      have hne2 := hother m j _ b' p' hne h1 h2
      exact ⟨b', p', c2, e2, h2, by rw [setRow_other w b b' c' hne2]; exact h3, h4, fun m t v h6 h7 => (h5 m t v h6 h7).ev ev⟩
  · rcases set_mem hn h with ⟨rfl, h1⟩ | ⟨m, hne, h1⟩
    · cases h1
    · obtain ⟨b', en, cl, h2, h3, h4, h5⟩ := hi.map j es (List.mem_of_getElem? h1)
      have hne2 := hother m j _ b' 0 hne h1 h2
      exact ⟨b', en, cl, h2, by rw [setRow_other w b b' c' hne2]; exact h3, h4, fun m k u e' h6 h7 => let ⟨h8, h9⟩ := h5 m k u e' h6 h7; ⟨h8.ev ev, h9.ev ev⟩⟩
  · have old : ∀ (m j : Nat) (x : Ob), (σ.set n i (.cells ts')).L[m]? = some (j, x) → ∃ x', σ.L[m]? = some (j, x') := by
      intro m j x h
      simp only [St.set, List.getElem?_set] at h
      split at h
      · rename_i e; subst e
        rw [if_pos (Bk hn)] at h
        injection h with h; injection h with h1 h2; subst h1
        exact ⟨o, hn⟩
      · exact ⟨x, h⟩
    obtain ⟨x', h1'⟩ := old n1 j x h1
    obtain ⟨y', h2'⟩ := old m k y h2
    exact hi.inj n1 m j k x' y' b p q h1' h2' h3 h4
  · obtain ⟨b', f, t, h1, h2, h3⟩ := hi.room k hk
    refine ⟨b', f, t, h1, h2, fun hlt => ?_⟩
    obtain ⟨⟨c2, e2, h4, h5⟩, h6, h7⟩ := h3 hlt
    have hne : b' ≠ b := by rintro rfl; exact h6 i o p hin hl
    refine ⟨⟨c2, e2, by rw [setRow_other w b b' c' hne]; exact h4, h5⟩, fun j x q h8 h9 => ?_, h7⟩
    obtain ⟨x', h10⟩ := set_mem' hn h8
    exact h6 j x' q h10 h9
  · have := hi.offlt b o h; simpa using this
  · obtain ⟨x', h3⟩ := set_mem' hn h1
    exact hi.offobj j x' b p h3 h2

theorem aop_store (hG : Fits P G) {o : Oper} {ty : TypeId} {x y : Operand} {n i p : Nat} {t : T} {ts : List T} {ti : TI} {K : Env → St → Prop} (ho : o.op = .store ty x y) (hx : Ad a x = some (.ptr i p)) (hy : Ad a y = some t)
    (hob : σ.L[n]? = some (i, .cells ts)) (hsc : (notRaw t && t.cells.all T.scalar) = true) (hty : G ty = some ti) (hsz : Nat.beq t.cells.length ti.size = true) (hle : Nat.ble (p + t.cells.length) ts.length = true) (hd : Ai N o.dst = true)
    (k : K (put a o.dst (.tup [])) (σ.set n i (.cells (stored ts t.cells p)))) : AOp P N o a σ K := by
  intro av w μ hi hr next Qc hn
  rw [Bool.and_eq_true] at hsc
  have rx := Al hr hx
  have ry := Al hr hy
  obtain ⟨hc1, hc2⟩ := ry.cells (notRaw_ne hsc.1)
  obtain ⟨b, q, c, e, hl, hc, hlen, hrel⟩ := hi.obj i ts (List.mem_of_getElem? hob)
  have hle' := Nat.le_of_ble_eq_true hle
  have hsz' := Nat.eq_of_beq_eq_true hsz
  have hone : ∀ v ∈ (av.eval y).cells.toList, v.oneCell' = true := by
    intro v hv
    obtain ⟨j, hj, hjv⟩ := List.getElem_of_mem hv
    have hj' : j < t.cells.length := by rw [Array.length_toList] at hj; omega
    refine (hc2 j t.cells[j] v (List.getElem?_eq_getElem hj') ?_).scalar (List.all_eq_true.1 hsc.2 _ (List.getElem_mem hj'))
    rw [← hjv]; simp
  have hst := run_storeCells_at (P := P) b (q + p) e (av.eval y).cells.toList 0 c w hc (by rw [Array.length_toList]; omega) hone
  generalize hv : av.eval x = vx at rx
  cases rx with
  | ptr i b' q' p hl' =>
  rw [hl] at hl'; injection hl' with hl'; injection hl' with e1 e2; subst e1; subst e2
  generalize hc' : (c.toList.take (q + p + 0) ++ (av.eval y).cells.toList ++ c.toList.drop (q + p + 0 + (av.eval y).cells.toList.length)).toArray = c' at hst
  have hrun : (execOp av.eval o).run P w = .ok .skip (w.setRow b c') := by
    simp only [execOp, ho, Instr.storeAt, hv, Instr.sureAddr, Sem.run_bind, Sem.run_pure, Result.andThen_ok, storeVar, g_size hG hty]
    rw [if_neg (by rw [hc1]; simpa using hsz')]
    simp [hst]
  have hc'size : c'.size = c.size := by rw [← hc']; simp; omega
  have ev : Ev w μ σ (w.setRow b c') μ (σ.set n i (.cells (stored ts t.cells p))) := set_ev hi hob hl hc hc'size
  have hi' : Inv (w.setRow b c') μ (σ.set n i (.cells (stored ts t.cells p))) := by
    refine set_inv hi hob hl hc hc'size (by rw [stored_length hle']; omega) fun j t' v hj hv' => ?_
    rw [← hc'] at hv'
    simp only [Nat.add_zero, List.getElem?_toArray] at hv'
    unfold stored at hj
    rw [List.append_assoc] at hj hv'
    have hl1 : (ts.take p).length = p := by simp; omega
    have hl2 : (c.toList.take (q + p)).length = q + p := by simp; omega
    rcases Nat.lt_or_ge j p with h | h
    · rw [List.getElem?_append_left (by omega)] at hj hv'
      rw [List.getElem?_take] at hj hv'
      rw [if_pos h] at hj
      rw [if_pos (by omega)] at hv'
      exact hrel j t' v hj (by simpa using hv')
    · rw [List.getElem?_append_right (by omega), hl1] at hj
      rw [List.getElem?_append_right (by omega), hl2] at hv'
      rw [show q + j - (q + p) = j - p by omega] at hv'
      rcases Nat.lt_or_ge (j - p) t.cells.length with h2 | h2
      · rw [List.getElem?_append_left (by omega)] at hj
        rw [List.getElem?_append_left (by rw [Array.length_toList]; omega)] at hv'
        exact hc2 _ t' v hj (by simpa using hv')
      · rw [List.getElem?_append_right (by omega), List.getElem?_drop] at hj
        rw [List.getElem?_append_right (by rw [Array.length_toList]; omega), List.getElem?_drop, Array.length_toList] at hv'
        rw [show p + t.cells.length + (j - p - t.cells.length) = j by omega] at hj
        rw [show q + p + (av.eval y).cells.size + (j - p - (av.eval y).cells.size) = q + j by omega] at hv'
        exact hrel j t' v hj (by simpa using hv')
  unfold Oper.wp
  rw [hrun]
  exact hn _ _ _ _ _ ev hi' ((hr.ev ev).put hd (.tup [] #[] rfl fun j c v h1 h2 => by simp at h1)) k

theorem sub_emb {α : Type} {l m : List α} (h : l.Sublist m) : ∃ φ : Nat → Nat, (∀ i j, φ i = φ j → i = j) ∧ ∀ i x, l[i]? = some x → m[φ i]? = some x := by
  induction h with
  | slnil => exact ⟨id, fun i j h => h, fun i x h => h⟩
  | cons a _ ih =>
    obtain ⟨φ, h1, h2⟩ := ih
    exact ⟨fun i => φ i + 1, fun i j h => h1 i j (by simpa using h), fun i x h => by simpa using h2 i x h⟩
  | cons_cons a _ ih =>
    obtain ⟨φ, h1, h2⟩ := ih
    refine ⟨fun i => match i with | 0 => 0 | i + 1 => φ i + 1, fun i j h => ?_, fun i x h => ?_⟩
    · cases i <;> cases j <;> simp at h ⊢
      exact h1 _ _ h
    · cases i with
      | zero => simpa using h
      | succ i => simpa using h2 i x (by simpa using h)

theorem Bc {L' : List (Nat × Ob)} {R' : List Nat} (hL : L'.Sublist σ.L) (hR : R'.Sublist σ.R) : GStep σ { σ with L := L', R := R' } := by
  intro w μ hi
  have ev : Ev w μ σ w μ { σ with L := L', R := R' } := by
    refine ⟨.refl _ _, fun _ _ h => h, fun _ _ h => h, rfl, fun _ _ h => h, fun b hb hl => ⟨?_, rfl⟩, fun b o h => ⟨⟨h.lt, h.off, fun i x p h1 => h.obj i x p (hL.subset h1), fun k f t h1 => h.room k f t (hR.subset h1)⟩, rfl⟩⟩
    rintro (⟨i, x, p, h1, h2⟩ | ⟨k, f, t, h1, h2, h3⟩)
    · exact hl (.inl ⟨i, x, p, hL.subset h1, h2⟩)
    · exact hl (.inr ⟨k, f, t, hR.subset h1, h2, h3⟩)
  refine ⟨⟨fun i ts h => ?_, fun i es h => ?_, fun n m i j x y b p q h1 h2 h3 h4 => ?_, fun k hk => ?_, fun n m k l b f t g u h1 h2 h3 h4 => ?_, hi.fin, hi.offlt, fun i x b p h1 => hi.offobj i x b p (hL.subset h1)⟩, ev⟩
  · obtain ⟨b, p, c, e, h1, h2, h3, h4⟩ := hi.obj i ts (hL.subset h)
    exact ⟨b, p, c, e, h1, h2, h3, fun j t v h5 h6 => (h4 j t v h5 h6).ev ev⟩
  · obtain ⟨b, c, e, h1, h2, h3, h4⟩ := hi.map i es (hL.subset h)
    exact ⟨b, c, e, h1, h2, h3, fun j k u e' h5 h6 => let ⟨h7, h8⟩ := h4 j k u e' h5 h6; ⟨h7.ev ev, h8.ev ev⟩⟩
  · obtain ⟨φ, hf, hφ⟩ := sub_emb hL
    exact hf _ _ (hi.inj _ _ i j x y b p q (hφ _ _ h1) (hφ _ _ h2) h3 h4)
  · obtain ⟨b, f, t, h1, h2, h3⟩ := hi.room k (hR.subset hk)
    exact ⟨b, f, t, h1, h2, fun hlt => let ⟨h4, h5, h6⟩ := h3 hlt; ⟨h4, fun i x p h7 => h5 i x p (hL.subset h7), h6⟩⟩
  · obtain ⟨φ, hf, hφ⟩ := sub_emb hR
    exact fun h5 h6 => hf _ _ (hi.rinj _ _ k l b f t g u (hφ _ _ h1) (hφ _ _ h2) h3 h4 h5 h6)
end
end Go.Ts
set_option linter.unusedVariables false
set_option linter.unusedSimpArgs false
namespace Go.Ts

def flat (xs : List T) : List T := xs.flatMap T.cells
def sized (sz : Nat) (xs : List T) : Prop := ∀ (i : Nat) (x : T), xs[i]? = some x → x.cells.length = sz

theorem flat_nil : flat [] = [] := rfl
theorem flat_cons (x : T) (xs : List T) : flat (x :: xs) = x.cells ++ flat xs := by simp [flat]
theorem flat_append (xs ys : List T) : flat (xs ++ ys) = flat xs ++ flat ys := by simp [flat]
theorem sized_cons {sz : Nat} {x : T} {xs : List T} (h : sized sz (x :: xs)) : x.cells.length = sz ∧ sized sz xs := ⟨h 0 x rfl, fun i y hy => h (i + 1) y (by simpa using hy)⟩
theorem sized_append {sz : Nat} {xs ys : List T} (h : sized sz xs) (k : sized sz ys) : sized sz (xs ++ ys) := by
  intro i x hx
  rcases Nat.lt_or_ge i xs.length with h1 | h1
  · rw [List.getElem?_append_left h1] at hx; exact h i x hx
  · rw [List.getElem?_append_right h1] at hx; exact k _ x hx
theorem flat_length : ∀ {xs : List T} {sz : Nat}, sized sz xs → (flat xs).length = xs.length * sz
  | [], sz, _ => by simp [flat]
  | x :: xs, sz, h => by
    obtain ⟨h1, h2⟩ := sized_cons h
    rw [flat_cons, List.length_append, h1, flat_length h2, List.length_cons, Nat.add_mul]; omega
theorem flat_get : ∀ {xs : List T} {sz k : Nat} {c : T}, sized sz xs → (flat xs)[k]? = some c → ∃ i j x, k = i * sz + j ∧ xs[i]? = some x ∧ x.cells[j]? = some c
  | [], sz, k, c, _, h => by simp [flat] at h
  | x :: xs, sz, k, c, hs, h => by
    obtain ⟨h1, h2⟩ := sized_cons hs
    rw [flat_cons] at h
    rcases Nat.lt_or_ge k sz with h3 | h3
    · rw [List.getElem?_append_left (by omega)] at h
      exact ⟨0, k, x, by simp, rfl, h⟩
    · rw [List.getElem?_append_right (by omega), h1] at h
      obtain ⟨i, j, y, h4, h5, h6⟩ := flat_get h2 h
      exact ⟨i + 1, j, y, by rw [Nat.add_mul]; omega, by simpa using h5, h6⟩
theorem flat_at : ∀ {xs : List T} {sz i j : Nat} {x c : T}, sized sz xs → xs[i]? = some x → x.cells[j]? = some c → (flat xs)[i * sz + j]? = some c
  | [], sz, i, j, x, c, _, h, _ => by simp at h
  | y :: xs, sz, i, j, x, c, hs, h, hc => by
    obtain ⟨h1, h2⟩ := sized_cons hs
    rw [flat_cons]
    cases i with
    | zero =>
      simp at h; subst h
      have : j < y.cells.length := by
        rcases Nat.lt_or_ge j y.cells.length with h' | h'
        · exact h'
        · rw [List.getElem?_eq_none h'] at hc; cases hc
      rw [List.getElem?_append_left (by omega)]
      simpa using hc
    | succ i =>
      rw [List.getElem?_append_right (by rw [Nat.add_mul]; omega), h1, show (i + 1) * sz + j - sz = i * sz + j by rw [Nat.add_mul]; omega]
      exact flat_at h2 (by simpa using h) hc

section
variable {P : Program} {G : Nat → Option TI} {w w1 : World} {μ : Gh} {σ σ1 : St} {N : Nat} {a : Env} {Q : Exit → Env → St → Prop}

theorem sl_mk {b p cap sz n : Nat} {own : Own} {xs : List T} (hn : xs.length = n) (hc : n ≤ cap) (ho : OwnOK μ own b (p + n * sz) (p + cap * sz)) (hs : sized sz xs)
    (h : ∀ k c, (flat xs)[k]? = some c → Imm w μ σ b (p + k) ∧ ∃ v, w.cell? ⟨b, p + k, none⟩ = some v ∧ Rel w μ σ v c) : Rel w μ σ (.slice (some ⟨b, p, none⟩) n cap) (.sl sz own xs) := by
  refine .sl b p cap sz own xs n hn hc ho hs (fun i x j c hx hj => ?_) (fun i x j c v hx hj hv => ?_)
  · obtain ⟨h1, v, h2, h3⟩ := h _ c (flat_at hs hx hj)
    rw [← Nat.add_assoc] at h1 h2
    exact ⟨h1, v, h2⟩
  · obtain ⟨h1, u, h2, h3⟩ := h _ c (flat_at hs hx hj)
    rw [← Nat.add_assoc, hv] at h2
    injection h2 with h2
    exact h2 ▸ h3

theorem scalar_cells {t : T} (h : t.scalar = true) : t.cells = [t] := by cases t <;> first | rfl | cases h

theorem flat_scalar : ∀ {xs : List T}, xs.all T.scalar = true → flat xs = xs ∧ sized 1 xs
  | [], _ => ⟨rfl, fun i x h => by simp at h⟩
  | x :: xs, h => by
    simp only [List.all_cons, Bool.and_eq_true] at h
    obtain ⟨h1, h2⟩ := flat_scalar h.2
    rw [flat_cons, scalar_cells h.1, h1]
    refine ⟨rfl, fun i y hy => ?_⟩
    cases i with
    | zero => simp at hy; subst hy; rw [scalar_cells h.1]; rfl
    | succ i => exact h2 i y (by simpa using hy)

def chunks (sz : Nat) : Nat → List T → List T
  | 0, _ => []
  | n + 1, cs => (cond (Nat.beq sz 1) (cs.headD .nilp) (.agg (cs.take sz))) :: chunks sz n (cs.drop sz)
theorem chunks_length (sz : Nat) : ∀ (n : Nat) (cs : List T), (chunks sz n cs).length = n
  | 0, cs => rfl
  | n + 1, cs => by simp [chunks, chunks_length sz n]
theorem chunks_flat (sz : Nat) : ∀ (n : Nat) (cs : List T), cs.all T.scalar = true → n * sz ≤ cs.length → flat (chunks sz n cs) = cs.take (n * sz) ∧ sized sz (chunks sz n cs)
  | 0, cs, _, _ => ⟨by simp [chunks, flat], fun i x h => by simp [chunks] at h⟩
  | n + 1, cs, hs, hl => by
    have hm : (n + 1) * sz = sz + n * sz := by rw [Nat.add_mul]; omega
    have hd : (cs.drop sz).all T.scalar = true := List.all_eq_true.2 fun x hx => List.all_eq_true.1 hs x (List.drop_subset _ _ hx)
    obtain ⟨h1, h2⟩ := chunks_flat sz n (cs.drop sz) hd (by rw [List.length_drop]; omega)
    have hc : (cond (Nat.beq sz 1) (cs.headD .nilp) (T.agg (cs.take sz))).cells = cs.take sz := by
      cases hb : Nat.beq sz 1 with
      | false => rfl
      | true =>
        obtain rfl : sz = 1 := Nat.eq_of_beq_eq_true hb
        cases cs with
        | nil => simp at hl
        | cons c cs =>
          simp only [List.all_cons, Bool.and_eq_true] at hs
          simp [scalar_cells hs.1]
    refine ⟨?_, fun i x hx => ?_⟩
    · unfold chunks
      rw [flat_cons, hc, h1, hm, List.take_add]
    · cases i with
      | zero =>
        simp only [chunks, List.getElem?_cons_zero] at hx; injection hx with hx; subst hx
        rw [hc, List.length_take]; omega
      | succ i => exact h2 i x (by simpa [chunks] using hx)

def srcOf (objs : Nat → Option Ob) (sz : Nat) : T → Option (List T)
  | .sl sz' _ ys => cond (Nat.beq sz' sz) (some ys) none
  | .nilsl => some []
  | .aref sz' i o n _ => cond (Nat.beq sz' sz) (match objs i with
    | some (.cells ts) => cond (Nat.ble (o + n * sz) ts.length && ((ts.drop o).take (n * sz)).all T.scalar) (some (chunks sz n ((ts.drop o).take (n * sz)))) none
    | _ => none) none
  | _ => none

theorem srcOf_run (hi : Inv w μ σ) {objs : Nat → Option Ob} (hob : ∀ i o, objs i = some o → (i, o) ∈ σ.L) {sz : Nat} {v : Value} {t : T} {ys : List T} (r : Rel w μ σ v t) (h : srcOf objs sz t = some ys) :
    (Builtin.lenOf v).run P w = .ok ys.length w ∧ sized sz ys ∧ ∃ vs : Array Value, (∀ w1 : World, w1.heap = w.heap → (Builtin.firstCells sz ys.length v).run P w1 = .ok vs w1) ∧ vs.size = (flat ys).length ∧
      ∀ (k : Nat) (c : T) (u : Value), (flat ys)[k]? = some c → vs[k]? = some u → Rel w μ σ u c := by
  cases r with
  | nilsl =>
    simp [srcOf] at h; subst h
    exact ⟨rfl, fun i x hx => by simp at hx, #[], fun _ _ => rfl, rfl, fun k c u hk => by simp [flat] at hk⟩
  | slnil sz' own h0 =>
    simp only [srcOf] at h
    cases hb : Nat.beq sz' sz with
    | false => simp [hb] at h
    | true =>
      simp [hb] at h; subst h
      exact ⟨rfl, fun i x hx => by simp at hx, #[], fun _ _ => rfl, rfl, fun k c u hk => by simp [flat] at hk⟩
  | slz ad sz' own h0 =>
    simp only [srcOf] at h
    cases hb : Nat.beq sz' sz with
    | false => simp [hb] at h
    | true =>
      simp [hb] at h; subst h
      exact ⟨rfl, fun i x hx => by simp at hx, #[], fun _ _ => by simp [Builtin.firstCells, loadCells, loadCellsFrom], rfl, fun k c u hk => by simp [flat] at hk⟩
  | sl b p cap sz' own xs n hn hc ho hs h0 r0 =>
    simp only [srcOf] at h
    cases hb : Nat.beq sz' sz with
    | false => simp [hb] at h
    | true =>
      simp [hb] at h; subst h
      obtain rfl : sz' = sz := Nat.eq_of_beq_eq_true hb
      have hcells : CellsAt w μ σ b p (flat xs) := by
        intro k c hk
        obtain ⟨i, j, x, rfl, hx, hj⟩ := flat_get hs hk
        obtain ⟨_, v, hv⟩ := h0 i x j c hx hj
        rw [← Nat.add_assoc]
        exact ⟨v, hv, r0 i x j c v hx hj hv⟩
      refine ⟨by rw [hn]; rfl, hs, ?_⟩
      have hl := flat_length hs
      obtain ⟨vs, h1, h2, h3⟩ := loadCells_rel (P := P) hcells (o := 0) (n := xs.length * sz') (by omega)
      refine ⟨vs, fun w1 hw1 => ?_, by omega, fun k c u hk hu => h3 k c u (by rw [List.drop_zero, List.take_of_length_le (by omega)]; exact hk) hu⟩
      have hex : ∀ j, j < xs.length * sz' → ∃ v, w.cell? ⟨b, p + j, none⟩ = some v := by
        intro j hj
        obtain ⟨v, hv, _⟩ := hcells j _ (List.getElem?_eq_getElem (by omega))
        exact ⟨v, hv⟩
      have e1 := run_loadCells (P := P) w ⟨b, p, none⟩ (xs.length * sz') (fun j => (w.cell? ⟨b, p + j, none⟩).getD undef) (fun j hj => by
        rw [add_at]; obtain ⟨v, hv⟩ := hex j hj; simp [hv])
      have e2 := run_loadCells (P := P) w1 ⟨b, p, none⟩ (xs.length * sz') (fun j => (w.cell? ⟨b, p + j, none⟩).getD undef) (fun j hj => by
        rw [add_at, cell_of_heap (show w1.heap[b]? = w.heap[b]? by rw [hw1])]; obtain ⟨v, hv⟩ := hex j hj; simp [hv])
      rw [Nat.add_zero, e1] at h1
      injection h1 with h1
      show (loadCells ⟨b, p, none⟩ (xs.length * sz')).run P w1 = _
      rw [e2, h1]
  | aref i b p o n c sz' cap hloc hc hcap hbd =>
    simp only [srcOf] at h
    cases hb : Nat.beq sz' sz with
    | false => simp [hb] at h
    | true =>
      obtain rfl : sz' = sz := Nat.eq_of_beq_eq_true hb
      simp only [hb, cond_true] at h
      split at h
      · rename_i ts hts
        cases hb2 : (Nat.ble (o + n * sz') ts.length && ((ts.drop o).take (n * sz')).all T.scalar) with
        | false => rw [hb2] at h; cases h
        | true =>
          rw [hb2] at h
          simp only [cond_true] at h
          injection h with h; subst h
          rw [Bool.and_eq_true] at hb2
          have hle := Nat.le_of_ble_eq_true hb2.1
          obtain ⟨hf1, hf2⟩ := chunks_flat sz' n _ hb2.2 (by simp; omega)
          rw [List.take_take, Nat.min_self] at hf1
          refine ⟨by rw [chunks_length]; rfl, hf2, ?_⟩
          obtain ⟨b', p', hl', hcells⟩ := hi.cells (hob _ _ hts)
          rw [hloc] at hl'; injection hl' with hl'; injection hl' with e1 e2; subst e1; subst e2
          obtain ⟨vs, h1, h2, h3⟩ := loadCells_rel (P := P) hcells (o := o) (n := n * sz') hle
          refine ⟨vs, fun w1 hw1 => ?_, by rw [hf1, h2]; simp; omega, fun k c u hk hu => h3 k c u (by rw [← hf1]; exact hk) hu⟩
          have hcells1 : ∀ j, w1.cell? ⟨b, p + o + j, none⟩ = w.cell? ⟨b, p + o + j, none⟩ := fun j => cell_of_heap (by rw [hw1]) _
          have hex : ∀ j, j < n * sz' → ∃ v, w.cell? ⟨b, p + o + j, none⟩ = some v := by
            intro j hj
            obtain ⟨v, hv, _⟩ := hcells (o + j) _ (List.getElem?_eq_getElem (by omega))
            exact ⟨v, by rw [Nat.add_assoc]; exact hv⟩
          have e1 := run_loadCells (P := P) w ⟨b, p + o, none⟩ (n * sz') (fun j => (w.cell? ⟨b, p + o + j, none⟩).getD undef) (fun j hj => by
            rw [add_at]; obtain ⟨v, hv⟩ := hex j hj; simp [hv])
          have e2 := run_loadCells (P := P) w1 ⟨b, p + o, none⟩ (n * sz') (fun j => (w.cell? ⟨b, p + o + j, none⟩).getD undef) (fun j hj => by
            rw [add_at, hcells1 j]; obtain ⟨v, hv⟩ := hex j hj; simp [hv])
          show (loadCells ⟨b, p + o, none⟩ ((chunks sz' n _).length * sz')).run P w1 = _
          rw [chunks_length, e2]
          rw [h1] at e1
          injection e1 with e1
          rw [e1]
      · cases h
  | _ => simp [srcOf] at h

theorem growBy_le (n : Nat) : ∀ (r c : Nat), c ≤ 2 * n + 768 → Builtin.growBy n r c ≤ 2 * n + 768
  | 0, c, h => h
  | r + 1, c, h => by
    simp only [Builtin.growBy]
    split
    · exact h
    · exact growBy_le n r _ (by omega)
theorem nextslicecap_le (n c : Nat) (h : c < n) : Builtin.nextslicecap n c ≤ 2 * n + 768 := by
  unfold Builtin.nextslicecap
  split
  · omega
  · split
    · omega
    · exact growBy_le n 4 c (by omega)

theorem zeroCells_size (zero : Array Value) (n : Nat) : (Builtin.zeroCells zero n).size = n * zero.size := by simp [Builtin.zeroCells]

theorem ev_same (hh : w1.heap = w.heap) (hos : w1.os = w.os) (htape : w1.tape = w.tape) (hout : w1.output = w.output) : Ev w μ σ w1 μ σ :=
  ⟨⟨hos, htape, hout, by rw [hh]; exact Nat.le_refl _, fun k hk => by omega⟩, fun _ _ h => h, fun _ _ h => h, rfl, fun b n ⟨c, e, f, h1, h2⟩ => ⟨c, e, f, by rw [hh]; exact h1, h2⟩, fun b _ h => ⟨h, by rw [hh]⟩,
    fun b o h => ⟨⟨by rw [hh]; exact h.lt, h.off, h.obj, h.room⟩, cell_of_heap (by rw [hh]) o⟩⟩
theorem Inv.ev_heap (hi : Inv w μ σ) (hh : w1.heap = w.heap) (ev : Ev w μ σ w1 μ σ) : Inv w1 μ σ := by
  refine ⟨fun i ts hx => ?_, fun i es hx => ?_, hi.inj, fun k hk => ?_, hi.rinj, hi.fin, by rw [hh]; exact hi.offlt, hi.offobj⟩
  · obtain ⟨b, p, c, e, h1, h2, h3, h4⟩ := hi.obj i ts hx
    exact ⟨b, p, c, e, h1, by rw [hh]; exact h2, h3, fun j t v h5 h6 => (h4 j t v h5 h6).ev ev⟩
  · obtain ⟨b, c, e, h1, h2, h3, h4⟩ := hi.map i es hx
    exact ⟨b, c, e, h1, by rw [hh]; exact h2, h3, fun j k u e h5 h6 => let ⟨h7, h8⟩ := h4 j k u e h5 h6; ⟨h7.ev ev, h8.ev ev⟩⟩
  · obtain ⟨b, f, t, h1, h2, h3⟩ := hi.room k hk
    exact ⟨b, f, t, h1, h2, fun hlt => let ⟨⟨c, e, h4, h5⟩, h6⟩ := h3 hlt; ⟨⟨c, e, by rw [hh]; exact h4, h5⟩, h6⟩⟩

theorem tok_stepX (hi : Inv w μ σ) {k : Nat} (hfl : μ.loc k = none) (hft : μ.tok k = none) (hfj : ∀ j, k ≤ j → μ.loc j = none ∧ μ.tok j = none) (x : Nat × Nat × Nat) (hx : x.2.1 = x.2.2) :
    Ev w μ σ w (μ.addT k x) (σ.newT k) ∧ Inv w (μ.addT k x) (σ.newT k) := by
  obtain ⟨b0, f0, t0⟩ := x
  simp only at hx; subst hx
  have old : ∀ l, l ∈ σ.R → l ≠ k := by
    rintro l hl rfl
    obtain ⟨b', f', t', h1, _⟩ := hi.room l hl
    rw [hft] at h1; cases h1
  have new : ∀ b f t, (μ.addT k (b0, f0, f0)).tok k = some (b, f, t) → b = b0 ∧ f = f0 ∧ t = f0 := by
    intro b f t h; rw [addT_same] at h; injection h with h; injection h with h1 h; injection h with h2 h3; exact ⟨h1.symm, h2.symm, h3.symm⟩
  have ev : Ev w μ σ w (μ.addT k (b0, f0, f0)) (σ.newT k) := by
    refine ⟨.refl _ _, fun _ _ h => h, addT_mono hft, rfl, fun _ _ h => h, fun b hb hl => ⟨?_, rfl⟩, fun x o h => ⟨⟨h.lt, h.off, h.obj, fun l g u h1 h2 => ?_⟩, rfl⟩⟩
    · rintro (h | ⟨l, f, t, h1, h2, h3⟩)
      · exact hl (.inl h)
      · rcases List.mem_cons.1 h1 with rfl | h1
        · obtain ⟨_, rfl, rfl⟩ := new _ _ _ h2; omega
        · rw [addT_ne _ (old l h1)] at h2; exact hl (.inr ⟨l, f, t, h1, h2, h3⟩)
    · rcases List.mem_cons.1 h1 with rfl | h1
      · obtain ⟨_, rfl, rfl⟩ := new _ _ _ h2; omega
      · rw [addT_ne _ (old l h1)] at h2; exact h.room l g u h1 h2
  refine ⟨ev, ⟨fun i ts hx => ?_, fun i es hx => ?_, hi.inj, fun l hl => ?_, fun n m l l' b f t g u h1 h2 h3 h4 h5 h6 => ?_, ⟨k + 1, fun j hj => ⟨(hfj j (by omega)).1, by rw [addT_ne _ (by omega)]; exact (hfj j (by omega)).2⟩, fun m hm => by simp only [St.newT, Option.map_eq_some_iff] at hm; obtain ⟨_, _, hm⟩ := hm; exact hm.symm⟩, hi.offlt, hi.offobj⟩⟩
  · obtain ⟨b, p, c, e, h1, h2, h3, h4⟩ := hi.obj i ts hx
    exact ⟨b, p, c, e, h1, h2, h3, fun j t v h5 h6 => (h4 j t v h5 h6).ev ev⟩
  · obtain ⟨b, c, e, h1, h2, h3, h4⟩ := hi.map i es hx
    exact ⟨b, c, e, h1, h2, h3, fun j k u e h5 h6 => let ⟨h7, h8⟩ := h4 j k u e h5 h6; ⟨h7.ev ev, h8.ev ev⟩⟩
  · rcases List.mem_cons.1 hl with rfl | hl
    · exact ⟨b0, f0, f0, addT_same _ _, Nat.le_refl _, fun h => absurd h (Nat.lt_irrefl _)⟩
    · obtain ⟨b, f, t, h1, h2⟩ := hi.room l hl
      exact ⟨b, f, t, by rw [addT_ne _ (old l hl)]; exact h1, h2⟩
  · have h1' : (k :: σ.R)[n]? = some l := h1
    have h2' : (k :: σ.R)[m]? = some l' := h2
    cases n with
    | zero => simp at h1'; subst h1'; obtain ⟨_, rfl, rfl⟩ := new _ _ _ h3; omega
    | succ n =>
      cases m with
      | zero => simp at h2'; subst h2'; obtain ⟨_, rfl, rfl⟩ := new _ _ _ h4; omega
      | succ m =>
        have e1 : σ.R[n]? = some l := by simpa using h1'
        have e2 : σ.R[m]? = some l' := by simpa using h2'
        rw [addT_ne _ (old l (List.mem_of_getElem? e1))] at h3
        rw [addT_ne _ (old l' (List.mem_of_getElem? e2))] at h4
        rw [hi.rinj n m l l' b f t g u e1 e2 h3 h4 h5 h6]

theorem newT_eq (σ : St) (k : Nat) (h : σ.nx = none) : σ.newT k = { σ with R := k :: σ.R } := by cases σ; simp only at h; subst h; rfl
theorem tok_step (hi : Inv w μ σ) {k : Nat} (hnx : σ.nx = none) (hfl : μ.loc k = none) (hft : μ.tok k = none) (hfj : ∀ j, k ≤ j → μ.loc j = none ∧ μ.tok j = none) (x : Nat × Nat × Nat) (hx : x.2.1 = x.2.2) :
    Ev w μ σ w (μ.addT k x) { σ with R := k :: σ.R } ∧ Inv w (μ.addT k x) { σ with R := k :: σ.R } := by
  rw [← newT_eq σ k hnx]; exact tok_stepX hi hfl hft hfj x hx
def St.tk (σ : St) (n k : Nat) : St := { σ with R := σ.R.set n k }
theorem setT_eq (σ : St) (n k : Nat) (h : σ.nx = none) : σ.setT n k = σ.tk n k := by cases σ; simp only at h; subst h; rfl
theorem setT_mem {n k : Nat} {l : Nat} (h : l ∈ (σ.setT n k).R) : l = k ∨ l ∈ σ.R := by
  rcases List.mem_or_eq_of_mem_set h with h | h
  · exact .inr h
  · exact .inl h

theorem room_inv (hi : Inv w μ σ) {n k k' : Nat} (hn : σ.R[n]? = some k) (hfl : μ.loc k' = none) (hft : μ.tok k' = none) (hfj : ∀ j, k' ≤ j → μ.loc j = none ∧ μ.tok j = none) {x : Nat × Nat × Nat} (hx1 : x.2.1 ≤ x.2.2)
    (ev : Ev w μ σ w1 (μ.addT k' x) (σ.setT n k')) (hobj : ∀ i b p, (∃ o, (i, o) ∈ σ.L) → μ.loc i = some (b, p) → w1.heap[b]? = w.heap[b]?)
    (hroom : ∀ l b f t, l ∈ σ.R → μ.tok l = some (b, f, t) → f < t → ∀ c e, w.heap[b]? = some (.cells c e (0, 0)) → ∃ c', w1.heap[b]? = some (.cells c' e (0, 0)) ∧ c'.size = c.size)
    (hnew : x.2.1 < x.2.2 → (∃ c e, w1.heap[x.1]? = some (.cells c e (0, 0)) ∧ x.2.2 ≤ c.size) ∧ (∀ i ob p, (i, ob) ∈ σ.L → μ.loc i ≠ some (x.1, p)) ∧ (∀ o, x.2.1 ≤ o → o < x.2.2 → ¬ σ.off x.1 o) ∧ ∀ m l f t, m ≠ n → σ.R[m]? = some l → μ.tok l = some (x.1, f, t) → ¬ f < t) : Inv w1 (μ.addT k' x) (σ.setT n k') := by
  have old : ∀ l, l ∈ σ.R → l ≠ k' := by
    rintro l hl rfl
    obtain ⟨b', f', t', h1, _⟩ := hi.room l hl
    rw [hft] at h1; cases h1
  have hlt := Bk hn
  refine ⟨fun i ts hx => ?_, fun i es hx => ?_, hi.inj, fun l hl => ?_, fun n1 m l l' b f t g u h1 h2 h3 h4 h5 h6 => ?_, ⟨k' + 1, fun j hj => ⟨(hfj j (by omega)).1, by rw [addT_ne _ (by omega)]; exact (hfj j (by omega)).2⟩, fun m hm => by simp only [St.setT, Option.map_eq_some_iff] at hm; obtain ⟨_, _, hm⟩ := hm; exact hm.symm⟩, fun b o h => Nat.lt_of_lt_of_le (hi.offlt b o h) ev.below.size, hi.offobj⟩
  · obtain ⟨b, p, c, e, h1, h2, h3, h4⟩ := hi.obj i ts hx
    exact ⟨b, p, c, e, h1, by rw [hobj i b p ⟨_, hx⟩ h1]; exact h2, h3, fun j t v h5 h6 => (h4 j t v h5 h6).ev ev⟩
  · obtain ⟨b, c, e, h1, h2, h3, h4⟩ := hi.map i es hx
    exact ⟨b, c, e, h1, by rw [hobj i b 0 ⟨_, hx⟩ h1]; exact h2, h3, fun j k u e h5 h6 => let ⟨h7, h8⟩ := h4 j k u e h5 h6; ⟨h7.ev ev, h8.ev ev⟩⟩
  · rcases setT_mem hl with rfl | hl
    · obtain ⟨b, f, t⟩ := x
      exact ⟨b, f, t, addT_same _ _, hx1, fun h => let ⟨h1, h2, h3, _⟩ := hnew h; ⟨h1, h2, h3⟩⟩
    · obtain ⟨b, f, t, h1, h2, h3⟩ := hi.room l hl
      refine ⟨b, f, t, by rw [addT_ne _ (old l hl)]; exact h1, h2, fun h => ?_⟩
      obtain ⟨⟨c, e, h4, h5⟩, h6, h7⟩ := h3 h
      obtain ⟨c', h8, h9⟩ := hroom l b f t hl h1 h c e h4
      exact ⟨⟨c', e, h8, by omega⟩, h6, h7⟩
  · have get : ∀ m l, (σ.setT n k').R[m]? = some l → (m = n ∧ l = k') ∨ (m ≠ n ∧ σ.R[m]? = some l) := by
      intro m l h
      simp only [St.setT, List.getElem?_set] at h
      split at h
      · rename_i e; subst e
        first | (rw [if_pos hlt] at h; injection h with h; exact .inl ⟨rfl, h.symm⟩) | (injection h with h; exact .inl ⟨rfl, h.symm⟩)
      · rename_i e; exact .inr ⟨fun h => e h.symm, h⟩
    rcases get n1 l h1 with ⟨rfl, rfl⟩ | ⟨e1, g1⟩ <;> rcases get m l' h2 with ⟨rfl, rfl⟩ | ⟨e2, g2⟩
    · rfl
    · rw [addT_same] at h3; injection h3 with h3; subst h3
      rw [addT_ne _ (old l' (List.mem_of_getElem? g2))] at h4
      exact absurd h6 ((hnew h5).2.2.2 m l' g u e2 g2 h4)
    · rw [addT_same] at h4; injection h4 with h4; subst h4
      rw [addT_ne _ (old l (List.mem_of_getElem? g1))] at h3
      exact absurd h5 ((hnew h6).2.2.2 n1 l f t e1 g1 h3)
    · rw [addT_ne _ (old l (List.mem_of_getElem? g1))] at h3
      rw [addT_ne _ (old l' (List.mem_of_getElem? g2))] at h4
      exact hi.rinj n1 m l l' b f t g u g1 g2 h3 h4 h5 h6

theorem append_room_run {t1 t2 ty : TypeId} {e e2 sz : Nat} {base : Option Addr} {sLen sCap n : Nat} {vy : Value} {vs : Array Value}
    (u1 : (underlying t1).run P w = .ok (.slice e) w) (u2 : (underlying t2).run P w = .ok (.slice e2) w) (us : (sizeOf e).run P w = .ok sz w)
    (hn : (Builtin.lenOf vy).run P w = .ok n w) (hv : (Builtin.firstCells sz n vy).run P w = .ok vs w) (hle : sLen + n ≤ sCap) {w1 : World}
    (hst : (match base with | some a => storeCells (a.add (sLen * sz)) vs.toList | none => pure ()).run P w = .ok () w1) :
    (Builtin.append_ #[t1, t2] ty #[.slice base sLen sCap, vy]).run P w = .ok (.slice base (sLen + n) sCap) w1 := by
  simp only [Builtin.append_]
  cases base with
  | none =>
    simp only [Sem.run_pure] at hst
    injection hst with _ hst; subst hst
    simp [u1, u2, us, hn, hv, hle]
  | some ad => simp [u1, u2, us, hn, hv, hle, hst]

theorem append_grow_run {t1 t2 ty : TypeId} {e e2 : Nat} {ie : TypeInfo} {base : Option Addr} {sLen sCap n : Nat} {vy z : Value} {old vs : Array Value}
    (u1 : ∀ w, (underlying t1).run P w = .ok (.slice e) w) (u2 : ∀ w, (underlying t2).run P w = .ok (.slice e2) w) (us : ∀ w, (sizeOf e).run P w = .ok ie.size w) (ui : ∀ w, (typeInfo e).run P w = .ok ie w) (uz : ∀ w, (zeroValue e).run P w = .ok z w)
    (hn : (Builtin.lenOf vy).run P w = .ok n w) (hlt : sCap < sLen + n) (hbound : sLen + n ≤ 4294967296) (hby : ie.bytes ≤ 4096) (hby0 : ie.bytes ≠ 0 ∨ True)
    (hold : (Builtin.firstCells ie.size sLen (.slice base sLen sCap)).run P w.drew = .ok old w.drew) (hv : (Builtin.firstCells ie.size n vy).run P w.drew = .ok vs w.drew) :
    ∃ newCap, sLen + n ≤ newCap ∧ (Builtin.append_ #[t1, t2] ty #[.slice base sLen sCap, vy]).run P w =
      .ok (.slice (some ⟨w.heap.size, 0, none⟩) (sLen + n) newCap) (w.drew.alloc (.cells (old ++ vs ++ Builtin.zeroCells z.cells (newCap - (sLen + n))) e)) := by
  have hb1 : ¬ (Builtin.nextslicecap (sLen + n) sCap * ie.bytes > 2 ^ 48) := by
    have h1 := nextslicecap_le (sLen + n) sCap hlt
    have h2 : Builtin.nextslicecap (sLen + n) sCap * ie.bytes ≤ 8589935360 * 4096 := Nat.mul_le_mul (by omega) hby
    omega
  have hb2 : ¬ (((sLen + n : Nat) : Int) > IntKind.i64.max ∧ (False ∨ ie.bytes = 0)) := by
    intro ⟨h, _⟩
    have : IntKind.i64.max = 9223372036854775807 := by decide
    omega
  refine ⟨(Question.appendCap (sLen + n) sCap e).cut (w.tape w.drawn (.appendCap (sLen + n) sCap e)), by simp only [Question.cut]; omega, ?_⟩
  have hnle : ¬ (sLen + n ≤ sCap) := by omega
  have hb3 : ¬ (281474976710656 < Builtin.nextslicecap (sLen + n) sCap * ie.bytes) := by omega
  have hb4 : ¬ (9223372036854775807 < (sLen : Int) + (n : Int) ∧ ie.bytes = 0) := by intro ⟨h, _⟩; omega
  have hfo : (Question.appendCap (sLen + n) sCap e).forced = false := rfl
  simp only [Builtin.append_]
  simp [u1, u2, us, ui, uz, hn, hnle, hold, hv, hb3, hb4, hfo, newRow]

def Scal (ys : List T) : Prop := ∀ c, c ∈ flat ys → c.scalar = true


theorem append_coreX (hG : Fits P G) {o : Oper} {x y : Operand} {t1 t2 : TypeId} {e sz : Nat} {i1 i2 ie : TI} {n k0 : Nat} {xs ys : List T} {ty : T} {K : Env → St → Prop}
    (ho : o.op = .call { callee := .builtin .append, args := #[x, y], argTypes := #[t1, t2] }) (h1 : G t1 = some i1) (h1d : i1.d = .slice e) (he : G e = some ie) (h2 : G t2 = some i2) (h2d : ∃ e2, i2.d = .slice e2)
    {av : Act} {next : Act → World → Prop} {Qc : Exit → Act → World → Prop} (hi : Inv w μ σ) (hr : RelA w μ σ N av a) (rx : Rel w μ σ (av.eval x) (.sl sz (.tok k0) xs)) (ry : Rel w μ σ (av.eval y) ty)
    {objs : Nat → Option Ob} (hob : ∀ i o, objs i = some o → (i, o) ∈ σ.L) (hsrc : srcOf objs sz ty = some ys) (hsz : (Nat.beq sz ie.size && Nat.blt 0 sz && Nat.ble ie.bytes 4096) = true)
    (hnx : ys = [] → σ.nx = none) (hRn : σ.R[n]? = some k0) (hsc : Scal ys) (hlen : xs.length + ys.length ≤ 4294967296) (hd : Ai N o.dst = true)
    (hn : ∀ av' w' μ' a' σ', Ev w μ σ w' μ' σ' → Inv w' μ' σ' → RelA w' μ' σ' N av' a' → K a' σ' → next av' w')
    (k : ∀ k', (∀ m, σ.nx = some m → k' = m) → K (put a o.dst (.sl sz (.tok k') (xs ++ ys))) (σ.setT n k')) : Oper.wp P o av w next Qc := by
  simp only [Bool.and_eq_true] at hsz
  obtain rfl : sz = ie.size := Nat.eq_of_beq_eq_true hsz.1.1
  have hsz0 : 0 < ie.size := by have := hsz.1.2; simpa [Nat.blt_eq] using this
  have hby := Nat.le_of_ble_eq_true hsz.2
  obtain ⟨e2, h2d⟩ := h2d
  obtain ⟨d1, u1, f1⟩ := Aq (P := P) (w := w) hG h1
  rw [h1d] at f1; obtain rfl := A0 f1
  obtain ⟨d2, u2, f2⟩ := Aq (P := P) (w := w) hG h2
  rw [h2d] at f2; obtain rfl := A0 f2
  have us := g_size (P := P) (w := w) hG he
  obtain ⟨s1, s2, vs, s3, s4, s5⟩ := srcOf_run (P := P) hi hob ry hsrc
  have hexec : (execOp av.eval o).run P w = ((Builtin.append_ #[t1, t2] o.type #[av.eval x, av.eval y]).run P w).andThen fun v w' => .ok (.value v) w' := by
    simp [execOp, ho, resolve, invoke, builtin]
  have hfl := flat_length s2
  have hin := List.mem_of_getElem? hRn
  obtain ⟨k', hfl', hft', hfn', hfj'⟩ := hi.pick
  have hkne : ∀ l, l ∈ σ.R → l ≠ k' := by
    rintro l hl rfl
    obtain ⟨b', f', t', q1, _⟩ := hi.room l hl
    rw [hft'] at q1; cases q1
  have hself : σ.nx = none → σ.setT n k0 = σ := by
    intro hnx0
    rw [setT_eq _ _ _ hnx0]
    unfold St.tk
    have : σ.R.set n k0 = σ.R := by
      apply List.ext_getElem?
      intro m
      rw [List.getElem?_set]
      split
      · rename_i e; subst e; first | (rw [if_pos (Bk hRn)]; exact hRn.symm) | exact hRn.symm
      · rfl
    rw [this]
  -- the two ways out
  have stay : ∀ (vx : Value) (base : Option Addr) (len cap : Nat), av.eval x = vx → vx = .slice base len cap → Rel w μ σ vx (.sl ie.size (.tok k0) xs) → ys = [] → len ≤ cap →
      Oper.wp P o av w next Qc := by
    intro vx base len cap hvx hb r hy0 hle
    subst hy0
    have hvs : vs.toList = [] := by
      have : vs.size = 0 := by rw [s4]; rfl
      exact List.eq_nil_of_length_eq_zero (by simpa using this)
    have hr1 := append_room_run (P := P) (ty := o.type) u1 u2 us s1 (s3 w rfl) (sLen := len) (sCap := cap) (base := base) (by simpa using hle) (w1 := w) (by
      cases base with
      | none => rfl
      | some ad => simp [hvs, storeCells])
    unfold Oper.wp
    rw [hexec, hvx, hb, hr1]
    simp only [List.length_nil, Nat.add_zero, Result.andThen_ok]
    have hnx0 := hnx rfl
    have hk0 := k k0 (fun m hm => by rw [hnx0] at hm; cases hm)
    rw [hself hnx0] at hk0
    exact hn _ _ _ _ _ (.refl _ _ _) hi (hr.put hd (by rw [List.append_nil, ← hb]; exact r)) hk0
  have grow : ∀ (vx : Value) (base : Option Addr) (cap : Nat) (old : Array Value), av.eval x = vx → vx = .slice base xs.length cap → cap < xs.length + ys.length → sized ie.size xs →
      (∀ w1 : World, w1.heap = w.heap → (Builtin.firstCells ie.size xs.length (.slice base xs.length cap)).run P w1 = .ok old w1) → old.size = (flat xs).length →
      (∀ (k : Nat) (c : T) (u : Value), (flat xs)[k]? = some c → old[k]? = some u → Rel w μ σ u c) → Oper.wp P o av w next Qc := by
    intro vx base cap old hvx hb hlt hsx hold hos hor
    obtain ⟨info, ui, hib, his⟩ := g_info (P := P) (w := w) hG he
    have ui' : ∀ w, (typeInfo e).run P w = .ok info w := by
      intro w2
      obtain ⟨i0, d0, k1, k2, _⟩ := hG e ie he
      have e1 : (typeInfo e).run P w = .ok i0 w := by simp [typeInfo, k1]
      rw [ui] at e1; injection e1 with e1; subst e1
      simp [typeInfo, k1]
    obtain ⟨z, uz, rz, hz1, hz2⟩ := g_zero (P := P) (w := w) (μ := μ) (σ := σ) hG he
    have uz' : ∀ w, (zeroValue e).run P w = .ok z w := by
      intro w2
      obtain ⟨i0, d0, k1, k2, k3, k4, k5, k6, _⟩ := hG e ie he
      have e1 : ∀ w, (zeroValue e).run P w = .ok (if ie.d.agg then .agg (ie.zero.map Z.value).toArray else (ie.zero.headD .b).value) w := by
        intro w; simp only [zeroValue, typeInfo, Sem.run_bind, run_program, Result.andThen_ok, k1, k6, Sem.run_pure]
      rw [e1] at uz; injection uz with uz; rw [e1, uz]
    have u1' : ∀ w, (underlying t1).run P w = .ok (.slice e) w := by
      intro w2; obtain ⟨d, u, f⟩ := Aq (P := P) (w := w2) hG h1; rw [h1d] at f; obtain rfl := A0 f; exact u
    have u2' : ∀ w, (underlying t2).run P w = .ok (.slice e2) w := by
      intro w2; obtain ⟨d, u, f⟩ := Aq (P := P) (w := w2) hG h2; rw [h2d] at f; obtain rfl := A0 f; exact u
    obtain ⟨newCap, hnc, hrun⟩ := append_grow_run (P := P) (ty := o.type) (ie := info) (base := base) (sLen := xs.length) (sCap := cap) (vy := av.eval y) (old := old) (vs := vs) (n := ys.length) u1' u2' (fun w => by rw [his]; exact g_size hG he) ui' uz' s1 hlt (by omega) (by omega) (.inr trivial)
      (by rw [his]; exact hold w.drew rfl) (by rw [his]; exact s3 w.drew rfl)
    have ev1 : Ev w μ σ w.drew μ σ := ev_same rfl rfl rfl rfl
    have hi1 : Inv w.drew μ σ := hi.ev_heap rfl ev1
    generalize hrest : Builtin.zeroCells z.cells (newCap - (xs.length + ys.length)) = rest at hrun
    have hrs : rest.size = (newCap - (xs.length + ys.length)) * ie.size := by rw [← hrest, zeroCells_size, hz1]
    have hflx := flat_length hsx
    have hcs : (old ++ vs ++ rest).size = newCap * ie.size := by
      rw [Array.size_append, Array.size_append, hos, s4, hflx, hfl, hrs, ← Nat.add_mul, ← Nat.add_mul]
      congr 1; omega
    obtain ⟨own', hown'⟩ : ∃ x : Nat × Nat × Nat, x = (w.heap.size, (xs.length + ys.length) * ie.size, newCap * ie.size) := ⟨_, rfl⟩
    have ho1 : own'.1 = w.heap.size := by rw [hown']
    have ho2 : own'.2.1 = (xs.length + ys.length) * ie.size := by rw [hown']
    have ho3 : own'.2.2 = newCap * ie.size := by rw [hown']
    have hle' : (xs.length + ys.length) * ie.size ≤ newCap * ie.size := Nat.mul_le_mul_right _ hnc
    have hheap : (w.drew.alloc (.cells (old ++ vs ++ rest) e)).heap[w.heap.size]? = some (.cells (old ++ vs ++ rest) e) := Bl w.drew _
    have ev2 : Ev w.drew μ σ (w.drew.alloc (.cells (old ++ vs ++ rest) e)) (μ.addT k' own') (σ.setT n k') := by
      refine ev_new hi1 (fun _ _ h => h) (addT_mono hft') rfl (fun i o b p q1 q2 q3 => ⟨o, i, p, q1, q2⟩) (fun l b f t q1 q2 q3 q4 => ?_)
      rcases setT_mem q1 with rfl | q1
      · rw [addT_same] at q2; injection q2 with q2
        have : own'.1 = b := by rw [q2]
        have : b < w.heap.size := q4
        omega
      · rw [addT_ne _ (hkne l q1)] at q2; exact ⟨q1, q2⟩
    have hi2 : Inv (w.drew.alloc (.cells (old ++ vs ++ rest) e)) (μ.addT k' own') (σ.setT n k') := by
      refine room_inv hi1 hRn hfl' hft' hfj' (by omega) ev2 (fun i b p ⟨o, q1⟩ q2 => A9 w.drew _ (hi1.lts q1 q2)) (fun l b f t q1 q2 q3 c e q4 => ⟨c, by rw [A9 w.drew _ (Array.getElem?_eq_some_iff.1 q4).1]; exact q4, rfl⟩) (fun hlt2 => ?_)
      refine ⟨⟨_, e, by rw [ho1]; exact hheap, by rw [hcs, ho3]; exact Nat.le_refl _⟩, fun i ob p q1 q2 => ?_, fun o q1 q2 q3 => ?_, fun m l f t q1 q2 q3 q4 => ?_⟩
      · have := hi.lts q1 q2; omega
      · have := hi.offlt _ _ q3; omega
      · obtain ⟨b', f', t', r1, r2, r3⟩ := hi.room l (List.mem_of_getElem? q2)
        rw [q3] at r1; injection r1 with r1; injection r1 with r1 r4; injection r4 with r4 r5
        subst r4; subst r5
        obtain ⟨⟨c, e', r6, _⟩, _⟩ := r3 q4
        have := (Array.getElem?_eq_some_iff.1 r6).1; omega
    have evA := ev1.trans ev2
    have hrel : Rel (w.drew.alloc (.cells (old ++ vs ++ rest) e)) (μ.addT k' own') (σ.setT n k') (.slice (some ⟨w.heap.size, 0, none⟩) (xs.length + ys.length) newCap) (.sl ie.size (.tok k') (xs ++ ys)) := by
      refine sl_mk (by simp) hnc ⟨own', addT_same _ _, .inl (by rw [hown']; simp)⟩ (sized_append hsx s2) (fun q c hk => ?_)
      have hklt : q < (xs.length + ys.length) * ie.size := by
        rcases Nat.lt_or_ge q (flat (xs ++ ys)).length with h | h
        · rw [flat_append, List.length_append, hflx, hfl, ← Nat.add_mul] at h; exact h
        · rw [List.getElem?_eq_none h] at hk; cases hk
      have hkc : q < (old ++ vs ++ rest).size := by rw [hcs]; exact Nat.lt_of_lt_of_le hklt (Nat.mul_le_mul_right _ hnc)
      have hcell : (w.drew.alloc (.cells (old ++ vs ++ rest) e)).cell? ⟨w.heap.size, 0 + q, none⟩ = some (old ++ vs ++ rest)[q] := by
        simp only [World.cell?, hheap, Nat.zero_add]
        simp [hkc]
      refine ⟨⟨(Array.getElem?_eq_some_iff.1 hheap).1, fun h => absurd (hi.offlt _ _ h) (Nat.lt_irrefl _), fun i ob p q1 q2 => absurd (hi.lts q1 q2) (Nat.lt_irrefl _), fun l f t q1 q2 => ?_⟩, _, hcell, ?_⟩
      · rcases setT_mem q1 with rfl | q1
        · rw [addT_same, hown'] at q2; injection q2 with q2; injection q2 with q2 q3; injection q3 with q3 q4; omega
        · rw [addT_ne _ (hkne l q1)] at q2
          obtain ⟨b', f', t', r1, r2, r3⟩ := hi.room l q1
          rw [q2] at r1; injection r1 with r1; injection r1 with r1 r4; injection r4 with r4 r5
          subst r4; subst r5
          intro ⟨q5, q6⟩
          obtain ⟨⟨c, e', r6, _⟩, _⟩ := r3 (by omega)
          have := (Array.getElem?_eq_some_iff.1 r6).1; omega
      · refine Rel.ev (w := w) ?_ evA
        rw [flat_append] at hk
        have hget : (old ++ vs ++ rest)[q]? = some (old ++ vs ++ rest)[q] := Array.getElem?_eq_getElem hkc
        generalize (old ++ vs ++ rest)[q] = u at hget ⊢
        rcases Nat.lt_or_ge q (flat xs).length with h | h
        · rw [List.getElem?_append_left h] at hk
          rw [Array.append_assoc, Array.getElem?_append_left (by omega)] at hget
          exact hor q c u hk hget
        · rw [List.getElem?_append_right h] at hk
          have h2 : q - (flat xs).length < (flat ys).length := Bk hk
          rw [Array.append_assoc, Array.getElem?_append_right (by omega), hos, Array.getElem?_append_left (by omega)] at hget
          exact s5 _ c u hk hget
    unfold Oper.wp
    rw [hexec, hvx, hb, hrun]
    exact hn _ _ _ _ _ evA hi2 ((hr.ev evA).put hd hrel) (k k' hfn')
  generalize hvx : av.eval x = vx at *
  cases rx with
  | slnil sz own1 h0 =>
    cases ys with
    | nil => exact stay _ none 0 0 rfl rfl (.slnil _ _ h0) rfl (Nat.le_refl _)
    | cons y0 ys =>
      exact grow _ none 0 #[] rfl rfl (by simp) (fun i x hx => by simp at hx) (fun _ _ => rfl) rfl (fun k c u hk => by simp [flat] at hk)
  | slz ad sz own1 h0 =>
    cases ys with
    | nil => exact stay _ (some ad) 0 0 rfl rfl (.slz ad _ _ h0) rfl (Nat.le_refl _)
    | cons y0 ys =>
      exact grow _ (some ad) 0 #[] rfl rfl (by simp) (fun i x hx => by simp at hx) (fun _ _ => by simp [Builtin.firstCells, loadCells, loadCellsFrom]) rfl (fun k c u hk => by simp [flat] at hk)
  | sl b p cap sz own1 xs nn hxn hc hown hs h0 r0 =>
    have rx' : Rel w μ σ (.slice (some ⟨b, p, none⟩) nn cap) (.sl ie.size (.tok k0) xs) := .sl b p cap _ (.tok k0) xs nn hxn hc hown hs h0 r0
    subst hxn
    by_cases hy0 : ys = []
    · exact stay _ _ _ _ rfl rfl rx' hy0 hc
    · have hypos : 0 < ys.length := List.length_pos_iff.2 hy0
      rcases Nat.lt_or_ge cap (xs.length + ys.length) with hlt | hge
      · obtain ⟨q1, q2, old, q3, q4, q5⟩ := srcOf_run (P := P) (sz := ie.size) hi (objs := fun _ => none) (fun i o h => by cases h) rx' (ys := xs) (by simp [srcOf])
        exact grow _ _ cap old rfl rfl hlt q2 q3 q4 q5
      · -- in place
        have hmul : xs.length * ie.size < cap * ie.size := Nat.mul_lt_mul_of_pos_right (by omega) hsz0
        obtain ⟨own, htok, hown⟩ := hown
        have hown0 : own = (b, p + xs.length * ie.size, p + cap * ie.size) := by
          rcases hown with h | h
          · exact h
          · have := h.1; omega
        subst hown0
        obtain ⟨b', f', t', r1, hft, r3⟩ := hi.room k0 hin
        rw [htok] at r1; injection r1 with r1; injection r1 with r1 r4; injection r4 with r4 r5
        subst r1; subst r4; subst r5
        obtain ⟨⟨c, el, hheap, htc⟩, hnob, hnoff⟩ := r3 (by omega)
        have hvl : vs.toList.length = ys.length * ie.size := by rw [Array.length_toList, s4, hfl]
        have hsum : xs.length * ie.size + ys.length * ie.size ≤ cap * ie.size := by rw [← Nat.add_mul]; exact Nat.mul_le_mul_right _ hge
        have hone : ∀ v ∈ vs.toList, v.oneCell' = true := by
          intro v hv
          obtain ⟨j, hj, hjv⟩ := List.getElem_of_mem hv
          have hj' : j < (flat ys).length := by rw [Array.length_toList] at hj; omega
          refine (s5 j (flat ys)[j] v (List.getElem?_eq_getElem hj') ?_).scalar (hsc _ (List.getElem_mem hj'))
          rw [← hjv]; simp
        have hst := run_storeCells_at (P := P) b (p + xs.length * ie.size) el vs.toList 0 c w hheap (by omega) hone
        generalize hc' : (c.toList.take (p + xs.length * ie.size + 0) ++ vs.toList ++ c.toList.drop (p + xs.length * ie.size + 0 + vs.toList.length)).toArray = c' at hst
        have hc'size : c'.size = c.size := by rw [← hc']; simp; omega
        have hrun := append_room_run (P := P) (ty := o.type) u1 u2 us s1 (s3 w rfl) (sLen := xs.length) (sCap := cap) (base := some ⟨b, p, none⟩) hge (w1 := w.setRow b c') (by
          simp only [add_at]; exact hst)
        have hh1 : (w.setRow b c').heap[b]? = some (.cells c' el (0, 0)) := setRow_heap w b c c' el (0, 0) hheap
        have hc'get : ∀ q, (q < p + xs.length * ie.size ∨ p + xs.length * ie.size + ys.length * ie.size ≤ q) → c'[q]? = c[q]? := by
          intro q hq
          rw [← hc', List.getElem?_toArray]
          have hl1 : (c.toList.take (p + xs.length * ie.size + 0)).length = p + xs.length * ie.size := by simp; omega
          rcases hq with hq | hq
          · rw [List.append_assoc, List.getElem?_append_left (by omega), List.getElem?_take, if_pos (by omega)]; simp
          · rw [List.append_assoc, List.getElem?_append_right (by omega), hl1, List.getElem?_append_right (by omega), List.getElem?_drop, hvl,
              show p + xs.length * ie.size + 0 + ys.length * ie.size + (q - (p + xs.length * ie.size) - ys.length * ie.size) = q by omega]
            simp
        have hc'new : ∀ q, q < ys.length * ie.size → c'[p + xs.length * ie.size + q]? = vs[q]? := by
          intro q hq
          rw [← hc', List.getElem?_toArray]
          have hl1 : (c.toList.take (p + xs.length * ie.size + 0)).length = p + xs.length * ie.size := by simp; omega
          rw [List.append_assoc, List.getElem?_append_right (by omega), hl1, List.getElem?_append_left (by omega), show p + xs.length * ie.size + q - (p + xs.length * ie.size) = q by omega]
          simp
        have hrooms : ∀ l g u, l ∈ (σ.setT n k').R → (μ.addT k' (b, p + xs.length * ie.size + ys.length * ie.size, p + cap * ie.size)).tok l = some (b, g, u) → g < u → p + xs.length * ie.size + ys.length * ie.size ≤ g ∧ u ≤ p + cap * ie.size := by
          intro l g u q1 q2 q3
          obtain ⟨m, hm⟩ := List.getElem?_of_mem q1
          simp only [St.setT, List.getElem?_set] at hm
          split at hm
          · rename_i e; subst e
            have hm' : k' = l := by first | (rw [if_pos (Bk hRn)] at hm; injection hm) | injection hm
            subst hm'
            rw [addT_same] at q2; injection q2 with q2; injection q2 with q2 q4; injection q4 with q4 q5
            omega
          · rename_i e
            rw [addT_ne _ (hkne l (List.mem_of_getElem? hm))] at q2
            exact absurd (hi.rinj n m k0 l b _ _ g u hRn hm htok q2 (by omega) q3) e
        have ev : Ev w μ σ (w.setRow b c') (μ.addT k' (b, p + xs.length * ie.size + ys.length * ie.size, p + cap * ie.size)) (σ.setT n k') := by
          refine ⟨⟨rfl, rfl, rfl, by simp, fun k hk => by omega⟩, fun _ _ h => h, addT_mono hft', rfl, fun x m ⟨c2, e2, f2, q1, q2⟩ => ?_, fun x hx hlv => ?_, fun x q hx => ?_⟩
          · by_cases h : x = b
            · subst h
              rw [hheap] at q1; injection q1 with q1; injection q1 with q1; subst q1
              exact ⟨c', el, _, hh1, by omega⟩
            · exact ⟨c2, e2, f2, by rw [setRow_other w b x c' h]; exact q1, q2⟩
          · have hne : x ≠ b := by rintro rfl; exact hlv (.inr ⟨k0, _, _, hin, htok, by omega⟩)
            refine ⟨?_, setRow_other w b x c' hne⟩
            rintro (h | ⟨l, g, u, q1, q2, q3⟩)
            · exact hlv (.inl h)
            · rcases setT_mem q1 with rfl | q1
              · rw [addT_same] at q2; injection q2 with q2; injection q2 with q2; exact hne q2.symm
              · rw [addT_ne _ (hkne l q1)] at q2; exact hlv (.inr ⟨l, g, u, q1, q2, q3⟩)
          · by_cases h : x = b
            · subst h
              have hout := hx.room k0 _ _ hin htok
              refine ⟨⟨by have := hx.lt; simpa using this, hx.off, hx.obj, fun l g u q1 q2 q3 => ?_⟩, ?_⟩
              · have := hrooms l g u q1 q2 (by omega); omega
              · simp only [World.cell?, hh1, hheap]; simp [hc'get q (by omega)]
            · refine ⟨⟨by have := hx.lt; simpa using this, hx.off, hx.obj, fun l g u q1 q2 => ?_⟩, cell_of_heap (setRow_other w b x c' h) q⟩
              rcases setT_mem q1 with rfl | q1
              · rw [addT_same] at q2; injection q2 with q2; injection q2 with q2; exact absurd q2.symm h
              · rw [addT_ne _ (hkne l q1)] at q2; exact hx.room l g u q1 q2
        have hi' : Inv (w.setRow b c') (μ.addT k' (b, p + xs.length * ie.size + ys.length * ie.size, p + cap * ie.size)) (σ.setT n k') := by
          refine room_inv hi hRn hfl' hft' hfj' (by show p + xs.length * ie.size + ys.length * ie.size ≤ p + cap * ie.size; omega) ev (fun i b2 p2 ⟨ob, q1⟩ q2 => setRow_other w b b2 c' (by rintro rfl; exact hnob i ob p2 q1 q2)) (fun l b2 f t q1 q2 q3 c2 e2 q4 => ?_) (fun hlt2 => ?_)
          · by_cases h : b2 = b
            · subst h
              rw [hheap] at q4; injection q4 with q4; injection q4 with q4 q5; subst q4; subst q5
              exact ⟨c', hh1, hc'size⟩
            · exact ⟨c2, by rw [setRow_other w b b2 c' h]; exact q4, rfl⟩
          · refine ⟨⟨c', el, hh1, by rw [hc'size]; exact htc⟩, hnob, fun q q1 q2 => hnoff q (by have : p + xs.length * ie.size + ys.length * ie.size ≤ q := q1; omega) q2, fun m l f t q1 q2 q3 q4 => ?_⟩
            exact q1 (hi.rinj n m k0 l b _ _ f t hRn q2 htok q3 (by omega) q4).symm
        have hflx := flat_length hs
        have hrel : Rel (w.setRow b c') (μ.addT k' (b, p + xs.length * ie.size + ys.length * ie.size, p + cap * ie.size)) (σ.setT n k') (.slice (some ⟨b, p, none⟩) (xs.length + ys.length) cap) (.sl ie.size (.tok k') (xs ++ ys)) := by
          refine sl_mk (by simp) hge ⟨_, addT_same _ _, .inl ?_⟩ (sized_append hs s2) (fun q c0 hk => ?_)
          · rw [Nat.add_mul]; congr 2; omega
          · rw [flat_append] at hk
            rcases Nat.lt_or_ge q (flat xs).length with h | h
            · rw [List.getElem?_append_left h] at hk
              obtain ⟨i, j, x0, rfl, hx0, hj0⟩ := flat_get hs hk
              obtain ⟨hI, v, hv⟩ := h0 i x0 j c0 hx0 hj0
              rw [← Nat.add_assoc]
              exact ⟨(ev.imm _ _ hI).1, v, (ev.imm _ _ hI).2.trans hv, (r0 i x0 j c0 v hx0 hj0 hv).ev ev⟩
            · rw [List.getElem?_append_right h] at hk
              have h2 : q - (flat xs).length < (flat ys).length := Bk hk
              have hvk : vs[q - (flat xs).length]? = some vs[q - (flat xs).length] := Array.getElem?_eq_getElem (by omega)
              have hnew := hc'new (q - (flat xs).length) (by omega)
              rw [show p + xs.length * ie.size + (q - (flat xs).length) = p + q by omega, hvk] at hnew
              refine ⟨⟨by rw [setRow_size]; exact (Array.getElem?_eq_some_iff.1 hheap).1, hnoff (p + q) (by omega) (by omega), fun i ob p2 => hnob i ob p2, fun l g u q1 q2 q3 => ?_⟩, _, ?_, (s5 _ c0 _ hk hvk).ev ev⟩
              · have := hrooms l g u q1 q2 (by omega); omega
              · simp only [World.cell?, hh1]; simpa using hnew
        unfold Oper.wp
        rw [hexec, hrun]
        exact hn _ _ _ _ _ ev hi' ((hr.ev ev).put hd hrel) (k k' hfn')

theorem aop_append (hG : Fits P G) {o : Oper} {x y : Operand} {t1 t2 : TypeId} {e sz : Nat} {i1 i2 ie : TI} {n k0 : Nat} {xs ys : List T} {ty : T} {K : Env → St → Prop}
    (ho : o.op = .call { callee := .builtin .append, args := #[x, y], argTypes := #[t1, t2] }) (h1 : G t1 = some i1) (h1d : i1.d = .slice e) (he : G e = some ie) (h2 : G t2 = some i2) (h2d : ∃ e2, i2.d = .slice e2)
    (hx : Ad a x = some (.sl sz (.tok k0) xs)) (hy : Ad a y = some ty) (hsrc : srcOf (fun _ => none) sz ty = some ys) (hsz : (Nat.beq sz ie.size && Nat.blt 0 sz && Nat.ble ie.bytes 4096) = true)
    (hnx : σ.nx = none) (hRn : σ.R[n]? = some k0) (hsc : Scal ys) (hlen : xs.length + ys.length ≤ 4294967296) (hd : Ai N o.dst = true)
    (k : ∀ k', K (put a o.dst (.sl sz (.tok k') (xs ++ ys))) (σ.tk n k')) : AOp P N o a σ K :=
  fun av w μ hi hr next Qc hn => append_coreX hG ho h1 h1d he h2 h2d hi hr (Al hr hx) (Al hr hy) (objs := fun _ => none) (fun i o h => by cases h) hsrc hsz (fun _ => hnx) hRn hsc hlen hd hn (fun k' _ => by rw [setT_eq _ _ _ hnx]; exact k k')

def noRoom : T → Option (List T)
  | .nilsl => some []
  | .sl _ .full xs => some xs
  | _ => none
def noRoomSz (sz : Nat) : T → Bool
  | .nilsl => true
  | .sl sz' .full _ => Nat.beq sz' sz
  | _ => false
theorem noRoom_rel {v : Value} {t : T} {sz : Nat} {xs : List T} (r : Rel w μ σ v t) (h1 : noRoom t = some xs) (h2 : noRoomSz sz t = true) : Rel w μ σ v (.sl sz .full xs) := by
  unfold noRoom at h1
  split at h1
  · injection h1 with h1; subst h1; exact Wk.nil0 sz _ _ _ _ r
  · injection h1 with h1; subst h1
    obtain rfl := Nat.eq_of_beq_eq_true h2
    exact r
  · cases h1
theorem aop_append0 (hG : Fits P G) {o : Oper} {x y : Operand} {t1 t2 : TypeId} {e sz : Nat} {i1 i2 ie : TI} {xs ys : List T} {tx ty : T} {K : Env → St → Prop}
    (ho : o.op = .call { callee := .builtin .append, args := #[x, y], argTypes := #[t1, t2] }) (h1 : G t1 = some i1) (h1d : i1.d = .slice e) (he : G e = some ie) (h2 : G t2 = some i2) (h2d : ∃ e2, i2.d = .slice e2)
    (hx : Ad a x = some tx) (hnr : noRoom tx = some xs) (hnz : noRoomSz sz tx = true) (hy : Ad a y = some ty) (hsrc : srcOf (fun _ => none) sz ty = some ys) (hsz : (Nat.beq sz ie.size && Nat.blt 0 sz && Nat.ble ie.bytes 4096) = true)
    (hnx : σ.nx = none) (hsc : Scal ys) (hlen : xs.length + ys.length ≤ 4294967296) (hd : Ai N o.dst = true)
    (k : ∀ k', K (put a o.dst (.sl sz (.tok k') (xs ++ ys))) { σ with R := k' :: σ.R }) : AOp P N o a σ K := by
  intro av w μ hi hr next Qc hn
  have rx := noRoom_rel (Al hr hx) hnr hnz
  obtain ⟨k1, f1, f2, f3, f4⟩ := hi.pick
  obtain ⟨x0, hx0, hown⟩ : ∃ x0 : Nat × Nat × Nat, x0.2.1 = x0.2.2 ∧ ∀ w μ' σ', Rel w μ' σ' (av.eval x) (.sl sz .full xs) → μ'.tok k1 = some x0 → Rel w μ' σ' (av.eval x) (.sl sz (.tok k1) xs) := by
    generalize av.eval x = vx at rx
    cases rx with
    | slnil => exact ⟨(0, 0, 0), rfl, fun w μ' σ' r h => .slnil _ _ ⟨_, h, rfl⟩⟩
    | slz ad => exact ⟨(0, 0, 0), rfl, fun w μ' σ' r h => .slz ad _ _ ⟨_, h, rfl⟩⟩
    | sl b p cap sz own xs n hn hc ho hs h0 r0 =>
      refine ⟨(b, p + n * sz, p + cap * sz), ho, fun w μ' σ' r h => ?_⟩
      cases r with
      | slz ad => exact .slz _ _ _ ⟨_, h, ho⟩
      | sl b p cap sz own xs n hn hc ho hs h0 r0 => exact .sl b p cap sz _ xs n hn hc ⟨_, h, .inl rfl⟩ hs h0 r0
  obtain ⟨ev1, hi1⟩ := tok_step hi hnx f1 f2 f4 x0 hx0
  have hr1 := hr.ev ev1
  refine append_coreX (σ := { σ with R := k1 :: σ.R }) (n := 0) hG ho h1 h1d he h2 h2d hi1 hr1 (hown _ _ _ (rx.ev ev1) (addT_same _ _)) (Al hr1 hy) (objs := fun _ => none) (fun i o h => by cases h) hsrc hsz (fun _ => hnx) rfl hsc hlen hd
    (fun av' w' μ' a' σ' q1 q2 q3 q4 => hn av' w' μ' a' σ' (ev1.trans q1) q2 q3 q4) (fun k' _ => by
      rw [show ({ σ with R := k1 :: σ.R } : St).setT 0 k' = { σ with R := k' :: σ.R } from by cases σ; simp only at hnx; subst hnx; rfl]
      exact k k')
theorem Bm (hG : Fits P G) {o : Oper} {x y : Operand} {t1 t2 : TypeId} {e : Nat} {i1 i2 ie : TI} {tx ty : T} {K : Env → St → Prop}
    (ho : o.op = .call { callee := .builtin .append, args := #[x, y], argTypes := #[t1, t2] }) (h1 : G t1 = some i1) (h1d : i1.d = .slice e) (he : G e = some ie) (h2 : G t2 = some i2) (h2d : ∃ e2, i2.d = .slice e2)
    (hx : Ad a x = some tx) (hsl : (match tx with | .nilsl => true | .sl .. => true | .aref .. => true | _ => false) = true) (hy : Ad a y = some ty) {objs : Nat → Option Ob} (hob : ∀ i o, objs i = some o → (i, o) ∈ σ.L) (hsrc : srcOf objs ie.size ty = some []) (hd : Ai N o.dst = true)
    (k : K (put a o.dst tx) σ) : AOp P N o a σ K := by
  intro av w μ hi hr next Qc hn
  obtain ⟨e2, h2d⟩ := h2d
  obtain ⟨d1, u1, f1⟩ := Aq (P := P) (w := w) hG h1
  rw [h1d] at f1; obtain rfl := A0 f1
  obtain ⟨d2, u2, f2⟩ := Aq (P := P) (w := w) hG h2
  rw [h2d] at f2; obtain rfl := A0 f2
  have us := g_size (P := P) (w := w) hG he
  have rx := Al hr hx
  obtain ⟨s1, s2, vs, s3, s4, s5⟩ := srcOf_run (P := P) hi hob (Al hr hy) hsrc
  have hexec : (execOp av.eval o).run P w = ((Builtin.append_ #[t1, t2] o.type #[av.eval x, av.eval y]).run P w).andThen fun v w' => .ok (.value v) w' := by
    simp [execOp, ho, resolve, invoke, builtin]
  have hvs : vs.toList = [] := by
    have : vs.size = 0 := by rw [s4]; rfl
    exact List.eq_nil_of_length_eq_zero (by simpa using this)
  obtain ⟨base, len, cap, hv, hle⟩ : ∃ base len cap, av.eval x = .slice base len cap ∧ len ≤ cap := by
    generalize av.eval x = vx at rx
    cases rx <;> simp only [Bool.false_eq_true] at hsl
    · exact ⟨_, _, _, rfl, Nat.le_refl _⟩
    · exact ⟨_, _, _, rfl, Nat.le_refl _⟩
    · exact ⟨_, _, _, rfl, Nat.le_refl _⟩
    · rename_i hc _ _ _ _; exact ⟨_, _, _, rfl, by assumption⟩
    · exact ⟨_, _, _, rfl, by assumption⟩
  have hr1 := append_room_run (P := P) (ty := o.type) u1 u2 us s1 (s3 w rfl) (sLen := len) (sCap := cap) (base := base) (by simpa using hle) (w1 := w) (by
    cases base with
    | none => rfl
    | some ad => simp [hvs, storeCells])
  unfold Oper.wp
  rw [hexec, hv, hr1]
  simp only [List.length_nil, Nat.add_zero, Result.andThen_ok]
  exact hn _ _ _ _ _ (.refl _ _ _) hi (hr.put hd (by rw [← hv]; exact rx)) k
end
end Go.Ts
set_option linter.unusedVariables false
set_option linter.unusedSimpArgs false
namespace Go.Ts

theorem set_loop : ∀ (l : List Value) (cells : Array Value) (off st : Nat), off + st + l.length ≤ cells.size →
    ((l.zipIdx st).foldl (fun cs (x : Value × Nat) => cs.setIfInBounds (off + x.2) x.1) cells).size = cells.size ∧
    ∀ k, ((l.zipIdx st).foldl (fun cs (x : Value × Nat) => cs.setIfInBounds (off + x.2) x.1) cells)[k]? = if off + st ≤ k ∧ k < off + st + l.length then l[k - (off + st)]? else cells[k]?
  | [], cells, off, st, h => by
    refine ⟨rfl, fun k => ?_⟩
    have : ¬ (off + st ≤ k ∧ k < off + st + ([] : List Value).length) := by simp only [List.length_nil]; omega
    rw [if_neg this]; rfl
  | v :: l, cells, off, st, h => by
    simp only [List.length_cons] at h
    obtain ⟨h1, h2⟩ := set_loop l (cells.setIfInBounds (off + st) v) off (st + 1) (by simp; omega)
    refine ⟨by simpa using h1, fun k => ?_⟩
    simp only [List.zipIdx_cons, List.foldl_cons]
    rw [h2 k]
    by_cases h3 : k = off + st
    · subst h3
      rw [if_neg (by omega), if_pos (by simp only [List.length_cons]; omega), Array.getElem?_setIfInBounds, if_pos rfl, if_pos (by omega)]
      simp
    · by_cases h4 : off + (st + 1) ≤ k ∧ k < off + (st + 1) + l.length
      · rw [if_pos h4, if_pos (by simp only [List.length_cons]; omega)]
        rw [show k - (off + st) = (k - (off + (st + 1))) + 1 by omega, List.getElem?_cons_succ]
      · rw [if_neg h4, if_neg (by simp only [List.length_cons]; omega)]
        rw [Array.getElem?_setIfInBounds, if_neg (by omega)]

def treeFill (place : Nat → Option (Nat × Nat)) (ts : List T) : List (Nat × T) → Option (List T)
  | [] => some ts
  | (i, t) :: rest => match place i with
    | some (off, size) => cond (notRaw t && Nat.beq t.cells.length size && Nat.ble (off + t.cells.length) ts.length) (treeFill place (stored ts t.cells off) rest) none
    | none => none

section
variable {P : Program} {G : Nat → Option TI} {w w1 : World} {μ : Gh} {σ σ1 : St} {N : Nat} {a : Env} {Q : Exit → Env → St → Prop}

theorem frozen_step (hi : Inv w μ σ) (c : Array Value) (e : TypeId) : Ev w μ σ (w.alloc (.cells c e)) μ σ ∧ Inv (w.alloc (.cells c e)) μ σ := by
  have hsz := size_alloc w (.cells c e)
  have ev : Ev w μ σ (w.alloc (.cells c e)) μ σ := ev_new hi (fun _ _ h => h) (fun _ _ h => h) rfl (fun i o b p h1 h2 _ => ⟨o, i, p, h1, h2⟩) (fun k b f t h1 h2 _ _ => ⟨h1, h2⟩)
  refine ⟨ev, fun i ts h => ?_, fun i es h => ?_, hi.inj, fun k hk => ?_, hi.rinj, hi.fin, fun b o h => by have := hi.offlt b o h; omega, hi.offobj⟩
  · obtain ⟨b, p, c', e', h1, h2, h3, h4⟩ := hi.obj i ts h
    exact ⟨b, p, c', e', h1, by rw [A9 w _ (Array.getElem?_eq_some_iff.1 h2).1]; exact h2, h3, fun j t v h5 h6 => (h4 j t v h5 h6).ev ev⟩
  · obtain ⟨b, en, cl, h1, h2, h3, h4⟩ := hi.map i es h
    exact ⟨b, en, cl, h1, by rw [A9 w _ (Array.getElem?_eq_some_iff.1 h2).1]; exact h2, h3, fun j k u e' h5 h6 => let ⟨h7, h8⟩ := h4 j k u e' h5 h6; ⟨h7.ev ev, h8.ev ev⟩⟩
  · obtain ⟨b, f, t, h1, h2, h3⟩ := hi.room k hk
    exact ⟨b, f, t, h1, h2, fun hlt => let ⟨⟨c', e', h4, h5⟩, h6⟩ := h3 hlt; ⟨⟨c', e', by rw [A9 w _ (Array.getElem?_eq_some_iff.1 h4).1]; exact h4, h5⟩, h6⟩⟩
theorem fresh_imm (hi : Inv w μ σ) {ob : Obj} {c : Array Value} {e : TypeId} {f : Nat × Nat} (h : (w.alloc ob).heap[w.heap.size]? = some (.cells c e f)) (q : Nat) : Imm (w.alloc ob) μ σ w.heap.size (0 + q) := by
  refine ⟨(Array.getElem?_eq_some_iff.1 h).1, fun h => absurd (hi.offlt _ _ h) (Nat.lt_irrefl _), fun i ob p h1 h2 => absurd (hi.lts h1 h2) (Nat.lt_irrefl _), fun k f t h1 h2 => ?_⟩
  obtain ⟨b', f', t', r1, r2, r3⟩ := hi.room k h1
  rw [h2] at r1; injection r1 with r1; injection r1 with r1 r4; injection r4 with r4 r5
  subst r4; subst r5
  intro ⟨q5, q6⟩
  obtain ⟨⟨c, e', r6, _⟩, _⟩ := r3 (by omega)
  have := (Array.getElem?_eq_some_iff.1 r6).1; omega

def CellsRel (w : World) (μ : Gh) (σ : St) (vs : Array Value) (ts : List T) : Prop := vs.size = ts.length ∧ ∀ (j : Nat) (c : T) (v : Value), ts[j]? = some c → vs[j]? = some v → Rel w μ σ v c

theorem stored_get {ts cs : List T} {o : Nat} (h : o + cs.length ≤ ts.length) (k : Nat) : (stored ts cs o)[k]? = if o ≤ k ∧ k < o + cs.length then cs[k - o]? else ts[k]? := by
  unfold stored
  have hl : (ts.take o).length = o := by simp; omega
  rw [List.append_assoc]
  rcases Nat.lt_or_ge k o with h1 | h1
  · rw [List.getElem?_append_left (by omega), if_neg (by omega), List.getElem?_take, if_pos h1]
  · rw [List.getElem?_append_right (by omega), hl]
    rcases Nat.lt_or_ge (k - o) cs.length with h2 | h2
    · rw [List.getElem?_append_left h2, if_pos (by omega)]
    · rw [List.getElem?_append_right h2, if_neg (by omega), List.getElem?_drop, show o + cs.length + (k - o - cs.length) = k by omega]

theorem fill_rel {place placeT : Nat → Option (Nat × Nat)} : ∀ (ps : List (Nat × Value)) (pt : List (Nat × T)) (cells : Array Value) (ts ts' : List T), CellsRel w μ σ cells ts →
    ps.length = pt.length → (∀ (j : Nat) (i i' : Nat) (v : Value) (t : T), ps[j]? = some (i, v) → pt[j]? = some (i', t) → i = i' ∧ place i = placeT i ∧ Rel w μ σ v t) →
    treeFill placeT ts pt = some ts' → ∃ cells', Instr.fill place cells ps = some cells' ∧ CellsRel w μ σ cells' ts'
  | [], [], cells, ts, ts', h, _, _, hf => by simp [treeFill] at hf; subst hf; exact ⟨cells, rfl, h⟩
  | [], _ :: _, _, _, _, _, hl, _, _ => by simp at hl
  | _ :: _, [], _, _, _, _, hl, _, _ => by simp at hl
  | (i, v) :: ps, (i', t) :: pt, cells, ts, ts', h, hl, hr, hf => by
    obtain ⟨rfl, hp, hv⟩ := hr 0 i i' v t rfl rfl
    simp only [treeFill] at hf
    cases hpl : placeT i with
    | none => simp [hpl] at hf
    | some os =>
      obtain ⟨off, size⟩ := os
      simp only [hpl] at hf
      cases hc : (notRaw t && Nat.beq t.cells.length size && Nat.ble (off + t.cells.length) ts.length) with
      | false => simp [hc] at hf
      | true =>
        rw [hc] at hf
        simp only [cond_true] at hf
        simp only [Bool.and_eq_true] at hc
        obtain ⟨⟨hc0, hc1⟩, hc2⟩ := hc
        have hc1 := Nat.eq_of_beq_eq_true hc1
        have hc2 := Nat.le_of_ble_eq_true hc2
        obtain ⟨hv1, hv2⟩ := hv.cells (notRaw_ne hc0)
        obtain ⟨hs1, hs2⟩ := h
        obtain ⟨hz1, hz2⟩ := set_loop v.cells.toList cells off 0 (by rw [Array.length_toList]; omega)
        simp only [Nat.add_zero, Array.length_toList] at hz1 hz2
        have hnew : CellsRel w μ σ ((v.cells.toList.zipIdx 0).foldl (fun cs (x : Value × Nat) => cs.setIfInBounds (off + x.2) x.1) cells) (stored ts t.cells off) := by
          refine ⟨by rw [hz1, stored_length hc2, hs1], fun j c u hj hu => ?_⟩
          rw [stored_get hc2] at hj
          rw [hz2, hv1] at hu
          split at hj
          · rename_i hcond
            rw [if_pos hcond] at hu
            exact hv2 _ c u hj (by simpa using hu)
          · rename_i hcond
            rw [if_neg hcond] at hu
            exact hs2 j c u hj hu
        obtain ⟨cells', h3, h4⟩ := fill_rel ps pt _ _ ts' hnew (by simpa using hl) (fun j i i' v t h5 h6 => hr (j + 1) i i' v t (by simpa using h5) (by simpa using h6)) hf
        refine ⟨cells', ?_, h4⟩
        simp only [Instr.fill, hp, hpl]
        rw [if_neg (by simp; omega), ← h3]
        congr 1
        rw [← Array.foldl_toList, Array.toList_zipIdx]

def partsT (a : Env) : List (Nat × Operand) → Option (List (Nat × T))
  | [] => some []
  | (i, x) :: r => match Ad a x, partsT a r with
    | some t, some ts => some ((i, t) :: ts)
    | _, _ => none

theorem partsT_rel {av : Act} (hr : RelA w μ σ N av a) : ∀ {ps : List (Nat × Operand)} {pt : List (Nat × T)}, partsT a ps = some pt → ps.length = pt.length ∧
    ∀ (j : Nat) (i i' : Nat) (v : Value) (t : T), (ps.map fun p => (p.1, av.eval p.2))[j]? = some (i, v) → pt[j]? = some (i', t) → i = i' ∧ Rel w μ σ v t
  | [], pt, h => by simp [partsT] at h; subst h; exact ⟨rfl, fun j i i' v t h1 => by simp at h1⟩
  | (i, x) :: ps, pt, h => by
    simp only [partsT] at h
    split at h
    · rename_i t ts ht hts
      injection h with h; subst h
      obtain ⟨h1, h2⟩ := partsT_rel hr hts
      refine ⟨by simp [h1], fun j i i' v t hj ht' => ?_⟩
      cases j with
      | zero =>
        simp at hj ht'
        obtain ⟨rfl, rfl⟩ := hj
        obtain ⟨rfl, rfl⟩ := ht'
        exact ⟨rfl, Al hr ht⟩
      | succ j => exact h2 j i i' v t (by simpa using hj) (by simpa using ht')
    · cases h

def placeOf (G : Nat → Option TI) (i : TI) : Nat → Option (Nat × Nat) := fun j =>
  match i.d with
  | .struct fs => match fs[j]? with
    | some (off, ft) => match sizeT G ft with
      | some n => some (off, n)
      | none => none
    | none => none
  | .arr _ e => match sizeT G e with
    | some n => some (j * n, n)
    | none => none
  | _ => none

def placesOk (G : Nat → Option TI) (i : TI) : Bool :=
  match i.d with
  | .struct fs => fs.all fun f => (sizeT G f.2).isSome
  | _ => false

theorem sizeT_some {t n : Nat} (h : sizeT G t = some n) : ∃ i, G t = some i ∧ i.size = n := by
  unfold sizeT at h; cases hg : G t with
  | none => simp [hg] at h
  | some i => simp [hg] at h; exact ⟨i, rfl, h⟩

theorem mapM_places (hG : Fits P G) : ∀ (fs : List Field), (fs.all fun f => (sizeT G f.type).isSome) = true →
    (fs.mapM (m := Sem) fun f => Prod.mk f.offset <$> sizeOf f.type).run P w = .ok (fs.map fun f => (f.offset, (sizeT G f.type).getD 0)) w
  | [], _ => rfl
  | f :: fs, h => by
    simp only [List.all_cons, Bool.and_eq_true] at h
    obtain ⟨n, hn⟩ := Option.isSome_iff_exists.1 h.1
    obtain ⟨i, hi, hi'⟩ := sizeT_some hn
    have := g_size (P := P) (w := w) hG hi
    simp [List.mapM_cons, this, mapM_places hG fs h.2, hn, hi']

theorem aop_build (hG : Fits P G) {o : Oper} {t : TypeId} {parts : Array (Nat × Operand)} {i : TI} {pt : List (Nat × T)} {cs : List T} {K : Env → St → Prop}
    (ho : o.op = .build t parts) (ht : G t = some i) (hpl : (placesOk G i) = true) (hp : partsT a parts.toList = some pt) (hf : treeFill (placeOf G i) (i.zero.map Z.tree) pt = some cs) (hd : Ai N o.dst = true)
    (k : K (put a o.dst (.agg cs)) σ) : AOp P N o a σ K := by
  intro av w μ hi hr next Qc hn
  have hagg : i.d.agg = true := by
    unfold placesOk at hpl; cases hdd : i.d <;> rw [hdd] at hpl <;> first | rfl | cases hpl
  obtain ⟨info, d, k1, k2, k3, k4, k5, k6, k7, k8⟩ := hG t i ht
  rw [hagg] at k6
  have hz : (zeroValue t).run P w = .ok (.agg (i.zero.map Z.value).toArray) w := by simp only [zeroValue, typeInfo, Sem.run_bind, run_program, Result.andThen_ok, k1, k6, if_true, Sem.run_pure]
  have hcr : CellsRel w μ σ (i.zero.map Z.value).toArray (i.zero.map Z.tree) := ⟨by simp, by simpa using zrel_list i.zero⟩
  obtain ⟨hl, hrel⟩ := partsT_rel hr hp
  have key : ∀ place : Nat → Option (Nat × Nat), (∀ j, place j = placeOf G i j) → ∃ cells', Instr.fill place (i.zero.map Z.value).toArray (parts.toList.map fun p => (p.1, av.eval p.2)) = some cells' ∧ CellsRel w μ σ cells' cs := by
    intro place hpl
    exact fill_rel _ pt _ _ cs hcr (by simpa using hl) (fun j i i' v t h1 h2 => by obtain ⟨h3, h4⟩ := hrel j i i' v t h1 h2; exact ⟨h3, hpl i, h4⟩) hf
  have fin : ∀ place : Nat → Option (Nat × Nat), (∀ j, place j = placeOf G i j) → (∀ cells', Instr.fill place (i.zero.map Z.value).toArray (parts.toList.map fun p => (p.1, av.eval p.2)) = some cells' →
      (execOp av.eval o).run P w = .ok (.value (.agg cells')) w) → Oper.wp P o av w next Qc := by
    intro place hpl hrun
    obtain ⟨cells', h1, h2, h3⟩ := key place hpl
    unfold Oper.wp
    rw [hrun cells' h1]
    exact hn _ _ _ _ _ (.refl _ _ _) hi (hr.put hd (.agg _ _ h2 h3)) k
  have hund : (underlying t).run P w = .ok d w := by simp [underlying, k2]
  unfold placesOk at hpl
  cases hdd : i.d with
  | struct fl =>
    rw [hdd] at hpl k3
    obtain ⟨fs, rfl, hfs⟩ := td_struct k3
    have hall : (fs.toList.all fun f => (sizeT G f.type).isSome) = true := by
      simp only at hpl
      rw [← hfs, List.all_map] at hpl; exact hpl
    have hm := mapM_places (w := w) hG fs.toList hall
    refine fin (fun j => ((fs.toList.map fun f => (f.offset, (sizeT G f.type).getD 0)).toArray)[j]?) (fun j => ?_) (fun cells' hc => ?_)
    · simp only [placeOf, hdd, ← hfs]
      simp only [List.getElem?_toArray, List.getElem?_map]
      cases hj : fs.toList[j]? with
      | none => simp
      | some f =>
        simp only [Option.map_some]
        obtain ⟨n, hn⟩ := Option.isSome_iff_exists.1 (List.all_eq_true.1 hall f (List.mem_of_getElem? hj))
        simp [hn]
    · have hmm : (fs.mapM (m := Sem) fun f => Prod.mk f.offset <$> sizeOf f.type).run P w = .ok (fs.toList.map fun f => (f.offset, (sizeT G f.type).getD 0)).toArray w := by
        rw [Array.mapM_eq_mapM_toList]
        simp [hm]
      have hz' : (zeroValue t).run P w = .ok (.agg (i.zero.map Z.value).toArray) w := hz
      have hpa : (parts.map fun (p : Nat × Operand) => (p.1, av.eval p.2)).toList = parts.toList.map fun p => (p.1, av.eval p.2) := by simp
      simp [execOp, ho, Instr.build, hz', Value.cells, hund, hmm]
      simp at hc
      rw [hc]
      rfl
  | arr n e => rw [hdd] at hpl; cases hpl
  | _ => rw [hdd] at hagg; cases hagg

theorem treeFill_seq {sz : Nat} : ∀ (pt : List (Nat × T)) (ts : List T) (i : Nat), pt.map Prod.fst = List.range' i pt.length → (pt.all fun p => notRaw p.2 && Nat.beq p.2.cells.length sz) = true → ts.length = (i + pt.length) * sz →
    treeFill (fun j => some (j * sz, sz)) ts pt = some (ts.take (i * sz) ++ flat (pt.map Prod.snd))
  | [], ts, i, _, _, hl => by
    simp at hl
    simp [treeFill, flat, ← hl]
  | (j, t) :: pt, ts, i, hi, ha, hl => by
    simp only [List.map_cons, List.length_cons, List.range'_succ, List.cons.injEq] at hi
    obtain ⟨rfl, hi⟩ := hi
    simp only [List.all_cons, Bool.and_eq_true] at ha
    obtain ⟨⟨ha1, ha2⟩, ha3⟩ := ha
    have hsz := Nat.eq_of_beq_eq_true ha2
    have hle : j * sz + sz ≤ ts.length := by
      rw [hl, List.length_cons, show j * sz + sz = (j + 1) * sz by rw [Nat.add_mul]; omega]
      exact Nat.mul_le_mul_right _ (by omega)
    have hb : Nat.ble (j * sz + t.cells.length) ts.length = true := Nat.ble_eq_true_of_le (by omega)
    simp only [treeFill, ha1, ha2, hb, Bool.and_self, cond_true]
    rw [treeFill_seq pt _ (j + 1) hi ha3 (by rw [stored_length (by omega), hl, List.length_cons]; congr 1; omega)]
    congr 1
    simp only [List.map_cons, flat_cons]
    rw [← List.append_assoc]
    congr 1
    unfold stored
    rw [hsz, show (j + 1) * sz = j * sz + sz by rw [Nat.add_mul]; omega]
    have h1 : (ts.take (j * sz)).length = j * sz := by simp; omega
    rw [List.append_assoc, List.take_append, h1, List.take_of_length_le (by omega), show j * sz + sz - j * sz = t.cells.length by omega, List.take_append, List.take_of_length_le (Nat.le_refl _)]
    simp

theorem aop_buildSlice (hG : Fits P G) {o : Oper} {t : TypeId} {len e : Nat} {parts : Array (Nat × Operand)} {i ie : TI} {pt : List (Nat × T)} {K : Env → St → Prop}
    (ho : o.op = .buildSlice t len parts) (ht : G t = some i) (htd : i.d = .slice e) (he : G e = some ie) (hp : partsT a parts.toList = some pt)
    (hok : (decide (pt.map Prod.fst = List.range' 0 len) && Nat.beq pt.length len && (pt.all fun p => notRaw p.2 && Nat.beq p.2.cells.length ie.size) && Nat.ble (len * ie.size) 16777216 && Nat.blt 0 ie.size) = true) (hd : Ai N o.dst = true)
    (k : K (put a o.dst (.sl ie.size .full (pt.map Prod.snd))) σ) : AOp P N o a σ K := by
  intro av w μ hi hr next Qc hn
  simp only [Bool.and_eq_true, decide_eq_true_eq] at hok
  obtain ⟨⟨⟨⟨hok1, hok2⟩, hok3⟩, hok4⟩, hok5⟩ := hok
  have hok2 := Nat.eq_of_beq_eq_true hok2
  have hok4 := Nat.le_of_ble_eq_true hok4
  obtain ⟨d1, u1, f1⟩ := Aq (P := P) (w := w) hG ht
  rw [htd] at f1; obtain rfl := A0 f1
  have us := g_size (P := P) (w := w) hG he
  obtain ⟨z, uz, rz, hz1, hz2⟩ := g_zero (P := P) (w := w) (μ := μ) (σ := σ) hG he
  obtain ⟨hl, hrel⟩ := partsT_rel hr hp
  generalize hzero : (if len * ie.size = 0 then (#[] : Array Value) else z.cells) = zero
  have hzr : (if len * ie.size = 0 then (pure #[] : Sem (Array Value)) else do pure (← zeroValue e).cells).run P w = .ok zero w := by
    rw [← hzero]; split
    · rfl
    · simp [uz]
  generalize hcells : (Array.range (len * ie.size)).map (fun q => zero[q % zero.size]!) = cells
  have hcs : cells.size = len * ie.size := by rw [← hcells]; simp
  have hcr : CellsRel w μ σ cells (cells.toList.map T.raw) := by
    refine ⟨by simp, fun j c v h1 h2 => ?_⟩
    rw [List.getElem?_map, Array.getElem?_toList, h2] at h1
    simp at h1; subst h1; exact .raw v
  have hseq := treeFill_seq (sz := ie.size) pt (cells.toList.map T.raw) 0 (by rw [hok1, hok2]) hok3 (by simp [hcs, hok2])
  simp only [Nat.zero_mul, List.take_zero, List.nil_append] at hseq
  obtain ⟨cells', h1, h2, h3⟩ := fill_rel (place := fun j => some (j * ie.size, ie.size)) (parts.toList.map fun p => (p.1, av.eval p.2)) pt _ _ _ hcr (by simpa using hl)
    (fun j i i' v t h1 h2 => by obtain ⟨h3, h4⟩ := hrel j i i' v t h1 h2; exact ⟨h3, rfl, h4⟩) hseq
  have hrun : (execOp av.eval o).run P w = .ok (.value (.slice (some ⟨w.heap.size, 0, none⟩) len len)) (w.alloc (.cells cells' e)) := by
    have hle : ¬ (16777216 < len * ie.size) := by omega
    simp only [execOp, ho, Instr.buildSlice, Sem.run_bind, u1, us, Result.andThen_ok]
    simp [hle, us]
    by_cases hz0 : len * ie.size = 0
    · rw [if_pos hz0] at hzero ⊢
      have hce : Array.map (fun x => (default : Value)) (Array.range (len * ie.size)) = cells := by
        rw [← hcells, ← hzero]; simp
      rw [hce, h1]
      simp [newRow]
    · rw [if_neg hz0] at hzero ⊢
      simp only [uz, Result.andThen_ok, hzero, hcells, h1]
      simp [newRow]
  obtain ⟨ev, hi'⟩ := frozen_step hi cells' e
  have hsized : sized ie.size (pt.map Prod.snd) := by
    intro j x hx
    rw [List.getElem?_map] at hx
    cases hj : pt[j]? with
    | none => simp [hj] at hx
    | some p =>
      simp [hj] at hx; subst hx
      have := List.all_eq_true.1 hok3 p (List.mem_of_getElem? hj)
      rw [Bool.and_eq_true] at this
      exact Nat.eq_of_beq_eq_true this.2
  have hfl := flat_length hsized
  have hlen : (pt.map Prod.snd).length = len := by simp [hok2]
  unfold Oper.wp
  rw [hrun]
  refine hn _ _ _ _ _ ev hi' ((hr.ev ev).put hd (sl_mk hlen (Nat.le_refl _) (show OwnOK μ .full _ _ _ from rfl) hsized (fun k c hk => ?_))) k
  have hheap : (w.alloc (.cells cells' e)).heap[w.heap.size]? = some (.cells cells' e (0, 0)) := Bl w _
  have hklt : k < (flat (pt.map Prod.snd)).length := by
    rcases Nat.lt_or_ge k (flat (pt.map Prod.snd)).length with h | h
    · exact h
    · rw [List.getElem?_eq_none h] at hk; cases hk
  have hkc : cells'[k]? = some cells'[k] := Array.getElem?_eq_getElem (by omega)
  refine ⟨fresh_imm hi hheap k, cells'[k], ?_, (h3 k c _ hk hkc).ev ev⟩
  simp only [World.cell?, hheap, Nat.zero_add]
  simp

def ACalls (P : Program) (f : FuncId) (ts : List T) (σ : St) (R : T → St → Prop) : Prop :=
  (∃ fn, P.funcs[f]? = some fn ∧ fn.name ≠ "runtime.NumGoroutine" ∧ fn.body.isNone = false) ∧
  ∀ (vs : Array Value) (w : World) (μ : Gh), Inv w μ σ → vs.size = ts.length → (∀ (j : Nat) (t : T) (v : Value), ts[j]? = some t → vs[j]? = some v → Rel w μ σ v t) →
    Calls P f vs w fun e w' => ∃ v t σ' μ', e = .returned v ∧ Ev w μ σ w' μ' σ' ∧ Inv w' μ' σ' ∧ Rel w' μ' σ' v t ∧ R t σ'

theorem ACalls.mono {f : FuncId} {ts : List T} {R R' : T → St → Prop} (h : ACalls P f ts σ R) (k : ∀ t σ, R t σ → R' t σ) : ACalls P f ts σ R' :=
  ⟨h.1, fun vs w μ hi hs hr => (h.2 vs w μ hi hs hr).mono fun e w' ⟨v, t, σ', μ', h1, h2, h3, h4, h5⟩ => ⟨v, t, σ', μ', h1, h2, h3, h4, k _ _ h5⟩⟩

theorem ACalls.weak {f : FuncId} {ts us : List T} {R : T → St → Prop} (h : ACalls P f us σ R) (hl : ts.length = us.length) (hw : ∀ (j : Nat) (t u : T), ts[j]? = some t → us[j]? = some u → Wk t u) : ACalls P f ts σ R :=
  ⟨h.1, fun vs w μ hi hs hr => h.2 vs w μ hi (by omega) fun j u v hu hv => by
    have hj := Bk hu
    have ht : ts[j]? = some ts[j] := List.getElem?_eq_getElem (by omega)
    exact hw j _ u ht hu w μ σ v (hr j _ v ht hv)⟩

def argsT (a : Env) : List Operand → Option (List T)
  | [] => some []
  | x :: r => match Ad a x, argsT a r with
    | some t, some ts => some (t :: ts)
    | _, _ => none

theorem argsT_rel {av : Act} (hr : RelA w μ σ N av a) : ∀ {xs : List Operand} {ts : List T}, argsT a xs = some ts → xs.length = ts.length ∧
    ∀ (j : Nat) (v : Value) (t : T), ts[j]? = some t → (xs.map av.eval)[j]? = some v → Rel w μ σ v t
  | [], ts, h => by simp [argsT] at h; subst h; exact ⟨rfl, fun j v t h1 => by simp at h1⟩
  | x :: xs, ts, h => by
    simp only [argsT] at h
    split at h
    · rename_i t ts ht hts
      injection h with h; subst h
      obtain ⟨h1, h2⟩ := argsT_rel hr hts
      refine ⟨by simp [h1], fun j v u hu hv => ?_⟩
      cases j with
      | zero => simp at hu hv; subst hu; subst hv; exact Al hr ht
      | succ j => exact h2 j v u (by simpa using hu) (by simpa using hv)
    · cases h

theorem aop_call {o : Oper} {f : Operand} {args : Array Operand} {tys : Array TypeId} {g : FuncId} {caps ts : List T} {K : Env → St → Prop}
    (ho : o.op = .call { callee := .value f, args := args, argTypes := tys }) (hf : Ad a f = some (.fn (.func g) caps)) (ha : argsT a args.toList = some ts) (hd : Ai N o.dst = true)
    (k : ACalls P g (ts ++ caps) σ (fun r σ' => K (put a o.dst r) σ')) : AOp P N o a σ K := by
  intro av w μ hi hr next Qc hn
  obtain ⟨⟨fn, hfn1, hfn2, hfn3⟩, hc⟩ := k
  have rf := Al hr hf
  obtain ⟨hl, hrel⟩ := argsT_rel hr ha
  generalize hv : av.eval f = vf at rf
  cases rf with
  | fn _ _ vs hvs r =>
    have hbn : fn.body ≠ none := by intro h; rw [h] at hfn3; cases hfn3
    have hrun : (execOp av.eval o).run P w = .ok (.enter g (args.map av.eval ++ vs)) w := by
      simp [execOp, ho, resolve, hv, Deferred.ofValue, invoke, callFunc, hfn1, hfn2, hbn]
    unfold Oper.wp
    rw [hrun]
    refine (hc (args.map av.eval ++ vs) w μ hi (by simp at hl; simp [hvs, hl]) (fun j t v ht hv' => ?_)).mono ?_
    · have hl' : args.size = ts.length := by simpa using hl
      rcases Nat.lt_or_ge j ts.length with h | h
      · rw [List.getElem?_append_left h] at ht
        rw [Array.getElem?_append_left (by simp; omega)] at hv'
        exact hrel j v t ht (by simpa using hv')
      · rw [List.getElem?_append_right h] at ht
        rw [Array.getElem?_append_right (by simp; omega)] at hv'
        simp only [Array.size_map, hl'] at hv'
        exact r _ t v ht hv'
    · rintro e w' ⟨v, t, σ', μ', rfl, ev, hi', hrv, hk⟩
      exact hn _ _ _ _ _ ev hi' ((hr.ev ev).put hd hrv) hk

def ResR1 (G : Nat → Option TI) (a : Env) (σ : St) (t : T) : ResultVar → Prop
  | .tmp x => get a x = some t
  | .cell x ty => ∃ (n i o : Nat) (ts : List T), get a x = some (.ptr i o) ∧ σ.L[n]? = some (i, Ob.cells ts) ∧ readT G ty ts o = some t
def ResRs (G : Nat → Option TI) (a : Env) (σ : St) : List ResultVar → List T → Prop
  | [], ts => ts = []
  | r :: rs, ts => ∃ t us, ResR1 G a σ t r ∧ ResRs G a σ rs us ∧ ts = t :: us
def tup1 : List T → T
  | [t] => t
  | ts => .tup ts
def Conv (σ : St) (t : T) (σ' : St) (u : T) : Prop := ∀ w μ v, Inv w μ σ → Rel w μ σ v t → ∃ μ', Inv w μ' σ' ∧ Ev w μ σ w μ' σ' ∧ Rel w μ' σ' v u
theorem Conv.wk {t u : T} (h : Wk t u) : Conv σ t σ u := fun w μ v hi r => ⟨μ, hi, .refl _ _ _, h _ _ _ _ r⟩
theorem Conv.g {t : T} {σ' : St} (h : GStep σ σ') : Conv σ t σ' t := fun w μ v hi r => let ⟨h1, h2⟩ := h w μ hi; ⟨μ, h1, h2, r.ev h2⟩
theorem Conv.trans {t u s : T} {σ1 σ2 : St} (h : Conv σ t σ1 u) (k : Conv σ1 u σ2 s) : Conv σ t σ2 s := fun w μ v hi r =>
  let ⟨μ1, h1, h2, h3⟩ := h w μ v hi r; let ⟨μ2, k1, k2, k3⟩ := k w μ1 v h1 h3; ⟨μ2, k1, h2.trans k2, k3⟩

def CR (σ : St) (t : T) (R : T → St → Prop) : Prop := ∀ w μ v, Inv w μ σ → Rel w μ σ v t → ∃ μ' σ' u, Inv w μ' σ' ∧ Ev w μ σ w μ' σ' ∧ Rel w μ' σ' v u ∧ R u σ'
theorem Conv.cr {t u : T} {σ' : St} {R : T → St → Prop} (h : Conv σ t σ' u) (k : R u σ') : CR σ t R := fun w μ v hi r => let ⟨μ', h1, h2, h3⟩ := h w μ v hi r; ⟨μ', σ', u, h1, h2, h3, k⟩

def retA (G : Nat → Option TI) (rs : List ResultVar) (R : T → St → Prop) : Exit → Env → St → Prop
  | .ret, a, σ | .normal, a, σ => ∃ ts, ResRs G a σ rs ts ∧ CR σ (tup1 ts) R
  | _, _, _ => False

def envOf : Nat → List T → Env
  | _, [] => []
  | i, t :: ts => (i, t) :: envOf (i + 1) ts
theorem envOf_get : ∀ (ts : List T) (i j : Nat) (t : T), get (envOf i ts) j = some t → i ≤ j ∧ ts[j - i]? = some t
  | [], i, j, t, h => by simp [envOf, get] at h
  | u :: ts, i, j, t, h => by
    simp only [envOf, get] at h
    by_cases e : i = j
    · subst e; simp at h; subst h; simp
    · rw [beqF e, cond_false] at h
      obtain ⟨h1, h2⟩ := envOf_get ts (i + 1) j t h
      refine ⟨by omega, ?_⟩
      rw [show j - i = (j - (i + 1)) + 1 by omega, List.getElem?_cons_succ]; exact h2

theorem resTs_run (hG : Fits P G) (hi : Inv w μ σ) {av : Act} (hr : RelA w μ σ N av a) : ∀ (rs : List ResultVar) (ts : List T), ResRs G a σ rs ts →
    ∃ vs : List Value, (rs.mapM (m := Sem) fun
      | .tmp t => pure (av.tmps.getD t undef)
      | .cell a t => do loadVar t (← asAddr (av.tmps.getD a undef))).run P w = .ok vs w ∧ vs.length = ts.length ∧ ∀ (j : Nat) (t : T) (v : Value), ts[j]? = some t → vs[j]? = some v → Rel w μ σ v t
  | [], ts, h => by simp [ResRs] at h; subst h; exact ⟨[], rfl, rfl, fun j t v h1 => by simp at h1⟩
  | r :: rs, ts, h => by
    obtain ⟨t, ts, ht, hts, rfl⟩ := h
    obtain ⟨vs, h1, h2, h3⟩ := resTs_run hG hi hr rs ts hts
    have one : ∃ v, (match r with
        | .tmp t => pure (av.tmps.getD t undef)
        | .cell a t => do loadVar t (← asAddr (av.tmps.getD a undef)) : Sem Value).run P w = .ok v w ∧ Rel w μ σ v t := by
      cases r with
      | tmp i =>
        obtain ⟨v, hv, rv⟩ := hr.tmp i t (show get a i = some t from ht)
        exact ⟨v, by simp [hv], rv⟩
      | cell i ty =>
        obtain ⟨n, j, o, cs, hg, hcs, ht⟩ := ht
        obtain ⟨v, hv, rv⟩ := hr.tmp i _ hg
        cases rv with
        | ptr j b p o hl =>
          obtain ⟨b', p', hl', hcells⟩ := hi.cells (List.mem_of_getElem? hcs)
          rw [hl] at hl'; injection hl' with hl'; injection hl' with e1 e2; subst e1; subst e2
          obtain ⟨u, hu, ru⟩ := readT_run (P := P) hG hcells ht
          exact ⟨u, by simp [hv, asAddr]; simpa using hu, ru⟩
    obtain ⟨v, hv, rv⟩ := one
    refine ⟨v :: vs, ?_, by simp [h2], fun j t v hj hv => ?_⟩
    · rw [List.mapM_cons]
      simp only [Sem.run_bind, Sem.run_pure]
      cases r <;> simp_all
    · cases j with
      | zero => simp at hj hv; subst hj; subst hv; exact rv
      | succ j => exact h3 j t v (by simpa using hj) (by simpa using hv)

theorem resT_run (hG : Fits P G) (hi : Inv w μ σ) {av : Act} (hr : RelA w μ σ N av a) {fn : Func} {ts : List T} (hts : ResRs G a σ fn.results.toList ts) :
    ∃ v, (results fn av.tmps).run P w = .ok v w ∧ Rel w μ σ v (tup1 ts) := by
  obtain ⟨vs, h1, h2, h3⟩ := resTs_run hG hi hr _ _ hts
  have hm : (fn.results.mapM (m := Sem) fun
    | .tmp t => pure (av.tmps.getD t undef)
    | .cell a t => do loadVar t (← asAddr (av.tmps.getD a undef))).run P w = .ok vs.toArray w := by
    rw [Array.mapM_eq_mapM_toList, Sem.run_map, h1]
    rfl
  have hrun : (results fn av.tmps).run P w = .ok (if h : vs.toArray.size = 1 then vs.toArray[0] else .tuple vs.toArray) w := by
    unfold results
    rw [Sem.run_bind]
    exact congrArg (fun r => Result.andThen r (fun (a : Array Value) w' => Sem.run P (pure (if h : a.size = 1 then a[0] else Value.tuple a)) w')) hm
  refine ⟨_, hrun, ?_⟩
  have tup : vs.length ≠ 1 → Rel w μ σ (if h : vs.toArray.size = 1 then vs.toArray[0] else .tuple vs.toArray) (.tup ts) := by
    intro hne
    rw [dif_neg (by simpa using hne)]
    exact .tup _ _ (by simpa using h2) (fun j c v hc hv => h3 j c v hc (by simpa using hv))
  cases ts with
  | nil => exact tup (by simp at h2; simp [h2])
  | cons t0 ts =>
    cases ts with
    | nil =>
      obtain ⟨v, rfl⟩ : ∃ v, vs = [v] := by
        cases vs with
        | nil => simp at h2
        | cons v vs => cases vs with
          | nil => exact ⟨v, rfl⟩
          | cons _ _ => simp at h2
      simpa [tup1] using h3 0 t0 v rfl rfl
    | cons t1 ts => exact tup (by rw [h2]; simp)

theorem acalls_of (hG : Fits P G) {f : FuncId} {fn : Func} {c : Code} {ts : List T} {R : T → St → Prop} (hf : P.funcs[f]? = some fn) (hb : fn.body = some c) (hname : fn.name ≠ "runtime.NumGoroutine") (hlen : ts.length ≤ fn.ntmps)
    (h : AW P fn.ntmps c (retA G fn.results.toList R) (envOf 0 ts) σ) : ACalls P f ts σ R := by
  refine ⟨⟨fn, hf, hname, by rw [hb]; rfl⟩, fun vs w μ hi hs hr => ?_⟩
  refine calls_of_wp hf hb ?_
  have hra : RelA w μ σ fn.ntmps { tmps := vs ++ Array.replicate (fn.ntmps - vs.size) undef, defers := [] } (envOf 0 ts) := by
    refine ⟨by simp; omega, rfl, fun j t hj => ?_⟩
    obtain ⟨_, hj⟩ := envOf_get ts 0 j t hj
    have hlt : j < ts.length := by have := Bk hj; omega
    have hv : vs[j]? = some vs[j] := Array.getElem?_eq_getElem (by omega)
    exact ⟨vs[j], by simp only; rw [Array.getElem?_append_left (by omega), hv], hr j t _ hj hv⟩
  refine wp_mono (h _ w μ hi hra) ?_
  rintro e av' w' ⟨a', σ', μ', h1, h2, h3, h4⟩
  have fin : (∃ ts, ResRs G a' σ' fn.results.toList ts ∧ CR σ' (tup1 ts) R) → av'.defers = [] ∧ ∃ v, (results fn av'.tmps).run P w' = .ok v w' ∧
      ∃ v' t σ' μ', Ending.returned v = .returned v' ∧ Ev w μ σ w' μ' σ' ∧ Inv w' μ' σ' ∧ Rel w' μ' σ' v' t ∧ R t σ' := by
    rintro ⟨ts, ht, hw⟩
    obtain ⟨v, hv, rv⟩ := resT_run (P := P) hG h2 h3 ht
    obtain ⟨μ1, σ1, u, g1, g2, g3, hR⟩ := hw w' μ' v h2 rv
    exact ⟨h3.defers, v, hv, v, u, σ1, μ1, rfl, h1.trans g2, g1, g3, hR⟩
  cases e with
  | normal => exact fin h4
  | ret => exact fin h4
  | exit id => exact h4
  | goto l => exact h4
  | panic ch => exact h4.elim
  | outgrown => exact h4.elim

/-! What a callee does not see stays as it is. -/
def Apart (μ : Gh) (x y : Nat × Ob) : Prop := ∀ b p q, μ.loc x.1 = some (b, p) → μ.loc y.1 = some (b, q) → False
theorem Apart.symm {x y : Nat × Ob} (h : Apart μ x y) : Apart μ y x := fun b p q h1 h2 => h b q p h2 h1
theorem inj_pair : (∀ (n m i j : Nat) (x y : Ob) (b p q : Nat), σ.L[n]? = some (i, x) → σ.L[m]? = some (j, y) → μ.loc i = some (b, p) → μ.loc j = some (b, q) → n = m) ↔ σ.L.Pairwise (Apart μ) := by
  rw [List.pairwise_iff_getElem]
  constructor
  · intro h n m hn hm hlt b p q h1 h2
    have := h n m σ.L[n].1 σ.L[m].1 σ.L[n].2 σ.L[m].2 b p q (List.getElem?_eq_getElem hn) (List.getElem?_eq_getElem hm) h1 h2
    omega
  · intro h n m i j x y b p q h1 h2 h3 h4
    obtain ⟨hn, e1⟩ := List.getElem?_eq_some_iff.1 h1
    obtain ⟨hm, e2⟩ := List.getElem?_eq_some_iff.1 h2
    rcases Nat.lt_trichotomy n m with h5 | h5 | h5
    · exact (h n m hn hm h5 b p q (by rw [e1]; exact h3) (by rw [e2]; exact h4)).elim
    · exact h5
    · exact (h m n hm hn h5 b q p (by rw [e2]; exact h4) (by rw [e1]; exact h3)).elim
def ApartR (μ : Gh) (k l : Nat) : Prop := ∀ b f t g u, μ.tok k = some (b, f, t) → μ.tok l = some (b, g, u) → f < t → g < u → False
theorem ApartR.symm {x y : Nat} (h : ApartR μ x y) : ApartR μ y x := fun b f t g u h1 h2 h3 h4 => h b g u f t h2 h1 h4 h3
theorem rinj_pair : (∀ (n m k l b f t g u : Nat), σ.R[n]? = some k → σ.R[m]? = some l → μ.tok k = some (b, f, t) → μ.tok l = some (b, g, u) → f < t → g < u → n = m) ↔ σ.R.Pairwise (ApartR μ) := by
  rw [List.pairwise_iff_getElem]
  constructor
  · intro h n m hn hm hlt b f t g u h1 h2 h3 h4
    have := h n m σ.R[n] σ.R[m] b f t g u (List.getElem?_eq_getElem hn) (List.getElem?_eq_getElem hm) h1 h2 h3 h4
    omega
  · intro h n m k l b f t g u h1 h2 h3 h4 h5 h6
    obtain ⟨hn, e1⟩ := List.getElem?_eq_some_iff.1 h1
    obtain ⟨hm, e2⟩ := List.getElem?_eq_some_iff.1 h2
    rcases Nat.lt_trichotomy n m with h7 | h7 | h7
    · exact (h n m hn hm h7 b f t g u (by rw [e1]; exact h3) (by rw [e2]; exact h4) h5 h6).elim
    · exact h7
    · exact (h m n hm hn h7 b g u f t (by rw [e2]; exact h4) (by rw [e1]; exact h3) h6 h5).elim

theorem frame {f : FuncId} {ts : List T} {Ls Lf : List (Nat × Ob)} (hp : σ.L.Perm (Ls ++ Lf)) {R : T → List (Nat × Ob) → List Nat → Prop} (hnx : σ.nx = none)
    (h : ∀ off, ACalls P f ts ⟨Ls, [], off, none⟩ (fun r σ' => σ'.nx = none ∧ R r σ'.L σ'.R)) : ACalls P f ts σ (fun r σ' => ∃ L' R', R r L' R' ∧ σ' = ⟨L' ++ Lf, R' ++ σ.R, σ.off, none⟩) := by
  refine ⟨(h (fun _ _ => False)).1, fun vs w μ hi hs hr => ?_⟩
  obtain ⟨off', hoff'⟩ : ∃ o : Nat → Nat → Prop, o = fun b q => σ.off b q ∨ (∃ i ob p, (i, ob) ∈ Lf ∧ μ.loc i = some (b, p)) ∨ (∃ k f t, k ∈ σ.R ∧ μ.tok k = some (b, f, t) ∧ f ≤ q ∧ q < t) := ⟨_, rfl⟩
  have hmem : ∀ x, x ∈ Ls ∨ x ∈ Lf ↔ x ∈ σ.L := fun x => by rw [hp.mem_iff, List.mem_append]
  have hpw : (Ls ++ Lf).Pairwise (Apart μ) := (hp.pairwise_iff (fun h => Apart.symm h)).1 (inj_pair.1 hi.inj)
  rw [List.pairwise_append] at hpw
  obtain ⟨hp1, hp2, hp3⟩ := hpw
  have eimm : ∀ b o, Imm w μ σ b o → Imm w μ ⟨Ls, [], off', none⟩ b o := by
    intro b o hx
    refine ⟨hx.lt, ?_, fun i ob p h1 => hx.obj i ob p ((hmem _).1 (.inl h1)), fun k f t h1 => by cases h1⟩
    show ¬ off' b o
    rw [hoff']
    rintro (h1 | ⟨i, ob, p, h1, h2⟩ | ⟨k, f, t, h1, h2, h3⟩)
    · exact hx.off h1
    · exact hx.obj i ob p ((hmem _).1 (.inr h1)) h2
    · exact hx.room k f t h1 h2 h3
  have e0 : Ev0 w μ σ w μ ⟨Ls, [], off', none⟩ := ⟨fun _ _ h => h, fun _ _ h => h, fun _ _ h => h, fun b o hx => ⟨eimm b o hx, rfl⟩, fun _ _ _ h _ => h⟩
  have his : Inv w μ ⟨Ls, [], off', none⟩ := by
    refine ⟨fun i ts h1 => ?_, fun i es h1 => ?_, inj_pair.2 hp1, fun k hk => absurd hk List.not_mem_nil, fun n m k l b f t g u h1 => by simp at h1, ?_, fun b o h1 => ?_, fun i ob b p h1 h2 o h3 => ?_⟩
    · obtain ⟨b, p, c, e, h2, h3, h4, h5⟩ := hi.obj i ts ((hmem _).1 (.inl h1))
      exact ⟨b, p, c, e, h2, h3, h4, fun j t v h6 h7 => (h5 j t v h6 h7).ev' e0⟩
    · obtain ⟨b, c, e, h2, h3, h4, h5⟩ := hi.map i es ((hmem _).1 (.inl h1))
      exact ⟨b, c, e, h2, h3, h4, fun j k u e' h6 h7 => let ⟨h8, h9⟩ := h5 j k u e' h6 h7; ⟨h8.ev' e0, h9.ev' e0⟩⟩
    · obtain ⟨n, h1, _⟩ := hi.fin
      exact ⟨n, h1, fun m hm => by cases hm⟩
    · have h1 : off' b o := h1
      rw [hoff'] at h1
      rcases h1 with h1 | ⟨i, ob, p, h1, h2⟩ | ⟨k, f, t, h1, h2, h3⟩
      · exact hi.offlt b o h1
      · exact hi.lts ((hmem _).1 (.inr h1)) h2
      · obtain ⟨b', f', t', r1, r2, r3⟩ := hi.room k h1
        rw [h2] at r1; injection r1 with r1; injection r1 with r1 r4; injection r4 with r4 r5
        subst r1; subst r4; subst r5
        obtain ⟨⟨c, e', r6, _⟩, _⟩ := r3 (by omega)
        exact (Array.getElem?_eq_some_iff.1 r6).1
    · have h3 : off' b o := h3
      rw [hoff'] at h3
      rcases h3 with h3 | ⟨j, ob', q, h3, h4⟩ | ⟨k, f, t, h3, h4, h5⟩
      · exact hi.offobj i ob b p ((hmem _).1 (.inl h1)) h2 o h3
      · exact hp3 _ h1 _ h3 b p q h2 h4
      · obtain ⟨b', f', t', r1, r2, r3⟩ := hi.room k h3
        rw [h4] at r1; injection r1 with r1; injection r1 with r1 r4; injection r4 with r4 r5
        subst r1; subst r4; subst r5
        obtain ⟨_, r6, _⟩ := r3 (by omega)
        exact r6 i ob p ((hmem _).1 (.inl h1)) h2
  refine ((h off').2 vs w μ his hs fun j t v h1 h2 => (hr j t v h1 h2).ev' e0).mono ?_
  rintro e w' ⟨v, t, σs, μ', rfl, ev, his', rv, hnx', hR⟩
  have hoffs : σs.off = off' := ev.off
  -- the others' blocks are not touched, and are still theirs
  have notlive : ∀ b, (∃ i ob p, (i, ob) ∈ Lf ∧ μ.loc i = some (b, p)) ∨ (∃ k f t, k ∈ σ.R ∧ μ.tok k = some (b, f, t) ∧ f < t) → b < w.heap.size ∧ ¬ Live μ ⟨Ls, [], off', none⟩ b := by
    rintro b (⟨i, ob, p, h1, h2⟩ | ⟨k, f, t, h1, h2, h3⟩)
    · refine ⟨hi.lts ((hmem _).1 (.inr h1)) h2, ?_⟩
      rintro (⟨j, ob', q, h3, h4⟩ | ⟨k, f, t, h3, _⟩)
      · exact hp3 _ h3 _ h1 b q p h4 h2
      · cases h3
    · obtain ⟨b', f', t', r1, r2, r3⟩ := hi.room k h1
      rw [h2] at r1; injection r1 with r1; injection r1 with r1 r4; injection r4 with r4 r5
      subst r1; subst r4; subst r5
      obtain ⟨⟨c, e', r6, _⟩, r7, _⟩ := r3 h3
      refine ⟨(Array.getElem?_eq_some_iff.1 r6).1, ?_⟩
      rintro (⟨j, ob', q, h3, h4⟩ | ⟨k, f, t, h3, _⟩)
      · exact r7 j ob' q ((hmem _).1 (.inl h3)) h4
      · cases h3
  have oldloc : ∀ i ob b p, (i, ob) ∈ Lf → μ'.loc i = some (b, p) → μ.loc i = some (b, p) := by
    intro i ob b p h1 h2
    obtain ⟨b', p', h3, _⟩ := hi.lt ((hmem _).1 (.inr h1))
    rw [ev.loc _ _ h3] at h2; rw [h3, h2]
  have oldtok : ∀ k x, k ∈ σ.R → μ'.tok k = some x → μ.tok k = some x := by
    intro k x h1 h2
    obtain ⟨b', f', t', h3, _⟩ := hi.room k h1
    rw [ev.tok _ _ h3] at h2; rw [h3, h2]
  have evB : Ev w μ σ w' μ' ⟨σs.L ++ Lf, σs.R ++ σ.R, σ.off, none⟩ := by
    refine ⟨ev.below, ev.loc, ev.tok, rfl, ev.shape, fun b hb hl => ?_, fun b o hx => ?_⟩
    · have hls : ¬ Live μ ⟨Ls, [], off', none⟩ b := by
        rintro (⟨j, ob', q, h3, h4⟩ | ⟨k, f, t, h3, _⟩)
        · exact hl (.inl ⟨j, ob', q, (hmem _).1 (.inl h3), h4⟩)
        · cases h3
      obtain ⟨h1, h2⟩ := ev.live b hb hls
      refine ⟨?_, h2⟩
      rintro (⟨i, ob, p, h3, h4⟩ | ⟨k, f, t, h3, h4, h5⟩)
      · rcases List.mem_append.1 h3 with h3 | h3
        · exact h1 (.inl ⟨i, ob, p, h3, h4⟩)
        · exact hl (.inl ⟨i, ob, p, (hmem _).1 (.inr h3), oldloc i ob b p h3 h4⟩)
      · rcases List.mem_append.1 h3 with h3 | h3
        · exact h1 (.inr ⟨k, f, t, h3, h4, h5⟩)
        · exact hl (.inr ⟨k, f, t, h3, oldtok k _ h3 h4, h5⟩)
    · obtain ⟨h1, h2⟩ := ev.imm b o (eimm b o hx)
      refine ⟨⟨h1.lt, hx.off, fun i ob p h3 h4 => ?_, fun k f t h3 h4 => ?_⟩, h2⟩
      · rcases List.mem_append.1 h3 with h3 | h3
        · exact h1.obj i ob p h3 h4
        · exact hx.obj i ob p ((hmem _).1 (.inr h3)) (oldloc i ob b p h3 h4)
      · rcases List.mem_append.1 h3 with h3 | h3
        · exact h1.room k f t h3 h4
        · exact hx.room k f t h3 (oldtok k _ h3 h4)
  have e1 : Ev0 w' μ' σs w' μ' ⟨σs.L ++ Lf, σs.R ++ σ.R, σ.off, none⟩ := by
    refine ⟨fun _ _ h => h, fun _ _ h => h, fun _ _ h => h, fun b o hx => ⟨⟨hx.lt, fun h1 => ?_, fun i ob p h3 h4 => ?_, fun k f t h3 h4 h5 => ?_⟩, rfl⟩, fun _ _ _ h _ => h⟩
    · have := hx.off; rw [hoffs, hoff'] at this; exact this (.inl h1)
    · rcases List.mem_append.1 h3 with h3 | h3
      · exact hx.obj i ob p h3 h4
      · have := hx.off; rw [hoffs, hoff'] at this; exact this (.inr (.inl ⟨i, ob, p, h3, oldloc i ob b p h3 h4⟩))
    · rcases List.mem_append.1 h3 with h3 | h3
      · exact hx.room k f t h3 h4 h5
      · have := hx.off; rw [hoffs, hoff'] at this; exact this (.inr (.inr ⟨k, f, t, h3, oldtok k _ h3 h4, h5⟩))
  have foreign : ∀ b, (∃ i ob p, (i, ob) ∈ Lf ∧ μ.loc i = some (b, p)) ∨ (∃ k f t, k ∈ σ.R ∧ μ.tok k = some (b, f, t) ∧ f < t) → ¬ Live μ' σs b ∧ w'.heap[b]? = w.heap[b]? := fun b hb =>
    let ⟨h1, h2⟩ := notlive b hb; ev.live b h1 h2
  refine ⟨v, t, ⟨σs.L ++ Lf, σs.R ++ σ.R, σ.off, none⟩, μ', rfl, evB, ?_, rv.ev' e1, σs.L, σs.R, hR, rfl⟩
  refine ⟨fun i us h1 => ?_, fun i es h1 => ?_, inj_pair.2 ?_, fun k hk => ?_, rinj_pair.2 ?_, ?_, fun b o h1 => Nat.lt_of_lt_of_le (hi.offlt b o h1) ev.below.size, fun i ob b p h1 h2 o h3 => ?_⟩
  · rcases List.mem_append.1 h1 with h1 | h1
    · obtain ⟨b, p, c, e, h2, h3, h4, h5⟩ := his'.obj i us h1
      exact ⟨b, p, c, e, h2, h3, h4, fun j t v h6 h7 => (h5 j t v h6 h7).ev' e1⟩
    · obtain ⟨b, p, c, e, h2, h3, h4, h5⟩ := hi.obj i us ((hmem _).1 (.inr h1))
      exact ⟨b, p, c, e, ev.loc _ _ h2, by rw [(foreign b (.inl ⟨i, _, p, h1, h2⟩)).2]; exact h3, h4, fun j t v h6 h7 => (h5 j t v h6 h7).ev evB⟩
  · rcases List.mem_append.1 h1 with h1 | h1
    · obtain ⟨b, c, e, h2, h3, h4, h5⟩ := his'.map i es h1
      exact ⟨b, c, e, h2, h3, h4, fun j k u e' h6 h7 => let ⟨h8, h9⟩ := h5 j k u e' h6 h7; ⟨h8.ev' e1, h9.ev' e1⟩⟩
    · obtain ⟨b, c, e, h2, h3, h4, h5⟩ := hi.map i es ((hmem _).1 (.inr h1))
      exact ⟨b, c, e, ev.loc _ _ h2, by rw [(foreign b (.inl ⟨i, _, 0, h1, h2⟩)).2]; exact h3, h4, fun j k u e' h6 h7 => let ⟨h8, h9⟩ := h5 j k u e' h6 h7; ⟨h8.ev evB, h9.ev evB⟩⟩
  · rw [List.pairwise_append]
    refine ⟨inj_pair.1 his'.inj, hp2.imp_of_mem fun {x y} hx hy h b p q h1 h2 => h b p q (oldloc x.1 x.2 b p hx h1) (oldloc y.1 y.2 b q hy h2), fun x hx y hy b p q h1 h2 => ?_⟩
    exact (foreign b (.inl ⟨y.1, y.2, q, hy, oldloc y.1 y.2 b q hy h2⟩)).1 (.inl ⟨x.1, x.2, p, hx, h1⟩)
  · rcases List.mem_append.1 hk with hk | hk
    · obtain ⟨b, f, t, h1, h2, h3⟩ := his'.room k hk
      refine ⟨b, f, t, h1, h2, fun hlt => ?_⟩
      obtain ⟨h4, h5, h6⟩ := h3 hlt
      refine ⟨h4, fun i ob p h7 h8 => ?_, fun o h7 h8 h9 => h6 o h7 h8 (by rw [hoffs, hoff']; exact .inl h9)⟩
      rcases List.mem_append.1 h7 with h7 | h7
      · exact h5 i ob p h7 h8
      · exact (foreign b (.inl ⟨i, ob, p, h7, oldloc i ob b p h7 h8⟩)).1 (.inr ⟨k, f, t, hk, h1, hlt⟩)
    · obtain ⟨b, f, t, h1, h2, h3⟩ := hi.room k hk
      refine ⟨b, f, t, ev.tok _ _ h1, h2, fun hlt => ?_⟩
      obtain ⟨⟨c, e, h4, h4'⟩, h5, h6⟩ := h3 hlt
      obtain ⟨g1, g2⟩ := foreign b (.inr ⟨k, f, t, hk, h1, hlt⟩)
      refine ⟨⟨c, e, by rw [g2]; exact h4, h4'⟩, fun i ob p h7 h8 => ?_, h6⟩
      rcases List.mem_append.1 h7 with h7 | h7
      · exact g1 (.inl ⟨i, ob, p, h7, h8⟩)
      · exact h5 i ob p ((hmem _).1 (.inr h7)) (oldloc i ob b p h7 h8)
  · rw [List.pairwise_append]
    refine ⟨rinj_pair.1 his'.rinj, (rinj_pair.1 hi.rinj).imp_of_mem fun {x y} hx hy h b f t g u h1 h2 => h b f t g u (oldtok x _ hx h1) (oldtok y _ hy h2), fun x hx y hy b f t g u h1 h2 h3 h4 => ?_⟩
    exact (foreign b (.inr ⟨y, g, u, hy, oldtok y _ hy h2, h4⟩)).1 (.inr ⟨x, f, t, hx, h1, h3⟩)
  · obtain ⟨n, h1, _⟩ := his'.fin
    exact ⟨n, h1, fun m hm => by cases hm⟩
  · rcases List.mem_append.1 h1 with h1 | h1
    · exact his'.offobj i ob b p h1 h2 o (by rw [hoffs, hoff']; exact .inl h3)
    · exact hi.offobj i ob b p ((hmem _).1 (.inr h1)) (oldloc i ob b p h1 h2) o h3
end
end Go.Ts
set_option linter.unusedVariables false
set_option linter.unusedSimpArgs false
namespace Go.Ts

def eqZ : Value → Z → Bool
  | .bool b, .b => !b
  | .int k n, .i k' => decide (k = k') && decide (n = 0)
  | .float k n, .f k' => decide (k = k') && decide (n = 0)
  | .complex k m n, .c k' => decide (k = k') && decide (m = 0) && decide (n = 0)
  | .string s, .s => s.data.toList.isEmpty
  | .pointer a, .p => a.isNone
  | .slice a n c, .sl => a.isNone && decide (n = 0) && decide (c = 0)
  | .map r, .m => r.isNone
  | .nilFunc, .fn => true
  | _, _ => false
theorem eqZ_eq {v : Value} {z : Z} (h : eqZ v z = true) : v = z.value := by
  cases v <;> cases z <;> simp [eqZ] at h <;> simp [Z.value, h]
  rename_i s
  obtain ⟨⟨l⟩⟩ := s
  simp at h; subst h; rfl
def eqZs : List Value → List Z → Bool
  | [], [] => true
  | v :: vs, z :: zs => eqZ v z && eqZs vs zs
  | _, _ => false
theorem eqZs_eq : ∀ {vs : List Value} {zs : List Z}, eqZs vs zs = true → vs = zs.map Z.value
  | [], [], _ => rfl
  | [], _ :: _, h => by cases h
  | _ :: _, [], h => by cases h
  | v :: vs, z :: zs, h => by
    simp only [eqZs, Bool.and_eq_true] at h
    rw [List.map_cons, eqZ_eq h.1, eqZs_eq h.2]

def fitB (P : Program) (t : Nat) (i : TI) : Bool :=
  match P.info? t, P.underlying t with
  | some info, some d => decide (tdOf d = i.d) && Nat.beq info.size i.size && Nat.beq info.bytes i.bytes && Nat.beq i.zero.length i.size && (i.d.agg || Nat.beq i.size 1) &&
    (match info.zero with
     | some (.agg cs) => i.d.agg && eqZs cs.toList i.zero
     | some v => !i.d.agg && eqZs [v] i.zero
     | none => false)
  | _, _ => false
theorem fitB_fits {P : Program} {t : Nat} {i : TI} (h : fitB P t i = true) : fits1 P t i := by
  unfold fitB at h
  split at h
  · rename_i info d h1 h2
    simp only [Bool.and_eq_true, decide_eq_true_eq, Bool.or_eq_true] at h
    obtain ⟨⟨⟨⟨⟨h3, h4⟩, h5⟩, h6⟩, h7⟩, h8⟩ := h
    refine ⟨info, d, h1, h2, h3, Nat.eq_of_beq_eq_true h4, Nat.eq_of_beq_eq_true h5, ?_, Nat.eq_of_beq_eq_true h6, fun ha => ?_⟩
    · split at h8
      · rename_i cs hz
        simp only [Bool.and_eq_true] at h8
        rw [hz, if_pos h8.1, ← eqZs_eq h8.2]
      · rename_i v hv hz
        simp only [Bool.and_eq_true, Bool.not_eq_true'] at h8
        have := eqZs_eq h8.2
        rw [hz, h8.1]
        cases hzs : i.zero with
        | nil => rw [hzs] at this; cases this
        | cons z zs => rw [hzs] at this; simp at this ⊢; exact this.1
      · cases h8
    · rw [ha] at h7
      rcases h7 with h7 | h7
      · cases h7
      · exact Nat.eq_of_beq_eq_true h7
  · cases h

def tabB (P : Program) : Nat → List (Option TI) → Bool
  | _, [] => true
  | t, none :: r => tabB P (t + 1) r
  | t, some i :: r => fitB P t i && tabB P (t + 1) r
def tab (L : List (Option TI)) (t : Nat) : Option TI := match L[t]? with
  | some x => x
  | none => none
theorem tabB_get {P : Program} : ∀ (L : List (Option TI)) (s t : Nat) (i : TI), tabB P s L = true → L[t]? = some (some i) → fits1 P (s + t) i
  | [], s, t, i, _, h => by simp at h
  | x :: L, s, 0, i, hb, h => by
    simp at h; subst h
    simp only [tabB, Bool.and_eq_true] at hb
    exact fitB_fits hb.1
  | none :: L, s, t + 1, i, hb, h => by
    have := tabB_get L (s + 1) t i hb (by simpa using h)
    rw [show s + 1 + t = s + (t + 1) by omega] at this; exact this
  | some x :: L, s, t + 1, i, hb, h => by
    simp only [tabB, Bool.and_eq_true] at hb
    have := tabB_get L (s + 1) t i hb.2 (by simpa using h)
    rw [show s + 1 + t = s + (t + 1) by omega] at this; exact this
theorem tab_fits {P : Program} {L : List (Option TI)} (h : tabB P 0 L = true) : Fits P (tab L) := by
  intro t i ht
  unfold tab at ht
  split at ht
  · rename_i x hx; subst ht; have := tabB_get L 0 t i h hx; rwa [Nat.zero_add] at this
  · cases ht
end Go.Ts
