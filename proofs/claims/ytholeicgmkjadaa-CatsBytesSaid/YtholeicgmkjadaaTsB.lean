/- Trees, continued: what the operations that leave the state as it is come to, as one function on trees; its soundness. -/
import Derived.Test.YtholeicgmkjadaaTsA
import Derived.Laws.Cells
import Derived.Laws.Strings
import Derived.Laws.CopyRow
set_option linter.unusedVariables false
set_option linter.unusedSimpArgs false
namespace Go.Ts

/-- A type's shape, as far as the operations ask. -/
inductive TD where
  | bool | str
  | int (k : IntKind)
  | flt (k : FloatKind)
  | cplx (k : FloatKind)
  | ptr (e : Nat)
  | slice (e : Nat)
  | arr (n e : Nat)
  | struct (fs : List (Nat × Nat))
  | map (k e : Nat)
  | fn
  | other
  deriving DecidableEq
inductive Z where
  | b | i (k : IntKind) | f (k : FloatKind) | c (k : FloatKind) | s | p | sl | m | fn
  deriving DecidableEq
structure TI where
  d : TD
  size : Nat
  bytes : Nat
  zero : List Z
  deriving DecidableEq

def Z.value : Z → Value
  | .b => .bool false
  | .i k => .int k 0
  | .f k => .float k 0
  | .c k => .complex k 0 0
  | .s => .string ⟨#[]⟩
  | .p => .pointer none
  | .sl => .slice none 0 0
  | .m => .map none
  | .fn => .nilFunc
def Z.tree : Z → T
  | .b => .bool false
  | .i k => .int k 0
  | .f k => .flt k 0
  | .c k => .cplx k 0 0
  | .s => .str []
  | .p => .nilp
  | .sl => .nilsl
  | .m => .map none
  | .fn => .nilfn
theorem Z.rel (w : World) (μ : Gh) (σ : St) (z : Z) : Rel w μ σ z.value z.tree := by
  cases z <;> first | exact .str ⟨#[]⟩ | constructor

def tdOf : TypeDesc → TD
  | .bool => .bool
  | .int k => .int k
  | .float k => .flt k
  | .complex k => .cplx k
  | .string => .str
  | .pointer e => .ptr e
  | .slice e => .slice e
  | .array n e => .arr n e
  | .map k e => .map k e
  | .struct fs => .struct (fs.toList.map fun f => (f.offset, f.type))
  | .func .. => .fn
  | _ => .other
def TD.agg : TD → Bool
  | .arr .. | .struct .. => true
  | _ => false

/-- The table fits the program. -/
def fits1 (P : Program) (t : Nat) (i : TI) : Prop :=
  ∃ info d, P.info? t = some info ∧ P.underlying t = some d ∧ tdOf d = i.d ∧ info.size = i.size ∧ info.bytes = i.bytes ∧
    info.zero = some (if i.d.agg then .agg (i.zero.map Z.value).toArray else (i.zero.headD .b).value) ∧ i.zero.length = i.size ∧ (i.d.agg = false → i.size = 1)
def Fits (P : Program) (G : Nat → Option TI) : Prop := ∀ t i, G t = some i → fits1 P t i

def TI.tree (i : TI) : T := if i.d.agg then .agg (i.zero.map Z.tree) else (i.zero.headD .b).tree

theorem wrapIf (c : Bool) (x y : Value) : (if c then x else y) = cond c x y := by cases c <;> rfl

/-- A part of a row of cells, as a type reads it. -/
def readT (G : Nat → Option TI) (t : Nat) (cs : List T) (o : Nat) : Option T :=
  match G t with
  | none => none
  | some i => cond i.d.agg (cond (Nat.ble (o + i.size) cs.length) (some (.agg ((cs.drop o).take i.size))) none) (cs[o]?)

def sizeT (G : Nat → Option TI) (t : Nat) : Option Nat := (G t).map (·.size)

def byteOfT : T → Option UInt8
  | .int .u8 n => cond (decide (0 ≤ n) && decide (n < 256)) (some (UInt8.ofNat n.toNat)) none
  | _ => none
def bytesOf : List T → Option (List UInt8)
  | [] => some []
  | t :: r => match byteOfT t, bytesOf r with
    | some b, some s => some (b :: s)
    | _, _ => none
def bT (b : UInt8) : T := .int .u8 b.toNat

def isEq : BinOp → Option Bool
  | .eql => some true
  | .neq => some false
  | _ => none
def eqn (op : BinOp) (b : Bool) : Option T :=
  match op with
  | .eql => some (.bool b)
  | .neq => some (.bool (!b))
  | _ => none

def evalInt (op : BinOp) (k : IntKind) (a b : Int) : Option T :=
  match op with
  | .add => some (.int k (k.wrap (a + b)))
  | .sub => some (.int k (k.wrap (a - b)))
  | .mul => some (.int k (k.wrap (a * b)))
  | .quo => cond (b == 0) none (some (.int k (k.wrap (a.tdiv b))))
  | .rem => cond (b == 0) none (some (.int k (a.tmod b)))
  | .and => some (.int k (k.wrap ((BitVec.ofInt k.bits a &&& BitVec.ofInt k.bits b).toNat)))
  | .or => some (.int k (k.wrap ((BitVec.ofInt k.bits a ||| BitVec.ofInt k.bits b).toNat)))
  | .xor => some (.int k (k.wrap ((BitVec.ofInt k.bits a ^^^ BitVec.ofInt k.bits b).toNat)))
  | .andNot => some (.int k (k.wrap ((BitVec.ofInt k.bits a &&& ~~~(BitVec.ofInt k.bits b)).toNat)))
  | .eql => some (.bool (a == b))
  | .neq => some (.bool (a != b))
  | .lss => some (.bool (decide (a < b)))
  | .leq => some (.bool (decide (a ≤ b)))
  | .gtr => some (.bool (decide (b < a)))
  | .geq => some (.bool (decide (b ≤ a)))
  | _ => none

def evalShift (op : BinOp) (k : IntKind) (a b : Int) : Option T :=
  cond (decide (b < 0)) none (match op with
    | .shl => some (.int k (k.wrap (a * 2 ^ (min b.toNat k.bits))))
    | .shr => some (.int k (a.fdiv (2 ^ (min b.toNat k.bits))))
    | _ => none)

def isShift : BinOp → Bool
  | .shl | .shr => true
  | _ => false

def evalStr (op : BinOp) (a b : List UInt8) : Option T :=
  match op with
  | .eql => some (.bool (a == b))
  | .neq => some (.bool (!(a == b)))
  | _ => none

def evalBin (d : TD) (op : BinOp) (x y : T) : Option T :=
  match x, y with
  | .int k a, .int k' b => cond (isShift op) (evalShift op k a b) (cond (decide (k = k')) (evalInt op k a b) none)
  | .str a, .str b => evalStr op a b
  | .bool a, .bool b => match d with
    | .bool => eqn op (a == b)
    | _ => none
  | .nilsl, .nilsl => match d with
    | .slice _ => eqn op true
    | _ => none
  | .sl _ _ (_ :: _), .nilsl => match d with
    | .slice _ => eqn op false
    | _ => none
  | .aref .., .nilsl => match d with
    | .slice _ => eqn op false
    | _ => none
  | .nilp, .nilp => match d with
    | .ptr _ => eqn op true
    | _ => none
  | .ptr _ _, .nilp => match d with
    | .ptr _ => eqn op false
    | _ => none
  | .nilp, .ptr _ _ => match d with
    | .ptr _ => eqn op false
    | _ => none
  | .map none, .map none => match d with
    | .map _ _ => eqn op true
    | _ => none
  | .map (some _), .map none => match d with
    | .map _ _ => eqn op false
    | _ => none
  | _, _ => none

def evalUn (op : UnOp) (x : T) : Option T :=
  match op, x with
  | .neg, .int k n => some (.int k (k.wrap (0 - n)))
  | .not, .bool b => some (.bool (!b))
  | _, _ => none

def fieldOf (G : Nat → Option TI) (s f : Nat) : Option (Nat × Nat) :=
  match G s with
  | some { d := .struct fs, .. } => fs[f]?
  | _ => none

def evalOp (G : Nat → Option TI) (objs : Nat → Option Ob) (ρ : Operand → Option T) (o : Op) : Option T :=
  match o with
  | .move x | .assign x => ρ x
  | .pick c a b => match ρ c with
    | some (.bool true) => ρ a
    | some (.bool false) => ρ b
    | _ => none
  | .binOp op t x y _ => match ρ x, ρ y with
    | some a, some b => match G t with
      | some i => evalBin i.d op a b
      | none => none
    | _, _ => none
  | .unOp op _ x => match ρ x with
    | some a => evalUn op a
    | none => none
  | .convert src dst x => match ρ x, G src, G dst with
    | some (.int _ n), some _, some { d := .int k, .. } => some (.int k (k.wrap n))
    | some (.str s), some _, some { d := .str, .. } => some (.str s)
    | some (.sl 1 _ xs), some { d := .slice e, .. }, some { d := .str, .. } => match G e with
      | some { d := .int .u8, .. } => (bytesOf xs).map .str
      | _ => none
    | some .nilsl, some { d := .slice e, .. }, some { d := .str, .. } => match G e with
      | some { d := .int .u8, .. } => some (.str [])
      | _ => none
    | some (.aref 1 i o n _), some { d := .slice e, .. }, some { d := .str, .. } => match G e, objs i with
      | some { d := .int .u8, .. }, some (.cells ts) => cond (Nat.ble (o + n) ts.length) ((bytesOf ((ts.drop o).take n)).map .str) none
      | _, _ => none
    | _, _, _ => none
  | .fieldAddr s x f => match fieldOf G s f with
    | some (off, ft) => match sizeT G ft with
      | some (_ + 1) => match ρ x with
        | some (.ptr b o) => some (.ptr b (o + off))
        | some (.ro t o) => some (.ro t (o + off))
        | _ => none
      | _ => none
    | none => none
  | .field s x f => match fieldOf G s f with
    | some (off, ft) => match ρ x with
      | some (.agg cs) => readT G ft cs off
      | _ => none
    | none => none
  | .indexAddr t x i => match ρ i with
    | some (.int _ n) => cond (decide (0 ≤ n)) (match G t with
      | some { d := .slice e, .. } => match ρ x, sizeT G e with
        | some (.sl sz _ xs), some se => cond (Nat.beq sz se) ((xs[n.toNat]?).map (fun x => .ro x 0)) none
        | some (.aref sz b o len _), some se => cond (Nat.beq sz se && decide (n < len)) (some (.ptr b (o + n.toNat * sz))) none
        | _, _ => none
      | some { d := .arr len e, .. } => match ρ x, sizeT G e with
        | some (.ptr b o), some se => cond (decide (n < len)) (some (.ptr b (o + n.toNat * se))) none
        | some (.ro y o), some se => cond (decide (n < len)) (some (.ro y (o + n.toNat * se))) none
        | _, _ => none
      | _ => none) none
    | _ => none
  | .load t x => match ρ x with
    | some (.ro y o) => readT G t y.cells o
    | some (.ptr b o) => match objs b with
      | some (.cells ts) => readT G t ts o
      | _ => none
    | _ => none
  | .extract x i => match ρ x with
    | some (.tup cs) => cs[i]?
    | _ => none
  | .nilCheck x => match ρ x with
    | some (.ptr b o) => some (.ptr b o)
    | some (.ro y o) => some (.ro y o)
    | _ => none
  | .slice t x lo hi none => match G t with
    | some { d := .slice e, .. } => match sizeT G e, ρ x, (lo.map ρ).getD (some (.int .i64 0)) with
      | some se, some (.sl sz own xs), some (.int _ l) =>
        match (hi.map ρ).getD (some (.int .i64 xs.length)) with
        | some (.int _ h) => cond (Nat.beq sz se && decide (0 ≤ l) && decide (l ≤ h) && decide (h ≤ xs.length))
            (some (.sl sz (cond (h == (xs.length : Int)) own .no) ((xs.take h.toNat).drop l.toNat))) none
        | _ => none
      | some se, some (.aref sz b o n cap), some (.int _ l) =>
        match (hi.map ρ).getD (some (.int .i64 n)) with
        | some (.int _ h) => cond (Nat.beq sz se && decide (0 ≤ l) && decide (l ≤ h) && decide (h ≤ (cap.getD n : Nat)))
            (cond (decide (l < h)) (some (.aref sz b (o + l.toNat * sz) (h.toNat - l.toNat) (cap.map fun c => c - l.toNat))) (some (.sl sz .no []))) none
        | _ => none
      | some _, some .nilsl, some (.int _ l) =>
        match (hi.map ρ).getD (some (.int .i64 0)) with
        | some (.int _ h) => cond (decide (l = 0) && decide (h = 0)) (some .nilsl) none
        | _ => none
      | _, _, _ => none
    | _ => none
  | .call { callee := .builtin .len, args, argTypes } => match args.toList, argTypes.toList with
    | [x], [t] => match ρ x, (G t).map TI.d with
      | some (.sl _ _ xs), some (.slice _) => some (.int .i64 xs.length)
      | some .nilsl, some (.slice _) => some (.int .i64 0)
      | some (.aref _ _ _ n _), some (.slice _) => some (.int .i64 n)
      | some (.str s), some .str => some (.int .i64 s.length)
      | _, _ => none
    | _, _ => none
  | .call { callee := .builtin .cap, args, argTypes } => match args.toList, argTypes.toList with
    | [x], [t] => match ρ x, (G t).map TI.d with
      | some .nilsl, some (.slice _) => some (.int .i64 0)
      | some (.aref _ _ _ _ (some c)), some (.slice _) => some (.int .i64 c)
      | _, _ => none
    | _, _ => none
  | .makeFunc fn first captured => match first.toList with
    | [] => (captured.toList.mapM ρ).map (.fn fn)
    | _ => match captured.toList with
      | [] => (first.toList.mapM ρ).map (.bnd fn)
      | _ => none
  | _ => none

section
variable {P : Program} {G : Nat → Option TI} {w : World} {μ : Gh} {σ : St}

theorem g_under (hG : Fits P G) {t : Nat} {i : TI} (h : G t = some i) : ∃ d, (underlying t).run P w = .ok d w ∧ tdOf d = i.d := by
  obtain ⟨info, d, h1, h2, h3, _⟩ := hG t i h
  exact ⟨d, by simp [underlying, h2], h3⟩
theorem g_size (hG : Fits P G) {t : Nat} {i : TI} (h : G t = some i) : (sizeOf t).run P w = .ok i.size w := by
  obtain ⟨info, d, h1, h2, h3, h4, _⟩ := hG t i h
  simp [sizeOf, typeInfo, h1, h4]
theorem g_info (hG : Fits P G) {t : Nat} {i : TI} (h : G t = some i) : ∃ info, (typeInfo t).run P w = .ok info w ∧ info.bytes = i.bytes ∧ info.size = i.size := by
  obtain ⟨info, d, h1, h2, h3, h4, h5, _⟩ := hG t i h
  exact ⟨info, by simp [typeInfo, h1], h5, h4⟩
theorem g_agg (hG : Fits P G) {t : Nat} {i : TI} (h : G t = some i) : (isAgg t).run P w = .ok i.d.agg w := by
  obtain ⟨info, d, h1, h2, h3, h4, _⟩ := hG t i h
  have : (isAgg t).run P w = .ok (tdOf d).agg w := by
    simp only [isAgg, underlying, Sem.run_bind, run_program, Result.andThen_ok, h2]
    cases d <;> simp [tdOf, TD.agg]
  rw [this, h3]
theorem zrel_list (zs : List Z) : ∀ (j : Nat) (c : T) (v : Value), (zs.map Z.tree)[j]? = some c → (zs.map Z.value)[j]? = some v → Rel w μ σ v c := by
  intro j c v h1 h2
  rw [List.getElem?_map] at h1 h2
  cases hz : zs[j]? with
  | none => simp [hz] at h1
  | some z => simp [hz] at h1 h2; subst h1; subst h2; exact Z.rel w μ σ z
theorem g_zero (hG : Fits P G) {t : Nat} {i : TI} (h : G t = some i) : ∃ v, (zeroValue t).run P w = .ok v w ∧ Rel w μ σ v i.tree ∧ v.cells.size = i.size ∧ i.tree.cells.length = i.size := by
  obtain ⟨info, d, h1, h2, h3, h4, h5, h6, h7, h8⟩ := hG t i h
  refine ⟨(if i.d.agg then .agg (i.zero.map Z.value).toArray else (i.zero.headD .b).value), by simp only [zeroValue, typeInfo, Sem.run_bind, run_program, Result.andThen_ok, h1, h6, Sem.run_pure], ?_⟩
  unfold TI.tree
  cases ha : i.d.agg with
  | true => exact ⟨.agg _ _ (by simp) (by simpa using zrel_list i.zero), by simp [Value.cells, h7], by simp [T.cells, h7]⟩
  | false =>
    have h9 := h8 ha
    simp only [Bool.false_eq_true, if_false]
    refine ⟨Z.rel w μ σ _, ?_, ?_⟩ <;> cases i.zero.headD .b <;> simp [Z.value, Z.tree, Value.cells, T.cells, h9]

theorem add_at (b o n : Nat) : (⟨b, o, none⟩ : Addr).add n = ⟨b, o + n, none⟩ := by
  unfold Addr.add; split
  · subst_vars; rfl
  · rfl

/-- A row of cells in memory that reads as trees. -/
def CellsAt (w : World) (μ : Gh) (σ : St) (b p : Nat) (cs : List T) : Prop :=
  ∀ j c, cs[j]? = some c → ∃ v, w.cell? ⟨b, p + j, none⟩ = some v ∧ Rel w μ σ v c

theorem loadCells_rel {b p o n : Nat} {cs : List T} (h : CellsAt w μ σ b p cs) (hn : o + n ≤ cs.length) :
    ∃ vs : Array Value, (loadCells ⟨b, p + o, none⟩ n).run P w = .ok vs w ∧ vs.size = n ∧ ∀ (j : Nat) (c : T) (v : Value), ((cs.drop o).take n)[j]? = some c → vs[j]? = some v → Rel w μ σ v c := by
  have hc : ∀ j, j < n → ∃ v, w.cell? ⟨b, p + o + j, none⟩ = some v ∧ ∀ c, cs[o + j]? = some c → Rel w μ σ v c := by
    intro j hj
    obtain ⟨v, hv, r⟩ := h (o + j) cs[o + j] (List.getElem?_eq_getElem (by omega))
    refine ⟨v, by rw [← Nat.add_assoc] at hv; exact hv, fun c hc => ?_⟩
    rw [List.getElem?_eq_getElem (by omega)] at hc
    injection hc with hc
    exact hc ▸ r
  have := run_loadCells (P := P) w ⟨b, p + o, none⟩ n (fun j => (w.cell? ⟨b, p + o + j, none⟩).getD undef) (fun j hj => by
    rw [add_at]; obtain ⟨v, hv, _⟩ := hc j hj; simp [hv])
  refine ⟨_, this, by simp, fun j c v h1 h2 => ?_⟩
  have hj : j < n := by
    rw [List.getElem?_take] at h1
    split at h1
    · assumption
    · cases h1
  obtain ⟨u, hu, r⟩ := hc j hj
  rw [List.getElem?_take, if_pos hj, List.getElem?_drop] at h1
  simp [hj, hu] at h2
  exact h2 ▸ r c h1

theorem readT_run (hG : Fits P G) {b p o t : Nat} {cs : List T} {x : T} (h : CellsAt w μ σ b p cs) (hx : readT G t cs o = some x) :
    ∃ v, (loadVar t ⟨b, p + o, none⟩).run P w = .ok v w ∧ Rel w μ σ v x := by
  unfold readT at hx
  cases hi : G t with
  | none => simp [hi] at hx
  | some i =>
    simp only [hi] at hx
    simp only [loadVar, Sem.run_bind, g_agg hG hi, Result.andThen_ok]
    cases ha : i.d.agg with
    | true =>
      simp only [ha, cond_true] at hx
      by_cases hb : Nat.ble (o + i.size) cs.length = true
      · simp only [hb, cond_true] at hx
        injection hx with hx; subst hx
        obtain ⟨vs, h1, h2, h3⟩ := loadCells_rel (P := P) h (Nat.le_of_ble_eq_true hb)
        refine ⟨.agg vs, by simp [g_size hG hi, h1], .agg _ _ ?_ h3⟩
        rw [h2, List.length_take, List.length_drop]
        have := Nat.le_of_ble_eq_true hb
        omega
      · rw [Bool.not_eq_true] at hb; simp [hb] at hx
    | false =>
      simp only [ha, cond_false] at hx
      obtain ⟨v, hv, r⟩ := h o x hx
      exact ⟨v, by simp [hv], r⟩

theorem Rel.ro_cells {a : Option Addr} {y : T} {o : Nat} (h : Rel w μ σ (.pointer a) (.ro y o)) : ∃ b p, a = some ⟨b, p + o, none⟩ ∧ CellsAt w μ σ b p y.cells := by
  cases h with
  | ro b p o x h r => exact ⟨b, p, rfl, fun j c hj => let ⟨_, v, hv⟩ := h j c hj; ⟨v, hv, r j c v hj hv⟩⟩

theorem Inv.cells (hi : Inv w μ σ) {i : Nat} {ts : List T} (h : (i, .cells ts) ∈ σ.L) : ∃ b p, μ.loc i = some (b, p) ∧ CellsAt w μ σ b p ts := by
  obtain ⟨b, p, c, e, h0, h1, h2, h3⟩ := hi.obj i ts h
  refine ⟨b, p, h0, fun j t hj => ?_⟩
  have hlt : j < ts.length := by
    rcases Nat.lt_or_ge j ts.length with h | h
    · exact h
    · rw [List.getElem?_eq_none h] at hj; cases hj
  have : c[p + j]? = some c[p + j] := Array.getElem?_eq_getElem (by omega)
  exact ⟨c[p + j], by simp [World.cell?, h1, this], h3 j t _ hj this⟩

def look : List (Nat × Ob) → Nat → Option Ob
  | [], _ => none
  | (i, o) :: L, j => cond (Nat.beq i j) (some o) (look L j)
theorem look_mem : ∀ {L : List (Nat × Ob)} {i : Nat} {o : Ob}, look L i = some o → (i, o) ∈ L
  | (j, x) :: L, i, o, h => by
    simp only [look] at h
    by_cases e : j = i
    · subst e; simp at h; subst h; simp
    · rw [beqF e] at h; exact List.mem_cons_of_mem _ (look_mem h)

theorem bytesOf_length : ∀ {xs : List T} {s : List UInt8}, bytesOf xs = some s → s.length = xs.length
  | [], s, h => by simp [bytesOf] at h; subst h; rfl
  | x :: xs, s, h => by
    simp only [bytesOf] at h
    split at h
    · rename_i b r hb hr
      injection h with h; subst h
      simp [bytesOf_length hr]
    · cases h

section
variable {P : Program} {G : Nat → Option TI} {w : World} {μ : Gh} {σ : St}

theorem evalInt_run {op : BinOp} {k : IntKind} {a b : Int} {t : T} (h : evalInt op k a b = some t) (hs : isShift op = false) (xt : TypeId) :
    ∃ v, (binOp op xt (.int k a) (.int k b)).run P w = .ok v w ∧ Rel w μ σ v t := by
  cases op <;> simp only [evalInt, isShift, Bool.true_eq_false, reduceCtorEq] at h hs <;>
    first
    | (injection h with h; subst h; refine ⟨_, by simp only [binOp, Op.intArith, Op.intBits, Op.intCmp, ne_eq, not_true_eq_false, if_false]; rfl, ?_⟩; constructor)
    | (cases hb : (b == 0) with
       | true => simp [hb] at h
       | false =>
         simp only [hb, cond_false] at h
         injection h with h; subst h
         have hb' : ¬ b = 0 := by simpa using hb
         refine ⟨_, by simp only [binOp, Op.intDiv, ne_eq, not_true_eq_false, if_false, if_neg hb']; rfl, ?_⟩; constructor)

theorem evalShift_run {op : BinOp} {k k' : IntKind} {a b : Int} {t : T} (h : evalShift op k a b = some t) (xt : TypeId) :
    ∃ v, (binOp op xt (.int k a) (.int k' b)).run P w = .ok v w ∧ Rel w μ σ v t := by
  unfold evalShift at h
  by_cases hb : b < 0
  · simp [hb] at h
  · simp only [hb, decide_false, cond_false] at h
    cases op <;> simp only [reduceCtorEq] at h <;> (injection h with h; subst h; refine ⟨_, by simp only [binOp, Op.shift, if_neg hb]; rfl, ?_⟩; constructor)

theorem eqn_run {op : BinOp} {b : Bool} {t : T} (h : eqn op b = some t) {xt : TypeId} {x y : Value} (he : (Op.equal xt x y).run P w = .ok b w)
    (hs : ∀ op, op = .eql ∨ op = .neq → binOp op xt x y = (do let r ← Op.equal xt x y; pure (.bool (if op = .eql then r else !r)))) :
    ∃ v, (binOp op xt x y).run P w = .ok v w ∧ Rel w μ σ v t := by
  cases op <;> simp only [eqn, reduceCtorEq] at h <;> injection h with h <;> subst h
  · exact ⟨_, by rw [hs .eql (.inl rfl)]; simp [he], .bool _⟩
  · exact ⟨_, by rw [hs .neq (.inr rfl)]; simp [he], .bool _⟩

theorem equal_unf (xt : TypeId) (x y : Value) : Op.equal xt x y = Op.equalIn (9999 + 1) xt x y := rfl

theorem td_bool {d : TypeDesc} (h : tdOf d = .bool) : d = .bool := by cases d <;> simp [tdOf] at h ⊢
theorem td_int {d : TypeDesc} {k : IntKind} (h : tdOf d = .int k) : d = .int k := by cases d <;> simp [tdOf] at h ⊢; exact h
theorem td_str {d : TypeDesc} (h : tdOf d = .str) : d = .string := by cases d <;> simp [tdOf] at h ⊢
theorem td_slice {d : TypeDesc} {e : Nat} (h : tdOf d = .slice e) : d = .slice e := by cases d <;> simp [tdOf] at h ⊢; exact h
theorem td_ptr {d : TypeDesc} {e : Nat} (h : tdOf d = .ptr e) : d = .pointer e := by cases d <;> simp [tdOf] at h ⊢; exact h
theorem td_map {d : TypeDesc} {k e : Nat} (h : tdOf d = .map k e) : d = .map k e := by cases d <;> simp [tdOf] at h ⊢; exact h
theorem td_arr {d : TypeDesc} {k e : Nat} (h : tdOf d = .arr k e) : d = .array k e := by cases d <;> simp [tdOf] at h ⊢; exact h
theorem td_struct {d : TypeDesc} {fs : List (Nat × Nat)} (h : tdOf d = .struct fs) : ∃ f : Array Field, d = .struct f ∧ f.toList.map (fun f => (f.offset, f.type)) = fs := by
  cases d <;> simp [tdOf] at h ⊢; exact h

theorem evalBin_run (hG : Fits P G) {op : BinOp} {x y : Value} {a b t : T} (hx : Rel w μ σ x a) (hy : Rel w μ σ y b) {xt : TypeId} {i : TI} (hi : G xt = some i) (h : evalBin i.d op a b = some t) :
    ∃ v, (binOp op xt x y).run P w = .ok v w ∧ Rel w μ σ v t := by
  obtain ⟨d, hd, hd'⟩ := g_under (w := w) hG hi
  unfold evalBin at h
  split at h
  · cases hx; cases hy
    cases hs : isShift op with
    | true => simp only [hs, cond_true] at h; exact evalShift_run h xt
    | false =>
      simp only [hs, cond_false] at h
      rename_i k a k' b
      by_cases hk : k = k'
      · subst hk
        simp only [decide_true, cond_true] at h
        exact evalInt_run h hs xt
      · simp [hk] at h
  · cases hx; cases hy
    cases op <;> simp only [evalStr, reduceCtorEq] at h <;> injection h with h <;> subst h
    · exact ⟨_, by simp only [binOp, Op.stringOp, ByteArray.toList_eq]; rfl, .bool _⟩
    · exact ⟨_, by simp only [binOp, Op.stringOp, ByteArray.toList_eq]; rfl, .bool _⟩
  all_goals first
    | (split at h
       · rename_i hid
         rw [hid] at hd'
         first
         | obtain rfl := td_bool hd'
         | obtain rfl := td_slice hd'
         | obtain rfl := td_ptr hd'
         | obtain rfl := td_map hd'
         cases hx; cases hy
         refine eqn_run h (by rw [equal_unf]; generalize 9999 = n; simp [Op.equalIn, hd]) ?_
         rintro op (rfl | rfl) <;> simp [binOp]
       · cases h)
    | cases h
theorem bytesOf_get : ∀ {xs : List T} {s : List UInt8} {j : Nat} {c : T}, bytesOf xs = some s → xs[j]? = some c → ∃ n, c = .int .u8 n
  | [], s, j, c, h, hc => by simp at hc
  | x :: xs, s, j, c, h, hc => by
    simp only [bytesOf] at h
    split at h
    · rename_i b r hb hr
      cases j with
      | zero =>
        simp at hc; subst hc
        unfold byteOfT at hb
        split at hb
        · exact ⟨_, rfl⟩
        · cases hb
      | succ j => exact bytesOf_get hr (by simpa using hc)
    · cases h

theorem bytes_loop (b p : Nat) : ∀ (cs : Array Value) (l : List T) (s : List UInt8) (acc : ByteArray), bytesOf l = some s → cs.size = l.length →
    (∀ (j : Nat) (c : T) (v : Value), l[j]? = some c → cs[j]? = some v → Rel w μ σ v c) →
    ∃ r : ByteArray, (forIn (m := Sem) cs.toList acc fun c r => do
      let .int .u8 n := c | stuck "bytesToString: byte expected"
      let r := r.push (UInt8.ofNat n.toNat)
      pure (ForInStep.yield r)).run P w = .ok r w ∧ r.data.toList = acc.data.toList ++ s := by
  rintro ⟨cs⟩
  induction cs with
  | nil =>
    intro l s acc hb hn h
    have : l = [] := by simpa using hn.symm
    subst this
    simp [bytesOf] at hb; subst hb
    exact ⟨acc, rfl, by simp⟩
  | cons c cs ih =>
    intro l s acc hb hn h
    cases l with
    | nil => simp at hn
    | cons x l =>
      simp only [bytesOf] at hb
      split at hb
      · rename_i b0 s0 hb0 hs0
        injection hb with hb; subst hb
        have h0 := h 0 x c rfl rfl
        unfold byteOfT at hb0
        split at hb0
        · rename_i n
          cases h0
          obtain ⟨r, h1, h2⟩ := ih l s0 (acc.push (UInt8.ofNat n.toNat)) hs0 (by simpa using hn) (fun j c v h3 h4 => h (j + 1) c v (by simpa using h3) (by simpa using h4))
          refine ⟨r, by simpa using h1, ?_⟩
          rw [h2]
          have : b0 = UInt8.ofNat n.toNat := by
            cases hc : (decide (0 ≤ n) && decide (n < 256)) <;> simp [hc] at hb0
            exact hb0.symm
          subst this
          simp [ByteArray.push]
        · cases hb0
      · cases hb

theorem field_info (hG : Fits P G) {s f off ft : Nat} (h : fieldOf G s f = some (off, ft)) :
    ∃ fs : Array Field, ∃ g : Field, (underlying s).run P w = .ok (.struct fs) w ∧ fs[f]? = some g ∧ g.offset = off ∧ g.type = ft := by
  unfold fieldOf at h
  split at h
  · rename_i fl _ _ _ hs
    obtain ⟨d, h1, h2⟩ := g_under (w := w) hG hs
    obtain ⟨fs, rfl, hf⟩ := td_struct h2
    rw [← hf] at h
    rw [List.getElem?_map, Array.getElem?_toList] at h
    cases hg : fs[f]? with
    | none => simp [hg] at h
    | some g => simp [hg] at h; exact ⟨fs, g, h1, hg, h.1, h.2⟩
  · cases h

theorem sliceBounds_run {n cap : Nat} {lov hiv : Option Value} {l h : Int} (hl : (lov = none ∧ l = 0) ∨ ∃ k, lov = some (.int k l)) (hh : (hiv = none ∧ h = n) ∨ ∃ k, hiv = some (.int k h))
    (h0 : 0 ≤ l) (h1 : l ≤ h) (h2 : h ≤ (cap : Int)) (h3 : n ≤ cap) : (Instr.sliceBounds true n cap lov hiv none).run P w = .ok (l.toNat, h.toNat, cap) w := by
  have hc : 0 ≤ h ∧ h ≤ (cap : Int) := by omega
  have hk : 0 ≤ h := hc.1
  have hc2 : h ≤ (cap : Int) := hc.2
  have hhn : ((h.toNat : Nat) : Int) = h := Int.toNat_of_nonneg hk
  rcases hl with ⟨rfl, rfl⟩ | ⟨k1, rfl⟩ <;> rcases hh with ⟨rfl, rfl⟩ | ⟨k2, rfl⟩
  · simp [Instr.sliceBounds]
  · simp [Instr.sliceBounds, Instr.sliceBound, asIntOf, hk, hc2]
  · have hln : l ≤ (n : Int) := h1
    simp [Instr.sliceBounds, Instr.sliceBound, asIntOf, h0, hln]
  · have hln : l ≤ ((h.toNat : Nat) : Int) := by omega
    simp [Instr.sliceBounds, Instr.sliceBound, asIntOf, h0, hk, hc2, hhn, h1]

theorem mapM_rel (ρ : Operand → Option T) (ρv : Operand → Value) (hr : ∀ x t, ρ x = some t → Rel w μ σ (ρv x) t) :
    ∀ (l : List Operand) (ts : List T), l.mapM ρ = some ts → ts.length = l.length ∧ ∀ (j : Nat) (c : T) (v : Value), ts[j]? = some c → (l.map ρv)[j]? = some v → Rel w μ σ v c
  | [], ts, h => by simp at h; subst h; simp
  | x :: l, ts, h => by
    simp only [List.mapM_cons, Option.pure_def, Option.bind_eq_bind, Option.bind_eq_some_iff] at h
    obtain ⟨t, ht, us, hu, h⟩ := h
    injection h with h; subst h
    obtain ⟨h1, h2⟩ := mapM_rel ρ ρv hr l us hu
    refine ⟨by simp [h1], fun j c v hc hv => ?_⟩
    cases j with
    | zero => simp at hc hv; subst hc; subst hv; exact hr x _ ht
    | succ j => exact h2 j c v (by simpa using hc) (by simpa using hv)

theorem evalOp_run (hG : Fits P G) (hi : Inv w μ σ) {ρ : Operand → Option T} {ρv : Operand → Value} (hr : ∀ x t, ρ x = some t → Rel w μ σ (ρv x) t) {o : Oper} {t : T}
    {objs : Nat → Option Ob} (hob : ∀ i o, objs i = some o → (i, o) ∈ σ.L)
    (h : evalOp G objs ρ o.op = some t) : ∃ v, (execOp ρv o).run P w = .ok (.value v) w ∧ Rel w μ σ v t := by
  obtain ⟨dst, op, ty, pos, after, guard⟩ := o
  dsimp only at h
  have hbe : ∀ {s : Sem Value}, (∃ v, s.run P w = .ok v w ∧ Rel w μ σ v t) → ∃ v, (do pure (Next.value (← s)) : Sem Next).run P w = .ok (.value v) w ∧ Rel w μ σ v t := by
    rintro s ⟨v, h1, h2⟩; exact ⟨v, by simp [h1], h2⟩
  cases op with
  | move x => exact ⟨ρv x, rfl, hr x t h⟩
  | assign x => exact ⟨ρv x, rfl, hr x t h⟩
  | pick c a b =>
    simp only [evalOp] at h
    split at h
    · rename_i hc; have := hr c _ hc; generalize hv : ρv c = v at this; cases this
      exact ⟨ρv a, by simp [execOp, hv, asBool], hr a t h⟩
    · rename_i hc; have := hr c _ hc; generalize hv : ρv c = v at this; cases this
      exact ⟨ρv b, by simp [execOp, hv, asBool], hr b t h⟩
    · cases h
  | binOp op xt x y yt =>
    simp only [evalOp] at h
    split at h
    · rename_i a b ha hb
      split at h
      · rename_i i hi'
        obtain ⟨v, h1, h2⟩ := evalBin_run hG (hr x _ ha) (hr y _ hb) hi' h
        refine ⟨v, ?_, h2⟩
        have hg : (eqGuard op xt x y (ρv x) (ρv y)).run P w = .ok () w := by
          have r1 := hr x _ ha; have r2 := hr y _ hb
          generalize ρv x = vx at *; generalize ρv y = vy at *
          unfold eqGuard
          cases op <;> simp only [Bool.not_true, Bool.not_false, Bool.false_eq_true, if_false, if_true, Sem.run_pure] <;>
            (cases r1 <;> cases r2 <;> first | rfl | (simp [evalBin] at h))
        simp [execOp, hg, h1]
      · cases h
    · cases h
  | unOp op xt x =>
    simp only [evalOp] at h
    split at h
    · rename_i a ha
      have := hr x _ ha
      refine hbe ?_
      generalize ρv x = vx at *
      unfold evalUn at h
      split at h
      · cases this; injection h with h; subst h
        exact ⟨_, by simp [Op.unary, Op.intArith], .int _ _⟩
      · cases this; injection h with h; subst h
        exact ⟨_, by simp [Op.unary], .bool _⟩
      · cases h
    · cases h
  | convert src dst x =>
    simp only [evalOp] at h
    split at h
    · rename_i k0 n si k2 z2 z3 z4 hx hs hd
      have := hr x _ hx; refine hbe ?_
      generalize ρv x = vx at *
      cases this
      injection h with h; subst h
      obtain ⟨d1, e1, f1⟩ := g_under (w := w) hG hs
      obtain ⟨d2, e2, f2⟩ := g_under (w := w) hG hd
      obtain rfl := td_int f2
      exact ⟨_, by simp [convert, e1, e2, Conv.intToInt], .int _ _⟩
    · rename_i s0 si z2 z3 z4 hx hs hd
      have := hr x _ hx; refine hbe ?_
      generalize ρv x = vx at *
      cases this
      injection h with h; subst h
      obtain ⟨d1, e1, f1⟩ := g_under (w := w) hG hs
      obtain ⟨d2, e2, f2⟩ := g_under (w := w) hG hd
      obtain rfl := td_str f2
      exact ⟨_, by simp [convert, e1, e2], .str _⟩
    · rename_i own xs e z1 z2 z3 z4 z5 z6 hx hs hd
      split at h
      · rename_i z7 z8 z9 he
        obtain ⟨d1, e1, f1⟩ := g_under (w := w) hG hs
        obtain ⟨d2, e2, f2⟩ := g_under (w := w) hG hd
        obtain ⟨d3, e3, f3⟩ := g_under (w := w) hG he
        obtain rfl := td_slice f1
        obtain rfl := td_str f2
        obtain rfl := td_int f3
        have := hr x _ hx; refine hbe ?_
        generalize ρv x = vx at *
        cases hb : bytesOf xs with
        | none => simp [hb] at h
        | some s0 =>
          simp [hb] at h; subst h
          cases this with
          | slnil sz own h0 =>
            simp [bytesOf] at hb; subst hb
            exact ⟨.string .empty, by simp [convert, e1, e2, e3, Conv.bytesToString], .str .empty⟩
          | slz ad sz own h0 =>
            simp [bytesOf] at hb; subst hb
            exact ⟨.string .empty, by simp [convert, e1, e2, e3, Conv.bytesToString, loadCells, loadCellsFrom], .str .empty⟩
          | sl b p cap sz own xs n hn hc ho hsz h0 r0 =>
            have hcells : CellsAt w μ σ b p xs := by
              intro j c hj
              have hc1 : c.cells = [c] := by
                obtain ⟨n, rfl⟩ := bytesOf_get hb hj
                rfl
              obtain ⟨_, v, hv⟩ := h0 j c 0 c hj (by rw [hc1]; rfl)
              simp only [Nat.mul_one, Nat.add_zero] at hv
              exact ⟨v, hv, r0 j c 0 c v hj (by rw [hc1]; rfl) (by simpa using hv)⟩
            obtain ⟨vs, h1, h2, h3⟩ := loadCells_rel (P := P) hcells (o := 0) (n := n) (by omega)
            simp only [List.drop_zero, Nat.add_zero] at h1 h3
            obtain ⟨r, h4, h5⟩ := bytes_loop (P := P) b p vs xs s0 ByteArray.empty hb (by omega) (by
              intro j c v hc hv; exact h3 j c v (by rw [List.getElem?_take]; split; exact hc; rename_i hh; rw [List.getElem?_eq_none (by omega)] at hc; cases hc) hv)
            have h6 : r.data.toList = s0 := by simpa using h5
            subst h6
            refine ⟨.string r, ?_, .str r⟩
            simp [convert, e1, e2, e3, Conv.bytesToString, h1]
            rw [← Array.forIn_toList]
            have hf : ∀ (f g : Value → ByteArray → Sem (ForInStep ByteArray)), f = g → (forIn (m := Sem) vs.toList ByteArray.empty f).run P w = .ok r w → (forIn (m := Sem) vs.toList ByteArray.empty g).run P w = .ok r w := by
              rintro f _ rfl h; exact h
            rw [hf _ _ ?_ h4]
            · rfl
            · funext c s
              cases c with
              | int k n => cases k <;> rfl
              | _ => rfl
      · cases h
    · rename_i e z1 z2 z3 z4 z5 z6 hx hs hd
      split at h
      · rename_i z7 z8 z9 he
        obtain ⟨d1, e1, f1⟩ := g_under (w := w) hG hs
        obtain ⟨d2, e2, f2⟩ := g_under (w := w) hG hd
        obtain ⟨d3, e3, f3⟩ := g_under (w := w) hG he
        obtain rfl := td_slice f1
        obtain rfl := td_str f2
        obtain rfl := td_int f3
        have := hr x _ hx; refine hbe ?_
        generalize ρv x = vx at *
        injection h with h; subst h
        cases this
        exact ⟨.string .empty, by simp [convert, e1, e2, e3, Conv.bytesToString], .str .empty⟩
      · cases h
    · rename_i i0 o0 n0 cap0 e z1 z2 z3 z4 z5 z6 hx hs hd
      split at h
      · rename_i z7 z8 z9 ts he hts
        obtain ⟨d1, e1, f1⟩ := g_under (w := w) hG hs
        obtain ⟨d2, e2, f2⟩ := g_under (w := w) hG hd
        obtain ⟨d3, e3, f3⟩ := g_under (w := w) hG he
        obtain rfl := td_slice f1
        obtain rfl := td_str f2
        obtain rfl := td_int f3
        obtain ⟨bb, pp, hloc, hcells0⟩ := hi.cells (hob _ _ hts)
        have := hr x _ hx; refine hbe ?_
        generalize ρv x = vx at *
        cases hle : Nat.ble (o0 + n0) ts.length with
        | false => simp [hle] at h
        | true =>
          have hle' := Nat.le_of_ble_eq_true hle
          simp only [hle, cond_true] at h
          cases hb : bytesOf ((ts.drop o0).take n0) with
          | none => simp [hb] at h
          | some s0 =>
            simp [hb] at h; subst h
            cases this with
            | aref i b p o n c sz cap hl hc hcap hbd =>
              rw [hloc] at hl; injection hl with hl; injection hl with hl1 hl2; subst hl1; subst hl2
              obtain ⟨vs, h1, h2, h3⟩ := loadCells_rel (P := P) hcells0 (o := o0) (n := n0) (by omega)
              obtain ⟨r, h4, h5⟩ := bytes_loop (P := P) bb pp vs _ s0 ByteArray.empty hb (by rw [h2]; simp; omega) h3
              have h6 : r.data.toList = s0 := by simpa using h5
              subst h6
              refine ⟨.string r, ?_, .str r⟩
              simp [convert, e1, e2, e3, Conv.bytesToString, h1]
              rw [← Array.forIn_toList]
              have hf : ∀ (f g : Value → ByteArray → Sem (ForInStep ByteArray)), f = g → (forIn (m := Sem) vs.toList ByteArray.empty f).run P w = .ok r w → (forIn (m := Sem) vs.toList ByteArray.empty g).run P w = .ok r w := by
                rintro f _ rfl h; exact h
              rw [hf _ _ ?_ h4]
              · rfl
              · funext c s
                cases c with
                | int k n => cases k <;> rfl
                | _ => rfl
      · cases h
    · cases h
  | fieldAddr s x f =>
    simp only [evalOp] at h
    split at h
    · rename_i off ft hf
      obtain ⟨fs, g, h1, h2, h3, h4⟩ := field_info (w := w) hG hf
      split at h
      · rename_i n hn
        obtain ⟨i, hi', hi''⟩ : ∃ i, G ft = some i ∧ i.size = n + 1 := by
          unfold sizeT at hn
          cases hg : G ft with
          | none => simp [hg] at hn
          | some i => simp [hg] at hn; exact ⟨i, rfl, hn⟩
        have hsz := g_size (w := w) (P := P) hG hi'
        refine hbe ?_
        split at h
        · rename_i b o hx
          injection h with h; subst h
          have := hr x _ hx; generalize ρv x = vx at *
          cases this with
          | ptr i b p o hl =>
            refine ⟨.pointer (some ⟨b, p + (o + off), none⟩), ?_, .ptr _ _ _ _ hl⟩
            simp [Instr.fieldAt, h1, h2, Instr.sureAddr, fieldPlace, h4, hsz, hi'', h3, add_at, Nat.add_assoc]
        · rename_i y o hx
          injection h with h; subst h
          have := hr x _ hx; generalize ρv x = vx at *
          cases this with
          | ro b p o y h0 r0 =>
            refine ⟨_, ?_, .ro b p (o + off) y h0 r0⟩
            simp [Instr.fieldAt, h1, h2, Instr.sureAddr, fieldPlace, h4, hsz, hi'', h3, add_at, Nat.add_assoc]
        · cases h
      · cases h
    · cases h
  | field s x f =>
    simp only [evalOp] at h
    split at h
    · rename_i off ft hf
      obtain ⟨fs, g, h1, h2, h3, h4⟩ := field_info (w := w) hG hf
      split at h
      · rename_i cs hx
        have := hr x _ hx; refine hbe ?_
        generalize ρv x = vx at *
        cases this with
        | agg cs vs hn r =>
          unfold readT at h
          cases hg : G ft with
          | none => simp [hg] at h
          | some i =>
            simp only [hg] at h
            have ha := g_agg (w := w) hG hg
            have hsz := g_size (w := w) (P := P) hG hg
            cases hb : i.d.agg with
            | true =>
              simp only [hb, cond_true] at h
              by_cases hle : Nat.ble (off + i.size) cs.length = true
              · simp only [hle, cond_true] at h
                injection h with h; subst h
                have hle' := Nat.le_of_ble_eq_true hle
                refine ⟨.agg (vs.extract off (off + i.size)), by simp [Instr.field, h1, h2, asAgg, part, h4, h3, ha, hb, hsz], .agg _ _ ?_ ?_⟩
                · simp [Array.size_extract, List.length_take, List.length_drop, hn]; omega
                · intro j c v hc hv
                  rw [List.getElem?_take] at hc
                  split at hc
                  · rw [List.getElem?_drop] at hc
                    rw [Array.getElem?_extract] at hv
                    split at hv
                    · exact r _ _ _ hc hv
                    · cases hv
                  · cases hc
              · rw [Bool.not_eq_true] at hle; simp [hle] at h
            | false =>
              simp only [hb, cond_false] at h
              have hlt : off < cs.length := by
                rcases Nat.lt_or_ge off cs.length with h' | h'
                · exact h'
                · rw [List.getElem?_eq_none h'] at h; cases h
              have hv : vs[off]? = some vs[off] := Array.getElem?_eq_getElem (by omega)
              exact ⟨vs[off], by simp [Instr.field, h1, h2, asAgg, part, h4, h3, ha, hb, hv], r _ _ _ h hv⟩
      · cases h
    · cases h
  | load lt x =>
    simp only [evalOp] at h
    split at h
    · rename_i y o hx
      have := hr x _ hx; refine hbe ?_
      generalize ρv x = vx at *
      cases this with
      | ro b p o y h0 r0 =>
        obtain ⟨v, h1, h2⟩ := readT_run (P := P) hG (b := b) (p := p) (fun j c hj => let ⟨_, v, hv⟩ := h0 j c hj; ⟨v, hv, r0 j c v hj hv⟩) h
        exact ⟨v, by simpa [Instr.loadAt, Instr.sureAddr] using h1, h2⟩
    · rename_i b o hx
      split at h
      · rename_i ts hts
        have := hr x _ hx; refine hbe ?_
        generalize ρv x = vx at *
        cases this with
        | ptr i b p o hl =>
          obtain ⟨bb, pp, hloc, hcells0⟩ := hi.cells (hob _ _ hts)
          rw [hloc] at hl; injection hl with hl; injection hl with hl1 hl2; subst hl1; subst hl2
          obtain ⟨v, h1, h2⟩ := readT_run (P := P) hG hcells0 h
          exact ⟨v, by simpa [Instr.loadAt, Instr.sureAddr] using h1, h2⟩
      · cases h
    · cases h
  | extract x i =>
    simp only [evalOp] at h
    split at h
    · rename_i cs hx
      have := hr x _ hx; refine hbe ?_
      generalize ρv x = vx at *
      cases this with
      | tup cs vs hn r =>
        have hlt : i < cs.length := by
          rcases Nat.lt_or_ge i cs.length with h' | h'
          · exact h'
          · rw [List.getElem?_eq_none h'] at h; cases h
        have hv : vs[i]? = some vs[i] := Array.getElem?_eq_getElem (by omega)
        exact ⟨vs[i], by simp [Instr.extract, hv], r _ _ _ h hv⟩
    · cases h
  | nilCheck x =>
    simp only [evalOp] at h
    split at h
    · rename_i b o hx
      injection h with h; subst h
      have := hr x _ hx
      generalize hv : ρv x = vx at this
      have h3 := this
      cases this
      exact ⟨_, by simp [execOp, hv], h3⟩
    · rename_i y o hx
      injection h with h; subst h
      have := hr x _ hx
      generalize hv : ρv x = vx at this
      have h3 := this
      cases this
      exact ⟨_, by simp [execOp, hv], h3⟩
    · cases h
  | indexAddr it x i =>
    simp only [evalOp] at h
    split at h
    · rename_i ki n hn
      have rn := hr i _ hn
      generalize hvi : ρv i = vi at rn
      cases rn
      by_cases h0 : 0 ≤ n
      · simp only [h0, decide_true, cond_true] at h
        obtain ⟨m, rfl⟩ := Int.eq_ofNat_of_zero_le h0
        simp only [Int.toNat_natCast] at h
        split at h
        · rename_i e z1 z2 z3 ht
          obtain ⟨d1, e1, f1⟩ := g_under (w := w) hG ht
          obtain rfl := td_slice f1
          split at h
          · rename_i sz own xs se hx hse
            obtain ⟨ie, he, he'⟩ : ∃ ie, G e = some ie ∧ ie.size = se := by
              unfold sizeT at hse; cases hg : G e with
              | none => simp [hg] at hse
              | some ie => simp [hg] at hse; exact ⟨ie, rfl, hse⟩
            have hsz := g_size (w := w) (P := P) hG he
            cases hb : Nat.beq sz se with
            | false => simp [hb] at h
            | true =>
              have hb' := Nat.eq_of_beq_eq_true hb
              simp only [hb, cond_true] at h
              cases hxm : xs[m]? with
              | none => simp [hxm] at h
              | some y =>
                simp [hxm] at h; subst h
                have rx := hr x _ hx; refine hbe ?_
                generalize ρv x = vx at *
                cases rx with
                | slnil => simp at hxm
                | slz => simp at hxm
                | sl b p cap sz own xs n hn' hc ho hs h1 r1 =>
                  have hlt : m < n := by
                    rcases Nat.lt_or_ge m n with h' | h'
                    · exact h'
                    · rw [List.getElem?_eq_none (by omega)] at hxm; cases hxm
                  refine ⟨.pointer (some ⟨b, p + m * sz, none⟩), ?_, .ro b (p + m * sz) 0 y (fun j c hj => h1 m y j c hxm hj) (fun j c v hj hv => r1 m y j c v hxm hj hv)⟩
                  simp only [Instr.indexAt, hvi, asIntOf, e1, Sem.run_bind, Sem.run_pure, Result.andThen_ok]
                  have hq : (0 : Int) ≤ (m : Int) ∧ (m : Int) < (n : Int) := by omega
                  simp [hq, hlt, hsz, he', hb', add_at]
          · rename_i sz b o len cap0 se hx hse
            obtain ⟨ie, he, he'⟩ : ∃ ie, G e = some ie ∧ ie.size = se := by
              unfold sizeT at hse; cases hg : G e with
              | none => simp [hg] at hse
              | some ie => simp [hg] at hse; exact ⟨ie, rfl, hse⟩
            have hsz := g_size (w := w) (P := P) hG he
            cases hb : (Nat.beq sz se && decide ((m : Int) < (len : Int))) with
            | false => rw [hb] at h; cases h
            | true =>
              simp only [hb, cond_true] at h
              injection h with h; subst h
              simp only [Bool.and_eq_true, decide_eq_true_eq] at hb
              have hb' := Nat.eq_of_beq_eq_true hb.1
              have hlt : m < len := by omega
              have rx := hr x _ hx; refine hbe ?_
              generalize ρv x = vx at *
              cases rx with
              | aref i b p o n c sz cap hl hc hcap hbd =>
                refine ⟨.pointer (some ⟨b, p + (o + m * sz), none⟩), ?_, .ptr _ _ _ _ hl⟩
                simp only [Instr.indexAt, hvi, asIntOf, e1, Sem.run_bind, Sem.run_pure, Result.andThen_ok]
                have hq : (0 : Int) ≤ (m : Int) ∧ (m : Int) < (len : Int) := by omega
                simp [hq, hlt, hsz, he', hb', add_at, Nat.add_assoc]
          · cases h
        · rename_i len e z1 z2 z3 ht
          obtain ⟨d1, e1, f1⟩ := g_under (w := w) hG ht
          obtain rfl := td_arr f1
          split at h
          · rename_i b o se hx hse
            obtain ⟨ie, he, he'⟩ : ∃ ie, G e = some ie ∧ ie.size = se := by
              unfold sizeT at hse; cases hg : G e with
              | none => simp [hg] at hse
              | some ie => simp [hg] at hse; exact ⟨ie, rfl, hse⟩
            have hsz := g_size (w := w) (P := P) hG he
            cases hb : decide ((m : Int) < (len : Int)) with
            | false => rw [hb] at h; cases h
            | true =>
              simp only [hb, cond_true] at h
              injection h with h; subst h
              simp only [decide_eq_true_eq] at hb
              have hlt : m < len := by omega
              have rx := hr x _ hx; refine hbe ?_
              generalize ρv x = vx at *
              cases rx with
              | ptr i b p o hl =>
                refine ⟨.pointer (some ⟨b, p + (o + m * se), none⟩), ?_, .ptr _ _ _ _ hl⟩
                simp only [Instr.indexAt, hvi, asIntOf, e1, Sem.run_bind, Sem.run_pure, Result.andThen_ok]
                simp [hlt, hsz, he', add_at, Instr.sureAddr, e1, Nat.add_assoc]
          · rename_i y o se hx hse
            obtain ⟨ie, he, he'⟩ : ∃ ie, G e = some ie ∧ ie.size = se := by
              unfold sizeT at hse; cases hg : G e with
              | none => simp [hg] at hse
              | some ie => simp [hg] at hse; exact ⟨ie, rfl, hse⟩
            have hsz := g_size (w := w) (P := P) hG he
            cases hb : decide ((m : Int) < (len : Int)) with
            | false => rw [hb] at h; cases h
            | true =>
              simp only [hb, cond_true] at h
              injection h with h; subst h
              simp only [decide_eq_true_eq] at hb
              have hlt : m < len := by omega
              have rx := hr x _ hx; refine hbe ?_
              generalize ρv x = vx at *
              cases rx with
              | ro b p o y h0 r0 =>
                refine ⟨.pointer (some ⟨b, p + (o + m * se), none⟩), ?_, .ro b p (o + m * se) y h0 r0⟩
                simp only [Instr.indexAt, hvi, asIntOf, e1, Sem.run_bind, Sem.run_pure, Result.andThen_ok]
                simp [hlt, hsz, he', add_at, Instr.sureAddr, e1, Nat.add_assoc]
          · cases h
        · cases h
      · simp [h0] at h
    · cases h
  | slice st x lo hi mx =>
    cases mx with
    | some m => simp [evalOp] at h
    | none =>
      simp only [evalOp] at h
      split at h
      · rename_i e z1 z2 z3 ht
        obtain ⟨d1, e1, f1⟩ := g_under (w := w) hG ht
        obtain rfl := td_slice f1
        have opt : ∀ (x : Option Operand) (d k : IntKind) (m l : Int), (x.map ρ).getD (some (.int d m)) = some (.int k l) → (x.map ρv = none ∧ l = m) ∨ ∃ k', x.map ρv = some (.int k' l) := by
          intro x d k m l hl
          cases x with
          | none => simp at hl; exact .inl ⟨rfl, hl.2.symm⟩
          | some x =>
            simp at hl
            have := hr x _ hl
            generalize hv : ρv x = v at this
            cases this
            exact .inr ⟨k, by simp [hv]⟩
        split at h
        · rename_i se sz own xs k1 l hse hx hl
          obtain ⟨ie, he, he'⟩ : ∃ ie, G e = some ie ∧ ie.size = se := by
            unfold sizeT at hse; cases hg : G e with
            | none => simp [hg] at hse
            | some ie => simp [hg] at hse; exact ⟨ie, rfl, hse⟩
          have hsz := g_size (w := w) (P := P) hG he
          split at h
          · rename_i k2 hh hhv
            cases hb : (Nat.beq sz se && decide (0 ≤ l) && decide (l ≤ hh) && decide (hh ≤ (xs.length : Int))) with
            | false => rw [hb] at h; cases h
            | true =>
              rw [hb] at h
              simp only [cond_true] at h
              injection h with h; subst h
              simp only [Bool.and_eq_true, decide_eq_true_eq] at hb
              obtain ⟨⟨⟨hb1, hb2⟩, hb3⟩, hb4⟩ := hb
              obtain rfl : sz = se := Nat.eq_of_beq_eq_true hb1
              obtain ⟨l, rfl⟩ := Int.eq_ofNat_of_zero_le hb2
              obtain ⟨hh, rfl⟩ := Int.eq_ofNat_of_zero_le (Int.le_trans hb2 hb3)
              have rx := hr x _ hx; refine hbe ?_
              generalize ρv x = vx at *
              simp only [Int.toNat_natCast]
              have hl' := opt lo _ _ _ _ hl
              have hh' := opt hi _ _ _ _ hhv
              cases rx with
              | slnil sz own h0 =>
                have hsb := sliceBounds_run (P := P) (w := w) (n := 0) (cap := 0) hl' hh' (by omega) (by omega) (by simpa using hb4) (by omega)
                simp at hb4
                obtain rfl : hh = 0 := by omega
                obtain rfl : l = 0 := by omega
                refine ⟨.slice none 0 0, ?_, ?_⟩
                · simp [Instr.sliceAt, Instr.slice, e1, hsb, hsz]
                · simp only [List.take_nil, List.drop_nil]
                  refine .slnil _ _ ?_
                  cases (((0 : Nat) : Int) == (([] : List T).length : Int)) with
                  | true => exact h0
                  | false => trivial
              | slz ad sz own h0 =>
                have hsb := sliceBounds_run (P := P) (w := w) (n := 0) (cap := 0) hl' hh' (by omega) (by omega) (by simpa using hb4) (by omega)
                simp at hb4
                obtain rfl : hh = 0 := by omega
                obtain rfl : l = 0 := by omega
                refine ⟨.slice (some ad) 0 0, ?_, ?_⟩
                · simp [Instr.sliceAt, Instr.slice, e1, hsb, hsz]
                · simp only [List.take_nil, List.drop_nil]
                  refine .slz ad _ _ ?_
                  cases (((0 : Nat) : Int) == (([] : List T).length : Int)) with
                  | true => exact h0
                  | false => trivial
              | sl b p cap sz own xs n hn hc ho hs h0 r0 =>
                have hsb := sliceBounds_run (P := P) (w := w) (n := n) (cap := cap) hl' (by rw [hn] at hh'; exact hh') (by omega) (by omega) (by omega) hc
                simp only [Int.toNat_natCast] at hsb
                refine ⟨.slice (some ⟨b, if cap = l then p else p + l * sz, none⟩) (hh - l) (cap - l), ?_, ?_⟩
                · have h9 : (Instr.sliceAt st (.slice (some ⟨b, p, none⟩) n cap) (lo.map ρv) (hi.map ρv) none).run P w = .ok (.slice (if cap = l then some ⟨b, p, none⟩ else some ((⟨b, p, none⟩ : Addr).add (l * sz))) (hh - l) (cap - l)) w := by
                    simp [Instr.sliceAt, Instr.slice, e1, hsb, hsz, he']
                  simp only [Option.map_none]
                  rw [h9]
                  by_cases hcl : cap = l
                  · rw [if_pos hcl, if_pos hcl]
                  · rw [if_neg hcl, if_neg hcl, add_at]
                · have hdrop : ∀ i y, ((xs.take hh).drop l)[i]? = some y → xs[l + i]? = some y ∧ l + i < hh := by
                    intro i y hy
                    rw [List.getElem?_drop, List.getElem?_take] at hy
                    split at hy
                    · exact ⟨hy, by assumption⟩
                    · cases hy
                  have hlen : ((xs.take hh).drop l).length = hh - l := by simp; omega
                  by_cases hcl : cap = l
                  · have h1 : hh = l := by omega
                    have hnil : (xs.take hh).drop l = [] := List.eq_nil_of_length_eq_zero (by omega)
                    simp only [if_pos hcl]
                    refine .sl b p (cap - l) sz _ _ (hh - l) hlen (by omega) ?_ ?_ ?_ ?_
                    · cases hcond : ((hh : Int) == (xs.length : Int)) with
                      | false => trivial
                      | true =>
                        have hn2 : n = cap := by have : (hh : Int) = xs.length := by simpa using hcond
                                                 omega
                        have h9 : p + (hh - l) * sz = p + (cap - l) * sz := by rw [show hh - l = 0 by omega, show cap - l = 0 by omega]
                        cases own with
                        | no => trivial
                        | full => exact h9
                        | tok k =>
                          obtain ⟨x, hx1, hx2⟩ := ho
                          refine ⟨x, hx1, .inr ⟨h9, ?_⟩⟩
                          rcases hx2 with h3 | h3
                          · subst h3; simp [hn2]
                          · exact h3.2
                    · rw [hnil]; intro i y hy; simp at hy
                    · rw [hnil]; intro i y j c hy; simp at hy
                    · rw [hnil]; intro i y j c v hy; simp at hy
                  · simp only [if_neg hcl]
                    have harith : ∀ i, p + l * sz + i * sz = p + (l + i) * sz := by intro i; rw [Nat.add_mul]; omega
                    refine .sl b (p + l * sz) (cap - l) sz _ _ (hh - l) hlen (by omega) ?_ ?_ ?_ ?_
                    · cases hcond : ((hh : Int) == (xs.length : Int)) with
                      | false => trivial
                      | true =>
                        have hn2 : hh = n := by have : (hh : Int) = xs.length := by simpa using hcond
                                                omega
                        have e3 : p + l * sz + (hh - l) * sz = p + n * sz := by rw [harith]; congr 2; omega
                        have e4 : p + l * sz + (cap - l) * sz = p + cap * sz := by rw [harith]; congr 2; omega
                        rw [e3, e4]
                        exact ho
                    · intro i y hy; exact hs _ y (hdrop i y hy).1
                    · intro i y j c hy hj; rw [harith]; exact h0 _ y j c (hdrop i y hy).1 hj
                    · intro i y j c v hy hj hv; rw [harith] at hv; exact r0 _ y j c v (hdrop i y hy).1 hj hv
          · cases h
        · rename_i se sz i0 o n cap0 k1 l hse hx hl
          obtain ⟨ie, he, he'⟩ : ∃ ie, G e = some ie ∧ ie.size = se := by
            unfold sizeT at hse; cases hg : G e with
            | none => simp [hg] at hse
            | some ie => simp [hg] at hse; exact ⟨ie, rfl, hse⟩
          have hsz := g_size (w := w) (P := P) hG he
          split at h
          · rename_i k2 hh hhv
            cases hb : (Nat.beq sz se && decide (0 ≤ l) && decide (l ≤ hh) && decide (hh ≤ ((cap0.getD n : Nat) : Int))) with
            | false => rw [hb] at h; cases h
            | true =>
              rw [hb] at h
              simp only [cond_true] at h
              simp only [Bool.and_eq_true, decide_eq_true_eq] at hb
              obtain ⟨⟨⟨hb1, hb2⟩, hb3⟩, hb4⟩ := hb
              obtain rfl : sz = se := Nat.eq_of_beq_eq_true hb1
              obtain ⟨l, rfl⟩ := Int.eq_ofNat_of_zero_le hb2
              obtain ⟨hh, rfl⟩ := Int.eq_ofNat_of_zero_le (Int.le_trans hb2 hb3)
              have rx := hr x _ hx; refine hbe ?_
              generalize ρv x = vx at *
              simp only [Int.toNat_natCast] at h
              have hl' := opt lo _ _ _ _ hl
              have hh' := opt hi _ _ _ _ hhv
              cases rx with
              | aref i b p o n c sz cap hloc hc hcap hbd =>
                have hhc : hh ≤ c := by
                  cases cap0 with
                  | none => simp at hb4; omega
                  | some x => have := hcap x rfl; simp at hb4; omega
                have hsb := sliceBounds_run (P := P) (w := w) (n := n) (cap := c) hl' hh' (by omega) (by omega) (by omega) hc
                simp only [Int.toNat_natCast] at hsb
                have harith : ∀ i, p + (o + l * sz) + i * sz = p + o + (l + i) * sz := by intro i; rw [Nat.add_mul]; omega
                have h9 : (Instr.sliceAt st (.slice (some ⟨b, p + o, none⟩) n c) (lo.map ρv) (hi.map ρv) none).run P w = .ok (.slice (if c = l then some ⟨b, p + o, none⟩ else some ((⟨b, p + o, none⟩ : Addr).add (l * sz))) (hh - l) (c - l)) w := by
                  simp [Instr.sliceAt, Instr.slice, e1, hsb, hsz, he']
                simp only [Option.map_none]
                by_cases hlt : (l : Int) < (hh : Int)
                · rw [decide_eq_true hlt] at h
                  simp only [cond_true] at h
                  injection h with h; subst h
                  have hcl : ¬ c = l := by omega
                  refine ⟨_, h9, ?_⟩
                  rw [if_neg hcl, add_at, Nat.add_assoc]
                  refine .aref i0 b p (o + l * sz) (hh - l) (c - l) sz _ hloc (by omega) ?_ ?_
                  · intro x hx2
                    cases cap0 with
                    | none => cases hx2
                    | some y => have := hcap y rfl; simp at hx2; omega
                  · rw [harith, show l + (c - l) = c by omega]; exact hbd
                · rw [decide_eq_false hlt] at h
                  simp only [cond_false] at h
                  injection h with h; subst h
                  refine ⟨_, h9, ?_⟩
                  have h0 : hh - l = 0 := by omega
                  rw [h0]
                  have hsl : ∀ b' p', Rel w μ σ (.slice (some ⟨b', p', none⟩) 0 (c - l)) (.sl sz .no []) := fun b' p' =>
                    .sl b' p' (c - l) sz .no [] 0 rfl (by omega) trivial (by intro i y hy; simp at hy) (by intro i y j c hy; simp at hy) (by intro i y j c v hy; simp at hy)
                  by_cases hcl : c = l
                  · rw [if_pos hcl]; exact hsl _ _
                  · rw [if_neg hcl, add_at]; exact hsl _ _
          · cases h
        · rename_i se k1 l hse hx hl
          obtain ⟨ie, he, he'⟩ : ∃ ie, G e = some ie ∧ ie.size = se := by
            unfold sizeT at hse; cases hg : G e with
            | none => simp [hg] at hse
            | some ie => simp [hg] at hse; exact ⟨ie, rfl, hse⟩
          have hsz := g_size (w := w) (P := P) hG he
          split at h
          · rename_i k2 hh hhv
            cases hb : (decide (l = 0) && decide (hh = 0)) with
            | false => rw [hb] at h; cases h
            | true =>
              rw [hb] at h
              simp only [cond_true] at h
              injection h with h; subst h
              simp only [Bool.and_eq_true, decide_eq_true_eq] at hb
              obtain ⟨rfl, rfl⟩ := hb
              have rx := hr x _ hx; refine hbe ?_
              generalize ρv x = vx at *
              have hl' := opt lo _ _ _ _ hl
              have hh' := opt hi _ _ _ _ hhv
              cases rx
              have hsb := sliceBounds_run (P := P) (w := w) (n := 0) (cap := 0) hl' hh' (by omega) (by omega) (by omega) (by omega)
              refine ⟨.slice none 0 0, ?_, .nilsl⟩
              simp [Instr.sliceAt, Instr.slice, e1, hsb, hsz]
          · cases h
        · cases h
      · cases h
  | call c =>
    obtain ⟨callee, args, argTypes⟩ := c
    cases callee with
    | value f => simp [evalOp] at h
    | invoke r m => simp [evalOp] at h
    | builtin b =>
      cases b <;> simp only [evalOp, reduceCtorEq] at h
      case cap =>
        split at h
        · rename_i x t0 ha ht
          have ha' : args = #[x] := by cases args; simp_all
          have ht' : argTypes = #[t0] := by cases argTypes; simp_all
          subst ha'; subst ht'
          split at h
          · rename_i e hx hd
            obtain ⟨i, hi', hi''⟩ : ∃ i, G t0 = some i ∧ i.d = .slice e := by cases hg : G t0 with
              | none => simp [hg] at hd
              | some i => simp [hg] at hd; exact ⟨i, rfl, hd⟩
            obtain ⟨d1, e1, f1⟩ := g_under (w := w) hG hi'
            rw [hi''] at f1
            obtain rfl := td_slice f1
            have rx := hr x _ hx
            generalize hv : ρv x = vx at *
            injection h with h; subst h
            cases rx
            exact ⟨_, by simp [execOp, resolve, invoke, builtin, Builtin.cap_, hv, e1, goInt], .int _ _⟩
          · rename_i z1 z2 z3 z4 c0 e hx hd
            obtain ⟨i, hi', hi''⟩ : ∃ i, G t0 = some i ∧ i.d = .slice e := by cases hg : G t0 with
              | none => simp [hg] at hd
              | some i => simp [hg] at hd; exact ⟨i, rfl, hd⟩
            obtain ⟨d1, e1, f1⟩ := g_under (w := w) hG hi'
            rw [hi''] at f1
            obtain rfl := td_slice f1
            have rx := hr x _ hx
            generalize hv : ρv x = vx at *
            injection h with h; subst h
            cases rx with
            | aref i b p o n c sz cap hloc hc hcap hbd =>
              have := hcap _ rfl
              subst this
              exact ⟨.int .i64 c, by simp [execOp, resolve, invoke, builtin, Builtin.cap_, hv, e1, goInt], .int _ _⟩
          · cases h
        · cases h
      split at h
      · rename_i x t0 ha ht
        have ha' : args = #[x] := by cases args; simp_all
        have ht' : argTypes = #[t0] := by cases argTypes; simp_all
        subst ha'; subst ht'
        split at h
        · rename_i sz own xs e hx hd
          obtain ⟨i, hi', hi''⟩ : ∃ i, G t0 = some i ∧ i.d = .slice e := by cases hg : G t0 with
            | none => simp [hg] at hd
            | some i => simp [hg] at hd; exact ⟨i, rfl, hd⟩
          obtain ⟨d1, e1, f1⟩ := g_under (w := w) hG hi'
          rw [hi''] at f1
          obtain rfl := td_slice f1
          have rx := hr x _ hx
          generalize hv : ρv x = vx at *
          injection h with h; subst h
          cases rx with
          | slnil => exact ⟨_, by simp [execOp, resolve, invoke, builtin, Builtin.len_, hv, e1, goInt], .int _ _⟩
          | slz => exact ⟨_, by simp [execOp, resolve, invoke, builtin, Builtin.len_, hv, e1, goInt], .int _ _⟩
          | sl b p cap sz own xs n hn => subst hn; exact ⟨_, by simp [execOp, resolve, invoke, builtin, Builtin.len_, hv, e1, goInt], .int _ _⟩
        · rename_i e hx hd
          obtain ⟨i, hi', hi''⟩ : ∃ i, G t0 = some i ∧ i.d = .slice e := by cases hg : G t0 with
            | none => simp [hg] at hd
            | some i => simp [hg] at hd; exact ⟨i, rfl, hd⟩
          obtain ⟨d1, e1, f1⟩ := g_under (w := w) hG hi'
          rw [hi''] at f1
          obtain rfl := td_slice f1
          have rx := hr x _ hx
          generalize hv : ρv x = vx at *
          injection h with h; subst h
          cases rx
          exact ⟨_, by simp [execOp, resolve, invoke, builtin, Builtin.len_, hv, e1, goInt], .int _ _⟩
        · rename_i sz b o n cap0 e hx hd
          obtain ⟨i, hi', hi''⟩ : ∃ i, G t0 = some i ∧ i.d = .slice e := by cases hg : G t0 with
            | none => simp [hg] at hd
            | some i => simp [hg] at hd; exact ⟨i, rfl, hd⟩
          obtain ⟨d1, e1, f1⟩ := g_under (w := w) hG hi'
          rw [hi''] at f1
          obtain rfl := td_slice f1
          have rx := hr x _ hx
          generalize hv : ρv x = vx at *
          injection h with h; subst h
          cases rx
          exact ⟨_, by simp [execOp, resolve, invoke, builtin, Builtin.len_, hv, e1, goInt], .int _ _⟩
        · rename_i s0 hx hd
          obtain ⟨i, hi', hi''⟩ : ∃ i, G t0 = some i ∧ i.d = .str := by cases hg : G t0 with
            | none => simp [hg] at hd
            | some i => simp [hg] at hd; exact ⟨i, rfl, hd⟩
          obtain ⟨d1, e1, f1⟩ := g_under (w := w) hG hi'
          rw [hi''] at f1
          obtain rfl := td_str f1
          have rx := hr x _ hx
          generalize hv : ρv x = vx at *
          injection h with h; subst h
          cases rx with
          | str s0 => exact ⟨_, by simp [execOp, resolve, invoke, builtin, Builtin.len_, hv, e1, goInt], .int _ _⟩
        · cases h
      · cases h
  | makeFunc fn first captured =>
    simp only [evalOp] at h
    split at h
    · rename_i hf
      have hf' : first = #[] := by cases first; simp_all
      subst hf'
      cases hm : captured.toList.mapM ρ with
      | none => rw [hm] at h; simp at h
      | some ts =>
        rw [hm] at h; simp at h; subst h
        obtain ⟨h1, h2⟩ := mapM_rel ρ ρv hr _ _ hm
        refine hbe ⟨.func fn #[] (captured.map ρv), by simp [Instr.makeFunc], .fn _ _ _ ?_ ?_⟩
        · simp [h1]
        · intro j c v hc hv
          exact h2 j c v hc (by simpa using hv)
    · split at h
      · rename_i hf
        have hf' : captured = #[] := by cases captured; simp_all
        subst hf'
        cases hm : first.toList.mapM ρ with
        | none => rw [hm] at h; simp at h
        | some ts =>
          rw [hm] at h; simp at h; subst h
          obtain ⟨h1, h2⟩ := mapM_rel ρ ρv hr _ _ hm
          refine hbe ⟨.func fn (first.map ρv) #[], by simp [Instr.makeFunc], .bnd _ _ _ ?_ ?_⟩
          · simp [h1]
          · intro j c v hc hv
            exact h2 j c v hc (by simpa using hv)
      · cases h
  | _ => simp [evalOp] at h
end
end
end Go.Ts
