/- Trees, continued: the rules of a walk, each for one kind of operation, told by its form. -/
import Derived.Test.YtholeicgmkjadaaTsL
namespace Go.Ts
set_option linter.unusedSimpArgs false
set_option linter.unusedVariables false
section
variable {P : Program} {G : Nat → Option TI} {N : Nat} {σ : St} {a : Env} {K : Env → St → Prop} {α : Type} {d : Tmp} {ty : TypeId} {pos : String} {af : Array Edge} {gd : Option (Nat × Bool)}

def cmpP : BinOp → Int → Int → Option Prop
  | .eql, n, m => some (n = m)
  | .neq, n, m => some (¬ n = m)
  | .lss, n, m => some (n < m)
  | .leq, n, m => some (n ≤ m)
  | .gtr, n, m => some (m < n)
  | .geq, n, m => some (m ≤ n)
  | _, _, _ => none
theorem cmp_eval {op : BinOp} {k : IntKind} {n m : Int} {p : Prop} (h : cmpP op n m = some p) : ∃ b : Bool, evalBin TD.other op (.int k n) (.int k m) = some (.bool b) ∧ (b = true ↔ p) := by
  cases op <;> simp only [cmpP, reduceCtorEq, Option.some.injEq] at h <;> subst h <;> simp [evalBin, isShift, evalInt]
theorem evalBin_int (d e : TD) (op : BinOp) (k k' : IntKind) (n m : Int) : evalBin d op (.int k n) (.int k' m) = evalBin e op (.int k n) (.int k' m) := rfl
theorem r_cmp {op : BinOp} {t yt : TypeId} {x y : Operand} {k : IntKind} {n m : Int} {p : Prop} {ti : TI} (hG : Fits P G) (ht : G t = some ti) (hx : evalO a x = some (.int k n)) (hy : evalO a y = some (.int k m)) (hc : cmpP op n m = some p) (hd : fitsD N (some d) = true)
    (kt : p → K (put a (some d) (.bool true)) σ) (kf : ¬ p → K (put a (some d) (.bool false)) σ) : AOp P N ⟨some d, .binOp op t x y yt, ty, pos, af, gd⟩ a σ K := by
  obtain ⟨b, h1, h2⟩ := cmp_eval (k := k) hc
  refine op_q hG (t := .bool b) (by simp only [evalOp, hx, hy, ht]; rw [evalBin_int _ TD.other]; exact h1) rfl hd ?_
  cases b with
  | true => exact kt (h2.1 rfl)
  | false => exact kf fun h => by have := h2.2 h; cases this
theorem r_cmpT {op : BinOp} {t yt : TypeId} {x y : Operand} {k : IntKind} {n m : Int} {p : Prop} {ti : TI} (hG : Fits P G) (ht : G t = some ti) (hx : evalO a x = some (.int k n)) (hy : evalO a y = some (.int k m)) (hc : cmpP op n m = some p) (hd : fitsD N (some d) = true)
    (hp : p) (kk : K (put a (some d) (.bool true)) σ) : AOp P N ⟨some d, .binOp op t x y yt, ty, pos, af, gd⟩ a σ K := r_cmp hG ht hx hy hc hd (fun _ => kk) (fun h => absurd hp h)
theorem r_cmpF {op : BinOp} {t yt : TypeId} {x y : Operand} {k : IntKind} {n m : Int} {p : Prop} {ti : TI} (hG : Fits P G) (ht : G t = some ti) (hx : evalO a x = some (.int k n)) (hy : evalO a y = some (.int k m)) (hc : cmpP op n m = some p) (hd : fitsD N (some d) = true)
    (hp : ¬ p) (kk : K (put a (some d) (.bool false)) σ) : AOp P N ⟨some d, .binOp op t x y yt, ty, pos, af, gd⟩ a σ K := r_cmp hG ht hx hy hc hd (fun h => absurd h hp) (fun _ => kk)

/-- Comparisons of strings, of bools. -/
theorem r_str {t yt : TypeId} {x y : Operand} {n m : List UInt8} {ti : TI} (hG : Fits P G) (ht : G t = some ti) (hx : evalO a x = some (.str n)) (hy : evalO a y = some (.str m)) (hd : fitsD N (some d) = true)
    (kt : n = m → K (put a (some d) (.bool true)) σ) (kf : ¬ n = m → K (put a (some d) (.bool false)) σ) : AOp P N ⟨some d, .binOp .eql t x y yt, ty, pos, af, gd⟩ a σ K := by
  refine op_q hG (t := .bool (n == m)) (by simp only [evalOp, hx, hy, ht, evalBin, evalStr]) rfl hd ?_
  by_cases h : n = m
  · rw [beq_iff_eq.2 h]; exact kt h
  · rw [beq_eq_false_iff_ne.2 h]; exact kf h
theorem r_strn {t yt : TypeId} {x y : Operand} {n m : List UInt8} {ti : TI} (hG : Fits P G) (ht : G t = some ti) (hx : evalO a x = some (.str n)) (hy : evalO a y = some (.str m)) (hd : fitsD N (some d) = true)
    (kt : ¬ n = m → K (put a (some d) (.bool true)) σ) (kf : n = m → K (put a (some d) (.bool false)) σ) : AOp P N ⟨some d, .binOp .neq t x y yt, ty, pos, af, gd⟩ a σ K := by
  refine op_q hG (t := .bool (!(n == m))) (by simp only [evalOp, hx, hy, ht, evalBin, evalStr]) rfl hd ?_
  by_cases h : n = m
  · rw [beq_iff_eq.2 h]; exact kf h
  · rw [beq_eq_false_iff_ne.2 h]; exact kt h
theorem r_strT {t yt : TypeId} {x y : Operand} {n m : List UInt8} {ti : TI} (hG : Fits P G) (ht : G t = some ti) (hx : evalO a x = some (.str n)) (hy : evalO a y = some (.str m)) (hd : fitsD N (some d) = true)
    (h : n = m) (kt : K (put a (some d) (.bool true)) σ) : AOp P N ⟨some d, .binOp .eql t x y yt, ty, pos, af, gd⟩ a σ K := r_str hG ht hx hy hd (fun _ => kt) (fun h' => absurd h h')
theorem r_strnF {t yt : TypeId} {x y : Operand} {n m : List UInt8} {ti : TI} (hG : Fits P G) (ht : G t = some ti) (hx : evalO a x = some (.str n)) (hy : evalO a y = some (.str m)) (hd : fitsD N (some d) = true)
    (h : n = m) (kf : K (put a (some d) (.bool false)) σ) : AOp P N ⟨some d, .binOp .neq t x y yt, ty, pos, af, gd⟩ a σ K := r_strn hG ht hx hy hd (fun h' => absurd h h') (fun _ => kf)

theorem r_strF {t yt : TypeId} {x y : Operand} {n m : List UInt8} {ti : TI} (hG : Fits P G) (ht : G t = some ti) (hx : evalO a x = some (.str n)) (hy : evalO a y = some (.str m)) (hd : fitsD N (some d) = true)
    (h : ¬ n = m) (kf : K (put a (some d) (.bool false)) σ) : AOp P N ⟨some d, .binOp .eql t x y yt, ty, pos, af, gd⟩ a σ K := r_str hG ht hx hy hd (fun h' => absurd h' h) (fun _ => kf)
theorem r_strnT {t yt : TypeId} {x y : Operand} {n m : List UInt8} {ti : TI} (hG : Fits P G) (ht : G t = some ti) (hx : evalO a x = some (.str n)) (hy : evalO a y = some (.str m)) (hd : fitsD N (some d) = true)
    (h : ¬ n = m) (kt : K (put a (some d) (.bool true)) σ) : AOp P N ⟨some d, .binOp .neq t x y yt, ty, pos, af, gd⟩ a σ K := r_strn hG ht hx hy hd (fun _ => kt) (fun h' => absurd h' h)

def arI : BinOp → Int → Int → Option Int
  | .add, n, m => some (n + m)
  | .sub, n, m => some (n - m)
  | .mul, n, m => some (n * m)
  | _, _, _ => none
def rngL : IntKind → Int
  | .i64 => -9223372036854775808
  | .i32 => -2147483648
  | .i16 => -32768
  | .i8 => -128
  | _ => 0
def rngH : IntKind → Int
  | .i64 => 9223372036854775807
  | .i32 => 2147483647
  | .i16 => 32767
  | .i8 => 127
  | .u64 => 18446744073709551615
  | .u32 => 4294967295
  | .u16 => 65535
  | .u8 => 255
theorem rng_wrap {k : IntKind} {r : Int} (h1 : rngL k ≤ r) (h2 : r ≤ rngH k) : k.wrap r = r := by
  cases k <;> simp only [rngL, rngH] at h1 h2 <;> simp [IntKind.wrap, IntKind.bits, IntKind.signed] <;> omega
theorem r_ar {op : BinOp} {t yt : TypeId} {x y : Operand} {k : IntKind} {n m r lo hi : Int} {ti : TI} (hG : Fits P G) (ht : G t = some ti) (hx : evalO a x = some (.int k n)) (hy : evalO a y = some (.int k m)) (hr : arI op n m = some r) (hd : fitsD N (some d) = true) (hlo : rngL k = lo) (hhi : rngH k = hi)
    (hb : lo ≤ r ∧ r ≤ hi) (kk : K (put a (some d) (.int k r)) σ) : AOp P N ⟨some d, .binOp op t x y yt, ty, pos, af, gd⟩ a σ K := by
  subst hlo; subst hhi
  refine op_q hG (t := .int k r) ?_ rfl hd kk
  simp only [evalOp, hx, hy, ht]
  cases op <;> simp only [arI, reduceCtorEq, Option.some.injEq] at hr <;> subst hr <;> simp [evalBin, isShift, evalInt, rng_wrap hb.1 hb.2]
/-- the same, wrapped -/
theorem r_arw {op : BinOp} {t yt : TypeId} {x y : Operand} {k : IntKind} {n m r : Int} {ti : TI} (hG : Fits P G) (ht : G t = some ti) (hx : evalO a x = some (.int k n)) (hy : evalO a y = some (.int k m)) (hr : arI op n m = some r) (hd : fitsD N (some d) = true)
    (kk : K (put a (some d) (.int k (k.wrap r))) σ) : AOp P N ⟨some d, .binOp op t x y yt, ty, pos, af, gd⟩ a σ K := by
  refine op_q hG (t := .int k (k.wrap r)) ?_ rfl hd kk
  simp only [evalOp, hx, hy, ht]
  cases op <;> simp only [arI, reduceCtorEq, Option.some.injEq] at hr <;> subst hr <;> simp [evalBin, isShift, evalInt]
theorem r_cv {src dst : TypeId} {x : Operand} {k k' : IntKind} {n lo hi : Int} {ts td : TI} (hG : Fits P G) (hx : evalO a x = some (.int k n)) (hs : G src = some ts) (hdt : G dst = some td) (hdd : td.d = .int k') (hd : fitsD N (some d) = true) (hlo : rngL k' = lo) (hhi : rngH k' = hi)
    (hb : lo ≤ n ∧ n ≤ hi) (kk : K (put a (some d) (.int k' n)) σ) : AOp P N ⟨some d, .convert src dst x, ty, pos, af, gd⟩ a σ K := by
  subst hlo; subst hhi
  obtain ⟨d1, s1, s2, s3⟩ := td
  simp only at hdd; subst hdd
  exact op_q hG (t := .int k' n) (by simp only [evalOp, hx, hs, hdt, rng_wrap hb.1 hb.2]) rfl hd kk
theorem r_cv8 {src dst : TypeId} {x : Operand} {k k' : IntKind} {c : UInt8} {ts td : TI} (hG : Fits P G) (hx : evalO a x = some (.int k c.toNat)) (hs : G src = some ts) (hdt : G dst = some td) (hdd : td.d = .int k') (hd : fitsD N (some d) = true) (hb : big8 k' = true)
    (kk : K (put a (some d) (.int k' c.toNat)) σ) : AOp P N ⟨some d, .convert src dst x, ty, pos, af, gd⟩ a σ K := by
  obtain ⟨d1, s1, s2, s3⟩ := td
  simp only at hdd; subst hdd
  exact op_q hG (t := .int k' c.toNat) (by simp only [evalOp, hx, hs, hdt, wrap8 hb]) rfl hd kk
theorem r_cv16 {src dst : TypeId} {x : Operand} {k k' : IntKind} {c : UInt16} {ts td : TI} (hG : Fits P G) (hx : evalO a x = some (.int k c.toNat)) (hs : G src = some ts) (hdt : G dst = some td) (hdd : td.d = .int k') (hd : fitsD N (some d) = true) (hb : big16 k' = true)
    (kk : K (put a (some d) (.int k' c.toNat)) σ) : AOp P N ⟨some d, .convert src dst x, ty, pos, af, gd⟩ a σ K := by
  obtain ⟨d1, s1, s2, s3⟩ := td
  simp only at hdd; subst hdd
  exact op_q hG (t := .int k' c.toNat) (by simp only [evalOp, hx, hs, hdt, wrap16 hb]) rfl hd kk
theorem r_cvw {src dst : TypeId} {x : Operand} {k k' : IntKind} {n : Int} {ts td : TI} (hG : Fits P G) (hx : evalO a x = some (.int k n)) (hs : G src = some ts) (hdt : G dst = some td) (hdd : td.d = .int k') (hd : fitsD N (some d) = true)
    (kk : K (put a (some d) (.int k' (k'.wrap n))) σ) : AOp P N ⟨some d, .convert src dst x, ty, pos, af, gd⟩ a σ K := by
  obtain ⟨d1, s1, s2, s3⟩ := td
  simp only at hdd; subst hdd
  exact op_q hG (t := .int k' (k'.wrap n)) (by simp only [evalOp, hx, hs, hdt]) rfl hd kk

theorem r_ari64 {op : BinOp} {t yt : TypeId} {x y : Operand} {n m r : Int} {ti : TI} (hG : Fits P G) (ht : G t = some ti) (hx : evalO a x = some (.int .i64 n)) (hy : evalO a y = some (.int .i64 m)) (hr : arI op n m = some r) (hd : fitsD N (some d) = true)
    (hb : -9223372036854775808 ≤ r ∧ r ≤ 9223372036854775807) (kk : K (put a (some d) (.int .i64 r)) σ) : AOp P N ⟨some d, .binOp op t x y yt, ty, pos, af, gd⟩ a σ K := r_ar hG ht hx hy hr hd rfl rfl hb kk
theorem r_cv_i64 {src dst : TypeId} {x : Operand} {k : IntKind} {n : Int} {ts td : TI} (hG : Fits P G) (hdt : G dst = some td) (hdd : td.d = .int .i64) (hx : evalO a x = some (.int k n)) (hs : G src = some ts) (hd : fitsD N (some d) = true)
    (hb : -9223372036854775808 ≤ n ∧ n ≤ 9223372036854775807) (kk : K (put a (some d) (.int .i64 n)) σ) : AOp P N ⟨some d, .convert src dst x, ty, pos, af, gd⟩ a σ K := r_cv hG hx hs hdt hdd hd rfl rfl hb kk
theorem r_aru64 {op : BinOp} {t yt : TypeId} {x y : Operand} {n m r : Int} {ti : TI} (hG : Fits P G) (ht : G t = some ti) (hx : evalO a x = some (.int .u64 n)) (hy : evalO a y = some (.int .u64 m)) (hr : arI op n m = some r) (hd : fitsD N (some d) = true)
    (hb : 0 ≤ r ∧ r ≤ 18446744073709551615) (kk : K (put a (some d) (.int .u64 r)) σ) : AOp P N ⟨some d, .binOp op t x y yt, ty, pos, af, gd⟩ a σ K := r_ar hG ht hx hy hr hd rfl rfl hb kk
theorem r_cv_u64 {src dst : TypeId} {x : Operand} {k : IntKind} {n : Int} {ts td : TI} (hG : Fits P G) (hdt : G dst = some td) (hdd : td.d = .int .u64) (hx : evalO a x = some (.int k n)) (hs : G src = some ts) (hd : fitsD N (some d) = true)
    (hb : 0 ≤ n ∧ n ≤ 18446744073709551615) (kk : K (put a (some d) (.int .u64 n)) σ) : AOp P N ⟨some d, .convert src dst x, ty, pos, af, gd⟩ a σ K := r_cv hG hx hs hdt hdd hd rfl rfl hb kk
theorem r_aru8 {op : BinOp} {t yt : TypeId} {x y : Operand} {n m r : Int} {ti : TI} (hG : Fits P G) (ht : G t = some ti) (hx : evalO a x = some (.int .u8 n)) (hy : evalO a y = some (.int .u8 m)) (hr : arI op n m = some r) (hd : fitsD N (some d) = true)
    (hb : 0 ≤ r ∧ r ≤ 255) (kk : K (put a (some d) (.int .u8 r)) σ) : AOp P N ⟨some d, .binOp op t x y yt, ty, pos, af, gd⟩ a σ K := r_ar hG ht hx hy hr hd rfl rfl hb kk
theorem r_cv_u8 {src dst : TypeId} {x : Operand} {k : IntKind} {n : Int} {ts td : TI} (hG : Fits P G) (hdt : G dst = some td) (hdd : td.d = .int .u8) (hx : evalO a x = some (.int k n)) (hs : G src = some ts) (hd : fitsD N (some d) = true)
    (hb : 0 ≤ n ∧ n ≤ 255) (kk : K (put a (some d) (.int .u8 n)) σ) : AOp P N ⟨some d, .convert src dst x, ty, pos, af, gd⟩ a σ K := r_cv hG hx hs hdt hdd hd rfl rfl hb kk
theorem r_aru16 {op : BinOp} {t yt : TypeId} {x y : Operand} {n m r : Int} {ti : TI} (hG : Fits P G) (ht : G t = some ti) (hx : evalO a x = some (.int .u16 n)) (hy : evalO a y = some (.int .u16 m)) (hr : arI op n m = some r) (hd : fitsD N (some d) = true)
    (hb : 0 ≤ r ∧ r ≤ 65535) (kk : K (put a (some d) (.int .u16 r)) σ) : AOp P N ⟨some d, .binOp op t x y yt, ty, pos, af, gd⟩ a σ K := r_ar hG ht hx hy hr hd rfl rfl hb kk
theorem r_cv_u16 {src dst : TypeId} {x : Operand} {k : IntKind} {n : Int} {ts td : TI} (hG : Fits P G) (hdt : G dst = some td) (hdd : td.d = .int .u16) (hx : evalO a x = some (.int k n)) (hs : G src = some ts) (hd : fitsD N (some d) = true)
    (hb : 0 ≤ n ∧ n ≤ 65535) (kk : K (put a (some d) (.int .u16 n)) σ) : AOp P N ⟨some d, .convert src dst x, ty, pos, af, gd⟩ a σ K := r_cv hG hx hs hdt hdd hd rfl rfl hb kk
theorem r_move {x : Operand} {t : T} (hG : Fits P G) (hx : evalO a x = some t) (hd : fitsD N (some d) = true) (kk : K (put a (some d) t) σ) : AOp P N ⟨some d, .move x, ty, pos, af, gd⟩ a σ K := op_q hG (by simp only [evalOp, hx]) rfl hd kk
theorem r_asg {x : Operand} {t : T} (hG : Fits P G) (hx : evalO a x = some t) (hd : fitsD N (some d) = true) (kk : K (put a (some d) t) σ) : AOp P N ⟨some d, .assign x, ty, pos, af, gd⟩ a σ K := op_q hG (by simp only [evalOp, hx]) rfl hd kk
theorem r_pick {c x y : Operand} {b : Bool} {t : T} (hG : Fits P G) (hc : evalO a c = some (.bool b)) (hx : evalO a (cond b x y) = some t) (hd : fitsD N (some d) = true) (kk : K (put a (some d) t) σ) : AOp P N ⟨some d, .pick c x y, ty, pos, af, gd⟩ a σ K := by
  refine op_q hG (t := t) ?_ rfl hd kk
  cases b <;> (simp only [evalOp, hc]; exact hx)
theorem r_not {t : TypeId} {x : Operand} {b c : Bool} (hG : Fits P G) (hx : evalO a x = some (.bool b)) (hb : (!b) = c) (hd : fitsD N (some d) = true) (kk : K (put a (some d) (.bool c)) σ) : AOp P N ⟨some d, .unOp .not t x, ty, pos, af, gd⟩ a σ K := by
  subst hb; exact op_q hG (by simp only [evalOp, hx, evalUn]) rfl hd kk
theorem r_lenm {x : Operand} {t e sz : Nat} {own : Own} {f : α → T} {l : List α} {ti : TI} (hG : Fits P G) (hx : evalO a x = some (.sl sz own (l.map f))) (ht : G t = some ti) (htd : ti.d = .slice e) (hd : fitsD N (some d) = true)
    (kk : K (put a (some d) (.int .i64 l.length)) σ) : AOp P N ⟨some d, .call ⟨.builtin .len, #[x], #[t]⟩, ty, pos, af, gd⟩ a σ K := op_lenm hG rfl hx ht htd rfl hd kk
def lenT : T → Option Int
  | .sl _ _ xs => some xs.length
  | .nilsl => some 0
  | .aref _ _ _ n _ => some n
  | _ => none
theorem r_len {x : Operand} {t e : Nat} {u : T} {n : Int} {ti : TI} (hG : Fits P G) (hx : evalO a x = some u) (hn : lenT u = some n) (ht : G t = some ti) (htd : ti.d = .slice e) (hd : fitsD N (some d) = true)
    (kk : K (put a (some d) (.int .i64 n)) σ) : AOp P N ⟨some d, .call ⟨.builtin .len, #[x], #[t]⟩, ty, pos, af, gd⟩ a σ K := by
  refine op_q hG (t := .int .i64 n) ?_ rfl hd kk
  obtain ⟨d1, s1, s2, s3⟩ := ti
  simp only at htd; subst htd
  unfold lenT at hn
  split at hn <;> (try cases hn) <;> simp only [evalOp, hx, ht, Option.map_some] <;> rfl
theorem r_ldro {t : TypeId} {x : Operand} {y u : T} {o : Nat} (hG : Fits P G) (hx : evalO a x = some (.ro y o)) (hu : readT G t y.cells o = some u) (hd : fitsD N (some d) = true) (kk : K (put a (some d) u) σ) : AOp P N ⟨some d, .load t x, ty, pos, af, gd⟩ a σ K :=
  op_q hG (by simp only [evalOp, hx]; exact hu) rfl hd kk
theorem r_ld (n : Nat) {t : TypeId} {x : Operand} {i p : Nat} {u : T} {ts : List T} (hG : Fits P G) (hx : evalO a x = some (.ptr i p)) (hob : σ.L[n]? = some (i, .cells ts)) (hu : readT G t ts p = some u) (hd : fitsD N (some d) = true) (kk : K (put a (some d) u) σ) :
    AOp P N ⟨some d, .load t x, ty, pos, af, gd⟩ a σ K := op_load n hG rfl hx hob hu rfl hd kk
theorem r_st (n : Nat) {t : TypeId} {x y : Operand} {i p : Nat} {u : T} {ts : List T} {ti : TI} (hG : Fits P G) (hx : evalO a x = some (.ptr i p)) (hob : σ.L[n]? = some (i, .cells ts)) (hy : evalO a y = some u)
    (hsc : (notRaw u && u.cells.all T.scalar) = true) (hty : G t = some ti) (hsz : Nat.beq u.cells.length ti.size = true) (hle : Nat.ble (p + u.cells.length) ts.length = true)
    (kk : K a (σ.set n i (.cells (stored ts u.cells p)))) : AOp P N ⟨none, .store t x y, ty, pos, af, gd⟩ a σ K := op_store n hG rfl hx hob hy hsc hty hsz hle rfl kk
theorem r_idxm [Inhabited α] {t : TypeId} {x ix : Operand} {k : IntKind} {n : Int} {sz e : Nat} {own : Own} {f : α → T} {l : List α} {ti te : TI} (hG : Fits P G)
    (hx : evalO a x = some (.sl sz own (l.map f))) (hn : evalO a ix = some (.int k n)) (ht : G t = some ti) (htd : ti.d = .slice e) (hte : G e = some te) (hsz : Nat.beq sz te.size = true) (hd : fitsD N (some d) = true)
    (h0 : 0 ≤ n ∧ n < l.length) (kk : K (put a (some d) (.ro (f (l.getD n.toNat default)) 0)) σ) : AOp P N ⟨some d, .indexAddr t x ix, ty, pos, af, gd⟩ a σ K := op_idxm hG rfl hn hx ht htd hte hsz rfl hd h0 kk
/-- The first of a list. -/
theorem r_idx0 [Inhabited α] {t : TypeId} {x ix : Operand} {k : IntKind} {sz e : Nat} {own : Own} {f : α → T} {c : α} {l : List α} {ti te : TI} (hG : Fits P G)
    (hx : evalO a x = some (.sl sz own ((c :: l).map f))) (hn : evalO a ix = some (.int k 0)) (ht : G t = some ti) (htd : ti.d = .slice e) (hte : G e = some te) (hsz : Nat.beq sz te.size = true) (hd : fitsD N (some d) = true)
    (kk : K (put a (some d) (.ro (f c) 0)) σ) : AOp P N ⟨some d, .indexAddr t x ix, ty, pos, af, gd⟩ a σ K := op_idxm hG rfl hn hx ht htd hte hsz rfl hd (by simp) kk
/-- The same, at numbers that are known not to be negative. -/
theorem r_idxn [Inhabited α] {t : TypeId} {x ix : Operand} {k : IntKind} {n : Nat} {sz e : Nat} {own : Own} {f : α → T} {l : List α} {ti te : TI} (hG : Fits P G)
    (hx : evalO a x = some (.sl sz own (l.map f))) (hn : evalO a ix = some (.int k (n : Int))) (ht : G t = some ti) (htd : ti.d = .slice e) (hte : G e = some te) (hsz : Nat.beq sz te.size = true) (hd : fitsD N (some d) = true)
    (h0 : n < l.length) (kk : K (put a (some d) (.ro (f (l.getD n default)) 0)) σ) : AOp P N ⟨some d, .indexAddr t x ix, ty, pos, af, gd⟩ a σ K := op_idxm hG rfl hn hx ht htd hte hsz rfl hd (by omega) (by rw [Int.toNat_natCast]; exact kk)
theorem r_idx {t : TypeId} {x ix : Operand} {u : T} (hG : Fits P G) (he : evalOp G (fun _ => none) (evalO a) (.indexAddr t x ix) = some u) (hd : fitsD N (some d) = true)
    (kk : K (put a (some d) u) σ) : AOp P N ⟨some d, .indexAddr t x ix, ty, pos, af, gd⟩ a σ K := op_q hG he rfl hd kk
theorem r_sl_lo {t : TypeId} {x lo : Operand} {k : IntKind} {l : Int} {sz e : Nat} {own : Own} {f : α → T} {xs : List α} {ti te : TI} (hG : Fits P G) (hx : evalO a x = some (.sl sz own (xs.map f))) (hl : evalO a lo = some (.int k l))
    (ht : G t = some ti) (htd : ti.d = .slice e) (hte : G e = some te) (hsz : Nat.beq sz te.size = true) (hd : fitsD N (some d) = true)
    (hb : 0 ≤ l ∧ l ≤ xs.length) (kk : K (put a (some d) (.sl sz .no ((xs.drop l.toNat).map f))) σ) : AOp P N ⟨some d, .slice t x (some lo) none none, ty, pos, af, gd⟩ a σ K := op_slm_lo hG rfl hx hl ht htd hte hsz rfl hd hb kk
theorem r_sl_hi {t : TypeId} {x hi : Operand} {k : IntKind} {h : Int} {sz e : Nat} {own : Own} {f : α → T} {xs : List α} {ti te : TI} (hG : Fits P G) (hx : evalO a x = some (.sl sz own (xs.map f))) (hh : evalO a hi = some (.int k h))
    (ht : G t = some ti) (htd : ti.d = .slice e) (hte : G e = some te) (hsz : Nat.beq sz te.size = true) (hd : fitsD N (some d) = true)
    (hb : 0 ≤ h ∧ h ≤ xs.length) (kk : K (put a (some d) (.sl sz .no ((xs.take h.toNat).map f))) σ) : AOp P N ⟨some d, .slice t x none (some hi) none, ty, pos, af, gd⟩ a σ K := op_slm_hi hG rfl hx hh ht htd hte hsz rfl hd hb kk
theorem r_sl_lh {t : TypeId} {x lo hi : Operand} {k k' : IntKind} {l h : Int} {sz e : Nat} {own : Own} {f : α → T} {xs : List α} {ti te : TI} (hG : Fits P G) (hx : evalO a x = some (.sl sz own (xs.map f))) (hl : evalO a lo = some (.int k l)) (hh : evalO a hi = some (.int k' h))
    (ht : G t = some ti) (htd : ti.d = .slice e) (hte : G e = some te) (hsz : Nat.beq sz te.size = true) (hd : fitsD N (some d) = true)
    (hb : 0 ≤ l ∧ l ≤ h ∧ h ≤ xs.length) (kk : K (put a (some d) (.sl sz .no (((xs.take h.toNat).drop l.toNat).map f))) σ) : AOp P N ⟨some d, .slice t x (some lo) (some hi) none, ty, pos, af, gd⟩ a σ K := op_slm hG rfl hx hl hh ht htd hte hsz rfl hd hb kk
theorem r_sl_lon {t : TypeId} {x lo : Operand} {k : IntKind} {l : Nat} {sz e : Nat} {own : Own} {f : α → T} {xs : List α} {ti te : TI} (hG : Fits P G) (hx : evalO a x = some (.sl sz own (xs.map f))) (hl : evalO a lo = some (.int k (l : Int)))
    (ht : G t = some ti) (htd : ti.d = .slice e) (hte : G e = some te) (hsz : Nat.beq sz te.size = true) (hd : fitsD N (some d) = true)
    (hb : l ≤ xs.length) (kk : K (put a (some d) (.sl sz .no ((xs.drop l).map f))) σ) : AOp P N ⟨some d, .slice t x (some lo) none none, ty, pos, af, gd⟩ a σ K := op_slm_lo hG rfl hx hl ht htd hte hsz rfl hd (by omega) (by rw [Int.toNat_natCast]; exact kk)
theorem r_sl_hin {t : TypeId} {x hi : Operand} {k : IntKind} {h : Nat} {sz e : Nat} {own : Own} {f : α → T} {xs : List α} {ti te : TI} (hG : Fits P G) (hx : evalO a x = some (.sl sz own (xs.map f))) (hh : evalO a hi = some (.int k (h : Int)))
    (ht : G t = some ti) (htd : ti.d = .slice e) (hte : G e = some te) (hsz : Nat.beq sz te.size = true) (hd : fitsD N (some d) = true)
    (hb : h ≤ xs.length) (kk : K (put a (some d) (.sl sz .no ((xs.take h).map f))) σ) : AOp P N ⟨some d, .slice t x none (some hi) none, ty, pos, af, gd⟩ a σ K := op_slm_hi hG rfl hx hh ht htd hte hsz rfl hd (by omega) (by rw [Int.toNat_natCast]; exact kk)
theorem r_sl_lhn {t : TypeId} {x lo hi : Operand} {k k' : IntKind} {l h : Nat} {sz e : Nat} {own : Own} {f : α → T} {xs : List α} {ti te : TI} (hG : Fits P G) (hx : evalO a x = some (.sl sz own (xs.map f))) (hl : evalO a lo = some (.int k (l : Int))) (hh : evalO a hi = some (.int k' (h : Int)))
    (ht : G t = some ti) (htd : ti.d = .slice e) (hte : G e = some te) (hsz : Nat.beq sz te.size = true) (hd : fitsD N (some d) = true)
    (hb : l ≤ h ∧ h ≤ xs.length) (kk : K (put a (some d) (.sl sz .no (((xs.take h).drop l).map f))) σ) : AOp P N ⟨some d, .slice t x (some lo) (some hi) none, ty, pos, af, gd⟩ a σ K := op_slm hG rfl hx hl hh ht htd hte hsz rfl hd (by omega) (by rw [Int.toNat_natCast, Int.toNat_natCast]; exact kk)
theorem r_sl {t : TypeId} {x : Operand} {lo hi mx : Option Operand} {u : T} (hG : Fits P G) (he : evalOp G (fun _ => none) (evalO a) (.slice t x lo hi mx) = some u) (hd : fitsD N (some d) = true)
    (kk : K (put a (some d) u) σ) : AOp P N ⟨some d, .slice t x lo hi mx, ty, pos, af, gd⟩ a σ K := op_q hG he rfl hd kk
theorem r_tostr {src dst : TypeId} {x : Operand} {t : T} {s : List UInt8} {e : Nat} {ts td te : TI} (hG : Fits P G)
    (hd1 : G dst = some td) (hdd1 : td.d = .str) (hs : G src = some ts) (hsd : ts.d = .slice e) (he : G e = some te) (hed : te.d = .int .u8) (hx : evalO a x = some t) (hd : fitsD N (some d) = true)
    (hb : bytesT t = some s) (kk : K (put a (some d) (.str s)) σ) : AOp P N ⟨some d, .convert src dst x, ty, pos, af, gd⟩ a σ K := op_str hG rfl hx hs hsd hd1 hdd1 he hed rfl hd hb kk
theorem r_shr {t yt : TypeId} {x y : Operand} {k k' : IntKind} {n m : Int} {ti : TI} (hG : Fits P G) (ht : G t = some ti) (hx : evalO a x = some (.int k n)) (hy : evalO a y = some (.int k' m)) (hd : fitsD N (some d) = true)
    (h0 : 0 ≤ m) (kk : K (put a (some d) (.int k (n / 2 ^ (min m.toNat k.bits)))) σ) : AOp P N ⟨some d, .binOp .shr t x y yt, ty, pos, af, gd⟩ a σ K := op_shr hG rfl ht hx hy rfl hd h0 kk
theorem r_shl {t yt : TypeId} {x y : Operand} {k k' : IntKind} {n m : Int} {ti : TI} (hG : Fits P G) (ht : G t = some ti) (hx : evalO a x = some (.int k n)) (hy : evalO a y = some (.int k' m)) (hd : fitsD N (some d) = true)
    (h0 : 0 ≤ m) (kk : K (put a (some d) (.int k (k.wrap (n * 2 ^ (min m.toNat k.bits))))) σ) : AOp P N ⟨some d, .binOp .shl t x y yt, ty, pos, af, gd⟩ a σ K := op_shl hG rfl ht hx hy rfl hd h0 kk
theorem r_rem {t yt : TypeId} {x y : Operand} {k : IntKind} {n m : Int} {ti : TI} (hG : Fits P G) (ht : G t = some ti) (hx : evalO a x = some (.int k n)) (hy : evalO a y = some (.int k m)) (hd : fitsD N (some d) = true)
    (h0 : 0 ≤ n ∧ 0 < m) (kk : K (put a (some d) (.int k (n % m))) σ) : AOp P N ⟨some d, .binOp .rem t x y yt, ty, pos, af, gd⟩ a σ K := op_rem hG rfl ht hx hy rfl hd h0 kk
theorem r_trem {t yt : TypeId} {x y : Operand} {k : IntKind} {n m : Int} {ti : TI} (hG : Fits P G) (ht : G t = some ti) (hx : evalO a x = some (.int k n)) (hy : evalO a y = some (.int k m)) (hd : fitsD N (some d) = true)
    (h0 : 0 < m) (kk : K (put a (some d) (.int k (n.tmod m))) σ) : AOp P N ⟨some d, .binOp .rem t x y yt, ty, pos, af, gd⟩ a σ K := by
  refine op_q hG (t := .int k (n.tmod m)) ?_ rfl hd kk
  have h1 : (m == 0) = false := by simp; omega
  simp only [evalOp, hx, hy, ht, evalBin, isShift, cond_false, decide_true, cond_true, evalInt, h1]
theorem r_bin {op : BinOp} {t yt : TypeId} {x y : Operand} {u : T} (hG : Fits P G) (he : evalOp G (fun _ => none) (evalO a) (.binOp op t x y yt) = some u) (hd : fitsD N (some d) = true)
    (kk : K (put a (some d) u) σ) : AOp P N ⟨some d, .binOp op t x y yt, ty, pos, af, gd⟩ a σ K := op_q hG he rfl hd kk
def notCmp : BinOp → Bool
  | .eql => false
  | .neq => false
  | .lss => false
  | .leq => false
  | .gtr => false
  | .geq => false
  | _ => true
theorem r_bin' {op : BinOp} {t yt : TypeId} {x y : Operand} {u : T} (hG : Fits P G) (hq : notCmp op = true) (he : evalOp G (fun _ => none) (evalO a) (.binOp op t x y yt) = some u) (hd : fitsD N (some d) = true)
    (kk : K (put a (some d) u) σ) : AOp P N ⟨some d, .binOp op t x y yt, ty, pos, af, gd⟩ a σ K := op_q hG he rfl hd kk
theorem r_beq {t yt : TypeId} {x y : Operand} {b c : Bool} {ti : TI} (hG : Fits P G) (ht : G t = some ti) (htd : ti.d = .bool) (hx : evalO a x = some (.bool b)) (hy : evalO a y = some (.bool c)) (hd : fitsD N (some d) = true)
    (kk : K (put a (some d) (.bool (b == c))) σ) : AOp P N ⟨some d, .binOp .eql t x y yt, ty, pos, af, gd⟩ a σ K := by
  refine op_q hG (t := .bool (b == c)) ?_ rfl hd kk
  obtain ⟨d1, s1, s2, s3⟩ := ti
  simp only at htd; subst htd
  simp only [evalOp, hx, hy, ht]; rfl
theorem r_box {e : TypeId} {x : Operand} {t : T} (hG : Fits P G) (hx : evalO a x = some t) (hraw : notRaw t = true) (hd : fitsD N (some d) = true)
    (k : ∀ i, K (put a (some d) (.ptr i 0)) (σ.new i (.cells t.cells))) : AOp P N ⟨some d, .box e x, ty, pos, af, gd⟩ a σ K := op_box hG rfl hx hraw rfl hd k
theorem r_alloc {e : TypeId} {ti : TI} (hG : Fits P G) (he : G e = some ti) (hd : fitsD N (some d) = true)
    (k : ∀ i, K (put a (some d) (.ptr i 0)) (σ.new i (.cells ti.tree.cells))) : AOp P N ⟨some d, .alloc e, ty, pos, af, gd⟩ a σ K := op_alloc hG rfl he rfl hd k
def partsV (a : Env) : List (Nat × Operand) → Option (List T)
  | [] => some []
  | (_, x) :: r => match evalO a x, partsV a r with
    | some t, some ts => some (t :: ts)
    | _, _ => none
theorem partsV_spec : ∀ {ps : List (Nat × Operand)} {us : List T}, partsV a ps = some us → ∃ pt, partsT a ps = some pt ∧ pt.map Prod.snd = us ∧ pt.map Prod.fst = ps.map Prod.fst
  | [], us, h => by simp [partsV] at h; subst h; exact ⟨[], rfl, rfl, rfl⟩
  | (i, x) :: ps, us, h => by
    simp only [partsV] at h
    split at h
    · rename_i t ts ht hts
      injection h with h; subst h
      obtain ⟨pt, h1, h2, h3⟩ := partsV_spec hts
      exact ⟨(i, t) :: pt, by simp [partsT, ht, h1], by simp [h2], by simp [h3]⟩
    · cases h
theorem r_mk {sz : Nat} {us : List T} {t : TypeId} {len e : Nat} {parts : Array (Nat × Operand)} {ti ie : TI} (hG : Fits P G) (ht : G t = some ti) (htd : ti.d = .slice e) (he : G e = some ie) (hp : partsV a parts.toList = some us)
    (hok : (decide (parts.toList.map Prod.fst = List.range' 0 len) && Nat.beq us.length len && (us.all fun p => notRaw p && Nat.beq p.cells.length ie.size) && Nat.ble (len * ie.size) 16777216 && Nat.blt 0 ie.size) = true) (hd : fitsD N (some d) = true)
    (hsz : Nat.beq ie.size sz = true) (k : K (put a (some d) (.sl sz .full us)) σ) : AOp P N ⟨some d, .buildSlice t len parts, ty, pos, af, gd⟩ a σ K := by
  obtain rfl : ie.size = sz := Nat.eq_of_beq_eq_true hsz
  obtain ⟨pt, h1, h2, h3⟩ := partsV_spec hp
  subst h2
  refine op_mkslice hG rfl ht htd he h1 ?_ rfl hd k
  rw [h3]
  simpa [List.all_map, Function.comp_def] using hok
theorem r_build {t : TypeId} {parts : Array (Nat × Operand)} {ti : TI} {pt : List (Nat × T)} {cs : List T} (hG : Fits P G) (ht : G t = some ti) (hpl : (placesOk G ti) = true) (hp : partsT a parts.toList = some pt) (hf : treeFill (placeOf G ti) (ti.zero.map Z.tree) pt = some cs) (hd : fitsD N (some d) = true)
    (k : K (put a (some d) (.agg cs)) σ) : AOp P N ⟨some d, .build t parts, ty, pos, af, gd⟩ a σ K := op_build hG rfl ht hpl hp hf rfl hd k
theorem r_q {op : Op} {u : T} (hG : Fits P G) (hp : plainOp op = true) (he : evalOp G (fun _ => none) (evalO a) op = some u) (hd : fitsD N (some d) = true)
    (kk : K (put a (some d) u) σ) : AOp P N ⟨some d, op, ty, pos, af, gd⟩ a σ K := op_q hG he rfl hd kk
theorem r_pure {f : Operand} {args : Array Operand} {tys : Array TypeId} {g : FuncId} {caps ts us : List T} {r : T} (hf : evalO a f = some (.fn (.func g) caps)) (ha : argsT a args.toList = some ts) (hu : ts ++ caps = us) (hd : fitsD N (some d) = true) (hnx : σ.nx = none)
    (h : Pure P g us r) (k : K (put a (some d) r) σ) : AOp P N ⟨some d, .call ⟨.value f, args, tys⟩, ty, pos, af, gd⟩ a σ K := by subst hu; exact op_pure rfl hf ha rfl hd hnx h k
theorem r_owns {f : Operand} {args : Array Operand} {tys : Array TypeId} {g : FuncId} {caps ts us : List T} {sz : Nat} {xs : List T} (hf : evalO a f = some (.fn (.func g) caps)) (ha : argsT a args.toList = some ts) (hu : ts ++ caps = us) (hd : fitsD N (some d) = true) (hnx : σ.nx = none)
    (h : Owns P g us sz xs) (k : ∀ k, K (put a (some d) (.sl sz (.tok k) xs)) { σ with R := k :: σ.R }) : AOp P N ⟨some d, .call ⟨.value f, args, tys⟩, ty, pos, af, gd⟩ a σ K := by subst hu; exact op_owns rfl hf ha rfl hd hnx h k
theorem r_appm (n : Nat) {f : α → T} {sz : Nat} [Enc f sz] {x y : Operand} {t1 t2 : TypeId} {e : Nat} {i1 i2 ie : TI} {k0 : Nat} {xs ys : List α} {zs : List T} {u : T} (hG : Fits P G)
    (hx : evalO a x = some (.sl sz (.tok k0) (xs.map f))) (hRn : σ.R[n]? = some k0) (hnx : σ.nx = none) (h1 : G t1 = some i1) (h1d : i1.d = .slice e) (he : G e = some ie) (h2 : G t2 = some i2) (h2d : ∃ e2, i2.d = .slice e2)
    (hy : evalO a y = some u) (hsrc : srcOf (fun _ => none) sz u = some zs) (hsz : (Nat.beq sz ie.size && Nat.blt 0 sz && Nat.ble ie.bytes 4096) = true) (hd : fitsD N (some d) = true)
    (hz : zs = ys.map f) (hlen : xs.length + ys.length ≤ 4294967296)
    (k : ∀ k', K (put a (some d) (.sl sz (.tok k') ((xs ++ ys).map f))) (σ.tk n k')) : AOp P N ⟨some d, .call ⟨.builtin .append, #[x, y], #[t1, t2]⟩, ty, pos, af, gd⟩ a σ K := op_appm n hG rfl hx hRn hnx h1 h1d he h2 h2d hy hsrc hsz rfl hd hz hlen k
theorem r_app0m {f : α → T} {sz : Nat} [Enc f sz] {x y : Operand} {t1 t2 : TypeId} {e : Nat} {i1 i2 ie : TI} {xs ys : List α} {us zs : List T} {tx u : T} (hG : Fits P G)
    (hx : evalO a x = some tx) (hnr : noRoom tx = some us) (hnx : σ.nx = none) (h1 : G t1 = some i1) (h1d : i1.d = .slice e) (he : G e = some ie) (h2 : G t2 = some i2) (h2d : ∃ e2, i2.d = .slice e2)
    (hnz : noRoomSz sz tx = true) (hy : evalO a y = some u) (hsrc : srcOf (fun _ => none) sz u = some zs) (hsz : (Nat.beq sz ie.size && Nat.blt 0 sz && Nat.ble ie.bytes 4096) = true) (hd : fitsD N (some d) = true)
    (hu : us = xs.map f) (hz : zs = ys.map f) (hlen : xs.length + ys.length ≤ 4294967296)
    (k : ∀ k', K (put a (some d) (.sl sz (.tok k') ((xs ++ ys).map f))) { σ with R := k' :: σ.R }) : AOp P N ⟨some d, .call ⟨.builtin .append, #[x, y], #[t1, t2]⟩, ty, pos, af, gd⟩ a σ K := op_app0m hG rfl hx hnr hnx h1 h1d he h2 h2d hnz hy hsrc hsz rfl hd hu hz hlen k
/-! What stands behind, under a name: so that goals stay small. -/
variable {Q : Exit → Env → St → Prop}
theorem aw_seq' {x y : Code} (h : let Q1 := thenA (AW P N y Q) Q; AW P N x Q1 a σ) : AW P N (.seq x y) Q a σ := aw_seq h
theorem aw_block' {id : Nat} {c : Code} (h : let Q1 := inBlockA id Q; AW P N c Q1 a σ) : AW P N (.block id c) Q a σ := aw_block h
theorem aw_regL' {id : Nat} {os : List Oper} (h : let O1 : Array Oper := ⟨os⟩; AL P N O1 Q 0 os a σ) : AW P N (.region id ⟨os⟩ false) Q a σ := aw_regL h
theorem aw_draw' {id : Nat} {os : List Oper} (hm : P.follows .mixedOrders = true) (hc : drawOK ⟨os⟩ = true) (h : let O1 : Array Oper := ⟨os⟩; DL P N O1 Q σ os a) : AW P N (.region id ⟨os⟩ true) Q a σ := aw_draw hm hc h
end
end Go.Ts
