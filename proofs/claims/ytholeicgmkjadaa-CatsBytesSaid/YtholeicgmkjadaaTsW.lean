/- Trees, continued: lists told by the data of their elements. -/
import Derived.Test.YtholeicgmkjadaaTsP
namespace Go.Ts
set_option linter.unusedSimpArgs false
set_option linter.unusedVariables false

/-- A way to read data as cells. -/
class Enc {α : Type} (f : α → T) (sz : outParam Nat) : Prop where
  scal : ∀ x c, c ∈ (f x).cells → c.scalar = true
  size : ∀ x, (f x).cells.length = sz
theorem enc_scal {α : Type} (f : α → T) {sz : Nat} [Enc f sz] (l : List α) : Scal (l.map f) := by
  intro c hc
  simp only [flat, List.mem_flatMap, List.mem_map] at hc
  obtain ⟨t, ⟨x, _, rfl⟩, hc⟩ := hc
  exact Enc.scal x c hc
theorem scal_nil : Scal [] := fun c h => by simp [flat] at h
theorem scal_one {x : T} (h : x.cells.all T.scalar = true) : Scal [x] := by
  intro c hc
  simp only [flat, List.flatMap_cons, List.flatMap_nil, List.append_nil] at hc
  exact List.all_eq_true.1 h c hc

def hT (c : UInt16) : T := .int .u16 c.toNat
def qT (c : UInt64) : T := .int .u64 c.toNat
def iT (n : Int) : T := .int .i64 n
/-- Bytes, without room of their own. -/
def sT (b : List UInt8) : T := .sl 1 .no (b.map bT)
instance : Enc bT 1 := ⟨fun x c h => by simp [bT, T.cells] at h; subst h; rfl, fun x => rfl⟩
instance : Enc hT 1 := ⟨fun x c h => by simp [hT, T.cells] at h; subst h; rfl, fun x => rfl⟩
instance : Enc qT 1 := ⟨fun x c h => by simp [qT, T.cells] at h; subst h; rfl, fun x => rfl⟩
instance : Enc iT 1 := ⟨fun x c h => by simp [iT, T.cells] at h; subst h; rfl, fun x => rfl⟩
instance : Enc sT 1 := ⟨fun x c h => by simp [sT, T.cells] at h; subst h; rfl, fun x => rfl⟩

theorem bytesOf_inv : ∀ {xs : List T} {b : List UInt8}, bytesOf xs = some b → xs = b.map bT
  | [], b, h => by simp [bytesOf] at h; subst h; rfl
  | x :: xs, b, h => by
    simp only [bytesOf] at h
    split at h
    · rename_i c s hc hs
      injection h with h; subst h
      rw [List.map_cons, bytesOf_inv hs]
      congr 1
      unfold byteOfT at hc
      split at hc
      · rename_i n
        cases hb : (decide (0 ≤ n) && decide (n < 256)) with
        | false => rw [hb] at hc; cases hc
        | true =>
          rw [hb] at hc
          simp only [cond_true] at hc
          injection hc with hc; subst hc
          simp only [Bool.and_eq_true, decide_eq_true_eq] at hb
          unfold bT
          congr 1
          have : (UInt8.ofNat n.toNat).toNat = n.toNat := by simp [UInt8.toNat_ofNat]; omega
          rw [this]; omega
      · cases hc
    · cases h
/-- What reads as bytes. -/
def bytesT : T → Option (List UInt8)
  | .nilsl => some []
  | .sl 1 _ xs => bytesOf xs
  | _ => none
theorem bytesT_map (own : Own) (l : List UInt8) : bytesT (.sl 1 own (l.map bT)) = some l := bytesOf_map l
theorem bytesT_s (l : List UInt8) : bytesT (sT l) = some l := bytesOf_map l
theorem bytesT_wk {x : T} {b : List UInt8} (h : bytesT x = some b) : Wk x (sT b) := by
  unfold bytesT at h
  split at h
  · injection h with h; subst h; exact Wk.nil 1
  · rename_i own xs
    rw [bytesOf_inv h]; exact Wk.own 1 own _
  · cases h
def catOfT : T → Option UInt16
  | .int .u16 n => cond (decide (0 ≤ n) && decide (n < 65536)) (some (UInt16.ofNat n.toNat)) none
  | _ => none
def catsOf : List T → Option (List UInt16)
  | [] => some []
  | t :: r => match catOfT t, catsOf r with
    | some b, some s => some (b :: s)
    | _, _ => none
theorem catsOf_map : ∀ (l : List UInt16), catsOf (l.map hT) = some l
  | [] => rfl
  | x :: l => by
    have hx := x.toNat_lt
    have : catOfT (hT x) = some x := by
      unfold hT catOfT
      have h1 : (decide ((0 : Int) ≤ (x.toNat : Int)) && decide ((x.toNat : Int) < 65536)) = true := by simp; omega
      simp only [h1, cond_true]
      simp
    simp only [List.map_cons, catsOf, this, catsOf_map l]
theorem catsOf_inv : ∀ {xs : List T} {b : List UInt16}, catsOf xs = some b → xs = b.map hT
  | [], b, h => by simp [catsOf] at h; subst h; rfl
  | x :: xs, b, h => by
    simp only [catsOf] at h
    split at h
    · rename_i c s hc hs
      injection h with h; subst h
      rw [List.map_cons, catsOf_inv hs]
      congr 1
      unfold catOfT at hc
      split at hc
      · rename_i n
        cases hb : (decide (0 ≤ n) && decide (n < 65536)) with
        | false => rw [hb] at hc; cases hc
        | true =>
          rw [hb] at hc
          simp only [cond_true] at hc
          injection hc with hc; subst hc
          simp only [Bool.and_eq_true, decide_eq_true_eq] at hb
          unfold hT
          congr 1
          have : (UInt16.ofNat n.toNat).toNat = n.toNat := by simp [UInt16.toNat_ofNat]; omega
          rw [this]; omega
      · cases hc
    · cases h
def cT (l : List UInt16) : T := .sl 1 .no (l.map hT)
instance : Enc cT 1 := ⟨fun x c h => by simp [cT, T.cells] at h; subst h; rfl, fun x => rfl⟩
def catsT : T → Option (List UInt16)
  | .nilsl => some []
  | .sl 1 _ xs => catsOf xs
  | _ => none
theorem catsT_map (own : Own) (l : List UInt16) : catsT (.sl 1 own (l.map hT)) = some l := catsOf_map l
theorem catsT_c (l : List UInt16) : catsT (cT l) = some l := catsOf_map l
theorem catsT_wk {x : T} {b : List UInt16} (h : catsT x = some b) : Wk x (cT b) := by
  unfold catsT at h
  split at h
  · injection h with h; subst h; exact Wk.nil 1
  · rename_i own xs
    rw [catsOf_inv h]; exact Wk.own 1 own _
  · cases h

section
variable {P : Program} {G : Nat → Option TI} {N : Nat} {σ : St} {a : Env} {Q : Exit → Env → St → Prop} {α : Type}

theorem op_len (hG : Fits P G) {K : Env → St → Prop} {o : Oper} {x : Operand} {t e sz : Nat} {own : Own} {xs : List T} {ti : TI} {n : Nat}
    (hop : o.op = .call { callee := .builtin .len, args := #[x], argTypes := #[t] }) (hx : evalO a x = some (.sl sz own xs)) (ht : G t = some ti) (htd : ti.d = .slice e) {d : Tmp} (hdd : o.dst = some d) (hd : fitsD N (some d) = true)
    (hn : xs.length = n) (k : K (put a (some d) (.int .i64 n)) σ) : AOp P N o a σ K := by
  refine op_q' hG _ ?_ rfl hdd hd (by rw [← hn] at k; exact k)
  obtain ⟨d1, s1, s2, s3⟩ := ti
  simp only at htd; subst htd
  simp only [hop, evalOp, hx, ht, Option.map_some]

theorem op_lenm (hG : Fits P G) {K : Env → St → Prop} {o : Oper} {x : Operand} {t e sz : Nat} {own : Own} {f : α → T} {l : List α} {ti : TI}
    (hop : o.op = .call { callee := .builtin .len, args := #[x], argTypes := #[t] }) (hx : evalO a x = some (.sl sz own (l.map f))) (ht : G t = some ti) (htd : ti.d = .slice e) {d : Tmp} (hdd : o.dst = some d) (hd : fitsD N (some d) = true)
    (k : K (put a (some d) (.int .i64 l.length)) σ) : AOp P N o a σ K := op_len hG hop hx ht htd hdd hd (by simp) k

theorem op_dT (hG : Fits P G) {K : Env → St → Prop} {o : Oper} {p : Prop} {inst : Decidable p} (hcc : cmpOp o.op = true) (he : evalOp G (fun _ => none) (evalO a) o.op = some (.bool (@decide p inst))) {d : Tmp} (hdd : o.dst = some d) (hd : fitsD N (some d) = true)
    (hp : p) (k : K (put a (some d) (.bool true)) σ) : AOp P N o a σ K := op_q' hG (.bool true) he (by rw [decide_eq_true hp]) hdd hd k
theorem op_dF (hG : Fits P G) {K : Env → St → Prop} {o : Oper} {p : Prop} {inst : Decidable p} (hcc : cmpOp o.op = true) (he : evalOp G (fun _ => none) (evalO a) o.op = some (.bool (@decide p inst))) {d : Tmp} (hdd : o.dst = some d) (hd : fitsD N (some d) = true)
    (hp : ¬ p) (k : K (put a (some d) (.bool false)) σ) : AOp P N o a σ K := op_q' hG (.bool false) he (by rw [decide_eq_false hp]) hdd hd k
theorem op_eT (hG : Fits P G) {K : Env → St → Prop} {o : Oper} {x y : Int} (hcc : cmpOp o.op = true) (he : evalOp G (fun _ => none) (evalO a) o.op = some (.bool (x == y))) {d : Tmp} (hdd : o.dst = some d) (hd : fitsD N (some d) = true)
    (hp : x = y) (k : K (put a (some d) (.bool true)) σ) : AOp P N o a σ K := op_q' hG (.bool true) he (by rw [beq_iff_eq.2 hp]) hdd hd k
theorem op_eF (hG : Fits P G) {K : Env → St → Prop} {o : Oper} {x y : Int} (hcc : cmpOp o.op = true) (he : evalOp G (fun _ => none) (evalO a) o.op = some (.bool (x == y))) {d : Tmp} (hdd : o.dst = some d) (hd : fitsD N (some d) = true)
    (hp : ¬ x = y) (k : K (put a (some d) (.bool false)) σ) : AOp P N o a σ K := op_q' hG (.bool false) he (by rw [beq_eq_false_iff_ne.2 hp]) hdd hd k
theorem op_neT (hG : Fits P G) {K : Env → St → Prop} {o : Oper} {x y : Int} (hcc : cmpOp o.op = true) (he : evalOp G (fun _ => none) (evalO a) o.op = some (.bool (x != y))) {d : Tmp} (hdd : o.dst = some d) (hd : fitsD N (some d) = true)
    (hp : ¬ x = y) (k : K (put a (some d) (.bool true)) σ) : AOp P N o a σ K := op_q' hG (.bool true) he (by rw [show (x != y) = true by simp [hp]]) hdd hd k
theorem op_neF (hG : Fits P G) {K : Env → St → Prop} {o : Oper} {x y : Int} (hcc : cmpOp o.op = true) (he : evalOp G (fun _ => none) (evalO a) o.op = some (.bool (x != y))) {d : Tmp} (hdd : o.dst = some d) (hd : fitsD N (some d) = true)
    (hp : x = y) (k : K (put a (some d) (.bool false)) σ) : AOp P N o a σ K := op_q' hG (.bool false) he (by rw [show (x != y) = false by simp [hp]]) hdd hd k

theorem op_idxm [Inhabited α] (hG : Fits P G) {K : Env → St → Prop} {o : Oper} {t : TypeId} {x ix : Operand} {k : IntKind} {n : Int} {sz e : Nat} {own : Own} {f : α → T} {l : List α} {ti te : TI}
    (hop : o.op = .indexAddr t x ix) (hn : evalO a ix = some (.int k n)) (hx : evalO a x = some (.sl sz own (l.map f))) (ht : G t = some ti) (htd : ti.d = .slice e) (hte : G e = some te) (hsz : Nat.beq sz te.size = true) {d : Tmp} (hdd : o.dst = some d) (hd : fitsD N (some d) = true)
    (h0 : 0 ≤ n ∧ n < l.length) (kk : K (put a (some d) (.ro (f (l.getD n.toNat default)) 0)) σ) : AOp P N o a σ K := by
  refine op_idx hG hop hn hx ht htd hte hsz hdd hd h0.1 ?_ kk
  have h : n.toNat < l.length := by omega
  simp [List.getD_eq_getElem?_getD, List.getElem?_eq_getElem h]

theorem op_slm (hG : Fits P G) {K : Env → St → Prop} {o : Oper} {t : TypeId} {x : Operand} {lo hi : Option Operand} {k k' : IntKind} {l h : Int} {sz e : Nat} {own : Own} {f : α → T} {xs : List α} {ti te : TI}
    (hop : o.op = .slice t x lo hi none) (hx : evalO a x = some (.sl sz own (xs.map f))) (hl : (lo.map (evalO a)).getD (some (.int .i64 0)) = some (.int k l)) (hh : (hi.map (evalO a)).getD (some (.int .i64 (xs.map f).length)) = some (.int k' h))
    (ht : G t = some ti) (htd : ti.d = .slice e) (hte : G e = some te) (hsz : Nat.beq sz te.size = true) {d : Tmp} (hdd : o.dst = some d) (hd : fitsD N (some d) = true)
    (hb : 0 ≤ l ∧ l ≤ h ∧ h ≤ xs.length) (kk : K (put a (some d) (.sl sz .no (((xs.take h.toNat).drop l.toNat).map f))) σ) : AOp P N o a σ K := by
  intro av w μ hi' hr next Qc hn
  refine op_slice hG hop hx hl hh ht htd hte hsz hdd hd (by simpa using hb) (K := fun a' σ' => ∃ o, a' = put a (some d) (.sl sz o (((xs.take h.toNat).drop l.toNat).map f)) ∧ σ' = σ) ⟨_, by rw [← List.map_take, ← List.map_drop], rfl⟩ av w μ hi' hr next Qc ?_
  rintro av' w' μ' a' σ' h1 h2 h3 ⟨o', rfl, rfl⟩
  refine hn av' w' μ' _ _ h1 h2 ⟨h3.size, h3.defers, fun i t hi => ?_⟩ kk
  by_cases e : d = i
  · subst e
    have : t = .sl sz .no (((xs.take h.toNat).drop l.toNat).map f) := by simpa [put, get] using hi.symm
    subst this
    obtain ⟨v, hv, r⟩ := h3.tmp d (T.sl sz o' (((xs.take h.toNat).drop l.toNat).map f)) (by simp [put, get])
    exact ⟨v, hv, Wk.own _ _ _ _ _ _ _ r⟩
  · exact h3.tmp i t (by simpa [put, get, beqF e] using hi)

theorem op_slm_lo (hG : Fits P G) {K : Env → St → Prop} {o : Oper} {t : TypeId} {x lo : Operand} {k : IntKind} {l : Int} {sz e : Nat} {own : Own} {f : α → T} {xs : List α} {ti te : TI}
    (hop : o.op = .slice t x (some lo) none none) (hx : evalO a x = some (.sl sz own (xs.map f))) (hl : evalO a lo = some (.int k l))
    (ht : G t = some ti) (htd : ti.d = .slice e) (hte : G e = some te) (hsz : Nat.beq sz te.size = true) {d : Tmp} (hdd : o.dst = some d) (hd : fitsD N (some d) = true)
    (hb : 0 ≤ l ∧ l ≤ xs.length) (kk : K (put a (some d) (.sl sz .no ((xs.drop l.toNat).map f))) σ) : AOp P N o a σ K := by
  refine op_slm hG hop hx (k := k) (l := l) hl (k' := .i64) (h := xs.length) (by simp) ht htd hte hsz hdd hd ⟨hb.1, hb.2, Int.le_refl _⟩ ?_
  simpa using kk
theorem op_slm_hi (hG : Fits P G) {K : Env → St → Prop} {o : Oper} {t : TypeId} {x hi : Operand} {k : IntKind} {h : Int} {sz e : Nat} {own : Own} {f : α → T} {xs : List α} {ti te : TI}
    (hop : o.op = .slice t x none (some hi) none) (hx : evalO a x = some (.sl sz own (xs.map f))) (hh : evalO a hi = some (.int k h))
    (ht : G t = some ti) (htd : ti.d = .slice e) (hte : G e = some te) (hsz : Nat.beq sz te.size = true) {d : Tmp} (hdd : o.dst = some d) (hd : fitsD N (some d) = true)
    (hb : 0 ≤ h ∧ h ≤ xs.length) (kk : K (put a (some d) (.sl sz .no ((xs.take h.toNat).map f))) σ) : AOp P N o a σ K := by
  refine op_slm hG hop hx (k := .i64) (l := 0) rfl (k' := k) (h := h) hh ht htd hte hsz hdd hd ⟨Int.le_refl _, hb.1, hb.2⟩ ?_
  simpa using kk
theorem op_bbs (hG : Fits P G) {K : Env → St → Prop} {o : Oper} {x : Bool} (hcc : cmpOp o.op = true) (he : evalOp G (fun _ => none) (evalO a) o.op = some (.bool (x == x))) {d : Tmp} (hdd : o.dst = some d) (hd : fitsD N (some d) = true)
    (k : K (put a (some d) (.bool true)) σ) : AOp P N o a σ K := op_q' hG (.bool true) he (by simp) hdd hd k

def big8 : IntKind → Bool
  | .u16 | .u32 | .u64 | .i16 | .i32 | .i64 | .u8 => true
  | _ => false
def big16 : IntKind → Bool
  | .u16 | .u32 | .u64 | .i32 | .i64 => true
  | _ => false
theorem wrap8 {k : IntKind} (h : big8 k = true) (x : UInt8) : k.wrap (x.toNat : Int) = x.toNat := by
  have := x.toNat_lt
  cases k <;> first | (cases h; done) | (simp [IntKind.wrap, IntKind.bits, IntKind.signed]; omega)
theorem wrap16 {k : IntKind} (h : big16 k = true) (x : UInt16) : k.wrap (x.toNat : Int) = x.toNat := by
  have := x.toNat_lt
  cases k <;> first | (cases h; done) | (simp [IntKind.wrap, IntKind.bits, IntKind.signed]; omega)
theorem op_c8 (hG : Fits P G) {K : Env → St → Prop} {o : Oper} {k : IntKind} {x : UInt8} (hcc : arithOp o.op = true) (he : evalOp G (fun _ => none) (evalO a) o.op = some (.int k (k.wrap (x.toNat : Int)))) (hk : big8 k = true) {d : Tmp} (hdd : o.dst = some d) (hd : fitsD N (some d) = true)
    (kk : K (put a (some d) (.int k x.toNat)) σ) : AOp P N o a σ K := op_q' hG _ he (by rw [wrap8 hk]) hdd hd kk
theorem op_c16 (hG : Fits P G) {K : Env → St → Prop} {o : Oper} {k : IntKind} {x : UInt16} (hcc : arithOp o.op = true) (he : evalOp G (fun _ => none) (evalO a) o.op = some (.int k (k.wrap (x.toNat : Int)))) (hk : big16 k = true) {d : Tmp} (hdd : o.dst = some d) (hd : fitsD N (some d) = true)
    (kk : K (put a (some d) (.int k x.toNat)) σ) : AOp P N o a σ K := op_q' hG _ he (by rw [wrap16 hk]) hdd hd kk
theorem op_c64 (hG : Fits P G) {K : Env → St → Prop} {o : Oper} {x : UInt64} (hcc : arithOp o.op = true) (he : evalOp G (fun _ => none) (evalO a) o.op = some (.int .u64 (IntKind.u64.wrap (x.toNat : Int)))) {d : Tmp} (hdd : o.dst = some d) (hd : fitsD N (some d) = true)
    (kk : K (put a (some d) (.int .u64 x.toNat)) σ) : AOp P N o a σ K := op_q' hG _ he (by rw [u64_in (by omega) (by have := x.toNat_lt; omega)]) hdd hd kk

theorem op_str (hG : Fits P G) {K : Env → St → Prop} {o : Oper} {src dst : TypeId} {x : Operand} {t : T} {s : List UInt8} {e : Nat} {ts td te : TI}
    (hop : o.op = .convert src dst x) (hx : evalO a x = some t) (hs : G src = some ts) (hsd : ts.d = .slice e) (hd1 : G dst = some td) (hdd1 : td.d = .str) (he : G e = some te) (hed : te.d = .int .u8) {d : Tmp} (hdd : o.dst = some d) (hd : fitsD N (some d) = true)
    (hb : bytesT t = some s) (kk : K (put a (some d) (.str s)) σ) : AOp P N o a σ K := by
  refine op_q hG ?_ hdd hd kk
  obtain ⟨d1, s1, s2, s3⟩ := ts
  obtain ⟨d2, t1, t2, t3⟩ := td
  obtain ⟨d3, u1, u2, u3⟩ := te
  simp only at hsd hdd1 hed; subst hsd; subst hdd1; subst hed
  unfold bytesT at hb
  split at hb
  · injection hb with hb; subst hb
    simp only [hop, evalOp, hx, hs, hd1, he]
  · simp only [hop, evalOp, hx, hs, hd1, he, hb, Option.map_some]
  · cases hb

/-- append onto a slice of one's own, or onto none: told by data. -/
theorem op_appm (n : Nat) {f : α → T} {sz : Nat} [Enc f sz] (hG : Fits P G) {K : Env → St → Prop} {o : Oper} {x y : Operand} {t1 t2 : TypeId} {e : Nat} {i1 i2 ie : TI} {k0 : Nat} {xs ys : List α} {zs : List T} {ty : T}
    (hop : o.op = .call { callee := .builtin .append, args := #[x, y], argTypes := #[t1, t2] }) (hx : evalO a x = some (.sl sz (.tok k0) (xs.map f))) (hRn : σ.R[n]? = some k0) (hnx : σ.nx = none) (h1 : G t1 = some i1) (h1d : i1.d = .slice e) (he : G e = some ie) (h2 : G t2 = some i2) (h2d : ∃ e2, i2.d = .slice e2)
    (hy : evalO a y = some ty) (hsrc : srcOf (fun _ => none) sz ty = some zs) (hsz : (Nat.beq sz ie.size && Nat.blt 0 sz && Nat.ble ie.bytes 4096) = true) {d : Tmp} (hdd : o.dst = some d) (hd : fitsD N (some d) = true)
    (hz : zs = ys.map f) (hlen : xs.length + ys.length ≤ 4294967296)
    (k : ∀ k', K (put a (some d) (.sl sz (.tok k') ((xs ++ ys).map f))) (σ.tk n k')) : AOp P N o a σ K := by
  subst hz
  refine op_append n hG hop hx hRn hnx h1 h1d he h2 h2d hy hsrc hsz hdd hd (enc_scal f ys) (by simpa using hlen) fun k' => ?_
  rw [← List.map_append]; exact k k'
theorem op_app0m {f : α → T} {sz : Nat} [Enc f sz] (hG : Fits P G) {K : Env → St → Prop} {o : Oper} {x y : Operand} {t1 t2 : TypeId} {e : Nat} {i1 i2 ie : TI} {xs ys : List α} {us zs : List T} {tx ty : T}
    (hop : o.op = .call { callee := .builtin .append, args := #[x, y], argTypes := #[t1, t2] }) (hx : evalO a x = some tx) (hnr : noRoom tx = some us) (hnx : σ.nx = none) (h1 : G t1 = some i1) (h1d : i1.d = .slice e) (he : G e = some ie) (h2 : G t2 = some i2) (h2d : ∃ e2, i2.d = .slice e2)
    (hnz : noRoomSz sz tx = true) (hy : evalO a y = some ty) (hsrc : srcOf (fun _ => none) sz ty = some zs) (hsz : (Nat.beq sz ie.size && Nat.blt 0 sz && Nat.ble ie.bytes 4096) = true) {d : Tmp} (hdd : o.dst = some d) (hd : fitsD N (some d) = true)
    (hu : us = xs.map f) (hz : zs = ys.map f) (hlen : xs.length + ys.length ≤ 4294967296)
    (k : ∀ k', K (put a (some d) (.sl sz (.tok k') ((xs ++ ys).map f))) { σ with R := k' :: σ.R }) : AOp P N o a σ K := by
  subst hz; subst hu
  simp only [Bool.and_eq_true] at hsz
  obtain rfl : sz = ie.size := Nat.eq_of_beq_eq_true hsz.1.1
  refine op_append0 (sz := 0) hG hop hx hnr hnx h1 h1d he h2 h2d hnz hy hsrc (by simp [hsz.1.2, hsz.2]) hdd hd (enc_scal f ys) (by simpa using hlen) fun k' => ?_
  rw [← List.map_append]; exact k k'
end
end Go.Ts
