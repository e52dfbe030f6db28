/- Trees, continued: more steps in the form in which a walk applies them; arguments of rows as lists of bytes. -/
import Derived.Test.YtjcfhhepnjmchaaTrI
import Derived.Test.YtjcfhhepnjmchaaTrH
namespace Go.Tr
set_option linter.unusedSimpArgs false
set_option linter.unusedVariables false
section
variable {P : Program} {G : Nat → Option TI} {N : Nat} {σ : St} {a : Env} {Q : Exit → Env → St → Prop}
theorem op_trem (hG : Fits P G) {K : Env → St → Prop} {o : Oper} {t yt : TypeId} {x y : Operand} {k : IntKind} {n m : Int} {ti : TI}
    (hop : o.op = .binOp .rem t x y yt) (ht : G t = some ti) (hx : evalO a x = some (.int k n)) (hy : evalO a y = some (.int k m)) {d : Option Tmp} (hdd : o.dst = d) (hd : fitsD N d = true)
    (h0 : 0 < m) (kk : K (put a d (.int k (n.tmod m))) σ) : AOp P N o a σ K := by
  subst hdd
  refine op_q hG ?_ rfl hd kk
  have h1 : (m == 0) = false := by simp; omega
  simp only [hop, evalOp, hx, hy, ht, evalBin, isShift, cond_false, decide_true, cond_true, evalInt, h1]
theorem op_shl (hG : Fits P G) {K : Env → St → Prop} {o : Oper} {t yt : TypeId} {x y : Operand} {k k' : IntKind} {n m : Int} {ti : TI}
    (hop : o.op = .binOp .shl t x y yt) (ht : G t = some ti) (hx : evalO a x = some (.int k n)) (hy : evalO a y = some (.int k' m)) {d : Option Tmp} (hdd : o.dst = d) (hd : fitsD N d = true)
    (h0 : 0 ≤ m) (kk : K (put a d (.int k (k.wrap (n * 2 ^ (min m.toNat k.bits))))) σ) : AOp P N o a σ K := by
  subst hdd
  refine op_q hG ?_ rfl hd kk
  have : ¬ m < 0 := by omega
  simp only [hop, evalOp, hx, hy, ht, evalBin, isShift, cond_true, evalShift, this, decide_false, cond_false]
theorem retA_true {rs : List ResultVar} (h : resT G a σ rs = some (.bool true)) : retA G rs (fun r _ => r = .bool true) .ret a σ :=
  aw_ret' (T.bool true) h (Wk.refl _) rfl
theorem wf_u8 {n : Int} (h : (Lit.int .u8 n).wf = true) : 0 ≤ n ∧ n < 256 := by
  simp only [Lit.wf, IntKind.min, IntKind.max, IntKind.bits, IntKind.signed, Bool.and_eq_true] at h; simp at h; omega
theorem wf_u16 {n : Int} (h : (Lit.int .u16 n).wf = true) : 0 ≤ n ∧ n < 65536 := by
  simp only [Lit.wf, IntKind.min, IntKind.max, IntKind.bits, IntKind.signed, Bool.and_eq_true] at h; simp at h; omega
theorem wf_u64 {n : Int} (h : (Lit.int .u64 n).wf = true) : 0 ≤ n ∧ n < 18446744073709551616 := by
  simp only [Lit.wf, IntKind.min, IntKind.max, IntKind.bits, IntKind.signed, Bool.and_eq_true] at h; simp at h; omega
theorem wf_i64 {n : Int} (h : (Lit.int .i64 n).wf = true) : -9223372036854775808 ≤ n ∧ n ≤ 9223372036854775807 := by
  simp only [Lit.wf, IntKind.min, IntKind.max, IntKind.bits, IntKind.signed, Bool.and_eq_true] at h; simp at h; omega
/-- An argument that is a slice: its elements' trees. -/
theorem argTy_slice {n t e : Nat} {x : T} {ti : TI} (h : ArgTy G (n + 1) t x) (ht : G t = some ti) (htd : ti.d = .slice e) :
    ∃ xs, x = .sl ((sizeT G e).getD 0) none xs ∧ xs.length ≤ bigLen ∧ ∀ y ∈ xs, Ty G n e y.cells ∧ AggOK G e y := by
  have h1 := h.1
  simp only [Ty, ht, htd] at h1
  obtain ⟨xs, h2, h3, h4⟩ := h1
  refine ⟨xs, ?_, h3, h4⟩
  have h5 := (h.2 _ ht).2 (by rw [htd]; rfl)
  rw [h5] at h2; injection h2
theorem bytes_of_ty {n e : Nat} {ie : TI} (he : G e = some ie) (hed : ie.d = .int .u8) : ∀ (xs : List T), (∀ y ∈ xs, Ty G (n + 1) e y.cells ∧ AggOK G e y) → ∃ b : List UInt8, xs = b.map bT
  | [], _ => ⟨[], rfl⟩
  | x :: xs, h => by
    obtain ⟨b, hb⟩ := bytes_of_ty he hed xs (fun y hy => h y (List.mem_cons_of_mem _ hy))
    obtain ⟨h1, h2⟩ := h x List.mem_cons_self
    simp only [Ty, he, hed] at h1
    obtain ⟨v, hv, hw⟩ := h1
    obtain ⟨l, u⟩ := wf_u8 hw
    refine ⟨UInt8.ofNat v.toNat :: b, ?_⟩
    have : x = .int .u8 v := by
      have h5 := (h2 _ he).2 (by rw [hed]; rfl)
      rw [h5] at hv; injection hv
    subst this
    rw [hb, List.map_cons]
    congr 1
    unfold bT
    have : (UInt8.ofNat v.toNat).toNat = v.toNat := by simp [UInt8.toNat_ofNat]; omega
    rw [this]; congr 1; omega
theorem argTy_bytes {n t e : Nat} {x : T} {ti ie : TI} (h : ArgTy G (n + 2) t x) (ht : G t = some ti) (htd : ti.d = .slice e) (he : G e = some ie) (hed : ie.d = .int .u8) (hs : ie.size = 1) :
    ∃ b : List UInt8, x = .sl 1 none (b.map bT) ∧ b.length ≤ bigLen := by
  obtain ⟨xs, h1, h2, h3⟩ := argTy_slice h ht htd
  obtain ⟨b, rfl⟩ := bytes_of_ty he hed xs h3
  refine ⟨b, ?_, by simpa using h2⟩
  rw [h1]; simp [sizeT, he, hs]
end
end Go.Tr
