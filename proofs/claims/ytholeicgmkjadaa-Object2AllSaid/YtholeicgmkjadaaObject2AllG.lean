/- Part of the proof of the law Object2All: the texts TsXJ, TsJ, O4, O5. No conditions. -/
import Derived.Test.YtholeicgmkjadaaObject2AllF
import Derived.KernelRfl
set_option linter.unusedSimpArgs false
set_option linter.unusedVariables false
set_option linter.unusedVariables false
set_option linter.unusedSimpArgs false
namespace Go.Ts
section
variable {P : Program} {M : Mach}
theorem HCov.none {σ : St} {h : HS} (c : HCov σ h) : HCov σ ⟨.leaf, .leaf, h.nx⟩ :=
  ⟨fun i n zn z ov hi => by simp [Tr.get] at hi, fun i es hi => by simp [Tr.get] at hi, fun k u hk => by simp [Tr.get] at hk, c.nx⟩
/-- A function without arguments that has been run: a contract for walks (names are not told there). -/
theorem cold_pure {f nx : Nat} (hc : ∀ σ, HCov σ hs0 → ACalls P f [] σ (fun u σ' => u = .bool true ∧ HCov σ' ⟨.leaf, .leaf, nx⟩)) : Pure P f [] (.bool true) := by
  intro off
  have hcov : HCov ⟨[], [], off, some 0⟩ hs0 := ⟨fun i n zn z ov h => by simp [hs0, Tr.get] at h, fun i es h => by simp [hs0, Tr.get] at h, fun k u h => by simp [hs0, Tr.get] at h, rfl⟩
  obtain ⟨h1, h2⟩ := hc _ hcov
  refine ⟨h1, fun vs w μ hi hn hr => ?_⟩
  have hi' : Inv w ⟨fun _ => none, fun _ => none⟩ ⟨[], [], off, some 0⟩ := by
    refine ⟨fun i ts h => by simp at h, fun i es h => by simp at h, fun n m i j x y b p q h => by simp at h, fun k h => by simp at h, fun n m k l b f t g u h => by simp at h, ⟨0, fun i _ => ⟨rfl, rfl⟩, fun m hm => by injection hm with hm; exact hm.symm⟩, fun b o h => hi.offlt b o h, fun i ob b p h => by simp at h⟩
  refine (h2 vs w _ hi' hn (fun j t v h => by simp at h)).mono ?_
  rintro e w' ⟨v, t, σ', μ', rfl, ev, hi2, rv, rfl, _⟩
  have noL : ∀ b, ¬ Live μ ⟨[], [], off, none⟩ b := by
    rintro b (⟨i, ob, p, h, _⟩ | ⟨k, f, t, h, _⟩) <;> simp at h
  have noL' : ∀ b, ¬ Live ⟨fun _ => none, fun _ => none⟩ ⟨[], [], off, some 0⟩ b := by
    rintro b (⟨i, ob, p, h, _⟩ | ⟨k, f, t, h, _⟩) <;> simp at h
  refine ⟨v, _, ⟨[], [], off, none⟩, μ, rfl, ⟨ev.below, fun _ _ h => h, fun _ _ h => h, rfl, ev.shape, fun b hb hl => ⟨noL b, (ev.live b hb (noL' b)).2⟩, fun b o him => ?_⟩, ?_, ?_, rfl, rfl⟩
  · obtain ⟨k1, k2⟩ := ev.imm b o ⟨him.lt, him.off, fun i ob p h => by simp at h, fun k f t h => by simp at h⟩
    exact ⟨⟨k1.lt, him.off, fun i ob p h => by simp at h, fun k f t h => by simp at h⟩, k2⟩
  · obtain ⟨n, hn1, _⟩ := hi.fin
    exact ⟨fun i ts h => by simp at h, fun i es h => by simp at h, fun n m i j x y b p q h => by simp at h, fun k h => by simp at h, fun n m k l b f t g u h => by simp at h, ⟨n, hn1, fun m hm => by simp at hm⟩, fun b o h => Nat.lt_of_lt_of_le (hi.offlt b o h) ev.below.size, fun i ob b p h => by simp at h⟩
  · cases rv; exact .bool _
/-- The same, for what the machine runs in one go. -/
theorem run_pure (hM : MachOK P M) {n f nx : Nat} (h : (match callX M n f [] hs0 with | some (.bool true, h') => Nat.beq h'.nx nx | _ => false) = true) : Pure P f [] (.bool true) := by
  refine cold_pure (nx := nx) fun σ c => ?_
  revert h
  cases hx : callX M n f [] hs0 with
  | none => intro h; cases h
  | some q =>
    obtain ⟨t, h'⟩ := q
    cases t with
    | bool b => cases b with
      | true =>
        intro h
        refine (callX_ok hM n f [] hs0 _ h' hx σ c).mono ?_
        rintro u σ' ⟨rfl, k⟩
        have := k.none
        rw [Nat.eq_of_beq_eq_true h] at this
        exact ⟨rfl, this⟩
      | false => intro h; cases h
    | _ => intro h; cases h
theorem run_pure0 (hM : MachOK P M) {n f : Nat} (h : (match callX M n f [] hs0 with | some (.bool true, _) => true | _ => false) = true) : Pure P f [] (.bool true) := by
  revert h
  cases hx : callX M n f [] hs0 with
  | none => intro h; cases h
  | some q =>
    obtain ⟨t, h'⟩ := q
    cases t with
    | bool b => cases b with
      | true =>
        intro _
        refine cold_pure (nx := h'.nx) fun σ c => (callX_ok hM n f [] hs0 _ h' hx σ c).mono ?_
        rintro u σ' ⟨rfl, k⟩
        exact ⟨rfl, k.none⟩
      | false => intro h; cases h
    | _ => intro h; cases h
end
end Go.Ts
namespace Go.Ts
set_option linter.unusedSimpArgs false
set_option linter.unusedVariables false
section
variable {G : Nat → Option TI}
theorem wf_u8 {n : Int} (h : (Lit.int .u8 n).wf = true) : 0 ≤ n ∧ n < 256 := by
  simp only [Lit.wf, IntKind.min, IntKind.max, IntKind.bits, IntKind.signed, Bool.and_eq_true] at h; simp at h; omega
theorem wf_u16 {n : Int} (h : (Lit.int .u16 n).wf = true) : 0 ≤ n ∧ n < 65536 := by
  simp only [Lit.wf, IntKind.min, IntKind.max, IntKind.bits, IntKind.signed, Bool.and_eq_true] at h; simp at h; omega
theorem wf_u64 {n : Int} (h : (Lit.int .u64 n).wf = true) : 0 ≤ n ∧ n < 18446744073709551616 := by
  simp only [Lit.wf, IntKind.min, IntKind.max, IntKind.bits, IntKind.signed, Bool.and_eq_true] at h; simp at h; omega
theorem argTy_cells {n t : Nat} {x : T} {ti : TI} (h : ArgTy G n t x) (ht : G t = some ti) (hd : ti.d.agg = false) : Ty G n t [x] := by
  have h1 := h.1
  rwa [(h.2 _ ht).2 hd] at h1
theorem ty_slice {n t e : Nat} {cs : List T} {ti : TI} (h : Ty G (n + 1) t cs) (ht : G t = some ti) (htd : ti.d = .slice e) :
    ∃ xs, cs = [.sl ((sizeT G e).getD 0) .no xs] ∧ xs.length ≤ bigLen ∧ ∀ y ∈ xs, Ty G n e y.cells ∧ AggOK G e y := by
  simpa only [Ty, ht, htd] using h
theorem bytes_of_ty {n e : Nat} {ie : TI} (he : G e = some ie) (hed : ie.d = .int .u8) : ∀ (xs : List T), (∀ y ∈ xs, Ty G (n + 1) e y.cells ∧ AggOK G e y) → ∃ b : List UInt8, xs = b.map bT
  | [], _ => ⟨[], rfl⟩
  | x :: xs, h => by
    obtain ⟨b, hb⟩ := bytes_of_ty he hed xs (fun y hy => h y (List.mem_cons_of_mem _ hy))
    obtain ⟨h1, h2⟩ := h x List.mem_cons_self
    simp only [Ty, he, hed] at h1
    obtain ⟨v, hv, hw⟩ := h1
    obtain ⟨l, u⟩ := wf_u8 hw
    refine ⟨UInt8.ofNat v.toNat :: b, ?_⟩
    have : x = .int .u8 v := by
      have h5 := (h2 _ he).2 (by rw [hed]; rfl)
      rw [h5] at hv; injection hv
    subst this
    rw [hb, List.map_cons]
    congr 1
    unfold bT
    have : (UInt8.ofNat v.toNat).toNat = v.toNat := by simp [UInt8.toNat_ofNat]; omega
    rw [this]; congr 1; omega
theorem cats_of_ty {n e : Nat} {ie : TI} (he : G e = some ie) (hed : ie.d = .int .u16) : ∀ (xs : List T), (∀ y ∈ xs, Ty G (n + 1) e y.cells ∧ AggOK G e y) → ∃ b : List UInt16, xs = b.map hT
  | [], _ => ⟨[], rfl⟩
  | x :: xs, h => by
    obtain ⟨b, hb⟩ := cats_of_ty he hed xs (fun y hy => h y (List.mem_cons_of_mem _ hy))
    obtain ⟨h1, h2⟩ := h x List.mem_cons_self
    simp only [Ty, he, hed] at h1
    obtain ⟨v, hv, hw⟩ := h1
    obtain ⟨l, u⟩ := wf_u16 hw
    refine ⟨UInt16.ofNat v.toNat :: b, ?_⟩
    have : x = .int .u16 v := by
      have h5 := (h2 _ he).2 (by rw [hed]; rfl)
      rw [h5] at hv; injection hv
    subst this
    rw [hb, List.map_cons]
    congr 1
    unfold hT
    have : (UInt16.ofNat v.toNat).toNat = v.toNat := by simp [UInt16.toNat_ofNat']; omega
    rw [this]; congr 1; omega
theorem ty_bytes {n t e : Nat} {cs : List T} {ti ie : TI} (h : Ty G (n + 2) t cs) (ht : G t = some ti) (htd : ti.d = .slice e) (he : G e = some ie) (hed : ie.d = .int .u8) (hs : ie.size = 1) : ∃ b : List UInt8, cs = [sT b] ∧ b.length ≤ bigLen := by
  obtain ⟨xs, h1, h2, h3⟩ := ty_slice h ht htd
  obtain ⟨b, rfl⟩ := bytes_of_ty he hed xs h3
  exact ⟨b, by rw [h1]; simp [sizeT, he, hs, sT], by simpa using h2⟩
theorem ty_cats {n t e : Nat} {cs : List T} {ti ie : TI} (h : Ty G (n + 2) t cs) (ht : G t = some ti) (htd : ti.d = .slice e) (he : G e = some ie) (hed : ie.d = .int .u16) (hs : ie.size = 1) : ∃ b : List UInt16, cs = [cT b] ∧ b.length ≤ bigLen := by
  obtain ⟨xs, h1, h2, h3⟩ := ty_slice h ht htd
  obtain ⟨b, rfl⟩ := cats_of_ty he hed xs h3
  exact ⟨b, by rw [h1]; simp [sizeT, he, hs, cT], by simpa using h2⟩
theorem argTy_bytes {n t e : Nat} {x : T} {ti ie : TI} (h : ArgTy G (n + 2) t x) (ht : G t = some ti) (htd : ti.d = .slice e) (he : G e = some ie) (hed : ie.d = .int .u8) (hs : ie.size = 1) : ∃ b : List UInt8, x = sT b ∧ b.length ≤ bigLen := by
  obtain ⟨b, h1, h2⟩ := ty_bytes (argTy_cells h ht (by rw [htd]; rfl)) ht htd he hed hs
  injection h1 with h1
  exact ⟨b, h1, h2⟩
theorem argTy_struct {n t : Nat} {x : T} {ti : TI} {fs : List (Nat × Nat)} (h : ArgTy G (n + 1) t x) (ht : G t = some ti) (htd : ti.d = .struct fs) : ∃ cs, x = .agg cs ∧ TyFs (Ty G n) fs cs := by
  obtain ⟨c, rfl⟩ := (h.2 _ ht).1 (by rw [htd]; rfl)
  refine ⟨c, rfl, ?_⟩
  have h1 := h.1
  simpa only [Ty, ht, htd, T.cells] using h1
theorem letters_of_ty {n e u : Nat} {ie iu : TI} (he : G e = some ie) (hed : ie.d = .slice u) (hu : G u = some iu) (hud : iu.d = .int .u8) (hs : iu.size = 1) : ∀ (xs : List T), (∀ y ∈ xs, Ty G (n + 2) e y.cells ∧ AggOK G e y) → ∃ l : List (List UInt8), xs = l.map sT ∧ ∀ b ∈ l, b.length ≤ bigLen
  | [], _ => ⟨[], rfl, fun b h => absurd h List.not_mem_nil⟩
  | x :: xs, h => by
    obtain ⟨l, hl, hb⟩ := letters_of_ty he hed hu hud hs xs (fun y hy => h y (List.mem_cons_of_mem _ hy))
    obtain ⟨b, rfl, hbl⟩ := argTy_bytes (h x List.mem_cons_self) he hed hu hud hs
    refine ⟨b :: l, by rw [hl]; rfl, fun c hc => ?_⟩
    rcases List.mem_cons.1 hc with rfl | hc
    · exact hbl
    · exact hb c hc
theorem ty_letters {n t e u : Nat} {cs : List T} {ti ie iu : TI} (h : Ty G (n + 3) t cs) (ht : G t = some ti) (htd : ti.d = .slice e) (he : G e = some ie) (hed : ie.d = .slice u) (hes : ie.size = 1) (hu : G u = some iu) (hud : iu.d = .int .u8) (hs : iu.size = 1) :
    ∃ l : List (List UInt8), cs = [.sl 1 .no (l.map sT)] ∧ l.length ≤ bigLen ∧ ∀ b ∈ l, b.length ≤ bigLen := by
  obtain ⟨xs, h1, h2, h3⟩ := ty_slice h ht htd
  obtain ⟨l, rfl, hb⟩ := letters_of_ty he hed hu hud hs xs h3
  exact ⟨l, by rw [h1]; simp [sizeT, he, hes], by simpa using h2, hb⟩
end
end Go.Ts
namespace Go.Proofs.Ytholeicgmkjadaa
open Go.Ts Go.Sets
set_option linter.unusedSimpArgs false
set_option linter.unusedVariables false
attribute [local irreducible] Go.Ts.AW Go.Ts.AOps Go.Ts.AL Go.Ts.AOp Go.Ts.ACalls Go.Ts.DL Go.Ts.DQ Go.Ts.EL
def zT (x : Int) : T := .int .i64 x
instance : Enc zT 1 := ⟨fun x c h => by simp [zT, T.cells] at h; subst h; rfl, fun x => rfl⟩
structure PbX where
  i : Nat
  hi : i ≤ 3
  p : Nat
def put3 (l : List Int) (b : List UInt8) : List UInt8 := l.foldl (fun b v => b ++ putI v 2) b
theorem put3_len (l : List Int) : ∀ b, (put3 l b).length ≤ b.length + 8 * l.length := by
  induction l with
  | nil => intro b; simp [put3]
  | cons v l ih => intro b; have := ih (b ++ putI v 2); have := putI_le v 2; simp only [put3, List.foldl_cons, List.length_append, List.length_cons] at *; omega
theorem obj2_Put {o : OB} (h : o.Fits) : Ts.Pure Try.prog 15 [o.t] (putO2T o) := by
  have hM := obj2_may h
  unfold putO2T
  cases hm : mayO2 o <;> rw [hm] at hM
  · intro off
    unfold OB.t at hM ⊢
    refine acalls_mk (N := 58) (rs := [.tmp 2, .tmp 3]) hG Try.func15 rfl rfl rfl rfl rfl ?_
    repeat' (first
    | ((first | (show AL _ _ _ _ _ _ _ _; refine al_cons rfl ?_) | (show DL _ _ _ _ _ _ _; refine' dl_cons rfl rfl (fun K kk => ?_) ?_; try (show Go.Ts.T; rotate_left))); (first
      | (show AOp _ _ ⟨_, .move _, _, _, _, _⟩ _ _ _; refine r_move hG rfl rfl ?_)
      | (show AOp _ _ ⟨_, .assign _, _, _, _, _⟩ _ _ _; refine r_asg hG rfl rfl ?_)
      | (show AOp _ _ ⟨_, .call ⟨.builtin .len, _, _⟩, _, _, _, _⟩ _ _ _; first | refine r_lenm hG rfl rfl rfl rfl ?_ | refine r_len hG rfl rfl rfl rfl rfl ?_)
      | (show AOp _ _ ⟨_, .binOp .add _ _ _ _, _, _, _, _⟩ _ _ _; first | refine r_ari64 hG rfl rfl rfl rfl rfl (by omega) ?_ | refine r_aru64 hG rfl rfl rfl rfl rfl (by omega) ?_ | refine r_aru8 hG rfl rfl rfl rfl rfl (by omega) ?_ | refine r_aru16 hG rfl rfl rfl rfl rfl (by omega) ?_)
      | (show AOp _ _ ⟨_, .binOp _ _ _ _ _, _, _, _, _⟩ _ _ _; first | refine r_cmpT hG rfl rfl rfl rfl rfl (by omega) ?_ | refine r_cmpF hG rfl rfl rfl rfl rfl (by omega) ?_ | refine r_strT hG rfl rfl rfl rfl (by first | rfl | assumption) ?_ | refine r_strnF hG rfl rfl rfl rfl (by first | rfl | assumption) ?_ | refine r_strF hG rfl rfl rfl rfl (by assumption) ?_ | refine r_strnT hG rfl rfl rfl rfl (by assumption) ?_ | ((fail_if_success have := kk); refine r_cmp hG rfl rfl rfl rfl rfl (fun h => ?_) (fun h => ?_)) | ((fail_if_success have := kk); first | refine r_str hG rfl rfl rfl rfl (fun h => ?_) (fun h => ?_) | refine r_strn hG rfl rfl rfl rfl (fun h => ?_) (fun h => ?_)) | refine r_beq hG rfl rfl rfl rfl rfl ?_ | refine r_bin' hG rfl rfl rfl ?_)
      | (show AOp _ _ ⟨_, .load _ _, _, _, _, _⟩ _ _ _; first | refine r_ldro hG rfl rfl rfl ?_ | refine r_ld 0 hG rfl rfl rfl rfl ?_ | refine r_ld 1 hG rfl rfl rfl rfl ?_ | refine r_ld 2 hG rfl rfl rfl rfl ?_ | refine r_ld 3 hG rfl rfl rfl rfl ?_)
      | (show AOp _ _ ⟨_, .indexAddr _ _ _, _, _, _, _⟩ _ _ _; first | refine r_idx0 hG rfl rfl rfl rfl rfl rfl rfl ?_ | refine r_idxn hG rfl rfl rfl rfl rfl rfl rfl (by omega) ?_ | refine r_idxm hG rfl rfl rfl rfl rfl rfl rfl (by omega) ?_ | refine r_idx hG rfl rfl ?_)
      | (show AOp _ _ ⟨_, .convert _ _ _, _, _, _, _⟩ _ _ _; first | refine r_tostr hG rfl rfl rfl rfl rfl rfl rfl rfl (by first | exact bytesT_map _ _ | exact bytesT_s _ | rfl) ?_ | refine r_cv8 hG rfl rfl rfl rfl rfl rfl ?_ | refine r_cv16 hG rfl rfl rfl rfl rfl rfl ?_ | refine r_cv_i64 hG rfl rfl rfl rfl rfl (by omega) ?_ | refine r_cv_u64 hG rfl rfl rfl rfl rfl (by omega) ?_ | refine r_cv_u8 hG rfl rfl rfl rfl rfl (by omega) ?_ | refine r_cv_u16 hG rfl rfl rfl rfl rfl (by omega) ?_ | refine r_cvw hG rfl rfl rfl rfl rfl ?_)
      | (show AOp _ _ ⟨_, .unOp _ _ _, _, _, _, _⟩ _ _ _; refine r_not hG rfl rfl rfl ?_)
      | (show AOp _ _ ⟨_, .buildSlice _ _ _, _, _, _, _⟩ _ _ _; first | refine r_mk (sz := 1) hG rfl rfl rfl rfl rfl rfl rfl ?_ | refine r_mk (sz := 2) hG rfl rfl rfl rfl rfl rfl rfl ?_)
      | (show AOp _ _ ⟨_, .box _ _, _, _, _, _⟩ _ _ _; refine r_box hG rfl rfl rfl (fun i => ?_))
      | (show AOp _ _ ⟨_, .call ⟨.value _, _, _⟩, _, _, _, _⟩ _ _ _; first | refine r_pure rfl rfl rfl rfl rfl (by apply hM <;> (first | assumption | omega | exact bytesT_map _ _ | exact bytesT_s _ | exact catsT_map _ _ | exact catsT_c _ | rfl | (simp; omega))) ?_ | fail)
      | refine r_q hG rfl rfl rfl ?_); try exact kk)
    | (show AL _ _ _ _ _ _ _ _; first | refine al_s rfl rfl rfl ?_ | (refine al_nil ?_; first | show AW _ _ _ _ _ _ | show ∃ x', _ < _ ∧ _)) | (show AW _ _ (.seq _ _) _ _ _; refine aw_seq' ?_; intro Q1) | (show AW _ _ (.region _ _ false) _ _ _; refine aw_regL' ?_; intro O1) | (show AW _ _ (.cond _ _ _) _ _ _; first | refine aw_if_t rfl ?_ | refine aw_if_f rfl ?_) | (show AW _ _ (.skip) _ _ _; refine aw_skip ?_; first | show AW _ _ _ _ _ _ | show ∃ x', _ < _ ∧ _) | (show AW _ _ (.block _ _) _ _ _; refine aw_block' ?_; intro Q1) | (show AW _ _ (.exit _) _ _ _; refine aw_exit ?_; first | show AW _ _ _ _ _ _ | show ∃ x', _ < _ ∧ _) | (show AW _ _ (.ret) _ _ _; refine aw_ret ?_; try dsimp only [thenA, inBlockA, jumpA, noGotoA])
    | (show DL _ _ _ _ _ _ _; refine dl_d rfl rfl (fun K kt kf => r_cmp hG rfl rfl rfl rfl rfl kt kf) (fun h => ?_) (fun h => ?_)) | (show DL _ _ _ _ _ _ _; refine dl_d rfl rfl (fun K kt kf => r_str hG rfl rfl rfl rfl kt kf) (fun h => ?_) (fun h => ?_)) | (show DL _ _ _ _ _ _ _; refine dl_ne rfl rfl (fun K kt kf => r_strn hG rfl rfl rfl rfl kt kf) (fun h => ?_) (fun h => ?_))
    | (show DL _ _ _ _ _ _ _; refine dl_s rfl rfl rfl ?_) | (show DL _ _ _ _ _ _ _; refine dl_nil ?_; first | show AW _ _ _ _ _ _ | show ∃ x', _ < _ ∧ _) | (show AW _ _ (.region _ _ true) _ _ _; refine aw_draw' mix (by kernel_rfl) ?_; intro O1) | fail)
    exact ret_pure (res_tmp rfl (res_tmp rfl res_nil)) (.refl _) rfl
  · have hm' := hm
    unfold mayO2 at hm'
    simp only [Bool.and_eq_true] at hm'
    obtain ⟨⟨hn, hlab⟩, hk⟩ := hm'
    have hkr := kind_range hk
    have hhl := headB2_len hlab
    have hl2 := hlab
    unfold labB2 at hl2
    rw [Bool.and_eq_true] at hl2
    obtain ⟨pa, pb, pc⟩ := maySetsB_parts hl2.1
    have h1 := mayC_le pa
    have h2 := mayC_le pb
    have h3 := mayC_le pc
    have h6 : (putI (o.id : Int) 8).length ≤ 8 := putI_le _ _
    have hb : bytesT (.sl 1 .full [.int .u8 2, .int .u8 o.kind]) = some [2, UInt8.ofNat o.kind.toNat] := by
      have e : [T.int .u8 2, T.int .u8 o.kind] = [2, UInt8.ofNat o.kind.toNat].map bT := by rw [byte_of (n := o.kind) (by omega)]; simp [bT]
      rw [e]; exact bytesT_map _ _
    have hP1 := (num_Put (x := .sl 1 .full [.int .u8 2, .int .u8 o.kind]) (b := [2, UInt8.ofNat o.kind.toNat]) (v := (o.id : Int)) (n := 8) hb (by simp) (by omega)).pure
    have hP2 : Ts.Pure Try.prog 30 [.sl 1 .no (([2, UInt8.ofNat o.kind.toNat] ++ putI o.id 8).map bT), .agg [cT o.s, cT o.i, cT o.o]] (.sl 1 .no ((headB2 o).map bT)) := (scode_Put (t := .sl 1 .no (([2, UInt8.ofNat o.kind.toNat] ++ putI o.id 8).map bT)) (x := cT o.s) (y := cT o.i) (z := cT o.o) (bytesT_map _ _) (catsT_c _) (catsT_c _) (catsT_c _) (by simp; omega) (by omega) (by omega) (by omega)).pure
    have hk' := hk
    unfold kindOK at hk'
    intro off
    unfold bytes2 tailB
    unfold OB.t at hM ⊢
    refine acalls_mk (N := 58) (rs := [.tmp 2, .tmp 3]) hG Try.func15 rfl rfl rfl rfl rfl ?_
    generalize headB2 o = hB at *
    by_cases k1 : o.kind = 1
    · rw [if_pos k1] at hk' ⊢
      have hk2 := of_decide_eq_true hk'
      repeat' (first
    | ((first | (show AL _ _ _ _ _ _ _ _; refine al_cons rfl ?_) | (show DL _ _ _ _ _ _ _; refine' dl_cons rfl rfl (fun K kk => ?_) ?_; try (show Go.Ts.T; rotate_left))); (first
      | (show AOp _ _ ⟨_, .move _, _, _, _, _⟩ _ _ _; refine r_move hG rfl rfl ?_)
      | (show AOp _ _ ⟨_, .assign _, _, _, _, _⟩ _ _ _; refine r_asg hG rfl rfl ?_)
      | (show AOp _ _ ⟨_, .call ⟨.builtin .len, _, _⟩, _, _, _, _⟩ _ _ _; first | refine r_lenm hG rfl rfl rfl rfl ?_ | refine r_len hG rfl rfl rfl rfl rfl ?_)
      | (show AOp _ _ ⟨_, .binOp .add _ _ _ _, _, _, _, _⟩ _ _ _; first | refine r_ari64 hG rfl rfl rfl rfl rfl (by omega) ?_ | refine r_aru64 hG rfl rfl rfl rfl rfl (by omega) ?_ | refine r_aru8 hG rfl rfl rfl rfl rfl (by omega) ?_ | refine r_aru16 hG rfl rfl rfl rfl rfl (by omega) ?_)
      | (show AOp _ _ ⟨_, .binOp _ _ _ _ _, _, _, _, _⟩ _ _ _; first | refine r_cmpT hG rfl rfl rfl rfl rfl (by omega) ?_ | refine r_cmpF hG rfl rfl rfl rfl rfl (by omega) ?_ | refine r_strT hG rfl rfl rfl rfl (by first | rfl | assumption) ?_ | refine r_strnF hG rfl rfl rfl rfl (by first | rfl | assumption) ?_ | refine r_strF hG rfl rfl rfl rfl (by assumption) ?_ | refine r_strnT hG rfl rfl rfl rfl (by assumption) ?_ | ((fail_if_success have := kk); refine r_cmp hG rfl rfl rfl rfl rfl (fun h => ?_) (fun h => ?_)) | ((fail_if_success have := kk); first | refine r_str hG rfl rfl rfl rfl (fun h => ?_) (fun h => ?_) | refine r_strn hG rfl rfl rfl rfl (fun h => ?_) (fun h => ?_)) | refine r_beq hG rfl rfl rfl rfl rfl ?_ | refine r_bin' hG rfl rfl rfl ?_)
      | (show AOp _ _ ⟨_, .load _ _, _, _, _, _⟩ _ _ _; first | refine r_ldro hG rfl rfl rfl ?_ | refine r_ld 0 hG rfl rfl rfl rfl ?_ | refine r_ld 1 hG rfl rfl rfl rfl ?_ | refine r_ld 2 hG rfl rfl rfl rfl ?_ | refine r_ld 3 hG rfl rfl rfl rfl ?_)
      | (show AOp _ _ ⟨_, .indexAddr _ _ _, _, _, _, _⟩ _ _ _; first | refine r_idx0 hG rfl rfl rfl rfl rfl rfl rfl ?_ | refine r_idxn hG rfl rfl rfl rfl rfl rfl rfl (by omega) ?_ | refine r_idxm hG rfl rfl rfl rfl rfl rfl rfl (by omega) ?_ | refine r_idx hG rfl rfl ?_)
      | (show AOp _ _ ⟨_, .convert _ _ _, _, _, _, _⟩ _ _ _; first | refine r_tostr hG rfl rfl rfl rfl rfl rfl rfl rfl (by first | exact bytesT_map _ _ | exact bytesT_s _ | rfl) ?_ | refine r_cv8 hG rfl rfl rfl rfl rfl rfl ?_ | refine r_cv16 hG rfl rfl rfl rfl rfl rfl ?_ | refine r_cv_i64 hG rfl rfl rfl rfl rfl (by omega) ?_ | refine r_cv_u64 hG rfl rfl rfl rfl rfl (by omega) ?_ | refine r_cv_u8 hG rfl rfl rfl rfl rfl (by omega) ?_ | refine r_cv_u16 hG rfl rfl rfl rfl rfl (by omega) ?_ | refine r_cvw hG rfl rfl rfl rfl rfl ?_)
      | (show AOp _ _ ⟨_, .unOp _ _ _, _, _, _, _⟩ _ _ _; refine r_not hG rfl rfl rfl ?_)
      | (show AOp _ _ ⟨_, .buildSlice _ _ _, _, _, _, _⟩ _ _ _; first | refine r_mk (sz := 1) hG rfl rfl rfl rfl rfl rfl rfl ?_ | refine r_mk (sz := 2) hG rfl rfl rfl rfl rfl rfl rfl ?_)
      | (show AOp _ _ ⟨_, .box _ _, _, _, _, _⟩ _ _ _; refine r_box hG rfl rfl rfl (fun i => ?_))
      | (show AOp _ _ ⟨_, .call ⟨.value _, _, _⟩, _, _, _, _⟩ _ _ _; first | refine r_pure rfl rfl rfl rfl rfl (by apply hM <;> (first | assumption | omega | exact bytesT_map _ _ | exact bytesT_s _ | exact catsT_map _ _ | exact catsT_c _ | rfl | (simp; omega))) ?_ | refine r_pure rfl rfl rfl rfl rfl (by apply hP1 <;> (first | assumption | omega | exact bytesT_map _ _ | exact bytesT_s _ | exact catsT_map _ _ | exact catsT_c _ | rfl | (simp; omega))) ?_ | refine r_pure rfl rfl rfl rfl rfl (by apply hP2 <;> (first | assumption | omega | exact bytesT_map _ _ | exact bytesT_s _ | exact catsT_map _ _ | exact catsT_c _ | rfl | (simp; omega))) ?_ | fail)
      | refine r_q hG rfl rfl rfl ?_); try exact kk)
    | (show AL _ _ _ _ _ _ _ _; first | refine al_s rfl rfl rfl ?_ | (refine al_nil ?_; first | show AW _ _ _ _ _ _ | show ∃ x', _ < _ ∧ _)) | (show AW _ _ (.seq _ _) _ _ _; refine aw_seq' ?_; intro Q1) | (show AW _ _ (.region _ _ false) _ _ _; refine aw_regL' ?_; intro O1) | (show AW _ _ (.cond _ _ _) _ _ _; first | refine aw_if_t rfl ?_ | refine aw_if_f rfl ?_) | (show AW _ _ (.skip) _ _ _; refine aw_skip ?_; first | show AW _ _ _ _ _ _ | show ∃ x', _ < _ ∧ _) | (show AW _ _ (.block _ _) _ _ _; refine aw_block' ?_; intro Q1) | (show AW _ _ (.exit _) _ _ _; refine aw_exit ?_; first | show AW _ _ _ _ _ _ | show ∃ x', _ < _ ∧ _) | (show AW _ _ (.ret) _ _ _; refine aw_ret ?_; try dsimp only [thenA, inBlockA, jumpA, noGotoA])
    | (show DL _ _ _ _ _ _ _; refine dl_d rfl rfl (fun K kt kf => r_cmp hG rfl rfl rfl rfl rfl kt kf) (fun h => ?_) (fun h => ?_)) | (show DL _ _ _ _ _ _ _; refine dl_d rfl rfl (fun K kt kf => r_str hG rfl rfl rfl rfl kt kf) (fun h => ?_) (fun h => ?_)) | (show DL _ _ _ _ _ _ _; refine dl_ne rfl rfl (fun K kt kf => r_strn hG rfl rfl rfl rfl kt kf) (fun h => ?_) (fun h => ?_))
    | (show DL _ _ _ _ _ _ _; refine dl_s rfl rfl rfl ?_) | (show DL _ _ _ _ _ _ _; refine dl_nil ?_; first | show AW _ _ _ _ _ _ | show ∃ x', _ < _ ∧ _) | (show AW _ _ (.region _ _ true) _ _ _; refine aw_draw' mix (by kernel_rfl) ?_; intro O1) | fail)
      refine aw_loop (X := PbX) (fun x => [(4, sT (put3 ([o.q, o.u, o.x].take x.i) hB)), (34, .sl 1 .no ([o.q, o.u, o.x].map zT)), (35, .int .i64 3), (36, .int .i64 x.i)]) (fun x => ⟨[(x.p, .cells [.int .u64 o.id, .int .i64 o.kind, .int .u8 o.df, .sl 2 .no o.ps, cT o.s, cT o.i, cT o.o, .int .i64 o.q, .int .i64 o.u, .int .i64 o.x, sT o.d, cT o.c, lT o.r])], [], off, none⟩) (fun x => 3 - x.i) ⟨0, by omega, i⟩ ?_ (.refl _) ?_
      · exact .cons rfl (.consW rfl (Wk.own _ _ _) (.cons rfl (.consW rfl (.int rfl) (.nil _))))
      rintro ⟨j, hj, p⟩
      dsimp only
      have h3 : [o.q, o.u, o.x].length = 3 := rfl
      by_cases hj3 : j < 3
      · have hl := put3_len ([o.q, o.u, o.x].take j) hB
        rw [List.length_take] at hl
        have hv : 0 ≤ [o.q, o.u, o.x].getD j default ∧ [o.q, o.u, o.x].getD j default < 9223372036854775807 := by
          rcases (by omega : j = 0 ∨ j = 1 ∨ j = 2) with rfl | rfl | rfl <;> simp <;> omega
        have hs : put3 ([o.q, o.u, o.x].take (j + 1)) hB = put3 ([o.q, o.u, o.x].take j) hB ++ putI ([o.q, o.u, o.x].getD j default) 2 := by rw [take_snoc _ _ (by omega)]; simp [put3]
        have hP := (num_Put (x := sT (put3 ([o.q, o.u, o.x].take j) hB)) (v := [o.q, o.u, o.x].getD j default) (n := 2) (bytesT_s _) (by omega) (by omega)).pure
        repeat' (first
    | ((first | (show AL _ _ _ _ _ _ _ _; refine al_cons rfl ?_) | (show DL _ _ _ _ _ _ _; refine' dl_cons rfl rfl (fun K kk => ?_) ?_; try (show Go.Ts.T; rotate_left))); (first
      | (show AOp _ _ ⟨_, .move _, _, _, _, _⟩ _ _ _; refine r_move hG rfl rfl ?_)
      | (show AOp _ _ ⟨_, .assign _, _, _, _, _⟩ _ _ _; refine r_asg hG rfl rfl ?_)
      | (show AOp _ _ ⟨_, .call ⟨.builtin .len, _, _⟩, _, _, _, _⟩ _ _ _; first | refine r_lenm hG rfl rfl rfl rfl ?_ | refine r_len hG rfl rfl rfl rfl rfl ?_)
      | (show AOp _ _ ⟨_, .binOp .add _ _ _ _, _, _, _, _⟩ _ _ _; first | refine r_ari64 hG rfl rfl rfl rfl rfl (by omega) ?_ | refine r_aru64 hG rfl rfl rfl rfl rfl (by omega) ?_ | refine r_aru8 hG rfl rfl rfl rfl rfl (by omega) ?_ | refine r_aru16 hG rfl rfl rfl rfl rfl (by omega) ?_)
      | (show AOp _ _ ⟨_, .binOp _ _ _ _ _, _, _, _, _⟩ _ _ _; first | refine r_cmpT hG rfl rfl rfl rfl rfl (by omega) ?_ | refine r_cmpF hG rfl rfl rfl rfl rfl (by omega) ?_ | refine r_strT hG rfl rfl rfl rfl (by first | rfl | assumption) ?_ | refine r_strnF hG rfl rfl rfl rfl (by first | rfl | assumption) ?_ | refine r_strF hG rfl rfl rfl rfl (by assumption) ?_ | refine r_strnT hG rfl rfl rfl rfl (by assumption) ?_ | ((fail_if_success have := kk); refine r_cmp hG rfl rfl rfl rfl rfl (fun h => ?_) (fun h => ?_)) | ((fail_if_success have := kk); first | refine r_str hG rfl rfl rfl rfl (fun h => ?_) (fun h => ?_) | refine r_strn hG rfl rfl rfl rfl (fun h => ?_) (fun h => ?_)) | refine r_beq hG rfl rfl rfl rfl rfl ?_ | refine r_bin' hG rfl rfl rfl ?_)
      | (show AOp _ _ ⟨_, .load _ _, _, _, _, _⟩ _ _ _; first | refine r_ldro hG rfl rfl rfl ?_ | refine r_ld 0 hG rfl rfl rfl rfl ?_ | refine r_ld 1 hG rfl rfl rfl rfl ?_ | refine r_ld 2 hG rfl rfl rfl rfl ?_ | refine r_ld 3 hG rfl rfl rfl rfl ?_)
      | (show AOp _ _ ⟨_, .indexAddr _ _ _, _, _, _, _⟩ _ _ _; first | refine r_idx0 hG rfl rfl rfl rfl rfl rfl rfl ?_ | refine r_idxn hG rfl rfl rfl rfl rfl rfl rfl (by omega) ?_ | refine r_idxm hG rfl rfl rfl rfl rfl rfl rfl (by omega) ?_ | refine r_idx hG rfl rfl ?_)
      | (show AOp _ _ ⟨_, .convert _ _ _, _, _, _, _⟩ _ _ _; first | refine r_tostr hG rfl rfl rfl rfl rfl rfl rfl rfl (by first | exact bytesT_map _ _ | exact bytesT_s _ | rfl) ?_ | refine r_cv8 hG rfl rfl rfl rfl rfl rfl ?_ | refine r_cv16 hG rfl rfl rfl rfl rfl rfl ?_ | refine r_cv_i64 hG rfl rfl rfl rfl rfl (by omega) ?_ | refine r_cv_u64 hG rfl rfl rfl rfl rfl (by omega) ?_ | refine r_cv_u8 hG rfl rfl rfl rfl rfl (by omega) ?_ | refine r_cv_u16 hG rfl rfl rfl rfl rfl (by omega) ?_ | refine r_cvw hG rfl rfl rfl rfl rfl ?_)
      | (show AOp _ _ ⟨_, .unOp _ _ _, _, _, _, _⟩ _ _ _; refine r_not hG rfl rfl rfl ?_)
      | (show AOp _ _ ⟨_, .buildSlice _ _ _, _, _, _, _⟩ _ _ _; first | refine r_mk (sz := 1) hG rfl rfl rfl rfl rfl rfl rfl ?_ | refine r_mk (sz := 2) hG rfl rfl rfl rfl rfl rfl rfl ?_)
      | (show AOp _ _ ⟨_, .box _ _, _, _, _, _⟩ _ _ _; refine r_box hG rfl rfl rfl (fun i => ?_))
      | (show AOp _ _ ⟨_, .call ⟨.value _, _, _⟩, _, _, _, _⟩ _ _ _; first | refine r_pure rfl rfl rfl rfl rfl (by apply hP <;> (first | assumption | omega | exact bytesT_map _ _ | exact bytesT_s _ | exact catsT_map _ _ | exact catsT_c _ | rfl | (simp; omega))) ?_ | fail)
      | refine r_q hG rfl rfl rfl ?_); try exact kk)
    | (show AL _ _ _ _ _ _ _ _; first | refine al_s rfl rfl rfl ?_ | (refine al_nil ?_; first | show AW _ _ _ _ _ _ | show ∃ x', _ < _ ∧ _)) | (show AW _ _ (.seq _ _) _ _ _; refine aw_seq' ?_; intro Q1) | (show AW _ _ (.region _ _ false) _ _ _; refine aw_regL' ?_; intro O1) | (show AW _ _ (.cond _ _ _) _ _ _; first | refine aw_if_t rfl ?_ | refine aw_if_f rfl ?_) | (show AW _ _ (.skip) _ _ _; refine aw_skip ?_; first | show AW _ _ _ _ _ _ | show ∃ x', _ < _ ∧ _) | (show AW _ _ (.block _ _) _ _ _; refine aw_block' ?_; intro Q1) | (show AW _ _ (.exit _) _ _ _; refine aw_exit ?_; first | show AW _ _ _ _ _ _ | show ∃ x', _ < _ ∧ _) | (show AW _ _ (.ret) _ _ _; refine aw_ret ?_; try dsimp only [thenA, inBlockA, jumpA, noGotoA])
    | (show DL _ _ _ _ _ _ _; refine dl_d rfl rfl (fun K kt kf => r_cmp hG rfl rfl rfl rfl rfl kt kf) (fun h => ?_) (fun h => ?_)) | (show DL _ _ _ _ _ _ _; refine dl_d rfl rfl (fun K kt kf => r_str hG rfl rfl rfl rfl kt kf) (fun h => ?_) (fun h => ?_)) | (show DL _ _ _ _ _ _ _; refine dl_ne rfl rfl (fun K kt kf => r_strn hG rfl rfl rfl rfl kt kf) (fun h => ?_) (fun h => ?_))
    | (show DL _ _ _ _ _ _ _; refine dl_s rfl rfl rfl ?_) | (show DL _ _ _ _ _ _ _; refine dl_nil ?_; first | show AW _ _ _ _ _ _ | show ∃ x', _ < _ ∧ _) | (show AW _ _ (.region _ _ true) _ _ _; refine aw_draw' mix (by kernel_rfl) ?_; intro O1) | fail)
        refine ⟨⟨j + 1, by omega, p⟩, by dsimp only; omega, ?_, .refl _⟩
        exact .consW rfl (.eq (by rw [hs]; rfl)) (.cons rfl (.cons rfl (.consW rfl (.int (by simp)) (.nil _))))
      · obtain rfl : j = 3 := by omega
        repeat' (first
    | ((first | (show AL _ _ _ _ _ _ _ _; refine al_cons rfl ?_) | (show DL _ _ _ _ _ _ _; refine' dl_cons rfl rfl (fun K kk => ?_) ?_; try (show Go.Ts.T; rotate_left))); (first
      | (show AOp _ _ ⟨_, .move _, _, _, _, _⟩ _ _ _; refine r_move hG rfl rfl ?_)
      | (show AOp _ _ ⟨_, .assign _, _, _, _, _⟩ _ _ _; refine r_asg hG rfl rfl ?_)
      | (show AOp _ _ ⟨_, .call ⟨.builtin .len, _, _⟩, _, _, _, _⟩ _ _ _; first | refine r_lenm hG rfl rfl rfl rfl ?_ | refine r_len hG rfl rfl rfl rfl rfl ?_)
      | (show AOp _ _ ⟨_, .binOp .add _ _ _ _, _, _, _, _⟩ _ _ _; first | refine r_ari64 hG rfl rfl rfl rfl rfl (by omega) ?_ | refine r_aru64 hG rfl rfl rfl rfl rfl (by omega) ?_ | refine r_aru8 hG rfl rfl rfl rfl rfl (by omega) ?_ | refine r_aru16 hG rfl rfl rfl rfl rfl (by omega) ?_)
      | (show AOp _ _ ⟨_, .binOp _ _ _ _ _, _, _, _, _⟩ _ _ _; first | refine r_cmpT hG rfl rfl rfl rfl rfl (by omega) ?_ | refine r_cmpF hG rfl rfl rfl rfl rfl (by omega) ?_ | refine r_strT hG rfl rfl rfl rfl (by first | rfl | assumption) ?_ | refine r_strnF hG rfl rfl rfl rfl (by first | rfl | assumption) ?_ | refine r_strF hG rfl rfl rfl rfl (by assumption) ?_ | refine r_strnT hG rfl rfl rfl rfl (by assumption) ?_ | ((fail_if_success have := kk); refine r_cmp hG rfl rfl rfl rfl rfl (fun h => ?_) (fun h => ?_)) | ((fail_if_success have := kk); first | refine r_str hG rfl rfl rfl rfl (fun h => ?_) (fun h => ?_) | refine r_strn hG rfl rfl rfl rfl (fun h => ?_) (fun h => ?_)) | refine r_beq hG rfl rfl rfl rfl rfl ?_ | refine r_bin' hG rfl rfl rfl ?_)
      | (show AOp _ _ ⟨_, .load _ _, _, _, _, _⟩ _ _ _; first | refine r_ldro hG rfl rfl rfl ?_ | refine r_ld 0 hG rfl rfl rfl rfl ?_ | refine r_ld 1 hG rfl rfl rfl rfl ?_ | refine r_ld 2 hG rfl rfl rfl rfl ?_ | refine r_ld 3 hG rfl rfl rfl rfl ?_)
      | (show AOp _ _ ⟨_, .indexAddr _ _ _, _, _, _, _⟩ _ _ _; first | refine r_idx0 hG rfl rfl rfl rfl rfl rfl rfl ?_ | refine r_idxn hG rfl rfl rfl rfl rfl rfl rfl (by omega) ?_ | refine r_idxm hG rfl rfl rfl rfl rfl rfl rfl (by omega) ?_ | refine r_idx hG rfl rfl ?_)
      | (show AOp _ _ ⟨_, .convert _ _ _, _, _, _, _⟩ _ _ _; first | refine r_tostr hG rfl rfl rfl rfl rfl rfl rfl rfl (by first | exact bytesT_map _ _ | exact bytesT_s _ | rfl) ?_ | refine r_cv8 hG rfl rfl rfl rfl rfl rfl ?_ | refine r_cv16 hG rfl rfl rfl rfl rfl rfl ?_ | refine r_cv_i64 hG rfl rfl rfl rfl rfl (by omega) ?_ | refine r_cv_u64 hG rfl rfl rfl rfl rfl (by omega) ?_ | refine r_cv_u8 hG rfl rfl rfl rfl rfl (by omega) ?_ | refine r_cv_u16 hG rfl rfl rfl rfl rfl (by omega) ?_ | refine r_cvw hG rfl rfl rfl rfl rfl ?_)
      | (show AOp _ _ ⟨_, .unOp _ _ _, _, _, _, _⟩ _ _ _; refine r_not hG rfl rfl rfl ?_)
      | (show AOp _ _ ⟨_, .buildSlice _ _ _, _, _, _, _⟩ _ _ _; first | refine r_mk (sz := 1) hG rfl rfl rfl rfl rfl rfl rfl ?_ | refine r_mk (sz := 2) hG rfl rfl rfl rfl rfl rfl rfl ?_)
      | (show AOp _ _ ⟨_, .box _ _, _, _, _, _⟩ _ _ _; refine r_box hG rfl rfl rfl (fun i => ?_))
      | refine r_q hG rfl rfl rfl ?_); try exact kk)
    | (show AL _ _ _ _ _ _ _ _; first | refine al_s rfl rfl rfl ?_ | (refine al_nil ?_; first | show AW _ _ _ _ _ _ | show ∃ x', _ < _ ∧ _)) | (show AW _ _ (.seq _ _) _ _ _; refine aw_seq' ?_; intro Q1) | (show AW _ _ (.region _ _ false) _ _ _; refine aw_regL' ?_; intro O1) | (show AW _ _ (.cond _ _ _) _ _ _; first | refine aw_if_t rfl ?_ | refine aw_if_f rfl ?_) | (show AW _ _ (.skip) _ _ _; refine aw_skip ?_; first | show AW _ _ _ _ _ _ | show ∃ x', _ < _ ∧ _) | (show AW _ _ (.block _ _) _ _ _; refine aw_block' ?_; intro Q1) | (show AW _ _ (.exit _) _ _ _; refine aw_exit ?_; first | show AW _ _ _ _ _ _ | show ∃ x', _ < _ ∧ _) | (show AW _ _ (.ret) _ _ _; refine aw_ret ?_; try dsimp only [thenA, inBlockA, jumpA, noGotoA])
    | (show DL _ _ _ _ _ _ _; refine dl_d rfl rfl (fun K kt kf => r_cmp hG rfl rfl rfl rfl rfl kt kf) (fun h => ?_) (fun h => ?_)) | (show DL _ _ _ _ _ _ _; refine dl_d rfl rfl (fun K kt kf => r_str hG rfl rfl rfl rfl kt kf) (fun h => ?_) (fun h => ?_)) | (show DL _ _ _ _ _ _ _; refine dl_ne rfl rfl (fun K kt kf => r_strn hG rfl rfl rfl rfl kt kf) (fun h => ?_) (fun h => ?_))
    | (show DL _ _ _ _ _ _ _; refine dl_s rfl rfl rfl ?_) | (show DL _ _ _ _ _ _ _; refine dl_nil ?_; first | show AW _ _ _ _ _ _ | show ∃ x', _ < _ ∧ _) | (show AW _ _ (.region _ _ true) _ _ _; refine aw_draw' mix (by kernel_rfl) ?_; intro O1) | fail)
        exact ret_pure (res_tmp rfl (res_tmp rfl res_nil)) (.eq (by simp [put3]; rfl)) rfl
    rw [if_neg k1] at hk' ⊢
    by_cases k2 : o.kind = 2
    · rw [if_pos k2] at hk' ⊢
      have hk2 := of_decide_eq_true hk'
      have hP := (num_PutBytes (x := .sl 1 .no (hB.map bT)) (y := sT o.d) (bytesT_map _ _) (bytesT_s o.d) (by omega) (by omega)).pure
      repeat' (first
    | ((first | (show AL _ _ _ _ _ _ _ _; refine al_cons rfl ?_) | (show DL _ _ _ _ _ _ _; refine' dl_cons rfl rfl (fun K kk => ?_) ?_; try (show Go.Ts.T; rotate_left))); (first
      | (show AOp _ _ ⟨_, .move _, _, _, _, _⟩ _ _ _; refine r_move hG rfl rfl ?_)
      | (show AOp _ _ ⟨_, .assign _, _, _, _, _⟩ _ _ _; refine r_asg hG rfl rfl ?_)
      | (show AOp _ _ ⟨_, .call ⟨.builtin .len, _, _⟩, _, _, _, _⟩ _ _ _; first | refine r_lenm hG rfl rfl rfl rfl ?_ | refine r_len hG rfl rfl rfl rfl rfl ?_)
      | (show AOp _ _ ⟨_, .binOp .add _ _ _ _, _, _, _, _⟩ _ _ _; first | refine r_ari64 hG rfl rfl rfl rfl rfl (by omega) ?_ | refine r_aru64 hG rfl rfl rfl rfl rfl (by omega) ?_ | refine r_aru8 hG rfl rfl rfl rfl rfl (by omega) ?_ | refine r_aru16 hG rfl rfl rfl rfl rfl (by omega) ?_)
      | (show AOp _ _ ⟨_, .binOp _ _ _ _ _, _, _, _, _⟩ _ _ _; first | refine r_cmpT hG rfl rfl rfl rfl rfl (by omega) ?_ | refine r_cmpF hG rfl rfl rfl rfl rfl (by omega) ?_ | refine r_strT hG rfl rfl rfl rfl (by first | rfl | assumption) ?_ | refine r_strnF hG rfl rfl rfl rfl (by first | rfl | assumption) ?_ | refine r_strF hG rfl rfl rfl rfl (by assumption) ?_ | refine r_strnT hG rfl rfl rfl rfl (by assumption) ?_ | ((fail_if_success have := kk); refine r_cmp hG rfl rfl rfl rfl rfl (fun h => ?_) (fun h => ?_)) | ((fail_if_success have := kk); first | refine r_str hG rfl rfl rfl rfl (fun h => ?_) (fun h => ?_) | refine r_strn hG rfl rfl rfl rfl (fun h => ?_) (fun h => ?_)) | refine r_beq hG rfl rfl rfl rfl rfl ?_ | refine r_bin' hG rfl rfl rfl ?_)
      | (show AOp _ _ ⟨_, .load _ _, _, _, _, _⟩ _ _ _; first | refine r_ldro hG rfl rfl rfl ?_ | refine r_ld 0 hG rfl rfl rfl rfl ?_ | refine r_ld 1 hG rfl rfl rfl rfl ?_ | refine r_ld 2 hG rfl rfl rfl rfl ?_ | refine r_ld 3 hG rfl rfl rfl rfl ?_)
      | (show AOp _ _ ⟨_, .indexAddr _ _ _, _, _, _, _⟩ _ _ _; first | refine r_idx0 hG rfl rfl rfl rfl rfl rfl rfl ?_ | refine r_idxn hG rfl rfl rfl rfl rfl rfl rfl (by omega) ?_ | refine r_idxm hG rfl rfl rfl rfl rfl rfl rfl (by omega) ?_ | refine r_idx hG rfl rfl ?_)
      | (show AOp _ _ ⟨_, .convert _ _ _, _, _, _, _⟩ _ _ _; first | refine r_tostr hG rfl rfl rfl rfl rfl rfl rfl rfl (by first | exact bytesT_map _ _ | exact bytesT_s _ | rfl) ?_ | refine r_cv8 hG rfl rfl rfl rfl rfl rfl ?_ | refine r_cv16 hG rfl rfl rfl rfl rfl rfl ?_ | refine r_cv_i64 hG rfl rfl rfl rfl rfl (by omega) ?_ | refine r_cv_u64 hG rfl rfl rfl rfl rfl (by omega) ?_ | refine r_cv_u8 hG rfl rfl rfl rfl rfl (by omega) ?_ | refine r_cv_u16 hG rfl rfl rfl rfl rfl (by omega) ?_ | refine r_cvw hG rfl rfl rfl rfl rfl ?_)
      | (show AOp _ _ ⟨_, .unOp _ _ _, _, _, _, _⟩ _ _ _; refine r_not hG rfl rfl rfl ?_)
      | (show AOp _ _ ⟨_, .buildSlice _ _ _, _, _, _, _⟩ _ _ _; first | refine r_mk (sz := 1) hG rfl rfl rfl rfl rfl rfl rfl ?_ | refine r_mk (sz := 2) hG rfl rfl rfl rfl rfl rfl rfl ?_)
      | (show AOp _ _ ⟨_, .box _ _, _, _, _, _⟩ _ _ _; refine r_box hG rfl rfl rfl (fun i => ?_))
      | (show AOp _ _ ⟨_, .call ⟨.value _, _, _⟩, _, _, _, _⟩ _ _ _; first | refine r_pure rfl rfl rfl rfl rfl (by apply hM <;> (first | assumption | omega | exact bytesT_map _ _ | exact bytesT_s _ | exact catsT_map _ _ | exact catsT_c _ | rfl | (simp; omega))) ?_ | refine r_pure rfl rfl rfl rfl rfl (by apply hP1 <;> (first | assumption | omega | exact bytesT_map _ _ | exact bytesT_s _ | exact catsT_map _ _ | exact catsT_c _ | rfl | (simp; omega))) ?_ | refine r_pure rfl rfl rfl rfl rfl (by apply hP2 <;> (first | assumption | omega | exact bytesT_map _ _ | exact bytesT_s _ | exact catsT_map _ _ | exact catsT_c _ | rfl | (simp; omega))) ?_ | refine r_pure rfl rfl rfl rfl rfl (by apply hP <;> (first | assumption | omega | exact bytesT_map _ _ | exact bytesT_s _ | exact catsT_map _ _ | exact catsT_c _ | rfl | (simp; omega))) ?_ | fail)
      | refine r_q hG rfl rfl rfl ?_); try exact kk)
    | (show AL _ _ _ _ _ _ _ _; first | refine al_s rfl rfl rfl ?_ | (refine al_nil ?_; first | show AW _ _ _ _ _ _ | show ∃ x', _ < _ ∧ _)) | (show AW _ _ (.seq _ _) _ _ _; refine aw_seq' ?_; intro Q1) | (show AW _ _ (.region _ _ false) _ _ _; refine aw_regL' ?_; intro O1) | (show AW _ _ (.cond _ _ _) _ _ _; first | refine aw_if_t rfl ?_ | refine aw_if_f rfl ?_) | (show AW _ _ (.skip) _ _ _; refine aw_skip ?_; first | show AW _ _ _ _ _ _ | show ∃ x', _ < _ ∧ _) | (show AW _ _ (.block _ _) _ _ _; refine aw_block' ?_; intro Q1) | (show AW _ _ (.exit _) _ _ _; refine aw_exit ?_; first | show AW _ _ _ _ _ _ | show ∃ x', _ < _ ∧ _) | (show AW _ _ (.ret) _ _ _; refine aw_ret ?_; try dsimp only [thenA, inBlockA, jumpA, noGotoA])
    | (show DL _ _ _ _ _ _ _; refine dl_d rfl rfl (fun K kt kf => r_cmp hG rfl rfl rfl rfl rfl kt kf) (fun h => ?_) (fun h => ?_)) | (show DL _ _ _ _ _ _ _; refine dl_d rfl rfl (fun K kt kf => r_str hG rfl rfl rfl rfl kt kf) (fun h => ?_) (fun h => ?_)) | (show DL _ _ _ _ _ _ _; refine dl_ne rfl rfl (fun K kt kf => r_strn hG rfl rfl rfl rfl kt kf) (fun h => ?_) (fun h => ?_))
    | (show DL _ _ _ _ _ _ _; refine dl_s rfl rfl rfl ?_) | (show DL _ _ _ _ _ _ _; refine dl_nil ?_; first | show AW _ _ _ _ _ _ | show ∃ x', _ < _ ∧ _) | (show AW _ _ (.region _ _ true) _ _ _; refine aw_draw' mix (by kernel_rfl) ?_; intro O1) | fail)
      exact ret_pure (res_tmp rfl (res_tmp rfl res_nil)) (.refl _) rfl
    rw [if_neg k2] at hk' ⊢
    by_cases k3 : o.kind = 3
    · rw [if_pos k3] at hk' ⊢
      have hm := mayC_le hk'
      have hP := (cats_Put (x := .sl 1 .no (hB.map bT)) (y := cT o.c) (bytesT_map _ _) (catsT_c o.c) (by omega) (by omega)).pure
      repeat' (first
    | ((first | (show AL _ _ _ _ _ _ _ _; refine al_cons rfl ?_) | (show DL _ _ _ _ _ _ _; refine' dl_cons rfl rfl (fun K kk => ?_) ?_; try (show Go.Ts.T; rotate_left))); (first
      | (show AOp _ _ ⟨_, .move _, _, _, _, _⟩ _ _ _; refine r_move hG rfl rfl ?_)
      | (show AOp _ _ ⟨_, .assign _, _, _, _, _⟩ _ _ _; refine r_asg hG rfl rfl ?_)
      | (show AOp _ _ ⟨_, .call ⟨.builtin .len, _, _⟩, _, _, _, _⟩ _ _ _; first | refine r_lenm hG rfl rfl rfl rfl ?_ | refine r_len hG rfl rfl rfl rfl rfl ?_)
      | (show AOp _ _ ⟨_, .binOp .add _ _ _ _, _, _, _, _⟩ _ _ _; first | refine r_ari64 hG rfl rfl rfl rfl rfl (by omega) ?_ | refine r_aru64 hG rfl rfl rfl rfl rfl (by omega) ?_ | refine r_aru8 hG rfl rfl rfl rfl rfl (by omega) ?_ | refine r_aru16 hG rfl rfl rfl rfl rfl (by omega) ?_)
      | (show AOp _ _ ⟨_, .binOp _ _ _ _ _, _, _, _, _⟩ _ _ _; first | refine r_cmpT hG rfl rfl rfl rfl rfl (by omega) ?_ | refine r_cmpF hG rfl rfl rfl rfl rfl (by omega) ?_ | refine r_strT hG rfl rfl rfl rfl (by first | rfl | assumption) ?_ | refine r_strnF hG rfl rfl rfl rfl (by first | rfl | assumption) ?_ | refine r_strF hG rfl rfl rfl rfl (by assumption) ?_ | refine r_strnT hG rfl rfl rfl rfl (by assumption) ?_ | ((fail_if_success have := kk); refine r_cmp hG rfl rfl rfl rfl rfl (fun h => ?_) (fun h => ?_)) | ((fail_if_success have := kk); first | refine r_str hG rfl rfl rfl rfl (fun h => ?_) (fun h => ?_) | refine r_strn hG rfl rfl rfl rfl (fun h => ?_) (fun h => ?_)) | refine r_beq hG rfl rfl rfl rfl rfl ?_ | refine r_bin' hG rfl rfl rfl ?_)
      | (show AOp _ _ ⟨_, .load _ _, _, _, _, _⟩ _ _ _; first | refine r_ldro hG rfl rfl rfl ?_ | refine r_ld 0 hG rfl rfl rfl rfl ?_ | refine r_ld 1 hG rfl rfl rfl rfl ?_ | refine r_ld 2 hG rfl rfl rfl rfl ?_ | refine r_ld 3 hG rfl rfl rfl rfl ?_)
      | (show AOp _ _ ⟨_, .indexAddr _ _ _, _, _, _, _⟩ _ _ _; first | refine r_idx0 hG rfl rfl rfl rfl rfl rfl rfl ?_ | refine r_idxn hG rfl rfl rfl rfl rfl rfl rfl (by omega) ?_ | refine r_idxm hG rfl rfl rfl rfl rfl rfl rfl (by omega) ?_ | refine r_idx hG rfl rfl ?_)
      | (show AOp _ _ ⟨_, .convert _ _ _, _, _, _, _⟩ _ _ _; first | refine r_tostr hG rfl rfl rfl rfl rfl rfl rfl rfl (by first | exact bytesT_map _ _ | exact bytesT_s _ | rfl) ?_ | refine r_cv8 hG rfl rfl rfl rfl rfl rfl ?_ | refine r_cv16 hG rfl rfl rfl rfl rfl rfl ?_ | refine r_cv_i64 hG rfl rfl rfl rfl rfl (by omega) ?_ | refine r_cv_u64 hG rfl rfl rfl rfl rfl (by omega) ?_ | refine r_cv_u8 hG rfl rfl rfl rfl rfl (by omega) ?_ | refine r_cv_u16 hG rfl rfl rfl rfl rfl (by omega) ?_ | refine r_cvw hG rfl rfl rfl rfl rfl ?_)
      | (show AOp _ _ ⟨_, .unOp _ _ _, _, _, _, _⟩ _ _ _; refine r_not hG rfl rfl rfl ?_)
      | (show AOp _ _ ⟨_, .buildSlice _ _ _, _, _, _, _⟩ _ _ _; first | refine r_mk (sz := 1) hG rfl rfl rfl rfl rfl rfl rfl ?_ | refine r_mk (sz := 2) hG rfl rfl rfl rfl rfl rfl rfl ?_)
      | (show AOp _ _ ⟨_, .box _ _, _, _, _, _⟩ _ _ _; refine r_box hG rfl rfl rfl (fun i => ?_))
      | (show AOp _ _ ⟨_, .call ⟨.value _, _, _⟩, _, _, _, _⟩ _ _ _; first | refine r_pure rfl rfl rfl rfl rfl (by apply hM <;> (first | assumption | omega | exact bytesT_map _ _ | exact bytesT_s _ | exact catsT_map _ _ | exact catsT_c _ | rfl | (simp; omega))) ?_ | refine r_pure rfl rfl rfl rfl rfl (by apply hP1 <;> (first | assumption | omega | exact bytesT_map _ _ | exact bytesT_s _ | exact catsT_map _ _ | exact catsT_c _ | rfl | (simp; omega))) ?_ | refine r_pure rfl rfl rfl rfl rfl (by apply hP2 <;> (first | assumption | omega | exact bytesT_map _ _ | exact bytesT_s _ | exact catsT_map _ _ | exact catsT_c _ | rfl | (simp; omega))) ?_ | refine r_pure rfl rfl rfl rfl rfl (by apply hP <;> (first | assumption | omega | exact bytesT_map _ _ | exact bytesT_s _ | exact catsT_map _ _ | exact catsT_c _ | rfl | (simp; omega))) ?_ | fail)
      | refine r_q hG rfl rfl rfl ?_); try exact kk)
    | (show AL _ _ _ _ _ _ _ _; first | refine al_s rfl rfl rfl ?_ | (refine al_nil ?_; first | show AW _ _ _ _ _ _ | show ∃ x', _ < _ ∧ _)) | (show AW _ _ (.seq _ _) _ _ _; refine aw_seq' ?_; intro Q1) | (show AW _ _ (.region _ _ false) _ _ _; refine aw_regL' ?_; intro O1) | (show AW _ _ (.cond _ _ _) _ _ _; first | refine aw_if_t rfl ?_ | refine aw_if_f rfl ?_) | (show AW _ _ (.skip) _ _ _; refine aw_skip ?_; first | show AW _ _ _ _ _ _ | show ∃ x', _ < _ ∧ _) | (show AW _ _ (.block _ _) _ _ _; refine aw_block' ?_; intro Q1) | (show AW _ _ (.exit _) _ _ _; refine aw_exit ?_; first | show AW _ _ _ _ _ _ | show ∃ x', _ < _ ∧ _) | (show AW _ _ (.ret) _ _ _; refine aw_ret ?_; try dsimp only [thenA, inBlockA, jumpA, noGotoA])
    | (show DL _ _ _ _ _ _ _; refine dl_d rfl rfl (fun K kt kf => r_cmp hG rfl rfl rfl rfl rfl kt kf) (fun h => ?_) (fun h => ?_)) | (show DL _ _ _ _ _ _ _; refine dl_d rfl rfl (fun K kt kf => r_str hG rfl rfl rfl rfl kt kf) (fun h => ?_) (fun h => ?_)) | (show DL _ _ _ _ _ _ _; refine dl_ne rfl rfl (fun K kt kf => r_strn hG rfl rfl rfl rfl kt kf) (fun h => ?_) (fun h => ?_))
    | (show DL _ _ _ _ _ _ _; refine dl_s rfl rfl rfl ?_) | (show DL _ _ _ _ _ _ _; refine dl_nil ?_; first | show AW _ _ _ _ _ _ | show ∃ x', _ < _ ∧ _) | (show AW _ _ (.region _ _ true) _ _ _; refine aw_draw' mix (by kernel_rfl) ?_; intro O1) | fail)
      exact ret_pure (res_tmp rfl (res_tmp rfl res_nil)) (.refl _) rfl
    rw [if_neg k3] at hk' ⊢
    by_cases k4 : o.kind = 4
    · rw [if_pos k4] at hk'
      have hP := (r_Put (x := .sl 1 .no (hB.map bT)) (y := lT o.r) (bytesT_map _ _) (lettersT_l o.r) (by omega) hk').pure
      repeat' (first
    | ((first | (show AL _ _ _ _ _ _ _ _; refine al_cons rfl ?_) | (show DL _ _ _ _ _ _ _; refine' dl_cons rfl rfl (fun K kk => ?_) ?_; try (show Go.Ts.T; rotate_left))); (first
      | (show AOp _ _ ⟨_, .move _, _, _, _, _⟩ _ _ _; refine r_move hG rfl rfl ?_)
      | (show AOp _ _ ⟨_, .assign _, _, _, _, _⟩ _ _ _; refine r_asg hG rfl rfl ?_)
      | (show AOp _ _ ⟨_, .call ⟨.builtin .len, _, _⟩, _, _, _, _⟩ _ _ _; first | refine r_lenm hG rfl rfl rfl rfl ?_ | refine r_len hG rfl rfl rfl rfl rfl ?_)
      | (show AOp _ _ ⟨_, .binOp .add _ _ _ _, _, _, _, _⟩ _ _ _; first | refine r_ari64 hG rfl rfl rfl rfl rfl (by omega) ?_ | refine r_aru64 hG rfl rfl rfl rfl rfl (by omega) ?_ | refine r_aru8 hG rfl rfl rfl rfl rfl (by omega) ?_ | refine r_aru16 hG rfl rfl rfl rfl rfl (by omega) ?_)
      | (show AOp _ _ ⟨_, .binOp _ _ _ _ _, _, _, _, _⟩ _ _ _; first | refine r_cmpT hG rfl rfl rfl rfl rfl (by omega) ?_ | refine r_cmpF hG rfl rfl rfl rfl rfl (by omega) ?_ | refine r_strT hG rfl rfl rfl rfl (by first | rfl | assumption) ?_ | refine r_strnF hG rfl rfl rfl rfl (by first | rfl | assumption) ?_ | refine r_strF hG rfl rfl rfl rfl (by assumption) ?_ | refine r_strnT hG rfl rfl rfl rfl (by assumption) ?_ | ((fail_if_success have := kk); refine r_cmp hG rfl rfl rfl rfl rfl (fun h => ?_) (fun h => ?_)) | ((fail_if_success have := kk); first | refine r_str hG rfl rfl rfl rfl (fun h => ?_) (fun h => ?_) | refine r_strn hG rfl rfl rfl rfl (fun h => ?_) (fun h => ?_)) | refine r_beq hG rfl rfl rfl rfl rfl ?_ | refine r_bin' hG rfl rfl rfl ?_)
      | (show AOp _ _ ⟨_, .load _ _, _, _, _, _⟩ _ _ _; first | refine r_ldro hG rfl rfl rfl ?_ | refine r_ld 0 hG rfl rfl rfl rfl ?_ | refine r_ld 1 hG rfl rfl rfl rfl ?_ | refine r_ld 2 hG rfl rfl rfl rfl ?_ | refine r_ld 3 hG rfl rfl rfl rfl ?_)
      | (show AOp _ _ ⟨_, .indexAddr _ _ _, _, _, _, _⟩ _ _ _; first | refine r_idx0 hG rfl rfl rfl rfl rfl rfl rfl ?_ | refine r_idxn hG rfl rfl rfl rfl rfl rfl rfl (by omega) ?_ | refine r_idxm hG rfl rfl rfl rfl rfl rfl rfl (by omega) ?_ | refine r_idx hG rfl rfl ?_)
      | (show AOp _ _ ⟨_, .convert _ _ _, _, _, _, _⟩ _ _ _; first | refine r_tostr hG rfl rfl rfl rfl rfl rfl rfl rfl (by first | exact bytesT_map _ _ | exact bytesT_s _ | rfl) ?_ | refine r_cv8 hG rfl rfl rfl rfl rfl rfl ?_ | refine r_cv16 hG rfl rfl rfl rfl rfl rfl ?_ | refine r_cv_i64 hG rfl rfl rfl rfl rfl (by omega) ?_ | refine r_cv_u64 hG rfl rfl rfl rfl rfl (by omega) ?_ | refine r_cv_u8 hG rfl rfl rfl rfl rfl (by omega) ?_ | refine r_cv_u16 hG rfl rfl rfl rfl rfl (by omega) ?_ | refine r_cvw hG rfl rfl rfl rfl rfl ?_)
      | (show AOp _ _ ⟨_, .unOp _ _ _, _, _, _, _⟩ _ _ _; refine r_not hG rfl rfl rfl ?_)
      | (show AOp _ _ ⟨_, .buildSlice _ _ _, _, _, _, _⟩ _ _ _; first | refine r_mk (sz := 1) hG rfl rfl rfl rfl rfl rfl rfl ?_ | refine r_mk (sz := 2) hG rfl rfl rfl rfl rfl rfl rfl ?_)
      | (show AOp _ _ ⟨_, .box _ _, _, _, _, _⟩ _ _ _; refine r_box hG rfl rfl rfl (fun i => ?_))
      | (show AOp _ _ ⟨_, .call ⟨.value _, _, _⟩, _, _, _, _⟩ _ _ _; first | refine r_pure rfl rfl rfl rfl rfl (by apply hM <;> (first | assumption | omega | exact bytesT_map _ _ | exact bytesT_s _ | exact catsT_map _ _ | exact catsT_c _ | rfl | (simp; omega))) ?_ | refine r_pure rfl rfl rfl rfl rfl (by apply hP1 <;> (first | assumption | omega | exact bytesT_map _ _ | exact bytesT_s _ | exact catsT_map _ _ | exact catsT_c _ | rfl | (simp; omega))) ?_ | refine r_pure rfl rfl rfl rfl rfl (by apply hP2 <;> (first | assumption | omega | exact bytesT_map _ _ | exact bytesT_s _ | exact catsT_map _ _ | exact catsT_c _ | rfl | (simp; omega))) ?_ | refine r_pure rfl rfl rfl rfl rfl (by apply hP <;> (first | assumption | omega | exact bytesT_map _ _ | exact bytesT_s _ | exact catsT_map _ _ | exact catsT_c _ | rfl | (simp; omega))) ?_ | fail)
      | refine r_q hG rfl rfl rfl ?_); try exact kk)
    | (show AL _ _ _ _ _ _ _ _; first | refine al_s rfl rfl rfl ?_ | (refine al_nil ?_; first | show AW _ _ _ _ _ _ | show ∃ x', _ < _ ∧ _)) | (show AW _ _ (.seq _ _) _ _ _; refine aw_seq' ?_; intro Q1) | (show AW _ _ (.region _ _ false) _ _ _; refine aw_regL' ?_; intro O1) | (show AW _ _ (.cond _ _ _) _ _ _; first | refine aw_if_t rfl ?_ | refine aw_if_f rfl ?_) | (show AW _ _ (.skip) _ _ _; refine aw_skip ?_; first | show AW _ _ _ _ _ _ | show ∃ x', _ < _ ∧ _) | (show AW _ _ (.block _ _) _ _ _; refine aw_block' ?_; intro Q1) | (show AW _ _ (.exit _) _ _ _; refine aw_exit ?_; first | show AW _ _ _ _ _ _ | show ∃ x', _ < _ ∧ _) | (show AW _ _ (.ret) _ _ _; refine aw_ret ?_; try dsimp only [thenA, inBlockA, jumpA, noGotoA])
    | (show DL _ _ _ _ _ _ _; refine dl_d rfl rfl (fun K kt kf => r_cmp hG rfl rfl rfl rfl rfl kt kf) (fun h => ?_) (fun h => ?_)) | (show DL _ _ _ _ _ _ _; refine dl_d rfl rfl (fun K kt kf => r_str hG rfl rfl rfl rfl kt kf) (fun h => ?_) (fun h => ?_)) | (show DL _ _ _ _ _ _ _; refine dl_ne rfl rfl (fun K kt kf => r_strn hG rfl rfl rfl rfl kt kf) (fun h => ?_) (fun h => ?_))
    | (show DL _ _ _ _ _ _ _; refine dl_s rfl rfl rfl ?_) | (show DL _ _ _ _ _ _ _; refine dl_nil ?_; first | show AW _ _ _ _ _ _ | show ∃ x', _ < _ ∧ _) | (show AW _ _ (.region _ _ true) _ _ _; refine aw_draw' mix (by kernel_rfl) ?_; intro O1) | fail)
      exact ret_pure (res_tmp rfl (res_tmp rfl res_nil)) (.refl _) rfl
    · rw [if_neg k4] at hk'; cases hk'
def lightO (o : OB) : Bool := decide (o.d.length ≤ 100 ∧ o.c.length ≤ 30 ∧ o.r.length ≤ 10 ∧ o.ps.length ≤ 30 ∧ o.s.length + o.i.length + o.o.length ≤ 60)
theorem law_light {o : OB} (h : o.Fits) : Ts.Pure Try.prog 14 [o.t] (.bool (lightO o)) := by
  intro off
  unfold OB.t
  refine acalls_mk (N := 43) (rs := [.tmp 2]) hG Try.func14 rfl rfl rfl rfl rfl ?_
  have hd := h.hd; have hc := h.hc; have hr := h.hr; have hs := h.hs; have hi := h.hi; have ho := h.ho; have hps := h.hps
  unfold bigLen at hd hc hr hs hi ho hps
  repeat' (first
    | ((show AL _ _ _ _ _ _ _ _; refine al_cons rfl ?_); (first
      | (show AOp _ _ ⟨_, .move _, _, _, _, _⟩ _ _ _; refine r_move hG rfl rfl ?_)
      | (show AOp _ _ ⟨_, .assign _, _, _, _, _⟩ _ _ _; refine r_asg hG rfl rfl ?_)
      | (show AOp _ _ ⟨_, .call ⟨.builtin .len, _, _⟩, _, _, _, _⟩ _ _ _; first | refine r_lenm hG rfl rfl rfl rfl ?_ | refine r_len hG rfl rfl rfl rfl rfl ?_)
      | (show AOp _ _ ⟨_, .binOp .add _ _ _ _, _, _, _, _⟩ _ _ _; first | refine r_ari64 hG rfl rfl rfl rfl rfl (by omega) ?_ | refine r_aru64 hG rfl rfl rfl rfl rfl (by omega) ?_ | refine r_aru8 hG rfl rfl rfl rfl rfl (by omega) ?_ | refine r_aru16 hG rfl rfl rfl rfl rfl (by omega) ?_)
      | (show AOp _ _ ⟨_, .binOp _ _ _ _ _, _, _, _, _⟩ _ _ _; first | refine r_cmpT hG rfl rfl rfl rfl rfl (by omega) ?_ | refine r_cmpF hG rfl rfl rfl rfl rfl (by omega) ?_ | refine r_strT hG rfl rfl rfl rfl (by first | rfl | assumption) ?_ | refine r_strnF hG rfl rfl rfl rfl (by first | rfl | assumption) ?_ | refine r_strF hG rfl rfl rfl rfl (by assumption) ?_ | refine r_strnT hG rfl rfl rfl rfl (by assumption) ?_ | (refine r_cmp hG rfl rfl rfl rfl rfl (fun h => ?_) (fun h => ?_)) | (first | refine r_str hG rfl rfl rfl rfl (fun h => ?_) (fun h => ?_) | refine r_strn hG rfl rfl rfl rfl (fun h => ?_) (fun h => ?_)) | refine r_beq hG rfl rfl rfl rfl rfl ?_ | refine r_bin' hG rfl rfl rfl ?_)
      | (show AOp _ _ ⟨_, .load _ _, _, _, _, _⟩ _ _ _; first | refine r_ldro hG rfl rfl rfl ?_ | refine r_ld 0 hG rfl rfl rfl rfl ?_ | refine r_ld 1 hG rfl rfl rfl rfl ?_ | refine r_ld 2 hG rfl rfl rfl rfl ?_ | refine r_ld 3 hG rfl rfl rfl rfl ?_)
      | (show AOp _ _ ⟨_, .pick _ _ _, _, _, _, _⟩ _ _ _; refine r_pick hG rfl rfl rfl ?_)
      | (show AOp _ _ ⟨_, .box _ _, _, _, _, _⟩ _ _ _; refine r_box hG rfl rfl rfl (fun i => ?_))
      | refine r_q hG rfl rfl rfl ?_))
    | (show AL _ _ _ _ _ _ _ _; first | refine al_s rfl rfl rfl ?_ | (refine al_nil ?_; first | show AW _ _ _ _ _ _ | show ∃ x', _ < _ ∧ _)) | (show AW _ _ (.seq _ _) _ _ _; refine aw_seq' ?_; intro Q1) | (show AW _ _ (.region _ _ false) _ _ _; refine aw_regL' ?_; intro O1) | (show AW _ _ (.ret) _ _ _; refine aw_ret ?_; try dsimp only [thenA, inBlockA, jumpA, noGotoA]) | fail)
  all_goals first
    | exact ret_pure (res_tmp rfl res_nil) (.eq (congrArg T.bool (decide_eq_true (by omega)).symm)) rfl
    | exact ret_pure (res_tmp rfl res_nil) (.eq (congrArg T.bool (decide_eq_false (by omega)).symm)) rfl
set_option maxRecDepth 100000 in
theorem o2_begun : Ts.Pure Try.prog 13 [] (.bool true) := run_pure0 (M := mach noLive kn2) (mach_ok noLive kn2_ok) (n := 20000) (by kernel_rfl)
theorem object2All_pure {o : OB} (h : o.Fits) : Ts.Pure Try.prog 4 [o.t] (.bool true) := by
  have hL := law_light h
  have hP := obj2_Put h
  have hQ := ref_Put2 h
  unfold putO2T at hP hQ
  intro off
  unfold OB.t at hL hP hQ ⊢
  refine acalls_mk (N := 32) (rs := [.tmp 2]) hG Try.func4 rfl rfl rfl rfl rfl ?_
  cases q : lightO o <;> rw [q] at hL
  · repeat' (first
    | ((show AL _ _ _ _ _ _ _ _; refine al_cons rfl ?_); (first
      | (show AOp _ _ ⟨_, .move _, _, _, _, _⟩ _ _ _; refine r_move hG rfl rfl ?_)
      | (show AOp _ _ ⟨_, .assign _, _, _, _, _⟩ _ _ _; refine r_asg hG rfl rfl ?_)
      | (show AOp _ _ ⟨_, .binOp _ _ _ _ _, _, _, _, _⟩ _ _ _; first | refine r_cmpT hG rfl rfl rfl rfl rfl (by omega) ?_ | refine r_cmpF hG rfl rfl rfl rfl rfl (by omega) ?_ | refine r_strT hG rfl rfl rfl rfl (by first | rfl | assumption) ?_ | refine r_strnF hG rfl rfl rfl rfl (by first | rfl | assumption) ?_ | refine r_strF hG rfl rfl rfl rfl (by assumption) ?_ | refine r_strnT hG rfl rfl rfl rfl (by assumption) ?_ | (refine r_cmp hG rfl rfl rfl rfl rfl (fun h => ?_) (fun h => ?_)) | (first | refine r_str hG rfl rfl rfl rfl (fun h => ?_) (fun h => ?_) | refine r_strn hG rfl rfl rfl rfl (fun h => ?_) (fun h => ?_)) | refine r_beq hG rfl rfl rfl rfl rfl ?_ | refine r_bin' hG rfl rfl rfl ?_)
      | (show AOp _ _ ⟨_, .load _ _, _, _, _, _⟩ _ _ _; first | refine r_ldro hG rfl rfl rfl ?_ | refine r_ld 0 hG rfl rfl rfl rfl ?_ | refine r_ld 1 hG rfl rfl rfl rfl ?_ | refine r_ld 2 hG rfl rfl rfl rfl ?_ | refine r_ld 3 hG rfl rfl rfl rfl ?_)
      | (show AOp _ _ ⟨_, .convert _ _ _, _, _, _, _⟩ _ _ _; first | refine r_tostr hG rfl rfl rfl rfl rfl rfl rfl rfl (by first | exact bytesT_map _ _ | exact bytesT_s _ | rfl) ?_ | refine r_cv8 hG rfl rfl rfl rfl rfl rfl ?_ | refine r_cv16 hG rfl rfl rfl rfl rfl rfl ?_ | refine r_cv_i64 hG rfl rfl rfl rfl rfl (by omega) ?_ | refine r_cv_u64 hG rfl rfl rfl rfl rfl (by omega) ?_ | refine r_cv_u8 hG rfl rfl rfl rfl rfl (by omega) ?_ | refine r_cv_u16 hG rfl rfl rfl rfl rfl (by omega) ?_ | refine r_cvw hG rfl rfl rfl rfl rfl ?_)
      | (show AOp _ _ ⟨_, .pick _ _ _, _, _, _, _⟩ _ _ _; refine r_pick hG rfl rfl rfl ?_)
      | (show AOp _ _ ⟨_, .unOp _ _ _, _, _, _, _⟩ _ _ _; refine r_not hG rfl rfl rfl ?_)
      | (show AOp _ _ ⟨_, .box _ _, _, _, _, _⟩ _ _ _; refine r_box hG rfl rfl rfl (fun i => ?_))
      | (show AOp _ _ ⟨_, .call ⟨.value _, _, _⟩, _, _, _, _⟩ _ _ _; first | refine r_pure rfl rfl rfl rfl rfl (by apply o2_begun <;> (first | assumption | omega | exact bytesT_map _ _ | exact bytesT_s _ | exact catsT_map _ _ | exact catsT_c _ | rfl | (simp; omega))) ?_ | refine r_pure rfl rfl rfl rfl rfl (by apply hL <;> (first | assumption | omega | exact bytesT_map _ _ | exact bytesT_s _ | exact catsT_map _ _ | exact catsT_c _ | rfl | (simp; omega))) ?_ | fail)
      | refine r_q hG rfl rfl rfl ?_))
    | (show AL _ _ _ _ _ _ _ _; first | refine al_s rfl rfl rfl ?_ | (refine al_nil ?_; first | show AW _ _ _ _ _ _ | show ∃ x', _ < _ ∧ _)) | (show AW _ _ (.seq _ _) _ _ _; refine aw_seq' ?_; intro Q1) | (show AW _ _ (.region _ _ false) _ _ _; refine aw_regL' ?_; intro O1) | (show AW _ _ (.cond _ _ _) _ _ _; first | refine aw_if_t rfl ?_ | refine aw_if_f rfl ?_) | (show AW _ _ (.skip) _ _ _; refine aw_skip ?_; first | show AW _ _ _ _ _ _ | show ∃ x', _ < _ ∧ _) | (show AW _ _ (.ret) _ _ _; refine aw_ret ?_; try dsimp only [thenA, inBlockA, jumpA, noGotoA]) | fail)
    exact ret_pure (res_tmp rfl res_nil) (.refl _) rfl
  cases hm : mayO2 o
  · rw [hm] at hP hQ
    rw [if_neg Bool.false_ne_true] at hP hQ
    repeat' (first
    | ((show AL _ _ _ _ _ _ _ _; refine al_cons rfl ?_); (first
      | (show AOp _ _ ⟨_, .move _, _, _, _, _⟩ _ _ _; refine r_move hG rfl rfl ?_)
      | (show AOp _ _ ⟨_, .assign _, _, _, _, _⟩ _ _ _; refine r_asg hG rfl rfl ?_)
      | (show AOp _ _ ⟨_, .binOp _ _ _ _ _, _, _, _, _⟩ _ _ _; first | refine r_cmpT hG rfl rfl rfl rfl rfl (by omega) ?_ | refine r_cmpF hG rfl rfl rfl rfl rfl (by omega) ?_ | refine r_strT hG rfl rfl rfl rfl (by first | rfl | assumption) ?_ | refine r_strnF hG rfl rfl rfl rfl (by first | rfl | assumption) ?_ | refine r_strF hG rfl rfl rfl rfl (by assumption) ?_ | refine r_strnT hG rfl rfl rfl rfl (by assumption) ?_ | (refine r_cmp hG rfl rfl rfl rfl rfl (fun h => ?_) (fun h => ?_)) | (first | refine r_str hG rfl rfl rfl rfl (fun h => ?_) (fun h => ?_) | refine r_strn hG rfl rfl rfl rfl (fun h => ?_) (fun h => ?_)) | refine r_beq hG rfl rfl rfl rfl rfl ?_ | refine r_bin' hG rfl rfl rfl ?_)
      | (show AOp _ _ ⟨_, .load _ _, _, _, _, _⟩ _ _ _; first | refine r_ldro hG rfl rfl rfl ?_ | refine r_ld 0 hG rfl rfl rfl rfl ?_ | refine r_ld 1 hG rfl rfl rfl rfl ?_ | refine r_ld 2 hG rfl rfl rfl rfl ?_ | refine r_ld 3 hG rfl rfl rfl rfl ?_)
      | (show AOp _ _ ⟨_, .convert _ _ _, _, _, _, _⟩ _ _ _; first | refine r_tostr hG rfl rfl rfl rfl rfl rfl rfl rfl (by first | exact bytesT_map _ _ | exact bytesT_s _ | rfl) ?_ | refine r_cv8 hG rfl rfl rfl rfl rfl rfl ?_ | refine r_cv16 hG rfl rfl rfl rfl rfl rfl ?_ | refine r_cv_i64 hG rfl rfl rfl rfl rfl (by omega) ?_ | refine r_cv_u64 hG rfl rfl rfl rfl rfl (by omega) ?_ | refine r_cv_u8 hG rfl rfl rfl rfl rfl (by omega) ?_ | refine r_cv_u16 hG rfl rfl rfl rfl rfl (by omega) ?_ | refine r_cvw hG rfl rfl rfl rfl rfl ?_)
      | (show AOp _ _ ⟨_, .pick _ _ _, _, _, _, _⟩ _ _ _; refine r_pick hG rfl rfl rfl ?_)
      | (show AOp _ _ ⟨_, .unOp _ _ _, _, _, _, _⟩ _ _ _; refine r_not hG rfl rfl rfl ?_)
      | (show AOp _ _ ⟨_, .box _ _, _, _, _, _⟩ _ _ _; refine r_box hG rfl rfl rfl (fun i => ?_))
      | (show AOp _ _ ⟨_, .call ⟨.value _, _, _⟩, _, _, _, _⟩ _ _ _; first | refine r_pure rfl rfl rfl rfl rfl (by apply o2_begun <;> (first | assumption | omega | exact bytesT_map _ _ | exact bytesT_s _ | exact catsT_map _ _ | exact catsT_c _ | rfl | (simp; omega))) ?_ | refine r_pure rfl rfl rfl rfl rfl (by apply hL <;> (first | assumption | omega | exact bytesT_map _ _ | exact bytesT_s _ | exact catsT_map _ _ | exact catsT_c _ | rfl | (simp; omega))) ?_ | refine r_pure rfl rfl rfl rfl rfl (by apply hP <;> (first | assumption | omega | exact bytesT_map _ _ | exact bytesT_s _ | exact catsT_map _ _ | exact catsT_c _ | rfl | (simp; omega))) ?_ | refine r_pure rfl rfl rfl rfl rfl (by apply hQ <;> (first | assumption | omega | exact bytesT_map _ _ | exact bytesT_s _ | exact catsT_map _ _ | exact catsT_c _ | rfl | (simp; omega))) ?_ | fail)
      | refine r_q hG rfl rfl rfl ?_))
    | (show AL _ _ _ _ _ _ _ _; first | refine al_s rfl rfl rfl ?_ | (refine al_nil ?_; first | show AW _ _ _ _ _ _ | show ∃ x', _ < _ ∧ _)) | (show AW _ _ (.seq _ _) _ _ _; refine aw_seq' ?_; intro Q1) | (show AW _ _ (.region _ _ false) _ _ _; refine aw_regL' ?_; intro O1) | (show AW _ _ (.cond _ _ _) _ _ _; first | refine aw_if_t rfl ?_ | refine aw_if_f rfl ?_) | (show AW _ _ (.skip) _ _ _; refine aw_skip ?_; first | show AW _ _ _ _ _ _ | show ∃ x', _ < _ ∧ _) | (show AW _ _ (.ret) _ _ _; refine aw_ret ?_; try dsimp only [thenA, inBlockA, jumpA, noGotoA]) | fail)
    exact ret_pure (res_tmp rfl res_nil) (.refl _) rfl
  · rw [hm] at hP hQ
    rw [if_pos rfl] at hP hQ
    repeat' (first
    | ((show AL _ _ _ _ _ _ _ _; refine al_cons rfl ?_); (first
      | (show AOp _ _ ⟨_, .move _, _, _, _, _⟩ _ _ _; refine r_move hG rfl rfl ?_)
      | (show AOp _ _ ⟨_, .assign _, _, _, _, _⟩ _ _ _; refine r_asg hG rfl rfl ?_)
      | (show AOp _ _ ⟨_, .binOp _ _ _ _ _, _, _, _, _⟩ _ _ _; first | refine r_cmpT hG rfl rfl rfl rfl rfl (by omega) ?_ | refine r_cmpF hG rfl rfl rfl rfl rfl (by omega) ?_ | refine r_strT hG rfl rfl rfl rfl (by first | rfl | assumption) ?_ | refine r_strnF hG rfl rfl rfl rfl (by first | rfl | assumption) ?_ | refine r_strF hG rfl rfl rfl rfl (by assumption) ?_ | refine r_strnT hG rfl rfl rfl rfl (by assumption) ?_ | (refine r_cmp hG rfl rfl rfl rfl rfl (fun h => ?_) (fun h => ?_)) | (first | refine r_str hG rfl rfl rfl rfl (fun h => ?_) (fun h => ?_) | refine r_strn hG rfl rfl rfl rfl (fun h => ?_) (fun h => ?_)) | refine r_beq hG rfl rfl rfl rfl rfl ?_ | refine r_bin' hG rfl rfl rfl ?_)
      | (show AOp _ _ ⟨_, .load _ _, _, _, _, _⟩ _ _ _; first | refine r_ldro hG rfl rfl rfl ?_ | refine r_ld 0 hG rfl rfl rfl rfl ?_ | refine r_ld 1 hG rfl rfl rfl rfl ?_ | refine r_ld 2 hG rfl rfl rfl rfl ?_ | refine r_ld 3 hG rfl rfl rfl rfl ?_)
      | (show AOp _ _ ⟨_, .convert _ _ _, _, _, _, _⟩ _ _ _; first | refine r_tostr hG rfl rfl rfl rfl rfl rfl rfl rfl (by first | exact bytesT_map _ _ | exact bytesT_s _ | rfl) ?_ | refine r_cv8 hG rfl rfl rfl rfl rfl rfl ?_ | refine r_cv16 hG rfl rfl rfl rfl rfl rfl ?_ | refine r_cv_i64 hG rfl rfl rfl rfl rfl (by omega) ?_ | refine r_cv_u64 hG rfl rfl rfl rfl rfl (by omega) ?_ | refine r_cv_u8 hG rfl rfl rfl rfl rfl (by omega) ?_ | refine r_cv_u16 hG rfl rfl rfl rfl rfl (by omega) ?_ | refine r_cvw hG rfl rfl rfl rfl rfl ?_)
      | (show AOp _ _ ⟨_, .pick _ _ _, _, _, _, _⟩ _ _ _; refine r_pick hG rfl rfl rfl ?_)
      | (show AOp _ _ ⟨_, .unOp _ _ _, _, _, _, _⟩ _ _ _; refine r_not hG rfl rfl rfl ?_)
      | (show AOp _ _ ⟨_, .box _ _, _, _, _, _⟩ _ _ _; refine r_box hG rfl rfl rfl (fun i => ?_))
      | (show AOp _ _ ⟨_, .call ⟨.value _, _, _⟩, _, _, _, _⟩ _ _ _; first | refine r_pure rfl rfl rfl rfl rfl (by apply o2_begun <;> (first | assumption | omega | exact bytesT_map _ _ | exact bytesT_s _ | exact catsT_map _ _ | exact catsT_c _ | rfl | (simp; omega))) ?_ | refine r_pure rfl rfl rfl rfl rfl (by apply hL <;> (first | assumption | omega | exact bytesT_map _ _ | exact bytesT_s _ | exact catsT_map _ _ | exact catsT_c _ | rfl | (simp; omega))) ?_ | refine r_pure rfl rfl rfl rfl rfl (by apply hP <;> (first | assumption | omega | exact bytesT_map _ _ | exact bytesT_s _ | exact catsT_map _ _ | exact catsT_c _ | rfl | (simp; omega))) ?_ | refine r_pure rfl rfl rfl rfl rfl (by apply hQ <;> (first | assumption | omega | exact bytesT_map _ _ | exact bytesT_s _ | exact catsT_map _ _ | exact catsT_c _ | rfl | (simp; omega))) ?_ | fail)
      | refine r_q hG rfl rfl rfl ?_))
    | (show AL _ _ _ _ _ _ _ _; first | refine al_s rfl rfl rfl ?_ | (refine al_nil ?_; first | show AW _ _ _ _ _ _ | show ∃ x', _ < _ ∧ _)) | (show AW _ _ (.seq _ _) _ _ _; refine aw_seq' ?_; intro Q1) | (show AW _ _ (.region _ _ false) _ _ _; refine aw_regL' ?_; intro O1) | (show AW _ _ (.cond _ _ _) _ _ _; first | refine aw_if_t rfl ?_ | refine aw_if_f rfl ?_) | (show AW _ _ (.skip) _ _ _; refine aw_skip ?_; first | show AW _ _ _ _ _ _ | show ∃ x', _ < _ ∧ _) | (show AW _ _ (.ret) _ _ _; refine aw_ret ?_; try dsimp only [thenA, inBlockA, jumpA, noGotoA]) | fail)
    exact ret_pure (res_tmp rfl res_nil) (.refl _) rfl
end Go.Proofs.Ytholeicgmkjadaa
namespace Go.Proofs.Ytholeicgmkjadaa
open Go.Ts Go.Sets
set_option linter.unusedSimpArgs false
set_option linter.unusedVariables false
theorem ty_int {G : Nat → Option TI} {n t : Nat} {cs : List T} {ti : TI} {k : IntKind} (h : Ty G (n + 1) t cs) (ht : G t = some ti) (htd : ti.d = .int k) : ∃ v, cs = [.int k v] ∧ (Lit.int k v).wf = true := by
  simpa only [Ty, ht, htd] using h
theorem ty_struct {G : Nat → Option TI} {n t : Nat} {cs : List T} {ti : TI} {fs : List (Nat × Nat)} (h : Ty G (n + 1) t cs) (ht : G t = some ti) (htd : ti.d = .struct fs) : TyFs (Ty G n) fs cs := by
  simpa only [Ty, ht, htd] using h
theorem argTy_obj {G : Nat → Option TI} {n t tq ti8 tl ts tb tc tr tu tps t16 o0 o1 o2 o3 o4 o5 o6 o7 o8 o9 o10 o11 o12 o13 o14 : Nat} {tp : Nat} {x : T} {it iq ii il is ib ic ir iu ips i16 ip : TI}
    (h : ArgTy G (n + 6) t x) (ht : G t = some it) (htd : it.d = .struct [(o0, tq), (o1, ti8), (o2, tl), (o3, ts), (o4, ti8), (o5, ti8), (o6, ti8), (o7, tb), (o8, tc), (o9, tr)])
    (hq : G tq = some iq) (hqd : iq.d = .int .u64) (hi : G ti8 = some ii) (hid : ii.d = .int .i64) (hl : G tl = some il) (hld : il.d = .struct [(o10, tu), (o11, tps)]) (hs : G ts = some is) (hsd : is.d = .struct [(o12, tc), (o13, tc), (o14, tc)])
    (hb : G tb = some ib) (hbd : ib.d = .slice tu) (hbs : ib.size = 1) (hc : G tc = some ic) (hcd : ic.d = .slice t16) (hr : G tr = some ir) (hrd : ir.d = .slice tb) (hu : G tu = some iu) (hud : iu.d = .int .u8) (hus : iu.size = 1)
    (hps : G tps = some ips) (hpsd : ips.d = .slice tp) (hp : G tp = some ip) (hpz : ip.size = 2) (h16 : G t16 = some i16) (h16d : i16.d = .int .u16) (h16s : i16.size = 1) :
    ∃ o : OB, x = o.t ∧ o.Fits := by
  obtain ⟨cs, rfl, p0, q0, rfl, f0, p1, q1, rfl, f1, p2, q2, rfl, f2, p3, q3, rfl, f3, p4, q4, rfl, f4, p5, q5, rfl, f5, p6, q6, rfl, f6, p7, q7, rfl, f7, p8, q8, rfl, f8, p9, q9, rfl, f9, rfl⟩ := argTy_struct h ht htd
  obtain ⟨v0, rfl, w0⟩ := ty_int f0 hq hqd
  obtain ⟨v1, rfl, w1⟩ := ty_int f1 hi hid
  obtain ⟨l1, m1, rfl, g1, l2, m2, rfl, g2, rfl⟩ := ty_struct f2 hl hld
  obtain ⟨vd, rfl, wd⟩ := ty_int g1 hu hud
  obtain ⟨xs, rfl, hxs, _⟩ := ty_slice g2 hps hpsd
  obtain ⟨s1, n1, rfl, e1, s2, n2, rfl, e2, s3, n3, rfl, e3, rfl⟩ := ty_struct f3 hs hsd
  obtain ⟨a, rfl, ha⟩ := ty_cats e1 hc hcd h16 h16d h16s
  obtain ⟨b, rfl, hb'⟩ := ty_cats e2 hc hcd h16 h16d h16s
  obtain ⟨c, rfl, hc'⟩ := ty_cats e3 hc hcd h16 h16d h16s
  obtain ⟨v4, rfl, w4⟩ := ty_int f4 hi hid
  obtain ⟨v5, rfl, w5⟩ := ty_int f5 hi hid
  obtain ⟨v6, rfl, w6⟩ := ty_int f6 hi hid
  obtain ⟨d, rfl, hd⟩ := ty_bytes f7 hb hbd hu hud hus
  obtain ⟨cc, rfl, hcc⟩ := ty_cats f8 hc hcd h16 h16d h16s
  obtain ⟨r, rfl, hr1, hr2⟩ := ty_letters f9 hr hrd hb hbd hbs hu hud hus
  have u0 := wf_u64 w0
  have ud := wf_u8 wd
  refine ⟨⟨v0.toNat, v1, vd.toNat, xs, a, b, c, v4, v5, v6, d, cc, r⟩, ?_, ⟨by show v0.toNat < _; omega, ha, hb', hc', hd, hcc, hr1, hr2, hxs⟩⟩
  have e0 : ((v0.toNat : Nat) : Int) = v0 := by omega
  have e9 : ((vd.toNat : Nat) : Int) = vd := by omega
  simp only [OB.t, e0, e9, sizeT, hp, hpz, lT, Option.map_some, Option.getD_some, List.cons_append, List.nil_append]
theorem object2All_law (_W : World) (x : T) (tx : ArgTy G 6 42 x) : ACalls Try.prog 4 [x] σ0 (fun r _ => r = .bool true) := by
  obtain ⟨o, rfl, h⟩ := argTy_obj (n := 0) tx rfl rfl rfl rfl rfl rfl rfl rfl rfl rfl rfl rfl rfl rfl rfl rfl rfl rfl rfl rfl rfl rfl rfl rfl rfl rfl rfl
  exact (object2All_pure h (fun _ _ => False)).mono fun _ _ h => h.1
end Go.Proofs.Ytholeicgmkjadaa
