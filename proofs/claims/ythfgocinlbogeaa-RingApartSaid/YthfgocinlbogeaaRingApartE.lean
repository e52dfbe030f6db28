/- Part of the proof of the law RingApart: the texts BE. No conditions. -/
import Derived.Test.YthfgocinlbogeaaRingApartD
import Derived.KernelRfl
set_option linter.unusedSimpArgs false
set_option linter.unusedVariables false
namespace Go.Ts
def f8 (n : Int) : T := .int .u8 n
theorem f8_cells (x : Int) : (f8 x).cells = [f8 x] := rfl
theorem f8_sc (x : Int) : (notRaw (f8 x) && (f8 x).cells.all T.scalar) = true := rfl
def rowI : List Int × Nat → List (Nat × Ob)
  | ([], _) => []
  | (x :: b, i) => [(i, .cells ((x :: b).map f8))]
def xorI (n m : Int) : Int := IntKind.u8.wrap ↑(BitVec.ofInt IntKind.u8.bits n ^^^ BitVec.ofInt IntKind.u8.bits m).toNat
theorem sub_mid {α : Type} (A B C : List α) : (B ++ []).Sublist ((A ++ B) ++ C) := by
  rw [List.append_nil]; exact (List.sublist_append_right A B).trans (List.sublist_append_left _ C)
theorem rowI_ne : ∀ {ns : List Int} {i : Nat}, ns ≠ [] → rowI (ns, i) = [(i, .cells (ns.map f8))]
  | [], _, h => absurd rfl h
  | _ :: _, _, _ => rfl
def rowsI (qs : List (List Int × Nat)) : List (Nat × Ob) := qs.flatMap rowI
def toI (p : List UInt8 × Nat) : List Int × Nat := (p.1.map fun x => (x.toNat : Int), p.2)
theorem rowP_I (p : List UInt8 × Nat) : rowP p = rowI (toI p) := by
  obtain ⟨b, i⟩ := p
  cases b with
  | nil => rfl
  | cons x b => simp [rowP, rowI, toI, bT, f8]
theorem rowsF_I (ps : List (List UInt8 × Nat)) : rowsF ps = rowsI (ps.map toI) := by
  unfold rowsF rowsI
  rw [List.flatMap_map]
  congr 1
  funext p
  exact rowP_I p
theorem rowsI_at : ∀ (qs : List (List Int × Nat)) (j : Nat), j < qs.length → (qs.getD j default).1 ≠ [] → ∃ n, ∀ rest, (rowsI qs ++ rest)[n]? = some ((qs.getD j default).2, .cells ((qs.getD j default).1.map f8)) ∧
    ∀ ns : List Int, ns.length = (qs.getD j default).1.length → (rowsI qs ++ rest).set n ((qs.getD j default).2, .cells (ns.map f8)) = rowsI (qs.set j (ns, (qs.getD j default).2)) ++ rest
  | [], j, h, _ => by simp at h
  | (b, i) :: qs, 0, h, hne => by
    refine ⟨0, fun rest => ?_⟩
    simp only [List.getD_cons_zero] at hne ⊢
    cases b with
    | nil => exact absurd rfl hne
    | cons x b =>
      refine ⟨rfl, fun ns hn => ?_⟩
      cases ns with
      | nil => simp at hn
      | cons y ns => rfl
  | q :: qs, j + 1, h, hne => by
    simp only [List.getD_cons_succ] at hne ⊢
    obtain ⟨n, hn⟩ := rowsI_at qs j (by simpa using h) hne
    refine ⟨(rowI q).length + n, fun rest => ?_⟩
    obtain ⟨h1, h2⟩ := hn rest
    have e : rowsI (q :: qs) ++ rest = rowI q ++ (rowsI qs ++ rest) := by simp [rowsI]
    rw [e]
    refine ⟨by rw [List.getElem?_append_right (by omega), Nat.add_sub_cancel_left]; exact h1, fun ns hns => ?_⟩
    rw [List.set_append_right _ _ (by omega), Nat.add_sub_cancel_left, h2 ns hns, List.set_cons_succ]
    simp [rowsI]
end Go.Ts
namespace Go.Proofs.Ythfgocinlbogeaa
open Go.Ts
set_option linter.unusedSimpArgs false
set_option linter.unusedVariables false
set_option linter.unnecessarySimpa false
attribute [local irreducible] Go.Ts.AW Go.Ts.AOps Go.Ts.AL Go.Ts.AOp Go.Ts.ACalls Go.Ts.DL Go.Ts.DQ0 Go.Ts.EL
set_option maxRecDepth 100000 in
theorem r_begun : Ts.Pure Try.prog 17 [] (.bool true) := run_pure0 (M := mach noLive kn2) (mach_ok noLive kn2_ok) (n := 20000) (by kernel_rfl)
theorem r_app0v {N : Nat} {σ : St} {a : Env} {K : Env → St → Prop} {d : Tmp} {ty : TypeId} {pos : String} {af : Array Edge} {gd : Option (Nat × Bool)} {P : Program} {G : Nat → Option TI} {x y : Operand} {t1 t2 : TypeId} {e : Nat} {i1 i2 ie : TI} {b : List UInt8} (hG : Fits P G)
    (hx : Aa a x = some (.sl 1 .full [])) (h1 : G t1 = some i1) (h1d : i1.d = .slice e) (he : G e = some ie) (h2 : G t2 = some i2) (h2d : ∃ e2, i2.d = .slice e2)
    (hy : Aa a y = some (sT b)) (hs : ie.size = 1) (hby : Nat.ble ie.bytes 4096 = true) (hd : Ag N (some d) = true) (hnx : σ.nx = none) (hl : b.length ≤ 4294967296)
    (k : ∀ i, K (put a (some d) (letT (b, i))) { σ with L := rowP (b, i) ++ σ.L }) : AOp P N ⟨some d, .call ⟨.builtin .append, #[x, y], #[t1, t2]⟩, ty, pos, af, gd⟩ a σ K := by
  cases b with
  | nil =>
    refine aop_wk (t := .sl 1 .full []) (u := .sl 1 .no []) ?_ (.own 1 .full []) (k 0)
    exact aop_append_nil hG rfl h1 h1d he h2 h2d hx rfl hy (objs := fun _ => none) (fun i o h => by cases h) (by rw [hs]; rfl) hd ⟨rfl, rfl⟩
  | cons z b =>
    refine aop_app0N (objs := fun _ => none) (ys := (z :: b).map bT) hG rfl h1 h1d he h2 h2d (by rw [hs]; exact hx) hy (fun i o h => by cases h) (by rw [hs]; rfl) (by rw [hs, hby]; rfl) (by simp) (by simpa using hl) hd (fun i _ => ?_)
    have e1 : flat ((z :: b).map bT) = (z :: b).map bT := (flat_scalar (xs := (z :: b).map bT) (by simp [List.all_map, bT, T.scalar])).1
    have e2 : σ.new i (.cells ((z :: b).map bT)) = { σ with L := rowP (z :: b, i) ++ σ.L } := by
      obtain ⟨L, R, off, nx⟩ := σ
      simp only at hnx; subst hnx; rfl
    rw [e1, hs, List.length_map, e2]
    exact k i
theorem r_lenP {N : Nat} {σ : St} {a : Env} {K : Env → St → Prop} {d : Tmp} {ty : TypeId} {pos : String} {af : Array Edge} {gd : Option (Nat × Bool)} {P : Program} {G : Nat → Option TI} {x : Operand} {t e : TypeId} {p : List UInt8 × Nat} {n : Nat} {ti : TI} (hn : p.1.length = n) (hG : Fits P G)
    (hx : Aa a x = some (letT p)) (ht : G t = some ti) (htd : ti.d = .slice e) (hd : Ag N (some d) = true) (k : K (put a (some d) (.int .i64 (n : Int))) σ) : AOp P N ⟨some d, .call ⟨.builtin .len, #[x], #[t]⟩, ty, pos, af, gd⟩ a σ K := by
  subst hn
  obtain ⟨b, i⟩ := p
  refine op_q hG (t := .int .i64 (b.length : Int)) ?_ rfl hd k
  obtain ⟨d1, s1, s2, s3⟩ := ti
  simp only at htd; subst htd
  cases b with
  | nil => simp [A8, hx, ht, letT]
  | cons z b => simp [A8, hx, ht, letT]
theorem r_lenV {N : Nat} {σ : St} {a : Env} {K : Env → St → Prop} {d : Tmp} {ty : TypeId} {pos : String} {af : Array Edge} {gd : Option (Nat × Bool)} {P : Program} {G : Nat → Option TI} {x : Operand} {t e : TypeId} {b : List UInt8} {i : Nat} {ti : TI} (hG : Fits P G)
    (hx : Aa a x = some (letT (b, i))) (ht : G t = some ti) (htd : ti.d = .slice e) (hd : Ag N (some d) = true) (k : K (put a (some d) (.int .i64 (b.length : Int))) σ) : AOp P N ⟨some d, .call ⟨.builtin .len, #[x], #[t]⟩, ty, pos, af, gd⟩ a σ K := r_lenP (p := (b, i)) rfl hG hx ht htd hd k
theorem readV (p : List UInt8 × Nat) : readT G 22 (letT p).cells 0 = some (letT p) := by obtain ⟨b, i⟩ := p; cases b <;> rfl
structure RaX (b : List UInt8) where
  i : Nat
  ns : List Int
  hi : i ≤ b.length
  hn : ns.length = b.length
structure RaY (qs0 : List (List Int × Nat)) (n : Nat) where
  i : Nat
  qs : List (List Int × Nat)
  hi : i ≤ n
  hl : qs.length = n
  hr : ∀ j, (qs.getD j default).2 = (qs0.getD j default).2 ∧ (qs.getD j default).1.length = (qs0.getD j default).1.length
structure RaZ (qs0 : List (List Int × Nat)) (n j : Nat) where
  k : Nat
  qs : List (List Int × Nat)
  hl : qs.length = n
  hr : ∀ j, (qs.getD j default).2 = (qs0.getD j default).2 ∧ (qs.getD j default).1.length = (qs0.getD j default).1.length
  hk : k ≤ (qs0.getD j default).1.length
theorem rel_set {qs qs0 : List (List Int × Nat)} {j : Nat} {ns : List Int} (h : ∀ j, (qs.getD j default).2 = (qs0.getD j default).2 ∧ (qs.getD j default).1.length = (qs0.getD j default).1.length) (hn : ns.length = (qs.getD j default).1.length) :
    ∀ m, ((qs.set j (ns, (qs.getD j default).2)).getD m default).2 = (qs0.getD m default).2 ∧ ((qs.set j (ns, (qs.getD j default).2)).getD m default).1.length = (qs0.getD m default).1.length := by
  intro m
  by_cases e : j = m
  · subst e
    by_cases hj : j < qs.length
    · simp only [List.getD, List.getElem?_set_self hj, Option.getD_some]
      have := h j
      simp only [List.getD] at this hn
      exact ⟨this.1, by rw [hn]; exact this.2⟩
    · rw [List.set_eq_of_length_le (by omega)]; exact h j
  · simp only [List.getD, List.getElem?_set_ne e]
    exact h m
set_option maxHeartbeats 4000000 in
theorem ringApart_pure {l : List (List UInt8)} {b : List UInt8} (hl : l.length ≤ bigLen) (hlb : ∀ c ∈ l, c.length ≤ bigLen) (hb : b.length ≤ bigLen) : Ts.Pure Try.prog 4 [lT l, sT b] (.bool true) := by
  have h0 := r_begun
  have hm := ref_MayRing (lettersT_l l) hl hlb
  intro off
  by_cases h3 : 3 < l.length
  · refine acalls_mk (N := 127) (rs := [.tmp 4]) hG Try.func4 rfl rfl rfl rfl rfl ?_
    repeat' (first
    | ((first | (show AL _ _ _ _ _ _ _ _; refine Ab Y ?_) | (show DL _ _ _ _ _ _ _; refine' Bk Y Y (fun K kk => ?_) ?_; try (show Go.Ts.T; rotate_left))); (first
      | refine Ar hG Y Y ?_
      | refine Be hG Y Y ?_
      | (show AOp _ _ ⟨_, .call ⟨.builtin .len, _, _⟩, _, _, _, _⟩ _ _ _; first | refine A3 hG Y Y Y Y ?_ | refine r_len hG Y Y Y Y Y ?_)
      | (show AOp _ _ ⟨_, .binOp .add _ _ _ _, _, _, _, _⟩ _ _ _; first | refine A7 hG Y Y Y Y Y (by omega) ?_ | refine A7 (m := 1) hG Y Y Y Y Y (by omega) ?_ | refine As hG Y Y Y Y Y (by omega) ?_)
      | (show AOp _ _ ⟨_, .binOp .xor _ _ _ _, _, _, _, _⟩ _ _ _; refine r_xorU hG Y Y Y Y (by omega) ?_)
      | (show AOp _ _ ⟨_, .binOp _ _ _ _ _, _, _, _, _⟩ _ _ _; first | refine A5 hG Y Y Y Y Y (by omega) ?_ | refine A4 hG Y Y Y Y Y (by omega) ?_ | refine r_strT hG Y Y Y Y (by first | rfl | assumption) ?_ | refine r_strnF hG Y Y Y Y (by first | rfl | assumption) ?_ | refine r_strF hG Y Y Y Y (by assumption) ?_ | refine r_strnT hG Y Y Y Y (by assumption) ?_ | ((fail_if_success have := kk); refine Au hG Y Y Y Y Y (fun h => ?_) (fun h => ?_)) | ((fail_if_success have := kk); first | refine r_str hG Y Y Y Y (fun h => ?_) (fun h => ?_) | refine A1 hG Y Y Y Y (fun h => ?_) (fun h => ?_)) | refine r_bin' hG Y Y Y ?_)
      | (show AOp _ _ ⟨_, .load _ _, _, _, _, _⟩ _ _ _; first | refine Az (α := UInt16) 0 hG Y Y Y Y (by omega) Y ?_ | refine Az (α := UInt16) 1 hG Y Y Y Y (by omega) Y ?_ | refine A9 hG Y Y Y ?_ | refine r_ld 0 hG Y Y Y Y ?_)
      | (show AOp _ _ ⟨_, .indexAddr _ _ _, _, _, _, _⟩ _ _ _; first | refine Bm hG Y Y Y Y Y Y Y (by omega) ?_ | refine Ba hG Y Y Y Y Y Y Y (by omega) ?_ | refine Bc hG Y Y Y Y Y Y Y (by omega) ?_ | refine r_idx hG Y Y ?_)
      | (show AOp _ _ ⟨_, .convert _ _ _, _, _, _, _⟩ _ _ _; first | refine r_tostr hG Y Y Y Y Y Y Y Y (by first | exact Ae _ _ | exact Ao _ | rfl) ?_)
      | refine r_pick hG Y Y Y ?_
      | refine r_not hG Y Y Y ?_
      | (show AOp _ _ ⟨_, .buildSlice _ _ _, _, _, _, _⟩ _ _ _; first | refine r_mk (sz := 1) hG Y Y Y Y Y Y Y ?_)
      | (show AOp _ _ ⟨_, .store _ _ _, _, _, _, _⟩ _ _ _; first | refine r_stL (α := UInt16) 0 hG Y Y Y hT_cells hT_sc Y Y (by first | omega | (simp only [Array.size_setIfInBounds]; omega)) ?_ | refine r_stL (α := UInt16) 1 hG Y Y Y hT_cells hT_sc Y Y (by first | omega | (simp only [Array.size_setIfInBounds]; omega)) ?_ | refine r_st 0 hG Y Y Y Y Y Y Y ?_)
      | (show AOp _ _ ⟨_, .call ⟨.builtin .append, _, _⟩, _, _, _, _⟩ _ _ _; first | refine A0 (sz := 1) (xs := []) hG Y Y Y Y Y Y Y ⟨_, Y⟩ Y Y Y Y Y Y Y (by first | omega | (simp; omega)) (fun k => ?_) | refine Bb 0 hG Y Y Y Y Y Y Y ⟨_, Y⟩ Y Y Y Y Y (by first | omega | (simp only [List.length_append, List.length_cons, List.length_nil]; omega)) (fun k => ?_) | fail)
      | (show AOp _ _ ⟨_, .call ⟨.value _, _, _⟩, _, _, _, _⟩ _ _ _; first | refine r_pure Y Y Y Y Y (by first | (apply h0 <;> (first | assumption | omega | exact Ae _ _ | exact Ao _ | exact Bn _ _ | exact catsT_c _ | rfl | (simp; omega))) | fail) ?_ | fail)
      | refine r_q hG Y Y Y ?_); try exact kk)
    | (show AL _ _ _ _ _ _ _ _; first | refine al_s Y Y Y ?_ | (refine Aw ?_; first | show AW _ _ _ _ _ _ | show ∃ x', _ < _ ∧ _)) | (show AW _ _ (.seq _ _) _ _ _; refine Aj ?_; intro Q1) | (show AW _ _ (.region _ _ false) _ _ _; refine Af ?_; intro O1) | (show AW _ _ (.cond _ _ _) _ _ _; first | refine Al Y ?_ | refine Ak Y ?_ | refine aw_if Y (fun h => ?_) (fun h => ?_)) | (show AW _ _ (.skip) _ _ _; refine Ai ?_; first | show AW _ _ _ _ _ _ | show ∃ x', _ < _ ∧ _) | (show AW _ _ (.block _ _) _ _ _; refine Ah ?_; intro Q1) | (show AW _ _ (.exit _) _ _ _; refine Ax ?_; first | show AW _ _ _ _ _ _ | show ∃ x', _ < _ ∧ _) | (show AW _ _ (.ret) _ _ _; refine Av ?_; try dsimp only [Bf, Ac, Bh, Am])
    | (show DL _ _ _ _ _ _ _; refine dl_d Y Y (fun K kt kf => Au hG Y Y Y Y Y kt kf) (fun h => ?_) (fun h => ?_)) | (show DL _ _ _ _ _ _ _; refine dl_d Y Y (fun K kt kf => r_str hG Y Y Y Y kt kf) (fun h => ?_) (fun h => ?_)) | (show DL _ _ _ _ _ _ _; refine dl_ne Y Y (fun K kt kf => A1 hG Y Y Y Y kt kf) (fun h => ?_) (fun h => ?_))
    | (show DL _ _ _ _ _ _ _; refine dl_s Y Y Y ?_) | (show DL _ _ _ _ _ _ _; refine dl_nil ?_; first | show AW _ _ _ _ _ _ | show ∃ x', _ < _ ∧ _) | (show AW _ _ (.region _ _ true) _ _ _; refine Bi mix (by kernel_rfl) ?_; intro O1) | fail)
    exact ret_pure (res_tmp rfl res_nil) (.refl _) rfl
  by_cases hml : mayL l = true
  case neg =>
    rw [Bool.not_eq_true] at hml
    rw [hml] at hm
    refine acalls_mk (N := 127) (rs := [.tmp 4]) hG Try.func4 rfl rfl rfl rfl rfl ?_
    repeat' (first
    | ((first | (show AL _ _ _ _ _ _ _ _; refine Ab Y ?_) | (show DL _ _ _ _ _ _ _; refine' Bk Y Y (fun K kk => ?_) ?_; try (show Go.Ts.T; rotate_left))); (first
      | refine Ar hG Y Y ?_
      | refine Be hG Y Y ?_
      | (show AOp _ _ ⟨_, .call ⟨.builtin .len, _, _⟩, _, _, _, _⟩ _ _ _; first | refine A3 hG Y Y Y Y ?_ | refine r_len hG Y Y Y Y Y ?_)
      | (show AOp _ _ ⟨_, .binOp .add _ _ _ _, _, _, _, _⟩ _ _ _; first | refine A7 hG Y Y Y Y Y (by omega) ?_ | refine A7 (m := 1) hG Y Y Y Y Y (by omega) ?_ | refine As hG Y Y Y Y Y (by omega) ?_)
      | (show AOp _ _ ⟨_, .binOp .xor _ _ _ _, _, _, _, _⟩ _ _ _; refine r_xorU hG Y Y Y Y (by omega) ?_)
      | (show AOp _ _ ⟨_, .binOp _ _ _ _ _, _, _, _, _⟩ _ _ _; first | refine A5 hG Y Y Y Y Y (by omega) ?_ | refine A4 hG Y Y Y Y Y (by omega) ?_ | refine r_strT hG Y Y Y Y (by first | rfl | assumption) ?_ | refine r_strnF hG Y Y Y Y (by first | rfl | assumption) ?_ | refine r_strF hG Y Y Y Y (by assumption) ?_ | refine r_strnT hG Y Y Y Y (by assumption) ?_ | ((fail_if_success have := kk); refine Au hG Y Y Y Y Y (fun h => ?_) (fun h => ?_)) | ((fail_if_success have := kk); first | refine r_str hG Y Y Y Y (fun h => ?_) (fun h => ?_) | refine A1 hG Y Y Y Y (fun h => ?_) (fun h => ?_)) | refine r_bin' hG Y Y Y ?_)
      | (show AOp _ _ ⟨_, .load _ _, _, _, _, _⟩ _ _ _; first | refine Az (α := UInt16) 0 hG Y Y Y Y (by omega) Y ?_ | refine Az (α := UInt16) 1 hG Y Y Y Y (by omega) Y ?_ | refine A9 hG Y Y Y ?_ | refine r_ld 0 hG Y Y Y Y ?_)
      | (show AOp _ _ ⟨_, .indexAddr _ _ _, _, _, _, _⟩ _ _ _; first | refine Bm hG Y Y Y Y Y Y Y (by omega) ?_ | refine Ba hG Y Y Y Y Y Y Y (by omega) ?_ | refine Bc hG Y Y Y Y Y Y Y (by omega) ?_ | refine r_idx hG Y Y ?_)
      | (show AOp _ _ ⟨_, .convert _ _ _, _, _, _, _⟩ _ _ _; first | refine r_tostr hG Y Y Y Y Y Y Y Y (by first | exact Ae _ _ | exact Ao _ | rfl) ?_)
      | refine r_pick hG Y Y Y ?_
      | refine r_not hG Y Y Y ?_
      | (show AOp _ _ ⟨_, .buildSlice _ _ _, _, _, _, _⟩ _ _ _; first | refine r_mk (sz := 1) hG Y Y Y Y Y Y Y ?_)
      | (show AOp _ _ ⟨_, .store _ _ _, _, _, _, _⟩ _ _ _; first | refine r_stL (α := UInt16) 0 hG Y Y Y hT_cells hT_sc Y Y (by first | omega | (simp only [Array.size_setIfInBounds]; omega)) ?_ | refine r_stL (α := UInt16) 1 hG Y Y Y hT_cells hT_sc Y Y (by first | omega | (simp only [Array.size_setIfInBounds]; omega)) ?_ | refine r_st 0 hG Y Y Y Y Y Y Y ?_)
      | (show AOp _ _ ⟨_, .call ⟨.builtin .append, _, _⟩, _, _, _, _⟩ _ _ _; first | refine A0 (sz := 1) (xs := []) hG Y Y Y Y Y Y Y ⟨_, Y⟩ Y Y Y Y Y Y Y (by first | omega | (simp; omega)) (fun k => ?_) | refine Bb 0 hG Y Y Y Y Y Y Y ⟨_, Y⟩ Y Y Y Y Y (by first | omega | (simp only [List.length_append, List.length_cons, List.length_nil]; omega)) (fun k => ?_) | fail)
      | (show AOp _ _ ⟨_, .call ⟨.value _, _, _⟩, _, _, _, _⟩ _ _ _; first | refine r_pure Y Y Y Y Y (by first | (apply h0 <;> (first | assumption | omega | exact Ae _ _ | exact Ao _ | exact Bn _ _ | exact catsT_c _ | rfl | (simp; omega))) | fail) ?_ | refine r_pure Y Y Y Y Y (by first | (apply hm <;> (first | assumption | omega | exact Ae _ _ | exact Ao _ | exact Bn _ _ | exact catsT_c _ | rfl | (simp; omega))) | fail) ?_ | fail)
      | refine r_q hG Y Y Y ?_); try exact kk)
    | (show AL _ _ _ _ _ _ _ _; first | refine al_s Y Y Y ?_ | (refine Aw ?_; first | show AW _ _ _ _ _ _ | show ∃ x', _ < _ ∧ _)) | (show AW _ _ (.seq _ _) _ _ _; refine Aj ?_; intro Q1) | (show AW _ _ (.region _ _ false) _ _ _; refine Af ?_; intro O1) | (show AW _ _ (.cond _ _ _) _ _ _; first | refine Al Y ?_ | refine Ak Y ?_ | refine aw_if Y (fun h => ?_) (fun h => ?_)) | (show AW _ _ (.skip) _ _ _; refine Ai ?_; first | show AW _ _ _ _ _ _ | show ∃ x', _ < _ ∧ _) | (show AW _ _ (.block _ _) _ _ _; refine Ah ?_; intro Q1) | (show AW _ _ (.exit _) _ _ _; refine Ax ?_; first | show AW _ _ _ _ _ _ | show ∃ x', _ < _ ∧ _) | (show AW _ _ (.ret) _ _ _; refine Av ?_; try dsimp only [Bf, Ac, Bh, Am])
    | (show DL _ _ _ _ _ _ _; refine dl_d Y Y (fun K kt kf => Au hG Y Y Y Y Y kt kf) (fun h => ?_) (fun h => ?_)) | (show DL _ _ _ _ _ _ _; refine dl_d Y Y (fun K kt kf => r_str hG Y Y Y Y kt kf) (fun h => ?_) (fun h => ?_)) | (show DL _ _ _ _ _ _ _; refine dl_ne Y Y (fun K kt kf => A1 hG Y Y Y Y kt kf) (fun h => ?_) (fun h => ?_))
    | (show DL _ _ _ _ _ _ _; refine dl_s Y Y Y ?_) | (show DL _ _ _ _ _ _ _; refine dl_nil ?_; first | show AW _ _ _ _ _ _ | show ∃ x', _ < _ ∧ _) | (show AW _ _ (.region _ _ true) _ _ _; refine Bi mix (by kernel_rfl) ?_; intro O1) | fail)
    exact ret_pure (res_tmp rfl res_nil) (.refl _) rfl
  rw [hml] at hm
  by_cases h16 : 16 < b.length
  · refine acalls_mk (N := 127) (rs := [.tmp 4]) hG Try.func4 rfl rfl rfl rfl rfl ?_
    repeat' (first
    | ((first | (show AL _ _ _ _ _ _ _ _; refine Ab Y ?_) | (show DL _ _ _ _ _ _ _; refine' Bk Y Y (fun K kk => ?_) ?_; try (show Go.Ts.T; rotate_left))); (first
      | refine Ar hG Y Y ?_
      | refine Be hG Y Y ?_
      | (show AOp _ _ ⟨_, .call ⟨.builtin .len, _, _⟩, _, _, _, _⟩ _ _ _; first | refine A3 hG Y Y Y Y ?_ | refine r_len hG Y Y Y Y Y ?_)
      | (show AOp _ _ ⟨_, .binOp .add _ _ _ _, _, _, _, _⟩ _ _ _; first | refine A7 hG Y Y Y Y Y (by omega) ?_ | refine A7 (m := 1) hG Y Y Y Y Y (by omega) ?_ | refine As hG Y Y Y Y Y (by omega) ?_)
      | (show AOp _ _ ⟨_, .binOp .xor _ _ _ _, _, _, _, _⟩ _ _ _; refine r_xorU hG Y Y Y Y (by omega) ?_)
      | (show AOp _ _ ⟨_, .binOp _ _ _ _ _, _, _, _, _⟩ _ _ _; first | refine A5 hG Y Y Y Y Y (by omega) ?_ | refine A4 hG Y Y Y Y Y (by omega) ?_ | refine r_strT hG Y Y Y Y (by first | rfl | assumption) ?_ | refine r_strnF hG Y Y Y Y (by first | rfl | assumption) ?_ | refine r_strF hG Y Y Y Y (by assumption) ?_ | refine r_strnT hG Y Y Y Y (by assumption) ?_ | ((fail_if_success have := kk); refine Au hG Y Y Y Y Y (fun h => ?_) (fun h => ?_)) | ((fail_if_success have := kk); first | refine r_str hG Y Y Y Y (fun h => ?_) (fun h => ?_) | refine A1 hG Y Y Y Y (fun h => ?_) (fun h => ?_)) | refine r_bin' hG Y Y Y ?_)
      | (show AOp _ _ ⟨_, .load _ _, _, _, _, _⟩ _ _ _; first | refine Az (α := UInt16) 0 hG Y Y Y Y (by omega) Y ?_ | refine Az (α := UInt16) 1 hG Y Y Y Y (by omega) Y ?_ | refine A9 hG Y Y Y ?_ | refine r_ld 0 hG Y Y Y Y ?_)
      | (show AOp _ _ ⟨_, .indexAddr _ _ _, _, _, _, _⟩ _ _ _; first | refine Bm hG Y Y Y Y Y Y Y (by omega) ?_ | refine Ba hG Y Y Y Y Y Y Y (by omega) ?_ | refine Bc hG Y Y Y Y Y Y Y (by omega) ?_ | refine r_idx hG Y Y ?_)
      | (show AOp _ _ ⟨_, .convert _ _ _, _, _, _, _⟩ _ _ _; first | refine r_tostr hG Y Y Y Y Y Y Y Y (by first | exact Ae _ _ | exact Ao _ | rfl) ?_)
      | refine r_pick hG Y Y Y ?_
      | refine r_not hG Y Y Y ?_
      | (show AOp _ _ ⟨_, .buildSlice _ _ _, _, _, _, _⟩ _ _ _; first | refine r_mk (sz := 1) hG Y Y Y Y Y Y Y ?_)
      | (show AOp _ _ ⟨_, .store _ _ _, _, _, _, _⟩ _ _ _; first | refine r_stL (α := UInt16) 0 hG Y Y Y hT_cells hT_sc Y Y (by first | omega | (simp only [Array.size_setIfInBounds]; omega)) ?_ | refine r_stL (α := UInt16) 1 hG Y Y Y hT_cells hT_sc Y Y (by first | omega | (simp only [Array.size_setIfInBounds]; omega)) ?_ | refine r_st 0 hG Y Y Y Y Y Y Y ?_)
      | (show AOp _ _ ⟨_, .call ⟨.builtin .append, _, _⟩, _, _, _, _⟩ _ _ _; first | refine A0 (sz := 1) (xs := []) hG Y Y Y Y Y Y Y ⟨_, Y⟩ Y Y Y Y Y Y Y (by first | omega | (simp; omega)) (fun k => ?_) | refine Bb 0 hG Y Y Y Y Y Y Y ⟨_, Y⟩ Y Y Y Y Y (by first | omega | (simp only [List.length_append, List.length_cons, List.length_nil]; omega)) (fun k => ?_) | fail)
      | (show AOp _ _ ⟨_, .call ⟨.value _, _, _⟩, _, _, _, _⟩ _ _ _; first | refine r_pure Y Y Y Y Y (by first | (apply h0 <;> (first | assumption | omega | exact Ae _ _ | exact Ao _ | exact Bn _ _ | exact catsT_c _ | rfl | (simp; omega))) | fail) ?_ | refine r_pure Y Y Y Y Y (by first | (apply hm <;> (first | assumption | omega | exact Ae _ _ | exact Ao _ | exact Bn _ _ | exact catsT_c _ | rfl | (simp; omega))) | fail) ?_ | fail)
      | refine r_q hG Y Y Y ?_); try exact kk)
    | (show AL _ _ _ _ _ _ _ _; first | refine al_s Y Y Y ?_ | (refine Aw ?_; first | show AW _ _ _ _ _ _ | show ∃ x', _ < _ ∧ _)) | (show AW _ _ (.seq _ _) _ _ _; refine Aj ?_; intro Q1) | (show AW _ _ (.region _ _ false) _ _ _; refine Af ?_; intro O1) | (show AW _ _ (.cond _ _ _) _ _ _; first | refine Al Y ?_ | refine Ak Y ?_ | refine aw_if Y (fun h => ?_) (fun h => ?_)) | (show AW _ _ (.skip) _ _ _; refine Ai ?_; first | show AW _ _ _ _ _ _ | show ∃ x', _ < _ ∧ _) | (show AW _ _ (.block _ _) _ _ _; refine Ah ?_; intro Q1) | (show AW _ _ (.exit _) _ _ _; refine Ax ?_; first | show AW _ _ _ _ _ _ | show ∃ x', _ < _ ∧ _) | (show AW _ _ (.ret) _ _ _; refine Av ?_; try dsimp only [Bf, Ac, Bh, Am])
    | (show DL _ _ _ _ _ _ _; refine dl_d Y Y (fun K kt kf => Au hG Y Y Y Y Y kt kf) (fun h => ?_) (fun h => ?_)) | (show DL _ _ _ _ _ _ _; refine dl_d Y Y (fun K kt kf => r_str hG Y Y Y Y kt kf) (fun h => ?_) (fun h => ?_)) | (show DL _ _ _ _ _ _ _; refine dl_ne Y Y (fun K kt kf => A1 hG Y Y Y Y kt kf) (fun h => ?_) (fun h => ?_))
    | (show DL _ _ _ _ _ _ _; refine dl_s Y Y Y ?_) | (show DL _ _ _ _ _ _ _; refine dl_nil ?_; first | show AW _ _ _ _ _ _ | show ∃ x', _ < _ ∧ _) | (show AW _ _ (.region _ _ true) _ _ _; refine Bi mix (by kernel_rfl) ?_; intro O1) | fail)
    exact ret_pure (res_tmp rfl res_nil) (.refl _) rfl
  have hli : lightL l := fun c hc => by have := (mayL_iff.1 hml).2 c hc; omega
  have hli2 : lightL (l ++ [b]) := fun c hc => by
    rcases List.mem_append.1 hc with h | h
    · exact hli c h
    · rw [List.mem_singleton.1 h]; omega
  have hlen : (l ++ [b]).length = l.length + 1 := by simp
  have hC := ref_Copy (l := l) (by omega) hli
  have hC2 := ref_Copy (l := l ++ [b]) (by omega) hli2
  have hS := ref_SameRing (lettersT_l l) (lettersT_l l) (by omega) hli
  have hS2 := ref_SameRing (lettersT_l (l ++ [b])) (lettersT_l (l ++ [b])) (by omega) hli2
  have hlast : (l ++ [b]).getD l.length default = b := by simp [List.getD]
  refine acalls_mk (N := 127) (rs := [.tmp 4]) hG Try.func4 rfl rfl rfl rfl rfl ?_
  repeat' (first
    | ((first | (show AL _ _ _ _ _ _ _ _; refine Ab Y ?_) | (show DL _ _ _ _ _ _ _; refine' Bk Y Y (fun K kk => ?_) ?_; try (show Go.Ts.T; rotate_left))); (first
      | refine Ar hG Y Y ?_
      | refine Be hG Y Y ?_
      | (show AOp _ _ ⟨_, .call ⟨.builtin .len, _, _⟩, _, _, _, _⟩ _ _ _; first | refine A3 hG Y Y Y Y ?_ | refine r_len hG Y Y Y Y Y ?_)
      | (show AOp _ _ ⟨_, .binOp .add _ _ _ _, _, _, _, _⟩ _ _ _; first | refine A7 hG Y Y Y Y Y (by omega) ?_ | refine A7 (m := 1) hG Y Y Y Y Y (by omega) ?_ | refine As hG Y Y Y Y Y (by omega) ?_)
      | (show AOp _ _ ⟨_, .binOp .xor _ _ _ _, _, _, _, _⟩ _ _ _; refine r_xorU hG Y Y Y Y (by omega) ?_)
      | (show AOp _ _ ⟨_, .binOp _ _ _ _ _, _, _, _, _⟩ _ _ _; first | refine A5 hG Y Y Y Y Y (by omega) ?_ | refine A4 hG Y Y Y Y Y (by omega) ?_ | refine r_strT hG Y Y Y Y (by first | rfl | assumption) ?_ | refine r_strnF hG Y Y Y Y (by first | rfl | assumption) ?_ | refine r_strF hG Y Y Y Y (by assumption) ?_ | refine r_strnT hG Y Y Y Y (by assumption) ?_ | ((fail_if_success have := kk); refine Au hG Y Y Y Y Y (fun h => ?_) (fun h => ?_)) | ((fail_if_success have := kk); first | refine r_str hG Y Y Y Y (fun h => ?_) (fun h => ?_) | refine A1 hG Y Y Y Y (fun h => ?_) (fun h => ?_)) | refine r_bin' hG Y Y Y ?_)
      | (show AOp _ _ ⟨_, .load _ _, _, _, _, _⟩ _ _ _; first | refine Az (α := UInt16) 0 hG Y Y Y Y (by omega) Y ?_ | refine Az (α := UInt16) 1 hG Y Y Y Y (by omega) Y ?_ | refine A9 hG Y Y Y ?_ | refine r_ld 0 hG Y Y Y Y ?_)
      | (show AOp _ _ ⟨_, .indexAddr _ _ _, _, _, _, _⟩ _ _ _; first | refine Bm hG Y Y Y Y Y Y Y (by omega) ?_ | refine Ba hG Y Y Y Y Y Y Y (by omega) ?_ | refine Bc hG Y Y Y Y Y Y Y (by omega) ?_ | refine r_idx hG Y Y ?_)
      | (show AOp _ _ ⟨_, .convert _ _ _, _, _, _, _⟩ _ _ _; first | refine r_tostr hG Y Y Y Y Y Y Y Y (by first | exact Ae _ _ | exact Ao _ | rfl) ?_)
      | refine r_pick hG Y Y Y ?_
      | refine r_not hG Y Y Y ?_
      | (show AOp _ _ ⟨_, .buildSlice _ _ _, _, _, _, _⟩ _ _ _; first | refine r_mk (sz := 1) hG Y Y Y Y Y Y Y ?_)
      | (show AOp _ _ ⟨_, .store _ _ _, _, _, _, _⟩ _ _ _; first | refine r_stL (α := UInt16) 0 hG Y Y Y hT_cells hT_sc Y Y (by first | omega | (simp only [Array.size_setIfInBounds]; omega)) ?_ | refine r_stL (α := UInt16) 1 hG Y Y Y hT_cells hT_sc Y Y (by first | omega | (simp only [Array.size_setIfInBounds]; omega)) ?_ | refine r_st 0 hG Y Y Y Y Y Y Y ?_)
      | (show AOp _ _ ⟨_, .call ⟨.builtin .append, _, _⟩, _, _, _, _⟩ _ _ _; fail)
      | (show AOp _ _ ⟨_, .call ⟨.value _, _, _⟩, _, _, _, _⟩ _ _ _; first | refine r_pure Y Y Y Y Y (by first | (apply h0 <;> (first | assumption | omega | exact Ae _ _ | exact Ao _ | exact Bn _ _ | exact catsT_c _ | rfl | (simp; omega))) | fail) ?_ | refine r_pure Y Y Y Y Y (by first | (apply hm <;> (first | assumption | omega | exact Ae _ _ | exact Ao _ | exact Bn _ _ | exact catsT_c _ | rfl | (simp; omega))) | fail) ?_ | refine r_pure Y Y Y Y Y (by first | (apply hC <;> (first | assumption | omega | exact Ae _ _ | exact Ao _ | exact Bn _ _ | exact catsT_c _ | rfl | (simp; omega))) | fail) ?_ | fail)
      | refine r_q hG Y Y Y ?_); try exact kk)
    | (show AL _ _ _ _ _ _ _ _; first | refine al_s Y Y Y ?_ | (refine Aw ?_; first | show AW _ _ _ _ _ _ | show ∃ x', _ < _ ∧ _)) | (show AW _ _ (.seq _ _) _ _ _; refine Aj ?_; intro Q1) | (show AW _ _ (.region _ _ false) _ _ _; refine Af ?_; intro O1) | (show AW _ _ (.cond _ _ _) _ _ _; first | refine Al Y ?_ | refine Ak Y ?_ | refine aw_if Y (fun h => ?_) (fun h => ?_)) | (show AW _ _ (.skip) _ _ _; refine Ai ?_; first | show AW _ _ _ _ _ _ | show ∃ x', _ < _ ∧ _) | (show AW _ _ (.block _ _) _ _ _; refine Ah ?_; intro Q1) | (show AW _ _ (.exit _) _ _ _; refine Ax ?_; first | show AW _ _ _ _ _ _ | show ∃ x', _ < _ ∧ _) | (show AW _ _ (.ret) _ _ _; refine Av ?_; try dsimp only [Bf, Ac, Bh, Am])
    | (show DL _ _ _ _ _ _ _; refine dl_d Y Y (fun K kt kf => Au hG Y Y Y Y Y kt kf) (fun h => ?_) (fun h => ?_)) | (show DL _ _ _ _ _ _ _; refine dl_d Y Y (fun K kt kf => r_str hG Y Y Y Y kt kf) (fun h => ?_) (fun h => ?_)) | (show DL _ _ _ _ _ _ _; refine dl_ne Y Y (fun K kt kf => A1 hG Y Y Y Y kt kf) (fun h => ?_) (fun h => ?_))
    | (show DL _ _ _ _ _ _ _; refine dl_s Y Y Y ?_) | (show DL _ _ _ _ _ _ _; refine dl_nil ?_; first | show AW _ _ _ _ _ _ | show ∃ x', _ < _ ∧ _) | (show AW _ _ (.region _ _ true) _ _ _; refine Bi mix (by kernel_rfl) ?_; intro O1) | fail)
  refine Ab rfl (r_app0v hG rfl rfl rfl rfl rfl ⟨_, rfl⟩ rfl rfl rfl rfl rfl (by omega) (fun it => ?_))
  have hP := And.intro (push_v (l := l) (b := b) (i := it) (by omega) hli (by omega)) (List.Perm.refl (rowP (b, it) ++ []))
  rw [rowP_I] at hP ⊢
  repeat' (first
    | ((first | (show AL _ _ _ _ _ _ _ _; refine Ab Y ?_) | (show DL _ _ _ _ _ _ _; refine' Bk Y Y (fun K kk => ?_) ?_; try (show Go.Ts.T; rotate_left))); (first
      | refine Ar hG Y Y ?_
      | refine Be hG Y Y ?_
      | (show AOp _ _ ⟨_, .call ⟨.builtin .len, _, _⟩, _, _, _, _⟩ _ _ _; first | refine A3 hG Y Y Y Y ?_ | refine r_len hG Y Y Y Y Y ?_)
      | (show AOp _ _ ⟨_, .binOp .add _ _ _ _, _, _, _, _⟩ _ _ _; first | refine A7 hG Y Y Y Y Y (by omega) ?_ | refine A7 (m := 1) hG Y Y Y Y Y (by omega) ?_ | refine As hG Y Y Y Y Y (by omega) ?_)
      | (show AOp _ _ ⟨_, .binOp .xor _ _ _ _, _, _, _, _⟩ _ _ _; refine r_xorU hG Y Y Y Y (by omega) ?_)
      | (show AOp _ _ ⟨_, .binOp _ _ _ _ _, _, _, _, _⟩ _ _ _; first | refine A5 hG Y Y Y Y Y (by omega) ?_ | refine A4 hG Y Y Y Y Y (by omega) ?_ | refine r_strT hG Y Y Y Y (by first | rfl | assumption) ?_ | refine r_strnF hG Y Y Y Y (by first | rfl | assumption) ?_ | refine r_strF hG Y Y Y Y (by assumption) ?_ | refine r_strnT hG Y Y Y Y (by assumption) ?_ | ((fail_if_success have := kk); refine Au hG Y Y Y Y Y (fun h => ?_) (fun h => ?_)) | ((fail_if_success have := kk); first | refine r_str hG Y Y Y Y (fun h => ?_) (fun h => ?_) | refine A1 hG Y Y Y Y (fun h => ?_) (fun h => ?_)) | refine r_bin' hG Y Y Y ?_)
      | (show AOp _ _ ⟨_, .load _ _, _, _, _, _⟩ _ _ _; first | refine Az (α := UInt16) 0 hG Y Y Y Y (by omega) Y ?_ | refine Az (α := UInt16) 1 hG Y Y Y Y (by omega) Y ?_ | refine A9 hG Y Y Y ?_ | refine r_ld 0 hG Y Y Y Y ?_)
      | (show AOp _ _ ⟨_, .indexAddr _ _ _, _, _, _, _⟩ _ _ _; first | refine Bm hG Y Y Y Y Y Y Y (by omega) ?_ | refine Ba hG Y Y Y Y Y Y Y (by omega) ?_ | refine Bc hG Y Y Y Y Y Y Y (by omega) ?_ | refine r_idx hG Y Y ?_)
      | (show AOp _ _ ⟨_, .convert _ _ _, _, _, _, _⟩ _ _ _; first | refine r_tostr hG Y Y Y Y Y Y Y Y (by first | exact Ae _ _ | exact Ao _ | rfl) ?_)
      | refine r_pick hG Y Y Y ?_
      | refine r_not hG Y Y Y ?_
      | (show AOp _ _ ⟨_, .buildSlice _ _ _, _, _, _, _⟩ _ _ _; first | refine r_mk (sz := 1) hG Y Y Y Y Y Y Y ?_)
      | (show AOp _ _ ⟨_, .store _ _ _, _, _, _, _⟩ _ _ _; first | refine r_stL (α := UInt16) 0 hG Y Y Y hT_cells hT_sc Y Y (by first | omega | (simp only [Array.size_setIfInBounds]; omega)) ?_ | refine r_stL (α := UInt16) 1 hG Y Y Y hT_cells hT_sc Y Y (by first | omega | (simp only [Array.size_setIfInBounds]; omega)) ?_ | refine r_st 0 hG Y Y Y Y Y Y Y ?_)
      | (show AOp _ _ ⟨_, .call ⟨.builtin .append, _, _⟩, _, _, _, _⟩ _ _ _; first | refine A0 (sz := 1) (xs := []) hG Y Y Y Y Y Y Y ⟨_, Y⟩ Y Y Y Y Y Y Y (by first | omega | (simp; omega)) (fun k => ?_) | refine Bb 0 hG Y Y Y Y Y Y Y ⟨_, Y⟩ Y Y Y Y Y (by first | omega | (simp only [List.length_append, List.length_cons, List.length_nil]; omega)) (fun k => ?_) | fail)
      | (show AOp _ _ ⟨_, .call ⟨.value _, _, _⟩, _, _, _, _⟩ _ _ _; first | refine r_onS Y Y Y Y hP.1 hP.2 ?_ | fail)
      | refine r_q hG Y Y Y ?_); try exact kk)
    | (show AL _ _ _ _ _ _ _ _; first | refine al_s Y Y Y ?_ | (refine Aw ?_; first | show AW _ _ _ _ _ _ | show ∃ x', _ < _ ∧ _)) | (show AW _ _ (.seq _ _) _ _ _; refine Aj ?_; intro Q1) | (show AW _ _ (.region _ _ false) _ _ _; refine Af ?_; intro O1) | (show AW _ _ (.cond _ _ _) _ _ _; first | refine Al Y ?_ | refine Ak Y ?_ | refine aw_if Y (fun h => ?_) (fun h => ?_)) | (show AW _ _ (.skip) _ _ _; refine Ai ?_; first | show AW _ _ _ _ _ _ | show ∃ x', _ < _ ∧ _) | (show AW _ _ (.block _ _) _ _ _; refine Ah ?_; intro Q1) | (show AW _ _ (.exit _) _ _ _; refine Ax ?_; first | show AW _ _ _ _ _ _ | show ∃ x', _ < _ ∧ _) | (show AW _ _ (.ret) _ _ _; refine Av ?_; try dsimp only [Bf, Ac, Bh, Am])
    | (show DL _ _ _ _ _ _ _; refine dl_d Y Y (fun K kt kf => Au hG Y Y Y Y Y kt kf) (fun h => ?_) (fun h => ?_)) | (show DL _ _ _ _ _ _ _; refine dl_d Y Y (fun K kt kf => r_str hG Y Y Y Y kt kf) (fun h => ?_) (fun h => ?_)) | (show DL _ _ _ _ _ _ _; refine dl_ne Y Y (fun K kt kf => A1 hG Y Y Y Y kt kf) (fun h => ?_) (fun h => ?_))
    | (show DL _ _ _ _ _ _ _; refine dl_s Y Y Y ?_) | (show DL _ _ _ _ _ _ _; refine dl_nil ?_; first | show AW _ _ _ _ _ _ | show ∃ x', _ < _ ∧ _) | (show AW _ _ (.region _ _ true) _ _ _; refine Bi mix (by kernel_rfl) ?_; intro O1) | fail)
  refine aw_loop (X := RaX b) (fun x => [(0, lT l), (1, sT b), (5, lT l), (6, letT (b, it)), (7, lT (l ++ [b])), (9, .int .i64 (x.i : Int))]) (fun x => ⟨rowI (x.ns, it) ++ [], [], off, none⟩) (fun x => b.length - x.i) ⟨0, (toI (b, it)).1, Nat.zero_le _, by simp [toI]⟩ (by repeat (first | exact .nil _ | refine .cons rfl ?_)) (.refl _) ?_
  rintro ⟨i, ns, hi, hn⟩
  dsimp only
  by_cases hil : i < b.length
  · cases b with
    | nil => simp at hil
    | cons x b =>
      cases ns with
      | nil => simp at hn
      | cons y ns =>
        repeat' (first
    | ((first | (show AL _ _ _ _ _ _ _ _; refine Ab Y ?_) | (show DL _ _ _ _ _ _ _; refine' Bk Y Y (fun K kk => ?_) ?_; try (show Go.Ts.T; rotate_left))); (first
      | refine Ar hG Y Y ?_
      | refine Be hG Y Y ?_
      | (show AOp _ _ ⟨_, .call ⟨.builtin .len, _, _⟩, _, _, _, _⟩ _ _ _; first | refine A3 hG Y Y Y Y ?_ | refine r_len hG Y Y Y Y Y ?_)
      | (show AOp _ _ ⟨_, .binOp .add _ _ _ _, _, _, _, _⟩ _ _ _; first | refine A7 hG Y Y Y Y Y (by omega) ?_ | refine A7 (m := 1) hG Y Y Y Y Y (by omega) ?_ | refine As hG Y Y Y Y Y (by omega) ?_)
      | (show AOp _ _ ⟨_, .binOp .xor _ _ _ _, _, _, _, _⟩ _ _ _; refine r_xorU hG Y Y Y Y (by omega) ?_)
      | (show AOp _ _ ⟨_, .binOp _ _ _ _ _, _, _, _, _⟩ _ _ _; first | refine A5 hG Y Y Y Y Y (by omega) ?_ | refine A4 hG Y Y Y Y Y (by omega) ?_ | refine r_strT hG Y Y Y Y (by first | rfl | assumption) ?_ | refine r_strnF hG Y Y Y Y (by first | rfl | assumption) ?_ | refine r_strF hG Y Y Y Y (by assumption) ?_ | refine r_strnT hG Y Y Y Y (by assumption) ?_ | ((fail_if_success have := kk); refine Au hG Y Y Y Y Y (fun h => ?_) (fun h => ?_)) | ((fail_if_success have := kk); first | refine r_str hG Y Y Y Y (fun h => ?_) (fun h => ?_) | refine A1 hG Y Y Y Y (fun h => ?_) (fun h => ?_)) | refine r_bin' hG Y Y Y ?_)
      | (show AOp _ _ ⟨_, .load _ _, _, _, _, _⟩ _ _ _; first | refine Az (α := UInt16) 0 hG Y Y Y Y (by omega) Y ?_ | refine Az (α := UInt16) 1 hG Y Y Y Y (by omega) Y ?_ | refine A9 hG Y Y Y ?_ | refine r_ld 0 hG Y Y Y Y ?_)
      | (show AOp _ _ ⟨_, .indexAddr _ _ _, _, _, _, _⟩ _ _ _; first | refine Bm hG Y Y Y Y Y Y Y (by omega) ?_ | refine Ba hG Y Y Y Y Y Y Y (by omega) ?_ | refine Bc hG Y Y Y Y Y Y Y (by omega) ?_ | refine r_idx hG Y Y ?_)
      | (show AOp _ _ ⟨_, .convert _ _ _, _, _, _, _⟩ _ _ _; first | refine r_tostr hG Y Y Y Y Y Y Y Y (by first | exact Ae _ _ | exact Ao _ | rfl) ?_)
      | refine r_pick hG Y Y Y ?_
      | refine r_not hG Y Y Y ?_
      | (show AOp _ _ ⟨_, .buildSlice _ _ _, _, _, _, _⟩ _ _ _; first | refine r_mk (sz := 1) hG Y Y Y Y Y Y Y ?_)
      | (show AOp _ _ ⟨_, .store _ _ _, _, _, _, _⟩ _ _ _; first | refine r_stL (α := UInt16) 0 hG Y Y Y hT_cells hT_sc Y Y (by first | omega | (simp only [Array.size_setIfInBounds]; omega)) ?_ | refine r_stL (α := UInt16) 1 hG Y Y Y hT_cells hT_sc Y Y (by first | omega | (simp only [Array.size_setIfInBounds]; omega)) ?_ | refine r_st 0 hG Y Y Y Y Y Y Y ?_)
      | (show AOp _ _ ⟨_, .call ⟨.builtin .append, _, _⟩, _, _, _, _⟩ _ _ _; first | refine A0 (sz := 1) (xs := []) hG Y Y Y Y Y Y Y ⟨_, Y⟩ Y Y Y Y Y Y Y (by first | omega | (simp; omega)) (fun k => ?_) | refine Bb 0 hG Y Y Y Y Y Y Y ⟨_, Y⟩ Y Y Y Y Y (by first | omega | (simp only [List.length_append, List.length_cons, List.length_nil]; omega)) (fun k => ?_) | fail)
      | refine r_q hG Y Y Y ?_); try exact kk)
    | (show AL _ _ _ _ _ _ _ _; first | refine al_s Y Y Y ?_ | (refine Aw ?_; first | show AW _ _ _ _ _ _ | show ∃ x', _ < _ ∧ _)) | (show AW _ _ (.seq _ _) _ _ _; refine Aj ?_; intro Q1) | (show AW _ _ (.region _ _ false) _ _ _; refine Af ?_; intro O1) | (show AW _ _ (.cond _ _ _) _ _ _; first | refine Al Y ?_ | refine Ak Y ?_ | refine aw_if Y (fun h => ?_) (fun h => ?_)) | (show AW _ _ (.skip) _ _ _; refine Ai ?_; first | show AW _ _ _ _ _ _ | show ∃ x', _ < _ ∧ _) | (show AW _ _ (.block _ _) _ _ _; refine Ah ?_; intro Q1) | (show AW _ _ (.exit _) _ _ _; refine Ax ?_; first | show AW _ _ _ _ _ _ | show ∃ x', _ < _ ∧ _) | (show AW _ _ (.ret) _ _ _; refine Av ?_; try dsimp only [Bf, Ac, Bh, Am])
    | (show DL _ _ _ _ _ _ _; refine dl_d Y Y (fun K kt kf => Au hG Y Y Y Y Y kt kf) (fun h => ?_) (fun h => ?_)) | (show DL _ _ _ _ _ _ _; refine dl_d Y Y (fun K kt kf => r_str hG Y Y Y Y kt kf) (fun h => ?_) (fun h => ?_)) | (show DL _ _ _ _ _ _ _; refine dl_ne Y Y (fun K kt kf => A1 hG Y Y Y Y kt kf) (fun h => ?_) (fun h => ?_))
    | (show DL _ _ _ _ _ _ _; refine dl_s Y Y Y ?_) | (show DL _ _ _ _ _ _ _; refine dl_nil ?_; first | show AW _ _ _ _ _ _ | show ∃ x', _ < _ ∧ _) | (show AW _ _ (.region _ _ true) _ _ _; refine Bi mix (by kernel_rfl) ?_; intro O1) | fail)
        refine Ab rfl (r_ldB 0 (f := f8) (l := y :: ns) hG rfl rfl rfl rfl (by rw [hn]; exact hil) rfl ?_)
        repeat' (first
    | ((first | (show AL _ _ _ _ _ _ _ _; refine Ab Y ?_) | (show DL _ _ _ _ _ _ _; refine' Bk Y Y (fun K kk => ?_) ?_; try (show Go.Ts.T; rotate_left))); (first
      | refine Ar hG Y Y ?_
      | refine Be hG Y Y ?_
      | (show AOp _ _ ⟨_, .call ⟨.builtin .len, _, _⟩, _, _, _, _⟩ _ _ _; first | refine A3 hG Y Y Y Y ?_ | refine r_len hG Y Y Y Y Y ?_)
      | (show AOp _ _ ⟨_, .binOp .add _ _ _ _, _, _, _, _⟩ _ _ _; first | refine A7 hG Y Y Y Y Y (by omega) ?_ | refine A7 (m := 1) hG Y Y Y Y Y (by omega) ?_ | refine As hG Y Y Y Y Y (by omega) ?_)
      | (show AOp _ _ ⟨_, .binOp .xor _ _ _ _, _, _, _, _⟩ _ _ _; refine r_xorU hG Y Y Y Y (by omega) ?_)
      | (show AOp _ _ ⟨_, .binOp _ _ _ _ _, _, _, _, _⟩ _ _ _; first | refine A5 hG Y Y Y Y Y (by omega) ?_ | refine A4 hG Y Y Y Y Y (by omega) ?_ | refine r_strT hG Y Y Y Y (by first | rfl | assumption) ?_ | refine r_strnF hG Y Y Y Y (by first | rfl | assumption) ?_ | refine r_strF hG Y Y Y Y (by assumption) ?_ | refine r_strnT hG Y Y Y Y (by assumption) ?_ | ((fail_if_success have := kk); refine Au hG Y Y Y Y Y (fun h => ?_) (fun h => ?_)) | ((fail_if_success have := kk); first | refine r_str hG Y Y Y Y (fun h => ?_) (fun h => ?_) | refine A1 hG Y Y Y Y (fun h => ?_) (fun h => ?_)) | refine r_bin' hG Y Y Y ?_)
      | (show AOp _ _ ⟨_, .load _ _, _, _, _, _⟩ _ _ _; first | refine Az (α := UInt16) 0 hG Y Y Y Y (by omega) Y ?_ | refine Az (α := UInt16) 1 hG Y Y Y Y (by omega) Y ?_ | refine A9 hG Y Y Y ?_ | refine r_ld 0 hG Y Y Y Y ?_)
      | (show AOp _ _ ⟨_, .indexAddr _ _ _, _, _, _, _⟩ _ _ _; first | refine Bm hG Y Y Y Y Y Y Y (by omega) ?_ | refine Ba hG Y Y Y Y Y Y Y (by omega) ?_ | refine Bc hG Y Y Y Y Y Y Y (by omega) ?_ | refine r_idx hG Y Y ?_)
      | (show AOp _ _ ⟨_, .convert _ _ _, _, _, _, _⟩ _ _ _; first | refine r_tostr hG Y Y Y Y Y Y Y Y (by first | exact Ae _ _ | exact Ao _ | rfl) ?_)
      | refine r_pick hG Y Y Y ?_
      | refine r_not hG Y Y Y ?_
      | (show AOp _ _ ⟨_, .buildSlice _ _ _, _, _, _, _⟩ _ _ _; first | refine r_mk (sz := 1) hG Y Y Y Y Y Y Y ?_)
      | (show AOp _ _ ⟨_, .store _ _ _, _, _, _, _⟩ _ _ _; fail)
      | (show AOp _ _ ⟨_, .call ⟨.builtin .append, _, _⟩, _, _, _, _⟩ _ _ _; first | refine A0 (sz := 1) (xs := []) hG Y Y Y Y Y Y Y ⟨_, Y⟩ Y Y Y Y Y Y Y (by first | omega | (simp; omega)) (fun k => ?_) | refine Bb 0 hG Y Y Y Y Y Y Y ⟨_, Y⟩ Y Y Y Y Y (by first | omega | (simp only [List.length_append, List.length_cons, List.length_nil]; omega)) (fun k => ?_) | fail)
      | refine r_q hG Y Y Y ?_); try exact kk)
    | (show AL _ _ _ _ _ _ _ _; first | refine al_s Y Y Y ?_ | (refine Aw ?_; first | show AW _ _ _ _ _ _ | show ∃ x', _ < _ ∧ _)) | (show AW _ _ (.seq _ _) _ _ _; refine Aj ?_; intro Q1) | (show AW _ _ (.region _ _ false) _ _ _; refine Af ?_; intro O1) | (show AW _ _ (.cond _ _ _) _ _ _; first | refine Al Y ?_ | refine Ak Y ?_ | refine aw_if Y (fun h => ?_) (fun h => ?_)) | (show AW _ _ (.skip) _ _ _; refine Ai ?_; first | show AW _ _ _ _ _ _ | show ∃ x', _ < _ ∧ _) | (show AW _ _ (.block _ _) _ _ _; refine Ah ?_; intro Q1) | (show AW _ _ (.exit _) _ _ _; refine Ax ?_; first | show AW _ _ _ _ _ _ | show ∃ x', _ < _ ∧ _) | (show AW _ _ (.ret) _ _ _; refine Av ?_; try dsimp only [Bf, Ac, Bh, Am])
    | (show DL _ _ _ _ _ _ _; refine dl_d Y Y (fun K kt kf => Au hG Y Y Y Y Y kt kf) (fun h => ?_) (fun h => ?_)) | (show DL _ _ _ _ _ _ _; refine dl_d Y Y (fun K kt kf => r_str hG Y Y Y Y kt kf) (fun h => ?_) (fun h => ?_)) | (show DL _ _ _ _ _ _ _; refine dl_ne Y Y (fun K kt kf => A1 hG Y Y Y Y kt kf) (fun h => ?_) (fun h => ?_))
    | (show DL _ _ _ _ _ _ _; refine dl_s Y Y Y ?_) | (show DL _ _ _ _ _ _ _; refine dl_nil ?_; first | show AW _ _ _ _ _ _ | show ∃ x', _ < _ ∧ _) | (show AW _ _ (.region _ _ true) _ _ _; refine Bi mix (by kernel_rfl) ?_; intro O1) | fail)
        refine Ab rfl (r_stB 0 (f := f8) (l := y :: ns) (xorI ((y :: ns).getD i default) 7) hG rfl rfl rfl f8_cells f8_sc rfl rfl (by rw [hn]; exact hil) ?_)
        repeat' (first
    | ((first | (show AL _ _ _ _ _ _ _ _; refine Ab Y ?_) | (show DL _ _ _ _ _ _ _; refine' Bk Y Y (fun K kk => ?_) ?_; try (show Go.Ts.T; rotate_left))); (first
      | refine Ar hG Y Y ?_
      | refine Be hG Y Y ?_
      | (show AOp _ _ ⟨_, .call ⟨.builtin .len, _, _⟩, _, _, _, _⟩ _ _ _; first | refine A3 hG Y Y Y Y ?_ | refine r_len hG Y Y Y Y Y ?_)
      | (show AOp _ _ ⟨_, .binOp .add _ _ _ _, _, _, _, _⟩ _ _ _; first | refine A7 hG Y Y Y Y Y (by omega) ?_ | refine A7 (m := 1) hG Y Y Y Y Y (by omega) ?_ | refine As hG Y Y Y Y Y (by omega) ?_)
      | (show AOp _ _ ⟨_, .binOp .xor _ _ _ _, _, _, _, _⟩ _ _ _; refine r_xorU hG Y Y Y Y (by omega) ?_)
      | (show AOp _ _ ⟨_, .binOp _ _ _ _ _, _, _, _, _⟩ _ _ _; first | refine A5 hG Y Y Y Y Y (by omega) ?_ | refine A4 hG Y Y Y Y Y (by omega) ?_ | refine r_strT hG Y Y Y Y (by first | rfl | assumption) ?_ | refine r_strnF hG Y Y Y Y (by first | rfl | assumption) ?_ | refine r_strF hG Y Y Y Y (by assumption) ?_ | refine r_strnT hG Y Y Y Y (by assumption) ?_ | ((fail_if_success have := kk); refine Au hG Y Y Y Y Y (fun h => ?_) (fun h => ?_)) | ((fail_if_success have := kk); first | refine r_str hG Y Y Y Y (fun h => ?_) (fun h => ?_) | refine A1 hG Y Y Y Y (fun h => ?_) (fun h => ?_)) | refine r_bin' hG Y Y Y ?_)
      | (show AOp _ _ ⟨_, .load _ _, _, _, _, _⟩ _ _ _; first | refine Az (α := UInt16) 0 hG Y Y Y Y (by omega) Y ?_ | refine Az (α := UInt16) 1 hG Y Y Y Y (by omega) Y ?_ | refine A9 hG Y Y Y ?_ | refine r_ld 0 hG Y Y Y Y ?_)
      | (show AOp _ _ ⟨_, .indexAddr _ _ _, _, _, _, _⟩ _ _ _; first | refine Bm hG Y Y Y Y Y Y Y (by omega) ?_ | refine Ba hG Y Y Y Y Y Y Y (by omega) ?_ | refine Bc hG Y Y Y Y Y Y Y (by omega) ?_ | refine r_idx hG Y Y ?_)
      | (show AOp _ _ ⟨_, .convert _ _ _, _, _, _, _⟩ _ _ _; first | refine r_tostr hG Y Y Y Y Y Y Y Y (by first | exact Ae _ _ | exact Ao _ | rfl) ?_)
      | refine r_pick hG Y Y Y ?_
      | refine r_not hG Y Y Y ?_
      | (show AOp _ _ ⟨_, .buildSlice _ _ _, _, _, _, _⟩ _ _ _; first | refine r_mk (sz := 1) hG Y Y Y Y Y Y Y ?_)
      | (show AOp _ _ ⟨_, .store _ _ _, _, _, _, _⟩ _ _ _; first | refine r_stL (α := UInt16) 0 hG Y Y Y hT_cells hT_sc Y Y (by first | omega | (simp only [Array.size_setIfInBounds]; omega)) ?_ | refine r_stL (α := UInt16) 1 hG Y Y Y hT_cells hT_sc Y Y (by first | omega | (simp only [Array.size_setIfInBounds]; omega)) ?_ | refine r_st 0 hG Y Y Y Y Y Y Y ?_)
      | (show AOp _ _ ⟨_, .call ⟨.builtin .append, _, _⟩, _, _, _, _⟩ _ _ _; first | refine A0 (sz := 1) (xs := []) hG Y Y Y Y Y Y Y ⟨_, Y⟩ Y Y Y Y Y Y Y (by first | omega | (simp; omega)) (fun k => ?_) | refine Bb 0 hG Y Y Y Y Y Y Y ⟨_, Y⟩ Y Y Y Y Y (by first | omega | (simp only [List.length_append, List.length_cons, List.length_nil]; omega)) (fun k => ?_) | fail)
      | refine r_q hG Y Y Y ?_); try exact kk)
    | (show AL _ _ _ _ _ _ _ _; first | refine al_s Y Y Y ?_ | (refine Aw ?_; first | show AW _ _ _ _ _ _ | show ∃ x', _ < _ ∧ _)) | (show AW _ _ (.seq _ _) _ _ _; refine Aj ?_; intro Q1) | (show AW _ _ (.region _ _ false) _ _ _; refine Af ?_; intro O1) | (show AW _ _ (.cond _ _ _) _ _ _; first | refine Al Y ?_ | refine Ak Y ?_ | refine aw_if Y (fun h => ?_) (fun h => ?_)) | (show AW _ _ (.skip) _ _ _; refine Ai ?_; first | show AW _ _ _ _ _ _ | show ∃ x', _ < _ ∧ _) | (show AW _ _ (.block _ _) _ _ _; refine Ah ?_; intro Q1) | (show AW _ _ (.exit _) _ _ _; refine Ax ?_; first | show AW _ _ _ _ _ _ | show ∃ x', _ < _ ∧ _) | (show AW _ _ (.ret) _ _ _; refine Av ?_; try dsimp only [Bf, Ac, Bh, Am])
    | (show DL _ _ _ _ _ _ _; refine dl_d Y Y (fun K kt kf => Au hG Y Y Y Y Y kt kf) (fun h => ?_) (fun h => ?_)) | (show DL _ _ _ _ _ _ _; refine dl_d Y Y (fun K kt kf => r_str hG Y Y Y Y kt kf) (fun h => ?_) (fun h => ?_)) | (show DL _ _ _ _ _ _ _; refine dl_ne Y Y (fun K kt kf => A1 hG Y Y Y Y kt kf) (fun h => ?_) (fun h => ?_))
    | (show DL _ _ _ _ _ _ _; refine dl_s Y Y Y ?_) | (show DL _ _ _ _ _ _ _; refine dl_nil ?_; first | show AW _ _ _ _ _ _ | show ∃ x', _ < _ ∧ _) | (show AW _ _ (.region _ _ true) _ _ _; refine Bi mix (by kernel_rfl) ?_; intro O1) | fail)
        exact ⟨⟨i + 1, (y :: ns).set i (xorI ((y :: ns).getD i default) 7), by omega, by rw [List.length_set]; exact hn⟩, by dsimp only; omega, (by repeat (first | exact .nil _ | refine .cons rfl ?_)), by
          dsimp only
          have e : rowI ((y :: ns).set i (xorI ((y :: ns).getD i default) 7), it) = [(it, .cells (((y :: ns).set i (xorI ((y :: ns).getD i default) 7)).map f8))] := rowI_ne (by intro h; have := congrArg List.length h; simp at this)
          rw [e]
          exact .refl _⟩
  · have hx0 : ((l ++ [b]).getD 0 default).length ≤ 16 := by
      rcases Nat.eq_zero_or_pos l.length with h | h
      · rw [List.length_eq_zero_iff.1 h]; simp [List.getD]; omega
      · have := (mayL_iff.1 hml).2 (l.getD 0 default) (by simp [List.getD, h])
        simp only [List.getD] at this ⊢
        rw [List.getElem?_append_left h]; exact this
    have hPop := pop_v (l := l ++ [b]) (by omega) hli2
    repeat' (first
    | ((first | (show AL _ _ _ _ _ _ _ _; refine Ab Y ?_) | (show DL _ _ _ _ _ _ _; refine' Bk Y Y (fun K kk => ?_) ?_; try (show Go.Ts.T; rotate_left))); (first
      | refine Ar hG Y Y ?_
      | refine Be hG Y Y ?_
      | (show AOp _ _ ⟨_, .call ⟨.builtin .len, _, _⟩, _, _, _, _⟩ _ _ _; first | refine A3 hG Y Y Y Y ?_ | refine r_len hG Y Y Y Y Y ?_)
      | (show AOp _ _ ⟨_, .binOp .add _ _ _ _, _, _, _, _⟩ _ _ _; first | refine A7 hG Y Y Y Y Y (by omega) ?_ | refine A7 (m := 1) hG Y Y Y Y Y (by omega) ?_ | refine As hG Y Y Y Y Y (by omega) ?_)
      | (show AOp _ _ ⟨_, .binOp .xor _ _ _ _, _, _, _, _⟩ _ _ _; refine r_xorU hG Y Y Y Y (by omega) ?_)
      | (show AOp _ _ ⟨_, .binOp _ _ _ _ _, _, _, _, _⟩ _ _ _; first | refine A5 hG Y Y Y Y Y (by omega) ?_ | refine A4 hG Y Y Y Y Y (by omega) ?_ | refine r_strT hG Y Y Y Y (by first | rfl | assumption) ?_ | refine r_strnF hG Y Y Y Y (by first | rfl | assumption) ?_ | refine r_strF hG Y Y Y Y (by assumption) ?_ | refine r_strnT hG Y Y Y Y (by assumption) ?_ | ((fail_if_success have := kk); refine Au hG Y Y Y Y Y (fun h => ?_) (fun h => ?_)) | ((fail_if_success have := kk); first | refine r_str hG Y Y Y Y (fun h => ?_) (fun h => ?_) | refine A1 hG Y Y Y Y (fun h => ?_) (fun h => ?_)) | refine r_bin' hG Y Y Y ?_)
      | (show AOp _ _ ⟨_, .load _ _, _, _, _, _⟩ _ _ _; first | refine Az (α := UInt16) 0 hG Y Y Y Y (by omega) Y ?_ | refine Az (α := UInt16) 1 hG Y Y Y Y (by omega) Y ?_ | refine A9 hG Y Y Y ?_ | refine r_ld 0 hG Y Y Y Y ?_)
      | (show AOp _ _ ⟨_, .indexAddr _ _ _, _, _, _, _⟩ _ _ _; first | refine Bm hG Y Y Y Y Y Y Y (by omega) ?_ | refine Ba hG Y Y Y Y Y Y Y (by omega) ?_ | refine Bc hG Y Y Y Y Y Y Y (by omega) ?_ | refine r_idx hG Y Y ?_)
      | (show AOp _ _ ⟨_, .convert _ _ _, _, _, _, _⟩ _ _ _; first | refine r_tostr hG Y Y Y Y Y Y Y Y (by first | exact Ae _ _ | exact Ao _ | rfl) ?_)
      | refine r_pick hG Y Y Y ?_
      | refine r_not hG Y Y Y ?_
      | (show AOp _ _ ⟨_, .buildSlice _ _ _, _, _, _, _⟩ _ _ _; first | refine r_mk (sz := 1) hG Y Y Y Y Y Y Y ?_)
      | (show AOp _ _ ⟨_, .store _ _ _, _, _, _, _⟩ _ _ _; first | refine r_stL (α := UInt16) 0 hG Y Y Y hT_cells hT_sc Y Y (by first | omega | (simp only [Array.size_setIfInBounds]; omega)) ?_ | refine r_stL (α := UInt16) 1 hG Y Y Y hT_cells hT_sc Y Y (by first | omega | (simp only [Array.size_setIfInBounds]; omega)) ?_ | refine r_st 0 hG Y Y Y Y Y Y Y ?_)
      | (show AOp _ _ ⟨_, .call ⟨.builtin .append, _, _⟩, _, _, _, _⟩ _ _ _; first | refine A0 (sz := 1) (xs := []) hG Y Y Y Y Y Y Y ⟨_, Y⟩ Y Y Y Y Y Y Y (by first | omega | (simp; omega)) (fun k => ?_) | refine Bb 0 hG Y Y Y Y Y Y Y ⟨_, Y⟩ Y Y Y Y Y (by first | omega | (simp only [List.length_append, List.length_cons, List.length_nil]; omega)) (fun k => ?_) | fail)
      | (show AOp _ _ ⟨_, .call ⟨.value _, _, _⟩, _, _, _, _⟩ _ _ _; first | refine r_pure Y Y Y Y Y (by first | (apply hC2 <;> (first | assumption | omega | exact Ae _ _ | exact Ao _ | exact Bn _ _ | exact catsT_c _ | rfl | (simp; omega))) | fail) ?_ | fail)
      | refine r_q hG Y Y Y ?_); try exact kk)
    | (show AL _ _ _ _ _ _ _ _; first | refine al_s Y Y Y ?_ | (refine Aw ?_; first | show AW _ _ _ _ _ _ | show ∃ x', _ < _ ∧ _)) | (show AW _ _ (.seq _ _) _ _ _; refine Aj ?_; intro Q1) | (show AW _ _ (.region _ _ false) _ _ _; refine Af ?_; intro O1) | (show AW _ _ (.cond _ _ _) _ _ _; first | refine Al Y ?_ | refine Ak Y ?_ | refine aw_if Y (fun h => ?_) (fun h => ?_)) | (show AW _ _ (.skip) _ _ _; refine Ai ?_; first | show AW _ _ _ _ _ _ | show ∃ x', _ < _ ∧ _) | (show AW _ _ (.block _ _) _ _ _; refine Ah ?_; intro Q1) | (show AW _ _ (.exit _) _ _ _; refine Ax ?_; first | show AW _ _ _ _ _ _ | show ∃ x', _ < _ ∧ _) | (show AW _ _ (.ret) _ _ _; refine Av ?_; try dsimp only [Bf, Ac, Bh, Am])
    | (show DL _ _ _ _ _ _ _; refine dl_d Y Y (fun K kt kf => Au hG Y Y Y Y Y kt kf) (fun h => ?_) (fun h => ?_)) | (show DL _ _ _ _ _ _ _; refine dl_d Y Y (fun K kt kf => r_str hG Y Y Y Y kt kf) (fun h => ?_) (fun h => ?_)) | (show DL _ _ _ _ _ _ _; refine dl_ne Y Y (fun K kt kf => A1 hG Y Y Y Y kt kf) (fun h => ?_) (fun h => ?_))
    | (show DL _ _ _ _ _ _ _; refine dl_s Y Y Y ?_) | (show DL _ _ _ _ _ _ _; refine dl_nil ?_; first | show AW _ _ _ _ _ _ | show ∃ x', _ < _ ∧ _) | (show AW _ _ (.region _ _ true) _ _ _; refine Bi mix (by kernel_rfl) ?_; intro O1) | fail)
    refine Ab rfl (r_lenV hG rfl rfl rfl rfl ?_)
    have hlast2 : (l ++ [b]).getD (((l.length : Nat) : Int)).toNat default = b := hlast
    repeat' (first
    | ((first | (show AL _ _ _ _ _ _ _ _; refine Ab Y ?_) | (show DL _ _ _ _ _ _ _; refine' Bk Y Y (fun K kk => ?_) ?_; try (show Go.Ts.T; rotate_left))); (first
      | refine Ar hG Y Y ?_
      | refine Be hG Y Y ?_
      | (show AOp _ _ ⟨_, .call ⟨.builtin .len, _, _⟩, _, _, _, _⟩ _ _ _; first | refine A3 hG Y Y Y Y ?_ | refine r_len hG Y Y Y Y Y ?_)
      | (show AOp _ _ ⟨_, .binOp .add _ _ _ _, _, _, _, _⟩ _ _ _; first | refine A7 hG Y Y Y Y Y (by omega) ?_ | refine A7 (m := 1) hG Y Y Y Y Y (by omega) ?_ | refine As hG Y Y Y Y Y (by omega) ?_)
      | (show AOp _ _ ⟨_, .binOp .xor _ _ _ _, _, _, _, _⟩ _ _ _; refine r_xorU hG Y Y Y Y (by omega) ?_)
      | (show AOp _ _ ⟨_, .binOp _ _ _ _ _, _, _, _, _⟩ _ _ _; first | refine A5 hG Y Y Y Y Y (by omega) ?_ | refine A4 hG Y Y Y Y Y (by omega) ?_ | refine r_strT hG Y Y Y Y (by first | rfl | assumption) ?_ | refine r_strnF hG Y Y Y Y (by first | rfl | assumption) ?_ | refine r_strF hG Y Y Y Y (by assumption) ?_ | refine r_strnT hG Y Y Y Y (by assumption) ?_ | ((fail_if_success have := kk); refine Au hG Y Y Y Y Y (fun h => ?_) (fun h => ?_)) | ((fail_if_success have := kk); first | refine r_str hG Y Y Y Y (fun h => ?_) (fun h => ?_) | refine A1 hG Y Y Y Y (fun h => ?_) (fun h => ?_)) | refine r_bin' hG Y Y Y ?_)
      | (show AOp _ _ ⟨_, .load _ _, _, _, _, _⟩ _ _ _; first | refine Az (α := UInt16) 0 hG Y Y Y Y (by omega) Y ?_ | refine Az (α := UInt16) 1 hG Y Y Y Y (by omega) Y ?_ | refine A9 hG Y Y Y ?_ | refine r_ld 0 hG Y Y Y Y ?_)
      | (show AOp _ _ ⟨_, .indexAddr _ _ _, _, _, _, _⟩ _ _ _; first | refine Bm hG Y Y Y Y Y Y Y (by omega) ?_ | refine Ba hG Y Y Y Y Y Y Y (by omega) ?_ | refine Bc hG Y Y Y Y Y Y Y (by omega) ?_ | refine r_idx hG Y Y ?_)
      | (show AOp _ _ ⟨_, .convert _ _ _, _, _, _, _⟩ _ _ _; first | refine r_tostr hG Y Y Y Y Y Y Y Y (by first | exact Ae _ _ | exact Ao _ | rfl) ?_)
      | refine r_pick hG Y Y Y ?_
      | refine r_not hG Y Y Y ?_
      | (show AOp _ _ ⟨_, .buildSlice _ _ _, _, _, _, _⟩ _ _ _; first | refine r_mk (sz := 1) hG Y Y Y Y Y Y Y ?_)
      | (show AOp _ _ ⟨_, .store _ _ _, _, _, _, _⟩ _ _ _; first | refine r_stL (α := UInt16) 0 hG Y Y Y hT_cells hT_sc Y Y (by first | omega | (simp only [Array.size_setIfInBounds]; omega)) ?_ | refine r_stL (α := UInt16) 1 hG Y Y Y hT_cells hT_sc Y Y (by first | omega | (simp only [Array.size_setIfInBounds]; omega)) ?_ | refine r_st 0 hG Y Y Y Y Y Y Y ?_)
      | (show AOp _ _ ⟨_, .call ⟨.builtin .append, _, _⟩, _, _, _, _⟩ _ _ _; first | refine A0 (sz := 1) (xs := []) hG Y Y Y Y Y Y Y ⟨_, Y⟩ Y Y Y Y Y Y Y (by first | omega | (simp; omega)) (fun k => ?_) | refine Bb 0 hG Y Y Y Y Y Y Y ⟨_, Y⟩ Y Y Y Y Y (by first | omega | (simp only [List.length_append, List.length_cons, List.length_nil]; omega)) (fun k => ?_) | fail)
      | (show AOp _ _ ⟨_, .call ⟨.value _, _, _⟩, _, _, _, _⟩ _ _ _; first | refine r_pure Y Y Y Y Y (by first | (apply hC2 <;> (first | assumption | omega | exact Ae _ _ | exact Ao _ | exact Bn _ _ | exact catsT_c _ | rfl | (simp; omega))) | fail) ?_ | fail)
      | refine r_q hG Y Y Y ?_); try exact kk)
    | (show AL _ _ _ _ _ _ _ _; first | refine al_s Y Y Y ?_ | (refine Aw ?_; first | show AW _ _ _ _ _ _ | show ∃ x', _ < _ ∧ _)) | (show AW _ _ (.seq _ _) _ _ _; refine Aj ?_; intro Q1) | (show AW _ _ (.region _ _ false) _ _ _; refine Af ?_; intro O1) | (show AW _ _ (.cond _ _ _) _ _ _; first | refine Al Y ?_ | refine Ak Y ?_ | refine aw_if Y (fun h => ?_) (fun h => ?_)) | (show AW _ _ (.skip) _ _ _; refine Ai ?_; first | show AW _ _ _ _ _ _ | show ∃ x', _ < _ ∧ _) | (show AW _ _ (.block _ _) _ _ _; refine Ah ?_; intro Q1) | (show AW _ _ (.exit _) _ _ _; refine Ax ?_; first | show AW _ _ _ _ _ _ | show ∃ x', _ < _ ∧ _) | (show AW _ _ (.ret) _ _ _; refine Av ?_; try dsimp only [Bf, Ac, Bh, Am])
    | (show DL _ _ _ _ _ _ _; refine dl_d Y Y (fun K kt kf => Au hG Y Y Y Y Y kt kf) (fun h => ?_) (fun h => ?_)) | (show DL _ _ _ _ _ _ _; refine dl_d Y Y (fun K kt kf => r_str hG Y Y Y Y kt kf) (fun h => ?_) (fun h => ?_)) | (show DL _ _ _ _ _ _ _; refine dl_ne Y Y (fun K kt kf => A1 hG Y Y Y Y kt kf) (fun h => ?_) (fun h => ?_))
    | (show DL _ _ _ _ _ _ _; refine dl_s Y Y Y ?_) | (show DL _ _ _ _ _ _ _; refine dl_nil ?_; first | show AW _ _ _ _ _ _ | show ∃ x', _ < _ ∧ _) | (show AW _ _ (.region _ _ true) _ _ _; refine Bi mix (by kernel_rfl) ?_; intro O1) | fail)
    refine Ab rfl (r_onL rfl rfl rfl rfl (Lf := rowI (ns, it) ++ []) (.refl _) hPop ?_)
    rintro u L' ⟨i0, ps, hps, rfl, rfl⟩
    rw [rowP_I, rowsF_I]
    generalize (l ++ [b]).getD 0 default = x0 at *
    have hpn : ps.length = l.length := by have := congrArg List.length hps; simpa using this
    repeat' (first
    | ((first | (show AL _ _ _ _ _ _ _ _; refine Ab Y ?_) | (show DL _ _ _ _ _ _ _; refine' Bk Y Y (fun K kk => ?_) ?_; try (show Go.Ts.T; rotate_left))); (first
      | refine Ar hG Y Y ?_
      | refine Be hG Y Y ?_
      | (show AOp _ _ ⟨_, .call ⟨.builtin .len, _, _⟩, _, _, _, _⟩ _ _ _; first | refine A3 hG Y Y Y Y ?_ | refine r_len hG Y Y Y Y Y ?_)
      | (show AOp _ _ ⟨_, .binOp .add _ _ _ _, _, _, _, _⟩ _ _ _; first | refine A7 hG Y Y Y Y Y (by omega) ?_ | refine A7 (m := 1) hG Y Y Y Y Y (by omega) ?_ | refine As hG Y Y Y Y Y (by omega) ?_)
      | (show AOp _ _ ⟨_, .binOp .xor _ _ _ _, _, _, _, _⟩ _ _ _; refine r_xorU hG Y Y Y Y (by omega) ?_)
      | (show AOp _ _ ⟨_, .binOp _ _ _ _ _, _, _, _, _⟩ _ _ _; first | refine A5 hG Y Y Y Y Y (by omega) ?_ | refine A4 hG Y Y Y Y Y (by omega) ?_ | refine r_strT hG Y Y Y Y (by first | rfl | assumption) ?_ | refine r_strnF hG Y Y Y Y (by first | rfl | assumption) ?_ | refine r_strF hG Y Y Y Y (by assumption) ?_ | refine r_strnT hG Y Y Y Y (by assumption) ?_ | ((fail_if_success have := kk); refine Au hG Y Y Y Y Y (fun h => ?_) (fun h => ?_)) | ((fail_if_success have := kk); first | refine r_str hG Y Y Y Y (fun h => ?_) (fun h => ?_) | refine A1 hG Y Y Y Y (fun h => ?_) (fun h => ?_)) | refine r_bin' hG Y Y Y ?_)
      | (show AOp _ _ ⟨_, .load _ _, _, _, _, _⟩ _ _ _; first | refine Az (α := UInt16) 0 hG Y Y Y Y (by omega) Y ?_ | refine Az (α := UInt16) 1 hG Y Y Y Y (by omega) Y ?_ | refine A9 hG Y Y Y ?_ | refine r_ld 0 hG Y Y Y Y ?_)
      | (show AOp _ _ ⟨_, .indexAddr _ _ _, _, _, _, _⟩ _ _ _; first | refine Bm hG Y Y Y Y Y Y Y (by omega) ?_ | refine Ba hG Y Y Y Y Y Y Y (by omega) ?_ | refine Bc hG Y Y Y Y Y Y Y (by omega) ?_ | refine r_idx hG Y Y ?_)
      | (show AOp _ _ ⟨_, .convert _ _ _, _, _, _, _⟩ _ _ _; first | refine r_tostr hG Y Y Y Y Y Y Y Y (by first | exact Ae _ _ | exact Ao _ | rfl) ?_)
      | refine r_pick hG Y Y Y ?_
      | refine r_not hG Y Y Y ?_
      | (show AOp _ _ ⟨_, .buildSlice _ _ _, _, _, _, _⟩ _ _ _; first | refine r_mk (sz := 1) hG Y Y Y Y Y Y Y ?_)
      | (show AOp _ _ ⟨_, .store _ _ _, _, _, _, _⟩ _ _ _; first | refine r_stL (α := UInt16) 0 hG Y Y Y hT_cells hT_sc Y Y (by first | omega | (simp only [Array.size_setIfInBounds]; omega)) ?_ | refine r_stL (α := UInt16) 1 hG Y Y Y hT_cells hT_sc Y Y (by first | omega | (simp only [Array.size_setIfInBounds]; omega)) ?_ | refine r_st 0 hG Y Y Y Y Y Y Y ?_)
      | (show AOp _ _ ⟨_, .call ⟨.builtin .append, _, _⟩, _, _, _, _⟩ _ _ _; first | refine A0 (sz := 1) (xs := []) hG Y Y Y Y Y Y Y ⟨_, Y⟩ Y Y Y Y Y Y Y (by first | omega | (simp; omega)) (fun k => ?_) | refine Bb 0 hG Y Y Y Y Y Y Y ⟨_, Y⟩ Y Y Y Y Y (by first | omega | (simp only [List.length_append, List.length_cons, List.length_nil]; omega)) (fun k => ?_) | fail)
      | refine r_q hG Y Y Y ?_); try exact kk)
    | (show AL _ _ _ _ _ _ _ _; first | refine al_s Y Y Y ?_ | (refine Aw ?_; first | show AW _ _ _ _ _ _ | show ∃ x', _ < _ ∧ _)) | (show AW _ _ (.seq _ _) _ _ _; refine Aj ?_; intro Q1) | (show AW _ _ (.region _ _ false) _ _ _; refine Af ?_; intro O1) | (show AW _ _ (.cond _ _ _) _ _ _; first | refine Al Y ?_ | refine Ak Y ?_ | refine aw_if Y (fun h => ?_) (fun h => ?_)) | (show AW _ _ (.skip) _ _ _; refine Ai ?_; first | show AW _ _ _ _ _ _ | show ∃ x', _ < _ ∧ _) | (show AW _ _ (.block _ _) _ _ _; refine Ah ?_; intro Q1) | (show AW _ _ (.exit _) _ _ _; refine Ax ?_; first | show AW _ _ _ _ _ _ | show ∃ x', _ < _ ∧ _) | (show AW _ _ (.ret) _ _ _; refine Av ?_; try dsimp only [Bf, Ac, Bh, Am])
    | (show DL _ _ _ _ _ _ _; refine dl_d Y Y (fun K kt kf => Au hG Y Y Y Y Y kt kf) (fun h => ?_) (fun h => ?_)) | (show DL _ _ _ _ _ _ _; refine dl_d Y Y (fun K kt kf => r_str hG Y Y Y Y kt kf) (fun h => ?_) (fun h => ?_)) | (show DL _ _ _ _ _ _ _; refine dl_ne Y Y (fun K kt kf => A1 hG Y Y Y Y kt kf) (fun h => ?_) (fun h => ?_))
    | (show DL _ _ _ _ _ _ _; refine dl_s Y Y Y ?_) | (show DL _ _ _ _ _ _ _; refine dl_nil ?_; first | show AW _ _ _ _ _ _ | show ∃ x', _ < _ ∧ _) | (show AW _ _ (.region _ _ true) _ _ _; refine Bi mix (by kernel_rfl) ?_; intro O1) | fail)
    refine aw_loop (X := RaX x0) (fun x => [(0, lT l), (5, lT l), (7, lT (l ++ [b])), (10, lT (l ++ [b])), (11, letT (x0, i0)), (12, .sl 1 .no (ps.map letT)), (13, .bool true), (14, .int .i64 (x.i : Int))]) (fun x => ⟨(rowI (x.ns, i0) ++ rowsI (ps.map toI)) ++ (rowI (ns, it) ++ []), [], off, none⟩) (fun x => x0.length - x.i) ⟨0, (toI (x0, i0)).1, Nat.zero_le _, by simp [toI]⟩ (by repeat (first | exact .nil _ | refine .cons rfl ?_)) (.refl _) ?_
    rintro ⟨i, ns0, hi, hn0⟩
    dsimp only
    by_cases hil : i < x0.length
    · cases x0 with
      | nil => simp at hil
      | cons x x0 =>
        cases ns0 with
        | nil => simp at hn0
        | cons y ns0 =>
          repeat' (first
    | ((first | (show AL _ _ _ _ _ _ _ _; refine Ab Y ?_) | (show DL _ _ _ _ _ _ _; refine' Bk Y Y (fun K kk => ?_) ?_; try (show Go.Ts.T; rotate_left))); (first
      | refine Ar hG Y Y ?_
      | refine Be hG Y Y ?_
      | (show AOp _ _ ⟨_, .call ⟨.builtin .len, _, _⟩, _, _, _, _⟩ _ _ _; first | refine A3 hG Y Y Y Y ?_ | refine r_len hG Y Y Y Y Y ?_)
      | (show AOp _ _ ⟨_, .binOp .add _ _ _ _, _, _, _, _⟩ _ _ _; first | refine A7 hG Y Y Y Y Y (by omega) ?_ | refine A7 (m := 1) hG Y Y Y Y Y (by omega) ?_ | refine As hG Y Y Y Y Y (by omega) ?_)
      | (show AOp _ _ ⟨_, .binOp .xor _ _ _ _, _, _, _, _⟩ _ _ _; refine r_xorU hG Y Y Y Y (by omega) ?_)
      | (show AOp _ _ ⟨_, .binOp _ _ _ _ _, _, _, _, _⟩ _ _ _; first | refine A5 hG Y Y Y Y Y (by omega) ?_ | refine A4 hG Y Y Y Y Y (by omega) ?_ | refine r_strT hG Y Y Y Y (by first | rfl | assumption) ?_ | refine r_strnF hG Y Y Y Y (by first | rfl | assumption) ?_ | refine r_strF hG Y Y Y Y (by assumption) ?_ | refine r_strnT hG Y Y Y Y (by assumption) ?_ | ((fail_if_success have := kk); refine Au hG Y Y Y Y Y (fun h => ?_) (fun h => ?_)) | ((fail_if_success have := kk); first | refine r_str hG Y Y Y Y (fun h => ?_) (fun h => ?_) | refine A1 hG Y Y Y Y (fun h => ?_) (fun h => ?_)) | refine r_bin' hG Y Y Y ?_)
      | (show AOp _ _ ⟨_, .load _ _, _, _, _, _⟩ _ _ _; first | refine Az (α := UInt16) 0 hG Y Y Y Y (by omega) Y ?_ | refine Az (α := UInt16) 1 hG Y Y Y Y (by omega) Y ?_ | refine A9 hG Y Y Y ?_ | refine r_ld 0 hG Y Y Y Y ?_)
      | (show AOp _ _ ⟨_, .indexAddr _ _ _, _, _, _, _⟩ _ _ _; first | refine Bm hG Y Y Y Y Y Y Y (by omega) ?_ | refine Ba hG Y Y Y Y Y Y Y (by omega) ?_ | refine Bc hG Y Y Y Y Y Y Y (by omega) ?_ | refine r_idx hG Y Y ?_)
      | (show AOp _ _ ⟨_, .convert _ _ _, _, _, _, _⟩ _ _ _; first | refine r_tostr hG Y Y Y Y Y Y Y Y (by first | exact Ae _ _ | exact Ao _ | rfl) ?_)
      | refine r_pick hG Y Y Y ?_
      | refine r_not hG Y Y Y ?_
      | (show AOp _ _ ⟨_, .buildSlice _ _ _, _, _, _, _⟩ _ _ _; first | refine r_mk (sz := 1) hG Y Y Y Y Y Y Y ?_)
      | (show AOp _ _ ⟨_, .store _ _ _, _, _, _, _⟩ _ _ _; first | refine r_stL (α := UInt16) 0 hG Y Y Y hT_cells hT_sc Y Y (by first | omega | (simp only [Array.size_setIfInBounds]; omega)) ?_ | refine r_stL (α := UInt16) 1 hG Y Y Y hT_cells hT_sc Y Y (by first | omega | (simp only [Array.size_setIfInBounds]; omega)) ?_ | refine r_st 0 hG Y Y Y Y Y Y Y ?_)
      | (show AOp _ _ ⟨_, .call ⟨.builtin .append, _, _⟩, _, _, _, _⟩ _ _ _; first | refine A0 (sz := 1) (xs := []) hG Y Y Y Y Y Y Y ⟨_, Y⟩ Y Y Y Y Y Y Y (by first | omega | (simp; omega)) (fun k => ?_) | refine Bb 0 hG Y Y Y Y Y Y Y ⟨_, Y⟩ Y Y Y Y Y (by first | omega | (simp only [List.length_append, List.length_cons, List.length_nil]; omega)) (fun k => ?_) | fail)
      | refine r_q hG Y Y Y ?_); try exact kk)
    | (show AL _ _ _ _ _ _ _ _; first | refine al_s Y Y Y ?_ | (refine Aw ?_; first | show AW _ _ _ _ _ _ | show ∃ x', _ < _ ∧ _)) | (show AW _ _ (.seq _ _) _ _ _; refine Aj ?_; intro Q1) | (show AW _ _ (.region _ _ false) _ _ _; refine Af ?_; intro O1) | (show AW _ _ (.cond _ _ _) _ _ _; first | refine Al Y ?_ | refine Ak Y ?_ | refine aw_if Y (fun h => ?_) (fun h => ?_)) | (show AW _ _ (.skip) _ _ _; refine Ai ?_; first | show AW _ _ _ _ _ _ | show ∃ x', _ < _ ∧ _) | (show AW _ _ (.block _ _) _ _ _; refine Ah ?_; intro Q1) | (show AW _ _ (.exit _) _ _ _; refine Ax ?_; first | show AW _ _ _ _ _ _ | show ∃ x', _ < _ ∧ _) | (show AW _ _ (.ret) _ _ _; refine Av ?_; try dsimp only [Bf, Ac, Bh, Am])
    | (show DL _ _ _ _ _ _ _; refine dl_d Y Y (fun K kt kf => Au hG Y Y Y Y Y kt kf) (fun h => ?_) (fun h => ?_)) | (show DL _ _ _ _ _ _ _; refine dl_d Y Y (fun K kt kf => r_str hG Y Y Y Y kt kf) (fun h => ?_) (fun h => ?_)) | (show DL _ _ _ _ _ _ _; refine dl_ne Y Y (fun K kt kf => A1 hG Y Y Y Y kt kf) (fun h => ?_) (fun h => ?_))
    | (show DL _ _ _ _ _ _ _; refine dl_s Y Y Y ?_) | (show DL _ _ _ _ _ _ _; refine dl_nil ?_; first | show AW _ _ _ _ _ _ | show ∃ x', _ < _ ∧ _) | (show AW _ _ (.region _ _ true) _ _ _; refine Bi mix (by kernel_rfl) ?_; intro O1) | fail)
          refine Ab rfl (r_ldB 0 (f := f8) (l := y :: ns0) hG rfl rfl rfl rfl (by rw [hn0]; exact hil) rfl ?_)
          repeat' (first
    | ((first | (show AL _ _ _ _ _ _ _ _; refine Ab Y ?_) | (show DL _ _ _ _ _ _ _; refine' Bk Y Y (fun K kk => ?_) ?_; try (show Go.Ts.T; rotate_left))); (first
      | refine Ar hG Y Y ?_
      | refine Be hG Y Y ?_
      | (show AOp _ _ ⟨_, .call ⟨.builtin .len, _, _⟩, _, _, _, _⟩ _ _ _; first | refine A3 hG Y Y Y Y ?_ | refine r_len hG Y Y Y Y Y ?_)
      | (show AOp _ _ ⟨_, .binOp .add _ _ _ _, _, _, _, _⟩ _ _ _; first | refine A7 hG Y Y Y Y Y (by omega) ?_ | refine A7 (m := 1) hG Y Y Y Y Y (by omega) ?_ | refine As hG Y Y Y Y Y (by omega) ?_)
      | (show AOp _ _ ⟨_, .binOp .xor _ _ _ _, _, _, _, _⟩ _ _ _; refine r_xorU hG Y Y Y Y (by omega) ?_)
      | (show AOp _ _ ⟨_, .binOp _ _ _ _ _, _, _, _, _⟩ _ _ _; first | refine A5 hG Y Y Y Y Y (by omega) ?_ | refine A4 hG Y Y Y Y Y (by omega) ?_ | refine r_strT hG Y Y Y Y (by first | rfl | assumption) ?_ | refine r_strnF hG Y Y Y Y (by first | rfl | assumption) ?_ | refine r_strF hG Y Y Y Y (by assumption) ?_ | refine r_strnT hG Y Y Y Y (by assumption) ?_ | ((fail_if_success have := kk); refine Au hG Y Y Y Y Y (fun h => ?_) (fun h => ?_)) | ((fail_if_success have := kk); first | refine r_str hG Y Y Y Y (fun h => ?_) (fun h => ?_) | refine A1 hG Y Y Y Y (fun h => ?_) (fun h => ?_)) | refine r_bin' hG Y Y Y ?_)
      | (show AOp _ _ ⟨_, .load _ _, _, _, _, _⟩ _ _ _; first | refine Az (α := UInt16) 0 hG Y Y Y Y (by omega) Y ?_ | refine Az (α := UInt16) 1 hG Y Y Y Y (by omega) Y ?_ | refine A9 hG Y Y Y ?_ | refine r_ld 0 hG Y Y Y Y ?_)
      | (show AOp _ _ ⟨_, .indexAddr _ _ _, _, _, _, _⟩ _ _ _; first | refine Bm hG Y Y Y Y Y Y Y (by omega) ?_ | refine Ba hG Y Y Y Y Y Y Y (by omega) ?_ | refine Bc hG Y Y Y Y Y Y Y (by omega) ?_ | refine r_idx hG Y Y ?_)
      | (show AOp _ _ ⟨_, .convert _ _ _, _, _, _, _⟩ _ _ _; first | refine r_tostr hG Y Y Y Y Y Y Y Y (by first | exact Ae _ _ | exact Ao _ | rfl) ?_)
      | refine r_pick hG Y Y Y ?_
      | refine r_not hG Y Y Y ?_
      | (show AOp _ _ ⟨_, .buildSlice _ _ _, _, _, _, _⟩ _ _ _; first | refine r_mk (sz := 1) hG Y Y Y Y Y Y Y ?_)
      | (show AOp _ _ ⟨_, .store _ _ _, _, _, _, _⟩ _ _ _; fail)
      | (show AOp _ _ ⟨_, .call ⟨.builtin .append, _, _⟩, _, _, _, _⟩ _ _ _; first | refine A0 (sz := 1) (xs := []) hG Y Y Y Y Y Y Y ⟨_, Y⟩ Y Y Y Y Y Y Y (by first | omega | (simp; omega)) (fun k => ?_) | refine Bb 0 hG Y Y Y Y Y Y Y ⟨_, Y⟩ Y Y Y Y Y (by first | omega | (simp only [List.length_append, List.length_cons, List.length_nil]; omega)) (fun k => ?_) | fail)
      | refine r_q hG Y Y Y ?_); try exact kk)
    | (show AL _ _ _ _ _ _ _ _; first | refine al_s Y Y Y ?_ | (refine Aw ?_; first | show AW _ _ _ _ _ _ | show ∃ x', _ < _ ∧ _)) | (show AW _ _ (.seq _ _) _ _ _; refine Aj ?_; intro Q1) | (show AW _ _ (.region _ _ false) _ _ _; refine Af ?_; intro O1) | (show AW _ _ (.cond _ _ _) _ _ _; first | refine Al Y ?_ | refine Ak Y ?_ | refine aw_if Y (fun h => ?_) (fun h => ?_)) | (show AW _ _ (.skip) _ _ _; refine Ai ?_; first | show AW _ _ _ _ _ _ | show ∃ x', _ < _ ∧ _) | (show AW _ _ (.block _ _) _ _ _; refine Ah ?_; intro Q1) | (show AW _ _ (.exit _) _ _ _; refine Ax ?_; first | show AW _ _ _ _ _ _ | show ∃ x', _ < _ ∧ _) | (show AW _ _ (.ret) _ _ _; refine Av ?_; try dsimp only [Bf, Ac, Bh, Am])
    | (show DL _ _ _ _ _ _ _; refine dl_d Y Y (fun K kt kf => Au hG Y Y Y Y Y kt kf) (fun h => ?_) (fun h => ?_)) | (show DL _ _ _ _ _ _ _; refine dl_d Y Y (fun K kt kf => r_str hG Y Y Y Y kt kf) (fun h => ?_) (fun h => ?_)) | (show DL _ _ _ _ _ _ _; refine dl_ne Y Y (fun K kt kf => A1 hG Y Y Y Y kt kf) (fun h => ?_) (fun h => ?_))
    | (show DL _ _ _ _ _ _ _; refine dl_s Y Y Y ?_) | (show DL _ _ _ _ _ _ _; refine dl_nil ?_; first | show AW _ _ _ _ _ _ | show ∃ x', _ < _ ∧ _) | (show AW _ _ (.region _ _ true) _ _ _; refine Bi mix (by kernel_rfl) ?_; intro O1) | fail)
          refine Ab rfl (r_stB 0 (f := f8) (l := y :: ns0) (xorI ((y :: ns0).getD i default) 9) hG rfl rfl rfl f8_cells f8_sc rfl rfl (by rw [hn0]; exact hil) ?_)
          repeat' (first
    | ((first | (show AL _ _ _ _ _ _ _ _; refine Ab Y ?_) | (show DL _ _ _ _ _ _ _; refine' Bk Y Y (fun K kk => ?_) ?_; try (show Go.Ts.T; rotate_left))); (first
      | refine Ar hG Y Y ?_
      | refine Be hG Y Y ?_
      | (show AOp _ _ ⟨_, .call ⟨.builtin .len, _, _⟩, _, _, _, _⟩ _ _ _; first | refine A3 hG Y Y Y Y ?_ | refine r_len hG Y Y Y Y Y ?_)
      | (show AOp _ _ ⟨_, .binOp .add _ _ _ _, _, _, _, _⟩ _ _ _; first | refine A7 hG Y Y Y Y Y (by omega) ?_ | refine A7 (m := 1) hG Y Y Y Y Y (by omega) ?_ | refine As hG Y Y Y Y Y (by omega) ?_)
      | (show AOp _ _ ⟨_, .binOp .xor _ _ _ _, _, _, _, _⟩ _ _ _; refine r_xorU hG Y Y Y Y (by omega) ?_)
      | (show AOp _ _ ⟨_, .binOp _ _ _ _ _, _, _, _, _⟩ _ _ _; first | refine A5 hG Y Y Y Y Y (by omega) ?_ | refine A4 hG Y Y Y Y Y (by omega) ?_ | refine r_strT hG Y Y Y Y (by first | rfl | assumption) ?_ | refine r_strnF hG Y Y Y Y (by first | rfl | assumption) ?_ | refine r_strF hG Y Y Y Y (by assumption) ?_ | refine r_strnT hG Y Y Y Y (by assumption) ?_ | ((fail_if_success have := kk); refine Au hG Y Y Y Y Y (fun h => ?_) (fun h => ?_)) | ((fail_if_success have := kk); first | refine r_str hG Y Y Y Y (fun h => ?_) (fun h => ?_) | refine A1 hG Y Y Y Y (fun h => ?_) (fun h => ?_)) | refine r_bin' hG Y Y Y ?_)
      | (show AOp _ _ ⟨_, .load _ _, _, _, _, _⟩ _ _ _; first | refine Az (α := UInt16) 0 hG Y Y Y Y (by omega) Y ?_ | refine Az (α := UInt16) 1 hG Y Y Y Y (by omega) Y ?_ | refine A9 hG Y Y Y ?_ | refine r_ld 0 hG Y Y Y Y ?_)
      | (show AOp _ _ ⟨_, .indexAddr _ _ _, _, _, _, _⟩ _ _ _; first | refine Bm hG Y Y Y Y Y Y Y (by omega) ?_ | refine Ba hG Y Y Y Y Y Y Y (by omega) ?_ | refine Bc hG Y Y Y Y Y Y Y (by omega) ?_ | refine r_idx hG Y Y ?_)
      | (show AOp _ _ ⟨_, .convert _ _ _, _, _, _, _⟩ _ _ _; first | refine r_tostr hG Y Y Y Y Y Y Y Y (by first | exact Ae _ _ | exact Ao _ | rfl) ?_)
      | refine r_pick hG Y Y Y ?_
      | refine r_not hG Y Y Y ?_
      | (show AOp _ _ ⟨_, .buildSlice _ _ _, _, _, _, _⟩ _ _ _; first | refine r_mk (sz := 1) hG Y Y Y Y Y Y Y ?_)
      | (show AOp _ _ ⟨_, .store _ _ _, _, _, _, _⟩ _ _ _; first | refine r_stL (α := UInt16) 0 hG Y Y Y hT_cells hT_sc Y Y (by first | omega | (simp only [Array.size_setIfInBounds]; omega)) ?_ | refine r_stL (α := UInt16) 1 hG Y Y Y hT_cells hT_sc Y Y (by first | omega | (simp only [Array.size_setIfInBounds]; omega)) ?_ | refine r_st 0 hG Y Y Y Y Y Y Y ?_)
      | (show AOp _ _ ⟨_, .call ⟨.builtin .append, _, _⟩, _, _, _, _⟩ _ _ _; first | refine A0 (sz := 1) (xs := []) hG Y Y Y Y Y Y Y ⟨_, Y⟩ Y Y Y Y Y Y Y (by first | omega | (simp; omega)) (fun k => ?_) | refine Bb 0 hG Y Y Y Y Y Y Y ⟨_, Y⟩ Y Y Y Y Y (by first | omega | (simp only [List.length_append, List.length_cons, List.length_nil]; omega)) (fun k => ?_) | fail)
      | refine r_q hG Y Y Y ?_); try exact kk)
    | (show AL _ _ _ _ _ _ _ _; first | refine al_s Y Y Y ?_ | (refine Aw ?_; first | show AW _ _ _ _ _ _ | show ∃ x', _ < _ ∧ _)) | (show AW _ _ (.seq _ _) _ _ _; refine Aj ?_; intro Q1) | (show AW _ _ (.region _ _ false) _ _ _; refine Af ?_; intro O1) | (show AW _ _ (.cond _ _ _) _ _ _; first | refine Al Y ?_ | refine Ak Y ?_ | refine aw_if Y (fun h => ?_) (fun h => ?_)) | (show AW _ _ (.skip) _ _ _; refine Ai ?_; first | show AW _ _ _ _ _ _ | show ∃ x', _ < _ ∧ _) | (show AW _ _ (.block _ _) _ _ _; refine Ah ?_; intro Q1) | (show AW _ _ (.exit _) _ _ _; refine Ax ?_; first | show AW _ _ _ _ _ _ | show ∃ x', _ < _ ∧ _) | (show AW _ _ (.ret) _ _ _; refine Av ?_; try dsimp only [Bf, Ac, Bh, Am])
    | (show DL _ _ _ _ _ _ _; refine dl_d Y Y (fun K kt kf => Au hG Y Y Y Y Y kt kf) (fun h => ?_) (fun h => ?_)) | (show DL _ _ _ _ _ _ _; refine dl_d Y Y (fun K kt kf => r_str hG Y Y Y Y kt kf) (fun h => ?_) (fun h => ?_)) | (show DL _ _ _ _ _ _ _; refine dl_ne Y Y (fun K kt kf => A1 hG Y Y Y Y kt kf) (fun h => ?_) (fun h => ?_))
    | (show DL _ _ _ _ _ _ _; refine dl_s Y Y Y ?_) | (show DL _ _ _ _ _ _ _; refine dl_nil ?_; first | show AW _ _ _ _ _ _ | show ∃ x', _ < _ ∧ _) | (show AW _ _ (.region _ _ true) _ _ _; refine Bi mix (by kernel_rfl) ?_; intro O1) | fail)
          exact ⟨⟨i + 1, (y :: ns0).set i (xorI ((y :: ns0).getD i default) 9), by omega, by rw [List.length_set]; exact hn0⟩, by dsimp only; omega, (by repeat (first | exact .nil _ | refine .cons rfl ?_)), by
            dsimp only
            have e : rowI ((y :: ns0).set i (xorI ((y :: ns0).getD i default) 9), i0) = [(i0, .cells (((y :: ns0).set i (xorI ((y :: ns0).getD i default) 9)).map f8))] := rowI_ne (by intro h; have := congrArg List.length h; simp at this)
            rw [e]
            exact .refl _⟩
    · repeat' (first
    | ((first | (show AL _ _ _ _ _ _ _ _; refine Ab Y ?_) | (show DL _ _ _ _ _ _ _; refine' Bk Y Y (fun K kk => ?_) ?_; try (show Go.Ts.T; rotate_left))); (first
      | refine Ar hG Y Y ?_
      | refine Be hG Y Y ?_
      | (show AOp _ _ ⟨_, .call ⟨.builtin .len, _, _⟩, _, _, _, _⟩ _ _ _; first | refine A3 hG Y Y Y Y ?_ | refine r_len hG Y Y Y Y Y ?_)
      | (show AOp _ _ ⟨_, .binOp .add _ _ _ _, _, _, _, _⟩ _ _ _; first | refine A7 hG Y Y Y Y Y (by omega) ?_ | refine A7 (m := 1) hG Y Y Y Y Y (by omega) ?_ | refine As hG Y Y Y Y Y (by omega) ?_)
      | (show AOp _ _ ⟨_, .binOp .xor _ _ _ _, _, _, _, _⟩ _ _ _; refine r_xorU hG Y Y Y Y (by omega) ?_)
      | (show AOp _ _ ⟨_, .binOp _ _ _ _ _, _, _, _, _⟩ _ _ _; first | refine A5 hG Y Y Y Y Y (by omega) ?_ | refine A4 hG Y Y Y Y Y (by omega) ?_ | refine r_strT hG Y Y Y Y (by first | rfl | assumption) ?_ | refine r_strnF hG Y Y Y Y (by first | rfl | assumption) ?_ | refine r_strF hG Y Y Y Y (by assumption) ?_ | refine r_strnT hG Y Y Y Y (by assumption) ?_ | ((fail_if_success have := kk); refine Au hG Y Y Y Y Y (fun h => ?_) (fun h => ?_)) | ((fail_if_success have := kk); first | refine r_str hG Y Y Y Y (fun h => ?_) (fun h => ?_) | refine A1 hG Y Y Y Y (fun h => ?_) (fun h => ?_)) | refine r_bin' hG Y Y Y ?_)
      | (show AOp _ _ ⟨_, .load _ _, _, _, _, _⟩ _ _ _; first | refine Az (α := UInt16) 0 hG Y Y Y Y (by omega) Y ?_ | refine Az (α := UInt16) 1 hG Y Y Y Y (by omega) Y ?_ | refine A9 hG Y Y Y ?_ | refine r_ld 0 hG Y Y Y Y ?_)
      | (show AOp _ _ ⟨_, .indexAddr _ _ _, _, _, _, _⟩ _ _ _; first | refine Bm hG Y Y Y Y Y Y Y (by omega) ?_ | refine Ba hG Y Y Y Y Y Y Y (by omega) ?_ | refine Bc hG Y Y Y Y Y Y Y (by omega) ?_ | refine r_idx hG Y Y ?_)
      | (show AOp _ _ ⟨_, .convert _ _ _, _, _, _, _⟩ _ _ _; first | refine r_tostr hG Y Y Y Y Y Y Y Y (by first | exact Ae _ _ | exact Ao _ | rfl) ?_)
      | refine r_pick hG Y Y Y ?_
      | refine r_not hG Y Y Y ?_
      | (show AOp _ _ ⟨_, .buildSlice _ _ _, _, _, _, _⟩ _ _ _; first | refine r_mk (sz := 1) hG Y Y Y Y Y Y Y ?_)
      | (show AOp _ _ ⟨_, .store _ _ _, _, _, _, _⟩ _ _ _; first | refine r_stL (α := UInt16) 0 hG Y Y Y hT_cells hT_sc Y Y (by first | omega | (simp only [Array.size_setIfInBounds]; omega)) ?_ | refine r_stL (α := UInt16) 1 hG Y Y Y hT_cells hT_sc Y Y (by first | omega | (simp only [Array.size_setIfInBounds]; omega)) ?_ | refine r_st 0 hG Y Y Y Y Y Y Y ?_)
      | (show AOp _ _ ⟨_, .call ⟨.builtin .append, _, _⟩, _, _, _, _⟩ _ _ _; first | refine A0 (sz := 1) (xs := []) hG Y Y Y Y Y Y Y ⟨_, Y⟩ Y Y Y Y Y Y Y (by first | omega | (simp; omega)) (fun k => ?_) | refine Bb 0 hG Y Y Y Y Y Y Y ⟨_, Y⟩ Y Y Y Y Y (by first | omega | (simp only [List.length_append, List.length_cons, List.length_nil]; omega)) (fun k => ?_) | fail)
      | refine r_q hG Y Y Y ?_); try exact kk)
    | (show AL _ _ _ _ _ _ _ _; first | refine al_s Y Y Y ?_ | (refine Aw ?_; first | show AW _ _ _ _ _ _ | show ∃ x', _ < _ ∧ _)) | (show AW _ _ (.seq _ _) _ _ _; refine Aj ?_; intro Q1) | (show AW _ _ (.region _ _ false) _ _ _; refine Af ?_; intro O1) | (show AW _ _ (.cond _ _ _) _ _ _; first | refine Al Y ?_ | refine Ak Y ?_ | refine aw_if Y (fun h => ?_) (fun h => ?_)) | (show AW _ _ (.skip) _ _ _; refine Ai ?_; first | show AW _ _ _ _ _ _ | show ∃ x', _ < _ ∧ _) | (show AW _ _ (.block _ _) _ _ _; refine Ah ?_; intro Q1) | (show AW _ _ (.exit _) _ _ _; refine Ax ?_; first | show AW _ _ _ _ _ _ | show ∃ x', _ < _ ∧ _) | (show AW _ _ (.ret) _ _ _; refine Av ?_; try dsimp only [Bf, Ac, Bh, Am])
    | (show DL _ _ _ _ _ _ _; refine dl_d Y Y (fun K kt kf => Au hG Y Y Y Y Y kt kf) (fun h => ?_) (fun h => ?_)) | (show DL _ _ _ _ _ _ _; refine dl_d Y Y (fun K kt kf => r_str hG Y Y Y Y kt kf) (fun h => ?_) (fun h => ?_)) | (show DL _ _ _ _ _ _ _; refine dl_ne Y Y (fun K kt kf => A1 hG Y Y Y Y kt kf) (fun h => ?_) (fun h => ?_))
    | (show DL _ _ _ _ _ _ _; refine dl_s Y Y Y ?_) | (show DL _ _ _ _ _ _ _; refine dl_nil ?_; first | show AW _ _ _ _ _ _ | show ∃ x', _ < _ ∧ _) | (show AW _ _ (.region _ _ true) _ _ _; refine Bi mix (by kernel_rfl) ?_; intro O1) | fail)
      refine Ab rfl (r_lenV hG rfl rfl rfl rfl ?_)
      repeat' (first
    | ((first | (show AL _ _ _ _ _ _ _ _; refine Ab Y ?_) | (show DL _ _ _ _ _ _ _; refine' Bk Y Y (fun K kk => ?_) ?_; try (show Go.Ts.T; rotate_left))); (first
      | refine Ar hG Y Y ?_
      | refine Be hG Y Y ?_
      | (show AOp _ _ ⟨_, .call ⟨.builtin .len, _, _⟩, _, _, _, _⟩ _ _ _; first | refine A3 hG Y Y Y Y ?_ | refine r_len hG Y Y Y Y Y ?_)
      | (show AOp _ _ ⟨_, .binOp .add _ _ _ _, _, _, _, _⟩ _ _ _; first | refine A7 hG Y Y Y Y Y (by omega) ?_ | refine A7 (m := 1) hG Y Y Y Y Y (by omega) ?_ | refine As hG Y Y Y Y Y (by omega) ?_)
      | (show AOp _ _ ⟨_, .binOp .xor _ _ _ _, _, _, _, _⟩ _ _ _; refine r_xorU hG Y Y Y Y (by omega) ?_)
      | (show AOp _ _ ⟨_, .binOp _ _ _ _ _, _, _, _, _⟩ _ _ _; first | refine A5 hG Y Y Y Y Y (by omega) ?_ | refine A4 hG Y Y Y Y Y (by omega) ?_ | refine r_strT hG Y Y Y Y (by first | rfl | assumption) ?_ | refine r_strnF hG Y Y Y Y (by first | rfl | assumption) ?_ | refine r_strF hG Y Y Y Y (by assumption) ?_ | refine r_strnT hG Y Y Y Y (by assumption) ?_ | ((fail_if_success have := kk); refine Au hG Y Y Y Y Y (fun h => ?_) (fun h => ?_)) | ((fail_if_success have := kk); first | refine r_str hG Y Y Y Y (fun h => ?_) (fun h => ?_) | refine A1 hG Y Y Y Y (fun h => ?_) (fun h => ?_)) | refine r_bin' hG Y Y Y ?_)
      | (show AOp _ _ ⟨_, .load _ _, _, _, _, _⟩ _ _ _; first | refine Az (α := UInt16) 0 hG Y Y Y Y (by omega) Y ?_ | refine Az (α := UInt16) 1 hG Y Y Y Y (by omega) Y ?_ | refine A9 hG Y Y Y ?_ | refine r_ld 0 hG Y Y Y Y ?_)
      | (show AOp _ _ ⟨_, .indexAddr _ _ _, _, _, _, _⟩ _ _ _; first | refine Bm hG Y Y Y Y Y Y Y (by omega) ?_ | refine Ba hG Y Y Y Y Y Y Y (by omega) ?_ | refine Bc hG Y Y Y Y Y Y Y (by omega) ?_ | refine r_idx hG Y Y ?_)
      | (show AOp _ _ ⟨_, .convert _ _ _, _, _, _, _⟩ _ _ _; first | refine r_tostr hG Y Y Y Y Y Y Y Y (by first | exact Ae _ _ | exact Ao _ | rfl) ?_)
      | refine r_pick hG Y Y Y ?_
      | refine r_not hG Y Y Y ?_
      | (show AOp _ _ ⟨_, .buildSlice _ _ _, _, _, _, _⟩ _ _ _; first | refine r_mk (sz := 1) hG Y Y Y Y Y Y Y ?_)
      | (show AOp _ _ ⟨_, .store _ _ _, _, _, _, _⟩ _ _ _; first | refine r_stL (α := UInt16) 0 hG Y Y Y hT_cells hT_sc Y Y (by first | omega | (simp only [Array.size_setIfInBounds]; omega)) ?_ | refine r_stL (α := UInt16) 1 hG Y Y Y hT_cells hT_sc Y Y (by first | omega | (simp only [Array.size_setIfInBounds]; omega)) ?_ | refine r_st 0 hG Y Y Y Y Y Y Y ?_)
      | (show AOp _ _ ⟨_, .call ⟨.builtin .append, _, _⟩, _, _, _, _⟩ _ _ _; first | refine A0 (sz := 1) (xs := []) hG Y Y Y Y Y Y Y ⟨_, Y⟩ Y Y Y Y Y Y Y (by first | omega | (simp; omega)) (fun k => ?_) | refine Bb 0 hG Y Y Y Y Y Y Y ⟨_, Y⟩ Y Y Y Y Y (by first | omega | (simp only [List.length_append, List.length_cons, List.length_nil]; omega)) (fun k => ?_) | fail)
      | refine r_q hG Y Y Y ?_); try exact kk)
    | (show AL _ _ _ _ _ _ _ _; first | refine al_s Y Y Y ?_ | (refine Aw ?_; first | show AW _ _ _ _ _ _ | show ∃ x', _ < _ ∧ _)) | (show AW _ _ (.seq _ _) _ _ _; refine Aj ?_; intro Q1) | (show AW _ _ (.region _ _ false) _ _ _; refine Af ?_; intro O1) | (show AW _ _ (.cond _ _ _) _ _ _; first | refine Al Y ?_ | refine Ak Y ?_ | refine aw_if Y (fun h => ?_) (fun h => ?_)) | (show AW _ _ (.skip) _ _ _; refine Ai ?_; first | show AW _ _ _ _ _ _ | show ∃ x', _ < _ ∧ _) | (show AW _ _ (.block _ _) _ _ _; refine Ah ?_; intro Q1) | (show AW _ _ (.exit _) _ _ _; refine Ax ?_; first | show AW _ _ _ _ _ _ | show ∃ x', _ < _ ∧ _) | (show AW _ _ (.ret) _ _ _; refine Av ?_; try dsimp only [Bf, Ac, Bh, Am])
    | (show DL _ _ _ _ _ _ _; refine dl_d Y Y (fun K kt kf => Au hG Y Y Y Y Y kt kf) (fun h => ?_) (fun h => ?_)) | (show DL _ _ _ _ _ _ _; refine dl_d Y Y (fun K kt kf => r_str hG Y Y Y Y kt kf) (fun h => ?_) (fun h => ?_)) | (show DL _ _ _ _ _ _ _; refine dl_ne Y Y (fun K kt kf => A1 hG Y Y Y Y kt kf) (fun h => ?_) (fun h => ?_))
    | (show DL _ _ _ _ _ _ _; refine dl_s Y Y Y ?_) | (show DL _ _ _ _ _ _ _; refine dl_nil ?_; first | show AW _ _ _ _ _ _ | show ∃ x', _ < _ ∧ _) | (show AW _ _ (.region _ _ true) _ _ _; refine Bi mix (by kernel_rfl) ?_; intro O1) | fail)
      refine aw_loop (X := RaY (ps.map toI) ps.length) (fun x => [(0, lT l), (5, lT l), (7, lT (l ++ [b])), (10, lT (l ++ [b])), (12, .sl 1 .no (ps.map letT)), (13, .bool true), (15, .int .i64 (x.i : Int))]) (fun x => ⟨rowsI x.qs ++ [], [], off, none⟩) (fun x => ps.length - x.i) ⟨0, ps.map toI, Nat.zero_le _, by simp, fun j => ⟨rfl, rfl⟩⟩ (by repeat (first | exact .nil _ | refine .cons rfl ?_)) (keep_step (R' := []) (sub_mid _ _ _) (List.nil_sublist _)) ?_
      clear hil hi hn0 hn
      rintro ⟨i, qs, hi, hql, hqr⟩
      dsimp only
      by_cases hip : i < ps.length
      · obtain ⟨p, hp⟩ : ∃ p, ps.getD i default = p := ⟨_, rfl⟩
        have hq0 : (ps.map toI).getD i default = toI p := by rw [← hp]; simp [List.getD, hip]
        have hpl : p.1.length ≤ 16 := by
          have h1 : p.1 ∈ (l ++ [b]).drop 1 := by rw [← hps]; exact List.mem_map.2 ⟨p, by rw [← hp]; simp [List.getD, hip], rfl⟩
          rcases List.mem_append.1 (List.mem_of_mem_drop h1) with h | h
          · exact (mayL_iff.1 hml).2 _ h
          · rw [List.mem_singleton.1 h]; omega
        repeat' (first
    | ((first | (show AL _ _ _ _ _ _ _ _; refine Ab Y ?_) | (show DL _ _ _ _ _ _ _; refine' Bk Y Y (fun K kk => ?_) ?_; try (show Go.Ts.T; rotate_left))); (first
      | refine Ar hG Y Y ?_
      | refine Be hG Y Y ?_
      | (show AOp _ _ ⟨_, .call ⟨.builtin .len, _, _⟩, _, _, _, _⟩ _ _ _; first | refine A3 hG Y Y Y Y ?_ | refine r_len hG Y Y Y Y Y ?_)
      | (show AOp _ _ ⟨_, .binOp .add _ _ _ _, _, _, _, _⟩ _ _ _; first | refine A7 hG Y Y Y Y Y (by omega) ?_ | refine A7 (m := 1) hG Y Y Y Y Y (by omega) ?_ | refine As hG Y Y Y Y Y (by omega) ?_)
      | (show AOp _ _ ⟨_, .binOp .xor _ _ _ _, _, _, _, _⟩ _ _ _; refine r_xorU hG Y Y Y Y (by omega) ?_)
      | (show AOp _ _ ⟨_, .binOp _ _ _ _ _, _, _, _, _⟩ _ _ _; first | refine A5 hG Y Y Y Y Y (by omega) ?_ | refine A4 hG Y Y Y Y Y (by omega) ?_ | refine r_strT hG Y Y Y Y (by first | rfl | assumption) ?_ | refine r_strnF hG Y Y Y Y (by first | rfl | assumption) ?_ | refine r_strF hG Y Y Y Y (by assumption) ?_ | refine r_strnT hG Y Y Y Y (by assumption) ?_ | ((fail_if_success have := kk); refine Au hG Y Y Y Y Y (fun h => ?_) (fun h => ?_)) | ((fail_if_success have := kk); first | refine r_str hG Y Y Y Y (fun h => ?_) (fun h => ?_) | refine A1 hG Y Y Y Y (fun h => ?_) (fun h => ?_)) | refine r_bin' hG Y Y Y ?_)
      | (show AOp _ _ ⟨_, .load _ _, _, _, _, _⟩ _ _ _; first | refine Az (α := UInt16) 0 hG Y Y Y Y (by omega) Y ?_ | refine Az (α := UInt16) 1 hG Y Y Y Y (by omega) Y ?_ | refine A9 hG Y Y Y ?_ | refine r_ld 0 hG Y Y Y Y ?_)
      | (show AOp _ _ ⟨_, .indexAddr _ _ _, _, _, _, _⟩ _ _ _; first | refine Bm hG Y Y Y Y Y Y Y (by omega) ?_ | refine Ba hG Y Y Y Y Y Y Y (by omega) ?_ | refine Bc hG Y Y Y Y Y Y Y (by omega) ?_ | refine r_idx hG Y Y ?_)
      | (show AOp _ _ ⟨_, .convert _ _ _, _, _, _, _⟩ _ _ _; first | refine r_tostr hG Y Y Y Y Y Y Y Y (by first | exact Ae _ _ | exact Ao _ | rfl) ?_)
      | refine r_pick hG Y Y Y ?_
      | refine r_not hG Y Y Y ?_
      | (show AOp _ _ ⟨_, .buildSlice _ _ _, _, _, _, _⟩ _ _ _; first | refine r_mk (sz := 1) hG Y Y Y Y Y Y Y ?_)
      | (show AOp _ _ ⟨_, .store _ _ _, _, _, _, _⟩ _ _ _; first | refine r_stL (α := UInt16) 0 hG Y Y Y hT_cells hT_sc Y Y (by first | omega | (simp only [Array.size_setIfInBounds]; omega)) ?_ | refine r_stL (α := UInt16) 1 hG Y Y Y hT_cells hT_sc Y Y (by first | omega | (simp only [Array.size_setIfInBounds]; omega)) ?_ | refine r_st 0 hG Y Y Y Y Y Y Y ?_)
      | (show AOp _ _ ⟨_, .call ⟨.builtin .append, _, _⟩, _, _, _, _⟩ _ _ _; first | refine A0 (sz := 1) (xs := []) hG Y Y Y Y Y Y Y ⟨_, Y⟩ Y Y Y Y Y Y Y (by first | omega | (simp; omega)) (fun k => ?_) | refine Bb 0 hG Y Y Y Y Y Y Y ⟨_, Y⟩ Y Y Y Y Y (by first | omega | (simp only [List.length_append, List.length_cons, List.length_nil]; omega)) (fun k => ?_) | fail)
      | refine r_q hG Y Y Y ?_); try exact kk)
    | (show AL _ _ _ _ _ _ _ _; first | refine al_s Y Y Y ?_ | (refine Aw ?_; first | show AW _ _ _ _ _ _ | show ∃ x', _ < _ ∧ _)) | (show AW _ _ (.seq _ _) _ _ _; refine Aj ?_; intro Q1) | (show AW _ _ (.region _ _ false) _ _ _; refine Af ?_; intro O1) | (show AW _ _ (.cond _ _ _) _ _ _; first | refine Al Y ?_ | refine Ak Y ?_ | refine aw_if Y (fun h => ?_) (fun h => ?_)) | (show AW _ _ (.skip) _ _ _; refine Ai ?_; first | show AW _ _ _ _ _ _ | show ∃ x', _ < _ ∧ _) | (show AW _ _ (.block _ _) _ _ _; refine Ah ?_; intro Q1) | (show AW _ _ (.exit _) _ _ _; refine Ax ?_; first | show AW _ _ _ _ _ _ | show ∃ x', _ < _ ∧ _) | (show AW _ _ (.ret) _ _ _; refine Av ?_; try dsimp only [Bf, Ac, Bh, Am])
    | (show DL _ _ _ _ _ _ _; refine dl_d Y Y (fun K kt kf => Au hG Y Y Y Y Y kt kf) (fun h => ?_) (fun h => ?_)) | (show DL _ _ _ _ _ _ _; refine dl_d Y Y (fun K kt kf => r_str hG Y Y Y Y kt kf) (fun h => ?_) (fun h => ?_)) | (show DL _ _ _ _ _ _ _; refine dl_ne Y Y (fun K kt kf => A1 hG Y Y Y Y kt kf) (fun h => ?_) (fun h => ?_))
    | (show DL _ _ _ _ _ _ _; refine dl_s Y Y Y ?_) | (show DL _ _ _ _ _ _ _; refine dl_nil ?_; first | show AW _ _ _ _ _ _ | show ∃ x', _ < _ ∧ _) | (show AW _ _ (.region _ _ true) _ _ _; refine Bi mix (by kernel_rfl) ?_; intro O1) | fail)
        refine aw_loop (X := RaZ (ps.map toI) ps.length i) (fun x => [(0, lT l), (5, lT l), (7, lT (l ++ [b])), (10, lT (l ++ [b])), (12, .sl 1 .no (ps.map letT)), (13, .bool true), (15, .int .i64 (i : Int)), (16, .int .i64 (x.k : Int))]) (fun x => ⟨rowsI x.qs ++ [], [], off, none⟩) (fun x => p.1.length - x.k) ⟨0, qs, hql, hqr, Nat.zero_le _⟩ (by repeat (first | exact .nil _ | refine .cons rfl ?_)) (.refl _) ?_
        clear hqr hql qs
        rintro ⟨k, qs, hql, hqr, hk⟩
        rw [hq0] at hk
        have hk' : k ≤ p.1.length := by simpa [toI] using hk
        dsimp only
        repeat' (first
    | ((first | (show AL _ _ _ _ _ _ _ _; refine Ab Y ?_) | (show DL _ _ _ _ _ _ _; refine' Bk Y Y (fun K kk => ?_) ?_; try (show Go.Ts.T; rotate_left))); (first
      | refine Ar hG Y Y ?_
      | refine Be hG Y Y ?_
      | (show AOp _ _ ⟨_, .call ⟨.builtin .len, _, _⟩, _, _, _, _⟩ _ _ _; first | refine A3 hG Y Y Y Y ?_ | refine r_len hG Y Y Y Y Y ?_)
      | (show AOp _ _ ⟨_, .binOp .add _ _ _ _, _, _, _, _⟩ _ _ _; first | refine A7 hG Y Y Y Y Y (by omega) ?_ | refine A7 (m := 1) hG Y Y Y Y Y (by omega) ?_ | refine As hG Y Y Y Y Y (by omega) ?_)
      | (show AOp _ _ ⟨_, .binOp .xor _ _ _ _, _, _, _, _⟩ _ _ _; refine r_xorU hG Y Y Y Y (by omega) ?_)
      | (show AOp _ _ ⟨_, .binOp _ _ _ _ _, _, _, _, _⟩ _ _ _; first | refine A5 hG Y Y Y Y Y (by omega) ?_ | refine A4 hG Y Y Y Y Y (by omega) ?_ | refine r_strT hG Y Y Y Y (by first | rfl | assumption) ?_ | refine r_strnF hG Y Y Y Y (by first | rfl | assumption) ?_ | refine r_strF hG Y Y Y Y (by assumption) ?_ | refine r_strnT hG Y Y Y Y (by assumption) ?_ | ((fail_if_success have := kk); refine Au hG Y Y Y Y Y (fun h => ?_) (fun h => ?_)) | ((fail_if_success have := kk); first | refine r_str hG Y Y Y Y (fun h => ?_) (fun h => ?_) | refine A1 hG Y Y Y Y (fun h => ?_) (fun h => ?_)) | refine r_bin' hG Y Y Y ?_)
      | (show AOp _ _ ⟨_, .load _ _, _, _, _, _⟩ _ _ _; first | refine Az (α := UInt16) 0 hG Y Y Y Y (by omega) Y ?_ | refine Az (α := UInt16) 1 hG Y Y Y Y (by omega) Y ?_ | refine A9 hG Y Y Y ?_ | refine r_ld 0 hG Y Y Y Y ?_)
      | (show AOp _ _ ⟨_, .indexAddr _ _ _, _, _, _, _⟩ _ _ _; first | refine Bm hG Y Y Y Y Y Y Y (by omega) ?_ | refine Ba hG Y Y Y Y Y Y Y (by omega) ?_ | refine Bc hG Y Y Y Y Y Y Y (by omega) ?_ | refine r_idx hG Y Y ?_)
      | (show AOp _ _ ⟨_, .convert _ _ _, _, _, _, _⟩ _ _ _; first | refine r_tostr hG Y Y Y Y Y Y Y Y (by first | exact Ae _ _ | exact Ao _ | rfl) ?_)
      | refine r_pick hG Y Y Y ?_
      | refine r_not hG Y Y Y ?_
      | (show AOp _ _ ⟨_, .buildSlice _ _ _, _, _, _, _⟩ _ _ _; first | refine r_mk (sz := 1) hG Y Y Y Y Y Y Y ?_)
      | (show AOp _ _ ⟨_, .store _ _ _, _, _, _, _⟩ _ _ _; first | refine r_stL (α := UInt16) 0 hG Y Y Y hT_cells hT_sc Y Y (by first | omega | (simp only [Array.size_setIfInBounds]; omega)) ?_ | refine r_stL (α := UInt16) 1 hG Y Y Y hT_cells hT_sc Y Y (by first | omega | (simp only [Array.size_setIfInBounds]; omega)) ?_ | refine r_st 0 hG Y Y Y Y Y Y Y ?_)
      | (show AOp _ _ ⟨_, .call ⟨.builtin .append, _, _⟩, _, _, _, _⟩ _ _ _; first | refine A0 (sz := 1) (xs := []) hG Y Y Y Y Y Y Y ⟨_, Y⟩ Y Y Y Y Y Y Y (by first | omega | (simp; omega)) (fun k => ?_) | refine Bb 0 hG Y Y Y Y Y Y Y ⟨_, Y⟩ Y Y Y Y Y (by first | omega | (simp only [List.length_append, List.length_cons, List.length_nil]; omega)) (fun k => ?_) | fail)
      | refine r_q hG Y Y Y ?_); try exact kk)
    | (show AL _ _ _ _ _ _ _ _; first | refine al_s Y Y Y ?_ | (refine Aw ?_; first | show AW _ _ _ _ _ _ | show ∃ x', _ < _ ∧ _)) | (show AW _ _ (.seq _ _) _ _ _; refine Aj ?_; intro Q1) | (show AW _ _ (.region _ _ false) _ _ _; refine Af ?_; intro O1) | (show AW _ _ (.cond _ _ _) _ _ _; first | refine Al Y ?_ | refine Ak Y ?_ | refine aw_if Y (fun h => ?_) (fun h => ?_)) | (show AW _ _ (.skip) _ _ _; refine Ai ?_; first | show AW _ _ _ _ _ _ | show ∃ x', _ < _ ∧ _) | (show AW _ _ (.block _ _) _ _ _; refine Ah ?_; intro Q1) | (show AW _ _ (.exit _) _ _ _; refine Ax ?_; first | show AW _ _ _ _ _ _ | show ∃ x', _ < _ ∧ _) | (show AW _ _ (.ret) _ _ _; refine Av ?_; try dsimp only [Bf, Ac, Bh, Am])
    | (show DL _ _ _ _ _ _ _; refine dl_d Y Y (fun K kt kf => Au hG Y Y Y Y Y kt kf) (fun h => ?_) (fun h => ?_)) | (show DL _ _ _ _ _ _ _; refine dl_d Y Y (fun K kt kf => r_str hG Y Y Y Y kt kf) (fun h => ?_) (fun h => ?_)) | (show DL _ _ _ _ _ _ _; refine dl_ne Y Y (fun K kt kf => A1 hG Y Y Y Y kt kf) (fun h => ?_) (fun h => ?_))
    | (show DL _ _ _ _ _ _ _; refine dl_s Y Y Y ?_) | (show DL _ _ _ _ _ _ _; refine dl_nil ?_; first | show AW _ _ _ _ _ _ | show ∃ x', _ < _ ∧ _) | (show AW _ _ (.region _ _ true) _ _ _; refine Bi mix (by kernel_rfl) ?_; intro O1) | fail)
        refine Ab rfl (A9 (u := letT (ps.getD i default)) hG rfl (readV _) rfl ?_)
        refine Ab rfl (r_lenP (n := p.1.length) (p := ps.getD i default) (by rw [hp]) hG rfl rfl rfl rfl ?_)
        by_cases hkp : k < p.1.length
        · obtain ⟨pb, pid⟩ := p
          cases pb with
          | nil => simp at hkp
          | cons z pb =>
            have hqi := hqr i
            rw [hq0] at hqi
            have e2 : (qs.getD i default).2 = pid := hqi.1
            have e3 : (qs.getD i default).1.length = (z :: pb).length := by rw [hqi.2]; simp [toI]
            obtain ⟨nn, hnn⟩ := rowsI_at qs i (by rw [hql]; exact hip) (by intro h; rw [h] at e3; simp at e3)
            obtain ⟨f1, f2⟩ := hnn []
            rw [e2] at f1 f2
            repeat' (first
    | ((first | (show AL _ _ _ _ _ _ _ _; refine Ab Y ?_) | (show DL _ _ _ _ _ _ _; refine' Bk Y Y (fun K kk => ?_) ?_; try (show Go.Ts.T; rotate_left))); (first
      | refine Ar hG Y Y ?_
      | refine Be hG Y Y ?_
      | (show AOp _ _ ⟨_, .call ⟨.builtin .len, _, _⟩, _, _, _, _⟩ _ _ _; first | refine A3 hG Y Y Y Y ?_ | refine r_len hG Y Y Y Y Y ?_)
      | (show AOp _ _ ⟨_, .binOp .add _ _ _ _, _, _, _, _⟩ _ _ _; first | refine A7 hG Y Y Y Y Y (by omega) ?_ | refine A7 (m := 1) hG Y Y Y Y Y (by omega) ?_ | refine As hG Y Y Y Y Y (by omega) ?_)
      | (show AOp _ _ ⟨_, .binOp .xor _ _ _ _, _, _, _, _⟩ _ _ _; refine r_xorU hG Y Y Y Y (by omega) ?_)
      | (show AOp _ _ ⟨_, .binOp _ _ _ _ _, _, _, _, _⟩ _ _ _; first | refine A5 hG Y Y Y Y Y (by omega) ?_ | refine A4 hG Y Y Y Y Y (by omega) ?_ | refine r_strT hG Y Y Y Y (by first | rfl | assumption) ?_ | refine r_strnF hG Y Y Y Y (by first | rfl | assumption) ?_ | refine r_strF hG Y Y Y Y (by assumption) ?_ | refine r_strnT hG Y Y Y Y (by assumption) ?_ | ((fail_if_success have := kk); refine Au hG Y Y Y Y Y (fun h => ?_) (fun h => ?_)) | ((fail_if_success have := kk); first | refine r_str hG Y Y Y Y (fun h => ?_) (fun h => ?_) | refine A1 hG Y Y Y Y (fun h => ?_) (fun h => ?_)) | refine r_bin' hG Y Y Y ?_)
      | (show AOp _ _ ⟨_, .load _ _, _, _, _, _⟩ _ _ _; first | refine Az (α := UInt16) 0 hG Y Y Y Y (by omega) Y ?_ | refine Az (α := UInt16) 1 hG Y Y Y Y (by omega) Y ?_ | refine A9 hG Y Y Y ?_ | refine r_ld 0 hG Y Y Y Y ?_)
      | (show AOp _ _ ⟨_, .indexAddr _ _ _, _, _, _, _⟩ _ _ _; first | refine Bm hG Y Y Y Y Y Y Y (by omega) ?_ | refine Ba hG Y Y Y Y Y Y Y (by omega) ?_ | refine Bc hG Y Y Y Y Y Y Y (by omega) ?_ | refine r_idx hG Y Y ?_)
      | (show AOp _ _ ⟨_, .convert _ _ _, _, _, _, _⟩ _ _ _; first | refine r_tostr hG Y Y Y Y Y Y Y Y (by first | exact Ae _ _ | exact Ao _ | rfl) ?_)
      | refine r_pick hG Y Y Y ?_
      | refine r_not hG Y Y Y ?_
      | (show AOp _ _ ⟨_, .buildSlice _ _ _, _, _, _, _⟩ _ _ _; first | refine r_mk (sz := 1) hG Y Y Y Y Y Y Y ?_)
      | (show AOp _ _ ⟨_, .store _ _ _, _, _, _, _⟩ _ _ _; first | refine r_stL (α := UInt16) 0 hG Y Y Y hT_cells hT_sc Y Y (by first | omega | (simp only [Array.size_setIfInBounds]; omega)) ?_ | refine r_stL (α := UInt16) 1 hG Y Y Y hT_cells hT_sc Y Y (by first | omega | (simp only [Array.size_setIfInBounds]; omega)) ?_ | refine r_st 0 hG Y Y Y Y Y Y Y ?_)
      | (show AOp _ _ ⟨_, .call ⟨.builtin .append, _, _⟩, _, _, _, _⟩ _ _ _; first | refine A0 (sz := 1) (xs := []) hG Y Y Y Y Y Y Y ⟨_, Y⟩ Y Y Y Y Y Y Y (by first | omega | (simp; omega)) (fun k => ?_) | refine Bb 0 hG Y Y Y Y Y Y Y ⟨_, Y⟩ Y Y Y Y Y (by first | omega | (simp only [List.length_append, List.length_cons, List.length_nil]; omega)) (fun k => ?_) | fail)
      | refine r_q hG Y Y Y ?_); try exact kk)
    | (show AL _ _ _ _ _ _ _ _; first | refine al_s Y Y Y ?_ | (refine Aw ?_; first | show AW _ _ _ _ _ _ | show ∃ x', _ < _ ∧ _)) | (show AW _ _ (.seq _ _) _ _ _; refine Aj ?_; intro Q1) | (show AW _ _ (.region _ _ false) _ _ _; refine Af ?_; intro O1) | (show AW _ _ (.cond _ _ _) _ _ _; first | refine Al Y ?_ | refine Ak Y ?_ | refine aw_if Y (fun h => ?_) (fun h => ?_)) | (show AW _ _ (.skip) _ _ _; refine Ai ?_; first | show AW _ _ _ _ _ _ | show ∃ x', _ < _ ∧ _) | (show AW _ _ (.block _ _) _ _ _; refine Ah ?_; intro Q1) | (show AW _ _ (.exit _) _ _ _; refine Ax ?_; first | show AW _ _ _ _ _ _ | show ∃ x', _ < _ ∧ _) | (show AW _ _ (.ret) _ _ _; refine Av ?_; try dsimp only [Bf, Ac, Bh, Am])
    | (show DL _ _ _ _ _ _ _; refine dl_d Y Y (fun K kt kf => Au hG Y Y Y Y Y kt kf) (fun h => ?_) (fun h => ?_)) | (show DL _ _ _ _ _ _ _; refine dl_d Y Y (fun K kt kf => r_str hG Y Y Y Y kt kf) (fun h => ?_) (fun h => ?_)) | (show DL _ _ _ _ _ _ _; refine dl_ne Y Y (fun K kt kf => A1 hG Y Y Y Y kt kf) (fun h => ?_) (fun h => ?_))
    | (show DL _ _ _ _ _ _ _; refine dl_s Y Y Y ?_) | (show DL _ _ _ _ _ _ _; refine dl_nil ?_; first | show AW _ _ _ _ _ _ | show ∃ x', _ < _ ∧ _) | (show AW _ _ (.region _ _ true) _ _ _; refine Bi mix (by kernel_rfl) ?_; intro O1) | fail)
            refine Ab rfl (A9 (u := .aref 1 pid 0 (z :: pb).length none) hG rfl (by rw [hp]; rfl) rfl ?_)
            repeat' (first
    | ((first | (show AL _ _ _ _ _ _ _ _; refine Ab Y ?_) | (show DL _ _ _ _ _ _ _; refine' Bk Y Y (fun K kk => ?_) ?_; try (show Go.Ts.T; rotate_left))); (first
      | refine Ar hG Y Y ?_
      | refine Be hG Y Y ?_
      | (show AOp _ _ ⟨_, .call ⟨.builtin .len, _, _⟩, _, _, _, _⟩ _ _ _; first | refine A3 hG Y Y Y Y ?_ | refine r_len hG Y Y Y Y Y ?_)
      | (show AOp _ _ ⟨_, .binOp .add _ _ _ _, _, _, _, _⟩ _ _ _; first | refine A7 hG Y Y Y Y Y (by omega) ?_ | refine A7 (m := 1) hG Y Y Y Y Y (by omega) ?_ | refine As hG Y Y Y Y Y (by omega) ?_)
      | (show AOp _ _ ⟨_, .binOp .xor _ _ _ _, _, _, _, _⟩ _ _ _; refine r_xorU hG Y Y Y Y (by omega) ?_)
      | (show AOp _ _ ⟨_, .binOp _ _ _ _ _, _, _, _, _⟩ _ _ _; first | refine A5 hG Y Y Y Y Y (by omega) ?_ | refine A4 hG Y Y Y Y Y (by omega) ?_ | refine r_strT hG Y Y Y Y (by first | rfl | assumption) ?_ | refine r_strnF hG Y Y Y Y (by first | rfl | assumption) ?_ | refine r_strF hG Y Y Y Y (by assumption) ?_ | refine r_strnT hG Y Y Y Y (by assumption) ?_ | ((fail_if_success have := kk); refine Au hG Y Y Y Y Y (fun h => ?_) (fun h => ?_)) | ((fail_if_success have := kk); first | refine r_str hG Y Y Y Y (fun h => ?_) (fun h => ?_) | refine A1 hG Y Y Y Y (fun h => ?_) (fun h => ?_)) | refine r_bin' hG Y Y Y ?_)
      | (show AOp _ _ ⟨_, .load _ _, _, _, _, _⟩ _ _ _; first | refine Az (α := UInt16) 0 hG Y Y Y Y (by omega) Y ?_ | refine Az (α := UInt16) 1 hG Y Y Y Y (by omega) Y ?_ | refine A9 hG Y Y Y ?_ | refine r_ld 0 hG Y Y Y Y ?_)
      | (show AOp _ _ ⟨_, .indexAddr _ _ _, _, _, _, _⟩ _ _ _; first | refine Bm hG Y Y Y Y Y Y Y (by omega) ?_ | refine Ba hG Y Y Y Y Y Y Y (by omega) ?_ | refine Bc hG Y Y Y Y Y Y Y (by omega) ?_ | refine r_idx hG Y Y ?_)
      | (show AOp _ _ ⟨_, .convert _ _ _, _, _, _, _⟩ _ _ _; first | refine r_tostr hG Y Y Y Y Y Y Y Y (by first | exact Ae _ _ | exact Ao _ | rfl) ?_)
      | refine r_pick hG Y Y Y ?_
      | refine r_not hG Y Y Y ?_
      | (show AOp _ _ ⟨_, .buildSlice _ _ _, _, _, _, _⟩ _ _ _; first | refine r_mk (sz := 1) hG Y Y Y Y Y Y Y ?_)
      | (show AOp _ _ ⟨_, .store _ _ _, _, _, _, _⟩ _ _ _; first | refine r_stL (α := UInt16) 0 hG Y Y Y hT_cells hT_sc Y Y (by first | omega | (simp only [Array.size_setIfInBounds]; omega)) ?_ | refine r_stL (α := UInt16) 1 hG Y Y Y hT_cells hT_sc Y Y (by first | omega | (simp only [Array.size_setIfInBounds]; omega)) ?_ | refine r_st 0 hG Y Y Y Y Y Y Y ?_)
      | (show AOp _ _ ⟨_, .call ⟨.builtin .append, _, _⟩, _, _, _, _⟩ _ _ _; first | refine A0 (sz := 1) (xs := []) hG Y Y Y Y Y Y Y ⟨_, Y⟩ Y Y Y Y Y Y Y (by first | omega | (simp; omega)) (fun k => ?_) | refine Bb 0 hG Y Y Y Y Y Y Y ⟨_, Y⟩ Y Y Y Y Y (by first | omega | (simp only [List.length_append, List.length_cons, List.length_nil]; omega)) (fun k => ?_) | fail)
      | refine r_q hG Y Y Y ?_); try exact kk)
    | (show AL _ _ _ _ _ _ _ _; first | refine al_s Y Y Y ?_ | (refine Aw ?_; first | show AW _ _ _ _ _ _ | show ∃ x', _ < _ ∧ _)) | (show AW _ _ (.seq _ _) _ _ _; refine Aj ?_; intro Q1) | (show AW _ _ (.region _ _ false) _ _ _; refine Af ?_; intro O1) | (show AW _ _ (.cond _ _ _) _ _ _; first | refine Al Y ?_ | refine Ak Y ?_ | refine aw_if Y (fun h => ?_) (fun h => ?_)) | (show AW _ _ (.skip) _ _ _; refine Ai ?_; first | show AW _ _ _ _ _ _ | show ∃ x', _ < _ ∧ _) | (show AW _ _ (.block _ _) _ _ _; refine Ah ?_; intro Q1) | (show AW _ _ (.exit _) _ _ _; refine Ax ?_; first | show AW _ _ _ _ _ _ | show ∃ x', _ < _ ∧ _) | (show AW _ _ (.ret) _ _ _; refine Av ?_; try dsimp only [Bf, Ac, Bh, Am])
    | (show DL _ _ _ _ _ _ _; refine dl_d Y Y (fun K kt kf => Au hG Y Y Y Y Y kt kf) (fun h => ?_) (fun h => ?_)) | (show DL _ _ _ _ _ _ _; refine dl_d Y Y (fun K kt kf => r_str hG Y Y Y Y kt kf) (fun h => ?_) (fun h => ?_)) | (show DL _ _ _ _ _ _ _; refine dl_ne Y Y (fun K kt kf => A1 hG Y Y Y Y kt kf) (fun h => ?_) (fun h => ?_))
    | (show DL _ _ _ _ _ _ _; refine dl_s Y Y Y ?_) | (show DL _ _ _ _ _ _ _; refine dl_nil ?_; first | show AW _ _ _ _ _ _ | show ∃ x', _ < _ ∧ _) | (show AW _ _ (.region _ _ true) _ _ _; refine Bi mix (by kernel_rfl) ?_; intro O1) | fail)
            refine Ab rfl (r_ldB nn (f := f8) (l := (qs.getD i default).1) hG rfl f1 rfl rfl (by rw [e3]; exact hkp) rfl ?_)
            repeat' (first
    | ((first | (show AL _ _ _ _ _ _ _ _; refine Ab Y ?_) | (show DL _ _ _ _ _ _ _; refine' Bk Y Y (fun K kk => ?_) ?_; try (show Go.Ts.T; rotate_left))); (first
      | refine Ar hG Y Y ?_
      | refine Be hG Y Y ?_
      | (show AOp _ _ ⟨_, .call ⟨.builtin .len, _, _⟩, _, _, _, _⟩ _ _ _; first | refine A3 hG Y Y Y Y ?_ | refine r_len hG Y Y Y Y Y ?_)
      | (show AOp _ _ ⟨_, .binOp .add _ _ _ _, _, _, _, _⟩ _ _ _; first | refine A7 hG Y Y Y Y Y (by omega) ?_ | refine A7 (m := 1) hG Y Y Y Y Y (by omega) ?_ | refine As hG Y Y Y Y Y (by omega) ?_)
      | (show AOp _ _ ⟨_, .binOp .xor _ _ _ _, _, _, _, _⟩ _ _ _; refine r_xorU hG Y Y Y Y (by omega) ?_)
      | (show AOp _ _ ⟨_, .binOp _ _ _ _ _, _, _, _, _⟩ _ _ _; first | refine A5 hG Y Y Y Y Y (by omega) ?_ | refine A4 hG Y Y Y Y Y (by omega) ?_ | refine r_strT hG Y Y Y Y (by first | rfl | assumption) ?_ | refine r_strnF hG Y Y Y Y (by first | rfl | assumption) ?_ | refine r_strF hG Y Y Y Y (by assumption) ?_ | refine r_strnT hG Y Y Y Y (by assumption) ?_ | ((fail_if_success have := kk); refine Au hG Y Y Y Y Y (fun h => ?_) (fun h => ?_)) | ((fail_if_success have := kk); first | refine r_str hG Y Y Y Y (fun h => ?_) (fun h => ?_) | refine A1 hG Y Y Y Y (fun h => ?_) (fun h => ?_)) | refine r_bin' hG Y Y Y ?_)
      | (show AOp _ _ ⟨_, .load _ _, _, _, _, _⟩ _ _ _; first | refine Az (α := UInt16) 0 hG Y Y Y Y (by omega) Y ?_ | refine Az (α := UInt16) 1 hG Y Y Y Y (by omega) Y ?_ | refine A9 hG Y Y Y ?_ | refine r_ld 0 hG Y Y Y Y ?_)
      | (show AOp _ _ ⟨_, .indexAddr _ _ _, _, _, _, _⟩ _ _ _; first | refine Bm hG Y Y Y Y Y Y Y (by omega) ?_ | refine Ba hG Y Y Y Y Y Y Y (by omega) ?_ | refine Bc hG Y Y Y Y Y Y Y (by omega) ?_ | refine r_idx hG Y Y ?_)
      | (show AOp _ _ ⟨_, .convert _ _ _, _, _, _, _⟩ _ _ _; first | refine r_tostr hG Y Y Y Y Y Y Y Y (by first | exact Ae _ _ | exact Ao _ | rfl) ?_)
      | refine r_pick hG Y Y Y ?_
      | refine r_not hG Y Y Y ?_
      | (show AOp _ _ ⟨_, .buildSlice _ _ _, _, _, _, _⟩ _ _ _; first | refine r_mk (sz := 1) hG Y Y Y Y Y Y Y ?_)
      | (show AOp _ _ ⟨_, .store _ _ _, _, _, _, _⟩ _ _ _; fail)
      | (show AOp _ _ ⟨_, .call ⟨.builtin .append, _, _⟩, _, _, _, _⟩ _ _ _; first | refine A0 (sz := 1) (xs := []) hG Y Y Y Y Y Y Y ⟨_, Y⟩ Y Y Y Y Y Y Y (by first | omega | (simp; omega)) (fun k => ?_) | refine Bb 0 hG Y Y Y Y Y Y Y ⟨_, Y⟩ Y Y Y Y Y (by first | omega | (simp only [List.length_append, List.length_cons, List.length_nil]; omega)) (fun k => ?_) | fail)
      | refine r_q hG Y Y Y ?_); try exact kk)
    | (show AL _ _ _ _ _ _ _ _; first | refine al_s Y Y Y ?_ | (refine Aw ?_; first | show AW _ _ _ _ _ _ | show ∃ x', _ < _ ∧ _)) | (show AW _ _ (.seq _ _) _ _ _; refine Aj ?_; intro Q1) | (show AW _ _ (.region _ _ false) _ _ _; refine Af ?_; intro O1) | (show AW _ _ (.cond _ _ _) _ _ _; first | refine Al Y ?_ | refine Ak Y ?_ | refine aw_if Y (fun h => ?_) (fun h => ?_)) | (show AW _ _ (.skip) _ _ _; refine Ai ?_; first | show AW _ _ _ _ _ _ | show ∃ x', _ < _ ∧ _) | (show AW _ _ (.block _ _) _ _ _; refine Ah ?_; intro Q1) | (show AW _ _ (.exit _) _ _ _; refine Ax ?_; first | show AW _ _ _ _ _ _ | show ∃ x', _ < _ ∧ _) | (show AW _ _ (.ret) _ _ _; refine Av ?_; try dsimp only [Bf, Ac, Bh, Am])
    | (show DL _ _ _ _ _ _ _; refine dl_d Y Y (fun K kt kf => Au hG Y Y Y Y Y kt kf) (fun h => ?_) (fun h => ?_)) | (show DL _ _ _ _ _ _ _; refine dl_d Y Y (fun K kt kf => r_str hG Y Y Y Y kt kf) (fun h => ?_) (fun h => ?_)) | (show DL _ _ _ _ _ _ _; refine dl_ne Y Y (fun K kt kf => A1 hG Y Y Y Y kt kf) (fun h => ?_) (fun h => ?_))
    | (show DL _ _ _ _ _ _ _; refine dl_s Y Y Y ?_) | (show DL _ _ _ _ _ _ _; refine dl_nil ?_; first | show AW _ _ _ _ _ _ | show ∃ x', _ < _ ∧ _) | (show AW _ _ (.region _ _ true) _ _ _; refine Bi mix (by kernel_rfl) ?_; intro O1) | fail)
            refine Ab rfl (r_stB nn (f := f8) (l := (qs.getD i default).1) (xorI ((qs.getD i default).1.getD k default) 9) hG rfl f1 rfl f8_cells f8_sc rfl rfl (by rw [e3]; exact hkp) ?_)
            have e4 := f2 ((qs.getD i default).1.set k (xorI ((qs.getD i default).1.getD k default) 9)) (by rw [List.length_set])
            repeat' (first
    | ((first | (show AL _ _ _ _ _ _ _ _; refine Ab Y ?_) | (show DL _ _ _ _ _ _ _; refine' Bk Y Y (fun K kk => ?_) ?_; try (show Go.Ts.T; rotate_left))); (first
      | refine Ar hG Y Y ?_
      | refine Be hG Y Y ?_
      | (show AOp _ _ ⟨_, .call ⟨.builtin .len, _, _⟩, _, _, _, _⟩ _ _ _; first | refine A3 hG Y Y Y Y ?_ | refine r_len hG Y Y Y Y Y ?_)
      | (show AOp _ _ ⟨_, .binOp .add _ _ _ _, _, _, _, _⟩ _ _ _; first | refine A7 hG Y Y Y Y Y (by omega) ?_ | refine A7 (m := 1) hG Y Y Y Y Y (by omega) ?_ | refine As hG Y Y Y Y Y (by omega) ?_)
      | (show AOp _ _ ⟨_, .binOp .xor _ _ _ _, _, _, _, _⟩ _ _ _; refine r_xorU hG Y Y Y Y (by omega) ?_)
      | (show AOp _ _ ⟨_, .binOp _ _ _ _ _, _, _, _, _⟩ _ _ _; first | refine A5 hG Y Y Y Y Y (by omega) ?_ | refine A4 hG Y Y Y Y Y (by omega) ?_ | refine r_strT hG Y Y Y Y (by first | rfl | assumption) ?_ | refine r_strnF hG Y Y Y Y (by first | rfl | assumption) ?_ | refine r_strF hG Y Y Y Y (by assumption) ?_ | refine r_strnT hG Y Y Y Y (by assumption) ?_ | ((fail_if_success have := kk); refine Au hG Y Y Y Y Y (fun h => ?_) (fun h => ?_)) | ((fail_if_success have := kk); first | refine r_str hG Y Y Y Y (fun h => ?_) (fun h => ?_) | refine A1 hG Y Y Y Y (fun h => ?_) (fun h => ?_)) | refine r_bin' hG Y Y Y ?_)
      | (show AOp _ _ ⟨_, .load _ _, _, _, _, _⟩ _ _ _; first | refine Az (α := UInt16) 0 hG Y Y Y Y (by omega) Y ?_ | refine Az (α := UInt16) 1 hG Y Y Y Y (by omega) Y ?_ | refine A9 hG Y Y Y ?_ | refine r_ld 0 hG Y Y Y Y ?_)
      | (show AOp _ _ ⟨_, .indexAddr _ _ _, _, _, _, _⟩ _ _ _; first | refine Bm hG Y Y Y Y Y Y Y (by omega) ?_ | refine Ba hG Y Y Y Y Y Y Y (by omega) ?_ | refine Bc hG Y Y Y Y Y Y Y (by omega) ?_ | refine r_idx hG Y Y ?_)
      | (show AOp _ _ ⟨_, .convert _ _ _, _, _, _, _⟩ _ _ _; first | refine r_tostr hG Y Y Y Y Y Y Y Y (by first | exact Ae _ _ | exact Ao _ | rfl) ?_)
      | refine r_pick hG Y Y Y ?_
      | refine r_not hG Y Y Y ?_
      | (show AOp _ _ ⟨_, .buildSlice _ _ _, _, _, _, _⟩ _ _ _; first | refine r_mk (sz := 1) hG Y Y Y Y Y Y Y ?_)
      | (show AOp _ _ ⟨_, .store _ _ _, _, _, _, _⟩ _ _ _; first | refine r_stL (α := UInt16) 0 hG Y Y Y hT_cells hT_sc Y Y (by first | omega | (simp only [Array.size_setIfInBounds]; omega)) ?_ | refine r_stL (α := UInt16) 1 hG Y Y Y hT_cells hT_sc Y Y (by first | omega | (simp only [Array.size_setIfInBounds]; omega)) ?_ | refine r_st 0 hG Y Y Y Y Y Y Y ?_)
      | (show AOp _ _ ⟨_, .call ⟨.builtin .append, _, _⟩, _, _, _, _⟩ _ _ _; first | refine A0 (sz := 1) (xs := []) hG Y Y Y Y Y Y Y ⟨_, Y⟩ Y Y Y Y Y Y Y (by first | omega | (simp; omega)) (fun k => ?_) | refine Bb 0 hG Y Y Y Y Y Y Y ⟨_, Y⟩ Y Y Y Y Y (by first | omega | (simp only [List.length_append, List.length_cons, List.length_nil]; omega)) (fun k => ?_) | fail)
      | refine r_q hG Y Y Y ?_); try exact kk)
    | (show AL _ _ _ _ _ _ _ _; first | refine al_s Y Y Y ?_ | (refine Aw ?_; first | show AW _ _ _ _ _ _ | show ∃ x', _ < _ ∧ _)) | (show AW _ _ (.seq _ _) _ _ _; refine Aj ?_; intro Q1) | (show AW _ _ (.region _ _ false) _ _ _; refine Af ?_; intro O1) | (show AW _ _ (.cond _ _ _) _ _ _; first | refine Al Y ?_ | refine Ak Y ?_ | refine aw_if Y (fun h => ?_) (fun h => ?_)) | (show AW _ _ (.skip) _ _ _; refine Ai ?_; first | show AW _ _ _ _ _ _ | show ∃ x', _ < _ ∧ _) | (show AW _ _ (.block _ _) _ _ _; refine Ah ?_; intro Q1) | (show AW _ _ (.exit _) _ _ _; refine Ax ?_; first | show AW _ _ _ _ _ _ | show ∃ x', _ < _ ∧ _) | (show AW _ _ (.ret) _ _ _; refine Av ?_; try dsimp only [Bf, Ac, Bh, Am])
    | (show DL _ _ _ _ _ _ _; refine dl_d Y Y (fun K kt kf => Au hG Y Y Y Y Y kt kf) (fun h => ?_) (fun h => ?_)) | (show DL _ _ _ _ _ _ _; refine dl_d Y Y (fun K kt kf => r_str hG Y Y Y Y kt kf) (fun h => ?_) (fun h => ?_)) | (show DL _ _ _ _ _ _ _; refine dl_ne Y Y (fun K kt kf => A1 hG Y Y Y Y kt kf) (fun h => ?_) (fun h => ?_))
    | (show DL _ _ _ _ _ _ _; refine dl_s Y Y Y ?_) | (show DL _ _ _ _ _ _ _; refine dl_nil ?_; first | show AW _ _ _ _ _ _ | show ∃ x', _ < _ ∧ _) | (show AW _ _ (.region _ _ true) _ _ _; refine Bi mix (by kernel_rfl) ?_; intro O1) | fail)
            refine ⟨⟨k + 1, qs.set i ((qs.getD i default).1.set k (xorI ((qs.getD i default).1.getD k default) 9), (qs.getD i default).2), by rw [List.length_set]; exact hql, rel_set hqr (by rw [List.length_set]), ?_⟩, by have := hkp; dsimp only at this ⊢; omega, (by repeat (first | exact .nil _ | refine .cons rfl ?_)), ?_⟩
            · rw [hq0]; show k + 1 ≤ (toI (z :: pb, pid)).1.length; simp only [toI, List.length_map]; exact hkp
            · dsimp only
              rw [e2, ← e4]; exact .refl _
        · repeat' (first
    | ((first | (show AL _ _ _ _ _ _ _ _; refine Ab Y ?_) | (show DL _ _ _ _ _ _ _; refine' Bk Y Y (fun K kk => ?_) ?_; try (show Go.Ts.T; rotate_left))); (first
      | refine Ar hG Y Y ?_
      | refine Be hG Y Y ?_
      | (show AOp _ _ ⟨_, .call ⟨.builtin .len, _, _⟩, _, _, _, _⟩ _ _ _; first | refine A3 hG Y Y Y Y ?_ | refine r_len hG Y Y Y Y Y ?_)
      | (show AOp _ _ ⟨_, .binOp .add _ _ _ _, _, _, _, _⟩ _ _ _; first | refine A7 hG Y Y Y Y Y (by omega) ?_ | refine A7 (m := 1) hG Y Y Y Y Y (by omega) ?_ | refine As hG Y Y Y Y Y (by omega) ?_)
      | (show AOp _ _ ⟨_, .binOp .xor _ _ _ _, _, _, _, _⟩ _ _ _; refine r_xorU hG Y Y Y Y (by omega) ?_)
      | (show AOp _ _ ⟨_, .binOp _ _ _ _ _, _, _, _, _⟩ _ _ _; first | refine A5 hG Y Y Y Y Y (by omega) ?_ | refine A4 hG Y Y Y Y Y (by omega) ?_ | refine r_strT hG Y Y Y Y (by first | rfl | assumption) ?_ | refine r_strnF hG Y Y Y Y (by first | rfl | assumption) ?_ | refine r_strF hG Y Y Y Y (by assumption) ?_ | refine r_strnT hG Y Y Y Y (by assumption) ?_ | ((fail_if_success have := kk); refine Au hG Y Y Y Y Y (fun h => ?_) (fun h => ?_)) | ((fail_if_success have := kk); first | refine r_str hG Y Y Y Y (fun h => ?_) (fun h => ?_) | refine A1 hG Y Y Y Y (fun h => ?_) (fun h => ?_)) | refine r_bin' hG Y Y Y ?_)
      | (show AOp _ _ ⟨_, .load _ _, _, _, _, _⟩ _ _ _; first | refine Az (α := UInt16) 0 hG Y Y Y Y (by omega) Y ?_ | refine Az (α := UInt16) 1 hG Y Y Y Y (by omega) Y ?_ | refine A9 hG Y Y Y ?_ | refine r_ld 0 hG Y Y Y Y ?_)
      | (show AOp _ _ ⟨_, .indexAddr _ _ _, _, _, _, _⟩ _ _ _; first | refine Bm hG Y Y Y Y Y Y Y (by omega) ?_ | refine Ba hG Y Y Y Y Y Y Y (by omega) ?_ | refine Bc hG Y Y Y Y Y Y Y (by omega) ?_ | refine r_idx hG Y Y ?_)
      | (show AOp _ _ ⟨_, .convert _ _ _, _, _, _, _⟩ _ _ _; first | refine r_tostr hG Y Y Y Y Y Y Y Y (by first | exact Ae _ _ | exact Ao _ | rfl) ?_)
      | refine r_pick hG Y Y Y ?_
      | refine r_not hG Y Y Y ?_
      | (show AOp _ _ ⟨_, .buildSlice _ _ _, _, _, _, _⟩ _ _ _; first | refine r_mk (sz := 1) hG Y Y Y Y Y Y Y ?_)
      | (show AOp _ _ ⟨_, .store _ _ _, _, _, _, _⟩ _ _ _; first | refine r_stL (α := UInt16) 0 hG Y Y Y hT_cells hT_sc Y Y (by first | omega | (simp only [Array.size_setIfInBounds]; omega)) ?_ | refine r_stL (α := UInt16) 1 hG Y Y Y hT_cells hT_sc Y Y (by first | omega | (simp only [Array.size_setIfInBounds]; omega)) ?_ | refine r_st 0 hG Y Y Y Y Y Y Y ?_)
      | (show AOp _ _ ⟨_, .call ⟨.builtin .append, _, _⟩, _, _, _, _⟩ _ _ _; first | refine A0 (sz := 1) (xs := []) hG Y Y Y Y Y Y Y ⟨_, Y⟩ Y Y Y Y Y Y Y (by first | omega | (simp; omega)) (fun k => ?_) | refine Bb 0 hG Y Y Y Y Y Y Y ⟨_, Y⟩ Y Y Y Y Y (by first | omega | (simp only [List.length_append, List.length_cons, List.length_nil]; omega)) (fun k => ?_) | fail)
      | refine r_q hG Y Y Y ?_); try exact kk)
    | (show AL _ _ _ _ _ _ _ _; first | refine al_s Y Y Y ?_ | (refine Aw ?_; first | show AW _ _ _ _ _ _ | show ∃ x', _ < _ ∧ _)) | (show AW _ _ (.seq _ _) _ _ _; refine Aj ?_; intro Q1) | (show AW _ _ (.region _ _ false) _ _ _; refine Af ?_; intro O1) | (show AW _ _ (.cond _ _ _) _ _ _; first | refine Al Y ?_ | refine Ak Y ?_ | refine aw_if Y (fun h => ?_) (fun h => ?_)) | (show AW _ _ (.skip) _ _ _; refine Ai ?_; first | show AW _ _ _ _ _ _ | show ∃ x', _ < _ ∧ _) | (show AW _ _ (.block _ _) _ _ _; refine Ah ?_; intro Q1) | (show AW _ _ (.exit _) _ _ _; refine Ax ?_; first | show AW _ _ _ _ _ _ | show ∃ x', _ < _ ∧ _) | (show AW _ _ (.ret) _ _ _; refine Av ?_; try dsimp only [Bf, Ac, Bh, Am])
    | (show DL _ _ _ _ _ _ _; refine dl_d Y Y (fun K kt kf => Au hG Y Y Y Y Y kt kf) (fun h => ?_) (fun h => ?_)) | (show DL _ _ _ _ _ _ _; refine dl_d Y Y (fun K kt kf => r_str hG Y Y Y Y kt kf) (fun h => ?_) (fun h => ?_)) | (show DL _ _ _ _ _ _ _; refine dl_ne Y Y (fun K kt kf => A1 hG Y Y Y Y kt kf) (fun h => ?_) (fun h => ?_))
    | (show DL _ _ _ _ _ _ _; refine dl_s Y Y Y ?_) | (show DL _ _ _ _ _ _ _; refine dl_nil ?_; first | show AW _ _ _ _ _ _ | show ∃ x', _ < _ ∧ _) | (show AW _ _ (.region _ _ true) _ _ _; refine Bi mix (by kernel_rfl) ?_; intro O1) | fail)
          exact ⟨⟨i + 1, qs, by omega, hql, hqr⟩, by dsimp only; omega, (by repeat (first | exact .nil _ | refine .cons rfl ?_)), .refl _⟩
      · repeat' (first
    | ((first | (show AL _ _ _ _ _ _ _ _; refine Ab Y ?_) | (show DL _ _ _ _ _ _ _; refine' Bk Y Y (fun K kk => ?_) ?_; try (show Go.Ts.T; rotate_left))); (first
      | refine Ar hG Y Y ?_
      | refine Be hG Y Y ?_
      | (show AOp _ _ ⟨_, .call ⟨.builtin .len, _, _⟩, _, _, _, _⟩ _ _ _; first | refine A3 hG Y Y Y Y ?_ | refine r_len hG Y Y Y Y Y ?_)
      | (show AOp _ _ ⟨_, .binOp .add _ _ _ _, _, _, _, _⟩ _ _ _; first | refine A7 hG Y Y Y Y Y (by omega) ?_ | refine A7 (m := 1) hG Y Y Y Y Y (by omega) ?_ | refine As hG Y Y Y Y Y (by omega) ?_)
      | (show AOp _ _ ⟨_, .binOp .xor _ _ _ _, _, _, _, _⟩ _ _ _; refine r_xorU hG Y Y Y Y (by omega) ?_)
      | (show AOp _ _ ⟨_, .binOp _ _ _ _ _, _, _, _, _⟩ _ _ _; first | refine A5 hG Y Y Y Y Y (by omega) ?_ | refine A4 hG Y Y Y Y Y (by omega) ?_ | refine r_strT hG Y Y Y Y (by first | rfl | assumption) ?_ | refine r_strnF hG Y Y Y Y (by first | rfl | assumption) ?_ | refine r_strF hG Y Y Y Y (by assumption) ?_ | refine r_strnT hG Y Y Y Y (by assumption) ?_ | ((fail_if_success have := kk); refine Au hG Y Y Y Y Y (fun h => ?_) (fun h => ?_)) | ((fail_if_success have := kk); first | refine r_str hG Y Y Y Y (fun h => ?_) (fun h => ?_) | refine A1 hG Y Y Y Y (fun h => ?_) (fun h => ?_)) | refine r_bin' hG Y Y Y ?_)
      | (show AOp _ _ ⟨_, .load _ _, _, _, _, _⟩ _ _ _; first | refine Az (α := UInt16) 0 hG Y Y Y Y (by omega) Y ?_ | refine Az (α := UInt16) 1 hG Y Y Y Y (by omega) Y ?_ | refine A9 hG Y Y Y ?_ | refine r_ld 0 hG Y Y Y Y ?_)
      | (show AOp _ _ ⟨_, .indexAddr _ _ _, _, _, _, _⟩ _ _ _; first | refine Bm hG Y Y Y Y Y Y Y (by omega) ?_ | refine Ba hG Y Y Y Y Y Y Y (by omega) ?_ | refine Bc hG Y Y Y Y Y Y Y (by omega) ?_ | refine r_idx hG Y Y ?_)
      | (show AOp _ _ ⟨_, .convert _ _ _, _, _, _, _⟩ _ _ _; first | refine r_tostr hG Y Y Y Y Y Y Y Y (by first | exact Ae _ _ | exact Ao _ | rfl) ?_)
      | refine r_pick hG Y Y Y ?_
      | refine r_not hG Y Y Y ?_
      | (show AOp _ _ ⟨_, .buildSlice _ _ _, _, _, _, _⟩ _ _ _; first | refine r_mk (sz := 1) hG Y Y Y Y Y Y Y ?_)
      | (show AOp _ _ ⟨_, .store _ _ _, _, _, _, _⟩ _ _ _; first | refine r_stL (α := UInt16) 0 hG Y Y Y hT_cells hT_sc Y Y (by first | omega | (simp only [Array.size_setIfInBounds]; omega)) ?_ | refine r_stL (α := UInt16) 1 hG Y Y Y hT_cells hT_sc Y Y (by first | omega | (simp only [Array.size_setIfInBounds]; omega)) ?_ | refine r_st 0 hG Y Y Y Y Y Y Y ?_)
      | (show AOp _ _ ⟨_, .call ⟨.builtin .append, _, _⟩, _, _, _, _⟩ _ _ _; first | refine A0 (sz := 1) (xs := []) hG Y Y Y Y Y Y Y ⟨_, Y⟩ Y Y Y Y Y Y Y (by first | omega | (simp; omega)) (fun k => ?_) | refine Bb 0 hG Y Y Y Y Y Y Y ⟨_, Y⟩ Y Y Y Y Y (by first | omega | (simp only [List.length_append, List.length_cons, List.length_nil]; omega)) (fun k => ?_) | fail)
      | (show AOp _ _ ⟨_, .call ⟨.value _, _, _⟩, _, _, _, _⟩ _ _ _; first | refine r_pure Y Y Y Y Y (by first | (apply hS <;> (first | assumption | omega | exact Ae _ _ | exact Ao _ | exact Bn _ _ | exact catsT_c _ | rfl | (simp; omega))) | fail) ?_ | refine r_pure Y Y Y Y Y (by first | (apply hS2 <;> (first | assumption | omega | exact Ae _ _ | exact Ao _ | exact Bn _ _ | exact catsT_c _ | rfl | (simp; omega))) | fail) ?_ | fail)
      | refine r_q hG Y Y Y ?_); try exact kk)
    | (show AL _ _ _ _ _ _ _ _; first | refine al_s Y Y Y ?_ | (refine Aw ?_; first | show AW _ _ _ _ _ _ | show ∃ x', _ < _ ∧ _)) | (show AW _ _ (.seq _ _) _ _ _; refine Aj ?_; intro Q1) | (show AW _ _ (.region _ _ false) _ _ _; refine Af ?_; intro O1) | (show AW _ _ (.cond _ _ _) _ _ _; first | refine Al Y ?_ | refine Ak Y ?_ | refine aw_if Y (fun h => ?_) (fun h => ?_)) | (show AW _ _ (.skip) _ _ _; refine Ai ?_; first | show AW _ _ _ _ _ _ | show ∃ x', _ < _ ∧ _) | (show AW _ _ (.block _ _) _ _ _; refine Ah ?_; intro Q1) | (show AW _ _ (.exit _) _ _ _; refine Ax ?_; first | show AW _ _ _ _ _ _ | show ∃ x', _ < _ ∧ _) | (show AW _ _ (.ret) _ _ _; refine Av ?_; try dsimp only [Bf, Ac, Bh, Am])
    | (show DL _ _ _ _ _ _ _; refine dl_d Y Y (fun K kt kf => Au hG Y Y Y Y Y kt kf) (fun h => ?_) (fun h => ?_)) | (show DL _ _ _ _ _ _ _; refine dl_d Y Y (fun K kt kf => r_str hG Y Y Y Y kt kf) (fun h => ?_) (fun h => ?_)) | (show DL _ _ _ _ _ _ _; refine dl_ne Y Y (fun K kt kf => A1 hG Y Y Y Y kt kf) (fun h => ?_) (fun h => ?_))
    | (show DL _ _ _ _ _ _ _; refine dl_s Y Y Y ?_) | (show DL _ _ _ _ _ _ _; refine dl_nil ?_; first | show AW _ _ _ _ _ _ | show ∃ x', _ < _ ∧ _) | (show AW _ _ (.region _ _ true) _ _ _; refine Bi mix (by kernel_rfl) ?_; intro O1) | fail)
        exact ret_pure (res_tmp rfl res_nil) (.refl _) rfl
theorem ringApart_law (_W : World) (x : T) (tx : ArgTy G 6 32 x) (y : T) (ty : ArgTy G 6 22 y) : ACalls Try.prog 4 [x, y] σ0 (fun r _ => r = .bool true) := by
  obtain ⟨l, rfl, hl, hlb⟩ := argTy_letters (n := 3) tx rfl rfl rfl rfl rfl rfl rfl rfl
  obtain ⟨b, rfl, hb⟩ := argTy_bytes (n := 4) ty rfl rfl rfl rfl rfl
  exact (ringApart_pure hl hlb hb (fun _ _ => False)).mono fun _ _ h => h.1
end Go.Proofs.Ythfgocinlbogeaa
