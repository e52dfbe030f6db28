/- Part of the proof of the law ArenaVersions: the texts UE, UF, UG, UH. No conditions. -/
import Derived.Test.YthfgocinlbogeaaArenaVersionsC
import Derived.Sort.LotC
import Derived.Sort.LotA
set_option linter.unusedSimpArgs false
set_option linter.unusedVariables false
namespace Go.Proofs.Ythfgocinlbogeaa
open Go.Ts
set_option linter.unusedSimpArgs false
set_option linter.unusedVariables false
attribute [local irreducible] Go.Ts.AW Go.Ts.AOps Go.Ts.AL Go.Ts.AOp Go.Ts.ACalls Go.Ts.DL Go.Ts.DQ0 Go.Ts.EL
open Go.Sort in
structure HbX (hi a n : Nat) (d0 : Array Nat) where
  k : Nat
  z : Int
  hz : z = (k : Int) - 1
  hk : k ≤ 4294967296
  d : Array Nat
  hn : d.size = n
  hr : heapBuild ltQ hi a k d = heapBuild ltQ hi a ((hi - 1) / 2 + 1) d0
open Go.Sort in
structure HpX (hi a n : Nat) (d0 : Array Nat) where
  k : Nat
  z : Int
  hz : z = (k : Int) - 1
  hk : k ≤ hi
  d : Array Nat
  hn : d.size = n
  hr : heapPop ltQ a k d = heapPop ltQ a hi d0
open Go.Sort in
theorem sift_size (lt : Nat → Nat → Bool) (hi first : Nat) : ∀ (m root : Nat) (d : Array Nat), hi - root ≤ m → (siftDown lt hi first root d).size = d.size := by
  intro m
  induction m with
  | zero => intro root d h; rw [siftDown, dif_pos (by omega)]
  | succ m ih =>
    intro root d h
    rw [siftDown]
    split
    · rfl
    · split
      · split
        · rfl
        · split
          · rw [ih _ _ (by omega), size_swp]
          · rfl
      · split
        · rfl
        · rw [ih _ _ (by omega), size_swp]
open Go.Sort in
theorem srt_heap {d0 : Array Nat} {a b : Nat} (hab : a < b) (hb : b ≤ d0.size) (hs : d0.size ≤ 4294967296) : OnRow Try.prog 104 mT [.int .i64 (a : Int), .int .i64 (b : Int)] d0 (.tup []) (heapSort ltQ d0 a b) := by
  intro off i n cap hn
  refine Bp (N := 56) (rs := []) hG Try.func104 rfl rfl rfl rfl rfl ?_
  have hh : heapSort ltQ d0 a b = heapPop ltQ a (b - a) (heapBuild ltQ (b - a) a ((b - a - 1) / 2 + 1) d0) := rfl
  rw [hh]
  obtain ⟨hi, hhi⟩ : ∃ hi, hi = b - a := ⟨_, rfl⟩
  rw [← hhi]
  repeat' (first
    | ((first | (show AL _ _ _ _ _ _ _ _; refine Ae Y ?_) | (show DL _ _ _ _ _ _ _; refine' A7 Y Y (fun K kk => ?_) ?_; try (show Go.Ts.T; rotate_left))); (first
      | refine Ap hG Y Y ?_
      | refine A3 hG Y Y ?_
      | (show AOp _ _ ⟨_, .binOp .add _ _ _ _, _, _, _, _⟩ _ _ _; first | refine Ac hG Y Y Y Y Y (by omega) ?_ | refine Ac (m := 1) hG Y Y Y Y Y (by omega) ?_ | refine Aa hG Y Y Y Y Y (by omega) ?_)
      | (show AOp _ _ ⟨_, .binOp .sub _ _ _ _, _, _, _, _⟩ _ _ _; first | refine Aq hG Y Y Y Y (by omega) ?_ | refine Aq (m := 1) hG Y Y Y Y (by omega) ?_ | refine Aa hG Y Y Y Y Y (by omega) ?_)
      | (show AOp _ _ ⟨_, .binOp .quo _ _ _ _, _, _, _, _⟩ _ _ _; first | refine Bg (m := 2) hG Y Y Y Y (by omega) ?_ | refine Bg (m := 4) hG Y Y Y Y (by omega) ?_ | refine Bg (m := 8) hG Y Y Y Y (by omega) ?_)
      | (show AOp _ _ ⟨_, .binOp _ _ _ _ _, _, _, _, _⟩ _ _ _; first | refine Au hG Y Y Y Y Y (by omega) ?_ | refine Av hG Y Y Y Y Y (by omega) ?_ | ((fail_if_success have := kk); refine Ao hG Y Y Y Y Y (fun h => ?_) (fun h => ?_)) | refine Bj hG Y Y Y ?_)
      | (show AOp _ _ ⟨_, .load _ _, _, _, _, _⟩ _ _ _; first | refine Ak (α := Nat) 0 hG Y Y Y Y (by omega) Y ?_ | refine Ax hG Y Y Y ?_ | refine A8 0 hG Y Y Y Y ?_)
      | (show AOp _ _ ⟨_, .indexAddr _ _ _, _, _, _, _⟩ _ _ _; first | refine A2 hG Y Y Y Y Y Y Y (by omega) ?_ | refine Aw hG Y Y Y Y Y Y Y (by omega) ?_ | refine Az hG Y Y Y Y Y Y Y (by omega) ?_ | refine A9 hG Y Y ?_)
      | (show AOp _ _ ⟨_, .store _ _ _, _, _, _, _⟩ _ _ _; first | refine A0 (α := Nat) 0 hG Y Y Y Ag Bb Y Y (by first | omega | (simp only [Array.size_setIfInBounds]; omega)) ?_ | refine Bh 0 hG Y Y Y Y Y Y Y ?_)
      | refine r_q hG Y Y Y ?_); try exact kk)
    | (show AL _ _ _ _ _ _ _ _; first | refine Bi Y Y Y ?_ | (refine As ?_; first | show AW _ _ _ _ _ _ | show ∃ x', _ < _ ∧ _)) | (show AW _ _ (.seq _ _) _ _ _; refine Ai ?_; intro Q1) | (show AW _ _ (.region _ _ false) _ _ _; refine Ad ?_; intro O1) | (show AW _ _ (.cond _ _ _) _ _ _; first | refine Am Y ?_ | refine Al Y ?_ | refine Bd Y (fun h => ?_) (fun h => ?_)) | (show AW _ _ (.skip) _ _ _; refine Aj ?_; first | show AW _ _ _ _ _ _ | show ∃ x', _ < _ ∧ _) | (show AW _ _ (.block _ _) _ _ _; refine Af ?_; intro Q1) | (show AW _ _ (.exit _) _ _ _; refine Ar ?_; first | show AW _ _ _ _ _ _ | show ∃ x', _ < _ ∧ _) | (show AW _ _ (.ret) _ _ _; refine At ?_; try dsimp only [Ay, Ab, A6, Ah])
    | (show DL _ _ _ _ _ _ _; refine Bu Y Y (fun K kt kf => Ao hG Y Y Y Y Y kt kf) (fun h => ?_) (fun h => ?_))
    | (show DL _ _ _ _ _ _ _; refine Bt Y Y Y ?_) | (show DL _ _ _ _ _ _ _; refine Be ?_; first | show AW _ _ _ _ _ _ | show ∃ x', _ < _ ∧ _) | (show AW _ _ (.region _ _ true) _ _ _; refine A1 mix (by kernel_rfl) ?_; intro O1) | fail)
  rw [← hhi]
  refine aw_loop (X := HbX hi a n d0) (fun x => [(0, .aref 1 i 0 n cap), (6, .int .i64 (a : Int)), (7, .int .i64 0), (8, .int .i64 (hi : Int)), (9, .int .i64 x.z)]) (fun x => ⟨[(i, .cells (rowT mT x.d))], [], off, none⟩) (fun x => x.k) ⟨(hi - 1) / 2 + 1, (((hi - 1) / 2 : Nat) : Int), by omega, by omega, d0, hn, rfl⟩ (by repeat (first | exact .nil _ | refine .cons rfl ?_)) (.refl _) ?_
  rintro ⟨k, z, hz, hk, d, hdn, hr⟩
  dsimp only at hr ⊢
  cases k with
  | succ m =>
    obtain rfl : z = (m : Int) := by omega
    rw [heapBuild] at hr
    have hc := srt_sift (d0 := d) (lo := m) (hi := hi) (first := a) (by omega) (by omega) (by omega)
    repeat' (first
    | ((first | (show AL _ _ _ _ _ _ _ _; refine Ae Y ?_) | (show DL _ _ _ _ _ _ _; refine' A7 Y Y (fun K kk => ?_) ?_; try (show Go.Ts.T; rotate_left))); (first
      | refine Ap hG Y Y ?_
      | refine A3 hG Y Y ?_
      | (show AOp _ _ ⟨_, .binOp .add _ _ _ _, _, _, _, _⟩ _ _ _; first | refine Ac hG Y Y Y Y Y (by omega) ?_ | refine Ac (m := 1) hG Y Y Y Y Y (by omega) ?_ | refine Aa hG Y Y Y Y Y (by omega) ?_)
      | (show AOp _ _ ⟨_, .binOp .sub _ _ _ _, _, _, _, _⟩ _ _ _; first | refine Aq hG Y Y Y Y (by omega) ?_ | refine Aq (m := 1) hG Y Y Y Y (by omega) ?_ | refine Aa hG Y Y Y Y Y (by omega) ?_)
      | (show AOp _ _ ⟨_, .binOp .quo _ _ _ _, _, _, _, _⟩ _ _ _; first | refine Bg (m := 2) hG Y Y Y Y (by omega) ?_ | refine Bg (m := 4) hG Y Y Y Y (by omega) ?_ | refine Bg (m := 8) hG Y Y Y Y (by omega) ?_)
      | (show AOp _ _ ⟨_, .binOp _ _ _ _ _, _, _, _, _⟩ _ _ _; first | refine Au hG Y Y Y Y Y (by omega) ?_ | refine Av hG Y Y Y Y Y (by omega) ?_ | ((fail_if_success have := kk); refine Ao hG Y Y Y Y Y (fun h => ?_) (fun h => ?_)) | refine Bj hG Y Y Y ?_)
      | (show AOp _ _ ⟨_, .load _ _, _, _, _, _⟩ _ _ _; first | refine Ak (α := Nat) 0 hG Y Y Y Y (by omega) Y ?_ | refine Ax hG Y Y Y ?_ | refine A8 0 hG Y Y Y Y ?_)
      | (show AOp _ _ ⟨_, .indexAddr _ _ _, _, _, _, _⟩ _ _ _; first | refine A2 hG Y Y Y Y Y Y Y (by omega) ?_ | refine Aw hG Y Y Y Y Y Y Y (by omega) ?_ | refine Az hG Y Y Y Y Y Y Y (by omega) ?_ | refine A9 hG Y Y ?_)
      | (show AOp _ _ ⟨_, .store _ _ _, _, _, _, _⟩ _ _ _; first | refine A0 (α := Nat) 0 hG Y Y Y Ag Bb Y Y (by first | omega | (simp only [Array.size_setIfInBounds]; omega)) ?_ | refine Bh 0 hG Y Y Y Y Y Y Y ?_)
      | (show AOp _ _ ⟨_, .call ⟨.value _, _, _⟩, _, _, _, _⟩ _ _ _; first | refine r_row Y Y Y Y Y (List.Perm.refl _) hc (by assumption) ?_ | fail)
      | refine r_q hG Y Y Y ?_); try exact kk)
    | (show AL _ _ _ _ _ _ _ _; first | refine Bi Y Y Y ?_ | (refine As ?_; first | show AW _ _ _ _ _ _ | show ∃ x', _ < _ ∧ _)) | (show AW _ _ (.seq _ _) _ _ _; refine Ai ?_; intro Q1) | (show AW _ _ (.region _ _ false) _ _ _; refine Ad ?_; intro O1) | (show AW _ _ (.cond _ _ _) _ _ _; first | refine Am Y ?_ | refine Al Y ?_ | refine Bd Y (fun h => ?_) (fun h => ?_)) | (show AW _ _ (.skip) _ _ _; refine Aj ?_; first | show AW _ _ _ _ _ _ | show ∃ x', _ < _ ∧ _) | (show AW _ _ (.block _ _) _ _ _; refine Af ?_; intro Q1) | (show AW _ _ (.exit _) _ _ _; refine Ar ?_; first | show AW _ _ _ _ _ _ | show ∃ x', _ < _ ∧ _) | (show AW _ _ (.ret) _ _ _; refine At ?_; try dsimp only [Ay, Ab, A6, Ah])
    | (show DL _ _ _ _ _ _ _; refine Bu Y Y (fun K kt kf => Ao hG Y Y Y Y Y kt kf) (fun h => ?_) (fun h => ?_))
    | (show DL _ _ _ _ _ _ _; refine Bt Y Y Y ?_) | (show DL _ _ _ _ _ _ _; refine Be ?_; first | show AW _ _ _ _ _ _ | show ∃ x', _ < _ ∧ _) | (show AW _ _ (.region _ _ true) _ _ _; refine A1 mix (by kernel_rfl) ?_; intro O1) | fail)
    exact ⟨⟨m, (m : Int) - 1, by omega, by omega, siftDown ltQ hi a m d, by rw [sift_size _ _ _ _ _ _ (Nat.le_refl _)]; exact hdn, hr⟩, by dsimp only; omega, (by repeat (first | exact .nil _ | refine .cons rfl ?_)), .refl _⟩
  | zero =>
    rw [heapBuild] at hr
    obtain rfl : z = -1 := by omega
    repeat' (first
    | ((first | (show AL _ _ _ _ _ _ _ _; refine Ae Y ?_) | (show DL _ _ _ _ _ _ _; refine' A7 Y Y (fun K kk => ?_) ?_; try (show Go.Ts.T; rotate_left))); (first
      | refine Ap hG Y Y ?_
      | refine A3 hG Y Y ?_
      | (show AOp _ _ ⟨_, .binOp .add _ _ _ _, _, _, _, _⟩ _ _ _; first | refine Ac hG Y Y Y Y Y (by omega) ?_ | refine Ac (m := 1) hG Y Y Y Y Y (by omega) ?_ | refine Aa hG Y Y Y Y Y (by omega) ?_)
      | (show AOp _ _ ⟨_, .binOp .sub _ _ _ _, _, _, _, _⟩ _ _ _; first | refine Aq hG Y Y Y Y (by omega) ?_ | refine Aq (m := 1) hG Y Y Y Y (by omega) ?_ | refine Aa hG Y Y Y Y Y (by omega) ?_)
      | (show AOp _ _ ⟨_, .binOp .quo _ _ _ _, _, _, _, _⟩ _ _ _; first | refine Bg (m := 2) hG Y Y Y Y (by omega) ?_ | refine Bg (m := 4) hG Y Y Y Y (by omega) ?_ | refine Bg (m := 8) hG Y Y Y Y (by omega) ?_)
      | (show AOp _ _ ⟨_, .binOp _ _ _ _ _, _, _, _, _⟩ _ _ _; first | refine Au hG Y Y Y Y Y (by omega) ?_ | refine Av hG Y Y Y Y Y (by omega) ?_ | ((fail_if_success have := kk); refine Ao hG Y Y Y Y Y (fun h => ?_) (fun h => ?_)) | refine Bj hG Y Y Y ?_)
      | (show AOp _ _ ⟨_, .load _ _, _, _, _, _⟩ _ _ _; first | refine Ak (α := Nat) 0 hG Y Y Y Y (by omega) Y ?_ | refine Ax hG Y Y Y ?_ | refine A8 0 hG Y Y Y Y ?_)
      | (show AOp _ _ ⟨_, .indexAddr _ _ _, _, _, _, _⟩ _ _ _; first | refine A2 hG Y Y Y Y Y Y Y (by omega) ?_ | refine Aw hG Y Y Y Y Y Y Y (by omega) ?_ | refine Az hG Y Y Y Y Y Y Y (by omega) ?_ | refine A9 hG Y Y ?_)
      | (show AOp _ _ ⟨_, .store _ _ _, _, _, _, _⟩ _ _ _; first | refine A0 (α := Nat) 0 hG Y Y Y Ag Bb Y Y (by first | omega | (simp only [Array.size_setIfInBounds]; omega)) ?_ | refine Bh 0 hG Y Y Y Y Y Y Y ?_)
      | refine r_q hG Y Y Y ?_); try exact kk)
    | (show AL _ _ _ _ _ _ _ _; first | refine Bi Y Y Y ?_ | (refine As ?_; first | show AW _ _ _ _ _ _ | show ∃ x', _ < _ ∧ _)) | (show AW _ _ (.seq _ _) _ _ _; refine Ai ?_; intro Q1) | (show AW _ _ (.region _ _ false) _ _ _; refine Ad ?_; intro O1) | (show AW _ _ (.cond _ _ _) _ _ _; first | refine Am Y ?_ | refine Al Y ?_ | refine Bd Y (fun h => ?_) (fun h => ?_)) | (show AW _ _ (.skip) _ _ _; refine Aj ?_; first | show AW _ _ _ _ _ _ | show ∃ x', _ < _ ∧ _) | (show AW _ _ (.block _ _) _ _ _; refine Af ?_; intro Q1) | (show AW _ _ (.exit _) _ _ _; refine Ar ?_; first | show AW _ _ _ _ _ _ | show ∃ x', _ < _ ∧ _) | (show AW _ _ (.ret) _ _ _; refine At ?_; try dsimp only [Ay, Ab, A6, Ah])
    | (show DL _ _ _ _ _ _ _; refine Bu Y Y (fun K kt kf => Ao hG Y Y Y Y Y kt kf) (fun h => ?_) (fun h => ?_))
    | (show DL _ _ _ _ _ _ _; refine Bt Y Y Y ?_) | (show DL _ _ _ _ _ _ _; refine Be ?_; first | show AW _ _ _ _ _ _ | show ∃ x', _ < _ ∧ _) | (show AW _ _ (.region _ _ true) _ _ _; refine A1 mix (by kernel_rfl) ?_; intro O1) | fail)
    refine aw_loop (X := HpX hi a n d) (fun x => [(0, .aref 1 i 0 n cap), (6, .int .i64 (a : Int)), (7, .int .i64 0), (8, .int .i64 (hi : Int)), (10, .int .i64 x.z)]) (fun x => ⟨[(i, .cells (rowT mT x.d))], [], off, none⟩) (fun x => x.k) ⟨hi, ((hi - 1 : Nat) : Int), by omega, by omega, d, hdn, rfl⟩ (by repeat (first | exact .nil _ | refine .cons rfl ?_)) (.refl _) ?_
    rintro ⟨k, z, hz, hk, e, hen, hre⟩
    dsimp only at hre ⊢
    cases k with
    | succ m =>
      obtain rfl : z = (m : Int) := by omega
      rw [heapPop] at hre
      have hc := srt_sift (d0 := swp e a (a + m)) (lo := 0) (hi := m) (first := a) (by rw [size_swp]; omega) (by rw [size_swp]; omega) (by omega)
      repeat' (first
    | ((first | (show AL _ _ _ _ _ _ _ _; refine Ae Y ?_) | (show DL _ _ _ _ _ _ _; refine' A7 Y Y (fun K kk => ?_) ?_; try (show Go.Ts.T; rotate_left))); (first
      | refine Ap hG Y Y ?_
      | refine A3 hG Y Y ?_
      | (show AOp _ _ ⟨_, .binOp .add _ _ _ _, _, _, _, _⟩ _ _ _; first | refine Ac hG Y Y Y Y Y (by omega) ?_ | refine Ac (m := 1) hG Y Y Y Y Y (by omega) ?_ | refine Aa hG Y Y Y Y Y (by omega) ?_)
      | (show AOp _ _ ⟨_, .binOp .sub _ _ _ _, _, _, _, _⟩ _ _ _; first | refine Aq hG Y Y Y Y (by omega) ?_ | refine Aq (m := 1) hG Y Y Y Y (by omega) ?_ | refine Aa hG Y Y Y Y Y (by omega) ?_)
      | (show AOp _ _ ⟨_, .binOp .quo _ _ _ _, _, _, _, _⟩ _ _ _; first | refine Bg (m := 2) hG Y Y Y Y (by omega) ?_ | refine Bg (m := 4) hG Y Y Y Y (by omega) ?_ | refine Bg (m := 8) hG Y Y Y Y (by omega) ?_)
      | (show AOp _ _ ⟨_, .binOp _ _ _ _ _, _, _, _, _⟩ _ _ _; first | refine Au hG Y Y Y Y Y (by omega) ?_ | refine Av hG Y Y Y Y Y (by omega) ?_ | ((fail_if_success have := kk); refine Ao hG Y Y Y Y Y (fun h => ?_) (fun h => ?_)) | refine Bj hG Y Y Y ?_)
      | (show AOp _ _ ⟨_, .load _ _, _, _, _, _⟩ _ _ _; first | refine Ak (α := Nat) 0 hG Y Y Y Y (by omega) Y ?_ | refine Ax hG Y Y Y ?_ | refine A8 0 hG Y Y Y Y ?_)
      | (show AOp _ _ ⟨_, .indexAddr _ _ _, _, _, _, _⟩ _ _ _; first | refine A2 hG Y Y Y Y Y Y Y (by omega) ?_ | refine Aw hG Y Y Y Y Y Y Y (by omega) ?_ | refine Az hG Y Y Y Y Y Y Y (by omega) ?_ | refine A9 hG Y Y ?_)
      | (show AOp _ _ ⟨_, .store _ _ _, _, _, _, _⟩ _ _ _; first | refine A0 (α := Nat) 0 hG Y Y Y Ag Bb Y Y (by first | omega | (simp only [Array.size_setIfInBounds]; omega)) ?_ | refine Bh 0 hG Y Y Y Y Y Y Y ?_)
      | refine r_q hG Y Y Y ?_); try exact kk)
    | (show AL _ _ _ _ _ _ _ _; first | refine Bi Y Y Y ?_ | (refine As ?_; first | show AW _ _ _ _ _ _ | show ∃ x', _ < _ ∧ _)) | (show AW _ _ (.seq _ _) _ _ _; refine Ai ?_; intro Q1) | (show AW _ _ (.region _ _ false) _ _ _; (fail_if_success show AW _ _ (.region 10 _ _) _ _ _); refine Ad ?_; intro O1) | (show AW _ _ (.cond _ _ _) _ _ _; first | refine Am Y ?_ | refine Al Y ?_ | refine Bd Y (fun h => ?_) (fun h => ?_)) | (show AW _ _ (.skip) _ _ _; refine Aj ?_; first | show AW _ _ _ _ _ _ | show ∃ x', _ < _ ∧ _) | (show AW _ _ (.block _ _) _ _ _; refine Af ?_; intro Q1) | (show AW _ _ (.exit _) _ _ _; refine Ar ?_; first | show AW _ _ _ _ _ _ | show ∃ x', _ < _ ∧ _) | (show AW _ _ (.ret) _ _ _; refine At ?_; try dsimp only [Ay, Ab, A6, Ah])
    | (show DL _ _ _ _ _ _ _; refine Bu Y Y (fun K kt kf => Ao hG Y Y Y Y Y kt kf) (fun h => ?_) (fun h => ?_))
    | (show DL _ _ _ _ _ _ _; refine Bt Y Y Y ?_) | (show DL _ _ _ _ _ _ _; refine Be ?_; first | show AW _ _ _ _ _ _ | show ∃ x', _ < _ ∧ _) | (show AW _ _ (.region _ _ true) _ _ _; (fail_if_success show AW _ _ (.region 10 _ _) _ _ _); refine A1 mix (by kernel_rfl) ?_; intro O1) | fail)
      refine Ce (m := 18) [17] [11, 15] (fun σ => ∃ c : Array Nat, c.size = n ∧ σ = ⟨[(i, .cells (rowT mT c))], [], off, none⟩) mix Y Y (by repeat (first | exact Sp.zero _ | apply Sp.succ)) ?_; intro O1 F1 Z1 Q2; repeat' (first
    | (refine' dq0_cons Y Y Y Y (fun σ hσ K kk => ?_) ?_; (try (show Go.Ts.T; rotate_left)); (obtain ⟨c, hcn, hcs⟩ := hσ; subst hcs); (first
      | refine Ap hG Y Y ?_
      | refine A3 hG Y Y ?_
      | (show AOp _ _ ⟨_, .binOp .add _ _ _ _, _, _, _, _⟩ _ _ _; first | refine Ac hG Y Y Y Y Y (by omega) ?_ | refine Ac (m := 1) hG Y Y Y Y Y (by omega) ?_ | refine Aa hG Y Y Y Y Y (by omega) ?_)
      | (show AOp _ _ ⟨_, .binOp .sub _ _ _ _, _, _, _, _⟩ _ _ _; first | refine Aq hG Y Y Y Y (by omega) ?_ | refine Aq (m := 1) hG Y Y Y Y (by omega) ?_ | refine r_subU (m := 1) hG Y Y Y Y (by omega) ?_ | refine Aa hG Y Y Y Y Y (by omega) ?_)
      | (show AOp _ _ ⟨_, .binOp .quo _ _ _ _, _, _, _, _⟩ _ _ _; first | refine Bg (m := 2) hG Y Y Y Y (by omega) ?_ | refine Bg (m := 4) hG Y Y Y Y (by omega) ?_ | refine Bg (m := 8) hG Y Y Y Y (by omega) ?_)
      | (show AOp _ _ ⟨_, .binOp _ _ _ _ _, _, _, _, _⟩ _ _ _; first | refine Au hG Y Y Y Y Y (by omega) ?_ | refine Av hG Y Y Y Y Y (by omega) ?_ | refine Bj hG Y Y Y ?_)
      | (show AOp _ _ ⟨_, .load _ _, _, _, _, _⟩ _ _ _; first | refine Ak (α := Nat) 0 hG Y Y Y Y (by omega) Y ?_ | refine Ak (α := Nat) 1 hG Y Y Y Y (by omega) Y ?_ | refine Ax hG Y Y Y ?_ | refine A8 0 hG Y Y Y Y ?_)
      | (show AOp _ _ ⟨_, .indexAddr _ _ _, _, _, _, _⟩ _ _ _; first | refine A2 hG Y Y Y Y Y Y Y (by omega) ?_ | refine Aw hG Y Y Y Y Y Y Y (by omega) ?_ | refine Az hG Y Y Y Y Y Y Y (by omega) ?_ | refine A9 hG Y Y ?_)
      | (show AOp _ _ ⟨_, .store _ _ _, _, _, _, _⟩ _ _ _; first | refine A0 (α := Nat) 0 hG Y Y Y Ag Bb Y Y (by first | omega | (simp only [Array.size_setIfInBounds]; omega)) ?_ | refine A0 (α := Nat) 1 hG Y Y Y Ag Bb Y Y (by first | omega | (simp only [Array.size_setIfInBounds]; omega)) ?_ | refine Bh 0 hG Y Y Y Y Y Y Y ?_)
      | refine r_q hG Y Y Y ?_); exact kk)
    | (refine' Cf Y Y Y Y (fun K kk => ?_) ?_; (try (show Go.Ts.T; rotate_left)); (first | refine Ak 0 hG Y Y Y Y (by omega) Y ?_ | refine Ak 1 hG Y Y Y Y (by omega) Y ?_); exact kk)
    | refine dq0_e Y ?_ | (refine dq0_nil ?_; show EL _ _ _ _ _ _ _ _ _)
    | (refine el_consN ⟨_, (by first | assumption | (simp only [Array.size_setIfInBounds]; omega)), Y⟩ Y Y Y (fun K ke => ?_); (first | refine A0 (α := Nat) 0 hG Y Y Y Ag Bb Y Y (by first | omega | (simp only [Array.size_setIfInBounds]; omega)) ?_ | refine A0 (α := Nat) 1 hG Y Y Y Ag Bb Y Y (by first | omega | (simp only [Array.size_setIfInBounds]; omega)) ?_); refine ke (.tup []) _ ?_)
    | (refine el_nil ⟨_, (by first | assumption | (simp only [Array.size_setIfInBounds]; omega)), Y⟩ ?_; show AL _ _ _ _ _ _ _ _) | fail)
      have hsn : (swp e a (a + m)).size = n := by rw [size_swp]; exact hen
      repeat' (first
    | ((first | (show AL _ _ _ _ _ _ _ _; refine Ae Y ?_) | (show DL _ _ _ _ _ _ _; refine' A7 Y Y (fun K kk => ?_) ?_; try (show Go.Ts.T; rotate_left))); (first
      | refine Ap hG Y Y ?_
      | refine A3 hG Y Y ?_
      | (show AOp _ _ ⟨_, .binOp .add _ _ _ _, _, _, _, _⟩ _ _ _; first | refine Ac hG Y Y Y Y Y (by omega) ?_ | refine Ac (m := 1) hG Y Y Y Y Y (by omega) ?_ | refine Aa hG Y Y Y Y Y (by omega) ?_)
      | (show AOp _ _ ⟨_, .binOp .sub _ _ _ _, _, _, _, _⟩ _ _ _; first | refine Aq hG Y Y Y Y (by omega) ?_ | refine Aq (m := 1) hG Y Y Y Y (by omega) ?_ | refine Aa hG Y Y Y Y Y (by omega) ?_)
      | (show AOp _ _ ⟨_, .binOp .quo _ _ _ _, _, _, _, _⟩ _ _ _; first | refine Bg (m := 2) hG Y Y Y Y (by omega) ?_ | refine Bg (m := 4) hG Y Y Y Y (by omega) ?_ | refine Bg (m := 8) hG Y Y Y Y (by omega) ?_)
      | (show AOp _ _ ⟨_, .binOp _ _ _ _ _, _, _, _, _⟩ _ _ _; first | refine Au hG Y Y Y Y Y (by omega) ?_ | refine Av hG Y Y Y Y Y (by omega) ?_ | ((fail_if_success have := kk); refine Ao hG Y Y Y Y Y (fun h => ?_) (fun h => ?_)) | refine Bj hG Y Y Y ?_)
      | (show AOp _ _ ⟨_, .load _ _, _, _, _, _⟩ _ _ _; first | refine Ak (α := Nat) 0 hG Y Y Y Y (by omega) Y ?_ | refine Ax hG Y Y Y ?_ | refine A8 0 hG Y Y Y Y ?_)
      | (show AOp _ _ ⟨_, .indexAddr _ _ _, _, _, _, _⟩ _ _ _; first | refine A2 hG Y Y Y Y Y Y Y (by omega) ?_ | refine Aw hG Y Y Y Y Y Y Y (by omega) ?_ | refine Az hG Y Y Y Y Y Y Y (by omega) ?_ | refine A9 hG Y Y ?_)
      | (show AOp _ _ ⟨_, .store _ _ _, _, _, _, _⟩ _ _ _; first | refine A0 (α := Nat) 0 hG Y Y Y Ag Bb Y Y (by first | omega | (simp only [Array.size_setIfInBounds]; omega)) ?_ | refine Bh 0 hG Y Y Y Y Y Y Y ?_)
      | (show AOp _ _ ⟨_, .call ⟨.value _, _, _⟩, _, _, _, _⟩ _ _ _; first | refine r_row Y Y Y Y Y (List.Perm.refl _) hc (by assumption) ?_ | fail)
      | refine r_q hG Y Y Y ?_); try exact kk)
    | (show AL _ _ _ _ _ _ _ _; first | refine Bi Y Y Y ?_ | (refine As ?_; first | show AW _ _ _ _ _ _ | show ∃ x', _ < _ ∧ _)) | (show AW _ _ (.seq _ _) _ _ _; refine Ai ?_; intro Q1) | (show AW _ _ (.region _ _ false) _ _ _; refine Ad ?_; intro O1) | (show AW _ _ (.cond _ _ _) _ _ _; first | refine Am Y ?_ | refine Al Y ?_ | refine Bd Y (fun h => ?_) (fun h => ?_)) | (show AW _ _ (.skip) _ _ _; refine Aj ?_; first | show AW _ _ _ _ _ _ | show ∃ x', _ < _ ∧ _) | (show AW _ _ (.block _ _) _ _ _; refine Af ?_; intro Q1) | (show AW _ _ (.exit _) _ _ _; refine Ar ?_; first | show AW _ _ _ _ _ _ | show ∃ x', _ < _ ∧ _) | (show AW _ _ (.ret) _ _ _; refine At ?_; try dsimp only [Ay, Ab, A6, Ah])
    | (show DL _ _ _ _ _ _ _; refine Bu Y Y (fun K kt kf => Ao hG Y Y Y Y Y kt kf) (fun h => ?_) (fun h => ?_))
    | (show DL _ _ _ _ _ _ _; refine Bt Y Y Y ?_) | (show DL _ _ _ _ _ _ _; refine Be ?_; first | show AW _ _ _ _ _ _ | show ∃ x', _ < _ ∧ _) | (show AW _ _ (.region _ _ true) _ _ _; refine A1 mix (by kernel_rfl) ?_; intro O1) | fail)
      exact ⟨⟨m, (m : Int) - 1, by omega, by omega, siftDown ltQ m a 0 (swp e a (a + m)), by rw [sift_size _ _ _ _ _ _ (Nat.le_refl _)]; exact hsn, hre⟩, by dsimp only; omega, (by repeat (first | exact .nil _ | refine .cons rfl ?_)), .refl _⟩
    | zero =>
      rw [heapPop] at hre
      obtain rfl : z = -1 := by omega
      repeat' (first
    | ((first | (show AL _ _ _ _ _ _ _ _; refine Ae Y ?_) | (show DL _ _ _ _ _ _ _; refine' A7 Y Y (fun K kk => ?_) ?_; try (show Go.Ts.T; rotate_left))); (first
      | refine Ap hG Y Y ?_
      | refine A3 hG Y Y ?_
      | (show AOp _ _ ⟨_, .binOp .add _ _ _ _, _, _, _, _⟩ _ _ _; first | refine Ac hG Y Y Y Y Y (by omega) ?_ | refine Ac (m := 1) hG Y Y Y Y Y (by omega) ?_ | refine Aa hG Y Y Y Y Y (by omega) ?_)
      | (show AOp _ _ ⟨_, .binOp .sub _ _ _ _, _, _, _, _⟩ _ _ _; first | refine Aq hG Y Y Y Y (by omega) ?_ | refine Aq (m := 1) hG Y Y Y Y (by omega) ?_ | refine Aa hG Y Y Y Y Y (by omega) ?_)
      | (show AOp _ _ ⟨_, .binOp .quo _ _ _ _, _, _, _, _⟩ _ _ _; first | refine Bg (m := 2) hG Y Y Y Y (by omega) ?_ | refine Bg (m := 4) hG Y Y Y Y (by omega) ?_ | refine Bg (m := 8) hG Y Y Y Y (by omega) ?_)
      | (show AOp _ _ ⟨_, .binOp _ _ _ _ _, _, _, _, _⟩ _ _ _; first | refine Au hG Y Y Y Y Y (by omega) ?_ | refine Av hG Y Y Y Y Y (by omega) ?_ | ((fail_if_success have := kk); refine Ao hG Y Y Y Y Y (fun h => ?_) (fun h => ?_)) | refine Bj hG Y Y Y ?_)
      | (show AOp _ _ ⟨_, .load _ _, _, _, _, _⟩ _ _ _; first | refine Ak (α := Nat) 0 hG Y Y Y Y (by omega) Y ?_ | refine Ax hG Y Y Y ?_ | refine A8 0 hG Y Y Y Y ?_)
      | (show AOp _ _ ⟨_, .indexAddr _ _ _, _, _, _, _⟩ _ _ _; first | refine A2 hG Y Y Y Y Y Y Y (by omega) ?_ | refine Aw hG Y Y Y Y Y Y Y (by omega) ?_ | refine Az hG Y Y Y Y Y Y Y (by omega) ?_ | refine A9 hG Y Y ?_)
      | (show AOp _ _ ⟨_, .store _ _ _, _, _, _, _⟩ _ _ _; first | refine A0 (α := Nat) 0 hG Y Y Y Ag Bb Y Y (by first | omega | (simp only [Array.size_setIfInBounds]; omega)) ?_ | refine Bh 0 hG Y Y Y Y Y Y Y ?_)
      | refine r_q hG Y Y Y ?_); try exact kk)
    | (show AL _ _ _ _ _ _ _ _; first | refine Bi Y Y Y ?_ | (refine As ?_; first | show AW _ _ _ _ _ _ | show ∃ x', _ < _ ∧ _)) | (show AW _ _ (.seq _ _) _ _ _; refine Ai ?_; intro Q1) | (show AW _ _ (.region _ _ false) _ _ _; refine Ad ?_; intro O1) | (show AW _ _ (.cond _ _ _) _ _ _; first | refine Am Y ?_ | refine Al Y ?_ | refine Bd Y (fun h => ?_) (fun h => ?_)) | (show AW _ _ (.skip) _ _ _; refine Aj ?_; first | show AW _ _ _ _ _ _ | show ∃ x', _ < _ ∧ _) | (show AW _ _ (.block _ _) _ _ _; refine Af ?_; intro Q1) | (show AW _ _ (.exit _) _ _ _; refine Ar ?_; first | show AW _ _ _ _ _ _ | show ∃ x', _ < _ ∧ _) | (show AW _ _ (.ret) _ _ _; refine At ?_; try dsimp only [Ay, Ab, A6, Ah])
    | (show DL _ _ _ _ _ _ _; refine Bu Y Y (fun K kt kf => Ao hG Y Y Y Y Y kt kf) (fun h => ?_) (fun h => ?_))
    | (show DL _ _ _ _ _ _ _; refine Bt Y Y Y ?_) | (show DL _ _ _ _ _ _ _; refine Be ?_; first | show AW _ _ _ _ _ _ | show ∃ x', _ < _ ∧ _) | (show AW _ _ (.region _ _ true) _ _ _; refine A1 mix (by kernel_rfl) ?_; intro O1) | fail)
      refine Ar ?_
      dsimp (config := { zetaDelta := true }) only [Ay, Ab]
      rw [← hr, ← hre]
      refine ret_rowE 0 Bl ?_ (.refl _) ?_ <;> rfl
end Go.Proofs.Ythfgocinlbogeaa
namespace Go.Ts
section
variable {P : Program} {N : Nat} {σ : St} {a : Env} {Q : Exit → Env → St → Prop}
theorem aw_loop_to (id : Nat) {c : Code} {X : Type} (E : X → Env) (S : X → St) (m : X → Nat) (x : X) (h0 : Knows a (E x)) (hs : GStep σ (S x)) (a1 : Env) (σ1 : St)
    (round : ∀ x, AW P N c (Ay (fun a' σ' => ∃ x', m x' < m x ∧ Knows a' (E x') ∧ GStep σ' (S x')) (fun e a' σ' => e = .exit id ∧ Knows a' a1 ∧ σ' = σ1)) (E x) (S x))
    (rest : ∀ a', Knows a' a1 → Q (.exit id) a' σ1) : AW P N (.loop c) Q a σ := by
  refine (aw_loop (Q := fun e a' σ' => e = .exit id ∧ Knows a' a1 ∧ σ' = σ1) E S m x h0 hs round).mono ?_
  rintro e a' σ' ⟨rfl, hk, rfl⟩
  exact rest a' hk
end
end Go.Ts
namespace Go.Proofs.Ythfgocinlbogeaa
open Go.Ts
set_option linter.unusedSimpArgs false
set_option linter.unusedVariables false
attribute [local irreducible] Go.Ts.AW Go.Ts.AOps Go.Ts.AL Go.Ts.AOp Go.Ts.ACalls Go.Ts.DL Go.Ts.DQ0 Go.Ts.EL
open Go.Sort
structure UpX (P : Nat → Bool) (d : Array Nat) (J I lo n : Nat) where
  p : Nat
  hp : lo ≤ p ∧ p ≤ n
  hr : scanUp P d J p = I
structure DnX (P : Nat → Bool) (d : Array Nat) (I J' hi : Nat) where
  p : Nat
  hp : p ≤ hi
  hr : scanDown P d I p = J'
structure PlX (a b n : Nat) (R : Nat × Array Nat) where
  i : Nat
  j : Nat
  d : Array Nat
  hn : d.size = n
  hij : a < i ∧ i ≤ n ∧ j < b
  hr : partLoop ltQ a i j d = R
theorem up_le (P : Nat → Bool) (d : Array Nat) (J n : Nat) (hJ : J < n) : ∀ m i, J + 1 - i ≤ m → i ≤ n → scanUp P d J i ≤ n := by
  intro m
  induction m with
  | zero =>
    intro i h1 h2
    rw [scanUp, if_neg (by simp; omega)]; exact h2
  | succ m ih =>
    intro i h1 h2
    rw [scanUp]
    split
    · rename_i h; simp at h; exact ih _ (by omega) (by omega)
    · exact h2
theorem srt_part {d0 : Array Nat} {a b pv : Nat} (hab : a ≤ pv) (hpb : pv < b) (hb : b ≤ d0.size) (hs : d0.size ≤ 4294967296) : OnRow Try.prog 111 mT [.int .i64 (a : Int), .int .i64 (b : Int), .int .i64 (pv : Int)] d0
    (.tup [.int .i64 ((partition ltQ d0 a b pv).1 : Int), .bool (partition ltQ d0 a b pv).2.1]) (partition ltQ d0 a b pv).2.2 := by
  intro off i n cap hn
  refine Bp (N := 168) (rs := [.tmp 8, .tmp 9]) hG Try.func111 rfl rfl rfl rfl rfl ?_
  repeat' (first
    | ((first | (show AL _ _ _ _ _ _ _ _; refine Ae Y ?_) | (show DL _ _ _ _ _ _ _; refine' A7 Y Y (fun K kk => ?_) ?_; try (show Go.Ts.T; rotate_left))); (first
      | refine Ap hG Y Y ?_
      | refine A3 hG Y Y ?_
      | (show AOp _ _ ⟨_, .binOp .add _ _ _ _, _, _, _, _⟩ _ _ _; first | refine Ac hG Y Y Y Y Y (by omega) ?_ | refine Ac (m := 1) hG Y Y Y Y Y (by omega) ?_ | refine Aa hG Y Y Y Y Y (by omega) ?_)
      | (show AOp _ _ ⟨_, .binOp .sub _ _ _ _, _, _, _, _⟩ _ _ _; first | refine Aq hG Y Y Y Y (by omega) ?_ | refine Aq (m := 1) hG Y Y Y Y (by omega) ?_ | refine Aa hG Y Y Y Y Y (by omega) ?_)
      | (show AOp _ _ ⟨_, .binOp _ _ _ _ _, _, _, _, _⟩ _ _ _; first | refine Au hG Y Y Y Y Y (by omega) ?_ | refine Av hG Y Y Y Y Y (by omega) ?_ | ((fail_if_success have := kk); refine Ao hG Y Y Y Y Y (fun h => ?_) (fun h => ?_)))
      | (show AOp _ _ ⟨_, .load _ _, _, _, _, _⟩ _ _ _; first | refine Ak (α := Nat) 0 hG Y Y Y Y (by omega) Y ?_ | refine Ax hG Y Y Y ?_ | refine A8 0 hG Y Y Y Y ?_)
      | (show AOp _ _ ⟨_, .indexAddr _ _ _, _, _, _, _⟩ _ _ _; first | refine A2 hG Y Y Y Y Y Y Y (by omega) ?_ | refine Aw hG Y Y Y Y Y Y Y (by omega) ?_ | refine Az hG Y Y Y Y Y Y Y (by omega) ?_ | refine A9 hG Y Y ?_)
      | refine Bc hG Y Y Y ?_
      | refine Bn hG Y Y Y ?_
      | (show AOp _ _ ⟨_, .store _ _ _, _, _, _, _⟩ _ _ _; first | refine A0 (α := Nat) 0 hG Y Y Y Ag Bb Y Y (by first | omega | (simp only [Array.size_setIfInBounds]; omega)) ?_ | refine Bh 0 hG Y Y Y Y Y Y Y ?_)
      | refine r_q hG Y Y Y ?_); try exact kk)
    | (show AL _ _ _ _ _ _ _ _; first | refine Bi Y Y Y ?_ | (refine As ?_; first | show AW _ _ _ _ _ _ | show ∃ x', _ < _ ∧ _)) | (show AW _ _ (.seq _ _) _ _ _; refine Ai ?_; intro Q1) | (show AW _ _ (.region _ _ false) _ _ _; (fail_if_success show AW _ _ (.region 1 _ _) _ _ _); refine Ad ?_; intro O1) | (show AW _ _ (.cond _ _ _) _ _ _; first | refine Am Y ?_ | refine Al Y ?_ | refine Bd Y (fun h => ?_) (fun h => ?_)) | (show AW _ _ (.skip) _ _ _; refine Aj ?_; first | show AW _ _ _ _ _ _ | show ∃ x', _ < _ ∧ _) | (show AW _ _ (.block _ _) _ _ _; refine Af ?_; intro Q1) | (show AW _ _ (.exit _) _ _ _; refine Ar ?_; first | show AW _ _ _ _ _ _ | show ∃ x', _ < _ ∧ _) | (show AW _ _ (.ret) _ _ _; refine At ?_; try dsimp only [Ay, Ab, A6, Ah])
    | (show DL _ _ _ _ _ _ _; refine Bu Y Y (fun K kt kf => Ao hG Y Y Y Y Y kt kf) (fun h => ?_) (fun h => ?_))
    | (show DL _ _ _ _ _ _ _; refine Bt Y Y Y ?_) | (show DL _ _ _ _ _ _ _; refine Be ?_; first | show AW _ _ _ _ _ _ | show ∃ x', _ < _ ∧ _) | (show AW _ _ (.region _ _ true) _ _ _; (fail_if_success show AW _ _ (.region 1 _ _) _ _ _); refine A1 mix (by kernel_rfl) ?_; intro O1) | fail)
  refine Ce (m := 14) [13] [7, 11] (fun σ => ∃ c : Array Nat, c.size = n ∧ σ = ⟨[(i, .cells (rowT mT c))], [], off, none⟩) mix Y Y (by repeat (first | exact Sp.zero _ | apply Sp.succ)) ?_; intro O1 F1 Z1 Q2; repeat' (first
    | (refine' dq0_cons Y Y Y Y (fun σ hσ K kk => ?_) ?_; (try (show Go.Ts.T; rotate_left)); (obtain ⟨c, hcn, hcs⟩ := hσ; subst hcs); (first
      | refine Ap hG Y Y ?_
      | refine A3 hG Y Y ?_
      | (show AOp _ _ ⟨_, .binOp .add _ _ _ _, _, _, _, _⟩ _ _ _; first | refine Ac hG Y Y Y Y Y (by omega) ?_ | refine Ac (m := 1) hG Y Y Y Y Y (by omega) ?_ | refine Aa hG Y Y Y Y Y (by omega) ?_)
      | (show AOp _ _ ⟨_, .binOp .sub _ _ _ _, _, _, _, _⟩ _ _ _; first | refine Aq hG Y Y Y Y (by omega) ?_ | refine Aq (m := 1) hG Y Y Y Y (by omega) ?_ | refine r_subU (m := 1) hG Y Y Y Y (by omega) ?_ | refine Aa hG Y Y Y Y Y (by omega) ?_)
      | (show AOp _ _ ⟨_, .binOp _ _ _ _ _, _, _, _, _⟩ _ _ _; first | refine Au hG Y Y Y Y Y (by omega) ?_ | refine Av hG Y Y Y Y Y (by omega) ?_)
      | (show AOp _ _ ⟨_, .load _ _, _, _, _, _⟩ _ _ _; first | refine Ak (α := Nat) 0 hG Y Y Y Y (by omega) Y ?_ | refine Ak (α := Nat) 1 hG Y Y Y Y (by omega) Y ?_ | refine Ax hG Y Y Y ?_ | refine A8 0 hG Y Y Y Y ?_)
      | (show AOp _ _ ⟨_, .indexAddr _ _ _, _, _, _, _⟩ _ _ _; first | refine A2 hG Y Y Y Y Y Y Y (by omega) ?_ | refine Aw hG Y Y Y Y Y Y Y (by omega) ?_ | refine Az hG Y Y Y Y Y Y Y (by omega) ?_ | refine A9 hG Y Y ?_)
      | refine Bc hG Y Y Y ?_
      | refine Bn hG Y Y Y ?_
      | (show AOp _ _ ⟨_, .store _ _ _, _, _, _, _⟩ _ _ _; first | refine A0 (α := Nat) 0 hG Y Y Y Ag Bb Y Y (by first | omega | (simp only [Array.size_setIfInBounds]; omega)) ?_ | refine A0 (α := Nat) 1 hG Y Y Y Ag Bb Y Y (by first | omega | (simp only [Array.size_setIfInBounds]; omega)) ?_ | refine Bh 0 hG Y Y Y Y Y Y Y ?_)
      | refine r_q hG Y Y Y ?_); exact kk)
    | (refine' Cf Y Y Y Y (fun K kk => ?_) ?_; (try (show Go.Ts.T; rotate_left)); (first | refine Ak 0 hG Y Y Y Y (by omega) Y ?_ | refine Ak 1 hG Y Y Y Y (by omega) Y ?_); exact kk)
    | refine dq0_e Y ?_ | (refine dq0_nil ?_; show EL _ _ _ _ _ _ _ _ _)
    | (refine el_consN ⟨_, (by first | assumption | (simp only [Array.size_setIfInBounds]; omega)), Y⟩ Y Y Y (fun K ke => ?_); (first | refine A0 (α := Nat) 0 hG Y Y Y Ag Bb Y Y (by first | omega | (simp only [Array.size_setIfInBounds]; omega)) ?_ | refine A0 (α := Nat) 1 hG Y Y Y Ag Bb Y Y (by first | omega | (simp only [Array.size_setIfInBounds]; omega)) ?_); refine ke (.tup []) _ ?_)
    | (refine el_nil ⟨_, (by first | assumption | (simp only [Array.size_setIfInBounds]; omega)), Y⟩ ?_; show AL _ _ _ _ _ _ _ _) | fail)
  obtain ⟨d, hd⟩ : ∃ d, swp d0 a pv = d := ⟨_, rfl⟩
  have hdn : d.size = n := by rw [← hd, size_swp]; exact hn
  have hp : partition ltQ d0 a b pv = (let i := scanUp (fun x => ltQ x d[a]!) d (b - 1) (a + 1); let j := scanDown (fun x => !ltQ x d[a]!) d i (b - 1); if i > j then (j, true, swp d j a) else let r := partLoop ltQ a (i + 1) (j - 1) (swp d i j); (r.1, false, swp r.2 r.1 a)) := by rw [← hd]; rfl
  repeat' (first
    | ((first | (show AL _ _ _ _ _ _ _ _; refine Ae Y ?_) | (show DL _ _ _ _ _ _ _; refine' A7 Y Y (fun K kk => ?_) ?_; try (show Go.Ts.T; rotate_left))); (first
      | refine Ap hG Y Y ?_
      | refine A3 hG Y Y ?_
      | (show AOp _ _ ⟨_, .binOp .add _ _ _ _, _, _, _, _⟩ _ _ _; first | refine Ac hG Y Y Y Y Y (by omega) ?_ | refine Ac (m := 1) hG Y Y Y Y Y (by omega) ?_ | refine Aa hG Y Y Y Y Y (by omega) ?_)
      | (show AOp _ _ ⟨_, .binOp .sub _ _ _ _, _, _, _, _⟩ _ _ _; first | refine Aq hG Y Y Y Y (by omega) ?_ | refine Aq (m := 1) hG Y Y Y Y (by omega) ?_ | refine Aa hG Y Y Y Y Y (by omega) ?_)
      | (show AOp _ _ ⟨_, .binOp _ _ _ _ _, _, _, _, _⟩ _ _ _; first | refine Au hG Y Y Y Y Y (by omega) ?_ | refine Av hG Y Y Y Y Y (by omega) ?_ | ((fail_if_success have := kk); refine Ao hG Y Y Y Y Y (fun h => ?_) (fun h => ?_)))
      | (show AOp _ _ ⟨_, .load _ _, _, _, _, _⟩ _ _ _; first | refine Ak (α := Nat) 0 hG Y Y Y Y (by omega) Y ?_ | refine Ax hG Y Y Y ?_ | refine A8 0 hG Y Y Y Y ?_)
      | (show AOp _ _ ⟨_, .indexAddr _ _ _, _, _, _, _⟩ _ _ _; first | refine A2 hG Y Y Y Y Y Y Y (by omega) ?_ | refine Aw hG Y Y Y Y Y Y Y (by omega) ?_ | refine Az hG Y Y Y Y Y Y Y (by omega) ?_ | refine A9 hG Y Y ?_)
      | refine Bc hG Y Y Y ?_
      | refine Bn hG Y Y Y ?_
      | (show AOp _ _ ⟨_, .store _ _ _, _, _, _, _⟩ _ _ _; first | refine A0 (α := Nat) 0 hG Y Y Y Ag Bb Y Y (by first | omega | (simp only [Array.size_setIfInBounds]; omega)) ?_ | refine Bh 0 hG Y Y Y Y Y Y Y ?_)
      | refine r_q hG Y Y Y ?_); try exact kk)
    | (show AL _ _ _ _ _ _ _ _; first | refine Bi Y Y Y ?_ | (refine As ?_; first | show AW _ _ _ _ _ _ | show ∃ x', _ < _ ∧ _)) | (show AW _ _ (.seq _ _) _ _ _; refine Ai ?_; intro Q1) | (show AW _ _ (.region _ _ false) _ _ _; refine Ad ?_; intro O1) | (show AW _ _ (.cond _ _ _) _ _ _; first | refine Am Y ?_ | refine Al Y ?_ | refine Bd Y (fun h => ?_) (fun h => ?_)) | (show AW _ _ (.skip) _ _ _; refine Aj ?_; first | show AW _ _ _ _ _ _ | show ∃ x', _ < _ ∧ _) | (show AW _ _ (.block _ _) _ _ _; refine Af ?_; intro Q1) | (show AW _ _ (.exit _) _ _ _; refine Ar ?_; first | show AW _ _ _ _ _ _ | show ∃ x', _ < _ ∧ _) | (show AW _ _ (.ret) _ _ _; refine At ?_; try dsimp only [Ay, Ab, A6, Ah])
    | (show DL _ _ _ _ _ _ _; refine Bu Y Y (fun K kt kf => Ao hG Y Y Y Y Y kt kf) (fun h => ?_) (fun h => ?_))
    | (show DL _ _ _ _ _ _ _; refine Bt Y Y Y ?_) | (show DL _ _ _ _ _ _ _; refine Be ?_; first | show AW _ _ _ _ _ _ | show ∃ x', _ < _ ∧ _) | (show AW _ _ (.region _ _ true) _ _ _; refine A1 mix (by kernel_rfl) ?_; intro O1) | fail)
  obtain ⟨I, hI⟩ : ∃ I, scanUp (fun x => ltQ x d[a]!) d (b - 1) (a + 1) = I := ⟨_, rfl⟩
  obtain ⟨J, hJ⟩ : ∃ J, scanDown (fun x => !ltQ x d[a]!) d I (b - 1) = J := ⟨_, rfl⟩
  have gI : a + 1 ≤ I := by rw [← hI]; exact scanUp_ge _ _ _ _
  have kI : I ≤ n := by rw [← hI]; exact up_le _ _ _ _ (by omega) _ _ (Nat.le_refl _) (by omega)
  have gJ : J ≤ b - 1 := by rw [← hJ]; exact scanDown_le _ _ _ _
  show AW _ _ _ _ _ ⟨[(i, .cells (rowT mT (swp d0 a pv)))], [], off, none⟩
  rw [hd]
  refine aw_loop_to 0 (X := UpX (fun x => ltQ x d[a]!) d (b - 1) I (a + 1) n) (fun x => [(0, .aref 1 i 0 n cap), (1, .int .i64 ((a : Nat) : Int)), (10, .int .i64 ((x.p : Nat) : Int)), (11, .int .i64 (((b - 1) : Nat) : Int))]) (fun _ => ⟨[(i, .cells (rowT mT d))], [], off, none⟩) (fun x => (b - 1) + 1 - x.p) ⟨(a + 1), by omega, hI⟩ (by repeat (first | exact .nil _ | refine .cons rfl ?_)) (.refl _) [(0, .aref 1 i 0 n cap), (1, .int .i64 ((a : Nat) : Int)), (10, .int .i64 ((I : Nat) : Int)), (11, .int .i64 (((b - 1) : Nat) : Int))] (⟨[(i, .cells (rowT mT d))], [], off, none⟩) ?_ ?_
  · rintro ⟨p, hp, hr⟩
    dsimp only at hr ⊢
    by_cases hpJ : p ≤ (b - 1)
    · repeat' (first
    | ((first | (show AL _ _ _ _ _ _ _ _; refine Ae Y ?_) | (show DL _ _ _ _ _ _ _; refine' A7 Y Y (fun K kk => ?_) ?_; try (show Go.Ts.T; rotate_left))); (first
      | refine Ap hG Y Y ?_
      | refine A3 hG Y Y ?_
      | (show AOp _ _ ⟨_, .binOp .add _ _ _ _, _, _, _, _⟩ _ _ _; first | refine Ac hG Y Y Y Y Y (by omega) ?_ | refine Ac (m := 1) hG Y Y Y Y Y (by omega) ?_ | refine Aa hG Y Y Y Y Y (by omega) ?_)
      | (show AOp _ _ ⟨_, .binOp .sub _ _ _ _, _, _, _, _⟩ _ _ _; first | refine Aq hG Y Y Y Y (by omega) ?_ | refine Aq (m := 1) hG Y Y Y Y (by omega) ?_ | refine Aa hG Y Y Y Y Y (by omega) ?_)
      | (show AOp _ _ ⟨_, .binOp _ _ _ _ _, _, _, _, _⟩ _ _ _; first | refine Au hG Y Y Y Y Y (by omega) ?_ | refine Av hG Y Y Y Y Y (by omega) ?_ | ((fail_if_success have := kk); refine Ao hG Y Y Y Y Y (fun h => ?_) (fun h => ?_)))
      | (show AOp _ _ ⟨_, .load _ _, _, _, _, _⟩ _ _ _; first | refine Ak (α := Nat) 0 hG Y Y Y Y (by omega) Y ?_ | refine Ax hG Y Y Y ?_ | refine A8 0 hG Y Y Y Y ?_)
      | (show AOp _ _ ⟨_, .indexAddr _ _ _, _, _, _, _⟩ _ _ _; first | refine A2 hG Y Y Y Y Y Y Y (by omega) ?_ | refine Aw hG Y Y Y Y Y Y Y (by omega) ?_ | refine Az hG Y Y Y Y Y Y Y (by omega) ?_ | refine A9 hG Y Y ?_)
      | refine Bc hG Y Y Y ?_
      | refine Bn hG Y Y Y ?_
      | (show AOp _ _ ⟨_, .store _ _ _, _, _, _, _⟩ _ _ _; first | refine A0 (α := Nat) 0 hG Y Y Y Ag Bb Y Y (by first | omega | (simp only [Array.size_setIfInBounds]; omega)) ?_ | refine Bh 0 hG Y Y Y Y Y Y Y ?_)
      | (show AOp _ _ ⟨_, .call ⟨.value _, _, _⟩, _, _, _, _⟩ _ _ _; first | refine B0 Y Y Y Y Y (by first | (apply Cg <;> (first | assumption | omega | exact Bf _ _ | exact Bo _ | exact Bk _ _ | exact Bs _ | rfl | (simp; omega))) | fail) ?_ | fail)
      | refine r_q hG Y Y Y ?_); try exact kk)
    | (show AL _ _ _ _ _ _ _ _; first | refine Bi Y Y Y ?_ | (refine As ?_; first | show AW _ _ _ _ _ _ | show ∃ x', _ < _ ∧ _)) | (show AW _ _ (.seq _ _) _ _ _; refine Ai ?_; intro Q1) | (show AW _ _ (.region _ _ false) _ _ _; refine Ad ?_; intro O1) | (show AW _ _ (.cond _ _ _) _ _ _; first | refine Am Y ?_ | refine Al Y ?_ | refine Bd Y (fun h => ?_) (fun h => ?_)) | (show AW _ _ (.skip) _ _ _; refine Aj ?_; first | show AW _ _ _ _ _ _ | show ∃ x', _ < _ ∧ _) | (show AW _ _ (.block _ _) _ _ _; refine Af ?_; intro Q1) | (show AW _ _ (.exit _) _ _ _; refine Ar ?_; first | show AW _ _ _ _ _ _ | show ∃ x', _ < _ ∧ _) | (show AW _ _ (.ret) _ _ _; refine At ?_; try dsimp only [Ay, Ab, A6, Ah])
    | (show DL _ _ _ _ _ _ _; refine Bu Y Y (fun K kt kf => Ao hG Y Y Y Y Y kt kf) (fun h => ?_) (fun h => ?_))
    | (show DL _ _ _ _ _ _ _; refine Bt Y Y Y ?_) | (show DL _ _ _ _ _ _ _; refine Be ?_; first | show AW _ _ _ _ _ _ | show ∃ x', _ < _ ∧ _) | (show AW _ _ (.region _ _ true) _ _ _; refine A1 mix (by kernel_rfl) ?_; intro O1) | fail)
      · rw [scanUp, if_pos (by simp [hpJ]; simpa using h)] at hr
        exact ⟨⟨p + 1, by omega, hr⟩, by dsimp only; omega, (by repeat (first | exact .nil _ | refine .cons rfl ?_)), .refl _⟩
      · rw [scanUp, if_neg (by simp [hpJ]; simpa using h)] at hr
        subst hr
        (refine Ar ?_; show _ ∧ Knows _ _ ∧ _; exact ⟨rfl, (by repeat (first | exact .nil _ | refine .cons rfl ?_)), rfl⟩)
    · rw [scanUp, if_neg (by simp [hpJ])] at hr
      subst hr
      repeat' (first
    | ((first | (show AL _ _ _ _ _ _ _ _; refine Ae Y ?_) | (show DL _ _ _ _ _ _ _; refine' A7 Y Y (fun K kk => ?_) ?_; try (show Go.Ts.T; rotate_left))); (first
      | refine Ap hG Y Y ?_
      | refine A3 hG Y Y ?_
      | (show AOp _ _ ⟨_, .binOp .add _ _ _ _, _, _, _, _⟩ _ _ _; first | refine Ac hG Y Y Y Y Y (by omega) ?_ | refine Ac (m := 1) hG Y Y Y Y Y (by omega) ?_ | refine Aa hG Y Y Y Y Y (by omega) ?_)
      | (show AOp _ _ ⟨_, .binOp .sub _ _ _ _, _, _, _, _⟩ _ _ _; first | refine Aq hG Y Y Y Y (by omega) ?_ | refine Aq (m := 1) hG Y Y Y Y (by omega) ?_ | refine Aa hG Y Y Y Y Y (by omega) ?_)
      | (show AOp _ _ ⟨_, .binOp _ _ _ _ _, _, _, _, _⟩ _ _ _; first | refine Au hG Y Y Y Y Y (by omega) ?_ | refine Av hG Y Y Y Y Y (by omega) ?_ | ((fail_if_success have := kk); refine Ao hG Y Y Y Y Y (fun h => ?_) (fun h => ?_)))
      | (show AOp _ _ ⟨_, .load _ _, _, _, _, _⟩ _ _ _; first | refine Ak (α := Nat) 0 hG Y Y Y Y (by omega) Y ?_ | refine Ax hG Y Y Y ?_ | refine A8 0 hG Y Y Y Y ?_)
      | (show AOp _ _ ⟨_, .indexAddr _ _ _, _, _, _, _⟩ _ _ _; first | refine A2 hG Y Y Y Y Y Y Y (by omega) ?_ | refine Aw hG Y Y Y Y Y Y Y (by omega) ?_ | refine Az hG Y Y Y Y Y Y Y (by omega) ?_ | refine A9 hG Y Y ?_)
      | refine Bc hG Y Y Y ?_
      | refine Bn hG Y Y Y ?_
      | (show AOp _ _ ⟨_, .store _ _ _, _, _, _, _⟩ _ _ _; first | refine A0 (α := Nat) 0 hG Y Y Y Ag Bb Y Y (by first | omega | (simp only [Array.size_setIfInBounds]; omega)) ?_ | refine Bh 0 hG Y Y Y Y Y Y Y ?_)
      | (show AOp _ _ ⟨_, .call ⟨.value _, _, _⟩, _, _, _, _⟩ _ _ _; first | refine B0 Y Y Y Y Y (by first | (apply Cg <;> (first | assumption | omega | exact Bf _ _ | exact Bo _ | exact Bk _ _ | exact Bs _ | rfl | (simp; omega))) | fail) ?_ | fail)
      | refine r_q hG Y Y Y ?_); try exact kk)
    | (show AL _ _ _ _ _ _ _ _; first | refine Bi Y Y Y ?_ | (refine As ?_; first | show AW _ _ _ _ _ _ | show ∃ x', _ < _ ∧ _)) | (show AW _ _ (.seq _ _) _ _ _; refine Ai ?_; intro Q1) | (show AW _ _ (.region _ _ false) _ _ _; refine Ad ?_; intro O1) | (show AW _ _ (.cond _ _ _) _ _ _; first | refine Am Y ?_ | refine Al Y ?_ | refine Bd Y (fun h => ?_) (fun h => ?_)) | (show AW _ _ (.skip) _ _ _; refine Aj ?_; first | show AW _ _ _ _ _ _ | show ∃ x', _ < _ ∧ _) | (show AW _ _ (.block _ _) _ _ _; refine Af ?_; intro Q1) | (show AW _ _ (.exit _) _ _ _; refine Ar ?_; first | show AW _ _ _ _ _ _ | show ∃ x', _ < _ ∧ _) | (show AW _ _ (.ret) _ _ _; refine At ?_; try dsimp only [Ay, Ab, A6, Ah])
    | (show DL _ _ _ _ _ _ _; refine Bu Y Y (fun K kt kf => Ao hG Y Y Y Y Y kt kf) (fun h => ?_) (fun h => ?_))
    | (show DL _ _ _ _ _ _ _; refine Bt Y Y Y ?_) | (show DL _ _ _ _ _ _ _; refine Be ?_; first | show AW _ _ _ _ _ _ | show ∃ x', _ < _ ∧ _) | (show AW _ _ (.region _ _ true) _ _ _; refine A1 mix (by kernel_rfl) ?_; intro O1) | fail)
      (refine Ar ?_; show _ ∧ Knows _ _ ∧ _; exact ⟨rfl, (by repeat (first | exact .nil _ | refine .cons rfl ?_)), rfl⟩)
  intro a' hk
  show AW _ _ _ _ _ _
  refine aw_forget hk ?_
  repeat' (first
    | ((first | (show AL _ _ _ _ _ _ _ _; refine Ae Y ?_) | (show DL _ _ _ _ _ _ _; refine' A7 Y Y (fun K kk => ?_) ?_; try (show Go.Ts.T; rotate_left))); (first
      | refine Ap hG Y Y ?_
      | refine A3 hG Y Y ?_
      | (show AOp _ _ ⟨_, .binOp .add _ _ _ _, _, _, _, _⟩ _ _ _; first | refine Ac hG Y Y Y Y Y (by omega) ?_ | refine Ac (m := 1) hG Y Y Y Y Y (by omega) ?_ | refine Aa hG Y Y Y Y Y (by omega) ?_)
      | (show AOp _ _ ⟨_, .binOp .sub _ _ _ _, _, _, _, _⟩ _ _ _; first | refine Aq hG Y Y Y Y (by omega) ?_ | refine Aq (m := 1) hG Y Y Y Y (by omega) ?_ | refine Aa hG Y Y Y Y Y (by omega) ?_)
      | (show AOp _ _ ⟨_, .binOp _ _ _ _ _, _, _, _, _⟩ _ _ _; first | refine Au hG Y Y Y Y Y (by omega) ?_ | refine Av hG Y Y Y Y Y (by omega) ?_ | ((fail_if_success have := kk); refine Ao hG Y Y Y Y Y (fun h => ?_) (fun h => ?_)))
      | (show AOp _ _ ⟨_, .load _ _, _, _, _, _⟩ _ _ _; first | refine Ak (α := Nat) 0 hG Y Y Y Y (by omega) Y ?_ | refine Ax hG Y Y Y ?_ | refine A8 0 hG Y Y Y Y ?_)
      | (show AOp _ _ ⟨_, .indexAddr _ _ _, _, _, _, _⟩ _ _ _; first | refine A2 hG Y Y Y Y Y Y Y (by omega) ?_ | refine Aw hG Y Y Y Y Y Y Y (by omega) ?_ | refine Az hG Y Y Y Y Y Y Y (by omega) ?_ | refine A9 hG Y Y ?_)
      | refine Bc hG Y Y Y ?_
      | refine Bn hG Y Y Y ?_
      | (show AOp _ _ ⟨_, .store _ _ _, _, _, _, _⟩ _ _ _; first | refine A0 (α := Nat) 0 hG Y Y Y Ag Bb Y Y (by first | omega | (simp only [Array.size_setIfInBounds]; omega)) ?_ | refine Bh 0 hG Y Y Y Y Y Y Y ?_)
      | refine r_q hG Y Y Y ?_); try exact kk)
    | (show AL _ _ _ _ _ _ _ _; first | refine Bi Y Y Y ?_ | (refine As ?_; first | show AW _ _ _ _ _ _ | show ∃ x', _ < _ ∧ _)) | (show AW _ _ (.seq _ _) _ _ _; refine Ai ?_; intro Q1) | (show AW _ _ (.region _ _ false) _ _ _; refine Ad ?_; intro O1) | (show AW _ _ (.cond _ _ _) _ _ _; first | refine Am Y ?_ | refine Al Y ?_ | refine Bd Y (fun h => ?_) (fun h => ?_)) | (show AW _ _ (.skip) _ _ _; refine Aj ?_; first | show AW _ _ _ _ _ _ | show ∃ x', _ < _ ∧ _) | (show AW _ _ (.block _ _) _ _ _; refine Af ?_; intro Q1) | (show AW _ _ (.exit _) _ _ _; refine Ar ?_; first | show AW _ _ _ _ _ _ | show ∃ x', _ < _ ∧ _) | (show AW _ _ (.ret) _ _ _; refine At ?_; try dsimp only [Ay, Ab, A6, Ah])
    | (show DL _ _ _ _ _ _ _; refine Bu Y Y (fun K kt kf => Ao hG Y Y Y Y Y kt kf) (fun h => ?_) (fun h => ?_))
    | (show DL _ _ _ _ _ _ _; refine Bt Y Y Y ?_) | (show DL _ _ _ _ _ _ _; refine Be ?_; first | show AW _ _ _ _ _ _ | show ∃ x', _ < _ ∧ _) | (show AW _ _ (.region _ _ true) _ _ _; refine A1 mix (by kernel_rfl) ?_; intro O1) | fail)
  refine aw_loop_to 2 (X := DnX (fun x => !ltQ x d[a]!) d I J (b - 1)) (fun x => [(0, .aref 1 i 0 n cap), (1, .int .i64 ((a : Nat) : Int)), (10, .int .i64 ((I : Nat) : Int)), (11, .int .i64 ((x.p : Nat) : Int))]) (fun _ => ⟨[(i, .cells (rowT mT d))], [], off, none⟩) (fun x => x.p) ⟨(b - 1), by omega, hJ⟩ (by repeat (first | exact .nil _ | refine .cons rfl ?_)) (.refl _) [(0, .aref 1 i 0 n cap), (1, .int .i64 ((a : Nat) : Int)), (10, .int .i64 ((I : Nat) : Int)), (11, .int .i64 ((J : Nat) : Int))] (⟨[(i, .cells (rowT mT d))], [], off, none⟩) ?_ ?_
  · rintro ⟨p, hp, hr⟩
    dsimp only at hr ⊢
    by_cases hpJ : I ≤ p
    · obtain ⟨m, rfl⟩ : ∃ m, p = m + 1 := ⟨p - 1, by omega⟩
      repeat' (first
    | ((first | (show AL _ _ _ _ _ _ _ _; refine Ae Y ?_) | (show DL _ _ _ _ _ _ _; refine' A7 Y Y (fun K kk => ?_) ?_; try (show Go.Ts.T; rotate_left))); (first
      | refine Ap hG Y Y ?_
      | refine A3 hG Y Y ?_
      | (show AOp _ _ ⟨_, .binOp .add _ _ _ _, _, _, _, _⟩ _ _ _; first | refine Ac hG Y Y Y Y Y (by omega) ?_ | refine Ac (m := 1) hG Y Y Y Y Y (by omega) ?_ | refine Aa hG Y Y Y Y Y (by omega) ?_)
      | (show AOp _ _ ⟨_, .binOp .sub _ _ _ _, _, _, _, _⟩ _ _ _; first | refine Aq hG Y Y Y Y (by omega) ?_ | refine Aq (m := 1) hG Y Y Y Y (by omega) ?_ | refine Aa hG Y Y Y Y Y (by omega) ?_)
      | (show AOp _ _ ⟨_, .binOp _ _ _ _ _, _, _, _, _⟩ _ _ _; first | refine Au hG Y Y Y Y Y (by omega) ?_ | refine Av hG Y Y Y Y Y (by omega) ?_ | ((fail_if_success have := kk); refine Ao hG Y Y Y Y Y (fun h => ?_) (fun h => ?_)))
      | (show AOp _ _ ⟨_, .load _ _, _, _, _, _⟩ _ _ _; first | refine Ak (α := Nat) 0 hG Y Y Y Y (by omega) Y ?_ | refine Ax hG Y Y Y ?_ | refine A8 0 hG Y Y Y Y ?_)
      | (show AOp _ _ ⟨_, .indexAddr _ _ _, _, _, _, _⟩ _ _ _; first | refine A2 hG Y Y Y Y Y Y Y (by omega) ?_ | refine Aw hG Y Y Y Y Y Y Y (by omega) ?_ | refine Az hG Y Y Y Y Y Y Y (by omega) ?_ | refine A9 hG Y Y ?_)
      | refine Bc hG Y Y Y ?_
      | refine Bn hG Y Y Y ?_
      | (show AOp _ _ ⟨_, .store _ _ _, _, _, _, _⟩ _ _ _; first | refine A0 (α := Nat) 0 hG Y Y Y Ag Bb Y Y (by first | omega | (simp only [Array.size_setIfInBounds]; omega)) ?_ | refine Bh 0 hG Y Y Y Y Y Y Y ?_)
      | (show AOp _ _ ⟨_, .call ⟨.value _, _, _⟩, _, _, _, _⟩ _ _ _; first | refine B0 Y Y Y Y Y (by first | (apply Cg <;> (first | assumption | omega | exact Bf _ _ | exact Bo _ | exact Bk _ _ | exact Bs _ | rfl | (simp; omega))) | fail) ?_ | fail)
      | refine r_q hG Y Y Y ?_); try exact kk)
    | (show AL _ _ _ _ _ _ _ _; first | refine Bi Y Y Y ?_ | (refine As ?_; first | show AW _ _ _ _ _ _ | show ∃ x', _ < _ ∧ _)) | (show AW _ _ (.seq _ _) _ _ _; refine Ai ?_; intro Q1) | (show AW _ _ (.region _ _ false) _ _ _; refine Ad ?_; intro O1) | (show AW _ _ (.cond _ _ _) _ _ _; first | refine Am Y ?_ | refine Al Y ?_ | refine Bd Y (fun h => ?_) (fun h => ?_)) | (show AW _ _ (.skip) _ _ _; refine Aj ?_; first | show AW _ _ _ _ _ _ | show ∃ x', _ < _ ∧ _) | (show AW _ _ (.block _ _) _ _ _; refine Af ?_; intro Q1) | (show AW _ _ (.exit _) _ _ _; refine Ar ?_; first | show AW _ _ _ _ _ _ | show ∃ x', _ < _ ∧ _) | (show AW _ _ (.ret) _ _ _; refine At ?_; try dsimp only [Ay, Ab, A6, Ah])
    | (show DL _ _ _ _ _ _ _; refine Bu Y Y (fun K kt kf => Ao hG Y Y Y Y Y kt kf) (fun h => ?_) (fun h => ?_))
    | (show DL _ _ _ _ _ _ _; refine Bt Y Y Y ?_) | (show DL _ _ _ _ _ _ _; refine Be ?_; first | show AW _ _ _ _ _ _ | show ∃ x', _ < _ ∧ _) | (show AW _ _ (.region _ _ true) _ _ _; refine A1 mix (by kernel_rfl) ?_; intro O1) | fail)
      · rw [scanDown, if_pos (by simp [hpJ]; simpa using h)] at hr
        exact ⟨⟨m, by omega, hr⟩, by dsimp only; omega, (by repeat (first | exact .nil _ | refine .cons rfl ?_)), .refl _⟩
      · rw [scanDown, if_neg (by simp [hpJ]; simpa using h)] at hr
        subst hr
        (refine Ar ?_; show _ ∧ Knows _ _ ∧ _; exact ⟨rfl, (by repeat (first | exact .nil _ | refine .cons rfl ?_)), rfl⟩)
    · have hr2 : p = J := by
        rw [← hr]
        cases p with
        | zero => rfl
        | succ m => rw [scanDown, if_neg (by simp; omega)]
      subst hr2
      repeat' (first
    | ((first | (show AL _ _ _ _ _ _ _ _; refine Ae Y ?_) | (show DL _ _ _ _ _ _ _; refine' A7 Y Y (fun K kk => ?_) ?_; try (show Go.Ts.T; rotate_left))); (first
      | refine Ap hG Y Y ?_
      | refine A3 hG Y Y ?_
      | (show AOp _ _ ⟨_, .binOp .add _ _ _ _, _, _, _, _⟩ _ _ _; first | refine Ac hG Y Y Y Y Y (by omega) ?_ | refine Ac (m := 1) hG Y Y Y Y Y (by omega) ?_ | refine Aa hG Y Y Y Y Y (by omega) ?_)
      | (show AOp _ _ ⟨_, .binOp .sub _ _ _ _, _, _, _, _⟩ _ _ _; first | refine Aq hG Y Y Y Y (by omega) ?_ | refine Aq (m := 1) hG Y Y Y Y (by omega) ?_ | refine Aa hG Y Y Y Y Y (by omega) ?_)
      | (show AOp _ _ ⟨_, .binOp _ _ _ _ _, _, _, _, _⟩ _ _ _; first | refine Au hG Y Y Y Y Y (by omega) ?_ | refine Av hG Y Y Y Y Y (by omega) ?_ | ((fail_if_success have := kk); refine Ao hG Y Y Y Y Y (fun h => ?_) (fun h => ?_)))
      | (show AOp _ _ ⟨_, .load _ _, _, _, _, _⟩ _ _ _; first | refine Ak (α := Nat) 0 hG Y Y Y Y (by omega) Y ?_ | refine Ax hG Y Y Y ?_ | refine A8 0 hG Y Y Y Y ?_)
      | (show AOp _ _ ⟨_, .indexAddr _ _ _, _, _, _, _⟩ _ _ _; first | refine A2 hG Y Y Y Y Y Y Y (by omega) ?_ | refine Aw hG Y Y Y Y Y Y Y (by omega) ?_ | refine Az hG Y Y Y Y Y Y Y (by omega) ?_ | refine A9 hG Y Y ?_)
      | refine Bc hG Y Y Y ?_
      | refine Bn hG Y Y Y ?_
      | (show AOp _ _ ⟨_, .store _ _ _, _, _, _, _⟩ _ _ _; first | refine A0 (α := Nat) 0 hG Y Y Y Ag Bb Y Y (by first | omega | (simp only [Array.size_setIfInBounds]; omega)) ?_ | refine Bh 0 hG Y Y Y Y Y Y Y ?_)
      | (show AOp _ _ ⟨_, .call ⟨.value _, _, _⟩, _, _, _, _⟩ _ _ _; first | refine B0 Y Y Y Y Y (by first | (apply Cg <;> (first | assumption | omega | exact Bf _ _ | exact Bo _ | exact Bk _ _ | exact Bs _ | rfl | (simp; omega))) | fail) ?_ | fail)
      | refine r_q hG Y Y Y ?_); try exact kk)
    | (show AL _ _ _ _ _ _ _ _; first | refine Bi Y Y Y ?_ | (refine As ?_; first | show AW _ _ _ _ _ _ | show ∃ x', _ < _ ∧ _)) | (show AW _ _ (.seq _ _) _ _ _; refine Ai ?_; intro Q1) | (show AW _ _ (.region _ _ false) _ _ _; refine Ad ?_; intro O1) | (show AW _ _ (.cond _ _ _) _ _ _; first | refine Am Y ?_ | refine Al Y ?_ | refine Bd Y (fun h => ?_) (fun h => ?_)) | (show AW _ _ (.skip) _ _ _; refine Aj ?_; first | show AW _ _ _ _ _ _ | show ∃ x', _ < _ ∧ _) | (show AW _ _ (.block _ _) _ _ _; refine Af ?_; intro Q1) | (show AW _ _ (.exit _) _ _ _; refine Ar ?_; first | show AW _ _ _ _ _ _ | show ∃ x', _ < _ ∧ _) | (show AW _ _ (.ret) _ _ _; refine At ?_; try dsimp only [Ay, Ab, A6, Ah])
    | (show DL _ _ _ _ _ _ _; refine Bu Y Y (fun K kt kf => Ao hG Y Y Y Y Y kt kf) (fun h => ?_) (fun h => ?_))
    | (show DL _ _ _ _ _ _ _; refine Bt Y Y Y ?_) | (show DL _ _ _ _ _ _ _; refine Be ?_; first | show AW _ _ _ _ _ _ | show ∃ x', _ < _ ∧ _) | (show AW _ _ (.region _ _ true) _ _ _; refine A1 mix (by kernel_rfl) ?_; intro O1) | fail)
      (refine Ar ?_; show _ ∧ Knows _ _ ∧ _; exact ⟨rfl, (by repeat (first | exact .nil _ | refine .cons rfl ?_)), rfl⟩)
  intro a' hk
  show AW _ _ _ _ _ _
  refine aw_forget hk ?_
  dsimp only at hp
  rw [hI, hJ] at hp
  by_cases hIJ : I > J
  · rw [if_pos hIJ] at hp
    repeat' (first
    | ((first | (show AL _ _ _ _ _ _ _ _; refine Ae Y ?_) | (show DL _ _ _ _ _ _ _; refine' A7 Y Y (fun K kk => ?_) ?_; try (show Go.Ts.T; rotate_left))); (first
      | refine Ap hG Y Y ?_
      | refine A3 hG Y Y ?_
      | (show AOp _ _ ⟨_, .binOp .add _ _ _ _, _, _, _, _⟩ _ _ _; first | refine Ac hG Y Y Y Y Y (by omega) ?_ | refine Ac (m := 1) hG Y Y Y Y Y (by omega) ?_ | refine Aa hG Y Y Y Y Y (by omega) ?_)
      | (show AOp _ _ ⟨_, .binOp .sub _ _ _ _, _, _, _, _⟩ _ _ _; first | refine Aq hG Y Y Y Y (by omega) ?_ | refine Aq (m := 1) hG Y Y Y Y (by omega) ?_ | refine Aa hG Y Y Y Y Y (by omega) ?_)
      | (show AOp _ _ ⟨_, .binOp _ _ _ _ _, _, _, _, _⟩ _ _ _; first | refine Au hG Y Y Y Y Y (by omega) ?_ | refine Av hG Y Y Y Y Y (by omega) ?_ | ((fail_if_success have := kk); refine Ao hG Y Y Y Y Y (fun h => ?_) (fun h => ?_)))
      | (show AOp _ _ ⟨_, .load _ _, _, _, _, _⟩ _ _ _; first | refine Ak (α := Nat) 0 hG Y Y Y Y (by omega) Y ?_ | refine Ax hG Y Y Y ?_ | refine A8 0 hG Y Y Y Y ?_)
      | (show AOp _ _ ⟨_, .indexAddr _ _ _, _, _, _, _⟩ _ _ _; first | refine A2 hG Y Y Y Y Y Y Y (by omega) ?_ | refine Aw hG Y Y Y Y Y Y Y (by omega) ?_ | refine Az hG Y Y Y Y Y Y Y (by omega) ?_ | refine A9 hG Y Y ?_)
      | refine Bc hG Y Y Y ?_
      | refine Bn hG Y Y Y ?_
      | (show AOp _ _ ⟨_, .store _ _ _, _, _, _, _⟩ _ _ _; first | refine A0 (α := Nat) 0 hG Y Y Y Ag Bb Y Y (by first | omega | (simp only [Array.size_setIfInBounds]; omega)) ?_ | refine Bh 0 hG Y Y Y Y Y Y Y ?_)
      | refine r_q hG Y Y Y ?_); try exact kk)
    | (show AL _ _ _ _ _ _ _ _; first | refine Bi Y Y Y ?_ | (refine As ?_; first | show AW _ _ _ _ _ _ | show ∃ x', _ < _ ∧ _)) | (show AW _ _ (.seq _ _) _ _ _; refine Ai ?_; intro Q1) | (show AW _ _ (.region _ _ false) _ _ _; (fail_if_success show AW _ _ (.region 8 _ _) _ _ _); refine Ad ?_; intro O1) | (show AW _ _ (.cond _ _ _) _ _ _; first | refine Am Y ?_ | refine Al Y ?_ | refine Bd Y (fun h => ?_) (fun h => ?_)) | (show AW _ _ (.skip) _ _ _; refine Aj ?_; first | show AW _ _ _ _ _ _ | show ∃ x', _ < _ ∧ _) | (show AW _ _ (.block _ _) _ _ _; refine Af ?_; intro Q1) | (show AW _ _ (.exit _) _ _ _; refine Ar ?_; first | show AW _ _ _ _ _ _ | show ∃ x', _ < _ ∧ _) | (show AW _ _ (.ret) _ _ _; refine At ?_; try dsimp only [Ay, Ab, A6, Ah])
    | (show DL _ _ _ _ _ _ _; refine Bu Y Y (fun K kt kf => Ao hG Y Y Y Y Y kt kf) (fun h => ?_) (fun h => ?_))
    | (show DL _ _ _ _ _ _ _; refine Bt Y Y Y ?_) | (show DL _ _ _ _ _ _ _; refine Be ?_; first | show AW _ _ _ _ _ _ | show ∃ x', _ < _ ∧ _) | (show AW _ _ (.region _ _ true) _ _ _; (fail_if_success show AW _ _ (.region 8 _ _) _ _ _); refine A1 mix (by kernel_rfl) ?_; intro O1) | fail)
    refine Ce (m := 14) [13] [7, 11] (fun σ => ∃ c : Array Nat, c.size = n ∧ σ = ⟨[(i, .cells (rowT mT c))], [], off, none⟩) mix Y Y (by repeat (first | exact Sp.zero _ | apply Sp.succ)) ?_; intro O1 F1 Z1 Q2; repeat' (first
    | (refine' dq0_cons Y Y Y Y (fun σ hσ K kk => ?_) ?_; (try (show Go.Ts.T; rotate_left)); (obtain ⟨c, hcn, hcs⟩ := hσ; subst hcs); (first
      | refine Ap hG Y Y ?_
      | refine A3 hG Y Y ?_
      | (show AOp _ _ ⟨_, .binOp .add _ _ _ _, _, _, _, _⟩ _ _ _; first | refine Ac hG Y Y Y Y Y (by omega) ?_ | refine Ac (m := 1) hG Y Y Y Y Y (by omega) ?_ | refine Aa hG Y Y Y Y Y (by omega) ?_)
      | (show AOp _ _ ⟨_, .binOp .sub _ _ _ _, _, _, _, _⟩ _ _ _; first | refine Aq hG Y Y Y Y (by omega) ?_ | refine Aq (m := 1) hG Y Y Y Y (by omega) ?_ | refine r_subU (m := 1) hG Y Y Y Y (by omega) ?_ | refine Aa hG Y Y Y Y Y (by omega) ?_)
      | (show AOp _ _ ⟨_, .binOp _ _ _ _ _, _, _, _, _⟩ _ _ _; first | refine Au hG Y Y Y Y Y (by omega) ?_ | refine Av hG Y Y Y Y Y (by omega) ?_)
      | (show AOp _ _ ⟨_, .load _ _, _, _, _, _⟩ _ _ _; first | refine Ak (α := Nat) 0 hG Y Y Y Y (by omega) Y ?_ | refine Ak (α := Nat) 1 hG Y Y Y Y (by omega) Y ?_ | refine Ax hG Y Y Y ?_ | refine A8 0 hG Y Y Y Y ?_)
      | (show AOp _ _ ⟨_, .indexAddr _ _ _, _, _, _, _⟩ _ _ _; first | refine A2 hG Y Y Y Y Y Y Y (by omega) ?_ | refine Aw hG Y Y Y Y Y Y Y (by omega) ?_ | refine Az hG Y Y Y Y Y Y Y (by omega) ?_ | refine A9 hG Y Y ?_)
      | refine Bc hG Y Y Y ?_
      | refine Bn hG Y Y Y ?_
      | (show AOp _ _ ⟨_, .store _ _ _, _, _, _, _⟩ _ _ _; first | refine A0 (α := Nat) 0 hG Y Y Y Ag Bb Y Y (by first | omega | (simp only [Array.size_setIfInBounds]; omega)) ?_ | refine A0 (α := Nat) 1 hG Y Y Y Ag Bb Y Y (by first | omega | (simp only [Array.size_setIfInBounds]; omega)) ?_ | refine Bh 0 hG Y Y Y Y Y Y Y ?_)
      | refine r_q hG Y Y Y ?_); exact kk)
    | (refine' Cf Y Y Y Y (fun K kk => ?_) ?_; (try (show Go.Ts.T; rotate_left)); (first | refine Ak 0 hG Y Y Y Y (by omega) Y ?_ | refine Ak 1 hG Y Y Y Y (by omega) Y ?_); exact kk)
    | refine dq0_e Y ?_ | (refine dq0_nil ?_; show EL _ _ _ _ _ _ _ _ _)
    | (refine el_consN ⟨_, (by first | assumption | (simp only [Array.size_setIfInBounds]; omega)), Y⟩ Y Y Y (fun K ke => ?_); (first | refine A0 (α := Nat) 0 hG Y Y Y Ag Bb Y Y (by first | omega | (simp only [Array.size_setIfInBounds]; omega)) ?_ | refine A0 (α := Nat) 1 hG Y Y Y Ag Bb Y Y (by first | omega | (simp only [Array.size_setIfInBounds]; omega)) ?_); refine ke (.tup []) _ ?_)
    | (refine el_nil ⟨_, (by first | assumption | (simp only [Array.size_setIfInBounds]; omega)), Y⟩ ?_; show AL _ _ _ _ _ _ _ _) | fail)
    repeat' (first
    | ((first | (show AL _ _ _ _ _ _ _ _; refine Ae Y ?_) | (show DL _ _ _ _ _ _ _; refine' A7 Y Y (fun K kk => ?_) ?_; try (show Go.Ts.T; rotate_left))); (first
      | refine Ap hG Y Y ?_
      | refine A3 hG Y Y ?_
      | (show AOp _ _ ⟨_, .binOp .add _ _ _ _, _, _, _, _⟩ _ _ _; first | refine Ac hG Y Y Y Y Y (by omega) ?_ | refine Ac (m := 1) hG Y Y Y Y Y (by omega) ?_ | refine Aa hG Y Y Y Y Y (by omega) ?_)
      | (show AOp _ _ ⟨_, .binOp .sub _ _ _ _, _, _, _, _⟩ _ _ _; first | refine Aq hG Y Y Y Y (by omega) ?_ | refine Aq (m := 1) hG Y Y Y Y (by omega) ?_ | refine Aa hG Y Y Y Y Y (by omega) ?_)
      | (show AOp _ _ ⟨_, .binOp _ _ _ _ _, _, _, _, _⟩ _ _ _; first | refine Au hG Y Y Y Y Y (by omega) ?_ | refine Av hG Y Y Y Y Y (by omega) ?_ | ((fail_if_success have := kk); refine Ao hG Y Y Y Y Y (fun h => ?_) (fun h => ?_)))
      | (show AOp _ _ ⟨_, .load _ _, _, _, _, _⟩ _ _ _; first | refine Ak (α := Nat) 0 hG Y Y Y Y (by omega) Y ?_ | refine Ax hG Y Y Y ?_ | refine A8 0 hG Y Y Y Y ?_)
      | (show AOp _ _ ⟨_, .indexAddr _ _ _, _, _, _, _⟩ _ _ _; first | refine A2 hG Y Y Y Y Y Y Y (by omega) ?_ | refine Aw hG Y Y Y Y Y Y Y (by omega) ?_ | refine Az hG Y Y Y Y Y Y Y (by omega) ?_ | refine A9 hG Y Y ?_)
      | refine Bc hG Y Y Y ?_
      | refine Bn hG Y Y Y ?_
      | (show AOp _ _ ⟨_, .store _ _ _, _, _, _, _⟩ _ _ _; first | refine A0 (α := Nat) 0 hG Y Y Y Ag Bb Y Y (by first | omega | (simp only [Array.size_setIfInBounds]; omega)) ?_ | refine Bh 0 hG Y Y Y Y Y Y Y ?_)
      | refine r_q hG Y Y Y ?_); try exact kk)
    | (show AL _ _ _ _ _ _ _ _; first | refine Bi Y Y Y ?_ | (refine As ?_; first | show AW _ _ _ _ _ _ | show ∃ x', _ < _ ∧ _)) | (show AW _ _ (.seq _ _) _ _ _; refine Ai ?_; intro Q1) | (show AW _ _ (.region _ _ false) _ _ _; refine Ad ?_; intro O1) | (show AW _ _ (.cond _ _ _) _ _ _; first | refine Am Y ?_ | refine Al Y ?_ | refine Bd Y (fun h => ?_) (fun h => ?_)) | (show AW _ _ (.skip) _ _ _; refine Aj ?_; first | show AW _ _ _ _ _ _ | show ∃ x', _ < _ ∧ _) | (show AW _ _ (.block _ _) _ _ _; refine Af ?_; intro Q1) | (show AW _ _ (.exit _) _ _ _; refine Ar ?_; first | show AW _ _ _ _ _ _ | show ∃ x', _ < _ ∧ _) | (show AW _ _ (.ret) _ _ _; refine At ?_; try dsimp only [Ay, Ab, A6, Ah])
    | (show DL _ _ _ _ _ _ _; refine Bu Y Y (fun K kt kf => Ao hG Y Y Y Y Y kt kf) (fun h => ?_) (fun h => ?_))
    | (show DL _ _ _ _ _ _ _; refine Bt Y Y Y ?_) | (show DL _ _ _ _ _ _ _; refine Be ?_; first | show AW _ _ _ _ _ _ | show ∃ x', _ < _ ∧ _) | (show AW _ _ (.region _ _ true) _ _ _; refine A1 mix (by kernel_rfl) ?_; intro O1) | fail)
    dsimp (config := { zetaDelta := true }) only [Ay, Ab]
    rw [hp]
    refine ret_row 0 (Bq rfl (Bq rfl Bl)) ?_ (.refl _) ?_ <;> rfl
  · rw [if_neg hIJ] at hp
    repeat' (first
    | ((first | (show AL _ _ _ _ _ _ _ _; refine Ae Y ?_) | (show DL _ _ _ _ _ _ _; refine' A7 Y Y (fun K kk => ?_) ?_; try (show Go.Ts.T; rotate_left))); (first
      | refine Ap hG Y Y ?_
      | refine A3 hG Y Y ?_
      | (show AOp _ _ ⟨_, .binOp .add _ _ _ _, _, _, _, _⟩ _ _ _; first | refine Ac hG Y Y Y Y Y (by omega) ?_ | refine Ac (m := 1) hG Y Y Y Y Y (by omega) ?_ | refine Aa hG Y Y Y Y Y (by omega) ?_)
      | (show AOp _ _ ⟨_, .binOp .sub _ _ _ _, _, _, _, _⟩ _ _ _; first | refine Aq hG Y Y Y Y (by omega) ?_ | refine Aq (m := 1) hG Y Y Y Y (by omega) ?_ | refine Aa hG Y Y Y Y Y (by omega) ?_)
      | (show AOp _ _ ⟨_, .binOp _ _ _ _ _, _, _, _, _⟩ _ _ _; first | refine Au hG Y Y Y Y Y (by omega) ?_ | refine Av hG Y Y Y Y Y (by omega) ?_ | ((fail_if_success have := kk); refine Ao hG Y Y Y Y Y (fun h => ?_) (fun h => ?_)))
      | (show AOp _ _ ⟨_, .load _ _, _, _, _, _⟩ _ _ _; first | refine Ak (α := Nat) 0 hG Y Y Y Y (by omega) Y ?_ | refine Ax hG Y Y Y ?_ | refine A8 0 hG Y Y Y Y ?_)
      | (show AOp _ _ ⟨_, .indexAddr _ _ _, _, _, _, _⟩ _ _ _; first | refine A2 hG Y Y Y Y Y Y Y (by omega) ?_ | refine Aw hG Y Y Y Y Y Y Y (by omega) ?_ | refine Az hG Y Y Y Y Y Y Y (by omega) ?_ | refine A9 hG Y Y ?_)
      | refine Bc hG Y Y Y ?_
      | refine Bn hG Y Y Y ?_
      | (show AOp _ _ ⟨_, .store _ _ _, _, _, _, _⟩ _ _ _; first | refine A0 (α := Nat) 0 hG Y Y Y Ag Bb Y Y (by first | omega | (simp only [Array.size_setIfInBounds]; omega)) ?_ | refine Bh 0 hG Y Y Y Y Y Y Y ?_)
      | refine r_q hG Y Y Y ?_); try exact kk)
    | (show AL _ _ _ _ _ _ _ _; first | refine Bi Y Y Y ?_ | (refine As ?_; first | show AW _ _ _ _ _ _ | show ∃ x', _ < _ ∧ _)) | (show AW _ _ (.seq _ _) _ _ _; refine Ai ?_; intro Q1) | (show AW _ _ (.region _ _ false) _ _ _; (fail_if_success show AW _ _ (.region 10 _ _) _ _ _); refine Ad ?_; intro O1) | (show AW _ _ (.cond _ _ _) _ _ _; first | refine Am Y ?_ | refine Al Y ?_ | refine Bd Y (fun h => ?_) (fun h => ?_)) | (show AW _ _ (.skip) _ _ _; refine Aj ?_; first | show AW _ _ _ _ _ _ | show ∃ x', _ < _ ∧ _) | (show AW _ _ (.block _ _) _ _ _; refine Af ?_; intro Q1) | (show AW _ _ (.exit _) _ _ _; refine Ar ?_; first | show AW _ _ _ _ _ _ | show ∃ x', _ < _ ∧ _) | (show AW _ _ (.ret) _ _ _; refine At ?_; try dsimp only [Ay, Ab, A6, Ah])
    | (show DL _ _ _ _ _ _ _; refine Bu Y Y (fun K kt kf => Ao hG Y Y Y Y Y kt kf) (fun h => ?_) (fun h => ?_))
    | (show DL _ _ _ _ _ _ _; refine Bt Y Y Y ?_) | (show DL _ _ _ _ _ _ _; refine Be ?_; first | show AW _ _ _ _ _ _ | show ∃ x', _ < _ ∧ _) | (show AW _ _ (.region _ _ true) _ _ _; (fail_if_success show AW _ _ (.region 10 _ _) _ _ _); refine A1 mix (by kernel_rfl) ?_; intro O1) | fail)
    refine Ce (m := 14) [13] [7, 11] (fun σ => ∃ c : Array Nat, c.size = n ∧ σ = ⟨[(i, .cells (rowT mT c))], [], off, none⟩) mix Y Y (by repeat (first | exact Sp.zero _ | apply Sp.succ)) ?_; intro O1 F1 Z1 Q2; repeat' (first
    | (refine' dq0_cons Y Y Y Y (fun σ hσ K kk => ?_) ?_; (try (show Go.Ts.T; rotate_left)); (obtain ⟨c, hcn, hcs⟩ := hσ; subst hcs); (first
      | refine Ap hG Y Y ?_
      | refine A3 hG Y Y ?_
      | (show AOp _ _ ⟨_, .binOp .add _ _ _ _, _, _, _, _⟩ _ _ _; first | refine Ac hG Y Y Y Y Y (by omega) ?_ | refine Ac (m := 1) hG Y Y Y Y Y (by omega) ?_ | refine Aa hG Y Y Y Y Y (by omega) ?_)
      | (show AOp _ _ ⟨_, .binOp .sub _ _ _ _, _, _, _, _⟩ _ _ _; first | refine Aq hG Y Y Y Y (by omega) ?_ | refine Aq (m := 1) hG Y Y Y Y (by omega) ?_ | refine r_subU (m := 1) hG Y Y Y Y (by omega) ?_ | refine Aa hG Y Y Y Y Y (by omega) ?_)
      | (show AOp _ _ ⟨_, .binOp _ _ _ _ _, _, _, _, _⟩ _ _ _; first | refine Au hG Y Y Y Y Y (by omega) ?_ | refine Av hG Y Y Y Y Y (by omega) ?_)
      | (show AOp _ _ ⟨_, .load _ _, _, _, _, _⟩ _ _ _; first | refine Ak (α := Nat) 0 hG Y Y Y Y (by omega) Y ?_ | refine Ak (α := Nat) 1 hG Y Y Y Y (by omega) Y ?_ | refine Ax hG Y Y Y ?_ | refine A8 0 hG Y Y Y Y ?_)
      | (show AOp _ _ ⟨_, .indexAddr _ _ _, _, _, _, _⟩ _ _ _; first | refine A2 hG Y Y Y Y Y Y Y (by omega) ?_ | refine Aw hG Y Y Y Y Y Y Y (by omega) ?_ | refine Az hG Y Y Y Y Y Y Y (by omega) ?_ | refine A9 hG Y Y ?_)
      | refine Bc hG Y Y Y ?_
      | refine Bn hG Y Y Y ?_
      | (show AOp _ _ ⟨_, .store _ _ _, _, _, _, _⟩ _ _ _; first | refine A0 (α := Nat) 0 hG Y Y Y Ag Bb Y Y (by first | omega | (simp only [Array.size_setIfInBounds]; omega)) ?_ | refine A0 (α := Nat) 1 hG Y Y Y Ag Bb Y Y (by first | omega | (simp only [Array.size_setIfInBounds]; omega)) ?_ | refine Bh 0 hG Y Y Y Y Y Y Y ?_)
      | refine r_q hG Y Y Y ?_); exact kk)
    | (refine' Cf Y Y Y Y (fun K kk => ?_) ?_; (try (show Go.Ts.T; rotate_left)); (first | refine Ak 0 hG Y Y Y Y (by omega) Y ?_ | refine Ak 1 hG Y Y Y Y (by omega) Y ?_); exact kk)
    | refine dq0_e Y ?_ | (refine dq0_nil ?_; show EL _ _ _ _ _ _ _ _ _)
    | (refine el_consN ⟨_, (by first | assumption | (simp only [Array.size_setIfInBounds]; omega)), Y⟩ Y Y Y (fun K ke => ?_); (first | refine A0 (α := Nat) 0 hG Y Y Y Ag Bb Y Y (by first | omega | (simp only [Array.size_setIfInBounds]; omega)) ?_ | refine A0 (α := Nat) 1 hG Y Y Y Ag Bb Y Y (by first | omega | (simp only [Array.size_setIfInBounds]; omega)) ?_); refine ke (.tup []) _ ?_)
    | (refine el_nil ⟨_, (by first | assumption | (simp only [Array.size_setIfInBounds]; omega)), Y⟩ ?_; show AL _ _ _ _ _ _ _ _) | fail)
    repeat' (first
    | ((first | (show AL _ _ _ _ _ _ _ _; refine Ae Y ?_) | (show DL _ _ _ _ _ _ _; refine' A7 Y Y (fun K kk => ?_) ?_; try (show Go.Ts.T; rotate_left))); (first
      | refine Ap hG Y Y ?_
      | refine A3 hG Y Y ?_
      | (show AOp _ _ ⟨_, .binOp .add _ _ _ _, _, _, _, _⟩ _ _ _; first | refine Ac hG Y Y Y Y Y (by omega) ?_ | refine Ac (m := 1) hG Y Y Y Y Y (by omega) ?_ | refine Aa hG Y Y Y Y Y (by omega) ?_)
      | (show AOp _ _ ⟨_, .binOp .sub _ _ _ _, _, _, _, _⟩ _ _ _; first | refine Aq hG Y Y Y Y (by omega) ?_ | refine Aq (m := 1) hG Y Y Y Y (by omega) ?_ | refine Aa hG Y Y Y Y Y (by omega) ?_)
      | (show AOp _ _ ⟨_, .binOp _ _ _ _ _, _, _, _, _⟩ _ _ _; first | refine Au hG Y Y Y Y Y (by omega) ?_ | refine Av hG Y Y Y Y Y (by omega) ?_ | ((fail_if_success have := kk); refine Ao hG Y Y Y Y Y (fun h => ?_) (fun h => ?_)))
      | (show AOp _ _ ⟨_, .load _ _, _, _, _, _⟩ _ _ _; first | refine Ak (α := Nat) 0 hG Y Y Y Y (by omega) Y ?_ | refine Ax hG Y Y Y ?_ | refine A8 0 hG Y Y Y Y ?_)
      | (show AOp _ _ ⟨_, .indexAddr _ _ _, _, _, _, _⟩ _ _ _; first | refine A2 hG Y Y Y Y Y Y Y (by omega) ?_ | refine Aw hG Y Y Y Y Y Y Y (by omega) ?_ | refine Az hG Y Y Y Y Y Y Y (by omega) ?_ | refine A9 hG Y Y ?_)
      | refine Bc hG Y Y Y ?_
      | refine Bn hG Y Y Y ?_
      | (show AOp _ _ ⟨_, .store _ _ _, _, _, _, _⟩ _ _ _; first | refine A0 (α := Nat) 0 hG Y Y Y Ag Bb Y Y (by first | omega | (simp only [Array.size_setIfInBounds]; omega)) ?_ | refine Bh 0 hG Y Y Y Y Y Y Y ?_)
      | refine r_q hG Y Y Y ?_); try exact kk)
    | (show AL _ _ _ _ _ _ _ _; first | refine Bi Y Y Y ?_ | (refine As ?_; first | show AW _ _ _ _ _ _ | show ∃ x', _ < _ ∧ _)) | (show AW _ _ (.seq _ _) _ _ _; refine Ai ?_; intro Q1) | (show AW _ _ (.region _ _ false) _ _ _; refine Ad ?_; intro O1) | (show AW _ _ (.cond _ _ _) _ _ _; first | refine Am Y ?_ | refine Al Y ?_ | refine Bd Y (fun h => ?_) (fun h => ?_)) | (show AW _ _ (.skip) _ _ _; refine Aj ?_; first | show AW _ _ _ _ _ _ | show ∃ x', _ < _ ∧ _) | (show AW _ _ (.block _ _) _ _ _; refine Af ?_; intro Q1) | (show AW _ _ (.exit _) _ _ _; refine Ar ?_; first | show AW _ _ _ _ _ _ | show ∃ x', _ < _ ∧ _) | (show AW _ _ (.ret) _ _ _; refine At ?_; try dsimp only [Ay, Ab, A6, Ah])
    | (show DL _ _ _ _ _ _ _; refine Bu Y Y (fun K kt kf => Ao hG Y Y Y Y Y kt kf) (fun h => ?_) (fun h => ?_))
    | (show DL _ _ _ _ _ _ _; refine Bt Y Y Y ?_) | (show DL _ _ _ _ _ _ _; refine Be ?_; first | show AW _ _ _ _ _ _ | show ∃ x', _ < _ ∧ _) | (show AW _ _ (.region _ _ true) _ _ _; refine A1 mix (by kernel_rfl) ?_; intro O1) | fail)
    obtain ⟨R, hR⟩ : ∃ R, partLoop ltQ a (I + 1) (J - 1) (swp d I J) = R := ⟨_, rfl⟩
    rw [hR] at hp
    refine aw_loop (X := PlX a b n R) (fun x => [(0, .aref 1 i 0 n cap), (1, .int .i64 (a : Int)), (10, .int .i64 (x.i : Int)), (11, .int .i64 (x.j : Int))]) (fun x => ⟨[(i, .cells (rowT mT x.d))], [], off, none⟩) (fun x => x.j + 1 - x.i) ⟨I + 1, J - 1, swp d I J, by rw [size_swp]; exact hdn, by omega, hR⟩ (by repeat (first | exact .nil _ | refine .cons rfl ?_)) (.refl _) ?_
    clear hk a' hI hJ gI kI gJ hIJ hR
    rintro ⟨i1, j1, e, hen, hij, hr⟩
    dsimp only at hr ⊢
    rw [partLoop_eq] at hr
    repeat' (first
    | ((first | (show AL _ _ _ _ _ _ _ _; refine Ae Y ?_) | (show DL _ _ _ _ _ _ _; refine' A7 Y Y (fun K kk => ?_) ?_; try (show Go.Ts.T; rotate_left))); (first
      | refine Ap hG Y Y ?_
      | refine A3 hG Y Y ?_
      | (show AOp _ _ ⟨_, .binOp .add _ _ _ _, _, _, _, _⟩ _ _ _; first | refine Ac hG Y Y Y Y Y (by omega) ?_ | refine Ac (m := 1) hG Y Y Y Y Y (by omega) ?_ | refine Aa hG Y Y Y Y Y (by omega) ?_)
      | (show AOp _ _ ⟨_, .binOp .sub _ _ _ _, _, _, _, _⟩ _ _ _; first | refine Aq hG Y Y Y Y (by omega) ?_ | refine Aq (m := 1) hG Y Y Y Y (by omega) ?_ | refine Aa hG Y Y Y Y Y (by omega) ?_)
      | (show AOp _ _ ⟨_, .binOp _ _ _ _ _, _, _, _, _⟩ _ _ _; first | refine Au hG Y Y Y Y Y (by omega) ?_ | refine Av hG Y Y Y Y Y (by omega) ?_ | ((fail_if_success have := kk); refine Ao hG Y Y Y Y Y (fun h => ?_) (fun h => ?_)))
      | (show AOp _ _ ⟨_, .load _ _, _, _, _, _⟩ _ _ _; first | refine Ak (α := Nat) 0 hG Y Y Y Y (by omega) Y ?_ | refine Ax hG Y Y Y ?_ | refine A8 0 hG Y Y Y Y ?_)
      | (show AOp _ _ ⟨_, .indexAddr _ _ _, _, _, _, _⟩ _ _ _; first | refine A2 hG Y Y Y Y Y Y Y (by omega) ?_ | refine Aw hG Y Y Y Y Y Y Y (by omega) ?_ | refine Az hG Y Y Y Y Y Y Y (by omega) ?_ | refine A9 hG Y Y ?_)
      | refine Bc hG Y Y Y ?_
      | refine Bn hG Y Y Y ?_
      | (show AOp _ _ ⟨_, .store _ _ _, _, _, _, _⟩ _ _ _; first | refine A0 (α := Nat) 0 hG Y Y Y Ag Bb Y Y (by first | omega | (simp only [Array.size_setIfInBounds]; omega)) ?_ | refine Bh 0 hG Y Y Y Y Y Y Y ?_)
      | refine r_q hG Y Y Y ?_); try exact kk)
    | (show AL _ _ _ _ _ _ _ _; first | refine Bi Y Y Y ?_ | (refine As ?_; first | show AW _ _ _ _ _ _ | show ∃ x', _ < _ ∧ _)) | (show AW _ _ (.seq _ _) _ _ _; refine Ai ?_; intro Q1) | (show AW _ _ (.region _ _ false) _ _ _; refine Ad ?_; intro O1) | (show AW _ _ (.cond _ _ _) _ _ _; first | refine Am Y ?_ | refine Al Y ?_ | refine Bd Y (fun h => ?_) (fun h => ?_)) | (show AW _ _ (.skip) _ _ _; refine Aj ?_; first | show AW _ _ _ _ _ _ | show ∃ x', _ < _ ∧ _) | (show AW _ _ (.block _ _) _ _ _; refine Af ?_; intro Q1) | (show AW _ _ (.exit _) _ _ _; refine Ar ?_; first | show AW _ _ _ _ _ _ | show ∃ x', _ < _ ∧ _) | (show AW _ _ (.ret) _ _ _; refine At ?_; try dsimp only [Ay, Ab, A6, Ah])
    | (show DL _ _ _ _ _ _ _; refine Bu Y Y (fun K kt kf => Ao hG Y Y Y Y Y kt kf) (fun h => ?_) (fun h => ?_))
    | (show DL _ _ _ _ _ _ _; refine Bt Y Y Y ?_) | (show DL _ _ _ _ _ _ _; refine Be ?_; first | show AW _ _ _ _ _ _ | show ∃ x', _ < _ ∧ _) | (show AW _ _ (.region _ _ true) _ _ _; refine A1 mix (by kernel_rfl) ?_; intro O1) | fail)
    obtain ⟨I1, hI1⟩ : ∃ I, scanUp (fun x => ltQ x e[a]!) e (j1) (i1) = I := ⟨_, rfl⟩
    obtain ⟨J1, hJ1⟩ : ∃ J, scanDown (fun x => !ltQ x e[a]!) e I1 (j1) = J := ⟨_, rfl⟩
    have gI1 : i1 ≤ I1 := by rw [← hI1]; exact scanUp_ge _ _ _ _
    have kI1 : I1 ≤ n := by rw [← hI1]; exact up_le _ _ _ _ (by omega) _ _ (Nat.le_refl _) (by omega)
    have gJ1 : J1 ≤ j1 := by rw [← hJ1]; exact scanDown_le _ _ _ _
    refine aw_loop_to 6 (X := UpX (fun x => ltQ x e[a]!) e j1 I1 i1 n) (fun x => [(0, .aref 1 i 0 n cap), (1, .int .i64 ((a : Nat) : Int)), (10, .int .i64 ((x.p : Nat) : Int)), (11, .int .i64 ((j1 : Nat) : Int))]) (fun _ => ⟨[(i, .cells (rowT mT e))], [], off, none⟩) (fun x => j1 + 1 - x.p) ⟨i1, by omega, hI1⟩ (by repeat (first | exact .nil _ | refine .cons rfl ?_)) (.refl _) [(0, .aref 1 i 0 n cap), (1, .int .i64 ((a : Nat) : Int)), (10, .int .i64 ((I1 : Nat) : Int)), (11, .int .i64 ((j1 : Nat) : Int))] (⟨[(i, .cells (rowT mT e))], [], off, none⟩) ?_ ?_
    · rintro ⟨p, hp, hr⟩
      dsimp only at hr ⊢
      by_cases hpJ : p ≤ j1
      · repeat' (first
    | ((first | (show AL _ _ _ _ _ _ _ _; refine Ae Y ?_) | (show DL _ _ _ _ _ _ _; refine' A7 Y Y (fun K kk => ?_) ?_; try (show Go.Ts.T; rotate_left))); (first
      | refine Ap hG Y Y ?_
      | refine A3 hG Y Y ?_
      | (show AOp _ _ ⟨_, .binOp .add _ _ _ _, _, _, _, _⟩ _ _ _; first | refine Ac hG Y Y Y Y Y (by omega) ?_ | refine Ac (m := 1) hG Y Y Y Y Y (by omega) ?_ | refine Aa hG Y Y Y Y Y (by omega) ?_)
      | (show AOp _ _ ⟨_, .binOp .sub _ _ _ _, _, _, _, _⟩ _ _ _; first | refine Aq hG Y Y Y Y (by omega) ?_ | refine Aq (m := 1) hG Y Y Y Y (by omega) ?_ | refine Aa hG Y Y Y Y Y (by omega) ?_)
      | (show AOp _ _ ⟨_, .binOp _ _ _ _ _, _, _, _, _⟩ _ _ _; first | refine Au hG Y Y Y Y Y (by omega) ?_ | refine Av hG Y Y Y Y Y (by omega) ?_ | ((fail_if_success have := kk); refine Ao hG Y Y Y Y Y (fun h => ?_) (fun h => ?_)))
      | (show AOp _ _ ⟨_, .load _ _, _, _, _, _⟩ _ _ _; first | refine Ak (α := Nat) 0 hG Y Y Y Y (by omega) Y ?_ | refine Ax hG Y Y Y ?_ | refine A8 0 hG Y Y Y Y ?_)
      | (show AOp _ _ ⟨_, .indexAddr _ _ _, _, _, _, _⟩ _ _ _; first | refine A2 hG Y Y Y Y Y Y Y (by omega) ?_ | refine Aw hG Y Y Y Y Y Y Y (by omega) ?_ | refine Az hG Y Y Y Y Y Y Y (by omega) ?_ | refine A9 hG Y Y ?_)
      | refine Bc hG Y Y Y ?_
      | refine Bn hG Y Y Y ?_
      | (show AOp _ _ ⟨_, .store _ _ _, _, _, _, _⟩ _ _ _; first | refine A0 (α := Nat) 0 hG Y Y Y Ag Bb Y Y (by first | omega | (simp only [Array.size_setIfInBounds]; omega)) ?_ | refine Bh 0 hG Y Y Y Y Y Y Y ?_)
      | (show AOp _ _ ⟨_, .call ⟨.value _, _, _⟩, _, _, _, _⟩ _ _ _; first | refine B0 Y Y Y Y Y (by first | (apply Cg <;> (first | assumption | omega | exact Bf _ _ | exact Bo _ | exact Bk _ _ | exact Bs _ | rfl | (simp; omega))) | fail) ?_ | fail)
      | refine r_q hG Y Y Y ?_); try exact kk)
    | (show AL _ _ _ _ _ _ _ _; first | refine Bi Y Y Y ?_ | (refine As ?_; first | show AW _ _ _ _ _ _ | show ∃ x', _ < _ ∧ _)) | (show AW _ _ (.seq _ _) _ _ _; refine Ai ?_; intro Q1) | (show AW _ _ (.region _ _ false) _ _ _; refine Ad ?_; intro O1) | (show AW _ _ (.cond _ _ _) _ _ _; first | refine Am Y ?_ | refine Al Y ?_ | refine Bd Y (fun h => ?_) (fun h => ?_)) | (show AW _ _ (.skip) _ _ _; refine Aj ?_; first | show AW _ _ _ _ _ _ | show ∃ x', _ < _ ∧ _) | (show AW _ _ (.block _ _) _ _ _; refine Af ?_; intro Q1) | (show AW _ _ (.exit _) _ _ _; refine Ar ?_; first | show AW _ _ _ _ _ _ | show ∃ x', _ < _ ∧ _) | (show AW _ _ (.ret) _ _ _; refine At ?_; try dsimp only [Ay, Ab, A6, Ah])
    | (show DL _ _ _ _ _ _ _; refine Bu Y Y (fun K kt kf => Ao hG Y Y Y Y Y kt kf) (fun h => ?_) (fun h => ?_))
    | (show DL _ _ _ _ _ _ _; refine Bt Y Y Y ?_) | (show DL _ _ _ _ _ _ _; refine Be ?_; first | show AW _ _ _ _ _ _ | show ∃ x', _ < _ ∧ _) | (show AW _ _ (.region _ _ true) _ _ _; refine A1 mix (by kernel_rfl) ?_; intro O1) | fail)
        · rw [scanUp, if_pos (by simp [hpJ]; simpa using h)] at hr
          exact ⟨⟨p + 1, by omega, hr⟩, by dsimp only; omega, (by repeat (first | exact .nil _ | refine .cons rfl ?_)), .refl _⟩
        · rw [scanUp, if_neg (by simp [hpJ]; simpa using h)] at hr
          subst hr
          (refine Ar ?_; show _ ∧ Knows _ _ ∧ _; exact ⟨rfl, (by repeat (first | exact .nil _ | refine .cons rfl ?_)), rfl⟩)
      · rw [scanUp, if_neg (by simp [hpJ])] at hr
        subst hr
        repeat' (first
    | ((first | (show AL _ _ _ _ _ _ _ _; refine Ae Y ?_) | (show DL _ _ _ _ _ _ _; refine' A7 Y Y (fun K kk => ?_) ?_; try (show Go.Ts.T; rotate_left))); (first
      | refine Ap hG Y Y ?_
      | refine A3 hG Y Y ?_
      | (show AOp _ _ ⟨_, .binOp .add _ _ _ _, _, _, _, _⟩ _ _ _; first | refine Ac hG Y Y Y Y Y (by omega) ?_ | refine Ac (m := 1) hG Y Y Y Y Y (by omega) ?_ | refine Aa hG Y Y Y Y Y (by omega) ?_)
      | (show AOp _ _ ⟨_, .binOp .sub _ _ _ _, _, _, _, _⟩ _ _ _; first | refine Aq hG Y Y Y Y (by omega) ?_ | refine Aq (m := 1) hG Y Y Y Y (by omega) ?_ | refine Aa hG Y Y Y Y Y (by omega) ?_)
      | (show AOp _ _ ⟨_, .binOp _ _ _ _ _, _, _, _, _⟩ _ _ _; first | refine Au hG Y Y Y Y Y (by omega) ?_ | refine Av hG Y Y Y Y Y (by omega) ?_ | ((fail_if_success have := kk); refine Ao hG Y Y Y Y Y (fun h => ?_) (fun h => ?_)))
      | (show AOp _ _ ⟨_, .load _ _, _, _, _, _⟩ _ _ _; first | refine Ak (α := Nat) 0 hG Y Y Y Y (by omega) Y ?_ | refine Ax hG Y Y Y ?_ | refine A8 0 hG Y Y Y Y ?_)
      | (show AOp _ _ ⟨_, .indexAddr _ _ _, _, _, _, _⟩ _ _ _; first | refine A2 hG Y Y Y Y Y Y Y (by omega) ?_ | refine Aw hG Y Y Y Y Y Y Y (by omega) ?_ | refine Az hG Y Y Y Y Y Y Y (by omega) ?_ | refine A9 hG Y Y ?_)
      | refine Bc hG Y Y Y ?_
      | refine Bn hG Y Y Y ?_
      | (show AOp _ _ ⟨_, .store _ _ _, _, _, _, _⟩ _ _ _; first | refine A0 (α := Nat) 0 hG Y Y Y Ag Bb Y Y (by first | omega | (simp only [Array.size_setIfInBounds]; omega)) ?_ | refine Bh 0 hG Y Y Y Y Y Y Y ?_)
      | (show AOp _ _ ⟨_, .call ⟨.value _, _, _⟩, _, _, _, _⟩ _ _ _; first | refine B0 Y Y Y Y Y (by first | (apply Cg <;> (first | assumption | omega | exact Bf _ _ | exact Bo _ | exact Bk _ _ | exact Bs _ | rfl | (simp; omega))) | fail) ?_ | fail)
      | refine r_q hG Y Y Y ?_); try exact kk)
    | (show AL _ _ _ _ _ _ _ _; first | refine Bi Y Y Y ?_ | (refine As ?_; first | show AW _ _ _ _ _ _ | show ∃ x', _ < _ ∧ _)) | (show AW _ _ (.seq _ _) _ _ _; refine Ai ?_; intro Q1) | (show AW _ _ (.region _ _ false) _ _ _; refine Ad ?_; intro O1) | (show AW _ _ (.cond _ _ _) _ _ _; first | refine Am Y ?_ | refine Al Y ?_ | refine Bd Y (fun h => ?_) (fun h => ?_)) | (show AW _ _ (.skip) _ _ _; refine Aj ?_; first | show AW _ _ _ _ _ _ | show ∃ x', _ < _ ∧ _) | (show AW _ _ (.block _ _) _ _ _; refine Af ?_; intro Q1) | (show AW _ _ (.exit _) _ _ _; refine Ar ?_; first | show AW _ _ _ _ _ _ | show ∃ x', _ < _ ∧ _) | (show AW _ _ (.ret) _ _ _; refine At ?_; try dsimp only [Ay, Ab, A6, Ah])
    | (show DL _ _ _ _ _ _ _; refine Bu Y Y (fun K kt kf => Ao hG Y Y Y Y Y kt kf) (fun h => ?_) (fun h => ?_))
    | (show DL _ _ _ _ _ _ _; refine Bt Y Y Y ?_) | (show DL _ _ _ _ _ _ _; refine Be ?_; first | show AW _ _ _ _ _ _ | show ∃ x', _ < _ ∧ _) | (show AW _ _ (.region _ _ true) _ _ _; refine A1 mix (by kernel_rfl) ?_; intro O1) | fail)
        (refine Ar ?_; show _ ∧ Knows _ _ ∧ _; exact ⟨rfl, (by repeat (first | exact .nil _ | refine .cons rfl ?_)), rfl⟩)
    intro a' hk
    show AW _ _ _ _ _ _
    refine aw_forget hk ?_
    repeat' (first
    | ((first | (show AL _ _ _ _ _ _ _ _; refine Ae Y ?_) | (show DL _ _ _ _ _ _ _; refine' A7 Y Y (fun K kk => ?_) ?_; try (show Go.Ts.T; rotate_left))); (first
      | refine Ap hG Y Y ?_
      | refine A3 hG Y Y ?_
      | (show AOp _ _ ⟨_, .binOp .add _ _ _ _, _, _, _, _⟩ _ _ _; first | refine Ac hG Y Y Y Y Y (by omega) ?_ | refine Ac (m := 1) hG Y Y Y Y Y (by omega) ?_ | refine Aa hG Y Y Y Y Y (by omega) ?_)
      | (show AOp _ _ ⟨_, .binOp .sub _ _ _ _, _, _, _, _⟩ _ _ _; first | refine Aq hG Y Y Y Y (by omega) ?_ | refine Aq (m := 1) hG Y Y Y Y (by omega) ?_ | refine Aa hG Y Y Y Y Y (by omega) ?_)
      | (show AOp _ _ ⟨_, .binOp _ _ _ _ _, _, _, _, _⟩ _ _ _; first | refine Au hG Y Y Y Y Y (by omega) ?_ | refine Av hG Y Y Y Y Y (by omega) ?_ | ((fail_if_success have := kk); refine Ao hG Y Y Y Y Y (fun h => ?_) (fun h => ?_)))
      | (show AOp _ _ ⟨_, .load _ _, _, _, _, _⟩ _ _ _; first | refine Ak (α := Nat) 0 hG Y Y Y Y (by omega) Y ?_ | refine Ax hG Y Y Y ?_ | refine A8 0 hG Y Y Y Y ?_)
      | (show AOp _ _ ⟨_, .indexAddr _ _ _, _, _, _, _⟩ _ _ _; first | refine A2 hG Y Y Y Y Y Y Y (by omega) ?_ | refine Aw hG Y Y Y Y Y Y Y (by omega) ?_ | refine Az hG Y Y Y Y Y Y Y (by omega) ?_ | refine A9 hG Y Y ?_)
      | refine Bc hG Y Y Y ?_
      | refine Bn hG Y Y Y ?_
      | (show AOp _ _ ⟨_, .store _ _ _, _, _, _, _⟩ _ _ _; first | refine A0 (α := Nat) 0 hG Y Y Y Ag Bb Y Y (by first | omega | (simp only [Array.size_setIfInBounds]; omega)) ?_ | refine Bh 0 hG Y Y Y Y Y Y Y ?_)
      | refine r_q hG Y Y Y ?_); try exact kk)
    | (show AL _ _ _ _ _ _ _ _; first | refine Bi Y Y Y ?_ | (refine As ?_; first | show AW _ _ _ _ _ _ | show ∃ x', _ < _ ∧ _)) | (show AW _ _ (.seq _ _) _ _ _; refine Ai ?_; intro Q1) | (show AW _ _ (.region _ _ false) _ _ _; refine Ad ?_; intro O1) | (show AW _ _ (.cond _ _ _) _ _ _; first | refine Am Y ?_ | refine Al Y ?_ | refine Bd Y (fun h => ?_) (fun h => ?_)) | (show AW _ _ (.skip) _ _ _; refine Aj ?_; first | show AW _ _ _ _ _ _ | show ∃ x', _ < _ ∧ _) | (show AW _ _ (.block _ _) _ _ _; refine Af ?_; intro Q1) | (show AW _ _ (.exit _) _ _ _; refine Ar ?_; first | show AW _ _ _ _ _ _ | show ∃ x', _ < _ ∧ _) | (show AW _ _ (.ret) _ _ _; refine At ?_; try dsimp only [Ay, Ab, A6, Ah])
    | (show DL _ _ _ _ _ _ _; refine Bu Y Y (fun K kt kf => Ao hG Y Y Y Y Y kt kf) (fun h => ?_) (fun h => ?_))
    | (show DL _ _ _ _ _ _ _; refine Bt Y Y Y ?_) | (show DL _ _ _ _ _ _ _; refine Be ?_; first | show AW _ _ _ _ _ _ | show ∃ x', _ < _ ∧ _) | (show AW _ _ (.region _ _ true) _ _ _; refine A1 mix (by kernel_rfl) ?_; intro O1) | fail)
    refine aw_loop_to 8 (X := DnX (fun x => !ltQ x e[a]!) e I1 J1 j1) (fun x => [(0, .aref 1 i 0 n cap), (1, .int .i64 ((a : Nat) : Int)), (10, .int .i64 ((I1 : Nat) : Int)), (11, .int .i64 ((x.p : Nat) : Int))]) (fun _ => ⟨[(i, .cells (rowT mT e))], [], off, none⟩) (fun x => x.p) ⟨j1, by omega, hJ1⟩ (by repeat (first | exact .nil _ | refine .cons rfl ?_)) (.refl _) [(0, .aref 1 i 0 n cap), (1, .int .i64 ((a : Nat) : Int)), (10, .int .i64 ((I1 : Nat) : Int)), (11, .int .i64 ((J1 : Nat) : Int))] (⟨[(i, .cells (rowT mT e))], [], off, none⟩) ?_ ?_
    · rintro ⟨p, hp, hr⟩
      dsimp only at hr ⊢
      by_cases hpJ : I1 ≤ p
      · obtain ⟨m, rfl⟩ : ∃ m, p = m + 1 := ⟨p - 1, by omega⟩
        repeat' (first
    | ((first | (show AL _ _ _ _ _ _ _ _; refine Ae Y ?_) | (show DL _ _ _ _ _ _ _; refine' A7 Y Y (fun K kk => ?_) ?_; try (show Go.Ts.T; rotate_left))); (first
      | refine Ap hG Y Y ?_
      | refine A3 hG Y Y ?_
      | (show AOp _ _ ⟨_, .binOp .add _ _ _ _, _, _, _, _⟩ _ _ _; first | refine Ac hG Y Y Y Y Y (by omega) ?_ | refine Ac (m := 1) hG Y Y Y Y Y (by omega) ?_ | refine Aa hG Y Y Y Y Y (by omega) ?_)
      | (show AOp _ _ ⟨_, .binOp .sub _ _ _ _, _, _, _, _⟩ _ _ _; first | refine Aq hG Y Y Y Y (by omega) ?_ | refine Aq (m := 1) hG Y Y Y Y (by omega) ?_ | refine Aa hG Y Y Y Y Y (by omega) ?_)
      | (show AOp _ _ ⟨_, .binOp _ _ _ _ _, _, _, _, _⟩ _ _ _; first | refine Au hG Y Y Y Y Y (by omega) ?_ | refine Av hG Y Y Y Y Y (by omega) ?_ | ((fail_if_success have := kk); refine Ao hG Y Y Y Y Y (fun h => ?_) (fun h => ?_)))
      | (show AOp _ _ ⟨_, .load _ _, _, _, _, _⟩ _ _ _; first | refine Ak (α := Nat) 0 hG Y Y Y Y (by omega) Y ?_ | refine Ax hG Y Y Y ?_ | refine A8 0 hG Y Y Y Y ?_)
      | (show AOp _ _ ⟨_, .indexAddr _ _ _, _, _, _, _⟩ _ _ _; first | refine A2 hG Y Y Y Y Y Y Y (by omega) ?_ | refine Aw hG Y Y Y Y Y Y Y (by omega) ?_ | refine Az hG Y Y Y Y Y Y Y (by omega) ?_ | refine A9 hG Y Y ?_)
      | refine Bc hG Y Y Y ?_
      | refine Bn hG Y Y Y ?_
      | (show AOp _ _ ⟨_, .store _ _ _, _, _, _, _⟩ _ _ _; first | refine A0 (α := Nat) 0 hG Y Y Y Ag Bb Y Y (by first | omega | (simp only [Array.size_setIfInBounds]; omega)) ?_ | refine Bh 0 hG Y Y Y Y Y Y Y ?_)
      | (show AOp _ _ ⟨_, .call ⟨.value _, _, _⟩, _, _, _, _⟩ _ _ _; first | refine B0 Y Y Y Y Y (by first | (apply Cg <;> (first | assumption | omega | exact Bf _ _ | exact Bo _ | exact Bk _ _ | exact Bs _ | rfl | (simp; omega))) | fail) ?_ | fail)
      | refine r_q hG Y Y Y ?_); try exact kk)
    | (show AL _ _ _ _ _ _ _ _; first | refine Bi Y Y Y ?_ | (refine As ?_; first | show AW _ _ _ _ _ _ | show ∃ x', _ < _ ∧ _)) | (show AW _ _ (.seq _ _) _ _ _; refine Ai ?_; intro Q1) | (show AW _ _ (.region _ _ false) _ _ _; refine Ad ?_; intro O1) | (show AW _ _ (.cond _ _ _) _ _ _; first | refine Am Y ?_ | refine Al Y ?_ | refine Bd Y (fun h => ?_) (fun h => ?_)) | (show AW _ _ (.skip) _ _ _; refine Aj ?_; first | show AW _ _ _ _ _ _ | show ∃ x', _ < _ ∧ _) | (show AW _ _ (.block _ _) _ _ _; refine Af ?_; intro Q1) | (show AW _ _ (.exit _) _ _ _; refine Ar ?_; first | show AW _ _ _ _ _ _ | show ∃ x', _ < _ ∧ _) | (show AW _ _ (.ret) _ _ _; refine At ?_; try dsimp only [Ay, Ab, A6, Ah])
    | (show DL _ _ _ _ _ _ _; refine Bu Y Y (fun K kt kf => Ao hG Y Y Y Y Y kt kf) (fun h => ?_) (fun h => ?_))
    | (show DL _ _ _ _ _ _ _; refine Bt Y Y Y ?_) | (show DL _ _ _ _ _ _ _; refine Be ?_; first | show AW _ _ _ _ _ _ | show ∃ x', _ < _ ∧ _) | (show AW _ _ (.region _ _ true) _ _ _; refine A1 mix (by kernel_rfl) ?_; intro O1) | fail)
        · rw [scanDown, if_pos (by simp [hpJ]; simpa using h)] at hr
          exact ⟨⟨m, by omega, hr⟩, by dsimp only; omega, (by repeat (first | exact .nil _ | refine .cons rfl ?_)), .refl _⟩
        · rw [scanDown, if_neg (by simp [hpJ]; simpa using h)] at hr
          subst hr
          (refine Ar ?_; show _ ∧ Knows _ _ ∧ _; exact ⟨rfl, (by repeat (first | exact .nil _ | refine .cons rfl ?_)), rfl⟩)
      · have hr2 : p = J1 := by
          rw [← hr]
          cases p with
          | zero => rfl
          | succ m => rw [scanDown, if_neg (by simp; omega)]
        subst hr2
        repeat' (first
    | ((first | (show AL _ _ _ _ _ _ _ _; refine Ae Y ?_) | (show DL _ _ _ _ _ _ _; refine' A7 Y Y (fun K kk => ?_) ?_; try (show Go.Ts.T; rotate_left))); (first
      | refine Ap hG Y Y ?_
      | refine A3 hG Y Y ?_
      | (show AOp _ _ ⟨_, .binOp .add _ _ _ _, _, _, _, _⟩ _ _ _; first | refine Ac hG Y Y Y Y Y (by omega) ?_ | refine Ac (m := 1) hG Y Y Y Y Y (by omega) ?_ | refine Aa hG Y Y Y Y Y (by omega) ?_)
      | (show AOp _ _ ⟨_, .binOp .sub _ _ _ _, _, _, _, _⟩ _ _ _; first | refine Aq hG Y Y Y Y (by omega) ?_ | refine Aq (m := 1) hG Y Y Y Y (by omega) ?_ | refine Aa hG Y Y Y Y Y (by omega) ?_)
      | (show AOp _ _ ⟨_, .binOp _ _ _ _ _, _, _, _, _⟩ _ _ _; first | refine Au hG Y Y Y Y Y (by omega) ?_ | refine Av hG Y Y Y Y Y (by omega) ?_ | ((fail_if_success have := kk); refine Ao hG Y Y Y Y Y (fun h => ?_) (fun h => ?_)))
      | (show AOp _ _ ⟨_, .load _ _, _, _, _, _⟩ _ _ _; first | refine Ak (α := Nat) 0 hG Y Y Y Y (by omega) Y ?_ | refine Ax hG Y Y Y ?_ | refine A8 0 hG Y Y Y Y ?_)
      | (show AOp _ _ ⟨_, .indexAddr _ _ _, _, _, _, _⟩ _ _ _; first | refine A2 hG Y Y Y Y Y Y Y (by omega) ?_ | refine Aw hG Y Y Y Y Y Y Y (by omega) ?_ | refine Az hG Y Y Y Y Y Y Y (by omega) ?_ | refine A9 hG Y Y ?_)
      | refine Bc hG Y Y Y ?_
      | refine Bn hG Y Y Y ?_
      | (show AOp _ _ ⟨_, .store _ _ _, _, _, _, _⟩ _ _ _; first | refine A0 (α := Nat) 0 hG Y Y Y Ag Bb Y Y (by first | omega | (simp only [Array.size_setIfInBounds]; omega)) ?_ | refine Bh 0 hG Y Y Y Y Y Y Y ?_)
      | (show AOp _ _ ⟨_, .call ⟨.value _, _, _⟩, _, _, _, _⟩ _ _ _; first | refine B0 Y Y Y Y Y (by first | (apply Cg <;> (first | assumption | omega | exact Bf _ _ | exact Bo _ | exact Bk _ _ | exact Bs _ | rfl | (simp; omega))) | fail) ?_ | fail)
      | refine r_q hG Y Y Y ?_); try exact kk)
    | (show AL _ _ _ _ _ _ _ _; first | refine Bi Y Y Y ?_ | (refine As ?_; first | show AW _ _ _ _ _ _ | show ∃ x', _ < _ ∧ _)) | (show AW _ _ (.seq _ _) _ _ _; refine Ai ?_; intro Q1) | (show AW _ _ (.region _ _ false) _ _ _; refine Ad ?_; intro O1) | (show AW _ _ (.cond _ _ _) _ _ _; first | refine Am Y ?_ | refine Al Y ?_ | refine Bd Y (fun h => ?_) (fun h => ?_)) | (show AW _ _ (.skip) _ _ _; refine Aj ?_; first | show AW _ _ _ _ _ _ | show ∃ x', _ < _ ∧ _) | (show AW _ _ (.block _ _) _ _ _; refine Af ?_; intro Q1) | (show AW _ _ (.exit _) _ _ _; refine Ar ?_; first | show AW _ _ _ _ _ _ | show ∃ x', _ < _ ∧ _) | (show AW _ _ (.ret) _ _ _; refine At ?_; try dsimp only [Ay, Ab, A6, Ah])
    | (show DL _ _ _ _ _ _ _; refine Bu Y Y (fun K kt kf => Ao hG Y Y Y Y Y kt kf) (fun h => ?_) (fun h => ?_))
    | (show DL _ _ _ _ _ _ _; refine Bt Y Y Y ?_) | (show DL _ _ _ _ _ _ _; refine Be ?_; first | show AW _ _ _ _ _ _ | show ∃ x', _ < _ ∧ _) | (show AW _ _ (.region _ _ true) _ _ _; refine A1 mix (by kernel_rfl) ?_; intro O1) | fail)
        (refine Ar ?_; show _ ∧ Knows _ _ ∧ _; exact ⟨rfl, (by repeat (first | exact .nil _ | refine .cons rfl ?_)), rfl⟩)
    intro a' hk
    show AW _ _ _ _ _ _
    refine aw_forget hk ?_
    rw [hI1, hJ1] at hr
    by_cases hIJ : I1 > J1
    · rw [if_pos hIJ] at hr
      subst hr
      repeat' (first
    | ((first | (show AL _ _ _ _ _ _ _ _; refine Ae Y ?_) | (show DL _ _ _ _ _ _ _; refine' A7 Y Y (fun K kk => ?_) ?_; try (show Go.Ts.T; rotate_left))); (first
      | refine Ap hG Y Y ?_
      | refine A3 hG Y Y ?_
      | (show AOp _ _ ⟨_, .binOp .add _ _ _ _, _, _, _, _⟩ _ _ _; first | refine Ac hG Y Y Y Y Y (by omega) ?_ | refine Ac (m := 1) hG Y Y Y Y Y (by omega) ?_ | refine Aa hG Y Y Y Y Y (by omega) ?_)
      | (show AOp _ _ ⟨_, .binOp .sub _ _ _ _, _, _, _, _⟩ _ _ _; first | refine Aq hG Y Y Y Y (by omega) ?_ | refine Aq (m := 1) hG Y Y Y Y (by omega) ?_ | refine Aa hG Y Y Y Y Y (by omega) ?_)
      | (show AOp _ _ ⟨_, .binOp _ _ _ _ _, _, _, _, _⟩ _ _ _; first | refine Au hG Y Y Y Y Y (by omega) ?_ | refine Av hG Y Y Y Y Y (by omega) ?_ | ((fail_if_success have := kk); refine Ao hG Y Y Y Y Y (fun h => ?_) (fun h => ?_)))
      | (show AOp _ _ ⟨_, .load _ _, _, _, _, _⟩ _ _ _; first | refine Ak (α := Nat) 0 hG Y Y Y Y (by omega) Y ?_ | refine Ax hG Y Y Y ?_ | refine A8 0 hG Y Y Y Y ?_)
      | (show AOp _ _ ⟨_, .indexAddr _ _ _, _, _, _, _⟩ _ _ _; first | refine A2 hG Y Y Y Y Y Y Y (by omega) ?_ | refine Aw hG Y Y Y Y Y Y Y (by omega) ?_ | refine Az hG Y Y Y Y Y Y Y (by omega) ?_ | refine A9 hG Y Y ?_)
      | refine Bc hG Y Y Y ?_
      | refine Bn hG Y Y Y ?_
      | (show AOp _ _ ⟨_, .store _ _ _, _, _, _, _⟩ _ _ _; first | refine A0 (α := Nat) 0 hG Y Y Y Ag Bb Y Y (by first | omega | (simp only [Array.size_setIfInBounds]; omega)) ?_ | refine Bh 0 hG Y Y Y Y Y Y Y ?_)
      | refine r_q hG Y Y Y ?_); try exact kk)
    | (show AL _ _ _ _ _ _ _ _; first | refine Bi Y Y Y ?_ | (refine As ?_; first | show AW _ _ _ _ _ _ | show ∃ x', _ < _ ∧ _)) | (show AW _ _ (.seq _ _) _ _ _; refine Ai ?_; intro Q1) | (show AW _ _ (.region _ _ false) _ _ _; (fail_if_success show AW _ _ (.region 21 _ _) _ _ _); refine Ad ?_; intro O1) | (show AW _ _ (.cond _ _ _) _ _ _; first | refine Am Y ?_ | refine Al Y ?_ | refine Bd Y (fun h => ?_) (fun h => ?_)) | (show AW _ _ (.skip) _ _ _; refine Aj ?_; first | show AW _ _ _ _ _ _ | show ∃ x', _ < _ ∧ _) | (show AW _ _ (.block _ _) _ _ _; refine Af ?_; intro Q1) | (show AW _ _ (.exit _) _ _ _; refine Ar ?_; first | show AW _ _ _ _ _ _ | show ∃ x', _ < _ ∧ _) | (show AW _ _ (.ret) _ _ _; refine At ?_; try dsimp only [Ay, Ab, A6, Ah])
    | (show DL _ _ _ _ _ _ _; refine Bu Y Y (fun K kt kf => Ao hG Y Y Y Y Y kt kf) (fun h => ?_) (fun h => ?_))
    | (show DL _ _ _ _ _ _ _; refine Bt Y Y Y ?_) | (show DL _ _ _ _ _ _ _; refine Be ?_; first | show AW _ _ _ _ _ _ | show ∃ x', _ < _ ∧ _) | (show AW _ _ (.region _ _ true) _ _ _; (fail_if_success show AW _ _ (.region 21 _ _) _ _ _); refine A1 mix (by kernel_rfl) ?_; intro O1) | fail)
      refine Ce (m := 14) [13] [7, 11] (fun σ => ∃ c : Array Nat, c.size = n ∧ σ = ⟨[(i, .cells (rowT mT c))], [], off, none⟩) mix Y Y (by repeat (first | exact Sp.zero _ | apply Sp.succ)) ?_; intro O1 F1 Z1 Q2; repeat' (first
    | (refine' dq0_cons Y Y Y Y (fun σ hσ K kk => ?_) ?_; (try (show Go.Ts.T; rotate_left)); (obtain ⟨c, hcn, hcs⟩ := hσ; subst hcs); (first
      | refine Ap hG Y Y ?_
      | refine A3 hG Y Y ?_
      | (show AOp _ _ ⟨_, .binOp .add _ _ _ _, _, _, _, _⟩ _ _ _; first | refine Ac hG Y Y Y Y Y (by omega) ?_ | refine Ac (m := 1) hG Y Y Y Y Y (by omega) ?_ | refine Aa hG Y Y Y Y Y (by omega) ?_)
      | (show AOp _ _ ⟨_, .binOp .sub _ _ _ _, _, _, _, _⟩ _ _ _; first | refine Aq hG Y Y Y Y (by omega) ?_ | refine Aq (m := 1) hG Y Y Y Y (by omega) ?_ | refine r_subU (m := 1) hG Y Y Y Y (by omega) ?_ | refine Aa hG Y Y Y Y Y (by omega) ?_)
      | (show AOp _ _ ⟨_, .binOp _ _ _ _ _, _, _, _, _⟩ _ _ _; first | refine Au hG Y Y Y Y Y (by omega) ?_ | refine Av hG Y Y Y Y Y (by omega) ?_)
      | (show AOp _ _ ⟨_, .load _ _, _, _, _, _⟩ _ _ _; first | refine Ak (α := Nat) 0 hG Y Y Y Y (by omega) Y ?_ | refine Ak (α := Nat) 1 hG Y Y Y Y (by omega) Y ?_ | refine Ax hG Y Y Y ?_ | refine A8 0 hG Y Y Y Y ?_)
      | (show AOp _ _ ⟨_, .indexAddr _ _ _, _, _, _, _⟩ _ _ _; first | refine A2 hG Y Y Y Y Y Y Y (by omega) ?_ | refine Aw hG Y Y Y Y Y Y Y (by omega) ?_ | refine Az hG Y Y Y Y Y Y Y (by omega) ?_ | refine A9 hG Y Y ?_)
      | refine Bc hG Y Y Y ?_
      | refine Bn hG Y Y Y ?_
      | (show AOp _ _ ⟨_, .store _ _ _, _, _, _, _⟩ _ _ _; first | refine A0 (α := Nat) 0 hG Y Y Y Ag Bb Y Y (by first | omega | (simp only [Array.size_setIfInBounds]; omega)) ?_ | refine A0 (α := Nat) 1 hG Y Y Y Ag Bb Y Y (by first | omega | (simp only [Array.size_setIfInBounds]; omega)) ?_ | refine Bh 0 hG Y Y Y Y Y Y Y ?_)
      | refine r_q hG Y Y Y ?_); exact kk)
    | (refine' Cf Y Y Y Y (fun K kk => ?_) ?_; (try (show Go.Ts.T; rotate_left)); (first | refine Ak 0 hG Y Y Y Y (by omega) Y ?_ | refine Ak 1 hG Y Y Y Y (by omega) Y ?_); exact kk)
    | refine dq0_e Y ?_ | (refine dq0_nil ?_; show EL _ _ _ _ _ _ _ _ _)
    | (refine el_consN ⟨_, (by first | assumption | (simp only [Array.size_setIfInBounds]; omega)), Y⟩ Y Y Y (fun K ke => ?_); (first | refine A0 (α := Nat) 0 hG Y Y Y Ag Bb Y Y (by first | omega | (simp only [Array.size_setIfInBounds]; omega)) ?_ | refine A0 (α := Nat) 1 hG Y Y Y Ag Bb Y Y (by first | omega | (simp only [Array.size_setIfInBounds]; omega)) ?_); refine ke (.tup []) _ ?_)
    | (refine el_nil ⟨_, (by first | assumption | (simp only [Array.size_setIfInBounds]; omega)), Y⟩ ?_; show AL _ _ _ _ _ _ _ _) | fail)
      repeat' (first
    | ((first | (show AL _ _ _ _ _ _ _ _; refine Ae Y ?_) | (show DL _ _ _ _ _ _ _; refine' A7 Y Y (fun K kk => ?_) ?_; try (show Go.Ts.T; rotate_left))); (first
      | refine Ap hG Y Y ?_
      | refine A3 hG Y Y ?_
      | (show AOp _ _ ⟨_, .binOp .add _ _ _ _, _, _, _, _⟩ _ _ _; first | refine Ac hG Y Y Y Y Y (by omega) ?_ | refine Ac (m := 1) hG Y Y Y Y Y (by omega) ?_ | refine Aa hG Y Y Y Y Y (by omega) ?_)
      | (show AOp _ _ ⟨_, .binOp .sub _ _ _ _, _, _, _, _⟩ _ _ _; first | refine Aq hG Y Y Y Y (by omega) ?_ | refine Aq (m := 1) hG Y Y Y Y (by omega) ?_ | refine Aa hG Y Y Y Y Y (by omega) ?_)
      | (show AOp _ _ ⟨_, .binOp _ _ _ _ _, _, _, _, _⟩ _ _ _; first | refine Au hG Y Y Y Y Y (by omega) ?_ | refine Av hG Y Y Y Y Y (by omega) ?_ | ((fail_if_success have := kk); refine Ao hG Y Y Y Y Y (fun h => ?_) (fun h => ?_)))
      | (show AOp _ _ ⟨_, .load _ _, _, _, _, _⟩ _ _ _; first | refine Ak (α := Nat) 0 hG Y Y Y Y (by omega) Y ?_ | refine Ax hG Y Y Y ?_ | refine A8 0 hG Y Y Y Y ?_)
      | (show AOp _ _ ⟨_, .indexAddr _ _ _, _, _, _, _⟩ _ _ _; first | refine A2 hG Y Y Y Y Y Y Y (by omega) ?_ | refine Aw hG Y Y Y Y Y Y Y (by omega) ?_ | refine Az hG Y Y Y Y Y Y Y (by omega) ?_ | refine A9 hG Y Y ?_)
      | refine Bc hG Y Y Y ?_
      | refine Bn hG Y Y Y ?_
      | (show AOp _ _ ⟨_, .store _ _ _, _, _, _, _⟩ _ _ _; first | refine A0 (α := Nat) 0 hG Y Y Y Ag Bb Y Y (by first | omega | (simp only [Array.size_setIfInBounds]; omega)) ?_ | refine Bh 0 hG Y Y Y Y Y Y Y ?_)
      | refine r_q hG Y Y Y ?_); try exact kk)
    | (show AL _ _ _ _ _ _ _ _; first | refine Bi Y Y Y ?_ | (refine As ?_; first | show AW _ _ _ _ _ _ | show ∃ x', _ < _ ∧ _)) | (show AW _ _ (.seq _ _) _ _ _; refine Ai ?_; intro Q1) | (show AW _ _ (.region _ _ false) _ _ _; refine Ad ?_; intro O1) | (show AW _ _ (.cond _ _ _) _ _ _; first | refine Am Y ?_ | refine Al Y ?_ | refine Bd Y (fun h => ?_) (fun h => ?_)) | (show AW _ _ (.skip) _ _ _; refine Aj ?_; first | show AW _ _ _ _ _ _ | show ∃ x', _ < _ ∧ _) | (show AW _ _ (.block _ _) _ _ _; refine Af ?_; intro Q1) | (show AW _ _ (.exit _) _ _ _; refine Ar ?_; first | show AW _ _ _ _ _ _ | show ∃ x', _ < _ ∧ _) | (show AW _ _ (.ret) _ _ _; refine At ?_; try dsimp only [Ay, Ab, A6, Ah])
    | (show DL _ _ _ _ _ _ _; refine Bu Y Y (fun K kt kf => Ao hG Y Y Y Y Y kt kf) (fun h => ?_) (fun h => ?_))
    | (show DL _ _ _ _ _ _ _; refine Bt Y Y Y ?_) | (show DL _ _ _ _ _ _ _; refine Be ?_; first | show AW _ _ _ _ _ _ | show ∃ x', _ < _ ∧ _) | (show AW _ _ (.region _ _ true) _ _ _; refine A1 mix (by kernel_rfl) ?_; intro O1) | fail)
      try dsimp (config := { zetaDelta := true }) only [Ay, Ab]
      rw [hp]
      refine ret_row 0 (Bq rfl (Bq rfl Bl)) ?_ (.refl _) ?_ <;> rfl
    · rw [if_neg hIJ] at hr
      repeat' (first
    | ((first | (show AL _ _ _ _ _ _ _ _; refine Ae Y ?_) | (show DL _ _ _ _ _ _ _; refine' A7 Y Y (fun K kk => ?_) ?_; try (show Go.Ts.T; rotate_left))); (first
      | refine Ap hG Y Y ?_
      | refine A3 hG Y Y ?_
      | (show AOp _ _ ⟨_, .binOp .add _ _ _ _, _, _, _, _⟩ _ _ _; first | refine Ac hG Y Y Y Y Y (by omega) ?_ | refine Ac (m := 1) hG Y Y Y Y Y (by omega) ?_ | refine Aa hG Y Y Y Y Y (by omega) ?_)
      | (show AOp _ _ ⟨_, .binOp .sub _ _ _ _, _, _, _, _⟩ _ _ _; first | refine Aq hG Y Y Y Y (by omega) ?_ | refine Aq (m := 1) hG Y Y Y Y (by omega) ?_ | refine Aa hG Y Y Y Y Y (by omega) ?_)
      | (show AOp _ _ ⟨_, .binOp _ _ _ _ _, _, _, _, _⟩ _ _ _; first | refine Au hG Y Y Y Y Y (by omega) ?_ | refine Av hG Y Y Y Y Y (by omega) ?_ | ((fail_if_success have := kk); refine Ao hG Y Y Y Y Y (fun h => ?_) (fun h => ?_)))
      | (show AOp _ _ ⟨_, .load _ _, _, _, _, _⟩ _ _ _; first | refine Ak (α := Nat) 0 hG Y Y Y Y (by omega) Y ?_ | refine Ax hG Y Y Y ?_ | refine A8 0 hG Y Y Y Y ?_)
      | (show AOp _ _ ⟨_, .indexAddr _ _ _, _, _, _, _⟩ _ _ _; first | refine A2 hG Y Y Y Y Y Y Y (by omega) ?_ | refine Aw hG Y Y Y Y Y Y Y (by omega) ?_ | refine Az hG Y Y Y Y Y Y Y (by omega) ?_ | refine A9 hG Y Y ?_)
      | refine Bc hG Y Y Y ?_
      | refine Bn hG Y Y Y ?_
      | (show AOp _ _ ⟨_, .store _ _ _, _, _, _, _⟩ _ _ _; first | refine A0 (α := Nat) 0 hG Y Y Y Ag Bb Y Y (by first | omega | (simp only [Array.size_setIfInBounds]; omega)) ?_ | refine Bh 0 hG Y Y Y Y Y Y Y ?_)
      | refine r_q hG Y Y Y ?_); try exact kk)
    | (show AL _ _ _ _ _ _ _ _; first | refine Bi Y Y Y ?_ | (refine As ?_; first | show AW _ _ _ _ _ _ | show ∃ x', _ < _ ∧ _)) | (show AW _ _ (.seq _ _) _ _ _; refine Ai ?_; intro Q1) | (show AW _ _ (.region _ _ false) _ _ _; (fail_if_success show AW _ _ (.region 18 _ _) _ _ _); refine Ad ?_; intro O1) | (show AW _ _ (.cond _ _ _) _ _ _; first | refine Am Y ?_ | refine Al Y ?_ | refine Bd Y (fun h => ?_) (fun h => ?_)) | (show AW _ _ (.skip) _ _ _; refine Aj ?_; first | show AW _ _ _ _ _ _ | show ∃ x', _ < _ ∧ _) | (show AW _ _ (.block _ _) _ _ _; refine Af ?_; intro Q1) | (show AW _ _ (.exit _) _ _ _; refine Ar ?_; first | show AW _ _ _ _ _ _ | show ∃ x', _ < _ ∧ _) | (show AW _ _ (.ret) _ _ _; refine At ?_; try dsimp only [Ay, Ab, A6, Ah])
    | (show DL _ _ _ _ _ _ _; refine Bu Y Y (fun K kt kf => Ao hG Y Y Y Y Y kt kf) (fun h => ?_) (fun h => ?_))
    | (show DL _ _ _ _ _ _ _; refine Bt Y Y Y ?_) | (show DL _ _ _ _ _ _ _; refine Be ?_; first | show AW _ _ _ _ _ _ | show ∃ x', _ < _ ∧ _) | (show AW _ _ (.region _ _ true) _ _ _; (fail_if_success show AW _ _ (.region 18 _ _) _ _ _); refine A1 mix (by kernel_rfl) ?_; intro O1) | fail)
      refine Ce (m := 14) [13] [7, 11] (fun σ => ∃ c : Array Nat, c.size = n ∧ σ = ⟨[(i, .cells (rowT mT c))], [], off, none⟩) mix Y Y (by repeat (first | exact Sp.zero _ | apply Sp.succ)) ?_; intro O1 F1 Z1 Q2; repeat' (first
    | (refine' dq0_cons Y Y Y Y (fun σ hσ K kk => ?_) ?_; (try (show Go.Ts.T; rotate_left)); (obtain ⟨c, hcn, hcs⟩ := hσ; subst hcs); (first
      | refine Ap hG Y Y ?_
      | refine A3 hG Y Y ?_
      | (show AOp _ _ ⟨_, .binOp .add _ _ _ _, _, _, _, _⟩ _ _ _; first | refine Ac hG Y Y Y Y Y (by omega) ?_ | refine Ac (m := 1) hG Y Y Y Y Y (by omega) ?_ | refine Aa hG Y Y Y Y Y (by omega) ?_)
      | (show AOp _ _ ⟨_, .binOp .sub _ _ _ _, _, _, _, _⟩ _ _ _; first | refine Aq hG Y Y Y Y (by omega) ?_ | refine Aq (m := 1) hG Y Y Y Y (by omega) ?_ | refine r_subU (m := 1) hG Y Y Y Y (by omega) ?_ | refine Aa hG Y Y Y Y Y (by omega) ?_)
      | (show AOp _ _ ⟨_, .binOp _ _ _ _ _, _, _, _, _⟩ _ _ _; first | refine Au hG Y Y Y Y Y (by omega) ?_ | refine Av hG Y Y Y Y Y (by omega) ?_)
      | (show AOp _ _ ⟨_, .load _ _, _, _, _, _⟩ _ _ _; first | refine Ak (α := Nat) 0 hG Y Y Y Y (by omega) Y ?_ | refine Ak (α := Nat) 1 hG Y Y Y Y (by omega) Y ?_ | refine Ax hG Y Y Y ?_ | refine A8 0 hG Y Y Y Y ?_)
      | (show AOp _ _ ⟨_, .indexAddr _ _ _, _, _, _, _⟩ _ _ _; first | refine A2 hG Y Y Y Y Y Y Y (by omega) ?_ | refine Aw hG Y Y Y Y Y Y Y (by omega) ?_ | refine Az hG Y Y Y Y Y Y Y (by omega) ?_ | refine A9 hG Y Y ?_)
      | refine Bc hG Y Y Y ?_
      | refine Bn hG Y Y Y ?_
      | (show AOp _ _ ⟨_, .store _ _ _, _, _, _, _⟩ _ _ _; first | refine A0 (α := Nat) 0 hG Y Y Y Ag Bb Y Y (by first | omega | (simp only [Array.size_setIfInBounds]; omega)) ?_ | refine A0 (α := Nat) 1 hG Y Y Y Ag Bb Y Y (by first | omega | (simp only [Array.size_setIfInBounds]; omega)) ?_ | refine Bh 0 hG Y Y Y Y Y Y Y ?_)
      | refine r_q hG Y Y Y ?_); exact kk)
    | (refine' Cf Y Y Y Y (fun K kk => ?_) ?_; (try (show Go.Ts.T; rotate_left)); (first | refine Ak 0 hG Y Y Y Y (by omega) Y ?_ | refine Ak 1 hG Y Y Y Y (by omega) Y ?_); exact kk)
    | refine dq0_e Y ?_ | (refine dq0_nil ?_; show EL _ _ _ _ _ _ _ _ _)
    | (refine el_consN ⟨_, (by first | assumption | (simp only [Array.size_setIfInBounds]; omega)), Y⟩ Y Y Y (fun K ke => ?_); (first | refine A0 (α := Nat) 0 hG Y Y Y Ag Bb Y Y (by first | omega | (simp only [Array.size_setIfInBounds]; omega)) ?_ | refine A0 (α := Nat) 1 hG Y Y Y Ag Bb Y Y (by first | omega | (simp only [Array.size_setIfInBounds]; omega)) ?_); refine ke (.tup []) _ ?_)
    | (refine el_nil ⟨_, (by first | assumption | (simp only [Array.size_setIfInBounds]; omega)), Y⟩ ?_; show AL _ _ _ _ _ _ _ _) | fail)
      repeat' (first
    | ((first | (show AL _ _ _ _ _ _ _ _; refine Ae Y ?_) | (show DL _ _ _ _ _ _ _; refine' A7 Y Y (fun K kk => ?_) ?_; try (show Go.Ts.T; rotate_left))); (first
      | refine Ap hG Y Y ?_
      | refine A3 hG Y Y ?_
      | (show AOp _ _ ⟨_, .binOp .add _ _ _ _, _, _, _, _⟩ _ _ _; first | refine Ac hG Y Y Y Y Y (by omega) ?_ | refine Ac (m := 1) hG Y Y Y Y Y (by omega) ?_ | refine Aa hG Y Y Y Y Y (by omega) ?_)
      | (show AOp _ _ ⟨_, .binOp .sub _ _ _ _, _, _, _, _⟩ _ _ _; first | refine Aq hG Y Y Y Y (by omega) ?_ | refine Aq (m := 1) hG Y Y Y Y (by omega) ?_ | refine Aa hG Y Y Y Y Y (by omega) ?_)
      | (show AOp _ _ ⟨_, .binOp _ _ _ _ _, _, _, _, _⟩ _ _ _; first | refine Au hG Y Y Y Y Y (by omega) ?_ | refine Av hG Y Y Y Y Y (by omega) ?_ | ((fail_if_success have := kk); refine Ao hG Y Y Y Y Y (fun h => ?_) (fun h => ?_)))
      | (show AOp _ _ ⟨_, .load _ _, _, _, _, _⟩ _ _ _; first | refine Ak (α := Nat) 0 hG Y Y Y Y (by omega) Y ?_ | refine Ax hG Y Y Y ?_ | refine A8 0 hG Y Y Y Y ?_)
      | (show AOp _ _ ⟨_, .indexAddr _ _ _, _, _, _, _⟩ _ _ _; first | refine A2 hG Y Y Y Y Y Y Y (by omega) ?_ | refine Aw hG Y Y Y Y Y Y Y (by omega) ?_ | refine Az hG Y Y Y Y Y Y Y (by omega) ?_ | refine A9 hG Y Y ?_)
      | refine Bc hG Y Y Y ?_
      | refine Bn hG Y Y Y ?_
      | (show AOp _ _ ⟨_, .store _ _ _, _, _, _, _⟩ _ _ _; first | refine A0 (α := Nat) 0 hG Y Y Y Ag Bb Y Y (by first | omega | (simp only [Array.size_setIfInBounds]; omega)) ?_ | refine Bh 0 hG Y Y Y Y Y Y Y ?_)
      | refine r_q hG Y Y Y ?_); try exact kk)
    | (show AL _ _ _ _ _ _ _ _; first | refine Bi Y Y Y ?_ | (refine As ?_; first | show AW _ _ _ _ _ _ | show ∃ x', _ < _ ∧ _)) | (show AW _ _ (.seq _ _) _ _ _; refine Ai ?_; intro Q1) | (show AW _ _ (.region _ _ false) _ _ _; refine Ad ?_; intro O1) | (show AW _ _ (.cond _ _ _) _ _ _; first | refine Am Y ?_ | refine Al Y ?_ | refine Bd Y (fun h => ?_) (fun h => ?_)) | (show AW _ _ (.skip) _ _ _; refine Aj ?_; first | show AW _ _ _ _ _ _ | show ∃ x', _ < _ ∧ _) | (show AW _ _ (.block _ _) _ _ _; refine Af ?_; intro Q1) | (show AW _ _ (.exit _) _ _ _; refine Ar ?_; first | show AW _ _ _ _ _ _ | show ∃ x', _ < _ ∧ _) | (show AW _ _ (.ret) _ _ _; refine At ?_; try dsimp only [Ay, Ab, A6, Ah])
    | (show DL _ _ _ _ _ _ _; refine Bu Y Y (fun K kt kf => Ao hG Y Y Y Y Y kt kf) (fun h => ?_) (fun h => ?_))
    | (show DL _ _ _ _ _ _ _; refine Bt Y Y Y ?_) | (show DL _ _ _ _ _ _ _; refine Be ?_; first | show AW _ _ _ _ _ _ | show ∃ x', _ < _ ∧ _) | (show AW _ _ (.region _ _ true) _ _ _; refine A1 mix (by kernel_rfl) ?_; intro O1) | fail)
      exact ⟨⟨I1 + 1, J1 - 1, swp e I1 J1, by rw [size_swp]; exact hen, by omega, hr⟩, by dsimp only; omega, (by repeat (first | exact .nil _ | refine .cons rfl ?_)), .refl _⟩
end Go.Proofs.Ythfgocinlbogeaa
namespace Go.Proofs.Ythfgocinlbogeaa
open Go.Ts
set_option linter.unusedSimpArgs false
set_option linter.unusedVariables false
attribute [local irreducible] Go.Ts.AW Go.Ts.AOps Go.Ts.AL Go.Ts.AOp Go.Ts.ACalls Go.Ts.DL Go.Ts.DQ0 Go.Ts.EL
open Go.Sort
structure PeX (a b n : Nat) (R : Nat × Array Nat) where
  i : Nat
  j : Nat
  d : Array Nat
  hn : d.size = n
  hij : a < i ∧ i ≤ n ∧ j < b
  hr : partEqLoop ltQ a i j d = R
theorem srt_peq {d0 : Array Nat} {a b pv : Nat} (hab : a ≤ pv) (hpb : pv < b) (hb : b ≤ d0.size) (hs : d0.size ≤ 4294967296) : OnRow Try.prog 110 mT [.int .i64 (a : Int), .int .i64 (b : Int), .int .i64 (pv : Int)] d0
    (.int .i64 ((partitionEqual ltQ d0 a b pv).1 : Int)) (partitionEqual ltQ d0 a b pv).2 := by
  intro off i n cap hn
  refine Bp (N := 84) (rs := [.tmp 8]) hG Try.func110 rfl rfl rfl rfl rfl ?_
  repeat' (first
    | ((first | (show AL _ _ _ _ _ _ _ _; refine Ae Y ?_) | (show DL _ _ _ _ _ _ _; refine' A7 Y Y (fun K kk => ?_) ?_; try (show Go.Ts.T; rotate_left))); (first
      | refine Ap hG Y Y ?_
      | refine A3 hG Y Y ?_
      | (show AOp _ _ ⟨_, .binOp .add _ _ _ _, _, _, _, _⟩ _ _ _; first | refine Ac hG Y Y Y Y Y (by omega) ?_ | refine Ac (m := 1) hG Y Y Y Y Y (by omega) ?_ | refine Aa hG Y Y Y Y Y (by omega) ?_)
      | (show AOp _ _ ⟨_, .binOp .sub _ _ _ _, _, _, _, _⟩ _ _ _; first | refine Aq hG Y Y Y Y (by omega) ?_ | refine Aq (m := 1) hG Y Y Y Y (by omega) ?_ | refine Aa hG Y Y Y Y Y (by omega) ?_)
      | (show AOp _ _ ⟨_, .binOp _ _ _ _ _, _, _, _, _⟩ _ _ _; first | refine Au hG Y Y Y Y Y (by omega) ?_ | refine Av hG Y Y Y Y Y (by omega) ?_ | ((fail_if_success have := kk); refine Ao hG Y Y Y Y Y (fun h => ?_) (fun h => ?_)))
      | (show AOp _ _ ⟨_, .load _ _, _, _, _, _⟩ _ _ _; first | refine Ak (α := Nat) 0 hG Y Y Y Y (by omega) Y ?_ | refine Ax hG Y Y Y ?_ | refine A8 0 hG Y Y Y Y ?_)
      | (show AOp _ _ ⟨_, .indexAddr _ _ _, _, _, _, _⟩ _ _ _; first | refine A2 hG Y Y Y Y Y Y Y (by omega) ?_ | refine Aw hG Y Y Y Y Y Y Y (by omega) ?_ | refine Az hG Y Y Y Y Y Y Y (by omega) ?_ | refine A9 hG Y Y ?_)
      | refine Bc hG Y Y Y ?_
      | refine Bn hG Y Y Y ?_
      | (show AOp _ _ ⟨_, .store _ _ _, _, _, _, _⟩ _ _ _; first | refine A0 (α := Nat) 0 hG Y Y Y Ag Bb Y Y (by first | omega | (simp only [Array.size_setIfInBounds]; omega)) ?_ | refine Bh 0 hG Y Y Y Y Y Y Y ?_)
      | refine r_q hG Y Y Y ?_); try exact kk)
    | (show AL _ _ _ _ _ _ _ _; first | refine Bi Y Y Y ?_ | (refine As ?_; first | show AW _ _ _ _ _ _ | show ∃ x', _ < _ ∧ _)) | (show AW _ _ (.seq _ _) _ _ _; refine Ai ?_; intro Q1) | (show AW _ _ (.region _ _ false) _ _ _; (fail_if_success show AW _ _ (.region 1 _ _) _ _ _); refine Ad ?_; intro O1) | (show AW _ _ (.cond _ _ _) _ _ _; first | refine Am Y ?_ | refine Al Y ?_ | refine Bd Y (fun h => ?_) (fun h => ?_)) | (show AW _ _ (.skip) _ _ _; refine Aj ?_; first | show AW _ _ _ _ _ _ | show ∃ x', _ < _ ∧ _) | (show AW _ _ (.block _ _) _ _ _; refine Af ?_; intro Q1) | (show AW _ _ (.exit _) _ _ _; refine Ar ?_; first | show AW _ _ _ _ _ _ | show ∃ x', _ < _ ∧ _) | (show AW _ _ (.ret) _ _ _; refine At ?_; try dsimp only [Ay, Ab, A6, Ah])
    | (show DL _ _ _ _ _ _ _; refine Bu Y Y (fun K kt kf => Ao hG Y Y Y Y Y kt kf) (fun h => ?_) (fun h => ?_))
    | (show DL _ _ _ _ _ _ _; refine Bt Y Y Y ?_) | (show DL _ _ _ _ _ _ _; refine Be ?_; first | show AW _ _ _ _ _ _ | show ∃ x', _ < _ ∧ _) | (show AW _ _ (.region _ _ true) _ _ _; (fail_if_success show AW _ _ (.region 1 _ _) _ _ _); refine A1 mix (by kernel_rfl) ?_; intro O1) | fail)
  refine Ce (m := 14) [13] [7, 11] (fun σ => ∃ c : Array Nat, c.size = n ∧ σ = ⟨[(i, .cells (rowT mT c))], [], off, none⟩) mix Y Y (by repeat (first | exact Sp.zero _ | apply Sp.succ)) ?_; intro O1 F1 Z1 Q2; repeat' (first
    | (refine' dq0_cons Y Y Y Y (fun σ hσ K kk => ?_) ?_; (try (show Go.Ts.T; rotate_left)); (obtain ⟨c, hcn, hcs⟩ := hσ; subst hcs); (first
      | refine Ap hG Y Y ?_
      | refine A3 hG Y Y ?_
      | (show AOp _ _ ⟨_, .binOp .add _ _ _ _, _, _, _, _⟩ _ _ _; first | refine Ac hG Y Y Y Y Y (by omega) ?_ | refine Ac (m := 1) hG Y Y Y Y Y (by omega) ?_ | refine Aa hG Y Y Y Y Y (by omega) ?_)
      | (show AOp _ _ ⟨_, .binOp .sub _ _ _ _, _, _, _, _⟩ _ _ _; first | refine Aq hG Y Y Y Y (by omega) ?_ | refine Aq (m := 1) hG Y Y Y Y (by omega) ?_ | refine r_subU (m := 1) hG Y Y Y Y (by omega) ?_ | refine Aa hG Y Y Y Y Y (by omega) ?_)
      | (show AOp _ _ ⟨_, .binOp _ _ _ _ _, _, _, _, _⟩ _ _ _; first | refine Au hG Y Y Y Y Y (by omega) ?_ | refine Av hG Y Y Y Y Y (by omega) ?_)
      | (show AOp _ _ ⟨_, .load _ _, _, _, _, _⟩ _ _ _; first | refine Ak (α := Nat) 0 hG Y Y Y Y (by omega) Y ?_ | refine Ak (α := Nat) 1 hG Y Y Y Y (by omega) Y ?_ | refine Ax hG Y Y Y ?_ | refine A8 0 hG Y Y Y Y ?_)
      | (show AOp _ _ ⟨_, .indexAddr _ _ _, _, _, _, _⟩ _ _ _; first | refine A2 hG Y Y Y Y Y Y Y (by omega) ?_ | refine Aw hG Y Y Y Y Y Y Y (by omega) ?_ | refine Az hG Y Y Y Y Y Y Y (by omega) ?_ | refine A9 hG Y Y ?_)
      | refine Bc hG Y Y Y ?_
      | refine Bn hG Y Y Y ?_
      | (show AOp _ _ ⟨_, .store _ _ _, _, _, _, _⟩ _ _ _; first | refine A0 (α := Nat) 0 hG Y Y Y Ag Bb Y Y (by first | omega | (simp only [Array.size_setIfInBounds]; omega)) ?_ | refine A0 (α := Nat) 1 hG Y Y Y Ag Bb Y Y (by first | omega | (simp only [Array.size_setIfInBounds]; omega)) ?_ | refine Bh 0 hG Y Y Y Y Y Y Y ?_)
      | refine r_q hG Y Y Y ?_); exact kk)
    | (refine' Cf Y Y Y Y (fun K kk => ?_) ?_; (try (show Go.Ts.T; rotate_left)); (first | refine Ak 0 hG Y Y Y Y (by omega) Y ?_ | refine Ak 1 hG Y Y Y Y (by omega) Y ?_); exact kk)
    | refine dq0_e Y ?_ | (refine dq0_nil ?_; show EL _ _ _ _ _ _ _ _ _)
    | (refine el_consN ⟨_, (by first | assumption | (simp only [Array.size_setIfInBounds]; omega)), Y⟩ Y Y Y (fun K ke => ?_); (first | refine A0 (α := Nat) 0 hG Y Y Y Ag Bb Y Y (by first | omega | (simp only [Array.size_setIfInBounds]; omega)) ?_ | refine A0 (α := Nat) 1 hG Y Y Y Ag Bb Y Y (by first | omega | (simp only [Array.size_setIfInBounds]; omega)) ?_); refine ke (.tup []) _ ?_)
    | (refine el_nil ⟨_, (by first | assumption | (simp only [Array.size_setIfInBounds]; omega)), Y⟩ ?_; show AL _ _ _ _ _ _ _ _) | fail)
  repeat' (first
    | ((first | (show AL _ _ _ _ _ _ _ _; refine Ae Y ?_) | (show DL _ _ _ _ _ _ _; refine' A7 Y Y (fun K kk => ?_) ?_; try (show Go.Ts.T; rotate_left))); (first
      | refine Ap hG Y Y ?_
      | refine A3 hG Y Y ?_
      | (show AOp _ _ ⟨_, .binOp .add _ _ _ _, _, _, _, _⟩ _ _ _; first | refine Ac hG Y Y Y Y Y (by omega) ?_ | refine Ac (m := 1) hG Y Y Y Y Y (by omega) ?_ | refine Aa hG Y Y Y Y Y (by omega) ?_)
      | (show AOp _ _ ⟨_, .binOp .sub _ _ _ _, _, _, _, _⟩ _ _ _; first | refine Aq hG Y Y Y Y (by omega) ?_ | refine Aq (m := 1) hG Y Y Y Y (by omega) ?_ | refine Aa hG Y Y Y Y Y (by omega) ?_)
      | (show AOp _ _ ⟨_, .binOp _ _ _ _ _, _, _, _, _⟩ _ _ _; first | refine Au hG Y Y Y Y Y (by omega) ?_ | refine Av hG Y Y Y Y Y (by omega) ?_ | ((fail_if_success have := kk); refine Ao hG Y Y Y Y Y (fun h => ?_) (fun h => ?_)))
      | (show AOp _ _ ⟨_, .load _ _, _, _, _, _⟩ _ _ _; first | refine Ak (α := Nat) 0 hG Y Y Y Y (by omega) Y ?_ | refine Ax hG Y Y Y ?_ | refine A8 0 hG Y Y Y Y ?_)
      | (show AOp _ _ ⟨_, .indexAddr _ _ _, _, _, _, _⟩ _ _ _; first | refine A2 hG Y Y Y Y Y Y Y (by omega) ?_ | refine Aw hG Y Y Y Y Y Y Y (by omega) ?_ | refine Az hG Y Y Y Y Y Y Y (by omega) ?_ | refine A9 hG Y Y ?_)
      | refine Bc hG Y Y Y ?_
      | refine Bn hG Y Y Y ?_
      | (show AOp _ _ ⟨_, .store _ _ _, _, _, _, _⟩ _ _ _; first | refine A0 (α := Nat) 0 hG Y Y Y Ag Bb Y Y (by first | omega | (simp only [Array.size_setIfInBounds]; omega)) ?_ | refine Bh 0 hG Y Y Y Y Y Y Y ?_)
      | refine r_q hG Y Y Y ?_); try exact kk)
    | (show AL _ _ _ _ _ _ _ _; first | refine Bi Y Y Y ?_ | (refine As ?_; first | show AW _ _ _ _ _ _ | show ∃ x', _ < _ ∧ _)) | (show AW _ _ (.seq _ _) _ _ _; refine Ai ?_; intro Q1) | (show AW _ _ (.region _ _ false) _ _ _; refine Ad ?_; intro O1) | (show AW _ _ (.cond _ _ _) _ _ _; first | refine Am Y ?_ | refine Al Y ?_ | refine Bd Y (fun h => ?_) (fun h => ?_)) | (show AW _ _ (.skip) _ _ _; refine Aj ?_; first | show AW _ _ _ _ _ _ | show ∃ x', _ < _ ∧ _) | (show AW _ _ (.block _ _) _ _ _; refine Af ?_; intro Q1) | (show AW _ _ (.exit _) _ _ _; refine Ar ?_; first | show AW _ _ _ _ _ _ | show ∃ x', _ < _ ∧ _) | (show AW _ _ (.ret) _ _ _; refine At ?_; try dsimp only [Ay, Ab, A6, Ah])
    | (show DL _ _ _ _ _ _ _; refine Bu Y Y (fun K kt kf => Ao hG Y Y Y Y Y kt kf) (fun h => ?_) (fun h => ?_))
    | (show DL _ _ _ _ _ _ _; refine Bt Y Y Y ?_) | (show DL _ _ _ _ _ _ _; refine Be ?_; first | show AW _ _ _ _ _ _ | show ∃ x', _ < _ ∧ _) | (show AW _ _ (.region _ _ true) _ _ _; refine A1 mix (by kernel_rfl) ?_; intro O1) | fail)
  obtain ⟨R, hR⟩ : ∃ R, partEqLoop ltQ a (a + 1) (b - 1) (swp d0 a pv) = R := ⟨_, rfl⟩
  have hp : partitionEqual ltQ d0 a b pv = R := hR
  refine aw_loop (X := PeX a b n R) (fun x => [(0, .aref 1 i 0 n cap), (1, .int .i64 (a : Int)), (9, .int .i64 (x.i : Int)), (10, .int .i64 (x.j : Int))]) (fun x => ⟨[(i, .cells (rowT mT x.d))], [], off, none⟩) (fun x => x.j + 1 - x.i) ⟨a + 1, b - 1, swp d0 a pv, by rw [size_swp]; exact hn, by omega, hR⟩ (by repeat (first | exact .nil _ | refine .cons rfl ?_)) (.refl _) ?_
  clear hR
  rintro ⟨i1, j1, e, hen, hij, hr⟩
  dsimp only at hr ⊢
  rw [partEqLoop_eq] at hr
  repeat' (first
    | ((first | (show AL _ _ _ _ _ _ _ _; refine Ae Y ?_) | (show DL _ _ _ _ _ _ _; refine' A7 Y Y (fun K kk => ?_) ?_; try (show Go.Ts.T; rotate_left))); (first
      | refine Ap hG Y Y ?_
      | refine A3 hG Y Y ?_
      | (show AOp _ _ ⟨_, .binOp .add _ _ _ _, _, _, _, _⟩ _ _ _; first | refine Ac hG Y Y Y Y Y (by omega) ?_ | refine Ac (m := 1) hG Y Y Y Y Y (by omega) ?_ | refine Aa hG Y Y Y Y Y (by omega) ?_)
      | (show AOp _ _ ⟨_, .binOp .sub _ _ _ _, _, _, _, _⟩ _ _ _; first | refine Aq hG Y Y Y Y (by omega) ?_ | refine Aq (m := 1) hG Y Y Y Y (by omega) ?_ | refine Aa hG Y Y Y Y Y (by omega) ?_)
      | (show AOp _ _ ⟨_, .binOp _ _ _ _ _, _, _, _, _⟩ _ _ _; first | refine Au hG Y Y Y Y Y (by omega) ?_ | refine Av hG Y Y Y Y Y (by omega) ?_ | ((fail_if_success have := kk); refine Ao hG Y Y Y Y Y (fun h => ?_) (fun h => ?_)))
      | (show AOp _ _ ⟨_, .load _ _, _, _, _, _⟩ _ _ _; first | refine Ak (α := Nat) 0 hG Y Y Y Y (by omega) Y ?_ | refine Ax hG Y Y Y ?_ | refine A8 0 hG Y Y Y Y ?_)
      | (show AOp _ _ ⟨_, .indexAddr _ _ _, _, _, _, _⟩ _ _ _; first | refine A2 hG Y Y Y Y Y Y Y (by omega) ?_ | refine Aw hG Y Y Y Y Y Y Y (by omega) ?_ | refine Az hG Y Y Y Y Y Y Y (by omega) ?_ | refine A9 hG Y Y ?_)
      | refine Bc hG Y Y Y ?_
      | refine Bn hG Y Y Y ?_
      | (show AOp _ _ ⟨_, .store _ _ _, _, _, _, _⟩ _ _ _; first | refine A0 (α := Nat) 0 hG Y Y Y Ag Bb Y Y (by first | omega | (simp only [Array.size_setIfInBounds]; omega)) ?_ | refine Bh 0 hG Y Y Y Y Y Y Y ?_)
      | refine r_q hG Y Y Y ?_); try exact kk)
    | (show AL _ _ _ _ _ _ _ _; first | refine Bi Y Y Y ?_ | (refine As ?_; first | show AW _ _ _ _ _ _ | show ∃ x', _ < _ ∧ _)) | (show AW _ _ (.seq _ _) _ _ _; refine Ai ?_; intro Q1) | (show AW _ _ (.region _ _ false) _ _ _; refine Ad ?_; intro O1) | (show AW _ _ (.cond _ _ _) _ _ _; first | refine Am Y ?_ | refine Al Y ?_ | refine Bd Y (fun h => ?_) (fun h => ?_)) | (show AW _ _ (.skip) _ _ _; refine Aj ?_; first | show AW _ _ _ _ _ _ | show ∃ x', _ < _ ∧ _) | (show AW _ _ (.block _ _) _ _ _; refine Af ?_; intro Q1) | (show AW _ _ (.exit _) _ _ _; refine Ar ?_; first | show AW _ _ _ _ _ _ | show ∃ x', _ < _ ∧ _) | (show AW _ _ (.ret) _ _ _; refine At ?_; try dsimp only [Ay, Ab, A6, Ah])
    | (show DL _ _ _ _ _ _ _; refine Bu Y Y (fun K kt kf => Ao hG Y Y Y Y Y kt kf) (fun h => ?_) (fun h => ?_))
    | (show DL _ _ _ _ _ _ _; refine Bt Y Y Y ?_) | (show DL _ _ _ _ _ _ _; refine Be ?_; first | show AW _ _ _ _ _ _ | show ∃ x', _ < _ ∧ _) | (show AW _ _ (.region _ _ true) _ _ _; refine A1 mix (by kernel_rfl) ?_; intro O1) | fail)
  obtain ⟨I1, hI1⟩ : ∃ I, scanUp (fun x => !ltQ e[a]! x) e (j1) (i1) = I := ⟨_, rfl⟩
  obtain ⟨J1, hJ1⟩ : ∃ J, scanDown (fun x => ltQ e[a]! x) e I1 (j1) = J := ⟨_, rfl⟩
  have gI1 : i1 ≤ I1 := by rw [← hI1]; exact scanUp_ge _ _ _ _
  have kI1 : I1 ≤ n := by rw [← hI1]; exact up_le _ _ _ _ (by omega) _ _ (Nat.le_refl _) (by omega)
  have gJ1 : J1 ≤ j1 := by rw [← hJ1]; exact scanDown_le _ _ _ _
  refine aw_loop_to 2 (X := UpX (fun x => !ltQ e[a]! x) e j1 I1 i1 n) (fun x => [(0, .aref 1 i 0 n cap), (1, .int .i64 ((a : Nat) : Int)), (9, .int .i64 ((x.p : Nat) : Int)), (10, .int .i64 ((j1 : Nat) : Int))]) (fun _ => ⟨[(i, .cells (rowT mT e))], [], off, none⟩) (fun x => j1 + 1 - x.p) ⟨i1, by omega, hI1⟩ (by repeat (first | exact .nil _ | refine .cons rfl ?_)) (.refl _) [(0, .aref 1 i 0 n cap), (1, .int .i64 ((a : Nat) : Int)), (9, .int .i64 ((I1 : Nat) : Int)), (10, .int .i64 ((j1 : Nat) : Int))] (⟨[(i, .cells (rowT mT e))], [], off, none⟩) ?_ ?_
  · rintro ⟨p, hp, hr⟩
    dsimp only at hr ⊢
    by_cases hpJ : p ≤ j1
    · repeat' (first
    | ((first | (show AL _ _ _ _ _ _ _ _; refine Ae Y ?_) | (show DL _ _ _ _ _ _ _; refine' A7 Y Y (fun K kk => ?_) ?_; try (show Go.Ts.T; rotate_left))); (first
      | refine Ap hG Y Y ?_
      | refine A3 hG Y Y ?_
      | (show AOp _ _ ⟨_, .binOp .add _ _ _ _, _, _, _, _⟩ _ _ _; first | refine Ac hG Y Y Y Y Y (by omega) ?_ | refine Ac (m := 1) hG Y Y Y Y Y (by omega) ?_ | refine Aa hG Y Y Y Y Y (by omega) ?_)
      | (show AOp _ _ ⟨_, .binOp .sub _ _ _ _, _, _, _, _⟩ _ _ _; first | refine Aq hG Y Y Y Y (by omega) ?_ | refine Aq (m := 1) hG Y Y Y Y (by omega) ?_ | refine Aa hG Y Y Y Y Y (by omega) ?_)
      | (show AOp _ _ ⟨_, .binOp _ _ _ _ _, _, _, _, _⟩ _ _ _; first | refine Au hG Y Y Y Y Y (by omega) ?_ | refine Av hG Y Y Y Y Y (by omega) ?_ | ((fail_if_success have := kk); refine Ao hG Y Y Y Y Y (fun h => ?_) (fun h => ?_)))
      | (show AOp _ _ ⟨_, .load _ _, _, _, _, _⟩ _ _ _; first | refine Ak (α := Nat) 0 hG Y Y Y Y (by omega) Y ?_ | refine Ax hG Y Y Y ?_ | refine A8 0 hG Y Y Y Y ?_)
      | (show AOp _ _ ⟨_, .indexAddr _ _ _, _, _, _, _⟩ _ _ _; first | refine A2 hG Y Y Y Y Y Y Y (by omega) ?_ | refine Aw hG Y Y Y Y Y Y Y (by omega) ?_ | refine Az hG Y Y Y Y Y Y Y (by omega) ?_ | refine A9 hG Y Y ?_)
      | refine Bc hG Y Y Y ?_
      | refine Bn hG Y Y Y ?_
      | (show AOp _ _ ⟨_, .store _ _ _, _, _, _, _⟩ _ _ _; first | refine A0 (α := Nat) 0 hG Y Y Y Ag Bb Y Y (by first | omega | (simp only [Array.size_setIfInBounds]; omega)) ?_ | refine Bh 0 hG Y Y Y Y Y Y Y ?_)
      | (show AOp _ _ ⟨_, .call ⟨.value _, _, _⟩, _, _, _, _⟩ _ _ _; first | refine B0 Y Y Y Y Y (by first | (apply Cg <;> (first | assumption | omega | exact Bf _ _ | exact Bo _ | exact Bk _ _ | exact Bs _ | rfl | (simp; omega))) | fail) ?_ | fail)
      | refine r_q hG Y Y Y ?_); try exact kk)
    | (show AL _ _ _ _ _ _ _ _; first | refine Bi Y Y Y ?_ | (refine As ?_; first | show AW _ _ _ _ _ _ | show ∃ x', _ < _ ∧ _)) | (show AW _ _ (.seq _ _) _ _ _; refine Ai ?_; intro Q1) | (show AW _ _ (.region _ _ false) _ _ _; refine Ad ?_; intro O1) | (show AW _ _ (.cond _ _ _) _ _ _; first | refine Am Y ?_ | refine Al Y ?_ | refine Bd Y (fun h => ?_) (fun h => ?_)) | (show AW _ _ (.skip) _ _ _; refine Aj ?_; first | show AW _ _ _ _ _ _ | show ∃ x', _ < _ ∧ _) | (show AW _ _ (.block _ _) _ _ _; refine Af ?_; intro Q1) | (show AW _ _ (.exit _) _ _ _; refine Ar ?_; first | show AW _ _ _ _ _ _ | show ∃ x', _ < _ ∧ _) | (show AW _ _ (.ret) _ _ _; refine At ?_; try dsimp only [Ay, Ab, A6, Ah])
    | (show DL _ _ _ _ _ _ _; refine Bu Y Y (fun K kt kf => Ao hG Y Y Y Y Y kt kf) (fun h => ?_) (fun h => ?_))
    | (show DL _ _ _ _ _ _ _; refine Bt Y Y Y ?_) | (show DL _ _ _ _ _ _ _; refine Be ?_; first | show AW _ _ _ _ _ _ | show ∃ x', _ < _ ∧ _) | (show AW _ _ (.region _ _ true) _ _ _; refine A1 mix (by kernel_rfl) ?_; intro O1) | fail)
      · rw [scanUp, if_pos (by simp [hpJ]; simpa using h)] at hr
        exact ⟨⟨p + 1, by omega, hr⟩, by dsimp only; omega, (by repeat (first | exact .nil _ | refine .cons rfl ?_)), .refl _⟩
      · rw [scanUp, if_neg (by simp [hpJ]; simpa using h)] at hr
        subst hr
        (refine Ar ?_; show _ ∧ Knows _ _ ∧ _; exact ⟨rfl, (by repeat (first | exact .nil _ | refine .cons rfl ?_)), rfl⟩)
    · rw [scanUp, if_neg (by simp [hpJ])] at hr
      subst hr
      repeat' (first
    | ((first | (show AL _ _ _ _ _ _ _ _; refine Ae Y ?_) | (show DL _ _ _ _ _ _ _; refine' A7 Y Y (fun K kk => ?_) ?_; try (show Go.Ts.T; rotate_left))); (first
      | refine Ap hG Y Y ?_
      | refine A3 hG Y Y ?_
      | (show AOp _ _ ⟨_, .binOp .add _ _ _ _, _, _, _, _⟩ _ _ _; first | refine Ac hG Y Y Y Y Y (by omega) ?_ | refine Ac (m := 1) hG Y Y Y Y Y (by omega) ?_ | refine Aa hG Y Y Y Y Y (by omega) ?_)
      | (show AOp _ _ ⟨_, .binOp .sub _ _ _ _, _, _, _, _⟩ _ _ _; first | refine Aq hG Y Y Y Y (by omega) ?_ | refine Aq (m := 1) hG Y Y Y Y (by omega) ?_ | refine Aa hG Y Y Y Y Y (by omega) ?_)
      | (show AOp _ _ ⟨_, .binOp _ _ _ _ _, _, _, _, _⟩ _ _ _; first | refine Au hG Y Y Y Y Y (by omega) ?_ | refine Av hG Y Y Y Y Y (by omega) ?_ | ((fail_if_success have := kk); refine Ao hG Y Y Y Y Y (fun h => ?_) (fun h => ?_)))
      | (show AOp _ _ ⟨_, .load _ _, _, _, _, _⟩ _ _ _; first | refine Ak (α := Nat) 0 hG Y Y Y Y (by omega) Y ?_ | refine Ax hG Y Y Y ?_ | refine A8 0 hG Y Y Y Y ?_)
      | (show AOp _ _ ⟨_, .indexAddr _ _ _, _, _, _, _⟩ _ _ _; first | refine A2 hG Y Y Y Y Y Y Y (by omega) ?_ | refine Aw hG Y Y Y Y Y Y Y (by omega) ?_ | refine Az hG Y Y Y Y Y Y Y (by omega) ?_ | refine A9 hG Y Y ?_)
      | refine Bc hG Y Y Y ?_
      | refine Bn hG Y Y Y ?_
      | (show AOp _ _ ⟨_, .store _ _ _, _, _, _, _⟩ _ _ _; first | refine A0 (α := Nat) 0 hG Y Y Y Ag Bb Y Y (by first | omega | (simp only [Array.size_setIfInBounds]; omega)) ?_ | refine Bh 0 hG Y Y Y Y Y Y Y ?_)
      | (show AOp _ _ ⟨_, .call ⟨.value _, _, _⟩, _, _, _, _⟩ _ _ _; first | refine B0 Y Y Y Y Y (by first | (apply Cg <;> (first | assumption | omega | exact Bf _ _ | exact Bo _ | exact Bk _ _ | exact Bs _ | rfl | (simp; omega))) | fail) ?_ | fail)
      | refine r_q hG Y Y Y ?_); try exact kk)
    | (show AL _ _ _ _ _ _ _ _; first | refine Bi Y Y Y ?_ | (refine As ?_; first | show AW _ _ _ _ _ _ | show ∃ x', _ < _ ∧ _)) | (show AW _ _ (.seq _ _) _ _ _; refine Ai ?_; intro Q1) | (show AW _ _ (.region _ _ false) _ _ _; refine Ad ?_; intro O1) | (show AW _ _ (.cond _ _ _) _ _ _; first | refine Am Y ?_ | refine Al Y ?_ | refine Bd Y (fun h => ?_) (fun h => ?_)) | (show AW _ _ (.skip) _ _ _; refine Aj ?_; first | show AW _ _ _ _ _ _ | show ∃ x', _ < _ ∧ _) | (show AW _ _ (.block _ _) _ _ _; refine Af ?_; intro Q1) | (show AW _ _ (.exit _) _ _ _; refine Ar ?_; first | show AW _ _ _ _ _ _ | show ∃ x', _ < _ ∧ _) | (show AW _ _ (.ret) _ _ _; refine At ?_; try dsimp only [Ay, Ab, A6, Ah])
    | (show DL _ _ _ _ _ _ _; refine Bu Y Y (fun K kt kf => Ao hG Y Y Y Y Y kt kf) (fun h => ?_) (fun h => ?_))
    | (show DL _ _ _ _ _ _ _; refine Bt Y Y Y ?_) | (show DL _ _ _ _ _ _ _; refine Be ?_; first | show AW _ _ _ _ _ _ | show ∃ x', _ < _ ∧ _) | (show AW _ _ (.region _ _ true) _ _ _; refine A1 mix (by kernel_rfl) ?_; intro O1) | fail)
      (refine Ar ?_; show _ ∧ Knows _ _ ∧ _; exact ⟨rfl, (by repeat (first | exact .nil _ | refine .cons rfl ?_)), rfl⟩)
  intro a' hk
  show AW _ _ _ _ _ _
  refine aw_forget hk ?_
  repeat' (first
    | ((first | (show AL _ _ _ _ _ _ _ _; refine Ae Y ?_) | (show DL _ _ _ _ _ _ _; refine' A7 Y Y (fun K kk => ?_) ?_; try (show Go.Ts.T; rotate_left))); (first
      | refine Ap hG Y Y ?_
      | refine A3 hG Y Y ?_
      | (show AOp _ _ ⟨_, .binOp .add _ _ _ _, _, _, _, _⟩ _ _ _; first | refine Ac hG Y Y Y Y Y (by omega) ?_ | refine Ac (m := 1) hG Y Y Y Y Y (by omega) ?_ | refine Aa hG Y Y Y Y Y (by omega) ?_)
      | (show AOp _ _ ⟨_, .binOp .sub _ _ _ _, _, _, _, _⟩ _ _ _; first | refine Aq hG Y Y Y Y (by omega) ?_ | refine Aq (m := 1) hG Y Y Y Y (by omega) ?_ | refine Aa hG Y Y Y Y Y (by omega) ?_)
      | (show AOp _ _ ⟨_, .binOp _ _ _ _ _, _, _, _, _⟩ _ _ _; first | refine Au hG Y Y Y Y Y (by omega) ?_ | refine Av hG Y Y Y Y Y (by omega) ?_ | ((fail_if_success have := kk); refine Ao hG Y Y Y Y Y (fun h => ?_) (fun h => ?_)))
      | (show AOp _ _ ⟨_, .load _ _, _, _, _, _⟩ _ _ _; first | refine Ak (α := Nat) 0 hG Y Y Y Y (by omega) Y ?_ | refine Ax hG Y Y Y ?_ | refine A8 0 hG Y Y Y Y ?_)
      | (show AOp _ _ ⟨_, .indexAddr _ _ _, _, _, _, _⟩ _ _ _; first | refine A2 hG Y Y Y Y Y Y Y (by omega) ?_ | refine Aw hG Y Y Y Y Y Y Y (by omega) ?_ | refine Az hG Y Y Y Y Y Y Y (by omega) ?_ | refine A9 hG Y Y ?_)
      | refine Bc hG Y Y Y ?_
      | refine Bn hG Y Y Y ?_
      | (show AOp _ _ ⟨_, .store _ _ _, _, _, _, _⟩ _ _ _; first | refine A0 (α := Nat) 0 hG Y Y Y Ag Bb Y Y (by first | omega | (simp only [Array.size_setIfInBounds]; omega)) ?_ | refine Bh 0 hG Y Y Y Y Y Y Y ?_)
      | refine r_q hG Y Y Y ?_); try exact kk)
    | (show AL _ _ _ _ _ _ _ _; first | refine Bi Y Y Y ?_ | (refine As ?_; first | show AW _ _ _ _ _ _ | show ∃ x', _ < _ ∧ _)) | (show AW _ _ (.seq _ _) _ _ _; refine Ai ?_; intro Q1) | (show AW _ _ (.region _ _ false) _ _ _; refine Ad ?_; intro O1) | (show AW _ _ (.cond _ _ _) _ _ _; first | refine Am Y ?_ | refine Al Y ?_ | refine Bd Y (fun h => ?_) (fun h => ?_)) | (show AW _ _ (.skip) _ _ _; refine Aj ?_; first | show AW _ _ _ _ _ _ | show ∃ x', _ < _ ∧ _) | (show AW _ _ (.block _ _) _ _ _; refine Af ?_; intro Q1) | (show AW _ _ (.exit _) _ _ _; refine Ar ?_; first | show AW _ _ _ _ _ _ | show ∃ x', _ < _ ∧ _) | (show AW _ _ (.ret) _ _ _; refine At ?_; try dsimp only [Ay, Ab, A6, Ah])
    | (show DL _ _ _ _ _ _ _; refine Bu Y Y (fun K kt kf => Ao hG Y Y Y Y Y kt kf) (fun h => ?_) (fun h => ?_))
    | (show DL _ _ _ _ _ _ _; refine Bt Y Y Y ?_) | (show DL _ _ _ _ _ _ _; refine Be ?_; first | show AW _ _ _ _ _ _ | show ∃ x', _ < _ ∧ _) | (show AW _ _ (.region _ _ true) _ _ _; refine A1 mix (by kernel_rfl) ?_; intro O1) | fail)
  refine aw_loop_to 4 (X := DnX (fun x => ltQ e[a]! x) e I1 J1 j1) (fun x => [(0, .aref 1 i 0 n cap), (1, .int .i64 ((a : Nat) : Int)), (9, .int .i64 ((I1 : Nat) : Int)), (10, .int .i64 ((x.p : Nat) : Int))]) (fun _ => ⟨[(i, .cells (rowT mT e))], [], off, none⟩) (fun x => x.p) ⟨j1, by omega, hJ1⟩ (by repeat (first | exact .nil _ | refine .cons rfl ?_)) (.refl _) [(0, .aref 1 i 0 n cap), (1, .int .i64 ((a : Nat) : Int)), (9, .int .i64 ((I1 : Nat) : Int)), (10, .int .i64 ((J1 : Nat) : Int))] (⟨[(i, .cells (rowT mT e))], [], off, none⟩) ?_ ?_
  · rintro ⟨p, hp, hr⟩
    dsimp only at hr ⊢
    by_cases hpJ : I1 ≤ p
    · obtain ⟨m, rfl⟩ : ∃ m, p = m + 1 := ⟨p - 1, by omega⟩
      repeat' (first
    | ((first | (show AL _ _ _ _ _ _ _ _; refine Ae Y ?_) | (show DL _ _ _ _ _ _ _; refine' A7 Y Y (fun K kk => ?_) ?_; try (show Go.Ts.T; rotate_left))); (first
      | refine Ap hG Y Y ?_
      | refine A3 hG Y Y ?_
      | (show AOp _ _ ⟨_, .binOp .add _ _ _ _, _, _, _, _⟩ _ _ _; first | refine Ac hG Y Y Y Y Y (by omega) ?_ | refine Ac (m := 1) hG Y Y Y Y Y (by omega) ?_ | refine Aa hG Y Y Y Y Y (by omega) ?_)
      | (show AOp _ _ ⟨_, .binOp .sub _ _ _ _, _, _, _, _⟩ _ _ _; first | refine Aq hG Y Y Y Y (by omega) ?_ | refine Aq (m := 1) hG Y Y Y Y (by omega) ?_ | refine Aa hG Y Y Y Y Y (by omega) ?_)
      | (show AOp _ _ ⟨_, .binOp _ _ _ _ _, _, _, _, _⟩ _ _ _; first | refine Au hG Y Y Y Y Y (by omega) ?_ | refine Av hG Y Y Y Y Y (by omega) ?_ | ((fail_if_success have := kk); refine Ao hG Y Y Y Y Y (fun h => ?_) (fun h => ?_)))
      | (show AOp _ _ ⟨_, .load _ _, _, _, _, _⟩ _ _ _; first | refine Ak (α := Nat) 0 hG Y Y Y Y (by omega) Y ?_ | refine Ax hG Y Y Y ?_ | refine A8 0 hG Y Y Y Y ?_)
      | (show AOp _ _ ⟨_, .indexAddr _ _ _, _, _, _, _⟩ _ _ _; first | refine A2 hG Y Y Y Y Y Y Y (by omega) ?_ | refine Aw hG Y Y Y Y Y Y Y (by omega) ?_ | refine Az hG Y Y Y Y Y Y Y (by omega) ?_ | refine A9 hG Y Y ?_)
      | refine Bc hG Y Y Y ?_
      | refine Bn hG Y Y Y ?_
      | (show AOp _ _ ⟨_, .store _ _ _, _, _, _, _⟩ _ _ _; first | refine A0 (α := Nat) 0 hG Y Y Y Ag Bb Y Y (by first | omega | (simp only [Array.size_setIfInBounds]; omega)) ?_ | refine Bh 0 hG Y Y Y Y Y Y Y ?_)
      | (show AOp _ _ ⟨_, .call ⟨.value _, _, _⟩, _, _, _, _⟩ _ _ _; first | refine B0 Y Y Y Y Y (by first | (apply Cg <;> (first | assumption | omega | exact Bf _ _ | exact Bo _ | exact Bk _ _ | exact Bs _ | rfl | (simp; omega))) | fail) ?_ | fail)
      | refine r_q hG Y Y Y ?_); try exact kk)
    | (show AL _ _ _ _ _ _ _ _; first | refine Bi Y Y Y ?_ | (refine As ?_; first | show AW _ _ _ _ _ _ | show ∃ x', _ < _ ∧ _)) | (show AW _ _ (.seq _ _) _ _ _; refine Ai ?_; intro Q1) | (show AW _ _ (.region _ _ false) _ _ _; refine Ad ?_; intro O1) | (show AW _ _ (.cond _ _ _) _ _ _; first | refine Am Y ?_ | refine Al Y ?_ | refine Bd Y (fun h => ?_) (fun h => ?_)) | (show AW _ _ (.skip) _ _ _; refine Aj ?_; first | show AW _ _ _ _ _ _ | show ∃ x', _ < _ ∧ _) | (show AW _ _ (.block _ _) _ _ _; refine Af ?_; intro Q1) | (show AW _ _ (.exit _) _ _ _; refine Ar ?_; first | show AW _ _ _ _ _ _ | show ∃ x', _ < _ ∧ _) | (show AW _ _ (.ret) _ _ _; refine At ?_; try dsimp only [Ay, Ab, A6, Ah])
    | (show DL _ _ _ _ _ _ _; refine Bu Y Y (fun K kt kf => Ao hG Y Y Y Y Y kt kf) (fun h => ?_) (fun h => ?_))
    | (show DL _ _ _ _ _ _ _; refine Bt Y Y Y ?_) | (show DL _ _ _ _ _ _ _; refine Be ?_; first | show AW _ _ _ _ _ _ | show ∃ x', _ < _ ∧ _) | (show AW _ _ (.region _ _ true) _ _ _; refine A1 mix (by kernel_rfl) ?_; intro O1) | fail)
      · rw [scanDown, if_pos (by simp [hpJ]; simpa using h)] at hr
        exact ⟨⟨m, by omega, hr⟩, by dsimp only; omega, (by repeat (first | exact .nil _ | refine .cons rfl ?_)), .refl _⟩
      · rw [scanDown, if_neg (by simp [hpJ]; simpa using h)] at hr
        subst hr
        (refine Ar ?_; show _ ∧ Knows _ _ ∧ _; exact ⟨rfl, (by repeat (first | exact .nil _ | refine .cons rfl ?_)), rfl⟩)
    · have hr2 : p = J1 := by
        rw [← hr]
        cases p with
        | zero => rfl
        | succ m => rw [scanDown, if_neg (by simp; omega)]
      subst hr2
      repeat' (first
    | ((first | (show AL _ _ _ _ _ _ _ _; refine Ae Y ?_) | (show DL _ _ _ _ _ _ _; refine' A7 Y Y (fun K kk => ?_) ?_; try (show Go.Ts.T; rotate_left))); (first
      | refine Ap hG Y Y ?_
      | refine A3 hG Y Y ?_
      | (show AOp _ _ ⟨_, .binOp .add _ _ _ _, _, _, _, _⟩ _ _ _; first | refine Ac hG Y Y Y Y Y (by omega) ?_ | refine Ac (m := 1) hG Y Y Y Y Y (by omega) ?_ | refine Aa hG Y Y Y Y Y (by omega) ?_)
      | (show AOp _ _ ⟨_, .binOp .sub _ _ _ _, _, _, _, _⟩ _ _ _; first | refine Aq hG Y Y Y Y (by omega) ?_ | refine Aq (m := 1) hG Y Y Y Y (by omega) ?_ | refine Aa hG Y Y Y Y Y (by omega) ?_)
      | (show AOp _ _ ⟨_, .binOp _ _ _ _ _, _, _, _, _⟩ _ _ _; first | refine Au hG Y Y Y Y Y (by omega) ?_ | refine Av hG Y Y Y Y Y (by omega) ?_ | ((fail_if_success have := kk); refine Ao hG Y Y Y Y Y (fun h => ?_) (fun h => ?_)))
      | (show AOp _ _ ⟨_, .load _ _, _, _, _, _⟩ _ _ _; first | refine Ak (α := Nat) 0 hG Y Y Y Y (by omega) Y ?_ | refine Ax hG Y Y Y ?_ | refine A8 0 hG Y Y Y Y ?_)
      | (show AOp _ _ ⟨_, .indexAddr _ _ _, _, _, _, _⟩ _ _ _; first | refine A2 hG Y Y Y Y Y Y Y (by omega) ?_ | refine Aw hG Y Y Y Y Y Y Y (by omega) ?_ | refine Az hG Y Y Y Y Y Y Y (by omega) ?_ | refine A9 hG Y Y ?_)
      | refine Bc hG Y Y Y ?_
      | refine Bn hG Y Y Y ?_
      | (show AOp _ _ ⟨_, .store _ _ _, _, _, _, _⟩ _ _ _; first | refine A0 (α := Nat) 0 hG Y Y Y Ag Bb Y Y (by first | omega | (simp only [Array.size_setIfInBounds]; omega)) ?_ | refine Bh 0 hG Y Y Y Y Y Y Y ?_)
      | (show AOp _ _ ⟨_, .call ⟨.value _, _, _⟩, _, _, _, _⟩ _ _ _; first | refine B0 Y Y Y Y Y (by first | (apply Cg <;> (first | assumption | omega | exact Bf _ _ | exact Bo _ | exact Bk _ _ | exact Bs _ | rfl | (simp; omega))) | fail) ?_ | fail)
      | refine r_q hG Y Y Y ?_); try exact kk)
    | (show AL _ _ _ _ _ _ _ _; first | refine Bi Y Y Y ?_ | (refine As ?_; first | show AW _ _ _ _ _ _ | show ∃ x', _ < _ ∧ _)) | (show AW _ _ (.seq _ _) _ _ _; refine Ai ?_; intro Q1) | (show AW _ _ (.region _ _ false) _ _ _; refine Ad ?_; intro O1) | (show AW _ _ (.cond _ _ _) _ _ _; first | refine Am Y ?_ | refine Al Y ?_ | refine Bd Y (fun h => ?_) (fun h => ?_)) | (show AW _ _ (.skip) _ _ _; refine Aj ?_; first | show AW _ _ _ _ _ _ | show ∃ x', _ < _ ∧ _) | (show AW _ _ (.block _ _) _ _ _; refine Af ?_; intro Q1) | (show AW _ _ (.exit _) _ _ _; refine Ar ?_; first | show AW _ _ _ _ _ _ | show ∃ x', _ < _ ∧ _) | (show AW _ _ (.ret) _ _ _; refine At ?_; try dsimp only [Ay, Ab, A6, Ah])
    | (show DL _ _ _ _ _ _ _; refine Bu Y Y (fun K kt kf => Ao hG Y Y Y Y Y kt kf) (fun h => ?_) (fun h => ?_))
    | (show DL _ _ _ _ _ _ _; refine Bt Y Y Y ?_) | (show DL _ _ _ _ _ _ _; refine Be ?_; first | show AW _ _ _ _ _ _ | show ∃ x', _ < _ ∧ _) | (show AW _ _ (.region _ _ true) _ _ _; refine A1 mix (by kernel_rfl) ?_; intro O1) | fail)
      (refine Ar ?_; show _ ∧ Knows _ _ ∧ _; exact ⟨rfl, (by repeat (first | exact .nil _ | refine .cons rfl ?_)), rfl⟩)
  intro a' hk
  show AW _ _ _ _ _ _
  refine aw_forget hk ?_
  rw [hI1, hJ1] at hr
  by_cases hIJ : I1 > J1
  · rw [if_pos hIJ] at hr
    subst hr
    repeat' (first
    | ((first | (show AL _ _ _ _ _ _ _ _; refine Ae Y ?_) | (show DL _ _ _ _ _ _ _; refine' A7 Y Y (fun K kk => ?_) ?_; try (show Go.Ts.T; rotate_left))); (first
      | refine Ap hG Y Y ?_
      | refine A3 hG Y Y ?_
      | (show AOp _ _ ⟨_, .binOp .add _ _ _ _, _, _, _, _⟩ _ _ _; first | refine Ac hG Y Y Y Y Y (by omega) ?_ | refine Ac (m := 1) hG Y Y Y Y Y (by omega) ?_ | refine Aa hG Y Y Y Y Y (by omega) ?_)
      | (show AOp _ _ ⟨_, .binOp .sub _ _ _ _, _, _, _, _⟩ _ _ _; first | refine Aq hG Y Y Y Y (by omega) ?_ | refine Aq (m := 1) hG Y Y Y Y (by omega) ?_ | refine Aa hG Y Y Y Y Y (by omega) ?_)
      | (show AOp _ _ ⟨_, .binOp _ _ _ _ _, _, _, _, _⟩ _ _ _; first | refine Au hG Y Y Y Y Y (by omega) ?_ | refine Av hG Y Y Y Y Y (by omega) ?_ | ((fail_if_success have := kk); refine Ao hG Y Y Y Y Y (fun h => ?_) (fun h => ?_)))
      | (show AOp _ _ ⟨_, .load _ _, _, _, _, _⟩ _ _ _; first | refine Ak (α := Nat) 0 hG Y Y Y Y (by omega) Y ?_ | refine Ax hG Y Y Y ?_ | refine A8 0 hG Y Y Y Y ?_)
      | (show AOp _ _ ⟨_, .indexAddr _ _ _, _, _, _, _⟩ _ _ _; first | refine A2 hG Y Y Y Y Y Y Y (by omega) ?_ | refine Aw hG Y Y Y Y Y Y Y (by omega) ?_ | refine Az hG Y Y Y Y Y Y Y (by omega) ?_ | refine A9 hG Y Y ?_)
      | refine Bc hG Y Y Y ?_
      | refine Bn hG Y Y Y ?_
      | (show AOp _ _ ⟨_, .store _ _ _, _, _, _, _⟩ _ _ _; first | refine A0 (α := Nat) 0 hG Y Y Y Ag Bb Y Y (by first | omega | (simp only [Array.size_setIfInBounds]; omega)) ?_ | refine Bh 0 hG Y Y Y Y Y Y Y ?_)
      | refine r_q hG Y Y Y ?_); try exact kk)
    | (show AL _ _ _ _ _ _ _ _; first | refine Bi Y Y Y ?_ | (refine As ?_; first | show AW _ _ _ _ _ _ | show ∃ x', _ < _ ∧ _)) | (show AW _ _ (.seq _ _) _ _ _; refine Ai ?_; intro Q1) | (show AW _ _ (.region _ _ false) _ _ _; (fail_if_success show AW _ _ (.region 8 _ _) _ _ _); refine Ad ?_; intro O1) | (show AW _ _ (.cond _ _ _) _ _ _; first | refine Am Y ?_ | refine Al Y ?_ | refine Bd Y (fun h => ?_) (fun h => ?_)) | (show AW _ _ (.skip) _ _ _; refine Aj ?_; first | show AW _ _ _ _ _ _ | show ∃ x', _ < _ ∧ _) | (show AW _ _ (.block _ _) _ _ _; refine Af ?_; intro Q1) | (show AW _ _ (.exit _) _ _ _; refine Ar ?_; first | show AW _ _ _ _ _ _ | show ∃ x', _ < _ ∧ _) | (show AW _ _ (.ret) _ _ _; refine At ?_; try dsimp only [Ay, Ab, A6, Ah])
    | (show DL _ _ _ _ _ _ _; refine Bu Y Y (fun K kt kf => Ao hG Y Y Y Y Y kt kf) (fun h => ?_) (fun h => ?_))
    | (show DL _ _ _ _ _ _ _; refine Bt Y Y Y ?_) | (show DL _ _ _ _ _ _ _; refine Be ?_; first | show AW _ _ _ _ _ _ | show ∃ x', _ < _ ∧ _) | (show AW _ _ (.region _ _ true) _ _ _; (fail_if_success show AW _ _ (.region 8 _ _) _ _ _); refine A1 mix (by kernel_rfl) ?_; intro O1) | fail)
    try dsimp (config := { zetaDelta := true }) only [Ay, Ab]
    rw [hp]
    refine ret_row 0 (Bq rfl Bl) ?_ (.refl _) ?_ <;> rfl
  · rw [if_neg hIJ] at hr
    repeat' (first
    | ((first | (show AL _ _ _ _ _ _ _ _; refine Ae Y ?_) | (show DL _ _ _ _ _ _ _; refine' A7 Y Y (fun K kk => ?_) ?_; try (show Go.Ts.T; rotate_left))); (first
      | refine Ap hG Y Y ?_
      | refine A3 hG Y Y ?_
      | (show AOp _ _ ⟨_, .binOp .add _ _ _ _, _, _, _, _⟩ _ _ _; first | refine Ac hG Y Y Y Y Y (by omega) ?_ | refine Ac (m := 1) hG Y Y Y Y Y (by omega) ?_ | refine Aa hG Y Y Y Y Y (by omega) ?_)
      | (show AOp _ _ ⟨_, .binOp .sub _ _ _ _, _, _, _, _⟩ _ _ _; first | refine Aq hG Y Y Y Y (by omega) ?_ | refine Aq (m := 1) hG Y Y Y Y (by omega) ?_ | refine Aa hG Y Y Y Y Y (by omega) ?_)
      | (show AOp _ _ ⟨_, .binOp _ _ _ _ _, _, _, _, _⟩ _ _ _; first | refine Au hG Y Y Y Y Y (by omega) ?_ | refine Av hG Y Y Y Y Y (by omega) ?_ | ((fail_if_success have := kk); refine Ao hG Y Y Y Y Y (fun h => ?_) (fun h => ?_)))
      | (show AOp _ _ ⟨_, .load _ _, _, _, _, _⟩ _ _ _; first | refine Ak (α := Nat) 0 hG Y Y Y Y (by omega) Y ?_ | refine Ax hG Y Y Y ?_ | refine A8 0 hG Y Y Y Y ?_)
      | (show AOp _ _ ⟨_, .indexAddr _ _ _, _, _, _, _⟩ _ _ _; first | refine A2 hG Y Y Y Y Y Y Y (by omega) ?_ | refine Aw hG Y Y Y Y Y Y Y (by omega) ?_ | refine Az hG Y Y Y Y Y Y Y (by omega) ?_ | refine A9 hG Y Y ?_)
      | refine Bc hG Y Y Y ?_
      | refine Bn hG Y Y Y ?_
      | (show AOp _ _ ⟨_, .store _ _ _, _, _, _, _⟩ _ _ _; first | refine A0 (α := Nat) 0 hG Y Y Y Ag Bb Y Y (by first | omega | (simp only [Array.size_setIfInBounds]; omega)) ?_ | refine Bh 0 hG Y Y Y Y Y Y Y ?_)
      | refine r_q hG Y Y Y ?_); try exact kk)
    | (show AL _ _ _ _ _ _ _ _; first | refine Bi Y Y Y ?_ | (refine As ?_; first | show AW _ _ _ _ _ _ | show ∃ x', _ < _ ∧ _)) | (show AW _ _ (.seq _ _) _ _ _; refine Ai ?_; intro Q1) | (show AW _ _ (.region _ _ false) _ _ _; (fail_if_success show AW _ _ (.region 8 _ _) _ _ _); refine Ad ?_; intro O1) | (show AW _ _ (.cond _ _ _) _ _ _; first | refine Am Y ?_ | refine Al Y ?_ | refine Bd Y (fun h => ?_) (fun h => ?_)) | (show AW _ _ (.skip) _ _ _; refine Aj ?_; first | show AW _ _ _ _ _ _ | show ∃ x', _ < _ ∧ _) | (show AW _ _ (.block _ _) _ _ _; refine Af ?_; intro Q1) | (show AW _ _ (.exit _) _ _ _; refine Ar ?_; first | show AW _ _ _ _ _ _ | show ∃ x', _ < _ ∧ _) | (show AW _ _ (.ret) _ _ _; refine At ?_; try dsimp only [Ay, Ab, A6, Ah])
    | (show DL _ _ _ _ _ _ _; refine Bu Y Y (fun K kt kf => Ao hG Y Y Y Y Y kt kf) (fun h => ?_) (fun h => ?_))
    | (show DL _ _ _ _ _ _ _; refine Bt Y Y Y ?_) | (show DL _ _ _ _ _ _ _; refine Be ?_; first | show AW _ _ _ _ _ _ | show ∃ x', _ < _ ∧ _) | (show AW _ _ (.region _ _ true) _ _ _; (fail_if_success show AW _ _ (.region 8 _ _) _ _ _); refine A1 mix (by kernel_rfl) ?_; intro O1) | fail)
    refine Ce (m := 14) [13] [7, 11] (fun σ => ∃ c : Array Nat, c.size = n ∧ σ = ⟨[(i, .cells (rowT mT c))], [], off, none⟩) mix Y Y (by repeat (first | exact Sp.zero _ | apply Sp.succ)) ?_; intro O1 F1 Z1 Q2; repeat' (first
    | (refine' dq0_cons Y Y Y Y (fun σ hσ K kk => ?_) ?_; (try (show Go.Ts.T; rotate_left)); (obtain ⟨c, hcn, hcs⟩ := hσ; subst hcs); (first
      | refine Ap hG Y Y ?_
      | refine A3 hG Y Y ?_
      | (show AOp _ _ ⟨_, .binOp .add _ _ _ _, _, _, _, _⟩ _ _ _; first | refine Ac hG Y Y Y Y Y (by omega) ?_ | refine Ac (m := 1) hG Y Y Y Y Y (by omega) ?_ | refine Aa hG Y Y Y Y Y (by omega) ?_)
      | (show AOp _ _ ⟨_, .binOp .sub _ _ _ _, _, _, _, _⟩ _ _ _; first | refine Aq hG Y Y Y Y (by omega) ?_ | refine Aq (m := 1) hG Y Y Y Y (by omega) ?_ | refine r_subU (m := 1) hG Y Y Y Y (by omega) ?_ | refine Aa hG Y Y Y Y Y (by omega) ?_)
      | (show AOp _ _ ⟨_, .binOp _ _ _ _ _, _, _, _, _⟩ _ _ _; first | refine Au hG Y Y Y Y Y (by omega) ?_ | refine Av hG Y Y Y Y Y (by omega) ?_)
      | (show AOp _ _ ⟨_, .load _ _, _, _, _, _⟩ _ _ _; first | refine Ak (α := Nat) 0 hG Y Y Y Y (by omega) Y ?_ | refine Ak (α := Nat) 1 hG Y Y Y Y (by omega) Y ?_ | refine Ax hG Y Y Y ?_ | refine A8 0 hG Y Y Y Y ?_)
      | (show AOp _ _ ⟨_, .indexAddr _ _ _, _, _, _, _⟩ _ _ _; first | refine A2 hG Y Y Y Y Y Y Y (by omega) ?_ | refine Aw hG Y Y Y Y Y Y Y (by omega) ?_ | refine Az hG Y Y Y Y Y Y Y (by omega) ?_ | refine A9 hG Y Y ?_)
      | refine Bc hG Y Y Y ?_
      | refine Bn hG Y Y Y ?_
      | (show AOp _ _ ⟨_, .store _ _ _, _, _, _, _⟩ _ _ _; first | refine A0 (α := Nat) 0 hG Y Y Y Ag Bb Y Y (by first | omega | (simp only [Array.size_setIfInBounds]; omega)) ?_ | refine A0 (α := Nat) 1 hG Y Y Y Ag Bb Y Y (by first | omega | (simp only [Array.size_setIfInBounds]; omega)) ?_ | refine Bh 0 hG Y Y Y Y Y Y Y ?_)
      | refine r_q hG Y Y Y ?_); exact kk)
    | (refine' Cf Y Y Y Y (fun K kk => ?_) ?_; (try (show Go.Ts.T; rotate_left)); (first | refine Ak 0 hG Y Y Y Y (by omega) Y ?_ | refine Ak 1 hG Y Y Y Y (by omega) Y ?_); exact kk)
    | refine dq0_e Y ?_ | (refine dq0_nil ?_; show EL _ _ _ _ _ _ _ _ _)
    | (refine el_consN ⟨_, (by first | assumption | (simp only [Array.size_setIfInBounds]; omega)), Y⟩ Y Y Y (fun K ke => ?_); (first | refine A0 (α := Nat) 0 hG Y Y Y Ag Bb Y Y (by first | omega | (simp only [Array.size_setIfInBounds]; omega)) ?_ | refine A0 (α := Nat) 1 hG Y Y Y Ag Bb Y Y (by first | omega | (simp only [Array.size_setIfInBounds]; omega)) ?_); refine ke (.tup []) _ ?_)
    | (refine el_nil ⟨_, (by first | assumption | (simp only [Array.size_setIfInBounds]; omega)), Y⟩ ?_; show AL _ _ _ _ _ _ _ _) | fail)
    repeat' (first
    | ((first | (show AL _ _ _ _ _ _ _ _; refine Ae Y ?_) | (show DL _ _ _ _ _ _ _; refine' A7 Y Y (fun K kk => ?_) ?_; try (show Go.Ts.T; rotate_left))); (first
      | refine Ap hG Y Y ?_
      | refine A3 hG Y Y ?_
      | (show AOp _ _ ⟨_, .binOp .add _ _ _ _, _, _, _, _⟩ _ _ _; first | refine Ac hG Y Y Y Y Y (by omega) ?_ | refine Ac (m := 1) hG Y Y Y Y Y (by omega) ?_ | refine Aa hG Y Y Y Y Y (by omega) ?_)
      | (show AOp _ _ ⟨_, .binOp .sub _ _ _ _, _, _, _, _⟩ _ _ _; first | refine Aq hG Y Y Y Y (by omega) ?_ | refine Aq (m := 1) hG Y Y Y Y (by omega) ?_ | refine Aa hG Y Y Y Y Y (by omega) ?_)
      | (show AOp _ _ ⟨_, .binOp _ _ _ _ _, _, _, _, _⟩ _ _ _; first | refine Au hG Y Y Y Y Y (by omega) ?_ | refine Av hG Y Y Y Y Y (by omega) ?_ | ((fail_if_success have := kk); refine Ao hG Y Y Y Y Y (fun h => ?_) (fun h => ?_)))
      | (show AOp _ _ ⟨_, .load _ _, _, _, _, _⟩ _ _ _; first | refine Ak (α := Nat) 0 hG Y Y Y Y (by omega) Y ?_ | refine Ax hG Y Y Y ?_ | refine A8 0 hG Y Y Y Y ?_)
      | (show AOp _ _ ⟨_, .indexAddr _ _ _, _, _, _, _⟩ _ _ _; first | refine A2 hG Y Y Y Y Y Y Y (by omega) ?_ | refine Aw hG Y Y Y Y Y Y Y (by omega) ?_ | refine Az hG Y Y Y Y Y Y Y (by omega) ?_ | refine A9 hG Y Y ?_)
      | refine Bc hG Y Y Y ?_
      | refine Bn hG Y Y Y ?_
      | (show AOp _ _ ⟨_, .store _ _ _, _, _, _, _⟩ _ _ _; first | refine A0 (α := Nat) 0 hG Y Y Y Ag Bb Y Y (by first | omega | (simp only [Array.size_setIfInBounds]; omega)) ?_ | refine Bh 0 hG Y Y Y Y Y Y Y ?_)
      | refine r_q hG Y Y Y ?_); try exact kk)
    | (show AL _ _ _ _ _ _ _ _; first | refine Bi Y Y Y ?_ | (refine As ?_; first | show AW _ _ _ _ _ _ | show ∃ x', _ < _ ∧ _)) | (show AW _ _ (.seq _ _) _ _ _; refine Ai ?_; intro Q1) | (show AW _ _ (.region _ _ false) _ _ _; refine Ad ?_; intro O1) | (show AW _ _ (.cond _ _ _) _ _ _; first | refine Am Y ?_ | refine Al Y ?_ | refine Bd Y (fun h => ?_) (fun h => ?_)) | (show AW _ _ (.skip) _ _ _; refine Aj ?_; first | show AW _ _ _ _ _ _ | show ∃ x', _ < _ ∧ _) | (show AW _ _ (.block _ _) _ _ _; refine Af ?_; intro Q1) | (show AW _ _ (.exit _) _ _ _; refine Ar ?_; first | show AW _ _ _ _ _ _ | show ∃ x', _ < _ ∧ _) | (show AW _ _ (.ret) _ _ _; refine At ?_; try dsimp only [Ay, Ab, A6, Ah])
    | (show DL _ _ _ _ _ _ _; refine Bu Y Y (fun K kt kf => Ao hG Y Y Y Y Y kt kf) (fun h => ?_) (fun h => ?_))
    | (show DL _ _ _ _ _ _ _; refine Bt Y Y Y ?_) | (show DL _ _ _ _ _ _ _; refine Be ?_; first | show AW _ _ _ _ _ _ | show ∃ x', _ < _ ∧ _) | (show AW _ _ (.region _ _ true) _ _ _; refine A1 mix (by kernel_rfl) ?_; intro O1) | fail)
    exact ⟨⟨I1 + 1, J1 - 1, swp e I1 J1, by rw [size_swp]; exact hen, by omega, hr⟩, by dsimp only; omega, (by repeat (first | exact .nil _ | refine .cons rfl ?_)), .refl _⟩
end Go.Proofs.Ythfgocinlbogeaa
namespace Go.Ts
theorem aw_to2 {P : Program} {N : Nat} {σ : St} {a : Env} {Q : Exit → Env → St → Prop} {c c2 : Code} (a1 : Env) (σ1 : St)
    (h : AW P N c (Ay (AW P N c2 (fun e a' σ' => e = .normal ∧ Knows a' a1 ∧ σ' = σ1)) (fun e a' σ' => e = .normal ∧ Knows a' a1 ∧ σ' = σ1)) a σ)
    (rest : ∀ a', Knows a' a1 → Q .normal a' σ1) : AW P N c (Ay (AW P N c2 Q) Q) a σ := by
  have key : ∀ e a' σ', (e = Exit.normal ∧ Knows a' a1 ∧ σ' = σ1) → Q e a' σ' := by
    rintro e a' σ' ⟨rfl, hk, rfl⟩; exact rest a' hk
  refine h.mono ?_
  intro e a' σ' h'
  cases e with
  | normal => exact AW.mono h' key
  | _ => exact key _ _ _ h'
end Go.Ts
namespace Go.Proofs.Ythfgocinlbogeaa
open Go.Ts
set_option linter.unusedSimpArgs false
set_option linter.unusedVariables false
attribute [local irreducible] Go.Ts.AW Go.Ts.AOps Go.Ts.AL Go.Ts.AOp Go.Ts.ACalls Go.Ts.DL Go.Ts.DQ0 Go.Ts.EL
open Go.Sort
structure PiX (a b n : Nat) (R : Array Nat × Bool) where
  s : Nat
  i : Nat
  jj : Nat
  d : Array Nat
  hn : d.size = n
  hj : jj + s = 5
  hi : a < i ∧ i ≤ b
  hr : partialIns ltQ a b s i d = R
structure SsX (d : Array Nat) (a b I : Nat) where
  p : Nat
  hp : a < p ∧ p ≤ b
  hr : scanSorted ltQ d b p = I
structure SdX (D : Array Nat) (n top : Nat) where
  p : Nat
  d : Array Nat
  hn : d.size = n
  hp : p ≤ top
  hr : shiftDown ltQ p d = D
structure SuX (D : Array Nat) (b n : Nat) where
  p : Nat
  d : Array Nat
  hn : d.size = n
  hp : 0 < p ∧ p ≤ b + 1
  hr : shiftUp ltQ b p d = D
theorem shiftDown_size : ∀ (p : Nat) (d : Array Nat), (shiftDown ltQ p d).size = d.size
  | 0, d => rfl
  | p + 1, d => by
    rw [shiftDown]; split
    · rfl
    · rw [shiftDown_size, size_swp]
theorem shiftUp_size (b : Nat) : ∀ (m p : Nat) (d : Array Nat), b - p ≤ m → (shiftUp ltQ b p d).size = d.size := by
  intro m
  induction m with
  | zero => intro p d h; rw [shiftUp, if_neg (by omega)]
  | succ m ih =>
    intro p d h
    rw [shiftUp]; split
    · split
      · rfl
      · rw [ih _ _ (by omega), size_swp]
    · rfl
theorem fixDown_size (a i : Nat) (d : Array Nat) : (fixDown ltQ a i d).size = d.size := by
  unfold fixDown; split
  · exact shiftDown_size _ _
  · rfl
theorem fixUp_size (b i : Nat) (d : Array Nat) : (fixUp ltQ b i d).size = d.size := by
  unfold fixUp; split
  · exact shiftUp_size b _ _ _ (Nat.le_refl _)
  · rfl
theorem scanS_ge (d : Array Nat) (b : Nat) : ∀ m p, b - p ≤ m → p ≤ b → p ≤ scanSorted ltQ d b p ∧ scanSorted ltQ d b p ≤ b := by
  intro m
  induction m with
  | zero => intro p h h2; rw [scanSorted, if_neg (by simp; omega)]; omega
  | succ m ih =>
    intro p h h2
    rw [scanSorted]; split
    · rename_i hc; simp at hc; have := ih (p + 1) (by omega) (by omega); omega
    · omega
theorem srt_pins {d0 : Array Nat} {a b : Nat} (hab : a < b) (hb : b ≤ d0.size) (hs : d0.size ≤ 4294967296) : OnRow Try.prog 108 mT [.int .i64 (a : Int), .int .i64 (b : Int)] d0
    (.bool (partialInsertionSort ltQ d0 a b).2) (partialInsertionSort ltQ d0 a b).1 := by
  intro off i n cap hn
  refine Bp (N := 133) (rs := [.tmp 6]) hG Try.func108 rfl rfl rfl rfl rfl ?_
  repeat' (first
    | ((first | (show AL _ _ _ _ _ _ _ _; refine Ae Y ?_) | (show DL _ _ _ _ _ _ _; refine' A7 Y Y (fun K kk => ?_) ?_; try (show Go.Ts.T; rotate_left))); (first
      | refine Ap hG Y Y ?_
      | refine A3 hG Y Y ?_
      | (show AOp _ _ ⟨_, .binOp .add _ _ _ _, _, _, _, _⟩ _ _ _; first | refine Ac hG Y Y Y Y Y (by omega) ?_ | refine Ac (m := 1) hG Y Y Y Y Y (by omega) ?_ | refine Aa hG Y Y Y Y Y (by omega) ?_)
      | (show AOp _ _ ⟨_, .binOp .sub _ _ _ _, _, _, _, _⟩ _ _ _; first | refine Aq hG Y Y Y Y (by omega) ?_ | refine Aq (m := 1) hG Y Y Y Y (by omega) ?_ | refine Aa hG Y Y Y Y Y (by omega) ?_)
      | (show AOp _ _ ⟨_, .binOp _ _ _ _ _, _, _, _, _⟩ _ _ _; first | refine Au hG Y Y Y Y Y (by omega) ?_ | refine Av hG Y Y Y Y Y (by omega) ?_ | ((fail_if_success have := kk); refine Ao hG Y Y Y Y Y (fun h => ?_) (fun h => ?_)))
      | (show AOp _ _ ⟨_, .load _ _, _, _, _, _⟩ _ _ _; first | refine Ak (α := Nat) 0 hG Y Y Y Y (by omega) Y ?_ | refine Ax hG Y Y Y ?_ | refine A8 0 hG Y Y Y Y ?_)
      | (show AOp _ _ ⟨_, .indexAddr _ _ _, _, _, _, _⟩ _ _ _; first | refine A2 hG Y Y Y Y Y Y Y (by omega) ?_ | refine Aw hG Y Y Y Y Y Y Y (by omega) ?_ | refine Az hG Y Y Y Y Y Y Y (by omega) ?_ | refine A9 hG Y Y ?_)
      | refine Bc hG Y Y Y ?_
      | refine Bn hG Y Y Y ?_
      | (show AOp _ _ ⟨_, .store _ _ _, _, _, _, _⟩ _ _ _; first | refine A0 (α := Nat) 0 hG Y Y Y Ag Bb Y Y (by first | omega | (simp only [Array.size_setIfInBounds]; omega)) ?_ | refine Bh 0 hG Y Y Y Y Y Y Y ?_)
      | refine r_q hG Y Y Y ?_); try exact kk)
    | (show AL _ _ _ _ _ _ _ _; first | refine Bi Y Y Y ?_ | (refine As ?_; first | show AW _ _ _ _ _ _ | show ∃ x', _ < _ ∧ _)) | (show AW _ _ (.seq _ _) _ _ _; refine Ai ?_; intro Q1) | (show AW _ _ (.region _ _ false) _ _ _; refine Ad ?_; intro O1) | (show AW _ _ (.cond _ _ _) _ _ _; first | refine Am Y ?_ | refine Al Y ?_ | refine Bd Y (fun h => ?_) (fun h => ?_)) | (show AW _ _ (.skip) _ _ _; refine Aj ?_; first | show AW _ _ _ _ _ _ | show ∃ x', _ < _ ∧ _) | (show AW _ _ (.block _ _) _ _ _; refine Af ?_; intro Q1) | (show AW _ _ (.exit _) _ _ _; refine Ar ?_; first | show AW _ _ _ _ _ _ | show ∃ x', _ < _ ∧ _) | (show AW _ _ (.ret) _ _ _; refine At ?_; try dsimp only [Ay, Ab, A6, Ah])
    | (show DL _ _ _ _ _ _ _; refine Bu Y Y (fun K kt kf => Ao hG Y Y Y Y Y kt kf) (fun h => ?_) (fun h => ?_))
    | (show DL _ _ _ _ _ _ _; refine Bt Y Y Y ?_) | (show DL _ _ _ _ _ _ _; refine Be ?_; first | show AW _ _ _ _ _ _ | show ∃ x', _ < _ ∧ _) | (show AW _ _ (.region _ _ true) _ _ _; refine A1 mix (by kernel_rfl) ?_; intro O1) | fail)
  obtain ⟨R, hR⟩ : ∃ R, partialIns ltQ a b 5 (a + 1) d0 = R := ⟨_, rfl⟩
  have hp : partialInsertionSort ltQ d0 a b = R := hR
  refine aw_loop (X := PiX a b n R) (fun x => [(0, .aref 1 i 0 n cap), (1, .int .i64 (a : Int)), (2, .int .i64 (b : Int)), (7, .int .i64 (x.i : Int)), (8, .int .i64 (x.jj : Int))]) (fun x => ⟨[(i, .cells (rowT mT x.d))], [], off, none⟩) (fun x => x.s) ⟨5, a + 1, 0, d0, hn, rfl, by omega, hR⟩ (by repeat (first | exact .nil _ | refine .cons rfl ?_)) (.refl _) ?_
  clear hR
  rintro ⟨s, p, jj, d, hdn, hj, hi, hr⟩
  dsimp only at hr ⊢
  cases s with
  | zero =>
    rw [partialIns] at hr
    subst hr
    obtain rfl : jj = 5 := by omega
    repeat' (first
    | ((first | (show AL _ _ _ _ _ _ _ _; refine Ae Y ?_) | (show DL _ _ _ _ _ _ _; refine' A7 Y Y (fun K kk => ?_) ?_; try (show Go.Ts.T; rotate_left))); (first
      | refine Ap hG Y Y ?_
      | refine A3 hG Y Y ?_
      | (show AOp _ _ ⟨_, .binOp .add _ _ _ _, _, _, _, _⟩ _ _ _; first | refine Ac hG Y Y Y Y Y (by omega) ?_ | refine Ac (m := 1) hG Y Y Y Y Y (by omega) ?_ | refine Aa hG Y Y Y Y Y (by omega) ?_)
      | (show AOp _ _ ⟨_, .binOp .sub _ _ _ _, _, _, _, _⟩ _ _ _; first | refine Aq hG Y Y Y Y (by omega) ?_ | refine Aq (m := 1) hG Y Y Y Y (by omega) ?_ | refine Aa hG Y Y Y Y Y (by omega) ?_)
      | (show AOp _ _ ⟨_, .binOp _ _ _ _ _, _, _, _, _⟩ _ _ _; first | refine Au hG Y Y Y Y Y (by omega) ?_ | refine Av hG Y Y Y Y Y (by omega) ?_ | ((fail_if_success have := kk); refine Ao hG Y Y Y Y Y (fun h => ?_) (fun h => ?_)))
      | (show AOp _ _ ⟨_, .load _ _, _, _, _, _⟩ _ _ _; first | refine Ak (α := Nat) 0 hG Y Y Y Y (by omega) Y ?_ | refine Ax hG Y Y Y ?_ | refine A8 0 hG Y Y Y Y ?_)
      | (show AOp _ _ ⟨_, .indexAddr _ _ _, _, _, _, _⟩ _ _ _; first | refine A2 hG Y Y Y Y Y Y Y (by omega) ?_ | refine Aw hG Y Y Y Y Y Y Y (by omega) ?_ | refine Az hG Y Y Y Y Y Y Y (by omega) ?_ | refine A9 hG Y Y ?_)
      | refine Bc hG Y Y Y ?_
      | refine Bn hG Y Y Y ?_
      | (show AOp _ _ ⟨_, .store _ _ _, _, _, _, _⟩ _ _ _; first | refine A0 (α := Nat) 0 hG Y Y Y Ag Bb Y Y (by first | omega | (simp only [Array.size_setIfInBounds]; omega)) ?_ | refine Bh 0 hG Y Y Y Y Y Y Y ?_)
      | refine r_q hG Y Y Y ?_); try exact kk)
    | (show AL _ _ _ _ _ _ _ _; first | refine Bi Y Y Y ?_ | (refine As ?_; first | show AW _ _ _ _ _ _ | show ∃ x', _ < _ ∧ _)) | (show AW _ _ (.seq _ _) _ _ _; refine Ai ?_; intro Q1) | (show AW _ _ (.region _ _ false) _ _ _; refine Ad ?_; intro O1) | (show AW _ _ (.cond _ _ _) _ _ _; first | refine Am Y ?_ | refine Al Y ?_ | refine Bd Y (fun h => ?_) (fun h => ?_)) | (show AW _ _ (.skip) _ _ _; refine Aj ?_; first | show AW _ _ _ _ _ _ | show ∃ x', _ < _ ∧ _) | (show AW _ _ (.block _ _) _ _ _; refine Af ?_; intro Q1) | (show AW _ _ (.exit _) _ _ _; refine Ar ?_; first | show AW _ _ _ _ _ _ | show ∃ x', _ < _ ∧ _) | (show AW _ _ (.ret) _ _ _; refine At ?_; try dsimp only [Ay, Ab, A6, Ah])
    | (show DL _ _ _ _ _ _ _; refine Bu Y Y (fun K kt kf => Ao hG Y Y Y Y Y kt kf) (fun h => ?_) (fun h => ?_))
    | (show DL _ _ _ _ _ _ _; refine Bt Y Y Y ?_) | (show DL _ _ _ _ _ _ _; refine Be ?_; first | show AW _ _ _ _ _ _ | show ∃ x', _ < _ ∧ _) | (show AW _ _ (.region _ _ true) _ _ _; refine A1 mix (by kernel_rfl) ?_; intro O1) | fail)
    try dsimp (config := { zetaDelta := true }) only [Ay, Ab]
    rw [hp]
    refine ret_row 0 (Bq rfl Bl) ?_ (.refl _) ?_ <;> rfl
  | succ s =>
    rw [partialIns_succ] at hr
    obtain ⟨I, hI⟩ : ∃ I, scanSorted ltQ d b p = I := ⟨_, rfl⟩
    have gI := scanS_ge d b _ p (Nat.le_refl _) hi.2
    rw [hI] at gI hr
    repeat' (first
    | ((first | (show AL _ _ _ _ _ _ _ _; refine Ae Y ?_) | (show DL _ _ _ _ _ _ _; refine' A7 Y Y (fun K kk => ?_) ?_; try (show Go.Ts.T; rotate_left))); (first
      | refine Ap hG Y Y ?_
      | refine A3 hG Y Y ?_
      | (show AOp _ _ ⟨_, .binOp .add _ _ _ _, _, _, _, _⟩ _ _ _; first | refine Ac hG Y Y Y Y Y (by omega) ?_ | refine Ac (m := 1) hG Y Y Y Y Y (by omega) ?_ | refine Aa hG Y Y Y Y Y (by omega) ?_)
      | (show AOp _ _ ⟨_, .binOp .sub _ _ _ _, _, _, _, _⟩ _ _ _; first | refine Aq hG Y Y Y Y (by omega) ?_ | refine Aq (m := 1) hG Y Y Y Y (by omega) ?_ | refine Aa hG Y Y Y Y Y (by omega) ?_)
      | (show AOp _ _ ⟨_, .binOp _ _ _ _ _, _, _, _, _⟩ _ _ _; first | refine Au hG Y Y Y Y Y (by omega) ?_ | refine Av hG Y Y Y Y Y (by omega) ?_ | ((fail_if_success have := kk); refine Ao hG Y Y Y Y Y (fun h => ?_) (fun h => ?_)))
      | (show AOp _ _ ⟨_, .load _ _, _, _, _, _⟩ _ _ _; first | refine Ak (α := Nat) 0 hG Y Y Y Y (by omega) Y ?_ | refine Ax hG Y Y Y ?_ | refine A8 0 hG Y Y Y Y ?_)
      | (show AOp _ _ ⟨_, .indexAddr _ _ _, _, _, _, _⟩ _ _ _; first | refine A2 hG Y Y Y Y Y Y Y (by omega) ?_ | refine Aw hG Y Y Y Y Y Y Y (by omega) ?_ | refine Az hG Y Y Y Y Y Y Y (by omega) ?_ | refine A9 hG Y Y ?_)
      | refine Bc hG Y Y Y ?_
      | refine Bn hG Y Y Y ?_
      | (show AOp _ _ ⟨_, .store _ _ _, _, _, _, _⟩ _ _ _; first | refine A0 (α := Nat) 0 hG Y Y Y Ag Bb Y Y (by first | omega | (simp only [Array.size_setIfInBounds]; omega)) ?_ | refine Bh 0 hG Y Y Y Y Y Y Y ?_)
      | refine r_q hG Y Y Y ?_); try exact kk)
    | (show AL _ _ _ _ _ _ _ _; first | refine Bi Y Y Y ?_ | (refine As ?_; first | show AW _ _ _ _ _ _ | show ∃ x', _ < _ ∧ _)) | (show AW _ _ (.seq _ _) _ _ _; refine Ai ?_; intro Q1) | (show AW _ _ (.region _ _ false) _ _ _; refine Ad ?_; intro O1) | (show AW _ _ (.cond _ _ _) _ _ _; first | refine Am Y ?_ | refine Al Y ?_ | refine Bd Y (fun h => ?_) (fun h => ?_)) | (show AW _ _ (.skip) _ _ _; refine Aj ?_; first | show AW _ _ _ _ _ _ | show ∃ x', _ < _ ∧ _) | (show AW _ _ (.block _ _) _ _ _; refine Af ?_; intro Q1) | (show AW _ _ (.exit _) _ _ _; refine Ar ?_; first | show AW _ _ _ _ _ _ | show ∃ x', _ < _ ∧ _) | (show AW _ _ (.ret) _ _ _; refine At ?_; try dsimp only [Ay, Ab, A6, Ah])
    | (show DL _ _ _ _ _ _ _; refine Bu Y Y (fun K kt kf => Ao hG Y Y Y Y Y kt kf) (fun h => ?_) (fun h => ?_))
    | (show DL _ _ _ _ _ _ _; refine Bt Y Y Y ?_) | (show DL _ _ _ _ _ _ _; refine Be ?_; first | show AW _ _ _ _ _ _ | show ∃ x', _ < _ ∧ _) | (show AW _ _ (.region _ _ true) _ _ _; refine A1 mix (by kernel_rfl) ?_; intro O1) | fail)
    refine aw_loop_to 2 (X := SsX d a b I) (fun x => [(0, .aref 1 i 0 n cap), (1, .int .i64 (a : Int)), (2, .int .i64 (b : Int)), (7, .int .i64 (x.p : Int)), (8, .int .i64 (jj : Int))]) (fun _ => ⟨[(i, .cells (rowT mT d))], [], off, none⟩) (fun x => b - x.p) ⟨p, by omega, hI⟩ (by repeat (first | exact .nil _ | refine .cons rfl ?_)) (.refl _) [(0, .aref 1 i 0 n cap), (1, .int .i64 (a : Int)), (2, .int .i64 (b : Int)), (7, .int .i64 (I : Int)), (8, .int .i64 (jj : Int))] (⟨[(i, .cells (rowT mT d))], [], off, none⟩) ?_ ?_
    · rintro ⟨q, hq, hrq⟩
      dsimp only at hrq ⊢
      by_cases hqb : q < b
      · repeat' (first
    | ((first | (show AL _ _ _ _ _ _ _ _; refine Ae Y ?_) | (show DL _ _ _ _ _ _ _; refine' A7 Y Y (fun K kk => ?_) ?_; try (show Go.Ts.T; rotate_left))); (first
      | refine Ap hG Y Y ?_
      | refine A3 hG Y Y ?_
      | (show AOp _ _ ⟨_, .binOp .add _ _ _ _, _, _, _, _⟩ _ _ _; first | refine Ac hG Y Y Y Y Y (by omega) ?_ | refine Ac (m := 1) hG Y Y Y Y Y (by omega) ?_ | refine Aa hG Y Y Y Y Y (by omega) ?_)
      | (show AOp _ _ ⟨_, .binOp .sub _ _ _ _, _, _, _, _⟩ _ _ _; first | refine Aq hG Y Y Y Y (by omega) ?_ | refine Aq (m := 1) hG Y Y Y Y (by omega) ?_ | refine Aa hG Y Y Y Y Y (by omega) ?_)
      | (show AOp _ _ ⟨_, .binOp _ _ _ _ _, _, _, _, _⟩ _ _ _; first | refine Au hG Y Y Y Y Y (by omega) ?_ | refine Av hG Y Y Y Y Y (by omega) ?_ | ((fail_if_success have := kk); refine Ao hG Y Y Y Y Y (fun h => ?_) (fun h => ?_)))
      | (show AOp _ _ ⟨_, .load _ _, _, _, _, _⟩ _ _ _; first | refine Ak (α := Nat) 0 hG Y Y Y Y (by omega) Y ?_ | refine Ax hG Y Y Y ?_ | refine A8 0 hG Y Y Y Y ?_)
      | (show AOp _ _ ⟨_, .indexAddr _ _ _, _, _, _, _⟩ _ _ _; first | refine A2 hG Y Y Y Y Y Y Y (by omega) ?_ | refine Aw hG Y Y Y Y Y Y Y (by omega) ?_ | refine Az hG Y Y Y Y Y Y Y (by omega) ?_ | refine A9 hG Y Y ?_)
      | refine Bc hG Y Y Y ?_
      | refine Bn hG Y Y Y ?_
      | (show AOp _ _ ⟨_, .store _ _ _, _, _, _, _⟩ _ _ _; first | refine A0 (α := Nat) 0 hG Y Y Y Ag Bb Y Y (by first | omega | (simp only [Array.size_setIfInBounds]; omega)) ?_ | refine Bh 0 hG Y Y Y Y Y Y Y ?_)
      | (show AOp _ _ ⟨_, .call ⟨.value _, _, _⟩, _, _, _, _⟩ _ _ _; first | refine B0 Y Y Y Y Y (by first | (apply Cg <;> (first | assumption | omega | exact Bf _ _ | exact Bo _ | exact Bk _ _ | exact Bs _ | rfl | (simp; omega))) | fail) ?_ | fail)
      | refine r_q hG Y Y Y ?_); try exact kk)
    | (show AL _ _ _ _ _ _ _ _; first | refine Bi Y Y Y ?_ | (refine As ?_; first | show AW _ _ _ _ _ _ | show ∃ x', _ < _ ∧ _)) | (show AW _ _ (.seq _ _) _ _ _; refine Ai ?_; intro Q1) | (show AW _ _ (.region _ _ false) _ _ _; refine Ad ?_; intro O1) | (show AW _ _ (.cond _ _ _) _ _ _; first | refine Am Y ?_ | refine Al Y ?_ | refine Bd Y (fun h => ?_) (fun h => ?_)) | (show AW _ _ (.skip) _ _ _; refine Aj ?_; first | show AW _ _ _ _ _ _ | show ∃ x', _ < _ ∧ _) | (show AW _ _ (.block _ _) _ _ _; refine Af ?_; intro Q1) | (show AW _ _ (.exit _) _ _ _; refine Ar ?_; first | show AW _ _ _ _ _ _ | show ∃ x', _ < _ ∧ _) | (show AW _ _ (.ret) _ _ _; refine At ?_; try dsimp only [Ay, Ab, A6, Ah])
    | (show DL _ _ _ _ _ _ _; refine Bu Y Y (fun K kt kf => Ao hG Y Y Y Y Y kt kf) (fun h => ?_) (fun h => ?_))
    | (show DL _ _ _ _ _ _ _; refine Bt Y Y Y ?_) | (show DL _ _ _ _ _ _ _; refine Be ?_; first | show AW _ _ _ _ _ _ | show ∃ x', _ < _ ∧ _) | (show AW _ _ (.region _ _ true) _ _ _; refine A1 mix (by kernel_rfl) ?_; intro O1) | fail)
        · rw [scanSorted, if_pos (by simp [hqb]; simpa using h)] at hrq
          exact ⟨⟨q + 1, by omega, hrq⟩, by dsimp only; omega, (by repeat (first | exact .nil _ | refine .cons rfl ?_)), .refl _⟩
        · rw [scanSorted, if_neg (by simp [hqb]; simpa using h)] at hrq
          subst hrq
          (refine Ar ?_; show _ ∧ Knows _ _ ∧ _; exact ⟨rfl, (by repeat (first | exact .nil _ | refine .cons rfl ?_)), rfl⟩)
      · rw [scanSorted, if_neg (by simp [hqb])] at hrq
        subst hrq
        repeat' (first
    | ((first | (show AL _ _ _ _ _ _ _ _; refine Ae Y ?_) | (show DL _ _ _ _ _ _ _; refine' A7 Y Y (fun K kk => ?_) ?_; try (show Go.Ts.T; rotate_left))); (first
      | refine Ap hG Y Y ?_
      | refine A3 hG Y Y ?_
      | (show AOp _ _ ⟨_, .binOp .add _ _ _ _, _, _, _, _⟩ _ _ _; first | refine Ac hG Y Y Y Y Y (by omega) ?_ | refine Ac (m := 1) hG Y Y Y Y Y (by omega) ?_ | refine Aa hG Y Y Y Y Y (by omega) ?_)
      | (show AOp _ _ ⟨_, .binOp .sub _ _ _ _, _, _, _, _⟩ _ _ _; first | refine Aq hG Y Y Y Y (by omega) ?_ | refine Aq (m := 1) hG Y Y Y Y (by omega) ?_ | refine Aa hG Y Y Y Y Y (by omega) ?_)
      | (show AOp _ _ ⟨_, .binOp _ _ _ _ _, _, _, _, _⟩ _ _ _; first | refine Au hG Y Y Y Y Y (by omega) ?_ | refine Av hG Y Y Y Y Y (by omega) ?_ | ((fail_if_success have := kk); refine Ao hG Y Y Y Y Y (fun h => ?_) (fun h => ?_)))
      | (show AOp _ _ ⟨_, .load _ _, _, _, _, _⟩ _ _ _; first | refine Ak (α := Nat) 0 hG Y Y Y Y (by omega) Y ?_ | refine Ax hG Y Y Y ?_ | refine A8 0 hG Y Y Y Y ?_)
      | (show AOp _ _ ⟨_, .indexAddr _ _ _, _, _, _, _⟩ _ _ _; first | refine A2 hG Y Y Y Y Y Y Y (by omega) ?_ | refine Aw hG Y Y Y Y Y Y Y (by omega) ?_ | refine Az hG Y Y Y Y Y Y Y (by omega) ?_ | refine A9 hG Y Y ?_)
      | refine Bc hG Y Y Y ?_
      | refine Bn hG Y Y Y ?_
      | (show AOp _ _ ⟨_, .store _ _ _, _, _, _, _⟩ _ _ _; first | refine A0 (α := Nat) 0 hG Y Y Y Ag Bb Y Y (by first | omega | (simp only [Array.size_setIfInBounds]; omega)) ?_ | refine Bh 0 hG Y Y Y Y Y Y Y ?_)
      | (show AOp _ _ ⟨_, .call ⟨.value _, _, _⟩, _, _, _, _⟩ _ _ _; first | refine B0 Y Y Y Y Y (by first | (apply Cg <;> (first | assumption | omega | exact Bf _ _ | exact Bo _ | exact Bk _ _ | exact Bs _ | rfl | (simp; omega))) | fail) ?_ | fail)
      | refine r_q hG Y Y Y ?_); try exact kk)
    | (show AL _ _ _ _ _ _ _ _; first | refine Bi Y Y Y ?_ | (refine As ?_; first | show AW _ _ _ _ _ _ | show ∃ x', _ < _ ∧ _)) | (show AW _ _ (.seq _ _) _ _ _; refine Ai ?_; intro Q1) | (show AW _ _ (.region _ _ false) _ _ _; refine Ad ?_; intro O1) | (show AW _ _ (.cond _ _ _) _ _ _; first | refine Am Y ?_ | refine Al Y ?_ | refine Bd Y (fun h => ?_) (fun h => ?_)) | (show AW _ _ (.skip) _ _ _; refine Aj ?_; first | show AW _ _ _ _ _ _ | show ∃ x', _ < _ ∧ _) | (show AW _ _ (.block _ _) _ _ _; refine Af ?_; intro Q1) | (show AW _ _ (.exit _) _ _ _; refine Ar ?_; first | show AW _ _ _ _ _ _ | show ∃ x', _ < _ ∧ _) | (show AW _ _ (.ret) _ _ _; refine At ?_; try dsimp only [Ay, Ab, A6, Ah])
    | (show DL _ _ _ _ _ _ _; refine Bu Y Y (fun K kt kf => Ao hG Y Y Y Y Y kt kf) (fun h => ?_) (fun h => ?_))
    | (show DL _ _ _ _ _ _ _; refine Bt Y Y Y ?_) | (show DL _ _ _ _ _ _ _; refine Be ?_; first | show AW _ _ _ _ _ _ | show ∃ x', _ < _ ∧ _) | (show AW _ _ (.region _ _ true) _ _ _; refine A1 mix (by kernel_rfl) ?_; intro O1) | fail)
        (refine Ar ?_; show _ ∧ Knows _ _ ∧ _; exact ⟨rfl, (by repeat (first | exact .nil _ | refine .cons rfl ?_)), rfl⟩)
    intro a' hk
    show AW _ _ _ _ _ _
    refine aw_forget hk ?_
    by_cases h1 : I = b
    · rw [if_pos h1] at hr
      subst hr
      repeat' (first
    | ((first | (show AL _ _ _ _ _ _ _ _; refine Ae Y ?_) | (show DL _ _ _ _ _ _ _; refine' A7 Y Y (fun K kk => ?_) ?_; try (show Go.Ts.T; rotate_left))); (first
      | refine Ap hG Y Y ?_
      | refine A3 hG Y Y ?_
      | (show AOp _ _ ⟨_, .binOp .add _ _ _ _, _, _, _, _⟩ _ _ _; first | refine Ac hG Y Y Y Y Y (by omega) ?_ | refine Ac (m := 1) hG Y Y Y Y Y (by omega) ?_ | refine Aa hG Y Y Y Y Y (by omega) ?_)
      | (show AOp _ _ ⟨_, .binOp .sub _ _ _ _, _, _, _, _⟩ _ _ _; first | refine Aq hG Y Y Y Y (by omega) ?_ | refine Aq (m := 1) hG Y Y Y Y (by omega) ?_ | refine Aa hG Y Y Y Y Y (by omega) ?_)
      | (show AOp _ _ ⟨_, .binOp _ _ _ _ _, _, _, _, _⟩ _ _ _; first | refine Au hG Y Y Y Y Y (by omega) ?_ | refine Av hG Y Y Y Y Y (by omega) ?_ | ((fail_if_success have := kk); refine Ao hG Y Y Y Y Y (fun h => ?_) (fun h => ?_)))
      | (show AOp _ _ ⟨_, .load _ _, _, _, _, _⟩ _ _ _; first | refine Ak (α := Nat) 0 hG Y Y Y Y (by omega) Y ?_ | refine Ax hG Y Y Y ?_ | refine A8 0 hG Y Y Y Y ?_)
      | (show AOp _ _ ⟨_, .indexAddr _ _ _, _, _, _, _⟩ _ _ _; first | refine A2 hG Y Y Y Y Y Y Y (by omega) ?_ | refine Aw hG Y Y Y Y Y Y Y (by omega) ?_ | refine Az hG Y Y Y Y Y Y Y (by omega) ?_ | refine A9 hG Y Y ?_)
      | refine Bc hG Y Y Y ?_
      | refine Bn hG Y Y Y ?_
      | (show AOp _ _ ⟨_, .store _ _ _, _, _, _, _⟩ _ _ _; first | refine A0 (α := Nat) 0 hG Y Y Y Ag Bb Y Y (by first | omega | (simp only [Array.size_setIfInBounds]; omega)) ?_ | refine Bh 0 hG Y Y Y Y Y Y Y ?_)
      | refine r_q hG Y Y Y ?_); try exact kk)
    | (show AL _ _ _ _ _ _ _ _; first | refine Bi Y Y Y ?_ | (refine As ?_; first | show AW _ _ _ _ _ _ | show ∃ x', _ < _ ∧ _)) | (show AW _ _ (.seq _ _) _ _ _; refine Ai ?_; intro Q1) | (show AW _ _ (.region _ _ false) _ _ _; refine Ad ?_; intro O1) | (show AW _ _ (.cond _ _ _) _ _ _; first | refine Am Y ?_ | refine Al Y ?_ | refine Bd Y (fun h => ?_) (fun h => ?_)) | (show AW _ _ (.skip) _ _ _; refine Aj ?_; first | show AW _ _ _ _ _ _ | show ∃ x', _ < _ ∧ _) | (show AW _ _ (.block _ _) _ _ _; refine Af ?_; intro Q1) | (show AW _ _ (.exit _) _ _ _; refine Ar ?_; first | show AW _ _ _ _ _ _ | show ∃ x', _ < _ ∧ _) | (show AW _ _ (.ret) _ _ _; refine At ?_; try dsimp only [Ay, Ab, A6, Ah])
    | (show DL _ _ _ _ _ _ _; refine Bu Y Y (fun K kt kf => Ao hG Y Y Y Y Y kt kf) (fun h => ?_) (fun h => ?_))
    | (show DL _ _ _ _ _ _ _; refine Bt Y Y Y ?_) | (show DL _ _ _ _ _ _ _; refine Be ?_; first | show AW _ _ _ _ _ _ | show ∃ x', _ < _ ∧ _) | (show AW _ _ (.region _ _ true) _ _ _; refine A1 mix (by kernel_rfl) ?_; intro O1) | fail)
      try dsimp (config := { zetaDelta := true }) only [Ay, Ab]
      rw [hp]
      refine ret_row 0 (Bq rfl Bl) ?_ (.refl _) ?_ <;> rfl
    · rw [if_neg h1] at hr
      by_cases h2 : b - a < 50
      · rw [if_pos h2] at hr
        subst hr
        repeat' (first
    | ((first | (show AL _ _ _ _ _ _ _ _; refine Ae Y ?_) | (show DL _ _ _ _ _ _ _; refine' A7 Y Y (fun K kk => ?_) ?_; try (show Go.Ts.T; rotate_left))); (first
      | refine Ap hG Y Y ?_
      | refine A3 hG Y Y ?_
      | (show AOp _ _ ⟨_, .binOp .add _ _ _ _, _, _, _, _⟩ _ _ _; first | refine Ac hG Y Y Y Y Y (by omega) ?_ | refine Ac (m := 1) hG Y Y Y Y Y (by omega) ?_ | refine Aa hG Y Y Y Y Y (by omega) ?_)
      | (show AOp _ _ ⟨_, .binOp .sub _ _ _ _, _, _, _, _⟩ _ _ _; first | refine Aq hG Y Y Y Y (by omega) ?_ | refine Aq (m := 1) hG Y Y Y Y (by omega) ?_ | refine Aa hG Y Y Y Y Y (by omega) ?_)
      | (show AOp _ _ ⟨_, .binOp _ _ _ _ _, _, _, _, _⟩ _ _ _; first | refine Au hG Y Y Y Y Y (by omega) ?_ | refine Av hG Y Y Y Y Y (by omega) ?_ | ((fail_if_success have := kk); refine Ao hG Y Y Y Y Y (fun h => ?_) (fun h => ?_)))
      | (show AOp _ _ ⟨_, .load _ _, _, _, _, _⟩ _ _ _; first | refine Ak (α := Nat) 0 hG Y Y Y Y (by omega) Y ?_ | refine Ax hG Y Y Y ?_ | refine A8 0 hG Y Y Y Y ?_)
      | (show AOp _ _ ⟨_, .indexAddr _ _ _, _, _, _, _⟩ _ _ _; first | refine A2 hG Y Y Y Y Y Y Y (by omega) ?_ | refine Aw hG Y Y Y Y Y Y Y (by omega) ?_ | refine Az hG Y Y Y Y Y Y Y (by omega) ?_ | refine A9 hG Y Y ?_)
      | refine Bc hG Y Y Y ?_
      | refine Bn hG Y Y Y ?_
      | (show AOp _ _ ⟨_, .store _ _ _, _, _, _, _⟩ _ _ _; first | refine A0 (α := Nat) 0 hG Y Y Y Ag Bb Y Y (by first | omega | (simp only [Array.size_setIfInBounds]; omega)) ?_ | refine Bh 0 hG Y Y Y Y Y Y Y ?_)
      | refine r_q hG Y Y Y ?_); try exact kk)
    | (show AL _ _ _ _ _ _ _ _; first | refine Bi Y Y Y ?_ | (refine As ?_; first | show AW _ _ _ _ _ _ | show ∃ x', _ < _ ∧ _)) | (show AW _ _ (.seq _ _) _ _ _; refine Ai ?_; intro Q1) | (show AW _ _ (.region _ _ false) _ _ _; refine Ad ?_; intro O1) | (show AW _ _ (.cond _ _ _) _ _ _; first | refine Am Y ?_ | refine Al Y ?_ | refine Bd Y (fun h => ?_) (fun h => ?_)) | (show AW _ _ (.skip) _ _ _; refine Aj ?_; first | show AW _ _ _ _ _ _ | show ∃ x', _ < _ ∧ _) | (show AW _ _ (.block _ _) _ _ _; refine Af ?_; intro Q1) | (show AW _ _ (.exit _) _ _ _; refine Ar ?_; first | show AW _ _ _ _ _ _ | show ∃ x', _ < _ ∧ _) | (show AW _ _ (.ret) _ _ _; refine At ?_; try dsimp only [Ay, Ab, A6, Ah])
    | (show DL _ _ _ _ _ _ _; refine Bu Y Y (fun K kt kf => Ao hG Y Y Y Y Y kt kf) (fun h => ?_) (fun h => ?_))
    | (show DL _ _ _ _ _ _ _; refine Bt Y Y Y ?_) | (show DL _ _ _ _ _ _ _; refine Be ?_; first | show AW _ _ _ _ _ _ | show ∃ x', _ < _ ∧ _) | (show AW _ _ (.region _ _ true) _ _ _; refine A1 mix (by kernel_rfl) ?_; intro O1) | fail)
        try dsimp (config := { zetaDelta := true }) only [Ay, Ab]
        rw [hp]
        refine ret_row 0 (Bq rfl Bl) ?_ (.refl _) ?_ <;> rfl
      · rw [if_neg h2] at hr
        repeat' (first
    | ((first | (show AL _ _ _ _ _ _ _ _; refine Ae Y ?_) | (show DL _ _ _ _ _ _ _; refine' A7 Y Y (fun K kk => ?_) ?_; try (show Go.Ts.T; rotate_left))); (first
      | refine Ap hG Y Y ?_
      | refine A3 hG Y Y ?_
      | (show AOp _ _ ⟨_, .binOp .add _ _ _ _, _, _, _, _⟩ _ _ _; first | refine Ac hG Y Y Y Y Y (by omega) ?_ | refine Ac (m := 1) hG Y Y Y Y Y (by omega) ?_ | refine Aa hG Y Y Y Y Y (by omega) ?_)
      | (show AOp _ _ ⟨_, .binOp .sub _ _ _ _, _, _, _, _⟩ _ _ _; first | refine Aq hG Y Y Y Y (by omega) ?_ | refine Aq (m := 1) hG Y Y Y Y (by omega) ?_ | refine Aa hG Y Y Y Y Y (by omega) ?_)
      | (show AOp _ _ ⟨_, .binOp _ _ _ _ _, _, _, _, _⟩ _ _ _; first | refine Au hG Y Y Y Y Y (by omega) ?_ | refine Av hG Y Y Y Y Y (by omega) ?_ | ((fail_if_success have := kk); refine Ao hG Y Y Y Y Y (fun h => ?_) (fun h => ?_)))
      | (show AOp _ _ ⟨_, .load _ _, _, _, _, _⟩ _ _ _; first | refine Ak (α := Nat) 0 hG Y Y Y Y (by omega) Y ?_ | refine Ax hG Y Y Y ?_ | refine A8 0 hG Y Y Y Y ?_)
      | (show AOp _ _ ⟨_, .indexAddr _ _ _, _, _, _, _⟩ _ _ _; first | refine A2 hG Y Y Y Y Y Y Y (by omega) ?_ | refine Aw hG Y Y Y Y Y Y Y (by omega) ?_ | refine Az hG Y Y Y Y Y Y Y (by omega) ?_ | refine A9 hG Y Y ?_)
      | refine Bc hG Y Y Y ?_
      | refine Bn hG Y Y Y ?_
      | (show AOp _ _ ⟨_, .store _ _ _, _, _, _, _⟩ _ _ _; first | refine A0 (α := Nat) 0 hG Y Y Y Ag Bb Y Y (by first | omega | (simp only [Array.size_setIfInBounds]; omega)) ?_ | refine Bh 0 hG Y Y Y Y Y Y Y ?_)
      | refine r_q hG Y Y Y ?_); try exact kk)
    | (show AL _ _ _ _ _ _ _ _; first | refine Bi Y Y Y ?_ | (refine As ?_; first | show AW _ _ _ _ _ _ | show ∃ x', _ < _ ∧ _)) | (show AW _ _ (.seq _ _) _ _ _; refine Ai ?_; intro Q1) | (show AW _ _ (.region _ _ false) _ _ _; (fail_if_success show AW _ _ (.region 11 _ _) _ _ _); refine Ad ?_; intro O1) | (show AW _ _ (.cond _ _ _) _ _ _; first | refine Am Y ?_ | refine Al Y ?_ | refine Bd Y (fun h => ?_) (fun h => ?_)) | (show AW _ _ (.skip) _ _ _; refine Aj ?_; first | show AW _ _ _ _ _ _ | show ∃ x', _ < _ ∧ _) | (show AW _ _ (.block _ _) _ _ _; refine Af ?_; intro Q1) | (show AW _ _ (.exit _) _ _ _; refine Ar ?_; first | show AW _ _ _ _ _ _ | show ∃ x', _ < _ ∧ _) | (show AW _ _ (.ret) _ _ _; refine At ?_; try dsimp only [Ay, Ab, A6, Ah])
    | (show DL _ _ _ _ _ _ _; refine Bu Y Y (fun K kt kf => Ao hG Y Y Y Y Y kt kf) (fun h => ?_) (fun h => ?_))
    | (show DL _ _ _ _ _ _ _; refine Bt Y Y Y ?_) | (show DL _ _ _ _ _ _ _; refine Be ?_; first | show AW _ _ _ _ _ _ | show ∃ x', _ < _ ∧ _) | (show AW _ _ (.region _ _ true) _ _ _; (fail_if_success show AW _ _ (.region 11 _ _) _ _ _); refine A1 mix (by kernel_rfl) ?_; intro O1) | fail)
        refine Ce (m := 16) [15] [9, 13] (fun σ => ∃ c : Array Nat, c.size = n ∧ σ = ⟨[(i, .cells (rowT mT c))], [], off, none⟩) mix Y Y (by repeat (first | exact Sp.zero _ | apply Sp.succ)) ?_; intro O1 F1 Z1 Q2; repeat' (first
    | (refine' dq0_cons Y Y Y Y (fun σ hσ K kk => ?_) ?_; (try (show Go.Ts.T; rotate_left)); (obtain ⟨c, hcn, hcs⟩ := hσ; subst hcs); (first
      | refine Ap hG Y Y ?_
      | refine A3 hG Y Y ?_
      | (show AOp _ _ ⟨_, .binOp .add _ _ _ _, _, _, _, _⟩ _ _ _; first | refine Ac hG Y Y Y Y Y (by omega) ?_ | refine Ac (m := 1) hG Y Y Y Y Y (by omega) ?_ | refine Aa hG Y Y Y Y Y (by omega) ?_)
      | (show AOp _ _ ⟨_, .binOp .sub _ _ _ _, _, _, _, _⟩ _ _ _; first | refine Aq hG Y Y Y Y (by omega) ?_ | refine Aq (m := 1) hG Y Y Y Y (by omega) ?_ | refine r_subU (m := 1) hG Y Y Y Y (by omega) ?_ | refine Aa hG Y Y Y Y Y (by omega) ?_)
      | (show AOp _ _ ⟨_, .binOp _ _ _ _ _, _, _, _, _⟩ _ _ _; first | refine Au hG Y Y Y Y Y (by omega) ?_ | refine Av hG Y Y Y Y Y (by omega) ?_)
      | (show AOp _ _ ⟨_, .load _ _, _, _, _, _⟩ _ _ _; first | refine Ak (α := Nat) 0 hG Y Y Y Y (by omega) Y ?_ | refine Ak (α := Nat) 1 hG Y Y Y Y (by omega) Y ?_ | refine Ax hG Y Y Y ?_ | refine A8 0 hG Y Y Y Y ?_)
      | (show AOp _ _ ⟨_, .indexAddr _ _ _, _, _, _, _⟩ _ _ _; first | refine A2 hG Y Y Y Y Y Y Y (by omega) ?_ | refine Aw hG Y Y Y Y Y Y Y (by omega) ?_ | refine Az hG Y Y Y Y Y Y Y (by omega) ?_ | refine A9 hG Y Y ?_)
      | refine Bc hG Y Y Y ?_
      | refine Bn hG Y Y Y ?_
      | (show AOp _ _ ⟨_, .store _ _ _, _, _, _, _⟩ _ _ _; first | refine A0 (α := Nat) 0 hG Y Y Y Ag Bb Y Y (by first | omega | (simp only [Array.size_setIfInBounds]; omega)) ?_ | refine A0 (α := Nat) 1 hG Y Y Y Ag Bb Y Y (by first | omega | (simp only [Array.size_setIfInBounds]; omega)) ?_ | refine Bh 0 hG Y Y Y Y Y Y Y ?_)
      | refine r_q hG Y Y Y ?_); exact kk)
    | (refine' Cf Y Y Y Y (fun K kk => ?_) ?_; (try (show Go.Ts.T; rotate_left)); (first | refine Ak 0 hG Y Y Y Y (by omega) Y ?_ | refine Ak 1 hG Y Y Y Y (by omega) Y ?_); exact kk)
    | refine dq0_e Y ?_ | (refine dq0_nil ?_; show EL _ _ _ _ _ _ _ _ _)
    | (refine el_consN ⟨_, (by first | assumption | (simp only [Array.size_setIfInBounds]; omega)), Y⟩ Y Y Y (fun K ke => ?_); (first | refine A0 (α := Nat) 0 hG Y Y Y Ag Bb Y Y (by first | omega | (simp only [Array.size_setIfInBounds]; omega)) ?_ | refine A0 (α := Nat) 1 hG Y Y Y Ag Bb Y Y (by first | omega | (simp only [Array.size_setIfInBounds]; omega)) ?_); refine ke (.tup []) _ ?_)
    | (refine el_nil ⟨_, (by first | assumption | (simp only [Array.size_setIfInBounds]; omega)), Y⟩ ?_; show AL _ _ _ _ _ _ _ _) | fail)
        repeat' (first
    | ((first | (show AL _ _ _ _ _ _ _ _; refine Ae Y ?_) | (show DL _ _ _ _ _ _ _; refine' A7 Y Y (fun K kk => ?_) ?_; try (show Go.Ts.T; rotate_left))); (first
      | refine Ap hG Y Y ?_
      | refine A3 hG Y Y ?_
      | (show AOp _ _ ⟨_, .binOp .add _ _ _ _, _, _, _, _⟩ _ _ _; first | refine Ac hG Y Y Y Y Y (by omega) ?_ | refine Ac (m := 1) hG Y Y Y Y Y (by omega) ?_ | refine Aa hG Y Y Y Y Y (by omega) ?_)
      | (show AOp _ _ ⟨_, .binOp .sub _ _ _ _, _, _, _, _⟩ _ _ _; first | refine Aq hG Y Y Y Y (by omega) ?_ | refine Aq (m := 1) hG Y Y Y Y (by omega) ?_ | refine Aa hG Y Y Y Y Y (by omega) ?_)
      | (show AOp _ _ ⟨_, .binOp _ _ _ _ _, _, _, _, _⟩ _ _ _; first | refine Au hG Y Y Y Y Y (by omega) ?_ | refine Av hG Y Y Y Y Y (by omega) ?_ | ((fail_if_success have := kk); refine Ao hG Y Y Y Y Y (fun h => ?_) (fun h => ?_)))
      | (show AOp _ _ ⟨_, .load _ _, _, _, _, _⟩ _ _ _; first | refine Ak (α := Nat) 0 hG Y Y Y Y (by omega) Y ?_ | refine Ax hG Y Y Y ?_ | refine A8 0 hG Y Y Y Y ?_)
      | (show AOp _ _ ⟨_, .indexAddr _ _ _, _, _, _, _⟩ _ _ _; first | refine A2 hG Y Y Y Y Y Y Y (by omega) ?_ | refine Aw hG Y Y Y Y Y Y Y (by omega) ?_ | refine Az hG Y Y Y Y Y Y Y (by omega) ?_ | refine A9 hG Y Y ?_)
      | refine Bc hG Y Y Y ?_
      | refine Bn hG Y Y Y ?_
      | (show AOp _ _ ⟨_, .store _ _ _, _, _, _, _⟩ _ _ _; first | refine A0 (α := Nat) 0 hG Y Y Y Ag Bb Y Y (by first | omega | (simp only [Array.size_setIfInBounds]; omega)) ?_ | refine Bh 0 hG Y Y Y Y Y Y Y ?_)
      | refine r_q hG Y Y Y ?_); try exact kk)
    | (show AL _ _ _ _ _ _ _ _; first | refine Bi Y Y Y ?_ | (refine As ?_; first | show AW _ _ _ _ _ _ | show ∃ x', _ < _ ∧ _)) | (show AW _ _ (.seq _ _) _ _ _; refine Ai ?_; intro Q1) | (show AW _ _ (.region _ _ false) _ _ _; (fail_if_success show AW _ _ (.region 12 _ _) _ _ _); refine Ad ?_; intro O1) | (show AW _ _ (.cond _ _ _) _ _ _; first | refine Am Y ?_ | refine Al Y ?_ | refine Bd Y (fun h => ?_) (fun h => ?_)) | (show AW _ _ (.skip) _ _ _; refine Aj ?_; first | show AW _ _ _ _ _ _ | show ∃ x', _ < _ ∧ _) | (show AW _ _ (.block _ _) _ _ _; refine Af ?_; intro Q1) | (show AW _ _ (.exit _) _ _ _; refine Ar ?_; first | show AW _ _ _ _ _ _ | show ∃ x', _ < _ ∧ _) | (show AW _ _ (.ret) _ _ _; refine At ?_; try dsimp only [Ay, Ab, A6, Ah])
    | (show DL _ _ _ _ _ _ _; refine Bu Y Y (fun K kt kf => Ao hG Y Y Y Y Y kt kf) (fun h => ?_) (fun h => ?_))
    | (show DL _ _ _ _ _ _ _; refine Bt Y Y Y ?_) | (show DL _ _ _ _ _ _ _; refine Be ?_; first | show AW _ _ _ _ _ _ | show ∃ x', _ < _ ∧ _) | (show AW _ _ (.region _ _ true) _ _ _; (fail_if_success show AW _ _ (.region 12 _ _) _ _ _); refine A1 mix (by kernel_rfl) ?_; intro O1) | fail)
        have hsn : (swp d I (I - 1)).size = n := by rw [size_swp]; exact hdn
        refine aw_to2 [(0, .aref 1 i 0 n cap), (1, .int .i64 (a : Int)), (2, .int .i64 (b : Int)), (7, .int .i64 (I : Int)), (8, .int .i64 (jj : Int))] (⟨[(i, .cells (rowT mT (fixDown ltQ a I (swp d I (I - 1)))))], [], off, none⟩) ?_ ?_
        · by_cases h3 : I - a ≥ 2
          · obtain ⟨D, hD⟩ : ∃ D, shiftDown ltQ (I - 1) (swp d I (I - 1)) = D := ⟨_, rfl⟩
            have hf : fixDown ltQ a I (swp d I (I - 1)) = D := by unfold fixDown; rw [if_pos h3]; exact hD
            rw [hf]
            repeat' (first
    | ((first | (show AL _ _ _ _ _ _ _ _; refine Ae Y ?_) | (show DL _ _ _ _ _ _ _; refine' A7 Y Y (fun K kk => ?_) ?_; try (show Go.Ts.T; rotate_left))); (first
      | refine Ap hG Y Y ?_
      | refine A3 hG Y Y ?_
      | (show AOp _ _ ⟨_, .binOp .add _ _ _ _, _, _, _, _⟩ _ _ _; first | refine Ac hG Y Y Y Y Y (by omega) ?_ | refine Ac (m := 1) hG Y Y Y Y Y (by omega) ?_ | refine Aa hG Y Y Y Y Y (by omega) ?_)
      | (show AOp _ _ ⟨_, .binOp .sub _ _ _ _, _, _, _, _⟩ _ _ _; first | refine Aq hG Y Y Y Y (by omega) ?_ | refine Aq (m := 1) hG Y Y Y Y (by omega) ?_ | refine Aa hG Y Y Y Y Y (by omega) ?_)
      | (show AOp _ _ ⟨_, .binOp _ _ _ _ _, _, _, _, _⟩ _ _ _; first | refine Au hG Y Y Y Y Y (by omega) ?_ | refine Av hG Y Y Y Y Y (by omega) ?_ | ((fail_if_success have := kk); refine Ao hG Y Y Y Y Y (fun h => ?_) (fun h => ?_)))
      | (show AOp _ _ ⟨_, .load _ _, _, _, _, _⟩ _ _ _; first | refine Ak (α := Nat) 0 hG Y Y Y Y (by omega) Y ?_ | refine Ax hG Y Y Y ?_ | refine A8 0 hG Y Y Y Y ?_)
      | (show AOp _ _ ⟨_, .indexAddr _ _ _, _, _, _, _⟩ _ _ _; first | refine A2 hG Y Y Y Y Y Y Y (by omega) ?_ | refine Aw hG Y Y Y Y Y Y Y (by omega) ?_ | refine Az hG Y Y Y Y Y Y Y (by omega) ?_ | refine A9 hG Y Y ?_)
      | refine Bc hG Y Y Y ?_
      | refine Bn hG Y Y Y ?_
      | (show AOp _ _ ⟨_, .store _ _ _, _, _, _, _⟩ _ _ _; first | refine A0 (α := Nat) 0 hG Y Y Y Ag Bb Y Y (by first | omega | (simp only [Array.size_setIfInBounds]; omega)) ?_ | refine Bh 0 hG Y Y Y Y Y Y Y ?_)
      | refine r_q hG Y Y Y ?_); try exact kk)
    | (show AL _ _ _ _ _ _ _ _; first | refine Bi Y Y Y ?_ | (refine As ?_; first | show AW _ _ _ _ _ _ | show ∃ x', _ < _ ∧ _)) | (show AW _ _ (.seq _ _) _ _ _; refine Ai ?_; intro Q1) | (show AW _ _ (.region _ _ false) _ _ _; refine Ad ?_; intro O1) | (show AW _ _ (.cond _ _ _) _ _ _; first | refine Am Y ?_ | refine Al Y ?_ | refine Bd Y (fun h => ?_) (fun h => ?_)) | (show AW _ _ (.skip) _ _ _; refine Aj ?_; first | show AW _ _ _ _ _ _ | show ∃ x', _ < _ ∧ _) | (show AW _ _ (.block _ _) _ _ _; refine Af ?_; intro Q1) | (show AW _ _ (.exit _) _ _ _; refine Ar ?_; first | show AW _ _ _ _ _ _ | show ∃ x', _ < _ ∧ _) | (show AW _ _ (.ret) _ _ _; refine At ?_; try dsimp only [Ay, Ab, A6, Ah])
    | (show DL _ _ _ _ _ _ _; refine Bu Y Y (fun K kt kf => Ao hG Y Y Y Y Y kt kf) (fun h => ?_) (fun h => ?_))
    | (show DL _ _ _ _ _ _ _; refine Bt Y Y Y ?_) | (show DL _ _ _ _ _ _ _; refine Be ?_; first | show AW _ _ _ _ _ _ | show ∃ x', _ < _ ∧ _) | (show AW _ _ (.region _ _ true) _ _ _; refine A1 mix (by kernel_rfl) ?_; intro O1) | fail)
            refine aw_loop_to 4 (X := SdX D n (I - 1)) (fun x => [(0, .aref 1 i 0 n cap), (1, .int .i64 (a : Int)), (2, .int .i64 (b : Int)), (7, .int .i64 (I : Int)), (8, .int .i64 (jj : Int)), (9, .int .i64 (x.p : Int))]) (fun x => ⟨[(i, .cells (rowT mT x.d))], [], off, none⟩) (fun x => x.p) ⟨I - 1, swp d I (I - 1), hsn, Nat.le_refl _, hD⟩ (by repeat (first | exact .nil _ | refine .cons rfl ?_)) (.refl _) [(0, .aref 1 i 0 n cap), (1, .int .i64 (a : Int)), (2, .int .i64 (b : Int)), (7, .int .i64 (I : Int)), (8, .int .i64 (jj : Int))] (⟨[(i, .cells (rowT mT D))], [], off, none⟩) ?_ ?_
            · rintro ⟨q, e, hen, hq, hrq⟩
              dsimp only at hrq ⊢
              cases q with
              | zero =>
                rw [shiftDown] at hrq
                subst hrq
                repeat' (first
    | ((first | (show AL _ _ _ _ _ _ _ _; refine Ae Y ?_) | (show DL _ _ _ _ _ _ _; refine' A7 Y Y (fun K kk => ?_) ?_; try (show Go.Ts.T; rotate_left))); (first
      | refine Ap hG Y Y ?_
      | refine A3 hG Y Y ?_
      | (show AOp _ _ ⟨_, .binOp .add _ _ _ _, _, _, _, _⟩ _ _ _; first | refine Ac hG Y Y Y Y Y (by omega) ?_ | refine Ac (m := 1) hG Y Y Y Y Y (by omega) ?_ | refine Aa hG Y Y Y Y Y (by omega) ?_)
      | (show AOp _ _ ⟨_, .binOp .sub _ _ _ _, _, _, _, _⟩ _ _ _; first | refine Aq hG Y Y Y Y (by omega) ?_ | refine Aq (m := 1) hG Y Y Y Y (by omega) ?_ | refine Aa hG Y Y Y Y Y (by omega) ?_)
      | (show AOp _ _ ⟨_, .binOp _ _ _ _ _, _, _, _, _⟩ _ _ _; first | refine Au hG Y Y Y Y Y (by omega) ?_ | refine Av hG Y Y Y Y Y (by omega) ?_ | ((fail_if_success have := kk); refine Ao hG Y Y Y Y Y (fun h => ?_) (fun h => ?_)))
      | (show AOp _ _ ⟨_, .load _ _, _, _, _, _⟩ _ _ _; first | refine Ak (α := Nat) 0 hG Y Y Y Y (by omega) Y ?_ | refine Ax hG Y Y Y ?_ | refine A8 0 hG Y Y Y Y ?_)
      | (show AOp _ _ ⟨_, .indexAddr _ _ _, _, _, _, _⟩ _ _ _; first | refine A2 hG Y Y Y Y Y Y Y (by omega) ?_ | refine Aw hG Y Y Y Y Y Y Y (by omega) ?_ | refine Az hG Y Y Y Y Y Y Y (by omega) ?_ | refine A9 hG Y Y ?_)
      | refine Bc hG Y Y Y ?_
      | refine Bn hG Y Y Y ?_
      | (show AOp _ _ ⟨_, .store _ _ _, _, _, _, _⟩ _ _ _; first | refine A0 (α := Nat) 0 hG Y Y Y Ag Bb Y Y (by first | omega | (simp only [Array.size_setIfInBounds]; omega)) ?_ | refine Bh 0 hG Y Y Y Y Y Y Y ?_)
      | (show AOp _ _ ⟨_, .call ⟨.value _, _, _⟩, _, _, _, _⟩ _ _ _; first | refine B0 Y Y Y Y Y (by first | (apply Cg <;> (first | assumption | omega | exact Bf _ _ | exact Bo _ | exact Bk _ _ | exact Bs _ | rfl | (simp; omega))) | fail) ?_ | fail)
      | refine r_q hG Y Y Y ?_); try exact kk)
    | (show AL _ _ _ _ _ _ _ _; first | refine Bi Y Y Y ?_ | (refine As ?_; first | show AW _ _ _ _ _ _ | show ∃ x', _ < _ ∧ _)) | (show AW _ _ (.seq _ _) _ _ _; refine Ai ?_; intro Q1) | (show AW _ _ (.region _ _ false) _ _ _; refine Ad ?_; intro O1) | (show AW _ _ (.cond _ _ _) _ _ _; first | refine Am Y ?_ | refine Al Y ?_ | refine Bd Y (fun h => ?_) (fun h => ?_)) | (show AW _ _ (.skip) _ _ _; refine Aj ?_; first | show AW _ _ _ _ _ _ | show ∃ x', _ < _ ∧ _) | (show AW _ _ (.block _ _) _ _ _; refine Af ?_; intro Q1) | (show AW _ _ (.exit _) _ _ _; refine Ar ?_; first | show AW _ _ _ _ _ _ | show ∃ x', _ < _ ∧ _) | (show AW _ _ (.ret) _ _ _; refine At ?_; try dsimp only [Ay, Ab, A6, Ah])
    | (show DL _ _ _ _ _ _ _; refine Bu Y Y (fun K kt kf => Ao hG Y Y Y Y Y kt kf) (fun h => ?_) (fun h => ?_))
    | (show DL _ _ _ _ _ _ _; refine Bt Y Y Y ?_) | (show DL _ _ _ _ _ _ _; refine Be ?_; first | show AW _ _ _ _ _ _ | show ∃ x', _ < _ ∧ _) | (show AW _ _ (.region _ _ true) _ _ _; refine A1 mix (by kernel_rfl) ?_; intro O1) | fail)
                (refine Ar ?_; show _ ∧ Knows _ _ ∧ _; exact ⟨rfl, (by repeat (first | exact .nil _ | refine .cons rfl ?_)), rfl⟩)
              | succ m =>
                rw [shiftDown] at hrq
                repeat' (first
    | ((first | (show AL _ _ _ _ _ _ _ _; refine Ae Y ?_) | (show DL _ _ _ _ _ _ _; refine' A7 Y Y (fun K kk => ?_) ?_; try (show Go.Ts.T; rotate_left))); (first
      | refine Ap hG Y Y ?_
      | refine A3 hG Y Y ?_
      | (show AOp _ _ ⟨_, .binOp .add _ _ _ _, _, _, _, _⟩ _ _ _; first | refine Ac hG Y Y Y Y Y (by omega) ?_ | refine Ac (m := 1) hG Y Y Y Y Y (by omega) ?_ | refine Aa hG Y Y Y Y Y (by omega) ?_)
      | (show AOp _ _ ⟨_, .binOp .sub _ _ _ _, _, _, _, _⟩ _ _ _; first | refine Aq hG Y Y Y Y (by omega) ?_ | refine Aq (m := 1) hG Y Y Y Y (by omega) ?_ | refine Aa hG Y Y Y Y Y (by omega) ?_)
      | (show AOp _ _ ⟨_, .binOp _ _ _ _ _, _, _, _, _⟩ _ _ _; first | refine Au hG Y Y Y Y Y (by omega) ?_ | refine Av hG Y Y Y Y Y (by omega) ?_ | ((fail_if_success have := kk); refine Ao hG Y Y Y Y Y (fun h => ?_) (fun h => ?_)))
      | (show AOp _ _ ⟨_, .load _ _, _, _, _, _⟩ _ _ _; first | refine Ak (α := Nat) 0 hG Y Y Y Y (by omega) Y ?_ | refine Ax hG Y Y Y ?_ | refine A8 0 hG Y Y Y Y ?_)
      | (show AOp _ _ ⟨_, .indexAddr _ _ _, _, _, _, _⟩ _ _ _; first | refine A2 hG Y Y Y Y Y Y Y (by omega) ?_ | refine Aw hG Y Y Y Y Y Y Y (by omega) ?_ | refine Az hG Y Y Y Y Y Y Y (by omega) ?_ | refine A9 hG Y Y ?_)
      | refine Bc hG Y Y Y ?_
      | refine Bn hG Y Y Y ?_
      | (show AOp _ _ ⟨_, .store _ _ _, _, _, _, _⟩ _ _ _; first | refine A0 (α := Nat) 0 hG Y Y Y Ag Bb Y Y (by first | omega | (simp only [Array.size_setIfInBounds]; omega)) ?_ | refine Bh 0 hG Y Y Y Y Y Y Y ?_)
      | (show AOp _ _ ⟨_, .call ⟨.value _, _, _⟩, _, _, _, _⟩ _ _ _; first | refine B0 Y Y Y Y Y (by first | (apply Cg <;> (first | assumption | omega | exact Bf _ _ | exact Bo _ | exact Bk _ _ | exact Bs _ | rfl | (simp; omega))) | fail) ?_ | fail)
      | refine r_q hG Y Y Y ?_); try exact kk)
    | (show AL _ _ _ _ _ _ _ _; first | refine Bi Y Y Y ?_ | (refine As ?_; first | show AW _ _ _ _ _ _ | show ∃ x', _ < _ ∧ _)) | (show AW _ _ (.seq _ _) _ _ _; refine Ai ?_; intro Q1) | (show AW _ _ (.region _ _ false) _ _ _; (fail_if_success show AW _ _ (.region 17 _ _) _ _ _); refine Ad ?_; intro O1) | (show AW _ _ (.cond _ _ _) _ _ _; first | refine Am Y ?_ | refine Al Y ?_ | refine Bd Y (fun h => ?_) (fun h => ?_)) | (show AW _ _ (.skip) _ _ _; refine Aj ?_; first | show AW _ _ _ _ _ _ | show ∃ x', _ < _ ∧ _) | (show AW _ _ (.block _ _) _ _ _; refine Af ?_; intro Q1) | (show AW _ _ (.exit _) _ _ _; refine Ar ?_; first | show AW _ _ _ _ _ _ | show ∃ x', _ < _ ∧ _) | (show AW _ _ (.ret) _ _ _; refine At ?_; try dsimp only [Ay, Ab, A6, Ah])
    | (show DL _ _ _ _ _ _ _; refine Bu Y Y (fun K kt kf => Ao hG Y Y Y Y Y kt kf) (fun h => ?_) (fun h => ?_))
    | (show DL _ _ _ _ _ _ _; refine Bt Y Y Y ?_) | (show DL _ _ _ _ _ _ _; refine Be ?_; first | show AW _ _ _ _ _ _ | show ∃ x', _ < _ ∧ _) | (show AW _ _ (.region _ _ true) _ _ _; (fail_if_success show AW _ _ (.region 17 _ _) _ _ _); refine A1 mix (by kernel_rfl) ?_; intro O1) | fail)
                · rw [if_pos (show (!ltQ e[m + 1]! e[m]!) = true from h)] at hrq
                  subst hrq
                  (refine Ar ?_; show _ ∧ Knows _ _ ∧ _; exact ⟨rfl, (by repeat (first | exact .nil _ | refine .cons rfl ?_)), rfl⟩)
                · rw [if_neg (by rw [show (!ltQ e[m + 1]! e[m]!) = false from h]; simp)] at hrq
                  refine Ce (m := 16) [15] [9, 13] (fun σ => ∃ c : Array Nat, c.size = n ∧ σ = ⟨[(i, .cells (rowT mT c))], [], off, none⟩) mix Y Y (by repeat (first | exact Sp.zero _ | apply Sp.succ)) ?_; intro O1 F1 Z1 Q2; repeat' (first
    | (refine' dq0_cons Y Y Y Y (fun σ hσ K kk => ?_) ?_; (try (show Go.Ts.T; rotate_left)); (obtain ⟨c, hcn, hcs⟩ := hσ; subst hcs); (first
      | refine Ap hG Y Y ?_
      | refine A3 hG Y Y ?_
      | (show AOp _ _ ⟨_, .binOp .add _ _ _ _, _, _, _, _⟩ _ _ _; first | refine Ac hG Y Y Y Y Y (by omega) ?_ | refine Ac (m := 1) hG Y Y Y Y Y (by omega) ?_ | refine Aa hG Y Y Y Y Y (by omega) ?_)
      | (show AOp _ _ ⟨_, .binOp .sub _ _ _ _, _, _, _, _⟩ _ _ _; first | refine Aq hG Y Y Y Y (by omega) ?_ | refine Aq (m := 1) hG Y Y Y Y (by omega) ?_ | refine r_subU (m := 1) hG Y Y Y Y (by omega) ?_ | refine Aa hG Y Y Y Y Y (by omega) ?_)
      | (show AOp _ _ ⟨_, .binOp _ _ _ _ _, _, _, _, _⟩ _ _ _; first | refine Au hG Y Y Y Y Y (by omega) ?_ | refine Av hG Y Y Y Y Y (by omega) ?_)
      | (show AOp _ _ ⟨_, .load _ _, _, _, _, _⟩ _ _ _; first | refine Ak (α := Nat) 0 hG Y Y Y Y (by omega) Y ?_ | refine Ak (α := Nat) 1 hG Y Y Y Y (by omega) Y ?_ | refine Ax hG Y Y Y ?_ | refine A8 0 hG Y Y Y Y ?_)
      | (show AOp _ _ ⟨_, .indexAddr _ _ _, _, _, _, _⟩ _ _ _; first | refine A2 hG Y Y Y Y Y Y Y (by omega) ?_ | refine Aw hG Y Y Y Y Y Y Y (by omega) ?_ | refine Az hG Y Y Y Y Y Y Y (by omega) ?_ | refine A9 hG Y Y ?_)
      | refine Bc hG Y Y Y ?_
      | refine Bn hG Y Y Y ?_
      | (show AOp _ _ ⟨_, .store _ _ _, _, _, _, _⟩ _ _ _; first | refine A0 (α := Nat) 0 hG Y Y Y Ag Bb Y Y (by first | omega | (simp only [Array.size_setIfInBounds]; omega)) ?_ | refine A0 (α := Nat) 1 hG Y Y Y Ag Bb Y Y (by first | omega | (simp only [Array.size_setIfInBounds]; omega)) ?_ | refine Bh 0 hG Y Y Y Y Y Y Y ?_)
      | refine r_q hG Y Y Y ?_); exact kk)
    | (refine' Cf Y Y Y Y (fun K kk => ?_) ?_; (try (show Go.Ts.T; rotate_left)); (first | refine Ak 0 hG Y Y Y Y (by omega) Y ?_ | refine Ak 1 hG Y Y Y Y (by omega) Y ?_); exact kk)
    | refine dq0_e Y ?_ | (refine dq0_nil ?_; show EL _ _ _ _ _ _ _ _ _)
    | (refine el_consN ⟨_, (by first | assumption | (simp only [Array.size_setIfInBounds]; omega)), Y⟩ Y Y Y (fun K ke => ?_); (first | refine A0 (α := Nat) 0 hG Y Y Y Ag Bb Y Y (by first | omega | (simp only [Array.size_setIfInBounds]; omega)) ?_ | refine A0 (α := Nat) 1 hG Y Y Y Ag Bb Y Y (by first | omega | (simp only [Array.size_setIfInBounds]; omega)) ?_); refine ke (.tup []) _ ?_)
    | (refine el_nil ⟨_, (by first | assumption | (simp only [Array.size_setIfInBounds]; omega)), Y⟩ ?_; show AL _ _ _ _ _ _ _ _) | fail)
                  repeat' (first
    | ((first | (show AL _ _ _ _ _ _ _ _; refine Ae Y ?_) | (show DL _ _ _ _ _ _ _; refine' A7 Y Y (fun K kk => ?_) ?_; try (show Go.Ts.T; rotate_left))); (first
      | refine Ap hG Y Y ?_
      | refine A3 hG Y Y ?_
      | (show AOp _ _ ⟨_, .binOp .add _ _ _ _, _, _, _, _⟩ _ _ _; first | refine Ac hG Y Y Y Y Y (by omega) ?_ | refine Ac (m := 1) hG Y Y Y Y Y (by omega) ?_ | refine Aa hG Y Y Y Y Y (by omega) ?_)
      | (show AOp _ _ ⟨_, .binOp .sub _ _ _ _, _, _, _, _⟩ _ _ _; first | refine Aq hG Y Y Y Y (by omega) ?_ | refine Aq (m := 1) hG Y Y Y Y (by omega) ?_ | refine Aa hG Y Y Y Y Y (by omega) ?_)
      | (show AOp _ _ ⟨_, .binOp _ _ _ _ _, _, _, _, _⟩ _ _ _; first | refine Au hG Y Y Y Y Y (by omega) ?_ | refine Av hG Y Y Y Y Y (by omega) ?_ | ((fail_if_success have := kk); refine Ao hG Y Y Y Y Y (fun h => ?_) (fun h => ?_)))
      | (show AOp _ _ ⟨_, .load _ _, _, _, _, _⟩ _ _ _; first | refine Ak (α := Nat) 0 hG Y Y Y Y (by omega) Y ?_ | refine Ax hG Y Y Y ?_ | refine A8 0 hG Y Y Y Y ?_)
      | (show AOp _ _ ⟨_, .indexAddr _ _ _, _, _, _, _⟩ _ _ _; first | refine A2 hG Y Y Y Y Y Y Y (by omega) ?_ | refine Aw hG Y Y Y Y Y Y Y (by omega) ?_ | refine Az hG Y Y Y Y Y Y Y (by omega) ?_ | refine A9 hG Y Y ?_)
      | refine Bc hG Y Y Y ?_
      | refine Bn hG Y Y Y ?_
      | (show AOp _ _ ⟨_, .store _ _ _, _, _, _, _⟩ _ _ _; first | refine A0 (α := Nat) 0 hG Y Y Y Ag Bb Y Y (by first | omega | (simp only [Array.size_setIfInBounds]; omega)) ?_ | refine Bh 0 hG Y Y Y Y Y Y Y ?_)
      | refine r_q hG Y Y Y ?_); try exact kk)
    | (show AL _ _ _ _ _ _ _ _; first | refine Bi Y Y Y ?_ | (refine As ?_; first | show AW _ _ _ _ _ _ | show ∃ x', _ < _ ∧ _)) | (show AW _ _ (.seq _ _) _ _ _; refine Ai ?_; intro Q1) | (show AW _ _ (.region _ _ false) _ _ _; refine Ad ?_; intro O1) | (show AW _ _ (.cond _ _ _) _ _ _; first | refine Am Y ?_ | refine Al Y ?_ | refine Bd Y (fun h => ?_) (fun h => ?_)) | (show AW _ _ (.skip) _ _ _; refine Aj ?_; first | show AW _ _ _ _ _ _ | show ∃ x', _ < _ ∧ _) | (show AW _ _ (.block _ _) _ _ _; refine Af ?_; intro Q1) | (show AW _ _ (.exit _) _ _ _; refine Ar ?_; first | show AW _ _ _ _ _ _ | show ∃ x', _ < _ ∧ _) | (show AW _ _ (.ret) _ _ _; refine At ?_; try dsimp only [Ay, Ab, A6, Ah])
    | (show DL _ _ _ _ _ _ _; refine Bu Y Y (fun K kt kf => Ao hG Y Y Y Y Y kt kf) (fun h => ?_) (fun h => ?_))
    | (show DL _ _ _ _ _ _ _; refine Bt Y Y Y ?_) | (show DL _ _ _ _ _ _ _; refine Be ?_; first | show AW _ _ _ _ _ _ | show ∃ x', _ < _ ∧ _) | (show AW _ _ (.region _ _ true) _ _ _; refine A1 mix (by kernel_rfl) ?_; intro O1) | fail)
                  exact ⟨⟨m, swp e (m + 1) m, by rw [size_swp]; exact hen, by omega, hrq⟩, by dsimp only; omega, (by repeat (first | exact .nil _ | refine .cons rfl ?_)), .refl _⟩
            · intro a' hk
              exact ⟨rfl, hk, rfl⟩
          · have hf : fixDown ltQ a I (swp d I (I - 1)) = swp d I (I - 1) := by unfold fixDown; rw [if_neg h3]
            rw [hf]
            repeat' (first
    | ((first | (show AL _ _ _ _ _ _ _ _; refine Ae Y ?_) | (show DL _ _ _ _ _ _ _; refine' A7 Y Y (fun K kk => ?_) ?_; try (show Go.Ts.T; rotate_left))); (first
      | refine Ap hG Y Y ?_
      | refine A3 hG Y Y ?_
      | (show AOp _ _ ⟨_, .binOp .add _ _ _ _, _, _, _, _⟩ _ _ _; first | refine Ac hG Y Y Y Y Y (by omega) ?_ | refine Ac (m := 1) hG Y Y Y Y Y (by omega) ?_ | refine Aa hG Y Y Y Y Y (by omega) ?_)
      | (show AOp _ _ ⟨_, .binOp .sub _ _ _ _, _, _, _, _⟩ _ _ _; first | refine Aq hG Y Y Y Y (by omega) ?_ | refine Aq (m := 1) hG Y Y Y Y (by omega) ?_ | refine Aa hG Y Y Y Y Y (by omega) ?_)
      | (show AOp _ _ ⟨_, .binOp _ _ _ _ _, _, _, _, _⟩ _ _ _; first | refine Au hG Y Y Y Y Y (by omega) ?_ | refine Av hG Y Y Y Y Y (by omega) ?_ | ((fail_if_success have := kk); refine Ao hG Y Y Y Y Y (fun h => ?_) (fun h => ?_)))
      | (show AOp _ _ ⟨_, .load _ _, _, _, _, _⟩ _ _ _; first | refine Ak (α := Nat) 0 hG Y Y Y Y (by omega) Y ?_ | refine Ax hG Y Y Y ?_ | refine A8 0 hG Y Y Y Y ?_)
      | (show AOp _ _ ⟨_, .indexAddr _ _ _, _, _, _, _⟩ _ _ _; first | refine A2 hG Y Y Y Y Y Y Y (by omega) ?_ | refine Aw hG Y Y Y Y Y Y Y (by omega) ?_ | refine Az hG Y Y Y Y Y Y Y (by omega) ?_ | refine A9 hG Y Y ?_)
      | refine Bc hG Y Y Y ?_
      | refine Bn hG Y Y Y ?_
      | (show AOp _ _ ⟨_, .store _ _ _, _, _, _, _⟩ _ _ _; first | refine A0 (α := Nat) 0 hG Y Y Y Ag Bb Y Y (by first | omega | (simp only [Array.size_setIfInBounds]; omega)) ?_ | refine Bh 0 hG Y Y Y Y Y Y Y ?_)
      | refine r_q hG Y Y Y ?_); try exact kk)
    | (show AL _ _ _ _ _ _ _ _; first | refine Bi Y Y Y ?_ | (refine As ?_; first | show AW _ _ _ _ _ _ | show ∃ x', _ < _ ∧ _)) | (show AW _ _ (.seq _ _) _ _ _; refine Ai ?_; intro Q1) | (show AW _ _ (.region _ _ false) _ _ _; refine Ad ?_; intro O1) | (show AW _ _ (.cond _ _ _) _ _ _; first | refine Am Y ?_ | refine Al Y ?_ | refine Bd Y (fun h => ?_) (fun h => ?_)) | (show AW _ _ (.skip) _ _ _; refine Aj ?_; first | show AW _ _ _ _ _ _ | show ∃ x', _ < _ ∧ _) | (show AW _ _ (.block _ _) _ _ _; refine Af ?_; intro Q1) | (show AW _ _ (.exit _) _ _ _; refine Ar ?_; first | show AW _ _ _ _ _ _ | show ∃ x', _ < _ ∧ _) | (show AW _ _ (.ret) _ _ _; refine At ?_; try dsimp only [Ay, Ab, A6, Ah])
    | (show DL _ _ _ _ _ _ _; refine Bu Y Y (fun K kt kf => Ao hG Y Y Y Y Y kt kf) (fun h => ?_) (fun h => ?_))
    | (show DL _ _ _ _ _ _ _; refine Bt Y Y Y ?_) | (show DL _ _ _ _ _ _ _; refine Be ?_; first | show AW _ _ _ _ _ _ | show ∃ x', _ < _ ∧ _) | (show AW _ _ (.region _ _ true) _ _ _; refine A1 mix (by kernel_rfl) ?_; intro O1) | fail)
            refine Aj ?_
            exact ⟨rfl, (by repeat (first | exact .nil _ | refine .cons rfl ?_)), rfl⟩
        intro a' hk
        show AW _ _ _ _ _ _
        refine aw_forget hk ?_
        have hfn : (fixDown ltQ a I (swp d I (I - 1))).size = n := by rw [fixDown_size]; exact hsn
        obtain ⟨g, hg⟩ : ∃ g, fixDown ltQ a I (swp d I (I - 1)) = g := ⟨_, rfl⟩
        rw [hg] at hr hfn ⊢
        repeat' (first
    | ((first | (show AL _ _ _ _ _ _ _ _; refine Ae Y ?_) | (show DL _ _ _ _ _ _ _; refine' A7 Y Y (fun K kk => ?_) ?_; try (show Go.Ts.T; rotate_left))); (first
      | refine Ap hG Y Y ?_
      | refine A3 hG Y Y ?_
      | (show AOp _ _ ⟨_, .binOp .add _ _ _ _, _, _, _, _⟩ _ _ _; first | refine Ac hG Y Y Y Y Y (by omega) ?_ | refine Ac (m := 1) hG Y Y Y Y Y (by omega) ?_ | refine Aa hG Y Y Y Y Y (by omega) ?_)
      | (show AOp _ _ ⟨_, .binOp .sub _ _ _ _, _, _, _, _⟩ _ _ _; first | refine Aq hG Y Y Y Y (by omega) ?_ | refine Aq (m := 1) hG Y Y Y Y (by omega) ?_ | refine Aa hG Y Y Y Y Y (by omega) ?_)
      | (show AOp _ _ ⟨_, .binOp _ _ _ _ _, _, _, _, _⟩ _ _ _; first | refine Au hG Y Y Y Y Y (by omega) ?_ | refine Av hG Y Y Y Y Y (by omega) ?_ | ((fail_if_success have := kk); refine Ao hG Y Y Y Y Y (fun h => ?_) (fun h => ?_)))
      | (show AOp _ _ ⟨_, .load _ _, _, _, _, _⟩ _ _ _; first | refine Ak (α := Nat) 0 hG Y Y Y Y (by omega) Y ?_ | refine Ax hG Y Y Y ?_ | refine A8 0 hG Y Y Y Y ?_)
      | (show AOp _ _ ⟨_, .indexAddr _ _ _, _, _, _, _⟩ _ _ _; first | refine A2 hG Y Y Y Y Y Y Y (by omega) ?_ | refine Aw hG Y Y Y Y Y Y Y (by omega) ?_ | refine Az hG Y Y Y Y Y Y Y (by omega) ?_ | refine A9 hG Y Y ?_)
      | refine Bc hG Y Y Y ?_
      | refine Bn hG Y Y Y ?_
      | (show AOp _ _ ⟨_, .store _ _ _, _, _, _, _⟩ _ _ _; first | refine A0 (α := Nat) 0 hG Y Y Y Ag Bb Y Y (by first | omega | (simp only [Array.size_setIfInBounds]; omega)) ?_ | refine Bh 0 hG Y Y Y Y Y Y Y ?_)
      | refine r_q hG Y Y Y ?_); try exact kk)
    | (show AL _ _ _ _ _ _ _ _; first | refine Bi Y Y Y ?_ | (refine As ?_; first | show AW _ _ _ _ _ _ | show ∃ x', _ < _ ∧ _)) | (show AW _ _ (.seq _ _) _ _ _; refine Ai ?_; intro Q1) | (show AW _ _ (.region _ _ false) _ _ _; (fail_if_success show AW _ _ (.region 18 _ _) _ _ _); refine Ad ?_; intro O1) | (show AW _ _ (.cond _ _ _) _ _ _; first | refine Am Y ?_ | refine Al Y ?_ | refine Bd Y (fun h => ?_) (fun h => ?_)) | (show AW _ _ (.skip) _ _ _; refine Aj ?_; first | show AW _ _ _ _ _ _ | show ∃ x', _ < _ ∧ _) | (show AW _ _ (.block _ _) _ _ _; refine Af ?_; intro Q1) | (show AW _ _ (.exit _) _ _ _; refine Ar ?_; first | show AW _ _ _ _ _ _ | show ∃ x', _ < _ ∧ _) | (show AW _ _ (.ret) _ _ _; refine At ?_; try dsimp only [Ay, Ab, A6, Ah])
    | (show DL _ _ _ _ _ _ _; refine Bu Y Y (fun K kt kf => Ao hG Y Y Y Y Y kt kf) (fun h => ?_) (fun h => ?_))
    | (show DL _ _ _ _ _ _ _; refine Bt Y Y Y ?_) | (show DL _ _ _ _ _ _ _; refine Be ?_; first | show AW _ _ _ _ _ _ | show ∃ x', _ < _ ∧ _) | (show AW _ _ (.region _ _ true) _ _ _; (fail_if_success show AW _ _ (.region 18 _ _) _ _ _); refine A1 mix (by kernel_rfl) ?_; intro O1) | fail)
        refine aw_to2 [(0, .aref 1 i 0 n cap), (1, .int .i64 (a : Int)), (2, .int .i64 (b : Int)), (7, .int .i64 (I : Int)), (8, .int .i64 (jj : Int))] (⟨[(i, .cells (rowT mT (fixUp ltQ b I g)))], [], off, none⟩) ?_ ?_
        · by_cases h3 : b - I ≥ 2
          · obtain ⟨D, hD⟩ : ∃ D, shiftUp ltQ b (I + 1) g = D := ⟨_, rfl⟩
            have hf : fixUp ltQ b I g = D := by unfold fixUp; rw [if_pos h3]; exact hD
            rw [hf]
            repeat' (first
    | ((first | (show AL _ _ _ _ _ _ _ _; refine Ae Y ?_) | (show DL _ _ _ _ _ _ _; refine' A7 Y Y (fun K kk => ?_) ?_; try (show Go.Ts.T; rotate_left))); (first
      | refine Ap hG Y Y ?_
      | refine A3 hG Y Y ?_
      | (show AOp _ _ ⟨_, .binOp .add _ _ _ _, _, _, _, _⟩ _ _ _; first | refine Ac hG Y Y Y Y Y (by omega) ?_ | refine Ac (m := 1) hG Y Y Y Y Y (by omega) ?_ | refine Aa hG Y Y Y Y Y (by omega) ?_)
      | (show AOp _ _ ⟨_, .binOp .sub _ _ _ _, _, _, _, _⟩ _ _ _; first | refine Aq hG Y Y Y Y (by omega) ?_ | refine Aq (m := 1) hG Y Y Y Y (by omega) ?_ | refine Aa hG Y Y Y Y Y (by omega) ?_)
      | (show AOp _ _ ⟨_, .binOp _ _ _ _ _, _, _, _, _⟩ _ _ _; first | refine Au hG Y Y Y Y Y (by omega) ?_ | refine Av hG Y Y Y Y Y (by omega) ?_ | ((fail_if_success have := kk); refine Ao hG Y Y Y Y Y (fun h => ?_) (fun h => ?_)))
      | (show AOp _ _ ⟨_, .load _ _, _, _, _, _⟩ _ _ _; first | refine Ak (α := Nat) 0 hG Y Y Y Y (by omega) Y ?_ | refine Ax hG Y Y Y ?_ | refine A8 0 hG Y Y Y Y ?_)
      | (show AOp _ _ ⟨_, .indexAddr _ _ _, _, _, _, _⟩ _ _ _; first | refine A2 hG Y Y Y Y Y Y Y (by omega) ?_ | refine Aw hG Y Y Y Y Y Y Y (by omega) ?_ | refine Az hG Y Y Y Y Y Y Y (by omega) ?_ | refine A9 hG Y Y ?_)
      | refine Bc hG Y Y Y ?_
      | refine Bn hG Y Y Y ?_
      | (show AOp _ _ ⟨_, .store _ _ _, _, _, _, _⟩ _ _ _; first | refine A0 (α := Nat) 0 hG Y Y Y Ag Bb Y Y (by first | omega | (simp only [Array.size_setIfInBounds]; omega)) ?_ | refine Bh 0 hG Y Y Y Y Y Y Y ?_)
      | refine r_q hG Y Y Y ?_); try exact kk)
    | (show AL _ _ _ _ _ _ _ _; first | refine Bi Y Y Y ?_ | (refine As ?_; first | show AW _ _ _ _ _ _ | show ∃ x', _ < _ ∧ _)) | (show AW _ _ (.seq _ _) _ _ _; refine Ai ?_; intro Q1) | (show AW _ _ (.region _ _ false) _ _ _; refine Ad ?_; intro O1) | (show AW _ _ (.cond _ _ _) _ _ _; first | refine Am Y ?_ | refine Al Y ?_ | refine Bd Y (fun h => ?_) (fun h => ?_)) | (show AW _ _ (.skip) _ _ _; refine Aj ?_; first | show AW _ _ _ _ _ _ | show ∃ x', _ < _ ∧ _) | (show AW _ _ (.block _ _) _ _ _; refine Af ?_; intro Q1) | (show AW _ _ (.exit _) _ _ _; refine Ar ?_; first | show AW _ _ _ _ _ _ | show ∃ x', _ < _ ∧ _) | (show AW _ _ (.ret) _ _ _; refine At ?_; try dsimp only [Ay, Ab, A6, Ah])
    | (show DL _ _ _ _ _ _ _; refine Bu Y Y (fun K kt kf => Ao hG Y Y Y Y Y kt kf) (fun h => ?_) (fun h => ?_))
    | (show DL _ _ _ _ _ _ _; refine Bt Y Y Y ?_) | (show DL _ _ _ _ _ _ _; refine Be ?_; first | show AW _ _ _ _ _ _ | show ∃ x', _ < _ ∧ _) | (show AW _ _ (.region _ _ true) _ _ _; refine A1 mix (by kernel_rfl) ?_; intro O1) | fail)
            refine aw_loop_to 6 (X := SuX D b n) (fun x => [(0, .aref 1 i 0 n cap), (1, .int .i64 (a : Int)), (2, .int .i64 (b : Int)), (7, .int .i64 (I : Int)), (8, .int .i64 (jj : Int)), (10, .int .i64 (x.p : Int))]) (fun x => ⟨[(i, .cells (rowT mT x.d))], [], off, none⟩) (fun x => b - x.p) ⟨I + 1, g, hfn, by omega, hD⟩ (by repeat (first | exact .nil _ | refine .cons rfl ?_)) (.refl _) [(0, .aref 1 i 0 n cap), (1, .int .i64 (a : Int)), (2, .int .i64 (b : Int)), (7, .int .i64 (I : Int)), (8, .int .i64 (jj : Int))] (⟨[(i, .cells (rowT mT D))], [], off, none⟩) ?_ ?_
            · rintro ⟨q, e, hen, hq, hrq⟩
              dsimp only at hrq ⊢
              by_cases hqb : q < b
              · rw [shiftUp, if_pos hqb] at hrq
                repeat' (first
    | ((first | (show AL _ _ _ _ _ _ _ _; refine Ae Y ?_) | (show DL _ _ _ _ _ _ _; refine' A7 Y Y (fun K kk => ?_) ?_; try (show Go.Ts.T; rotate_left))); (first
      | refine Ap hG Y Y ?_
      | refine A3 hG Y Y ?_
      | (show AOp _ _ ⟨_, .binOp .add _ _ _ _, _, _, _, _⟩ _ _ _; first | refine Ac hG Y Y Y Y Y (by omega) ?_ | refine Ac (m := 1) hG Y Y Y Y Y (by omega) ?_ | refine Aa hG Y Y Y Y Y (by omega) ?_)
      | (show AOp _ _ ⟨_, .binOp .sub _ _ _ _, _, _, _, _⟩ _ _ _; first | refine Aq hG Y Y Y Y (by omega) ?_ | refine Aq (m := 1) hG Y Y Y Y (by omega) ?_ | refine Aa hG Y Y Y Y Y (by omega) ?_)
      | (show AOp _ _ ⟨_, .binOp _ _ _ _ _, _, _, _, _⟩ _ _ _; first | refine Au hG Y Y Y Y Y (by omega) ?_ | refine Av hG Y Y Y Y Y (by omega) ?_ | ((fail_if_success have := kk); refine Ao hG Y Y Y Y Y (fun h => ?_) (fun h => ?_)))
      | (show AOp _ _ ⟨_, .load _ _, _, _, _, _⟩ _ _ _; first | refine Ak (α := Nat) 0 hG Y Y Y Y (by omega) Y ?_ | refine Ax hG Y Y Y ?_ | refine A8 0 hG Y Y Y Y ?_)
      | (show AOp _ _ ⟨_, .indexAddr _ _ _, _, _, _, _⟩ _ _ _; first | refine A2 hG Y Y Y Y Y Y Y (by omega) ?_ | refine Aw hG Y Y Y Y Y Y Y (by omega) ?_ | refine Az hG Y Y Y Y Y Y Y (by omega) ?_ | refine A9 hG Y Y ?_)
      | refine Bc hG Y Y Y ?_
      | refine Bn hG Y Y Y ?_
      | (show AOp _ _ ⟨_, .store _ _ _, _, _, _, _⟩ _ _ _; first | refine A0 (α := Nat) 0 hG Y Y Y Ag Bb Y Y (by first | omega | (simp only [Array.size_setIfInBounds]; omega)) ?_ | refine Bh 0 hG Y Y Y Y Y Y Y ?_)
      | (show AOp _ _ ⟨_, .call ⟨.value _, _, _⟩, _, _, _, _⟩ _ _ _; first | refine B0 Y Y Y Y Y (by first | (apply Cg <;> (first | assumption | omega | exact Bf _ _ | exact Bo _ | exact Bk _ _ | exact Bs _ | rfl | (simp; omega))) | fail) ?_ | fail)
      | refine r_q hG Y Y Y ?_); try exact kk)
    | (show AL _ _ _ _ _ _ _ _; first | refine Bi Y Y Y ?_ | (refine As ?_; first | show AW _ _ _ _ _ _ | show ∃ x', _ < _ ∧ _)) | (show AW _ _ (.seq _ _) _ _ _; refine Ai ?_; intro Q1) | (show AW _ _ (.region _ _ false) _ _ _; (fail_if_success show AW _ _ (.region 23 _ _) _ _ _); refine Ad ?_; intro O1) | (show AW _ _ (.cond _ _ _) _ _ _; first | refine Am Y ?_ | refine Al Y ?_ | refine Bd Y (fun h => ?_) (fun h => ?_)) | (show AW _ _ (.skip) _ _ _; refine Aj ?_; first | show AW _ _ _ _ _ _ | show ∃ x', _ < _ ∧ _) | (show AW _ _ (.block _ _) _ _ _; refine Af ?_; intro Q1) | (show AW _ _ (.exit _) _ _ _; refine Ar ?_; first | show AW _ _ _ _ _ _ | show ∃ x', _ < _ ∧ _) | (show AW _ _ (.ret) _ _ _; refine At ?_; try dsimp only [Ay, Ab, A6, Ah])
    | (show DL _ _ _ _ _ _ _; refine Bu Y Y (fun K kt kf => Ao hG Y Y Y Y Y kt kf) (fun h => ?_) (fun h => ?_))
    | (show DL _ _ _ _ _ _ _; refine Bt Y Y Y ?_) | (show DL _ _ _ _ _ _ _; refine Be ?_; first | show AW _ _ _ _ _ _ | show ∃ x', _ < _ ∧ _) | (show AW _ _ (.region _ _ true) _ _ _; (fail_if_success show AW _ _ (.region 23 _ _) _ _ _); refine A1 mix (by kernel_rfl) ?_; intro O1) | fail)
                · rw [if_pos h] at hrq
                  subst hrq
                  (refine Ar ?_; show _ ∧ Knows _ _ ∧ _; exact ⟨rfl, (by repeat (first | exact .nil _ | refine .cons rfl ?_)), rfl⟩)
                · rw [if_neg (by rw [h]; simp)] at hrq
                  refine Ce (m := 16) [15] [9, 13] (fun σ => ∃ c : Array Nat, c.size = n ∧ σ = ⟨[(i, .cells (rowT mT c))], [], off, none⟩) mix Y Y (by repeat (first | exact Sp.zero _ | apply Sp.succ)) ?_; intro O1 F1 Z1 Q2; repeat' (first
    | (refine' dq0_cons Y Y Y Y (fun σ hσ K kk => ?_) ?_; (try (show Go.Ts.T; rotate_left)); (obtain ⟨c, hcn, hcs⟩ := hσ; subst hcs); (first
      | refine Ap hG Y Y ?_
      | refine A3 hG Y Y ?_
      | (show AOp _ _ ⟨_, .binOp .add _ _ _ _, _, _, _, _⟩ _ _ _; first | refine Ac hG Y Y Y Y Y (by omega) ?_ | refine Ac (m := 1) hG Y Y Y Y Y (by omega) ?_ | refine Aa hG Y Y Y Y Y (by omega) ?_)
      | (show AOp _ _ ⟨_, .binOp .sub _ _ _ _, _, _, _, _⟩ _ _ _; first | refine Aq hG Y Y Y Y (by omega) ?_ | refine Aq (m := 1) hG Y Y Y Y (by omega) ?_ | refine r_subU (m := 1) hG Y Y Y Y (by omega) ?_ | refine Aa hG Y Y Y Y Y (by omega) ?_)
      | (show AOp _ _ ⟨_, .binOp _ _ _ _ _, _, _, _, _⟩ _ _ _; first | refine Au hG Y Y Y Y Y (by omega) ?_ | refine Av hG Y Y Y Y Y (by omega) ?_)
      | (show AOp _ _ ⟨_, .load _ _, _, _, _, _⟩ _ _ _; first | refine Ak (α := Nat) 0 hG Y Y Y Y (by omega) Y ?_ | refine Ak (α := Nat) 1 hG Y Y Y Y (by omega) Y ?_ | refine Ax hG Y Y Y ?_ | refine A8 0 hG Y Y Y Y ?_)
      | (show AOp _ _ ⟨_, .indexAddr _ _ _, _, _, _, _⟩ _ _ _; first | refine A2 hG Y Y Y Y Y Y Y (by omega) ?_ | refine Aw hG Y Y Y Y Y Y Y (by omega) ?_ | refine Az hG Y Y Y Y Y Y Y (by omega) ?_ | refine A9 hG Y Y ?_)
      | refine Bc hG Y Y Y ?_
      | refine Bn hG Y Y Y ?_
      | (show AOp _ _ ⟨_, .store _ _ _, _, _, _, _⟩ _ _ _; first | refine A0 (α := Nat) 0 hG Y Y Y Ag Bb Y Y (by first | omega | (simp only [Array.size_setIfInBounds]; omega)) ?_ | refine A0 (α := Nat) 1 hG Y Y Y Ag Bb Y Y (by first | omega | (simp only [Array.size_setIfInBounds]; omega)) ?_ | refine Bh 0 hG Y Y Y Y Y Y Y ?_)
      | refine r_q hG Y Y Y ?_); exact kk)
    | (refine' Cf Y Y Y Y (fun K kk => ?_) ?_; (try (show Go.Ts.T; rotate_left)); (first | refine Ak 0 hG Y Y Y Y (by omega) Y ?_ | refine Ak 1 hG Y Y Y Y (by omega) Y ?_); exact kk)
    | refine dq0_e Y ?_ | (refine dq0_nil ?_; show EL _ _ _ _ _ _ _ _ _)
    | (refine el_consN ⟨_, (by first | assumption | (simp only [Array.size_setIfInBounds]; omega)), Y⟩ Y Y Y (fun K ke => ?_); (first | refine A0 (α := Nat) 0 hG Y Y Y Ag Bb Y Y (by first | omega | (simp only [Array.size_setIfInBounds]; omega)) ?_ | refine A0 (α := Nat) 1 hG Y Y Y Ag Bb Y Y (by first | omega | (simp only [Array.size_setIfInBounds]; omega)) ?_); refine ke (.tup []) _ ?_)
    | (refine el_nil ⟨_, (by first | assumption | (simp only [Array.size_setIfInBounds]; omega)), Y⟩ ?_; show AL _ _ _ _ _ _ _ _) | fail)
                  repeat' (first
    | ((first | (show AL _ _ _ _ _ _ _ _; refine Ae Y ?_) | (show DL _ _ _ _ _ _ _; refine' A7 Y Y (fun K kk => ?_) ?_; try (show Go.Ts.T; rotate_left))); (first
      | refine Ap hG Y Y ?_
      | refine A3 hG Y Y ?_
      | (show AOp _ _ ⟨_, .binOp .add _ _ _ _, _, _, _, _⟩ _ _ _; first | refine Ac hG Y Y Y Y Y (by omega) ?_ | refine Ac (m := 1) hG Y Y Y Y Y (by omega) ?_ | refine Aa hG Y Y Y Y Y (by omega) ?_)
      | (show AOp _ _ ⟨_, .binOp .sub _ _ _ _, _, _, _, _⟩ _ _ _; first | refine Aq hG Y Y Y Y (by omega) ?_ | refine Aq (m := 1) hG Y Y Y Y (by omega) ?_ | refine Aa hG Y Y Y Y Y (by omega) ?_)
      | (show AOp _ _ ⟨_, .binOp _ _ _ _ _, _, _, _, _⟩ _ _ _; first | refine Au hG Y Y Y Y Y (by omega) ?_ | refine Av hG Y Y Y Y Y (by omega) ?_ | ((fail_if_success have := kk); refine Ao hG Y Y Y Y Y (fun h => ?_) (fun h => ?_)))
      | (show AOp _ _ ⟨_, .load _ _, _, _, _, _⟩ _ _ _; first | refine Ak (α := Nat) 0 hG Y Y Y Y (by omega) Y ?_ | refine Ax hG Y Y Y ?_ | refine A8 0 hG Y Y Y Y ?_)
      | (show AOp _ _ ⟨_, .indexAddr _ _ _, _, _, _, _⟩ _ _ _; first | refine A2 hG Y Y Y Y Y Y Y (by omega) ?_ | refine Aw hG Y Y Y Y Y Y Y (by omega) ?_ | refine Az hG Y Y Y Y Y Y Y (by omega) ?_ | refine A9 hG Y Y ?_)
      | refine Bc hG Y Y Y ?_
      | refine Bn hG Y Y Y ?_
      | (show AOp _ _ ⟨_, .store _ _ _, _, _, _, _⟩ _ _ _; first | refine A0 (α := Nat) 0 hG Y Y Y Ag Bb Y Y (by first | omega | (simp only [Array.size_setIfInBounds]; omega)) ?_ | refine Bh 0 hG Y Y Y Y Y Y Y ?_)
      | refine r_q hG Y Y Y ?_); try exact kk)
    | (show AL _ _ _ _ _ _ _ _; first | refine Bi Y Y Y ?_ | (refine As ?_; first | show AW _ _ _ _ _ _ | show ∃ x', _ < _ ∧ _)) | (show AW _ _ (.seq _ _) _ _ _; refine Ai ?_; intro Q1) | (show AW _ _ (.region _ _ false) _ _ _; refine Ad ?_; intro O1) | (show AW _ _ (.cond _ _ _) _ _ _; first | refine Am Y ?_ | refine Al Y ?_ | refine Bd Y (fun h => ?_) (fun h => ?_)) | (show AW _ _ (.skip) _ _ _; refine Aj ?_; first | show AW _ _ _ _ _ _ | show ∃ x', _ < _ ∧ _) | (show AW _ _ (.block _ _) _ _ _; refine Af ?_; intro Q1) | (show AW _ _ (.exit _) _ _ _; refine Ar ?_; first | show AW _ _ _ _ _ _ | show ∃ x', _ < _ ∧ _) | (show AW _ _ (.ret) _ _ _; refine At ?_; try dsimp only [Ay, Ab, A6, Ah])
    | (show DL _ _ _ _ _ _ _; refine Bu Y Y (fun K kt kf => Ao hG Y Y Y Y Y kt kf) (fun h => ?_) (fun h => ?_))
    | (show DL _ _ _ _ _ _ _; refine Bt Y Y Y ?_) | (show DL _ _ _ _ _ _ _; refine Be ?_; first | show AW _ _ _ _ _ _ | show ∃ x', _ < _ ∧ _) | (show AW _ _ (.region _ _ true) _ _ _; refine A1 mix (by kernel_rfl) ?_; intro O1) | fail)
                  exact ⟨⟨q + 1, swp e q (q - 1), by rw [size_swp]; exact hen, by omega, hrq⟩, by dsimp only; omega, (by repeat (first | exact .nil _ | refine .cons rfl ?_)), .refl _⟩
              · rw [shiftUp, if_neg hqb] at hrq
                subst hrq
                repeat' (first
    | ((first | (show AL _ _ _ _ _ _ _ _; refine Ae Y ?_) | (show DL _ _ _ _ _ _ _; refine' A7 Y Y (fun K kk => ?_) ?_; try (show Go.Ts.T; rotate_left))); (first
      | refine Ap hG Y Y ?_
      | refine A3 hG Y Y ?_
      | (show AOp _ _ ⟨_, .binOp .add _ _ _ _, _, _, _, _⟩ _ _ _; first | refine Ac hG Y Y Y Y Y (by omega) ?_ | refine Ac (m := 1) hG Y Y Y Y Y (by omega) ?_ | refine Aa hG Y Y Y Y Y (by omega) ?_)
      | (show AOp _ _ ⟨_, .binOp .sub _ _ _ _, _, _, _, _⟩ _ _ _; first | refine Aq hG Y Y Y Y (by omega) ?_ | refine Aq (m := 1) hG Y Y Y Y (by omega) ?_ | refine Aa hG Y Y Y Y Y (by omega) ?_)
      | (show AOp _ _ ⟨_, .binOp _ _ _ _ _, _, _, _, _⟩ _ _ _; first | refine Au hG Y Y Y Y Y (by omega) ?_ | refine Av hG Y Y Y Y Y (by omega) ?_ | ((fail_if_success have := kk); refine Ao hG Y Y Y Y Y (fun h => ?_) (fun h => ?_)))
      | (show AOp _ _ ⟨_, .load _ _, _, _, _, _⟩ _ _ _; first | refine Ak (α := Nat) 0 hG Y Y Y Y (by omega) Y ?_ | refine Ax hG Y Y Y ?_ | refine A8 0 hG Y Y Y Y ?_)
      | (show AOp _ _ ⟨_, .indexAddr _ _ _, _, _, _, _⟩ _ _ _; first | refine A2 hG Y Y Y Y Y Y Y (by omega) ?_ | refine Aw hG Y Y Y Y Y Y Y (by omega) ?_ | refine Az hG Y Y Y Y Y Y Y (by omega) ?_ | refine A9 hG Y Y ?_)
      | refine Bc hG Y Y Y ?_
      | refine Bn hG Y Y Y ?_
      | (show AOp _ _ ⟨_, .store _ _ _, _, _, _, _⟩ _ _ _; first | refine A0 (α := Nat) 0 hG Y Y Y Ag Bb Y Y (by first | omega | (simp only [Array.size_setIfInBounds]; omega)) ?_ | refine Bh 0 hG Y Y Y Y Y Y Y ?_)
      | (show AOp _ _ ⟨_, .call ⟨.value _, _, _⟩, _, _, _, _⟩ _ _ _; first | refine B0 Y Y Y Y Y (by first | (apply Cg <;> (first | assumption | omega | exact Bf _ _ | exact Bo _ | exact Bk _ _ | exact Bs _ | rfl | (simp; omega))) | fail) ?_ | fail)
      | refine r_q hG Y Y Y ?_); try exact kk)
    | (show AL _ _ _ _ _ _ _ _; first | refine Bi Y Y Y ?_ | (refine As ?_; first | show AW _ _ _ _ _ _ | show ∃ x', _ < _ ∧ _)) | (show AW _ _ (.seq _ _) _ _ _; refine Ai ?_; intro Q1) | (show AW _ _ (.region _ _ false) _ _ _; refine Ad ?_; intro O1) | (show AW _ _ (.cond _ _ _) _ _ _; first | refine Am Y ?_ | refine Al Y ?_ | refine Bd Y (fun h => ?_) (fun h => ?_)) | (show AW _ _ (.skip) _ _ _; refine Aj ?_; first | show AW _ _ _ _ _ _ | show ∃ x', _ < _ ∧ _) | (show AW _ _ (.block _ _) _ _ _; refine Af ?_; intro Q1) | (show AW _ _ (.exit _) _ _ _; refine Ar ?_; first | show AW _ _ _ _ _ _ | show ∃ x', _ < _ ∧ _) | (show AW _ _ (.ret) _ _ _; refine At ?_; try dsimp only [Ay, Ab, A6, Ah])
    | (show DL _ _ _ _ _ _ _; refine Bu Y Y (fun K kt kf => Ao hG Y Y Y Y Y kt kf) (fun h => ?_) (fun h => ?_))
    | (show DL _ _ _ _ _ _ _; refine Bt Y Y Y ?_) | (show DL _ _ _ _ _ _ _; refine Be ?_; first | show AW _ _ _ _ _ _ | show ∃ x', _ < _ ∧ _) | (show AW _ _ (.region _ _ true) _ _ _; refine A1 mix (by kernel_rfl) ?_; intro O1) | fail)
                (refine Ar ?_; show _ ∧ Knows _ _ ∧ _; exact ⟨rfl, (by repeat (first | exact .nil _ | refine .cons rfl ?_)), rfl⟩)
            · intro a' hk
              exact ⟨rfl, hk, rfl⟩
          · have hf : fixUp ltQ b I g = g := by unfold fixUp; rw [if_neg h3]
            rw [hf]
            repeat' (first
    | ((first | (show AL _ _ _ _ _ _ _ _; refine Ae Y ?_) | (show DL _ _ _ _ _ _ _; refine' A7 Y Y (fun K kk => ?_) ?_; try (show Go.Ts.T; rotate_left))); (first
      | refine Ap hG Y Y ?_
      | refine A3 hG Y Y ?_
      | (show AOp _ _ ⟨_, .binOp .add _ _ _ _, _, _, _, _⟩ _ _ _; first | refine Ac hG Y Y Y Y Y (by omega) ?_ | refine Ac (m := 1) hG Y Y Y Y Y (by omega) ?_ | refine Aa hG Y Y Y Y Y (by omega) ?_)
      | (show AOp _ _ ⟨_, .binOp .sub _ _ _ _, _, _, _, _⟩ _ _ _; first | refine Aq hG Y Y Y Y (by omega) ?_ | refine Aq (m := 1) hG Y Y Y Y (by omega) ?_ | refine Aa hG Y Y Y Y Y (by omega) ?_)
      | (show AOp _ _ ⟨_, .binOp _ _ _ _ _, _, _, _, _⟩ _ _ _; first | refine Au hG Y Y Y Y Y (by omega) ?_ | refine Av hG Y Y Y Y Y (by omega) ?_ | ((fail_if_success have := kk); refine Ao hG Y Y Y Y Y (fun h => ?_) (fun h => ?_)))
      | (show AOp _ _ ⟨_, .load _ _, _, _, _, _⟩ _ _ _; first | refine Ak (α := Nat) 0 hG Y Y Y Y (by omega) Y ?_ | refine Ax hG Y Y Y ?_ | refine A8 0 hG Y Y Y Y ?_)
      | (show AOp _ _ ⟨_, .indexAddr _ _ _, _, _, _, _⟩ _ _ _; first | refine A2 hG Y Y Y Y Y Y Y (by omega) ?_ | refine Aw hG Y Y Y Y Y Y Y (by omega) ?_ | refine Az hG Y Y Y Y Y Y Y (by omega) ?_ | refine A9 hG Y Y ?_)
      | refine Bc hG Y Y Y ?_
      | refine Bn hG Y Y Y ?_
      | (show AOp _ _ ⟨_, .store _ _ _, _, _, _, _⟩ _ _ _; first | refine A0 (α := Nat) 0 hG Y Y Y Ag Bb Y Y (by first | omega | (simp only [Array.size_setIfInBounds]; omega)) ?_ | refine Bh 0 hG Y Y Y Y Y Y Y ?_)
      | refine r_q hG Y Y Y ?_); try exact kk)
    | (show AL _ _ _ _ _ _ _ _; first | refine Bi Y Y Y ?_ | (refine As ?_; first | show AW _ _ _ _ _ _ | show ∃ x', _ < _ ∧ _)) | (show AW _ _ (.seq _ _) _ _ _; refine Ai ?_; intro Q1) | (show AW _ _ (.region _ _ false) _ _ _; refine Ad ?_; intro O1) | (show AW _ _ (.cond _ _ _) _ _ _; first | refine Am Y ?_ | refine Al Y ?_ | refine Bd Y (fun h => ?_) (fun h => ?_)) | (show AW _ _ (.skip) _ _ _; refine Aj ?_; first | show AW _ _ _ _ _ _ | show ∃ x', _ < _ ∧ _) | (show AW _ _ (.block _ _) _ _ _; refine Af ?_; intro Q1) | (show AW _ _ (.exit _) _ _ _; refine Ar ?_; first | show AW _ _ _ _ _ _ | show ∃ x', _ < _ ∧ _) | (show AW _ _ (.ret) _ _ _; refine At ?_; try dsimp only [Ay, Ab, A6, Ah])
    | (show DL _ _ _ _ _ _ _; refine Bu Y Y (fun K kt kf => Ao hG Y Y Y Y Y kt kf) (fun h => ?_) (fun h => ?_))
    | (show DL _ _ _ _ _ _ _; refine Bt Y Y Y ?_) | (show DL _ _ _ _ _ _ _; refine Be ?_; first | show AW _ _ _ _ _ _ | show ∃ x', _ < _ ∧ _) | (show AW _ _ (.region _ _ true) _ _ _; refine A1 mix (by kernel_rfl) ?_; intro O1) | fail)
            refine Aj ?_
            exact ⟨rfl, (by repeat (first | exact .nil _ | refine .cons rfl ?_)), rfl⟩
        intro a' hk
        show AW _ _ _ _ _ _
        refine aw_forget hk ?_
        repeat' (first
    | ((first | (show AL _ _ _ _ _ _ _ _; refine Ae Y ?_) | (show DL _ _ _ _ _ _ _; refine' A7 Y Y (fun K kk => ?_) ?_; try (show Go.Ts.T; rotate_left))); (first
      | refine Ap hG Y Y ?_
      | refine A3 hG Y Y ?_
      | (show AOp _ _ ⟨_, .binOp .add _ _ _ _, _, _, _, _⟩ _ _ _; first | refine Ac hG Y Y Y Y Y (by omega) ?_ | refine Ac (m := 1) hG Y Y Y Y Y (by omega) ?_ | refine Aa hG Y Y Y Y Y (by omega) ?_)
      | (show AOp _ _ ⟨_, .binOp .sub _ _ _ _, _, _, _, _⟩ _ _ _; first | refine Aq hG Y Y Y Y (by omega) ?_ | refine Aq (m := 1) hG Y Y Y Y (by omega) ?_ | refine Aa hG Y Y Y Y Y (by omega) ?_)
      | (show AOp _ _ ⟨_, .binOp _ _ _ _ _, _, _, _, _⟩ _ _ _; first | refine Au hG Y Y Y Y Y (by omega) ?_ | refine Av hG Y Y Y Y Y (by omega) ?_ | ((fail_if_success have := kk); refine Ao hG Y Y Y Y Y (fun h => ?_) (fun h => ?_)))
      | (show AOp _ _ ⟨_, .load _ _, _, _, _, _⟩ _ _ _; first | refine Ak (α := Nat) 0 hG Y Y Y Y (by omega) Y ?_ | refine Ax hG Y Y Y ?_ | refine A8 0 hG Y Y Y Y ?_)
      | (show AOp _ _ ⟨_, .indexAddr _ _ _, _, _, _, _⟩ _ _ _; first | refine A2 hG Y Y Y Y Y Y Y (by omega) ?_ | refine Aw hG Y Y Y Y Y Y Y (by omega) ?_ | refine Az hG Y Y Y Y Y Y Y (by omega) ?_ | refine A9 hG Y Y ?_)
      | refine Bc hG Y Y Y ?_
      | refine Bn hG Y Y Y ?_
      | (show AOp _ _ ⟨_, .store _ _ _, _, _, _, _⟩ _ _ _; first | refine A0 (α := Nat) 0 hG Y Y Y Ag Bb Y Y (by first | omega | (simp only [Array.size_setIfInBounds]; omega)) ?_ | refine Bh 0 hG Y Y Y Y Y Y Y ?_)
      | refine r_q hG Y Y Y ?_); try exact kk)
    | (show AL _ _ _ _ _ _ _ _; first | refine Bi Y Y Y ?_ | (refine As ?_; first | show AW _ _ _ _ _ _ | show ∃ x', _ < _ ∧ _)) | (show AW _ _ (.seq _ _) _ _ _; refine Ai ?_; intro Q1) | (show AW _ _ (.region _ _ false) _ _ _; refine Ad ?_; intro O1) | (show AW _ _ (.cond _ _ _) _ _ _; first | refine Am Y ?_ | refine Al Y ?_ | refine Bd Y (fun h => ?_) (fun h => ?_)) | (show AW _ _ (.skip) _ _ _; refine Aj ?_; first | show AW _ _ _ _ _ _ | show ∃ x', _ < _ ∧ _) | (show AW _ _ (.block _ _) _ _ _; refine Af ?_; intro Q1) | (show AW _ _ (.exit _) _ _ _; refine Ar ?_; first | show AW _ _ _ _ _ _ | show ∃ x', _ < _ ∧ _) | (show AW _ _ (.ret) _ _ _; refine At ?_; try dsimp only [Ay, Ab, A6, Ah])
    | (show DL _ _ _ _ _ _ _; refine Bu Y Y (fun K kt kf => Ao hG Y Y Y Y Y kt kf) (fun h => ?_) (fun h => ?_))
    | (show DL _ _ _ _ _ _ _; refine Bt Y Y Y ?_) | (show DL _ _ _ _ _ _ _; refine Be ?_; first | show AW _ _ _ _ _ _ | show ∃ x', _ < _ ∧ _) | (show AW _ _ (.region _ _ true) _ _ _; refine A1 mix (by kernel_rfl) ?_; intro O1) | fail)
        exact ⟨⟨s, I, jj + 1, fixUp ltQ b I g, by rw [fixUp_size]; exact hfn, by omega, by omega, hr⟩, by dsimp only; omega, (by repeat (first | exact .nil _ | refine .cons rfl ?_)), .refl _⟩
end Go.Proofs.Ythfgocinlbogeaa
