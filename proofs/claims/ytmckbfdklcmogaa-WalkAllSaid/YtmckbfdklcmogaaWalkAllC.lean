/- Part of the proof of the law WalkAll: the texts UC, UI, TsXA, TsXM, TsXB, TsXC, UJ, WA, WB, TsN, TsO, TsQ. No conditions. -/
import Derived.Test.YtmckbfdklcmogaaWalkAllB
import Derived.Sort.Lot0
import Derived.Sort.LotD1
import Derived.Sort.LotD4
import Derived.MapKept
import Derived.Sort.LotD5
import Derived.Deep.LoopGhost
set_option linter.unusedSimpArgs false
set_option linter.unusedVariables false
namespace Go.Proofs.Ytmckbfdklcmogaa
open Go.Ts
set_option linter.unusedSimpArgs false
set_option linter.unusedVariables false
attribute [local irreducible] Go.Ts.AW Go.Ts.AOps Go.Ts.AL Go.Ts.AOp Go.Ts.ACalls Go.Ts.DL Go.Ts.DQ0 Go.Ts.EL
theorem cmp_isNaN (x : Nat) : Ts.Pure Try.prog 49 [mT x] (.bool false) := by
  intro off
  refine Br (N := 6) (rs := [.tmp 2]) hG Try.func49 rfl rfl rfl rfl rfl ?_
  repeat' (first
    | ((show AL _ _ _ _ _ _ _ _; refine Ag Y ?_); (first
      | refine Aq hG Y Y ?_
      | refine A5 hG Y Y ?_
      | (show AOp _ _ ⟨_, .binOp _ _ _ _ _, _, _, _, _⟩ _ _ _; first | refine At hG Y Y Y Y Y (by omega) ?_ | refine Au hG Y Y Y Y Y (by omega) ?_ | (refine Am hG Y Y Y Y Y (fun h => ?_) (fun h => ?_)))
      | refine r_q hG Y Y Y ?_))
    | (show AL _ _ _ _ _ _ _ _; first | refine Bk Y Y Y ?_ | (refine Ar ?_; first | show AW _ _ _ _ _ _ | show ∃ x', _ < _ ∧ _)) | (show AW _ _ (.seq _ _) _ _ _; refine Ai ?_; intro Q1) | (show AW _ _ (.region _ _ false) _ _ _; refine Ad ?_; intro O1) | (show AW _ _ (.ret) _ _ _; refine Aw ?_; try dsimp only [Ax, Aa, A2, Af]) | fail)
  exact Bu (Bm rfl Bl) (.refl _) rfl
theorem Cr (x y : Nat) : Ts.Pure Try.prog 39 [mT x, mT y] (.bool (ltQ x y)) := by
  intro off
  refine Br (N := 17) (rs := [.tmp 4]) hG Try.func39 rfl rfl rfl rfl rfl ?_
  repeat' (first
    | ((show AL _ _ _ _ _ _ _ _; refine Ag Y ?_); (first
      | refine Aq hG Y Y ?_
      | refine A5 hG Y Y ?_
      | (show AOp _ _ ⟨_, .binOp _ _ _ _ _, _, _, _, _⟩ _ _ _; first | refine At hG Y Y Y Y Y (by omega) ?_ | refine Au hG Y Y Y Y Y (by omega) ?_ | (refine Am hG Y Y Y Y Y (fun h => ?_) (fun h => ?_)))
      | refine A6 hG Y Y Y ?_
      | refine Bs hG Y Y Y ?_
      | (show AOp _ _ ⟨_, .call ⟨.value _, _, _⟩, _, _, _, _⟩ _ _ _; first | refine Bn Y Y Y Y Y (by first | (apply cmp_isNaN <;> (first | assumption | omega | exact A4 _ _ | exact Bd _ | exact A7 _ _ | exact Bi _ | rfl | (simp; omega))) | fail) ?_ | fail)
      | refine r_q hG Y Y Y ?_))
    | (show AL _ _ _ _ _ _ _ _; first | refine Bk Y Y Y ?_ | (refine Ar ?_; first | show AW _ _ _ _ _ _ | show ∃ x', _ < _ ∧ _)) | (show AW _ _ (.seq _ _) _ _ _; refine Ai ?_; intro Q1) | (show AW _ _ (.region _ _ false) _ _ _; refine Ad ?_; intro O1) | (show AW _ _ (.ret) _ _ _; refine Aw ?_; try dsimp only [Ax, Aa, A2, Af]) | fail)
  · exact Bu (Bm rfl Bl) (by rw [show ltQ x y = true from decide_eq_true (by omega)]; exact .refl _) rfl
  · exact Bu (Bm rfl Bl) (by rw [show ltQ x y = false from decide_eq_false (by omega)]; exact .refl _) rfl
open Go.Sort in
structure InX (a i0 n : Nat) (d0 : Array Nat) where
  j : Nat
  d : Array Nat
  hn : d.size = n
  hj : j ≤ i0
  hr : insInner ltQ a j d = insInner ltQ a i0 d0
open Go.Sort in
structure OuX (a b n : Nat) (d0 : Array Nat) where
  i : Nat
  d : Array Nat
  hn : d.size = n
  hi : a < i
  hr : insOuter ltQ a b i d = insertionSort ltQ d0 a b
open Go.Sort in
theorem srt_ins {d0 : Array Nat} {a b : Nat} (hab : b ≤ d0.size) (hs : d0.size ≤ 4294967296) (ha : a ≤ d0.size) : OnRow Try.prog 33 mT [.int .i64 (a : Int), .int .i64 (b : Int)] d0 (.tup []) (insertionSort ltQ d0 a b) := by
  intro off i n cap hn
  refine Br (N := 49) (rs := []) hG Try.func33 rfl rfl rfl rfl rfl ?_
  repeat' (first
    | ((first | (show AL _ _ _ _ _ _ _ _; refine Ag Y ?_) | (show DL _ _ _ _ _ _ _; refine' A8 Y Y (fun K kk => ?_) ?_; try (show Go.Ts.T; rotate_left))); (first
      | refine Aq hG Y Y ?_
      | refine A5 hG Y Y ?_
      | (show AOp _ _ ⟨_, .binOp .add _ _ _ _, _, _, _, _⟩ _ _ _; first | refine Ac hG Y Y Y Y Y (by omega) ?_ | refine Ac (m := 1) hG Y Y Y Y Y (by omega) ?_ | refine Ab hG Y Y Y Y Y (by omega) ?_)
      | (show AOp _ _ ⟨_, .binOp .sub _ _ _ _, _, _, _, _⟩ _ _ _; first | refine Av hG Y Y Y Y (by omega) ?_ | refine Av (m := 1) hG Y Y Y Y (by omega) ?_ | refine Ab hG Y Y Y Y Y (by omega) ?_)
      | (show AOp _ _ ⟨_, .binOp _ _ _ _ _, _, _, _, _⟩ _ _ _; first | refine At hG Y Y Y Y Y (by omega) ?_ | refine Au hG Y Y Y Y Y (by omega) ?_ | ((fail_if_success have := kk); refine Am hG Y Y Y Y Y (fun h => ?_) (fun h => ?_)))
      | (show AOp _ _ ⟨_, .load _ _, _, _, _, _⟩ _ _ _; first | refine Ak (α := Nat) 0 hG Y Y Y Y (by omega) Y ?_ | refine Ay hG Y Y Y ?_ | refine Bg 0 hG Y Y Y Y ?_)
      | (show AOp _ _ ⟨_, .indexAddr _ _ _, _, _, _, _⟩ _ _ _; first | refine A1 hG Y Y Y Y Y Y Y (by omega) ?_ | refine A0 hG Y Y Y Y Y Y Y (by omega) ?_ | refine Az hG Y Y Y Y Y Y Y (by omega) ?_ | refine A9 hG Y Y ?_)
      | refine A6 hG Y Y Y ?_
      | (show AOp _ _ ⟨_, .store _ _ _, _, _, _, _⟩ _ _ _; first | refine Bc (α := Nat) 0 hG Y Y Y Ah Bb Y Y (by first | omega | (simp only [Array.size_setIfInBounds]; omega)) ?_ | refine Bv 0 hG Y Y Y Y Y Y Y ?_)
      | refine r_q hG Y Y Y ?_); try exact kk)
    | (show AL _ _ _ _ _ _ _ _; first | refine Bk Y Y Y ?_ | (refine Ar ?_; first | show AW _ _ _ _ _ _ | show ∃ x', _ < _ ∧ _)) | (show AW _ _ (.seq _ _) _ _ _; refine Ai ?_; intro Q1) | (show AW _ _ (.region _ _ false) _ _ _; refine Ad ?_; intro O1) | (show AW _ _ (.cond _ _ _) _ _ _; first | refine Ao Y ?_ | refine Ap Y ?_ | refine Ba Y (fun h => ?_) (fun h => ?_)) | (show AW _ _ (.skip) _ _ _; refine Aj ?_; first | show AW _ _ _ _ _ _ | show ∃ x', _ < _ ∧ _) | (show AW _ _ (.block _ _) _ _ _; refine Ae ?_; intro Q1) | (show AW _ _ (.exit _) _ _ _; refine Al ?_; first | show AW _ _ _ _ _ _ | show ∃ x', _ < _ ∧ _) | (show AW _ _ (.ret) _ _ _; refine Aw ?_; try dsimp only [Ax, Aa, A2, Af])
    | (show DL _ _ _ _ _ _ _; refine Bx Y Y (fun K kt kf => Am hG Y Y Y Y Y kt kf) (fun h => ?_) (fun h => ?_))
    | (show DL _ _ _ _ _ _ _; refine By Y Y Y ?_) | (show DL _ _ _ _ _ _ _; refine Be ?_; first | show AW _ _ _ _ _ _ | show ∃ x', _ < _ ∧ _) | (show AW _ _ (.region _ _ true) _ _ _; refine A3 mix (by kernel_rfl) ?_; intro O1) | fail)
  refine Ch (X := OuX a b n d0) (fun x => [(0, .aref 1 i 0 n cap), (1, .int .i64 (a : Int)), (2, .int .i64 (b : Int)), (6, .int .i64 (x.i : Int))]) (fun x => ⟨[(i, .cells (rowT mT x.d))], [], off, none⟩) (fun x => b - x.i) ⟨a + 1, d0, hn, by omega, rfl⟩ (by repeat (first | exact .nil _ | refine .cons rfl ?_)) (.refl _) ?_
  rintro ⟨k, d, hdn, hk, hr⟩
  dsimp only at hr ⊢
  by_cases hkb : k < b
  · repeat' (first
    | ((first | (show AL _ _ _ _ _ _ _ _; refine Ag Y ?_) | (show DL _ _ _ _ _ _ _; refine' A8 Y Y (fun K kk => ?_) ?_; try (show Go.Ts.T; rotate_left))); (first
      | refine Aq hG Y Y ?_
      | refine A5 hG Y Y ?_
      | (show AOp _ _ ⟨_, .binOp .add _ _ _ _, _, _, _, _⟩ _ _ _; first | refine Ac hG Y Y Y Y Y (by omega) ?_ | refine Ac (m := 1) hG Y Y Y Y Y (by omega) ?_ | refine Ab hG Y Y Y Y Y (by omega) ?_)
      | (show AOp _ _ ⟨_, .binOp .sub _ _ _ _, _, _, _, _⟩ _ _ _; first | refine Av hG Y Y Y Y (by omega) ?_ | refine Av (m := 1) hG Y Y Y Y (by omega) ?_ | refine Ab hG Y Y Y Y Y (by omega) ?_)
      | (show AOp _ _ ⟨_, .binOp _ _ _ _ _, _, _, _, _⟩ _ _ _; first | refine At hG Y Y Y Y Y (by omega) ?_ | refine Au hG Y Y Y Y Y (by omega) ?_ | ((fail_if_success have := kk); refine Am hG Y Y Y Y Y (fun h => ?_) (fun h => ?_)))
      | (show AOp _ _ ⟨_, .load _ _, _, _, _, _⟩ _ _ _; first | refine Ak (α := Nat) 0 hG Y Y Y Y (by omega) Y ?_ | refine Ay hG Y Y Y ?_ | refine Bg 0 hG Y Y Y Y ?_)
      | (show AOp _ _ ⟨_, .indexAddr _ _ _, _, _, _, _⟩ _ _ _; first | refine A1 hG Y Y Y Y Y Y Y (by omega) ?_ | refine A0 hG Y Y Y Y Y Y Y (by omega) ?_ | refine Az hG Y Y Y Y Y Y Y (by omega) ?_ | refine A9 hG Y Y ?_)
      | refine A6 hG Y Y Y ?_
      | (show AOp _ _ ⟨_, .store _ _ _, _, _, _, _⟩ _ _ _; first | refine Bc (α := Nat) 0 hG Y Y Y Ah Bb Y Y (by first | omega | (simp only [Array.size_setIfInBounds]; omega)) ?_ | refine Bv 0 hG Y Y Y Y Y Y Y ?_)
      | refine r_q hG Y Y Y ?_); try exact kk)
    | (show AL _ _ _ _ _ _ _ _; first | refine Bk Y Y Y ?_ | (refine Ar ?_; first | show AW _ _ _ _ _ _ | show ∃ x', _ < _ ∧ _)) | (show AW _ _ (.seq _ _) _ _ _; refine Ai ?_; intro Q1) | (show AW _ _ (.region _ _ false) _ _ _; refine Ad ?_; intro O1) | (show AW _ _ (.cond _ _ _) _ _ _; first | refine Ao Y ?_ | refine Ap Y ?_ | refine Ba Y (fun h => ?_) (fun h => ?_)) | (show AW _ _ (.skip) _ _ _; refine Aj ?_; first | show AW _ _ _ _ _ _ | show ∃ x', _ < _ ∧ _) | (show AW _ _ (.block _ _) _ _ _; refine Ae ?_; intro Q1) | (show AW _ _ (.exit _) _ _ _; refine Al ?_; first | show AW _ _ _ _ _ _ | show ∃ x', _ < _ ∧ _) | (show AW _ _ (.ret) _ _ _; refine Aw ?_; try dsimp only [Ax, Aa, A2, Af])
    | (show DL _ _ _ _ _ _ _; refine Bx Y Y (fun K kt kf => Am hG Y Y Y Y Y kt kf) (fun h => ?_) (fun h => ?_))
    | (show DL _ _ _ _ _ _ _; refine By Y Y Y ?_) | (show DL _ _ _ _ _ _ _; refine Be ?_; first | show AW _ _ _ _ _ _ | show ∃ x', _ < _ ∧ _) | (show AW _ _ (.region _ _ true) _ _ _; refine A3 mix (by kernel_rfl) ?_; intro O1) | fail)
    refine Ch (X := InX a k n d) (fun x => [(0, .aref 1 i 0 n cap), (1, .int .i64 (a : Int)), (2, .int .i64 (b : Int)), (6, .int .i64 (k : Int)), (7, .int .i64 (x.j : Int))]) (fun x => ⟨[(i, .cells (rowT mT x.d))], [], off, none⟩) (fun x => x.j) ⟨k, d, hdn, Nat.le_refl _, rfl⟩ (by repeat (first | exact .nil _ | refine .cons rfl ?_)) (.refl _) ?_
    rintro ⟨j, e, hen, hj, hre⟩
    dsimp only at hre hr ⊢
    repeat' (first
    | ((first | (show AL _ _ _ _ _ _ _ _; refine Ag Y ?_) | (show DL _ _ _ _ _ _ _; refine' A8 Y Y (fun K kk => ?_) ?_; try (show Go.Ts.T; rotate_left))); (first
      | refine Aq hG Y Y ?_
      | refine A5 hG Y Y ?_
      | (show AOp _ _ ⟨_, .binOp .add _ _ _ _, _, _, _, _⟩ _ _ _; first | refine Ac hG Y Y Y Y Y (by omega) ?_ | refine Ac (m := 1) hG Y Y Y Y Y (by omega) ?_ | refine Ab hG Y Y Y Y Y (by omega) ?_)
      | (show AOp _ _ ⟨_, .binOp .sub _ _ _ _, _, _, _, _⟩ _ _ _; first | refine Av hG Y Y Y Y (by omega) ?_ | refine Av (m := 1) hG Y Y Y Y (by omega) ?_ | refine Ab hG Y Y Y Y Y (by omega) ?_)
      | (show AOp _ _ ⟨_, .binOp _ _ _ _ _, _, _, _, _⟩ _ _ _; first | refine At hG Y Y Y Y Y (by omega) ?_ | refine Au hG Y Y Y Y Y (by omega) ?_ | ((fail_if_success have := kk); refine Am hG Y Y Y Y Y (fun h => ?_) (fun h => ?_)))
      | (show AOp _ _ ⟨_, .load _ _, _, _, _, _⟩ _ _ _; first | refine Ak (α := Nat) 0 hG Y Y Y Y (by omega) Y ?_ | refine Ay hG Y Y Y ?_ | refine Bg 0 hG Y Y Y Y ?_)
      | (show AOp _ _ ⟨_, .indexAddr _ _ _, _, _, _, _⟩ _ _ _; first | refine A1 hG Y Y Y Y Y Y Y (by omega) ?_ | refine A0 hG Y Y Y Y Y Y Y (by omega) ?_ | refine Az hG Y Y Y Y Y Y Y (by omega) ?_ | refine A9 hG Y Y ?_)
      | refine A6 hG Y Y Y ?_
      | (show AOp _ _ ⟨_, .store _ _ _, _, _, _, _⟩ _ _ _; first | refine Bc (α := Nat) 0 hG Y Y Y Ah Bb Y Y (by first | omega | (simp only [Array.size_setIfInBounds]; omega)) ?_ | refine Bv 0 hG Y Y Y Y Y Y Y ?_)
      | (show AOp _ _ ⟨_, .call ⟨.value _, _, _⟩, _, _, _, _⟩ _ _ _; first | refine Bn Y Y Y Y Y (by first | (apply Cr <;> (first | assumption | omega | exact A4 _ _ | exact Bd _ | exact A7 _ _ | exact Bi _ | rfl | (simp; omega))) | fail) ?_ | fail)
      | refine r_q hG Y Y Y ?_); try exact kk)
    | (show AL _ _ _ _ _ _ _ _; first | refine Bk Y Y Y ?_ | (refine Ar ?_; first | show AW _ _ _ _ _ _ | show ∃ x', _ < _ ∧ _)) | (show AW _ _ (.seq _ _) _ _ _; refine Ai ?_; intro Q1) | (show AW _ _ (.region _ _ false) _ _ _; (fail_if_success show AW _ _ (.region 6 _ _) _ _ _); refine Ad ?_; intro O1) | (show AW _ _ (.cond _ _ _) _ _ _; first | refine Ao Y ?_ | refine Ap Y ?_ | refine Ba Y (fun h => ?_) (fun h => ?_)) | (show AW _ _ (.skip) _ _ _; refine Aj ?_; first | show AW _ _ _ _ _ _ | show ∃ x', _ < _ ∧ _) | (show AW _ _ (.block _ _) _ _ _; refine Ae ?_; intro Q1) | (show AW _ _ (.exit _) _ _ _; refine Al ?_; first | show AW _ _ _ _ _ _ | show ∃ x', _ < _ ∧ _) | (show AW _ _ (.ret) _ _ _; refine Aw ?_; try dsimp only [Ax, Aa, A2, Af])
    | (show DL _ _ _ _ _ _ _; refine Bx Y Y (fun K kt kf => Am hG Y Y Y Y Y kt kf) (fun h => ?_) (fun h => ?_))
    | (show DL _ _ _ _ _ _ _; refine By Y Y Y ?_) | (show DL _ _ _ _ _ _ _; refine Be ?_; first | show AW _ _ _ _ _ _ | show ∃ x', _ < _ ∧ _) | (show AW _ _ (.region _ _ true) _ _ _; (fail_if_success show AW _ _ (.region 6 _ _) _ _ _); refine A3 mix (by kernel_rfl) ?_; intro O1) | fail)
    · have h1 : a < j := by omega
      refine Co (m := 16) [15] [9, 13] (fun σ => ∃ c : Array Nat, c.size = n ∧ σ = ⟨[(i, .cells (rowT mT c))], [], off, none⟩) mix Y Y (by repeat (first | exact Sp.zero _ | apply Sp.succ)) ?_; intro O1 F1 Z1 Q2; repeat' (first
    | (refine' dq0_cons Y Y Y Y (fun σ hσ K kk => ?_) ?_; (try (show Go.Ts.T; rotate_left)); (obtain ⟨c, hcn, hcs⟩ := hσ; subst hcs); (first
      | refine Aq hG Y Y ?_
      | refine A5 hG Y Y ?_
      | (show AOp _ _ ⟨_, .binOp .add _ _ _ _, _, _, _, _⟩ _ _ _; first | refine Ac hG Y Y Y Y Y (by omega) ?_ | refine Ac (m := 1) hG Y Y Y Y Y (by omega) ?_ | refine Ab hG Y Y Y Y Y (by omega) ?_)
      | (show AOp _ _ ⟨_, .binOp .sub _ _ _ _, _, _, _, _⟩ _ _ _; first | refine Av hG Y Y Y Y (by omega) ?_ | refine Av (m := 1) hG Y Y Y Y (by omega) ?_ | refine Cg (m := 1) hG Y Y Y Y (by omega) ?_ | refine Ab hG Y Y Y Y Y (by omega) ?_)
      | (show AOp _ _ ⟨_, .binOp _ _ _ _ _, _, _, _, _⟩ _ _ _; first | refine At hG Y Y Y Y Y (by omega) ?_ | refine Au hG Y Y Y Y Y (by omega) ?_)
      | (show AOp _ _ ⟨_, .load _ _, _, _, _, _⟩ _ _ _; first | refine Ak (α := Nat) 0 hG Y Y Y Y (by omega) Y ?_ | refine Ak (α := Nat) 1 hG Y Y Y Y (by omega) Y ?_ | refine Ay hG Y Y Y ?_ | refine Bg 0 hG Y Y Y Y ?_)
      | (show AOp _ _ ⟨_, .indexAddr _ _ _, _, _, _, _⟩ _ _ _; first | refine A1 hG Y Y Y Y Y Y Y (by omega) ?_ | refine A0 hG Y Y Y Y Y Y Y (by omega) ?_ | refine Az hG Y Y Y Y Y Y Y (by omega) ?_ | refine A9 hG Y Y ?_)
      | refine A6 hG Y Y Y ?_
      | (show AOp _ _ ⟨_, .store _ _ _, _, _, _, _⟩ _ _ _; first | refine Bc (α := Nat) 0 hG Y Y Y Ah Bb Y Y (by first | omega | (simp only [Array.size_setIfInBounds]; omega)) ?_ | refine Bc (α := Nat) 1 hG Y Y Y Ah Bb Y Y (by first | omega | (simp only [Array.size_setIfInBounds]; omega)) ?_ | refine Bv 0 hG Y Y Y Y Y Y Y ?_)
      | refine r_q hG Y Y Y ?_); exact kk)
    | (refine' Cn Y Y Y Y (fun K kk => ?_) ?_; (try (show Go.Ts.T; rotate_left)); (first | refine Ak 0 hG Y Y Y Y (by omega) Y ?_ | refine Ak 1 hG Y Y Y Y (by omega) Y ?_); exact kk)
    | refine dq0_e Y ?_ | (refine dq0_nil ?_; show EL _ _ _ _ _ _ _ _ _)
    | (refine Cf ⟨_, (by first | assumption | (simp only [Array.size_setIfInBounds]; omega)), Y⟩ Y Y Y (fun K ke => ?_); (first | refine Bc (α := Nat) 0 hG Y Y Y Ah Bb Y Y (by first | omega | (simp only [Array.size_setIfInBounds]; omega)) ?_ | refine Bc (α := Nat) 1 hG Y Y Y Ah Bb Y Y (by first | omega | (simp only [Array.size_setIfInBounds]; omega)) ?_); refine ke (.tup []) _ ?_)
    | (refine el_nil ⟨_, (by first | assumption | (simp only [Array.size_setIfInBounds]; omega)), Y⟩ ?_; show AL _ _ _ _ _ _ _ _) | fail)
      repeat' (first
    | ((first | (show AL _ _ _ _ _ _ _ _; refine Ag Y ?_) | (show DL _ _ _ _ _ _ _; refine' A8 Y Y (fun K kk => ?_) ?_; try (show Go.Ts.T; rotate_left))); (first
      | refine Aq hG Y Y ?_
      | refine A5 hG Y Y ?_
      | (show AOp _ _ ⟨_, .binOp .add _ _ _ _, _, _, _, _⟩ _ _ _; first | refine Ac hG Y Y Y Y Y (by omega) ?_ | refine Ac (m := 1) hG Y Y Y Y Y (by omega) ?_ | refine Ab hG Y Y Y Y Y (by omega) ?_)
      | (show AOp _ _ ⟨_, .binOp .sub _ _ _ _, _, _, _, _⟩ _ _ _; first | refine Av hG Y Y Y Y (by omega) ?_ | refine Av (m := 1) hG Y Y Y Y (by omega) ?_ | refine Ab hG Y Y Y Y Y (by omega) ?_)
      | (show AOp _ _ ⟨_, .binOp _ _ _ _ _, _, _, _, _⟩ _ _ _; first | refine At hG Y Y Y Y Y (by omega) ?_ | refine Au hG Y Y Y Y Y (by omega) ?_ | ((fail_if_success have := kk); refine Am hG Y Y Y Y Y (fun h => ?_) (fun h => ?_)))
      | (show AOp _ _ ⟨_, .load _ _, _, _, _, _⟩ _ _ _; first | refine Ak (α := Nat) 0 hG Y Y Y Y (by omega) Y ?_ | refine Ay hG Y Y Y ?_ | refine Bg 0 hG Y Y Y Y ?_)
      | (show AOp _ _ ⟨_, .indexAddr _ _ _, _, _, _, _⟩ _ _ _; first | refine A1 hG Y Y Y Y Y Y Y (by omega) ?_ | refine A0 hG Y Y Y Y Y Y Y (by omega) ?_ | refine Az hG Y Y Y Y Y Y Y (by omega) ?_ | refine A9 hG Y Y ?_)
      | refine A6 hG Y Y Y ?_
      | (show AOp _ _ ⟨_, .store _ _ _, _, _, _, _⟩ _ _ _; first | refine Bc (α := Nat) 0 hG Y Y Y Ah Bb Y Y (by first | omega | (simp only [Array.size_setIfInBounds]; omega)) ?_ | refine Bv 0 hG Y Y Y Y Y Y Y ?_)
      | refine r_q hG Y Y Y ?_); try exact kk)
    | (show AL _ _ _ _ _ _ _ _; first | refine Bk Y Y Y ?_ | (refine Ar ?_; first | show AW _ _ _ _ _ _ | show ∃ x', _ < _ ∧ _)) | (show AW _ _ (.seq _ _) _ _ _; refine Ai ?_; intro Q1) | (show AW _ _ (.region _ _ false) _ _ _; refine Ad ?_; intro O1) | (show AW _ _ (.cond _ _ _) _ _ _; first | refine Ao Y ?_ | refine Ap Y ?_ | refine Ba Y (fun h => ?_) (fun h => ?_)) | (show AW _ _ (.skip) _ _ _; refine Aj ?_; first | show AW _ _ _ _ _ _ | show ∃ x', _ < _ ∧ _) | (show AW _ _ (.block _ _) _ _ _; refine Ae ?_; intro Q1) | (show AW _ _ (.exit _) _ _ _; refine Al ?_; first | show AW _ _ _ _ _ _ | show ∃ x', _ < _ ∧ _) | (show AW _ _ (.ret) _ _ _; refine Aw ?_; try dsimp only [Ax, Aa, A2, Af])
    | (show DL _ _ _ _ _ _ _; refine Bx Y Y (fun K kt kf => Am hG Y Y Y Y Y kt kf) (fun h => ?_) (fun h => ?_))
    | (show DL _ _ _ _ _ _ _; refine By Y Y Y ?_) | (show DL _ _ _ _ _ _ _; refine Be ?_; first | show AW _ _ _ _ _ _ | show ∃ x', _ < _ ∧ _) | (show AW _ _ (.region _ _ true) _ _ _; refine A3 mix (by kernel_rfl) ?_; intro O1) | fail)
      obtain ⟨m, rfl⟩ : ∃ m, j = m + 1 := ⟨j - 1, by omega⟩
      refine ⟨⟨m, swp e (m + 1) m, by rw [size_swp]; exact hen, by omega, ?_⟩, by dsimp only; omega, (by repeat (first | exact .nil _ | refine .cons rfl ?_)), .refl _⟩
      have h2 : ltQ e[m + 1]! e[m]! = true := h
      rw [← hre, insInner, if_pos (by simp [h2]; omega)]
    · have h1 : a < j := by omega
      refine ⟨⟨k + 1, e, hen, by omega, ?_⟩, by dsimp only; omega, (by repeat (first | exact .nil _ | refine .cons rfl ?_)), .refl _⟩
      obtain ⟨m, rfl⟩ : ∃ m, j = m + 1 := ⟨j - 1, by omega⟩
      have h2 : ltQ e[m + 1]! e[m]! = false := h
      rw [insInner, if_neg (by simp [h2])] at hre
      rw [insOuter, if_pos hkb, ← hre] at hr
      exact hr
    · have h1 : ¬ a < j := by omega
      refine ⟨⟨k + 1, e, hen, by omega, ?_⟩, by dsimp only; omega, (by repeat (first | exact .nil _ | refine .cons rfl ?_)), .refl _⟩
      have hre2 : e = insInner ltQ a k d := by
        rw [← hre]
        cases j with
        | zero => rfl
        | succ m => rw [insInner, if_neg (by simp; omega)]
      rw [insOuter, if_pos hkb, ← hre2] at hr
      exact hr
  · repeat' (first
    | ((first | (show AL _ _ _ _ _ _ _ _; refine Ag Y ?_) | (show DL _ _ _ _ _ _ _; refine' A8 Y Y (fun K kk => ?_) ?_; try (show Go.Ts.T; rotate_left))); (first
      | refine Aq hG Y Y ?_
      | refine A5 hG Y Y ?_
      | (show AOp _ _ ⟨_, .binOp .add _ _ _ _, _, _, _, _⟩ _ _ _; first | refine Ac hG Y Y Y Y Y (by omega) ?_ | refine Ac (m := 1) hG Y Y Y Y Y (by omega) ?_ | refine Ab hG Y Y Y Y Y (by omega) ?_)
      | (show AOp _ _ ⟨_, .binOp .sub _ _ _ _, _, _, _, _⟩ _ _ _; first | refine Av hG Y Y Y Y (by omega) ?_ | refine Av (m := 1) hG Y Y Y Y (by omega) ?_ | refine Ab hG Y Y Y Y Y (by omega) ?_)
      | (show AOp _ _ ⟨_, .binOp _ _ _ _ _, _, _, _, _⟩ _ _ _; first | refine At hG Y Y Y Y Y (by omega) ?_ | refine Au hG Y Y Y Y Y (by omega) ?_ | ((fail_if_success have := kk); refine Am hG Y Y Y Y Y (fun h => ?_) (fun h => ?_)))
      | (show AOp _ _ ⟨_, .load _ _, _, _, _, _⟩ _ _ _; first | refine Ak (α := Nat) 0 hG Y Y Y Y (by omega) Y ?_ | refine Ay hG Y Y Y ?_ | refine Bg 0 hG Y Y Y Y ?_)
      | (show AOp _ _ ⟨_, .indexAddr _ _ _, _, _, _, _⟩ _ _ _; first | refine A1 hG Y Y Y Y Y Y Y (by omega) ?_ | refine A0 hG Y Y Y Y Y Y Y (by omega) ?_ | refine Az hG Y Y Y Y Y Y Y (by omega) ?_ | refine A9 hG Y Y ?_)
      | refine A6 hG Y Y Y ?_
      | (show AOp _ _ ⟨_, .store _ _ _, _, _, _, _⟩ _ _ _; first | refine Bc (α := Nat) 0 hG Y Y Y Ah Bb Y Y (by first | omega | (simp only [Array.size_setIfInBounds]; omega)) ?_ | refine Bv 0 hG Y Y Y Y Y Y Y ?_)
      | refine r_q hG Y Y Y ?_); try exact kk)
    | (show AL _ _ _ _ _ _ _ _; first | refine Bk Y Y Y ?_ | (refine Ar ?_; first | show AW _ _ _ _ _ _ | show ∃ x', _ < _ ∧ _)) | (show AW _ _ (.seq _ _) _ _ _; refine Ai ?_; intro Q1) | (show AW _ _ (.region _ _ false) _ _ _; refine Ad ?_; intro O1) | (show AW _ _ (.cond _ _ _) _ _ _; first | refine Ao Y ?_ | refine Ap Y ?_ | refine Ba Y (fun h => ?_) (fun h => ?_)) | (show AW _ _ (.skip) _ _ _; refine Aj ?_; first | show AW _ _ _ _ _ _ | show ∃ x', _ < _ ∧ _) | (show AW _ _ (.block _ _) _ _ _; refine Ae ?_; intro Q1) | (show AW _ _ (.exit _) _ _ _; refine Al ?_; first | show AW _ _ _ _ _ _ | show ∃ x', _ < _ ∧ _) | (show AW _ _ (.ret) _ _ _; refine Aw ?_; try dsimp only [Ax, Aa, A2, Af])
    | (show DL _ _ _ _ _ _ _; refine Bx Y Y (fun K kt kf => Am hG Y Y Y Y Y kt kf) (fun h => ?_) (fun h => ?_))
    | (show DL _ _ _ _ _ _ _; refine By Y Y Y ?_) | (show DL _ _ _ _ _ _ _; refine Be ?_; first | show AW _ _ _ _ _ _ | show ∃ x', _ < _ ∧ _) | (show AW _ _ (.region _ _ true) _ _ _; refine A3 mix (by kernel_rfl) ?_; intro O1) | fail)
    have hd : d = insertionSort ltQ d0 a b := by rw [← hr, insOuter, if_neg hkb]
    subst hd
    refine Al ?_
    dsimp (config := { zetaDelta := true }) only [Ax, Aa]
    refine ret_rowE 0 Bl ?_ (.refl _) ?_ <;> rfl
end Go.Proofs.Ytmckbfdklcmogaa
namespace Go.Ts
section
variable {P : Program} {G : Nat → Option TI} {N : Nat} {σ : St} {a : Env} {K : Env → St → Prop} {d : Tmp} {ty : TypeId} {pos : String} {af : Array Edge} {gd : Option (Nat × Bool)} {α : Type}
def OnRowC (P : Program) (g : FuncId) (f : α → T) (ts : List T) (c : Array α) (s : Nat) (r : T) (s' : Nat) : Prop :=
  ∀ off i n cap j, c.size = n → ACalls P g (.aref 1 i 0 n cap :: (ts ++ [.ptr j 0])) ⟨[(j, .cells [.int .i64 (s : Int)]), (i, .cells (rowT f c))], [], off, none⟩ (fun u σ' => σ' = ⟨[(j, .cells [.int .i64 (s' : Int)]), (i, .cells (rowT f c))], [], off, none⟩ ∧ u = r)
theorem OnRowC.calls {g : FuncId} {f : α → T} {ts : List T} {c : Array α} {s s' : Nat} {r : T} {i n j : Nat} {cap : Option Nat} {Lf : List (Nat × Ob)} (h : OnRowC P g f ts c s r s') (hnx : σ.nx = none) (hL : σ.L = (j, .cells [.int .i64 (s : Int)]) :: (i, .cells (rowT f c)) :: Lf) (hn : c.size = n) {K : T → St → Prop}
    (k : K r { σ with L := (j, .cells [.int .i64 (s' : Int)]) :: (i, .cells (rowT f c)) :: Lf }) : ACalls P g (.aref 1 i 0 n cap :: (ts ++ [.ptr j 0])) σ K := by
  refine (frame (Ls := [(j, .cells [.int .i64 (s : Int)]), (i, .cells (rowT f c))]) (Lf := Lf) (by rw [hL]; exact List.Perm.refl _) (R := fun u L R' => L = [(j, .cells [.int .i64 (s' : Int)]), (i, .cells (rowT f c))] ∧ R' = [] ∧ u = r) hnx fun off => (h off i n cap j hn).mono fun u σ' ⟨h1, h2⟩ => by subst h1; exact ⟨rfl, rfl, rfl, h2⟩).mono ?_
  rintro u σ' ⟨L', R', ⟨rfl, rfl, rfl⟩, rfl⟩
  obtain ⟨L, R1, off, nx⟩ := σ
  simp only at hnx; subst hnx
  exact k
theorem r_rowC {f : Operand} {args : Array Operand} {tys : Array TypeId} {g : FuncId} {F : α → T} {ts us : List T} {c : Array α} {s s' : Nat} {r : T} {i n j : Nat} {cap : Option Nat} {Lf : List (Nat × Ob)}
    (h : OnRowC P g F ts c s r s') (hf : Bj a f = some (.fn (.func g) [])) (ha : argsT a args.toList = some us) (hu : us = .aref 1 i 0 n cap :: (ts ++ [.ptr j 0])) (hd : Bt N (some d) = true) (hnx : σ.nx = none) (hL : σ.L = (j, .cells [.int .i64 (s : Int)]) :: (i, .cells (rowT F c)) :: Lf)
    (hn : c.size = n) (k : K (put a (some d) r) { σ with L := (j, .cells [.int .i64 (s' : Int)]) :: (i, .cells (rowT F c)) :: Lf }) : AOp P N ⟨some d, .call ⟨.value f, args, tys⟩, ty, pos, af, gd⟩ a σ K := by
  subst hu
  refine op_call rfl hf ha rfl hd ?_
  rw [List.append_nil]
  exact h.calls hnx hL hn k
theorem ret_rowC {rs : List ResultVar} {ts : List T} {f : α → T} {c : Array α} {s : Nat} {r : T} {i j : Nat} (h : ResRs G a σ rs ts) (hn : σ.L = [(j, .cells [.int .i64 (s : Int)]), (i, .cells (rowT f c))]) (hw : Wk (tup1 ts) r) (hnx : σ.nx = none) :
    retA G rs (fun u σ' => σ' = ⟨[(j, .cells [.int .i64 (s : Int)]), (i, .cells (rowT f c))], [], σ.off, none⟩ ∧ u = r) .ret a σ := by
  refine ⟨ts, h, ((conv_drop (L' := [(j, .cells [.int .i64 (s : Int)]), (i, .cells (rowT f c))]) (R' := []) (by rw [hn]; exact List.Sublist.refl _) (List.nil_sublist _) hw).cr ⟨?_, rfl⟩)⟩
  rw [hnx]
end
end Go.Ts
namespace Go.Proofs.Ytmckbfdklcmogaa
open Go.Ts
set_option linter.unusedSimpArgs false
set_option linter.unusedVariables false
attribute [local irreducible] Go.Ts.AW Go.Ts.AOps Go.Ts.AL Go.Ts.AOp Go.Ts.ACalls Go.Ts.DL Go.Ts.DQ0 Go.Ts.EL
open Go.Sort
theorem srt_ord2 {c : Array Nat} {p q s : Nat} (hp : p < c.size) (hq : q < c.size) (hz : c.size ≤ 4294967296) (hs : s ≤ 4294967296) : OnRowC Try.prog 50 mT [.int .i64 (p : Int), .int .i64 (q : Int)] c s
    (.tup [.int .i64 ((order2 ltQ c p q s).1 : Int), .int .i64 ((order2 ltQ c p q s).2.1 : Int)]) (order2 ltQ c p q s).2.2 := by
  intro off i n cap j hn
  refine Br (N := 28) (rs := [.tmp 8, .tmp 9]) hG Try.func50 rfl rfl rfl rfl rfl ?_
  repeat' (first
    | ((first | (show AL _ _ _ _ _ _ _ _; refine Ag Y ?_) | (show DL _ _ _ _ _ _ _; refine' A8 Y Y (fun K kk => ?_) ?_; try (show Go.Ts.T; rotate_left))); (first
      | refine Aq hG Y Y ?_
      | refine A5 hG Y Y ?_
      | (show AOp _ _ ⟨_, .binOp .add _ _ _ _, _, _, _, _⟩ _ _ _; first | refine Ac hG Y Y Y Y Y (by omega) ?_ | refine Ac (m := 1) hG Y Y Y Y Y (by omega) ?_ | refine Ab hG Y Y Y Y Y (by omega) ?_)
      | (show AOp _ _ ⟨_, .binOp _ _ _ _ _, _, _, _, _⟩ _ _ _; first | refine Bw hG Y Y Y ?_)
      | (show AOp _ _ ⟨_, .load _ _, _, _, _, _⟩ _ _ _; first | refine Ak (α := Nat) 0 hG Y Y Y Y (by omega) Y ?_ | refine Ak (α := Nat) 1 hG Y Y Y Y (by omega) Y ?_ | refine Ay hG Y Y Y ?_ | refine Bg 0 hG Y Y Y Y ?_ | refine Bg 1 hG Y Y Y Y ?_)
      | (show AOp _ _ ⟨_, .indexAddr _ _ _, _, _, _, _⟩ _ _ _; first | refine A1 hG Y Y Y Y Y Y Y (by omega) ?_ | refine A0 hG Y Y Y Y Y Y Y (by omega) ?_ | refine Az hG Y Y Y Y Y Y Y (by omega) ?_ | refine A9 hG Y Y ?_)
      | (show AOp _ _ ⟨_, .store _ _ _, _, _, _, _⟩ _ _ _; first | refine Bc (α := Nat) 0 hG Y Y Y Ah Bb Y Y (by first | omega | (simp only [Array.size_setIfInBounds]; omega)) ?_ | refine Bc (α := Nat) 1 hG Y Y Y Ah Bb Y Y (by first | omega | (simp only [Array.size_setIfInBounds]; omega)) ?_ | refine Bv 0 hG Y Y Y Y Y Y Y ?_ | refine Bv 1 hG Y Y Y Y Y Y Y ?_)
      | (show AOp _ _ ⟨_, .call ⟨.value _, _, _⟩, _, _, _, _⟩ _ _ _; first | refine Bn Y Y Y Y Y (by first | (apply Cr <;> (first | assumption | omega | exact A4 _ _ | exact Bd _ | exact A7 _ _ | exact Bi _ | rfl | (simp; omega))) | fail) ?_ | fail)
      | refine r_q hG Y Y Y ?_); try exact kk)
    | (show AL _ _ _ _ _ _ _ _; first | refine Bk Y Y Y ?_ | (refine Ar ?_; first | show AW _ _ _ _ _ _ | show ∃ x', _ < _ ∧ _)) | (show AW _ _ (.seq _ _) _ _ _; refine Ai ?_; intro Q1) | (show AW _ _ (.region _ _ false) _ _ _; refine Ad ?_; intro O1) | (show AW _ _ (.cond _ _ _) _ _ _; first | refine Ao Y ?_ | refine Ap Y ?_ | refine Ba Y (fun h => ?_) (fun h => ?_)) | (show AW _ _ (.skip) _ _ _; refine Aj ?_; first | show AW _ _ _ _ _ _ | show ∃ x', _ < _ ∧ _) | (show AW _ _ (.ret) _ _ _; refine Aw ?_; try dsimp only [Ax, Aa, A2, Af])
    | (show DL _ _ _ _ _ _ _; refine Bx Y Y (fun K kt kf => Am hG Y Y Y Y Y kt kf) (fun h => ?_) (fun h => ?_))
    | (show DL _ _ _ _ _ _ _; refine By Y Y Y ?_) | (show DL _ _ _ _ _ _ _; refine Be ?_; first | show AW _ _ _ _ _ _ | show ∃ x', _ < _ ∧ _) | (show AW _ _ (.region _ _ true) _ _ _; refine A3 mix (by kernel_rfl) ?_; intro O1) | fail)
  · have ho : order2 ltQ c p q s = (q, p, s + 1) := by unfold order2; rw [if_pos h]
    try dsimp (config := { zetaDelta := true }) only [Ax, Aa]
    rw [ho]
    refine ret_rowC (Bm rfl (Bm rfl Bl)) ?_ (.refl _) ?_ <;> rfl
  · have ho : order2 ltQ c p q s = (p, q, s) := by unfold order2; rw [if_neg (by rw [h]; simp)]
    rw [ho]
    refine ret_rowC (Bm rfl (Bm rfl Bl)) ?_ (.refl _) ?_ <;> rfl
theorem srt_med {c : Array Nat} {p q r s : Nat} (hp : p < c.size) (hq : q < c.size) (hr : r < c.size) (hz : c.size ≤ 4294967296) (hs : s ≤ 1000) : OnRowC Try.prog 48 mT [.int .i64 (p : Int), .int .i64 (q : Int), .int .i64 (r : Int)] c s
    (.int .i64 ((median ltQ c p q r s).1 : Int)) (median ltQ c p q r s).2 := by
  have hm : median ltQ c p q r s = (let r1 := order2 ltQ c p q s; let r2 := order2 ltQ c r1.2.1 r r1.2.2; let r3 := order2 ltQ c r1.1 r2.1 r2.2.2; (r3.2.1, r3.2.2)) := rfl
  rw [hm]
  have h1 := srt_ord2 (s := s) hp hq hz (by omega)
  have m1 := order2_mem ltQ c p q s
  have n1 := order2_count (lt := ltQ) c p q s
  generalize order2 ltQ c p q s = r1 at *
  have h2 := srt_ord2 (p := r1.2.1) (q := r) (s := r1.2.2) (by omega) hr hz (by omega)
  have m2 := order2_mem ltQ c r1.2.1 r r1.2.2
  have n2 := order2_count (lt := ltQ) c r1.2.1 r r1.2.2
  dsimp only
  generalize order2 ltQ c r1.2.1 r r1.2.2 = r2 at *
  have h3 := srt_ord2 (p := r1.1) (q := r2.1) (s := r2.2.2) (by omega) (by omega) hz (by omega)
  generalize order2 ltQ c r1.1 r2.1 r2.2.2 = r3 at *
  clear hm
  intro off i n cap j hn
  refine Br (N := 36) (rs := [.tmp 10]) hG Try.func48 rfl rfl rfl rfl rfl ?_
  repeat' (first
    | ((show AL _ _ _ _ _ _ _ _; refine Ag Y ?_); (first
      | refine Aq hG Y Y ?_
      | refine A5 hG Y Y ?_
      | (show AOp _ _ ⟨_, .call ⟨.value _, _, _⟩, _, _, _, _⟩ _ _ _; first | refine r_rowC h1 Y Y Y Y Y Y (by assumption) ?_ | refine r_rowC h2 Y Y Y Y Y Y (by assumption) ?_ | refine r_rowC h3 Y Y Y Y Y Y (by assumption) ?_ | fail)
      | refine r_q hG Y Y Y ?_))
    | (show AL _ _ _ _ _ _ _ _; first | refine Bk Y Y Y ?_ | (refine Ar ?_; first | show AW _ _ _ _ _ _ | show ∃ x', _ < _ ∧ _)) | (show AW _ _ (.seq _ _) _ _ _; refine Ai ?_; intro Q1) | (show AW _ _ (.region _ _ false) _ _ _; refine Ad ?_; intro O1) | (show AW _ _ (.ret) _ _ _; refine Aw ?_; try dsimp only [Ax, Aa, A2, Af]) | fail)
  try dsimp (config := { zetaDelta := true }) only [Ax, Aa]
  refine ret_rowC (Bm rfl Bl) ?_ (.refl _) ?_ <;> rfl
theorem srt_mad {c : Array Nat} {p s : Nat} (h1 : 1 ≤ p) (hp : p + 1 < c.size) (hz : c.size ≤ 4294967296) (hs : s ≤ 1000) : OnRowC Try.prog 47 mT [.int .i64 (p : Int)] c s
    (.int .i64 ((medianAdjacent ltQ c p s).1 : Int)) (medianAdjacent ltQ c p s).2 := by
  have h := srt_med (c := c) (p := p - 1) (q := p) (r := p + 1) (s := s) (by omega) (by omega) (by omega) hz hs
  intro off i n cap j hn
  refine Br (N := 15) (rs := [.tmp 6]) hG Try.func47 rfl rfl rfl rfl rfl ?_
  repeat' (first
    | ((show AL _ _ _ _ _ _ _ _; refine Ag Y ?_); (first
      | refine Aq hG Y Y ?_
      | refine A5 hG Y Y ?_
      | (show AOp _ _ ⟨_, .binOp .add _ _ _ _, _, _, _, _⟩ _ _ _; first | refine Ac hG Y Y Y Y Y (by omega) ?_ | refine Ac (m := 1) hG Y Y Y Y Y (by omega) ?_ | refine Ab hG Y Y Y Y Y (by omega) ?_)
      | (show AOp _ _ ⟨_, .binOp .sub _ _ _ _, _, _, _, _⟩ _ _ _; first | refine Av hG Y Y Y Y (by omega) ?_ | refine Av (m := 1) hG Y Y Y Y (by omega) ?_ | refine Cg (m := 1) hG Y Y Y Y (by omega) ?_ | refine Ab hG Y Y Y Y Y (by omega) ?_)
      | (show AOp _ _ ⟨_, .binOp _ _ _ _ _, _, _, _, _⟩ _ _ _; first | refine Bw hG Y Y Y ?_)
      | (show AOp _ _ ⟨_, .call ⟨.value _, _, _⟩, _, _, _, _⟩ _ _ _; first | refine r_rowC h Y Y Y Y Y Y (by assumption) ?_ | fail)
      | refine r_q hG Y Y Y ?_))
    | (show AL _ _ _ _ _ _ _ _; first | refine Bk Y Y Y ?_ | (refine Ar ?_; first | show AW _ _ _ _ _ _ | show ∃ x', _ < _ ∧ _)) | (show AW _ _ (.seq _ _) _ _ _; refine Ai ?_; intro Q1) | (show AW _ _ (.region _ _ false) _ _ _; refine Ad ?_; intro O1) | (show AW _ _ (.ret) _ _ _; refine Aw ?_; try dsimp only [Ax, Aa, A2, Af]) | fail)
  try dsimp (config := { zetaDelta := true }) only [Ax, Aa]
  refine ret_rowC (Bm rfl Bl) ?_ (.refl _) ?_ <;> rfl
set_option maxHeartbeats 2000000 in
theorem srt_piv {c : Array Nat} {a b : Nat} (h8 : 8 ≤ b - a) (hb : b ≤ c.size) (hz : c.size ≤ 4294967296) : OnRow Try.prog 36 mT [.int .i64 (a : Int), .int .i64 (b : Int)] c
    (.tup [.int .i64 ((choosePivot ltQ c a b).1 : Int), .int .i64 (hintCode (choosePivot ltQ c a b).2)]) c := by
  intro off i n cap hn
  rw [choosePivot_eq]
  obtain ⟨l, hl⟩ : ∃ l, l = b - a := ⟨_, rfl⟩
  by_cases h50 : 50 ≤ b - a
  · have hr : rawPivot ltQ c a b = (let r1 := medianAdjacent ltQ c (a + (b - a) / 4 * 1) 0; let r2 := medianAdjacent ltQ c (a + (b - a) / 4 * 2) r1.2; let r3 := medianAdjacent ltQ c (a + (b - a) / 4 * 3) r2.2; median ltQ c r1.1 r2.1 r3.1 r3.2) := by
      unfold rawPivot; simp only [ge_iff_le]; rw [if_pos h8, if_pos h50]
    have h1 := srt_mad (c := c) (p := a + (b - a) / 4 * 1) (s := 0) (by omega) (by omega) hz (by omega)
    have m1 := medianAdjacent_mem ltQ c (a + (b - a) / 4 * 1) 0
    have n1 := medianAdjacent_count (lt := ltQ) c (a + (b - a) / 4 * 1) 0
    dsimp only at hr
    generalize medianAdjacent ltQ c (a + (b - a) / 4 * 1) 0 = r1 at *
    have h2 := srt_mad (c := c) (p := a + (b - a) / 4 * 2) (s := r1.2) (by omega) (by omega) hz (by omega)
    have m2 := medianAdjacent_mem ltQ c (a + (b - a) / 4 * 2) r1.2
    have n2 := medianAdjacent_count (lt := ltQ) c (a + (b - a) / 4 * 2) r1.2
    generalize medianAdjacent ltQ c (a + (b - a) / 4 * 2) r1.2 = r2 at *
    have h3 := srt_mad (c := c) (p := a + (b - a) / 4 * 3) (s := r2.2) (by omega) (by omega) hz (by omega)
    have m3 := medianAdjacent_mem ltQ c (a + (b - a) / 4 * 3) r2.2
    have n3 := medianAdjacent_count (lt := ltQ) c (a + (b - a) / 4 * 3) r2.2
    generalize medianAdjacent ltQ c (a + (b - a) / 4 * 3) r2.2 = r3 at *
    have h4 := srt_med (c := c) (p := r1.1) (q := r2.1) (r := r3.1) (s := r3.2) (by omega) (by omega) (by omega) hz (by omega)
    rw [hr]
    generalize median ltQ c r1.1 r2.1 r3.1 r3.2 = R at *
    refine Br (N := 57) (rs := [.tmp 6, .tmp 7]) hG Try.func36 rfl rfl rfl rfl rfl ?_
    repeat' (first
    | ((show AL _ _ _ _ _ _ _ _; refine Ag Y ?_); (first
      | refine Aq hG Y Y ?_
      | refine A5 hG Y Y ?_
      | (show AOp _ _ ⟨_, .binOp .add _ _ _ _, _, _, _, _⟩ _ _ _; first | refine Ac hG Y Y Y Y Y (by omega) ?_ | refine Ac (m := 1) hG Y Y Y Y Y (by omega) ?_ | refine Ab hG Y Y Y Y Y (by omega) ?_)
      | (show AOp _ _ ⟨_, .binOp .sub _ _ _ _, _, _, _, _⟩ _ _ _; first | refine Av hG Y Y Y Y (by omega) ?_ | refine Av (m := 1) hG Y Y Y Y (by omega) ?_ | refine Cg (m := 1) hG Y Y Y Y (by omega) ?_ | refine Ab hG Y Y Y Y Y (by omega) ?_)
      | (show AOp _ _ ⟨_, .binOp .mul _ _ _ _, _, _, _, _⟩ _ _ _; first | refine Ac hG Y Y Y Y Y (by omega) ?_ | refine Ac (m := 1) hG Y Y Y Y Y (by omega) ?_ | refine Ac (m := 2) hG Y Y Y Y Y (by omega) ?_ | refine Ac (m := 3) hG Y Y Y Y Y (by omega) ?_ | refine Ac (n := 2) hG Y Y Y Y Y (by omega) ?_ | refine Ab hG Y Y Y Y Y (by omega) ?_)
      | (show AOp _ _ ⟨_, .binOp .quo _ _ _ _, _, _, _, _⟩ _ _ _; first | refine Bf (m := 2) hG Y Y Y Y (by omega) ?_ | refine Bf (m := 4) hG Y Y Y Y (by omega) ?_ | refine Bf (m := 8) hG Y Y Y Y (by omega) ?_)
      | (show AOp _ _ ⟨_, .binOp _ _ _ _ _, _, _, _, _⟩ _ _ _; first | refine At hG Y Y Y Y Y (by omega) ?_ | refine Au hG Y Y Y Y Y (by omega) ?_ | (refine Am hG Y Y Y Y Y (fun h => ?_) (fun h => ?_)) | refine Bw hG Y Y Y ?_)
      | (show AOp _ _ ⟨_, .load _ _, _, _, _, _⟩ _ _ _; first | refine Ak (α := Nat) 0 hG Y Y Y Y (by omega) Y ?_ | refine Ak (α := Nat) 1 hG Y Y Y Y (by omega) Y ?_ | refine Bg 0 hG Y Y Y Y ?_ | refine Bg 1 hG Y Y Y Y ?_)
      | (show AOp _ _ ⟨_, .alloc _, _, _, _, _⟩ _ _ _; refine Ce hG Y Y (fun i => ?_))
      | (show AOp _ _ ⟨_, .call ⟨.value _, _, _⟩, _, _, _, _⟩ _ _ _; first | refine r_rowC h1 Y Y Y Y Y Y (by assumption) ?_ | refine r_rowC h2 Y Y Y Y Y Y (by assumption) ?_ | refine r_rowC h3 Y Y Y Y Y Y (by assumption) ?_ | refine r_rowC h4 Y Y Y Y Y Y (by assumption) ?_ | fail)
      | refine r_q hG Y Y Y ?_))
    | (show AL _ _ _ _ _ _ _ _; first | refine Bk Y Y Y ?_ | (refine Ar ?_; first | show AW _ _ _ _ _ _ | show ∃ x', _ < _ ∧ _)) | (show AW _ _ (.seq _ _) _ _ _; refine Ai ?_; intro Q1) | (show AW _ _ (.region _ _ false) _ _ _; refine Ad ?_; intro O1) | (show AW _ _ (.cond _ _ _) _ _ _; first | refine Ao Y ?_ | refine Ap Y ?_ | refine Ba Y (fun h => ?_) (fun h => ?_)) | (show AW _ _ (.skip) _ _ _; refine Aj ?_; first | show AW _ _ _ _ _ _ | show ∃ x', _ < _ ∧ _) | (show AW _ _ (.block _ _) _ _ _; refine Ae ?_; intro Q1) | (show AW _ _ (.ret) _ _ _; refine Aw ?_; try dsimp only [Ax, Aa, A2, Af]) | fail)
    · have ho : hintOf R.2 = .increasing := by unfold hintOf; rw [if_pos (by omega)]
      try dsimp (config := { zetaDelta := true }) only [Ax, Aa]
      rw [ho]
      refine ret_row 1 (Bm rfl (Bm rfl Bl)) ?_ (.refl _) ?_ <;> rfl
    · have ho : hintOf R.2 = .decreasing := by unfold hintOf; rw [if_neg (by omega), if_pos (by omega)]
      try dsimp (config := { zetaDelta := true }) only [Ax, Aa]
      rw [ho]
      refine ret_row 1 (Bm rfl (Bm rfl Bl)) ?_ (.refl _) ?_ <;> rfl
    · have ho : hintOf R.2 = .unknown := by unfold hintOf; rw [if_neg (by omega), if_neg (by omega)]
      try dsimp (config := { zetaDelta := true }) only [Ax, Aa]
      rw [ho]
      refine ret_row 1 (Bm rfl (Bm rfl Bl)) ?_ (.refl _) ?_ <;> rfl
  · have hr : rawPivot ltQ c a b = median ltQ c (a + (b - a) / 4 * 1) (a + (b - a) / 4 * 2) (a + (b - a) / 4 * 3) 0 := by
      unfold rawPivot; simp only [ge_iff_le]; rw [if_pos h8, if_neg h50]
    have h := srt_med (c := c) (p := a + (b - a) / 4 * 1) (q := a + (b - a) / 4 * 2) (r := a + (b - a) / 4 * 3) (s := 0) (by omega) (by omega) (by omega) hz (by omega)
    rw [hr]
    generalize median ltQ c (a + (b - a) / 4 * 1) (a + (b - a) / 4 * 2) (a + (b - a) / 4 * 3) 0 = R at *
    refine Br (N := 57) (rs := [.tmp 6, .tmp 7]) hG Try.func36 rfl rfl rfl rfl rfl ?_
    repeat' (first
    | ((show AL _ _ _ _ _ _ _ _; refine Ag Y ?_); (first
      | refine Aq hG Y Y ?_
      | refine A5 hG Y Y ?_
      | (show AOp _ _ ⟨_, .binOp .add _ _ _ _, _, _, _, _⟩ _ _ _; first | refine Ac hG Y Y Y Y Y (by omega) ?_ | refine Ac (m := 1) hG Y Y Y Y Y (by omega) ?_ | refine Ab hG Y Y Y Y Y (by omega) ?_)
      | (show AOp _ _ ⟨_, .binOp .sub _ _ _ _, _, _, _, _⟩ _ _ _; first | refine Av hG Y Y Y Y (by omega) ?_ | refine Av (m := 1) hG Y Y Y Y (by omega) ?_ | refine Cg (m := 1) hG Y Y Y Y (by omega) ?_ | refine Ab hG Y Y Y Y Y (by omega) ?_)
      | (show AOp _ _ ⟨_, .binOp .mul _ _ _ _, _, _, _, _⟩ _ _ _; first | refine Ac hG Y Y Y Y Y (by omega) ?_ | refine Ac (m := 1) hG Y Y Y Y Y (by omega) ?_ | refine Ac (m := 2) hG Y Y Y Y Y (by omega) ?_ | refine Ac (m := 3) hG Y Y Y Y Y (by omega) ?_ | refine Ac (n := 2) hG Y Y Y Y Y (by omega) ?_ | refine Ab hG Y Y Y Y Y (by omega) ?_)
      | (show AOp _ _ ⟨_, .binOp .quo _ _ _ _, _, _, _, _⟩ _ _ _; first | refine Bf (m := 2) hG Y Y Y Y (by omega) ?_ | refine Bf (m := 4) hG Y Y Y Y (by omega) ?_ | refine Bf (m := 8) hG Y Y Y Y (by omega) ?_)
      | (show AOp _ _ ⟨_, .binOp _ _ _ _ _, _, _, _, _⟩ _ _ _; first | refine At hG Y Y Y Y Y (by omega) ?_ | refine Au hG Y Y Y Y Y (by omega) ?_ | (refine Am hG Y Y Y Y Y (fun h => ?_) (fun h => ?_)) | refine Bw hG Y Y Y ?_)
      | (show AOp _ _ ⟨_, .load _ _, _, _, _, _⟩ _ _ _; first | refine Ak (α := Nat) 0 hG Y Y Y Y (by omega) Y ?_ | refine Ak (α := Nat) 1 hG Y Y Y Y (by omega) Y ?_ | refine Bg 0 hG Y Y Y Y ?_ | refine Bg 1 hG Y Y Y Y ?_)
      | (show AOp _ _ ⟨_, .alloc _, _, _, _, _⟩ _ _ _; refine Ce hG Y Y (fun i => ?_))
      | (show AOp _ _ ⟨_, .call ⟨.value _, _, _⟩, _, _, _, _⟩ _ _ _; first | refine r_rowC h Y Y Y Y Y Y (by assumption) ?_ | fail)
      | refine r_q hG Y Y Y ?_))
    | (show AL _ _ _ _ _ _ _ _; first | refine Bk Y Y Y ?_ | (refine Ar ?_; first | show AW _ _ _ _ _ _ | show ∃ x', _ < _ ∧ _)) | (show AW _ _ (.seq _ _) _ _ _; refine Ai ?_; intro Q1) | (show AW _ _ (.region _ _ false) _ _ _; refine Ad ?_; intro O1) | (show AW _ _ (.cond _ _ _) _ _ _; first | refine Ao Y ?_ | refine Ap Y ?_ | refine Ba Y (fun h => ?_) (fun h => ?_)) | (show AW _ _ (.skip) _ _ _; refine Aj ?_; first | show AW _ _ _ _ _ _ | show ∃ x', _ < _ ∧ _) | (show AW _ _ (.block _ _) _ _ _; refine Ae ?_; intro Q1) | (show AW _ _ (.ret) _ _ _; refine Aw ?_; try dsimp only [Ax, Aa, A2, Af]) | fail)
    · have ho : hintOf R.2 = .increasing := by unfold hintOf; rw [if_pos (by omega)]
      try dsimp (config := { zetaDelta := true }) only [Ax, Aa]
      rw [ho]
      refine ret_row 1 (Bm rfl (Bm rfl Bl)) ?_ (.refl _) ?_ <;> rfl
    · have ho : hintOf R.2 = .decreasing := by unfold hintOf; rw [if_neg (by omega), if_pos (by omega)]
      try dsimp (config := { zetaDelta := true }) only [Ax, Aa]
      rw [ho]
      refine ret_row 1 (Bm rfl (Bm rfl Bl)) ?_ (.refl _) ?_ <;> rfl
    · have ho : hintOf R.2 = .unknown := by unfold hintOf; rw [if_neg (by omega), if_neg (by omega)]
      try dsimp (config := { zetaDelta := true }) only [Ax, Aa]
      rw [ho]
      refine ret_row 1 (Bm rfl (Bm rfl Bl)) ?_ (.refl _) ?_ <;> rfl
end Go.Proofs.Ytmckbfdklcmogaa
set_option linter.unusedVariables false
set_option linter.unusedSimpArgs false
namespace Go.Ts

inductive Tr (α : Type) where
  | leaf
  | node (l : Tr α) (v : Option α) (r : Tr α)

def Tr.get {α : Type} : Tr α → Nat → Option α
  | .leaf, _ => none
  | .node l v r, i => cond (Nat.beq i 0) v (cond (Nat.beq (i % 2) 1) (l.get (i / 2)) (r.get (i / 2 - 1)))
def Tr.lft {α : Type} : Tr α → Tr α
  | .leaf => .leaf
  | .node l _ _ => l
def Tr.mid {α : Type} : Tr α → Option α
  | .leaf => none
  | .node _ v _ => v
def Tr.rgt {α : Type} : Tr α → Tr α
  | .leaf => .leaf
  | .node _ _ r => r
def Tr.up {α : Type} : Nat → Tr α → Nat → Option α → Tr α
  | 0, _, _, _ => .leaf
  | f + 1, t, i, x => cond (Nat.beq i 0) (.node t.lft x t.rgt) (cond (Nat.beq (i % 2) 1) (.node (Tr.up f t.lft (i / 2) x) t.mid t.rgt) (.node t.lft t.mid (Tr.up f t.rgt (i / 2 - 1) x)))
def Tr.set {α : Type} (t : Tr α) (i : Nat) (x : α) : Tr α := Tr.up 40 t i (some x)
def Tr.del {α : Type} (t : Tr α) (i : Nat) : Tr α := Tr.up 40 t i none

theorem Tr.get_parts {α : Type} (t : Tr α) (i : Nat) : t.get i = cond (Nat.beq i 0) t.mid (cond (Nat.beq (i % 2) 1) (t.lft.get (i / 2)) (t.rgt.get (i / 2 - 1))) := by
  cases t with
  | leaf => simp only [Tr.get, Tr.mid, Tr.lft, Tr.rgt]; cases Nat.beq i 0 <;> cases Nat.beq (i % 2) 1 <;> rfl
  | node l v r => rfl
theorem Tr.get_up {α : Type} : ∀ (f : Nat) (t : Tr α) (i : Nat) (x : Option α) (j : Nat) (y : α), (Tr.up f t i x).get j = some y → (j = i ∧ x = some y) ∨ (j ≠ i ∧ t.get j = some y)
  | 0, t, i, x, j, y, h => by simp [Tr.up, Tr.get] at h
  | f + 1, t, i, x, j, y, h => by
    simp only [Tr.up] at h
    rw [Tr.get_parts t j]
    by_cases hi : i = 0
    · subst hi
      simp only [Nat.beq_refl, cond_true, Tr.get] at h
      by_cases hj : j = 0
      · subst hj; simp at h; exact .inl ⟨rfl, h⟩
      · rw [beqF hj] at h ⊢; exact .inr ⟨hj, h⟩
    · rw [beqF hi, cond_false] at h
      by_cases hp : i % 2 = 1
      · rw [hp, Nat.beq_refl, cond_true] at h
        simp only [Tr.get] at h
        by_cases hj : j = 0
        · subst hj; simp only [Nat.beq_refl, cond_true] at h ⊢; exact .inr ⟨fun e => hi e.symm, h⟩
        · rw [beqF hj, cond_false] at h ⊢
          by_cases hq : j % 2 = 1
          · rw [hq, Nat.beq_refl, cond_true] at h ⊢
            rcases Tr.get_up f _ _ _ _ _ h with ⟨h1, h2⟩ | ⟨h1, h2⟩
            · exact .inl ⟨by omega, h2⟩
            · exact .inr ⟨fun e => h1 (by rw [e]), h2⟩
          · rw [beqF hq, cond_false] at h ⊢
            exact .inr ⟨fun e => hq (by rw [e]; exact hp), h⟩
      · rw [beqF hp, cond_false] at h
        simp only [Tr.get] at h
        by_cases hj : j = 0
        · subst hj; simp only [Nat.beq_refl, cond_true] at h ⊢; exact .inr ⟨fun e => hi e.symm, h⟩
        · rw [beqF hj, cond_false] at h ⊢
          by_cases hq : j % 2 = 1
          · rw [hq, Nat.beq_refl, cond_true] at h ⊢
            exact .inr ⟨fun e => hp (by rw [← e]; exact hq), h⟩
          · rw [beqF hq, cond_false] at h ⊢
            rcases Tr.get_up f _ _ _ _ _ h with ⟨h1, h2⟩ | ⟨h1, h2⟩
            · exact .inl ⟨by omega, h2⟩
            · exact .inr ⟨fun e => h1 (by rw [e]), h2⟩
theorem Tr.get_set {α : Type} {t : Tr α} {i : Nat} {x : α} {j : Nat} {y : α} (h : (t.set i x).get j = some y) : (j = i ∧ x = y) ∨ (j ≠ i ∧ t.get j = some y) := by
  rcases Tr.get_up _ _ _ _ _ _ h with ⟨h1, h2⟩ | h
  · injection h2 with h2; exact .inl ⟨h1, h2⟩
  · exact .inr h
theorem Tr.get_del {α : Type} {t : Tr α} {i : Nat} {j : Nat} {y : α} (h : (t.del i).get j = some y) : j ≠ i ∧ t.get j = some y := by
  rcases Tr.get_up _ _ _ _ _ _ h with ⟨h1, h2⟩ | h
  · cases h2
  · exact h


inductive HO where
  | th (n zn : Nat) (z : List T) (ov : Tr T)
  | mp (es : List (T × T))
structure HS where
  L : Tr HO
  R : Tr Unit
  nx : Nat

def cellX (zn : Nat) (z : List T) (ov : Tr T) (j : Nat) : Option T :=
  match ov.get j with
  | some t => some t
  | none => cond (Nat.blt j zn) (z[j % z.length]?) none
def ThOK (zn : Nat) (z : List T) (ov : Tr T) (ts : List T) : Prop := ∀ j t, cellX zn z ov j = some t → ts[j]? = some t

def setCells (ov : Tr T) : Nat → List T → Tr T
  | _, [] => ov
  | p, t :: ts => setCells (ov.set p t) (p + 1) ts
theorem get_setCells : ∀ (l : List T) (ov : Tr T) (p j : Nat) (t : T), (setCells ov p l).get j = some t → (p ≤ j ∧ l[j - p]? = some t) ∨ ((j < p ∨ p + l.length ≤ j) ∧ ov.get j = some t)
  | [], ov, p, j, t, h => .inr ⟨by simp; omega, h⟩
  | x :: l, ov, p, j, t, h => by
    rcases get_setCells l _ (p + 1) j t h with ⟨h1, h2⟩ | ⟨h1, h2⟩
    · exact .inl ⟨by omega, by rw [show j - p = (j - (p + 1)) + 1 by omega]; simpa using h2⟩
    · rcases Tr.get_set h2 with ⟨h3, h4⟩ | ⟨h3, h4⟩
      · subst h3; subst h4; exact .inl ⟨Nat.le_refl _, by simp⟩
      · exact .inr ⟨by simp; omega, h4⟩
def CovE (a : Env) (e : Tr T) : Prop := ∀ i t, e.get i = some t → get a i = some t
def putX (e : Tr T) : Option Tmp → T → Tr T
  | some d, t => e.set d t
  | none, _ => e
theorem CovE.put {a : Env} {e : Tr T} (h : CovE a e) (d : Option Tmp) (t : T) : CovE (put a d t) (putX e d t) := by
  intro i u hi
  cases d with
  | none => exact h i u hi
  | some d =>
    rcases Tr.get_set hi with ⟨h1, h2⟩ | ⟨h1, h2⟩
    · subst h1; subst h2; simp [Ts.put, get]
    · simp only [Ts.put, get]; rw [beqF (fun e => h1 e.symm), cond_false]; exact h i u h2
def evX (e : Tr T) : Operand → Option T
  | .tmp t => e.get t
  | .const v => some (constT v)
  | .global _ => none
  | .func f => some (.fn (.func f) [])
theorem CovE.ev {a : Env} {e : Tr T} (h : CovE a e) {x : Operand} {t : T} (hx : evX e x = some t) : Bj a x = some t := by
  cases x with
  | tmp i => exact h i t hx
  | const v => exact hx
  | global g => cases hx
  | func f => exact hx
structure HCov (σ : St) (h : HS) : Prop where
  th : ∀ i n zn z ov, h.L.get i = some (.th n zn z ov) → ∃ ts, (i, .cells ts) ∈ σ.L ∧ ts.length = n ∧ ThOK zn z ov ts
  mp : ∀ i es, h.L.get i = some (.mp es) → (i, .map es) ∈ σ.L
  room : ∀ k u, h.R.get k = some u → k ∈ σ.R
  nx : σ.nx = some h.nx

def argsX (e : Tr T) : List Operand → Option (List T)
  | [] => some []
  | x :: r => match evX e x, argsX e r with
    | some t, some ts => some (t :: ts)
    | _, _ => none
theorem CovE.args {a : Env} {e : Tr T} (h : CovE a e) : ∀ {l : List Operand} {ts : List T}, argsX e l = some ts → argsT a l = some ts
  | [], ts, hl => hl
  | x :: r, ts, hl => by
    simp only [argsX] at hl
    split at hl
    · rename_i t us h1 h2
      injection hl with hl; subst hl
      simp only [argsT, h.ev h1, h.args h2]
    · cases hl
def partsX (e : Tr T) : List (Nat × Operand) → Option (List (Nat × T))
  | [] => some []
  | (i, x) :: r => match evX e x, partsX e r with
    | some t, some ts => some ((i, t) :: ts)
    | _, _ => none
theorem CovE.parts {a : Env} {e : Tr T} (h : CovE a e) : ∀ {l : List (Nat × Operand)} {ts : List (Nat × T)}, partsX e l = some ts → partsT a l = some ts
  | [], ts, hl => hl
  | (i, x) :: r, ts, hl => by
    simp only [partsX] at hl
    split at hl
    · rename_i t us h1 h2
      injection hl with hl; subst hl
      simp only [partsT, h.ev h1, h.parts h2]
    · cases hl
def guardX (ops : List Oper) (e : Tr T) (o : Oper) : Option Bool :=
  match o.guard with
  | none => some true
  | some (j, want) => match (ops[j]?).bind (·.dst) with
    | some d => match e.get d with
      | some (.bool b) => some (b == want)
      | some (.tup _) => some false
      | _ => none
    | none => none
theorem CovE.guard {a : Env} {e : Tr T} (h : CovE a e) {ops : List Oper} {o : Oper} {b : Bool} (hg : guardX ops e o = some b) : guardOf ⟨ops⟩ a o = some b := by
  unfold guardX at hg
  unfold guardOf
  split at hg
  · rename_i hq; simp only [hq]; exact hg
  · rename_i j want hq
    simp only [hq]
    split at hg
    · rename_i d hd
      have hd' : ((⟨ops⟩ : Array Oper)[j]?).bind (·.dst) = some d := by simpa using hd
      simp only [hd']
      split at hg
      · rename_i b' hb; rw [h d _ hb]; exact hg
      · rename_i ts hb; rw [h d _ hb]; exact hg
      · cases hg
    · cases hg
end Go.Ts
set_option linter.unusedVariables false
set_option linter.unusedSimpArgs false
namespace Go.Ts
section
variable {P : Program} {G : Nat → Option TI} {w w1 : World} {μ : Gh} {σ : St} {N : Nat} {a : Env} {Q : Exit → Env → St → Prop}

theorem born_empty : Born #[] 0 := ⟨fun e h => by simp at h, by simp⟩
theorem born_push {en : Array MapEntry} {cl : Nat} (h : Born en cl) (k v : Value) : Born (en.push { key := k, val := v, born := cl }) (cl + 1) := by
  refine ⟨fun e he => ?_, ?_⟩
  · simp only [Array.toList_push, List.mem_append, List.mem_singleton] at he
    rcases he with he | rfl
    · have := h.1 e he; omega
    · simp
  · simp only [Array.toList_push, List.map_append, List.map_cons, List.map_nil]
    refine List.nodup_append.2 ⟨h.2, by simp, fun x hx y hy => ?_⟩
    obtain ⟨e, he, rfl⟩ := List.mem_map.1 hx
    simp at hy; subst hy
    have := h.1 e he; omega
theorem born_same {en en' : Array MapEntry} {cl : Nat} (h : Born en cl) (hm : en'.toList.map MapEntry.born = en.toList.map MapEntry.born) : Born en' cl := by
  refine ⟨fun e he => ?_, hm ▸ h.2⟩
  have : e.born ∈ en.toList.map MapEntry.born := hm ▸ List.mem_map.2 ⟨e, he, rfl⟩
  obtain ⟨e2, h2, h3⟩ := List.mem_map.1 this
  rw [← h3]; exact h.1 e2 h2
theorem new_map_step (hi : Inv w μ σ) {i : Nat} (hf : μ.loc i = none) (hft : μ.tok i = none) (hfn : ∀ n, σ.nx = some n → i = n) (hfj : ∀ j, i ≤ j → μ.loc j = none ∧ μ.tok j = none) :
    Ev w μ σ (w.alloc (.map #[] 0)) (μ.addL i (w.heap.size, 0)) (σ.new i (.map [])) ∧ Inv (w.alloc (.map #[] 0)) (μ.addL i (w.heap.size, 0)) (σ.new i (.map [])) := by
  have hsz := size_alloc w (.map #[] 0)
  have hmem : ∀ j o, (j, o) ∈ (σ.new i (.map [])).L → (j = i ∧ o = .map []) ∨ ((j, o) ∈ σ.L ∧ j ≠ i) := by
    intro j o h
    rcases List.mem_cons.1 h with h | h
    · injection h with h1 h2; exact .inl ⟨h1, h2⟩
    · exact .inr ⟨h, fun e => hi.idlt h (e ▸ hf)⟩
  have ev : Ev w μ σ (w.alloc (.map #[] 0)) (μ.addL i (w.heap.size, 0)) (σ.new i (.map [])) := by
    refine ev_new hi (addL_mono hf) (fun _ _ h => h) rfl (fun j o b p h1 h2 h3 => ?_) (fun k b f t h1 h2 h3 h4 => ⟨h1, h2⟩)
    rcases hmem j o h1 with ⟨rfl, _⟩ | ⟨h, hne⟩
    · rw [Cp] at h2; injection h2 with h2; injection h2 with h2; omega
    · rw [addL_ne _ hne] at h2; exact ⟨o, j, p, h, h2⟩
  refine ⟨ev, ⟨fun j us h => ?_, fun j es h => ?_, fun n m j k x y b p q h1 h2 h3 h4 => ?_, fun k hk => ?_, fun n m k l b f t g u h1 h2 h3 h4 => hi.rinj n m k l b f t g u h1 h2 h3 h4, ?_, fun b o h => ?_, fun j o b p h1 h2 q => ?_⟩⟩
  · rcases hmem j _ h with ⟨rfl, h1⟩ | ⟨h1, hne⟩
    · cases h1
    · obtain ⟨b, p, c', e', h2, h3, h4, h5⟩ := hi.obj j us h1
      exact ⟨b, p, c', e', by rw [addL_ne _ hne]; exact h2, by rw [Cd w _ (Array.getElem?_eq_some_iff.1 h3).1]; exact h3, h4, fun n t v h6 h7 => (h5 n t v h6 h7).ev ev⟩
  · rcases hmem j _ h with ⟨rfl, h1⟩ | ⟨h1, hne⟩
    · injection h1 with h1; subst h1
      exact ⟨w.heap.size, #[], 0, Cp _ _, heap_alloc_at w _, ⟨rfl, born_empty⟩, fun n k u e h1 => by simp at h1⟩
    · obtain ⟨b, en, cl, h2, h3, h4, h5⟩ := hi.map j es h1
      exact ⟨b, en, cl, by rw [addL_ne _ hne]; exact h2, by rw [Cd w _ (Array.getElem?_eq_some_iff.1 h3).1]; exact h3, h4, fun n k u e' h6 h7 => let ⟨h8, h9⟩ := h5 n k u e' h6 h7; ⟨h8.ev ev, h9.ev ev⟩⟩
  · have hold : ∀ (n j : Nat) (x : Ob) (b p : Nat), σ.L[n]? = some (j, x) → (μ.addL i (w.heap.size, 0)).loc j = some (b, p) → μ.loc j = some (b, p) ∧ b < w.heap.size := by
      intro n j x b p h1 h2
      have hm := List.mem_of_getElem? h1
      have hne : j ≠ i := by rintro rfl; exact hi.idlt hm hf
      rw [addL_ne _ hne] at h2
      exact ⟨h2, hi.lts hm h2⟩
    have hnew : ∀ (b p : Nat), (μ.addL i (w.heap.size, 0)).loc i = some (b, p) → b = w.heap.size := by
      intro b p h; rw [Cp] at h; injection h with h; injection h with h; exact h.symm
    cases n with
    | zero =>
      have e1 : (i, Ob.map []) = (j, x) := by simpa [St.new] using h1
      injection e1 with e1 e2; subst e1
      cases m with
      | zero => rfl
      | succ m =>
        have := (hold m k y b q (by simpa [St.new] using h2) h4).2
        have := hnew b p h3
        omega
    | succ n =>
      cases m with
      | zero =>
        have e1 : (i, Ob.map []) = (k, y) := by simpa [St.new] using h2
        injection e1 with e1 e2; subst e1
        have := (hold n j x b p (by simpa [St.new] using h1) h3).2
        have := hnew b q h4
        omega
      | succ m =>
        have h1' : σ.L[n]? = some (j, x) := by simpa [St.new] using h1
        have h2' : σ.L[m]? = some (k, y) := by simpa [St.new] using h2
        rw [hi.inj n m j k x y b p q h1' h2' (hold n j x b p h1' h3).1 (hold m k y b q h2' h4).1]
  · obtain ⟨b, f, t, h1, h2, h3⟩ := hi.room k hk
    refine ⟨b, f, t, h1, h2, fun hlt => ?_⟩
    obtain ⟨⟨c', e', h4, h5⟩, h6, h7⟩ := h3 hlt
    have hb := (Array.getElem?_eq_some_iff.1 h4).1
    refine ⟨⟨c', e', by rw [Cd w _ hb]; exact h4, h5⟩, fun j o p h8 h9 => ?_, h7⟩
    rcases hmem j o h8 with ⟨rfl, _⟩ | ⟨h, hne⟩
    · rw [Cp] at h9; injection h9 with h9; injection h9 with h9; omega
    · rw [addL_ne _ hne] at h9; exact h6 j o p h h9
  · refine ⟨i + 1, fun j hj => ⟨by rw [addL_ne _ (by omega)]; exact (hfj j (by omega)).1, (hfj j (by omega)).2⟩, fun m hm => ?_⟩
    simp only [St.new] at hm
    cases hx : σ.nx with
    | none => rw [hx] at hm; cases hm
    | some n => rw [hx] at hm; simp at hm; omega
  · have := hi.offlt b o h; omega
  · rcases hmem j o h1 with ⟨rfl, _⟩ | ⟨h, hne⟩
    · rw [Cp] at h2; injection h2 with h2; injection h2 with h2 h3; subst h2
      intro h; exact absurd (hi.offlt _ _ h) (by omega)
    · rw [addL_ne _ hne] at h2; exact hi.offobj j o b p h h2 q

def setMap (w : World) (b : Nat) (en : Array MapEntry) (cl : Nat) : World := { w with heap := w.heap.setIfInBounds b (.map en cl) }
theorem setMap_same {b : Nat} {en en' : Array MapEntry} {cl cl' : Nat} (h : w.heap[b]? = some (.map en cl)) : (setMap w b en' cl').heap[b]? = some (.map en' cl') := by
  have := (Array.getElem?_eq_some_iff.1 h).1
  simp [setMap, this]
theorem setMap_ne {b x : Nat} {en' : Array MapEntry} {cl' : Nat} (h : x ≠ b) : (setMap w b en' cl').heap[x]? = w.heap[x]? := by
  simp [setMap, Array.getElem?_setIfInBounds, Ne.symm h]
theorem setMap_size {b : Nat} {en' : Array MapEntry} {cl' : Nat} : (setMap w b en' cl').heap.size = w.heap.size := by simp [setMap]

theorem map_step (hi : Inv w μ σ) {n i b : Nat} {es es' : List (T × T)} (hn : σ.L[n]? = some (i, .map es)) (hl : μ.loc i = some (b, 0)) {en en' : Array MapEntry} {cl cl' : Nat} (hc : w.heap[b]? = some (.map en cl)) (hsz : en'.size = es'.length ∧ Born en' cl')
    (hen : ∀ (j : Nat) (k u : T) (e : MapEntry), es'[j]? = some (k, u) → en'[j]? = some e → Rel w μ σ e.key k ∧ Rel w μ σ e.val u) :
    Ev w μ σ (setMap w b en' cl') μ (σ.set n i (.map es')) ∧ Inv (setMap w b en' cl') μ (σ.set n i (.map es')) := by
  have hb1 : (setMap w b en' cl').heap[b]? = some (.map en' cl') := setMap_same hc
  have hin := List.mem_of_getElem? hn
  have ev : Ev w μ σ (setMap w b en' cl') μ (σ.set n i (.map es')) := by
    refine ⟨⟨rfl, rfl, rfl, by rw [setMap_size]; exact Nat.le_refl _, fun k hk => by omega⟩, fun _ _ h => h, fun _ _ h => h, rfl, fun x m ⟨c2, e2, f2, h1, h2⟩ => ?_, fun x hx hlv => ?_, fun x q hx => ?_⟩
    · have h : x ≠ b := by rintro rfl; rw [hc] at h1; cases h1
      exact ⟨c2, e2, f2, by rw [setMap_ne h]; exact h1, h2⟩
    · have hne : x ≠ b := by rintro rfl; exact hlv (.inl ⟨i, _, 0, hin, hl⟩)
      refine ⟨?_, setMap_ne hne⟩
      rintro (⟨j, y, q, h1, h2⟩ | h)
      · obtain ⟨y', h3⟩ := set_mem' hn h1
        exact hlv (.inl ⟨j, y', q, h3, h2⟩)
      · exact hlv (.inr h)
    · have hne : x ≠ b := by rintro rfl; exact hx.obj i _ 0 hin hl
      refine ⟨⟨by have := hx.lt; rw [setMap_size]; exact this, hx.off, fun j y r h1 h2 => ?_, hx.room⟩, cell_of_heap (setMap_ne hne) q⟩
      obtain ⟨y', h3⟩ := set_mem' hn h1
      exact hx.obj j y' r h3 h2
  have hother : ∀ (m j : Nat) (x : Ob) (b' q : Nat), m ≠ n → σ.L[m]? = some (j, x) → μ.loc j = some (b', q) → b' ≠ b := by
    rintro m j x b' q hne h1 h2 rfl
    exact hne (hi.inj m n j i x _ b' q 0 h1 hn h2 hl)
  refine ⟨ev, ⟨fun j us h => ?_, fun j es2 h => ?_, fun n1 m j k x y b p q h1 h2 h3 h4 => ?_, fun k hk => ?_, hi.rinj, hi.fin, fun b o h => ?_, fun j x b p h1 h2 => ?_⟩⟩
  · rcases set_mem hn h with ⟨rfl, h1⟩ | ⟨m, hne, h1⟩
    · cases h1
    · obtain ⟨b', p', c2, e2, h2, h3, h4, h5⟩ := hi.obj j us (List.mem_of_getElem? h1)
      have hne2 := hother m j _ b' p' hne h1 h2
      exact ⟨b', p', c2, e2, h2, by rw [setMap_ne hne2]; exact h3, h4, fun m t v h6 h7 => (h5 m t v h6 h7).ev ev⟩
  · rcases set_mem hn h with ⟨rfl, h1⟩ | ⟨m, hne, h1⟩
    · injection h1 with h1; subst h1
      exact ⟨b, en', cl', hl, hb1, hsz, fun m k u e h1 h2 => let ⟨h3, h4⟩ := hen m k u e h1 h2; ⟨h3.ev ev, h4.ev ev⟩⟩
    · obtain ⟨b', en2, cl2, h2, h3, h4, h5⟩ := hi.map j es2 (List.mem_of_getElem? h1)
      have hne2 := hother m j _ b' 0 hne h1 h2
      exact ⟨b', en2, cl2, h2, by rw [setMap_ne hne2]; exact h3, h4, fun m k u e' h6 h7 => let ⟨h8, h9⟩ := h5 m k u e' h6 h7; ⟨h8.ev ev, h9.ev ev⟩⟩
  · have old : ∀ (m j : Nat) (x : Ob), (σ.set n i (.map es')).L[m]? = some (j, x) → ∃ x', σ.L[m]? = some (j, x') := by
      intro m j x h
      simp only [St.set, List.getElem?_set] at h
      split at h
      · rename_i e; subst e
        rw [if_pos (lt_of_get hn)] at h
        injection h with h; injection h with h1 h2; subst h1
        exact ⟨_, hn⟩
      · exact ⟨x, h⟩
    obtain ⟨x', h1'⟩ := old n1 j x h1
    obtain ⟨y', h2'⟩ := old m k y h2
    exact hi.inj n1 m j k x' y' b p q h1' h2' h3 h4
  · obtain ⟨b', f, t, h1, h2, h3⟩ := hi.room k hk
    refine ⟨b', f, t, h1, h2, fun hlt => ?_⟩
    obtain ⟨⟨c2, e2, h4, h5⟩, h6, h7⟩ := h3 hlt
    have hne : b' ≠ b := by rintro rfl; exact h6 i _ 0 hin hl
    refine ⟨⟨c2, e2, by rw [setMap_ne hne]; exact h4, h5⟩, fun j x q h8 h9 => ?_, h7⟩
    obtain ⟨x', h10⟩ := set_mem' hn h8
    exact h6 j x' q h10 h9
  · have := hi.offlt b o h; rw [setMap_size]; exact this
  · obtain ⟨x', h3⟩ := set_mem' hn h1
    exact hi.offobj j x' b p h3 h2

def findX (k : IntKind) (n : Int) : List (T × T) → Nat → Option (Option (Nat × T))
  | [], _ => some none
  | (.int k' m, u) :: es, i => cond (decide (k = k')) (cond (decide (n = m)) (some (some (i, u))) (findX k n es (i + 1))) none
  | _ :: _, _ => none
theorem findX_run {k k0 : IntKind} {n : Int} : ∀ (es : List (T × T)) (en : List MapEntry) (i : Nat) (r : Option (Nat × T)), findX k n es i = some r → en.length = es.length →
    (∀ (j : Nat) (x u : T) (e : MapEntry), es[j]? = some (x, u) → en[j]? = some e → Rel w μ σ e.key x ∧ Rel w μ σ e.val u) →
    match r with
    | none => Instr.findNow (.int k0) (.int k n) en i = some none
    | some (p, u) => i ≤ p ∧ ∃ e v, en[p - i]? = some e ∧ e.key = .int k n ∧ e.val = v ∧ Rel w μ σ v u ∧ es[p - i]? = some (.int k n, u) ∧ Instr.findNow (.int k0) (.int k n) en i = some (some (p, v))
  | [], en, i, r, h, hl, _ => by
    simp [findX] at h; subst h
    obtain rfl : en = [] := List.eq_nil_of_length_eq_zero (by simpa using hl)
    rfl
  | (x, u) :: es, en, i, r, h, hl, hr => by
    cases en with
    | nil => simp at hl
    | cons e en =>
      obtain ⟨r1, r2⟩ := hr 0 x u e rfl rfl
      cases x with
      | int k' m =>
        simp only [findX] at h
        by_cases hk : k = k'
        · subst hk
          simp only [decide_true, cond_true] at h
          generalize hek : e.key = ek at r1
          cases r1
          by_cases hn : n = m
          · subst hn
            simp only [decide_true, cond_true] at h
            injection h with h; subst h
            refine ⟨Nat.le_refl _, e, e.val, by simp, hek, rfl, r2, by simp, ?_⟩
            simp [Instr.findNow, hek, Instr.sameNow]
          · simp only [decide_eq_false hn, cond_false] at h
            have ih := findX_run (k0 := k0) es en (i + 1) r h (by simpa using hl) (fun j x u e h1 h2 => hr (j + 1) x u e (by simpa using h1) (by simpa using h2))
            have hf : Instr.findNow (.int k0) (.int k n) (e :: en) i = Instr.findNow (.int k0) (.int k n) en (i + 1) := by
              have hb : (n == m) = false := by simpa using hn
              simp [Instr.findNow, hek, Instr.sameNow, hb]
            cases r with
            | none => exact hf.trans ih
            | some q =>
              obtain ⟨p, v0⟩ := q
              obtain ⟨h1, e', v, h2, h3, h4, h5, h6, h7⟩ := ih
              refine ⟨by omega, e', v, by rw [show p - i = (p - (i + 1)) + 1 by omega]; simpa using h2, h3, h4, h5, by rw [show p - i = (p - (i + 1)) + 1 by omega]; simpa using h6, hf.trans h7⟩
        · simp [decide_eq_false hk] at h
      | _ => simp [findX] at h

theorem checkKey_int {b : Bool} {m : Nat} {t : TypeId} {ti : TI} {k k0 : IntKind} {n : Int} (hG : Fits P G) (ht : G t = some ti) (hd : ti.d = .int k0) : (Instr.checkKey b (m + 1) t (.int k n)).run P w = .ok () w := by
  obtain ⟨d, u, f⟩ := B0 (P := P) (w := w) hG ht
  rw [hd] at f; obtain rfl := td_int f
  simp [Instr.checkKey, u]

theorem aop_makeMap (hG : Fits P G) {o : Oper} {t : TypeId} {K : Env → St → Prop} (ho : o.op = .makeMap t none) (hd : Bt N o.dst = true)
    (k : ∀ i, (∀ n, σ.nx = some n → i = n) → K (put a o.dst (.map (some i))) (σ.new i (.map []))) : AOp P N o a σ K := by
  intro av w μ hi hr next Qc hn
  obtain ⟨i, f1, f2, f3, f4⟩ := hi.pick
  obtain ⟨ev, hi'⟩ := new_map_step hi f1 f2 f3 f4
  have hrun : (execOp av.eval o).run P w = .ok (.value (.map (some w.heap.size))) (w.alloc (.map #[] 0)) := by
    simp [execOp, ho, Instr.makeMap, newObj]
    rfl
  unfold Oper.wp
  rw [hrun]
  exact hn _ _ _ _ _ ev hi' ((hr.ev ev).put hd (.map _ _ 0 (Cp _ _))) (k i f3)

def foundX (z : T) : Option (Nat × T) → T
  | some (_, u) => u
  | none => z
theorem aop_lookup (hG : Fits P G) {o : Oper} {t kt et : TypeId} {x y : Operand} {ok : Bool} {ti tk te : TI} {k k0 : IntKind} {n : Int} {i : Nat} {es : List (T × T)} {r : Option (Nat × T)} {K : Env → St → Prop}
    (ho : o.op = .lookup t x y ok) (ht : G t = some ti) (htd : ti.d = .map kt et) (hk : G kt = some tk) (hkd : tk.d = .int k0) (he : G et = some te) (hx : Bj a x = some (.map (some i))) (hy : Bj a y = some (.int k n)) (hob : (i, .map es) ∈ σ.L)
    (hf : findX k n es 0 = some r) (hd : Bt N o.dst = true)
    (kk : K (put a o.dst (cond ok (.tup [foundX te.tree r, .bool r.isSome]) (foundX te.tree r))) σ) : AOp P N o a σ K := by
  intro av w μ hi hr next Qc hn
  obtain ⟨b, en, cl, hl, hc, ⟨hsz, hbn⟩, hrel⟩ := hi.map i es hob
  obtain ⟨d1, u1, f1⟩ := B0 (P := P) (w := w) hG ht
  rw [htd] at f1; obtain rfl := td_map f1
  obtain ⟨d2, u2, f2⟩ := B0 (P := P) (w := w) hG hk
  rw [hkd] at f2; obtain rfl := td_int f2
  obtain ⟨z, uz, rz, hz1, hz2⟩ := g_zero (P := P) (w := w) (μ := μ) (σ := σ) hG he
  have rx := B4 hr hx
  have ry := B4 hr hy
  generalize hvx : av.eval x = vx at rx
  generalize hvy : av.eval y = vy at ry
  cases ry
  cases rx with
  | map i b' p hl' =>
  rw [hl] at hl'; injection hl' with hl'; injection hl' with e1 e2; subst e1
  have hget : (getObj b).run P w = .ok (.map en cl) w := by simp [getObj, Sem.run, hc]
  have hck : ∀ bb, (Instr.checkKey bb 10000 kt (.int k n)).run P w = .ok () w := fun bb => checkKey_int hG hk hkd
  have hfr := findX_run (w := w) (μ := μ) (σ := σ) (k0 := k0) es en.toList 0 r hf (by simpa using hsz) (fun j x u e h1 h2 => hrel j x u e h1 (by simpa using h2))
  have tupR : ∀ (v : Value) (u : T) (bb : Bool), Rel w μ σ v u → Rel w μ σ (.tuple #[v, .bool bb]) (.tup [u, .bool bb]) := by
    intro v u bb h
    refine .tup _ _ rfl fun j c v' h1 h2 => ?_
    match j with
    | 0 => simp at h1 h2; subst h1; subst h2; exact h
    | 1 => simp at h1 h2; subst h1; subst h2; exact .bool _
    | j + 2 => simp at h1
  obtain ⟨v, hv, rv⟩ : ∃ v, (Instr.lookup t (.map (some b)) (.int k n) ok).run P w = .ok v w ∧ Rel w μ σ v (cond ok (.tup [foundX te.tree r, .bool r.isSome]) (foundX te.tree r)) := by
    cases r with
    | none =>
      have hfk : (Instr.findKey kt (.int k n) en.toList).run P w = .ok none w := by simp [Instr.findKey, u2, hfr]
      cases ok
      · exact ⟨z, by unfold Instr.lookup; simp [u1, hget, hck, hfk, uz], rz⟩
      · exact ⟨_, by unfold Instr.lookup; simp [u1, hget, hck, hfk, uz], tupR _ _ _ rz⟩
    | some q =>
      obtain ⟨p, u⟩ := q
      obtain ⟨_, e', v, _, _, _, h5, _, h7⟩ := hfr
      have hfk : (Instr.findKey kt (.int k n) en.toList).run P w = .ok (some (p, v)) w := by simp [Instr.findKey, u2, h7]
      cases ok
      · exact ⟨v, by unfold Instr.lookup; simp [u1, hget, hck, hfk], h5⟩
      · exact ⟨_, by unfold Instr.lookup; simp [u1, hget, hck, hfk], tupR _ _ _ h5⟩
  have hrun : (execOp av.eval o).run P w = .ok (.value v) w := by
    simp [execOp, ho, hvx, hvy, hv]
  unfold Oper.wp
  rw [hrun]
  exact hn _ _ _ _ _ (.refl _ _ _) hi (hr.put hd rv) kk

def mapSet (k : IntKind) (n : Int) (u : T) (es : List (T × T)) : Option (Nat × T) → List (T × T)
  | some (p, _) => es.set p (.int k n, u)
  | none => es ++ [(.int k n, u)]

theorem aop_mapUpdate (hG : Fits P G) {o : Oper} {t kt et : TypeId} {m x y : Operand} {ti tk : TI} {k k0 : IntKind} {n : Int} {q i : Nat} {u : T} {es : List (T × T)} {r : Option (Nat × T)} {K : Env → St → Prop}
    (ho : o.op = .mapUpdate t m x y) (ht : G t = some ti) (htd : ti.d = .map kt et) (hk : G kt = some tk) (hkd : tk.d = .int k0) (hm : Bj a m = some (.map (some i))) (hx : Bj a x = some (.int k n)) (hy : Bj a y = some u)
    (hob : σ.L[q]? = some (i, .map es)) (hf : findX k n es 0 = some r) (hd : Bt N o.dst = true) (kk : K (put a o.dst (.tup [])) (σ.set q i (.map (mapSet k n u es r)))) : AOp P N o a σ K := by
  intro av w μ hi hr next Qc hn
  obtain ⟨b, en, cl, hl, hc, ⟨hsz, hbn⟩, hrel⟩ := hi.map i es (List.mem_of_getElem? hob)
  obtain ⟨d1, u1, f1⟩ := B0 (P := P) (w := w) hG ht
  rw [htd] at f1; obtain rfl := td_map f1
  obtain ⟨d2, u2, f2⟩ := B0 (P := P) (w := w) hG hk
  rw [hkd] at f2; obtain rfl := td_int f2
  have rm := B4 hr hm
  have rx := B4 hr hx
  have ry := B4 hr hy
  generalize hvm : av.eval m = vm at rm
  generalize hvx : av.eval x = vx at rx
  generalize hvy : av.eval y = vy at ry
  cases rx
  cases rm with
  | map i b' p hl' =>
  rw [hl] at hl'; injection hl' with hl'; injection hl' with e1 e2; subst e1
  have hget : (getObj b).run P w = .ok (.map en cl) w := by simp [getObj, Sem.run, hc]
  have hset : ∀ en' cl', (setObj b (.map en' cl')).run P w = .ok () (setMap w b en' cl') := fun en' cl' => by simp [setObj, Sem.run, hc, setMap]
  have hck : (Instr.checkKey false 10000 kt (.int k n)).run P w = .ok () w := checkKey_int hG hk hkd
  have hfr := findX_run (w := w) (μ := μ) (σ := σ) (k0 := k0) es en.toList 0 r hf (by simpa using hsz) (fun j x u e h1 h2 => hrel j x u e h1 (by simpa using h2))
  obtain ⟨en', cl', hrun0, hsz', hen'⟩ : ∃ en' cl', (Instr.mapUpdate t (.map (some b)) (.int k n) vy).run P w = .ok () (setMap w b en' cl') ∧ (en'.size = (mapSet k n u es r).length ∧ Born en' cl') ∧
      ∀ (j : Nat) (x u' : T) (e : MapEntry), (mapSet k n u es r)[j]? = some (x, u') → en'[j]? = some e → Rel w μ σ e.key x ∧ Rel w μ σ e.val u' := by
    cases r with
    | none =>
      refine ⟨en.push { key := .int k n, val := vy, born := cl }, cl + 1, ?_, ⟨by simp [mapSet, hsz], born_push hbn _ _⟩, fun j x u' e h1 h2 => ?_⟩
      · have hfk : (Instr.findKey kt (.int k n) en.toList).run P w = .ok none w := by simp [Instr.findKey, u2, hfr]
        unfold Instr.mapUpdate
        simp [u1, hget, hck, hfk, hset]
      · simp only [mapSet] at h1
        rcases Nat.lt_trichotomy j es.length with h | h | h
        · rw [List.getElem?_append_left h] at h1
          rw [Array.getElem?_push_lt (by omega)] at h2
          exact hrel j x u' e h1 (by rw [← h2]; simp [hsz, h])
        · subst h
          rw [List.getElem?_append_right (Nat.le_refl _)] at h1
          simp at h1
          obtain ⟨rfl, rfl⟩ := h1
          rw [← hsz, Array.getElem?_push_size] at h2
          injection h2 with h2; subst h2
          exact ⟨.int _ _, ry⟩
        · rw [List.getElem?_append_right (by omega)] at h1
          rw [List.getElem?_eq_none (by simp; omega)] at h1; cases h1
    | some pu =>
      obtain ⟨p, u0⟩ := pu
      obtain ⟨_, e', v, h2, h3, h4, h5, h6, h7⟩ := hfr
      simp only [Nat.sub_zero] at h2 h6
      have hp : p < es.length := lt_of_get h6
      refine ⟨en.modify p fun e => { e with key := .int k n, val := vy }, cl, ?_, ⟨by simp [mapSet, hsz], born_same hbn ?_⟩, fun j x u' e h8 h9 => ?_⟩
      · have hfk : (Instr.findKey kt (.int k n) en.toList).run P w = .ok (some (p, v)) w := by simp [Instr.findKey, u2, h7]
        have hk2 : ((en[p]?).map (·.key)).getD (.int k n) = .int k n := by
          have : en[p]? = some e' := by simpa using h2
          rw [this]; exact h3
        have hst : (Instr.keyThatStays (((en[p]?).map (·.key)).getD (.int k n)) (.int k n)).run P w = .ok (.int k n) w := by
          rw [hk2]
          have : Instr.sameBits 10000 (.int k n) (.int k n) = true := by simp [Instr.sameBits]
          simp [Instr.keyThatStays, this]
        unfold Instr.mapUpdate
        simp only [Sem.run_bind, u1, Result.andThen_ok, hget, hck, hfk, hst, hset]
      · refine List.ext_getElem? fun j => ?_
        simp only [List.getElem?_map, Array.getElem?_toList, Array.getElem?_modify]
        split
        · cases en[j]? <;> rfl
        · rfl
      · simp only [mapSet, List.getElem?_set] at h8
        rw [Array.getElem?_modify] at h9
        by_cases e0 : p = j
        · subst e0
          rw [if_pos rfl, if_pos hp] at h8
          injection h8 with h8; injection h8 with h8 h10; subst h8; subst h10
          rw [if_pos rfl] at h9
          cases hq : en[p]? with
          | none => rw [hq] at h9; cases h9
          | some e1 => rw [hq] at h9; simp at h9; subst h9; exact ⟨.int _ _, ry⟩
        · rw [if_neg e0] at h8 h9
          exact hrel j x u' e h8 h9
  obtain ⟨ev, hi'⟩ := map_step (cl' := cl') hi hob hl hc hsz' hen'
  have hrun : (execOp av.eval o).run P w = .ok .skip (setMap w b en' cl') := by
    simp [execOp, ho, hvm, hvx, hvy, hrun0]
  unfold Oper.wp
  rw [hrun]
  exact hn _ _ _ _ _ ev hi' ((hr.ev ev).put hd (.tup [] #[] rfl fun j c v h1 h2 => by simp at h1)) kk

end
end Go.Ts
set_option linter.unusedVariables false
set_option linter.unusedSimpArgs false
namespace Go.Ts
section
variable {P : Program} {G : Nat → Option TI} {w w1 : World} {μ : Gh} {σ σ1 : St} {N : Nat} {a : Env} {Q : Exit → Env → St → Prop}

theorem aop_app0L (hG : Fits P G) {o : Oper} {x y : Operand} {t1 t2 : TypeId} {e : Nat} {i1 i2 ie : TI} {ys : List T} {ty : T} {K : Env → St → Prop}
    (ho : o.op = .call { callee := .builtin .append, args := #[x, y], argTypes := #[t1, t2] }) (h1 : G t1 = some i1) (h1d : i1.d = .slice e) (he : G e = some ie) (h2 : G t2 = some i2) (h2d : ∃ e2, i2.d = .slice e2)
    (hx : Bj a x = some .nilsl) (hy : Bj a y = some ty) {objs : Nat → Option Ob} (hob : ∀ i o, objs i = some o → (i, o) ∈ σ.L) (hsrc : srcOf objs ie.size ty = some ys)
    (hsz : (Nat.blt 0 ie.size && Nat.ble ie.bytes 4096) = true) (hys : ys ≠ []) (hlen : ys.length ≤ 4294967296) (hd : Bt N o.dst = true)
    (k : ∀ i', (∀ n, σ.nx = some n → i' = n) → K (put a o.dst (.aref ie.size i' 0 ys.length none)) (σ.new i' (.cells (flat ys)))) : AOp P N o a σ K := by
  intro av w μ hi hr next Qc hn
  simp only [Bool.and_eq_true] at hsz
  have hsz0 : 0 < ie.size := by have := hsz.1; simpa [Nat.blt_eq] using this
  have hby := Nat.le_of_ble_eq_true hsz.2
  have hypos : 0 < ys.length := List.length_pos_iff.2 hys
  obtain ⟨e2, h2d⟩ := h2d
  have us := g_size (P := P) (w := w) hG he
  have rx := B4 hr hx
  have ry := B4 hr hy
  obtain ⟨s1, s2, vs, s3, s4, s5⟩ := srcOf_run (P := P) hi hob ry hsrc
  have hexec : (execOp av.eval o).run P w = ((Builtin.append_ #[t1, t2] o.type #[av.eval x, av.eval y]).run P w).andThen fun v w' => .ok (.value v) w' := by
    simp [execOp, ho, resolve, invoke, builtin]
  have hfl := flat_length s2
  obtain ⟨i', f1', f2', f3', f4'⟩ := hi.pick
  generalize hvx : av.eval x = vx at rx
  cases rx with
  | nilsl =>
  obtain ⟨info, ui, hib, his⟩ := g_info (P := P) (w := w) hG he
  have ui' : ∀ w, (typeInfo e).run P w = .ok info w := by
    intro w2
    obtain ⟨i0, d0, k1, k2, _⟩ := hG e ie he
    have e1 : (typeInfo e).run P w = .ok i0 w := by simp [typeInfo, k1]
    rw [ui] at e1; injection e1 with e1; subst e1
    simp [typeInfo, k1]
  obtain ⟨z, uz, rz, hz1, hz2⟩ := g_zero (P := P) (w := w) (μ := μ) (σ := σ) hG he
  have uz' : ∀ w, (zeroValue e).run P w = .ok z w := by
    intro w2
    obtain ⟨i0, d0, k1, k2, k3, k4, k5, k6, _⟩ := hG e ie he
    have e1 : ∀ w, (zeroValue e).run P w = .ok (if ie.d.agg then .agg (ie.zero.map Z.value).toArray else (ie.zero.headD .b).value) w := by
      intro w; simp only [zeroValue, typeInfo, Sem.run_bind, run_program, Result.andThen_ok, k1, k6, Sem.run_pure]
    rw [e1] at uz; injection uz with uz; rw [e1, uz]
  have u1' : ∀ w, (underlying t1).run P w = .ok (.slice e) w := by
    intro w2; obtain ⟨d, u, f⟩ := B0 (P := P) (w := w2) hG h1; rw [h1d] at f; obtain rfl := Cj f; exact u
  have u2' : ∀ w, (underlying t2).run P w = .ok (.slice e2) w := by
    intro w2; obtain ⟨d, u, f⟩ := B0 (P := P) (w := w2) hG h2; rw [h2d] at f; obtain rfl := Cj f; exact u
  obtain ⟨newCap, hnc, hrun⟩ := append_grow_run (P := P) (ty := o.type) (ie := info) (base := none) (sLen := 0) (sCap := 0) (vy := av.eval y) (old := #[]) (vs := vs) (n := ys.length) u1' u2' (fun w => by rw [his]; exact g_size hG he) ui' uz' s1 (by omega) (by omega) (by omega) (.inr trivial)
    rfl (by rw [his]; exact s3 w.drew rfl)
  simp only [Nat.zero_add, Array.empty_append] at hrun hnc
  have ev1 : Ev w μ σ w.drew μ σ := ev_same rfl rfl rfl rfl
  have hi1 : Inv w.drew μ σ := hi.ev_heap rfl ev1
  generalize hrest : Builtin.zeroCells z.cells (newCap - ys.length) = rest at hrun
  have hrs : rest.size = (newCap - ys.length) * ie.size := by rw [← hrest, zeroCells_size, hz1]
  have hcs : (vs ++ rest).size = newCap * ie.size := by
    rw [Array.size_append, s4, hfl, hrs, ← Nat.add_mul]
    congr 1; omega
  obtain ⟨ev3, i3⟩ := new_step hi1 (vs ++ rest) e f1' f2' f3' f4' (ts := flat ys) (by rw [hcs, hfl]; exact Nat.mul_le_mul_right _ hnc) (fun j t u hj hu => by
    rw [Nat.zero_add] at hu
    refine Rel.ev (w := w) ?_ ev1
    have h4 : j < (flat ys).length := lt_of_get hj
    rw [Array.getElem?_append_left (by omega)] at hu
    exact s5 _ t u hj hu)
  have ev := ev1.trans ev3
  unfold Oper.wp
  rw [hexec, hvx, hrun]
  refine hn _ _ _ _ _ ev i3 ((hr.ev ev).put hd (Rel.aref i' w.heap.size 0 0 ys.length newCap ie.size none (Cp _ _) hnc (fun x hx => by cases hx) ⟨_, e, _, heap_alloc_at w.drew _, by rw [hcs]; simp⟩)) (k i' f3')

end
end Go.Ts
set_option linter.unusedVariables false
set_option linter.unusedSimpArgs false
namespace Go.Ts

def HS.new (h : HS) (o : HO) : HS := ⟨h.L.set h.nx o, h.R, h.nx + 1⟩
theorem Tr.get_up_none {α : Type} : ∀ (f : Nat) (t : Tr α) (i : Nat) (x : Option α) (j : Nat), i + 1 < 2 ^ f → (Tr.up f t i x).get j = none → (j = i ∧ x = none) ∨ (j ≠ i ∧ t.get j = none)
  | 0, t, i, x, j, hf, h => by simp at hf
  | f + 1, t, i, x, j, hf, h => by
    have hf' : i + 1 < 2 * 2 ^ f := by rw [Nat.pow_succ, Nat.mul_comm] at hf; exact hf
    simp only [Tr.up] at h
    rw [Tr.get_parts t j]
    by_cases hi : i = 0
    · subst hi
      simp only [Nat.beq_refl, cond_true, Tr.get] at h
      by_cases hj : j = 0
      · subst hj; simp at h; exact .inl ⟨rfl, h⟩
      · rw [beqF hj] at h ⊢; exact .inr ⟨hj, h⟩
    · rw [beqF hi, cond_false] at h
      by_cases hp : i % 2 = 1
      · rw [hp, Nat.beq_refl, cond_true] at h
        simp only [Tr.get] at h
        by_cases hj : j = 0
        · subst hj; simp only [Nat.beq_refl, cond_true] at h ⊢; exact .inr ⟨fun e => hi e.symm, h⟩
        · rw [beqF hj, cond_false] at h ⊢
          by_cases hq : j % 2 = 1
          · rw [hq, Nat.beq_refl, cond_true] at h ⊢
            rcases Tr.get_up_none f _ _ _ _ (by omega) h with ⟨h1, h2⟩ | ⟨h1, h2⟩
            · exact .inl ⟨by omega, h2⟩
            · exact .inr ⟨fun e => h1 (by rw [e]), h2⟩
          · rw [beqF hq, cond_false] at h ⊢
            exact .inr ⟨fun e => hq (by rw [e]; exact hp), h⟩
      · rw [beqF hp, cond_false] at h
        simp only [Tr.get] at h
        by_cases hj : j = 0
        · subst hj; simp only [Nat.beq_refl, cond_true] at h ⊢; exact .inr ⟨fun e => hi e.symm, h⟩
        · rw [beqF hj, cond_false] at h ⊢
          by_cases hq : j % 2 = 1
          · rw [hq, Nat.beq_refl, cond_true] at h ⊢
            exact .inr ⟨fun e => hp (by rw [← e]; exact hq), h⟩
          · rw [beqF hq, cond_false] at h ⊢
            rcases Tr.get_up_none f _ _ _ _ (by omega) h with ⟨h1, h2⟩ | ⟨h1, h2⟩
            · exact .inl ⟨by omega, h2⟩
            · exact .inr ⟨fun e => h1 (by rw [e]), h2⟩
def far40 : Nat := 1000000000000
theorem get_setCells_none : ∀ (l : List T) (ov : Tr T) (p j : Nat), p + l.length ≤ far40 → (setCells ov p l).get j = none → (j < p ∨ p + l.length ≤ j) ∧ ov.get j = none
  | [], ov, p, j, hf, h => ⟨by simp; omega, h⟩
  | x :: l, ov, p, j, hf, h => by
    have hf2 : p + (l.length + 1) ≤ 1000000000000 := by simpa [far40] using hf
    obtain ⟨h1, h2⟩ := get_setCells_none l _ (p + 1) j (by show p + 1 + l.length ≤ 1000000000000; omega) h
    rcases Tr.get_up_none 40 _ _ _ _ (by
      show p + 1 < 2 ^ 40
      have : (2 : Nat) ^ 40 = 1099511627776 := by decide
      omega) h2 with ⟨h3, h4⟩ | ⟨h3, h4⟩
    · cases h4
    · exact ⟨by simp; omega, h4⟩
theorem ThOK.stored {zn : Nat} {z : List T} {ov : Tr T} {ts : List T} (h : ThOK zn z ov ts) {p : Nat} {cs : List T} (hp : p + cs.length ≤ ts.length) (hf : p + cs.length ≤ far40) : ThOK zn z (setCells ov p cs) (stored ts cs p) := by
  intro j t hj
  rw [stored_get hp]
  unfold cellX at hj
  cases hg : (setCells ov p cs).get j with
  | some u =>
    rw [hg] at hj; injection hj with hj; subst hj
    rcases get_setCells cs ov p j u hg with ⟨h1, h2⟩ | ⟨h1, h2⟩
    · rw [if_pos ⟨h1, by have := lt_of_get h2; omega⟩]; exact h2
    · rw [if_neg (by omega)]; exact h j u (by rw [cellX, h2])
  | none =>
    rw [hg] at hj
    obtain ⟨h1, h2⟩ := get_setCells_none cs ov p j hf hg
    rw [if_neg (by omega)]
    exact h j t (by rw [cellX, h2]; exact hj)
theorem ThOK.append {zn : Nat} {z : List T} {ov : Tr T} {ts : List T} (h : ThOK zn z ov ts) {cs : List T} (hf : ts.length + cs.length ≤ far40) : ThOK zn z (setCells ov ts.length cs) (ts ++ cs) := by
  intro j t hj
  unfold cellX at hj
  have old : cellX zn z ov j = some t → (ts ++ cs)[j]? = some t := by
    intro h0
    have h1 := h j t h0
    rw [List.getElem?_append_left (lt_of_get h1)]; exact h1
  cases hg : (setCells ov ts.length cs).get j with
  | some u =>
    rw [hg] at hj; injection hj with hj; subst hj
    rcases get_setCells cs ov _ j u hg with ⟨h1, h2⟩ | ⟨h1, h2⟩
    · rw [List.getElem?_append_right h1]; exact h2
    · exact old (by rw [cellX, h2])
  | none =>
    rw [hg] at hj
    obtain ⟨h1, h2⟩ := get_setCells_none cs ov _ j hf hg
    exact old (by rw [cellX, h2]; exact hj)

section
variable {σ : St} {h : HS}
theorem HCov.setT (c : HCov σ h) {n k0 : Nat} (hn : σ.R[n]? = some k0) : HCov (σ.setT n h.nx) ⟨h.L, (h.R.del k0).set h.nx (), h.nx + 1⟩ := by
  refine ⟨c.th, c.mp, fun k u hk => ?_, by simp [St.setT, c.nx]⟩
  rcases Tr.get_set hk with ⟨h1, _⟩ | ⟨h1, h2⟩
  · subst h1
    refine List.mem_of_getElem? (i := n) ?_
    simp only [St.setT, List.getElem?_set]
    simp [lt_of_get hn]
  · obtain ⟨h3, h4⟩ := Tr.get_del h2
    obtain ⟨m, hm⟩ := List.getElem?_of_mem (c.room k u h4)
    have hmn : n ≠ m := by rintro rfl; rw [hn] at hm; injection hm with hm; exact h3 hm.symm
    refine List.mem_of_getElem? (i := m) ?_
    simp only [St.setT, List.getElem?_set]
    rw [if_neg hmn]; exact hm
end

def only (i : Nat) (ts : List T) (j : Nat) : Option Ob := cond (Nat.beq j i) (some (.cells ts)) none
section
variable {P : Program} {G : Nat → Option TI} {σ : St} {h : HS} {N : Nat} {a : Env} {e : Tr T}

theorem aop_indexS (hG : Fits P G) {o : Oper} {t : TypeId} {x y : Operand} {ti : TI} {s : List UInt8} {k : IntKind} {n : Int} {b : UInt8} {K : Env → St → Prop} (hop : o.op = .index t x y) (ht : G t = some ti) (htd : ti.d = .str) (hx : Bj a x = some (.str s)) (hy : Bj a y = some (.int k n)) (h0 : 0 ≤ n) (hb : s[n.toNat]? = some b) (hd : Bt N o.dst = true)
    (kk : K (put a o.dst (.int .u8 b.toNat)) σ) : AOp P N o a σ K := by
  intro av w μ hi hr next Qc hnx
  obtain ⟨d1, u1, f1⟩ := B0 (P := P) (w := w) hG ht
  rw [htd] at f1; obtain rfl := td_str f1
  have rx := B4 hr hx
  have ry := B4 hr hy
  generalize hvx : av.eval x = vx at rx
  generalize hvy : av.eval y = vy at ry
  cases ry
  cases rx with
  | str sb =>
  have hget : sb[n.toNat]? = some b := by
    have h1 : sb.data[n.toNat]? = some b := by simpa using hb
    have h2 := (Array.getElem?_eq_some_iff.1 h1)
    obtain ⟨h3, h4⟩ := h2
    have h5 : n.toNat < sb.size := h3
    rw [getElem?_pos sb n.toNat h5]
    exact congrArg some h4
  have hrun : (execOp av.eval o).run P w = .ok (.value (.int .u8 b.toNat)) w := by
    simp [execOp, hop, hvx, hvy, Instr.index, asIntOf, u1, h0, hget]
  unfold Oper.wp
  rw [hrun]
  exact hnx _ _ _ _ _ (.refl _ _ _) hi (hr.put hd (.int _ _)) kk

end
end Go.Ts
namespace Go.Ts
section
variable {P : Program} {G : Nat → Option TI} {N : Nat} {σ : St} {a : Env} {K : Env → St → Prop} {d : Tmp} {ty : TypeId} {pos : String} {af : Array Edge} {gd : Option (Nat × Bool)}
theorem u64_ofNat {n : Nat} (h : n < 18446744073709551616) : (BitVec.ofInt 64 (n : Int)).toNat = n := by
  rw [BitVec.ofInt_natCast, BitVec.toNat_ofNat]; omega
theorem r_xorU {t yt : TypeId} {x y : Operand} {n m : Nat} {ti : TI} (hG : Fits P G) (ht : G t = some ti) (hx : Bj a x = some (.int .u64 ((n : Nat) : Int))) (hy : Bj a y = some (.int .u64 ((m : Nat) : Int))) (hd : Bt N (some d) = true)
    (hb : n < 18446744073709551616 ∧ m < 18446744073709551616) (kk : K (put a (some d) (.int .u64 ((n ^^^ m : Nat) : Int))) σ) : AOp P N ⟨some d, .binOp .xor t x y yt, ty, pos, af, gd⟩ a σ K := by
  have h1 : n ^^^ m < 2 ^ 64 := Nat.xor_lt_two_pow (by omega) (by omega)
  refine op_q hG (t := .int .u64 ((n ^^^ m : Nat) : Int)) ?_ rfl hd kk
  simp only [B6, hx, hy, ht, evalBin, isShift, cond_false, decide_true, cond_true, evalInt]
  rw [show IntKind.u64.bits = 64 from rfl, BitVec.toNat_xor, u64_ofNat hb.1, u64_ofNat hb.2, u64_in (by omega) (by omega)]
theorem r_andU {t yt : TypeId} {x y : Operand} {n m : Nat} {ti : TI} (hG : Fits P G) (ht : G t = some ti) (hx : Bj a x = some (.int .u64 ((n : Nat) : Int))) (hy : Bj a y = some (.int .u64 ((m : Nat) : Int))) (hd : Bt N (some d) = true)
    (hb : n < 18446744073709551616 ∧ m < 18446744073709551616) (kk : K (put a (some d) (.int .u64 ((n &&& m : Nat) : Int))) σ) : AOp P N ⟨some d, .binOp .and t x y yt, ty, pos, af, gd⟩ a σ K := by
  have h1 : n &&& m ≤ m := Nat.and_le_right
  refine op_q hG (t := .int .u64 ((n &&& m : Nat) : Int)) ?_ rfl hd kk
  simp only [B6, hx, hy, ht, evalBin, isShift, cond_false, decide_true, cond_true, evalInt]
  rw [show IntKind.u64.bits = 64 from rfl, BitVec.toNat_and, u64_ofNat hb.1, u64_ofNat hb.2, u64_in (by omega) (by omega)]
theorem r_shlU {t yt : TypeId} {x y : Operand} {n : Nat} {k : IntKind} {m : Int} {ti : TI} (hG : Fits P G) (ht : G t = some ti) (hx : Bj a x = some (.int .u64 ((n : Nat) : Int))) (hy : Bj a y = some (.int k m)) (hd : Bt N (some d) = true)
    (hm : 0 ≤ m ∧ m ≤ 63) (kk : K (put a (some d) (.int .u64 ((n * 2 ^ m.toNat % 18446744073709551616 : Nat) : Int))) σ) : AOp P N ⟨some d, .binOp .shl t x y yt, ty, pos, af, gd⟩ a σ K := by
  refine r_shl hG ht hx hy hd hm.1 ?_
  rw [show IntKind.u64.bits = 64 from rfl, show min m.toNat 64 = m.toNat by omega]
  rw [show IntKind.u64.wrap ((n : Int) * 2 ^ m.toNat) = ((n * 2 ^ m.toNat % 18446744073709551616 : Nat) : Int) by simp [IntKind.wrap, IntKind.bits, IntKind.signed]]
  exact kk
theorem r_shrU {t yt : TypeId} {x y : Operand} {n : Nat} {k : IntKind} {m : Int} {ti : TI} (hG : Fits P G) (ht : G t = some ti) (hx : Bj a x = some (.int .u64 ((n : Nat) : Int))) (hy : Bj a y = some (.int k m)) (hd : Bt N (some d) = true)
    (hm : 0 ≤ m ∧ m ≤ 63) (kk : K (put a (some d) (.int .u64 ((n / 2 ^ m.toNat : Nat) : Int))) σ) : AOp P N ⟨some d, .binOp .shr t x y yt, ty, pos, af, gd⟩ a σ K := by
  refine r_shr hG ht hx hy hd hm.1 ?_
  rw [show IntKind.u64.bits = 64 from rfl, show min m.toNat 64 = m.toNat by omega]
  rw [show (n : Int) / 2 ^ m.toNat = ((n / 2 ^ m.toNat : Nat) : Int) by simp]
  exact kk
theorem Cg {t yt : TypeId} {x y : Operand} {n m : Nat} {ti : TI} (hG : Fits P G) (ht : G t = some ti) (hx : Bj a x = some (.int .u64 ((n : Nat) : Int))) (hy : Bj a y = some (.int .u64 ((m : Nat) : Int))) (hd : Bt N (some d) = true)
    (hb : m ≤ n ∧ n < 18446744073709551616) (kk : K (put a (some d) (.int .u64 ((n - m : Nat) : Int))) σ) : AOp P N ⟨some d, .binOp .sub t x y yt, ty, pos, af, gd⟩ a σ K :=
  r_aru64 hG ht hx hy rfl hd (by omega) (by rw [show ((n : Int) - (m : Int)) = ((n - m : Nat) : Int) by omega]; exact kk)
end
end Go.Ts
namespace Go.Proofs.Ytmckbfdklcmogaa
open Go.Ts
set_option linter.unusedSimpArgs false
set_option linter.unusedVariables false
attribute [local irreducible] Go.Ts.AW Go.Ts.AOps Go.Ts.AL Go.Ts.AOp Go.Ts.ACalls Go.Ts.DL Go.Ts.DQ0 Go.Ts.EL
open Go.Sort
def tab8 : List UInt8 := (List.range 256).map fun x => UInt8.ofNat (bitsLen x)
theorem bitsLen_le8 {x : Nat} (h : x < 256) : bitsLen x ≤ 8 := (bitsLen_le_iff x 8).2 (by omega)
theorem tab8_get {x : Nat} (h : x < 256) : tab8[((x : Nat) : Int).toNat]? = some (UInt8.ofNat (bitsLen x)) := by
  rw [Int.toNat_natCast]
  simp [tab8, h]
theorem bits_Len64 {x : Nat} (hx : x < 256) : Ts.Pure Try.prog 43 [.int .u64 (x : Int)] (.int .i64 (bitsLen x : Int)) := by
  intro off
  refine Br (N := 25) (rs := [.tmp 2]) hG Try.func43 rfl rfl rfl rfl rfl ?_
  repeat' (first
    | ((show AL _ _ _ _ _ _ _ _; refine Ag Y ?_); (first
      | refine Aq hG Y Y ?_
      | refine A5 hG Y Y ?_
      | (show AOp _ _ ⟨_, .binOp .add _ _ _ _, _, _, _, _⟩ _ _ _; first | refine Ab hG Y Y Y Y Y (by omega) ?_)
      | (show AOp _ _ ⟨_, .binOp .shr _ _ _ _, _, _, _, _⟩ _ _ _; refine r_shr hG Y Y Y Y (by omega) ?_)
      | (show AOp _ _ ⟨_, .binOp _ _ _ _ _, _, _, _, _⟩ _ _ _; first | refine At hG Y Y Y Y Y (by omega) ?_ | refine Au hG Y Y Y Y Y (by omega) ?_ | (refine Am hG Y Y Y Y Y (fun h => ?_) (fun h => ?_)))
      | (show AOp _ _ ⟨_, .convert _ _ _, _, _, _, _⟩ _ _ _; first | refine r_cv8 hG Y Y Y Y Y Y ?_ | refine r_cv_i64 hG Y Y Y Y Y (by omega) ?_ | refine r_cv_u8 hG Y Y Y Y Y (by omega) ?_ | refine r_cvw hG Y Y Y Y Y ?_)
      | refine r_q hG Y Y Y ?_))
    | (show AL _ _ _ _ _ _ _ _; first | refine Bk Y Y Y ?_ | (refine Ar ?_; first | show AW _ _ _ _ _ _ | show ∃ x', _ < _ ∧ _)) | (show AW _ _ (.seq _ _) _ _ _; refine Ai ?_; intro Q1) | (show AW _ _ (.region _ _ false) _ _ _; refine Ad ?_; intro O1) | (show AW _ _ (.cond _ _ _) _ _ _; first | refine Ao Y ?_ | refine Ap Y ?_) | (show AW _ _ (.skip) _ _ _; refine Aj ?_; first | show AW _ _ _ _ _ _ | show ∃ x', _ < _ ∧ _) | (show AW _ _ (.ret) _ _ _; refine Aw ?_; try dsimp only [Ax, Aa, A2, Af]) | fail)
  refine Ag rfl (aop_indexS hG rfl rfl rfl rfl rfl (by omega) ((congrArg (fun l : List UInt8 => l[((x : Nat) : Int).toNat]?) (show _ = tab8 by kernel_rfl)).trans (tab8_get hx)) rfl ?_)
  have h8 := bitsLen_le8 hx
  have e8 : (UInt8.ofNat (bitsLen x)).toNat = bitsLen x := by simp; omega
  repeat' (first
    | ((show AL _ _ _ _ _ _ _ _; refine Ag Y ?_); (first
      | refine Aq hG Y Y ?_
      | refine A5 hG Y Y ?_
      | (show AOp _ _ ⟨_, .binOp .add _ _ _ _, _, _, _, _⟩ _ _ _; first | refine Ab hG Y Y Y Y Y (by omega) ?_)
      | (show AOp _ _ ⟨_, .binOp .shr _ _ _ _, _, _, _, _⟩ _ _ _; refine r_shr hG Y Y Y Y (by omega) ?_)
      | (show AOp _ _ ⟨_, .binOp _ _ _ _ _, _, _, _, _⟩ _ _ _; first | refine At hG Y Y Y Y Y (by omega) ?_ | refine Au hG Y Y Y Y Y (by omega) ?_ | (refine Am hG Y Y Y Y Y (fun h => ?_) (fun h => ?_)))
      | (show AOp _ _ ⟨_, .convert _ _ _, _, _, _, _⟩ _ _ _; first | refine r_cv8 hG Y Y Y Y Y Y ?_ | refine r_cv_i64 hG Y Y Y Y Y (by omega) ?_ | refine r_cv_u8 hG Y Y Y Y Y (by omega) ?_ | refine r_cvw hG Y Y Y Y Y ?_)
      | refine r_q hG Y Y Y ?_))
    | (show AL _ _ _ _ _ _ _ _; first | refine Bk Y Y Y ?_ | (refine Ar ?_; first | show AW _ _ _ _ _ _ | show ∃ x', _ < _ ∧ _)) | (show AW _ _ (.seq _ _) _ _ _; refine Ai ?_; intro Q1) | (show AW _ _ (.region _ _ false) _ _ _; refine Ad ?_; intro O1) | (show AW _ _ (.cond _ _ _) _ _ _; first | refine Ao Y ?_ | refine Ap Y ?_) | (show AW _ _ (.skip) _ _ _; refine Aj ?_; first | show AW _ _ _ _ _ _ | show ∃ x', _ < _ ∧ _) | (show AW _ _ (.ret) _ _ _; refine Aw ?_; try dsimp only [Ax, Aa, A2, Af]) | fail)
  refine Bu (Bm rfl Bl) (.int ?_) rfl
  rw [e8]; omega
theorem bits_Len {x : Nat} (hx : x < 256) : Ts.Pure Try.prog 30 [.int .u64 (x : Int)] (.int .i64 (bitsLen x : Int)) := by
  have h := bits_Len64 hx
  intro off
  refine Br (N := 8) (rs := [.tmp 2]) hG Try.func30 rfl rfl rfl rfl rfl ?_
  repeat' (first
    | ((show AL _ _ _ _ _ _ _ _; refine Ag Y ?_); (first
      | refine Aq hG Y Y ?_
      | refine A5 hG Y Y ?_
      | (show AOp _ _ ⟨_, .convert _ _ _, _, _, _, _⟩ _ _ _; first | refine r_cvw hG Y Y Y Y Y ?_)
      | (show AOp _ _ ⟨_, .call ⟨.value _, _, _⟩, _, _, _, _⟩ _ _ _; first | refine Bn Y Y Y Y Y (by first | (apply h <;> (first | assumption | omega | exact A4 _ _ | exact Bd _ | exact A7 _ _ | exact Bi _ | rfl | (simp; omega))) | fail) ?_ | fail)
      | refine r_q hG Y Y Y ?_))
    | (show AL _ _ _ _ _ _ _ _; first | refine Bk Y Y Y ?_ | (refine Ar ?_; first | show AW _ _ _ _ _ _ | show ∃ x', _ < _ ∧ _)) | (show AW _ _ (.seq _ _) _ _ _; refine Ai ?_; intro Q1) | (show AW _ _ (.region _ _ false) _ _ _; refine Ad ?_; intro O1) | (show AW _ _ (.cond _ _ _) _ _ _; first | refine Ao Y ?_ | refine Ap Y ?_) | (show AW _ _ (.skip) _ _ _; refine Aj ?_; first | show AW _ _ _ _ _ _ | show ∃ x', _ < _ ∧ _) | (show AW _ _ (.ret) _ _ _; refine Aw ?_; try dsimp only [Ax, Aa, A2, Af]) | fail)
  exact Bu (Bm rfl Bl) (.refl _) rfl
theorem next_pow {x : Nat} (hx : x < 256) : Ts.Pure Try.prog 45 [.int .i64 (x : Int)] (.int .u64 ((1 <<< bitsLen x : Nat) : Int)) := by
  have h := bits_Len hx
  have h8 := bitsLen_le8 hx
  intro off
  refine Br (N := 7) (rs := [.tmp 2]) hG Try.func45 rfl rfl rfl rfl rfl ?_
  repeat' (first
    | ((show AL _ _ _ _ _ _ _ _; refine Ag Y ?_); (first
      | refine Aq hG Y Y ?_
      | refine A5 hG Y Y ?_
      | (show AOp _ _ ⟨_, .binOp .shl _ _ _ _, _, _, _, _⟩ _ _ _; refine r_shl hG Y Y Y Y (by omega) ?_)
      | (show AOp _ _ ⟨_, .binOp _ _ _ _ _, _, _, _, _⟩ _ _ _; first | refine Bw hG Y Y Y ?_)
      | (show AOp _ _ ⟨_, .convert _ _ _, _, _, _, _⟩ _ _ _; first | refine r_cv_u64 hG Y Y Y Y Y (by omega) ?_ | refine r_cvw hG Y Y Y Y Y ?_)
      | (show AOp _ _ ⟨_, .call ⟨.value _, _, _⟩, _, _, _, _⟩ _ _ _; first | refine Bn Y Y Y Y Y (by first | (apply h <;> (first | assumption | omega | exact A4 _ _ | exact Bd _ | exact A7 _ _ | exact Bi _ | rfl | (simp; omega))) | fail) ?_ | fail)
      | refine r_q hG Y Y Y ?_))
    | (show AL _ _ _ _ _ _ _ _; first | refine Bk Y Y Y ?_ | (refine Ar ?_; first | show AW _ _ _ _ _ _ | show ∃ x', _ < _ ∧ _)) | (show AW _ _ (.seq _ _) _ _ _; refine Ai ?_; intro Q1) | (show AW _ _ (.region _ _ false) _ _ _; refine Ad ?_; intro O1) | (show AW _ _ (.ret) _ _ _; refine Aw ?_; try dsimp only [Ax, Aa, A2, Af]) | fail)
  refine Bu (Bm rfl Bl) (.int ?_) rfl
  rw [show (IntKind.u64.bits) = 64 from rfl, Int.toNat_natCast, show min (bitsLen x) 64 = bitsLen x by omega, Nat.one_shiftLeft]
  have h2 : (2 : Nat) ^ bitsLen x ≤ 2 ^ 8 := Nat.pow_le_pow_right (by omega) h8
  rw [show (1 * 2 ^ bitsLen x : Int) = ((2 ^ bitsLen x : Nat) : Int) by simp]
  generalize 2 ^ bitsLen x = z at h2 ⊢
  exact u64_in (by omega) (by omega)
theorem xor_next {r : Nat} (hr : r < 18446744073709551616) : Mut Try.prog 46 [] [.int .u64 (r : Int)] (fun u cs => u = .int .u64 ((xorNextN r : Nat) : Int) ∧ cs = [.int .u64 ((xorNextN r : Nat) : Int)]) := by
  have p : (18446744073709551616 : Nat) = 2 ^ 64 := by decide
  obtain ⟨s, hs⟩ : ∃ s, s = r ^^^ (r * 2 ^ 13 % 18446744073709551616) := ⟨_, rfl⟩
  obtain ⟨t, ht⟩ : ∃ t, t = s ^^^ (s / 2 ^ 7) := ⟨_, rfl⟩
  obtain ⟨w, hw⟩ : ∃ w, w = t ^^^ (t * 2 ^ 17 % 18446744073709551616) := ⟨_, rfl⟩
  have e : xorNextN r = w := by rw [hw, ht, hs]; rfl
  have h1 : s < 18446744073709551616 := by rw [hs, p]; exact Nat.xor_lt_two_pow (by omega) (by omega)
  have h2 : t < 18446744073709551616 := by rw [ht, p]; exact Nat.xor_lt_two_pow (by omega) (by omega)
  have h3 : s / 2 ^ Int.toNat 7 < 18446744073709551616 := Nat.lt_of_le_of_lt (Nat.div_le_self ..) h1
  rw [e]; clear e
  intro off i
  refine Br (N := 33) (rs := [.tmp 2]) hG Try.func46 rfl rfl rfl rfl rfl ?_
  repeat' (first
    | ((first | (show AL _ _ _ _ _ _ _ _; refine Ag Y ?_) | (show DL _ _ _ _ _ _ _; refine' A8 Y Y (fun K kk => ?_) ?_; try (show Go.Ts.T; rotate_left))); (first
      | refine Aq hG Y Y ?_
      | refine A5 hG Y Y ?_
      | (show AOp _ _ ⟨_, .binOp .shr _ _ _ _, _, _, _, _⟩ _ _ _; refine r_shrU hG Y Y Y Y (by omega) ?_)
      | (show AOp _ _ ⟨_, .binOp .shl _ _ _ _, _, _, _, _⟩ _ _ _; refine r_shlU hG Y Y Y Y (by omega) ?_)
      | (show AOp _ _ ⟨_, .binOp .xor _ _ _ _, _, _, _, _⟩ _ _ _; refine r_xorU hG Y Y Y Y (by omega) ?_)
      | (show AOp _ _ ⟨_, .binOp .shr _ _ _ _, _, _, _, _⟩ _ _ _; refine r_shr hG Y Y Y Y (by omega) ?_)
      | (show AOp _ _ ⟨_, .binOp .shl _ _ _ _, _, _, _, _⟩ _ _ _; refine r_shl hG Y Y Y Y (by omega) ?_)
      | (show AOp _ _ ⟨_, .binOp _ _ _ _ _, _, _, _, _⟩ _ _ _; first | refine Bw hG Y Y Y ?_)
      | (show AOp _ _ ⟨_, .load _ _, _, _, _, _⟩ _ _ _; first | refine Ak (α := Nat) 0 hG Y Y Y Y (by omega) Y ?_ | refine Ak (α := Nat) 1 hG Y Y Y Y (by omega) Y ?_ | refine Bg 0 hG Y Y Y Y ?_ | refine Bg 1 hG Y Y Y Y ?_)
      | (show AOp _ _ ⟨_, .store _ _ _, _, _, _, _⟩ _ _ _; first | refine Bc (α := Nat) 0 hG Y Y Y Ah Bb Y Y (by first | omega | (simp only [Array.size_setIfInBounds]; omega)) ?_ | refine Bc (α := Nat) 1 hG Y Y Y Ah Bb Y Y (by first | omega | (simp only [Array.size_setIfInBounds]; omega)) ?_ | refine Bv 0 hG Y Y Y Y Y Y Y ?_ | refine Bv 1 hG Y Y Y Y Y Y Y ?_)
      | refine r_q hG Y Y Y ?_); try exact kk)
    | (show AL _ _ _ _ _ _ _ _; first | refine Bk Y Y Y ?_ | (refine Ar ?_; first | show AW _ _ _ _ _ _ | show ∃ x', _ < _ ∧ _)) | (show AW _ _ (.seq _ _) _ _ _; refine Ai ?_; intro Q1) | (show AW _ _ (.region _ _ false) _ _ _; (fail_if_success show AW _ _ (.region 1 _ _) _ _ _); refine Ad ?_; intro O1) | (show AW _ _ (.ret) _ _ _; refine Aw ?_; try dsimp only [Ax, Aa, A2, Af])
    | (show DL _ _ _ _ _ _ _; refine Bx Y Y (fun K kt kf => Am hG Y Y Y Y Y kt kf) (fun h => ?_) (fun h => ?_))
    | (show DL _ _ _ _ _ _ _; refine By Y Y Y ?_) | (show DL _ _ _ _ _ _ _; refine Be ?_; first | show AW _ _ _ _ _ _ | show ∃ x', _ < _ ∧ _) | (show AW _ _ (.region _ _ true) _ _ _; (fail_if_success show AW _ _ (.region 1 _ _) _ _ _); refine A3 mix (by kernel_rfl) ?_; intro O1) | fail)
  refine Co (m := 10) [9] [2, 5] (fun σ => ∃ c : List Go.Ts.T, σ = ⟨[(i, .cells c)], [], off, none⟩) mix Y Y (by repeat (first | exact Sp.zero _ | apply Sp.succ)) ?_; intro O1 F1 Z1 Q2; repeat' (first
    | (refine' dq0_cons Y Y Y Y (fun σ hσ K kk => ?_) ?_; (try (show Go.Ts.T; rotate_left)); (obtain ⟨c, hcs⟩ := hσ; subst hcs); (first
      | refine Aq hG Y Y ?_
      | refine A5 hG Y Y ?_
      | (show AOp _ _ ⟨_, .binOp .shr _ _ _ _, _, _, _, _⟩ _ _ _; refine r_shrU hG Y Y Y Y (by omega) ?_)
      | (show AOp _ _ ⟨_, .binOp .shl _ _ _ _, _, _, _, _⟩ _ _ _; refine r_shlU hG Y Y Y Y (by omega) ?_)
      | (show AOp _ _ ⟨_, .binOp .xor _ _ _ _, _, _, _, _⟩ _ _ _; refine r_xorU hG Y Y Y Y (by omega) ?_)
      | (show AOp _ _ ⟨_, .binOp .shr _ _ _ _, _, _, _, _⟩ _ _ _; refine r_shr hG Y Y Y Y (by omega) ?_)
      | (show AOp _ _ ⟨_, .binOp .shl _ _ _ _, _, _, _, _⟩ _ _ _; refine r_shl hG Y Y Y Y (by omega) ?_)
      | (show AOp _ _ ⟨_, .binOp _ _ _ _ _, _, _, _, _⟩ _ _ _; first | refine Bw hG Y Y Y ?_)
      | (show AOp _ _ ⟨_, .load _ _, _, _, _, _⟩ _ _ _; first | refine Ak (α := Nat) 0 hG Y Y Y Y (by omega) Y ?_ | refine Ak (α := Nat) 1 hG Y Y Y Y (by omega) Y ?_ | refine Bg 0 hG Y Y Y Y ?_ | refine Bg 1 hG Y Y Y Y ?_)
      | (show AOp _ _ ⟨_, .store _ _ _, _, _, _, _⟩ _ _ _; first | refine Bc (α := Nat) 0 hG Y Y Y Ah Bb Y Y (by first | omega | (simp only [Array.size_setIfInBounds]; omega)) ?_ | refine Bc (α := Nat) 1 hG Y Y Y Ah Bb Y Y (by first | omega | (simp only [Array.size_setIfInBounds]; omega)) ?_ | refine Bv 0 hG Y Y Y Y Y Y Y ?_ | refine Bv 1 hG Y Y Y Y Y Y Y ?_)
      | refine r_q hG Y Y Y ?_); exact kk)
    | (refine' Cn Y Y Y Y (fun K kk => ?_) ?_; (try (show Go.Ts.T; rotate_left)); refine Bg 0 hG Y Y Y Y ?_; exact kk)
    | refine dq0_e Y ?_ | (refine dq0_nil ?_; show EL _ _ _ _ _ _ _ _ _)
    | (refine Cf ⟨_, Y⟩ Y Y Y (fun K ke => ?_); refine Bv 0 hG Y Y Y Y Y Y Y ?_; refine ke (.tup []) _ ?_)
    | (refine el_nil ⟨_, Y⟩ ?_; show AL _ _ _ _ _ _ _ _) | fail)
  refine Ar ?_
  rw [show (r ^^^ r * 2 ^ Int.toNat 13 % 18446744073709551616) = s from hs.symm]
  dsimp (config := { zetaDelta := true }) only [Ax, Aa]
  repeat' (first
    | ((first | (show AL _ _ _ _ _ _ _ _; refine Ag Y ?_) | (show DL _ _ _ _ _ _ _; refine' A8 Y Y (fun K kk => ?_) ?_; try (show Go.Ts.T; rotate_left))); (first
      | refine Aq hG Y Y ?_
      | refine A5 hG Y Y ?_
      | (show AOp _ _ ⟨_, .binOp .shr _ _ _ _, _, _, _, _⟩ _ _ _; refine r_shrU hG Y Y Y Y (by omega) ?_)
      | (show AOp _ _ ⟨_, .binOp .shl _ _ _ _, _, _, _, _⟩ _ _ _; refine r_shlU hG Y Y Y Y (by omega) ?_)
      | (show AOp _ _ ⟨_, .binOp .xor _ _ _ _, _, _, _, _⟩ _ _ _; refine r_xorU hG Y Y Y Y (by omega) ?_)
      | (show AOp _ _ ⟨_, .binOp .shr _ _ _ _, _, _, _, _⟩ _ _ _; refine r_shr hG Y Y Y Y (by omega) ?_)
      | (show AOp _ _ ⟨_, .binOp .shl _ _ _ _, _, _, _, _⟩ _ _ _; refine r_shl hG Y Y Y Y (by omega) ?_)
      | (show AOp _ _ ⟨_, .binOp _ _ _ _ _, _, _, _, _⟩ _ _ _; first | refine Bw hG Y Y Y ?_)
      | (show AOp _ _ ⟨_, .load _ _, _, _, _, _⟩ _ _ _; first | refine Ak (α := Nat) 0 hG Y Y Y Y (by omega) Y ?_ | refine Ak (α := Nat) 1 hG Y Y Y Y (by omega) Y ?_ | refine Bg 0 hG Y Y Y Y ?_ | refine Bg 1 hG Y Y Y Y ?_)
      | (show AOp _ _ ⟨_, .store _ _ _, _, _, _, _⟩ _ _ _; first | refine Bc (α := Nat) 0 hG Y Y Y Ah Bb Y Y (by first | omega | (simp only [Array.size_setIfInBounds]; omega)) ?_ | refine Bc (α := Nat) 1 hG Y Y Y Ah Bb Y Y (by first | omega | (simp only [Array.size_setIfInBounds]; omega)) ?_ | refine Bv 0 hG Y Y Y Y Y Y Y ?_ | refine Bv 1 hG Y Y Y Y Y Y Y ?_)
      | refine r_q hG Y Y Y ?_); try exact kk)
    | (show AL _ _ _ _ _ _ _ _; first | refine Bk Y Y Y ?_ | (refine Ar ?_; first | show AW _ _ _ _ _ _ | show ∃ x', _ < _ ∧ _)) | (show AW _ _ (.seq _ _) _ _ _; refine Ai ?_; intro Q1) | (show AW _ _ (.region _ _ false) _ _ _; (fail_if_success show AW _ _ (.region 2 _ _) _ _ _); refine Ad ?_; intro O1) | (show AW _ _ (.ret) _ _ _; refine Aw ?_; try dsimp only [Ax, Aa, A2, Af])
    | (show DL _ _ _ _ _ _ _; refine Bx Y Y (fun K kt kf => Am hG Y Y Y Y Y kt kf) (fun h => ?_) (fun h => ?_))
    | (show DL _ _ _ _ _ _ _; refine By Y Y Y ?_) | (show DL _ _ _ _ _ _ _; refine Be ?_; first | show AW _ _ _ _ _ _ | show ∃ x', _ < _ ∧ _) | (show AW _ _ (.region _ _ true) _ _ _; (fail_if_success show AW _ _ (.region 2 _ _) _ _ _); refine A3 mix (by kernel_rfl) ?_; intro O1) | fail)
  refine Co (m := 10) [9] [2, 5] (fun σ => ∃ c : List Go.Ts.T, σ = ⟨[(i, .cells c)], [], off, none⟩) mix Y Y (by repeat (first | exact Sp.zero _ | apply Sp.succ)) ?_; intro O1 F1 Z1 Q2; repeat' (first
    | (refine' dq0_cons Y Y Y Y (fun σ hσ K kk => ?_) ?_; (try (show Go.Ts.T; rotate_left)); (obtain ⟨c, hcs⟩ := hσ; subst hcs); (first
      | refine Aq hG Y Y ?_
      | refine A5 hG Y Y ?_
      | (show AOp _ _ ⟨_, .binOp .shr _ _ _ _, _, _, _, _⟩ _ _ _; refine r_shrU hG Y Y Y Y (by omega) ?_)
      | (show AOp _ _ ⟨_, .binOp .shl _ _ _ _, _, _, _, _⟩ _ _ _; refine r_shlU hG Y Y Y Y (by omega) ?_)
      | (show AOp _ _ ⟨_, .binOp .xor _ _ _ _, _, _, _, _⟩ _ _ _; refine r_xorU hG Y Y Y Y (by omega) ?_)
      | (show AOp _ _ ⟨_, .binOp .shr _ _ _ _, _, _, _, _⟩ _ _ _; refine r_shr hG Y Y Y Y (by omega) ?_)
      | (show AOp _ _ ⟨_, .binOp .shl _ _ _ _, _, _, _, _⟩ _ _ _; refine r_shl hG Y Y Y Y (by omega) ?_)
      | (show AOp _ _ ⟨_, .binOp _ _ _ _ _, _, _, _, _⟩ _ _ _; first | refine Bw hG Y Y Y ?_)
      | (show AOp _ _ ⟨_, .load _ _, _, _, _, _⟩ _ _ _; first | refine Ak (α := Nat) 0 hG Y Y Y Y (by omega) Y ?_ | refine Ak (α := Nat) 1 hG Y Y Y Y (by omega) Y ?_ | refine Bg 0 hG Y Y Y Y ?_ | refine Bg 1 hG Y Y Y Y ?_)
      | (show AOp _ _ ⟨_, .store _ _ _, _, _, _, _⟩ _ _ _; first | refine Bc (α := Nat) 0 hG Y Y Y Ah Bb Y Y (by first | omega | (simp only [Array.size_setIfInBounds]; omega)) ?_ | refine Bc (α := Nat) 1 hG Y Y Y Ah Bb Y Y (by first | omega | (simp only [Array.size_setIfInBounds]; omega)) ?_ | refine Bv 0 hG Y Y Y Y Y Y Y ?_ | refine Bv 1 hG Y Y Y Y Y Y Y ?_)
      | refine r_q hG Y Y Y ?_); exact kk)
    | (refine' Cn Y Y Y Y (fun K kk => ?_) ?_; (try (show Go.Ts.T; rotate_left)); refine Bg 0 hG Y Y Y Y ?_; exact kk)
    | refine dq0_e Y ?_ | (refine dq0_nil ?_; show EL _ _ _ _ _ _ _ _ _)
    | (refine Cf ⟨_, Y⟩ Y Y Y (fun K ke => ?_); refine Bv 0 hG Y Y Y Y Y Y Y ?_; refine ke (.tup []) _ ?_)
    | (refine el_nil ⟨_, Y⟩ ?_; show AL _ _ _ _ _ _ _ _) | fail)
  refine Ar ?_
  rw [show (s ^^^ s / 2 ^ Int.toNat 7) = t from ht.symm]
  dsimp (config := { zetaDelta := true }) only [Ax, Aa]
  repeat' (first
    | ((first | (show AL _ _ _ _ _ _ _ _; refine Ag Y ?_) | (show DL _ _ _ _ _ _ _; refine' A8 Y Y (fun K kk => ?_) ?_; try (show Go.Ts.T; rotate_left))); (first
      | refine Aq hG Y Y ?_
      | refine A5 hG Y Y ?_
      | (show AOp _ _ ⟨_, .binOp .shr _ _ _ _, _, _, _, _⟩ _ _ _; refine r_shrU hG Y Y Y Y (by omega) ?_)
      | (show AOp _ _ ⟨_, .binOp .shl _ _ _ _, _, _, _, _⟩ _ _ _; refine r_shlU hG Y Y Y Y (by omega) ?_)
      | (show AOp _ _ ⟨_, .binOp .xor _ _ _ _, _, _, _, _⟩ _ _ _; refine r_xorU hG Y Y Y Y (by omega) ?_)
      | (show AOp _ _ ⟨_, .binOp .shr _ _ _ _, _, _, _, _⟩ _ _ _; refine r_shr hG Y Y Y Y (by omega) ?_)
      | (show AOp _ _ ⟨_, .binOp .shl _ _ _ _, _, _, _, _⟩ _ _ _; refine r_shl hG Y Y Y Y (by omega) ?_)
      | (show AOp _ _ ⟨_, .binOp _ _ _ _ _, _, _, _, _⟩ _ _ _; first | refine Bw hG Y Y Y ?_)
      | (show AOp _ _ ⟨_, .load _ _, _, _, _, _⟩ _ _ _; first | refine Ak (α := Nat) 0 hG Y Y Y Y (by omega) Y ?_ | refine Ak (α := Nat) 1 hG Y Y Y Y (by omega) Y ?_ | refine Bg 0 hG Y Y Y Y ?_ | refine Bg 1 hG Y Y Y Y ?_)
      | (show AOp _ _ ⟨_, .store _ _ _, _, _, _, _⟩ _ _ _; first | refine Bc (α := Nat) 0 hG Y Y Y Ah Bb Y Y (by first | omega | (simp only [Array.size_setIfInBounds]; omega)) ?_ | refine Bc (α := Nat) 1 hG Y Y Y Ah Bb Y Y (by first | omega | (simp only [Array.size_setIfInBounds]; omega)) ?_ | refine Bv 0 hG Y Y Y Y Y Y Y ?_ | refine Bv 1 hG Y Y Y Y Y Y Y ?_)
      | refine r_q hG Y Y Y ?_); try exact kk)
    | (show AL _ _ _ _ _ _ _ _; first | refine Bk Y Y Y ?_ | (refine Ar ?_; first | show AW _ _ _ _ _ _ | show ∃ x', _ < _ ∧ _)) | (show AW _ _ (.seq _ _) _ _ _; refine Ai ?_; intro Q1) | (show AW _ _ (.region _ _ false) _ _ _; (fail_if_success show AW _ _ (.region 3 _ _) _ _ _); refine Ad ?_; intro O1) | (show AW _ _ (.ret) _ _ _; refine Aw ?_; try dsimp only [Ax, Aa, A2, Af])
    | (show DL _ _ _ _ _ _ _; refine Bx Y Y (fun K kt kf => Am hG Y Y Y Y Y kt kf) (fun h => ?_) (fun h => ?_))
    | (show DL _ _ _ _ _ _ _; refine By Y Y Y ?_) | (show DL _ _ _ _ _ _ _; refine Be ?_; first | show AW _ _ _ _ _ _ | show ∃ x', _ < _ ∧ _) | (show AW _ _ (.region _ _ true) _ _ _; (fail_if_success show AW _ _ (.region 3 _ _) _ _ _); refine A3 mix (by kernel_rfl) ?_; intro O1) | fail)
  refine Co (m := 10) [9] [2, 5] (fun σ => ∃ c : List Go.Ts.T, σ = ⟨[(i, .cells c)], [], off, none⟩) mix Y Y (by repeat (first | exact Sp.zero _ | apply Sp.succ)) ?_; intro O1 F1 Z1 Q2; repeat' (first
    | (refine' dq0_cons Y Y Y Y (fun σ hσ K kk => ?_) ?_; (try (show Go.Ts.T; rotate_left)); (obtain ⟨c, hcs⟩ := hσ; subst hcs); (first
      | refine Aq hG Y Y ?_
      | refine A5 hG Y Y ?_
      | (show AOp _ _ ⟨_, .binOp .shr _ _ _ _, _, _, _, _⟩ _ _ _; refine r_shrU hG Y Y Y Y (by omega) ?_)
      | (show AOp _ _ ⟨_, .binOp .shl _ _ _ _, _, _, _, _⟩ _ _ _; refine r_shlU hG Y Y Y Y (by omega) ?_)
      | (show AOp _ _ ⟨_, .binOp .xor _ _ _ _, _, _, _, _⟩ _ _ _; refine r_xorU hG Y Y Y Y (by omega) ?_)
      | (show AOp _ _ ⟨_, .binOp .shr _ _ _ _, _, _, _, _⟩ _ _ _; refine r_shr hG Y Y Y Y (by omega) ?_)
      | (show AOp _ _ ⟨_, .binOp .shl _ _ _ _, _, _, _, _⟩ _ _ _; refine r_shl hG Y Y Y Y (by omega) ?_)
      | (show AOp _ _ ⟨_, .binOp _ _ _ _ _, _, _, _, _⟩ _ _ _; first | refine Bw hG Y Y Y ?_)
      | (show AOp _ _ ⟨_, .load _ _, _, _, _, _⟩ _ _ _; first | refine Ak (α := Nat) 0 hG Y Y Y Y (by omega) Y ?_ | refine Ak (α := Nat) 1 hG Y Y Y Y (by omega) Y ?_ | refine Bg 0 hG Y Y Y Y ?_ | refine Bg 1 hG Y Y Y Y ?_)
      | (show AOp _ _ ⟨_, .store _ _ _, _, _, _, _⟩ _ _ _; first | refine Bc (α := Nat) 0 hG Y Y Y Ah Bb Y Y (by first | omega | (simp only [Array.size_setIfInBounds]; omega)) ?_ | refine Bc (α := Nat) 1 hG Y Y Y Ah Bb Y Y (by first | omega | (simp only [Array.size_setIfInBounds]; omega)) ?_ | refine Bv 0 hG Y Y Y Y Y Y Y ?_ | refine Bv 1 hG Y Y Y Y Y Y Y ?_)
      | refine r_q hG Y Y Y ?_); exact kk)
    | (refine' Cn Y Y Y Y (fun K kk => ?_) ?_; (try (show Go.Ts.T; rotate_left)); refine Bg 0 hG Y Y Y Y ?_; exact kk)
    | refine dq0_e Y ?_ | (refine dq0_nil ?_; show EL _ _ _ _ _ _ _ _ _)
    | (refine Cf ⟨_, Y⟩ Y Y Y (fun K ke => ?_); refine Bv 0 hG Y Y Y Y Y Y Y ?_; refine ke (.tup []) _ ?_)
    | (refine el_nil ⟨_, Y⟩ ?_; show AL _ _ _ _ _ _ _ _) | fail)
  refine Ar ?_
  rw [show (t ^^^ t * 2 ^ Int.toNat 17 % 18446744073709551616) = w from hw.symm]
  dsimp (config := { zetaDelta := true }) only [Ax, Aa]
  repeat' (first
    | ((first | (show AL _ _ _ _ _ _ _ _; refine Ag Y ?_) | (show DL _ _ _ _ _ _ _; refine' A8 Y Y (fun K kk => ?_) ?_; try (show Go.Ts.T; rotate_left))); (first
      | refine Aq hG Y Y ?_
      | refine A5 hG Y Y ?_
      | (show AOp _ _ ⟨_, .binOp .shr _ _ _ _, _, _, _, _⟩ _ _ _; refine r_shrU hG Y Y Y Y (by omega) ?_)
      | (show AOp _ _ ⟨_, .binOp .shl _ _ _ _, _, _, _, _⟩ _ _ _; refine r_shlU hG Y Y Y Y (by omega) ?_)
      | (show AOp _ _ ⟨_, .binOp .xor _ _ _ _, _, _, _, _⟩ _ _ _; refine r_xorU hG Y Y Y Y (by omega) ?_)
      | (show AOp _ _ ⟨_, .binOp .shr _ _ _ _, _, _, _, _⟩ _ _ _; refine r_shr hG Y Y Y Y (by omega) ?_)
      | (show AOp _ _ ⟨_, .binOp .shl _ _ _ _, _, _, _, _⟩ _ _ _; refine r_shl hG Y Y Y Y (by omega) ?_)
      | (show AOp _ _ ⟨_, .binOp _ _ _ _ _, _, _, _, _⟩ _ _ _; first | refine Bw hG Y Y Y ?_)
      | (show AOp _ _ ⟨_, .load _ _, _, _, _, _⟩ _ _ _; first | refine Ak (α := Nat) 0 hG Y Y Y Y (by omega) Y ?_ | refine Ak (α := Nat) 1 hG Y Y Y Y (by omega) Y ?_ | refine Bg 0 hG Y Y Y Y ?_ | refine Bg 1 hG Y Y Y Y ?_)
      | (show AOp _ _ ⟨_, .store _ _ _, _, _, _, _⟩ _ _ _; first | refine Bc (α := Nat) 0 hG Y Y Y Ah Bb Y Y (by first | omega | (simp only [Array.size_setIfInBounds]; omega)) ?_ | refine Bc (α := Nat) 1 hG Y Y Y Ah Bb Y Y (by first | omega | (simp only [Array.size_setIfInBounds]; omega)) ?_ | refine Bv 0 hG Y Y Y Y Y Y Y ?_ | refine Bv 1 hG Y Y Y Y Y Y Y ?_)
      | refine r_q hG Y Y Y ?_); try exact kk)
    | (show AL _ _ _ _ _ _ _ _; first | refine Bk Y Y Y ?_ | (refine Ar ?_; first | show AW _ _ _ _ _ _ | show ∃ x', _ < _ ∧ _)) | (show AW _ _ (.seq _ _) _ _ _; refine Ai ?_; intro Q1) | (show AW _ _ (.region _ _ false) _ _ _; refine Ad ?_; intro O1) | (show AW _ _ (.ret) _ _ _; refine Aw ?_; try dsimp only [Ax, Aa, A2, Af])
    | (show DL _ _ _ _ _ _ _; refine Bx Y Y (fun K kt kf => Am hG Y Y Y Y Y kt kf) (fun h => ?_) (fun h => ?_))
    | (show DL _ _ _ _ _ _ _; refine By Y Y Y ?_) | (show DL _ _ _ _ _ _ _; refine Be ?_; first | show AW _ _ _ _ _ _ | show ∃ x', _ < _ ∧ _) | (show AW _ _ (.region _ _ true) _ _ _; refine A3 mix (by kernel_rfl) ?_; intro O1) | fail)
  refine ret_mut 0 (Bm rfl Bl) rfl (.refl _) rfl ⟨rfl, ?_⟩
  trace_state; rfl
end Go.Proofs.Ytmckbfdklcmogaa
namespace Go.Proofs.Ytmckbfdklcmogaa
open Go.Ts
set_option linter.unusedSimpArgs false
set_option linter.unusedVariables false
attribute [local irreducible] Go.Ts.AW Go.Ts.AOps Go.Ts.AL Go.Ts.AOp Go.Ts.ACalls Go.Ts.DL Go.Ts.DQ0 Go.Ts.EL
def nT (n : Nat) : T := .int .i64 (n : Int)
instance : Enc nT 1 := ⟨fun x c h => by simp [nT, T.cells] at h; subst h; rfl, fun x => rfl⟩
def nm : Nat → Nat → Option (List Nat)
  | 0, i => if i = 1 then some [] else none
  | k + 1, i => if i = 1 then some [] else if 1 < i ∧ 0 < i % 64 then (nm k (i / 64)).map (i % 64 :: ·) else none
def nmT : Option (List Nat) → T
  | some l => .tup [.sl 1 .no (l.map nT), .bool true]
  | none => .tup [.sl 1 .no [], .bool false]
structure NmX (R : Option (List Nat)) where
  i : Nat
  pre : List Nat
  k : Nat
  hi : i < 18446744073709551616
  hl : pre.length ≤ 6
  e : (nm (6 - pre.length) i).map (pre ++ ·) = R
theorem nm_one (k : Nat) : nm k 1 = some [] := by cases k <;> rfl
theorem nm_step {k i : Nat} (h1 : 1 < i) (h2 : 0 < i % 64) (hk : 0 < k) : nm k i = (nm (k - 1) (i / 64)).map (i % 64 :: ·) := by
  obtain ⟨k, rfl⟩ : ∃ j, k = j + 1 := ⟨k - 1, by omega⟩
  rw [nm, if_neg (by omega), if_pos ⟨h1, h2⟩]; rfl
theorem nm_no {k i : Nat} (h1 : i ≠ 1) (h : ¬ (1 < i ∧ 0 < i % 64 ∧ 0 < k)) : nm k i = none := by
  cases k with
  | zero => rw [nm, if_neg h1]
  | succ k => rw [nm, if_neg h1, if_neg (by omega)]
set_option maxHeartbeats 1000000 in
theorem name_numbers {i : Nat} (hi : i < 18446744073709551616) : Ts.Pure Try.prog 27 [.int .u64 (i : Int)] (nmT (nm 6 i)) := by
  obtain ⟨R, hR⟩ : ∃ R, nm 6 i = R := ⟨_, rfl⟩
  rw [hR]
  intro off
  refine Br (N := 29) (rs := [.tmp 2, .tmp 3]) hG Try.func27 rfl rfl rfl rfl rfl ?_
  repeat' (first
    | ((show AL _ _ _ _ _ _ _ _; refine Ag Y ?_); (first
      | refine Aq hG Y Y ?_
      | refine A5 hG Y Y ?_
      | (show AOp _ _ ⟨_, .call ⟨.builtin .len, _, _⟩, _, _, _, _⟩ _ _ _; first | refine Bh hG Y Y Y Y ?_ | refine Bq hG Y Y Y Y Y ?_)
      | (show AOp _ _ ⟨_, .binOp .shr _ _ _ _, _, _, _, _⟩ _ _ _; refine r_shr hG Y Y Y Y (by omega) ?_)
      | (show AOp _ _ ⟨_, .binOp .and _ _ _ _, _, _, _, _⟩ _ _ _; refine r_and63 hG Y Y (by omega) Y ?_)
      | (show AOp _ _ ⟨_, .binOp _ _ _ _ _, _, _, _, _⟩ _ _ _; first | refine At hG Y Y Y Y Y (by omega) ?_ | refine Au hG Y Y Y Y Y (by omega) ?_ | (refine Am hG Y Y Y Y Y (fun h => ?_) (fun h => ?_)) | refine Bw hG Y Y Y ?_)
      | (show AOp _ _ ⟨_, .convert _ _ _, _, _, _, _⟩ _ _ _; first | refine r_cv_i64 hG Y Y Y Y Y (by omega) ?_ | refine r_cvw hG Y Y Y Y Y ?_)
      | refine A6 hG Y Y Y ?_
      | (show AOp _ _ ⟨_, .buildSlice _ _ _, _, _, _, _⟩ _ _ _; first | refine r_mk (sz := 1) hG Y Y Y Y Y Y Y ?_)
      | (show AOp _ _ ⟨_, .call ⟨.builtin .append, _, _⟩, _, _, _, _⟩ _ _ _; first | refine Bo (sz := 1) (xs := []) hG Y Y Y Y Y Y Y ⟨_, Y⟩ Y Y Y Y Y Y Y (by first | omega | (simp; omega)) (fun k => ?_) | refine Bp 0 hG Y Y Y Y Y Y Y ⟨_, Y⟩ Y Y Y Y Y (by first | omega | (simp only [List.length_append, List.length_cons, List.length_nil]; omega)) (fun k => ?_) | fail)
      | refine r_q hG Y Y Y ?_))
    | (show AL _ _ _ _ _ _ _ _; first | refine Bk Y Y Y ?_ | (refine Ar ?_; first | show AW _ _ _ _ _ _ | show ∃ x', _ < _ ∧ _)) | (show AW _ _ (.seq _ _) _ _ _; refine Ai ?_; intro Q1) | (show AW _ _ (.region _ _ false) _ _ _; refine Ad ?_; intro O1) | (show AW _ _ (.cond _ _ _) _ _ _; first | refine Ao Y ?_ | refine Ap Y ?_) | (show AW _ _ (.skip) _ _ _; refine Aj ?_; first | show AW _ _ _ _ _ _ | show ∃ x', _ < _ ∧ _) | (show AW _ _ (.goto _) _ _ _; refine Ci ?_; try dsimp only [Ax, Aa, A2, Af]) | (show AW _ _ (.ret) _ _ _; refine Aw ?_; try dsimp only [Ax, Aa, A2, Af]) | fail)
  refine aw_scope' 0 rfl (X := NmX R) (fun x => [(0, .int .u64 (x.i : Int)), (4, .sl 1 (.tok x.k) (x.pre.map nT))]) (fun x => ⟨[], [x.k], off, none⟩) (fun x => 7 - x.pre.length) ?_ ?_
  · clear hR hi i
    rintro ⟨i, pre, k, hi, hl, e⟩
    dsimp only at e ⊢
    have ha : i &&& 63 = i % 64 := Nat.and_two_pow_sub_one_eq_mod i 6
    have hb : i &&& 63 ≤ 63 := Nat.and_le_right
    by_cases h1 : i = 1
    · subst h1
      rw [nm_one] at e
      repeat' (first
    | ((show AL _ _ _ _ _ _ _ _; refine Ag Y ?_); (first
      | refine Aq hG Y Y ?_
      | refine A5 hG Y Y ?_
      | (show AOp _ _ ⟨_, .call ⟨.builtin .len, _, _⟩, _, _, _, _⟩ _ _ _; first | refine Bh hG Y Y Y Y ?_ | refine Bq hG Y Y Y Y Y ?_)
      | (show AOp _ _ ⟨_, .binOp .shr _ _ _ _, _, _, _, _⟩ _ _ _; refine r_shrU hG Y Y Y Y (by omega) ?_)
      | (show AOp _ _ ⟨_, .binOp .and _ _ _ _, _, _, _, _⟩ _ _ _; first | refine r_andU hG Y Y Y Y (by omega) ?_ | refine r_andU (m := 63) hG Y Y Y Y (by omega) ?_)
      | (show AOp _ _ ⟨_, .binOp .shr _ _ _ _, _, _, _, _⟩ _ _ _; refine r_shr hG Y Y Y Y (by omega) ?_)
      | (show AOp _ _ ⟨_, .binOp .and _ _ _ _, _, _, _, _⟩ _ _ _; refine r_and63 hG Y Y (by omega) Y ?_)
      | (show AOp _ _ ⟨_, .binOp _ _ _ _ _, _, _, _, _⟩ _ _ _; first | refine At hG Y Y Y Y Y (by omega) ?_ | refine Au hG Y Y Y Y Y (by omega) ?_ | (refine Am hG Y Y Y Y Y (fun h => ?_) (fun h => ?_)) | refine Bw hG Y Y Y ?_)
      | (show AOp _ _ ⟨_, .convert _ _ _, _, _, _, _⟩ _ _ _; first | refine r_cv_i64 hG Y Y Y Y Y (by omega) ?_ | refine r_cvw hG Y Y Y Y Y ?_)
      | refine A6 hG Y Y Y ?_
      | (show AOp _ _ ⟨_, .buildSlice _ _ _, _, _, _, _⟩ _ _ _; first | refine r_mk (sz := 1) hG Y Y Y Y Y Y Y ?_)
      | (show AOp _ _ ⟨_, .call ⟨.builtin .append, _, _⟩, _, _, _, _⟩ _ _ _; first | refine Bo (sz := 1) (xs := []) hG Y Y Y Y Y Y Y ⟨_, Y⟩ Y Y Y Y Y Y Y (by first | omega | (simp; omega)) (fun k => ?_) | refine Bp 0 hG Y Y Y Y Y Y Y ⟨_, Y⟩ Y Y Y Y Y (by first | omega | (simp only [List.length_append, List.length_cons, List.length_nil]; omega)) (fun k => ?_) | fail)
      | refine r_q hG Y Y Y ?_))
    | (show AL _ _ _ _ _ _ _ _; first | refine Bk Y Y Y ?_ | (refine Ar ?_; first | show AW _ _ _ _ _ _ | show ∃ x', _ < _ ∧ _)) | (show AW _ _ (.seq _ _) _ _ _; refine Ai ?_; intro Q1) | (show AW _ _ (.region _ _ false) _ _ _; refine Ad ?_; intro O1) | (show AW _ _ (.cond _ _ _) _ _ _; first | refine Ao Y ?_ | refine Ap Y ?_ | refine Ba Y (fun h => ?_) (fun h => ?_)) | (show AW _ _ (.skip) _ _ _; refine Aj ?_; first | show AW _ _ _ _ _ _ | show ∃ x', _ < _ ∧ _) | (show AW _ _ (.goto _) _ _ _; refine Ci ?_; try dsimp only [Ax, Aa, A2, Af]) | (show AW _ _ (.ret) _ _ _; refine Aw ?_; try dsimp only [Ax, Aa, A2, Af]) | fail)
      try dsimp (config := { zetaDelta := true }) only [Ax, Aa, A2]
      rw [← e]
      refine Bu (Bm rfl (Bm rfl Bl)) ?_ rfl
      simp only [Option.map_some, List.append_nil, nmT]
      exact Wk.tupL (wk2 (.own _ _ _) (.refl _))
    · by_cases h2 : 1 < i ∧ 0 < i % 64 ∧ pre.length < 6
      · rw [nm_step h2.1 h2.2.1 (by omega)] at e
        obtain ⟨h2, h3, h4⟩ := h2
        have hc : 0 < i &&& 63 := by omega
        have hd : i / 2 ^ Int.toNat 6 = i / 64 := rfl
        repeat' (first
    | ((show AL _ _ _ _ _ _ _ _; refine Ag Y ?_); (first
      | refine Aq hG Y Y ?_
      | refine A5 hG Y Y ?_
      | (show AOp _ _ ⟨_, .call ⟨.builtin .len, _, _⟩, _, _, _, _⟩ _ _ _; first | refine Bh hG Y Y Y Y ?_ | refine Bq hG Y Y Y Y Y ?_)
      | (show AOp _ _ ⟨_, .binOp .shr _ _ _ _, _, _, _, _⟩ _ _ _; refine r_shrU hG Y Y Y Y (by omega) ?_)
      | (show AOp _ _ ⟨_, .binOp .and _ _ _ _, _, _, _, _⟩ _ _ _; first | refine r_andU hG Y Y Y Y (by omega) ?_ | refine r_andU (m := 63) hG Y Y Y Y (by omega) ?_)
      | (show AOp _ _ ⟨_, .binOp .shr _ _ _ _, _, _, _, _⟩ _ _ _; refine r_shr hG Y Y Y Y (by omega) ?_)
      | (show AOp _ _ ⟨_, .binOp .and _ _ _ _, _, _, _, _⟩ _ _ _; refine r_and63 hG Y Y (by omega) Y ?_)
      | (show AOp _ _ ⟨_, .binOp _ _ _ _ _, _, _, _, _⟩ _ _ _; first | refine At hG Y Y Y Y Y (by omega) ?_ | refine Au hG Y Y Y Y Y (by omega) ?_ | (refine Am hG Y Y Y Y Y (fun h => ?_) (fun h => ?_)) | refine Bw hG Y Y Y ?_)
      | (show AOp _ _ ⟨_, .convert _ _ _, _, _, _, _⟩ _ _ _; first | refine r_cv_i64 hG Y Y Y Y Y (by omega) ?_ | refine r_cvw hG Y Y Y Y Y ?_)
      | refine A6 hG Y Y Y ?_
      | (show AOp _ _ ⟨_, .buildSlice _ _ _, _, _, _, _⟩ _ _ _; first | refine r_mk (sz := 1) hG Y Y Y Y Y Y Y ?_)
      | (show AOp _ _ ⟨_, .call ⟨.builtin .append, _, _⟩, _, _, _, _⟩ _ _ _; first | refine Bp 0 (ys := [i &&& 63]) hG Y Y Y Y Y Y Y ⟨_, Y⟩ Y Y Y Y Y (by simp only [List.length_append, List.length_map, List.length_cons, List.length_nil]; omega) (fun k => ?_) | refine Bo (sz := 1) (xs := []) hG Y Y Y Y Y Y Y ⟨_, Y⟩ Y Y Y Y Y Y Y (by first | omega | (simp; omega)) (fun k => ?_) | refine Bp 0 hG Y Y Y Y Y Y Y ⟨_, Y⟩ Y Y Y Y Y (by first | omega | (simp only [List.length_append, List.length_cons, List.length_nil]; omega)) (fun k => ?_) | fail)
      | refine r_q hG Y Y Y ?_))
    | (show AL _ _ _ _ _ _ _ _; first | refine Bk Y Y Y ?_ | (refine Ar ?_; first | show AW _ _ _ _ _ _ | show ∃ x', _ < _ ∧ _)) | (show AW _ _ (.seq _ _) _ _ _; refine Ai ?_; intro Q1) | (show AW _ _ (.region _ _ false) _ _ _; refine Ad ?_; intro O1) | (show AW _ _ (.cond _ _ _) _ _ _; first | refine Ao Y ?_ | refine Ap Y ?_ | refine Ba Y (fun h => ?_) (fun h => ?_)) | (show AW _ _ (.skip) _ _ _; refine Aj ?_; first | show AW _ _ _ _ _ _ | show ∃ x', _ < _ ∧ _) | (show AW _ _ (.goto _) _ _ _; refine Ci ?_; try dsimp only [Ax, Aa, A2, Af]) | (show AW _ _ (.ret) _ _ _; refine Aw ?_; try dsimp only [Ax, Aa, A2, Af]) | fail)
        refine ⟨rfl, ⟨i / 64, pre ++ [i % 64], _, by omega, by simp; omega, ?_⟩, by simp; omega, ?_, .refl _⟩
        · rw [← e, List.length_append, List.length_singleton, Nat.sub_add_eq]
          cases nm (6 - pre.length - 1) (i / 64) <;> simp
        · exact .consW rfl (.eq (by rw [hd])) (.consW rfl (.eq (by rw [ha])) (.nil _))
      · rw [nm_no h1 (by omega)] at e
        by_cases h3 : 1 < i
        · by_cases h4 : 0 < i % 64
          · have h5 : ¬ pre.length < 6 := fun h => h2 ⟨h3, h4, h⟩
            have hc : 0 < i &&& 63 := by omega
            repeat' (first
    | ((show AL _ _ _ _ _ _ _ _; refine Ag Y ?_); (first
      | refine Aq hG Y Y ?_
      | refine A5 hG Y Y ?_
      | (show AOp _ _ ⟨_, .call ⟨.builtin .len, _, _⟩, _, _, _, _⟩ _ _ _; first | refine Bh hG Y Y Y Y ?_ | refine Bq hG Y Y Y Y Y ?_)
      | (show AOp _ _ ⟨_, .binOp .shr _ _ _ _, _, _, _, _⟩ _ _ _; refine r_shrU hG Y Y Y Y (by omega) ?_)
      | (show AOp _ _ ⟨_, .binOp .and _ _ _ _, _, _, _, _⟩ _ _ _; first | refine r_andU hG Y Y Y Y (by omega) ?_ | refine r_andU (m := 63) hG Y Y Y Y (by omega) ?_)
      | (show AOp _ _ ⟨_, .binOp .shr _ _ _ _, _, _, _, _⟩ _ _ _; refine r_shr hG Y Y Y Y (by omega) ?_)
      | (show AOp _ _ ⟨_, .binOp .and _ _ _ _, _, _, _, _⟩ _ _ _; refine r_and63 hG Y Y (by omega) Y ?_)
      | (show AOp _ _ ⟨_, .binOp _ _ _ _ _, _, _, _, _⟩ _ _ _; first | refine At hG Y Y Y Y Y (by omega) ?_ | refine Au hG Y Y Y Y Y (by omega) ?_ | (refine Am hG Y Y Y Y Y (fun h => ?_) (fun h => ?_)) | refine Bw hG Y Y Y ?_)
      | (show AOp _ _ ⟨_, .convert _ _ _, _, _, _, _⟩ _ _ _; first | refine r_cv_i64 hG Y Y Y Y Y (by omega) ?_ | refine r_cvw hG Y Y Y Y Y ?_)
      | refine A6 hG Y Y Y ?_
      | (show AOp _ _ ⟨_, .buildSlice _ _ _, _, _, _, _⟩ _ _ _; first | refine r_mk (sz := 1) hG Y Y Y Y Y Y Y ?_)
      | (show AOp _ _ ⟨_, .call ⟨.builtin .append, _, _⟩, _, _, _, _⟩ _ _ _; first | refine Bo (sz := 1) (xs := []) hG Y Y Y Y Y Y Y ⟨_, Y⟩ Y Y Y Y Y Y Y (by first | omega | (simp; omega)) (fun k => ?_) | refine Bp 0 hG Y Y Y Y Y Y Y ⟨_, Y⟩ Y Y Y Y Y (by first | omega | (simp only [List.length_append, List.length_cons, List.length_nil]; omega)) (fun k => ?_) | fail)
      | refine r_q hG Y Y Y ?_))
    | (show AL _ _ _ _ _ _ _ _; first | refine Bk Y Y Y ?_ | (refine Ar ?_; first | show AW _ _ _ _ _ _ | show ∃ x', _ < _ ∧ _)) | (show AW _ _ (.seq _ _) _ _ _; refine Ai ?_; intro Q1) | (show AW _ _ (.region _ _ false) _ _ _; refine Ad ?_; intro O1) | (show AW _ _ (.cond _ _ _) _ _ _; first | refine Ao Y ?_ | refine Ap Y ?_ | refine Ba Y (fun h => ?_) (fun h => ?_)) | (show AW _ _ (.skip) _ _ _; refine Aj ?_; first | show AW _ _ _ _ _ _ | show ∃ x', _ < _ ∧ _) | (show AW _ _ (.goto _) _ _ _; refine Ci ?_; try dsimp only [Ax, Aa, A2, Af]) | (show AW _ _ (.ret) _ _ _; refine Aw ?_; try dsimp only [Ax, Aa, A2, Af]) | fail)
            try dsimp (config := { zetaDelta := true }) only [Ax, Aa, A2]
            rw [← e]
            exact Bu (Bm rfl (Bm rfl Bl)) (Wk.tupL (wk2 (.nil 1) (.refl _))) rfl
          · have hc : ¬ 0 < i &&& 63 := by omega
            repeat' (first
    | ((show AL _ _ _ _ _ _ _ _; refine Ag Y ?_); (first
      | refine Aq hG Y Y ?_
      | refine A5 hG Y Y ?_
      | (show AOp _ _ ⟨_, .call ⟨.builtin .len, _, _⟩, _, _, _, _⟩ _ _ _; first | refine Bh hG Y Y Y Y ?_ | refine Bq hG Y Y Y Y Y ?_)
      | (show AOp _ _ ⟨_, .binOp .shr _ _ _ _, _, _, _, _⟩ _ _ _; refine r_shrU hG Y Y Y Y (by omega) ?_)
      | (show AOp _ _ ⟨_, .binOp .and _ _ _ _, _, _, _, _⟩ _ _ _; first | refine r_andU hG Y Y Y Y (by omega) ?_ | refine r_andU (m := 63) hG Y Y Y Y (by omega) ?_)
      | (show AOp _ _ ⟨_, .binOp .shr _ _ _ _, _, _, _, _⟩ _ _ _; refine r_shr hG Y Y Y Y (by omega) ?_)
      | (show AOp _ _ ⟨_, .binOp .and _ _ _ _, _, _, _, _⟩ _ _ _; refine r_and63 hG Y Y (by omega) Y ?_)
      | (show AOp _ _ ⟨_, .binOp _ _ _ _ _, _, _, _, _⟩ _ _ _; first | refine At hG Y Y Y Y Y (by omega) ?_ | refine Au hG Y Y Y Y Y (by omega) ?_ | (refine Am hG Y Y Y Y Y (fun h => ?_) (fun h => ?_)) | refine Bw hG Y Y Y ?_)
      | (show AOp _ _ ⟨_, .convert _ _ _, _, _, _, _⟩ _ _ _; first | refine r_cv_i64 hG Y Y Y Y Y (by omega) ?_ | refine r_cvw hG Y Y Y Y Y ?_)
      | refine A6 hG Y Y Y ?_
      | (show AOp _ _ ⟨_, .buildSlice _ _ _, _, _, _, _⟩ _ _ _; first | refine r_mk (sz := 1) hG Y Y Y Y Y Y Y ?_)
      | (show AOp _ _ ⟨_, .call ⟨.builtin .append, _, _⟩, _, _, _, _⟩ _ _ _; first | refine Bo (sz := 1) (xs := []) hG Y Y Y Y Y Y Y ⟨_, Y⟩ Y Y Y Y Y Y Y (by first | omega | (simp; omega)) (fun k => ?_) | refine Bp 0 hG Y Y Y Y Y Y Y ⟨_, Y⟩ Y Y Y Y Y (by first | omega | (simp only [List.length_append, List.length_cons, List.length_nil]; omega)) (fun k => ?_) | fail)
      | refine r_q hG Y Y Y ?_))
    | (show AL _ _ _ _ _ _ _ _; first | refine Bk Y Y Y ?_ | (refine Ar ?_; first | show AW _ _ _ _ _ _ | show ∃ x', _ < _ ∧ _)) | (show AW _ _ (.seq _ _) _ _ _; refine Ai ?_; intro Q1) | (show AW _ _ (.region _ _ false) _ _ _; refine Ad ?_; intro O1) | (show AW _ _ (.cond _ _ _) _ _ _; first | refine Ao Y ?_ | refine Ap Y ?_ | refine Ba Y (fun h => ?_) (fun h => ?_)) | (show AW _ _ (.skip) _ _ _; refine Aj ?_; first | show AW _ _ _ _ _ _ | show ∃ x', _ < _ ∧ _) | (show AW _ _ (.goto _) _ _ _; refine Ci ?_; try dsimp only [Ax, Aa, A2, Af]) | (show AW _ _ (.ret) _ _ _; refine Aw ?_; try dsimp only [Ax, Aa, A2, Af]) | fail)
            try dsimp (config := { zetaDelta := true }) only [Ax, Aa, A2]
            rw [← e]
            exact Bu (Bm rfl (Bm rfl Bl)) (Wk.tupL (wk2 (.nil 1) (.refl _))) rfl
        · repeat' (first
    | ((show AL _ _ _ _ _ _ _ _; refine Ag Y ?_); (first
      | refine Aq hG Y Y ?_
      | refine A5 hG Y Y ?_
      | (show AOp _ _ ⟨_, .call ⟨.builtin .len, _, _⟩, _, _, _, _⟩ _ _ _; first | refine Bh hG Y Y Y Y ?_ | refine Bq hG Y Y Y Y Y ?_)
      | (show AOp _ _ ⟨_, .binOp .shr _ _ _ _, _, _, _, _⟩ _ _ _; refine r_shrU hG Y Y Y Y (by omega) ?_)
      | (show AOp _ _ ⟨_, .binOp .and _ _ _ _, _, _, _, _⟩ _ _ _; first | refine r_andU hG Y Y Y Y (by omega) ?_ | refine r_andU (m := 63) hG Y Y Y Y (by omega) ?_)
      | (show AOp _ _ ⟨_, .binOp .shr _ _ _ _, _, _, _, _⟩ _ _ _; refine r_shr hG Y Y Y Y (by omega) ?_)
      | (show AOp _ _ ⟨_, .binOp .and _ _ _ _, _, _, _, _⟩ _ _ _; refine r_and63 hG Y Y (by omega) Y ?_)
      | (show AOp _ _ ⟨_, .binOp _ _ _ _ _, _, _, _, _⟩ _ _ _; first | refine At hG Y Y Y Y Y (by omega) ?_ | refine Au hG Y Y Y Y Y (by omega) ?_ | (refine Am hG Y Y Y Y Y (fun h => ?_) (fun h => ?_)) | refine Bw hG Y Y Y ?_)
      | (show AOp _ _ ⟨_, .convert _ _ _, _, _, _, _⟩ _ _ _; first | refine r_cv_i64 hG Y Y Y Y Y (by omega) ?_ | refine r_cvw hG Y Y Y Y Y ?_)
      | refine A6 hG Y Y Y ?_
      | (show AOp _ _ ⟨_, .buildSlice _ _ _, _, _, _, _⟩ _ _ _; first | refine r_mk (sz := 1) hG Y Y Y Y Y Y Y ?_)
      | (show AOp _ _ ⟨_, .call ⟨.builtin .append, _, _⟩, _, _, _, _⟩ _ _ _; first | refine Bo (sz := 1) (xs := []) hG Y Y Y Y Y Y Y ⟨_, Y⟩ Y Y Y Y Y Y Y (by first | omega | (simp; omega)) (fun k => ?_) | refine Bp 0 hG Y Y Y Y Y Y Y ⟨_, Y⟩ Y Y Y Y Y (by first | omega | (simp only [List.length_append, List.length_cons, List.length_nil]; omega)) (fun k => ?_) | fail)
      | refine r_q hG Y Y Y ?_))
    | (show AL _ _ _ _ _ _ _ _; first | refine Bk Y Y Y ?_ | (refine Ar ?_; first | show AW _ _ _ _ _ _ | show ∃ x', _ < _ ∧ _)) | (show AW _ _ (.seq _ _) _ _ _; refine Ai ?_; intro Q1) | (show AW _ _ (.region _ _ false) _ _ _; refine Ad ?_; intro O1) | (show AW _ _ (.cond _ _ _) _ _ _; first | refine Ao Y ?_ | refine Ap Y ?_ | refine Ba Y (fun h => ?_) (fun h => ?_)) | (show AW _ _ (.skip) _ _ _; refine Aj ?_; first | show AW _ _ _ _ _ _ | show ∃ x', _ < _ ∧ _) | (show AW _ _ (.goto _) _ _ _; refine Ci ?_; try dsimp only [Ax, Aa, A2, Af]) | (show AW _ _ (.ret) _ _ _; refine Aw ?_; try dsimp only [Ax, Aa, A2, Af]) | fail)
          try dsimp (config := { zetaDelta := true }) only [Ax, Aa, A2]
          rw [← e]
          exact Bu (Bm rfl (Bm rfl Bl)) (Wk.tupL (wk2 (.nil 1) (.refl _))) rfl
  · intro key
    repeat' (first
    | ((show AL _ _ _ _ _ _ _ _; refine Ag Y ?_); (first
      | refine Aq hG Y Y ?_
      | refine A5 hG Y Y ?_
      | (show AOp _ _ ⟨_, .call ⟨.builtin .len, _, _⟩, _, _, _, _⟩ _ _ _; first | refine Bh hG Y Y Y Y ?_ | refine Bq hG Y Y Y Y Y ?_)
      | (show AOp _ _ ⟨_, .binOp .shr _ _ _ _, _, _, _, _⟩ _ _ _; refine r_shr hG Y Y Y Y (by omega) ?_)
      | (show AOp _ _ ⟨_, .binOp .and _ _ _ _, _, _, _, _⟩ _ _ _; refine r_and63 hG Y Y (by omega) Y ?_)
      | (show AOp _ _ ⟨_, .binOp _ _ _ _ _, _, _, _, _⟩ _ _ _; first | refine At hG Y Y Y Y Y (by omega) ?_ | refine Au hG Y Y Y Y Y (by omega) ?_ | (refine Am hG Y Y Y Y Y (fun h => ?_) (fun h => ?_)) | refine Bw hG Y Y Y ?_)
      | (show AOp _ _ ⟨_, .convert _ _ _, _, _, _, _⟩ _ _ _; first | refine r_cv_i64 hG Y Y Y Y Y (by omega) ?_ | refine r_cvw hG Y Y Y Y Y ?_)
      | refine A6 hG Y Y Y ?_
      | (show AOp _ _ ⟨_, .buildSlice _ _ _, _, _, _, _⟩ _ _ _; first | refine r_mk (sz := 1) hG Y Y Y Y Y Y Y ?_)
      | (show AOp _ _ ⟨_, .call ⟨.builtin .append, _, _⟩, _, _, _, _⟩ _ _ _; first | refine Bo (sz := 1) (xs := []) hG Y Y Y Y Y Y Y ⟨_, Y⟩ Y Y Y Y Y Y Y (by first | omega | (simp; omega)) (fun k => ?_) | refine Bp 0 hG Y Y Y Y Y Y Y ⟨_, Y⟩ Y Y Y Y Y (by first | omega | (simp only [List.length_append, List.length_cons, List.length_nil]; omega)) (fun k => ?_) | fail)
      | refine r_q hG Y Y Y ?_))
    | (show AL _ _ _ _ _ _ _ _; first | refine Bk Y Y Y ?_ | (refine Ar ?_; first | show AW _ _ _ _ _ _ | show ∃ x', _ < _ ∧ _)) | (show AW _ _ (.seq _ _) _ _ _; refine Ai ?_; intro Q1) | (show AW _ _ (.region _ _ false) _ _ _; refine Ad ?_; intro O1) | (show AW _ _ (.cond _ _ _) _ _ _; first | refine Ao Y ?_ | refine Ap Y ?_) | (show AW _ _ (.skip) _ _ _; refine Aj ?_; first | show AW _ _ _ _ _ _ | show ∃ x', _ < _ ∧ _) | (show AW _ _ (.goto _) _ _ _; refine Ci ?_; try dsimp only [Ax, Aa, A2, Af]) | (show AW _ _ (.ret) _ _ _; refine Aw ?_; try dsimp only [Ax, Aa, A2, Af]) | fail)
    refine aw_label ?_
    show AW _ _ _ _ _ _
    refine aw_tok0 4 1 rfl rfl rfl rfl (fun k => ?_)
    refine aw_forget ?_ (key ⟨i, [], k, hi, by simp, by simpa using hR⟩)
    exact .cons rfl (.cons rfl (.nil _))
theorem name_May {i : Nat} (hi : i < 18446744073709551616) : Ts.Pure Try.prog 16 [.int .u64 (i : Int)] (.bool (nm 6 i).isSome) := by
  have h := name_numbers hi
  intro off
  cases e : nm 6 i with
  | none =>
    rw [e] at h
    unfold nmT at h
    refine Br (N := 11) (rs := [.tmp 2]) hG Try.func16 rfl rfl rfl rfl rfl ?_
    repeat' (first
    | ((show AL _ _ _ _ _ _ _ _; refine Ag Y ?_); (first
      | refine Aq hG Y Y ?_
      | refine A5 hG Y Y ?_
      | (show AOp _ _ ⟨_, .call ⟨.value _, _, _⟩, _, _, _, _⟩ _ _ _; first | refine Bn Y Y Y Y Y (by first | (apply h <;> (first | assumption | omega | exact A4 _ _ | exact Bd _ | exact A7 _ _ | exact Bi _ | rfl | (simp; omega))) | fail) ?_ | fail)
      | refine r_q hG Y Y Y ?_))
    | (show AL _ _ _ _ _ _ _ _; first | refine Bk Y Y Y ?_ | (refine Ar ?_; first | show AW _ _ _ _ _ _ | show ∃ x', _ < _ ∧ _)) | (show AW _ _ (.seq _ _) _ _ _; refine Ai ?_; intro Q1) | (show AW _ _ (.region _ _ false) _ _ _; refine Ad ?_; intro O1) | (show AW _ _ (.ret) _ _ _; refine Aw ?_; try dsimp only [Ax, Aa, A2, Af]) | fail)
    exact Bu (Bm rfl Bl) (.refl _) rfl
  | some l =>
    rw [e] at h
    unfold nmT at h
    refine Br (N := 11) (rs := [.tmp 2]) hG Try.func16 rfl rfl rfl rfl rfl ?_
    repeat' (first
    | ((show AL _ _ _ _ _ _ _ _; refine Ag Y ?_); (first
      | refine Aq hG Y Y ?_
      | refine A5 hG Y Y ?_
      | (show AOp _ _ ⟨_, .call ⟨.value _, _, _⟩, _, _, _, _⟩ _ _ _; first | refine Bn Y Y Y Y Y (by first | (apply h <;> (first | assumption | omega | exact A4 _ _ | exact Bd _ | exact A7 _ _ | exact Bi _ | rfl | (simp; omega))) | fail) ?_ | fail)
      | refine r_q hG Y Y Y ?_))
    | (show AL _ _ _ _ _ _ _ _; first | refine Bk Y Y Y ?_ | (refine Ar ?_; first | show AW _ _ _ _ _ _ | show ∃ x', _ < _ ∧ _)) | (show AW _ _ (.seq _ _) _ _ _; refine Ai ?_; intro Q1) | (show AW _ _ (.region _ _ false) _ _ _; refine Ad ?_; intro O1) | (show AW _ _ (.ret) _ _ _; refine Aw ?_; try dsimp only [Ax, Aa, A2, Af]) | fail)
    exact Bu (Bm rfl Bl) (.refl _) rfl
def parN (i : Nat) : Nat := match nm 6 i with
  | some (_ :: _) => i / 64
  | _ => 0
theorem name_Parent {i : Nat} (hi : i < 18446744073709551616) : Ts.Pure Try.prog 17 [.int .u64 (i : Int)] (.int .u64 (parN i : Int)) := by
  have h := name_numbers hi
  have hp : parN i = match nm 6 i with
    | some (_ :: _) => i / 64
    | _ => 0 := rfl
  generalize parN i = p at *
  intro off
  cases e : nm 6 i with
  | none =>
    rw [e] at h hp
    unfold nmT at h
    dsimp only at hp
    subst hp
    have n0 : ([] : List T).length = 0 := rfl
    refine Br (N := 15) (rs := [.tmp 2]) hG Try.func17 rfl rfl rfl rfl rfl ?_
    repeat' (first
    | ((show AL _ _ _ _ _ _ _ _; refine Ag Y ?_); (first
      | refine Aq hG Y Y ?_
      | refine A5 hG Y Y ?_
      | (show AOp _ _ ⟨_, .call ⟨.builtin .len, _, _⟩, _, _, _, _⟩ _ _ _; first | refine Bh hG Y Y Y Y ?_ | refine Bq hG Y Y Y Y Y ?_)
      | (show AOp _ _ ⟨_, .binOp .shr _ _ _ _, _, _, _, _⟩ _ _ _; refine r_shrU hG Y Y Y Y (by omega) ?_)
      | (show AOp _ _ ⟨_, .binOp .shr _ _ _ _, _, _, _, _⟩ _ _ _; refine r_shr hG Y Y Y Y (by omega) ?_)
      | (show AOp _ _ ⟨_, .binOp _ _ _ _ _, _, _, _, _⟩ _ _ _; first | refine At hG Y Y Y Y Y (by omega) ?_ | refine Au hG Y Y Y Y Y (by omega) ?_ | (refine Am hG Y Y Y Y Y (fun h => ?_) (fun h => ?_)))
      | (show AOp _ _ ⟨_, .call ⟨.value _, _, _⟩, _, _, _, _⟩ _ _ _; first | refine Bn Y Y Y Y Y (by first | (apply h <;> (first | assumption | omega | exact A4 _ _ | exact Bd _ | exact A7 _ _ | exact Bi _ | rfl | (simp; omega))) | fail) ?_ | fail)
      | refine r_q hG Y Y Y ?_))
    | (show AL _ _ _ _ _ _ _ _; first | refine Bk Y Y Y ?_ | (refine Ar ?_; first | show AW _ _ _ _ _ _ | show ∃ x', _ < _ ∧ _)) | (show AW _ _ (.seq _ _) _ _ _; refine Ai ?_; intro Q1) | (show AW _ _ (.region _ _ false) _ _ _; refine Ad ?_; intro O1) | (show AW _ _ (.cond _ _ _) _ _ _; first | refine Ao Y ?_ | refine Ap Y ?_ | refine Ba Y (fun h => ?_) (fun h => ?_)) | (show AW _ _ (.skip) _ _ _; refine Aj ?_; first | show AW _ _ _ _ _ _ | show ∃ x', _ < _ ∧ _) | (show AW _ _ (.ret) _ _ _; refine Aw ?_; try dsimp only [Ax, Aa, A2, Af]) | fail)
    exact Bu (Bm rfl Bl) (.refl _) rfl
  | some l =>
    rw [e] at h hp
    unfold nmT at h
    cases l with
    | nil =>
      dsimp only at hp
      subst hp
      have n1 : ([] : List Nat).length = 0 := rfl
      refine Br (N := 15) (rs := [.tmp 2]) hG Try.func17 rfl rfl rfl rfl rfl ?_
      repeat' (first
    | ((show AL _ _ _ _ _ _ _ _; refine Ag Y ?_); (first
      | refine Aq hG Y Y ?_
      | refine A5 hG Y Y ?_
      | (show AOp _ _ ⟨_, .call ⟨.builtin .len, _, _⟩, _, _, _, _⟩ _ _ _; first | refine Bh hG Y Y Y Y ?_ | refine Bq hG Y Y Y Y Y ?_)
      | (show AOp _ _ ⟨_, .binOp .shr _ _ _ _, _, _, _, _⟩ _ _ _; refine r_shrU hG Y Y Y Y (by omega) ?_)
      | (show AOp _ _ ⟨_, .binOp .shr _ _ _ _, _, _, _, _⟩ _ _ _; refine r_shr hG Y Y Y Y (by omega) ?_)
      | (show AOp _ _ ⟨_, .binOp _ _ _ _ _, _, _, _, _⟩ _ _ _; first | refine At hG Y Y Y Y Y (by omega) ?_ | refine Au hG Y Y Y Y Y (by omega) ?_ | (refine Am hG Y Y Y Y Y (fun h => ?_) (fun h => ?_)))
      | (show AOp _ _ ⟨_, .call ⟨.value _, _, _⟩, _, _, _, _⟩ _ _ _; first | refine Bn Y Y Y Y Y (by first | (apply h <;> (first | assumption | omega | exact A4 _ _ | exact Bd _ | exact A7 _ _ | exact Bi _ | rfl | (simp; omega))) | fail) ?_ | fail)
      | refine r_q hG Y Y Y ?_))
    | (show AL _ _ _ _ _ _ _ _; first | refine Bk Y Y Y ?_ | (refine Ar ?_; first | show AW _ _ _ _ _ _ | show ∃ x', _ < _ ∧ _)) | (show AW _ _ (.seq _ _) _ _ _; refine Ai ?_; intro Q1) | (show AW _ _ (.region _ _ false) _ _ _; refine Ad ?_; intro O1) | (show AW _ _ (.cond _ _ _) _ _ _; first | refine Ao Y ?_ | refine Ap Y ?_ | refine Ba Y (fun h => ?_) (fun h => ?_)) | (show AW _ _ (.skip) _ _ _; refine Aj ?_; first | show AW _ _ _ _ _ _ | show ∃ x', _ < _ ∧ _) | (show AW _ _ (.ret) _ _ _; refine Aw ?_; try dsimp only [Ax, Aa, A2, Af]) | fail)
      exact Bu (Bm rfl Bl) (.refl _) rfl
    | cons x l =>
      dsimp only at hp
      subst hp
      have n1 : (x :: l).length = l.length + 1 := rfl
      refine Br (N := 15) (rs := [.tmp 2]) hG Try.func17 rfl rfl rfl rfl rfl ?_
      repeat' (first
    | ((show AL _ _ _ _ _ _ _ _; refine Ag Y ?_); (first
      | refine Aq hG Y Y ?_
      | refine A5 hG Y Y ?_
      | (show AOp _ _ ⟨_, .call ⟨.builtin .len, _, _⟩, _, _, _, _⟩ _ _ _; first | refine Bh hG Y Y Y Y ?_ | refine Bq hG Y Y Y Y Y ?_)
      | (show AOp _ _ ⟨_, .binOp .shr _ _ _ _, _, _, _, _⟩ _ _ _; refine r_shrU hG Y Y Y Y (by omega) ?_)
      | (show AOp _ _ ⟨_, .binOp .shr _ _ _ _, _, _, _, _⟩ _ _ _; refine r_shr hG Y Y Y Y (by omega) ?_)
      | (show AOp _ _ ⟨_, .binOp _ _ _ _ _, _, _, _, _⟩ _ _ _; first | refine At hG Y Y Y Y Y (by omega) ?_ | refine Au hG Y Y Y Y Y (by omega) ?_ | (refine Am hG Y Y Y Y Y (fun h => ?_) (fun h => ?_)))
      | (show AOp _ _ ⟨_, .call ⟨.value _, _, _⟩, _, _, _, _⟩ _ _ _; first | refine Bn Y Y Y Y Y (by first | (apply h <;> (first | assumption | omega | exact A4 _ _ | exact Bd _ | exact A7 _ _ | exact Bi _ | rfl | (simp; omega))) | fail) ?_ | fail)
      | refine r_q hG Y Y Y ?_))
    | (show AL _ _ _ _ _ _ _ _; first | refine Bk Y Y Y ?_ | (refine Ar ?_; first | show AW _ _ _ _ _ _ | show ∃ x', _ < _ ∧ _)) | (show AW _ _ (.seq _ _) _ _ _; refine Ai ?_; intro Q1) | (show AW _ _ (.region _ _ false) _ _ _; refine Ad ?_; intro O1) | (show AW _ _ (.cond _ _ _) _ _ _; first | refine Ao Y ?_ | refine Ap Y ?_ | refine Ba Y (fun h => ?_) (fun h => ?_)) | (show AW _ _ (.skip) _ _ _; refine Aj ?_; first | show AW _ _ _ _ _ _ | show ∃ x', _ < _ ∧ _) | (show AW _ _ (.ret) _ _ _; refine Aw ?_; try dsimp only [Ax, Aa, A2, Af]) | fail)
      exact Bu (Bm rfl Bl) (.refl _) rfl
def pathF : List Nat → List Nat
  | [] => [1]
  | n :: l => pathF l ++ [(pathF l).getLastD 0 * 64 + n]
theorem pathF_len (l : List Nat) : (pathF l).length = l.length + 1 := by
  induction l with
  | nil => rfl
  | cons n l ih => simp [pathF, ih]
theorem nm_path : ∀ (k i : Nat) (l : List Nat), nm k i = some l → (pathF l).getLastD 0 = i ∧ l.length ≤ k ∧ (∀ n ∈ l, n < 64)
  | 0, i, l, h => by
    rw [nm] at h; split at h
    · rename_i h1; injection h with h; subst h; subst h1; simp [pathF]
    · cases h
  | k + 1, i, l, h => by
    rw [nm] at h; split at h
    · rename_i h1; injection h with h; subst h; subst h1; simp [pathF]
    · split at h
      · cases h2 : nm k (i / 64) with
        | none => rw [h2] at h; cases h
        | some l' =>
          rw [h2] at h
          simp at h; subst h
          obtain ⟨h3, h4, h5⟩ := nm_path k (i / 64) l' h2
          refine ⟨by simp only [pathF, List.getLastD_concat, h3]; omega, by simp; omega, ?_⟩
          intro n hn
          rcases List.mem_cons.1 hn with rfl | hn
          · omega
          · exact h5 n hn
      · cases h
def B8 (i : Nat) : List Nat := ((nm 6 i).map pathF).getD []
theorem r_orU {P : Program} {G : Nat → Option TI} {N : Nat} {σ : St} {a : Env} {K : Env → St → Prop} {d : Tmp} {ty : TypeId} {pos : String} {af : Array Edge} {gd : Option (Nat × Bool)} {t yt : TypeId} {x y : Operand} {n m : Nat} {ti : TI} (hG : Fits P G) (ht : G t = some ti) (hx : Bj a x = some (.int .u64 ((n : Nat) : Int))) (hy : Bj a y = some (.int .u64 ((m : Nat) : Int))) (hd : Bt N (some d) = true)
    (hb : n < 18446744073709551616 ∧ m < 18446744073709551616) (kk : K (put a (some d) (.int .u64 ((n ||| m : Nat) : Int))) σ) : AOp P N ⟨some d, .binOp .or t x y yt, ty, pos, af, gd⟩ a σ K := by
  have h1 : n ||| m < 2 ^ 64 := Nat.or_lt_two_pow (by omega) (by omega)
  refine op_q hG (t := .int .u64 ((n ||| m : Nat) : Int)) ?_ rfl hd kk
  simp only [B6, hx, hy, ht, evalBin, isShift, cond_false, decide_true, cond_true, evalInt]
  rw [show IntKind.u64.bits = 64 from rfl, BitVec.toNat_or, u64_ofNat hb.1, u64_ofNat hb.2, u64_in (by omega) (by omega)]
def idxE : Nat → Int
  | 0 => -1
  | j + 1 => (j : Int)
structure PaX (l : List Nat) where
  j : Nat
  hj : j ≤ l.length
  k : Nat
theorem drop_path {l : List Nat} {j : Nat} (h : j < l.length) : pathF (l.drop j) = pathF (l.drop (j + 1)) ++ [(pathF (l.drop (j + 1))).getLastD 0 * 64 + l.getD j 0] := by
  rw [List.drop_eq_getElem_cons h, pathF]
  simp [List.getD, h]
theorem path_small : ∀ (l : List Nat), (∀ n ∈ l, n < 64) → (pathF l).getLastD 0 < 64 ^ (l.length + 1)
  | [], _ => by simp [pathF]
  | n :: l, h => by
    have ih := path_small l fun m hm => h m (by simp [hm])
    have := h n (by simp)
    simp only [pathF, List.getLastD_concat, List.length_cons]
    rw [Nat.pow_succ]; omega
set_option maxHeartbeats 1000000 in
theorem name_Path {i : Nat} (hi : i < 18446744073709551616) : Ts.Pure Try.prog 32 [.int .u64 (i : Int)] (.sl 1 .no ((B8 i).map mT)) := by
  have h := name_numbers hi
  have hp : B8 i = ((nm 6 i).map pathF).getD [] := rfl
  have hm := nm_path 6 i
  intro off
  cases e : nm 6 i with
  | none =>
    rw [e] at h hp
    unfold nmT at h
    rw [hp]
    refine Br (N := 39) (rs := [.tmp 2]) hG Try.func32 rfl rfl rfl rfl rfl ?_
    repeat' (first
    | ((first | (show AL _ _ _ _ _ _ _ _; refine Ag Y ?_) | (show DL _ _ _ _ _ _ _; refine' A8 Y Y (fun K kk => ?_) ?_; try (show Go.Ts.T; rotate_left))); (first
      | refine Aq hG Y Y ?_
      | refine A5 hG Y Y ?_
      | (show AOp _ _ ⟨_, .call ⟨.builtin .len, _, _⟩, _, _, _, _⟩ _ _ _; first | refine Bh hG Y Y Y Y ?_ | refine Bq hG Y Y Y Y Y ?_)
      | (show AOp _ _ ⟨_, .binOp .or _ _ _ _, _, _, _, _⟩ _ _ _; refine r_orU hG Y Y Y Y (by omega) ?_)
      | (show AOp _ _ ⟨_, .binOp .sub _ _ _ _, _, _, _, _⟩ _ _ _; first | refine Av hG Y Y Y Y (by omega) ?_ | refine Av (m := 1) hG Y Y Y Y (by omega) ?_ | refine Cg (m := 1) hG Y Y Y Y (by omega) ?_ | refine Ab hG Y Y Y Y Y (by omega) ?_)
      | (show AOp _ _ ⟨_, .binOp .shl _ _ _ _, _, _, _, _⟩ _ _ _; refine r_shlU hG Y Y Y Y (by omega) ?_)
      | (show AOp _ _ ⟨_, .binOp .shl _ _ _ _, _, _, _, _⟩ _ _ _; refine r_shl hG Y Y Y Y (by omega) ?_)
      | (show AOp _ _ ⟨_, .binOp _ _ _ _ _, _, _, _, _⟩ _ _ _; first | refine At hG Y Y Y Y Y (by omega) ?_ | refine Au hG Y Y Y Y Y (by omega) ?_ | ((fail_if_success have := kk); refine Am hG Y Y Y Y Y (fun h => ?_) (fun h => ?_)) | refine Bw hG Y Y Y ?_)
      | (show AOp _ _ ⟨_, .load _ _, _, _, _, _⟩ _ _ _; first | refine Ak (α := Nat) 0 hG Y Y Y Y (by omega) Y ?_ | refine Ak (α := Nat) 1 hG Y Y Y Y (by omega) Y ?_ | refine Ay hG Y Y Y ?_ | refine Bg 0 hG Y Y Y Y ?_)
      | (show AOp _ _ ⟨_, .indexAddr _ _ _, _, _, _, _⟩ _ _ _; first | refine A1 hG Y Y Y Y Y Y Y (by omega) ?_ | refine A0 hG Y Y Y Y Y Y Y (by omega) ?_ | refine Az hG Y Y Y Y Y Y Y (by omega) ?_ | refine A9 hG Y Y ?_)
      | (show AOp _ _ ⟨_, .convert _ _ _, _, _, _, _⟩ _ _ _; first | refine r_cv_u64 hG Y Y Y Y Y (by omega) ?_ | refine r_cvw hG Y Y Y Y Y ?_)
      | refine Bs hG Y Y Y ?_
      | (show AOp _ _ ⟨_, .buildSlice _ _ _, _, _, _, _⟩ _ _ _; first | refine r_mk (sz := 1) hG Y Y Y Y Y Y Y ?_)
      | (show AOp _ _ ⟨_, .call ⟨.builtin .append, _, _⟩, _, _, _, _⟩ _ _ _; first | refine Bo (sz := 1) (xs := []) hG Y Y Y Y Y Y Y ⟨_, Y⟩ Y Y Y Y Y Y Y (by first | omega | (simp; omega)) (fun k => ?_) | refine Bp 0 hG Y Y Y Y Y Y Y ⟨_, Y⟩ Y Y Y Y Y (by first | omega | (simp only [List.length_append, List.length_cons, List.length_nil]; omega)) (fun k => ?_) | fail)
      | (show AOp _ _ ⟨_, .call ⟨.value _, _, _⟩, _, _, _, _⟩ _ _ _; first | refine Bn Y Y Y Y Y (by first | (apply h <;> (first | assumption | omega | exact A4 _ _ | exact Bd _ | exact A7 _ _ | exact Bi _ | rfl | (simp; omega))) | fail) ?_ | fail)
      | refine r_q hG Y Y Y ?_); try exact kk)
    | (show AL _ _ _ _ _ _ _ _; first | refine Bk Y Y Y ?_ | (refine Ar ?_; first | show AW _ _ _ _ _ _ | show ∃ x', _ < _ ∧ _)) | (show AW _ _ (.seq _ _) _ _ _; refine Ai ?_; intro Q1) | (show AW _ _ (.region _ _ false) _ _ _; refine Ad ?_; intro O1) | (show AW _ _ (.cond _ _ _) _ _ _; first | refine Ao Y ?_ | refine Ap Y ?_ | refine Ba Y (fun h => ?_) (fun h => ?_)) | (show AW _ _ (.skip) _ _ _; refine Aj ?_; first | show AW _ _ _ _ _ _ | show ∃ x', _ < _ ∧ _) | (show AW _ _ (.block _ _) _ _ _; refine Ae ?_; intro Q1) | (show AW _ _ (.exit _) _ _ _; refine Al ?_; first | show AW _ _ _ _ _ _ | show ∃ x', _ < _ ∧ _) | (show AW _ _ (.ret) _ _ _; refine Aw ?_; try dsimp only [Ax, Aa, A2, Af])
    | (show DL _ _ _ _ _ _ _; refine Bx Y Y (fun K kt kf => Am hG Y Y Y Y Y kt kf) (fun h => ?_) (fun h => ?_))
    | (show DL _ _ _ _ _ _ _; refine By Y Y Y ?_) | (show DL _ _ _ _ _ _ _; refine Be ?_; first | show AW _ _ _ _ _ _ | show ∃ x', _ < _ ∧ _) | (show AW _ _ (.region _ _ true) _ _ _; refine A3 mix (by kernel_rfl) ?_; intro O1) | fail)
    exact Bu (Bm rfl Bl) (.nil 1) rfl
  | some l =>
    rw [e] at h hp
    unfold nmT at h
    rw [hp]
    obtain ⟨_, hl6, h64⟩ := hm l e
    simp only [Option.map_some, Option.getD_some]
    clear hm hp e
    refine Br (N := 39) (rs := [.tmp 2]) hG Try.func32 rfl rfl rfl rfl rfl ?_
    repeat' (first
    | ((first | (show AL _ _ _ _ _ _ _ _; refine Ag Y ?_) | (show DL _ _ _ _ _ _ _; refine' A8 Y Y (fun K kk => ?_) ?_; try (show Go.Ts.T; rotate_left))); (first
      | refine Aq hG Y Y ?_
      | refine A5 hG Y Y ?_
      | (show AOp _ _ ⟨_, .call ⟨.builtin .len, _, _⟩, _, _, _, _⟩ _ _ _; first | refine Bh hG Y Y Y Y ?_ | refine Bq hG Y Y Y Y Y ?_)
      | (show AOp _ _ ⟨_, .binOp .or _ _ _ _, _, _, _, _⟩ _ _ _; refine r_orU hG Y Y Y Y (by omega) ?_)
      | (show AOp _ _ ⟨_, .binOp .sub _ _ _ _, _, _, _, _⟩ _ _ _; first | refine Av hG Y Y Y Y (by omega) ?_ | refine Av (m := 1) hG Y Y Y Y (by omega) ?_ | refine Cg (m := 1) hG Y Y Y Y (by omega) ?_ | refine Ab hG Y Y Y Y Y (by omega) ?_)
      | (show AOp _ _ ⟨_, .binOp .shl _ _ _ _, _, _, _, _⟩ _ _ _; refine r_shlU hG Y Y Y Y (by omega) ?_)
      | (show AOp _ _ ⟨_, .binOp .shl _ _ _ _, _, _, _, _⟩ _ _ _; refine r_shl hG Y Y Y Y (by omega) ?_)
      | (show AOp _ _ ⟨_, .binOp _ _ _ _ _, _, _, _, _⟩ _ _ _; first | refine At hG Y Y Y Y Y (by omega) ?_ | refine Au hG Y Y Y Y Y (by omega) ?_ | ((fail_if_success have := kk); refine Am hG Y Y Y Y Y (fun h => ?_) (fun h => ?_)) | refine Bw hG Y Y Y ?_)
      | (show AOp _ _ ⟨_, .load _ _, _, _, _, _⟩ _ _ _; first | refine Ak (α := Nat) 0 hG Y Y Y Y (by omega) Y ?_ | refine Ak (α := Nat) 1 hG Y Y Y Y (by omega) Y ?_ | refine Ay hG Y Y Y ?_ | refine Bg 0 hG Y Y Y Y ?_)
      | (show AOp _ _ ⟨_, .indexAddr _ _ _, _, _, _, _⟩ _ _ _; first | refine A1 hG Y Y Y Y Y Y Y (by omega) ?_ | refine A0 hG Y Y Y Y Y Y Y (by omega) ?_ | refine Az hG Y Y Y Y Y Y Y (by omega) ?_ | refine A9 hG Y Y ?_)
      | (show AOp _ _ ⟨_, .convert _ _ _, _, _, _, _⟩ _ _ _; first | refine r_cv_u64 hG Y Y Y Y Y (by omega) ?_ | refine r_cvw hG Y Y Y Y Y ?_)
      | refine Bs hG Y Y Y ?_
      | (show AOp _ _ ⟨_, .buildSlice _ _ _, _, _, _, _⟩ _ _ _; first | refine r_mk (sz := 1) hG Y Y Y Y Y Y Y ?_)
      | (show AOp _ _ ⟨_, .call ⟨.builtin .append, _, _⟩, _, _, _, _⟩ _ _ _; first | refine Bo (sz := 1) (xs := []) hG Y Y Y Y Y Y Y ⟨_, Y⟩ Y Y Y Y Y Y Y (by first | omega | (simp; omega)) (fun k => ?_) | refine Bp 0 hG Y Y Y Y Y Y Y ⟨_, Y⟩ Y Y Y Y Y (by first | omega | (simp only [List.length_append, List.length_cons, List.length_nil]; omega)) (fun k => ?_) | fail)
      | (show AOp _ _ ⟨_, .call ⟨.value _, _, _⟩, _, _, _, _⟩ _ _ _; first | refine Bn Y Y Y Y Y (by first | (apply h <;> (first | assumption | omega | exact A4 _ _ | exact Bd _ | exact A7 _ _ | exact Bi _ | rfl | (simp; omega))) | fail) ?_ | fail)
      | refine r_q hG Y Y Y ?_); try exact kk)
    | (show AL _ _ _ _ _ _ _ _; first | refine Bk Y Y Y ?_ | (refine Ar ?_; first | show AW _ _ _ _ _ _ | show ∃ x', _ < _ ∧ _)) | (show AW _ _ (.seq _ _) _ _ _; refine Ai ?_; intro Q1) | (show AW _ _ (.region _ _ false) _ _ _; refine Ad ?_; intro O1) | (show AW _ _ (.cond _ _ _) _ _ _; first | refine Ao Y ?_ | refine Ap Y ?_ | refine Ba Y (fun h => ?_) (fun h => ?_)) | (show AW _ _ (.skip) _ _ _; refine Aj ?_; first | show AW _ _ _ _ _ _ | show ∃ x', _ < _ ∧ _) | (show AW _ _ (.block _ _) _ _ _; refine Ae ?_; intro Q1) | (show AW _ _ (.exit _) _ _ _; refine Al ?_; first | show AW _ _ _ _ _ _ | show ∃ x', _ < _ ∧ _) | (show AW _ _ (.ret) _ _ _; refine Aw ?_; try dsimp only [Ax, Aa, A2, Af])
    | (show DL _ _ _ _ _ _ _; refine Bx Y Y (fun K kt kf => Am hG Y Y Y Y Y kt kf) (fun h => ?_) (fun h => ?_))
    | (show DL _ _ _ _ _ _ _; refine By Y Y Y ?_) | (show DL _ _ _ _ _ _ _; refine Be ?_; first | show AW _ _ _ _ _ _ | show ∃ x', _ < _ ∧ _) | (show AW _ _ (.region _ _ true) _ _ _; refine A3 mix (by kernel_rfl) ?_; intro O1) | fail)
    refine aw_tok0 5 1 rfl rfl rfl rfl (fun k0 => ?_)
    refine Ch (X := PaX l) (fun x => [(3, .sl 1 .no (l.map nT)), (5, .sl 1 (.tok x.k) ((pathF (l.drop x.j)).map mT)), (6, .int .i64 (idxE x.j))]) (fun x => ⟨[], [x.k], off, none⟩) (fun x => x.j) ⟨l.length, Nat.le_refl _, k0⟩ ?_ (.refl _) ?_
    · exact .cons rfl (.consW rfl (.eq (by rw [List.drop_length]; rfl)) (.consW rfl (.int (show ((l.length : Nat) : Int) - 1 = idxE l.length by cases l.length with | zero => rfl | succ n => simp [idxE])) (.nil _)))
    rintro ⟨j, hj, k⟩
    dsimp only
    have hlen := pathF_len (l.drop j)
    rw [List.length_drop] at hlen
    cases j with
    | zero =>
      show AW _ _ _ _ [(3, .sl 1 .no (l.map nT)), (5, .sl 1 (.tok k) ((pathF l).map mT)), (6, .int .i64 (-1))] _
      repeat' (first
    | ((first | (show AL _ _ _ _ _ _ _ _; refine Ag Y ?_) | (show DL _ _ _ _ _ _ _; refine' A8 Y Y (fun K kk => ?_) ?_; try (show Go.Ts.T; rotate_left))); (first
      | refine Aq hG Y Y ?_
      | refine A5 hG Y Y ?_
      | (show AOp _ _ ⟨_, .call ⟨.builtin .len, _, _⟩, _, _, _, _⟩ _ _ _; first | refine Bh hG Y Y Y Y ?_ | refine Bq hG Y Y Y Y Y ?_)
      | (show AOp _ _ ⟨_, .binOp .or _ _ _ _, _, _, _, _⟩ _ _ _; refine r_orU hG Y Y Y Y (by omega) ?_)
      | (show AOp _ _ ⟨_, .binOp .sub _ _ _ _, _, _, _, _⟩ _ _ _; first | refine Av hG Y Y Y Y (by omega) ?_ | refine Av (m := 1) hG Y Y Y Y (by omega) ?_ | refine Cg (m := 1) hG Y Y Y Y (by omega) ?_ | refine Ab hG Y Y Y Y Y (by omega) ?_)
      | (show AOp _ _ ⟨_, .binOp .shl _ _ _ _, _, _, _, _⟩ _ _ _; refine r_shlU hG Y Y Y Y (by omega) ?_)
      | (show AOp _ _ ⟨_, .binOp .shl _ _ _ _, _, _, _, _⟩ _ _ _; refine r_shl hG Y Y Y Y (by omega) ?_)
      | (show AOp _ _ ⟨_, .binOp _ _ _ _ _, _, _, _, _⟩ _ _ _; first | refine At hG Y Y Y Y Y (by omega) ?_ | refine Au hG Y Y Y Y Y (by omega) ?_ | ((fail_if_success have := kk); refine Am hG Y Y Y Y Y (fun h => ?_) (fun h => ?_)) | refine Bw hG Y Y Y ?_)
      | (show AOp _ _ ⟨_, .load _ _, _, _, _, _⟩ _ _ _; first | refine Ak (α := Nat) 0 hG Y Y Y Y (by omega) Y ?_ | refine Ak (α := Nat) 1 hG Y Y Y Y (by omega) Y ?_ | refine Ay hG Y Y Y ?_ | refine Bg 0 hG Y Y Y Y ?_)
      | (show AOp _ _ ⟨_, .indexAddr _ _ _, _, _, _, _⟩ _ _ _; first | refine A1 hG Y Y Y Y Y Y Y (by omega) ?_ | refine A0 hG Y Y Y Y Y Y Y (by omega) ?_ | refine Az hG Y Y Y Y Y Y Y (by omega) ?_ | refine A9 hG Y Y ?_)
      | (show AOp _ _ ⟨_, .convert _ _ _, _, _, _, _⟩ _ _ _; first | refine r_cv_u64 hG Y Y Y Y Y (by omega) ?_ | refine r_cvw hG Y Y Y Y Y ?_)
      | refine Bs hG Y Y Y ?_
      | (show AOp _ _ ⟨_, .buildSlice _ _ _, _, _, _, _⟩ _ _ _; first | refine r_mk (sz := 1) hG Y Y Y Y Y Y Y ?_)
      | (show AOp _ _ ⟨_, .call ⟨.builtin .append, _, _⟩, _, _, _, _⟩ _ _ _; first | refine Bo (sz := 1) (xs := []) hG Y Y Y Y Y Y Y ⟨_, Y⟩ Y Y Y Y Y Y Y (by first | omega | (simp; omega)) (fun k => ?_) | refine Bp 0 hG Y Y Y Y Y Y Y ⟨_, Y⟩ Y Y Y Y Y (by first | omega | (simp only [List.length_append, List.length_cons, List.length_nil]; omega)) (fun k => ?_) | fail)
      | refine r_q hG Y Y Y ?_); try exact kk)
    | (show AL _ _ _ _ _ _ _ _; first | refine Bk Y Y Y ?_ | (refine Ar ?_; first | show AW _ _ _ _ _ _ | show ∃ x', _ < _ ∧ _)) | (show AW _ _ (.seq _ _) _ _ _; refine Ai ?_; intro Q1) | (show AW _ _ (.region _ _ false) _ _ _; refine Ad ?_; intro O1) | (show AW _ _ (.cond _ _ _) _ _ _; first | refine Ao Y ?_ | refine Ap Y ?_ | refine Ba Y (fun h => ?_) (fun h => ?_)) | (show AW _ _ (.skip) _ _ _; refine Aj ?_; first | show AW _ _ _ _ _ _ | show ∃ x', _ < _ ∧ _) | (show AW _ _ (.block _ _) _ _ _; refine Ae ?_; intro Q1) | (show AW _ _ (.exit _) _ _ _; refine Al ?_; first | show AW _ _ _ _ _ _ | show ∃ x', _ < _ ∧ _) | (show AW _ _ (.ret) _ _ _; refine Aw ?_; try dsimp only [Ax, Aa, A2, Af])
    | (show DL _ _ _ _ _ _ _; refine Bx Y Y (fun K kt kf => Am hG Y Y Y Y Y kt kf) (fun h => ?_) (fun h => ?_))
    | (show DL _ _ _ _ _ _ _; refine By Y Y Y ?_) | (show DL _ _ _ _ _ _ _; refine Be ?_; first | show AW _ _ _ _ _ _ | show ∃ x', _ < _ ∧ _) | (show AW _ _ (.region _ _ true) _ _ _; refine A3 mix (by kernel_rfl) ?_; intro O1) | fail)
      refine Bu (Bm rfl Bl) (.own _ _ _) ?_; rfl
    | succ j =>
      have hst := drop_path (l := l) (j := j) (by omega)
      have hsm := path_small (l.drop (j + 1)) fun n hn => h64 n (List.drop_subset _ _ hn)
      rw [List.length_drop] at hsm
      generalize pathF (l.drop (j + 1)) = p at *
      have hn64 : l.getD j 0 < 64 := by
        simp only [List.getD, show j < l.length by omega, List.getElem?_eq_getElem, Option.getD_some]
        exact h64 _ (List.getElem_mem _)
      show AW _ _ _ _ [(3, .sl 1 .no (l.map nT)), (5, .sl 1 (.tok k) (p.map mT)), (6, .int .i64 ((j : Nat) : Int))] _
      repeat' (first
    | ((first | (show AL _ _ _ _ _ _ _ _; refine Ag Y ?_) | (show DL _ _ _ _ _ _ _; refine' A8 Y Y (fun K kk => ?_) ?_; try (show Go.Ts.T; rotate_left))); (first
      | refine Aq hG Y Y ?_
      | refine A5 hG Y Y ?_
      | (show AOp _ _ ⟨_, .call ⟨.builtin .len, _, _⟩, _, _, _, _⟩ _ _ _; first | refine Bh hG Y Y Y Y ?_ | refine Bq hG Y Y Y Y Y ?_)
      | (show AOp _ _ ⟨_, .binOp .or _ _ _ _, _, _, _, _⟩ _ _ _; refine r_orU hG Y Y Y Y (by omega) ?_)
      | (show AOp _ _ ⟨_, .binOp .sub _ _ _ _, _, _, _, _⟩ _ _ _; first | refine Av hG Y Y Y Y (by omega) ?_ | refine Av (m := 1) hG Y Y Y Y (by omega) ?_ | refine Cg (m := 1) hG Y Y Y Y (by omega) ?_ | refine Ab hG Y Y Y Y Y (by omega) ?_)
      | (show AOp _ _ ⟨_, .binOp .shl _ _ _ _, _, _, _, _⟩ _ _ _; refine r_shlU hG Y Y Y Y (by omega) ?_)
      | (show AOp _ _ ⟨_, .binOp .shl _ _ _ _, _, _, _, _⟩ _ _ _; refine r_shl hG Y Y Y Y (by omega) ?_)
      | (show AOp _ _ ⟨_, .binOp _ _ _ _ _, _, _, _, _⟩ _ _ _; first | refine At hG Y Y Y Y Y (by omega) ?_ | refine Au hG Y Y Y Y Y (by omega) ?_ | ((fail_if_success have := kk); refine Am hG Y Y Y Y Y (fun h => ?_) (fun h => ?_)) | refine Bw hG Y Y Y ?_)
      | (show AOp _ _ ⟨_, .load _ _, _, _, _, _⟩ _ _ _; first | refine Ak (α := Nat) 0 hG Y Y Y Y (by omega) Y ?_ | refine Ak (α := Nat) 1 hG Y Y Y Y (by omega) Y ?_ | refine Ay hG Y Y Y ?_ | refine Bg 0 hG Y Y Y Y ?_)
      | (show AOp _ _ ⟨_, .indexAddr _ _ _, _, _, _, _⟩ _ _ _; first | refine A1 hG Y Y Y Y Y Y Y (by omega) ?_ | refine A0 hG Y Y Y Y Y Y Y (by omega) ?_ | refine Az hG Y Y Y Y Y Y Y (by omega) ?_ | refine A9 hG Y Y ?_)
      | (show AOp _ _ ⟨_, .convert _ _ _, _, _, _, _⟩ _ _ _; first | refine r_cv_u64 hG Y Y Y Y Y (by omega) ?_ | refine r_cvw hG Y Y Y Y Y ?_)
      | refine Bs hG Y Y Y ?_
      | (show AOp _ _ ⟨_, .buildSlice _ _ _, _, _, _, _⟩ _ _ _; first | refine r_mk (sz := 1) hG Y Y Y Y Y Y Y ?_)
      | (show AOp _ _ ⟨_, .call ⟨.builtin .append, _, _⟩, _, _, _, _⟩ _ _ _; first | refine Bo (sz := 1) (xs := []) hG Y Y Y Y Y Y Y ⟨_, Y⟩ Y Y Y Y Y Y Y (by first | omega | (simp; omega)) (fun k => ?_) | refine Bp 0 hG Y Y Y Y Y Y Y ⟨_, Y⟩ Y Y Y Y Y (by first | omega | (simp only [List.length_append, List.length_cons, List.length_nil]; omega)) (fun k => ?_) | fail)
      | refine r_q hG Y Y Y ?_); try exact kk)
    | (show AL _ _ _ _ _ _ _ _; first | refine Bk Y Y Y ?_ | (refine Ar ?_; first | show AW _ _ _ _ _ _ | show ∃ x', _ < _ ∧ _)) | (show AW _ _ (.seq _ _) _ _ _; refine Ai ?_; intro Q1) | (show AW _ _ (.region _ _ false) _ _ _; (fail_if_success show AW _ _ (.region 8 _ _) _ _ _); refine Ad ?_; intro O1) | (show AW _ _ (.cond _ _ _) _ _ _; first | refine Ao Y ?_ | refine Ap Y ?_ | refine Ba Y (fun h => ?_) (fun h => ?_)) | (show AW _ _ (.skip) _ _ _; refine Aj ?_; first | show AW _ _ _ _ _ _ | show ∃ x', _ < _ ∧ _) | (show AW _ _ (.block _ _) _ _ _; refine Ae ?_; intro Q1) | (show AW _ _ (.exit _) _ _ _; refine Al ?_; first | show AW _ _ _ _ _ _ | show ∃ x', _ < _ ∧ _) | (show AW _ _ (.ret) _ _ _; refine Aw ?_; try dsimp only [Ax, Aa, A2, Af])
    | (show DL _ _ _ _ _ _ _; refine Bx Y Y (fun K kt kf => Am hG Y Y Y Y Y kt kf) (fun h => ?_) (fun h => ?_))
    | (show DL _ _ _ _ _ _ _; refine By Y Y Y ?_) | (show DL _ _ _ _ _ _ _; refine Be ?_; first | show AW _ _ _ _ _ _ | show ∃ x', _ < _ ∧ _) | (show AW _ _ (.region _ _ true) _ _ _; (fail_if_success show AW _ _ (.region 8 _ _) _ _ _); refine A3 mix (by kernel_rfl) ?_; intro O1) | fail)
      have hgd : p.getD (p.length - 1) default = p.getLastD 0 := by
        rw [List.getD_eq_getElem?_getD, ← List.getLast?_eq_getElem?]
        cases p <;> simp at hlen ⊢
      have hgl : l.getD j default < 64 := hn64
      have hv : p.getLastD 0 < 4398046511104 := Nat.lt_of_lt_of_le hsm (by
        refine Nat.le_trans (Nat.pow_le_pow_right (by omega) (show l.length - (j + 1) + 1 ≤ 7 by omega)) (by decide))
      have hfin : (p.getD (p.length - 1) default * 2 ^ Int.toNat 6 % 18446744073709551616) ||| l.getD j default = p.getLastD 0 * 64 + l.getD j 0 := by
        rw [hgd, show 2 ^ Int.toNat 6 = 64 from rfl, show p.getLastD 0 * 64 % 18446744073709551616 = p.getLastD 0 * 64 by omega]
        have := Nat.two_pow_add_eq_or_of_lt (i := 6) (b := l.getD j 0) hn64 (p.getLastD 0)
        rw [show 2 ^ 6 * p.getLastD 0 = p.getLastD 0 * 64 by omega] at this
        exact this.symm
      refine aw_drawE' (m := 16) [15] (fun σ => ∃ R, σ = ⟨[], R, off, none⟩) mix rfl (by repeat (first | exact Sp.zero _ | apply Sp.succ)) ?_; intro O1 F1 Z1 Q2
      repeat' (first
    | (refine' dq_cons Y Y Y (fun σ hσ K kk => ?_) ?_; (try (show Go.Ts.T; rotate_left)); (obtain ⟨R, rfl⟩ := hσ); (first
      | refine Aq hG Y Y ?_
      | refine A5 hG Y Y ?_
      | (show AOp _ _ ⟨_, .call ⟨.builtin .len, _, _⟩, _, _, _, _⟩ _ _ _; first | refine Bh hG Y Y Y Y ?_ | refine Bq hG Y Y Y Y Y ?_)
      | (show AOp _ _ ⟨_, .binOp .or _ _ _ _, _, _, _, _⟩ _ _ _; refine r_orU hG Y Y Y Y (by omega) ?_)
      | (show AOp _ _ ⟨_, .binOp .sub _ _ _ _, _, _, _, _⟩ _ _ _; first | refine Av hG Y Y Y Y (by omega) ?_ | refine Av (m := 1) hG Y Y Y Y (by omega) ?_ | refine Cg (m := 1) hG Y Y Y Y (by omega) ?_ | refine Ab hG Y Y Y Y Y (by omega) ?_)
      | (show AOp _ _ ⟨_, .binOp .shl _ _ _ _, _, _, _, _⟩ _ _ _; refine r_shlU hG Y Y Y Y (by omega) ?_)
      | (show AOp _ _ ⟨_, .binOp .shl _ _ _ _, _, _, _, _⟩ _ _ _; refine r_shl hG Y Y Y Y (by omega) ?_)
      | (show AOp _ _ ⟨_, .binOp _ _ _ _ _, _, _, _, _⟩ _ _ _; first | refine At hG Y Y Y Y Y (by omega) ?_ | refine Au hG Y Y Y Y Y (by omega) ?_ | refine Bw hG Y Y Y ?_)
      | (show AOp _ _ ⟨_, .load _ _, _, _, _, _⟩ _ _ _; first | refine Ak (α := Nat) 0 hG Y Y Y Y (by omega) Y ?_ | refine Ak (α := Nat) 1 hG Y Y Y Y (by omega) Y ?_ | refine Ay hG Y Y Y ?_ | refine Bg 0 hG Y Y Y Y ?_)
      | (show AOp _ _ ⟨_, .indexAddr _ _ _, _, _, _, _⟩ _ _ _; first | refine A1 hG Y Y Y Y Y Y Y (by omega) ?_ | refine A0 hG Y Y Y Y Y Y Y (by omega) ?_ | refine Az hG Y Y Y Y Y Y Y (by omega) ?_ | refine A9 hG Y Y ?_)
      | (show AOp _ _ ⟨_, .convert _ _ _, _, _, _, _⟩ _ _ _; first | refine r_cv_u64 hG Y Y Y Y Y (by omega) ?_ | refine r_cvw hG Y Y Y Y Y ?_)
      | refine Bs hG Y Y Y ?_
      | (show AOp _ _ ⟨_, .buildSlice _ _ _, _, _, _, _⟩ _ _ _; first | refine r_mk (sz := 1) hG Y Y Y Y Y Y Y ?_)
      | (show AOp _ _ ⟨_, .call ⟨.builtin .append, _, _⟩, _, _, _, _⟩ _ _ _; first | refine Bp 0 (ys := [(p.getD (p.length - 1) default * 2 ^ Int.toNat 6 % 18446744073709551616) ||| l.getD j default]) hG Y Y Y Y Y Y Y ⟨_, Y⟩ Y Y Y Y Y (by simp only [List.length_append, List.length_map, List.length_cons, List.length_nil]; omega) (fun k => ?_) | refine Bo (sz := 1) (xs := []) hG Y Y Y Y Y Y Y ⟨_, Y⟩ Y Y Y Y Y Y Y (by first | omega | (simp; omega)) (fun k => ?_) | refine Bp 0 hG Y Y Y Y Y Y Y ⟨_, Y⟩ Y Y Y Y Y (by first | omega | (simp only [List.length_append, List.length_cons, List.length_nil]; omega)) (fun k => ?_) | fail)
      | refine r_q hG Y Y Y ?_); exact kk)
    | refine dq_d Y Y Y (fun σ hσ K kt kf => by obtain ⟨R, rfl⟩ := hσ; exact Am hG Y Y Y Y Y kt kf) (fun h => ?_) (fun h => ?_)
    | refine dq_d Y Y Y (fun σ hσ K kt kf => by obtain ⟨R, rfl⟩ := hσ; exact r_str hG Y Y Y Y kt kf) (fun h => ?_) (fun h => ?_)
    | refine dq_s Y Y Y Y ?_ | refine dq_e Y ?_ | (refine dq_nil ?_; show EL _ _ _ _ _ _ _ _ _) | refine el_s ⟨_, Y⟩ Y Y Y Y ?_
    | ((first | refine el_cons ⟨_, Y⟩ Y Y Y (fun K ke => ?_) | refine Cf ⟨_, Y⟩ Y Y Y (fun K ke => ?_)); (first
      | refine Aq hG Y Y ?_
      | refine A5 hG Y Y ?_
      | (show AOp _ _ ⟨_, .call ⟨.builtin .len, _, _⟩, _, _, _, _⟩ _ _ _; first | refine Bh hG Y Y Y Y ?_ | refine Bq hG Y Y Y Y Y ?_)
      | (show AOp _ _ ⟨_, .binOp .or _ _ _ _, _, _, _, _⟩ _ _ _; refine r_orU hG Y Y Y Y (by omega) ?_)
      | (show AOp _ _ ⟨_, .binOp .sub _ _ _ _, _, _, _, _⟩ _ _ _; first | refine Av hG Y Y Y Y (by omega) ?_ | refine Av (m := 1) hG Y Y Y Y (by omega) ?_ | refine Cg (m := 1) hG Y Y Y Y (by omega) ?_ | refine Ab hG Y Y Y Y Y (by omega) ?_)
      | (show AOp _ _ ⟨_, .binOp .shl _ _ _ _, _, _, _, _⟩ _ _ _; refine r_shlU hG Y Y Y Y (by omega) ?_)
      | (show AOp _ _ ⟨_, .binOp .shl _ _ _ _, _, _, _, _⟩ _ _ _; refine r_shl hG Y Y Y Y (by omega) ?_)
      | (show AOp _ _ ⟨_, .binOp _ _ _ _ _, _, _, _, _⟩ _ _ _; first | refine At hG Y Y Y Y Y (by omega) ?_ | refine Au hG Y Y Y Y Y (by omega) ?_ | refine Bw hG Y Y Y ?_)
      | (show AOp _ _ ⟨_, .load _ _, _, _, _, _⟩ _ _ _; first | refine Ak (α := Nat) 0 hG Y Y Y Y (by omega) Y ?_ | refine Ak (α := Nat) 1 hG Y Y Y Y (by omega) Y ?_ | refine Ay hG Y Y Y ?_ | refine Bg 0 hG Y Y Y Y ?_)
      | (show AOp _ _ ⟨_, .indexAddr _ _ _, _, _, _, _⟩ _ _ _; first | refine A1 hG Y Y Y Y Y Y Y (by omega) ?_ | refine A0 hG Y Y Y Y Y Y Y (by omega) ?_ | refine Az hG Y Y Y Y Y Y Y (by omega) ?_ | refine A9 hG Y Y ?_)
      | (show AOp _ _ ⟨_, .convert _ _ _, _, _, _, _⟩ _ _ _; first | refine r_cv_u64 hG Y Y Y Y Y (by omega) ?_ | refine r_cvw hG Y Y Y Y Y ?_)
      | refine Bs hG Y Y Y ?_
      | (show AOp _ _ ⟨_, .buildSlice _ _ _, _, _, _, _⟩ _ _ _; first | refine r_mk (sz := 1) hG Y Y Y Y Y Y Y ?_)
      | (show AOp _ _ ⟨_, .call ⟨.builtin .append, _, _⟩, _, _, _, _⟩ _ _ _; first | refine Bp 0 (ys := [(p.getD (p.length - 1) default * 2 ^ Int.toNat 6 % 18446744073709551616) ||| l.getD j default]) hG Y Y Y Y Y Y Y ⟨_, Y⟩ Y Y Y Y Y (by simp only [List.length_append, List.length_map, List.length_cons, List.length_nil]; omega) (fun k => ?_) | refine Bo (sz := 1) (xs := []) hG Y Y Y Y Y Y Y ⟨_, Y⟩ Y Y Y Y Y Y Y (by first | omega | (simp; omega)) (fun k => ?_) | refine Bp 0 hG Y Y Y Y Y Y Y ⟨_, Y⟩ Y Y Y Y Y (by first | omega | (simp only [List.length_append, List.length_cons, List.length_nil]; omega)) (fun k => ?_) | fail)
      | refine r_q hG Y Y Y ?_); refine ke _ _ ?_)
    | (refine el_nil ⟨_, Y⟩ ?_; show AL _ _ _ _ _ _ _ _) | fail)
      repeat' (first
    | ((first | (show AL _ _ _ _ _ _ _ _; refine Ag Y ?_) | (show DL _ _ _ _ _ _ _; refine' A8 Y Y (fun K kk => ?_) ?_; try (show Go.Ts.T; rotate_left))); (first
      | refine Aq hG Y Y ?_
      | refine A5 hG Y Y ?_
      | (show AOp _ _ ⟨_, .call ⟨.builtin .len, _, _⟩, _, _, _, _⟩ _ _ _; first | refine Bh hG Y Y Y Y ?_ | refine Bq hG Y Y Y Y Y ?_)
      | (show AOp _ _ ⟨_, .binOp .or _ _ _ _, _, _, _, _⟩ _ _ _; refine r_orU hG Y Y Y Y (by omega) ?_)
      | (show AOp _ _ ⟨_, .binOp .sub _ _ _ _, _, _, _, _⟩ _ _ _; first | refine Av hG Y Y Y Y (by omega) ?_ | refine Av (m := 1) hG Y Y Y Y (by omega) ?_ | refine Cg (m := 1) hG Y Y Y Y (by omega) ?_ | refine Ab hG Y Y Y Y Y (by omega) ?_)
      | (show AOp _ _ ⟨_, .binOp .shl _ _ _ _, _, _, _, _⟩ _ _ _; refine r_shlU hG Y Y Y Y (by omega) ?_)
      | (show AOp _ _ ⟨_, .binOp .shl _ _ _ _, _, _, _, _⟩ _ _ _; refine r_shl hG Y Y Y Y (by omega) ?_)
      | (show AOp _ _ ⟨_, .binOp _ _ _ _ _, _, _, _, _⟩ _ _ _; first | refine At hG Y Y Y Y Y (by omega) ?_ | refine Au hG Y Y Y Y Y (by omega) ?_ | ((fail_if_success have := kk); refine Am hG Y Y Y Y Y (fun h => ?_) (fun h => ?_)) | refine Bw hG Y Y Y ?_)
      | (show AOp _ _ ⟨_, .load _ _, _, _, _, _⟩ _ _ _; first | refine Ak (α := Nat) 0 hG Y Y Y Y (by omega) Y ?_ | refine Ak (α := Nat) 1 hG Y Y Y Y (by omega) Y ?_ | refine Ay hG Y Y Y ?_ | refine Bg 0 hG Y Y Y Y ?_)
      | (show AOp _ _ ⟨_, .indexAddr _ _ _, _, _, _, _⟩ _ _ _; first | refine A1 hG Y Y Y Y Y Y Y (by omega) ?_ | refine A0 hG Y Y Y Y Y Y Y (by omega) ?_ | refine Az hG Y Y Y Y Y Y Y (by omega) ?_ | refine A9 hG Y Y ?_)
      | (show AOp _ _ ⟨_, .convert _ _ _, _, _, _, _⟩ _ _ _; first | refine r_cv_u64 hG Y Y Y Y Y (by omega) ?_ | refine r_cvw hG Y Y Y Y Y ?_)
      | refine Bs hG Y Y Y ?_
      | (show AOp _ _ ⟨_, .buildSlice _ _ _, _, _, _, _⟩ _ _ _; first | refine r_mk (sz := 1) hG Y Y Y Y Y Y Y ?_)
      | (show AOp _ _ ⟨_, .call ⟨.builtin .append, _, _⟩, _, _, _, _⟩ _ _ _; first | refine Bo (sz := 1) (xs := []) hG Y Y Y Y Y Y Y ⟨_, Y⟩ Y Y Y Y Y Y Y (by first | omega | (simp; omega)) (fun k => ?_) | refine Bp 0 hG Y Y Y Y Y Y Y ⟨_, Y⟩ Y Y Y Y Y (by first | omega | (simp only [List.length_append, List.length_cons, List.length_nil]; omega)) (fun k => ?_) | fail)
      | refine r_q hG Y Y Y ?_); try exact kk)
    | (show AL _ _ _ _ _ _ _ _; first | refine Bk Y Y Y ?_ | (refine Ar ?_; first | show AW _ _ _ _ _ _ | show ∃ x', _ < _ ∧ _)) | (show AW _ _ (.seq _ _) _ _ _; refine Ai ?_; intro Q1) | (show AW _ _ (.region _ _ false) _ _ _; refine Ad ?_; intro O1) | (show AW _ _ (.cond _ _ _) _ _ _; first | refine Ao Y ?_ | refine Ap Y ?_ | refine Ba Y (fun h => ?_) (fun h => ?_)) | (show AW _ _ (.skip) _ _ _; refine Aj ?_; first | show AW _ _ _ _ _ _ | show ∃ x', _ < _ ∧ _) | (show AW _ _ (.block _ _) _ _ _; refine Ae ?_; intro Q1) | (show AW _ _ (.exit _) _ _ _; refine Al ?_; first | show AW _ _ _ _ _ _ | show ∃ x', _ < _ ∧ _) | (show AW _ _ (.ret) _ _ _; refine Aw ?_; try dsimp only [Ax, Aa, A2, Af])
    | (show DL _ _ _ _ _ _ _; refine Bx Y Y (fun K kt kf => Am hG Y Y Y Y Y kt kf) (fun h => ?_) (fun h => ?_))
    | (show DL _ _ _ _ _ _ _; refine By Y Y Y ?_) | (show DL _ _ _ _ _ _ _; refine Be ?_; first | show AW _ _ _ _ _ _ | show ∃ x', _ < _ ∧ _) | (show AW _ _ (.region _ _ true) _ _ _; refine A3 mix (by kernel_rfl) ?_; intro O1) | fail)
      exact ⟨⟨j, by omega, _⟩, by dsimp only; omega, .cons rfl (.consW rfl (.eq (by rw [hst, hfin])) (.consW rfl (.int (by cases j <;> simp [idxE])) (.nil _))), .refl _⟩
end Go.Proofs.Ytmckbfdklcmogaa
namespace Go.Proofs.Ytmckbfdklcmogaa
open Go.Ts
set_option linter.unusedSimpArgs false
set_option linter.unusedVariables false
attribute [local irreducible] Go.Ts.AW Go.Ts.AOps Go.Ts.AL Go.Ts.AOp Go.Ts.ACalls Go.Ts.DL Go.Ts.DQ0 Go.Ts.EL
def idsT : T → Option (List Nat)
  | .nilsl => some []
  | .sl 1 _ xs => xs.mapM fun x => match x with
    | .int .u64 n => cond (decide (0 ≤ n)) (some n.toNat) none
    | _ => none
  | _ => none
theorem idsT_map (own : Own) (l : List Nat) : idsT (.sl 1 own (l.map mT)) = some l := by
  unfold idsT
  induction l with
  | nil => rfl
  | cons x l ih => simp only [List.map_cons, List.mapM_cons] at ih ⊢; simp [mT] at ih ⊢; simp [mT, ih]
theorem idsT_wk {x : T} {l : List Nat} (h : idsT x = some l) : Wk x (.sl 1 .no (l.map mT)) := by
  unfold idsT at h
  split at h
  · injection h with h; subst h; exact .nil 1
  · rename_i own xs
    have e : xs = l.map mT := by
      induction xs generalizing l with
      | nil => simp at h; subst h; rfl
      | cons x xs ih =>
        rw [List.mapM_cons] at h
        cases x with
        | int k n =>
          cases k with
          | u64 =>
            by_cases hn : 0 ≤ n
            · simp only [hn, decide_true, cond_true] at h
              cases hm : (xs.mapM fun x => match x with
                | .int .u64 n => cond (decide (0 ≤ n)) (some n.toNat) none
                | _ => none) with
              | none => rw [hm] at h; simp at h
              | some l' =>
                rw [hm] at h
                simp at h; subst h
                rw [List.map_cons, ← ih hm]
                congr 1
                unfold mT; congr 1; omega
            · simp [hn] at h
          | _ => simp at h
        | _ => simp at h
    rw [e]; exact .own _ _ _
  · cases h
def ixR (v : Nat) : List Nat → Nat → Int
  | [], _ => -1
  | x :: l, i => if x = v then (i : Int) else ixR v l (i + 1)
theorem ixR_mem (v : Nat) : ∀ (l : List Nat) (i : Nat), decide (0 ≤ ixR v l i) = decide (v ∈ l)
  | [], i => by simp [ixR]
  | x :: l, i => by
    rw [ixR]
    by_cases h : x = v
    · subst h; simp
    · rw [if_neg h, ixR_mem v l (i + 1)]
      simp [Ne.symm h]
structure IxX (l : List Nat) (v : Nat) (R : Int) where
  i : Nat
  hi : i ≤ l.length
  e : ixR v (l.drop i) i = R
theorem srt_Index {x : T} {l : List Nat} {v : Nat} (hx : idsT x = some l) (hl : l.length ≤ 4294967296) : Ts.Pure Try.prog 28 [x, mT v] (.int .i64 (ixR v l 0)) := by
  refine Pure.weak (us := [.sl 1 .no (l.map mT), mT v]) ?_ (wk2 (idsT_wk hx) (.refl _))
  obtain ⟨R, hR⟩ : ∃ R, ixR v l 0 = R := ⟨_, rfl⟩
  rw [hR]
  intro off
  refine Br (N := 19) (rs := [.tmp 4]) hG Try.func28 rfl rfl rfl rfl rfl ?_
  repeat' (first
    | ((show AL _ _ _ _ _ _ _ _; refine Ag Y ?_); (first
      | refine Aq hG Y Y ?_
      | refine A5 hG Y Y ?_
      | (show AOp _ _ ⟨_, .call ⟨.builtin .len, _, _⟩, _, _, _, _⟩ _ _ _; first | refine Bh hG Y Y Y Y ?_ | refine Bq hG Y Y Y Y Y ?_)
      | (show AOp _ _ ⟨_, .binOp .add _ _ _ _, _, _, _, _⟩ _ _ _; first | refine Ac hG Y Y Y Y Y (by omega) ?_ | refine Ac (m := 1) hG Y Y Y Y Y (by omega) ?_ | refine Ab hG Y Y Y Y Y (by omega) ?_)
      | (show AOp _ _ ⟨_, .binOp _ _ _ _ _, _, _, _, _⟩ _ _ _; first | refine At hG Y Y Y Y Y (by omega) ?_ | refine Au hG Y Y Y Y Y (by omega) ?_ | (refine Am hG Y Y Y Y Y (fun h => ?_) (fun h => ?_)))
      | (show AOp _ _ ⟨_, .load _ _, _, _, _, _⟩ _ _ _; first | refine Ak (α := UInt16) 0 hG Y Y Y Y (by omega) Y ?_ | refine Ak (α := UInt16) 1 hG Y Y Y Y (by omega) Y ?_ | refine Ay hG Y Y Y ?_ | refine Bg 0 hG Y Y Y Y ?_)
      | (show AOp _ _ ⟨_, .indexAddr _ _ _, _, _, _, _⟩ _ _ _; first | refine A1 hG Y Y Y Y Y Y Y (by omega) ?_ | refine A0 hG Y Y Y Y Y Y Y (by omega) ?_ | refine Az hG Y Y Y Y Y Y Y (by omega) ?_ | refine A9 hG Y Y ?_)
      | refine r_q hG Y Y Y ?_))
    | (show AL _ _ _ _ _ _ _ _; first | refine Bk Y Y Y ?_ | (refine Ar ?_; first | show AW _ _ _ _ _ _ | show ∃ x', _ < _ ∧ _)) | (show AW _ _ (.seq _ _) _ _ _; refine Ai ?_; intro Q1) | (show AW _ _ (.region _ _ false) _ _ _; refine Ad ?_; intro O1) | (show AW _ _ (.cond _ _ _) _ _ _; first | refine Ao Y ?_ | refine Ap Y ?_ | refine Ba Y (fun h => ?_) (fun h => ?_)) | (show AW _ _ (.skip) _ _ _; refine Aj ?_; first | show AW _ _ _ _ _ _ | show ∃ x', _ < _ ∧ _) | (show AW _ _ (.block _ _) _ _ _; refine Ae ?_; intro Q1) | (show AW _ _ (.exit _) _ _ _; refine Al ?_; first | show AW _ _ _ _ _ _ | show ∃ x', _ < _ ∧ _) | (show AW _ _ (.ret) _ _ _; refine Aw ?_; try dsimp only [Ax, Aa, A2, Af]) | fail)
  refine Ch (X := IxX l v R) (fun x => [(0, .sl 1 .no (l.map mT)), (1, mT v), (7, .int .i64 (l.length : Int)), (8, .int .i64 (x.i : Int))]) (fun x => ⟨[], [], off, none⟩) (fun x => l.length - x.i) ⟨0, Nat.zero_le _, hR⟩ (by repeat (first | exact .nil _ | refine .cons rfl ?_)) (.refl _) ?_
  clear hR
  rintro ⟨i, hi, e⟩
  dsimp only
  by_cases hil : i < l.length
  · rw [List.drop_eq_getElem_cons hil, ixR] at e
    have hg : l.getD i default = l[i] := by simp [List.getD, hil]
    by_cases he : l[i] = v
    · rw [if_pos he] at e
      have he2 : ((v : Nat) : Int) = ((l.getD i default : Nat) : Int) := by rw [hg, he]
      repeat' (first
    | ((show AL _ _ _ _ _ _ _ _; refine Ag Y ?_); (first
      | refine Aq hG Y Y ?_
      | refine A5 hG Y Y ?_
      | (show AOp _ _ ⟨_, .call ⟨.builtin .len, _, _⟩, _, _, _, _⟩ _ _ _; first | refine Bh hG Y Y Y Y ?_ | refine Bq hG Y Y Y Y Y ?_)
      | (show AOp _ _ ⟨_, .binOp .add _ _ _ _, _, _, _, _⟩ _ _ _; first | refine Ac hG Y Y Y Y Y (by omega) ?_ | refine Ac (m := 1) hG Y Y Y Y Y (by omega) ?_ | refine Ab hG Y Y Y Y Y (by omega) ?_)
      | (show AOp _ _ ⟨_, .binOp _ _ _ _ _, _, _, _, _⟩ _ _ _; first | refine At hG Y Y Y Y Y (by omega) ?_ | refine Au hG Y Y Y Y Y (by omega) ?_ | (refine Am hG Y Y Y Y Y (fun h => ?_) (fun h => ?_)))
      | (show AOp _ _ ⟨_, .load _ _, _, _, _, _⟩ _ _ _; first | refine Ak (α := UInt16) 0 hG Y Y Y Y (by omega) Y ?_ | refine Ak (α := UInt16) 1 hG Y Y Y Y (by omega) Y ?_ | refine Ay hG Y Y Y ?_ | refine Bg 0 hG Y Y Y Y ?_)
      | (show AOp _ _ ⟨_, .indexAddr _ _ _, _, _, _, _⟩ _ _ _; first | refine A1 hG Y Y Y Y Y Y Y (by omega) ?_ | refine A0 hG Y Y Y Y Y Y Y (by omega) ?_ | refine Az hG Y Y Y Y Y Y Y (by omega) ?_ | refine A9 hG Y Y ?_)
      | refine r_q hG Y Y Y ?_))
    | (show AL _ _ _ _ _ _ _ _; first | refine Bk Y Y Y ?_ | (refine Ar ?_; first | show AW _ _ _ _ _ _ | show ∃ x', _ < _ ∧ _)) | (show AW _ _ (.seq _ _) _ _ _; refine Ai ?_; intro Q1) | (show AW _ _ (.region _ _ false) _ _ _; refine Ad ?_; intro O1) | (show AW _ _ (.cond _ _ _) _ _ _; first | refine Ao Y ?_ | refine Ap Y ?_ | refine Ba Y (fun h => ?_) (fun h => ?_)) | (show AW _ _ (.skip) _ _ _; refine Aj ?_; first | show AW _ _ _ _ _ _ | show ∃ x', _ < _ ∧ _) | (show AW _ _ (.block _ _) _ _ _; refine Ae ?_; intro Q1) | (show AW _ _ (.exit _) _ _ _; refine Al ?_; first | show AW _ _ _ _ _ _ | show ∃ x', _ < _ ∧ _) | (show AW _ _ (.ret) _ _ _; refine Aw ?_; try dsimp only [Ax, Aa, A2, Af]) | fail)
      refine Bu (Bm rfl Bl) (.int ?_) ?_
      · exact e
      · rfl
    · rw [if_neg he] at e
      have he2 : ¬ ((v : Nat) : Int) = ((l.getD i default : Nat) : Int) := by rw [hg]; omega
      repeat' (first
    | ((show AL _ _ _ _ _ _ _ _; refine Ag Y ?_); (first
      | refine Aq hG Y Y ?_
      | refine A5 hG Y Y ?_
      | (show AOp _ _ ⟨_, .call ⟨.builtin .len, _, _⟩, _, _, _, _⟩ _ _ _; first | refine Bh hG Y Y Y Y ?_ | refine Bq hG Y Y Y Y Y ?_)
      | (show AOp _ _ ⟨_, .binOp .add _ _ _ _, _, _, _, _⟩ _ _ _; first | refine Ac hG Y Y Y Y Y (by omega) ?_ | refine Ac (m := 1) hG Y Y Y Y Y (by omega) ?_ | refine Ab hG Y Y Y Y Y (by omega) ?_)
      | (show AOp _ _ ⟨_, .binOp _ _ _ _ _, _, _, _, _⟩ _ _ _; first | refine At hG Y Y Y Y Y (by omega) ?_ | refine Au hG Y Y Y Y Y (by omega) ?_ | (refine Am hG Y Y Y Y Y (fun h => ?_) (fun h => ?_)))
      | (show AOp _ _ ⟨_, .load _ _, _, _, _, _⟩ _ _ _; first | refine Ak (α := UInt16) 0 hG Y Y Y Y (by omega) Y ?_ | refine Ak (α := UInt16) 1 hG Y Y Y Y (by omega) Y ?_ | refine Ay hG Y Y Y ?_ | refine Bg 0 hG Y Y Y Y ?_)
      | (show AOp _ _ ⟨_, .indexAddr _ _ _, _, _, _, _⟩ _ _ _; first | refine A1 hG Y Y Y Y Y Y Y (by omega) ?_ | refine A0 hG Y Y Y Y Y Y Y (by omega) ?_ | refine Az hG Y Y Y Y Y Y Y (by omega) ?_ | refine A9 hG Y Y ?_)
      | refine r_q hG Y Y Y ?_))
    | (show AL _ _ _ _ _ _ _ _; first | refine Bk Y Y Y ?_ | (refine Ar ?_; first | show AW _ _ _ _ _ _ | show ∃ x', _ < _ ∧ _)) | (show AW _ _ (.seq _ _) _ _ _; refine Ai ?_; intro Q1) | (show AW _ _ (.region _ _ false) _ _ _; refine Ad ?_; intro O1) | (show AW _ _ (.cond _ _ _) _ _ _; first | refine Ao Y ?_ | refine Ap Y ?_ | refine Ba Y (fun h => ?_) (fun h => ?_)) | (show AW _ _ (.skip) _ _ _; refine Aj ?_; first | show AW _ _ _ _ _ _ | show ∃ x', _ < _ ∧ _) | (show AW _ _ (.block _ _) _ _ _; refine Ae ?_; intro Q1) | (show AW _ _ (.exit _) _ _ _; refine Al ?_; first | show AW _ _ _ _ _ _ | show ∃ x', _ < _ ∧ _) | (show AW _ _ (.ret) _ _ _; refine Aw ?_; try dsimp only [Ax, Aa, A2, Af]) | fail)
      exact ⟨⟨i + 1, by omega, e⟩, by dsimp only; omega, (by repeat (first | exact .nil _ | refine .cons rfl ?_)), .refl _⟩
  · rw [List.drop_eq_nil_of_le (by omega)] at e
    repeat' (first
    | ((show AL _ _ _ _ _ _ _ _; refine Ag Y ?_); (first
      | refine Aq hG Y Y ?_
      | refine A5 hG Y Y ?_
      | (show AOp _ _ ⟨_, .call ⟨.builtin .len, _, _⟩, _, _, _, _⟩ _ _ _; first | refine Bh hG Y Y Y Y ?_ | refine Bq hG Y Y Y Y Y ?_)
      | (show AOp _ _ ⟨_, .binOp .add _ _ _ _, _, _, _, _⟩ _ _ _; first | refine Ac hG Y Y Y Y Y (by omega) ?_ | refine Ac (m := 1) hG Y Y Y Y Y (by omega) ?_ | refine Ab hG Y Y Y Y Y (by omega) ?_)
      | (show AOp _ _ ⟨_, .binOp _ _ _ _ _, _, _, _, _⟩ _ _ _; first | refine At hG Y Y Y Y Y (by omega) ?_ | refine Au hG Y Y Y Y Y (by omega) ?_ | (refine Am hG Y Y Y Y Y (fun h => ?_) (fun h => ?_)))
      | (show AOp _ _ ⟨_, .load _ _, _, _, _, _⟩ _ _ _; first | refine Ak (α := UInt16) 0 hG Y Y Y Y (by omega) Y ?_ | refine Ak (α := UInt16) 1 hG Y Y Y Y (by omega) Y ?_ | refine Ay hG Y Y Y ?_ | refine Bg 0 hG Y Y Y Y ?_)
      | (show AOp _ _ ⟨_, .indexAddr _ _ _, _, _, _, _⟩ _ _ _; first | refine A1 hG Y Y Y Y Y Y Y (by omega) ?_ | refine A0 hG Y Y Y Y Y Y Y (by omega) ?_ | refine Az hG Y Y Y Y Y Y Y (by omega) ?_ | refine A9 hG Y Y ?_)
      | refine r_q hG Y Y Y ?_))
    | (show AL _ _ _ _ _ _ _ _; first | refine Bk Y Y Y ?_ | (refine Ar ?_; first | show AW _ _ _ _ _ _ | show ∃ x', _ < _ ∧ _)) | (show AW _ _ (.seq _ _) _ _ _; refine Ai ?_; intro Q1) | (show AW _ _ (.region _ _ false) _ _ _; refine Ad ?_; intro O1) | (show AW _ _ (.cond _ _ _) _ _ _; first | refine Ao Y ?_ | refine Ap Y ?_ | refine Ba Y (fun h => ?_) (fun h => ?_)) | (show AW _ _ (.skip) _ _ _; refine Aj ?_; first | show AW _ _ _ _ _ _ | show ∃ x', _ < _ ∧ _) | (show AW _ _ (.block _ _) _ _ _; refine Ae ?_; intro Q1) | (show AW _ _ (.exit _) _ _ _; refine Al ?_; first | show AW _ _ _ _ _ _ | show ∃ x', _ < _ ∧ _) | (show AW _ _ (.ret) _ _ _; refine Aw ?_; try dsimp only [Ax, Aa, A2, Af]) | fail)
    refine Bu (Bm rfl Bl) (.int ?_) ?_
    · exact e
    · rfl
theorem srt_Contains {x : T} {l : List Nat} {v : Nat} (hx : idsT x = some l) (hl : l.length ≤ 4294967296) : Ts.Pure Try.prog 18 [x, mT v] (.bool (decide (v ∈ l))) := by
  refine Pure.weak (us := [.sl 1 .no (l.map mT), mT v]) ?_ (wk2 (idsT_wk hx) (.refl _))
  have h := srt_Index (v := v) (idsT_map .no l) hl
  have hm := ixR_mem v l 0
  generalize ixR v l 0 = R at *
  intro off
  by_cases h0 : 0 ≤ R
  · rw [decide_eq_true h0] at hm
    rw [← hm]
    refine Br (N := 9) (rs := [.tmp 4]) hG Try.func18 rfl rfl rfl rfl rfl ?_
    repeat' (first
    | ((show AL _ _ _ _ _ _ _ _; refine Ag Y ?_); (first
      | refine Aq hG Y Y ?_
      | refine A5 hG Y Y ?_
      | (show AOp _ _ ⟨_, .binOp _ _ _ _ _, _, _, _, _⟩ _ _ _; first | refine At hG Y Y Y Y Y (by omega) ?_ | refine Au hG Y Y Y Y Y (by omega) ?_ | (refine Am hG Y Y Y Y Y (fun h => ?_) (fun h => ?_)))
      | (show AOp _ _ ⟨_, .call ⟨.value _, _, _⟩, _, _, _, _⟩ _ _ _; first | refine Bn Y Y Y Y Y (by first | (apply h <;> (first | assumption | omega | exact A4 _ _ | exact Bd _ | exact A7 _ _ | exact Bi _ | rfl | (simp; omega))) | fail) ?_ | fail)
      | refine r_q hG Y Y Y ?_))
    | (show AL _ _ _ _ _ _ _ _; first | refine Bk Y Y Y ?_ | (refine Ar ?_; first | show AW _ _ _ _ _ _ | show ∃ x', _ < _ ∧ _)) | (show AW _ _ (.seq _ _) _ _ _; refine Ai ?_; intro Q1) | (show AW _ _ (.region _ _ false) _ _ _; refine Ad ?_; intro O1) | (show AW _ _ (.ret) _ _ _; refine Aw ?_; try dsimp only [Ax, Aa, A2, Af]) | fail)
    exact Bu (Bm rfl Bl) (.refl _) rfl
  · rw [decide_eq_false h0] at hm
    rw [← hm]
    refine Br (N := 9) (rs := [.tmp 4]) hG Try.func18 rfl rfl rfl rfl rfl ?_
    repeat' (first
    | ((show AL _ _ _ _ _ _ _ _; refine Ag Y ?_); (first
      | refine Aq hG Y Y ?_
      | refine A5 hG Y Y ?_
      | (show AOp _ _ ⟨_, .binOp _ _ _ _ _, _, _, _, _⟩ _ _ _; first | refine At hG Y Y Y Y Y (by omega) ?_ | refine Au hG Y Y Y Y Y (by omega) ?_ | (refine Am hG Y Y Y Y Y (fun h => ?_) (fun h => ?_)))
      | (show AOp _ _ ⟨_, .call ⟨.value _, _, _⟩, _, _, _, _⟩ _ _ _; first | refine Bn Y Y Y Y Y (by first | (apply h <;> (first | assumption | omega | exact A4 _ _ | exact Bd _ | exact A7 _ _ | exact Bi _ | rfl | (simp; omega))) | fail) ?_ | fail)
      | refine r_q hG Y Y Y ?_))
    | (show AL _ _ _ _ _ _ _ _; first | refine Bk Y Y Y ?_ | (refine Ar ?_; first | show AW _ _ _ _ _ _ | show ∃ x', _ < _ ∧ _)) | (show AW _ _ (.seq _ _) _ _ _; refine Ai ?_; intro Q1) | (show AW _ _ (.region _ _ false) _ _ _; refine Ad ?_; intro O1) | (show AW _ _ (.ret) _ _ _; refine Aw ?_; try dsimp only [Ax, Aa, A2, Af]) | fail)
    exact Bu (Bm rfl Bl) (.refl _) rfl
theorem name_Within {i v : Nat} (hi : i < 18446744073709551616) : Ts.Pure Try.prog 24 [.int .u64 (i : Int), mT v] (.bool (decide (v ∈ B8 i))) := by
  have h1 := name_Path hi
  have hl : (B8 i).length ≤ 7 := by
    unfold B8
    cases e : nm 6 i with
    | none => simp
    | some l =>
      have := (nm_path 6 i l e).2.1
      simp [pathF_len]; omega
  have h2 := srt_Contains (v := v) (idsT_map .no (B8 i)) (by omega)
  intro off
  refine Br (N := 9) (rs := [.tmp 4]) hG Try.func24 rfl rfl rfl rfl rfl ?_
  repeat' (first
    | ((show AL _ _ _ _ _ _ _ _; refine Ag Y ?_); (first
      | refine Aq hG Y Y ?_
      | refine A5 hG Y Y ?_
      | (show AOp _ _ ⟨_, .call ⟨.value _, _, _⟩, _, _, _, _⟩ _ _ _; first | refine Bn Y Y Y Y Y (by first | (apply h1 <;> (first | assumption | omega | exact A4 _ _ | exact Bd _ | exact A7 _ _ | exact Bi _ | rfl | (simp; omega))) | fail) ?_ | refine Bn Y Y Y Y Y (by first | (apply h2 <;> (first | assumption | omega | exact A4 _ _ | exact Bd _ | exact A7 _ _ | exact Bi _ | rfl | (simp; omega))) | fail) ?_ | fail)
      | refine r_q hG Y Y Y ?_))
    | (show AL _ _ _ _ _ _ _ _; first | refine Bk Y Y Y ?_ | (refine Ar ?_; first | show AW _ _ _ _ _ _ | show ∃ x', _ < _ ∧ _)) | (show AW _ _ (.seq _ _) _ _ _; refine Ai ?_; intro Q1) | (show AW _ _ (.region _ _ false) _ _ _; refine Ad ?_; intro O1) | (show AW _ _ (.ret) _ _ _; refine Aw ?_; try dsimp only [Ax, Aa, A2, Af]) | fail)
  exact Bu (Bm rfl Bl) (.refl _) rfl
end Go.Proofs.Ytmckbfdklcmogaa
set_option linter.unusedVariables false
set_option linter.unusedSimpArgs false
namespace Go.Ts
section
variable {P : Program} {G : Nat → Option TI} {w w1 : World} {μ : Gh} {σ : St} {N : Nat} {a : Env} {Q : Exit → Env → St → Prop}
theorem mro_pairs {v : Value} {es : List (T × T)} (r : Rel w μ σ v (.mro (es.map Prod.fst) (es.map Prod.snd))) : ∃ b en cl, v = .map (some b) ∧ w.heap[b]? = some (.map en cl) ∧ en.size = es.length ∧
    ∀ (j : Nat) (k u : T) (e : MapEntry), es[j]? = some (k, u) → en[j]? = some e → Rel w μ σ e.key k ∧ Rel w μ σ e.val u := by
  generalize hk : es.map Prod.fst = ks at r
  generalize hu : es.map Prod.snd = us at r
  cases r with
  | mro b ks us en cl h hs hu' hb hi rk rv =>
    subst hk; subst hu
    exact ⟨b, en, cl, rfl, h, by simpa using hs, fun j k u e h1 h2 => ⟨rk j k e (by simp [h1]) h2, rv j u e (by simp [h1]) h2⟩⟩
theorem freezeM_value (hi : Inv w μ σ) {n i : Nat} {es : List (T × T)} {v : Value} (hn : σ.L[n]? = some (i, .map es)) (r : Rel w μ σ v (.map (some i))) : Rel w μ { σ with L := σ.L.eraseIdx n } v (.mro (es.map Prod.fst) (es.map Prod.snd)) := by
  cases r with
  | map i b p hl =>
    obtain ⟨b', en, cl, hl', hc, ⟨hsz, hbn⟩, hrel⟩ := hi.map i es (List.mem_of_getElem? hn)
    rw [hl] at hl'; injection hl' with hl'; injection hl' with e1 e2; subst e1
    have ev := (erase_step n w μ hi).2
    refine .mro b _ _ en cl hc (by simpa using hsz) (by simp) hbn (fun o => erase_imm hi hn hl o) (fun j k e h1 h2 => ?_) (fun j u e h1 h2 => ?_)
    · obtain ⟨⟨k', u⟩, h3, rfl⟩ : ∃ p : T × T, es[j]? = some p ∧ p.1 = k := by
        rw [List.getElem?_map] at h1
        cases h : es[j]? with
        | none => rw [h] at h1; cases h1
        | some p => exact ⟨p, rfl, by rw [h] at h1; simpa using h1⟩
      exact (hrel j _ _ e h3 h2).1.ev ev
    · obtain ⟨⟨k', u⟩, h3, rfl⟩ : ∃ p : T × T, es[j]? = some p ∧ p.2 = u := by
        rw [List.getElem?_map] at h1
        cases h : es[j]? with
        | none => rw [h] at h1; cases h1
        | some p => exact ⟨p, rfl, by rw [h] at h1; simpa using h1⟩
      exact (hrel j _ _ e h3 h2).2.ev ev
theorem aw_freezeM (n j : Nat) {c : Code} {i : Nat} {es : List (T × T)} (hg : get a j = some (.map (some i))) (hn : σ.L[n]? = some (i, .map es))
    (h : AW P N c Q ((j, .mro (es.map Prod.fst) (es.map Prod.snd)) :: a) { σ with L := σ.L.eraseIdx n }) : AW P N c Q a σ := by
  refine aw_conv (fun w μ av hi hr => ?_) h
  obtain ⟨i1, e1⟩ := erase_step n w μ hi
  obtain ⟨v, hv, r⟩ := hr.tmp j _ hg
  have hr1 := hr.ev e1
  refine ⟨μ, i1, e1, hr1.size, hr1.defers, fun x u hx => ?_⟩
  by_cases e : j = x
  · subst e
    have : T.mro (es.map Prod.fst) (es.map Prod.snd) = u := by simpa [get] using hx
    subst this
    exact ⟨v, hv, freezeM_value hi hn r⟩
  · exact hr1.tmp x u (by simpa [get, beqF e] using hx)
theorem aop_lookupF (hG : Fits P G) {o : Oper} {t kt et : TypeId} {x y : Operand} {ok : Bool} {ti tk te : TI} {k k0 : IntKind} {n : Int} {es : List (T × T)} {r : Option (Nat × T)} {K : Env → St → Prop}
    (ho : o.op = .lookup t x y ok) (ht : G t = some ti) (htd : ti.d = .map kt et) (hk : G kt = some tk) (hkd : tk.d = .int k0) (he : G et = some te) (hx : Bj a x = some (.mro (es.map Prod.fst) (es.map Prod.snd))) (hy : Bj a y = some (.int k n))
    (hf : findX k n es 0 = some r) (hd : Bt N o.dst = true)
    (kk : K (put a o.dst (cond ok (.tup [foundX te.tree r, .bool r.isSome]) (foundX te.tree r))) σ) : AOp P N o a σ K := by
  intro av w μ hi hr next Qc hn
  obtain ⟨d1, u1, f1⟩ := B0 (P := P) (w := w) hG ht
  rw [htd] at f1; obtain rfl := td_map f1
  obtain ⟨d2, u2, f2⟩ := B0 (P := P) (w := w) hG hk
  rw [hkd] at f2; obtain rfl := td_int f2
  obtain ⟨z, uz, rz, hz1, hz2⟩ := g_zero (P := P) (w := w) (μ := μ) (σ := σ) hG he
  have rx := B4 hr hx
  have ry := B4 hr hy
  generalize hvx : av.eval x = vx at rx
  generalize hvy : av.eval y = vy at ry
  cases ry
  obtain ⟨b, en, cl, rfl, hc, hsz, hrel⟩ := mro_pairs rx
  have hget : (getObj b).run P w = .ok (.map en cl) w := by simp [getObj, Sem.run, hc]
  have hck : ∀ bb, (Instr.checkKey bb 10000 kt (.int k n)).run P w = .ok () w := fun bb => checkKey_int hG hk hkd
  have hfr := findX_run (w := w) (μ := μ) (σ := σ) (k0 := k0) es en.toList 0 r hf (by simpa using hsz) (fun j x u e h1 h2 => hrel j x u e h1 (by simpa using h2))
  have tupR : ∀ (v : Value) (u : T) (bb : Bool), Rel w μ σ v u → Rel w μ σ (.tuple #[v, .bool bb]) (.tup [u, .bool bb]) := by
    intro v u bb h
    refine .tup _ _ rfl fun j c v' h1 h2 => ?_
    match j with
    | 0 => simp at h1 h2; subst h1; subst h2; exact h
    | 1 => simp at h1 h2; subst h1; subst h2; exact .bool _
    | j + 2 => simp at h1
  obtain ⟨v, hv, rv⟩ : ∃ v, (Instr.lookup t (.map (some b)) (.int k n) ok).run P w = .ok v w ∧ Rel w μ σ v (cond ok (.tup [foundX te.tree r, .bool r.isSome]) (foundX te.tree r)) := by
    cases r with
    | none =>
      have hfk : (Instr.findKey kt (.int k n) en.toList).run P w = .ok none w := by simp [Instr.findKey, u2, hfr]
      cases ok
      · exact ⟨z, by unfold Instr.lookup; simp [u1, hget, hck, hfk, uz], rz⟩
      · exact ⟨_, by unfold Instr.lookup; simp [u1, hget, hck, hfk, uz], tupR _ _ _ rz⟩
    | some q =>
      obtain ⟨p, u⟩ := q
      obtain ⟨_, e', v, _, _, _, h5, _, h7⟩ := hfr
      have hfk : (Instr.findKey kt (.int k n) en.toList).run P w = .ok (some (p, v)) w := by simp [Instr.findKey, u2, h7]
      cases ok
      · exact ⟨v, by unfold Instr.lookup; simp [u1, hget, hck, hfk], h5⟩
      · exact ⟨_, by unfold Instr.lookup; simp [u1, hget, hck, hfk], tupR _ _ _ h5⟩
  have hrun : (execOp av.eval o).run P w = .ok (.value v) w := by
    simp [execOp, ho, hvx, hvy, hv]
  unfold Oper.wp
  rw [hrun]
  exact hn _ _ _ _ _ (.refl _ _ _) hi (hr.put hd rv) kk

end
end Go.Ts
set_option linter.unusedVariables false
set_option linter.unusedSimpArgs false
namespace Go.Ts
section
variable {P : Program} {G : Nat → Option TI} {w w1 : World} {r : Nat} {μ : Gh} {σ : St} {N : Nat} {a : Env} {Q : Exit → Env → St → Prop}
structure ItStep (w w1 : World) (r : Nat) : Prop where
  os : w1.os = w.os
  tape : w1.tape = w.tape
  out : w1.output = w.output
  size : w1.heap.size = w.heap.size
  ne : ∀ x, x ≠ r → w1.heap[x]? = w.heap[x]?
  old : ∃ m s seen l, w.heap[r]? = some (.mapIter m s seen l)
  new : ∃ m s seen l, w1.heap[r]? = some (.mapIter m s seen l)
theorem ItStep.cells (h : ItStep w w1 r) {x : Nat} {c : Array Value} {e : TypeId} {f : Nat × Nat} (hx : w.heap[x]? = some (.cells c e f)) : w1.heap[x]? = some (.cells c e f) := by
  rw [h.ne x (by rintro rfl; obtain ⟨_, _, _, _, h1⟩ := h.old; rw [h1] at hx; cases hx)]; exact hx
theorem ItStep.map (h : ItStep w w1 r) {x : Nat} {en : Array MapEntry} {cl : Nat} (hx : w.heap[x]? = some (.map en cl)) : w1.heap[x]? = some (.map en cl) := by
  rw [h.ne x (by rintro rfl; obtain ⟨_, _, _, _, h1⟩ := h.old; rw [h1] at hx; cases hx)]; exact hx
theorem ItStep.cell (h : ItStep w w1 r) (b o : Nat) : w1.cell? ⟨b, o, none⟩ = w.cell? ⟨b, o, none⟩ := by
  by_cases hb : b = r
  · subst hb
    obtain ⟨_, _, _, _, h1⟩ := h.old
    obtain ⟨_, _, _, _, h2⟩ := h.new
    unfold World.cell?
    simp only [h1, h2]
  · exact cell_of_heap (h.ne b hb) o
theorem ItStep.ev0 (h : ItStep w w1 r) : Ev0 w μ σ w1 μ σ :=
  ⟨fun _ _ h => h, fun _ _ h => h, fun b n ⟨c, e, f, h1, h2⟩ => ⟨c, e, f, h.cells h1, h2⟩, fun b o hx => ⟨⟨by rw [h.size]; exact hx.lt, hx.off, hx.obj, hx.room⟩, h.cell b o⟩, fun b en cl h1 _ => h.map h1⟩
theorem ItStep.inv (h : ItStep w w1 r) (hi : Inv w μ σ) : Inv w1 μ σ := by
  refine ⟨fun i ts hx => ?_, fun i es hx => ?_, hi.inj, fun k hk => ?_, hi.rinj, hi.fin, fun b o hb => by rw [h.size]; exact hi.offlt b o hb, hi.offobj⟩
  · obtain ⟨b, p, c, e, h1, h2, h3, h4⟩ := hi.obj i ts hx
    exact ⟨b, p, c, e, h1, h.cells h2, h3, fun j t v h5 h6 => (h4 j t v h5 h6).ev' h.ev0⟩
  · obtain ⟨b, en, cl, h1, h2, h3, h4⟩ := hi.map i es hx
    exact ⟨b, en, cl, h1, h.map h2, h3, fun j k u e h5 h6 => let ⟨h7, h8⟩ := h4 j k u e h5 h6; ⟨h7.ev' h.ev0, h8.ev' h.ev0⟩⟩
  · obtain ⟨b, f, t, h1, h2, h3⟩ := hi.room k hk
    refine ⟨b, f, t, h1, h2, fun hlt => ?_⟩
    obtain ⟨⟨c, e, h4, h5⟩, h6, h7⟩ := h3 hlt
    exact ⟨⟨c, e, h.cells h4, h5⟩, h6, h7⟩
theorem ItStep.ev {w0 : World} {μ0 : Gh} {σ0 : St} (h : ItStep w w1 r) (ev : Ev w0 μ0 σ0 w μ σ) (hr : w0.heap.size ≤ r) : Ev w0 μ0 σ0 w1 μ σ := by
  refine ⟨⟨h.os.trans ev.below.os, h.tape.trans ev.below.tape, h.out.trans ev.below.output, by rw [h.size]; exact ev.below.size, fun k hk => by omega⟩, ev.loc, ev.tok, ev.off, fun b n hb => h.ev0 (μ := μ) (σ := σ) |>.shape b n (ev.shape b n hb), fun b hb hl => ?_, fun b o hx => ?_⟩
  · obtain ⟨h1, h2⟩ := ev.live b hb hl
    exact ⟨h1, by rw [h.ne b (by omega)]; exact h2⟩
  · obtain ⟨h1, h2⟩ := ev.imm b o hx
    obtain ⟨h3, h4⟩ := (h.ev0 (μ := μ) (σ := σ)).imm b o h1
    exact ⟨h3, h4.trans h2⟩
theorem RelA.ev' {w w' : World} {μ μ' : Gh} {σ σ' : St} {N : Nat} {av : Act} {a : Env} (h : RelA w μ σ N av a) (e : Ev0 w μ σ w' μ' σ') : RelA w' μ' σ' N av a :=
  ⟨h.size, h.defers, fun i t ht => let ⟨v, hv, r⟩ := h.tmp i t ht; ⟨v, hv, r.ev' e⟩⟩
def iterW (w : World) (r b cl : Nat) (seen : Array Nat) : World := { w with heap := w.heap.setIfInBounds r (.mapIter (some b) cl seen cl) }
theorem iterW_step {b cl : Nat} {seen seen' : Array Nat} (h : w.heap[r]? = some (.mapIter (some b) cl seen cl)) (n : Nat) : ItStep w (iterW { w with drawn := n } r b cl seen') r := by
  have hlt := (Array.getElem?_eq_some_iff.1 h).1
  refine ⟨rfl, rfl, rfl, by simp [iterW], fun x hx => by simp [iterW, Array.getElem?_setIfInBounds, Ne.symm hx], ⟨_, _, _, _, h⟩, ⟨some b, cl, seen', cl, by simp [iterW, hlt]⟩⟩
theorem drew_step {b cl : Nat} {seen : Array Nat} (h : w.heap[r]? = some (.mapIter (some b) cl seen cl)) (n : Nat) : ItStep w { w with drawn := n } r :=
  ⟨rfl, rfl, rfl, rfl, fun _ _ => rfl, ⟨_, _, _, _, h⟩, ⟨_, _, _, _, h⟩⟩
theorem next_run {b cl : Nat} {seen : Array Nat} {en : Array MapEntry} {ty : TypeId} (hr : w.heap[r]? = some (.mapIter (some b) cl seen cl)) (hb : w.heap[b]? = some (.map en cl)) (hn : Born en cl) :
    (∃ n, (Instr.next (.pointer (some ⟨r, 0, none⟩)) false ty).run P w = .ok (.tuple #[.bool false]) { w with drawn := n } ∧ ∀ e, e ∈ en.toList → e.born ∈ seen.toList) ∨
    (∃ (n : Nat) (e : MapEntry) (j : Nat), (Instr.next (.pointer (some ⟨r, 0, none⟩)) false ty).run P w = .ok (.tuple #[.bool true, e.key, e.val]) (iterW { w with drawn := n } r b cl (seen.push e.born)) ∧ en[j]? = some e ∧ e.born ∉ seen.toList) := by
  have hg1 : (getObj r).run P w = .ok (.mapIter (some b) cl seen cl) w := by simp [getObj, Sem.run, hr]
  have hg2 : (getObj b).run P w = .ok (.map en cl) w := by simp [getObj, Sem.run, hb]
  have hall : (!seen.isEmpty && !en.isEmpty && en.all (fun e => decide (e.born ≥ cl))) = false := by
    by_cases he : en.isEmpty = true
    · simp [he]
    · have : en.all (fun e => decide (e.born ≥ cl)) = false := by
        rw [Bool.eq_false_iff]
        intro h
        have hs : 0 < en.size := by
          rcases Nat.eq_zero_or_pos en.size with h0 | h0
          · exact absurd (by simpa [Array.isEmpty_iff] using Array.eq_empty_of_size_eq_zero h0) he
          · exact h0
        have h1 := hn.1 en[0] (by simp)
        have h2 := (Array.all_eq_true.1 h) 0 hs
        simp at h2; omega
      simp [this]
  obtain ⟨L, hL⟩ : ∃ L, en.filter (fun e => !seen.contains e.born) = L := ⟨_, rfl⟩
  have hmem : ∀ e, e ∈ L.toList → e ∈ en.toList ∧ e.born ∉ seen.toList := fun e he => by
    rw [← hL] at he; simpa using he
  have hold : L.filter (fun e => decide (e.born < cl)) = L := Array.filter_eq_self.2 fun e he => by
    simpa using hn.1 e (hmem e (by simpa using he)).1
  have hnew : L.filter (fun e => decide (e.born ≥ cl)) = #[] := Array.filter_eq_empty_iff.2 fun e he => by
    have := hn.1 e (hmem e (by simpa using he)).1
    simp; omega
  have hset : ∀ n seen', (setObj r (.mapIter (some b) cl seen' cl)).run P { w with drawn := n } = .ok () (iterW { w with drawn := n } r b cl seen') := fun n seen' => by simp [setObj, Sem.run, hr, iterW]
  by_cases he : L = #[]
  · refine .inl ⟨w.drawn, ?_, fun e h => ?_⟩
    · unfold Instr.next
      simp only [Sem.run_bind, hg1, Result.andThen_ok, hg2, hall, Bool.false_eq_true, if_false, Sem.run_pure, hL, hold, hnew]
      subst he
      simp [choose, Sem.run, Question.forced]
    · rw [he] at hL
      have := Array.filter_eq_empty_iff.1 hL e (by simpa using h)
      simpa using this
  · have hpos : 0 < L.size := by
      rcases Nat.eq_zero_or_pos L.size with h0 | h0
      · exact absurd (Array.eq_empty_of_size_eq_zero h0) he
      · exact h0
    obtain ⟨n, k, hk, hch⟩ : ∃ n k, k < L.size ∧ (choose (.mapNext L.size)).run P w = .ok k { w with drawn := n } := by
      by_cases h1 : L.size ≤ 1
      · exact ⟨w.drawn, 0, hpos, by simp [choose, Sem.run, Question.forced, h1]⟩
      · exact ⟨w.drawn + 1, w.tape w.drawn (.mapNext L.size) % L.size, Nat.mod_lt _ hpos, by simp [choose, Sem.run, Question.forced, h1, Question.cut]⟩
    refine .inr ⟨n, L[k], ?_⟩
    have hm := hmem L[k] (by simp)
    obtain ⟨j, hj⟩ := List.getElem?_of_mem hm.1
    refine ⟨j, ?_, by simpa using hj, hm.2⟩
    unfold Instr.next
    simp only [Sem.run_bind, hg1, Result.andThen_ok, hg2, hall, Bool.false_eq_true, if_false, Sem.run_pure, hL, hold, hnew]
    have hcand : (if L.isEmpty = true then (#[none] : Array (Option MapEntry)) else #[]) ++ Array.map some (L ++ #[]) = L.map some := by simp [he]
    rw [hcand, Array.size_map, hch]
    have hget : (L.map some)[k]? = some (some L[k]) := by simp [hk]
    simp only [Result.andThen_ok, hget, Sem.run_bind, hset, Sem.run_pure]
theorem find_born : ∀ (l : List MapEntry) (e : MapEntry), (l.map MapEntry.born).Nodup → e ∈ l → l.find? (fun x => x.born == e.born) = some e
  | [], e, _, h => by cases h
  | x :: l, e, hn, h => by
    rw [List.map_cons, List.nodup_cons] at hn
    rcases List.mem_cons.1 h with rfl | h
    · simp
    · have : (x.born == e.born) = false := by
        simp only [beq_eq_false_iff_ne]
        intro hb
        exact hn.1 (hb ▸ List.mem_map.2 ⟨e, h, rfl⟩)
      rw [List.find?_cons, this]
      exact find_born l e hn.2 h
theorem entry_run {b cl : Nat} {seen : Array Nat} {en : Array MapEntry} {e : MapEntry} {j : Nat} (hr : w.heap[r]? = some (.mapIter (some b) cl (seen.push e.born) cl)) (hb : w.heap[b]? = some (.map en cl)) (hn : Born en cl) (hj : en[j]? = some e) :
    (Instr.entry (.pointer (some ⟨r, 0, none⟩))).run P w = .ok (.tuple #[e.key, e.val]) w := by
  have hg1 : (getObj r).run P w = .ok (.mapIter (some b) cl (seen.push e.born) cl) w := by simp [getObj, Sem.run, hr]
  have hg2 : (getObj b).run P w = .ok (.map en cl) w := by simp [getObj, Sem.run, hb]
  have hf : en.find? (fun x => x.born == e.born) = some e := by
    rw [← Array.find?_toList]
    exact find_born _ _ hn.2 (List.mem_of_getElem? (by simpa using hj))
  unfold Instr.entry
  simp only [Sem.run_bind, hg1, Result.andThen_ok, hg2, Array.back?_push, hf, Sem.run_pure]
  rw [if_neg (by simp)]
  rfl
end
end Go.Ts
set_option linter.unusedVariables false
set_option linter.unusedSimpArgs false
namespace Go.Ts
section
variable {P : Program} {G : Nat → Option TI} {w w1 : World} {r : Nat} {μ : Gh} {σ : St} {N : Nat} {a : Env} {Q : Exit → Env → St → Prop}
theorem alloc_step (hi : Inv w μ σ) (ob : Obj) : Ev w μ σ (w.alloc ob) μ σ ∧ Inv (w.alloc ob) μ σ := by
  have ev : Ev w μ σ (w.alloc ob) μ σ := ev_new hi (fun _ _ h => h) (fun _ _ h => h) rfl (fun i o b p h1 h2 _ => ⟨o, i, p, h1, h2⟩) (fun k b f t h1 h2 _ _ => ⟨h1, h2⟩)
  have hne : ∀ {x : Nat} {o : Obj}, w.heap[x]? = some o → (w.alloc ob).heap[x]? = some o := fun {x o} h => by rw [Cd w _ (Array.getElem?_eq_some_iff.1 h).1]; exact h
  refine ⟨ev, fun i ts hx => ?_, fun i es hx => ?_, hi.inj, fun k hk => ?_, hi.rinj, hi.fin, fun b o hb => ?_, hi.offobj⟩
  · obtain ⟨b, p, c, e, h1, h2, h3, h4⟩ := hi.obj i ts hx
    exact ⟨b, p, c, e, h1, hne h2, h3, fun j t v h5 h6 => (h4 j t v h5 h6).ev ev⟩
  · obtain ⟨b, en, cl, h1, h2, h3, h4⟩ := hi.map i es hx
    exact ⟨b, en, cl, h1, hne h2, h3, fun j k u e h5 h6 => let ⟨h7, h8⟩ := h4 j k u e h5 h6; ⟨h7.ev ev, h8.ev ev⟩⟩
  · obtain ⟨b, f, t, h1, h2, h3⟩ := hi.room k hk
    refine ⟨b, f, t, h1, h2, fun hlt => ?_⟩
    obtain ⟨⟨c, e, h4, h5⟩, h6, h7⟩ := h3 hlt
    exact ⟨⟨c, e, hne h4, h5⟩, h6, h7⟩
  · have := hi.offlt b o hb; rw [size_alloc]; omega
theorem get_put_ne {a : Env} {d i : Nat} {t : T} (h : d ≠ i) : get (put a (some d) t) i = get a i := by simp [put, get, beqF h]
theorem knows_put {a b : Env} {d : Nat} {t : T} (h : Knows a b) (hb : get b d = none) : Knows (put a (some d) t) b := fun i u hu => by
  by_cases e : d = i
  · subst e; rw [hb] at hu; cases hu
  · rw [get_put_ne e]; exact h i u hu
theorem all_seen : ∀ (n : Nat) (l : List Nat), l.Nodup → (∀ i ∈ l, i < n) → (∀ i, i < n → i ∈ l) → l.length = n := by
  intro n l h1 h2 h3
  have p : l.Perm (List.range n) := (List.perm_ext_iff_of_nodup h1 List.nodup_range).2 fun i => by
    rw [List.mem_range]; exact ⟨h2 i, h3 i⟩
  simpa using p.length_eq
theorem wpOps_at {ops : Array Oper} {i : Nat} {rest : List Nat} {o : Oper} {av : Act} {Q : Exit → Act → World → Prop} (ho : ops[i]? = some o) (hg : o.guard = none) (h : o.wp P av w (wpOps P ops Q rest) Q) : wpOps P ops Q (i :: rest) av w := by
  simp only [wpOps, ho]
  rw [if_pos (by simp [Region.wanted, hg])]
  exact .inl h
theorem wp_value {o : Oper} {av : Act} {v : Value} {w' : World} {next : Act → World → Prop} {Q : Exit → Act → World → Prop} (h : (execOp av.eval o).run P w = .ok (.value v) w') (k : next (av.put o.dst v) w') : o.wp P av w next Q := by
  unfold Oper.wp; rw [h]; exact k
theorem nodup_le : ∀ (n : Nat) (l : List Nat), l.Nodup → (∀ i ∈ l, i < n) → l.length ≤ n
  | 0, l, _, h => by
    cases l with
    | nil => simp
    | cons x l => exact absurd (h x (by simp)) (by omega)
  | n + 1, l, hn, h => by
    by_cases hm : n ∈ l
    · have ih := nodup_le n (l.erase n) (hn.erase n) fun i hi => by
        rw [hn.mem_erase_iff] at hi
        have := h i hi.2; omega
      have h2 := List.length_erase_of_mem hm
      omega
    · have ih := nodup_le n l hn fun i hi => by
        have := h i hi
        have : i ≠ n := fun e => hm (e ▸ hi)
        omega
      omega
theorem born_inj {en : Array MapEntry} {cl i j : Nat} (hb : Born en cl) (hi : i < en.size) (hj : j < en.size) (h : (en[i]!).born = (en[j]!).born) : i = j := by
  have hp := List.pairwise_iff_getElem.1 hb.2
  rw [getElem!_pos en i hi, getElem!_pos en j hj] at h
  rcases Nat.lt_trichotomy i j with h1 | h1 | h1
  · have h2 := hp i j (by simpa using hi) (by simpa using hj) h1
    rw [List.getElem_map, List.getElem_map] at h2
    exact absurd h h2
  · exact h1
  · have h2 := hp j i (by simpa using hj) (by simpa using hi) h1
    rw [List.getElem_map, List.getElem_map] at h2
    exact absurd h.symm h2
theorem notlive_iter (hi : Inv w μ σ) {m : Option Nat} {s l : Nat} {seen : Array Nat} (h : w.heap[r]? = some (.mapIter m s seen l)) : ¬ Live μ σ r := by
  rintro (⟨i, ob, p, h1, h2⟩ | ⟨k, f, t, h1, h2, h3⟩)
  · cases ob with
    | cells ts =>
      obtain ⟨b, q, c, e, h4, h5, _⟩ := hi.obj i ts h1
      rw [h2] at h4; injection h4 with h4; injection h4 with h4 h6; subst h4
      rw [h] at h5; cases h5
    | map es =>
      obtain ⟨b, en, cl, h4, h5, _⟩ := hi.map i es h1
      rw [h2] at h4; injection h4 with h4; injection h4 with h4 h6; subst h4
      rw [h] at h5; cases h5
  · obtain ⟨b, f', t', h4, _, h5⟩ := hi.room k h1
    rw [h2] at h4; injection h4 with h4; injection h4 with h4 h6; injection h6 with h6 h7; subst h4; subst h6; subst h7
    obtain ⟨⟨c, e, h8, _⟩, _⟩ := h5 h3
    rw [h] at h8; cases h8
theorem eval_raw {av : Act} {a : Env} {x : Operand} {v : Value} (hr : RelA w μ σ N av a) (hx : Bj a x = some (.raw v)) : av.eval x = v := by
  have h := B4 hr hx
  generalize av.eval x = y at h
  cases h; rfl
theorem ev_put {av : Act} {a : Env} {d : Nat} {v : Value} (hr : RelA w μ σ N av a) (hd : Bt N (some d) = true) : (av.put (some d) v).eval (.tmp d) = v :=
  eval_raw (hr.put hd (Rel.raw v)) (by simp [Bj, put, get])
theorem aw_range (hG : Fits P G) {id0 id1 id2 out nb : Nat} {d1 it nx more pair : Tmp} {x : Operand} {t ty1 ty2 ty3 ty4 ty5 : TypeId} {p1 p2 p3 p4 p5 : String} {f1 f2 f3 f4 f5 : Array Edge} {os : List Oper} {code : Code} {ti : TI} {kt et : Nat} {es : List (T × T)}
    {X : Type} (x0 : X) (E : List Nat → X → Env) (S : List Nat → X → St)
    (hx : Bj a x = some (.mro (es.map Prod.fst) (es.map Prod.snd))) (ht : G t = some ti) (htd : ti.d = .map kt et)
    (h1 : Bt N (some d1) = true) (h2 : Bt N (some it) = true) (h3 : Bt N (some nx) = true) (h4 : Bt N (some more) = true) (h5 : Bt N (some pair) = true)
    (hne : (Nat.beq it nx || Nat.beq it more || Nat.beq nx more) = false) (hE : ∀ done y, get (E done y) nx = none ∧ get (E done y) more = none)
    (h0 : ∀ v, Knows (put (put a (some d1) (.mro (es.map Prod.fst) (es.map Prod.snd))) (some it) (.raw v)) ((it, .raw v) :: E [] x0)) (hs : GStep σ (S [] x0))
    (round : ∀ v done y j k u, done.Nodup → (∀ i ∈ done, i < es.length) → j ∉ done → es[j]? = some (k, u) →
      AL P N ⟨⟨some pair, .entry (.tmp it), ty5, p5, f5, none⟩ :: os⟩ (Ax (AW P N code (Aa nb (Ax (fun a' σ' => ∃ y', Knows a' ((it, .raw v) :: E (done ++ [j]) y') ∧ GStep σ' (S (done ++ [j]) y')) (Aa out Q))))
        (Aa nb (Ax (fun a' σ' => ∃ y', Knows a' ((it, .raw v) :: E (done ++ [j]) y') ∧ GStep σ' (S (done ++ [j]) y')) (Aa out Q)))) 1 os (put ((it, .raw v) :: E done y) (some pair) (.tup [k, u])) (S done y))
    (fin : ∀ v done y, done.Nodup → (∀ i ∈ done, i < es.length) → done.length = es.length → Q .normal ((it, .raw v) :: E done y) (S done y)) :
    AW P N (.seq (.region id0 ⟨[⟨some d1, .move x, ty1, p1, f1, none⟩, ⟨some it, .range t (.tmp d1), ty2, p2, f2, none⟩]⟩ false) (.block out (.loop (.seq (.region id1 ⟨[⟨some nx, .next (.tmp it) false, ty3, p3, f3, none⟩, ⟨some more, .extract (.tmp nx) 0, ty4, p4, f4, none⟩]⟩ false)
      (.seq (.cond (.tmp more) .skip (.exit out)) (.block nb (.seq (.region id2 ⟨⟨some pair, .entry (.tmp it), ty5, p5, f5, none⟩ :: os⟩ false) code))))))) Q a σ := by
  simp only [Bool.or_eq_false_iff] at hne
  obtain ⟨⟨hn1, hn2⟩, hn3⟩ := hne
  have hn1 : it ≠ nx := fun e => by rw [e] at hn1; simp at hn1
  have hn2 : it ≠ more := fun e => by rw [e] at hn2; simp at hn2
  have hn3 : nx ≠ more := fun e => by rw [e] at hn3; simp at hn3
  intro av w μ hi hr
  refine wp_seq (wp_region ?_)
  show wpOps P _ _ [0, 1] av w
  -- the map
  have rx := B4 hr hx
  have hmove : (execOp av.eval ⟨some d1, .move x, ty1, p1, f1, none⟩).run P w = .ok (.value (av.eval x)) w := by simp [execOp]
  refine wpOps_at rfl rfl (wp_value hmove ?_)
  show wpOps P _ _ [1] (av.put (some d1) (av.eval x)) w
  have hr1 := hr.put h1 rx
  have hev1 : (av.put (some d1) (av.eval x)).eval (.tmp d1) = av.eval x := ev_put hr h1
  generalize hvx : av.eval x = vx at rx hr1 hev1
  generalize hav1 : av.put (some d1) vx = av1 at hr1 hev1
  generalize hks : es.map Prod.fst = ks at rx
  generalize hus : es.map Prod.snd = us at rx
  cases rx with
  | mro b ks us en cl hc hsz hus' hbn him rk rv =>
  subst hks; subst hus
  have hlen : en.size = es.length := by simpa using hsz
  obtain ⟨d2, u1, fd⟩ := B0 (P := P) (w := w) hG ht
  rw [htd] at fd; obtain rfl := td_map fd
  have hg1 : (getObj b).run P w = .ok (.map en cl) w := by simp [getObj, Sem.run, hc]
  obtain ⟨r, hrr⟩ : ∃ r, r = w.heap.size := ⟨_, rfl⟩
  obtain ⟨v, hv⟩ : ∃ v : Value, v = .pointer (some ⟨r, 0, none⟩) := ⟨_, rfl⟩
  have hrange : (execOp av1.eval ⟨some it, .range t (.tmp d1), ty2, p2, f2, none⟩).run P w = .ok (.value v) (w.alloc (.mapIter (some b) cl #[] cl)) := by
    simp [execOp, Instr.range, hev1, u1, hg1, newObj, hv, hrr]
    rfl
  refine wpOps_at rfl rfl (wp_value hrange ?_)
  obtain ⟨eva, inva⟩ := alloc_step hi (.mapIter (some b) cl #[] cl)
  have hr2 := (hr1.ev eva).put h2 (Rel.raw v)
  have hra : (w.alloc (.mapIter (some b) cl #[] cl)).heap[r]? = some (.mapIter (some b) cl #[] cl) := by rw [hrr]; exact heap_alloc_at w _
  obtain ⟨gs1, gs2⟩ := hs _ μ inva
  have hr3 := (hr2.ev gs2).knows (h0 v)
  show (Code.block out _).wp P _ (av1.put (some it) v) _
  generalize av1.put (some it) v = av2 at hr3
  have ev0 := eva.trans gs2
  generalize w.alloc (.mapIter (some b) cl #[] cl) = wa at *
  clear hr2 inva eva gs2 hr1 hev1 hrange
  refine wp_block (wp_loop_ghost (fun n av' w' => ∃ (done : List Nat) (y : X) (μ' : Gh) (seen : Array Nat), n = es.length - done.length ∧ done.Nodup ∧ (∀ i ∈ done, i < es.length) ∧ Ev w μ σ w' μ' (S done y) ∧ Inv w' μ' (S done y) ∧ RelA w' μ' (S done y) N av' ((it, .raw v) :: E done y) ∧
      w'.heap[r]? = some (.mapIter (some b) cl seen cl) ∧ seen.toList = done.map fun i => (en[i]!).born) es.length ⟨[], x0, μ, #[], by simp, by simp, by simp, ev0, gs1, hr3, hra, by simp⟩ ?_)
  rintro n av3 w3 ⟨done, y, μ3, seen, rfl, hnd, hlt, ev3, inv3, hr4, hri, hseen⟩
  have hb3 : w3.heap[b]? = some (.map en cl) := ev3.ev0.whole b en cl hc him
  have hev3 : av3.eval (.tmp it) = v := eval_raw hr4 (by simp [Bj, get])
  refine wp_seq (wp_region ?_)
  show wpOps P _ _ [0, 1] av3 w3
  rcases next_run (ty := ty3) (P := P) hri hb3 hbn with ⟨m, hnext, hall⟩ | ⟨m, e, j, hnext, hj, hnew⟩
  · have hrun3 : (execOp av3.eval ⟨some nx, .next (.tmp it) false, ty3, p3, f3, none⟩).run P w3 = .ok (.value (.tuple #[.bool false])) { w3 with drawn := m } := by
      simp only [execOp, hev3, hv]
      simp [hnext]
    refine wpOps_at rfl rfl (wp_value hrun3 ?_)
    have st := drew_step hri m
    have ev4 := st.ev ev3 (by omega)
    have inv4 := st.inv inv3
    have hr5 := hr4.ev' st.ev0
    have hr6 := hr5.put h3 (Rel.raw (.tuple #[.bool false]))
    have hext : (execOp (av3.put (some nx) (.tuple #[.bool false])).eval ⟨some more, .extract (.tmp nx) 0, ty4, p4, f4, none⟩).run P { w3 with drawn := m } = .ok (.value (.bool false)) { w3 with drawn := m } := by
      simp [execOp, Instr.extract, ev_put (v := .tuple #[.bool false]) hr5 h3]
    refine wpOps_at rfl rfl (wp_value hext ?_)
    have hr7 := hr6.put h4 (Rel.bool false)
    refine wp_seq (wp_cond_false (ev_put hr6 h4) (wp_exit ?_))
    have hfull : done.length = es.length := all_seen _ _ hnd hlt fun i hi => by
      have hsz' : i < en.size := by omega
      have h9 := hall en[i] (by simp)
      rw [hseen] at h9
      obtain ⟨q, hq, hqe⟩ := List.mem_map.1 h9
      have := born_inj (i := q) (j := i) hbn (by have := hlt q hq; omega) hsz' (by rw [hqe, getElem!_pos en i hsz'])
      exact this ▸ hq
    have kn : Knows (put (put ((it, .raw v) :: E done y) (some nx) (.raw (.tuple #[.bool false]))) (some more) (.bool false)) ((it, .raw v) :: E done y) :=
      knows_put (knows_put (.refl _) (by simp [get, beqF hn1, (hE done y).1])) (by simp [get, beqF hn2, (hE done y).2])
    show (if out = out then _ else _)
    rw [if_pos rfl]
    exact ⟨_, _, μ3, ev4, inv4, hr7.knows kn, fin v done y hnd hlt hfull⟩
  · have hrun3 : (execOp av3.eval ⟨some nx, .next (.tmp it) false, ty3, p3, f3, none⟩).run P w3 = .ok (.value (.tuple #[.bool true, e.key, e.val])) (iterW { w3 with drawn := m } r b cl (seen.push e.born)) := by
      simp only [execOp, hev3, hv]
      simp [hnext]
    refine wpOps_at rfl rfl (wp_value hrun3 ?_)
    have st := iterW_step (seen' := seen.push e.born) hri m
    have hr4r : (iterW { w3 with drawn := m } r b cl (seen.push e.born)).heap[r]? = some (.mapIter (some b) cl (seen.push e.born) cl) := by
      have := (Array.getElem?_eq_some_iff.1 hri).1
      simp [iterW, this]
    generalize iterW { w3 with drawn := m } r b cl (seen.push e.born) = w4 at *
    have ev4 := st.ev ev3 (by omega)
    have inv4 := st.inv inv3
    have hr5 := hr4.ev' st.ev0
    have hb4 := st.map hb3
    have hr6 := hr5.put h3 (Rel.raw (.tuple #[.bool true, e.key, e.val]))
    have hext : (execOp (av3.put (some nx) (.tuple #[.bool true, e.key, e.val])).eval ⟨some more, .extract (.tmp nx) 0, ty4, p4, f4, none⟩).run P w4 = .ok (.value (.bool true)) w4 := by
      simp [execOp, Instr.extract, ev_put (v := .tuple #[.bool true, e.key, e.val]) hr5 h3]
    refine wpOps_at rfl rfl (wp_value hext ?_)
    have hr7 := hr6.put h4 (Rel.bool true)
    refine wp_seq (wp_cond_true (ev_put hr6 h4) (wp_skip ?_))
    have kn : Knows (put (put ((it, .raw v) :: E done y) (some nx) (.raw (.tuple #[.bool true, e.key, e.val]))) (some more) (.bool true)) ((it, .raw v) :: E done y) :=
      knows_put (knows_put (.refl _) (by simp [get, beqF hn1, (hE done y).1])) (by simp [get, beqF hn2, (hE done y).2])
    have hr8 := hr7.knows kn
    have hjl : j < en.size := (Array.getElem?_eq_some_iff.1 hj).1
    have hje : en[j]! = e := by rw [getElem!_pos en j hjl]; exact (Array.getElem?_eq_some_iff.1 hj).2
    have hjd : j ∉ done := fun hd => hnew (by rw [hseen]; exact List.mem_map.2 ⟨j, hd, by rw [hje]⟩)
    obtain ⟨⟨k, u⟩, hes⟩ : ∃ p, es[j]? = some p := ⟨_, List.getElem?_eq_getElem (by omega)⟩
    have hent : (execOp ((av3.put (some nx) (.tuple #[.bool true, e.key, e.val])).put (some more) (.bool true)).eval ⟨some pair, .entry (.tmp it), ty5, p5, f5, none⟩).run P w4 = .ok (.value (.tuple #[e.key, e.val])) w4 := by
      have := eval_raw (x := .tmp it) (v := v) hr8 (by simp [Bj, get])
      have h9 := entry_run (P := P) hr4r hb4 hbn hj
      rw [← hv] at h9
      simp only [execOp]
      rw [this]
      simp [h9]
    have hpr : Rel w4 μ3 (S done y) (.tuple #[e.key, e.val]) (.tup [k, u]) := by
      refine .tup _ _ rfl fun q c y h1 h2 => ?_
      match q with
      | 0 => simp at h1 h2; subst h1; subst h2; exact (rk j _ e (by simp [hes]) hj).ev ev4
      | 1 => simp at h1 h2; subst h1; subst h2; exact (rv j _ e (by simp [hes]) hj).ev ev4
      | q + 2 => simp at h1
    have hr9 := hr8.put h5 hpr
    have ral := round v done y j k u hnd hlt hjd hes rfl
    have nl := notlive_iter inv4 hr4r
    have hrlt : r < w4.heap.size := (Array.getElem?_eq_some_iff.1 hr4r).1
    have conv : ∀ (e' : Exit) (av' : Act) (w' : World) (μ' : Gh) (a' : Env) (σ' : St), Ev w4 μ3 (S done y) w' μ' σ' → Inv w' μ' σ' → RelA w' μ' σ' N av' a' →
        Aa nb (Ax (fun a' σ' => ∃ y', Knows a' ((it, .raw v) :: E (done ++ [j]) y') ∧ GStep σ' (S (done ++ [j]) y')) (Aa out Q)) e' a' σ' →
        Exit.inBlock nb (Exit.then (fun a' w' => ∃ n', n' < es.length - done.length ∧ ∃ (done : List Nat) (y : X) (μ' : Gh) (seen : Array Nat), n' = es.length - done.length ∧ done.Nodup ∧ (∀ i ∈ done, i < es.length) ∧ Ev w μ σ w' μ' (S done y) ∧ Inv w' μ' (S done y) ∧ RelA w' μ' (S done y) N a' ((it, .raw v) :: E done y) ∧
          w'.heap[r]? = some (.mapIter (some b) cl seen cl) ∧ seen.toList = done.map fun i => (en[i]!).born) (Exit.inBlock out fun e av' w' => ∃ a' σ' μ', Ev w μ σ w' μ' σ' ∧ Inv w' μ' σ' ∧ RelA w' μ' σ' N av' a' ∧ Q e a' σ')) e' av' w' := by
      intro e' av' w' μ' a' σ' q1 q2 q3 q4
      have hJ : (∃ y', Knows a' ((it, .raw v) :: E (done ++ [j]) y') ∧ GStep σ' (S (done ++ [j]) y')) → ∃ n', n' < es.length - done.length ∧ ∃ (done : List Nat) (y : X) (μ' : Gh) (seen : Array Nat), n' = es.length - done.length ∧ done.Nodup ∧ (∀ i ∈ done, i < es.length) ∧ Ev w μ σ w' μ' (S done y) ∧ Inv w' μ' (S done y) ∧ RelA w' μ' (S done y) N av' ((it, .raw v) :: E done y) ∧
          w'.heap[r]? = some (.mapIter (some b) cl seen cl) ∧ seen.toList = done.map fun i => (en[i]!).born := by
        rintro ⟨y', hk, hg⟩
        obtain ⟨g1, g2⟩ := hg w' μ' q2
        have hnd2 : (done ++ [j]).Nodup := List.nodup_append.2 ⟨hnd, by simp, fun x hx y hy => by simp at hy; subst hy; rintro rfl; exact hjd hx⟩
        have hlt2 : ∀ i ∈ done ++ [j], i < es.length := fun i hi => by
          rcases List.mem_append.1 hi with hi | hi
          · exact hlt i hi
          · simp at hi; omega
        have hle := nodup_le es.length _ hnd2 hlt2
        simp only [List.length_append, List.length_cons, List.length_nil] at hle
        refine ⟨es.length - (done ++ [j]).length, by simp only [List.length_append, List.length_cons, List.length_nil]; omega, done ++ [j], y', μ', seen.push e.born, rfl, hnd2, hlt2, (ev4.trans q1).trans g2, g1, (q3.ev g2).knows hk, ?_, by simp [hseen, hje]⟩
        rw [(q1.live r hrlt nl).2]; exact hr4r
      have hQ : ∀ e'', Q e'' a' σ' → ∃ a' σ' μ', Ev w μ σ w' μ' σ' ∧ Inv w' μ' σ' ∧ RelA w' μ' σ' N av' a' ∧ Q e'' a' σ' := fun e'' h => ⟨a', σ', μ', ev4.trans q1, q2, q3, h⟩
      cases e' with
      | normal => exact hJ q4
      | exit id =>
        by_cases hid : id = nb
        · subst hid
          have q5 : ∃ y', Knows a' ((it, .raw v) :: E (done ++ [j]) y') ∧ GStep σ' (S (done ++ [j]) y') := by simpa [Aa, Ax] using q4
          show (if id = id then _ else _)
          rw [if_pos rfl]
          exact hJ q5
        · have q5 : Aa out Q (.exit id) a' σ' := by simpa [Aa, beqF hid, Ax] using q4
          show (if id = nb then _ else _)
          rw [if_neg hid]
          show (if id = out then _ else _)
          by_cases ho : id = out
          · subst ho
            rw [if_pos rfl]
            exact hQ _ (by simpa [Aa] using q5)
          · rw [if_neg ho]
            exact hQ _ (by simpa [Aa, beqF ho] using q5)
      | goto l => exact hQ _ q4
      | ret => exact hQ _ q4
      | panic ch => exact hQ _ q4
      | outgrown => exact hQ _ q4
    refine wp_block (wp_seq (wp_region ?_))
    show wpOps P _ _ (List.range (os.length + 1)) _ _
    rw [List.range_eq_range', List.range'_succ]
    refine wpOps_at rfl rfl (wp_value hent ?_)
    refine ral _ w4 μ3 inv4 hr9 _ fun e' av' w' μ' a' σ' k1 k2 k3 k4 => ?_
    cases e' with
    | normal => exact wp_mono (k4 av' w' μ' k2 k3) fun e2 av2 w2 ⟨a2, σ2, μ2, m1, m2, m3, m4⟩ => conv e2 av2 w2 μ2 a2 σ2 (k1.trans m1) m2 m3 m4
    | exit id => exact conv (.exit id) av' w' μ' a' σ' k1 k2 k3 k4
    | goto l => exact conv (.goto l) av' w' μ' a' σ' k1 k2 k3 k4
    | ret => exact conv .ret av' w' μ' a' σ' k1 k2 k3 k4
    | panic ch => exact conv (.panic ch) av' w' μ' a' σ' k1 k2 k3 k4
    | outgrown => exact conv .outgrown av' w' μ' a' σ' k1 k2 k3 k4
end
end Go.Ts
