/- Part of the proof of the law ArenaOrder: the texts UH, UL, TsN, TsO, AA, S2, RA, AK, AB. No conditions. -/
import Derived.Test.YthfgocinlbogeaaArenaOrderD
import Derived.Sort.LotA
import Derived.Sort.Walk13a
import Derived.Sort.AssemblyPlain
set_option linter.unusedSimpArgs false
set_option linter.unusedVariables false
namespace Go.Ts
theorem aw_to2 {P : Program} {N : Nat} {σ : St} {a : Env} {Q : Exit → Env → St → Prop} {c c2 : Code} (a1 : Env) (σ1 : St)
    (h : AW P N c (A3 (AW P N c2 (fun e a' σ' => e = .normal ∧ Knows a' a1 ∧ σ' = σ1)) (fun e a' σ' => e = .normal ∧ Knows a' a1 ∧ σ' = σ1)) a σ)
    (rest : ∀ a', Knows a' a1 → Q .normal a' σ1) : AW P N c (A3 (AW P N c2 Q) Q) a σ := by
  have key : ∀ e a' σ', (e = Exit.normal ∧ Knows a' a1 ∧ σ' = σ1) → Q e a' σ' := by
    rintro e a' σ' ⟨rfl, hk, rfl⟩; exact rest a' hk
  refine h.mono ?_
  intro e a' σ' h'
  cases e with
  | normal => exact AW.mono h' key
  | _ => exact key _ _ _ h'
end Go.Ts
namespace Go.Proofs.Ythfgocinlbogeaa
open Go.Ts
set_option linter.unusedSimpArgs false
set_option linter.unusedVariables false
attribute [local irreducible] Go.Ts.AW Go.Ts.AOps Go.Ts.AL Go.Ts.AOp Go.Ts.ACalls Go.Ts.DL Go.Ts.DQ0 Go.Ts.EL
open Go.Sort
structure PiX (a b n : Nat) (R : Array Nat × Bool) where
  s : Nat
  i : Nat
  jj : Nat
  d : Array Nat
  hn : d.size = n
  hj : jj + s = 5
  hi : a < i ∧ i ≤ b
  hr : partialIns ltQ a b s i d = R
structure SsX (d : Array Nat) (a b I : Nat) where
  p : Nat
  hp : a < p ∧ p ≤ b
  hr : scanSorted ltQ d b p = I
structure SdX (D : Array Nat) (n top : Nat) where
  p : Nat
  d : Array Nat
  hn : d.size = n
  hp : p ≤ top
  hr : shiftDown ltQ p d = D
structure SuX (D : Array Nat) (b n : Nat) where
  p : Nat
  d : Array Nat
  hn : d.size = n
  hp : 0 < p ∧ p ≤ b + 1
  hr : shiftUp ltQ b p d = D
theorem shiftDown_size : ∀ (p : Nat) (d : Array Nat), (shiftDown ltQ p d).size = d.size
  | 0, d => rfl
  | p + 1, d => by
    rw [shiftDown]; split
    · rfl
    · rw [shiftDown_size, size_swp]
theorem shiftUp_size (b : Nat) : ∀ (m p : Nat) (d : Array Nat), b - p ≤ m → (shiftUp ltQ b p d).size = d.size := by
  intro m
  induction m with
  | zero => intro p d h; rw [shiftUp, if_neg (by omega)]
  | succ m ih =>
    intro p d h
    rw [shiftUp]; split
    · split
      · rfl
      · rw [ih _ _ (by omega), size_swp]
    · rfl
theorem fixDown_size (a i : Nat) (d : Array Nat) : (fixDown ltQ a i d).size = d.size := by
  unfold fixDown; split
  · exact shiftDown_size _ _
  · rfl
theorem fixUp_size (b i : Nat) (d : Array Nat) : (fixUp ltQ b i d).size = d.size := by
  unfold fixUp; split
  · exact shiftUp_size b _ _ _ (Nat.le_refl _)
  · rfl
theorem scanS_ge (d : Array Nat) (b : Nat) : ∀ m p, b - p ≤ m → p ≤ b → p ≤ scanSorted ltQ d b p ∧ scanSorted ltQ d b p ≤ b := by
  intro m
  induction m with
  | zero => intro p h h2; rw [scanSorted, if_neg (by simp; omega)]; omega
  | succ m ih =>
    intro p h h2
    rw [scanSorted]; split
    · rename_i hc; simp at hc; have := ih (p + 1) (by omega) (by omega); omega
    · omega
theorem srt_pins {d0 : Array Nat} {a b : Nat} (hab : a < b) (hb : b ≤ d0.size) (hs : d0.size ≤ 4294967296) : OnRow Try.prog 108 mT [.int .i64 (a : Int), .int .i64 (b : Int)] d0
    (.bool (partialInsertionSort ltQ d0 a b).2) (partialInsertionSort ltQ d0 a b).1 := by
  intro off i n cap hn
  refine Bp (N := 133) (rs := [.tmp 6]) hG Try.func108 rfl rfl rfl rfl rfl ?_
  repeat' (first
    | ((first | (show AL _ _ _ _ _ _ _ _; refine Ae Y ?_) | (show DL _ _ _ _ _ _ _; refine' A6 Y Y (fun K kk => ?_) ?_; try (show Go.Ts.T; rotate_left))); (first
      | refine Aq hG Y Y ?_
      | refine A5 hG Y Y ?_
      | (show AOp _ _ ⟨_, .binOp .add _ _ _ _, _, _, _, _⟩ _ _ _; first | refine Ab hG Y Y Y Y Y (by omega) ?_ | refine Ab (m := 1) hG Y Y Y Y Y (by omega) ?_ | refine Aa hG Y Y Y Y Y (by omega) ?_)
      | (show AOp _ _ ⟨_, .binOp .sub _ _ _ _, _, _, _, _⟩ _ _ _; first | refine Al hG Y Y Y Y (by omega) ?_ | refine Al (m := 1) hG Y Y Y Y (by omega) ?_ | refine Aa hG Y Y Y Y Y (by omega) ?_)
      | (show AOp _ _ ⟨_, .binOp _ _ _ _ _, _, _, _, _⟩ _ _ _; first | refine Au hG Y Y Y Y Y (by omega) ?_ | refine At hG Y Y Y Y Y (by omega) ?_ | ((fail_if_success have := kk); refine Am hG Y Y Y Y Y (fun h => ?_) (fun h => ?_)))
      | (show AOp _ _ ⟨_, .load _ _, _, _, _, _⟩ _ _ _; first | refine Ak (α := Nat) 0 hG Y Y Y Y (by omega) Y ?_ | refine Ay hG Y Y Y ?_ | refine A8 0 hG Y Y Y Y ?_)
      | (show AOp _ _ ⟨_, .indexAddr _ _ _, _, _, _, _⟩ _ _ _; first | refine A4 hG Y Y Y Y Y Y Y (by omega) ?_ | refine Az hG Y Y Y Y Y Y Y (by omega) ?_ | refine Ax hG Y Y Y Y Y Y Y (by omega) ?_ | refine Bb hG Y Y ?_)
      | refine Bc hG Y Y Y ?_
      | refine Bn hG Y Y Y ?_
      | (show AOp _ _ ⟨_, .store _ _ _, _, _, _, _⟩ _ _ _; first | refine A0 (α := Nat) 0 hG Y Y Y Ai Be Y Y (by first | omega | (simp only [Array.size_setIfInBounds]; omega)) ?_ | refine Bg 0 hG Y Y Y Y Y Y Y ?_)
      | refine r_q hG Y Y Y ?_); try exact kk)
    | (show AL _ _ _ _ _ _ _ _; first | refine Bj Y Y Y ?_ | (refine Ar ?_; first | show AW _ _ _ _ _ _ | show ∃ x', _ < _ ∧ _)) | (show AW _ _ (.seq _ _) _ _ _; refine Ah ?_; intro Q1) | (show AW _ _ (.region _ _ false) _ _ _; refine Ad ?_; intro O1) | (show AW _ _ (.cond _ _ _) _ _ _; first | refine Ao Y ?_ | refine Ap Y ?_ | refine Bf Y (fun h => ?_) (fun h => ?_)) | (show AW _ _ (.skip) _ _ _; refine Aj ?_; first | show AW _ _ _ _ _ _ | show ∃ x', _ < _ ∧ _) | (show AW _ _ (.block _ _) _ _ _; refine Af ?_; intro Q1) | (show AW _ _ (.exit _) _ _ _; refine As ?_; first | show AW _ _ _ _ _ _ | show ∃ x', _ < _ ∧ _) | (show AW _ _ (.ret) _ _ _; refine Av ?_; try dsimp only [A3, Ac, A7, Ag])
    | (show DL _ _ _ _ _ _ _; refine Bt Y Y (fun K kt kf => Am hG Y Y Y Y Y kt kf) (fun h => ?_) (fun h => ?_))
    | (show DL _ _ _ _ _ _ _; refine Bu Y Y Y ?_) | (show DL _ _ _ _ _ _ _; refine Bd ?_; first | show AW _ _ _ _ _ _ | show ∃ x', _ < _ ∧ _) | (show AW _ _ (.region _ _ true) _ _ _; refine Aw mix (by kernel_rfl) ?_; intro O1) | fail)
  obtain ⟨R, hR⟩ : ∃ R, partialIns ltQ a b 5 (a + 1) d0 = R := ⟨_, rfl⟩
  have hp : partialInsertionSort ltQ d0 a b = R := hR
  refine aw_loop (X := PiX a b n R) (fun x => [(0, .aref 1 i 0 n cap), (1, .int .i64 (a : Int)), (2, .int .i64 (b : Int)), (7, .int .i64 (x.i : Int)), (8, .int .i64 (x.jj : Int))]) (fun x => ⟨[(i, .cells (rowT mT x.d))], [], off, none⟩) (fun x => x.s) ⟨5, a + 1, 0, d0, hn, rfl, by omega, hR⟩ (by repeat (first | exact .nil _ | refine .cons rfl ?_)) (.refl _) ?_
  clear hR
  rintro ⟨s, p, jj, d, hdn, hj, hi, hr⟩
  dsimp only at hr ⊢
  cases s with
  | zero =>
    rw [partialIns] at hr
    subst hr
    obtain rfl : jj = 5 := by omega
    repeat' (first
    | ((first | (show AL _ _ _ _ _ _ _ _; refine Ae Y ?_) | (show DL _ _ _ _ _ _ _; refine' A6 Y Y (fun K kk => ?_) ?_; try (show Go.Ts.T; rotate_left))); (first
      | refine Aq hG Y Y ?_
      | refine A5 hG Y Y ?_
      | (show AOp _ _ ⟨_, .binOp .add _ _ _ _, _, _, _, _⟩ _ _ _; first | refine Ab hG Y Y Y Y Y (by omega) ?_ | refine Ab (m := 1) hG Y Y Y Y Y (by omega) ?_ | refine Aa hG Y Y Y Y Y (by omega) ?_)
      | (show AOp _ _ ⟨_, .binOp .sub _ _ _ _, _, _, _, _⟩ _ _ _; first | refine Al hG Y Y Y Y (by omega) ?_ | refine Al (m := 1) hG Y Y Y Y (by omega) ?_ | refine Aa hG Y Y Y Y Y (by omega) ?_)
      | (show AOp _ _ ⟨_, .binOp _ _ _ _ _, _, _, _, _⟩ _ _ _; first | refine Au hG Y Y Y Y Y (by omega) ?_ | refine At hG Y Y Y Y Y (by omega) ?_ | ((fail_if_success have := kk); refine Am hG Y Y Y Y Y (fun h => ?_) (fun h => ?_)))
      | (show AOp _ _ ⟨_, .load _ _, _, _, _, _⟩ _ _ _; first | refine Ak (α := Nat) 0 hG Y Y Y Y (by omega) Y ?_ | refine Ay hG Y Y Y ?_ | refine A8 0 hG Y Y Y Y ?_)
      | (show AOp _ _ ⟨_, .indexAddr _ _ _, _, _, _, _⟩ _ _ _; first | refine A4 hG Y Y Y Y Y Y Y (by omega) ?_ | refine Az hG Y Y Y Y Y Y Y (by omega) ?_ | refine Ax hG Y Y Y Y Y Y Y (by omega) ?_ | refine Bb hG Y Y ?_)
      | refine Bc hG Y Y Y ?_
      | refine Bn hG Y Y Y ?_
      | (show AOp _ _ ⟨_, .store _ _ _, _, _, _, _⟩ _ _ _; first | refine A0 (α := Nat) 0 hG Y Y Y Ai Be Y Y (by first | omega | (simp only [Array.size_setIfInBounds]; omega)) ?_ | refine Bg 0 hG Y Y Y Y Y Y Y ?_)
      | refine r_q hG Y Y Y ?_); try exact kk)
    | (show AL _ _ _ _ _ _ _ _; first | refine Bj Y Y Y ?_ | (refine Ar ?_; first | show AW _ _ _ _ _ _ | show ∃ x', _ < _ ∧ _)) | (show AW _ _ (.seq _ _) _ _ _; refine Ah ?_; intro Q1) | (show AW _ _ (.region _ _ false) _ _ _; refine Ad ?_; intro O1) | (show AW _ _ (.cond _ _ _) _ _ _; first | refine Ao Y ?_ | refine Ap Y ?_ | refine Bf Y (fun h => ?_) (fun h => ?_)) | (show AW _ _ (.skip) _ _ _; refine Aj ?_; first | show AW _ _ _ _ _ _ | show ∃ x', _ < _ ∧ _) | (show AW _ _ (.block _ _) _ _ _; refine Af ?_; intro Q1) | (show AW _ _ (.exit _) _ _ _; refine As ?_; first | show AW _ _ _ _ _ _ | show ∃ x', _ < _ ∧ _) | (show AW _ _ (.ret) _ _ _; refine Av ?_; try dsimp only [A3, Ac, A7, Ag])
    | (show DL _ _ _ _ _ _ _; refine Bt Y Y (fun K kt kf => Am hG Y Y Y Y Y kt kf) (fun h => ?_) (fun h => ?_))
    | (show DL _ _ _ _ _ _ _; refine Bu Y Y Y ?_) | (show DL _ _ _ _ _ _ _; refine Bd ?_; first | show AW _ _ _ _ _ _ | show ∃ x', _ < _ ∧ _) | (show AW _ _ (.region _ _ true) _ _ _; refine Aw mix (by kernel_rfl) ?_; intro O1) | fail)
    try dsimp (config := { zetaDelta := true }) only [A3, Ac]
    rw [hp]
    refine ret_row 0 (Bq rfl Bo) ?_ (.refl _) ?_ <;> rfl
  | succ s =>
    rw [partialIns_succ] at hr
    obtain ⟨I, hI⟩ : ∃ I, scanSorted ltQ d b p = I := ⟨_, rfl⟩
    have gI := scanS_ge d b _ p (Nat.le_refl _) hi.2
    rw [hI] at gI hr
    repeat' (first
    | ((first | (show AL _ _ _ _ _ _ _ _; refine Ae Y ?_) | (show DL _ _ _ _ _ _ _; refine' A6 Y Y (fun K kk => ?_) ?_; try (show Go.Ts.T; rotate_left))); (first
      | refine Aq hG Y Y ?_
      | refine A5 hG Y Y ?_
      | (show AOp _ _ ⟨_, .binOp .add _ _ _ _, _, _, _, _⟩ _ _ _; first | refine Ab hG Y Y Y Y Y (by omega) ?_ | refine Ab (m := 1) hG Y Y Y Y Y (by omega) ?_ | refine Aa hG Y Y Y Y Y (by omega) ?_)
      | (show AOp _ _ ⟨_, .binOp .sub _ _ _ _, _, _, _, _⟩ _ _ _; first | refine Al hG Y Y Y Y (by omega) ?_ | refine Al (m := 1) hG Y Y Y Y (by omega) ?_ | refine Aa hG Y Y Y Y Y (by omega) ?_)
      | (show AOp _ _ ⟨_, .binOp _ _ _ _ _, _, _, _, _⟩ _ _ _; first | refine Au hG Y Y Y Y Y (by omega) ?_ | refine At hG Y Y Y Y Y (by omega) ?_ | ((fail_if_success have := kk); refine Am hG Y Y Y Y Y (fun h => ?_) (fun h => ?_)))
      | (show AOp _ _ ⟨_, .load _ _, _, _, _, _⟩ _ _ _; first | refine Ak (α := Nat) 0 hG Y Y Y Y (by omega) Y ?_ | refine Ay hG Y Y Y ?_ | refine A8 0 hG Y Y Y Y ?_)
      | (show AOp _ _ ⟨_, .indexAddr _ _ _, _, _, _, _⟩ _ _ _; first | refine A4 hG Y Y Y Y Y Y Y (by omega) ?_ | refine Az hG Y Y Y Y Y Y Y (by omega) ?_ | refine Ax hG Y Y Y Y Y Y Y (by omega) ?_ | refine Bb hG Y Y ?_)
      | refine Bc hG Y Y Y ?_
      | refine Bn hG Y Y Y ?_
      | (show AOp _ _ ⟨_, .store _ _ _, _, _, _, _⟩ _ _ _; first | refine A0 (α := Nat) 0 hG Y Y Y Ai Be Y Y (by first | omega | (simp only [Array.size_setIfInBounds]; omega)) ?_ | refine Bg 0 hG Y Y Y Y Y Y Y ?_)
      | refine r_q hG Y Y Y ?_); try exact kk)
    | (show AL _ _ _ _ _ _ _ _; first | refine Bj Y Y Y ?_ | (refine Ar ?_; first | show AW _ _ _ _ _ _ | show ∃ x', _ < _ ∧ _)) | (show AW _ _ (.seq _ _) _ _ _; refine Ah ?_; intro Q1) | (show AW _ _ (.region _ _ false) _ _ _; refine Ad ?_; intro O1) | (show AW _ _ (.cond _ _ _) _ _ _; first | refine Ao Y ?_ | refine Ap Y ?_ | refine Bf Y (fun h => ?_) (fun h => ?_)) | (show AW _ _ (.skip) _ _ _; refine Aj ?_; first | show AW _ _ _ _ _ _ | show ∃ x', _ < _ ∧ _) | (show AW _ _ (.block _ _) _ _ _; refine Af ?_; intro Q1) | (show AW _ _ (.exit _) _ _ _; refine As ?_; first | show AW _ _ _ _ _ _ | show ∃ x', _ < _ ∧ _) | (show AW _ _ (.ret) _ _ _; refine Av ?_; try dsimp only [A3, Ac, A7, Ag])
    | (show DL _ _ _ _ _ _ _; refine Bt Y Y (fun K kt kf => Am hG Y Y Y Y Y kt kf) (fun h => ?_) (fun h => ?_))
    | (show DL _ _ _ _ _ _ _; refine Bu Y Y Y ?_) | (show DL _ _ _ _ _ _ _; refine Bd ?_; first | show AW _ _ _ _ _ _ | show ∃ x', _ < _ ∧ _) | (show AW _ _ (.region _ _ true) _ _ _; refine Aw mix (by kernel_rfl) ?_; intro O1) | fail)
    refine aw_loop_to 2 (X := SsX d a b I) (fun x => [(0, .aref 1 i 0 n cap), (1, .int .i64 (a : Int)), (2, .int .i64 (b : Int)), (7, .int .i64 (x.p : Int)), (8, .int .i64 (jj : Int))]) (fun _ => ⟨[(i, .cells (rowT mT d))], [], off, none⟩) (fun x => b - x.p) ⟨p, by omega, hI⟩ (by repeat (first | exact .nil _ | refine .cons rfl ?_)) (.refl _) [(0, .aref 1 i 0 n cap), (1, .int .i64 (a : Int)), (2, .int .i64 (b : Int)), (7, .int .i64 (I : Int)), (8, .int .i64 (jj : Int))] (⟨[(i, .cells (rowT mT d))], [], off, none⟩) ?_ ?_
    · rintro ⟨q, hq, hrq⟩
      dsimp only at hrq ⊢
      by_cases hqb : q < b
      · repeat' (first
    | ((first | (show AL _ _ _ _ _ _ _ _; refine Ae Y ?_) | (show DL _ _ _ _ _ _ _; refine' A6 Y Y (fun K kk => ?_) ?_; try (show Go.Ts.T; rotate_left))); (first
      | refine Aq hG Y Y ?_
      | refine A5 hG Y Y ?_
      | (show AOp _ _ ⟨_, .binOp .add _ _ _ _, _, _, _, _⟩ _ _ _; first | refine Ab hG Y Y Y Y Y (by omega) ?_ | refine Ab (m := 1) hG Y Y Y Y Y (by omega) ?_ | refine Aa hG Y Y Y Y Y (by omega) ?_)
      | (show AOp _ _ ⟨_, .binOp .sub _ _ _ _, _, _, _, _⟩ _ _ _; first | refine Al hG Y Y Y Y (by omega) ?_ | refine Al (m := 1) hG Y Y Y Y (by omega) ?_ | refine Aa hG Y Y Y Y Y (by omega) ?_)
      | (show AOp _ _ ⟨_, .binOp _ _ _ _ _, _, _, _, _⟩ _ _ _; first | refine Au hG Y Y Y Y Y (by omega) ?_ | refine At hG Y Y Y Y Y (by omega) ?_ | ((fail_if_success have := kk); refine Am hG Y Y Y Y Y (fun h => ?_) (fun h => ?_)))
      | (show AOp _ _ ⟨_, .load _ _, _, _, _, _⟩ _ _ _; first | refine Ak (α := Nat) 0 hG Y Y Y Y (by omega) Y ?_ | refine Ay hG Y Y Y ?_ | refine A8 0 hG Y Y Y Y ?_)
      | (show AOp _ _ ⟨_, .indexAddr _ _ _, _, _, _, _⟩ _ _ _; first | refine A4 hG Y Y Y Y Y Y Y (by omega) ?_ | refine Az hG Y Y Y Y Y Y Y (by omega) ?_ | refine Ax hG Y Y Y Y Y Y Y (by omega) ?_ | refine Bb hG Y Y ?_)
      | refine Bc hG Y Y Y ?_
      | refine Bn hG Y Y Y ?_
      | (show AOp _ _ ⟨_, .store _ _ _, _, _, _, _⟩ _ _ _; first | refine A0 (α := Nat) 0 hG Y Y Y Ai Be Y Y (by first | omega | (simp only [Array.size_setIfInBounds]; omega)) ?_ | refine Bg 0 hG Y Y Y Y Y Y Y ?_)
      | (show AOp _ _ ⟨_, .call ⟨.value _, _, _⟩, _, _, _, _⟩ _ _ _; first | refine B0 Y Y Y Y Y (by first | (apply Ci <;> (first | assumption | omega | exact Ba _ _ | exact Bi _ | exact Bk _ _ | exact Bs _ | rfl | (simp; omega))) | fail) ?_ | fail)
      | refine r_q hG Y Y Y ?_); try exact kk)
    | (show AL _ _ _ _ _ _ _ _; first | refine Bj Y Y Y ?_ | (refine Ar ?_; first | show AW _ _ _ _ _ _ | show ∃ x', _ < _ ∧ _)) | (show AW _ _ (.seq _ _) _ _ _; refine Ah ?_; intro Q1) | (show AW _ _ (.region _ _ false) _ _ _; refine Ad ?_; intro O1) | (show AW _ _ (.cond _ _ _) _ _ _; first | refine Ao Y ?_ | refine Ap Y ?_ | refine Bf Y (fun h => ?_) (fun h => ?_)) | (show AW _ _ (.skip) _ _ _; refine Aj ?_; first | show AW _ _ _ _ _ _ | show ∃ x', _ < _ ∧ _) | (show AW _ _ (.block _ _) _ _ _; refine Af ?_; intro Q1) | (show AW _ _ (.exit _) _ _ _; refine As ?_; first | show AW _ _ _ _ _ _ | show ∃ x', _ < _ ∧ _) | (show AW _ _ (.ret) _ _ _; refine Av ?_; try dsimp only [A3, Ac, A7, Ag])
    | (show DL _ _ _ _ _ _ _; refine Bt Y Y (fun K kt kf => Am hG Y Y Y Y Y kt kf) (fun h => ?_) (fun h => ?_))
    | (show DL _ _ _ _ _ _ _; refine Bu Y Y Y ?_) | (show DL _ _ _ _ _ _ _; refine Bd ?_; first | show AW _ _ _ _ _ _ | show ∃ x', _ < _ ∧ _) | (show AW _ _ (.region _ _ true) _ _ _; refine Aw mix (by kernel_rfl) ?_; intro O1) | fail)
        · rw [scanSorted, if_pos (by simp [hqb]; simpa using h)] at hrq
          exact ⟨⟨q + 1, by omega, hrq⟩, by dsimp only; omega, (by repeat (first | exact .nil _ | refine .cons rfl ?_)), .refl _⟩
        · rw [scanSorted, if_neg (by simp [hqb]; simpa using h)] at hrq
          subst hrq
          (refine As ?_; show _ ∧ Knows _ _ ∧ _; exact ⟨rfl, (by repeat (first | exact .nil _ | refine .cons rfl ?_)), rfl⟩)
      · rw [scanSorted, if_neg (by simp [hqb])] at hrq
        subst hrq
        repeat' (first
    | ((first | (show AL _ _ _ _ _ _ _ _; refine Ae Y ?_) | (show DL _ _ _ _ _ _ _; refine' A6 Y Y (fun K kk => ?_) ?_; try (show Go.Ts.T; rotate_left))); (first
      | refine Aq hG Y Y ?_
      | refine A5 hG Y Y ?_
      | (show AOp _ _ ⟨_, .binOp .add _ _ _ _, _, _, _, _⟩ _ _ _; first | refine Ab hG Y Y Y Y Y (by omega) ?_ | refine Ab (m := 1) hG Y Y Y Y Y (by omega) ?_ | refine Aa hG Y Y Y Y Y (by omega) ?_)
      | (show AOp _ _ ⟨_, .binOp .sub _ _ _ _, _, _, _, _⟩ _ _ _; first | refine Al hG Y Y Y Y (by omega) ?_ | refine Al (m := 1) hG Y Y Y Y (by omega) ?_ | refine Aa hG Y Y Y Y Y (by omega) ?_)
      | (show AOp _ _ ⟨_, .binOp _ _ _ _ _, _, _, _, _⟩ _ _ _; first | refine Au hG Y Y Y Y Y (by omega) ?_ | refine At hG Y Y Y Y Y (by omega) ?_ | ((fail_if_success have := kk); refine Am hG Y Y Y Y Y (fun h => ?_) (fun h => ?_)))
      | (show AOp _ _ ⟨_, .load _ _, _, _, _, _⟩ _ _ _; first | refine Ak (α := Nat) 0 hG Y Y Y Y (by omega) Y ?_ | refine Ay hG Y Y Y ?_ | refine A8 0 hG Y Y Y Y ?_)
      | (show AOp _ _ ⟨_, .indexAddr _ _ _, _, _, _, _⟩ _ _ _; first | refine A4 hG Y Y Y Y Y Y Y (by omega) ?_ | refine Az hG Y Y Y Y Y Y Y (by omega) ?_ | refine Ax hG Y Y Y Y Y Y Y (by omega) ?_ | refine Bb hG Y Y ?_)
      | refine Bc hG Y Y Y ?_
      | refine Bn hG Y Y Y ?_
      | (show AOp _ _ ⟨_, .store _ _ _, _, _, _, _⟩ _ _ _; first | refine A0 (α := Nat) 0 hG Y Y Y Ai Be Y Y (by first | omega | (simp only [Array.size_setIfInBounds]; omega)) ?_ | refine Bg 0 hG Y Y Y Y Y Y Y ?_)
      | (show AOp _ _ ⟨_, .call ⟨.value _, _, _⟩, _, _, _, _⟩ _ _ _; first | refine B0 Y Y Y Y Y (by first | (apply Ci <;> (first | assumption | omega | exact Ba _ _ | exact Bi _ | exact Bk _ _ | exact Bs _ | rfl | (simp; omega))) | fail) ?_ | fail)
      | refine r_q hG Y Y Y ?_); try exact kk)
    | (show AL _ _ _ _ _ _ _ _; first | refine Bj Y Y Y ?_ | (refine Ar ?_; first | show AW _ _ _ _ _ _ | show ∃ x', _ < _ ∧ _)) | (show AW _ _ (.seq _ _) _ _ _; refine Ah ?_; intro Q1) | (show AW _ _ (.region _ _ false) _ _ _; refine Ad ?_; intro O1) | (show AW _ _ (.cond _ _ _) _ _ _; first | refine Ao Y ?_ | refine Ap Y ?_ | refine Bf Y (fun h => ?_) (fun h => ?_)) | (show AW _ _ (.skip) _ _ _; refine Aj ?_; first | show AW _ _ _ _ _ _ | show ∃ x', _ < _ ∧ _) | (show AW _ _ (.block _ _) _ _ _; refine Af ?_; intro Q1) | (show AW _ _ (.exit _) _ _ _; refine As ?_; first | show AW _ _ _ _ _ _ | show ∃ x', _ < _ ∧ _) | (show AW _ _ (.ret) _ _ _; refine Av ?_; try dsimp only [A3, Ac, A7, Ag])
    | (show DL _ _ _ _ _ _ _; refine Bt Y Y (fun K kt kf => Am hG Y Y Y Y Y kt kf) (fun h => ?_) (fun h => ?_))
    | (show DL _ _ _ _ _ _ _; refine Bu Y Y Y ?_) | (show DL _ _ _ _ _ _ _; refine Bd ?_; first | show AW _ _ _ _ _ _ | show ∃ x', _ < _ ∧ _) | (show AW _ _ (.region _ _ true) _ _ _; refine Aw mix (by kernel_rfl) ?_; intro O1) | fail)
        (refine As ?_; show _ ∧ Knows _ _ ∧ _; exact ⟨rfl, (by repeat (first | exact .nil _ | refine .cons rfl ?_)), rfl⟩)
    intro a' hk
    show AW _ _ _ _ _ _
    refine aw_forget hk ?_
    by_cases h1 : I = b
    · rw [if_pos h1] at hr
      subst hr
      repeat' (first
    | ((first | (show AL _ _ _ _ _ _ _ _; refine Ae Y ?_) | (show DL _ _ _ _ _ _ _; refine' A6 Y Y (fun K kk => ?_) ?_; try (show Go.Ts.T; rotate_left))); (first
      | refine Aq hG Y Y ?_
      | refine A5 hG Y Y ?_
      | (show AOp _ _ ⟨_, .binOp .add _ _ _ _, _, _, _, _⟩ _ _ _; first | refine Ab hG Y Y Y Y Y (by omega) ?_ | refine Ab (m := 1) hG Y Y Y Y Y (by omega) ?_ | refine Aa hG Y Y Y Y Y (by omega) ?_)
      | (show AOp _ _ ⟨_, .binOp .sub _ _ _ _, _, _, _, _⟩ _ _ _; first | refine Al hG Y Y Y Y (by omega) ?_ | refine Al (m := 1) hG Y Y Y Y (by omega) ?_ | refine Aa hG Y Y Y Y Y (by omega) ?_)
      | (show AOp _ _ ⟨_, .binOp _ _ _ _ _, _, _, _, _⟩ _ _ _; first | refine Au hG Y Y Y Y Y (by omega) ?_ | refine At hG Y Y Y Y Y (by omega) ?_ | ((fail_if_success have := kk); refine Am hG Y Y Y Y Y (fun h => ?_) (fun h => ?_)))
      | (show AOp _ _ ⟨_, .load _ _, _, _, _, _⟩ _ _ _; first | refine Ak (α := Nat) 0 hG Y Y Y Y (by omega) Y ?_ | refine Ay hG Y Y Y ?_ | refine A8 0 hG Y Y Y Y ?_)
      | (show AOp _ _ ⟨_, .indexAddr _ _ _, _, _, _, _⟩ _ _ _; first | refine A4 hG Y Y Y Y Y Y Y (by omega) ?_ | refine Az hG Y Y Y Y Y Y Y (by omega) ?_ | refine Ax hG Y Y Y Y Y Y Y (by omega) ?_ | refine Bb hG Y Y ?_)
      | refine Bc hG Y Y Y ?_
      | refine Bn hG Y Y Y ?_
      | (show AOp _ _ ⟨_, .store _ _ _, _, _, _, _⟩ _ _ _; first | refine A0 (α := Nat) 0 hG Y Y Y Ai Be Y Y (by first | omega | (simp only [Array.size_setIfInBounds]; omega)) ?_ | refine Bg 0 hG Y Y Y Y Y Y Y ?_)
      | refine r_q hG Y Y Y ?_); try exact kk)
    | (show AL _ _ _ _ _ _ _ _; first | refine Bj Y Y Y ?_ | (refine Ar ?_; first | show AW _ _ _ _ _ _ | show ∃ x', _ < _ ∧ _)) | (show AW _ _ (.seq _ _) _ _ _; refine Ah ?_; intro Q1) | (show AW _ _ (.region _ _ false) _ _ _; refine Ad ?_; intro O1) | (show AW _ _ (.cond _ _ _) _ _ _; first | refine Ao Y ?_ | refine Ap Y ?_ | refine Bf Y (fun h => ?_) (fun h => ?_)) | (show AW _ _ (.skip) _ _ _; refine Aj ?_; first | show AW _ _ _ _ _ _ | show ∃ x', _ < _ ∧ _) | (show AW _ _ (.block _ _) _ _ _; refine Af ?_; intro Q1) | (show AW _ _ (.exit _) _ _ _; refine As ?_; first | show AW _ _ _ _ _ _ | show ∃ x', _ < _ ∧ _) | (show AW _ _ (.ret) _ _ _; refine Av ?_; try dsimp only [A3, Ac, A7, Ag])
    | (show DL _ _ _ _ _ _ _; refine Bt Y Y (fun K kt kf => Am hG Y Y Y Y Y kt kf) (fun h => ?_) (fun h => ?_))
    | (show DL _ _ _ _ _ _ _; refine Bu Y Y Y ?_) | (show DL _ _ _ _ _ _ _; refine Bd ?_; first | show AW _ _ _ _ _ _ | show ∃ x', _ < _ ∧ _) | (show AW _ _ (.region _ _ true) _ _ _; refine Aw mix (by kernel_rfl) ?_; intro O1) | fail)
      try dsimp (config := { zetaDelta := true }) only [A3, Ac]
      rw [hp]
      refine ret_row 0 (Bq rfl Bo) ?_ (.refl _) ?_ <;> rfl
    · rw [if_neg h1] at hr
      by_cases h2 : b - a < 50
      · rw [if_pos h2] at hr
        subst hr
        repeat' (first
    | ((first | (show AL _ _ _ _ _ _ _ _; refine Ae Y ?_) | (show DL _ _ _ _ _ _ _; refine' A6 Y Y (fun K kk => ?_) ?_; try (show Go.Ts.T; rotate_left))); (first
      | refine Aq hG Y Y ?_
      | refine A5 hG Y Y ?_
      | (show AOp _ _ ⟨_, .binOp .add _ _ _ _, _, _, _, _⟩ _ _ _; first | refine Ab hG Y Y Y Y Y (by omega) ?_ | refine Ab (m := 1) hG Y Y Y Y Y (by omega) ?_ | refine Aa hG Y Y Y Y Y (by omega) ?_)
      | (show AOp _ _ ⟨_, .binOp .sub _ _ _ _, _, _, _, _⟩ _ _ _; first | refine Al hG Y Y Y Y (by omega) ?_ | refine Al (m := 1) hG Y Y Y Y (by omega) ?_ | refine Aa hG Y Y Y Y Y (by omega) ?_)
      | (show AOp _ _ ⟨_, .binOp _ _ _ _ _, _, _, _, _⟩ _ _ _; first | refine Au hG Y Y Y Y Y (by omega) ?_ | refine At hG Y Y Y Y Y (by omega) ?_ | ((fail_if_success have := kk); refine Am hG Y Y Y Y Y (fun h => ?_) (fun h => ?_)))
      | (show AOp _ _ ⟨_, .load _ _, _, _, _, _⟩ _ _ _; first | refine Ak (α := Nat) 0 hG Y Y Y Y (by omega) Y ?_ | refine Ay hG Y Y Y ?_ | refine A8 0 hG Y Y Y Y ?_)
      | (show AOp _ _ ⟨_, .indexAddr _ _ _, _, _, _, _⟩ _ _ _; first | refine A4 hG Y Y Y Y Y Y Y (by omega) ?_ | refine Az hG Y Y Y Y Y Y Y (by omega) ?_ | refine Ax hG Y Y Y Y Y Y Y (by omega) ?_ | refine Bb hG Y Y ?_)
      | refine Bc hG Y Y Y ?_
      | refine Bn hG Y Y Y ?_
      | (show AOp _ _ ⟨_, .store _ _ _, _, _, _, _⟩ _ _ _; first | refine A0 (α := Nat) 0 hG Y Y Y Ai Be Y Y (by first | omega | (simp only [Array.size_setIfInBounds]; omega)) ?_ | refine Bg 0 hG Y Y Y Y Y Y Y ?_)
      | refine r_q hG Y Y Y ?_); try exact kk)
    | (show AL _ _ _ _ _ _ _ _; first | refine Bj Y Y Y ?_ | (refine Ar ?_; first | show AW _ _ _ _ _ _ | show ∃ x', _ < _ ∧ _)) | (show AW _ _ (.seq _ _) _ _ _; refine Ah ?_; intro Q1) | (show AW _ _ (.region _ _ false) _ _ _; refine Ad ?_; intro O1) | (show AW _ _ (.cond _ _ _) _ _ _; first | refine Ao Y ?_ | refine Ap Y ?_ | refine Bf Y (fun h => ?_) (fun h => ?_)) | (show AW _ _ (.skip) _ _ _; refine Aj ?_; first | show AW _ _ _ _ _ _ | show ∃ x', _ < _ ∧ _) | (show AW _ _ (.block _ _) _ _ _; refine Af ?_; intro Q1) | (show AW _ _ (.exit _) _ _ _; refine As ?_; first | show AW _ _ _ _ _ _ | show ∃ x', _ < _ ∧ _) | (show AW _ _ (.ret) _ _ _; refine Av ?_; try dsimp only [A3, Ac, A7, Ag])
    | (show DL _ _ _ _ _ _ _; refine Bt Y Y (fun K kt kf => Am hG Y Y Y Y Y kt kf) (fun h => ?_) (fun h => ?_))
    | (show DL _ _ _ _ _ _ _; refine Bu Y Y Y ?_) | (show DL _ _ _ _ _ _ _; refine Bd ?_; first | show AW _ _ _ _ _ _ | show ∃ x', _ < _ ∧ _) | (show AW _ _ (.region _ _ true) _ _ _; refine Aw mix (by kernel_rfl) ?_; intro O1) | fail)
        try dsimp (config := { zetaDelta := true }) only [A3, Ac]
        rw [hp]
        refine ret_row 0 (Bq rfl Bo) ?_ (.refl _) ?_ <;> rfl
      · rw [if_neg h2] at hr
        repeat' (first
    | ((first | (show AL _ _ _ _ _ _ _ _; refine Ae Y ?_) | (show DL _ _ _ _ _ _ _; refine' A6 Y Y (fun K kk => ?_) ?_; try (show Go.Ts.T; rotate_left))); (first
      | refine Aq hG Y Y ?_
      | refine A5 hG Y Y ?_
      | (show AOp _ _ ⟨_, .binOp .add _ _ _ _, _, _, _, _⟩ _ _ _; first | refine Ab hG Y Y Y Y Y (by omega) ?_ | refine Ab (m := 1) hG Y Y Y Y Y (by omega) ?_ | refine Aa hG Y Y Y Y Y (by omega) ?_)
      | (show AOp _ _ ⟨_, .binOp .sub _ _ _ _, _, _, _, _⟩ _ _ _; first | refine Al hG Y Y Y Y (by omega) ?_ | refine Al (m := 1) hG Y Y Y Y (by omega) ?_ | refine Aa hG Y Y Y Y Y (by omega) ?_)
      | (show AOp _ _ ⟨_, .binOp _ _ _ _ _, _, _, _, _⟩ _ _ _; first | refine Au hG Y Y Y Y Y (by omega) ?_ | refine At hG Y Y Y Y Y (by omega) ?_ | ((fail_if_success have := kk); refine Am hG Y Y Y Y Y (fun h => ?_) (fun h => ?_)))
      | (show AOp _ _ ⟨_, .load _ _, _, _, _, _⟩ _ _ _; first | refine Ak (α := Nat) 0 hG Y Y Y Y (by omega) Y ?_ | refine Ay hG Y Y Y ?_ | refine A8 0 hG Y Y Y Y ?_)
      | (show AOp _ _ ⟨_, .indexAddr _ _ _, _, _, _, _⟩ _ _ _; first | refine A4 hG Y Y Y Y Y Y Y (by omega) ?_ | refine Az hG Y Y Y Y Y Y Y (by omega) ?_ | refine Ax hG Y Y Y Y Y Y Y (by omega) ?_ | refine Bb hG Y Y ?_)
      | refine Bc hG Y Y Y ?_
      | refine Bn hG Y Y Y ?_
      | (show AOp _ _ ⟨_, .store _ _ _, _, _, _, _⟩ _ _ _; first | refine A0 (α := Nat) 0 hG Y Y Y Ai Be Y Y (by first | omega | (simp only [Array.size_setIfInBounds]; omega)) ?_ | refine Bg 0 hG Y Y Y Y Y Y Y ?_)
      | refine r_q hG Y Y Y ?_); try exact kk)
    | (show AL _ _ _ _ _ _ _ _; first | refine Bj Y Y Y ?_ | (refine Ar ?_; first | show AW _ _ _ _ _ _ | show ∃ x', _ < _ ∧ _)) | (show AW _ _ (.seq _ _) _ _ _; refine Ah ?_; intro Q1) | (show AW _ _ (.region _ _ false) _ _ _; (fail_if_success show AW _ _ (.region 11 _ _) _ _ _); refine Ad ?_; intro O1) | (show AW _ _ (.cond _ _ _) _ _ _; first | refine Ao Y ?_ | refine Ap Y ?_ | refine Bf Y (fun h => ?_) (fun h => ?_)) | (show AW _ _ (.skip) _ _ _; refine Aj ?_; first | show AW _ _ _ _ _ _ | show ∃ x', _ < _ ∧ _) | (show AW _ _ (.block _ _) _ _ _; refine Af ?_; intro Q1) | (show AW _ _ (.exit _) _ _ _; refine As ?_; first | show AW _ _ _ _ _ _ | show ∃ x', _ < _ ∧ _) | (show AW _ _ (.ret) _ _ _; refine Av ?_; try dsimp only [A3, Ac, A7, Ag])
    | (show DL _ _ _ _ _ _ _; refine Bt Y Y (fun K kt kf => Am hG Y Y Y Y Y kt kf) (fun h => ?_) (fun h => ?_))
    | (show DL _ _ _ _ _ _ _; refine Bu Y Y Y ?_) | (show DL _ _ _ _ _ _ _; refine Bd ?_; first | show AW _ _ _ _ _ _ | show ∃ x', _ < _ ∧ _) | (show AW _ _ (.region _ _ true) _ _ _; (fail_if_success show AW _ _ (.region 11 _ _) _ _ _); refine Aw mix (by kernel_rfl) ?_; intro O1) | fail)
        refine Cf (m := 16) [15] [9, 13] (fun σ => ∃ c : Array Nat, c.size = n ∧ σ = ⟨[(i, .cells (rowT mT c))], [], off, none⟩) mix Y Y (by repeat (first | exact Sp.zero _ | apply Sp.succ)) ?_; intro O1 F1 Z1 Q2; repeat' (first
    | (refine' dq0_cons Y Y Y Y (fun σ hσ K kk => ?_) ?_; (try (show Go.Ts.T; rotate_left)); (obtain ⟨c, hcn, hcs⟩ := hσ; subst hcs); (first
      | refine Aq hG Y Y ?_
      | refine A5 hG Y Y ?_
      | (show AOp _ _ ⟨_, .binOp .add _ _ _ _, _, _, _, _⟩ _ _ _; first | refine Ab hG Y Y Y Y Y (by omega) ?_ | refine Ab (m := 1) hG Y Y Y Y Y (by omega) ?_ | refine Aa hG Y Y Y Y Y (by omega) ?_)
      | (show AOp _ _ ⟨_, .binOp .sub _ _ _ _, _, _, _, _⟩ _ _ _; first | refine Al hG Y Y Y Y (by omega) ?_ | refine Al (m := 1) hG Y Y Y Y (by omega) ?_ | refine r_subU (m := 1) hG Y Y Y Y (by omega) ?_ | refine Aa hG Y Y Y Y Y (by omega) ?_)
      | (show AOp _ _ ⟨_, .binOp _ _ _ _ _, _, _, _, _⟩ _ _ _; first | refine Au hG Y Y Y Y Y (by omega) ?_ | refine At hG Y Y Y Y Y (by omega) ?_)
      | (show AOp _ _ ⟨_, .load _ _, _, _, _, _⟩ _ _ _; first | refine Ak (α := Nat) 0 hG Y Y Y Y (by omega) Y ?_ | refine Ak (α := Nat) 1 hG Y Y Y Y (by omega) Y ?_ | refine Ay hG Y Y Y ?_ | refine A8 0 hG Y Y Y Y ?_)
      | (show AOp _ _ ⟨_, .indexAddr _ _ _, _, _, _, _⟩ _ _ _; first | refine A4 hG Y Y Y Y Y Y Y (by omega) ?_ | refine Az hG Y Y Y Y Y Y Y (by omega) ?_ | refine Ax hG Y Y Y Y Y Y Y (by omega) ?_ | refine Bb hG Y Y ?_)
      | refine Bc hG Y Y Y ?_
      | refine Bn hG Y Y Y ?_
      | (show AOp _ _ ⟨_, .store _ _ _, _, _, _, _⟩ _ _ _; first | refine A0 (α := Nat) 0 hG Y Y Y Ai Be Y Y (by first | omega | (simp only [Array.size_setIfInBounds]; omega)) ?_ | refine A0 (α := Nat) 1 hG Y Y Y Ai Be Y Y (by first | omega | (simp only [Array.size_setIfInBounds]; omega)) ?_ | refine Bg 0 hG Y Y Y Y Y Y Y ?_)
      | refine r_q hG Y Y Y ?_); exact kk)
    | (refine' Cg Y Y Y Y (fun K kk => ?_) ?_; (try (show Go.Ts.T; rotate_left)); (first | refine Ak 0 hG Y Y Y Y (by omega) Y ?_ | refine Ak 1 hG Y Y Y Y (by omega) Y ?_); exact kk)
    | refine dq0_e Y ?_ | (refine dq0_nil ?_; show EL _ _ _ _ _ _ _ _ _)
    | (refine Ch ⟨_, (by first | assumption | (simp only [Array.size_setIfInBounds]; omega)), Y⟩ Y Y Y (fun K ke => ?_); (first | refine A0 (α := Nat) 0 hG Y Y Y Ai Be Y Y (by first | omega | (simp only [Array.size_setIfInBounds]; omega)) ?_ | refine A0 (α := Nat) 1 hG Y Y Y Ai Be Y Y (by first | omega | (simp only [Array.size_setIfInBounds]; omega)) ?_); refine ke (.tup []) _ ?_)
    | (refine el_nil ⟨_, (by first | assumption | (simp only [Array.size_setIfInBounds]; omega)), Y⟩ ?_; show AL _ _ _ _ _ _ _ _) | fail)
        repeat' (first
    | ((first | (show AL _ _ _ _ _ _ _ _; refine Ae Y ?_) | (show DL _ _ _ _ _ _ _; refine' A6 Y Y (fun K kk => ?_) ?_; try (show Go.Ts.T; rotate_left))); (first
      | refine Aq hG Y Y ?_
      | refine A5 hG Y Y ?_
      | (show AOp _ _ ⟨_, .binOp .add _ _ _ _, _, _, _, _⟩ _ _ _; first | refine Ab hG Y Y Y Y Y (by omega) ?_ | refine Ab (m := 1) hG Y Y Y Y Y (by omega) ?_ | refine Aa hG Y Y Y Y Y (by omega) ?_)
      | (show AOp _ _ ⟨_, .binOp .sub _ _ _ _, _, _, _, _⟩ _ _ _; first | refine Al hG Y Y Y Y (by omega) ?_ | refine Al (m := 1) hG Y Y Y Y (by omega) ?_ | refine Aa hG Y Y Y Y Y (by omega) ?_)
      | (show AOp _ _ ⟨_, .binOp _ _ _ _ _, _, _, _, _⟩ _ _ _; first | refine Au hG Y Y Y Y Y (by omega) ?_ | refine At hG Y Y Y Y Y (by omega) ?_ | ((fail_if_success have := kk); refine Am hG Y Y Y Y Y (fun h => ?_) (fun h => ?_)))
      | (show AOp _ _ ⟨_, .load _ _, _, _, _, _⟩ _ _ _; first | refine Ak (α := Nat) 0 hG Y Y Y Y (by omega) Y ?_ | refine Ay hG Y Y Y ?_ | refine A8 0 hG Y Y Y Y ?_)
      | (show AOp _ _ ⟨_, .indexAddr _ _ _, _, _, _, _⟩ _ _ _; first | refine A4 hG Y Y Y Y Y Y Y (by omega) ?_ | refine Az hG Y Y Y Y Y Y Y (by omega) ?_ | refine Ax hG Y Y Y Y Y Y Y (by omega) ?_ | refine Bb hG Y Y ?_)
      | refine Bc hG Y Y Y ?_
      | refine Bn hG Y Y Y ?_
      | (show AOp _ _ ⟨_, .store _ _ _, _, _, _, _⟩ _ _ _; first | refine A0 (α := Nat) 0 hG Y Y Y Ai Be Y Y (by first | omega | (simp only [Array.size_setIfInBounds]; omega)) ?_ | refine Bg 0 hG Y Y Y Y Y Y Y ?_)
      | refine r_q hG Y Y Y ?_); try exact kk)
    | (show AL _ _ _ _ _ _ _ _; first | refine Bj Y Y Y ?_ | (refine Ar ?_; first | show AW _ _ _ _ _ _ | show ∃ x', _ < _ ∧ _)) | (show AW _ _ (.seq _ _) _ _ _; refine Ah ?_; intro Q1) | (show AW _ _ (.region _ _ false) _ _ _; (fail_if_success show AW _ _ (.region 12 _ _) _ _ _); refine Ad ?_; intro O1) | (show AW _ _ (.cond _ _ _) _ _ _; first | refine Ao Y ?_ | refine Ap Y ?_ | refine Bf Y (fun h => ?_) (fun h => ?_)) | (show AW _ _ (.skip) _ _ _; refine Aj ?_; first | show AW _ _ _ _ _ _ | show ∃ x', _ < _ ∧ _) | (show AW _ _ (.block _ _) _ _ _; refine Af ?_; intro Q1) | (show AW _ _ (.exit _) _ _ _; refine As ?_; first | show AW _ _ _ _ _ _ | show ∃ x', _ < _ ∧ _) | (show AW _ _ (.ret) _ _ _; refine Av ?_; try dsimp only [A3, Ac, A7, Ag])
    | (show DL _ _ _ _ _ _ _; refine Bt Y Y (fun K kt kf => Am hG Y Y Y Y Y kt kf) (fun h => ?_) (fun h => ?_))
    | (show DL _ _ _ _ _ _ _; refine Bu Y Y Y ?_) | (show DL _ _ _ _ _ _ _; refine Bd ?_; first | show AW _ _ _ _ _ _ | show ∃ x', _ < _ ∧ _) | (show AW _ _ (.region _ _ true) _ _ _; (fail_if_success show AW _ _ (.region 12 _ _) _ _ _); refine Aw mix (by kernel_rfl) ?_; intro O1) | fail)
        have hsn : (swp d I (I - 1)).size = n := by rw [size_swp]; exact hdn
        refine aw_to2 [(0, .aref 1 i 0 n cap), (1, .int .i64 (a : Int)), (2, .int .i64 (b : Int)), (7, .int .i64 (I : Int)), (8, .int .i64 (jj : Int))] (⟨[(i, .cells (rowT mT (fixDown ltQ a I (swp d I (I - 1)))))], [], off, none⟩) ?_ ?_
        · by_cases h3 : I - a ≥ 2
          · obtain ⟨D, hD⟩ : ∃ D, shiftDown ltQ (I - 1) (swp d I (I - 1)) = D := ⟨_, rfl⟩
            have hf : fixDown ltQ a I (swp d I (I - 1)) = D := by unfold fixDown; rw [if_pos h3]; exact hD
            rw [hf]
            repeat' (first
    | ((first | (show AL _ _ _ _ _ _ _ _; refine Ae Y ?_) | (show DL _ _ _ _ _ _ _; refine' A6 Y Y (fun K kk => ?_) ?_; try (show Go.Ts.T; rotate_left))); (first
      | refine Aq hG Y Y ?_
      | refine A5 hG Y Y ?_
      | (show AOp _ _ ⟨_, .binOp .add _ _ _ _, _, _, _, _⟩ _ _ _; first | refine Ab hG Y Y Y Y Y (by omega) ?_ | refine Ab (m := 1) hG Y Y Y Y Y (by omega) ?_ | refine Aa hG Y Y Y Y Y (by omega) ?_)
      | (show AOp _ _ ⟨_, .binOp .sub _ _ _ _, _, _, _, _⟩ _ _ _; first | refine Al hG Y Y Y Y (by omega) ?_ | refine Al (m := 1) hG Y Y Y Y (by omega) ?_ | refine Aa hG Y Y Y Y Y (by omega) ?_)
      | (show AOp _ _ ⟨_, .binOp _ _ _ _ _, _, _, _, _⟩ _ _ _; first | refine Au hG Y Y Y Y Y (by omega) ?_ | refine At hG Y Y Y Y Y (by omega) ?_ | ((fail_if_success have := kk); refine Am hG Y Y Y Y Y (fun h => ?_) (fun h => ?_)))
      | (show AOp _ _ ⟨_, .load _ _, _, _, _, _⟩ _ _ _; first | refine Ak (α := Nat) 0 hG Y Y Y Y (by omega) Y ?_ | refine Ay hG Y Y Y ?_ | refine A8 0 hG Y Y Y Y ?_)
      | (show AOp _ _ ⟨_, .indexAddr _ _ _, _, _, _, _⟩ _ _ _; first | refine A4 hG Y Y Y Y Y Y Y (by omega) ?_ | refine Az hG Y Y Y Y Y Y Y (by omega) ?_ | refine Ax hG Y Y Y Y Y Y Y (by omega) ?_ | refine Bb hG Y Y ?_)
      | refine Bc hG Y Y Y ?_
      | refine Bn hG Y Y Y ?_
      | (show AOp _ _ ⟨_, .store _ _ _, _, _, _, _⟩ _ _ _; first | refine A0 (α := Nat) 0 hG Y Y Y Ai Be Y Y (by first | omega | (simp only [Array.size_setIfInBounds]; omega)) ?_ | refine Bg 0 hG Y Y Y Y Y Y Y ?_)
      | refine r_q hG Y Y Y ?_); try exact kk)
    | (show AL _ _ _ _ _ _ _ _; first | refine Bj Y Y Y ?_ | (refine Ar ?_; first | show AW _ _ _ _ _ _ | show ∃ x', _ < _ ∧ _)) | (show AW _ _ (.seq _ _) _ _ _; refine Ah ?_; intro Q1) | (show AW _ _ (.region _ _ false) _ _ _; refine Ad ?_; intro O1) | (show AW _ _ (.cond _ _ _) _ _ _; first | refine Ao Y ?_ | refine Ap Y ?_ | refine Bf Y (fun h => ?_) (fun h => ?_)) | (show AW _ _ (.skip) _ _ _; refine Aj ?_; first | show AW _ _ _ _ _ _ | show ∃ x', _ < _ ∧ _) | (show AW _ _ (.block _ _) _ _ _; refine Af ?_; intro Q1) | (show AW _ _ (.exit _) _ _ _; refine As ?_; first | show AW _ _ _ _ _ _ | show ∃ x', _ < _ ∧ _) | (show AW _ _ (.ret) _ _ _; refine Av ?_; try dsimp only [A3, Ac, A7, Ag])
    | (show DL _ _ _ _ _ _ _; refine Bt Y Y (fun K kt kf => Am hG Y Y Y Y Y kt kf) (fun h => ?_) (fun h => ?_))
    | (show DL _ _ _ _ _ _ _; refine Bu Y Y Y ?_) | (show DL _ _ _ _ _ _ _; refine Bd ?_; first | show AW _ _ _ _ _ _ | show ∃ x', _ < _ ∧ _) | (show AW _ _ (.region _ _ true) _ _ _; refine Aw mix (by kernel_rfl) ?_; intro O1) | fail)
            refine aw_loop_to 4 (X := SdX D n (I - 1)) (fun x => [(0, .aref 1 i 0 n cap), (1, .int .i64 (a : Int)), (2, .int .i64 (b : Int)), (7, .int .i64 (I : Int)), (8, .int .i64 (jj : Int)), (9, .int .i64 (x.p : Int))]) (fun x => ⟨[(i, .cells (rowT mT x.d))], [], off, none⟩) (fun x => x.p) ⟨I - 1, swp d I (I - 1), hsn, Nat.le_refl _, hD⟩ (by repeat (first | exact .nil _ | refine .cons rfl ?_)) (.refl _) [(0, .aref 1 i 0 n cap), (1, .int .i64 (a : Int)), (2, .int .i64 (b : Int)), (7, .int .i64 (I : Int)), (8, .int .i64 (jj : Int))] (⟨[(i, .cells (rowT mT D))], [], off, none⟩) ?_ ?_
            · rintro ⟨q, e, hen, hq, hrq⟩
              dsimp only at hrq ⊢
              cases q with
              | zero =>
                rw [shiftDown] at hrq
                subst hrq
                repeat' (first
    | ((first | (show AL _ _ _ _ _ _ _ _; refine Ae Y ?_) | (show DL _ _ _ _ _ _ _; refine' A6 Y Y (fun K kk => ?_) ?_; try (show Go.Ts.T; rotate_left))); (first
      | refine Aq hG Y Y ?_
      | refine A5 hG Y Y ?_
      | (show AOp _ _ ⟨_, .binOp .add _ _ _ _, _, _, _, _⟩ _ _ _; first | refine Ab hG Y Y Y Y Y (by omega) ?_ | refine Ab (m := 1) hG Y Y Y Y Y (by omega) ?_ | refine Aa hG Y Y Y Y Y (by omega) ?_)
      | (show AOp _ _ ⟨_, .binOp .sub _ _ _ _, _, _, _, _⟩ _ _ _; first | refine Al hG Y Y Y Y (by omega) ?_ | refine Al (m := 1) hG Y Y Y Y (by omega) ?_ | refine Aa hG Y Y Y Y Y (by omega) ?_)
      | (show AOp _ _ ⟨_, .binOp _ _ _ _ _, _, _, _, _⟩ _ _ _; first | refine Au hG Y Y Y Y Y (by omega) ?_ | refine At hG Y Y Y Y Y (by omega) ?_ | ((fail_if_success have := kk); refine Am hG Y Y Y Y Y (fun h => ?_) (fun h => ?_)))
      | (show AOp _ _ ⟨_, .load _ _, _, _, _, _⟩ _ _ _; first | refine Ak (α := Nat) 0 hG Y Y Y Y (by omega) Y ?_ | refine Ay hG Y Y Y ?_ | refine A8 0 hG Y Y Y Y ?_)
      | (show AOp _ _ ⟨_, .indexAddr _ _ _, _, _, _, _⟩ _ _ _; first | refine A4 hG Y Y Y Y Y Y Y (by omega) ?_ | refine Az hG Y Y Y Y Y Y Y (by omega) ?_ | refine Ax hG Y Y Y Y Y Y Y (by omega) ?_ | refine Bb hG Y Y ?_)
      | refine Bc hG Y Y Y ?_
      | refine Bn hG Y Y Y ?_
      | (show AOp _ _ ⟨_, .store _ _ _, _, _, _, _⟩ _ _ _; first | refine A0 (α := Nat) 0 hG Y Y Y Ai Be Y Y (by first | omega | (simp only [Array.size_setIfInBounds]; omega)) ?_ | refine Bg 0 hG Y Y Y Y Y Y Y ?_)
      | (show AOp _ _ ⟨_, .call ⟨.value _, _, _⟩, _, _, _, _⟩ _ _ _; first | refine B0 Y Y Y Y Y (by first | (apply Ci <;> (first | assumption | omega | exact Ba _ _ | exact Bi _ | exact Bk _ _ | exact Bs _ | rfl | (simp; omega))) | fail) ?_ | fail)
      | refine r_q hG Y Y Y ?_); try exact kk)
    | (show AL _ _ _ _ _ _ _ _; first | refine Bj Y Y Y ?_ | (refine Ar ?_; first | show AW _ _ _ _ _ _ | show ∃ x', _ < _ ∧ _)) | (show AW _ _ (.seq _ _) _ _ _; refine Ah ?_; intro Q1) | (show AW _ _ (.region _ _ false) _ _ _; refine Ad ?_; intro O1) | (show AW _ _ (.cond _ _ _) _ _ _; first | refine Ao Y ?_ | refine Ap Y ?_ | refine Bf Y (fun h => ?_) (fun h => ?_)) | (show AW _ _ (.skip) _ _ _; refine Aj ?_; first | show AW _ _ _ _ _ _ | show ∃ x', _ < _ ∧ _) | (show AW _ _ (.block _ _) _ _ _; refine Af ?_; intro Q1) | (show AW _ _ (.exit _) _ _ _; refine As ?_; first | show AW _ _ _ _ _ _ | show ∃ x', _ < _ ∧ _) | (show AW _ _ (.ret) _ _ _; refine Av ?_; try dsimp only [A3, Ac, A7, Ag])
    | (show DL _ _ _ _ _ _ _; refine Bt Y Y (fun K kt kf => Am hG Y Y Y Y Y kt kf) (fun h => ?_) (fun h => ?_))
    | (show DL _ _ _ _ _ _ _; refine Bu Y Y Y ?_) | (show DL _ _ _ _ _ _ _; refine Bd ?_; first | show AW _ _ _ _ _ _ | show ∃ x', _ < _ ∧ _) | (show AW _ _ (.region _ _ true) _ _ _; refine Aw mix (by kernel_rfl) ?_; intro O1) | fail)
                (refine As ?_; show _ ∧ Knows _ _ ∧ _; exact ⟨rfl, (by repeat (first | exact .nil _ | refine .cons rfl ?_)), rfl⟩)
              | succ m =>
                rw [shiftDown] at hrq
                repeat' (first
    | ((first | (show AL _ _ _ _ _ _ _ _; refine Ae Y ?_) | (show DL _ _ _ _ _ _ _; refine' A6 Y Y (fun K kk => ?_) ?_; try (show Go.Ts.T; rotate_left))); (first
      | refine Aq hG Y Y ?_
      | refine A5 hG Y Y ?_
      | (show AOp _ _ ⟨_, .binOp .add _ _ _ _, _, _, _, _⟩ _ _ _; first | refine Ab hG Y Y Y Y Y (by omega) ?_ | refine Ab (m := 1) hG Y Y Y Y Y (by omega) ?_ | refine Aa hG Y Y Y Y Y (by omega) ?_)
      | (show AOp _ _ ⟨_, .binOp .sub _ _ _ _, _, _, _, _⟩ _ _ _; first | refine Al hG Y Y Y Y (by omega) ?_ | refine Al (m := 1) hG Y Y Y Y (by omega) ?_ | refine Aa hG Y Y Y Y Y (by omega) ?_)
      | (show AOp _ _ ⟨_, .binOp _ _ _ _ _, _, _, _, _⟩ _ _ _; first | refine Au hG Y Y Y Y Y (by omega) ?_ | refine At hG Y Y Y Y Y (by omega) ?_ | ((fail_if_success have := kk); refine Am hG Y Y Y Y Y (fun h => ?_) (fun h => ?_)))
      | (show AOp _ _ ⟨_, .load _ _, _, _, _, _⟩ _ _ _; first | refine Ak (α := Nat) 0 hG Y Y Y Y (by omega) Y ?_ | refine Ay hG Y Y Y ?_ | refine A8 0 hG Y Y Y Y ?_)
      | (show AOp _ _ ⟨_, .indexAddr _ _ _, _, _, _, _⟩ _ _ _; first | refine A4 hG Y Y Y Y Y Y Y (by omega) ?_ | refine Az hG Y Y Y Y Y Y Y (by omega) ?_ | refine Ax hG Y Y Y Y Y Y Y (by omega) ?_ | refine Bb hG Y Y ?_)
      | refine Bc hG Y Y Y ?_
      | refine Bn hG Y Y Y ?_
      | (show AOp _ _ ⟨_, .store _ _ _, _, _, _, _⟩ _ _ _; first | refine A0 (α := Nat) 0 hG Y Y Y Ai Be Y Y (by first | omega | (simp only [Array.size_setIfInBounds]; omega)) ?_ | refine Bg 0 hG Y Y Y Y Y Y Y ?_)
      | (show AOp _ _ ⟨_, .call ⟨.value _, _, _⟩, _, _, _, _⟩ _ _ _; first | refine B0 Y Y Y Y Y (by first | (apply Ci <;> (first | assumption | omega | exact Ba _ _ | exact Bi _ | exact Bk _ _ | exact Bs _ | rfl | (simp; omega))) | fail) ?_ | fail)
      | refine r_q hG Y Y Y ?_); try exact kk)
    | (show AL _ _ _ _ _ _ _ _; first | refine Bj Y Y Y ?_ | (refine Ar ?_; first | show AW _ _ _ _ _ _ | show ∃ x', _ < _ ∧ _)) | (show AW _ _ (.seq _ _) _ _ _; refine Ah ?_; intro Q1) | (show AW _ _ (.region _ _ false) _ _ _; (fail_if_success show AW _ _ (.region 17 _ _) _ _ _); refine Ad ?_; intro O1) | (show AW _ _ (.cond _ _ _) _ _ _; first | refine Ao Y ?_ | refine Ap Y ?_ | refine Bf Y (fun h => ?_) (fun h => ?_)) | (show AW _ _ (.skip) _ _ _; refine Aj ?_; first | show AW _ _ _ _ _ _ | show ∃ x', _ < _ ∧ _) | (show AW _ _ (.block _ _) _ _ _; refine Af ?_; intro Q1) | (show AW _ _ (.exit _) _ _ _; refine As ?_; first | show AW _ _ _ _ _ _ | show ∃ x', _ < _ ∧ _) | (show AW _ _ (.ret) _ _ _; refine Av ?_; try dsimp only [A3, Ac, A7, Ag])
    | (show DL _ _ _ _ _ _ _; refine Bt Y Y (fun K kt kf => Am hG Y Y Y Y Y kt kf) (fun h => ?_) (fun h => ?_))
    | (show DL _ _ _ _ _ _ _; refine Bu Y Y Y ?_) | (show DL _ _ _ _ _ _ _; refine Bd ?_; first | show AW _ _ _ _ _ _ | show ∃ x', _ < _ ∧ _) | (show AW _ _ (.region _ _ true) _ _ _; (fail_if_success show AW _ _ (.region 17 _ _) _ _ _); refine Aw mix (by kernel_rfl) ?_; intro O1) | fail)
                · rw [if_pos (show (!ltQ e[m + 1]! e[m]!) = true from h)] at hrq
                  subst hrq
                  (refine As ?_; show _ ∧ Knows _ _ ∧ _; exact ⟨rfl, (by repeat (first | exact .nil _ | refine .cons rfl ?_)), rfl⟩)
                · rw [if_neg (by rw [show (!ltQ e[m + 1]! e[m]!) = false from h]; simp)] at hrq
                  refine Cf (m := 16) [15] [9, 13] (fun σ => ∃ c : Array Nat, c.size = n ∧ σ = ⟨[(i, .cells (rowT mT c))], [], off, none⟩) mix Y Y (by repeat (first | exact Sp.zero _ | apply Sp.succ)) ?_; intro O1 F1 Z1 Q2; repeat' (first
    | (refine' dq0_cons Y Y Y Y (fun σ hσ K kk => ?_) ?_; (try (show Go.Ts.T; rotate_left)); (obtain ⟨c, hcn, hcs⟩ := hσ; subst hcs); (first
      | refine Aq hG Y Y ?_
      | refine A5 hG Y Y ?_
      | (show AOp _ _ ⟨_, .binOp .add _ _ _ _, _, _, _, _⟩ _ _ _; first | refine Ab hG Y Y Y Y Y (by omega) ?_ | refine Ab (m := 1) hG Y Y Y Y Y (by omega) ?_ | refine Aa hG Y Y Y Y Y (by omega) ?_)
      | (show AOp _ _ ⟨_, .binOp .sub _ _ _ _, _, _, _, _⟩ _ _ _; first | refine Al hG Y Y Y Y (by omega) ?_ | refine Al (m := 1) hG Y Y Y Y (by omega) ?_ | refine r_subU (m := 1) hG Y Y Y Y (by omega) ?_ | refine Aa hG Y Y Y Y Y (by omega) ?_)
      | (show AOp _ _ ⟨_, .binOp _ _ _ _ _, _, _, _, _⟩ _ _ _; first | refine Au hG Y Y Y Y Y (by omega) ?_ | refine At hG Y Y Y Y Y (by omega) ?_)
      | (show AOp _ _ ⟨_, .load _ _, _, _, _, _⟩ _ _ _; first | refine Ak (α := Nat) 0 hG Y Y Y Y (by omega) Y ?_ | refine Ak (α := Nat) 1 hG Y Y Y Y (by omega) Y ?_ | refine Ay hG Y Y Y ?_ | refine A8 0 hG Y Y Y Y ?_)
      | (show AOp _ _ ⟨_, .indexAddr _ _ _, _, _, _, _⟩ _ _ _; first | refine A4 hG Y Y Y Y Y Y Y (by omega) ?_ | refine Az hG Y Y Y Y Y Y Y (by omega) ?_ | refine Ax hG Y Y Y Y Y Y Y (by omega) ?_ | refine Bb hG Y Y ?_)
      | refine Bc hG Y Y Y ?_
      | refine Bn hG Y Y Y ?_
      | (show AOp _ _ ⟨_, .store _ _ _, _, _, _, _⟩ _ _ _; first | refine A0 (α := Nat) 0 hG Y Y Y Ai Be Y Y (by first | omega | (simp only [Array.size_setIfInBounds]; omega)) ?_ | refine A0 (α := Nat) 1 hG Y Y Y Ai Be Y Y (by first | omega | (simp only [Array.size_setIfInBounds]; omega)) ?_ | refine Bg 0 hG Y Y Y Y Y Y Y ?_)
      | refine r_q hG Y Y Y ?_); exact kk)
    | (refine' Cg Y Y Y Y (fun K kk => ?_) ?_; (try (show Go.Ts.T; rotate_left)); (first | refine Ak 0 hG Y Y Y Y (by omega) Y ?_ | refine Ak 1 hG Y Y Y Y (by omega) Y ?_); exact kk)
    | refine dq0_e Y ?_ | (refine dq0_nil ?_; show EL _ _ _ _ _ _ _ _ _)
    | (refine Ch ⟨_, (by first | assumption | (simp only [Array.size_setIfInBounds]; omega)), Y⟩ Y Y Y (fun K ke => ?_); (first | refine A0 (α := Nat) 0 hG Y Y Y Ai Be Y Y (by first | omega | (simp only [Array.size_setIfInBounds]; omega)) ?_ | refine A0 (α := Nat) 1 hG Y Y Y Ai Be Y Y (by first | omega | (simp only [Array.size_setIfInBounds]; omega)) ?_); refine ke (.tup []) _ ?_)
    | (refine el_nil ⟨_, (by first | assumption | (simp only [Array.size_setIfInBounds]; omega)), Y⟩ ?_; show AL _ _ _ _ _ _ _ _) | fail)
                  repeat' (first
    | ((first | (show AL _ _ _ _ _ _ _ _; refine Ae Y ?_) | (show DL _ _ _ _ _ _ _; refine' A6 Y Y (fun K kk => ?_) ?_; try (show Go.Ts.T; rotate_left))); (first
      | refine Aq hG Y Y ?_
      | refine A5 hG Y Y ?_
      | (show AOp _ _ ⟨_, .binOp .add _ _ _ _, _, _, _, _⟩ _ _ _; first | refine Ab hG Y Y Y Y Y (by omega) ?_ | refine Ab (m := 1) hG Y Y Y Y Y (by omega) ?_ | refine Aa hG Y Y Y Y Y (by omega) ?_)
      | (show AOp _ _ ⟨_, .binOp .sub _ _ _ _, _, _, _, _⟩ _ _ _; first | refine Al hG Y Y Y Y (by omega) ?_ | refine Al (m := 1) hG Y Y Y Y (by omega) ?_ | refine Aa hG Y Y Y Y Y (by omega) ?_)
      | (show AOp _ _ ⟨_, .binOp _ _ _ _ _, _, _, _, _⟩ _ _ _; first | refine Au hG Y Y Y Y Y (by omega) ?_ | refine At hG Y Y Y Y Y (by omega) ?_ | ((fail_if_success have := kk); refine Am hG Y Y Y Y Y (fun h => ?_) (fun h => ?_)))
      | (show AOp _ _ ⟨_, .load _ _, _, _, _, _⟩ _ _ _; first | refine Ak (α := Nat) 0 hG Y Y Y Y (by omega) Y ?_ | refine Ay hG Y Y Y ?_ | refine A8 0 hG Y Y Y Y ?_)
      | (show AOp _ _ ⟨_, .indexAddr _ _ _, _, _, _, _⟩ _ _ _; first | refine A4 hG Y Y Y Y Y Y Y (by omega) ?_ | refine Az hG Y Y Y Y Y Y Y (by omega) ?_ | refine Ax hG Y Y Y Y Y Y Y (by omega) ?_ | refine Bb hG Y Y ?_)
      | refine Bc hG Y Y Y ?_
      | refine Bn hG Y Y Y ?_
      | (show AOp _ _ ⟨_, .store _ _ _, _, _, _, _⟩ _ _ _; first | refine A0 (α := Nat) 0 hG Y Y Y Ai Be Y Y (by first | omega | (simp only [Array.size_setIfInBounds]; omega)) ?_ | refine Bg 0 hG Y Y Y Y Y Y Y ?_)
      | refine r_q hG Y Y Y ?_); try exact kk)
    | (show AL _ _ _ _ _ _ _ _; first | refine Bj Y Y Y ?_ | (refine Ar ?_; first | show AW _ _ _ _ _ _ | show ∃ x', _ < _ ∧ _)) | (show AW _ _ (.seq _ _) _ _ _; refine Ah ?_; intro Q1) | (show AW _ _ (.region _ _ false) _ _ _; refine Ad ?_; intro O1) | (show AW _ _ (.cond _ _ _) _ _ _; first | refine Ao Y ?_ | refine Ap Y ?_ | refine Bf Y (fun h => ?_) (fun h => ?_)) | (show AW _ _ (.skip) _ _ _; refine Aj ?_; first | show AW _ _ _ _ _ _ | show ∃ x', _ < _ ∧ _) | (show AW _ _ (.block _ _) _ _ _; refine Af ?_; intro Q1) | (show AW _ _ (.exit _) _ _ _; refine As ?_; first | show AW _ _ _ _ _ _ | show ∃ x', _ < _ ∧ _) | (show AW _ _ (.ret) _ _ _; refine Av ?_; try dsimp only [A3, Ac, A7, Ag])
    | (show DL _ _ _ _ _ _ _; refine Bt Y Y (fun K kt kf => Am hG Y Y Y Y Y kt kf) (fun h => ?_) (fun h => ?_))
    | (show DL _ _ _ _ _ _ _; refine Bu Y Y Y ?_) | (show DL _ _ _ _ _ _ _; refine Bd ?_; first | show AW _ _ _ _ _ _ | show ∃ x', _ < _ ∧ _) | (show AW _ _ (.region _ _ true) _ _ _; refine Aw mix (by kernel_rfl) ?_; intro O1) | fail)
                  exact ⟨⟨m, swp e (m + 1) m, by rw [size_swp]; exact hen, by omega, hrq⟩, by dsimp only; omega, (by repeat (first | exact .nil _ | refine .cons rfl ?_)), .refl _⟩
            · intro a' hk
              exact ⟨rfl, hk, rfl⟩
          · have hf : fixDown ltQ a I (swp d I (I - 1)) = swp d I (I - 1) := by unfold fixDown; rw [if_neg h3]
            rw [hf]
            repeat' (first
    | ((first | (show AL _ _ _ _ _ _ _ _; refine Ae Y ?_) | (show DL _ _ _ _ _ _ _; refine' A6 Y Y (fun K kk => ?_) ?_; try (show Go.Ts.T; rotate_left))); (first
      | refine Aq hG Y Y ?_
      | refine A5 hG Y Y ?_
      | (show AOp _ _ ⟨_, .binOp .add _ _ _ _, _, _, _, _⟩ _ _ _; first | refine Ab hG Y Y Y Y Y (by omega) ?_ | refine Ab (m := 1) hG Y Y Y Y Y (by omega) ?_ | refine Aa hG Y Y Y Y Y (by omega) ?_)
      | (show AOp _ _ ⟨_, .binOp .sub _ _ _ _, _, _, _, _⟩ _ _ _; first | refine Al hG Y Y Y Y (by omega) ?_ | refine Al (m := 1) hG Y Y Y Y (by omega) ?_ | refine Aa hG Y Y Y Y Y (by omega) ?_)
      | (show AOp _ _ ⟨_, .binOp _ _ _ _ _, _, _, _, _⟩ _ _ _; first | refine Au hG Y Y Y Y Y (by omega) ?_ | refine At hG Y Y Y Y Y (by omega) ?_ | ((fail_if_success have := kk); refine Am hG Y Y Y Y Y (fun h => ?_) (fun h => ?_)))
      | (show AOp _ _ ⟨_, .load _ _, _, _, _, _⟩ _ _ _; first | refine Ak (α := Nat) 0 hG Y Y Y Y (by omega) Y ?_ | refine Ay hG Y Y Y ?_ | refine A8 0 hG Y Y Y Y ?_)
      | (show AOp _ _ ⟨_, .indexAddr _ _ _, _, _, _, _⟩ _ _ _; first | refine A4 hG Y Y Y Y Y Y Y (by omega) ?_ | refine Az hG Y Y Y Y Y Y Y (by omega) ?_ | refine Ax hG Y Y Y Y Y Y Y (by omega) ?_ | refine Bb hG Y Y ?_)
      | refine Bc hG Y Y Y ?_
      | refine Bn hG Y Y Y ?_
      | (show AOp _ _ ⟨_, .store _ _ _, _, _, _, _⟩ _ _ _; first | refine A0 (α := Nat) 0 hG Y Y Y Ai Be Y Y (by first | omega | (simp only [Array.size_setIfInBounds]; omega)) ?_ | refine Bg 0 hG Y Y Y Y Y Y Y ?_)
      | refine r_q hG Y Y Y ?_); try exact kk)
    | (show AL _ _ _ _ _ _ _ _; first | refine Bj Y Y Y ?_ | (refine Ar ?_; first | show AW _ _ _ _ _ _ | show ∃ x', _ < _ ∧ _)) | (show AW _ _ (.seq _ _) _ _ _; refine Ah ?_; intro Q1) | (show AW _ _ (.region _ _ false) _ _ _; refine Ad ?_; intro O1) | (show AW _ _ (.cond _ _ _) _ _ _; first | refine Ao Y ?_ | refine Ap Y ?_ | refine Bf Y (fun h => ?_) (fun h => ?_)) | (show AW _ _ (.skip) _ _ _; refine Aj ?_; first | show AW _ _ _ _ _ _ | show ∃ x', _ < _ ∧ _) | (show AW _ _ (.block _ _) _ _ _; refine Af ?_; intro Q1) | (show AW _ _ (.exit _) _ _ _; refine As ?_; first | show AW _ _ _ _ _ _ | show ∃ x', _ < _ ∧ _) | (show AW _ _ (.ret) _ _ _; refine Av ?_; try dsimp only [A3, Ac, A7, Ag])
    | (show DL _ _ _ _ _ _ _; refine Bt Y Y (fun K kt kf => Am hG Y Y Y Y Y kt kf) (fun h => ?_) (fun h => ?_))
    | (show DL _ _ _ _ _ _ _; refine Bu Y Y Y ?_) | (show DL _ _ _ _ _ _ _; refine Bd ?_; first | show AW _ _ _ _ _ _ | show ∃ x', _ < _ ∧ _) | (show AW _ _ (.region _ _ true) _ _ _; refine Aw mix (by kernel_rfl) ?_; intro O1) | fail)
            refine Aj ?_
            exact ⟨rfl, (by repeat (first | exact .nil _ | refine .cons rfl ?_)), rfl⟩
        intro a' hk
        show AW _ _ _ _ _ _
        refine aw_forget hk ?_
        have hfn : (fixDown ltQ a I (swp d I (I - 1))).size = n := by rw [fixDown_size]; exact hsn
        obtain ⟨g, hg⟩ : ∃ g, fixDown ltQ a I (swp d I (I - 1)) = g := ⟨_, rfl⟩
        rw [hg] at hr hfn ⊢
        repeat' (first
    | ((first | (show AL _ _ _ _ _ _ _ _; refine Ae Y ?_) | (show DL _ _ _ _ _ _ _; refine' A6 Y Y (fun K kk => ?_) ?_; try (show Go.Ts.T; rotate_left))); (first
      | refine Aq hG Y Y ?_
      | refine A5 hG Y Y ?_
      | (show AOp _ _ ⟨_, .binOp .add _ _ _ _, _, _, _, _⟩ _ _ _; first | refine Ab hG Y Y Y Y Y (by omega) ?_ | refine Ab (m := 1) hG Y Y Y Y Y (by omega) ?_ | refine Aa hG Y Y Y Y Y (by omega) ?_)
      | (show AOp _ _ ⟨_, .binOp .sub _ _ _ _, _, _, _, _⟩ _ _ _; first | refine Al hG Y Y Y Y (by omega) ?_ | refine Al (m := 1) hG Y Y Y Y (by omega) ?_ | refine Aa hG Y Y Y Y Y (by omega) ?_)
      | (show AOp _ _ ⟨_, .binOp _ _ _ _ _, _, _, _, _⟩ _ _ _; first | refine Au hG Y Y Y Y Y (by omega) ?_ | refine At hG Y Y Y Y Y (by omega) ?_ | ((fail_if_success have := kk); refine Am hG Y Y Y Y Y (fun h => ?_) (fun h => ?_)))
      | (show AOp _ _ ⟨_, .load _ _, _, _, _, _⟩ _ _ _; first | refine Ak (α := Nat) 0 hG Y Y Y Y (by omega) Y ?_ | refine Ay hG Y Y Y ?_ | refine A8 0 hG Y Y Y Y ?_)
      | (show AOp _ _ ⟨_, .indexAddr _ _ _, _, _, _, _⟩ _ _ _; first | refine A4 hG Y Y Y Y Y Y Y (by omega) ?_ | refine Az hG Y Y Y Y Y Y Y (by omega) ?_ | refine Ax hG Y Y Y Y Y Y Y (by omega) ?_ | refine Bb hG Y Y ?_)
      | refine Bc hG Y Y Y ?_
      | refine Bn hG Y Y Y ?_
      | (show AOp _ _ ⟨_, .store _ _ _, _, _, _, _⟩ _ _ _; first | refine A0 (α := Nat) 0 hG Y Y Y Ai Be Y Y (by first | omega | (simp only [Array.size_setIfInBounds]; omega)) ?_ | refine Bg 0 hG Y Y Y Y Y Y Y ?_)
      | refine r_q hG Y Y Y ?_); try exact kk)
    | (show AL _ _ _ _ _ _ _ _; first | refine Bj Y Y Y ?_ | (refine Ar ?_; first | show AW _ _ _ _ _ _ | show ∃ x', _ < _ ∧ _)) | (show AW _ _ (.seq _ _) _ _ _; refine Ah ?_; intro Q1) | (show AW _ _ (.region _ _ false) _ _ _; (fail_if_success show AW _ _ (.region 18 _ _) _ _ _); refine Ad ?_; intro O1) | (show AW _ _ (.cond _ _ _) _ _ _; first | refine Ao Y ?_ | refine Ap Y ?_ | refine Bf Y (fun h => ?_) (fun h => ?_)) | (show AW _ _ (.skip) _ _ _; refine Aj ?_; first | show AW _ _ _ _ _ _ | show ∃ x', _ < _ ∧ _) | (show AW _ _ (.block _ _) _ _ _; refine Af ?_; intro Q1) | (show AW _ _ (.exit _) _ _ _; refine As ?_; first | show AW _ _ _ _ _ _ | show ∃ x', _ < _ ∧ _) | (show AW _ _ (.ret) _ _ _; refine Av ?_; try dsimp only [A3, Ac, A7, Ag])
    | (show DL _ _ _ _ _ _ _; refine Bt Y Y (fun K kt kf => Am hG Y Y Y Y Y kt kf) (fun h => ?_) (fun h => ?_))
    | (show DL _ _ _ _ _ _ _; refine Bu Y Y Y ?_) | (show DL _ _ _ _ _ _ _; refine Bd ?_; first | show AW _ _ _ _ _ _ | show ∃ x', _ < _ ∧ _) | (show AW _ _ (.region _ _ true) _ _ _; (fail_if_success show AW _ _ (.region 18 _ _) _ _ _); refine Aw mix (by kernel_rfl) ?_; intro O1) | fail)
        refine aw_to2 [(0, .aref 1 i 0 n cap), (1, .int .i64 (a : Int)), (2, .int .i64 (b : Int)), (7, .int .i64 (I : Int)), (8, .int .i64 (jj : Int))] (⟨[(i, .cells (rowT mT (fixUp ltQ b I g)))], [], off, none⟩) ?_ ?_
        · by_cases h3 : b - I ≥ 2
          · obtain ⟨D, hD⟩ : ∃ D, shiftUp ltQ b (I + 1) g = D := ⟨_, rfl⟩
            have hf : fixUp ltQ b I g = D := by unfold fixUp; rw [if_pos h3]; exact hD
            rw [hf]
            repeat' (first
    | ((first | (show AL _ _ _ _ _ _ _ _; refine Ae Y ?_) | (show DL _ _ _ _ _ _ _; refine' A6 Y Y (fun K kk => ?_) ?_; try (show Go.Ts.T; rotate_left))); (first
      | refine Aq hG Y Y ?_
      | refine A5 hG Y Y ?_
      | (show AOp _ _ ⟨_, .binOp .add _ _ _ _, _, _, _, _⟩ _ _ _; first | refine Ab hG Y Y Y Y Y (by omega) ?_ | refine Ab (m := 1) hG Y Y Y Y Y (by omega) ?_ | refine Aa hG Y Y Y Y Y (by omega) ?_)
      | (show AOp _ _ ⟨_, .binOp .sub _ _ _ _, _, _, _, _⟩ _ _ _; first | refine Al hG Y Y Y Y (by omega) ?_ | refine Al (m := 1) hG Y Y Y Y (by omega) ?_ | refine Aa hG Y Y Y Y Y (by omega) ?_)
      | (show AOp _ _ ⟨_, .binOp _ _ _ _ _, _, _, _, _⟩ _ _ _; first | refine Au hG Y Y Y Y Y (by omega) ?_ | refine At hG Y Y Y Y Y (by omega) ?_ | ((fail_if_success have := kk); refine Am hG Y Y Y Y Y (fun h => ?_) (fun h => ?_)))
      | (show AOp _ _ ⟨_, .load _ _, _, _, _, _⟩ _ _ _; first | refine Ak (α := Nat) 0 hG Y Y Y Y (by omega) Y ?_ | refine Ay hG Y Y Y ?_ | refine A8 0 hG Y Y Y Y ?_)
      | (show AOp _ _ ⟨_, .indexAddr _ _ _, _, _, _, _⟩ _ _ _; first | refine A4 hG Y Y Y Y Y Y Y (by omega) ?_ | refine Az hG Y Y Y Y Y Y Y (by omega) ?_ | refine Ax hG Y Y Y Y Y Y Y (by omega) ?_ | refine Bb hG Y Y ?_)
      | refine Bc hG Y Y Y ?_
      | refine Bn hG Y Y Y ?_
      | (show AOp _ _ ⟨_, .store _ _ _, _, _, _, _⟩ _ _ _; first | refine A0 (α := Nat) 0 hG Y Y Y Ai Be Y Y (by first | omega | (simp only [Array.size_setIfInBounds]; omega)) ?_ | refine Bg 0 hG Y Y Y Y Y Y Y ?_)
      | refine r_q hG Y Y Y ?_); try exact kk)
    | (show AL _ _ _ _ _ _ _ _; first | refine Bj Y Y Y ?_ | (refine Ar ?_; first | show AW _ _ _ _ _ _ | show ∃ x', _ < _ ∧ _)) | (show AW _ _ (.seq _ _) _ _ _; refine Ah ?_; intro Q1) | (show AW _ _ (.region _ _ false) _ _ _; refine Ad ?_; intro O1) | (show AW _ _ (.cond _ _ _) _ _ _; first | refine Ao Y ?_ | refine Ap Y ?_ | refine Bf Y (fun h => ?_) (fun h => ?_)) | (show AW _ _ (.skip) _ _ _; refine Aj ?_; first | show AW _ _ _ _ _ _ | show ∃ x', _ < _ ∧ _) | (show AW _ _ (.block _ _) _ _ _; refine Af ?_; intro Q1) | (show AW _ _ (.exit _) _ _ _; refine As ?_; first | show AW _ _ _ _ _ _ | show ∃ x', _ < _ ∧ _) | (show AW _ _ (.ret) _ _ _; refine Av ?_; try dsimp only [A3, Ac, A7, Ag])
    | (show DL _ _ _ _ _ _ _; refine Bt Y Y (fun K kt kf => Am hG Y Y Y Y Y kt kf) (fun h => ?_) (fun h => ?_))
    | (show DL _ _ _ _ _ _ _; refine Bu Y Y Y ?_) | (show DL _ _ _ _ _ _ _; refine Bd ?_; first | show AW _ _ _ _ _ _ | show ∃ x', _ < _ ∧ _) | (show AW _ _ (.region _ _ true) _ _ _; refine Aw mix (by kernel_rfl) ?_; intro O1) | fail)
            refine aw_loop_to 6 (X := SuX D b n) (fun x => [(0, .aref 1 i 0 n cap), (1, .int .i64 (a : Int)), (2, .int .i64 (b : Int)), (7, .int .i64 (I : Int)), (8, .int .i64 (jj : Int)), (10, .int .i64 (x.p : Int))]) (fun x => ⟨[(i, .cells (rowT mT x.d))], [], off, none⟩) (fun x => b - x.p) ⟨I + 1, g, hfn, by omega, hD⟩ (by repeat (first | exact .nil _ | refine .cons rfl ?_)) (.refl _) [(0, .aref 1 i 0 n cap), (1, .int .i64 (a : Int)), (2, .int .i64 (b : Int)), (7, .int .i64 (I : Int)), (8, .int .i64 (jj : Int))] (⟨[(i, .cells (rowT mT D))], [], off, none⟩) ?_ ?_
            · rintro ⟨q, e, hen, hq, hrq⟩
              dsimp only at hrq ⊢
              by_cases hqb : q < b
              · rw [shiftUp, if_pos hqb] at hrq
                repeat' (first
    | ((first | (show AL _ _ _ _ _ _ _ _; refine Ae Y ?_) | (show DL _ _ _ _ _ _ _; refine' A6 Y Y (fun K kk => ?_) ?_; try (show Go.Ts.T; rotate_left))); (first
      | refine Aq hG Y Y ?_
      | refine A5 hG Y Y ?_
      | (show AOp _ _ ⟨_, .binOp .add _ _ _ _, _, _, _, _⟩ _ _ _; first | refine Ab hG Y Y Y Y Y (by omega) ?_ | refine Ab (m := 1) hG Y Y Y Y Y (by omega) ?_ | refine Aa hG Y Y Y Y Y (by omega) ?_)
      | (show AOp _ _ ⟨_, .binOp .sub _ _ _ _, _, _, _, _⟩ _ _ _; first | refine Al hG Y Y Y Y (by omega) ?_ | refine Al (m := 1) hG Y Y Y Y (by omega) ?_ | refine Aa hG Y Y Y Y Y (by omega) ?_)
      | (show AOp _ _ ⟨_, .binOp _ _ _ _ _, _, _, _, _⟩ _ _ _; first | refine Au hG Y Y Y Y Y (by omega) ?_ | refine At hG Y Y Y Y Y (by omega) ?_ | ((fail_if_success have := kk); refine Am hG Y Y Y Y Y (fun h => ?_) (fun h => ?_)))
      | (show AOp _ _ ⟨_, .load _ _, _, _, _, _⟩ _ _ _; first | refine Ak (α := Nat) 0 hG Y Y Y Y (by omega) Y ?_ | refine Ay hG Y Y Y ?_ | refine A8 0 hG Y Y Y Y ?_)
      | (show AOp _ _ ⟨_, .indexAddr _ _ _, _, _, _, _⟩ _ _ _; first | refine A4 hG Y Y Y Y Y Y Y (by omega) ?_ | refine Az hG Y Y Y Y Y Y Y (by omega) ?_ | refine Ax hG Y Y Y Y Y Y Y (by omega) ?_ | refine Bb hG Y Y ?_)
      | refine Bc hG Y Y Y ?_
      | refine Bn hG Y Y Y ?_
      | (show AOp _ _ ⟨_, .store _ _ _, _, _, _, _⟩ _ _ _; first | refine A0 (α := Nat) 0 hG Y Y Y Ai Be Y Y (by first | omega | (simp only [Array.size_setIfInBounds]; omega)) ?_ | refine Bg 0 hG Y Y Y Y Y Y Y ?_)
      | (show AOp _ _ ⟨_, .call ⟨.value _, _, _⟩, _, _, _, _⟩ _ _ _; first | refine B0 Y Y Y Y Y (by first | (apply Ci <;> (first | assumption | omega | exact Ba _ _ | exact Bi _ | exact Bk _ _ | exact Bs _ | rfl | (simp; omega))) | fail) ?_ | fail)
      | refine r_q hG Y Y Y ?_); try exact kk)
    | (show AL _ _ _ _ _ _ _ _; first | refine Bj Y Y Y ?_ | (refine Ar ?_; first | show AW _ _ _ _ _ _ | show ∃ x', _ < _ ∧ _)) | (show AW _ _ (.seq _ _) _ _ _; refine Ah ?_; intro Q1) | (show AW _ _ (.region _ _ false) _ _ _; (fail_if_success show AW _ _ (.region 23 _ _) _ _ _); refine Ad ?_; intro O1) | (show AW _ _ (.cond _ _ _) _ _ _; first | refine Ao Y ?_ | refine Ap Y ?_ | refine Bf Y (fun h => ?_) (fun h => ?_)) | (show AW _ _ (.skip) _ _ _; refine Aj ?_; first | show AW _ _ _ _ _ _ | show ∃ x', _ < _ ∧ _) | (show AW _ _ (.block _ _) _ _ _; refine Af ?_; intro Q1) | (show AW _ _ (.exit _) _ _ _; refine As ?_; first | show AW _ _ _ _ _ _ | show ∃ x', _ < _ ∧ _) | (show AW _ _ (.ret) _ _ _; refine Av ?_; try dsimp only [A3, Ac, A7, Ag])
    | (show DL _ _ _ _ _ _ _; refine Bt Y Y (fun K kt kf => Am hG Y Y Y Y Y kt kf) (fun h => ?_) (fun h => ?_))
    | (show DL _ _ _ _ _ _ _; refine Bu Y Y Y ?_) | (show DL _ _ _ _ _ _ _; refine Bd ?_; first | show AW _ _ _ _ _ _ | show ∃ x', _ < _ ∧ _) | (show AW _ _ (.region _ _ true) _ _ _; (fail_if_success show AW _ _ (.region 23 _ _) _ _ _); refine Aw mix (by kernel_rfl) ?_; intro O1) | fail)
                · rw [if_pos h] at hrq
                  subst hrq
                  (refine As ?_; show _ ∧ Knows _ _ ∧ _; exact ⟨rfl, (by repeat (first | exact .nil _ | refine .cons rfl ?_)), rfl⟩)
                · rw [if_neg (by rw [h]; simp)] at hrq
                  refine Cf (m := 16) [15] [9, 13] (fun σ => ∃ c : Array Nat, c.size = n ∧ σ = ⟨[(i, .cells (rowT mT c))], [], off, none⟩) mix Y Y (by repeat (first | exact Sp.zero _ | apply Sp.succ)) ?_; intro O1 F1 Z1 Q2; repeat' (first
    | (refine' dq0_cons Y Y Y Y (fun σ hσ K kk => ?_) ?_; (try (show Go.Ts.T; rotate_left)); (obtain ⟨c, hcn, hcs⟩ := hσ; subst hcs); (first
      | refine Aq hG Y Y ?_
      | refine A5 hG Y Y ?_
      | (show AOp _ _ ⟨_, .binOp .add _ _ _ _, _, _, _, _⟩ _ _ _; first | refine Ab hG Y Y Y Y Y (by omega) ?_ | refine Ab (m := 1) hG Y Y Y Y Y (by omega) ?_ | refine Aa hG Y Y Y Y Y (by omega) ?_)
      | (show AOp _ _ ⟨_, .binOp .sub _ _ _ _, _, _, _, _⟩ _ _ _; first | refine Al hG Y Y Y Y (by omega) ?_ | refine Al (m := 1) hG Y Y Y Y (by omega) ?_ | refine r_subU (m := 1) hG Y Y Y Y (by omega) ?_ | refine Aa hG Y Y Y Y Y (by omega) ?_)
      | (show AOp _ _ ⟨_, .binOp _ _ _ _ _, _, _, _, _⟩ _ _ _; first | refine Au hG Y Y Y Y Y (by omega) ?_ | refine At hG Y Y Y Y Y (by omega) ?_)
      | (show AOp _ _ ⟨_, .load _ _, _, _, _, _⟩ _ _ _; first | refine Ak (α := Nat) 0 hG Y Y Y Y (by omega) Y ?_ | refine Ak (α := Nat) 1 hG Y Y Y Y (by omega) Y ?_ | refine Ay hG Y Y Y ?_ | refine A8 0 hG Y Y Y Y ?_)
      | (show AOp _ _ ⟨_, .indexAddr _ _ _, _, _, _, _⟩ _ _ _; first | refine A4 hG Y Y Y Y Y Y Y (by omega) ?_ | refine Az hG Y Y Y Y Y Y Y (by omega) ?_ | refine Ax hG Y Y Y Y Y Y Y (by omega) ?_ | refine Bb hG Y Y ?_)
      | refine Bc hG Y Y Y ?_
      | refine Bn hG Y Y Y ?_
      | (show AOp _ _ ⟨_, .store _ _ _, _, _, _, _⟩ _ _ _; first | refine A0 (α := Nat) 0 hG Y Y Y Ai Be Y Y (by first | omega | (simp only [Array.size_setIfInBounds]; omega)) ?_ | refine A0 (α := Nat) 1 hG Y Y Y Ai Be Y Y (by first | omega | (simp only [Array.size_setIfInBounds]; omega)) ?_ | refine Bg 0 hG Y Y Y Y Y Y Y ?_)
      | refine r_q hG Y Y Y ?_); exact kk)
    | (refine' Cg Y Y Y Y (fun K kk => ?_) ?_; (try (show Go.Ts.T; rotate_left)); (first | refine Ak 0 hG Y Y Y Y (by omega) Y ?_ | refine Ak 1 hG Y Y Y Y (by omega) Y ?_); exact kk)
    | refine dq0_e Y ?_ | (refine dq0_nil ?_; show EL _ _ _ _ _ _ _ _ _)
    | (refine Ch ⟨_, (by first | assumption | (simp only [Array.size_setIfInBounds]; omega)), Y⟩ Y Y Y (fun K ke => ?_); (first | refine A0 (α := Nat) 0 hG Y Y Y Ai Be Y Y (by first | omega | (simp only [Array.size_setIfInBounds]; omega)) ?_ | refine A0 (α := Nat) 1 hG Y Y Y Ai Be Y Y (by first | omega | (simp only [Array.size_setIfInBounds]; omega)) ?_); refine ke (.tup []) _ ?_)
    | (refine el_nil ⟨_, (by first | assumption | (simp only [Array.size_setIfInBounds]; omega)), Y⟩ ?_; show AL _ _ _ _ _ _ _ _) | fail)
                  repeat' (first
    | ((first | (show AL _ _ _ _ _ _ _ _; refine Ae Y ?_) | (show DL _ _ _ _ _ _ _; refine' A6 Y Y (fun K kk => ?_) ?_; try (show Go.Ts.T; rotate_left))); (first
      | refine Aq hG Y Y ?_
      | refine A5 hG Y Y ?_
      | (show AOp _ _ ⟨_, .binOp .add _ _ _ _, _, _, _, _⟩ _ _ _; first | refine Ab hG Y Y Y Y Y (by omega) ?_ | refine Ab (m := 1) hG Y Y Y Y Y (by omega) ?_ | refine Aa hG Y Y Y Y Y (by omega) ?_)
      | (show AOp _ _ ⟨_, .binOp .sub _ _ _ _, _, _, _, _⟩ _ _ _; first | refine Al hG Y Y Y Y (by omega) ?_ | refine Al (m := 1) hG Y Y Y Y (by omega) ?_ | refine Aa hG Y Y Y Y Y (by omega) ?_)
      | (show AOp _ _ ⟨_, .binOp _ _ _ _ _, _, _, _, _⟩ _ _ _; first | refine Au hG Y Y Y Y Y (by omega) ?_ | refine At hG Y Y Y Y Y (by omega) ?_ | ((fail_if_success have := kk); refine Am hG Y Y Y Y Y (fun h => ?_) (fun h => ?_)))
      | (show AOp _ _ ⟨_, .load _ _, _, _, _, _⟩ _ _ _; first | refine Ak (α := Nat) 0 hG Y Y Y Y (by omega) Y ?_ | refine Ay hG Y Y Y ?_ | refine A8 0 hG Y Y Y Y ?_)
      | (show AOp _ _ ⟨_, .indexAddr _ _ _, _, _, _, _⟩ _ _ _; first | refine A4 hG Y Y Y Y Y Y Y (by omega) ?_ | refine Az hG Y Y Y Y Y Y Y (by omega) ?_ | refine Ax hG Y Y Y Y Y Y Y (by omega) ?_ | refine Bb hG Y Y ?_)
      | refine Bc hG Y Y Y ?_
      | refine Bn hG Y Y Y ?_
      | (show AOp _ _ ⟨_, .store _ _ _, _, _, _, _⟩ _ _ _; first | refine A0 (α := Nat) 0 hG Y Y Y Ai Be Y Y (by first | omega | (simp only [Array.size_setIfInBounds]; omega)) ?_ | refine Bg 0 hG Y Y Y Y Y Y Y ?_)
      | refine r_q hG Y Y Y ?_); try exact kk)
    | (show AL _ _ _ _ _ _ _ _; first | refine Bj Y Y Y ?_ | (refine Ar ?_; first | show AW _ _ _ _ _ _ | show ∃ x', _ < _ ∧ _)) | (show AW _ _ (.seq _ _) _ _ _; refine Ah ?_; intro Q1) | (show AW _ _ (.region _ _ false) _ _ _; refine Ad ?_; intro O1) | (show AW _ _ (.cond _ _ _) _ _ _; first | refine Ao Y ?_ | refine Ap Y ?_ | refine Bf Y (fun h => ?_) (fun h => ?_)) | (show AW _ _ (.skip) _ _ _; refine Aj ?_; first | show AW _ _ _ _ _ _ | show ∃ x', _ < _ ∧ _) | (show AW _ _ (.block _ _) _ _ _; refine Af ?_; intro Q1) | (show AW _ _ (.exit _) _ _ _; refine As ?_; first | show AW _ _ _ _ _ _ | show ∃ x', _ < _ ∧ _) | (show AW _ _ (.ret) _ _ _; refine Av ?_; try dsimp only [A3, Ac, A7, Ag])
    | (show DL _ _ _ _ _ _ _; refine Bt Y Y (fun K kt kf => Am hG Y Y Y Y Y kt kf) (fun h => ?_) (fun h => ?_))
    | (show DL _ _ _ _ _ _ _; refine Bu Y Y Y ?_) | (show DL _ _ _ _ _ _ _; refine Bd ?_; first | show AW _ _ _ _ _ _ | show ∃ x', _ < _ ∧ _) | (show AW _ _ (.region _ _ true) _ _ _; refine Aw mix (by kernel_rfl) ?_; intro O1) | fail)
                  exact ⟨⟨q + 1, swp e q (q - 1), by rw [size_swp]; exact hen, by omega, hrq⟩, by dsimp only; omega, (by repeat (first | exact .nil _ | refine .cons rfl ?_)), .refl _⟩
              · rw [shiftUp, if_neg hqb] at hrq
                subst hrq
                repeat' (first
    | ((first | (show AL _ _ _ _ _ _ _ _; refine Ae Y ?_) | (show DL _ _ _ _ _ _ _; refine' A6 Y Y (fun K kk => ?_) ?_; try (show Go.Ts.T; rotate_left))); (first
      | refine Aq hG Y Y ?_
      | refine A5 hG Y Y ?_
      | (show AOp _ _ ⟨_, .binOp .add _ _ _ _, _, _, _, _⟩ _ _ _; first | refine Ab hG Y Y Y Y Y (by omega) ?_ | refine Ab (m := 1) hG Y Y Y Y Y (by omega) ?_ | refine Aa hG Y Y Y Y Y (by omega) ?_)
      | (show AOp _ _ ⟨_, .binOp .sub _ _ _ _, _, _, _, _⟩ _ _ _; first | refine Al hG Y Y Y Y (by omega) ?_ | refine Al (m := 1) hG Y Y Y Y (by omega) ?_ | refine Aa hG Y Y Y Y Y (by omega) ?_)
      | (show AOp _ _ ⟨_, .binOp _ _ _ _ _, _, _, _, _⟩ _ _ _; first | refine Au hG Y Y Y Y Y (by omega) ?_ | refine At hG Y Y Y Y Y (by omega) ?_ | ((fail_if_success have := kk); refine Am hG Y Y Y Y Y (fun h => ?_) (fun h => ?_)))
      | (show AOp _ _ ⟨_, .load _ _, _, _, _, _⟩ _ _ _; first | refine Ak (α := Nat) 0 hG Y Y Y Y (by omega) Y ?_ | refine Ay hG Y Y Y ?_ | refine A8 0 hG Y Y Y Y ?_)
      | (show AOp _ _ ⟨_, .indexAddr _ _ _, _, _, _, _⟩ _ _ _; first | refine A4 hG Y Y Y Y Y Y Y (by omega) ?_ | refine Az hG Y Y Y Y Y Y Y (by omega) ?_ | refine Ax hG Y Y Y Y Y Y Y (by omega) ?_ | refine Bb hG Y Y ?_)
      | refine Bc hG Y Y Y ?_
      | refine Bn hG Y Y Y ?_
      | (show AOp _ _ ⟨_, .store _ _ _, _, _, _, _⟩ _ _ _; first | refine A0 (α := Nat) 0 hG Y Y Y Ai Be Y Y (by first | omega | (simp only [Array.size_setIfInBounds]; omega)) ?_ | refine Bg 0 hG Y Y Y Y Y Y Y ?_)
      | (show AOp _ _ ⟨_, .call ⟨.value _, _, _⟩, _, _, _, _⟩ _ _ _; first | refine B0 Y Y Y Y Y (by first | (apply Ci <;> (first | assumption | omega | exact Ba _ _ | exact Bi _ | exact Bk _ _ | exact Bs _ | rfl | (simp; omega))) | fail) ?_ | fail)
      | refine r_q hG Y Y Y ?_); try exact kk)
    | (show AL _ _ _ _ _ _ _ _; first | refine Bj Y Y Y ?_ | (refine Ar ?_; first | show AW _ _ _ _ _ _ | show ∃ x', _ < _ ∧ _)) | (show AW _ _ (.seq _ _) _ _ _; refine Ah ?_; intro Q1) | (show AW _ _ (.region _ _ false) _ _ _; refine Ad ?_; intro O1) | (show AW _ _ (.cond _ _ _) _ _ _; first | refine Ao Y ?_ | refine Ap Y ?_ | refine Bf Y (fun h => ?_) (fun h => ?_)) | (show AW _ _ (.skip) _ _ _; refine Aj ?_; first | show AW _ _ _ _ _ _ | show ∃ x', _ < _ ∧ _) | (show AW _ _ (.block _ _) _ _ _; refine Af ?_; intro Q1) | (show AW _ _ (.exit _) _ _ _; refine As ?_; first | show AW _ _ _ _ _ _ | show ∃ x', _ < _ ∧ _) | (show AW _ _ (.ret) _ _ _; refine Av ?_; try dsimp only [A3, Ac, A7, Ag])
    | (show DL _ _ _ _ _ _ _; refine Bt Y Y (fun K kt kf => Am hG Y Y Y Y Y kt kf) (fun h => ?_) (fun h => ?_))
    | (show DL _ _ _ _ _ _ _; refine Bu Y Y Y ?_) | (show DL _ _ _ _ _ _ _; refine Bd ?_; first | show AW _ _ _ _ _ _ | show ∃ x', _ < _ ∧ _) | (show AW _ _ (.region _ _ true) _ _ _; refine Aw mix (by kernel_rfl) ?_; intro O1) | fail)
                (refine As ?_; show _ ∧ Knows _ _ ∧ _; exact ⟨rfl, (by repeat (first | exact .nil _ | refine .cons rfl ?_)), rfl⟩)
            · intro a' hk
              exact ⟨rfl, hk, rfl⟩
          · have hf : fixUp ltQ b I g = g := by unfold fixUp; rw [if_neg h3]
            rw [hf]
            repeat' (first
    | ((first | (show AL _ _ _ _ _ _ _ _; refine Ae Y ?_) | (show DL _ _ _ _ _ _ _; refine' A6 Y Y (fun K kk => ?_) ?_; try (show Go.Ts.T; rotate_left))); (first
      | refine Aq hG Y Y ?_
      | refine A5 hG Y Y ?_
      | (show AOp _ _ ⟨_, .binOp .add _ _ _ _, _, _, _, _⟩ _ _ _; first | refine Ab hG Y Y Y Y Y (by omega) ?_ | refine Ab (m := 1) hG Y Y Y Y Y (by omega) ?_ | refine Aa hG Y Y Y Y Y (by omega) ?_)
      | (show AOp _ _ ⟨_, .binOp .sub _ _ _ _, _, _, _, _⟩ _ _ _; first | refine Al hG Y Y Y Y (by omega) ?_ | refine Al (m := 1) hG Y Y Y Y (by omega) ?_ | refine Aa hG Y Y Y Y Y (by omega) ?_)
      | (show AOp _ _ ⟨_, .binOp _ _ _ _ _, _, _, _, _⟩ _ _ _; first | refine Au hG Y Y Y Y Y (by omega) ?_ | refine At hG Y Y Y Y Y (by omega) ?_ | ((fail_if_success have := kk); refine Am hG Y Y Y Y Y (fun h => ?_) (fun h => ?_)))
      | (show AOp _ _ ⟨_, .load _ _, _, _, _, _⟩ _ _ _; first | refine Ak (α := Nat) 0 hG Y Y Y Y (by omega) Y ?_ | refine Ay hG Y Y Y ?_ | refine A8 0 hG Y Y Y Y ?_)
      | (show AOp _ _ ⟨_, .indexAddr _ _ _, _, _, _, _⟩ _ _ _; first | refine A4 hG Y Y Y Y Y Y Y (by omega) ?_ | refine Az hG Y Y Y Y Y Y Y (by omega) ?_ | refine Ax hG Y Y Y Y Y Y Y (by omega) ?_ | refine Bb hG Y Y ?_)
      | refine Bc hG Y Y Y ?_
      | refine Bn hG Y Y Y ?_
      | (show AOp _ _ ⟨_, .store _ _ _, _, _, _, _⟩ _ _ _; first | refine A0 (α := Nat) 0 hG Y Y Y Ai Be Y Y (by first | omega | (simp only [Array.size_setIfInBounds]; omega)) ?_ | refine Bg 0 hG Y Y Y Y Y Y Y ?_)
      | refine r_q hG Y Y Y ?_); try exact kk)
    | (show AL _ _ _ _ _ _ _ _; first | refine Bj Y Y Y ?_ | (refine Ar ?_; first | show AW _ _ _ _ _ _ | show ∃ x', _ < _ ∧ _)) | (show AW _ _ (.seq _ _) _ _ _; refine Ah ?_; intro Q1) | (show AW _ _ (.region _ _ false) _ _ _; refine Ad ?_; intro O1) | (show AW _ _ (.cond _ _ _) _ _ _; first | refine Ao Y ?_ | refine Ap Y ?_ | refine Bf Y (fun h => ?_) (fun h => ?_)) | (show AW _ _ (.skip) _ _ _; refine Aj ?_; first | show AW _ _ _ _ _ _ | show ∃ x', _ < _ ∧ _) | (show AW _ _ (.block _ _) _ _ _; refine Af ?_; intro Q1) | (show AW _ _ (.exit _) _ _ _; refine As ?_; first | show AW _ _ _ _ _ _ | show ∃ x', _ < _ ∧ _) | (show AW _ _ (.ret) _ _ _; refine Av ?_; try dsimp only [A3, Ac, A7, Ag])
    | (show DL _ _ _ _ _ _ _; refine Bt Y Y (fun K kt kf => Am hG Y Y Y Y Y kt kf) (fun h => ?_) (fun h => ?_))
    | (show DL _ _ _ _ _ _ _; refine Bu Y Y Y ?_) | (show DL _ _ _ _ _ _ _; refine Bd ?_; first | show AW _ _ _ _ _ _ | show ∃ x', _ < _ ∧ _) | (show AW _ _ (.region _ _ true) _ _ _; refine Aw mix (by kernel_rfl) ?_; intro O1) | fail)
            refine Aj ?_
            exact ⟨rfl, (by repeat (first | exact .nil _ | refine .cons rfl ?_)), rfl⟩
        intro a' hk
        show AW _ _ _ _ _ _
        refine aw_forget hk ?_
        repeat' (first
    | ((first | (show AL _ _ _ _ _ _ _ _; refine Ae Y ?_) | (show DL _ _ _ _ _ _ _; refine' A6 Y Y (fun K kk => ?_) ?_; try (show Go.Ts.T; rotate_left))); (first
      | refine Aq hG Y Y ?_
      | refine A5 hG Y Y ?_
      | (show AOp _ _ ⟨_, .binOp .add _ _ _ _, _, _, _, _⟩ _ _ _; first | refine Ab hG Y Y Y Y Y (by omega) ?_ | refine Ab (m := 1) hG Y Y Y Y Y (by omega) ?_ | refine Aa hG Y Y Y Y Y (by omega) ?_)
      | (show AOp _ _ ⟨_, .binOp .sub _ _ _ _, _, _, _, _⟩ _ _ _; first | refine Al hG Y Y Y Y (by omega) ?_ | refine Al (m := 1) hG Y Y Y Y (by omega) ?_ | refine Aa hG Y Y Y Y Y (by omega) ?_)
      | (show AOp _ _ ⟨_, .binOp _ _ _ _ _, _, _, _, _⟩ _ _ _; first | refine Au hG Y Y Y Y Y (by omega) ?_ | refine At hG Y Y Y Y Y (by omega) ?_ | ((fail_if_success have := kk); refine Am hG Y Y Y Y Y (fun h => ?_) (fun h => ?_)))
      | (show AOp _ _ ⟨_, .load _ _, _, _, _, _⟩ _ _ _; first | refine Ak (α := Nat) 0 hG Y Y Y Y (by omega) Y ?_ | refine Ay hG Y Y Y ?_ | refine A8 0 hG Y Y Y Y ?_)
      | (show AOp _ _ ⟨_, .indexAddr _ _ _, _, _, _, _⟩ _ _ _; first | refine A4 hG Y Y Y Y Y Y Y (by omega) ?_ | refine Az hG Y Y Y Y Y Y Y (by omega) ?_ | refine Ax hG Y Y Y Y Y Y Y (by omega) ?_ | refine Bb hG Y Y ?_)
      | refine Bc hG Y Y Y ?_
      | refine Bn hG Y Y Y ?_
      | (show AOp _ _ ⟨_, .store _ _ _, _, _, _, _⟩ _ _ _; first | refine A0 (α := Nat) 0 hG Y Y Y Ai Be Y Y (by first | omega | (simp only [Array.size_setIfInBounds]; omega)) ?_ | refine Bg 0 hG Y Y Y Y Y Y Y ?_)
      | refine r_q hG Y Y Y ?_); try exact kk)
    | (show AL _ _ _ _ _ _ _ _; first | refine Bj Y Y Y ?_ | (refine Ar ?_; first | show AW _ _ _ _ _ _ | show ∃ x', _ < _ ∧ _)) | (show AW _ _ (.seq _ _) _ _ _; refine Ah ?_; intro Q1) | (show AW _ _ (.region _ _ false) _ _ _; refine Ad ?_; intro O1) | (show AW _ _ (.cond _ _ _) _ _ _; first | refine Ao Y ?_ | refine Ap Y ?_ | refine Bf Y (fun h => ?_) (fun h => ?_)) | (show AW _ _ (.skip) _ _ _; refine Aj ?_; first | show AW _ _ _ _ _ _ | show ∃ x', _ < _ ∧ _) | (show AW _ _ (.block _ _) _ _ _; refine Af ?_; intro Q1) | (show AW _ _ (.exit _) _ _ _; refine As ?_; first | show AW _ _ _ _ _ _ | show ∃ x', _ < _ ∧ _) | (show AW _ _ (.ret) _ _ _; refine Av ?_; try dsimp only [A3, Ac, A7, Ag])
    | (show DL _ _ _ _ _ _ _; refine Bt Y Y (fun K kt kf => Am hG Y Y Y Y Y kt kf) (fun h => ?_) (fun h => ?_))
    | (show DL _ _ _ _ _ _ _; refine Bu Y Y Y ?_) | (show DL _ _ _ _ _ _ _; refine Bd ?_; first | show AW _ _ _ _ _ _ | show ∃ x', _ < _ ∧ _) | (show AW _ _ (.region _ _ true) _ _ _; refine Aw mix (by kernel_rfl) ?_; intro O1) | fail)
        exact ⟨⟨s, I, jj + 1, fixUp ltQ b I g, by rw [fixUp_size]; exact hfn, by omega, by omega, hr⟩, by dsimp only; omega, (by repeat (first | exact .nil _ | refine .cons rfl ?_)), .refl _⟩
end Go.Proofs.Ythfgocinlbogeaa
namespace Go.Proofs.Ythfgocinlbogeaa
open Go.Ts
set_option linter.unusedSimpArgs false
set_option linter.unusedVariables false
attribute [local irreducible] Go.Ts.AW Go.Ts.AOps Go.Ts.AL Go.Ts.AOp Go.Ts.ACalls Go.Ts.DL Go.Ts.DQ0 Go.Ts.EL
open Go.Sort
theorem ltQ_swo : SWO ltQ where
  irrefl x := by simp [ltQ]
  trans x y z h k := by simp [ltQ] at *; omega
  ntrans x y z h k := by simp [ltQ] at *; omega
structure PdX (n m : Nat) (r : Array Nat) where
  a : Nat
  b : Nat
  lim : Nat
  wb : Bool
  wp : Bool
  d : Array Nat
  hn : d.size = n
  hab : a ≤ b
  hb : b ≤ n
  hm : b - a ≤ m
  hl : lim < 256
  hB : Below ltQ a b d
  e : pdq ltQ d a b lim wb wp = r
set_option maxHeartbeats 2000000 in
theorem srt_pdq : ∀ (m : Nat) {d0 : Array Nat} {a b lim : Nat}, b - a ≤ m → a ≤ b → b ≤ d0.size → d0.size < 256 → lim < 256 → Below ltQ a b d0 →
    OnRow Try.prog 90 mT [.int .i64 (a : Int), .int .i64 (b : Int), .int .i64 (lim : Int)] d0 (.tup []) (pdq ltQ d0 a b lim true true) := by
  intro m
  induction m using Nat.strongRecOn with
  | ind m IH =>
  intro d0 a b lim hm hab hb hs hl hB off i n cap hn
  obtain ⟨R, hR⟩ : ∃ R, pdq ltQ d0 a b lim true true = R := ⟨_, rfl⟩
  rw [hR]
  refine Bp (N := 134) (rs := []) hG Try.func90 rfl rfl rfl rfl rfl ?_
  repeat' (first
    | ((first | (show AL _ _ _ _ _ _ _ _; refine Ae Y ?_) | (show DL _ _ _ _ _ _ _; refine' A6 Y Y (fun K kk => ?_) ?_; try (show Go.Ts.T; rotate_left))); (first
      | refine Aq hG Y Y ?_
      | refine A5 hG Y Y ?_
      | (show AOp _ _ ⟨_, .binOp .add _ _ _ _, _, _, _, _⟩ _ _ _; first | refine Ab hG Y Y Y Y Y (by omega) ?_ | refine Ab (m := 1) hG Y Y Y Y Y (by omega) ?_ | refine Aa hG Y Y Y Y Y (by omega) ?_)
      | (show AOp _ _ ⟨_, .binOp .sub _ _ _ _, _, _, _, _⟩ _ _ _; first | refine Al hG Y Y Y Y (by omega) ?_ | refine Al (m := 1) hG Y Y Y Y (by omega) ?_ | refine Aa hG Y Y Y Y Y (by omega) ?_)
      | (show AOp _ _ ⟨_, .binOp .quo _ _ _ _, _, _, _, _⟩ _ _ _; first | refine Bh (m := 2) hG Y Y Y Y (by omega) ?_ | refine Bh (m := 4) hG Y Y Y Y (by omega) ?_ | refine Bh (m := 8) hG Y Y Y Y (by omega) ?_)
      | (show AOp _ _ ⟨_, .binOp _ _ _ _ _, _, _, _, _⟩ _ _ _; first | refine Au hG Y Y Y Y Y (by omega) ?_ | refine At hG Y Y Y Y Y (by omega) ?_ | ((fail_if_success have := kk); refine Am hG Y Y Y Y Y (fun h => ?_) (fun h => ?_)) | refine Bl hG Y Y Y ?_)
      | (show AOp _ _ ⟨_, .load _ _, _, _, _, _⟩ _ _ _; first | refine Ak (α := Nat) 0 hG Y Y Y Y (by omega) Y ?_ | refine Ay hG Y Y Y ?_ | refine A8 0 hG Y Y Y Y ?_)
      | (show AOp _ _ ⟨_, .indexAddr _ _ _, _, _, _, _⟩ _ _ _; first | refine A4 hG Y Y Y Y Y Y Y (by omega) ?_ | refine Az hG Y Y Y Y Y Y Y (by omega) ?_ | refine Ax hG Y Y Y Y Y Y Y (by omega) ?_ | refine Bb hG Y Y ?_)
      | refine Bc hG Y Y Y ?_
      | refine Bn hG Y Y Y ?_
      | refine r_q hG Y Y Y ?_); try exact kk)
    | (show AL _ _ _ _ _ _ _ _; first | refine Bj Y Y Y ?_ | (refine Ar ?_; first | show AW _ _ _ _ _ _ | show ∃ x', _ < _ ∧ _)) | (show AW _ _ (.seq _ _) _ _ _; refine Ah ?_; intro Q1) | (show AW _ _ (.region _ _ false) _ _ _; refine Ad ?_; intro O1) | (show AW _ _ (.cond _ _ _) _ _ _; first | refine Ao Y ?_ | refine Ap Y ?_ | refine Bf Y (fun h => ?_) (fun h => ?_)) | (show AW _ _ (.skip) _ _ _; refine Aj ?_; first | show AW _ _ _ _ _ _ | show ∃ x', _ < _ ∧ _) | (show AW _ _ (.block _ _) _ _ _; refine Af ?_; intro Q1) | (show AW _ _ (.exit _) _ _ _; refine As ?_; first | show AW _ _ _ _ _ _ | show ∃ x', _ < _ ∧ _) | (show AW _ _ (.ret) _ _ _; refine Av ?_; try dsimp only [A3, Ac, A7, Ag])
    | (show DL _ _ _ _ _ _ _; refine Bt Y Y (fun K kt kf => Am hG Y Y Y Y Y kt kf) (fun h => ?_) (fun h => ?_))
    | (show DL _ _ _ _ _ _ _; refine Bu Y Y Y ?_) | (show DL _ _ _ _ _ _ _; refine Bd ?_; first | show AW _ _ _ _ _ _ | show ∃ x', _ < _ ∧ _) | (show AW _ _ (.region _ _ true) _ _ _; refine Aw mix (by kernel_rfl) ?_; intro O1) | fail)
  refine aw_loop (X := PdX n m R) (fun x => [(0, .aref 1 i 0 n cap), (1, .int .i64 (x.a : Int)), (2, .int .i64 (x.b : Int)), (3, .int .i64 (x.lim : Int)), (8, .bool x.wb), (9, .bool x.wp)])
    (fun x => ⟨[(i, .cells (rowT mT x.d))], [], off, none⟩) (fun x => x.b - x.a) ⟨a, b, lim, true, true, d0, hn, hab, by omega, hm, hl, hB, hR⟩ (by repeat (first | exact .nil _ | refine .cons rfl ?_)) (.refl _) ?_
  clear hR hB hl hb hab hm a b lim
  rintro ⟨a, b, lim, wb, wp, d, hdn, hab, hb, hm, hl, hB, e⟩
  dsimp only at e ⊢
  have hn256 : n < 256 := by omega
  by_cases h12 : b - a ≤ 12
  · rw [pdq_small h12] at e
    have h := srt_ins (d0 := d) (a := a) (b := b) (by omega) (by omega) (by omega)
    rw [e] at h
    repeat' (first
    | ((first | (show AL _ _ _ _ _ _ _ _; refine Ae Y ?_) | (show DL _ _ _ _ _ _ _; refine' A6 Y Y (fun K kk => ?_) ?_; try (show Go.Ts.T; rotate_left))); (first
      | refine Aq hG Y Y ?_
      | refine A5 hG Y Y ?_
      | (show AOp _ _ ⟨_, .binOp .add _ _ _ _, _, _, _, _⟩ _ _ _; first | refine Ab hG Y Y Y Y Y (by omega) ?_ | refine Ab (m := 1) hG Y Y Y Y Y (by omega) ?_ | refine Aa hG Y Y Y Y Y (by omega) ?_)
      | (show AOp _ _ ⟨_, .binOp .sub _ _ _ _, _, _, _, _⟩ _ _ _; first | refine Al hG Y Y Y Y (by omega) ?_ | refine Al (m := 1) hG Y Y Y Y (by omega) ?_ | refine Aa hG Y Y Y Y Y (by omega) ?_)
      | (show AOp _ _ ⟨_, .binOp .quo _ _ _ _, _, _, _, _⟩ _ _ _; first | refine Bh (m := 2) hG Y Y Y Y (by omega) ?_ | refine Bh (m := 4) hG Y Y Y Y (by omega) ?_ | refine Bh (m := 8) hG Y Y Y Y (by omega) ?_)
      | (show AOp _ _ ⟨_, .binOp _ _ _ _ _, _, _, _, _⟩ _ _ _; first | refine Au hG Y Y Y Y Y (by omega) ?_ | refine At hG Y Y Y Y Y (by omega) ?_ | ((fail_if_success have := kk); refine Am hG Y Y Y Y Y (fun h => ?_) (fun h => ?_)) | refine Bl hG Y Y Y ?_)
      | (show AOp _ _ ⟨_, .load _ _, _, _, _, _⟩ _ _ _; first | refine Ak (α := Nat) 0 hG Y Y Y Y (by omega) Y ?_ | refine Ay hG Y Y Y ?_ | refine A8 0 hG Y Y Y Y ?_)
      | (show AOp _ _ ⟨_, .indexAddr _ _ _, _, _, _, _⟩ _ _ _; first | refine A4 hG Y Y Y Y Y Y Y (by omega) ?_ | refine Az hG Y Y Y Y Y Y Y (by omega) ?_ | refine Ax hG Y Y Y Y Y Y Y (by omega) ?_ | refine Bb hG Y Y ?_)
      | refine Bc hG Y Y Y ?_
      | refine Bn hG Y Y Y ?_
      | (show AOp _ _ ⟨_, .call ⟨.value _, _, _⟩, _, _, _, _⟩ _ _ _; first | refine r_row Y Y Y Y Y (List.Perm.refl _) h (by assumption) ?_ | fail)
      | refine r_q hG Y Y Y ?_); try exact kk)
    | (show AL _ _ _ _ _ _ _ _; first | refine Bj Y Y Y ?_ | (refine Ar ?_; first | show AW _ _ _ _ _ _ | show ∃ x', _ < _ ∧ _)) | (show AW _ _ (.seq _ _) _ _ _; refine Ah ?_; intro Q1) | (show AW _ _ (.region _ _ false) _ _ _; refine Ad ?_; intro O1) | (show AW _ _ (.cond _ _ _) _ _ _; first | refine Ao Y ?_ | refine Ap Y ?_ | refine Bf Y (fun h => ?_) (fun h => ?_)) | (show AW _ _ (.skip) _ _ _; refine Aj ?_; first | show AW _ _ _ _ _ _ | show ∃ x', _ < _ ∧ _) | (show AW _ _ (.block _ _) _ _ _; refine Af ?_; intro Q1) | (show AW _ _ (.exit _) _ _ _; refine As ?_; first | show AW _ _ _ _ _ _ | show ∃ x', _ < _ ∧ _) | (show AW _ _ (.ret) _ _ _; refine Av ?_; try dsimp only [A3, Ac, A7, Ag])
    | (show DL _ _ _ _ _ _ _; refine Bt Y Y (fun K kt kf => Am hG Y Y Y Y Y kt kf) (fun h => ?_) (fun h => ?_))
    | (show DL _ _ _ _ _ _ _; refine Bu Y Y Y ?_) | (show DL _ _ _ _ _ _ _; refine Bd ?_; first | show AW _ _ _ _ _ _ | show ∃ x', _ < _ ∧ _) | (show AW _ _ (.region _ _ true) _ _ _; refine Aw mix (by kernel_rfl) ?_; intro O1) | fail)
    refine ret_row 0 Bo ?_ (.refl _) ?_ <;> rfl
  by_cases h0 : lim = 0
  · rw [pdq_heap h12 h0] at e
    have h := srt_heap (d0 := d) (a := a) (b := b) (by omega) (by omega) (by omega)
    rw [e] at h
    repeat' (first
    | ((first | (show AL _ _ _ _ _ _ _ _; refine Ae Y ?_) | (show DL _ _ _ _ _ _ _; refine' A6 Y Y (fun K kk => ?_) ?_; try (show Go.Ts.T; rotate_left))); (first
      | refine Aq hG Y Y ?_
      | refine A5 hG Y Y ?_
      | (show AOp _ _ ⟨_, .binOp .add _ _ _ _, _, _, _, _⟩ _ _ _; first | refine Ab hG Y Y Y Y Y (by omega) ?_ | refine Ab (m := 1) hG Y Y Y Y Y (by omega) ?_ | refine Aa hG Y Y Y Y Y (by omega) ?_)
      | (show AOp _ _ ⟨_, .binOp .sub _ _ _ _, _, _, _, _⟩ _ _ _; first | refine Al hG Y Y Y Y (by omega) ?_ | refine Al (m := 1) hG Y Y Y Y (by omega) ?_ | refine Aa hG Y Y Y Y Y (by omega) ?_)
      | (show AOp _ _ ⟨_, .binOp .quo _ _ _ _, _, _, _, _⟩ _ _ _; first | refine Bh (m := 2) hG Y Y Y Y (by omega) ?_ | refine Bh (m := 4) hG Y Y Y Y (by omega) ?_ | refine Bh (m := 8) hG Y Y Y Y (by omega) ?_)
      | (show AOp _ _ ⟨_, .binOp _ _ _ _ _, _, _, _, _⟩ _ _ _; first | refine Au hG Y Y Y Y Y (by omega) ?_ | refine At hG Y Y Y Y Y (by omega) ?_ | ((fail_if_success have := kk); refine Am hG Y Y Y Y Y (fun h => ?_) (fun h => ?_)) | refine Bl hG Y Y Y ?_)
      | (show AOp _ _ ⟨_, .load _ _, _, _, _, _⟩ _ _ _; first | refine Ak (α := Nat) 0 hG Y Y Y Y (by omega) Y ?_ | refine Ay hG Y Y Y ?_ | refine A8 0 hG Y Y Y Y ?_)
      | (show AOp _ _ ⟨_, .indexAddr _ _ _, _, _, _, _⟩ _ _ _; first | refine A4 hG Y Y Y Y Y Y Y (by omega) ?_ | refine Az hG Y Y Y Y Y Y Y (by omega) ?_ | refine Ax hG Y Y Y Y Y Y Y (by omega) ?_ | refine Bb hG Y Y ?_)
      | refine Bc hG Y Y Y ?_
      | refine Bn hG Y Y Y ?_
      | (show AOp _ _ ⟨_, .call ⟨.value _, _, _⟩, _, _, _, _⟩ _ _ _; first | refine r_row Y Y Y Y Y (List.Perm.refl _) h (by assumption) ?_ | fail)
      | refine r_q hG Y Y Y ?_); try exact kk)
    | (show AL _ _ _ _ _ _ _ _; first | refine Bj Y Y Y ?_ | (refine Ar ?_; first | show AW _ _ _ _ _ _ | show ∃ x', _ < _ ∧ _)) | (show AW _ _ (.seq _ _) _ _ _; refine Ah ?_; intro Q1) | (show AW _ _ (.region _ _ false) _ _ _; refine Ad ?_; intro O1) | (show AW _ _ (.cond _ _ _) _ _ _; first | refine Ao Y ?_ | refine Ap Y ?_ | refine Bf Y (fun h => ?_) (fun h => ?_)) | (show AW _ _ (.skip) _ _ _; refine Aj ?_; first | show AW _ _ _ _ _ _ | show ∃ x', _ < _ ∧ _) | (show AW _ _ (.block _ _) _ _ _; refine Af ?_; intro Q1) | (show AW _ _ (.exit _) _ _ _; refine As ?_; first | show AW _ _ _ _ _ _ | show ∃ x', _ < _ ∧ _) | (show AW _ _ (.ret) _ _ _; refine Av ?_; try dsimp only [A3, Ac, A7, Ag])
    | (show DL _ _ _ _ _ _ _; refine Bt Y Y (fun K kt kf => Am hG Y Y Y Y Y kt kf) (fun h => ?_) (fun h => ?_))
    | (show DL _ _ _ _ _ _ _; refine Bu Y Y Y ?_) | (show DL _ _ _ _ _ _ _; refine Bd ?_; first | show AW _ _ _ _ _ _ | show ∃ x', _ < _ ∧ _) | (show AW _ _ (.region _ _ true) _ _ _; refine Aw mix (by kernel_rfl) ?_; intro O1) | fail)
    refine ret_row 0 Bo ?_ (.refl _) ?_ <;> rfl
  have F := rd_facts (wb := wb) (wp := wp) (limit := lim) ltQ_swo partialInsertionSort_holds reverseRange_holds (show a < b by omega) (show b ≤ d.size by omega) hB
  obtain ⟨D, hD⟩ : ∃ D, rd ltQ d a b lim wb wp = D := ⟨_, rfl⟩
  rw [hD] at F
  obtain ⟨s1, B1, c1, s2, B2, pv, s3, B3⟩ := F
  have hlim : D.lim < 256 := by rw [← hD]; exact Nat.lt_of_le_of_lt rd_lim_le hl
  repeat' (first
    | ((first | (show AL _ _ _ _ _ _ _ _; refine Ae Y ?_) | (show DL _ _ _ _ _ _ _; refine' A6 Y Y (fun K kk => ?_) ?_; try (show Go.Ts.T; rotate_left))); (first
      | refine Aq hG Y Y ?_
      | refine A5 hG Y Y ?_
      | (show AOp _ _ ⟨_, .binOp .add _ _ _ _, _, _, _, _⟩ _ _ _; first | refine Ab hG Y Y Y Y Y (by omega) ?_ | refine Ab (m := 1) hG Y Y Y Y Y (by omega) ?_ | refine Aa hG Y Y Y Y Y (by omega) ?_)
      | (show AOp _ _ ⟨_, .binOp .sub _ _ _ _, _, _, _, _⟩ _ _ _; first | refine Al hG Y Y Y Y (by omega) ?_ | refine Al (m := 1) hG Y Y Y Y (by omega) ?_ | refine Aa hG Y Y Y Y Y (by omega) ?_)
      | (show AOp _ _ ⟨_, .binOp .quo _ _ _ _, _, _, _, _⟩ _ _ _; first | refine Bh (m := 2) hG Y Y Y Y (by omega) ?_ | refine Bh (m := 4) hG Y Y Y Y (by omega) ?_ | refine Bh (m := 8) hG Y Y Y Y (by omega) ?_)
      | (show AOp _ _ ⟨_, .binOp _ _ _ _ _, _, _, _, _⟩ _ _ _; first | refine Au hG Y Y Y Y Y (by omega) ?_ | refine At hG Y Y Y Y Y (by omega) ?_ | ((fail_if_success have := kk); refine Am hG Y Y Y Y Y (fun h => ?_) (fun h => ?_)) | refine Bl hG Y Y Y ?_)
      | (show AOp _ _ ⟨_, .load _ _, _, _, _, _⟩ _ _ _; first | refine Ak (α := Nat) 0 hG Y Y Y Y (by omega) Y ?_ | refine Ay hG Y Y Y ?_ | refine A8 0 hG Y Y Y Y ?_)
      | (show AOp _ _ ⟨_, .indexAddr _ _ _, _, _, _, _⟩ _ _ _; first | refine A4 hG Y Y Y Y Y Y Y (by omega) ?_ | refine Az hG Y Y Y Y Y Y Y (by omega) ?_ | refine Ax hG Y Y Y Y Y Y Y (by omega) ?_ | refine Bb hG Y Y ?_)
      | refine Bc hG Y Y Y ?_
      | refine Bn hG Y Y Y ?_
      | refine r_q hG Y Y Y ?_); try exact kk)
    | (show AL _ _ _ _ _ _ _ _; first | refine Bj Y Y Y ?_ | (refine Ar ?_; first | show AW _ _ _ _ _ _ | show ∃ x', _ < _ ∧ _)) | (show AW _ _ (.seq _ _) _ _ _; refine Ah ?_; intro Q1) | (show AW _ _ (.region _ _ false) _ _ _; (fail_if_success show AW _ _ (.region 7 _ _) _ _ _); refine Ad ?_; intro O1) | (show AW _ _ (.cond _ _ _) _ _ _; first | refine Ao Y ?_ | refine Ap Y ?_ | refine Bf Y (fun h => ?_) (fun h => ?_)) | (show AW _ _ (.skip) _ _ _; refine Aj ?_; first | show AW _ _ _ _ _ _ | show ∃ x', _ < _ ∧ _) | (show AW _ _ (.block _ _) _ _ _; refine Af ?_; intro Q1) | (show AW _ _ (.exit _) _ _ _; refine As ?_; first | show AW _ _ _ _ _ _ | show ∃ x', _ < _ ∧ _) | (show AW _ _ (.ret) _ _ _; refine Av ?_; try dsimp only [A3, Ac, A7, Ag])
    | (show DL _ _ _ _ _ _ _; refine Bt Y Y (fun K kt kf => Am hG Y Y Y Y Y kt kf) (fun h => ?_) (fun h => ?_))
    | (show DL _ _ _ _ _ _ _; refine Bu Y Y Y ?_) | (show DL _ _ _ _ _ _ _; refine Bd ?_; first | show AW _ _ _ _ _ _ | show ∃ x', _ < _ ∧ _) | (show AW _ _ (.region _ _ true) _ _ _; (fail_if_success show AW _ _ (.region 7 _ _) _ _ _); refine Aw mix (by kernel_rfl) ?_; intro O1) | fail)
  refine aw_to2 [(0, .aref 1 i 0 n cap), (1, .int .i64 (a : Int)), (2, .int .i64 (b : Int)), (3, .int .i64 (D.lim : Int)), (8, .bool wb), (9, .bool wp), (10, .int .i64 ((b - a : Nat) : Int))] ⟨[(i, .cells (rowT mT D.d1))], [], off, none⟩ ?_ ?_
  · have h := srt_brk (d0 := d) (a := a) (b := b) (by omega) (by omega) (by omega)
    rw [← hD]
    cases wb with
    | false =>
      rw [rd_false.1, rd_false.2]
      repeat' (first
    | ((first | (show AL _ _ _ _ _ _ _ _; refine Ae Y ?_) | (show DL _ _ _ _ _ _ _; refine' A6 Y Y (fun K kk => ?_) ?_; try (show Go.Ts.T; rotate_left))); (first
      | refine Aq hG Y Y ?_
      | refine A5 hG Y Y ?_
      | (show AOp _ _ ⟨_, .binOp .add _ _ _ _, _, _, _, _⟩ _ _ _; first | refine Ab hG Y Y Y Y Y (by omega) ?_ | refine Ab (m := 1) hG Y Y Y Y Y (by omega) ?_ | refine Aa hG Y Y Y Y Y (by omega) ?_)
      | (show AOp _ _ ⟨_, .binOp .sub _ _ _ _, _, _, _, _⟩ _ _ _; first | refine Al hG Y Y Y Y (by omega) ?_ | refine Al (m := 1) hG Y Y Y Y (by omega) ?_ | refine Aa hG Y Y Y Y Y (by omega) ?_)
      | (show AOp _ _ ⟨_, .binOp .quo _ _ _ _, _, _, _, _⟩ _ _ _; first | refine Bh (m := 2) hG Y Y Y Y (by omega) ?_ | refine Bh (m := 4) hG Y Y Y Y (by omega) ?_ | refine Bh (m := 8) hG Y Y Y Y (by omega) ?_)
      | (show AOp _ _ ⟨_, .binOp _ _ _ _ _, _, _, _, _⟩ _ _ _; first | refine Au hG Y Y Y Y Y (by omega) ?_ | refine At hG Y Y Y Y Y (by omega) ?_ | ((fail_if_success have := kk); refine Am hG Y Y Y Y Y (fun h => ?_) (fun h => ?_)) | refine Bl hG Y Y Y ?_)
      | (show AOp _ _ ⟨_, .load _ _, _, _, _, _⟩ _ _ _; first | refine Ak (α := Nat) 0 hG Y Y Y Y (by omega) Y ?_ | refine Ay hG Y Y Y ?_ | refine A8 0 hG Y Y Y Y ?_)
      | (show AOp _ _ ⟨_, .indexAddr _ _ _, _, _, _, _⟩ _ _ _; first | refine A4 hG Y Y Y Y Y Y Y (by omega) ?_ | refine Az hG Y Y Y Y Y Y Y (by omega) ?_ | refine Ax hG Y Y Y Y Y Y Y (by omega) ?_ | refine Bb hG Y Y ?_)
      | refine Bc hG Y Y Y ?_
      | refine Bn hG Y Y Y ?_
      | (show AOp _ _ ⟨_, .call ⟨.value _, _, _⟩, _, _, _, _⟩ _ _ _; first | refine r_row Y Y Y Y Y (List.Perm.refl _) h (by assumption) ?_ | fail)
      | refine r_q hG Y Y Y ?_); try exact kk)
    | (show AL _ _ _ _ _ _ _ _; first | refine Bj Y Y Y ?_ | (refine Ar ?_; first | show AW _ _ _ _ _ _ | show ∃ x', _ < _ ∧ _)) | (show AW _ _ (.seq _ _) _ _ _; refine Ah ?_; intro Q1) | (show AW _ _ (.region _ _ false) _ _ _; refine Ad ?_; intro O1) | (show AW _ _ (.cond _ _ _) _ _ _; first | refine Ao Y ?_ | refine Ap Y ?_ | refine Bf Y (fun h => ?_) (fun h => ?_)) | (show AW _ _ (.skip) _ _ _; refine Aj ?_; first | show AW _ _ _ _ _ _ | show ∃ x', _ < _ ∧ _) | (show AW _ _ (.block _ _) _ _ _; refine Af ?_; intro Q1) | (show AW _ _ (.exit _) _ _ _; refine As ?_; first | show AW _ _ _ _ _ _ | show ∃ x', _ < _ ∧ _) | (show AW _ _ (.ret) _ _ _; refine Av ?_; try dsimp only [A3, Ac, A7, Ag])
    | (show DL _ _ _ _ _ _ _; refine Bt Y Y (fun K kt kf => Am hG Y Y Y Y Y kt kf) (fun h => ?_) (fun h => ?_))
    | (show DL _ _ _ _ _ _ _; refine Bu Y Y Y ?_) | (show DL _ _ _ _ _ _ _; refine Bd ?_; first | show AW _ _ _ _ _ _ | show ∃ x', _ < _ ∧ _) | (show AW _ _ (.region _ _ true) _ _ _; refine Aw mix (by kernel_rfl) ?_; intro O1) | fail)
      (first | refine Ar ?_ | refine Aj ?_); exact ⟨rfl, (by repeat (first | exact .nil _ | refine .cons rfl ?_)), rfl⟩
    | true =>
      rw [rd_true.1, rd_true.2]
      repeat' (first
    | ((first | (show AL _ _ _ _ _ _ _ _; refine Ae Y ?_) | (show DL _ _ _ _ _ _ _; refine' A6 Y Y (fun K kk => ?_) ?_; try (show Go.Ts.T; rotate_left))); (first
      | refine Aq hG Y Y ?_
      | refine A5 hG Y Y ?_
      | (show AOp _ _ ⟨_, .binOp .add _ _ _ _, _, _, _, _⟩ _ _ _; first | refine Ab hG Y Y Y Y Y (by omega) ?_ | refine Ab (m := 1) hG Y Y Y Y Y (by omega) ?_ | refine Aa hG Y Y Y Y Y (by omega) ?_)
      | (show AOp _ _ ⟨_, .binOp .sub _ _ _ _, _, _, _, _⟩ _ _ _; first | refine Al hG Y Y Y Y (by omega) ?_ | refine Al (m := 1) hG Y Y Y Y (by omega) ?_ | refine Aa hG Y Y Y Y Y (by omega) ?_)
      | (show AOp _ _ ⟨_, .binOp .quo _ _ _ _, _, _, _, _⟩ _ _ _; first | refine Bh (m := 2) hG Y Y Y Y (by omega) ?_ | refine Bh (m := 4) hG Y Y Y Y (by omega) ?_ | refine Bh (m := 8) hG Y Y Y Y (by omega) ?_)
      | (show AOp _ _ ⟨_, .binOp _ _ _ _ _, _, _, _, _⟩ _ _ _; first | refine Au hG Y Y Y Y Y (by omega) ?_ | refine At hG Y Y Y Y Y (by omega) ?_ | ((fail_if_success have := kk); refine Am hG Y Y Y Y Y (fun h => ?_) (fun h => ?_)) | refine Bl hG Y Y Y ?_)
      | (show AOp _ _ ⟨_, .load _ _, _, _, _, _⟩ _ _ _; first | refine Ak (α := Nat) 0 hG Y Y Y Y (by omega) Y ?_ | refine Ay hG Y Y Y ?_ | refine A8 0 hG Y Y Y Y ?_)
      | (show AOp _ _ ⟨_, .indexAddr _ _ _, _, _, _, _⟩ _ _ _; first | refine A4 hG Y Y Y Y Y Y Y (by omega) ?_ | refine Az hG Y Y Y Y Y Y Y (by omega) ?_ | refine Ax hG Y Y Y Y Y Y Y (by omega) ?_ | refine Bb hG Y Y ?_)
      | refine Bc hG Y Y Y ?_
      | refine Bn hG Y Y Y ?_
      | refine r_q hG Y Y Y ?_); try exact kk)
    | (show AL _ _ _ _ _ _ _ _; first | refine Bj Y Y Y ?_ | (refine Ar ?_; first | show AW _ _ _ _ _ _ | show ∃ x', _ < _ ∧ _)) | (show AW _ _ (.seq _ _) _ _ _; refine Ah ?_; intro Q1) | (show AW _ _ (.region _ _ false) _ _ _; refine Ad ?_; intro O1) | (show AW _ _ (.cond _ _ _) _ _ _; first | refine Ao Y ?_ | refine Ap Y ?_ | refine Bf Y (fun h => ?_) (fun h => ?_)) | (show AW _ _ (.skip) _ _ _; refine Aj ?_; first | show AW _ _ _ _ _ _ | show ∃ x', _ < _ ∧ _) | (show AW _ _ (.block _ _) _ _ _; refine Af ?_; intro Q1) | (show AW _ _ (.exit _) _ _ _; refine As ?_; first | show AW _ _ _ _ _ _ | show ∃ x', _ < _ ∧ _) | (show AW _ _ (.ret) _ _ _; refine Av ?_; try dsimp only [A3, Ac, A7, Ag])
    | (show DL _ _ _ _ _ _ _; refine Bt Y Y (fun K kt kf => Am hG Y Y Y Y Y kt kf) (fun h => ?_) (fun h => ?_))
    | (show DL _ _ _ _ _ _ _; refine Bu Y Y Y ?_) | (show DL _ _ _ _ _ _ _; refine Bd ?_; first | show AW _ _ _ _ _ _ | show ∃ x', _ < _ ∧ _) | (show AW _ _ (.region _ _ true) _ _ _; refine Aw mix (by kernel_rfl) ?_; intro O1) | fail)
      (first | refine Ar ?_ | refine Aj ?_); exact ⟨rfl, (by repeat (first | exact .nil _ | refine .cons rfl ?_)), rfl⟩
  intro a' hk
  dsimp (config := { zetaDelta := true }) only [A3, Ac]
  refine aw_forget hk ?_
  have n1 : D.d1.size = n := by omega
  have n2 : D.d2.size = n := by omega
  have n3 : D.pi.1.size = n := by omega
  have hpiv := srt_piv (c := D.d1) (a := a) (b := b) (by omega) (by omega) (by omega)
  rw [show choosePivot ltQ D.d1 a b = D.c by rw [← hD]; rfl] at hpiv
  repeat' (first
    | ((first | (show AL _ _ _ _ _ _ _ _; refine Ae Y ?_) | (show DL _ _ _ _ _ _ _; refine' A6 Y Y (fun K kk => ?_) ?_; try (show Go.Ts.T; rotate_left))); (first
      | refine Aq hG Y Y ?_
      | refine A5 hG Y Y ?_
      | (show AOp _ _ ⟨_, .binOp .add _ _ _ _, _, _, _, _⟩ _ _ _; first | refine Ab hG Y Y Y Y Y (by omega) ?_ | refine Ab (m := 1) hG Y Y Y Y Y (by omega) ?_ | refine Aa hG Y Y Y Y Y (by omega) ?_)
      | (show AOp _ _ ⟨_, .binOp .sub _ _ _ _, _, _, _, _⟩ _ _ _; first | refine Al hG Y Y Y Y (by omega) ?_ | refine Al (m := 1) hG Y Y Y Y (by omega) ?_ | refine Aa hG Y Y Y Y Y (by omega) ?_)
      | (show AOp _ _ ⟨_, .binOp .quo _ _ _ _, _, _, _, _⟩ _ _ _; first | refine Bh (m := 2) hG Y Y Y Y (by omega) ?_ | refine Bh (m := 4) hG Y Y Y Y (by omega) ?_ | refine Bh (m := 8) hG Y Y Y Y (by omega) ?_)
      | (show AOp _ _ ⟨_, .binOp _ _ _ _ _, _, _, _, _⟩ _ _ _; first | refine Au hG Y Y Y Y Y (by omega) ?_ | refine At hG Y Y Y Y Y (by omega) ?_ | ((fail_if_success have := kk); refine Am hG Y Y Y Y Y (fun h => ?_) (fun h => ?_)) | refine Bl hG Y Y Y ?_)
      | (show AOp _ _ ⟨_, .load _ _, _, _, _, _⟩ _ _ _; first | refine Ak (α := Nat) 0 hG Y Y Y Y (by omega) Y ?_ | refine Ay hG Y Y Y ?_ | refine A8 0 hG Y Y Y Y ?_)
      | (show AOp _ _ ⟨_, .indexAddr _ _ _, _, _, _, _⟩ _ _ _; first | refine A4 hG Y Y Y Y Y Y Y (by omega) ?_ | refine Az hG Y Y Y Y Y Y Y (by omega) ?_ | refine Ax hG Y Y Y Y Y Y Y (by omega) ?_ | refine Bb hG Y Y ?_)
      | refine Bc hG Y Y Y ?_
      | refine Bn hG Y Y Y ?_
      | (show AOp _ _ ⟨_, .call ⟨.value _, _, _⟩, _, _, _, _⟩ _ _ _; first | refine r_row Y Y Y Y Y (List.Perm.refl _) hpiv (by assumption) ?_ | fail)
      | refine r_q hG Y Y Y ?_); try exact kk)
    | (show AL _ _ _ _ _ _ _ _; first | refine Bj Y Y Y ?_ | (refine Ar ?_; first | show AW _ _ _ _ _ _ | show ∃ x', _ < _ ∧ _)) | (show AW _ _ (.seq _ _) _ _ _; refine Ah ?_; intro Q1) | (show AW _ _ (.region _ _ false) _ _ _; (fail_if_success show AW _ _ (.region 11 _ _) _ _ _); refine Ad ?_; intro O1) | (show AW _ _ (.cond _ _ _) _ _ _; first | refine Ao Y ?_ | refine Ap Y ?_ | refine Bf Y (fun h => ?_) (fun h => ?_)) | (show AW _ _ (.skip) _ _ _; refine Aj ?_; first | show AW _ _ _ _ _ _ | show ∃ x', _ < _ ∧ _) | (show AW _ _ (.block _ _) _ _ _; refine Af ?_; intro Q1) | (show AW _ _ (.exit _) _ _ _; refine As ?_; first | show AW _ _ _ _ _ _ | show ∃ x', _ < _ ∧ _) | (show AW _ _ (.ret) _ _ _; refine Av ?_; try dsimp only [A3, Ac, A7, Ag])
    | (show DL _ _ _ _ _ _ _; refine Bt Y Y (fun K kt kf => Am hG Y Y Y Y Y kt kf) (fun h => ?_) (fun h => ?_))
    | (show DL _ _ _ _ _ _ _; refine Bu Y Y Y ?_) | (show DL _ _ _ _ _ _ _; refine Bd ?_; first | show AW _ _ _ _ _ _ | show ∃ x', _ < _ ∧ _) | (show AW _ _ (.region _ _ true) _ _ _; (fail_if_success show AW _ _ (.region 11 _ _) _ _ _); refine Aw mix (by kernel_rfl) ?_; intro O1) | fail)
  refine aw_to2 [(0, .aref 1 i 0 n cap), (1, .int .i64 (a : Int)), (2, .int .i64 (b : Int)), (3, .int .i64 (D.lim : Int)), (8, .bool wb), (9, .bool wp), (10, .int .i64 ((b - a : Nat) : Int)), (11, .int .i64 (D.pivot : Int)), (12, .int .i64 (hintCode D.hint))] ⟨[(i, .cells (rowT mT D.d2))], [], off, none⟩ ?_ ?_
  · by_cases hh : D.c.2 = .decreasing
    · have hr := srt_rev (d0 := D.d1) (a := a) (b := b) (by omega) (by omega) (by omega)
      have q : D.d2 = reverseRange D.d1 a b ∧ D.pivot = (b - 1) - (D.c.1 - a) ∧ D.hint = .increasing := by rw [← hD] at hh ⊢; exact rd_dec hh
      rw [q.1, q.2.1, q.2.2]
      have hc : hintCode D.c.2 = 2 := by rw [hh]; rfl
      rw [hc]
      repeat' (first
    | ((first | (show AL _ _ _ _ _ _ _ _; refine Ae Y ?_) | (show DL _ _ _ _ _ _ _; refine' A6 Y Y (fun K kk => ?_) ?_; try (show Go.Ts.T; rotate_left))); (first
      | refine Aq hG Y Y ?_
      | refine A5 hG Y Y ?_
      | (show AOp _ _ ⟨_, .binOp .add _ _ _ _, _, _, _, _⟩ _ _ _; first | refine Ab hG Y Y Y Y Y (by omega) ?_ | refine Ab (m := 1) hG Y Y Y Y Y (by omega) ?_ | refine Aa hG Y Y Y Y Y (by omega) ?_)
      | (show AOp _ _ ⟨_, .binOp .sub _ _ _ _, _, _, _, _⟩ _ _ _; first | refine Al hG Y Y Y Y (by omega) ?_ | refine Al (m := 1) hG Y Y Y Y (by omega) ?_ | refine Aa hG Y Y Y Y Y (by omega) ?_)
      | (show AOp _ _ ⟨_, .binOp .quo _ _ _ _, _, _, _, _⟩ _ _ _; first | refine Bh (m := 2) hG Y Y Y Y (by omega) ?_ | refine Bh (m := 4) hG Y Y Y Y (by omega) ?_ | refine Bh (m := 8) hG Y Y Y Y (by omega) ?_)
      | (show AOp _ _ ⟨_, .binOp _ _ _ _ _, _, _, _, _⟩ _ _ _; first | refine Au hG Y Y Y Y Y (by omega) ?_ | refine At hG Y Y Y Y Y (by omega) ?_ | ((fail_if_success have := kk); refine Am hG Y Y Y Y Y (fun h => ?_) (fun h => ?_)) | refine Bl hG Y Y Y ?_)
      | (show AOp _ _ ⟨_, .load _ _, _, _, _, _⟩ _ _ _; first | refine Ak (α := Nat) 0 hG Y Y Y Y (by omega) Y ?_ | refine Ay hG Y Y Y ?_ | refine A8 0 hG Y Y Y Y ?_)
      | (show AOp _ _ ⟨_, .indexAddr _ _ _, _, _, _, _⟩ _ _ _; first | refine A4 hG Y Y Y Y Y Y Y (by omega) ?_ | refine Az hG Y Y Y Y Y Y Y (by omega) ?_ | refine Ax hG Y Y Y Y Y Y Y (by omega) ?_ | refine Bb hG Y Y ?_)
      | refine Bc hG Y Y Y ?_
      | refine Bn hG Y Y Y ?_
      | (show AOp _ _ ⟨_, .call ⟨.value _, _, _⟩, _, _, _, _⟩ _ _ _; first | refine r_row Y Y Y Y Y (List.Perm.refl _) hr (by assumption) ?_ | fail)
      | refine r_q hG Y Y Y ?_); try exact kk)
    | (show AL _ _ _ _ _ _ _ _; first | refine Bj Y Y Y ?_ | (refine Ar ?_; first | show AW _ _ _ _ _ _ | show ∃ x', _ < _ ∧ _)) | (show AW _ _ (.seq _ _) _ _ _; refine Ah ?_; intro Q1) | (show AW _ _ (.region _ _ false) _ _ _; refine Ad ?_; intro O1) | (show AW _ _ (.cond _ _ _) _ _ _; first | refine Ao Y ?_ | refine Ap Y ?_ | refine Bf Y (fun h => ?_) (fun h => ?_)) | (show AW _ _ (.skip) _ _ _; refine Aj ?_; first | show AW _ _ _ _ _ _ | show ∃ x', _ < _ ∧ _) | (show AW _ _ (.block _ _) _ _ _; refine Af ?_; intro Q1) | (show AW _ _ (.exit _) _ _ _; refine As ?_; first | show AW _ _ _ _ _ _ | show ∃ x', _ < _ ∧ _) | (show AW _ _ (.ret) _ _ _; refine Av ?_; try dsimp only [A3, Ac, A7, Ag])
    | (show DL _ _ _ _ _ _ _; refine Bt Y Y (fun K kt kf => Am hG Y Y Y Y Y kt kf) (fun h => ?_) (fun h => ?_))
    | (show DL _ _ _ _ _ _ _; refine Bu Y Y Y ?_) | (show DL _ _ _ _ _ _ _; refine Bd ?_; first | show AW _ _ _ _ _ _ | show ∃ x', _ < _ ∧ _) | (show AW _ _ (.region _ _ true) _ _ _; refine Aw mix (by kernel_rfl) ?_; intro O1) | fail)
      (first | refine Ar ?_ | refine Aj ?_); exact ⟨rfl, (by repeat (first | exact .nil _ | refine .cons rfl ?_)), rfl⟩
    · have q : D.d2 = D.d1 ∧ D.pivot = D.c.1 ∧ D.hint = D.c.2 := by rw [← hD] at hh ⊢; exact rd_not hh
      rw [q.1, q.2.1, q.2.2]
      have hc : hintCode D.c.2 ≠ 2 := by cases h : D.c.2 <;> simp_all [hintCode]
      repeat' (first
    | ((first | (show AL _ _ _ _ _ _ _ _; refine Ae Y ?_) | (show DL _ _ _ _ _ _ _; refine' A6 Y Y (fun K kk => ?_) ?_; try (show Go.Ts.T; rotate_left))); (first
      | refine Aq hG Y Y ?_
      | refine A5 hG Y Y ?_
      | (show AOp _ _ ⟨_, .binOp .add _ _ _ _, _, _, _, _⟩ _ _ _; first | refine Ab hG Y Y Y Y Y (by omega) ?_ | refine Ab (m := 1) hG Y Y Y Y Y (by omega) ?_ | refine Aa hG Y Y Y Y Y (by omega) ?_)
      | (show AOp _ _ ⟨_, .binOp .sub _ _ _ _, _, _, _, _⟩ _ _ _; first | refine Al hG Y Y Y Y (by omega) ?_ | refine Al (m := 1) hG Y Y Y Y (by omega) ?_ | refine Aa hG Y Y Y Y Y (by omega) ?_)
      | (show AOp _ _ ⟨_, .binOp .quo _ _ _ _, _, _, _, _⟩ _ _ _; first | refine Bh (m := 2) hG Y Y Y Y (by omega) ?_ | refine Bh (m := 4) hG Y Y Y Y (by omega) ?_ | refine Bh (m := 8) hG Y Y Y Y (by omega) ?_)
      | (show AOp _ _ ⟨_, .binOp _ _ _ _ _, _, _, _, _⟩ _ _ _; first | refine Au hG Y Y Y Y Y (by omega) ?_ | refine At hG Y Y Y Y Y (by omega) ?_ | ((fail_if_success have := kk); refine Am hG Y Y Y Y Y (fun h => ?_) (fun h => ?_)) | refine Bl hG Y Y Y ?_)
      | (show AOp _ _ ⟨_, .load _ _, _, _, _, _⟩ _ _ _; first | refine Ak (α := Nat) 0 hG Y Y Y Y (by omega) Y ?_ | refine Ay hG Y Y Y ?_ | refine A8 0 hG Y Y Y Y ?_)
      | (show AOp _ _ ⟨_, .indexAddr _ _ _, _, _, _, _⟩ _ _ _; first | refine A4 hG Y Y Y Y Y Y Y (by omega) ?_ | refine Az hG Y Y Y Y Y Y Y (by omega) ?_ | refine Ax hG Y Y Y Y Y Y Y (by omega) ?_ | refine Bb hG Y Y ?_)
      | refine Bc hG Y Y Y ?_
      | refine Bn hG Y Y Y ?_
      | refine r_q hG Y Y Y ?_); try exact kk)
    | (show AL _ _ _ _ _ _ _ _; first | refine Bj Y Y Y ?_ | (refine Ar ?_; first | show AW _ _ _ _ _ _ | show ∃ x', _ < _ ∧ _)) | (show AW _ _ (.seq _ _) _ _ _; refine Ah ?_; intro Q1) | (show AW _ _ (.region _ _ false) _ _ _; refine Ad ?_; intro O1) | (show AW _ _ (.cond _ _ _) _ _ _; first | refine Ao Y ?_ | refine Ap Y ?_ | refine Bf Y (fun h => ?_) (fun h => ?_)) | (show AW _ _ (.skip) _ _ _; refine Aj ?_; first | show AW _ _ _ _ _ _ | show ∃ x', _ < _ ∧ _) | (show AW _ _ (.block _ _) _ _ _; refine Af ?_; intro Q1) | (show AW _ _ (.exit _) _ _ _; refine As ?_; first | show AW _ _ _ _ _ _ | show ∃ x', _ < _ ∧ _) | (show AW _ _ (.ret) _ _ _; refine Av ?_; try dsimp only [A3, Ac, A7, Ag])
    | (show DL _ _ _ _ _ _ _; refine Bt Y Y (fun K kt kf => Am hG Y Y Y Y Y kt kf) (fun h => ?_) (fun h => ?_))
    | (show DL _ _ _ _ _ _ _; refine Bu Y Y Y ?_) | (show DL _ _ _ _ _ _ _; refine Bd ?_; first | show AW _ _ _ _ _ _ | show ∃ x', _ < _ ∧ _) | (show AW _ _ (.region _ _ true) _ _ _; refine Aw mix (by kernel_rfl) ?_; intro O1) | fail)
      (first | refine Ar ?_ | refine Aj ?_); exact ⟨rfl, (by repeat (first | exact .nil _ | refine .cons rfl ?_)), rfl⟩
  intro a' hk
  dsimp (config := { zetaDelta := true }) only [A3, Ac]
  refine aw_forget hk ?_
  have hpins := srt_pins (d0 := D.d2) (a := a) (b := b) (by omega) (by omega) (by omega)
  have hpy : (wb && wp && decide (D.hint = .increasing)) = true → D.pi = partialInsertionSort ltQ D.d2 a b := fun hc => by rw [← hD] at hc ⊢; exact rd_pi_yes hc
  have hpn : (wb && wp && decide (D.hint = .increasing)) = false → D.pi = (D.d2, false) := fun hc => by rw [← hD] at hc ⊢; exact rd_pi_no hc
  by_cases hp2 : D.pi.2 = true
  · have hc : (wb && wp && decide (D.hint = .increasing)) = true := by
      cases hc : (wb && wp && decide (D.hint = .increasing)) with
      | true => rfl
      | false => rw [hpn hc] at hp2; cases hp2
    rw [← hpy hc, hp2] at hpins
    rw [pdq_done h12 h0 (by rw [hD]; exact hp2), hD] at e
    rw [e] at hpins
    simp only [Bool.and_eq_true, decide_eq_true_eq] at hc
    obtain ⟨⟨rfl, rfl⟩, hh⟩ := hc
    have hcode : hintCode D.hint = 1 := by rw [hh]; rfl
    rw [hcode]
    repeat' (first
    | ((first | (show AL _ _ _ _ _ _ _ _; refine Ae Y ?_) | (show DL _ _ _ _ _ _ _; refine' A6 Y Y (fun K kk => ?_) ?_; try (show Go.Ts.T; rotate_left))); (first
      | refine Aq hG Y Y ?_
      | refine A5 hG Y Y ?_
      | (show AOp _ _ ⟨_, .binOp .add _ _ _ _, _, _, _, _⟩ _ _ _; first | refine Ab hG Y Y Y Y Y (by omega) ?_ | refine Ab (m := 1) hG Y Y Y Y Y (by omega) ?_ | refine Aa hG Y Y Y Y Y (by omega) ?_)
      | (show AOp _ _ ⟨_, .binOp .sub _ _ _ _, _, _, _, _⟩ _ _ _; first | refine Al hG Y Y Y Y (by omega) ?_ | refine Al (m := 1) hG Y Y Y Y (by omega) ?_ | refine Aa hG Y Y Y Y Y (by omega) ?_)
      | (show AOp _ _ ⟨_, .binOp .quo _ _ _ _, _, _, _, _⟩ _ _ _; first | refine Bh (m := 2) hG Y Y Y Y (by omega) ?_ | refine Bh (m := 4) hG Y Y Y Y (by omega) ?_ | refine Bh (m := 8) hG Y Y Y Y (by omega) ?_)
      | (show AOp _ _ ⟨_, .binOp _ _ _ _ _, _, _, _, _⟩ _ _ _; first | refine Au hG Y Y Y Y Y (by omega) ?_ | refine At hG Y Y Y Y Y (by omega) ?_ | ((fail_if_success have := kk); refine Am hG Y Y Y Y Y (fun h => ?_) (fun h => ?_)) | refine Bl hG Y Y Y ?_)
      | (show AOp _ _ ⟨_, .load _ _, _, _, _, _⟩ _ _ _; first | refine Ak (α := Nat) 0 hG Y Y Y Y (by omega) Y ?_ | refine Ay hG Y Y Y ?_ | refine A8 0 hG Y Y Y Y ?_)
      | (show AOp _ _ ⟨_, .indexAddr _ _ _, _, _, _, _⟩ _ _ _; first | refine A4 hG Y Y Y Y Y Y Y (by omega) ?_ | refine Az hG Y Y Y Y Y Y Y (by omega) ?_ | refine Ax hG Y Y Y Y Y Y Y (by omega) ?_ | refine Bb hG Y Y ?_)
      | refine Bc hG Y Y Y ?_
      | refine Bn hG Y Y Y ?_
      | (show AOp _ _ ⟨_, .call ⟨.value _, _, _⟩, _, _, _, _⟩ _ _ _; first | refine r_row Y Y Y Y Y (List.Perm.refl _) hpins (by assumption) ?_ | fail)
      | refine r_q hG Y Y Y ?_); try exact kk)
    | (show AL _ _ _ _ _ _ _ _; first | refine Bj Y Y Y ?_ | (refine Ar ?_; first | show AW _ _ _ _ _ _ | show ∃ x', _ < _ ∧ _)) | (show AW _ _ (.seq _ _) _ _ _; refine Ah ?_; intro Q1) | (show AW _ _ (.region _ _ false) _ _ _; refine Ad ?_; intro O1) | (show AW _ _ (.cond _ _ _) _ _ _; first | refine Ao Y ?_ | refine Ap Y ?_ | refine Bf Y (fun h => ?_) (fun h => ?_)) | (show AW _ _ (.skip) _ _ _; refine Aj ?_; first | show AW _ _ _ _ _ _ | show ∃ x', _ < _ ∧ _) | (show AW _ _ (.block _ _) _ _ _; refine Af ?_; intro Q1) | (show AW _ _ (.exit _) _ _ _; refine As ?_; first | show AW _ _ _ _ _ _ | show ∃ x', _ < _ ∧ _) | (show AW _ _ (.ret) _ _ _; refine Av ?_; try dsimp only [A3, Ac, A7, Ag])
    | (show DL _ _ _ _ _ _ _; refine Bt Y Y (fun K kt kf => Am hG Y Y Y Y Y kt kf) (fun h => ?_) (fun h => ?_))
    | (show DL _ _ _ _ _ _ _; refine Bu Y Y Y ?_) | (show DL _ _ _ _ _ _ _; refine Bd ?_; first | show AW _ _ _ _ _ _ | show ∃ x', _ < _ ∧ _) | (show AW _ _ (.region _ _ true) _ _ _; refine Aw mix (by kernel_rfl) ?_; intro O1) | fail)
    refine ret_row 0 Bo ?_ (.refl _) ?_ <;> rfl
  have hp3 : D.pi.2 = false := by simpa using hp2
  clear hp2
  repeat' (first
    | ((first | (show AL _ _ _ _ _ _ _ _; refine Ae Y ?_) | (show DL _ _ _ _ _ _ _; refine' A6 Y Y (fun K kk => ?_) ?_; try (show Go.Ts.T; rotate_left))); (first
      | refine Aq hG Y Y ?_
      | refine A5 hG Y Y ?_
      | (show AOp _ _ ⟨_, .binOp .add _ _ _ _, _, _, _, _⟩ _ _ _; first | refine Ab hG Y Y Y Y Y (by omega) ?_ | refine Ab (m := 1) hG Y Y Y Y Y (by omega) ?_ | refine Aa hG Y Y Y Y Y (by omega) ?_)
      | (show AOp _ _ ⟨_, .binOp .sub _ _ _ _, _, _, _, _⟩ _ _ _; first | refine Al hG Y Y Y Y (by omega) ?_ | refine Al (m := 1) hG Y Y Y Y (by omega) ?_ | refine Aa hG Y Y Y Y Y (by omega) ?_)
      | (show AOp _ _ ⟨_, .binOp .quo _ _ _ _, _, _, _, _⟩ _ _ _; first | refine Bh (m := 2) hG Y Y Y Y (by omega) ?_ | refine Bh (m := 4) hG Y Y Y Y (by omega) ?_ | refine Bh (m := 8) hG Y Y Y Y (by omega) ?_)
      | (show AOp _ _ ⟨_, .binOp _ _ _ _ _, _, _, _, _⟩ _ _ _; first | refine Au hG Y Y Y Y Y (by omega) ?_ | refine At hG Y Y Y Y Y (by omega) ?_ | ((fail_if_success have := kk); refine Am hG Y Y Y Y Y (fun h => ?_) (fun h => ?_)) | refine Bl hG Y Y Y ?_)
      | (show AOp _ _ ⟨_, .load _ _, _, _, _, _⟩ _ _ _; first | refine Ak (α := Nat) 0 hG Y Y Y Y (by omega) Y ?_ | refine Ay hG Y Y Y ?_ | refine A8 0 hG Y Y Y Y ?_)
      | (show AOp _ _ ⟨_, .indexAddr _ _ _, _, _, _, _⟩ _ _ _; first | refine A4 hG Y Y Y Y Y Y Y (by omega) ?_ | refine Az hG Y Y Y Y Y Y Y (by omega) ?_ | refine Ax hG Y Y Y Y Y Y Y (by omega) ?_ | refine Bb hG Y Y ?_)
      | refine Bc hG Y Y Y ?_
      | refine Bn hG Y Y Y ?_
      | refine r_q hG Y Y Y ?_); try exact kk)
    | (show AL _ _ _ _ _ _ _ _; first | refine Bj Y Y Y ?_ | (refine Ar ?_; first | show AW _ _ _ _ _ _ | show ∃ x', _ < _ ∧ _)) | (show AW _ _ (.seq _ _) _ _ _; refine Ah ?_; intro Q1) | (show AW _ _ (.region _ _ false) _ _ _; (fail_if_success show AW _ _ (.region 15 _ _) _ _ _); refine Ad ?_; intro O1) | (show AW _ _ (.cond _ _ _) _ _ _; first | refine Ao Y ?_ | refine Ap Y ?_ | refine Bf Y (fun h => ?_) (fun h => ?_)) | (show AW _ _ (.skip) _ _ _; refine Aj ?_; first | show AW _ _ _ _ _ _ | show ∃ x', _ < _ ∧ _) | (show AW _ _ (.block _ _) _ _ _; refine Af ?_; intro Q1) | (show AW _ _ (.exit _) _ _ _; refine As ?_; first | show AW _ _ _ _ _ _ | show ∃ x', _ < _ ∧ _) | (show AW _ _ (.ret) _ _ _; refine Av ?_; try dsimp only [A3, Ac, A7, Ag])
    | (show DL _ _ _ _ _ _ _; refine Bt Y Y (fun K kt kf => Am hG Y Y Y Y Y kt kf) (fun h => ?_) (fun h => ?_))
    | (show DL _ _ _ _ _ _ _; refine Bu Y Y Y ?_) | (show DL _ _ _ _ _ _ _; refine Bd ?_; first | show AW _ _ _ _ _ _ | show ∃ x', _ < _ ∧ _) | (show AW _ _ (.region _ _ true) _ _ _; (fail_if_success show AW _ _ (.region 15 _ _) _ _ _); refine Aw mix (by kernel_rfl) ?_; intro O1) | fail)
  refine aw_to2 [(0, .aref 1 i 0 n cap), (1, .int .i64 (a : Int)), (2, .int .i64 (b : Int)), (3, .int .i64 (D.lim : Int)), (8, .bool wb), (9, .bool wp), (10, .int .i64 ((b - a : Nat) : Int)), (11, .int .i64 (D.pivot : Int))] ⟨[(i, .cells (rowT mT D.pi.1))], [], off, none⟩ ?_ ?_
  · cases hc : (wb && wp && decide (D.hint = .increasing)) with
    | true =>
      rw [← hpy hc, hp3] at hpins
      simp only [Bool.and_eq_true, decide_eq_true_eq] at hc
      obtain ⟨⟨rfl, rfl⟩, hh⟩ := hc
      have hcode : hintCode D.hint = 1 := by rw [hh]; rfl
      rw [hcode]
      repeat' (first
    | ((first | (show AL _ _ _ _ _ _ _ _; refine Ae Y ?_) | (show DL _ _ _ _ _ _ _; refine' A6 Y Y (fun K kk => ?_) ?_; try (show Go.Ts.T; rotate_left))); (first
      | refine Aq hG Y Y ?_
      | refine A5 hG Y Y ?_
      | (show AOp _ _ ⟨_, .binOp .add _ _ _ _, _, _, _, _⟩ _ _ _; first | refine Ab hG Y Y Y Y Y (by omega) ?_ | refine Ab (m := 1) hG Y Y Y Y Y (by omega) ?_ | refine Aa hG Y Y Y Y Y (by omega) ?_)
      | (show AOp _ _ ⟨_, .binOp .sub _ _ _ _, _, _, _, _⟩ _ _ _; first | refine Al hG Y Y Y Y (by omega) ?_ | refine Al (m := 1) hG Y Y Y Y (by omega) ?_ | refine Aa hG Y Y Y Y Y (by omega) ?_)
      | (show AOp _ _ ⟨_, .binOp .quo _ _ _ _, _, _, _, _⟩ _ _ _; first | refine Bh (m := 2) hG Y Y Y Y (by omega) ?_ | refine Bh (m := 4) hG Y Y Y Y (by omega) ?_ | refine Bh (m := 8) hG Y Y Y Y (by omega) ?_)
      | (show AOp _ _ ⟨_, .binOp _ _ _ _ _, _, _, _, _⟩ _ _ _; first | refine Au hG Y Y Y Y Y (by omega) ?_ | refine At hG Y Y Y Y Y (by omega) ?_ | ((fail_if_success have := kk); refine Am hG Y Y Y Y Y (fun h => ?_) (fun h => ?_)) | refine Bl hG Y Y Y ?_)
      | (show AOp _ _ ⟨_, .load _ _, _, _, _, _⟩ _ _ _; first | refine Ak (α := Nat) 0 hG Y Y Y Y (by omega) Y ?_ | refine Ay hG Y Y Y ?_ | refine A8 0 hG Y Y Y Y ?_)
      | (show AOp _ _ ⟨_, .indexAddr _ _ _, _, _, _, _⟩ _ _ _; first | refine A4 hG Y Y Y Y Y Y Y (by omega) ?_ | refine Az hG Y Y Y Y Y Y Y (by omega) ?_ | refine Ax hG Y Y Y Y Y Y Y (by omega) ?_ | refine Bb hG Y Y ?_)
      | refine Bc hG Y Y Y ?_
      | refine Bn hG Y Y Y ?_
      | (show AOp _ _ ⟨_, .call ⟨.value _, _, _⟩, _, _, _, _⟩ _ _ _; first | refine r_row Y Y Y Y Y (List.Perm.refl _) hpins (by assumption) ?_ | fail)
      | refine r_q hG Y Y Y ?_); try exact kk)
    | (show AL _ _ _ _ _ _ _ _; first | refine Bj Y Y Y ?_ | (refine Ar ?_; first | show AW _ _ _ _ _ _ | show ∃ x', _ < _ ∧ _)) | (show AW _ _ (.seq _ _) _ _ _; refine Ah ?_; intro Q1) | (show AW _ _ (.region _ _ false) _ _ _; refine Ad ?_; intro O1) | (show AW _ _ (.cond _ _ _) _ _ _; first | refine Ao Y ?_ | refine Ap Y ?_ | refine Bf Y (fun h => ?_) (fun h => ?_)) | (show AW _ _ (.skip) _ _ _; refine Aj ?_; first | show AW _ _ _ _ _ _ | show ∃ x', _ < _ ∧ _) | (show AW _ _ (.block _ _) _ _ _; refine Af ?_; intro Q1) | (show AW _ _ (.exit _) _ _ _; refine As ?_; first | show AW _ _ _ _ _ _ | show ∃ x', _ < _ ∧ _) | (show AW _ _ (.ret) _ _ _; refine Av ?_; try dsimp only [A3, Ac, A7, Ag])
    | (show DL _ _ _ _ _ _ _; refine Bt Y Y (fun K kt kf => Am hG Y Y Y Y Y kt kf) (fun h => ?_) (fun h => ?_))
    | (show DL _ _ _ _ _ _ _; refine Bu Y Y Y ?_) | (show DL _ _ _ _ _ _ _; refine Bd ?_; first | show AW _ _ _ _ _ _ | show ∃ x', _ < _ ∧ _) | (show AW _ _ (.region _ _ true) _ _ _; refine Aw mix (by kernel_rfl) ?_; intro O1) | fail)
      (first | refine Ar ?_ | refine Aj ?_); exact ⟨rfl, (by repeat (first | exact .nil _ | refine .cons rfl ?_)), rfl⟩
    | false =>
      rw [hpn hc]
      clear hpins hpy hpn
      cases wb with
      | false =>
        repeat' (first
    | ((first | (show AL _ _ _ _ _ _ _ _; refine Ae Y ?_) | (show DL _ _ _ _ _ _ _; refine' A6 Y Y (fun K kk => ?_) ?_; try (show Go.Ts.T; rotate_left))); (first
      | refine Aq hG Y Y ?_
      | refine A5 hG Y Y ?_
      | (show AOp _ _ ⟨_, .binOp .add _ _ _ _, _, _, _, _⟩ _ _ _; first | refine Ab hG Y Y Y Y Y (by omega) ?_ | refine Ab (m := 1) hG Y Y Y Y Y (by omega) ?_ | refine Aa hG Y Y Y Y Y (by omega) ?_)
      | (show AOp _ _ ⟨_, .binOp .sub _ _ _ _, _, _, _, _⟩ _ _ _; first | refine Al hG Y Y Y Y (by omega) ?_ | refine Al (m := 1) hG Y Y Y Y (by omega) ?_ | refine Aa hG Y Y Y Y Y (by omega) ?_)
      | (show AOp _ _ ⟨_, .binOp .quo _ _ _ _, _, _, _, _⟩ _ _ _; first | refine Bh (m := 2) hG Y Y Y Y (by omega) ?_ | refine Bh (m := 4) hG Y Y Y Y (by omega) ?_ | refine Bh (m := 8) hG Y Y Y Y (by omega) ?_)
      | (show AOp _ _ ⟨_, .binOp _ _ _ _ _, _, _, _, _⟩ _ _ _; first | refine Au hG Y Y Y Y Y (by omega) ?_ | refine At hG Y Y Y Y Y (by omega) ?_ | ((fail_if_success have := kk); refine Am hG Y Y Y Y Y (fun h => ?_) (fun h => ?_)) | refine Bl hG Y Y Y ?_)
      | (show AOp _ _ ⟨_, .load _ _, _, _, _, _⟩ _ _ _; first | refine Ak (α := Nat) 0 hG Y Y Y Y (by omega) Y ?_ | refine Ay hG Y Y Y ?_ | refine A8 0 hG Y Y Y Y ?_)
      | (show AOp _ _ ⟨_, .indexAddr _ _ _, _, _, _, _⟩ _ _ _; first | refine A4 hG Y Y Y Y Y Y Y (by omega) ?_ | refine Az hG Y Y Y Y Y Y Y (by omega) ?_ | refine Ax hG Y Y Y Y Y Y Y (by omega) ?_ | refine Bb hG Y Y ?_)
      | refine Bc hG Y Y Y ?_
      | refine Bn hG Y Y Y ?_
      | refine r_q hG Y Y Y ?_); try exact kk)
    | (show AL _ _ _ _ _ _ _ _; first | refine Bj Y Y Y ?_ | (refine Ar ?_; first | show AW _ _ _ _ _ _ | show ∃ x', _ < _ ∧ _)) | (show AW _ _ (.seq _ _) _ _ _; refine Ah ?_; intro Q1) | (show AW _ _ (.region _ _ false) _ _ _; refine Ad ?_; intro O1) | (show AW _ _ (.cond _ _ _) _ _ _; first | refine Ao Y ?_ | refine Ap Y ?_ | refine Bf Y (fun h => ?_) (fun h => ?_)) | (show AW _ _ (.skip) _ _ _; refine Aj ?_; first | show AW _ _ _ _ _ _ | show ∃ x', _ < _ ∧ _) | (show AW _ _ (.block _ _) _ _ _; refine Af ?_; intro Q1) | (show AW _ _ (.exit _) _ _ _; refine As ?_; first | show AW _ _ _ _ _ _ | show ∃ x', _ < _ ∧ _) | (show AW _ _ (.ret) _ _ _; refine Av ?_; try dsimp only [A3, Ac, A7, Ag])
    | (show DL _ _ _ _ _ _ _; refine Bt Y Y (fun K kt kf => Am hG Y Y Y Y Y kt kf) (fun h => ?_) (fun h => ?_))
    | (show DL _ _ _ _ _ _ _; refine Bu Y Y Y ?_) | (show DL _ _ _ _ _ _ _; refine Bd ?_; first | show AW _ _ _ _ _ _ | show ∃ x', _ < _ ∧ _) | (show AW _ _ (.region _ _ true) _ _ _; refine Aw mix (by kernel_rfl) ?_; intro O1) | fail)
        (first | refine Ar ?_ | refine Aj ?_); exact ⟨rfl, (by repeat (first | exact .nil _ | refine .cons rfl ?_)), rfl⟩
      | true =>
        cases wp with
        | false =>
          repeat' (first
    | ((first | (show AL _ _ _ _ _ _ _ _; refine Ae Y ?_) | (show DL _ _ _ _ _ _ _; refine' A6 Y Y (fun K kk => ?_) ?_; try (show Go.Ts.T; rotate_left))); (first
      | refine Aq hG Y Y ?_
      | refine A5 hG Y Y ?_
      | (show AOp _ _ ⟨_, .binOp .add _ _ _ _, _, _, _, _⟩ _ _ _; first | refine Ab hG Y Y Y Y Y (by omega) ?_ | refine Ab (m := 1) hG Y Y Y Y Y (by omega) ?_ | refine Aa hG Y Y Y Y Y (by omega) ?_)
      | (show AOp _ _ ⟨_, .binOp .sub _ _ _ _, _, _, _, _⟩ _ _ _; first | refine Al hG Y Y Y Y (by omega) ?_ | refine Al (m := 1) hG Y Y Y Y (by omega) ?_ | refine Aa hG Y Y Y Y Y (by omega) ?_)
      | (show AOp _ _ ⟨_, .binOp .quo _ _ _ _, _, _, _, _⟩ _ _ _; first | refine Bh (m := 2) hG Y Y Y Y (by omega) ?_ | refine Bh (m := 4) hG Y Y Y Y (by omega) ?_ | refine Bh (m := 8) hG Y Y Y Y (by omega) ?_)
      | (show AOp _ _ ⟨_, .binOp _ _ _ _ _, _, _, _, _⟩ _ _ _; first | refine Au hG Y Y Y Y Y (by omega) ?_ | refine At hG Y Y Y Y Y (by omega) ?_ | ((fail_if_success have := kk); refine Am hG Y Y Y Y Y (fun h => ?_) (fun h => ?_)) | refine Bl hG Y Y Y ?_)
      | (show AOp _ _ ⟨_, .load _ _, _, _, _, _⟩ _ _ _; first | refine Ak (α := Nat) 0 hG Y Y Y Y (by omega) Y ?_ | refine Ay hG Y Y Y ?_ | refine A8 0 hG Y Y Y Y ?_)
      | (show AOp _ _ ⟨_, .indexAddr _ _ _, _, _, _, _⟩ _ _ _; first | refine A4 hG Y Y Y Y Y Y Y (by omega) ?_ | refine Az hG Y Y Y Y Y Y Y (by omega) ?_ | refine Ax hG Y Y Y Y Y Y Y (by omega) ?_ | refine Bb hG Y Y ?_)
      | refine Bc hG Y Y Y ?_
      | refine Bn hG Y Y Y ?_
      | refine r_q hG Y Y Y ?_); try exact kk)
    | (show AL _ _ _ _ _ _ _ _; first | refine Bj Y Y Y ?_ | (refine Ar ?_; first | show AW _ _ _ _ _ _ | show ∃ x', _ < _ ∧ _)) | (show AW _ _ (.seq _ _) _ _ _; refine Ah ?_; intro Q1) | (show AW _ _ (.region _ _ false) _ _ _; refine Ad ?_; intro O1) | (show AW _ _ (.cond _ _ _) _ _ _; first | refine Ao Y ?_ | refine Ap Y ?_ | refine Bf Y (fun h => ?_) (fun h => ?_)) | (show AW _ _ (.skip) _ _ _; refine Aj ?_; first | show AW _ _ _ _ _ _ | show ∃ x', _ < _ ∧ _) | (show AW _ _ (.block _ _) _ _ _; refine Af ?_; intro Q1) | (show AW _ _ (.exit _) _ _ _; refine As ?_; first | show AW _ _ _ _ _ _ | show ∃ x', _ < _ ∧ _) | (show AW _ _ (.ret) _ _ _; refine Av ?_; try dsimp only [A3, Ac, A7, Ag])
    | (show DL _ _ _ _ _ _ _; refine Bt Y Y (fun K kt kf => Am hG Y Y Y Y Y kt kf) (fun h => ?_) (fun h => ?_))
    | (show DL _ _ _ _ _ _ _; refine Bu Y Y Y ?_) | (show DL _ _ _ _ _ _ _; refine Bd ?_; first | show AW _ _ _ _ _ _ | show ∃ x', _ < _ ∧ _) | (show AW _ _ (.region _ _ true) _ _ _; refine Aw mix (by kernel_rfl) ?_; intro O1) | fail)
          (first | refine Ar ?_ | refine Aj ?_); exact ⟨rfl, (by repeat (first | exact .nil _ | refine .cons rfl ?_)), rfl⟩
        | true =>
          have hcode : hintCode D.hint ≠ 1 := by cases h : D.hint <;> simp_all [hintCode]
          repeat' (first
    | ((first | (show AL _ _ _ _ _ _ _ _; refine Ae Y ?_) | (show DL _ _ _ _ _ _ _; refine' A6 Y Y (fun K kk => ?_) ?_; try (show Go.Ts.T; rotate_left))); (first
      | refine Aq hG Y Y ?_
      | refine A5 hG Y Y ?_
      | (show AOp _ _ ⟨_, .binOp .add _ _ _ _, _, _, _, _⟩ _ _ _; first | refine Ab hG Y Y Y Y Y (by omega) ?_ | refine Ab (m := 1) hG Y Y Y Y Y (by omega) ?_ | refine Aa hG Y Y Y Y Y (by omega) ?_)
      | (show AOp _ _ ⟨_, .binOp .sub _ _ _ _, _, _, _, _⟩ _ _ _; first | refine Al hG Y Y Y Y (by omega) ?_ | refine Al (m := 1) hG Y Y Y Y (by omega) ?_ | refine Aa hG Y Y Y Y Y (by omega) ?_)
      | (show AOp _ _ ⟨_, .binOp .quo _ _ _ _, _, _, _, _⟩ _ _ _; first | refine Bh (m := 2) hG Y Y Y Y (by omega) ?_ | refine Bh (m := 4) hG Y Y Y Y (by omega) ?_ | refine Bh (m := 8) hG Y Y Y Y (by omega) ?_)
      | (show AOp _ _ ⟨_, .binOp _ _ _ _ _, _, _, _, _⟩ _ _ _; first | refine Au hG Y Y Y Y Y (by omega) ?_ | refine At hG Y Y Y Y Y (by omega) ?_ | ((fail_if_success have := kk); refine Am hG Y Y Y Y Y (fun h => ?_) (fun h => ?_)) | refine Bl hG Y Y Y ?_)
      | (show AOp _ _ ⟨_, .load _ _, _, _, _, _⟩ _ _ _; first | refine Ak (α := Nat) 0 hG Y Y Y Y (by omega) Y ?_ | refine Ay hG Y Y Y ?_ | refine A8 0 hG Y Y Y Y ?_)
      | (show AOp _ _ ⟨_, .indexAddr _ _ _, _, _, _, _⟩ _ _ _; first | refine A4 hG Y Y Y Y Y Y Y (by omega) ?_ | refine Az hG Y Y Y Y Y Y Y (by omega) ?_ | refine Ax hG Y Y Y Y Y Y Y (by omega) ?_ | refine Bb hG Y Y ?_)
      | refine Bc hG Y Y Y ?_
      | refine Bn hG Y Y Y ?_
      | refine r_q hG Y Y Y ?_); try exact kk)
    | (show AL _ _ _ _ _ _ _ _; first | refine Bj Y Y Y ?_ | (refine Ar ?_; first | show AW _ _ _ _ _ _ | show ∃ x', _ < _ ∧ _)) | (show AW _ _ (.seq _ _) _ _ _; refine Ah ?_; intro Q1) | (show AW _ _ (.region _ _ false) _ _ _; refine Ad ?_; intro O1) | (show AW _ _ (.cond _ _ _) _ _ _; first | refine Ao Y ?_ | refine Ap Y ?_ | refine Bf Y (fun h => ?_) (fun h => ?_)) | (show AW _ _ (.skip) _ _ _; refine Aj ?_; first | show AW _ _ _ _ _ _ | show ∃ x', _ < _ ∧ _) | (show AW _ _ (.block _ _) _ _ _; refine Af ?_; intro Q1) | (show AW _ _ (.exit _) _ _ _; refine As ?_; first | show AW _ _ _ _ _ _ | show ∃ x', _ < _ ∧ _) | (show AW _ _ (.ret) _ _ _; refine Av ?_; try dsimp only [A3, Ac, A7, Ag])
    | (show DL _ _ _ _ _ _ _; refine Bt Y Y (fun K kt kf => Am hG Y Y Y Y Y kt kf) (fun h => ?_) (fun h => ?_))
    | (show DL _ _ _ _ _ _ _; refine Bu Y Y Y ?_) | (show DL _ _ _ _ _ _ _; refine Bd ?_; first | show AW _ _ _ _ _ _ | show ∃ x', _ < _ ∧ _) | (show AW _ _ (.region _ _ true) _ _ _; refine Aw mix (by kernel_rfl) ?_; intro O1) | fail)
          (first | refine Ar ?_ | refine Aj ?_); exact ⟨rfl, (by repeat (first | exact .nil _ | refine .cons rfl ?_)), rfl⟩
  intro a' hk
  dsimp (config := { zetaDelta := true }) only [A3, Ac]
  refine aw_forget hk ?_
  clear hpins hpy hpn
  clear hpiv n1 n2 c1 s1 B1 s2 B2
  by_cases h2 : (decide (a > 0) && !ltQ D.pi.1[a - 1]! D.pi.1[D.pivot]!) = true
  · obtain ⟨Q, hQ⟩ : ∃ Q, partitionEqual ltQ D.pi.1 a b D.pivot = Q := ⟨_, rfl⟩
    have hpe := srt_peq (d0 := D.pi.1) (a := a) (b := b) (pv := D.pivot) pv.1 pv.2 (by omega) (by omega)
    rw [hQ] at hpe
    have h2' := h2
    simp only [Bool.and_eq_true, decide_eq_true_eq, Bool.not_eq_true'] at h2'
    obtain ⟨g1, g2, g3, g4, _⟩ := round_eq ltQ_swo (partitionEqual_holds ltQ) h2'.1 pv.1 pv.2 (by omega) B3 h2'.2 hQ
    rw [pdq_eq h12 h0 (by rw [hD]; exact hp3) (by rw [hD]; exact h2) (by rw [hD, hQ]; exact ⟨g1, g2⟩), hD, hQ] at e
    have hlt := Ci D.pi.1[a - 1]! D.pi.1[D.pivot]!
    rw [h2'.2] at hlt
    have ha := h2'.1
    repeat' (first
    | ((first | (show AL _ _ _ _ _ _ _ _; refine Ae Y ?_) | (show DL _ _ _ _ _ _ _; refine' A6 Y Y (fun K kk => ?_) ?_; try (show Go.Ts.T; rotate_left))); (first
      | refine Aq hG Y Y ?_
      | refine A5 hG Y Y ?_
      | (show AOp _ _ ⟨_, .binOp .add _ _ _ _, _, _, _, _⟩ _ _ _; first | refine Ab hG Y Y Y Y Y (by omega) ?_ | refine Ab (m := 1) hG Y Y Y Y Y (by omega) ?_ | refine Aa hG Y Y Y Y Y (by omega) ?_)
      | (show AOp _ _ ⟨_, .binOp .sub _ _ _ _, _, _, _, _⟩ _ _ _; first | refine Al hG Y Y Y Y (by omega) ?_ | refine Al (m := 1) hG Y Y Y Y (by omega) ?_ | refine Aa hG Y Y Y Y Y (by omega) ?_)
      | (show AOp _ _ ⟨_, .binOp .quo _ _ _ _, _, _, _, _⟩ _ _ _; first | refine Bh (m := 2) hG Y Y Y Y (by omega) ?_ | refine Bh (m := 4) hG Y Y Y Y (by omega) ?_ | refine Bh (m := 8) hG Y Y Y Y (by omega) ?_)
      | (show AOp _ _ ⟨_, .binOp _ _ _ _ _, _, _, _, _⟩ _ _ _; first | refine Au hG Y Y Y Y Y (by omega) ?_ | refine At hG Y Y Y Y Y (by omega) ?_ | ((fail_if_success have := kk); refine Am hG Y Y Y Y Y (fun h => ?_) (fun h => ?_)) | refine Bl hG Y Y Y ?_)
      | (show AOp _ _ ⟨_, .load _ _, _, _, _, _⟩ _ _ _; first | refine Ak (α := Nat) 0 hG Y Y Y Y (by omega) Y ?_ | refine Ay hG Y Y Y ?_ | refine A8 0 hG Y Y Y Y ?_)
      | (show AOp _ _ ⟨_, .indexAddr _ _ _, _, _, _, _⟩ _ _ _; first | refine A4 hG Y Y Y Y Y Y Y (by omega) ?_ | refine Az hG Y Y Y Y Y Y Y (by omega) ?_ | refine Ax hG Y Y Y Y Y Y Y (by omega) ?_ | refine Bb hG Y Y ?_)
      | refine Bc hG Y Y Y ?_
      | refine Bn hG Y Y Y ?_
      | (show AOp _ _ ⟨_, .call ⟨.value _, _, _⟩, _, _, _, _⟩ _ _ _; first | refine B0 Y Y Y Y Y (by first | (apply hlt <;> (first | assumption | omega | exact Ba _ _ | exact Bi _ | exact Bk _ _ | exact Bs _ | rfl | (simp; omega))) | fail) ?_ | refine r_row Y Y Y Y Y (List.Perm.refl _) hpe (by assumption) ?_ | fail)
      | refine r_q hG Y Y Y ?_); try exact kk)
    | (show AL _ _ _ _ _ _ _ _; first | refine Bj Y Y Y ?_ | (refine Ar ?_; first | show AW _ _ _ _ _ _ | show ∃ x', _ < _ ∧ _)) | (show AW _ _ (.seq _ _) _ _ _; refine Ah ?_; intro Q1) | (show AW _ _ (.region _ _ false) _ _ _; refine Ad ?_; intro O1) | (show AW _ _ (.cond _ _ _) _ _ _; first | refine Ao Y ?_ | refine Ap Y ?_ | refine Bf Y (fun h => ?_) (fun h => ?_)) | (show AW _ _ (.skip) _ _ _; refine Aj ?_; first | show AW _ _ _ _ _ _ | show ∃ x', _ < _ ∧ _) | (show AW _ _ (.block _ _) _ _ _; refine Af ?_; intro Q1) | (show AW _ _ (.exit _) _ _ _; refine As ?_; first | show AW _ _ _ _ _ _ | show ∃ x', _ < _ ∧ _) | (show AW _ _ (.ret) _ _ _; refine Av ?_; try dsimp only [A3, Ac, A7, Ag])
    | (show DL _ _ _ _ _ _ _; refine Bt Y Y (fun K kt kf => Am hG Y Y Y Y Y kt kf) (fun h => ?_) (fun h => ?_))
    | (show DL _ _ _ _ _ _ _; refine Bu Y Y Y ?_) | (show DL _ _ _ _ _ _ _; refine Bd ?_; first | show AW _ _ _ _ _ _ | show ∃ x', _ < _ ∧ _) | (show AW _ _ (.region _ _ true) _ _ _; refine Aw mix (by kernel_rfl) ?_; intro O1) | fail)
    exact ⟨⟨Q.1, b, D.lim, wb, wp, Q.2, by omega, g2, hb, by omega, hlim, g4, e⟩, by dsimp only; omega, (by repeat (first | exact .nil _ | refine .cons rfl ?_)), .refl _⟩
  have h3 : (decide (a > 0) && !ltQ D.pi.1[a - 1]! D.pi.1[D.pivot]!) = false := by simpa using h2
  repeat' (first
    | ((first | (show AL _ _ _ _ _ _ _ _; refine Ae Y ?_) | (show DL _ _ _ _ _ _ _; refine' A6 Y Y (fun K kk => ?_) ?_; try (show Go.Ts.T; rotate_left))); (first
      | refine Aq hG Y Y ?_
      | refine A5 hG Y Y ?_
      | (show AOp _ _ ⟨_, .binOp .add _ _ _ _, _, _, _, _⟩ _ _ _; first | refine Ab hG Y Y Y Y Y (by omega) ?_ | refine Ab (m := 1) hG Y Y Y Y Y (by omega) ?_ | refine Aa hG Y Y Y Y Y (by omega) ?_)
      | (show AOp _ _ ⟨_, .binOp .sub _ _ _ _, _, _, _, _⟩ _ _ _; first | refine Al hG Y Y Y Y (by omega) ?_ | refine Al (m := 1) hG Y Y Y Y (by omega) ?_ | refine Aa hG Y Y Y Y Y (by omega) ?_)
      | (show AOp _ _ ⟨_, .binOp .quo _ _ _ _, _, _, _, _⟩ _ _ _; first | refine Bh (m := 2) hG Y Y Y Y (by omega) ?_ | refine Bh (m := 4) hG Y Y Y Y (by omega) ?_ | refine Bh (m := 8) hG Y Y Y Y (by omega) ?_)
      | (show AOp _ _ ⟨_, .binOp _ _ _ _ _, _, _, _, _⟩ _ _ _; first | refine Au hG Y Y Y Y Y (by omega) ?_ | refine At hG Y Y Y Y Y (by omega) ?_ | ((fail_if_success have := kk); refine Am hG Y Y Y Y Y (fun h => ?_) (fun h => ?_)) | refine Bl hG Y Y Y ?_)
      | (show AOp _ _ ⟨_, .load _ _, _, _, _, _⟩ _ _ _; first | refine Ak (α := Nat) 0 hG Y Y Y Y (by omega) Y ?_ | refine Ay hG Y Y Y ?_ | refine A8 0 hG Y Y Y Y ?_)
      | (show AOp _ _ ⟨_, .indexAddr _ _ _, _, _, _, _⟩ _ _ _; first | refine A4 hG Y Y Y Y Y Y Y (by omega) ?_ | refine Az hG Y Y Y Y Y Y Y (by omega) ?_ | refine Ax hG Y Y Y Y Y Y Y (by omega) ?_ | refine Bb hG Y Y ?_)
      | refine Bc hG Y Y Y ?_
      | refine Bn hG Y Y Y ?_
      | refine r_q hG Y Y Y ?_); try exact kk)
    | (show AL _ _ _ _ _ _ _ _; first | refine Bj Y Y Y ?_ | (refine Ar ?_; first | show AW _ _ _ _ _ _ | show ∃ x', _ < _ ∧ _)) | (show AW _ _ (.seq _ _) _ _ _; refine Ah ?_; intro Q1) | (show AW _ _ (.region _ _ false) _ _ _; (fail_if_success show AW _ _ (.region 17 _ _) _ _ _); refine Ad ?_; intro O1) | (show AW _ _ (.cond _ _ _) _ _ _; first | refine Ao Y ?_ | refine Ap Y ?_ | refine Bf Y (fun h => ?_) (fun h => ?_)) | (show AW _ _ (.skip) _ _ _; refine Aj ?_; first | show AW _ _ _ _ _ _ | show ∃ x', _ < _ ∧ _) | (show AW _ _ (.block _ _) _ _ _; refine Af ?_; intro Q1) | (show AW _ _ (.exit _) _ _ _; refine As ?_; first | show AW _ _ _ _ _ _ | show ∃ x', _ < _ ∧ _) | (show AW _ _ (.ret) _ _ _; refine Av ?_; try dsimp only [A3, Ac, A7, Ag])
    | (show DL _ _ _ _ _ _ _; refine Bt Y Y (fun K kt kf => Am hG Y Y Y Y Y kt kf) (fun h => ?_) (fun h => ?_))
    | (show DL _ _ _ _ _ _ _; refine Bu Y Y Y ?_) | (show DL _ _ _ _ _ _ _; refine Bd ?_; first | show AW _ _ _ _ _ _ | show ∃ x', _ < _ ∧ _) | (show AW _ _ (.region _ _ true) _ _ _; (fail_if_success show AW _ _ (.region 17 _ _) _ _ _); refine Aw mix (by kernel_rfl) ?_; intro O1) | fail)
  refine aw_to2 [(0, .aref 1 i 0 n cap), (1, .int .i64 (a : Int)), (2, .int .i64 (b : Int)), (3, .int .i64 (D.lim : Int)), (8, .bool wb), (9, .bool wp), (10, .int .i64 ((b - a : Nat) : Int)), (11, .int .i64 (D.pivot : Int))] ⟨[(i, .cells (rowT mT D.pi.1))], [], off, none⟩ ?_ ?_
  · have hlt := Ci D.pi.1[a - 1]! D.pi.1[D.pivot]!
    by_cases ha : 0 < a
    · have h4 : ltQ D.pi.1[a - 1]! D.pi.1[D.pivot]! = true := by simpa [ha] using h3
      rw [h4] at hlt
      repeat' (first
    | ((first | (show AL _ _ _ _ _ _ _ _; refine Ae Y ?_) | (show DL _ _ _ _ _ _ _; refine' A6 Y Y (fun K kk => ?_) ?_; try (show Go.Ts.T; rotate_left))); (first
      | refine Aq hG Y Y ?_
      | refine A5 hG Y Y ?_
      | (show AOp _ _ ⟨_, .binOp .add _ _ _ _, _, _, _, _⟩ _ _ _; first | refine Ab hG Y Y Y Y Y (by omega) ?_ | refine Ab (m := 1) hG Y Y Y Y Y (by omega) ?_ | refine Aa hG Y Y Y Y Y (by omega) ?_)
      | (show AOp _ _ ⟨_, .binOp .sub _ _ _ _, _, _, _, _⟩ _ _ _; first | refine Al hG Y Y Y Y (by omega) ?_ | refine Al (m := 1) hG Y Y Y Y (by omega) ?_ | refine Aa hG Y Y Y Y Y (by omega) ?_)
      | (show AOp _ _ ⟨_, .binOp .quo _ _ _ _, _, _, _, _⟩ _ _ _; first | refine Bh (m := 2) hG Y Y Y Y (by omega) ?_ | refine Bh (m := 4) hG Y Y Y Y (by omega) ?_ | refine Bh (m := 8) hG Y Y Y Y (by omega) ?_)
      | (show AOp _ _ ⟨_, .binOp _ _ _ _ _, _, _, _, _⟩ _ _ _; first | refine Au hG Y Y Y Y Y (by omega) ?_ | refine At hG Y Y Y Y Y (by omega) ?_ | ((fail_if_success have := kk); refine Am hG Y Y Y Y Y (fun h => ?_) (fun h => ?_)) | refine Bl hG Y Y Y ?_)
      | (show AOp _ _ ⟨_, .load _ _, _, _, _, _⟩ _ _ _; first | refine Ak (α := Nat) 0 hG Y Y Y Y (by omega) Y ?_ | refine Ay hG Y Y Y ?_ | refine A8 0 hG Y Y Y Y ?_)
      | (show AOp _ _ ⟨_, .indexAddr _ _ _, _, _, _, _⟩ _ _ _; first | refine A4 hG Y Y Y Y Y Y Y (by omega) ?_ | refine Az hG Y Y Y Y Y Y Y (by omega) ?_ | refine Ax hG Y Y Y Y Y Y Y (by omega) ?_ | refine Bb hG Y Y ?_)
      | refine Bc hG Y Y Y ?_
      | refine Bn hG Y Y Y ?_
      | (show AOp _ _ ⟨_, .call ⟨.value _, _, _⟩, _, _, _, _⟩ _ _ _; first | refine B0 Y Y Y Y Y (by first | (apply hlt <;> (first | assumption | omega | exact Ba _ _ | exact Bi _ | exact Bk _ _ | exact Bs _ | rfl | (simp; omega))) | fail) ?_ | fail)
      | refine r_q hG Y Y Y ?_); try exact kk)
    | (show AL _ _ _ _ _ _ _ _; first | refine Bj Y Y Y ?_ | (refine Ar ?_; first | show AW _ _ _ _ _ _ | show ∃ x', _ < _ ∧ _)) | (show AW _ _ (.seq _ _) _ _ _; refine Ah ?_; intro Q1) | (show AW _ _ (.region _ _ false) _ _ _; refine Ad ?_; intro O1) | (show AW _ _ (.cond _ _ _) _ _ _; first | refine Ao Y ?_ | refine Ap Y ?_ | refine Bf Y (fun h => ?_) (fun h => ?_)) | (show AW _ _ (.skip) _ _ _; refine Aj ?_; first | show AW _ _ _ _ _ _ | show ∃ x', _ < _ ∧ _) | (show AW _ _ (.block _ _) _ _ _; refine Af ?_; intro Q1) | (show AW _ _ (.exit _) _ _ _; refine As ?_; first | show AW _ _ _ _ _ _ | show ∃ x', _ < _ ∧ _) | (show AW _ _ (.ret) _ _ _; refine Av ?_; try dsimp only [A3, Ac, A7, Ag])
    | (show DL _ _ _ _ _ _ _; refine Bt Y Y (fun K kt kf => Am hG Y Y Y Y Y kt kf) (fun h => ?_) (fun h => ?_))
    | (show DL _ _ _ _ _ _ _; refine Bu Y Y Y ?_) | (show DL _ _ _ _ _ _ _; refine Bd ?_; first | show AW _ _ _ _ _ _ | show ∃ x', _ < _ ∧ _) | (show AW _ _ (.region _ _ true) _ _ _; refine Aw mix (by kernel_rfl) ?_; intro O1) | fail)
      (first | refine Ar ?_ | refine Aj ?_); exact ⟨rfl, (by repeat (first | exact .nil _ | refine .cons rfl ?_)), rfl⟩
    · repeat' (first
    | ((first | (show AL _ _ _ _ _ _ _ _; refine Ae Y ?_) | (show DL _ _ _ _ _ _ _; refine' A6 Y Y (fun K kk => ?_) ?_; try (show Go.Ts.T; rotate_left))); (first
      | refine Aq hG Y Y ?_
      | refine A5 hG Y Y ?_
      | (show AOp _ _ ⟨_, .binOp .add _ _ _ _, _, _, _, _⟩ _ _ _; first | refine Ab hG Y Y Y Y Y (by omega) ?_ | refine Ab (m := 1) hG Y Y Y Y Y (by omega) ?_ | refine Aa hG Y Y Y Y Y (by omega) ?_)
      | (show AOp _ _ ⟨_, .binOp .sub _ _ _ _, _, _, _, _⟩ _ _ _; first | refine Al hG Y Y Y Y (by omega) ?_ | refine Al (m := 1) hG Y Y Y Y (by omega) ?_ | refine Aa hG Y Y Y Y Y (by omega) ?_)
      | (show AOp _ _ ⟨_, .binOp .quo _ _ _ _, _, _, _, _⟩ _ _ _; first | refine Bh (m := 2) hG Y Y Y Y (by omega) ?_ | refine Bh (m := 4) hG Y Y Y Y (by omega) ?_ | refine Bh (m := 8) hG Y Y Y Y (by omega) ?_)
      | (show AOp _ _ ⟨_, .binOp _ _ _ _ _, _, _, _, _⟩ _ _ _; first | refine Au hG Y Y Y Y Y (by omega) ?_ | refine At hG Y Y Y Y Y (by omega) ?_ | ((fail_if_success have := kk); refine Am hG Y Y Y Y Y (fun h => ?_) (fun h => ?_)) | refine Bl hG Y Y Y ?_)
      | (show AOp _ _ ⟨_, .load _ _, _, _, _, _⟩ _ _ _; first | refine Ak (α := Nat) 0 hG Y Y Y Y (by omega) Y ?_ | refine Ay hG Y Y Y ?_ | refine A8 0 hG Y Y Y Y ?_)
      | (show AOp _ _ ⟨_, .indexAddr _ _ _, _, _, _, _⟩ _ _ _; first | refine A4 hG Y Y Y Y Y Y Y (by omega) ?_ | refine Az hG Y Y Y Y Y Y Y (by omega) ?_ | refine Ax hG Y Y Y Y Y Y Y (by omega) ?_ | refine Bb hG Y Y ?_)
      | refine Bc hG Y Y Y ?_
      | refine Bn hG Y Y Y ?_
      | (show AOp _ _ ⟨_, .call ⟨.value _, _, _⟩, _, _, _, _⟩ _ _ _; first | refine B0 Y Y Y Y Y (by first | (apply hlt <;> (first | assumption | omega | exact Ba _ _ | exact Bi _ | exact Bk _ _ | exact Bs _ | rfl | (simp; omega))) | fail) ?_ | fail)
      | refine r_q hG Y Y Y ?_); try exact kk)
    | (show AL _ _ _ _ _ _ _ _; first | refine Bj Y Y Y ?_ | (refine Ar ?_; first | show AW _ _ _ _ _ _ | show ∃ x', _ < _ ∧ _)) | (show AW _ _ (.seq _ _) _ _ _; refine Ah ?_; intro Q1) | (show AW _ _ (.region _ _ false) _ _ _; refine Ad ?_; intro O1) | (show AW _ _ (.cond _ _ _) _ _ _; first | refine Ao Y ?_ | refine Ap Y ?_ | refine Bf Y (fun h => ?_) (fun h => ?_)) | (show AW _ _ (.skip) _ _ _; refine Aj ?_; first | show AW _ _ _ _ _ _ | show ∃ x', _ < _ ∧ _) | (show AW _ _ (.block _ _) _ _ _; refine Af ?_; intro Q1) | (show AW _ _ (.exit _) _ _ _; refine As ?_; first | show AW _ _ _ _ _ _ | show ∃ x', _ < _ ∧ _) | (show AW _ _ (.ret) _ _ _; refine Av ?_; try dsimp only [A3, Ac, A7, Ag])
    | (show DL _ _ _ _ _ _ _; refine Bt Y Y (fun K kt kf => Am hG Y Y Y Y Y kt kf) (fun h => ?_) (fun h => ?_))
    | (show DL _ _ _ _ _ _ _; refine Bu Y Y Y ?_) | (show DL _ _ _ _ _ _ _; refine Bd ?_; first | show AW _ _ _ _ _ _ | show ∃ x', _ < _ ∧ _) | (show AW _ _ (.region _ _ true) _ _ _; refine Aw mix (by kernel_rfl) ?_; intro O1) | fail)
      (first | refine Ar ?_ | refine Aj ?_); exact ⟨rfl, (by repeat (first | exact .nil _ | refine .cons rfl ?_)), rfl⟩
  intro a' hk
  dsimp (config := { zetaDelta := true }) only [A3, Ac]
  refine aw_forget hk ?_
  obtain ⟨Q, hQ⟩ : ∃ Q, partition ltQ D.pi.1 a b D.pivot = Q := ⟨_, rfl⟩
  have hpt := srt_part (d0 := D.pi.1) (a := a) (b := b) (pv := D.pivot) pv.1 pv.2 (by omega) (by omega)
  obtain ⟨mid, ap, d4⟩ := Q
  obtain ⟨g1, g2, g3, g4, g5, gL, gR⟩ := round_part ltQ_swo (partition_holds ltQ) pv.1 pv.2 (by omega) B3 hQ
  rw [hQ] at hpt
  dsimp only at hpt
  have n4 : d4.size = n := by omega
  by_cases hlr : mid - a < b - mid
  · rw [pdq_left h12 h0 (by rw [hD]; exact hp3) (by rw [hD]; exact h3) (by rw [hD, hQ]; exact ⟨g1, g2⟩) (by rw [hD, hQ]; exact hlr), hD, hQ] at e
    dsimp only at e
    have hrec := IH (mid - a) (by omega) (d0 := d4) (a := a) (b := mid) (lim := D.lim) (Nat.le_refl _) g1 (by omega) (by omega) hlim g4
    have hs5 := pdq_sorts ltQ ltQ_swo d4 a mid D.lim true true g1 (by omega) g4
    obtain ⟨L, hL⟩ : ∃ L, pdq ltQ d4 a mid D.lim true true = L := ⟨_, rfl⟩
    rw [hL] at hs5 hrec e
    have n5 : L.size = n := by rw [hs5.1.1]; omega
    have B5 := (gL L hs5.1 hs5.2).1
    repeat' (first
    | ((first | (show AL _ _ _ _ _ _ _ _; refine Ae Y ?_) | (show DL _ _ _ _ _ _ _; refine' A6 Y Y (fun K kk => ?_) ?_; try (show Go.Ts.T; rotate_left))); (first
      | refine Aq hG Y Y ?_
      | refine A5 hG Y Y ?_
      | (show AOp _ _ ⟨_, .binOp .add _ _ _ _, _, _, _, _⟩ _ _ _; first | refine Ab hG Y Y Y Y Y (by omega) ?_ | refine Ab (m := 1) hG Y Y Y Y Y (by omega) ?_ | refine Aa hG Y Y Y Y Y (by omega) ?_)
      | (show AOp _ _ ⟨_, .binOp .sub _ _ _ _, _, _, _, _⟩ _ _ _; first | refine Al hG Y Y Y Y (by omega) ?_ | refine Al (m := 1) hG Y Y Y Y (by omega) ?_ | refine Aa hG Y Y Y Y Y (by omega) ?_)
      | (show AOp _ _ ⟨_, .binOp .quo _ _ _ _, _, _, _, _⟩ _ _ _; first | refine Bh (m := 2) hG Y Y Y Y (by omega) ?_ | refine Bh (m := 4) hG Y Y Y Y (by omega) ?_ | refine Bh (m := 8) hG Y Y Y Y (by omega) ?_)
      | (show AOp _ _ ⟨_, .binOp _ _ _ _ _, _, _, _, _⟩ _ _ _; first | refine Au hG Y Y Y Y Y (by omega) ?_ | refine At hG Y Y Y Y Y (by omega) ?_ | ((fail_if_success have := kk); refine Am hG Y Y Y Y Y (fun h => ?_) (fun h => ?_)) | refine Bl hG Y Y Y ?_)
      | (show AOp _ _ ⟨_, .load _ _, _, _, _, _⟩ _ _ _; first | refine Ak (α := Nat) 0 hG Y Y Y Y (by omega) Y ?_ | refine Ay hG Y Y Y ?_ | refine A8 0 hG Y Y Y Y ?_)
      | (show AOp _ _ ⟨_, .indexAddr _ _ _, _, _, _, _⟩ _ _ _; first | refine A4 hG Y Y Y Y Y Y Y (by omega) ?_ | refine Az hG Y Y Y Y Y Y Y (by omega) ?_ | refine Ax hG Y Y Y Y Y Y Y (by omega) ?_ | refine Bb hG Y Y ?_)
      | refine Bc hG Y Y Y ?_
      | refine Bn hG Y Y Y ?_
      | (show AOp _ _ ⟨_, .call ⟨.value _, _, _⟩, _, _, _, _⟩ _ _ _; first | refine r_row Y Y Y Y Y (List.Perm.refl _) hpt (by assumption) ?_ | refine r_row Y Y Y Y Y (List.Perm.refl _) hrec (by assumption) ?_ | fail)
      | refine r_q hG Y Y Y ?_); try exact kk)
    | (show AL _ _ _ _ _ _ _ _; first | refine Bj Y Y Y ?_ | (refine Ar ?_; first | show AW _ _ _ _ _ _ | show ∃ x', _ < _ ∧ _)) | (show AW _ _ (.seq _ _) _ _ _; refine Ah ?_; intro Q1) | (show AW _ _ (.region _ _ false) _ _ _; refine Ad ?_; intro O1) | (show AW _ _ (.cond _ _ _) _ _ _; first | refine Ao Y ?_ | refine Ap Y ?_ | refine Bf Y (fun h => ?_) (fun h => ?_)) | (show AW _ _ (.skip) _ _ _; refine Aj ?_; first | show AW _ _ _ _ _ _ | show ∃ x', _ < _ ∧ _) | (show AW _ _ (.block _ _) _ _ _; refine Af ?_; intro Q1) | (show AW _ _ (.exit _) _ _ _; refine As ?_; first | show AW _ _ _ _ _ _ | show ∃ x', _ < _ ∧ _) | (show AW _ _ (.ret) _ _ _; refine Av ?_; try dsimp only [A3, Ac, A7, Ag])
    | (show DL _ _ _ _ _ _ _; refine Bt Y Y (fun K kt kf => Am hG Y Y Y Y Y kt kf) (fun h => ?_) (fun h => ?_))
    | (show DL _ _ _ _ _ _ _; refine Bu Y Y Y ?_) | (show DL _ _ _ _ _ _ _; refine Bd ?_; first | show AW _ _ _ _ _ _ | show ∃ x', _ < _ ∧ _) | (show AW _ _ (.region _ _ true) _ _ _; refine Aw mix (by kernel_rfl) ?_; intro O1) | fail)
    · rw [show decide (mid - a ≥ (b - a) / 8) = true by simp; omega] at e
      exact ⟨⟨mid + 1, b, D.lim, true, ap, L, n5, by omega, hb, by omega, hlim, B5, e⟩, by dsimp only; omega, (by repeat (first | exact .nil _ | refine .cons rfl ?_)), .refl _⟩
    · rw [show decide (mid - a ≥ (b - a) / 8) = false by simp; omega] at e
      exact ⟨⟨mid + 1, b, D.lim, false, ap, L, n5, by omega, hb, by omega, hlim, B5, e⟩, by dsimp only; omega, (by repeat (first | exact .nil _ | refine .cons rfl ?_)), .refl _⟩
  · rw [pdq_right h12 h0 (by rw [hD]; exact hp3) (by rw [hD]; exact h3) (by rw [hD, hQ]; exact ⟨g1, g2⟩) (by rw [hD, hQ]; exact hlr), hD, hQ] at e
    dsimp only at e
    have hrec := IH (b - (mid + 1)) (by omega) (d0 := d4) (a := mid + 1) (b := b) (lim := D.lim) (Nat.le_refl _) (by omega) (by omega) (by omega) hlim g5
    have hs5 := pdq_sorts ltQ ltQ_swo d4 (mid + 1) b D.lim true true (by omega) (by omega) g5
    obtain ⟨L, hL⟩ : ∃ L, pdq ltQ d4 (mid + 1) b D.lim true true = L := ⟨_, rfl⟩
    rw [hL] at hs5 hrec e
    have n5 : L.size = n := by rw [hs5.1.1]; omega
    have B5 := (gR L hs5.1 hs5.2).1
    repeat' (first
    | ((first | (show AL _ _ _ _ _ _ _ _; refine Ae Y ?_) | (show DL _ _ _ _ _ _ _; refine' A6 Y Y (fun K kk => ?_) ?_; try (show Go.Ts.T; rotate_left))); (first
      | refine Aq hG Y Y ?_
      | refine A5 hG Y Y ?_
      | (show AOp _ _ ⟨_, .binOp .add _ _ _ _, _, _, _, _⟩ _ _ _; first | refine Ab hG Y Y Y Y Y (by omega) ?_ | refine Ab (m := 1) hG Y Y Y Y Y (by omega) ?_ | refine Aa hG Y Y Y Y Y (by omega) ?_)
      | (show AOp _ _ ⟨_, .binOp .sub _ _ _ _, _, _, _, _⟩ _ _ _; first | refine Al hG Y Y Y Y (by omega) ?_ | refine Al (m := 1) hG Y Y Y Y (by omega) ?_ | refine Aa hG Y Y Y Y Y (by omega) ?_)
      | (show AOp _ _ ⟨_, .binOp .quo _ _ _ _, _, _, _, _⟩ _ _ _; first | refine Bh (m := 2) hG Y Y Y Y (by omega) ?_ | refine Bh (m := 4) hG Y Y Y Y (by omega) ?_ | refine Bh (m := 8) hG Y Y Y Y (by omega) ?_)
      | (show AOp _ _ ⟨_, .binOp _ _ _ _ _, _, _, _, _⟩ _ _ _; first | refine Au hG Y Y Y Y Y (by omega) ?_ | refine At hG Y Y Y Y Y (by omega) ?_ | ((fail_if_success have := kk); refine Am hG Y Y Y Y Y (fun h => ?_) (fun h => ?_)) | refine Bl hG Y Y Y ?_)
      | (show AOp _ _ ⟨_, .load _ _, _, _, _, _⟩ _ _ _; first | refine Ak (α := Nat) 0 hG Y Y Y Y (by omega) Y ?_ | refine Ay hG Y Y Y ?_ | refine A8 0 hG Y Y Y Y ?_)
      | (show AOp _ _ ⟨_, .indexAddr _ _ _, _, _, _, _⟩ _ _ _; first | refine A4 hG Y Y Y Y Y Y Y (by omega) ?_ | refine Az hG Y Y Y Y Y Y Y (by omega) ?_ | refine Ax hG Y Y Y Y Y Y Y (by omega) ?_ | refine Bb hG Y Y ?_)
      | refine Bc hG Y Y Y ?_
      | refine Bn hG Y Y Y ?_
      | (show AOp _ _ ⟨_, .call ⟨.value _, _, _⟩, _, _, _, _⟩ _ _ _; first | refine r_row Y Y Y Y Y (List.Perm.refl _) hpt (by assumption) ?_ | refine r_row Y Y Y Y Y (List.Perm.refl _) hrec (by assumption) ?_ | fail)
      | refine r_q hG Y Y Y ?_); try exact kk)
    | (show AL _ _ _ _ _ _ _ _; first | refine Bj Y Y Y ?_ | (refine Ar ?_; first | show AW _ _ _ _ _ _ | show ∃ x', _ < _ ∧ _)) | (show AW _ _ (.seq _ _) _ _ _; refine Ah ?_; intro Q1) | (show AW _ _ (.region _ _ false) _ _ _; refine Ad ?_; intro O1) | (show AW _ _ (.cond _ _ _) _ _ _; first | refine Ao Y ?_ | refine Ap Y ?_ | refine Bf Y (fun h => ?_) (fun h => ?_)) | (show AW _ _ (.skip) _ _ _; refine Aj ?_; first | show AW _ _ _ _ _ _ | show ∃ x', _ < _ ∧ _) | (show AW _ _ (.block _ _) _ _ _; refine Af ?_; intro Q1) | (show AW _ _ (.exit _) _ _ _; refine As ?_; first | show AW _ _ _ _ _ _ | show ∃ x', _ < _ ∧ _) | (show AW _ _ (.ret) _ _ _; refine Av ?_; try dsimp only [A3, Ac, A7, Ag])
    | (show DL _ _ _ _ _ _ _; refine Bt Y Y (fun K kt kf => Am hG Y Y Y Y Y kt kf) (fun h => ?_) (fun h => ?_))
    | (show DL _ _ _ _ _ _ _; refine Bu Y Y Y ?_) | (show DL _ _ _ _ _ _ _; refine Bd ?_; first | show AW _ _ _ _ _ _ | show ∃ x', _ < _ ∧ _) | (show AW _ _ (.region _ _ true) _ _ _; refine Aw mix (by kernel_rfl) ?_; intro O1) | fail)
    · rw [show decide (b - mid ≥ (b - a) / 8) = true by simp; omega] at e
      exact ⟨⟨a, mid, D.lim, true, ap, L, n5, g1, by omega, by omega, hlim, B5, e⟩, by dsimp only; omega, (by repeat (first | exact .nil _ | refine .cons rfl ?_)), .refl _⟩
    · rw [show decide (b - mid ≥ (b - a) / 8) = false by simp; omega] at e
      exact ⟨⟨a, mid, D.lim, false, ap, L, n5, g1, by omega, by omega, hlim, B5, e⟩, by dsimp only; omega, (by repeat (first | exact .nil _ | refine .cons rfl ?_)), .refl _⟩
theorem srt_sort {d0 : Array Nat} (hs : d0.size < 256) : OnRow Try.prog 63 mT [] d0 (.tup []) (Go.Sort.sort ltQ d0) := by
  have h1 := bits_Len (x := d0.size) hs
  have h8 := bitsLen_le8 hs
  have h2 := srt_pdq d0.size (d0 := d0) (a := 0) (b := d0.size) (lim := bitsLen d0.size) (by omega) (by omega) (Nat.le_refl _) hs (by omega) (Or.inl rfl)
  intro off i n cap hn
  subst hn
  rw [show Go.Sort.sort ltQ d0 = pdq ltQ d0 0 d0.size (bitsLen d0.size) true true from rfl]
  generalize pdq ltQ d0 0 d0.size (bitsLen d0.size) true true = R at *
  have hsz : d0.size = d0.size := rfl
  refine Bp (N := 11) (rs := []) hG Try.func63 rfl rfl rfl rfl rfl ?_
  repeat' (first
    | ((show AL _ _ _ _ _ _ _ _; refine Ae Y ?_); (first
      | refine Aq hG Y Y ?_
      | refine A5 hG Y Y ?_
      | (show AOp _ _ ⟨_, .call ⟨.builtin .len, _, _⟩, _, _, _, _⟩ _ _ _; first | refine Br hG Y Y Y Y ?_ | refine Bx hG Y Y Y Y Y ?_)
      | (show AOp _ _ ⟨_, .convert _ _ _, _, _, _, _⟩ _ _ _; first | refine Ca hG Y Y Y Y Y (by omega) ?_ | refine r_cvw hG Y Y Y Y Y ?_)
      | (show AOp _ _ ⟨_, .call ⟨.value _, _, _⟩, _, _, _, _⟩ _ _ _; first | refine B0 Y Y Y Y Y (by first | (apply h1 <;> (first | assumption | omega | exact Ba _ _ | exact Bi _ | exact Bk _ _ | exact Bs _ | rfl | (simp; omega))) | fail) ?_ | refine r_row Y Y Y Y Y (List.Perm.refl _) h2 (by assumption) ?_ | fail)
      | refine r_q hG Y Y Y ?_))
    | (show AL _ _ _ _ _ _ _ _; first | refine Bj Y Y Y ?_ | (refine Ar ?_; first | show AW _ _ _ _ _ _ | show ∃ x', _ < _ ∧ _)) | (show AW _ _ (.seq _ _) _ _ _; refine Ah ?_; intro Q1) | (show AW _ _ (.region _ _ false) _ _ _; refine Ad ?_; intro O1) | (show AW _ _ (.ret) _ _ _; refine Av ?_; try dsimp only [A3, Ac, A7, Ag]) | fail)
  (first | refine Ar ?_ | skip)
  refine ret_rowE 0 Bo ?_ (.refl _) ?_ <;> rfl
end Go.Proofs.Ythfgocinlbogeaa
set_option linter.unusedVariables false
set_option linter.unusedSimpArgs false
namespace Go.Ts
section
variable {P : Program} {G : Nat → Option TI} {w w1 : World} {μ : Gh} {σ : St} {N : Nat} {a : Env} {Q : Exit → Env → St → Prop}
theorem mro_pairs {v : Value} {es : List (T × T)} (r : Rel w μ σ v (.mro (es.map Prod.fst) (es.map Prod.snd))) : ∃ b en cl, v = .map (some b) ∧ w.heap[b]? = some (.map en cl) ∧ en.size = es.length ∧
    ∀ (j : Nat) (k u : T) (e : MapEntry), es[j]? = some (k, u) → en[j]? = some e → Rel w μ σ e.key k ∧ Rel w μ σ e.val u := by
  generalize hk : es.map Prod.fst = ks at r
  generalize hu : es.map Prod.snd = us at r
  cases r with
  | mro b ks us en cl h hs hu' hb hi rk rv =>
    subst hk; subst hu
    exact ⟨b, en, cl, rfl, h, by simpa using hs, fun j k u e h1 h2 => ⟨rk j k e (by simp [h1]) h2, rv j u e (by simp [h1]) h2⟩⟩
theorem aop_lookupF (hG : Fits P G) {o : Oper} {t kt et : TypeId} {x y : Operand} {ok : Bool} {ti tk te : TI} {k k0 : IntKind} {n : Int} {es : List (T × T)} {r : Option (Nat × T)} {K : Env → St → Prop}
    (ho : o.op = .lookup t x y ok) (ht : G t = some ti) (htd : ti.d = .map kt et) (hk : G kt = some tk) (hkd : tk.d = .int k0) (he : G et = some te) (hx : A9 a x = some (.mro (es.map Prod.fst) (es.map Prod.snd))) (hy : A9 a y = some (.int k n))
    (hf : findX k n es 0 = some r) (hd : Bm N o.dst = true)
    (kk : K (put a o.dst (cond ok (.tup [foundX te.tree r, .bool r.isSome]) (foundX te.tree r))) σ) : AOp P N o a σ K := by
  intro av w μ hi hr next Qc hn
  obtain ⟨d1, u1, f1⟩ := By (P := P) (w := w) hG ht
  rw [htd] at f1; obtain rfl := td_map f1
  obtain ⟨d2, u2, f2⟩ := By (P := P) (w := w) hG hk
  rw [hkd] at f2; obtain rfl := td_int f2
  obtain ⟨z, uz, rz, hz1, hz2⟩ := g_zero (P := P) (w := w) (μ := μ) (σ := σ) hG he
  have rx := Bz hr hx
  have ry := Bz hr hy
  generalize hvx : av.eval x = vx at rx
  generalize hvy : av.eval y = vy at ry
  cases ry
  obtain ⟨b, en, cl, rfl, hc, hsz, hrel⟩ := mro_pairs rx
  have hget : (getObj b).run P w = .ok (.map en cl) w := by simp [getObj, Sem.run, hc]
  have hck : ∀ bb, (Instr.checkKey bb 10000 kt (.int k n)).run P w = .ok () w := fun bb => checkKey_int hG hk hkd
  have hfr := findX_run (w := w) (μ := μ) (σ := σ) (k0 := k0) es en.toList 0 r hf (by simpa using hsz) (fun j x u e h1 h2 => hrel j x u e h1 (by simpa using h2))
  have tupR : ∀ (v : Value) (u : T) (bb : Bool), Rel w μ σ v u → Rel w μ σ (.tuple #[v, .bool bb]) (.tup [u, .bool bb]) := by
    intro v u bb h
    refine .tup _ _ rfl fun j c v' h1 h2 => ?_
    match j with
    | 0 => simp at h1 h2; subst h1; subst h2; exact h
    | 1 => simp at h1 h2; subst h1; subst h2; exact .bool _
    | j + 2 => simp at h1
  obtain ⟨v, hv, rv⟩ : ∃ v, (Instr.lookup t (.map (some b)) (.int k n) ok).run P w = .ok v w ∧ Rel w μ σ v (cond ok (.tup [foundX te.tree r, .bool r.isSome]) (foundX te.tree r)) := by
    cases r with
    | none =>
      have hfk : (Instr.findKey kt (.int k n) en.toList).run P w = .ok none w := by simp [Instr.findKey, u2, hfr]
      cases ok
      · exact ⟨z, by unfold Instr.lookup; simp [u1, hget, hck, hfk, uz], rz⟩
      · exact ⟨_, by unfold Instr.lookup; simp [u1, hget, hck, hfk, uz], tupR _ _ _ rz⟩
    | some q =>
      obtain ⟨p, u⟩ := q
      obtain ⟨_, e', v, _, _, _, h5, _, h7⟩ := hfr
      have hfk : (Instr.findKey kt (.int k n) en.toList).run P w = .ok (some (p, v)) w := by simp [Instr.findKey, u2, h7]
      cases ok
      · exact ⟨v, by unfold Instr.lookup; simp [u1, hget, hck, hfk], h5⟩
      · exact ⟨_, by unfold Instr.lookup; simp [u1, hget, hck, hfk], tupR _ _ _ h5⟩
  have hrun : (execOp av.eval o).run P w = .ok (.value v) w := by
    simp [execOp, ho, hvx, hvy, hv]
  unfold Oper.wp
  rw [hrun]
  exact hn _ _ _ _ _ (.refl _ _ _) hi (hr.put hd rv) kk

end
end Go.Ts
set_option linter.unusedVariables false
set_option linter.unusedSimpArgs false
namespace Go.Ts
section
variable {P : Program} {G : Nat → Option TI} {w w1 : World} {r : Nat} {μ : Gh} {σ : St} {N : Nat} {a : Env} {Q : Exit → Env → St → Prop}
structure ItStep (w w1 : World) (r : Nat) : Prop where
  os : w1.os = w.os
  tape : w1.tape = w.tape
  out : w1.output = w.output
  size : w1.heap.size = w.heap.size
  ne : ∀ x, x ≠ r → w1.heap[x]? = w.heap[x]?
  old : ∃ m s seen l, w.heap[r]? = some (.mapIter m s seen l)
  new : ∃ m s seen l, w1.heap[r]? = some (.mapIter m s seen l)
theorem ItStep.cells (h : ItStep w w1 r) {x : Nat} {c : Array Value} {e : TypeId} {f : Nat × Nat} (hx : w.heap[x]? = some (.cells c e f)) : w1.heap[x]? = some (.cells c e f) := by
  rw [h.ne x (by rintro rfl; obtain ⟨_, _, _, _, h1⟩ := h.old; rw [h1] at hx; cases hx)]; exact hx
theorem ItStep.map (h : ItStep w w1 r) {x : Nat} {en : Array MapEntry} {cl : Nat} (hx : w.heap[x]? = some (.map en cl)) : w1.heap[x]? = some (.map en cl) := by
  rw [h.ne x (by rintro rfl; obtain ⟨_, _, _, _, h1⟩ := h.old; rw [h1] at hx; cases hx)]; exact hx
theorem ItStep.cell (h : ItStep w w1 r) (b o : Nat) : w1.cell? ⟨b, o, none⟩ = w.cell? ⟨b, o, none⟩ := by
  by_cases hb : b = r
  · subst hb
    obtain ⟨_, _, _, _, h1⟩ := h.old
    obtain ⟨_, _, _, _, h2⟩ := h.new
    unfold World.cell?
    simp only [h1, h2]
  · exact cell_of_heap (h.ne b hb) o
theorem ItStep.ev0 (h : ItStep w w1 r) : Ev0 w μ σ w1 μ σ :=
  ⟨fun _ _ h => h, fun _ _ h => h, fun b n ⟨c, e, f, h1, h2⟩ => ⟨c, e, f, h.cells h1, h2⟩, fun b o hx => ⟨⟨by rw [h.size]; exact hx.lt, hx.off, hx.obj, hx.room⟩, h.cell b o⟩, fun b en cl h1 _ => h.map h1⟩
theorem ItStep.inv (h : ItStep w w1 r) (hi : Inv w μ σ) : Inv w1 μ σ := by
  refine ⟨fun i ts hx => ?_, fun i es hx => ?_, hi.inj, fun k hk => ?_, hi.rinj, hi.fin, fun b o hb => by rw [h.size]; exact hi.offlt b o hb, hi.offobj⟩
  · obtain ⟨b, p, c, e, h1, h2, h3, h4⟩ := hi.obj i ts hx
    exact ⟨b, p, c, e, h1, h.cells h2, h3, fun j t v h5 h6 => (h4 j t v h5 h6).ev' h.ev0⟩
  · obtain ⟨b, en, cl, h1, h2, h3, h4⟩ := hi.map i es hx
    exact ⟨b, en, cl, h1, h.map h2, h3, fun j k u e h5 h6 => let ⟨h7, h8⟩ := h4 j k u e h5 h6; ⟨h7.ev' h.ev0, h8.ev' h.ev0⟩⟩
  · obtain ⟨b, f, t, h1, h2, h3⟩ := hi.room k hk
    refine ⟨b, f, t, h1, h2, fun hlt => ?_⟩
    obtain ⟨⟨c, e, h4, h5⟩, h6, h7⟩ := h3 hlt
    exact ⟨⟨c, e, h.cells h4, h5⟩, h6, h7⟩
theorem ItStep.ev {w0 : World} {μ0 : Gh} {σ0 : St} (h : ItStep w w1 r) (ev : Ev w0 μ0 σ0 w μ σ) (hr : w0.heap.size ≤ r) : Ev w0 μ0 σ0 w1 μ σ := by
  refine ⟨⟨h.os.trans ev.below.os, h.tape.trans ev.below.tape, h.out.trans ev.below.output, by rw [h.size]; exact ev.below.size, fun k hk => by omega⟩, ev.loc, ev.tok, ev.off, fun b n hb => h.ev0 (μ := μ) (σ := σ) |>.shape b n (ev.shape b n hb), fun b hb hl => ?_, fun b o hx => ?_⟩
  · obtain ⟨h1, h2⟩ := ev.live b hb hl
    exact ⟨h1, by rw [h.ne b (by omega)]; exact h2⟩
  · obtain ⟨h1, h2⟩ := ev.imm b o hx
    obtain ⟨h3, h4⟩ := (h.ev0 (μ := μ) (σ := σ)).imm b o h1
    exact ⟨h3, h4.trans h2⟩
theorem RelA.ev' {w w' : World} {μ μ' : Gh} {σ σ' : St} {N : Nat} {av : Act} {a : Env} (h : RelA w μ σ N av a) (e : Ev0 w μ σ w' μ' σ') : RelA w' μ' σ' N av a :=
  ⟨h.size, h.defers, fun i t ht => let ⟨v, hv, r⟩ := h.tmp i t ht; ⟨v, hv, r.ev' e⟩⟩
end
end Go.Ts
namespace Go.Ts
set_option linter.unusedSimpArgs false
set_option linter.unusedVariables false
section
variable {P : Program} {G : Nat → Option TI} {N : Nat} {σ : St} {a : Env} {K : Env → St → Prop} {d : Tmp} {ty : TypeId} {pos : String} {af : Array Edge} {gd : Option (Nat × Bool)} {α : Type} {Q : Exit → Env → St → Prop}
theorem perm_step {L' : List (Nat × Ob)} (hL : σ.L.Perm L') : GStep σ { σ with L := L' } := by
  intro w μ hi
  have ev : Ev w μ σ w μ { σ with L := L' } := by
    refine ⟨.refl _ _, fun _ _ h => h, fun _ _ h => h, rfl, fun _ _ h => h, fun b hb hl => ⟨?_, rfl⟩, fun b o h => ⟨⟨h.lt, h.off, fun i x p h1 => h.obj i x p (hL.mem_iff.2 h1), h.room⟩, rfl⟩⟩
    rintro (⟨i, x, p, h1, h2⟩ | h)
    · exact hl (.inl ⟨i, x, p, hL.mem_iff.2 h1, h2⟩)
    · exact hl (.inr h)
  refine ⟨⟨fun i ts h => ?_, fun i es h => ?_, ?_, fun k hk => ?_, hi.rinj, hi.fin, hi.offlt, fun i x b p h1 => hi.offobj i x b p (hL.mem_iff.2 h1)⟩, ev⟩
  · obtain ⟨b, p, c, e, h1, h2, h3, h4⟩ := hi.obj i ts (hL.mem_iff.2 h)
    exact ⟨b, p, c, e, h1, h2, h3, fun j t v h5 h6 => (h4 j t v h5 h6).ev ev⟩
  · obtain ⟨b, c, e, h1, h2, h3, h4⟩ := hi.map i es (hL.mem_iff.2 h)
    exact ⟨b, c, e, h1, h2, h3, fun j k u e' h5 h6 => let ⟨h7, h8⟩ := h4 j k u e' h5 h6; ⟨h7.ev ev, h8.ev ev⟩⟩
  · exact inj_pair.2 ((hL.pairwise_iff (fun h => Apart.symm h)).1 (inj_pair.1 hi.inj))
  · obtain ⟨b, f, t, h1, h2, h3⟩ := hi.room k hk
    exact ⟨b, f, t, h1, h2, fun hlt => let ⟨h4, h5, h6⟩ := h3 hlt; ⟨h4, fun i x p h7 => h5 i x p (hL.mem_iff.2 h7), h6⟩⟩
def OnL (P : Program) (g : FuncId) (ts : List T) (L0 : List (Nat × Ob)) (R : T → List (Nat × Ob) → Prop) : Prop :=
  ∀ off, ACalls P g ts ⟨L0, [], off, none⟩ (fun u σ' => ∃ L', R u L' ∧ σ' = ⟨L', [], off, none⟩)
theorem OnL.calls {g : FuncId} {ts : List T} {L0 Lf : List (Nat × Ob)} {R : T → List (Nat × Ob) → Prop} (h : OnL P g ts L0 R) (hnx : σ.nx = none) (hL : σ.L.Perm (L0 ++ Lf)) {K : T → St → Prop}
    (k : ∀ u L', R u L' → K u { σ with L := L' ++ Lf }) : ACalls P g ts σ K := by
  refine (frame (Ls := L0) (Lf := Lf) hL (R := fun u L R' => R u L ∧ R' = []) hnx fun off => (h off).mono fun u σ' ⟨L', h1, h2⟩ => by subst h2; exact ⟨rfl, h1, rfl⟩).mono ?_
  rintro u σ' ⟨L', R', ⟨h1, rfl⟩, rfl⟩
  obtain ⟨L, R1, off, nx⟩ := σ
  simp only at hnx; subst hnx
  exact k u L' h1
theorem r_onL {f : Operand} {args : Array Operand} {tys : Array TypeId} {g : FuncId} {ts : List T} {L0 Lf : List (Nat × Ob)} {R : T → List (Nat × Ob) → Prop}
    (hf : A9 a f = some (.fn (.func g) [])) (ha : argsT a args.toList = some ts) (hd : Bm N (some d) = true) (hnx : σ.nx = none) (hL : σ.L.Perm (L0 ++ Lf)) (h : OnL P g ts L0 R)
    (k : ∀ u L', R u L' → K (put a (some d) u) { σ with L := L' ++ Lf }) : AOp P N ⟨some d, .call ⟨.value f, args, tys⟩, ty, pos, af, gd⟩ a σ K := by
  refine op_call rfl hf ha rfl hd ?_
  rw [List.append_nil]
  exact h.calls hnx hL k
theorem ret_onL {rs : List ResultVar} {ts : List T} {r : T} {L0 L' : List (Nat × Ob)} {R : T → List (Nat × Ob) → Prop} (h : ResRs G a σ rs ts) (hs : L0.Sublist σ.L) (hp : L0.Perm L') (hw : Wk (tup1 ts) r) (hnx : σ.nx = none) (hR : R r L') :
    retA G rs (fun u σ' => ∃ L', R u L' ∧ σ' = ⟨L', [], σ.off, none⟩) .ret a σ := by
  refine ⟨ts, h, ((((Conv.g (keep_step (L' := L0) (R' := []) hs (List.nil_sublist _))).trans (Conv.g (perm_step (σ := { σ with L := L0, R := [] }) hp))).trans (Conv.wk hw)).cr ⟨L', hR, ?_⟩)⟩
  rw [← hnx]
theorem r_onS {f : Operand} {args : Array Operand} {tys : Array TypeId} {g : FuncId} {ts : List T} {r : T} {L0 Lf : List (Nat × Ob)}
    (hf : A9 a f = some (.fn (.func g) [])) (ha : argsT a args.toList = some ts) (hd : Bm N (some d) = true) (hnx : σ.nx = none) (h : OnL P g ts L0 (fun u L => u = r ∧ L = L0)) (hL : σ.L.Perm (L0 ++ Lf))
    (k : K (put a (some d) r) σ) : AOp P N ⟨some d, .call ⟨.value f, args, tys⟩, ty, pos, af, gd⟩ a σ K := by
  refine op_call rfl hf ha rfl hd ?_
  rw [List.append_nil]
  refine ACalls.conv (R := fun u σ' => u = r ∧ σ' = { σ with L := L0 ++ Lf }) (h.calls hnx hL fun u L' ⟨h1, h2⟩ => by subst h1; subst h2; exact ⟨rfl, rfl⟩) ?_
  rintro u σ1 ⟨rfl, rfl⟩
  refine (Conv.g (perm_step (σ := { σ with L := L0 ++ Lf }) hL.symm)).cr ?_
  exact k
/-! Elements of many cells. -/
theorem flat_slice {sz : Nat} : ∀ {xs : List T} {k : Nat} {x : T}, sized sz xs → xs[k]? = some x → ∃ A B, flat xs = A ++ x.cells ++ B ∧ A.length = k * sz ∧ (∀ y : T, y.cells.length = sz → flat (xs.set k y) = A ++ y.cells ++ B)
  | [], k, x, _, h => by simp at h
  | y :: xs, 0, x, hs, h => by
    simp at h; subst h
    exact ⟨[], flat xs, by rw [flat_cons]; rfl, by simp, fun z hz => by rw [List.set_cons_zero, flat_cons]; rfl⟩
  | y :: xs, k + 1, x, hs, h => by
    obtain ⟨A, B, h1, h2, h3⟩ := flat_slice (k := k) (fun i x hx => hs (i + 1) x (by simpa using hx)) (by simpa using h)
    refine ⟨y.cells ++ A, B, by rw [flat_cons, h1]; simp [List.append_assoc], ?_, fun z hz => by rw [List.set_cons_succ, flat_cons, h3 z hz]; simp [List.append_assoc]⟩
    rw [List.length_append, h2, hs 0 y rfl, Nat.add_mul]; omega
theorem enc_sized (f : α → T) {sz : Nat} [Enc f sz] (l : List α) : sized sz (l.map f) := by
  intro i x hx
  obtain ⟨y, _, rfl⟩ := List.mem_map.1 (List.mem_of_getElem? hx)
  exact Enc.size (f := f) y
theorem stored_mid (A B vs us : List T) (h : vs.length = us.length) : stored (A ++ us ++ B) vs A.length = A ++ vs ++ B := by
  apply List.ext_getElem?
  intro k
  rw [stored_get (by simp; omega)]
  by_cases h1 : A.length ≤ k ∧ k < A.length + vs.length
  · rw [if_pos h1, List.append_assoc, List.getElem?_append_right h1.1, List.getElem?_append_left (by omega)]
  · rw [if_neg h1]
    rcases Nat.lt_or_ge k A.length with h2 | h2
    · rw [List.append_assoc, List.append_assoc, List.getElem?_append_left h2, List.getElem?_append_left h2]
    · have h3 : A.length + vs.length ≤ k := by omega
      rw [List.getElem?_append_right (by simp; omega), List.getElem?_append_right (by simp; omega)]
      simp [h]
theorem Bw {t : TypeId} {x ix : Operand} {k : IntKind} {z e i n sz : Nat} {cap : Option Nat} {ti te : TI} (hG : Fits P G)
    (hx : A9 a x = some (.aref sz i 0 n cap)) (hn : A9 a ix = some (.int k ((z : Nat) : Int))) (ht : G t = some ti) (htd : ti.d = .slice e) (hte : G e = some te) (hsz : Nat.beq sz te.size = true) (hd : Bm N (some d) = true)
    (h0 : z < n) (kk : K (put a (some d) (.ptr i (z * sz))) σ) : AOp P N ⟨some d, .indexAddr t x ix, ty, pos, af, gd⟩ a σ K := by
  refine op_idx_aref hG rfl hn hx ht htd hte hsz rfl hd ⟨by omega, by omega⟩ ?_
  rw [Int.toNat_natCast, Nat.zero_add]; exact kk
theorem A1 [Inhabited α] (m : Nat) (f : α → T) {sz : Nat} [Enc f sz] {l : List α} {z i : Nat} {t : TypeId} {x : Operand} {ti : TI} (hG : Fits P G) (hx : A9 a x = some (.ptr i (z * sz))) (hob : σ.L[m]? = some (i, .cells (flat (l.map f)))) (ht : G t = some ti) (hag : ti.d.agg = true) (hsz : Nat.beq ti.size sz = true)
    (hz : z < l.length) (hd : Bm N (some d) = true) (kk : K (put a (some d) (.agg (f (l.getD z default)).cells)) σ) : AOp P N ⟨some d, .load t x, ty, pos, af, gd⟩ a σ K := by
  refine A8 m hG hx hob ?_ hd kk
  have hg : (l.map f)[z]? = some (f (l.getD z default)) := by simp [List.getD, hz]
  obtain ⟨A, B, h1, h2, _⟩ := flat_slice (enc_sized f l) hg
  have h3 : (f (l.getD z default)).cells.length = sz := Enc.size (f := f) _
  have h4 := Nat.eq_of_beq_eq_true hsz
  have h5 : Nat.ble (z * sz + sz) (A ++ (f (l.getD z default)).cells ++ B).length = true := Nat.ble_eq_true_of_le (by simp only [List.length_append]; omega)
  simp only [readT, ht, hag, cond_true, h4, h1, h5]
  rw [← h2, List.append_assoc, List.drop_left, ← h3, List.take_left]
theorem A2 [Inhabited α] (m : Nat) (f : α → T) {sz : Nat} [Enc f sz] {l : List α} {z j i : Nat} {t : TypeId} {x : Operand} {ti : TI} {c : T} (hG : Fits P G) (hx : A9 a x = some (.ptr i (z * sz + j))) (hob : σ.L[m]? = some (i, .cells (flat (l.map f)))) (ht : G t = some ti) (hag : ti.d.agg = false)
    (hc : (f (l.getD z default)).cells[j]? = some c) (hz : z < l.length) (hd : Bm N (some d) = true) (kk : K (put a (some d) c) σ) : AOp P N ⟨some d, .load t x, ty, pos, af, gd⟩ a σ K := by
  refine A8 m hG hx hob ?_ hd kk
  have hg : (l.map f)[z]? = some (f (l.getD z default)) := by simp [List.getD, hz]
  simp [readT, ht, hag, flat_at (enc_sized f l) hg hc]
theorem r_stE [Inhabited α] (m : Nat) (f : α → T) {sz : Nat} [Enc f sz] {l : List α} {v : α} {z i : Nat} {t : TypeId} {x y : Operand} {ti : TI} {cs : List T} (hG : Fits P G) (hx : A9 a x = some (.ptr i (z * sz))) (hob : σ.L[m]? = some (i, .cells (flat (l.map f)))) (hy : A9 a y = some (.agg cs))
    (hv : (f v).cells = cs) (hsc : (notRaw (.agg cs) && cs.all T.scalar) = true) (hty : G t = some ti) (hsz : Nat.beq sz ti.size = true) (hz : z < l.length)
    (kk : K a (σ.set m i (.cells (flat ((l.set z v).map f))))) : AOp P N ⟨none, .store t x y, ty, pos, af, gd⟩ a σ K := by
  have hg : (l.map f)[z]? = some (f (l.getD z default)) := by simp [List.getD, hz]
  obtain ⟨A, B, h1, h2, h3⟩ := flat_slice (enc_sized f l) hg
  have h4 : (f (l.getD z default)).cells.length = sz := Enc.size (f := f) _
  have h5 : (f v).cells.length = sz := Enc.size (f := f) v
  have h6 := h3 (f v) h5
  refine Bg m hG hx hob hy hsc hty ?_ ?_ ?_
  · show Nat.beq cs.length ti.size = true
    rw [← hv, h5]; exact hsz
  · show Nat.ble (z * sz + cs.length) _ = true
    rw [h1, ← hv]
    exact Nat.ble_eq_true_of_le (by simp only [List.length_append]; omega)
  · show K a (σ.set m i (.cells (stored (flat (l.map f)) cs (z * sz))))
    rw [h1, ← h2, ← hv, stored_mid _ _ _ _ (by omega), ← h6, ← List.map_set]; exact kk
end
end Go.Ts
namespace Go.Proofs.Ythfgocinlbogeaa
open Go.Ts
attribute [local irreducible] Go.Ts.AW Go.Ts.AOps Go.Ts.AL Go.Ts.AOp Go.Ts.ACalls Go.Ts.DL
theorem grow_nil {n : Int} (hn : 0 ≤ n ∧ n ≤ 4294967296) : Owns Try.prog 93 [.nilsl, .int .i64 n] 1 [] := by
  intro off
  refine Bp (N := 27) (rs := [.tmp 4]) hG Try.func93 rfl rfl rfl rfl rfl ?_
  repeat' (first
    | ((show AL _ _ _ _ _ _ _ _; refine Ae Y ?_); (first
      | refine Aq hG Y Y ?_
      | refine A5 hG Y Y ?_
      | (show AOp _ _ ⟨_, .call ⟨.builtin .len, _, _⟩, _, _, _, _⟩ _ _ _; first | refine Br hG Y Y Y Y ?_ | refine Bx hG Y Y Y Y Y ?_)
      | (show AOp _ _ ⟨_, .binOp .sub _ _ _ _, _, _, _, _⟩ _ _ _; first | refine Aa hG Y Y Y Y Y (by omega) ?_)
      | (show AOp _ _ ⟨_, .binOp _ _ _ _ _, _, _, _, _⟩ _ _ _; first | refine Au hG Y Y Y Y Y (by omega) ?_ | refine At hG Y Y Y Y Y (by omega) ?_ | (refine Am hG Y Y Y Y Y (fun h => ?_) (fun h => ?_)))
      | (show AOp _ _ ⟨_, .slice _ _ _ _ _, _, _, _, _⟩ _ _ _; first | refine r_sl_hin hG Y Y Y Y Y Y Y (by omega) ?_ | refine r_sl_hi hG Y Y Y Y Y Y Y (by omega) ?_ | refine op_cut0 hG Y Y Y Y Y Y Y Y Y Y ?_ | refine r_sl hG Y Y ?_)
      | (show AOp _ _ ⟨_, .call ⟨.builtin .append, _, _⟩, _, _, _, _⟩ _ _ _; first | refine Cd (sz := 1) (xs := []) hG Y Y Y Y Y Y Y ⟨_, Y⟩ Y Y Y Y Y Y Y (by first | omega | (simp; omega)) (fun k => ?_) | refine r_appm 0 hG Y Y Y Y Y Y Y ⟨_, Y⟩ Y Y Y Y Y (by first | omega | (simp only [List.length_append, List.length_cons, List.length_nil]; omega)) (fun k => ?_) | fail)
      | refine r_q hG Y Y Y ?_))
    | (show AL _ _ _ _ _ _ _ _; first | refine Bj Y Y Y ?_ | (refine Ar ?_; first | show AW _ _ _ _ _ _ | show ∃ x', _ < _ ∧ _)) | (show AW _ _ (.seq _ _) _ _ _; refine Ah ?_; intro Q1) | (show AW _ _ (.region _ _ false) _ _ _; refine Ad ?_; intro O1) | (show AW _ _ (.cond _ _ _) _ _ _; first | refine Ao Y ?_ | refine Ap Y ?_) | (show AW _ _ (.skip) _ _ _; refine Aj ?_; first | show AW _ _ _ _ _ _ | show ∃ x', _ < _ ∧ _) | (show AW _ _ (.ret) _ _ _; refine Av ?_; try dsimp only [A3, Ac, A7, Ag]) | fail)
  · refine Ae rfl (op_zeros hG rfl rfl rfl rfl rfl rfl rfl rfl rfl rfl rfl (by omega) (fun i cap hc => ?_))
    repeat' (first
    | ((show AL _ _ _ _ _ _ _ _; refine Ae Y ?_); (first
      | refine Aq hG Y Y ?_
      | refine A5 hG Y Y ?_
      | (show AOp _ _ ⟨_, .call ⟨.builtin .len, _, _⟩, _, _, _, _⟩ _ _ _; first | refine Br hG Y Y Y Y ?_ | refine Bx hG Y Y Y Y Y ?_)
      | (show AOp _ _ ⟨_, .binOp .sub _ _ _ _, _, _, _, _⟩ _ _ _; first | refine Aa hG Y Y Y Y Y (by omega) ?_)
      | (show AOp _ _ ⟨_, .binOp _ _ _ _ _, _, _, _, _⟩ _ _ _; first | refine Au hG Y Y Y Y Y (by omega) ?_ | refine At hG Y Y Y Y Y (by omega) ?_ | (refine Am hG Y Y Y Y Y (fun h => ?_) (fun h => ?_)))
      | (show AOp _ _ ⟨_, .slice _ _ _ _ _, _, _, _, _⟩ _ _ _; first | refine r_sl_hin hG Y Y Y Y Y Y Y (by omega) ?_ | refine r_sl_hi hG Y Y Y Y Y Y Y (by omega) ?_ | refine op_cut0 hG Y Y Y Y Y Y Y Y Y Y ?_ | refine r_sl hG Y Y ?_)
      | (show AOp _ _ ⟨_, .call ⟨.builtin .append, _, _⟩, _, _, _, _⟩ _ _ _; first | refine Cd (sz := 1) (xs := []) hG Y Y Y Y Y Y Y ⟨_, Y⟩ Y Y Y Y Y Y Y (by first | omega | (simp; omega)) (fun k => ?_) | refine r_appm 0 hG Y Y Y Y Y Y Y ⟨_, Y⟩ Y Y Y Y Y (by first | omega | (simp only [List.length_append, List.length_cons, List.length_nil]; omega)) (fun k => ?_) | fail)
      | refine r_q hG Y Y Y ?_))
    | (show AL _ _ _ _ _ _ _ _; first | refine Bj Y Y Y ?_ | (refine Ar ?_; first | show AW _ _ _ _ _ _ | show ∃ x', _ < _ ∧ _)) | (show AW _ _ (.seq _ _) _ _ _; refine Ah ?_; intro Q1) | (show AW _ _ (.region _ _ false) _ _ _; refine Ad ?_; intro O1) | (show AW _ _ (.cond _ _ _) _ _ _; first | refine Ao Y ?_ | refine Ap Y ?_) | (show AW _ _ (.skip) _ _ _; refine Aj ?_; first | show AW _ _ _ _ _ _ | show ∃ x', _ < _ ∧ _) | fail)
    refine aw_room 0 4 rfl rfl rfl rfl (fun k => ?_)
    exact Av (ret_owns 0 (Bq rfl Bo) rfl rfl rfl)
  · exact ret_owns0 (sz := 1) (Bq rfl Bo) rfl rfl rfl rfl

def lettersOf : List T → Option (List (List UInt8))
  | [] => some []
  | t :: r => match bytesT t, lettersOf r with
    | some b, some s => some (b :: s)
    | _, _ => none
theorem bytesT_scalar {t : T} {b : List UInt8} (h : bytesT t = some b) : t.scalar = true := by
  unfold bytesT at h
  split at h
  · rfl
  · rfl
  · cases h
theorem lettersOf_wk : ∀ {xs : List T} {l : List (List UInt8)}, lettersOf xs = some l → xs.length = l.length ∧ ∀ (i : Nat) (x : T) (b : List UInt8), xs[i]? = some x → l[i]? = some b → x.scalar = true ∧ Wk x (sT b)
  | [], l, h => by simp [lettersOf] at h; subst h; exact ⟨rfl, fun i x b h => by simp at h⟩
  | t :: xs, l, h => by
    simp only [lettersOf] at h
    split at h
    · rename_i b s hb hs
      injection h with h; subst h
      obtain ⟨h1, h2⟩ := lettersOf_wk hs
      refine ⟨by simp [h1], fun i x c hx hc => ?_⟩
      cases i with
      | zero => simp at hx hc; subst hx; subst hc; exact ⟨bytesT_scalar hb, bytesT_wk hb⟩
      | succ i => exact h2 i x c (by simpa using hx) (by simpa using hc)
    · cases h
def lettersT : T → Option (List (List UInt8))
  | .nilsl => some []
  | .sl 1 _ xs => lettersOf xs
  | _ => none
def lT (l : List (List UInt8)) : T := .sl 1 .no (l.map sT)
theorem lettersT_wk {x : T} {l : List (List UInt8)} (h : lettersT x = some l) : Wk x (lT l) := by
  unfold lettersT at h
  split at h
  · injection h with h; subst h; exact Wk.nil 1
  · rename_i own xs
    obtain ⟨h1, h2⟩ := lettersOf_wk h
    refine (Wk.own 1 own xs).trans (Wk.list (by simpa using h1) fun i x y hx hy => ?_)
    rw [List.getElem?_map] at hy
    cases hl : l[i]? with
    | none => rw [hl] at hy; cases hy
    | some b =>
      rw [hl] at hy; injection hy with hy; subst hy
      obtain ⟨h3, h4⟩ := h2 i x b hx hl
      exact ⟨h3, rfl, h4⟩
  · cases h
instance : Enc lT 1 := ⟨fun x c h => by simp [lT, T.cells] at h; subst h; rfl, fun x => rfl⟩

def total (bs : List (List UInt8)) : Nat := (bs.map List.length).sum
theorem total_snoc (bs : List (List UInt8)) (b : List UInt8) : total (bs ++ [b]) = total bs + b.length := by simp [total]
theorem total_take_le (bs : List (List UInt8)) (i : Nat) : total (bs.take i) ≤ total bs := by
  have h : total bs = total (bs.take i) + total (bs.drop i) := by
    conv => lhs; rw [← List.take_append_drop i bs]
    simp only [total, List.map_append, List.sum_append]
  omega
theorem flatten_length (bs : List (List UInt8)) : bs.flatten.length = total bs := by simp [total, List.length_flatten]
theorem take_getD {α : Type} [Inhabited α] (l : List α) (i : Nat) (h : i < l.length) : l.take (i + 1) = l.take i ++ [l.getD i default] := by
  rw [List.take_succ_eq_append_getElem h]; simp [List.getElem?_eq_getElem h]

structure CatX (bs : List (List UInt8)) where
  i : Nat
  hi : i ≤ bs.length
structure CatY (bs : List (List UInt8)) where
  i : Nat
  k : Nat
  hi : i ≤ bs.length
theorem concat_b {x : T} {bs : List (List UInt8)} (hx : lettersT x = some bs) (hb : total bs ≤ 4294967200) (hn : bs.length ≤ 4294967296) :
    Owns Try.prog 69 [x] 1 (bs.flatten.map bT) := by
  refine Owns.weak (us := [lT bs]) ?_ (wk1 (lettersT_wk hx))
  intro off
  refine Bp (N := 36) (rs := [.tmp 2]) hG Try.func69 rfl rfl rfl rfl rfl ?_
  repeat' (first
    | ((show AL _ _ _ _ _ _ _ _; refine Ae Y ?_); (first
      | refine Aq hG Y Y ?_
      | refine A5 hG Y Y ?_
      | (show AOp _ _ ⟨_, .call ⟨.builtin .len, _, _⟩, _, _, _, _⟩ _ _ _; first | refine Br hG Y Y Y Y ?_ | refine Bx hG Y Y Y Y Y ?_)
      | (show AOp _ _ ⟨_, .binOp .add _ _ _ _, _, _, _, _⟩ _ _ _; first | refine Aa hG Y Y Y Y Y (by omega) ?_)
      | (show AOp _ _ ⟨_, .binOp _ _ _ _ _, _, _, _, _⟩ _ _ _; first | refine Au hG Y Y Y Y Y (by omega) ?_ | refine At hG Y Y Y Y Y (by omega) ?_ | (refine Am hG Y Y Y Y Y (fun h => ?_) (fun h => ?_)))
      | (show AOp _ _ ⟨_, .load _ _, _, _, _, _⟩ _ _ _; first | refine Ay hG Y Y Y ?_ | refine A8 0 hG Y Y Y Y ?_)
      | (show AOp _ _ ⟨_, .indexAddr _ _ _, _, _, _, _⟩ _ _ _; first | refine Az hG Y Y Y Y Y Y Y (by omega) ?_ | refine Ax hG Y Y Y Y Y Y Y (by omega) ?_ | refine Bb hG Y Y ?_)
      | (show AOp _ _ ⟨_, .call ⟨.builtin .append, _, _⟩, _, _, _, _⟩ _ _ _; first | refine Cd (sz := 1) (xs := []) hG Y Y Y Y Y Y Y ⟨_, Y⟩ Y Y Y Y Y Y Y (by first | omega | (simp; omega)) (fun k => ?_) | refine r_appm 0 hG Y Y Y Y Y Y Y ⟨_, Y⟩ Y Y Y Y Y (by first | omega | (simp only [List.length_append, List.length_cons, List.length_nil]; omega)) (fun k => ?_) | fail)
      | refine r_q hG Y Y Y ?_))
    | (show AL _ _ _ _ _ _ _ _; first | refine Bj Y Y Y ?_ | (refine Ar ?_; first | show AW _ _ _ _ _ _ | show ∃ x', _ < _ ∧ _)) | (show AW _ _ (.seq _ _) _ _ _; refine Ah ?_; intro Q1) | (show AW _ _ (.region _ _ false) _ _ _; refine Ad ?_; intro O1) | (show AW _ _ (.cond _ _ _) _ _ _; first | refine Ao Y ?_ | refine Ap Y ?_) | (show AW _ _ (.skip) _ _ _; refine Aj ?_; first | show AW _ _ _ _ _ _ | show ∃ x', _ < _ ∧ _) | (show AW _ _ (.block _ _) _ _ _; refine Af ?_; intro Q1) | (show AW _ _ (.exit _) _ _ _; refine As ?_; first | show AW _ _ _ _ _ _ | show ∃ x', _ < _ ∧ _) | (show AW _ _ (.ret) _ _ _; refine Av ?_; try dsimp only [A3, Ac, A7, Ag]) | fail)
  refine aw_loop (X := CatX bs) (fun x => [(0, lT bs), (9, lT bs), (10, .int .i64 bs.length), (11, .int .i64 x.i), (3, .int .i64 (total (bs.take x.i)))]) (fun x => ⟨[], [], off, none⟩) (fun x => bs.length - x.i) ⟨0, Nat.zero_le _⟩ ?_ (.refl _) ?_
  · exact .cons rfl (.cons rfl (.consW rfl (.int (by simp)) (.consW rfl (.int rfl) (.consW rfl (.int (by simp [total])) (.nil _)))))
  rintro ⟨i, hi⟩
  dsimp only
  have hle := total_take_le bs i
  by_cases hib : i < bs.length
  · have htk := take_getD bs i hib
    have hle2 := total_take_le bs (i + 1)
    rw [htk, total_snoc] at hle2
    repeat' (first
    | ((show AL _ _ _ _ _ _ _ _; refine Ae Y ?_); (first
      | refine Aq hG Y Y ?_
      | refine A5 hG Y Y ?_
      | (show AOp _ _ ⟨_, .call ⟨.builtin .len, _, _⟩, _, _, _, _⟩ _ _ _; first | refine Br hG Y Y Y Y ?_ | refine Bx hG Y Y Y Y Y ?_)
      | (show AOp _ _ ⟨_, .binOp .add _ _ _ _, _, _, _, _⟩ _ _ _; first | refine Aa hG Y Y Y Y Y (by omega) ?_)
      | (show AOp _ _ ⟨_, .binOp _ _ _ _ _, _, _, _, _⟩ _ _ _; first | refine Au hG Y Y Y Y Y (by omega) ?_ | refine At hG Y Y Y Y Y (by omega) ?_ | (refine Am hG Y Y Y Y Y (fun h => ?_) (fun h => ?_)))
      | (show AOp _ _ ⟨_, .load _ _, _, _, _, _⟩ _ _ _; first | refine Ay hG Y Y Y ?_ | refine A8 0 hG Y Y Y Y ?_)
      | (show AOp _ _ ⟨_, .indexAddr _ _ _, _, _, _, _⟩ _ _ _; first | refine Az hG Y Y Y Y Y Y Y (by omega) ?_ | refine Ax hG Y Y Y Y Y Y Y (by omega) ?_ | refine Bb hG Y Y ?_)
      | (show AOp _ _ ⟨_, .call ⟨.builtin .append, _, _⟩, _, _, _, _⟩ _ _ _; first | refine Cd (sz := 1) (xs := []) hG Y Y Y Y Y Y Y ⟨_, Y⟩ Y Y Y Y Y Y Y (by first | omega | (simp; omega)) (fun k => ?_) | refine r_appm 0 hG Y Y Y Y Y Y Y ⟨_, Y⟩ Y Y Y Y Y (by first | omega | (simp only [List.length_append, List.length_cons, List.length_nil]; omega)) (fun k => ?_) | fail)
      | refine r_q hG Y Y Y ?_))
    | (show AL _ _ _ _ _ _ _ _; first | refine Bj Y Y Y ?_ | (refine Ar ?_; first | show AW _ _ _ _ _ _ | show ∃ x', _ < _ ∧ _)) | (show AW _ _ (.seq _ _) _ _ _; refine Ah ?_; intro Q1) | (show AW _ _ (.region _ _ false) _ _ _; refine Ad ?_; intro O1) | (show AW _ _ (.cond _ _ _) _ _ _; first | refine Ao Y ?_ | refine Ap Y ?_) | (show AW _ _ (.skip) _ _ _; refine Aj ?_; first | show AW _ _ _ _ _ _ | show ∃ x', _ < _ ∧ _) | (show AW _ _ (.block _ _) _ _ _; refine Af ?_; intro Q1) | (show AW _ _ (.exit _) _ _ _; refine As ?_; first | show AW _ _ _ _ _ _ | show ∃ x', _ < _ ∧ _) | (show AW _ _ (.ret) _ _ _; refine Av ?_; try dsimp only [A3, Ac, A7, Ag]) | fail)
    refine ⟨⟨i + 1, by omega⟩, by dsimp only; omega, ?_, .refl _⟩
    refine .cons rfl (.cons rfl (.cons rfl (.consW rfl (.int (by simp)) (.consW rfl (.int ?_) (.nil _)))))
    show _ = ((total (bs.take (i + 1)) : Nat) : Int)
    rw [htk, total_snoc]; simp
  · obtain rfl : i = bs.length := by omega
    rw [List.take_length] at *
    repeat' (first
    | ((show AL _ _ _ _ _ _ _ _; refine Ae Y ?_); (first
      | refine Aq hG Y Y ?_
      | refine A5 hG Y Y ?_
      | (show AOp _ _ ⟨_, .call ⟨.builtin .len, _, _⟩, _, _, _, _⟩ _ _ _; first | refine Br hG Y Y Y Y ?_ | refine Bx hG Y Y Y Y Y ?_)
      | (show AOp _ _ ⟨_, .binOp .add _ _ _ _, _, _, _, _⟩ _ _ _; first | refine Aa hG Y Y Y Y Y (by omega) ?_)
      | (show AOp _ _ ⟨_, .binOp _ _ _ _ _, _, _, _, _⟩ _ _ _; first | refine Au hG Y Y Y Y Y (by omega) ?_ | refine At hG Y Y Y Y Y (by omega) ?_ | (refine Am hG Y Y Y Y Y (fun h => ?_) (fun h => ?_)))
      | (show AOp _ _ ⟨_, .load _ _, _, _, _, _⟩ _ _ _; first | refine Ay hG Y Y Y ?_ | refine A8 0 hG Y Y Y Y ?_)
      | (show AOp _ _ ⟨_, .indexAddr _ _ _, _, _, _, _⟩ _ _ _; first | refine Az hG Y Y Y Y Y Y Y (by omega) ?_ | refine Ax hG Y Y Y Y Y Y Y (by omega) ?_ | refine Bb hG Y Y ?_)
      | (show AOp _ _ ⟨_, .call ⟨.builtin .append, _, _⟩, _, _, _, _⟩ _ _ _; first | refine Cd (sz := 1) (xs := []) hG Y Y Y Y Y Y Y ⟨_, Y⟩ Y Y Y Y Y Y Y (by first | omega | (simp; omega)) (fun k => ?_) | refine r_appm 0 hG Y Y Y Y Y Y Y ⟨_, Y⟩ Y Y Y Y Y (by first | omega | (simp only [List.length_append, List.length_cons, List.length_nil]; omega)) (fun k => ?_) | fail)
      | (show AOp _ _ ⟨_, .call ⟨.value _, _, _⟩, _, _, _, _⟩ _ _ _; first | (refine r_owns Y Y Y Y Y (by first | (apply grow_nil <;> (first | assumption | omega | exact Ba _ _ | exact Bi _ | exact Bk _ _ | exact Bs _ | rfl | (simp; omega))) | fail) (fun k => ?_)) | (have := kk; clear this; refine B0 Y Y Y Y Y (Owns.pure (by first | (apply grow_nil <;> (first | assumption | omega | exact Ba _ _ | exact Bi _ | exact Bk _ _ | exact Bs _ | rfl | (simp; omega))) | fail)) ?_) | fail)
      | refine r_q hG Y Y Y ?_))
    | (show AL _ _ _ _ _ _ _ _; first | refine Bj Y Y Y ?_ | (refine Ar ?_; first | show AW _ _ _ _ _ _ | show ∃ x', _ < _ ∧ _)) | (show AW _ _ (.seq _ _) _ _ _; refine Ah ?_; intro Q1) | (show AW _ _ (.region _ _ false) _ _ _; refine Ad ?_; intro O1) | (show AW _ _ (.cond _ _ _) _ _ _; first | refine Ao Y ?_ | refine Ap Y ?_) | (show AW _ _ (.skip) _ _ _; refine Aj ?_; first | show AW _ _ _ _ _ _ | show ∃ x', _ < _ ∧ _) | (show AW _ _ (.block _ _) _ _ _; refine Af ?_; intro Q1) | (show AW _ _ (.exit _) _ _ _; refine As ?_; first | show AW _ _ _ _ _ _ | show ∃ x', _ < _ ∧ _) | (show AW _ _ (.ret) _ _ _; refine Av ?_; try dsimp only [A3, Ac, A7, Ag]) | fail)
    refine aw_loop (X := CatY bs) (fun x => [(25, lT bs), (26, .int .i64 bs.length), (27, .int .i64 x.i), (6, .sl 1 (.tok x.k) ((bs.take x.i).flatten.map bT))]) (fun x => ⟨[], [x.k], off, none⟩) (fun x => bs.length - x.i) ⟨0, k, Nat.zero_le _⟩ ?_ (.refl _) ?_
    · exact .cons rfl (.consW rfl (.int (by simp)) (.consW rfl (.int rfl) (.consW rfl (.eq (by simp)) (.nil _))))
    rintro ⟨i, k, hi⟩
    dsimp only
    have hle := total_take_le bs i
    have hfl := flatten_length (bs.take i)
    by_cases hib : i < bs.length
    · have htk := take_getD bs i hib
      have hle2 := total_take_le bs (i + 1)
      rw [htk, total_snoc] at hle2
      repeat' (first
    | ((show AL _ _ _ _ _ _ _ _; refine Ae Y ?_); (first
      | refine Aq hG Y Y ?_
      | refine A5 hG Y Y ?_
      | (show AOp _ _ ⟨_, .call ⟨.builtin .len, _, _⟩, _, _, _, _⟩ _ _ _; first | refine Br hG Y Y Y Y ?_ | refine Bx hG Y Y Y Y Y ?_)
      | (show AOp _ _ ⟨_, .binOp .add _ _ _ _, _, _, _, _⟩ _ _ _; first | refine Aa hG Y Y Y Y Y (by omega) ?_)
      | (show AOp _ _ ⟨_, .binOp _ _ _ _ _, _, _, _, _⟩ _ _ _; first | refine Au hG Y Y Y Y Y (by omega) ?_ | refine At hG Y Y Y Y Y (by omega) ?_ | (refine Am hG Y Y Y Y Y (fun h => ?_) (fun h => ?_)))
      | (show AOp _ _ ⟨_, .load _ _, _, _, _, _⟩ _ _ _; first | refine Ay hG Y Y Y ?_ | refine A8 0 hG Y Y Y Y ?_)
      | (show AOp _ _ ⟨_, .indexAddr _ _ _, _, _, _, _⟩ _ _ _; first | refine Az hG Y Y Y Y Y Y Y (by omega) ?_ | refine Ax hG Y Y Y Y Y Y Y (by omega) ?_ | refine Bb hG Y Y ?_)
      | (show AOp _ _ ⟨_, .call ⟨.builtin .append, _, _⟩, _, _, _, _⟩ _ _ _; first | refine Cd (sz := 1) (xs := []) hG Y Y Y Y Y Y Y ⟨_, Y⟩ Y Y Y Y Y Y Y (by first | omega | (simp; omega)) (fun k => ?_) | refine r_appm 0 hG Y Y Y Y Y Y Y ⟨_, Y⟩ Y Y Y Y Y (by first | omega | (simp only [List.length_append, List.length_cons, List.length_nil]; omega)) (fun k => ?_) | fail)
      | refine r_q hG Y Y Y ?_))
    | (show AL _ _ _ _ _ _ _ _; first | refine Bj Y Y Y ?_ | (refine Ar ?_; first | show AW _ _ _ _ _ _ | show ∃ x', _ < _ ∧ _)) | (show AW _ _ (.seq _ _) _ _ _; refine Ah ?_; intro Q1) | (show AW _ _ (.region _ _ false) _ _ _; refine Ad ?_; intro O1) | (show AW _ _ (.cond _ _ _) _ _ _; first | refine Ao Y ?_ | refine Ap Y ?_) | (show AW _ _ (.skip) _ _ _; refine Aj ?_; first | show AW _ _ _ _ _ _ | show ∃ x', _ < _ ∧ _) | (show AW _ _ (.block _ _) _ _ _; refine Af ?_; intro Q1) | (show AW _ _ (.exit _) _ _ _; refine As ?_; first | show AW _ _ _ _ _ _ | show ∃ x', _ < _ ∧ _) | (show AW _ _ (.ret) _ _ _; refine Av ?_; try dsimp only [A3, Ac, A7, Ag]) | fail)
      refine ⟨⟨i + 1, _, by omega⟩, by dsimp only; omega, ?_, .refl _⟩
      refine .cons rfl (.cons rfl (.consW rfl (.int (by simp)) (.consW rfl (.eq ?_) (.nil _))))
      rw [htk, List.flatten_append]; simp
    · obtain rfl : i = bs.length := by omega
      rw [List.take_length] at *
      repeat' (first
    | ((show AL _ _ _ _ _ _ _ _; refine Ae Y ?_); (first
      | refine Aq hG Y Y ?_
      | refine A5 hG Y Y ?_
      | (show AOp _ _ ⟨_, .call ⟨.builtin .len, _, _⟩, _, _, _, _⟩ _ _ _; first | refine Br hG Y Y Y Y ?_ | refine Bx hG Y Y Y Y Y ?_)
      | (show AOp _ _ ⟨_, .binOp .add _ _ _ _, _, _, _, _⟩ _ _ _; first | refine Aa hG Y Y Y Y Y (by omega) ?_)
      | (show AOp _ _ ⟨_, .binOp _ _ _ _ _, _, _, _, _⟩ _ _ _; first | refine Au hG Y Y Y Y Y (by omega) ?_ | refine At hG Y Y Y Y Y (by omega) ?_ | (refine Am hG Y Y Y Y Y (fun h => ?_) (fun h => ?_)))
      | (show AOp _ _ ⟨_, .load _ _, _, _, _, _⟩ _ _ _; first | refine Ay hG Y Y Y ?_ | refine A8 0 hG Y Y Y Y ?_)
      | (show AOp _ _ ⟨_, .indexAddr _ _ _, _, _, _, _⟩ _ _ _; first | refine Az hG Y Y Y Y Y Y Y (by omega) ?_ | refine Ax hG Y Y Y Y Y Y Y (by omega) ?_ | refine Bb hG Y Y ?_)
      | (show AOp _ _ ⟨_, .call ⟨.builtin .append, _, _⟩, _, _, _, _⟩ _ _ _; first | refine Cd (sz := 1) (xs := []) hG Y Y Y Y Y Y Y ⟨_, Y⟩ Y Y Y Y Y Y Y (by first | omega | (simp; omega)) (fun k => ?_) | refine r_appm 0 hG Y Y Y Y Y Y Y ⟨_, Y⟩ Y Y Y Y Y (by first | omega | (simp only [List.length_append, List.length_cons, List.length_nil]; omega)) (fun k => ?_) | fail)
      | refine r_q hG Y Y Y ?_))
    | (show AL _ _ _ _ _ _ _ _; first | refine Bj Y Y Y ?_ | (refine Ar ?_; first | show AW _ _ _ _ _ _ | show ∃ x', _ < _ ∧ _)) | (show AW _ _ (.seq _ _) _ _ _; refine Ah ?_; intro Q1) | (show AW _ _ (.region _ _ false) _ _ _; refine Ad ?_; intro O1) | (show AW _ _ (.cond _ _ _) _ _ _; first | refine Ao Y ?_ | refine Ap Y ?_) | (show AW _ _ (.skip) _ _ _; refine Aj ?_; first | show AW _ _ _ _ _ _ | show ∃ x', _ < _ ∧ _) | (show AW _ _ (.block _ _) _ _ _; refine Af ?_; intro Q1) | (show AW _ _ (.exit _) _ _ _; refine As ?_; first | show AW _ _ _ _ _ _ | show ∃ x', _ < _ ∧ _) | (show AW _ _ (.ret) _ _ _; refine Av ?_; try dsimp only [A3, Ac, A7, Ag]) | fail)
      exact ret_owns 0 (Bq rfl Bo) rfl rfl rfl

def putBs (b s : List UInt8) : List UInt8 := b ++ putI s.length 2 ++ s
theorem num_PutBytes {x y : T} {b s : List UInt8} (hx : bytesT x = some b) (hy : bytesT y = some s) (hl : b.length ≤ 4294880000) (hs : s.length ≤ 70000) :
    Owns Try.prog 43 [x, y] 1 ((putBs b s).map bT) := by
  refine Owns.weak (us := [sT b, sT s]) ?_ (wk2 (bytesT_wk hx) (bytesT_wk hy))
  intro off
  refine Bp (N := 13) (rs := [.tmp 4]) hG Try.func43 rfl rfl rfl rfl rfl ?_
  have hpl := putI_le s.length 2
  repeat' (first
    | ((show AL _ _ _ _ _ _ _ _; refine Ae Y ?_); (first
      | refine Aq hG Y Y ?_
      | refine A5 hG Y Y ?_
      | (show AOp _ _ ⟨_, .call ⟨.builtin .len, _, _⟩, _, _, _, _⟩ _ _ _; first | refine Br hG Y Y Y Y ?_ | refine Bx hG Y Y Y Y Y ?_)
      | (show AOp _ _ ⟨_, .convert _ _ _, _, _, _, _⟩ _ _ _; first | refine Ca hG Y Y Y Y Y (by omega) ?_ | refine r_cvw hG Y Y Y Y Y ?_)
      | (show AOp _ _ ⟨_, .buildSlice _ _ _, _, _, _, _⟩ _ _ _; first | refine r_mk (sz := 1) hG Y Y Y Y Y Y Y ?_)
      | (show AOp _ _ ⟨_, .call ⟨.value _, _, _⟩, _, _, _, _⟩ _ _ _; first | (refine r_owns Y Y Y Y Y (by first | (apply num_Put <;> (first | assumption | omega | exact Ba _ _ | exact Bi _ | exact Bk _ _ | exact Bs _ | rfl | (simp; omega))) | fail) (fun k => ?_)) | (have := kk; clear this; refine B0 Y Y Y Y Y (Owns.pure (by first | (apply num_Put <;> (first | assumption | omega | exact Ba _ _ | exact Bi _ | exact Bk _ _ | exact Bs _ | rfl | (simp; omega))) | fail)) ?_) | fail)
      | refine r_q hG Y Y Y ?_))
    | (show AL _ _ _ _ _ _ _ _; first | refine Bj Y Y Y ?_ | (refine Ar ?_; first | show AW _ _ _ _ _ _ | show ∃ x', _ < _ ∧ _)) | (show AW _ _ (.seq _ _) _ _ _; refine Ah ?_; intro Q1) | (show AW _ _ (.region _ _ false) _ _ _; refine Ad ?_; intro O1) | (show AW _ _ (.ret) _ _ _; refine Av ?_; try dsimp only [A3, Ac, A7, Ag]) | fail)
  refine Ae rfl (r_owns rfl rfl rfl rfl rfl (concat_b (bs := [b ++ putI s.length 2, s]) ?_ ?_ ?_) (fun k => ?_))
  · simp only [lettersT, lettersOf, Ba, Bi]
  · simp [total]; omega
  · simp
  repeat' (first
    | ((show AL _ _ _ _ _ _ _ _; refine Ae Y ?_); (first
      | refine Aq hG Y Y ?_
      | refine A5 hG Y Y ?_
      | (show AOp _ _ ⟨_, .call ⟨.builtin .len, _, _⟩, _, _, _, _⟩ _ _ _; first | refine Br hG Y Y Y Y ?_ | refine Bx hG Y Y Y Y Y ?_)
      | (show AOp _ _ ⟨_, .convert _ _ _, _, _, _, _⟩ _ _ _; first | refine Ca hG Y Y Y Y Y (by omega) ?_ | refine r_cvw hG Y Y Y Y Y ?_)
      | (show AOp _ _ ⟨_, .buildSlice _ _ _, _, _, _, _⟩ _ _ _; first | refine r_mk (sz := 1) hG Y Y Y Y Y Y Y ?_)
      | refine r_q hG Y Y Y ?_))
    | (show AL _ _ _ _ _ _ _ _; first | refine Bj Y Y Y ?_ | (refine Ar ?_; first | show AW _ _ _ _ _ _ | show ∃ x', _ < _ ∧ _)) | (show AW _ _ (.seq _ _) _ _ _; refine Ah ?_; intro Q1) | (show AW _ _ (.region _ _ false) _ _ _; refine Ad ?_; intro O1) | (show AW _ _ (.ret) _ _ _; refine Av ?_; try dsimp only [A3, Ac, A7, Ag]) | fail)
  exact ret_owns 0 (Bq rfl Bo) rfl (by simp [putBs]) rfl
end Go.Proofs.Ythfgocinlbogeaa
namespace Go.Proofs.Ythfgocinlbogeaa
open Go.Ts
set_option linter.unusedSimpArgs false
attribute [local irreducible] Go.Ts.AW Go.Ts.AOps Go.Ts.AL Go.Ts.AOp Go.Ts.ACalls Go.Ts.DL Go.Ts.DQ Go.Ts.EL
theorem clone_p {b : List UInt8} (hl : b.length ≤ 4294967296) : Ts.Pure Try.prog 44 [sT b] (sT b) := (clone_b (Bi b) hl).pure
end Go.Proofs.Ythfgocinlbogeaa
set_option linter.unusedSimpArgs false
set_option linter.unusedVariables false
set_option linter.unnecessarySimpa false
namespace Go.Ts
section
variable {P : Program} {G : Nat → Option TI} {N : Nat} {σ : St} {a : Env} {K : Env → St → Prop} {d : Tmp} {ty : TypeId} {pos : String} {af : Array Edge} {gd : Option (Nat × Bool)}
def kvT (p : Nat × Int) : T × T := (.int .u64 (p.1 : Int), .int .i64 p.2)
def kfind (k : Nat) : List (Nat × Int) → Nat → Option (Nat × Int)
  | [], _ => none
  | p :: m, i => if k = p.1 then some (i, p.2) else kfind k m (i + 1)
def klook (m : List (Nat × Int)) (k : Nat) : Int := ((kfind k m 0).map (·.2)).getD 0
def khas (m : List (Nat × Int)) (k : Nat) : Bool := (kfind k m 0).isSome
def kset (m : List (Nat × Int)) (k : Nat) (v : Int) : List (Nat × Int) := match kfind k m 0 with
  | some (p, _) => m.set p (k, v)
  | none => m ++ [(k, v)]
theorem findX_kv (k : Nat) : ∀ (m : List (Nat × Int)) (i : Nat), findX .u64 (k : Int) (m.map kvT) i = some ((kfind k m i).map fun p => (p.1, .int .i64 p.2))
  | [], i => rfl
  | p :: m, i => by
    have ih := findX_kv k m (i + 1)
    simp only [List.map_cons, kvT, findX, decide_true, cond_true, kfind]
    by_cases h : k = p.1
    · have h2 : ((k : Nat) : Int) = ((p.1 : Nat) : Int) := by omega
      rw [if_pos h, decide_eq_true h2]; rfl
    · have h2 : ¬ ((k : Nat) : Int) = ((p.1 : Nat) : Int) := by omega
      rw [if_neg h, decide_eq_false h2]; exact ih
theorem found_kv (m : List (Nat × Int)) (k : Nat) : foundX (.int .i64 0) ((kfind k m 0).map fun p => (p.1, .int .i64 p.2)) = .int .i64 (klook m k) := by
  unfold klook; cases kfind k m 0 <;> rfl
theorem mapSet_kv (m : List (Nat × Int)) (k : Nat) (v : Int) : mapSet .u64 (k : Int) (.int .i64 v) (m.map kvT) ((kfind k m 0).map fun p => (p.1, .int .i64 p.2)) = (kset m k v).map kvT := by
  unfold kset
  cases kfind k m 0 with
  | none => simp [mapSet, kvT]
  | some p => obtain ⟨p, w⟩ := p; simp [mapSet, kvT, List.map_set]
theorem B8 {t kt et : TypeId} {x y : Operand} {ti tk te : TI} {k i n : Nat} {m : List (Nat × Int)} (hG : Fits P G) (hx : A9 a x = some (.map (some i))) (hy : A9 a y = some (.int .u64 ((k : Nat) : Int))) (hob : σ.L[n]? = some (i, .map (m.map kvT)))
    (ht : G t = some ti) (htd : ti.d = .map kt et) (hk : G kt = some tk) (hkd : tk.d = .int .u64) (he : G et = some te) (hz : te.tree = .int .i64 0) (hd : Bm N (some d) = true)
    (kk : K (put a (some d) (.int .i64 (klook m k))) σ) : AOp P N ⟨some d, .lookup t x y false, ty, pos, af, gd⟩ a σ K := by
  refine aop_lookup hG rfl ht htd hk hkd he hx hy (List.mem_of_getElem? hob) (findX_kv k m 0) hd ?_
  rw [hz, found_kv]; exact kk
theorem r_lookF {t kt et : TypeId} {x y : Operand} {ti tk te : TI} {k : Nat} {m : List (Nat × Int)} (hG : Fits P G) (hx : A9 a x = some (.mro ((m.map kvT).map Prod.fst) ((m.map kvT).map Prod.snd))) (hy : A9 a y = some (.int .u64 ((k : Nat) : Int)))
    (ht : G t = some ti) (htd : ti.d = .map kt et) (hk : G kt = some tk) (hkd : tk.d = .int .u64) (he : G et = some te) (hz : te.tree = .int .i64 0) (hd : Bm N (some d) = true)
    (kk : K (put a (some d) (.int .i64 (klook m k))) σ) : AOp P N ⟨some d, .lookup t x y false, ty, pos, af, gd⟩ a σ K := by
  refine aop_lookupF hG rfl ht htd hk hkd he hx hy (findX_kv k m 0) hd ?_
  rw [hz, found_kv]; exact kk
theorem r_lookFo {t kt et : TypeId} {x y : Operand} {ti tk te : TI} {k : Nat} {m : List (Nat × Int)} (hG : Fits P G) (hx : A9 a x = some (.mro ((m.map kvT).map Prod.fst) ((m.map kvT).map Prod.snd))) (hy : A9 a y = some (.int .u64 ((k : Nat) : Int)))
    (ht : G t = some ti) (htd : ti.d = .map kt et) (hk : G kt = some tk) (hkd : tk.d = .int .u64) (he : G et = some te) (hz : te.tree = .int .i64 0) (hd : Bm N (some d) = true)
    (kk : K (put a (some d) (.tup [.int .i64 (klook m k), .bool (khas m k)])) σ) : AOp P N ⟨some d, .lookup t x y true, ty, pos, af, gd⟩ a σ K := by
  refine aop_lookupF hG rfl ht htd hk hkd he hx hy (findX_kv k m 0) hd ?_
  rw [hz, found_kv, Option.isSome_map]; exact kk
theorem r_updL {t kt et : TypeId} {mo x y : Operand} {ti tk : TI} {k i : Nat} {v : Int} {m : List (Nat × Int)} (n : Nat) (hG : Fits P G) (hm : A9 a mo = some (.map (some i))) (hx : A9 a x = some (.int .u64 ((k : Nat) : Int))) (hy : A9 a y = some (.int .i64 v)) (hob : σ.L[n]? = some (i, .map (m.map kvT)))
    (ht : G t = some ti) (htd : ti.d = .map kt et) (hk : G kt = some tk) (hkd : tk.d = .int .u64) (kk : K (put a none (.tup [])) (σ.set n i (.map ((kset m k v).map kvT)))) : AOp P N ⟨none, .mapUpdate t mo x y, ty, pos, af, gd⟩ a σ K := by
  refine aop_mapUpdate hG rfl ht htd hk hkd hm hx hy hob (findX_kv k m 0) rfl ?_
  rw [mapSet_kv]; exact kk

def isPM : T → Bool
  | .ptr _ _ | .nilp | .map _ | .bool _ => true
  | _ => false
theorem Bv {op : BinOp} {t yt : TypeId} {x y : Operand} {tx u : T} (hG : Fits P G) (hx : A9 a x = some tx) (hp : isPM tx = true) (he : B4 G (fun _ => none) (A9 a) (.binOp op t x y yt) = some u) (hd : Bm N (some d) = true)
    (kk : K (put a (some d) u) σ) : AOp P N ⟨some d, .binOp op t x y yt, ty, pos, af, gd⟩ a σ K := op_q hG he rfl hd kk
theorem r_lookLo {t kt et : TypeId} {x y : Operand} {ti tk te : TI} {k i n : Nat} {m : List (Nat × Int)} {v : Int} {b : Bool} (hv : klook m k = v) (hb : khas m k = b) (hG : Fits P G) (hx : A9 a x = some (.map (some i))) (hy : A9 a y = some (.int .u64 ((k : Nat) : Int))) (hob : σ.L[n]? = some (i, .map (m.map kvT)))
    (ht : G t = some ti) (htd : ti.d = .map kt et) (hk : G kt = some tk) (hkd : tk.d = .int .u64) (he : G et = some te) (hz : te.tree = .int .i64 0) (hd : Bm N (some d) = true)
    (kk : K (put a (some d) (.tup [.int .i64 v, .bool b])) σ) : AOp P N ⟨some d, .lookup t x y true, ty, pos, af, gd⟩ a σ K := by
  subst hv; subst hb
  refine aop_lookup hG rfl ht htd hk hkd he hx hy (List.mem_of_getElem? hob) (findX_kv k m 0) hd ?_
  rw [hz, found_kv, Option.isSome_map]; exact kk
theorem r_lookLv {t kt et : TypeId} {x y : Operand} {ti tk te : TI} {k i n : Nat} {m : List (Nat × Int)} {v : Int} (hv : klook m k = v) (hG : Fits P G) (hx : A9 a x = some (.map (some i))) (hy : A9 a y = some (.int .u64 ((k : Nat) : Int))) (hob : σ.L[n]? = some (i, .map (m.map kvT)))
    (ht : G t = some ti) (htd : ti.d = .map kt et) (hk : G kt = some tk) (hkd : tk.d = .int .u64) (he : G et = some te) (hz : te.tree = .int .i64 0) (hd : Bm N (some d) = true)
    (kk : K (put a (some d) (.int .i64 v)) σ) : AOp P N ⟨some d, .lookup t x y false, ty, pos, af, gd⟩ a σ K := by
  subst hv
  exact B8 hG hx hy hob ht htd hk hkd he hz hd kk
end
theorem kfind_set {k : Nat} {v : Int} : ∀ (m : List (Nat × Int)) (i p : Nat) (w : Int), kfind k m i = some (p + i, w) → (∀ k', (kfind k' (m.set p (k, v)) i).map (·.2) = if k' = k then some v else (kfind k' m i).map (·.2)) ∧ (m.set p (k, v)).map (·.1) = m.map (·.1)
  | [], i, p, w, h => by cases h
  | q :: m, i, p, w, h => by
    rw [kfind] at h
    by_cases h1 : k = q.1
    · rw [if_pos h1] at h
      injection h with h; injection h with h2 h3
      obtain rfl : p = 0 := by omega
      refine ⟨fun k' => ?_, by simp [h1]⟩
      rw [List.set_cons_zero, kfind]
      by_cases h4 : k' = k
      · simp [h4]
      · rw [if_neg (by simpa using h4), if_neg h4, kfind, if_neg (by rw [← h1]; exact h4)]
    · rw [if_neg h1] at h
      have hp : ∀ (m : List (Nat × Int)) (i : Nat) (x : Nat × Int), kfind k m i = some x → i ≤ x.1 := by
        intro m
        induction m with
        | nil => intro i x h; cases h
        | cons q m ih =>
          intro i x h
          rw [kfind] at h; split at h
          · injection h with h; subst h; exact Nat.le_refl _
          · have := ih _ _ h; omega
      have := hp _ _ _ h
      obtain ⟨p, rfl⟩ : ∃ p', p = p' + 1 := ⟨p - 1, by dsimp only at this; omega⟩
      obtain ⟨e1, e2⟩ := kfind_set m (i + 1) p w (by rw [h]; congr 2; omega)
      refine ⟨fun k' => ?_, by rw [List.set_cons_succ, List.map_cons, List.map_cons, e2]⟩
      rw [List.set_cons_succ, kfind, kfind]
      by_cases h4 : k' = q.1
      · rw [if_pos h4, if_pos h4, if_neg (by rw [h4]; exact fun h5 => h1 h5.symm)]
      · rw [if_neg h4, if_neg h4]; exact e1 k'
theorem kfind_app {k : Nat} {v : Int} : ∀ (m : List (Nat × Int)) (i : Nat) (k' : Nat), (kfind k' (m ++ [(k, v)]) i).map (·.2) = match kfind k' m i with
    | some x => some x.2
    | none => if k' = k then some v else none
  | [], i, k' => by
    by_cases h : k' = k <;> simp [kfind, h]
  | q :: m, i, k' => by
    rw [List.cons_append, kfind, kfind]
    by_cases h : k' = q.1
    · rw [if_pos h, if_pos h]; rfl
    · rw [if_neg h, if_neg h]; exact kfind_app m (i + 1) k'
theorem khas_iff {k : Nat} : ∀ (m : List (Nat × Int)) (i : Nat), (kfind k m i).isSome = true ↔ k ∈ m.map (·.1)
  | [], i => by simp [kfind]
  | q :: m, i => by
    rw [kfind]
    by_cases h : k = q.1
    · simp [h]
    · rw [if_neg h, khas_iff m (i + 1)]; simp [h]
theorem klook_kset (m : List (Nat × Int)) (k : Nat) (v : Int) (k' : Nat) : klook (kset m k v) k' = if k' = k then v else klook m k' := by
  unfold klook kset
  cases h : kfind k m 0 with
  | some x =>
    obtain ⟨p, w⟩ := x
    dsimp only
    rw [(kfind_set m 0 p w h).1 k']
    split <;> rfl
  | none =>
    dsimp only
    rw [kfind_app]
    by_cases h1 : k' = k
    · subst h1; rw [h]; simp
    · rw [if_neg h1]
      cases kfind k' m 0 <;> simp [h1]
theorem keys_kset (m : List (Nat × Int)) (k : Nat) (v : Int) : (kset m k v).map (·.1) = if k ∈ m.map (·.1) then m.map (·.1) else m.map (·.1) ++ [k] := by
  unfold kset
  cases h : kfind k m 0 with
  | some x =>
    obtain ⟨p, w⟩ := x
    rw [if_pos ((khas_iff m 0).1 (by rw [h]; rfl))]
    exact (kfind_set m 0 p w h).2
  | none =>
    rw [if_neg (fun h1 => by have := (khas_iff m 0).2 h1; rw [h] at this; cases this)]
    simp
end Go.Ts
namespace Go.Ts
section
variable {P : Program} {G : Nat → Option TI} {N : Nat} {σ : St} {a : Env} {K : Env → St → Prop} {d : Tmp} {ty : TypeId} {pos : String} {af : Array Edge} {gd : Option (Nat × Bool)}
structure SB where
  id : Nat
  bs : List UInt8
  taken : Bool
  turn : Int
  hid : id < 18446744073709551616
instance : Inhabited SB := ⟨⟨0, [], false, 0, by decide⟩⟩
def recT (s : SB) : T := cond s.taken (.sl 1 .no (s.bs.map bT)) .nilsl
def sbT (s : SB) : T := .agg [.int .u64 (s.id : Int), recT s, .bool s.taken, .int .i64 s.turn]
theorem recT_sc (s : SB) : (recT s).scalar = true := by unfold recT; cases s.taken <;> rfl
instance : Enc sbT 4 := ⟨(fun s c h => by
  simp only [sbT, T.cells] at h
  rcases List.mem_cons.1 h with rfl | h
  · rfl
  · rcases List.mem_cons.1 h with rfl | h
    · exact recT_sc s
    · rcases List.mem_cons.1 h with rfl | h
      · rfl
      · rcases List.mem_cons.1 h with rfl | h
        · rfl
        · cases h), fun s => rfl⟩
end
end Go.Ts
namespace Go.Proofs.Ythfgocinlbogeaa
open Go.Ts
set_option linter.unusedSimpArgs false
set_option linter.unusedVariables false
set_option linter.unnecessarySimpa false
attribute [local irreducible] Go.Ts.AW Go.Ts.AOps Go.Ts.AL Go.Ts.AOp Go.Ts.ACalls Go.Ts.DL Go.Ts.DQ0 Go.Ts.EL
theorem arena_free1 (s : SB) : Ts.Pure Try.prog 89 [sbT s] (.bool (!s.taken)) := by
  intro off
  refine Bp (N := 6) (rs := [.tmp 2]) hG Try.func89 rfl rfl rfl rfl rfl ?_
  repeat' (first
    | ((show AL _ _ _ _ _ _ _ _; refine Ae Y ?_); (first
      | refine A5 hG Y Y ?_
      | (show AOp _ _ ⟨_, .load _ _, _, _, _, _⟩ _ _ _; first | refine A8 0 hG Y Y Y Y ?_ | refine A8 1 hG Y Y Y Y ?_)
      | refine Bn hG Y Y Y ?_
      | (show AOp _ _ ⟨_, .box _ _, _, _, _, _⟩ _ _ _; refine r_box hG Y Y Y (fun i => ?_))
      | refine r_q hG Y Y Y ?_))
    | (show AL _ _ _ _ _ _ _ _; first | refine Bj Y Y Y ?_ | (refine Ar ?_; first | show AW _ _ _ _ _ _ | show ∃ x', _ < _ ∧ _)) | (show AW _ _ (.seq _ _) _ _ _; refine Ah ?_; intro Q1) | (show AW _ _ (.region _ _ false) _ _ _; refine Ad ?_; intro O1) | (show AW _ _ (.ret) _ _ _; refine Av ?_; try dsimp only [A3, Ac, A7, Ag]) | fail)
  exact ret_pure (Bq rfl Bo) (.refl _) rfl
def freeI : List SB → Nat → Int
  | [], _ => -1
  | s :: l, i => if s.taken = true then freeI l (i + 1) else (i : Int)
structure FrX (l : List SB) where
  i : Nat
  hi : i ≤ l.length
  e : freeI (l.drop i) i = freeI l 0
theorem arena_index0 : Ts.Pure Try.prog 88 [.nilsl, .fn (.func 89) []] (.int .i64 (-1)) := by
  refine Pure.weak (us := [.sl 4 .no [], .fn (.func 89) []]) ?_ (wk2 (.nil 4) (.refl _))
  intro off
  refine Bp (N := 19) (rs := [.tmp 4]) hG Try.func88 rfl rfl rfl rfl rfl ?_
  repeat' (first
    | ((show AL _ _ _ _ _ _ _ _; refine Ae Y ?_); (first
      | refine Aq hG Y Y ?_
      | refine A5 hG Y Y ?_
      | (show AOp _ _ ⟨_, .call ⟨.builtin .len, _, _⟩, _, _, _, _⟩ _ _ _; first | refine Br hG Y Y Y Y ?_ | refine Bx hG Y Y Y Y Y ?_)
      | (show AOp _ _ ⟨_, .binOp .add _ _ _ _, _, _, _, _⟩ _ _ _; first | refine Ab hG Y Y Y Y Y (by omega) ?_ | refine Ab (m := 1) hG Y Y Y Y Y (by omega) ?_ | refine Aa hG Y Y Y Y Y (by omega) ?_)
      | (show AOp _ _ ⟨_, .binOp _ _ _ _ _, _, _, _, _⟩ _ _ _; first | refine Au hG Y Y Y Y Y (by omega) ?_ | refine At hG Y Y Y Y Y (by omega) ?_ | (refine Am hG Y Y Y Y Y (fun h => ?_) (fun h => ?_)))
      | (show AOp _ _ ⟨_, .load _ _, _, _, _, _⟩ _ _ _; first | refine Ak (α := UInt16) 0 hG Y Y Y Y (by omega) Y ?_ | refine Ak (α := UInt16) 1 hG Y Y Y Y (by omega) Y ?_ | refine Ay hG Y Y Y ?_ | refine A8 0 hG Y Y Y Y ?_)
      | (show AOp _ _ ⟨_, .indexAddr _ _ _, _, _, _, _⟩ _ _ _; first | refine A4 hG Y Y Y Y Y Y Y (by omega) ?_ | refine Az hG Y Y Y Y Y Y Y (by omega) ?_ | refine Ax hG Y Y Y Y Y Y Y (by omega) ?_ | refine Bb hG Y Y ?_)
      | refine r_q hG Y Y Y ?_))
    | (show AL _ _ _ _ _ _ _ _; first | refine Bj Y Y Y ?_ | (refine Ar ?_; first | show AW _ _ _ _ _ _ | show ∃ x', _ < _ ∧ _)) | (show AW _ _ (.seq _ _) _ _ _; refine Ah ?_; intro Q1) | (show AW _ _ (.region _ _ false) _ _ _; refine Ad ?_; intro O1) | (show AW _ _ (.cond _ _ _) _ _ _; first | refine Ao Y ?_ | refine Ap Y ?_ | refine Bf Y (fun h => ?_) (fun h => ?_)) | (show AW _ _ (.skip) _ _ _; refine Aj ?_; first | show AW _ _ _ _ _ _ | show ∃ x', _ < _ ∧ _) | (show AW _ _ (.block _ _) _ _ _; refine Af ?_; intro Q1) | (show AW _ _ (.exit _) _ _ _; refine As ?_; first | show AW _ _ _ _ _ _ | show ∃ x', _ < _ ∧ _) | (show AW _ _ (.ret) _ _ _; refine Av ?_; try dsimp only [A3, Ac, A7, Ag]) | fail)
  refine aw_loop (X := Unit) (fun _ => [(7, .int .i64 0), (8, .int .i64 0)]) (fun _ => ⟨[], [], off, none⟩) (fun _ => 0) () (by repeat (first | exact .nil _ | refine .cons rfl ?_)) (.refl _) ?_
  intro _
  repeat' (first
    | ((show AL _ _ _ _ _ _ _ _; refine Ae Y ?_); (first
      | refine Aq hG Y Y ?_
      | refine A5 hG Y Y ?_
      | (show AOp _ _ ⟨_, .call ⟨.builtin .len, _, _⟩, _, _, _, _⟩ _ _ _; first | refine Br hG Y Y Y Y ?_ | refine Bx hG Y Y Y Y Y ?_)
      | (show AOp _ _ ⟨_, .binOp .add _ _ _ _, _, _, _, _⟩ _ _ _; first | refine Ab hG Y Y Y Y Y (by omega) ?_ | refine Ab (m := 1) hG Y Y Y Y Y (by omega) ?_ | refine Aa hG Y Y Y Y Y (by omega) ?_)
      | (show AOp _ _ ⟨_, .binOp _ _ _ _ _, _, _, _, _⟩ _ _ _; first | refine Au hG Y Y Y Y Y (by omega) ?_ | refine At hG Y Y Y Y Y (by omega) ?_ | (refine Am hG Y Y Y Y Y (fun h => ?_) (fun h => ?_)))
      | (show AOp _ _ ⟨_, .load _ _, _, _, _, _⟩ _ _ _; first | refine Ak (α := UInt16) 0 hG Y Y Y Y (by omega) Y ?_ | refine Ak (α := UInt16) 1 hG Y Y Y Y (by omega) Y ?_ | refine Ay hG Y Y Y ?_ | refine A8 0 hG Y Y Y Y ?_)
      | (show AOp _ _ ⟨_, .indexAddr _ _ _, _, _, _, _⟩ _ _ _; first | refine A4 hG Y Y Y Y Y Y Y (by omega) ?_ | refine Az hG Y Y Y Y Y Y Y (by omega) ?_ | refine Ax hG Y Y Y Y Y Y Y (by omega) ?_ | refine Bb hG Y Y ?_)
      | refine r_q hG Y Y Y ?_))
    | (show AL _ _ _ _ _ _ _ _; first | refine Bj Y Y Y ?_ | (refine Ar ?_; first | show AW _ _ _ _ _ _ | show ∃ x', _ < _ ∧ _)) | (show AW _ _ (.seq _ _) _ _ _; refine Ah ?_; intro Q1) | (show AW _ _ (.region _ _ false) _ _ _; refine Ad ?_; intro O1) | (show AW _ _ (.cond _ _ _) _ _ _; first | refine Ao Y ?_ | refine Ap Y ?_ | refine Bf Y (fun h => ?_) (fun h => ?_)) | (show AW _ _ (.skip) _ _ _; refine Aj ?_; first | show AW _ _ _ _ _ _ | show ∃ x', _ < _ ∧ _) | (show AW _ _ (.block _ _) _ _ _; refine Af ?_; intro Q1) | (show AW _ _ (.exit _) _ _ _; refine As ?_; first | show AW _ _ _ _ _ _ | show ∃ x', _ < _ ∧ _) | (show AW _ _ (.ret) _ _ _; refine Av ?_; try dsimp only [A3, Ac, A7, Ag]) | fail)
  exact ret_pure (Bq rfl Bo) (.refl _) rfl
theorem arena_index {l : List SB} (hl : l.length ≤ 4294967296) (i n : Nat) (cap : Option Nat) (hn : l.length = n) : OnL Try.prog 88 [.aref 4 i 0 n cap, .fn (.func 89) []] [(i, .cells (flat (l.map sbT)))] (fun u L => u = .int .i64 (freeI l 0) ∧ L = [(i, .cells (flat (l.map sbT)))]) := by
  intro off
  refine Bp (N := 19) (rs := [.tmp 4]) hG Try.func88 rfl rfl rfl rfl rfl ?_
  repeat' (first
    | ((show AL _ _ _ _ _ _ _ _; refine Ae Y ?_); (first
      | refine Aq hG Y Y ?_
      | refine A5 hG Y Y ?_
      | (show AOp _ _ ⟨_, .call ⟨.builtin .len, _, _⟩, _, _, _, _⟩ _ _ _; first | refine Br hG Y Y Y Y ?_ | refine Bx hG Y Y Y Y Y ?_)
      | (show AOp _ _ ⟨_, .binOp .add _ _ _ _, _, _, _, _⟩ _ _ _; first | refine Ab hG Y Y Y Y Y (by omega) ?_ | refine Ab (m := 1) hG Y Y Y Y Y (by omega) ?_ | refine Aa hG Y Y Y Y Y (by omega) ?_)
      | (show AOp _ _ ⟨_, .binOp _ _ _ _ _, _, _, _, _⟩ _ _ _; first | refine Au hG Y Y Y Y Y (by omega) ?_ | refine At hG Y Y Y Y Y (by omega) ?_ | (refine Am hG Y Y Y Y Y (fun h => ?_) (fun h => ?_)))
      | (show AOp _ _ ⟨_, .load _ _, _, _, _, _⟩ _ _ _; first | refine Ak (α := UInt16) 0 hG Y Y Y Y (by omega) Y ?_ | refine Ak (α := UInt16) 1 hG Y Y Y Y (by omega) Y ?_ | refine Ay hG Y Y Y ?_ | refine A8 0 hG Y Y Y Y ?_)
      | (show AOp _ _ ⟨_, .indexAddr _ _ _, _, _, _, _⟩ _ _ _; first | refine A4 hG Y Y Y Y Y Y Y (by omega) ?_ | refine Az hG Y Y Y Y Y Y Y (by omega) ?_ | refine Ax hG Y Y Y Y Y Y Y (by omega) ?_ | refine Bb hG Y Y ?_)
      | refine r_q hG Y Y Y ?_))
    | (show AL _ _ _ _ _ _ _ _; first | refine Bj Y Y Y ?_ | (refine Ar ?_; first | show AW _ _ _ _ _ _ | show ∃ x', _ < _ ∧ _)) | (show AW _ _ (.seq _ _) _ _ _; refine Ah ?_; intro Q1) | (show AW _ _ (.region _ _ false) _ _ _; refine Ad ?_; intro O1) | (show AW _ _ (.cond _ _ _) _ _ _; first | refine Ao Y ?_ | refine Ap Y ?_ | refine Bf Y (fun h => ?_) (fun h => ?_)) | (show AW _ _ (.skip) _ _ _; refine Aj ?_; first | show AW _ _ _ _ _ _ | show ∃ x', _ < _ ∧ _) | (show AW _ _ (.block _ _) _ _ _; refine Af ?_; intro Q1) | (show AW _ _ (.exit _) _ _ _; refine As ?_; first | show AW _ _ _ _ _ _ | show ∃ x', _ < _ ∧ _) | (show AW _ _ (.ret) _ _ _; refine Av ?_; try dsimp only [A3, Ac, A7, Ag]) | fail)
  refine aw_loop (X := FrX l) (fun x => [(0, .aref 4 i 0 n cap), (1, .fn (.func 89) []), (7, .int .i64 (n : Int)), (8, .int .i64 (x.i : Int))]) (fun x => ⟨[(i, .cells (flat (l.map sbT)))], [], off, none⟩) (fun x => l.length - x.i) ⟨0, Nat.zero_le _, rfl⟩ (by repeat (first | exact .nil _ | refine .cons rfl ?_)) (.refl _) ?_
  rintro ⟨q, hi, e⟩
  dsimp only
  by_cases hil : q < l.length
  · have hf := arena_free1 (l.getD q default)
    rw [List.drop_eq_getElem_cons hil, freeI, show l[q] = l.getD q default by simp [List.getD, hil]] at e
    cases ht : (l.getD q default).taken with
    | true =>
      rw [ht] at hf
      rw [if_pos ht] at e
      repeat' (first
    | ((show AL _ _ _ _ _ _ _ _; refine Ae Y ?_); (first
      | refine Aq hG Y Y ?_
      | refine A5 hG Y Y ?_
      | (show AOp _ _ ⟨_, .call ⟨.builtin .len, _, _⟩, _, _, _, _⟩ _ _ _; first | refine Br hG Y Y Y Y ?_ | refine Bx hG Y Y Y Y Y ?_)
      | (show AOp _ _ ⟨_, .binOp .add _ _ _ _, _, _, _, _⟩ _ _ _; first | refine Ab hG Y Y Y Y Y (by omega) ?_ | refine Ab (m := 1) hG Y Y Y Y Y (by omega) ?_ | refine Aa hG Y Y Y Y Y (by omega) ?_)
      | (show AOp _ _ ⟨_, .binOp _ _ _ _ _, _, _, _, _⟩ _ _ _; first | refine Au hG Y Y Y Y Y (by omega) ?_ | refine At hG Y Y Y Y Y (by omega) ?_ | (refine Am hG Y Y Y Y Y (fun h => ?_) (fun h => ?_)) | refine Bv hG Y Y Y Y ?_)
      | (show AOp _ _ ⟨_, .load _ _, _, _, _, _⟩ _ _ _; first | refine A2 0 sbT hG Y Y Y Y Y (by omega) Y ?_ | refine A1 0 sbT hG Y Y Y Y Y (by omega) Y ?_ | refine A2 1 sbT hG Y Y Y Y Y (by omega) Y ?_ | refine A1 1 sbT hG Y Y Y Y Y (by omega) Y ?_ | refine A2 2 sbT hG Y Y Y Y Y (by omega) Y ?_ | refine A1 2 sbT hG Y Y Y Y Y (by omega) Y ?_ | refine A2 3 sbT hG Y Y Y Y Y (by omega) Y ?_ | refine A1 3 sbT hG Y Y Y Y Y (by omega) Y ?_ | refine Ak (α := UInt16) 0 hG Y Y Y Y (by omega) Y ?_ | refine Ak (α := UInt16) 1 hG Y Y Y Y (by omega) Y ?_ | refine Ay hG Y Y Y ?_ | refine A8 0 hG Y Y Y Y ?_)
      | (show AOp _ _ ⟨_, .indexAddr _ _ _, _, _, _, _⟩ _ _ _; first | refine Bw (sz := 4) hG Y Y Y Y Y Y Y (by omega) ?_ | refine A4 hG Y Y Y Y Y Y Y (by omega) ?_ | refine Az hG Y Y Y Y Y Y Y (by omega) ?_ | refine Ax hG Y Y Y Y Y Y Y (by omega) ?_ | refine Bb hG Y Y ?_)
      | (show AOp _ _ ⟨_, .call ⟨.value _, _, _⟩, _, _, _, _⟩ _ _ _; first | refine B0 Y Y Y Y Y (by first | (apply hf <;> (first | assumption | omega | exact Ba _ _ | exact Bi _ | exact Bk _ _ | exact Bs _ | rfl | (simp; omega))) | fail) ?_ | fail)
      | refine r_q hG Y Y Y ?_))
    | (show AL _ _ _ _ _ _ _ _; first | refine Bj Y Y Y ?_ | (refine Ar ?_; first | show AW _ _ _ _ _ _ | show ∃ x', _ < _ ∧ _)) | (show AW _ _ (.seq _ _) _ _ _; refine Ah ?_; intro Q1) | (show AW _ _ (.region _ _ false) _ _ _; refine Ad ?_; intro O1) | (show AW _ _ (.cond _ _ _) _ _ _; first | refine Ao Y ?_ | refine Ap Y ?_ | refine Bf Y (fun h => ?_) (fun h => ?_)) | (show AW _ _ (.skip) _ _ _; refine Aj ?_; first | show AW _ _ _ _ _ _ | show ∃ x', _ < _ ∧ _) | (show AW _ _ (.block _ _) _ _ _; refine Af ?_; intro Q1) | (show AW _ _ (.exit _) _ _ _; refine As ?_; first | show AW _ _ _ _ _ _ | show ∃ x', _ < _ ∧ _) | (show AW _ _ (.ret) _ _ _; refine Av ?_; try dsimp only [A3, Ac, A7, Ag]) | fail)
      exact ⟨⟨q + 1, by omega, e⟩, by dsimp only; omega, (by repeat (first | exact .nil _ | refine .cons rfl ?_)), .refl _⟩
    | false =>
      rw [ht] at hf
      rw [if_neg (by rw [ht]; exact Bool.false_ne_true)] at e
      repeat' (first
    | ((show AL _ _ _ _ _ _ _ _; refine Ae Y ?_); (first
      | refine Aq hG Y Y ?_
      | refine A5 hG Y Y ?_
      | (show AOp _ _ ⟨_, .call ⟨.builtin .len, _, _⟩, _, _, _, _⟩ _ _ _; first | refine Br hG Y Y Y Y ?_ | refine Bx hG Y Y Y Y Y ?_)
      | (show AOp _ _ ⟨_, .binOp .add _ _ _ _, _, _, _, _⟩ _ _ _; first | refine Ab hG Y Y Y Y Y (by omega) ?_ | refine Ab (m := 1) hG Y Y Y Y Y (by omega) ?_ | refine Aa hG Y Y Y Y Y (by omega) ?_)
      | (show AOp _ _ ⟨_, .binOp _ _ _ _ _, _, _, _, _⟩ _ _ _; first | refine Au hG Y Y Y Y Y (by omega) ?_ | refine At hG Y Y Y Y Y (by omega) ?_ | (refine Am hG Y Y Y Y Y (fun h => ?_) (fun h => ?_)) | refine Bv hG Y Y Y Y ?_)
      | (show AOp _ _ ⟨_, .load _ _, _, _, _, _⟩ _ _ _; first | refine A2 0 sbT hG Y Y Y Y Y (by omega) Y ?_ | refine A1 0 sbT hG Y Y Y Y Y (by omega) Y ?_ | refine A2 1 sbT hG Y Y Y Y Y (by omega) Y ?_ | refine A1 1 sbT hG Y Y Y Y Y (by omega) Y ?_ | refine A2 2 sbT hG Y Y Y Y Y (by omega) Y ?_ | refine A1 2 sbT hG Y Y Y Y Y (by omega) Y ?_ | refine A2 3 sbT hG Y Y Y Y Y (by omega) Y ?_ | refine A1 3 sbT hG Y Y Y Y Y (by omega) Y ?_ | refine Ak (α := UInt16) 0 hG Y Y Y Y (by omega) Y ?_ | refine Ak (α := UInt16) 1 hG Y Y Y Y (by omega) Y ?_ | refine Ay hG Y Y Y ?_ | refine A8 0 hG Y Y Y Y ?_)
      | (show AOp _ _ ⟨_, .indexAddr _ _ _, _, _, _, _⟩ _ _ _; first | refine Bw (sz := 4) hG Y Y Y Y Y Y Y (by omega) ?_ | refine A4 hG Y Y Y Y Y Y Y (by omega) ?_ | refine Az hG Y Y Y Y Y Y Y (by omega) ?_ | refine Ax hG Y Y Y Y Y Y Y (by omega) ?_ | refine Bb hG Y Y ?_)
      | (show AOp _ _ ⟨_, .call ⟨.value _, _, _⟩, _, _, _, _⟩ _ _ _; first | refine B0 Y Y Y Y Y (by first | (apply hf <;> (first | assumption | omega | exact Ba _ _ | exact Bi _ | exact Bk _ _ | exact Bs _ | rfl | (simp; omega))) | fail) ?_ | fail)
      | refine r_q hG Y Y Y ?_))
    | (show AL _ _ _ _ _ _ _ _; first | refine Bj Y Y Y ?_ | (refine Ar ?_; first | show AW _ _ _ _ _ _ | show ∃ x', _ < _ ∧ _)) | (show AW _ _ (.seq _ _) _ _ _; refine Ah ?_; intro Q1) | (show AW _ _ (.region _ _ false) _ _ _; refine Ad ?_; intro O1) | (show AW _ _ (.cond _ _ _) _ _ _; first | refine Ao Y ?_ | refine Ap Y ?_ | refine Bf Y (fun h => ?_) (fun h => ?_)) | (show AW _ _ (.skip) _ _ _; refine Aj ?_; first | show AW _ _ _ _ _ _ | show ∃ x', _ < _ ∧ _) | (show AW _ _ (.block _ _) _ _ _; refine Af ?_; intro Q1) | (show AW _ _ (.exit _) _ _ _; refine As ?_; first | show AW _ _ _ _ _ _ | show ∃ x', _ < _ ∧ _) | (show AW _ _ (.ret) _ _ _; refine Av ?_; try dsimp only [A3, Ac, A7, Ag]) | fail)
      try dsimp (config := { zetaDelta := true }) only [A3, Ac, A7]
      exact ret_onL (Bq rfl Bo) (.refl _) (.refl _) (.int e) rfl ⟨rfl, rfl⟩
  · rw [List.drop_eq_nil_of_le (by omega)] at e
    repeat' (first
    | ((show AL _ _ _ _ _ _ _ _; refine Ae Y ?_); (first
      | refine Aq hG Y Y ?_
      | refine A5 hG Y Y ?_
      | (show AOp _ _ ⟨_, .call ⟨.builtin .len, _, _⟩, _, _, _, _⟩ _ _ _; first | refine Br hG Y Y Y Y ?_ | refine Bx hG Y Y Y Y Y ?_)
      | (show AOp _ _ ⟨_, .binOp .add _ _ _ _, _, _, _, _⟩ _ _ _; first | refine Ab hG Y Y Y Y Y (by omega) ?_ | refine Ab (m := 1) hG Y Y Y Y Y (by omega) ?_ | refine Aa hG Y Y Y Y Y (by omega) ?_)
      | (show AOp _ _ ⟨_, .binOp _ _ _ _ _, _, _, _, _⟩ _ _ _; first | refine Au hG Y Y Y Y Y (by omega) ?_ | refine At hG Y Y Y Y Y (by omega) ?_ | (refine Am hG Y Y Y Y Y (fun h => ?_) (fun h => ?_)) | refine Bv hG Y Y Y Y ?_)
      | (show AOp _ _ ⟨_, .load _ _, _, _, _, _⟩ _ _ _; first | refine A2 0 sbT hG Y Y Y Y Y (by omega) Y ?_ | refine A1 0 sbT hG Y Y Y Y Y (by omega) Y ?_ | refine A2 1 sbT hG Y Y Y Y Y (by omega) Y ?_ | refine A1 1 sbT hG Y Y Y Y Y (by omega) Y ?_ | refine A2 2 sbT hG Y Y Y Y Y (by omega) Y ?_ | refine A1 2 sbT hG Y Y Y Y Y (by omega) Y ?_ | refine A2 3 sbT hG Y Y Y Y Y (by omega) Y ?_ | refine A1 3 sbT hG Y Y Y Y Y (by omega) Y ?_ | refine Ak (α := UInt16) 0 hG Y Y Y Y (by omega) Y ?_ | refine Ak (α := UInt16) 1 hG Y Y Y Y (by omega) Y ?_ | refine Ay hG Y Y Y ?_ | refine A8 0 hG Y Y Y Y ?_)
      | (show AOp _ _ ⟨_, .indexAddr _ _ _, _, _, _, _⟩ _ _ _; first | refine Bw (sz := 4) hG Y Y Y Y Y Y Y (by omega) ?_ | refine A4 hG Y Y Y Y Y Y Y (by omega) ?_ | refine Az hG Y Y Y Y Y Y Y (by omega) ?_ | refine Ax hG Y Y Y Y Y Y Y (by omega) ?_ | refine Bb hG Y Y ?_)
      | refine r_q hG Y Y Y ?_))
    | (show AL _ _ _ _ _ _ _ _; first | refine Bj Y Y Y ?_ | (refine Ar ?_; first | show AW _ _ _ _ _ _ | show ∃ x', _ < _ ∧ _)) | (show AW _ _ (.seq _ _) _ _ _; refine Ah ?_; intro Q1) | (show AW _ _ (.region _ _ false) _ _ _; refine Ad ?_; intro O1) | (show AW _ _ (.cond _ _ _) _ _ _; first | refine Ao Y ?_ | refine Ap Y ?_ | refine Bf Y (fun h => ?_) (fun h => ?_)) | (show AW _ _ (.skip) _ _ _; refine Aj ?_; first | show AW _ _ _ _ _ _ | show ∃ x', _ < _ ∧ _) | (show AW _ _ (.block _ _) _ _ _; refine Af ?_; intro Q1) | (show AW _ _ (.exit _) _ _ _; refine As ?_; first | show AW _ _ _ _ _ _ | show ∃ x', _ < _ ∧ _) | (show AW _ _ (.ret) _ _ _; refine Av ?_; try dsimp only [A3, Ac, A7, Ag]) | fail)
    exact ret_onL (Bq rfl Bo) (.refl _) (.refl _) (.int e) rfl ⟨rfl, rfl⟩
end Go.Proofs.Ythfgocinlbogeaa
