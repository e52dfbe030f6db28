/- Part of the proof of the law ArenaAll: the texts UD, UE, UF, UG, UH, UL, TsN, TsO, TsQ, AA, S2, S3, RA, AK, AB, AC. No conditions. -/
import Derived.Test.YthfgocinlbogeaaArenaAllC
import Derived.Sort.LotC
import Derived.Sort.LotA
import Derived.Sort.Walk13a
import Derived.Sort.AssemblyPlain
import Derived.Deep.LoopGhost
set_option linter.unusedSimpArgs false
set_option linter.unusedVariables false
set_option maxHeartbeats 4000000
namespace Go.Proofs.Ythfgocinlbogeaa
open Go.Ts
set_option linter.unusedSimpArgs false
set_option linter.unusedVariables false
attribute [local irreducible] Go.Ts.AW Go.Ts.AOps Go.Ts.AL Go.Ts.AOp Go.Ts.ACalls Go.Ts.DL Go.Ts.DQ0 Go.Ts.EL
open Go.Sort in
structure SiX (hi first lo n : Nat) (d0 : Array Nat) where
  r : Nat
  d : Array Nat
  hn : d.size = n
  hb : r ≤ 4294967296
  hr : siftDown ltQ hi first r d = siftDown ltQ hi first lo d0
open Go.Sort in
theorem srt_sift {d0 : Array Nat} {lo hi first : Nat} (hab : first + hi ≤ d0.size) (hs : d0.size ≤ 4294967296) (hlo : lo ≤ 4294967296) : OnRow Try.prog 119 mT [.int .i64 (lo : Int), .int .i64 (hi : Int), .int .i64 (first : Int)] d0 (.tup []) (siftDown ltQ hi first lo d0) := by
  intro off i n cap hn
  refine Af (N := 76) (rs := []) hG Try.func119 rfl rfl rfl rfl rfl ?_
  repeat' (first | (show AL _ _ _ _ _ _ _ _; first | refine so4 ?_) | (show DL _ _ _ _ _ _ _; first | refine do4 ?_) | (show AW _ _ _ _ _ _; first | (show AW _ _ (.region _ _ _) _ _ _; refine sc0 ?_; intro O1) | (refine sc1 ?_; try intro Q1)) | (show (_ → _) ∧ _; refine ⟨fun h => ?_, fun h => ?_⟩) | fail)
  refine A5 (X := SiX hi first lo n d0) (fun x => [(0, .aref 1 i 0 n cap), (1, .int .i64 (lo : Int)), (2, .int .i64 (hi : Int)), (3, .int .i64 (first : Int)), (8, .int .i64 (x.r : Int))]) (fun x => ⟨[(i, .cells (rowT mT x.d))], [], off, none⟩) (fun x => hi - x.r) ⟨lo, d0, hn, hlo, rfl⟩ (by repeat (first | exact .nil _ | refine .cons rfl ?_)) (.refl _) ?_
  rintro ⟨r, d, hdn, hb, hr⟩
  dsimp only at hr ⊢
  by_cases h1 : 2 * r + 1 ≥ hi
  · have hd : siftDown ltQ hi first lo d0 = d := by rw [← hr, siftDown, dif_pos h1]
    repeat' (first | (show AL _ _ _ _ _ _ _ _; first | refine so4 ?_) | (show DL _ _ _ _ _ _ _; first | refine do4 ?_) | (show AW _ _ _ _ _ _; first | (show AW _ _ (.region _ _ _) _ _ _; refine sc0 ?_; intro O1) | (refine sc1 ?_; try intro Q1)) | (show (_ → _) ∧ _; refine ⟨fun h => ?_, fun h => ?_⟩) | fail)
    refine Be ?_
    dsimp (config := { zetaDelta := true }) only [A7, Am]
    rw [hd]
    refine ret_rowE 0 Ag ?_ (.refl _) ?_ <;> rfl
  · rw [siftDown, dif_neg h1] at hr
    repeat' (first | (show AL _ _ _ _ _ _ _ _; first | refine so4 ?_ | refine sp Y Y Y Y Y Y (by apply Au <;> exact sd) ?_) | (show DL _ _ _ _ _ _ _; first | refine do4 ?_ | refine dp Y Y Y Y Y Y Y (by apply Au <;> exact sd) ?_) | (show AW _ _ _ _ _ _; (fail_if_success show AW _ _ (.region 6 _ _) _ _ _); first | (show AW _ _ (.region _ _ _) _ _ _; refine sc0 ?_; intro O1) | (refine sc1 ?_; try intro Q1)) | (show (_ → _) ∧ _; refine ⟨fun h => ?_, fun h => ?_⟩) | fail)
    · have hl : ltQ d[first + (2 * r + 1)]! d[first + (2 * r + 1) + 1]! = true := by assumption
      have h2 : (!ltQ d[first + r]! d[first + (2 * r + 2)]!) = true := h
      rw [if_pos (by simp [hl]; omega), if_pos h2] at hr
      dsimp (config := { zetaDelta := true }) only [A7, Am]
      rw [← hr]
      refine ret_row 0 Ag ?_ (.refl _) ?_ <;> rfl
    · have hl : ltQ d[first + (2 * r + 1)]! d[first + (2 * r + 1) + 1]! = true := by assumption
      have h2 : (!ltQ d[first + r]! d[first + (2 * r + 2)]!) = false := h
      rw [if_pos (by simp [hl]; omega), if_neg (by rw [h2]; simp), dif_pos (by omega)] at hr
      refine Bg (m := 22) [21] [13, 19] (fun σ => ∃ c : Array Nat, c.size = n ∧ σ = ⟨[(i, .cells (rowT mT c))], [], off, none⟩) mix Y Y (by repeat (first | exact Sp.zero _ | apply Sp.succ)) ?_; intro O1 F1 Z1 Q2; repeat' (first
    | (refine' dq0_cons Y Y Y Y (fun σ hσ K kk => ?_) ?_; (try (show Go.Ts.T; rotate_left)); (obtain ⟨c, hcn, hcs⟩ := hσ; subst hcs); (first
      | (show AOp _ _ ⟨_, .move _, _, _, _, _⟩ _ _ _; refine r_move hG Y Y ?_)
      | (show AOp _ _ ⟨_, .assign _, _, _, _, _⟩ _ _ _; refine r_asg hG Y Y ?_)
      | (show AOp _ _ ⟨_, .binOp .add _ _ _ _, _, _, _, _⟩ _ _ _; first | refine Ah hG Y Y Y Y Y (by omega) ?_ | refine Ah (m := 1) hG Y Y Y Y Y (by omega) ?_ | refine Ao hG Y Y Y Y Y (by omega) ?_)
      | (show AOp _ _ ⟨_, .binOp .mul _ _ _ _, _, _, _, _⟩ _ _ _; first | refine Ah hG Y Y Y Y Y (by omega) ?_ | refine Ah (m := 1) hG Y Y Y Y Y (by omega) ?_ | refine Ah (m := 2) hG Y Y Y Y Y (by omega) ?_ | refine Ah (m := 3) hG Y Y Y Y Y (by omega) ?_ | refine Ah (n := 2) hG Y Y Y Y Y (by omega) ?_ | refine Ao hG Y Y Y Y Y (by omega) ?_)
      | (show AOp _ _ ⟨_, .binOp _ _ _ _ _, _, _, _, _⟩ _ _ _; first | refine r_cmpT hG Y Y Y Y Y (by omega) ?_ | refine r_cmpF hG Y Y Y Y Y (by omega) ?_)
      | (show AOp _ _ ⟨_, .load _ _, _, _, _, _⟩ _ _ _; first | refine Ar (α := Nat) 0 hG Y Y Y Y (by omega) Y ?_ | refine Ar (α := Nat) 1 hG Y Y Y Y (by omega) Y ?_ | refine r_ldro hG Y Y Y ?_ | refine r_ld 0 hG Y Y Y Y ?_)
      | (show AOp _ _ ⟨_, .indexAddr _ _ _, _, _, _, _⟩ _ _ _; first | refine r_idxL hG Y Y Y Y Y Y Y (by omega) ?_ | refine r_idxn hG Y Y Y Y Y Y Y (by omega) ?_ | refine r_idxm hG Y Y Y Y Y Y Y (by omega) ?_ | refine r_idx hG Y Y ?_)
      | (show AOp _ _ ⟨_, .pick _ _ _, _, _, _, _⟩ _ _ _; refine r_pick hG Y Y Y ?_)
      | (show AOp _ _ ⟨_, .unOp _ _ _, _, _, _, _⟩ _ _ _; refine r_not hG Y Y Y ?_)
      | (show AOp _ _ ⟨_, .store _ _ _, _, _, _, _⟩ _ _ _; first | refine At (α := Nat) 0 hG Y Y Y Aj Aw Y Y (by first | omega | (simp only [Array.size_setIfInBounds]; omega)) ?_ | refine At (α := Nat) 1 hG Y Y Y Aj Aw Y Y (by first | omega | (simp only [Array.size_setIfInBounds]; omega)) ?_ | refine r_st 0 hG Y Y Y Y Y Y Y ?_)
      | refine r_q hG Y Y Y ?_); exact kk)
    | (refine' Bi Y Y Y Y (fun K kk => ?_) ?_; (try (show Go.Ts.T; rotate_left)); (first | refine Ar 0 hG Y Y Y Y (by omega) Y ?_ | refine Ar 1 hG Y Y Y Y (by omega) Y ?_); exact kk)
    | refine dq0_e Y ?_ | (refine dq0_nil ?_; show EL _ _ _ _ _ _ _ _ _)
    | (refine Ba ⟨_, (by first | assumption | (simp only [Array.size_setIfInBounds]; omega)), Y⟩ Y Y Y (fun K ke => ?_); (first | refine At (α := Nat) 0 hG Y Y Y Aj Aw Y Y (by first | omega | (simp only [Array.size_setIfInBounds]; omega)) ?_ | refine At (α := Nat) 1 hG Y Y Y Aj Aw Y Y (by first | omega | (simp only [Array.size_setIfInBounds]; omega)) ?_); refine ke (.tup []) _ ?_)
    | (refine el_nil ⟨_, (by first | assumption | (simp only [Array.size_setIfInBounds]; omega)), Y⟩ ?_; show AL _ _ _ _ _ _ _ _) | fail)
      repeat' (first | (show AL _ _ _ _ _ _ _ _; first | refine so4 ?_) | (show DL _ _ _ _ _ _ _; first | refine do4 ?_) | (show AW _ _ _ _ _ _; first | (show AW _ _ (.region _ _ _) _ _ _; refine sc0 ?_; intro O1) | (refine sc1 ?_; try intro Q1)) | (show (_ → _) ∧ _; refine ⟨fun h => ?_, fun h => ?_⟩) | fail)
      exact ⟨⟨2 * r + 2, swp d (first + r) (first + (2 * r + 2)), by rw [size_swp]; exact hdn, by omega, hr⟩, by dsimp only; omega, (by repeat (first | exact .nil _ | refine .cons rfl ?_)), .refl _⟩
    · have hl : ltQ d[first + (2 * r + 1)]! d[first + (2 * r + 1) + 1]! = false := by assumption
      rw [if_neg (by simp [hl]), if_pos h] at hr
      dsimp (config := { zetaDelta := true }) only [A7, Am]
      rw [← hr]
      refine ret_row 0 Ag ?_ (.refl _) ?_ <;> rfl
    · have hl : ltQ d[first + (2 * r + 1)]! d[first + (2 * r + 1) + 1]! = false := by assumption
      rw [if_neg (by simp [hl]), if_neg (by rw [h]; simp)] at hr
      refine Bg (m := 22) [21] [13, 19] (fun σ => ∃ c : Array Nat, c.size = n ∧ σ = ⟨[(i, .cells (rowT mT c))], [], off, none⟩) mix Y Y (by repeat (first | exact Sp.zero _ | apply Sp.succ)) ?_; intro O1 F1 Z1 Q2; repeat' (first
    | (refine' dq0_cons Y Y Y Y (fun σ hσ K kk => ?_) ?_; (try (show Go.Ts.T; rotate_left)); (obtain ⟨c, hcn, hcs⟩ := hσ; subst hcs); (first
      | (show AOp _ _ ⟨_, .move _, _, _, _, _⟩ _ _ _; refine r_move hG Y Y ?_)
      | (show AOp _ _ ⟨_, .assign _, _, _, _, _⟩ _ _ _; refine r_asg hG Y Y ?_)
      | (show AOp _ _ ⟨_, .binOp .add _ _ _ _, _, _, _, _⟩ _ _ _; first | refine Ah hG Y Y Y Y Y (by omega) ?_ | refine Ah (m := 1) hG Y Y Y Y Y (by omega) ?_ | refine Ao hG Y Y Y Y Y (by omega) ?_)
      | (show AOp _ _ ⟨_, .binOp .mul _ _ _ _, _, _, _, _⟩ _ _ _; first | refine Ah hG Y Y Y Y Y (by omega) ?_ | refine Ah (m := 1) hG Y Y Y Y Y (by omega) ?_ | refine Ah (m := 2) hG Y Y Y Y Y (by omega) ?_ | refine Ah (m := 3) hG Y Y Y Y Y (by omega) ?_ | refine Ah (n := 2) hG Y Y Y Y Y (by omega) ?_ | refine Ao hG Y Y Y Y Y (by omega) ?_)
      | (show AOp _ _ ⟨_, .binOp _ _ _ _ _, _, _, _, _⟩ _ _ _; first | refine r_cmpT hG Y Y Y Y Y (by omega) ?_ | refine r_cmpF hG Y Y Y Y Y (by omega) ?_)
      | (show AOp _ _ ⟨_, .load _ _, _, _, _, _⟩ _ _ _; first | refine Ar (α := Nat) 0 hG Y Y Y Y (by omega) Y ?_ | refine Ar (α := Nat) 1 hG Y Y Y Y (by omega) Y ?_ | refine r_ldro hG Y Y Y ?_ | refine r_ld 0 hG Y Y Y Y ?_)
      | (show AOp _ _ ⟨_, .indexAddr _ _ _, _, _, _, _⟩ _ _ _; first | refine r_idxL hG Y Y Y Y Y Y Y (by omega) ?_ | refine r_idxn hG Y Y Y Y Y Y Y (by omega) ?_ | refine r_idxm hG Y Y Y Y Y Y Y (by omega) ?_ | refine r_idx hG Y Y ?_)
      | (show AOp _ _ ⟨_, .pick _ _ _, _, _, _, _⟩ _ _ _; refine r_pick hG Y Y Y ?_)
      | (show AOp _ _ ⟨_, .unOp _ _ _, _, _, _, _⟩ _ _ _; refine r_not hG Y Y Y ?_)
      | (show AOp _ _ ⟨_, .store _ _ _, _, _, _, _⟩ _ _ _; first | refine At (α := Nat) 0 hG Y Y Y Aj Aw Y Y (by first | omega | (simp only [Array.size_setIfInBounds]; omega)) ?_ | refine At (α := Nat) 1 hG Y Y Y Aj Aw Y Y (by first | omega | (simp only [Array.size_setIfInBounds]; omega)) ?_ | refine r_st 0 hG Y Y Y Y Y Y Y ?_)
      | refine r_q hG Y Y Y ?_); exact kk)
    | (refine' Bi Y Y Y Y (fun K kk => ?_) ?_; (try (show Go.Ts.T; rotate_left)); (first | refine Ar 0 hG Y Y Y Y (by omega) Y ?_ | refine Ar 1 hG Y Y Y Y (by omega) Y ?_); exact kk)
    | refine dq0_e Y ?_ | (refine dq0_nil ?_; show EL _ _ _ _ _ _ _ _ _)
    | (refine Ba ⟨_, (by first | assumption | (simp only [Array.size_setIfInBounds]; omega)), Y⟩ Y Y Y (fun K ke => ?_); (first | refine At (α := Nat) 0 hG Y Y Y Aj Aw Y Y (by first | omega | (simp only [Array.size_setIfInBounds]; omega)) ?_ | refine At (α := Nat) 1 hG Y Y Y Aj Aw Y Y (by first | omega | (simp only [Array.size_setIfInBounds]; omega)) ?_); refine ke (.tup []) _ ?_)
    | (refine el_nil ⟨_, (by first | assumption | (simp only [Array.size_setIfInBounds]; omega)), Y⟩ ?_; show AL _ _ _ _ _ _ _ _) | fail)
      repeat' (first | (show AL _ _ _ _ _ _ _ _; first | refine so4 ?_) | (show DL _ _ _ _ _ _ _; first | refine do4 ?_) | (show AW _ _ _ _ _ _; first | (show AW _ _ (.region _ _ _) _ _ _; refine sc0 ?_; intro O1) | (refine sc1 ?_; try intro Q1)) | (show (_ → _) ∧ _; refine ⟨fun h => ?_, fun h => ?_⟩) | fail)
      exact ⟨⟨2 * r + 1, swp d (first + r) (first + (2 * r + 1)), by rw [size_swp]; exact hdn, by omega, hr⟩, by dsimp only; omega, (by repeat (first | exact .nil _ | refine .cons rfl ?_)), .refl _⟩
    · rw [if_neg (by simp; omega), if_pos h] at hr
      dsimp (config := { zetaDelta := true }) only [A7, Am]
      rw [← hr]
      refine ret_row 0 Ag ?_ (.refl _) ?_ <;> rfl
    · rw [if_neg (by simp; omega), if_neg (by rw [h]; simp)] at hr
      refine Bg (m := 22) [21] [13, 19] (fun σ => ∃ c : Array Nat, c.size = n ∧ σ = ⟨[(i, .cells (rowT mT c))], [], off, none⟩) mix Y Y (by repeat (first | exact Sp.zero _ | apply Sp.succ)) ?_; intro O1 F1 Z1 Q2; repeat' (first
    | (refine' dq0_cons Y Y Y Y (fun σ hσ K kk => ?_) ?_; (try (show Go.Ts.T; rotate_left)); (obtain ⟨c, hcn, hcs⟩ := hσ; subst hcs); (first
      | (show AOp _ _ ⟨_, .move _, _, _, _, _⟩ _ _ _; refine r_move hG Y Y ?_)
      | (show AOp _ _ ⟨_, .assign _, _, _, _, _⟩ _ _ _; refine r_asg hG Y Y ?_)
      | (show AOp _ _ ⟨_, .binOp .add _ _ _ _, _, _, _, _⟩ _ _ _; first | refine Ah hG Y Y Y Y Y (by omega) ?_ | refine Ah (m := 1) hG Y Y Y Y Y (by omega) ?_ | refine Ao hG Y Y Y Y Y (by omega) ?_)
      | (show AOp _ _ ⟨_, .binOp .mul _ _ _ _, _, _, _, _⟩ _ _ _; first | refine Ah hG Y Y Y Y Y (by omega) ?_ | refine Ah (m := 1) hG Y Y Y Y Y (by omega) ?_ | refine Ah (m := 2) hG Y Y Y Y Y (by omega) ?_ | refine Ah (m := 3) hG Y Y Y Y Y (by omega) ?_ | refine Ah (n := 2) hG Y Y Y Y Y (by omega) ?_ | refine Ao hG Y Y Y Y Y (by omega) ?_)
      | (show AOp _ _ ⟨_, .binOp _ _ _ _ _, _, _, _, _⟩ _ _ _; first | refine r_cmpT hG Y Y Y Y Y (by omega) ?_ | refine r_cmpF hG Y Y Y Y Y (by omega) ?_)
      | (show AOp _ _ ⟨_, .load _ _, _, _, _, _⟩ _ _ _; first | refine Ar (α := Nat) 0 hG Y Y Y Y (by omega) Y ?_ | refine Ar (α := Nat) 1 hG Y Y Y Y (by omega) Y ?_ | refine r_ldro hG Y Y Y ?_ | refine r_ld 0 hG Y Y Y Y ?_)
      | (show AOp _ _ ⟨_, .indexAddr _ _ _, _, _, _, _⟩ _ _ _; first | refine r_idxL hG Y Y Y Y Y Y Y (by omega) ?_ | refine r_idxn hG Y Y Y Y Y Y Y (by omega) ?_ | refine r_idxm hG Y Y Y Y Y Y Y (by omega) ?_ | refine r_idx hG Y Y ?_)
      | (show AOp _ _ ⟨_, .pick _ _ _, _, _, _, _⟩ _ _ _; refine r_pick hG Y Y Y ?_)
      | (show AOp _ _ ⟨_, .unOp _ _ _, _, _, _, _⟩ _ _ _; refine r_not hG Y Y Y ?_)
      | (show AOp _ _ ⟨_, .store _ _ _, _, _, _, _⟩ _ _ _; first | refine At (α := Nat) 0 hG Y Y Y Aj Aw Y Y (by first | omega | (simp only [Array.size_setIfInBounds]; omega)) ?_ | refine At (α := Nat) 1 hG Y Y Y Aj Aw Y Y (by first | omega | (simp only [Array.size_setIfInBounds]; omega)) ?_ | refine r_st 0 hG Y Y Y Y Y Y Y ?_)
      | refine r_q hG Y Y Y ?_); exact kk)
    | (refine' Bi Y Y Y Y (fun K kk => ?_) ?_; (try (show Go.Ts.T; rotate_left)); (first | refine Ar 0 hG Y Y Y Y (by omega) Y ?_ | refine Ar 1 hG Y Y Y Y (by omega) Y ?_); exact kk)
    | refine dq0_e Y ?_ | (refine dq0_nil ?_; show EL _ _ _ _ _ _ _ _ _)
    | (refine Ba ⟨_, (by first | assumption | (simp only [Array.size_setIfInBounds]; omega)), Y⟩ Y Y Y (fun K ke => ?_); (first | refine At (α := Nat) 0 hG Y Y Y Aj Aw Y Y (by first | omega | (simp only [Array.size_setIfInBounds]; omega)) ?_ | refine At (α := Nat) 1 hG Y Y Y Aj Aw Y Y (by first | omega | (simp only [Array.size_setIfInBounds]; omega)) ?_); refine ke (.tup []) _ ?_)
    | (refine el_nil ⟨_, (by first | assumption | (simp only [Array.size_setIfInBounds]; omega)), Y⟩ ?_; show AL _ _ _ _ _ _ _ _) | fail)
      repeat' (first | (show AL _ _ _ _ _ _ _ _; first | refine so4 ?_) | (show DL _ _ _ _ _ _ _; first | refine do4 ?_) | (show AW _ _ _ _ _ _; first | (show AW _ _ (.region _ _ _) _ _ _; refine sc0 ?_; intro O1) | (refine sc1 ?_; try intro Q1)) | (show (_ → _) ∧ _; refine ⟨fun h => ?_, fun h => ?_⟩) | fail)
      exact ⟨⟨2 * r + 1, swp d (first + r) (first + (2 * r + 1)), by rw [size_swp]; exact hdn, by omega, hr⟩, by dsimp only; omega, (by repeat (first | exact .nil _ | refine .cons rfl ?_)), .refl _⟩
open Go.Sort in
structure ReX (a b n : Nat) (d0 : Array Nat) where
  i : Nat
  j : Nat
  d : Array Nat
  hn : d.size = n
  hj : j < n
  hr : reverseLoop i j d = reverseRange d0 a b
open Go.Sort in
theorem srt_rev {d0 : Array Nat} {a b : Nat} (hab : a < b) (hb : b ≤ d0.size) (hs : d0.size ≤ 4294967296) : OnRow Try.prog 107 mT [.int .i64 (a : Int), .int .i64 (b : Int)] d0 (.tup []) (reverseRange d0 a b) := by
  intro off i n cap hn
  refine Af (N := 32) (rs := []) hG Try.func107 rfl rfl rfl rfl rfl ?_
  repeat' (first | (show AL _ _ _ _ _ _ _ _; first | refine so4 ?_) | (show DL _ _ _ _ _ _ _; first | refine do4 ?_) | (show AW _ _ _ _ _ _; first | (show AW _ _ (.region _ _ _) _ _ _; refine sc0 ?_; intro O1) | (refine sc1 ?_; try intro Q1)) | (show (_ → _) ∧ _; refine ⟨fun h => ?_, fun h => ?_⟩) | fail)
  refine A5 (X := ReX a b n d0) (fun x => [(0, .aref 1 i 0 n cap), (6, .int .i64 (x.i : Int)), (7, .int .i64 (x.j : Int))]) (fun x => ⟨[(i, .cells (rowT mT x.d))], [], off, none⟩) (fun x => x.j - x.i) ⟨a, b - 1, d0, hn, by omega, rfl⟩ (by repeat (first | exact .nil _ | refine .cons rfl ?_)) (.refl _) ?_
  rintro ⟨p, q, d, hdn, hj, hr⟩
  dsimp only at hr ⊢
  by_cases h1 : p < q
  · rw [reverseLoop, if_pos h1] at hr
    repeat' (first | (show AL _ _ _ _ _ _ _ _; first | refine so4 ?_) | (show DL _ _ _ _ _ _ _; first | refine do4 ?_) | (show AW _ _ _ _ _ _; (fail_if_success show AW _ _ (.region 3 _ _) _ _ _); first | (show AW _ _ (.region _ _ _) _ _ _; refine sc0 ?_; intro O1) | (refine sc1 ?_; try intro Q1)) | (show (_ → _) ∧ _; refine ⟨fun h => ?_, fun h => ?_⟩) | fail)
    refine Bg (m := 14) [13] [7, 11] (fun σ => ∃ c : Array Nat, c.size = n ∧ σ = ⟨[(i, .cells (rowT mT c))], [], off, none⟩) mix Y Y (by repeat (first | exact Sp.zero _ | apply Sp.succ)) ?_; intro O1 F1 Z1 Q2; repeat' (first
    | (refine' dq0_cons Y Y Y Y (fun σ hσ K kk => ?_) ?_; (try (show Go.Ts.T; rotate_left)); (obtain ⟨c, hcn, hcs⟩ := hσ; subst hcs); (first
      | (show AOp _ _ ⟨_, .move _, _, _, _, _⟩ _ _ _; refine r_move hG Y Y ?_)
      | (show AOp _ _ ⟨_, .assign _, _, _, _, _⟩ _ _ _; refine r_asg hG Y Y ?_)
      | (show AOp _ _ ⟨_, .binOp .add _ _ _ _, _, _, _, _⟩ _ _ _; first | refine Ah hG Y Y Y Y Y (by omega) ?_ | refine Ah (m := 1) hG Y Y Y Y Y (by omega) ?_ | refine Ao hG Y Y Y Y Y (by omega) ?_)
      | (show AOp _ _ ⟨_, .binOp .sub _ _ _ _, _, _, _, _⟩ _ _ _; first | refine A8 hG Y Y Y Y (by omega) ?_ | refine A8 (m := 1) hG Y Y Y Y (by omega) ?_ | refine r_subU (m := 1) hG Y Y Y Y (by omega) ?_ | refine Ao hG Y Y Y Y Y (by omega) ?_)
      | (show AOp _ _ ⟨_, .binOp _ _ _ _ _, _, _, _, _⟩ _ _ _; first | refine r_cmpT hG Y Y Y Y Y (by omega) ?_ | refine r_cmpF hG Y Y Y Y Y (by omega) ?_)
      | (show AOp _ _ ⟨_, .load _ _, _, _, _, _⟩ _ _ _; first | refine Ar (α := Nat) 0 hG Y Y Y Y (by omega) Y ?_ | refine Ar (α := Nat) 1 hG Y Y Y Y (by omega) Y ?_ | refine r_ldro hG Y Y Y ?_ | refine r_ld 0 hG Y Y Y Y ?_)
      | (show AOp _ _ ⟨_, .indexAddr _ _ _, _, _, _, _⟩ _ _ _; first | refine r_idxL hG Y Y Y Y Y Y Y (by omega) ?_ | refine r_idxn hG Y Y Y Y Y Y Y (by omega) ?_ | refine r_idxm hG Y Y Y Y Y Y Y (by omega) ?_ | refine r_idx hG Y Y ?_)
      | (show AOp _ _ ⟨_, .store _ _ _, _, _, _, _⟩ _ _ _; first | refine At (α := Nat) 0 hG Y Y Y Aj Aw Y Y (by first | omega | (simp only [Array.size_setIfInBounds]; omega)) ?_ | refine At (α := Nat) 1 hG Y Y Y Aj Aw Y Y (by first | omega | (simp only [Array.size_setIfInBounds]; omega)) ?_ | refine r_st 0 hG Y Y Y Y Y Y Y ?_)
      | refine r_q hG Y Y Y ?_); exact kk)
    | (refine' Bi Y Y Y Y (fun K kk => ?_) ?_; (try (show Go.Ts.T; rotate_left)); (first | refine Ar 0 hG Y Y Y Y (by omega) Y ?_ | refine Ar 1 hG Y Y Y Y (by omega) Y ?_); exact kk)
    | refine dq0_e Y ?_ | (refine dq0_nil ?_; show EL _ _ _ _ _ _ _ _ _)
    | (refine Ba ⟨_, (by first | assumption | (simp only [Array.size_setIfInBounds]; omega)), Y⟩ Y Y Y (fun K ke => ?_); (first | refine At (α := Nat) 0 hG Y Y Y Aj Aw Y Y (by first | omega | (simp only [Array.size_setIfInBounds]; omega)) ?_ | refine At (α := Nat) 1 hG Y Y Y Aj Aw Y Y (by first | omega | (simp only [Array.size_setIfInBounds]; omega)) ?_); refine ke (.tup []) _ ?_)
    | (refine el_nil ⟨_, (by first | assumption | (simp only [Array.size_setIfInBounds]; omega)), Y⟩ ?_; show AL _ _ _ _ _ _ _ _) | fail)
    repeat' (first | (show AL _ _ _ _ _ _ _ _; first | refine so4 ?_) | (show DL _ _ _ _ _ _ _; first | refine do4 ?_) | (show AW _ _ _ _ _ _; first | (show AW _ _ (.region _ _ _) _ _ _; refine sc0 ?_; intro O1) | (refine sc1 ?_; try intro Q1)) | (show (_ → _) ∧ _; refine ⟨fun h => ?_, fun h => ?_⟩) | fail)
    exact ⟨⟨p + 1, q - 1, swp d p q, by rw [size_swp]; exact hdn, by omega, hr⟩, by dsimp only; omega, (by repeat (first | exact .nil _ | refine .cons rfl ?_)), .refl _⟩
  · have hd : reverseRange d0 a b = d := by rw [← hr, reverseLoop, if_neg h1]
    repeat' (first | (show AL _ _ _ _ _ _ _ _; first | refine so4 ?_) | (show DL _ _ _ _ _ _ _; first | refine do4 ?_) | (show AW _ _ _ _ _ _; first | (show AW _ _ (.region _ _ _) _ _ _; refine sc0 ?_; intro O1) | (refine sc1 ?_; try intro Q1)) | (show (_ → _) ∧ _; refine ⟨fun h => ?_, fun h => ?_⟩) | fail)
    refine Be ?_
    dsimp (config := { zetaDelta := true }) only [A7, Am]
    rw [hd]
    refine ret_rowE 0 Ag ?_ (.refl _) ?_ <;> rfl
end Go.Proofs.Ythfgocinlbogeaa
set_option maxHeartbeats 4000000
namespace Go.Proofs.Ythfgocinlbogeaa
open Go.Ts
set_option linter.unusedSimpArgs false
set_option linter.unusedVariables false
attribute [local irreducible] Go.Ts.AW Go.Ts.AOps Go.Ts.AL Go.Ts.AOp Go.Ts.ACalls Go.Ts.DL Go.Ts.DQ0 Go.Ts.EL
open Go.Sort in
structure HbX (hi a n : Nat) (d0 : Array Nat) where
  k : Nat
  z : Int
  hz : z = (k : Int) - 1
  hk : k ≤ 4294967296
  d : Array Nat
  hn : d.size = n
  hr : heapBuild ltQ hi a k d = heapBuild ltQ hi a ((hi - 1) / 2 + 1) d0
open Go.Sort in
structure HpX (hi a n : Nat) (d0 : Array Nat) where
  k : Nat
  z : Int
  hz : z = (k : Int) - 1
  hk : k ≤ hi
  d : Array Nat
  hn : d.size = n
  hr : heapPop ltQ a k d = heapPop ltQ a hi d0
open Go.Sort in
theorem sift_size (lt : Nat → Nat → Bool) (hi first : Nat) : ∀ (m root : Nat) (d : Array Nat), hi - root ≤ m → (siftDown lt hi first root d).size = d.size := by
  intro m
  induction m with
  | zero => intro root d h; rw [siftDown, dif_pos (by omega)]
  | succ m ih =>
    intro root d h
    rw [siftDown]
    split
    · rfl
    · split
      · split
        · rfl
        · split
          · rw [ih _ _ (by omega), size_swp]
          · rfl
      · split
        · rfl
        · rw [ih _ _ (by omega), size_swp]
open Go.Sort in
theorem srt_heap {d0 : Array Nat} {a b : Nat} (hab : a < b) (hb : b ≤ d0.size) (hs : d0.size ≤ 4294967296) : OnRow Try.prog 104 mT [.int .i64 (a : Int), .int .i64 (b : Int)] d0 (.tup []) (heapSort ltQ d0 a b) := by
  intro off i n cap hn
  refine Af (N := 56) (rs := []) hG Try.func104 rfl rfl rfl rfl rfl ?_
  have hh : heapSort ltQ d0 a b = heapPop ltQ a (b - a) (heapBuild ltQ (b - a) a ((b - a - 1) / 2 + 1) d0) := rfl
  rw [hh]
  obtain ⟨hi, hhi⟩ : ∃ hi, hi = b - a := ⟨_, rfl⟩
  rw [← hhi]
  repeat' (first | (show AL _ _ _ _ _ _ _ _; first | refine so4 ?_) | (show DL _ _ _ _ _ _ _; first | refine do4 ?_) | (show AW _ _ _ _ _ _; first | (show AW _ _ (.region _ _ _) _ _ _; refine sc0 ?_; intro O1) | (refine sc1 ?_; try intro Q1)) | (show (_ → _) ∧ _; refine ⟨fun h => ?_, fun h => ?_⟩) | fail)
  rw [← hhi]
  refine A5 (X := HbX hi a n d0) (fun x => [(0, .aref 1 i 0 n cap), (6, .int .i64 (a : Int)), (7, .int .i64 0), (8, .int .i64 (hi : Int)), (9, .int .i64 x.z)]) (fun x => ⟨[(i, .cells (rowT mT x.d))], [], off, none⟩) (fun x => x.k) ⟨(hi - 1) / 2 + 1, (((hi - 1) / 2 : Nat) : Int), by omega, by omega, d0, hn, rfl⟩ (by repeat (first | exact .nil _ | refine .cons rfl ?_)) (.refl _) ?_
  rintro ⟨k, z, hz, hk, d, hdn, hr⟩
  dsimp only at hr ⊢
  cases k with
  | succ m =>
    obtain rfl : z = (m : Int) := by omega
    rw [heapBuild] at hr
    have hc := srt_sift (d0 := d) (lo := m) (hi := hi) (first := a) (by omega) (by omega) (by omega)
    repeat' (first | (show AL _ _ _ _ _ _ _ _; first | refine so4 ?_ | (refine Ac Y (r_row Y Y Y Y Y (List.Perm.refl _) hc (by assumption) ?_))) | (show DL _ _ _ _ _ _ _; first | refine do4 ?_) | (show AW _ _ _ _ _ _; first | (show AW _ _ (.region _ _ _) _ _ _; refine sc0 ?_; intro O1) | (refine sc1 ?_; try intro Q1)) | (show (_ → _) ∧ _; refine ⟨fun h => ?_, fun h => ?_⟩) | fail)
    exact ⟨⟨m, (m : Int) - 1, by omega, by omega, siftDown ltQ hi a m d, by rw [sift_size _ _ _ _ _ _ (Nat.le_refl _)]; exact hdn, hr⟩, by dsimp only; omega, (by repeat (first | exact .nil _ | refine .cons rfl ?_)), .refl _⟩
  | zero =>
    rw [heapBuild] at hr
    obtain rfl : z = -1 := by omega
    repeat' (first | (show AL _ _ _ _ _ _ _ _; first | refine so4 ?_) | (show DL _ _ _ _ _ _ _; first | refine do4 ?_) | (show AW _ _ _ _ _ _; first | (show AW _ _ (.region _ _ _) _ _ _; refine sc0 ?_; intro O1) | (refine sc1 ?_; try intro Q1)) | (show (_ → _) ∧ _; refine ⟨fun h => ?_, fun h => ?_⟩) | fail)
    refine A5 (X := HpX hi a n d) (fun x => [(0, .aref 1 i 0 n cap), (6, .int .i64 (a : Int)), (7, .int .i64 0), (8, .int .i64 (hi : Int)), (10, .int .i64 x.z)]) (fun x => ⟨[(i, .cells (rowT mT x.d))], [], off, none⟩) (fun x => x.k) ⟨hi, ((hi - 1 : Nat) : Int), by omega, by omega, d, hdn, rfl⟩ (by repeat (first | exact .nil _ | refine .cons rfl ?_)) (.refl _) ?_
    rintro ⟨k, z, hz, hk, e, hen, hre⟩
    dsimp only at hre ⊢
    cases k with
    | succ m =>
      obtain rfl : z = (m : Int) := by omega
      rw [heapPop] at hre
      have hc := srt_sift (d0 := swp e a (a + m)) (lo := 0) (hi := m) (first := a) (by rw [size_swp]; omega) (by rw [size_swp]; omega) (by omega)
      repeat' (first | (show AL _ _ _ _ _ _ _ _; first | refine so4 ?_) | (show DL _ _ _ _ _ _ _; first | refine do4 ?_) | (show AW _ _ _ _ _ _; (fail_if_success show AW _ _ (.region 10 _ _) _ _ _); first | (show AW _ _ (.region _ _ _) _ _ _; refine sc0 ?_; intro O1) | (refine sc1 ?_; try intro Q1)) | (show (_ → _) ∧ _; refine ⟨fun h => ?_, fun h => ?_⟩) | fail)
      refine Bg (m := 18) [17] [11, 15] (fun σ => ∃ c : Array Nat, c.size = n ∧ σ = ⟨[(i, .cells (rowT mT c))], [], off, none⟩) mix Y Y (by repeat (first | exact Sp.zero _ | apply Sp.succ)) ?_; intro O1 F1 Z1 Q2; repeat' (first
    | (refine' dq0_cons Y Y Y Y (fun σ hσ K kk => ?_) ?_; (try (show Go.Ts.T; rotate_left)); (obtain ⟨c, hcn, hcs⟩ := hσ; subst hcs); (first
      | (show AOp _ _ ⟨_, .move _, _, _, _, _⟩ _ _ _; refine r_move hG Y Y ?_)
      | (show AOp _ _ ⟨_, .assign _, _, _, _, _⟩ _ _ _; refine r_asg hG Y Y ?_)
      | (show AOp _ _ ⟨_, .binOp .add _ _ _ _, _, _, _, _⟩ _ _ _; first | refine Ah hG Y Y Y Y Y (by omega) ?_ | refine Ah (m := 1) hG Y Y Y Y Y (by omega) ?_ | refine Ao hG Y Y Y Y Y (by omega) ?_)
      | (show AOp _ _ ⟨_, .binOp .sub _ _ _ _, _, _, _, _⟩ _ _ _; first | refine A8 hG Y Y Y Y (by omega) ?_ | refine A8 (m := 1) hG Y Y Y Y (by omega) ?_ | refine r_subU (m := 1) hG Y Y Y Y (by omega) ?_ | refine Ao hG Y Y Y Y Y (by omega) ?_)
      | (show AOp _ _ ⟨_, .binOp .quo _ _ _ _, _, _, _, _⟩ _ _ _; first | refine A2 (m := 2) hG Y Y Y Y (by omega) ?_ | refine A2 (m := 4) hG Y Y Y Y (by omega) ?_ | refine A2 (m := 8) hG Y Y Y Y (by omega) ?_)
      | (show AOp _ _ ⟨_, .binOp _ _ _ _ _, _, _, _, _⟩ _ _ _; first | refine r_cmpT hG Y Y Y Y Y (by omega) ?_ | refine r_cmpF hG Y Y Y Y Y (by omega) ?_ | refine r_bin' hG Y Y Y ?_)
      | (show AOp _ _ ⟨_, .load _ _, _, _, _, _⟩ _ _ _; first | refine Ar (α := Nat) 0 hG Y Y Y Y (by omega) Y ?_ | refine Ar (α := Nat) 1 hG Y Y Y Y (by omega) Y ?_ | refine r_ldro hG Y Y Y ?_ | refine r_ld 0 hG Y Y Y Y ?_)
      | (show AOp _ _ ⟨_, .indexAddr _ _ _, _, _, _, _⟩ _ _ _; first | refine r_idxL hG Y Y Y Y Y Y Y (by omega) ?_ | refine r_idxn hG Y Y Y Y Y Y Y (by omega) ?_ | refine r_idxm hG Y Y Y Y Y Y Y (by omega) ?_ | refine r_idx hG Y Y ?_)
      | (show AOp _ _ ⟨_, .store _ _ _, _, _, _, _⟩ _ _ _; first | refine At (α := Nat) 0 hG Y Y Y Aj Aw Y Y (by first | omega | (simp only [Array.size_setIfInBounds]; omega)) ?_ | refine At (α := Nat) 1 hG Y Y Y Aj Aw Y Y (by first | omega | (simp only [Array.size_setIfInBounds]; omega)) ?_ | refine r_st 0 hG Y Y Y Y Y Y Y ?_)
      | refine r_q hG Y Y Y ?_); exact kk)
    | (refine' Bi Y Y Y Y (fun K kk => ?_) ?_; (try (show Go.Ts.T; rotate_left)); (first | refine Ar 0 hG Y Y Y Y (by omega) Y ?_ | refine Ar 1 hG Y Y Y Y (by omega) Y ?_); exact kk)
    | refine dq0_e Y ?_ | (refine dq0_nil ?_; show EL _ _ _ _ _ _ _ _ _)
    | (refine Ba ⟨_, (by first | assumption | (simp only [Array.size_setIfInBounds]; omega)), Y⟩ Y Y Y (fun K ke => ?_); (first | refine At (α := Nat) 0 hG Y Y Y Aj Aw Y Y (by first | omega | (simp only [Array.size_setIfInBounds]; omega)) ?_ | refine At (α := Nat) 1 hG Y Y Y Aj Aw Y Y (by first | omega | (simp only [Array.size_setIfInBounds]; omega)) ?_); refine ke (.tup []) _ ?_)
    | (refine el_nil ⟨_, (by first | assumption | (simp only [Array.size_setIfInBounds]; omega)), Y⟩ ?_; show AL _ _ _ _ _ _ _ _) | fail)
      have hsn : (swp e a (a + m)).size = n := by rw [size_swp]; exact hen
      repeat' (first | (show AL _ _ _ _ _ _ _ _; first | refine so4 ?_ | (refine Ac Y (r_row Y Y Y Y Y (List.Perm.refl _) hc (by assumption) ?_))) | (show DL _ _ _ _ _ _ _; first | refine do4 ?_) | (show AW _ _ _ _ _ _; first | (show AW _ _ (.region _ _ _) _ _ _; refine sc0 ?_; intro O1) | (refine sc1 ?_; try intro Q1)) | (show (_ → _) ∧ _; refine ⟨fun h => ?_, fun h => ?_⟩) | fail)
      exact ⟨⟨m, (m : Int) - 1, by omega, by omega, siftDown ltQ m a 0 (swp e a (a + m)), by rw [sift_size _ _ _ _ _ _ (Nat.le_refl _)]; exact hsn, hre⟩, by dsimp only; omega, (by repeat (first | exact .nil _ | refine .cons rfl ?_)), .refl _⟩
    | zero =>
      rw [heapPop] at hre
      obtain rfl : z = -1 := by omega
      repeat' (first | (show AL _ _ _ _ _ _ _ _; first | refine so4 ?_) | (show DL _ _ _ _ _ _ _; first | refine do4 ?_) | (show AW _ _ _ _ _ _; first | (show AW _ _ (.region _ _ _) _ _ _; refine sc0 ?_; intro O1) | (refine sc1 ?_; try intro Q1)) | (show (_ → _) ∧ _; refine ⟨fun h => ?_, fun h => ?_⟩) | fail)
      refine Be ?_
      dsimp (config := { zetaDelta := true }) only [A7, Am]
      rw [← hr, ← hre]
      refine ret_rowE 0 Ag ?_ (.refl _) ?_ <;> rfl
end Go.Proofs.Ythfgocinlbogeaa
set_option maxHeartbeats 4000000
namespace Go.Ts
section
variable {P : Program} {N : Nat} {σ : St} {a : Env} {Q : Exit → Env → St → Prop}
theorem aw_loop_to (id : Nat) {c : Code} {X : Type} (E : X → Env) (S : X → St) (m : X → Nat) (x : X) (h0 : Knows a (E x)) (hs : GStep σ (S x)) (a1 : Env) (σ1 : St)
    (round : ∀ x, AW P N c (A7 (fun a' σ' => ∃ x', m x' < m x ∧ Knows a' (E x') ∧ GStep σ' (S x')) (fun e a' σ' => e = .exit id ∧ Knows a' a1 ∧ σ' = σ1)) (E x) (S x))
    (rest : ∀ a', Knows a' a1 → Q (.exit id) a' σ1) : AW P N (.loop c) Q a σ := by
  refine (A5 (Q := fun e a' σ' => e = .exit id ∧ Knows a' a1 ∧ σ' = σ1) E S m x h0 hs round).mono ?_
  rintro e a' σ' ⟨rfl, hk, rfl⟩
  exact rest a' hk
end
end Go.Ts
namespace Go.Proofs.Ythfgocinlbogeaa
open Go.Ts
set_option linter.unusedSimpArgs false
set_option linter.unusedVariables false
attribute [local irreducible] Go.Ts.AW Go.Ts.AOps Go.Ts.AL Go.Ts.AOp Go.Ts.ACalls Go.Ts.DL Go.Ts.DQ0 Go.Ts.EL
open Go.Sort
structure UpX (P : Nat → Bool) (d : Array Nat) (J I lo n : Nat) where
  p : Nat
  hp : lo ≤ p ∧ p ≤ n
  hr : scanUp P d J p = I
structure DnX (P : Nat → Bool) (d : Array Nat) (I J' hi : Nat) where
  p : Nat
  hp : p ≤ hi
  hr : scanDown P d I p = J'
structure PlX (a b n : Nat) (R : Nat × Array Nat) where
  i : Nat
  j : Nat
  d : Array Nat
  hn : d.size = n
  hij : a < i ∧ i ≤ n ∧ j < b
  hr : partLoop ltQ a i j d = R
theorem up_le (P : Nat → Bool) (d : Array Nat) (J n : Nat) (hJ : J < n) : ∀ m i, J + 1 - i ≤ m → i ≤ n → scanUp P d J i ≤ n := by
  intro m
  induction m with
  | zero =>
    intro i h1 h2
    rw [scanUp, if_neg (by simp; omega)]; exact h2
  | succ m ih =>
    intro i h1 h2
    rw [scanUp]
    split
    · rename_i h; simp at h; exact ih _ (by omega) (by omega)
    · exact h2
theorem srt_part {d0 : Array Nat} {a b pv : Nat} (hab : a ≤ pv) (hpb : pv < b) (hb : b ≤ d0.size) (hs : d0.size ≤ 4294967296) : OnRow Try.prog 111 mT [.int .i64 (a : Int), .int .i64 (b : Int), .int .i64 (pv : Int)] d0
    (.tup [.int .i64 ((partition ltQ d0 a b pv).1 : Int), .bool (partition ltQ d0 a b pv).2.1]) (partition ltQ d0 a b pv).2.2 := by
  intro off i n cap hn
  refine Af (N := 168) (rs := [.tmp 8, .tmp 9]) hG Try.func111 rfl rfl rfl rfl rfl ?_
  repeat' (first | (show AL _ _ _ _ _ _ _ _; first | refine so4 ?_) | (show DL _ _ _ _ _ _ _; first | refine do4 ?_) | (show AW _ _ _ _ _ _; (fail_if_success show AW _ _ (.region 1 _ _) _ _ _); first | (show AW _ _ (.region _ _ _) _ _ _; refine sc0 ?_; intro O1) | (refine sc1 ?_; try intro Q1)) | (show (_ → _) ∧ _; refine ⟨fun h => ?_, fun h => ?_⟩) | fail)
  refine Bg (m := 14) [13] [7, 11] (fun σ => ∃ c : Array Nat, c.size = n ∧ σ = ⟨[(i, .cells (rowT mT c))], [], off, none⟩) mix Y Y (by repeat (first | exact Sp.zero _ | apply Sp.succ)) ?_; intro O1 F1 Z1 Q2; repeat' (first
    | (refine' dq0_cons Y Y Y Y (fun σ hσ K kk => ?_) ?_; (try (show Go.Ts.T; rotate_left)); (obtain ⟨c, hcn, hcs⟩ := hσ; subst hcs); (first
      | (show AOp _ _ ⟨_, .move _, _, _, _, _⟩ _ _ _; refine r_move hG Y Y ?_)
      | (show AOp _ _ ⟨_, .assign _, _, _, _, _⟩ _ _ _; refine r_asg hG Y Y ?_)
      | (show AOp _ _ ⟨_, .binOp .add _ _ _ _, _, _, _, _⟩ _ _ _; first | refine Ah hG Y Y Y Y Y (by omega) ?_ | refine Ah (m := 1) hG Y Y Y Y Y (by omega) ?_ | refine Ao hG Y Y Y Y Y (by omega) ?_)
      | (show AOp _ _ ⟨_, .binOp .sub _ _ _ _, _, _, _, _⟩ _ _ _; first | refine A8 hG Y Y Y Y (by omega) ?_ | refine A8 (m := 1) hG Y Y Y Y (by omega) ?_ | refine r_subU (m := 1) hG Y Y Y Y (by omega) ?_ | refine Ao hG Y Y Y Y Y (by omega) ?_)
      | (show AOp _ _ ⟨_, .binOp _ _ _ _ _, _, _, _, _⟩ _ _ _; first | refine r_cmpT hG Y Y Y Y Y (by omega) ?_ | refine r_cmpF hG Y Y Y Y Y (by omega) ?_)
      | (show AOp _ _ ⟨_, .load _ _, _, _, _, _⟩ _ _ _; first | refine Ar (α := Nat) 0 hG Y Y Y Y (by omega) Y ?_ | refine Ar (α := Nat) 1 hG Y Y Y Y (by omega) Y ?_ | refine r_ldro hG Y Y Y ?_ | refine r_ld 0 hG Y Y Y Y ?_)
      | (show AOp _ _ ⟨_, .indexAddr _ _ _, _, _, _, _⟩ _ _ _; first | refine r_idxL hG Y Y Y Y Y Y Y (by omega) ?_ | refine r_idxn hG Y Y Y Y Y Y Y (by omega) ?_ | refine r_idxm hG Y Y Y Y Y Y Y (by omega) ?_ | refine r_idx hG Y Y ?_)
      | (show AOp _ _ ⟨_, .pick _ _ _, _, _, _, _⟩ _ _ _; refine r_pick hG Y Y Y ?_)
      | (show AOp _ _ ⟨_, .unOp _ _ _, _, _, _, _⟩ _ _ _; refine r_not hG Y Y Y ?_)
      | (show AOp _ _ ⟨_, .store _ _ _, _, _, _, _⟩ _ _ _; first | refine At (α := Nat) 0 hG Y Y Y Aj Aw Y Y (by first | omega | (simp only [Array.size_setIfInBounds]; omega)) ?_ | refine At (α := Nat) 1 hG Y Y Y Aj Aw Y Y (by first | omega | (simp only [Array.size_setIfInBounds]; omega)) ?_ | refine r_st 0 hG Y Y Y Y Y Y Y ?_)
      | refine r_q hG Y Y Y ?_); exact kk)
    | (refine' Bi Y Y Y Y (fun K kk => ?_) ?_; (try (show Go.Ts.T; rotate_left)); (first | refine Ar 0 hG Y Y Y Y (by omega) Y ?_ | refine Ar 1 hG Y Y Y Y (by omega) Y ?_); exact kk)
    | refine dq0_e Y ?_ | (refine dq0_nil ?_; show EL _ _ _ _ _ _ _ _ _)
    | (refine Ba ⟨_, (by first | assumption | (simp only [Array.size_setIfInBounds]; omega)), Y⟩ Y Y Y (fun K ke => ?_); (first | refine At (α := Nat) 0 hG Y Y Y Aj Aw Y Y (by first | omega | (simp only [Array.size_setIfInBounds]; omega)) ?_ | refine At (α := Nat) 1 hG Y Y Y Aj Aw Y Y (by first | omega | (simp only [Array.size_setIfInBounds]; omega)) ?_); refine ke (.tup []) _ ?_)
    | (refine el_nil ⟨_, (by first | assumption | (simp only [Array.size_setIfInBounds]; omega)), Y⟩ ?_; show AL _ _ _ _ _ _ _ _) | fail)
  obtain ⟨d, hd⟩ : ∃ d, swp d0 a pv = d := ⟨_, rfl⟩
  have hdn : d.size = n := by rw [← hd, size_swp]; exact hn
  have hp : partition ltQ d0 a b pv = (let i := scanUp (fun x => ltQ x d[a]!) d (b - 1) (a + 1); let j := scanDown (fun x => !ltQ x d[a]!) d i (b - 1); if i > j then (j, true, swp d j a) else let r := partLoop ltQ a (i + 1) (j - 1) (swp d i j); (r.1, false, swp r.2 r.1 a)) := by rw [← hd]; rfl
  repeat' (first | (show AL _ _ _ _ _ _ _ _; first | refine so4 ?_) | (show DL _ _ _ _ _ _ _; first | refine do4 ?_) | (show AW _ _ _ _ _ _; first | (show AW _ _ (.region _ _ _) _ _ _; refine sc0 ?_; intro O1) | (refine sc1 ?_; try intro Q1)) | (show (_ → _) ∧ _; refine ⟨fun h => ?_, fun h => ?_⟩) | fail)
  obtain ⟨I, hI⟩ : ∃ I, scanUp (fun x => ltQ x d[a]!) d (b - 1) (a + 1) = I := ⟨_, rfl⟩
  obtain ⟨J, hJ⟩ : ∃ J, scanDown (fun x => !ltQ x d[a]!) d I (b - 1) = J := ⟨_, rfl⟩
  have gI : a + 1 ≤ I := by rw [← hI]; exact scanUp_ge _ _ _ _
  have kI : I ≤ n := by rw [← hI]; exact up_le _ _ _ _ (by omega) _ _ (Nat.le_refl _) (by omega)
  have gJ : J ≤ b - 1 := by rw [← hJ]; exact scanDown_le _ _ _ _
  show AW _ _ _ _ _ ⟨[(i, .cells (rowT mT (swp d0 a pv)))], [], off, none⟩
  rw [hd]
  refine aw_loop_to 0 (X := UpX (fun x => ltQ x d[a]!) d (b - 1) I (a + 1) n) (fun x => [(0, .aref 1 i 0 n cap), (1, .int .i64 ((a : Nat) : Int)), (10, .int .i64 ((x.p : Nat) : Int)), (11, .int .i64 (((b - 1) : Nat) : Int))]) (fun _ => ⟨[(i, .cells (rowT mT d))], [], off, none⟩) (fun x => (b - 1) + 1 - x.p) ⟨(a + 1), by omega, hI⟩ (by repeat (first | exact .nil _ | refine .cons rfl ?_)) (.refl _) [(0, .aref 1 i 0 n cap), (1, .int .i64 ((a : Nat) : Int)), (10, .int .i64 ((I : Nat) : Int)), (11, .int .i64 (((b - 1) : Nat) : Int))] (⟨[(i, .cells (rowT mT d))], [], off, none⟩) ?_ ?_
  · rintro ⟨p, hp, hr⟩
    dsimp only at hr ⊢
    by_cases hpJ : p ≤ (b - 1)
    · repeat' (first | (show AL _ _ _ _ _ _ _ _; first | refine so4 ?_ | refine sp Y Y Y Y Y Y (by apply Au <;> exact sd) ?_) | (show DL _ _ _ _ _ _ _; first | refine do4 ?_ | refine dp Y Y Y Y Y Y Y (by apply Au <;> exact sd) ?_) | (show AW _ _ _ _ _ _; first | (show AW _ _ (.region _ _ _) _ _ _; refine sc0 ?_; intro O1) | (refine sc1 ?_; try intro Q1)) | (show (_ → _) ∧ _; refine ⟨fun h => ?_, fun h => ?_⟩) | fail)
      · rw [scanUp, if_pos (by simp [hpJ]; simpa using h)] at hr
        exact ⟨⟨p + 1, by omega, hr⟩, by dsimp only; omega, (by repeat (first | exact .nil _ | refine .cons rfl ?_)), .refl _⟩
      · rw [scanUp, if_neg (by simp [hpJ]; simpa using h)] at hr
        subst hr
        (refine Be ?_; show _ ∧ Knows _ _ ∧ _; exact ⟨rfl, (by repeat (first | exact .nil _ | refine .cons rfl ?_)), rfl⟩)
    · rw [scanUp, if_neg (by simp [hpJ])] at hr
      subst hr
      repeat' (first | (show AL _ _ _ _ _ _ _ _; first | refine so4 ?_ | refine sp Y Y Y Y Y Y (by apply Au <;> exact sd) ?_) | (show DL _ _ _ _ _ _ _; first | refine do4 ?_ | refine dp Y Y Y Y Y Y Y (by apply Au <;> exact sd) ?_) | (show AW _ _ _ _ _ _; first | (show AW _ _ (.region _ _ _) _ _ _; refine sc0 ?_; intro O1) | (refine sc1 ?_; try intro Q1)) | (show (_ → _) ∧ _; refine ⟨fun h => ?_, fun h => ?_⟩) | fail)
      (refine Be ?_; show _ ∧ Knows _ _ ∧ _; exact ⟨rfl, (by repeat (first | exact .nil _ | refine .cons rfl ?_)), rfl⟩)
  intro a' hk
  show AW _ _ _ _ _ _
  refine aw_forget hk ?_
  repeat' (first | (show AL _ _ _ _ _ _ _ _; first | refine so4 ?_) | (show DL _ _ _ _ _ _ _; first | refine do4 ?_) | (show AW _ _ _ _ _ _; first | (show AW _ _ (.region _ _ _) _ _ _; refine sc0 ?_; intro O1) | (refine sc1 ?_; try intro Q1)) | (show (_ → _) ∧ _; refine ⟨fun h => ?_, fun h => ?_⟩) | fail)
  refine aw_loop_to 2 (X := DnX (fun x => !ltQ x d[a]!) d I J (b - 1)) (fun x => [(0, .aref 1 i 0 n cap), (1, .int .i64 ((a : Nat) : Int)), (10, .int .i64 ((I : Nat) : Int)), (11, .int .i64 ((x.p : Nat) : Int))]) (fun _ => ⟨[(i, .cells (rowT mT d))], [], off, none⟩) (fun x => x.p) ⟨(b - 1), by omega, hJ⟩ (by repeat (first | exact .nil _ | refine .cons rfl ?_)) (.refl _) [(0, .aref 1 i 0 n cap), (1, .int .i64 ((a : Nat) : Int)), (10, .int .i64 ((I : Nat) : Int)), (11, .int .i64 ((J : Nat) : Int))] (⟨[(i, .cells (rowT mT d))], [], off, none⟩) ?_ ?_
  · rintro ⟨p, hp, hr⟩
    dsimp only at hr ⊢
    by_cases hpJ : I ≤ p
    · obtain ⟨m, rfl⟩ : ∃ m, p = m + 1 := ⟨p - 1, by omega⟩
      repeat' (first | (show AL _ _ _ _ _ _ _ _; first | refine so4 ?_ | refine sp Y Y Y Y Y Y (by apply Au <;> exact sd) ?_) | (show DL _ _ _ _ _ _ _; first | refine do4 ?_ | refine dp Y Y Y Y Y Y Y (by apply Au <;> exact sd) ?_) | (show AW _ _ _ _ _ _; first | (show AW _ _ (.region _ _ _) _ _ _; refine sc0 ?_; intro O1) | (refine sc1 ?_; try intro Q1)) | (show (_ → _) ∧ _; refine ⟨fun h => ?_, fun h => ?_⟩) | fail)
      · rw [scanDown, if_pos (by simp [hpJ]; simpa using h)] at hr
        exact ⟨⟨m, by omega, hr⟩, by dsimp only; omega, (by repeat (first | exact .nil _ | refine .cons rfl ?_)), .refl _⟩
      · rw [scanDown, if_neg (by simp [hpJ]; simpa using h)] at hr
        subst hr
        (refine Be ?_; show _ ∧ Knows _ _ ∧ _; exact ⟨rfl, (by repeat (first | exact .nil _ | refine .cons rfl ?_)), rfl⟩)
    · have hr2 : p = J := by
        rw [← hr]
        cases p with
        | zero => rfl
        | succ m => rw [scanDown, if_neg (by simp; omega)]
      subst hr2
      repeat' (first | (show AL _ _ _ _ _ _ _ _; first | refine so4 ?_ | refine sp Y Y Y Y Y Y (by apply Au <;> exact sd) ?_) | (show DL _ _ _ _ _ _ _; first | refine do4 ?_ | refine dp Y Y Y Y Y Y Y (by apply Au <;> exact sd) ?_) | (show AW _ _ _ _ _ _; first | (show AW _ _ (.region _ _ _) _ _ _; refine sc0 ?_; intro O1) | (refine sc1 ?_; try intro Q1)) | (show (_ → _) ∧ _; refine ⟨fun h => ?_, fun h => ?_⟩) | fail)
      (refine Be ?_; show _ ∧ Knows _ _ ∧ _; exact ⟨rfl, (by repeat (first | exact .nil _ | refine .cons rfl ?_)), rfl⟩)
  intro a' hk
  show AW _ _ _ _ _ _
  refine aw_forget hk ?_
  dsimp only at hp
  rw [hI, hJ] at hp
  by_cases hIJ : I > J
  · rw [if_pos hIJ] at hp
    repeat' (first | (show AL _ _ _ _ _ _ _ _; first | refine so4 ?_) | (show DL _ _ _ _ _ _ _; first | refine do4 ?_) | (show AW _ _ _ _ _ _; (fail_if_success show AW _ _ (.region 8 _ _) _ _ _); first | (show AW _ _ (.region _ _ _) _ _ _; refine sc0 ?_; intro O1) | (refine sc1 ?_; try intro Q1)) | (show (_ → _) ∧ _; refine ⟨fun h => ?_, fun h => ?_⟩) | fail)
    refine Bg (m := 14) [13] [7, 11] (fun σ => ∃ c : Array Nat, c.size = n ∧ σ = ⟨[(i, .cells (rowT mT c))], [], off, none⟩) mix Y Y (by repeat (first | exact Sp.zero _ | apply Sp.succ)) ?_; intro O1 F1 Z1 Q2; repeat' (first
    | (refine' dq0_cons Y Y Y Y (fun σ hσ K kk => ?_) ?_; (try (show Go.Ts.T; rotate_left)); (obtain ⟨c, hcn, hcs⟩ := hσ; subst hcs); (first
      | (show AOp _ _ ⟨_, .move _, _, _, _, _⟩ _ _ _; refine r_move hG Y Y ?_)
      | (show AOp _ _ ⟨_, .assign _, _, _, _, _⟩ _ _ _; refine r_asg hG Y Y ?_)
      | (show AOp _ _ ⟨_, .binOp .add _ _ _ _, _, _, _, _⟩ _ _ _; first | refine Ah hG Y Y Y Y Y (by omega) ?_ | refine Ah (m := 1) hG Y Y Y Y Y (by omega) ?_ | refine Ao hG Y Y Y Y Y (by omega) ?_)
      | (show AOp _ _ ⟨_, .binOp .sub _ _ _ _, _, _, _, _⟩ _ _ _; first | refine A8 hG Y Y Y Y (by omega) ?_ | refine A8 (m := 1) hG Y Y Y Y (by omega) ?_ | refine r_subU (m := 1) hG Y Y Y Y (by omega) ?_ | refine Ao hG Y Y Y Y Y (by omega) ?_)
      | (show AOp _ _ ⟨_, .binOp _ _ _ _ _, _, _, _, _⟩ _ _ _; first | refine r_cmpT hG Y Y Y Y Y (by omega) ?_ | refine r_cmpF hG Y Y Y Y Y (by omega) ?_)
      | (show AOp _ _ ⟨_, .load _ _, _, _, _, _⟩ _ _ _; first | refine Ar (α := Nat) 0 hG Y Y Y Y (by omega) Y ?_ | refine Ar (α := Nat) 1 hG Y Y Y Y (by omega) Y ?_ | refine r_ldro hG Y Y Y ?_ | refine r_ld 0 hG Y Y Y Y ?_)
      | (show AOp _ _ ⟨_, .indexAddr _ _ _, _, _, _, _⟩ _ _ _; first | refine r_idxL hG Y Y Y Y Y Y Y (by omega) ?_ | refine r_idxn hG Y Y Y Y Y Y Y (by omega) ?_ | refine r_idxm hG Y Y Y Y Y Y Y (by omega) ?_ | refine r_idx hG Y Y ?_)
      | (show AOp _ _ ⟨_, .pick _ _ _, _, _, _, _⟩ _ _ _; refine r_pick hG Y Y Y ?_)
      | (show AOp _ _ ⟨_, .unOp _ _ _, _, _, _, _⟩ _ _ _; refine r_not hG Y Y Y ?_)
      | (show AOp _ _ ⟨_, .store _ _ _, _, _, _, _⟩ _ _ _; first | refine At (α := Nat) 0 hG Y Y Y Aj Aw Y Y (by first | omega | (simp only [Array.size_setIfInBounds]; omega)) ?_ | refine At (α := Nat) 1 hG Y Y Y Aj Aw Y Y (by first | omega | (simp only [Array.size_setIfInBounds]; omega)) ?_ | refine r_st 0 hG Y Y Y Y Y Y Y ?_)
      | refine r_q hG Y Y Y ?_); exact kk)
    | (refine' Bi Y Y Y Y (fun K kk => ?_) ?_; (try (show Go.Ts.T; rotate_left)); (first | refine Ar 0 hG Y Y Y Y (by omega) Y ?_ | refine Ar 1 hG Y Y Y Y (by omega) Y ?_); exact kk)
    | refine dq0_e Y ?_ | (refine dq0_nil ?_; show EL _ _ _ _ _ _ _ _ _)
    | (refine Ba ⟨_, (by first | assumption | (simp only [Array.size_setIfInBounds]; omega)), Y⟩ Y Y Y (fun K ke => ?_); (first | refine At (α := Nat) 0 hG Y Y Y Aj Aw Y Y (by first | omega | (simp only [Array.size_setIfInBounds]; omega)) ?_ | refine At (α := Nat) 1 hG Y Y Y Aj Aw Y Y (by first | omega | (simp only [Array.size_setIfInBounds]; omega)) ?_); refine ke (.tup []) _ ?_)
    | (refine el_nil ⟨_, (by first | assumption | (simp only [Array.size_setIfInBounds]; omega)), Y⟩ ?_; show AL _ _ _ _ _ _ _ _) | fail)
    repeat' (first | (show AL _ _ _ _ _ _ _ _; first | refine so4 ?_) | (show DL _ _ _ _ _ _ _; first | refine do4 ?_) | (show AW _ _ _ _ _ _; first | (show AW _ _ (.region _ _ _) _ _ _; refine sc0 ?_; intro O1) | (refine sc1 ?_; try intro Q1)) | (show (_ → _) ∧ _; refine ⟨fun h => ?_, fun h => ?_⟩) | fail)
    dsimp (config := { zetaDelta := true }) only [A7, Am]
    rw [hp]
    refine ret_row 0 (Ae rfl (Ae rfl Ag)) ?_ (.refl _) ?_ <;> rfl
  · rw [if_neg hIJ] at hp
    repeat' (first | (show AL _ _ _ _ _ _ _ _; first | refine so4 ?_) | (show DL _ _ _ _ _ _ _; first | refine do4 ?_) | (show AW _ _ _ _ _ _; (fail_if_success show AW _ _ (.region 10 _ _) _ _ _); first | (show AW _ _ (.region _ _ _) _ _ _; refine sc0 ?_; intro O1) | (refine sc1 ?_; try intro Q1)) | (show (_ → _) ∧ _; refine ⟨fun h => ?_, fun h => ?_⟩) | fail)
    refine Bg (m := 14) [13] [7, 11] (fun σ => ∃ c : Array Nat, c.size = n ∧ σ = ⟨[(i, .cells (rowT mT c))], [], off, none⟩) mix Y Y (by repeat (first | exact Sp.zero _ | apply Sp.succ)) ?_; intro O1 F1 Z1 Q2; repeat' (first
    | (refine' dq0_cons Y Y Y Y (fun σ hσ K kk => ?_) ?_; (try (show Go.Ts.T; rotate_left)); (obtain ⟨c, hcn, hcs⟩ := hσ; subst hcs); (first
      | (show AOp _ _ ⟨_, .move _, _, _, _, _⟩ _ _ _; refine r_move hG Y Y ?_)
      | (show AOp _ _ ⟨_, .assign _, _, _, _, _⟩ _ _ _; refine r_asg hG Y Y ?_)
      | (show AOp _ _ ⟨_, .binOp .add _ _ _ _, _, _, _, _⟩ _ _ _; first | refine Ah hG Y Y Y Y Y (by omega) ?_ | refine Ah (m := 1) hG Y Y Y Y Y (by omega) ?_ | refine Ao hG Y Y Y Y Y (by omega) ?_)
      | (show AOp _ _ ⟨_, .binOp .sub _ _ _ _, _, _, _, _⟩ _ _ _; first | refine A8 hG Y Y Y Y (by omega) ?_ | refine A8 (m := 1) hG Y Y Y Y (by omega) ?_ | refine r_subU (m := 1) hG Y Y Y Y (by omega) ?_ | refine Ao hG Y Y Y Y Y (by omega) ?_)
      | (show AOp _ _ ⟨_, .binOp _ _ _ _ _, _, _, _, _⟩ _ _ _; first | refine r_cmpT hG Y Y Y Y Y (by omega) ?_ | refine r_cmpF hG Y Y Y Y Y (by omega) ?_)
      | (show AOp _ _ ⟨_, .load _ _, _, _, _, _⟩ _ _ _; first | refine Ar (α := Nat) 0 hG Y Y Y Y (by omega) Y ?_ | refine Ar (α := Nat) 1 hG Y Y Y Y (by omega) Y ?_ | refine r_ldro hG Y Y Y ?_ | refine r_ld 0 hG Y Y Y Y ?_)
      | (show AOp _ _ ⟨_, .indexAddr _ _ _, _, _, _, _⟩ _ _ _; first | refine r_idxL hG Y Y Y Y Y Y Y (by omega) ?_ | refine r_idxn hG Y Y Y Y Y Y Y (by omega) ?_ | refine r_idxm hG Y Y Y Y Y Y Y (by omega) ?_ | refine r_idx hG Y Y ?_)
      | (show AOp _ _ ⟨_, .pick _ _ _, _, _, _, _⟩ _ _ _; refine r_pick hG Y Y Y ?_)
      | (show AOp _ _ ⟨_, .unOp _ _ _, _, _, _, _⟩ _ _ _; refine r_not hG Y Y Y ?_)
      | (show AOp _ _ ⟨_, .store _ _ _, _, _, _, _⟩ _ _ _; first | refine At (α := Nat) 0 hG Y Y Y Aj Aw Y Y (by first | omega | (simp only [Array.size_setIfInBounds]; omega)) ?_ | refine At (α := Nat) 1 hG Y Y Y Aj Aw Y Y (by first | omega | (simp only [Array.size_setIfInBounds]; omega)) ?_ | refine r_st 0 hG Y Y Y Y Y Y Y ?_)
      | refine r_q hG Y Y Y ?_); exact kk)
    | (refine' Bi Y Y Y Y (fun K kk => ?_) ?_; (try (show Go.Ts.T; rotate_left)); (first | refine Ar 0 hG Y Y Y Y (by omega) Y ?_ | refine Ar 1 hG Y Y Y Y (by omega) Y ?_); exact kk)
    | refine dq0_e Y ?_ | (refine dq0_nil ?_; show EL _ _ _ _ _ _ _ _ _)
    | (refine Ba ⟨_, (by first | assumption | (simp only [Array.size_setIfInBounds]; omega)), Y⟩ Y Y Y (fun K ke => ?_); (first | refine At (α := Nat) 0 hG Y Y Y Aj Aw Y Y (by first | omega | (simp only [Array.size_setIfInBounds]; omega)) ?_ | refine At (α := Nat) 1 hG Y Y Y Aj Aw Y Y (by first | omega | (simp only [Array.size_setIfInBounds]; omega)) ?_); refine ke (.tup []) _ ?_)
    | (refine el_nil ⟨_, (by first | assumption | (simp only [Array.size_setIfInBounds]; omega)), Y⟩ ?_; show AL _ _ _ _ _ _ _ _) | fail)
    repeat' (first | (show AL _ _ _ _ _ _ _ _; first | refine so4 ?_) | (show DL _ _ _ _ _ _ _; first | refine do4 ?_) | (show AW _ _ _ _ _ _; first | (show AW _ _ (.region _ _ _) _ _ _; refine sc0 ?_; intro O1) | (refine sc1 ?_; try intro Q1)) | (show (_ → _) ∧ _; refine ⟨fun h => ?_, fun h => ?_⟩) | fail)
    obtain ⟨R, hR⟩ : ∃ R, partLoop ltQ a (I + 1) (J - 1) (swp d I J) = R := ⟨_, rfl⟩
    rw [hR] at hp
    refine A5 (X := PlX a b n R) (fun x => [(0, .aref 1 i 0 n cap), (1, .int .i64 (a : Int)), (10, .int .i64 (x.i : Int)), (11, .int .i64 (x.j : Int))]) (fun x => ⟨[(i, .cells (rowT mT x.d))], [], off, none⟩) (fun x => x.j + 1 - x.i) ⟨I + 1, J - 1, swp d I J, by rw [size_swp]; exact hdn, by omega, hR⟩ (by repeat (first | exact .nil _ | refine .cons rfl ?_)) (.refl _) ?_
    clear hk a' hI hJ gI kI gJ hIJ hR
    rintro ⟨i1, j1, e, hen, hij, hr⟩
    dsimp only at hr ⊢
    rw [partLoop_eq] at hr
    repeat' (first | (show AL _ _ _ _ _ _ _ _; first | refine so4 ?_) | (show DL _ _ _ _ _ _ _; first | refine do4 ?_) | (show AW _ _ _ _ _ _; first | (show AW _ _ (.region _ _ _) _ _ _; refine sc0 ?_; intro O1) | (refine sc1 ?_; try intro Q1)) | (show (_ → _) ∧ _; refine ⟨fun h => ?_, fun h => ?_⟩) | fail)
    obtain ⟨I1, hI1⟩ : ∃ I, scanUp (fun x => ltQ x e[a]!) e (j1) (i1) = I := ⟨_, rfl⟩
    obtain ⟨J1, hJ1⟩ : ∃ J, scanDown (fun x => !ltQ x e[a]!) e I1 (j1) = J := ⟨_, rfl⟩
    have gI1 : i1 ≤ I1 := by rw [← hI1]; exact scanUp_ge _ _ _ _
    have kI1 : I1 ≤ n := by rw [← hI1]; exact up_le _ _ _ _ (by omega) _ _ (Nat.le_refl _) (by omega)
    have gJ1 : J1 ≤ j1 := by rw [← hJ1]; exact scanDown_le _ _ _ _
    refine aw_loop_to 6 (X := UpX (fun x => ltQ x e[a]!) e j1 I1 i1 n) (fun x => [(0, .aref 1 i 0 n cap), (1, .int .i64 ((a : Nat) : Int)), (10, .int .i64 ((x.p : Nat) : Int)), (11, .int .i64 ((j1 : Nat) : Int))]) (fun _ => ⟨[(i, .cells (rowT mT e))], [], off, none⟩) (fun x => j1 + 1 - x.p) ⟨i1, by omega, hI1⟩ (by repeat (first | exact .nil _ | refine .cons rfl ?_)) (.refl _) [(0, .aref 1 i 0 n cap), (1, .int .i64 ((a : Nat) : Int)), (10, .int .i64 ((I1 : Nat) : Int)), (11, .int .i64 ((j1 : Nat) : Int))] (⟨[(i, .cells (rowT mT e))], [], off, none⟩) ?_ ?_
    · rintro ⟨p, hp, hr⟩
      dsimp only at hr ⊢
      by_cases hpJ : p ≤ j1
      · repeat' (first | (show AL _ _ _ _ _ _ _ _; first | refine so4 ?_ | refine sp Y Y Y Y Y Y (by apply Au <;> exact sd) ?_) | (show DL _ _ _ _ _ _ _; first | refine do4 ?_ | refine dp Y Y Y Y Y Y Y (by apply Au <;> exact sd) ?_) | (show AW _ _ _ _ _ _; first | (show AW _ _ (.region _ _ _) _ _ _; refine sc0 ?_; intro O1) | (refine sc1 ?_; try intro Q1)) | (show (_ → _) ∧ _; refine ⟨fun h => ?_, fun h => ?_⟩) | fail)
        · rw [scanUp, if_pos (by simp [hpJ]; simpa using h)] at hr
          exact ⟨⟨p + 1, by omega, hr⟩, by dsimp only; omega, (by repeat (first | exact .nil _ | refine .cons rfl ?_)), .refl _⟩
        · rw [scanUp, if_neg (by simp [hpJ]; simpa using h)] at hr
          subst hr
          (refine Be ?_; show _ ∧ Knows _ _ ∧ _; exact ⟨rfl, (by repeat (first | exact .nil _ | refine .cons rfl ?_)), rfl⟩)
      · rw [scanUp, if_neg (by simp [hpJ])] at hr
        subst hr
        repeat' (first | (show AL _ _ _ _ _ _ _ _; first | refine so4 ?_ | refine sp Y Y Y Y Y Y (by apply Au <;> exact sd) ?_) | (show DL _ _ _ _ _ _ _; first | refine do4 ?_ | refine dp Y Y Y Y Y Y Y (by apply Au <;> exact sd) ?_) | (show AW _ _ _ _ _ _; first | (show AW _ _ (.region _ _ _) _ _ _; refine sc0 ?_; intro O1) | (refine sc1 ?_; try intro Q1)) | (show (_ → _) ∧ _; refine ⟨fun h => ?_, fun h => ?_⟩) | fail)
        (refine Be ?_; show _ ∧ Knows _ _ ∧ _; exact ⟨rfl, (by repeat (first | exact .nil _ | refine .cons rfl ?_)), rfl⟩)
    intro a' hk
    show AW _ _ _ _ _ _
    refine aw_forget hk ?_
    repeat' (first | (show AL _ _ _ _ _ _ _ _; first | refine so4 ?_) | (show DL _ _ _ _ _ _ _; first | refine do4 ?_) | (show AW _ _ _ _ _ _; first | (show AW _ _ (.region _ _ _) _ _ _; refine sc0 ?_; intro O1) | (refine sc1 ?_; try intro Q1)) | (show (_ → _) ∧ _; refine ⟨fun h => ?_, fun h => ?_⟩) | fail)
    refine aw_loop_to 8 (X := DnX (fun x => !ltQ x e[a]!) e I1 J1 j1) (fun x => [(0, .aref 1 i 0 n cap), (1, .int .i64 ((a : Nat) : Int)), (10, .int .i64 ((I1 : Nat) : Int)), (11, .int .i64 ((x.p : Nat) : Int))]) (fun _ => ⟨[(i, .cells (rowT mT e))], [], off, none⟩) (fun x => x.p) ⟨j1, by omega, hJ1⟩ (by repeat (first | exact .nil _ | refine .cons rfl ?_)) (.refl _) [(0, .aref 1 i 0 n cap), (1, .int .i64 ((a : Nat) : Int)), (10, .int .i64 ((I1 : Nat) : Int)), (11, .int .i64 ((J1 : Nat) : Int))] (⟨[(i, .cells (rowT mT e))], [], off, none⟩) ?_ ?_
    · rintro ⟨p, hp, hr⟩
      dsimp only at hr ⊢
      by_cases hpJ : I1 ≤ p
      · obtain ⟨m, rfl⟩ : ∃ m, p = m + 1 := ⟨p - 1, by omega⟩
        repeat' (first | (show AL _ _ _ _ _ _ _ _; first | refine so4 ?_ | refine sp Y Y Y Y Y Y (by apply Au <;> exact sd) ?_) | (show DL _ _ _ _ _ _ _; first | refine do4 ?_ | refine dp Y Y Y Y Y Y Y (by apply Au <;> exact sd) ?_) | (show AW _ _ _ _ _ _; first | (show AW _ _ (.region _ _ _) _ _ _; refine sc0 ?_; intro O1) | (refine sc1 ?_; try intro Q1)) | (show (_ → _) ∧ _; refine ⟨fun h => ?_, fun h => ?_⟩) | fail)
        · rw [scanDown, if_pos (by simp [hpJ]; simpa using h)] at hr
          exact ⟨⟨m, by omega, hr⟩, by dsimp only; omega, (by repeat (first | exact .nil _ | refine .cons rfl ?_)), .refl _⟩
        · rw [scanDown, if_neg (by simp [hpJ]; simpa using h)] at hr
          subst hr
          (refine Be ?_; show _ ∧ Knows _ _ ∧ _; exact ⟨rfl, (by repeat (first | exact .nil _ | refine .cons rfl ?_)), rfl⟩)
      · have hr2 : p = J1 := by
          rw [← hr]
          cases p with
          | zero => rfl
          | succ m => rw [scanDown, if_neg (by simp; omega)]
        subst hr2
        repeat' (first | (show AL _ _ _ _ _ _ _ _; first | refine so4 ?_ | refine sp Y Y Y Y Y Y (by apply Au <;> exact sd) ?_) | (show DL _ _ _ _ _ _ _; first | refine do4 ?_ | refine dp Y Y Y Y Y Y Y (by apply Au <;> exact sd) ?_) | (show AW _ _ _ _ _ _; first | (show AW _ _ (.region _ _ _) _ _ _; refine sc0 ?_; intro O1) | (refine sc1 ?_; try intro Q1)) | (show (_ → _) ∧ _; refine ⟨fun h => ?_, fun h => ?_⟩) | fail)
        (refine Be ?_; show _ ∧ Knows _ _ ∧ _; exact ⟨rfl, (by repeat (first | exact .nil _ | refine .cons rfl ?_)), rfl⟩)
    intro a' hk
    show AW _ _ _ _ _ _
    refine aw_forget hk ?_
    rw [hI1, hJ1] at hr
    by_cases hIJ : I1 > J1
    · rw [if_pos hIJ] at hr
      subst hr
      repeat' (first | (show AL _ _ _ _ _ _ _ _; first | refine so4 ?_) | (show DL _ _ _ _ _ _ _; first | refine do4 ?_) | (show AW _ _ _ _ _ _; (fail_if_success show AW _ _ (.region 21 _ _) _ _ _); first | (show AW _ _ (.region _ _ _) _ _ _; refine sc0 ?_; intro O1) | (refine sc1 ?_; try intro Q1)) | (show (_ → _) ∧ _; refine ⟨fun h => ?_, fun h => ?_⟩) | fail)
      refine Bg (m := 14) [13] [7, 11] (fun σ => ∃ c : Array Nat, c.size = n ∧ σ = ⟨[(i, .cells (rowT mT c))], [], off, none⟩) mix Y Y (by repeat (first | exact Sp.zero _ | apply Sp.succ)) ?_; intro O1 F1 Z1 Q2; repeat' (first
    | (refine' dq0_cons Y Y Y Y (fun σ hσ K kk => ?_) ?_; (try (show Go.Ts.T; rotate_left)); (obtain ⟨c, hcn, hcs⟩ := hσ; subst hcs); (first
      | (show AOp _ _ ⟨_, .move _, _, _, _, _⟩ _ _ _; refine r_move hG Y Y ?_)
      | (show AOp _ _ ⟨_, .assign _, _, _, _, _⟩ _ _ _; refine r_asg hG Y Y ?_)
      | (show AOp _ _ ⟨_, .binOp .add _ _ _ _, _, _, _, _⟩ _ _ _; first | refine Ah hG Y Y Y Y Y (by omega) ?_ | refine Ah (m := 1) hG Y Y Y Y Y (by omega) ?_ | refine Ao hG Y Y Y Y Y (by omega) ?_)
      | (show AOp _ _ ⟨_, .binOp .sub _ _ _ _, _, _, _, _⟩ _ _ _; first | refine A8 hG Y Y Y Y (by omega) ?_ | refine A8 (m := 1) hG Y Y Y Y (by omega) ?_ | refine r_subU (m := 1) hG Y Y Y Y (by omega) ?_ | refine Ao hG Y Y Y Y Y (by omega) ?_)
      | (show AOp _ _ ⟨_, .binOp _ _ _ _ _, _, _, _, _⟩ _ _ _; first | refine r_cmpT hG Y Y Y Y Y (by omega) ?_ | refine r_cmpF hG Y Y Y Y Y (by omega) ?_)
      | (show AOp _ _ ⟨_, .load _ _, _, _, _, _⟩ _ _ _; first | refine Ar (α := Nat) 0 hG Y Y Y Y (by omega) Y ?_ | refine Ar (α := Nat) 1 hG Y Y Y Y (by omega) Y ?_ | refine r_ldro hG Y Y Y ?_ | refine r_ld 0 hG Y Y Y Y ?_)
      | (show AOp _ _ ⟨_, .indexAddr _ _ _, _, _, _, _⟩ _ _ _; first | refine r_idxL hG Y Y Y Y Y Y Y (by omega) ?_ | refine r_idxn hG Y Y Y Y Y Y Y (by omega) ?_ | refine r_idxm hG Y Y Y Y Y Y Y (by omega) ?_ | refine r_idx hG Y Y ?_)
      | (show AOp _ _ ⟨_, .pick _ _ _, _, _, _, _⟩ _ _ _; refine r_pick hG Y Y Y ?_)
      | (show AOp _ _ ⟨_, .unOp _ _ _, _, _, _, _⟩ _ _ _; refine r_not hG Y Y Y ?_)
      | (show AOp _ _ ⟨_, .store _ _ _, _, _, _, _⟩ _ _ _; first | refine At (α := Nat) 0 hG Y Y Y Aj Aw Y Y (by first | omega | (simp only [Array.size_setIfInBounds]; omega)) ?_ | refine At (α := Nat) 1 hG Y Y Y Aj Aw Y Y (by first | omega | (simp only [Array.size_setIfInBounds]; omega)) ?_ | refine r_st 0 hG Y Y Y Y Y Y Y ?_)
      | refine r_q hG Y Y Y ?_); exact kk)
    | (refine' Bi Y Y Y Y (fun K kk => ?_) ?_; (try (show Go.Ts.T; rotate_left)); (first | refine Ar 0 hG Y Y Y Y (by omega) Y ?_ | refine Ar 1 hG Y Y Y Y (by omega) Y ?_); exact kk)
    | refine dq0_e Y ?_ | (refine dq0_nil ?_; show EL _ _ _ _ _ _ _ _ _)
    | (refine Ba ⟨_, (by first | assumption | (simp only [Array.size_setIfInBounds]; omega)), Y⟩ Y Y Y (fun K ke => ?_); (first | refine At (α := Nat) 0 hG Y Y Y Aj Aw Y Y (by first | omega | (simp only [Array.size_setIfInBounds]; omega)) ?_ | refine At (α := Nat) 1 hG Y Y Y Aj Aw Y Y (by first | omega | (simp only [Array.size_setIfInBounds]; omega)) ?_); refine ke (.tup []) _ ?_)
    | (refine el_nil ⟨_, (by first | assumption | (simp only [Array.size_setIfInBounds]; omega)), Y⟩ ?_; show AL _ _ _ _ _ _ _ _) | fail)
      repeat' (first | (show AL _ _ _ _ _ _ _ _; first | refine so4 ?_) | (show DL _ _ _ _ _ _ _; first | refine do4 ?_) | (show AW _ _ _ _ _ _; first | (show AW _ _ (.region _ _ _) _ _ _; refine sc0 ?_; intro O1) | (refine sc1 ?_; try intro Q1)) | (show (_ → _) ∧ _; refine ⟨fun h => ?_, fun h => ?_⟩) | fail)
      try dsimp (config := { zetaDelta := true }) only [A7, Am]
      rw [hp]
      refine ret_row 0 (Ae rfl (Ae rfl Ag)) ?_ (.refl _) ?_ <;> rfl
    · rw [if_neg hIJ] at hr
      repeat' (first | (show AL _ _ _ _ _ _ _ _; first | refine so4 ?_) | (show DL _ _ _ _ _ _ _; first | refine do4 ?_) | (show AW _ _ _ _ _ _; (fail_if_success show AW _ _ (.region 18 _ _) _ _ _); first | (show AW _ _ (.region _ _ _) _ _ _; refine sc0 ?_; intro O1) | (refine sc1 ?_; try intro Q1)) | (show (_ → _) ∧ _; refine ⟨fun h => ?_, fun h => ?_⟩) | fail)
      refine Bg (m := 14) [13] [7, 11] (fun σ => ∃ c : Array Nat, c.size = n ∧ σ = ⟨[(i, .cells (rowT mT c))], [], off, none⟩) mix Y Y (by repeat (first | exact Sp.zero _ | apply Sp.succ)) ?_; intro O1 F1 Z1 Q2; repeat' (first
    | (refine' dq0_cons Y Y Y Y (fun σ hσ K kk => ?_) ?_; (try (show Go.Ts.T; rotate_left)); (obtain ⟨c, hcn, hcs⟩ := hσ; subst hcs); (first
      | (show AOp _ _ ⟨_, .move _, _, _, _, _⟩ _ _ _; refine r_move hG Y Y ?_)
      | (show AOp _ _ ⟨_, .assign _, _, _, _, _⟩ _ _ _; refine r_asg hG Y Y ?_)
      | (show AOp _ _ ⟨_, .binOp .add _ _ _ _, _, _, _, _⟩ _ _ _; first | refine Ah hG Y Y Y Y Y (by omega) ?_ | refine Ah (m := 1) hG Y Y Y Y Y (by omega) ?_ | refine Ao hG Y Y Y Y Y (by omega) ?_)
      | (show AOp _ _ ⟨_, .binOp .sub _ _ _ _, _, _, _, _⟩ _ _ _; first | refine A8 hG Y Y Y Y (by omega) ?_ | refine A8 (m := 1) hG Y Y Y Y (by omega) ?_ | refine r_subU (m := 1) hG Y Y Y Y (by omega) ?_ | refine Ao hG Y Y Y Y Y (by omega) ?_)
      | (show AOp _ _ ⟨_, .binOp _ _ _ _ _, _, _, _, _⟩ _ _ _; first | refine r_cmpT hG Y Y Y Y Y (by omega) ?_ | refine r_cmpF hG Y Y Y Y Y (by omega) ?_)
      | (show AOp _ _ ⟨_, .load _ _, _, _, _, _⟩ _ _ _; first | refine Ar (α := Nat) 0 hG Y Y Y Y (by omega) Y ?_ | refine Ar (α := Nat) 1 hG Y Y Y Y (by omega) Y ?_ | refine r_ldro hG Y Y Y ?_ | refine r_ld 0 hG Y Y Y Y ?_)
      | (show AOp _ _ ⟨_, .indexAddr _ _ _, _, _, _, _⟩ _ _ _; first | refine r_idxL hG Y Y Y Y Y Y Y (by omega) ?_ | refine r_idxn hG Y Y Y Y Y Y Y (by omega) ?_ | refine r_idxm hG Y Y Y Y Y Y Y (by omega) ?_ | refine r_idx hG Y Y ?_)
      | (show AOp _ _ ⟨_, .pick _ _ _, _, _, _, _⟩ _ _ _; refine r_pick hG Y Y Y ?_)
      | (show AOp _ _ ⟨_, .unOp _ _ _, _, _, _, _⟩ _ _ _; refine r_not hG Y Y Y ?_)
      | (show AOp _ _ ⟨_, .store _ _ _, _, _, _, _⟩ _ _ _; first | refine At (α := Nat) 0 hG Y Y Y Aj Aw Y Y (by first | omega | (simp only [Array.size_setIfInBounds]; omega)) ?_ | refine At (α := Nat) 1 hG Y Y Y Aj Aw Y Y (by first | omega | (simp only [Array.size_setIfInBounds]; omega)) ?_ | refine r_st 0 hG Y Y Y Y Y Y Y ?_)
      | refine r_q hG Y Y Y ?_); exact kk)
    | (refine' Bi Y Y Y Y (fun K kk => ?_) ?_; (try (show Go.Ts.T; rotate_left)); (first | refine Ar 0 hG Y Y Y Y (by omega) Y ?_ | refine Ar 1 hG Y Y Y Y (by omega) Y ?_); exact kk)
    | refine dq0_e Y ?_ | (refine dq0_nil ?_; show EL _ _ _ _ _ _ _ _ _)
    | (refine Ba ⟨_, (by first | assumption | (simp only [Array.size_setIfInBounds]; omega)), Y⟩ Y Y Y (fun K ke => ?_); (first | refine At (α := Nat) 0 hG Y Y Y Aj Aw Y Y (by first | omega | (simp only [Array.size_setIfInBounds]; omega)) ?_ | refine At (α := Nat) 1 hG Y Y Y Aj Aw Y Y (by first | omega | (simp only [Array.size_setIfInBounds]; omega)) ?_); refine ke (.tup []) _ ?_)
    | (refine el_nil ⟨_, (by first | assumption | (simp only [Array.size_setIfInBounds]; omega)), Y⟩ ?_; show AL _ _ _ _ _ _ _ _) | fail)
      repeat' (first | (show AL _ _ _ _ _ _ _ _; first | refine so4 ?_) | (show DL _ _ _ _ _ _ _; first | refine do4 ?_) | (show AW _ _ _ _ _ _; first | (show AW _ _ (.region _ _ _) _ _ _; refine sc0 ?_; intro O1) | (refine sc1 ?_; try intro Q1)) | (show (_ → _) ∧ _; refine ⟨fun h => ?_, fun h => ?_⟩) | fail)
      exact ⟨⟨I1 + 1, J1 - 1, swp e I1 J1, by rw [size_swp]; exact hen, by omega, hr⟩, by dsimp only; omega, (by repeat (first | exact .nil _ | refine .cons rfl ?_)), .refl _⟩
end Go.Proofs.Ythfgocinlbogeaa
set_option maxHeartbeats 4000000
namespace Go.Proofs.Ythfgocinlbogeaa
open Go.Ts
set_option linter.unusedSimpArgs false
set_option linter.unusedVariables false
attribute [local irreducible] Go.Ts.AW Go.Ts.AOps Go.Ts.AL Go.Ts.AOp Go.Ts.ACalls Go.Ts.DL Go.Ts.DQ0 Go.Ts.EL
open Go.Sort
structure PeX (a b n : Nat) (R : Nat × Array Nat) where
  i : Nat
  j : Nat
  d : Array Nat
  hn : d.size = n
  hij : a < i ∧ i ≤ n ∧ j < b
  hr : partEqLoop ltQ a i j d = R
theorem srt_peq {d0 : Array Nat} {a b pv : Nat} (hab : a ≤ pv) (hpb : pv < b) (hb : b ≤ d0.size) (hs : d0.size ≤ 4294967296) : OnRow Try.prog 110 mT [.int .i64 (a : Int), .int .i64 (b : Int), .int .i64 (pv : Int)] d0
    (.int .i64 ((partitionEqual ltQ d0 a b pv).1 : Int)) (partitionEqual ltQ d0 a b pv).2 := by
  intro off i n cap hn
  refine Af (N := 84) (rs := [.tmp 8]) hG Try.func110 rfl rfl rfl rfl rfl ?_
  repeat' (first | (show AL _ _ _ _ _ _ _ _; first | refine so4 ?_) | (show DL _ _ _ _ _ _ _; first | refine do4 ?_) | (show AW _ _ _ _ _ _; (fail_if_success show AW _ _ (.region 1 _ _) _ _ _); first | (show AW _ _ (.region _ _ _) _ _ _; refine sc0 ?_; intro O1) | (refine sc1 ?_; try intro Q1)) | (show (_ → _) ∧ _; refine ⟨fun h => ?_, fun h => ?_⟩) | fail)
  refine Bg (m := 14) [13] [7, 11] (fun σ => ∃ c : Array Nat, c.size = n ∧ σ = ⟨[(i, .cells (rowT mT c))], [], off, none⟩) mix Y Y (by repeat (first | exact Sp.zero _ | apply Sp.succ)) ?_; intro O1 F1 Z1 Q2; repeat' (first
    | (refine' dq0_cons Y Y Y Y (fun σ hσ K kk => ?_) ?_; (try (show Go.Ts.T; rotate_left)); (obtain ⟨c, hcn, hcs⟩ := hσ; subst hcs); (first
      | (show AOp _ _ ⟨_, .move _, _, _, _, _⟩ _ _ _; refine r_move hG Y Y ?_)
      | (show AOp _ _ ⟨_, .assign _, _, _, _, _⟩ _ _ _; refine r_asg hG Y Y ?_)
      | (show AOp _ _ ⟨_, .binOp .add _ _ _ _, _, _, _, _⟩ _ _ _; first | refine Ah hG Y Y Y Y Y (by omega) ?_ | refine Ah (m := 1) hG Y Y Y Y Y (by omega) ?_ | refine Ao hG Y Y Y Y Y (by omega) ?_)
      | (show AOp _ _ ⟨_, .binOp .sub _ _ _ _, _, _, _, _⟩ _ _ _; first | refine A8 hG Y Y Y Y (by omega) ?_ | refine A8 (m := 1) hG Y Y Y Y (by omega) ?_ | refine r_subU (m := 1) hG Y Y Y Y (by omega) ?_ | refine Ao hG Y Y Y Y Y (by omega) ?_)
      | (show AOp _ _ ⟨_, .binOp _ _ _ _ _, _, _, _, _⟩ _ _ _; first | refine r_cmpT hG Y Y Y Y Y (by omega) ?_ | refine r_cmpF hG Y Y Y Y Y (by omega) ?_)
      | (show AOp _ _ ⟨_, .load _ _, _, _, _, _⟩ _ _ _; first | refine Ar (α := Nat) 0 hG Y Y Y Y (by omega) Y ?_ | refine Ar (α := Nat) 1 hG Y Y Y Y (by omega) Y ?_ | refine r_ldro hG Y Y Y ?_ | refine r_ld 0 hG Y Y Y Y ?_)
      | (show AOp _ _ ⟨_, .indexAddr _ _ _, _, _, _, _⟩ _ _ _; first | refine r_idxL hG Y Y Y Y Y Y Y (by omega) ?_ | refine r_idxn hG Y Y Y Y Y Y Y (by omega) ?_ | refine r_idxm hG Y Y Y Y Y Y Y (by omega) ?_ | refine r_idx hG Y Y ?_)
      | (show AOp _ _ ⟨_, .pick _ _ _, _, _, _, _⟩ _ _ _; refine r_pick hG Y Y Y ?_)
      | (show AOp _ _ ⟨_, .unOp _ _ _, _, _, _, _⟩ _ _ _; refine r_not hG Y Y Y ?_)
      | (show AOp _ _ ⟨_, .store _ _ _, _, _, _, _⟩ _ _ _; first | refine At (α := Nat) 0 hG Y Y Y Aj Aw Y Y (by first | omega | (simp only [Array.size_setIfInBounds]; omega)) ?_ | refine At (α := Nat) 1 hG Y Y Y Aj Aw Y Y (by first | omega | (simp only [Array.size_setIfInBounds]; omega)) ?_ | refine r_st 0 hG Y Y Y Y Y Y Y ?_)
      | refine r_q hG Y Y Y ?_); exact kk)
    | (refine' Bi Y Y Y Y (fun K kk => ?_) ?_; (try (show Go.Ts.T; rotate_left)); (first | refine Ar 0 hG Y Y Y Y (by omega) Y ?_ | refine Ar 1 hG Y Y Y Y (by omega) Y ?_); exact kk)
    | refine dq0_e Y ?_ | (refine dq0_nil ?_; show EL _ _ _ _ _ _ _ _ _)
    | (refine Ba ⟨_, (by first | assumption | (simp only [Array.size_setIfInBounds]; omega)), Y⟩ Y Y Y (fun K ke => ?_); (first | refine At (α := Nat) 0 hG Y Y Y Aj Aw Y Y (by first | omega | (simp only [Array.size_setIfInBounds]; omega)) ?_ | refine At (α := Nat) 1 hG Y Y Y Aj Aw Y Y (by first | omega | (simp only [Array.size_setIfInBounds]; omega)) ?_); refine ke (.tup []) _ ?_)
    | (refine el_nil ⟨_, (by first | assumption | (simp only [Array.size_setIfInBounds]; omega)), Y⟩ ?_; show AL _ _ _ _ _ _ _ _) | fail)
  repeat' (first | (show AL _ _ _ _ _ _ _ _; first | refine so4 ?_) | (show DL _ _ _ _ _ _ _; first | refine do4 ?_) | (show AW _ _ _ _ _ _; first | (show AW _ _ (.region _ _ _) _ _ _; refine sc0 ?_; intro O1) | (refine sc1 ?_; try intro Q1)) | (show (_ → _) ∧ _; refine ⟨fun h => ?_, fun h => ?_⟩) | fail)
  obtain ⟨R, hR⟩ : ∃ R, partEqLoop ltQ a (a + 1) (b - 1) (swp d0 a pv) = R := ⟨_, rfl⟩
  have hp : partitionEqual ltQ d0 a b pv = R := hR
  refine A5 (X := PeX a b n R) (fun x => [(0, .aref 1 i 0 n cap), (1, .int .i64 (a : Int)), (9, .int .i64 (x.i : Int)), (10, .int .i64 (x.j : Int))]) (fun x => ⟨[(i, .cells (rowT mT x.d))], [], off, none⟩) (fun x => x.j + 1 - x.i) ⟨a + 1, b - 1, swp d0 a pv, by rw [size_swp]; exact hn, by omega, hR⟩ (by repeat (first | exact .nil _ | refine .cons rfl ?_)) (.refl _) ?_
  clear hR
  rintro ⟨i1, j1, e, hen, hij, hr⟩
  dsimp only at hr ⊢
  rw [partEqLoop_eq] at hr
  repeat' (first | (show AL _ _ _ _ _ _ _ _; first | refine so4 ?_) | (show DL _ _ _ _ _ _ _; first | refine do4 ?_) | (show AW _ _ _ _ _ _; first | (show AW _ _ (.region _ _ _) _ _ _; refine sc0 ?_; intro O1) | (refine sc1 ?_; try intro Q1)) | (show (_ → _) ∧ _; refine ⟨fun h => ?_, fun h => ?_⟩) | fail)
  obtain ⟨I1, hI1⟩ : ∃ I, scanUp (fun x => !ltQ e[a]! x) e (j1) (i1) = I := ⟨_, rfl⟩
  obtain ⟨J1, hJ1⟩ : ∃ J, scanDown (fun x => ltQ e[a]! x) e I1 (j1) = J := ⟨_, rfl⟩
  have gI1 : i1 ≤ I1 := by rw [← hI1]; exact scanUp_ge _ _ _ _
  have kI1 : I1 ≤ n := by rw [← hI1]; exact up_le _ _ _ _ (by omega) _ _ (Nat.le_refl _) (by omega)
  have gJ1 : J1 ≤ j1 := by rw [← hJ1]; exact scanDown_le _ _ _ _
  refine aw_loop_to 2 (X := UpX (fun x => !ltQ e[a]! x) e j1 I1 i1 n) (fun x => [(0, .aref 1 i 0 n cap), (1, .int .i64 ((a : Nat) : Int)), (9, .int .i64 ((x.p : Nat) : Int)), (10, .int .i64 ((j1 : Nat) : Int))]) (fun _ => ⟨[(i, .cells (rowT mT e))], [], off, none⟩) (fun x => j1 + 1 - x.p) ⟨i1, by omega, hI1⟩ (by repeat (first | exact .nil _ | refine .cons rfl ?_)) (.refl _) [(0, .aref 1 i 0 n cap), (1, .int .i64 ((a : Nat) : Int)), (9, .int .i64 ((I1 : Nat) : Int)), (10, .int .i64 ((j1 : Nat) : Int))] (⟨[(i, .cells (rowT mT e))], [], off, none⟩) ?_ ?_
  · rintro ⟨p, hp, hr⟩
    dsimp only at hr ⊢
    by_cases hpJ : p ≤ j1
    · repeat' (first | (show AL _ _ _ _ _ _ _ _; first | refine so4 ?_ | refine sp Y Y Y Y Y Y (by apply Au <;> exact sd) ?_) | (show DL _ _ _ _ _ _ _; first | refine do4 ?_ | refine dp Y Y Y Y Y Y Y (by apply Au <;> exact sd) ?_) | (show AW _ _ _ _ _ _; first | (show AW _ _ (.region _ _ _) _ _ _; refine sc0 ?_; intro O1) | (refine sc1 ?_; try intro Q1)) | (show (_ → _) ∧ _; refine ⟨fun h => ?_, fun h => ?_⟩) | fail)
      · rw [scanUp, if_pos (by simp [hpJ]; simpa using h)] at hr
        exact ⟨⟨p + 1, by omega, hr⟩, by dsimp only; omega, (by repeat (first | exact .nil _ | refine .cons rfl ?_)), .refl _⟩
      · rw [scanUp, if_neg (by simp [hpJ]; simpa using h)] at hr
        subst hr
        (refine Be ?_; show _ ∧ Knows _ _ ∧ _; exact ⟨rfl, (by repeat (first | exact .nil _ | refine .cons rfl ?_)), rfl⟩)
    · rw [scanUp, if_neg (by simp [hpJ])] at hr
      subst hr
      repeat' (first | (show AL _ _ _ _ _ _ _ _; first | refine so4 ?_ | refine sp Y Y Y Y Y Y (by apply Au <;> exact sd) ?_) | (show DL _ _ _ _ _ _ _; first | refine do4 ?_ | refine dp Y Y Y Y Y Y Y (by apply Au <;> exact sd) ?_) | (show AW _ _ _ _ _ _; first | (show AW _ _ (.region _ _ _) _ _ _; refine sc0 ?_; intro O1) | (refine sc1 ?_; try intro Q1)) | (show (_ → _) ∧ _; refine ⟨fun h => ?_, fun h => ?_⟩) | fail)
      (refine Be ?_; show _ ∧ Knows _ _ ∧ _; exact ⟨rfl, (by repeat (first | exact .nil _ | refine .cons rfl ?_)), rfl⟩)
  intro a' hk
  show AW _ _ _ _ _ _
  refine aw_forget hk ?_
  repeat' (first | (show AL _ _ _ _ _ _ _ _; first | refine so4 ?_) | (show DL _ _ _ _ _ _ _; first | refine do4 ?_) | (show AW _ _ _ _ _ _; first | (show AW _ _ (.region _ _ _) _ _ _; refine sc0 ?_; intro O1) | (refine sc1 ?_; try intro Q1)) | (show (_ → _) ∧ _; refine ⟨fun h => ?_, fun h => ?_⟩) | fail)
  refine aw_loop_to 4 (X := DnX (fun x => ltQ e[a]! x) e I1 J1 j1) (fun x => [(0, .aref 1 i 0 n cap), (1, .int .i64 ((a : Nat) : Int)), (9, .int .i64 ((I1 : Nat) : Int)), (10, .int .i64 ((x.p : Nat) : Int))]) (fun _ => ⟨[(i, .cells (rowT mT e))], [], off, none⟩) (fun x => x.p) ⟨j1, by omega, hJ1⟩ (by repeat (first | exact .nil _ | refine .cons rfl ?_)) (.refl _) [(0, .aref 1 i 0 n cap), (1, .int .i64 ((a : Nat) : Int)), (9, .int .i64 ((I1 : Nat) : Int)), (10, .int .i64 ((J1 : Nat) : Int))] (⟨[(i, .cells (rowT mT e))], [], off, none⟩) ?_ ?_
  · rintro ⟨p, hp, hr⟩
    dsimp only at hr ⊢
    by_cases hpJ : I1 ≤ p
    · obtain ⟨m, rfl⟩ : ∃ m, p = m + 1 := ⟨p - 1, by omega⟩
      repeat' (first | (show AL _ _ _ _ _ _ _ _; first | refine so4 ?_ | refine sp Y Y Y Y Y Y (by apply Au <;> exact sd) ?_) | (show DL _ _ _ _ _ _ _; first | refine do4 ?_ | refine dp Y Y Y Y Y Y Y (by apply Au <;> exact sd) ?_) | (show AW _ _ _ _ _ _; first | (show AW _ _ (.region _ _ _) _ _ _; refine sc0 ?_; intro O1) | (refine sc1 ?_; try intro Q1)) | (show (_ → _) ∧ _; refine ⟨fun h => ?_, fun h => ?_⟩) | fail)
      · rw [scanDown, if_pos (by simp [hpJ]; simpa using h)] at hr
        exact ⟨⟨m, by omega, hr⟩, by dsimp only; omega, (by repeat (first | exact .nil _ | refine .cons rfl ?_)), .refl _⟩
      · rw [scanDown, if_neg (by simp [hpJ]; simpa using h)] at hr
        subst hr
        (refine Be ?_; show _ ∧ Knows _ _ ∧ _; exact ⟨rfl, (by repeat (first | exact .nil _ | refine .cons rfl ?_)), rfl⟩)
    · have hr2 : p = J1 := by
        rw [← hr]
        cases p with
        | zero => rfl
        | succ m => rw [scanDown, if_neg (by simp; omega)]
      subst hr2
      repeat' (first | (show AL _ _ _ _ _ _ _ _; first | refine so4 ?_ | refine sp Y Y Y Y Y Y (by apply Au <;> exact sd) ?_) | (show DL _ _ _ _ _ _ _; first | refine do4 ?_ | refine dp Y Y Y Y Y Y Y (by apply Au <;> exact sd) ?_) | (show AW _ _ _ _ _ _; first | (show AW _ _ (.region _ _ _) _ _ _; refine sc0 ?_; intro O1) | (refine sc1 ?_; try intro Q1)) | (show (_ → _) ∧ _; refine ⟨fun h => ?_, fun h => ?_⟩) | fail)
      (refine Be ?_; show _ ∧ Knows _ _ ∧ _; exact ⟨rfl, (by repeat (first | exact .nil _ | refine .cons rfl ?_)), rfl⟩)
  intro a' hk
  show AW _ _ _ _ _ _
  refine aw_forget hk ?_
  rw [hI1, hJ1] at hr
  by_cases hIJ : I1 > J1
  · rw [if_pos hIJ] at hr
    subst hr
    repeat' (first | (show AL _ _ _ _ _ _ _ _; first | refine so4 ?_) | (show DL _ _ _ _ _ _ _; first | refine do4 ?_) | (show AW _ _ _ _ _ _; (fail_if_success show AW _ _ (.region 8 _ _) _ _ _); first | (show AW _ _ (.region _ _ _) _ _ _; refine sc0 ?_; intro O1) | (refine sc1 ?_; try intro Q1)) | (show (_ → _) ∧ _; refine ⟨fun h => ?_, fun h => ?_⟩) | fail)
    try dsimp (config := { zetaDelta := true }) only [A7, Am]
    rw [hp]
    refine ret_row 0 (Ae rfl Ag) ?_ (.refl _) ?_ <;> rfl
  · rw [if_neg hIJ] at hr
    repeat' (first | (show AL _ _ _ _ _ _ _ _; first | refine so4 ?_) | (show DL _ _ _ _ _ _ _; first | refine do4 ?_) | (show AW _ _ _ _ _ _; (fail_if_success show AW _ _ (.region 8 _ _) _ _ _); first | (show AW _ _ (.region _ _ _) _ _ _; refine sc0 ?_; intro O1) | (refine sc1 ?_; try intro Q1)) | (show (_ → _) ∧ _; refine ⟨fun h => ?_, fun h => ?_⟩) | fail)
    refine Bg (m := 14) [13] [7, 11] (fun σ => ∃ c : Array Nat, c.size = n ∧ σ = ⟨[(i, .cells (rowT mT c))], [], off, none⟩) mix Y Y (by repeat (first | exact Sp.zero _ | apply Sp.succ)) ?_; intro O1 F1 Z1 Q2; repeat' (first
    | (refine' dq0_cons Y Y Y Y (fun σ hσ K kk => ?_) ?_; (try (show Go.Ts.T; rotate_left)); (obtain ⟨c, hcn, hcs⟩ := hσ; subst hcs); (first
      | (show AOp _ _ ⟨_, .move _, _, _, _, _⟩ _ _ _; refine r_move hG Y Y ?_)
      | (show AOp _ _ ⟨_, .assign _, _, _, _, _⟩ _ _ _; refine r_asg hG Y Y ?_)
      | (show AOp _ _ ⟨_, .binOp .add _ _ _ _, _, _, _, _⟩ _ _ _; first | refine Ah hG Y Y Y Y Y (by omega) ?_ | refine Ah (m := 1) hG Y Y Y Y Y (by omega) ?_ | refine Ao hG Y Y Y Y Y (by omega) ?_)
      | (show AOp _ _ ⟨_, .binOp .sub _ _ _ _, _, _, _, _⟩ _ _ _; first | refine A8 hG Y Y Y Y (by omega) ?_ | refine A8 (m := 1) hG Y Y Y Y (by omega) ?_ | refine r_subU (m := 1) hG Y Y Y Y (by omega) ?_ | refine Ao hG Y Y Y Y Y (by omega) ?_)
      | (show AOp _ _ ⟨_, .binOp _ _ _ _ _, _, _, _, _⟩ _ _ _; first | refine r_cmpT hG Y Y Y Y Y (by omega) ?_ | refine r_cmpF hG Y Y Y Y Y (by omega) ?_)
      | (show AOp _ _ ⟨_, .load _ _, _, _, _, _⟩ _ _ _; first | refine Ar (α := Nat) 0 hG Y Y Y Y (by omega) Y ?_ | refine Ar (α := Nat) 1 hG Y Y Y Y (by omega) Y ?_ | refine r_ldro hG Y Y Y ?_ | refine r_ld 0 hG Y Y Y Y ?_)
      | (show AOp _ _ ⟨_, .indexAddr _ _ _, _, _, _, _⟩ _ _ _; first | refine r_idxL hG Y Y Y Y Y Y Y (by omega) ?_ | refine r_idxn hG Y Y Y Y Y Y Y (by omega) ?_ | refine r_idxm hG Y Y Y Y Y Y Y (by omega) ?_ | refine r_idx hG Y Y ?_)
      | (show AOp _ _ ⟨_, .pick _ _ _, _, _, _, _⟩ _ _ _; refine r_pick hG Y Y Y ?_)
      | (show AOp _ _ ⟨_, .unOp _ _ _, _, _, _, _⟩ _ _ _; refine r_not hG Y Y Y ?_)
      | (show AOp _ _ ⟨_, .store _ _ _, _, _, _, _⟩ _ _ _; first | refine At (α := Nat) 0 hG Y Y Y Aj Aw Y Y (by first | omega | (simp only [Array.size_setIfInBounds]; omega)) ?_ | refine At (α := Nat) 1 hG Y Y Y Aj Aw Y Y (by first | omega | (simp only [Array.size_setIfInBounds]; omega)) ?_ | refine r_st 0 hG Y Y Y Y Y Y Y ?_)
      | refine r_q hG Y Y Y ?_); exact kk)
    | (refine' Bi Y Y Y Y (fun K kk => ?_) ?_; (try (show Go.Ts.T; rotate_left)); (first | refine Ar 0 hG Y Y Y Y (by omega) Y ?_ | refine Ar 1 hG Y Y Y Y (by omega) Y ?_); exact kk)
    | refine dq0_e Y ?_ | (refine dq0_nil ?_; show EL _ _ _ _ _ _ _ _ _)
    | (refine Ba ⟨_, (by first | assumption | (simp only [Array.size_setIfInBounds]; omega)), Y⟩ Y Y Y (fun K ke => ?_); (first | refine At (α := Nat) 0 hG Y Y Y Aj Aw Y Y (by first | omega | (simp only [Array.size_setIfInBounds]; omega)) ?_ | refine At (α := Nat) 1 hG Y Y Y Aj Aw Y Y (by first | omega | (simp only [Array.size_setIfInBounds]; omega)) ?_); refine ke (.tup []) _ ?_)
    | (refine el_nil ⟨_, (by first | assumption | (simp only [Array.size_setIfInBounds]; omega)), Y⟩ ?_; show AL _ _ _ _ _ _ _ _) | fail)
    repeat' (first | (show AL _ _ _ _ _ _ _ _; first | refine so4 ?_) | (show DL _ _ _ _ _ _ _; first | refine do4 ?_) | (show AW _ _ _ _ _ _; first | (show AW _ _ (.region _ _ _) _ _ _; refine sc0 ?_; intro O1) | (refine sc1 ?_; try intro Q1)) | (show (_ → _) ∧ _; refine ⟨fun h => ?_, fun h => ?_⟩) | fail)
    exact ⟨⟨I1 + 1, J1 - 1, swp e I1 J1, by rw [size_swp]; exact hen, by omega, hr⟩, by dsimp only; omega, (by repeat (first | exact .nil _ | refine .cons rfl ?_)), .refl _⟩
end Go.Proofs.Ythfgocinlbogeaa
set_option maxHeartbeats 4000000
namespace Go.Ts
theorem aw_to2 {P : Program} {N : Nat} {σ : St} {a : Env} {Q : Exit → Env → St → Prop} {c c2 : Code} (a1 : Env) (σ1 : St)
    (h : AW P N c (A7 (AW P N c2 (fun e a' σ' => e = .normal ∧ Knows a' a1 ∧ σ' = σ1)) (fun e a' σ' => e = .normal ∧ Knows a' a1 ∧ σ' = σ1)) a σ)
    (rest : ∀ a', Knows a' a1 → Q .normal a' σ1) : AW P N c (A7 (AW P N c2 Q) Q) a σ := by
  have key : ∀ e a' σ', (e = Exit.normal ∧ Knows a' a1 ∧ σ' = σ1) → Q e a' σ' := by
    rintro e a' σ' ⟨rfl, hk, rfl⟩; exact rest a' hk
  refine h.mono ?_
  intro e a' σ' h'
  cases e with
  | normal => exact AW.mono h' key
  | _ => exact key _ _ _ h'
end Go.Ts
namespace Go.Proofs.Ythfgocinlbogeaa
open Go.Ts
set_option linter.unusedSimpArgs false
set_option linter.unusedVariables false
attribute [local irreducible] Go.Ts.AW Go.Ts.AOps Go.Ts.AL Go.Ts.AOp Go.Ts.ACalls Go.Ts.DL Go.Ts.DQ0 Go.Ts.EL
open Go.Sort
structure PiX (a b n : Nat) (R : Array Nat × Bool) where
  s : Nat
  i : Nat
  jj : Nat
  d : Array Nat
  hn : d.size = n
  hj : jj + s = 5
  hi : a < i ∧ i ≤ b
  hr : partialIns ltQ a b s i d = R
structure SsX (d : Array Nat) (a b I : Nat) where
  p : Nat
  hp : a < p ∧ p ≤ b
  hr : scanSorted ltQ d b p = I
structure SdX (D : Array Nat) (n top : Nat) where
  p : Nat
  d : Array Nat
  hn : d.size = n
  hp : p ≤ top
  hr : shiftDown ltQ p d = D
structure SuX (D : Array Nat) (b n : Nat) where
  p : Nat
  d : Array Nat
  hn : d.size = n
  hp : 0 < p ∧ p ≤ b + 1
  hr : shiftUp ltQ b p d = D
theorem shiftDown_size : ∀ (p : Nat) (d : Array Nat), (shiftDown ltQ p d).size = d.size
  | 0, d => rfl
  | p + 1, d => by
    rw [shiftDown]; split
    · rfl
    · rw [shiftDown_size, size_swp]
theorem shiftUp_size (b : Nat) : ∀ (m p : Nat) (d : Array Nat), b - p ≤ m → (shiftUp ltQ b p d).size = d.size := by
  intro m
  induction m with
  | zero => intro p d h; rw [shiftUp, if_neg (by omega)]
  | succ m ih =>
    intro p d h
    rw [shiftUp]; split
    · split
      · rfl
      · rw [ih _ _ (by omega), size_swp]
    · rfl
theorem fixDown_size (a i : Nat) (d : Array Nat) : (fixDown ltQ a i d).size = d.size := by
  unfold fixDown; split
  · exact shiftDown_size _ _
  · rfl
theorem fixUp_size (b i : Nat) (d : Array Nat) : (fixUp ltQ b i d).size = d.size := by
  unfold fixUp; split
  · exact shiftUp_size b _ _ _ (Nat.le_refl _)
  · rfl
theorem scanS_ge (d : Array Nat) (b : Nat) : ∀ m p, b - p ≤ m → p ≤ b → p ≤ scanSorted ltQ d b p ∧ scanSorted ltQ d b p ≤ b := by
  intro m
  induction m with
  | zero => intro p h h2; rw [scanSorted, if_neg (by simp; omega)]; omega
  | succ m ih =>
    intro p h h2
    rw [scanSorted]; split
    · rename_i hc; simp at hc; have := ih (p + 1) (by omega) (by omega); omega
    · omega
theorem srt_pins {d0 : Array Nat} {a b : Nat} (hab : a < b) (hb : b ≤ d0.size) (hs : d0.size ≤ 4294967296) : OnRow Try.prog 108 mT [.int .i64 (a : Int), .int .i64 (b : Int)] d0
    (.bool (partialInsertionSort ltQ d0 a b).2) (partialInsertionSort ltQ d0 a b).1 := by
  intro off i n cap hn
  refine Af (N := 133) (rs := [.tmp 6]) hG Try.func108 rfl rfl rfl rfl rfl ?_
  repeat' (first | (show AL _ _ _ _ _ _ _ _; first | refine so4 ?_) | (show DL _ _ _ _ _ _ _; first | refine do4 ?_) | (show AW _ _ _ _ _ _; first | (show AW _ _ (.region _ _ _) _ _ _; refine sc0 ?_; intro O1) | (refine sc1 ?_; try intro Q1)) | (show (_ → _) ∧ _; refine ⟨fun h => ?_, fun h => ?_⟩) | fail)
  obtain ⟨R, hR⟩ : ∃ R, partialIns ltQ a b 5 (a + 1) d0 = R := ⟨_, rfl⟩
  have hp : partialInsertionSort ltQ d0 a b = R := hR
  refine A5 (X := PiX a b n R) (fun x => [(0, .aref 1 i 0 n cap), (1, .int .i64 (a : Int)), (2, .int .i64 (b : Int)), (7, .int .i64 (x.i : Int)), (8, .int .i64 (x.jj : Int))]) (fun x => ⟨[(i, .cells (rowT mT x.d))], [], off, none⟩) (fun x => x.s) ⟨5, a + 1, 0, d0, hn, rfl, by omega, hR⟩ (by repeat (first | exact .nil _ | refine .cons rfl ?_)) (.refl _) ?_
  clear hR
  rintro ⟨s, p, jj, d, hdn, hj, hi, hr⟩
  dsimp only at hr ⊢
  cases s with
  | zero =>
    rw [partialIns] at hr
    subst hr
    obtain rfl : jj = 5 := by omega
    repeat' (first | (show AL _ _ _ _ _ _ _ _; first | refine so4 ?_) | (show DL _ _ _ _ _ _ _; first | refine do4 ?_) | (show AW _ _ _ _ _ _; first | (show AW _ _ (.region _ _ _) _ _ _; refine sc0 ?_; intro O1) | (refine sc1 ?_; try intro Q1)) | (show (_ → _) ∧ _; refine ⟨fun h => ?_, fun h => ?_⟩) | fail)
    try dsimp (config := { zetaDelta := true }) only [A7, Am]
    rw [hp]
    refine ret_row 0 (Ae rfl Ag) ?_ (.refl _) ?_ <;> rfl
  | succ s =>
    rw [partialIns_succ] at hr
    obtain ⟨I, hI⟩ : ∃ I, scanSorted ltQ d b p = I := ⟨_, rfl⟩
    have gI := scanS_ge d b _ p (Nat.le_refl _) hi.2
    rw [hI] at gI hr
    repeat' (first | (show AL _ _ _ _ _ _ _ _; first | refine so4 ?_) | (show DL _ _ _ _ _ _ _; first | refine do4 ?_) | (show AW _ _ _ _ _ _; first | (show AW _ _ (.region _ _ _) _ _ _; refine sc0 ?_; intro O1) | (refine sc1 ?_; try intro Q1)) | (show (_ → _) ∧ _; refine ⟨fun h => ?_, fun h => ?_⟩) | fail)
    refine aw_loop_to 2 (X := SsX d a b I) (fun x => [(0, .aref 1 i 0 n cap), (1, .int .i64 (a : Int)), (2, .int .i64 (b : Int)), (7, .int .i64 (x.p : Int)), (8, .int .i64 (jj : Int))]) (fun _ => ⟨[(i, .cells (rowT mT d))], [], off, none⟩) (fun x => b - x.p) ⟨p, by omega, hI⟩ (by repeat (first | exact .nil _ | refine .cons rfl ?_)) (.refl _) [(0, .aref 1 i 0 n cap), (1, .int .i64 (a : Int)), (2, .int .i64 (b : Int)), (7, .int .i64 (I : Int)), (8, .int .i64 (jj : Int))] (⟨[(i, .cells (rowT mT d))], [], off, none⟩) ?_ ?_
    · rintro ⟨q, hq, hrq⟩
      dsimp only at hrq ⊢
      by_cases hqb : q < b
      · repeat' (first | (show AL _ _ _ _ _ _ _ _; first | refine so4 ?_ | refine sp Y Y Y Y Y Y (by apply Au <;> exact sd) ?_) | (show DL _ _ _ _ _ _ _; first | refine do4 ?_ | refine dp Y Y Y Y Y Y Y (by apply Au <;> exact sd) ?_) | (show AW _ _ _ _ _ _; first | (show AW _ _ (.region _ _ _) _ _ _; refine sc0 ?_; intro O1) | (refine sc1 ?_; try intro Q1)) | (show (_ → _) ∧ _; refine ⟨fun h => ?_, fun h => ?_⟩) | fail)
        · rw [scanSorted, if_pos (by simp [hqb]; simpa using h)] at hrq
          exact ⟨⟨q + 1, by omega, hrq⟩, by dsimp only; omega, (by repeat (first | exact .nil _ | refine .cons rfl ?_)), .refl _⟩
        · rw [scanSorted, if_neg (by simp [hqb]; simpa using h)] at hrq
          subst hrq
          (refine Be ?_; show _ ∧ Knows _ _ ∧ _; exact ⟨rfl, (by repeat (first | exact .nil _ | refine .cons rfl ?_)), rfl⟩)
      · rw [scanSorted, if_neg (by simp [hqb])] at hrq
        subst hrq
        repeat' (first | (show AL _ _ _ _ _ _ _ _; first | refine so4 ?_ | refine sp Y Y Y Y Y Y (by apply Au <;> exact sd) ?_) | (show DL _ _ _ _ _ _ _; first | refine do4 ?_ | refine dp Y Y Y Y Y Y Y (by apply Au <;> exact sd) ?_) | (show AW _ _ _ _ _ _; first | (show AW _ _ (.region _ _ _) _ _ _; refine sc0 ?_; intro O1) | (refine sc1 ?_; try intro Q1)) | (show (_ → _) ∧ _; refine ⟨fun h => ?_, fun h => ?_⟩) | fail)
        (refine Be ?_; show _ ∧ Knows _ _ ∧ _; exact ⟨rfl, (by repeat (first | exact .nil _ | refine .cons rfl ?_)), rfl⟩)
    intro a' hk
    show AW _ _ _ _ _ _
    refine aw_forget hk ?_
    by_cases h1 : I = b
    · rw [if_pos h1] at hr
      subst hr
      repeat' (first | (show AL _ _ _ _ _ _ _ _; first | refine so4 ?_) | (show DL _ _ _ _ _ _ _; first | refine do4 ?_) | (show AW _ _ _ _ _ _; first | (show AW _ _ (.region _ _ _) _ _ _; refine sc0 ?_; intro O1) | (refine sc1 ?_; try intro Q1)) | (show (_ → _) ∧ _; refine ⟨fun h => ?_, fun h => ?_⟩) | fail)
      try dsimp (config := { zetaDelta := true }) only [A7, Am]
      rw [hp]
      refine ret_row 0 (Ae rfl Ag) ?_ (.refl _) ?_ <;> rfl
    · rw [if_neg h1] at hr
      by_cases h2 : b - a < 50
      · rw [if_pos h2] at hr
        subst hr
        repeat' (first | (show AL _ _ _ _ _ _ _ _; first | refine so4 ?_) | (show DL _ _ _ _ _ _ _; first | refine do4 ?_) | (show AW _ _ _ _ _ _; first | (show AW _ _ (.region _ _ _) _ _ _; refine sc0 ?_; intro O1) | (refine sc1 ?_; try intro Q1)) | (show (_ → _) ∧ _; refine ⟨fun h => ?_, fun h => ?_⟩) | fail)
        try dsimp (config := { zetaDelta := true }) only [A7, Am]
        rw [hp]
        refine ret_row 0 (Ae rfl Ag) ?_ (.refl _) ?_ <;> rfl
      · rw [if_neg h2] at hr
        repeat' (first | (show AL _ _ _ _ _ _ _ _; first | refine so4 ?_) | (show DL _ _ _ _ _ _ _; first | refine do4 ?_) | (show AW _ _ _ _ _ _; (fail_if_success show AW _ _ (.region 11 _ _) _ _ _); first | (show AW _ _ (.region _ _ _) _ _ _; refine sc0 ?_; intro O1) | (refine sc1 ?_; try intro Q1)) | (show (_ → _) ∧ _; refine ⟨fun h => ?_, fun h => ?_⟩) | fail)
        refine Bg (m := 16) [15] [9, 13] (fun σ => ∃ c : Array Nat, c.size = n ∧ σ = ⟨[(i, .cells (rowT mT c))], [], off, none⟩) mix Y Y (by repeat (first | exact Sp.zero _ | apply Sp.succ)) ?_; intro O1 F1 Z1 Q2; repeat' (first
    | (refine' dq0_cons Y Y Y Y (fun σ hσ K kk => ?_) ?_; (try (show Go.Ts.T; rotate_left)); (obtain ⟨c, hcn, hcs⟩ := hσ; subst hcs); (first
      | (show AOp _ _ ⟨_, .move _, _, _, _, _⟩ _ _ _; refine r_move hG Y Y ?_)
      | (show AOp _ _ ⟨_, .assign _, _, _, _, _⟩ _ _ _; refine r_asg hG Y Y ?_)
      | (show AOp _ _ ⟨_, .binOp .add _ _ _ _, _, _, _, _⟩ _ _ _; first | refine Ah hG Y Y Y Y Y (by omega) ?_ | refine Ah (m := 1) hG Y Y Y Y Y (by omega) ?_ | refine Ao hG Y Y Y Y Y (by omega) ?_)
      | (show AOp _ _ ⟨_, .binOp .sub _ _ _ _, _, _, _, _⟩ _ _ _; first | refine A8 hG Y Y Y Y (by omega) ?_ | refine A8 (m := 1) hG Y Y Y Y (by omega) ?_ | refine r_subU (m := 1) hG Y Y Y Y (by omega) ?_ | refine Ao hG Y Y Y Y Y (by omega) ?_)
      | (show AOp _ _ ⟨_, .binOp _ _ _ _ _, _, _, _, _⟩ _ _ _; first | refine r_cmpT hG Y Y Y Y Y (by omega) ?_ | refine r_cmpF hG Y Y Y Y Y (by omega) ?_)
      | (show AOp _ _ ⟨_, .load _ _, _, _, _, _⟩ _ _ _; first | refine Ar (α := Nat) 0 hG Y Y Y Y (by omega) Y ?_ | refine Ar (α := Nat) 1 hG Y Y Y Y (by omega) Y ?_ | refine r_ldro hG Y Y Y ?_ | refine r_ld 0 hG Y Y Y Y ?_)
      | (show AOp _ _ ⟨_, .indexAddr _ _ _, _, _, _, _⟩ _ _ _; first | refine r_idxL hG Y Y Y Y Y Y Y (by omega) ?_ | refine r_idxn hG Y Y Y Y Y Y Y (by omega) ?_ | refine r_idxm hG Y Y Y Y Y Y Y (by omega) ?_ | refine r_idx hG Y Y ?_)
      | (show AOp _ _ ⟨_, .pick _ _ _, _, _, _, _⟩ _ _ _; refine r_pick hG Y Y Y ?_)
      | (show AOp _ _ ⟨_, .unOp _ _ _, _, _, _, _⟩ _ _ _; refine r_not hG Y Y Y ?_)
      | (show AOp _ _ ⟨_, .store _ _ _, _, _, _, _⟩ _ _ _; first | refine At (α := Nat) 0 hG Y Y Y Aj Aw Y Y (by first | omega | (simp only [Array.size_setIfInBounds]; omega)) ?_ | refine At (α := Nat) 1 hG Y Y Y Aj Aw Y Y (by first | omega | (simp only [Array.size_setIfInBounds]; omega)) ?_ | refine r_st 0 hG Y Y Y Y Y Y Y ?_)
      | refine r_q hG Y Y Y ?_); exact kk)
    | (refine' Bi Y Y Y Y (fun K kk => ?_) ?_; (try (show Go.Ts.T; rotate_left)); (first | refine Ar 0 hG Y Y Y Y (by omega) Y ?_ | refine Ar 1 hG Y Y Y Y (by omega) Y ?_); exact kk)
    | refine dq0_e Y ?_ | (refine dq0_nil ?_; show EL _ _ _ _ _ _ _ _ _)
    | (refine Ba ⟨_, (by first | assumption | (simp only [Array.size_setIfInBounds]; omega)), Y⟩ Y Y Y (fun K ke => ?_); (first | refine At (α := Nat) 0 hG Y Y Y Aj Aw Y Y (by first | omega | (simp only [Array.size_setIfInBounds]; omega)) ?_ | refine At (α := Nat) 1 hG Y Y Y Aj Aw Y Y (by first | omega | (simp only [Array.size_setIfInBounds]; omega)) ?_); refine ke (.tup []) _ ?_)
    | (refine el_nil ⟨_, (by first | assumption | (simp only [Array.size_setIfInBounds]; omega)), Y⟩ ?_; show AL _ _ _ _ _ _ _ _) | fail)
        repeat' (first | (show AL _ _ _ _ _ _ _ _; first | refine so4 ?_) | (show DL _ _ _ _ _ _ _; first | refine do4 ?_) | (show AW _ _ _ _ _ _; (fail_if_success show AW _ _ (.region 12 _ _) _ _ _); first | (show AW _ _ (.region _ _ _) _ _ _; refine sc0 ?_; intro O1) | (refine sc1 ?_; try intro Q1)) | (show (_ → _) ∧ _; refine ⟨fun h => ?_, fun h => ?_⟩) | fail)
        have hsn : (swp d I (I - 1)).size = n := by rw [size_swp]; exact hdn
        refine aw_to2 [(0, .aref 1 i 0 n cap), (1, .int .i64 (a : Int)), (2, .int .i64 (b : Int)), (7, .int .i64 (I : Int)), (8, .int .i64 (jj : Int))] (⟨[(i, .cells (rowT mT (fixDown ltQ a I (swp d I (I - 1)))))], [], off, none⟩) ?_ ?_
        · by_cases h3 : I - a ≥ 2
          · obtain ⟨D, hD⟩ : ∃ D, shiftDown ltQ (I - 1) (swp d I (I - 1)) = D := ⟨_, rfl⟩
            have hf : fixDown ltQ a I (swp d I (I - 1)) = D := by unfold fixDown; rw [if_pos h3]; exact hD
            rw [hf]
            repeat' (first | (show AL _ _ _ _ _ _ _ _; first | refine so4 ?_) | (show DL _ _ _ _ _ _ _; first | refine do4 ?_) | (show AW _ _ _ _ _ _; first | (show AW _ _ (.region _ _ _) _ _ _; refine sc0 ?_; intro O1) | (refine sc1 ?_; try intro Q1)) | (show (_ → _) ∧ _; refine ⟨fun h => ?_, fun h => ?_⟩) | fail)
            refine aw_loop_to 4 (X := SdX D n (I - 1)) (fun x => [(0, .aref 1 i 0 n cap), (1, .int .i64 (a : Int)), (2, .int .i64 (b : Int)), (7, .int .i64 (I : Int)), (8, .int .i64 (jj : Int)), (9, .int .i64 (x.p : Int))]) (fun x => ⟨[(i, .cells (rowT mT x.d))], [], off, none⟩) (fun x => x.p) ⟨I - 1, swp d I (I - 1), hsn, Nat.le_refl _, hD⟩ (by repeat (first | exact .nil _ | refine .cons rfl ?_)) (.refl _) [(0, .aref 1 i 0 n cap), (1, .int .i64 (a : Int)), (2, .int .i64 (b : Int)), (7, .int .i64 (I : Int)), (8, .int .i64 (jj : Int))] (⟨[(i, .cells (rowT mT D))], [], off, none⟩) ?_ ?_
            · rintro ⟨q, e, hen, hq, hrq⟩
              dsimp only at hrq ⊢
              cases q with
              | zero =>
                rw [shiftDown] at hrq
                subst hrq
                repeat' (first | (show AL _ _ _ _ _ _ _ _; first | refine so4 ?_ | refine sp Y Y Y Y Y Y (by apply Au <;> exact sd) ?_) | (show DL _ _ _ _ _ _ _; first | refine do4 ?_ | refine dp Y Y Y Y Y Y Y (by apply Au <;> exact sd) ?_) | (show AW _ _ _ _ _ _; first | (show AW _ _ (.region _ _ _) _ _ _; refine sc0 ?_; intro O1) | (refine sc1 ?_; try intro Q1)) | (show (_ → _) ∧ _; refine ⟨fun h => ?_, fun h => ?_⟩) | fail)
                (refine Be ?_; show _ ∧ Knows _ _ ∧ _; exact ⟨rfl, (by repeat (first | exact .nil _ | refine .cons rfl ?_)), rfl⟩)
              | succ m =>
                rw [shiftDown] at hrq
                repeat' (first | (show AL _ _ _ _ _ _ _ _; first | refine so4 ?_ | refine sp Y Y Y Y Y Y (by apply Au <;> exact sd) ?_) | (show DL _ _ _ _ _ _ _; first | refine do4 ?_ | refine dp Y Y Y Y Y Y Y (by apply Au <;> exact sd) ?_) | (show AW _ _ _ _ _ _; (fail_if_success show AW _ _ (.region 17 _ _) _ _ _); first | (show AW _ _ (.region _ _ _) _ _ _; refine sc0 ?_; intro O1) | (refine sc1 ?_; try intro Q1)) | (show (_ → _) ∧ _; refine ⟨fun h => ?_, fun h => ?_⟩) | fail)
                · rw [if_pos (show (!ltQ e[m + 1]! e[m]!) = true from h)] at hrq
                  subst hrq
                  (refine Be ?_; show _ ∧ Knows _ _ ∧ _; exact ⟨rfl, (by repeat (first | exact .nil _ | refine .cons rfl ?_)), rfl⟩)
                · rw [if_neg (by rw [show (!ltQ e[m + 1]! e[m]!) = false from h]; simp)] at hrq
                  refine Bg (m := 16) [15] [9, 13] (fun σ => ∃ c : Array Nat, c.size = n ∧ σ = ⟨[(i, .cells (rowT mT c))], [], off, none⟩) mix Y Y (by repeat (first | exact Sp.zero _ | apply Sp.succ)) ?_; intro O1 F1 Z1 Q2; repeat' (first
    | (refine' dq0_cons Y Y Y Y (fun σ hσ K kk => ?_) ?_; (try (show Go.Ts.T; rotate_left)); (obtain ⟨c, hcn, hcs⟩ := hσ; subst hcs); (first
      | (show AOp _ _ ⟨_, .move _, _, _, _, _⟩ _ _ _; refine r_move hG Y Y ?_)
      | (show AOp _ _ ⟨_, .assign _, _, _, _, _⟩ _ _ _; refine r_asg hG Y Y ?_)
      | (show AOp _ _ ⟨_, .binOp .add _ _ _ _, _, _, _, _⟩ _ _ _; first | refine Ah hG Y Y Y Y Y (by omega) ?_ | refine Ah (m := 1) hG Y Y Y Y Y (by omega) ?_ | refine Ao hG Y Y Y Y Y (by omega) ?_)
      | (show AOp _ _ ⟨_, .binOp .sub _ _ _ _, _, _, _, _⟩ _ _ _; first | refine A8 hG Y Y Y Y (by omega) ?_ | refine A8 (m := 1) hG Y Y Y Y (by omega) ?_ | refine r_subU (m := 1) hG Y Y Y Y (by omega) ?_ | refine Ao hG Y Y Y Y Y (by omega) ?_)
      | (show AOp _ _ ⟨_, .binOp _ _ _ _ _, _, _, _, _⟩ _ _ _; first | refine r_cmpT hG Y Y Y Y Y (by omega) ?_ | refine r_cmpF hG Y Y Y Y Y (by omega) ?_)
      | (show AOp _ _ ⟨_, .load _ _, _, _, _, _⟩ _ _ _; first | refine Ar (α := Nat) 0 hG Y Y Y Y (by omega) Y ?_ | refine Ar (α := Nat) 1 hG Y Y Y Y (by omega) Y ?_ | refine r_ldro hG Y Y Y ?_ | refine r_ld 0 hG Y Y Y Y ?_)
      | (show AOp _ _ ⟨_, .indexAddr _ _ _, _, _, _, _⟩ _ _ _; first | refine r_idxL hG Y Y Y Y Y Y Y (by omega) ?_ | refine r_idxn hG Y Y Y Y Y Y Y (by omega) ?_ | refine r_idxm hG Y Y Y Y Y Y Y (by omega) ?_ | refine r_idx hG Y Y ?_)
      | (show AOp _ _ ⟨_, .pick _ _ _, _, _, _, _⟩ _ _ _; refine r_pick hG Y Y Y ?_)
      | (show AOp _ _ ⟨_, .unOp _ _ _, _, _, _, _⟩ _ _ _; refine r_not hG Y Y Y ?_)
      | (show AOp _ _ ⟨_, .store _ _ _, _, _, _, _⟩ _ _ _; first | refine At (α := Nat) 0 hG Y Y Y Aj Aw Y Y (by first | omega | (simp only [Array.size_setIfInBounds]; omega)) ?_ | refine At (α := Nat) 1 hG Y Y Y Aj Aw Y Y (by first | omega | (simp only [Array.size_setIfInBounds]; omega)) ?_ | refine r_st 0 hG Y Y Y Y Y Y Y ?_)
      | refine r_q hG Y Y Y ?_); exact kk)
    | (refine' Bi Y Y Y Y (fun K kk => ?_) ?_; (try (show Go.Ts.T; rotate_left)); (first | refine Ar 0 hG Y Y Y Y (by omega) Y ?_ | refine Ar 1 hG Y Y Y Y (by omega) Y ?_); exact kk)
    | refine dq0_e Y ?_ | (refine dq0_nil ?_; show EL _ _ _ _ _ _ _ _ _)
    | (refine Ba ⟨_, (by first | assumption | (simp only [Array.size_setIfInBounds]; omega)), Y⟩ Y Y Y (fun K ke => ?_); (first | refine At (α := Nat) 0 hG Y Y Y Aj Aw Y Y (by first | omega | (simp only [Array.size_setIfInBounds]; omega)) ?_ | refine At (α := Nat) 1 hG Y Y Y Aj Aw Y Y (by first | omega | (simp only [Array.size_setIfInBounds]; omega)) ?_); refine ke (.tup []) _ ?_)
    | (refine el_nil ⟨_, (by first | assumption | (simp only [Array.size_setIfInBounds]; omega)), Y⟩ ?_; show AL _ _ _ _ _ _ _ _) | fail)
                  repeat' (first | (show AL _ _ _ _ _ _ _ _; first | refine so4 ?_) | (show DL _ _ _ _ _ _ _; first | refine do4 ?_) | (show AW _ _ _ _ _ _; first | (show AW _ _ (.region _ _ _) _ _ _; refine sc0 ?_; intro O1) | (refine sc1 ?_; try intro Q1)) | (show (_ → _) ∧ _; refine ⟨fun h => ?_, fun h => ?_⟩) | fail)
                  exact ⟨⟨m, swp e (m + 1) m, by rw [size_swp]; exact hen, by omega, hrq⟩, by dsimp only; omega, (by repeat (first | exact .nil _ | refine .cons rfl ?_)), .refl _⟩
            · intro a' hk
              exact ⟨rfl, hk, rfl⟩
          · have hf : fixDown ltQ a I (swp d I (I - 1)) = swp d I (I - 1) := by unfold fixDown; rw [if_neg h3]
            rw [hf]
            repeat' (first | (show AL _ _ _ _ _ _ _ _; first | refine so4 ?_) | (show DL _ _ _ _ _ _ _; first | refine do4 ?_) | (show AW _ _ _ _ _ _; first | (show AW _ _ (.region _ _ _) _ _ _; refine sc0 ?_; intro O1) | (refine sc1 ?_; try intro Q1)) | (show (_ → _) ∧ _; refine ⟨fun h => ?_, fun h => ?_⟩) | fail)
            refine aw_skip ?_
            exact ⟨rfl, (by repeat (first | exact .nil _ | refine .cons rfl ?_)), rfl⟩
        intro a' hk
        show AW _ _ _ _ _ _
        refine aw_forget hk ?_
        have hfn : (fixDown ltQ a I (swp d I (I - 1))).size = n := by rw [fixDown_size]; exact hsn
        obtain ⟨g, hg⟩ : ∃ g, fixDown ltQ a I (swp d I (I - 1)) = g := ⟨_, rfl⟩
        rw [hg] at hr hfn ⊢
        repeat' (first | (show AL _ _ _ _ _ _ _ _; first | refine so4 ?_) | (show DL _ _ _ _ _ _ _; first | refine do4 ?_) | (show AW _ _ _ _ _ _; (fail_if_success show AW _ _ (.region 18 _ _) _ _ _); first | (show AW _ _ (.region _ _ _) _ _ _; refine sc0 ?_; intro O1) | (refine sc1 ?_; try intro Q1)) | (show (_ → _) ∧ _; refine ⟨fun h => ?_, fun h => ?_⟩) | fail)
        refine aw_to2 [(0, .aref 1 i 0 n cap), (1, .int .i64 (a : Int)), (2, .int .i64 (b : Int)), (7, .int .i64 (I : Int)), (8, .int .i64 (jj : Int))] (⟨[(i, .cells (rowT mT (fixUp ltQ b I g)))], [], off, none⟩) ?_ ?_
        · by_cases h3 : b - I ≥ 2
          · obtain ⟨D, hD⟩ : ∃ D, shiftUp ltQ b (I + 1) g = D := ⟨_, rfl⟩
            have hf : fixUp ltQ b I g = D := by unfold fixUp; rw [if_pos h3]; exact hD
            rw [hf]
            repeat' (first | (show AL _ _ _ _ _ _ _ _; first | refine so4 ?_) | (show DL _ _ _ _ _ _ _; first | refine do4 ?_) | (show AW _ _ _ _ _ _; first | (show AW _ _ (.region _ _ _) _ _ _; refine sc0 ?_; intro O1) | (refine sc1 ?_; try intro Q1)) | (show (_ → _) ∧ _; refine ⟨fun h => ?_, fun h => ?_⟩) | fail)
            refine aw_loop_to 6 (X := SuX D b n) (fun x => [(0, .aref 1 i 0 n cap), (1, .int .i64 (a : Int)), (2, .int .i64 (b : Int)), (7, .int .i64 (I : Int)), (8, .int .i64 (jj : Int)), (10, .int .i64 (x.p : Int))]) (fun x => ⟨[(i, .cells (rowT mT x.d))], [], off, none⟩) (fun x => b - x.p) ⟨I + 1, g, hfn, by omega, hD⟩ (by repeat (first | exact .nil _ | refine .cons rfl ?_)) (.refl _) [(0, .aref 1 i 0 n cap), (1, .int .i64 (a : Int)), (2, .int .i64 (b : Int)), (7, .int .i64 (I : Int)), (8, .int .i64 (jj : Int))] (⟨[(i, .cells (rowT mT D))], [], off, none⟩) ?_ ?_
            · rintro ⟨q, e, hen, hq, hrq⟩
              dsimp only at hrq ⊢
              by_cases hqb : q < b
              · rw [shiftUp, if_pos hqb] at hrq
                repeat' (first | (show AL _ _ _ _ _ _ _ _; first | refine so4 ?_ | refine sp Y Y Y Y Y Y (by apply Au <;> exact sd) ?_) | (show DL _ _ _ _ _ _ _; first | refine do4 ?_ | refine dp Y Y Y Y Y Y Y (by apply Au <;> exact sd) ?_) | (show AW _ _ _ _ _ _; (fail_if_success show AW _ _ (.region 23 _ _) _ _ _); first | (show AW _ _ (.region _ _ _) _ _ _; refine sc0 ?_; intro O1) | (refine sc1 ?_; try intro Q1)) | (show (_ → _) ∧ _; refine ⟨fun h => ?_, fun h => ?_⟩) | fail)
                · rw [if_pos h] at hrq
                  subst hrq
                  (refine Be ?_; show _ ∧ Knows _ _ ∧ _; exact ⟨rfl, (by repeat (first | exact .nil _ | refine .cons rfl ?_)), rfl⟩)
                · rw [if_neg (by rw [h]; simp)] at hrq
                  refine Bg (m := 16) [15] [9, 13] (fun σ => ∃ c : Array Nat, c.size = n ∧ σ = ⟨[(i, .cells (rowT mT c))], [], off, none⟩) mix Y Y (by repeat (first | exact Sp.zero _ | apply Sp.succ)) ?_; intro O1 F1 Z1 Q2; repeat' (first
    | (refine' dq0_cons Y Y Y Y (fun σ hσ K kk => ?_) ?_; (try (show Go.Ts.T; rotate_left)); (obtain ⟨c, hcn, hcs⟩ := hσ; subst hcs); (first
      | (show AOp _ _ ⟨_, .move _, _, _, _, _⟩ _ _ _; refine r_move hG Y Y ?_)
      | (show AOp _ _ ⟨_, .assign _, _, _, _, _⟩ _ _ _; refine r_asg hG Y Y ?_)
      | (show AOp _ _ ⟨_, .binOp .add _ _ _ _, _, _, _, _⟩ _ _ _; first | refine Ah hG Y Y Y Y Y (by omega) ?_ | refine Ah (m := 1) hG Y Y Y Y Y (by omega) ?_ | refine Ao hG Y Y Y Y Y (by omega) ?_)
      | (show AOp _ _ ⟨_, .binOp .sub _ _ _ _, _, _, _, _⟩ _ _ _; first | refine A8 hG Y Y Y Y (by omega) ?_ | refine A8 (m := 1) hG Y Y Y Y (by omega) ?_ | refine r_subU (m := 1) hG Y Y Y Y (by omega) ?_ | refine Ao hG Y Y Y Y Y (by omega) ?_)
      | (show AOp _ _ ⟨_, .binOp _ _ _ _ _, _, _, _, _⟩ _ _ _; first | refine r_cmpT hG Y Y Y Y Y (by omega) ?_ | refine r_cmpF hG Y Y Y Y Y (by omega) ?_)
      | (show AOp _ _ ⟨_, .load _ _, _, _, _, _⟩ _ _ _; first | refine Ar (α := Nat) 0 hG Y Y Y Y (by omega) Y ?_ | refine Ar (α := Nat) 1 hG Y Y Y Y (by omega) Y ?_ | refine r_ldro hG Y Y Y ?_ | refine r_ld 0 hG Y Y Y Y ?_)
      | (show AOp _ _ ⟨_, .indexAddr _ _ _, _, _, _, _⟩ _ _ _; first | refine r_idxL hG Y Y Y Y Y Y Y (by omega) ?_ | refine r_idxn hG Y Y Y Y Y Y Y (by omega) ?_ | refine r_idxm hG Y Y Y Y Y Y Y (by omega) ?_ | refine r_idx hG Y Y ?_)
      | (show AOp _ _ ⟨_, .pick _ _ _, _, _, _, _⟩ _ _ _; refine r_pick hG Y Y Y ?_)
      | (show AOp _ _ ⟨_, .unOp _ _ _, _, _, _, _⟩ _ _ _; refine r_not hG Y Y Y ?_)
      | (show AOp _ _ ⟨_, .store _ _ _, _, _, _, _⟩ _ _ _; first | refine At (α := Nat) 0 hG Y Y Y Aj Aw Y Y (by first | omega | (simp only [Array.size_setIfInBounds]; omega)) ?_ | refine At (α := Nat) 1 hG Y Y Y Aj Aw Y Y (by first | omega | (simp only [Array.size_setIfInBounds]; omega)) ?_ | refine r_st 0 hG Y Y Y Y Y Y Y ?_)
      | refine r_q hG Y Y Y ?_); exact kk)
    | (refine' Bi Y Y Y Y (fun K kk => ?_) ?_; (try (show Go.Ts.T; rotate_left)); (first | refine Ar 0 hG Y Y Y Y (by omega) Y ?_ | refine Ar 1 hG Y Y Y Y (by omega) Y ?_); exact kk)
    | refine dq0_e Y ?_ | (refine dq0_nil ?_; show EL _ _ _ _ _ _ _ _ _)
    | (refine Ba ⟨_, (by first | assumption | (simp only [Array.size_setIfInBounds]; omega)), Y⟩ Y Y Y (fun K ke => ?_); (first | refine At (α := Nat) 0 hG Y Y Y Aj Aw Y Y (by first | omega | (simp only [Array.size_setIfInBounds]; omega)) ?_ | refine At (α := Nat) 1 hG Y Y Y Aj Aw Y Y (by first | omega | (simp only [Array.size_setIfInBounds]; omega)) ?_); refine ke (.tup []) _ ?_)
    | (refine el_nil ⟨_, (by first | assumption | (simp only [Array.size_setIfInBounds]; omega)), Y⟩ ?_; show AL _ _ _ _ _ _ _ _) | fail)
                  repeat' (first | (show AL _ _ _ _ _ _ _ _; first | refine so4 ?_) | (show DL _ _ _ _ _ _ _; first | refine do4 ?_) | (show AW _ _ _ _ _ _; first | (show AW _ _ (.region _ _ _) _ _ _; refine sc0 ?_; intro O1) | (refine sc1 ?_; try intro Q1)) | (show (_ → _) ∧ _; refine ⟨fun h => ?_, fun h => ?_⟩) | fail)
                  exact ⟨⟨q + 1, swp e q (q - 1), by rw [size_swp]; exact hen, by omega, hrq⟩, by dsimp only; omega, (by repeat (first | exact .nil _ | refine .cons rfl ?_)), .refl _⟩
              · rw [shiftUp, if_neg hqb] at hrq
                subst hrq
                repeat' (first | (show AL _ _ _ _ _ _ _ _; first | refine so4 ?_ | refine sp Y Y Y Y Y Y (by apply Au <;> exact sd) ?_) | (show DL _ _ _ _ _ _ _; first | refine do4 ?_ | refine dp Y Y Y Y Y Y Y (by apply Au <;> exact sd) ?_) | (show AW _ _ _ _ _ _; first | (show AW _ _ (.region _ _ _) _ _ _; refine sc0 ?_; intro O1) | (refine sc1 ?_; try intro Q1)) | (show (_ → _) ∧ _; refine ⟨fun h => ?_, fun h => ?_⟩) | fail)
                (refine Be ?_; show _ ∧ Knows _ _ ∧ _; exact ⟨rfl, (by repeat (first | exact .nil _ | refine .cons rfl ?_)), rfl⟩)
            · intro a' hk
              exact ⟨rfl, hk, rfl⟩
          · have hf : fixUp ltQ b I g = g := by unfold fixUp; rw [if_neg h3]
            rw [hf]
            repeat' (first | (show AL _ _ _ _ _ _ _ _; first | refine so4 ?_) | (show DL _ _ _ _ _ _ _; first | refine do4 ?_) | (show AW _ _ _ _ _ _; first | (show AW _ _ (.region _ _ _) _ _ _; refine sc0 ?_; intro O1) | (refine sc1 ?_; try intro Q1)) | (show (_ → _) ∧ _; refine ⟨fun h => ?_, fun h => ?_⟩) | fail)
            refine aw_skip ?_
            exact ⟨rfl, (by repeat (first | exact .nil _ | refine .cons rfl ?_)), rfl⟩
        intro a' hk
        show AW _ _ _ _ _ _
        refine aw_forget hk ?_
        repeat' (first | (show AL _ _ _ _ _ _ _ _; first | refine so4 ?_) | (show DL _ _ _ _ _ _ _; first | refine do4 ?_) | (show AW _ _ _ _ _ _; first | (show AW _ _ (.region _ _ _) _ _ _; refine sc0 ?_; intro O1) | (refine sc1 ?_; try intro Q1)) | (show (_ → _) ∧ _; refine ⟨fun h => ?_, fun h => ?_⟩) | fail)
        exact ⟨⟨s, I, jj + 1, fixUp ltQ b I g, by rw [fixUp_size]; exact hfn, by omega, by omega, hr⟩, by dsimp only; omega, (by repeat (first | exact .nil _ | refine .cons rfl ?_)), .refl _⟩
end Go.Proofs.Ythfgocinlbogeaa
set_option maxHeartbeats 4000000
namespace Go.Proofs.Ythfgocinlbogeaa
open Go.Ts
set_option linter.unusedSimpArgs false
set_option linter.unusedVariables false
attribute [local irreducible] Go.Ts.AW Go.Ts.AOps Go.Ts.AL Go.Ts.AOp Go.Ts.ACalls Go.Ts.DL Go.Ts.DQ0 Go.Ts.EL
open Go.Sort
theorem ltQ_swo : SWO ltQ where
  irrefl x := by simp [ltQ]
  trans x y z h k := by simp [ltQ] at *; omega
  ntrans x y z h k := by simp [ltQ] at *; omega
structure PdX (n m : Nat) (r : Array Nat) where
  a : Nat
  b : Nat
  lim : Nat
  wb : Bool
  wp : Bool
  d : Array Nat
  hn : d.size = n
  hab : a ≤ b
  hb : b ≤ n
  hm : b - a ≤ m
  hl : lim < 256
  hB : Below ltQ a b d
  e : pdq ltQ d a b lim wb wp = r
set_option maxHeartbeats 9000000 in
theorem srt_pdq : ∀ (m : Nat) {d0 : Array Nat} {a b lim : Nat}, b - a ≤ m → a ≤ b → b ≤ d0.size → d0.size < 256 → lim < 256 → Below ltQ a b d0 →
    OnRow Try.prog 90 mT [.int .i64 (a : Int), .int .i64 (b : Int), .int .i64 (lim : Int)] d0 (.tup []) (pdq ltQ d0 a b lim true true) := by
  intro m
  induction m using Nat.strongRecOn with
  | ind m IH =>
  intro d0 a b lim hm hab hb hs hl hB off i n cap hn
  obtain ⟨R, hR⟩ : ∃ R, pdq ltQ d0 a b lim true true = R := ⟨_, rfl⟩
  rw [hR]
  refine Af (N := 134) (rs := []) hG Try.func90 rfl rfl rfl rfl rfl ?_
  repeat' (first | (show AL _ _ _ _ _ _ _ _; first | refine so4 ?_) | (show DL _ _ _ _ _ _ _; first | refine do4 ?_) | (show AW _ _ _ _ _ _; first | (show AW _ _ (.region _ _ _) _ _ _; refine sc0 ?_; intro O1) | (refine sc1 ?_; try intro Q1)) | (show (_ → _) ∧ _; refine ⟨fun h => ?_, fun h => ?_⟩) | fail)
  refine A5 (X := PdX n m R) (fun x => [(0, .aref 1 i 0 n cap), (1, .int .i64 (x.a : Int)), (2, .int .i64 (x.b : Int)), (3, .int .i64 (x.lim : Int)), (8, .bool x.wb), (9, .bool x.wp)])
    (fun x => ⟨[(i, .cells (rowT mT x.d))], [], off, none⟩) (fun x => x.b - x.a) ⟨a, b, lim, true, true, d0, hn, hab, by omega, hm, hl, hB, hR⟩ (by repeat (first | exact .nil _ | refine .cons rfl ?_)) (.refl _) ?_
  clear hR hB hl hb hab hm a b lim
  rintro ⟨a, b, lim, wb, wp, d, hdn, hab, hb, hm, hl, hB, e⟩
  dsimp only at e ⊢
  have hn256 : n < 256 := by omega
  by_cases h12 : b - a ≤ 12
  · rw [pdq_small h12] at e
    have h := srt_ins (d0 := d) (a := a) (b := b) (by omega) (by omega) (by omega)
    rw [e] at h
    repeat' (first | (show AL _ _ _ _ _ _ _ _; first | refine so4 ?_ | (refine Ac Y (r_row Y Y Y Y Y (List.Perm.refl _) h (by assumption) ?_))) | (show DL _ _ _ _ _ _ _; first | refine do4 ?_) | (show AW _ _ _ _ _ _; first | (show AW _ _ (.region _ _ _) _ _ _; refine sc0 ?_; intro O1) | (refine sc1 ?_; try intro Q1)) | (show (_ → _) ∧ _; refine ⟨fun h => ?_, fun h => ?_⟩) | fail)
    refine ret_row 0 Ag ?_ (.refl _) ?_ <;> rfl
  by_cases h0 : lim = 0
  · rw [pdq_heap h12 h0] at e
    have h := srt_heap (d0 := d) (a := a) (b := b) (by omega) (by omega) (by omega)
    rw [e] at h
    repeat' (first | (show AL _ _ _ _ _ _ _ _; first | refine so4 ?_ | (refine Ac Y (r_row Y Y Y Y Y (List.Perm.refl _) h (by assumption) ?_))) | (show DL _ _ _ _ _ _ _; first | refine do4 ?_) | (show AW _ _ _ _ _ _; first | (show AW _ _ (.region _ _ _) _ _ _; refine sc0 ?_; intro O1) | (refine sc1 ?_; try intro Q1)) | (show (_ → _) ∧ _; refine ⟨fun h => ?_, fun h => ?_⟩) | fail)
    refine ret_row 0 Ag ?_ (.refl _) ?_ <;> rfl
  have F := rd_facts (wb := wb) (wp := wp) (limit := lim) ltQ_swo partialInsertionSort_holds reverseRange_holds (show a < b by omega) (show b ≤ d.size by omega) hB
  obtain ⟨D, hD⟩ : ∃ D, rd ltQ d a b lim wb wp = D := ⟨_, rfl⟩
  rw [hD] at F
  obtain ⟨s1, B1, c1, s2, B2, pv, s3, B3⟩ := F
  have hlim : D.lim < 256 := by rw [← hD]; exact Nat.lt_of_le_of_lt rd_lim_le hl
  repeat' (first | (show AL _ _ _ _ _ _ _ _; first | refine so4 ?_) | (show DL _ _ _ _ _ _ _; first | refine do4 ?_) | (show AW _ _ _ _ _ _; (fail_if_success show AW _ _ (.region 7 _ _) _ _ _); first | (show AW _ _ (.region _ _ _) _ _ _; refine sc0 ?_; intro O1) | (refine sc1 ?_; try intro Q1)) | (show (_ → _) ∧ _; refine ⟨fun h => ?_, fun h => ?_⟩) | fail)
  refine aw_to2 [(0, .aref 1 i 0 n cap), (1, .int .i64 (a : Int)), (2, .int .i64 (b : Int)), (3, .int .i64 (D.lim : Int)), (8, .bool wb), (9, .bool wp), (10, .int .i64 ((b - a : Nat) : Int))] ⟨[(i, .cells (rowT mT D.d1))], [], off, none⟩ ?_ ?_
  · have h := srt_brk (d0 := d) (a := a) (b := b) (by omega) (by omega) (by omega)
    rw [← hD]
    cases wb with
    | false =>
      rw [rd_false.1, rd_false.2]
      repeat' (first | (show AL _ _ _ _ _ _ _ _; first | refine so4 ?_ | (refine Ac Y (r_row Y Y Y Y Y (List.Perm.refl _) h (by assumption) ?_))) | (show DL _ _ _ _ _ _ _; first | refine do4 ?_) | (show AW _ _ _ _ _ _; first | (show AW _ _ (.region _ _ _) _ _ _; refine sc0 ?_; intro O1) | (refine sc1 ?_; try intro Q1)) | (show (_ → _) ∧ _; refine ⟨fun h => ?_, fun h => ?_⟩) | fail)
      (first | refine al_nil ?_ | refine aw_skip ?_); exact ⟨rfl, (by repeat (first | exact .nil _ | refine .cons rfl ?_)), rfl⟩
    | true =>
      rw [rd_true.1, rd_true.2]
      repeat' (first | (show AL _ _ _ _ _ _ _ _; first | refine so4 ?_) | (show DL _ _ _ _ _ _ _; first | refine do4 ?_) | (show AW _ _ _ _ _ _; first | (show AW _ _ (.region _ _ _) _ _ _; refine sc0 ?_; intro O1) | (refine sc1 ?_; try intro Q1)) | (show (_ → _) ∧ _; refine ⟨fun h => ?_, fun h => ?_⟩) | fail)
      (first | refine al_nil ?_ | refine aw_skip ?_); exact ⟨rfl, (by repeat (first | exact .nil _ | refine .cons rfl ?_)), rfl⟩
  intro a' hk
  dsimp (config := { zetaDelta := true }) only [A7, Am]
  refine aw_forget hk ?_
  have n1 : D.d1.size = n := by omega
  have n2 : D.d2.size = n := by omega
  have n3 : D.pi.1.size = n := by omega
  have hpiv := srt_piv (c := D.d1) (a := a) (b := b) (by omega) (by omega) (by omega)
  rw [show choosePivot ltQ D.d1 a b = D.c by rw [← hD]; rfl] at hpiv
  repeat' (first | (show AL _ _ _ _ _ _ _ _; first | refine so4 ?_ | (refine Ac Y (r_row Y Y Y Y Y (List.Perm.refl _) hpiv (by assumption) ?_))) | (show DL _ _ _ _ _ _ _; first | refine do4 ?_) | (show AW _ _ _ _ _ _; (fail_if_success show AW _ _ (.region 11 _ _) _ _ _); first | (show AW _ _ (.region _ _ _) _ _ _; refine sc0 ?_; intro O1) | (refine sc1 ?_; try intro Q1)) | (show (_ → _) ∧ _; refine ⟨fun h => ?_, fun h => ?_⟩) | fail)
  refine aw_to2 [(0, .aref 1 i 0 n cap), (1, .int .i64 (a : Int)), (2, .int .i64 (b : Int)), (3, .int .i64 (D.lim : Int)), (8, .bool wb), (9, .bool wp), (10, .int .i64 ((b - a : Nat) : Int)), (11, .int .i64 (D.pivot : Int)), (12, .int .i64 (hintCode D.hint))] ⟨[(i, .cells (rowT mT D.d2))], [], off, none⟩ ?_ ?_
  · by_cases hh : D.c.2 = .decreasing
    · have hr := srt_rev (d0 := D.d1) (a := a) (b := b) (by omega) (by omega) (by omega)
      have q : D.d2 = reverseRange D.d1 a b ∧ D.pivot = (b - 1) - (D.c.1 - a) ∧ D.hint = .increasing := by rw [← hD] at hh ⊢; exact rd_dec hh
      rw [q.1, q.2.1, q.2.2]
      have hc : hintCode D.c.2 = 2 := by rw [hh]; rfl
      rw [hc]
      repeat' (first | (show AL _ _ _ _ _ _ _ _; first | refine so4 ?_ | (refine Ac Y (r_row Y Y Y Y Y (List.Perm.refl _) hr (by assumption) ?_))) | (show DL _ _ _ _ _ _ _; first | refine do4 ?_) | (show AW _ _ _ _ _ _; first | (show AW _ _ (.region _ _ _) _ _ _; refine sc0 ?_; intro O1) | (refine sc1 ?_; try intro Q1)) | (show (_ → _) ∧ _; refine ⟨fun h => ?_, fun h => ?_⟩) | fail)
      (first | refine al_nil ?_ | refine aw_skip ?_); exact ⟨rfl, (by repeat (first | exact .nil _ | refine .cons rfl ?_)), rfl⟩
    · have q : D.d2 = D.d1 ∧ D.pivot = D.c.1 ∧ D.hint = D.c.2 := by rw [← hD] at hh ⊢; exact rd_not hh
      rw [q.1, q.2.1, q.2.2]
      have hc : hintCode D.c.2 ≠ 2 := by cases h : D.c.2 <;> simp_all [hintCode]
      repeat' (first | (show AL _ _ _ _ _ _ _ _; first | refine so4 ?_) | (show DL _ _ _ _ _ _ _; first | refine do4 ?_) | (show AW _ _ _ _ _ _; first | (show AW _ _ (.region _ _ _) _ _ _; refine sc0 ?_; intro O1) | (refine sc1 ?_; try intro Q1)) | (show (_ → _) ∧ _; refine ⟨fun h => ?_, fun h => ?_⟩) | fail)
      (first | refine al_nil ?_ | refine aw_skip ?_); exact ⟨rfl, (by repeat (first | exact .nil _ | refine .cons rfl ?_)), rfl⟩
  intro a' hk
  dsimp (config := { zetaDelta := true }) only [A7, Am]
  refine aw_forget hk ?_
  have hpins := srt_pins (d0 := D.d2) (a := a) (b := b) (by omega) (by omega) (by omega)
  have hpy : (wb && wp && decide (D.hint = .increasing)) = true → D.pi = partialInsertionSort ltQ D.d2 a b := fun hc => by rw [← hD] at hc ⊢; exact rd_pi_yes hc
  have hpn : (wb && wp && decide (D.hint = .increasing)) = false → D.pi = (D.d2, false) := fun hc => by rw [← hD] at hc ⊢; exact rd_pi_no hc
  by_cases hp2 : D.pi.2 = true
  · have hc : (wb && wp && decide (D.hint = .increasing)) = true := by
      cases hc : (wb && wp && decide (D.hint = .increasing)) with
      | true => rfl
      | false => rw [hpn hc] at hp2; cases hp2
    rw [← hpy hc, hp2] at hpins
    rw [pdq_done h12 h0 (by rw [hD]; exact hp2), hD] at e
    rw [e] at hpins
    simp only [Bool.and_eq_true, decide_eq_true_eq] at hc
    obtain ⟨⟨rfl, rfl⟩, hh⟩ := hc
    have hcode : hintCode D.hint = 1 := by rw [hh]; rfl
    rw [hcode]
    repeat' (first | (show AL _ _ _ _ _ _ _ _; first | refine so4 ?_ | (refine Ac Y (r_row Y Y Y Y Y (List.Perm.refl _) hpins (by assumption) ?_))) | (show DL _ _ _ _ _ _ _; first | refine do4 ?_) | (show AW _ _ _ _ _ _; first | (show AW _ _ (.region _ _ _) _ _ _; refine sc0 ?_; intro O1) | (refine sc1 ?_; try intro Q1)) | (show (_ → _) ∧ _; refine ⟨fun h => ?_, fun h => ?_⟩) | fail)
    refine ret_row 0 Ag ?_ (.refl _) ?_ <;> rfl
  have hp3 : D.pi.2 = false := by simpa using hp2
  clear hp2
  repeat' (first | (show AL _ _ _ _ _ _ _ _; first | refine so4 ?_) | (show DL _ _ _ _ _ _ _; first | refine do4 ?_) | (show AW _ _ _ _ _ _; (fail_if_success show AW _ _ (.region 15 _ _) _ _ _); first | (show AW _ _ (.region _ _ _) _ _ _; refine sc0 ?_; intro O1) | (refine sc1 ?_; try intro Q1)) | (show (_ → _) ∧ _; refine ⟨fun h => ?_, fun h => ?_⟩) | fail)
  refine aw_to2 [(0, .aref 1 i 0 n cap), (1, .int .i64 (a : Int)), (2, .int .i64 (b : Int)), (3, .int .i64 (D.lim : Int)), (8, .bool wb), (9, .bool wp), (10, .int .i64 ((b - a : Nat) : Int)), (11, .int .i64 (D.pivot : Int))] ⟨[(i, .cells (rowT mT D.pi.1))], [], off, none⟩ ?_ ?_
  · cases hc : (wb && wp && decide (D.hint = .increasing)) with
    | true =>
      rw [← hpy hc, hp3] at hpins
      simp only [Bool.and_eq_true, decide_eq_true_eq] at hc
      obtain ⟨⟨rfl, rfl⟩, hh⟩ := hc
      have hcode : hintCode D.hint = 1 := by rw [hh]; rfl
      rw [hcode]
      repeat' (first | (show AL _ _ _ _ _ _ _ _; first | refine so4 ?_ | (refine Ac Y (r_row Y Y Y Y Y (List.Perm.refl _) hpins (by assumption) ?_))) | (show DL _ _ _ _ _ _ _; first | refine do4 ?_) | (show AW _ _ _ _ _ _; first | (show AW _ _ (.region _ _ _) _ _ _; refine sc0 ?_; intro O1) | (refine sc1 ?_; try intro Q1)) | (show (_ → _) ∧ _; refine ⟨fun h => ?_, fun h => ?_⟩) | fail)
      (first | refine al_nil ?_ | refine aw_skip ?_); exact ⟨rfl, (by repeat (first | exact .nil _ | refine .cons rfl ?_)), rfl⟩
    | false =>
      rw [hpn hc]
      clear hpins hpy hpn
      cases wb with
      | false =>
        repeat' (first | (show AL _ _ _ _ _ _ _ _; first | refine so4 ?_) | (show DL _ _ _ _ _ _ _; first | refine do4 ?_) | (show AW _ _ _ _ _ _; first | (show AW _ _ (.region _ _ _) _ _ _; refine sc0 ?_; intro O1) | (refine sc1 ?_; try intro Q1)) | (show (_ → _) ∧ _; refine ⟨fun h => ?_, fun h => ?_⟩) | fail)
        (first | refine al_nil ?_ | refine aw_skip ?_); exact ⟨rfl, (by repeat (first | exact .nil _ | refine .cons rfl ?_)), rfl⟩
      | true =>
        cases wp with
        | false =>
          repeat' (first | (show AL _ _ _ _ _ _ _ _; first | refine so4 ?_) | (show DL _ _ _ _ _ _ _; first | refine do4 ?_) | (show AW _ _ _ _ _ _; first | (show AW _ _ (.region _ _ _) _ _ _; refine sc0 ?_; intro O1) | (refine sc1 ?_; try intro Q1)) | (show (_ → _) ∧ _; refine ⟨fun h => ?_, fun h => ?_⟩) | fail)
          (first | refine al_nil ?_ | refine aw_skip ?_); exact ⟨rfl, (by repeat (first | exact .nil _ | refine .cons rfl ?_)), rfl⟩
        | true =>
          have hcode : hintCode D.hint ≠ 1 := by cases h : D.hint <;> simp_all [hintCode]
          repeat' (first | (show AL _ _ _ _ _ _ _ _; first | refine so4 ?_) | (show DL _ _ _ _ _ _ _; first | refine do4 ?_) | (show AW _ _ _ _ _ _; first | (show AW _ _ (.region _ _ _) _ _ _; refine sc0 ?_; intro O1) | (refine sc1 ?_; try intro Q1)) | (show (_ → _) ∧ _; refine ⟨fun h => ?_, fun h => ?_⟩) | fail)
          (first | refine al_nil ?_ | refine aw_skip ?_); exact ⟨rfl, (by repeat (first | exact .nil _ | refine .cons rfl ?_)), rfl⟩
  intro a' hk
  dsimp (config := { zetaDelta := true }) only [A7, Am]
  refine aw_forget hk ?_
  clear hpins hpy hpn
  clear hpiv n1 n2 c1 s1 B1 s2 B2
  by_cases h2 : (decide (a > 0) && !ltQ D.pi.1[a - 1]! D.pi.1[D.pivot]!) = true
  · obtain ⟨Q, hQ⟩ : ∃ Q, partitionEqual ltQ D.pi.1 a b D.pivot = Q := ⟨_, rfl⟩
    have hpe := srt_peq (d0 := D.pi.1) (a := a) (b := b) (pv := D.pivot) pv.1 pv.2 (by omega) (by omega)
    rw [hQ] at hpe
    have h2' := h2
    simp only [Bool.and_eq_true, decide_eq_true_eq, Bool.not_eq_true'] at h2'
    obtain ⟨g1, g2, g3, g4, _⟩ := round_eq ltQ_swo (partitionEqual_holds ltQ) h2'.1 pv.1 pv.2 (by omega) B3 h2'.2 hQ
    rw [pdq_eq h12 h0 (by rw [hD]; exact hp3) (by rw [hD]; exact h2) (by rw [hD, hQ]; exact ⟨g1, g2⟩), hD, hQ] at e
    have hlt := Au D.pi.1[a - 1]! D.pi.1[D.pivot]!
    rw [h2'.2] at hlt
    have ha := h2'.1
    repeat' (first | (show AL _ _ _ _ _ _ _ _; first | refine so4 ?_ | refine sp Y Y Y Y Y Y (by apply hlt <;> exact sd) ?_ | (refine Ac Y (r_row Y Y Y Y Y (List.Perm.refl _) hpe (by assumption) ?_))) | (show DL _ _ _ _ _ _ _; first | refine do4 ?_ | refine dp Y Y Y Y Y Y Y (by apply hlt <;> exact sd) ?_) | (show AW _ _ _ _ _ _; first | (show AW _ _ (.region _ _ _) _ _ _; refine sc0 ?_; intro O1) | (refine sc1 ?_; try intro Q1)) | (show (_ → _) ∧ _; refine ⟨fun h => ?_, fun h => ?_⟩) | fail)
    exact ⟨⟨Q.1, b, D.lim, wb, wp, Q.2, by omega, g2, hb, by omega, hlim, g4, e⟩, by dsimp only; omega, (by repeat (first | exact .nil _ | refine .cons rfl ?_)), .refl _⟩
  have h3 : (decide (a > 0) && !ltQ D.pi.1[a - 1]! D.pi.1[D.pivot]!) = false := by simpa using h2
  repeat' (first | (show AL _ _ _ _ _ _ _ _; first | refine so4 ?_) | (show DL _ _ _ _ _ _ _; first | refine do4 ?_) | (show AW _ _ _ _ _ _; (fail_if_success show AW _ _ (.region 17 _ _) _ _ _); first | (show AW _ _ (.region _ _ _) _ _ _; refine sc0 ?_; intro O1) | (refine sc1 ?_; try intro Q1)) | (show (_ → _) ∧ _; refine ⟨fun h => ?_, fun h => ?_⟩) | fail)
  refine aw_to2 [(0, .aref 1 i 0 n cap), (1, .int .i64 (a : Int)), (2, .int .i64 (b : Int)), (3, .int .i64 (D.lim : Int)), (8, .bool wb), (9, .bool wp), (10, .int .i64 ((b - a : Nat) : Int)), (11, .int .i64 (D.pivot : Int))] ⟨[(i, .cells (rowT mT D.pi.1))], [], off, none⟩ ?_ ?_
  · have hlt := Au D.pi.1[a - 1]! D.pi.1[D.pivot]!
    by_cases ha : 0 < a
    · have h4 : ltQ D.pi.1[a - 1]! D.pi.1[D.pivot]! = true := by simpa [ha] using h3
      rw [h4] at hlt
      repeat' (first | (show AL _ _ _ _ _ _ _ _; first | refine so4 ?_ | refine sp Y Y Y Y Y Y (by apply hlt <;> exact sd) ?_) | (show DL _ _ _ _ _ _ _; first | refine do4 ?_ | refine dp Y Y Y Y Y Y Y (by apply hlt <;> exact sd) ?_) | (show AW _ _ _ _ _ _; first | (show AW _ _ (.region _ _ _) _ _ _; refine sc0 ?_; intro O1) | (refine sc1 ?_; try intro Q1)) | (show (_ → _) ∧ _; refine ⟨fun h => ?_, fun h => ?_⟩) | fail)
      (first | refine al_nil ?_ | refine aw_skip ?_); exact ⟨rfl, (by repeat (first | exact .nil _ | refine .cons rfl ?_)), rfl⟩
    · repeat' (first | (show AL _ _ _ _ _ _ _ _; first | refine so4 ?_ | refine sp Y Y Y Y Y Y (by apply hlt <;> exact sd) ?_) | (show DL _ _ _ _ _ _ _; first | refine do4 ?_ | refine dp Y Y Y Y Y Y Y (by apply hlt <;> exact sd) ?_) | (show AW _ _ _ _ _ _; first | (show AW _ _ (.region _ _ _) _ _ _; refine sc0 ?_; intro O1) | (refine sc1 ?_; try intro Q1)) | (show (_ → _) ∧ _; refine ⟨fun h => ?_, fun h => ?_⟩) | fail)
      (first | refine al_nil ?_ | refine aw_skip ?_); exact ⟨rfl, (by repeat (first | exact .nil _ | refine .cons rfl ?_)), rfl⟩
  intro a' hk
  dsimp (config := { zetaDelta := true }) only [A7, Am]
  refine aw_forget hk ?_
  obtain ⟨Q, hQ⟩ : ∃ Q, partition ltQ D.pi.1 a b D.pivot = Q := ⟨_, rfl⟩
  have hpt := srt_part (d0 := D.pi.1) (a := a) (b := b) (pv := D.pivot) pv.1 pv.2 (by omega) (by omega)
  obtain ⟨mid, ap, d4⟩ := Q
  obtain ⟨g1, g2, g3, g4, g5, gL, gR⟩ := round_part ltQ_swo (partition_holds ltQ) pv.1 pv.2 (by omega) B3 hQ
  rw [hQ] at hpt
  dsimp only at hpt
  have n4 : d4.size = n := by omega
  by_cases hlr : mid - a < b - mid
  · rw [pdq_left h12 h0 (by rw [hD]; exact hp3) (by rw [hD]; exact h3) (by rw [hD, hQ]; exact ⟨g1, g2⟩) (by rw [hD, hQ]; exact hlr), hD, hQ] at e
    dsimp only at e
    have hrec := IH (mid - a) (by omega) (d0 := d4) (a := a) (b := mid) (lim := D.lim) (Nat.le_refl _) g1 (by omega) (by omega) hlim g4
    have hs5 := pdq_sorts ltQ ltQ_swo d4 a mid D.lim true true g1 (by omega) g4
    obtain ⟨L, hL⟩ : ∃ L, pdq ltQ d4 a mid D.lim true true = L := ⟨_, rfl⟩
    rw [hL] at hs5 hrec e
    have n5 : L.size = n := by rw [hs5.1.1]; omega
    have B5 := (gL L hs5.1 hs5.2).1
    repeat' (first | (show AL _ _ _ _ _ _ _ _; first | refine so4 ?_ | (refine Ac Y (r_row Y Y Y Y Y (List.Perm.refl _) hpt (by assumption) ?_)) | (refine Ac Y (r_row Y Y Y Y Y (List.Perm.refl _) hrec (by assumption) ?_))) | (show DL _ _ _ _ _ _ _; first | refine do4 ?_) | (show AW _ _ _ _ _ _; first | (show AW _ _ (.region _ _ _) _ _ _; refine sc0 ?_; intro O1) | (refine sc1 ?_; try intro Q1)) | (show (_ → _) ∧ _; refine ⟨fun h => ?_, fun h => ?_⟩) | fail)
    · rw [show decide (mid - a ≥ (b - a) / 8) = true by simp; omega] at e
      exact ⟨⟨mid + 1, b, D.lim, true, ap, L, n5, by omega, hb, by omega, hlim, B5, e⟩, by dsimp only; omega, (by repeat (first | exact .nil _ | refine .cons rfl ?_)), .refl _⟩
    · rw [show decide (mid - a ≥ (b - a) / 8) = false by simp; omega] at e
      exact ⟨⟨mid + 1, b, D.lim, false, ap, L, n5, by omega, hb, by omega, hlim, B5, e⟩, by dsimp only; omega, (by repeat (first | exact .nil _ | refine .cons rfl ?_)), .refl _⟩
  · rw [pdq_right h12 h0 (by rw [hD]; exact hp3) (by rw [hD]; exact h3) (by rw [hD, hQ]; exact ⟨g1, g2⟩) (by rw [hD, hQ]; exact hlr), hD, hQ] at e
    dsimp only at e
    have hrec := IH (b - (mid + 1)) (by omega) (d0 := d4) (a := mid + 1) (b := b) (lim := D.lim) (Nat.le_refl _) (by omega) (by omega) (by omega) hlim g5
    have hs5 := pdq_sorts ltQ ltQ_swo d4 (mid + 1) b D.lim true true (by omega) (by omega) g5
    obtain ⟨L, hL⟩ : ∃ L, pdq ltQ d4 (mid + 1) b D.lim true true = L := ⟨_, rfl⟩
    rw [hL] at hs5 hrec e
    have n5 : L.size = n := by rw [hs5.1.1]; omega
    have B5 := (gR L hs5.1 hs5.2).1
    repeat' (first | (show AL _ _ _ _ _ _ _ _; first | refine so4 ?_ | (refine Ac Y (r_row Y Y Y Y Y (List.Perm.refl _) hpt (by assumption) ?_)) | (refine Ac Y (r_row Y Y Y Y Y (List.Perm.refl _) hrec (by assumption) ?_))) | (show DL _ _ _ _ _ _ _; first | refine do4 ?_) | (show AW _ _ _ _ _ _; first | (show AW _ _ (.region _ _ _) _ _ _; refine sc0 ?_; intro O1) | (refine sc1 ?_; try intro Q1)) | (show (_ → _) ∧ _; refine ⟨fun h => ?_, fun h => ?_⟩) | fail)
    · rw [show decide (b - mid ≥ (b - a) / 8) = true by simp; omega] at e
      exact ⟨⟨a, mid, D.lim, true, ap, L, n5, g1, by omega, by omega, hlim, B5, e⟩, by dsimp only; omega, (by repeat (first | exact .nil _ | refine .cons rfl ?_)), .refl _⟩
    · rw [show decide (b - mid ≥ (b - a) / 8) = false by simp; omega] at e
      exact ⟨⟨a, mid, D.lim, false, ap, L, n5, g1, by omega, by omega, hlim, B5, e⟩, by dsimp only; omega, (by repeat (first | exact .nil _ | refine .cons rfl ?_)), .refl _⟩
theorem srt_sort {d0 : Array Nat} (hs : d0.size < 256) : OnRow Try.prog 63 mT [] d0 (.tup []) (Go.Sort.sort ltQ d0) := by
  have h1 := bits_Len (x := d0.size) hs
  have h8 := bitsLen_le8 hs
  have h2 := srt_pdq d0.size (d0 := d0) (a := 0) (b := d0.size) (lim := bitsLen d0.size) (by omega) (by omega) (Nat.le_refl _) hs (by omega) (Or.inl rfl)
  intro off i n cap hn
  subst hn
  rw [show Go.Sort.sort ltQ d0 = pdq ltQ d0 0 d0.size (bitsLen d0.size) true true from rfl]
  generalize pdq ltQ d0 0 d0.size (bitsLen d0.size) true true = R at *
  have hsz : d0.size = d0.size := rfl
  refine Af (N := 11) (rs := []) hG Try.func63 rfl rfl rfl rfl rfl ?_
  repeat' (first | (show AL _ _ _ _ _ _ _ _; first | refine so3 ?_ | refine sp Y Y Y Y Y Y (by apply h1 <;> exact sd) ?_ | (refine Ac Y (r_row Y Y Y Y Y (List.Perm.refl _) h2 (by assumption) ?_))) | (show AW _ _ _ _ _ _; first | (show AW _ _ (.region _ _ _) _ _ _; refine sc0 ?_; intro O1) | (refine sc1 ?_; try intro Q1)) | (show (_ → _) ∧ _; refine ⟨fun h => ?_, fun h => ?_⟩) | fail)
  (first | refine al_nil ?_ | skip)
  refine ret_rowE 0 Ag ?_ (.refl _) ?_ <;> rfl
end Go.Proofs.Ythfgocinlbogeaa
set_option linter.unusedVariables false
set_option linter.unusedSimpArgs false
namespace Go.Ts
section
variable {P : Program} {G : Nat → Option TI} {w w1 : World} {μ : Gh} {σ : St} {N : Nat} {a : Env} {Q : Exit → Env → St → Prop}
theorem mro_pairs {v : Value} {es : List (T × T)} (r : Rel w μ σ v (.mro (es.map Prod.fst) (es.map Prod.snd))) : ∃ b en cl, v = .map (some b) ∧ w.heap[b]? = some (.map en cl) ∧ en.size = es.length ∧
    ∀ (j : Nat) (k u : T) (e : MapEntry), es[j]? = some (k, u) → en[j]? = some e → Rel w μ σ e.key k ∧ Rel w μ σ e.val u := by
  generalize hk : es.map Prod.fst = ks at r
  generalize hu : es.map Prod.snd = us at r
  cases r with
  | mro b ks us en cl h hs hu' hb hi rk rv =>
    subst hk; subst hu
    exact ⟨b, en, cl, rfl, h, by simpa using hs, fun j k u e h1 h2 => ⟨rk j k e (by simp [h1]) h2, rv j u e (by simp [h1]) h2⟩⟩
theorem aop_lookupF (hG : Fits P G) {o : Oper} {t kt et : TypeId} {x y : Operand} {ok : Bool} {ti tk te : TI} {k k0 : IntKind} {n : Int} {es : List (T × T)} {r : Option (Nat × T)} {K : Env → St → Prop}
    (ho : o.op = .lookup t x y ok) (ht : G t = some ti) (htd : ti.d = .map kt et) (hk : G kt = some tk) (hkd : tk.d = .int k0) (he : G et = some te) (hx : Ad a x = some (.mro (es.map Prod.fst) (es.map Prod.snd))) (hy : Ad a y = some (.int k n))
    (hf : findX k n es 0 = some r) (hd : Ai N o.dst = true)
    (kk : K (put a o.dst (cond ok (.tup [foundX te.tree r, .bool r.isSome]) (foundX te.tree r))) σ) : AOp P N o a σ K := by
  intro av w μ hi hr next Qc hn
  obtain ⟨d1, u1, f1⟩ := Aq (P := P) (w := w) hG ht
  rw [htd] at f1; obtain rfl := td_map f1
  obtain ⟨d2, u2, f2⟩ := Aq (P := P) (w := w) hG hk
  rw [hkd] at f2; obtain rfl := td_int f2
  obtain ⟨z, uz, rz, hz1, hz2⟩ := g_zero (P := P) (w := w) (μ := μ) (σ := σ) hG he
  have rx := Al hr hx
  have ry := Al hr hy
  generalize hvx : av.eval x = vx at rx
  generalize hvy : av.eval y = vy at ry
  cases ry
  obtain ⟨b, en, cl, rfl, hc, hsz, hrel⟩ := mro_pairs rx
  have hget : (getObj b).run P w = .ok (.map en cl) w := by simp [getObj, Sem.run, hc]
  have hck : ∀ bb, (Instr.checkKey bb 10000 kt (.int k n)).run P w = .ok () w := fun bb => checkKey_int hG hk hkd
  have hfr := findX_run (w := w) (μ := μ) (σ := σ) (k0 := k0) es en.toList 0 r hf (by simpa using hsz) (fun j x u e h1 h2 => hrel j x u e h1 (by simpa using h2))
  have tupR : ∀ (v : Value) (u : T) (bb : Bool), Rel w μ σ v u → Rel w μ σ (.tuple #[v, .bool bb]) (.tup [u, .bool bb]) := by
    intro v u bb h
    refine .tup _ _ rfl fun j c v' h1 h2 => ?_
    match j with
    | 0 => simp at h1 h2; subst h1; subst h2; exact h
    | 1 => simp at h1 h2; subst h1; subst h2; exact .bool _
    | j + 2 => simp at h1
  obtain ⟨v, hv, rv⟩ : ∃ v, (Instr.lookup t (.map (some b)) (.int k n) ok).run P w = .ok v w ∧ Rel w μ σ v (cond ok (.tup [foundX te.tree r, .bool r.isSome]) (foundX te.tree r)) := by
    cases r with
    | none =>
      have hfk : (Instr.findKey kt (.int k n) en.toList).run P w = .ok none w := by simp [Instr.findKey, u2, hfr]
      cases ok
      · exact ⟨z, by unfold Instr.lookup; simp [u1, hget, hck, hfk, uz], rz⟩
      · exact ⟨_, by unfold Instr.lookup; simp [u1, hget, hck, hfk, uz], tupR _ _ _ rz⟩
    | some q =>
      obtain ⟨p, u⟩ := q
      obtain ⟨_, e', v, _, _, _, h5, _, h7⟩ := hfr
      have hfk : (Instr.findKey kt (.int k n) en.toList).run P w = .ok (some (p, v)) w := by simp [Instr.findKey, u2, h7]
      cases ok
      · exact ⟨v, by unfold Instr.lookup; simp [u1, hget, hck, hfk], h5⟩
      · exact ⟨_, by unfold Instr.lookup; simp [u1, hget, hck, hfk], tupR _ _ _ h5⟩
  have hrun : (execOp av.eval o).run P w = .ok (.value v) w := by
    simp [execOp, ho, hvx, hvy, hv]
  unfold Oper.wp
  rw [hrun]
  exact hn _ _ _ _ _ (.refl _ _ _) hi (hr.put hd rv) kk

end
end Go.Ts
set_option linter.unusedVariables false
set_option linter.unusedSimpArgs false
namespace Go.Ts
section
variable {P : Program} {G : Nat → Option TI} {w w1 : World} {r : Nat} {μ : Gh} {σ : St} {N : Nat} {a : Env} {Q : Exit → Env → St → Prop}
structure ItStep (w w1 : World) (r : Nat) : Prop where
  os : w1.os = w.os
  tape : w1.tape = w.tape
  out : w1.output = w.output
  size : w1.heap.size = w.heap.size
  ne : ∀ x, x ≠ r → w1.heap[x]? = w.heap[x]?
  old : ∃ m s seen l, w.heap[r]? = some (.mapIter m s seen l)
  new : ∃ m s seen l, w1.heap[r]? = some (.mapIter m s seen l)
theorem ItStep.cells (h : ItStep w w1 r) {x : Nat} {c : Array Value} {e : TypeId} {f : Nat × Nat} (hx : w.heap[x]? = some (.cells c e f)) : w1.heap[x]? = some (.cells c e f) := by
  rw [h.ne x (by rintro rfl; obtain ⟨_, _, _, _, h1⟩ := h.old; rw [h1] at hx; cases hx)]; exact hx
theorem ItStep.map (h : ItStep w w1 r) {x : Nat} {en : Array MapEntry} {cl : Nat} (hx : w.heap[x]? = some (.map en cl)) : w1.heap[x]? = some (.map en cl) := by
  rw [h.ne x (by rintro rfl; obtain ⟨_, _, _, _, h1⟩ := h.old; rw [h1] at hx; cases hx)]; exact hx
theorem ItStep.cell (h : ItStep w w1 r) (b o : Nat) : w1.cell? ⟨b, o, none⟩ = w.cell? ⟨b, o, none⟩ := by
  by_cases hb : b = r
  · subst hb
    obtain ⟨_, _, _, _, h1⟩ := h.old
    obtain ⟨_, _, _, _, h2⟩ := h.new
    unfold World.cell?
    simp only [h1, h2]
  · exact cell_of_heap (h.ne b hb) o
theorem ItStep.ev0 (h : ItStep w w1 r) : Ev0 w μ σ w1 μ σ :=
  ⟨fun _ _ h => h, fun _ _ h => h, fun b n ⟨c, e, f, h1, h2⟩ => ⟨c, e, f, h.cells h1, h2⟩, fun b o hx => ⟨⟨by rw [h.size]; exact hx.lt, hx.off, hx.obj, hx.room⟩, h.cell b o⟩, fun b en cl h1 _ => h.map h1⟩
theorem ItStep.inv (h : ItStep w w1 r) (hi : Inv w μ σ) : Inv w1 μ σ := by
  refine ⟨fun i ts hx => ?_, fun i es hx => ?_, hi.inj, fun k hk => ?_, hi.rinj, hi.fin, fun b o hb => by rw [h.size]; exact hi.offlt b o hb, hi.offobj⟩
  · obtain ⟨b, p, c, e, h1, h2, h3, h4⟩ := hi.obj i ts hx
    exact ⟨b, p, c, e, h1, h.cells h2, h3, fun j t v h5 h6 => (h4 j t v h5 h6).ev' h.ev0⟩
  · obtain ⟨b, en, cl, h1, h2, h3, h4⟩ := hi.map i es hx
    exact ⟨b, en, cl, h1, h.map h2, h3, fun j k u e h5 h6 => let ⟨h7, h8⟩ := h4 j k u e h5 h6; ⟨h7.ev' h.ev0, h8.ev' h.ev0⟩⟩
  · obtain ⟨b, f, t, h1, h2, h3⟩ := hi.room k hk
    refine ⟨b, f, t, h1, h2, fun hlt => ?_⟩
    obtain ⟨⟨c, e, h4, h5⟩, h6, h7⟩ := h3 hlt
    exact ⟨⟨c, e, h.cells h4, h5⟩, h6, h7⟩
theorem ItStep.ev {w0 : World} {μ0 : Gh} {σ0 : St} (h : ItStep w w1 r) (ev : Ev w0 μ0 σ0 w μ σ) (hr : w0.heap.size ≤ r) : Ev w0 μ0 σ0 w1 μ σ := by
  refine ⟨⟨h.os.trans ev.below.os, h.tape.trans ev.below.tape, h.out.trans ev.below.output, by rw [h.size]; exact ev.below.size, fun k hk => by omega⟩, ev.loc, ev.tok, ev.off, fun b n hb => h.ev0 (μ := μ) (σ := σ) |>.shape b n (ev.shape b n hb), fun b hb hl => ?_, fun b o hx => ?_⟩
  · obtain ⟨h1, h2⟩ := ev.live b hb hl
    exact ⟨h1, by rw [h.ne b (by omega)]; exact h2⟩
  · obtain ⟨h1, h2⟩ := ev.imm b o hx
    obtain ⟨h3, h4⟩ := (h.ev0 (μ := μ) (σ := σ)).imm b o h1
    exact ⟨h3, h4.trans h2⟩
theorem RelA.ev' {w w' : World} {μ μ' : Gh} {σ σ' : St} {N : Nat} {av : Act} {a : Env} (h : RelA w μ σ N av a) (e : Ev0 w μ σ w' μ' σ') : RelA w' μ' σ' N av a :=
  ⟨h.size, h.defers, fun i t ht => let ⟨v, hv, r⟩ := h.tmp i t ht; ⟨v, hv, r.ev' e⟩⟩
def iterW (w : World) (r b cl : Nat) (seen : Array Nat) : World := { w with heap := w.heap.setIfInBounds r (.mapIter (some b) cl seen cl) }
theorem iterW_step {b cl : Nat} {seen seen' : Array Nat} (h : w.heap[r]? = some (.mapIter (some b) cl seen cl)) (n : Nat) : ItStep w (iterW { w with drawn := n } r b cl seen') r := by
  have hlt := (Array.getElem?_eq_some_iff.1 h).1
  refine ⟨rfl, rfl, rfl, by simp [iterW], fun x hx => by simp [iterW, Array.getElem?_setIfInBounds, Ne.symm hx], ⟨_, _, _, _, h⟩, ⟨some b, cl, seen', cl, by simp [iterW, hlt]⟩⟩
theorem drew_step {b cl : Nat} {seen : Array Nat} (h : w.heap[r]? = some (.mapIter (some b) cl seen cl)) (n : Nat) : ItStep w { w with drawn := n } r :=
  ⟨rfl, rfl, rfl, rfl, fun _ _ => rfl, ⟨_, _, _, _, h⟩, ⟨_, _, _, _, h⟩⟩
theorem next_run {b cl : Nat} {seen : Array Nat} {en : Array MapEntry} {ty : TypeId} (hr : w.heap[r]? = some (.mapIter (some b) cl seen cl)) (hb : w.heap[b]? = some (.map en cl)) (hn : Born en cl) :
    (∃ n, (Instr.next (.pointer (some ⟨r, 0, none⟩)) false ty).run P w = .ok (.tuple #[.bool false]) { w with drawn := n } ∧ ∀ e, e ∈ en.toList → e.born ∈ seen.toList) ∨
    (∃ (n : Nat) (e : MapEntry) (j : Nat), (Instr.next (.pointer (some ⟨r, 0, none⟩)) false ty).run P w = .ok (.tuple #[.bool true, e.key, e.val]) (iterW { w with drawn := n } r b cl (seen.push e.born)) ∧ en[j]? = some e ∧ e.born ∉ seen.toList) := by
  have hg1 : (getObj r).run P w = .ok (.mapIter (some b) cl seen cl) w := by simp [getObj, Sem.run, hr]
  have hg2 : (getObj b).run P w = .ok (.map en cl) w := by simp [getObj, Sem.run, hb]
  have hall : (!seen.isEmpty && !en.isEmpty && en.all (fun e => decide (e.born ≥ cl))) = false := by
    by_cases he : en.isEmpty = true
    · simp [he]
    · have : en.all (fun e => decide (e.born ≥ cl)) = false := by
        rw [Bool.eq_false_iff]
        intro h
        have hs : 0 < en.size := by
          rcases Nat.eq_zero_or_pos en.size with h0 | h0
          · exact absurd (by simpa [Array.isEmpty_iff] using Array.eq_empty_of_size_eq_zero h0) he
          · exact h0
        have h1 := hn.1 en[0] (by simp)
        have h2 := (Array.all_eq_true.1 h) 0 hs
        simp at h2; omega
      simp [this]
  obtain ⟨L, hL⟩ : ∃ L, en.filter (fun e => !seen.contains e.born) = L := ⟨_, rfl⟩
  have hmem : ∀ e, e ∈ L.toList → e ∈ en.toList ∧ e.born ∉ seen.toList := fun e he => by
    rw [← hL] at he; simpa using he
  have hold : L.filter (fun e => decide (e.born < cl)) = L := Array.filter_eq_self.2 fun e he => by
    simpa using hn.1 e (hmem e (by simpa using he)).1
  have hnew : L.filter (fun e => decide (e.born ≥ cl)) = #[] := Array.filter_eq_empty_iff.2 fun e he => by
    have := hn.1 e (hmem e (by simpa using he)).1
    simp; omega
  have hset : ∀ n seen', (setObj r (.mapIter (some b) cl seen' cl)).run P { w with drawn := n } = .ok () (iterW { w with drawn := n } r b cl seen') := fun n seen' => by simp [setObj, Sem.run, hr, iterW]
  by_cases he : L = #[]
  · refine .inl ⟨w.drawn, ?_, fun e h => ?_⟩
    · unfold Instr.next
      simp only [Sem.run_bind, hg1, Result.andThen_ok, hg2, hall, Bool.false_eq_true, if_false, Sem.run_pure, hL, hold, hnew]
      subst he
      simp [choose, Sem.run, Question.forced]
    · rw [he] at hL
      have := Array.filter_eq_empty_iff.1 hL e (by simpa using h)
      simpa using this
  · have hpos : 0 < L.size := by
      rcases Nat.eq_zero_or_pos L.size with h0 | h0
      · exact absurd (Array.eq_empty_of_size_eq_zero h0) he
      · exact h0
    obtain ⟨n, k, hk, hch⟩ : ∃ n k, k < L.size ∧ (choose (.mapNext L.size)).run P w = .ok k { w with drawn := n } := by
      by_cases h1 : L.size ≤ 1
      · exact ⟨w.drawn, 0, hpos, by simp [choose, Sem.run, Question.forced, h1]⟩
      · exact ⟨w.drawn + 1, w.tape w.drawn (.mapNext L.size) % L.size, Nat.mod_lt _ hpos, by simp [choose, Sem.run, Question.forced, h1, Question.cut]⟩
    refine .inr ⟨n, L[k], ?_⟩
    have hm := hmem L[k] (by simp)
    obtain ⟨j, hj⟩ := List.getElem?_of_mem hm.1
    refine ⟨j, ?_, by simpa using hj, hm.2⟩
    unfold Instr.next
    simp only [Sem.run_bind, hg1, Result.andThen_ok, hg2, hall, Bool.false_eq_true, if_false, Sem.run_pure, hL, hold, hnew]
    have hcand : (if L.isEmpty = true then (#[none] : Array (Option MapEntry)) else #[]) ++ Array.map some (L ++ #[]) = L.map some := by simp [he]
    rw [hcand, Array.size_map, hch]
    have hget : (L.map some)[k]? = some (some L[k]) := by simp [hk]
    simp only [Result.andThen_ok, hget, Sem.run_bind, hset, Sem.run_pure]
theorem find_born : ∀ (l : List MapEntry) (e : MapEntry), (l.map MapEntry.born).Nodup → e ∈ l → l.find? (fun x => x.born == e.born) = some e
  | [], e, _, h => by cases h
  | x :: l, e, hn, h => by
    rw [List.map_cons, List.nodup_cons] at hn
    rcases List.mem_cons.1 h with rfl | h
    · simp
    · have : (x.born == e.born) = false := by
        simp only [beq_eq_false_iff_ne]
        intro hb
        exact hn.1 (hb ▸ List.mem_map.2 ⟨e, h, rfl⟩)
      rw [List.find?_cons, this]
      exact find_born l e hn.2 h
theorem entry_run {b cl : Nat} {seen : Array Nat} {en : Array MapEntry} {e : MapEntry} {j : Nat} (hr : w.heap[r]? = some (.mapIter (some b) cl (seen.push e.born) cl)) (hb : w.heap[b]? = some (.map en cl)) (hn : Born en cl) (hj : en[j]? = some e) :
    (Instr.entry (.pointer (some ⟨r, 0, none⟩))).run P w = .ok (.tuple #[e.key, e.val]) w := by
  have hg1 : (getObj r).run P w = .ok (.mapIter (some b) cl (seen.push e.born) cl) w := by simp [getObj, Sem.run, hr]
  have hg2 : (getObj b).run P w = .ok (.map en cl) w := by simp [getObj, Sem.run, hb]
  have hf : en.find? (fun x => x.born == e.born) = some e := by
    rw [← Array.find?_toList]
    exact find_born _ _ hn.2 (List.mem_of_getElem? (by simpa using hj))
  unfold Instr.entry
  simp only [Sem.run_bind, hg1, Result.andThen_ok, hg2, Array.back?_push, hf, Sem.run_pure]
  rw [if_neg (by simp)]
  rfl
end
end Go.Ts
set_option linter.unusedVariables false
set_option linter.unusedSimpArgs false
namespace Go.Ts
section
variable {P : Program} {G : Nat → Option TI} {w w1 : World} {r : Nat} {μ : Gh} {σ : St} {N : Nat} {a : Env} {Q : Exit → Env → St → Prop}
theorem alloc_step (hi : Inv w μ σ) (ob : Obj) : Ev w μ σ (w.alloc ob) μ σ ∧ Inv (w.alloc ob) μ σ := by
  have ev : Ev w μ σ (w.alloc ob) μ σ := ev_new hi (fun _ _ h => h) (fun _ _ h => h) rfl (fun i o b p h1 h2 _ => ⟨o, i, p, h1, h2⟩) (fun k b f t h1 h2 _ _ => ⟨h1, h2⟩)
  have hne : ∀ {x : Nat} {o : Obj}, w.heap[x]? = some o → (w.alloc ob).heap[x]? = some o := fun {x o} h => by rw [A9 w _ (Array.getElem?_eq_some_iff.1 h).1]; exact h
  refine ⟨ev, fun i ts hx => ?_, fun i es hx => ?_, hi.inj, fun k hk => ?_, hi.rinj, hi.fin, fun b o hb => ?_, hi.offobj⟩
  · obtain ⟨b, p, c, e, h1, h2, h3, h4⟩ := hi.obj i ts hx
    exact ⟨b, p, c, e, h1, hne h2, h3, fun j t v h5 h6 => (h4 j t v h5 h6).ev ev⟩
  · obtain ⟨b, en, cl, h1, h2, h3, h4⟩ := hi.map i es hx
    exact ⟨b, en, cl, h1, hne h2, h3, fun j k u e h5 h6 => let ⟨h7, h8⟩ := h4 j k u e h5 h6; ⟨h7.ev ev, h8.ev ev⟩⟩
  · obtain ⟨b, f, t, h1, h2, h3⟩ := hi.room k hk
    refine ⟨b, f, t, h1, h2, fun hlt => ?_⟩
    obtain ⟨⟨c, e, h4, h5⟩, h6, h7⟩ := h3 hlt
    exact ⟨⟨c, e, hne h4, h5⟩, h6, h7⟩
  · have := hi.offlt b o hb; rw [size_alloc]; omega
theorem get_put_ne {a : Env} {d i : Nat} {t : T} (h : d ≠ i) : get (put a (some d) t) i = get a i := by simp [put, get, beqF h]
theorem knows_put {a b : Env} {d : Nat} {t : T} (h : Knows a b) (hb : get b d = none) : Knows (put a (some d) t) b := fun i u hu => by
  by_cases e : d = i
  · subst e; rw [hb] at hu; cases hu
  · rw [get_put_ne e]; exact h i u hu
theorem all_seen : ∀ (n : Nat) (l : List Nat), l.Nodup → (∀ i ∈ l, i < n) → (∀ i, i < n → i ∈ l) → l.length = n := by
  intro n l h1 h2 h3
  have p : l.Perm (List.range n) := (List.perm_ext_iff_of_nodup h1 List.nodup_range).2 fun i => by
    rw [List.mem_range]; exact ⟨h2 i, h3 i⟩
  simpa using p.length_eq
theorem wpOps_at {ops : Array Oper} {i : Nat} {rest : List Nat} {o : Oper} {av : Act} {Q : Exit → Act → World → Prop} (ho : ops[i]? = some o) (hg : o.guard = none) (h : o.wp P av w (wpOps P ops Q rest) Q) : wpOps P ops Q (i :: rest) av w := by
  simp only [wpOps, ho]
  rw [if_pos (by simp [Region.wanted, hg])]
  exact .inl h
theorem wp_value {o : Oper} {av : Act} {v : Value} {w' : World} {next : Act → World → Prop} {Q : Exit → Act → World → Prop} (h : (execOp av.eval o).run P w = .ok (.value v) w') (k : next (av.put o.dst v) w') : o.wp P av w next Q := by
  unfold Oper.wp; rw [h]; exact k
theorem nodup_le : ∀ (n : Nat) (l : List Nat), l.Nodup → (∀ i ∈ l, i < n) → l.length ≤ n
  | 0, l, _, h => by
    cases l with
    | nil => simp
    | cons x l => exact absurd (h x (by simp)) (by omega)
  | n + 1, l, hn, h => by
    by_cases hm : n ∈ l
    · have ih := nodup_le n (l.erase n) (hn.erase n) fun i hi => by
        rw [hn.mem_erase_iff] at hi
        have := h i hi.2; omega
      have h2 := List.length_erase_of_mem hm
      omega
    · have ih := nodup_le n l hn fun i hi => by
        have := h i hi
        have : i ≠ n := fun e => hm (e ▸ hi)
        omega
      omega
theorem born_inj {en : Array MapEntry} {cl i j : Nat} (hb : Born en cl) (hi : i < en.size) (hj : j < en.size) (h : (en[i]!).born = (en[j]!).born) : i = j := by
  have hp := List.pairwise_iff_getElem.1 hb.2
  rw [getElem!_pos en i hi, getElem!_pos en j hj] at h
  rcases Nat.lt_trichotomy i j with h1 | h1 | h1
  · have h2 := hp i j (by simpa using hi) (by simpa using hj) h1
    rw [List.getElem_map, List.getElem_map] at h2
    exact absurd h h2
  · exact h1
  · have h2 := hp j i (by simpa using hj) (by simpa using hi) h1
    rw [List.getElem_map, List.getElem_map] at h2
    exact absurd h.symm h2
theorem notlive_iter (hi : Inv w μ σ) {m : Option Nat} {s l : Nat} {seen : Array Nat} (h : w.heap[r]? = some (.mapIter m s seen l)) : ¬ Live μ σ r := by
  rintro (⟨i, ob, p, h1, h2⟩ | ⟨k, f, t, h1, h2, h3⟩)
  · cases ob with
    | cells ts =>
      obtain ⟨b, q, c, e, h4, h5, _⟩ := hi.obj i ts h1
      rw [h2] at h4; injection h4 with h4; injection h4 with h4 h6; subst h4
      rw [h] at h5; cases h5
    | map es =>
      obtain ⟨b, en, cl, h4, h5, _⟩ := hi.map i es h1
      rw [h2] at h4; injection h4 with h4; injection h4 with h4 h6; subst h4
      rw [h] at h5; cases h5
  · obtain ⟨b, f', t', h4, _, h5⟩ := hi.room k h1
    rw [h2] at h4; injection h4 with h4; injection h4 with h4 h6; injection h6 with h6 h7; subst h4; subst h6; subst h7
    obtain ⟨⟨c, e, h8, _⟩, _⟩ := h5 h3
    rw [h] at h8; cases h8
theorem eval_raw {av : Act} {a : Env} {x : Operand} {v : Value} (hr : RelA w μ σ N av a) (hx : Ad a x = some (.raw v)) : av.eval x = v := by
  have h := Al hr hx
  generalize av.eval x = y at h
  cases h; rfl
theorem ev_put {av : Act} {a : Env} {d : Nat} {v : Value} (hr : RelA w μ σ N av a) (hd : Ai N (some d) = true) : (av.put (some d) v).eval (.tmp d) = v :=
  eval_raw (hr.put hd (Rel.raw v)) (by simp [Ad, put, get])
end
end Go.Ts
namespace Go.Ts
set_option linter.unusedSimpArgs false
set_option linter.unusedVariables false
section
variable {P : Program} {G : Nat → Option TI} {N : Nat} {σ : St} {a : Env} {K : Env → St → Prop} {d : Tmp} {ty : TypeId} {pos : String} {af : Array Edge} {gd : Option (Nat × Bool)} {α : Type} {Q : Exit → Env → St → Prop}
theorem perm_step {L' : List (Nat × Ob)} (hL : σ.L.Perm L') : GStep σ { σ with L := L' } := by
  intro w μ hi
  have ev : Ev w μ σ w μ { σ with L := L' } := by
    refine ⟨.refl _ _, fun _ _ h => h, fun _ _ h => h, rfl, fun _ _ h => h, fun b hb hl => ⟨?_, rfl⟩, fun b o h => ⟨⟨h.lt, h.off, fun i x p h1 => h.obj i x p (hL.mem_iff.2 h1), h.room⟩, rfl⟩⟩
    rintro (⟨i, x, p, h1, h2⟩ | h)
    · exact hl (.inl ⟨i, x, p, hL.mem_iff.2 h1, h2⟩)
    · exact hl (.inr h)
  refine ⟨⟨fun i ts h => ?_, fun i es h => ?_, ?_, fun k hk => ?_, hi.rinj, hi.fin, hi.offlt, fun i x b p h1 => hi.offobj i x b p (hL.mem_iff.2 h1)⟩, ev⟩
  · obtain ⟨b, p, c, e, h1, h2, h3, h4⟩ := hi.obj i ts (hL.mem_iff.2 h)
    exact ⟨b, p, c, e, h1, h2, h3, fun j t v h5 h6 => (h4 j t v h5 h6).ev ev⟩
  · obtain ⟨b, c, e, h1, h2, h3, h4⟩ := hi.map i es (hL.mem_iff.2 h)
    exact ⟨b, c, e, h1, h2, h3, fun j k u e' h5 h6 => let ⟨h7, h8⟩ := h4 j k u e' h5 h6; ⟨h7.ev ev, h8.ev ev⟩⟩
  · exact inj_pair.2 ((hL.pairwise_iff (fun h => Apart.symm h)).1 (inj_pair.1 hi.inj))
  · obtain ⟨b, f, t, h1, h2, h3⟩ := hi.room k hk
    exact ⟨b, f, t, h1, h2, fun hlt => let ⟨h4, h5, h6⟩ := h3 hlt; ⟨h4, fun i x p h7 => h5 i x p (hL.mem_iff.2 h7), h6⟩⟩
def OnL (P : Program) (g : FuncId) (ts : List T) (L0 : List (Nat × Ob)) (R : T → List (Nat × Ob) → Prop) : Prop :=
  ∀ off, ACalls P g ts ⟨L0, [], off, none⟩ (fun u σ' => ∃ L', R u L' ∧ σ' = ⟨L', [], off, none⟩)
theorem OnL.calls {g : FuncId} {ts : List T} {L0 Lf : List (Nat × Ob)} {R : T → List (Nat × Ob) → Prop} (h : OnL P g ts L0 R) (hnx : σ.nx = none) (hL : σ.L.Perm (L0 ++ Lf)) {K : T → St → Prop}
    (k : ∀ u L', R u L' → K u { σ with L := L' ++ Lf }) : ACalls P g ts σ K := by
  refine (frame (Ls := L0) (Lf := Lf) hL (R := fun u L R' => R u L ∧ R' = []) hnx fun off => (h off).mono fun u σ' ⟨L', h1, h2⟩ => by subst h2; exact ⟨rfl, h1, rfl⟩).mono ?_
  rintro u σ' ⟨L', R', ⟨h1, rfl⟩, rfl⟩
  obtain ⟨L, R1, off, nx⟩ := σ
  simp only at hnx; subst hnx
  exact k u L' h1
theorem r_onL {f : Operand} {args : Array Operand} {tys : Array TypeId} {g : FuncId} {ts : List T} {L0 Lf : List (Nat × Ob)} {R : T → List (Nat × Ob) → Prop}
    (hf : Ad a f = some (.fn (.func g) [])) (ha : argsT a args.toList = some ts) (hd : Ai N (some d) = true) (hnx : σ.nx = none) (hL : σ.L.Perm (L0 ++ Lf)) (h : OnL P g ts L0 R)
    (k : ∀ u L', R u L' → K (put a (some d) u) { σ with L := L' ++ Lf }) : AOp P N ⟨some d, .call ⟨.value f, args, tys⟩, ty, pos, af, gd⟩ a σ K := by
  refine op_call rfl hf ha rfl hd ?_
  rw [List.append_nil]
  exact h.calls hnx hL k
theorem Az {rs : List ResultVar} {ts : List T} {r : T} {L0 L' : List (Nat × Ob)} {R : T → List (Nat × Ob) → Prop} (h : ResRs G a σ rs ts) (hs : L0.Sublist σ.L) (hp : L0.Perm L') (hw : Wk (tup1 ts) r) (hnx : σ.nx = none) (hR : R r L') :
    retA G rs (fun u σ' => ∃ L', R u L' ∧ σ' = ⟨L', [], σ.off, none⟩) .ret a σ := by
  refine ⟨ts, h, ((((Conv.g (Bc (L' := L0) (R' := []) hs (List.nil_sublist _))).trans (Conv.g (perm_step (σ := { σ with L := L0, R := [] }) hp))).trans (Conv.wk hw)).cr ⟨L', hR, ?_⟩)⟩
  rw [← hnx]
theorem ret_onLE {rs : List ResultVar} {ts : List T} {r : T} {L0 L' : List (Nat × Ob)} {R : T → List (Nat × Ob) → Prop} (h : ResRs G a σ rs ts) (hs : L0.Sublist σ.L) (hp : L0.Perm L') (hw : Wk (tup1 ts) r) (hnx : σ.nx = none) (hR : R r L') :
    retA G rs (fun u σ' => ∃ L', R u L' ∧ σ' = ⟨L', [], σ.off, none⟩) .normal a σ := Az h hs hp hw hnx hR
theorem r_onS {f : Operand} {args : Array Operand} {tys : Array TypeId} {g : FuncId} {ts : List T} {r : T} {L0 Lf : List (Nat × Ob)}
    (hf : Ad a f = some (.fn (.func g) [])) (ha : argsT a args.toList = some ts) (hd : Ai N (some d) = true) (hnx : σ.nx = none) (h : OnL P g ts L0 (fun u L => u = r ∧ L = L0)) (hL : σ.L.Perm (L0 ++ Lf))
    (k : K (put a (some d) r) σ) : AOp P N ⟨some d, .call ⟨.value f, args, tys⟩, ty, pos, af, gd⟩ a σ K := by
  refine op_call rfl hf ha rfl hd ?_
  rw [List.append_nil]
  refine ACalls.conv (R := fun u σ' => u = r ∧ σ' = { σ with L := L0 ++ Lf }) (h.calls hnx hL fun u L' ⟨h1, h2⟩ => by subst h1; subst h2; exact ⟨rfl, rfl⟩) ?_
  rintro u σ1 ⟨rfl, rfl⟩
  refine (Conv.g (perm_step (σ := { σ with L := L0 ++ Lf }) hL.symm)).cr ?_
  exact k
/-! Elements of many cells. -/
theorem flat_slice {sz : Nat} : ∀ {xs : List T} {k : Nat} {x : T}, sized sz xs → xs[k]? = some x → ∃ A B, flat xs = A ++ x.cells ++ B ∧ A.length = k * sz ∧ (∀ y : T, y.cells.length = sz → flat (xs.set k y) = A ++ y.cells ++ B)
  | [], k, x, _, h => by simp at h
  | y :: xs, 0, x, hs, h => by
    simp at h; subst h
    exact ⟨[], flat xs, by rw [flat_cons]; rfl, by simp, fun z hz => by rw [List.set_cons_zero, flat_cons]; rfl⟩
  | y :: xs, k + 1, x, hs, h => by
    obtain ⟨A, B, h1, h2, h3⟩ := flat_slice (k := k) (fun i x hx => hs (i + 1) x (by simpa using hx)) (by simpa using h)
    refine ⟨y.cells ++ A, B, by rw [flat_cons, h1]; simp [List.append_assoc], ?_, fun z hz => by rw [List.set_cons_succ, flat_cons, h3 z hz]; simp [List.append_assoc]⟩
    rw [List.length_append, h2, hs 0 y rfl, Nat.add_mul]; omega
theorem enc_sized (f : α → T) {sz : Nat} [Enc f sz] (l : List α) : sized sz (l.map f) := by
  intro i x hx
  obtain ⟨y, _, rfl⟩ := List.mem_map.1 (List.mem_of_getElem? hx)
  exact Enc.size (f := f) y
theorem stored_mid (A B vs us : List T) (h : vs.length = us.length) : stored (A ++ us ++ B) vs A.length = A ++ vs ++ B := by
  apply List.ext_getElem?
  intro k
  rw [stored_get (by simp; omega)]
  by_cases h1 : A.length ≤ k ∧ k < A.length + vs.length
  · rw [if_pos h1, List.append_assoc, List.getElem?_append_right h1.1, List.getElem?_append_left (by omega)]
  · rw [if_neg h1]
    rcases Nat.lt_or_ge k A.length with h2 | h2
    · rw [List.append_assoc, List.append_assoc, List.getElem?_append_left h2, List.getElem?_append_left h2]
    · have h3 : A.length + vs.length ≤ k := by omega
      rw [List.getElem?_append_right (by simp; omega), List.getElem?_append_right (by simp; omega)]
      simp [h]
theorem Ak {t : TypeId} {x ix : Operand} {k : IntKind} {z e i n sz : Nat} {cap : Option Nat} {ti te : TI} (hG : Fits P G)
    (hx : Ad a x = some (.aref sz i 0 n cap)) (hn : Ad a ix = some (.int k ((z : Nat) : Int))) (ht : G t = some ti) (htd : ti.d = .slice e) (hte : G e = some te) (hsz : Nat.beq sz te.size = true) (hd : Ai N (some d) = true)
    (h0 : z < n) (kk : K (put a (some d) (.ptr i (z * sz))) σ) : AOp P N ⟨some d, .indexAddr t x ix, ty, pos, af, gd⟩ a σ K := by
  refine op_idx_aref hG rfl hn hx ht htd hte hsz rfl hd ⟨by omega, by omega⟩ ?_
  rw [Int.toNat_natCast, Nat.zero_add]; exact kk
theorem Aa [Inhabited α] (m : Nat) (f : α → T) {sz : Nat} [Enc f sz] {l : List α} {z i : Nat} {t : TypeId} {x : Operand} {ti : TI} (hG : Fits P G) (hx : Ad a x = some (.ptr i (z * sz))) (hob : σ.L[m]? = some (i, .cells (flat (l.map f)))) (ht : G t = some ti) (hag : ti.d.agg = true) (hsz : Nat.beq ti.size sz = true)
    (hz : z < l.length) (hd : Ai N (some d) = true) (kk : K (put a (some d) (.agg (f (l.getD z default)).cells)) σ) : AOp P N ⟨some d, .load t x, ty, pos, af, gd⟩ a σ K := by
  refine r_ld m hG hx hob ?_ hd kk
  have hg : (l.map f)[z]? = some (f (l.getD z default)) := by simp [List.getD, hz]
  obtain ⟨A, B, h1, h2, _⟩ := flat_slice (enc_sized f l) hg
  have h3 : (f (l.getD z default)).cells.length = sz := Enc.size (f := f) _
  have h4 := Nat.eq_of_beq_eq_true hsz
  have h5 : Nat.ble (z * sz + sz) (A ++ (f (l.getD z default)).cells ++ B).length = true := Nat.ble_eq_true_of_le (by simp only [List.length_append]; omega)
  simp only [readT, ht, hag, cond_true, h4, h1, h5]
  rw [← h2, List.append_assoc, List.drop_left, ← h3, List.take_left]
theorem Ab [Inhabited α] (m : Nat) (f : α → T) {sz : Nat} [Enc f sz] {l : List α} {z j i : Nat} {t : TypeId} {x : Operand} {ti : TI} {c : T} (hG : Fits P G) (hx : Ad a x = some (.ptr i (z * sz + j))) (hob : σ.L[m]? = some (i, .cells (flat (l.map f)))) (ht : G t = some ti) (hag : ti.d.agg = false)
    (hc : (f (l.getD z default)).cells[j]? = some c) (hz : z < l.length) (hd : Ai N (some d) = true) (kk : K (put a (some d) c) σ) : AOp P N ⟨some d, .load t x, ty, pos, af, gd⟩ a σ K := by
  refine r_ld m hG hx hob ?_ hd kk
  have hg : (l.map f)[z]? = some (f (l.getD z default)) := by simp [List.getD, hz]
  simp [readT, ht, hag, flat_at (enc_sized f l) hg hc]
theorem r_stE [Inhabited α] (m : Nat) (f : α → T) {sz : Nat} [Enc f sz] {l : List α} {v : α} {z i : Nat} {t : TypeId} {x y : Operand} {ti : TI} {cs : List T} (hG : Fits P G) (hx : Ad a x = some (.ptr i (z * sz))) (hob : σ.L[m]? = some (i, .cells (flat (l.map f)))) (hy : Ad a y = some (.agg cs))
    (hv : (f v).cells = cs) (hsc : (notRaw (.agg cs) && cs.all T.scalar) = true) (hty : G t = some ti) (hsz : Nat.beq sz ti.size = true) (hz : z < l.length)
    (kk : K a (σ.set m i (.cells (flat ((l.set z v).map f))))) : AOp P N ⟨none, .store t x y, ty, pos, af, gd⟩ a σ K := by
  have hg : (l.map f)[z]? = some (f (l.getD z default)) := by simp [List.getD, hz]
  obtain ⟨A, B, h1, h2, h3⟩ := flat_slice (enc_sized f l) hg
  have h4 : (f (l.getD z default)).cells.length = sz := Enc.size (f := f) _
  have h5 : (f v).cells.length = sz := Enc.size (f := f) v
  have h6 := h3 (f v) h5
  refine r_st m hG hx hob hy hsc hty ?_ ?_ ?_
  · show Nat.beq cs.length ti.size = true
    rw [← hv, h5]; exact hsz
  · show Nat.ble (z * sz + cs.length) _ = true
    rw [h1, ← hv]
    exact Nat.ble_eq_true_of_le (by simp only [List.length_append]; omega)
  · show K a (σ.set m i (.cells (stored (flat (l.map f)) cs (z * sz))))
    rw [h1, ← h2, ← hv, stored_mid _ _ _ _ (by omega), ← h6, ← List.map_set]; exact kk
end
end Go.Ts
set_option maxHeartbeats 4000000
namespace Go.Proofs.Ythfgocinlbogeaa
open Go.Ts
attribute [local irreducible] Go.Ts.AW Go.Ts.AOps Go.Ts.AL Go.Ts.AOp Go.Ts.ACalls Go.Ts.DL
theorem grow_nil {n : Int} (hn : 0 ≤ n ∧ n ≤ 4294967296) : Owns Try.prog 93 [.nilsl, .int .i64 n] 1 [] := by
  intro off
  refine Af (N := 27) (rs := [.tmp 4]) hG Try.func93 rfl rfl rfl rfl rfl ?_
  repeat' (first | (show AL _ _ _ _ _ _ _ _; first | refine so0 ?_ | (refine sa ?_; intro k)) | (show AW _ _ _ _ _ _; first | (show AW _ _ (.region _ _ _) _ _ _; refine sc0 ?_; intro O1) | (refine sc0 ?_; try intro Q1)) | (show (_ → _) ∧ _; refine ⟨fun h => ?_, fun h => ?_⟩) | fail)
  · refine Ac rfl (op_zeros hG rfl rfl rfl rfl rfl rfl rfl rfl rfl rfl rfl (by omega) (fun i cap hc => ?_))
    repeat' (first | (show AL _ _ _ _ _ _ _ _; first | refine so0 ?_ | (refine sa ?_; intro k)) | (show AW _ _ _ _ _ _; first | (show AW _ _ (.region _ _ _) _ _ _; refine sc0 ?_; intro O1) | (refine sv0 ?_; try intro Q1)) | (show (_ → _) ∧ _; refine ⟨fun h => ?_, fun h => ?_⟩) | fail)
    refine aw_room 0 4 rfl rfl rfl rfl (fun k => ?_)
    exact aw_ret (ret_owns 0 (Ae rfl Ag) rfl rfl rfl)
  · exact ret_owns0 (sz := 1) (Ae rfl Ag) rfl rfl rfl rfl

def lettersOf : List T → Option (List (List UInt8))
  | [] => some []
  | t :: r => match bytesT t, lettersOf r with
    | some b, some s => some (b :: s)
    | _, _ => none
theorem bytesT_scalar {t : T} {b : List UInt8} (h : bytesT t = some b) : t.scalar = true := by
  unfold bytesT at h
  split at h
  · rfl
  · rfl
  · cases h
theorem lettersOf_wk : ∀ {xs : List T} {l : List (List UInt8)}, lettersOf xs = some l → xs.length = l.length ∧ ∀ (i : Nat) (x : T) (b : List UInt8), xs[i]? = some x → l[i]? = some b → x.scalar = true ∧ Wk x (sT b)
  | [], l, h => by simp [lettersOf] at h; subst h; exact ⟨rfl, fun i x b h => by simp at h⟩
  | t :: xs, l, h => by
    simp only [lettersOf] at h
    split at h
    · rename_i b s hb hs
      injection h with h; subst h
      obtain ⟨h1, h2⟩ := lettersOf_wk hs
      refine ⟨by simp [h1], fun i x c hx hc => ?_⟩
      cases i with
      | zero => simp at hx hc; subst hx; subst hc; exact ⟨bytesT_scalar hb, bytesT_wk hb⟩
      | succ i => exact h2 i x c (by simpa using hx) (by simpa using hc)
    · cases h
def lettersT : T → Option (List (List UInt8))
  | .nilsl => some []
  | .sl 1 _ xs => lettersOf xs
  | _ => none
def lT (l : List (List UInt8)) : T := .sl 1 .no (l.map sT)
theorem lettersT_wk {x : T} {l : List (List UInt8)} (h : lettersT x = some l) : Wk x (lT l) := by
  unfold lettersT at h
  split at h
  · injection h with h; subst h; exact Wk.nil 1
  · rename_i own xs
    obtain ⟨h1, h2⟩ := lettersOf_wk h
    refine (Wk.own 1 own xs).trans (Wk.list (by simpa using h1) fun i x y hx hy => ?_)
    rw [List.getElem?_map] at hy
    cases hl : l[i]? with
    | none => rw [hl] at hy; cases hy
    | some b =>
      rw [hl] at hy; injection hy with hy; subst hy
      obtain ⟨h3, h4⟩ := h2 i x b hx hl
      exact ⟨h3, rfl, h4⟩
  · cases h
instance : Enc lT 1 := ⟨fun x c h => by simp [lT, T.cells] at h; subst h; rfl, fun x => rfl⟩

def total (bs : List (List UInt8)) : Nat := (bs.map List.length).sum
theorem total_snoc (bs : List (List UInt8)) (b : List UInt8) : total (bs ++ [b]) = total bs + b.length := by simp [total]
theorem total_take_le (bs : List (List UInt8)) (i : Nat) : total (bs.take i) ≤ total bs := by
  have h : total bs = total (bs.take i) + total (bs.drop i) := by
    conv => lhs; rw [← List.take_append_drop i bs]
    simp only [total, List.map_append, List.sum_append]
  omega
theorem flatten_length (bs : List (List UInt8)) : bs.flatten.length = total bs := by simp [total, List.length_flatten]
theorem take_getD {α : Type} [Inhabited α] (l : List α) (i : Nat) (h : i < l.length) : l.take (i + 1) = l.take i ++ [l.getD i default] := by
  rw [List.take_succ_eq_append_getElem h]; simp [List.getElem?_eq_getElem h]

structure CatX (bs : List (List UInt8)) where
  i : Nat
  hi : i ≤ bs.length
structure CatY (bs : List (List UInt8)) where
  i : Nat
  k : Nat
  hi : i ≤ bs.length
theorem concat_b {x : T} {bs : List (List UInt8)} (hx : lettersT x = some bs) (hb : total bs ≤ 4294967200) (hn : bs.length ≤ 4294967296) :
    Owns Try.prog 69 [x] 1 (bs.flatten.map bT) := by
  refine Owns.weak (us := [lT bs]) ?_ (wk1 (lettersT_wk hx))
  intro off
  refine Af (N := 36) (rs := [.tmp 2]) hG Try.func69 rfl rfl rfl rfl rfl ?_
  repeat' (first | (show AL _ _ _ _ _ _ _ _; first | refine so0 ?_ | (refine sa ?_; intro k)) | (show AW _ _ _ _ _ _; first | (show AW _ _ (.region _ _ _) _ _ _; refine sc0 ?_; intro O1) | (refine sc0 ?_; try intro Q1)) | (show (_ → _) ∧ _; refine ⟨fun h => ?_, fun h => ?_⟩) | fail)
  refine A5 (X := CatX bs) (fun x => [(0, lT bs), (9, lT bs), (10, .int .i64 bs.length), (11, .int .i64 x.i), (3, .int .i64 (total (bs.take x.i)))]) (fun x => ⟨[], [], off, none⟩) (fun x => bs.length - x.i) ⟨0, Nat.zero_le _⟩ ?_ (.refl _) ?_
  · exact .cons rfl (.cons rfl (.consW rfl (.int (by simp)) (.consW rfl (.int rfl) (.consW rfl (.int (by simp [total])) (.nil _)))))
  rintro ⟨i, hi⟩
  dsimp only
  have hle := total_take_le bs i
  by_cases hib : i < bs.length
  · have htk := take_getD bs i hib
    have hle2 := total_take_le bs (i + 1)
    rw [htk, total_snoc] at hle2
    repeat' (first | (show AL _ _ _ _ _ _ _ _; first | refine so0 ?_ | (refine sa ?_; intro k)) | (show AW _ _ _ _ _ _; first | (show AW _ _ (.region _ _ _) _ _ _; refine sc0 ?_; intro O1) | (refine sc0 ?_; try intro Q1)) | (show (_ → _) ∧ _; refine ⟨fun h => ?_, fun h => ?_⟩) | fail)
    refine ⟨⟨i + 1, by omega⟩, by dsimp only; omega, ?_, .refl _⟩
    refine .cons rfl (.cons rfl (.cons rfl (.consW rfl (.int (by simp)) (.consW rfl (.int ?_) (.nil _)))))
    show _ = ((total (bs.take (i + 1)) : Nat) : Int)
    rw [htk, total_snoc]; simp
  · obtain rfl : i = bs.length := by omega
    rw [List.take_length] at *
    repeat' (first | (show AL _ _ _ _ _ _ _ _; first | refine so0 ?_ | (refine sO Y Y Y Y Y Y (by apply grow_nil <;> exact sd) ?_; intro k) | (refine sa ?_; intro k)) | (show AW _ _ _ _ _ _; first | (show AW _ _ (.region _ _ _) _ _ _; refine sc0 ?_; intro O1) | (refine sc0 ?_; try intro Q1)) | (show (_ → _) ∧ _; refine ⟨fun h => ?_, fun h => ?_⟩) | fail)
    refine A5 (X := CatY bs) (fun x => [(25, lT bs), (26, .int .i64 bs.length), (27, .int .i64 x.i), (6, .sl 1 (.tok x.k) ((bs.take x.i).flatten.map bT))]) (fun x => ⟨[], [x.k], off, none⟩) (fun x => bs.length - x.i) ⟨0, k, Nat.zero_le _⟩ ?_ (.refl _) ?_
    · exact .cons rfl (.consW rfl (.int (by simp)) (.consW rfl (.int rfl) (.consW rfl (.eq (by simp)) (.nil _))))
    rintro ⟨i, k, hi⟩
    dsimp only
    have hle := total_take_le bs i
    have hfl := flatten_length (bs.take i)
    by_cases hib : i < bs.length
    · have htk := take_getD bs i hib
      have hle2 := total_take_le bs (i + 1)
      rw [htk, total_snoc] at hle2
      repeat' (first | (show AL _ _ _ _ _ _ _ _; first | refine so0 ?_ | (refine sa ?_; intro k)) | (show AW _ _ _ _ _ _; first | (show AW _ _ (.region _ _ _) _ _ _; refine sc0 ?_; intro O1) | (refine sc0 ?_; try intro Q1)) | (show (_ → _) ∧ _; refine ⟨fun h => ?_, fun h => ?_⟩) | fail)
      refine ⟨⟨i + 1, _, by omega⟩, by dsimp only; omega, ?_, .refl _⟩
      refine .cons rfl (.cons rfl (.consW rfl (.int (by simp)) (.consW rfl (.eq ?_) (.nil _))))
      rw [htk, List.flatten_append]; simp
    · obtain rfl : i = bs.length := by omega
      rw [List.take_length] at *
      repeat' (first | (show AL _ _ _ _ _ _ _ _; first | refine so0 ?_ | (refine sa ?_; intro k)) | (show AW _ _ _ _ _ _; first | (show AW _ _ (.region _ _ _) _ _ _; refine sc0 ?_; intro O1) | (refine sc0 ?_; try intro Q1)) | (show (_ → _) ∧ _; refine ⟨fun h => ?_, fun h => ?_⟩) | fail)
      exact ret_owns 0 (Ae rfl Ag) rfl rfl rfl

def putBs (b s : List UInt8) : List UInt8 := b ++ putI s.length 2 ++ s
theorem num_PutBytes {x y : T} {b s : List UInt8} (hx : bytesT x = some b) (hy : bytesT y = some s) (hl : b.length ≤ 4294880000) (hs : s.length ≤ 70000) :
    Owns Try.prog 43 [x, y] 1 ((putBs b s).map bT) := by
  refine Owns.weak (us := [sT b, sT s]) ?_ (wk2 (bytesT_wk hx) (bytesT_wk hy))
  intro off
  refine Af (N := 13) (rs := [.tmp 4]) hG Try.func43 rfl rfl rfl rfl rfl ?_
  have hpl := putI_le s.length 2
  repeat' (first | (show AL _ _ _ _ _ _ _ _; first | refine so0 ?_ | (refine sO Y Y Y Y Y Y (by apply num_Put <;> exact sd) ?_; intro k)) | (show AW _ _ _ _ _ _; first | (show AW _ _ (.region _ _ _) _ _ _; refine sc0 ?_; intro O1) | (refine sc0 ?_; try intro Q1)) | (show (_ → _) ∧ _; refine ⟨fun h => ?_, fun h => ?_⟩) | fail)
  refine Ac rfl (r_owns rfl rfl rfl rfl rfl (concat_b (bs := [b ++ putI s.length 2, s]) ?_ ?_ ?_) (fun k => ?_))
  · simp only [lettersT, lettersOf, Bd, bytesT_s]
  · simp [total]; omega
  · simp
  repeat' (first | (show AL _ _ _ _ _ _ _ _; first | refine so0 ?_) | (show AW _ _ _ _ _ _; first | (show AW _ _ (.region _ _ _) _ _ _; refine sc0 ?_; intro O1) | (refine sc0 ?_; try intro Q1)) | (show (_ → _) ∧ _; refine ⟨fun h => ?_, fun h => ?_⟩) | fail)
  exact ret_owns 0 (Ae rfl Ag) rfl (by simp [putBs]) rfl
end Go.Proofs.Ythfgocinlbogeaa
set_option maxHeartbeats 4000000
namespace Go.Proofs.Ythfgocinlbogeaa
open Go.Ts
attribute [local irreducible] Go.Ts.AW Go.Ts.AOps Go.Ts.AL Go.Ts.AOp Go.Ts.ACalls Go.Ts.DL
structure RefX (n : Nat) where
  i : Nat
  k : Nat
  hi : i ≤ n
theorem be_get (v : Nat) : ∀ (n i : Nat), i < n → (be v n)[i]? = some (UInt8.ofNat (v / 2 ^ (8 * (n - 1 - i))))
  | 0, i, h => by omega
  | n + 1, 0, h => by simp [be]
  | n + 1, i + 1, h => by
    simp only [be, List.getElem?_cons_succ]
    rw [be_get v n i (by omega)]
    congr 4; omega
theorem ref_Put {x : T} {b : List UInt8} {v n : Int} (hx : bytesT x = some b) (hl : b.length ≤ 4294967000) (hv : 0 ≤ v) :
    Owns Try.prog 16 [x, .int .u64 v, .int .i64 n] 1 ((b ++ putI v n).map bT) := by
  refine Owns.weak (us := [sT b, .int .u64 v, .int .i64 n]) ?_ (wk3 (bytesT_wk hx) (.refl _) (.refl _))
  intro off
  refine Af (N := 36) (rs := [.tmp 6]) hG Try.func16 rfl rfl rfl rfl rfl ?_
  repeat' (first | (show AL _ _ _ _ _ _ _ _; first | refine so0 ?_ | (refine sa ?_; intro k)) | (show AW _ _ _ _ _ _; first | (show AW _ _ (.region _ _ _) _ _ _; refine sc0 ?_; intro O1) | (refine sc0 ?_; try intro Q1)) | (show (_ → _) ∧ _; refine ⟨fun h => ?_, fun h => ?_⟩) | fail)
  · exact ret_owns 0 (Ae rfl Ag) rfl (by rw [putI, if_neg (by omega), List.append_nil]; rfl) rfl
  · exact ret_owns 0 (Ae rfl Ag) rfl (by rw [putI, if_neg (by omega), List.append_nil]; rfl) rfl
  have hn : 0 ≤ n ∧ n ≤ 8 := by omega
  obtain ⟨m, rfl⟩ := Int.eq_ofNat_of_zero_le hn.1
  obtain ⟨v, rfl⟩ := Int.eq_ofNat_of_zero_le hv
  refine A5 (X := RefX m) (fun x => [(1, .int .u64 v), (2, .int .i64 m), (7, .sl 1 (.tok x.k) ((b ++ (be v m).take x.i).map bT)), (8, .int .i64 x.i)]) (fun x => ⟨[], [x.k], off, none⟩) (fun x => m - x.i) ⟨0, _, by omega⟩ ?_ (.refl _) ?_
  · exact .cons rfl (.cons rfl (.consW rfl (.eq (by simp)) (.consW rfl (.int rfl) (.nil _))))
  rintro ⟨i, k, hi⟩
  dsimp only
  have hbl := be_length v m
  have htl : ((be v m).take i).length = i := by rw [List.length_take]; omega
  repeat' (first | (show AL _ _ _ _ _ _ _ _; first | refine so0 ?_ | (refine sa ?_; intro k)) | (show AW _ _ _ _ _ _; first | (show AW _ _ (.region _ _ _) _ _ _; refine sc0 ?_; intro O1) | (refine sc0 ?_; try intro Q1)) | (show (_ → _) ∧ _; refine ⟨fun h => ?_, fun h => ?_⟩) | fail)
  · have hbyte : T.int IntKind.u8 (IntKind.u8.wrap ((v : Int) / 2 ^ (min (8 * ((m : Int) - 1 - (i : Int))).toNat IntKind.u64.bits))) = bT (UInt8.ofNat (v / 2 ^ (8 * (m - 1 - i)))) := by
      have : min (8 * ((m : Int) - 1 - (i : Int))).toNat IntKind.u64.bits = 8 * (m - 1 - i) := by simp only [IntKind.bits]; omega
      rw [this]
      exact bT_of _ _ (by simp)
    refine Ac rfl (r_appm 0 (ys := [UInt8.ofNat (v / 2 ^ (8 * (m - 1 - i)))]) hG rfl rfl rfl rfl rfl rfl rfl ⟨_, rfl⟩ rfl rfl rfl rfl (congrArg (fun t => [t]) hbyte) (by rw [List.length_append, htl]; simp; omega) (fun k' => ?_))
    repeat' (first | (show AL _ _ _ _ _ _ _ _; first | refine so0 ?_ | (refine sa ?_; intro k)) | (show AW _ _ _ _ _ _; first | (show AW _ _ (.region _ _ _) _ _ _; refine sc0 ?_; intro O1) | (refine sc0 ?_; try intro Q1)) | (show (_ → _) ∧ _; refine ⟨fun h => ?_, fun h => ?_⟩) | fail)
    refine ⟨⟨i + 1, k', by omega⟩, by dsimp only; omega, ?_, .refl _⟩
    refine .cons rfl (.cons rfl (.consW rfl (.eq ?_) (.consW rfl (.int (by simp)) (.nil _))))
    have hg := be_get v m i (by omega)
    rw [List.getElem?_eq_getElem (by omega)] at hg
    injection hg with hg
    rw [List.take_succ_eq_append_getElem (by omega), hg]
    simp
  · obtain rfl : i = m := by omega
    exact ret_owns 0 (Ae rfl Ag) rfl (by rw [putI, if_pos hn, List.take_of_length_le (by omega)]; simp) rfl

theorem ref_PutBytes {x y : T} {b s : List UInt8} (hx : bytesT x = some b) (hy : bytesT y = some s) (hl : b.length ≤ 4294880000) (hs : s.length ≤ 70000) :
    Owns Try.prog 92 [x, y] 1 ((putBs b s).map bT) := by
  refine Owns.weak (us := [sT b, sT s]) ?_ (wk2 (bytesT_wk hx) (bytesT_wk hy))
  intro off
  refine Af (N := 12) (rs := [.tmp 4]) hG Try.func92 rfl rfl rfl rfl rfl ?_
  have hpl := putI_le s.length 2
  repeat' (first | (show AL _ _ _ _ _ _ _ _; first | refine so0 ?_ | (refine sO Y Y Y Y Y Y (by apply ref_Put <;> exact sd) ?_; intro k) | (refine sa ?_; intro k)) | (show AW _ _ _ _ _ _; first | (show AW _ _ (.region _ _ _) _ _ _; refine sc0 ?_; intro O1) | (refine sc0 ?_; try intro Q1)) | (show (_ → _) ∧ _; refine ⟨fun h => ?_, fun h => ?_⟩) | fail)
  exact ret_owns 0 (Ae rfl Ag) rfl (by simp [putBs]) rfl

end Go.Proofs.Ythfgocinlbogeaa
set_option maxHeartbeats 4000000
namespace Go.Proofs.Ythfgocinlbogeaa
open Go.Ts
set_option linter.unusedSimpArgs false
attribute [local irreducible] Go.Ts.AW Go.Ts.AOps Go.Ts.AL Go.Ts.AOp Go.Ts.ACalls Go.Ts.DL Go.Ts.DQ Go.Ts.EL
theorem clone_p {b : List UInt8} (hl : b.length ≤ 4294967296) : Ts.Pure Try.prog 44 [sT b] (sT b) := (clone_b (bytesT_s b) hl).pure
end Go.Proofs.Ythfgocinlbogeaa
set_option linter.unusedSimpArgs false
set_option linter.unusedVariables false
set_option linter.unnecessarySimpa false
namespace Go.Ts
section
variable {P : Program} {G : Nat → Option TI} {N : Nat} {σ : St} {a : Env} {K : Env → St → Prop} {d : Tmp} {ty : TypeId} {pos : String} {af : Array Edge} {gd : Option (Nat × Bool)}
def kvT (p : Nat × Int) : T × T := (.int .u64 (p.1 : Int), .int .i64 p.2)
def kfind (k : Nat) : List (Nat × Int) → Nat → Option (Nat × Int)
  | [], _ => none
  | p :: m, i => if k = p.1 then some (i, p.2) else kfind k m (i + 1)
def klook (m : List (Nat × Int)) (k : Nat) : Int := ((kfind k m 0).map (·.2)).getD 0
def khas (m : List (Nat × Int)) (k : Nat) : Bool := (kfind k m 0).isSome
def kset (m : List (Nat × Int)) (k : Nat) (v : Int) : List (Nat × Int) := match kfind k m 0 with
  | some (p, _) => m.set p (k, v)
  | none => m ++ [(k, v)]
theorem findX_kv (k : Nat) : ∀ (m : List (Nat × Int)) (i : Nat), findX .u64 (k : Int) (m.map kvT) i = some ((kfind k m i).map fun p => (p.1, .int .i64 p.2))
  | [], i => rfl
  | p :: m, i => by
    have ih := findX_kv k m (i + 1)
    simp only [List.map_cons, kvT, findX, decide_true, cond_true, kfind]
    by_cases h : k = p.1
    · have h2 : ((k : Nat) : Int) = ((p.1 : Nat) : Int) := by omega
      rw [if_pos h, decide_eq_true h2]; rfl
    · have h2 : ¬ ((k : Nat) : Int) = ((p.1 : Nat) : Int) := by omega
      rw [if_neg h, decide_eq_false h2]; exact ih
theorem found_kv (m : List (Nat × Int)) (k : Nat) : foundX (.int .i64 0) ((kfind k m 0).map fun p => (p.1, .int .i64 p.2)) = .int .i64 (klook m k) := by
  unfold klook; cases kfind k m 0 <;> rfl
theorem mapSet_kv (m : List (Nat × Int)) (k : Nat) (v : Int) : mapSet .u64 (k : Int) (.int .i64 v) (m.map kvT) ((kfind k m 0).map fun p => (p.1, .int .i64 p.2)) = (kset m k v).map kvT := by
  unfold kset
  cases kfind k m 0 with
  | none => simp [mapSet, kvT]
  | some p => obtain ⟨p, w⟩ := p; simp [mapSet, kvT, List.map_set]
theorem r_lookL {t kt et : TypeId} {x y : Operand} {ti tk te : TI} {k i n : Nat} {m : List (Nat × Int)} (hG : Fits P G) (hx : Ad a x = some (.map (some i))) (hy : Ad a y = some (.int .u64 ((k : Nat) : Int))) (hob : σ.L[n]? = some (i, .map (m.map kvT)))
    (ht : G t = some ti) (htd : ti.d = .map kt et) (hk : G kt = some tk) (hkd : tk.d = .int .u64) (he : G et = some te) (hz : te.tree = .int .i64 0) (hd : Ai N (some d) = true)
    (kk : K (put a (some d) (.int .i64 (klook m k))) σ) : AOp P N ⟨some d, .lookup t x y false, ty, pos, af, gd⟩ a σ K := by
  refine aop_lookup hG rfl ht htd hk hkd he hx hy (List.mem_of_getElem? hob) (findX_kv k m 0) hd ?_
  rw [hz, found_kv]; exact kk
theorem r_lookF {t kt et : TypeId} {x y : Operand} {ti tk te : TI} {k : Nat} {m : List (Nat × Int)} (hG : Fits P G) (hx : Ad a x = some (.mro ((m.map kvT).map Prod.fst) ((m.map kvT).map Prod.snd))) (hy : Ad a y = some (.int .u64 ((k : Nat) : Int)))
    (ht : G t = some ti) (htd : ti.d = .map kt et) (hk : G kt = some tk) (hkd : tk.d = .int .u64) (he : G et = some te) (hz : te.tree = .int .i64 0) (hd : Ai N (some d) = true)
    (kk : K (put a (some d) (.int .i64 (klook m k))) σ) : AOp P N ⟨some d, .lookup t x y false, ty, pos, af, gd⟩ a σ K := by
  refine aop_lookupF hG rfl ht htd hk hkd he hx hy (findX_kv k m 0) hd ?_
  rw [hz, found_kv]; exact kk
theorem r_lookFo {t kt et : TypeId} {x y : Operand} {ti tk te : TI} {k : Nat} {m : List (Nat × Int)} (hG : Fits P G) (hx : Ad a x = some (.mro ((m.map kvT).map Prod.fst) ((m.map kvT).map Prod.snd))) (hy : Ad a y = some (.int .u64 ((k : Nat) : Int)))
    (ht : G t = some ti) (htd : ti.d = .map kt et) (hk : G kt = some tk) (hkd : tk.d = .int .u64) (he : G et = some te) (hz : te.tree = .int .i64 0) (hd : Ai N (some d) = true)
    (kk : K (put a (some d) (.tup [.int .i64 (klook m k), .bool (khas m k)])) σ) : AOp P N ⟨some d, .lookup t x y true, ty, pos, af, gd⟩ a σ K := by
  refine aop_lookupF hG rfl ht htd hk hkd he hx hy (findX_kv k m 0) hd ?_
  rw [hz, found_kv, Option.isSome_map]; exact kk
theorem r_updL {t kt et : TypeId} {mo x y : Operand} {ti tk : TI} {k i : Nat} {v : Int} {m : List (Nat × Int)} (n : Nat) (hG : Fits P G) (hm : Ad a mo = some (.map (some i))) (hx : Ad a x = some (.int .u64 ((k : Nat) : Int))) (hy : Ad a y = some (.int .i64 v)) (hob : σ.L[n]? = some (i, .map (m.map kvT)))
    (ht : G t = some ti) (htd : ti.d = .map kt et) (hk : G kt = some tk) (hkd : tk.d = .int .u64) (kk : K (put a none (.tup [])) (σ.set n i (.map ((kset m k v).map kvT)))) : AOp P N ⟨none, .mapUpdate t mo x y, ty, pos, af, gd⟩ a σ K := by
  refine aop_mapUpdate hG rfl ht htd hk hkd hm hx hy hob (findX_kv k m 0) rfl ?_
  rw [mapSet_kv]; exact kk

def isPM : T → Bool
  | .ptr _ _ | .nilp | .map _ | .bool _ => true
  | _ => false
theorem r_binP {op : BinOp} {t yt : TypeId} {x y : Operand} {tx u : T} (hG : Fits P G) (hx : Ad a x = some tx) (hp : isPM tx = true) (he : Av G (fun _ => none) (Ad a) (.binOp op t x y yt) = some u) (hd : Ai N (some d) = true)
    (kk : K (put a (some d) u) σ) : AOp P N ⟨some d, .binOp op t x y yt, ty, pos, af, gd⟩ a σ K := op_q hG he rfl hd kk
theorem r_lookLo {t kt et : TypeId} {x y : Operand} {ti tk te : TI} {k i n : Nat} {m : List (Nat × Int)} {v : Int} {b : Bool} (hv : klook m k = v) (hb : khas m k = b) (hG : Fits P G) (hx : Ad a x = some (.map (some i))) (hy : Ad a y = some (.int .u64 ((k : Nat) : Int))) (hob : σ.L[n]? = some (i, .map (m.map kvT)))
    (ht : G t = some ti) (htd : ti.d = .map kt et) (hk : G kt = some tk) (hkd : tk.d = .int .u64) (he : G et = some te) (hz : te.tree = .int .i64 0) (hd : Ai N (some d) = true)
    (kk : K (put a (some d) (.tup [.int .i64 v, .bool b])) σ) : AOp P N ⟨some d, .lookup t x y true, ty, pos, af, gd⟩ a σ K := by
  subst hv; subst hb
  refine aop_lookup hG rfl ht htd hk hkd he hx hy (List.mem_of_getElem? hob) (findX_kv k m 0) hd ?_
  rw [hz, found_kv, Option.isSome_map]; exact kk
theorem r_lookLv {t kt et : TypeId} {x y : Operand} {ti tk te : TI} {k i n : Nat} {m : List (Nat × Int)} {v : Int} (hv : klook m k = v) (hG : Fits P G) (hx : Ad a x = some (.map (some i))) (hy : Ad a y = some (.int .u64 ((k : Nat) : Int))) (hob : σ.L[n]? = some (i, .map (m.map kvT)))
    (ht : G t = some ti) (htd : ti.d = .map kt et) (hk : G kt = some tk) (hkd : tk.d = .int .u64) (he : G et = some te) (hz : te.tree = .int .i64 0) (hd : Ai N (some d) = true)
    (kk : K (put a (some d) (.int .i64 v)) σ) : AOp P N ⟨some d, .lookup t x y false, ty, pos, af, gd⟩ a σ K := by
  subst hv
  exact r_lookL hG hx hy hob ht htd hk hkd he hz hd kk
end
theorem kfind_set {k : Nat} {v : Int} : ∀ (m : List (Nat × Int)) (i p : Nat) (w : Int), kfind k m i = some (p + i, w) → (∀ k', (kfind k' (m.set p (k, v)) i).map (·.2) = if k' = k then some v else (kfind k' m i).map (·.2)) ∧ (m.set p (k, v)).map (·.1) = m.map (·.1)
  | [], i, p, w, h => by cases h
  | q :: m, i, p, w, h => by
    rw [kfind] at h
    by_cases h1 : k = q.1
    · rw [if_pos h1] at h
      injection h with h; injection h with h2 h3
      obtain rfl : p = 0 := by omega
      refine ⟨fun k' => ?_, by simp [h1]⟩
      rw [List.set_cons_zero, kfind]
      by_cases h4 : k' = k
      · simp [h4]
      · rw [if_neg (by simpa using h4), if_neg h4, kfind, if_neg (by rw [← h1]; exact h4)]
    · rw [if_neg h1] at h
      have hp : ∀ (m : List (Nat × Int)) (i : Nat) (x : Nat × Int), kfind k m i = some x → i ≤ x.1 := by
        intro m
        induction m with
        | nil => intro i x h; cases h
        | cons q m ih =>
          intro i x h
          rw [kfind] at h; split at h
          · injection h with h; subst h; exact Nat.le_refl _
          · have := ih _ _ h; omega
      have := hp _ _ _ h
      obtain ⟨p, rfl⟩ : ∃ p', p = p' + 1 := ⟨p - 1, by dsimp only at this; omega⟩
      obtain ⟨e1, e2⟩ := kfind_set m (i + 1) p w (by rw [h]; congr 2; omega)
      refine ⟨fun k' => ?_, by rw [List.set_cons_succ, List.map_cons, List.map_cons, e2]⟩
      rw [List.set_cons_succ, kfind, kfind]
      by_cases h4 : k' = q.1
      · rw [if_pos h4, if_pos h4, if_neg (by rw [h4]; exact fun h5 => h1 h5.symm)]
      · rw [if_neg h4, if_neg h4]; exact e1 k'
theorem kfind_app {k : Nat} {v : Int} : ∀ (m : List (Nat × Int)) (i : Nat) (k' : Nat), (kfind k' (m ++ [(k, v)]) i).map (·.2) = match kfind k' m i with
    | some x => some x.2
    | none => if k' = k then some v else none
  | [], i, k' => by
    by_cases h : k' = k <;> simp [kfind, h]
  | q :: m, i, k' => by
    rw [List.cons_append, kfind, kfind]
    by_cases h : k' = q.1
    · rw [if_pos h, if_pos h]; rfl
    · rw [if_neg h, if_neg h]; exact kfind_app m (i + 1) k'
theorem khas_iff {k : Nat} : ∀ (m : List (Nat × Int)) (i : Nat), (kfind k m i).isSome = true ↔ k ∈ m.map (·.1)
  | [], i => by simp [kfind]
  | q :: m, i => by
    rw [kfind]
    by_cases h : k = q.1
    · simp [h]
    · rw [if_neg h, khas_iff m (i + 1)]; simp [h]
theorem klook_kset (m : List (Nat × Int)) (k : Nat) (v : Int) (k' : Nat) : klook (kset m k v) k' = if k' = k then v else klook m k' := by
  unfold klook kset
  cases h : kfind k m 0 with
  | some x =>
    obtain ⟨p, w⟩ := x
    dsimp only
    rw [(kfind_set m 0 p w h).1 k']
    split <;> rfl
  | none =>
    dsimp only
    rw [kfind_app]
    by_cases h1 : k' = k
    · subst h1; rw [h]; simp
    · rw [if_neg h1]
      cases kfind k' m 0 <;> simp [h1]
theorem keys_kset (m : List (Nat × Int)) (k : Nat) (v : Int) : (kset m k v).map (·.1) = if k ∈ m.map (·.1) then m.map (·.1) else m.map (·.1) ++ [k] := by
  unfold kset
  cases h : kfind k m 0 with
  | some x =>
    obtain ⟨p, w⟩ := x
    rw [if_pos ((khas_iff m 0).1 (by rw [h]; rfl))]
    exact (kfind_set m 0 p w h).2
  | none =>
    rw [if_neg (fun h1 => by have := (khas_iff m 0).2 h1; rw [h] at this; cases this)]
    simp
end Go.Ts
set_option maxHeartbeats 4000000
namespace Go.Ts
section
variable {P : Program} {G : Nat → Option TI} {N : Nat} {σ : St} {a : Env} {K : Env → St → Prop} {d : Tmp} {ty : TypeId} {pos : String} {af : Array Edge} {gd : Option (Nat × Bool)}
structure SB where
  id : Nat
  bs : List UInt8
  taken : Bool
  turn : Int
  hid : id < 18446744073709551616
instance : Inhabited SB := ⟨⟨0, [], false, 0, by decide⟩⟩
def recT (s : SB) : T := cond s.taken (.sl 1 .no (s.bs.map bT)) .nilsl
def sbT (s : SB) : T := .agg [.int .u64 (s.id : Int), recT s, .bool s.taken, .int .i64 s.turn]
theorem recT_sc (s : SB) : (recT s).scalar = true := by unfold recT; cases s.taken <;> rfl
instance : Enc sbT 4 := ⟨(fun s c h => by
  simp only [sbT, T.cells] at h
  rcases List.mem_cons.1 h with rfl | h
  · rfl
  · rcases List.mem_cons.1 h with rfl | h
    · exact recT_sc s
    · rcases List.mem_cons.1 h with rfl | h
      · rfl
      · rcases List.mem_cons.1 h with rfl | h
        · rfl
        · cases h), fun s => rfl⟩
end
end Go.Ts
namespace Go.Proofs.Ythfgocinlbogeaa
open Go.Ts
set_option linter.unusedSimpArgs false
set_option linter.unusedVariables false
set_option linter.unnecessarySimpa false
attribute [local irreducible] Go.Ts.AW Go.Ts.AOps Go.Ts.AL Go.Ts.AOp Go.Ts.ACalls Go.Ts.DL Go.Ts.DQ0 Go.Ts.EL
theorem arena_free1 (s : SB) : Ts.Pure Try.prog 89 [sbT s] (.bool (!s.taken)) := by
  intro off
  refine Af (N := 6) (rs := [.tmp 2]) hG Try.func89 rfl rfl rfl rfl rfl ?_
  repeat' (first | (show AL _ _ _ _ _ _ _ _; first | refine so0 ?_ | (refine sb ?_; intro i)) | (show AW _ _ _ _ _ _; first | (show AW _ _ (.region _ _ _) _ _ _; refine sc0 ?_; intro O1) | (refine sc0 ?_; try intro Q1)) | (show (_ → _) ∧ _; refine ⟨fun h => ?_, fun h => ?_⟩) | fail)
  exact Bj (Ae rfl Ag) (.refl _) rfl
def freeI : List SB → Nat → Int
  | [], _ => -1
  | s :: l, i => if s.taken = true then freeI l (i + 1) else (i : Int)
structure FrX (l : List SB) where
  i : Nat
  hi : i ≤ l.length
  e : freeI (l.drop i) i = freeI l 0
theorem arena_index0 : Ts.Pure Try.prog 88 [.nilsl, .fn (.func 89) []] (.int .i64 (-1)) := by
  refine Pure.weak (us := [.sl 4 .no [], .fn (.func 89) []]) ?_ (wk2 (.nil 4) (.refl _))
  intro off
  refine Af (N := 19) (rs := [.tmp 4]) hG Try.func88 rfl rfl rfl rfl rfl ?_
  repeat' (first | (show AL _ _ _ _ _ _ _ _; first | refine so2 ?_) | (show AW _ _ _ _ _ _; first | (show AW _ _ (.region _ _ _) _ _ _; refine sc0 ?_; intro O1) | (refine sc1 ?_; try intro Q1)) | (show (_ → _) ∧ _; refine ⟨fun h => ?_, fun h => ?_⟩) | fail)
  refine A5 (X := Unit) (fun _ => [(7, .int .i64 0), (8, .int .i64 0)]) (fun _ => ⟨[], [], off, none⟩) (fun _ => 0) () (by repeat (first | exact .nil _ | refine .cons rfl ?_)) (.refl _) ?_
  intro _
  repeat' (first | (show AL _ _ _ _ _ _ _ _; first | refine so2 ?_) | (show AW _ _ _ _ _ _; first | (show AW _ _ (.region _ _ _) _ _ _; refine sc0 ?_; intro O1) | (refine sc1 ?_; try intro Q1)) | (show (_ → _) ∧ _; refine ⟨fun h => ?_, fun h => ?_⟩) | fail)
  exact Bj (Ae rfl Ag) (.refl _) rfl
theorem arena_index {l : List SB} (hl : l.length ≤ 4294967296) (i n : Nat) (cap : Option Nat) (hn : l.length = n) : OnL Try.prog 88 [.aref 4 i 0 n cap, .fn (.func 89) []] [(i, .cells (flat (l.map sbT)))] (fun u L => u = .int .i64 (freeI l 0) ∧ L = [(i, .cells (flat (l.map sbT)))]) := by
  intro off
  refine Af (N := 19) (rs := [.tmp 4]) hG Try.func88 rfl rfl rfl rfl rfl ?_
  repeat' (first | (show AL _ _ _ _ _ _ _ _; first | refine so2 ?_) | (show AW _ _ _ _ _ _; first | (show AW _ _ (.region _ _ _) _ _ _; refine sc0 ?_; intro O1) | (refine sc1 ?_; try intro Q1)) | (show (_ → _) ∧ _; refine ⟨fun h => ?_, fun h => ?_⟩) | fail)
  refine A5 (X := FrX l) (fun x => [(0, .aref 4 i 0 n cap), (1, .fn (.func 89) []), (7, .int .i64 (n : Int)), (8, .int .i64 (x.i : Int))]) (fun x => ⟨[(i, .cells (flat (l.map sbT)))], [], off, none⟩) (fun x => l.length - x.i) ⟨0, Nat.zero_le _, rfl⟩ (by repeat (first | exact .nil _ | refine .cons rfl ?_)) (.refl _) ?_
  rintro ⟨q, hi, e⟩
  dsimp only
  by_cases hil : q < l.length
  · have hf := arena_free1 (l.getD q default)
    rw [List.drop_eq_getElem_cons hil, freeI, show l[q] = l.getD q default by simp [List.getD, hil]] at e
    cases ht : (l.getD q default).taken with
    | true =>
      rw [ht] at hf
      rw [if_pos ht] at e
      repeat' (first | (show AL _ _ _ _ _ _ _ _; first | (refine Ac Y ?_; (first | (show AOp _ _ ⟨_, .indexAddr _ _ _, _, _, _, _⟩ _ _ _; refine Ak (sz := 4) hG Y Y Y Y Y Y Y (by omega) ?_) | (show AOp _ _ ⟨_, .load _ _, _, _, _, _⟩ _ _ _; first | refine Ab 0 sbT hG Y Y Y Y Y (by omega) Y ?_ | refine Aa 0 sbT hG Y Y Y Y Y (by omega) Y ?_ | refine Ab 1 sbT hG Y Y Y Y Y (by omega) Y ?_ | refine Aa 1 sbT hG Y Y Y Y Y (by omega) Y ?_ | refine Ab 2 sbT hG Y Y Y Y Y (by omega) Y ?_ | refine Aa 2 sbT hG Y Y Y Y Y (by omega) Y ?_ | refine Ab 3 sbT hG Y Y Y Y Y (by omega) Y ?_ | refine Aa 3 sbT hG Y Y Y Y Y (by omega) Y ?_))) | refine so2 ?_ | refine sp Y Y Y Y Y Y (by apply hf <;> exact sd) ?_) | (show AW _ _ _ _ _ _; first | (show AW _ _ (.region _ _ _) _ _ _; refine sc0 ?_; intro O1) | (refine sc1 ?_; try intro Q1)) | (show (_ → _) ∧ _; refine ⟨fun h => ?_, fun h => ?_⟩) | fail)
      exact ⟨⟨q + 1, by omega, e⟩, by dsimp only; omega, (by repeat (first | exact .nil _ | refine .cons rfl ?_)), .refl _⟩
    | false =>
      rw [ht] at hf
      rw [if_neg (by rw [ht]; exact Bool.false_ne_true)] at e
      repeat' (first | (show AL _ _ _ _ _ _ _ _; first | (refine Ac Y ?_; (first | (show AOp _ _ ⟨_, .indexAddr _ _ _, _, _, _, _⟩ _ _ _; refine Ak (sz := 4) hG Y Y Y Y Y Y Y (by omega) ?_) | (show AOp _ _ ⟨_, .load _ _, _, _, _, _⟩ _ _ _; first | refine Ab 0 sbT hG Y Y Y Y Y (by omega) Y ?_ | refine Aa 0 sbT hG Y Y Y Y Y (by omega) Y ?_ | refine Ab 1 sbT hG Y Y Y Y Y (by omega) Y ?_ | refine Aa 1 sbT hG Y Y Y Y Y (by omega) Y ?_ | refine Ab 2 sbT hG Y Y Y Y Y (by omega) Y ?_ | refine Aa 2 sbT hG Y Y Y Y Y (by omega) Y ?_ | refine Ab 3 sbT hG Y Y Y Y Y (by omega) Y ?_ | refine Aa 3 sbT hG Y Y Y Y Y (by omega) Y ?_))) | refine so2 ?_ | refine sp Y Y Y Y Y Y (by apply hf <;> exact sd) ?_) | (show AW _ _ _ _ _ _; first | (show AW _ _ (.region _ _ _) _ _ _; refine sc0 ?_; intro O1) | (refine sc1 ?_; try intro Q1)) | (show (_ → _) ∧ _; refine ⟨fun h => ?_, fun h => ?_⟩) | fail)
      try dsimp (config := { zetaDelta := true }) only [A7, Am, jumpA]
      exact Az (Ae rfl Ag) (.refl _) (.refl _) (.int e) rfl ⟨rfl, rfl⟩
  · rw [List.drop_eq_nil_of_le (by omega)] at e
    repeat' (first | (show AL _ _ _ _ _ _ _ _; first | (refine Ac Y ?_; (first | (show AOp _ _ ⟨_, .indexAddr _ _ _, _, _, _, _⟩ _ _ _; refine Ak (sz := 4) hG Y Y Y Y Y Y Y (by omega) ?_) | (show AOp _ _ ⟨_, .load _ _, _, _, _, _⟩ _ _ _; first | refine Ab 0 sbT hG Y Y Y Y Y (by omega) Y ?_ | refine Aa 0 sbT hG Y Y Y Y Y (by omega) Y ?_ | refine Ab 1 sbT hG Y Y Y Y Y (by omega) Y ?_ | refine Aa 1 sbT hG Y Y Y Y Y (by omega) Y ?_ | refine Ab 2 sbT hG Y Y Y Y Y (by omega) Y ?_ | refine Aa 2 sbT hG Y Y Y Y Y (by omega) Y ?_ | refine Ab 3 sbT hG Y Y Y Y Y (by omega) Y ?_ | refine Aa 3 sbT hG Y Y Y Y Y (by omega) Y ?_))) | refine so2 ?_) | (show AW _ _ _ _ _ _; first | (show AW _ _ (.region _ _ _) _ _ _; refine sc0 ?_; intro O1) | (refine sc1 ?_; try intro Q1)) | (show (_ → _) ∧ _; refine ⟨fun h => ?_, fun h => ?_⟩) | fail)
    exact Az (Ae rfl Ag) (.refl _) (.refl _) (.int e) rfl ⟨rfl, rfl⟩
end Go.Proofs.Ythfgocinlbogeaa
set_option maxHeartbeats 4000000
namespace Go.Proofs.Ythfgocinlbogeaa
open Go.Ts
set_option linter.unusedSimpArgs false
set_option linter.unusedVariables false
set_option linter.unnecessarySimpa false
attribute [local irreducible] Go.Ts.AW Go.Ts.AOps Go.Ts.AL Go.Ts.AOp Go.Ts.ACalls Go.Ts.DL Go.Ts.DQ0 Go.Ts.EL
def slT : List SB → Nat → T
  | [], _ => .nilsl
  | s :: l, i => .aref 4 i 0 (s :: l).length none
def rowOf : List SB → Nat → List (Nat × Ob)
  | [], _ => []
  | s :: l, i => [(i, .cells (flat ((s :: l).map sbT)))]
def arL (v : UInt8) (l : List SB) (at' : List (Nat × Int)) (p i m : Nat) : List (Nat × Ob) := (p, .cells [bT v, slT l i, .map (some m)]) :: (m, .map (at'.map kvT)) :: rowOf l i
theorem arena_New (v : UInt8) : OnL Try.prog 31 [bT v] [] (fun u L => ∃ p m, u = .ptr p 0 ∧ L = arL v [] [] p 0 m) := by
  intro off
  refine Af (N := 7) (rs := [.tmp 2]) hG Try.func31 rfl rfl rfl rfl rfl ?_
  repeat' (first | (show AL _ _ _ _ _ _ _ _; first | refine so0 ?_ | (refine sb ?_; intro i)) | (show AW _ _ _ _ _ _; first | (show AW _ _ (.region _ _ _) _ _ _; refine sc0 ?_; intro O1) | (refine sc0 ?_; try intro Q1)) | (show (_ → _) ∧ _; refine ⟨fun h => ?_, fun h => ?_⟩) | fail)
  refine Ac rfl ?_
  refine aop_makeMap hG rfl rfl (fun m hm => ?_)
  repeat' (first | (show AL _ _ _ _ _ _ _ _; first | refine so0 ?_ | (refine sb ?_; intro i)) | (show AW _ _ _ _ _ _; first | (show AW _ _ (.region _ _ _) _ _ _; refine sc0 ?_; intro O1) | (refine sc0 ?_; try intro Q1)) | (show (_ → _) ∧ _; refine ⟨fun h => ?_, fun h => ?_⟩) | fail)
  exact Az (Ae rfl Ag) (.refl _) (.refl _) (.refl _) rfl ⟨i, m, rfl, rfl⟩
def fidx (l : List SB) : Nat := if freeI l 0 < 0 then l.length else (freeI l 0).toNat
def flS (l : List SB) : List SB := if freeI l 0 < 0 then l ++ [default] else l
theorem arena_free (v : UInt8) (l : List SB) (at' : List (Nat × Int)) (hl : l.length ≤ 1000000) (p i m : Nat) : OnL Try.prog 62 [.ptr p 0] (arL v l at' p i m) (fun u L => ∃ i', u = .int .i64 (fidx l : Int) ∧ L = arL v (flS l) at' p i' m) := by
  intro off
  cases l with
  | nil =>
    have h0 := arena_index0
    refine Af (N := 27) (rs := [.tmp 2]) hG Try.func62 rfl rfl rfl rfl rfl ?_
    repeat' (first | (show AL _ _ _ _ _ _ _ _; (fail_if_success show AL _ _ _ _ _ (⟨_, .call ⟨.builtin .append, _, _⟩, _, _, _, _⟩ :: _) _ _); first | refine so2 ?_ | refine sp Y Y Y Y Y Y (by apply h0 <;> exact sd) ?_ | (refine sa ?_; intro k)) | (show AW _ _ _ _ _ _; first | (show AW _ _ (.region _ _ _) _ _ _; refine sc0 ?_; intro O1) | (refine sc1 ?_; try intro Q1)) | (show (_ → _) ∧ _; refine ⟨fun h => ?_, fun h => ?_⟩) | fail)
    refine Ac rfl (aop_app0L (objs := fun _ => none) (ys := [sbT default]) hG rfl rfl rfl rfl rfl ⟨_, rfl⟩ rfl rfl (fun i o h => by cases h) rfl rfl (by simp) (by simp) rfl (fun i' hi' => ?_))
    repeat' (first | (show AL _ _ _ _ _ _ _ _; first | refine so2 ?_ | (refine sa ?_; intro k)) | (show AW _ _ _ _ _ _; first | (show AW _ _ (.region _ _ _) _ _ _; refine sc0 ?_; intro O1) | (refine sc1 ?_; try intro Q1)) | (show (_ → _) ∧ _; refine ⟨fun h => ?_, fun h => ?_⟩) | fail)
    exact Az (Ae rfl Ag) (.refl _) (List.perm_append_comm (l₁ := [(i', _)]) (l₂ := [(p, _), (m, _)])) (.refl _) rfl ⟨i', rfl, rfl⟩
  | cons s l =>
    refine Af (N := 27) (rs := [.tmp 2]) hG Try.func62 rfl rfl rfl rfl rfl ?_
    have h1 := arena_index (l := s :: l) (by omega) i (s :: l).length none rfl
    repeat' (first | (show AL _ _ _ _ _ _ _ _; first | refine so2 ?_ | (refine sa ?_; intro k)) | (show AW _ _ _ _ _ _; first | (show AW _ _ (.region _ _ _) _ _ _; refine sc0 ?_; intro O1) | (refine sc1 ?_; try intro Q1)) | (show (_ → _) ∧ _; refine ⟨fun h => ?_, fun h => ?_⟩) | fail)
    refine Ac rfl (r_onL rfl rfl rfl rfl (Lf := [(p, .cells [bT v, .aref 4 i 0 (s :: l).length none, .map (some m)]), (m, .map (at'.map kvT))]) (List.perm_append_comm (l₁ := [(p, _), (m, _)]) (l₂ := [(i, _)])) h1 ?_)
    rintro u L' ⟨rfl, rfl⟩
    by_cases hfr : freeI (s :: l) 0 < 0
    · repeat' (first | (show AL _ _ _ _ _ _ _ _; (fail_if_success show AL _ _ _ _ _ (⟨_, .call ⟨.builtin .append, _, _⟩, _, _, _, _⟩ :: _) _ _); first | refine so2 ?_ | (refine sa ?_; intro k)) | (show AW _ _ _ _ _ _; first | (show AW _ _ (.region _ _ _) _ _ _; refine sc0 ?_; intro O1) | (refine sc1 ?_; try intro Q1)) | (show (_ → _) ∧ _; refine ⟨fun h => ?_, fun h => ?_⟩) | fail)
      refine Ac rfl (aop_appL (n := 0) (objs := fun _ => none) (ys := [sbT default]) hG rfl rfl rfl rfl rfl ⟨_, rfl⟩ rfl rfl ?_ rfl (fun i o h => by cases h) rfl rfl ?_ ?_ rfl (fun i' hi' => ?_))
      · rw [flat_length (enc_sized sbT _), List.length_map]; simp
      · intro q hq
        rw [flat_cons, flat_nil, List.append_nil] at hq
        exact Enc.scal (f := sbT) default q hq
      · simp only [List.length_cons, List.length_nil] at *; omega
      repeat' (first | (show AL _ _ _ _ _ _ _ _; first | refine so2 ?_ | (refine sa ?_; intro k)) | (show AW _ _ _ _ _ _; first | (show AW _ _ (.region _ _ _) _ _ _; refine sc0 ?_; intro O1) | (refine sc1 ?_; try intro Q1)) | (show (_ → _) ∧ _; refine ⟨fun h => ?_, fun h => ?_⟩) | fail)
      have e1 : fidx (s :: l) = (s :: l).length := by unfold fidx; rw [if_pos hfr]
      have e2 : flS (s :: l) = s :: (l ++ [default]) := by unfold flS; rw [if_pos hfr]; rfl
      rw [e1, e2]
      refine Az (Ae rfl Ag) (.refl _) (List.perm_append_comm (l₁ := [(i', _)]) (l₂ := [(p, _), (m, _)])) (.refl _) rfl ⟨i', rfl, ?_⟩
      have e3 : (flat ((s :: l).map sbT)).drop 0 ++ flat [sbT default] = flat ((s :: (l ++ [default])).map sbT) := by
        rw [List.drop_zero, ← flat_append, ← List.cons_append, List.map_append]; rfl
      show _ = (p, Ob.cells [bT v, .aref 4 i' 0 (s :: (l ++ [default])).length none, .map (some m)]) :: (m, _) :: [(i', Ob.cells (flat ((s :: (l ++ [default])).map sbT)))]
      rw [← e3]
      simp only [List.length_cons, List.length_append, List.length_nil]; rfl
    · repeat' (first | (show AL _ _ _ _ _ _ _ _; first | refine so2 ?_ | (refine sa ?_; intro k)) | (show AW _ _ _ _ _ _; first | (show AW _ _ (.region _ _ _) _ _ _; refine sc0 ?_; intro O1) | (refine sc1 ?_; try intro Q1)) | (show (_ → _) ∧ _; refine ⟨fun h => ?_, fun h => ?_⟩) | fail)
      have e1 : ((fidx (s :: l) : Nat) : Int) = freeI (s :: l) 0 := by unfold fidx; rw [if_neg hfr]; omega
      have e2 : flS (s :: l) = s :: l := by unfold flS; rw [if_neg hfr]
      rw [e1, e2]
      exact Az (Ae rfl Ag) (.refl _) (List.perm_append_comm (l₁ := [(i, _)]) (l₂ := [(p, _), (m, _)])) (.refl _) rfl ⟨i, rfl, rfl⟩
end Go.Proofs.Ythfgocinlbogeaa
