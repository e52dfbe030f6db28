/- Part of the proof of the law Object1Kinds: the texts P10. No conditions. -/
import Derived.Test.YtemgmkoggnjgjaaObject1KindsF
set_option linter.unusedSimpArgs false
set_option linter.unusedVariables false
namespace Go.Proofs.Ytemgmkoggnjgjaa
open Go.Ts Go.Sets
set_option linter.unusedSimpArgs false
set_option linter.unusedVariables false
attribute [local irreducible] Go.Ts.AW Go.Ts.AOps Go.Ts.AL Go.Ts.AOp Go.Ts.ACalls Go.Ts.DL Go.Ts.DQ Go.Ts.EL
theorem half_of {n : Int} (h : 0 ≤ n ∧ n < 65536) : T.int .u16 n = hT (UInt16.ofNat n.toNat) := by
  unfold hT; congr 1; simp; omega
theorem lab_nil (o : OB) (h1 : o.df = 2) (h2 : o.ps = []) : labB1 o = true := by
  unfold labB1; rw [h1, h2]; simp [mayLab, noStar]
theorem name65 : nameB 65 = true := by simp [nameB, nums]
set_option maxHeartbeats 4000000 in
theorem object1Kinds_pure {a q u : Int} {d l : List UInt8} {c : UInt16} (ha : 0 ≤ a ∧ a < 256) (hq : 0 ≤ q ∧ q < 256) (hu : 0 ≤ u ∧ u < 256) (hd : d.length ≤ Cf) (hl : l.length ≤ Cf) :
    Ts.Pure Try.prog 6 [.int .u8 a, .int .u8 q, .int .u8 u, sT d, hT c, sT l] (.bool true) := by
  unfold Cf at hd hl
  intro off
  by_cases hd64 : 64 < d.length
  · refine By (N := 206) (rs := [.tmp 12]) hG Try.func6 rfl rfl rfl rfl rfl ?_
    repeat' (first
    | ((first | (show AL _ _ _ _ _ _ _ _; refine Ae Y ?_) | (show DL _ _ _ _ _ _ _; refine' Bp Y Y (fun K kk => ?_) ?_; try (show Go.Ts.T; rotate_left))); (first
      | (show AOp _ _ ⟨_, .move _, _, _, _, _⟩ _ _ _; refine Am hG Y Y ?_)
      | (show AOp _ _ ⟨_, .assign _, _, _, _, _⟩ _ _ _; refine A9 hG Y Y ?_)
      | (show AOp _ _ ⟨_, .call ⟨.builtin .len, _, _⟩, _, _, _, _⟩ _ _ _; first | refine A7 hG Y Y Y Y ?_ | refine Be hG Y Y Y Y Y ?_)
      | (show AOp _ _ ⟨_, .binOp .add _ _ _ _, _, _, _, _⟩ _ _ _; first | refine Ao hG Y Y Y Y Y (by omega) ?_)
      | (show AOp _ _ ⟨_, .binOp .rem _ _ _ _, _, _, _, _⟩ _ _ _; first | refine r_rem hG Y Y Y Y (by omega) ?_ | refine r_trem hG Y Y Y Y (by omega) ?_)
      | (show AOp _ _ ⟨_, .binOp _ _ _ _ _, _, _, _, _⟩ _ _ _; first | refine As hG Y Y Y Y Y (by omega) ?_ | refine Ar hG Y Y Y Y Y (by omega) ?_ | refine r_strT hG Y Y Y Y (by first | rfl | assumption) ?_ | refine r_strnF hG Y Y Y Y (by first | rfl | assumption) ?_ | refine r_strF hG Y Y Y Y (by assumption) ?_ | refine r_strnT hG Y Y Y Y (by assumption) ?_ | ((fail_if_success have := kk); refine Au hG Y Y Y Y Y (fun h => ?_) (fun h => ?_)) | ((fail_if_success have := kk); first | refine r_str hG Y Y Y Y (fun h => ?_) (fun h => ?_) | refine r_strn hG Y Y Y Y (fun h => ?_) (fun h => ?_)))
      | (show AOp _ _ ⟨_, .load _ _, _, _, _, _⟩ _ _ _; first | refine Bj hG Y Y Y ?_ | refine Az 0 hG Y Y Y Y ?_ | refine Az 1 hG Y Y Y Y ?_ | refine Az 2 hG Y Y Y Y ?_)
      | (show AOp _ _ ⟨_, .indexAddr _ _ _, _, _, _, _⟩ _ _ _; first | refine Ca hG Y Y Y Y Y Y Y ?_ | refine Bi hG Y Y Y Y Y Y Y (by omega) ?_ | refine Bk hG Y Y Y Y Y Y Y (by omega) ?_ | refine Bs hG Y Y ?_)
      | (show AOp _ _ ⟨_, .convert _ _ _, _, _, _, _⟩ _ _ _; first | refine r_tostr hG Y Y Y Y Y Y Y Y (by first | exact Ac _ _ | exact Af _ | rfl) ?_ | refine r_cv8 hG Y Y Y Y Y Y ?_ | refine Bd hG Y Y Y Y Y (by omega) ?_ | refine Br hG Y Y Y Y Y ?_)
      | (show AOp _ _ ⟨_, .pick _ _ _, _, _, _, _⟩ _ _ _; refine Bz hG Y Y Y ?_)
      | (show AOp _ _ ⟨_, .unOp _ _ _, _, _, _, _⟩ _ _ _; refine B5 hG Y Y Y ?_)
      | (show AOp _ _ ⟨_, .buildSlice _ _ _, _, _, _, _⟩ _ _ _; first | refine r_mk (sz := 1) hG Y Y Y Y Y Y Y ?_)
      | (show AOp _ _ ⟨_, .build _ _, _, _, _, _⟩ _ _ _; refine Cd hG Y Y Y Y Y ?_)
      | (show AOp _ _ ⟨_, .alloc _, _, _, _, _⟩ _ _ _; refine Bt hG Y Y (fun i => ?_))
      | (show AOp _ _ ⟨_, .store _ _ _, _, _, _, _⟩ _ _ _; first | refine Bb 0 hG Y Y Y Y Y Y Y ?_ | refine Bb 1 hG Y Y Y Y Y Y Y ?_ | refine Bb 2 hG Y Y Y Y Y Y Y ?_)
      | (show AOp _ _ ⟨_, .call ⟨.builtin .min, _, _⟩, _, _, _, _⟩ _ _ _; first | refine op_minl Y Y Y (by omega) Y Y ?_ | refine op_minr Y Y Y (by omega) Y Y ?_ | refine op_min Y Y Y Y Y ?_)
      | (show AOp _ _ ⟨_, .call ⟨.value _, _, _⟩, _, _, _, _⟩ _ _ _; first | refine Bh Y Y Y Y Y (by apply o1_begun <;> (first | assumption | omega | exact Ac _ _ | exact Af _ | exact Ah _ _ | exact Ax _ | rfl | (simp; omega))) ?_ | fail)
      | refine r_q hG Y Y Y ?_); try exact kk)
    | (show AL _ _ _ _ _ _ _ _; first | refine Bo Y Y Y ?_ | (refine Aw ?_; first | show AW _ _ _ _ _ _ | show ∃ x', _ < _ ∧ _)) | (show AW _ _ (.seq _ _) _ _ _; refine Ag ?_; intro Q1) | (show AW _ _ (.region _ _ false) _ _ _; refine Ad ?_; intro O1) | (show AW _ _ (.cond _ _ _) _ _ _; first | refine Aj Y ?_ | refine Ai Y ?_) | (show AW _ _ (.skip) _ _ _; refine Al ?_; first | show AW _ _ _ _ _ _ | show ∃ x', _ < _ ∧ _) | (show AW _ _ (.block _ _) _ _ _; refine A8 ?_; intro Q1) | (show AW _ _ (.ret) _ _ _; refine Av ?_; try dsimp only [Aq, Aa, Ap, Ab])
    | (show DL _ _ _ _ _ _ _; refine dl_d Y Y (fun K kt kf => Au hG Y Y Y Y Y kt kf) (fun h => ?_) (fun h => ?_)) | (show DL _ _ _ _ _ _ _; refine dl_d Y Y (fun K kt kf => r_str hG Y Y Y Y kt kf) (fun h => ?_) (fun h => ?_)) | (show DL _ _ _ _ _ _ _; refine dl_ne Y Y (fun K kt kf => r_strn hG Y Y Y Y kt kf) (fun h => ?_) (fun h => ?_))
    | (show DL _ _ _ _ _ _ _; refine dl_s Y Y Y ?_) | (show DL _ _ _ _ _ _ _; refine B1 ?_; first | show AW _ _ _ _ _ _ | show ∃ x', _ < _ ∧ _) | (show AW _ _ (.region _ _ true) _ _ _; refine Bm mix (by kernel_rfl) ?_; intro O1) | fail)
    exact Bc (Ak rfl Ba) (.refl _) rfl
  by_cases hl16 : 16 < l.length
  · refine By (N := 206) (rs := [.tmp 12]) hG Try.func6 rfl rfl rfl rfl rfl ?_
    repeat' (first
    | ((first | (show AL _ _ _ _ _ _ _ _; refine Ae Y ?_) | (show DL _ _ _ _ _ _ _; refine' Bp Y Y (fun K kk => ?_) ?_; try (show Go.Ts.T; rotate_left))); (first
      | (show AOp _ _ ⟨_, .move _, _, _, _, _⟩ _ _ _; refine Am hG Y Y ?_)
      | (show AOp _ _ ⟨_, .assign _, _, _, _, _⟩ _ _ _; refine A9 hG Y Y ?_)
      | (show AOp _ _ ⟨_, .call ⟨.builtin .len, _, _⟩, _, _, _, _⟩ _ _ _; first | refine A7 hG Y Y Y Y ?_ | refine Be hG Y Y Y Y Y ?_)
      | (show AOp _ _ ⟨_, .binOp .add _ _ _ _, _, _, _, _⟩ _ _ _; first | refine Ao hG Y Y Y Y Y (by omega) ?_)
      | (show AOp _ _ ⟨_, .binOp .rem _ _ _ _, _, _, _, _⟩ _ _ _; first | refine r_rem hG Y Y Y Y (by omega) ?_ | refine r_trem hG Y Y Y Y (by omega) ?_)
      | (show AOp _ _ ⟨_, .binOp _ _ _ _ _, _, _, _, _⟩ _ _ _; first | refine As hG Y Y Y Y Y (by omega) ?_ | refine Ar hG Y Y Y Y Y (by omega) ?_ | refine r_strT hG Y Y Y Y (by first | rfl | assumption) ?_ | refine r_strnF hG Y Y Y Y (by first | rfl | assumption) ?_ | refine r_strF hG Y Y Y Y (by assumption) ?_ | refine r_strnT hG Y Y Y Y (by assumption) ?_ | ((fail_if_success have := kk); refine Au hG Y Y Y Y Y (fun h => ?_) (fun h => ?_)) | ((fail_if_success have := kk); first | refine r_str hG Y Y Y Y (fun h => ?_) (fun h => ?_) | refine r_strn hG Y Y Y Y (fun h => ?_) (fun h => ?_)))
      | (show AOp _ _ ⟨_, .load _ _, _, _, _, _⟩ _ _ _; first | refine Bj hG Y Y Y ?_ | refine Az 0 hG Y Y Y Y ?_ | refine Az 1 hG Y Y Y Y ?_ | refine Az 2 hG Y Y Y Y ?_)
      | (show AOp _ _ ⟨_, .indexAddr _ _ _, _, _, _, _⟩ _ _ _; first | refine Ca hG Y Y Y Y Y Y Y ?_ | refine Bi hG Y Y Y Y Y Y Y (by omega) ?_ | refine Bk hG Y Y Y Y Y Y Y (by omega) ?_ | refine Bs hG Y Y ?_)
      | (show AOp _ _ ⟨_, .convert _ _ _, _, _, _, _⟩ _ _ _; first | refine r_tostr hG Y Y Y Y Y Y Y Y (by first | exact Ac _ _ | exact Af _ | rfl) ?_ | refine r_cv8 hG Y Y Y Y Y Y ?_ | refine Bd hG Y Y Y Y Y (by omega) ?_ | refine Br hG Y Y Y Y Y ?_)
      | (show AOp _ _ ⟨_, .pick _ _ _, _, _, _, _⟩ _ _ _; refine Bz hG Y Y Y ?_)
      | (show AOp _ _ ⟨_, .unOp _ _ _, _, _, _, _⟩ _ _ _; refine B5 hG Y Y Y ?_)
      | (show AOp _ _ ⟨_, .buildSlice _ _ _, _, _, _, _⟩ _ _ _; first | refine r_mk (sz := 1) hG Y Y Y Y Y Y Y ?_)
      | (show AOp _ _ ⟨_, .build _ _, _, _, _, _⟩ _ _ _; refine Cd hG Y Y Y Y Y ?_)
      | (show AOp _ _ ⟨_, .alloc _, _, _, _, _⟩ _ _ _; refine Bt hG Y Y (fun i => ?_))
      | (show AOp _ _ ⟨_, .store _ _ _, _, _, _, _⟩ _ _ _; first | refine Bb 0 hG Y Y Y Y Y Y Y ?_ | refine Bb 1 hG Y Y Y Y Y Y Y ?_ | refine Bb 2 hG Y Y Y Y Y Y Y ?_)
      | (show AOp _ _ ⟨_, .call ⟨.builtin .min, _, _⟩, _, _, _, _⟩ _ _ _; first | refine op_minl Y Y Y (by omega) Y Y ?_ | refine op_minr Y Y Y (by omega) Y Y ?_ | refine op_min Y Y Y Y Y ?_)
      | (show AOp _ _ ⟨_, .call ⟨.value _, _, _⟩, _, _, _, _⟩ _ _ _; first | refine Bh Y Y Y Y Y (by apply o1_begun <;> (first | assumption | omega | exact Ac _ _ | exact Af _ | exact Ah _ _ | exact Ax _ | rfl | (simp; omega))) ?_ | fail)
      | refine r_q hG Y Y Y ?_); try exact kk)
    | (show AL _ _ _ _ _ _ _ _; first | refine Bo Y Y Y ?_ | (refine Aw ?_; first | show AW _ _ _ _ _ _ | show ∃ x', _ < _ ∧ _)) | (show AW _ _ (.seq _ _) _ _ _; refine Ag ?_; intro Q1) | (show AW _ _ (.region _ _ false) _ _ _; refine Ad ?_; intro O1) | (show AW _ _ (.cond _ _ _) _ _ _; first | refine Aj Y ?_ | refine Ai Y ?_) | (show AW _ _ (.skip) _ _ _; refine Al ?_; first | show AW _ _ _ _ _ _ | show ∃ x', _ < _ ∧ _) | (show AW _ _ (.block _ _) _ _ _; refine A8 ?_; intro Q1) | (show AW _ _ (.ret) _ _ _; refine Av ?_; try dsimp only [Aq, Aa, Ap, Ab])
    | (show DL _ _ _ _ _ _ _; refine dl_d Y Y (fun K kt kf => Au hG Y Y Y Y Y kt kf) (fun h => ?_) (fun h => ?_)) | (show DL _ _ _ _ _ _ _; refine dl_d Y Y (fun K kt kf => r_str hG Y Y Y Y kt kf) (fun h => ?_) (fun h => ?_)) | (show DL _ _ _ _ _ _ _; refine dl_ne Y Y (fun K kt kf => r_strn hG Y Y Y Y kt kf) (fun h => ?_) (fun h => ?_))
    | (show DL _ _ _ _ _ _ _; refine dl_s Y Y Y ?_) | (show DL _ _ _ _ _ _ _; refine B1 ?_; first | show AW _ _ _ _ _ _ | show ∃ x', _ < _ ∧ _) | (show AW _ _ (.region _ _ true) _ _ _; refine Bm mix (by kernel_rfl) ?_; intro O1) | fail)
    exact Bc (Ak rfl Ba) (.refl _) rfl
  have h1 : 0 ≤ min u q := by omega
  have h2 : min u q ≤ q := by omega
  have key : ∀ o : OB, o = ⟨65, 1 + a % 4, 2, [], [], [], [], q, min u q, 1 + u % 60, d, [c], [l]⟩ → o.Fits ∧ mayO1 o = true := by
    rintro o rfl
    have z : ∀ (α : Type), ([] : List α).length ≤ Cf := fun _ => Nat.zero_le _
    refine ⟨⟨by show (65 : Nat) < _; decide, z _, z _, z _, by unfold Cf; exact hd, by unfold Cf; simp, by unfold Cf; simp, fun b hb => ?_, z _⟩, ?_⟩
    · rw [List.mem_singleton.1 hb]; unfold Cf; exact hl
    · unfold mayO1
      rw [lab_nil _ rfl rfl, name65]
      unfold kindOK
      dsimp only
      rcases (by omega : 1 + a % 4 = 1 ∨ 1 + a % 4 = 2 ∨ 1 + a % 4 = 3 ∨ 1 + a % 4 = 4) with k | k | k | k <;> rw [k] <;> simp
      · omega
      · omega
      · simp [mayC, risesB]
      · simp [mayL]; omega
  obtain ⟨o, ho⟩ : ∃ o : OB, o = ⟨65, 1 + a % 4, 2, [], [], [], [], q, min u q, 1 + u % 60, d, [c], [l]⟩ := ⟨_, rfl⟩
  obtain ⟨hf, hm⟩ := key o ho
  obtain ⟨w1, w2⟩ := bytes1_len hm
  have hP0 := obj1_Put_is (o := o) (r := .tup [sT (bytes1 o), .int .i64 0]) hf (by rw [putO1T, hm, if_pos rfl])
  have hK := obj1_Take_is (x := sT (bytes1 o)) (b := bytes1 o) (r := (norm o, 0)) (Af _) (by omega) (by have := take1_put hm hf.hid []; rw [List.append_nil] at this; exact this)
  have hwk : Wk (.agg [.int .u64 65, .int .i64 (1 + a % 4), .int .u8 2, .nilsl, .nilsl, .nilsl, .nilsl, .int .i64 q, .int .i64 (min u q), .int .i64 (1 + u % 60), sT d, .sl 1 .full [hT c], .sl 1 .full [sT l]]) o.t := by
    rw [ho]
    exact Wk.aggL (wkc (.refl _) (wkc (.refl _) (wkc (.refl _) (wkc (.nil 2) (wkc (.nil 1) (wkc (.nil 1) (wkc (.nil 1) (wkc (.refl _) (wkc (.refl _) (wkc (.refl _) (wkc (.refl _) (wkc (Wk.own _ _ _) (wkc (Wk.own _ _ _) trivial)))))))))))))
  have hP := Pure.weak hP0 (wk1 hwk)
  clear hP0 hwk key
  generalize hbb : bytes1 o = bb at *
  have n8 : ([] : List UInt8).length = 0 := rfl
  have n16 : ([] : List UInt16).length = 0 := rfl
  have nl : ([] : List (List UInt8)).length = 0 := rfl
  have m16 : [c].length = 1 := rfl
  have ml : [l].length = 1 := rfl
  refine By (N := 206) (rs := [.tmp 12]) hG Try.func6 rfl rfl rfl rfl rfl ?_
  repeat' (first
    | ((first | (show AL _ _ _ _ _ _ _ _; refine Ae Y ?_) | (show DL _ _ _ _ _ _ _; refine' Bp Y Y (fun K kk => ?_) ?_; try (show Go.Ts.T; rotate_left))); (first
      | (show AOp _ _ ⟨_, .move _, _, _, _, _⟩ _ _ _; refine Am hG Y Y ?_)
      | (show AOp _ _ ⟨_, .assign _, _, _, _, _⟩ _ _ _; refine A9 hG Y Y ?_)
      | (show AOp _ _ ⟨_, .call ⟨.builtin .len, _, _⟩, _, _, _, _⟩ _ _ _; first | refine A7 hG Y Y Y Y ?_ | refine Be hG Y Y Y Y Y ?_)
      | (show AOp _ _ ⟨_, .binOp .add _ _ _ _, _, _, _, _⟩ _ _ _; first | refine Ao hG Y Y Y Y Y (by omega) ?_)
      | (show AOp _ _ ⟨_, .binOp .rem _ _ _ _, _, _, _, _⟩ _ _ _; first | refine r_rem hG Y Y Y Y (by omega) ?_ | refine r_trem hG Y Y Y Y (by omega) ?_)
      | (show AOp _ _ ⟨_, .binOp _ _ _ _ _, _, _, _, _⟩ _ _ _; first | refine As hG Y Y Y Y Y (by omega) ?_ | refine Ar hG Y Y Y Y Y (by omega) ?_ | refine r_strT hG Y Y Y Y (by first | rfl | assumption) ?_ | refine r_strnF hG Y Y Y Y (by first | rfl | assumption) ?_ | refine r_strF hG Y Y Y Y (by assumption) ?_ | refine r_strnT hG Y Y Y Y (by assumption) ?_ | ((fail_if_success have := kk); refine Au hG Y Y Y Y Y (fun h => ?_) (fun h => ?_)) | ((fail_if_success have := kk); first | refine r_str hG Y Y Y Y (fun h => ?_) (fun h => ?_) | refine r_strn hG Y Y Y Y (fun h => ?_) (fun h => ?_)))
      | (show AOp _ _ ⟨_, .load _ _, _, _, _, _⟩ _ _ _; first | refine Bj hG Y Y Y ?_ | refine Az 0 hG Y Y Y Y ?_ | refine Az 1 hG Y Y Y Y ?_ | refine Az 2 hG Y Y Y Y ?_)
      | (show AOp _ _ ⟨_, .indexAddr _ _ _, _, _, _, _⟩ _ _ _; first | refine Ca hG Y Y Y Y Y Y Y ?_ | refine Bi hG Y Y Y Y Y Y Y (by omega) ?_ | refine Bk hG Y Y Y Y Y Y Y (by omega) ?_ | refine Bs hG Y Y ?_)
      | (show AOp _ _ ⟨_, .convert _ _ _, _, _, _, _⟩ _ _ _; first | refine r_tostr hG Y Y Y Y Y Y Y Y (by first | exact Ac _ _ | exact Af _ | rfl) ?_ | refine r_cv8 hG Y Y Y Y Y Y ?_ | refine Bd hG Y Y Y Y Y (by omega) ?_ | refine Br hG Y Y Y Y Y ?_)
      | (show AOp _ _ ⟨_, .pick _ _ _, _, _, _, _⟩ _ _ _; refine Bz hG Y Y Y ?_)
      | (show AOp _ _ ⟨_, .unOp _ _ _, _, _, _, _⟩ _ _ _; refine B5 hG Y Y Y ?_)
      | (show AOp _ _ ⟨_, .buildSlice _ _ _, _, _, _, _⟩ _ _ _; first | refine r_mk (sz := 1) hG Y Y Y Y Y Y Y ?_)
      | (show AOp _ _ ⟨_, .build _ _, _, _, _, _⟩ _ _ _; refine Cd hG Y Y Y Y Y ?_)
      | (show AOp _ _ ⟨_, .alloc _, _, _, _, _⟩ _ _ _; fail)
      | (show AOp _ _ ⟨_, .store _ _ _, _, _, _, _⟩ _ _ _; first | refine Bb 0 hG Y Y Y Y Y Y Y ?_ | refine Bb 1 hG Y Y Y Y Y Y Y ?_ | refine Bb 2 hG Y Y Y Y Y Y Y ?_)
      | (show AOp _ _ ⟨_, .call ⟨.builtin .min, _, _⟩, _, _, _, _⟩ _ _ _; first | refine op_minl Y Y Y (by omega) Y Y ?_ | refine op_minr Y Y Y (by omega) Y Y ?_ | refine op_min Y Y Y Y Y ?_)
      | (show AOp _ _ ⟨_, .call ⟨.value _, _, _⟩, _, _, _, _⟩ _ _ _; first | refine Bh Y Y Y Y Y (by apply o1_begun <;> (first | assumption | omega | exact Ac _ _ | exact Af _ | exact Ah _ _ | exact Ax _ | rfl | (simp; omega))) ?_ | fail)
      | refine r_q hG Y Y Y ?_); try exact kk)
    | (show AL _ _ _ _ _ _ _ _; first | refine Bo Y Y Y ?_ | (refine Aw ?_; first | show AW _ _ _ _ _ _ | show ∃ x', _ < _ ∧ _)) | (show AW _ _ (.seq _ _) _ _ _; refine Ag ?_; intro Q1) | (show AW _ _ (.region _ _ false) _ _ _; refine Ad ?_; intro O1) | (show AW _ _ (.cond _ _ _) _ _ _; first | refine Aj Y ?_ | refine Ai Y ?_) | (show AW _ _ (.skip) _ _ _; refine Al ?_; first | show AW _ _ _ _ _ _ | show ∃ x', _ < _ ∧ _) | (show AW _ _ (.block _ _) _ _ _; refine A8 ?_; intro Q1) | (show AW _ _ (.ret) _ _ _; refine Av ?_; try dsimp only [Aq, Aa, Ap, Ab])
    | (show DL _ _ _ _ _ _ _; refine dl_d Y Y (fun K kt kf => Au hG Y Y Y Y Y kt kf) (fun h => ?_) (fun h => ?_)) | (show DL _ _ _ _ _ _ _; refine dl_d Y Y (fun K kt kf => r_str hG Y Y Y Y kt kf) (fun h => ?_) (fun h => ?_)) | (show DL _ _ _ _ _ _ _; refine dl_ne Y Y (fun K kt kf => r_strn hG Y Y Y Y kt kf) (fun h => ?_) (fun h => ?_))
    | (show DL _ _ _ _ _ _ _; refine dl_s Y Y Y ?_) | (show DL _ _ _ _ _ _ _; refine B1 ?_; first | show AW _ _ _ _ _ _ | show ∃ x', _ < _ ∧ _) | (show AW _ _ (.region _ _ true) _ _ _; refine Bm mix (by kernel_rfl) ?_; intro O1) | fail)
  refine al_slot 51 rfl (u := (.agg [.int .u64 65, .int .i64 (1 + a % 4), .int .u8 2, .nilsl, .nilsl, .nilsl, .nilsl, .int .i64 q, .int .i64 (min u q), .int .i64 (1 + u % 60), sT d, .sl 1 .full [hT c], .sl 1 .full [sT l]])) (.eq rfl) ?_
  repeat' (first
    | ((first | (show AL _ _ _ _ _ _ _ _; refine Ae Y ?_) | (show DL _ _ _ _ _ _ _; refine' Bp Y Y (fun K kk => ?_) ?_; try (show Go.Ts.T; rotate_left))); (first
      | (show AOp _ _ ⟨_, .move _, _, _, _, _⟩ _ _ _; refine Am hG Y Y ?_)
      | (show AOp _ _ ⟨_, .assign _, _, _, _, _⟩ _ _ _; refine A9 hG Y Y ?_)
      | (show AOp _ _ ⟨_, .call ⟨.builtin .len, _, _⟩, _, _, _, _⟩ _ _ _; first | refine A7 hG Y Y Y Y ?_ | refine Be hG Y Y Y Y Y ?_)
      | (show AOp _ _ ⟨_, .binOp .add _ _ _ _, _, _, _, _⟩ _ _ _; first | refine Ao hG Y Y Y Y Y (by omega) ?_)
      | (show AOp _ _ ⟨_, .binOp .rem _ _ _ _, _, _, _, _⟩ _ _ _; first | refine r_rem hG Y Y Y Y (by omega) ?_ | refine r_trem hG Y Y Y Y (by omega) ?_)
      | (show AOp _ _ ⟨_, .binOp _ _ _ _ _, _, _, _, _⟩ _ _ _; first | refine As hG Y Y Y Y Y (by omega) ?_ | refine Ar hG Y Y Y Y Y (by omega) ?_ | refine r_strT hG Y Y Y Y (by first | rfl | assumption) ?_ | refine r_strnF hG Y Y Y Y (by first | rfl | assumption) ?_ | refine r_strF hG Y Y Y Y (by assumption) ?_ | refine r_strnT hG Y Y Y Y (by assumption) ?_ | ((fail_if_success have := kk); refine Au hG Y Y Y Y Y (fun h => ?_) (fun h => ?_)) | ((fail_if_success have := kk); first | refine r_str hG Y Y Y Y (fun h => ?_) (fun h => ?_) | refine r_strn hG Y Y Y Y (fun h => ?_) (fun h => ?_)))
      | (show AOp _ _ ⟨_, .load _ _, _, _, _, _⟩ _ _ _; first | refine Bj hG Y Y Y ?_ | refine Az 0 hG Y Y Y Y ?_ | refine Az 1 hG Y Y Y Y ?_ | refine Az 2 hG Y Y Y Y ?_)
      | (show AOp _ _ ⟨_, .indexAddr _ _ _, _, _, _, _⟩ _ _ _; first | refine Ca hG Y Y Y Y Y Y Y ?_ | refine Bi hG Y Y Y Y Y Y Y (by omega) ?_ | refine Bk hG Y Y Y Y Y Y Y (by omega) ?_ | refine Bs hG Y Y ?_)
      | (show AOp _ _ ⟨_, .convert _ _ _, _, _, _, _⟩ _ _ _; first | refine r_tostr hG Y Y Y Y Y Y Y Y (by first | exact Ac _ _ | exact Af _ | rfl) ?_ | refine r_cv8 hG Y Y Y Y Y Y ?_ | refine Bd hG Y Y Y Y Y (by omega) ?_ | refine Br hG Y Y Y Y Y ?_)
      | (show AOp _ _ ⟨_, .pick _ _ _, _, _, _, _⟩ _ _ _; refine Bz hG Y Y Y ?_)
      | (show AOp _ _ ⟨_, .unOp _ _ _, _, _, _, _⟩ _ _ _; refine B5 hG Y Y Y ?_)
      | (show AOp _ _ ⟨_, .buildSlice _ _ _, _, _, _, _⟩ _ _ _; first | refine r_mk (sz := 1) hG Y Y Y Y Y Y Y ?_)
      | (show AOp _ _ ⟨_, .build _ _, _, _, _, _⟩ _ _ _; refine Cd hG Y Y Y Y Y ?_)
      | (show AOp _ _ ⟨_, .alloc _, _, _, _, _⟩ _ _ _; refine Bt hG Y Y (fun i => ?_))
      | (show AOp _ _ ⟨_, .store _ _ _, _, _, _, _⟩ _ _ _; first | refine Bb 0 hG Y Y Y Y Y Y Y ?_ | refine Bb 1 hG Y Y Y Y Y Y Y ?_ | refine Bb 2 hG Y Y Y Y Y Y Y ?_)
      | (show AOp _ _ ⟨_, .call ⟨.builtin .min, _, _⟩, _, _, _, _⟩ _ _ _; first | refine op_minl Y Y Y (by omega) Y Y ?_ | refine op_minr Y Y Y (by omega) Y Y ?_ | refine op_min Y Y Y Y Y ?_)
      | (show AOp _ _ ⟨_, .call ⟨.value _, _, _⟩, _, _, _, _⟩ _ _ _; first | refine Bh Y Y Y Y Y (by apply hP <;> (first | assumption | omega | exact Ac _ _ | exact Af _ | exact Ah _ _ | exact Ax _ | rfl | (simp; omega))) ?_ | fail)
      | refine r_q hG Y Y Y ?_); try exact kk)
    | (show AL _ _ _ _ _ _ _ _; first | refine Bo Y Y Y ?_ | (refine Aw ?_; first | show AW _ _ _ _ _ _ | show ∃ x', _ < _ ∧ _)) | (show AW _ _ (.seq _ _) _ _ _; refine Ag ?_; intro Q1) | (show AW _ _ (.region _ _ false) _ _ _; refine Ad ?_; intro O1) | (show AW _ _ (.cond _ _ _) _ _ _; first | refine Aj Y ?_ | refine Ai Y ?_) | (show AW _ _ (.skip) _ _ _; refine Al ?_; first | show AW _ _ _ _ _ _ | show ∃ x', _ < _ ∧ _) | (show AW _ _ (.block _ _) _ _ _; refine A8 ?_; intro Q1) | (show AW _ _ (.ret) _ _ _; refine Av ?_; try dsimp only [Aq, Aa, Ap, Ab])
    | (show DL _ _ _ _ _ _ _; refine dl_d Y Y (fun K kt kf => Au hG Y Y Y Y Y kt kf) (fun h => ?_) (fun h => ?_)) | (show DL _ _ _ _ _ _ _; refine dl_d Y Y (fun K kt kf => r_str hG Y Y Y Y kt kf) (fun h => ?_) (fun h => ?_)) | (show DL _ _ _ _ _ _ _; refine dl_ne Y Y (fun K kt kf => r_strn hG Y Y Y Y kt kf) (fun h => ?_) (fun h => ?_))
    | (show DL _ _ _ _ _ _ _; refine dl_s Y Y Y ?_) | (show DL _ _ _ _ _ _ _; refine B1 ?_; first | show AW _ _ _ _ _ _ | show ∃ x', _ < _ ∧ _) | (show AW _ _ (.region _ _ true) _ _ _; refine Bm mix (by kernel_rfl) ?_; intro O1) | fail)
  rcases (by omega : 1 + a % 4 = 1 ∨ 1 + a % 4 = 2 ∨ 1 + a % 4 = 3 ∨ 1 + a % 4 = 4) with k | k | k | k
  · have hn : norm o = ⟨65, 1 + a % 4, 2, [], [], [], [], q, min u q, 1 + u % 60, [], [], []⟩ := by rw [ho, norm, if_pos k]
    rw [hn] at hK
    unfold OB.t at hK
    dsimp only at hK
    repeat' (first
    | ((first | (show AL _ _ _ _ _ _ _ _; refine Ae Y ?_) | (show DL _ _ _ _ _ _ _; refine' Bp Y Y (fun K kk => ?_) ?_; try (show Go.Ts.T; rotate_left))); (first
      | (show AOp _ _ ⟨_, .move _, _, _, _, _⟩ _ _ _; refine Am hG Y Y ?_)
      | (show AOp _ _ ⟨_, .assign _, _, _, _, _⟩ _ _ _; refine A9 hG Y Y ?_)
      | (show AOp _ _ ⟨_, .call ⟨.builtin .len, _, _⟩, _, _, _, _⟩ _ _ _; first | refine A7 hG Y Y Y Y ?_ | refine Be hG Y Y Y Y Y ?_)
      | (show AOp _ _ ⟨_, .binOp .add _ _ _ _, _, _, _, _⟩ _ _ _; first | refine Ao hG Y Y Y Y Y (by omega) ?_)
      | (show AOp _ _ ⟨_, .binOp .rem _ _ _ _, _, _, _, _⟩ _ _ _; first | refine r_rem hG Y Y Y Y (by omega) ?_ | refine r_trem hG Y Y Y Y (by omega) ?_)
      | (show AOp _ _ ⟨_, .binOp _ _ _ _ _, _, _, _, _⟩ _ _ _; first | refine As hG Y Y Y Y Y (by omega) ?_ | refine Ar hG Y Y Y Y Y (by omega) ?_ | refine r_strT hG Y Y Y Y (by first | rfl | assumption) ?_ | refine r_strnF hG Y Y Y Y (by first | rfl | assumption) ?_ | refine r_strF hG Y Y Y Y (by assumption) ?_ | refine r_strnT hG Y Y Y Y (by assumption) ?_ | ((fail_if_success have := kk); refine Au hG Y Y Y Y Y (fun h => ?_) (fun h => ?_)) | ((fail_if_success have := kk); first | refine r_str hG Y Y Y Y (fun h => ?_) (fun h => ?_) | refine r_strn hG Y Y Y Y (fun h => ?_) (fun h => ?_)))
      | (show AOp _ _ ⟨_, .load _ _, _, _, _, _⟩ _ _ _; first | refine Bj hG Y Y Y ?_ | refine Az 0 hG Y Y Y Y ?_ | refine Az 1 hG Y Y Y Y ?_ | refine Az 2 hG Y Y Y Y ?_)
      | (show AOp _ _ ⟨_, .indexAddr _ _ _, _, _, _, _⟩ _ _ _; first | refine Ca hG Y Y Y Y Y Y Y ?_ | refine Bi hG Y Y Y Y Y Y Y (by omega) ?_ | refine Bk hG Y Y Y Y Y Y Y (by omega) ?_ | refine Bs hG Y Y ?_)
      | (show AOp _ _ ⟨_, .convert _ _ _, _, _, _, _⟩ _ _ _; first | refine r_tostr hG Y Y Y Y Y Y Y Y (by first | exact Ac _ _ | exact Af _ | rfl) ?_ | refine r_cv8 hG Y Y Y Y Y Y ?_ | refine Bd hG Y Y Y Y Y (by omega) ?_ | refine Br hG Y Y Y Y Y ?_)
      | (show AOp _ _ ⟨_, .pick _ _ _, _, _, _, _⟩ _ _ _; refine Bz hG Y Y Y ?_)
      | (show AOp _ _ ⟨_, .unOp _ _ _, _, _, _, _⟩ _ _ _; refine B5 hG Y Y Y ?_)
      | (show AOp _ _ ⟨_, .buildSlice _ _ _, _, _, _, _⟩ _ _ _; first | refine r_mk (sz := 1) hG Y Y Y Y Y Y Y ?_)
      | (show AOp _ _ ⟨_, .build _ _, _, _, _, _⟩ _ _ _; refine Cd hG Y Y Y Y Y ?_)
      | (show AOp _ _ ⟨_, .alloc _, _, _, _, _⟩ _ _ _; refine Bt hG Y Y (fun i => ?_))
      | (show AOp _ _ ⟨_, .store _ _ _, _, _, _, _⟩ _ _ _; first | refine Bb 0 hG Y Y Y Y Y Y Y ?_ | refine Bb 1 hG Y Y Y Y Y Y Y ?_ | refine Bb 2 hG Y Y Y Y Y Y Y ?_)
      | (show AOp _ _ ⟨_, .call ⟨.builtin .min, _, _⟩, _, _, _, _⟩ _ _ _; first | refine op_minl Y Y Y (by omega) Y Y ?_ | refine op_minr Y Y Y (by omega) Y Y ?_ | refine op_min Y Y Y Y Y ?_)
      | (show AOp _ _ ⟨_, .call ⟨.value _, _, _⟩, _, _, _, _⟩ _ _ _; first | refine Bh Y Y Y Y Y (by apply hK <;> (first | assumption | omega | exact Ac _ _ | exact Af _ | exact Ah _ _ | exact Ax _ | rfl | (simp; omega))) ?_ | fail)
      | refine r_q hG Y Y Y ?_); try exact kk)
    | (show AL _ _ _ _ _ _ _ _; first | refine Bo Y Y Y ?_ | (refine Aw ?_; first | show AW _ _ _ _ _ _ | show ∃ x', _ < _ ∧ _)) | (show AW _ _ (.seq _ _) _ _ _; refine Ag ?_; intro Q1) | (show AW _ _ (.region _ _ false) _ _ _; refine Ad ?_; intro O1) | (show AW _ _ (.cond _ _ _) _ _ _; first | refine Aj Y ?_ | refine Ai Y ?_) | (show AW _ _ (.skip) _ _ _; refine Al ?_; first | show AW _ _ _ _ _ _ | show ∃ x', _ < _ ∧ _) | (show AW _ _ (.block _ _) _ _ _; refine A8 ?_; intro Q1) | (show AW _ _ (.ret) _ _ _; refine Av ?_; try dsimp only [Aq, Aa, Ap, Ab])
    | (show DL _ _ _ _ _ _ _; refine dl_d Y Y (fun K kt kf => Au hG Y Y Y Y Y kt kf) (fun h => ?_) (fun h => ?_)) | (show DL _ _ _ _ _ _ _; refine dl_d Y Y (fun K kt kf => r_str hG Y Y Y Y kt kf) (fun h => ?_) (fun h => ?_)) | (show DL _ _ _ _ _ _ _; refine dl_ne Y Y (fun K kt kf => r_strn hG Y Y Y Y kt kf) (fun h => ?_) (fun h => ?_))
    | (show DL _ _ _ _ _ _ _; refine dl_s Y Y Y ?_) | (show DL _ _ _ _ _ _ _; refine B1 ?_; first | show AW _ _ _ _ _ _ | show ∃ x', _ < _ ∧ _) | (show AW _ _ (.region _ _ true) _ _ _; refine Bm mix (by kernel_rfl) ?_; intro O1) | fail)
    all_goals exact Bc (Ak rfl Ba) (.refl _) rfl
  · have hn : norm o = ⟨65, 1 + a % 4, 2, [], [], [], [], 0, 0, 0, d, [], []⟩ := by rw [ho, norm, if_neg (show ¬ 1 + a % 4 = 1 by omega), if_pos k]
    rw [hn] at hK
    unfold OB.t at hK
    dsimp only at hK
    repeat' (first
    | ((first | (show AL _ _ _ _ _ _ _ _; refine Ae Y ?_) | (show DL _ _ _ _ _ _ _; refine' Bp Y Y (fun K kk => ?_) ?_; try (show Go.Ts.T; rotate_left))); (first
      | (show AOp _ _ ⟨_, .move _, _, _, _, _⟩ _ _ _; refine Am hG Y Y ?_)
      | (show AOp _ _ ⟨_, .assign _, _, _, _, _⟩ _ _ _; refine A9 hG Y Y ?_)
      | (show AOp _ _ ⟨_, .call ⟨.builtin .len, _, _⟩, _, _, _, _⟩ _ _ _; first | refine A7 hG Y Y Y Y ?_ | refine Be hG Y Y Y Y Y ?_)
      | (show AOp _ _ ⟨_, .binOp .add _ _ _ _, _, _, _, _⟩ _ _ _; first | refine Ao hG Y Y Y Y Y (by omega) ?_)
      | (show AOp _ _ ⟨_, .binOp .rem _ _ _ _, _, _, _, _⟩ _ _ _; first | refine r_rem hG Y Y Y Y (by omega) ?_ | refine r_trem hG Y Y Y Y (by omega) ?_)
      | (show AOp _ _ ⟨_, .binOp _ _ _ _ _, _, _, _, _⟩ _ _ _; first | refine As hG Y Y Y Y Y (by omega) ?_ | refine Ar hG Y Y Y Y Y (by omega) ?_ | refine r_strT hG Y Y Y Y (by first | rfl | assumption) ?_ | refine r_strnF hG Y Y Y Y (by first | rfl | assumption) ?_ | refine r_strF hG Y Y Y Y (by assumption) ?_ | refine r_strnT hG Y Y Y Y (by assumption) ?_ | ((fail_if_success have := kk); refine Au hG Y Y Y Y Y (fun h => ?_) (fun h => ?_)) | ((fail_if_success have := kk); first | refine r_str hG Y Y Y Y (fun h => ?_) (fun h => ?_) | refine r_strn hG Y Y Y Y (fun h => ?_) (fun h => ?_)))
      | (show AOp _ _ ⟨_, .load _ _, _, _, _, _⟩ _ _ _; first | refine Bj hG Y Y Y ?_ | refine Az 0 hG Y Y Y Y ?_ | refine Az 1 hG Y Y Y Y ?_ | refine Az 2 hG Y Y Y Y ?_)
      | (show AOp _ _ ⟨_, .indexAddr _ _ _, _, _, _, _⟩ _ _ _; first | refine Ca hG Y Y Y Y Y Y Y ?_ | refine Bi hG Y Y Y Y Y Y Y (by omega) ?_ | refine Bk hG Y Y Y Y Y Y Y (by omega) ?_ | refine Bs hG Y Y ?_)
      | (show AOp _ _ ⟨_, .convert _ _ _, _, _, _, _⟩ _ _ _; first | refine r_tostr hG Y Y Y Y Y Y Y Y (by first | exact Ac _ _ | exact Af _ | rfl) ?_ | refine r_cv8 hG Y Y Y Y Y Y ?_ | refine Bd hG Y Y Y Y Y (by omega) ?_ | refine Br hG Y Y Y Y Y ?_)
      | (show AOp _ _ ⟨_, .pick _ _ _, _, _, _, _⟩ _ _ _; refine Bz hG Y Y Y ?_)
      | (show AOp _ _ ⟨_, .unOp _ _ _, _, _, _, _⟩ _ _ _; refine B5 hG Y Y Y ?_)
      | (show AOp _ _ ⟨_, .buildSlice _ _ _, _, _, _, _⟩ _ _ _; first | refine r_mk (sz := 1) hG Y Y Y Y Y Y Y ?_)
      | (show AOp _ _ ⟨_, .build _ _, _, _, _, _⟩ _ _ _; refine Cd hG Y Y Y Y Y ?_)
      | (show AOp _ _ ⟨_, .alloc _, _, _, _, _⟩ _ _ _; refine Bt hG Y Y (fun i => ?_))
      | (show AOp _ _ ⟨_, .store _ _ _, _, _, _, _⟩ _ _ _; first | refine Bb 0 hG Y Y Y Y Y Y Y ?_ | refine Bb 1 hG Y Y Y Y Y Y Y ?_ | refine Bb 2 hG Y Y Y Y Y Y Y ?_)
      | (show AOp _ _ ⟨_, .call ⟨.builtin .min, _, _⟩, _, _, _, _⟩ _ _ _; first | refine op_minl Y Y Y (by omega) Y Y ?_ | refine op_minr Y Y Y (by omega) Y Y ?_ | refine op_min Y Y Y Y Y ?_)
      | (show AOp _ _ ⟨_, .call ⟨.value _, _, _⟩, _, _, _, _⟩ _ _ _; first | refine Bh Y Y Y Y Y (by apply hK <;> (first | assumption | omega | exact Ac _ _ | exact Af _ | exact Ah _ _ | exact Ax _ | rfl | (simp; omega))) ?_ | fail)
      | refine r_q hG Y Y Y ?_); try exact kk)
    | (show AL _ _ _ _ _ _ _ _; first | refine Bo Y Y Y ?_ | (refine Aw ?_; first | show AW _ _ _ _ _ _ | show ∃ x', _ < _ ∧ _)) | (show AW _ _ (.seq _ _) _ _ _; refine Ag ?_; intro Q1) | (show AW _ _ (.region _ _ false) _ _ _; refine Ad ?_; intro O1) | (show AW _ _ (.cond _ _ _) _ _ _; first | refine Aj Y ?_ | refine Ai Y ?_) | (show AW _ _ (.skip) _ _ _; refine Al ?_; first | show AW _ _ _ _ _ _ | show ∃ x', _ < _ ∧ _) | (show AW _ _ (.block _ _) _ _ _; refine A8 ?_; intro Q1) | (show AW _ _ (.ret) _ _ _; refine Av ?_; try dsimp only [Aq, Aa, Ap, Ab])
    | (show DL _ _ _ _ _ _ _; refine dl_d Y Y (fun K kt kf => Au hG Y Y Y Y Y kt kf) (fun h => ?_) (fun h => ?_)) | (show DL _ _ _ _ _ _ _; refine dl_d Y Y (fun K kt kf => r_str hG Y Y Y Y kt kf) (fun h => ?_) (fun h => ?_)) | (show DL _ _ _ _ _ _ _; refine dl_ne Y Y (fun K kt kf => r_strn hG Y Y Y Y kt kf) (fun h => ?_) (fun h => ?_))
    | (show DL _ _ _ _ _ _ _; refine dl_s Y Y Y ?_) | (show DL _ _ _ _ _ _ _; refine B1 ?_; first | show AW _ _ _ _ _ _ | show ∃ x', _ < _ ∧ _) | (show AW _ _ (.region _ _ true) _ _ _; refine Bm mix (by kernel_rfl) ?_; intro O1) | fail)
    all_goals exact Bc (Ak rfl Ba) (.refl _) rfl
  · have hn : norm o = ⟨65, 1 + a % 4, 2, [], [], [], [], 0, 0, 0, [], [c], []⟩ := by rw [ho, norm, if_neg (show ¬ 1 + a % 4 = 1 by omega), if_neg (show ¬ 1 + a % 4 = 2 by omega), if_pos k]
    rw [hn] at hK
    unfold OB.t at hK
    dsimp only at hK
    repeat' (first
    | ((first | (show AL _ _ _ _ _ _ _ _; refine Ae Y ?_) | (show DL _ _ _ _ _ _ _; refine' Bp Y Y (fun K kk => ?_) ?_; try (show Go.Ts.T; rotate_left))); (first
      | (show AOp _ _ ⟨_, .move _, _, _, _, _⟩ _ _ _; refine Am hG Y Y ?_)
      | (show AOp _ _ ⟨_, .assign _, _, _, _, _⟩ _ _ _; refine A9 hG Y Y ?_)
      | (show AOp _ _ ⟨_, .call ⟨.builtin .len, _, _⟩, _, _, _, _⟩ _ _ _; first | refine A7 hG Y Y Y Y ?_ | refine Be hG Y Y Y Y Y ?_)
      | (show AOp _ _ ⟨_, .binOp .add _ _ _ _, _, _, _, _⟩ _ _ _; first | refine Ao hG Y Y Y Y Y (by omega) ?_)
      | (show AOp _ _ ⟨_, .binOp .rem _ _ _ _, _, _, _, _⟩ _ _ _; first | refine r_rem hG Y Y Y Y (by omega) ?_ | refine r_trem hG Y Y Y Y (by omega) ?_)
      | (show AOp _ _ ⟨_, .binOp _ _ _ _ _, _, _, _, _⟩ _ _ _; first | refine As hG Y Y Y Y Y (by omega) ?_ | refine Ar hG Y Y Y Y Y (by omega) ?_ | refine r_strT hG Y Y Y Y (by first | rfl | assumption) ?_ | refine r_strnF hG Y Y Y Y (by first | rfl | assumption) ?_ | refine r_strF hG Y Y Y Y (by assumption) ?_ | refine r_strnT hG Y Y Y Y (by assumption) ?_ | ((fail_if_success have := kk); refine Au hG Y Y Y Y Y (fun h => ?_) (fun h => ?_)) | ((fail_if_success have := kk); first | refine r_str hG Y Y Y Y (fun h => ?_) (fun h => ?_) | refine r_strn hG Y Y Y Y (fun h => ?_) (fun h => ?_)))
      | (show AOp _ _ ⟨_, .load _ _, _, _, _, _⟩ _ _ _; first | refine Bj hG Y Y Y ?_ | refine Az 0 hG Y Y Y Y ?_ | refine Az 1 hG Y Y Y Y ?_ | refine Az 2 hG Y Y Y Y ?_)
      | (show AOp _ _ ⟨_, .indexAddr _ _ _, _, _, _, _⟩ _ _ _; first | refine Ca hG Y Y Y Y Y Y Y ?_ | refine Bi hG Y Y Y Y Y Y Y (by omega) ?_ | refine Bk hG Y Y Y Y Y Y Y (by omega) ?_ | refine Bs hG Y Y ?_)
      | (show AOp _ _ ⟨_, .convert _ _ _, _, _, _, _⟩ _ _ _; first | refine r_tostr hG Y Y Y Y Y Y Y Y (by first | exact Ac _ _ | exact Af _ | rfl) ?_ | refine r_cv8 hG Y Y Y Y Y Y ?_ | refine Bd hG Y Y Y Y Y (by omega) ?_ | refine Br hG Y Y Y Y Y ?_)
      | (show AOp _ _ ⟨_, .pick _ _ _, _, _, _, _⟩ _ _ _; refine Bz hG Y Y Y ?_)
      | (show AOp _ _ ⟨_, .unOp _ _ _, _, _, _, _⟩ _ _ _; refine B5 hG Y Y Y ?_)
      | (show AOp _ _ ⟨_, .buildSlice _ _ _, _, _, _, _⟩ _ _ _; first | refine r_mk (sz := 1) hG Y Y Y Y Y Y Y ?_)
      | (show AOp _ _ ⟨_, .build _ _, _, _, _, _⟩ _ _ _; refine Cd hG Y Y Y Y Y ?_)
      | (show AOp _ _ ⟨_, .alloc _, _, _, _, _⟩ _ _ _; refine Bt hG Y Y (fun i => ?_))
      | (show AOp _ _ ⟨_, .store _ _ _, _, _, _, _⟩ _ _ _; first | refine Bb 0 hG Y Y Y Y Y Y Y ?_ | refine Bb 1 hG Y Y Y Y Y Y Y ?_ | refine Bb 2 hG Y Y Y Y Y Y Y ?_)
      | (show AOp _ _ ⟨_, .call ⟨.builtin .min, _, _⟩, _, _, _, _⟩ _ _ _; first | refine op_minl Y Y Y (by omega) Y Y ?_ | refine op_minr Y Y Y (by omega) Y Y ?_ | refine op_min Y Y Y Y Y ?_)
      | (show AOp _ _ ⟨_, .call ⟨.value _, _, _⟩, _, _, _, _⟩ _ _ _; first | refine Bh Y Y Y Y Y (by apply hK <;> (first | assumption | omega | exact Ac _ _ | exact Af _ | exact Ah _ _ | exact Ax _ | rfl | (simp; omega))) ?_ | fail)
      | refine r_q hG Y Y Y ?_); try exact kk)
    | (show AL _ _ _ _ _ _ _ _; first | refine Bo Y Y Y ?_ | (refine Aw ?_; first | show AW _ _ _ _ _ _ | show ∃ x', _ < _ ∧ _)) | (show AW _ _ (.seq _ _) _ _ _; refine Ag ?_; intro Q1) | (show AW _ _ (.region _ _ false) _ _ _; refine Ad ?_; intro O1) | (show AW _ _ (.cond _ _ _) _ _ _; first | refine Aj Y ?_ | refine Ai Y ?_) | (show AW _ _ (.skip) _ _ _; refine Al ?_; first | show AW _ _ _ _ _ _ | show ∃ x', _ < _ ∧ _) | (show AW _ _ (.block _ _) _ _ _; refine A8 ?_; intro Q1) | (show AW _ _ (.ret) _ _ _; refine Av ?_; try dsimp only [Aq, Aa, Ap, Ab])
    | (show DL _ _ _ _ _ _ _; refine dl_d Y Y (fun K kt kf => Au hG Y Y Y Y Y kt kf) (fun h => ?_) (fun h => ?_)) | (show DL _ _ _ _ _ _ _; refine dl_d Y Y (fun K kt kf => r_str hG Y Y Y Y kt kf) (fun h => ?_) (fun h => ?_)) | (show DL _ _ _ _ _ _ _; refine dl_ne Y Y (fun K kt kf => r_strn hG Y Y Y Y kt kf) (fun h => ?_) (fun h => ?_))
    | (show DL _ _ _ _ _ _ _; refine dl_s Y Y Y ?_) | (show DL _ _ _ _ _ _ _; refine B1 ?_; first | show AW _ _ _ _ _ _ | show ∃ x', _ < _ ∧ _) | (show AW _ _ (.region _ _ true) _ _ _; refine Bm mix (by kernel_rfl) ?_; intro O1) | fail)
    all_goals exact Bc (Ak rfl Ba) (.refl _) rfl
  · have hn : norm o = ⟨65, 1 + a % 4, 2, [], [], [], [], 0, 0, 0, [], [], [l]⟩ := by rw [ho, norm, if_neg (show ¬ 1 + a % 4 = 1 by omega), if_neg (show ¬ 1 + a % 4 = 2 by omega), if_neg (show ¬ 1 + a % 4 = 3 by omega)]
    rw [hn] at hK
    unfold OB.t at hK
    dsimp only at hK
    repeat' (first
    | ((first | (show AL _ _ _ _ _ _ _ _; refine Ae Y ?_) | (show DL _ _ _ _ _ _ _; refine' Bp Y Y (fun K kk => ?_) ?_; try (show Go.Ts.T; rotate_left))); (first
      | (show AOp _ _ ⟨_, .move _, _, _, _, _⟩ _ _ _; refine Am hG Y Y ?_)
      | (show AOp _ _ ⟨_, .assign _, _, _, _, _⟩ _ _ _; refine A9 hG Y Y ?_)
      | (show AOp _ _ ⟨_, .call ⟨.builtin .len, _, _⟩, _, _, _, _⟩ _ _ _; first | refine A7 hG Y Y Y Y ?_ | refine Be hG Y Y Y Y Y ?_)
      | (show AOp _ _ ⟨_, .binOp .add _ _ _ _, _, _, _, _⟩ _ _ _; first | refine Ao hG Y Y Y Y Y (by omega) ?_)
      | (show AOp _ _ ⟨_, .binOp .rem _ _ _ _, _, _, _, _⟩ _ _ _; first | refine r_rem hG Y Y Y Y (by omega) ?_ | refine r_trem hG Y Y Y Y (by omega) ?_)
      | (show AOp _ _ ⟨_, .binOp _ _ _ _ _, _, _, _, _⟩ _ _ _; first | refine As hG Y Y Y Y Y (by omega) ?_ | refine Ar hG Y Y Y Y Y (by omega) ?_ | refine r_strT hG Y Y Y Y (by first | rfl | assumption) ?_ | refine r_strnF hG Y Y Y Y (by first | rfl | assumption) ?_ | refine r_strF hG Y Y Y Y (by assumption) ?_ | refine r_strnT hG Y Y Y Y (by assumption) ?_ | ((fail_if_success have := kk); refine Au hG Y Y Y Y Y (fun h => ?_) (fun h => ?_)) | ((fail_if_success have := kk); first | refine r_str hG Y Y Y Y (fun h => ?_) (fun h => ?_) | refine r_strn hG Y Y Y Y (fun h => ?_) (fun h => ?_)))
      | (show AOp _ _ ⟨_, .load _ _, _, _, _, _⟩ _ _ _; first | refine Bj hG Y Y Y ?_ | refine Az 0 hG Y Y Y Y ?_ | refine Az 1 hG Y Y Y Y ?_ | refine Az 2 hG Y Y Y Y ?_)
      | (show AOp _ _ ⟨_, .indexAddr _ _ _, _, _, _, _⟩ _ _ _; first | refine Ca hG Y Y Y Y Y Y Y ?_ | refine Bi hG Y Y Y Y Y Y Y (by omega) ?_ | refine Bk hG Y Y Y Y Y Y Y (by omega) ?_ | refine Bs hG Y Y ?_)
      | (show AOp _ _ ⟨_, .convert _ _ _, _, _, _, _⟩ _ _ _; first | refine r_tostr hG Y Y Y Y Y Y Y Y (by first | exact Ac _ _ | exact Af _ | rfl) ?_ | refine r_cv8 hG Y Y Y Y Y Y ?_ | refine Bd hG Y Y Y Y Y (by omega) ?_ | refine Br hG Y Y Y Y Y ?_)
      | (show AOp _ _ ⟨_, .pick _ _ _, _, _, _, _⟩ _ _ _; refine Bz hG Y Y Y ?_)
      | (show AOp _ _ ⟨_, .unOp _ _ _, _, _, _, _⟩ _ _ _; refine B5 hG Y Y Y ?_)
      | (show AOp _ _ ⟨_, .buildSlice _ _ _, _, _, _, _⟩ _ _ _; first | refine r_mk (sz := 1) hG Y Y Y Y Y Y Y ?_)
      | (show AOp _ _ ⟨_, .build _ _, _, _, _, _⟩ _ _ _; refine Cd hG Y Y Y Y Y ?_)
      | (show AOp _ _ ⟨_, .alloc _, _, _, _, _⟩ _ _ _; refine Bt hG Y Y (fun i => ?_))
      | (show AOp _ _ ⟨_, .store _ _ _, _, _, _, _⟩ _ _ _; first | refine Bb 0 hG Y Y Y Y Y Y Y ?_ | refine Bb 1 hG Y Y Y Y Y Y Y ?_ | refine Bb 2 hG Y Y Y Y Y Y Y ?_)
      | (show AOp _ _ ⟨_, .call ⟨.builtin .min, _, _⟩, _, _, _, _⟩ _ _ _; first | refine op_minl Y Y Y (by omega) Y Y ?_ | refine op_minr Y Y Y (by omega) Y Y ?_ | refine op_min Y Y Y Y Y ?_)
      | (show AOp _ _ ⟨_, .call ⟨.value _, _, _⟩, _, _, _, _⟩ _ _ _; first | refine Bh Y Y Y Y Y (by apply hK <;> (first | assumption | omega | exact Ac _ _ | exact Af _ | exact Ah _ _ | exact Ax _ | rfl | (simp; omega))) ?_ | fail)
      | refine r_q hG Y Y Y ?_); try exact kk)
    | (show AL _ _ _ _ _ _ _ _; first | refine Bo Y Y Y ?_ | (refine Aw ?_; first | show AW _ _ _ _ _ _ | show ∃ x', _ < _ ∧ _)) | (show AW _ _ (.seq _ _) _ _ _; refine Ag ?_; intro Q1) | (show AW _ _ (.region _ _ false) _ _ _; refine Ad ?_; intro O1) | (show AW _ _ (.cond _ _ _) _ _ _; first | refine Aj Y ?_ | refine Ai Y ?_) | (show AW _ _ (.skip) _ _ _; refine Al ?_; first | show AW _ _ _ _ _ _ | show ∃ x', _ < _ ∧ _) | (show AW _ _ (.block _ _) _ _ _; refine A8 ?_; intro Q1) | (show AW _ _ (.ret) _ _ _; refine Av ?_; try dsimp only [Aq, Aa, Ap, Ab])
    | (show DL _ _ _ _ _ _ _; refine dl_d Y Y (fun K kt kf => Au hG Y Y Y Y Y kt kf) (fun h => ?_) (fun h => ?_)) | (show DL _ _ _ _ _ _ _; refine dl_d Y Y (fun K kt kf => r_str hG Y Y Y Y kt kf) (fun h => ?_) (fun h => ?_)) | (show DL _ _ _ _ _ _ _; refine dl_ne Y Y (fun K kt kf => r_strn hG Y Y Y Y kt kf) (fun h => ?_) (fun h => ?_))
    | (show DL _ _ _ _ _ _ _; refine dl_s Y Y Y ?_) | (show DL _ _ _ _ _ _ _; refine B1 ?_; first | show AW _ _ _ _ _ _ | show ∃ x', _ < _ ∧ _) | (show AW _ _ (.region _ _ true) _ _ _; refine Bm mix (by kernel_rfl) ?_; intro O1) | fail)
    all_goals exact Bc (Ak rfl Ba) (.refl _) rfl
theorem object1Kinds_law (_W : World) (a : Int) (wa : (Lit.int .u8 a).wf = true) (q : Int) (wq : (Lit.int .u8 q).wf = true) (u : Int) (wu : (Lit.int .u8 u).wf = true) (y : T) (ty : ArgTy G 6 22 y) (c : Int) (wc : (Lit.int .u16 c).wf = true) (z : T) (tz : ArgTy G 6 22 z) :
    ACalls Try.prog 6 [.int .u8 a, .int .u8 q, .int .u8 u, y, .int .u16 c, z] σ0 (fun r _ => r = .bool true) := by
  obtain ⟨d, rfl, hd⟩ := argTy_bytes ty rfl rfl rfl rfl rfl
  obtain ⟨l, rfl, hl⟩ := argTy_bytes tz rfl rfl rfl rfl rfl
  rw [half_of (wf_u16 wc)]
  exact (object1Kinds_pure (wf_u8 wa) (wf_u8 wq) (wf_u8 wu) hd hl (fun _ _ => False)).mono fun _ _ h => h.1
end Go.Proofs.Ytemgmkoggnjgjaa
