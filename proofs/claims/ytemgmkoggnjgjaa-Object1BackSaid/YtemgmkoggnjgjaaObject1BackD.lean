/- Part of the proof of the law Object1Back: the texts LB, LP, RC. No conditions. -/
import Derived.Test.YtemgmkoggnjgjaaObject1BackC
set_option linter.unusedSimpArgs false
set_option linter.unusedVariables false
namespace Go.Proofs.Ytemgmkoggnjgjaa
open Go.Ts
set_option linter.unusedSimpArgs false
set_option linter.unusedVariables false
attribute [local irreducible] Go.Ts.AW Go.Ts.AOps Go.Ts.AL Go.Ts.AOp Go.Ts.ACalls Go.Ts.DL Go.Ts.DQ Go.Ts.EL
theorem drop_1 {x : Nat × Ob} {L : List (Nat × Ob)} {R : List Nat} {off : Nat → Nat → Prop} : Go.Ts.GStep ⟨x :: L, R, off, none⟩ ⟨L, R, off, none⟩ := keep_step (σ := ⟨x :: L, R, off, none⟩) (L' := L) (R' := R) (List.sublist_cons_self _ _) (List.Sublist.refl _)
theorem drop_tok' {k : Nat} {R' : List Nat} {L : List (Nat × Ob)} {off : Nat → Nat → Prop} : Go.Ts.GStep ⟨L, k :: R', off, none⟩ ⟨L, [k], off, none⟩ := keep_step (σ := ⟨L, k :: R', off, none⟩) (L' := L) (R' := [k]) (List.Sublist.refl _) (List.singleton_sublist.2 (by simp))
theorem mayLab_no {df : UInt8} {l : List PR} {i : Nat} (hi : i < l.length) (h : okAt df l i = false) : mayLab df l = false := by
  unfold mayLab
  have : (List.range l.length).all (okAt df l) = false := by
    rw [List.all_eq_false]
    exact ⟨i, List.mem_range.2 hi, by rw [h]; decide⟩
  rw [this, Bool.and_false]
theorem mayLab_yes {df : UInt8} {l : List PR} (h1 : 1 ≤ df.toNat ∧ df.toNat ≤ 4) (h2 : l.length ≤ 16) (h : ∀ j < l.length, okAt df l j = true) : mayLab df l = true := by
  unfold mayLab
  rw [decide_eq_true h1, decide_eq_true h2, List.all_eq_true.2 fun j hj => h j (List.mem_range.1 hj)]; rfl
theorem level_May (l : UInt8) : Ts.Pure Try.prog 71 [bT l] (.bool (decide (l.toNat ≤ 4))) := by
  intro off
  refine Bp (N := 5) (rs := [.tmp 2]) hG Try.func71 rfl rfl rfl rfl rfl ?_
  by_cases h : l.toNat ≤ 4
  · repeat' (first
    | ((show AL _ _ _ _ _ _ _ _; refine Ae Y ?_); (first
      | (show AOp _ _ ⟨_, .move _, _, _, _, _⟩ _ _ _; refine Al hG Y Y ?_)
      | (show AOp _ _ ⟨_, .assign _, _, _, _, _⟩ _ _ _; refine A9 hG Y Y ?_)
      | (show AOp _ _ ⟨_, .binOp _ _ _ _ _, _, _, _, _⟩ _ _ _; first | refine Ap hG Y Y Y Y Y (by omega) ?_ | refine Aq hG Y Y Y Y Y (by omega) ?_ | (refine Av hG Y Y Y Y Y (fun h => ?_) (fun h => ?_)))
      | refine r_q hG Y Y Y ?_))
    | (show AL _ _ _ _ _ _ _ _; first | refine Bj Y Y Y ?_ | (refine As ?_; first | show AW _ _ _ _ _ _ | show ∃ x', _ < _ ∧ _)) | (show AW _ _ (.seq _ _) _ _ _; refine Ah ?_; intro Q1) | (show AW _ _ (.region _ _ false) _ _ _; refine Ad ?_; intro O1) | (show AW _ _ (.ret) _ _ _; refine Ar ?_; try dsimp only [Aw, Aa, Au, Ac]) | fail)
    exact Ba (Ao rfl A8) (.eq (by rw [decide_eq_true h]; rfl)) rfl
  · repeat' (first
    | ((show AL _ _ _ _ _ _ _ _; refine Ae Y ?_); (first
      | (show AOp _ _ ⟨_, .move _, _, _, _, _⟩ _ _ _; refine Al hG Y Y ?_)
      | (show AOp _ _ ⟨_, .assign _, _, _, _, _⟩ _ _ _; refine A9 hG Y Y ?_)
      | (show AOp _ _ ⟨_, .binOp _ _ _ _ _, _, _, _, _⟩ _ _ _; first | refine Ap hG Y Y Y Y Y (by omega) ?_ | refine Aq hG Y Y Y Y Y (by omega) ?_ | (refine Av hG Y Y Y Y Y (fun h => ?_) (fun h => ?_)))
      | refine r_q hG Y Y Y ?_))
    | (show AL _ _ _ _ _ _ _ _; first | refine Bj Y Y Y ?_ | (refine As ?_; first | show AW _ _ _ _ _ _ | show ∃ x', _ < _ ∧ _)) | (show AW _ _ (.seq _ _) _ _ _; refine Ah ?_; intro Q1) | (show AW _ _ (.region _ _ false) _ _ _; refine Ad ?_; intro O1) | (show AW _ _ (.ret) _ _ _; refine Ar ?_; try dsimp only [Aw, Aa, Au, Ac]) | fail)
    exact Ba (Ao rfl A8) (.eq (by rw [decide_eq_false h]; rfl)) rfl
structure LmX (df : UInt8) (l : List PR) where
  i : Nat
  p : Nat
  hi : i ≤ l.length
  hn : ∀ j < i, okAt df l j = true
set_option maxHeartbeats 1000000 in
theorem label_May {df : UInt8} {l : List PR} (hl : l.length ≤ 140737488351232) : Ts.Pure Try.prog 65 [.agg [bT df, .sl 2 .no (l.map pT)]] (.bool (mayLab df l)) := by
  intro off
  refine Bp (N := 55) (rs := [.tmp 2]) hG Try.func65 rfl rfl rfl rfl rfl ?_
  by_cases h0 : (1 ≤ df.toNat ∧ df.toNat ≤ 4) ∧ l.length ≤ 16
  · repeat' (first
    | ((first | (show AL _ _ _ _ _ _ _ _; refine Ae Y ?_) | (show DL _ _ _ _ _ _ _; refine' Bx Y Y (fun K kk => ?_) ?_; try (show Go.Ts.T; rotate_left))); (first
      | (show AOp _ _ ⟨_, .move _, _, _, _, _⟩ _ _ _; refine Al hG Y Y ?_)
      | (show AOp _ _ ⟨_, .assign _, _, _, _, _⟩ _ _ _; refine A9 hG Y Y ?_)
      | (show AOp _ _ ⟨_, .call ⟨.builtin .len, _, _⟩, _, _, _, _⟩ _ _ _; first | refine Az hG Y Y Y Y ?_ | refine Bd hG Y Y Y Y Y ?_)
      | (show AOp _ _ ⟨_, .binOp .add _ _ _ _, _, _, _, _⟩ _ _ _; first | refine Am hG Y Y Y Y Y (by omega) ?_)
      | (show AOp _ _ ⟨_, .binOp .sub _ _ _ _, _, _, _, _⟩ _ _ _; first | refine Am hG Y Y Y Y Y (by omega) ?_)
      | (show AOp _ _ ⟨_, .binOp _ _ _ _ _, _, _, _, _⟩ _ _ _; first | refine Ap hG Y Y Y Y Y (by omega) ?_ | refine Aq hG Y Y Y Y Y (by omega) ?_ | ((fail_if_success have := kk); refine Av hG Y Y Y Y Y (fun h => ?_) (fun h => ?_)))
      | (show AOp _ _ ⟨_, .load _ _, _, _, _, _⟩ _ _ _; first | refine Bf hG Y Y Y ?_ | refine Ax 0 hG Y Y Y Y ?_ | refine Ax 1 hG Y Y Y Y ?_ | refine Ax 2 hG Y Y Y Y ?_)
      | (show AOp _ _ ⟨_, .indexAddr _ _ _, _, _, _, _⟩ _ _ _; first | refine Bg hG Y Y Y Y Y Y Y (by omega) ?_ | refine Bh hG Y Y Y Y Y Y Y (by omega) ?_ | refine Bt hG Y Y ?_)
      | (show AOp _ _ ⟨_, .pick _ _ _, _, _, _, _⟩ _ _ _; refine Bl hG Y Y Y ?_)
      | (show AOp _ _ ⟨_, .unOp _ _ _, _, _, _, _⟩ _ _ _; refine B2 hG Y Y Y ?_)
      | (show AOp _ _ ⟨_, .box _ _, _, _, _, _⟩ _ _ _; refine B1 hG Y Y Y (fun i => ?_))
      | (show AOp _ _ ⟨_, .alloc _, _, _, _, _⟩ _ _ _; refine Bv hG Y Y (fun i => ?_))
      | (show AOp _ _ ⟨_, .store _ _ _, _, _, _, _⟩ _ _ _; first | refine Bb 0 hG Y Y Y Y Y Y Y ?_ | refine Bb 1 hG Y Y Y Y Y Y Y ?_ | refine Bb 2 hG Y Y Y Y Y Y Y ?_)
      | refine r_q hG Y Y Y ?_); try exact kk)
    | (show AL _ _ _ _ _ _ _ _; first | refine Bj Y Y Y ?_ | (refine As ?_; first | show AW _ _ _ _ _ _ | show ∃ x', _ < _ ∧ _)) | (show AW _ _ (.seq _ _) _ _ _; refine Ah ?_; intro Q1) | (show AW _ _ (.region _ _ false) _ _ _; refine Ad ?_; intro O1) | (show AW _ _ (.cond _ _ _) _ _ _; first | refine Aj Y ?_ | refine Ai Y ?_) | (show AW _ _ (.skip) _ _ _; refine Ak ?_; first | show AW _ _ _ _ _ _ | show ∃ x', _ < _ ∧ _) | (show AW _ _ (.block _ _) _ _ _; refine A7 ?_; intro Q1) | (show AW _ _ (.exit _) _ _ _; refine Bi ?_; first | show AW _ _ _ _ _ _ | show ∃ x', _ < _ ∧ _) | (show AW _ _ (.ret) _ _ _; refine Ar ?_; try dsimp only [Aw, Aa, Au, Ac])
    | (show DL _ _ _ _ _ _ _; refine dl_d Y Y (fun K kt kf => Av hG Y Y Y Y Y kt kf) (fun h => ?_) (fun h => ?_))
    | (show DL _ _ _ _ _ _ _; refine dl_s Y Y Y ?_) | (show DL _ _ _ _ _ _ _; refine B3 ?_; first | show AW _ _ _ _ _ _ | show ∃ x', _ < _ ∧ _) | (show AW _ _ (.region _ _ true) _ _ _; refine Bq mix (by kernel_rfl) ?_; intro O1) | fail)
    refine aw_loop (X := LmX df l) (fun x => [(1, .ptr x.p 0), (20, .sl 2 .no (l.map pT)), (21, .int .i64 l.length), (22, .int .i64 x.i)]) (fun x => ⟨[(x.p, .cells [bT df, .sl 2 .no (l.map pT)])], [], off, none⟩) (fun x => l.length - x.i) ⟨0, i, Nat.zero_le _, fun j hj => by omega⟩ ?_ (.refl _) ?_
    · exact .cons rfl (.cons rfl (.cons rfl (.consW rfl (.int rfl) (.nil _))))
    rintro ⟨j, p, hj, hn⟩
    dsimp only
    by_cases hjl : j < l.length
    · have hL := level_May (l.getD j default).2
      have hok : okAt df l j = (okP df (l.getD j default) && (decide (j = 0) || decide ((l.getD (j - 1) default).1.toNat < (l.getD j default).1.toNat))) := rfl
      unfold okP at hok
      by_cases c1 : (l.getD j default).2.toNat ≤ 4
      · rw [decide_eq_true c1] at hL hok
        by_cases c2 : (l.getD j default).2.toNat = df.toNat
        · have hf := mayLab_no hjl (by rw [hok, decide_eq_false (fun h => h (UInt8.toNat_inj.1 c2)), Bool.and_false, Bool.false_and])
          repeat' (first
    | ((first | (show AL _ _ _ _ _ _ _ _; refine Ae Y ?_) | (show DL _ _ _ _ _ _ _; refine' Bx Y Y (fun K kk => ?_) ?_; try (show Go.Ts.T; rotate_left))); (first
      | (show AOp _ _ ⟨_, .move _, _, _, _, _⟩ _ _ _; refine Al hG Y Y ?_)
      | (show AOp _ _ ⟨_, .assign _, _, _, _, _⟩ _ _ _; refine A9 hG Y Y ?_)
      | (show AOp _ _ ⟨_, .call ⟨.builtin .len, _, _⟩, _, _, _, _⟩ _ _ _; first | refine Az hG Y Y Y Y ?_ | refine Bd hG Y Y Y Y Y ?_)
      | (show AOp _ _ ⟨_, .binOp .add _ _ _ _, _, _, _, _⟩ _ _ _; first | refine Am hG Y Y Y Y Y (by omega) ?_)
      | (show AOp _ _ ⟨_, .binOp .sub _ _ _ _, _, _, _, _⟩ _ _ _; first | refine Am hG Y Y Y Y Y (by omega) ?_)
      | (show AOp _ _ ⟨_, .binOp _ _ _ _ _, _, _, _, _⟩ _ _ _; first | refine Ap hG Y Y Y Y Y (by omega) ?_ | refine Aq hG Y Y Y Y Y (by omega) ?_ | ((fail_if_success have := kk); refine Av hG Y Y Y Y Y (fun h => ?_) (fun h => ?_)))
      | (show AOp _ _ ⟨_, .load _ _, _, _, _, _⟩ _ _ _; first | refine Bf hG Y Y Y ?_ | refine Ax 0 hG Y Y Y Y ?_ | refine Ax 1 hG Y Y Y Y ?_ | refine Ax 2 hG Y Y Y Y ?_)
      | (show AOp _ _ ⟨_, .indexAddr _ _ _, _, _, _, _⟩ _ _ _; first | refine Bg hG Y Y Y Y Y Y Y (by omega) ?_ | refine Bh hG Y Y Y Y Y Y Y (by omega) ?_ | refine Bt hG Y Y ?_)
      | (show AOp _ _ ⟨_, .pick _ _ _, _, _, _, _⟩ _ _ _; refine Bl hG Y Y Y ?_)
      | (show AOp _ _ ⟨_, .unOp _ _ _, _, _, _, _⟩ _ _ _; refine B2 hG Y Y Y ?_)
      | (show AOp _ _ ⟨_, .box _ _, _, _, _, _⟩ _ _ _; refine B1 hG Y Y Y (fun i => ?_))
      | (show AOp _ _ ⟨_, .alloc _, _, _, _, _⟩ _ _ _; refine Bv hG Y Y (fun i => ?_))
      | (show AOp _ _ ⟨_, .store _ _ _, _, _, _, _⟩ _ _ _; first | refine Bb 0 hG Y Y Y Y Y Y Y ?_ | refine Bb 1 hG Y Y Y Y Y Y Y ?_ | refine Bb 2 hG Y Y Y Y Y Y Y ?_)
      | (show AOp _ _ ⟨_, .call ⟨.value _, _, _⟩, _, _, _, _⟩ _ _ _; first | refine Bc Y Y Y Y Y (by apply hL <;> (first | assumption | omega | exact Ab _ _ | exact Af _ | exact Ag _ _ | exact Ay _ | rfl | (simp; omega))) ?_ | fail)
      | refine r_q hG Y Y Y ?_); try exact kk)
    | (show AL _ _ _ _ _ _ _ _; first | refine Bj Y Y Y ?_ | (refine As ?_; first | show AW _ _ _ _ _ _ | show ∃ x', _ < _ ∧ _)) | (show AW _ _ (.seq _ _) _ _ _; refine Ah ?_; intro Q1) | (show AW _ _ (.region _ _ false) _ _ _; refine Ad ?_; intro O1) | (show AW _ _ (.cond _ _ _) _ _ _; first | refine Aj Y ?_ | refine Ai Y ?_) | (show AW _ _ (.skip) _ _ _; refine Ak ?_; first | show AW _ _ _ _ _ _ | show ∃ x', _ < _ ∧ _) | (show AW _ _ (.block _ _) _ _ _; refine A7 ?_; intro Q1) | (show AW _ _ (.exit _) _ _ _; refine Bi ?_; first | show AW _ _ _ _ _ _ | show ∃ x', _ < _ ∧ _) | (show AW _ _ (.ret) _ _ _; refine Ar ?_; try dsimp only [Aw, Aa, Au, Ac])
    | (show DL _ _ _ _ _ _ _; refine dl_d Y Y (fun K kt kf => Av hG Y Y Y Y Y kt kf) (fun h => ?_) (fun h => ?_))
    | (show DL _ _ _ _ _ _ _; refine dl_s Y Y Y ?_) | (show DL _ _ _ _ _ _ _; refine B3 ?_; first | show AW _ _ _ _ _ _ | show ∃ x', _ < _ ∧ _) | (show AW _ _ (.region _ _ true) _ _ _; refine Bq mix (by kernel_rfl) ?_; intro O1) | fail)
          exact Ba (Ao rfl A8) (.eq (by rw [hf]; rfl)) rfl
        · have c2' : (l.getD j default).2 ≠ df := fun e => c2 (by rw [e])
          rw [decide_eq_true c2'] at hok
          by_cases c3 : j = 0
          · subst c3
            repeat' (first
    | ((first | (show AL _ _ _ _ _ _ _ _; refine Ae Y ?_) | (show DL _ _ _ _ _ _ _; refine' Bx Y Y (fun K kk => ?_) ?_; try (show Go.Ts.T; rotate_left))); (first
      | (show AOp _ _ ⟨_, .move _, _, _, _, _⟩ _ _ _; refine Al hG Y Y ?_)
      | (show AOp _ _ ⟨_, .assign _, _, _, _, _⟩ _ _ _; refine A9 hG Y Y ?_)
      | (show AOp _ _ ⟨_, .call ⟨.builtin .len, _, _⟩, _, _, _, _⟩ _ _ _; first | refine Az hG Y Y Y Y ?_ | refine Bd hG Y Y Y Y Y ?_)
      | (show AOp _ _ ⟨_, .binOp .add _ _ _ _, _, _, _, _⟩ _ _ _; first | refine Am hG Y Y Y Y Y (by omega) ?_)
      | (show AOp _ _ ⟨_, .binOp .sub _ _ _ _, _, _, _, _⟩ _ _ _; first | refine Am hG Y Y Y Y Y (by omega) ?_)
      | (show AOp _ _ ⟨_, .binOp _ _ _ _ _, _, _, _, _⟩ _ _ _; first | refine Ap hG Y Y Y Y Y (by omega) ?_ | refine Aq hG Y Y Y Y Y (by omega) ?_ | ((fail_if_success have := kk); refine Av hG Y Y Y Y Y (fun h => ?_) (fun h => ?_)))
      | (show AOp _ _ ⟨_, .load _ _, _, _, _, _⟩ _ _ _; first | refine Bf hG Y Y Y ?_ | refine Ax 0 hG Y Y Y Y ?_ | refine Ax 1 hG Y Y Y Y ?_ | refine Ax 2 hG Y Y Y Y ?_)
      | (show AOp _ _ ⟨_, .indexAddr _ _ _, _, _, _, _⟩ _ _ _; first | refine Bg hG Y Y Y Y Y Y Y (by omega) ?_ | refine Bh hG Y Y Y Y Y Y Y (by omega) ?_ | refine Bt hG Y Y ?_)
      | (show AOp _ _ ⟨_, .pick _ _ _, _, _, _, _⟩ _ _ _; refine Bl hG Y Y Y ?_)
      | (show AOp _ _ ⟨_, .unOp _ _ _, _, _, _, _⟩ _ _ _; refine B2 hG Y Y Y ?_)
      | (show AOp _ _ ⟨_, .box _ _, _, _, _, _⟩ _ _ _; refine B1 hG Y Y Y (fun i => ?_))
      | (show AOp _ _ ⟨_, .alloc _, _, _, _, _⟩ _ _ _; refine Bv hG Y Y (fun i => ?_))
      | (show AOp _ _ ⟨_, .store _ _ _, _, _, _, _⟩ _ _ _; first | refine Bb 0 hG Y Y Y Y Y Y Y ?_ | refine Bb 1 hG Y Y Y Y Y Y Y ?_ | refine Bb 2 hG Y Y Y Y Y Y Y ?_)
      | (show AOp _ _ ⟨_, .call ⟨.value _, _, _⟩, _, _, _, _⟩ _ _ _; first | refine Bc Y Y Y Y Y (by apply hL <;> (first | assumption | omega | exact Ab _ _ | exact Af _ | exact Ag _ _ | exact Ay _ | rfl | (simp; omega))) ?_ | fail)
      | refine r_q hG Y Y Y ?_); try exact kk)
    | (show AL _ _ _ _ _ _ _ _; first | refine Bj Y Y Y ?_ | (refine As ?_; first | show AW _ _ _ _ _ _ | show ∃ x', _ < _ ∧ _)) | (show AW _ _ (.seq _ _) _ _ _; refine Ah ?_; intro Q1) | (show AW _ _ (.region _ _ false) _ _ _; refine Ad ?_; intro O1) | (show AW _ _ (.cond _ _ _) _ _ _; first | refine Aj Y ?_ | refine Ai Y ?_) | (show AW _ _ (.skip) _ _ _; refine Ak ?_; first | show AW _ _ _ _ _ _ | show ∃ x', _ < _ ∧ _) | (show AW _ _ (.block _ _) _ _ _; refine A7 ?_; intro Q1) | (show AW _ _ (.exit _) _ _ _; refine Bi ?_; first | show AW _ _ _ _ _ _ | show ∃ x', _ < _ ∧ _) | (show AW _ _ (.ret) _ _ _; refine Ar ?_; try dsimp only [Aw, Aa, Au, Ac])
    | (show DL _ _ _ _ _ _ _; refine dl_d Y Y (fun K kt kf => Av hG Y Y Y Y Y kt kf) (fun h => ?_) (fun h => ?_))
    | (show DL _ _ _ _ _ _ _; refine dl_s Y Y Y ?_) | (show DL _ _ _ _ _ _ _; refine B3 ?_; first | show AW _ _ _ _ _ _ | show ∃ x', _ < _ ∧ _) | (show AW _ _ (.region _ _ true) _ _ _; refine Bq mix (by kernel_rfl) ?_; intro O1) | fail)
            refine ⟨⟨1, p, by omega, fun j hj => ?_⟩, by dsimp only; omega, ?_, drop_1⟩
            · obtain rfl : j = 0 := by omega
              rw [hok]; rfl
            · exact .cons rfl (.cons rfl (.cons rfl (.consW rfl (.int (by simp)) (.nil _))))
          · have e : ((j : Int) - 1).toNat = j - 1 := by omega
            by_cases c4 : (l.getD ((j : Int) - 1).toNat default).1.toNat < (l.getD j default).1.toNat
            · repeat' (first
    | ((first | (show AL _ _ _ _ _ _ _ _; refine Ae Y ?_) | (show DL _ _ _ _ _ _ _; refine' Bx Y Y (fun K kk => ?_) ?_; try (show Go.Ts.T; rotate_left))); (first
      | (show AOp _ _ ⟨_, .move _, _, _, _, _⟩ _ _ _; refine Al hG Y Y ?_)
      | (show AOp _ _ ⟨_, .assign _, _, _, _, _⟩ _ _ _; refine A9 hG Y Y ?_)
      | (show AOp _ _ ⟨_, .call ⟨.builtin .len, _, _⟩, _, _, _, _⟩ _ _ _; first | refine Az hG Y Y Y Y ?_ | refine Bd hG Y Y Y Y Y ?_)
      | (show AOp _ _ ⟨_, .binOp .add _ _ _ _, _, _, _, _⟩ _ _ _; first | refine Am hG Y Y Y Y Y (by omega) ?_)
      | (show AOp _ _ ⟨_, .binOp .sub _ _ _ _, _, _, _, _⟩ _ _ _; first | refine Am hG Y Y Y Y Y (by omega) ?_)
      | (show AOp _ _ ⟨_, .binOp _ _ _ _ _, _, _, _, _⟩ _ _ _; first | refine Ap hG Y Y Y Y Y (by omega) ?_ | refine Aq hG Y Y Y Y Y (by omega) ?_ | ((fail_if_success have := kk); refine Av hG Y Y Y Y Y (fun h => ?_) (fun h => ?_)))
      | (show AOp _ _ ⟨_, .load _ _, _, _, _, _⟩ _ _ _; first | refine Bf hG Y Y Y ?_ | refine Ax 0 hG Y Y Y Y ?_ | refine Ax 1 hG Y Y Y Y ?_ | refine Ax 2 hG Y Y Y Y ?_)
      | (show AOp _ _ ⟨_, .indexAddr _ _ _, _, _, _, _⟩ _ _ _; first | refine Bg hG Y Y Y Y Y Y Y (by omega) ?_ | refine Bh hG Y Y Y Y Y Y Y (by omega) ?_ | refine Bt hG Y Y ?_)
      | (show AOp _ _ ⟨_, .pick _ _ _, _, _, _, _⟩ _ _ _; refine Bl hG Y Y Y ?_)
      | (show AOp _ _ ⟨_, .unOp _ _ _, _, _, _, _⟩ _ _ _; refine B2 hG Y Y Y ?_)
      | (show AOp _ _ ⟨_, .box _ _, _, _, _, _⟩ _ _ _; refine B1 hG Y Y Y (fun i => ?_))
      | (show AOp _ _ ⟨_, .alloc _, _, _, _, _⟩ _ _ _; refine Bv hG Y Y (fun i => ?_))
      | (show AOp _ _ ⟨_, .store _ _ _, _, _, _, _⟩ _ _ _; first | refine Bb 0 hG Y Y Y Y Y Y Y ?_ | refine Bb 1 hG Y Y Y Y Y Y Y ?_ | refine Bb 2 hG Y Y Y Y Y Y Y ?_)
      | (show AOp _ _ ⟨_, .call ⟨.value _, _, _⟩, _, _, _, _⟩ _ _ _; first | refine Bc Y Y Y Y Y (by apply hL <;> (first | assumption | omega | exact Ab _ _ | exact Af _ | exact Ag _ _ | exact Ay _ | rfl | (simp; omega))) ?_ | fail)
      | refine r_q hG Y Y Y ?_); try exact kk)
    | (show AL _ _ _ _ _ _ _ _; first | refine Bj Y Y Y ?_ | (refine As ?_; first | show AW _ _ _ _ _ _ | show ∃ x', _ < _ ∧ _)) | (show AW _ _ (.seq _ _) _ _ _; refine Ah ?_; intro Q1) | (show AW _ _ (.region _ _ false) _ _ _; refine Ad ?_; intro O1) | (show AW _ _ (.cond _ _ _) _ _ _; first | refine Aj Y ?_ | refine Ai Y ?_) | (show AW _ _ (.skip) _ _ _; refine Ak ?_; first | show AW _ _ _ _ _ _ | show ∃ x', _ < _ ∧ _) | (show AW _ _ (.block _ _) _ _ _; refine A7 ?_; intro Q1) | (show AW _ _ (.exit _) _ _ _; refine Bi ?_; first | show AW _ _ _ _ _ _ | show ∃ x', _ < _ ∧ _) | (show AW _ _ (.ret) _ _ _; refine Ar ?_; try dsimp only [Aw, Aa, Au, Ac])
    | (show DL _ _ _ _ _ _ _; refine dl_d Y Y (fun K kt kf => Av hG Y Y Y Y Y kt kf) (fun h => ?_) (fun h => ?_))
    | (show DL _ _ _ _ _ _ _; refine dl_s Y Y Y ?_) | (show DL _ _ _ _ _ _ _; refine B3 ?_; first | show AW _ _ _ _ _ _ | show ∃ x', _ < _ ∧ _) | (show AW _ _ (.region _ _ true) _ _ _; refine Bq mix (by kernel_rfl) ?_; intro O1) | fail)
              rw [e] at c4
              refine ⟨⟨j + 1, p, by omega, fun q hq => ?_⟩, by dsimp only; omega, ?_, drop_1⟩
              · rcases Nat.lt_succ_iff_lt_or_eq.1 hq with h | rfl
                · exact hn q h
                · rw [hok, decide_eq_true c4]; simp
              · exact .cons rfl (.cons rfl (.cons rfl (.consW rfl (.int (by simp)) (.nil _))))
            · have hf := mayLab_no hjl (by rw [hok, ← e, decide_eq_false c4, decide_eq_false c3]; rfl)
              repeat' (first
    | ((first | (show AL _ _ _ _ _ _ _ _; refine Ae Y ?_) | (show DL _ _ _ _ _ _ _; refine' Bx Y Y (fun K kk => ?_) ?_; try (show Go.Ts.T; rotate_left))); (first
      | (show AOp _ _ ⟨_, .move _, _, _, _, _⟩ _ _ _; refine Al hG Y Y ?_)
      | (show AOp _ _ ⟨_, .assign _, _, _, _, _⟩ _ _ _; refine A9 hG Y Y ?_)
      | (show AOp _ _ ⟨_, .call ⟨.builtin .len, _, _⟩, _, _, _, _⟩ _ _ _; first | refine Az hG Y Y Y Y ?_ | refine Bd hG Y Y Y Y Y ?_)
      | (show AOp _ _ ⟨_, .binOp .add _ _ _ _, _, _, _, _⟩ _ _ _; first | refine Am hG Y Y Y Y Y (by omega) ?_)
      | (show AOp _ _ ⟨_, .binOp .sub _ _ _ _, _, _, _, _⟩ _ _ _; first | refine Am hG Y Y Y Y Y (by omega) ?_)
      | (show AOp _ _ ⟨_, .binOp _ _ _ _ _, _, _, _, _⟩ _ _ _; first | refine Ap hG Y Y Y Y Y (by omega) ?_ | refine Aq hG Y Y Y Y Y (by omega) ?_ | ((fail_if_success have := kk); refine Av hG Y Y Y Y Y (fun h => ?_) (fun h => ?_)))
      | (show AOp _ _ ⟨_, .load _ _, _, _, _, _⟩ _ _ _; first | refine Bf hG Y Y Y ?_ | refine Ax 0 hG Y Y Y Y ?_ | refine Ax 1 hG Y Y Y Y ?_ | refine Ax 2 hG Y Y Y Y ?_)
      | (show AOp _ _ ⟨_, .indexAddr _ _ _, _, _, _, _⟩ _ _ _; first | refine Bg hG Y Y Y Y Y Y Y (by omega) ?_ | refine Bh hG Y Y Y Y Y Y Y (by omega) ?_ | refine Bt hG Y Y ?_)
      | (show AOp _ _ ⟨_, .pick _ _ _, _, _, _, _⟩ _ _ _; refine Bl hG Y Y Y ?_)
      | (show AOp _ _ ⟨_, .unOp _ _ _, _, _, _, _⟩ _ _ _; refine B2 hG Y Y Y ?_)
      | (show AOp _ _ ⟨_, .box _ _, _, _, _, _⟩ _ _ _; refine B1 hG Y Y Y (fun i => ?_))
      | (show AOp _ _ ⟨_, .alloc _, _, _, _, _⟩ _ _ _; refine Bv hG Y Y (fun i => ?_))
      | (show AOp _ _ ⟨_, .store _ _ _, _, _, _, _⟩ _ _ _; first | refine Bb 0 hG Y Y Y Y Y Y Y ?_ | refine Bb 1 hG Y Y Y Y Y Y Y ?_ | refine Bb 2 hG Y Y Y Y Y Y Y ?_)
      | (show AOp _ _ ⟨_, .call ⟨.value _, _, _⟩, _, _, _, _⟩ _ _ _; first | refine Bc Y Y Y Y Y (by apply hL <;> (first | assumption | omega | exact Ab _ _ | exact Af _ | exact Ag _ _ | exact Ay _ | rfl | (simp; omega))) ?_ | fail)
      | refine r_q hG Y Y Y ?_); try exact kk)
    | (show AL _ _ _ _ _ _ _ _; first | refine Bj Y Y Y ?_ | (refine As ?_; first | show AW _ _ _ _ _ _ | show ∃ x', _ < _ ∧ _)) | (show AW _ _ (.seq _ _) _ _ _; refine Ah ?_; intro Q1) | (show AW _ _ (.region _ _ false) _ _ _; refine Ad ?_; intro O1) | (show AW _ _ (.cond _ _ _) _ _ _; first | refine Aj Y ?_ | refine Ai Y ?_) | (show AW _ _ (.skip) _ _ _; refine Ak ?_; first | show AW _ _ _ _ _ _ | show ∃ x', _ < _ ∧ _) | (show AW _ _ (.block _ _) _ _ _; refine A7 ?_; intro Q1) | (show AW _ _ (.exit _) _ _ _; refine Bi ?_; first | show AW _ _ _ _ _ _ | show ∃ x', _ < _ ∧ _) | (show AW _ _ (.ret) _ _ _; refine Ar ?_; try dsimp only [Aw, Aa, Au, Ac])
    | (show DL _ _ _ _ _ _ _; refine dl_d Y Y (fun K kt kf => Av hG Y Y Y Y Y kt kf) (fun h => ?_) (fun h => ?_))
    | (show DL _ _ _ _ _ _ _; refine dl_s Y Y Y ?_) | (show DL _ _ _ _ _ _ _; refine B3 ?_; first | show AW _ _ _ _ _ _ | show ∃ x', _ < _ ∧ _) | (show AW _ _ (.region _ _ true) _ _ _; refine Bq mix (by kernel_rfl) ?_; intro O1) | fail)
              exact Ba (Ao rfl A8) (.eq (by rw [hf]; rfl)) rfl
      · rw [decide_eq_false c1] at hL hok
        have hf := mayLab_no hjl (by rw [hok]; rfl)
        repeat' (first
    | ((first | (show AL _ _ _ _ _ _ _ _; refine Ae Y ?_) | (show DL _ _ _ _ _ _ _; refine' Bx Y Y (fun K kk => ?_) ?_; try (show Go.Ts.T; rotate_left))); (first
      | (show AOp _ _ ⟨_, .move _, _, _, _, _⟩ _ _ _; refine Al hG Y Y ?_)
      | (show AOp _ _ ⟨_, .assign _, _, _, _, _⟩ _ _ _; refine A9 hG Y Y ?_)
      | (show AOp _ _ ⟨_, .call ⟨.builtin .len, _, _⟩, _, _, _, _⟩ _ _ _; first | refine Az hG Y Y Y Y ?_ | refine Bd hG Y Y Y Y Y ?_)
      | (show AOp _ _ ⟨_, .binOp .add _ _ _ _, _, _, _, _⟩ _ _ _; first | refine Am hG Y Y Y Y Y (by omega) ?_)
      | (show AOp _ _ ⟨_, .binOp .sub _ _ _ _, _, _, _, _⟩ _ _ _; first | refine Am hG Y Y Y Y Y (by omega) ?_)
      | (show AOp _ _ ⟨_, .binOp _ _ _ _ _, _, _, _, _⟩ _ _ _; first | refine Ap hG Y Y Y Y Y (by omega) ?_ | refine Aq hG Y Y Y Y Y (by omega) ?_ | ((fail_if_success have := kk); refine Av hG Y Y Y Y Y (fun h => ?_) (fun h => ?_)))
      | (show AOp _ _ ⟨_, .load _ _, _, _, _, _⟩ _ _ _; first | refine Bf hG Y Y Y ?_ | refine Ax 0 hG Y Y Y Y ?_ | refine Ax 1 hG Y Y Y Y ?_ | refine Ax 2 hG Y Y Y Y ?_)
      | (show AOp _ _ ⟨_, .indexAddr _ _ _, _, _, _, _⟩ _ _ _; first | refine Bg hG Y Y Y Y Y Y Y (by omega) ?_ | refine Bh hG Y Y Y Y Y Y Y (by omega) ?_ | refine Bt hG Y Y ?_)
      | (show AOp _ _ ⟨_, .pick _ _ _, _, _, _, _⟩ _ _ _; refine Bl hG Y Y Y ?_)
      | (show AOp _ _ ⟨_, .unOp _ _ _, _, _, _, _⟩ _ _ _; refine B2 hG Y Y Y ?_)
      | (show AOp _ _ ⟨_, .box _ _, _, _, _, _⟩ _ _ _; refine B1 hG Y Y Y (fun i => ?_))
      | (show AOp _ _ ⟨_, .alloc _, _, _, _, _⟩ _ _ _; refine Bv hG Y Y (fun i => ?_))
      | (show AOp _ _ ⟨_, .store _ _ _, _, _, _, _⟩ _ _ _; first | refine Bb 0 hG Y Y Y Y Y Y Y ?_ | refine Bb 1 hG Y Y Y Y Y Y Y ?_ | refine Bb 2 hG Y Y Y Y Y Y Y ?_)
      | (show AOp _ _ ⟨_, .call ⟨.value _, _, _⟩, _, _, _, _⟩ _ _ _; first | refine Bc Y Y Y Y Y (by apply hL <;> (first | assumption | omega | exact Ab _ _ | exact Af _ | exact Ag _ _ | exact Ay _ | rfl | (simp; omega))) ?_ | fail)
      | refine r_q hG Y Y Y ?_); try exact kk)
    | (show AL _ _ _ _ _ _ _ _; first | refine Bj Y Y Y ?_ | (refine As ?_; first | show AW _ _ _ _ _ _ | show ∃ x', _ < _ ∧ _)) | (show AW _ _ (.seq _ _) _ _ _; refine Ah ?_; intro Q1) | (show AW _ _ (.region _ _ false) _ _ _; refine Ad ?_; intro O1) | (show AW _ _ (.cond _ _ _) _ _ _; first | refine Aj Y ?_ | refine Ai Y ?_) | (show AW _ _ (.skip) _ _ _; refine Ak ?_; first | show AW _ _ _ _ _ _ | show ∃ x', _ < _ ∧ _) | (show AW _ _ (.block _ _) _ _ _; refine A7 ?_; intro Q1) | (show AW _ _ (.exit _) _ _ _; refine Bi ?_; first | show AW _ _ _ _ _ _ | show ∃ x', _ < _ ∧ _) | (show AW _ _ (.ret) _ _ _; refine Ar ?_; try dsimp only [Aw, Aa, Au, Ac])
    | (show DL _ _ _ _ _ _ _; refine dl_d Y Y (fun K kt kf => Av hG Y Y Y Y Y kt kf) (fun h => ?_) (fun h => ?_))
    | (show DL _ _ _ _ _ _ _; refine dl_s Y Y Y ?_) | (show DL _ _ _ _ _ _ _; refine B3 ?_; first | show AW _ _ _ _ _ _ | show ∃ x', _ < _ ∧ _) | (show AW _ _ (.region _ _ true) _ _ _; refine Bq mix (by kernel_rfl) ?_; intro O1) | fail)
        exact Ba (Ao rfl A8) (.eq (by rw [hf]; rfl)) rfl
    · obtain rfl : j = l.length := by omega
      repeat' (first
    | ((first | (show AL _ _ _ _ _ _ _ _; refine Ae Y ?_) | (show DL _ _ _ _ _ _ _; refine' Bx Y Y (fun K kk => ?_) ?_; try (show Go.Ts.T; rotate_left))); (first
      | (show AOp _ _ ⟨_, .move _, _, _, _, _⟩ _ _ _; refine Al hG Y Y ?_)
      | (show AOp _ _ ⟨_, .assign _, _, _, _, _⟩ _ _ _; refine A9 hG Y Y ?_)
      | (show AOp _ _ ⟨_, .call ⟨.builtin .len, _, _⟩, _, _, _, _⟩ _ _ _; first | refine Az hG Y Y Y Y ?_ | refine Bd hG Y Y Y Y Y ?_)
      | (show AOp _ _ ⟨_, .binOp .add _ _ _ _, _, _, _, _⟩ _ _ _; first | refine Am hG Y Y Y Y Y (by omega) ?_)
      | (show AOp _ _ ⟨_, .binOp .sub _ _ _ _, _, _, _, _⟩ _ _ _; first | refine Am hG Y Y Y Y Y (by omega) ?_)
      | (show AOp _ _ ⟨_, .binOp _ _ _ _ _, _, _, _, _⟩ _ _ _; first | refine Ap hG Y Y Y Y Y (by omega) ?_ | refine Aq hG Y Y Y Y Y (by omega) ?_ | ((fail_if_success have := kk); refine Av hG Y Y Y Y Y (fun h => ?_) (fun h => ?_)))
      | (show AOp _ _ ⟨_, .load _ _, _, _, _, _⟩ _ _ _; first | refine Bf hG Y Y Y ?_ | refine Ax 0 hG Y Y Y Y ?_ | refine Ax 1 hG Y Y Y Y ?_ | refine Ax 2 hG Y Y Y Y ?_)
      | (show AOp _ _ ⟨_, .indexAddr _ _ _, _, _, _, _⟩ _ _ _; first | refine Bg hG Y Y Y Y Y Y Y (by omega) ?_ | refine Bh hG Y Y Y Y Y Y Y (by omega) ?_ | refine Bt hG Y Y ?_)
      | (show AOp _ _ ⟨_, .pick _ _ _, _, _, _, _⟩ _ _ _; refine Bl hG Y Y Y ?_)
      | (show AOp _ _ ⟨_, .unOp _ _ _, _, _, _, _⟩ _ _ _; refine B2 hG Y Y Y ?_)
      | (show AOp _ _ ⟨_, .box _ _, _, _, _, _⟩ _ _ _; refine B1 hG Y Y Y (fun i => ?_))
      | (show AOp _ _ ⟨_, .alloc _, _, _, _, _⟩ _ _ _; refine Bv hG Y Y (fun i => ?_))
      | (show AOp _ _ ⟨_, .store _ _ _, _, _, _, _⟩ _ _ _; first | refine Bb 0 hG Y Y Y Y Y Y Y ?_ | refine Bb 1 hG Y Y Y Y Y Y Y ?_ | refine Bb 2 hG Y Y Y Y Y Y Y ?_)
      | refine r_q hG Y Y Y ?_); try exact kk)
    | (show AL _ _ _ _ _ _ _ _; first | refine Bj Y Y Y ?_ | (refine As ?_; first | show AW _ _ _ _ _ _ | show ∃ x', _ < _ ∧ _)) | (show AW _ _ (.seq _ _) _ _ _; refine Ah ?_; intro Q1) | (show AW _ _ (.region _ _ false) _ _ _; refine Ad ?_; intro O1) | (show AW _ _ (.cond _ _ _) _ _ _; first | refine Aj Y ?_ | refine Ai Y ?_) | (show AW _ _ (.skip) _ _ _; refine Ak ?_; first | show AW _ _ _ _ _ _ | show ∃ x', _ < _ ∧ _) | (show AW _ _ (.block _ _) _ _ _; refine A7 ?_; intro Q1) | (show AW _ _ (.exit _) _ _ _; refine Bi ?_; first | show AW _ _ _ _ _ _ | show ∃ x', _ < _ ∧ _) | (show AW _ _ (.ret) _ _ _; refine Ar ?_; try dsimp only [Aw, Aa, Au, Ac])
    | (show DL _ _ _ _ _ _ _; refine dl_d Y Y (fun K kt kf => Av hG Y Y Y Y Y kt kf) (fun h => ?_) (fun h => ?_))
    | (show DL _ _ _ _ _ _ _; refine dl_s Y Y Y ?_) | (show DL _ _ _ _ _ _ _; refine B3 ?_; first | show AW _ _ _ _ _ _ | show ∃ x', _ < _ ∧ _) | (show AW _ _ (.region _ _ true) _ _ _; refine Bq mix (by kernel_rfl) ?_; intro O1) | fail)
      exact Ba (Ao rfl A8) (.eq (by rw [mayLab_yes h0.1 h0.2 hn]; rfl)) rfl
  · have hf : mayLab df l = false := by
      unfold mayLab
      by_cases g : 1 ≤ df.toNat ∧ df.toNat ≤ 4
      · rw [decide_eq_false (fun h => h0 ⟨g, h⟩)]; simp
      · rw [decide_eq_false g]; simp
    rw [hf]
    repeat' (first
    | ((first | (show AL _ _ _ _ _ _ _ _; refine Ae Y ?_) | (show DL _ _ _ _ _ _ _; refine' Bx Y Y (fun K kk => ?_) ?_; try (show Go.Ts.T; rotate_left))); (first
      | (show AOp _ _ ⟨_, .move _, _, _, _, _⟩ _ _ _; refine Al hG Y Y ?_)
      | (show AOp _ _ ⟨_, .assign _, _, _, _, _⟩ _ _ _; refine A9 hG Y Y ?_)
      | (show AOp _ _ ⟨_, .call ⟨.builtin .len, _, _⟩, _, _, _, _⟩ _ _ _; first | refine Az hG Y Y Y Y ?_ | refine Bd hG Y Y Y Y Y ?_)
      | (show AOp _ _ ⟨_, .binOp .add _ _ _ _, _, _, _, _⟩ _ _ _; first | refine Am hG Y Y Y Y Y (by omega) ?_)
      | (show AOp _ _ ⟨_, .binOp .sub _ _ _ _, _, _, _, _⟩ _ _ _; first | refine Am hG Y Y Y Y Y (by omega) ?_)
      | (show AOp _ _ ⟨_, .binOp _ _ _ _ _, _, _, _, _⟩ _ _ _; first | refine Ap hG Y Y Y Y Y (by omega) ?_ | refine Aq hG Y Y Y Y Y (by omega) ?_ | ((fail_if_success have := kk); refine Av hG Y Y Y Y Y (fun h => ?_) (fun h => ?_)))
      | (show AOp _ _ ⟨_, .load _ _, _, _, _, _⟩ _ _ _; first | refine Bf hG Y Y Y ?_ | refine Ax 0 hG Y Y Y Y ?_ | refine Ax 1 hG Y Y Y Y ?_ | refine Ax 2 hG Y Y Y Y ?_)
      | (show AOp _ _ ⟨_, .indexAddr _ _ _, _, _, _, _⟩ _ _ _; first | refine Bg hG Y Y Y Y Y Y Y (by omega) ?_ | refine Bh hG Y Y Y Y Y Y Y (by omega) ?_ | refine Bt hG Y Y ?_)
      | (show AOp _ _ ⟨_, .pick _ _ _, _, _, _, _⟩ _ _ _; refine Bl hG Y Y Y ?_)
      | (show AOp _ _ ⟨_, .unOp _ _ _, _, _, _, _⟩ _ _ _; refine B2 hG Y Y Y ?_)
      | (show AOp _ _ ⟨_, .box _ _, _, _, _, _⟩ _ _ _; refine B1 hG Y Y Y (fun i => ?_))
      | (show AOp _ _ ⟨_, .alloc _, _, _, _, _⟩ _ _ _; refine Bv hG Y Y (fun i => ?_))
      | (show AOp _ _ ⟨_, .store _ _ _, _, _, _, _⟩ _ _ _; first | refine Bb 0 hG Y Y Y Y Y Y Y ?_ | refine Bb 1 hG Y Y Y Y Y Y Y ?_ | refine Bb 2 hG Y Y Y Y Y Y Y ?_)
      | refine r_q hG Y Y Y ?_); try exact kk)
    | (show AL _ _ _ _ _ _ _ _; first | refine Bj Y Y Y ?_ | (refine As ?_; first | show AW _ _ _ _ _ _ | show ∃ x', _ < _ ∧ _)) | (show AW _ _ (.seq _ _) _ _ _; refine Ah ?_; intro Q1) | (show AW _ _ (.region _ _ false) _ _ _; refine Ad ?_; intro O1) | (show AW _ _ (.cond _ _ _) _ _ _; first | refine Aj Y ?_ | refine Ai Y ?_) | (show AW _ _ (.skip) _ _ _; refine Ak ?_; first | show AW _ _ _ _ _ _ | show ∃ x', _ < _ ∧ _) | (show AW _ _ (.block _ _) _ _ _; refine A7 ?_; intro Q1) | (show AW _ _ (.exit _) _ _ _; refine Bi ?_; first | show AW _ _ _ _ _ _ | show ∃ x', _ < _ ∧ _) | (show AW _ _ (.ret) _ _ _; refine Ar ?_; try dsimp only [Aw, Aa, Au, Ac])
    | (show DL _ _ _ _ _ _ _; refine dl_d Y Y (fun K kt kf => Av hG Y Y Y Y Y kt kf) (fun h => ?_) (fun h => ?_))
    | (show DL _ _ _ _ _ _ _; refine dl_s Y Y Y ?_) | (show DL _ _ _ _ _ _ _; refine B3 ?_; first | show AW _ _ _ _ _ _ | show ∃ x', _ < _ ∧ _) | (show AW _ _ (.region _ _ true) _ _ _; refine Bq mix (by kernel_rfl) ?_; intro O1) | fail)
    all_goals exact Ba (Ao rfl A8) (.refl _) rfl
def starsL (l : List PR) : List UInt16 := (l.filter fun p => decide (p.2.toNat = 0)).map (·.1)
theorem starsL_len (l : List PR) : (starsL l).length = 0 ↔ noStar l = true := by
  unfold starsL noStar
  rw [List.length_map, List.length_eq_zero_iff, List.filter_eq_nil_iff, List.all_eq_true]
  simp
theorem starsL_le (l : List PR) : (starsL l).length ≤ l.length := by unfold starsL; rw [List.length_map]; exact List.length_filter_le _ _
theorem starsL_snoc (l : List PR) (p : PR) : starsL (l ++ [p]) = if p.2.toNat = 0 then starsL l ++ [p.1] else starsL l := by
  unfold starsL
  rw [List.filter_append, List.map_append]
  by_cases h : p.2.toNat = 0
  · rw [if_pos h]; simp [h]
  · rw [if_neg h]; simp [h]
structure StX (l : List PR) where
  i : Nat
  p : Nat
  k : Nat
  hi : i ≤ l.length
theorem label_Stars {df : UInt8} {l : List PR} (hl : l.length ≤ 140737488351232) (hl2 : l.length ≤ 4294967296) : Ts.Pure Try.prog 66 [.agg [bT df, .sl 2 .no (l.map pT)]] (.sl 1 .no ((starsL l).map hT)) := by
  intro off
  refine Bp (N := 23) (rs := [.tmp 2]) hG Try.func66 rfl rfl rfl rfl rfl ?_
  repeat' (first
    | ((show AL _ _ _ _ _ _ _ _; refine Ae Y ?_); (first
      | (show AOp _ _ ⟨_, .move _, _, _, _, _⟩ _ _ _; refine Al hG Y Y ?_)
      | (show AOp _ _ ⟨_, .assign _, _, _, _, _⟩ _ _ _; refine A9 hG Y Y ?_)
      | (show AOp _ _ ⟨_, .call ⟨.builtin .len, _, _⟩, _, _, _, _⟩ _ _ _; first | refine Az hG Y Y Y Y ?_ | refine Bd hG Y Y Y Y Y ?_)
      | (show AOp _ _ ⟨_, .binOp .add _ _ _ _, _, _, _, _⟩ _ _ _; first | refine Am hG Y Y Y Y Y (by omega) ?_)
      | (show AOp _ _ ⟨_, .binOp _ _ _ _ _, _, _, _, _⟩ _ _ _; first | refine Ap hG Y Y Y Y Y (by omega) ?_ | refine Aq hG Y Y Y Y Y (by omega) ?_ | (refine Av hG Y Y Y Y Y (fun h => ?_) (fun h => ?_)))
      | (show AOp _ _ ⟨_, .load _ _, _, _, _, _⟩ _ _ _; first | refine Bf hG Y Y Y ?_ | refine Ax 0 hG Y Y Y Y ?_ | refine Ax 1 hG Y Y Y Y ?_ | refine Ax 2 hG Y Y Y Y ?_)
      | (show AOp _ _ ⟨_, .indexAddr _ _ _, _, _, _, _⟩ _ _ _; first | refine Bg hG Y Y Y Y Y Y Y (by omega) ?_ | refine Bh hG Y Y Y Y Y Y Y (by omega) ?_ | refine Bt hG Y Y ?_)
      | (show AOp _ _ ⟨_, .buildSlice _ _ _, _, _, _, _⟩ _ _ _; first | refine r_mk (sz := 1) hG Y Y Y Y Y Y Y ?_)
      | (show AOp _ _ ⟨_, .box _ _, _, _, _, _⟩ _ _ _; refine B1 hG Y Y Y (fun i => ?_))
      | (show AOp _ _ ⟨_, .alloc _, _, _, _, _⟩ _ _ _; refine Bv hG Y Y (fun i => ?_))
      | (show AOp _ _ ⟨_, .store _ _ _, _, _, _, _⟩ _ _ _; first | refine Bb 0 hG Y Y Y Y Y Y Y ?_ | refine Bb 1 hG Y Y Y Y Y Y Y ?_ | refine Bb 2 hG Y Y Y Y Y Y Y ?_)
      | (show AOp _ _ ⟨_, .call ⟨.builtin .append, _, _⟩, _, _, _, _⟩ _ _ _; first | refine Bn (sz := 1) (xs := []) hG Y Y Y Y Y Y Y ⟨_, Y⟩ Y Y Y Y Y Y Y (by first | omega | (simp; omega)) (fun k => ?_) | refine Bw 0 hG Y Y Y Y Y Y Y ⟨_, Y⟩ Y Y Y Y Y (by first | omega | (simp only [List.length_append, List.length_cons, List.length_nil]; omega)) (fun k => ?_) | fail)
      | refine r_q hG Y Y Y ?_))
    | (show AL _ _ _ _ _ _ _ _; first | refine Bj Y Y Y ?_ | (refine As ?_; first | show AW _ _ _ _ _ _ | show ∃ x', _ < _ ∧ _)) | (show AW _ _ (.seq _ _) _ _ _; refine Ah ?_; intro Q1) | (show AW _ _ (.region _ _ false) _ _ _; refine Ad ?_; intro O1) | (show AW _ _ (.cond _ _ _) _ _ _; first | refine Aj Y ?_ | refine Ai Y ?_) | (show AW _ _ (.skip) _ _ _; refine Ak ?_; first | show AW _ _ _ _ _ _ | show ∃ x', _ < _ ∧ _) | (show AW _ _ (.block _ _) _ _ _; refine A7 ?_; intro Q1) | (show AW _ _ (.exit _) _ _ _; refine Bi ?_; first | show AW _ _ _ _ _ _ | show ∃ x', _ < _ ∧ _) | (show AW _ _ (.ret) _ _ _; refine Ar ?_; try dsimp only [Aw, Aa, Au, Ac]) | fail)
  refine aw_tok0 3 1 rfl rfl rfl rfl (fun k => ?_)
  refine aw_loop (X := StX l) (fun x => [(7, .sl 2 .no (l.map pT)), (8, .int .i64 l.length), (9, .int .i64 x.i), (3, .sl 1 (.tok x.k) ((starsL (l.take x.i)).map hT))]) (fun x => ⟨[(x.p, .cells [bT df, .sl 2 .no (l.map pT)])], [x.k], off, none⟩) (fun x => l.length - x.i) ⟨0, i, k, Nat.zero_le _⟩ ?_ (.refl _) ?_
  · exact .cons rfl (.cons rfl (.consW rfl (.int rfl) (.consW rfl (.eq (by simp [starsL])) (.nil _))))
  rintro ⟨j, p, k, hj⟩
  dsimp only
  have hsl := starsL_le (l.take j)
  rw [List.length_take] at hsl
  by_cases hjl : j < l.length
  · have hs := starsL_snoc (l.take j) (l.getD j default)
    rw [← take_getD l j hjl] at hs
    by_cases c : (l.getD j default).2.toNat = 0
    · rw [if_pos c] at hs
      repeat' (first
    | ((show AL _ _ _ _ _ _ _ _; refine Ae Y ?_); (first
      | (show AOp _ _ ⟨_, .move _, _, _, _, _⟩ _ _ _; refine Al hG Y Y ?_)
      | (show AOp _ _ ⟨_, .assign _, _, _, _, _⟩ _ _ _; refine A9 hG Y Y ?_)
      | (show AOp _ _ ⟨_, .call ⟨.builtin .len, _, _⟩, _, _, _, _⟩ _ _ _; first | refine Az hG Y Y Y Y ?_ | refine Bd hG Y Y Y Y Y ?_)
      | (show AOp _ _ ⟨_, .binOp .add _ _ _ _, _, _, _, _⟩ _ _ _; first | refine Am hG Y Y Y Y Y (by omega) ?_)
      | (show AOp _ _ ⟨_, .binOp _ _ _ _ _, _, _, _, _⟩ _ _ _; first | refine Ap hG Y Y Y Y Y (by omega) ?_ | refine Aq hG Y Y Y Y Y (by omega) ?_ | (refine Av hG Y Y Y Y Y (fun h => ?_) (fun h => ?_)))
      | (show AOp _ _ ⟨_, .load _ _, _, _, _, _⟩ _ _ _; first | refine Bf hG Y Y Y ?_ | refine Ax 0 hG Y Y Y Y ?_ | refine Ax 1 hG Y Y Y Y ?_ | refine Ax 2 hG Y Y Y Y ?_)
      | (show AOp _ _ ⟨_, .indexAddr _ _ _, _, _, _, _⟩ _ _ _; first | refine Bg hG Y Y Y Y Y Y Y (by omega) ?_ | refine Bh hG Y Y Y Y Y Y Y (by omega) ?_ | refine Bt hG Y Y ?_)
      | (show AOp _ _ ⟨_, .buildSlice _ _ _, _, _, _, _⟩ _ _ _; first | refine r_mk (sz := 1) hG Y Y Y Y Y Y Y ?_)
      | (show AOp _ _ ⟨_, .box _ _, _, _, _, _⟩ _ _ _; refine B1 hG Y Y Y (fun i => ?_))
      | (show AOp _ _ ⟨_, .alloc _, _, _, _, _⟩ _ _ _; refine Bv hG Y Y (fun i => ?_))
      | (show AOp _ _ ⟨_, .store _ _ _, _, _, _, _⟩ _ _ _; first | refine Bb 0 hG Y Y Y Y Y Y Y ?_ | refine Bb 1 hG Y Y Y Y Y Y Y ?_ | refine Bb 2 hG Y Y Y Y Y Y Y ?_)
      | (show AOp _ _ ⟨_, .call ⟨.builtin .append, _, _⟩, _, _, _, _⟩ _ _ _; first | refine Bw 0 (ys := [(l.getD j default).1]) hG Y Y Y Y Y Y Y ⟨_, Y⟩ Y Y Y Y Y (by simp only [List.length_append, List.length_map, List.length_cons, List.length_nil]; omega) (fun k => ?_) | refine Bn (sz := 1) (xs := []) hG Y Y Y Y Y Y Y ⟨_, Y⟩ Y Y Y Y Y Y Y (by first | omega | (simp; omega)) (fun k => ?_) | refine Bw 0 hG Y Y Y Y Y Y Y ⟨_, Y⟩ Y Y Y Y Y (by first | omega | (simp only [List.length_append, List.length_cons, List.length_nil]; omega)) (fun k => ?_) | fail)
      | refine r_q hG Y Y Y ?_))
    | (show AL _ _ _ _ _ _ _ _; first | refine Bj Y Y Y ?_ | (refine As ?_; first | show AW _ _ _ _ _ _ | show ∃ x', _ < _ ∧ _)) | (show AW _ _ (.seq _ _) _ _ _; refine Ah ?_; intro Q1) | (show AW _ _ (.region _ _ false) _ _ _; refine Ad ?_; intro O1) | (show AW _ _ (.cond _ _ _) _ _ _; first | refine Aj Y ?_ | refine Ai Y ?_) | (show AW _ _ (.skip) _ _ _; refine Ak ?_; first | show AW _ _ _ _ _ _ | show ∃ x', _ < _ ∧ _) | (show AW _ _ (.block _ _) _ _ _; refine A7 ?_; intro Q1) | (show AW _ _ (.exit _) _ _ _; refine Bi ?_; first | show AW _ _ _ _ _ _ | show ∃ x', _ < _ ∧ _) | (show AW _ _ (.ret) _ _ _; refine Ar ?_; try dsimp only [Aw, Aa, Au, Ac]) | fail)
      refine ⟨⟨j + 1, p, _, by omega⟩, by dsimp only; omega, ?_, drop_1⟩
      exact .cons rfl (.cons rfl (.consW rfl (.int (by simp)) (.consW rfl (.eq (by rw [hs])) (.nil _))))
    · rw [if_neg c] at hs
      repeat' (first
    | ((show AL _ _ _ _ _ _ _ _; refine Ae Y ?_); (first
      | (show AOp _ _ ⟨_, .move _, _, _, _, _⟩ _ _ _; refine Al hG Y Y ?_)
      | (show AOp _ _ ⟨_, .assign _, _, _, _, _⟩ _ _ _; refine A9 hG Y Y ?_)
      | (show AOp _ _ ⟨_, .call ⟨.builtin .len, _, _⟩, _, _, _, _⟩ _ _ _; first | refine Az hG Y Y Y Y ?_ | refine Bd hG Y Y Y Y Y ?_)
      | (show AOp _ _ ⟨_, .binOp .add _ _ _ _, _, _, _, _⟩ _ _ _; first | refine Am hG Y Y Y Y Y (by omega) ?_)
      | (show AOp _ _ ⟨_, .binOp _ _ _ _ _, _, _, _, _⟩ _ _ _; first | refine Ap hG Y Y Y Y Y (by omega) ?_ | refine Aq hG Y Y Y Y Y (by omega) ?_ | (refine Av hG Y Y Y Y Y (fun h => ?_) (fun h => ?_)))
      | (show AOp _ _ ⟨_, .load _ _, _, _, _, _⟩ _ _ _; first | refine Bf hG Y Y Y ?_ | refine Ax 0 hG Y Y Y Y ?_ | refine Ax 1 hG Y Y Y Y ?_ | refine Ax 2 hG Y Y Y Y ?_)
      | (show AOp _ _ ⟨_, .indexAddr _ _ _, _, _, _, _⟩ _ _ _; first | refine Bg hG Y Y Y Y Y Y Y (by omega) ?_ | refine Bh hG Y Y Y Y Y Y Y (by omega) ?_ | refine Bt hG Y Y ?_)
      | (show AOp _ _ ⟨_, .buildSlice _ _ _, _, _, _, _⟩ _ _ _; first | refine r_mk (sz := 1) hG Y Y Y Y Y Y Y ?_)
      | (show AOp _ _ ⟨_, .box _ _, _, _, _, _⟩ _ _ _; refine B1 hG Y Y Y (fun i => ?_))
      | (show AOp _ _ ⟨_, .alloc _, _, _, _, _⟩ _ _ _; refine Bv hG Y Y (fun i => ?_))
      | (show AOp _ _ ⟨_, .store _ _ _, _, _, _, _⟩ _ _ _; first | refine Bb 0 hG Y Y Y Y Y Y Y ?_ | refine Bb 1 hG Y Y Y Y Y Y Y ?_ | refine Bb 2 hG Y Y Y Y Y Y Y ?_)
      | (show AOp _ _ ⟨_, .call ⟨.builtin .append, _, _⟩, _, _, _, _⟩ _ _ _; first | refine Bn (sz := 1) (xs := []) hG Y Y Y Y Y Y Y ⟨_, Y⟩ Y Y Y Y Y Y Y (by first | omega | (simp; omega)) (fun k => ?_) | refine Bw 0 hG Y Y Y Y Y Y Y ⟨_, Y⟩ Y Y Y Y Y (by first | omega | (simp only [List.length_append, List.length_cons, List.length_nil]; omega)) (fun k => ?_) | fail)
      | refine r_q hG Y Y Y ?_))
    | (show AL _ _ _ _ _ _ _ _; first | refine Bj Y Y Y ?_ | (refine As ?_; first | show AW _ _ _ _ _ _ | show ∃ x', _ < _ ∧ _)) | (show AW _ _ (.seq _ _) _ _ _; refine Ah ?_; intro Q1) | (show AW _ _ (.region _ _ false) _ _ _; refine Ad ?_; intro O1) | (show AW _ _ (.cond _ _ _) _ _ _; first | refine Aj Y ?_ | refine Ai Y ?_) | (show AW _ _ (.skip) _ _ _; refine Ak ?_; first | show AW _ _ _ _ _ _ | show ∃ x', _ < _ ∧ _) | (show AW _ _ (.block _ _) _ _ _; refine A7 ?_; intro Q1) | (show AW _ _ (.exit _) _ _ _; refine Bi ?_; first | show AW _ _ _ _ _ _ | show ∃ x', _ < _ ∧ _) | (show AW _ _ (.ret) _ _ _; refine Ar ?_; try dsimp only [Aw, Aa, Au, Ac]) | fail)
      refine ⟨⟨j + 1, p, _, by omega⟩, by dsimp only; omega, ?_, drop_1⟩
      exact .cons rfl (.cons rfl (.consW rfl (.int (by simp)) (.consW rfl (.eq (by rw [hs])) (.nil _))))
  · obtain rfl : j = l.length := by omega
    repeat' (first
    | ((show AL _ _ _ _ _ _ _ _; refine Ae Y ?_); (first
      | (show AOp _ _ ⟨_, .move _, _, _, _, _⟩ _ _ _; refine Al hG Y Y ?_)
      | (show AOp _ _ ⟨_, .assign _, _, _, _, _⟩ _ _ _; refine A9 hG Y Y ?_)
      | (show AOp _ _ ⟨_, .call ⟨.builtin .len, _, _⟩, _, _, _, _⟩ _ _ _; first | refine Az hG Y Y Y Y ?_ | refine Bd hG Y Y Y Y Y ?_)
      | (show AOp _ _ ⟨_, .binOp .add _ _ _ _, _, _, _, _⟩ _ _ _; first | refine Am hG Y Y Y Y Y (by omega) ?_)
      | (show AOp _ _ ⟨_, .binOp _ _ _ _ _, _, _, _, _⟩ _ _ _; first | refine Ap hG Y Y Y Y Y (by omega) ?_ | refine Aq hG Y Y Y Y Y (by omega) ?_ | (refine Av hG Y Y Y Y Y (fun h => ?_) (fun h => ?_)))
      | (show AOp _ _ ⟨_, .load _ _, _, _, _, _⟩ _ _ _; first | refine Bf hG Y Y Y ?_ | refine Ax 0 hG Y Y Y Y ?_ | refine Ax 1 hG Y Y Y Y ?_ | refine Ax 2 hG Y Y Y Y ?_)
      | (show AOp _ _ ⟨_, .indexAddr _ _ _, _, _, _, _⟩ _ _ _; first | refine Bg hG Y Y Y Y Y Y Y (by omega) ?_ | refine Bh hG Y Y Y Y Y Y Y (by omega) ?_ | refine Bt hG Y Y ?_)
      | (show AOp _ _ ⟨_, .buildSlice _ _ _, _, _, _, _⟩ _ _ _; first | refine r_mk (sz := 1) hG Y Y Y Y Y Y Y ?_)
      | (show AOp _ _ ⟨_, .box _ _, _, _, _, _⟩ _ _ _; refine B1 hG Y Y Y (fun i => ?_))
      | (show AOp _ _ ⟨_, .alloc _, _, _, _, _⟩ _ _ _; refine Bv hG Y Y (fun i => ?_))
      | (show AOp _ _ ⟨_, .store _ _ _, _, _, _, _⟩ _ _ _; first | refine Bb 0 hG Y Y Y Y Y Y Y ?_ | refine Bb 1 hG Y Y Y Y Y Y Y ?_ | refine Bb 2 hG Y Y Y Y Y Y Y ?_)
      | (show AOp _ _ ⟨_, .call ⟨.builtin .append, _, _⟩, _, _, _, _⟩ _ _ _; first | refine Bn (sz := 1) (xs := []) hG Y Y Y Y Y Y Y ⟨_, Y⟩ Y Y Y Y Y Y Y (by first | omega | (simp; omega)) (fun k => ?_) | refine Bw 0 hG Y Y Y Y Y Y Y ⟨_, Y⟩ Y Y Y Y Y (by first | omega | (simp only [List.length_append, List.length_cons, List.length_nil]; omega)) (fun k => ?_) | fail)
      | refine r_q hG Y Y Y ?_))
    | (show AL _ _ _ _ _ _ _ _; first | refine Bj Y Y Y ?_ | (refine As ?_; first | show AW _ _ _ _ _ _ | show ∃ x', _ < _ ∧ _)) | (show AW _ _ (.seq _ _) _ _ _; refine Ah ?_; intro Q1) | (show AW _ _ (.region _ _ false) _ _ _; refine Ad ?_; intro O1) | (show AW _ _ (.cond _ _ _) _ _ _; first | refine Aj Y ?_ | refine Ai Y ?_) | (show AW _ _ (.skip) _ _ _; refine Ak ?_; first | show AW _ _ _ _ _ _ | show ∃ x', _ < _ ∧ _) | (show AW _ _ (.block _ _) _ _ _; refine A7 ?_; intro Q1) | (show AW _ _ (.exit _) _ _ _; refine Bi ?_; first | show AW _ _ _ _ _ _ | show ∃ x', _ < _ ∧ _) | (show AW _ _ (.ret) _ _ _; refine Ar ?_; try dsimp only [Aw, Aa, Au, Ac]) | fail)
    exact Ba (Ao rfl A8) (by rw [List.take_length]; exact Wk.own _ _ _) rfl
theorem ref_Levels0 {df : UInt8} {l : List PR} (hl : l.length ≤ 140737488351232) (hl2 : l.length ≤ 4294967296) : Ts.Pure Try.prog 35 [.agg [bT df, .sl 2 .no (l.map pT)], .int .u8 0] (.sl 1 .no ((starsL l).map hT)) := by
  intro off
  refine Bp (N := 32) (rs := [.tmp 4]) hG Try.func35 rfl rfl rfl rfl rfl ?_
  repeat' (first
    | ((show AL _ _ _ _ _ _ _ _; refine Ae Y ?_); (first
      | (show AOp _ _ ⟨_, .move _, _, _, _, _⟩ _ _ _; refine Al hG Y Y ?_)
      | (show AOp _ _ ⟨_, .assign _, _, _, _, _⟩ _ _ _; refine A9 hG Y Y ?_)
      | (show AOp _ _ ⟨_, .call ⟨.builtin .len, _, _⟩, _, _, _, _⟩ _ _ _; first | refine Az hG Y Y Y Y ?_ | refine Bd hG Y Y Y Y Y ?_)
      | (show AOp _ _ ⟨_, .binOp .add _ _ _ _, _, _, _, _⟩ _ _ _; first | refine Am hG Y Y Y Y Y (by omega) ?_)
      | (show AOp _ _ ⟨_, .binOp _ _ _ _ _, _, _, _, _⟩ _ _ _; first | refine Ap hG Y Y Y Y Y (by omega) ?_ | refine Aq hG Y Y Y Y Y (by omega) ?_ | (refine Av hG Y Y Y Y Y (fun h => ?_) (fun h => ?_)))
      | (show AOp _ _ ⟨_, .load _ _, _, _, _, _⟩ _ _ _; first | refine Bf hG Y Y Y ?_ | refine Ax 0 hG Y Y Y Y ?_ | refine Ax 1 hG Y Y Y Y ?_)
      | (show AOp _ _ ⟨_, .indexAddr _ _ _, _, _, _, _⟩ _ _ _; first | refine Bg hG Y Y Y Y Y Y Y (by omega) ?_ | refine Bh hG Y Y Y Y Y Y Y (by omega) ?_ | refine Bt hG Y Y ?_)
      | (show AOp _ _ ⟨_, .buildSlice _ _ _, _, _, _, _⟩ _ _ _; first | refine r_mk (sz := 1) hG Y Y Y Y Y Y Y ?_)
      | (show AOp _ _ ⟨_, .box _ _, _, _, _, _⟩ _ _ _; refine B1 hG Y Y Y (fun i => ?_))
      | (show AOp _ _ ⟨_, .call ⟨.builtin .append, _, _⟩, _, _, _, _⟩ _ _ _; first | refine Bn (sz := 1) (xs := []) hG Y Y Y Y Y Y Y ⟨_, Y⟩ Y Y Y Y Y Y Y (by first | omega | (simp; omega)) (fun k => ?_) | refine Bw 0 hG Y Y Y Y Y Y Y ⟨_, Y⟩ Y Y Y Y Y (by first | omega | (simp only [List.length_append, List.length_cons, List.length_nil]; omega)) (fun k => ?_) | fail)
      | refine r_q hG Y Y Y ?_))
    | (show AL _ _ _ _ _ _ _ _; first | refine Bj Y Y Y ?_ | (refine As ?_; first | show AW _ _ _ _ _ _ | show ∃ x', _ < _ ∧ _)) | (show AW _ _ (.seq _ _) _ _ _; refine Ah ?_; intro Q1) | (show AW _ _ (.region _ _ false) _ _ _; refine Ad ?_; intro O1) | (show AW _ _ (.cond _ _ _) _ _ _; first | refine Aj Y ?_ | refine Ai Y ?_) | (show AW _ _ (.skip) _ _ _; refine Ak ?_; first | show AW _ _ _ _ _ _ | show ∃ x', _ < _ ∧ _) | (show AW _ _ (.block _ _) _ _ _; refine A7 ?_; intro Q1) | (show AW _ _ (.exit _) _ _ _; refine Bi ?_; first | show AW _ _ _ _ _ _ | show ∃ x', _ < _ ∧ _) | (show AW _ _ (.ret) _ _ _; refine Ar ?_; try dsimp only [Aw, Aa, Au, Ac]) | fail)
  refine aw_tok0 5 1 rfl rfl rfl rfl (fun k => ?_)
  refine aw_loop (X := StX l) (fun x => [(1, .int .u8 0), (2, .ptr x.p 0), (6, .int .i64 x.i), (5, .sl 1 (.tok x.k) ((starsL (l.take x.i)).map hT))]) (fun x => ⟨[(x.p, .cells [bT df, .sl 2 .no (l.map pT)])], [x.k], off, none⟩) (fun x => l.length - x.i) ⟨0, i, k, Nat.zero_le _⟩ ?_ (.refl _) ?_
  · exact .cons rfl (.cons rfl (.consW rfl (.int rfl) (.consW rfl (.eq (by simp [starsL])) (.nil _))))
  rintro ⟨j, p, k, hj⟩
  dsimp only
  have hsl := starsL_le (l.take j)
  rw [List.length_take] at hsl
  by_cases hjl : j < l.length
  · have hs := starsL_snoc (l.take j) (l.getD j default)
    rw [← take_getD l j hjl] at hs
    by_cases c : (l.getD j default).2.toNat = 0
    · rw [if_pos c] at hs
      repeat' (first
    | ((show AL _ _ _ _ _ _ _ _; refine Ae Y ?_); (first
      | (show AOp _ _ ⟨_, .move _, _, _, _, _⟩ _ _ _; refine Al hG Y Y ?_)
      | (show AOp _ _ ⟨_, .assign _, _, _, _, _⟩ _ _ _; refine A9 hG Y Y ?_)
      | (show AOp _ _ ⟨_, .call ⟨.builtin .len, _, _⟩, _, _, _, _⟩ _ _ _; first | refine Az hG Y Y Y Y ?_ | refine Bd hG Y Y Y Y Y ?_)
      | (show AOp _ _ ⟨_, .binOp .add _ _ _ _, _, _, _, _⟩ _ _ _; first | refine Am hG Y Y Y Y Y (by omega) ?_)
      | (show AOp _ _ ⟨_, .binOp _ _ _ _ _, _, _, _, _⟩ _ _ _; first | refine Ap hG Y Y Y Y Y (by omega) ?_ | refine Aq hG Y Y Y Y Y (by omega) ?_ | (refine Av hG Y Y Y Y Y (fun h => ?_) (fun h => ?_)))
      | (show AOp _ _ ⟨_, .load _ _, _, _, _, _⟩ _ _ _; first | refine Bf hG Y Y Y ?_ | refine Ax 0 hG Y Y Y Y ?_ | refine Ax 1 hG Y Y Y Y ?_)
      | (show AOp _ _ ⟨_, .indexAddr _ _ _, _, _, _, _⟩ _ _ _; first | refine Bg hG Y Y Y Y Y Y Y (by omega) ?_ | refine Bh hG Y Y Y Y Y Y Y (by omega) ?_ | refine Bt hG Y Y ?_)
      | (show AOp _ _ ⟨_, .buildSlice _ _ _, _, _, _, _⟩ _ _ _; first | refine r_mk (sz := 1) hG Y Y Y Y Y Y Y ?_)
      | (show AOp _ _ ⟨_, .box _ _, _, _, _, _⟩ _ _ _; refine B1 hG Y Y Y (fun i => ?_))
      | (show AOp _ _ ⟨_, .call ⟨.builtin .append, _, _⟩, _, _, _, _⟩ _ _ _; first | refine Bw 0 (ys := [(l.getD j default).1]) hG Y Y Y Y Y Y Y ⟨_, Y⟩ Y Y Y Y Y (by simp only [List.length_append, List.length_map, List.length_cons, List.length_nil]; omega) (fun k => ?_) | refine Bn (sz := 1) (xs := []) hG Y Y Y Y Y Y Y ⟨_, Y⟩ Y Y Y Y Y Y Y (by first | omega | (simp; omega)) (fun k => ?_) | refine Bw 0 hG Y Y Y Y Y Y Y ⟨_, Y⟩ Y Y Y Y Y (by first | omega | (simp only [List.length_append, List.length_cons, List.length_nil]; omega)) (fun k => ?_) | fail)
      | refine r_q hG Y Y Y ?_))
    | (show AL _ _ _ _ _ _ _ _; first | refine Bj Y Y Y ?_ | (refine As ?_; first | show AW _ _ _ _ _ _ | show ∃ x', _ < _ ∧ _)) | (show AW _ _ (.seq _ _) _ _ _; refine Ah ?_; intro Q1) | (show AW _ _ (.region _ _ false) _ _ _; refine Ad ?_; intro O1) | (show AW _ _ (.cond _ _ _) _ _ _; first | refine Aj Y ?_ | refine Ai Y ?_) | (show AW _ _ (.skip) _ _ _; refine Ak ?_; first | show AW _ _ _ _ _ _ | show ∃ x', _ < _ ∧ _) | (show AW _ _ (.block _ _) _ _ _; refine A7 ?_; intro Q1) | (show AW _ _ (.exit _) _ _ _; refine Bi ?_; first | show AW _ _ _ _ _ _ | show ∃ x', _ < _ ∧ _) | (show AW _ _ (.ret) _ _ _; refine Ar ?_; try dsimp only [Aw, Aa, Au, Ac]) | fail)
      refine ⟨⟨j + 1, p, _, by omega⟩, by dsimp only; omega, ?_, .refl _⟩
      exact .cons rfl (.cons rfl (.consW rfl (.int (by simp)) (.consW rfl (.eq (by rw [hs])) (.nil _))))
    · rw [if_neg c] at hs
      repeat' (first
    | ((show AL _ _ _ _ _ _ _ _; refine Ae Y ?_); (first
      | (show AOp _ _ ⟨_, .move _, _, _, _, _⟩ _ _ _; refine Al hG Y Y ?_)
      | (show AOp _ _ ⟨_, .assign _, _, _, _, _⟩ _ _ _; refine A9 hG Y Y ?_)
      | (show AOp _ _ ⟨_, .call ⟨.builtin .len, _, _⟩, _, _, _, _⟩ _ _ _; first | refine Az hG Y Y Y Y ?_ | refine Bd hG Y Y Y Y Y ?_)
      | (show AOp _ _ ⟨_, .binOp .add _ _ _ _, _, _, _, _⟩ _ _ _; first | refine Am hG Y Y Y Y Y (by omega) ?_)
      | (show AOp _ _ ⟨_, .binOp _ _ _ _ _, _, _, _, _⟩ _ _ _; first | refine Ap hG Y Y Y Y Y (by omega) ?_ | refine Aq hG Y Y Y Y Y (by omega) ?_ | (refine Av hG Y Y Y Y Y (fun h => ?_) (fun h => ?_)))
      | (show AOp _ _ ⟨_, .load _ _, _, _, _, _⟩ _ _ _; first | refine Bf hG Y Y Y ?_ | refine Ax 0 hG Y Y Y Y ?_ | refine Ax 1 hG Y Y Y Y ?_)
      | (show AOp _ _ ⟨_, .indexAddr _ _ _, _, _, _, _⟩ _ _ _; first | refine Bg hG Y Y Y Y Y Y Y (by omega) ?_ | refine Bh hG Y Y Y Y Y Y Y (by omega) ?_ | refine Bt hG Y Y ?_)
      | (show AOp _ _ ⟨_, .buildSlice _ _ _, _, _, _, _⟩ _ _ _; first | refine r_mk (sz := 1) hG Y Y Y Y Y Y Y ?_)
      | (show AOp _ _ ⟨_, .box _ _, _, _, _, _⟩ _ _ _; refine B1 hG Y Y Y (fun i => ?_))
      | (show AOp _ _ ⟨_, .call ⟨.builtin .append, _, _⟩, _, _, _, _⟩ _ _ _; first | refine Bn (sz := 1) (xs := []) hG Y Y Y Y Y Y Y ⟨_, Y⟩ Y Y Y Y Y Y Y (by first | omega | (simp; omega)) (fun k => ?_) | refine Bw 0 hG Y Y Y Y Y Y Y ⟨_, Y⟩ Y Y Y Y Y (by first | omega | (simp only [List.length_append, List.length_cons, List.length_nil]; omega)) (fun k => ?_) | fail)
      | refine r_q hG Y Y Y ?_))
    | (show AL _ _ _ _ _ _ _ _; first | refine Bj Y Y Y ?_ | (refine As ?_; first | show AW _ _ _ _ _ _ | show ∃ x', _ < _ ∧ _)) | (show AW _ _ (.seq _ _) _ _ _; refine Ah ?_; intro Q1) | (show AW _ _ (.region _ _ false) _ _ _; refine Ad ?_; intro O1) | (show AW _ _ (.cond _ _ _) _ _ _; first | refine Aj Y ?_ | refine Ai Y ?_) | (show AW _ _ (.skip) _ _ _; refine Ak ?_; first | show AW _ _ _ _ _ _ | show ∃ x', _ < _ ∧ _) | (show AW _ _ (.block _ _) _ _ _; refine A7 ?_; intro Q1) | (show AW _ _ (.exit _) _ _ _; refine Bi ?_; first | show AW _ _ _ _ _ _ | show ∃ x', _ < _ ∧ _) | (show AW _ _ (.ret) _ _ _; refine Ar ?_; try dsimp only [Aw, Aa, Au, Ac]) | fail)
      refine ⟨⟨j + 1, p, _, by omega⟩, by dsimp only; omega, ?_, .refl _⟩
      exact .cons rfl (.cons rfl (.consW rfl (.int (by simp)) (.consW rfl (.eq (by rw [hs])) (.nil _))))
  · obtain rfl : j = l.length := by omega
    repeat' (first
    | ((show AL _ _ _ _ _ _ _ _; refine Ae Y ?_); (first
      | (show AOp _ _ ⟨_, .move _, _, _, _, _⟩ _ _ _; refine Al hG Y Y ?_)
      | (show AOp _ _ ⟨_, .assign _, _, _, _, _⟩ _ _ _; refine A9 hG Y Y ?_)
      | (show AOp _ _ ⟨_, .call ⟨.builtin .len, _, _⟩, _, _, _, _⟩ _ _ _; first | refine Az hG Y Y Y Y ?_ | refine Bd hG Y Y Y Y Y ?_)
      | (show AOp _ _ ⟨_, .binOp .add _ _ _ _, _, _, _, _⟩ _ _ _; first | refine Am hG Y Y Y Y Y (by omega) ?_)
      | (show AOp _ _ ⟨_, .binOp _ _ _ _ _, _, _, _, _⟩ _ _ _; first | refine Ap hG Y Y Y Y Y (by omega) ?_ | refine Aq hG Y Y Y Y Y (by omega) ?_ | (refine Av hG Y Y Y Y Y (fun h => ?_) (fun h => ?_)))
      | (show AOp _ _ ⟨_, .load _ _, _, _, _, _⟩ _ _ _; first | refine Bf hG Y Y Y ?_ | refine Ax 0 hG Y Y Y Y ?_ | refine Ax 1 hG Y Y Y Y ?_)
      | (show AOp _ _ ⟨_, .indexAddr _ _ _, _, _, _, _⟩ _ _ _; first | refine Bg hG Y Y Y Y Y Y Y (by omega) ?_ | refine Bh hG Y Y Y Y Y Y Y (by omega) ?_ | refine Bt hG Y Y ?_)
      | (show AOp _ _ ⟨_, .buildSlice _ _ _, _, _, _, _⟩ _ _ _; first | refine r_mk (sz := 1) hG Y Y Y Y Y Y Y ?_)
      | (show AOp _ _ ⟨_, .box _ _, _, _, _, _⟩ _ _ _; refine B1 hG Y Y Y (fun i => ?_))
      | (show AOp _ _ ⟨_, .call ⟨.builtin .append, _, _⟩, _, _, _, _⟩ _ _ _; first | refine Bn (sz := 1) (xs := []) hG Y Y Y Y Y Y Y ⟨_, Y⟩ Y Y Y Y Y Y Y (by first | omega | (simp; omega)) (fun k => ?_) | refine Bw 0 hG Y Y Y Y Y Y Y ⟨_, Y⟩ Y Y Y Y Y (by first | omega | (simp only [List.length_append, List.length_cons, List.length_nil]; omega)) (fun k => ?_) | fail)
      | refine r_q hG Y Y Y ?_))
    | (show AL _ _ _ _ _ _ _ _; first | refine Bj Y Y Y ?_ | (refine As ?_; first | show AW _ _ _ _ _ _ | show ∃ x', _ < _ ∧ _)) | (show AW _ _ (.seq _ _) _ _ _; refine Ah ?_; intro Q1) | (show AW _ _ (.region _ _ false) _ _ _; refine Ad ?_; intro O1) | (show AW _ _ (.cond _ _ _) _ _ _; first | refine Aj Y ?_ | refine Ai Y ?_) | (show AW _ _ (.skip) _ _ _; refine Ak ?_; first | show AW _ _ _ _ _ _ | show ∃ x', _ < _ ∧ _) | (show AW _ _ (.block _ _) _ _ _; refine A7 ?_; intro Q1) | (show AW _ _ (.exit _) _ _ _; refine Bi ?_; first | show AW _ _ _ _ _ _ | show ∃ x', _ < _ ∧ _) | (show AW _ _ (.ret) _ _ _; refine Ar ?_; try dsimp only [Aw, Aa, Au, Ac]) | fail)
    exact Ba (Ao rfl A8) (by rw [List.take_length]; exact Wk.own _ _ _) rfl
theorem flatP_snoc (l : List PR) (p : PR) : flatP (l ++ [p]) = flatP l ++ putP p := by simp [flatP]
theorem lcode_Put {x : T} {b : List UInt8} {df : UInt8} {l : List PR} (hx : bytesT x = some b) (hl : b.length ≤ 4294000000) (hs : l.length ≤ 70000) :
    Owns Try.prog 23 [x, .agg [bT df, .sl 2 .no (l.map pT)]] 1 ((putLab b df l).map bT) := by
  refine Owns.weak (us := [sT b, .agg [bT df, .sl 2 .no (l.map pT)]]) ?_ (wk2 (bytesT_wk hx) (.refl _))
  intro off
  refine Bp (N := 36) (rs := [.tmp 4]) hG Try.func23 rfl rfl rfl rfl rfl ?_
  have p1 := putI_le ((df.toNat : Nat) : Int) 1
  have p2 := putI_le ((l.length : Nat) : Int) 1
  repeat' (first
    | ((first | (show AL _ _ _ _ _ _ _ _; refine Ae Y ?_) | (show DL _ _ _ _ _ _ _; refine' Bx Y Y (fun K kk => ?_) ?_; try (show Go.Ts.T; rotate_left))); (first
      | (show AOp _ _ ⟨_, .move _, _, _, _, _⟩ _ _ _; refine Al hG Y Y ?_)
      | (show AOp _ _ ⟨_, .assign _, _, _, _, _⟩ _ _ _; refine A9 hG Y Y ?_)
      | (show AOp _ _ ⟨_, .call ⟨.builtin .len, _, _⟩, _, _, _, _⟩ _ _ _; first | refine Az hG Y Y Y Y ?_ | refine Bd hG Y Y Y Y Y ?_)
      | (show AOp _ _ ⟨_, .binOp .add _ _ _ _, _, _, _, _⟩ _ _ _; first | refine Am hG Y Y Y Y Y (by omega) ?_)
      | (show AOp _ _ ⟨_, .binOp _ _ _ _ _, _, _, _, _⟩ _ _ _; first | refine Ap hG Y Y Y Y Y (by omega) ?_ | refine Aq hG Y Y Y Y Y (by omega) ?_ | ((fail_if_success have := kk); refine Av hG Y Y Y Y Y (fun h => ?_) (fun h => ?_)))
      | (show AOp _ _ ⟨_, .load _ _, _, _, _, _⟩ _ _ _; first | refine Bf hG Y Y Y ?_ | refine Ax 0 hG Y Y Y Y ?_ | refine Ax 1 hG Y Y Y Y ?_ | refine Ax 2 hG Y Y Y Y ?_)
      | (show AOp _ _ ⟨_, .indexAddr _ _ _, _, _, _, _⟩ _ _ _; first | refine Bg hG Y Y Y Y Y Y Y (by omega) ?_ | refine Bh hG Y Y Y Y Y Y Y (by omega) ?_ | refine Bt hG Y Y ?_)
      | (show AOp _ _ ⟨_, .convert _ _ _, _, _, _, _⟩ _ _ _; first | refine r_cv8 hG Y Y Y Y Y Y ?_ | refine r_cv16 hG Y Y Y Y Y Y ?_ | refine Cb hG Y Y Y Y Y (by omega) ?_ | refine By hG Y Y Y Y Y ?_)
      | (show AOp _ _ ⟨_, .box _ _, _, _, _, _⟩ _ _ _; refine B1 hG Y Y Y (fun i => ?_))
      | (show AOp _ _ ⟨_, .alloc _, _, _, _, _⟩ _ _ _; refine Bv hG Y Y (fun i => ?_))
      | (show AOp _ _ ⟨_, .store _ _ _, _, _, _, _⟩ _ _ _; first | refine Bb 0 hG Y Y Y Y Y Y Y ?_ | refine Bb 1 hG Y Y Y Y Y Y Y ?_ | refine Bb 2 hG Y Y Y Y Y Y Y ?_)
      | refine r_q hG Y Y Y ?_); try exact kk)
    | (show AL _ _ _ _ _ _ _ _; first | refine Bj Y Y Y ?_ | (refine As ?_; first | show AW _ _ _ _ _ _ | show ∃ x', _ < _ ∧ _)) | (show AW _ _ (.seq _ _) _ _ _; refine Ah ?_; intro Q1) | (show AW _ _ (.region _ _ false) _ _ _; refine Ad ?_; intro O1) | (show AW _ _ (.cond _ _ _) _ _ _; first | refine Aj Y ?_ | refine Ai Y ?_) | (show AW _ _ (.skip) _ _ _; refine Ak ?_; first | show AW _ _ _ _ _ _ | show ∃ x', _ < _ ∧ _) | (show AW _ _ (.block _ _) _ _ _; refine A7 ?_; intro Q1) | (show AW _ _ (.exit _) _ _ _; refine Bi ?_; first | show AW _ _ _ _ _ _ | show ∃ x', _ < _ ∧ _) | (show AW _ _ (.ret) _ _ _; refine Ar ?_; try dsimp only [Aw, Aa, Au, Ac])
    | (show DL _ _ _ _ _ _ _; refine dl_d Y Y (fun K kt kf => Av hG Y Y Y Y Y kt kf) (fun h => ?_) (fun h => ?_))
    | (show DL _ _ _ _ _ _ _; refine dl_s Y Y Y ?_) | (show DL _ _ _ _ _ _ _; refine B3 ?_; first | show AW _ _ _ _ _ _ | show ∃ x', _ < _ ∧ _) | (show AW _ _ (.region _ _ true) _ _ _; (fail_if_success show AW _ _ (.region 1 _ _) _ _ _); refine Bq mix (by kernel_rfl) ?_; intro O1) | fail)
  refine aw_drawE' (m := 10) [4, 9] (fun σ => ∃ R, σ = ⟨[(i, .cells [bT df, .sl 2 .no (l.map pT)])], R, off, none⟩) mix rfl (by repeat (first | exact Sp.zero _ | apply Sp.succ)) ?_; intro O1 F1 Z1 Q2
  repeat' (first
    | (refine' dq_cons Y Y Y (fun σ hσ K kk => ?_) ?_; (try (show Go.Ts.T; rotate_left)); (obtain ⟨R, rfl⟩ := hσ); (first
      | (show AOp _ _ ⟨_, .move _, _, _, _, _⟩ _ _ _; refine Al hG Y Y ?_)
      | (show AOp _ _ ⟨_, .assign _, _, _, _, _⟩ _ _ _; refine A9 hG Y Y ?_)
      | (show AOp _ _ ⟨_, .call ⟨.builtin .len, _, _⟩, _, _, _, _⟩ _ _ _; first | refine Az hG Y Y Y Y ?_ | refine Bd hG Y Y Y Y Y ?_)
      | (show AOp _ _ ⟨_, .binOp .add _ _ _ _, _, _, _, _⟩ _ _ _; first | refine Am hG Y Y Y Y Y (by omega) ?_)
      | (show AOp _ _ ⟨_, .binOp _ _ _ _ _, _, _, _, _⟩ _ _ _; first | refine Ap hG Y Y Y Y Y (by omega) ?_ | refine Aq hG Y Y Y Y Y (by omega) ?_)
      | (show AOp _ _ ⟨_, .load _ _, _, _, _, _⟩ _ _ _; first | refine Bf hG Y Y Y ?_ | refine Ax 0 hG Y Y Y Y ?_ | refine Ax 1 hG Y Y Y Y ?_ | refine Ax 2 hG Y Y Y Y ?_)
      | (show AOp _ _ ⟨_, .indexAddr _ _ _, _, _, _, _⟩ _ _ _; first | refine Bg hG Y Y Y Y Y Y Y (by omega) ?_ | refine Bh hG Y Y Y Y Y Y Y (by omega) ?_ | refine Bt hG Y Y ?_)
      | (show AOp _ _ ⟨_, .convert _ _ _, _, _, _, _⟩ _ _ _; first | refine r_cv8 hG Y Y Y Y Y Y ?_ | refine r_cv16 hG Y Y Y Y Y Y ?_ | refine Cb hG Y Y Y Y Y (by omega) ?_ | refine By hG Y Y Y Y Y ?_)
      | (show AOp _ _ ⟨_, .box _ _, _, _, _, _⟩ _ _ _; refine B1 hG Y Y Y (fun i => ?_))
      | (show AOp _ _ ⟨_, .alloc _, _, _, _, _⟩ _ _ _; refine Bv hG Y Y (fun i => ?_))
      | (show AOp _ _ ⟨_, .store _ _ _, _, _, _, _⟩ _ _ _; first | refine Bb 0 hG Y Y Y Y Y Y Y ?_ | refine Bb 1 hG Y Y Y Y Y Y Y ?_ | refine Bb 2 hG Y Y Y Y Y Y Y ?_)
      | (show AOp _ _ ⟨_, .call ⟨.value _, _, _⟩, _, _, _, _⟩ _ _ _; first | ((fail_if_success have := kk); refine r_owns Y Y Y Y Y (by apply num_Put <;> (first | assumption | omega | exact Ab _ _ | exact Af _ | exact Ag _ _ | exact Ay _ | rfl | (simp; omega))) (fun k => ?_)) | (have := kk; clear this; refine Bc Y Y Y Y Y (Owns.pure (by apply num_Put <;> (first | assumption | omega | exact Ab _ _ | exact Af _ | exact Ag _ _ | exact Ay _ | rfl | (simp; omega)))) ?_) | fail)
      | refine r_q hG Y Y Y ?_); exact kk)
    | refine dq_d Y Y Y (fun σ hσ K kt kf => by obtain ⟨R, rfl⟩ := hσ; exact Av hG Y Y Y Y Y kt kf) (fun h => ?_) (fun h => ?_)
    | refine dq_d Y Y Y (fun σ hσ K kt kf => by obtain ⟨R, rfl⟩ := hσ; exact r_str hG Y Y Y Y kt kf) (fun h => ?_) (fun h => ?_)
    | refine dq_s Y Y Y Y ?_ | refine dq_e Y ?_ | (refine dq_nil ?_; show EL _ _ _ _ _ _ _ _ _) | refine el_s ⟨_, Y⟩ Y Y Y Y ?_
    | ((first | refine el_cons ⟨_, Y⟩ Y Y Y (fun K ke => ?_) | refine el_consN ⟨_, Y⟩ Y Y Y (fun K ke => ?_)); (first
      | (show AOp _ _ ⟨_, .move _, _, _, _, _⟩ _ _ _; refine Al hG Y Y ?_)
      | (show AOp _ _ ⟨_, .assign _, _, _, _, _⟩ _ _ _; refine A9 hG Y Y ?_)
      | (show AOp _ _ ⟨_, .call ⟨.builtin .len, _, _⟩, _, _, _, _⟩ _ _ _; first | refine Az hG Y Y Y Y ?_ | refine Bd hG Y Y Y Y Y ?_)
      | (show AOp _ _ ⟨_, .binOp .add _ _ _ _, _, _, _, _⟩ _ _ _; first | refine Am hG Y Y Y Y Y (by omega) ?_)
      | (show AOp _ _ ⟨_, .binOp _ _ _ _ _, _, _, _, _⟩ _ _ _; first | refine Ap hG Y Y Y Y Y (by omega) ?_ | refine Aq hG Y Y Y Y Y (by omega) ?_)
      | (show AOp _ _ ⟨_, .load _ _, _, _, _, _⟩ _ _ _; first | refine Bf hG Y Y Y ?_ | refine Ax 0 hG Y Y Y Y ?_ | refine Ax 1 hG Y Y Y Y ?_ | refine Ax 2 hG Y Y Y Y ?_)
      | (show AOp _ _ ⟨_, .indexAddr _ _ _, _, _, _, _⟩ _ _ _; first | refine Bg hG Y Y Y Y Y Y Y (by omega) ?_ | refine Bh hG Y Y Y Y Y Y Y (by omega) ?_ | refine Bt hG Y Y ?_)
      | (show AOp _ _ ⟨_, .convert _ _ _, _, _, _, _⟩ _ _ _; first | refine r_cv8 hG Y Y Y Y Y Y ?_ | refine r_cv16 hG Y Y Y Y Y Y ?_ | refine Cb hG Y Y Y Y Y (by omega) ?_ | refine By hG Y Y Y Y Y ?_)
      | (show AOp _ _ ⟨_, .box _ _, _, _, _, _⟩ _ _ _; refine B1 hG Y Y Y (fun i => ?_))
      | (show AOp _ _ ⟨_, .alloc _, _, _, _, _⟩ _ _ _; refine Bv hG Y Y (fun i => ?_))
      | (show AOp _ _ ⟨_, .store _ _ _, _, _, _, _⟩ _ _ _; first | refine Bb 0 hG Y Y Y Y Y Y Y ?_ | refine Bb 1 hG Y Y Y Y Y Y Y ?_ | refine Bb 2 hG Y Y Y Y Y Y Y ?_)
      | (show AOp _ _ ⟨_, .call ⟨.value _, _, _⟩, _, _, _, _⟩ _ _ _; first | ((fail_if_success have := kk); refine r_owns Y Y Y Y Y (by apply num_Put <;> (first | assumption | omega | exact Ab _ _ | exact Af _ | exact Ag _ _ | exact Ay _ | rfl | (simp; omega))) (fun k => ?_)) | (have := kk; clear this; refine Bc Y Y Y Y Y (Owns.pure (by apply num_Put <;> (first | assumption | omega | exact Ab _ _ | exact Af _ | exact Ag _ _ | exact Ay _ | rfl | (simp; omega)))) ?_) | fail)
      | refine r_q hG Y Y Y ?_); refine ke _ _ ?_)
    | (refine el_nil ⟨_, Y⟩ ?_; show AL _ _ _ _ _ _ _ _) | fail)
  repeat' (first
    | ((first | (show AL _ _ _ _ _ _ _ _; refine Ae Y ?_) | (show DL _ _ _ _ _ _ _; refine' Bx Y Y (fun K kk => ?_) ?_; try (show Go.Ts.T; rotate_left))); (first
      | (show AOp _ _ ⟨_, .move _, _, _, _, _⟩ _ _ _; refine Al hG Y Y ?_)
      | (show AOp _ _ ⟨_, .assign _, _, _, _, _⟩ _ _ _; refine A9 hG Y Y ?_)
      | (show AOp _ _ ⟨_, .call ⟨.builtin .len, _, _⟩, _, _, _, _⟩ _ _ _; first | refine Az hG Y Y Y Y ?_ | refine Bd hG Y Y Y Y Y ?_)
      | (show AOp _ _ ⟨_, .binOp .add _ _ _ _, _, _, _, _⟩ _ _ _; first | refine Am hG Y Y Y Y Y (by omega) ?_)
      | (show AOp _ _ ⟨_, .binOp _ _ _ _ _, _, _, _, _⟩ _ _ _; first | refine Ap hG Y Y Y Y Y (by omega) ?_ | refine Aq hG Y Y Y Y Y (by omega) ?_ | ((fail_if_success have := kk); refine Av hG Y Y Y Y Y (fun h => ?_) (fun h => ?_)))
      | (show AOp _ _ ⟨_, .load _ _, _, _, _, _⟩ _ _ _; first | refine Bf hG Y Y Y ?_ | refine Ax 0 hG Y Y Y Y ?_ | refine Ax 1 hG Y Y Y Y ?_ | refine Ax 2 hG Y Y Y Y ?_)
      | (show AOp _ _ ⟨_, .indexAddr _ _ _, _, _, _, _⟩ _ _ _; first | refine Bg hG Y Y Y Y Y Y Y (by omega) ?_ | refine Bh hG Y Y Y Y Y Y Y (by omega) ?_ | refine Bt hG Y Y ?_)
      | (show AOp _ _ ⟨_, .convert _ _ _, _, _, _, _⟩ _ _ _; first | refine r_cv8 hG Y Y Y Y Y Y ?_ | refine r_cv16 hG Y Y Y Y Y Y ?_ | refine Cb hG Y Y Y Y Y (by omega) ?_ | refine By hG Y Y Y Y Y ?_)
      | (show AOp _ _ ⟨_, .box _ _, _, _, _, _⟩ _ _ _; refine B1 hG Y Y Y (fun i => ?_))
      | (show AOp _ _ ⟨_, .alloc _, _, _, _, _⟩ _ _ _; refine Bv hG Y Y (fun i => ?_))
      | (show AOp _ _ ⟨_, .store _ _ _, _, _, _, _⟩ _ _ _; first | refine Bb 0 hG Y Y Y Y Y Y Y ?_ | refine Bb 1 hG Y Y Y Y Y Y Y ?_ | refine Bb 2 hG Y Y Y Y Y Y Y ?_)
      | refine r_q hG Y Y Y ?_); try exact kk)
    | (show AL _ _ _ _ _ _ _ _; first | refine Bj Y Y Y ?_ | (refine As ?_; first | show AW _ _ _ _ _ _ | show ∃ x', _ < _ ∧ _)) | (show AW _ _ (.seq _ _) _ _ _; refine Ah ?_; intro Q1) | (show AW _ _ (.region _ _ false) _ _ _; refine Ad ?_; intro O1) | (show AW _ _ (.cond _ _ _) _ _ _; first | refine Aj Y ?_ | refine Ai Y ?_) | (show AW _ _ (.skip) _ _ _; refine Ak ?_; first | show AW _ _ _ _ _ _ | show ∃ x', _ < _ ∧ _) | (show AW _ _ (.block _ _) _ _ _; refine A7 ?_; intro Q1) | (show AW _ _ (.exit _) _ _ _; refine Bi ?_; first | show AW _ _ _ _ _ _ | show ∃ x', _ < _ ∧ _) | (show AW _ _ (.ret) _ _ _; refine Ar ?_; try dsimp only [Aw, Aa, Au, Ac])
    | (show DL _ _ _ _ _ _ _; refine dl_d Y Y (fun K kt kf => Av hG Y Y Y Y Y kt kf) (fun h => ?_) (fun h => ?_))
    | (show DL _ _ _ _ _ _ _; refine dl_s Y Y Y ?_) | (show DL _ _ _ _ _ _ _; refine B3 ?_; first | show AW _ _ _ _ _ _ | show ∃ x', _ < _ ∧ _) | (show AW _ _ (.region _ _ true) _ _ _; refine Bq mix (by kernel_rfl) ?_; intro O1) | fail)
  refine aw_loop (X := StX l) (fun x => [(19, .sl 2 .no (l.map pT)), (20, .int .i64 l.length), (21, .int .i64 x.i), (5, .sl 1 (.tok x.k) ((b ++ putI df.toNat 1 ++ putI l.length 1 ++ flatP (l.take x.i)).map bT))]) (fun x => ⟨[(x.p, .cells [bT df, .sl 2 .no (l.map pT)])], [x.k], off, none⟩) (fun x => l.length - x.i) ⟨0, i, _, Nat.zero_le _⟩ ?_ drop_tok' ?_
  · exact .cons rfl (.cons rfl (.consW rfl (.int rfl) (.consW rfl (.eq (by simp [flatP])) (.nil _))))
  rintro ⟨j, p, k, hj⟩
  dsimp only
  by_cases hjl : j < l.length
  · have hf : flatP (l.take (j + 1)) = flatP (l.take j) ++ putP (l.getD j default) := by rw [take_getD l j hjl, flatP_snoc]
    have hfl := flatP_len (l.take j)
    rw [List.length_take] at hfl
    have hlen : (b ++ putI df.toNat 1 ++ putI l.length 1 ++ flatP (l.take j)).length ≤ 4294500000 := by simp only [List.length_append]; omega
    have p3 := putI_le (((l.getD j default).1.toNat : Nat) : Int) 2
    have v1 := (l.getD j default).1.toNat_lt
    have v2 := (l.getD j default).2.toNat_lt
    generalize hz : b ++ putI df.toNat 1 ++ putI l.length 1 ++ flatP (l.take j) = z at *
    have hz2 : (z ++ putI ((l.getD j default).1.toNat : Int) 2).length ≤ 4294967000 := by rw [List.length_append]; omega
    repeat' (first
    | ((first | (show AL _ _ _ _ _ _ _ _; refine Ae Y ?_) | (show DL _ _ _ _ _ _ _; refine' Bx Y Y (fun K kk => ?_) ?_; try (show Go.Ts.T; rotate_left))); (first
      | (show AOp _ _ ⟨_, .move _, _, _, _, _⟩ _ _ _; refine Al hG Y Y ?_)
      | (show AOp _ _ ⟨_, .assign _, _, _, _, _⟩ _ _ _; refine A9 hG Y Y ?_)
      | (show AOp _ _ ⟨_, .call ⟨.builtin .len, _, _⟩, _, _, _, _⟩ _ _ _; first | refine Az hG Y Y Y Y ?_ | refine Bd hG Y Y Y Y Y ?_)
      | (show AOp _ _ ⟨_, .binOp .add _ _ _ _, _, _, _, _⟩ _ _ _; first | refine Am hG Y Y Y Y Y (by omega) ?_)
      | (show AOp _ _ ⟨_, .binOp _ _ _ _ _, _, _, _, _⟩ _ _ _; first | refine Ap hG Y Y Y Y Y (by omega) ?_ | refine Aq hG Y Y Y Y Y (by omega) ?_ | ((fail_if_success have := kk); refine Av hG Y Y Y Y Y (fun h => ?_) (fun h => ?_)))
      | (show AOp _ _ ⟨_, .load _ _, _, _, _, _⟩ _ _ _; first | refine Bf hG Y Y Y ?_ | refine Ax 0 hG Y Y Y Y ?_ | refine Ax 1 hG Y Y Y Y ?_ | refine Ax 2 hG Y Y Y Y ?_)
      | (show AOp _ _ ⟨_, .indexAddr _ _ _, _, _, _, _⟩ _ _ _; first | refine Bg hG Y Y Y Y Y Y Y (by omega) ?_ | refine Bh hG Y Y Y Y Y Y Y (by omega) ?_ | refine Bt hG Y Y ?_)
      | (show AOp _ _ ⟨_, .convert _ _ _, _, _, _, _⟩ _ _ _; first | refine r_cv8 hG Y Y Y Y Y Y ?_ | refine r_cv16 hG Y Y Y Y Y Y ?_ | refine Cb hG Y Y Y Y Y (by omega) ?_ | refine By hG Y Y Y Y Y ?_)
      | (show AOp _ _ ⟨_, .box _ _, _, _, _, _⟩ _ _ _; refine B1 hG Y Y Y (fun i => ?_))
      | (show AOp _ _ ⟨_, .alloc _, _, _, _, _⟩ _ _ _; refine Bv hG Y Y (fun i => ?_))
      | (show AOp _ _ ⟨_, .store _ _ _, _, _, _, _⟩ _ _ _; first | refine Bb 0 hG Y Y Y Y Y Y Y ?_ | refine Bb 1 hG Y Y Y Y Y Y Y ?_ | refine Bb 2 hG Y Y Y Y Y Y Y ?_)
      | refine r_q hG Y Y Y ?_); try exact kk)
    | (show AL _ _ _ _ _ _ _ _; first | refine Bj Y Y Y ?_ | (refine As ?_; first | show AW _ _ _ _ _ _ | show ∃ x', _ < _ ∧ _)) | (show AW _ _ (.seq _ _) _ _ _; refine Ah ?_; intro Q1) | (show AW _ _ (.region _ _ false) _ _ _; refine Ad ?_; intro O1) | (show AW _ _ (.cond _ _ _) _ _ _; first | refine Aj Y ?_ | refine Ai Y ?_) | (show AW _ _ (.skip) _ _ _; refine Ak ?_; first | show AW _ _ _ _ _ _ | show ∃ x', _ < _ ∧ _) | (show AW _ _ (.block _ _) _ _ _; refine A7 ?_; intro Q1) | (show AW _ _ (.exit _) _ _ _; refine Bi ?_; first | show AW _ _ _ _ _ _ | show ∃ x', _ < _ ∧ _) | (show AW _ _ (.ret) _ _ _; refine Ar ?_; try dsimp only [Aw, Aa, Au, Ac])
    | (show DL _ _ _ _ _ _ _; refine dl_d Y Y (fun K kt kf => Av hG Y Y Y Y Y kt kf) (fun h => ?_) (fun h => ?_))
    | (show DL _ _ _ _ _ _ _; refine dl_s Y Y Y ?_) | (show DL _ _ _ _ _ _ _; refine B3 ?_; first | show AW _ _ _ _ _ _ | show ∃ x', _ < _ ∧ _) | (show AW _ _ (.region _ _ true) _ _ _; (fail_if_success show AW _ _ (.region 5 _ _) _ _ _); refine Bq mix (by kernel_rfl) ?_; intro O1) | fail)
    refine aw_drawE' (m := 9) [4, 8] (fun σ => ∃ R, σ = ⟨[(i, .cells [hT (l.getD j default).1, bT (l.getD j default).2]), (p, .cells [bT df, .sl 2 .no (l.map pT)])], R, off, none⟩) mix rfl (by repeat (first | exact Sp.zero _ | apply Sp.succ)) ?_; intro O1 F1 Z1 Q2
    repeat' (first
    | (refine' dq_cons Y Y Y (fun σ hσ K kk => ?_) ?_; (try (show Go.Ts.T; rotate_left)); (obtain ⟨R, rfl⟩ := hσ); (first
      | (show AOp _ _ ⟨_, .move _, _, _, _, _⟩ _ _ _; refine Al hG Y Y ?_)
      | (show AOp _ _ ⟨_, .assign _, _, _, _, _⟩ _ _ _; refine A9 hG Y Y ?_)
      | (show AOp _ _ ⟨_, .call ⟨.builtin .len, _, _⟩, _, _, _, _⟩ _ _ _; first | refine Az hG Y Y Y Y ?_ | refine Bd hG Y Y Y Y Y ?_)
      | (show AOp _ _ ⟨_, .binOp .add _ _ _ _, _, _, _, _⟩ _ _ _; first | refine Am hG Y Y Y Y Y (by omega) ?_)
      | (show AOp _ _ ⟨_, .binOp _ _ _ _ _, _, _, _, _⟩ _ _ _; first | refine Ap hG Y Y Y Y Y (by omega) ?_ | refine Aq hG Y Y Y Y Y (by omega) ?_)
      | (show AOp _ _ ⟨_, .load _ _, _, _, _, _⟩ _ _ _; first | refine Bf hG Y Y Y ?_ | refine Ax 0 hG Y Y Y Y ?_ | refine Ax 1 hG Y Y Y Y ?_ | refine Ax 2 hG Y Y Y Y ?_)
      | (show AOp _ _ ⟨_, .indexAddr _ _ _, _, _, _, _⟩ _ _ _; first | refine Bg hG Y Y Y Y Y Y Y (by omega) ?_ | refine Bh hG Y Y Y Y Y Y Y (by omega) ?_ | refine Bt hG Y Y ?_)
      | (show AOp _ _ ⟨_, .convert _ _ _, _, _, _, _⟩ _ _ _; first | refine r_cv8 hG Y Y Y Y Y Y ?_ | refine r_cv16 hG Y Y Y Y Y Y ?_ | refine Cb hG Y Y Y Y Y (by omega) ?_ | refine By hG Y Y Y Y Y ?_)
      | (show AOp _ _ ⟨_, .box _ _, _, _, _, _⟩ _ _ _; refine B1 hG Y Y Y (fun i => ?_))
      | (show AOp _ _ ⟨_, .alloc _, _, _, _, _⟩ _ _ _; refine Bv hG Y Y (fun i => ?_))
      | (show AOp _ _ ⟨_, .store _ _ _, _, _, _, _⟩ _ _ _; first | refine Bb 0 hG Y Y Y Y Y Y Y ?_ | refine Bb 1 hG Y Y Y Y Y Y Y ?_ | refine Bb 2 hG Y Y Y Y Y Y Y ?_)
      | (show AOp _ _ ⟨_, .call ⟨.value _, _, _⟩, _, _, _, _⟩ _ _ _; first | ((fail_if_success have := kk); refine r_owns Y Y Y Y Y (by apply num_Put <;> (first | assumption | omega | exact Ab _ _ | exact Af _ | exact Ag _ _ | exact Ay _ | rfl | (simp; omega))) (fun k => ?_)) | (have := kk; clear this; refine Bc Y Y Y Y Y (Owns.pure (by apply num_Put <;> (first | assumption | omega | exact Ab _ _ | exact Af _ | exact Ag _ _ | exact Ay _ | rfl | (simp; omega)))) ?_) | fail)
      | refine r_q hG Y Y Y ?_); exact kk)
    | refine dq_d Y Y Y (fun σ hσ K kt kf => by obtain ⟨R, rfl⟩ := hσ; exact Av hG Y Y Y Y Y kt kf) (fun h => ?_) (fun h => ?_)
    | refine dq_d Y Y Y (fun σ hσ K kt kf => by obtain ⟨R, rfl⟩ := hσ; exact r_str hG Y Y Y Y kt kf) (fun h => ?_) (fun h => ?_)
    | refine dq_s Y Y Y Y ?_ | refine dq_e Y ?_ | (refine dq_nil ?_; show EL _ _ _ _ _ _ _ _ _) | refine el_s ⟨_, Y⟩ Y Y Y Y ?_
    | ((first | refine el_cons ⟨_, Y⟩ Y Y Y (fun K ke => ?_) | refine el_consN ⟨_, Y⟩ Y Y Y (fun K ke => ?_)); (first
      | (show AOp _ _ ⟨_, .move _, _, _, _, _⟩ _ _ _; refine Al hG Y Y ?_)
      | (show AOp _ _ ⟨_, .assign _, _, _, _, _⟩ _ _ _; refine A9 hG Y Y ?_)
      | (show AOp _ _ ⟨_, .call ⟨.builtin .len, _, _⟩, _, _, _, _⟩ _ _ _; first | refine Az hG Y Y Y Y ?_ | refine Bd hG Y Y Y Y Y ?_)
      | (show AOp _ _ ⟨_, .binOp .add _ _ _ _, _, _, _, _⟩ _ _ _; first | refine Am hG Y Y Y Y Y (by omega) ?_)
      | (show AOp _ _ ⟨_, .binOp _ _ _ _ _, _, _, _, _⟩ _ _ _; first | refine Ap hG Y Y Y Y Y (by omega) ?_ | refine Aq hG Y Y Y Y Y (by omega) ?_)
      | (show AOp _ _ ⟨_, .load _ _, _, _, _, _⟩ _ _ _; first | refine Bf hG Y Y Y ?_ | refine Ax 0 hG Y Y Y Y ?_ | refine Ax 1 hG Y Y Y Y ?_ | refine Ax 2 hG Y Y Y Y ?_)
      | (show AOp _ _ ⟨_, .indexAddr _ _ _, _, _, _, _⟩ _ _ _; first | refine Bg hG Y Y Y Y Y Y Y (by omega) ?_ | refine Bh hG Y Y Y Y Y Y Y (by omega) ?_ | refine Bt hG Y Y ?_)
      | (show AOp _ _ ⟨_, .convert _ _ _, _, _, _, _⟩ _ _ _; first | refine r_cv8 hG Y Y Y Y Y Y ?_ | refine r_cv16 hG Y Y Y Y Y Y ?_ | refine Cb hG Y Y Y Y Y (by omega) ?_ | refine By hG Y Y Y Y Y ?_)
      | (show AOp _ _ ⟨_, .box _ _, _, _, _, _⟩ _ _ _; refine B1 hG Y Y Y (fun i => ?_))
      | (show AOp _ _ ⟨_, .alloc _, _, _, _, _⟩ _ _ _; refine Bv hG Y Y (fun i => ?_))
      | (show AOp _ _ ⟨_, .store _ _ _, _, _, _, _⟩ _ _ _; first | refine Bb 0 hG Y Y Y Y Y Y Y ?_ | refine Bb 1 hG Y Y Y Y Y Y Y ?_ | refine Bb 2 hG Y Y Y Y Y Y Y ?_)
      | (show AOp _ _ ⟨_, .call ⟨.value _, _, _⟩, _, _, _, _⟩ _ _ _; first | ((fail_if_success have := kk); refine r_owns Y Y Y Y Y (by apply num_Put <;> (first | assumption | omega | exact Ab _ _ | exact Af _ | exact Ag _ _ | exact Ay _ | rfl | (simp; omega))) (fun k => ?_)) | (have := kk; clear this; refine Bc Y Y Y Y Y (Owns.pure (by apply num_Put <;> (first | assumption | omega | exact Ab _ _ | exact Af _ | exact Ag _ _ | exact Ay _ | rfl | (simp; omega)))) ?_) | fail)
      | refine r_q hG Y Y Y ?_); refine ke _ _ ?_)
    | (refine el_nil ⟨_, Y⟩ ?_; show AL _ _ _ _ _ _ _ _) | fail)
    repeat' (first
    | ((first | (show AL _ _ _ _ _ _ _ _; refine Ae Y ?_) | (show DL _ _ _ _ _ _ _; refine' Bx Y Y (fun K kk => ?_) ?_; try (show Go.Ts.T; rotate_left))); (first
      | (show AOp _ _ ⟨_, .move _, _, _, _, _⟩ _ _ _; refine Al hG Y Y ?_)
      | (show AOp _ _ ⟨_, .assign _, _, _, _, _⟩ _ _ _; refine A9 hG Y Y ?_)
      | (show AOp _ _ ⟨_, .call ⟨.builtin .len, _, _⟩, _, _, _, _⟩ _ _ _; first | refine Az hG Y Y Y Y ?_ | refine Bd hG Y Y Y Y Y ?_)
      | (show AOp _ _ ⟨_, .binOp .add _ _ _ _, _, _, _, _⟩ _ _ _; first | refine Am hG Y Y Y Y Y (by omega) ?_)
      | (show AOp _ _ ⟨_, .binOp _ _ _ _ _, _, _, _, _⟩ _ _ _; first | refine Ap hG Y Y Y Y Y (by omega) ?_ | refine Aq hG Y Y Y Y Y (by omega) ?_ | ((fail_if_success have := kk); refine Av hG Y Y Y Y Y (fun h => ?_) (fun h => ?_)))
      | (show AOp _ _ ⟨_, .load _ _, _, _, _, _⟩ _ _ _; first | refine Bf hG Y Y Y ?_ | refine Ax 0 hG Y Y Y Y ?_ | refine Ax 1 hG Y Y Y Y ?_ | refine Ax 2 hG Y Y Y Y ?_)
      | (show AOp _ _ ⟨_, .indexAddr _ _ _, _, _, _, _⟩ _ _ _; first | refine Bg hG Y Y Y Y Y Y Y (by omega) ?_ | refine Bh hG Y Y Y Y Y Y Y (by omega) ?_ | refine Bt hG Y Y ?_)
      | (show AOp _ _ ⟨_, .convert _ _ _, _, _, _, _⟩ _ _ _; first | refine r_cv8 hG Y Y Y Y Y Y ?_ | refine r_cv16 hG Y Y Y Y Y Y ?_ | refine Cb hG Y Y Y Y Y (by omega) ?_ | refine By hG Y Y Y Y Y ?_)
      | (show AOp _ _ ⟨_, .box _ _, _, _, _, _⟩ _ _ _; refine B1 hG Y Y Y (fun i => ?_))
      | (show AOp _ _ ⟨_, .alloc _, _, _, _, _⟩ _ _ _; refine Bv hG Y Y (fun i => ?_))
      | (show AOp _ _ ⟨_, .store _ _ _, _, _, _, _⟩ _ _ _; first | refine Bb 0 hG Y Y Y Y Y Y Y ?_ | refine Bb 1 hG Y Y Y Y Y Y Y ?_ | refine Bb 2 hG Y Y Y Y Y Y Y ?_)
      | refine r_q hG Y Y Y ?_); try exact kk)
    | (show AL _ _ _ _ _ _ _ _; first | refine Bj Y Y Y ?_ | (refine As ?_; first | show AW _ _ _ _ _ _ | show ∃ x', _ < _ ∧ _)) | (show AW _ _ (.seq _ _) _ _ _; refine Ah ?_; intro Q1) | (show AW _ _ (.region _ _ false) _ _ _; refine Ad ?_; intro O1) | (show AW _ _ (.cond _ _ _) _ _ _; first | refine Aj Y ?_ | refine Ai Y ?_) | (show AW _ _ (.skip) _ _ _; refine Ak ?_; first | show AW _ _ _ _ _ _ | show ∃ x', _ < _ ∧ _) | (show AW _ _ (.block _ _) _ _ _; refine A7 ?_; intro Q1) | (show AW _ _ (.exit _) _ _ _; refine Bi ?_; first | show AW _ _ _ _ _ _ | show ∃ x', _ < _ ∧ _) | (show AW _ _ (.ret) _ _ _; refine Ar ?_; try dsimp only [Aw, Aa, Au, Ac])
    | (show DL _ _ _ _ _ _ _; refine dl_d Y Y (fun K kt kf => Av hG Y Y Y Y Y kt kf) (fun h => ?_) (fun h => ?_))
    | (show DL _ _ _ _ _ _ _; refine dl_s Y Y Y ?_) | (show DL _ _ _ _ _ _ _; refine B3 ?_; first | show AW _ _ _ _ _ _ | show ∃ x', _ < _ ∧ _) | (show AW _ _ (.region _ _ true) _ _ _; refine Bq mix (by kernel_rfl) ?_; intro O1) | fail)
    refine ⟨⟨j + 1, p, _, by omega⟩, by dsimp only; omega, ?_, (drop_1.trans drop_tok')⟩
    exact .cons rfl (.cons rfl (.consW rfl (.int (by simp)) (.consW rfl (.eq (by rw [hf, ← List.append_assoc, hz]; simp [putP])) (.nil _))))
  · obtain rfl : j = l.length := by omega
    repeat' (first
    | ((first | (show AL _ _ _ _ _ _ _ _; refine Ae Y ?_) | (show DL _ _ _ _ _ _ _; refine' Bx Y Y (fun K kk => ?_) ?_; try (show Go.Ts.T; rotate_left))); (first
      | (show AOp _ _ ⟨_, .move _, _, _, _, _⟩ _ _ _; refine Al hG Y Y ?_)
      | (show AOp _ _ ⟨_, .assign _, _, _, _, _⟩ _ _ _; refine A9 hG Y Y ?_)
      | (show AOp _ _ ⟨_, .call ⟨.builtin .len, _, _⟩, _, _, _, _⟩ _ _ _; first | refine Az hG Y Y Y Y ?_ | refine Bd hG Y Y Y Y Y ?_)
      | (show AOp _ _ ⟨_, .binOp .add _ _ _ _, _, _, _, _⟩ _ _ _; first | refine Am hG Y Y Y Y Y (by omega) ?_)
      | (show AOp _ _ ⟨_, .binOp _ _ _ _ _, _, _, _, _⟩ _ _ _; first | refine Ap hG Y Y Y Y Y (by omega) ?_ | refine Aq hG Y Y Y Y Y (by omega) ?_ | ((fail_if_success have := kk); refine Av hG Y Y Y Y Y (fun h => ?_) (fun h => ?_)))
      | (show AOp _ _ ⟨_, .load _ _, _, _, _, _⟩ _ _ _; first | refine Bf hG Y Y Y ?_ | refine Ax 0 hG Y Y Y Y ?_ | refine Ax 1 hG Y Y Y Y ?_ | refine Ax 2 hG Y Y Y Y ?_)
      | (show AOp _ _ ⟨_, .indexAddr _ _ _, _, _, _, _⟩ _ _ _; first | refine Bg hG Y Y Y Y Y Y Y (by omega) ?_ | refine Bh hG Y Y Y Y Y Y Y (by omega) ?_ | refine Bt hG Y Y ?_)
      | (show AOp _ _ ⟨_, .convert _ _ _, _, _, _, _⟩ _ _ _; first | refine r_cv8 hG Y Y Y Y Y Y ?_ | refine r_cv16 hG Y Y Y Y Y Y ?_ | refine Cb hG Y Y Y Y Y (by omega) ?_ | refine By hG Y Y Y Y Y ?_)
      | (show AOp _ _ ⟨_, .box _ _, _, _, _, _⟩ _ _ _; refine B1 hG Y Y Y (fun i => ?_))
      | (show AOp _ _ ⟨_, .alloc _, _, _, _, _⟩ _ _ _; refine Bv hG Y Y (fun i => ?_))
      | (show AOp _ _ ⟨_, .store _ _ _, _, _, _, _⟩ _ _ _; first | refine Bb 0 hG Y Y Y Y Y Y Y ?_ | refine Bb 1 hG Y Y Y Y Y Y Y ?_ | refine Bb 2 hG Y Y Y Y Y Y Y ?_)
      | refine r_q hG Y Y Y ?_); try exact kk)
    | (show AL _ _ _ _ _ _ _ _; first | refine Bj Y Y Y ?_ | (refine As ?_; first | show AW _ _ _ _ _ _ | show ∃ x', _ < _ ∧ _)) | (show AW _ _ (.seq _ _) _ _ _; refine Ah ?_; intro Q1) | (show AW _ _ (.region _ _ false) _ _ _; refine Ad ?_; intro O1) | (show AW _ _ (.cond _ _ _) _ _ _; first | refine Aj Y ?_ | refine Ai Y ?_) | (show AW _ _ (.skip) _ _ _; refine Ak ?_; first | show AW _ _ _ _ _ _ | show ∃ x', _ < _ ∧ _) | (show AW _ _ (.block _ _) _ _ _; refine A7 ?_; intro Q1) | (show AW _ _ (.exit _) _ _ _; refine Bi ?_; first | show AW _ _ _ _ _ _ | show ∃ x', _ < _ ∧ _) | (show AW _ _ (.ret) _ _ _; refine Ar ?_; try dsimp only [Aw, Aa, Au, Ac])
    | (show DL _ _ _ _ _ _ _; refine dl_d Y Y (fun K kt kf => Av hG Y Y Y Y Y kt kf) (fun h => ?_) (fun h => ?_))
    | (show DL _ _ _ _ _ _ _; refine dl_s Y Y Y ?_) | (show DL _ _ _ _ _ _ _; refine B3 ?_; first | show AW _ _ _ _ _ _ | show ∃ x', _ < _ ∧ _) | (show AW _ _ (.region _ _ true) _ _ _; refine Bq mix (by kernel_rfl) ?_; intro O1) | fail)
    exact ret_owns 0 (Ao rfl A8) rfl (by rw [List.take_length]; rfl) rfl
theorem ref_Canon5 {df : UInt8} {l : List PR} (hd : 5 < df.toNat) : Ts.Pure Try.prog 55 [.agg [bT df, .sl 2 .no (l.map pT)]] (.bool false) := by
  intro off
  refine Bp (N := 46) (rs := [.tmp 2]) hG Try.func55 rfl rfl rfl rfl rfl ?_
  repeat' (first
    | ((first | (show AL _ _ _ _ _ _ _ _; refine Ae Y ?_) | (show DL _ _ _ _ _ _ _; refine' Bx Y Y (fun K kk => ?_) ?_; try (show Go.Ts.T; rotate_left))); (first
      | (show AOp _ _ ⟨_, .move _, _, _, _, _⟩ _ _ _; refine Al hG Y Y ?_)
      | (show AOp _ _ ⟨_, .assign _, _, _, _, _⟩ _ _ _; refine A9 hG Y Y ?_)
      | (show AOp _ _ ⟨_, .call ⟨.builtin .len, _, _⟩, _, _, _, _⟩ _ _ _; first | refine Az hG Y Y Y Y ?_ | refine Bd hG Y Y Y Y Y ?_)
      | (show AOp _ _ ⟨_, .binOp .add _ _ _ _, _, _, _, _⟩ _ _ _; first | refine Am hG Y Y Y Y Y (by omega) ?_)
      | (show AOp _ _ ⟨_, .binOp .sub _ _ _ _, _, _, _, _⟩ _ _ _; first | refine Am hG Y Y Y Y Y (by omega) ?_)
      | (show AOp _ _ ⟨_, .binOp _ _ _ _ _, _, _, _, _⟩ _ _ _; first | refine Ap hG Y Y Y Y Y (by omega) ?_ | refine Aq hG Y Y Y Y Y (by omega) ?_ | ((fail_if_success have := kk); refine Av hG Y Y Y Y Y (fun h => ?_) (fun h => ?_)))
      | (show AOp _ _ ⟨_, .load _ _, _, _, _, _⟩ _ _ _; first | refine Bf hG Y Y Y ?_ | refine Ax 0 hG Y Y Y Y ?_ | refine Ax 1 hG Y Y Y Y ?_ | refine Ax 2 hG Y Y Y Y ?_)
      | (show AOp _ _ ⟨_, .indexAddr _ _ _, _, _, _, _⟩ _ _ _; first | refine Bg hG Y Y Y Y Y Y Y (by omega) ?_ | refine Bh hG Y Y Y Y Y Y Y (by omega) ?_ | refine Bt hG Y Y ?_)
      | (show AOp _ _ ⟨_, .pick _ _ _, _, _, _, _⟩ _ _ _; refine Bl hG Y Y Y ?_)
      | (show AOp _ _ ⟨_, .box _ _, _, _, _, _⟩ _ _ _; refine B1 hG Y Y Y (fun i => ?_))
      | (show AOp _ _ ⟨_, .alloc _, _, _, _, _⟩ _ _ _; refine Bv hG Y Y (fun i => ?_))
      | (show AOp _ _ ⟨_, .store _ _ _, _, _, _, _⟩ _ _ _; first | refine Bb 0 hG Y Y Y Y Y Y Y ?_ | refine Bb 1 hG Y Y Y Y Y Y Y ?_ | refine Bb 2 hG Y Y Y Y Y Y Y ?_)
      | refine r_q hG Y Y Y ?_); try exact kk)
    | (show AL _ _ _ _ _ _ _ _; first | refine Bj Y Y Y ?_ | (refine As ?_; first | show AW _ _ _ _ _ _ | show ∃ x', _ < _ ∧ _)) | (show AW _ _ (.seq _ _) _ _ _; refine Ah ?_; intro Q1) | (show AW _ _ (.region _ _ false) _ _ _; refine Ad ?_; intro O1) | (show AW _ _ (.cond _ _ _) _ _ _; first | refine Aj Y ?_ | refine Ai Y ?_) | (show AW _ _ (.skip) _ _ _; refine Ak ?_; first | show AW _ _ _ _ _ _ | show ∃ x', _ < _ ∧ _) | (show AW _ _ (.block _ _) _ _ _; refine A7 ?_; intro Q1) | (show AW _ _ (.exit _) _ _ _; refine Bi ?_; first | show AW _ _ _ _ _ _ | show ∃ x', _ < _ ∧ _) | (show AW _ _ (.ret) _ _ _; refine Ar ?_; try dsimp only [Aw, Aa, Au, Ac])
    | (show DL _ _ _ _ _ _ _; refine dl_d Y Y (fun K kt kf => Av hG Y Y Y Y Y kt kf) (fun h => ?_) (fun h => ?_))
    | (show DL _ _ _ _ _ _ _; refine dl_s Y Y Y ?_) | (show DL _ _ _ _ _ _ _; refine B3 ?_; first | show AW _ _ _ _ _ _ | show ∃ x', _ < _ ∧ _) | (show AW _ _ (.region _ _ true) _ _ _; refine Bq mix (by kernel_rfl) ?_; intro O1) | fail)
  exact Ba (Ao rfl A8) (.refl _) rfl
def okAt5 (df : UInt8) (l : List PR) (i : Nat) : Bool := decide ((l.getD i default).2.toNat ≤ 5) && decide ((l.getD i default).2 ≠ df) && (decide (i = 0) || decide ((l.getD (i - 1) default).1.toNat < (l.getD i default).1.toNat))
structure CnX (df : UInt8) (l : List PR) where
  i : Nat
  p : Nat
  hi : i ≤ l.length
  hn : ∀ j < i, okAt5 df l j = true
set_option maxHeartbeats 1000000 in
theorem ref_Canon {df : UInt8} {l : List PR} (hl : l.length ≤ 140737488351232) (hd : df.toNat ≤ 5) : Ts.Pure Try.prog 55 [.agg [bT df, .sl 2 .no (l.map pT)]] (.bool ((List.range l.length).all (okAt5 df l))) := by
  intro off
  refine Bp (N := 46) (rs := [.tmp 2]) hG Try.func55 rfl rfl rfl rfl rfl ?_
  repeat' (first
    | ((first | (show AL _ _ _ _ _ _ _ _; refine Ae Y ?_) | (show DL _ _ _ _ _ _ _; refine' Bx Y Y (fun K kk => ?_) ?_; try (show Go.Ts.T; rotate_left))); (first
      | (show AOp _ _ ⟨_, .move _, _, _, _, _⟩ _ _ _; refine Al hG Y Y ?_)
      | (show AOp _ _ ⟨_, .assign _, _, _, _, _⟩ _ _ _; refine A9 hG Y Y ?_)
      | (show AOp _ _ ⟨_, .call ⟨.builtin .len, _, _⟩, _, _, _, _⟩ _ _ _; first | refine Az hG Y Y Y Y ?_ | refine Bd hG Y Y Y Y Y ?_)
      | (show AOp _ _ ⟨_, .binOp .add _ _ _ _, _, _, _, _⟩ _ _ _; first | refine Am hG Y Y Y Y Y (by omega) ?_)
      | (show AOp _ _ ⟨_, .binOp .sub _ _ _ _, _, _, _, _⟩ _ _ _; first | refine Am hG Y Y Y Y Y (by omega) ?_)
      | (show AOp _ _ ⟨_, .binOp _ _ _ _ _, _, _, _, _⟩ _ _ _; first | refine Ap hG Y Y Y Y Y (by omega) ?_ | refine Aq hG Y Y Y Y Y (by omega) ?_ | ((fail_if_success have := kk); refine Av hG Y Y Y Y Y (fun h => ?_) (fun h => ?_)))
      | (show AOp _ _ ⟨_, .load _ _, _, _, _, _⟩ _ _ _; first | refine Bf hG Y Y Y ?_ | refine Ax 0 hG Y Y Y Y ?_ | refine Ax 1 hG Y Y Y Y ?_ | refine Ax 2 hG Y Y Y Y ?_)
      | (show AOp _ _ ⟨_, .indexAddr _ _ _, _, _, _, _⟩ _ _ _; first | refine Bg hG Y Y Y Y Y Y Y (by omega) ?_ | refine Bh hG Y Y Y Y Y Y Y (by omega) ?_ | refine Bt hG Y Y ?_)
      | (show AOp _ _ ⟨_, .pick _ _ _, _, _, _, _⟩ _ _ _; refine Bl hG Y Y Y ?_)
      | (show AOp _ _ ⟨_, .box _ _, _, _, _, _⟩ _ _ _; refine B1 hG Y Y Y (fun i => ?_))
      | (show AOp _ _ ⟨_, .alloc _, _, _, _, _⟩ _ _ _; refine Bv hG Y Y (fun i => ?_))
      | (show AOp _ _ ⟨_, .store _ _ _, _, _, _, _⟩ _ _ _; first | refine Bb 0 hG Y Y Y Y Y Y Y ?_ | refine Bb 1 hG Y Y Y Y Y Y Y ?_ | refine Bb 2 hG Y Y Y Y Y Y Y ?_)
      | refine r_q hG Y Y Y ?_); try exact kk)
    | (show AL _ _ _ _ _ _ _ _; first | refine Bj Y Y Y ?_ | (refine As ?_; first | show AW _ _ _ _ _ _ | show ∃ x', _ < _ ∧ _)) | (show AW _ _ (.seq _ _) _ _ _; refine Ah ?_; intro Q1) | (show AW _ _ (.region _ _ false) _ _ _; refine Ad ?_; intro O1) | (show AW _ _ (.cond _ _ _) _ _ _; first | refine Aj Y ?_ | refine Ai Y ?_) | (show AW _ _ (.skip) _ _ _; refine Ak ?_; first | show AW _ _ _ _ _ _ | show ∃ x', _ < _ ∧ _) | (show AW _ _ (.block _ _) _ _ _; refine A7 ?_; intro Q1) | (show AW _ _ (.exit _) _ _ _; refine Bi ?_; first | show AW _ _ _ _ _ _ | show ∃ x', _ < _ ∧ _) | (show AW _ _ (.ret) _ _ _; refine Ar ?_; try dsimp only [Aw, Aa, Au, Ac])
    | (show DL _ _ _ _ _ _ _; refine dl_d Y Y (fun K kt kf => Av hG Y Y Y Y Y kt kf) (fun h => ?_) (fun h => ?_))
    | (show DL _ _ _ _ _ _ _; refine dl_s Y Y Y ?_) | (show DL _ _ _ _ _ _ _; refine B3 ?_; first | show AW _ _ _ _ _ _ | show ∃ x', _ < _ ∧ _) | (show AW _ _ (.region _ _ true) _ _ _; refine Bq mix (by kernel_rfl) ?_; intro O1) | fail)
  refine aw_loop (X := CnX df l) (fun x => [(1, .ptr x.p 0), (3, .int .i64 x.i)]) (fun x => ⟨[(x.p, .cells [bT df, .sl 2 .no (l.map pT)])], [], off, none⟩) (fun x => l.length - x.i) ⟨0, i, Nat.zero_le _, fun j hj => by omega⟩ ?_ (.refl _) ?_
  · exact .cons rfl (.consW rfl (.int rfl) (.nil _))
  rintro ⟨j, p, hj, hn⟩
  dsimp only
  by_cases hjl : j < l.length
  · have no : okAt5 df l j = false → (List.range l.length).all (okAt5 df l) = false := fun h => by
      rw [List.all_eq_false]; exact ⟨j, List.mem_range.2 hjl, by rw [h]; decide⟩
    have hok : okAt5 df l j = (decide ((l.getD j default).2.toNat ≤ 5) && decide ((l.getD j default).2 ≠ df) && (decide (j = 0) || decide ((l.getD (j - 1) default).1.toNat < (l.getD j default).1.toNat))) := rfl
    by_cases c1 : (l.getD j default).2.toNat ≤ 5
    · rw [decide_eq_true c1] at hok
      by_cases c2 : (l.getD j default).2.toNat = df.toNat
      · have hf := no (by rw [hok, decide_eq_false (fun h => h (UInt8.toNat_inj.1 c2)), Bool.and_false, Bool.false_and])
        repeat' (first
    | ((first | (show AL _ _ _ _ _ _ _ _; refine Ae Y ?_) | (show DL _ _ _ _ _ _ _; refine' Bx Y Y (fun K kk => ?_) ?_; try (show Go.Ts.T; rotate_left))); (first
      | (show AOp _ _ ⟨_, .move _, _, _, _, _⟩ _ _ _; refine Al hG Y Y ?_)
      | (show AOp _ _ ⟨_, .assign _, _, _, _, _⟩ _ _ _; refine A9 hG Y Y ?_)
      | (show AOp _ _ ⟨_, .call ⟨.builtin .len, _, _⟩, _, _, _, _⟩ _ _ _; first | refine Az hG Y Y Y Y ?_ | refine Bd hG Y Y Y Y Y ?_)
      | (show AOp _ _ ⟨_, .binOp .add _ _ _ _, _, _, _, _⟩ _ _ _; first | refine Am hG Y Y Y Y Y (by omega) ?_)
      | (show AOp _ _ ⟨_, .binOp .sub _ _ _ _, _, _, _, _⟩ _ _ _; first | refine Am hG Y Y Y Y Y (by omega) ?_)
      | (show AOp _ _ ⟨_, .binOp _ _ _ _ _, _, _, _, _⟩ _ _ _; first | refine Ap hG Y Y Y Y Y (by omega) ?_ | refine Aq hG Y Y Y Y Y (by omega) ?_ | ((fail_if_success have := kk); refine Av hG Y Y Y Y Y (fun h => ?_) (fun h => ?_)))
      | (show AOp _ _ ⟨_, .load _ _, _, _, _, _⟩ _ _ _; first | refine Bf hG Y Y Y ?_ | refine Ax 0 hG Y Y Y Y ?_ | refine Ax 1 hG Y Y Y Y ?_ | refine Ax 2 hG Y Y Y Y ?_)
      | (show AOp _ _ ⟨_, .indexAddr _ _ _, _, _, _, _⟩ _ _ _; first | refine Bg hG Y Y Y Y Y Y Y (by omega) ?_ | refine Bh hG Y Y Y Y Y Y Y (by omega) ?_ | refine Bt hG Y Y ?_)
      | (show AOp _ _ ⟨_, .pick _ _ _, _, _, _, _⟩ _ _ _; refine Bl hG Y Y Y ?_)
      | (show AOp _ _ ⟨_, .box _ _, _, _, _, _⟩ _ _ _; refine B1 hG Y Y Y (fun i => ?_))
      | (show AOp _ _ ⟨_, .alloc _, _, _, _, _⟩ _ _ _; refine Bv hG Y Y (fun i => ?_))
      | (show AOp _ _ ⟨_, .store _ _ _, _, _, _, _⟩ _ _ _; first | refine Bb 0 hG Y Y Y Y Y Y Y ?_ | refine Bb 1 hG Y Y Y Y Y Y Y ?_ | refine Bb 2 hG Y Y Y Y Y Y Y ?_)
      | refine r_q hG Y Y Y ?_); try exact kk)
    | (show AL _ _ _ _ _ _ _ _; first | refine Bj Y Y Y ?_ | (refine As ?_; first | show AW _ _ _ _ _ _ | show ∃ x', _ < _ ∧ _)) | (show AW _ _ (.seq _ _) _ _ _; refine Ah ?_; intro Q1) | (show AW _ _ (.region _ _ false) _ _ _; refine Ad ?_; intro O1) | (show AW _ _ (.cond _ _ _) _ _ _; first | refine Aj Y ?_ | refine Ai Y ?_) | (show AW _ _ (.skip) _ _ _; refine Ak ?_; first | show AW _ _ _ _ _ _ | show ∃ x', _ < _ ∧ _) | (show AW _ _ (.block _ _) _ _ _; refine A7 ?_; intro Q1) | (show AW _ _ (.exit _) _ _ _; refine Bi ?_; first | show AW _ _ _ _ _ _ | show ∃ x', _ < _ ∧ _) | (show AW _ _ (.ret) _ _ _; refine Ar ?_; try dsimp only [Aw, Aa, Au, Ac])
    | (show DL _ _ _ _ _ _ _; refine dl_d Y Y (fun K kt kf => Av hG Y Y Y Y Y kt kf) (fun h => ?_) (fun h => ?_))
    | (show DL _ _ _ _ _ _ _; refine dl_s Y Y Y ?_) | (show DL _ _ _ _ _ _ _; refine B3 ?_; first | show AW _ _ _ _ _ _ | show ∃ x', _ < _ ∧ _) | (show AW _ _ (.region _ _ true) _ _ _; refine Bq mix (by kernel_rfl) ?_; intro O1) | fail)
        exact Ba (Ao rfl A8) (.eq (by rw [hf]; rfl)) rfl
      · have c2' : (l.getD j default).2 ≠ df := fun e => c2 (by rw [e])
        rw [decide_eq_true c2'] at hok
        by_cases c3 : j = 0
        · subst c3
          repeat' (first
    | ((first | (show AL _ _ _ _ _ _ _ _; refine Ae Y ?_) | (show DL _ _ _ _ _ _ _; refine' Bx Y Y (fun K kk => ?_) ?_; try (show Go.Ts.T; rotate_left))); (first
      | (show AOp _ _ ⟨_, .move _, _, _, _, _⟩ _ _ _; refine Al hG Y Y ?_)
      | (show AOp _ _ ⟨_, .assign _, _, _, _, _⟩ _ _ _; refine A9 hG Y Y ?_)
      | (show AOp _ _ ⟨_, .call ⟨.builtin .len, _, _⟩, _, _, _, _⟩ _ _ _; first | refine Az hG Y Y Y Y ?_ | refine Bd hG Y Y Y Y Y ?_)
      | (show AOp _ _ ⟨_, .binOp .add _ _ _ _, _, _, _, _⟩ _ _ _; first | refine Am hG Y Y Y Y Y (by omega) ?_)
      | (show AOp _ _ ⟨_, .binOp .sub _ _ _ _, _, _, _, _⟩ _ _ _; first | refine Am hG Y Y Y Y Y (by omega) ?_)
      | (show AOp _ _ ⟨_, .binOp _ _ _ _ _, _, _, _, _⟩ _ _ _; first | refine Ap hG Y Y Y Y Y (by omega) ?_ | refine Aq hG Y Y Y Y Y (by omega) ?_ | ((fail_if_success have := kk); refine Av hG Y Y Y Y Y (fun h => ?_) (fun h => ?_)))
      | (show AOp _ _ ⟨_, .load _ _, _, _, _, _⟩ _ _ _; first | refine Bf hG Y Y Y ?_ | refine Ax 0 hG Y Y Y Y ?_ | refine Ax 1 hG Y Y Y Y ?_ | refine Ax 2 hG Y Y Y Y ?_)
      | (show AOp _ _ ⟨_, .indexAddr _ _ _, _, _, _, _⟩ _ _ _; first | refine Bg hG Y Y Y Y Y Y Y (by omega) ?_ | refine Bh hG Y Y Y Y Y Y Y (by omega) ?_ | refine Bt hG Y Y ?_)
      | (show AOp _ _ ⟨_, .pick _ _ _, _, _, _, _⟩ _ _ _; refine Bl hG Y Y Y ?_)
      | (show AOp _ _ ⟨_, .box _ _, _, _, _, _⟩ _ _ _; refine B1 hG Y Y Y (fun i => ?_))
      | (show AOp _ _ ⟨_, .alloc _, _, _, _, _⟩ _ _ _; refine Bv hG Y Y (fun i => ?_))
      | (show AOp _ _ ⟨_, .store _ _ _, _, _, _, _⟩ _ _ _; first | refine Bb 0 hG Y Y Y Y Y Y Y ?_ | refine Bb 1 hG Y Y Y Y Y Y Y ?_ | refine Bb 2 hG Y Y Y Y Y Y Y ?_)
      | refine r_q hG Y Y Y ?_); try exact kk)
    | (show AL _ _ _ _ _ _ _ _; first | refine Bj Y Y Y ?_ | (refine As ?_; first | show AW _ _ _ _ _ _ | show ∃ x', _ < _ ∧ _)) | (show AW _ _ (.seq _ _) _ _ _; refine Ah ?_; intro Q1) | (show AW _ _ (.region _ _ false) _ _ _; refine Ad ?_; intro O1) | (show AW _ _ (.cond _ _ _) _ _ _; first | refine Aj Y ?_ | refine Ai Y ?_) | (show AW _ _ (.skip) _ _ _; refine Ak ?_; first | show AW _ _ _ _ _ _ | show ∃ x', _ < _ ∧ _) | (show AW _ _ (.block _ _) _ _ _; refine A7 ?_; intro Q1) | (show AW _ _ (.exit _) _ _ _; refine Bi ?_; first | show AW _ _ _ _ _ _ | show ∃ x', _ < _ ∧ _) | (show AW _ _ (.ret) _ _ _; refine Ar ?_; try dsimp only [Aw, Aa, Au, Ac])
    | (show DL _ _ _ _ _ _ _; refine dl_d Y Y (fun K kt kf => Av hG Y Y Y Y Y kt kf) (fun h => ?_) (fun h => ?_))
    | (show DL _ _ _ _ _ _ _; refine dl_s Y Y Y ?_) | (show DL _ _ _ _ _ _ _; refine B3 ?_; first | show AW _ _ _ _ _ _ | show ∃ x', _ < _ ∧ _) | (show AW _ _ (.region _ _ true) _ _ _; refine Bq mix (by kernel_rfl) ?_; intro O1) | fail)
          refine ⟨⟨1, p, by omega, fun j hj => ?_⟩, by dsimp only; omega, ?_, drop_1⟩
          · obtain rfl : j = 0 := by omega
            rw [hok]; rfl
          · exact .cons rfl (.consW rfl (.int (by simp)) (.nil _))
        · have e : ((j : Int) - 1).toNat = j - 1 := by omega
          by_cases c4 : (l.getD ((j : Int) - 1).toNat default).1.toNat < (l.getD j default).1.toNat
          · repeat' (first
    | ((first | (show AL _ _ _ _ _ _ _ _; refine Ae Y ?_) | (show DL _ _ _ _ _ _ _; refine' Bx Y Y (fun K kk => ?_) ?_; try (show Go.Ts.T; rotate_left))); (first
      | (show AOp _ _ ⟨_, .move _, _, _, _, _⟩ _ _ _; refine Al hG Y Y ?_)
      | (show AOp _ _ ⟨_, .assign _, _, _, _, _⟩ _ _ _; refine A9 hG Y Y ?_)
      | (show AOp _ _ ⟨_, .call ⟨.builtin .len, _, _⟩, _, _, _, _⟩ _ _ _; first | refine Az hG Y Y Y Y ?_ | refine Bd hG Y Y Y Y Y ?_)
      | (show AOp _ _ ⟨_, .binOp .add _ _ _ _, _, _, _, _⟩ _ _ _; first | refine Am hG Y Y Y Y Y (by omega) ?_)
      | (show AOp _ _ ⟨_, .binOp .sub _ _ _ _, _, _, _, _⟩ _ _ _; first | refine Am hG Y Y Y Y Y (by omega) ?_)
      | (show AOp _ _ ⟨_, .binOp _ _ _ _ _, _, _, _, _⟩ _ _ _; first | refine Ap hG Y Y Y Y Y (by omega) ?_ | refine Aq hG Y Y Y Y Y (by omega) ?_ | ((fail_if_success have := kk); refine Av hG Y Y Y Y Y (fun h => ?_) (fun h => ?_)))
      | (show AOp _ _ ⟨_, .load _ _, _, _, _, _⟩ _ _ _; first | refine Bf hG Y Y Y ?_ | refine Ax 0 hG Y Y Y Y ?_ | refine Ax 1 hG Y Y Y Y ?_ | refine Ax 2 hG Y Y Y Y ?_)
      | (show AOp _ _ ⟨_, .indexAddr _ _ _, _, _, _, _⟩ _ _ _; first | refine Bg hG Y Y Y Y Y Y Y (by omega) ?_ | refine Bh hG Y Y Y Y Y Y Y (by omega) ?_ | refine Bt hG Y Y ?_)
      | (show AOp _ _ ⟨_, .pick _ _ _, _, _, _, _⟩ _ _ _; refine Bl hG Y Y Y ?_)
      | (show AOp _ _ ⟨_, .box _ _, _, _, _, _⟩ _ _ _; refine B1 hG Y Y Y (fun i => ?_))
      | (show AOp _ _ ⟨_, .alloc _, _, _, _, _⟩ _ _ _; refine Bv hG Y Y (fun i => ?_))
      | (show AOp _ _ ⟨_, .store _ _ _, _, _, _, _⟩ _ _ _; first | refine Bb 0 hG Y Y Y Y Y Y Y ?_ | refine Bb 1 hG Y Y Y Y Y Y Y ?_ | refine Bb 2 hG Y Y Y Y Y Y Y ?_)
      | refine r_q hG Y Y Y ?_); try exact kk)
    | (show AL _ _ _ _ _ _ _ _; first | refine Bj Y Y Y ?_ | (refine As ?_; first | show AW _ _ _ _ _ _ | show ∃ x', _ < _ ∧ _)) | (show AW _ _ (.seq _ _) _ _ _; refine Ah ?_; intro Q1) | (show AW _ _ (.region _ _ false) _ _ _; refine Ad ?_; intro O1) | (show AW _ _ (.cond _ _ _) _ _ _; first | refine Aj Y ?_ | refine Ai Y ?_) | (show AW _ _ (.skip) _ _ _; refine Ak ?_; first | show AW _ _ _ _ _ _ | show ∃ x', _ < _ ∧ _) | (show AW _ _ (.block _ _) _ _ _; refine A7 ?_; intro Q1) | (show AW _ _ (.exit _) _ _ _; refine Bi ?_; first | show AW _ _ _ _ _ _ | show ∃ x', _ < _ ∧ _) | (show AW _ _ (.ret) _ _ _; refine Ar ?_; try dsimp only [Aw, Aa, Au, Ac])
    | (show DL _ _ _ _ _ _ _; refine dl_d Y Y (fun K kt kf => Av hG Y Y Y Y Y kt kf) (fun h => ?_) (fun h => ?_))
    | (show DL _ _ _ _ _ _ _; refine dl_s Y Y Y ?_) | (show DL _ _ _ _ _ _ _; refine B3 ?_; first | show AW _ _ _ _ _ _ | show ∃ x', _ < _ ∧ _) | (show AW _ _ (.region _ _ true) _ _ _; refine Bq mix (by kernel_rfl) ?_; intro O1) | fail)
            rw [e] at c4
            refine ⟨⟨j + 1, p, by omega, fun q hq => ?_⟩, by dsimp only; omega, ?_, drop_1⟩
            · rcases Nat.lt_succ_iff_lt_or_eq.1 hq with h | rfl
              · exact hn q h
              · rw [hok, decide_eq_true c4]; simp
            · exact .cons rfl (.consW rfl (.int (by simp)) (.nil _))
          · have hf := no (by rw [hok, ← e, decide_eq_false c4, decide_eq_false c3]; rfl)
            repeat' (first
    | ((first | (show AL _ _ _ _ _ _ _ _; refine Ae Y ?_) | (show DL _ _ _ _ _ _ _; refine' Bx Y Y (fun K kk => ?_) ?_; try (show Go.Ts.T; rotate_left))); (first
      | (show AOp _ _ ⟨_, .move _, _, _, _, _⟩ _ _ _; refine Al hG Y Y ?_)
      | (show AOp _ _ ⟨_, .assign _, _, _, _, _⟩ _ _ _; refine A9 hG Y Y ?_)
      | (show AOp _ _ ⟨_, .call ⟨.builtin .len, _, _⟩, _, _, _, _⟩ _ _ _; first | refine Az hG Y Y Y Y ?_ | refine Bd hG Y Y Y Y Y ?_)
      | (show AOp _ _ ⟨_, .binOp .add _ _ _ _, _, _, _, _⟩ _ _ _; first | refine Am hG Y Y Y Y Y (by omega) ?_)
      | (show AOp _ _ ⟨_, .binOp .sub _ _ _ _, _, _, _, _⟩ _ _ _; first | refine Am hG Y Y Y Y Y (by omega) ?_)
      | (show AOp _ _ ⟨_, .binOp _ _ _ _ _, _, _, _, _⟩ _ _ _; first | refine Ap hG Y Y Y Y Y (by omega) ?_ | refine Aq hG Y Y Y Y Y (by omega) ?_ | ((fail_if_success have := kk); refine Av hG Y Y Y Y Y (fun h => ?_) (fun h => ?_)))
      | (show AOp _ _ ⟨_, .load _ _, _, _, _, _⟩ _ _ _; first | refine Bf hG Y Y Y ?_ | refine Ax 0 hG Y Y Y Y ?_ | refine Ax 1 hG Y Y Y Y ?_ | refine Ax 2 hG Y Y Y Y ?_)
      | (show AOp _ _ ⟨_, .indexAddr _ _ _, _, _, _, _⟩ _ _ _; first | refine Bg hG Y Y Y Y Y Y Y (by omega) ?_ | refine Bh hG Y Y Y Y Y Y Y (by omega) ?_ | refine Bt hG Y Y ?_)
      | (show AOp _ _ ⟨_, .pick _ _ _, _, _, _, _⟩ _ _ _; refine Bl hG Y Y Y ?_)
      | (show AOp _ _ ⟨_, .box _ _, _, _, _, _⟩ _ _ _; refine B1 hG Y Y Y (fun i => ?_))
      | (show AOp _ _ ⟨_, .alloc _, _, _, _, _⟩ _ _ _; refine Bv hG Y Y (fun i => ?_))
      | (show AOp _ _ ⟨_, .store _ _ _, _, _, _, _⟩ _ _ _; first | refine Bb 0 hG Y Y Y Y Y Y Y ?_ | refine Bb 1 hG Y Y Y Y Y Y Y ?_ | refine Bb 2 hG Y Y Y Y Y Y Y ?_)
      | refine r_q hG Y Y Y ?_); try exact kk)
    | (show AL _ _ _ _ _ _ _ _; first | refine Bj Y Y Y ?_ | (refine As ?_; first | show AW _ _ _ _ _ _ | show ∃ x', _ < _ ∧ _)) | (show AW _ _ (.seq _ _) _ _ _; refine Ah ?_; intro Q1) | (show AW _ _ (.region _ _ false) _ _ _; refine Ad ?_; intro O1) | (show AW _ _ (.cond _ _ _) _ _ _; first | refine Aj Y ?_ | refine Ai Y ?_) | (show AW _ _ (.skip) _ _ _; refine Ak ?_; first | show AW _ _ _ _ _ _ | show ∃ x', _ < _ ∧ _) | (show AW _ _ (.block _ _) _ _ _; refine A7 ?_; intro Q1) | (show AW _ _ (.exit _) _ _ _; refine Bi ?_; first | show AW _ _ _ _ _ _ | show ∃ x', _ < _ ∧ _) | (show AW _ _ (.ret) _ _ _; refine Ar ?_; try dsimp only [Aw, Aa, Au, Ac])
    | (show DL _ _ _ _ _ _ _; refine dl_d Y Y (fun K kt kf => Av hG Y Y Y Y Y kt kf) (fun h => ?_) (fun h => ?_))
    | (show DL _ _ _ _ _ _ _; refine dl_s Y Y Y ?_) | (show DL _ _ _ _ _ _ _; refine B3 ?_; first | show AW _ _ _ _ _ _ | show ∃ x', _ < _ ∧ _) | (show AW _ _ (.region _ _ true) _ _ _; refine Bq mix (by kernel_rfl) ?_; intro O1) | fail)
            exact Ba (Ao rfl A8) (.eq (by rw [hf]; rfl)) rfl
    · rw [decide_eq_false c1] at hok
      have hf := no (by rw [hok]; rfl)
      repeat' (first
    | ((first | (show AL _ _ _ _ _ _ _ _; refine Ae Y ?_) | (show DL _ _ _ _ _ _ _; refine' Bx Y Y (fun K kk => ?_) ?_; try (show Go.Ts.T; rotate_left))); (first
      | (show AOp _ _ ⟨_, .move _, _, _, _, _⟩ _ _ _; refine Al hG Y Y ?_)
      | (show AOp _ _ ⟨_, .assign _, _, _, _, _⟩ _ _ _; refine A9 hG Y Y ?_)
      | (show AOp _ _ ⟨_, .call ⟨.builtin .len, _, _⟩, _, _, _, _⟩ _ _ _; first | refine Az hG Y Y Y Y ?_ | refine Bd hG Y Y Y Y Y ?_)
      | (show AOp _ _ ⟨_, .binOp .add _ _ _ _, _, _, _, _⟩ _ _ _; first | refine Am hG Y Y Y Y Y (by omega) ?_)
      | (show AOp _ _ ⟨_, .binOp .sub _ _ _ _, _, _, _, _⟩ _ _ _; first | refine Am hG Y Y Y Y Y (by omega) ?_)
      | (show AOp _ _ ⟨_, .binOp _ _ _ _ _, _, _, _, _⟩ _ _ _; first | refine Ap hG Y Y Y Y Y (by omega) ?_ | refine Aq hG Y Y Y Y Y (by omega) ?_ | ((fail_if_success have := kk); refine Av hG Y Y Y Y Y (fun h => ?_) (fun h => ?_)))
      | (show AOp _ _ ⟨_, .load _ _, _, _, _, _⟩ _ _ _; first | refine Bf hG Y Y Y ?_ | refine Ax 0 hG Y Y Y Y ?_ | refine Ax 1 hG Y Y Y Y ?_ | refine Ax 2 hG Y Y Y Y ?_)
      | (show AOp _ _ ⟨_, .indexAddr _ _ _, _, _, _, _⟩ _ _ _; first | refine Bg hG Y Y Y Y Y Y Y (by omega) ?_ | refine Bh hG Y Y Y Y Y Y Y (by omega) ?_ | refine Bt hG Y Y ?_)
      | (show AOp _ _ ⟨_, .pick _ _ _, _, _, _, _⟩ _ _ _; refine Bl hG Y Y Y ?_)
      | (show AOp _ _ ⟨_, .box _ _, _, _, _, _⟩ _ _ _; refine B1 hG Y Y Y (fun i => ?_))
      | (show AOp _ _ ⟨_, .alloc _, _, _, _, _⟩ _ _ _; refine Bv hG Y Y (fun i => ?_))
      | (show AOp _ _ ⟨_, .store _ _ _, _, _, _, _⟩ _ _ _; first | refine Bb 0 hG Y Y Y Y Y Y Y ?_ | refine Bb 1 hG Y Y Y Y Y Y Y ?_ | refine Bb 2 hG Y Y Y Y Y Y Y ?_)
      | refine r_q hG Y Y Y ?_); try exact kk)
    | (show AL _ _ _ _ _ _ _ _; first | refine Bj Y Y Y ?_ | (refine As ?_; first | show AW _ _ _ _ _ _ | show ∃ x', _ < _ ∧ _)) | (show AW _ _ (.seq _ _) _ _ _; refine Ah ?_; intro Q1) | (show AW _ _ (.region _ _ false) _ _ _; refine Ad ?_; intro O1) | (show AW _ _ (.cond _ _ _) _ _ _; first | refine Aj Y ?_ | refine Ai Y ?_) | (show AW _ _ (.skip) _ _ _; refine Ak ?_; first | show AW _ _ _ _ _ _ | show ∃ x', _ < _ ∧ _) | (show AW _ _ (.block _ _) _ _ _; refine A7 ?_; intro Q1) | (show AW _ _ (.exit _) _ _ _; refine Bi ?_; first | show AW _ _ _ _ _ _ | show ∃ x', _ < _ ∧ _) | (show AW _ _ (.ret) _ _ _; refine Ar ?_; try dsimp only [Aw, Aa, Au, Ac])
    | (show DL _ _ _ _ _ _ _; refine dl_d Y Y (fun K kt kf => Av hG Y Y Y Y Y kt kf) (fun h => ?_) (fun h => ?_))
    | (show DL _ _ _ _ _ _ _; refine dl_s Y Y Y ?_) | (show DL _ _ _ _ _ _ _; refine B3 ?_; first | show AW _ _ _ _ _ _ | show ∃ x', _ < _ ∧ _) | (show AW _ _ (.region _ _ true) _ _ _; refine Bq mix (by kernel_rfl) ?_; intro O1) | fail)
      exact Ba (Ao rfl A8) (.eq (by rw [hf]; rfl)) rfl
  · obtain rfl : j = l.length := by omega
    repeat' (first
    | ((first | (show AL _ _ _ _ _ _ _ _; refine Ae Y ?_) | (show DL _ _ _ _ _ _ _; refine' Bx Y Y (fun K kk => ?_) ?_; try (show Go.Ts.T; rotate_left))); (first
      | (show AOp _ _ ⟨_, .move _, _, _, _, _⟩ _ _ _; refine Al hG Y Y ?_)
      | (show AOp _ _ ⟨_, .assign _, _, _, _, _⟩ _ _ _; refine A9 hG Y Y ?_)
      | (show AOp _ _ ⟨_, .call ⟨.builtin .len, _, _⟩, _, _, _, _⟩ _ _ _; first | refine Az hG Y Y Y Y ?_ | refine Bd hG Y Y Y Y Y ?_)
      | (show AOp _ _ ⟨_, .binOp .add _ _ _ _, _, _, _, _⟩ _ _ _; first | refine Am hG Y Y Y Y Y (by omega) ?_)
      | (show AOp _ _ ⟨_, .binOp .sub _ _ _ _, _, _, _, _⟩ _ _ _; first | refine Am hG Y Y Y Y Y (by omega) ?_)
      | (show AOp _ _ ⟨_, .binOp _ _ _ _ _, _, _, _, _⟩ _ _ _; first | refine Ap hG Y Y Y Y Y (by omega) ?_ | refine Aq hG Y Y Y Y Y (by omega) ?_ | ((fail_if_success have := kk); refine Av hG Y Y Y Y Y (fun h => ?_) (fun h => ?_)))
      | (show AOp _ _ ⟨_, .load _ _, _, _, _, _⟩ _ _ _; first | refine Bf hG Y Y Y ?_ | refine Ax 0 hG Y Y Y Y ?_ | refine Ax 1 hG Y Y Y Y ?_ | refine Ax 2 hG Y Y Y Y ?_)
      | (show AOp _ _ ⟨_, .indexAddr _ _ _, _, _, _, _⟩ _ _ _; first | refine Bg hG Y Y Y Y Y Y Y (by omega) ?_ | refine Bh hG Y Y Y Y Y Y Y (by omega) ?_ | refine Bt hG Y Y ?_)
      | (show AOp _ _ ⟨_, .pick _ _ _, _, _, _, _⟩ _ _ _; refine Bl hG Y Y Y ?_)
      | (show AOp _ _ ⟨_, .box _ _, _, _, _, _⟩ _ _ _; refine B1 hG Y Y Y (fun i => ?_))
      | (show AOp _ _ ⟨_, .alloc _, _, _, _, _⟩ _ _ _; refine Bv hG Y Y (fun i => ?_))
      | (show AOp _ _ ⟨_, .store _ _ _, _, _, _, _⟩ _ _ _; first | refine Bb 0 hG Y Y Y Y Y Y Y ?_ | refine Bb 1 hG Y Y Y Y Y Y Y ?_ | refine Bb 2 hG Y Y Y Y Y Y Y ?_)
      | refine r_q hG Y Y Y ?_); try exact kk)
    | (show AL _ _ _ _ _ _ _ _; first | refine Bj Y Y Y ?_ | (refine As ?_; first | show AW _ _ _ _ _ _ | show ∃ x', _ < _ ∧ _)) | (show AW _ _ (.seq _ _) _ _ _; refine Ah ?_; intro Q1) | (show AW _ _ (.region _ _ false) _ _ _; refine Ad ?_; intro O1) | (show AW _ _ (.cond _ _ _) _ _ _; first | refine Aj Y ?_ | refine Ai Y ?_) | (show AW _ _ (.skip) _ _ _; refine Ak ?_; first | show AW _ _ _ _ _ _ | show ∃ x', _ < _ ∧ _) | (show AW _ _ (.block _ _) _ _ _; refine A7 ?_; intro Q1) | (show AW _ _ (.exit _) _ _ _; refine Bi ?_; first | show AW _ _ _ _ _ _ | show ∃ x', _ < _ ∧ _) | (show AW _ _ (.ret) _ _ _; refine Ar ?_; try dsimp only [Aw, Aa, Au, Ac])
    | (show DL _ _ _ _ _ _ _; refine dl_d Y Y (fun K kt kf => Av hG Y Y Y Y Y kt kf) (fun h => ?_) (fun h => ?_))
    | (show DL _ _ _ _ _ _ _; refine dl_s Y Y Y ?_) | (show DL _ _ _ _ _ _ _; refine B3 ?_; first | show AW _ _ _ _ _ _ | show ∃ x', _ < _ ∧ _) | (show AW _ _ (.region _ _ true) _ _ _; refine Bq mix (by kernel_rfl) ?_; intro O1) | fail)
    exact Ba (Ao rfl A8) (.eq (by rw [List.all_eq_true.2 fun q hq => hn q (List.mem_range.1 hq)]; rfl)) rfl
theorem mayLab_canon {df : UInt8} {l : List PR} : mayLab df l = (decide (1 ≤ df.toNat ∧ df.toNat ≤ 4) && decide (l.length ≤ 16) && (List.range l.length).all (okAt5 df l) && l.all fun p => decide (p.2.toNat ≤ 4)) := by
  unfold mayLab
  rw [Bool.and_assoc (decide (1 ≤ df.toNat ∧ df.toNat ≤ 4) && decide (l.length ≤ 16))]
  congr 1
  rw [Bool.eq_iff_iff]
  simp only [Bool.and_eq_true, List.all_eq_true, List.mem_range]
  constructor
  · intro h
    refine ⟨fun j hj => ?_, fun p hp => ?_⟩
    · have := h j hj
      unfold okAt okP at this
      unfold okAt5
      simp only [Bool.and_eq_true, decide_eq_true_eq] at this ⊢
      exact ⟨⟨by omega, this.1.2⟩, this.2⟩
    · obtain ⟨j, hj, rfl⟩ := List.mem_iff_getElem.1 hp
      have := h j hj
      unfold okAt okP at this
      simp only [Bool.and_eq_true, decide_eq_true_eq] at this
      have h1 := this.1.1
      rw [List.getD_eq_getElem?_getD, List.getElem?_eq_getElem hj] at h1
      exact decide_eq_true h1
  · rintro ⟨h1, h2⟩ j hj
    have h3 := h1 j hj
    have h4 := h2 (l.getD j default) (by rw [List.getD_eq_getElem?_getD, List.getElem?_eq_getElem hj]; exact List.getElem_mem hj)
    unfold okAt5 at h3
    unfold okAt okP
    simp only [Bool.and_eq_true, decide_eq_true_eq] at h3 h4 ⊢
    exact ⟨⟨h4, h3.1.2⟩, h3.2⟩
structure MlX (l : List PR) where
  i : Nat
  hi : i ≤ l.length
  hn : ∀ j < i, (l.getD j default).2.toNat ≤ 4
theorem ref_MayLab {df : UInt8} {l : List PR} (hl : l.length ≤ 140737488351232) : Ts.Pure Try.prog 34 [.agg [bT df, .sl 2 .no (l.map pT)]] (.bool (mayLab df l)) := by
  have hm := mayLab_canon (df := df) (l := l)
  intro off
  by_cases h0 : df.toNat ≤ 5
  · have hC := ref_Canon (df := df) (l := l) hl h0
    cases q : (List.range l.length).all (okAt5 df l) <;> rw [q] at hC hm
    · have hf : mayLab df l = false := by rw [hm]; simp
      rw [hf]
      refine Bp (N := 37) (rs := [.tmp 2]) hG Try.func34 rfl rfl rfl rfl rfl ?_
      repeat' (first
    | ((show AL _ _ _ _ _ _ _ _; refine Ae Y ?_); (first
      | (show AOp _ _ ⟨_, .move _, _, _, _, _⟩ _ _ _; refine Al hG Y Y ?_)
      | (show AOp _ _ ⟨_, .assign _, _, _, _, _⟩ _ _ _; refine A9 hG Y Y ?_)
      | (show AOp _ _ ⟨_, .call ⟨.builtin .len, _, _⟩, _, _, _, _⟩ _ _ _; first | refine Az hG Y Y Y Y ?_ | refine Bd hG Y Y Y Y Y ?_)
      | (show AOp _ _ ⟨_, .binOp .add _ _ _ _, _, _, _, _⟩ _ _ _; first | refine Am hG Y Y Y Y Y (by omega) ?_)
      | (show AOp _ _ ⟨_, .binOp _ _ _ _ _, _, _, _, _⟩ _ _ _; first | refine Ap hG Y Y Y Y Y (by omega) ?_ | refine Aq hG Y Y Y Y Y (by omega) ?_ | (refine Av hG Y Y Y Y Y (fun h => ?_) (fun h => ?_)))
      | (show AOp _ _ ⟨_, .load _ _, _, _, _, _⟩ _ _ _; first | refine Bf hG Y Y Y ?_ | refine Ax 0 hG Y Y Y Y ?_ | refine Ax 1 hG Y Y Y Y ?_)
      | (show AOp _ _ ⟨_, .indexAddr _ _ _, _, _, _, _⟩ _ _ _; first | refine Bg hG Y Y Y Y Y Y Y (by omega) ?_ | refine Bh hG Y Y Y Y Y Y Y (by omega) ?_ | refine Bt hG Y Y ?_)
      | (show AOp _ _ ⟨_, .pick _ _ _, _, _, _, _⟩ _ _ _; refine Bl hG Y Y Y ?_)
      | (show AOp _ _ ⟨_, .unOp _ _ _, _, _, _, _⟩ _ _ _; refine B2 hG Y Y Y ?_)
      | (show AOp _ _ ⟨_, .box _ _, _, _, _, _⟩ _ _ _; refine B1 hG Y Y Y (fun i => ?_))
      | (show AOp _ _ ⟨_, .call ⟨.value _, _, _⟩, _, _, _, _⟩ _ _ _; first | refine Bc Y Y Y Y Y (by apply hC <;> (first | assumption | omega | exact Ab _ _ | exact Af _ | exact Ag _ _ | exact Ay _ | rfl | (simp; omega))) ?_ | fail)
      | refine r_q hG Y Y Y ?_))
    | (show AL _ _ _ _ _ _ _ _; first | refine Bj Y Y Y ?_ | (refine As ?_; first | show AW _ _ _ _ _ _ | show ∃ x', _ < _ ∧ _)) | (show AW _ _ (.seq _ _) _ _ _; refine Ah ?_; intro Q1) | (show AW _ _ (.region _ _ false) _ _ _; refine Ad ?_; intro O1) | (show AW _ _ (.cond _ _ _) _ _ _; first | refine Aj Y ?_ | refine Ai Y ?_) | (show AW _ _ (.skip) _ _ _; refine Ak ?_; first | show AW _ _ _ _ _ _ | show ∃ x', _ < _ ∧ _) | (show AW _ _ (.block _ _) _ _ _; refine A7 ?_; intro Q1) | (show AW _ _ (.exit _) _ _ _; refine Bi ?_; first | show AW _ _ _ _ _ _ | show ∃ x', _ < _ ∧ _) | (show AW _ _ (.ret) _ _ _; refine Ar ?_; try dsimp only [Aw, Aa, Au, Ac]) | fail)
      exact Ba (Ao rfl A8) (.refl _) rfl
    by_cases h1 : 1 ≤ df.toNat ∧ df.toNat ≤ 4
    · by_cases h2 : l.length ≤ 16
      · rw [decide_eq_true h1, decide_eq_true h2] at hm
        refine Bp (N := 37) (rs := [.tmp 2]) hG Try.func34 rfl rfl rfl rfl rfl ?_
        repeat' (first
    | ((show AL _ _ _ _ _ _ _ _; refine Ae Y ?_); (first
      | (show AOp _ _ ⟨_, .move _, _, _, _, _⟩ _ _ _; refine Al hG Y Y ?_)
      | (show AOp _ _ ⟨_, .assign _, _, _, _, _⟩ _ _ _; refine A9 hG Y Y ?_)
      | (show AOp _ _ ⟨_, .call ⟨.builtin .len, _, _⟩, _, _, _, _⟩ _ _ _; first | refine Az hG Y Y Y Y ?_ | refine Bd hG Y Y Y Y Y ?_)
      | (show AOp _ _ ⟨_, .binOp .add _ _ _ _, _, _, _, _⟩ _ _ _; first | refine Am hG Y Y Y Y Y (by omega) ?_)
      | (show AOp _ _ ⟨_, .binOp _ _ _ _ _, _, _, _, _⟩ _ _ _; first | refine Ap hG Y Y Y Y Y (by omega) ?_ | refine Aq hG Y Y Y Y Y (by omega) ?_ | (refine Av hG Y Y Y Y Y (fun h => ?_) (fun h => ?_)))
      | (show AOp _ _ ⟨_, .load _ _, _, _, _, _⟩ _ _ _; first | refine Bf hG Y Y Y ?_ | refine Ax 0 hG Y Y Y Y ?_ | refine Ax 1 hG Y Y Y Y ?_)
      | (show AOp _ _ ⟨_, .indexAddr _ _ _, _, _, _, _⟩ _ _ _; first | refine Bg hG Y Y Y Y Y Y Y (by omega) ?_ | refine Bh hG Y Y Y Y Y Y Y (by omega) ?_ | refine Bt hG Y Y ?_)
      | (show AOp _ _ ⟨_, .pick _ _ _, _, _, _, _⟩ _ _ _; refine Bl hG Y Y Y ?_)
      | (show AOp _ _ ⟨_, .unOp _ _ _, _, _, _, _⟩ _ _ _; refine B2 hG Y Y Y ?_)
      | (show AOp _ _ ⟨_, .box _ _, _, _, _, _⟩ _ _ _; refine B1 hG Y Y Y (fun i => ?_))
      | (show AOp _ _ ⟨_, .call ⟨.value _, _, _⟩, _, _, _, _⟩ _ _ _; first | refine Bc Y Y Y Y Y (by apply hC <;> (first | assumption | omega | exact Ab _ _ | exact Af _ | exact Ag _ _ | exact Ay _ | rfl | (simp; omega))) ?_ | fail)
      | refine r_q hG Y Y Y ?_))
    | (show AL _ _ _ _ _ _ _ _; first | refine Bj Y Y Y ?_ | (refine As ?_; first | show AW _ _ _ _ _ _ | show ∃ x', _ < _ ∧ _)) | (show AW _ _ (.seq _ _) _ _ _; refine Ah ?_; intro Q1) | (show AW _ _ (.region _ _ false) _ _ _; refine Ad ?_; intro O1) | (show AW _ _ (.cond _ _ _) _ _ _; first | refine Aj Y ?_ | refine Ai Y ?_) | (show AW _ _ (.skip) _ _ _; refine Ak ?_; first | show AW _ _ _ _ _ _ | show ∃ x', _ < _ ∧ _) | (show AW _ _ (.block _ _) _ _ _; refine A7 ?_; intro Q1) | (show AW _ _ (.exit _) _ _ _; refine Bi ?_; first | show AW _ _ _ _ _ _ | show ∃ x', _ < _ ∧ _) | (show AW _ _ (.ret) _ _ _; refine Ar ?_; try dsimp only [Aw, Aa, Au, Ac]) | fail)
        refine aw_loop (X := MlX l) (fun x => [(1, .ptr i 0), (3, .int .i64 x.i)]) (fun x => ⟨[(i, .cells [bT df, .sl 2 .no (l.map pT)])], [], off, none⟩) (fun x => l.length - x.i) ⟨0, Nat.zero_le _, fun j hj => by omega⟩ ?_ (.refl _) ?_
        · exact .cons rfl (.consW rfl (.int rfl) (.nil _))
        rintro ⟨j, hj, hn⟩
        dsimp only
        by_cases hjl : j < l.length
        · by_cases c : (l.getD j default).2.toNat ≤ 4
          · repeat' (first
    | ((show AL _ _ _ _ _ _ _ _; refine Ae Y ?_); (first
      | (show AOp _ _ ⟨_, .move _, _, _, _, _⟩ _ _ _; refine Al hG Y Y ?_)
      | (show AOp _ _ ⟨_, .assign _, _, _, _, _⟩ _ _ _; refine A9 hG Y Y ?_)
      | (show AOp _ _ ⟨_, .call ⟨.builtin .len, _, _⟩, _, _, _, _⟩ _ _ _; first | refine Az hG Y Y Y Y ?_ | refine Bd hG Y Y Y Y Y ?_)
      | (show AOp _ _ ⟨_, .binOp .add _ _ _ _, _, _, _, _⟩ _ _ _; first | refine Am hG Y Y Y Y Y (by omega) ?_)
      | (show AOp _ _ ⟨_, .binOp _ _ _ _ _, _, _, _, _⟩ _ _ _; first | refine Ap hG Y Y Y Y Y (by omega) ?_ | refine Aq hG Y Y Y Y Y (by omega) ?_ | (refine Av hG Y Y Y Y Y (fun h => ?_) (fun h => ?_)))
      | (show AOp _ _ ⟨_, .load _ _, _, _, _, _⟩ _ _ _; first | refine Bf hG Y Y Y ?_ | refine Ax 0 hG Y Y Y Y ?_ | refine Ax 1 hG Y Y Y Y ?_)
      | (show AOp _ _ ⟨_, .indexAddr _ _ _, _, _, _, _⟩ _ _ _; first | refine Bg hG Y Y Y Y Y Y Y (by omega) ?_ | refine Bh hG Y Y Y Y Y Y Y (by omega) ?_ | refine Bt hG Y Y ?_)
      | (show AOp _ _ ⟨_, .pick _ _ _, _, _, _, _⟩ _ _ _; refine Bl hG Y Y Y ?_)
      | (show AOp _ _ ⟨_, .unOp _ _ _, _, _, _, _⟩ _ _ _; refine B2 hG Y Y Y ?_)
      | (show AOp _ _ ⟨_, .box _ _, _, _, _, _⟩ _ _ _; refine B1 hG Y Y Y (fun i => ?_))
      | refine r_q hG Y Y Y ?_))
    | (show AL _ _ _ _ _ _ _ _; first | refine Bj Y Y Y ?_ | (refine As ?_; first | show AW _ _ _ _ _ _ | show ∃ x', _ < _ ∧ _)) | (show AW _ _ (.seq _ _) _ _ _; refine Ah ?_; intro Q1) | (show AW _ _ (.region _ _ false) _ _ _; refine Ad ?_; intro O1) | (show AW _ _ (.cond _ _ _) _ _ _; first | refine Aj Y ?_ | refine Ai Y ?_) | (show AW _ _ (.skip) _ _ _; refine Ak ?_; first | show AW _ _ _ _ _ _ | show ∃ x', _ < _ ∧ _) | (show AW _ _ (.block _ _) _ _ _; refine A7 ?_; intro Q1) | (show AW _ _ (.exit _) _ _ _; refine Bi ?_; first | show AW _ _ _ _ _ _ | show ∃ x', _ < _ ∧ _) | (show AW _ _ (.ret) _ _ _; refine Ar ?_; try dsimp only [Aw, Aa, Au, Ac]) | fail)
            refine ⟨⟨j + 1, by omega, fun q hq => ?_⟩, by dsimp only; omega, ?_, .refl _⟩
            · rcases Nat.lt_succ_iff_lt_or_eq.1 hq with h | rfl
              · exact hn q h
              · exact c
            · exact .cons rfl (.consW rfl (.int (by simp)) (.nil _))
          · have hf : mayLab df l = false := by
              rw [hm, Bool.and_eq_false_iff]
              right
              rw [List.all_eq_false]
              refine ⟨l.getD j default, by rw [List.getD_eq_getElem?_getD, List.getElem?_eq_getElem hjl]; exact List.getElem_mem hjl, by simpa using c⟩
            repeat' (first
    | ((show AL _ _ _ _ _ _ _ _; refine Ae Y ?_); (first
      | (show AOp _ _ ⟨_, .move _, _, _, _, _⟩ _ _ _; refine Al hG Y Y ?_)
      | (show AOp _ _ ⟨_, .assign _, _, _, _, _⟩ _ _ _; refine A9 hG Y Y ?_)
      | (show AOp _ _ ⟨_, .call ⟨.builtin .len, _, _⟩, _, _, _, _⟩ _ _ _; first | refine Az hG Y Y Y Y ?_ | refine Bd hG Y Y Y Y Y ?_)
      | (show AOp _ _ ⟨_, .binOp .add _ _ _ _, _, _, _, _⟩ _ _ _; first | refine Am hG Y Y Y Y Y (by omega) ?_)
      | (show AOp _ _ ⟨_, .binOp _ _ _ _ _, _, _, _, _⟩ _ _ _; first | refine Ap hG Y Y Y Y Y (by omega) ?_ | refine Aq hG Y Y Y Y Y (by omega) ?_ | (refine Av hG Y Y Y Y Y (fun h => ?_) (fun h => ?_)))
      | (show AOp _ _ ⟨_, .load _ _, _, _, _, _⟩ _ _ _; first | refine Bf hG Y Y Y ?_ | refine Ax 0 hG Y Y Y Y ?_ | refine Ax 1 hG Y Y Y Y ?_)
      | (show AOp _ _ ⟨_, .indexAddr _ _ _, _, _, _, _⟩ _ _ _; first | refine Bg hG Y Y Y Y Y Y Y (by omega) ?_ | refine Bh hG Y Y Y Y Y Y Y (by omega) ?_ | refine Bt hG Y Y ?_)
      | (show AOp _ _ ⟨_, .pick _ _ _, _, _, _, _⟩ _ _ _; refine Bl hG Y Y Y ?_)
      | (show AOp _ _ ⟨_, .unOp _ _ _, _, _, _, _⟩ _ _ _; refine B2 hG Y Y Y ?_)
      | (show AOp _ _ ⟨_, .box _ _, _, _, _, _⟩ _ _ _; refine B1 hG Y Y Y (fun i => ?_))
      | refine r_q hG Y Y Y ?_))
    | (show AL _ _ _ _ _ _ _ _; first | refine Bj Y Y Y ?_ | (refine As ?_; first | show AW _ _ _ _ _ _ | show ∃ x', _ < _ ∧ _)) | (show AW _ _ (.seq _ _) _ _ _; refine Ah ?_; intro Q1) | (show AW _ _ (.region _ _ false) _ _ _; refine Ad ?_; intro O1) | (show AW _ _ (.cond _ _ _) _ _ _; first | refine Aj Y ?_ | refine Ai Y ?_) | (show AW _ _ (.skip) _ _ _; refine Ak ?_; first | show AW _ _ _ _ _ _ | show ∃ x', _ < _ ∧ _) | (show AW _ _ (.block _ _) _ _ _; refine A7 ?_; intro Q1) | (show AW _ _ (.exit _) _ _ _; refine Bi ?_; first | show AW _ _ _ _ _ _ | show ∃ x', _ < _ ∧ _) | (show AW _ _ (.ret) _ _ _; refine Ar ?_; try dsimp only [Aw, Aa, Au, Ac]) | fail)
            exact Ba (Ao rfl A8) (.eq (by rw [hf]; rfl)) rfl
        · obtain rfl : j = l.length := by omega
          have hf : mayLab df l = true := by
            rw [hm]
            have : (l.all fun p => decide (p.2.toNat ≤ 4)) = true := by
              rw [List.all_eq_true]
              intro p hp
              obtain ⟨q, hq, rfl⟩ := List.mem_iff_getElem.1 hp
              have := hn q hq
              rw [List.getD_eq_getElem?_getD, List.getElem?_eq_getElem hq] at this
              exact decide_eq_true this
            rw [this]; rfl
          repeat' (first
    | ((show AL _ _ _ _ _ _ _ _; refine Ae Y ?_); (first
      | (show AOp _ _ ⟨_, .move _, _, _, _, _⟩ _ _ _; refine Al hG Y Y ?_)
      | (show AOp _ _ ⟨_, .assign _, _, _, _, _⟩ _ _ _; refine A9 hG Y Y ?_)
      | (show AOp _ _ ⟨_, .call ⟨.builtin .len, _, _⟩, _, _, _, _⟩ _ _ _; first | refine Az hG Y Y Y Y ?_ | refine Bd hG Y Y Y Y Y ?_)
      | (show AOp _ _ ⟨_, .binOp .add _ _ _ _, _, _, _, _⟩ _ _ _; first | refine Am hG Y Y Y Y Y (by omega) ?_)
      | (show AOp _ _ ⟨_, .binOp _ _ _ _ _, _, _, _, _⟩ _ _ _; first | refine Ap hG Y Y Y Y Y (by omega) ?_ | refine Aq hG Y Y Y Y Y (by omega) ?_ | (refine Av hG Y Y Y Y Y (fun h => ?_) (fun h => ?_)))
      | (show AOp _ _ ⟨_, .load _ _, _, _, _, _⟩ _ _ _; first | refine Bf hG Y Y Y ?_ | refine Ax 0 hG Y Y Y Y ?_ | refine Ax 1 hG Y Y Y Y ?_)
      | (show AOp _ _ ⟨_, .indexAddr _ _ _, _, _, _, _⟩ _ _ _; first | refine Bg hG Y Y Y Y Y Y Y (by omega) ?_ | refine Bh hG Y Y Y Y Y Y Y (by omega) ?_ | refine Bt hG Y Y ?_)
      | (show AOp _ _ ⟨_, .pick _ _ _, _, _, _, _⟩ _ _ _; refine Bl hG Y Y Y ?_)
      | (show AOp _ _ ⟨_, .unOp _ _ _, _, _, _, _⟩ _ _ _; refine B2 hG Y Y Y ?_)
      | (show AOp _ _ ⟨_, .box _ _, _, _, _, _⟩ _ _ _; refine B1 hG Y Y Y (fun i => ?_))
      | refine r_q hG Y Y Y ?_))
    | (show AL _ _ _ _ _ _ _ _; first | refine Bj Y Y Y ?_ | (refine As ?_; first | show AW _ _ _ _ _ _ | show ∃ x', _ < _ ∧ _)) | (show AW _ _ (.seq _ _) _ _ _; refine Ah ?_; intro Q1) | (show AW _ _ (.region _ _ false) _ _ _; refine Ad ?_; intro O1) | (show AW _ _ (.cond _ _ _) _ _ _; first | refine Aj Y ?_ | refine Ai Y ?_) | (show AW _ _ (.skip) _ _ _; refine Ak ?_; first | show AW _ _ _ _ _ _ | show ∃ x', _ < _ ∧ _) | (show AW _ _ (.block _ _) _ _ _; refine A7 ?_; intro Q1) | (show AW _ _ (.exit _) _ _ _; refine Bi ?_; first | show AW _ _ _ _ _ _ | show ∃ x', _ < _ ∧ _) | (show AW _ _ (.ret) _ _ _; refine Ar ?_; try dsimp only [Aw, Aa, Au, Ac]) | fail)
          exact Ba (Ao rfl A8) (.eq (by rw [hf]; rfl)) rfl
      · have hf : mayLab df l = false := by rw [hm, decide_eq_false h2]; simp
        rw [hf]
        refine Bp (N := 37) (rs := [.tmp 2]) hG Try.func34 rfl rfl rfl rfl rfl ?_
        repeat' (first
    | ((show AL _ _ _ _ _ _ _ _; refine Ae Y ?_); (first
      | (show AOp _ _ ⟨_, .move _, _, _, _, _⟩ _ _ _; refine Al hG Y Y ?_)
      | (show AOp _ _ ⟨_, .assign _, _, _, _, _⟩ _ _ _; refine A9 hG Y Y ?_)
      | (show AOp _ _ ⟨_, .call ⟨.builtin .len, _, _⟩, _, _, _, _⟩ _ _ _; first | refine Az hG Y Y Y Y ?_ | refine Bd hG Y Y Y Y Y ?_)
      | (show AOp _ _ ⟨_, .binOp .add _ _ _ _, _, _, _, _⟩ _ _ _; first | refine Am hG Y Y Y Y Y (by omega) ?_)
      | (show AOp _ _ ⟨_, .binOp _ _ _ _ _, _, _, _, _⟩ _ _ _; first | refine Ap hG Y Y Y Y Y (by omega) ?_ | refine Aq hG Y Y Y Y Y (by omega) ?_ | (refine Av hG Y Y Y Y Y (fun h => ?_) (fun h => ?_)))
      | (show AOp _ _ ⟨_, .load _ _, _, _, _, _⟩ _ _ _; first | refine Bf hG Y Y Y ?_ | refine Ax 0 hG Y Y Y Y ?_ | refine Ax 1 hG Y Y Y Y ?_)
      | (show AOp _ _ ⟨_, .indexAddr _ _ _, _, _, _, _⟩ _ _ _; first | refine Bg hG Y Y Y Y Y Y Y (by omega) ?_ | refine Bh hG Y Y Y Y Y Y Y (by omega) ?_ | refine Bt hG Y Y ?_)
      | (show AOp _ _ ⟨_, .pick _ _ _, _, _, _, _⟩ _ _ _; refine Bl hG Y Y Y ?_)
      | (show AOp _ _ ⟨_, .unOp _ _ _, _, _, _, _⟩ _ _ _; refine B2 hG Y Y Y ?_)
      | (show AOp _ _ ⟨_, .box _ _, _, _, _, _⟩ _ _ _; refine B1 hG Y Y Y (fun i => ?_))
      | (show AOp _ _ ⟨_, .call ⟨.value _, _, _⟩, _, _, _, _⟩ _ _ _; first | refine Bc Y Y Y Y Y (by apply hC <;> (first | assumption | omega | exact Ab _ _ | exact Af _ | exact Ag _ _ | exact Ay _ | rfl | (simp; omega))) ?_ | fail)
      | refine r_q hG Y Y Y ?_))
    | (show AL _ _ _ _ _ _ _ _; first | refine Bj Y Y Y ?_ | (refine As ?_; first | show AW _ _ _ _ _ _ | show ∃ x', _ < _ ∧ _)) | (show AW _ _ (.seq _ _) _ _ _; refine Ah ?_; intro Q1) | (show AW _ _ (.region _ _ false) _ _ _; refine Ad ?_; intro O1) | (show AW _ _ (.cond _ _ _) _ _ _; first | refine Aj Y ?_ | refine Ai Y ?_) | (show AW _ _ (.skip) _ _ _; refine Ak ?_; first | show AW _ _ _ _ _ _ | show ∃ x', _ < _ ∧ _) | (show AW _ _ (.block _ _) _ _ _; refine A7 ?_; intro Q1) | (show AW _ _ (.exit _) _ _ _; refine Bi ?_; first | show AW _ _ _ _ _ _ | show ∃ x', _ < _ ∧ _) | (show AW _ _ (.ret) _ _ _; refine Ar ?_; try dsimp only [Aw, Aa, Au, Ac]) | fail)
        exact Ba (Ao rfl A8) (.refl _) rfl
    · have hf : mayLab df l = false := by rw [hm, decide_eq_false h1]; simp
      rw [hf]
      refine Bp (N := 37) (rs := [.tmp 2]) hG Try.func34 rfl rfl rfl rfl rfl ?_
      repeat' (first
    | ((show AL _ _ _ _ _ _ _ _; refine Ae Y ?_); (first
      | (show AOp _ _ ⟨_, .move _, _, _, _, _⟩ _ _ _; refine Al hG Y Y ?_)
      | (show AOp _ _ ⟨_, .assign _, _, _, _, _⟩ _ _ _; refine A9 hG Y Y ?_)
      | (show AOp _ _ ⟨_, .call ⟨.builtin .len, _, _⟩, _, _, _, _⟩ _ _ _; first | refine Az hG Y Y Y Y ?_ | refine Bd hG Y Y Y Y Y ?_)
      | (show AOp _ _ ⟨_, .binOp .add _ _ _ _, _, _, _, _⟩ _ _ _; first | refine Am hG Y Y Y Y Y (by omega) ?_)
      | (show AOp _ _ ⟨_, .binOp _ _ _ _ _, _, _, _, _⟩ _ _ _; first | refine Ap hG Y Y Y Y Y (by omega) ?_ | refine Aq hG Y Y Y Y Y (by omega) ?_ | (refine Av hG Y Y Y Y Y (fun h => ?_) (fun h => ?_)))
      | (show AOp _ _ ⟨_, .load _ _, _, _, _, _⟩ _ _ _; first | refine Bf hG Y Y Y ?_ | refine Ax 0 hG Y Y Y Y ?_ | refine Ax 1 hG Y Y Y Y ?_)
      | (show AOp _ _ ⟨_, .indexAddr _ _ _, _, _, _, _⟩ _ _ _; first | refine Bg hG Y Y Y Y Y Y Y (by omega) ?_ | refine Bh hG Y Y Y Y Y Y Y (by omega) ?_ | refine Bt hG Y Y ?_)
      | (show AOp _ _ ⟨_, .pick _ _ _, _, _, _, _⟩ _ _ _; refine Bl hG Y Y Y ?_)
      | (show AOp _ _ ⟨_, .unOp _ _ _, _, _, _, _⟩ _ _ _; refine B2 hG Y Y Y ?_)
      | (show AOp _ _ ⟨_, .box _ _, _, _, _, _⟩ _ _ _; refine B1 hG Y Y Y (fun i => ?_))
      | (show AOp _ _ ⟨_, .call ⟨.value _, _, _⟩, _, _, _, _⟩ _ _ _; first | refine Bc Y Y Y Y Y (by apply hC <;> (first | assumption | omega | exact Ab _ _ | exact Af _ | exact Ag _ _ | exact Ay _ | rfl | (simp; omega))) ?_ | fail)
      | refine r_q hG Y Y Y ?_))
    | (show AL _ _ _ _ _ _ _ _; first | refine Bj Y Y Y ?_ | (refine As ?_; first | show AW _ _ _ _ _ _ | show ∃ x', _ < _ ∧ _)) | (show AW _ _ (.seq _ _) _ _ _; refine Ah ?_; intro Q1) | (show AW _ _ (.region _ _ false) _ _ _; refine Ad ?_; intro O1) | (show AW _ _ (.cond _ _ _) _ _ _; first | refine Aj Y ?_ | refine Ai Y ?_) | (show AW _ _ (.skip) _ _ _; refine Ak ?_; first | show AW _ _ _ _ _ _ | show ∃ x', _ < _ ∧ _) | (show AW _ _ (.block _ _) _ _ _; refine A7 ?_; intro Q1) | (show AW _ _ (.exit _) _ _ _; refine Bi ?_; first | show AW _ _ _ _ _ _ | show ∃ x', _ < _ ∧ _) | (show AW _ _ (.ret) _ _ _; refine Ar ?_; try dsimp only [Aw, Aa, Au, Ac]) | fail)
      all_goals exact Ba (Ao rfl A8) (.refl _) rfl
  · have hC := ref_Canon5 (df := df) (l := l) (by omega)
    have hf : mayLab df l = false := by unfold mayLab; rw [decide_eq_false (by omega)]; simp
    rw [hf]
    refine Bp (N := 37) (rs := [.tmp 2]) hG Try.func34 rfl rfl rfl rfl rfl ?_
    repeat' (first
    | ((show AL _ _ _ _ _ _ _ _; refine Ae Y ?_); (first
      | (show AOp _ _ ⟨_, .move _, _, _, _, _⟩ _ _ _; refine Al hG Y Y ?_)
      | (show AOp _ _ ⟨_, .assign _, _, _, _, _⟩ _ _ _; refine A9 hG Y Y ?_)
      | (show AOp _ _ ⟨_, .call ⟨.builtin .len, _, _⟩, _, _, _, _⟩ _ _ _; first | refine Az hG Y Y Y Y ?_ | refine Bd hG Y Y Y Y Y ?_)
      | (show AOp _ _ ⟨_, .binOp .add _ _ _ _, _, _, _, _⟩ _ _ _; first | refine Am hG Y Y Y Y Y (by omega) ?_)
      | (show AOp _ _ ⟨_, .binOp _ _ _ _ _, _, _, _, _⟩ _ _ _; first | refine Ap hG Y Y Y Y Y (by omega) ?_ | refine Aq hG Y Y Y Y Y (by omega) ?_ | (refine Av hG Y Y Y Y Y (fun h => ?_) (fun h => ?_)))
      | (show AOp _ _ ⟨_, .load _ _, _, _, _, _⟩ _ _ _; first | refine Bf hG Y Y Y ?_ | refine Ax 0 hG Y Y Y Y ?_ | refine Ax 1 hG Y Y Y Y ?_)
      | (show AOp _ _ ⟨_, .indexAddr _ _ _, _, _, _, _⟩ _ _ _; first | refine Bg hG Y Y Y Y Y Y Y (by omega) ?_ | refine Bh hG Y Y Y Y Y Y Y (by omega) ?_ | refine Bt hG Y Y ?_)
      | (show AOp _ _ ⟨_, .pick _ _ _, _, _, _, _⟩ _ _ _; refine Bl hG Y Y Y ?_)
      | (show AOp _ _ ⟨_, .unOp _ _ _, _, _, _, _⟩ _ _ _; refine B2 hG Y Y Y ?_)
      | (show AOp _ _ ⟨_, .box _ _, _, _, _, _⟩ _ _ _; refine B1 hG Y Y Y (fun i => ?_))
      | (show AOp _ _ ⟨_, .call ⟨.value _, _, _⟩, _, _, _, _⟩ _ _ _; first | refine Bc Y Y Y Y Y (by apply hC <;> (first | assumption | omega | exact Ab _ _ | exact Af _ | exact Ag _ _ | exact Ay _ | rfl | (simp; omega))) ?_ | fail)
      | refine r_q hG Y Y Y ?_))
    | (show AL _ _ _ _ _ _ _ _; first | refine Bj Y Y Y ?_ | (refine As ?_; first | show AW _ _ _ _ _ _ | show ∃ x', _ < _ ∧ _)) | (show AW _ _ (.seq _ _) _ _ _; refine Ah ?_; intro Q1) | (show AW _ _ (.region _ _ false) _ _ _; refine Ad ?_; intro O1) | (show AW _ _ (.cond _ _ _) _ _ _; first | refine Aj Y ?_ | refine Ai Y ?_) | (show AW _ _ (.skip) _ _ _; refine Ak ?_; first | show AW _ _ _ _ _ _ | show ∃ x', _ < _ ∧ _) | (show AW _ _ (.block _ _) _ _ _; refine A7 ?_; intro Q1) | (show AW _ _ (.exit _) _ _ _; refine Bi ?_; first | show AW _ _ _ _ _ _ | show ∃ x', _ < _ ∧ _) | (show AW _ _ (.ret) _ _ _; refine Ar ?_; try dsimp only [Aw, Aa, Au, Ac]) | fail)
    exact Ba (Ao rfl A8) (.refl _) rfl
end Go.Proofs.Ytemgmkoggnjgjaa
namespace Go.Proofs.Ytemgmkoggnjgjaa
open Go.Ts
attribute [local irreducible] Go.Ts.AW Go.Ts.AOps Go.Ts.AL Go.Ts.AOp Go.Ts.ACalls Go.Ts.DL Go.Ts.DQ Go.Ts.EL
theorem neg_lt_tmod (p : Int) {n : Int} (h : 0 < n) : -n < p.tmod n := by
  have h1 := Int.tmod_lt_of_pos (-p) h
  rw [Int.neg_tmod] at h1; omega
def placeN (p n : Int) : Int := if n < 1 then 0 else if p.tmod n < 0 then p.tmod n + n else p.tmod n
theorem placeN_lt {p n : Int} (h : 1 ≤ n) : 0 ≤ placeN p n ∧ placeN p n < n := by
  unfold placeN
  rw [if_neg (by omega)]
  have h1 := Int.tmod_lt_of_pos p (by omega : 0 < n)
  have h2 : -n < p.tmod n := neg_lt_tmod p (by omega)
  split <;> omega
theorem law_Place {p n : Int} (h : 0 ≤ n ∧ n ≤ 9223372036854775807) : Ts.Pure Try.prog 11 [.int .i64 p, .int .i64 n] (.int .i64 (placeN p n)) := by
  intro off
  refine Bp (N := 16) (rs := [.tmp 4]) hG Try.func11 rfl rfl rfl rfl rfl ?_
  by_cases h1 : n < 1
  · repeat' (first
    | ((show AL _ _ _ _ _ _ _ _; refine Ae Y ?_); (first
      | (show AOp _ _ ⟨_, .move _, _, _, _, _⟩ _ _ _; refine Al hG Y Y ?_)
      | (show AOp _ _ ⟨_, .assign _, _, _, _, _⟩ _ _ _; refine A9 hG Y Y ?_)
      | (show AOp _ _ ⟨_, .binOp .add _ _ _ _, _, _, _, _⟩ _ _ _; first | refine Am hG Y Y Y Y Y (by omega) ?_)
      | (show AOp _ _ ⟨_, .binOp .rem _ _ _ _, _, _, _, _⟩ _ _ _; first | refine r_rem hG Y Y Y Y (by omega) ?_ | refine r_trem hG Y Y Y Y (by omega) ?_)
      | (show AOp _ _ ⟨_, .binOp _ _ _ _ _, _, _, _, _⟩ _ _ _; first | refine Ap hG Y Y Y Y Y (by omega) ?_ | refine Aq hG Y Y Y Y Y (by omega) ?_ | (refine Av hG Y Y Y Y Y (fun h => ?_) (fun h => ?_)))
      | refine r_q hG Y Y Y ?_))
    | (show AL _ _ _ _ _ _ _ _; first | refine Bj Y Y Y ?_ | (refine As ?_; first | show AW _ _ _ _ _ _ | show ∃ x', _ < _ ∧ _)) | (show AW _ _ (.seq _ _) _ _ _; refine Ah ?_; intro Q1) | (show AW _ _ (.region _ _ false) _ _ _; refine Ad ?_; intro O1) | (show AW _ _ (.cond _ _ _) _ _ _; first | refine Aj Y ?_ | refine Ai Y ?_) | (show AW _ _ (.skip) _ _ _; refine Ak ?_; first | show AW _ _ _ _ _ _ | show ∃ x', _ < _ ∧ _) | (show AW _ _ (.ret) _ _ _; refine Ar ?_; try dsimp only [Aw, Aa, Au, Ac]) | fail)
    exact Ba (Ao rfl A8) (.int (by rw [placeN, if_pos h1])) rfl
  · have h3 := Int.tmod_lt_of_pos p (by omega : 0 < n)
    have h4 : -n < p.tmod n := neg_lt_tmod p (by omega)
    by_cases h2 : p.tmod n < 0
    · repeat' (first
    | ((show AL _ _ _ _ _ _ _ _; refine Ae Y ?_); (first
      | (show AOp _ _ ⟨_, .move _, _, _, _, _⟩ _ _ _; refine Al hG Y Y ?_)
      | (show AOp _ _ ⟨_, .assign _, _, _, _, _⟩ _ _ _; refine A9 hG Y Y ?_)
      | (show AOp _ _ ⟨_, .binOp .add _ _ _ _, _, _, _, _⟩ _ _ _; first | refine Am hG Y Y Y Y Y (by omega) ?_)
      | (show AOp _ _ ⟨_, .binOp .rem _ _ _ _, _, _, _, _⟩ _ _ _; first | refine r_rem hG Y Y Y Y (by omega) ?_ | refine r_trem hG Y Y Y Y (by omega) ?_)
      | (show AOp _ _ ⟨_, .binOp _ _ _ _ _, _, _, _, _⟩ _ _ _; first | refine Ap hG Y Y Y Y Y (by omega) ?_ | refine Aq hG Y Y Y Y Y (by omega) ?_ | (refine Av hG Y Y Y Y Y (fun h => ?_) (fun h => ?_)))
      | refine r_q hG Y Y Y ?_))
    | (show AL _ _ _ _ _ _ _ _; first | refine Bj Y Y Y ?_ | (refine As ?_; first | show AW _ _ _ _ _ _ | show ∃ x', _ < _ ∧ _)) | (show AW _ _ (.seq _ _) _ _ _; refine Ah ?_; intro Q1) | (show AW _ _ (.region _ _ false) _ _ _; refine Ad ?_; intro O1) | (show AW _ _ (.cond _ _ _) _ _ _; first | refine Aj Y ?_ | refine Ai Y ?_) | (show AW _ _ (.skip) _ _ _; refine Ak ?_; first | show AW _ _ _ _ _ _ | show ∃ x', _ < _ ∧ _) | (show AW _ _ (.ret) _ _ _; refine Ar ?_; try dsimp only [Aw, Aa, Au, Ac]) | fail)
      exact Ba (Ao rfl A8) (.int (by rw [placeN, if_neg h1, if_pos h2])) rfl
    · repeat' (first
    | ((show AL _ _ _ _ _ _ _ _; refine Ae Y ?_); (first
      | (show AOp _ _ ⟨_, .move _, _, _, _, _⟩ _ _ _; refine Al hG Y Y ?_)
      | (show AOp _ _ ⟨_, .assign _, _, _, _, _⟩ _ _ _; refine A9 hG Y Y ?_)
      | (show AOp _ _ ⟨_, .binOp .add _ _ _ _, _, _, _, _⟩ _ _ _; first | refine Am hG Y Y Y Y Y (by omega) ?_)
      | (show AOp _ _ ⟨_, .binOp .rem _ _ _ _, _, _, _, _⟩ _ _ _; first | refine r_rem hG Y Y Y Y (by omega) ?_ | refine r_trem hG Y Y Y Y (by omega) ?_)
      | (show AOp _ _ ⟨_, .binOp _ _ _ _ _, _, _, _, _⟩ _ _ _; first | refine Ap hG Y Y Y Y Y (by omega) ?_ | refine Aq hG Y Y Y Y Y (by omega) ?_ | (refine Av hG Y Y Y Y Y (fun h => ?_) (fun h => ?_)))
      | refine r_q hG Y Y Y ?_))
    | (show AL _ _ _ _ _ _ _ _; first | refine Bj Y Y Y ?_ | (refine As ?_; first | show AW _ _ _ _ _ _ | show ∃ x', _ < _ ∧ _)) | (show AW _ _ (.seq _ _) _ _ _; refine Ah ?_; intro Q1) | (show AW _ _ (.region _ _ false) _ _ _; refine Ad ?_; intro O1) | (show AW _ _ (.cond _ _ _) _ _ _; first | refine Aj Y ?_ | refine Ai Y ?_) | (show AW _ _ (.skip) _ _ _; refine Ak ?_; first | show AW _ _ _ _ _ _ | show ∃ x', _ < _ ∧ _) | (show AW _ _ (.ret) _ _ _; refine Ar ?_; try dsimp only [Aw, Aa, Au, Ac]) | fail)
      exact Ba (Ao rfl A8) (.int (by rw [placeN, if_neg h1, if_neg h2])) rfl
end Go.Proofs.Ytemgmkoggnjgjaa
namespace Go.Proofs.Ytemgmkoggnjgjaa
open Go.Ts
set_option linter.unusedSimpArgs false
set_option linter.unusedVariables false
attribute [local irreducible] Go.Ts.AW Go.Ts.AOps Go.Ts.AL Go.Ts.AOp Go.Ts.ACalls Go.Ts.DL Go.Ts.DQ Go.Ts.EL
def longB (b : List UInt8) : Bool := decide (16 < b.length)
theorem r_May1 {x : T} {b : List UInt8} (hx : bytesT x = some b) (hl : b.length ≤ Ca) : Ts.Pure Try.prog 69 [x] (.bool (longB b)) := by
  refine Pure.weak (us := [sT b]) ?_ (wk1 (bytesT_wk hx))
  intro off
  refine Bp (N := 6) (rs := [.tmp 2]) hG Try.func69 rfl rfl rfl rfl rfl ?_
  unfold Ca at hl
  by_cases h : 16 < b.length
  · repeat' (first
    | ((show AL _ _ _ _ _ _ _ _; refine Ae Y ?_); (first
      | (show AOp _ _ ⟨_, .move _, _, _, _, _⟩ _ _ _; refine Al hG Y Y ?_)
      | (show AOp _ _ ⟨_, .assign _, _, _, _, _⟩ _ _ _; refine A9 hG Y Y ?_)
      | (show AOp _ _ ⟨_, .call ⟨.builtin .len, _, _⟩, _, _, _, _⟩ _ _ _; first | refine Az hG Y Y Y Y ?_ | refine Bd hG Y Y Y Y Y ?_)
      | (show AOp _ _ ⟨_, .binOp _ _ _ _ _, _, _, _, _⟩ _ _ _; first | refine Ap hG Y Y Y Y Y (by omega) ?_ | refine Aq hG Y Y Y Y Y (by omega) ?_ | (refine Av hG Y Y Y Y Y (fun h => ?_) (fun h => ?_)))
      | refine r_q hG Y Y Y ?_))
    | (show AL _ _ _ _ _ _ _ _; first | refine Bj Y Y Y ?_ | (refine As ?_; first | show AW _ _ _ _ _ _ | show ∃ x', _ < _ ∧ _)) | (show AW _ _ (.seq _ _) _ _ _; refine Ah ?_; intro Q1) | (show AW _ _ (.region _ _ false) _ _ _; refine Ad ?_; intro O1) | (show AW _ _ (.ret) _ _ _; refine Ar ?_; try dsimp only [Aw, Aa, Au, Ac]) | fail)
    exact Ba (Ao rfl A8) (.eq (by simp [longB, h]; rfl)) rfl
  · repeat' (first
    | ((show AL _ _ _ _ _ _ _ _; refine Ae Y ?_); (first
      | (show AOp _ _ ⟨_, .move _, _, _, _, _⟩ _ _ _; refine Al hG Y Y ?_)
      | (show AOp _ _ ⟨_, .assign _, _, _, _, _⟩ _ _ _; refine A9 hG Y Y ?_)
      | (show AOp _ _ ⟨_, .call ⟨.builtin .len, _, _⟩, _, _, _, _⟩ _ _ _; first | refine Az hG Y Y Y Y ?_ | refine Bd hG Y Y Y Y Y ?_)
      | (show AOp _ _ ⟨_, .binOp _ _ _ _ _, _, _, _, _⟩ _ _ _; first | refine Ap hG Y Y Y Y Y (by omega) ?_ | refine Aq hG Y Y Y Y Y (by omega) ?_ | (refine Av hG Y Y Y Y Y (fun h => ?_) (fun h => ?_)))
      | refine r_q hG Y Y Y ?_))
    | (show AL _ _ _ _ _ _ _ _; first | refine Bj Y Y Y ?_ | (refine As ?_; first | show AW _ _ _ _ _ _ | show ∃ x', _ < _ ∧ _)) | (show AW _ _ (.seq _ _) _ _ _; refine Ah ?_; intro Q1) | (show AW _ _ (.region _ _ false) _ _ _; refine Ad ?_; intro O1) | (show AW _ _ (.ret) _ _ _; refine Ar ?_; try dsimp only [Aw, Aa, Au, Ac]) | fail)
    exact Ba (Ao rfl A8) (.eq (by simp [longB, h]; rfl)) rfl
def idxL (l : List (List UInt8)) : Int := if l.findIdx longB < l.length then l.findIdx longB else -1
theorem idxL_at {l : List (List UInt8)} {i : Nat} (hi : i < l.length) (hp : longB (l.getD i default) = true) (hn : ∀ j < i, longB (l.getD j default) = false) : idxL l = i := by
  have e : l.findIdx longB = i := by
    rw [List.findIdx_eq hi]
    refine ⟨by simpa [List.getD_eq_getElem?_getD, List.getElem?_eq_getElem hi] using hp, fun j hj => ?_⟩
    have := hn j hj
    simpa [List.getD_eq_getElem?_getD, List.getElem?_eq_getElem (show j < l.length by omega)] using this
  rw [idxL, e, if_pos hi]
theorem idxL_no {l : List (List UInt8)} (hn : ∀ j < l.length, longB (l.getD j default) = false) : idxL l = -1 := by
  have e : l.findIdx longB = l.length := by
    rw [List.findIdx_eq_length]
    intro b hb
    obtain ⟨j, hj, rfl⟩ := List.mem_iff_getElem.1 hb
    have := hn j hj
    simpa [List.getD_eq_getElem?_getD, List.getElem?_eq_getElem hj] using this
  rw [idxL, e, if_neg (by omega)]
structure IdX (l : List (List UInt8)) where
  i : Nat
  hi : i ≤ l.length
  hn : ∀ j < i, longB (l.getD j default) = false
theorem getD_mem {α : Type} [Inhabited α] {l : List α} {i : Nat} (h : i < l.length) : l.getD i default ∈ l := by
  rw [List.getD_eq_getElem?_getD, List.getElem?_eq_getElem h]; exact List.getElem_mem h
theorem r_Index {x : T} {l : List (List UInt8)} (hx : lettersT x = some l) (hl : l.length ≤ Ca) (hb : ∀ b ∈ l, b.length ≤ Ca) : Ts.Pure Try.prog 72 [x, .fn (.func 69) []] (.int .i64 (idxL l)) := by
  refine Pure.weak (us := [lT l, .fn (.func 69) []]) ?_ (wk2 (lettersT_wk hx) (.refl _))
  intro off
  refine Bp (N := 19) (rs := [.tmp 4]) hG Try.func72 rfl rfl rfl rfl rfl ?_
  unfold Ca at hl
  repeat' (first
    | ((show AL _ _ _ _ _ _ _ _; refine Ae Y ?_); (first
      | (show AOp _ _ ⟨_, .move _, _, _, _, _⟩ _ _ _; refine Al hG Y Y ?_)
      | (show AOp _ _ ⟨_, .assign _, _, _, _, _⟩ _ _ _; refine A9 hG Y Y ?_)
      | (show AOp _ _ ⟨_, .call ⟨.builtin .len, _, _⟩, _, _, _, _⟩ _ _ _; first | refine Az hG Y Y Y Y ?_ | refine Bd hG Y Y Y Y Y ?_)
      | (show AOp _ _ ⟨_, .binOp .add _ _ _ _, _, _, _, _⟩ _ _ _; first | refine Am hG Y Y Y Y Y (by omega) ?_)
      | (show AOp _ _ ⟨_, .binOp _ _ _ _ _, _, _, _, _⟩ _ _ _; first | refine Ap hG Y Y Y Y Y (by omega) ?_ | refine Aq hG Y Y Y Y Y (by omega) ?_ | (refine Av hG Y Y Y Y Y (fun h => ?_) (fun h => ?_)))
      | (show AOp _ _ ⟨_, .load _ _, _, _, _, _⟩ _ _ _; first | refine Bf hG Y Y Y ?_ | refine Ax 0 hG Y Y Y Y ?_)
      | (show AOp _ _ ⟨_, .indexAddr _ _ _, _, _, _, _⟩ _ _ _; first | refine Bg hG Y Y Y Y Y Y Y (by omega) ?_ | refine Bh hG Y Y Y Y Y Y Y (by omega) ?_ | refine Bt hG Y Y ?_)
      | refine r_q hG Y Y Y ?_))
    | (show AL _ _ _ _ _ _ _ _; first | refine Bj Y Y Y ?_ | (refine As ?_; first | show AW _ _ _ _ _ _ | show ∃ x', _ < _ ∧ _)) | (show AW _ _ (.seq _ _) _ _ _; refine Ah ?_; intro Q1) | (show AW _ _ (.region _ _ false) _ _ _; refine Ad ?_; intro O1) | (show AW _ _ (.cond _ _ _) _ _ _; first | refine Aj Y ?_ | refine Ai Y ?_) | (show AW _ _ (.skip) _ _ _; refine Ak ?_; first | show AW _ _ _ _ _ _ | show ∃ x', _ < _ ∧ _) | (show AW _ _ (.block _ _) _ _ _; refine A7 ?_; intro Q1) | (show AW _ _ (.exit _) _ _ _; refine Bi ?_; first | show AW _ _ _ _ _ _ | show ∃ x', _ < _ ∧ _) | (show AW _ _ (.ret) _ _ _; refine Ar ?_; try dsimp only [Aw, Aa, Au, Ac]) | fail)
  refine aw_loop (X := IdX l) (fun x => [(0, lT l), (1, .fn (.func 69) []), (7, .int .i64 l.length), (8, .int .i64 x.i)]) (fun x => ⟨[], [], off, none⟩) (fun x => l.length - x.i) ⟨0, Nat.zero_le _, fun j h => by omega⟩ ?_ (.refl _) ?_
  · exact .cons rfl (.cons rfl (.consW rfl (.int (by simp)) (.consW rfl (.int rfl) (.nil _))))
  rintro ⟨i, hi, hn⟩
  dsimp only
  by_cases hil : i < l.length
  · have hc := r_May1 (b := l.getD i default) (Af _) (hb _ (getD_mem hil))
    cases hlb : longB (l.getD i default) <;> rw [hlb] at hc
    · repeat' (first
    | ((show AL _ _ _ _ _ _ _ _; refine Ae Y ?_); (first
      | (show AOp _ _ ⟨_, .move _, _, _, _, _⟩ _ _ _; refine Al hG Y Y ?_)
      | (show AOp _ _ ⟨_, .assign _, _, _, _, _⟩ _ _ _; refine A9 hG Y Y ?_)
      | (show AOp _ _ ⟨_, .call ⟨.builtin .len, _, _⟩, _, _, _, _⟩ _ _ _; first | refine Az hG Y Y Y Y ?_ | refine Bd hG Y Y Y Y Y ?_)
      | (show AOp _ _ ⟨_, .binOp .add _ _ _ _, _, _, _, _⟩ _ _ _; first | refine Am hG Y Y Y Y Y (by omega) ?_)
      | (show AOp _ _ ⟨_, .binOp _ _ _ _ _, _, _, _, _⟩ _ _ _; first | refine Ap hG Y Y Y Y Y (by omega) ?_ | refine Aq hG Y Y Y Y Y (by omega) ?_ | (refine Av hG Y Y Y Y Y (fun h => ?_) (fun h => ?_)))
      | (show AOp _ _ ⟨_, .load _ _, _, _, _, _⟩ _ _ _; first | refine Bf hG Y Y Y ?_ | refine Ax 0 hG Y Y Y Y ?_)
      | (show AOp _ _ ⟨_, .indexAddr _ _ _, _, _, _, _⟩ _ _ _; first | refine Bg hG Y Y Y Y Y Y Y (by omega) ?_ | refine Bh hG Y Y Y Y Y Y Y (by omega) ?_ | refine Bt hG Y Y ?_)
      | (show AOp _ _ ⟨_, .call ⟨.value _, _, _⟩, _, _, _, _⟩ _ _ _; first | refine Bc Y Y Y Y Y (by apply hc <;> (first | assumption | omega | exact Ab _ _ | exact Af _ | exact Ag _ _ | exact Ay _ | rfl | (simp; omega))) ?_ | fail)
      | refine r_q hG Y Y Y ?_))
    | (show AL _ _ _ _ _ _ _ _; first | refine Bj Y Y Y ?_ | (refine As ?_; first | show AW _ _ _ _ _ _ | show ∃ x', _ < _ ∧ _)) | (show AW _ _ (.seq _ _) _ _ _; refine Ah ?_; intro Q1) | (show AW _ _ (.region _ _ false) _ _ _; refine Ad ?_; intro O1) | (show AW _ _ (.cond _ _ _) _ _ _; first | refine Aj Y ?_ | refine Ai Y ?_) | (show AW _ _ (.skip) _ _ _; refine Ak ?_; first | show AW _ _ _ _ _ _ | show ∃ x', _ < _ ∧ _) | (show AW _ _ (.block _ _) _ _ _; refine A7 ?_; intro Q1) | (show AW _ _ (.exit _) _ _ _; refine Bi ?_; first | show AW _ _ _ _ _ _ | show ∃ x', _ < _ ∧ _) | (show AW _ _ (.ret) _ _ _; refine Ar ?_; try dsimp only [Aw, Aa, Au, Ac]) | fail)
      refine ⟨⟨i + 1, by omega, fun j hj => ?_⟩, by dsimp only; omega, ?_, .refl _⟩
      · rcases Nat.lt_succ_iff_lt_or_eq.1 hj with h | rfl
        · exact hn j h
        · exact hlb
      · exact .cons rfl (.cons rfl (.cons rfl (.consW rfl (.int (by simp)) (.nil _))))
    · repeat' (first
    | ((show AL _ _ _ _ _ _ _ _; refine Ae Y ?_); (first
      | (show AOp _ _ ⟨_, .move _, _, _, _, _⟩ _ _ _; refine Al hG Y Y ?_)
      | (show AOp _ _ ⟨_, .assign _, _, _, _, _⟩ _ _ _; refine A9 hG Y Y ?_)
      | (show AOp _ _ ⟨_, .call ⟨.builtin .len, _, _⟩, _, _, _, _⟩ _ _ _; first | refine Az hG Y Y Y Y ?_ | refine Bd hG Y Y Y Y Y ?_)
      | (show AOp _ _ ⟨_, .binOp .add _ _ _ _, _, _, _, _⟩ _ _ _; first | refine Am hG Y Y Y Y Y (by omega) ?_)
      | (show AOp _ _ ⟨_, .binOp _ _ _ _ _, _, _, _, _⟩ _ _ _; first | refine Ap hG Y Y Y Y Y (by omega) ?_ | refine Aq hG Y Y Y Y Y (by omega) ?_ | (refine Av hG Y Y Y Y Y (fun h => ?_) (fun h => ?_)))
      | (show AOp _ _ ⟨_, .load _ _, _, _, _, _⟩ _ _ _; first | refine Bf hG Y Y Y ?_ | refine Ax 0 hG Y Y Y Y ?_)
      | (show AOp _ _ ⟨_, .indexAddr _ _ _, _, _, _, _⟩ _ _ _; first | refine Bg hG Y Y Y Y Y Y Y (by omega) ?_ | refine Bh hG Y Y Y Y Y Y Y (by omega) ?_ | refine Bt hG Y Y ?_)
      | (show AOp _ _ ⟨_, .call ⟨.value _, _, _⟩, _, _, _, _⟩ _ _ _; first | refine Bc Y Y Y Y Y (by apply hc <;> (first | assumption | omega | exact Ab _ _ | exact Af _ | exact Ag _ _ | exact Ay _ | rfl | (simp; omega))) ?_ | fail)
      | refine r_q hG Y Y Y ?_))
    | (show AL _ _ _ _ _ _ _ _; first | refine Bj Y Y Y ?_ | (refine As ?_; first | show AW _ _ _ _ _ _ | show ∃ x', _ < _ ∧ _)) | (show AW _ _ (.seq _ _) _ _ _; refine Ah ?_; intro Q1) | (show AW _ _ (.region _ _ false) _ _ _; refine Ad ?_; intro O1) | (show AW _ _ (.cond _ _ _) _ _ _; first | refine Aj Y ?_ | refine Ai Y ?_) | (show AW _ _ (.skip) _ _ _; refine Ak ?_; first | show AW _ _ _ _ _ _ | show ∃ x', _ < _ ∧ _) | (show AW _ _ (.block _ _) _ _ _; refine A7 ?_; intro Q1) | (show AW _ _ (.exit _) _ _ _; refine Bi ?_; first | show AW _ _ _ _ _ _ | show ∃ x', _ < _ ∧ _) | (show AW _ _ (.ret) _ _ _; refine Ar ?_; try dsimp only [Aw, Aa, Au, Ac]) | fail)
      exact Ba (Ao rfl A8) (.int (idxL_at hil hlb hn).symm) rfl
  · obtain rfl : i = l.length := by omega
    repeat' (first
    | ((show AL _ _ _ _ _ _ _ _; refine Ae Y ?_); (first
      | (show AOp _ _ ⟨_, .move _, _, _, _, _⟩ _ _ _; refine Al hG Y Y ?_)
      | (show AOp _ _ ⟨_, .assign _, _, _, _, _⟩ _ _ _; refine A9 hG Y Y ?_)
      | (show AOp _ _ ⟨_, .call ⟨.builtin .len, _, _⟩, _, _, _, _⟩ _ _ _; first | refine Az hG Y Y Y Y ?_ | refine Bd hG Y Y Y Y Y ?_)
      | (show AOp _ _ ⟨_, .binOp .add _ _ _ _, _, _, _, _⟩ _ _ _; first | refine Am hG Y Y Y Y Y (by omega) ?_)
      | (show AOp _ _ ⟨_, .binOp _ _ _ _ _, _, _, _, _⟩ _ _ _; first | refine Ap hG Y Y Y Y Y (by omega) ?_ | refine Aq hG Y Y Y Y Y (by omega) ?_ | (refine Av hG Y Y Y Y Y (fun h => ?_) (fun h => ?_)))
      | (show AOp _ _ ⟨_, .load _ _, _, _, _, _⟩ _ _ _; first | refine Bf hG Y Y Y ?_ | refine Ax 0 hG Y Y Y Y ?_)
      | (show AOp _ _ ⟨_, .indexAddr _ _ _, _, _, _, _⟩ _ _ _; first | refine Bg hG Y Y Y Y Y Y Y (by omega) ?_ | refine Bh hG Y Y Y Y Y Y Y (by omega) ?_ | refine Bt hG Y Y ?_)
      | refine r_q hG Y Y Y ?_))
    | (show AL _ _ _ _ _ _ _ _; first | refine Bj Y Y Y ?_ | (refine As ?_; first | show AW _ _ _ _ _ _ | show ∃ x', _ < _ ∧ _)) | (show AW _ _ (.seq _ _) _ _ _; refine Ah ?_; intro Q1) | (show AW _ _ (.region _ _ false) _ _ _; refine Ad ?_; intro O1) | (show AW _ _ (.cond _ _ _) _ _ _; first | refine Aj Y ?_ | refine Ai Y ?_) | (show AW _ _ (.skip) _ _ _; refine Ak ?_; first | show AW _ _ _ _ _ _ | show ∃ x', _ < _ ∧ _) | (show AW _ _ (.block _ _) _ _ _; refine A7 ?_; intro Q1) | (show AW _ _ (.exit _) _ _ _; refine Bi ?_; first | show AW _ _ _ _ _ _ | show ∃ x', _ < _ ∧ _) | (show AW _ _ (.ret) _ _ _; refine Ar ?_; try dsimp only [Aw, Aa, Au, Ac]) | fail)
    exact Ba (Ao rfl A8) (.int (idxL_no hn).symm) rfl
def anyL (l : List (List UInt8)) : Bool := l.any longB
theorem idxL_any (l : List (List UInt8)) : (0 ≤ idxL l ↔ anyL l = true) := by
  unfold idxL anyL
  rw [List.any_eq_true]
  constructor
  · intro h
    split at h
    · rename_i h1; exact ⟨_, List.getElem_mem h1, List.findIdx_getElem⟩
    · omega
  · rintro ⟨b, h1, h2⟩
    rw [if_pos (List.findIdx_lt_length_of_exists ⟨b, h1, h2⟩)]
    omega
theorem r_Contains {x : T} {l : List (List UInt8)} (hx : lettersT x = some l) (hl : l.length ≤ Ca) (hb : ∀ b ∈ l, b.length ≤ Ca) : Ts.Pure Try.prog 68 [x, .fn (.func 69) []] (.bool (anyL l)) := by
  refine Pure.weak (us := [lT l, .fn (.func 69) []]) ?_ (wk2 (lettersT_wk hx) (.refl _))
  intro off
  refine Bp (N := 9) (rs := [.tmp 4]) hG Try.func68 rfl rfl rfl rfl rfl ?_
  have hc := r_Index (x := lT l) (lettersT_l l) hl hb
  have ha := idxL_any l
  by_cases h : 0 ≤ idxL l
  · repeat' (first
    | ((show AL _ _ _ _ _ _ _ _; refine Ae Y ?_); (first
      | (show AOp _ _ ⟨_, .move _, _, _, _, _⟩ _ _ _; refine Al hG Y Y ?_)
      | (show AOp _ _ ⟨_, .assign _, _, _, _, _⟩ _ _ _; refine A9 hG Y Y ?_)
      | (show AOp _ _ ⟨_, .binOp _ _ _ _ _, _, _, _, _⟩ _ _ _; first | refine Ap hG Y Y Y Y Y (by omega) ?_ | refine Aq hG Y Y Y Y Y (by omega) ?_ | (refine Av hG Y Y Y Y Y (fun h => ?_) (fun h => ?_)))
      | (show AOp _ _ ⟨_, .call ⟨.value _, _, _⟩, _, _, _, _⟩ _ _ _; first | refine Bc Y Y Y Y Y (by apply hc <;> (first | assumption | omega | exact Ab _ _ | exact Af _ | exact Ag _ _ | exact Ay _ | rfl | (simp; omega))) ?_ | fail)
      | refine r_q hG Y Y Y ?_))
    | (show AL _ _ _ _ _ _ _ _; first | refine Bj Y Y Y ?_ | (refine As ?_; first | show AW _ _ _ _ _ _ | show ∃ x', _ < _ ∧ _)) | (show AW _ _ (.seq _ _) _ _ _; refine Ah ?_; intro Q1) | (show AW _ _ (.region _ _ false) _ _ _; refine Ad ?_; intro O1) | (show AW _ _ (.ret) _ _ _; refine Ar ?_; try dsimp only [Aw, Aa, Au, Ac]) | fail)
    exact Ba (Ao rfl A8) (.eq (by rw [ha.1 h]; rfl)) rfl
  · repeat' (first
    | ((show AL _ _ _ _ _ _ _ _; refine Ae Y ?_); (first
      | (show AOp _ _ ⟨_, .move _, _, _, _, _⟩ _ _ _; refine Al hG Y Y ?_)
      | (show AOp _ _ ⟨_, .assign _, _, _, _, _⟩ _ _ _; refine A9 hG Y Y ?_)
      | (show AOp _ _ ⟨_, .binOp _ _ _ _ _, _, _, _, _⟩ _ _ _; first | refine Ap hG Y Y Y Y Y (by omega) ?_ | refine Aq hG Y Y Y Y Y (by omega) ?_ | (refine Av hG Y Y Y Y Y (fun h => ?_) (fun h => ?_)))
      | (show AOp _ _ ⟨_, .call ⟨.value _, _, _⟩, _, _, _, _⟩ _ _ _; first | refine Bc Y Y Y Y Y (by apply hc <;> (first | assumption | omega | exact Ab _ _ | exact Af _ | exact Ag _ _ | exact Ay _ | rfl | (simp; omega))) ?_ | fail)
      | refine r_q hG Y Y Y ?_))
    | (show AL _ _ _ _ _ _ _ _; first | refine Bj Y Y Y ?_ | (refine As ?_; first | show AW _ _ _ _ _ _ | show ∃ x', _ < _ ∧ _)) | (show AW _ _ (.seq _ _) _ _ _; refine Ah ?_; intro Q1) | (show AW _ _ (.region _ _ false) _ _ _; refine Ad ?_; intro O1) | (show AW _ _ (.ret) _ _ _; refine Ar ?_; try dsimp only [Aw, Aa, Au, Ac]) | fail)
    exact Ba (Ao rfl A8) (.eq (by rw [Bool.eq_false_iff.2 fun e => h (ha.2 e)]; rfl)) rfl
theorem mayL_any (l : List (List UInt8)) : mayL l = (decide (l.length ≤ 4) && !anyL l) := by
  unfold mayL anyL
  congr 1
  rw [List.not_any_eq_all_not]
  congr 1; funext b; unfold longB; rw [← decide_not]; congr 1; simp
theorem r_May {x : T} {l : List (List UInt8)} (hx : lettersT x = some l) (hl : l.length ≤ Ca) (hb : ∀ b ∈ l, b.length ≤ Ca) : Ts.Pure Try.prog 48 [x] (.bool (mayL l)) := by
  refine Pure.weak (us := [lT l]) ?_ (wk1 (lettersT_wk hx))
  intro off
  refine Bp (N := 11) (rs := [.tmp 2]) hG Try.func48 rfl rfl rfl rfl rfl ?_
  have hc := r_Contains (x := lT l) (lettersT_l l) hl hb
  rw [mayL_any]
  by_cases h4 : l.length ≤ 4
  · rw [decide_eq_true h4, Bool.true_and]
    cases ha : anyL l <;> rw [ha] at hc
    · repeat' (first
    | ((show AL _ _ _ _ _ _ _ _; refine Ae Y ?_); (first
      | (show AOp _ _ ⟨_, .move _, _, _, _, _⟩ _ _ _; refine Al hG Y Y ?_)
      | (show AOp _ _ ⟨_, .assign _, _, _, _, _⟩ _ _ _; refine A9 hG Y Y ?_)
      | (show AOp _ _ ⟨_, .call ⟨.builtin .len, _, _⟩, _, _, _, _⟩ _ _ _; first | refine Az hG Y Y Y Y ?_ | refine Bd hG Y Y Y Y Y ?_)
      | (show AOp _ _ ⟨_, .binOp _ _ _ _ _, _, _, _, _⟩ _ _ _; first | refine Ap hG Y Y Y Y Y (by omega) ?_ | refine Aq hG Y Y Y Y Y (by omega) ?_ | (refine Av hG Y Y Y Y Y (fun h => ?_) (fun h => ?_)))
      | (show AOp _ _ ⟨_, .pick _ _ _, _, _, _, _⟩ _ _ _; refine Bl hG Y Y Y ?_)
      | (show AOp _ _ ⟨_, .unOp _ _ _, _, _, _, _⟩ _ _ _; refine B2 hG Y Y Y ?_)
      | (show AOp _ _ ⟨_, .call ⟨.value _, _, _⟩, _, _, _, _⟩ _ _ _; first | refine Bc Y Y Y Y Y (by apply hc <;> (first | assumption | omega | exact Ab _ _ | exact Af _ | exact Ag _ _ | exact Ay _ | rfl | (simp; omega))) ?_ | fail)
      | refine r_q hG Y Y Y ?_))
    | (show AL _ _ _ _ _ _ _ _; first | refine Bj Y Y Y ?_ | (refine As ?_; first | show AW _ _ _ _ _ _ | show ∃ x', _ < _ ∧ _)) | (show AW _ _ (.seq _ _) _ _ _; refine Ah ?_; intro Q1) | (show AW _ _ (.region _ _ false) _ _ _; refine Ad ?_; intro O1) | (show AW _ _ (.ret) _ _ _; refine Ar ?_; try dsimp only [Aw, Aa, Au, Ac]) | fail)
      exact Ba (Ao rfl A8) (.refl _) rfl
    · repeat' (first
    | ((show AL _ _ _ _ _ _ _ _; refine Ae Y ?_); (first
      | (show AOp _ _ ⟨_, .move _, _, _, _, _⟩ _ _ _; refine Al hG Y Y ?_)
      | (show AOp _ _ ⟨_, .assign _, _, _, _, _⟩ _ _ _; refine A9 hG Y Y ?_)
      | (show AOp _ _ ⟨_, .call ⟨.builtin .len, _, _⟩, _, _, _, _⟩ _ _ _; first | refine Az hG Y Y Y Y ?_ | refine Bd hG Y Y Y Y Y ?_)
      | (show AOp _ _ ⟨_, .binOp _ _ _ _ _, _, _, _, _⟩ _ _ _; first | refine Ap hG Y Y Y Y Y (by omega) ?_ | refine Aq hG Y Y Y Y Y (by omega) ?_ | (refine Av hG Y Y Y Y Y (fun h => ?_) (fun h => ?_)))
      | (show AOp _ _ ⟨_, .pick _ _ _, _, _, _, _⟩ _ _ _; refine Bl hG Y Y Y ?_)
      | (show AOp _ _ ⟨_, .unOp _ _ _, _, _, _, _⟩ _ _ _; refine B2 hG Y Y Y ?_)
      | (show AOp _ _ ⟨_, .call ⟨.value _, _, _⟩, _, _, _, _⟩ _ _ _; first | refine Bc Y Y Y Y Y (by apply hc <;> (first | assumption | omega | exact Ab _ _ | exact Af _ | exact Ag _ _ | exact Ay _ | rfl | (simp; omega))) ?_ | fail)
      | refine r_q hG Y Y Y ?_))
    | (show AL _ _ _ _ _ _ _ _; first | refine Bj Y Y Y ?_ | (refine As ?_; first | show AW _ _ _ _ _ _ | show ∃ x', _ < _ ∧ _)) | (show AW _ _ (.seq _ _) _ _ _; refine Ah ?_; intro Q1) | (show AW _ _ (.region _ _ false) _ _ _; refine Ad ?_; intro O1) | (show AW _ _ (.ret) _ _ _; refine Ar ?_; try dsimp only [Aw, Aa, Au, Ac]) | fail)
      exact Ba (Ao rfl A8) (.refl _) rfl
  · rw [decide_eq_false h4, Bool.false_and]
    repeat' (first
    | ((show AL _ _ _ _ _ _ _ _; refine Ae Y ?_); (first
      | (show AOp _ _ ⟨_, .move _, _, _, _, _⟩ _ _ _; refine Al hG Y Y ?_)
      | (show AOp _ _ ⟨_, .assign _, _, _, _, _⟩ _ _ _; refine A9 hG Y Y ?_)
      | (show AOp _ _ ⟨_, .call ⟨.builtin .len, _, _⟩, _, _, _, _⟩ _ _ _; first | refine Az hG Y Y Y Y ?_ | refine Bd hG Y Y Y Y Y ?_)
      | (show AOp _ _ ⟨_, .binOp _ _ _ _ _, _, _, _, _⟩ _ _ _; first | refine Ap hG Y Y Y Y Y (by omega) ?_ | refine Aq hG Y Y Y Y Y (by omega) ?_ | (refine Av hG Y Y Y Y Y (fun h => ?_) (fun h => ?_)))
      | (show AOp _ _ ⟨_, .pick _ _ _, _, _, _, _⟩ _ _ _; refine Bl hG Y Y Y ?_)
      | (show AOp _ _ ⟨_, .unOp _ _ _, _, _, _, _⟩ _ _ _; refine B2 hG Y Y Y ?_)
      | refine r_q hG Y Y Y ?_))
    | (show AL _ _ _ _ _ _ _ _; first | refine Bj Y Y Y ?_ | (refine As ?_; first | show AW _ _ _ _ _ _ | show ∃ x', _ < _ ∧ _)) | (show AW _ _ (.seq _ _) _ _ _; refine Ah ?_; intro Q1) | (show AW _ _ (.region _ _ false) _ _ _; refine Ad ?_; intro O1) | (show AW _ _ (.ret) _ _ _; refine Ar ?_; try dsimp only [Aw, Aa, Au, Ac]) | fail)
    exact Ba (Ao rfl A8) (.refl _) rfl
theorem ref_MayRing {x : T} {l : List (List UInt8)} (hx : lettersT x = some l) (hl : l.length ≤ Ca) (hb : ∀ b ∈ l, b.length ≤ Ca) : Ts.Pure Try.prog 54 [x] (.bool (mayL l)) := by
  refine Pure.weak (us := [lT l]) ?_ (wk1 (lettersT_wk hx))
  intro off
  refine Bp (N := 19) (rs := [.tmp 2]) hG Try.func54 rfl rfl rfl rfl rfl ?_
  rw [mayL_any]
  unfold Ca at hl
  repeat' (first
    | ((show AL _ _ _ _ _ _ _ _; refine Ae Y ?_); (first
      | (show AOp _ _ ⟨_, .move _, _, _, _, _⟩ _ _ _; refine Al hG Y Y ?_)
      | (show AOp _ _ ⟨_, .assign _, _, _, _, _⟩ _ _ _; refine A9 hG Y Y ?_)
      | (show AOp _ _ ⟨_, .call ⟨.builtin .len, _, _⟩, _, _, _, _⟩ _ _ _; first | refine Az hG Y Y Y Y ?_ | refine Bd hG Y Y Y Y Y ?_)
      | (show AOp _ _ ⟨_, .binOp .add _ _ _ _, _, _, _, _⟩ _ _ _; first | refine Am hG Y Y Y Y Y (by omega) ?_)
      | (show AOp _ _ ⟨_, .binOp _ _ _ _ _, _, _, _, _⟩ _ _ _; first | refine Ap hG Y Y Y Y Y (by omega) ?_ | refine Aq hG Y Y Y Y Y (by omega) ?_ | (refine Av hG Y Y Y Y Y (fun h => ?_) (fun h => ?_)))
      | (show AOp _ _ ⟨_, .load _ _, _, _, _, _⟩ _ _ _; first | refine Bf hG Y Y Y ?_ | refine Ax 0 hG Y Y Y Y ?_)
      | (show AOp _ _ ⟨_, .indexAddr _ _ _, _, _, _, _⟩ _ _ _; first | refine Bg hG Y Y Y Y Y Y Y (by omega) ?_ | refine Bh hG Y Y Y Y Y Y Y (by omega) ?_ | refine Bt hG Y Y ?_)
      | refine r_q hG Y Y Y ?_))
    | (show AL _ _ _ _ _ _ _ _; first | refine Bj Y Y Y ?_ | (refine As ?_; first | show AW _ _ _ _ _ _ | show ∃ x', _ < _ ∧ _)) | (show AW _ _ (.seq _ _) _ _ _; refine Ah ?_; intro Q1) | (show AW _ _ (.region _ _ false) _ _ _; refine Ad ?_; intro O1) | (show AW _ _ (.cond _ _ _) _ _ _; first | refine Aj Y ?_ | refine Ai Y ?_) | (show AW _ _ (.skip) _ _ _; refine Ak ?_; first | show AW _ _ _ _ _ _ | show ∃ x', _ < _ ∧ _) | (show AW _ _ (.block _ _) _ _ _; refine A7 ?_; intro Q1) | (show AW _ _ (.exit _) _ _ _; refine Bi ?_; first | show AW _ _ _ _ _ _ | show ∃ x', _ < _ ∧ _) | (show AW _ _ (.ret) _ _ _; refine Ar ?_; try dsimp only [Aw, Aa, Au, Ac]) | fail)
  refine aw_loop (X := IdX l) (fun x => [(0, lT l), (3, .int .i64 x.i)]) (fun x => ⟨[], [], off, none⟩) (fun x => l.length - x.i) ⟨0, Nat.zero_le _, fun j h => by omega⟩ ?_ (.refl _) ?_
  · exact .cons rfl (.consW rfl (.int rfl) (.nil _))
  rintro ⟨i, hi, hn⟩
  dsimp only
  by_cases hil : i < l.length
  · have hbi := hb _ (getD_mem hil)
    unfold Ca at hbi
    by_cases hlb : 16 < (l.getD i default).length
    · have : anyL l = true := List.any_eq_true.2 ⟨_, getD_mem hil, decide_eq_true hlb⟩
      repeat' (first
    | ((show AL _ _ _ _ _ _ _ _; refine Ae Y ?_); (first
      | (show AOp _ _ ⟨_, .move _, _, _, _, _⟩ _ _ _; refine Al hG Y Y ?_)
      | (show AOp _ _ ⟨_, .assign _, _, _, _, _⟩ _ _ _; refine A9 hG Y Y ?_)
      | (show AOp _ _ ⟨_, .call ⟨.builtin .len, _, _⟩, _, _, _, _⟩ _ _ _; first | refine Az hG Y Y Y Y ?_ | refine Bd hG Y Y Y Y Y ?_)
      | (show AOp _ _ ⟨_, .binOp .add _ _ _ _, _, _, _, _⟩ _ _ _; first | refine Am hG Y Y Y Y Y (by omega) ?_)
      | (show AOp _ _ ⟨_, .binOp _ _ _ _ _, _, _, _, _⟩ _ _ _; first | refine Ap hG Y Y Y Y Y (by omega) ?_ | refine Aq hG Y Y Y Y Y (by omega) ?_ | (refine Av hG Y Y Y Y Y (fun h => ?_) (fun h => ?_)))
      | (show AOp _ _ ⟨_, .load _ _, _, _, _, _⟩ _ _ _; first | refine Bf hG Y Y Y ?_ | refine Ax 0 hG Y Y Y Y ?_)
      | (show AOp _ _ ⟨_, .indexAddr _ _ _, _, _, _, _⟩ _ _ _; first | refine Bg hG Y Y Y Y Y Y Y (by omega) ?_ | refine Bh hG Y Y Y Y Y Y Y (by omega) ?_ | refine Bt hG Y Y ?_)
      | refine r_q hG Y Y Y ?_))
    | (show AL _ _ _ _ _ _ _ _; first | refine Bj Y Y Y ?_ | (refine As ?_; first | show AW _ _ _ _ _ _ | show ∃ x', _ < _ ∧ _)) | (show AW _ _ (.seq _ _) _ _ _; refine Ah ?_; intro Q1) | (show AW _ _ (.region _ _ false) _ _ _; refine Ad ?_; intro O1) | (show AW _ _ (.cond _ _ _) _ _ _; first | refine Aj Y ?_ | refine Ai Y ?_) | (show AW _ _ (.skip) _ _ _; refine Ak ?_; first | show AW _ _ _ _ _ _ | show ∃ x', _ < _ ∧ _) | (show AW _ _ (.block _ _) _ _ _; refine A7 ?_; intro Q1) | (show AW _ _ (.exit _) _ _ _; refine Bi ?_; first | show AW _ _ _ _ _ _ | show ∃ x', _ < _ ∧ _) | (show AW _ _ (.ret) _ _ _; refine Ar ?_; try dsimp only [Aw, Aa, Au, Ac]) | fail)
      exact Ba (Ao rfl A8) (.eq (by rw [this]; simp; rfl)) rfl
    · repeat' (first
    | ((show AL _ _ _ _ _ _ _ _; refine Ae Y ?_); (first
      | (show AOp _ _ ⟨_, .move _, _, _, _, _⟩ _ _ _; refine Al hG Y Y ?_)
      | (show AOp _ _ ⟨_, .assign _, _, _, _, _⟩ _ _ _; refine A9 hG Y Y ?_)
      | (show AOp _ _ ⟨_, .call ⟨.builtin .len, _, _⟩, _, _, _, _⟩ _ _ _; first | refine Az hG Y Y Y Y ?_ | refine Bd hG Y Y Y Y Y ?_)
      | (show AOp _ _ ⟨_, .binOp .add _ _ _ _, _, _, _, _⟩ _ _ _; first | refine Am hG Y Y Y Y Y (by omega) ?_)
      | (show AOp _ _ ⟨_, .binOp _ _ _ _ _, _, _, _, _⟩ _ _ _; first | refine Ap hG Y Y Y Y Y (by omega) ?_ | refine Aq hG Y Y Y Y Y (by omega) ?_ | (refine Av hG Y Y Y Y Y (fun h => ?_) (fun h => ?_)))
      | (show AOp _ _ ⟨_, .load _ _, _, _, _, _⟩ _ _ _; first | refine Bf hG Y Y Y ?_ | refine Ax 0 hG Y Y Y Y ?_)
      | (show AOp _ _ ⟨_, .indexAddr _ _ _, _, _, _, _⟩ _ _ _; first | refine Bg hG Y Y Y Y Y Y Y (by omega) ?_ | refine Bh hG Y Y Y Y Y Y Y (by omega) ?_ | refine Bt hG Y Y ?_)
      | refine r_q hG Y Y Y ?_))
    | (show AL _ _ _ _ _ _ _ _; first | refine Bj Y Y Y ?_ | (refine As ?_; first | show AW _ _ _ _ _ _ | show ∃ x', _ < _ ∧ _)) | (show AW _ _ (.seq _ _) _ _ _; refine Ah ?_; intro Q1) | (show AW _ _ (.region _ _ false) _ _ _; refine Ad ?_; intro O1) | (show AW _ _ (.cond _ _ _) _ _ _; first | refine Aj Y ?_ | refine Ai Y ?_) | (show AW _ _ (.skip) _ _ _; refine Ak ?_; first | show AW _ _ _ _ _ _ | show ∃ x', _ < _ ∧ _) | (show AW _ _ (.block _ _) _ _ _; refine A7 ?_; intro Q1) | (show AW _ _ (.exit _) _ _ _; refine Bi ?_; first | show AW _ _ _ _ _ _ | show ∃ x', _ < _ ∧ _) | (show AW _ _ (.ret) _ _ _; refine Ar ?_; try dsimp only [Aw, Aa, Au, Ac]) | fail)
      refine ⟨⟨i + 1, by omega, fun j hj => ?_⟩, by dsimp only; omega, ?_, .refl _⟩
      · rcases Nat.lt_succ_iff_lt_or_eq.1 hj with h | rfl
        · exact hn j h
        · exact decide_eq_false hlb
      · exact .cons rfl (.consW rfl (.int (by simp)) (.nil _))
  · obtain rfl : i = l.length := by omega
    have : anyL l = false := Bool.eq_false_iff.2 fun e => by
      have h1 := (idxL_any l).2 e
      rw [idxL_no hn] at h1; omega
    by_cases h4 : l.length ≤ 4
    · repeat' (first
    | ((show AL _ _ _ _ _ _ _ _; refine Ae Y ?_); (first
      | (show AOp _ _ ⟨_, .move _, _, _, _, _⟩ _ _ _; refine Al hG Y Y ?_)
      | (show AOp _ _ ⟨_, .assign _, _, _, _, _⟩ _ _ _; refine A9 hG Y Y ?_)
      | (show AOp _ _ ⟨_, .call ⟨.builtin .len, _, _⟩, _, _, _, _⟩ _ _ _; first | refine Az hG Y Y Y Y ?_ | refine Bd hG Y Y Y Y Y ?_)
      | (show AOp _ _ ⟨_, .binOp .add _ _ _ _, _, _, _, _⟩ _ _ _; first | refine Am hG Y Y Y Y Y (by omega) ?_)
      | (show AOp _ _ ⟨_, .binOp _ _ _ _ _, _, _, _, _⟩ _ _ _; first | refine Ap hG Y Y Y Y Y (by omega) ?_ | refine Aq hG Y Y Y Y Y (by omega) ?_ | (refine Av hG Y Y Y Y Y (fun h => ?_) (fun h => ?_)))
      | (show AOp _ _ ⟨_, .load _ _, _, _, _, _⟩ _ _ _; first | refine Bf hG Y Y Y ?_ | refine Ax 0 hG Y Y Y Y ?_)
      | (show AOp _ _ ⟨_, .indexAddr _ _ _, _, _, _, _⟩ _ _ _; first | refine Bg hG Y Y Y Y Y Y Y (by omega) ?_ | refine Bh hG Y Y Y Y Y Y Y (by omega) ?_ | refine Bt hG Y Y ?_)
      | refine r_q hG Y Y Y ?_))
    | (show AL _ _ _ _ _ _ _ _; first | refine Bj Y Y Y ?_ | (refine As ?_; first | show AW _ _ _ _ _ _ | show ∃ x', _ < _ ∧ _)) | (show AW _ _ (.seq _ _) _ _ _; refine Ah ?_; intro Q1) | (show AW _ _ (.region _ _ false) _ _ _; refine Ad ?_; intro O1) | (show AW _ _ (.cond _ _ _) _ _ _; first | refine Aj Y ?_ | refine Ai Y ?_) | (show AW _ _ (.skip) _ _ _; refine Ak ?_; first | show AW _ _ _ _ _ _ | show ∃ x', _ < _ ∧ _) | (show AW _ _ (.block _ _) _ _ _; refine A7 ?_; intro Q1) | (show AW _ _ (.exit _) _ _ _; refine Bi ?_; first | show AW _ _ _ _ _ _ | show ∃ x', _ < _ ∧ _) | (show AW _ _ (.ret) _ _ _; refine Ar ?_; try dsimp only [Aw, Aa, Au, Ac]) | fail)
      exact Ba (Ao rfl A8) (.eq (by rw [this]; simp [h4]; rfl)) rfl
    · repeat' (first
    | ((show AL _ _ _ _ _ _ _ _; refine Ae Y ?_); (first
      | (show AOp _ _ ⟨_, .move _, _, _, _, _⟩ _ _ _; refine Al hG Y Y ?_)
      | (show AOp _ _ ⟨_, .assign _, _, _, _, _⟩ _ _ _; refine A9 hG Y Y ?_)
      | (show AOp _ _ ⟨_, .call ⟨.builtin .len, _, _⟩, _, _, _, _⟩ _ _ _; first | refine Az hG Y Y Y Y ?_ | refine Bd hG Y Y Y Y Y ?_)
      | (show AOp _ _ ⟨_, .binOp .add _ _ _ _, _, _, _, _⟩ _ _ _; first | refine Am hG Y Y Y Y Y (by omega) ?_)
      | (show AOp _ _ ⟨_, .binOp _ _ _ _ _, _, _, _, _⟩ _ _ _; first | refine Ap hG Y Y Y Y Y (by omega) ?_ | refine Aq hG Y Y Y Y Y (by omega) ?_ | (refine Av hG Y Y Y Y Y (fun h => ?_) (fun h => ?_)))
      | (show AOp _ _ ⟨_, .load _ _, _, _, _, _⟩ _ _ _; first | refine Bf hG Y Y Y ?_ | refine Ax 0 hG Y Y Y Y ?_)
      | (show AOp _ _ ⟨_, .indexAddr _ _ _, _, _, _, _⟩ _ _ _; first | refine Bg hG Y Y Y Y Y Y Y (by omega) ?_ | refine Bh hG Y Y Y Y Y Y Y (by omega) ?_ | refine Bt hG Y Y ?_)
      | refine r_q hG Y Y Y ?_))
    | (show AL _ _ _ _ _ _ _ _; first | refine Bj Y Y Y ?_ | (refine As ?_; first | show AW _ _ _ _ _ _ | show ∃ x', _ < _ ∧ _)) | (show AW _ _ (.seq _ _) _ _ _; refine Ah ?_; intro Q1) | (show AW _ _ (.region _ _ false) _ _ _; refine Ad ?_; intro O1) | (show AW _ _ (.cond _ _ _) _ _ _; first | refine Aj Y ?_ | refine Ai Y ?_) | (show AW _ _ (.skip) _ _ _; refine Ak ?_; first | show AW _ _ _ _ _ _ | show ∃ x', _ < _ ∧ _) | (show AW _ _ (.block _ _) _ _ _; refine A7 ?_; intro Q1) | (show AW _ _ (.exit _) _ _ _; refine Bi ?_; first | show AW _ _ _ _ _ _ | show ∃ x', _ < _ ∧ _) | (show AW _ _ (.ret) _ _ _; refine Ar ?_; try dsimp only [Aw, Aa, Au, Ac]) | fail)
      exact Ba (Ao rfl A8) (.eq (by rw [this]; simp [h4]; rfl)) rfl
structure RpX (l : List (List UInt8)) where
  i : Nat
  k : Nat
  hi : i ≤ l.length
theorem putBs_foldl_len (b : List UInt8) (l : List (List UInt8)) (h : ∀ s ∈ l, s.length ≤ 16) : (l.foldl putBs b).length ≤ b.length + 18 * l.length := by
  rw [fold_put, List.length_append]; have := lets_len l h; omega
theorem r_Put {x y : T} {b : List UInt8} {l : List (List UInt8)} (hx : bytesT x = some b) (hy : lettersT y = some l) (hl : b.length ≤ 4294000000) (hm : mayL l = true) :
    Owns Try.prog 29 [x, y] 1 ((putR b l).map bT) := by
  refine Owns.weak (us := [sT b, lT l]) ?_ (wk2 (bytesT_wk hx) (lettersT_wk hy))
  intro off
  refine Bp (N := 24) (rs := [.tmp 4]) hG Try.func29 rfl rfl rfl rfl rfl ?_
  obtain ⟨h4, h16⟩ := mayL_iff.1 hm
  have hpl := putI_le l.length 1
  repeat' (first
    | ((show AL _ _ _ _ _ _ _ _; refine Ae Y ?_); (first
      | (show AOp _ _ ⟨_, .move _, _, _, _, _⟩ _ _ _; refine Al hG Y Y ?_)
      | (show AOp _ _ ⟨_, .assign _, _, _, _, _⟩ _ _ _; refine A9 hG Y Y ?_)
      | (show AOp _ _ ⟨_, .call ⟨.builtin .len, _, _⟩, _, _, _, _⟩ _ _ _; first | refine Az hG Y Y Y Y ?_ | refine Bd hG Y Y Y Y Y ?_)
      | (show AOp _ _ ⟨_, .binOp .add _ _ _ _, _, _, _, _⟩ _ _ _; first | refine Am hG Y Y Y Y Y (by omega) ?_)
      | (show AOp _ _ ⟨_, .binOp _ _ _ _ _, _, _, _, _⟩ _ _ _; first | refine Ap hG Y Y Y Y Y (by omega) ?_ | refine Aq hG Y Y Y Y Y (by omega) ?_ | (refine Av hG Y Y Y Y Y (fun h => ?_) (fun h => ?_)))
      | (show AOp _ _ ⟨_, .load _ _, _, _, _, _⟩ _ _ _; first | refine Bf hG Y Y Y ?_ | refine Ax 0 hG Y Y Y Y ?_)
      | (show AOp _ _ ⟨_, .indexAddr _ _ _, _, _, _, _⟩ _ _ _; first | refine Bg hG Y Y Y Y Y Y Y (by omega) ?_ | refine Bh hG Y Y Y Y Y Y Y (by omega) ?_ | refine Bt hG Y Y ?_)
      | (show AOp _ _ ⟨_, .convert _ _ _, _, _, _, _⟩ _ _ _; first | refine Cb hG Y Y Y Y Y (by omega) ?_ | refine By hG Y Y Y Y Y ?_)
      | (show AOp _ _ ⟨_, .call ⟨.value _, _, _⟩, _, _, _, _⟩ _ _ _; first | (refine r_owns Y Y Y Y Y (by apply num_Put <;> (first | assumption | omega | exact Ab _ _ | exact Af _ | exact Ag _ _ | exact Ay _ | rfl | (simp; omega))) (fun k => ?_)) | (have := kk; clear this; refine Bc Y Y Y Y Y (Owns.pure (by apply num_Put <;> (first | assumption | omega | exact Ab _ _ | exact Af _ | exact Ag _ _ | exact Ay _ | rfl | (simp; omega)))) ?_) | fail)
      | refine r_q hG Y Y Y ?_))
    | (show AL _ _ _ _ _ _ _ _; first | refine Bj Y Y Y ?_ | (refine As ?_; first | show AW _ _ _ _ _ _ | show ∃ x', _ < _ ∧ _)) | (show AW _ _ (.seq _ _) _ _ _; refine Ah ?_; intro Q1) | (show AW _ _ (.region _ _ false) _ _ _; refine Ad ?_; intro O1) | (show AW _ _ (.cond _ _ _) _ _ _; first | refine Aj Y ?_ | refine Ai Y ?_) | (show AW _ _ (.skip) _ _ _; refine Ak ?_; first | show AW _ _ _ _ _ _ | show ∃ x', _ < _ ∧ _) | (show AW _ _ (.block _ _) _ _ _; refine A7 ?_; intro Q1) | (show AW _ _ (.exit _) _ _ _; refine Bi ?_; first | show AW _ _ _ _ _ _ | show ∃ x', _ < _ ∧ _) | (show AW _ _ (.ret) _ _ _; refine Ar ?_; try dsimp only [Aw, Aa, Au, Ac]) | fail)
  refine aw_loop (X := RpX l) (fun x => [(13, lT l), (14, .int .i64 l.length), (15, .int .i64 x.i), (5, .sl 1 (.tok x.k) (((l.take x.i).foldl putBs (b ++ putI l.length 1)).map bT))]) (fun x => ⟨[], [x.k], off, none⟩) (fun x => l.length - x.i) ⟨0, _, Nat.zero_le _⟩ ?_ (.refl _) ?_
  · exact .cons rfl (.consW rfl (.int (by simp)) (.consW rfl (.int rfl) (.cons rfl (.nil _))))
  rintro ⟨i, k, hi⟩
  dsimp only
  by_cases hil : i < l.length
  · have hsi := h16 _ (getD_mem hil)
    have hlen := putBs_foldl_len (b ++ putI l.length 1) (l.take i) fun s hs => h16 s (List.mem_of_mem_take hs)
    rw [List.length_append, List.length_take] at hlen
    have hft : (l.take (i + 1)).foldl putBs (b ++ putI l.length 1) = putBs ((l.take i).foldl putBs (b ++ putI l.length 1)) (l.getD i default) := by rw [take_snoc l i hil, List.foldl_append]; rfl
    generalize hz : (l.take i).foldl putBs (b ++ putI l.length 1) = z at *
    repeat' (first
    | ((show AL _ _ _ _ _ _ _ _; refine Ae Y ?_); (first
      | (show AOp _ _ ⟨_, .move _, _, _, _, _⟩ _ _ _; refine Al hG Y Y ?_)
      | (show AOp _ _ ⟨_, .assign _, _, _, _, _⟩ _ _ _; refine A9 hG Y Y ?_)
      | (show AOp _ _ ⟨_, .call ⟨.builtin .len, _, _⟩, _, _, _, _⟩ _ _ _; first | refine Az hG Y Y Y Y ?_ | refine Bd hG Y Y Y Y Y ?_)
      | (show AOp _ _ ⟨_, .binOp .add _ _ _ _, _, _, _, _⟩ _ _ _; first | refine Am hG Y Y Y Y Y (by omega) ?_)
      | (show AOp _ _ ⟨_, .binOp _ _ _ _ _, _, _, _, _⟩ _ _ _; first | refine Ap hG Y Y Y Y Y (by omega) ?_ | refine Aq hG Y Y Y Y Y (by omega) ?_ | (refine Av hG Y Y Y Y Y (fun h => ?_) (fun h => ?_)))
      | (show AOp _ _ ⟨_, .load _ _, _, _, _, _⟩ _ _ _; first | refine Bf hG Y Y Y ?_ | refine Ax 0 hG Y Y Y Y ?_)
      | (show AOp _ _ ⟨_, .indexAddr _ _ _, _, _, _, _⟩ _ _ _; first | refine Bg hG Y Y Y Y Y Y Y (by omega) ?_ | refine Bh hG Y Y Y Y Y Y Y (by omega) ?_ | refine Bt hG Y Y ?_)
      | (show AOp _ _ ⟨_, .convert _ _ _, _, _, _, _⟩ _ _ _; first | refine Cb hG Y Y Y Y Y (by omega) ?_ | refine By hG Y Y Y Y Y ?_)
      | (show AOp _ _ ⟨_, .call ⟨.value _, _, _⟩, _, _, _, _⟩ _ _ _; first | (refine r_owns Y Y Y Y Y (by apply num_PutBytes <;> (first | assumption | omega | exact Ab _ _ | exact Af _ | exact Ag _ _ | exact Ay _ | rfl | (simp; omega))) (fun k => ?_)) | (have := kk; clear this; refine Bc Y Y Y Y Y (Owns.pure (by apply num_PutBytes <;> (first | assumption | omega | exact Ab _ _ | exact Af _ | exact Ag _ _ | exact Ay _ | rfl | (simp; omega)))) ?_) | fail)
      | refine r_q hG Y Y Y ?_))
    | (show AL _ _ _ _ _ _ _ _; first | refine Bj Y Y Y ?_ | (refine As ?_; first | show AW _ _ _ _ _ _ | show ∃ x', _ < _ ∧ _)) | (show AW _ _ (.seq _ _) _ _ _; refine Ah ?_; intro Q1) | (show AW _ _ (.region _ _ false) _ _ _; refine Ad ?_; intro O1) | (show AW _ _ (.cond _ _ _) _ _ _; first | refine Aj Y ?_ | refine Ai Y ?_) | (show AW _ _ (.skip) _ _ _; refine Ak ?_; first | show AW _ _ _ _ _ _ | show ∃ x', _ < _ ∧ _) | (show AW _ _ (.block _ _) _ _ _; refine A7 ?_; intro Q1) | (show AW _ _ (.exit _) _ _ _; refine Bi ?_; first | show AW _ _ _ _ _ _ | show ∃ x', _ < _ ∧ _) | (show AW _ _ (.ret) _ _ _; refine Ar ?_; try dsimp only [Aw, Aa, Au, Ac]) | fail)
    refine ⟨⟨i + 1, _, by omega⟩, by dsimp only; omega, ?_, drop_tok⟩
    exact .cons rfl (.cons rfl (.consW rfl (.int (by simp)) (.consW rfl (.eq (by rw [hft])) (.nil _))))
  · obtain rfl : i = l.length := by omega
    repeat' (first
    | ((show AL _ _ _ _ _ _ _ _; refine Ae Y ?_); (first
      | (show AOp _ _ ⟨_, .move _, _, _, _, _⟩ _ _ _; refine Al hG Y Y ?_)
      | (show AOp _ _ ⟨_, .assign _, _, _, _, _⟩ _ _ _; refine A9 hG Y Y ?_)
      | (show AOp _ _ ⟨_, .call ⟨.builtin .len, _, _⟩, _, _, _, _⟩ _ _ _; first | refine Az hG Y Y Y Y ?_ | refine Bd hG Y Y Y Y Y ?_)
      | (show AOp _ _ ⟨_, .binOp .add _ _ _ _, _, _, _, _⟩ _ _ _; first | refine Am hG Y Y Y Y Y (by omega) ?_)
      | (show AOp _ _ ⟨_, .binOp _ _ _ _ _, _, _, _, _⟩ _ _ _; first | refine Ap hG Y Y Y Y Y (by omega) ?_ | refine Aq hG Y Y Y Y Y (by omega) ?_ | (refine Av hG Y Y Y Y Y (fun h => ?_) (fun h => ?_)))
      | (show AOp _ _ ⟨_, .load _ _, _, _, _, _⟩ _ _ _; first | refine Bf hG Y Y Y ?_ | refine Ax 0 hG Y Y Y Y ?_)
      | (show AOp _ _ ⟨_, .indexAddr _ _ _, _, _, _, _⟩ _ _ _; first | refine Bg hG Y Y Y Y Y Y Y (by omega) ?_ | refine Bh hG Y Y Y Y Y Y Y (by omega) ?_ | refine Bt hG Y Y ?_)
      | (show AOp _ _ ⟨_, .convert _ _ _, _, _, _, _⟩ _ _ _; first | refine Cb hG Y Y Y Y Y (by omega) ?_ | refine By hG Y Y Y Y Y ?_)
      | refine r_q hG Y Y Y ?_))
    | (show AL _ _ _ _ _ _ _ _; first | refine Bj Y Y Y ?_ | (refine As ?_; first | show AW _ _ _ _ _ _ | show ∃ x', _ < _ ∧ _)) | (show AW _ _ (.seq _ _) _ _ _; refine Ah ?_; intro Q1) | (show AW _ _ (.region _ _ false) _ _ _; refine Ad ?_; intro O1) | (show AW _ _ (.cond _ _ _) _ _ _; first | refine Aj Y ?_ | refine Ai Y ?_) | (show AW _ _ (.skip) _ _ _; refine Ak ?_; first | show AW _ _ _ _ _ _ | show ∃ x', _ < _ ∧ _) | (show AW _ _ (.block _ _) _ _ _; refine A7 ?_; intro Q1) | (show AW _ _ (.exit _) _ _ _; refine Bi ?_; first | show AW _ _ _ _ _ _ | show ∃ x', _ < _ ∧ _) | (show AW _ _ (.ret) _ _ _; refine Ar ?_; try dsimp only [Aw, Aa, Au, Ac]) | fail)
    exact ret_owns 0 (Ao rfl A8) rfl (by rw [putR, List.take_length]) rfl
structure RtkX (b : List UInt8) (n : Nat) where
  i : Nat
  hi : i ≤ n
  acc : List (List UInt8)
  hacc : acc.length = i
  hb : ∀ s ∈ acc, s.length ≤ 65535
  p : Nat
  hp : p ≤ b.length
  hr : takeLs b (n - i) acc p = takeLs b n [] 1
  k : Nat
theorem r_Take {x : T} {b : List UInt8} (hx : bytesT x = some b) (hl : b.length ≤ 4294967296) : Ts.Pure Try.prog 61 [x] (trT (takeR b)) := by
  refine Pure.weak (us := [sT b]) ?_ (wk1 (bytesT_wk hx))
  intro off
  refine Bp (N := 44) (rs := [.tmp 2, .tmp 3, .tmp 4]) hG Try.func61 rfl rfl rfl rfl rfl ?_
  have hT1 := takeE1 b
  by_cases h1 : b.length < 1
  · rw [if_pos h1] at hT1
    have hr : takeR b = ([], 0, 3) := by rw [takeR, if_pos h1]
    have hc := num_Take_is (Af b) hT1
    rw [hr]
    repeat' (first
    | ((show AL _ _ _ _ _ _ _ _; refine Ae Y ?_); (first
      | (show AOp _ _ ⟨_, .move _, _, _, _, _⟩ _ _ _; refine Al hG Y Y ?_)
      | (show AOp _ _ ⟨_, .assign _, _, _, _, _⟩ _ _ _; refine A9 hG Y Y ?_)
      | (show AOp _ _ ⟨_, .binOp .add _ _ _ _, _, _, _, _⟩ _ _ _; first | refine Am hG Y Y Y Y Y (by omega) ?_ | refine r_aru64 hG Y Y Y Y Y (by omega) ?_)
      | (show AOp _ _ ⟨_, .binOp _ _ _ _ _, _, _, _, _⟩ _ _ _; first | refine Ap hG Y Y Y Y Y (by omega) ?_ | refine Aq hG Y Y Y Y Y (by omega) ?_ | (refine Av hG Y Y Y Y Y (fun h => ?_) (fun h => ?_)))
      | (show AOp _ _ ⟨_, .slice _ _ _ _ _, _, _, _, _⟩ _ _ _; first | refine Bk hG Y Y Y Y Y Y Y (by omega) ?_ | refine Bu hG Y Y Y Y Y Y Y (by omega) ?_ | refine r_sl hG Y Y ?_)
      | (show AOp _ _ ⟨_, .unOp _ _ _, _, _, _, _⟩ _ _ _; refine B2 hG Y Y Y ?_)
      | (show AOp _ _ ⟨_, .buildSlice _ _ _, _, _, _, _⟩ _ _ _; first | refine r_mk (sz := 1) hG Y Y Y Y Y Y Y ?_)
      | (show AOp _ _ ⟨_, .call ⟨.builtin .append, _, _⟩, _, _, _, _⟩ _ _ _; first | refine Bn (sz := 1) (xs := []) hG Y Y Y Y Y Y Y ⟨_, Y⟩ Y Y Y Y Y Y Y (by first | omega | (simp; omega)) (fun k => ?_) | refine Bw 0 hG Y Y Y Y Y Y Y ⟨_, Y⟩ Y Y Y Y Y (by first | omega | (simp only [List.length_append, List.length_cons, List.length_nil]; omega)) (fun k => ?_) | fail)
      | (show AOp _ _ ⟨_, .call ⟨.value _, _, _⟩, _, _, _, _⟩ _ _ _; first | refine Bc Y Y Y Y Y (by apply hc <;> (first | assumption | omega | exact Ab _ _ | exact Af _ | exact Ag _ _ | exact Ay _ | rfl | (simp; omega))) ?_ | fail)
      | refine r_q hG Y Y Y ?_))
    | (show AL _ _ _ _ _ _ _ _; first | refine Bj Y Y Y ?_ | (refine As ?_; first | show AW _ _ _ _ _ _ | show ∃ x', _ < _ ∧ _)) | (show AW _ _ (.seq _ _) _ _ _; refine Ah ?_; intro Q1) | (show AW _ _ (.region _ _ false) _ _ _; refine Ad ?_; intro O1) | (show AW _ _ (.cond _ _ _) _ _ _; first | refine Aj Y ?_ | refine Ai Y ?_) | (show AW _ _ (.skip) _ _ _; refine Ak ?_; first | show AW _ _ _ _ _ _ | show ∃ x', _ < _ ∧ _) | (show AW _ _ (.block _ _) _ _ _; refine A7 ?_; intro Q1) | (show AW _ _ (.exit _) _ _ _; refine Bi ?_; first | show AW _ _ _ _ _ _ | show ∃ x', _ < _ ∧ _) | (show AW _ _ (.ret) _ _ _; refine Ar ?_; try dsimp only [Aw, Aa, Au, Ac]) | fail)
    exact Ba (Ao rfl (Ao rfl (Ao rfl A8))) (Wk.tupL (wk3 (.nil 1) (.refl _) (.refl _))) rfl
  rw [if_neg h1] at hT1
  have hv := beV1 b (by omega)
  have hc := num_Take_is (Af b) hT1
  have hr : takeR b = if (takeLs b (beV (b.take 1)) [] 1).2.2 = 0 then (if mayL (takeLs b (beV (b.take 1)) [] 1).1 then takeLs b (beV (b.take 1)) [] 1 else ([], 0, 2)) else ([], 0, 3) := by rw [takeR, if_neg h1]
  rw [hr]
  generalize hn : beV (b.take 1) = n at *
  generalize hR : takeLs b n [] 1 = R at *
  repeat' (first
    | ((show AL _ _ _ _ _ _ _ _; refine Ae Y ?_); (first
      | (show AOp _ _ ⟨_, .move _, _, _, _, _⟩ _ _ _; refine Al hG Y Y ?_)
      | (show AOp _ _ ⟨_, .assign _, _, _, _, _⟩ _ _ _; refine A9 hG Y Y ?_)
      | (show AOp _ _ ⟨_, .binOp .add _ _ _ _, _, _, _, _⟩ _ _ _; first | refine Am hG Y Y Y Y Y (by omega) ?_ | refine r_aru64 hG Y Y Y Y Y (by omega) ?_)
      | (show AOp _ _ ⟨_, .binOp _ _ _ _ _, _, _, _, _⟩ _ _ _; first | refine Ap hG Y Y Y Y Y (by omega) ?_ | refine Aq hG Y Y Y Y Y (by omega) ?_ | (refine Av hG Y Y Y Y Y (fun h => ?_) (fun h => ?_)))
      | (show AOp _ _ ⟨_, .slice _ _ _ _ _, _, _, _, _⟩ _ _ _; first | refine Bk hG Y Y Y Y Y Y Y (by omega) ?_ | refine Bu hG Y Y Y Y Y Y Y (by omega) ?_ | refine r_sl hG Y Y ?_)
      | (show AOp _ _ ⟨_, .unOp _ _ _, _, _, _, _⟩ _ _ _; refine B2 hG Y Y Y ?_)
      | (show AOp _ _ ⟨_, .buildSlice _ _ _, _, _, _, _⟩ _ _ _; first | refine r_mk (sz := 1) hG Y Y Y Y Y Y Y ?_)
      | (show AOp _ _ ⟨_, .call ⟨.builtin .append, _, _⟩, _, _, _, _⟩ _ _ _; first | refine Bn (sz := 1) (xs := []) hG Y Y Y Y Y Y Y ⟨_, Y⟩ Y Y Y Y Y Y Y (by first | omega | (simp; omega)) (fun k => ?_) | refine Bw 0 hG Y Y Y Y Y Y Y ⟨_, Y⟩ Y Y Y Y Y (by first | omega | (simp only [List.length_append, List.length_cons, List.length_nil]; omega)) (fun k => ?_) | fail)
      | (show AOp _ _ ⟨_, .call ⟨.value _, _, _⟩, _, _, _, _⟩ _ _ _; first | refine Bc Y Y Y Y Y (by apply hc <;> (first | assumption | omega | exact Ab _ _ | exact Af _ | exact Ag _ _ | exact Ay _ | rfl | (simp; omega))) ?_ | fail)
      | refine r_q hG Y Y Y ?_))
    | (show AL _ _ _ _ _ _ _ _; first | refine Bj Y Y Y ?_ | (refine As ?_; first | show AW _ _ _ _ _ _ | show ∃ x', _ < _ ∧ _)) | (show AW _ _ (.seq _ _) _ _ _; refine Ah ?_; intro Q1) | (show AW _ _ (.region _ _ false) _ _ _; refine Ad ?_; intro O1) | (show AW _ _ (.cond _ _ _) _ _ _; first | refine Aj Y ?_ | refine Ai Y ?_) | (show AW _ _ (.skip) _ _ _; refine Ak ?_; first | show AW _ _ _ _ _ _ | show ∃ x', _ < _ ∧ _) | (show AW _ _ (.block _ _) _ _ _; refine A7 ?_; intro Q1) | (show AW _ _ (.exit _) _ _ _; refine Bi ?_; first | show AW _ _ _ _ _ _ | show ∃ x', _ < _ ∧ _) | (show AW _ _ (.ret) _ _ _; refine Ar ?_; try dsimp only [Aw, Aa, Au, Ac]) | fail)
  refine aw_tok0 2 1 rfl rfl rfl rfl (fun k => ?_)
  refine aw_loop (X := RtkX b n) (fun x => [(0, sT b), (3, .int .i64 x.p), (17, .int .u64 n), (18, .int .u64 x.i), (2, .sl 1 (.tok x.k) (x.acc.map sT))]) (fun x => ⟨[], [x.k], off, none⟩) (fun x => n - x.i) ⟨0, Nat.zero_le _, [], rfl, fun s h => absurd h List.not_mem_nil, 1, by omega, rfl, k⟩ ?_ (.refl _) ?_
  · exact .cons rfl (.consW rfl (.int rfl) (.cons rfl (.consW rfl (.int rfl) (.consW rfl (.eq (by simp)) (.nil _)))))
  rintro ⟨i, hi, acc, hacc, hab, p, hp, hrr, k⟩
  dsimp only
  rw [hR] at hrr
  by_cases hib : i < n
  · obtain ⟨m, hm⟩ : ∃ m, n - i = m + 1 := ⟨n - i - 1, by omega⟩
    rw [hm, takeLs] at hrr
    have hd : (b.drop p).length = b.length - p := List.length_drop
    have hc3 := num_TakeBytes (x := sT (b.drop p)) (Af _) (by omega)
    rcases takeBE_e (b.drop p) with ⟨e1, e2, e3, e4⟩ | e
    · rw [if_pos e1] at hrr
      generalize Cd (b.drop p) = r at *
      obtain ⟨s, q, e⟩ := r
      dsimp only at *
      subst e1
      dsimp only [tbT] at hc3
      repeat' (first
    | ((show AL _ _ _ _ _ _ _ _; refine Ae Y ?_); (first
      | (show AOp _ _ ⟨_, .move _, _, _, _, _⟩ _ _ _; refine Al hG Y Y ?_)
      | (show AOp _ _ ⟨_, .assign _, _, _, _, _⟩ _ _ _; refine A9 hG Y Y ?_)
      | (show AOp _ _ ⟨_, .binOp .add _ _ _ _, _, _, _, _⟩ _ _ _; first | refine Am hG Y Y Y Y Y (by omega) ?_ | refine r_aru64 hG Y Y Y Y Y (by omega) ?_)
      | (show AOp _ _ ⟨_, .binOp _ _ _ _ _, _, _, _, _⟩ _ _ _; first | refine Ap hG Y Y Y Y Y (by omega) ?_ | refine Aq hG Y Y Y Y Y (by omega) ?_ | (refine Av hG Y Y Y Y Y (fun h => ?_) (fun h => ?_)))
      | (show AOp _ _ ⟨_, .slice _ _ _ _ _, _, _, _, _⟩ _ _ _; first | refine Bk hG Y Y Y Y Y Y Y (by omega) ?_ | refine Bu hG Y Y Y Y Y Y Y (by omega) ?_ | refine r_sl hG Y Y ?_)
      | (show AOp _ _ ⟨_, .unOp _ _ _, _, _, _, _⟩ _ _ _; refine B2 hG Y Y Y ?_)
      | (show AOp _ _ ⟨_, .buildSlice _ _ _, _, _, _, _⟩ _ _ _; first | refine r_mk (sz := 1) hG Y Y Y Y Y Y Y ?_)
      | (show AOp _ _ ⟨_, .call ⟨.builtin .append, _, _⟩, _, _, _, _⟩ _ _ _; first | refine Bw 0 (ys := [s]) hG Y Y Y Y Y Y Y ⟨_, Y⟩ Y Y Y Y Y (by simp only [List.length_append, List.length_map, List.length_cons, List.length_nil]; omega) (fun k => ?_) | refine Bn (sz := 1) (xs := []) hG Y Y Y Y Y Y Y ⟨_, Y⟩ Y Y Y Y Y Y Y (by first | omega | (simp; omega)) (fun k => ?_) | refine Bw 0 hG Y Y Y Y Y Y Y ⟨_, Y⟩ Y Y Y Y Y (by first | omega | (simp only [List.length_append, List.length_cons, List.length_nil]; omega)) (fun k => ?_) | fail)
      | (show AOp _ _ ⟨_, .call ⟨.value _, _, _⟩, _, _, _, _⟩ _ _ _; first | refine Bc Y Y Y Y Y (by apply hc3 <;> (first | assumption | omega | exact Ab _ _ | exact Af _ | exact Ag _ _ | exact Ay _ | rfl | (simp; omega))) ?_ | fail)
      | refine r_q hG Y Y Y ?_))
    | (show AL _ _ _ _ _ _ _ _; first | refine Bj Y Y Y ?_ | (refine As ?_; first | show AW _ _ _ _ _ _ | show ∃ x', _ < _ ∧ _)) | (show AW _ _ (.seq _ _) _ _ _; refine Ah ?_; intro Q1) | (show AW _ _ (.region _ _ false) _ _ _; refine Ad ?_; intro O1) | (show AW _ _ (.cond _ _ _) _ _ _; first | refine Aj Y ?_ | refine Ai Y ?_) | (show AW _ _ (.skip) _ _ _; refine Ak ?_; first | show AW _ _ _ _ _ _ | show ∃ x', _ < _ ∧ _) | (show AW _ _ (.block _ _) _ _ _; refine A7 ?_; intro Q1) | (show AW _ _ (.exit _) _ _ _; refine Bi ?_; first | show AW _ _ _ _ _ _ | show ∃ x', _ < _ ∧ _) | (show AW _ _ (.ret) _ _ _; refine Ar ?_; try dsimp only [Aw, Aa, Au, Ac]) | fail)
      refine ⟨⟨i + 1, by omega, acc ++ [s], by simp [hacc], fun t ht => ?_, p + q, by omega, by rw [hR, ← hrr]; congr 1; omega, _⟩, by dsimp only; omega, ?_, drop_tok⟩
      · rcases List.mem_append.1 ht with h | h
        · exact hab t h
        · rw [List.mem_singleton.1 h]; exact e4
      · exact .cons rfl (.consW rfl (.int (by simp)) (.cons rfl (.consW rfl (.int (by simp)) (.cons rfl (.nil _)))))
    · rw [e, if_neg (by decide)] at hrr
      rw [e] at hc3
      dsimp only [tbT] at hc3
      subst hrr
      repeat' (first
    | ((show AL _ _ _ _ _ _ _ _; refine Ae Y ?_); (first
      | (show AOp _ _ ⟨_, .move _, _, _, _, _⟩ _ _ _; refine Al hG Y Y ?_)
      | (show AOp _ _ ⟨_, .assign _, _, _, _, _⟩ _ _ _; refine A9 hG Y Y ?_)
      | (show AOp _ _ ⟨_, .binOp .add _ _ _ _, _, _, _, _⟩ _ _ _; first | refine Am hG Y Y Y Y Y (by omega) ?_ | refine r_aru64 hG Y Y Y Y Y (by omega) ?_)
      | (show AOp _ _ ⟨_, .binOp _ _ _ _ _, _, _, _, _⟩ _ _ _; first | refine Ap hG Y Y Y Y Y (by omega) ?_ | refine Aq hG Y Y Y Y Y (by omega) ?_ | (refine Av hG Y Y Y Y Y (fun h => ?_) (fun h => ?_)))
      | (show AOp _ _ ⟨_, .slice _ _ _ _ _, _, _, _, _⟩ _ _ _; first | refine Bk hG Y Y Y Y Y Y Y (by omega) ?_ | refine Bu hG Y Y Y Y Y Y Y (by omega) ?_ | refine r_sl hG Y Y ?_)
      | (show AOp _ _ ⟨_, .unOp _ _ _, _, _, _, _⟩ _ _ _; refine B2 hG Y Y Y ?_)
      | (show AOp _ _ ⟨_, .buildSlice _ _ _, _, _, _, _⟩ _ _ _; first | refine r_mk (sz := 1) hG Y Y Y Y Y Y Y ?_)
      | (show AOp _ _ ⟨_, .call ⟨.builtin .append, _, _⟩, _, _, _, _⟩ _ _ _; first | refine Bn (sz := 1) (xs := []) hG Y Y Y Y Y Y Y ⟨_, Y⟩ Y Y Y Y Y Y Y (by first | omega | (simp; omega)) (fun k => ?_) | refine Bw 0 hG Y Y Y Y Y Y Y ⟨_, Y⟩ Y Y Y Y Y (by first | omega | (simp only [List.length_append, List.length_cons, List.length_nil]; omega)) (fun k => ?_) | fail)
      | (show AOp _ _ ⟨_, .call ⟨.value _, _, _⟩, _, _, _, _⟩ _ _ _; first | refine Bc Y Y Y Y Y (by apply hc3 <;> (first | assumption | omega | exact Ab _ _ | exact Af _ | exact Ag _ _ | exact Ay _ | rfl | (simp; omega))) ?_ | fail)
      | refine r_q hG Y Y Y ?_))
    | (show AL _ _ _ _ _ _ _ _; first | refine Bj Y Y Y ?_ | (refine As ?_; first | show AW _ _ _ _ _ _ | show ∃ x', _ < _ ∧ _)) | (show AW _ _ (.seq _ _) _ _ _; refine Ah ?_; intro Q1) | (show AW _ _ (.region _ _ false) _ _ _; refine Ad ?_; intro O1) | (show AW _ _ (.cond _ _ _) _ _ _; first | refine Aj Y ?_ | refine Ai Y ?_) | (show AW _ _ (.skip) _ _ _; refine Ak ?_; first | show AW _ _ _ _ _ _ | show ∃ x', _ < _ ∧ _) | (show AW _ _ (.block _ _) _ _ _; refine A7 ?_; intro Q1) | (show AW _ _ (.exit _) _ _ _; refine Bi ?_; first | show AW _ _ _ _ _ _ | show ∃ x', _ < _ ∧ _) | (show AW _ _ (.ret) _ _ _; refine Ar ?_; try dsimp only [Aw, Aa, Au, Ac]) | fail)
      exact Ba (Ao rfl (Ao rfl (Ao rfl A8))) (Wk.tupL (wk3 (.nil 1) (.refl _) (.refl _))) rfl
  · obtain rfl : i = n := by omega
    rw [Nat.sub_self, takeLs] at hrr
    subst hrr
    have hm := r_May (x := .sl 1 (.tok k) (acc.map sT)) (lettersT_map _ _) (by unfold Ca; omega) (fun s hs => by have := hab s hs; unfold Ca; omega)
    cases hma : mayL acc <;> rw [hma] at hm
    · repeat' (first
    | ((show AL _ _ _ _ _ _ _ _; refine Ae Y ?_); (first
      | (show AOp _ _ ⟨_, .move _, _, _, _, _⟩ _ _ _; refine Al hG Y Y ?_)
      | (show AOp _ _ ⟨_, .assign _, _, _, _, _⟩ _ _ _; refine A9 hG Y Y ?_)
      | (show AOp _ _ ⟨_, .binOp .add _ _ _ _, _, _, _, _⟩ _ _ _; first | refine Am hG Y Y Y Y Y (by omega) ?_ | refine r_aru64 hG Y Y Y Y Y (by omega) ?_)
      | (show AOp _ _ ⟨_, .binOp _ _ _ _ _, _, _, _, _⟩ _ _ _; first | refine Ap hG Y Y Y Y Y (by omega) ?_ | refine Aq hG Y Y Y Y Y (by omega) ?_ | (refine Av hG Y Y Y Y Y (fun h => ?_) (fun h => ?_)))
      | (show AOp _ _ ⟨_, .slice _ _ _ _ _, _, _, _, _⟩ _ _ _; first | refine Bk hG Y Y Y Y Y Y Y (by omega) ?_ | refine Bu hG Y Y Y Y Y Y Y (by omega) ?_ | refine r_sl hG Y Y ?_)
      | (show AOp _ _ ⟨_, .unOp _ _ _, _, _, _, _⟩ _ _ _; refine B2 hG Y Y Y ?_)
      | (show AOp _ _ ⟨_, .buildSlice _ _ _, _, _, _, _⟩ _ _ _; first | refine r_mk (sz := 1) hG Y Y Y Y Y Y Y ?_)
      | (show AOp _ _ ⟨_, .call ⟨.builtin .append, _, _⟩, _, _, _, _⟩ _ _ _; first | refine Bn (sz := 1) (xs := []) hG Y Y Y Y Y Y Y ⟨_, Y⟩ Y Y Y Y Y Y Y (by first | omega | (simp; omega)) (fun k => ?_) | refine Bw 0 hG Y Y Y Y Y Y Y ⟨_, Y⟩ Y Y Y Y Y (by first | omega | (simp only [List.length_append, List.length_cons, List.length_nil]; omega)) (fun k => ?_) | fail)
      | (show AOp _ _ ⟨_, .call ⟨.value _, _, _⟩, _, _, _, _⟩ _ _ _; first | refine Bc Y Y Y Y Y (by apply hm <;> (first | assumption | omega | exact Ab _ _ | exact Af _ | exact Ag _ _ | exact Ay _ | rfl | (simp; omega))) ?_ | fail)
      | refine r_q hG Y Y Y ?_))
    | (show AL _ _ _ _ _ _ _ _; first | refine Bj Y Y Y ?_ | (refine As ?_; first | show AW _ _ _ _ _ _ | show ∃ x', _ < _ ∧ _)) | (show AW _ _ (.seq _ _) _ _ _; refine Ah ?_; intro Q1) | (show AW _ _ (.region _ _ false) _ _ _; refine Ad ?_; intro O1) | (show AW _ _ (.cond _ _ _) _ _ _; first | refine Aj Y ?_ | refine Ai Y ?_) | (show AW _ _ (.skip) _ _ _; refine Ak ?_; first | show AW _ _ _ _ _ _ | show ∃ x', _ < _ ∧ _) | (show AW _ _ (.block _ _) _ _ _; refine A7 ?_; intro Q1) | (show AW _ _ (.exit _) _ _ _; refine Bi ?_; first | show AW _ _ _ _ _ _ | show ∃ x', _ < _ ∧ _) | (show AW _ _ (.ret) _ _ _; refine Ar ?_; try dsimp only [Aw, Aa, Au, Ac]) | fail)
      refine Ba (Ao rfl (Ao rfl (Ao rfl A8))) ?_ rfl
      simp only [hma, trT]
      exact Wk.tupL (wk3 (.nil 1) (.refl _) (.refl _))
    · repeat' (first
    | ((show AL _ _ _ _ _ _ _ _; refine Ae Y ?_); (first
      | (show AOp _ _ ⟨_, .move _, _, _, _, _⟩ _ _ _; refine Al hG Y Y ?_)
      | (show AOp _ _ ⟨_, .assign _, _, _, _, _⟩ _ _ _; refine A9 hG Y Y ?_)
      | (show AOp _ _ ⟨_, .binOp .add _ _ _ _, _, _, _, _⟩ _ _ _; first | refine Am hG Y Y Y Y Y (by omega) ?_ | refine r_aru64 hG Y Y Y Y Y (by omega) ?_)
      | (show AOp _ _ ⟨_, .binOp _ _ _ _ _, _, _, _, _⟩ _ _ _; first | refine Ap hG Y Y Y Y Y (by omega) ?_ | refine Aq hG Y Y Y Y Y (by omega) ?_ | (refine Av hG Y Y Y Y Y (fun h => ?_) (fun h => ?_)))
      | (show AOp _ _ ⟨_, .slice _ _ _ _ _, _, _, _, _⟩ _ _ _; first | refine Bk hG Y Y Y Y Y Y Y (by omega) ?_ | refine Bu hG Y Y Y Y Y Y Y (by omega) ?_ | refine r_sl hG Y Y ?_)
      | (show AOp _ _ ⟨_, .unOp _ _ _, _, _, _, _⟩ _ _ _; refine B2 hG Y Y Y ?_)
      | (show AOp _ _ ⟨_, .buildSlice _ _ _, _, _, _, _⟩ _ _ _; first | refine r_mk (sz := 1) hG Y Y Y Y Y Y Y ?_)
      | (show AOp _ _ ⟨_, .call ⟨.builtin .append, _, _⟩, _, _, _, _⟩ _ _ _; first | refine Bn (sz := 1) (xs := []) hG Y Y Y Y Y Y Y ⟨_, Y⟩ Y Y Y Y Y Y Y (by first | omega | (simp; omega)) (fun k => ?_) | refine Bw 0 hG Y Y Y Y Y Y Y ⟨_, Y⟩ Y Y Y Y Y (by first | omega | (simp only [List.length_append, List.length_cons, List.length_nil]; omega)) (fun k => ?_) | fail)
      | (show AOp _ _ ⟨_, .call ⟨.value _, _, _⟩, _, _, _, _⟩ _ _ _; first | refine Bc Y Y Y Y Y (by apply hm <;> (first | assumption | omega | exact Ab _ _ | exact Af _ | exact Ag _ _ | exact Ay _ | rfl | (simp; omega))) ?_ | fail)
      | refine r_q hG Y Y Y ?_))
    | (show AL _ _ _ _ _ _ _ _; first | refine Bj Y Y Y ?_ | (refine As ?_; first | show AW _ _ _ _ _ _ | show ∃ x', _ < _ ∧ _)) | (show AW _ _ (.seq _ _) _ _ _; refine Ah ?_; intro Q1) | (show AW _ _ (.region _ _ false) _ _ _; refine Ad ?_; intro O1) | (show AW _ _ (.cond _ _ _) _ _ _; first | refine Aj Y ?_ | refine Ai Y ?_) | (show AW _ _ (.skip) _ _ _; refine Ak ?_; first | show AW _ _ _ _ _ _ | show ∃ x', _ < _ ∧ _) | (show AW _ _ (.block _ _) _ _ _; refine A7 ?_; intro Q1) | (show AW _ _ (.exit _) _ _ _; refine Bi ?_; first | show AW _ _ _ _ _ _ | show ∃ x', _ < _ ∧ _) | (show AW _ _ (.ret) _ _ _; refine Ar ?_; try dsimp only [Aw, Aa, Au, Ac]) | fail)
      refine Ba (Ao rfl (Ao rfl (Ao rfl A8))) ?_ rfl
      simp only [hma, trT]
      exact Wk.tupL (wk3 (Wk.own _ _ _) (.refl _) (.refl _))
attribute [local irreducible] putR takeR mayL placeN
theorem r_Take_is {x : T} {b : List UInt8} {r : List (List UInt8) × Nat × Int} (hx : bytesT x = some b) (hl : b.length ≤ 4294967296) (h : takeR b = r) : Ts.Pure Try.prog 61 [x] (.tup [lT r.1, .int .i64 r.2.1, .int .i64 r.2.2]) := by
  subst h; exact r_Take hx hl
end Go.Proofs.Ytemgmkoggnjgjaa
