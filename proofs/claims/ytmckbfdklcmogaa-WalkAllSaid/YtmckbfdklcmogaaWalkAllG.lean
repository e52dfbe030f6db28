/- Part of the proof of the law WalkAll: the texts WK, WL, WM. No conditions. -/
import Derived.Test.YtmckbfdklcmogaaWalkAllF
set_option linter.unusedSimpArgs false
set_option linter.unusedVariables false
namespace Go.Proofs.Ytmckbfdklcmogaa
open Go.Ts
set_option linter.unusedSimpArgs false
set_option linter.unusedVariables false
set_option linter.unnecessarySimpa false
attribute [local irreducible] Go.Ts.AW Go.Ts.AOps Go.Ts.AL Go.Ts.AOp Go.Ts.ACalls Go.Ts.DL Go.Ts.DQ0 Go.Ts.EL
theorem pathL_len (id : Nat) : (B8 id).length ≤ 7 := by
  unfold B8
  cases e : nm 6 id with
  | none => simp
  | some l =>
    have := (nm_path 6 id l e).2.1
    simp [pathF_len]; omega
theorem ref_May {id : Nat} (h : id < 18446744073709551616) {b : Bool} (hb : decide (0 < (B8 id).length) = b) : Ts.Pure Try.prog 20 [mT id] (.bool b) := by
  have h1 := ref_Path h
  generalize B8 id = p at *
  intro off
  by_cases h0 : 0 < p.length
  · rw [decide_eq_true h0] at hb; subst hb
    refine Br (N := 7) (rs := [.tmp 2]) hG Try.func20 rfl rfl rfl rfl rfl ?_
    repeat' (first
    | ((show AL _ _ _ _ _ _ _ _; refine Ag Y ?_); (first
      | refine Aq hG Y Y ?_
      | refine A5 hG Y Y ?_
      | (show AOp _ _ ⟨_, .call ⟨.builtin .len, _, _⟩, _, _, _, _⟩ _ _ _; first | refine Bh hG Y Y Y Y ?_ | refine Bq hG Y Y Y Y Y ?_)
      | (show AOp _ _ ⟨_, .binOp _ _ _ _ _, _, _, _, _⟩ _ _ _; first | refine At hG Y Y Y Y Y (by omega) ?_ | refine Au hG Y Y Y Y Y (by omega) ?_ | (refine Am hG Y Y Y Y Y (fun h => ?_) (fun h => ?_)))
      | (show AOp _ _ ⟨_, .call ⟨.value _, _, _⟩, _, _, _, _⟩ _ _ _; first | refine Bn Y Y Y Y Y (by first | (apply h1 <;> (first | assumption | omega | exact A4 _ _ | exact Bd _ | exact A7 _ _ | exact Bi _ | rfl | (simp; omega))) | fail) ?_ | fail)
      | refine r_q hG Y Y Y ?_))
    | (show AL _ _ _ _ _ _ _ _; first | refine Bk Y Y Y ?_ | (refine Ar ?_; first | show AW _ _ _ _ _ _ | show ∃ x', _ < _ ∧ _)) | (show AW _ _ (.seq _ _) _ _ _; refine Ai ?_; intro Q1) | (show AW _ _ (.region _ _ false) _ _ _; refine Ad ?_; intro O1) | (show AW _ _ (.ret) _ _ _; refine Aw ?_; try dsimp only [Ax, Aa, A2, Af]) | fail)
    exact Bu (Bm rfl Bl) (.refl _) rfl
  · rw [decide_eq_false h0] at hb; subst hb
    refine Br (N := 7) (rs := [.tmp 2]) hG Try.func20 rfl rfl rfl rfl rfl ?_
    repeat' (first
    | ((show AL _ _ _ _ _ _ _ _; refine Ag Y ?_); (first
      | refine Aq hG Y Y ?_
      | refine A5 hG Y Y ?_
      | (show AOp _ _ ⟨_, .call ⟨.builtin .len, _, _⟩, _, _, _, _⟩ _ _ _; first | refine Bh hG Y Y Y Y ?_ | refine Bq hG Y Y Y Y Y ?_)
      | (show AOp _ _ ⟨_, .binOp _ _ _ _ _, _, _, _, _⟩ _ _ _; first | refine At hG Y Y Y Y Y (by omega) ?_ | refine Au hG Y Y Y Y Y (by omega) ?_ | (refine Am hG Y Y Y Y Y (fun h => ?_) (fun h => ?_)))
      | (show AOp _ _ ⟨_, .call ⟨.value _, _, _⟩, _, _, _, _⟩ _ _ _; first | refine Bn Y Y Y Y Y (by first | (apply h1 <;> (first | assumption | omega | exact A4 _ _ | exact Bd _ | exact A7 _ _ | exact Bi _ | rfl | (simp; omega))) | fail) ?_ | fail)
      | refine r_q hG Y Y Y ?_))
    | (show AL _ _ _ _ _ _ _ _; first | refine Bk Y Y Y ?_ | (refine Ar ?_; first | show AW _ _ _ _ _ _ | show ∃ x', _ < _ ∧ _)) | (show AW _ _ (.seq _ _) _ _ _; refine Ai ?_; intro Q1) | (show AW _ _ (.region _ _ false) _ _ _; refine Ad ?_; intro O1) | (show AW _ _ (.ret) _ _ _; refine Aw ?_; try dsimp only [Ax, Aa, A2, Af]) | fail)
    exact Bu (Bm rfl Bl) (.refl _) rfl
theorem ref_Depth {id : Nat} (h : id < 18446744073709551616) (h0 : 0 < (B8 id).length) : Ts.Pure Try.prog 21 [mT id] (.int .i64 (((B8 id).length - 1 : Nat) : Int)) := by
  have h1 := ref_Path h
  have h2 := pathL_len id
  generalize B8 id = p at *
  intro off
  refine Br (N := 8) (rs := [.tmp 2]) hG Try.func21 rfl rfl rfl rfl rfl ?_
  repeat' (first
    | ((show AL _ _ _ _ _ _ _ _; refine Ag Y ?_); (first
      | refine Aq hG Y Y ?_
      | refine A5 hG Y Y ?_
      | (show AOp _ _ ⟨_, .call ⟨.builtin .len, _, _⟩, _, _, _, _⟩ _ _ _; first | refine Bh hG Y Y Y Y ?_ | refine Bq hG Y Y Y Y Y ?_)
      | (show AOp _ _ ⟨_, .binOp .sub _ _ _ _, _, _, _, _⟩ _ _ _; first | refine Av hG Y Y Y Y (by omega) ?_ | refine Av (m := 1) hG Y Y Y Y (by omega) ?_ | refine Cg (m := 1) hG Y Y Y Y (by omega) ?_ | refine Ab hG Y Y Y Y Y (by omega) ?_)
      | (show AOp _ _ ⟨_, .binOp _ _ _ _ _, _, _, _, _⟩ _ _ _; first | refine Bw hG Y Y Y ?_)
      | (show AOp _ _ ⟨_, .call ⟨.value _, _, _⟩, _, _, _, _⟩ _ _ _; first | refine Bn Y Y Y Y Y (by first | (apply h1 <;> (first | assumption | omega | exact A4 _ _ | exact Bd _ | exact A7 _ _ | exact Bi _ | rfl | (simp; omega))) | fail) ?_ | fail)
      | refine r_q hG Y Y Y ?_))
    | (show AL _ _ _ _ _ _ _ _; first | refine Bk Y Y Y ?_ | (refine Ar ?_; first | show AW _ _ _ _ _ _ | show ∃ x', _ < _ ∧ _)) | (show AW _ _ (.seq _ _) _ _ _; refine Ai ?_; intro Q1) | (show AW _ _ (.region _ _ false) _ _ _; refine Ad ?_; intro O1) | (show AW _ _ (.ret) _ _ _; refine Aw ?_; try dsimp only [Ax, Aa, A2, Af]) | fail)
  refine Ag rfl (op_max rfl rfl rfl rfl rfl ?_)
  repeat' (first
    | ((show AL _ _ _ _ _ _ _ _; refine Ag Y ?_); (first
      | refine Aq hG Y Y ?_
      | refine A5 hG Y Y ?_
      | (show AOp _ _ ⟨_, .call ⟨.builtin .len, _, _⟩, _, _, _, _⟩ _ _ _; first | refine Bh hG Y Y Y Y ?_ | refine Bq hG Y Y Y Y Y ?_)
      | (show AOp _ _ ⟨_, .binOp .sub _ _ _ _, _, _, _, _⟩ _ _ _; first | refine Av hG Y Y Y Y (by omega) ?_ | refine Av (m := 1) hG Y Y Y Y (by omega) ?_ | refine Cg (m := 1) hG Y Y Y Y (by omega) ?_ | refine Ab hG Y Y Y Y Y (by omega) ?_)
      | (show AOp _ _ ⟨_, .binOp _ _ _ _ _, _, _, _, _⟩ _ _ _; first | refine Bw hG Y Y Y ?_)
      | refine r_q hG Y Y Y ?_))
    | (show AL _ _ _ _ _ _ _ _; first | refine Bk Y Y Y ?_ | (refine Ar ?_; first | show AW _ _ _ _ _ _ | show ∃ x', _ < _ ∧ _)) | (show AW _ _ (.seq _ _) _ _ _; refine Ai ?_; intro Q1) | (show AW _ _ (.region _ _ false) _ _ _; refine Ad ?_; intro O1) | (show AW _ _ (.ret) _ _ _; refine Aw ?_; try dsimp only [Ax, Aa, A2, Af]) | fail)
  exact Bu (Bm rfl Bl) (.int (by omega)) rfl
structure WtX (p : List Nat) (v : Nat) where
  i : Nat
  hi : i ≤ p.length
  hn : v ∉ p.take i
theorem ref_Within {id v : Nat} (h : id < 18446744073709551616) : Ts.Pure Try.prog 25 [mT id, mT v] (.bool (decide (v ∈ B8 id))) := by
  have h1 := ref_Path h
  have h2 := pathL_len id
  generalize B8 id = p at *
  obtain ⟨R, hR⟩ : ∃ R, decide (v ∈ p) = R := ⟨_, rfl⟩
  rw [hR]
  intro off
  refine Br (N := 21) (rs := [.tmp 4]) hG Try.func25 rfl rfl rfl rfl rfl ?_
  repeat' (first
    | ((show AL _ _ _ _ _ _ _ _; refine Ag Y ?_); (first
      | refine Aq hG Y Y ?_
      | refine A5 hG Y Y ?_
      | (show AOp _ _ ⟨_, .call ⟨.builtin .len, _, _⟩, _, _, _, _⟩ _ _ _; first | refine Bh hG Y Y Y Y ?_ | refine Bq hG Y Y Y Y Y ?_)
      | (show AOp _ _ ⟨_, .binOp .add _ _ _ _, _, _, _, _⟩ _ _ _; first | refine Ac hG Y Y Y Y Y (by omega) ?_ | refine Ac (m := 1) hG Y Y Y Y Y (by omega) ?_ | refine Ab hG Y Y Y Y Y (by omega) ?_)
      | (show AOp _ _ ⟨_, .binOp _ _ _ _ _, _, _, _, _⟩ _ _ _; first | refine At hG Y Y Y Y Y (by omega) ?_ | refine Au hG Y Y Y Y Y (by omega) ?_ | (refine Am hG Y Y Y Y Y (fun h => ?_) (fun h => ?_)))
      | (show AOp _ _ ⟨_, .load _ _, _, _, _, _⟩ _ _ _; first | refine Ak (α := UInt16) 0 hG Y Y Y Y (by omega) Y ?_ | refine Ak (α := UInt16) 1 hG Y Y Y Y (by omega) Y ?_ | refine Ay hG Y Y Y ?_ | refine Bg 0 hG Y Y Y Y ?_)
      | (show AOp _ _ ⟨_, .indexAddr _ _ _, _, _, _, _⟩ _ _ _; first | refine A1 hG Y Y Y Y Y Y Y (by omega) ?_ | refine A0 hG Y Y Y Y Y Y Y (by omega) ?_ | refine Az hG Y Y Y Y Y Y Y (by omega) ?_ | refine A9 hG Y Y ?_)
      | (show AOp _ _ ⟨_, .call ⟨.value _, _, _⟩, _, _, _, _⟩ _ _ _; first | refine Bn Y Y Y Y Y (by first | (apply h1 <;> (first | assumption | omega | exact A4 _ _ | exact Bd _ | exact A7 _ _ | exact Bi _ | rfl | (simp; omega))) | fail) ?_ | fail)
      | refine r_q hG Y Y Y ?_))
    | (show AL _ _ _ _ _ _ _ _; first | refine Bk Y Y Y ?_ | (refine Ar ?_; first | show AW _ _ _ _ _ _ | show ∃ x', _ < _ ∧ _)) | (show AW _ _ (.seq _ _) _ _ _; refine Ai ?_; intro Q1) | (show AW _ _ (.region _ _ false) _ _ _; refine Ad ?_; intro O1) | (show AW _ _ (.cond _ _ _) _ _ _; first | refine Ao Y ?_ | refine Ap Y ?_ | refine Ba Y (fun h => ?_) (fun h => ?_)) | (show AW _ _ (.skip) _ _ _; refine Aj ?_; first | show AW _ _ _ _ _ _ | show ∃ x', _ < _ ∧ _) | (show AW _ _ (.block _ _) _ _ _; refine Ae ?_; intro Q1) | (show AW _ _ (.exit _) _ _ _; refine Al ?_; first | show AW _ _ _ _ _ _ | show ∃ x', _ < _ ∧ _) | (show AW _ _ (.ret) _ _ _; refine Aw ?_; try dsimp only [Ax, Aa, A2, Af]) | fail)
  refine Ch (X := WtX p v) (fun x => [(1, mT v), (5, .sl 1 .no (p.map mT)), (6, .int .i64 (x.i : Int))]) (fun x => ⟨[], [], off, none⟩) (fun x => p.length - x.i) ⟨0, Nat.zero_le _, by simp⟩ (by repeat (first | exact .nil _ | refine .cons rfl ?_)) (.refl _) ?_
  rintro ⟨i, hi, hn⟩
  dsimp only
  by_cases hil : i < p.length
  · by_cases he : ((p.getD i default : Nat) : Int) = ((v : Nat) : Int)
    · repeat' (first
    | ((show AL _ _ _ _ _ _ _ _; refine Ag Y ?_); (first
      | refine Aq hG Y Y ?_
      | refine A5 hG Y Y ?_
      | (show AOp _ _ ⟨_, .call ⟨.builtin .len, _, _⟩, _, _, _, _⟩ _ _ _; first | refine Bh hG Y Y Y Y ?_ | refine Bq hG Y Y Y Y Y ?_)
      | (show AOp _ _ ⟨_, .binOp .add _ _ _ _, _, _, _, _⟩ _ _ _; first | refine Ac hG Y Y Y Y Y (by omega) ?_ | refine Ac (m := 1) hG Y Y Y Y Y (by omega) ?_ | refine Ab hG Y Y Y Y Y (by omega) ?_)
      | (show AOp _ _ ⟨_, .binOp _ _ _ _ _, _, _, _, _⟩ _ _ _; first | refine At hG Y Y Y Y Y (by omega) ?_ | refine Au hG Y Y Y Y Y (by omega) ?_ | (refine Am hG Y Y Y Y Y (fun h => ?_) (fun h => ?_)))
      | (show AOp _ _ ⟨_, .load _ _, _, _, _, _⟩ _ _ _; first | refine Ak (α := UInt16) 0 hG Y Y Y Y (by omega) Y ?_ | refine Ak (α := UInt16) 1 hG Y Y Y Y (by omega) Y ?_ | refine Ay hG Y Y Y ?_ | refine Bg 0 hG Y Y Y Y ?_)
      | (show AOp _ _ ⟨_, .indexAddr _ _ _, _, _, _, _⟩ _ _ _; first | refine A1 hG Y Y Y Y Y Y Y (by omega) ?_ | refine A0 hG Y Y Y Y Y Y Y (by omega) ?_ | refine Az hG Y Y Y Y Y Y Y (by omega) ?_ | refine A9 hG Y Y ?_)
      | refine r_q hG Y Y Y ?_))
    | (show AL _ _ _ _ _ _ _ _; first | refine Bk Y Y Y ?_ | (refine Ar ?_; first | show AW _ _ _ _ _ _ | show ∃ x', _ < _ ∧ _)) | (show AW _ _ (.seq _ _) _ _ _; refine Ai ?_; intro Q1) | (show AW _ _ (.region _ _ false) _ _ _; refine Ad ?_; intro O1) | (show AW _ _ (.cond _ _ _) _ _ _; first | refine Ao Y ?_ | refine Ap Y ?_ | refine Ba Y (fun h => ?_) (fun h => ?_)) | (show AW _ _ (.skip) _ _ _; refine Aj ?_; first | show AW _ _ _ _ _ _ | show ∃ x', _ < _ ∧ _) | (show AW _ _ (.block _ _) _ _ _; refine Ae ?_; intro Q1) | (show AW _ _ (.exit _) _ _ _; refine Al ?_; first | show AW _ _ _ _ _ _ | show ∃ x', _ < _ ∧ _) | (show AW _ _ (.ret) _ _ _; refine Aw ?_; try dsimp only [Ax, Aa, A2, Af]) | fail)
      try dsimp (config := { zetaDelta := true }) only [Ax, Aa, A2]
      refine Bu (Bm rfl Bl) (.eq ?_) rfl
      rw [← hR, decide_eq_true]; rfl
      have : p.getD i default = v := by omega
      rw [← this]; simp [List.getD, hil]
    · repeat' (first
    | ((show AL _ _ _ _ _ _ _ _; refine Ag Y ?_); (first
      | refine Aq hG Y Y ?_
      | refine A5 hG Y Y ?_
      | (show AOp _ _ ⟨_, .call ⟨.builtin .len, _, _⟩, _, _, _, _⟩ _ _ _; first | refine Bh hG Y Y Y Y ?_ | refine Bq hG Y Y Y Y Y ?_)
      | (show AOp _ _ ⟨_, .binOp .add _ _ _ _, _, _, _, _⟩ _ _ _; first | refine Ac hG Y Y Y Y Y (by omega) ?_ | refine Ac (m := 1) hG Y Y Y Y Y (by omega) ?_ | refine Ab hG Y Y Y Y Y (by omega) ?_)
      | (show AOp _ _ ⟨_, .binOp _ _ _ _ _, _, _, _, _⟩ _ _ _; first | refine At hG Y Y Y Y Y (by omega) ?_ | refine Au hG Y Y Y Y Y (by omega) ?_ | (refine Am hG Y Y Y Y Y (fun h => ?_) (fun h => ?_)))
      | (show AOp _ _ ⟨_, .load _ _, _, _, _, _⟩ _ _ _; first | refine Ak (α := UInt16) 0 hG Y Y Y Y (by omega) Y ?_ | refine Ak (α := UInt16) 1 hG Y Y Y Y (by omega) Y ?_ | refine Ay hG Y Y Y ?_ | refine Bg 0 hG Y Y Y Y ?_)
      | (show AOp _ _ ⟨_, .indexAddr _ _ _, _, _, _, _⟩ _ _ _; first | refine A1 hG Y Y Y Y Y Y Y (by omega) ?_ | refine A0 hG Y Y Y Y Y Y Y (by omega) ?_ | refine Az hG Y Y Y Y Y Y Y (by omega) ?_ | refine A9 hG Y Y ?_)
      | refine r_q hG Y Y Y ?_))
    | (show AL _ _ _ _ _ _ _ _; first | refine Bk Y Y Y ?_ | (refine Ar ?_; first | show AW _ _ _ _ _ _ | show ∃ x', _ < _ ∧ _)) | (show AW _ _ (.seq _ _) _ _ _; refine Ai ?_; intro Q1) | (show AW _ _ (.region _ _ false) _ _ _; refine Ad ?_; intro O1) | (show AW _ _ (.cond _ _ _) _ _ _; first | refine Ao Y ?_ | refine Ap Y ?_ | refine Ba Y (fun h => ?_) (fun h => ?_)) | (show AW _ _ (.skip) _ _ _; refine Aj ?_; first | show AW _ _ _ _ _ _ | show ∃ x', _ < _ ∧ _) | (show AW _ _ (.block _ _) _ _ _; refine Ae ?_; intro Q1) | (show AW _ _ (.exit _) _ _ _; refine Al ?_; first | show AW _ _ _ _ _ _ | show ∃ x', _ < _ ∧ _) | (show AW _ _ (.ret) _ _ _; refine Aw ?_; try dsimp only [Ax, Aa, A2, Af]) | fail)
      refine ⟨⟨i + 1, by omega, ?_⟩, by dsimp only; omega, (by repeat (first | exact .nil _ | refine .cons rfl ?_)), .refl _⟩
      have h3 := mem_take_succ (r := p) (m := i) (id := v) hil
      rw [decide_eq_false hn, decide_eq_false (show ¬ p.getD i default = v by omega)] at h3
      exact of_decide_eq_false h3
  · repeat' (first
    | ((show AL _ _ _ _ _ _ _ _; refine Ag Y ?_); (first
      | refine Aq hG Y Y ?_
      | refine A5 hG Y Y ?_
      | (show AOp _ _ ⟨_, .call ⟨.builtin .len, _, _⟩, _, _, _, _⟩ _ _ _; first | refine Bh hG Y Y Y Y ?_ | refine Bq hG Y Y Y Y Y ?_)
      | (show AOp _ _ ⟨_, .binOp .add _ _ _ _, _, _, _, _⟩ _ _ _; first | refine Ac hG Y Y Y Y Y (by omega) ?_ | refine Ac (m := 1) hG Y Y Y Y Y (by omega) ?_ | refine Ab hG Y Y Y Y Y (by omega) ?_)
      | (show AOp _ _ ⟨_, .binOp _ _ _ _ _, _, _, _, _⟩ _ _ _; first | refine At hG Y Y Y Y Y (by omega) ?_ | refine Au hG Y Y Y Y Y (by omega) ?_ | (refine Am hG Y Y Y Y Y (fun h => ?_) (fun h => ?_)))
      | (show AOp _ _ ⟨_, .load _ _, _, _, _, _⟩ _ _ _; first | refine Ak (α := UInt16) 0 hG Y Y Y Y (by omega) Y ?_ | refine Ak (α := UInt16) 1 hG Y Y Y Y (by omega) Y ?_ | refine Ay hG Y Y Y ?_ | refine Bg 0 hG Y Y Y Y ?_)
      | (show AOp _ _ ⟨_, .indexAddr _ _ _, _, _, _, _⟩ _ _ _; first | refine A1 hG Y Y Y Y Y Y Y (by omega) ?_ | refine A0 hG Y Y Y Y Y Y Y (by omega) ?_ | refine Az hG Y Y Y Y Y Y Y (by omega) ?_ | refine A9 hG Y Y ?_)
      | refine r_q hG Y Y Y ?_))
    | (show AL _ _ _ _ _ _ _ _; first | refine Bk Y Y Y ?_ | (refine Ar ?_; first | show AW _ _ _ _ _ _ | show ∃ x', _ < _ ∧ _)) | (show AW _ _ (.seq _ _) _ _ _; refine Ai ?_; intro Q1) | (show AW _ _ (.region _ _ false) _ _ _; refine Ad ?_; intro O1) | (show AW _ _ (.cond _ _ _) _ _ _; first | refine Ao Y ?_ | refine Ap Y ?_ | refine Ba Y (fun h => ?_) (fun h => ?_)) | (show AW _ _ (.skip) _ _ _; refine Aj ?_; first | show AW _ _ _ _ _ _ | show ∃ x', _ < _ ∧ _) | (show AW _ _ (.block _ _) _ _ _; refine Ae ?_; intro Q1) | (show AW _ _ (.exit _) _ _ _; refine Al ?_; first | show AW _ _ _ _ _ _ | show ∃ x', _ < _ ∧ _) | (show AW _ _ (.ret) _ _ _; refine Aw ?_; try dsimp only [Ax, Aa, A2, Af]) | fail)
    refine Bu (Bm rfl Bl) (.eq ?_) rfl
    rw [List.take_of_length_le (by omega)] at hn
    rw [← hR, decide_eq_false hn]; rfl
structure FiX (l : List OB) (v : Nat) (R : Int) where
  i : Nat
  hi : i ≤ l.length
  e : ixR v ((l.drop i).map (·.id)) i = R
theorem ref_find {l : List OB} {v : Nat} (hl : l.length ≤ 31) {R : Int} (hR : ixR v (l.map (·.id)) 0 = R) : Ts.Pure Try.prog 23 [.sl 13 .no (l.map oT), mT v] (.int .i64 R) := by
  intro off
  refine Br (N := 20) (rs := [.tmp 4]) hG Try.func23 rfl rfl rfl rfl rfl ?_
  repeat' (first
    | ((show AL _ _ _ _ _ _ _ _; refine Ag Y ?_); (first
      | refine Aq hG Y Y ?_
      | refine A5 hG Y Y ?_
      | (show AOp _ _ ⟨_, .call ⟨.builtin .len, _, _⟩, _, _, _, _⟩ _ _ _; first | refine Bh hG Y Y Y Y ?_ | refine Bq hG Y Y Y Y Y ?_)
      | (show AOp _ _ ⟨_, .binOp .add _ _ _ _, _, _, _, _⟩ _ _ _; first | refine Ac hG Y Y Y Y Y (by omega) ?_ | refine Ac (m := 1) hG Y Y Y Y Y (by omega) ?_ | refine Ab hG Y Y Y Y Y (by omega) ?_)
      | (show AOp _ _ ⟨_, .binOp _ _ _ _ _, _, _, _, _⟩ _ _ _; first | refine At hG Y Y Y Y Y (by omega) ?_ | refine Au hG Y Y Y Y Y (by omega) ?_ | (refine Am hG Y Y Y Y Y (fun h => ?_) (fun h => ?_)))
      | (show AOp _ _ ⟨_, .load _ _, _, _, _, _⟩ _ _ _; first | refine Ak (α := UInt16) 0 hG Y Y Y Y (by omega) Y ?_ | refine Ak (α := UInt16) 1 hG Y Y Y Y (by omega) Y ?_ | refine Ay hG Y Y Y ?_ | refine Bg 0 hG Y Y Y Y ?_)
      | (show AOp _ _ ⟨_, .indexAddr _ _ _, _, _, _, _⟩ _ _ _; first | refine A1 hG Y Y Y Y Y Y Y (by omega) ?_ | refine A0 hG Y Y Y Y Y Y Y (by omega) ?_ | refine Az hG Y Y Y Y Y Y Y (by omega) ?_ | refine A9 hG Y Y ?_)
      | refine r_q hG Y Y Y ?_))
    | (show AL _ _ _ _ _ _ _ _; first | refine Bk Y Y Y ?_ | (refine Ar ?_; first | show AW _ _ _ _ _ _ | show ∃ x', _ < _ ∧ _)) | (show AW _ _ (.seq _ _) _ _ _; refine Ai ?_; intro Q1) | (show AW _ _ (.region _ _ false) _ _ _; refine Ad ?_; intro O1) | (show AW _ _ (.cond _ _ _) _ _ _; first | refine Ao Y ?_ | refine Ap Y ?_ | refine Ba Y (fun h => ?_) (fun h => ?_)) | (show AW _ _ (.skip) _ _ _; refine Aj ?_; first | show AW _ _ _ _ _ _ | show ∃ x', _ < _ ∧ _) | (show AW _ _ (.block _ _) _ _ _; refine Ae ?_; intro Q1) | (show AW _ _ (.exit _) _ _ _; refine Al ?_; first | show AW _ _ _ _ _ _ | show ∃ x', _ < _ ∧ _) | (show AW _ _ (.ret) _ _ _; refine Aw ?_; try dsimp only [Ax, Aa, A2, Af]) | fail)
  refine Ch (X := FiX l v R) (fun x => [(0, .sl 13 .no (l.map oT)), (1, mT v), (5, .int .i64 (x.i : Int))]) (fun x => ⟨[], [], off, none⟩) (fun x => l.length - x.i) ⟨0, Nat.zero_le _, hR⟩ (by repeat (first | exact .nil _ | refine .cons rfl ?_)) (.refl _) ?_
  rintro ⟨i, hi, e⟩
  dsimp only
  by_cases hil : i < l.length
  · have hg : l.getD i default = l[i] := by simp [List.getD, hil]
    rw [List.drop_eq_getElem_cons hil, List.map_cons, ixR, ← hg] at e
    by_cases he : (((l.getD i default).id : Nat) : Int) = ((v : Nat) : Int)
    · rw [if_pos (by omega)] at e
      repeat' (first
    | ((show AL _ _ _ _ _ _ _ _; refine Ag Y ?_); (first
      | refine Aq hG Y Y ?_
      | refine A5 hG Y Y ?_
      | (show AOp _ _ ⟨_, .call ⟨.builtin .len, _, _⟩, _, _, _, _⟩ _ _ _; first | refine Bh hG Y Y Y Y ?_ | refine Bq hG Y Y Y Y Y ?_)
      | (show AOp _ _ ⟨_, .binOp .add _ _ _ _, _, _, _, _⟩ _ _ _; first | refine Ac hG Y Y Y Y Y (by omega) ?_ | refine Ac (m := 1) hG Y Y Y Y Y (by omega) ?_ | refine Ab hG Y Y Y Y Y (by omega) ?_)
      | (show AOp _ _ ⟨_, .binOp _ _ _ _ _, _, _, _, _⟩ _ _ _; first | refine At hG Y Y Y Y Y (by omega) ?_ | refine Au hG Y Y Y Y Y (by omega) ?_ | (refine Am hG Y Y Y Y Y (fun h => ?_) (fun h => ?_)))
      | (show AOp _ _ ⟨_, .load _ _, _, _, _, _⟩ _ _ _; first | refine Ak (α := UInt16) 0 hG Y Y Y Y (by omega) Y ?_ | refine Ak (α := UInt16) 1 hG Y Y Y Y (by omega) Y ?_ | refine Ay hG Y Y Y ?_ | refine Bg 0 hG Y Y Y Y ?_)
      | (show AOp _ _ ⟨_, .indexAddr _ _ _, _, _, _, _⟩ _ _ _; first | refine A1 hG Y Y Y Y Y Y Y (by omega) ?_ | refine A0 hG Y Y Y Y Y Y Y (by omega) ?_ | refine Az hG Y Y Y Y Y Y Y (by omega) ?_ | refine A9 hG Y Y ?_)
      | refine r_q hG Y Y Y ?_))
    | (show AL _ _ _ _ _ _ _ _; first | refine Bk Y Y Y ?_ | (refine Ar ?_; first | show AW _ _ _ _ _ _ | show ∃ x', _ < _ ∧ _)) | (show AW _ _ (.seq _ _) _ _ _; refine Ai ?_; intro Q1) | (show AW _ _ (.region _ _ false) _ _ _; refine Ad ?_; intro O1) | (show AW _ _ (.cond _ _ _) _ _ _; first | refine Ao Y ?_ | refine Ap Y ?_ | refine Ba Y (fun h => ?_) (fun h => ?_)) | (show AW _ _ (.skip) _ _ _; refine Aj ?_; first | show AW _ _ _ _ _ _ | show ∃ x', _ < _ ∧ _) | (show AW _ _ (.block _ _) _ _ _; refine Ae ?_; intro Q1) | (show AW _ _ (.exit _) _ _ _; refine Al ?_; first | show AW _ _ _ _ _ _ | show ∃ x', _ < _ ∧ _) | (show AW _ _ (.ret) _ _ _; refine Aw ?_; try dsimp only [Ax, Aa, A2, Af]) | fail)
      try dsimp (config := { zetaDelta := true }) only [Ax, Aa, A2]
      exact Bu (Bm rfl Bl) (.int e) rfl
    · rw [if_neg (by omega)] at e
      repeat' (first
    | ((show AL _ _ _ _ _ _ _ _; refine Ag Y ?_); (first
      | refine Aq hG Y Y ?_
      | refine A5 hG Y Y ?_
      | (show AOp _ _ ⟨_, .call ⟨.builtin .len, _, _⟩, _, _, _, _⟩ _ _ _; first | refine Bh hG Y Y Y Y ?_ | refine Bq hG Y Y Y Y Y ?_)
      | (show AOp _ _ ⟨_, .binOp .add _ _ _ _, _, _, _, _⟩ _ _ _; first | refine Ac hG Y Y Y Y Y (by omega) ?_ | refine Ac (m := 1) hG Y Y Y Y Y (by omega) ?_ | refine Ab hG Y Y Y Y Y (by omega) ?_)
      | (show AOp _ _ ⟨_, .binOp _ _ _ _ _, _, _, _, _⟩ _ _ _; first | refine At hG Y Y Y Y Y (by omega) ?_ | refine Au hG Y Y Y Y Y (by omega) ?_ | (refine Am hG Y Y Y Y Y (fun h => ?_) (fun h => ?_)))
      | (show AOp _ _ ⟨_, .load _ _, _, _, _, _⟩ _ _ _; first | refine Ak (α := UInt16) 0 hG Y Y Y Y (by omega) Y ?_ | refine Ak (α := UInt16) 1 hG Y Y Y Y (by omega) Y ?_ | refine Ay hG Y Y Y ?_ | refine Bg 0 hG Y Y Y Y ?_)
      | (show AOp _ _ ⟨_, .indexAddr _ _ _, _, _, _, _⟩ _ _ _; first | refine A1 hG Y Y Y Y Y Y Y (by omega) ?_ | refine A0 hG Y Y Y Y Y Y Y (by omega) ?_ | refine Az hG Y Y Y Y Y Y Y (by omega) ?_ | refine A9 hG Y Y ?_)
      | refine r_q hG Y Y Y ?_))
    | (show AL _ _ _ _ _ _ _ _; first | refine Bk Y Y Y ?_ | (refine Ar ?_; first | show AW _ _ _ _ _ _ | show ∃ x', _ < _ ∧ _)) | (show AW _ _ (.seq _ _) _ _ _; refine Ai ?_; intro Q1) | (show AW _ _ (.region _ _ false) _ _ _; refine Ad ?_; intro O1) | (show AW _ _ (.cond _ _ _) _ _ _; first | refine Ao Y ?_ | refine Ap Y ?_ | refine Ba Y (fun h => ?_) (fun h => ?_)) | (show AW _ _ (.skip) _ _ _; refine Aj ?_; first | show AW _ _ _ _ _ _ | show ∃ x', _ < _ ∧ _) | (show AW _ _ (.block _ _) _ _ _; refine Ae ?_; intro Q1) | (show AW _ _ (.exit _) _ _ _; refine Al ?_; first | show AW _ _ _ _ _ _ | show ∃ x', _ < _ ∧ _) | (show AW _ _ (.ret) _ _ _; refine Aw ?_; try dsimp only [Ax, Aa, A2, Af]) | fail)
      exact ⟨⟨i + 1, by omega, e⟩, by dsimp only; omega, (by repeat (first | exact .nil _ | refine .cons rfl ?_)), .refl _⟩
  · rw [List.drop_eq_nil_of_le (by omega)] at e
    repeat' (first
    | ((show AL _ _ _ _ _ _ _ _; refine Ag Y ?_); (first
      | refine Aq hG Y Y ?_
      | refine A5 hG Y Y ?_
      | (show AOp _ _ ⟨_, .call ⟨.builtin .len, _, _⟩, _, _, _, _⟩ _ _ _; first | refine Bh hG Y Y Y Y ?_ | refine Bq hG Y Y Y Y Y ?_)
      | (show AOp _ _ ⟨_, .binOp .add _ _ _ _, _, _, _, _⟩ _ _ _; first | refine Ac hG Y Y Y Y Y (by omega) ?_ | refine Ac (m := 1) hG Y Y Y Y Y (by omega) ?_ | refine Ab hG Y Y Y Y Y (by omega) ?_)
      | (show AOp _ _ ⟨_, .binOp _ _ _ _ _, _, _, _, _⟩ _ _ _; first | refine At hG Y Y Y Y Y (by omega) ?_ | refine Au hG Y Y Y Y Y (by omega) ?_ | (refine Am hG Y Y Y Y Y (fun h => ?_) (fun h => ?_)))
      | (show AOp _ _ ⟨_, .load _ _, _, _, _, _⟩ _ _ _; first | refine Ak (α := UInt16) 0 hG Y Y Y Y (by omega) Y ?_ | refine Ak (α := UInt16) 1 hG Y Y Y Y (by omega) Y ?_ | refine Ay hG Y Y Y ?_ | refine Bg 0 hG Y Y Y Y ?_)
      | (show AOp _ _ ⟨_, .indexAddr _ _ _, _, _, _, _⟩ _ _ _; first | refine A1 hG Y Y Y Y Y Y Y (by omega) ?_ | refine A0 hG Y Y Y Y Y Y Y (by omega) ?_ | refine Az hG Y Y Y Y Y Y Y (by omega) ?_ | refine A9 hG Y Y ?_)
      | refine r_q hG Y Y Y ?_))
    | (show AL _ _ _ _ _ _ _ _; first | refine Bk Y Y Y ?_ | (refine Ar ?_; first | show AW _ _ _ _ _ _ | show ∃ x', _ < _ ∧ _)) | (show AW _ _ (.seq _ _) _ _ _; refine Ai ?_; intro Q1) | (show AW _ _ (.region _ _ false) _ _ _; refine Ad ?_; intro O1) | (show AW _ _ (.cond _ _ _) _ _ _; first | refine Ao Y ?_ | refine Ap Y ?_ | refine Ba Y (fun h => ?_) (fun h => ?_)) | (show AW _ _ (.skip) _ _ _; refine Aj ?_; first | show AW _ _ _ _ _ _ | show ∃ x', _ < _ ∧ _) | (show AW _ _ (.block _ _) _ _ _; refine Ae ?_; intro Q1) | (show AW _ _ (.exit _) _ _ _; refine Al ?_; first | show AW _ _ _ _ _ _ | show ∃ x', _ < _ ∧ _) | (show AW _ _ (.ret) _ _ _; refine Aw ?_; try dsimp only [Ax, Aa, A2, Af]) | fail)
    exact Bu (Bm rfl Bl) (.int e) rfl
def boxB (l : List OB) (id : Nat) : Bool := l.any fun o => decide (o.id = id) && decide (o.kind = 1)
structure BxX (l : List OB) (v : Nat) (R : Bool) where
  i : Nat
  hi : i ≤ l.length
  e : boxB (l.drop i) v = R
theorem ref_box {l : List OB} {v : Nat} (hl : l.length ≤ 31) {R : Bool} (hR : boxB l v = R) : Ts.Pure Try.prog 31 [.sl 13 .no (l.map oT), mT v] (.bool R) := by
  intro off
  refine Br (N := 27) (rs := [.tmp 4]) hG Try.func31 rfl rfl rfl rfl rfl ?_
  repeat' (first
    | ((show AL _ _ _ _ _ _ _ _; refine Ag Y ?_); (first
      | refine Aq hG Y Y ?_
      | refine A5 hG Y Y ?_
      | (show AOp _ _ ⟨_, .call ⟨.builtin .len, _, _⟩, _, _, _, _⟩ _ _ _; first | refine Bh hG Y Y Y Y ?_ | refine Bq hG Y Y Y Y Y ?_)
      | (show AOp _ _ ⟨_, .binOp .add _ _ _ _, _, _, _, _⟩ _ _ _; first | refine Ac hG Y Y Y Y Y (by omega) ?_ | refine Ac (m := 1) hG Y Y Y Y Y (by omega) ?_ | refine Ab hG Y Y Y Y Y (by omega) ?_)
      | (show AOp _ _ ⟨_, .binOp _ _ _ _ _, _, _, _, _⟩ _ _ _; first | refine At hG Y Y Y Y Y (by omega) ?_ | refine Au hG Y Y Y Y Y (by omega) ?_ | (refine Am hG Y Y Y Y Y (fun h => ?_) (fun h => ?_)))
      | (show AOp _ _ ⟨_, .load _ _, _, _, _, _⟩ _ _ _; first | refine Ak (α := UInt16) 0 hG Y Y Y Y (by omega) Y ?_ | refine Ak (α := UInt16) 1 hG Y Y Y Y (by omega) Y ?_ | refine Ay hG Y Y Y ?_ | refine Bg 0 hG Y Y Y Y ?_)
      | (show AOp _ _ ⟨_, .indexAddr _ _ _, _, _, _, _⟩ _ _ _; first | refine A1 hG Y Y Y Y Y Y Y (by omega) ?_ | refine A0 hG Y Y Y Y Y Y Y (by omega) ?_ | refine Az hG Y Y Y Y Y Y Y (by omega) ?_ | refine A9 hG Y Y ?_)
      | refine A6 hG Y Y Y ?_
      | refine r_q hG Y Y Y ?_))
    | (show AL _ _ _ _ _ _ _ _; first | refine Bk Y Y Y ?_ | (refine Ar ?_; first | show AW _ _ _ _ _ _ | show ∃ x', _ < _ ∧ _)) | (show AW _ _ (.seq _ _) _ _ _; refine Ai ?_; intro Q1) | (show AW _ _ (.region _ _ false) _ _ _; refine Ad ?_; intro O1) | (show AW _ _ (.cond _ _ _) _ _ _; first | refine Ao Y ?_ | refine Ap Y ?_ | refine Ba Y (fun h => ?_) (fun h => ?_)) | (show AW _ _ (.skip) _ _ _; refine Aj ?_; first | show AW _ _ _ _ _ _ | show ∃ x', _ < _ ∧ _) | (show AW _ _ (.block _ _) _ _ _; refine Ae ?_; intro Q1) | (show AW _ _ (.exit _) _ _ _; refine Al ?_; first | show AW _ _ _ _ _ _ | show ∃ x', _ < _ ∧ _) | (show AW _ _ (.ret) _ _ _; refine Aw ?_; try dsimp only [Ax, Aa, A2, Af]) | fail)
  refine Ch (X := BxX l v R) (fun x => [(0, .sl 13 .no (l.map oT)), (1, mT v), (5, .int .i64 (x.i : Int))]) (fun x => ⟨[], [], off, none⟩) (fun x => l.length - x.i) ⟨0, Nat.zero_le _, hR⟩ (by repeat (first | exact .nil _ | refine .cons rfl ?_)) (.refl _) ?_
  rintro ⟨i, hi, e⟩
  dsimp only
  by_cases hil : i < l.length
  · have hg : l.getD i default = l[i] := by simp [List.getD, hil]
    unfold boxB at e
    rw [List.drop_eq_getElem_cons hil, List.any_cons, ← hg] at e
    by_cases he : (((l.getD i default).id : Nat) : Int) = ((v : Nat) : Int)
    · rw [decide_eq_true (show (l.getD i default).id = v by omega)] at e
      by_cases hk : (l.getD i default).kind = 1
      · rw [decide_eq_true hk] at e
        repeat' (first
    | ((show AL _ _ _ _ _ _ _ _; refine Ag Y ?_); (first
      | refine Aq hG Y Y ?_
      | refine A5 hG Y Y ?_
      | (show AOp _ _ ⟨_, .call ⟨.builtin .len, _, _⟩, _, _, _, _⟩ _ _ _; first | refine Bh hG Y Y Y Y ?_ | refine Bq hG Y Y Y Y Y ?_)
      | (show AOp _ _ ⟨_, .binOp .add _ _ _ _, _, _, _, _⟩ _ _ _; first | refine Ac hG Y Y Y Y Y (by omega) ?_ | refine Ac (m := 1) hG Y Y Y Y Y (by omega) ?_ | refine Ab hG Y Y Y Y Y (by omega) ?_)
      | (show AOp _ _ ⟨_, .binOp _ _ _ _ _, _, _, _, _⟩ _ _ _; first | refine At hG Y Y Y Y Y (by omega) ?_ | refine Au hG Y Y Y Y Y (by omega) ?_ | (refine Am hG Y Y Y Y Y (fun h => ?_) (fun h => ?_)))
      | (show AOp _ _ ⟨_, .load _ _, _, _, _, _⟩ _ _ _; first | refine Ak (α := UInt16) 0 hG Y Y Y Y (by omega) Y ?_ | refine Ak (α := UInt16) 1 hG Y Y Y Y (by omega) Y ?_ | refine Ay hG Y Y Y ?_ | refine Bg 0 hG Y Y Y Y ?_)
      | (show AOp _ _ ⟨_, .indexAddr _ _ _, _, _, _, _⟩ _ _ _; first | refine A1 hG Y Y Y Y Y Y Y (by omega) ?_ | refine A0 hG Y Y Y Y Y Y Y (by omega) ?_ | refine Az hG Y Y Y Y Y Y Y (by omega) ?_ | refine A9 hG Y Y ?_)
      | refine A6 hG Y Y Y ?_
      | refine r_q hG Y Y Y ?_))
    | (show AL _ _ _ _ _ _ _ _; first | refine Bk Y Y Y ?_ | (refine Ar ?_; first | show AW _ _ _ _ _ _ | show ∃ x', _ < _ ∧ _)) | (show AW _ _ (.seq _ _) _ _ _; refine Ai ?_; intro Q1) | (show AW _ _ (.region _ _ false) _ _ _; refine Ad ?_; intro O1) | (show AW _ _ (.cond _ _ _) _ _ _; first | refine Ao Y ?_ | refine Ap Y ?_ | refine Ba Y (fun h => ?_) (fun h => ?_)) | (show AW _ _ (.skip) _ _ _; refine Aj ?_; first | show AW _ _ _ _ _ _ | show ∃ x', _ < _ ∧ _) | (show AW _ _ (.block _ _) _ _ _; refine Ae ?_; intro Q1) | (show AW _ _ (.exit _) _ _ _; refine Al ?_; first | show AW _ _ _ _ _ _ | show ∃ x', _ < _ ∧ _) | (show AW _ _ (.ret) _ _ _; refine Aw ?_; try dsimp only [Ax, Aa, A2, Af]) | fail)
        try dsimp (config := { zetaDelta := true }) only [Ax, Aa, A2]
        exact Bu (Bm rfl Bl) (.eq (by rw [← e]; rfl)) rfl
      · rw [decide_eq_false hk] at e
        repeat' (first
    | ((show AL _ _ _ _ _ _ _ _; refine Ag Y ?_); (first
      | refine Aq hG Y Y ?_
      | refine A5 hG Y Y ?_
      | (show AOp _ _ ⟨_, .call ⟨.builtin .len, _, _⟩, _, _, _, _⟩ _ _ _; first | refine Bh hG Y Y Y Y ?_ | refine Bq hG Y Y Y Y Y ?_)
      | (show AOp _ _ ⟨_, .binOp .add _ _ _ _, _, _, _, _⟩ _ _ _; first | refine Ac hG Y Y Y Y Y (by omega) ?_ | refine Ac (m := 1) hG Y Y Y Y Y (by omega) ?_ | refine Ab hG Y Y Y Y Y (by omega) ?_)
      | (show AOp _ _ ⟨_, .binOp _ _ _ _ _, _, _, _, _⟩ _ _ _; first | refine At hG Y Y Y Y Y (by omega) ?_ | refine Au hG Y Y Y Y Y (by omega) ?_ | (refine Am hG Y Y Y Y Y (fun h => ?_) (fun h => ?_)))
      | (show AOp _ _ ⟨_, .load _ _, _, _, _, _⟩ _ _ _; first | refine Ak (α := UInt16) 0 hG Y Y Y Y (by omega) Y ?_ | refine Ak (α := UInt16) 1 hG Y Y Y Y (by omega) Y ?_ | refine Ay hG Y Y Y ?_ | refine Bg 0 hG Y Y Y Y ?_)
      | (show AOp _ _ ⟨_, .indexAddr _ _ _, _, _, _, _⟩ _ _ _; first | refine A1 hG Y Y Y Y Y Y Y (by omega) ?_ | refine A0 hG Y Y Y Y Y Y Y (by omega) ?_ | refine Az hG Y Y Y Y Y Y Y (by omega) ?_ | refine A9 hG Y Y ?_)
      | refine A6 hG Y Y Y ?_
      | refine r_q hG Y Y Y ?_))
    | (show AL _ _ _ _ _ _ _ _; first | refine Bk Y Y Y ?_ | (refine Ar ?_; first | show AW _ _ _ _ _ _ | show ∃ x', _ < _ ∧ _)) | (show AW _ _ (.seq _ _) _ _ _; refine Ai ?_; intro Q1) | (show AW _ _ (.region _ _ false) _ _ _; refine Ad ?_; intro O1) | (show AW _ _ (.cond _ _ _) _ _ _; first | refine Ao Y ?_ | refine Ap Y ?_ | refine Ba Y (fun h => ?_) (fun h => ?_)) | (show AW _ _ (.skip) _ _ _; refine Aj ?_; first | show AW _ _ _ _ _ _ | show ∃ x', _ < _ ∧ _) | (show AW _ _ (.block _ _) _ _ _; refine Ae ?_; intro Q1) | (show AW _ _ (.exit _) _ _ _; refine Al ?_; first | show AW _ _ _ _ _ _ | show ∃ x', _ < _ ∧ _) | (show AW _ _ (.ret) _ _ _; refine Aw ?_; try dsimp only [Ax, Aa, A2, Af]) | fail)
        exact ⟨⟨i + 1, by omega, by unfold boxB; simpa using e⟩, by dsimp only; omega, (by repeat (first | exact .nil _ | refine .cons rfl ?_)), .refl _⟩
    · rw [decide_eq_false (show ¬ (l.getD i default).id = v by omega)] at e
      repeat' (first
    | ((show AL _ _ _ _ _ _ _ _; refine Ag Y ?_); (first
      | refine Aq hG Y Y ?_
      | refine A5 hG Y Y ?_
      | (show AOp _ _ ⟨_, .call ⟨.builtin .len, _, _⟩, _, _, _, _⟩ _ _ _; first | refine Bh hG Y Y Y Y ?_ | refine Bq hG Y Y Y Y Y ?_)
      | (show AOp _ _ ⟨_, .binOp .add _ _ _ _, _, _, _, _⟩ _ _ _; first | refine Ac hG Y Y Y Y Y (by omega) ?_ | refine Ac (m := 1) hG Y Y Y Y Y (by omega) ?_ | refine Ab hG Y Y Y Y Y (by omega) ?_)
      | (show AOp _ _ ⟨_, .binOp _ _ _ _ _, _, _, _, _⟩ _ _ _; first | refine At hG Y Y Y Y Y (by omega) ?_ | refine Au hG Y Y Y Y Y (by omega) ?_ | (refine Am hG Y Y Y Y Y (fun h => ?_) (fun h => ?_)))
      | (show AOp _ _ ⟨_, .load _ _, _, _, _, _⟩ _ _ _; first | refine Ak (α := UInt16) 0 hG Y Y Y Y (by omega) Y ?_ | refine Ak (α := UInt16) 1 hG Y Y Y Y (by omega) Y ?_ | refine Ay hG Y Y Y ?_ | refine Bg 0 hG Y Y Y Y ?_)
      | (show AOp _ _ ⟨_, .indexAddr _ _ _, _, _, _, _⟩ _ _ _; first | refine A1 hG Y Y Y Y Y Y Y (by omega) ?_ | refine A0 hG Y Y Y Y Y Y Y (by omega) ?_ | refine Az hG Y Y Y Y Y Y Y (by omega) ?_ | refine A9 hG Y Y ?_)
      | refine A6 hG Y Y Y ?_
      | refine r_q hG Y Y Y ?_))
    | (show AL _ _ _ _ _ _ _ _; first | refine Bk Y Y Y ?_ | (refine Ar ?_; first | show AW _ _ _ _ _ _ | show ∃ x', _ < _ ∧ _)) | (show AW _ _ (.seq _ _) _ _ _; refine Ai ?_; intro Q1) | (show AW _ _ (.region _ _ false) _ _ _; refine Ad ?_; intro O1) | (show AW _ _ (.cond _ _ _) _ _ _; first | refine Ao Y ?_ | refine Ap Y ?_ | refine Ba Y (fun h => ?_) (fun h => ?_)) | (show AW _ _ (.skip) _ _ _; refine Aj ?_; first | show AW _ _ _ _ _ _ | show ∃ x', _ < _ ∧ _) | (show AW _ _ (.block _ _) _ _ _; refine Ae ?_; intro Q1) | (show AW _ _ (.exit _) _ _ _; refine Al ?_; first | show AW _ _ _ _ _ _ | show ∃ x', _ < _ ∧ _) | (show AW _ _ (.ret) _ _ _; refine Aw ?_; try dsimp only [Ax, Aa, A2, Af]) | fail)
      exact ⟨⟨i + 1, by omega, by unfold boxB; simpa using e⟩, by dsimp only; omega, (by repeat (first | exact .nil _ | refine .cons rfl ?_)), .refl _⟩
  · rw [List.drop_eq_nil_of_le (by omega)] at e
    repeat' (first
    | ((show AL _ _ _ _ _ _ _ _; refine Ag Y ?_); (first
      | refine Aq hG Y Y ?_
      | refine A5 hG Y Y ?_
      | (show AOp _ _ ⟨_, .call ⟨.builtin .len, _, _⟩, _, _, _, _⟩ _ _ _; first | refine Bh hG Y Y Y Y ?_ | refine Bq hG Y Y Y Y Y ?_)
      | (show AOp _ _ ⟨_, .binOp .add _ _ _ _, _, _, _, _⟩ _ _ _; first | refine Ac hG Y Y Y Y Y (by omega) ?_ | refine Ac (m := 1) hG Y Y Y Y Y (by omega) ?_ | refine Ab hG Y Y Y Y Y (by omega) ?_)
      | (show AOp _ _ ⟨_, .binOp _ _ _ _ _, _, _, _, _⟩ _ _ _; first | refine At hG Y Y Y Y Y (by omega) ?_ | refine Au hG Y Y Y Y Y (by omega) ?_ | (refine Am hG Y Y Y Y Y (fun h => ?_) (fun h => ?_)))
      | (show AOp _ _ ⟨_, .load _ _, _, _, _, _⟩ _ _ _; first | refine Ak (α := UInt16) 0 hG Y Y Y Y (by omega) Y ?_ | refine Ak (α := UInt16) 1 hG Y Y Y Y (by omega) Y ?_ | refine Ay hG Y Y Y ?_ | refine Bg 0 hG Y Y Y Y ?_)
      | (show AOp _ _ ⟨_, .indexAddr _ _ _, _, _, _, _⟩ _ _ _; first | refine A1 hG Y Y Y Y Y Y Y (by omega) ?_ | refine A0 hG Y Y Y Y Y Y Y (by omega) ?_ | refine Az hG Y Y Y Y Y Y Y (by omega) ?_ | refine A9 hG Y Y ?_)
      | refine A6 hG Y Y Y ?_
      | refine r_q hG Y Y Y ?_))
    | (show AL _ _ _ _ _ _ _ _; first | refine Bk Y Y Y ?_ | (refine Ar ?_; first | show AW _ _ _ _ _ _ | show ∃ x', _ < _ ∧ _)) | (show AW _ _ (.seq _ _) _ _ _; refine Ai ?_; intro Q1) | (show AW _ _ (.region _ _ false) _ _ _; refine Ad ?_; intro O1) | (show AW _ _ (.cond _ _ _) _ _ _; first | refine Ao Y ?_ | refine Ap Y ?_ | refine Ba Y (fun h => ?_) (fun h => ?_)) | (show AW _ _ (.skip) _ _ _; refine Aj ?_; first | show AW _ _ _ _ _ _ | show ∃ x', _ < _ ∧ _) | (show AW _ _ (.block _ _) _ _ _; refine Ae ?_; intro Q1) | (show AW _ _ (.exit _) _ _ _; refine Al ?_; first | show AW _ _ _ _ _ _ | show ∃ x', _ < _ ∧ _) | (show AW _ _ (.ret) _ _ _; refine Aw ?_; try dsimp only [Ax, Aa, A2, Af]) | fail)
    exact Bu (Bm rfl Bl) (.eq (by rw [← e]; rfl)) rfl
def hasB (l : List OB) (id : Nat) : Bool := decide (id ∈ l.map (·.id))
def chk (l : List OB) : List Nat → Bool
  | [] => true
  | [x] => hasB l x
  | x :: y :: p => hasB l x && boxB l x && chk l (y :: p)
structure RcY (l : List OB) (p : List Nat) (R : Bool) where
  i : Nat
  hi : i ≤ p.length
  e : chk l (p.drop i) = R
set_option maxHeartbeats 1000000 in
theorem ref_reached {l : List OB} {id : Nat} (hl : l.length ≤ 31) (hid : id < 18446744073709551616) (h0 : 0 < (B8 id).length) {R : Bool} (hR : chk l (B8 id) = R) : Ts.Pure Try.prog 22 [.sl 13 .no (l.map oT), mT id] (.bool R) := by
  have h1 := ref_Path hid
  have h2 := pathL_len id
  generalize B8 id = p at *
  intro off
  refine Br (N := 43) (rs := [.tmp 4]) hG Try.func22 rfl rfl rfl rfl rfl ?_
  repeat' (first
    | ((show AL _ _ _ _ _ _ _ _; refine Ag Y ?_); (first
      | refine Aq hG Y Y ?_
      | refine A5 hG Y Y ?_
      | (show AOp _ _ ⟨_, .call ⟨.builtin .len, _, _⟩, _, _, _, _⟩ _ _ _; first | refine Bh hG Y Y Y Y ?_ | refine Bq hG Y Y Y Y Y ?_)
      | (show AOp _ _ ⟨_, .binOp .add _ _ _ _, _, _, _, _⟩ _ _ _; first | refine Ac hG Y Y Y Y Y (by omega) ?_ | refine Ac (m := 1) hG Y Y Y Y Y (by omega) ?_ | refine Ab hG Y Y Y Y Y (by omega) ?_)
      | (show AOp _ _ ⟨_, .binOp .sub _ _ _ _, _, _, _, _⟩ _ _ _; first | refine Av hG Y Y Y Y (by omega) ?_ | refine Av (m := 1) hG Y Y Y Y (by omega) ?_ | refine Cg (m := 1) hG Y Y Y Y (by omega) ?_ | refine Ab hG Y Y Y Y Y (by omega) ?_)
      | (show AOp _ _ ⟨_, .binOp _ _ _ _ _, _, _, _, _⟩ _ _ _; first | refine At hG Y Y Y Y Y (by omega) ?_ | refine Au hG Y Y Y Y Y (by omega) ?_ | (refine Am hG Y Y Y Y Y (fun h => ?_) (fun h => ?_)))
      | (show AOp _ _ ⟨_, .load _ _, _, _, _, _⟩ _ _ _; first | refine Ak (α := UInt16) 0 hG Y Y Y Y (by omega) Y ?_ | refine Ak (α := UInt16) 1 hG Y Y Y Y (by omega) Y ?_ | refine Ay hG Y Y Y ?_ | refine Bg 0 hG Y Y Y Y ?_)
      | (show AOp _ _ ⟨_, .indexAddr _ _ _, _, _, _, _⟩ _ _ _; first | refine A1 hG Y Y Y Y Y Y Y (by omega) ?_ | refine A0 hG Y Y Y Y Y Y Y (by omega) ?_ | refine Az hG Y Y Y Y Y Y Y (by omega) ?_ | refine A9 hG Y Y ?_)
      | refine A6 hG Y Y Y ?_
      | refine Bs hG Y Y Y ?_
      | (show AOp _ _ ⟨_, .call ⟨.value _, _, _⟩, _, _, _, _⟩ _ _ _; first | refine Bn Y Y Y Y Y (by first | (apply h1 <;> (first | assumption | omega | exact A4 _ _ | exact Bd _ | exact A7 _ _ | exact Bi _ | rfl | (simp; omega))) | fail) ?_ | fail)
      | refine r_q hG Y Y Y ?_))
    | (show AL _ _ _ _ _ _ _ _; first | refine Bk Y Y Y ?_ | (refine Ar ?_; first | show AW _ _ _ _ _ _ | show ∃ x', _ < _ ∧ _)) | (show AW _ _ (.seq _ _) _ _ _; refine Ai ?_; intro Q1) | (show AW _ _ (.region _ _ false) _ _ _; refine Ad ?_; intro O1) | (show AW _ _ (.cond _ _ _) _ _ _; first | refine Ao Y ?_ | refine Ap Y ?_ | refine Ba Y (fun h => ?_) (fun h => ?_)) | (show AW _ _ (.skip) _ _ _; refine Aj ?_; first | show AW _ _ _ _ _ _ | show ∃ x', _ < _ ∧ _) | (show AW _ _ (.block _ _) _ _ _; refine Ae ?_; intro Q1) | (show AW _ _ (.exit _) _ _ _; refine Al ?_; first | show AW _ _ _ _ _ _ | show ∃ x', _ < _ ∧ _) | (show AW _ _ (.ret) _ _ _; refine Aw ?_; try dsimp only [Ax, Aa, A2, Af]) | fail)
  refine Ch (X := RcY l p R) (fun x => [(0, .sl 13 .no (l.map oT)), (5, .sl 1 .no (p.map mT)), (6, .int .i64 (x.i : Int))]) (fun x => ⟨[], [], off, none⟩) (fun x => p.length - x.i) ⟨0, Nat.zero_le _, hR⟩ (by repeat (first | exact .nil _ | refine .cons rfl ?_)) (.refl _) ?_
  rintro ⟨i, hi, e⟩
  dsimp only
  by_cases hil : i < p.length
  · have hg : p.getD i default = p[i] := by simp [List.getD, hil]
    have hf := ref_find (l := l) (v := p.getD i default) hl rfl
    have hm := ixR_mem (p.getD i default) (l.map (·.id)) 0
    have hx := ref_box (l := l) (v := p.getD i default) hl rfl
    generalize hixr : ixR (p.getD i default) (l.map (·.id)) 0 = ix at *
    have hh : hasB l (p.getD i default) = decide (0 ≤ ix) := hm.symm
    rw [List.drop_eq_getElem_cons hil, ← hg] at e
    by_cases h3 : ix < 0
    · rw [decide_eq_false (show ¬ 0 ≤ ix by omega)] at hh
      have e2 : R = false := by
        rw [← e]
        cases p.drop (i + 1) with
        | nil => exact hh
        | cons y q => rw [chk, hh]; rfl
      repeat' (first
    | ((show AL _ _ _ _ _ _ _ _; refine Ag Y ?_); (first
      | refine Aq hG Y Y ?_
      | refine A5 hG Y Y ?_
      | (show AOp _ _ ⟨_, .call ⟨.builtin .len, _, _⟩, _, _, _, _⟩ _ _ _; first | refine Bh hG Y Y Y Y ?_ | refine Bq hG Y Y Y Y Y ?_)
      | (show AOp _ _ ⟨_, .binOp .add _ _ _ _, _, _, _, _⟩ _ _ _; first | refine Ac hG Y Y Y Y Y (by omega) ?_ | refine Ac (m := 1) hG Y Y Y Y Y (by omega) ?_ | refine Ab hG Y Y Y Y Y (by omega) ?_)
      | (show AOp _ _ ⟨_, .binOp .sub _ _ _ _, _, _, _, _⟩ _ _ _; first | refine Av hG Y Y Y Y (by omega) ?_ | refine Av (m := 1) hG Y Y Y Y (by omega) ?_ | refine Cg (m := 1) hG Y Y Y Y (by omega) ?_ | refine Ab hG Y Y Y Y Y (by omega) ?_)
      | (show AOp _ _ ⟨_, .binOp _ _ _ _ _, _, _, _, _⟩ _ _ _; first | refine At hG Y Y Y Y Y (by omega) ?_ | refine Au hG Y Y Y Y Y (by omega) ?_ | (refine Am hG Y Y Y Y Y (fun h => ?_) (fun h => ?_)))
      | (show AOp _ _ ⟨_, .load _ _, _, _, _, _⟩ _ _ _; first | refine Ak (α := UInt16) 0 hG Y Y Y Y (by omega) Y ?_ | refine Ak (α := UInt16) 1 hG Y Y Y Y (by omega) Y ?_ | refine Ay hG Y Y Y ?_ | refine Bg 0 hG Y Y Y Y ?_)
      | (show AOp _ _ ⟨_, .indexAddr _ _ _, _, _, _, _⟩ _ _ _; first | refine A1 hG Y Y Y Y Y Y Y (by omega) ?_ | refine A0 hG Y Y Y Y Y Y Y (by omega) ?_ | refine Az hG Y Y Y Y Y Y Y (by omega) ?_ | refine A9 hG Y Y ?_)
      | refine A6 hG Y Y Y ?_
      | refine Bs hG Y Y Y ?_
      | (show AOp _ _ ⟨_, .call ⟨.value _, _, _⟩, _, _, _, _⟩ _ _ _; first | refine Bn Y Y Y Y Y (by first | (apply hf <;> (first | assumption | omega | exact A4 _ _ | exact Bd _ | exact A7 _ _ | exact Bi _ | rfl | (simp; omega))) | fail) ?_ | refine Bn Y Y Y Y Y (by first | (apply hx <;> (first | assumption | omega | exact A4 _ _ | exact Bd _ | exact A7 _ _ | exact Bi _ | rfl | (simp; omega))) | fail) ?_ | fail)
      | refine r_q hG Y Y Y ?_))
    | (show AL _ _ _ _ _ _ _ _; first | refine Bk Y Y Y ?_ | (refine Ar ?_; first | show AW _ _ _ _ _ _ | show ∃ x', _ < _ ∧ _)) | (show AW _ _ (.seq _ _) _ _ _; refine Ai ?_; intro Q1) | (show AW _ _ (.region _ _ false) _ _ _; refine Ad ?_; intro O1) | (show AW _ _ (.cond _ _ _) _ _ _; first | refine Ao Y ?_ | refine Ap Y ?_ | refine Ba Y (fun h => ?_) (fun h => ?_)) | (show AW _ _ (.skip) _ _ _; refine Aj ?_; first | show AW _ _ _ _ _ _ | show ∃ x', _ < _ ∧ _) | (show AW _ _ (.block _ _) _ _ _; refine Ae ?_; intro Q1) | (show AW _ _ (.exit _) _ _ _; refine Al ?_; first | show AW _ _ _ _ _ _ | show ∃ x', _ < _ ∧ _) | (show AW _ _ (.ret) _ _ _; refine Aw ?_; try dsimp only [Ax, Aa, A2, Af]) | fail)
      try dsimp (config := { zetaDelta := true }) only [Ax, Aa, A2]
      exact Bu (Bm rfl Bl) (.eq (by rw [e2]; rfl)) rfl
    · rw [decide_eq_true (show 0 ≤ ix by omega)] at hh
      by_cases h4 : i < p.length - 1
      · have hg2 : p.drop (i + 1) = p[i + 1] :: p.drop (i + 2) := List.drop_eq_getElem_cons (by omega)
        rw [hg2, chk, hh, ← hg2] at e
        obtain ⟨bx, hbx⟩ : ∃ bx, boxB l (p.getD i default) = bx := ⟨_, rfl⟩
        rw [hbx] at e hx
        cases bx with
        | true =>
          repeat' (first
    | ((show AL _ _ _ _ _ _ _ _; refine Ag Y ?_); (first
      | refine Aq hG Y Y ?_
      | refine A5 hG Y Y ?_
      | (show AOp _ _ ⟨_, .call ⟨.builtin .len, _, _⟩, _, _, _, _⟩ _ _ _; first | refine Bh hG Y Y Y Y ?_ | refine Bq hG Y Y Y Y Y ?_)
      | (show AOp _ _ ⟨_, .binOp .add _ _ _ _, _, _, _, _⟩ _ _ _; first | refine Ac hG Y Y Y Y Y (by omega) ?_ | refine Ac (m := 1) hG Y Y Y Y Y (by omega) ?_ | refine Ab hG Y Y Y Y Y (by omega) ?_)
      | (show AOp _ _ ⟨_, .binOp .sub _ _ _ _, _, _, _, _⟩ _ _ _; first | refine Av hG Y Y Y Y (by omega) ?_ | refine Av (m := 1) hG Y Y Y Y (by omega) ?_ | refine Cg (m := 1) hG Y Y Y Y (by omega) ?_ | refine Ab hG Y Y Y Y Y (by omega) ?_)
      | (show AOp _ _ ⟨_, .binOp _ _ _ _ _, _, _, _, _⟩ _ _ _; first | refine At hG Y Y Y Y Y (by omega) ?_ | refine Au hG Y Y Y Y Y (by omega) ?_ | (refine Am hG Y Y Y Y Y (fun h => ?_) (fun h => ?_)))
      | (show AOp _ _ ⟨_, .load _ _, _, _, _, _⟩ _ _ _; first | refine Ak (α := UInt16) 0 hG Y Y Y Y (by omega) Y ?_ | refine Ak (α := UInt16) 1 hG Y Y Y Y (by omega) Y ?_ | refine Ay hG Y Y Y ?_ | refine Bg 0 hG Y Y Y Y ?_)
      | (show AOp _ _ ⟨_, .indexAddr _ _ _, _, _, _, _⟩ _ _ _; first | refine A1 hG Y Y Y Y Y Y Y (by omega) ?_ | refine A0 hG Y Y Y Y Y Y Y (by omega) ?_ | refine Az hG Y Y Y Y Y Y Y (by omega) ?_ | refine A9 hG Y Y ?_)
      | refine A6 hG Y Y Y ?_
      | refine Bs hG Y Y Y ?_
      | (show AOp _ _ ⟨_, .call ⟨.value _, _, _⟩, _, _, _, _⟩ _ _ _; first | refine Bn Y Y Y Y Y (by first | (apply hf <;> (first | assumption | omega | exact A4 _ _ | exact Bd _ | exact A7 _ _ | exact Bi _ | rfl | (simp; omega))) | fail) ?_ | refine Bn Y Y Y Y Y (by first | (apply hx <;> (first | assumption | omega | exact A4 _ _ | exact Bd _ | exact A7 _ _ | exact Bi _ | rfl | (simp; omega))) | fail) ?_ | fail)
      | refine r_q hG Y Y Y ?_))
    | (show AL _ _ _ _ _ _ _ _; first | refine Bk Y Y Y ?_ | (refine Ar ?_; first | show AW _ _ _ _ _ _ | show ∃ x', _ < _ ∧ _)) | (show AW _ _ (.seq _ _) _ _ _; refine Ai ?_; intro Q1) | (show AW _ _ (.region _ _ false) _ _ _; refine Ad ?_; intro O1) | (show AW _ _ (.cond _ _ _) _ _ _; first | refine Ao Y ?_ | refine Ap Y ?_ | refine Ba Y (fun h => ?_) (fun h => ?_)) | (show AW _ _ (.skip) _ _ _; refine Aj ?_; first | show AW _ _ _ _ _ _ | show ∃ x', _ < _ ∧ _) | (show AW _ _ (.block _ _) _ _ _; refine Ae ?_; intro Q1) | (show AW _ _ (.exit _) _ _ _; refine Al ?_; first | show AW _ _ _ _ _ _ | show ∃ x', _ < _ ∧ _) | (show AW _ _ (.ret) _ _ _; refine Aw ?_; try dsimp only [Ax, Aa, A2, Af]) | fail)
          exact ⟨⟨i + 1, by omega, by simpa using e⟩, by dsimp only; omega, (by repeat (first | exact .nil _ | refine .cons rfl ?_)), .refl _⟩
        | false =>
          repeat' (first
    | ((show AL _ _ _ _ _ _ _ _; refine Ag Y ?_); (first
      | refine Aq hG Y Y ?_
      | refine A5 hG Y Y ?_
      | (show AOp _ _ ⟨_, .call ⟨.builtin .len, _, _⟩, _, _, _, _⟩ _ _ _; first | refine Bh hG Y Y Y Y ?_ | refine Bq hG Y Y Y Y Y ?_)
      | (show AOp _ _ ⟨_, .binOp .add _ _ _ _, _, _, _, _⟩ _ _ _; first | refine Ac hG Y Y Y Y Y (by omega) ?_ | refine Ac (m := 1) hG Y Y Y Y Y (by omega) ?_ | refine Ab hG Y Y Y Y Y (by omega) ?_)
      | (show AOp _ _ ⟨_, .binOp .sub _ _ _ _, _, _, _, _⟩ _ _ _; first | refine Av hG Y Y Y Y (by omega) ?_ | refine Av (m := 1) hG Y Y Y Y (by omega) ?_ | refine Cg (m := 1) hG Y Y Y Y (by omega) ?_ | refine Ab hG Y Y Y Y Y (by omega) ?_)
      | (show AOp _ _ ⟨_, .binOp _ _ _ _ _, _, _, _, _⟩ _ _ _; first | refine At hG Y Y Y Y Y (by omega) ?_ | refine Au hG Y Y Y Y Y (by omega) ?_ | (refine Am hG Y Y Y Y Y (fun h => ?_) (fun h => ?_)))
      | (show AOp _ _ ⟨_, .load _ _, _, _, _, _⟩ _ _ _; first | refine Ak (α := UInt16) 0 hG Y Y Y Y (by omega) Y ?_ | refine Ak (α := UInt16) 1 hG Y Y Y Y (by omega) Y ?_ | refine Ay hG Y Y Y ?_ | refine Bg 0 hG Y Y Y Y ?_)
      | (show AOp _ _ ⟨_, .indexAddr _ _ _, _, _, _, _⟩ _ _ _; first | refine A1 hG Y Y Y Y Y Y Y (by omega) ?_ | refine A0 hG Y Y Y Y Y Y Y (by omega) ?_ | refine Az hG Y Y Y Y Y Y Y (by omega) ?_ | refine A9 hG Y Y ?_)
      | refine A6 hG Y Y Y ?_
      | refine Bs hG Y Y Y ?_
      | (show AOp _ _ ⟨_, .call ⟨.value _, _, _⟩, _, _, _, _⟩ _ _ _; first | refine Bn Y Y Y Y Y (by first | (apply hf <;> (first | assumption | omega | exact A4 _ _ | exact Bd _ | exact A7 _ _ | exact Bi _ | rfl | (simp; omega))) | fail) ?_ | refine Bn Y Y Y Y Y (by first | (apply hx <;> (first | assumption | omega | exact A4 _ _ | exact Bd _ | exact A7 _ _ | exact Bi _ | rfl | (simp; omega))) | fail) ?_ | fail)
      | refine r_q hG Y Y Y ?_))
    | (show AL _ _ _ _ _ _ _ _; first | refine Bk Y Y Y ?_ | (refine Ar ?_; first | show AW _ _ _ _ _ _ | show ∃ x', _ < _ ∧ _)) | (show AW _ _ (.seq _ _) _ _ _; refine Ai ?_; intro Q1) | (show AW _ _ (.region _ _ false) _ _ _; refine Ad ?_; intro O1) | (show AW _ _ (.cond _ _ _) _ _ _; first | refine Ao Y ?_ | refine Ap Y ?_ | refine Ba Y (fun h => ?_) (fun h => ?_)) | (show AW _ _ (.skip) _ _ _; refine Aj ?_; first | show AW _ _ _ _ _ _ | show ∃ x', _ < _ ∧ _) | (show AW _ _ (.block _ _) _ _ _; refine Ae ?_; intro Q1) | (show AW _ _ (.exit _) _ _ _; refine Al ?_; first | show AW _ _ _ _ _ _ | show ∃ x', _ < _ ∧ _) | (show AW _ _ (.ret) _ _ _; refine Aw ?_; try dsimp only [Ax, Aa, A2, Af]) | fail)
          try dsimp (config := { zetaDelta := true }) only [Ax, Aa, A2]
          exact Bu (Bm rfl Bl) (.eq (by rw [← e]; rfl)) rfl
      · have hg2 : p.drop (i + 1) = [] := List.drop_eq_nil_of_le (by omega)
        rw [hg2, chk, hh] at e
        repeat' (first
    | ((show AL _ _ _ _ _ _ _ _; refine Ag Y ?_); (first
      | refine Aq hG Y Y ?_
      | refine A5 hG Y Y ?_
      | (show AOp _ _ ⟨_, .call ⟨.builtin .len, _, _⟩, _, _, _, _⟩ _ _ _; first | refine Bh hG Y Y Y Y ?_ | refine Bq hG Y Y Y Y Y ?_)
      | (show AOp _ _ ⟨_, .binOp .add _ _ _ _, _, _, _, _⟩ _ _ _; first | refine Ac hG Y Y Y Y Y (by omega) ?_ | refine Ac (m := 1) hG Y Y Y Y Y (by omega) ?_ | refine Ab hG Y Y Y Y Y (by omega) ?_)
      | (show AOp _ _ ⟨_, .binOp .sub _ _ _ _, _, _, _, _⟩ _ _ _; first | refine Av hG Y Y Y Y (by omega) ?_ | refine Av (m := 1) hG Y Y Y Y (by omega) ?_ | refine Cg (m := 1) hG Y Y Y Y (by omega) ?_ | refine Ab hG Y Y Y Y Y (by omega) ?_)
      | (show AOp _ _ ⟨_, .binOp _ _ _ _ _, _, _, _, _⟩ _ _ _; first | refine At hG Y Y Y Y Y (by omega) ?_ | refine Au hG Y Y Y Y Y (by omega) ?_ | (refine Am hG Y Y Y Y Y (fun h => ?_) (fun h => ?_)))
      | (show AOp _ _ ⟨_, .load _ _, _, _, _, _⟩ _ _ _; first | refine Ak (α := UInt16) 0 hG Y Y Y Y (by omega) Y ?_ | refine Ak (α := UInt16) 1 hG Y Y Y Y (by omega) Y ?_ | refine Ay hG Y Y Y ?_ | refine Bg 0 hG Y Y Y Y ?_)
      | (show AOp _ _ ⟨_, .indexAddr _ _ _, _, _, _, _⟩ _ _ _; first | refine A1 hG Y Y Y Y Y Y Y (by omega) ?_ | refine A0 hG Y Y Y Y Y Y Y (by omega) ?_ | refine Az hG Y Y Y Y Y Y Y (by omega) ?_ | refine A9 hG Y Y ?_)
      | refine A6 hG Y Y Y ?_
      | refine Bs hG Y Y Y ?_
      | (show AOp _ _ ⟨_, .call ⟨.value _, _, _⟩, _, _, _, _⟩ _ _ _; first | refine Bn Y Y Y Y Y (by first | (apply hf <;> (first | assumption | omega | exact A4 _ _ | exact Bd _ | exact A7 _ _ | exact Bi _ | rfl | (simp; omega))) | fail) ?_ | refine Bn Y Y Y Y Y (by first | (apply hx <;> (first | assumption | omega | exact A4 _ _ | exact Bd _ | exact A7 _ _ | exact Bi _ | rfl | (simp; omega))) | fail) ?_ | fail)
      | refine r_q hG Y Y Y ?_))
    | (show AL _ _ _ _ _ _ _ _; first | refine Bk Y Y Y ?_ | (refine Ar ?_; first | show AW _ _ _ _ _ _ | show ∃ x', _ < _ ∧ _)) | (show AW _ _ (.seq _ _) _ _ _; refine Ai ?_; intro Q1) | (show AW _ _ (.region _ _ false) _ _ _; refine Ad ?_; intro O1) | (show AW _ _ (.cond _ _ _) _ _ _; first | refine Ao Y ?_ | refine Ap Y ?_ | refine Ba Y (fun h => ?_) (fun h => ?_)) | (show AW _ _ (.skip) _ _ _; refine Aj ?_; first | show AW _ _ _ _ _ _ | show ∃ x', _ < _ ∧ _) | (show AW _ _ (.block _ _) _ _ _; refine Ae ?_; intro Q1) | (show AW _ _ (.exit _) _ _ _; refine Al ?_; first | show AW _ _ _ _ _ _ | show ∃ x', _ < _ ∧ _) | (show AW _ _ (.ret) _ _ _; refine Aw ?_; try dsimp only [Ax, Aa, A2, Af]) | fail)
        exact ⟨⟨i + 1, by omega, by rw [hg2]; exact e⟩, by dsimp only; omega, (by repeat (first | exact .nil _ | refine .cons rfl ?_)), .refl _⟩
  · rw [List.drop_eq_nil_of_le (by omega)] at e
    repeat' (first
    | ((show AL _ _ _ _ _ _ _ _; refine Ag Y ?_); (first
      | refine Aq hG Y Y ?_
      | refine A5 hG Y Y ?_
      | (show AOp _ _ ⟨_, .call ⟨.builtin .len, _, _⟩, _, _, _, _⟩ _ _ _; first | refine Bh hG Y Y Y Y ?_ | refine Bq hG Y Y Y Y Y ?_)
      | (show AOp _ _ ⟨_, .binOp .add _ _ _ _, _, _, _, _⟩ _ _ _; first | refine Ac hG Y Y Y Y Y (by omega) ?_ | refine Ac (m := 1) hG Y Y Y Y Y (by omega) ?_ | refine Ab hG Y Y Y Y Y (by omega) ?_)
      | (show AOp _ _ ⟨_, .binOp .sub _ _ _ _, _, _, _, _⟩ _ _ _; first | refine Av hG Y Y Y Y (by omega) ?_ | refine Av (m := 1) hG Y Y Y Y (by omega) ?_ | refine Cg (m := 1) hG Y Y Y Y (by omega) ?_ | refine Ab hG Y Y Y Y Y (by omega) ?_)
      | (show AOp _ _ ⟨_, .binOp _ _ _ _ _, _, _, _, _⟩ _ _ _; first | refine At hG Y Y Y Y Y (by omega) ?_ | refine Au hG Y Y Y Y Y (by omega) ?_ | (refine Am hG Y Y Y Y Y (fun h => ?_) (fun h => ?_)))
      | (show AOp _ _ ⟨_, .load _ _, _, _, _, _⟩ _ _ _; first | refine Ak (α := UInt16) 0 hG Y Y Y Y (by omega) Y ?_ | refine Ak (α := UInt16) 1 hG Y Y Y Y (by omega) Y ?_ | refine Ay hG Y Y Y ?_ | refine Bg 0 hG Y Y Y Y ?_)
      | (show AOp _ _ ⟨_, .indexAddr _ _ _, _, _, _, _⟩ _ _ _; first | refine A1 hG Y Y Y Y Y Y Y (by omega) ?_ | refine A0 hG Y Y Y Y Y Y Y (by omega) ?_ | refine Az hG Y Y Y Y Y Y Y (by omega) ?_ | refine A9 hG Y Y ?_)
      | refine A6 hG Y Y Y ?_
      | refine Bs hG Y Y Y ?_
      | refine r_q hG Y Y Y ?_))
    | (show AL _ _ _ _ _ _ _ _; first | refine Bk Y Y Y ?_ | (refine Ar ?_; first | show AW _ _ _ _ _ _ | show ∃ x', _ < _ ∧ _)) | (show AW _ _ (.seq _ _) _ _ _; refine Ai ?_; intro Q1) | (show AW _ _ (.region _ _ false) _ _ _; refine Ad ?_; intro O1) | (show AW _ _ (.cond _ _ _) _ _ _; first | refine Ao Y ?_ | refine Ap Y ?_ | refine Ba Y (fun h => ?_) (fun h => ?_)) | (show AW _ _ (.skip) _ _ _; refine Aj ?_; first | show AW _ _ _ _ _ _ | show ∃ x', _ < _ ∧ _) | (show AW _ _ (.block _ _) _ _ _; refine Ae ?_; intro Q1) | (show AW _ _ (.exit _) _ _ _; refine Al ?_; first | show AW _ _ _ _ _ _ | show ∃ x', _ < _ ∧ _) | (show AW _ _ (.ret) _ _ _; refine Aw ?_; try dsimp only [Ax, Aa, A2, Af]) | fail)
    exact Bu (Bm rfl Bl) (.eq (by rw [← e]; rfl)) rfl
end Go.Proofs.Ytmckbfdklcmogaa
namespace Go.Proofs.Ytmckbfdklcmogaa
open Go.Ts
set_option linter.unusedSimpArgs false
set_option linter.unusedVariables false
set_option linter.unnecessarySimpa false
attribute [local irreducible] Go.Ts.AW Go.Ts.AOps Go.Ts.AL Go.Ts.AOp Go.Ts.ACalls Go.Ts.DL Go.Ts.DQ0 Go.Ts.EL
theorem insN_split (x : Nat) : ∀ (l : List Nat) (k : Nat), k ≤ l.length → (∀ j, j < k → l.getD j default < x) → (k < l.length → ¬ l.getD k default < x) → insN x l = l.take k ++ [x] ++ l.drop k
  | [], k, h, _, _ => by simp at h; subst h; rfl
  | y :: l, 0, _, _, h => by
    have := h (by simp)
    rw [insN, if_neg (by simpa [List.getD] using this)]; rfl
  | y :: l, k + 1, h, h1, h2 => by
    have h3 := h1 0 (by omega)
    rw [insN, if_pos (by simpa [List.getD] using h3), insN_split x l k (by simpa using h) (fun j hj => by simpa [List.getD] using h1 (j + 1) (by omega)) (fun hk => by simpa [List.getD] using h2 (by simpa using hk))]
    rfl
def atD (l : List OB) (d : Nat) (o : OB) : Bool := decide (0 < (B8 o.id).length) && decide ((B8 o.id).length - 1 = d) && chk l (B8 o.id)
def rowD (l : List OB) (d i : Nat) : List Nat := isort (((l.take i).filter (atD l d)).map (·.id))
theorem rowD_succ {l : List OB} {d i : Nat} (h : i < l.length) : rowD l d (i + 1) = if atD l d (l.getD i default) = true then insN (l.getD i default).id (rowD l d i) else rowD l d i := by
  unfold rowD
  rw [filter_snoc h]
  split
  · simp [isort]
  · rw [List.append_nil]
def refL (l : List OB) : Nat → List Nat
  | 0 => []
  | d + 1 => refL l d ++ rowD l d l.length
structure RhX (l : List OB) where
  d : Nat
  k : Nat
  hd : d ≤ 7
  hl : (refL l d).length ≤ d * 31
structure RhY (l : List OB) (d : Nat) where
  i : Nat
  hi : i ≤ l.length
  hl : (rowD l d i).length ≤ i
structure RhZ (row : List Nat) (v : Nat) where
  k : Nat
  hk : k ≤ row.length
  hn : ∀ j, j < k → row.getD j default < v
theorem ix_self {l : List Nat} (hn : l.Nodup) : ∀ {i : Nat} (b : Nat), i < l.length → ixR (l.getD i default) l b = ((b + i : Nat) : Int) := by
  induction l with
  | nil => intro i b h; simp at h
  | cons x l ih =>
    intro i b h
    obtain ⟨h1, h2⟩ := List.nodup_cons.1 hn
    cases i with
    | zero => simp [ixR, List.getD]
    | succ i =>
      have hi : i < l.length := by simpa using h
      have e : (x :: l).getD (i + 1) default = l.getD i default := by simp [List.getD]
      rw [e, ixR, if_neg, ih h2 (b + 1) hi, show b + 1 + i = b + (i + 1) by omega]
      rintro rfl
      exact h1 (by simp [List.getD, hi])
theorem ix_ob {l : List OB} (hn : (l.map (·.id)).Nodup) {i : Nat} (h : i < l.length) : ixR (l.getD i default).id (l.map (·.id)) 0 = (i : Int) := by
  have := ix_self hn (i := i) 0 (by simpa using h)
  rw [Nat.zero_add] at this
  rw [← this]
  congr 1
  simp [List.getD, h]
set_option maxHeartbeats 4000000 in
theorem ref_Reach {l : List OB} (hl : l.length ≤ 31) (hn : (l.map (·.id)).Nodup) : Ts.Pure Try.prog 11 [.sl 13 .no (l.map oT)] (.sl 1 .no ((refL l 7).map mT)) := by
  intro off
  refine Br (N := 92) (rs := [.tmp 2]) hG Try.func11 rfl rfl rfl rfl rfl ?_
  repeat' (first
    | ((first | (show AL _ _ _ _ _ _ _ _; refine Ag Y ?_) | (show DL _ _ _ _ _ _ _; refine' A8 Y Y (fun K kk => ?_) ?_; try (show Go.Ts.T; rotate_left))); (first
      | refine Aq hG Y Y ?_
      | refine A5 hG Y Y ?_
      | (show AOp _ _ ⟨_, .call ⟨.builtin .len, _, _⟩, _, _, _, _⟩ _ _ _; first | refine Bh hG Y Y Y Y ?_ | refine Bq hG Y Y Y Y Y ?_)
      | (show AOp _ _ ⟨_, .binOp .add _ _ _ _, _, _, _, _⟩ _ _ _; first | refine Ac hG Y Y Y Y Y (by omega) ?_ | refine Ac (m := 1) hG Y Y Y Y Y (by omega) ?_ | refine Ab hG Y Y Y Y Y (by omega) ?_)
      | (show AOp _ _ ⟨_, .binOp _ _ _ _ _, _, _, _, _⟩ _ _ _; first | refine At hG Y Y Y Y Y (by omega) ?_ | refine Au hG Y Y Y Y Y (by omega) ?_ | ((fail_if_success have := kk); refine Am hG Y Y Y Y Y (fun h => ?_) (fun h => ?_)))
      | (show AOp _ _ ⟨_, .load _ _, _, _, _, _⟩ _ _ _; first | refine Ak (α := UInt16) 0 hG Y Y Y Y (by omega) Y ?_ | refine Ak (α := UInt16) 1 hG Y Y Y Y (by omega) Y ?_ | refine Ay hG Y Y Y ?_ | refine Bg 0 hG Y Y Y Y ?_)
      | (show AOp _ _ ⟨_, .indexAddr _ _ _, _, _, _, _⟩ _ _ _; first | refine A1 hG Y Y Y Y Y Y Y (by omega) ?_ | refine A0 hG Y Y Y Y Y Y Y (by omega) ?_ | refine Az hG Y Y Y Y Y Y Y (by omega) ?_ | refine A9 hG Y Y ?_)
      | (show AOp _ _ ⟨_, .slice _ _ _ _ _, _, _, _, _⟩ _ _ _; first | refine B9 hG Y Y Y Y Y Y Y (by omega) ?_ | refine Ca hG Y Y Y Y Y Y Y (by omega) ?_ | refine Cm hG Y Y Y Y Y Y Y (by omega) ?_ | refine Cl hG Y Y Y Y Y Y Y (by omega) ?_ | refine Ck hG Y Y Y Y Y Y Y Y Y Y ?_ | refine r_sl hG Y Y ?_)
      | refine A6 hG Y Y Y ?_
      | (show AOp _ _ ⟨_, .buildSlice _ _ _, _, _, _, _⟩ _ _ _; first | refine r_mk (sz := 1) hG Y Y Y Y Y Y Y ?_)
      | (show AOp _ _ ⟨_, .call ⟨.builtin .append, _, _⟩, _, _, _, _⟩ _ _ _; first | refine Bo (sz := 1) (xs := []) hG Y Y Y Y Y Y Y ⟨_, Y⟩ Y Y Y Y Y Y Y (by first | omega | (simp; omega)) (fun k => ?_) | refine Bp 0 hG Y Y Y Y Y Y Y ⟨_, Y⟩ Y Y Y Y Y (by first | omega | (simp only [List.length_append, List.length_cons, List.length_nil]; omega)) (fun k => ?_) | fail)
      | refine r_q hG Y Y Y ?_); try exact kk)
    | (show AL _ _ _ _ _ _ _ _; first | refine Bk Y Y Y ?_ | (refine Ar ?_; first | show AW _ _ _ _ _ _ | show ∃ x', _ < _ ∧ _)) | (show AW _ _ (.seq _ _) _ _ _; refine Ai ?_; intro Q1) | (show AW _ _ (.region _ _ false) _ _ _; refine Ad ?_; intro O1) | (show AW _ _ (.cond _ _ _) _ _ _; first | refine Ao Y ?_ | refine Ap Y ?_ | refine Ba Y (fun h => ?_) (fun h => ?_)) | (show AW _ _ (.skip) _ _ _; refine Aj ?_; first | show AW _ _ _ _ _ _ | show ∃ x', _ < _ ∧ _) | (show AW _ _ (.block _ _) _ _ _; refine Ae ?_; intro Q1) | (show AW _ _ (.exit _) _ _ _; refine Al ?_; first | show AW _ _ _ _ _ _ | show ∃ x', _ < _ ∧ _) | (show AW _ _ (.ret) _ _ _; refine Aw ?_; try dsimp only [Ax, Aa, A2, Af])
    | (show DL _ _ _ _ _ _ _; refine Bx Y Y (fun K kt kf => Am hG Y Y Y Y Y kt kf) (fun h => ?_) (fun h => ?_))
    | (show DL _ _ _ _ _ _ _; refine By Y Y Y ?_) | (show DL _ _ _ _ _ _ _; refine Be ?_; first | show AW _ _ _ _ _ _ | show ∃ x', _ < _ ∧ _) | (show AW _ _ (.region _ _ true) _ _ _; refine A3 mix (by kernel_rfl) ?_; intro O1) | fail)
  refine aw_tok0 3 1 rfl rfl rfl rfl (fun k0 => ?_)
  refine Ch (X := RhX l) (fun x => [(0, .sl 13 .no (l.map oT)), (3, .sl 1 (.tok x.k) ((refL l x.d).map mT)), (4, .int .i64 (x.d : Int))]) (fun x => ⟨[], [x.k], off, none⟩) (fun x => 7 - x.d) ⟨0, k0, by omega, by simp [refL]⟩ (by repeat (first | exact .nil _ | refine .cons rfl ?_)) (.refl _) ?_
  rintro ⟨d, k0, hd, hol⟩
  dsimp only at hol ⊢
  by_cases hd7 : d ≤ 6
  · have hst : refL l (d + 1) = refL l d ++ rowD l d l.length := rfl
    generalize refL l d = out at *
    repeat' (first
    | ((first | (show AL _ _ _ _ _ _ _ _; refine Ag Y ?_) | (show DL _ _ _ _ _ _ _; refine' A8 Y Y (fun K kk => ?_) ?_; try (show Go.Ts.T; rotate_left))); (first
      | refine Aq hG Y Y ?_
      | refine A5 hG Y Y ?_
      | (show AOp _ _ ⟨_, .call ⟨.builtin .len, _, _⟩, _, _, _, _⟩ _ _ _; first | refine Bh hG Y Y Y Y ?_ | refine Bq hG Y Y Y Y Y ?_)
      | (show AOp _ _ ⟨_, .binOp .add _ _ _ _, _, _, _, _⟩ _ _ _; first | refine Ac hG Y Y Y Y Y (by omega) ?_ | refine Ac (m := 1) hG Y Y Y Y Y (by omega) ?_ | refine Ab hG Y Y Y Y Y (by omega) ?_)
      | (show AOp _ _ ⟨_, .binOp _ _ _ _ _, _, _, _, _⟩ _ _ _; first | refine At hG Y Y Y Y Y (by omega) ?_ | refine Au hG Y Y Y Y Y (by omega) ?_ | ((fail_if_success have := kk); refine Am hG Y Y Y Y Y (fun h => ?_) (fun h => ?_)))
      | (show AOp _ _ ⟨_, .load _ _, _, _, _, _⟩ _ _ _; first | refine Ak (α := UInt16) 0 hG Y Y Y Y (by omega) Y ?_ | refine Ak (α := UInt16) 1 hG Y Y Y Y (by omega) Y ?_ | refine Ay hG Y Y Y ?_ | refine Bg 0 hG Y Y Y Y ?_)
      | (show AOp _ _ ⟨_, .indexAddr _ _ _, _, _, _, _⟩ _ _ _; first | refine A1 hG Y Y Y Y Y Y Y (by omega) ?_ | refine A0 hG Y Y Y Y Y Y Y (by omega) ?_ | refine Az hG Y Y Y Y Y Y Y (by omega) ?_ | refine A9 hG Y Y ?_)
      | (show AOp _ _ ⟨_, .slice _ _ _ _ _, _, _, _, _⟩ _ _ _; first | refine B9 hG Y Y Y Y Y Y Y (by omega) ?_ | refine Ca hG Y Y Y Y Y Y Y (by omega) ?_ | refine Cm hG Y Y Y Y Y Y Y (by omega) ?_ | refine Cl hG Y Y Y Y Y Y Y (by omega) ?_ | refine Ck hG Y Y Y Y Y Y Y Y Y Y ?_ | refine r_sl hG Y Y ?_)
      | refine A6 hG Y Y Y ?_
      | (show AOp _ _ ⟨_, .buildSlice _ _ _, _, _, _, _⟩ _ _ _; first | refine r_mk (sz := 1) hG Y Y Y Y Y Y Y ?_)
      | (show AOp _ _ ⟨_, .call ⟨.builtin .append, _, _⟩, _, _, _, _⟩ _ _ _; first | refine Bo (sz := 1) (xs := []) hG Y Y Y Y Y Y Y ⟨_, Y⟩ Y Y Y Y Y Y Y (by first | omega | (simp; omega)) (fun k => ?_) | refine Bp 0 hG Y Y Y Y Y Y Y ⟨_, Y⟩ Y Y Y Y Y (by first | omega | (simp only [List.length_append, List.length_cons, List.length_nil]; omega)) (fun k => ?_) | fail)
      | refine r_q hG Y Y Y ?_); try exact kk)
    | (show AL _ _ _ _ _ _ _ _; first | refine Bk Y Y Y ?_ | (refine Ar ?_; first | show AW _ _ _ _ _ _ | show ∃ x', _ < _ ∧ _)) | (show AW _ _ (.seq _ _) _ _ _; refine Ai ?_; intro Q1) | (show AW _ _ (.region _ _ false) _ _ _; refine Ad ?_; intro O1) | (show AW _ _ (.cond _ _ _) _ _ _; first | refine Ao Y ?_ | refine Ap Y ?_ | refine Ba Y (fun h => ?_) (fun h => ?_)) | (show AW _ _ (.skip) _ _ _; refine Aj ?_; first | show AW _ _ _ _ _ _ | show ∃ x', _ < _ ∧ _) | (show AW _ _ (.block _ _) _ _ _; refine Ae ?_; intro Q1) | (show AW _ _ (.exit _) _ _ _; refine Al ?_; first | show AW _ _ _ _ _ _ | show ∃ x', _ < _ ∧ _) | (show AW _ _ (.ret) _ _ _; refine Aw ?_; try dsimp only [Ax, Aa, A2, Af])
    | (show DL _ _ _ _ _ _ _; refine Bx Y Y (fun K kt kf => Am hG Y Y Y Y Y kt kf) (fun h => ?_) (fun h => ?_))
    | (show DL _ _ _ _ _ _ _; refine By Y Y Y ?_) | (show DL _ _ _ _ _ _ _; refine Be ?_; first | show AW _ _ _ _ _ _ | show ∃ x', _ < _ ∧ _) | (show AW _ _ (.region _ _ true) _ _ _; refine A3 mix (by kernel_rfl) ?_; intro O1) | fail)
    refine Ch (X := RhY l d) (fun x => [(0, .sl 13 .no (l.map oT)), (3, .sl 1 (.tok k0) (out.map mT)), (4, .int .i64 (d : Int)), (5, .sl 1 .no ((rowD l d x.i).map mT)), (6, .int .i64 (x.i : Int))]) (fun x => ⟨[], [k0], off, none⟩) (fun x => l.length - x.i) ⟨0, Nat.zero_le _, by simp [rowD, isort]⟩ (.cons rfl (.cons rfl (.cons rfl (.consW rfl (.nil 1) (.cons rfl (.nil _)))))) (.refl _) ?_
    rintro ⟨i, hi, hrl⟩
    dsimp only at hrl ⊢
    by_cases hil : i < l.length
    · have hrs := rowD_succ (d := d) hil
      have hid := (l.getD i default).hid
      have hfi := ref_find (l := l) (v := (l.getD i default).id) hl (ix_ob hn hil)
      have hpl := pathL_len (l.getD i default).id
      unfold atD at hrs
      generalize rowD l d i = row at *
      by_cases c1 : 0 < (B8 (l.getD i default).id).length
      · have hM := ref_May hid (decide_eq_true c1)
        have hD := ref_Depth hid c1
        rw [decide_eq_true c1, Bool.true_and] at hrs
        by_cases c2 : (B8 (l.getD i default).id).length - 1 = d
        · rw [decide_eq_true c2, Bool.true_and] at hrs
          rw [c2] at hD
          obtain ⟨b, hb⟩ : ∃ b, chk l (B8 (l.getD i default).id) = b := ⟨_, rfl⟩
          have hR := ref_reached hl hid c1 hb
          rw [hb] at hrs
          cases b with
          | true =>
            rw [if_pos rfl] at hrs
            repeat' (first
    | ((first | (show AL _ _ _ _ _ _ _ _; refine Ag Y ?_) | (show DL _ _ _ _ _ _ _; refine' A8 Y Y (fun K kk => ?_) ?_; try (show Go.Ts.T; rotate_left))); (first
      | refine Aq hG Y Y ?_
      | refine A5 hG Y Y ?_
      | (show AOp _ _ ⟨_, .call ⟨.builtin .len, _, _⟩, _, _, _, _⟩ _ _ _; first | refine Bh hG Y Y Y Y ?_ | refine Bq hG Y Y Y Y Y ?_)
      | (show AOp _ _ ⟨_, .binOp .add _ _ _ _, _, _, _, _⟩ _ _ _; first | refine Ac hG Y Y Y Y Y (by omega) ?_ | refine Ac (m := 1) hG Y Y Y Y Y (by omega) ?_ | refine Ab hG Y Y Y Y Y (by omega) ?_)
      | (show AOp _ _ ⟨_, .binOp _ _ _ _ _, _, _, _, _⟩ _ _ _; first | refine At hG Y Y Y Y Y (by omega) ?_ | refine Au hG Y Y Y Y Y (by omega) ?_ | ((fail_if_success have := kk); refine Am hG Y Y Y Y Y (fun h => ?_) (fun h => ?_)))
      | (show AOp _ _ ⟨_, .load _ _, _, _, _, _⟩ _ _ _; first | refine Ak (α := UInt16) 0 hG Y Y Y Y (by omega) Y ?_ | refine Ak (α := UInt16) 1 hG Y Y Y Y (by omega) Y ?_ | refine Ay hG Y Y Y ?_ | refine Bg 0 hG Y Y Y Y ?_)
      | (show AOp _ _ ⟨_, .indexAddr _ _ _, _, _, _, _⟩ _ _ _; first | refine A1 hG Y Y Y Y Y Y Y (by omega) ?_ | refine A0 hG Y Y Y Y Y Y Y (by omega) ?_ | refine Az hG Y Y Y Y Y Y Y (by omega) ?_ | refine A9 hG Y Y ?_)
      | (show AOp _ _ ⟨_, .slice _ _ _ _ _, _, _, _, _⟩ _ _ _; first | refine B9 hG Y Y Y Y Y Y Y (by omega) ?_ | refine Ca hG Y Y Y Y Y Y Y (by omega) ?_ | refine Cm hG Y Y Y Y Y Y Y (by omega) ?_ | refine Cl hG Y Y Y Y Y Y Y (by omega) ?_ | refine Ck hG Y Y Y Y Y Y Y Y Y Y ?_ | refine r_sl hG Y Y ?_)
      | refine A6 hG Y Y Y ?_
      | (show AOp _ _ ⟨_, .buildSlice _ _ _, _, _, _, _⟩ _ _ _; first | refine r_mk (sz := 1) hG Y Y Y Y Y Y Y ?_)
      | (show AOp _ _ ⟨_, .call ⟨.builtin .append, _, _⟩, _, _, _, _⟩ _ _ _; first | refine Bo (sz := 1) (xs := []) hG Y Y Y Y Y Y Y ⟨_, Y⟩ Y Y Y Y Y Y Y (by first | omega | (simp; omega)) (fun k => ?_) | refine Bp 0 hG Y Y Y Y Y Y Y ⟨_, Y⟩ Y Y Y Y Y (by first | omega | (simp only [List.length_append, List.length_cons, List.length_nil]; omega)) (fun k => ?_) | fail)
      | (show AOp _ _ ⟨_, .call ⟨.value _, _, _⟩, _, _, _, _⟩ _ _ _; first | refine Bn Y Y Y Y Y (by first | (apply hM <;> (first | assumption | omega | exact A4 _ _ | exact Bd _ | exact A7 _ _ | exact Bi _ | rfl | (simp; omega))) | fail) ?_ | refine Bn Y Y Y Y Y (by first | (apply hD <;> (first | assumption | omega | exact A4 _ _ | exact Bd _ | exact A7 _ _ | exact Bi _ | rfl | (simp; omega))) | fail) ?_ | refine Bn Y Y Y Y Y (by first | (apply hR <;> (first | assumption | omega | exact A4 _ _ | exact Bd _ | exact A7 _ _ | exact Bi _ | rfl | (simp; omega))) | fail) ?_ | refine Bn Y Y Y Y Y (by first | (apply hfi <;> (first | assumption | omega | exact A4 _ _ | exact Bd _ | exact A7 _ _ | exact Bi _ | rfl | (simp; omega))) | fail) ?_ | fail)
      | refine r_q hG Y Y Y ?_); try exact kk)
    | (show AL _ _ _ _ _ _ _ _; first | refine Bk Y Y Y ?_ | (refine Ar ?_; first | show AW _ _ _ _ _ _ | show ∃ x', _ < _ ∧ _)) | (show AW _ _ (.seq _ _) _ _ _; refine Ai ?_; intro Q1) | (show AW _ _ (.region _ _ false) _ _ _; refine Ad ?_; intro O1) | (show AW _ _ (.cond _ _ _) _ _ _; first | refine Ao Y ?_ | refine Ap Y ?_ | refine Ba Y (fun h => ?_) (fun h => ?_)) | (show AW _ _ (.skip) _ _ _; refine Aj ?_; first | show AW _ _ _ _ _ _ | show ∃ x', _ < _ ∧ _) | (show AW _ _ (.block _ _) _ _ _; refine Ae ?_; intro Q1) | (show AW _ _ (.exit _) _ _ _; refine Al ?_; first | show AW _ _ _ _ _ _ | show ∃ x', _ < _ ∧ _) | (show AW _ _ (.ret) _ _ _; refine Aw ?_; try dsimp only [Ax, Aa, A2, Af])
    | (show DL _ _ _ _ _ _ _; refine Bx Y Y (fun K kt kf => Am hG Y Y Y Y Y kt kf) (fun h => ?_) (fun h => ?_))
    | (show DL _ _ _ _ _ _ _; refine By Y Y Y ?_) | (show DL _ _ _ _ _ _ _; refine Be ?_; first | show AW _ _ _ _ _ _ | show ∃ x', _ < _ ∧ _) | (show AW _ _ (.region _ _ true) _ _ _; refine A3 mix (by kernel_rfl) ?_; intro O1) | fail)
            refine Ch (X := RhZ row (l.getD i default).id) (fun x => [(0, .sl 13 .no (l.map oT)), (3, .sl 1 (.tok k0) (out.map mT)), (4, .int .i64 (d : Int)), (5, .sl 1 .no (row.map mT)), (6, .int .i64 (i : Int)), (7, .int .i64 (x.k : Int))]) (fun x => ⟨[], [k0], off, none⟩) (fun x => row.length - x.k) ⟨0, Nat.zero_le _, fun j hj => by omega⟩ (by repeat (first | exact .nil _ | refine .cons rfl ?_)) (.refl _) ?_
            rintro ⟨k, hk, hlt⟩
            dsimp only
            by_cases e1 : k < row.length
            · by_cases e2 : ((row.getD k default : Nat) : Int) < (((l.getD i default).id : Nat) : Int)
              · repeat' (first
    | ((first | (show AL _ _ _ _ _ _ _ _; refine Ag Y ?_) | (show DL _ _ _ _ _ _ _; refine' A8 Y Y (fun K kk => ?_) ?_; try (show Go.Ts.T; rotate_left))); (first
      | refine Aq hG Y Y ?_
      | refine A5 hG Y Y ?_
      | (show AOp _ _ ⟨_, .call ⟨.builtin .len, _, _⟩, _, _, _, _⟩ _ _ _; first | refine Bh hG Y Y Y Y ?_ | refine Bq hG Y Y Y Y Y ?_)
      | (show AOp _ _ ⟨_, .binOp .add _ _ _ _, _, _, _, _⟩ _ _ _; first | refine Ac hG Y Y Y Y Y (by omega) ?_ | refine Ac (m := 1) hG Y Y Y Y Y (by omega) ?_ | refine Ab hG Y Y Y Y Y (by omega) ?_)
      | (show AOp _ _ ⟨_, .binOp _ _ _ _ _, _, _, _, _⟩ _ _ _; first | refine At hG Y Y Y Y Y (by omega) ?_ | refine Au hG Y Y Y Y Y (by omega) ?_ | ((fail_if_success have := kk); refine Am hG Y Y Y Y Y (fun h => ?_) (fun h => ?_)))
      | (show AOp _ _ ⟨_, .load _ _, _, _, _, _⟩ _ _ _; first | refine Ak (α := UInt16) 0 hG Y Y Y Y (by omega) Y ?_ | refine Ak (α := UInt16) 1 hG Y Y Y Y (by omega) Y ?_ | refine Ay hG Y Y Y ?_ | refine Bg 0 hG Y Y Y Y ?_)
      | (show AOp _ _ ⟨_, .indexAddr _ _ _, _, _, _, _⟩ _ _ _; first | refine A1 hG Y Y Y Y Y Y Y (by omega) ?_ | refine A0 hG Y Y Y Y Y Y Y (by omega) ?_ | refine Az hG Y Y Y Y Y Y Y (by omega) ?_ | refine A9 hG Y Y ?_)
      | (show AOp _ _ ⟨_, .slice _ _ _ _ _, _, _, _, _⟩ _ _ _; first | refine B9 hG Y Y Y Y Y Y Y (by omega) ?_ | refine Ca hG Y Y Y Y Y Y Y (by omega) ?_ | refine Cm hG Y Y Y Y Y Y Y (by omega) ?_ | refine Cl hG Y Y Y Y Y Y Y (by omega) ?_ | refine Ck hG Y Y Y Y Y Y Y Y Y Y ?_ | refine r_sl hG Y Y ?_)
      | refine A6 hG Y Y Y ?_
      | (show AOp _ _ ⟨_, .buildSlice _ _ _, _, _, _, _⟩ _ _ _; first | refine r_mk (sz := 1) hG Y Y Y Y Y Y Y ?_)
      | (show AOp _ _ ⟨_, .call ⟨.builtin .append, _, _⟩, _, _, _, _⟩ _ _ _; first | refine Bo (sz := 1) (xs := []) hG Y Y Y Y Y Y Y ⟨_, Y⟩ Y Y Y Y Y Y Y (by first | omega | (simp; omega)) (fun k => ?_) | refine Bp 0 hG Y Y Y Y Y Y Y ⟨_, Y⟩ Y Y Y Y Y (by first | omega | (simp only [List.length_append, List.length_cons, List.length_nil]; omega)) (fun k => ?_) | fail)
      | refine r_q hG Y Y Y ?_); try exact kk)
    | (show AL _ _ _ _ _ _ _ _; first | refine Bk Y Y Y ?_ | (refine Ar ?_; first | show AW _ _ _ _ _ _ | show ∃ x', _ < _ ∧ _)) | (show AW _ _ (.seq _ _) _ _ _; refine Ai ?_; intro Q1) | (show AW _ _ (.region _ _ false) _ _ _; refine Ad ?_; intro O1) | (show AW _ _ (.cond _ _ _) _ _ _; first | refine Ao Y ?_ | refine Ap Y ?_ | refine Ba Y (fun h => ?_) (fun h => ?_)) | (show AW _ _ (.skip) _ _ _; refine Aj ?_; first | show AW _ _ _ _ _ _ | show ∃ x', _ < _ ∧ _) | (show AW _ _ (.block _ _) _ _ _; refine Ae ?_; intro Q1) | (show AW _ _ (.exit _) _ _ _; refine Al ?_; first | show AW _ _ _ _ _ _ | show ∃ x', _ < _ ∧ _) | (show AW _ _ (.ret) _ _ _; refine Aw ?_; try dsimp only [Ax, Aa, A2, Af])
    | (show DL _ _ _ _ _ _ _; refine Bx Y Y (fun K kt kf => Am hG Y Y Y Y Y kt kf) (fun h => ?_) (fun h => ?_))
    | (show DL _ _ _ _ _ _ _; refine By Y Y Y ?_) | (show DL _ _ _ _ _ _ _; refine Be ?_; first | show AW _ _ _ _ _ _ | show ∃ x', _ < _ ∧ _) | (show AW _ _ (.region _ _ true) _ _ _; refine A3 mix (by kernel_rfl) ?_; intro O1) | fail)
                refine ⟨⟨k + 1, by omega, fun j hj => ?_⟩, by dsimp only; omega, (by repeat (first | exact .nil _ | refine .cons rfl ?_)), .refl _⟩
                by_cases hj2 : j < k
                · exact hlt j hj2
                · obtain rfl : j = k := by omega
                  omega
              · have hsp := insN_split _ row k hk hlt (fun _ => by omega)
                rw [hsp] at hrs
                have n1 : (row.take k).length ≤ 31 := by rw [List.length_take]; omega
                have n2 : (row.drop k).length ≤ 31 := by rw [List.length_drop]; omega
                repeat' (first
    | ((first | (show AL _ _ _ _ _ _ _ _; refine Ag Y ?_) | (show DL _ _ _ _ _ _ _; refine' A8 Y Y (fun K kk => ?_) ?_; try (show Go.Ts.T; rotate_left))); (first
      | refine Aq hG Y Y ?_
      | refine A5 hG Y Y ?_
      | (show AOp _ _ ⟨_, .call ⟨.builtin .len, _, _⟩, _, _, _, _⟩ _ _ _; first | refine Bh hG Y Y Y Y ?_ | refine Bq hG Y Y Y Y Y ?_)
      | (show AOp _ _ ⟨_, .binOp .add _ _ _ _, _, _, _, _⟩ _ _ _; first | refine Ac hG Y Y Y Y Y (by omega) ?_ | refine Ac (m := 1) hG Y Y Y Y Y (by omega) ?_ | refine Ab hG Y Y Y Y Y (by omega) ?_)
      | (show AOp _ _ ⟨_, .binOp _ _ _ _ _, _, _, _, _⟩ _ _ _; first | refine At hG Y Y Y Y Y (by omega) ?_ | refine Au hG Y Y Y Y Y (by omega) ?_ | ((fail_if_success have := kk); refine Am hG Y Y Y Y Y (fun h => ?_) (fun h => ?_)))
      | (show AOp _ _ ⟨_, .load _ _, _, _, _, _⟩ _ _ _; first | refine Ak (α := UInt16) 0 hG Y Y Y Y (by omega) Y ?_ | refine Ak (α := UInt16) 1 hG Y Y Y Y (by omega) Y ?_ | refine Ay hG Y Y Y ?_ | refine Bg 0 hG Y Y Y Y ?_)
      | (show AOp _ _ ⟨_, .indexAddr _ _ _, _, _, _, _⟩ _ _ _; first | refine A1 hG Y Y Y Y Y Y Y (by omega) ?_ | refine A0 hG Y Y Y Y Y Y Y (by omega) ?_ | refine Az hG Y Y Y Y Y Y Y (by omega) ?_ | refine A9 hG Y Y ?_)
      | (show AOp _ _ ⟨_, .slice _ _ _ _ _, _, _, _, _⟩ _ _ _; first | refine B9 hG Y Y Y Y Y Y Y (by omega) ?_ | refine Ca hG Y Y Y Y Y Y Y (by omega) ?_ | refine Cm hG Y Y Y Y Y Y Y (by omega) ?_ | refine Cl hG Y Y Y Y Y Y Y (by omega) ?_ | refine Ck hG Y Y Y Y Y Y Y Y Y Y ?_ | refine r_sl hG Y Y ?_)
      | refine A6 hG Y Y Y ?_
      | (show AOp _ _ ⟨_, .buildSlice _ _ _, _, _, _, _⟩ _ _ _; first | refine r_mk (sz := 1) hG Y Y Y Y Y Y Y ?_)
      | (show AOp _ _ ⟨_, .call ⟨.builtin .append, _, _⟩, _, _, _, _⟩ _ _ _; first | refine Bo (sz := 1) (xs := []) hG Y Y Y Y Y Y Y ⟨_, Y⟩ Y Y Y Y Y Y Y (by first | omega | (simp; omega)) (fun k => ?_) | refine Bp 0 hG Y Y Y Y Y Y Y ⟨_, Y⟩ Y Y Y Y Y (by first | omega | (simp only [List.length_append, List.length_cons, List.length_nil]; omega)) (fun k => ?_) | fail)
      | refine r_q hG Y Y Y ?_); try exact kk)
    | (show AL _ _ _ _ _ _ _ _; first | refine Bk Y Y Y ?_ | (refine Ar ?_; first | show AW _ _ _ _ _ _ | show ∃ x', _ < _ ∧ _)) | (show AW _ _ (.seq _ _) _ _ _; refine Ai ?_; intro Q1) | (show AW _ _ (.region _ _ false) _ _ _; (fail_if_success show AW _ _ (.region 13 _ _) _ _ _); refine Ad ?_; intro O1) | (show AW _ _ (.cond _ _ _) _ _ _; first | refine Ao Y ?_ | refine Ap Y ?_ | refine Ba Y (fun h => ?_) (fun h => ?_)) | (show AW _ _ (.skip) _ _ _; refine Aj ?_; first | show AW _ _ _ _ _ _ | show ∃ x', _ < _ ∧ _) | (show AW _ _ (.block _ _) _ _ _; refine Ae ?_; intro Q1) | (show AW _ _ (.exit _) _ _ _; refine Al ?_; first | show AW _ _ _ _ _ _ | show ∃ x', _ < _ ∧ _) | (show AW _ _ (.ret) _ _ _; refine Aw ?_; try dsimp only [Ax, Aa, A2, Af])
    | (show DL _ _ _ _ _ _ _; refine Bx Y Y (fun K kt kf => Am hG Y Y Y Y Y kt kf) (fun h => ?_) (fun h => ?_))
    | (show DL _ _ _ _ _ _ _; refine By Y Y Y ?_) | (show DL _ _ _ _ _ _ _; refine Be ?_; first | show AW _ _ _ _ _ _ | show ∃ x', _ < _ ∧ _) | (show AW _ _ (.region _ _ true) _ _ _; (fail_if_success show AW _ _ (.region 13 _ _) _ _ _); refine A3 mix (by kernel_rfl) ?_; intro O1) | fail)
                refine aw_drawE' (m := 16) [4, 11, 15] (fun σ => ∃ R, σ = ⟨[], R, off, none⟩) mix rfl (by repeat (first | exact Sp.zero _ | apply Sp.succ)) ?_; intro O1 F1 Z1 Q2
                repeat' (first
    | (refine' dq_cons Y Y Y (fun σ hσ K kk => ?_) ?_; (try (show Go.Ts.T; rotate_left)); (obtain ⟨R, rfl⟩ := hσ); (first
      | refine Aq hG Y Y ?_
      | refine A5 hG Y Y ?_
      | (show AOp _ _ ⟨_, .call ⟨.builtin .len, _, _⟩, _, _, _, _⟩ _ _ _; first | refine Bh hG Y Y Y Y ?_ | refine Bq hG Y Y Y Y Y ?_)
      | (show AOp _ _ ⟨_, .binOp .add _ _ _ _, _, _, _, _⟩ _ _ _; first | refine Ac hG Y Y Y Y Y (by omega) ?_ | refine Ac (m := 1) hG Y Y Y Y Y (by omega) ?_ | refine Ab hG Y Y Y Y Y (by omega) ?_)
      | (show AOp _ _ ⟨_, .binOp _ _ _ _ _, _, _, _, _⟩ _ _ _; first | refine At hG Y Y Y Y Y (by omega) ?_ | refine Au hG Y Y Y Y Y (by omega) ?_)
      | (show AOp _ _ ⟨_, .load _ _, _, _, _, _⟩ _ _ _; first | refine Ak (α := UInt16) 0 hG Y Y Y Y (by omega) Y ?_ | refine Ak (α := UInt16) 1 hG Y Y Y Y (by omega) Y ?_ | refine Ay hG Y Y Y ?_ | refine Bg 0 hG Y Y Y Y ?_)
      | (show AOp _ _ ⟨_, .indexAddr _ _ _, _, _, _, _⟩ _ _ _; first | refine A1 hG Y Y Y Y Y Y Y (by omega) ?_ | refine A0 hG Y Y Y Y Y Y Y (by omega) ?_ | refine Az hG Y Y Y Y Y Y Y (by omega) ?_ | refine A9 hG Y Y ?_)
      | (show AOp _ _ ⟨_, .slice _ _ _ _ _, _, _, _, _⟩ _ _ _; first | refine B9 hG Y Y Y Y Y Y Y (by omega) ?_ | refine Ca hG Y Y Y Y Y Y Y (by omega) ?_ | refine Cm hG Y Y Y Y Y Y Y (by omega) ?_ | refine Cl hG Y Y Y Y Y Y Y (by omega) ?_ | refine Ck hG Y Y Y Y Y Y Y Y Y Y ?_ | refine r_sl hG Y Y ?_)
      | refine A6 hG Y Y Y ?_
      | (show AOp _ _ ⟨_, .buildSlice _ _ _, _, _, _, _⟩ _ _ _; first | refine r_mk (sz := 1) hG Y Y Y Y Y Y Y ?_)
      | (show AOp _ _ ⟨_, .call ⟨.builtin .append, _, _⟩, _, _, _, _⟩ _ _ _; first | refine Bp 0 (ys := [(l.getD i default).id]) hG Y Y Y Y Y Y Y ⟨_, Y⟩ Y Y Y Y Y (by simp only [List.length_append, List.length_map, List.length_cons, List.length_nil]; omega) (fun k => ?_) | refine Bp 0 (ys := (row.drop k)) hG Y Y Y Y Y Y Y ⟨_, Y⟩ Y Y Y Y Y (by simp only [List.length_append, List.length_map, List.length_cons, List.length_nil]; omega) (fun k => ?_) | refine Bo (sz := 1) (xs := []) hG Y Y Y Y Y Y Y ⟨_, Y⟩ Y Y Y Y Y Y Y (by first | omega | (simp; omega)) (fun k => ?_) | refine Bp 0 hG Y Y Y Y Y Y Y ⟨_, Y⟩ Y Y Y Y Y (by first | omega | (simp only [List.length_append, List.length_cons, List.length_nil]; omega)) (fun k => ?_) | fail)
      | refine r_q hG Y Y Y ?_); exact kk)
    | refine dq_d Y Y Y (fun σ hσ K kt kf => by obtain ⟨R, rfl⟩ := hσ; exact Am hG Y Y Y Y Y kt kf) (fun h => ?_) (fun h => ?_)
    | refine dq_d Y Y Y (fun σ hσ K kt kf => by obtain ⟨R, rfl⟩ := hσ; exact r_str hG Y Y Y Y kt kf) (fun h => ?_) (fun h => ?_)
    | refine dq_s Y Y Y Y ?_ | refine dq_e Y ?_ | (refine dq_nil ?_; show EL _ _ _ _ _ _ _ _ _) | refine el_s ⟨_, Y⟩ Y Y Y Y ?_
    | ((first | refine el_cons ⟨_, Y⟩ Y Y Y (fun K ke => ?_) | refine Cf ⟨_, Y⟩ Y Y Y (fun K ke => ?_)); (first
      | refine Aq hG Y Y ?_
      | refine A5 hG Y Y ?_
      | (show AOp _ _ ⟨_, .call ⟨.builtin .len, _, _⟩, _, _, _, _⟩ _ _ _; first | refine Bh hG Y Y Y Y ?_ | refine Bq hG Y Y Y Y Y ?_)
      | (show AOp _ _ ⟨_, .binOp .add _ _ _ _, _, _, _, _⟩ _ _ _; first | refine Ac hG Y Y Y Y Y (by omega) ?_ | refine Ac (m := 1) hG Y Y Y Y Y (by omega) ?_ | refine Ab hG Y Y Y Y Y (by omega) ?_)
      | (show AOp _ _ ⟨_, .binOp _ _ _ _ _, _, _, _, _⟩ _ _ _; first | refine At hG Y Y Y Y Y (by omega) ?_ | refine Au hG Y Y Y Y Y (by omega) ?_)
      | (show AOp _ _ ⟨_, .load _ _, _, _, _, _⟩ _ _ _; first | refine Ak (α := UInt16) 0 hG Y Y Y Y (by omega) Y ?_ | refine Ak (α := UInt16) 1 hG Y Y Y Y (by omega) Y ?_ | refine Ay hG Y Y Y ?_ | refine Bg 0 hG Y Y Y Y ?_)
      | (show AOp _ _ ⟨_, .indexAddr _ _ _, _, _, _, _⟩ _ _ _; first | refine A1 hG Y Y Y Y Y Y Y (by omega) ?_ | refine A0 hG Y Y Y Y Y Y Y (by omega) ?_ | refine Az hG Y Y Y Y Y Y Y (by omega) ?_ | refine A9 hG Y Y ?_)
      | (show AOp _ _ ⟨_, .slice _ _ _ _ _, _, _, _, _⟩ _ _ _; first | refine B9 hG Y Y Y Y Y Y Y (by omega) ?_ | refine Ca hG Y Y Y Y Y Y Y (by omega) ?_ | refine Cm hG Y Y Y Y Y Y Y (by omega) ?_ | refine Cl hG Y Y Y Y Y Y Y (by omega) ?_ | refine Ck hG Y Y Y Y Y Y Y Y Y Y ?_ | refine r_sl hG Y Y ?_)
      | refine A6 hG Y Y Y ?_
      | (show AOp _ _ ⟨_, .buildSlice _ _ _, _, _, _, _⟩ _ _ _; first | refine r_mk (sz := 1) hG Y Y Y Y Y Y Y ?_)
      | (show AOp _ _ ⟨_, .call ⟨.builtin .append, _, _⟩, _, _, _, _⟩ _ _ _; first | refine Bp 0 (ys := [(l.getD i default).id]) hG Y Y Y Y Y Y Y ⟨_, Y⟩ Y Y Y Y Y (by simp only [List.length_append, List.length_map, List.length_cons, List.length_nil]; omega) (fun k => ?_) | refine Bp 0 (ys := (row.drop k)) hG Y Y Y Y Y Y Y ⟨_, Y⟩ Y Y Y Y Y (by simp only [List.length_append, List.length_map, List.length_cons, List.length_nil]; omega) (fun k => ?_) | refine Bo (sz := 1) (xs := []) hG Y Y Y Y Y Y Y ⟨_, Y⟩ Y Y Y Y Y Y Y (by first | omega | (simp; omega)) (fun k => ?_) | refine Bp 0 hG Y Y Y Y Y Y Y ⟨_, Y⟩ Y Y Y Y Y (by first | omega | (simp only [List.length_append, List.length_cons, List.length_nil]; omega)) (fun k => ?_) | fail)
      | refine r_q hG Y Y Y ?_); refine ke _ _ ?_)
    | (refine el_nil ⟨_, Y⟩ ?_; show AL _ _ _ _ _ _ _ _) | fail)
                repeat' (first
    | ((first | (show AL _ _ _ _ _ _ _ _; refine Ag Y ?_) | (show DL _ _ _ _ _ _ _; refine' A8 Y Y (fun K kk => ?_) ?_; try (show Go.Ts.T; rotate_left))); (first
      | refine Aq hG Y Y ?_
      | refine A5 hG Y Y ?_
      | (show AOp _ _ ⟨_, .call ⟨.builtin .len, _, _⟩, _, _, _, _⟩ _ _ _; first | refine Bh hG Y Y Y Y ?_ | refine Bq hG Y Y Y Y Y ?_)
      | (show AOp _ _ ⟨_, .binOp .add _ _ _ _, _, _, _, _⟩ _ _ _; first | refine Ac hG Y Y Y Y Y (by omega) ?_ | refine Ac (m := 1) hG Y Y Y Y Y (by omega) ?_ | refine Ab hG Y Y Y Y Y (by omega) ?_)
      | (show AOp _ _ ⟨_, .binOp _ _ _ _ _, _, _, _, _⟩ _ _ _; first | refine At hG Y Y Y Y Y (by omega) ?_ | refine Au hG Y Y Y Y Y (by omega) ?_ | ((fail_if_success have := kk); refine Am hG Y Y Y Y Y (fun h => ?_) (fun h => ?_)))
      | (show AOp _ _ ⟨_, .load _ _, _, _, _, _⟩ _ _ _; first | refine Ak (α := UInt16) 0 hG Y Y Y Y (by omega) Y ?_ | refine Ak (α := UInt16) 1 hG Y Y Y Y (by omega) Y ?_ | refine Ay hG Y Y Y ?_ | refine Bg 0 hG Y Y Y Y ?_)
      | (show AOp _ _ ⟨_, .indexAddr _ _ _, _, _, _, _⟩ _ _ _; first | refine A1 hG Y Y Y Y Y Y Y (by omega) ?_ | refine A0 hG Y Y Y Y Y Y Y (by omega) ?_ | refine Az hG Y Y Y Y Y Y Y (by omega) ?_ | refine A9 hG Y Y ?_)
      | (show AOp _ _ ⟨_, .slice _ _ _ _ _, _, _, _, _⟩ _ _ _; first | refine B9 hG Y Y Y Y Y Y Y (by omega) ?_ | refine Ca hG Y Y Y Y Y Y Y (by omega) ?_ | refine Cm hG Y Y Y Y Y Y Y (by omega) ?_ | refine Cl hG Y Y Y Y Y Y Y (by omega) ?_ | refine Ck hG Y Y Y Y Y Y Y Y Y Y ?_ | refine r_sl hG Y Y ?_)
      | refine A6 hG Y Y Y ?_
      | (show AOp _ _ ⟨_, .buildSlice _ _ _, _, _, _, _⟩ _ _ _; first | refine r_mk (sz := 1) hG Y Y Y Y Y Y Y ?_)
      | (show AOp _ _ ⟨_, .call ⟨.builtin .append, _, _⟩, _, _, _, _⟩ _ _ _; first | refine Bo (sz := 1) (xs := []) hG Y Y Y Y Y Y Y ⟨_, Y⟩ Y Y Y Y Y Y Y (by first | omega | (simp; omega)) (fun k => ?_) | refine Bp 0 hG Y Y Y Y Y Y Y ⟨_, Y⟩ Y Y Y Y Y (by first | omega | (simp only [List.length_append, List.length_cons, List.length_nil]; omega)) (fun k => ?_) | fail)
      | refine r_q hG Y Y Y ?_); try exact kk)
    | (show AL _ _ _ _ _ _ _ _; first | refine Bk Y Y Y ?_ | (refine Ar ?_; first | show AW _ _ _ _ _ _ | show ∃ x', _ < _ ∧ _)) | (show AW _ _ (.seq _ _) _ _ _; refine Ai ?_; intro Q1) | (show AW _ _ (.region _ _ false) _ _ _; refine Ad ?_; intro O1) | (show AW _ _ (.cond _ _ _) _ _ _; first | refine Ao Y ?_ | refine Ap Y ?_ | refine Ba Y (fun h => ?_) (fun h => ?_)) | (show AW _ _ (.skip) _ _ _; refine Aj ?_; first | show AW _ _ _ _ _ _ | show ∃ x', _ < _ ∧ _) | (show AW _ _ (.block _ _) _ _ _; refine Ae ?_; intro Q1) | (show AW _ _ (.exit _) _ _ _; refine Al ?_; first | show AW _ _ _ _ _ _ | show ∃ x', _ < _ ∧ _) | (show AW _ _ (.ret) _ _ _; refine Aw ?_; try dsimp only [Ax, Aa, A2, Af])
    | (show DL _ _ _ _ _ _ _; refine Bx Y Y (fun K kt kf => Am hG Y Y Y Y Y kt kf) (fun h => ?_) (fun h => ?_))
    | (show DL _ _ _ _ _ _ _; refine By Y Y Y ?_) | (show DL _ _ _ _ _ _ _; refine Be ?_; first | show AW _ _ _ _ _ _ | show ∃ x', _ < _ ∧ _) | (show AW _ _ (.region _ _ true) _ _ _; refine A3 mix (by kernel_rfl) ?_; intro O1) | fail)
                exact ⟨⟨i + 1, by omega, by rw [hrs, List.length_append, List.length_append, List.length_take, List.length_drop]; simp; omega⟩, by dsimp only; omega, (.cons rfl (.cons rfl (.cons rfl (.consW rfl (by dsimp only; rw [hrs]; exact .own _ _ _) (.cons rfl (.nil _)))))), keep_step (L' := []) (R' := [k0]) (List.nil_sublist _) (by show List.Sublist [k0] [_, k0]; exact List.sublist_cons_self _ _)⟩
            · have hsp := insN_split _ row k hk hlt (fun _ => by omega)
              rw [hsp] at hrs
              have n1 : (row.take k).length ≤ 31 := by rw [List.length_take]; omega
              have n2 : (row.drop k).length ≤ 31 := by rw [List.length_drop]; omega
              repeat' (first
    | ((first | (show AL _ _ _ _ _ _ _ _; refine Ag Y ?_) | (show DL _ _ _ _ _ _ _; refine' A8 Y Y (fun K kk => ?_) ?_; try (show Go.Ts.T; rotate_left))); (first
      | refine Aq hG Y Y ?_
      | refine A5 hG Y Y ?_
      | (show AOp _ _ ⟨_, .call ⟨.builtin .len, _, _⟩, _, _, _, _⟩ _ _ _; first | refine Bh hG Y Y Y Y ?_ | refine Bq hG Y Y Y Y Y ?_)
      | (show AOp _ _ ⟨_, .binOp .add _ _ _ _, _, _, _, _⟩ _ _ _; first | refine Ac hG Y Y Y Y Y (by omega) ?_ | refine Ac (m := 1) hG Y Y Y Y Y (by omega) ?_ | refine Ab hG Y Y Y Y Y (by omega) ?_)
      | (show AOp _ _ ⟨_, .binOp _ _ _ _ _, _, _, _, _⟩ _ _ _; first | refine At hG Y Y Y Y Y (by omega) ?_ | refine Au hG Y Y Y Y Y (by omega) ?_ | ((fail_if_success have := kk); refine Am hG Y Y Y Y Y (fun h => ?_) (fun h => ?_)))
      | (show AOp _ _ ⟨_, .load _ _, _, _, _, _⟩ _ _ _; first | refine Ak (α := UInt16) 0 hG Y Y Y Y (by omega) Y ?_ | refine Ak (α := UInt16) 1 hG Y Y Y Y (by omega) Y ?_ | refine Ay hG Y Y Y ?_ | refine Bg 0 hG Y Y Y Y ?_)
      | (show AOp _ _ ⟨_, .indexAddr _ _ _, _, _, _, _⟩ _ _ _; first | refine A1 hG Y Y Y Y Y Y Y (by omega) ?_ | refine A0 hG Y Y Y Y Y Y Y (by omega) ?_ | refine Az hG Y Y Y Y Y Y Y (by omega) ?_ | refine A9 hG Y Y ?_)
      | (show AOp _ _ ⟨_, .slice _ _ _ _ _, _, _, _, _⟩ _ _ _; first | refine B9 hG Y Y Y Y Y Y Y (by omega) ?_ | refine Ca hG Y Y Y Y Y Y Y (by omega) ?_ | refine Cm hG Y Y Y Y Y Y Y (by omega) ?_ | refine Cl hG Y Y Y Y Y Y Y (by omega) ?_ | refine Ck hG Y Y Y Y Y Y Y Y Y Y ?_ | refine r_sl hG Y Y ?_)
      | refine A6 hG Y Y Y ?_
      | (show AOp _ _ ⟨_, .buildSlice _ _ _, _, _, _, _⟩ _ _ _; first | refine r_mk (sz := 1) hG Y Y Y Y Y Y Y ?_)
      | (show AOp _ _ ⟨_, .call ⟨.builtin .append, _, _⟩, _, _, _, _⟩ _ _ _; first | refine Bo (sz := 1) (xs := []) hG Y Y Y Y Y Y Y ⟨_, Y⟩ Y Y Y Y Y Y Y (by first | omega | (simp; omega)) (fun k => ?_) | refine Bp 0 hG Y Y Y Y Y Y Y ⟨_, Y⟩ Y Y Y Y Y (by first | omega | (simp only [List.length_append, List.length_cons, List.length_nil]; omega)) (fun k => ?_) | fail)
      | refine r_q hG Y Y Y ?_); try exact kk)
    | (show AL _ _ _ _ _ _ _ _; first | refine Bk Y Y Y ?_ | (refine Ar ?_; first | show AW _ _ _ _ _ _ | show ∃ x', _ < _ ∧ _)) | (show AW _ _ (.seq _ _) _ _ _; refine Ai ?_; intro Q1) | (show AW _ _ (.region _ _ false) _ _ _; (fail_if_success show AW _ _ (.region 13 _ _) _ _ _); refine Ad ?_; intro O1) | (show AW _ _ (.cond _ _ _) _ _ _; first | refine Ao Y ?_ | refine Ap Y ?_ | refine Ba Y (fun h => ?_) (fun h => ?_)) | (show AW _ _ (.skip) _ _ _; refine Aj ?_; first | show AW _ _ _ _ _ _ | show ∃ x', _ < _ ∧ _) | (show AW _ _ (.block _ _) _ _ _; refine Ae ?_; intro Q1) | (show AW _ _ (.exit _) _ _ _; refine Al ?_; first | show AW _ _ _ _ _ _ | show ∃ x', _ < _ ∧ _) | (show AW _ _ (.ret) _ _ _; refine Aw ?_; try dsimp only [Ax, Aa, A2, Af])
    | (show DL _ _ _ _ _ _ _; refine Bx Y Y (fun K kt kf => Am hG Y Y Y Y Y kt kf) (fun h => ?_) (fun h => ?_))
    | (show DL _ _ _ _ _ _ _; refine By Y Y Y ?_) | (show DL _ _ _ _ _ _ _; refine Be ?_; first | show AW _ _ _ _ _ _ | show ∃ x', _ < _ ∧ _) | (show AW _ _ (.region _ _ true) _ _ _; (fail_if_success show AW _ _ (.region 13 _ _) _ _ _); refine A3 mix (by kernel_rfl) ?_; intro O1) | fail)
              refine aw_drawE' (m := 16) [4, 11, 15] (fun σ => ∃ R, σ = ⟨[], R, off, none⟩) mix rfl (by repeat (first | exact Sp.zero _ | apply Sp.succ)) ?_; intro O1 F1 Z1 Q2
              repeat' (first
    | (refine' dq_cons Y Y Y (fun σ hσ K kk => ?_) ?_; (try (show Go.Ts.T; rotate_left)); (obtain ⟨R, rfl⟩ := hσ); (first
      | refine Aq hG Y Y ?_
      | refine A5 hG Y Y ?_
      | (show AOp _ _ ⟨_, .call ⟨.builtin .len, _, _⟩, _, _, _, _⟩ _ _ _; first | refine Bh hG Y Y Y Y ?_ | refine Bq hG Y Y Y Y Y ?_)
      | (show AOp _ _ ⟨_, .binOp .add _ _ _ _, _, _, _, _⟩ _ _ _; first | refine Ac hG Y Y Y Y Y (by omega) ?_ | refine Ac (m := 1) hG Y Y Y Y Y (by omega) ?_ | refine Ab hG Y Y Y Y Y (by omega) ?_)
      | (show AOp _ _ ⟨_, .binOp _ _ _ _ _, _, _, _, _⟩ _ _ _; first | refine At hG Y Y Y Y Y (by omega) ?_ | refine Au hG Y Y Y Y Y (by omega) ?_)
      | (show AOp _ _ ⟨_, .load _ _, _, _, _, _⟩ _ _ _; first | refine Ak (α := UInt16) 0 hG Y Y Y Y (by omega) Y ?_ | refine Ak (α := UInt16) 1 hG Y Y Y Y (by omega) Y ?_ | refine Ay hG Y Y Y ?_ | refine Bg 0 hG Y Y Y Y ?_)
      | (show AOp _ _ ⟨_, .indexAddr _ _ _, _, _, _, _⟩ _ _ _; first | refine A1 hG Y Y Y Y Y Y Y (by omega) ?_ | refine A0 hG Y Y Y Y Y Y Y (by omega) ?_ | refine Az hG Y Y Y Y Y Y Y (by omega) ?_ | refine A9 hG Y Y ?_)
      | (show AOp _ _ ⟨_, .slice _ _ _ _ _, _, _, _, _⟩ _ _ _; first | refine B9 hG Y Y Y Y Y Y Y (by omega) ?_ | refine Ca hG Y Y Y Y Y Y Y (by omega) ?_ | refine Cm hG Y Y Y Y Y Y Y (by omega) ?_ | refine Cl hG Y Y Y Y Y Y Y (by omega) ?_ | refine Ck hG Y Y Y Y Y Y Y Y Y Y ?_ | refine r_sl hG Y Y ?_)
      | refine A6 hG Y Y Y ?_
      | (show AOp _ _ ⟨_, .buildSlice _ _ _, _, _, _, _⟩ _ _ _; first | refine r_mk (sz := 1) hG Y Y Y Y Y Y Y ?_)
      | (show AOp _ _ ⟨_, .call ⟨.builtin .append, _, _⟩, _, _, _, _⟩ _ _ _; first | refine Bp 0 (ys := [(l.getD i default).id]) hG Y Y Y Y Y Y Y ⟨_, Y⟩ Y Y Y Y Y (by simp only [List.length_append, List.length_map, List.length_cons, List.length_nil]; omega) (fun k => ?_) | refine Bp 0 (ys := (row.drop k)) hG Y Y Y Y Y Y Y ⟨_, Y⟩ Y Y Y Y Y (by simp only [List.length_append, List.length_map, List.length_cons, List.length_nil]; omega) (fun k => ?_) | refine Bo (sz := 1) (xs := []) hG Y Y Y Y Y Y Y ⟨_, Y⟩ Y Y Y Y Y Y Y (by first | omega | (simp; omega)) (fun k => ?_) | refine Bp 0 hG Y Y Y Y Y Y Y ⟨_, Y⟩ Y Y Y Y Y (by first | omega | (simp only [List.length_append, List.length_cons, List.length_nil]; omega)) (fun k => ?_) | fail)
      | refine r_q hG Y Y Y ?_); exact kk)
    | refine dq_d Y Y Y (fun σ hσ K kt kf => by obtain ⟨R, rfl⟩ := hσ; exact Am hG Y Y Y Y Y kt kf) (fun h => ?_) (fun h => ?_)
    | refine dq_d Y Y Y (fun σ hσ K kt kf => by obtain ⟨R, rfl⟩ := hσ; exact r_str hG Y Y Y Y kt kf) (fun h => ?_) (fun h => ?_)
    | refine dq_s Y Y Y Y ?_ | refine dq_e Y ?_ | (refine dq_nil ?_; show EL _ _ _ _ _ _ _ _ _) | refine el_s ⟨_, Y⟩ Y Y Y Y ?_
    | ((first | refine el_cons ⟨_, Y⟩ Y Y Y (fun K ke => ?_) | refine Cf ⟨_, Y⟩ Y Y Y (fun K ke => ?_)); (first
      | refine Aq hG Y Y ?_
      | refine A5 hG Y Y ?_
      | (show AOp _ _ ⟨_, .call ⟨.builtin .len, _, _⟩, _, _, _, _⟩ _ _ _; first | refine Bh hG Y Y Y Y ?_ | refine Bq hG Y Y Y Y Y ?_)
      | (show AOp _ _ ⟨_, .binOp .add _ _ _ _, _, _, _, _⟩ _ _ _; first | refine Ac hG Y Y Y Y Y (by omega) ?_ | refine Ac (m := 1) hG Y Y Y Y Y (by omega) ?_ | refine Ab hG Y Y Y Y Y (by omega) ?_)
      | (show AOp _ _ ⟨_, .binOp _ _ _ _ _, _, _, _, _⟩ _ _ _; first | refine At hG Y Y Y Y Y (by omega) ?_ | refine Au hG Y Y Y Y Y (by omega) ?_)
      | (show AOp _ _ ⟨_, .load _ _, _, _, _, _⟩ _ _ _; first | refine Ak (α := UInt16) 0 hG Y Y Y Y (by omega) Y ?_ | refine Ak (α := UInt16) 1 hG Y Y Y Y (by omega) Y ?_ | refine Ay hG Y Y Y ?_ | refine Bg 0 hG Y Y Y Y ?_)
      | (show AOp _ _ ⟨_, .indexAddr _ _ _, _, _, _, _⟩ _ _ _; first | refine A1 hG Y Y Y Y Y Y Y (by omega) ?_ | refine A0 hG Y Y Y Y Y Y Y (by omega) ?_ | refine Az hG Y Y Y Y Y Y Y (by omega) ?_ | refine A9 hG Y Y ?_)
      | (show AOp _ _ ⟨_, .slice _ _ _ _ _, _, _, _, _⟩ _ _ _; first | refine B9 hG Y Y Y Y Y Y Y (by omega) ?_ | refine Ca hG Y Y Y Y Y Y Y (by omega) ?_ | refine Cm hG Y Y Y Y Y Y Y (by omega) ?_ | refine Cl hG Y Y Y Y Y Y Y (by omega) ?_ | refine Ck hG Y Y Y Y Y Y Y Y Y Y ?_ | refine r_sl hG Y Y ?_)
      | refine A6 hG Y Y Y ?_
      | (show AOp _ _ ⟨_, .buildSlice _ _ _, _, _, _, _⟩ _ _ _; first | refine r_mk (sz := 1) hG Y Y Y Y Y Y Y ?_)
      | (show AOp _ _ ⟨_, .call ⟨.builtin .append, _, _⟩, _, _, _, _⟩ _ _ _; first | refine Bp 0 (ys := [(l.getD i default).id]) hG Y Y Y Y Y Y Y ⟨_, Y⟩ Y Y Y Y Y (by simp only [List.length_append, List.length_map, List.length_cons, List.length_nil]; omega) (fun k => ?_) | refine Bp 0 (ys := (row.drop k)) hG Y Y Y Y Y Y Y ⟨_, Y⟩ Y Y Y Y Y (by simp only [List.length_append, List.length_map, List.length_cons, List.length_nil]; omega) (fun k => ?_) | refine Bo (sz := 1) (xs := []) hG Y Y Y Y Y Y Y ⟨_, Y⟩ Y Y Y Y Y Y Y (by first | omega | (simp; omega)) (fun k => ?_) | refine Bp 0 hG Y Y Y Y Y Y Y ⟨_, Y⟩ Y Y Y Y Y (by first | omega | (simp only [List.length_append, List.length_cons, List.length_nil]; omega)) (fun k => ?_) | fail)
      | refine r_q hG Y Y Y ?_); refine ke _ _ ?_)
    | (refine el_nil ⟨_, Y⟩ ?_; show AL _ _ _ _ _ _ _ _) | fail)
              repeat' (first
    | ((first | (show AL _ _ _ _ _ _ _ _; refine Ag Y ?_) | (show DL _ _ _ _ _ _ _; refine' A8 Y Y (fun K kk => ?_) ?_; try (show Go.Ts.T; rotate_left))); (first
      | refine Aq hG Y Y ?_
      | refine A5 hG Y Y ?_
      | (show AOp _ _ ⟨_, .call ⟨.builtin .len, _, _⟩, _, _, _, _⟩ _ _ _; first | refine Bh hG Y Y Y Y ?_ | refine Bq hG Y Y Y Y Y ?_)
      | (show AOp _ _ ⟨_, .binOp .add _ _ _ _, _, _, _, _⟩ _ _ _; first | refine Ac hG Y Y Y Y Y (by omega) ?_ | refine Ac (m := 1) hG Y Y Y Y Y (by omega) ?_ | refine Ab hG Y Y Y Y Y (by omega) ?_)
      | (show AOp _ _ ⟨_, .binOp _ _ _ _ _, _, _, _, _⟩ _ _ _; first | refine At hG Y Y Y Y Y (by omega) ?_ | refine Au hG Y Y Y Y Y (by omega) ?_ | ((fail_if_success have := kk); refine Am hG Y Y Y Y Y (fun h => ?_) (fun h => ?_)))
      | (show AOp _ _ ⟨_, .load _ _, _, _, _, _⟩ _ _ _; first | refine Ak (α := UInt16) 0 hG Y Y Y Y (by omega) Y ?_ | refine Ak (α := UInt16) 1 hG Y Y Y Y (by omega) Y ?_ | refine Ay hG Y Y Y ?_ | refine Bg 0 hG Y Y Y Y ?_)
      | (show AOp _ _ ⟨_, .indexAddr _ _ _, _, _, _, _⟩ _ _ _; first | refine A1 hG Y Y Y Y Y Y Y (by omega) ?_ | refine A0 hG Y Y Y Y Y Y Y (by omega) ?_ | refine Az hG Y Y Y Y Y Y Y (by omega) ?_ | refine A9 hG Y Y ?_)
      | (show AOp _ _ ⟨_, .slice _ _ _ _ _, _, _, _, _⟩ _ _ _; first | refine B9 hG Y Y Y Y Y Y Y (by omega) ?_ | refine Ca hG Y Y Y Y Y Y Y (by omega) ?_ | refine Cm hG Y Y Y Y Y Y Y (by omega) ?_ | refine Cl hG Y Y Y Y Y Y Y (by omega) ?_ | refine Ck hG Y Y Y Y Y Y Y Y Y Y ?_ | refine r_sl hG Y Y ?_)
      | refine A6 hG Y Y Y ?_
      | (show AOp _ _ ⟨_, .buildSlice _ _ _, _, _, _, _⟩ _ _ _; first | refine r_mk (sz := 1) hG Y Y Y Y Y Y Y ?_)
      | (show AOp _ _ ⟨_, .call ⟨.builtin .append, _, _⟩, _, _, _, _⟩ _ _ _; first | refine Bo (sz := 1) (xs := []) hG Y Y Y Y Y Y Y ⟨_, Y⟩ Y Y Y Y Y Y Y (by first | omega | (simp; omega)) (fun k => ?_) | refine Bp 0 hG Y Y Y Y Y Y Y ⟨_, Y⟩ Y Y Y Y Y (by first | omega | (simp only [List.length_append, List.length_cons, List.length_nil]; omega)) (fun k => ?_) | fail)
      | refine r_q hG Y Y Y ?_); try exact kk)
    | (show AL _ _ _ _ _ _ _ _; first | refine Bk Y Y Y ?_ | (refine Ar ?_; first | show AW _ _ _ _ _ _ | show ∃ x', _ < _ ∧ _)) | (show AW _ _ (.seq _ _) _ _ _; refine Ai ?_; intro Q1) | (show AW _ _ (.region _ _ false) _ _ _; refine Ad ?_; intro O1) | (show AW _ _ (.cond _ _ _) _ _ _; first | refine Ao Y ?_ | refine Ap Y ?_ | refine Ba Y (fun h => ?_) (fun h => ?_)) | (show AW _ _ (.skip) _ _ _; refine Aj ?_; first | show AW _ _ _ _ _ _ | show ∃ x', _ < _ ∧ _) | (show AW _ _ (.block _ _) _ _ _; refine Ae ?_; intro Q1) | (show AW _ _ (.exit _) _ _ _; refine Al ?_; first | show AW _ _ _ _ _ _ | show ∃ x', _ < _ ∧ _) | (show AW _ _ (.ret) _ _ _; refine Aw ?_; try dsimp only [Ax, Aa, A2, Af])
    | (show DL _ _ _ _ _ _ _; refine Bx Y Y (fun K kt kf => Am hG Y Y Y Y Y kt kf) (fun h => ?_) (fun h => ?_))
    | (show DL _ _ _ _ _ _ _; refine By Y Y Y ?_) | (show DL _ _ _ _ _ _ _; refine Be ?_; first | show AW _ _ _ _ _ _ | show ∃ x', _ < _ ∧ _) | (show AW _ _ (.region _ _ true) _ _ _; refine A3 mix (by kernel_rfl) ?_; intro O1) | fail)
              exact ⟨⟨i + 1, by omega, by rw [hrs, List.length_append, List.length_append, List.length_take, List.length_drop]; simp; omega⟩, by dsimp only; omega, (.cons rfl (.cons rfl (.cons rfl (.consW rfl (by dsimp only; rw [hrs]; exact .own _ _ _) (.cons rfl (.nil _)))))), keep_step (L' := []) (R' := [k0]) (List.nil_sublist _) (by show List.Sublist [k0] [_, k0]; exact List.sublist_cons_self _ _)⟩
          | false =>
            rw [if_neg (by simp)] at hrs
            repeat' (first
    | ((first | (show AL _ _ _ _ _ _ _ _; refine Ag Y ?_) | (show DL _ _ _ _ _ _ _; refine' A8 Y Y (fun K kk => ?_) ?_; try (show Go.Ts.T; rotate_left))); (first
      | refine Aq hG Y Y ?_
      | refine A5 hG Y Y ?_
      | (show AOp _ _ ⟨_, .call ⟨.builtin .len, _, _⟩, _, _, _, _⟩ _ _ _; first | refine Bh hG Y Y Y Y ?_ | refine Bq hG Y Y Y Y Y ?_)
      | (show AOp _ _ ⟨_, .binOp .add _ _ _ _, _, _, _, _⟩ _ _ _; first | refine Ac hG Y Y Y Y Y (by omega) ?_ | refine Ac (m := 1) hG Y Y Y Y Y (by omega) ?_ | refine Ab hG Y Y Y Y Y (by omega) ?_)
      | (show AOp _ _ ⟨_, .binOp _ _ _ _ _, _, _, _, _⟩ _ _ _; first | refine At hG Y Y Y Y Y (by omega) ?_ | refine Au hG Y Y Y Y Y (by omega) ?_ | ((fail_if_success have := kk); refine Am hG Y Y Y Y Y (fun h => ?_) (fun h => ?_)))
      | (show AOp _ _ ⟨_, .load _ _, _, _, _, _⟩ _ _ _; first | refine Ak (α := UInt16) 0 hG Y Y Y Y (by omega) Y ?_ | refine Ak (α := UInt16) 1 hG Y Y Y Y (by omega) Y ?_ | refine Ay hG Y Y Y ?_ | refine Bg 0 hG Y Y Y Y ?_)
      | (show AOp _ _ ⟨_, .indexAddr _ _ _, _, _, _, _⟩ _ _ _; first | refine A1 hG Y Y Y Y Y Y Y (by omega) ?_ | refine A0 hG Y Y Y Y Y Y Y (by omega) ?_ | refine Az hG Y Y Y Y Y Y Y (by omega) ?_ | refine A9 hG Y Y ?_)
      | (show AOp _ _ ⟨_, .slice _ _ _ _ _, _, _, _, _⟩ _ _ _; first | refine B9 hG Y Y Y Y Y Y Y (by omega) ?_ | refine Ca hG Y Y Y Y Y Y Y (by omega) ?_ | refine Cm hG Y Y Y Y Y Y Y (by omega) ?_ | refine Cl hG Y Y Y Y Y Y Y (by omega) ?_ | refine Ck hG Y Y Y Y Y Y Y Y Y Y ?_ | refine r_sl hG Y Y ?_)
      | refine A6 hG Y Y Y ?_
      | (show AOp _ _ ⟨_, .buildSlice _ _ _, _, _, _, _⟩ _ _ _; first | refine r_mk (sz := 1) hG Y Y Y Y Y Y Y ?_)
      | (show AOp _ _ ⟨_, .call ⟨.builtin .append, _, _⟩, _, _, _, _⟩ _ _ _; first | refine Bo (sz := 1) (xs := []) hG Y Y Y Y Y Y Y ⟨_, Y⟩ Y Y Y Y Y Y Y (by first | omega | (simp; omega)) (fun k => ?_) | refine Bp 0 hG Y Y Y Y Y Y Y ⟨_, Y⟩ Y Y Y Y Y (by first | omega | (simp only [List.length_append, List.length_cons, List.length_nil]; omega)) (fun k => ?_) | fail)
      | (show AOp _ _ ⟨_, .call ⟨.value _, _, _⟩, _, _, _, _⟩ _ _ _; first | refine Bn Y Y Y Y Y (by first | (apply hM <;> (first | assumption | omega | exact A4 _ _ | exact Bd _ | exact A7 _ _ | exact Bi _ | rfl | (simp; omega))) | fail) ?_ | refine Bn Y Y Y Y Y (by first | (apply hD <;> (first | assumption | omega | exact A4 _ _ | exact Bd _ | exact A7 _ _ | exact Bi _ | rfl | (simp; omega))) | fail) ?_ | refine Bn Y Y Y Y Y (by first | (apply hR <;> (first | assumption | omega | exact A4 _ _ | exact Bd _ | exact A7 _ _ | exact Bi _ | rfl | (simp; omega))) | fail) ?_ | refine Bn Y Y Y Y Y (by first | (apply hfi <;> (first | assumption | omega | exact A4 _ _ | exact Bd _ | exact A7 _ _ | exact Bi _ | rfl | (simp; omega))) | fail) ?_ | fail)
      | refine r_q hG Y Y Y ?_); try exact kk)
    | (show AL _ _ _ _ _ _ _ _; first | refine Bk Y Y Y ?_ | (refine Ar ?_; first | show AW _ _ _ _ _ _ | show ∃ x', _ < _ ∧ _)) | (show AW _ _ (.seq _ _) _ _ _; refine Ai ?_; intro Q1) | (show AW _ _ (.region _ _ false) _ _ _; refine Ad ?_; intro O1) | (show AW _ _ (.cond _ _ _) _ _ _; first | refine Ao Y ?_ | refine Ap Y ?_ | refine Ba Y (fun h => ?_) (fun h => ?_)) | (show AW _ _ (.skip) _ _ _; refine Aj ?_; first | show AW _ _ _ _ _ _ | show ∃ x', _ < _ ∧ _) | (show AW _ _ (.block _ _) _ _ _; refine Ae ?_; intro Q1) | (show AW _ _ (.exit _) _ _ _; refine Al ?_; first | show AW _ _ _ _ _ _ | show ∃ x', _ < _ ∧ _) | (show AW _ _ (.ret) _ _ _; refine Aw ?_; try dsimp only [Ax, Aa, A2, Af])
    | (show DL _ _ _ _ _ _ _; refine Bx Y Y (fun K kt kf => Am hG Y Y Y Y Y kt kf) (fun h => ?_) (fun h => ?_))
    | (show DL _ _ _ _ _ _ _; refine By Y Y Y ?_) | (show DL _ _ _ _ _ _ _; refine Be ?_; first | show AW _ _ _ _ _ _ | show ∃ x', _ < _ ∧ _) | (show AW _ _ (.region _ _ true) _ _ _; refine A3 mix (by kernel_rfl) ?_; intro O1) | fail)
            exact ⟨⟨i + 1, by omega, by rw [hrs]; omega⟩, by dsimp only; omega, (.cons rfl (.cons rfl (.cons rfl (.consW rfl (.eq (by rw [hrs])) (.cons rfl (.nil _)))))), .refl _⟩
        · rw [decide_eq_false c2, Bool.false_and, if_neg (by simp)] at hrs
          repeat' (first
    | ((first | (show AL _ _ _ _ _ _ _ _; refine Ag Y ?_) | (show DL _ _ _ _ _ _ _; refine' A8 Y Y (fun K kk => ?_) ?_; try (show Go.Ts.T; rotate_left))); (first
      | refine Aq hG Y Y ?_
      | refine A5 hG Y Y ?_
      | (show AOp _ _ ⟨_, .call ⟨.builtin .len, _, _⟩, _, _, _, _⟩ _ _ _; first | refine Bh hG Y Y Y Y ?_ | refine Bq hG Y Y Y Y Y ?_)
      | (show AOp _ _ ⟨_, .binOp .add _ _ _ _, _, _, _, _⟩ _ _ _; first | refine Ac hG Y Y Y Y Y (by omega) ?_ | refine Ac (m := 1) hG Y Y Y Y Y (by omega) ?_ | refine Ab hG Y Y Y Y Y (by omega) ?_)
      | (show AOp _ _ ⟨_, .binOp _ _ _ _ _, _, _, _, _⟩ _ _ _; first | refine At hG Y Y Y Y Y (by omega) ?_ | refine Au hG Y Y Y Y Y (by omega) ?_ | ((fail_if_success have := kk); refine Am hG Y Y Y Y Y (fun h => ?_) (fun h => ?_)))
      | (show AOp _ _ ⟨_, .load _ _, _, _, _, _⟩ _ _ _; first | refine Ak (α := UInt16) 0 hG Y Y Y Y (by omega) Y ?_ | refine Ak (α := UInt16) 1 hG Y Y Y Y (by omega) Y ?_ | refine Ay hG Y Y Y ?_ | refine Bg 0 hG Y Y Y Y ?_)
      | (show AOp _ _ ⟨_, .indexAddr _ _ _, _, _, _, _⟩ _ _ _; first | refine A1 hG Y Y Y Y Y Y Y (by omega) ?_ | refine A0 hG Y Y Y Y Y Y Y (by omega) ?_ | refine Az hG Y Y Y Y Y Y Y (by omega) ?_ | refine A9 hG Y Y ?_)
      | (show AOp _ _ ⟨_, .slice _ _ _ _ _, _, _, _, _⟩ _ _ _; first | refine B9 hG Y Y Y Y Y Y Y (by omega) ?_ | refine Ca hG Y Y Y Y Y Y Y (by omega) ?_ | refine Cm hG Y Y Y Y Y Y Y (by omega) ?_ | refine Cl hG Y Y Y Y Y Y Y (by omega) ?_ | refine Ck hG Y Y Y Y Y Y Y Y Y Y ?_ | refine r_sl hG Y Y ?_)
      | refine A6 hG Y Y Y ?_
      | (show AOp _ _ ⟨_, .buildSlice _ _ _, _, _, _, _⟩ _ _ _; first | refine r_mk (sz := 1) hG Y Y Y Y Y Y Y ?_)
      | (show AOp _ _ ⟨_, .call ⟨.builtin .append, _, _⟩, _, _, _, _⟩ _ _ _; first | refine Bo (sz := 1) (xs := []) hG Y Y Y Y Y Y Y ⟨_, Y⟩ Y Y Y Y Y Y Y (by first | omega | (simp; omega)) (fun k => ?_) | refine Bp 0 hG Y Y Y Y Y Y Y ⟨_, Y⟩ Y Y Y Y Y (by first | omega | (simp only [List.length_append, List.length_cons, List.length_nil]; omega)) (fun k => ?_) | fail)
      | (show AOp _ _ ⟨_, .call ⟨.value _, _, _⟩, _, _, _, _⟩ _ _ _; first | refine Bn Y Y Y Y Y (by first | (apply hM <;> (first | assumption | omega | exact A4 _ _ | exact Bd _ | exact A7 _ _ | exact Bi _ | rfl | (simp; omega))) | fail) ?_ | refine Bn Y Y Y Y Y (by first | (apply hD <;> (first | assumption | omega | exact A4 _ _ | exact Bd _ | exact A7 _ _ | exact Bi _ | rfl | (simp; omega))) | fail) ?_ | refine Bn Y Y Y Y Y (by first | (apply hfi <;> (first | assumption | omega | exact A4 _ _ | exact Bd _ | exact A7 _ _ | exact Bi _ | rfl | (simp; omega))) | fail) ?_ | fail)
      | refine r_q hG Y Y Y ?_); try exact kk)
    | (show AL _ _ _ _ _ _ _ _; first | refine Bk Y Y Y ?_ | (refine Ar ?_; first | show AW _ _ _ _ _ _ | show ∃ x', _ < _ ∧ _)) | (show AW _ _ (.seq _ _) _ _ _; refine Ai ?_; intro Q1) | (show AW _ _ (.region _ _ false) _ _ _; refine Ad ?_; intro O1) | (show AW _ _ (.cond _ _ _) _ _ _; first | refine Ao Y ?_ | refine Ap Y ?_ | refine Ba Y (fun h => ?_) (fun h => ?_)) | (show AW _ _ (.skip) _ _ _; refine Aj ?_; first | show AW _ _ _ _ _ _ | show ∃ x', _ < _ ∧ _) | (show AW _ _ (.block _ _) _ _ _; refine Ae ?_; intro Q1) | (show AW _ _ (.exit _) _ _ _; refine Al ?_; first | show AW _ _ _ _ _ _ | show ∃ x', _ < _ ∧ _) | (show AW _ _ (.ret) _ _ _; refine Aw ?_; try dsimp only [Ax, Aa, A2, Af])
    | (show DL _ _ _ _ _ _ _; refine Bx Y Y (fun K kt kf => Am hG Y Y Y Y Y kt kf) (fun h => ?_) (fun h => ?_))
    | (show DL _ _ _ _ _ _ _; refine By Y Y Y ?_) | (show DL _ _ _ _ _ _ _; refine Be ?_; first | show AW _ _ _ _ _ _ | show ∃ x', _ < _ ∧ _) | (show AW _ _ (.region _ _ true) _ _ _; refine A3 mix (by kernel_rfl) ?_; intro O1) | fail)
          exact ⟨⟨i + 1, by omega, by rw [hrs]; omega⟩, by dsimp only; omega, (.cons rfl (.cons rfl (.cons rfl (.consW rfl (.eq (by rw [hrs])) (.cons rfl (.nil _)))))), .refl _⟩
      · have hM := ref_May hid (decide_eq_false c1)
        rw [decide_eq_false c1, Bool.false_and, Bool.false_and, if_neg (by simp)] at hrs
        repeat' (first
    | ((first | (show AL _ _ _ _ _ _ _ _; refine Ag Y ?_) | (show DL _ _ _ _ _ _ _; refine' A8 Y Y (fun K kk => ?_) ?_; try (show Go.Ts.T; rotate_left))); (first
      | refine Aq hG Y Y ?_
      | refine A5 hG Y Y ?_
      | (show AOp _ _ ⟨_, .call ⟨.builtin .len, _, _⟩, _, _, _, _⟩ _ _ _; first | refine Bh hG Y Y Y Y ?_ | refine Bq hG Y Y Y Y Y ?_)
      | (show AOp _ _ ⟨_, .binOp .add _ _ _ _, _, _, _, _⟩ _ _ _; first | refine Ac hG Y Y Y Y Y (by omega) ?_ | refine Ac (m := 1) hG Y Y Y Y Y (by omega) ?_ | refine Ab hG Y Y Y Y Y (by omega) ?_)
      | (show AOp _ _ ⟨_, .binOp _ _ _ _ _, _, _, _, _⟩ _ _ _; first | refine At hG Y Y Y Y Y (by omega) ?_ | refine Au hG Y Y Y Y Y (by omega) ?_ | ((fail_if_success have := kk); refine Am hG Y Y Y Y Y (fun h => ?_) (fun h => ?_)))
      | (show AOp _ _ ⟨_, .load _ _, _, _, _, _⟩ _ _ _; first | refine Ak (α := UInt16) 0 hG Y Y Y Y (by omega) Y ?_ | refine Ak (α := UInt16) 1 hG Y Y Y Y (by omega) Y ?_ | refine Ay hG Y Y Y ?_ | refine Bg 0 hG Y Y Y Y ?_)
      | (show AOp _ _ ⟨_, .indexAddr _ _ _, _, _, _, _⟩ _ _ _; first | refine A1 hG Y Y Y Y Y Y Y (by omega) ?_ | refine A0 hG Y Y Y Y Y Y Y (by omega) ?_ | refine Az hG Y Y Y Y Y Y Y (by omega) ?_ | refine A9 hG Y Y ?_)
      | (show AOp _ _ ⟨_, .slice _ _ _ _ _, _, _, _, _⟩ _ _ _; first | refine B9 hG Y Y Y Y Y Y Y (by omega) ?_ | refine Ca hG Y Y Y Y Y Y Y (by omega) ?_ | refine Cm hG Y Y Y Y Y Y Y (by omega) ?_ | refine Cl hG Y Y Y Y Y Y Y (by omega) ?_ | refine Ck hG Y Y Y Y Y Y Y Y Y Y ?_ | refine r_sl hG Y Y ?_)
      | refine A6 hG Y Y Y ?_
      | (show AOp _ _ ⟨_, .buildSlice _ _ _, _, _, _, _⟩ _ _ _; first | refine r_mk (sz := 1) hG Y Y Y Y Y Y Y ?_)
      | (show AOp _ _ ⟨_, .call ⟨.builtin .append, _, _⟩, _, _, _, _⟩ _ _ _; first | refine Bo (sz := 1) (xs := []) hG Y Y Y Y Y Y Y ⟨_, Y⟩ Y Y Y Y Y Y Y (by first | omega | (simp; omega)) (fun k => ?_) | refine Bp 0 hG Y Y Y Y Y Y Y ⟨_, Y⟩ Y Y Y Y Y (by first | omega | (simp only [List.length_append, List.length_cons, List.length_nil]; omega)) (fun k => ?_) | fail)
      | (show AOp _ _ ⟨_, .call ⟨.value _, _, _⟩, _, _, _, _⟩ _ _ _; first | refine Bn Y Y Y Y Y (by first | (apply hM <;> (first | assumption | omega | exact A4 _ _ | exact Bd _ | exact A7 _ _ | exact Bi _ | rfl | (simp; omega))) | fail) ?_ | refine Bn Y Y Y Y Y (by first | (apply hfi <;> (first | assumption | omega | exact A4 _ _ | exact Bd _ | exact A7 _ _ | exact Bi _ | rfl | (simp; omega))) | fail) ?_ | fail)
      | refine r_q hG Y Y Y ?_); try exact kk)
    | (show AL _ _ _ _ _ _ _ _; first | refine Bk Y Y Y ?_ | (refine Ar ?_; first | show AW _ _ _ _ _ _ | show ∃ x', _ < _ ∧ _)) | (show AW _ _ (.seq _ _) _ _ _; refine Ai ?_; intro Q1) | (show AW _ _ (.region _ _ false) _ _ _; refine Ad ?_; intro O1) | (show AW _ _ (.cond _ _ _) _ _ _; first | refine Ao Y ?_ | refine Ap Y ?_ | refine Ba Y (fun h => ?_) (fun h => ?_)) | (show AW _ _ (.skip) _ _ _; refine Aj ?_; first | show AW _ _ _ _ _ _ | show ∃ x', _ < _ ∧ _) | (show AW _ _ (.block _ _) _ _ _; refine Ae ?_; intro Q1) | (show AW _ _ (.exit _) _ _ _; refine Al ?_; first | show AW _ _ _ _ _ _ | show ∃ x', _ < _ ∧ _) | (show AW _ _ (.ret) _ _ _; refine Aw ?_; try dsimp only [Ax, Aa, A2, Af])
    | (show DL _ _ _ _ _ _ _; refine Bx Y Y (fun K kt kf => Am hG Y Y Y Y Y kt kf) (fun h => ?_) (fun h => ?_))
    | (show DL _ _ _ _ _ _ _; refine By Y Y Y ?_) | (show DL _ _ _ _ _ _ _; refine Be ?_; first | show AW _ _ _ _ _ _ | show ∃ x', _ < _ ∧ _) | (show AW _ _ (.region _ _ true) _ _ _; refine A3 mix (by kernel_rfl) ?_; intro O1) | fail)
        exact ⟨⟨i + 1, by omega, by rw [hrs]; omega⟩, by dsimp only; omega, (.cons rfl (.cons rfl (.cons rfl (.consW rfl (.eq (by rw [hrs])) (.cons rfl (.nil _)))))), .refl _⟩
    · obtain rfl : i = l.length := by omega
      generalize rowD l d l.length = row at *
      repeat' (first
    | ((first | (show AL _ _ _ _ _ _ _ _; refine Ag Y ?_) | (show DL _ _ _ _ _ _ _; refine' A8 Y Y (fun K kk => ?_) ?_; try (show Go.Ts.T; rotate_left))); (first
      | refine Aq hG Y Y ?_
      | refine A5 hG Y Y ?_
      | (show AOp _ _ ⟨_, .call ⟨.builtin .len, _, _⟩, _, _, _, _⟩ _ _ _; first | refine Bh hG Y Y Y Y ?_ | refine Bq hG Y Y Y Y Y ?_)
      | (show AOp _ _ ⟨_, .binOp .add _ _ _ _, _, _, _, _⟩ _ _ _; first | refine Ac hG Y Y Y Y Y (by omega) ?_ | refine Ac (m := 1) hG Y Y Y Y Y (by omega) ?_ | refine Ab hG Y Y Y Y Y (by omega) ?_)
      | (show AOp _ _ ⟨_, .binOp _ _ _ _ _, _, _, _, _⟩ _ _ _; first | refine At hG Y Y Y Y Y (by omega) ?_ | refine Au hG Y Y Y Y Y (by omega) ?_ | ((fail_if_success have := kk); refine Am hG Y Y Y Y Y (fun h => ?_) (fun h => ?_)))
      | (show AOp _ _ ⟨_, .load _ _, _, _, _, _⟩ _ _ _; first | refine Ak (α := UInt16) 0 hG Y Y Y Y (by omega) Y ?_ | refine Ak (α := UInt16) 1 hG Y Y Y Y (by omega) Y ?_ | refine Ay hG Y Y Y ?_ | refine Bg 0 hG Y Y Y Y ?_)
      | (show AOp _ _ ⟨_, .indexAddr _ _ _, _, _, _, _⟩ _ _ _; first | refine A1 hG Y Y Y Y Y Y Y (by omega) ?_ | refine A0 hG Y Y Y Y Y Y Y (by omega) ?_ | refine Az hG Y Y Y Y Y Y Y (by omega) ?_ | refine A9 hG Y Y ?_)
      | (show AOp _ _ ⟨_, .slice _ _ _ _ _, _, _, _, _⟩ _ _ _; first | refine B9 hG Y Y Y Y Y Y Y (by omega) ?_ | refine Ca hG Y Y Y Y Y Y Y (by omega) ?_ | refine Cm hG Y Y Y Y Y Y Y (by omega) ?_ | refine Cl hG Y Y Y Y Y Y Y (by omega) ?_ | refine Ck hG Y Y Y Y Y Y Y Y Y Y ?_ | refine r_sl hG Y Y ?_)
      | refine A6 hG Y Y Y ?_
      | (show AOp _ _ ⟨_, .buildSlice _ _ _, _, _, _, _⟩ _ _ _; first | refine r_mk (sz := 1) hG Y Y Y Y Y Y Y ?_)
      | (show AOp _ _ ⟨_, .call ⟨.builtin .append, _, _⟩, _, _, _, _⟩ _ _ _; first | refine Bp 0 (ys := row) hG Y Y Y Y Y Y Y ⟨_, Y⟩ Y Y Y Y Y (by simp only [List.length_append, List.length_map, List.length_cons, List.length_nil]; omega) (fun k => ?_) | refine Bo (sz := 1) (xs := []) hG Y Y Y Y Y Y Y ⟨_, Y⟩ Y Y Y Y Y Y Y (by first | omega | (simp; omega)) (fun k => ?_) | refine Bp 0 hG Y Y Y Y Y Y Y ⟨_, Y⟩ Y Y Y Y Y (by first | omega | (simp only [List.length_append, List.length_cons, List.length_nil]; omega)) (fun k => ?_) | fail)
      | refine r_q hG Y Y Y ?_); try exact kk)
    | (show AL _ _ _ _ _ _ _ _; first | refine Bk Y Y Y ?_ | (refine Ar ?_; first | show AW _ _ _ _ _ _ | show ∃ x', _ < _ ∧ _)) | (show AW _ _ (.seq _ _) _ _ _; refine Ai ?_; intro Q1) | (show AW _ _ (.region _ _ false) _ _ _; refine Ad ?_; intro O1) | (show AW _ _ (.cond _ _ _) _ _ _; first | refine Ao Y ?_ | refine Ap Y ?_ | refine Ba Y (fun h => ?_) (fun h => ?_)) | (show AW _ _ (.skip) _ _ _; refine Aj ?_; first | show AW _ _ _ _ _ _ | show ∃ x', _ < _ ∧ _) | (show AW _ _ (.block _ _) _ _ _; refine Ae ?_; intro Q1) | (show AW _ _ (.exit _) _ _ _; refine Al ?_; first | show AW _ _ _ _ _ _ | show ∃ x', _ < _ ∧ _) | (show AW _ _ (.ret) _ _ _; refine Aw ?_; try dsimp only [Ax, Aa, A2, Af])
    | (show DL _ _ _ _ _ _ _; refine Bx Y Y (fun K kt kf => Am hG Y Y Y Y Y kt kf) (fun h => ?_) (fun h => ?_))
    | (show DL _ _ _ _ _ _ _; refine By Y Y Y ?_) | (show DL _ _ _ _ _ _ _; refine Be ?_; first | show AW _ _ _ _ _ _ | show ∃ x', _ < _ ∧ _) | (show AW _ _ (.region _ _ true) _ _ _; refine A3 mix (by kernel_rfl) ?_; intro O1) | fail)
      exact ⟨⟨d + 1, _, by omega, by rw [hst, List.length_append]; omega⟩, by dsimp only; omega, (.cons rfl (.consW rfl (.eq (by dsimp only; rw [hst])) (.cons rfl (.nil _)))), .refl _⟩
  · obtain rfl : d = 7 := by omega
    repeat' (first
    | ((first | (show AL _ _ _ _ _ _ _ _; refine Ag Y ?_) | (show DL _ _ _ _ _ _ _; refine' A8 Y Y (fun K kk => ?_) ?_; try (show Go.Ts.T; rotate_left))); (first
      | refine Aq hG Y Y ?_
      | refine A5 hG Y Y ?_
      | (show AOp _ _ ⟨_, .call ⟨.builtin .len, _, _⟩, _, _, _, _⟩ _ _ _; first | refine Bh hG Y Y Y Y ?_ | refine Bq hG Y Y Y Y Y ?_)
      | (show AOp _ _ ⟨_, .binOp .add _ _ _ _, _, _, _, _⟩ _ _ _; first | refine Ac hG Y Y Y Y Y (by omega) ?_ | refine Ac (m := 1) hG Y Y Y Y Y (by omega) ?_ | refine Ab hG Y Y Y Y Y (by omega) ?_)
      | (show AOp _ _ ⟨_, .binOp _ _ _ _ _, _, _, _, _⟩ _ _ _; first | refine At hG Y Y Y Y Y (by omega) ?_ | refine Au hG Y Y Y Y Y (by omega) ?_ | ((fail_if_success have := kk); refine Am hG Y Y Y Y Y (fun h => ?_) (fun h => ?_)))
      | (show AOp _ _ ⟨_, .load _ _, _, _, _, _⟩ _ _ _; first | refine Ak (α := UInt16) 0 hG Y Y Y Y (by omega) Y ?_ | refine Ak (α := UInt16) 1 hG Y Y Y Y (by omega) Y ?_ | refine Ay hG Y Y Y ?_ | refine Bg 0 hG Y Y Y Y ?_)
      | (show AOp _ _ ⟨_, .indexAddr _ _ _, _, _, _, _⟩ _ _ _; first | refine A1 hG Y Y Y Y Y Y Y (by omega) ?_ | refine A0 hG Y Y Y Y Y Y Y (by omega) ?_ | refine Az hG Y Y Y Y Y Y Y (by omega) ?_ | refine A9 hG Y Y ?_)
      | (show AOp _ _ ⟨_, .slice _ _ _ _ _, _, _, _, _⟩ _ _ _; first | refine B9 hG Y Y Y Y Y Y Y (by omega) ?_ | refine Ca hG Y Y Y Y Y Y Y (by omega) ?_ | refine Cm hG Y Y Y Y Y Y Y (by omega) ?_ | refine Cl hG Y Y Y Y Y Y Y (by omega) ?_ | refine Ck hG Y Y Y Y Y Y Y Y Y Y ?_ | refine r_sl hG Y Y ?_)
      | refine A6 hG Y Y Y ?_
      | (show AOp _ _ ⟨_, .buildSlice _ _ _, _, _, _, _⟩ _ _ _; first | refine r_mk (sz := 1) hG Y Y Y Y Y Y Y ?_)
      | (show AOp _ _ ⟨_, .call ⟨.builtin .append, _, _⟩, _, _, _, _⟩ _ _ _; first | refine Bo (sz := 1) (xs := []) hG Y Y Y Y Y Y Y ⟨_, Y⟩ Y Y Y Y Y Y Y (by first | omega | (simp; omega)) (fun k => ?_) | refine Bp 0 hG Y Y Y Y Y Y Y ⟨_, Y⟩ Y Y Y Y Y (by first | omega | (simp only [List.length_append, List.length_cons, List.length_nil]; omega)) (fun k => ?_) | fail)
      | refine r_q hG Y Y Y ?_); try exact kk)
    | (show AL _ _ _ _ _ _ _ _; first | refine Bk Y Y Y ?_ | (refine Ar ?_; first | show AW _ _ _ _ _ _ | show ∃ x', _ < _ ∧ _)) | (show AW _ _ (.seq _ _) _ _ _; refine Ai ?_; intro Q1) | (show AW _ _ (.region _ _ false) _ _ _; refine Ad ?_; intro O1) | (show AW _ _ (.cond _ _ _) _ _ _; first | refine Ao Y ?_ | refine Ap Y ?_ | refine Ba Y (fun h => ?_) (fun h => ?_)) | (show AW _ _ (.skip) _ _ _; refine Aj ?_; first | show AW _ _ _ _ _ _ | show ∃ x', _ < _ ∧ _) | (show AW _ _ (.block _ _) _ _ _; refine Ae ?_; intro Q1) | (show AW _ _ (.exit _) _ _ _; refine Al ?_; first | show AW _ _ _ _ _ _ | show ∃ x', _ < _ ∧ _) | (show AW _ _ (.ret) _ _ _; refine Aw ?_; try dsimp only [Ax, Aa, A2, Af])
    | (show DL _ _ _ _ _ _ _; refine Bx Y Y (fun K kt kf => Am hG Y Y Y Y Y kt kf) (fun h => ?_) (fun h => ?_))
    | (show DL _ _ _ _ _ _ _; refine By Y Y Y ?_) | (show DL _ _ _ _ _ _ _; refine Be ?_; first | show AW _ _ _ _ _ _ | show ∃ x', _ < _ ∧ _) | (show AW _ _ (.region _ _ true) _ _ _; refine A3 mix (by kernel_rfl) ?_; intro O1) | fail)
    exact Bu (Bm rfl Bl) (.own _ _ _) rfl
structure IrX (r : List Nat) (v : Nat) where
  i : Nat
  hi : i ≤ r.length
  hl : (isort ((r.take i).filter fun id => decide (v ∈ B8 id))).length ≤ i
set_option maxHeartbeats 4000000 in
theorem ref_Inner {l : List OB} {v : Nat} (hl : l.length ≤ 31) (hn : (l.map (·.id)).Nodup) (hrt : ∀ id ∈ refL l 7, id < 18446744073709551616) (hrl : (refL l 7).length ≤ 255) : Ts.Pure Try.prog 13 [.sl 13 .no (l.map oT), mT v] (.sl 1 .no ((isort ((refL l 7).filter fun id => decide (v ∈ B8 id))).map mT)) := by
  have h1 := ref_Reach hl hn
  generalize refL l 7 = r at *
  obtain ⟨R, hR⟩ : ∃ R, isort (r.filter fun id => decide (v ∈ B8 id)) = R := ⟨_, rfl⟩
  rw [hR]
  intro off
  refine Br (N := 57) (rs := [.tmp 4]) hG Try.func13 rfl rfl rfl rfl rfl ?_
  repeat' (first
    | ((first | (show AL _ _ _ _ _ _ _ _; refine Ag Y ?_) | (show DL _ _ _ _ _ _ _; refine' A8 Y Y (fun K kk => ?_) ?_; try (show Go.Ts.T; rotate_left))); (first
      | refine Aq hG Y Y ?_
      | refine A5 hG Y Y ?_
      | (show AOp _ _ ⟨_, .call ⟨.builtin .len, _, _⟩, _, _, _, _⟩ _ _ _; first | refine Bh hG Y Y Y Y ?_ | refine Bq hG Y Y Y Y Y ?_)
      | (show AOp _ _ ⟨_, .binOp .add _ _ _ _, _, _, _, _⟩ _ _ _; first | refine Ac hG Y Y Y Y Y (by omega) ?_ | refine Ac (m := 1) hG Y Y Y Y Y (by omega) ?_ | refine Ab hG Y Y Y Y Y (by omega) ?_)
      | (show AOp _ _ ⟨_, .binOp _ _ _ _ _, _, _, _, _⟩ _ _ _; first | refine At hG Y Y Y Y Y (by omega) ?_ | refine Au hG Y Y Y Y Y (by omega) ?_ | ((fail_if_success have := kk); refine Am hG Y Y Y Y Y (fun h => ?_) (fun h => ?_)))
      | (show AOp _ _ ⟨_, .load _ _, _, _, _, _⟩ _ _ _; first | refine Ak (α := UInt16) 0 hG Y Y Y Y (by omega) Y ?_ | refine Ak (α := UInt16) 1 hG Y Y Y Y (by omega) Y ?_ | refine Ay hG Y Y Y ?_ | refine Bg 0 hG Y Y Y Y ?_)
      | (show AOp _ _ ⟨_, .indexAddr _ _ _, _, _, _, _⟩ _ _ _; first | refine A1 hG Y Y Y Y Y Y Y (by omega) ?_ | refine A0 hG Y Y Y Y Y Y Y (by omega) ?_ | refine Az hG Y Y Y Y Y Y Y (by omega) ?_ | refine A9 hG Y Y ?_)
      | (show AOp _ _ ⟨_, .slice _ _ _ _ _, _, _, _, _⟩ _ _ _; first | refine B9 hG Y Y Y Y Y Y Y (by omega) ?_ | refine Ca hG Y Y Y Y Y Y Y (by omega) ?_ | refine Cm hG Y Y Y Y Y Y Y (by omega) ?_ | refine Cl hG Y Y Y Y Y Y Y (by omega) ?_ | refine Ck hG Y Y Y Y Y Y Y Y Y Y ?_ | refine r_sl hG Y Y ?_)
      | refine A6 hG Y Y Y ?_
      | refine Bs hG Y Y Y ?_
      | (show AOp _ _ ⟨_, .buildSlice _ _ _, _, _, _, _⟩ _ _ _; first | refine r_mk (sz := 1) hG Y Y Y Y Y Y Y ?_)
      | (show AOp _ _ ⟨_, .call ⟨.builtin .append, _, _⟩, _, _, _, _⟩ _ _ _; first | refine Bo (sz := 1) (xs := []) hG Y Y Y Y Y Y Y ⟨_, Y⟩ Y Y Y Y Y Y Y (by first | omega | (simp; omega)) (fun k => ?_) | refine Bp 0 hG Y Y Y Y Y Y Y ⟨_, Y⟩ Y Y Y Y Y (by first | omega | (simp only [List.length_append, List.length_cons, List.length_nil]; omega)) (fun k => ?_) | fail)
      | (show AOp _ _ ⟨_, .call ⟨.value _, _, _⟩, _, _, _, _⟩ _ _ _; first | refine Bn Y Y Y Y Y (by first | (apply h1 <;> (first | assumption | omega | exact A4 _ _ | exact Bd _ | exact A7 _ _ | exact Bi _ | rfl | (simp; omega))) | fail) ?_ | fail)
      | refine r_q hG Y Y Y ?_); try exact kk)
    | (show AL _ _ _ _ _ _ _ _; first | refine Bk Y Y Y ?_ | (refine Ar ?_; first | show AW _ _ _ _ _ _ | show ∃ x', _ < _ ∧ _)) | (show AW _ _ (.seq _ _) _ _ _; refine Ai ?_; intro Q1) | (show AW _ _ (.region _ _ false) _ _ _; refine Ad ?_; intro O1) | (show AW _ _ (.cond _ _ _) _ _ _; first | refine Ao Y ?_ | refine Ap Y ?_ | refine Ba Y (fun h => ?_) (fun h => ?_)) | (show AW _ _ (.skip) _ _ _; refine Aj ?_; first | show AW _ _ _ _ _ _ | show ∃ x', _ < _ ∧ _) | (show AW _ _ (.block _ _) _ _ _; refine Ae ?_; intro Q1) | (show AW _ _ (.exit _) _ _ _; refine Al ?_; first | show AW _ _ _ _ _ _ | show ∃ x', _ < _ ∧ _) | (show AW _ _ (.ret) _ _ _; refine Aw ?_; try dsimp only [Ax, Aa, A2, Af])
    | (show DL _ _ _ _ _ _ _; refine Bx Y Y (fun K kt kf => Am hG Y Y Y Y Y kt kf) (fun h => ?_) (fun h => ?_))
    | (show DL _ _ _ _ _ _ _; refine By Y Y Y ?_) | (show DL _ _ _ _ _ _ _; refine Be ?_; first | show AW _ _ _ _ _ _ | show ∃ x', _ < _ ∧ _) | (show AW _ _ (.region _ _ true) _ _ _; refine A3 mix (by kernel_rfl) ?_; intro O1) | fail)
  refine Ch (X := IrX r v) (fun x => [(1, mT v), (5, .sl 1 .no (r.map mT)), (6, .sl 1 .no ((isort ((r.take x.i).filter fun id => decide (v ∈ B8 id))).map mT)), (7, .int .i64 (x.i : Int))]) (fun x => ⟨[], [], off, none⟩) (fun x => r.length - x.i) ⟨0, Nat.zero_le _, by simp [isort]⟩ (.cons rfl (.cons rfl (.consW rfl (.nil 1) (.cons rfl (.nil _))))) (.refl _) ?_
  rintro ⟨i, hi, hol⟩
  dsimp only at hol ⊢
  by_cases hil : i < r.length
  · have hfs : isort ((r.take (i + 1)).filter fun id => decide (v ∈ B8 id)) = if decide (v ∈ B8 (r.getD i default)) = true then insN (r.getD i default) (isort ((r.take i).filter fun id => decide (v ∈ B8 id))) else isort ((r.take i).filter fun id => decide (v ∈ B8 id)) := by
      rw [filter_take hil]
      split
      · simp [isort]
      · rw [List.append_nil]
    have hid : r.getD i default < 18446744073709551616 := hrt _ (by simp [List.getD, hil])
    have hW := ref_Within (v := v) hid
    generalize isort ((r.take i).filter fun id => decide (v ∈ B8 id)) = row at *
    by_cases hin : v ∈ B8 (r.getD i default)
    · rw [decide_eq_true hin] at hW hfs
      rw [if_pos rfl] at hfs
      repeat' (first
    | ((first | (show AL _ _ _ _ _ _ _ _; refine Ag Y ?_) | (show DL _ _ _ _ _ _ _; refine' A8 Y Y (fun K kk => ?_) ?_; try (show Go.Ts.T; rotate_left))); (first
      | refine Aq hG Y Y ?_
      | refine A5 hG Y Y ?_
      | (show AOp _ _ ⟨_, .call ⟨.builtin .len, _, _⟩, _, _, _, _⟩ _ _ _; first | refine Bh hG Y Y Y Y ?_ | refine Bq hG Y Y Y Y Y ?_)
      | (show AOp _ _ ⟨_, .binOp .add _ _ _ _, _, _, _, _⟩ _ _ _; first | refine Ac hG Y Y Y Y Y (by omega) ?_ | refine Ac (m := 1) hG Y Y Y Y Y (by omega) ?_ | refine Ab hG Y Y Y Y Y (by omega) ?_)
      | (show AOp _ _ ⟨_, .binOp _ _ _ _ _, _, _, _, _⟩ _ _ _; first | refine At hG Y Y Y Y Y (by omega) ?_ | refine Au hG Y Y Y Y Y (by omega) ?_ | ((fail_if_success have := kk); refine Am hG Y Y Y Y Y (fun h => ?_) (fun h => ?_)))
      | (show AOp _ _ ⟨_, .load _ _, _, _, _, _⟩ _ _ _; first | refine Ak (α := UInt16) 0 hG Y Y Y Y (by omega) Y ?_ | refine Ak (α := UInt16) 1 hG Y Y Y Y (by omega) Y ?_ | refine Ay hG Y Y Y ?_ | refine Bg 0 hG Y Y Y Y ?_)
      | (show AOp _ _ ⟨_, .indexAddr _ _ _, _, _, _, _⟩ _ _ _; first | refine A1 hG Y Y Y Y Y Y Y (by omega) ?_ | refine A0 hG Y Y Y Y Y Y Y (by omega) ?_ | refine Az hG Y Y Y Y Y Y Y (by omega) ?_ | refine A9 hG Y Y ?_)
      | (show AOp _ _ ⟨_, .slice _ _ _ _ _, _, _, _, _⟩ _ _ _; first | refine B9 hG Y Y Y Y Y Y Y (by omega) ?_ | refine Ca hG Y Y Y Y Y Y Y (by omega) ?_ | refine Cm hG Y Y Y Y Y Y Y (by omega) ?_ | refine Cl hG Y Y Y Y Y Y Y (by omega) ?_ | refine Ck hG Y Y Y Y Y Y Y Y Y Y ?_ | refine r_sl hG Y Y ?_)
      | refine A6 hG Y Y Y ?_
      | refine Bs hG Y Y Y ?_
      | (show AOp _ _ ⟨_, .buildSlice _ _ _, _, _, _, _⟩ _ _ _; first | refine r_mk (sz := 1) hG Y Y Y Y Y Y Y ?_)
      | (show AOp _ _ ⟨_, .call ⟨.builtin .append, _, _⟩, _, _, _, _⟩ _ _ _; first | refine Bo (sz := 1) (xs := []) hG Y Y Y Y Y Y Y ⟨_, Y⟩ Y Y Y Y Y Y Y (by first | omega | (simp; omega)) (fun k => ?_) | refine Bp 0 hG Y Y Y Y Y Y Y ⟨_, Y⟩ Y Y Y Y Y (by first | omega | (simp only [List.length_append, List.length_cons, List.length_nil]; omega)) (fun k => ?_) | fail)
      | (show AOp _ _ ⟨_, .call ⟨.value _, _, _⟩, _, _, _, _⟩ _ _ _; first | refine Bn Y Y Y Y Y (by first | (apply hW <;> (first | assumption | omega | exact A4 _ _ | exact Bd _ | exact A7 _ _ | exact Bi _ | rfl | (simp; omega))) | fail) ?_ | fail)
      | refine r_q hG Y Y Y ?_); try exact kk)
    | (show AL _ _ _ _ _ _ _ _; first | refine Bk Y Y Y ?_ | (refine Ar ?_; first | show AW _ _ _ _ _ _ | show ∃ x', _ < _ ∧ _)) | (show AW _ _ (.seq _ _) _ _ _; refine Ai ?_; intro Q1) | (show AW _ _ (.region _ _ false) _ _ _; refine Ad ?_; intro O1) | (show AW _ _ (.cond _ _ _) _ _ _; first | refine Ao Y ?_ | refine Ap Y ?_ | refine Ba Y (fun h => ?_) (fun h => ?_)) | (show AW _ _ (.skip) _ _ _; refine Aj ?_; first | show AW _ _ _ _ _ _ | show ∃ x', _ < _ ∧ _) | (show AW _ _ (.block _ _) _ _ _; refine Ae ?_; intro Q1) | (show AW _ _ (.exit _) _ _ _; refine Al ?_; first | show AW _ _ _ _ _ _ | show ∃ x', _ < _ ∧ _) | (show AW _ _ (.ret) _ _ _; refine Aw ?_; try dsimp only [Ax, Aa, A2, Af])
    | (show DL _ _ _ _ _ _ _; refine Bx Y Y (fun K kt kf => Am hG Y Y Y Y Y kt kf) (fun h => ?_) (fun h => ?_))
    | (show DL _ _ _ _ _ _ _; refine By Y Y Y ?_) | (show DL _ _ _ _ _ _ _; refine Be ?_; first | show AW _ _ _ _ _ _ | show ∃ x', _ < _ ∧ _) | (show AW _ _ (.region _ _ true) _ _ _; refine A3 mix (by kernel_rfl) ?_; intro O1) | fail)
      refine Ch (X := RhZ row (r.getD i default)) (fun x => [(1, mT v), (5, .sl 1 .no (r.map mT)), (6, .sl 1 .no (row.map mT)), (7, .int .i64 (i : Int)), (8, .int .i64 (x.k : Int))]) (fun x => ⟨[], [], off, none⟩) (fun x => row.length - x.k) ⟨0, Nat.zero_le _, fun j hj => by omega⟩ (by repeat (first | exact .nil _ | refine .cons rfl ?_)) (.refl _) ?_
      rintro ⟨k, hk, hlt⟩
      dsimp only
      by_cases e1 : k < row.length
      · by_cases e2 : ((row.getD k default : Nat) : Int) < ((r.getD i default : Nat) : Int)
        · repeat' (first
    | ((first | (show AL _ _ _ _ _ _ _ _; refine Ag Y ?_) | (show DL _ _ _ _ _ _ _; refine' A8 Y Y (fun K kk => ?_) ?_; try (show Go.Ts.T; rotate_left))); (first
      | refine Aq hG Y Y ?_
      | refine A5 hG Y Y ?_
      | (show AOp _ _ ⟨_, .call ⟨.builtin .len, _, _⟩, _, _, _, _⟩ _ _ _; first | refine Bh hG Y Y Y Y ?_ | refine Bq hG Y Y Y Y Y ?_)
      | (show AOp _ _ ⟨_, .binOp .add _ _ _ _, _, _, _, _⟩ _ _ _; first | refine Ac hG Y Y Y Y Y (by omega) ?_ | refine Ac (m := 1) hG Y Y Y Y Y (by omega) ?_ | refine Ab hG Y Y Y Y Y (by omega) ?_)
      | (show AOp _ _ ⟨_, .binOp _ _ _ _ _, _, _, _, _⟩ _ _ _; first | refine At hG Y Y Y Y Y (by omega) ?_ | refine Au hG Y Y Y Y Y (by omega) ?_ | ((fail_if_success have := kk); refine Am hG Y Y Y Y Y (fun h => ?_) (fun h => ?_)))
      | (show AOp _ _ ⟨_, .load _ _, _, _, _, _⟩ _ _ _; first | refine Ak (α := UInt16) 0 hG Y Y Y Y (by omega) Y ?_ | refine Ak (α := UInt16) 1 hG Y Y Y Y (by omega) Y ?_ | refine Ay hG Y Y Y ?_ | refine Bg 0 hG Y Y Y Y ?_)
      | (show AOp _ _ ⟨_, .indexAddr _ _ _, _, _, _, _⟩ _ _ _; first | refine A1 hG Y Y Y Y Y Y Y (by omega) ?_ | refine A0 hG Y Y Y Y Y Y Y (by omega) ?_ | refine Az hG Y Y Y Y Y Y Y (by omega) ?_ | refine A9 hG Y Y ?_)
      | (show AOp _ _ ⟨_, .slice _ _ _ _ _, _, _, _, _⟩ _ _ _; first | refine B9 hG Y Y Y Y Y Y Y (by omega) ?_ | refine Ca hG Y Y Y Y Y Y Y (by omega) ?_ | refine Cm hG Y Y Y Y Y Y Y (by omega) ?_ | refine Cl hG Y Y Y Y Y Y Y (by omega) ?_ | refine Ck hG Y Y Y Y Y Y Y Y Y Y ?_ | refine r_sl hG Y Y ?_)
      | refine A6 hG Y Y Y ?_
      | refine Bs hG Y Y Y ?_
      | (show AOp _ _ ⟨_, .buildSlice _ _ _, _, _, _, _⟩ _ _ _; first | refine r_mk (sz := 1) hG Y Y Y Y Y Y Y ?_)
      | (show AOp _ _ ⟨_, .call ⟨.builtin .append, _, _⟩, _, _, _, _⟩ _ _ _; first | refine Bo (sz := 1) (xs := []) hG Y Y Y Y Y Y Y ⟨_, Y⟩ Y Y Y Y Y Y Y (by first | omega | (simp; omega)) (fun k => ?_) | refine Bp 0 hG Y Y Y Y Y Y Y ⟨_, Y⟩ Y Y Y Y Y (by first | omega | (simp only [List.length_append, List.length_cons, List.length_nil]; omega)) (fun k => ?_) | fail)
      | refine r_q hG Y Y Y ?_); try exact kk)
    | (show AL _ _ _ _ _ _ _ _; first | refine Bk Y Y Y ?_ | (refine Ar ?_; first | show AW _ _ _ _ _ _ | show ∃ x', _ < _ ∧ _)) | (show AW _ _ (.seq _ _) _ _ _; refine Ai ?_; intro Q1) | (show AW _ _ (.region _ _ false) _ _ _; refine Ad ?_; intro O1) | (show AW _ _ (.cond _ _ _) _ _ _; first | refine Ao Y ?_ | refine Ap Y ?_ | refine Ba Y (fun h => ?_) (fun h => ?_)) | (show AW _ _ (.skip) _ _ _; refine Aj ?_; first | show AW _ _ _ _ _ _ | show ∃ x', _ < _ ∧ _) | (show AW _ _ (.block _ _) _ _ _; refine Ae ?_; intro Q1) | (show AW _ _ (.exit _) _ _ _; refine Al ?_; first | show AW _ _ _ _ _ _ | show ∃ x', _ < _ ∧ _) | (show AW _ _ (.ret) _ _ _; refine Aw ?_; try dsimp only [Ax, Aa, A2, Af])
    | (show DL _ _ _ _ _ _ _; refine Bx Y Y (fun K kt kf => Am hG Y Y Y Y Y kt kf) (fun h => ?_) (fun h => ?_))
    | (show DL _ _ _ _ _ _ _; refine By Y Y Y ?_) | (show DL _ _ _ _ _ _ _; refine Be ?_; first | show AW _ _ _ _ _ _ | show ∃ x', _ < _ ∧ _) | (show AW _ _ (.region _ _ true) _ _ _; refine A3 mix (by kernel_rfl) ?_; intro O1) | fail)
          refine ⟨⟨k + 1, by omega, fun j hj => ?_⟩, by dsimp only; omega, (by repeat (first | exact .nil _ | refine .cons rfl ?_)), .refl _⟩
          by_cases hj2 : j < k
          · exact hlt j hj2
          · obtain rfl : j = k := by omega
            omega
        · have hsp := insN_split _ row k hk hlt (fun _ => by omega)
          rw [hsp] at hfs
          have n1 : (row.take k).length ≤ 255 := by rw [List.length_take]; omega
          have n2 : (row.drop k).length ≤ 255 := by rw [List.length_drop]; omega
          repeat' (first
    | ((first | (show AL _ _ _ _ _ _ _ _; refine Ag Y ?_) | (show DL _ _ _ _ _ _ _; refine' A8 Y Y (fun K kk => ?_) ?_; try (show Go.Ts.T; rotate_left))); (first
      | refine Aq hG Y Y ?_
      | refine A5 hG Y Y ?_
      | (show AOp _ _ ⟨_, .call ⟨.builtin .len, _, _⟩, _, _, _, _⟩ _ _ _; first | refine Bh hG Y Y Y Y ?_ | refine Bq hG Y Y Y Y Y ?_)
      | (show AOp _ _ ⟨_, .binOp .add _ _ _ _, _, _, _, _⟩ _ _ _; first | refine Ac hG Y Y Y Y Y (by omega) ?_ | refine Ac (m := 1) hG Y Y Y Y Y (by omega) ?_ | refine Ab hG Y Y Y Y Y (by omega) ?_)
      | (show AOp _ _ ⟨_, .binOp _ _ _ _ _, _, _, _, _⟩ _ _ _; first | refine At hG Y Y Y Y Y (by omega) ?_ | refine Au hG Y Y Y Y Y (by omega) ?_ | ((fail_if_success have := kk); refine Am hG Y Y Y Y Y (fun h => ?_) (fun h => ?_)))
      | (show AOp _ _ ⟨_, .load _ _, _, _, _, _⟩ _ _ _; first | refine Ak (α := UInt16) 0 hG Y Y Y Y (by omega) Y ?_ | refine Ak (α := UInt16) 1 hG Y Y Y Y (by omega) Y ?_ | refine Ay hG Y Y Y ?_ | refine Bg 0 hG Y Y Y Y ?_)
      | (show AOp _ _ ⟨_, .indexAddr _ _ _, _, _, _, _⟩ _ _ _; first | refine A1 hG Y Y Y Y Y Y Y (by omega) ?_ | refine A0 hG Y Y Y Y Y Y Y (by omega) ?_ | refine Az hG Y Y Y Y Y Y Y (by omega) ?_ | refine A9 hG Y Y ?_)
      | (show AOp _ _ ⟨_, .slice _ _ _ _ _, _, _, _, _⟩ _ _ _; first | refine B9 hG Y Y Y Y Y Y Y (by omega) ?_ | refine Ca hG Y Y Y Y Y Y Y (by omega) ?_ | refine Cm hG Y Y Y Y Y Y Y (by omega) ?_ | refine Cl hG Y Y Y Y Y Y Y (by omega) ?_ | refine Ck hG Y Y Y Y Y Y Y Y Y Y ?_ | refine r_sl hG Y Y ?_)
      | refine A6 hG Y Y Y ?_
      | refine Bs hG Y Y Y ?_
      | (show AOp _ _ ⟨_, .buildSlice _ _ _, _, _, _, _⟩ _ _ _; first | refine r_mk (sz := 1) hG Y Y Y Y Y Y Y ?_)
      | (show AOp _ _ ⟨_, .call ⟨.builtin .append, _, _⟩, _, _, _, _⟩ _ _ _; first | refine Bo (sz := 1) (xs := []) hG Y Y Y Y Y Y Y ⟨_, Y⟩ Y Y Y Y Y Y Y (by first | omega | (simp; omega)) (fun k => ?_) | refine Bp 0 hG Y Y Y Y Y Y Y ⟨_, Y⟩ Y Y Y Y Y (by first | omega | (simp only [List.length_append, List.length_cons, List.length_nil]; omega)) (fun k => ?_) | fail)
      | refine r_q hG Y Y Y ?_); try exact kk)
    | (show AL _ _ _ _ _ _ _ _; first | refine Bk Y Y Y ?_ | (refine Ar ?_; first | show AW _ _ _ _ _ _ | show ∃ x', _ < _ ∧ _)) | (show AW _ _ (.seq _ _) _ _ _; refine Ai ?_; intro Q1) | (show AW _ _ (.region _ _ false) _ _ _; (fail_if_success show AW _ _ (.region 10 _ _) _ _ _); refine Ad ?_; intro O1) | (show AW _ _ (.cond _ _ _) _ _ _; first | refine Ao Y ?_ | refine Ap Y ?_ | refine Ba Y (fun h => ?_) (fun h => ?_)) | (show AW _ _ (.skip) _ _ _; refine Aj ?_; first | show AW _ _ _ _ _ _ | show ∃ x', _ < _ ∧ _) | (show AW _ _ (.block _ _) _ _ _; refine Ae ?_; intro Q1) | (show AW _ _ (.exit _) _ _ _; refine Al ?_; first | show AW _ _ _ _ _ _ | show ∃ x', _ < _ ∧ _) | (show AW _ _ (.ret) _ _ _; refine Aw ?_; try dsimp only [Ax, Aa, A2, Af])
    | (show DL _ _ _ _ _ _ _; refine Bx Y Y (fun K kt kf => Am hG Y Y Y Y Y kt kf) (fun h => ?_) (fun h => ?_))
    | (show DL _ _ _ _ _ _ _; refine By Y Y Y ?_) | (show DL _ _ _ _ _ _ _; refine Be ?_; first | show AW _ _ _ _ _ _ | show ∃ x', _ < _ ∧ _) | (show AW _ _ (.region _ _ true) _ _ _; (fail_if_success show AW _ _ (.region 10 _ _) _ _ _); refine A3 mix (by kernel_rfl) ?_; intro O1) | fail)
          refine aw_drawE' (m := 15) [4, 10, 14] (fun σ => ∃ R, σ = ⟨[], R, off, none⟩) mix rfl (by repeat (first | exact Sp.zero _ | apply Sp.succ)) ?_; intro O1 F1 Z1 Q2
          repeat' (first
    | (refine' dq_cons Y Y Y (fun σ hσ K kk => ?_) ?_; (try (show Go.Ts.T; rotate_left)); (obtain ⟨R, rfl⟩ := hσ); (first
      | refine Aq hG Y Y ?_
      | refine A5 hG Y Y ?_
      | (show AOp _ _ ⟨_, .call ⟨.builtin .len, _, _⟩, _, _, _, _⟩ _ _ _; first | refine Bh hG Y Y Y Y ?_ | refine Bq hG Y Y Y Y Y ?_)
      | (show AOp _ _ ⟨_, .binOp .add _ _ _ _, _, _, _, _⟩ _ _ _; first | refine Ac hG Y Y Y Y Y (by omega) ?_ | refine Ac (m := 1) hG Y Y Y Y Y (by omega) ?_ | refine Ab hG Y Y Y Y Y (by omega) ?_)
      | (show AOp _ _ ⟨_, .binOp _ _ _ _ _, _, _, _, _⟩ _ _ _; first | refine At hG Y Y Y Y Y (by omega) ?_ | refine Au hG Y Y Y Y Y (by omega) ?_)
      | (show AOp _ _ ⟨_, .load _ _, _, _, _, _⟩ _ _ _; first | refine Ak (α := UInt16) 0 hG Y Y Y Y (by omega) Y ?_ | refine Ak (α := UInt16) 1 hG Y Y Y Y (by omega) Y ?_ | refine Ay hG Y Y Y ?_ | refine Bg 0 hG Y Y Y Y ?_)
      | (show AOp _ _ ⟨_, .indexAddr _ _ _, _, _, _, _⟩ _ _ _; first | refine A1 hG Y Y Y Y Y Y Y (by omega) ?_ | refine A0 hG Y Y Y Y Y Y Y (by omega) ?_ | refine Az hG Y Y Y Y Y Y Y (by omega) ?_ | refine A9 hG Y Y ?_)
      | (show AOp _ _ ⟨_, .slice _ _ _ _ _, _, _, _, _⟩ _ _ _; first | refine B9 hG Y Y Y Y Y Y Y (by omega) ?_ | refine Ca hG Y Y Y Y Y Y Y (by omega) ?_ | refine Cm hG Y Y Y Y Y Y Y (by omega) ?_ | refine Cl hG Y Y Y Y Y Y Y (by omega) ?_ | refine Ck hG Y Y Y Y Y Y Y Y Y Y ?_ | refine r_sl hG Y Y ?_)
      | refine A6 hG Y Y Y ?_
      | refine Bs hG Y Y Y ?_
      | (show AOp _ _ ⟨_, .buildSlice _ _ _, _, _, _, _⟩ _ _ _; first | refine r_mk (sz := 1) hG Y Y Y Y Y Y Y ?_)
      | (show AOp _ _ ⟨_, .call ⟨.builtin .append, _, _⟩, _, _, _, _⟩ _ _ _; first | refine Bp 0 (ys := [r.getD i default]) hG Y Y Y Y Y Y Y ⟨_, Y⟩ Y Y Y Y Y (by simp only [List.length_append, List.length_map, List.length_cons, List.length_nil]; omega) (fun k => ?_) | refine Bp 0 (ys := (row.drop k)) hG Y Y Y Y Y Y Y ⟨_, Y⟩ Y Y Y Y Y (by simp only [List.length_append, List.length_map, List.length_cons, List.length_nil]; omega) (fun k => ?_) | refine Bo (sz := 1) (xs := []) hG Y Y Y Y Y Y Y ⟨_, Y⟩ Y Y Y Y Y Y Y (by first | omega | (simp; omega)) (fun k => ?_) | refine Bp 0 hG Y Y Y Y Y Y Y ⟨_, Y⟩ Y Y Y Y Y (by first | omega | (simp only [List.length_append, List.length_cons, List.length_nil]; omega)) (fun k => ?_) | fail)
      | refine r_q hG Y Y Y ?_); exact kk)
    | refine dq_d Y Y Y (fun σ hσ K kt kf => by obtain ⟨R, rfl⟩ := hσ; exact Am hG Y Y Y Y Y kt kf) (fun h => ?_) (fun h => ?_)
    | refine dq_d Y Y Y (fun σ hσ K kt kf => by obtain ⟨R, rfl⟩ := hσ; exact r_str hG Y Y Y Y kt kf) (fun h => ?_) (fun h => ?_)
    | refine dq_s Y Y Y Y ?_ | refine dq_e Y ?_ | (refine dq_nil ?_; show EL _ _ _ _ _ _ _ _ _) | refine el_s ⟨_, Y⟩ Y Y Y Y ?_
    | ((first | refine el_cons ⟨_, Y⟩ Y Y Y (fun K ke => ?_) | refine Cf ⟨_, Y⟩ Y Y Y (fun K ke => ?_)); (first
      | refine Aq hG Y Y ?_
      | refine A5 hG Y Y ?_
      | (show AOp _ _ ⟨_, .call ⟨.builtin .len, _, _⟩, _, _, _, _⟩ _ _ _; first | refine Bh hG Y Y Y Y ?_ | refine Bq hG Y Y Y Y Y ?_)
      | (show AOp _ _ ⟨_, .binOp .add _ _ _ _, _, _, _, _⟩ _ _ _; first | refine Ac hG Y Y Y Y Y (by omega) ?_ | refine Ac (m := 1) hG Y Y Y Y Y (by omega) ?_ | refine Ab hG Y Y Y Y Y (by omega) ?_)
      | (show AOp _ _ ⟨_, .binOp _ _ _ _ _, _, _, _, _⟩ _ _ _; first | refine At hG Y Y Y Y Y (by omega) ?_ | refine Au hG Y Y Y Y Y (by omega) ?_)
      | (show AOp _ _ ⟨_, .load _ _, _, _, _, _⟩ _ _ _; first | refine Ak (α := UInt16) 0 hG Y Y Y Y (by omega) Y ?_ | refine Ak (α := UInt16) 1 hG Y Y Y Y (by omega) Y ?_ | refine Ay hG Y Y Y ?_ | refine Bg 0 hG Y Y Y Y ?_)
      | (show AOp _ _ ⟨_, .indexAddr _ _ _, _, _, _, _⟩ _ _ _; first | refine A1 hG Y Y Y Y Y Y Y (by omega) ?_ | refine A0 hG Y Y Y Y Y Y Y (by omega) ?_ | refine Az hG Y Y Y Y Y Y Y (by omega) ?_ | refine A9 hG Y Y ?_)
      | (show AOp _ _ ⟨_, .slice _ _ _ _ _, _, _, _, _⟩ _ _ _; first | refine B9 hG Y Y Y Y Y Y Y (by omega) ?_ | refine Ca hG Y Y Y Y Y Y Y (by omega) ?_ | refine Cm hG Y Y Y Y Y Y Y (by omega) ?_ | refine Cl hG Y Y Y Y Y Y Y (by omega) ?_ | refine Ck hG Y Y Y Y Y Y Y Y Y Y ?_ | refine r_sl hG Y Y ?_)
      | refine A6 hG Y Y Y ?_
      | refine Bs hG Y Y Y ?_
      | (show AOp _ _ ⟨_, .buildSlice _ _ _, _, _, _, _⟩ _ _ _; first | refine r_mk (sz := 1) hG Y Y Y Y Y Y Y ?_)
      | (show AOp _ _ ⟨_, .call ⟨.builtin .append, _, _⟩, _, _, _, _⟩ _ _ _; first | refine Bp 0 (ys := [r.getD i default]) hG Y Y Y Y Y Y Y ⟨_, Y⟩ Y Y Y Y Y (by simp only [List.length_append, List.length_map, List.length_cons, List.length_nil]; omega) (fun k => ?_) | refine Bp 0 (ys := (row.drop k)) hG Y Y Y Y Y Y Y ⟨_, Y⟩ Y Y Y Y Y (by simp only [List.length_append, List.length_map, List.length_cons, List.length_nil]; omega) (fun k => ?_) | refine Bo (sz := 1) (xs := []) hG Y Y Y Y Y Y Y ⟨_, Y⟩ Y Y Y Y Y Y Y (by first | omega | (simp; omega)) (fun k => ?_) | refine Bp 0 hG Y Y Y Y Y Y Y ⟨_, Y⟩ Y Y Y Y Y (by first | omega | (simp only [List.length_append, List.length_cons, List.length_nil]; omega)) (fun k => ?_) | fail)
      | refine r_q hG Y Y Y ?_); refine ke _ _ ?_)
    | (refine el_nil ⟨_, Y⟩ ?_; show AL _ _ _ _ _ _ _ _) | fail)
          repeat' (first
    | ((first | (show AL _ _ _ _ _ _ _ _; refine Ag Y ?_) | (show DL _ _ _ _ _ _ _; refine' A8 Y Y (fun K kk => ?_) ?_; try (show Go.Ts.T; rotate_left))); (first
      | refine Aq hG Y Y ?_
      | refine A5 hG Y Y ?_
      | (show AOp _ _ ⟨_, .call ⟨.builtin .len, _, _⟩, _, _, _, _⟩ _ _ _; first | refine Bh hG Y Y Y Y ?_ | refine Bq hG Y Y Y Y Y ?_)
      | (show AOp _ _ ⟨_, .binOp .add _ _ _ _, _, _, _, _⟩ _ _ _; first | refine Ac hG Y Y Y Y Y (by omega) ?_ | refine Ac (m := 1) hG Y Y Y Y Y (by omega) ?_ | refine Ab hG Y Y Y Y Y (by omega) ?_)
      | (show AOp _ _ ⟨_, .binOp _ _ _ _ _, _, _, _, _⟩ _ _ _; first | refine At hG Y Y Y Y Y (by omega) ?_ | refine Au hG Y Y Y Y Y (by omega) ?_ | ((fail_if_success have := kk); refine Am hG Y Y Y Y Y (fun h => ?_) (fun h => ?_)))
      | (show AOp _ _ ⟨_, .load _ _, _, _, _, _⟩ _ _ _; first | refine Ak (α := UInt16) 0 hG Y Y Y Y (by omega) Y ?_ | refine Ak (α := UInt16) 1 hG Y Y Y Y (by omega) Y ?_ | refine Ay hG Y Y Y ?_ | refine Bg 0 hG Y Y Y Y ?_)
      | (show AOp _ _ ⟨_, .indexAddr _ _ _, _, _, _, _⟩ _ _ _; first | refine A1 hG Y Y Y Y Y Y Y (by omega) ?_ | refine A0 hG Y Y Y Y Y Y Y (by omega) ?_ | refine Az hG Y Y Y Y Y Y Y (by omega) ?_ | refine A9 hG Y Y ?_)
      | (show AOp _ _ ⟨_, .slice _ _ _ _ _, _, _, _, _⟩ _ _ _; first | refine B9 hG Y Y Y Y Y Y Y (by omega) ?_ | refine Ca hG Y Y Y Y Y Y Y (by omega) ?_ | refine Cm hG Y Y Y Y Y Y Y (by omega) ?_ | refine Cl hG Y Y Y Y Y Y Y (by omega) ?_ | refine Ck hG Y Y Y Y Y Y Y Y Y Y ?_ | refine r_sl hG Y Y ?_)
      | refine A6 hG Y Y Y ?_
      | refine Bs hG Y Y Y ?_
      | (show AOp _ _ ⟨_, .buildSlice _ _ _, _, _, _, _⟩ _ _ _; first | refine r_mk (sz := 1) hG Y Y Y Y Y Y Y ?_)
      | (show AOp _ _ ⟨_, .call ⟨.builtin .append, _, _⟩, _, _, _, _⟩ _ _ _; first | refine Bo (sz := 1) (xs := []) hG Y Y Y Y Y Y Y ⟨_, Y⟩ Y Y Y Y Y Y Y (by first | omega | (simp; omega)) (fun k => ?_) | refine Bp 0 hG Y Y Y Y Y Y Y ⟨_, Y⟩ Y Y Y Y Y (by first | omega | (simp only [List.length_append, List.length_cons, List.length_nil]; omega)) (fun k => ?_) | fail)
      | refine r_q hG Y Y Y ?_); try exact kk)
    | (show AL _ _ _ _ _ _ _ _; first | refine Bk Y Y Y ?_ | (refine Ar ?_; first | show AW _ _ _ _ _ _ | show ∃ x', _ < _ ∧ _)) | (show AW _ _ (.seq _ _) _ _ _; refine Ai ?_; intro Q1) | (show AW _ _ (.region _ _ false) _ _ _; refine Ad ?_; intro O1) | (show AW _ _ (.cond _ _ _) _ _ _; first | refine Ao Y ?_ | refine Ap Y ?_ | refine Ba Y (fun h => ?_) (fun h => ?_)) | (show AW _ _ (.skip) _ _ _; refine Aj ?_; first | show AW _ _ _ _ _ _ | show ∃ x', _ < _ ∧ _) | (show AW _ _ (.block _ _) _ _ _; refine Ae ?_; intro Q1) | (show AW _ _ (.exit _) _ _ _; refine Al ?_; first | show AW _ _ _ _ _ _ | show ∃ x', _ < _ ∧ _) | (show AW _ _ (.ret) _ _ _; refine Aw ?_; try dsimp only [Ax, Aa, A2, Af])
    | (show DL _ _ _ _ _ _ _; refine Bx Y Y (fun K kt kf => Am hG Y Y Y Y Y kt kf) (fun h => ?_) (fun h => ?_))
    | (show DL _ _ _ _ _ _ _; refine By Y Y Y ?_) | (show DL _ _ _ _ _ _ _; refine Be ?_; first | show AW _ _ _ _ _ _ | show ∃ x', _ < _ ∧ _) | (show AW _ _ (.region _ _ true) _ _ _; refine A3 mix (by kernel_rfl) ?_; intro O1) | fail)
          exact ⟨⟨i + 1, by omega, by rw [hfs, List.length_append, List.length_append, List.length_take, List.length_drop]; simp; omega⟩, by dsimp only; omega, (.cons rfl (.cons rfl (.consW rfl (by dsimp only; rw [hfs]; exact .own _ _ _) (.cons rfl (.nil _))))), keep_step (L' := []) (R' := []) (List.nil_sublist _) (List.nil_sublist _)⟩
      · have hsp := insN_split _ row k hk hlt (fun _ => by omega)
        rw [hsp] at hfs
        have n1 : (row.take k).length ≤ 255 := by rw [List.length_take]; omega
        have n2 : (row.drop k).length ≤ 255 := by rw [List.length_drop]; omega
        repeat' (first
    | ((first | (show AL _ _ _ _ _ _ _ _; refine Ag Y ?_) | (show DL _ _ _ _ _ _ _; refine' A8 Y Y (fun K kk => ?_) ?_; try (show Go.Ts.T; rotate_left))); (first
      | refine Aq hG Y Y ?_
      | refine A5 hG Y Y ?_
      | (show AOp _ _ ⟨_, .call ⟨.builtin .len, _, _⟩, _, _, _, _⟩ _ _ _; first | refine Bh hG Y Y Y Y ?_ | refine Bq hG Y Y Y Y Y ?_)
      | (show AOp _ _ ⟨_, .binOp .add _ _ _ _, _, _, _, _⟩ _ _ _; first | refine Ac hG Y Y Y Y Y (by omega) ?_ | refine Ac (m := 1) hG Y Y Y Y Y (by omega) ?_ | refine Ab hG Y Y Y Y Y (by omega) ?_)
      | (show AOp _ _ ⟨_, .binOp _ _ _ _ _, _, _, _, _⟩ _ _ _; first | refine At hG Y Y Y Y Y (by omega) ?_ | refine Au hG Y Y Y Y Y (by omega) ?_ | ((fail_if_success have := kk); refine Am hG Y Y Y Y Y (fun h => ?_) (fun h => ?_)))
      | (show AOp _ _ ⟨_, .load _ _, _, _, _, _⟩ _ _ _; first | refine Ak (α := UInt16) 0 hG Y Y Y Y (by omega) Y ?_ | refine Ak (α := UInt16) 1 hG Y Y Y Y (by omega) Y ?_ | refine Ay hG Y Y Y ?_ | refine Bg 0 hG Y Y Y Y ?_)
      | (show AOp _ _ ⟨_, .indexAddr _ _ _, _, _, _, _⟩ _ _ _; first | refine A1 hG Y Y Y Y Y Y Y (by omega) ?_ | refine A0 hG Y Y Y Y Y Y Y (by omega) ?_ | refine Az hG Y Y Y Y Y Y Y (by omega) ?_ | refine A9 hG Y Y ?_)
      | (show AOp _ _ ⟨_, .slice _ _ _ _ _, _, _, _, _⟩ _ _ _; first | refine B9 hG Y Y Y Y Y Y Y (by omega) ?_ | refine Ca hG Y Y Y Y Y Y Y (by omega) ?_ | refine Cm hG Y Y Y Y Y Y Y (by omega) ?_ | refine Cl hG Y Y Y Y Y Y Y (by omega) ?_ | refine Ck hG Y Y Y Y Y Y Y Y Y Y ?_ | refine r_sl hG Y Y ?_)
      | refine A6 hG Y Y Y ?_
      | refine Bs hG Y Y Y ?_
      | (show AOp _ _ ⟨_, .buildSlice _ _ _, _, _, _, _⟩ _ _ _; first | refine r_mk (sz := 1) hG Y Y Y Y Y Y Y ?_)
      | (show AOp _ _ ⟨_, .call ⟨.builtin .append, _, _⟩, _, _, _, _⟩ _ _ _; first | refine Bo (sz := 1) (xs := []) hG Y Y Y Y Y Y Y ⟨_, Y⟩ Y Y Y Y Y Y Y (by first | omega | (simp; omega)) (fun k => ?_) | refine Bp 0 hG Y Y Y Y Y Y Y ⟨_, Y⟩ Y Y Y Y Y (by first | omega | (simp only [List.length_append, List.length_cons, List.length_nil]; omega)) (fun k => ?_) | fail)
      | refine r_q hG Y Y Y ?_); try exact kk)
    | (show AL _ _ _ _ _ _ _ _; first | refine Bk Y Y Y ?_ | (refine Ar ?_; first | show AW _ _ _ _ _ _ | show ∃ x', _ < _ ∧ _)) | (show AW _ _ (.seq _ _) _ _ _; refine Ai ?_; intro Q1) | (show AW _ _ (.region _ _ false) _ _ _; (fail_if_success show AW _ _ (.region 10 _ _) _ _ _); refine Ad ?_; intro O1) | (show AW _ _ (.cond _ _ _) _ _ _; first | refine Ao Y ?_ | refine Ap Y ?_ | refine Ba Y (fun h => ?_) (fun h => ?_)) | (show AW _ _ (.skip) _ _ _; refine Aj ?_; first | show AW _ _ _ _ _ _ | show ∃ x', _ < _ ∧ _) | (show AW _ _ (.block _ _) _ _ _; refine Ae ?_; intro Q1) | (show AW _ _ (.exit _) _ _ _; refine Al ?_; first | show AW _ _ _ _ _ _ | show ∃ x', _ < _ ∧ _) | (show AW _ _ (.ret) _ _ _; refine Aw ?_; try dsimp only [Ax, Aa, A2, Af])
    | (show DL _ _ _ _ _ _ _; refine Bx Y Y (fun K kt kf => Am hG Y Y Y Y Y kt kf) (fun h => ?_) (fun h => ?_))
    | (show DL _ _ _ _ _ _ _; refine By Y Y Y ?_) | (show DL _ _ _ _ _ _ _; refine Be ?_; first | show AW _ _ _ _ _ _ | show ∃ x', _ < _ ∧ _) | (show AW _ _ (.region _ _ true) _ _ _; (fail_if_success show AW _ _ (.region 10 _ _) _ _ _); refine A3 mix (by kernel_rfl) ?_; intro O1) | fail)
        refine aw_drawE' (m := 15) [4, 10, 14] (fun σ => ∃ R, σ = ⟨[], R, off, none⟩) mix rfl (by repeat (first | exact Sp.zero _ | apply Sp.succ)) ?_; intro O1 F1 Z1 Q2
        repeat' (first
    | (refine' dq_cons Y Y Y (fun σ hσ K kk => ?_) ?_; (try (show Go.Ts.T; rotate_left)); (obtain ⟨R, rfl⟩ := hσ); (first
      | refine Aq hG Y Y ?_
      | refine A5 hG Y Y ?_
      | (show AOp _ _ ⟨_, .call ⟨.builtin .len, _, _⟩, _, _, _, _⟩ _ _ _; first | refine Bh hG Y Y Y Y ?_ | refine Bq hG Y Y Y Y Y ?_)
      | (show AOp _ _ ⟨_, .binOp .add _ _ _ _, _, _, _, _⟩ _ _ _; first | refine Ac hG Y Y Y Y Y (by omega) ?_ | refine Ac (m := 1) hG Y Y Y Y Y (by omega) ?_ | refine Ab hG Y Y Y Y Y (by omega) ?_)
      | (show AOp _ _ ⟨_, .binOp _ _ _ _ _, _, _, _, _⟩ _ _ _; first | refine At hG Y Y Y Y Y (by omega) ?_ | refine Au hG Y Y Y Y Y (by omega) ?_)
      | (show AOp _ _ ⟨_, .load _ _, _, _, _, _⟩ _ _ _; first | refine Ak (α := UInt16) 0 hG Y Y Y Y (by omega) Y ?_ | refine Ak (α := UInt16) 1 hG Y Y Y Y (by omega) Y ?_ | refine Ay hG Y Y Y ?_ | refine Bg 0 hG Y Y Y Y ?_)
      | (show AOp _ _ ⟨_, .indexAddr _ _ _, _, _, _, _⟩ _ _ _; first | refine A1 hG Y Y Y Y Y Y Y (by omega) ?_ | refine A0 hG Y Y Y Y Y Y Y (by omega) ?_ | refine Az hG Y Y Y Y Y Y Y (by omega) ?_ | refine A9 hG Y Y ?_)
      | (show AOp _ _ ⟨_, .slice _ _ _ _ _, _, _, _, _⟩ _ _ _; first | refine B9 hG Y Y Y Y Y Y Y (by omega) ?_ | refine Ca hG Y Y Y Y Y Y Y (by omega) ?_ | refine Cm hG Y Y Y Y Y Y Y (by omega) ?_ | refine Cl hG Y Y Y Y Y Y Y (by omega) ?_ | refine Ck hG Y Y Y Y Y Y Y Y Y Y ?_ | refine r_sl hG Y Y ?_)
      | refine A6 hG Y Y Y ?_
      | refine Bs hG Y Y Y ?_
      | (show AOp _ _ ⟨_, .buildSlice _ _ _, _, _, _, _⟩ _ _ _; first | refine r_mk (sz := 1) hG Y Y Y Y Y Y Y ?_)
      | (show AOp _ _ ⟨_, .call ⟨.builtin .append, _, _⟩, _, _, _, _⟩ _ _ _; first | refine Bp 0 (ys := [r.getD i default]) hG Y Y Y Y Y Y Y ⟨_, Y⟩ Y Y Y Y Y (by simp only [List.length_append, List.length_map, List.length_cons, List.length_nil]; omega) (fun k => ?_) | refine Bp 0 (ys := (row.drop k)) hG Y Y Y Y Y Y Y ⟨_, Y⟩ Y Y Y Y Y (by simp only [List.length_append, List.length_map, List.length_cons, List.length_nil]; omega) (fun k => ?_) | refine Bo (sz := 1) (xs := []) hG Y Y Y Y Y Y Y ⟨_, Y⟩ Y Y Y Y Y Y Y (by first | omega | (simp; omega)) (fun k => ?_) | refine Bp 0 hG Y Y Y Y Y Y Y ⟨_, Y⟩ Y Y Y Y Y (by first | omega | (simp only [List.length_append, List.length_cons, List.length_nil]; omega)) (fun k => ?_) | fail)
      | refine r_q hG Y Y Y ?_); exact kk)
    | refine dq_d Y Y Y (fun σ hσ K kt kf => by obtain ⟨R, rfl⟩ := hσ; exact Am hG Y Y Y Y Y kt kf) (fun h => ?_) (fun h => ?_)
    | refine dq_d Y Y Y (fun σ hσ K kt kf => by obtain ⟨R, rfl⟩ := hσ; exact r_str hG Y Y Y Y kt kf) (fun h => ?_) (fun h => ?_)
    | refine dq_s Y Y Y Y ?_ | refine dq_e Y ?_ | (refine dq_nil ?_; show EL _ _ _ _ _ _ _ _ _) | refine el_s ⟨_, Y⟩ Y Y Y Y ?_
    | ((first | refine el_cons ⟨_, Y⟩ Y Y Y (fun K ke => ?_) | refine Cf ⟨_, Y⟩ Y Y Y (fun K ke => ?_)); (first
      | refine Aq hG Y Y ?_
      | refine A5 hG Y Y ?_
      | (show AOp _ _ ⟨_, .call ⟨.builtin .len, _, _⟩, _, _, _, _⟩ _ _ _; first | refine Bh hG Y Y Y Y ?_ | refine Bq hG Y Y Y Y Y ?_)
      | (show AOp _ _ ⟨_, .binOp .add _ _ _ _, _, _, _, _⟩ _ _ _; first | refine Ac hG Y Y Y Y Y (by omega) ?_ | refine Ac (m := 1) hG Y Y Y Y Y (by omega) ?_ | refine Ab hG Y Y Y Y Y (by omega) ?_)
      | (show AOp _ _ ⟨_, .binOp _ _ _ _ _, _, _, _, _⟩ _ _ _; first | refine At hG Y Y Y Y Y (by omega) ?_ | refine Au hG Y Y Y Y Y (by omega) ?_)
      | (show AOp _ _ ⟨_, .load _ _, _, _, _, _⟩ _ _ _; first | refine Ak (α := UInt16) 0 hG Y Y Y Y (by omega) Y ?_ | refine Ak (α := UInt16) 1 hG Y Y Y Y (by omega) Y ?_ | refine Ay hG Y Y Y ?_ | refine Bg 0 hG Y Y Y Y ?_)
      | (show AOp _ _ ⟨_, .indexAddr _ _ _, _, _, _, _⟩ _ _ _; first | refine A1 hG Y Y Y Y Y Y Y (by omega) ?_ | refine A0 hG Y Y Y Y Y Y Y (by omega) ?_ | refine Az hG Y Y Y Y Y Y Y (by omega) ?_ | refine A9 hG Y Y ?_)
      | (show AOp _ _ ⟨_, .slice _ _ _ _ _, _, _, _, _⟩ _ _ _; first | refine B9 hG Y Y Y Y Y Y Y (by omega) ?_ | refine Ca hG Y Y Y Y Y Y Y (by omega) ?_ | refine Cm hG Y Y Y Y Y Y Y (by omega) ?_ | refine Cl hG Y Y Y Y Y Y Y (by omega) ?_ | refine Ck hG Y Y Y Y Y Y Y Y Y Y ?_ | refine r_sl hG Y Y ?_)
      | refine A6 hG Y Y Y ?_
      | refine Bs hG Y Y Y ?_
      | (show AOp _ _ ⟨_, .buildSlice _ _ _, _, _, _, _⟩ _ _ _; first | refine r_mk (sz := 1) hG Y Y Y Y Y Y Y ?_)
      | (show AOp _ _ ⟨_, .call ⟨.builtin .append, _, _⟩, _, _, _, _⟩ _ _ _; first | refine Bp 0 (ys := [r.getD i default]) hG Y Y Y Y Y Y Y ⟨_, Y⟩ Y Y Y Y Y (by simp only [List.length_append, List.length_map, List.length_cons, List.length_nil]; omega) (fun k => ?_) | refine Bp 0 (ys := (row.drop k)) hG Y Y Y Y Y Y Y ⟨_, Y⟩ Y Y Y Y Y (by simp only [List.length_append, List.length_map, List.length_cons, List.length_nil]; omega) (fun k => ?_) | refine Bo (sz := 1) (xs := []) hG Y Y Y Y Y Y Y ⟨_, Y⟩ Y Y Y Y Y Y Y (by first | omega | (simp; omega)) (fun k => ?_) | refine Bp 0 hG Y Y Y Y Y Y Y ⟨_, Y⟩ Y Y Y Y Y (by first | omega | (simp only [List.length_append, List.length_cons, List.length_nil]; omega)) (fun k => ?_) | fail)
      | refine r_q hG Y Y Y ?_); refine ke _ _ ?_)
    | (refine el_nil ⟨_, Y⟩ ?_; show AL _ _ _ _ _ _ _ _) | fail)
        repeat' (first
    | ((first | (show AL _ _ _ _ _ _ _ _; refine Ag Y ?_) | (show DL _ _ _ _ _ _ _; refine' A8 Y Y (fun K kk => ?_) ?_; try (show Go.Ts.T; rotate_left))); (first
      | refine Aq hG Y Y ?_
      | refine A5 hG Y Y ?_
      | (show AOp _ _ ⟨_, .call ⟨.builtin .len, _, _⟩, _, _, _, _⟩ _ _ _; first | refine Bh hG Y Y Y Y ?_ | refine Bq hG Y Y Y Y Y ?_)
      | (show AOp _ _ ⟨_, .binOp .add _ _ _ _, _, _, _, _⟩ _ _ _; first | refine Ac hG Y Y Y Y Y (by omega) ?_ | refine Ac (m := 1) hG Y Y Y Y Y (by omega) ?_ | refine Ab hG Y Y Y Y Y (by omega) ?_)
      | (show AOp _ _ ⟨_, .binOp _ _ _ _ _, _, _, _, _⟩ _ _ _; first | refine At hG Y Y Y Y Y (by omega) ?_ | refine Au hG Y Y Y Y Y (by omega) ?_ | ((fail_if_success have := kk); refine Am hG Y Y Y Y Y (fun h => ?_) (fun h => ?_)))
      | (show AOp _ _ ⟨_, .load _ _, _, _, _, _⟩ _ _ _; first | refine Ak (α := UInt16) 0 hG Y Y Y Y (by omega) Y ?_ | refine Ak (α := UInt16) 1 hG Y Y Y Y (by omega) Y ?_ | refine Ay hG Y Y Y ?_ | refine Bg 0 hG Y Y Y Y ?_)
      | (show AOp _ _ ⟨_, .indexAddr _ _ _, _, _, _, _⟩ _ _ _; first | refine A1 hG Y Y Y Y Y Y Y (by omega) ?_ | refine A0 hG Y Y Y Y Y Y Y (by omega) ?_ | refine Az hG Y Y Y Y Y Y Y (by omega) ?_ | refine A9 hG Y Y ?_)
      | (show AOp _ _ ⟨_, .slice _ _ _ _ _, _, _, _, _⟩ _ _ _; first | refine B9 hG Y Y Y Y Y Y Y (by omega) ?_ | refine Ca hG Y Y Y Y Y Y Y (by omega) ?_ | refine Cm hG Y Y Y Y Y Y Y (by omega) ?_ | refine Cl hG Y Y Y Y Y Y Y (by omega) ?_ | refine Ck hG Y Y Y Y Y Y Y Y Y Y ?_ | refine r_sl hG Y Y ?_)
      | refine A6 hG Y Y Y ?_
      | refine Bs hG Y Y Y ?_
      | (show AOp _ _ ⟨_, .buildSlice _ _ _, _, _, _, _⟩ _ _ _; first | refine r_mk (sz := 1) hG Y Y Y Y Y Y Y ?_)
      | (show AOp _ _ ⟨_, .call ⟨.builtin .append, _, _⟩, _, _, _, _⟩ _ _ _; first | refine Bo (sz := 1) (xs := []) hG Y Y Y Y Y Y Y ⟨_, Y⟩ Y Y Y Y Y Y Y (by first | omega | (simp; omega)) (fun k => ?_) | refine Bp 0 hG Y Y Y Y Y Y Y ⟨_, Y⟩ Y Y Y Y Y (by first | omega | (simp only [List.length_append, List.length_cons, List.length_nil]; omega)) (fun k => ?_) | fail)
      | refine r_q hG Y Y Y ?_); try exact kk)
    | (show AL _ _ _ _ _ _ _ _; first | refine Bk Y Y Y ?_ | (refine Ar ?_; first | show AW _ _ _ _ _ _ | show ∃ x', _ < _ ∧ _)) | (show AW _ _ (.seq _ _) _ _ _; refine Ai ?_; intro Q1) | (show AW _ _ (.region _ _ false) _ _ _; refine Ad ?_; intro O1) | (show AW _ _ (.cond _ _ _) _ _ _; first | refine Ao Y ?_ | refine Ap Y ?_ | refine Ba Y (fun h => ?_) (fun h => ?_)) | (show AW _ _ (.skip) _ _ _; refine Aj ?_; first | show AW _ _ _ _ _ _ | show ∃ x', _ < _ ∧ _) | (show AW _ _ (.block _ _) _ _ _; refine Ae ?_; intro Q1) | (show AW _ _ (.exit _) _ _ _; refine Al ?_; first | show AW _ _ _ _ _ _ | show ∃ x', _ < _ ∧ _) | (show AW _ _ (.ret) _ _ _; refine Aw ?_; try dsimp only [Ax, Aa, A2, Af])
    | (show DL _ _ _ _ _ _ _; refine Bx Y Y (fun K kt kf => Am hG Y Y Y Y Y kt kf) (fun h => ?_) (fun h => ?_))
    | (show DL _ _ _ _ _ _ _; refine By Y Y Y ?_) | (show DL _ _ _ _ _ _ _; refine Be ?_; first | show AW _ _ _ _ _ _ | show ∃ x', _ < _ ∧ _) | (show AW _ _ (.region _ _ true) _ _ _; refine A3 mix (by kernel_rfl) ?_; intro O1) | fail)
        exact ⟨⟨i + 1, by omega, by rw [hfs, List.length_append, List.length_append, List.length_take, List.length_drop]; simp; omega⟩, by dsimp only; omega, (.cons rfl (.cons rfl (.consW rfl (by dsimp only; rw [hfs]; exact .own _ _ _) (.cons rfl (.nil _))))), keep_step (L' := []) (R' := []) (List.nil_sublist _) (List.nil_sublist _)⟩
    · rw [decide_eq_false hin] at hW hfs
      rw [if_neg (by simp)] at hfs
      repeat' (first
    | ((first | (show AL _ _ _ _ _ _ _ _; refine Ag Y ?_) | (show DL _ _ _ _ _ _ _; refine' A8 Y Y (fun K kk => ?_) ?_; try (show Go.Ts.T; rotate_left))); (first
      | refine Aq hG Y Y ?_
      | refine A5 hG Y Y ?_
      | (show AOp _ _ ⟨_, .call ⟨.builtin .len, _, _⟩, _, _, _, _⟩ _ _ _; first | refine Bh hG Y Y Y Y ?_ | refine Bq hG Y Y Y Y Y ?_)
      | (show AOp _ _ ⟨_, .binOp .add _ _ _ _, _, _, _, _⟩ _ _ _; first | refine Ac hG Y Y Y Y Y (by omega) ?_ | refine Ac (m := 1) hG Y Y Y Y Y (by omega) ?_ | refine Ab hG Y Y Y Y Y (by omega) ?_)
      | (show AOp _ _ ⟨_, .binOp _ _ _ _ _, _, _, _, _⟩ _ _ _; first | refine At hG Y Y Y Y Y (by omega) ?_ | refine Au hG Y Y Y Y Y (by omega) ?_ | ((fail_if_success have := kk); refine Am hG Y Y Y Y Y (fun h => ?_) (fun h => ?_)))
      | (show AOp _ _ ⟨_, .load _ _, _, _, _, _⟩ _ _ _; first | refine Ak (α := UInt16) 0 hG Y Y Y Y (by omega) Y ?_ | refine Ak (α := UInt16) 1 hG Y Y Y Y (by omega) Y ?_ | refine Ay hG Y Y Y ?_ | refine Bg 0 hG Y Y Y Y ?_)
      | (show AOp _ _ ⟨_, .indexAddr _ _ _, _, _, _, _⟩ _ _ _; first | refine A1 hG Y Y Y Y Y Y Y (by omega) ?_ | refine A0 hG Y Y Y Y Y Y Y (by omega) ?_ | refine Az hG Y Y Y Y Y Y Y (by omega) ?_ | refine A9 hG Y Y ?_)
      | (show AOp _ _ ⟨_, .slice _ _ _ _ _, _, _, _, _⟩ _ _ _; first | refine B9 hG Y Y Y Y Y Y Y (by omega) ?_ | refine Ca hG Y Y Y Y Y Y Y (by omega) ?_ | refine Cm hG Y Y Y Y Y Y Y (by omega) ?_ | refine Cl hG Y Y Y Y Y Y Y (by omega) ?_ | refine Ck hG Y Y Y Y Y Y Y Y Y Y ?_ | refine r_sl hG Y Y ?_)
      | refine A6 hG Y Y Y ?_
      | refine Bs hG Y Y Y ?_
      | (show AOp _ _ ⟨_, .buildSlice _ _ _, _, _, _, _⟩ _ _ _; first | refine r_mk (sz := 1) hG Y Y Y Y Y Y Y ?_)
      | (show AOp _ _ ⟨_, .call ⟨.builtin .append, _, _⟩, _, _, _, _⟩ _ _ _; first | refine Bo (sz := 1) (xs := []) hG Y Y Y Y Y Y Y ⟨_, Y⟩ Y Y Y Y Y Y Y (by first | omega | (simp; omega)) (fun k => ?_) | refine Bp 0 hG Y Y Y Y Y Y Y ⟨_, Y⟩ Y Y Y Y Y (by first | omega | (simp only [List.length_append, List.length_cons, List.length_nil]; omega)) (fun k => ?_) | fail)
      | (show AOp _ _ ⟨_, .call ⟨.value _, _, _⟩, _, _, _, _⟩ _ _ _; first | refine Bn Y Y Y Y Y (by first | (apply hW <;> (first | assumption | omega | exact A4 _ _ | exact Bd _ | exact A7 _ _ | exact Bi _ | rfl | (simp; omega))) | fail) ?_ | fail)
      | refine r_q hG Y Y Y ?_); try exact kk)
    | (show AL _ _ _ _ _ _ _ _; first | refine Bk Y Y Y ?_ | (refine Ar ?_; first | show AW _ _ _ _ _ _ | show ∃ x', _ < _ ∧ _)) | (show AW _ _ (.seq _ _) _ _ _; refine Ai ?_; intro Q1) | (show AW _ _ (.region _ _ false) _ _ _; refine Ad ?_; intro O1) | (show AW _ _ (.cond _ _ _) _ _ _; first | refine Ao Y ?_ | refine Ap Y ?_ | refine Ba Y (fun h => ?_) (fun h => ?_)) | (show AW _ _ (.skip) _ _ _; refine Aj ?_; first | show AW _ _ _ _ _ _ | show ∃ x', _ < _ ∧ _) | (show AW _ _ (.block _ _) _ _ _; refine Ae ?_; intro Q1) | (show AW _ _ (.exit _) _ _ _; refine Al ?_; first | show AW _ _ _ _ _ _ | show ∃ x', _ < _ ∧ _) | (show AW _ _ (.ret) _ _ _; refine Aw ?_; try dsimp only [Ax, Aa, A2, Af])
    | (show DL _ _ _ _ _ _ _; refine Bx Y Y (fun K kt kf => Am hG Y Y Y Y Y kt kf) (fun h => ?_) (fun h => ?_))
    | (show DL _ _ _ _ _ _ _; refine By Y Y Y ?_) | (show DL _ _ _ _ _ _ _; refine Be ?_; first | show AW _ _ _ _ _ _ | show ∃ x', _ < _ ∧ _) | (show AW _ _ (.region _ _ true) _ _ _; refine A3 mix (by kernel_rfl) ?_; intro O1) | fail)
      exact ⟨⟨i + 1, by omega, by rw [hfs]; omega⟩, by dsimp only; omega, (.cons rfl (.cons rfl (.consW rfl (.eq (by rw [hfs])) (.cons rfl (.nil _))))), .refl _⟩
  · rw [List.take_of_length_le (by omega), hR]
    repeat' (first
    | ((first | (show AL _ _ _ _ _ _ _ _; refine Ag Y ?_) | (show DL _ _ _ _ _ _ _; refine' A8 Y Y (fun K kk => ?_) ?_; try (show Go.Ts.T; rotate_left))); (first
      | refine Aq hG Y Y ?_
      | refine A5 hG Y Y ?_
      | (show AOp _ _ ⟨_, .call ⟨.builtin .len, _, _⟩, _, _, _, _⟩ _ _ _; first | refine Bh hG Y Y Y Y ?_ | refine Bq hG Y Y Y Y Y ?_)
      | (show AOp _ _ ⟨_, .binOp .add _ _ _ _, _, _, _, _⟩ _ _ _; first | refine Ac hG Y Y Y Y Y (by omega) ?_ | refine Ac (m := 1) hG Y Y Y Y Y (by omega) ?_ | refine Ab hG Y Y Y Y Y (by omega) ?_)
      | (show AOp _ _ ⟨_, .binOp _ _ _ _ _, _, _, _, _⟩ _ _ _; first | refine At hG Y Y Y Y Y (by omega) ?_ | refine Au hG Y Y Y Y Y (by omega) ?_ | ((fail_if_success have := kk); refine Am hG Y Y Y Y Y (fun h => ?_) (fun h => ?_)))
      | (show AOp _ _ ⟨_, .load _ _, _, _, _, _⟩ _ _ _; first | refine Ak (α := UInt16) 0 hG Y Y Y Y (by omega) Y ?_ | refine Ak (α := UInt16) 1 hG Y Y Y Y (by omega) Y ?_ | refine Ay hG Y Y Y ?_ | refine Bg 0 hG Y Y Y Y ?_)
      | (show AOp _ _ ⟨_, .indexAddr _ _ _, _, _, _, _⟩ _ _ _; first | refine A1 hG Y Y Y Y Y Y Y (by omega) ?_ | refine A0 hG Y Y Y Y Y Y Y (by omega) ?_ | refine Az hG Y Y Y Y Y Y Y (by omega) ?_ | refine A9 hG Y Y ?_)
      | (show AOp _ _ ⟨_, .slice _ _ _ _ _, _, _, _, _⟩ _ _ _; first | refine B9 hG Y Y Y Y Y Y Y (by omega) ?_ | refine Ca hG Y Y Y Y Y Y Y (by omega) ?_ | refine Cm hG Y Y Y Y Y Y Y (by omega) ?_ | refine Cl hG Y Y Y Y Y Y Y (by omega) ?_ | refine Ck hG Y Y Y Y Y Y Y Y Y Y ?_ | refine r_sl hG Y Y ?_)
      | refine A6 hG Y Y Y ?_
      | refine Bs hG Y Y Y ?_
      | (show AOp _ _ ⟨_, .buildSlice _ _ _, _, _, _, _⟩ _ _ _; first | refine r_mk (sz := 1) hG Y Y Y Y Y Y Y ?_)
      | (show AOp _ _ ⟨_, .call ⟨.builtin .append, _, _⟩, _, _, _, _⟩ _ _ _; first | refine Bo (sz := 1) (xs := []) hG Y Y Y Y Y Y Y ⟨_, Y⟩ Y Y Y Y Y Y Y (by first | omega | (simp; omega)) (fun k => ?_) | refine Bp 0 hG Y Y Y Y Y Y Y ⟨_, Y⟩ Y Y Y Y Y (by first | omega | (simp only [List.length_append, List.length_cons, List.length_nil]; omega)) (fun k => ?_) | fail)
      | refine r_q hG Y Y Y ?_); try exact kk)
    | (show AL _ _ _ _ _ _ _ _; first | refine Bk Y Y Y ?_ | (refine Ar ?_; first | show AW _ _ _ _ _ _ | show ∃ x', _ < _ ∧ _)) | (show AW _ _ (.seq _ _) _ _ _; refine Ai ?_; intro Q1) | (show AW _ _ (.region _ _ false) _ _ _; refine Ad ?_; intro O1) | (show AW _ _ (.cond _ _ _) _ _ _; first | refine Ao Y ?_ | refine Ap Y ?_ | refine Ba Y (fun h => ?_) (fun h => ?_)) | (show AW _ _ (.skip) _ _ _; refine Aj ?_; first | show AW _ _ _ _ _ _ | show ∃ x', _ < _ ∧ _) | (show AW _ _ (.block _ _) _ _ _; refine Ae ?_; intro Q1) | (show AW _ _ (.exit _) _ _ _; refine Al ?_; first | show AW _ _ _ _ _ _ | show ∃ x', _ < _ ∧ _) | (show AW _ _ (.ret) _ _ _; refine Aw ?_; try dsimp only [Ax, Aa, A2, Af])
    | (show DL _ _ _ _ _ _ _; refine Bx Y Y (fun K kt kf => Am hG Y Y Y Y Y kt kf) (fun h => ?_) (fun h => ?_))
    | (show DL _ _ _ _ _ _ _; refine By Y Y Y ?_) | (show DL _ _ _ _ _ _ _; refine Be ?_; first | show AW _ _ _ _ _ _ | show ∃ x', _ < _ ∧ _) | (show AW _ _ (.region _ _ true) _ _ _; refine A3 mix (by kernel_rfl) ?_; intro O1) | fail)
    exact Bu (Bm rfl Bl) (.refl _) rfl
end Go.Proofs.Ytmckbfdklcmogaa
namespace Go.Proofs.Ytmckbfdklcmogaa
open Go.Ts
set_option linter.unusedSimpArgs false
set_option linter.unusedVariables false
set_option linter.unnecessarySimpa false
attribute [local irreducible] Go.Ts.AW Go.Ts.AOps Go.Ts.AL Go.Ts.AOp Go.Ts.ACalls Go.Ts.DL Go.Ts.DQ0 Go.Ts.EL
theorem hasB_iff (l : List OB) (id : Nat) : hasB l id = true ↔ hasO l id := by
  unfold hasB hasO
  rw [decide_eq_true_eq, List.mem_map]
theorem boxB_iff (l : List OB) (id : Nat) : boxB l id = true ↔ boxO l id := by
  unfold boxB boxO
  simp [List.any_eq_true]
theorem chk_snoc (l : List OB) (x : Nat) : ∀ p : List Nat, chk l (p ++ [x]) = ((p.all fun y => hasB l y && boxB l y) && hasB l x)
  | [] => by simp [chk]
  | y :: p => by
    have ih := chk_snoc l x p
    cases p with
    | nil => simp [chk]
    | cons z q =>
      simp only [List.cons_append] at ih ⊢
      rw [chk, ih]
      simp only [List.all_cons, Bool.and_assoc]
theorem path_last {id : Nat} {ns : List Nat} (h : nm 6 id = some ns) : ∃ q, B8 id = q ++ [id] := by
  cases ns with
  | nil =>
    have h1 := (nm_path 6 id _ h).1
    refine ⟨[], ?_⟩
    rw [B8, h]
    simp [pathF] at h1 ⊢; exact h1
  | cons x ns => exact ⟨_, (path_par h).1⟩
theorem path_nm {id : Nat} (h : 0 < (B8 id).length) : ∃ ns, nm 6 id = some ns ∧ (B8 id).length = ns.length + 1 := by
  unfold B8 at *
  cases e : nm 6 id with
  | none => rw [e] at h; simp at h
  | some ns => exact ⟨ns, rfl, by simp [pathF_len]⟩
theorem at_iff (l : List OB) : ∀ d id, (hasO l id ∧ 0 < (B8 id).length ∧ (B8 id).length - 1 = d ∧ chk l (B8 id) = true) ↔ Rd l d id
  | 0, id => by
    constructor
    · rintro ⟨h1, h2, h3, h4⟩
      obtain ⟨ns, h5, h6⟩ := path_nm h2
      have h7 := (nm_path 6 id ns h5).1
      obtain rfl : ns = [] := List.length_eq_zero_iff.1 (by omega)
      obtain rfl : 1 = id := by simpa [pathF] using h7
      exact ⟨rfl, h1⟩
    · rintro ⟨rfl, h⟩
      have hp : B8 1 = [1] := by rw [B8, nm_one]; rfl
      rw [hp]
      exact ⟨h, by simp, rfl, by rw [chk]; exact (hasB_iff l 1).2 h⟩
  | d + 1, id => by
    have ih := at_iff l d
    constructor
    · rintro ⟨h1, h2, h3, h4⟩
      obtain ⟨ns, h5, h6⟩ := path_nm h2
      cases ns with
      | nil => simp at h6; omega
      | cons x ns =>
        obtain ⟨h7, h8⟩ := path_par h5
        obtain ⟨q, hq⟩ := path_last h8
        rw [h7, chk_snoc, hq] at h4
        simp only [List.all_append, List.all_cons, List.all_nil, Bool.and_true, Bool.and_eq_true] at h4
        obtain ⟨⟨h9, h10, h11⟩, h12⟩ := h4
        refine ⟨h1, by rw [h5]; rfl, (ih _).1 ⟨(hasB_iff l _).1 h10, by rw [hq]; simp, ?_, ?_⟩, (boxB_iff l _).1 h11⟩
        · rw [h7] at h3; simp at h3; omega
        · rw [hq, chk_snoc, h9, h10]; rfl
    · rintro ⟨h1, h2, h3, h4⟩
      obtain ⟨g1, g2, g3, g4⟩ := (ih _).2 h3
      obtain ⟨ns, h5, h6⟩ := Rd_depth h3
      obtain ⟨x, h7⟩ := par_depth h5
      obtain ⟨h8, h9⟩ := path_par h7
      obtain ⟨q, hq⟩ := path_last h9
      rw [hq, chk_snoc] at g4
      simp only [Bool.and_eq_true] at g4
      refine ⟨h1, by rw [h8]; simp, by rw [h8]; simp; omega, ?_⟩
      rw [h8, chk_snoc, hq]
      simp only [List.all_append, List.all_cons, List.all_nil, Bool.and_true, Bool.and_eq_true]
      exact ⟨⟨g4.1, g4.2, (boxB_iff l _).2 h4⟩, (hasB_iff l _).2 h1⟩
theorem rowD_lev {l : List OB} (hn : (l.map (·.id)).Nodup) (d : Nat) : rowD l d l.length = lev (kinds l) d := by
  unfold rowD
  rw [List.take_length, ← srtL_isort]
  refine up_ext (srtL_up (((List.filter_sublist (p := atD l d)).map _).nodup hn)) (lev_up l d) fun id => ?_
  rw [(srtL_spec _).1.mem_iff, lev_mem, ← at_iff, List.mem_map]
  constructor
  · rintro ⟨o, ho, rfl⟩
    obtain ⟨h1, h2⟩ := List.mem_filter.1 ho
    simp only [atD, Bool.and_eq_true, decide_eq_true_eq] at h2
    exact ⟨⟨o, h1, rfl⟩, h2.1.1, h2.1.2, h2.2⟩
  · rintro ⟨⟨o, h1, rfl⟩, h2, h3, h4⟩
    refine ⟨o, List.mem_filter.2 ⟨h1, ?_⟩, rfl⟩
    simp only [atD, Bool.and_eq_true, decide_eq_true_eq]
    exact ⟨⟨h2, h3⟩, h4⟩
theorem refL_reach {l : List OB} (hn : (l.map (·.id)).Nodup) : refL l 7 = reachL l := by
  have h : ∀ d, refL l d = levs (kinds l) 0 d := by
    intro d
    induction d with
    | zero => rfl
    | succ d ih => rw [refL, levs_snoc, ih, rowD_lev hn, Nat.zero_add]
  rw [h, reachL_levs, levs_snoc (kinds l) 7 0]
  have : lev (kinds l) (0 + 7) = [] := by
    refine List.eq_nil_iff_forall_not_mem.2 fun id hid => ?_
    obtain ⟨ns, h1, h2⟩ := Rd_depth ((lev_mem l _ id).1 hid)
    have := (nm_path 6 id ns h1).2.1
    omega
  rw [this, List.append_nil]
set_option maxHeartbeats 1000000 in
theorem walkAll_pure {l : List OB} {v : Nat} (hl : l.length ≤ bigLen) : Ts.Pure Try.prog 3 [.sl 13 .no (l.map oT), mT v] (.bool true) := by
  have h0 := c_begun
  intro off
  by_cases h30 : 30 < l.length
  · refine Br (N := 29) (rs := [.tmp 4]) hG Try.func3 rfl rfl rfl rfl rfl ?_
    repeat' (first
    | ((show AL _ _ _ _ _ _ _ _; refine Ag Y ?_); (first
      | refine Aq hG Y Y ?_
      | refine A5 hG Y Y ?_
      | (show AOp _ _ ⟨_, .call ⟨.builtin .len, _, _⟩, _, _, _, _⟩ _ _ _; first | refine Bh hG Y Y Y Y ?_ | refine Bq hG Y Y Y Y Y ?_)
      | (show AOp _ _ ⟨_, .binOp _ _ _ _ _, _, _, _, _⟩ _ _ _; first | refine At hG Y Y Y Y Y (by omega) ?_ | refine Au hG Y Y Y Y Y (by omega) ?_ | (refine Am hG Y Y Y Y Y (fun h => ?_) (fun h => ?_)))
      | refine A6 hG Y Y Y ?_
      | refine Bs hG Y Y Y ?_
      | (show AOp _ _ ⟨_, .call ⟨.value _, _, _⟩, _, _, _, _⟩ _ _ _; first | refine Bn Y Y Y Y Y (by first | (apply h0 <;> (first | assumption | omega | exact A4 _ _ | exact Bd _ | exact A7 _ _ | exact Bi _ | rfl | (simp; omega))) | fail) ?_ | fail)
      | refine r_q hG Y Y Y ?_))
    | (show AL _ _ _ _ _ _ _ _; first | refine Bk Y Y Y ?_ | (refine Ar ?_; first | show AW _ _ _ _ _ _ | show ∃ x', _ < _ ∧ _)) | (show AW _ _ (.seq _ _) _ _ _; refine Ai ?_; intro Q1) | (show AW _ _ (.region _ _ false) _ _ _; refine Ad ?_; intro O1) | (show AW _ _ (.cond _ _ _) _ _ _; first | refine Ao Y ?_ | refine Ap Y ?_ | refine Ba Y (fun h => ?_) (fun h => ?_)) | (show AW _ _ (.skip) _ _ _; refine Aj ?_; first | show AW _ _ _ _ _ _ | show ∃ x', _ < _ ∧ _) | (show AW _ _ (.ret) _ _ _; refine Aw ?_; try dsimp only [Ax, Aa, A2, Af]) | fail)
    exact Bu (Bm rfl Bl) (.refl _) rfl
  have h1 := law_apart (l := l) (by omega)
  by_cases hap : (l.map (·.id)).Nodup
  case neg =>
    rw [decide_eq_false hap] at h1
    refine Br (N := 29) (rs := [.tmp 4]) hG Try.func3 rfl rfl rfl rfl rfl ?_
    repeat' (first
    | ((show AL _ _ _ _ _ _ _ _; refine Ag Y ?_); (first
      | refine Aq hG Y Y ?_
      | refine A5 hG Y Y ?_
      | (show AOp _ _ ⟨_, .call ⟨.builtin .len, _, _⟩, _, _, _, _⟩ _ _ _; first | refine Bh hG Y Y Y Y ?_ | refine Bq hG Y Y Y Y Y ?_)
      | (show AOp _ _ ⟨_, .binOp _ _ _ _ _, _, _, _, _⟩ _ _ _; first | refine At hG Y Y Y Y Y (by omega) ?_ | refine Au hG Y Y Y Y Y (by omega) ?_ | (refine Am hG Y Y Y Y Y (fun h => ?_) (fun h => ?_)))
      | refine A6 hG Y Y Y ?_
      | refine Bs hG Y Y Y ?_
      | (show AOp _ _ ⟨_, .call ⟨.value _, _, _⟩, _, _, _, _⟩ _ _ _; first | refine Bn Y Y Y Y Y (by first | (apply h0 <;> (first | assumption | omega | exact A4 _ _ | exact Bd _ | exact A7 _ _ | exact Bi _ | rfl | (simp; omega))) | fail) ?_ | refine Bn Y Y Y Y Y (by first | (apply h1 <;> (first | assumption | omega | exact A4 _ _ | exact Bd _ | exact A7 _ _ | exact Bi _ | rfl | (simp; omega))) | fail) ?_ | fail)
      | refine r_q hG Y Y Y ?_))
    | (show AL _ _ _ _ _ _ _ _; first | refine Bk Y Y Y ?_ | (refine Ar ?_; first | show AW _ _ _ _ _ _ | show ∃ x', _ < _ ∧ _)) | (show AW _ _ (.seq _ _) _ _ _; refine Ai ?_; intro Q1) | (show AW _ _ (.region _ _ false) _ _ _; refine Ad ?_; intro O1) | (show AW _ _ (.cond _ _ _) _ _ _; first | refine Ao Y ?_ | refine Ap Y ?_ | refine Ba Y (fun h => ?_) (fun h => ?_)) | (show AW _ _ (.skip) _ _ _; refine Aj ?_; first | show AW _ _ _ _ _ _ | show ∃ x', _ < _ ∧ _) | (show AW _ _ (.ret) _ _ _; refine Aw ?_; try dsimp only [Ax, Aa, A2, Af]) | fail)
    exact Bu (Bm rfl Bl) (.refl _) rfl
  rw [decide_eq_true hap] at h1
  have hre := refL_reach hap
  have hr := reachO (own := .no) (l := l) (R := reachL l) (by omega) rfl
  have hrl := reachL_len (l := l) (by omega)
  have hrt := reachL_lt l
  have hf := ref_Reach (l := l) (by omega) hap
  have hi := ref_Inner (l := l) (v := v) (by omega) hap (by rw [hre]; exact hrt) (by rw [hre]; exact hrl)
  have hw := withinO (own := .no) (l := l) (v := v) (by omega) rfl
  rw [hre, ← srtL_isort, show srtL ((reachL l).filter fun id => decide (v ∈ B8 id)) = withinL l v from rfl] at hi
  rw [hre] at hf
  have hwl : (withinL l v).length ≤ 255 := by
    unfold withinL; rw [srtL_len]; exact Nat.le_trans (List.length_filter_le _ _) hrl
  generalize reachL l = r at *
  generalize withinL l v = w at *
  have s1 := ref_SameIDs (a := r) (b := r) (idsT_map .no _) (idsT_map .no _) (by omega) (by omega)
  have s2 := ref_SameIDs (a := w) (b := w) (idsT_map .no _) (idsT_map .no _) (by omega) (by omega)
  rw [decide_eq_true rfl] at s1 s2
  refine Br (N := 29) (rs := [.tmp 4]) hG Try.func3 rfl rfl rfl rfl rfl ?_
  repeat' (first
    | ((show AL _ _ _ _ _ _ _ _; refine Ag Y ?_); (first
      | refine Aq hG Y Y ?_
      | refine A5 hG Y Y ?_
      | (show AOp _ _ ⟨_, .call ⟨.builtin .len, _, _⟩, _, _, _, _⟩ _ _ _; first | refine Bh hG Y Y Y Y ?_ | refine Bq hG Y Y Y Y Y ?_)
      | (show AOp _ _ ⟨_, .binOp _ _ _ _ _, _, _, _, _⟩ _ _ _; first | refine At hG Y Y Y Y Y (by omega) ?_ | refine Au hG Y Y Y Y Y (by omega) ?_ | (refine Am hG Y Y Y Y Y (fun h => ?_) (fun h => ?_)))
      | refine A6 hG Y Y Y ?_
      | refine Bs hG Y Y Y ?_
      | (show AOp _ _ ⟨_, .call ⟨.value _, _, _⟩, _, _, _, _⟩ _ _ _; first | refine Bn Y Y Y Y Y (by first | (apply h0 <;> (first | assumption | omega | exact A4 _ _ | exact Bd _ | exact A7 _ _ | exact Bi _ | rfl | (simp; omega))) | fail) ?_ | refine Bn Y Y Y Y Y (by first | (apply h1 <;> (first | assumption | omega | exact A4 _ _ | exact Bd _ | exact A7 _ _ | exact Bi _ | rfl | (simp; omega))) | fail) ?_ | refine Bn Y Y Y Y Y (by first | (apply hr <;> (first | assumption | omega | exact A4 _ _ | exact Bd _ | exact A7 _ _ | exact Bi _ | rfl | (simp; omega))) | fail) ?_ | refine Bn Y Y Y Y Y (by first | (apply hf <;> (first | assumption | omega | exact A4 _ _ | exact Bd _ | exact A7 _ _ | exact Bi _ | rfl | (simp; omega))) | fail) ?_ | refine Bn Y Y Y Y Y (by first | (apply hi <;> (first | assumption | omega | exact A4 _ _ | exact Bd _ | exact A7 _ _ | exact Bi _ | rfl | (simp; omega))) | fail) ?_ | refine Bn Y Y Y Y Y (by first | (apply hw <;> (first | assumption | omega | exact A4 _ _ | exact Bd _ | exact A7 _ _ | exact Bi _ | rfl | (simp; omega))) | fail) ?_ | refine Bn Y Y Y Y Y (by first | (apply s1 <;> (first | assumption | omega | exact A4 _ _ | exact Bd _ | exact A7 _ _ | exact Bi _ | rfl | (simp; omega))) | fail) ?_ | refine Bn Y Y Y Y Y (by first | (apply s2 <;> (first | assumption | omega | exact A4 _ _ | exact Bd _ | exact A7 _ _ | exact Bi _ | rfl | (simp; omega))) | fail) ?_ | fail)
      | refine r_q hG Y Y Y ?_))
    | (show AL _ _ _ _ _ _ _ _; first | refine Bk Y Y Y ?_ | (refine Ar ?_; first | show AW _ _ _ _ _ _ | show ∃ x', _ < _ ∧ _)) | (show AW _ _ (.seq _ _) _ _ _; refine Ai ?_; intro Q1) | (show AW _ _ (.region _ _ false) _ _ _; refine Ad ?_; intro O1) | (show AW _ _ (.cond _ _ _) _ _ _; first | refine Ao Y ?_ | refine Ap Y ?_ | refine Ba Y (fun h => ?_) (fun h => ?_)) | (show AW _ _ (.skip) _ _ _; refine Aj ?_; first | show AW _ _ _ _ _ _ | show ∃ x', _ < _ ∧ _) | (show AW _ _ (.ret) _ _ _; refine Aw ?_; try dsimp only [Ax, Aa, A2, Af]) | fail)
  exact Bu (Bm rfl Bl) (.refl _) rfl
theorem walkAll_law (_W : World) (x : T) (tx : ArgTy G 6 22 x) (n : Int) (wn : (Lit.int .u64 n).wf = true) : ACalls Try.prog 3 [x, .int .u64 n] σ0 (fun r _ => r = .bool true) := by
  obtain ⟨l, rfl, hl⟩ := argTy_obs tx
  have u := wf_u64 wn
  rw [show T.int .u64 n = mT n.toNat by unfold mT; congr 1; omega]
  exact (walkAll_pure hl (fun _ _ => False)).mono fun _ _ h => h.1
end Go.Proofs.Ytmckbfdklcmogaa
