/- Part of the proof of the law Object1Kinds: the texts LC, P6, P7, P8, PP, P9. No conditions. -/
import Derived.Test.YtemgmkoggnjgjaaObject1KindsE
set_option linter.unusedSimpArgs false
set_option linter.unusedVariables false
namespace Go.Proofs.Ytemgmkoggnjgjaa
open Go.Ts
set_option linter.unusedSimpArgs false
set_option linter.unusedVariables false
attribute [local irreducible] Go.Ts.AW Go.Ts.AOps Go.Ts.AL Go.Ts.AOp Go.Ts.ACalls Go.Ts.DL Go.Ts.DQ Go.Ts.EL
def tlT (r : TL) : T := .tup [.agg [bT r.df, .sl 2 .no (r.ps.map pT)], .int .i64 r.n, .int .i64 r.e]
structure LtX (b : List UInt8) where
  left : Nat
  h256 : left < 256
  acc : List PR
  p : Nat
  q : Nat
  h2 : ¬ b.length < 2
  hp : p ≤ b.length
  hr : takeP b left acc p = takeP b (b.getD 1 default).toNat [] 2
  k : Option Nat
  hk : k = none → acc = []
  hacc : acc.length + left = (b.getD 1 default).toNat
set_option maxHeartbeats 2000000 in
theorem lcode_Take {x : T} {b : List UInt8} (hx : bytesT x = some b) (hl : b.length ≤ 4294967296) : Ts.Pure Try.prog 57 [x] (tlT (Cb b)) := by
  refine Pure.weak (us := [sT b]) ?_ (wk1 (bytesT_wk hx))
  intro off
  refine By (N := 59) (rs := [.cell 2 27, .tmp 3, .tmp 4]) hG Try.func57 rfl rfl rfl rfl rfl ?_
  repeat' (first
    | ((first | (show AL _ _ _ _ _ _ _ _; refine Ae Y ?_) | (show DL _ _ _ _ _ _ _; refine' Bp Y Y (fun K kk => ?_) ?_; try (show Go.Ts.T; rotate_left))); (first
      | (show AOp _ _ ⟨_, .move _, _, _, _, _⟩ _ _ _; refine Am hG Y Y ?_)
      | (show AOp _ _ ⟨_, .assign _, _, _, _, _⟩ _ _ _; refine A9 hG Y Y ?_)
      | (show AOp _ _ ⟨_, .call ⟨.builtin .len, _, _⟩, _, _, _, _⟩ _ _ _; first | refine A7 hG Y Y Y Y ?_ | refine Be hG Y Y Y Y Y ?_)
      | (show AOp _ _ ⟨_, .binOp .add _ _ _ _, _, _, _, _⟩ _ _ _; first | refine Ao hG Y Y Y Y Y (by omega) ?_)
      | (show AOp _ _ ⟨_, .binOp .sub _ _ _ _, _, _, _, _⟩ _ _ _; first | refine Ao hG Y Y Y Y Y (by omega) ?_)
      | (show AOp _ _ ⟨_, .binOp _ _ _ _ _, _, _, _, _⟩ _ _ _; first | refine As hG Y Y Y Y Y (by omega) ?_ | refine Ar hG Y Y Y Y Y (by omega) ?_ | ((fail_if_success have := kk); refine Au hG Y Y Y Y Y (fun h => ?_) (fun h => ?_)))
      | (show AOp _ _ ⟨_, .load _ _, _, _, _, _⟩ _ _ _; first | refine Bj hG Y Y Y ?_ | refine Az 0 hG Y Y Y Y ?_ | refine Az 1 hG Y Y Y Y ?_)
      | (show AOp _ _ ⟨_, .indexAddr _ _ _, _, _, _, _⟩ _ _ _; first | refine Ca hG Y Y Y Y Y Y Y ?_ | refine Bi hG Y Y Y Y Y Y Y (by omega) ?_ | refine Bk hG Y Y Y Y Y Y Y (by omega) ?_ | refine Bs hG Y Y ?_)
      | (show AOp _ _ ⟨_, .convert _ _ _, _, _, _, _⟩ _ _ _; first | refine r_cv8 hG Y Y Y Y Y Y ?_ | refine Bd hG Y Y Y Y Y (by omega) ?_ | refine Ch hG Y Y Y Y Y (by omega) ?_ | refine Br hG Y Y Y Y Y ?_)
      | (show AOp _ _ ⟨_, .slice _ _ _ _ _, _, _, _, _⟩ _ _ _; first | refine Bg hG Y Y Y Y Y Y Y (by omega) ?_ | refine Bn hG Y Y Y Y Y Y Y (by omega) ?_ | refine r_sl hG Y Y ?_)
      | (show AOp _ _ ⟨_, .unOp _ _ _, _, _, _, _⟩ _ _ _; refine B5 hG Y Y Y ?_)
      | (show AOp _ _ ⟨_, .buildSlice _ _ _, _, _, _, _⟩ _ _ _; first | refine r_mk (sz := 2) hG Y Y Y Y Y Y Y ?_)
      | (show AOp _ _ ⟨_, .build _ _, _, _, _, _⟩ _ _ _; refine Cd hG Y Y Y Y Y ?_)
      | (show AOp _ _ ⟨_, .alloc _, _, _, _, _⟩ _ _ _; refine Bt hG Y Y (fun i => ?_))
      | (show AOp _ _ ⟨_, .store _ _ _, _, _, _, _⟩ _ _ _; first | refine Bb 0 hG Y Y Y Y Y Y Y ?_ | refine Bb 1 hG Y Y Y Y Y Y Y ?_)
      | (show AOp _ _ ⟨_, .call ⟨.builtin .append, _, _⟩, _, _, _, _⟩ _ _ _; first | refine Bw (sz := 1) (xs := []) hG Y Y Y Y Y Y Y ⟨_, Y⟩ Y Y Y Y Y Y Y (by first | omega | (simp; omega)) (fun k => ?_) | refine B2 0 hG Y Y Y Y Y Y Y ⟨_, Y⟩ Y Y Y Y Y (by first | omega | (simp only [List.length_append, List.length_cons, List.length_nil]; omega)) (fun k => ?_) | fail)
      | refine r_q hG Y Y Y ?_); try exact kk)
    | (show AL _ _ _ _ _ _ _ _; first | refine Bo Y Y Y ?_ | (refine Aw ?_; first | show AW _ _ _ _ _ _ | show ∃ x', _ < _ ∧ _)) | (show AW _ _ (.seq _ _) _ _ _; refine Ag ?_; intro Q1) | (show AW _ _ (.region _ _ false) _ _ _; refine Ad ?_; intro O1) | (show AW _ _ (.cond _ _ _) _ _ _; first | refine Aj Y ?_ | refine Ai Y ?_) | (show AW _ _ (.skip) _ _ _; refine Al ?_; first | show AW _ _ _ _ _ _ | show ∃ x', _ < _ ∧ _) | (show AW _ _ (.goto _) _ _ _; refine Bu ?_; try dsimp only [Aq, Aa, Ap, Ab]) | (show AW _ _ (.ret) _ _ _; refine Av ?_; try dsimp only [Aq, Aa, Ap, Ab])
    | (show DL _ _ _ _ _ _ _; refine dl_d Y Y (fun K kt kf => Au hG Y Y Y Y Y kt kf) (fun h => ?_) (fun h => ?_))
    | (show DL _ _ _ _ _ _ _; refine dl_s Y Y Y ?_) | (show DL _ _ _ _ _ _ _; refine B1 ?_; first | show AW _ _ _ _ _ _ | show ∃ x', _ < _ ∧ _) | (show AW _ _ (.region _ _ true) _ _ _; refine Bm mix (by kernel_rfl) ?_; intro O1) | fail)
  refine aw_scope' 0 rfl (X := LtX b) (fun x => [(0, sT b), (2, .ptr x.q 0), (3, .int .i64 x.p), (5, .int .i64 x.left)])
    (fun x => match x.k with
      | none => ⟨[(x.q, .cells [bT (b.getD 0 default), .nilsl])], [], off, none⟩
      | some k => ⟨[(x.q, .cells [bT (b.getD 0 default), .sl 2 (.tok k) (x.acc.map pT)])], [k], off, none⟩) (fun x => x.left) ?_ ?_
  · rintro ⟨left, h256, acc, p, q, h2, hp, hr, k, hk, hacc⟩
    dsimp only
    have hu8 := (b.getD 1 default).toNat_lt
    have hT : Cb b = match takeP b left acc p with
      | none => ⟨0, [], 0, 3⟩
      | some (l, q) => if mayLab (b.getD 0 default) l then ⟨b.getD 0 default, l, q, 0⟩ else ⟨0, [], 0, 2⟩ := by rw [Cb, if_neg h2, ← hr]; rfl
    by_cases hlft : left = 0
    · subst hlft
      rw [takeP] at hT
      dsimp only at hT
      have hM := label_May (df := b.getD 0 default) (l := acc) (by omega)
      cases k with
      | none =>
        obtain rfl := hk rfl
        have hM1 := Pure.weak hM (ts := [.agg [bT (b.getD 0 default), .nilsl]]) (wk1 (Wk.aggL (wk2 (.refl _) (.nil 2))))
        cases hm : mayLab (b.getD 0 default) [] <;> rw [hm] at hM1 hT
        · rw [if_neg Bool.false_ne_true] at hT
          repeat' (first
    | ((first | (show AL _ _ _ _ _ _ _ _; refine Ae Y ?_) | (show DL _ _ _ _ _ _ _; refine' Bp Y Y (fun K kk => ?_) ?_; try (show Go.Ts.T; rotate_left))); (first
      | (show AOp _ _ ⟨_, .move _, _, _, _, _⟩ _ _ _; refine Am hG Y Y ?_)
      | (show AOp _ _ ⟨_, .assign _, _, _, _, _⟩ _ _ _; refine A9 hG Y Y ?_)
      | (show AOp _ _ ⟨_, .call ⟨.builtin .len, _, _⟩, _, _, _, _⟩ _ _ _; first | refine A7 hG Y Y Y Y ?_ | refine Be hG Y Y Y Y Y ?_)
      | (show AOp _ _ ⟨_, .binOp .add _ _ _ _, _, _, _, _⟩ _ _ _; first | refine Ao hG Y Y Y Y Y (by omega) ?_)
      | (show AOp _ _ ⟨_, .binOp .sub _ _ _ _, _, _, _, _⟩ _ _ _; first | refine Ao hG Y Y Y Y Y (by omega) ?_)
      | (show AOp _ _ ⟨_, .binOp _ _ _ _ _, _, _, _, _⟩ _ _ _; first | refine As hG Y Y Y Y Y (by omega) ?_ | refine Ar hG Y Y Y Y Y (by omega) ?_ | ((fail_if_success have := kk); refine Au hG Y Y Y Y Y (fun h => ?_) (fun h => ?_)))
      | (show AOp _ _ ⟨_, .load _ _, _, _, _, _⟩ _ _ _; first | refine Bj hG Y Y Y ?_ | refine Az 0 hG Y Y Y Y ?_ | refine Az 1 hG Y Y Y Y ?_)
      | (show AOp _ _ ⟨_, .indexAddr _ _ _, _, _, _, _⟩ _ _ _; first | refine Ca hG Y Y Y Y Y Y Y ?_ | refine Bi hG Y Y Y Y Y Y Y (by omega) ?_ | refine Bk hG Y Y Y Y Y Y Y (by omega) ?_ | refine Bs hG Y Y ?_)
      | (show AOp _ _ ⟨_, .convert _ _ _, _, _, _, _⟩ _ _ _; first | refine r_cv8 hG Y Y Y Y Y Y ?_ | refine Bd hG Y Y Y Y Y (by omega) ?_ | refine Ch hG Y Y Y Y Y (by omega) ?_ | refine Br hG Y Y Y Y Y ?_)
      | (show AOp _ _ ⟨_, .slice _ _ _ _ _, _, _, _, _⟩ _ _ _; first | refine Bg hG Y Y Y Y Y Y Y (by omega) ?_ | refine Bn hG Y Y Y Y Y Y Y (by omega) ?_ | refine r_sl hG Y Y ?_)
      | (show AOp _ _ ⟨_, .unOp _ _ _, _, _, _, _⟩ _ _ _; refine B5 hG Y Y Y ?_)
      | (show AOp _ _ ⟨_, .buildSlice _ _ _, _, _, _, _⟩ _ _ _; first | refine r_mk (sz := 2) hG Y Y Y Y Y Y Y ?_)
      | (show AOp _ _ ⟨_, .build _ _, _, _, _, _⟩ _ _ _; refine Cd hG Y Y Y Y Y ?_)
      | (show AOp _ _ ⟨_, .alloc _, _, _, _, _⟩ _ _ _; refine Bt hG Y Y (fun i => ?_))
      | (show AOp _ _ ⟨_, .store _ _ _, _, _, _, _⟩ _ _ _; first | refine Bb 0 hG Y Y Y Y Y Y Y ?_ | refine Bb 1 hG Y Y Y Y Y Y Y ?_)
      | (show AOp _ _ ⟨_, .call ⟨.builtin .append, _, _⟩, _, _, _, _⟩ _ _ _; first | refine Bw (sz := 1) (xs := []) hG Y Y Y Y Y Y Y ⟨_, Y⟩ Y Y Y Y Y Y Y (by first | omega | (simp; omega)) (fun k => ?_) | refine B2 0 hG Y Y Y Y Y Y Y ⟨_, Y⟩ Y Y Y Y Y (by first | omega | (simp only [List.length_append, List.length_cons, List.length_nil]; omega)) (fun k => ?_) | fail)
      | (show AOp _ _ ⟨_, .call ⟨.value _, _, _⟩, _, _, _, _⟩ _ _ _; first | refine Bh Y Y Y Y Y (by apply hM1 <;> (first | assumption | omega | exact Ac _ _ | exact Af _ | exact Ah _ _ | exact Ax _ | rfl | (simp; omega))) ?_ | fail)
      | refine r_q hG Y Y Y ?_); try exact kk)
    | (show AL _ _ _ _ _ _ _ _; first | refine Bo Y Y Y ?_ | (refine Aw ?_; first | show AW _ _ _ _ _ _ | show ∃ x', _ < _ ∧ _)) | (show AW _ _ (.seq _ _) _ _ _; refine Ag ?_; intro Q1) | (show AW _ _ (.region _ _ false) _ _ _; refine Ad ?_; intro O1) | (show AW _ _ (.cond _ _ _) _ _ _; first | refine Aj Y ?_ | refine Ai Y ?_) | (show AW _ _ (.skip) _ _ _; refine Al ?_; first | show AW _ _ _ _ _ _ | show ∃ x', _ < _ ∧ _) | (show AW _ _ (.goto _) _ _ _; refine Bu ?_; try dsimp only [Aq, Aa, Ap, Ab]) | (show AW _ _ (.ret) _ _ _; refine Av ?_; try dsimp only [Aq, Aa, Ap, Ab])
    | (show DL _ _ _ _ _ _ _; refine dl_d Y Y (fun K kt kf => Au hG Y Y Y Y Y kt kf) (fun h => ?_) (fun h => ?_))
    | (show DL _ _ _ _ _ _ _; refine dl_s Y Y Y ?_) | (show DL _ _ _ _ _ _ _; refine B1 ?_; first | show AW _ _ _ _ _ _ | show ∃ x', _ < _ ∧ _) | (show AW _ _ (.region _ _ true) _ _ _; refine Bm mix (by kernel_rfl) ?_; intro O1) | fail)
          refine Bc (res_cell 0 rfl rfl rfl (Ak rfl (Ak rfl Ba))) ?_ rfl
          rw [hT]
          exact Wk.tupL (wk3 (Wk.aggL (wk2 (.refl _) (.nil 2))) (.refl _) (.refl _))
        · rw [if_pos rfl] at hT
          repeat' (first
    | ((first | (show AL _ _ _ _ _ _ _ _; refine Ae Y ?_) | (show DL _ _ _ _ _ _ _; refine' Bp Y Y (fun K kk => ?_) ?_; try (show Go.Ts.T; rotate_left))); (first
      | (show AOp _ _ ⟨_, .move _, _, _, _, _⟩ _ _ _; refine Am hG Y Y ?_)
      | (show AOp _ _ ⟨_, .assign _, _, _, _, _⟩ _ _ _; refine A9 hG Y Y ?_)
      | (show AOp _ _ ⟨_, .call ⟨.builtin .len, _, _⟩, _, _, _, _⟩ _ _ _; first | refine A7 hG Y Y Y Y ?_ | refine Be hG Y Y Y Y Y ?_)
      | (show AOp _ _ ⟨_, .binOp .add _ _ _ _, _, _, _, _⟩ _ _ _; first | refine Ao hG Y Y Y Y Y (by omega) ?_)
      | (show AOp _ _ ⟨_, .binOp .sub _ _ _ _, _, _, _, _⟩ _ _ _; first | refine Ao hG Y Y Y Y Y (by omega) ?_)
      | (show AOp _ _ ⟨_, .binOp _ _ _ _ _, _, _, _, _⟩ _ _ _; first | refine As hG Y Y Y Y Y (by omega) ?_ | refine Ar hG Y Y Y Y Y (by omega) ?_ | ((fail_if_success have := kk); refine Au hG Y Y Y Y Y (fun h => ?_) (fun h => ?_)))
      | (show AOp _ _ ⟨_, .load _ _, _, _, _, _⟩ _ _ _; first | refine Bj hG Y Y Y ?_ | refine Az 0 hG Y Y Y Y ?_ | refine Az 1 hG Y Y Y Y ?_)
      | (show AOp _ _ ⟨_, .indexAddr _ _ _, _, _, _, _⟩ _ _ _; first | refine Ca hG Y Y Y Y Y Y Y ?_ | refine Bi hG Y Y Y Y Y Y Y (by omega) ?_ | refine Bk hG Y Y Y Y Y Y Y (by omega) ?_ | refine Bs hG Y Y ?_)
      | (show AOp _ _ ⟨_, .convert _ _ _, _, _, _, _⟩ _ _ _; first | refine r_cv8 hG Y Y Y Y Y Y ?_ | refine Bd hG Y Y Y Y Y (by omega) ?_ | refine Ch hG Y Y Y Y Y (by omega) ?_ | refine Br hG Y Y Y Y Y ?_)
      | (show AOp _ _ ⟨_, .slice _ _ _ _ _, _, _, _, _⟩ _ _ _; first | refine Bg hG Y Y Y Y Y Y Y (by omega) ?_ | refine Bn hG Y Y Y Y Y Y Y (by omega) ?_ | refine r_sl hG Y Y ?_)
      | (show AOp _ _ ⟨_, .unOp _ _ _, _, _, _, _⟩ _ _ _; refine B5 hG Y Y Y ?_)
      | (show AOp _ _ ⟨_, .buildSlice _ _ _, _, _, _, _⟩ _ _ _; first | refine r_mk (sz := 2) hG Y Y Y Y Y Y Y ?_)
      | (show AOp _ _ ⟨_, .build _ _, _, _, _, _⟩ _ _ _; refine Cd hG Y Y Y Y Y ?_)
      | (show AOp _ _ ⟨_, .alloc _, _, _, _, _⟩ _ _ _; refine Bt hG Y Y (fun i => ?_))
      | (show AOp _ _ ⟨_, .store _ _ _, _, _, _, _⟩ _ _ _; first | refine Bb 0 hG Y Y Y Y Y Y Y ?_ | refine Bb 1 hG Y Y Y Y Y Y Y ?_)
      | (show AOp _ _ ⟨_, .call ⟨.builtin .append, _, _⟩, _, _, _, _⟩ _ _ _; first | refine Bw (sz := 1) (xs := []) hG Y Y Y Y Y Y Y ⟨_, Y⟩ Y Y Y Y Y Y Y (by first | omega | (simp; omega)) (fun k => ?_) | refine B2 0 hG Y Y Y Y Y Y Y ⟨_, Y⟩ Y Y Y Y Y (by first | omega | (simp only [List.length_append, List.length_cons, List.length_nil]; omega)) (fun k => ?_) | fail)
      | (show AOp _ _ ⟨_, .call ⟨.value _, _, _⟩, _, _, _, _⟩ _ _ _; first | refine Bh Y Y Y Y Y (by apply hM1 <;> (first | assumption | omega | exact Ac _ _ | exact Af _ | exact Ah _ _ | exact Ax _ | rfl | (simp; omega))) ?_ | fail)
      | refine r_q hG Y Y Y ?_); try exact kk)
    | (show AL _ _ _ _ _ _ _ _; first | refine Bo Y Y Y ?_ | (refine Aw ?_; first | show AW _ _ _ _ _ _ | show ∃ x', _ < _ ∧ _)) | (show AW _ _ (.seq _ _) _ _ _; refine Ag ?_; intro Q1) | (show AW _ _ (.region _ _ false) _ _ _; refine Ad ?_; intro O1) | (show AW _ _ (.cond _ _ _) _ _ _; first | refine Aj Y ?_ | refine Ai Y ?_) | (show AW _ _ (.skip) _ _ _; refine Al ?_; first | show AW _ _ _ _ _ _ | show ∃ x', _ < _ ∧ _) | (show AW _ _ (.goto _) _ _ _; refine Bu ?_; try dsimp only [Aq, Aa, Ap, Ab]) | (show AW _ _ (.ret) _ _ _; refine Av ?_; try dsimp only [Aq, Aa, Ap, Ab])
    | (show DL _ _ _ _ _ _ _; refine dl_d Y Y (fun K kt kf => Au hG Y Y Y Y Y kt kf) (fun h => ?_) (fun h => ?_))
    | (show DL _ _ _ _ _ _ _; refine dl_s Y Y Y ?_) | (show DL _ _ _ _ _ _ _; refine B1 ?_; first | show AW _ _ _ _ _ _ | show ∃ x', _ < _ ∧ _) | (show AW _ _ (.region _ _ true) _ _ _; refine Bm mix (by kernel_rfl) ?_; intro O1) | fail)
          refine Bc (res_cell 0 rfl rfl rfl (Ak rfl (Ak rfl Ba))) ?_ rfl
          rw [hT]
          exact Wk.tupL (wk3 (Wk.aggL (wk2 (.refl _) (.nil 2))) (.refl _) (.refl _))
      | some k =>
        have hM1 := Pure.weak hM (ts := [.agg [bT (b.getD 0 default), .sl 2 (.tok k) (acc.map pT)]]) (wk1 (Wk.aggL (wk2 (.refl _) (Wk.own _ _ _))))
        cases hm : mayLab (b.getD 0 default) acc <;> rw [hm] at hM1 hT
        · rw [if_neg Bool.false_ne_true] at hT
          repeat' (first
    | ((first | (show AL _ _ _ _ _ _ _ _; refine Ae Y ?_) | (show DL _ _ _ _ _ _ _; refine' Bp Y Y (fun K kk => ?_) ?_; try (show Go.Ts.T; rotate_left))); (first
      | (show AOp _ _ ⟨_, .move _, _, _, _, _⟩ _ _ _; refine Am hG Y Y ?_)
      | (show AOp _ _ ⟨_, .assign _, _, _, _, _⟩ _ _ _; refine A9 hG Y Y ?_)
      | (show AOp _ _ ⟨_, .call ⟨.builtin .len, _, _⟩, _, _, _, _⟩ _ _ _; first | refine A7 hG Y Y Y Y ?_ | refine Be hG Y Y Y Y Y ?_)
      | (show AOp _ _ ⟨_, .binOp .add _ _ _ _, _, _, _, _⟩ _ _ _; first | refine Ao hG Y Y Y Y Y (by omega) ?_)
      | (show AOp _ _ ⟨_, .binOp .sub _ _ _ _, _, _, _, _⟩ _ _ _; first | refine Ao hG Y Y Y Y Y (by omega) ?_)
      | (show AOp _ _ ⟨_, .binOp _ _ _ _ _, _, _, _, _⟩ _ _ _; first | refine As hG Y Y Y Y Y (by omega) ?_ | refine Ar hG Y Y Y Y Y (by omega) ?_ | ((fail_if_success have := kk); refine Au hG Y Y Y Y Y (fun h => ?_) (fun h => ?_)))
      | (show AOp _ _ ⟨_, .load _ _, _, _, _, _⟩ _ _ _; first | refine Bj hG Y Y Y ?_ | refine Az 0 hG Y Y Y Y ?_ | refine Az 1 hG Y Y Y Y ?_)
      | (show AOp _ _ ⟨_, .indexAddr _ _ _, _, _, _, _⟩ _ _ _; first | refine Ca hG Y Y Y Y Y Y Y ?_ | refine Bi hG Y Y Y Y Y Y Y (by omega) ?_ | refine Bk hG Y Y Y Y Y Y Y (by omega) ?_ | refine Bs hG Y Y ?_)
      | (show AOp _ _ ⟨_, .convert _ _ _, _, _, _, _⟩ _ _ _; first | refine r_cv8 hG Y Y Y Y Y Y ?_ | refine Bd hG Y Y Y Y Y (by omega) ?_ | refine Ch hG Y Y Y Y Y (by omega) ?_ | refine Br hG Y Y Y Y Y ?_)
      | (show AOp _ _ ⟨_, .slice _ _ _ _ _, _, _, _, _⟩ _ _ _; first | refine Bg hG Y Y Y Y Y Y Y (by omega) ?_ | refine Bn hG Y Y Y Y Y Y Y (by omega) ?_ | refine r_sl hG Y Y ?_)
      | (show AOp _ _ ⟨_, .unOp _ _ _, _, _, _, _⟩ _ _ _; refine B5 hG Y Y Y ?_)
      | (show AOp _ _ ⟨_, .buildSlice _ _ _, _, _, _, _⟩ _ _ _; first | refine r_mk (sz := 2) hG Y Y Y Y Y Y Y ?_)
      | (show AOp _ _ ⟨_, .build _ _, _, _, _, _⟩ _ _ _; refine Cd hG Y Y Y Y Y ?_)
      | (show AOp _ _ ⟨_, .alloc _, _, _, _, _⟩ _ _ _; refine Bt hG Y Y (fun i => ?_))
      | (show AOp _ _ ⟨_, .store _ _ _, _, _, _, _⟩ _ _ _; first | refine Bb 0 hG Y Y Y Y Y Y Y ?_ | refine Bb 1 hG Y Y Y Y Y Y Y ?_)
      | (show AOp _ _ ⟨_, .call ⟨.builtin .append, _, _⟩, _, _, _, _⟩ _ _ _; first | refine Bw (sz := 1) (xs := []) hG Y Y Y Y Y Y Y ⟨_, Y⟩ Y Y Y Y Y Y Y (by first | omega | (simp; omega)) (fun k => ?_) | refine B2 0 hG Y Y Y Y Y Y Y ⟨_, Y⟩ Y Y Y Y Y (by first | omega | (simp only [List.length_append, List.length_cons, List.length_nil]; omega)) (fun k => ?_) | fail)
      | (show AOp _ _ ⟨_, .call ⟨.value _, _, _⟩, _, _, _, _⟩ _ _ _; first | refine Bh Y Y Y Y Y (by apply hM1 <;> (first | assumption | omega | exact Ac _ _ | exact Af _ | exact Ah _ _ | exact Ax _ | rfl | (simp; omega))) ?_ | fail)
      | refine r_q hG Y Y Y ?_); try exact kk)
    | (show AL _ _ _ _ _ _ _ _; first | refine Bo Y Y Y ?_ | (refine Aw ?_; first | show AW _ _ _ _ _ _ | show ∃ x', _ < _ ∧ _)) | (show AW _ _ (.seq _ _) _ _ _; refine Ag ?_; intro Q1) | (show AW _ _ (.region _ _ false) _ _ _; refine Ad ?_; intro O1) | (show AW _ _ (.cond _ _ _) _ _ _; first | refine Aj Y ?_ | refine Ai Y ?_) | (show AW _ _ (.skip) _ _ _; refine Al ?_; first | show AW _ _ _ _ _ _ | show ∃ x', _ < _ ∧ _) | (show AW _ _ (.goto _) _ _ _; refine Bu ?_; try dsimp only [Aq, Aa, Ap, Ab]) | (show AW _ _ (.ret) _ _ _; refine Av ?_; try dsimp only [Aq, Aa, Ap, Ab])
    | (show DL _ _ _ _ _ _ _; refine dl_d Y Y (fun K kt kf => Au hG Y Y Y Y Y kt kf) (fun h => ?_) (fun h => ?_))
    | (show DL _ _ _ _ _ _ _; refine dl_s Y Y Y ?_) | (show DL _ _ _ _ _ _ _; refine B1 ?_; first | show AW _ _ _ _ _ _ | show ∃ x', _ < _ ∧ _) | (show AW _ _ (.region _ _ true) _ _ _; refine Bm mix (by kernel_rfl) ?_; intro O1) | fail)
          refine Bc (res_cell 0 rfl rfl rfl (Ak rfl (Ak rfl Ba))) ?_ rfl
          rw [hT]
          exact Wk.tupL (wk3 (Wk.aggL (wk2 (.refl _) (.nil 2))) (.refl _) (.refl _))
        · rw [if_pos rfl] at hT
          repeat' (first
    | ((first | (show AL _ _ _ _ _ _ _ _; refine Ae Y ?_) | (show DL _ _ _ _ _ _ _; refine' Bp Y Y (fun K kk => ?_) ?_; try (show Go.Ts.T; rotate_left))); (first
      | (show AOp _ _ ⟨_, .move _, _, _, _, _⟩ _ _ _; refine Am hG Y Y ?_)
      | (show AOp _ _ ⟨_, .assign _, _, _, _, _⟩ _ _ _; refine A9 hG Y Y ?_)
      | (show AOp _ _ ⟨_, .call ⟨.builtin .len, _, _⟩, _, _, _, _⟩ _ _ _; first | refine A7 hG Y Y Y Y ?_ | refine Be hG Y Y Y Y Y ?_)
      | (show AOp _ _ ⟨_, .binOp .add _ _ _ _, _, _, _, _⟩ _ _ _; first | refine Ao hG Y Y Y Y Y (by omega) ?_)
      | (show AOp _ _ ⟨_, .binOp .sub _ _ _ _, _, _, _, _⟩ _ _ _; first | refine Ao hG Y Y Y Y Y (by omega) ?_)
      | (show AOp _ _ ⟨_, .binOp _ _ _ _ _, _, _, _, _⟩ _ _ _; first | refine As hG Y Y Y Y Y (by omega) ?_ | refine Ar hG Y Y Y Y Y (by omega) ?_ | ((fail_if_success have := kk); refine Au hG Y Y Y Y Y (fun h => ?_) (fun h => ?_)))
      | (show AOp _ _ ⟨_, .load _ _, _, _, _, _⟩ _ _ _; first | refine Bj hG Y Y Y ?_ | refine Az 0 hG Y Y Y Y ?_ | refine Az 1 hG Y Y Y Y ?_)
      | (show AOp _ _ ⟨_, .indexAddr _ _ _, _, _, _, _⟩ _ _ _; first | refine Ca hG Y Y Y Y Y Y Y ?_ | refine Bi hG Y Y Y Y Y Y Y (by omega) ?_ | refine Bk hG Y Y Y Y Y Y Y (by omega) ?_ | refine Bs hG Y Y ?_)
      | (show AOp _ _ ⟨_, .convert _ _ _, _, _, _, _⟩ _ _ _; first | refine r_cv8 hG Y Y Y Y Y Y ?_ | refine Bd hG Y Y Y Y Y (by omega) ?_ | refine Ch hG Y Y Y Y Y (by omega) ?_ | refine Br hG Y Y Y Y Y ?_)
      | (show AOp _ _ ⟨_, .slice _ _ _ _ _, _, _, _, _⟩ _ _ _; first | refine Bg hG Y Y Y Y Y Y Y (by omega) ?_ | refine Bn hG Y Y Y Y Y Y Y (by omega) ?_ | refine r_sl hG Y Y ?_)
      | (show AOp _ _ ⟨_, .unOp _ _ _, _, _, _, _⟩ _ _ _; refine B5 hG Y Y Y ?_)
      | (show AOp _ _ ⟨_, .buildSlice _ _ _, _, _, _, _⟩ _ _ _; first | refine r_mk (sz := 2) hG Y Y Y Y Y Y Y ?_)
      | (show AOp _ _ ⟨_, .build _ _, _, _, _, _⟩ _ _ _; refine Cd hG Y Y Y Y Y ?_)
      | (show AOp _ _ ⟨_, .alloc _, _, _, _, _⟩ _ _ _; refine Bt hG Y Y (fun i => ?_))
      | (show AOp _ _ ⟨_, .store _ _ _, _, _, _, _⟩ _ _ _; first | refine Bb 0 hG Y Y Y Y Y Y Y ?_ | refine Bb 1 hG Y Y Y Y Y Y Y ?_)
      | (show AOp _ _ ⟨_, .call ⟨.builtin .append, _, _⟩, _, _, _, _⟩ _ _ _; first | refine Bw (sz := 1) (xs := []) hG Y Y Y Y Y Y Y ⟨_, Y⟩ Y Y Y Y Y Y Y (by first | omega | (simp; omega)) (fun k => ?_) | refine B2 0 hG Y Y Y Y Y Y Y ⟨_, Y⟩ Y Y Y Y Y (by first | omega | (simp only [List.length_append, List.length_cons, List.length_nil]; omega)) (fun k => ?_) | fail)
      | (show AOp _ _ ⟨_, .call ⟨.value _, _, _⟩, _, _, _, _⟩ _ _ _; first | refine Bh Y Y Y Y Y (by apply hM1 <;> (first | assumption | omega | exact Ac _ _ | exact Af _ | exact Ah _ _ | exact Ax _ | rfl | (simp; omega))) ?_ | fail)
      | refine r_q hG Y Y Y ?_); try exact kk)
    | (show AL _ _ _ _ _ _ _ _; first | refine Bo Y Y Y ?_ | (refine Aw ?_; first | show AW _ _ _ _ _ _ | show ∃ x', _ < _ ∧ _)) | (show AW _ _ (.seq _ _) _ _ _; refine Ag ?_; intro Q1) | (show AW _ _ (.region _ _ false) _ _ _; refine Ad ?_; intro O1) | (show AW _ _ (.cond _ _ _) _ _ _; first | refine Aj Y ?_ | refine Ai Y ?_) | (show AW _ _ (.skip) _ _ _; refine Al ?_; first | show AW _ _ _ _ _ _ | show ∃ x', _ < _ ∧ _) | (show AW _ _ (.goto _) _ _ _; refine Bu ?_; try dsimp only [Aq, Aa, Ap, Ab]) | (show AW _ _ (.ret) _ _ _; refine Av ?_; try dsimp only [Aq, Aa, Ap, Ab])
    | (show DL _ _ _ _ _ _ _; refine dl_d Y Y (fun K kt kf => Au hG Y Y Y Y Y kt kf) (fun h => ?_) (fun h => ?_))
    | (show DL _ _ _ _ _ _ _; refine dl_s Y Y Y ?_) | (show DL _ _ _ _ _ _ _; refine B1 ?_; first | show AW _ _ _ _ _ _ | show ∃ x', _ < _ ∧ _) | (show AW _ _ (.region _ _ true) _ _ _; refine Bm mix (by kernel_rfl) ?_; intro O1) | fail)
          refine Bc (res_cell 0 rfl rfl rfl (Ak rfl (Ak rfl Ba))) ?_ rfl
          rw [hT]
          exact Wk.tupL (wk3 (Wk.aggL (wk2 (.refl _) (Wk.own _ _ _))) (.refl _) (.refl _))
    · obtain ⟨m, rfl⟩ : ∃ m, left = m + 1 := ⟨left - 1, by omega⟩
      by_cases h3 : b.length - p < 3
      · have hT3 : Cb b = ⟨0, [], 0, 3⟩ := by rw [hT, takeP, if_pos h3]
        cases k with
        | none =>
          repeat' (first
    | ((first | (show AL _ _ _ _ _ _ _ _; refine Ae Y ?_) | (show DL _ _ _ _ _ _ _; refine' Bp Y Y (fun K kk => ?_) ?_; try (show Go.Ts.T; rotate_left))); (first
      | (show AOp _ _ ⟨_, .move _, _, _, _, _⟩ _ _ _; refine Am hG Y Y ?_)
      | (show AOp _ _ ⟨_, .assign _, _, _, _, _⟩ _ _ _; refine A9 hG Y Y ?_)
      | (show AOp _ _ ⟨_, .call ⟨.builtin .len, _, _⟩, _, _, _, _⟩ _ _ _; first | refine A7 hG Y Y Y Y ?_ | refine Be hG Y Y Y Y Y ?_)
      | (show AOp _ _ ⟨_, .binOp .add _ _ _ _, _, _, _, _⟩ _ _ _; first | refine Ao hG Y Y Y Y Y (by omega) ?_)
      | (show AOp _ _ ⟨_, .binOp .sub _ _ _ _, _, _, _, _⟩ _ _ _; first | refine Ao hG Y Y Y Y Y (by omega) ?_)
      | (show AOp _ _ ⟨_, .binOp _ _ _ _ _, _, _, _, _⟩ _ _ _; first | refine As hG Y Y Y Y Y (by omega) ?_ | refine Ar hG Y Y Y Y Y (by omega) ?_ | ((fail_if_success have := kk); refine Au hG Y Y Y Y Y (fun h => ?_) (fun h => ?_)))
      | (show AOp _ _ ⟨_, .load _ _, _, _, _, _⟩ _ _ _; first | refine Bj hG Y Y Y ?_ | refine Az 0 hG Y Y Y Y ?_ | refine Az 1 hG Y Y Y Y ?_)
      | (show AOp _ _ ⟨_, .indexAddr _ _ _, _, _, _, _⟩ _ _ _; first | refine Ca hG Y Y Y Y Y Y Y ?_ | refine Bi hG Y Y Y Y Y Y Y (by omega) ?_ | refine Bk hG Y Y Y Y Y Y Y (by omega) ?_ | refine Bs hG Y Y ?_)
      | (show AOp _ _ ⟨_, .convert _ _ _, _, _, _, _⟩ _ _ _; first | refine r_cv8 hG Y Y Y Y Y Y ?_ | refine Bd hG Y Y Y Y Y (by omega) ?_ | refine Ch hG Y Y Y Y Y (by omega) ?_ | refine Br hG Y Y Y Y Y ?_)
      | (show AOp _ _ ⟨_, .slice _ _ _ _ _, _, _, _, _⟩ _ _ _; first | refine Bg hG Y Y Y Y Y Y Y (by omega) ?_ | refine Bn hG Y Y Y Y Y Y Y (by omega) ?_ | refine r_sl hG Y Y ?_)
      | (show AOp _ _ ⟨_, .unOp _ _ _, _, _, _, _⟩ _ _ _; refine B5 hG Y Y Y ?_)
      | (show AOp _ _ ⟨_, .buildSlice _ _ _, _, _, _, _⟩ _ _ _; first | refine r_mk (sz := 2) hG Y Y Y Y Y Y Y ?_)
      | (show AOp _ _ ⟨_, .build _ _, _, _, _, _⟩ _ _ _; refine Cd hG Y Y Y Y Y ?_)
      | (show AOp _ _ ⟨_, .alloc _, _, _, _, _⟩ _ _ _; refine Bt hG Y Y (fun i => ?_))
      | (show AOp _ _ ⟨_, .store _ _ _, _, _, _, _⟩ _ _ _; first | refine Bb 0 hG Y Y Y Y Y Y Y ?_ | refine Bb 1 hG Y Y Y Y Y Y Y ?_)
      | (show AOp _ _ ⟨_, .call ⟨.builtin .append, _, _⟩, _, _, _, _⟩ _ _ _; first | refine Bw (sz := 1) (xs := []) hG Y Y Y Y Y Y Y ⟨_, Y⟩ Y Y Y Y Y Y Y (by first | omega | (simp; omega)) (fun k => ?_) | refine B2 0 hG Y Y Y Y Y Y Y ⟨_, Y⟩ Y Y Y Y Y (by first | omega | (simp only [List.length_append, List.length_cons, List.length_nil]; omega)) (fun k => ?_) | fail)
      | refine r_q hG Y Y Y ?_); try exact kk)
    | (show AL _ _ _ _ _ _ _ _; first | refine Bo Y Y Y ?_ | (refine Aw ?_; first | show AW _ _ _ _ _ _ | show ∃ x', _ < _ ∧ _)) | (show AW _ _ (.seq _ _) _ _ _; refine Ag ?_; intro Q1) | (show AW _ _ (.region _ _ false) _ _ _; refine Ad ?_; intro O1) | (show AW _ _ (.cond _ _ _) _ _ _; first | refine Aj Y ?_ | refine Ai Y ?_) | (show AW _ _ (.skip) _ _ _; refine Al ?_; first | show AW _ _ _ _ _ _ | show ∃ x', _ < _ ∧ _) | (show AW _ _ (.goto _) _ _ _; refine Bu ?_; try dsimp only [Aq, Aa, Ap, Ab]) | (show AW _ _ (.ret) _ _ _; refine Av ?_; try dsimp only [Aq, Aa, Ap, Ab])
    | (show DL _ _ _ _ _ _ _; refine dl_d Y Y (fun K kt kf => Au hG Y Y Y Y Y kt kf) (fun h => ?_) (fun h => ?_))
    | (show DL _ _ _ _ _ _ _; refine dl_s Y Y Y ?_) | (show DL _ _ _ _ _ _ _; refine B1 ?_; first | show AW _ _ _ _ _ _ | show ∃ x', _ < _ ∧ _) | (show AW _ _ (.region _ _ true) _ _ _; refine Bm mix (by kernel_rfl) ?_; intro O1) | fail)
          refine Bc (res_cell 0 rfl rfl rfl (Ak rfl (Ak rfl Ba))) ?_ rfl
          rw [hT3]
          exact Wk.tupL (wk3 (Wk.aggL (wk2 (.refl _) (.nil 2))) (.refl _) (.refl _))
        | some k =>
          repeat' (first
    | ((first | (show AL _ _ _ _ _ _ _ _; refine Ae Y ?_) | (show DL _ _ _ _ _ _ _; refine' Bp Y Y (fun K kk => ?_) ?_; try (show Go.Ts.T; rotate_left))); (first
      | (show AOp _ _ ⟨_, .move _, _, _, _, _⟩ _ _ _; refine Am hG Y Y ?_)
      | (show AOp _ _ ⟨_, .assign _, _, _, _, _⟩ _ _ _; refine A9 hG Y Y ?_)
      | (show AOp _ _ ⟨_, .call ⟨.builtin .len, _, _⟩, _, _, _, _⟩ _ _ _; first | refine A7 hG Y Y Y Y ?_ | refine Be hG Y Y Y Y Y ?_)
      | (show AOp _ _ ⟨_, .binOp .add _ _ _ _, _, _, _, _⟩ _ _ _; first | refine Ao hG Y Y Y Y Y (by omega) ?_)
      | (show AOp _ _ ⟨_, .binOp .sub _ _ _ _, _, _, _, _⟩ _ _ _; first | refine Ao hG Y Y Y Y Y (by omega) ?_)
      | (show AOp _ _ ⟨_, .binOp _ _ _ _ _, _, _, _, _⟩ _ _ _; first | refine As hG Y Y Y Y Y (by omega) ?_ | refine Ar hG Y Y Y Y Y (by omega) ?_ | ((fail_if_success have := kk); refine Au hG Y Y Y Y Y (fun h => ?_) (fun h => ?_)))
      | (show AOp _ _ ⟨_, .load _ _, _, _, _, _⟩ _ _ _; first | refine Bj hG Y Y Y ?_ | refine Az 0 hG Y Y Y Y ?_ | refine Az 1 hG Y Y Y Y ?_)
      | (show AOp _ _ ⟨_, .indexAddr _ _ _, _, _, _, _⟩ _ _ _; first | refine Ca hG Y Y Y Y Y Y Y ?_ | refine Bi hG Y Y Y Y Y Y Y (by omega) ?_ | refine Bk hG Y Y Y Y Y Y Y (by omega) ?_ | refine Bs hG Y Y ?_)
      | (show AOp _ _ ⟨_, .convert _ _ _, _, _, _, _⟩ _ _ _; first | refine r_cv8 hG Y Y Y Y Y Y ?_ | refine Bd hG Y Y Y Y Y (by omega) ?_ | refine Ch hG Y Y Y Y Y (by omega) ?_ | refine Br hG Y Y Y Y Y ?_)
      | (show AOp _ _ ⟨_, .slice _ _ _ _ _, _, _, _, _⟩ _ _ _; first | refine Bg hG Y Y Y Y Y Y Y (by omega) ?_ | refine Bn hG Y Y Y Y Y Y Y (by omega) ?_ | refine r_sl hG Y Y ?_)
      | (show AOp _ _ ⟨_, .unOp _ _ _, _, _, _, _⟩ _ _ _; refine B5 hG Y Y Y ?_)
      | (show AOp _ _ ⟨_, .buildSlice _ _ _, _, _, _, _⟩ _ _ _; first | refine r_mk (sz := 2) hG Y Y Y Y Y Y Y ?_)
      | (show AOp _ _ ⟨_, .build _ _, _, _, _, _⟩ _ _ _; refine Cd hG Y Y Y Y Y ?_)
      | (show AOp _ _ ⟨_, .alloc _, _, _, _, _⟩ _ _ _; refine Bt hG Y Y (fun i => ?_))
      | (show AOp _ _ ⟨_, .store _ _ _, _, _, _, _⟩ _ _ _; first | refine Bb 0 hG Y Y Y Y Y Y Y ?_ | refine Bb 1 hG Y Y Y Y Y Y Y ?_)
      | (show AOp _ _ ⟨_, .call ⟨.builtin .append, _, _⟩, _, _, _, _⟩ _ _ _; first | refine Bw (sz := 1) (xs := []) hG Y Y Y Y Y Y Y ⟨_, Y⟩ Y Y Y Y Y Y Y (by first | omega | (simp; omega)) (fun k => ?_) | refine B2 0 hG Y Y Y Y Y Y Y ⟨_, Y⟩ Y Y Y Y Y (by first | omega | (simp only [List.length_append, List.length_cons, List.length_nil]; omega)) (fun k => ?_) | fail)
      | refine r_q hG Y Y Y ?_); try exact kk)
    | (show AL _ _ _ _ _ _ _ _; first | refine Bo Y Y Y ?_ | (refine Aw ?_; first | show AW _ _ _ _ _ _ | show ∃ x', _ < _ ∧ _)) | (show AW _ _ (.seq _ _) _ _ _; refine Ag ?_; intro Q1) | (show AW _ _ (.region _ _ false) _ _ _; refine Ad ?_; intro O1) | (show AW _ _ (.cond _ _ _) _ _ _; first | refine Aj Y ?_ | refine Ai Y ?_) | (show AW _ _ (.skip) _ _ _; refine Al ?_; first | show AW _ _ _ _ _ _ | show ∃ x', _ < _ ∧ _) | (show AW _ _ (.goto _) _ _ _; refine Bu ?_; try dsimp only [Aq, Aa, Ap, Ab]) | (show AW _ _ (.ret) _ _ _; refine Av ?_; try dsimp only [Aq, Aa, Ap, Ab])
    | (show DL _ _ _ _ _ _ _; refine dl_d Y Y (fun K kt kf => Au hG Y Y Y Y Y kt kf) (fun h => ?_) (fun h => ?_))
    | (show DL _ _ _ _ _ _ _; refine dl_s Y Y Y ?_) | (show DL _ _ _ _ _ _ _; refine B1 ?_; first | show AW _ _ _ _ _ _ | show ∃ x', _ < _ ∧ _) | (show AW _ _ (.region _ _ true) _ _ _; refine Bm mix (by kernel_rfl) ?_; intro O1) | fail)
          refine Bc (res_cell 0 rfl rfl rfl (Ak rfl (Ak rfl Ba))) ?_ rfl
          rw [hT3]
          exact Wk.tupL (wk3 (Wk.aggL (wk2 (.refl _) (.nil 2))) (.refl _) (.refl _))
      · have hd : (b.drop p).length = b.length - p := List.length_drop
        have hE := takeE2 (b.drop p)
        rw [if_neg (by omega)] at hE
        have hc := num_Take_is (x := .sl 1 .no ((b.drop p).map bT)) (Ac _ _) hE
        have hv := beV2 (b.drop p) (by omega)
        have e2 : ((p : Int) + 3 - 1).toNat = p + 2 := by omega
        have hr2 : takeP b m (acc ++ [(UInt16.ofNat (beV ((b.drop p).take 2)), b.getD (p + 2) default)]) (p + 3) = takeP b (b.getD 1 default).toNat [] 2 := by rw [← hr, takeP, if_neg h3]
        generalize hvv : beV ((b.drop p).take 2) = v at *
        have ht := hT_of v hv
        cases k with
        | none =>
          obtain rfl := hk rfl
          repeat' (first
    | ((first | (show AL _ _ _ _ _ _ _ _; refine Ae Y ?_) | (show DL _ _ _ _ _ _ _; refine' Bp Y Y (fun K kk => ?_) ?_; try (show Go.Ts.T; rotate_left))); (first
      | (show AOp _ _ ⟨_, .move _, _, _, _, _⟩ _ _ _; refine Am hG Y Y ?_)
      | (show AOp _ _ ⟨_, .assign _, _, _, _, _⟩ _ _ _; refine A9 hG Y Y ?_)
      | (show AOp _ _ ⟨_, .call ⟨.builtin .len, _, _⟩, _, _, _, _⟩ _ _ _; first | refine A7 hG Y Y Y Y ?_ | refine Be hG Y Y Y Y Y ?_)
      | (show AOp _ _ ⟨_, .binOp .add _ _ _ _, _, _, _, _⟩ _ _ _; first | refine Ao hG Y Y Y Y Y (by omega) ?_)
      | (show AOp _ _ ⟨_, .binOp .sub _ _ _ _, _, _, _, _⟩ _ _ _; first | refine Ao hG Y Y Y Y Y (by omega) ?_)
      | (show AOp _ _ ⟨_, .binOp _ _ _ _ _, _, _, _, _⟩ _ _ _; first | refine As hG Y Y Y Y Y (by omega) ?_ | refine Ar hG Y Y Y Y Y (by omega) ?_ | ((fail_if_success have := kk); refine Au hG Y Y Y Y Y (fun h => ?_) (fun h => ?_)))
      | (show AOp _ _ ⟨_, .load _ _, _, _, _, _⟩ _ _ _; first | refine Bj hG Y Y Y ?_ | refine Az 0 hG Y Y Y Y ?_ | refine Az 1 hG Y Y Y Y ?_)
      | (show AOp _ _ ⟨_, .indexAddr _ _ _, _, _, _, _⟩ _ _ _; first | refine Ca hG Y Y Y Y Y Y Y ?_ | refine Bi hG Y Y Y Y Y Y Y (by omega) ?_ | refine Bk hG Y Y Y Y Y Y Y (by omega) ?_ | refine Bs hG Y Y ?_)
      | (show AOp _ _ ⟨_, .convert _ _ _, _, _, _, _⟩ _ _ _; first | refine r_cv8 hG Y Y Y Y Y Y ?_ | refine Bd hG Y Y Y Y Y (by omega) ?_ | refine Ch hG Y Y Y Y Y (by omega) ?_ | refine Br hG Y Y Y Y Y ?_)
      | (show AOp _ _ ⟨_, .slice _ _ _ _ _, _, _, _, _⟩ _ _ _; first | refine Bg hG Y Y Y Y Y Y Y (by omega) ?_ | refine Bn hG Y Y Y Y Y Y Y (by omega) ?_ | refine r_sl hG Y Y ?_)
      | (show AOp _ _ ⟨_, .unOp _ _ _, _, _, _, _⟩ _ _ _; refine B5 hG Y Y Y ?_)
      | (show AOp _ _ ⟨_, .buildSlice _ _ _, _, _, _, _⟩ _ _ _; first | refine r_mk (sz := 2) hG Y Y Y Y Y Y Y ?_)
      | (show AOp _ _ ⟨_, .build _ _, _, _, _, _⟩ _ _ _; refine Cd hG Y Y Y Y Y ?_)
      | (show AOp _ _ ⟨_, .alloc _, _, _, _, _⟩ _ _ _; refine Bt hG Y Y (fun i => ?_))
      | (show AOp _ _ ⟨_, .store _ _ _, _, _, _, _⟩ _ _ _; first | refine Bb 0 hG Y Y Y Y Y Y Y ?_ | refine Bb 1 hG Y Y Y Y Y Y Y ?_)
      | (show AOp _ _ ⟨_, .call ⟨.builtin .append, _, _⟩, _, _, _, _⟩ _ _ _; first | refine Bw (sz := 1) (xs := []) hG Y Y Y Y Y Y Y ⟨_, Y⟩ Y Y Y Y Y Y Y (by first | omega | (simp; omega)) (fun k => ?_) | refine B2 0 hG Y Y Y Y Y Y Y ⟨_, Y⟩ Y Y Y Y Y (by first | omega | (simp only [List.length_append, List.length_cons, List.length_nil]; omega)) (fun k => ?_) | fail)
      | (show AOp _ _ ⟨_, .call ⟨.value _, _, _⟩, _, _, _, _⟩ _ _ _; first | refine Bh Y Y Y Y Y (by apply hc <;> (first | assumption | omega | exact Ac _ _ | exact Af _ | exact Ah _ _ | exact Ax _ | rfl | (simp; omega))) ?_ | fail)
      | refine r_q hG Y Y Y ?_); try exact kk)
    | (show AL _ _ _ _ _ _ _ _; first | refine Bo Y Y Y ?_ | (refine Aw ?_; first | show AW _ _ _ _ _ _ | show ∃ x', _ < _ ∧ _)) | (show AW _ _ (.seq _ _) _ _ _; refine Ag ?_; intro Q1) | (show AW _ _ (.region _ _ false) _ _ _; refine Ad ?_; intro O1) | (show AW _ _ (.cond _ _ _) _ _ _; first | refine Aj Y ?_ | refine Ai Y ?_) | (show AW _ _ (.skip) _ _ _; refine Al ?_; first | show AW _ _ _ _ _ _ | show ∃ x', _ < _ ∧ _) | (show AW _ _ (.goto _) _ _ _; refine Bu ?_; try dsimp only [Aq, Aa, Ap, Ab]) | (show AW _ _ (.ret) _ _ _; refine Av ?_; try dsimp only [Aq, Aa, Ap, Ab])
    | (show DL _ _ _ _ _ _ _; refine dl_d Y Y (fun K kt kf => Au hG Y Y Y Y Y kt kf) (fun h => ?_) (fun h => ?_))
    | (show DL _ _ _ _ _ _ _; refine dl_s Y Y Y ?_) | (show DL _ _ _ _ _ _ _; refine B1 ?_; first | show AW _ _ _ _ _ _ | show ∃ x', _ < _ ∧ _) | (show AW _ _ (.region _ _ true) _ _ _; (fail_if_success show AW _ _ (.region 9 _ _) _ _ _); refine Bm mix (by kernel_rfl) ?_; intro O1) | fail)
          refine aw_drawE' (m := 15) [1, 12, 14] (fun σ => ∃ x : List T × List Nat, σ = ⟨[(q, .cells x.1)], x.2, off, none⟩) mix rfl (by repeat (first | exact Sp.zero _ | apply Sp.succ)) ?_; intro O1 F1 Z1 Q2
          repeat' (first
    | (refine' dq_cons Y Y Y (fun σ hσ K kk => ?_) ?_; (try (show Go.Ts.T; rotate_left)); (obtain ⟨R, rfl⟩ := hσ); (first
      | (show AOp _ _ ⟨_, .move _, _, _, _, _⟩ _ _ _; refine Am hG Y Y ?_)
      | (show AOp _ _ ⟨_, .assign _, _, _, _, _⟩ _ _ _; refine A9 hG Y Y ?_)
      | (show AOp _ _ ⟨_, .call ⟨.builtin .len, _, _⟩, _, _, _, _⟩ _ _ _; first | refine A7 hG Y Y Y Y ?_ | refine Be hG Y Y Y Y Y ?_)
      | (show AOp _ _ ⟨_, .binOp .add _ _ _ _, _, _, _, _⟩ _ _ _; first | refine Ao hG Y Y Y Y Y (by omega) ?_)
      | (show AOp _ _ ⟨_, .binOp .sub _ _ _ _, _, _, _, _⟩ _ _ _; first | refine Ao hG Y Y Y Y Y (by omega) ?_)
      | (show AOp _ _ ⟨_, .binOp _ _ _ _ _, _, _, _, _⟩ _ _ _; first | refine As hG Y Y Y Y Y (by omega) ?_ | refine Ar hG Y Y Y Y Y (by omega) ?_)
      | (show AOp _ _ ⟨_, .load _ _, _, _, _, _⟩ _ _ _; first | refine Bj hG Y Y Y ?_ | refine Az 0 hG Y Y Y Y ?_ | refine Az 1 hG Y Y Y Y ?_)
      | (show AOp _ _ ⟨_, .indexAddr _ _ _, _, _, _, _⟩ _ _ _; first | refine Ca hG Y Y Y Y Y Y Y ?_ | refine Bi hG Y Y Y Y Y Y Y (by omega) ?_ | refine Bk hG Y Y Y Y Y Y Y (by omega) ?_ | refine Bs hG Y Y ?_)
      | (show AOp _ _ ⟨_, .convert _ _ _, _, _, _, _⟩ _ _ _; first | refine r_cv8 hG Y Y Y Y Y Y ?_ | refine Bd hG Y Y Y Y Y (by omega) ?_ | refine Ch hG Y Y Y Y Y (by omega) ?_ | refine Br hG Y Y Y Y Y ?_)
      | (show AOp _ _ ⟨_, .slice _ _ _ _ _, _, _, _, _⟩ _ _ _; first | refine Bg hG Y Y Y Y Y Y Y (by omega) ?_ | refine Bn hG Y Y Y Y Y Y Y (by omega) ?_ | refine r_sl hG Y Y ?_)
      | (show AOp _ _ ⟨_, .unOp _ _ _, _, _, _, _⟩ _ _ _; refine B5 hG Y Y Y ?_)
      | (show AOp _ _ ⟨_, .buildSlice _ _ _, _, _, _, _⟩ _ _ _; first | refine r_mk (sz := 2) hG Y Y Y Y Y Y Y ?_)
      | (show AOp _ _ ⟨_, .build _ _, _, _, _, _⟩ _ _ _; refine Cd hG Y Y Y Y Y ?_)
      | (show AOp _ _ ⟨_, .alloc _, _, _, _, _⟩ _ _ _; refine Bt hG Y Y (fun i => ?_))
      | (show AOp _ _ ⟨_, .store _ _ _, _, _, _, _⟩ _ _ _; first | refine Bb 0 hG Y Y Y Y Y Y Y ?_ | refine Bb 1 hG Y Y Y Y Y Y Y ?_)
      | (show AOp _ _ ⟨_, .call ⟨.builtin .append, _, _⟩, _, _, _, _⟩ _ _ _; first | refine Bw (sz := 1) (xs := []) hG Y Y Y Y Y Y Y ⟨_, Y⟩ Y Y Y Y Y Y Y (by first | omega | (simp; omega)) (fun k => ?_) | refine B2 0 hG Y Y Y Y Y Y Y ⟨_, Y⟩ Y Y Y Y Y (by first | omega | (simp only [List.length_append, List.length_cons, List.length_nil]; omega)) (fun k => ?_) | fail)
      | refine r_q hG Y Y Y ?_); exact kk)
    | refine dq_d Y Y Y (fun σ hσ K kt kf => by obtain ⟨R, rfl⟩ := hσ; exact Au hG Y Y Y Y Y kt kf) (fun h => ?_) (fun h => ?_)
    | refine dq_d Y Y Y (fun σ hσ K kt kf => by obtain ⟨R, rfl⟩ := hσ; exact r_str hG Y Y Y Y kt kf) (fun h => ?_) (fun h => ?_)
    | refine dq_s Y Y Y Y ?_ | refine dq_e Y ?_ | (refine dq_nil ?_; show EL _ _ _ _ _ _ _ _ _) | refine el_s ⟨_, Y⟩ Y Y Y Y ?_
    | ((first | refine el_cons ⟨_, Y⟩ Y Y Y (fun K ke => ?_) | refine el_consN ⟨_, Y⟩ Y Y Y (fun K ke => ?_)); (first
      | (show AOp _ _ ⟨_, .move _, _, _, _, _⟩ _ _ _; refine Am hG Y Y ?_)
      | (show AOp _ _ ⟨_, .assign _, _, _, _, _⟩ _ _ _; refine A9 hG Y Y ?_)
      | (show AOp _ _ ⟨_, .call ⟨.builtin .len, _, _⟩, _, _, _, _⟩ _ _ _; first | refine A7 hG Y Y Y Y ?_ | refine Be hG Y Y Y Y Y ?_)
      | (show AOp _ _ ⟨_, .binOp .add _ _ _ _, _, _, _, _⟩ _ _ _; first | refine Ao hG Y Y Y Y Y (by omega) ?_)
      | (show AOp _ _ ⟨_, .binOp .sub _ _ _ _, _, _, _, _⟩ _ _ _; first | refine Ao hG Y Y Y Y Y (by omega) ?_)
      | (show AOp _ _ ⟨_, .binOp _ _ _ _ _, _, _, _, _⟩ _ _ _; first | refine As hG Y Y Y Y Y (by omega) ?_ | refine Ar hG Y Y Y Y Y (by omega) ?_)
      | (show AOp _ _ ⟨_, .load _ _, _, _, _, _⟩ _ _ _; first | refine Bj hG Y Y Y ?_ | refine Az 0 hG Y Y Y Y ?_ | refine Az 1 hG Y Y Y Y ?_)
      | (show AOp _ _ ⟨_, .indexAddr _ _ _, _, _, _, _⟩ _ _ _; first | refine Ca hG Y Y Y Y Y Y Y ?_ | refine Bi hG Y Y Y Y Y Y Y (by omega) ?_ | refine Bk hG Y Y Y Y Y Y Y (by omega) ?_ | refine Bs hG Y Y ?_)
      | (show AOp _ _ ⟨_, .convert _ _ _, _, _, _, _⟩ _ _ _; first | refine r_cv8 hG Y Y Y Y Y Y ?_ | refine Bd hG Y Y Y Y Y (by omega) ?_ | refine Ch hG Y Y Y Y Y (by omega) ?_ | refine Br hG Y Y Y Y Y ?_)
      | (show AOp _ _ ⟨_, .slice _ _ _ _ _, _, _, _, _⟩ _ _ _; first | refine Bg hG Y Y Y Y Y Y Y (by omega) ?_ | refine Bn hG Y Y Y Y Y Y Y (by omega) ?_ | refine r_sl hG Y Y ?_)
      | (show AOp _ _ ⟨_, .unOp _ _ _, _, _, _, _⟩ _ _ _; refine B5 hG Y Y Y ?_)
      | (show AOp _ _ ⟨_, .buildSlice _ _ _, _, _, _, _⟩ _ _ _; first | refine r_mk (sz := 2) hG Y Y Y Y Y Y Y ?_)
      | (show AOp _ _ ⟨_, .build _ _, _, _, _, _⟩ _ _ _; refine Cd hG Y Y Y Y Y ?_)
      | (show AOp _ _ ⟨_, .alloc _, _, _, _, _⟩ _ _ _; refine Bt hG Y Y (fun i => ?_))
      | (show AOp _ _ ⟨_, .store _ _ _, _, _, _, _⟩ _ _ _; first | refine Bb 0 hG Y Y Y Y Y Y Y ?_ | refine Bb 1 hG Y Y Y Y Y Y Y ?_)
      | (show AOp _ _ ⟨_, .call ⟨.builtin .append, _, _⟩, _, _, _, _⟩ _ _ _; first | refine Bw (sz := 1) (xs := []) hG Y Y Y Y Y Y Y ⟨_, Y⟩ Y Y Y Y Y Y Y (by first | omega | (simp; omega)) (fun k => ?_) | refine B2 0 hG Y Y Y Y Y Y Y ⟨_, Y⟩ Y Y Y Y Y (by first | omega | (simp only [List.length_append, List.length_cons, List.length_nil]; omega)) (fun k => ?_) | fail)
      | refine r_q hG Y Y Y ?_); refine ke _ _ ?_)
    | (refine el_nil ⟨_, Y⟩ ?_; show AL _ _ _ _ _ _ _ _) | fail)
          refine el_cons ⟨(_, _), rfl⟩ rfl rfl rfl (fun K ke => ?_)
          refine Az 0 hG rfl rfl rfl rfl ?_
          refine ke _ _ ?_
          refine el_cons ⟨(_, _), rfl⟩ rfl rfl rfl (fun K ke => ?_)
          refine Bw (sz := 2) (f := pT) (xs := []) (ys := [(UInt16.ofNat v, b.getD (p + 2) default)]) hG rfl rfl rfl rfl rfl rfl rfl ⟨_, rfl⟩ rfl rfl rfl rfl rfl rfl (show [T.agg [.int .u16 (v : Int), bT (b.getD ((p : Int) + 3 - 1).toNat default)]] = [(UInt16.ofNat v, b.getD (p + 2) default)].map pT from by rw [ht, e2]; rfl) (by simp) (fun k2 => ?_)
          refine ke _ _ ?_
          refine el_consN ⟨(_, _), rfl⟩ rfl rfl rfl (fun K ke => ?_)
          refine Bb 0 hG rfl rfl rfl rfl rfl rfl rfl ?_
          refine ke (.tup []) _ ?_
          refine el_nil ⟨(_, _), rfl⟩ ?_
          show AL _ _ _ _ _ _ _ _
          repeat' (first
    | ((first | (show AL _ _ _ _ _ _ _ _; refine Ae Y ?_) | (show DL _ _ _ _ _ _ _; refine' Bp Y Y (fun K kk => ?_) ?_; try (show Go.Ts.T; rotate_left))); (first
      | (show AOp _ _ ⟨_, .move _, _, _, _, _⟩ _ _ _; refine Am hG Y Y ?_)
      | (show AOp _ _ ⟨_, .assign _, _, _, _, _⟩ _ _ _; refine A9 hG Y Y ?_)
      | (show AOp _ _ ⟨_, .call ⟨.builtin .len, _, _⟩, _, _, _, _⟩ _ _ _; first | refine A7 hG Y Y Y Y ?_ | refine Be hG Y Y Y Y Y ?_)
      | (show AOp _ _ ⟨_, .binOp .add _ _ _ _, _, _, _, _⟩ _ _ _; first | refine Ao hG Y Y Y Y Y (by omega) ?_)
      | (show AOp _ _ ⟨_, .binOp .sub _ _ _ _, _, _, _, _⟩ _ _ _; first | refine Ao hG Y Y Y Y Y (by omega) ?_)
      | (show AOp _ _ ⟨_, .binOp _ _ _ _ _, _, _, _, _⟩ _ _ _; first | refine As hG Y Y Y Y Y (by omega) ?_ | refine Ar hG Y Y Y Y Y (by omega) ?_ | ((fail_if_success have := kk); refine Au hG Y Y Y Y Y (fun h => ?_) (fun h => ?_)))
      | (show AOp _ _ ⟨_, .load _ _, _, _, _, _⟩ _ _ _; first | refine Bj hG Y Y Y ?_ | refine Az 0 hG Y Y Y Y ?_ | refine Az 1 hG Y Y Y Y ?_)
      | (show AOp _ _ ⟨_, .indexAddr _ _ _, _, _, _, _⟩ _ _ _; first | refine Ca hG Y Y Y Y Y Y Y ?_ | refine Bi hG Y Y Y Y Y Y Y (by omega) ?_ | refine Bk hG Y Y Y Y Y Y Y (by omega) ?_ | refine Bs hG Y Y ?_)
      | (show AOp _ _ ⟨_, .convert _ _ _, _, _, _, _⟩ _ _ _; first | refine r_cv8 hG Y Y Y Y Y Y ?_ | refine Bd hG Y Y Y Y Y (by omega) ?_ | refine Ch hG Y Y Y Y Y (by omega) ?_ | refine Br hG Y Y Y Y Y ?_)
      | (show AOp _ _ ⟨_, .slice _ _ _ _ _, _, _, _, _⟩ _ _ _; first | refine Bg hG Y Y Y Y Y Y Y (by omega) ?_ | refine Bn hG Y Y Y Y Y Y Y (by omega) ?_ | refine r_sl hG Y Y ?_)
      | (show AOp _ _ ⟨_, .unOp _ _ _, _, _, _, _⟩ _ _ _; refine B5 hG Y Y Y ?_)
      | (show AOp _ _ ⟨_, .buildSlice _ _ _, _, _, _, _⟩ _ _ _; first | refine r_mk (sz := 2) hG Y Y Y Y Y Y Y ?_)
      | (show AOp _ _ ⟨_, .build _ _, _, _, _, _⟩ _ _ _; refine Cd hG Y Y Y Y Y ?_)
      | (show AOp _ _ ⟨_, .alloc _, _, _, _, _⟩ _ _ _; refine Bt hG Y Y (fun i => ?_))
      | (show AOp _ _ ⟨_, .store _ _ _, _, _, _, _⟩ _ _ _; first | refine Bb 0 hG Y Y Y Y Y Y Y ?_ | refine Bb 1 hG Y Y Y Y Y Y Y ?_)
      | (show AOp _ _ ⟨_, .call ⟨.builtin .append, _, _⟩, _, _, _, _⟩ _ _ _; first | refine Bw (sz := 1) (xs := []) hG Y Y Y Y Y Y Y ⟨_, Y⟩ Y Y Y Y Y Y Y (by first | omega | (simp; omega)) (fun k => ?_) | refine B2 0 hG Y Y Y Y Y Y Y ⟨_, Y⟩ Y Y Y Y Y (by first | omega | (simp only [List.length_append, List.length_cons, List.length_nil]; omega)) (fun k => ?_) | fail)
      | refine r_q hG Y Y Y ?_); try exact kk)
    | (show AL _ _ _ _ _ _ _ _; first | refine Bo Y Y Y ?_ | (refine Aw ?_; first | show AW _ _ _ _ _ _ | show ∃ x', _ < _ ∧ _)) | (show AW _ _ (.seq _ _) _ _ _; refine Ag ?_; intro Q1) | (show AW _ _ (.region _ _ false) _ _ _; refine Ad ?_; intro O1) | (show AW _ _ (.cond _ _ _) _ _ _; first | refine Aj Y ?_ | refine Ai Y ?_) | (show AW _ _ (.skip) _ _ _; refine Al ?_; first | show AW _ _ _ _ _ _ | show ∃ x', _ < _ ∧ _) | (show AW _ _ (.goto _) _ _ _; refine Bu ?_; try dsimp only [Aq, Aa, Ap, Ab]) | (show AW _ _ (.ret) _ _ _; refine Av ?_; try dsimp only [Aq, Aa, Ap, Ab])
    | (show DL _ _ _ _ _ _ _; refine dl_d Y Y (fun K kt kf => Au hG Y Y Y Y Y kt kf) (fun h => ?_) (fun h => ?_))
    | (show DL _ _ _ _ _ _ _; refine dl_s Y Y Y ?_) | (show DL _ _ _ _ _ _ _; refine B1 ?_; first | show AW _ _ _ _ _ _ | show ∃ x', _ < _ ∧ _) | (show AW _ _ (.region _ _ true) _ _ _; refine Bm mix (by kernel_rfl) ?_; intro O1) | fail)
          refine ⟨rfl, ⟨m, by omega, [] ++ [(UInt16.ofNat v, b.getD (p + 2) default)], p + 3, q, h2, by omega, hr2, some k2, (fun h => by cases h), by simp at hacc ⊢; omega⟩, by dsimp only; omega, ?_, .refl _⟩
          exact .cons rfl (.cons rfl (.consW rfl (.int (by simp)) (.consW rfl (.int (by simp)) (.nil _))))
        | some k =>
          repeat' (first
    | ((first | (show AL _ _ _ _ _ _ _ _; refine Ae Y ?_) | (show DL _ _ _ _ _ _ _; refine' Bp Y Y (fun K kk => ?_) ?_; try (show Go.Ts.T; rotate_left))); (first
      | (show AOp _ _ ⟨_, .move _, _, _, _, _⟩ _ _ _; refine Am hG Y Y ?_)
      | (show AOp _ _ ⟨_, .assign _, _, _, _, _⟩ _ _ _; refine A9 hG Y Y ?_)
      | (show AOp _ _ ⟨_, .call ⟨.builtin .len, _, _⟩, _, _, _, _⟩ _ _ _; first | refine A7 hG Y Y Y Y ?_ | refine Be hG Y Y Y Y Y ?_)
      | (show AOp _ _ ⟨_, .binOp .add _ _ _ _, _, _, _, _⟩ _ _ _; first | refine Ao hG Y Y Y Y Y (by omega) ?_)
      | (show AOp _ _ ⟨_, .binOp .sub _ _ _ _, _, _, _, _⟩ _ _ _; first | refine Ao hG Y Y Y Y Y (by omega) ?_)
      | (show AOp _ _ ⟨_, .binOp _ _ _ _ _, _, _, _, _⟩ _ _ _; first | refine As hG Y Y Y Y Y (by omega) ?_ | refine Ar hG Y Y Y Y Y (by omega) ?_ | ((fail_if_success have := kk); refine Au hG Y Y Y Y Y (fun h => ?_) (fun h => ?_)))
      | (show AOp _ _ ⟨_, .load _ _, _, _, _, _⟩ _ _ _; first | refine Bj hG Y Y Y ?_ | refine Az 0 hG Y Y Y Y ?_ | refine Az 1 hG Y Y Y Y ?_)
      | (show AOp _ _ ⟨_, .indexAddr _ _ _, _, _, _, _⟩ _ _ _; first | refine Ca hG Y Y Y Y Y Y Y ?_ | refine Bi hG Y Y Y Y Y Y Y (by omega) ?_ | refine Bk hG Y Y Y Y Y Y Y (by omega) ?_ | refine Bs hG Y Y ?_)
      | (show AOp _ _ ⟨_, .convert _ _ _, _, _, _, _⟩ _ _ _; first | refine r_cv8 hG Y Y Y Y Y Y ?_ | refine Bd hG Y Y Y Y Y (by omega) ?_ | refine Ch hG Y Y Y Y Y (by omega) ?_ | refine Br hG Y Y Y Y Y ?_)
      | (show AOp _ _ ⟨_, .slice _ _ _ _ _, _, _, _, _⟩ _ _ _; first | refine Bg hG Y Y Y Y Y Y Y (by omega) ?_ | refine Bn hG Y Y Y Y Y Y Y (by omega) ?_ | refine r_sl hG Y Y ?_)
      | (show AOp _ _ ⟨_, .unOp _ _ _, _, _, _, _⟩ _ _ _; refine B5 hG Y Y Y ?_)
      | (show AOp _ _ ⟨_, .buildSlice _ _ _, _, _, _, _⟩ _ _ _; first | refine r_mk (sz := 2) hG Y Y Y Y Y Y Y ?_)
      | (show AOp _ _ ⟨_, .build _ _, _, _, _, _⟩ _ _ _; refine Cd hG Y Y Y Y Y ?_)
      | (show AOp _ _ ⟨_, .alloc _, _, _, _, _⟩ _ _ _; refine Bt hG Y Y (fun i => ?_))
      | (show AOp _ _ ⟨_, .store _ _ _, _, _, _, _⟩ _ _ _; first | refine Bb 0 hG Y Y Y Y Y Y Y ?_ | refine Bb 1 hG Y Y Y Y Y Y Y ?_)
      | (show AOp _ _ ⟨_, .call ⟨.builtin .append, _, _⟩, _, _, _, _⟩ _ _ _; first | refine Bw (sz := 1) (xs := []) hG Y Y Y Y Y Y Y ⟨_, Y⟩ Y Y Y Y Y Y Y (by first | omega | (simp; omega)) (fun k => ?_) | refine B2 0 hG Y Y Y Y Y Y Y ⟨_, Y⟩ Y Y Y Y Y (by first | omega | (simp only [List.length_append, List.length_cons, List.length_nil]; omega)) (fun k => ?_) | fail)
      | (show AOp _ _ ⟨_, .call ⟨.value _, _, _⟩, _, _, _, _⟩ _ _ _; first | refine Bh Y Y Y Y Y (by apply hc <;> (first | assumption | omega | exact Ac _ _ | exact Af _ | exact Ah _ _ | exact Ax _ | rfl | (simp; omega))) ?_ | fail)
      | refine r_q hG Y Y Y ?_); try exact kk)
    | (show AL _ _ _ _ _ _ _ _; first | refine Bo Y Y Y ?_ | (refine Aw ?_; first | show AW _ _ _ _ _ _ | show ∃ x', _ < _ ∧ _)) | (show AW _ _ (.seq _ _) _ _ _; refine Ag ?_; intro Q1) | (show AW _ _ (.region _ _ false) _ _ _; refine Ad ?_; intro O1) | (show AW _ _ (.cond _ _ _) _ _ _; first | refine Aj Y ?_ | refine Ai Y ?_) | (show AW _ _ (.skip) _ _ _; refine Al ?_; first | show AW _ _ _ _ _ _ | show ∃ x', _ < _ ∧ _) | (show AW _ _ (.goto _) _ _ _; refine Bu ?_; try dsimp only [Aq, Aa, Ap, Ab]) | (show AW _ _ (.ret) _ _ _; refine Av ?_; try dsimp only [Aq, Aa, Ap, Ab])
    | (show DL _ _ _ _ _ _ _; refine dl_d Y Y (fun K kt kf => Au hG Y Y Y Y Y kt kf) (fun h => ?_) (fun h => ?_))
    | (show DL _ _ _ _ _ _ _; refine dl_s Y Y Y ?_) | (show DL _ _ _ _ _ _ _; refine B1 ?_; first | show AW _ _ _ _ _ _ | show ∃ x', _ < _ ∧ _) | (show AW _ _ (.region _ _ true) _ _ _; (fail_if_success show AW _ _ (.region 9 _ _) _ _ _); refine Bm mix (by kernel_rfl) ?_; intro O1) | fail)
          refine aw_drawE' (m := 15) [1, 12, 14] (fun σ => ∃ x : List T × List Nat, σ = ⟨[(q, .cells x.1)], x.2, off, none⟩) mix rfl (by repeat (first | exact Sp.zero _ | apply Sp.succ)) ?_; intro O1 F1 Z1 Q2
          repeat' (first
    | (refine' dq_cons Y Y Y (fun σ hσ K kk => ?_) ?_; (try (show Go.Ts.T; rotate_left)); (obtain ⟨R, rfl⟩ := hσ); (first
      | (show AOp _ _ ⟨_, .move _, _, _, _, _⟩ _ _ _; refine Am hG Y Y ?_)
      | (show AOp _ _ ⟨_, .assign _, _, _, _, _⟩ _ _ _; refine A9 hG Y Y ?_)
      | (show AOp _ _ ⟨_, .call ⟨.builtin .len, _, _⟩, _, _, _, _⟩ _ _ _; first | refine A7 hG Y Y Y Y ?_ | refine Be hG Y Y Y Y Y ?_)
      | (show AOp _ _ ⟨_, .binOp .add _ _ _ _, _, _, _, _⟩ _ _ _; first | refine Ao hG Y Y Y Y Y (by omega) ?_)
      | (show AOp _ _ ⟨_, .binOp .sub _ _ _ _, _, _, _, _⟩ _ _ _; first | refine Ao hG Y Y Y Y Y (by omega) ?_)
      | (show AOp _ _ ⟨_, .binOp _ _ _ _ _, _, _, _, _⟩ _ _ _; first | refine As hG Y Y Y Y Y (by omega) ?_ | refine Ar hG Y Y Y Y Y (by omega) ?_)
      | (show AOp _ _ ⟨_, .load _ _, _, _, _, _⟩ _ _ _; first | refine Bj hG Y Y Y ?_ | refine Az 0 hG Y Y Y Y ?_ | refine Az 1 hG Y Y Y Y ?_)
      | (show AOp _ _ ⟨_, .indexAddr _ _ _, _, _, _, _⟩ _ _ _; first | refine Ca hG Y Y Y Y Y Y Y ?_ | refine Bi hG Y Y Y Y Y Y Y (by omega) ?_ | refine Bk hG Y Y Y Y Y Y Y (by omega) ?_ | refine Bs hG Y Y ?_)
      | (show AOp _ _ ⟨_, .convert _ _ _, _, _, _, _⟩ _ _ _; first | refine r_cv8 hG Y Y Y Y Y Y ?_ | refine Bd hG Y Y Y Y Y (by omega) ?_ | refine Ch hG Y Y Y Y Y (by omega) ?_ | refine Br hG Y Y Y Y Y ?_)
      | (show AOp _ _ ⟨_, .slice _ _ _ _ _, _, _, _, _⟩ _ _ _; first | refine Bg hG Y Y Y Y Y Y Y (by omega) ?_ | refine Bn hG Y Y Y Y Y Y Y (by omega) ?_ | refine r_sl hG Y Y ?_)
      | (show AOp _ _ ⟨_, .unOp _ _ _, _, _, _, _⟩ _ _ _; refine B5 hG Y Y Y ?_)
      | (show AOp _ _ ⟨_, .buildSlice _ _ _, _, _, _, _⟩ _ _ _; first | refine r_mk (sz := 2) hG Y Y Y Y Y Y Y ?_)
      | (show AOp _ _ ⟨_, .build _ _, _, _, _, _⟩ _ _ _; refine Cd hG Y Y Y Y Y ?_)
      | (show AOp _ _ ⟨_, .alloc _, _, _, _, _⟩ _ _ _; refine Bt hG Y Y (fun i => ?_))
      | (show AOp _ _ ⟨_, .store _ _ _, _, _, _, _⟩ _ _ _; first | refine Bb 0 hG Y Y Y Y Y Y Y ?_ | refine Bb 1 hG Y Y Y Y Y Y Y ?_)
      | (show AOp _ _ ⟨_, .call ⟨.builtin .append, _, _⟩, _, _, _, _⟩ _ _ _; first | refine Bw (sz := 1) (xs := []) hG Y Y Y Y Y Y Y ⟨_, Y⟩ Y Y Y Y Y Y Y (by first | omega | (simp; omega)) (fun k => ?_) | refine B2 0 hG Y Y Y Y Y Y Y ⟨_, Y⟩ Y Y Y Y Y (by first | omega | (simp only [List.length_append, List.length_cons, List.length_nil]; omega)) (fun k => ?_) | fail)
      | refine r_q hG Y Y Y ?_); exact kk)
    | refine dq_d Y Y Y (fun σ hσ K kt kf => by obtain ⟨R, rfl⟩ := hσ; exact Au hG Y Y Y Y Y kt kf) (fun h => ?_) (fun h => ?_)
    | refine dq_d Y Y Y (fun σ hσ K kt kf => by obtain ⟨R, rfl⟩ := hσ; exact r_str hG Y Y Y Y kt kf) (fun h => ?_) (fun h => ?_)
    | refine dq_s Y Y Y Y ?_ | refine dq_e Y ?_ | (refine dq_nil ?_; show EL _ _ _ _ _ _ _ _ _) | refine el_s ⟨_, Y⟩ Y Y Y Y ?_
    | ((first | refine el_cons ⟨_, Y⟩ Y Y Y (fun K ke => ?_) | refine el_consN ⟨_, Y⟩ Y Y Y (fun K ke => ?_)); (first
      | (show AOp _ _ ⟨_, .move _, _, _, _, _⟩ _ _ _; refine Am hG Y Y ?_)
      | (show AOp _ _ ⟨_, .assign _, _, _, _, _⟩ _ _ _; refine A9 hG Y Y ?_)
      | (show AOp _ _ ⟨_, .call ⟨.builtin .len, _, _⟩, _, _, _, _⟩ _ _ _; first | refine A7 hG Y Y Y Y ?_ | refine Be hG Y Y Y Y Y ?_)
      | (show AOp _ _ ⟨_, .binOp .add _ _ _ _, _, _, _, _⟩ _ _ _; first | refine Ao hG Y Y Y Y Y (by omega) ?_)
      | (show AOp _ _ ⟨_, .binOp .sub _ _ _ _, _, _, _, _⟩ _ _ _; first | refine Ao hG Y Y Y Y Y (by omega) ?_)
      | (show AOp _ _ ⟨_, .binOp _ _ _ _ _, _, _, _, _⟩ _ _ _; first | refine As hG Y Y Y Y Y (by omega) ?_ | refine Ar hG Y Y Y Y Y (by omega) ?_)
      | (show AOp _ _ ⟨_, .load _ _, _, _, _, _⟩ _ _ _; first | refine Bj hG Y Y Y ?_ | refine Az 0 hG Y Y Y Y ?_ | refine Az 1 hG Y Y Y Y ?_)
      | (show AOp _ _ ⟨_, .indexAddr _ _ _, _, _, _, _⟩ _ _ _; first | refine Ca hG Y Y Y Y Y Y Y ?_ | refine Bi hG Y Y Y Y Y Y Y (by omega) ?_ | refine Bk hG Y Y Y Y Y Y Y (by omega) ?_ | refine Bs hG Y Y ?_)
      | (show AOp _ _ ⟨_, .convert _ _ _, _, _, _, _⟩ _ _ _; first | refine r_cv8 hG Y Y Y Y Y Y ?_ | refine Bd hG Y Y Y Y Y (by omega) ?_ | refine Ch hG Y Y Y Y Y (by omega) ?_ | refine Br hG Y Y Y Y Y ?_)
      | (show AOp _ _ ⟨_, .slice _ _ _ _ _, _, _, _, _⟩ _ _ _; first | refine Bg hG Y Y Y Y Y Y Y (by omega) ?_ | refine Bn hG Y Y Y Y Y Y Y (by omega) ?_ | refine r_sl hG Y Y ?_)
      | (show AOp _ _ ⟨_, .unOp _ _ _, _, _, _, _⟩ _ _ _; refine B5 hG Y Y Y ?_)
      | (show AOp _ _ ⟨_, .buildSlice _ _ _, _, _, _, _⟩ _ _ _; first | refine r_mk (sz := 2) hG Y Y Y Y Y Y Y ?_)
      | (show AOp _ _ ⟨_, .build _ _, _, _, _, _⟩ _ _ _; refine Cd hG Y Y Y Y Y ?_)
      | (show AOp _ _ ⟨_, .alloc _, _, _, _, _⟩ _ _ _; refine Bt hG Y Y (fun i => ?_))
      | (show AOp _ _ ⟨_, .store _ _ _, _, _, _, _⟩ _ _ _; first | refine Bb 0 hG Y Y Y Y Y Y Y ?_ | refine Bb 1 hG Y Y Y Y Y Y Y ?_)
      | (show AOp _ _ ⟨_, .call ⟨.builtin .append, _, _⟩, _, _, _, _⟩ _ _ _; first | refine Bw (sz := 1) (xs := []) hG Y Y Y Y Y Y Y ⟨_, Y⟩ Y Y Y Y Y Y Y (by first | omega | (simp; omega)) (fun k => ?_) | refine B2 0 hG Y Y Y Y Y Y Y ⟨_, Y⟩ Y Y Y Y Y (by first | omega | (simp only [List.length_append, List.length_cons, List.length_nil]; omega)) (fun k => ?_) | fail)
      | refine r_q hG Y Y Y ?_); refine ke _ _ ?_)
    | (refine el_nil ⟨_, Y⟩ ?_; show AL _ _ _ _ _ _ _ _) | fail)
          refine el_cons ⟨(_, _), rfl⟩ rfl rfl rfl (fun K ke => ?_)
          refine Az 0 hG rfl rfl rfl rfl ?_
          refine ke _ _ ?_
          refine el_cons ⟨(_, _), rfl⟩ rfl rfl rfl (fun K ke => ?_)
          refine B2 0 (sz := 2) (f := pT) (xs := acc) (ys := [(UInt16.ofNat v, b.getD (p + 2) default)]) hG rfl rfl rfl rfl rfl rfl rfl ⟨_, rfl⟩ rfl rfl rfl rfl (show [T.agg [.int .u16 (v : Int), bT (b.getD ((p : Int) + 3 - 1).toNat default)]] = [(UInt16.ofNat v, b.getD (p + 2) default)].map pT from by rw [ht, e2]; rfl) (by simp; omega) (fun k2 => ?_)
          refine ke _ _ ?_
          refine el_consN ⟨(_, _), rfl⟩ rfl rfl rfl (fun K ke => ?_)
          refine Bb 0 hG rfl rfl rfl rfl rfl rfl rfl ?_
          refine ke (.tup []) _ ?_
          refine el_nil ⟨(_, _), rfl⟩ ?_
          show AL _ _ _ _ _ _ _ _
          repeat' (first
    | ((first | (show AL _ _ _ _ _ _ _ _; refine Ae Y ?_) | (show DL _ _ _ _ _ _ _; refine' Bp Y Y (fun K kk => ?_) ?_; try (show Go.Ts.T; rotate_left))); (first
      | (show AOp _ _ ⟨_, .move _, _, _, _, _⟩ _ _ _; refine Am hG Y Y ?_)
      | (show AOp _ _ ⟨_, .assign _, _, _, _, _⟩ _ _ _; refine A9 hG Y Y ?_)
      | (show AOp _ _ ⟨_, .call ⟨.builtin .len, _, _⟩, _, _, _, _⟩ _ _ _; first | refine A7 hG Y Y Y Y ?_ | refine Be hG Y Y Y Y Y ?_)
      | (show AOp _ _ ⟨_, .binOp .add _ _ _ _, _, _, _, _⟩ _ _ _; first | refine Ao hG Y Y Y Y Y (by omega) ?_)
      | (show AOp _ _ ⟨_, .binOp .sub _ _ _ _, _, _, _, _⟩ _ _ _; first | refine Ao hG Y Y Y Y Y (by omega) ?_)
      | (show AOp _ _ ⟨_, .binOp _ _ _ _ _, _, _, _, _⟩ _ _ _; first | refine As hG Y Y Y Y Y (by omega) ?_ | refine Ar hG Y Y Y Y Y (by omega) ?_ | ((fail_if_success have := kk); refine Au hG Y Y Y Y Y (fun h => ?_) (fun h => ?_)))
      | (show AOp _ _ ⟨_, .load _ _, _, _, _, _⟩ _ _ _; first | refine Bj hG Y Y Y ?_ | refine Az 0 hG Y Y Y Y ?_ | refine Az 1 hG Y Y Y Y ?_)
      | (show AOp _ _ ⟨_, .indexAddr _ _ _, _, _, _, _⟩ _ _ _; first | refine Ca hG Y Y Y Y Y Y Y ?_ | refine Bi hG Y Y Y Y Y Y Y (by omega) ?_ | refine Bk hG Y Y Y Y Y Y Y (by omega) ?_ | refine Bs hG Y Y ?_)
      | (show AOp _ _ ⟨_, .convert _ _ _, _, _, _, _⟩ _ _ _; first | refine r_cv8 hG Y Y Y Y Y Y ?_ | refine Bd hG Y Y Y Y Y (by omega) ?_ | refine Ch hG Y Y Y Y Y (by omega) ?_ | refine Br hG Y Y Y Y Y ?_)
      | (show AOp _ _ ⟨_, .slice _ _ _ _ _, _, _, _, _⟩ _ _ _; first | refine Bg hG Y Y Y Y Y Y Y (by omega) ?_ | refine Bn hG Y Y Y Y Y Y Y (by omega) ?_ | refine r_sl hG Y Y ?_)
      | (show AOp _ _ ⟨_, .unOp _ _ _, _, _, _, _⟩ _ _ _; refine B5 hG Y Y Y ?_)
      | (show AOp _ _ ⟨_, .buildSlice _ _ _, _, _, _, _⟩ _ _ _; first | refine r_mk (sz := 2) hG Y Y Y Y Y Y Y ?_)
      | (show AOp _ _ ⟨_, .build _ _, _, _, _, _⟩ _ _ _; refine Cd hG Y Y Y Y Y ?_)
      | (show AOp _ _ ⟨_, .alloc _, _, _, _, _⟩ _ _ _; refine Bt hG Y Y (fun i => ?_))
      | (show AOp _ _ ⟨_, .store _ _ _, _, _, _, _⟩ _ _ _; first | refine Bb 0 hG Y Y Y Y Y Y Y ?_ | refine Bb 1 hG Y Y Y Y Y Y Y ?_)
      | (show AOp _ _ ⟨_, .call ⟨.builtin .append, _, _⟩, _, _, _, _⟩ _ _ _; first | refine Bw (sz := 1) (xs := []) hG Y Y Y Y Y Y Y ⟨_, Y⟩ Y Y Y Y Y Y Y (by first | omega | (simp; omega)) (fun k => ?_) | refine B2 0 hG Y Y Y Y Y Y Y ⟨_, Y⟩ Y Y Y Y Y (by first | omega | (simp only [List.length_append, List.length_cons, List.length_nil]; omega)) (fun k => ?_) | fail)
      | refine r_q hG Y Y Y ?_); try exact kk)
    | (show AL _ _ _ _ _ _ _ _; first | refine Bo Y Y Y ?_ | (refine Aw ?_; first | show AW _ _ _ _ _ _ | show ∃ x', _ < _ ∧ _)) | (show AW _ _ (.seq _ _) _ _ _; refine Ag ?_; intro Q1) | (show AW _ _ (.region _ _ false) _ _ _; refine Ad ?_; intro O1) | (show AW _ _ (.cond _ _ _) _ _ _; first | refine Aj Y ?_ | refine Ai Y ?_) | (show AW _ _ (.skip) _ _ _; refine Al ?_; first | show AW _ _ _ _ _ _ | show ∃ x', _ < _ ∧ _) | (show AW _ _ (.goto _) _ _ _; refine Bu ?_; try dsimp only [Aq, Aa, Ap, Ab]) | (show AW _ _ (.ret) _ _ _; refine Av ?_; try dsimp only [Aq, Aa, Ap, Ab])
    | (show DL _ _ _ _ _ _ _; refine dl_d Y Y (fun K kt kf => Au hG Y Y Y Y Y kt kf) (fun h => ?_) (fun h => ?_))
    | (show DL _ _ _ _ _ _ _; refine dl_s Y Y Y ?_) | (show DL _ _ _ _ _ _ _; refine B1 ?_; first | show AW _ _ _ _ _ _ | show ∃ x', _ < _ ∧ _) | (show AW _ _ (.region _ _ true) _ _ _; refine Bm mix (by kernel_rfl) ?_; intro O1) | fail)
          refine ⟨rfl, ⟨m, by omega, acc ++ [(UInt16.ofNat v, b.getD (p + 2) default)], p + 3, q, h2, by omega, hr2, some k2, (fun h => by cases h), by simp at hacc ⊢; omega⟩, by dsimp only; omega, ?_, .refl _⟩
          exact .cons rfl (.cons rfl (.consW rfl (.int (by simp)) (.consW rfl (.int (by simp)) (.nil _))))
  · intro key
    by_cases h2 : b.length < 2
    · have hT : Cb b = ⟨0, [], 0, 3⟩ := by rw [Cb, if_pos h2]
      repeat' (first
    | ((first | (show AL _ _ _ _ _ _ _ _; refine Ae Y ?_) | (show DL _ _ _ _ _ _ _; refine' Bp Y Y (fun K kk => ?_) ?_; try (show Go.Ts.T; rotate_left))); (first
      | (show AOp _ _ ⟨_, .move _, _, _, _, _⟩ _ _ _; refine Am hG Y Y ?_)
      | (show AOp _ _ ⟨_, .assign _, _, _, _, _⟩ _ _ _; refine A9 hG Y Y ?_)
      | (show AOp _ _ ⟨_, .call ⟨.builtin .len, _, _⟩, _, _, _, _⟩ _ _ _; first | refine A7 hG Y Y Y Y ?_ | refine Be hG Y Y Y Y Y ?_)
      | (show AOp _ _ ⟨_, .binOp .add _ _ _ _, _, _, _, _⟩ _ _ _; first | refine Ao hG Y Y Y Y Y (by omega) ?_)
      | (show AOp _ _ ⟨_, .binOp .sub _ _ _ _, _, _, _, _⟩ _ _ _; first | refine Ao hG Y Y Y Y Y (by omega) ?_)
      | (show AOp _ _ ⟨_, .binOp _ _ _ _ _, _, _, _, _⟩ _ _ _; first | refine As hG Y Y Y Y Y (by omega) ?_ | refine Ar hG Y Y Y Y Y (by omega) ?_ | ((fail_if_success have := kk); refine Au hG Y Y Y Y Y (fun h => ?_) (fun h => ?_)))
      | (show AOp _ _ ⟨_, .load _ _, _, _, _, _⟩ _ _ _; first | refine Bj hG Y Y Y ?_ | refine Az 0 hG Y Y Y Y ?_ | refine Az 1 hG Y Y Y Y ?_)
      | (show AOp _ _ ⟨_, .indexAddr _ _ _, _, _, _, _⟩ _ _ _; first | refine Ca hG Y Y Y Y Y Y Y ?_ | refine Bi hG Y Y Y Y Y Y Y (by omega) ?_ | refine Bk hG Y Y Y Y Y Y Y (by omega) ?_ | refine Bs hG Y Y ?_)
      | (show AOp _ _ ⟨_, .convert _ _ _, _, _, _, _⟩ _ _ _; first | refine r_cv8 hG Y Y Y Y Y Y ?_ | refine Bd hG Y Y Y Y Y (by omega) ?_ | refine Ch hG Y Y Y Y Y (by omega) ?_ | refine Br hG Y Y Y Y Y ?_)
      | (show AOp _ _ ⟨_, .slice _ _ _ _ _, _, _, _, _⟩ _ _ _; first | refine Bg hG Y Y Y Y Y Y Y (by omega) ?_ | refine Bn hG Y Y Y Y Y Y Y (by omega) ?_ | refine r_sl hG Y Y ?_)
      | (show AOp _ _ ⟨_, .unOp _ _ _, _, _, _, _⟩ _ _ _; refine B5 hG Y Y Y ?_)
      | (show AOp _ _ ⟨_, .buildSlice _ _ _, _, _, _, _⟩ _ _ _; first | refine r_mk (sz := 2) hG Y Y Y Y Y Y Y ?_)
      | (show AOp _ _ ⟨_, .build _ _, _, _, _, _⟩ _ _ _; refine Cd hG Y Y Y Y Y ?_)
      | (show AOp _ _ ⟨_, .alloc _, _, _, _, _⟩ _ _ _; refine Bt hG Y Y (fun i => ?_))
      | (show AOp _ _ ⟨_, .store _ _ _, _, _, _, _⟩ _ _ _; first | refine Bb 0 hG Y Y Y Y Y Y Y ?_ | refine Bb 1 hG Y Y Y Y Y Y Y ?_)
      | (show AOp _ _ ⟨_, .call ⟨.builtin .append, _, _⟩, _, _, _, _⟩ _ _ _; first | refine Bw (sz := 1) (xs := []) hG Y Y Y Y Y Y Y ⟨_, Y⟩ Y Y Y Y Y Y Y (by first | omega | (simp; omega)) (fun k => ?_) | refine B2 0 hG Y Y Y Y Y Y Y ⟨_, Y⟩ Y Y Y Y Y (by first | omega | (simp only [List.length_append, List.length_cons, List.length_nil]; omega)) (fun k => ?_) | fail)
      | refine r_q hG Y Y Y ?_); try exact kk)
    | (show AL _ _ _ _ _ _ _ _; first | refine Bo Y Y Y ?_ | (refine Aw ?_; first | show AW _ _ _ _ _ _ | show ∃ x', _ < _ ∧ _)) | (show AW _ _ (.seq _ _) _ _ _; refine Ag ?_; intro Q1) | (show AW _ _ (.region _ _ false) _ _ _; refine Ad ?_; intro O1) | (show AW _ _ (.cond _ _ _) _ _ _; first | refine Aj Y ?_ | refine Ai Y ?_) | (show AW _ _ (.skip) _ _ _; refine Al ?_; first | show AW _ _ _ _ _ _ | show ∃ x', _ < _ ∧ _) | (show AW _ _ (.goto _) _ _ _; refine Bu ?_; try dsimp only [Aq, Aa, Ap, Ab]) | (show AW _ _ (.ret) _ _ _; refine Av ?_; try dsimp only [Aq, Aa, Ap, Ab])
    | (show DL _ _ _ _ _ _ _; refine dl_d Y Y (fun K kt kf => Au hG Y Y Y Y Y kt kf) (fun h => ?_) (fun h => ?_))
    | (show DL _ _ _ _ _ _ _; refine dl_s Y Y Y ?_) | (show DL _ _ _ _ _ _ _; refine B1 ?_; first | show AW _ _ _ _ _ _ | show ∃ x', _ < _ ∧ _) | (show AW _ _ (.region _ _ true) _ _ _; refine Bm mix (by kernel_rfl) ?_; intro O1) | fail)
      refine Bc (res_cell 0 rfl rfl rfl (Ak rfl (Ak rfl Ba))) ?_ rfl
      rw [hT]
      exact Wk.tupL (wk3 (Wk.aggL (wk2 (.refl _) (.nil 2))) (.refl _) (.refl _))
    · have hu8 := (b.getD 1 default).toNat_lt
      repeat' (first
    | ((first | (show AL _ _ _ _ _ _ _ _; refine Ae Y ?_) | (show DL _ _ _ _ _ _ _; refine' Bp Y Y (fun K kk => ?_) ?_; try (show Go.Ts.T; rotate_left))); (first
      | (show AOp _ _ ⟨_, .move _, _, _, _, _⟩ _ _ _; refine Am hG Y Y ?_)
      | (show AOp _ _ ⟨_, .assign _, _, _, _, _⟩ _ _ _; refine A9 hG Y Y ?_)
      | (show AOp _ _ ⟨_, .call ⟨.builtin .len, _, _⟩, _, _, _, _⟩ _ _ _; first | refine A7 hG Y Y Y Y ?_ | refine Be hG Y Y Y Y Y ?_)
      | (show AOp _ _ ⟨_, .binOp .add _ _ _ _, _, _, _, _⟩ _ _ _; first | refine Ao hG Y Y Y Y Y (by omega) ?_)
      | (show AOp _ _ ⟨_, .binOp .sub _ _ _ _, _, _, _, _⟩ _ _ _; first | refine Ao hG Y Y Y Y Y (by omega) ?_)
      | (show AOp _ _ ⟨_, .binOp _ _ _ _ _, _, _, _, _⟩ _ _ _; first | refine As hG Y Y Y Y Y (by omega) ?_ | refine Ar hG Y Y Y Y Y (by omega) ?_ | ((fail_if_success have := kk); refine Au hG Y Y Y Y Y (fun h => ?_) (fun h => ?_)))
      | (show AOp _ _ ⟨_, .load _ _, _, _, _, _⟩ _ _ _; first | refine Bj hG Y Y Y ?_ | refine Az 0 hG Y Y Y Y ?_ | refine Az 1 hG Y Y Y Y ?_)
      | (show AOp _ _ ⟨_, .indexAddr _ _ _, _, _, _, _⟩ _ _ _; first | refine Ca hG Y Y Y Y Y Y Y ?_ | refine Bi hG Y Y Y Y Y Y Y (by omega) ?_ | refine Bk hG Y Y Y Y Y Y Y (by omega) ?_ | refine Bs hG Y Y ?_)
      | (show AOp _ _ ⟨_, .convert _ _ _, _, _, _, _⟩ _ _ _; first | refine r_cv8 hG Y Y Y Y Y Y ?_ | refine Bd hG Y Y Y Y Y (by omega) ?_ | refine Ch hG Y Y Y Y Y (by omega) ?_ | refine Br hG Y Y Y Y Y ?_)
      | (show AOp _ _ ⟨_, .slice _ _ _ _ _, _, _, _, _⟩ _ _ _; first | refine Bg hG Y Y Y Y Y Y Y (by omega) ?_ | refine Bn hG Y Y Y Y Y Y Y (by omega) ?_ | refine r_sl hG Y Y ?_)
      | (show AOp _ _ ⟨_, .unOp _ _ _, _, _, _, _⟩ _ _ _; refine B5 hG Y Y Y ?_)
      | (show AOp _ _ ⟨_, .buildSlice _ _ _, _, _, _, _⟩ _ _ _; first | refine r_mk (sz := 2) hG Y Y Y Y Y Y Y ?_)
      | (show AOp _ _ ⟨_, .build _ _, _, _, _, _⟩ _ _ _; refine Cd hG Y Y Y Y Y ?_)
      | (show AOp _ _ ⟨_, .alloc _, _, _, _, _⟩ _ _ _; refine Bt hG Y Y (fun i => ?_))
      | (show AOp _ _ ⟨_, .store _ _ _, _, _, _, _⟩ _ _ _; first | refine Bb 0 hG Y Y Y Y Y Y Y ?_ | refine Bb 1 hG Y Y Y Y Y Y Y ?_)
      | (show AOp _ _ ⟨_, .call ⟨.builtin .append, _, _⟩, _, _, _, _⟩ _ _ _; first | refine Bw (sz := 1) (xs := []) hG Y Y Y Y Y Y Y ⟨_, Y⟩ Y Y Y Y Y Y Y (by first | omega | (simp; omega)) (fun k => ?_) | refine B2 0 hG Y Y Y Y Y Y Y ⟨_, Y⟩ Y Y Y Y Y (by first | omega | (simp only [List.length_append, List.length_cons, List.length_nil]; omega)) (fun k => ?_) | fail)
      | refine r_q hG Y Y Y ?_); try exact kk)
    | (show AL _ _ _ _ _ _ _ _; first | refine Bo Y Y Y ?_ | (refine Aw ?_; first | show AW _ _ _ _ _ _ | show ∃ x', _ < _ ∧ _)) | (show AW _ _ (.seq _ _) _ _ _; refine Ag ?_; intro Q1) | (show AW _ _ (.region _ _ false) _ _ _; refine Ad ?_; intro O1) | (show AW _ _ (.cond _ _ _) _ _ _; first | refine Aj Y ?_ | refine Ai Y ?_) | (show AW _ _ (.skip) _ _ _; refine Al ?_; first | show AW _ _ _ _ _ _ | show ∃ x', _ < _ ∧ _) | (show AW _ _ (.goto _) _ _ _; refine Bu ?_; try dsimp only [Aq, Aa, Ap, Ab]) | (show AW _ _ (.ret) _ _ _; refine Av ?_; try dsimp only [Aq, Aa, Ap, Ab])
    | (show DL _ _ _ _ _ _ _; refine dl_d Y Y (fun K kt kf => Au hG Y Y Y Y Y kt kf) (fun h => ?_) (fun h => ?_))
    | (show DL _ _ _ _ _ _ _; refine dl_s Y Y Y ?_) | (show DL _ _ _ _ _ _ _; refine B1 ?_; first | show AW _ _ _ _ _ _ | show ∃ x', _ < _ ∧ _) | (show AW _ _ (.region _ _ true) _ _ _; refine Bm mix (by kernel_rfl) ?_; intro O1) | fail)
      refine aw_label ?_
      show AW _ _ _ _ _ _
      refine aw_forget ?_ (key ⟨(b.getD 1 default).toNat, hu8, [], 2, i, h2, by omega, rfl, none, fun _ => rfl, by simp⟩)
      exact .cons rfl (.cons rfl (.consW rfl (.int rfl) (.consW rfl (.int rfl) (.nil _))))
end Go.Proofs.Ytemgmkoggnjgjaa
namespace Go.Proofs.Ytemgmkoggnjgjaa
open Go.Ts Go.Sets
set_option linter.unusedSimpArgs false
set_option linter.unusedVariables false
attribute [local irreducible] Go.Ts.AW Go.Ts.AOps Go.Ts.AL Go.Ts.AOp Go.Ts.ACalls Go.Ts.DL Go.Ts.DQ Go.Ts.EL
theorem takeEn (b : List UInt8) (m : Nat) (h : m ≤ 8) : takeE b (m : Int) = if b.length < m then (0, 3) else (beV (b.take m), 0) := by
  unfold takeE
  rw [if_neg (by omega)]
  by_cases h1 : b.length < m
  · rw [if_pos (by omega), if_pos h1]
  · rw [if_neg (by omega), if_neg h1, Int.toNat_natCast]
theorem o1_number {b : List UInt8} {n : Int} {m : Nat} {rest : List T} (hn : n = (m : Int)) (h8 : m ≤ 8) (hl : b.length ≤ 4294967296) :
    Mut Try.prog 56 [.int .i64 n] (sT b :: rest) (fun u cs' => if b.length < m then u = .tup [.int .u64 0, .int .i64 3] ∧ cs' = sT b :: rest else u = .tup [.int .u64 (beV (b.take m)), .int .i64 0] ∧ cs' = sT (b.drop m) :: rest) := by
  intro off i
  subst hn
  refine By (N := 30) (rs := [.tmp 4, .tmp 5]) hG Try.func56 rfl rfl rfl rfl rfl ?_
  have hT := takeEn b m h8
  by_cases h1 : b.length < m
  · rw [if_pos h1] at hT
    have hc := num_Take_is (Af b) hT
    simp only [if_pos h1]
    repeat' (first
    | ((show AL _ _ _ _ _ _ _ _; refine Ae Y ?_); (first
      | (show AOp _ _ ⟨_, .move _, _, _, _, _⟩ _ _ _; refine Am hG Y Y ?_)
      | (show AOp _ _ ⟨_, .assign _, _, _, _, _⟩ _ _ _; refine A9 hG Y Y ?_)
      | (show AOp _ _ ⟨_, .binOp _ _ _ _ _, _, _, _, _⟩ _ _ _; first | refine As hG Y Y Y Y Y (by omega) ?_ | refine Ar hG Y Y Y Y Y (by omega) ?_ | (refine Au hG Y Y Y Y Y (fun h => ?_) (fun h => ?_)))
      | (show AOp _ _ ⟨_, .load _ _, _, _, _, _⟩ _ _ _; first | refine Az 0 hG Y Y Y Y ?_ | refine Az 1 hG Y Y Y Y ?_)
      | (show AOp _ _ ⟨_, .slice _ _ _ _ _, _, _, _, _⟩ _ _ _; first | refine Bg hG Y Y Y Y Y Y Y (by omega) ?_ | refine Bn hG Y Y Y Y Y Y Y (by omega) ?_ | refine r_sl hG Y Y ?_)
      | (show AOp _ _ ⟨_, .store _ _ _, _, _, _, _⟩ _ _ _; first | refine Bb 0 hG Y Y Y Y Y Y Y ?_ | refine Bb 1 hG Y Y Y Y Y Y Y ?_)
      | (show AOp _ _ ⟨_, .call ⟨.value _, _, _⟩, _, _, _, _⟩ _ _ _; first | refine Bh Y Y Y Y Y (by apply hc <;> (first | assumption | omega | exact Ac _ _ | exact Af _ | exact Ah _ _ | exact Ax _ | rfl | (simp; omega))) ?_ | fail)
      | refine r_q hG Y Y Y ?_))
    | (show AL _ _ _ _ _ _ _ _; first | refine Bo Y Y Y ?_ | (refine Aw ?_; first | show AW _ _ _ _ _ _ | show ∃ x', _ < _ ∧ _)) | (show AW _ _ (.seq _ _) _ _ _; refine Ag ?_; intro Q1) | (show AW _ _ (.region _ _ false) _ _ _; refine Ad ?_; intro O1) | (show AW _ _ (.cond _ _ _) _ _ _; first | refine Aj Y ?_ | refine Ai Y ?_) | (show AW _ _ (.skip) _ _ _; refine Al ?_; first | show AW _ _ _ _ _ _ | show ∃ x', _ < _ ∧ _) | (show AW _ _ (.ret) _ _ _; refine Av ?_; try dsimp only [Aq, Aa, Ap, Ab]) | fail)
    exact ret_mut 0 (Ak rfl (Ak rfl Ba)) rfl (.refl _) rfl ⟨rfl, rfl⟩
  · rw [if_neg h1] at hT
    have hc := num_Take_is (Af b) hT
    simp only [if_neg h1]
    repeat' (first
    | ((show AL _ _ _ _ _ _ _ _; refine Ae Y ?_); (first
      | (show AOp _ _ ⟨_, .move _, _, _, _, _⟩ _ _ _; refine Am hG Y Y ?_)
      | (show AOp _ _ ⟨_, .assign _, _, _, _, _⟩ _ _ _; refine A9 hG Y Y ?_)
      | (show AOp _ _ ⟨_, .binOp _ _ _ _ _, _, _, _, _⟩ _ _ _; first | refine As hG Y Y Y Y Y (by omega) ?_ | refine Ar hG Y Y Y Y Y (by omega) ?_ | (refine Au hG Y Y Y Y Y (fun h => ?_) (fun h => ?_)))
      | (show AOp _ _ ⟨_, .load _ _, _, _, _, _⟩ _ _ _; first | refine Az 0 hG Y Y Y Y ?_ | refine Az 1 hG Y Y Y Y ?_)
      | (show AOp _ _ ⟨_, .slice _ _ _ _ _, _, _, _, _⟩ _ _ _; first | refine Bg hG Y Y Y Y Y Y Y (by omega) ?_ | refine Bn hG Y Y Y Y Y Y Y (by omega) ?_ | refine r_sl hG Y Y ?_)
      | (show AOp _ _ ⟨_, .store _ _ _, _, _, _, _⟩ _ _ _; first | refine Bb 0 hG Y Y Y Y Y Y Y ?_ | refine Bb 1 hG Y Y Y Y Y Y Y ?_)
      | (show AOp _ _ ⟨_, .call ⟨.value _, _, _⟩, _, _, _, _⟩ _ _ _; first | refine Bh Y Y Y Y Y (by apply hc <;> (first | assumption | omega | exact Ac _ _ | exact Af _ | exact Ah _ _ | exact Ax _ | rfl | (simp; omega))) ?_ | fail)
      | refine r_q hG Y Y Y ?_))
    | (show AL _ _ _ _ _ _ _ _; first | refine Bo Y Y Y ?_ | (refine Aw ?_; first | show AW _ _ _ _ _ _ | show ∃ x', _ < _ ∧ _)) | (show AW _ _ (.seq _ _) _ _ _; refine Ag ?_; intro Q1) | (show AW _ _ (.region _ _ false) _ _ _; refine Ad ?_; intro O1) | (show AW _ _ (.cond _ _ _) _ _ _; first | refine Aj Y ?_ | refine Ai Y ?_) | (show AW _ _ (.skip) _ _ _; refine Al ?_; first | show AW _ _ _ _ _ _ | show ∃ x', _ < _ ∧ _) | (show AW _ _ (.ret) _ _ _; refine Av ?_; try dsimp only [Aq, Aa, Ap, Ab]) | fail)
    exact ret_mut 0 (Ak rfl (Ak rfl Ba)) rfl (.refl _) rfl ⟨rfl, rfl⟩
structure HD where
  e : Int
  kind : Nat
  id : Nat
  df : UInt8
  ps : List PR
  rest : List UInt8
def HD.no (e : Int) : HD := ⟨e, 0, 0, 0, [], []⟩
def Bq (b : List UInt8) : HD :=
  if b.length < 1 then .no 3
  else if beV (b.take 1) ≠ 1 then .no 2
  else if (b.drop 1).length < 1 then .no 3
  else if beV ((b.drop 1).take 1) < 1 ∨ 4 < beV ((b.drop 1).take 1) then .no 2
  else if ((b.drop 1).drop 1).length < 8 then .no 3
  else if (Cb (((b.drop 1).drop 1).drop 8)).e ≠ 0 then .no (Cb (((b.drop 1).drop 1).drop 8)).e
  else ⟨0, beV ((b.drop 1).take 1), beV (((b.drop 1).drop 1).take 8), (Cb (((b.drop 1).drop 1).drop 8)).df, (Cb (((b.drop 1).drop 1).drop 8)).ps, (((b.drop 1).drop 1).drop 8).drop (Cb (((b.drop 1).drop 1).drop 8)).n⟩
def zeroCells : List T := [.int .u64 0, .int .i64 0, .int .u8 0, .nilsl, .nilsl, .nilsl, .nilsl, .int .i64 0, .int .i64 0, .int .i64 0, .nilsl, .nilsl, .nilsl]
theorem lcode_Take_is {x : T} {s : List UInt8} {r : TL} (hx : bytesT x = some s) (hl : s.length ≤ 4294967296) (h : Cb s = r) : Ts.Pure Try.prog 57 [x] (.tup [.agg [bT r.df, .sl 2 .no (r.ps.map pT)], .int .i64 r.n, .int .i64 r.e]) := by
  subst h; exact lcode_Take hx hl
theorem takeLab_small (s : List UInt8) : (Cb s).ps.length ≤ 16 ∧ (Cb s).n ≤ s.length := by
  by_cases h : (Cb s).e = 0
  · obtain ⟨h1, h2, _⟩ := takeLab_ok h; exact ⟨(mayLab_len h1).1, h2⟩
  · rw [takeLab_no h]; exact ⟨by simp, by simp⟩
theorem o1_head {b : List UInt8} (hl : b.length ≤ 4294967296) :
    Mut Try.prog 36 [] (sT b :: zeroCells) (fun u cs' => u = .int .i64 (Bq b).e ∧ ((Bq b).e = 0 →
      cs' = [sT (Bq b).rest, .int .u64 (Bq b).id, .int .i64 (Bq b).kind, bT (Bq b).df, .sl 2 .no ((Bq b).ps.map pT), .nilsl, .nilsl, .nilsl, .int .i64 0, .int .i64 0, .int .i64 0, .nilsl, .nilsl, .nilsl])) := by
  intro off i
  unfold zeroCells
  refine By (N := 73) (rs := [.tmp 2]) hG Try.func36 rfl rfl rfl rfl rfl ?_
  have n1 := o1_number (b := b) (n := 1) (m := 1) (rest := [.int .u64 0, .int .i64 0, .int .u8 0, .nilsl, .nilsl, .nilsl, .nilsl, .int .i64 0, .int .i64 0, .int .i64 0, .nilsl, .nilsl, .nilsl]) rfl (by omega) hl
  repeat' (first
    | ((show AL _ _ _ _ _ _ _ _; refine Ae Y ?_); (first
      | (show AOp _ _ ⟨_, .move _, _, _, _, _⟩ _ _ _; refine Am hG Y Y ?_)
      | (show AOp _ _ ⟨_, .assign _, _, _, _, _⟩ _ _ _; refine A9 hG Y Y ?_)
      | (show AOp _ _ ⟨_, .binOp _ _ _ _ _, _, _, _, _⟩ _ _ _; first | refine As hG Y Y Y Y Y (by omega) ?_ | refine Ar hG Y Y Y Y Y (by omega) ?_ | (refine Au hG Y Y Y Y Y (fun h => ?_) (fun h => ?_)))
      | (show AOp _ _ ⟨_, .load _ _, _, _, _, _⟩ _ _ _; first | refine Az 0 hG Y Y Y Y ?_ | refine Az 1 hG Y Y Y Y ?_)
      | (show AOp _ _ ⟨_, .convert _ _ _, _, _, _, _⟩ _ _ _; first | refine Bd hG Y Y Y Y Y (by omega) ?_ | refine Br hG Y Y Y Y Y ?_)
      | (show AOp _ _ ⟨_, .slice _ _ _ _ _, _, _, _, _⟩ _ _ _; first | refine Bg hG Y Y Y Y Y Y Y (by omega) ?_ | refine Bn hG Y Y Y Y Y Y Y (by omega) ?_ | refine r_sl hG Y Y ?_)
      | (show AOp _ _ ⟨_, .pick _ _ _, _, _, _, _⟩ _ _ _; refine Bz hG Y Y Y ?_)
      | (show AOp _ _ ⟨_, .store _ _ _, _, _, _, _⟩ _ _ _; first | refine Bb 0 hG Y Y Y Y Y Y Y ?_ | refine Bb 1 hG Y Y Y Y Y Y Y ?_)
      | refine r_q hG Y Y Y ?_))
    | (show AL _ _ _ _ _ _ _ _; first | refine Bo Y Y Y ?_ | (refine Aw ?_; first | show AW _ _ _ _ _ _ | show ∃ x', _ < _ ∧ _)) | (show AW _ _ (.seq _ _) _ _ _; refine Ag ?_; intro Q1) | (show AW _ _ (.region _ _ false) _ _ _; refine Ad ?_; intro O1) | (show AW _ _ (.cond _ _ _) _ _ _; first | refine Aj Y ?_ | refine Ai Y ?_) | (show AW _ _ (.skip) _ _ _; refine Al ?_; first | show AW _ _ _ _ _ _ | show ∃ x', _ < _ ∧ _) | (show AW _ _ (.ret) _ _ _; refine Av ?_; try dsimp only [Aq, Aa, Ap, Ab]) | fail)
  refine Ae rfl (r_mut rfl rfl rfl rfl rfl (.refl _) n1 (fun r cs' hr => ?_))
  by_cases h1 : b.length < 1
  · rw [if_pos h1] at hr
    obtain ⟨rfl, rfl⟩ := hr
    have hh : Bq b = .no 3 := by rw [Bq, if_pos h1]
    repeat' (first
    | ((show AL _ _ _ _ _ _ _ _; refine Ae Y ?_); (first
      | (show AOp _ _ ⟨_, .move _, _, _, _, _⟩ _ _ _; refine Am hG Y Y ?_)
      | (show AOp _ _ ⟨_, .assign _, _, _, _, _⟩ _ _ _; refine A9 hG Y Y ?_)
      | (show AOp _ _ ⟨_, .binOp _ _ _ _ _, _, _, _, _⟩ _ _ _; first | refine As hG Y Y Y Y Y (by omega) ?_ | refine Ar hG Y Y Y Y Y (by omega) ?_ | (refine Au hG Y Y Y Y Y (fun h => ?_) (fun h => ?_)))
      | (show AOp _ _ ⟨_, .load _ _, _, _, _, _⟩ _ _ _; first | refine Az 0 hG Y Y Y Y ?_ | refine Az 1 hG Y Y Y Y ?_)
      | (show AOp _ _ ⟨_, .convert _ _ _, _, _, _, _⟩ _ _ _; first | refine Bd hG Y Y Y Y Y (by omega) ?_ | refine Br hG Y Y Y Y Y ?_)
      | (show AOp _ _ ⟨_, .slice _ _ _ _ _, _, _, _, _⟩ _ _ _; first | refine Bg hG Y Y Y Y Y Y Y (by omega) ?_ | refine Bn hG Y Y Y Y Y Y Y (by omega) ?_ | refine r_sl hG Y Y ?_)
      | (show AOp _ _ ⟨_, .pick _ _ _, _, _, _, _⟩ _ _ _; refine Bz hG Y Y Y ?_)
      | (show AOp _ _ ⟨_, .store _ _ _, _, _, _, _⟩ _ _ _; first | refine Bb 0 hG Y Y Y Y Y Y Y ?_ | refine Bb 1 hG Y Y Y Y Y Y Y ?_)
      | refine r_q hG Y Y Y ?_))
    | (show AL _ _ _ _ _ _ _ _; first | refine Bo Y Y Y ?_ | (refine Aw ?_; first | show AW _ _ _ _ _ _ | show ∃ x', _ < _ ∧ _)) | (show AW _ _ (.seq _ _) _ _ _; refine Ag ?_; intro Q1) | (show AW _ _ (.region _ _ false) _ _ _; refine Ad ?_; intro O1) | (show AW _ _ (.cond _ _ _) _ _ _; first | refine Aj Y ?_ | refine Ai Y ?_) | (show AW _ _ (.skip) _ _ _; refine Al ?_; first | show AW _ _ _ _ _ _ | show ∃ x', _ < _ ∧ _) | (show AW _ _ (.ret) _ _ _; refine Av ?_; try dsimp only [Aq, Aa, Ap, Ab]) | fail)
    exact ret_mut 0 (Ak rfl Ba) rfl (.refl _) rfl ⟨by rw [hh]; rfl, fun h => by rw [hh] at h; exact absurd h (by decide)⟩
  rw [if_neg h1] at hr
  obtain ⟨rfl, rfl⟩ := hr
  have v1 := beV1 b (by omega)
  by_cases h2 : beV (b.take 1) ≠ 1
  · have hh : Bq b = .no 2 := by rw [Bq, if_neg h1, if_pos h2]
    repeat' (first
    | ((show AL _ _ _ _ _ _ _ _; refine Ae Y ?_); (first
      | (show AOp _ _ ⟨_, .move _, _, _, _, _⟩ _ _ _; refine Am hG Y Y ?_)
      | (show AOp _ _ ⟨_, .assign _, _, _, _, _⟩ _ _ _; refine A9 hG Y Y ?_)
      | (show AOp _ _ ⟨_, .binOp _ _ _ _ _, _, _, _, _⟩ _ _ _; first | refine As hG Y Y Y Y Y (by omega) ?_ | refine Ar hG Y Y Y Y Y (by omega) ?_ | (refine Au hG Y Y Y Y Y (fun h => ?_) (fun h => ?_)))
      | (show AOp _ _ ⟨_, .load _ _, _, _, _, _⟩ _ _ _; first | refine Az 0 hG Y Y Y Y ?_ | refine Az 1 hG Y Y Y Y ?_)
      | (show AOp _ _ ⟨_, .convert _ _ _, _, _, _, _⟩ _ _ _; first | refine Bd hG Y Y Y Y Y (by omega) ?_ | refine Br hG Y Y Y Y Y ?_)
      | (show AOp _ _ ⟨_, .slice _ _ _ _ _, _, _, _, _⟩ _ _ _; first | refine Bg hG Y Y Y Y Y Y Y (by omega) ?_ | refine Bn hG Y Y Y Y Y Y Y (by omega) ?_ | refine r_sl hG Y Y ?_)
      | (show AOp _ _ ⟨_, .pick _ _ _, _, _, _, _⟩ _ _ _; refine Bz hG Y Y Y ?_)
      | (show AOp _ _ ⟨_, .store _ _ _, _, _, _, _⟩ _ _ _; first | refine Bb 0 hG Y Y Y Y Y Y Y ?_ | refine Bb 1 hG Y Y Y Y Y Y Y ?_)
      | refine r_q hG Y Y Y ?_))
    | (show AL _ _ _ _ _ _ _ _; first | refine Bo Y Y Y ?_ | (refine Aw ?_; first | show AW _ _ _ _ _ _ | show ∃ x', _ < _ ∧ _)) | (show AW _ _ (.seq _ _) _ _ _; refine Ag ?_; intro Q1) | (show AW _ _ (.region _ _ false) _ _ _; refine Ad ?_; intro O1) | (show AW _ _ (.cond _ _ _) _ _ _; first | refine Aj Y ?_ | refine Ai Y ?_) | (show AW _ _ (.skip) _ _ _; refine Al ?_; first | show AW _ _ _ _ _ _ | show ∃ x', _ < _ ∧ _) | (show AW _ _ (.ret) _ _ _; refine Av ?_; try dsimp only [Aq, Aa, Ap, Ab]) | fail)
    exact ret_mut 0 (Ak rfl Ba) rfl (.refl _) rfl ⟨by rw [hh]; rfl, fun h => by rw [hh] at h; exact absurd h (by decide)⟩
  have n2 := o1_number (b := b.drop 1) (n := 1) (m := 1) (rest := [.int .u64 0, .int .i64 0, .int .u8 0, .nilsl, .nilsl, .nilsl, .nilsl, .int .i64 0, .int .i64 0, .int .i64 0, .nilsl, .nilsl, .nilsl]) rfl (by omega) (by rw [List.length_drop]; omega)
  repeat' (first
    | ((show AL _ _ _ _ _ _ _ _; refine Ae Y ?_); (first
      | (show AOp _ _ ⟨_, .move _, _, _, _, _⟩ _ _ _; refine Am hG Y Y ?_)
      | (show AOp _ _ ⟨_, .assign _, _, _, _, _⟩ _ _ _; refine A9 hG Y Y ?_)
      | (show AOp _ _ ⟨_, .binOp _ _ _ _ _, _, _, _, _⟩ _ _ _; first | refine As hG Y Y Y Y Y (by omega) ?_ | refine Ar hG Y Y Y Y Y (by omega) ?_ | (refine Au hG Y Y Y Y Y (fun h => ?_) (fun h => ?_)))
      | (show AOp _ _ ⟨_, .load _ _, _, _, _, _⟩ _ _ _; first | refine Az 0 hG Y Y Y Y ?_ | refine Az 1 hG Y Y Y Y ?_)
      | (show AOp _ _ ⟨_, .convert _ _ _, _, _, _, _⟩ _ _ _; first | refine Bd hG Y Y Y Y Y (by omega) ?_ | refine Br hG Y Y Y Y Y ?_)
      | (show AOp _ _ ⟨_, .slice _ _ _ _ _, _, _, _, _⟩ _ _ _; first | refine Bg hG Y Y Y Y Y Y Y (by omega) ?_ | refine Bn hG Y Y Y Y Y Y Y (by omega) ?_ | refine r_sl hG Y Y ?_)
      | (show AOp _ _ ⟨_, .pick _ _ _, _, _, _, _⟩ _ _ _; refine Bz hG Y Y Y ?_)
      | (show AOp _ _ ⟨_, .store _ _ _, _, _, _, _⟩ _ _ _; first | refine Bb 0 hG Y Y Y Y Y Y Y ?_ | refine Bb 1 hG Y Y Y Y Y Y Y ?_)
      | refine r_q hG Y Y Y ?_))
    | (show AL _ _ _ _ _ _ _ _; first | refine Bo Y Y Y ?_ | (refine Aw ?_; first | show AW _ _ _ _ _ _ | show ∃ x', _ < _ ∧ _)) | (show AW _ _ (.seq _ _) _ _ _; refine Ag ?_; intro Q1) | (show AW _ _ (.region _ _ false) _ _ _; refine Ad ?_; intro O1) | (show AW _ _ (.cond _ _ _) _ _ _; first | refine Aj Y ?_ | refine Ai Y ?_) | (show AW _ _ (.skip) _ _ _; refine Al ?_; first | show AW _ _ _ _ _ _ | show ∃ x', _ < _ ∧ _) | (show AW _ _ (.ret) _ _ _; refine Av ?_; try dsimp only [Aq, Aa, Ap, Ab]) | fail)
  refine Ae rfl (r_mut rfl rfl rfl rfl rfl (.refl _) n2 (fun r cs' hr => ?_))
  by_cases h3 : (b.drop 1).length < 1
  · rw [if_pos h3] at hr
    obtain ⟨rfl, rfl⟩ := hr
    have hh : Bq b = .no 3 := by rw [Bq, if_neg h1, if_neg h2, if_pos h3]
    repeat' (first
    | ((show AL _ _ _ _ _ _ _ _; refine Ae Y ?_); (first
      | (show AOp _ _ ⟨_, .move _, _, _, _, _⟩ _ _ _; refine Am hG Y Y ?_)
      | (show AOp _ _ ⟨_, .assign _, _, _, _, _⟩ _ _ _; refine A9 hG Y Y ?_)
      | (show AOp _ _ ⟨_, .binOp _ _ _ _ _, _, _, _, _⟩ _ _ _; first | refine As hG Y Y Y Y Y (by omega) ?_ | refine Ar hG Y Y Y Y Y (by omega) ?_ | (refine Au hG Y Y Y Y Y (fun h => ?_) (fun h => ?_)))
      | (show AOp _ _ ⟨_, .load _ _, _, _, _, _⟩ _ _ _; first | refine Az 0 hG Y Y Y Y ?_ | refine Az 1 hG Y Y Y Y ?_)
      | (show AOp _ _ ⟨_, .convert _ _ _, _, _, _, _⟩ _ _ _; first | refine Bd hG Y Y Y Y Y (by omega) ?_ | refine Br hG Y Y Y Y Y ?_)
      | (show AOp _ _ ⟨_, .slice _ _ _ _ _, _, _, _, _⟩ _ _ _; first | refine Bg hG Y Y Y Y Y Y Y (by omega) ?_ | refine Bn hG Y Y Y Y Y Y Y (by omega) ?_ | refine r_sl hG Y Y ?_)
      | (show AOp _ _ ⟨_, .pick _ _ _, _, _, _, _⟩ _ _ _; refine Bz hG Y Y Y ?_)
      | (show AOp _ _ ⟨_, .store _ _ _, _, _, _, _⟩ _ _ _; first | refine Bb 0 hG Y Y Y Y Y Y Y ?_ | refine Bb 1 hG Y Y Y Y Y Y Y ?_)
      | refine r_q hG Y Y Y ?_))
    | (show AL _ _ _ _ _ _ _ _; first | refine Bo Y Y Y ?_ | (refine Aw ?_; first | show AW _ _ _ _ _ _ | show ∃ x', _ < _ ∧ _)) | (show AW _ _ (.seq _ _) _ _ _; refine Ag ?_; intro Q1) | (show AW _ _ (.region _ _ false) _ _ _; refine Ad ?_; intro O1) | (show AW _ _ (.cond _ _ _) _ _ _; first | refine Aj Y ?_ | refine Ai Y ?_) | (show AW _ _ (.skip) _ _ _; refine Al ?_; first | show AW _ _ _ _ _ _ | show ∃ x', _ < _ ∧ _) | (show AW _ _ (.ret) _ _ _; refine Av ?_; try dsimp only [Aq, Aa, Ap, Ab]) | fail)
    exact ret_mut 0 (Ak rfl Ba) rfl (.refl _) rfl ⟨by rw [hh]; rfl, fun h => by rw [hh] at h; exact absurd h (by decide)⟩
  rw [if_neg h3] at hr
  obtain ⟨rfl, rfl⟩ := hr
  have v2 := beV1 (b.drop 1) (by omega)
  by_cases h4 : beV ((b.drop 1).take 1) < 1 ∨ 4 < beV ((b.drop 1).take 1)
  · have hh : Bq b = .no 2 := by rw [Bq, if_neg h1, if_neg h2, if_neg h3, if_pos h4]
    repeat' (first
    | ((show AL _ _ _ _ _ _ _ _; refine Ae Y ?_); (first
      | (show AOp _ _ ⟨_, .move _, _, _, _, _⟩ _ _ _; refine Am hG Y Y ?_)
      | (show AOp _ _ ⟨_, .assign _, _, _, _, _⟩ _ _ _; refine A9 hG Y Y ?_)
      | (show AOp _ _ ⟨_, .binOp _ _ _ _ _, _, _, _, _⟩ _ _ _; first | refine As hG Y Y Y Y Y (by omega) ?_ | refine Ar hG Y Y Y Y Y (by omega) ?_ | (refine Au hG Y Y Y Y Y (fun h => ?_) (fun h => ?_)))
      | (show AOp _ _ ⟨_, .load _ _, _, _, _, _⟩ _ _ _; first | refine Az 0 hG Y Y Y Y ?_ | refine Az 1 hG Y Y Y Y ?_)
      | (show AOp _ _ ⟨_, .convert _ _ _, _, _, _, _⟩ _ _ _; first | refine Bd hG Y Y Y Y Y (by omega) ?_ | refine Br hG Y Y Y Y Y ?_)
      | (show AOp _ _ ⟨_, .slice _ _ _ _ _, _, _, _, _⟩ _ _ _; first | refine Bg hG Y Y Y Y Y Y Y (by omega) ?_ | refine Bn hG Y Y Y Y Y Y Y (by omega) ?_ | refine r_sl hG Y Y ?_)
      | (show AOp _ _ ⟨_, .pick _ _ _, _, _, _, _⟩ _ _ _; refine Bz hG Y Y Y ?_)
      | (show AOp _ _ ⟨_, .store _ _ _, _, _, _, _⟩ _ _ _; first | refine Bb 0 hG Y Y Y Y Y Y Y ?_ | refine Bb 1 hG Y Y Y Y Y Y Y ?_)
      | refine r_q hG Y Y Y ?_))
    | (show AL _ _ _ _ _ _ _ _; first | refine Bo Y Y Y ?_ | (refine Aw ?_; first | show AW _ _ _ _ _ _ | show ∃ x', _ < _ ∧ _)) | (show AW _ _ (.seq _ _) _ _ _; refine Ag ?_; intro Q1) | (show AW _ _ (.region _ _ false) _ _ _; refine Ad ?_; intro O1) | (show AW _ _ (.cond _ _ _) _ _ _; first | refine Aj Y ?_ | refine Ai Y ?_) | (show AW _ _ (.skip) _ _ _; refine Al ?_; first | show AW _ _ _ _ _ _ | show ∃ x', _ < _ ∧ _) | (show AW _ _ (.ret) _ _ _; refine Av ?_; try dsimp only [Aq, Aa, Ap, Ab]) | fail)
    all_goals exact ret_mut 0 (Ak rfl Ba) rfl (.refl _) rfl ⟨by rw [hh]; rfl, fun h => by rw [hh] at h; exact absurd h (by decide)⟩
  have n3 := o1_number (b := (b.drop 1).drop 1) (n := 8) (m := 8) (rest := [.int .u64 0, .int .i64 (beV ((b.drop 1).take 1)), .int .u8 0, .nilsl, .nilsl, .nilsl, .nilsl, .int .i64 0, .int .i64 0, .int .i64 0, .nilsl, .nilsl, .nilsl]) rfl (by omega) (by rw [List.length_drop, List.length_drop]; omega)
  repeat' (first
    | ((show AL _ _ _ _ _ _ _ _; refine Ae Y ?_); (first
      | (show AOp _ _ ⟨_, .move _, _, _, _, _⟩ _ _ _; refine Am hG Y Y ?_)
      | (show AOp _ _ ⟨_, .assign _, _, _, _, _⟩ _ _ _; refine A9 hG Y Y ?_)
      | (show AOp _ _ ⟨_, .binOp _ _ _ _ _, _, _, _, _⟩ _ _ _; first | refine As hG Y Y Y Y Y (by omega) ?_ | refine Ar hG Y Y Y Y Y (by omega) ?_ | (refine Au hG Y Y Y Y Y (fun h => ?_) (fun h => ?_)))
      | (show AOp _ _ ⟨_, .load _ _, _, _, _, _⟩ _ _ _; first | refine Az 0 hG Y Y Y Y ?_ | refine Az 1 hG Y Y Y Y ?_)
      | (show AOp _ _ ⟨_, .convert _ _ _, _, _, _, _⟩ _ _ _; first | refine Bd hG Y Y Y Y Y (by omega) ?_ | refine Br hG Y Y Y Y Y ?_)
      | (show AOp _ _ ⟨_, .slice _ _ _ _ _, _, _, _, _⟩ _ _ _; first | refine Bg hG Y Y Y Y Y Y Y (by omega) ?_ | refine Bn hG Y Y Y Y Y Y Y (by omega) ?_ | refine r_sl hG Y Y ?_)
      | (show AOp _ _ ⟨_, .pick _ _ _, _, _, _, _⟩ _ _ _; refine Bz hG Y Y Y ?_)
      | (show AOp _ _ ⟨_, .store _ _ _, _, _, _, _⟩ _ _ _; first | refine Bb 0 hG Y Y Y Y Y Y Y ?_ | refine Bb 1 hG Y Y Y Y Y Y Y ?_)
      | refine r_q hG Y Y Y ?_))
    | (show AL _ _ _ _ _ _ _ _; first | refine Bo Y Y Y ?_ | (refine Aw ?_; first | show AW _ _ _ _ _ _ | show ∃ x', _ < _ ∧ _)) | (show AW _ _ (.seq _ _) _ _ _; refine Ag ?_; intro Q1) | (show AW _ _ (.region _ _ false) _ _ _; refine Ad ?_; intro O1) | (show AW _ _ (.cond _ _ _) _ _ _; first | refine Aj Y ?_ | refine Ai Y ?_) | (show AW _ _ (.skip) _ _ _; refine Al ?_; first | show AW _ _ _ _ _ _ | show ∃ x', _ < _ ∧ _) | (show AW _ _ (.ret) _ _ _; refine Av ?_; try dsimp only [Aq, Aa, Ap, Ab]) | fail)
  refine Ae rfl (r_mut rfl rfl rfl rfl rfl (.refl _) n3 (fun r cs' hr => ?_))
  by_cases h5 : ((b.drop 1).drop 1).length < 8
  · rw [if_pos h5] at hr
    obtain ⟨rfl, rfl⟩ := hr
    have hh : Bq b = .no 3 := by rw [Bq, if_neg h1, if_neg h2, if_neg h3, if_neg h4, if_pos h5]
    repeat' (first
    | ((show AL _ _ _ _ _ _ _ _; refine Ae Y ?_); (first
      | (show AOp _ _ ⟨_, .move _, _, _, _, _⟩ _ _ _; refine Am hG Y Y ?_)
      | (show AOp _ _ ⟨_, .assign _, _, _, _, _⟩ _ _ _; refine A9 hG Y Y ?_)
      | (show AOp _ _ ⟨_, .binOp _ _ _ _ _, _, _, _, _⟩ _ _ _; first | refine As hG Y Y Y Y Y (by omega) ?_ | refine Ar hG Y Y Y Y Y (by omega) ?_ | (refine Au hG Y Y Y Y Y (fun h => ?_) (fun h => ?_)))
      | (show AOp _ _ ⟨_, .load _ _, _, _, _, _⟩ _ _ _; first | refine Az 0 hG Y Y Y Y ?_ | refine Az 1 hG Y Y Y Y ?_)
      | (show AOp _ _ ⟨_, .convert _ _ _, _, _, _, _⟩ _ _ _; first | refine Bd hG Y Y Y Y Y (by omega) ?_ | refine Br hG Y Y Y Y Y ?_)
      | (show AOp _ _ ⟨_, .slice _ _ _ _ _, _, _, _, _⟩ _ _ _; first | refine Bg hG Y Y Y Y Y Y Y (by omega) ?_ | refine Bn hG Y Y Y Y Y Y Y (by omega) ?_ | refine r_sl hG Y Y ?_)
      | (show AOp _ _ ⟨_, .pick _ _ _, _, _, _, _⟩ _ _ _; refine Bz hG Y Y Y ?_)
      | (show AOp _ _ ⟨_, .store _ _ _, _, _, _, _⟩ _ _ _; first | refine Bb 0 hG Y Y Y Y Y Y Y ?_ | refine Bb 1 hG Y Y Y Y Y Y Y ?_)
      | refine r_q hG Y Y Y ?_))
    | (show AL _ _ _ _ _ _ _ _; first | refine Bo Y Y Y ?_ | (refine Aw ?_; first | show AW _ _ _ _ _ _ | show ∃ x', _ < _ ∧ _)) | (show AW _ _ (.seq _ _) _ _ _; refine Ag ?_; intro Q1) | (show AW _ _ (.region _ _ false) _ _ _; refine Ad ?_; intro O1) | (show AW _ _ (.cond _ _ _) _ _ _; first | refine Aj Y ?_ | refine Ai Y ?_) | (show AW _ _ (.skip) _ _ _; refine Al ?_; first | show AW _ _ _ _ _ _ | show ∃ x', _ < _ ∧ _) | (show AW _ _ (.ret) _ _ _; refine Av ?_; try dsimp only [Aq, Aa, Ap, Ab]) | fail)
    exact ret_mut 0 (Ak rfl Ba) rfl (.refl _) rfl ⟨by rw [hh]; rfl, fun h => by rw [hh] at h; exact absurd h (by decide)⟩
  rw [if_neg h5] at hr
  obtain ⟨rfl, rfl⟩ := hr
  have hl3 : (((b.drop 1).drop 1).drop 8).length ≤ b.length := by rw [List.length_drop, List.length_drop, List.length_drop]; omega
  have hS := lcode_Take_is (x := .sl 1 .no ((((b.drop 1).drop 1).drop 8).map bT)) (Ac _ _) (by omega) rfl
  have hsm := takeLab_small (((b.drop 1).drop 1).drop 8)
  have hr1 : Bq b = if (Cb (((b.drop 1).drop 1).drop 8)).e ≠ 0 then .no (Cb (((b.drop 1).drop 1).drop 8)).e else ⟨0, beV ((b.drop 1).take 1), beV (((b.drop 1).drop 1).take 8), (Cb (((b.drop 1).drop 1).drop 8)).df, (Cb (((b.drop 1).drop 1).drop 8)).ps, (((b.drop 1).drop 1).drop 8).drop (Cb (((b.drop 1).drop 1).drop 8)).n⟩ := by
    rw [Bq, if_neg h1, if_neg h2, if_neg h3, if_neg h4, if_neg h5]
  generalize Cb (((b.drop 1).drop 1).drop 8) = r at *
  obtain ⟨ra, rb, rn, re⟩ := r
  dsimp only at *
  by_cases h6 : re ≠ 0
  · have hh : Bq b = .no re := by rw [hr1, if_pos h6]
    repeat' (first
    | ((show AL _ _ _ _ _ _ _ _; refine Ae Y ?_); (first
      | (show AOp _ _ ⟨_, .move _, _, _, _, _⟩ _ _ _; refine Am hG Y Y ?_)
      | (show AOp _ _ ⟨_, .assign _, _, _, _, _⟩ _ _ _; refine A9 hG Y Y ?_)
      | (show AOp _ _ ⟨_, .binOp _ _ _ _ _, _, _, _, _⟩ _ _ _; first | refine As hG Y Y Y Y Y (by omega) ?_ | refine Ar hG Y Y Y Y Y (by omega) ?_ | (refine Au hG Y Y Y Y Y (fun h => ?_) (fun h => ?_)))
      | (show AOp _ _ ⟨_, .load _ _, _, _, _, _⟩ _ _ _; first | refine Az 0 hG Y Y Y Y ?_ | refine Az 1 hG Y Y Y Y ?_)
      | (show AOp _ _ ⟨_, .convert _ _ _, _, _, _, _⟩ _ _ _; first | refine Bd hG Y Y Y Y Y (by omega) ?_ | refine Br hG Y Y Y Y Y ?_)
      | (show AOp _ _ ⟨_, .slice _ _ _ _ _, _, _, _, _⟩ _ _ _; first | refine Bg hG Y Y Y Y Y Y Y (by omega) ?_ | refine Bn hG Y Y Y Y Y Y Y (by omega) ?_ | refine r_sl hG Y Y ?_)
      | (show AOp _ _ ⟨_, .pick _ _ _, _, _, _, _⟩ _ _ _; refine Bz hG Y Y Y ?_)
      | (show AOp _ _ ⟨_, .store _ _ _, _, _, _, _⟩ _ _ _; first | refine Bb 0 hG Y Y Y Y Y Y Y ?_ | refine Bb 1 hG Y Y Y Y Y Y Y ?_)
      | (show AOp _ _ ⟨_, .call ⟨.value _, _, _⟩, _, _, _, _⟩ _ _ _; first | refine Bh Y Y Y Y Y (by apply hS <;> (first | assumption | omega | exact Ac _ _ | exact Af _ | exact Ah _ _ | exact Ax _ | rfl | (simp; omega))) ?_ | fail)
      | refine r_q hG Y Y Y ?_))
    | (show AL _ _ _ _ _ _ _ _; first | refine Bo Y Y Y ?_ | (refine Aw ?_; first | show AW _ _ _ _ _ _ | show ∃ x', _ < _ ∧ _)) | (show AW _ _ (.seq _ _) _ _ _; refine Ag ?_; intro Q1) | (show AW _ _ (.region _ _ false) _ _ _; refine Ad ?_; intro O1) | (show AW _ _ (.cond _ _ _) _ _ _; first | refine Aj Y ?_ | refine Ai Y ?_) | (show AW _ _ (.skip) _ _ _; refine Al ?_; first | show AW _ _ _ _ _ _ | show ∃ x', _ < _ ∧ _) | (show AW _ _ (.ret) _ _ _; refine Av ?_; try dsimp only [Aq, Aa, Ap, Ab]) | fail)
    exact ret_mut 0 (Ak rfl Ba) rfl (.refl _) rfl ⟨by rw [hh]; rfl, fun h => by rw [hh] at h; exact absurd h h6⟩
  · obtain rfl : re = 0 := by omega
    have hh := hr1.trans (if_neg h6)
    repeat' (first
    | ((show AL _ _ _ _ _ _ _ _; refine Ae Y ?_); (first
      | (show AOp _ _ ⟨_, .move _, _, _, _, _⟩ _ _ _; refine Am hG Y Y ?_)
      | (show AOp _ _ ⟨_, .assign _, _, _, _, _⟩ _ _ _; refine A9 hG Y Y ?_)
      | (show AOp _ _ ⟨_, .binOp _ _ _ _ _, _, _, _, _⟩ _ _ _; first | refine As hG Y Y Y Y Y (by omega) ?_ | refine Ar hG Y Y Y Y Y (by omega) ?_ | (refine Au hG Y Y Y Y Y (fun h => ?_) (fun h => ?_)))
      | (show AOp _ _ ⟨_, .load _ _, _, _, _, _⟩ _ _ _; first | refine Az 0 hG Y Y Y Y ?_ | refine Az 1 hG Y Y Y Y ?_)
      | (show AOp _ _ ⟨_, .convert _ _ _, _, _, _, _⟩ _ _ _; first | refine Bd hG Y Y Y Y Y (by omega) ?_ | refine Br hG Y Y Y Y Y ?_)
      | (show AOp _ _ ⟨_, .slice _ _ _ _ _, _, _, _, _⟩ _ _ _; first | refine Bg hG Y Y Y Y Y Y Y (by omega) ?_ | refine Bn hG Y Y Y Y Y Y Y (by omega) ?_ | refine r_sl hG Y Y ?_)
      | (show AOp _ _ ⟨_, .pick _ _ _, _, _, _, _⟩ _ _ _; refine Bz hG Y Y Y ?_)
      | (show AOp _ _ ⟨_, .store _ _ _, _, _, _, _⟩ _ _ _; first | refine Bb 0 hG Y Y Y Y Y Y Y ?_ | refine Bb 1 hG Y Y Y Y Y Y Y ?_)
      | (show AOp _ _ ⟨_, .call ⟨.value _, _, _⟩, _, _, _, _⟩ _ _ _; first | refine Bh Y Y Y Y Y (by apply hS <;> (first | assumption | omega | exact Ac _ _ | exact Af _ | exact Ah _ _ | exact Ax _ | rfl | (simp; omega))) ?_ | fail)
      | refine r_q hG Y Y Y ?_))
    | (show AL _ _ _ _ _ _ _ _; first | refine Bo Y Y Y ?_ | (refine Aw ?_; first | show AW _ _ _ _ _ _ | show ∃ x', _ < _ ∧ _)) | (show AW _ _ (.seq _ _) _ _ _; refine Ag ?_; intro Q1) | (show AW _ _ (.region _ _ false) _ _ _; refine Ad ?_; intro O1) | (show AW _ _ (.cond _ _ _) _ _ _; first | refine Aj Y ?_ | refine Ai Y ?_) | (show AW _ _ (.skip) _ _ _; refine Al ?_; first | show AW _ _ _ _ _ _ | show ∃ x', _ < _ ∧ _) | (show AW _ _ (.ret) _ _ _; refine Av ?_; try dsimp only [Aq, Aa, Ap, Ab]) | fail)
    exact ret_mut 0 (Ak rfl Ba) rfl (.refl _) rfl ⟨by rw [hh]; rfl, fun _ => by rw [hh]; rfl⟩
end Go.Proofs.Ytemgmkoggnjgjaa
namespace Go.Proofs.Ytemgmkoggnjgjaa
open Go.Ts Go.Sets
set_option linter.unusedSimpArgs false
set_option linter.unusedVariables false
attribute [local irreducible] Go.Ts.AW Go.Ts.AOps Go.Ts.AL Go.Ts.AOp Go.Ts.ACalls Go.Ts.DL Go.Ts.DQ Go.Ts.EL
structure TT where
  e : Int
  q : Nat
  u : Nat
  x : Nat
  d : List UInt8
  c : List UInt16
  r : List (List UInt8)
  rest : List UInt8
def TT.no (e : Int) : TT := ⟨e, 0, 0, 0, [], [], [], []⟩
def boxF (b : List UInt8) : TT :=
  if b.length < 2 then .no 3 else if (b.drop 2).length < 2 then .no 3 else if ((b.drop 2).drop 2).length < 2 then .no 3
  else ⟨0, beV (b.take 2), beV ((b.drop 2).take 2), beV (((b.drop 2).drop 2).take 2), [], [], [], ((b.drop 2).drop 2).drop 2⟩
def tailF (k : Nat) (b : List UInt8) : TT :=
  if k = 1 then boxF b
  else if k = 2 then (if (takeBE b).2.2 = 0 then ⟨0, 0, 0, 0, (takeBE b).1, [], [], b.drop (takeBE b).2.1⟩ else .no (takeBE b).2.2)
  else if k = 3 then (if (takeC b).2.2 = 0 then ⟨0, 0, 0, 0, [], (takeC b).1, [], b.drop (takeC b).2.1⟩ else .no (takeC b).2.2)
  else (if (takeR b).2.2 = 0 then ⟨0, 0, 0, 0, [], [], (takeR b).1, b.drop (takeR b).2.1⟩ else .no (takeR b).2.2)
structure BxX (b : List UInt8) where
  j : Nat
  hj : j ≤ 3
  h1 : 1 ≤ j → ¬ b.length < 2
  h2 : 2 ≤ j → ¬ (b.drop 2).length < 2
  h3 : 3 ≤ j → ¬ ((b.drop 2).drop 2).length < 2
set_option maxHeartbeats 1000000 in
theorem o1_box {b : List UInt8} {A0 A1 A2 A3 A4 A5 A6 : T} (hl : b.length ≤ 4294967296) :
    Mut Try.prog 58 [] [sT b, A0, A1, A2, A3, A4, A5, A6, .int .i64 0, .int .i64 0, .int .i64 0, .nilsl, .nilsl, .nilsl] (fun u cs' => u = .int .i64 (boxF b).e ∧ ((boxF b).e = 0 →
      cs' = [sT (boxF b).rest, A0, A1, A2, A3, A4, A5, A6, .int .i64 (boxF b).q, .int .i64 (boxF b).u, .int .i64 (boxF b).x, .nilsl, .nilsl, .nilsl])) := by
  intro off i
  refine By (N := 38) (rs := [.tmp 2]) hG Try.func58 rfl rfl rfl rfl rfl ?_
  repeat' (first
    | ((first | (show AL _ _ _ _ _ _ _ _; refine Ae Y ?_) | (show DL _ _ _ _ _ _ _; refine' Bp Y Y (fun K kk => ?_) ?_; try (show Go.Ts.T; rotate_left))); (first
      | (show AOp _ _ ⟨_, .move _, _, _, _, _⟩ _ _ _; refine Am hG Y Y ?_)
      | (show AOp _ _ ⟨_, .assign _, _, _, _, _⟩ _ _ _; refine A9 hG Y Y ?_)
      | (show AOp _ _ ⟨_, .call ⟨.builtin .len, _, _⟩, _, _, _, _⟩ _ _ _; first | refine A7 hG Y Y Y Y ?_ | refine Be hG Y Y Y Y Y ?_)
      | (show AOp _ _ ⟨_, .binOp _ _ _ _ _, _, _, _, _⟩ _ _ _; first | refine As hG Y Y Y Y Y (by omega) ?_ | refine Ar hG Y Y Y Y Y (by omega) ?_ | ((fail_if_success have := kk); refine Au hG Y Y Y Y Y (fun h => ?_) (fun h => ?_)))
      | (show AOp _ _ ⟨_, .load _ _, _, _, _, _⟩ _ _ _; first | refine Bj hG Y Y Y ?_ | refine Az 0 hG Y Y Y Y ?_ | refine Az 1 hG Y Y Y Y ?_)
      | (show AOp _ _ ⟨_, .indexAddr _ _ _, _, _, _, _⟩ _ _ _; first | refine Ca hG Y Y Y Y Y Y Y ?_ | refine Bi hG Y Y Y Y Y Y Y (by omega) ?_ | refine Bk hG Y Y Y Y Y Y Y (by omega) ?_ | refine Bs hG Y Y ?_)
      | (show AOp _ _ ⟨_, .convert _ _ _, _, _, _, _⟩ _ _ _; first | refine Bd hG Y Y Y Y Y (by omega) ?_ | refine Br hG Y Y Y Y Y ?_)
      | (show AOp _ _ ⟨_, .slice _ _ _ _ _, _, _, _, _⟩ _ _ _; first | refine Bg hG Y Y Y Y Y Y Y (by omega) ?_ | refine Bn hG Y Y Y Y Y Y Y (by omega) ?_ | refine r_sl hG Y Y ?_)
      | (show AOp _ _ ⟨_, .buildSlice _ _ _, _, _, _, _⟩ _ _ _; first | refine r_mk (sz := 1) hG Y Y Y Y Y Y Y ?_)
      | (show AOp _ _ ⟨_, .store _ _ _, _, _, _, _⟩ _ _ _; first | refine Bb 0 hG Y Y Y Y Y Y Y ?_ | refine Bb 1 hG Y Y Y Y Y Y Y ?_)
      | refine r_q hG Y Y Y ?_); try exact kk)
    | (show AL _ _ _ _ _ _ _ _; first | refine Bo Y Y Y ?_ | (refine Aw ?_; first | show AW _ _ _ _ _ _ | show ∃ x', _ < _ ∧ _)) | (show AW _ _ (.seq _ _) _ _ _; refine Ag ?_; intro Q1) | (show AW _ _ (.region _ _ false) _ _ _; refine Ad ?_; intro O1) | (show AW _ _ (.cond _ _ _) _ _ _; first | refine Aj Y ?_ | refine Ai Y ?_) | (show AW _ _ (.skip) _ _ _; refine Al ?_; first | show AW _ _ _ _ _ _ | show ∃ x', _ < _ ∧ _) | (show AW _ _ (.goto _) _ _ _; refine Bu ?_; try dsimp only [Aq, Aa, Ap, Ab]) | (show AW _ _ (.ret) _ _ _; refine Av ?_; try dsimp only [Aq, Aa, Ap, Ab])
    | (show DL _ _ _ _ _ _ _; refine dl_d Y Y (fun K kt kf => Au hG Y Y Y Y Y kt kf) (fun h => ?_) (fun h => ?_))
    | (show DL _ _ _ _ _ _ _; refine dl_s Y Y Y ?_) | (show DL _ _ _ _ _ _ _; refine B1 ?_; first | show AW _ _ _ _ _ _ | show ∃ x', _ < _ ∧ _) | (show AW _ _ (.region _ _ true) _ _ _; refine Bm mix (by kernel_rfl) ?_; intro O1) | fail)
  refine aw_scope' 0 rfl (X := BxX b)
    (fun x => [(0, .ptr i 0), (3, match x.j with
      | 0 => .sl 1 .no [.ptr i 8, .ptr i 9, .ptr i 10]
      | 1 => .sl 1 .no [.ptr i 9, .ptr i 10]
      | 2 => .sl 1 .no [.ptr i 10]
      | _ => .sl 1 .no [])])
    (fun x => ⟨[(i, .cells (match x.j with
      | 0 => [sT b, A0, A1, A2, A3, A4, A5, A6, .int .i64 0, .int .i64 0, .int .i64 0, .nilsl, .nilsl, .nilsl]
      | 1 => [sT (b.drop 2), A0, A1, A2, A3, A4, A5, A6, .int .i64 (beV (b.take 2)), .int .i64 0, .int .i64 0, .nilsl, .nilsl, .nilsl]
      | 2 => [sT ((b.drop 2).drop 2), A0, A1, A2, A3, A4, A5, A6, .int .i64 (beV (b.take 2)), .int .i64 (beV ((b.drop 2).take 2)), .int .i64 0, .nilsl, .nilsl, .nilsl]
      | _ => [sT (((b.drop 2).drop 2).drop 2), A0, A1, A2, A3, A4, A5, A6, .int .i64 (beV (b.take 2)), .int .i64 (beV ((b.drop 2).take 2)), .int .i64 (beV (((b.drop 2).drop 2).take 2)), .nilsl, .nilsl, .nilsl]))], [], off, none⟩) (fun x => 3 - x.j) ?_ ?_
  · rintro ⟨j, hj, g1, g2, g3⟩
    have l3 : ([.ptr i 8, .ptr i 9, .ptr i 10] : List T).length = 3 := rfl
    have l2 : ([.ptr i 9, .ptr i 10] : List T).length = 2 := rfl
    have l1 : ([.ptr i 10] : List T).length = 1 := rfl
    have l0 : ([] : List T).length = 0 := rfl
    rcases (by omega : j = 0 ∨ j = 1 ∨ j = 2 ∨ j = 3) with rfl | rfl | rfl | rfl
    · dsimp only
      clear g1 g2 g3
      have n1 := o1_number (b := b) (n := 2) (m := 2) (rest := [A0, A1, A2, A3, A4, A5, A6, .int .i64 0, .int .i64 0, .int .i64 0, .nilsl, .nilsl, .nilsl]) rfl (by omega) hl
      repeat' (first
    | ((first | (show AL _ _ _ _ _ _ _ _; refine Ae Y ?_) | (show DL _ _ _ _ _ _ _; refine' Bp Y Y (fun K kk => ?_) ?_; try (show Go.Ts.T; rotate_left))); (first
      | (show AOp _ _ ⟨_, .move _, _, _, _, _⟩ _ _ _; refine Am hG Y Y ?_)
      | (show AOp _ _ ⟨_, .assign _, _, _, _, _⟩ _ _ _; refine A9 hG Y Y ?_)
      | (show AOp _ _ ⟨_, .call ⟨.builtin .len, _, _⟩, _, _, _, _⟩ _ _ _; first | refine A7 hG Y Y Y Y ?_ | refine Be hG Y Y Y Y Y ?_)
      | (show AOp _ _ ⟨_, .binOp _ _ _ _ _, _, _, _, _⟩ _ _ _; first | refine As hG Y Y Y Y Y (by omega) ?_ | refine Ar hG Y Y Y Y Y (by omega) ?_ | ((fail_if_success have := kk); refine Au hG Y Y Y Y Y (fun h => ?_) (fun h => ?_)))
      | (show AOp _ _ ⟨_, .load _ _, _, _, _, _⟩ _ _ _; first | refine Bj hG Y Y Y ?_ | refine Az 0 hG Y Y Y Y ?_ | refine Az 1 hG Y Y Y Y ?_)
      | (show AOp _ _ ⟨_, .indexAddr _ _ _, _, _, _, _⟩ _ _ _; first | refine Ca hG Y Y Y Y Y Y Y ?_ | refine Bi hG Y Y Y Y Y Y Y (by omega) ?_ | refine Bk hG Y Y Y Y Y Y Y (by omega) ?_ | refine Bs hG Y Y ?_)
      | (show AOp _ _ ⟨_, .convert _ _ _, _, _, _, _⟩ _ _ _; first | refine Bd hG Y Y Y Y Y (by omega) ?_ | refine Br hG Y Y Y Y Y ?_)
      | (show AOp _ _ ⟨_, .slice _ _ _ _ _, _, _, _, _⟩ _ _ _; first | refine Bg hG Y Y Y Y Y Y Y (by omega) ?_ | refine Bn hG Y Y Y Y Y Y Y (by omega) ?_ | refine r_sl hG Y Y ?_)
      | (show AOp _ _ ⟨_, .buildSlice _ _ _, _, _, _, _⟩ _ _ _; first | refine r_mk (sz := 1) hG Y Y Y Y Y Y Y ?_)
      | (show AOp _ _ ⟨_, .store _ _ _, _, _, _, _⟩ _ _ _; first | refine Bb 0 hG Y Y Y Y Y Y Y ?_ | refine Bb 1 hG Y Y Y Y Y Y Y ?_)
      | refine r_q hG Y Y Y ?_); try exact kk)
    | (show AL _ _ _ _ _ _ _ _; first | refine Bo Y Y Y ?_ | (refine Aw ?_; first | show AW _ _ _ _ _ _ | show ∃ x', _ < _ ∧ _)) | (show AW _ _ (.seq _ _) _ _ _; refine Ag ?_; intro Q1) | (show AW _ _ (.region _ _ false) _ _ _; refine Ad ?_; intro O1) | (show AW _ _ (.cond _ _ _) _ _ _; first | refine Aj Y ?_ | refine Ai Y ?_) | (show AW _ _ (.skip) _ _ _; refine Al ?_; first | show AW _ _ _ _ _ _ | show ∃ x', _ < _ ∧ _) | (show AW _ _ (.goto _) _ _ _; refine Bu ?_; try dsimp only [Aq, Aa, Ap, Ab]) | (show AW _ _ (.ret) _ _ _; refine Av ?_; try dsimp only [Aq, Aa, Ap, Ab])
    | (show DL _ _ _ _ _ _ _; refine dl_d Y Y (fun K kt kf => Au hG Y Y Y Y Y kt kf) (fun h => ?_) (fun h => ?_))
    | (show DL _ _ _ _ _ _ _; refine dl_s Y Y Y ?_) | (show DL _ _ _ _ _ _ _; refine B1 ?_; first | show AW _ _ _ _ _ _ | show ∃ x', _ < _ ∧ _) | (show AW _ _ (.region _ _ true) _ _ _; refine Bm mix (by kernel_rfl) ?_; intro O1) | fail)
      refine Ae rfl (r_mut rfl rfl rfl rfl rfl (.refl _) n1 (fun r cs' hr => ?_))
      by_cases h1 : b.length < 2
      · rw [if_pos h1] at hr
        obtain ⟨rfl, rfl⟩ := hr
        have hh : boxF b = .no 3 := by rw [boxF, if_pos h1]
        repeat' (first
    | ((first | (show AL _ _ _ _ _ _ _ _; refine Ae Y ?_) | (show DL _ _ _ _ _ _ _; refine' Bp Y Y (fun K kk => ?_) ?_; try (show Go.Ts.T; rotate_left))); (first
      | (show AOp _ _ ⟨_, .move _, _, _, _, _⟩ _ _ _; refine Am hG Y Y ?_)
      | (show AOp _ _ ⟨_, .assign _, _, _, _, _⟩ _ _ _; refine A9 hG Y Y ?_)
      | (show AOp _ _ ⟨_, .call ⟨.builtin .len, _, _⟩, _, _, _, _⟩ _ _ _; first | refine A7 hG Y Y Y Y ?_ | refine Be hG Y Y Y Y Y ?_)
      | (show AOp _ _ ⟨_, .binOp _ _ _ _ _, _, _, _, _⟩ _ _ _; first | refine As hG Y Y Y Y Y (by omega) ?_ | refine Ar hG Y Y Y Y Y (by omega) ?_ | ((fail_if_success have := kk); refine Au hG Y Y Y Y Y (fun h => ?_) (fun h => ?_)))
      | (show AOp _ _ ⟨_, .load _ _, _, _, _, _⟩ _ _ _; first | refine Bj hG Y Y Y ?_ | refine Az 0 hG Y Y Y Y ?_ | refine Az 1 hG Y Y Y Y ?_)
      | (show AOp _ _ ⟨_, .indexAddr _ _ _, _, _, _, _⟩ _ _ _; first | refine Ca hG Y Y Y Y Y Y Y ?_ | refine Bi hG Y Y Y Y Y Y Y (by omega) ?_ | refine Bk hG Y Y Y Y Y Y Y (by omega) ?_ | refine Bs hG Y Y ?_)
      | (show AOp _ _ ⟨_, .convert _ _ _, _, _, _, _⟩ _ _ _; first | refine Bd hG Y Y Y Y Y (by omega) ?_ | refine Br hG Y Y Y Y Y ?_)
      | (show AOp _ _ ⟨_, .slice _ _ _ _ _, _, _, _, _⟩ _ _ _; first | refine Bg hG Y Y Y Y Y Y Y (by omega) ?_ | refine Bn hG Y Y Y Y Y Y Y (by omega) ?_ | refine r_sl hG Y Y ?_)
      | (show AOp _ _ ⟨_, .buildSlice _ _ _, _, _, _, _⟩ _ _ _; first | refine r_mk (sz := 1) hG Y Y Y Y Y Y Y ?_)
      | (show AOp _ _ ⟨_, .store _ _ _, _, _, _, _⟩ _ _ _; first | refine Bb 0 hG Y Y Y Y Y Y Y ?_ | refine Bb 1 hG Y Y Y Y Y Y Y ?_)
      | refine r_q hG Y Y Y ?_); try exact kk)
    | (show AL _ _ _ _ _ _ _ _; first | refine Bo Y Y Y ?_ | (refine Aw ?_; first | show AW _ _ _ _ _ _ | show ∃ x', _ < _ ∧ _)) | (show AW _ _ (.seq _ _) _ _ _; refine Ag ?_; intro Q1) | (show AW _ _ (.region _ _ false) _ _ _; refine Ad ?_; intro O1) | (show AW _ _ (.cond _ _ _) _ _ _; first | refine Aj Y ?_ | refine Ai Y ?_) | (show AW _ _ (.skip) _ _ _; refine Al ?_; first | show AW _ _ _ _ _ _ | show ∃ x', _ < _ ∧ _) | (show AW _ _ (.goto _) _ _ _; refine Bu ?_; try dsimp only [Aq, Aa, Ap, Ab]) | (show AW _ _ (.ret) _ _ _; refine Av ?_; try dsimp only [Aq, Aa, Ap, Ab])
    | (show DL _ _ _ _ _ _ _; refine dl_d Y Y (fun K kt kf => Au hG Y Y Y Y Y kt kf) (fun h => ?_) (fun h => ?_))
    | (show DL _ _ _ _ _ _ _; refine dl_s Y Y Y ?_) | (show DL _ _ _ _ _ _ _; refine B1 ?_; first | show AW _ _ _ _ _ _ | show ∃ x', _ < _ ∧ _) | (show AW _ _ (.region _ _ true) _ _ _; refine Bm mix (by kernel_rfl) ?_; intro O1) | fail)
        exact ret_mut 0 (Ak rfl Ba) rfl (.refl _) rfl ⟨by rw [hh]; rfl, fun h => by rw [hh] at h; exact absurd h (by decide)⟩
      rw [if_neg h1] at hr
      obtain ⟨rfl, rfl⟩ := hr
      have v1 := beV2 b (by omega)
      repeat' (first
    | ((first | (show AL _ _ _ _ _ _ _ _; refine Ae Y ?_) | (show DL _ _ _ _ _ _ _; refine' Bp Y Y (fun K kk => ?_) ?_; try (show Go.Ts.T; rotate_left))); (first
      | (show AOp _ _ ⟨_, .move _, _, _, _, _⟩ _ _ _; refine Am hG Y Y ?_)
      | (show AOp _ _ ⟨_, .assign _, _, _, _, _⟩ _ _ _; refine A9 hG Y Y ?_)
      | (show AOp _ _ ⟨_, .call ⟨.builtin .len, _, _⟩, _, _, _, _⟩ _ _ _; first | refine A7 hG Y Y Y Y ?_ | refine Be hG Y Y Y Y Y ?_)
      | (show AOp _ _ ⟨_, .binOp _ _ _ _ _, _, _, _, _⟩ _ _ _; first | refine As hG Y Y Y Y Y (by omega) ?_ | refine Ar hG Y Y Y Y Y (by omega) ?_ | ((fail_if_success have := kk); refine Au hG Y Y Y Y Y (fun h => ?_) (fun h => ?_)))
      | (show AOp _ _ ⟨_, .load _ _, _, _, _, _⟩ _ _ _; first | refine Bj hG Y Y Y ?_ | refine Az 0 hG Y Y Y Y ?_ | refine Az 1 hG Y Y Y Y ?_)
      | (show AOp _ _ ⟨_, .indexAddr _ _ _, _, _, _, _⟩ _ _ _; first | refine Ca hG Y Y Y Y Y Y Y ?_ | refine Bi hG Y Y Y Y Y Y Y (by omega) ?_ | refine Bk hG Y Y Y Y Y Y Y (by omega) ?_ | refine Bs hG Y Y ?_)
      | (show AOp _ _ ⟨_, .convert _ _ _, _, _, _, _⟩ _ _ _; first | refine Bd hG Y Y Y Y Y (by omega) ?_ | refine Br hG Y Y Y Y Y ?_)
      | (show AOp _ _ ⟨_, .slice _ _ _ _ _, _, _, _, _⟩ _ _ _; first | refine Bg hG Y Y Y Y Y Y Y (by omega) ?_ | refine Bn hG Y Y Y Y Y Y Y (by omega) ?_ | refine r_sl hG Y Y ?_)
      | (show AOp _ _ ⟨_, .buildSlice _ _ _, _, _, _, _⟩ _ _ _; first | refine r_mk (sz := 1) hG Y Y Y Y Y Y Y ?_)
      | (show AOp _ _ ⟨_, .store _ _ _, _, _, _, _⟩ _ _ _; first | refine Bb 0 hG Y Y Y Y Y Y Y ?_ | refine Bb 1 hG Y Y Y Y Y Y Y ?_)
      | refine r_q hG Y Y Y ?_); try exact kk)
    | (show AL _ _ _ _ _ _ _ _; first | refine Bo Y Y Y ?_ | (refine Aw ?_; first | show AW _ _ _ _ _ _ | show ∃ x', _ < _ ∧ _)) | (show AW _ _ (.seq _ _) _ _ _; refine Ag ?_; intro Q1) | (show AW _ _ (.region _ _ false) _ _ _; refine Ad ?_; intro O1) | (show AW _ _ (.cond _ _ _) _ _ _; first | refine Aj Y ?_ | refine Ai Y ?_) | (show AW _ _ (.skip) _ _ _; refine Al ?_; first | show AW _ _ _ _ _ _ | show ∃ x', _ < _ ∧ _) | (show AW _ _ (.goto _) _ _ _; refine Bu ?_; try dsimp only [Aq, Aa, Ap, Ab]) | (show AW _ _ (.ret) _ _ _; refine Av ?_; try dsimp only [Aq, Aa, Ap, Ab])
    | (show DL _ _ _ _ _ _ _; refine dl_d Y Y (fun K kt kf => Au hG Y Y Y Y Y kt kf) (fun h => ?_) (fun h => ?_))
    | (show DL _ _ _ _ _ _ _; refine dl_s Y Y Y ?_) | (show DL _ _ _ _ _ _ _; refine B1 ?_; first | show AW _ _ _ _ _ _ | show ∃ x', _ < _ ∧ _) | (show AW _ _ (.region _ _ true) _ _ _; (fail_if_success show AW _ _ (.region 7 _ _) _ _ _); refine Bm mix (by kernel_rfl) ?_; intro O1) | fail)
      refine aw_drawE' (m := 10) [8] (fun σ => ∃ c, σ = ⟨[(i, .cells c)], [], off, none⟩) mix rfl (by repeat (first | exact Sp.zero _ | apply Sp.succ)) ?_; intro O1 F1 Z1 Q2
      repeat' (first
    | (refine' dq_cons Y Y Y (fun σ hσ K kk => ?_) ?_; (try (show Go.Ts.T; rotate_left)); (obtain ⟨R, rfl⟩ := hσ); (first
      | (show AOp _ _ ⟨_, .move _, _, _, _, _⟩ _ _ _; refine Am hG Y Y ?_)
      | (show AOp _ _ ⟨_, .assign _, _, _, _, _⟩ _ _ _; refine A9 hG Y Y ?_)
      | (show AOp _ _ ⟨_, .call ⟨.builtin .len, _, _⟩, _, _, _, _⟩ _ _ _; first | refine A7 hG Y Y Y Y ?_ | refine Be hG Y Y Y Y Y ?_)
      | (show AOp _ _ ⟨_, .binOp _ _ _ _ _, _, _, _, _⟩ _ _ _; first | refine As hG Y Y Y Y Y (by omega) ?_ | refine Ar hG Y Y Y Y Y (by omega) ?_)
      | (show AOp _ _ ⟨_, .load _ _, _, _, _, _⟩ _ _ _; first | refine Bj hG Y Y Y ?_ | refine Az 0 hG Y Y Y Y ?_ | refine Az 1 hG Y Y Y Y ?_)
      | (show AOp _ _ ⟨_, .indexAddr _ _ _, _, _, _, _⟩ _ _ _; first | refine Ca hG Y Y Y Y Y Y Y ?_ | refine Bi hG Y Y Y Y Y Y Y (by omega) ?_ | refine Bk hG Y Y Y Y Y Y Y (by omega) ?_ | refine Bs hG Y Y ?_)
      | (show AOp _ _ ⟨_, .convert _ _ _, _, _, _, _⟩ _ _ _; first | refine Bd hG Y Y Y Y Y (by omega) ?_ | refine Br hG Y Y Y Y Y ?_)
      | (show AOp _ _ ⟨_, .slice _ _ _ _ _, _, _, _, _⟩ _ _ _; first | refine Bg hG Y Y Y Y Y Y Y (by omega) ?_ | refine Bn hG Y Y Y Y Y Y Y (by omega) ?_ | refine r_sl hG Y Y ?_)
      | (show AOp _ _ ⟨_, .buildSlice _ _ _, _, _, _, _⟩ _ _ _; first | refine r_mk (sz := 1) hG Y Y Y Y Y Y Y ?_)
      | (show AOp _ _ ⟨_, .store _ _ _, _, _, _, _⟩ _ _ _; first | refine Bb 0 hG Y Y Y Y Y Y Y ?_ | refine Bb 1 hG Y Y Y Y Y Y Y ?_)
      | refine r_q hG Y Y Y ?_); exact kk)
    | refine dq_d Y Y Y (fun σ hσ K kt kf => by obtain ⟨R, rfl⟩ := hσ; exact Au hG Y Y Y Y Y kt kf) (fun h => ?_) (fun h => ?_)
    | refine dq_d Y Y Y (fun σ hσ K kt kf => by obtain ⟨R, rfl⟩ := hσ; exact r_str hG Y Y Y Y kt kf) (fun h => ?_) (fun h => ?_)
    | refine dq_s Y Y Y Y ?_ | refine dq_e Y ?_ | (refine dq_nil ?_; show EL _ _ _ _ _ _ _ _ _) | refine el_s ⟨_, Y⟩ Y Y Y Y ?_
    | ((first | refine el_cons ⟨_, Y⟩ Y Y Y (fun K ke => ?_) | refine el_consN ⟨_, Y⟩ Y Y Y (fun K ke => ?_)); (first
      | (show AOp _ _ ⟨_, .move _, _, _, _, _⟩ _ _ _; refine Am hG Y Y ?_)
      | (show AOp _ _ ⟨_, .assign _, _, _, _, _⟩ _ _ _; refine A9 hG Y Y ?_)
      | (show AOp _ _ ⟨_, .call ⟨.builtin .len, _, _⟩, _, _, _, _⟩ _ _ _; first | refine A7 hG Y Y Y Y ?_ | refine Be hG Y Y Y Y Y ?_)
      | (show AOp _ _ ⟨_, .binOp _ _ _ _ _, _, _, _, _⟩ _ _ _; first | refine As hG Y Y Y Y Y (by omega) ?_ | refine Ar hG Y Y Y Y Y (by omega) ?_)
      | (show AOp _ _ ⟨_, .load _ _, _, _, _, _⟩ _ _ _; first | refine Bj hG Y Y Y ?_ | refine Az 0 hG Y Y Y Y ?_ | refine Az 1 hG Y Y Y Y ?_)
      | (show AOp _ _ ⟨_, .indexAddr _ _ _, _, _, _, _⟩ _ _ _; first | refine Ca hG Y Y Y Y Y Y Y ?_ | refine Bi hG Y Y Y Y Y Y Y (by omega) ?_ | refine Bk hG Y Y Y Y Y Y Y (by omega) ?_ | refine Bs hG Y Y ?_)
      | (show AOp _ _ ⟨_, .convert _ _ _, _, _, _, _⟩ _ _ _; first | refine Bd hG Y Y Y Y Y (by omega) ?_ | refine Br hG Y Y Y Y Y ?_)
      | (show AOp _ _ ⟨_, .slice _ _ _ _ _, _, _, _, _⟩ _ _ _; first | refine Bg hG Y Y Y Y Y Y Y (by omega) ?_ | refine Bn hG Y Y Y Y Y Y Y (by omega) ?_ | refine r_sl hG Y Y ?_)
      | (show AOp _ _ ⟨_, .buildSlice _ _ _, _, _, _, _⟩ _ _ _; first | refine r_mk (sz := 1) hG Y Y Y Y Y Y Y ?_)
      | (show AOp _ _ ⟨_, .store _ _ _, _, _, _, _⟩ _ _ _; first | refine Bb 0 hG Y Y Y Y Y Y Y ?_ | refine Bb 1 hG Y Y Y Y Y Y Y ?_)
      | refine r_q hG Y Y Y ?_); refine ke _ _ ?_)
    | (refine el_nil ⟨_, Y⟩ ?_; show AL _ _ _ _ _ _ _ _) | fail)
      refine el_consN ⟨_, rfl⟩ rfl rfl rfl (fun K ke => ?_)
      refine Bb 0 hG rfl rfl rfl rfl rfl rfl rfl ?_
      refine ke (.tup []) _ ?_
      refine el_nil ⟨_, rfl⟩ ?_
      show AL _ _ _ _ _ _ _ _
      repeat' (first
    | ((first | (show AL _ _ _ _ _ _ _ _; refine Ae Y ?_) | (show DL _ _ _ _ _ _ _; refine' Bp Y Y (fun K kk => ?_) ?_; try (show Go.Ts.T; rotate_left))); (first
      | (show AOp _ _ ⟨_, .move _, _, _, _, _⟩ _ _ _; refine Am hG Y Y ?_)
      | (show AOp _ _ ⟨_, .assign _, _, _, _, _⟩ _ _ _; refine A9 hG Y Y ?_)
      | (show AOp _ _ ⟨_, .call ⟨.builtin .len, _, _⟩, _, _, _, _⟩ _ _ _; first | refine A7 hG Y Y Y Y ?_ | refine Be hG Y Y Y Y Y ?_)
      | (show AOp _ _ ⟨_, .binOp _ _ _ _ _, _, _, _, _⟩ _ _ _; first | refine As hG Y Y Y Y Y (by omega) ?_ | refine Ar hG Y Y Y Y Y (by omega) ?_ | ((fail_if_success have := kk); refine Au hG Y Y Y Y Y (fun h => ?_) (fun h => ?_)))
      | (show AOp _ _ ⟨_, .load _ _, _, _, _, _⟩ _ _ _; first | refine Bj hG Y Y Y ?_ | refine Az 0 hG Y Y Y Y ?_ | refine Az 1 hG Y Y Y Y ?_)
      | (show AOp _ _ ⟨_, .indexAddr _ _ _, _, _, _, _⟩ _ _ _; first | refine Ca hG Y Y Y Y Y Y Y ?_ | refine Bi hG Y Y Y Y Y Y Y (by omega) ?_ | refine Bk hG Y Y Y Y Y Y Y (by omega) ?_ | refine Bs hG Y Y ?_)
      | (show AOp _ _ ⟨_, .convert _ _ _, _, _, _, _⟩ _ _ _; first | refine Bd hG Y Y Y Y Y (by omega) ?_ | refine Br hG Y Y Y Y Y ?_)
      | (show AOp _ _ ⟨_, .slice _ _ _ _ _, _, _, _, _⟩ _ _ _; first | refine Bg hG Y Y Y Y Y Y Y (by omega) ?_ | refine Bn hG Y Y Y Y Y Y Y (by omega) ?_ | refine r_sl hG Y Y ?_)
      | (show AOp _ _ ⟨_, .buildSlice _ _ _, _, _, _, _⟩ _ _ _; first | refine r_mk (sz := 1) hG Y Y Y Y Y Y Y ?_)
      | (show AOp _ _ ⟨_, .store _ _ _, _, _, _, _⟩ _ _ _; first | refine Bb 0 hG Y Y Y Y Y Y Y ?_ | refine Bb 1 hG Y Y Y Y Y Y Y ?_)
      | refine r_q hG Y Y Y ?_); try exact kk)
    | (show AL _ _ _ _ _ _ _ _; first | refine Bo Y Y Y ?_ | (refine Aw ?_; first | show AW _ _ _ _ _ _ | show ∃ x', _ < _ ∧ _)) | (show AW _ _ (.seq _ _) _ _ _; refine Ag ?_; intro Q1) | (show AW _ _ (.region _ _ false) _ _ _; refine Ad ?_; intro O1) | (show AW _ _ (.cond _ _ _) _ _ _; first | refine Aj Y ?_ | refine Ai Y ?_) | (show AW _ _ (.skip) _ _ _; refine Al ?_; first | show AW _ _ _ _ _ _ | show ∃ x', _ < _ ∧ _) | (show AW _ _ (.goto _) _ _ _; refine Bu ?_; try dsimp only [Aq, Aa, Ap, Ab]) | (show AW _ _ (.ret) _ _ _; refine Av ?_; try dsimp only [Aq, Aa, Ap, Ab])
    | (show DL _ _ _ _ _ _ _; refine dl_d Y Y (fun K kt kf => Au hG Y Y Y Y Y kt kf) (fun h => ?_) (fun h => ?_))
    | (show DL _ _ _ _ _ _ _; refine dl_s Y Y Y ?_) | (show DL _ _ _ _ _ _ _; refine B1 ?_; first | show AW _ _ _ _ _ _ | show ∃ x', _ < _ ∧ _) | (show AW _ _ (.region _ _ true) _ _ _; refine Bm mix (by kernel_rfl) ?_; intro O1) | fail)
      refine ⟨rfl, ⟨1, by omega, fun _ => h1, fun h => by omega, fun h => by omega⟩, by dsimp only; omega, ?_, .refl _⟩
      exact .cons rfl (.cons rfl (.nil _))
    · dsimp only
      have h1 := g1 (by decide)
      clear g1 g2 g3
      have n1 := o1_number (b := b.drop 2) (n := 2) (m := 2) (rest := [A0, A1, A2, A3, A4, A5, A6, .int .i64 (beV (b.take 2)), .int .i64 0, .int .i64 0, .nilsl, .nilsl, .nilsl]) rfl (by omega) (by rw [List.length_drop]; omega)
      repeat' (first
    | ((first | (show AL _ _ _ _ _ _ _ _; refine Ae Y ?_) | (show DL _ _ _ _ _ _ _; refine' Bp Y Y (fun K kk => ?_) ?_; try (show Go.Ts.T; rotate_left))); (first
      | (show AOp _ _ ⟨_, .move _, _, _, _, _⟩ _ _ _; refine Am hG Y Y ?_)
      | (show AOp _ _ ⟨_, .assign _, _, _, _, _⟩ _ _ _; refine A9 hG Y Y ?_)
      | (show AOp _ _ ⟨_, .call ⟨.builtin .len, _, _⟩, _, _, _, _⟩ _ _ _; first | refine A7 hG Y Y Y Y ?_ | refine Be hG Y Y Y Y Y ?_)
      | (show AOp _ _ ⟨_, .binOp _ _ _ _ _, _, _, _, _⟩ _ _ _; first | refine As hG Y Y Y Y Y (by omega) ?_ | refine Ar hG Y Y Y Y Y (by omega) ?_ | ((fail_if_success have := kk); refine Au hG Y Y Y Y Y (fun h => ?_) (fun h => ?_)))
      | (show AOp _ _ ⟨_, .load _ _, _, _, _, _⟩ _ _ _; first | refine Bj hG Y Y Y ?_ | refine Az 0 hG Y Y Y Y ?_ | refine Az 1 hG Y Y Y Y ?_)
      | (show AOp _ _ ⟨_, .indexAddr _ _ _, _, _, _, _⟩ _ _ _; first | refine Ca hG Y Y Y Y Y Y Y ?_ | refine Bi hG Y Y Y Y Y Y Y (by omega) ?_ | refine Bk hG Y Y Y Y Y Y Y (by omega) ?_ | refine Bs hG Y Y ?_)
      | (show AOp _ _ ⟨_, .convert _ _ _, _, _, _, _⟩ _ _ _; first | refine Bd hG Y Y Y Y Y (by omega) ?_ | refine Br hG Y Y Y Y Y ?_)
      | (show AOp _ _ ⟨_, .slice _ _ _ _ _, _, _, _, _⟩ _ _ _; first | refine Bg hG Y Y Y Y Y Y Y (by omega) ?_ | refine Bn hG Y Y Y Y Y Y Y (by omega) ?_ | refine r_sl hG Y Y ?_)
      | (show AOp _ _ ⟨_, .buildSlice _ _ _, _, _, _, _⟩ _ _ _; first | refine r_mk (sz := 1) hG Y Y Y Y Y Y Y ?_)
      | (show AOp _ _ ⟨_, .store _ _ _, _, _, _, _⟩ _ _ _; first | refine Bb 0 hG Y Y Y Y Y Y Y ?_ | refine Bb 1 hG Y Y Y Y Y Y Y ?_)
      | refine r_q hG Y Y Y ?_); try exact kk)
    | (show AL _ _ _ _ _ _ _ _; first | refine Bo Y Y Y ?_ | (refine Aw ?_; first | show AW _ _ _ _ _ _ | show ∃ x', _ < _ ∧ _)) | (show AW _ _ (.seq _ _) _ _ _; refine Ag ?_; intro Q1) | (show AW _ _ (.region _ _ false) _ _ _; refine Ad ?_; intro O1) | (show AW _ _ (.cond _ _ _) _ _ _; first | refine Aj Y ?_ | refine Ai Y ?_) | (show AW _ _ (.skip) _ _ _; refine Al ?_; first | show AW _ _ _ _ _ _ | show ∃ x', _ < _ ∧ _) | (show AW _ _ (.goto _) _ _ _; refine Bu ?_; try dsimp only [Aq, Aa, Ap, Ab]) | (show AW _ _ (.ret) _ _ _; refine Av ?_; try dsimp only [Aq, Aa, Ap, Ab])
    | (show DL _ _ _ _ _ _ _; refine dl_d Y Y (fun K kt kf => Au hG Y Y Y Y Y kt kf) (fun h => ?_) (fun h => ?_))
    | (show DL _ _ _ _ _ _ _; refine dl_s Y Y Y ?_) | (show DL _ _ _ _ _ _ _; refine B1 ?_; first | show AW _ _ _ _ _ _ | show ∃ x', _ < _ ∧ _) | (show AW _ _ (.region _ _ true) _ _ _; refine Bm mix (by kernel_rfl) ?_; intro O1) | fail)
      refine Ae rfl (r_mut rfl rfl rfl rfl rfl (.refl _) n1 (fun r cs' hr => ?_))
      by_cases h2 : (b.drop 2).length < 2
      · rw [if_pos h2] at hr
        obtain ⟨rfl, rfl⟩ := hr
        have hh : boxF b = .no 3 := by rw [boxF, if_neg h1, if_pos h2]
        repeat' (first
    | ((first | (show AL _ _ _ _ _ _ _ _; refine Ae Y ?_) | (show DL _ _ _ _ _ _ _; refine' Bp Y Y (fun K kk => ?_) ?_; try (show Go.Ts.T; rotate_left))); (first
      | (show AOp _ _ ⟨_, .move _, _, _, _, _⟩ _ _ _; refine Am hG Y Y ?_)
      | (show AOp _ _ ⟨_, .assign _, _, _, _, _⟩ _ _ _; refine A9 hG Y Y ?_)
      | (show AOp _ _ ⟨_, .call ⟨.builtin .len, _, _⟩, _, _, _, _⟩ _ _ _; first | refine A7 hG Y Y Y Y ?_ | refine Be hG Y Y Y Y Y ?_)
      | (show AOp _ _ ⟨_, .binOp _ _ _ _ _, _, _, _, _⟩ _ _ _; first | refine As hG Y Y Y Y Y (by omega) ?_ | refine Ar hG Y Y Y Y Y (by omega) ?_ | ((fail_if_success have := kk); refine Au hG Y Y Y Y Y (fun h => ?_) (fun h => ?_)))
      | (show AOp _ _ ⟨_, .load _ _, _, _, _, _⟩ _ _ _; first | refine Bj hG Y Y Y ?_ | refine Az 0 hG Y Y Y Y ?_ | refine Az 1 hG Y Y Y Y ?_)
      | (show AOp _ _ ⟨_, .indexAddr _ _ _, _, _, _, _⟩ _ _ _; first | refine Ca hG Y Y Y Y Y Y Y ?_ | refine Bi hG Y Y Y Y Y Y Y (by omega) ?_ | refine Bk hG Y Y Y Y Y Y Y (by omega) ?_ | refine Bs hG Y Y ?_)
      | (show AOp _ _ ⟨_, .convert _ _ _, _, _, _, _⟩ _ _ _; first | refine Bd hG Y Y Y Y Y (by omega) ?_ | refine Br hG Y Y Y Y Y ?_)
      | (show AOp _ _ ⟨_, .slice _ _ _ _ _, _, _, _, _⟩ _ _ _; first | refine Bg hG Y Y Y Y Y Y Y (by omega) ?_ | refine Bn hG Y Y Y Y Y Y Y (by omega) ?_ | refine r_sl hG Y Y ?_)
      | (show AOp _ _ ⟨_, .buildSlice _ _ _, _, _, _, _⟩ _ _ _; first | refine r_mk (sz := 1) hG Y Y Y Y Y Y Y ?_)
      | (show AOp _ _ ⟨_, .store _ _ _, _, _, _, _⟩ _ _ _; first | refine Bb 0 hG Y Y Y Y Y Y Y ?_ | refine Bb 1 hG Y Y Y Y Y Y Y ?_)
      | refine r_q hG Y Y Y ?_); try exact kk)
    | (show AL _ _ _ _ _ _ _ _; first | refine Bo Y Y Y ?_ | (refine Aw ?_; first | show AW _ _ _ _ _ _ | show ∃ x', _ < _ ∧ _)) | (show AW _ _ (.seq _ _) _ _ _; refine Ag ?_; intro Q1) | (show AW _ _ (.region _ _ false) _ _ _; refine Ad ?_; intro O1) | (show AW _ _ (.cond _ _ _) _ _ _; first | refine Aj Y ?_ | refine Ai Y ?_) | (show AW _ _ (.skip) _ _ _; refine Al ?_; first | show AW _ _ _ _ _ _ | show ∃ x', _ < _ ∧ _) | (show AW _ _ (.goto _) _ _ _; refine Bu ?_; try dsimp only [Aq, Aa, Ap, Ab]) | (show AW _ _ (.ret) _ _ _; refine Av ?_; try dsimp only [Aq, Aa, Ap, Ab])
    | (show DL _ _ _ _ _ _ _; refine dl_d Y Y (fun K kt kf => Au hG Y Y Y Y Y kt kf) (fun h => ?_) (fun h => ?_))
    | (show DL _ _ _ _ _ _ _; refine dl_s Y Y Y ?_) | (show DL _ _ _ _ _ _ _; refine B1 ?_; first | show AW _ _ _ _ _ _ | show ∃ x', _ < _ ∧ _) | (show AW _ _ (.region _ _ true) _ _ _; refine Bm mix (by kernel_rfl) ?_; intro O1) | fail)
        exact ret_mut 0 (Ak rfl Ba) rfl (.refl _) rfl ⟨by rw [hh]; rfl, fun h => by rw [hh] at h; exact absurd h (by decide)⟩
      rw [if_neg h2] at hr
      obtain ⟨rfl, rfl⟩ := hr
      have v1 := beV2 (b.drop 2) (by omega)
      repeat' (first
    | ((first | (show AL _ _ _ _ _ _ _ _; refine Ae Y ?_) | (show DL _ _ _ _ _ _ _; refine' Bp Y Y (fun K kk => ?_) ?_; try (show Go.Ts.T; rotate_left))); (first
      | (show AOp _ _ ⟨_, .move _, _, _, _, _⟩ _ _ _; refine Am hG Y Y ?_)
      | (show AOp _ _ ⟨_, .assign _, _, _, _, _⟩ _ _ _; refine A9 hG Y Y ?_)
      | (show AOp _ _ ⟨_, .call ⟨.builtin .len, _, _⟩, _, _, _, _⟩ _ _ _; first | refine A7 hG Y Y Y Y ?_ | refine Be hG Y Y Y Y Y ?_)
      | (show AOp _ _ ⟨_, .binOp _ _ _ _ _, _, _, _, _⟩ _ _ _; first | refine As hG Y Y Y Y Y (by omega) ?_ | refine Ar hG Y Y Y Y Y (by omega) ?_ | ((fail_if_success have := kk); refine Au hG Y Y Y Y Y (fun h => ?_) (fun h => ?_)))
      | (show AOp _ _ ⟨_, .load _ _, _, _, _, _⟩ _ _ _; first | refine Bj hG Y Y Y ?_ | refine Az 0 hG Y Y Y Y ?_ | refine Az 1 hG Y Y Y Y ?_)
      | (show AOp _ _ ⟨_, .indexAddr _ _ _, _, _, _, _⟩ _ _ _; first | refine Ca hG Y Y Y Y Y Y Y ?_ | refine Bi hG Y Y Y Y Y Y Y (by omega) ?_ | refine Bk hG Y Y Y Y Y Y Y (by omega) ?_ | refine Bs hG Y Y ?_)
      | (show AOp _ _ ⟨_, .convert _ _ _, _, _, _, _⟩ _ _ _; first | refine Bd hG Y Y Y Y Y (by omega) ?_ | refine Br hG Y Y Y Y Y ?_)
      | (show AOp _ _ ⟨_, .slice _ _ _ _ _, _, _, _, _⟩ _ _ _; first | refine Bg hG Y Y Y Y Y Y Y (by omega) ?_ | refine Bn hG Y Y Y Y Y Y Y (by omega) ?_ | refine r_sl hG Y Y ?_)
      | (show AOp _ _ ⟨_, .buildSlice _ _ _, _, _, _, _⟩ _ _ _; first | refine r_mk (sz := 1) hG Y Y Y Y Y Y Y ?_)
      | (show AOp _ _ ⟨_, .store _ _ _, _, _, _, _⟩ _ _ _; first | refine Bb 0 hG Y Y Y Y Y Y Y ?_ | refine Bb 1 hG Y Y Y Y Y Y Y ?_)
      | refine r_q hG Y Y Y ?_); try exact kk)
    | (show AL _ _ _ _ _ _ _ _; first | refine Bo Y Y Y ?_ | (refine Aw ?_; first | show AW _ _ _ _ _ _ | show ∃ x', _ < _ ∧ _)) | (show AW _ _ (.seq _ _) _ _ _; refine Ag ?_; intro Q1) | (show AW _ _ (.region _ _ false) _ _ _; refine Ad ?_; intro O1) | (show AW _ _ (.cond _ _ _) _ _ _; first | refine Aj Y ?_ | refine Ai Y ?_) | (show AW _ _ (.skip) _ _ _; refine Al ?_; first | show AW _ _ _ _ _ _ | show ∃ x', _ < _ ∧ _) | (show AW _ _ (.goto _) _ _ _; refine Bu ?_; try dsimp only [Aq, Aa, Ap, Ab]) | (show AW _ _ (.ret) _ _ _; refine Av ?_; try dsimp only [Aq, Aa, Ap, Ab])
    | (show DL _ _ _ _ _ _ _; refine dl_d Y Y (fun K kt kf => Au hG Y Y Y Y Y kt kf) (fun h => ?_) (fun h => ?_))
    | (show DL _ _ _ _ _ _ _; refine dl_s Y Y Y ?_) | (show DL _ _ _ _ _ _ _; refine B1 ?_; first | show AW _ _ _ _ _ _ | show ∃ x', _ < _ ∧ _) | (show AW _ _ (.region _ _ true) _ _ _; (fail_if_success show AW _ _ (.region 7 _ _) _ _ _); refine Bm mix (by kernel_rfl) ?_; intro O1) | fail)
      refine aw_drawE' (m := 10) [8] (fun σ => ∃ c, σ = ⟨[(i, .cells c)], [], off, none⟩) mix rfl (by repeat (first | exact Sp.zero _ | apply Sp.succ)) ?_; intro O1 F1 Z1 Q2
      repeat' (first
    | (refine' dq_cons Y Y Y (fun σ hσ K kk => ?_) ?_; (try (show Go.Ts.T; rotate_left)); (obtain ⟨R, rfl⟩ := hσ); (first
      | (show AOp _ _ ⟨_, .move _, _, _, _, _⟩ _ _ _; refine Am hG Y Y ?_)
      | (show AOp _ _ ⟨_, .assign _, _, _, _, _⟩ _ _ _; refine A9 hG Y Y ?_)
      | (show AOp _ _ ⟨_, .call ⟨.builtin .len, _, _⟩, _, _, _, _⟩ _ _ _; first | refine A7 hG Y Y Y Y ?_ | refine Be hG Y Y Y Y Y ?_)
      | (show AOp _ _ ⟨_, .binOp _ _ _ _ _, _, _, _, _⟩ _ _ _; first | refine As hG Y Y Y Y Y (by omega) ?_ | refine Ar hG Y Y Y Y Y (by omega) ?_)
      | (show AOp _ _ ⟨_, .load _ _, _, _, _, _⟩ _ _ _; first | refine Bj hG Y Y Y ?_ | refine Az 0 hG Y Y Y Y ?_ | refine Az 1 hG Y Y Y Y ?_)
      | (show AOp _ _ ⟨_, .indexAddr _ _ _, _, _, _, _⟩ _ _ _; first | refine Ca hG Y Y Y Y Y Y Y ?_ | refine Bi hG Y Y Y Y Y Y Y (by omega) ?_ | refine Bk hG Y Y Y Y Y Y Y (by omega) ?_ | refine Bs hG Y Y ?_)
      | (show AOp _ _ ⟨_, .convert _ _ _, _, _, _, _⟩ _ _ _; first | refine Bd hG Y Y Y Y Y (by omega) ?_ | refine Br hG Y Y Y Y Y ?_)
      | (show AOp _ _ ⟨_, .slice _ _ _ _ _, _, _, _, _⟩ _ _ _; first | refine Bg hG Y Y Y Y Y Y Y (by omega) ?_ | refine Bn hG Y Y Y Y Y Y Y (by omega) ?_ | refine r_sl hG Y Y ?_)
      | (show AOp _ _ ⟨_, .buildSlice _ _ _, _, _, _, _⟩ _ _ _; first | refine r_mk (sz := 1) hG Y Y Y Y Y Y Y ?_)
      | (show AOp _ _ ⟨_, .store _ _ _, _, _, _, _⟩ _ _ _; first | refine Bb 0 hG Y Y Y Y Y Y Y ?_ | refine Bb 1 hG Y Y Y Y Y Y Y ?_)
      | refine r_q hG Y Y Y ?_); exact kk)
    | refine dq_d Y Y Y (fun σ hσ K kt kf => by obtain ⟨R, rfl⟩ := hσ; exact Au hG Y Y Y Y Y kt kf) (fun h => ?_) (fun h => ?_)
    | refine dq_d Y Y Y (fun σ hσ K kt kf => by obtain ⟨R, rfl⟩ := hσ; exact r_str hG Y Y Y Y kt kf) (fun h => ?_) (fun h => ?_)
    | refine dq_s Y Y Y Y ?_ | refine dq_e Y ?_ | (refine dq_nil ?_; show EL _ _ _ _ _ _ _ _ _) | refine el_s ⟨_, Y⟩ Y Y Y Y ?_
    | ((first | refine el_cons ⟨_, Y⟩ Y Y Y (fun K ke => ?_) | refine el_consN ⟨_, Y⟩ Y Y Y (fun K ke => ?_)); (first
      | (show AOp _ _ ⟨_, .move _, _, _, _, _⟩ _ _ _; refine Am hG Y Y ?_)
      | (show AOp _ _ ⟨_, .assign _, _, _, _, _⟩ _ _ _; refine A9 hG Y Y ?_)
      | (show AOp _ _ ⟨_, .call ⟨.builtin .len, _, _⟩, _, _, _, _⟩ _ _ _; first | refine A7 hG Y Y Y Y ?_ | refine Be hG Y Y Y Y Y ?_)
      | (show AOp _ _ ⟨_, .binOp _ _ _ _ _, _, _, _, _⟩ _ _ _; first | refine As hG Y Y Y Y Y (by omega) ?_ | refine Ar hG Y Y Y Y Y (by omega) ?_)
      | (show AOp _ _ ⟨_, .load _ _, _, _, _, _⟩ _ _ _; first | refine Bj hG Y Y Y ?_ | refine Az 0 hG Y Y Y Y ?_ | refine Az 1 hG Y Y Y Y ?_)
      | (show AOp _ _ ⟨_, .indexAddr _ _ _, _, _, _, _⟩ _ _ _; first | refine Ca hG Y Y Y Y Y Y Y ?_ | refine Bi hG Y Y Y Y Y Y Y (by omega) ?_ | refine Bk hG Y Y Y Y Y Y Y (by omega) ?_ | refine Bs hG Y Y ?_)
      | (show AOp _ _ ⟨_, .convert _ _ _, _, _, _, _⟩ _ _ _; first | refine Bd hG Y Y Y Y Y (by omega) ?_ | refine Br hG Y Y Y Y Y ?_)
      | (show AOp _ _ ⟨_, .slice _ _ _ _ _, _, _, _, _⟩ _ _ _; first | refine Bg hG Y Y Y Y Y Y Y (by omega) ?_ | refine Bn hG Y Y Y Y Y Y Y (by omega) ?_ | refine r_sl hG Y Y ?_)
      | (show AOp _ _ ⟨_, .buildSlice _ _ _, _, _, _, _⟩ _ _ _; first | refine r_mk (sz := 1) hG Y Y Y Y Y Y Y ?_)
      | (show AOp _ _ ⟨_, .store _ _ _, _, _, _, _⟩ _ _ _; first | refine Bb 0 hG Y Y Y Y Y Y Y ?_ | refine Bb 1 hG Y Y Y Y Y Y Y ?_)
      | refine r_q hG Y Y Y ?_); refine ke _ _ ?_)
    | (refine el_nil ⟨_, Y⟩ ?_; show AL _ _ _ _ _ _ _ _) | fail)
      refine el_consN ⟨_, rfl⟩ rfl rfl rfl (fun K ke => ?_)
      refine Bb 0 hG rfl rfl rfl rfl rfl rfl rfl ?_
      refine ke (.tup []) _ ?_
      refine el_nil ⟨_, rfl⟩ ?_
      show AL _ _ _ _ _ _ _ _
      repeat' (first
    | ((first | (show AL _ _ _ _ _ _ _ _; refine Ae Y ?_) | (show DL _ _ _ _ _ _ _; refine' Bp Y Y (fun K kk => ?_) ?_; try (show Go.Ts.T; rotate_left))); (first
      | (show AOp _ _ ⟨_, .move _, _, _, _, _⟩ _ _ _; refine Am hG Y Y ?_)
      | (show AOp _ _ ⟨_, .assign _, _, _, _, _⟩ _ _ _; refine A9 hG Y Y ?_)
      | (show AOp _ _ ⟨_, .call ⟨.builtin .len, _, _⟩, _, _, _, _⟩ _ _ _; first | refine A7 hG Y Y Y Y ?_ | refine Be hG Y Y Y Y Y ?_)
      | (show AOp _ _ ⟨_, .binOp _ _ _ _ _, _, _, _, _⟩ _ _ _; first | refine As hG Y Y Y Y Y (by omega) ?_ | refine Ar hG Y Y Y Y Y (by omega) ?_ | ((fail_if_success have := kk); refine Au hG Y Y Y Y Y (fun h => ?_) (fun h => ?_)))
      | (show AOp _ _ ⟨_, .load _ _, _, _, _, _⟩ _ _ _; first | refine Bj hG Y Y Y ?_ | refine Az 0 hG Y Y Y Y ?_ | refine Az 1 hG Y Y Y Y ?_)
      | (show AOp _ _ ⟨_, .indexAddr _ _ _, _, _, _, _⟩ _ _ _; first | refine Ca hG Y Y Y Y Y Y Y ?_ | refine Bi hG Y Y Y Y Y Y Y (by omega) ?_ | refine Bk hG Y Y Y Y Y Y Y (by omega) ?_ | refine Bs hG Y Y ?_)
      | (show AOp _ _ ⟨_, .convert _ _ _, _, _, _, _⟩ _ _ _; first | refine Bd hG Y Y Y Y Y (by omega) ?_ | refine Br hG Y Y Y Y Y ?_)
      | (show AOp _ _ ⟨_, .slice _ _ _ _ _, _, _, _, _⟩ _ _ _; first | refine Bg hG Y Y Y Y Y Y Y (by omega) ?_ | refine Bn hG Y Y Y Y Y Y Y (by omega) ?_ | refine r_sl hG Y Y ?_)
      | (show AOp _ _ ⟨_, .buildSlice _ _ _, _, _, _, _⟩ _ _ _; first | refine r_mk (sz := 1) hG Y Y Y Y Y Y Y ?_)
      | (show AOp _ _ ⟨_, .store _ _ _, _, _, _, _⟩ _ _ _; first | refine Bb 0 hG Y Y Y Y Y Y Y ?_ | refine Bb 1 hG Y Y Y Y Y Y Y ?_)
      | refine r_q hG Y Y Y ?_); try exact kk)
    | (show AL _ _ _ _ _ _ _ _; first | refine Bo Y Y Y ?_ | (refine Aw ?_; first | show AW _ _ _ _ _ _ | show ∃ x', _ < _ ∧ _)) | (show AW _ _ (.seq _ _) _ _ _; refine Ag ?_; intro Q1) | (show AW _ _ (.region _ _ false) _ _ _; refine Ad ?_; intro O1) | (show AW _ _ (.cond _ _ _) _ _ _; first | refine Aj Y ?_ | refine Ai Y ?_) | (show AW _ _ (.skip) _ _ _; refine Al ?_; first | show AW _ _ _ _ _ _ | show ∃ x', _ < _ ∧ _) | (show AW _ _ (.goto _) _ _ _; refine Bu ?_; try dsimp only [Aq, Aa, Ap, Ab]) | (show AW _ _ (.ret) _ _ _; refine Av ?_; try dsimp only [Aq, Aa, Ap, Ab])
    | (show DL _ _ _ _ _ _ _; refine dl_d Y Y (fun K kt kf => Au hG Y Y Y Y Y kt kf) (fun h => ?_) (fun h => ?_))
    | (show DL _ _ _ _ _ _ _; refine dl_s Y Y Y ?_) | (show DL _ _ _ _ _ _ _; refine B1 ?_; first | show AW _ _ _ _ _ _ | show ∃ x', _ < _ ∧ _) | (show AW _ _ (.region _ _ true) _ _ _; refine Bm mix (by kernel_rfl) ?_; intro O1) | fail)
      refine ⟨rfl, ⟨2, by omega, fun _ => h1, fun _ => h2, fun h => by omega⟩, by dsimp only; omega, ?_, .refl _⟩
      exact .cons rfl (.cons rfl (.nil _))
    · dsimp only
      have h1 := g1 (by decide)
      have h2 := g2 (by decide)
      clear g1 g2 g3
      have n1 := o1_number (b := (b.drop 2).drop 2) (n := 2) (m := 2) (rest := [A0, A1, A2, A3, A4, A5, A6, .int .i64 (beV (b.take 2)), .int .i64 (beV ((b.drop 2).take 2)), .int .i64 0, .nilsl, .nilsl, .nilsl]) rfl (by omega) (by rw [List.length_drop, List.length_drop]; omega)
      repeat' (first
    | ((first | (show AL _ _ _ _ _ _ _ _; refine Ae Y ?_) | (show DL _ _ _ _ _ _ _; refine' Bp Y Y (fun K kk => ?_) ?_; try (show Go.Ts.T; rotate_left))); (first
      | (show AOp _ _ ⟨_, .move _, _, _, _, _⟩ _ _ _; refine Am hG Y Y ?_)
      | (show AOp _ _ ⟨_, .assign _, _, _, _, _⟩ _ _ _; refine A9 hG Y Y ?_)
      | (show AOp _ _ ⟨_, .call ⟨.builtin .len, _, _⟩, _, _, _, _⟩ _ _ _; first | refine A7 hG Y Y Y Y ?_ | refine Be hG Y Y Y Y Y ?_)
      | (show AOp _ _ ⟨_, .binOp _ _ _ _ _, _, _, _, _⟩ _ _ _; first | refine As hG Y Y Y Y Y (by omega) ?_ | refine Ar hG Y Y Y Y Y (by omega) ?_ | ((fail_if_success have := kk); refine Au hG Y Y Y Y Y (fun h => ?_) (fun h => ?_)))
      | (show AOp _ _ ⟨_, .load _ _, _, _, _, _⟩ _ _ _; first | refine Bj hG Y Y Y ?_ | refine Az 0 hG Y Y Y Y ?_ | refine Az 1 hG Y Y Y Y ?_)
      | (show AOp _ _ ⟨_, .indexAddr _ _ _, _, _, _, _⟩ _ _ _; first | refine Ca hG Y Y Y Y Y Y Y ?_ | refine Bi hG Y Y Y Y Y Y Y (by omega) ?_ | refine Bk hG Y Y Y Y Y Y Y (by omega) ?_ | refine Bs hG Y Y ?_)
      | (show AOp _ _ ⟨_, .convert _ _ _, _, _, _, _⟩ _ _ _; first | refine Bd hG Y Y Y Y Y (by omega) ?_ | refine Br hG Y Y Y Y Y ?_)
      | (show AOp _ _ ⟨_, .slice _ _ _ _ _, _, _, _, _⟩ _ _ _; first | refine Bg hG Y Y Y Y Y Y Y (by omega) ?_ | refine Bn hG Y Y Y Y Y Y Y (by omega) ?_ | refine r_sl hG Y Y ?_)
      | (show AOp _ _ ⟨_, .buildSlice _ _ _, _, _, _, _⟩ _ _ _; first | refine r_mk (sz := 1) hG Y Y Y Y Y Y Y ?_)
      | (show AOp _ _ ⟨_, .store _ _ _, _, _, _, _⟩ _ _ _; first | refine Bb 0 hG Y Y Y Y Y Y Y ?_ | refine Bb 1 hG Y Y Y Y Y Y Y ?_)
      | refine r_q hG Y Y Y ?_); try exact kk)
    | (show AL _ _ _ _ _ _ _ _; first | refine Bo Y Y Y ?_ | (refine Aw ?_; first | show AW _ _ _ _ _ _ | show ∃ x', _ < _ ∧ _)) | (show AW _ _ (.seq _ _) _ _ _; refine Ag ?_; intro Q1) | (show AW _ _ (.region _ _ false) _ _ _; refine Ad ?_; intro O1) | (show AW _ _ (.cond _ _ _) _ _ _; first | refine Aj Y ?_ | refine Ai Y ?_) | (show AW _ _ (.skip) _ _ _; refine Al ?_; first | show AW _ _ _ _ _ _ | show ∃ x', _ < _ ∧ _) | (show AW _ _ (.goto _) _ _ _; refine Bu ?_; try dsimp only [Aq, Aa, Ap, Ab]) | (show AW _ _ (.ret) _ _ _; refine Av ?_; try dsimp only [Aq, Aa, Ap, Ab])
    | (show DL _ _ _ _ _ _ _; refine dl_d Y Y (fun K kt kf => Au hG Y Y Y Y Y kt kf) (fun h => ?_) (fun h => ?_))
    | (show DL _ _ _ _ _ _ _; refine dl_s Y Y Y ?_) | (show DL _ _ _ _ _ _ _; refine B1 ?_; first | show AW _ _ _ _ _ _ | show ∃ x', _ < _ ∧ _) | (show AW _ _ (.region _ _ true) _ _ _; refine Bm mix (by kernel_rfl) ?_; intro O1) | fail)
      refine Ae rfl (r_mut rfl rfl rfl rfl rfl (.refl _) n1 (fun r cs' hr => ?_))
      by_cases h3 : ((b.drop 2).drop 2).length < 2
      · rw [if_pos h3] at hr
        obtain ⟨rfl, rfl⟩ := hr
        have hh : boxF b = .no 3 := by rw [boxF, if_neg h1, if_neg h2, if_pos h3]
        repeat' (first
    | ((first | (show AL _ _ _ _ _ _ _ _; refine Ae Y ?_) | (show DL _ _ _ _ _ _ _; refine' Bp Y Y (fun K kk => ?_) ?_; try (show Go.Ts.T; rotate_left))); (first
      | (show AOp _ _ ⟨_, .move _, _, _, _, _⟩ _ _ _; refine Am hG Y Y ?_)
      | (show AOp _ _ ⟨_, .assign _, _, _, _, _⟩ _ _ _; refine A9 hG Y Y ?_)
      | (show AOp _ _ ⟨_, .call ⟨.builtin .len, _, _⟩, _, _, _, _⟩ _ _ _; first | refine A7 hG Y Y Y Y ?_ | refine Be hG Y Y Y Y Y ?_)
      | (show AOp _ _ ⟨_, .binOp _ _ _ _ _, _, _, _, _⟩ _ _ _; first | refine As hG Y Y Y Y Y (by omega) ?_ | refine Ar hG Y Y Y Y Y (by omega) ?_ | ((fail_if_success have := kk); refine Au hG Y Y Y Y Y (fun h => ?_) (fun h => ?_)))
      | (show AOp _ _ ⟨_, .load _ _, _, _, _, _⟩ _ _ _; first | refine Bj hG Y Y Y ?_ | refine Az 0 hG Y Y Y Y ?_ | refine Az 1 hG Y Y Y Y ?_)
      | (show AOp _ _ ⟨_, .indexAddr _ _ _, _, _, _, _⟩ _ _ _; first | refine Ca hG Y Y Y Y Y Y Y ?_ | refine Bi hG Y Y Y Y Y Y Y (by omega) ?_ | refine Bk hG Y Y Y Y Y Y Y (by omega) ?_ | refine Bs hG Y Y ?_)
      | (show AOp _ _ ⟨_, .convert _ _ _, _, _, _, _⟩ _ _ _; first | refine Bd hG Y Y Y Y Y (by omega) ?_ | refine Br hG Y Y Y Y Y ?_)
      | (show AOp _ _ ⟨_, .slice _ _ _ _ _, _, _, _, _⟩ _ _ _; first | refine Bg hG Y Y Y Y Y Y Y (by omega) ?_ | refine Bn hG Y Y Y Y Y Y Y (by omega) ?_ | refine r_sl hG Y Y ?_)
      | (show AOp _ _ ⟨_, .buildSlice _ _ _, _, _, _, _⟩ _ _ _; first | refine r_mk (sz := 1) hG Y Y Y Y Y Y Y ?_)
      | (show AOp _ _ ⟨_, .store _ _ _, _, _, _, _⟩ _ _ _; first | refine Bb 0 hG Y Y Y Y Y Y Y ?_ | refine Bb 1 hG Y Y Y Y Y Y Y ?_)
      | refine r_q hG Y Y Y ?_); try exact kk)
    | (show AL _ _ _ _ _ _ _ _; first | refine Bo Y Y Y ?_ | (refine Aw ?_; first | show AW _ _ _ _ _ _ | show ∃ x', _ < _ ∧ _)) | (show AW _ _ (.seq _ _) _ _ _; refine Ag ?_; intro Q1) | (show AW _ _ (.region _ _ false) _ _ _; refine Ad ?_; intro O1) | (show AW _ _ (.cond _ _ _) _ _ _; first | refine Aj Y ?_ | refine Ai Y ?_) | (show AW _ _ (.skip) _ _ _; refine Al ?_; first | show AW _ _ _ _ _ _ | show ∃ x', _ < _ ∧ _) | (show AW _ _ (.goto _) _ _ _; refine Bu ?_; try dsimp only [Aq, Aa, Ap, Ab]) | (show AW _ _ (.ret) _ _ _; refine Av ?_; try dsimp only [Aq, Aa, Ap, Ab])
    | (show DL _ _ _ _ _ _ _; refine dl_d Y Y (fun K kt kf => Au hG Y Y Y Y Y kt kf) (fun h => ?_) (fun h => ?_))
    | (show DL _ _ _ _ _ _ _; refine dl_s Y Y Y ?_) | (show DL _ _ _ _ _ _ _; refine B1 ?_; first | show AW _ _ _ _ _ _ | show ∃ x', _ < _ ∧ _) | (show AW _ _ (.region _ _ true) _ _ _; refine Bm mix (by kernel_rfl) ?_; intro O1) | fail)
        exact ret_mut 0 (Ak rfl Ba) rfl (.refl _) rfl ⟨by rw [hh]; rfl, fun h => by rw [hh] at h; exact absurd h (by decide)⟩
      rw [if_neg h3] at hr
      obtain ⟨rfl, rfl⟩ := hr
      have v1 := beV2 ((b.drop 2).drop 2) (by omega)
      repeat' (first
    | ((first | (show AL _ _ _ _ _ _ _ _; refine Ae Y ?_) | (show DL _ _ _ _ _ _ _; refine' Bp Y Y (fun K kk => ?_) ?_; try (show Go.Ts.T; rotate_left))); (first
      | (show AOp _ _ ⟨_, .move _, _, _, _, _⟩ _ _ _; refine Am hG Y Y ?_)
      | (show AOp _ _ ⟨_, .assign _, _, _, _, _⟩ _ _ _; refine A9 hG Y Y ?_)
      | (show AOp _ _ ⟨_, .call ⟨.builtin .len, _, _⟩, _, _, _, _⟩ _ _ _; first | refine A7 hG Y Y Y Y ?_ | refine Be hG Y Y Y Y Y ?_)
      | (show AOp _ _ ⟨_, .binOp _ _ _ _ _, _, _, _, _⟩ _ _ _; first | refine As hG Y Y Y Y Y (by omega) ?_ | refine Ar hG Y Y Y Y Y (by omega) ?_ | ((fail_if_success have := kk); refine Au hG Y Y Y Y Y (fun h => ?_) (fun h => ?_)))
      | (show AOp _ _ ⟨_, .load _ _, _, _, _, _⟩ _ _ _; first | refine Bj hG Y Y Y ?_ | refine Az 0 hG Y Y Y Y ?_ | refine Az 1 hG Y Y Y Y ?_)
      | (show AOp _ _ ⟨_, .indexAddr _ _ _, _, _, _, _⟩ _ _ _; first | refine Ca hG Y Y Y Y Y Y Y ?_ | refine Bi hG Y Y Y Y Y Y Y (by omega) ?_ | refine Bk hG Y Y Y Y Y Y Y (by omega) ?_ | refine Bs hG Y Y ?_)
      | (show AOp _ _ ⟨_, .convert _ _ _, _, _, _, _⟩ _ _ _; first | refine Bd hG Y Y Y Y Y (by omega) ?_ | refine Br hG Y Y Y Y Y ?_)
      | (show AOp _ _ ⟨_, .slice _ _ _ _ _, _, _, _, _⟩ _ _ _; first | refine Bg hG Y Y Y Y Y Y Y (by omega) ?_ | refine Bn hG Y Y Y Y Y Y Y (by omega) ?_ | refine r_sl hG Y Y ?_)
      | (show AOp _ _ ⟨_, .buildSlice _ _ _, _, _, _, _⟩ _ _ _; first | refine r_mk (sz := 1) hG Y Y Y Y Y Y Y ?_)
      | (show AOp _ _ ⟨_, .store _ _ _, _, _, _, _⟩ _ _ _; first | refine Bb 0 hG Y Y Y Y Y Y Y ?_ | refine Bb 1 hG Y Y Y Y Y Y Y ?_)
      | refine r_q hG Y Y Y ?_); try exact kk)
    | (show AL _ _ _ _ _ _ _ _; first | refine Bo Y Y Y ?_ | (refine Aw ?_; first | show AW _ _ _ _ _ _ | show ∃ x', _ < _ ∧ _)) | (show AW _ _ (.seq _ _) _ _ _; refine Ag ?_; intro Q1) | (show AW _ _ (.region _ _ false) _ _ _; refine Ad ?_; intro O1) | (show AW _ _ (.cond _ _ _) _ _ _; first | refine Aj Y ?_ | refine Ai Y ?_) | (show AW _ _ (.skip) _ _ _; refine Al ?_; first | show AW _ _ _ _ _ _ | show ∃ x', _ < _ ∧ _) | (show AW _ _ (.goto _) _ _ _; refine Bu ?_; try dsimp only [Aq, Aa, Ap, Ab]) | (show AW _ _ (.ret) _ _ _; refine Av ?_; try dsimp only [Aq, Aa, Ap, Ab])
    | (show DL _ _ _ _ _ _ _; refine dl_d Y Y (fun K kt kf => Au hG Y Y Y Y Y kt kf) (fun h => ?_) (fun h => ?_))
    | (show DL _ _ _ _ _ _ _; refine dl_s Y Y Y ?_) | (show DL _ _ _ _ _ _ _; refine B1 ?_; first | show AW _ _ _ _ _ _ | show ∃ x', _ < _ ∧ _) | (show AW _ _ (.region _ _ true) _ _ _; (fail_if_success show AW _ _ (.region 7 _ _) _ _ _); refine Bm mix (by kernel_rfl) ?_; intro O1) | fail)
      refine aw_drawE' (m := 10) [8] (fun σ => ∃ c, σ = ⟨[(i, .cells c)], [], off, none⟩) mix rfl (by repeat (first | exact Sp.zero _ | apply Sp.succ)) ?_; intro O1 F1 Z1 Q2
      repeat' (first
    | (refine' dq_cons Y Y Y (fun σ hσ K kk => ?_) ?_; (try (show Go.Ts.T; rotate_left)); (obtain ⟨R, rfl⟩ := hσ); (first
      | (show AOp _ _ ⟨_, .move _, _, _, _, _⟩ _ _ _; refine Am hG Y Y ?_)
      | (show AOp _ _ ⟨_, .assign _, _, _, _, _⟩ _ _ _; refine A9 hG Y Y ?_)
      | (show AOp _ _ ⟨_, .call ⟨.builtin .len, _, _⟩, _, _, _, _⟩ _ _ _; first | refine A7 hG Y Y Y Y ?_ | refine Be hG Y Y Y Y Y ?_)
      | (show AOp _ _ ⟨_, .binOp _ _ _ _ _, _, _, _, _⟩ _ _ _; first | refine As hG Y Y Y Y Y (by omega) ?_ | refine Ar hG Y Y Y Y Y (by omega) ?_)
      | (show AOp _ _ ⟨_, .load _ _, _, _, _, _⟩ _ _ _; first | refine Bj hG Y Y Y ?_ | refine Az 0 hG Y Y Y Y ?_ | refine Az 1 hG Y Y Y Y ?_)
      | (show AOp _ _ ⟨_, .indexAddr _ _ _, _, _, _, _⟩ _ _ _; first | refine Ca hG Y Y Y Y Y Y Y ?_ | refine Bi hG Y Y Y Y Y Y Y (by omega) ?_ | refine Bk hG Y Y Y Y Y Y Y (by omega) ?_ | refine Bs hG Y Y ?_)
      | (show AOp _ _ ⟨_, .convert _ _ _, _, _, _, _⟩ _ _ _; first | refine Bd hG Y Y Y Y Y (by omega) ?_ | refine Br hG Y Y Y Y Y ?_)
      | (show AOp _ _ ⟨_, .slice _ _ _ _ _, _, _, _, _⟩ _ _ _; first | refine Bg hG Y Y Y Y Y Y Y (by omega) ?_ | refine Bn hG Y Y Y Y Y Y Y (by omega) ?_ | refine r_sl hG Y Y ?_)
      | (show AOp _ _ ⟨_, .buildSlice _ _ _, _, _, _, _⟩ _ _ _; first | refine r_mk (sz := 1) hG Y Y Y Y Y Y Y ?_)
      | (show AOp _ _ ⟨_, .store _ _ _, _, _, _, _⟩ _ _ _; first | refine Bb 0 hG Y Y Y Y Y Y Y ?_ | refine Bb 1 hG Y Y Y Y Y Y Y ?_)
      | refine r_q hG Y Y Y ?_); exact kk)
    | refine dq_d Y Y Y (fun σ hσ K kt kf => by obtain ⟨R, rfl⟩ := hσ; exact Au hG Y Y Y Y Y kt kf) (fun h => ?_) (fun h => ?_)
    | refine dq_d Y Y Y (fun σ hσ K kt kf => by obtain ⟨R, rfl⟩ := hσ; exact r_str hG Y Y Y Y kt kf) (fun h => ?_) (fun h => ?_)
    | refine dq_s Y Y Y Y ?_ | refine dq_e Y ?_ | (refine dq_nil ?_; show EL _ _ _ _ _ _ _ _ _) | refine el_s ⟨_, Y⟩ Y Y Y Y ?_
    | ((first | refine el_cons ⟨_, Y⟩ Y Y Y (fun K ke => ?_) | refine el_consN ⟨_, Y⟩ Y Y Y (fun K ke => ?_)); (first
      | (show AOp _ _ ⟨_, .move _, _, _, _, _⟩ _ _ _; refine Am hG Y Y ?_)
      | (show AOp _ _ ⟨_, .assign _, _, _, _, _⟩ _ _ _; refine A9 hG Y Y ?_)
      | (show AOp _ _ ⟨_, .call ⟨.builtin .len, _, _⟩, _, _, _, _⟩ _ _ _; first | refine A7 hG Y Y Y Y ?_ | refine Be hG Y Y Y Y Y ?_)
      | (show AOp _ _ ⟨_, .binOp _ _ _ _ _, _, _, _, _⟩ _ _ _; first | refine As hG Y Y Y Y Y (by omega) ?_ | refine Ar hG Y Y Y Y Y (by omega) ?_)
      | (show AOp _ _ ⟨_, .load _ _, _, _, _, _⟩ _ _ _; first | refine Bj hG Y Y Y ?_ | refine Az 0 hG Y Y Y Y ?_ | refine Az 1 hG Y Y Y Y ?_)
      | (show AOp _ _ ⟨_, .indexAddr _ _ _, _, _, _, _⟩ _ _ _; first | refine Ca hG Y Y Y Y Y Y Y ?_ | refine Bi hG Y Y Y Y Y Y Y (by omega) ?_ | refine Bk hG Y Y Y Y Y Y Y (by omega) ?_ | refine Bs hG Y Y ?_)
      | (show AOp _ _ ⟨_, .convert _ _ _, _, _, _, _⟩ _ _ _; first | refine Bd hG Y Y Y Y Y (by omega) ?_ | refine Br hG Y Y Y Y Y ?_)
      | (show AOp _ _ ⟨_, .slice _ _ _ _ _, _, _, _, _⟩ _ _ _; first | refine Bg hG Y Y Y Y Y Y Y (by omega) ?_ | refine Bn hG Y Y Y Y Y Y Y (by omega) ?_ | refine r_sl hG Y Y ?_)
      | (show AOp _ _ ⟨_, .buildSlice _ _ _, _, _, _, _⟩ _ _ _; first | refine r_mk (sz := 1) hG Y Y Y Y Y Y Y ?_)
      | (show AOp _ _ ⟨_, .store _ _ _, _, _, _, _⟩ _ _ _; first | refine Bb 0 hG Y Y Y Y Y Y Y ?_ | refine Bb 1 hG Y Y Y Y Y Y Y ?_)
      | refine r_q hG Y Y Y ?_); refine ke _ _ ?_)
    | (refine el_nil ⟨_, Y⟩ ?_; show AL _ _ _ _ _ _ _ _) | fail)
      refine el_consN ⟨_, rfl⟩ rfl rfl rfl (fun K ke => ?_)
      refine Bb 0 hG rfl rfl rfl rfl rfl rfl rfl ?_
      refine ke (.tup []) _ ?_
      refine el_nil ⟨_, rfl⟩ ?_
      show AL _ _ _ _ _ _ _ _
      repeat' (first
    | ((first | (show AL _ _ _ _ _ _ _ _; refine Ae Y ?_) | (show DL _ _ _ _ _ _ _; refine' Bp Y Y (fun K kk => ?_) ?_; try (show Go.Ts.T; rotate_left))); (first
      | (show AOp _ _ ⟨_, .move _, _, _, _, _⟩ _ _ _; refine Am hG Y Y ?_)
      | (show AOp _ _ ⟨_, .assign _, _, _, _, _⟩ _ _ _; refine A9 hG Y Y ?_)
      | (show AOp _ _ ⟨_, .call ⟨.builtin .len, _, _⟩, _, _, _, _⟩ _ _ _; first | refine A7 hG Y Y Y Y ?_ | refine Be hG Y Y Y Y Y ?_)
      | (show AOp _ _ ⟨_, .binOp _ _ _ _ _, _, _, _, _⟩ _ _ _; first | refine As hG Y Y Y Y Y (by omega) ?_ | refine Ar hG Y Y Y Y Y (by omega) ?_ | ((fail_if_success have := kk); refine Au hG Y Y Y Y Y (fun h => ?_) (fun h => ?_)))
      | (show AOp _ _ ⟨_, .load _ _, _, _, _, _⟩ _ _ _; first | refine Bj hG Y Y Y ?_ | refine Az 0 hG Y Y Y Y ?_ | refine Az 1 hG Y Y Y Y ?_)
      | (show AOp _ _ ⟨_, .indexAddr _ _ _, _, _, _, _⟩ _ _ _; first | refine Ca hG Y Y Y Y Y Y Y ?_ | refine Bi hG Y Y Y Y Y Y Y (by omega) ?_ | refine Bk hG Y Y Y Y Y Y Y (by omega) ?_ | refine Bs hG Y Y ?_)
      | (show AOp _ _ ⟨_, .convert _ _ _, _, _, _, _⟩ _ _ _; first | refine Bd hG Y Y Y Y Y (by omega) ?_ | refine Br hG Y Y Y Y Y ?_)
      | (show AOp _ _ ⟨_, .slice _ _ _ _ _, _, _, _, _⟩ _ _ _; first | refine Bg hG Y Y Y Y Y Y Y (by omega) ?_ | refine Bn hG Y Y Y Y Y Y Y (by omega) ?_ | refine r_sl hG Y Y ?_)
      | (show AOp _ _ ⟨_, .buildSlice _ _ _, _, _, _, _⟩ _ _ _; first | refine r_mk (sz := 1) hG Y Y Y Y Y Y Y ?_)
      | (show AOp _ _ ⟨_, .store _ _ _, _, _, _, _⟩ _ _ _; first | refine Bb 0 hG Y Y Y Y Y Y Y ?_ | refine Bb 1 hG Y Y Y Y Y Y Y ?_)
      | refine r_q hG Y Y Y ?_); try exact kk)
    | (show AL _ _ _ _ _ _ _ _; first | refine Bo Y Y Y ?_ | (refine Aw ?_; first | show AW _ _ _ _ _ _ | show ∃ x', _ < _ ∧ _)) | (show AW _ _ (.seq _ _) _ _ _; refine Ag ?_; intro Q1) | (show AW _ _ (.region _ _ false) _ _ _; refine Ad ?_; intro O1) | (show AW _ _ (.cond _ _ _) _ _ _; first | refine Aj Y ?_ | refine Ai Y ?_) | (show AW _ _ (.skip) _ _ _; refine Al ?_; first | show AW _ _ _ _ _ _ | show ∃ x', _ < _ ∧ _) | (show AW _ _ (.goto _) _ _ _; refine Bu ?_; try dsimp only [Aq, Aa, Ap, Ab]) | (show AW _ _ (.ret) _ _ _; refine Av ?_; try dsimp only [Aq, Aa, Ap, Ab])
    | (show DL _ _ _ _ _ _ _; refine dl_d Y Y (fun K kt kf => Au hG Y Y Y Y Y kt kf) (fun h => ?_) (fun h => ?_))
    | (show DL _ _ _ _ _ _ _; refine dl_s Y Y Y ?_) | (show DL _ _ _ _ _ _ _; refine B1 ?_; first | show AW _ _ _ _ _ _ | show ∃ x', _ < _ ∧ _) | (show AW _ _ (.region _ _ true) _ _ _; refine Bm mix (by kernel_rfl) ?_; intro O1) | fail)
      refine ⟨rfl, ⟨3, by omega, fun _ => h1, fun _ => h2, fun _ => h3⟩, by dsimp only; omega, ?_, .refl _⟩
      exact .cons rfl (.cons rfl (.nil _))
    · dsimp only
      have h1 := g1 (by decide)
      have h2 := g2 (by decide)
      have h3 := g3 (by decide)
      clear g1 g2 g3
      have hh : boxF b = ⟨0, beV (b.take 2), beV ((b.drop 2).take 2), beV (((b.drop 2).drop 2).take 2), [], [], [], ((b.drop 2).drop 2).drop 2⟩ := by rw [boxF, if_neg h1, if_neg h2, if_neg h3]
      repeat' (first
    | ((first | (show AL _ _ _ _ _ _ _ _; refine Ae Y ?_) | (show DL _ _ _ _ _ _ _; refine' Bp Y Y (fun K kk => ?_) ?_; try (show Go.Ts.T; rotate_left))); (first
      | (show AOp _ _ ⟨_, .move _, _, _, _, _⟩ _ _ _; refine Am hG Y Y ?_)
      | (show AOp _ _ ⟨_, .assign _, _, _, _, _⟩ _ _ _; refine A9 hG Y Y ?_)
      | (show AOp _ _ ⟨_, .call ⟨.builtin .len, _, _⟩, _, _, _, _⟩ _ _ _; first | refine A7 hG Y Y Y Y ?_ | refine Be hG Y Y Y Y Y ?_)
      | (show AOp _ _ ⟨_, .binOp _ _ _ _ _, _, _, _, _⟩ _ _ _; first | refine As hG Y Y Y Y Y (by omega) ?_ | refine Ar hG Y Y Y Y Y (by omega) ?_ | ((fail_if_success have := kk); refine Au hG Y Y Y Y Y (fun h => ?_) (fun h => ?_)))
      | (show AOp _ _ ⟨_, .load _ _, _, _, _, _⟩ _ _ _; first | refine Bj hG Y Y Y ?_ | refine Az 0 hG Y Y Y Y ?_ | refine Az 1 hG Y Y Y Y ?_)
      | (show AOp _ _ ⟨_, .indexAddr _ _ _, _, _, _, _⟩ _ _ _; first | refine Ca hG Y Y Y Y Y Y Y ?_ | refine Bi hG Y Y Y Y Y Y Y (by omega) ?_ | refine Bk hG Y Y Y Y Y Y Y (by omega) ?_ | refine Bs hG Y Y ?_)
      | (show AOp _ _ ⟨_, .convert _ _ _, _, _, _, _⟩ _ _ _; first | refine Bd hG Y Y Y Y Y (by omega) ?_ | refine Br hG Y Y Y Y Y ?_)
      | (show AOp _ _ ⟨_, .slice _ _ _ _ _, _, _, _, _⟩ _ _ _; first | refine Bg hG Y Y Y Y Y Y Y (by omega) ?_ | refine Bn hG Y Y Y Y Y Y Y (by omega) ?_ | refine r_sl hG Y Y ?_)
      | (show AOp _ _ ⟨_, .buildSlice _ _ _, _, _, _, _⟩ _ _ _; first | refine r_mk (sz := 1) hG Y Y Y Y Y Y Y ?_)
      | (show AOp _ _ ⟨_, .store _ _ _, _, _, _, _⟩ _ _ _; first | refine Bb 0 hG Y Y Y Y Y Y Y ?_ | refine Bb 1 hG Y Y Y Y Y Y Y ?_)
      | refine r_q hG Y Y Y ?_); try exact kk)
    | (show AL _ _ _ _ _ _ _ _; first | refine Bo Y Y Y ?_ | (refine Aw ?_; first | show AW _ _ _ _ _ _ | show ∃ x', _ < _ ∧ _)) | (show AW _ _ (.seq _ _) _ _ _; refine Ag ?_; intro Q1) | (show AW _ _ (.region _ _ false) _ _ _; refine Ad ?_; intro O1) | (show AW _ _ (.cond _ _ _) _ _ _; first | refine Aj Y ?_ | refine Ai Y ?_) | (show AW _ _ (.skip) _ _ _; refine Al ?_; first | show AW _ _ _ _ _ _ | show ∃ x', _ < _ ∧ _) | (show AW _ _ (.goto _) _ _ _; refine Bu ?_; try dsimp only [Aq, Aa, Ap, Ab]) | (show AW _ _ (.ret) _ _ _; refine Av ?_; try dsimp only [Aq, Aa, Ap, Ab])
    | (show DL _ _ _ _ _ _ _; refine dl_d Y Y (fun K kt kf => Au hG Y Y Y Y Y kt kf) (fun h => ?_) (fun h => ?_))
    | (show DL _ _ _ _ _ _ _; refine dl_s Y Y Y ?_) | (show DL _ _ _ _ _ _ _; refine B1 ?_; first | show AW _ _ _ _ _ _ | show ∃ x', _ < _ ∧ _) | (show AW _ _ (.region _ _ true) _ _ _; refine Bm mix (by kernel_rfl) ?_; intro O1) | fail)
      exact ret_mut 0 (Ak rfl Ba) rfl (.refl _) rfl ⟨by rw [hh]; rfl, fun _ => by rw [hh]; rfl⟩
  · intro key
    repeat' (first
    | ((first | (show AL _ _ _ _ _ _ _ _; refine Ae Y ?_) | (show DL _ _ _ _ _ _ _; refine' Bp Y Y (fun K kk => ?_) ?_; try (show Go.Ts.T; rotate_left))); (first
      | (show AOp _ _ ⟨_, .move _, _, _, _, _⟩ _ _ _; refine Am hG Y Y ?_)
      | (show AOp _ _ ⟨_, .assign _, _, _, _, _⟩ _ _ _; refine A9 hG Y Y ?_)
      | (show AOp _ _ ⟨_, .call ⟨.builtin .len, _, _⟩, _, _, _, _⟩ _ _ _; first | refine A7 hG Y Y Y Y ?_ | refine Be hG Y Y Y Y Y ?_)
      | (show AOp _ _ ⟨_, .binOp _ _ _ _ _, _, _, _, _⟩ _ _ _; first | refine As hG Y Y Y Y Y (by omega) ?_ | refine Ar hG Y Y Y Y Y (by omega) ?_ | ((fail_if_success have := kk); refine Au hG Y Y Y Y Y (fun h => ?_) (fun h => ?_)))
      | (show AOp _ _ ⟨_, .load _ _, _, _, _, _⟩ _ _ _; first | refine Bj hG Y Y Y ?_ | refine Az 0 hG Y Y Y Y ?_ | refine Az 1 hG Y Y Y Y ?_)
      | (show AOp _ _ ⟨_, .indexAddr _ _ _, _, _, _, _⟩ _ _ _; first | refine Ca hG Y Y Y Y Y Y Y ?_ | refine Bi hG Y Y Y Y Y Y Y (by omega) ?_ | refine Bk hG Y Y Y Y Y Y Y (by omega) ?_ | refine Bs hG Y Y ?_)
      | (show AOp _ _ ⟨_, .convert _ _ _, _, _, _, _⟩ _ _ _; first | refine Bd hG Y Y Y Y Y (by omega) ?_ | refine Br hG Y Y Y Y Y ?_)
      | (show AOp _ _ ⟨_, .slice _ _ _ _ _, _, _, _, _⟩ _ _ _; first | refine Bg hG Y Y Y Y Y Y Y (by omega) ?_ | refine Bn hG Y Y Y Y Y Y Y (by omega) ?_ | refine r_sl hG Y Y ?_)
      | (show AOp _ _ ⟨_, .buildSlice _ _ _, _, _, _, _⟩ _ _ _; first | refine r_mk (sz := 1) hG Y Y Y Y Y Y Y ?_)
      | (show AOp _ _ ⟨_, .store _ _ _, _, _, _, _⟩ _ _ _; first | refine Bb 0 hG Y Y Y Y Y Y Y ?_ | refine Bb 1 hG Y Y Y Y Y Y Y ?_)
      | refine r_q hG Y Y Y ?_); try exact kk)
    | (show AL _ _ _ _ _ _ _ _; first | refine Bo Y Y Y ?_ | (refine Aw ?_; first | show AW _ _ _ _ _ _ | show ∃ x', _ < _ ∧ _)) | (show AW _ _ (.seq _ _) _ _ _; refine Ag ?_; intro Q1) | (show AW _ _ (.region _ _ false) _ _ _; refine Ad ?_; intro O1) | (show AW _ _ (.cond _ _ _) _ _ _; first | refine Aj Y ?_ | refine Ai Y ?_) | (show AW _ _ (.skip) _ _ _; refine Al ?_; first | show AW _ _ _ _ _ _ | show ∃ x', _ < _ ∧ _) | (show AW _ _ (.goto _) _ _ _; refine Bu ?_; try dsimp only [Aq, Aa, Ap, Ab]) | (show AW _ _ (.ret) _ _ _; refine Av ?_; try dsimp only [Aq, Aa, Ap, Ab])
    | (show DL _ _ _ _ _ _ _; refine dl_d Y Y (fun K kt kf => Au hG Y Y Y Y Y kt kf) (fun h => ?_) (fun h => ?_))
    | (show DL _ _ _ _ _ _ _; refine dl_s Y Y Y ?_) | (show DL _ _ _ _ _ _ _; refine B1 ?_; first | show AW _ _ _ _ _ _ | show ∃ x', _ < _ ∧ _) | (show AW _ _ (.region _ _ true) _ _ _; refine Bm mix (by kernel_rfl) ?_; intro O1) | fail)
    refine aw_label ?_
    show AW _ _ _ _ _ _
    refine aw_forget ?_ (key ⟨0, by omega, fun h => by omega, fun h => by omega, fun h => by omega⟩)
    exact .cons rfl (.consW rfl (Wk.own _ _ _) (.nil _))
theorem takeBE_3 (b : List UInt8) : (takeBE b).2.2 = 0 ∧ (takeBE b).2.1 ≤ b.length ∨ (takeBE b).2.2 = 3 ∧ (takeBE b).2.1 = 0 := by
  rcases takeBE_e b with h | h
  · exact .inl ⟨h.1, h.2.2.1⟩
  · rw [h]; exact .inr ⟨rfl, rfl⟩
theorem takeC_3 (b : List UInt8) : (takeC b).2.2 = 0 ∧ (takeC b).2.1 ≤ b.length ∨ (takeC b).2.2 ≠ 0 ∧ (takeC b).2.1 = 0 := by
  by_cases h : (takeC b).2.2 = 0
  · have q : takeC b = ((takeC b).1, (takeC b).2.1, 0) := by rw [← h]
    exact .inl ⟨h, (takeC_used q).1⟩
  · refine .inr ⟨h, ?_⟩
    unfold takeC at h ⊢
    split
    · rfl
    split
    · rfl
    split
    · rename_i h1 h2 h3; rw [if_neg h1, if_neg h2, if_pos h3] at h; exact absurd rfl h
    · rfl
theorem takeLs_e (b : List UInt8) : ∀ (n : Nat) (acc : List (List UInt8)) (p : Nat), p ≤ b.length → (takeLs b n acc p).2.2 = 0 ∧ (takeLs b n acc p).2.1 ≤ b.length ∨ (takeLs b n acc p).2.2 = 3
  | 0, acc, p, h => .inl ⟨rfl, h⟩
  | n + 1, acc, p, h => by
    rw [takeLs]
    rcases takeBE_e (b.drop p) with q | q
    · rw [if_pos q.1]
      exact takeLs_e b n _ _ (by have := q.2.2.1; rw [List.length_drop] at this; omega)
    · rw [q, if_neg (by decide)]; exact .inr rfl
theorem takeR_3 (b : List UInt8) : (takeR b).2.2 = 0 ∧ (takeR b).2.1 ≤ b.length ∨ (takeR b).2.2 ≠ 0 ∧ (takeR b).2.1 = 0 := by
  unfold takeR
  split
  · exact .inr ⟨by decide, rfl⟩
  · split
    · rename_i h1 h2
      split
      · rcases takeLs_e b (beV (b.take 1)) [] 1 (by omega) with q | q
        · exact .inl q
        · rw [q] at h2; cases h2
      · exact .inr ⟨by decide, rfl⟩
    · exact .inr ⟨by decide, rfl⟩
theorem num_TakeBytes_is {x : T} {b : List UInt8} {r : List UInt8 × Nat × Int} (hx : bytesT x = some b) (hl : b.length ≤ 4294967296) (h : takeBE b = r) : Ts.Pure Try.prog 59 [x] (.tup [sT r.1, .int .i64 r.2.1, .int .i64 r.2.2]) := by
  subst h; exact num_TakeBytes hx hl
theorem o1_rest {b : List UInt8} {k : Nat} {A0 A2 A3 A4 A5 A6 : T} (hl : b.length ≤ 4294967296) (hk : 1 ≤ k ∧ k ≤ 4) :
    Mut Try.prog 37 [] [sT b, A0, .int .i64 k, A2, A3, A4, A5, A6, .int .i64 0, .int .i64 0, .int .i64 0, .nilsl, .nilsl, .nilsl] (fun u cs' => u = .int .i64 (tailF k b).e ∧ ((tailF k b).e = 0 →
      ∃ d c r, cs' = [sT (tailF k b).rest, A0, .int .i64 k, A2, A3, A4, A5, A6, .int .i64 (tailF k b).q, .int .i64 (tailF k b).u, .int .i64 (tailF k b).x, d, c, r] ∧ Wk d (sT (tailF k b).d) ∧ Wk c (cT (tailF k b).c) ∧ Wk r (lT (tailF k b).r) ∧ (d.scalar && c.scalar && r.scalar) = true)) := by
  intro off i
  refine By (N := 66) (rs := [.tmp 2]) hG Try.func37 rfl rfl rfl rfl rfl ?_
  by_cases k1 : k = 1
  · subst k1
    have n1 := o1_box (b := b) (A0 := A0) (A1 := .int .i64 (1 : Nat)) (A2 := A2) (A3 := A3) (A4 := A4) (A5 := A5) (A6 := A6) hl
    have hh : tailF 1 b = boxF b := rfl
    repeat' (first
    | ((show AL _ _ _ _ _ _ _ _; refine Ae Y ?_); (first
      | (show AOp _ _ ⟨_, .move _, _, _, _, _⟩ _ _ _; refine Am hG Y Y ?_)
      | (show AOp _ _ ⟨_, .assign _, _, _, _, _⟩ _ _ _; refine A9 hG Y Y ?_)
      | (show AOp _ _ ⟨_, .binOp _ _ _ _ _, _, _, _, _⟩ _ _ _; first | refine As hG Y Y Y Y Y (by omega) ?_ | refine Ar hG Y Y Y Y Y (by omega) ?_ | (refine Au hG Y Y Y Y Y (fun h => ?_) (fun h => ?_)))
      | (show AOp _ _ ⟨_, .load _ _, _, _, _, _⟩ _ _ _; first | refine Az 0 hG Y Y Y Y ?_ | refine Az 1 hG Y Y Y Y ?_)
      | (show AOp _ _ ⟨_, .slice _ _ _ _ _, _, _, _, _⟩ _ _ _; first | refine Bg hG Y Y Y Y Y Y Y (by omega) ?_ | refine Bn hG Y Y Y Y Y Y Y (by omega) ?_ | refine r_sl hG Y Y ?_)
      | (show AOp _ _ ⟨_, .store _ _ _, _, _, _, _⟩ _ _ _; first | refine Bb 0 hG Y Y Y Y Y Y Y ?_ | refine Bb 1 hG Y Y Y Y Y Y Y ?_)
      | refine r_q hG Y Y Y ?_))
    | (show AL _ _ _ _ _ _ _ _; first | refine Bo Y Y Y ?_ | (refine Aw ?_; first | show AW _ _ _ _ _ _ | show ∃ x', _ < _ ∧ _)) | (show AW _ _ (.seq _ _) _ _ _; refine Ag ?_; intro Q1) | (show AW _ _ (.region _ _ false) _ _ _; refine Ad ?_; intro O1) | (show AW _ _ (.cond _ _ _) _ _ _; first | refine Aj Y ?_ | refine Ai Y ?_) | (show AW _ _ (.block _ _) _ _ _; refine A8 ?_; intro Q1) | (show AW _ _ (.ret) _ _ _; refine Av ?_; try dsimp only [Aq, Aa, Ap, Ab]) | fail)
    refine Ae rfl (r_mut rfl rfl rfl rfl rfl (.refl _) n1 (fun r cs' hr => ?_))
    obtain ⟨rfl, hr⟩ := hr
    have z : (boxF b).d = [] ∧ (boxF b).c = [] ∧ (boxF b).r = [] := by unfold boxF; (repeat' split) <;> exact ⟨rfl, rfl, rfl⟩
    repeat' (first
    | ((show AL _ _ _ _ _ _ _ _; refine Ae Y ?_); (first
      | (show AOp _ _ ⟨_, .move _, _, _, _, _⟩ _ _ _; refine Am hG Y Y ?_)
      | (show AOp _ _ ⟨_, .assign _, _, _, _, _⟩ _ _ _; refine A9 hG Y Y ?_)
      | (show AOp _ _ ⟨_, .binOp _ _ _ _ _, _, _, _, _⟩ _ _ _; first | refine As hG Y Y Y Y Y (by omega) ?_ | refine Ar hG Y Y Y Y Y (by omega) ?_ | (refine Au hG Y Y Y Y Y (fun h => ?_) (fun h => ?_)))
      | (show AOp _ _ ⟨_, .load _ _, _, _, _, _⟩ _ _ _; first | refine Az 0 hG Y Y Y Y ?_ | refine Az 1 hG Y Y Y Y ?_)
      | (show AOp _ _ ⟨_, .slice _ _ _ _ _, _, _, _, _⟩ _ _ _; first | refine Bg hG Y Y Y Y Y Y Y (by omega) ?_ | refine Bn hG Y Y Y Y Y Y Y (by omega) ?_ | refine r_sl hG Y Y ?_)
      | (show AOp _ _ ⟨_, .store _ _ _, _, _, _, _⟩ _ _ _; first | refine Bb 0 hG Y Y Y Y Y Y Y ?_ | refine Bb 1 hG Y Y Y Y Y Y Y ?_)
      | refine r_q hG Y Y Y ?_))
    | (show AL _ _ _ _ _ _ _ _; first | refine Bo Y Y Y ?_ | (refine Aw ?_; first | show AW _ _ _ _ _ _ | show ∃ x', _ < _ ∧ _)) | (show AW _ _ (.seq _ _) _ _ _; refine Ag ?_; intro Q1) | (show AW _ _ (.region _ _ false) _ _ _; refine Ad ?_; intro O1) | (show AW _ _ (.cond _ _ _) _ _ _; first | refine Aj Y ?_ | refine Ai Y ?_) | (show AW _ _ (.block _ _) _ _ _; refine A8 ?_; intro Q1) | (show AW _ _ (.ret) _ _ _; refine Av ?_; try dsimp only [Aq, Aa, Ap, Ab]) | fail)
    try dsimp (config := { zetaDelta := true }) only [Aq, Aa, Ap, Ab]
    apply ret_mut 0
    · exact Ak rfl Ba
    · rfl
    · exact .refl _
    · rfl
    exact ⟨by rw [hh]; rfl, fun h => ⟨.nilsl, .nilsl, .nilsl, hr h, by rw [hh, z.1]; exact .nil 1, by rw [hh, z.2.1]; exact .nil 1, by rw [hh, z.2.2]; exact .nil 1, rfl⟩⟩
  by_cases k2 : k = 2
  · subst k2
    have hc := num_TakeBytes_is (Af b) hl rfl
    have h3 := takeBE_3 b
    have hh : tailF 2 b = (if (takeBE b).2.2 = 0 then ⟨0, 0, 0, 0, (takeBE b).1, [], [], b.drop (takeBE b).2.1⟩ else .no (takeBE b).2.2) := rfl
    generalize takeBE b = t at *
    obtain ⟨s, n, e⟩ := t
    dsimp only at *
    repeat' (first
    | ((show AL _ _ _ _ _ _ _ _; refine Ae Y ?_); (first
      | (show AOp _ _ ⟨_, .move _, _, _, _, _⟩ _ _ _; refine Am hG Y Y ?_)
      | (show AOp _ _ ⟨_, .assign _, _, _, _, _⟩ _ _ _; refine A9 hG Y Y ?_)
      | (show AOp _ _ ⟨_, .binOp _ _ _ _ _, _, _, _, _⟩ _ _ _; first | refine As hG Y Y Y Y Y (by omega) ?_ | refine Ar hG Y Y Y Y Y (by omega) ?_ | (refine Au hG Y Y Y Y Y (fun h => ?_) (fun h => ?_)))
      | (show AOp _ _ ⟨_, .load _ _, _, _, _, _⟩ _ _ _; first | refine Az 0 hG Y Y Y Y ?_ | refine Az 1 hG Y Y Y Y ?_)
      | (show AOp _ _ ⟨_, .slice _ _ _ _ _, _, _, _, _⟩ _ _ _; first | refine Bg hG Y Y Y Y Y Y Y (by omega) ?_ | refine Bn hG Y Y Y Y Y Y Y (by omega) ?_ | refine r_sl hG Y Y ?_)
      | (show AOp _ _ ⟨_, .store _ _ _, _, _, _, _⟩ _ _ _; first | refine Bb 0 hG Y Y Y Y Y Y Y ?_ | refine Bb 1 hG Y Y Y Y Y Y Y ?_)
      | (show AOp _ _ ⟨_, .call ⟨.value _, _, _⟩, _, _, _, _⟩ _ _ _; first | refine Bh Y Y Y Y Y (by apply hc <;> (first | assumption | omega | exact Ac _ _ | exact Af _ | exact Ah _ _ | exact Ax _ | rfl | (simp; omega))) ?_ | fail)
      | refine r_q hG Y Y Y ?_))
    | (show AL _ _ _ _ _ _ _ _; first | refine Bo Y Y Y ?_ | (refine Aw ?_; first | show AW _ _ _ _ _ _ | show ∃ x', _ < _ ∧ _)) | (show AW _ _ (.seq _ _) _ _ _; refine Ag ?_; intro Q1) | (show AW _ _ (.region _ _ false) _ _ _; refine Ad ?_; intro O1) | (show AW _ _ (.cond _ _ _) _ _ _; first | refine Aj Y ?_ | refine Ai Y ?_) | (show AW _ _ (.block _ _) _ _ _; refine A8 ?_; intro Q1) | (show AW _ _ (.ret) _ _ _; refine Av ?_; try dsimp only [Aq, Aa, Ap, Ab]) | fail)
    try dsimp (config := { zetaDelta := true }) only [Aq, Aa, Ap, Ab]
    apply ret_mut 0
    · exact Ak rfl Ba
    · rfl
    · exact .refl _
    · rfl
    by_cases he : e = 0
    · rw [if_pos he] at hh
      exact ⟨by rw [hh, he]; rfl, fun h => ⟨_, _, _, by rw [hh]; rfl, by rw [hh]; exact .refl _, by rw [hh]; exact .nil 1, by rw [hh]; exact .nil 1, rfl⟩⟩
    · rw [if_neg he] at hh
      exact ⟨by rw [hh]; rfl, fun h => by rw [hh] at h; exact absurd h he⟩
  by_cases k3 : k = 3
  · subst k3
    have hc := cats_Take_is (x := sT b) (a := (takeC b).1) (n := (takeC b).2.1) (e := (takeC b).2.2) (Af b) hl rfl
    have h3 := takeC_3 b
    have hh : tailF 3 b = (if (takeC b).2.2 = 0 then ⟨0, 0, 0, 0, [], (takeC b).1, [], b.drop (takeC b).2.1⟩ else .no (takeC b).2.2) := rfl
    generalize takeC b = t at *
    obtain ⟨s, n, e⟩ := t
    dsimp only at *
    repeat' (first
    | ((show AL _ _ _ _ _ _ _ _; refine Ae Y ?_); (first
      | (show AOp _ _ ⟨_, .move _, _, _, _, _⟩ _ _ _; refine Am hG Y Y ?_)
      | (show AOp _ _ ⟨_, .assign _, _, _, _, _⟩ _ _ _; refine A9 hG Y Y ?_)
      | (show AOp _ _ ⟨_, .binOp _ _ _ _ _, _, _, _, _⟩ _ _ _; first | refine As hG Y Y Y Y Y (by omega) ?_ | refine Ar hG Y Y Y Y Y (by omega) ?_ | (refine Au hG Y Y Y Y Y (fun h => ?_) (fun h => ?_)))
      | (show AOp _ _ ⟨_, .load _ _, _, _, _, _⟩ _ _ _; first | refine Az 0 hG Y Y Y Y ?_ | refine Az 1 hG Y Y Y Y ?_)
      | (show AOp _ _ ⟨_, .slice _ _ _ _ _, _, _, _, _⟩ _ _ _; first | refine Bg hG Y Y Y Y Y Y Y (by omega) ?_ | refine Bn hG Y Y Y Y Y Y Y (by omega) ?_ | refine r_sl hG Y Y ?_)
      | (show AOp _ _ ⟨_, .store _ _ _, _, _, _, _⟩ _ _ _; first | refine Bb 0 hG Y Y Y Y Y Y Y ?_ | refine Bb 1 hG Y Y Y Y Y Y Y ?_)
      | (show AOp _ _ ⟨_, .call ⟨.value _, _, _⟩, _, _, _, _⟩ _ _ _; first | refine Bh Y Y Y Y Y (by apply hc <;> (first | assumption | omega | exact Ac _ _ | exact Af _ | exact Ah _ _ | exact Ax _ | rfl | (simp; omega))) ?_ | fail)
      | refine r_q hG Y Y Y ?_))
    | (show AL _ _ _ _ _ _ _ _; first | refine Bo Y Y Y ?_ | (refine Aw ?_; first | show AW _ _ _ _ _ _ | show ∃ x', _ < _ ∧ _)) | (show AW _ _ (.seq _ _) _ _ _; refine Ag ?_; intro Q1) | (show AW _ _ (.region _ _ false) _ _ _; refine Ad ?_; intro O1) | (show AW _ _ (.cond _ _ _) _ _ _; first | refine Aj Y ?_ | refine Ai Y ?_) | (show AW _ _ (.block _ _) _ _ _; refine A8 ?_; intro Q1) | (show AW _ _ (.ret) _ _ _; refine Av ?_; try dsimp only [Aq, Aa, Ap, Ab]) | fail)
    try dsimp (config := { zetaDelta := true }) only [Aq, Aa, Ap, Ab]
    apply ret_mut 0
    · exact Ak rfl Ba
    · rfl
    · exact .refl _
    · rfl
    by_cases he : e = 0
    · rw [if_pos he] at hh
      exact ⟨by rw [hh, he]; rfl, fun h => ⟨_, _, _, by rw [hh]; rfl, by rw [hh]; exact .nil 1, by rw [hh]; exact .refl _, by rw [hh]; exact .nil 1, rfl⟩⟩
    · rw [if_neg he] at hh
      exact ⟨by rw [hh]; rfl, fun h => by rw [hh] at h; exact absurd h he⟩
  · have hc := r_Take_is (x := sT b) (Af b) hl rfl
    have h3 := takeR_3 b
    have hh : tailF k b = (if (takeR b).2.2 = 0 then ⟨0, 0, 0, 0, [], [], (takeR b).1, b.drop (takeR b).2.1⟩ else .no (takeR b).2.2) := by rw [tailF, if_neg k1, if_neg k2, if_neg k3]
    generalize takeR b = t at *
    obtain ⟨s, n, e⟩ := t
    dsimp only at *
    repeat' (first
    | ((show AL _ _ _ _ _ _ _ _; refine Ae Y ?_); (first
      | (show AOp _ _ ⟨_, .move _, _, _, _, _⟩ _ _ _; refine Am hG Y Y ?_)
      | (show AOp _ _ ⟨_, .assign _, _, _, _, _⟩ _ _ _; refine A9 hG Y Y ?_)
      | (show AOp _ _ ⟨_, .binOp _ _ _ _ _, _, _, _, _⟩ _ _ _; first | refine As hG Y Y Y Y Y (by omega) ?_ | refine Ar hG Y Y Y Y Y (by omega) ?_ | (refine Au hG Y Y Y Y Y (fun h => ?_) (fun h => ?_)))
      | (show AOp _ _ ⟨_, .load _ _, _, _, _, _⟩ _ _ _; first | refine Az 0 hG Y Y Y Y ?_ | refine Az 1 hG Y Y Y Y ?_)
      | (show AOp _ _ ⟨_, .slice _ _ _ _ _, _, _, _, _⟩ _ _ _; first | refine Bg hG Y Y Y Y Y Y Y (by omega) ?_ | refine Bn hG Y Y Y Y Y Y Y (by omega) ?_ | refine r_sl hG Y Y ?_)
      | (show AOp _ _ ⟨_, .store _ _ _, _, _, _, _⟩ _ _ _; first | refine Bb 0 hG Y Y Y Y Y Y Y ?_ | refine Bb 1 hG Y Y Y Y Y Y Y ?_)
      | (show AOp _ _ ⟨_, .call ⟨.value _, _, _⟩, _, _, _, _⟩ _ _ _; first | refine Bh Y Y Y Y Y (by apply hc <;> (first | assumption | omega | exact Ac _ _ | exact Af _ | exact Ah _ _ | exact Ax _ | rfl | (simp; omega))) ?_ | fail)
      | refine r_q hG Y Y Y ?_))
    | (show AL _ _ _ _ _ _ _ _; first | refine Bo Y Y Y ?_ | (refine Aw ?_; first | show AW _ _ _ _ _ _ | show ∃ x', _ < _ ∧ _)) | (show AW _ _ (.seq _ _) _ _ _; refine Ag ?_; intro Q1) | (show AW _ _ (.region _ _ false) _ _ _; refine Ad ?_; intro O1) | (show AW _ _ (.cond _ _ _) _ _ _; first | refine Aj Y ?_ | refine Ai Y ?_) | (show AW _ _ (.block _ _) _ _ _; refine A8 ?_; intro Q1) | (show AW _ _ (.ret) _ _ _; refine Av ?_; try dsimp only [Aq, Aa, Ap, Ab]) | fail)
    try dsimp (config := { zetaDelta := true }) only [Aq, Aa, Ap, Ab]
    apply ret_mut 0
    · exact Ak rfl Ba
    · rfl
    · exact .refl _
    · rfl
    by_cases he : e = 0
    · rw [if_pos he] at hh
      exact ⟨by rw [hh, he]; rfl, fun h => ⟨_, _, _, by rw [hh]; rfl, by rw [hh]; exact .nil 1, by rw [hh]; exact .nil 1, by rw [hh]; exact .refl _, rfl⟩⟩
    · rw [if_neg he] at hh
      exact ⟨by rw [hh]; rfl, fun h => by rw [hh] at h; exact absurd h he⟩
end Go.Proofs.Ytemgmkoggnjgjaa
namespace Go.Proofs.Ytemgmkoggnjgjaa
open Go.Ts Go.Sets
set_option linter.unusedSimpArgs false
set_option linter.unusedVariables false
attribute [local irreducible] Go.Ts.AW Go.Ts.AOps Go.Ts.AL Go.Ts.AOp Go.Ts.ACalls Go.Ts.DL Go.Ts.DQ Go.Ts.EL
def mkO (h : HD) (t : TT) : OB := ⟨h.id, h.kind, h.df, h.ps, [], [], [], t.q, t.u, t.x, t.d, t.c, t.r⟩
def zeroO : OB := ⟨0, 0, 0, [], [], [], [], 0, 0, 0, [], [], []⟩
def takeO1 (b : List UInt8) : OB × Int :=
  if (Bq b).e ≠ 0 then (zeroO, (Bq b).e)
  else if (tailF (Bq b).kind (Bq b).rest).e ≠ 0 then (zeroO, (tailF (Bq b).kind (Bq b).rest).e)
  else if mayO1 (mkO (Bq b) (tailF (Bq b).kind (Bq b).rest)) && decide ((tailF (Bq b).kind (Bq b).rest).rest.length = 0) then (mkO (Bq b) (tailF (Bq b).kind (Bq b).rest), 0)
  else (zeroO, 2)
structure TkX where
  e : Int
  i : Nat
  p : Nat
  cs : List T
theorem zero_wk : Wk (.agg zeroCells) zeroO.t := Wk.aggL (wkc (.refl _) (wkc (.refl _) (wkc (.refl _) (wkc (.nil 2) (wkc (.nil 1) (wkc (.nil 1) (wkc (.nil 1) (wkc (.refl _) (wkc (.refl _) (wkc (.refl _) (wkc (.nil 1) (wkc (.nil 1) (wkc (.nil 1) trivial)))))))))))))
theorem headF1_ok {b : List UInt8} (h : (Bq b).e = 0) : 1 ≤ (Bq b).kind ∧ (Bq b).kind ≤ 4 ∧ (Bq b).id < 18446744073709551616 ∧ (Bq b).ps.length ≤ 16 ∧ (Bq b).rest.length ≤ b.length := by
  unfold Bq at h ⊢
  by_cases h1 : b.length < 1
  · rw [if_pos h1] at h; cases h
  rw [if_neg h1] at h ⊢
  by_cases h2 : beV (b.take 1) ≠ 1
  · rw [if_pos h2] at h; cases h
  rw [if_neg h2] at h ⊢
  by_cases h3 : (b.drop 1).length < 1
  · rw [if_pos h3] at h; cases h
  rw [if_neg h3] at h ⊢
  by_cases h4 : beV ((b.drop 1).take 1) < 1 ∨ 4 < beV ((b.drop 1).take 1)
  · rw [if_pos h4] at h; cases h
  rw [if_neg h4] at h ⊢
  by_cases h5 : ((b.drop 1).drop 1).length < 8
  · rw [if_pos h5] at h; cases h
  rw [if_neg h5] at h ⊢
  by_cases h6 : (Cb (((b.drop 1).drop 1).drop 8)).e ≠ 0
  · rw [if_pos h6] at h; exact absurd h h6
  rw [if_neg h6]
  have hsm := takeLab_small (((b.drop 1).drop 1).drop 8)
  have hb := beV_lt 8 (((b.drop 1).drop 1).take 8) (by rw [List.length_take]; omega)
  have hb2 : (2 : Nat) ^ (8 * 8) = 18446744073709551616 := by decide
  have hl3 : (((b.drop 1).drop 1).drop 8).length ≤ b.length := by rw [List.length_drop, List.length_drop, List.length_drop]; omega
  refine ⟨by dsimp only; omega, by dsimp only; omega, by dsimp only; omega, hsm.1, ?_⟩
  dsimp only
  rw [List.length_drop]; omega
theorem takeR_lens (b : List UInt8) : (takeR b).1.length ≤ 4 ∧ ∀ s ∈ (takeR b).1, s.length ≤ 16 := by
  unfold takeR
  split
  · exact ⟨by simp, fun s hs => absurd hs List.not_mem_nil⟩
  split
  · split
    · rename_i h; exact mayL_iff.1 h
    · exact ⟨by simp, fun s hs => absurd hs List.not_mem_nil⟩
  · exact ⟨by simp, fun s hs => absurd hs List.not_mem_nil⟩
theorem takeC_len (s : List UInt8) : (takeC s).1.length ≤ 16 := by
  by_cases h : (takeC s).2.2 = 0
  · have q : takeC s = ((takeC s).1, (takeC s).2.1, 0) := by rw [← h]
    exact (takeC_used q).2.1
  · unfold takeC at h ⊢
    split
    · simp
    split
    · simp
    split
    · rename_i h1 h2 h3; rw [if_neg h1, if_neg h2, if_pos h3] at h; exact absurd rfl h
    · simp
theorem tailF_fits (k : Nat) (b : List UInt8) : (tailF k b).d.length ≤ 65535 ∧ (tailF k b).c.length ≤ 16 ∧ (tailF k b).r.length ≤ 4 ∧ (∀ s ∈ (tailF k b).r, s.length ≤ 16) := by
  have no : ∀ e, (TT.no e).d.length ≤ 65535 ∧ (TT.no e).c.length ≤ 16 ∧ (TT.no e).r.length ≤ 4 ∧ (∀ s ∈ (TT.no e).r, s.length ≤ 16) := fun e => ⟨by simp [TT.no], by simp [TT.no], by simp [TT.no], fun s h => absurd h List.not_mem_nil⟩
  have nil : ∀ s ∈ ([] : List (List UInt8)), s.length ≤ 16 := fun s h => absurd h List.not_mem_nil
  unfold tailF
  split
  · unfold boxF
    split
    · exact no _
    split
    · exact no _
    split
    · exact no _
    · exact ⟨by simp, by simp, by simp, nil⟩
  split
  · split
    · refine ⟨?_, by simp, by simp, nil⟩
      rcases takeBE_e b with h | h
      · exact h.2.2.2
      · rw [h]; simp
    · exact no _
  split
  · split
    · exact ⟨by simp, takeC_len b, by simp, nil⟩
    · exact no _
  · split
    · exact ⟨by simp, by simp, (takeR_lens b).1, (takeR_lens b).2⟩
    · exact no _
theorem tailF_rest (k : Nat) (b : List UInt8) : (tailF k b).rest.length ≤ b.length := by
  unfold tailF
  split
  · unfold boxF
    split
    · exact Nat.zero_le _
    split
    · exact Nat.zero_le _
    split
    · exact Nat.zero_le _
    · simp only [List.length_drop]; omega
  split
  · split
    · simp only [List.length_drop]; omega
    · exact Nat.zero_le _
  split
  · split
    · simp only [List.length_drop]; omega
    · exact Nat.zero_le _
  · split
    · simp only [List.length_drop]; omega
    · exact Nat.zero_le _
theorem mkO_fits {b : List UInt8} (h : (Bq b).e = 0) (t : List UInt8) : (mkO (Bq b) (tailF (Bq b).kind t)).Fits := by
  obtain ⟨h1, h2, h3, h4, h7⟩ := headF1_ok h
  obtain ⟨t1, t2, t3, t4⟩ := tailF_fits (Bq b).kind t
  unfold mkO
  refine ⟨h3, Nat.zero_le _, Nat.zero_le _, Nat.zero_le _, ?_, ?_, ?_, fun s hs => ?_, ?_⟩ <;> unfold Cf <;> try dsimp only
  · omega
  · omega
  · omega
  · have := t4 s hs; omega
  · omega
set_option maxHeartbeats 1000000 in
theorem obj1_Take {x : T} {b : List UInt8} (hx : bytesT x = some b) (hl : b.length ≤ 4294967296) : Ts.Pure Try.prog 17 [x] (.tup [(takeO1 b).1.t, .int .i64 (takeO1 b).2]) := by
  refine Pure.weak (us := [sT b]) ?_ (wk1 (bytesT_wk hx))
  intro off
  refine By (N := 37) (rs := [.cell 2 42, .tmp 3]) hG Try.func17 rfl rfl rfl rfl rfl ?_
  repeat' (first
    | ((show AL _ _ _ _ _ _ _ _; refine Ae Y ?_); (first
      | (show AOp _ _ ⟨_, .move _, _, _, _, _⟩ _ _ _; refine Am hG Y Y ?_)
      | (show AOp _ _ ⟨_, .assign _, _, _, _, _⟩ _ _ _; refine A9 hG Y Y ?_)
      | (show AOp _ _ ⟨_, .call ⟨.builtin .len, _, _⟩, _, _, _, _⟩ _ _ _; first | refine A7 hG Y Y Y Y ?_ | refine Be hG Y Y Y Y Y ?_)
      | (show AOp _ _ ⟨_, .binOp _ _ _ _ _, _, _, _, _⟩ _ _ _; first | refine As hG Y Y Y Y Y (by omega) ?_ | refine Ar hG Y Y Y Y Y (by omega) ?_ | (refine Au hG Y Y Y Y Y (fun h => ?_) (fun h => ?_)))
      | (show AOp _ _ ⟨_, .load _ _, _, _, _, _⟩ _ _ _; first | refine Az 0 hG Y Y Y Y ?_ | refine Az 1 hG Y Y Y Y ?_ | refine Az 2 hG Y Y Y Y ?_)
      | (show AOp _ _ ⟨_, .pick _ _ _, _, _, _, _⟩ _ _ _; refine Bz hG Y Y Y ?_)
      | (show AOp _ _ ⟨_, .unOp _ _ _, _, _, _, _⟩ _ _ _; refine B5 hG Y Y Y ?_)
      | (show AOp _ _ ⟨_, .build _ _, _, _, _, _⟩ _ _ _; refine Cd hG Y Y Y Y Y ?_)
      | (show AOp _ _ ⟨_, .box _ _, _, _, _, _⟩ _ _ _; refine r_box hG Y Y Y (fun i => ?_))
      | (show AOp _ _ ⟨_, .alloc _, _, _, _, _⟩ _ _ _; refine Bt hG Y Y (fun i => ?_))
      | (show AOp _ _ ⟨_, .store _ _ _, _, _, _, _⟩ _ _ _; first | refine Bb 0 hG Y Y Y Y Y Y Y ?_ | refine Bb 1 hG Y Y Y Y Y Y Y ?_ | refine Bb 2 hG Y Y Y Y Y Y Y ?_)
      | refine r_q hG Y Y Y ?_))
    | (show AL _ _ _ _ _ _ _ _; first | refine Bo Y Y Y ?_ | (refine Aw ?_; first | show AW _ _ _ _ _ _ | show ∃ x', _ < _ ∧ _)) | (show AW _ _ (.seq _ _) _ _ _; refine Ag ?_; intro Q1) | (show AW _ _ (.region _ _ false) _ _ _; refine Ad ?_; intro O1) | (show AW _ _ (.cond _ _ _) _ _ _; first | refine Aj Y ?_ | refine Ai Y ?_) | (show AW _ _ (.skip) _ _ _; refine Al ?_; first | show AW _ _ _ _ _ _ | show ∃ x', _ < _ ∧ _) | (show AW _ _ (.goto _) _ _ _; refine Bu ?_; try dsimp only [Aq, Aa, Ap, Ab]) | (show AW _ _ (.ret) _ _ _; refine Av ?_; try dsimp only [Aq, Aa, Ap, Ab]) | fail)
  refine aw_scope' 0 rfl (X := { x : TkX // takeO1 b = (zeroO, x.e) }) (fun x => [(2, .ptr x.1.p 0), (5, .int .i64 x.1.e)]) (fun x => ⟨[(x.1.i, .cells x.1.cs), (x.1.p, .cells zeroCells)], [], off, none⟩) (fun _ => 0) ?_ ?_
  · rintro ⟨⟨e, i, p, cs⟩, hx⟩
    dsimp only at hx ⊢
    unfold zeroCells
    repeat' (first
    | ((show AL _ _ _ _ _ _ _ _; refine Ae Y ?_); (first
      | (show AOp _ _ ⟨_, .move _, _, _, _, _⟩ _ _ _; refine Am hG Y Y ?_)
      | (show AOp _ _ ⟨_, .assign _, _, _, _, _⟩ _ _ _; refine A9 hG Y Y ?_)
      | (show AOp _ _ ⟨_, .call ⟨.builtin .len, _, _⟩, _, _, _, _⟩ _ _ _; first | refine A7 hG Y Y Y Y ?_ | refine Be hG Y Y Y Y Y ?_)
      | (show AOp _ _ ⟨_, .binOp _ _ _ _ _, _, _, _, _⟩ _ _ _; first | refine As hG Y Y Y Y Y (by omega) ?_ | refine Ar hG Y Y Y Y Y (by omega) ?_ | (refine Au hG Y Y Y Y Y (fun h => ?_) (fun h => ?_)))
      | (show AOp _ _ ⟨_, .load _ _, _, _, _, _⟩ _ _ _; first | refine Az 0 hG Y Y Y Y ?_ | refine Az 1 hG Y Y Y Y ?_ | refine Az 2 hG Y Y Y Y ?_)
      | (show AOp _ _ ⟨_, .pick _ _ _, _, _, _, _⟩ _ _ _; refine Bz hG Y Y Y ?_)
      | (show AOp _ _ ⟨_, .unOp _ _ _, _, _, _, _⟩ _ _ _; refine B5 hG Y Y Y ?_)
      | (show AOp _ _ ⟨_, .build _ _, _, _, _, _⟩ _ _ _; refine Cd hG Y Y Y Y Y ?_)
      | (show AOp _ _ ⟨_, .box _ _, _, _, _, _⟩ _ _ _; refine r_box hG Y Y Y (fun i => ?_))
      | (show AOp _ _ ⟨_, .alloc _, _, _, _, _⟩ _ _ _; refine Bt hG Y Y (fun i => ?_))
      | (show AOp _ _ ⟨_, .store _ _ _, _, _, _, _⟩ _ _ _; first | refine Bb 0 hG Y Y Y Y Y Y Y ?_ | refine Bb 1 hG Y Y Y Y Y Y Y ?_ | refine Bb 2 hG Y Y Y Y Y Y Y ?_)
      | refine r_q hG Y Y Y ?_))
    | (show AL _ _ _ _ _ _ _ _; first | refine Bo Y Y Y ?_ | (refine Aw ?_; first | show AW _ _ _ _ _ _ | show ∃ x', _ < _ ∧ _)) | (show AW _ _ (.seq _ _) _ _ _; refine Ag ?_; intro Q1) | (show AW _ _ (.region _ _ false) _ _ _; refine Ad ?_; intro O1) | (show AW _ _ (.cond _ _ _) _ _ _; first | refine Aj Y ?_ | refine Ai Y ?_) | (show AW _ _ (.skip) _ _ _; refine Al ?_; first | show AW _ _ _ _ _ _ | show ∃ x', _ < _ ∧ _) | (show AW _ _ (.goto _) _ _ _; refine Bu ?_; try dsimp only [Aq, Aa, Ap, Ab]) | (show AW _ _ (.ret) _ _ _; refine Av ?_; try dsimp only [Aq, Aa, Ap, Ab]) | fail)
    refine Bc (res_cell 1 rfl rfl rfl (Ak rfl Ba)) ?_ rfl
    rw [hx]
    exact Wk.tupL (wk2 zero_wk (.refl _))
  · intro key
    have n1 := o1_head (b := b) hl
    repeat' (first
    | ((show AL _ _ _ _ _ _ _ _; refine Ae Y ?_); (first
      | (show AOp _ _ ⟨_, .move _, _, _, _, _⟩ _ _ _; refine Am hG Y Y ?_)
      | (show AOp _ _ ⟨_, .assign _, _, _, _, _⟩ _ _ _; refine A9 hG Y Y ?_)
      | (show AOp _ _ ⟨_, .call ⟨.builtin .len, _, _⟩, _, _, _, _⟩ _ _ _; first | refine A7 hG Y Y Y Y ?_ | refine Be hG Y Y Y Y Y ?_)
      | (show AOp _ _ ⟨_, .binOp _ _ _ _ _, _, _, _, _⟩ _ _ _; first | refine As hG Y Y Y Y Y (by omega) ?_ | refine Ar hG Y Y Y Y Y (by omega) ?_ | (refine Au hG Y Y Y Y Y (fun h => ?_) (fun h => ?_)))
      | (show AOp _ _ ⟨_, .load _ _, _, _, _, _⟩ _ _ _; first | refine Az 0 hG Y Y Y Y ?_ | refine Az 1 hG Y Y Y Y ?_ | refine Az 2 hG Y Y Y Y ?_)
      | (show AOp _ _ ⟨_, .pick _ _ _, _, _, _, _⟩ _ _ _; refine Bz hG Y Y Y ?_)
      | (show AOp _ _ ⟨_, .unOp _ _ _, _, _, _, _⟩ _ _ _; refine B5 hG Y Y Y ?_)
      | (show AOp _ _ ⟨_, .build _ _, _, _, _, _⟩ _ _ _; refine Cd hG Y Y Y Y Y ?_)
      | (show AOp _ _ ⟨_, .box _ _, _, _, _, _⟩ _ _ _; refine r_box hG Y Y Y (fun i => ?_))
      | (show AOp _ _ ⟨_, .alloc _, _, _, _, _⟩ _ _ _; refine Bt hG Y Y (fun i => ?_))
      | (show AOp _ _ ⟨_, .store _ _ _, _, _, _, _⟩ _ _ _; first | refine Bb 0 hG Y Y Y Y Y Y Y ?_ | refine Bb 1 hG Y Y Y Y Y Y Y ?_ | refine Bb 2 hG Y Y Y Y Y Y Y ?_)
      | refine r_q hG Y Y Y ?_))
    | (show AL _ _ _ _ _ _ _ _; first | refine Bo Y Y Y ?_ | (refine Aw ?_; first | show AW _ _ _ _ _ _ | show ∃ x', _ < _ ∧ _)) | (show AW _ _ (.seq _ _) _ _ _; refine Ag ?_; intro Q1) | (show AW _ _ (.region _ _ false) _ _ _; refine Ad ?_; intro O1) | (show AW _ _ (.cond _ _ _) _ _ _; first | refine Aj Y ?_ | refine Ai Y ?_) | (show AW _ _ (.skip) _ _ _; refine Al ?_; first | show AW _ _ _ _ _ _ | show ∃ x', _ < _ ∧ _) | (show AW _ _ (.goto _) _ _ _; refine Bu ?_; try dsimp only [Aq, Aa, Ap, Ab]) | (show AW _ _ (.ret) _ _ _; refine Av ?_; try dsimp only [Aq, Aa, Ap, Ab]) | fail)
    refine Ae rfl (r_mut rfl rfl rfl rfl rfl (.refl _) n1 (fun r cs' hr => ?_))
    obtain ⟨rfl, hr⟩ := hr
    by_cases he : (Bq b).e ≠ 0
    · have hT : takeO1 b = (zeroO, (Bq b).e) := by rw [takeO1, if_pos he]
      repeat' (first
    | ((show AL _ _ _ _ _ _ _ _; refine Ae Y ?_); (first
      | (show AOp _ _ ⟨_, .move _, _, _, _, _⟩ _ _ _; refine Am hG Y Y ?_)
      | (show AOp _ _ ⟨_, .assign _, _, _, _, _⟩ _ _ _; refine A9 hG Y Y ?_)
      | (show AOp _ _ ⟨_, .call ⟨.builtin .len, _, _⟩, _, _, _, _⟩ _ _ _; first | refine A7 hG Y Y Y Y ?_ | refine Be hG Y Y Y Y Y ?_)
      | (show AOp _ _ ⟨_, .binOp _ _ _ _ _, _, _, _, _⟩ _ _ _; first | refine As hG Y Y Y Y Y (by omega) ?_ | refine Ar hG Y Y Y Y Y (by omega) ?_ | (refine Au hG Y Y Y Y Y (fun h => ?_) (fun h => ?_)))
      | (show AOp _ _ ⟨_, .load _ _, _, _, _, _⟩ _ _ _; first | refine Az 0 hG Y Y Y Y ?_ | refine Az 1 hG Y Y Y Y ?_ | refine Az 2 hG Y Y Y Y ?_)
      | (show AOp _ _ ⟨_, .pick _ _ _, _, _, _, _⟩ _ _ _; refine Bz hG Y Y Y ?_)
      | (show AOp _ _ ⟨_, .unOp _ _ _, _, _, _, _⟩ _ _ _; refine B5 hG Y Y Y ?_)
      | (show AOp _ _ ⟨_, .build _ _, _, _, _, _⟩ _ _ _; refine Cd hG Y Y Y Y Y ?_)
      | (show AOp _ _ ⟨_, .box _ _, _, _, _, _⟩ _ _ _; refine r_box hG Y Y Y (fun i => ?_))
      | (show AOp _ _ ⟨_, .alloc _, _, _, _, _⟩ _ _ _; refine Bt hG Y Y (fun i => ?_))
      | (show AOp _ _ ⟨_, .store _ _ _, _, _, _, _⟩ _ _ _; first | refine Bb 0 hG Y Y Y Y Y Y Y ?_ | refine Bb 1 hG Y Y Y Y Y Y Y ?_ | refine Bb 2 hG Y Y Y Y Y Y Y ?_)
      | refine r_q hG Y Y Y ?_))
    | (show AL _ _ _ _ _ _ _ _; first | refine Bo Y Y Y ?_ | (refine Aw ?_; first | show AW _ _ _ _ _ _ | show ∃ x', _ < _ ∧ _)) | (show AW _ _ (.seq _ _) _ _ _; refine Ag ?_; intro Q1) | (show AW _ _ (.region _ _ false) _ _ _; refine Ad ?_; intro O1) | (show AW _ _ (.cond _ _ _) _ _ _; first | refine Aj Y ?_ | refine Ai Y ?_) | (show AW _ _ (.skip) _ _ _; refine Al ?_; first | show AW _ _ _ _ _ _ | show ∃ x', _ < _ ∧ _) | (show AW _ _ (.goto _) _ _ _; refine Bu ?_; try dsimp only [Aq, Aa, Ap, Ab]) | (show AW _ _ (.ret) _ _ _; refine Av ?_; try dsimp only [Aq, Aa, Ap, Ab]) | fail)
      dsimp (config := { zetaDelta := true }) only [Aq, Aa, Ap, Ab]
      refine ⟨rfl, ⟨⟨_, _, _, _⟩, hT⟩, ?_, .refl _⟩
      exact .cons rfl (.cons rfl (.nil _))
    have he0 : (Bq b).e = 0 := by omega
    have hr := hr he0
    subst hr
    obtain ⟨q1, q2, q3, q4, q7⟩ := headF1_ok he0
    have n2 := o1_rest (b := (Bq b).rest) (k := (Bq b).kind) (A0 := .int .u64 (Bq b).id) (A2 := bT (Bq b).df) (A3 := .sl 2 .no ((Bq b).ps.map pT)) (A4 := .nilsl) (A5 := .nilsl) (A6 := .nilsl) (by omega) ⟨q1, q2⟩
    repeat' (first
    | ((show AL _ _ _ _ _ _ _ _; refine Ae Y ?_); (first
      | (show AOp _ _ ⟨_, .move _, _, _, _, _⟩ _ _ _; refine Am hG Y Y ?_)
      | (show AOp _ _ ⟨_, .assign _, _, _, _, _⟩ _ _ _; refine A9 hG Y Y ?_)
      | (show AOp _ _ ⟨_, .call ⟨.builtin .len, _, _⟩, _, _, _, _⟩ _ _ _; first | refine A7 hG Y Y Y Y ?_ | refine Be hG Y Y Y Y Y ?_)
      | (show AOp _ _ ⟨_, .binOp _ _ _ _ _, _, _, _, _⟩ _ _ _; first | refine As hG Y Y Y Y Y (by omega) ?_ | refine Ar hG Y Y Y Y Y (by omega) ?_ | (refine Au hG Y Y Y Y Y (fun h => ?_) (fun h => ?_)))
      | (show AOp _ _ ⟨_, .load _ _, _, _, _, _⟩ _ _ _; first | refine Az 0 hG Y Y Y Y ?_ | refine Az 1 hG Y Y Y Y ?_ | refine Az 2 hG Y Y Y Y ?_)
      | (show AOp _ _ ⟨_, .pick _ _ _, _, _, _, _⟩ _ _ _; refine Bz hG Y Y Y ?_)
      | (show AOp _ _ ⟨_, .unOp _ _ _, _, _, _, _⟩ _ _ _; refine B5 hG Y Y Y ?_)
      | (show AOp _ _ ⟨_, .build _ _, _, _, _, _⟩ _ _ _; refine Cd hG Y Y Y Y Y ?_)
      | (show AOp _ _ ⟨_, .box _ _, _, _, _, _⟩ _ _ _; refine r_box hG Y Y Y (fun i => ?_))
      | (show AOp _ _ ⟨_, .alloc _, _, _, _, _⟩ _ _ _; refine Bt hG Y Y (fun i => ?_))
      | (show AOp _ _ ⟨_, .store _ _ _, _, _, _, _⟩ _ _ _; first | refine Bb 0 hG Y Y Y Y Y Y Y ?_ | refine Bb 1 hG Y Y Y Y Y Y Y ?_ | refine Bb 2 hG Y Y Y Y Y Y Y ?_)
      | refine r_q hG Y Y Y ?_))
    | (show AL _ _ _ _ _ _ _ _; first | refine Bo Y Y Y ?_ | (refine Aw ?_; first | show AW _ _ _ _ _ _ | show ∃ x', _ < _ ∧ _)) | (show AW _ _ (.seq _ _) _ _ _; refine Ag ?_; intro Q1) | (show AW _ _ (.region _ _ false) _ _ _; refine Ad ?_; intro O1) | (show AW _ _ (.cond _ _ _) _ _ _; first | refine Aj Y ?_ | refine Ai Y ?_) | (show AW _ _ (.skip) _ _ _; refine Al ?_; first | show AW _ _ _ _ _ _ | show ∃ x', _ < _ ∧ _) | (show AW _ _ (.goto _) _ _ _; refine Bu ?_; try dsimp only [Aq, Aa, Ap, Ab]) | (show AW _ _ (.ret) _ _ _; refine Av ?_; try dsimp only [Aq, Aa, Ap, Ab]) | fail)
    refine Ae rfl (r_mut rfl rfl rfl rfl rfl (.refl _) n2 (fun r cs' hr => ?_))
    obtain ⟨rfl, hr⟩ := hr
    by_cases hte : (tailF (Bq b).kind (Bq b).rest).e ≠ 0
    · have hT : takeO1 b = (zeroO, (tailF (Bq b).kind (Bq b).rest).e) := by rw [takeO1, if_neg he, if_pos hte]
      repeat' (first
    | ((show AL _ _ _ _ _ _ _ _; refine Ae Y ?_); (first
      | (show AOp _ _ ⟨_, .move _, _, _, _, _⟩ _ _ _; refine Am hG Y Y ?_)
      | (show AOp _ _ ⟨_, .assign _, _, _, _, _⟩ _ _ _; refine A9 hG Y Y ?_)
      | (show AOp _ _ ⟨_, .call ⟨.builtin .len, _, _⟩, _, _, _, _⟩ _ _ _; first | refine A7 hG Y Y Y Y ?_ | refine Be hG Y Y Y Y Y ?_)
      | (show AOp _ _ ⟨_, .binOp _ _ _ _ _, _, _, _, _⟩ _ _ _; first | refine As hG Y Y Y Y Y (by omega) ?_ | refine Ar hG Y Y Y Y Y (by omega) ?_ | (refine Au hG Y Y Y Y Y (fun h => ?_) (fun h => ?_)))
      | (show AOp _ _ ⟨_, .load _ _, _, _, _, _⟩ _ _ _; first | refine Az 0 hG Y Y Y Y ?_ | refine Az 1 hG Y Y Y Y ?_ | refine Az 2 hG Y Y Y Y ?_)
      | (show AOp _ _ ⟨_, .pick _ _ _, _, _, _, _⟩ _ _ _; refine Bz hG Y Y Y ?_)
      | (show AOp _ _ ⟨_, .unOp _ _ _, _, _, _, _⟩ _ _ _; refine B5 hG Y Y Y ?_)
      | (show AOp _ _ ⟨_, .build _ _, _, _, _, _⟩ _ _ _; refine Cd hG Y Y Y Y Y ?_)
      | (show AOp _ _ ⟨_, .box _ _, _, _, _, _⟩ _ _ _; refine r_box hG Y Y Y (fun i => ?_))
      | (show AOp _ _ ⟨_, .alloc _, _, _, _, _⟩ _ _ _; refine Bt hG Y Y (fun i => ?_))
      | (show AOp _ _ ⟨_, .store _ _ _, _, _, _, _⟩ _ _ _; first | refine Bb 0 hG Y Y Y Y Y Y Y ?_ | refine Bb 1 hG Y Y Y Y Y Y Y ?_ | refine Bb 2 hG Y Y Y Y Y Y Y ?_)
      | refine r_q hG Y Y Y ?_))
    | (show AL _ _ _ _ _ _ _ _; first | refine Bo Y Y Y ?_ | (refine Aw ?_; first | show AW _ _ _ _ _ _ | show ∃ x', _ < _ ∧ _)) | (show AW _ _ (.seq _ _) _ _ _; refine Ag ?_; intro Q1) | (show AW _ _ (.region _ _ false) _ _ _; refine Ad ?_; intro O1) | (show AW _ _ (.cond _ _ _) _ _ _; first | refine Aj Y ?_ | refine Ai Y ?_) | (show AW _ _ (.skip) _ _ _; refine Al ?_; first | show AW _ _ _ _ _ _ | show ∃ x', _ < _ ∧ _) | (show AW _ _ (.goto _) _ _ _; refine Bu ?_; try dsimp only [Aq, Aa, Ap, Ab]) | (show AW _ _ (.ret) _ _ _; refine Av ?_; try dsimp only [Aq, Aa, Ap, Ab]) | fail)
      dsimp (config := { zetaDelta := true }) only [Aq, Aa, Ap, Ab]
      refine ⟨rfl, ⟨⟨_, _, _, _⟩, hT⟩, ?_, .refl _⟩
      exact .cons rfl (.cons rfl (.nil _))
    have hte0 : (tailF (Bq b).kind (Bq b).rest).e = 0 := by omega
    obtain ⟨d, c, r, rfl, hd, hc, hr', hsc⟩ := hr hte0
    simp only [Bool.and_eq_true] at hsc
    obtain ⟨⟨sc1, sc2⟩, sc3⟩ := hsc
    have hfit := mkO_fits he0 (Bq b).rest
    have hT1 : takeO1 b = if mayO1 (mkO (Bq b) (tailF (Bq b).kind (Bq b).rest)) && decide ((tailF (Bq b).kind (Bq b).rest).rest.length = 0) then (mkO (Bq b) (tailF (Bq b).kind (Bq b).rest), 0) else (zeroO, 2) := by rw [takeO1, if_neg he, if_neg hte]
    have hbl : (tailF (Bq b).kind (Bq b).rest).rest.length ≤ (Bq b).rest.length := tailF_rest _ _
    generalize hTT : tailF (Bq b).kind (Bq b).rest = tt at *
    generalize hHH : Bq b = hh at *
    have hwk : Wk (.agg [.int .u64 hh.id, .int .i64 hh.kind, bT hh.df, .sl 2 .no (hh.ps.map pT), .nilsl, .nilsl, .nilsl, .int .i64 tt.q, .int .i64 tt.u, .int .i64 tt.x, d, c, r]) (mkO hh tt).t :=
      Wk.aggL (wkc (.refl _) (wkc (.refl _) (wkc (.refl _) (wkc (.refl _) (wkc (.nil 1) (wkc (.nil 1) (wkc (.nil 1) (wkc (.refl _) (wkc (.refl _) (wkc (.refl _) (wkc hd (wkc hc (wkc hr' trivial)))))))))))))
    have hM := Pure.weak (obj1_may hfit) (wk1 hwk)
    cases hm : mayO1 (mkO hh tt) <;> rw [hm] at hM hT1
    · have hT : takeO1 b = (zeroO, 2) := hT1
      repeat' (first
    | ((show AL _ _ _ _ _ _ _ _; refine Ae Y ?_); (first
      | (show AOp _ _ ⟨_, .move _, _, _, _, _⟩ _ _ _; refine Am hG Y Y ?_)
      | (show AOp _ _ ⟨_, .assign _, _, _, _, _⟩ _ _ _; refine A9 hG Y Y ?_)
      | (show AOp _ _ ⟨_, .call ⟨.builtin .len, _, _⟩, _, _, _, _⟩ _ _ _; first | refine A7 hG Y Y Y Y ?_ | refine Be hG Y Y Y Y Y ?_)
      | (show AOp _ _ ⟨_, .binOp _ _ _ _ _, _, _, _, _⟩ _ _ _; first | refine As hG Y Y Y Y Y (by omega) ?_ | refine Ar hG Y Y Y Y Y (by omega) ?_ | (refine Au hG Y Y Y Y Y (fun h => ?_) (fun h => ?_)))
      | (show AOp _ _ ⟨_, .load _ _, _, _, _, _⟩ _ _ _; first | refine Az 0 hG Y Y Y Y ?_ | refine Az 1 hG Y Y Y Y ?_ | refine Az 2 hG Y Y Y Y ?_)
      | (show AOp _ _ ⟨_, .pick _ _ _, _, _, _, _⟩ _ _ _; refine Bz hG Y Y Y ?_)
      | (show AOp _ _ ⟨_, .unOp _ _ _, _, _, _, _⟩ _ _ _; refine B5 hG Y Y Y ?_)
      | (show AOp _ _ ⟨_, .build _ _, _, _, _, _⟩ _ _ _; refine Cd hG Y Y Y Y Y ?_)
      | (show AOp _ _ ⟨_, .box _ _, _, _, _, _⟩ _ _ _; refine r_box hG Y Y Y (fun i => ?_))
      | (show AOp _ _ ⟨_, .alloc _, _, _, _, _⟩ _ _ _; refine Bt hG Y Y (fun i => ?_))
      | (show AOp _ _ ⟨_, .store _ _ _, _, _, _, _⟩ _ _ _; first | refine Bb 0 hG Y Y Y Y Y Y Y ?_ | refine Bb 1 hG Y Y Y Y Y Y Y ?_ | refine Bb 2 hG Y Y Y Y Y Y Y ?_)
      | (show AOp _ _ ⟨_, .call ⟨.value _, _, _⟩, _, _, _, _⟩ _ _ _; first | refine Bh Y Y Y Y Y (by apply hM <;> (first | assumption | omega | exact Ac _ _ | exact Af _ | exact Ah _ _ | exact Ax _ | rfl | (simp; omega))) ?_ | fail)
      | refine r_q hG Y Y Y ?_))
    | (show AL _ _ _ _ _ _ _ _; first | refine Bo Y Y Y ?_ | (refine Aw ?_; first | show AW _ _ _ _ _ _ | show ∃ x', _ < _ ∧ _)) | (show AW _ _ (.seq _ _) _ _ _; refine Ag ?_; intro Q1) | (show AW _ _ (.region _ _ false) _ _ _; refine Ad ?_; intro O1) | (show AW _ _ (.cond _ _ _) _ _ _; first | refine Aj Y ?_ | refine Ai Y ?_) | (show AW _ _ (.skip) _ _ _; refine Al ?_; first | show AW _ _ _ _ _ _ | show ∃ x', _ < _ ∧ _) | (show AW _ _ (.goto _) _ _ _; refine Bu ?_; try dsimp only [Aq, Aa, Ap, Ab]) | (show AW _ _ (.ret) _ _ _; refine Av ?_; try dsimp only [Aq, Aa, Ap, Ab]) | fail)
      dsimp (config := { zetaDelta := true }) only [Aq, Aa, Ap, Ab]
      refine ⟨rfl, ⟨⟨_, _, _, _⟩, hT⟩, ?_, .refl _⟩
      exact .cons rfl (.cons rfl (.nil _))
    by_cases hz : tt.rest.length = 0
    · have hT : takeO1 b = (mkO hh tt, 0) := by rw [hT1, decide_eq_true hz]; rfl
      have hsc : (notRaw (.agg [.int .u64 hh.id, .int .i64 hh.kind, bT hh.df, .sl 2 .no (hh.ps.map pT), .nilsl, .nilsl, .nilsl, .int .i64 tt.q, .int .i64 tt.u, .int .i64 tt.x, d, c, r]) && (T.agg [.int .u64 hh.id, .int .i64 hh.kind, bT hh.df, .sl 2 .no (hh.ps.map pT), .nilsl, .nilsl, .nilsl, .int .i64 tt.q, .int .i64 tt.u, .int .i64 tt.x, d, c, r]).cells.all T.scalar) = true := by
        simp only [notRaw, T.cells, List.all_cons, List.all_nil, sc1, sc2, sc3]; rfl
      repeat' (first
    | ((show AL _ _ _ _ _ _ _ _; refine Ae Y ?_); (first
      | (show AOp _ _ ⟨_, .move _, _, _, _, _⟩ _ _ _; refine Am hG Y Y ?_)
      | (show AOp _ _ ⟨_, .assign _, _, _, _, _⟩ _ _ _; refine A9 hG Y Y ?_)
      | (show AOp _ _ ⟨_, .call ⟨.builtin .len, _, _⟩, _, _, _, _⟩ _ _ _; first | refine A7 hG Y Y Y Y ?_ | refine Be hG Y Y Y Y Y ?_)
      | (show AOp _ _ ⟨_, .binOp _ _ _ _ _, _, _, _, _⟩ _ _ _; first | refine As hG Y Y Y Y Y (by omega) ?_ | refine Ar hG Y Y Y Y Y (by omega) ?_ | (refine Au hG Y Y Y Y Y (fun h => ?_) (fun h => ?_)))
      | (show AOp _ _ ⟨_, .load _ _, _, _, _, _⟩ _ _ _; first | refine Az 0 hG Y Y Y Y ?_ | refine Az 1 hG Y Y Y Y ?_ | refine Az 2 hG Y Y Y Y ?_)
      | (show AOp _ _ ⟨_, .pick _ _ _, _, _, _, _⟩ _ _ _; refine Bz hG Y Y Y ?_)
      | (show AOp _ _ ⟨_, .unOp _ _ _, _, _, _, _⟩ _ _ _; refine B5 hG Y Y Y ?_)
      | (show AOp _ _ ⟨_, .build _ _, _, _, _, _⟩ _ _ _; refine Cd hG Y Y Y Y Y ?_)
      | (show AOp _ _ ⟨_, .box _ _, _, _, _, _⟩ _ _ _; refine r_box hG Y Y Y (fun i => ?_))
      | (show AOp _ _ ⟨_, .alloc _, _, _, _, _⟩ _ _ _; refine Bt hG Y Y (fun i => ?_))
      | (show AOp _ _ ⟨_, .store _ _ _, _, _, _, _⟩ _ _ _; first | refine Bb 0 hG Y Y Y Y Y Y Y ?_ | refine Bb 1 hG Y Y Y Y Y Y Y ?_ | refine Bb 2 hG Y Y Y Y Y Y Y ?_)
      | (show AOp _ _ ⟨_, .call ⟨.value _, _, _⟩, _, _, _, _⟩ _ _ _; first | refine Bh Y Y Y Y Y (by apply hM <;> (first | assumption | omega | exact Ac _ _ | exact Af _ | exact Ah _ _ | exact Ax _ | rfl | (simp; omega))) ?_ | fail)
      | refine r_q hG Y Y Y ?_))
    | (show AL _ _ _ _ _ _ _ _; first | refine Bo Y Y Y ?_ | (refine Aw ?_; first | show AW _ _ _ _ _ _ | show ∃ x', _ < _ ∧ _)) | (show AW _ _ (.seq _ _) _ _ _; refine Ag ?_; intro Q1) | (show AW _ _ (.region _ _ false) _ _ _; refine Ad ?_; intro O1) | (show AW _ _ (.cond _ _ _) _ _ _; first | refine Aj Y ?_ | refine Ai Y ?_) | (show AW _ _ (.skip) _ _ _; refine Al ?_; first | show AW _ _ _ _ _ _ | show ∃ x', _ < _ ∧ _) | (show AW _ _ (.goto _) _ _ _; refine Bu ?_; try dsimp only [Aq, Aa, Ap, Ab]) | (show AW _ _ (.ret) _ _ _; refine Av ?_; try dsimp only [Aq, Aa, Ap, Ab]) | fail)
      refine Ae rfl (Bb 1 hG rfl rfl rfl hsc rfl rfl rfl ?_)
      repeat' (first
    | ((show AL _ _ _ _ _ _ _ _; refine Ae Y ?_); (first
      | (show AOp _ _ ⟨_, .move _, _, _, _, _⟩ _ _ _; refine Am hG Y Y ?_)
      | (show AOp _ _ ⟨_, .assign _, _, _, _, _⟩ _ _ _; refine A9 hG Y Y ?_)
      | (show AOp _ _ ⟨_, .call ⟨.builtin .len, _, _⟩, _, _, _, _⟩ _ _ _; first | refine A7 hG Y Y Y Y ?_ | refine Be hG Y Y Y Y Y ?_)
      | (show AOp _ _ ⟨_, .binOp _ _ _ _ _, _, _, _, _⟩ _ _ _; first | refine As hG Y Y Y Y Y (by omega) ?_ | refine Ar hG Y Y Y Y Y (by omega) ?_ | (refine Au hG Y Y Y Y Y (fun h => ?_) (fun h => ?_)))
      | (show AOp _ _ ⟨_, .load _ _, _, _, _, _⟩ _ _ _; first | refine Az 0 hG Y Y Y Y ?_ | refine Az 1 hG Y Y Y Y ?_ | refine Az 2 hG Y Y Y Y ?_)
      | (show AOp _ _ ⟨_, .pick _ _ _, _, _, _, _⟩ _ _ _; refine Bz hG Y Y Y ?_)
      | (show AOp _ _ ⟨_, .unOp _ _ _, _, _, _, _⟩ _ _ _; refine B5 hG Y Y Y ?_)
      | (show AOp _ _ ⟨_, .build _ _, _, _, _, _⟩ _ _ _; refine Cd hG Y Y Y Y Y ?_)
      | (show AOp _ _ ⟨_, .box _ _, _, _, _, _⟩ _ _ _; refine r_box hG Y Y Y (fun i => ?_))
      | (show AOp _ _ ⟨_, .alloc _, _, _, _, _⟩ _ _ _; refine Bt hG Y Y (fun i => ?_))
      | (show AOp _ _ ⟨_, .store _ _ _, _, _, _, _⟩ _ _ _; first | refine Bb 0 hG Y Y Y Y Y Y Y ?_ | refine Bb 1 hG Y Y Y Y Y Y Y ?_ | refine Bb 2 hG Y Y Y Y Y Y Y ?_)
      | refine r_q hG Y Y Y ?_))
    | (show AL _ _ _ _ _ _ _ _; first | refine Bo Y Y Y ?_ | (refine Aw ?_; first | show AW _ _ _ _ _ _ | show ∃ x', _ < _ ∧ _)) | (show AW _ _ (.seq _ _) _ _ _; refine Ag ?_; intro Q1) | (show AW _ _ (.region _ _ false) _ _ _; refine Ad ?_; intro O1) | (show AW _ _ (.cond _ _ _) _ _ _; first | refine Aj Y ?_ | refine Ai Y ?_) | (show AW _ _ (.skip) _ _ _; refine Al ?_; first | show AW _ _ _ _ _ _ | show ∃ x', _ < _ ∧ _) | (show AW _ _ (.goto _) _ _ _; refine Bu ?_; try dsimp only [Aq, Aa, Ap, Ab]) | (show AW _ _ (.ret) _ _ _; refine Av ?_; try dsimp only [Aq, Aa, Ap, Ab]) | fail)
      dsimp (config := { zetaDelta := true }) only [Aq, Aa, Ap, Ab]
      refine Bc (res_cell 1 rfl rfl rfl (Ak rfl Ba)) ?_ rfl
      rw [hT]
      exact Wk.tupL (wk2 hwk (.refl _))
    · have hT : takeO1 b = (zeroO, 2) := by rw [hT1, decide_eq_false hz]; rfl
      repeat' (first
    | ((show AL _ _ _ _ _ _ _ _; refine Ae Y ?_); (first
      | (show AOp _ _ ⟨_, .move _, _, _, _, _⟩ _ _ _; refine Am hG Y Y ?_)
      | (show AOp _ _ ⟨_, .assign _, _, _, _, _⟩ _ _ _; refine A9 hG Y Y ?_)
      | (show AOp _ _ ⟨_, .call ⟨.builtin .len, _, _⟩, _, _, _, _⟩ _ _ _; first | refine A7 hG Y Y Y Y ?_ | refine Be hG Y Y Y Y Y ?_)
      | (show AOp _ _ ⟨_, .binOp _ _ _ _ _, _, _, _, _⟩ _ _ _; first | refine As hG Y Y Y Y Y (by omega) ?_ | refine Ar hG Y Y Y Y Y (by omega) ?_ | (refine Au hG Y Y Y Y Y (fun h => ?_) (fun h => ?_)))
      | (show AOp _ _ ⟨_, .load _ _, _, _, _, _⟩ _ _ _; first | refine Az 0 hG Y Y Y Y ?_ | refine Az 1 hG Y Y Y Y ?_ | refine Az 2 hG Y Y Y Y ?_)
      | (show AOp _ _ ⟨_, .pick _ _ _, _, _, _, _⟩ _ _ _; refine Bz hG Y Y Y ?_)
      | (show AOp _ _ ⟨_, .unOp _ _ _, _, _, _, _⟩ _ _ _; refine B5 hG Y Y Y ?_)
      | (show AOp _ _ ⟨_, .build _ _, _, _, _, _⟩ _ _ _; refine Cd hG Y Y Y Y Y ?_)
      | (show AOp _ _ ⟨_, .box _ _, _, _, _, _⟩ _ _ _; refine r_box hG Y Y Y (fun i => ?_))
      | (show AOp _ _ ⟨_, .alloc _, _, _, _, _⟩ _ _ _; refine Bt hG Y Y (fun i => ?_))
      | (show AOp _ _ ⟨_, .store _ _ _, _, _, _, _⟩ _ _ _; first | refine Bb 0 hG Y Y Y Y Y Y Y ?_ | refine Bb 1 hG Y Y Y Y Y Y Y ?_ | refine Bb 2 hG Y Y Y Y Y Y Y ?_)
      | (show AOp _ _ ⟨_, .call ⟨.value _, _, _⟩, _, _, _, _⟩ _ _ _; first | refine Bh Y Y Y Y Y (by apply hM <;> (first | assumption | omega | exact Ac _ _ | exact Af _ | exact Ah _ _ | exact Ax _ | rfl | (simp; omega))) ?_ | fail)
      | refine r_q hG Y Y Y ?_))
    | (show AL _ _ _ _ _ _ _ _; first | refine Bo Y Y Y ?_ | (refine Aw ?_; first | show AW _ _ _ _ _ _ | show ∃ x', _ < _ ∧ _)) | (show AW _ _ (.seq _ _) _ _ _; refine Ag ?_; intro Q1) | (show AW _ _ (.region _ _ false) _ _ _; refine Ad ?_; intro O1) | (show AW _ _ (.cond _ _ _) _ _ _; first | refine Aj Y ?_ | refine Ai Y ?_) | (show AW _ _ (.skip) _ _ _; refine Al ?_; first | show AW _ _ _ _ _ _ | show ∃ x', _ < _ ∧ _) | (show AW _ _ (.goto _) _ _ _; refine Bu ?_; try dsimp only [Aq, Aa, Ap, Ab]) | (show AW _ _ (.ret) _ _ _; refine Av ?_; try dsimp only [Aq, Aa, Ap, Ab]) | fail)
      dsimp (config := { zetaDelta := true }) only [Aq, Aa, Ap, Ab]
      refine ⟨rfl, ⟨⟨_, _, _, _⟩, hT⟩, ?_, .refl _⟩
      exact .cons rfl (.cons rfl (.nil _))
end Go.Proofs.Ytemgmkoggnjgjaa
namespace Go.Proofs.Ytemgmkoggnjgjaa
open Go.Ts Go.Sets
set_option linter.unusedSimpArgs false
set_option linter.unusedVariables false
def tl (o : OB) : List UInt8 := tailB o []
theorem tailB_tl (o : OB) (b : List UInt8) : tailB o b = b ++ tl o := by
  unfold tl tailB
  split
  · simp
  split
  · simp [putBs]
  split
  · rw [putC_eq]
  · rw [putR_eq, putR_eq []]; simp
def norm (o : OB) : OB :=
  if o.kind = 1 then ⟨o.id, o.kind, o.df, o.ps, [], [], [], o.q, o.u, o.x, [], [], []⟩
  else if o.kind = 2 then ⟨o.id, o.kind, o.df, o.ps, [], [], [], 0, 0, 0, o.d, [], []⟩
  else if o.kind = 3 then ⟨o.id, o.kind, o.df, o.ps, [], [], [], 0, 0, 0, [], o.c, []⟩
  else ⟨o.id, o.kind, o.df, o.ps, [], [], [], 0, 0, 0, [], [], o.r⟩
theorem takeC_putC' {a : List UInt16} (ha : mayC a = true) (t : List UInt8) : takeC (putC [] a ++ t) = (a, (putC [] a).length, 0) := by rw [takeC_putC ha, putC_len]
theorem box_put {q u x : Nat} (hq : q < 65536) (hu : u < 65536) (hx : x < 65536) (t : List UInt8) : boxF (putI q 2 ++ putI u 2 ++ putI x 2 ++ t) = ⟨0, q, u, x, [], [], [], t⟩ := by
  rw [show (2 : Int) = ((2 : Nat) : Int) from rfl, putI_be _ _ (by omega), putI_be _ _ (by omega), putI_be _ _ (by omega)]
  have lq := be_length q 2
  have lu := be_length u 2
  have lx := be_length x 2
  have vq := beV_be q 2 (by omega)
  have vu := beV_be u 2 (by omega)
  have vx := beV_be x 2 (by omega)
  generalize be q 2 = Q at *
  generalize be u 2 = U at *
  generalize be x 2 = X at *
  have d1 : (Q ++ U ++ X ++ t).drop 2 = U ++ X ++ t := by rw [List.append_assoc, List.append_assoc, ← lq, List.drop_left]; simp
  have d2 : (U ++ X ++ t).drop 2 = X ++ t := by rw [List.append_assoc, ← lu, List.drop_left]
  have d3 : (X ++ t).drop 2 = t := by rw [← lx, List.drop_left]
  have t1 : (Q ++ U ++ X ++ t).take 2 = Q := by rw [List.append_assoc, List.append_assoc, ← lq, List.take_left]
  have t2 : (U ++ X ++ t).take 2 = U := by rw [List.append_assoc, ← lu, List.take_left]
  have t3 : (X ++ t).take 2 = X := by rw [← lx, List.take_left]
  unfold boxF
  rw [d1, d2, d3, t1, t2, t3, vq, vu, vx, if_neg (by simp; omega), if_neg (by simp; omega), if_neg (by simp; omega)]
theorem tail_put {o : OB} (hk : kindOK o = true) (t : List UInt8) : tailF o.kind.toNat (tl o ++ t) = ⟨0, (norm o).q.toNat, (norm o).u.toNat, (norm o).x.toNat, (norm o).d, (norm o).c, (norm o).r, t⟩ := by
  have hk' := hk
  unfold kindOK at hk'
  unfold tl tailB norm tailF
  by_cases k1 : o.kind = 1
  · rw [if_pos k1] at hk'
    have h := of_decide_eq_true hk'
    have e : o.kind.toNat = 1 := by omega
    simp only [if_pos k1, if_pos e]
    obtain ⟨q, hq⟩ := Int.eq_ofNat_of_zero_le (show 0 ≤ o.q by omega)
    obtain ⟨u, hu⟩ := Int.eq_ofNat_of_zero_le (show 0 ≤ o.u by omega)
    obtain ⟨x, hx⟩ := Int.eq_ofNat_of_zero_le (show 0 ≤ o.x by omega)
    rw [hq, hu, hx] at h ⊢
    rw [List.nil_append]
    exact box_put (by omega) (by omega) (by omega) t
  rw [if_neg k1] at hk'
  by_cases k2 : o.kind = 2
  · rw [if_pos k2] at hk'
    have h := of_decide_eq_true hk'
    have e1 : ¬ o.kind.toNat = 1 := by omega
    have e2 : o.kind.toNat = 2 := by omega
    simp only [if_neg k1, if_pos k2, if_neg e1, if_pos e2]
    have hp : putBs [] o.d ++ t = putI o.d.length 2 ++ o.d ++ t := by simp [putBs]
    rw [hp, takeBE_put _ _ (by omega)]
    simp only [if_pos rfl]
    have hl : (putI (o.d.length : Int) 2 ++ o.d).length = 2 + o.d.length := by rw [show (2 : Int) = ((2 : Nat) : Int) from rfl, putI_be _ _ (by omega), List.length_append, be_length]
    rw [← hl, List.drop_left]
    rfl
  rw [if_neg k2] at hk'
  by_cases k3 : o.kind = 3
  · rw [if_pos k3] at hk'
    have e1 : ¬ o.kind.toNat = 1 := by omega
    have e2 : ¬ o.kind.toNat = 2 := by omega
    have e3 : o.kind.toNat = 3 := by omega
    simp only [if_neg k1, if_neg k2, if_pos k3, if_neg e1, if_neg e2, if_pos e3]
    rw [takeC_putC' hk']
    simp only [if_pos rfl, List.drop_left]
    rfl
  rw [if_neg k3] at hk'
  by_cases k4 : o.kind = 4
  · rw [if_pos k4] at hk'
    have e1 : ¬ o.kind.toNat = 1 := by omega
    have e2 : ¬ o.kind.toNat = 2 := by omega
    have e3 : ¬ o.kind.toNat = 3 := by omega
    simp only [if_neg k1, if_neg k2, if_neg k3, if_neg e1, if_neg e2, if_neg e3]
    rw [takeR_put hk']
    simp only [if_pos rfl, List.drop_left]
    rfl
  · rw [if_neg k4] at hk'; cases hk'
theorem head_put {k id : Nat} {df : UInt8} {ps : List PR} (hk : 1 ≤ k ∧ k ≤ 4) (hid : id < 18446744073709551616) (hm : mayLab df ps = true) (R : List UInt8) :
    Bq (1 :: UInt8.ofNat k :: (putI id 8 ++ (putLab [] df ps ++ R))) = ⟨0, k, id, df, ps, R⟩ := by
  rw [show (8 : Int) = ((8 : Nat) : Int) from rfl, putI_be _ _ (by omega)]
  have l8 := be_length id 8
  have v8 := beV_be id 8 (by simpa using hid)
  have hk2 : beV [UInt8.ofNat k] = k := beV_1 k (by omega)
  have hT := takeLab_put hm R
  unfold Bq
  have d1 : ∀ (x y : UInt8) (l : List UInt8), (x :: y :: l).drop 1 = y :: l := fun _ _ _ => rfl
  have d2 : ∀ (x : UInt8) (l : List UInt8), (x :: l).drop 1 = l := fun _ _ => rfl
  have t1 : ∀ (x : UInt8) (l : List UInt8), (x :: l).take 1 = [x] := fun _ _ => rfl
  have d3 : (be id 8 ++ (putLab [] df ps ++ R)).drop 8 = putLab [] df ps ++ R := List.drop_left' l8
  have t3 : (be id 8 ++ (putLab [] df ps ++ R)).take 8 = be id 8 := List.take_left' l8
  rw [d1, d2, d3, t1, t1, t3, hk2, hT, v8, if_neg (by simp), if_neg (by decide), if_neg (by simp), if_neg (by omega), if_neg (by simp; omega), if_neg (by simp)]
  dsimp only
  rw [List.drop_left]
theorem bytes1_eq {o : OB} : bytes1 o = 1 :: UInt8.ofNat o.kind.toNat :: (putI o.id 8 ++ (putLab [] o.df o.ps ++ tl o)) := by
  unfold bytes1 headB1
  rw [tailB_tl]
  unfold putLab
  simp
theorem norm_may {o : OB} (h : mayO1 o = true) : mayO1 (norm o) = true ∧ tl (norm o) = tl o ∧ (norm o).kind = o.kind ∧ (norm o).id = o.id ∧ (norm o).df = o.df ∧ (norm o).ps = o.ps := by
  unfold mayO1 at h ⊢
  simp only [Bool.and_eq_true] at h
  obtain ⟨⟨h1, h2⟩, h3⟩ := h
  have hkr := kind_range h3
  unfold labB1 at h2 ⊢
  unfold kindOK at h3 ⊢
  unfold tl tailB
  rcases hkr with k | k | k | k
  · have e : norm o = ⟨o.id, o.kind, o.df, o.ps, [], [], [], o.q, o.u, o.x, [], [], []⟩ := by rw [norm, if_pos k]
    rw [e]; simp only [k, if_pos] at h3 ⊢; simp_all
  · have e : norm o = ⟨o.id, o.kind, o.df, o.ps, [], [], [], 0, 0, 0, o.d, [], []⟩ := by rw [norm, if_neg (by omega), if_pos k]
    rw [e]; simp only [k] at h3 ⊢; simp_all
  · have e : norm o = ⟨o.id, o.kind, o.df, o.ps, [], [], [], 0, 0, 0, [], o.c, []⟩ := by rw [norm, if_neg (by omega), if_neg (by omega), if_pos k]
    rw [e]; simp only [k] at h3 ⊢; simp_all
  · have e : norm o = ⟨o.id, o.kind, o.df, o.ps, [], [], [], 0, 0, 0, [], [], o.r⟩ := by rw [norm, if_neg (by omega), if_neg (by omega), if_neg (by omega)]
    rw [e]; simp only [k] at h3 ⊢; simp_all
theorem norm_mk {o : OB} (h : mayO1 o = true) (R : List UInt8) : mkO ⟨0, o.kind.toNat, o.id, o.df, o.ps, R⟩ ⟨0, (norm o).q.toNat, (norm o).u.toNat, (norm o).x.toNat, (norm o).d, (norm o).c, (norm o).r, R⟩ = norm o := by
  unfold mayO1 at h
  simp only [Bool.and_eq_true] at h
  have hkr := kind_range h.2
  have h3 := h.2
  unfold kindOK at h3
  have ek : ((o.kind.toNat : Nat) : Int) = o.kind := by omega
  unfold mkO norm
  rcases hkr with k | k | k | k
  · simp only [if_pos k] at h3 ⊢
    have := of_decide_eq_true h3
    simp only [ek, Int.toNat_of_nonneg (show 0 ≤ o.q by omega), Int.toNat_of_nonneg (show 0 ≤ o.u by omega), Int.toNat_of_nonneg (show 0 ≤ o.x by omega)]
  · rw [if_neg (by omega), if_pos k]; simp only [ek]; rfl
  · rw [if_neg (by omega), if_neg (by omega), if_pos k]; simp only [ek]; rfl
  · rw [if_neg (by omega), if_neg (by omega), if_neg (by omega)]; simp only [ek]; rfl
theorem norm_mk' {o : OB} (h : mayO1 o = true) (R R' : List UInt8) : mkO ⟨0, o.kind.toNat, o.id, o.df, o.ps, R⟩ ⟨0, (norm o).q.toNat, (norm o).u.toNat, (norm o).x.toNat, (norm o).d, (norm o).c, (norm o).r, R'⟩ = norm o := norm_mk h R
theorem take1_put {o : OB} (h : mayO1 o = true) (hid : o.id < 18446744073709551616) (t : List UInt8) : takeO1 (bytes1 o ++ t) = if t.length = 0 then (norm o, 0) else (zeroO, 2) := by
  have h' := h
  unfold mayO1 labB1 at h'
  simp only [Bool.and_eq_true] at h'
  obtain ⟨⟨h1, h2⟩, h3⟩ := h'
  have hkr := kind_range h3
  have hh : Bq (bytes1 o ++ t) = ⟨0, o.kind.toNat, o.id, o.df, o.ps, tl o ++ t⟩ := by
    rw [bytes1_eq, List.cons_append, List.cons_append, List.append_assoc, List.append_assoc]
    exact head_put (by omega) hid h2.1 _
  unfold takeO1
  rw [hh]
  dsimp only
  rw [tail_put h3, norm_mk' h, (norm_may h).1, if_neg (by simp), if_neg (by simp)]
  by_cases ht : t.length = 0
  · rw [if_pos ht, if_pos (by simp [ht])]
  · rw [if_neg ht, if_neg (by simpa using ht)]
end Go.Proofs.Ytemgmkoggnjgjaa
namespace Go.Proofs.Ytemgmkoggnjgjaa
open Go.Ts Go.Sets
set_option linter.unusedSimpArgs false
set_option linter.unusedVariables false
attribute [local irreducible] Go.Ts.AW Go.Ts.AOps Go.Ts.AL Go.Ts.AOp Go.Ts.ACalls Go.Ts.DL Go.Ts.DQ Go.Ts.EL
theorem bytes1_len {o : OB} (h : mayO1 o = true) : 1 ≤ (bytes1 o).length ∧ (bytes1 o).length ≤ 400 := by
  have h' := h
  unfold mayO1 at h'
  simp only [Bool.and_eq_true] at h'
  obtain ⟨⟨h1, h2⟩, h3⟩ := h'
  have hh := headB1_len h2
  have hk := h3
  unfold kindOK at hk
  have e : (bytes1 o).length = (headB1 o).length + (tl o).length := by unfold bytes1; rw [tailB_tl, List.length_append]
  have e2 : 1 ≤ (bytes1 o).length := by rw [bytes1_eq]; simp
  have e3 : (tl o).length ≤ 300 := by
    unfold tl tailB
    by_cases k1 : o.kind = 1
    · rw [if_pos k1]
      have l1 := putI_le o.q 2
      have l2 := putI_le o.u 2
      have l3 := putI_le o.x 2
      simp only [List.length_append, List.length_nil]; omega
    rw [if_neg k1] at hk ⊢
    by_cases k2 : o.kind = 2
    · rw [if_pos k2] at hk ⊢
      have := of_decide_eq_true hk
      rw [putBs_len _ _ (by omega)]; simp; omega
    rw [if_neg k2] at hk ⊢
    by_cases k3 : o.kind = 3
    · rw [if_pos k3] at hk ⊢
      have := mayC_le hk
      rw [putC_len]; omega
    rw [if_neg k3] at hk ⊢
    by_cases k4 : o.kind = 4
    · rw [if_pos k4] at hk
      have := putR_len hk []
      simp at this; omega
    · rw [if_neg k4] at hk; cases hk
  omega
theorem obj1_Take_is {x : T} {b : List UInt8} {r : OB × Int} (hx : bytesT x = some b) (hl : b.length ≤ 4294967296) (h : takeO1 b = r) : Ts.Pure Try.prog 17 [x] (.tup [r.1.t, .int .i64 r.2]) := by
  subst h; exact obj1_Take hx hl
theorem obj1_Put_is {o : OB} {r : T} (h : o.Fits) (hr : putO1T o = r) : Ts.Pure Try.prog 14 [o.t] r := by
  subst hr; exact obj1_Put h
end Go.Proofs.Ytemgmkoggnjgjaa
