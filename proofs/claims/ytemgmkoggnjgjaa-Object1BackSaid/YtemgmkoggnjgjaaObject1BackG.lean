/- Part of the proof of the law Object1Back: the texts P7, P8, PP, P5, P9. No conditions. -/
import Derived.Test.YtemgmkoggnjgjaaObject1BackF
set_option linter.unusedSimpArgs false
set_option linter.unusedVariables false
namespace Go.Proofs.Ytemgmkoggnjgjaa
open Go.Ts Go.Sets
set_option linter.unusedSimpArgs false
set_option linter.unusedVariables false
attribute [local irreducible] Go.Ts.AW Go.Ts.AOps Go.Ts.AL Go.Ts.AOp Go.Ts.ACalls Go.Ts.DL Go.Ts.DQ Go.Ts.EL
structure TT where
  e : Int
  q : Nat
  u : Nat
  x : Nat
  d : List UInt8
  c : List UInt16
  r : List (List UInt8)
  rest : List UInt8
def TT.no (e : Int) : TT := ⟨e, 0, 0, 0, [], [], [], []⟩
def boxF (b : List UInt8) : TT :=
  if b.length < 2 then .no 3 else if (b.drop 2).length < 2 then .no 3 else if ((b.drop 2).drop 2).length < 2 then .no 3
  else ⟨0, beV (b.take 2), beV ((b.drop 2).take 2), beV (((b.drop 2).drop 2).take 2), [], [], [], ((b.drop 2).drop 2).drop 2⟩
def tailF (k : Nat) (b : List UInt8) : TT :=
  if k = 1 then boxF b
  else if k = 2 then (if (Cd b).2.2 = 0 then ⟨0, 0, 0, 0, (Cd b).1, [], [], b.drop (Cd b).2.1⟩ else .no (Cd b).2.2)
  else if k = 3 then (if (takeC b).2.2 = 0 then ⟨0, 0, 0, 0, [], (takeC b).1, [], b.drop (takeC b).2.1⟩ else .no (takeC b).2.2)
  else (if (takeR b).2.2 = 0 then ⟨0, 0, 0, 0, [], [], (takeR b).1, b.drop (takeR b).2.1⟩ else .no (takeR b).2.2)
structure BxX (b : List UInt8) where
  j : Nat
  hj : j ≤ 3
  h1 : 1 ≤ j → ¬ b.length < 2
  h2 : 2 ≤ j → ¬ (b.drop 2).length < 2
  h3 : 3 ≤ j → ¬ ((b.drop 2).drop 2).length < 2
set_option maxHeartbeats 1000000 in
theorem o1_box {b : List UInt8} {A0 A1 A2 A3 A4 A5 A6 : T} (hl : b.length ≤ 4294967296) :
    Mut Try.prog 58 [] [sT b, A0, A1, A2, A3, A4, A5, A6, .int .i64 0, .int .i64 0, .int .i64 0, .nilsl, .nilsl, .nilsl] (fun u cs' => u = .int .i64 (boxF b).e ∧ ((boxF b).e = 0 →
      cs' = [sT (boxF b).rest, A0, A1, A2, A3, A4, A5, A6, .int .i64 (boxF b).q, .int .i64 (boxF b).u, .int .i64 (boxF b).x, .nilsl, .nilsl, .nilsl])) := by
  intro off i
  refine Bp (N := 38) (rs := [.tmp 2]) hG Try.func58 rfl rfl rfl rfl rfl ?_
  repeat' (first
    | ((first | (show AL _ _ _ _ _ _ _ _; refine Ae Y ?_) | (show DL _ _ _ _ _ _ _; refine' Bx Y Y (fun K kk => ?_) ?_; try (show Go.Ts.T; rotate_left))); (first
      | (show AOp _ _ ⟨_, .move _, _, _, _, _⟩ _ _ _; refine Al hG Y Y ?_)
      | (show AOp _ _ ⟨_, .assign _, _, _, _, _⟩ _ _ _; refine A9 hG Y Y ?_)
      | (show AOp _ _ ⟨_, .call ⟨.builtin .len, _, _⟩, _, _, _, _⟩ _ _ _; first | refine Az hG Y Y Y Y ?_ | refine Bd hG Y Y Y Y Y ?_)
      | (show AOp _ _ ⟨_, .binOp _ _ _ _ _, _, _, _, _⟩ _ _ _; first | refine Ap hG Y Y Y Y Y (by omega) ?_ | refine Aq hG Y Y Y Y Y (by omega) ?_ | ((fail_if_success have := kk); refine Av hG Y Y Y Y Y (fun h => ?_) (fun h => ?_)))
      | (show AOp _ _ ⟨_, .load _ _, _, _, _, _⟩ _ _ _; first | refine Bf hG Y Y Y ?_ | refine Ax 0 hG Y Y Y Y ?_ | refine Ax 1 hG Y Y Y Y ?_)
      | (show AOp _ _ ⟨_, .indexAddr _ _ _, _, _, _, _⟩ _ _ _; first | refine r_idx0 hG Y Y Y Y Y Y Y ?_ | refine Bg hG Y Y Y Y Y Y Y (by omega) ?_ | refine Bh hG Y Y Y Y Y Y Y (by omega) ?_ | refine Bt hG Y Y ?_)
      | (show AOp _ _ ⟨_, .convert _ _ _, _, _, _, _⟩ _ _ _; first | refine Br hG Y Y Y Y Y (by omega) ?_ | refine By hG Y Y Y Y Y ?_)
      | (show AOp _ _ ⟨_, .slice _ _ _ _ _, _, _, _, _⟩ _ _ _; first | refine Bk hG Y Y Y Y Y Y Y (by omega) ?_ | refine Bu hG Y Y Y Y Y Y Y (by omega) ?_ | refine r_sl hG Y Y ?_)
      | (show AOp _ _ ⟨_, .buildSlice _ _ _, _, _, _, _⟩ _ _ _; first | refine r_mk (sz := 1) hG Y Y Y Y Y Y Y ?_)
      | (show AOp _ _ ⟨_, .store _ _ _, _, _, _, _⟩ _ _ _; first | refine Bb 0 hG Y Y Y Y Y Y Y ?_ | refine Bb 1 hG Y Y Y Y Y Y Y ?_)
      | refine r_q hG Y Y Y ?_); try exact kk)
    | (show AL _ _ _ _ _ _ _ _; first | refine Bj Y Y Y ?_ | (refine As ?_; first | show AW _ _ _ _ _ _ | show ∃ x', _ < _ ∧ _)) | (show AW _ _ (.seq _ _) _ _ _; refine Ah ?_; intro Q1) | (show AW _ _ (.region _ _ false) _ _ _; refine Ad ?_; intro O1) | (show AW _ _ (.cond _ _ _) _ _ _; first | refine Aj Y ?_ | refine Ai Y ?_) | (show AW _ _ (.skip) _ _ _; refine Ak ?_; first | show AW _ _ _ _ _ _ | show ∃ x', _ < _ ∧ _) | (show AW _ _ (.goto _) _ _ _; refine Bz ?_; try dsimp only [Aw, Aa, Au, Ac]) | (show AW _ _ (.ret) _ _ _; refine Ar ?_; try dsimp only [Aw, Aa, Au, Ac])
    | (show DL _ _ _ _ _ _ _; refine dl_d Y Y (fun K kt kf => Av hG Y Y Y Y Y kt kf) (fun h => ?_) (fun h => ?_))
    | (show DL _ _ _ _ _ _ _; refine dl_s Y Y Y ?_) | (show DL _ _ _ _ _ _ _; refine B3 ?_; first | show AW _ _ _ _ _ _ | show ∃ x', _ < _ ∧ _) | (show AW _ _ (.region _ _ true) _ _ _; refine Bq mix (by kernel_rfl) ?_; intro O1) | fail)
  refine aw_scope' 0 rfl (X := BxX b)
    (fun x => [(0, .ptr i 0), (3, match x.j with
      | 0 => .sl 1 .no [.ptr i 8, .ptr i 9, .ptr i 10]
      | 1 => .sl 1 .no [.ptr i 9, .ptr i 10]
      | 2 => .sl 1 .no [.ptr i 10]
      | _ => .sl 1 .no [])])
    (fun x => ⟨[(i, .cells (match x.j with
      | 0 => [sT b, A0, A1, A2, A3, A4, A5, A6, .int .i64 0, .int .i64 0, .int .i64 0, .nilsl, .nilsl, .nilsl]
      | 1 => [sT (b.drop 2), A0, A1, A2, A3, A4, A5, A6, .int .i64 (beV (b.take 2)), .int .i64 0, .int .i64 0, .nilsl, .nilsl, .nilsl]
      | 2 => [sT ((b.drop 2).drop 2), A0, A1, A2, A3, A4, A5, A6, .int .i64 (beV (b.take 2)), .int .i64 (beV ((b.drop 2).take 2)), .int .i64 0, .nilsl, .nilsl, .nilsl]
      | _ => [sT (((b.drop 2).drop 2).drop 2), A0, A1, A2, A3, A4, A5, A6, .int .i64 (beV (b.take 2)), .int .i64 (beV ((b.drop 2).take 2)), .int .i64 (beV (((b.drop 2).drop 2).take 2)), .nilsl, .nilsl, .nilsl]))], [], off, none⟩) (fun x => 3 - x.j) ?_ ?_
  · rintro ⟨j, hj, g1, g2, g3⟩
    have l3 : ([.ptr i 8, .ptr i 9, .ptr i 10] : List T).length = 3 := rfl
    have l2 : ([.ptr i 9, .ptr i 10] : List T).length = 2 := rfl
    have l1 : ([.ptr i 10] : List T).length = 1 := rfl
    have l0 : ([] : List T).length = 0 := rfl
    rcases (by omega : j = 0 ∨ j = 1 ∨ j = 2 ∨ j = 3) with rfl | rfl | rfl | rfl
    · dsimp only
      clear g1 g2 g3
      have n1 := o1_number (b := b) (n := 2) (m := 2) (rest := [A0, A1, A2, A3, A4, A5, A6, .int .i64 0, .int .i64 0, .int .i64 0, .nilsl, .nilsl, .nilsl]) rfl (by omega) hl
      repeat' (first
    | ((first | (show AL _ _ _ _ _ _ _ _; refine Ae Y ?_) | (show DL _ _ _ _ _ _ _; refine' Bx Y Y (fun K kk => ?_) ?_; try (show Go.Ts.T; rotate_left))); (first
      | (show AOp _ _ ⟨_, .move _, _, _, _, _⟩ _ _ _; refine Al hG Y Y ?_)
      | (show AOp _ _ ⟨_, .assign _, _, _, _, _⟩ _ _ _; refine A9 hG Y Y ?_)
      | (show AOp _ _ ⟨_, .call ⟨.builtin .len, _, _⟩, _, _, _, _⟩ _ _ _; first | refine Az hG Y Y Y Y ?_ | refine Bd hG Y Y Y Y Y ?_)
      | (show AOp _ _ ⟨_, .binOp _ _ _ _ _, _, _, _, _⟩ _ _ _; first | refine Ap hG Y Y Y Y Y (by omega) ?_ | refine Aq hG Y Y Y Y Y (by omega) ?_ | ((fail_if_success have := kk); refine Av hG Y Y Y Y Y (fun h => ?_) (fun h => ?_)))
      | (show AOp _ _ ⟨_, .load _ _, _, _, _, _⟩ _ _ _; first | refine Bf hG Y Y Y ?_ | refine Ax 0 hG Y Y Y Y ?_ | refine Ax 1 hG Y Y Y Y ?_)
      | (show AOp _ _ ⟨_, .indexAddr _ _ _, _, _, _, _⟩ _ _ _; first | refine r_idx0 hG Y Y Y Y Y Y Y ?_ | refine Bg hG Y Y Y Y Y Y Y (by omega) ?_ | refine Bh hG Y Y Y Y Y Y Y (by omega) ?_ | refine Bt hG Y Y ?_)
      | (show AOp _ _ ⟨_, .convert _ _ _, _, _, _, _⟩ _ _ _; first | refine Br hG Y Y Y Y Y (by omega) ?_ | refine By hG Y Y Y Y Y ?_)
      | (show AOp _ _ ⟨_, .slice _ _ _ _ _, _, _, _, _⟩ _ _ _; first | refine Bk hG Y Y Y Y Y Y Y (by omega) ?_ | refine Bu hG Y Y Y Y Y Y Y (by omega) ?_ | refine r_sl hG Y Y ?_)
      | (show AOp _ _ ⟨_, .buildSlice _ _ _, _, _, _, _⟩ _ _ _; first | refine r_mk (sz := 1) hG Y Y Y Y Y Y Y ?_)
      | (show AOp _ _ ⟨_, .store _ _ _, _, _, _, _⟩ _ _ _; first | refine Bb 0 hG Y Y Y Y Y Y Y ?_ | refine Bb 1 hG Y Y Y Y Y Y Y ?_)
      | refine r_q hG Y Y Y ?_); try exact kk)
    | (show AL _ _ _ _ _ _ _ _; first | refine Bj Y Y Y ?_ | (refine As ?_; first | show AW _ _ _ _ _ _ | show ∃ x', _ < _ ∧ _)) | (show AW _ _ (.seq _ _) _ _ _; refine Ah ?_; intro Q1) | (show AW _ _ (.region _ _ false) _ _ _; refine Ad ?_; intro O1) | (show AW _ _ (.cond _ _ _) _ _ _; first | refine Aj Y ?_ | refine Ai Y ?_) | (show AW _ _ (.skip) _ _ _; refine Ak ?_; first | show AW _ _ _ _ _ _ | show ∃ x', _ < _ ∧ _) | (show AW _ _ (.goto _) _ _ _; refine Bz ?_; try dsimp only [Aw, Aa, Au, Ac]) | (show AW _ _ (.ret) _ _ _; refine Ar ?_; try dsimp only [Aw, Aa, Au, Ac])
    | (show DL _ _ _ _ _ _ _; refine dl_d Y Y (fun K kt kf => Av hG Y Y Y Y Y kt kf) (fun h => ?_) (fun h => ?_))
    | (show DL _ _ _ _ _ _ _; refine dl_s Y Y Y ?_) | (show DL _ _ _ _ _ _ _; refine B3 ?_; first | show AW _ _ _ _ _ _ | show ∃ x', _ < _ ∧ _) | (show AW _ _ (.region _ _ true) _ _ _; refine Bq mix (by kernel_rfl) ?_; intro O1) | fail)
      refine Ae rfl (r_mut rfl rfl rfl rfl rfl (.refl _) n1 (fun r cs' hr => ?_))
      by_cases h1 : b.length < 2
      · rw [if_pos h1] at hr
        obtain ⟨rfl, rfl⟩ := hr
        have hh : boxF b = .no 3 := by rw [boxF, if_pos h1]
        repeat' (first
    | ((first | (show AL _ _ _ _ _ _ _ _; refine Ae Y ?_) | (show DL _ _ _ _ _ _ _; refine' Bx Y Y (fun K kk => ?_) ?_; try (show Go.Ts.T; rotate_left))); (first
      | (show AOp _ _ ⟨_, .move _, _, _, _, _⟩ _ _ _; refine Al hG Y Y ?_)
      | (show AOp _ _ ⟨_, .assign _, _, _, _, _⟩ _ _ _; refine A9 hG Y Y ?_)
      | (show AOp _ _ ⟨_, .call ⟨.builtin .len, _, _⟩, _, _, _, _⟩ _ _ _; first | refine Az hG Y Y Y Y ?_ | refine Bd hG Y Y Y Y Y ?_)
      | (show AOp _ _ ⟨_, .binOp _ _ _ _ _, _, _, _, _⟩ _ _ _; first | refine Ap hG Y Y Y Y Y (by omega) ?_ | refine Aq hG Y Y Y Y Y (by omega) ?_ | ((fail_if_success have := kk); refine Av hG Y Y Y Y Y (fun h => ?_) (fun h => ?_)))
      | (show AOp _ _ ⟨_, .load _ _, _, _, _, _⟩ _ _ _; first | refine Bf hG Y Y Y ?_ | refine Ax 0 hG Y Y Y Y ?_ | refine Ax 1 hG Y Y Y Y ?_)
      | (show AOp _ _ ⟨_, .indexAddr _ _ _, _, _, _, _⟩ _ _ _; first | refine r_idx0 hG Y Y Y Y Y Y Y ?_ | refine Bg hG Y Y Y Y Y Y Y (by omega) ?_ | refine Bh hG Y Y Y Y Y Y Y (by omega) ?_ | refine Bt hG Y Y ?_)
      | (show AOp _ _ ⟨_, .convert _ _ _, _, _, _, _⟩ _ _ _; first | refine Br hG Y Y Y Y Y (by omega) ?_ | refine By hG Y Y Y Y Y ?_)
      | (show AOp _ _ ⟨_, .slice _ _ _ _ _, _, _, _, _⟩ _ _ _; first | refine Bk hG Y Y Y Y Y Y Y (by omega) ?_ | refine Bu hG Y Y Y Y Y Y Y (by omega) ?_ | refine r_sl hG Y Y ?_)
      | (show AOp _ _ ⟨_, .buildSlice _ _ _, _, _, _, _⟩ _ _ _; first | refine r_mk (sz := 1) hG Y Y Y Y Y Y Y ?_)
      | (show AOp _ _ ⟨_, .store _ _ _, _, _, _, _⟩ _ _ _; first | refine Bb 0 hG Y Y Y Y Y Y Y ?_ | refine Bb 1 hG Y Y Y Y Y Y Y ?_)
      | refine r_q hG Y Y Y ?_); try exact kk)
    | (show AL _ _ _ _ _ _ _ _; first | refine Bj Y Y Y ?_ | (refine As ?_; first | show AW _ _ _ _ _ _ | show ∃ x', _ < _ ∧ _)) | (show AW _ _ (.seq _ _) _ _ _; refine Ah ?_; intro Q1) | (show AW _ _ (.region _ _ false) _ _ _; refine Ad ?_; intro O1) | (show AW _ _ (.cond _ _ _) _ _ _; first | refine Aj Y ?_ | refine Ai Y ?_) | (show AW _ _ (.skip) _ _ _; refine Ak ?_; first | show AW _ _ _ _ _ _ | show ∃ x', _ < _ ∧ _) | (show AW _ _ (.goto _) _ _ _; refine Bz ?_; try dsimp only [Aw, Aa, Au, Ac]) | (show AW _ _ (.ret) _ _ _; refine Ar ?_; try dsimp only [Aw, Aa, Au, Ac])
    | (show DL _ _ _ _ _ _ _; refine dl_d Y Y (fun K kt kf => Av hG Y Y Y Y Y kt kf) (fun h => ?_) (fun h => ?_))
    | (show DL _ _ _ _ _ _ _; refine dl_s Y Y Y ?_) | (show DL _ _ _ _ _ _ _; refine B3 ?_; first | show AW _ _ _ _ _ _ | show ∃ x', _ < _ ∧ _) | (show AW _ _ (.region _ _ true) _ _ _; refine Bq mix (by kernel_rfl) ?_; intro O1) | fail)
        exact ret_mut 0 (Ao rfl A8) rfl (.refl _) rfl ⟨by rw [hh]; rfl, fun h => by rw [hh] at h; exact absurd h (by decide)⟩
      rw [if_neg h1] at hr
      obtain ⟨rfl, rfl⟩ := hr
      have v1 := beV2 b (by omega)
      repeat' (first
    | ((first | (show AL _ _ _ _ _ _ _ _; refine Ae Y ?_) | (show DL _ _ _ _ _ _ _; refine' Bx Y Y (fun K kk => ?_) ?_; try (show Go.Ts.T; rotate_left))); (first
      | (show AOp _ _ ⟨_, .move _, _, _, _, _⟩ _ _ _; refine Al hG Y Y ?_)
      | (show AOp _ _ ⟨_, .assign _, _, _, _, _⟩ _ _ _; refine A9 hG Y Y ?_)
      | (show AOp _ _ ⟨_, .call ⟨.builtin .len, _, _⟩, _, _, _, _⟩ _ _ _; first | refine Az hG Y Y Y Y ?_ | refine Bd hG Y Y Y Y Y ?_)
      | (show AOp _ _ ⟨_, .binOp _ _ _ _ _, _, _, _, _⟩ _ _ _; first | refine Ap hG Y Y Y Y Y (by omega) ?_ | refine Aq hG Y Y Y Y Y (by omega) ?_ | ((fail_if_success have := kk); refine Av hG Y Y Y Y Y (fun h => ?_) (fun h => ?_)))
      | (show AOp _ _ ⟨_, .load _ _, _, _, _, _⟩ _ _ _; first | refine Bf hG Y Y Y ?_ | refine Ax 0 hG Y Y Y Y ?_ | refine Ax 1 hG Y Y Y Y ?_)
      | (show AOp _ _ ⟨_, .indexAddr _ _ _, _, _, _, _⟩ _ _ _; first | refine r_idx0 hG Y Y Y Y Y Y Y ?_ | refine Bg hG Y Y Y Y Y Y Y (by omega) ?_ | refine Bh hG Y Y Y Y Y Y Y (by omega) ?_ | refine Bt hG Y Y ?_)
      | (show AOp _ _ ⟨_, .convert _ _ _, _, _, _, _⟩ _ _ _; first | refine Br hG Y Y Y Y Y (by omega) ?_ | refine By hG Y Y Y Y Y ?_)
      | (show AOp _ _ ⟨_, .slice _ _ _ _ _, _, _, _, _⟩ _ _ _; first | refine Bk hG Y Y Y Y Y Y Y (by omega) ?_ | refine Bu hG Y Y Y Y Y Y Y (by omega) ?_ | refine r_sl hG Y Y ?_)
      | (show AOp _ _ ⟨_, .buildSlice _ _ _, _, _, _, _⟩ _ _ _; first | refine r_mk (sz := 1) hG Y Y Y Y Y Y Y ?_)
      | (show AOp _ _ ⟨_, .store _ _ _, _, _, _, _⟩ _ _ _; first | refine Bb 0 hG Y Y Y Y Y Y Y ?_ | refine Bb 1 hG Y Y Y Y Y Y Y ?_)
      | refine r_q hG Y Y Y ?_); try exact kk)
    | (show AL _ _ _ _ _ _ _ _; first | refine Bj Y Y Y ?_ | (refine As ?_; first | show AW _ _ _ _ _ _ | show ∃ x', _ < _ ∧ _)) | (show AW _ _ (.seq _ _) _ _ _; refine Ah ?_; intro Q1) | (show AW _ _ (.region _ _ false) _ _ _; refine Ad ?_; intro O1) | (show AW _ _ (.cond _ _ _) _ _ _; first | refine Aj Y ?_ | refine Ai Y ?_) | (show AW _ _ (.skip) _ _ _; refine Ak ?_; first | show AW _ _ _ _ _ _ | show ∃ x', _ < _ ∧ _) | (show AW _ _ (.goto _) _ _ _; refine Bz ?_; try dsimp only [Aw, Aa, Au, Ac]) | (show AW _ _ (.ret) _ _ _; refine Ar ?_; try dsimp only [Aw, Aa, Au, Ac])
    | (show DL _ _ _ _ _ _ _; refine dl_d Y Y (fun K kt kf => Av hG Y Y Y Y Y kt kf) (fun h => ?_) (fun h => ?_))
    | (show DL _ _ _ _ _ _ _; refine dl_s Y Y Y ?_) | (show DL _ _ _ _ _ _ _; refine B3 ?_; first | show AW _ _ _ _ _ _ | show ∃ x', _ < _ ∧ _) | (show AW _ _ (.region _ _ true) _ _ _; (fail_if_success show AW _ _ (.region 7 _ _) _ _ _); refine Bq mix (by kernel_rfl) ?_; intro O1) | fail)
      refine aw_drawE' (m := 10) [8] (fun σ => ∃ c, σ = ⟨[(i, .cells c)], [], off, none⟩) mix rfl (by repeat (first | exact Sp.zero _ | apply Sp.succ)) ?_; intro O1 F1 Z1 Q2
      repeat' (first
    | (refine' dq_cons Y Y Y (fun σ hσ K kk => ?_) ?_; (try (show Go.Ts.T; rotate_left)); (obtain ⟨R, rfl⟩ := hσ); (first
      | (show AOp _ _ ⟨_, .move _, _, _, _, _⟩ _ _ _; refine Al hG Y Y ?_)
      | (show AOp _ _ ⟨_, .assign _, _, _, _, _⟩ _ _ _; refine A9 hG Y Y ?_)
      | (show AOp _ _ ⟨_, .call ⟨.builtin .len, _, _⟩, _, _, _, _⟩ _ _ _; first | refine Az hG Y Y Y Y ?_ | refine Bd hG Y Y Y Y Y ?_)
      | (show AOp _ _ ⟨_, .binOp _ _ _ _ _, _, _, _, _⟩ _ _ _; first | refine Ap hG Y Y Y Y Y (by omega) ?_ | refine Aq hG Y Y Y Y Y (by omega) ?_)
      | (show AOp _ _ ⟨_, .load _ _, _, _, _, _⟩ _ _ _; first | refine Bf hG Y Y Y ?_ | refine Ax 0 hG Y Y Y Y ?_ | refine Ax 1 hG Y Y Y Y ?_)
      | (show AOp _ _ ⟨_, .indexAddr _ _ _, _, _, _, _⟩ _ _ _; first | refine r_idx0 hG Y Y Y Y Y Y Y ?_ | refine Bg hG Y Y Y Y Y Y Y (by omega) ?_ | refine Bh hG Y Y Y Y Y Y Y (by omega) ?_ | refine Bt hG Y Y ?_)
      | (show AOp _ _ ⟨_, .convert _ _ _, _, _, _, _⟩ _ _ _; first | refine Br hG Y Y Y Y Y (by omega) ?_ | refine By hG Y Y Y Y Y ?_)
      | (show AOp _ _ ⟨_, .slice _ _ _ _ _, _, _, _, _⟩ _ _ _; first | refine Bk hG Y Y Y Y Y Y Y (by omega) ?_ | refine Bu hG Y Y Y Y Y Y Y (by omega) ?_ | refine r_sl hG Y Y ?_)
      | (show AOp _ _ ⟨_, .buildSlice _ _ _, _, _, _, _⟩ _ _ _; first | refine r_mk (sz := 1) hG Y Y Y Y Y Y Y ?_)
      | (show AOp _ _ ⟨_, .store _ _ _, _, _, _, _⟩ _ _ _; first | refine Bb 0 hG Y Y Y Y Y Y Y ?_ | refine Bb 1 hG Y Y Y Y Y Y Y ?_)
      | refine r_q hG Y Y Y ?_); exact kk)
    | refine dq_d Y Y Y (fun σ hσ K kt kf => by obtain ⟨R, rfl⟩ := hσ; exact Av hG Y Y Y Y Y kt kf) (fun h => ?_) (fun h => ?_)
    | refine dq_d Y Y Y (fun σ hσ K kt kf => by obtain ⟨R, rfl⟩ := hσ; exact r_str hG Y Y Y Y kt kf) (fun h => ?_) (fun h => ?_)
    | refine dq_s Y Y Y Y ?_ | refine dq_e Y ?_ | (refine dq_nil ?_; show EL _ _ _ _ _ _ _ _ _) | refine el_s ⟨_, Y⟩ Y Y Y Y ?_
    | ((first | refine el_cons ⟨_, Y⟩ Y Y Y (fun K ke => ?_) | refine el_consN ⟨_, Y⟩ Y Y Y (fun K ke => ?_)); (first
      | (show AOp _ _ ⟨_, .move _, _, _, _, _⟩ _ _ _; refine Al hG Y Y ?_)
      | (show AOp _ _ ⟨_, .assign _, _, _, _, _⟩ _ _ _; refine A9 hG Y Y ?_)
      | (show AOp _ _ ⟨_, .call ⟨.builtin .len, _, _⟩, _, _, _, _⟩ _ _ _; first | refine Az hG Y Y Y Y ?_ | refine Bd hG Y Y Y Y Y ?_)
      | (show AOp _ _ ⟨_, .binOp _ _ _ _ _, _, _, _, _⟩ _ _ _; first | refine Ap hG Y Y Y Y Y (by omega) ?_ | refine Aq hG Y Y Y Y Y (by omega) ?_)
      | (show AOp _ _ ⟨_, .load _ _, _, _, _, _⟩ _ _ _; first | refine Bf hG Y Y Y ?_ | refine Ax 0 hG Y Y Y Y ?_ | refine Ax 1 hG Y Y Y Y ?_)
      | (show AOp _ _ ⟨_, .indexAddr _ _ _, _, _, _, _⟩ _ _ _; first | refine r_idx0 hG Y Y Y Y Y Y Y ?_ | refine Bg hG Y Y Y Y Y Y Y (by omega) ?_ | refine Bh hG Y Y Y Y Y Y Y (by omega) ?_ | refine Bt hG Y Y ?_)
      | (show AOp _ _ ⟨_, .convert _ _ _, _, _, _, _⟩ _ _ _; first | refine Br hG Y Y Y Y Y (by omega) ?_ | refine By hG Y Y Y Y Y ?_)
      | (show AOp _ _ ⟨_, .slice _ _ _ _ _, _, _, _, _⟩ _ _ _; first | refine Bk hG Y Y Y Y Y Y Y (by omega) ?_ | refine Bu hG Y Y Y Y Y Y Y (by omega) ?_ | refine r_sl hG Y Y ?_)
      | (show AOp _ _ ⟨_, .buildSlice _ _ _, _, _, _, _⟩ _ _ _; first | refine r_mk (sz := 1) hG Y Y Y Y Y Y Y ?_)
      | (show AOp _ _ ⟨_, .store _ _ _, _, _, _, _⟩ _ _ _; first | refine Bb 0 hG Y Y Y Y Y Y Y ?_ | refine Bb 1 hG Y Y Y Y Y Y Y ?_)
      | refine r_q hG Y Y Y ?_); refine ke _ _ ?_)
    | (refine el_nil ⟨_, Y⟩ ?_; show AL _ _ _ _ _ _ _ _) | fail)
      refine el_consN ⟨_, rfl⟩ rfl rfl rfl (fun K ke => ?_)
      refine Bb 0 hG rfl rfl rfl rfl rfl rfl rfl ?_
      refine ke (.tup []) _ ?_
      refine el_nil ⟨_, rfl⟩ ?_
      show AL _ _ _ _ _ _ _ _
      repeat' (first
    | ((first | (show AL _ _ _ _ _ _ _ _; refine Ae Y ?_) | (show DL _ _ _ _ _ _ _; refine' Bx Y Y (fun K kk => ?_) ?_; try (show Go.Ts.T; rotate_left))); (first
      | (show AOp _ _ ⟨_, .move _, _, _, _, _⟩ _ _ _; refine Al hG Y Y ?_)
      | (show AOp _ _ ⟨_, .assign _, _, _, _, _⟩ _ _ _; refine A9 hG Y Y ?_)
      | (show AOp _ _ ⟨_, .call ⟨.builtin .len, _, _⟩, _, _, _, _⟩ _ _ _; first | refine Az hG Y Y Y Y ?_ | refine Bd hG Y Y Y Y Y ?_)
      | (show AOp _ _ ⟨_, .binOp _ _ _ _ _, _, _, _, _⟩ _ _ _; first | refine Ap hG Y Y Y Y Y (by omega) ?_ | refine Aq hG Y Y Y Y Y (by omega) ?_ | ((fail_if_success have := kk); refine Av hG Y Y Y Y Y (fun h => ?_) (fun h => ?_)))
      | (show AOp _ _ ⟨_, .load _ _, _, _, _, _⟩ _ _ _; first | refine Bf hG Y Y Y ?_ | refine Ax 0 hG Y Y Y Y ?_ | refine Ax 1 hG Y Y Y Y ?_)
      | (show AOp _ _ ⟨_, .indexAddr _ _ _, _, _, _, _⟩ _ _ _; first | refine r_idx0 hG Y Y Y Y Y Y Y ?_ | refine Bg hG Y Y Y Y Y Y Y (by omega) ?_ | refine Bh hG Y Y Y Y Y Y Y (by omega) ?_ | refine Bt hG Y Y ?_)
      | (show AOp _ _ ⟨_, .convert _ _ _, _, _, _, _⟩ _ _ _; first | refine Br hG Y Y Y Y Y (by omega) ?_ | refine By hG Y Y Y Y Y ?_)
      | (show AOp _ _ ⟨_, .slice _ _ _ _ _, _, _, _, _⟩ _ _ _; first | refine Bk hG Y Y Y Y Y Y Y (by omega) ?_ | refine Bu hG Y Y Y Y Y Y Y (by omega) ?_ | refine r_sl hG Y Y ?_)
      | (show AOp _ _ ⟨_, .buildSlice _ _ _, _, _, _, _⟩ _ _ _; first | refine r_mk (sz := 1) hG Y Y Y Y Y Y Y ?_)
      | (show AOp _ _ ⟨_, .store _ _ _, _, _, _, _⟩ _ _ _; first | refine Bb 0 hG Y Y Y Y Y Y Y ?_ | refine Bb 1 hG Y Y Y Y Y Y Y ?_)
      | refine r_q hG Y Y Y ?_); try exact kk)
    | (show AL _ _ _ _ _ _ _ _; first | refine Bj Y Y Y ?_ | (refine As ?_; first | show AW _ _ _ _ _ _ | show ∃ x', _ < _ ∧ _)) | (show AW _ _ (.seq _ _) _ _ _; refine Ah ?_; intro Q1) | (show AW _ _ (.region _ _ false) _ _ _; refine Ad ?_; intro O1) | (show AW _ _ (.cond _ _ _) _ _ _; first | refine Aj Y ?_ | refine Ai Y ?_) | (show AW _ _ (.skip) _ _ _; refine Ak ?_; first | show AW _ _ _ _ _ _ | show ∃ x', _ < _ ∧ _) | (show AW _ _ (.goto _) _ _ _; refine Bz ?_; try dsimp only [Aw, Aa, Au, Ac]) | (show AW _ _ (.ret) _ _ _; refine Ar ?_; try dsimp only [Aw, Aa, Au, Ac])
    | (show DL _ _ _ _ _ _ _; refine dl_d Y Y (fun K kt kf => Av hG Y Y Y Y Y kt kf) (fun h => ?_) (fun h => ?_))
    | (show DL _ _ _ _ _ _ _; refine dl_s Y Y Y ?_) | (show DL _ _ _ _ _ _ _; refine B3 ?_; first | show AW _ _ _ _ _ _ | show ∃ x', _ < _ ∧ _) | (show AW _ _ (.region _ _ true) _ _ _; refine Bq mix (by kernel_rfl) ?_; intro O1) | fail)
      refine ⟨rfl, ⟨1, by omega, fun _ => h1, fun h => by omega, fun h => by omega⟩, by dsimp only; omega, ?_, .refl _⟩
      exact .cons rfl (.cons rfl (.nil _))
    · dsimp only
      have h1 := g1 (by decide)
      clear g1 g2 g3
      have n1 := o1_number (b := b.drop 2) (n := 2) (m := 2) (rest := [A0, A1, A2, A3, A4, A5, A6, .int .i64 (beV (b.take 2)), .int .i64 0, .int .i64 0, .nilsl, .nilsl, .nilsl]) rfl (by omega) (by rw [List.length_drop]; omega)
      repeat' (first
    | ((first | (show AL _ _ _ _ _ _ _ _; refine Ae Y ?_) | (show DL _ _ _ _ _ _ _; refine' Bx Y Y (fun K kk => ?_) ?_; try (show Go.Ts.T; rotate_left))); (first
      | (show AOp _ _ ⟨_, .move _, _, _, _, _⟩ _ _ _; refine Al hG Y Y ?_)
      | (show AOp _ _ ⟨_, .assign _, _, _, _, _⟩ _ _ _; refine A9 hG Y Y ?_)
      | (show AOp _ _ ⟨_, .call ⟨.builtin .len, _, _⟩, _, _, _, _⟩ _ _ _; first | refine Az hG Y Y Y Y ?_ | refine Bd hG Y Y Y Y Y ?_)
      | (show AOp _ _ ⟨_, .binOp _ _ _ _ _, _, _, _, _⟩ _ _ _; first | refine Ap hG Y Y Y Y Y (by omega) ?_ | refine Aq hG Y Y Y Y Y (by omega) ?_ | ((fail_if_success have := kk); refine Av hG Y Y Y Y Y (fun h => ?_) (fun h => ?_)))
      | (show AOp _ _ ⟨_, .load _ _, _, _, _, _⟩ _ _ _; first | refine Bf hG Y Y Y ?_ | refine Ax 0 hG Y Y Y Y ?_ | refine Ax 1 hG Y Y Y Y ?_)
      | (show AOp _ _ ⟨_, .indexAddr _ _ _, _, _, _, _⟩ _ _ _; first | refine r_idx0 hG Y Y Y Y Y Y Y ?_ | refine Bg hG Y Y Y Y Y Y Y (by omega) ?_ | refine Bh hG Y Y Y Y Y Y Y (by omega) ?_ | refine Bt hG Y Y ?_)
      | (show AOp _ _ ⟨_, .convert _ _ _, _, _, _, _⟩ _ _ _; first | refine Br hG Y Y Y Y Y (by omega) ?_ | refine By hG Y Y Y Y Y ?_)
      | (show AOp _ _ ⟨_, .slice _ _ _ _ _, _, _, _, _⟩ _ _ _; first | refine Bk hG Y Y Y Y Y Y Y (by omega) ?_ | refine Bu hG Y Y Y Y Y Y Y (by omega) ?_ | refine r_sl hG Y Y ?_)
      | (show AOp _ _ ⟨_, .buildSlice _ _ _, _, _, _, _⟩ _ _ _; first | refine r_mk (sz := 1) hG Y Y Y Y Y Y Y ?_)
      | (show AOp _ _ ⟨_, .store _ _ _, _, _, _, _⟩ _ _ _; first | refine Bb 0 hG Y Y Y Y Y Y Y ?_ | refine Bb 1 hG Y Y Y Y Y Y Y ?_)
      | refine r_q hG Y Y Y ?_); try exact kk)
    | (show AL _ _ _ _ _ _ _ _; first | refine Bj Y Y Y ?_ | (refine As ?_; first | show AW _ _ _ _ _ _ | show ∃ x', _ < _ ∧ _)) | (show AW _ _ (.seq _ _) _ _ _; refine Ah ?_; intro Q1) | (show AW _ _ (.region _ _ false) _ _ _; refine Ad ?_; intro O1) | (show AW _ _ (.cond _ _ _) _ _ _; first | refine Aj Y ?_ | refine Ai Y ?_) | (show AW _ _ (.skip) _ _ _; refine Ak ?_; first | show AW _ _ _ _ _ _ | show ∃ x', _ < _ ∧ _) | (show AW _ _ (.goto _) _ _ _; refine Bz ?_; try dsimp only [Aw, Aa, Au, Ac]) | (show AW _ _ (.ret) _ _ _; refine Ar ?_; try dsimp only [Aw, Aa, Au, Ac])
    | (show DL _ _ _ _ _ _ _; refine dl_d Y Y (fun K kt kf => Av hG Y Y Y Y Y kt kf) (fun h => ?_) (fun h => ?_))
    | (show DL _ _ _ _ _ _ _; refine dl_s Y Y Y ?_) | (show DL _ _ _ _ _ _ _; refine B3 ?_; first | show AW _ _ _ _ _ _ | show ∃ x', _ < _ ∧ _) | (show AW _ _ (.region _ _ true) _ _ _; refine Bq mix (by kernel_rfl) ?_; intro O1) | fail)
      refine Ae rfl (r_mut rfl rfl rfl rfl rfl (.refl _) n1 (fun r cs' hr => ?_))
      by_cases h2 : (b.drop 2).length < 2
      · rw [if_pos h2] at hr
        obtain ⟨rfl, rfl⟩ := hr
        have hh : boxF b = .no 3 := by rw [boxF, if_neg h1, if_pos h2]
        repeat' (first
    | ((first | (show AL _ _ _ _ _ _ _ _; refine Ae Y ?_) | (show DL _ _ _ _ _ _ _; refine' Bx Y Y (fun K kk => ?_) ?_; try (show Go.Ts.T; rotate_left))); (first
      | (show AOp _ _ ⟨_, .move _, _, _, _, _⟩ _ _ _; refine Al hG Y Y ?_)
      | (show AOp _ _ ⟨_, .assign _, _, _, _, _⟩ _ _ _; refine A9 hG Y Y ?_)
      | (show AOp _ _ ⟨_, .call ⟨.builtin .len, _, _⟩, _, _, _, _⟩ _ _ _; first | refine Az hG Y Y Y Y ?_ | refine Bd hG Y Y Y Y Y ?_)
      | (show AOp _ _ ⟨_, .binOp _ _ _ _ _, _, _, _, _⟩ _ _ _; first | refine Ap hG Y Y Y Y Y (by omega) ?_ | refine Aq hG Y Y Y Y Y (by omega) ?_ | ((fail_if_success have := kk); refine Av hG Y Y Y Y Y (fun h => ?_) (fun h => ?_)))
      | (show AOp _ _ ⟨_, .load _ _, _, _, _, _⟩ _ _ _; first | refine Bf hG Y Y Y ?_ | refine Ax 0 hG Y Y Y Y ?_ | refine Ax 1 hG Y Y Y Y ?_)
      | (show AOp _ _ ⟨_, .indexAddr _ _ _, _, _, _, _⟩ _ _ _; first | refine r_idx0 hG Y Y Y Y Y Y Y ?_ | refine Bg hG Y Y Y Y Y Y Y (by omega) ?_ | refine Bh hG Y Y Y Y Y Y Y (by omega) ?_ | refine Bt hG Y Y ?_)
      | (show AOp _ _ ⟨_, .convert _ _ _, _, _, _, _⟩ _ _ _; first | refine Br hG Y Y Y Y Y (by omega) ?_ | refine By hG Y Y Y Y Y ?_)
      | (show AOp _ _ ⟨_, .slice _ _ _ _ _, _, _, _, _⟩ _ _ _; first | refine Bk hG Y Y Y Y Y Y Y (by omega) ?_ | refine Bu hG Y Y Y Y Y Y Y (by omega) ?_ | refine r_sl hG Y Y ?_)
      | (show AOp _ _ ⟨_, .buildSlice _ _ _, _, _, _, _⟩ _ _ _; first | refine r_mk (sz := 1) hG Y Y Y Y Y Y Y ?_)
      | (show AOp _ _ ⟨_, .store _ _ _, _, _, _, _⟩ _ _ _; first | refine Bb 0 hG Y Y Y Y Y Y Y ?_ | refine Bb 1 hG Y Y Y Y Y Y Y ?_)
      | refine r_q hG Y Y Y ?_); try exact kk)
    | (show AL _ _ _ _ _ _ _ _; first | refine Bj Y Y Y ?_ | (refine As ?_; first | show AW _ _ _ _ _ _ | show ∃ x', _ < _ ∧ _)) | (show AW _ _ (.seq _ _) _ _ _; refine Ah ?_; intro Q1) | (show AW _ _ (.region _ _ false) _ _ _; refine Ad ?_; intro O1) | (show AW _ _ (.cond _ _ _) _ _ _; first | refine Aj Y ?_ | refine Ai Y ?_) | (show AW _ _ (.skip) _ _ _; refine Ak ?_; first | show AW _ _ _ _ _ _ | show ∃ x', _ < _ ∧ _) | (show AW _ _ (.goto _) _ _ _; refine Bz ?_; try dsimp only [Aw, Aa, Au, Ac]) | (show AW _ _ (.ret) _ _ _; refine Ar ?_; try dsimp only [Aw, Aa, Au, Ac])
    | (show DL _ _ _ _ _ _ _; refine dl_d Y Y (fun K kt kf => Av hG Y Y Y Y Y kt kf) (fun h => ?_) (fun h => ?_))
    | (show DL _ _ _ _ _ _ _; refine dl_s Y Y Y ?_) | (show DL _ _ _ _ _ _ _; refine B3 ?_; first | show AW _ _ _ _ _ _ | show ∃ x', _ < _ ∧ _) | (show AW _ _ (.region _ _ true) _ _ _; refine Bq mix (by kernel_rfl) ?_; intro O1) | fail)
        exact ret_mut 0 (Ao rfl A8) rfl (.refl _) rfl ⟨by rw [hh]; rfl, fun h => by rw [hh] at h; exact absurd h (by decide)⟩
      rw [if_neg h2] at hr
      obtain ⟨rfl, rfl⟩ := hr
      have v1 := beV2 (b.drop 2) (by omega)
      repeat' (first
    | ((first | (show AL _ _ _ _ _ _ _ _; refine Ae Y ?_) | (show DL _ _ _ _ _ _ _; refine' Bx Y Y (fun K kk => ?_) ?_; try (show Go.Ts.T; rotate_left))); (first
      | (show AOp _ _ ⟨_, .move _, _, _, _, _⟩ _ _ _; refine Al hG Y Y ?_)
      | (show AOp _ _ ⟨_, .assign _, _, _, _, _⟩ _ _ _; refine A9 hG Y Y ?_)
      | (show AOp _ _ ⟨_, .call ⟨.builtin .len, _, _⟩, _, _, _, _⟩ _ _ _; first | refine Az hG Y Y Y Y ?_ | refine Bd hG Y Y Y Y Y ?_)
      | (show AOp _ _ ⟨_, .binOp _ _ _ _ _, _, _, _, _⟩ _ _ _; first | refine Ap hG Y Y Y Y Y (by omega) ?_ | refine Aq hG Y Y Y Y Y (by omega) ?_ | ((fail_if_success have := kk); refine Av hG Y Y Y Y Y (fun h => ?_) (fun h => ?_)))
      | (show AOp _ _ ⟨_, .load _ _, _, _, _, _⟩ _ _ _; first | refine Bf hG Y Y Y ?_ | refine Ax 0 hG Y Y Y Y ?_ | refine Ax 1 hG Y Y Y Y ?_)
      | (show AOp _ _ ⟨_, .indexAddr _ _ _, _, _, _, _⟩ _ _ _; first | refine r_idx0 hG Y Y Y Y Y Y Y ?_ | refine Bg hG Y Y Y Y Y Y Y (by omega) ?_ | refine Bh hG Y Y Y Y Y Y Y (by omega) ?_ | refine Bt hG Y Y ?_)
      | (show AOp _ _ ⟨_, .convert _ _ _, _, _, _, _⟩ _ _ _; first | refine Br hG Y Y Y Y Y (by omega) ?_ | refine By hG Y Y Y Y Y ?_)
      | (show AOp _ _ ⟨_, .slice _ _ _ _ _, _, _, _, _⟩ _ _ _; first | refine Bk hG Y Y Y Y Y Y Y (by omega) ?_ | refine Bu hG Y Y Y Y Y Y Y (by omega) ?_ | refine r_sl hG Y Y ?_)
      | (show AOp _ _ ⟨_, .buildSlice _ _ _, _, _, _, _⟩ _ _ _; first | refine r_mk (sz := 1) hG Y Y Y Y Y Y Y ?_)
      | (show AOp _ _ ⟨_, .store _ _ _, _, _, _, _⟩ _ _ _; first | refine Bb 0 hG Y Y Y Y Y Y Y ?_ | refine Bb 1 hG Y Y Y Y Y Y Y ?_)
      | refine r_q hG Y Y Y ?_); try exact kk)
    | (show AL _ _ _ _ _ _ _ _; first | refine Bj Y Y Y ?_ | (refine As ?_; first | show AW _ _ _ _ _ _ | show ∃ x', _ < _ ∧ _)) | (show AW _ _ (.seq _ _) _ _ _; refine Ah ?_; intro Q1) | (show AW _ _ (.region _ _ false) _ _ _; refine Ad ?_; intro O1) | (show AW _ _ (.cond _ _ _) _ _ _; first | refine Aj Y ?_ | refine Ai Y ?_) | (show AW _ _ (.skip) _ _ _; refine Ak ?_; first | show AW _ _ _ _ _ _ | show ∃ x', _ < _ ∧ _) | (show AW _ _ (.goto _) _ _ _; refine Bz ?_; try dsimp only [Aw, Aa, Au, Ac]) | (show AW _ _ (.ret) _ _ _; refine Ar ?_; try dsimp only [Aw, Aa, Au, Ac])
    | (show DL _ _ _ _ _ _ _; refine dl_d Y Y (fun K kt kf => Av hG Y Y Y Y Y kt kf) (fun h => ?_) (fun h => ?_))
    | (show DL _ _ _ _ _ _ _; refine dl_s Y Y Y ?_) | (show DL _ _ _ _ _ _ _; refine B3 ?_; first | show AW _ _ _ _ _ _ | show ∃ x', _ < _ ∧ _) | (show AW _ _ (.region _ _ true) _ _ _; (fail_if_success show AW _ _ (.region 7 _ _) _ _ _); refine Bq mix (by kernel_rfl) ?_; intro O1) | fail)
      refine aw_drawE' (m := 10) [8] (fun σ => ∃ c, σ = ⟨[(i, .cells c)], [], off, none⟩) mix rfl (by repeat (first | exact Sp.zero _ | apply Sp.succ)) ?_; intro O1 F1 Z1 Q2
      repeat' (first
    | (refine' dq_cons Y Y Y (fun σ hσ K kk => ?_) ?_; (try (show Go.Ts.T; rotate_left)); (obtain ⟨R, rfl⟩ := hσ); (first
      | (show AOp _ _ ⟨_, .move _, _, _, _, _⟩ _ _ _; refine Al hG Y Y ?_)
      | (show AOp _ _ ⟨_, .assign _, _, _, _, _⟩ _ _ _; refine A9 hG Y Y ?_)
      | (show AOp _ _ ⟨_, .call ⟨.builtin .len, _, _⟩, _, _, _, _⟩ _ _ _; first | refine Az hG Y Y Y Y ?_ | refine Bd hG Y Y Y Y Y ?_)
      | (show AOp _ _ ⟨_, .binOp _ _ _ _ _, _, _, _, _⟩ _ _ _; first | refine Ap hG Y Y Y Y Y (by omega) ?_ | refine Aq hG Y Y Y Y Y (by omega) ?_)
      | (show AOp _ _ ⟨_, .load _ _, _, _, _, _⟩ _ _ _; first | refine Bf hG Y Y Y ?_ | refine Ax 0 hG Y Y Y Y ?_ | refine Ax 1 hG Y Y Y Y ?_)
      | (show AOp _ _ ⟨_, .indexAddr _ _ _, _, _, _, _⟩ _ _ _; first | refine r_idx0 hG Y Y Y Y Y Y Y ?_ | refine Bg hG Y Y Y Y Y Y Y (by omega) ?_ | refine Bh hG Y Y Y Y Y Y Y (by omega) ?_ | refine Bt hG Y Y ?_)
      | (show AOp _ _ ⟨_, .convert _ _ _, _, _, _, _⟩ _ _ _; first | refine Br hG Y Y Y Y Y (by omega) ?_ | refine By hG Y Y Y Y Y ?_)
      | (show AOp _ _ ⟨_, .slice _ _ _ _ _, _, _, _, _⟩ _ _ _; first | refine Bk hG Y Y Y Y Y Y Y (by omega) ?_ | refine Bu hG Y Y Y Y Y Y Y (by omega) ?_ | refine r_sl hG Y Y ?_)
      | (show AOp _ _ ⟨_, .buildSlice _ _ _, _, _, _, _⟩ _ _ _; first | refine r_mk (sz := 1) hG Y Y Y Y Y Y Y ?_)
      | (show AOp _ _ ⟨_, .store _ _ _, _, _, _, _⟩ _ _ _; first | refine Bb 0 hG Y Y Y Y Y Y Y ?_ | refine Bb 1 hG Y Y Y Y Y Y Y ?_)
      | refine r_q hG Y Y Y ?_); exact kk)
    | refine dq_d Y Y Y (fun σ hσ K kt kf => by obtain ⟨R, rfl⟩ := hσ; exact Av hG Y Y Y Y Y kt kf) (fun h => ?_) (fun h => ?_)
    | refine dq_d Y Y Y (fun σ hσ K kt kf => by obtain ⟨R, rfl⟩ := hσ; exact r_str hG Y Y Y Y kt kf) (fun h => ?_) (fun h => ?_)
    | refine dq_s Y Y Y Y ?_ | refine dq_e Y ?_ | (refine dq_nil ?_; show EL _ _ _ _ _ _ _ _ _) | refine el_s ⟨_, Y⟩ Y Y Y Y ?_
    | ((first | refine el_cons ⟨_, Y⟩ Y Y Y (fun K ke => ?_) | refine el_consN ⟨_, Y⟩ Y Y Y (fun K ke => ?_)); (first
      | (show AOp _ _ ⟨_, .move _, _, _, _, _⟩ _ _ _; refine Al hG Y Y ?_)
      | (show AOp _ _ ⟨_, .assign _, _, _, _, _⟩ _ _ _; refine A9 hG Y Y ?_)
      | (show AOp _ _ ⟨_, .call ⟨.builtin .len, _, _⟩, _, _, _, _⟩ _ _ _; first | refine Az hG Y Y Y Y ?_ | refine Bd hG Y Y Y Y Y ?_)
      | (show AOp _ _ ⟨_, .binOp _ _ _ _ _, _, _, _, _⟩ _ _ _; first | refine Ap hG Y Y Y Y Y (by omega) ?_ | refine Aq hG Y Y Y Y Y (by omega) ?_)
      | (show AOp _ _ ⟨_, .load _ _, _, _, _, _⟩ _ _ _; first | refine Bf hG Y Y Y ?_ | refine Ax 0 hG Y Y Y Y ?_ | refine Ax 1 hG Y Y Y Y ?_)
      | (show AOp _ _ ⟨_, .indexAddr _ _ _, _, _, _, _⟩ _ _ _; first | refine r_idx0 hG Y Y Y Y Y Y Y ?_ | refine Bg hG Y Y Y Y Y Y Y (by omega) ?_ | refine Bh hG Y Y Y Y Y Y Y (by omega) ?_ | refine Bt hG Y Y ?_)
      | (show AOp _ _ ⟨_, .convert _ _ _, _, _, _, _⟩ _ _ _; first | refine Br hG Y Y Y Y Y (by omega) ?_ | refine By hG Y Y Y Y Y ?_)
      | (show AOp _ _ ⟨_, .slice _ _ _ _ _, _, _, _, _⟩ _ _ _; first | refine Bk hG Y Y Y Y Y Y Y (by omega) ?_ | refine Bu hG Y Y Y Y Y Y Y (by omega) ?_ | refine r_sl hG Y Y ?_)
      | (show AOp _ _ ⟨_, .buildSlice _ _ _, _, _, _, _⟩ _ _ _; first | refine r_mk (sz := 1) hG Y Y Y Y Y Y Y ?_)
      | (show AOp _ _ ⟨_, .store _ _ _, _, _, _, _⟩ _ _ _; first | refine Bb 0 hG Y Y Y Y Y Y Y ?_ | refine Bb 1 hG Y Y Y Y Y Y Y ?_)
      | refine r_q hG Y Y Y ?_); refine ke _ _ ?_)
    | (refine el_nil ⟨_, Y⟩ ?_; show AL _ _ _ _ _ _ _ _) | fail)
      refine el_consN ⟨_, rfl⟩ rfl rfl rfl (fun K ke => ?_)
      refine Bb 0 hG rfl rfl rfl rfl rfl rfl rfl ?_
      refine ke (.tup []) _ ?_
      refine el_nil ⟨_, rfl⟩ ?_
      show AL _ _ _ _ _ _ _ _
      repeat' (first
    | ((first | (show AL _ _ _ _ _ _ _ _; refine Ae Y ?_) | (show DL _ _ _ _ _ _ _; refine' Bx Y Y (fun K kk => ?_) ?_; try (show Go.Ts.T; rotate_left))); (first
      | (show AOp _ _ ⟨_, .move _, _, _, _, _⟩ _ _ _; refine Al hG Y Y ?_)
      | (show AOp _ _ ⟨_, .assign _, _, _, _, _⟩ _ _ _; refine A9 hG Y Y ?_)
      | (show AOp _ _ ⟨_, .call ⟨.builtin .len, _, _⟩, _, _, _, _⟩ _ _ _; first | refine Az hG Y Y Y Y ?_ | refine Bd hG Y Y Y Y Y ?_)
      | (show AOp _ _ ⟨_, .binOp _ _ _ _ _, _, _, _, _⟩ _ _ _; first | refine Ap hG Y Y Y Y Y (by omega) ?_ | refine Aq hG Y Y Y Y Y (by omega) ?_ | ((fail_if_success have := kk); refine Av hG Y Y Y Y Y (fun h => ?_) (fun h => ?_)))
      | (show AOp _ _ ⟨_, .load _ _, _, _, _, _⟩ _ _ _; first | refine Bf hG Y Y Y ?_ | refine Ax 0 hG Y Y Y Y ?_ | refine Ax 1 hG Y Y Y Y ?_)
      | (show AOp _ _ ⟨_, .indexAddr _ _ _, _, _, _, _⟩ _ _ _; first | refine r_idx0 hG Y Y Y Y Y Y Y ?_ | refine Bg hG Y Y Y Y Y Y Y (by omega) ?_ | refine Bh hG Y Y Y Y Y Y Y (by omega) ?_ | refine Bt hG Y Y ?_)
      | (show AOp _ _ ⟨_, .convert _ _ _, _, _, _, _⟩ _ _ _; first | refine Br hG Y Y Y Y Y (by omega) ?_ | refine By hG Y Y Y Y Y ?_)
      | (show AOp _ _ ⟨_, .slice _ _ _ _ _, _, _, _, _⟩ _ _ _; first | refine Bk hG Y Y Y Y Y Y Y (by omega) ?_ | refine Bu hG Y Y Y Y Y Y Y (by omega) ?_ | refine r_sl hG Y Y ?_)
      | (show AOp _ _ ⟨_, .buildSlice _ _ _, _, _, _, _⟩ _ _ _; first | refine r_mk (sz := 1) hG Y Y Y Y Y Y Y ?_)
      | (show AOp _ _ ⟨_, .store _ _ _, _, _, _, _⟩ _ _ _; first | refine Bb 0 hG Y Y Y Y Y Y Y ?_ | refine Bb 1 hG Y Y Y Y Y Y Y ?_)
      | refine r_q hG Y Y Y ?_); try exact kk)
    | (show AL _ _ _ _ _ _ _ _; first | refine Bj Y Y Y ?_ | (refine As ?_; first | show AW _ _ _ _ _ _ | show ∃ x', _ < _ ∧ _)) | (show AW _ _ (.seq _ _) _ _ _; refine Ah ?_; intro Q1) | (show AW _ _ (.region _ _ false) _ _ _; refine Ad ?_; intro O1) | (show AW _ _ (.cond _ _ _) _ _ _; first | refine Aj Y ?_ | refine Ai Y ?_) | (show AW _ _ (.skip) _ _ _; refine Ak ?_; first | show AW _ _ _ _ _ _ | show ∃ x', _ < _ ∧ _) | (show AW _ _ (.goto _) _ _ _; refine Bz ?_; try dsimp only [Aw, Aa, Au, Ac]) | (show AW _ _ (.ret) _ _ _; refine Ar ?_; try dsimp only [Aw, Aa, Au, Ac])
    | (show DL _ _ _ _ _ _ _; refine dl_d Y Y (fun K kt kf => Av hG Y Y Y Y Y kt kf) (fun h => ?_) (fun h => ?_))
    | (show DL _ _ _ _ _ _ _; refine dl_s Y Y Y ?_) | (show DL _ _ _ _ _ _ _; refine B3 ?_; first | show AW _ _ _ _ _ _ | show ∃ x', _ < _ ∧ _) | (show AW _ _ (.region _ _ true) _ _ _; refine Bq mix (by kernel_rfl) ?_; intro O1) | fail)
      refine ⟨rfl, ⟨2, by omega, fun _ => h1, fun _ => h2, fun h => by omega⟩, by dsimp only; omega, ?_, .refl _⟩
      exact .cons rfl (.cons rfl (.nil _))
    · dsimp only
      have h1 := g1 (by decide)
      have h2 := g2 (by decide)
      clear g1 g2 g3
      have n1 := o1_number (b := (b.drop 2).drop 2) (n := 2) (m := 2) (rest := [A0, A1, A2, A3, A4, A5, A6, .int .i64 (beV (b.take 2)), .int .i64 (beV ((b.drop 2).take 2)), .int .i64 0, .nilsl, .nilsl, .nilsl]) rfl (by omega) (by rw [List.length_drop, List.length_drop]; omega)
      repeat' (first
    | ((first | (show AL _ _ _ _ _ _ _ _; refine Ae Y ?_) | (show DL _ _ _ _ _ _ _; refine' Bx Y Y (fun K kk => ?_) ?_; try (show Go.Ts.T; rotate_left))); (first
      | (show AOp _ _ ⟨_, .move _, _, _, _, _⟩ _ _ _; refine Al hG Y Y ?_)
      | (show AOp _ _ ⟨_, .assign _, _, _, _, _⟩ _ _ _; refine A9 hG Y Y ?_)
      | (show AOp _ _ ⟨_, .call ⟨.builtin .len, _, _⟩, _, _, _, _⟩ _ _ _; first | refine Az hG Y Y Y Y ?_ | refine Bd hG Y Y Y Y Y ?_)
      | (show AOp _ _ ⟨_, .binOp _ _ _ _ _, _, _, _, _⟩ _ _ _; first | refine Ap hG Y Y Y Y Y (by omega) ?_ | refine Aq hG Y Y Y Y Y (by omega) ?_ | ((fail_if_success have := kk); refine Av hG Y Y Y Y Y (fun h => ?_) (fun h => ?_)))
      | (show AOp _ _ ⟨_, .load _ _, _, _, _, _⟩ _ _ _; first | refine Bf hG Y Y Y ?_ | refine Ax 0 hG Y Y Y Y ?_ | refine Ax 1 hG Y Y Y Y ?_)
      | (show AOp _ _ ⟨_, .indexAddr _ _ _, _, _, _, _⟩ _ _ _; first | refine r_idx0 hG Y Y Y Y Y Y Y ?_ | refine Bg hG Y Y Y Y Y Y Y (by omega) ?_ | refine Bh hG Y Y Y Y Y Y Y (by omega) ?_ | refine Bt hG Y Y ?_)
      | (show AOp _ _ ⟨_, .convert _ _ _, _, _, _, _⟩ _ _ _; first | refine Br hG Y Y Y Y Y (by omega) ?_ | refine By hG Y Y Y Y Y ?_)
      | (show AOp _ _ ⟨_, .slice _ _ _ _ _, _, _, _, _⟩ _ _ _; first | refine Bk hG Y Y Y Y Y Y Y (by omega) ?_ | refine Bu hG Y Y Y Y Y Y Y (by omega) ?_ | refine r_sl hG Y Y ?_)
      | (show AOp _ _ ⟨_, .buildSlice _ _ _, _, _, _, _⟩ _ _ _; first | refine r_mk (sz := 1) hG Y Y Y Y Y Y Y ?_)
      | (show AOp _ _ ⟨_, .store _ _ _, _, _, _, _⟩ _ _ _; first | refine Bb 0 hG Y Y Y Y Y Y Y ?_ | refine Bb 1 hG Y Y Y Y Y Y Y ?_)
      | refine r_q hG Y Y Y ?_); try exact kk)
    | (show AL _ _ _ _ _ _ _ _; first | refine Bj Y Y Y ?_ | (refine As ?_; first | show AW _ _ _ _ _ _ | show ∃ x', _ < _ ∧ _)) | (show AW _ _ (.seq _ _) _ _ _; refine Ah ?_; intro Q1) | (show AW _ _ (.region _ _ false) _ _ _; refine Ad ?_; intro O1) | (show AW _ _ (.cond _ _ _) _ _ _; first | refine Aj Y ?_ | refine Ai Y ?_) | (show AW _ _ (.skip) _ _ _; refine Ak ?_; first | show AW _ _ _ _ _ _ | show ∃ x', _ < _ ∧ _) | (show AW _ _ (.goto _) _ _ _; refine Bz ?_; try dsimp only [Aw, Aa, Au, Ac]) | (show AW _ _ (.ret) _ _ _; refine Ar ?_; try dsimp only [Aw, Aa, Au, Ac])
    | (show DL _ _ _ _ _ _ _; refine dl_d Y Y (fun K kt kf => Av hG Y Y Y Y Y kt kf) (fun h => ?_) (fun h => ?_))
    | (show DL _ _ _ _ _ _ _; refine dl_s Y Y Y ?_) | (show DL _ _ _ _ _ _ _; refine B3 ?_; first | show AW _ _ _ _ _ _ | show ∃ x', _ < _ ∧ _) | (show AW _ _ (.region _ _ true) _ _ _; refine Bq mix (by kernel_rfl) ?_; intro O1) | fail)
      refine Ae rfl (r_mut rfl rfl rfl rfl rfl (.refl _) n1 (fun r cs' hr => ?_))
      by_cases h3 : ((b.drop 2).drop 2).length < 2
      · rw [if_pos h3] at hr
        obtain ⟨rfl, rfl⟩ := hr
        have hh : boxF b = .no 3 := by rw [boxF, if_neg h1, if_neg h2, if_pos h3]
        repeat' (first
    | ((first | (show AL _ _ _ _ _ _ _ _; refine Ae Y ?_) | (show DL _ _ _ _ _ _ _; refine' Bx Y Y (fun K kk => ?_) ?_; try (show Go.Ts.T; rotate_left))); (first
      | (show AOp _ _ ⟨_, .move _, _, _, _, _⟩ _ _ _; refine Al hG Y Y ?_)
      | (show AOp _ _ ⟨_, .assign _, _, _, _, _⟩ _ _ _; refine A9 hG Y Y ?_)
      | (show AOp _ _ ⟨_, .call ⟨.builtin .len, _, _⟩, _, _, _, _⟩ _ _ _; first | refine Az hG Y Y Y Y ?_ | refine Bd hG Y Y Y Y Y ?_)
      | (show AOp _ _ ⟨_, .binOp _ _ _ _ _, _, _, _, _⟩ _ _ _; first | refine Ap hG Y Y Y Y Y (by omega) ?_ | refine Aq hG Y Y Y Y Y (by omega) ?_ | ((fail_if_success have := kk); refine Av hG Y Y Y Y Y (fun h => ?_) (fun h => ?_)))
      | (show AOp _ _ ⟨_, .load _ _, _, _, _, _⟩ _ _ _; first | refine Bf hG Y Y Y ?_ | refine Ax 0 hG Y Y Y Y ?_ | refine Ax 1 hG Y Y Y Y ?_)
      | (show AOp _ _ ⟨_, .indexAddr _ _ _, _, _, _, _⟩ _ _ _; first | refine r_idx0 hG Y Y Y Y Y Y Y ?_ | refine Bg hG Y Y Y Y Y Y Y (by omega) ?_ | refine Bh hG Y Y Y Y Y Y Y (by omega) ?_ | refine Bt hG Y Y ?_)
      | (show AOp _ _ ⟨_, .convert _ _ _, _, _, _, _⟩ _ _ _; first | refine Br hG Y Y Y Y Y (by omega) ?_ | refine By hG Y Y Y Y Y ?_)
      | (show AOp _ _ ⟨_, .slice _ _ _ _ _, _, _, _, _⟩ _ _ _; first | refine Bk hG Y Y Y Y Y Y Y (by omega) ?_ | refine Bu hG Y Y Y Y Y Y Y (by omega) ?_ | refine r_sl hG Y Y ?_)
      | (show AOp _ _ ⟨_, .buildSlice _ _ _, _, _, _, _⟩ _ _ _; first | refine r_mk (sz := 1) hG Y Y Y Y Y Y Y ?_)
      | (show AOp _ _ ⟨_, .store _ _ _, _, _, _, _⟩ _ _ _; first | refine Bb 0 hG Y Y Y Y Y Y Y ?_ | refine Bb 1 hG Y Y Y Y Y Y Y ?_)
      | refine r_q hG Y Y Y ?_); try exact kk)
    | (show AL _ _ _ _ _ _ _ _; first | refine Bj Y Y Y ?_ | (refine As ?_; first | show AW _ _ _ _ _ _ | show ∃ x', _ < _ ∧ _)) | (show AW _ _ (.seq _ _) _ _ _; refine Ah ?_; intro Q1) | (show AW _ _ (.region _ _ false) _ _ _; refine Ad ?_; intro O1) | (show AW _ _ (.cond _ _ _) _ _ _; first | refine Aj Y ?_ | refine Ai Y ?_) | (show AW _ _ (.skip) _ _ _; refine Ak ?_; first | show AW _ _ _ _ _ _ | show ∃ x', _ < _ ∧ _) | (show AW _ _ (.goto _) _ _ _; refine Bz ?_; try dsimp only [Aw, Aa, Au, Ac]) | (show AW _ _ (.ret) _ _ _; refine Ar ?_; try dsimp only [Aw, Aa, Au, Ac])
    | (show DL _ _ _ _ _ _ _; refine dl_d Y Y (fun K kt kf => Av hG Y Y Y Y Y kt kf) (fun h => ?_) (fun h => ?_))
    | (show DL _ _ _ _ _ _ _; refine dl_s Y Y Y ?_) | (show DL _ _ _ _ _ _ _; refine B3 ?_; first | show AW _ _ _ _ _ _ | show ∃ x', _ < _ ∧ _) | (show AW _ _ (.region _ _ true) _ _ _; refine Bq mix (by kernel_rfl) ?_; intro O1) | fail)
        exact ret_mut 0 (Ao rfl A8) rfl (.refl _) rfl ⟨by rw [hh]; rfl, fun h => by rw [hh] at h; exact absurd h (by decide)⟩
      rw [if_neg h3] at hr
      obtain ⟨rfl, rfl⟩ := hr
      have v1 := beV2 ((b.drop 2).drop 2) (by omega)
      repeat' (first
    | ((first | (show AL _ _ _ _ _ _ _ _; refine Ae Y ?_) | (show DL _ _ _ _ _ _ _; refine' Bx Y Y (fun K kk => ?_) ?_; try (show Go.Ts.T; rotate_left))); (first
      | (show AOp _ _ ⟨_, .move _, _, _, _, _⟩ _ _ _; refine Al hG Y Y ?_)
      | (show AOp _ _ ⟨_, .assign _, _, _, _, _⟩ _ _ _; refine A9 hG Y Y ?_)
      | (show AOp _ _ ⟨_, .call ⟨.builtin .len, _, _⟩, _, _, _, _⟩ _ _ _; first | refine Az hG Y Y Y Y ?_ | refine Bd hG Y Y Y Y Y ?_)
      | (show AOp _ _ ⟨_, .binOp _ _ _ _ _, _, _, _, _⟩ _ _ _; first | refine Ap hG Y Y Y Y Y (by omega) ?_ | refine Aq hG Y Y Y Y Y (by omega) ?_ | ((fail_if_success have := kk); refine Av hG Y Y Y Y Y (fun h => ?_) (fun h => ?_)))
      | (show AOp _ _ ⟨_, .load _ _, _, _, _, _⟩ _ _ _; first | refine Bf hG Y Y Y ?_ | refine Ax 0 hG Y Y Y Y ?_ | refine Ax 1 hG Y Y Y Y ?_)
      | (show AOp _ _ ⟨_, .indexAddr _ _ _, _, _, _, _⟩ _ _ _; first | refine r_idx0 hG Y Y Y Y Y Y Y ?_ | refine Bg hG Y Y Y Y Y Y Y (by omega) ?_ | refine Bh hG Y Y Y Y Y Y Y (by omega) ?_ | refine Bt hG Y Y ?_)
      | (show AOp _ _ ⟨_, .convert _ _ _, _, _, _, _⟩ _ _ _; first | refine Br hG Y Y Y Y Y (by omega) ?_ | refine By hG Y Y Y Y Y ?_)
      | (show AOp _ _ ⟨_, .slice _ _ _ _ _, _, _, _, _⟩ _ _ _; first | refine Bk hG Y Y Y Y Y Y Y (by omega) ?_ | refine Bu hG Y Y Y Y Y Y Y (by omega) ?_ | refine r_sl hG Y Y ?_)
      | (show AOp _ _ ⟨_, .buildSlice _ _ _, _, _, _, _⟩ _ _ _; first | refine r_mk (sz := 1) hG Y Y Y Y Y Y Y ?_)
      | (show AOp _ _ ⟨_, .store _ _ _, _, _, _, _⟩ _ _ _; first | refine Bb 0 hG Y Y Y Y Y Y Y ?_ | refine Bb 1 hG Y Y Y Y Y Y Y ?_)
      | refine r_q hG Y Y Y ?_); try exact kk)
    | (show AL _ _ _ _ _ _ _ _; first | refine Bj Y Y Y ?_ | (refine As ?_; first | show AW _ _ _ _ _ _ | show ∃ x', _ < _ ∧ _)) | (show AW _ _ (.seq _ _) _ _ _; refine Ah ?_; intro Q1) | (show AW _ _ (.region _ _ false) _ _ _; refine Ad ?_; intro O1) | (show AW _ _ (.cond _ _ _) _ _ _; first | refine Aj Y ?_ | refine Ai Y ?_) | (show AW _ _ (.skip) _ _ _; refine Ak ?_; first | show AW _ _ _ _ _ _ | show ∃ x', _ < _ ∧ _) | (show AW _ _ (.goto _) _ _ _; refine Bz ?_; try dsimp only [Aw, Aa, Au, Ac]) | (show AW _ _ (.ret) _ _ _; refine Ar ?_; try dsimp only [Aw, Aa, Au, Ac])
    | (show DL _ _ _ _ _ _ _; refine dl_d Y Y (fun K kt kf => Av hG Y Y Y Y Y kt kf) (fun h => ?_) (fun h => ?_))
    | (show DL _ _ _ _ _ _ _; refine dl_s Y Y Y ?_) | (show DL _ _ _ _ _ _ _; refine B3 ?_; first | show AW _ _ _ _ _ _ | show ∃ x', _ < _ ∧ _) | (show AW _ _ (.region _ _ true) _ _ _; (fail_if_success show AW _ _ (.region 7 _ _) _ _ _); refine Bq mix (by kernel_rfl) ?_; intro O1) | fail)
      refine aw_drawE' (m := 10) [8] (fun σ => ∃ c, σ = ⟨[(i, .cells c)], [], off, none⟩) mix rfl (by repeat (first | exact Sp.zero _ | apply Sp.succ)) ?_; intro O1 F1 Z1 Q2
      repeat' (first
    | (refine' dq_cons Y Y Y (fun σ hσ K kk => ?_) ?_; (try (show Go.Ts.T; rotate_left)); (obtain ⟨R, rfl⟩ := hσ); (first
      | (show AOp _ _ ⟨_, .move _, _, _, _, _⟩ _ _ _; refine Al hG Y Y ?_)
      | (show AOp _ _ ⟨_, .assign _, _, _, _, _⟩ _ _ _; refine A9 hG Y Y ?_)
      | (show AOp _ _ ⟨_, .call ⟨.builtin .len, _, _⟩, _, _, _, _⟩ _ _ _; first | refine Az hG Y Y Y Y ?_ | refine Bd hG Y Y Y Y Y ?_)
      | (show AOp _ _ ⟨_, .binOp _ _ _ _ _, _, _, _, _⟩ _ _ _; first | refine Ap hG Y Y Y Y Y (by omega) ?_ | refine Aq hG Y Y Y Y Y (by omega) ?_)
      | (show AOp _ _ ⟨_, .load _ _, _, _, _, _⟩ _ _ _; first | refine Bf hG Y Y Y ?_ | refine Ax 0 hG Y Y Y Y ?_ | refine Ax 1 hG Y Y Y Y ?_)
      | (show AOp _ _ ⟨_, .indexAddr _ _ _, _, _, _, _⟩ _ _ _; first | refine r_idx0 hG Y Y Y Y Y Y Y ?_ | refine Bg hG Y Y Y Y Y Y Y (by omega) ?_ | refine Bh hG Y Y Y Y Y Y Y (by omega) ?_ | refine Bt hG Y Y ?_)
      | (show AOp _ _ ⟨_, .convert _ _ _, _, _, _, _⟩ _ _ _; first | refine Br hG Y Y Y Y Y (by omega) ?_ | refine By hG Y Y Y Y Y ?_)
      | (show AOp _ _ ⟨_, .slice _ _ _ _ _, _, _, _, _⟩ _ _ _; first | refine Bk hG Y Y Y Y Y Y Y (by omega) ?_ | refine Bu hG Y Y Y Y Y Y Y (by omega) ?_ | refine r_sl hG Y Y ?_)
      | (show AOp _ _ ⟨_, .buildSlice _ _ _, _, _, _, _⟩ _ _ _; first | refine r_mk (sz := 1) hG Y Y Y Y Y Y Y ?_)
      | (show AOp _ _ ⟨_, .store _ _ _, _, _, _, _⟩ _ _ _; first | refine Bb 0 hG Y Y Y Y Y Y Y ?_ | refine Bb 1 hG Y Y Y Y Y Y Y ?_)
      | refine r_q hG Y Y Y ?_); exact kk)
    | refine dq_d Y Y Y (fun σ hσ K kt kf => by obtain ⟨R, rfl⟩ := hσ; exact Av hG Y Y Y Y Y kt kf) (fun h => ?_) (fun h => ?_)
    | refine dq_d Y Y Y (fun σ hσ K kt kf => by obtain ⟨R, rfl⟩ := hσ; exact r_str hG Y Y Y Y kt kf) (fun h => ?_) (fun h => ?_)
    | refine dq_s Y Y Y Y ?_ | refine dq_e Y ?_ | (refine dq_nil ?_; show EL _ _ _ _ _ _ _ _ _) | refine el_s ⟨_, Y⟩ Y Y Y Y ?_
    | ((first | refine el_cons ⟨_, Y⟩ Y Y Y (fun K ke => ?_) | refine el_consN ⟨_, Y⟩ Y Y Y (fun K ke => ?_)); (first
      | (show AOp _ _ ⟨_, .move _, _, _, _, _⟩ _ _ _; refine Al hG Y Y ?_)
      | (show AOp _ _ ⟨_, .assign _, _, _, _, _⟩ _ _ _; refine A9 hG Y Y ?_)
      | (show AOp _ _ ⟨_, .call ⟨.builtin .len, _, _⟩, _, _, _, _⟩ _ _ _; first | refine Az hG Y Y Y Y ?_ | refine Bd hG Y Y Y Y Y ?_)
      | (show AOp _ _ ⟨_, .binOp _ _ _ _ _, _, _, _, _⟩ _ _ _; first | refine Ap hG Y Y Y Y Y (by omega) ?_ | refine Aq hG Y Y Y Y Y (by omega) ?_)
      | (show AOp _ _ ⟨_, .load _ _, _, _, _, _⟩ _ _ _; first | refine Bf hG Y Y Y ?_ | refine Ax 0 hG Y Y Y Y ?_ | refine Ax 1 hG Y Y Y Y ?_)
      | (show AOp _ _ ⟨_, .indexAddr _ _ _, _, _, _, _⟩ _ _ _; first | refine r_idx0 hG Y Y Y Y Y Y Y ?_ | refine Bg hG Y Y Y Y Y Y Y (by omega) ?_ | refine Bh hG Y Y Y Y Y Y Y (by omega) ?_ | refine Bt hG Y Y ?_)
      | (show AOp _ _ ⟨_, .convert _ _ _, _, _, _, _⟩ _ _ _; first | refine Br hG Y Y Y Y Y (by omega) ?_ | refine By hG Y Y Y Y Y ?_)
      | (show AOp _ _ ⟨_, .slice _ _ _ _ _, _, _, _, _⟩ _ _ _; first | refine Bk hG Y Y Y Y Y Y Y (by omega) ?_ | refine Bu hG Y Y Y Y Y Y Y (by omega) ?_ | refine r_sl hG Y Y ?_)
      | (show AOp _ _ ⟨_, .buildSlice _ _ _, _, _, _, _⟩ _ _ _; first | refine r_mk (sz := 1) hG Y Y Y Y Y Y Y ?_)
      | (show AOp _ _ ⟨_, .store _ _ _, _, _, _, _⟩ _ _ _; first | refine Bb 0 hG Y Y Y Y Y Y Y ?_ | refine Bb 1 hG Y Y Y Y Y Y Y ?_)
      | refine r_q hG Y Y Y ?_); refine ke _ _ ?_)
    | (refine el_nil ⟨_, Y⟩ ?_; show AL _ _ _ _ _ _ _ _) | fail)
      refine el_consN ⟨_, rfl⟩ rfl rfl rfl (fun K ke => ?_)
      refine Bb 0 hG rfl rfl rfl rfl rfl rfl rfl ?_
      refine ke (.tup []) _ ?_
      refine el_nil ⟨_, rfl⟩ ?_
      show AL _ _ _ _ _ _ _ _
      repeat' (first
    | ((first | (show AL _ _ _ _ _ _ _ _; refine Ae Y ?_) | (show DL _ _ _ _ _ _ _; refine' Bx Y Y (fun K kk => ?_) ?_; try (show Go.Ts.T; rotate_left))); (first
      | (show AOp _ _ ⟨_, .move _, _, _, _, _⟩ _ _ _; refine Al hG Y Y ?_)
      | (show AOp _ _ ⟨_, .assign _, _, _, _, _⟩ _ _ _; refine A9 hG Y Y ?_)
      | (show AOp _ _ ⟨_, .call ⟨.builtin .len, _, _⟩, _, _, _, _⟩ _ _ _; first | refine Az hG Y Y Y Y ?_ | refine Bd hG Y Y Y Y Y ?_)
      | (show AOp _ _ ⟨_, .binOp _ _ _ _ _, _, _, _, _⟩ _ _ _; first | refine Ap hG Y Y Y Y Y (by omega) ?_ | refine Aq hG Y Y Y Y Y (by omega) ?_ | ((fail_if_success have := kk); refine Av hG Y Y Y Y Y (fun h => ?_) (fun h => ?_)))
      | (show AOp _ _ ⟨_, .load _ _, _, _, _, _⟩ _ _ _; first | refine Bf hG Y Y Y ?_ | refine Ax 0 hG Y Y Y Y ?_ | refine Ax 1 hG Y Y Y Y ?_)
      | (show AOp _ _ ⟨_, .indexAddr _ _ _, _, _, _, _⟩ _ _ _; first | refine r_idx0 hG Y Y Y Y Y Y Y ?_ | refine Bg hG Y Y Y Y Y Y Y (by omega) ?_ | refine Bh hG Y Y Y Y Y Y Y (by omega) ?_ | refine Bt hG Y Y ?_)
      | (show AOp _ _ ⟨_, .convert _ _ _, _, _, _, _⟩ _ _ _; first | refine Br hG Y Y Y Y Y (by omega) ?_ | refine By hG Y Y Y Y Y ?_)
      | (show AOp _ _ ⟨_, .slice _ _ _ _ _, _, _, _, _⟩ _ _ _; first | refine Bk hG Y Y Y Y Y Y Y (by omega) ?_ | refine Bu hG Y Y Y Y Y Y Y (by omega) ?_ | refine r_sl hG Y Y ?_)
      | (show AOp _ _ ⟨_, .buildSlice _ _ _, _, _, _, _⟩ _ _ _; first | refine r_mk (sz := 1) hG Y Y Y Y Y Y Y ?_)
      | (show AOp _ _ ⟨_, .store _ _ _, _, _, _, _⟩ _ _ _; first | refine Bb 0 hG Y Y Y Y Y Y Y ?_ | refine Bb 1 hG Y Y Y Y Y Y Y ?_)
      | refine r_q hG Y Y Y ?_); try exact kk)
    | (show AL _ _ _ _ _ _ _ _; first | refine Bj Y Y Y ?_ | (refine As ?_; first | show AW _ _ _ _ _ _ | show ∃ x', _ < _ ∧ _)) | (show AW _ _ (.seq _ _) _ _ _; refine Ah ?_; intro Q1) | (show AW _ _ (.region _ _ false) _ _ _; refine Ad ?_; intro O1) | (show AW _ _ (.cond _ _ _) _ _ _; first | refine Aj Y ?_ | refine Ai Y ?_) | (show AW _ _ (.skip) _ _ _; refine Ak ?_; first | show AW _ _ _ _ _ _ | show ∃ x', _ < _ ∧ _) | (show AW _ _ (.goto _) _ _ _; refine Bz ?_; try dsimp only [Aw, Aa, Au, Ac]) | (show AW _ _ (.ret) _ _ _; refine Ar ?_; try dsimp only [Aw, Aa, Au, Ac])
    | (show DL _ _ _ _ _ _ _; refine dl_d Y Y (fun K kt kf => Av hG Y Y Y Y Y kt kf) (fun h => ?_) (fun h => ?_))
    | (show DL _ _ _ _ _ _ _; refine dl_s Y Y Y ?_) | (show DL _ _ _ _ _ _ _; refine B3 ?_; first | show AW _ _ _ _ _ _ | show ∃ x', _ < _ ∧ _) | (show AW _ _ (.region _ _ true) _ _ _; refine Bq mix (by kernel_rfl) ?_; intro O1) | fail)
      refine ⟨rfl, ⟨3, by omega, fun _ => h1, fun _ => h2, fun _ => h3⟩, by dsimp only; omega, ?_, .refl _⟩
      exact .cons rfl (.cons rfl (.nil _))
    · dsimp only
      have h1 := g1 (by decide)
      have h2 := g2 (by decide)
      have h3 := g3 (by decide)
      clear g1 g2 g3
      have hh : boxF b = ⟨0, beV (b.take 2), beV ((b.drop 2).take 2), beV (((b.drop 2).drop 2).take 2), [], [], [], ((b.drop 2).drop 2).drop 2⟩ := by rw [boxF, if_neg h1, if_neg h2, if_neg h3]
      repeat' (first
    | ((first | (show AL _ _ _ _ _ _ _ _; refine Ae Y ?_) | (show DL _ _ _ _ _ _ _; refine' Bx Y Y (fun K kk => ?_) ?_; try (show Go.Ts.T; rotate_left))); (first
      | (show AOp _ _ ⟨_, .move _, _, _, _, _⟩ _ _ _; refine Al hG Y Y ?_)
      | (show AOp _ _ ⟨_, .assign _, _, _, _, _⟩ _ _ _; refine A9 hG Y Y ?_)
      | (show AOp _ _ ⟨_, .call ⟨.builtin .len, _, _⟩, _, _, _, _⟩ _ _ _; first | refine Az hG Y Y Y Y ?_ | refine Bd hG Y Y Y Y Y ?_)
      | (show AOp _ _ ⟨_, .binOp _ _ _ _ _, _, _, _, _⟩ _ _ _; first | refine Ap hG Y Y Y Y Y (by omega) ?_ | refine Aq hG Y Y Y Y Y (by omega) ?_ | ((fail_if_success have := kk); refine Av hG Y Y Y Y Y (fun h => ?_) (fun h => ?_)))
      | (show AOp _ _ ⟨_, .load _ _, _, _, _, _⟩ _ _ _; first | refine Bf hG Y Y Y ?_ | refine Ax 0 hG Y Y Y Y ?_ | refine Ax 1 hG Y Y Y Y ?_)
      | (show AOp _ _ ⟨_, .indexAddr _ _ _, _, _, _, _⟩ _ _ _; first | refine r_idx0 hG Y Y Y Y Y Y Y ?_ | refine Bg hG Y Y Y Y Y Y Y (by omega) ?_ | refine Bh hG Y Y Y Y Y Y Y (by omega) ?_ | refine Bt hG Y Y ?_)
      | (show AOp _ _ ⟨_, .convert _ _ _, _, _, _, _⟩ _ _ _; first | refine Br hG Y Y Y Y Y (by omega) ?_ | refine By hG Y Y Y Y Y ?_)
      | (show AOp _ _ ⟨_, .slice _ _ _ _ _, _, _, _, _⟩ _ _ _; first | refine Bk hG Y Y Y Y Y Y Y (by omega) ?_ | refine Bu hG Y Y Y Y Y Y Y (by omega) ?_ | refine r_sl hG Y Y ?_)
      | (show AOp _ _ ⟨_, .buildSlice _ _ _, _, _, _, _⟩ _ _ _; first | refine r_mk (sz := 1) hG Y Y Y Y Y Y Y ?_)
      | (show AOp _ _ ⟨_, .store _ _ _, _, _, _, _⟩ _ _ _; first | refine Bb 0 hG Y Y Y Y Y Y Y ?_ | refine Bb 1 hG Y Y Y Y Y Y Y ?_)
      | refine r_q hG Y Y Y ?_); try exact kk)
    | (show AL _ _ _ _ _ _ _ _; first | refine Bj Y Y Y ?_ | (refine As ?_; first | show AW _ _ _ _ _ _ | show ∃ x', _ < _ ∧ _)) | (show AW _ _ (.seq _ _) _ _ _; refine Ah ?_; intro Q1) | (show AW _ _ (.region _ _ false) _ _ _; refine Ad ?_; intro O1) | (show AW _ _ (.cond _ _ _) _ _ _; first | refine Aj Y ?_ | refine Ai Y ?_) | (show AW _ _ (.skip) _ _ _; refine Ak ?_; first | show AW _ _ _ _ _ _ | show ∃ x', _ < _ ∧ _) | (show AW _ _ (.goto _) _ _ _; refine Bz ?_; try dsimp only [Aw, Aa, Au, Ac]) | (show AW _ _ (.ret) _ _ _; refine Ar ?_; try dsimp only [Aw, Aa, Au, Ac])
    | (show DL _ _ _ _ _ _ _; refine dl_d Y Y (fun K kt kf => Av hG Y Y Y Y Y kt kf) (fun h => ?_) (fun h => ?_))
    | (show DL _ _ _ _ _ _ _; refine dl_s Y Y Y ?_) | (show DL _ _ _ _ _ _ _; refine B3 ?_; first | show AW _ _ _ _ _ _ | show ∃ x', _ < _ ∧ _) | (show AW _ _ (.region _ _ true) _ _ _; refine Bq mix (by kernel_rfl) ?_; intro O1) | fail)
      exact ret_mut 0 (Ao rfl A8) rfl (.refl _) rfl ⟨by rw [hh]; rfl, fun _ => by rw [hh]; rfl⟩
  · intro key
    repeat' (first
    | ((first | (show AL _ _ _ _ _ _ _ _; refine Ae Y ?_) | (show DL _ _ _ _ _ _ _; refine' Bx Y Y (fun K kk => ?_) ?_; try (show Go.Ts.T; rotate_left))); (first
      | (show AOp _ _ ⟨_, .move _, _, _, _, _⟩ _ _ _; refine Al hG Y Y ?_)
      | (show AOp _ _ ⟨_, .assign _, _, _, _, _⟩ _ _ _; refine A9 hG Y Y ?_)
      | (show AOp _ _ ⟨_, .call ⟨.builtin .len, _, _⟩, _, _, _, _⟩ _ _ _; first | refine Az hG Y Y Y Y ?_ | refine Bd hG Y Y Y Y Y ?_)
      | (show AOp _ _ ⟨_, .binOp _ _ _ _ _, _, _, _, _⟩ _ _ _; first | refine Ap hG Y Y Y Y Y (by omega) ?_ | refine Aq hG Y Y Y Y Y (by omega) ?_ | ((fail_if_success have := kk); refine Av hG Y Y Y Y Y (fun h => ?_) (fun h => ?_)))
      | (show AOp _ _ ⟨_, .load _ _, _, _, _, _⟩ _ _ _; first | refine Bf hG Y Y Y ?_ | refine Ax 0 hG Y Y Y Y ?_ | refine Ax 1 hG Y Y Y Y ?_)
      | (show AOp _ _ ⟨_, .indexAddr _ _ _, _, _, _, _⟩ _ _ _; first | refine r_idx0 hG Y Y Y Y Y Y Y ?_ | refine Bg hG Y Y Y Y Y Y Y (by omega) ?_ | refine Bh hG Y Y Y Y Y Y Y (by omega) ?_ | refine Bt hG Y Y ?_)
      | (show AOp _ _ ⟨_, .convert _ _ _, _, _, _, _⟩ _ _ _; first | refine Br hG Y Y Y Y Y (by omega) ?_ | refine By hG Y Y Y Y Y ?_)
      | (show AOp _ _ ⟨_, .slice _ _ _ _ _, _, _, _, _⟩ _ _ _; first | refine Bk hG Y Y Y Y Y Y Y (by omega) ?_ | refine Bu hG Y Y Y Y Y Y Y (by omega) ?_ | refine r_sl hG Y Y ?_)
      | (show AOp _ _ ⟨_, .buildSlice _ _ _, _, _, _, _⟩ _ _ _; first | refine r_mk (sz := 1) hG Y Y Y Y Y Y Y ?_)
      | (show AOp _ _ ⟨_, .store _ _ _, _, _, _, _⟩ _ _ _; first | refine Bb 0 hG Y Y Y Y Y Y Y ?_ | refine Bb 1 hG Y Y Y Y Y Y Y ?_)
      | refine r_q hG Y Y Y ?_); try exact kk)
    | (show AL _ _ _ _ _ _ _ _; first | refine Bj Y Y Y ?_ | (refine As ?_; first | show AW _ _ _ _ _ _ | show ∃ x', _ < _ ∧ _)) | (show AW _ _ (.seq _ _) _ _ _; refine Ah ?_; intro Q1) | (show AW _ _ (.region _ _ false) _ _ _; refine Ad ?_; intro O1) | (show AW _ _ (.cond _ _ _) _ _ _; first | refine Aj Y ?_ | refine Ai Y ?_) | (show AW _ _ (.skip) _ _ _; refine Ak ?_; first | show AW _ _ _ _ _ _ | show ∃ x', _ < _ ∧ _) | (show AW _ _ (.goto _) _ _ _; refine Bz ?_; try dsimp only [Aw, Aa, Au, Ac]) | (show AW _ _ (.ret) _ _ _; refine Ar ?_; try dsimp only [Aw, Aa, Au, Ac])
    | (show DL _ _ _ _ _ _ _; refine dl_d Y Y (fun K kt kf => Av hG Y Y Y Y Y kt kf) (fun h => ?_) (fun h => ?_))
    | (show DL _ _ _ _ _ _ _; refine dl_s Y Y Y ?_) | (show DL _ _ _ _ _ _ _; refine B3 ?_; first | show AW _ _ _ _ _ _ | show ∃ x', _ < _ ∧ _) | (show AW _ _ (.region _ _ true) _ _ _; refine Bq mix (by kernel_rfl) ?_; intro O1) | fail)
    refine aw_label ?_
    show AW _ _ _ _ _ _
    refine aw_forget ?_ (key ⟨0, by omega, fun h => by omega, fun h => by omega, fun h => by omega⟩)
    exact .cons rfl (.consW rfl (Wk.own _ _ _) (.nil _))
theorem takeBE_3 (b : List UInt8) : (Cd b).2.2 = 0 ∧ (Cd b).2.1 ≤ b.length ∨ (Cd b).2.2 = 3 ∧ (Cd b).2.1 = 0 := by
  rcases takeBE_e b with h | h
  · exact .inl ⟨h.1, h.2.2.1⟩
  · rw [h]; exact .inr ⟨rfl, rfl⟩
theorem takeC_3 (b : List UInt8) : (takeC b).2.2 = 0 ∧ (takeC b).2.1 ≤ b.length ∨ (takeC b).2.2 ≠ 0 ∧ (takeC b).2.1 = 0 := by
  by_cases h : (takeC b).2.2 = 0
  · have q : takeC b = ((takeC b).1, (takeC b).2.1, 0) := by rw [← h]
    exact .inl ⟨h, (takeC_used q).1⟩
  · refine .inr ⟨h, ?_⟩
    unfold takeC at h ⊢
    split
    · rfl
    split
    · rfl
    split
    · rename_i h1 h2 h3; rw [if_neg h1, if_neg h2, if_pos h3] at h; exact absurd rfl h
    · rfl
theorem takeLs_e (b : List UInt8) : ∀ (n : Nat) (acc : List (List UInt8)) (p : Nat), p ≤ b.length → (takeLs b n acc p).2.2 = 0 ∧ (takeLs b n acc p).2.1 ≤ b.length ∨ (takeLs b n acc p).2.2 = 3
  | 0, acc, p, h => .inl ⟨rfl, h⟩
  | n + 1, acc, p, h => by
    rw [takeLs]
    rcases takeBE_e (b.drop p) with q | q
    · rw [if_pos q.1]
      exact takeLs_e b n _ _ (by have := q.2.2.1; rw [List.length_drop] at this; omega)
    · rw [q, if_neg (by decide)]; exact .inr rfl
theorem takeR_3 (b : List UInt8) : (takeR b).2.2 = 0 ∧ (takeR b).2.1 ≤ b.length ∨ (takeR b).2.2 ≠ 0 ∧ (takeR b).2.1 = 0 := by
  unfold takeR
  split
  · exact .inr ⟨by decide, rfl⟩
  · split
    · rename_i h1 h2
      split
      · rcases takeLs_e b (beV (b.take 1)) [] 1 (by omega) with q | q
        · exact .inl q
        · rw [q] at h2; cases h2
      · exact .inr ⟨by decide, rfl⟩
    · exact .inr ⟨by decide, rfl⟩
theorem num_TakeBytes_is {x : T} {b : List UInt8} {r : List UInt8 × Nat × Int} (hx : bytesT x = some b) (hl : b.length ≤ 4294967296) (h : Cd b = r) : Ts.Pure Try.prog 59 [x] (.tup [sT r.1, .int .i64 r.2.1, .int .i64 r.2.2]) := by
  subst h; exact num_TakeBytes hx hl
theorem o1_rest {b : List UInt8} {k : Nat} {A0 A2 A3 A4 A5 A6 : T} (hl : b.length ≤ 4294967296) (hk : 1 ≤ k ∧ k ≤ 4) :
    Mut Try.prog 37 [] [sT b, A0, .int .i64 k, A2, A3, A4, A5, A6, .int .i64 0, .int .i64 0, .int .i64 0, .nilsl, .nilsl, .nilsl] (fun u cs' => u = .int .i64 (tailF k b).e ∧ ((tailF k b).e = 0 →
      ∃ d c r, cs' = [sT (tailF k b).rest, A0, .int .i64 k, A2, A3, A4, A5, A6, .int .i64 (tailF k b).q, .int .i64 (tailF k b).u, .int .i64 (tailF k b).x, d, c, r] ∧ Wk d (sT (tailF k b).d) ∧ Wk c (cT (tailF k b).c) ∧ Wk r (lT (tailF k b).r) ∧ (d.scalar && c.scalar && r.scalar) = true)) := by
  intro off i
  refine Bp (N := 66) (rs := [.tmp 2]) hG Try.func37 rfl rfl rfl rfl rfl ?_
  by_cases k1 : k = 1
  · subst k1
    have n1 := o1_box (b := b) (A0 := A0) (A1 := .int .i64 (1 : Nat)) (A2 := A2) (A3 := A3) (A4 := A4) (A5 := A5) (A6 := A6) hl
    have hh : tailF 1 b = boxF b := rfl
    repeat' (first
    | ((show AL _ _ _ _ _ _ _ _; refine Ae Y ?_); (first
      | (show AOp _ _ ⟨_, .move _, _, _, _, _⟩ _ _ _; refine Al hG Y Y ?_)
      | (show AOp _ _ ⟨_, .assign _, _, _, _, _⟩ _ _ _; refine A9 hG Y Y ?_)
      | (show AOp _ _ ⟨_, .binOp _ _ _ _ _, _, _, _, _⟩ _ _ _; first | refine Ap hG Y Y Y Y Y (by omega) ?_ | refine Aq hG Y Y Y Y Y (by omega) ?_ | (refine Av hG Y Y Y Y Y (fun h => ?_) (fun h => ?_)))
      | (show AOp _ _ ⟨_, .load _ _, _, _, _, _⟩ _ _ _; first | refine Ax 0 hG Y Y Y Y ?_ | refine Ax 1 hG Y Y Y Y ?_)
      | (show AOp _ _ ⟨_, .slice _ _ _ _ _, _, _, _, _⟩ _ _ _; first | refine Bk hG Y Y Y Y Y Y Y (by omega) ?_ | refine Bu hG Y Y Y Y Y Y Y (by omega) ?_ | refine r_sl hG Y Y ?_)
      | (show AOp _ _ ⟨_, .store _ _ _, _, _, _, _⟩ _ _ _; first | refine Bb 0 hG Y Y Y Y Y Y Y ?_ | refine Bb 1 hG Y Y Y Y Y Y Y ?_)
      | refine r_q hG Y Y Y ?_))
    | (show AL _ _ _ _ _ _ _ _; first | refine Bj Y Y Y ?_ | (refine As ?_; first | show AW _ _ _ _ _ _ | show ∃ x', _ < _ ∧ _)) | (show AW _ _ (.seq _ _) _ _ _; refine Ah ?_; intro Q1) | (show AW _ _ (.region _ _ false) _ _ _; refine Ad ?_; intro O1) | (show AW _ _ (.cond _ _ _) _ _ _; first | refine Aj Y ?_ | refine Ai Y ?_) | (show AW _ _ (.block _ _) _ _ _; refine A7 ?_; intro Q1) | (show AW _ _ (.ret) _ _ _; refine Ar ?_; try dsimp only [Aw, Aa, Au, Ac]) | fail)
    refine Ae rfl (r_mut rfl rfl rfl rfl rfl (.refl _) n1 (fun r cs' hr => ?_))
    obtain ⟨rfl, hr⟩ := hr
    have z : (boxF b).d = [] ∧ (boxF b).c = [] ∧ (boxF b).r = [] := by unfold boxF; (repeat' split) <;> exact ⟨rfl, rfl, rfl⟩
    repeat' (first
    | ((show AL _ _ _ _ _ _ _ _; refine Ae Y ?_); (first
      | (show AOp _ _ ⟨_, .move _, _, _, _, _⟩ _ _ _; refine Al hG Y Y ?_)
      | (show AOp _ _ ⟨_, .assign _, _, _, _, _⟩ _ _ _; refine A9 hG Y Y ?_)
      | (show AOp _ _ ⟨_, .binOp _ _ _ _ _, _, _, _, _⟩ _ _ _; first | refine Ap hG Y Y Y Y Y (by omega) ?_ | refine Aq hG Y Y Y Y Y (by omega) ?_ | (refine Av hG Y Y Y Y Y (fun h => ?_) (fun h => ?_)))
      | (show AOp _ _ ⟨_, .load _ _, _, _, _, _⟩ _ _ _; first | refine Ax 0 hG Y Y Y Y ?_ | refine Ax 1 hG Y Y Y Y ?_)
      | (show AOp _ _ ⟨_, .slice _ _ _ _ _, _, _, _, _⟩ _ _ _; first | refine Bk hG Y Y Y Y Y Y Y (by omega) ?_ | refine Bu hG Y Y Y Y Y Y Y (by omega) ?_ | refine r_sl hG Y Y ?_)
      | (show AOp _ _ ⟨_, .store _ _ _, _, _, _, _⟩ _ _ _; first | refine Bb 0 hG Y Y Y Y Y Y Y ?_ | refine Bb 1 hG Y Y Y Y Y Y Y ?_)
      | refine r_q hG Y Y Y ?_))
    | (show AL _ _ _ _ _ _ _ _; first | refine Bj Y Y Y ?_ | (refine As ?_; first | show AW _ _ _ _ _ _ | show ∃ x', _ < _ ∧ _)) | (show AW _ _ (.seq _ _) _ _ _; refine Ah ?_; intro Q1) | (show AW _ _ (.region _ _ false) _ _ _; refine Ad ?_; intro O1) | (show AW _ _ (.cond _ _ _) _ _ _; first | refine Aj Y ?_ | refine Ai Y ?_) | (show AW _ _ (.block _ _) _ _ _; refine A7 ?_; intro Q1) | (show AW _ _ (.ret) _ _ _; refine Ar ?_; try dsimp only [Aw, Aa, Au, Ac]) | fail)
    try dsimp (config := { zetaDelta := true }) only [Aw, Aa, Au, Ac]
    apply ret_mut 0
    · exact Ao rfl A8
    · rfl
    · exact .refl _
    · rfl
    exact ⟨by rw [hh]; rfl, fun h => ⟨.nilsl, .nilsl, .nilsl, hr h, by rw [hh, z.1]; exact .nil 1, by rw [hh, z.2.1]; exact .nil 1, by rw [hh, z.2.2]; exact .nil 1, rfl⟩⟩
  by_cases k2 : k = 2
  · subst k2
    have hc := num_TakeBytes_is (Af b) hl rfl
    have h3 := takeBE_3 b
    have hh : tailF 2 b = (if (Cd b).2.2 = 0 then ⟨0, 0, 0, 0, (Cd b).1, [], [], b.drop (Cd b).2.1⟩ else .no (Cd b).2.2) := rfl
    generalize Cd b = t at *
    obtain ⟨s, n, e⟩ := t
    dsimp only at *
    repeat' (first
    | ((show AL _ _ _ _ _ _ _ _; refine Ae Y ?_); (first
      | (show AOp _ _ ⟨_, .move _, _, _, _, _⟩ _ _ _; refine Al hG Y Y ?_)
      | (show AOp _ _ ⟨_, .assign _, _, _, _, _⟩ _ _ _; refine A9 hG Y Y ?_)
      | (show AOp _ _ ⟨_, .binOp _ _ _ _ _, _, _, _, _⟩ _ _ _; first | refine Ap hG Y Y Y Y Y (by omega) ?_ | refine Aq hG Y Y Y Y Y (by omega) ?_ | (refine Av hG Y Y Y Y Y (fun h => ?_) (fun h => ?_)))
      | (show AOp _ _ ⟨_, .load _ _, _, _, _, _⟩ _ _ _; first | refine Ax 0 hG Y Y Y Y ?_ | refine Ax 1 hG Y Y Y Y ?_)
      | (show AOp _ _ ⟨_, .slice _ _ _ _ _, _, _, _, _⟩ _ _ _; first | refine Bk hG Y Y Y Y Y Y Y (by omega) ?_ | refine Bu hG Y Y Y Y Y Y Y (by omega) ?_ | refine r_sl hG Y Y ?_)
      | (show AOp _ _ ⟨_, .store _ _ _, _, _, _, _⟩ _ _ _; first | refine Bb 0 hG Y Y Y Y Y Y Y ?_ | refine Bb 1 hG Y Y Y Y Y Y Y ?_)
      | (show AOp _ _ ⟨_, .call ⟨.value _, _, _⟩, _, _, _, _⟩ _ _ _; first | refine Bc Y Y Y Y Y (by apply hc <;> (first | assumption | omega | exact Ab _ _ | exact Af _ | exact Ag _ _ | exact Ay _ | rfl | (simp; omega))) ?_ | fail)
      | refine r_q hG Y Y Y ?_))
    | (show AL _ _ _ _ _ _ _ _; first | refine Bj Y Y Y ?_ | (refine As ?_; first | show AW _ _ _ _ _ _ | show ∃ x', _ < _ ∧ _)) | (show AW _ _ (.seq _ _) _ _ _; refine Ah ?_; intro Q1) | (show AW _ _ (.region _ _ false) _ _ _; refine Ad ?_; intro O1) | (show AW _ _ (.cond _ _ _) _ _ _; first | refine Aj Y ?_ | refine Ai Y ?_) | (show AW _ _ (.block _ _) _ _ _; refine A7 ?_; intro Q1) | (show AW _ _ (.ret) _ _ _; refine Ar ?_; try dsimp only [Aw, Aa, Au, Ac]) | fail)
    try dsimp (config := { zetaDelta := true }) only [Aw, Aa, Au, Ac]
    apply ret_mut 0
    · exact Ao rfl A8
    · rfl
    · exact .refl _
    · rfl
    by_cases he : e = 0
    · rw [if_pos he] at hh
      exact ⟨by rw [hh, he]; rfl, fun h => ⟨_, _, _, by rw [hh]; rfl, by rw [hh]; exact .refl _, by rw [hh]; exact .nil 1, by rw [hh]; exact .nil 1, rfl⟩⟩
    · rw [if_neg he] at hh
      exact ⟨by rw [hh]; rfl, fun h => by rw [hh] at h; exact absurd h he⟩
  by_cases k3 : k = 3
  · subst k3
    have hc := cats_Take_is (x := sT b) (a := (takeC b).1) (n := (takeC b).2.1) (e := (takeC b).2.2) (Af b) hl rfl
    have h3 := takeC_3 b
    have hh : tailF 3 b = (if (takeC b).2.2 = 0 then ⟨0, 0, 0, 0, [], (takeC b).1, [], b.drop (takeC b).2.1⟩ else .no (takeC b).2.2) := rfl
    generalize takeC b = t at *
    obtain ⟨s, n, e⟩ := t
    dsimp only at *
    repeat' (first
    | ((show AL _ _ _ _ _ _ _ _; refine Ae Y ?_); (first
      | (show AOp _ _ ⟨_, .move _, _, _, _, _⟩ _ _ _; refine Al hG Y Y ?_)
      | (show AOp _ _ ⟨_, .assign _, _, _, _, _⟩ _ _ _; refine A9 hG Y Y ?_)
      | (show AOp _ _ ⟨_, .binOp _ _ _ _ _, _, _, _, _⟩ _ _ _; first | refine Ap hG Y Y Y Y Y (by omega) ?_ | refine Aq hG Y Y Y Y Y (by omega) ?_ | (refine Av hG Y Y Y Y Y (fun h => ?_) (fun h => ?_)))
      | (show AOp _ _ ⟨_, .load _ _, _, _, _, _⟩ _ _ _; first | refine Ax 0 hG Y Y Y Y ?_ | refine Ax 1 hG Y Y Y Y ?_)
      | (show AOp _ _ ⟨_, .slice _ _ _ _ _, _, _, _, _⟩ _ _ _; first | refine Bk hG Y Y Y Y Y Y Y (by omega) ?_ | refine Bu hG Y Y Y Y Y Y Y (by omega) ?_ | refine r_sl hG Y Y ?_)
      | (show AOp _ _ ⟨_, .store _ _ _, _, _, _, _⟩ _ _ _; first | refine Bb 0 hG Y Y Y Y Y Y Y ?_ | refine Bb 1 hG Y Y Y Y Y Y Y ?_)
      | (show AOp _ _ ⟨_, .call ⟨.value _, _, _⟩, _, _, _, _⟩ _ _ _; first | refine Bc Y Y Y Y Y (by apply hc <;> (first | assumption | omega | exact Ab _ _ | exact Af _ | exact Ag _ _ | exact Ay _ | rfl | (simp; omega))) ?_ | fail)
      | refine r_q hG Y Y Y ?_))
    | (show AL _ _ _ _ _ _ _ _; first | refine Bj Y Y Y ?_ | (refine As ?_; first | show AW _ _ _ _ _ _ | show ∃ x', _ < _ ∧ _)) | (show AW _ _ (.seq _ _) _ _ _; refine Ah ?_; intro Q1) | (show AW _ _ (.region _ _ false) _ _ _; refine Ad ?_; intro O1) | (show AW _ _ (.cond _ _ _) _ _ _; first | refine Aj Y ?_ | refine Ai Y ?_) | (show AW _ _ (.block _ _) _ _ _; refine A7 ?_; intro Q1) | (show AW _ _ (.ret) _ _ _; refine Ar ?_; try dsimp only [Aw, Aa, Au, Ac]) | fail)
    try dsimp (config := { zetaDelta := true }) only [Aw, Aa, Au, Ac]
    apply ret_mut 0
    · exact Ao rfl A8
    · rfl
    · exact .refl _
    · rfl
    by_cases he : e = 0
    · rw [if_pos he] at hh
      exact ⟨by rw [hh, he]; rfl, fun h => ⟨_, _, _, by rw [hh]; rfl, by rw [hh]; exact .nil 1, by rw [hh]; exact .refl _, by rw [hh]; exact .nil 1, rfl⟩⟩
    · rw [if_neg he] at hh
      exact ⟨by rw [hh]; rfl, fun h => by rw [hh] at h; exact absurd h he⟩
  · have hc := r_Take_is (x := sT b) (Af b) hl rfl
    have h3 := takeR_3 b
    have hh : tailF k b = (if (takeR b).2.2 = 0 then ⟨0, 0, 0, 0, [], [], (takeR b).1, b.drop (takeR b).2.1⟩ else .no (takeR b).2.2) := by rw [tailF, if_neg k1, if_neg k2, if_neg k3]
    generalize takeR b = t at *
    obtain ⟨s, n, e⟩ := t
    dsimp only at *
    repeat' (first
    | ((show AL _ _ _ _ _ _ _ _; refine Ae Y ?_); (first
      | (show AOp _ _ ⟨_, .move _, _, _, _, _⟩ _ _ _; refine Al hG Y Y ?_)
      | (show AOp _ _ ⟨_, .assign _, _, _, _, _⟩ _ _ _; refine A9 hG Y Y ?_)
      | (show AOp _ _ ⟨_, .binOp _ _ _ _ _, _, _, _, _⟩ _ _ _; first | refine Ap hG Y Y Y Y Y (by omega) ?_ | refine Aq hG Y Y Y Y Y (by omega) ?_ | (refine Av hG Y Y Y Y Y (fun h => ?_) (fun h => ?_)))
      | (show AOp _ _ ⟨_, .load _ _, _, _, _, _⟩ _ _ _; first | refine Ax 0 hG Y Y Y Y ?_ | refine Ax 1 hG Y Y Y Y ?_)
      | (show AOp _ _ ⟨_, .slice _ _ _ _ _, _, _, _, _⟩ _ _ _; first | refine Bk hG Y Y Y Y Y Y Y (by omega) ?_ | refine Bu hG Y Y Y Y Y Y Y (by omega) ?_ | refine r_sl hG Y Y ?_)
      | (show AOp _ _ ⟨_, .store _ _ _, _, _, _, _⟩ _ _ _; first | refine Bb 0 hG Y Y Y Y Y Y Y ?_ | refine Bb 1 hG Y Y Y Y Y Y Y ?_)
      | (show AOp _ _ ⟨_, .call ⟨.value _, _, _⟩, _, _, _, _⟩ _ _ _; first | refine Bc Y Y Y Y Y (by apply hc <;> (first | assumption | omega | exact Ab _ _ | exact Af _ | exact Ag _ _ | exact Ay _ | rfl | (simp; omega))) ?_ | fail)
      | refine r_q hG Y Y Y ?_))
    | (show AL _ _ _ _ _ _ _ _; first | refine Bj Y Y Y ?_ | (refine As ?_; first | show AW _ _ _ _ _ _ | show ∃ x', _ < _ ∧ _)) | (show AW _ _ (.seq _ _) _ _ _; refine Ah ?_; intro Q1) | (show AW _ _ (.region _ _ false) _ _ _; refine Ad ?_; intro O1) | (show AW _ _ (.cond _ _ _) _ _ _; first | refine Aj Y ?_ | refine Ai Y ?_) | (show AW _ _ (.block _ _) _ _ _; refine A7 ?_; intro Q1) | (show AW _ _ (.ret) _ _ _; refine Ar ?_; try dsimp only [Aw, Aa, Au, Ac]) | fail)
    try dsimp (config := { zetaDelta := true }) only [Aw, Aa, Au, Ac]
    apply ret_mut 0
    · exact Ao rfl A8
    · rfl
    · exact .refl _
    · rfl
    by_cases he : e = 0
    · rw [if_pos he] at hh
      exact ⟨by rw [hh, he]; rfl, fun h => ⟨_, _, _, by rw [hh]; rfl, by rw [hh]; exact .nil 1, by rw [hh]; exact .nil 1, by rw [hh]; exact .refl _, rfl⟩⟩
    · rw [if_neg he] at hh
      exact ⟨by rw [hh]; rfl, fun h => by rw [hh] at h; exact absurd h he⟩
end Go.Proofs.Ytemgmkoggnjgjaa
namespace Go.Proofs.Ytemgmkoggnjgjaa
open Go.Ts Go.Sets
set_option linter.unusedSimpArgs false
set_option linter.unusedVariables false
attribute [local irreducible] Go.Ts.AW Go.Ts.AOps Go.Ts.AL Go.Ts.AOp Go.Ts.ACalls Go.Ts.DL Go.Ts.DQ Go.Ts.EL
def mkO (h : HD) (t : TT) : OB := ⟨h.id, h.kind, h.df, h.ps, [], [], [], t.q, t.u, t.x, t.d, t.c, t.r⟩
def zeroO : OB := ⟨0, 0, 0, [], [], [], [], 0, 0, 0, [], [], []⟩
def takeO1 (b : List UInt8) : OB × Int :=
  if (Bo b).e ≠ 0 then (zeroO, (Bo b).e)
  else if (tailF (Bo b).kind (Bo b).rest).e ≠ 0 then (zeroO, (tailF (Bo b).kind (Bo b).rest).e)
  else if mayO1 (mkO (Bo b) (tailF (Bo b).kind (Bo b).rest)) && decide ((tailF (Bo b).kind (Bo b).rest).rest.length = 0) then (mkO (Bo b) (tailF (Bo b).kind (Bo b).rest), 0)
  else (zeroO, 2)
structure TkX where
  e : Int
  i : Nat
  p : Nat
  cs : List T
theorem zero_wk : Wk (.agg zeroCells) zeroO.t := Wk.aggL (wkc (.refl _) (wkc (.refl _) (wkc (.refl _) (wkc (.nil 2) (wkc (.nil 1) (wkc (.nil 1) (wkc (.nil 1) (wkc (.refl _) (wkc (.refl _) (wkc (.refl _) (wkc (.nil 1) (wkc (.nil 1) (wkc (.nil 1) trivial)))))))))))))
theorem headF1_ok {b : List UInt8} (h : (Bo b).e = 0) : 1 ≤ (Bo b).kind ∧ (Bo b).kind ≤ 4 ∧ (Bo b).id < 18446744073709551616 ∧ (Bo b).ps.length ≤ 16 ∧ (Bo b).rest.length ≤ b.length := by
  unfold Bo at h ⊢
  by_cases h1 : b.length < 1
  · rw [if_pos h1] at h; cases h
  rw [if_neg h1] at h ⊢
  by_cases h2 : beV (b.take 1) ≠ 1
  · rw [if_pos h2] at h; cases h
  rw [if_neg h2] at h ⊢
  by_cases h3 : (b.drop 1).length < 1
  · rw [if_pos h3] at h; cases h
  rw [if_neg h3] at h ⊢
  by_cases h4 : beV ((b.drop 1).take 1) < 1 ∨ 4 < beV ((b.drop 1).take 1)
  · rw [if_pos h4] at h; cases h
  rw [if_neg h4] at h ⊢
  by_cases h5 : ((b.drop 1).drop 1).length < 8
  · rw [if_pos h5] at h; cases h
  rw [if_neg h5] at h ⊢
  by_cases h6 : (B9 (((b.drop 1).drop 1).drop 8)).e ≠ 0
  · rw [if_pos h6] at h; exact absurd h h6
  rw [if_neg h6]
  have hsm := takeLab_small (((b.drop 1).drop 1).drop 8)
  have hb := beV_lt 8 (((b.drop 1).drop 1).take 8) (by rw [List.length_take]; omega)
  have hb2 : (2 : Nat) ^ (8 * 8) = 18446744073709551616 := by decide
  have hl3 : (((b.drop 1).drop 1).drop 8).length ≤ b.length := by rw [List.length_drop, List.length_drop, List.length_drop]; omega
  refine ⟨by dsimp only; omega, by dsimp only; omega, by dsimp only; omega, hsm.1, ?_⟩
  dsimp only
  rw [List.length_drop]; omega
theorem takeR_lens (b : List UInt8) : (takeR b).1.length ≤ 4 ∧ ∀ s ∈ (takeR b).1, s.length ≤ 16 := by
  unfold takeR
  split
  · exact ⟨by simp, fun s hs => absurd hs List.not_mem_nil⟩
  split
  · split
    · rename_i h; exact mayL_iff.1 h
    · exact ⟨by simp, fun s hs => absurd hs List.not_mem_nil⟩
  · exact ⟨by simp, fun s hs => absurd hs List.not_mem_nil⟩
theorem takeC_len (s : List UInt8) : (takeC s).1.length ≤ 16 := by
  by_cases h : (takeC s).2.2 = 0
  · have q : takeC s = ((takeC s).1, (takeC s).2.1, 0) := by rw [← h]
    exact (takeC_used q).2.1
  · unfold takeC at h ⊢
    split
    · simp
    split
    · simp
    split
    · rename_i h1 h2 h3; rw [if_neg h1, if_neg h2, if_pos h3] at h; exact absurd rfl h
    · simp
theorem tailF_fits (k : Nat) (b : List UInt8) : (tailF k b).d.length ≤ 65535 ∧ (tailF k b).c.length ≤ 16 ∧ (tailF k b).r.length ≤ 4 ∧ (∀ s ∈ (tailF k b).r, s.length ≤ 16) := by
  have no : ∀ e, (TT.no e).d.length ≤ 65535 ∧ (TT.no e).c.length ≤ 16 ∧ (TT.no e).r.length ≤ 4 ∧ (∀ s ∈ (TT.no e).r, s.length ≤ 16) := fun e => ⟨by simp [TT.no], by simp [TT.no], by simp [TT.no], fun s h => absurd h List.not_mem_nil⟩
  have nil : ∀ s ∈ ([] : List (List UInt8)), s.length ≤ 16 := fun s h => absurd h List.not_mem_nil
  unfold tailF
  split
  · unfold boxF
    split
    · exact no _
    split
    · exact no _
    split
    · exact no _
    · exact ⟨by simp, by simp, by simp, nil⟩
  split
  · split
    · refine ⟨?_, by simp, by simp, nil⟩
      rcases takeBE_e b with h | h
      · exact h.2.2.2
      · rw [h]; simp
    · exact no _
  split
  · split
    · exact ⟨by simp, takeC_len b, by simp, nil⟩
    · exact no _
  · split
    · exact ⟨by simp, by simp, (takeR_lens b).1, (takeR_lens b).2⟩
    · exact no _
theorem tailF_rest (k : Nat) (b : List UInt8) : (tailF k b).rest.length ≤ b.length := by
  unfold tailF
  split
  · unfold boxF
    split
    · exact Nat.zero_le _
    split
    · exact Nat.zero_le _
    split
    · exact Nat.zero_le _
    · simp only [List.length_drop]; omega
  split
  · split
    · simp only [List.length_drop]; omega
    · exact Nat.zero_le _
  split
  · split
    · simp only [List.length_drop]; omega
    · exact Nat.zero_le _
  · split
    · simp only [List.length_drop]; omega
    · exact Nat.zero_le _
theorem mkO_fits {b : List UInt8} (h : (Bo b).e = 0) (t : List UInt8) : (mkO (Bo b) (tailF (Bo b).kind t)).Fits := by
  obtain ⟨h1, h2, h3, h4, h7⟩ := headF1_ok h
  obtain ⟨t1, t2, t3, t4⟩ := tailF_fits (Bo b).kind t
  unfold mkO
  refine ⟨h3, Nat.zero_le _, Nat.zero_le _, Nat.zero_le _, ?_, ?_, ?_, fun s hs => ?_, ?_⟩ <;> unfold Ca <;> try dsimp only
  · omega
  · omega
  · omega
  · have := t4 s hs; omega
  · omega
set_option maxHeartbeats 1000000 in
theorem obj1_Take {x : T} {b : List UInt8} (hx : bytesT x = some b) (hl : b.length ≤ 4294967296) : Ts.Pure Try.prog 17 [x] (.tup [(takeO1 b).1.t, .int .i64 (takeO1 b).2]) := by
  refine Pure.weak (us := [sT b]) ?_ (wk1 (bytesT_wk hx))
  intro off
  refine Bp (N := 37) (rs := [.cell 2 42, .tmp 3]) hG Try.func17 rfl rfl rfl rfl rfl ?_
  repeat' (first
    | ((show AL _ _ _ _ _ _ _ _; refine Ae Y ?_); (first
      | (show AOp _ _ ⟨_, .move _, _, _, _, _⟩ _ _ _; refine Al hG Y Y ?_)
      | (show AOp _ _ ⟨_, .assign _, _, _, _, _⟩ _ _ _; refine A9 hG Y Y ?_)
      | (show AOp _ _ ⟨_, .call ⟨.builtin .len, _, _⟩, _, _, _, _⟩ _ _ _; first | refine Az hG Y Y Y Y ?_ | refine Bd hG Y Y Y Y Y ?_)
      | (show AOp _ _ ⟨_, .binOp _ _ _ _ _, _, _, _, _⟩ _ _ _; first | refine Ap hG Y Y Y Y Y (by omega) ?_ | refine Aq hG Y Y Y Y Y (by omega) ?_ | (refine Av hG Y Y Y Y Y (fun h => ?_) (fun h => ?_)))
      | (show AOp _ _ ⟨_, .load _ _, _, _, _, _⟩ _ _ _; first | refine Ax 0 hG Y Y Y Y ?_ | refine Ax 1 hG Y Y Y Y ?_ | refine Ax 2 hG Y Y Y Y ?_)
      | (show AOp _ _ ⟨_, .pick _ _ _, _, _, _, _⟩ _ _ _; refine Bl hG Y Y Y ?_)
      | (show AOp _ _ ⟨_, .unOp _ _ _, _, _, _, _⟩ _ _ _; refine B2 hG Y Y Y ?_)
      | (show AOp _ _ ⟨_, .build _ _, _, _, _, _⟩ _ _ _; refine r_build hG Y Y Y Y Y ?_)
      | (show AOp _ _ ⟨_, .box _ _, _, _, _, _⟩ _ _ _; refine B1 hG Y Y Y (fun i => ?_))
      | (show AOp _ _ ⟨_, .alloc _, _, _, _, _⟩ _ _ _; refine Bv hG Y Y (fun i => ?_))
      | (show AOp _ _ ⟨_, .store _ _ _, _, _, _, _⟩ _ _ _; first | refine Bb 0 hG Y Y Y Y Y Y Y ?_ | refine Bb 1 hG Y Y Y Y Y Y Y ?_ | refine Bb 2 hG Y Y Y Y Y Y Y ?_)
      | refine r_q hG Y Y Y ?_))
    | (show AL _ _ _ _ _ _ _ _; first | refine Bj Y Y Y ?_ | (refine As ?_; first | show AW _ _ _ _ _ _ | show ∃ x', _ < _ ∧ _)) | (show AW _ _ (.seq _ _) _ _ _; refine Ah ?_; intro Q1) | (show AW _ _ (.region _ _ false) _ _ _; refine Ad ?_; intro O1) | (show AW _ _ (.cond _ _ _) _ _ _; first | refine Aj Y ?_ | refine Ai Y ?_) | (show AW _ _ (.skip) _ _ _; refine Ak ?_; first | show AW _ _ _ _ _ _ | show ∃ x', _ < _ ∧ _) | (show AW _ _ (.goto _) _ _ _; refine Bz ?_; try dsimp only [Aw, Aa, Au, Ac]) | (show AW _ _ (.ret) _ _ _; refine Ar ?_; try dsimp only [Aw, Aa, Au, Ac]) | fail)
  refine aw_scope' 0 rfl (X := { x : TkX // takeO1 b = (zeroO, x.e) }) (fun x => [(2, .ptr x.1.p 0), (5, .int .i64 x.1.e)]) (fun x => ⟨[(x.1.i, .cells x.1.cs), (x.1.p, .cells zeroCells)], [], off, none⟩) (fun _ => 0) ?_ ?_
  · rintro ⟨⟨e, i, p, cs⟩, hx⟩
    dsimp only at hx ⊢
    unfold zeroCells
    repeat' (first
    | ((show AL _ _ _ _ _ _ _ _; refine Ae Y ?_); (first
      | (show AOp _ _ ⟨_, .move _, _, _, _, _⟩ _ _ _; refine Al hG Y Y ?_)
      | (show AOp _ _ ⟨_, .assign _, _, _, _, _⟩ _ _ _; refine A9 hG Y Y ?_)
      | (show AOp _ _ ⟨_, .call ⟨.builtin .len, _, _⟩, _, _, _, _⟩ _ _ _; first | refine Az hG Y Y Y Y ?_ | refine Bd hG Y Y Y Y Y ?_)
      | (show AOp _ _ ⟨_, .binOp _ _ _ _ _, _, _, _, _⟩ _ _ _; first | refine Ap hG Y Y Y Y Y (by omega) ?_ | refine Aq hG Y Y Y Y Y (by omega) ?_ | (refine Av hG Y Y Y Y Y (fun h => ?_) (fun h => ?_)))
      | (show AOp _ _ ⟨_, .load _ _, _, _, _, _⟩ _ _ _; first | refine Ax 0 hG Y Y Y Y ?_ | refine Ax 1 hG Y Y Y Y ?_ | refine Ax 2 hG Y Y Y Y ?_)
      | (show AOp _ _ ⟨_, .pick _ _ _, _, _, _, _⟩ _ _ _; refine Bl hG Y Y Y ?_)
      | (show AOp _ _ ⟨_, .unOp _ _ _, _, _, _, _⟩ _ _ _; refine B2 hG Y Y Y ?_)
      | (show AOp _ _ ⟨_, .build _ _, _, _, _, _⟩ _ _ _; refine r_build hG Y Y Y Y Y ?_)
      | (show AOp _ _ ⟨_, .box _ _, _, _, _, _⟩ _ _ _; refine B1 hG Y Y Y (fun i => ?_))
      | (show AOp _ _ ⟨_, .alloc _, _, _, _, _⟩ _ _ _; refine Bv hG Y Y (fun i => ?_))
      | (show AOp _ _ ⟨_, .store _ _ _, _, _, _, _⟩ _ _ _; first | refine Bb 0 hG Y Y Y Y Y Y Y ?_ | refine Bb 1 hG Y Y Y Y Y Y Y ?_ | refine Bb 2 hG Y Y Y Y Y Y Y ?_)
      | refine r_q hG Y Y Y ?_))
    | (show AL _ _ _ _ _ _ _ _; first | refine Bj Y Y Y ?_ | (refine As ?_; first | show AW _ _ _ _ _ _ | show ∃ x', _ < _ ∧ _)) | (show AW _ _ (.seq _ _) _ _ _; refine Ah ?_; intro Q1) | (show AW _ _ (.region _ _ false) _ _ _; refine Ad ?_; intro O1) | (show AW _ _ (.cond _ _ _) _ _ _; first | refine Aj Y ?_ | refine Ai Y ?_) | (show AW _ _ (.skip) _ _ _; refine Ak ?_; first | show AW _ _ _ _ _ _ | show ∃ x', _ < _ ∧ _) | (show AW _ _ (.goto _) _ _ _; refine Bz ?_; try dsimp only [Aw, Aa, Au, Ac]) | (show AW _ _ (.ret) _ _ _; refine Ar ?_; try dsimp only [Aw, Aa, Au, Ac]) | fail)
    refine Ba (res_cell 1 rfl rfl rfl (Ao rfl A8)) ?_ rfl
    rw [hx]
    exact Wk.tupL (wk2 zero_wk (.refl _))
  · intro key
    have n1 := o1_head (b := b) hl
    repeat' (first
    | ((show AL _ _ _ _ _ _ _ _; refine Ae Y ?_); (first
      | (show AOp _ _ ⟨_, .move _, _, _, _, _⟩ _ _ _; refine Al hG Y Y ?_)
      | (show AOp _ _ ⟨_, .assign _, _, _, _, _⟩ _ _ _; refine A9 hG Y Y ?_)
      | (show AOp _ _ ⟨_, .call ⟨.builtin .len, _, _⟩, _, _, _, _⟩ _ _ _; first | refine Az hG Y Y Y Y ?_ | refine Bd hG Y Y Y Y Y ?_)
      | (show AOp _ _ ⟨_, .binOp _ _ _ _ _, _, _, _, _⟩ _ _ _; first | refine Ap hG Y Y Y Y Y (by omega) ?_ | refine Aq hG Y Y Y Y Y (by omega) ?_ | (refine Av hG Y Y Y Y Y (fun h => ?_) (fun h => ?_)))
      | (show AOp _ _ ⟨_, .load _ _, _, _, _, _⟩ _ _ _; first | refine Ax 0 hG Y Y Y Y ?_ | refine Ax 1 hG Y Y Y Y ?_ | refine Ax 2 hG Y Y Y Y ?_)
      | (show AOp _ _ ⟨_, .pick _ _ _, _, _, _, _⟩ _ _ _; refine Bl hG Y Y Y ?_)
      | (show AOp _ _ ⟨_, .unOp _ _ _, _, _, _, _⟩ _ _ _; refine B2 hG Y Y Y ?_)
      | (show AOp _ _ ⟨_, .build _ _, _, _, _, _⟩ _ _ _; refine r_build hG Y Y Y Y Y ?_)
      | (show AOp _ _ ⟨_, .box _ _, _, _, _, _⟩ _ _ _; refine B1 hG Y Y Y (fun i => ?_))
      | (show AOp _ _ ⟨_, .alloc _, _, _, _, _⟩ _ _ _; refine Bv hG Y Y (fun i => ?_))
      | (show AOp _ _ ⟨_, .store _ _ _, _, _, _, _⟩ _ _ _; first | refine Bb 0 hG Y Y Y Y Y Y Y ?_ | refine Bb 1 hG Y Y Y Y Y Y Y ?_ | refine Bb 2 hG Y Y Y Y Y Y Y ?_)
      | refine r_q hG Y Y Y ?_))
    | (show AL _ _ _ _ _ _ _ _; first | refine Bj Y Y Y ?_ | (refine As ?_; first | show AW _ _ _ _ _ _ | show ∃ x', _ < _ ∧ _)) | (show AW _ _ (.seq _ _) _ _ _; refine Ah ?_; intro Q1) | (show AW _ _ (.region _ _ false) _ _ _; refine Ad ?_; intro O1) | (show AW _ _ (.cond _ _ _) _ _ _; first | refine Aj Y ?_ | refine Ai Y ?_) | (show AW _ _ (.skip) _ _ _; refine Ak ?_; first | show AW _ _ _ _ _ _ | show ∃ x', _ < _ ∧ _) | (show AW _ _ (.goto _) _ _ _; refine Bz ?_; try dsimp only [Aw, Aa, Au, Ac]) | (show AW _ _ (.ret) _ _ _; refine Ar ?_; try dsimp only [Aw, Aa, Au, Ac]) | fail)
    refine Ae rfl (r_mut rfl rfl rfl rfl rfl (.refl _) n1 (fun r cs' hr => ?_))
    obtain ⟨rfl, hr⟩ := hr
    by_cases he : (Bo b).e ≠ 0
    · have hT : takeO1 b = (zeroO, (Bo b).e) := by rw [takeO1, if_pos he]
      repeat' (first
    | ((show AL _ _ _ _ _ _ _ _; refine Ae Y ?_); (first
      | (show AOp _ _ ⟨_, .move _, _, _, _, _⟩ _ _ _; refine Al hG Y Y ?_)
      | (show AOp _ _ ⟨_, .assign _, _, _, _, _⟩ _ _ _; refine A9 hG Y Y ?_)
      | (show AOp _ _ ⟨_, .call ⟨.builtin .len, _, _⟩, _, _, _, _⟩ _ _ _; first | refine Az hG Y Y Y Y ?_ | refine Bd hG Y Y Y Y Y ?_)
      | (show AOp _ _ ⟨_, .binOp _ _ _ _ _, _, _, _, _⟩ _ _ _; first | refine Ap hG Y Y Y Y Y (by omega) ?_ | refine Aq hG Y Y Y Y Y (by omega) ?_ | (refine Av hG Y Y Y Y Y (fun h => ?_) (fun h => ?_)))
      | (show AOp _ _ ⟨_, .load _ _, _, _, _, _⟩ _ _ _; first | refine Ax 0 hG Y Y Y Y ?_ | refine Ax 1 hG Y Y Y Y ?_ | refine Ax 2 hG Y Y Y Y ?_)
      | (show AOp _ _ ⟨_, .pick _ _ _, _, _, _, _⟩ _ _ _; refine Bl hG Y Y Y ?_)
      | (show AOp _ _ ⟨_, .unOp _ _ _, _, _, _, _⟩ _ _ _; refine B2 hG Y Y Y ?_)
      | (show AOp _ _ ⟨_, .build _ _, _, _, _, _⟩ _ _ _; refine r_build hG Y Y Y Y Y ?_)
      | (show AOp _ _ ⟨_, .box _ _, _, _, _, _⟩ _ _ _; refine B1 hG Y Y Y (fun i => ?_))
      | (show AOp _ _ ⟨_, .alloc _, _, _, _, _⟩ _ _ _; refine Bv hG Y Y (fun i => ?_))
      | (show AOp _ _ ⟨_, .store _ _ _, _, _, _, _⟩ _ _ _; first | refine Bb 0 hG Y Y Y Y Y Y Y ?_ | refine Bb 1 hG Y Y Y Y Y Y Y ?_ | refine Bb 2 hG Y Y Y Y Y Y Y ?_)
      | refine r_q hG Y Y Y ?_))
    | (show AL _ _ _ _ _ _ _ _; first | refine Bj Y Y Y ?_ | (refine As ?_; first | show AW _ _ _ _ _ _ | show ∃ x', _ < _ ∧ _)) | (show AW _ _ (.seq _ _) _ _ _; refine Ah ?_; intro Q1) | (show AW _ _ (.region _ _ false) _ _ _; refine Ad ?_; intro O1) | (show AW _ _ (.cond _ _ _) _ _ _; first | refine Aj Y ?_ | refine Ai Y ?_) | (show AW _ _ (.skip) _ _ _; refine Ak ?_; first | show AW _ _ _ _ _ _ | show ∃ x', _ < _ ∧ _) | (show AW _ _ (.goto _) _ _ _; refine Bz ?_; try dsimp only [Aw, Aa, Au, Ac]) | (show AW _ _ (.ret) _ _ _; refine Ar ?_; try dsimp only [Aw, Aa, Au, Ac]) | fail)
      dsimp (config := { zetaDelta := true }) only [Aw, Aa, Au, Ac]
      refine ⟨rfl, ⟨⟨_, _, _, _⟩, hT⟩, ?_, .refl _⟩
      exact .cons rfl (.cons rfl (.nil _))
    have he0 : (Bo b).e = 0 := by omega
    have hr := hr he0
    subst hr
    obtain ⟨q1, q2, q3, q4, q7⟩ := headF1_ok he0
    have n2 := o1_rest (b := (Bo b).rest) (k := (Bo b).kind) (A0 := .int .u64 (Bo b).id) (A2 := bT (Bo b).df) (A3 := .sl 2 .no ((Bo b).ps.map pT)) (A4 := .nilsl) (A5 := .nilsl) (A6 := .nilsl) (by omega) ⟨q1, q2⟩
    repeat' (first
    | ((show AL _ _ _ _ _ _ _ _; refine Ae Y ?_); (first
      | (show AOp _ _ ⟨_, .move _, _, _, _, _⟩ _ _ _; refine Al hG Y Y ?_)
      | (show AOp _ _ ⟨_, .assign _, _, _, _, _⟩ _ _ _; refine A9 hG Y Y ?_)
      | (show AOp _ _ ⟨_, .call ⟨.builtin .len, _, _⟩, _, _, _, _⟩ _ _ _; first | refine Az hG Y Y Y Y ?_ | refine Bd hG Y Y Y Y Y ?_)
      | (show AOp _ _ ⟨_, .binOp _ _ _ _ _, _, _, _, _⟩ _ _ _; first | refine Ap hG Y Y Y Y Y (by omega) ?_ | refine Aq hG Y Y Y Y Y (by omega) ?_ | (refine Av hG Y Y Y Y Y (fun h => ?_) (fun h => ?_)))
      | (show AOp _ _ ⟨_, .load _ _, _, _, _, _⟩ _ _ _; first | refine Ax 0 hG Y Y Y Y ?_ | refine Ax 1 hG Y Y Y Y ?_ | refine Ax 2 hG Y Y Y Y ?_)
      | (show AOp _ _ ⟨_, .pick _ _ _, _, _, _, _⟩ _ _ _; refine Bl hG Y Y Y ?_)
      | (show AOp _ _ ⟨_, .unOp _ _ _, _, _, _, _⟩ _ _ _; refine B2 hG Y Y Y ?_)
      | (show AOp _ _ ⟨_, .build _ _, _, _, _, _⟩ _ _ _; refine r_build hG Y Y Y Y Y ?_)
      | (show AOp _ _ ⟨_, .box _ _, _, _, _, _⟩ _ _ _; refine B1 hG Y Y Y (fun i => ?_))
      | (show AOp _ _ ⟨_, .alloc _, _, _, _, _⟩ _ _ _; refine Bv hG Y Y (fun i => ?_))
      | (show AOp _ _ ⟨_, .store _ _ _, _, _, _, _⟩ _ _ _; first | refine Bb 0 hG Y Y Y Y Y Y Y ?_ | refine Bb 1 hG Y Y Y Y Y Y Y ?_ | refine Bb 2 hG Y Y Y Y Y Y Y ?_)
      | refine r_q hG Y Y Y ?_))
    | (show AL _ _ _ _ _ _ _ _; first | refine Bj Y Y Y ?_ | (refine As ?_; first | show AW _ _ _ _ _ _ | show ∃ x', _ < _ ∧ _)) | (show AW _ _ (.seq _ _) _ _ _; refine Ah ?_; intro Q1) | (show AW _ _ (.region _ _ false) _ _ _; refine Ad ?_; intro O1) | (show AW _ _ (.cond _ _ _) _ _ _; first | refine Aj Y ?_ | refine Ai Y ?_) | (show AW _ _ (.skip) _ _ _; refine Ak ?_; first | show AW _ _ _ _ _ _ | show ∃ x', _ < _ ∧ _) | (show AW _ _ (.goto _) _ _ _; refine Bz ?_; try dsimp only [Aw, Aa, Au, Ac]) | (show AW _ _ (.ret) _ _ _; refine Ar ?_; try dsimp only [Aw, Aa, Au, Ac]) | fail)
    refine Ae rfl (r_mut rfl rfl rfl rfl rfl (.refl _) n2 (fun r cs' hr => ?_))
    obtain ⟨rfl, hr⟩ := hr
    by_cases hte : (tailF (Bo b).kind (Bo b).rest).e ≠ 0
    · have hT : takeO1 b = (zeroO, (tailF (Bo b).kind (Bo b).rest).e) := by rw [takeO1, if_neg he, if_pos hte]
      repeat' (first
    | ((show AL _ _ _ _ _ _ _ _; refine Ae Y ?_); (first
      | (show AOp _ _ ⟨_, .move _, _, _, _, _⟩ _ _ _; refine Al hG Y Y ?_)
      | (show AOp _ _ ⟨_, .assign _, _, _, _, _⟩ _ _ _; refine A9 hG Y Y ?_)
      | (show AOp _ _ ⟨_, .call ⟨.builtin .len, _, _⟩, _, _, _, _⟩ _ _ _; first | refine Az hG Y Y Y Y ?_ | refine Bd hG Y Y Y Y Y ?_)
      | (show AOp _ _ ⟨_, .binOp _ _ _ _ _, _, _, _, _⟩ _ _ _; first | refine Ap hG Y Y Y Y Y (by omega) ?_ | refine Aq hG Y Y Y Y Y (by omega) ?_ | (refine Av hG Y Y Y Y Y (fun h => ?_) (fun h => ?_)))
      | (show AOp _ _ ⟨_, .load _ _, _, _, _, _⟩ _ _ _; first | refine Ax 0 hG Y Y Y Y ?_ | refine Ax 1 hG Y Y Y Y ?_ | refine Ax 2 hG Y Y Y Y ?_)
      | (show AOp _ _ ⟨_, .pick _ _ _, _, _, _, _⟩ _ _ _; refine Bl hG Y Y Y ?_)
      | (show AOp _ _ ⟨_, .unOp _ _ _, _, _, _, _⟩ _ _ _; refine B2 hG Y Y Y ?_)
      | (show AOp _ _ ⟨_, .build _ _, _, _, _, _⟩ _ _ _; refine r_build hG Y Y Y Y Y ?_)
      | (show AOp _ _ ⟨_, .box _ _, _, _, _, _⟩ _ _ _; refine B1 hG Y Y Y (fun i => ?_))
      | (show AOp _ _ ⟨_, .alloc _, _, _, _, _⟩ _ _ _; refine Bv hG Y Y (fun i => ?_))
      | (show AOp _ _ ⟨_, .store _ _ _, _, _, _, _⟩ _ _ _; first | refine Bb 0 hG Y Y Y Y Y Y Y ?_ | refine Bb 1 hG Y Y Y Y Y Y Y ?_ | refine Bb 2 hG Y Y Y Y Y Y Y ?_)
      | refine r_q hG Y Y Y ?_))
    | (show AL _ _ _ _ _ _ _ _; first | refine Bj Y Y Y ?_ | (refine As ?_; first | show AW _ _ _ _ _ _ | show ∃ x', _ < _ ∧ _)) | (show AW _ _ (.seq _ _) _ _ _; refine Ah ?_; intro Q1) | (show AW _ _ (.region _ _ false) _ _ _; refine Ad ?_; intro O1) | (show AW _ _ (.cond _ _ _) _ _ _; first | refine Aj Y ?_ | refine Ai Y ?_) | (show AW _ _ (.skip) _ _ _; refine Ak ?_; first | show AW _ _ _ _ _ _ | show ∃ x', _ < _ ∧ _) | (show AW _ _ (.goto _) _ _ _; refine Bz ?_; try dsimp only [Aw, Aa, Au, Ac]) | (show AW _ _ (.ret) _ _ _; refine Ar ?_; try dsimp only [Aw, Aa, Au, Ac]) | fail)
      dsimp (config := { zetaDelta := true }) only [Aw, Aa, Au, Ac]
      refine ⟨rfl, ⟨⟨_, _, _, _⟩, hT⟩, ?_, .refl _⟩
      exact .cons rfl (.cons rfl (.nil _))
    have hte0 : (tailF (Bo b).kind (Bo b).rest).e = 0 := by omega
    obtain ⟨d, c, r, rfl, hd, hc, hr', hsc⟩ := hr hte0
    simp only [Bool.and_eq_true] at hsc
    obtain ⟨⟨sc1, sc2⟩, sc3⟩ := hsc
    have hfit := mkO_fits he0 (Bo b).rest
    have hT1 : takeO1 b = if mayO1 (mkO (Bo b) (tailF (Bo b).kind (Bo b).rest)) && decide ((tailF (Bo b).kind (Bo b).rest).rest.length = 0) then (mkO (Bo b) (tailF (Bo b).kind (Bo b).rest), 0) else (zeroO, 2) := by rw [takeO1, if_neg he, if_neg hte]
    have hbl : (tailF (Bo b).kind (Bo b).rest).rest.length ≤ (Bo b).rest.length := tailF_rest _ _
    generalize hTT : tailF (Bo b).kind (Bo b).rest = tt at *
    generalize hHH : Bo b = hh at *
    have hwk : Wk (.agg [.int .u64 hh.id, .int .i64 hh.kind, bT hh.df, .sl 2 .no (hh.ps.map pT), .nilsl, .nilsl, .nilsl, .int .i64 tt.q, .int .i64 tt.u, .int .i64 tt.x, d, c, r]) (mkO hh tt).t :=
      Wk.aggL (wkc (.refl _) (wkc (.refl _) (wkc (.refl _) (wkc (.refl _) (wkc (.nil 1) (wkc (.nil 1) (wkc (.nil 1) (wkc (.refl _) (wkc (.refl _) (wkc (.refl _) (wkc hd (wkc hc (wkc hr' trivial)))))))))))))
    have hM := Pure.weak (obj1_may hfit) (wk1 hwk)
    cases hm : mayO1 (mkO hh tt) <;> rw [hm] at hM hT1
    · have hT : takeO1 b = (zeroO, 2) := hT1
      repeat' (first
    | ((show AL _ _ _ _ _ _ _ _; refine Ae Y ?_); (first
      | (show AOp _ _ ⟨_, .move _, _, _, _, _⟩ _ _ _; refine Al hG Y Y ?_)
      | (show AOp _ _ ⟨_, .assign _, _, _, _, _⟩ _ _ _; refine A9 hG Y Y ?_)
      | (show AOp _ _ ⟨_, .call ⟨.builtin .len, _, _⟩, _, _, _, _⟩ _ _ _; first | refine Az hG Y Y Y Y ?_ | refine Bd hG Y Y Y Y Y ?_)
      | (show AOp _ _ ⟨_, .binOp _ _ _ _ _, _, _, _, _⟩ _ _ _; first | refine Ap hG Y Y Y Y Y (by omega) ?_ | refine Aq hG Y Y Y Y Y (by omega) ?_ | (refine Av hG Y Y Y Y Y (fun h => ?_) (fun h => ?_)))
      | (show AOp _ _ ⟨_, .load _ _, _, _, _, _⟩ _ _ _; first | refine Ax 0 hG Y Y Y Y ?_ | refine Ax 1 hG Y Y Y Y ?_ | refine Ax 2 hG Y Y Y Y ?_)
      | (show AOp _ _ ⟨_, .pick _ _ _, _, _, _, _⟩ _ _ _; refine Bl hG Y Y Y ?_)
      | (show AOp _ _ ⟨_, .unOp _ _ _, _, _, _, _⟩ _ _ _; refine B2 hG Y Y Y ?_)
      | (show AOp _ _ ⟨_, .build _ _, _, _, _, _⟩ _ _ _; refine r_build hG Y Y Y Y Y ?_)
      | (show AOp _ _ ⟨_, .box _ _, _, _, _, _⟩ _ _ _; refine B1 hG Y Y Y (fun i => ?_))
      | (show AOp _ _ ⟨_, .alloc _, _, _, _, _⟩ _ _ _; refine Bv hG Y Y (fun i => ?_))
      | (show AOp _ _ ⟨_, .store _ _ _, _, _, _, _⟩ _ _ _; first | refine Bb 0 hG Y Y Y Y Y Y Y ?_ | refine Bb 1 hG Y Y Y Y Y Y Y ?_ | refine Bb 2 hG Y Y Y Y Y Y Y ?_)
      | (show AOp _ _ ⟨_, .call ⟨.value _, _, _⟩, _, _, _, _⟩ _ _ _; first | refine Bc Y Y Y Y Y (by apply hM <;> (first | assumption | omega | exact Ab _ _ | exact Af _ | exact Ag _ _ | exact Ay _ | rfl | (simp; omega))) ?_ | fail)
      | refine r_q hG Y Y Y ?_))
    | (show AL _ _ _ _ _ _ _ _; first | refine Bj Y Y Y ?_ | (refine As ?_; first | show AW _ _ _ _ _ _ | show ∃ x', _ < _ ∧ _)) | (show AW _ _ (.seq _ _) _ _ _; refine Ah ?_; intro Q1) | (show AW _ _ (.region _ _ false) _ _ _; refine Ad ?_; intro O1) | (show AW _ _ (.cond _ _ _) _ _ _; first | refine Aj Y ?_ | refine Ai Y ?_) | (show AW _ _ (.skip) _ _ _; refine Ak ?_; first | show AW _ _ _ _ _ _ | show ∃ x', _ < _ ∧ _) | (show AW _ _ (.goto _) _ _ _; refine Bz ?_; try dsimp only [Aw, Aa, Au, Ac]) | (show AW _ _ (.ret) _ _ _; refine Ar ?_; try dsimp only [Aw, Aa, Au, Ac]) | fail)
      dsimp (config := { zetaDelta := true }) only [Aw, Aa, Au, Ac]
      refine ⟨rfl, ⟨⟨_, _, _, _⟩, hT⟩, ?_, .refl _⟩
      exact .cons rfl (.cons rfl (.nil _))
    by_cases hz : tt.rest.length = 0
    · have hT : takeO1 b = (mkO hh tt, 0) := by rw [hT1, decide_eq_true hz]; rfl
      have hsc : (notRaw (.agg [.int .u64 hh.id, .int .i64 hh.kind, bT hh.df, .sl 2 .no (hh.ps.map pT), .nilsl, .nilsl, .nilsl, .int .i64 tt.q, .int .i64 tt.u, .int .i64 tt.x, d, c, r]) && (T.agg [.int .u64 hh.id, .int .i64 hh.kind, bT hh.df, .sl 2 .no (hh.ps.map pT), .nilsl, .nilsl, .nilsl, .int .i64 tt.q, .int .i64 tt.u, .int .i64 tt.x, d, c, r]).cells.all T.scalar) = true := by
        simp only [notRaw, T.cells, List.all_cons, List.all_nil, sc1, sc2, sc3]; rfl
      repeat' (first
    | ((show AL _ _ _ _ _ _ _ _; refine Ae Y ?_); (first
      | (show AOp _ _ ⟨_, .move _, _, _, _, _⟩ _ _ _; refine Al hG Y Y ?_)
      | (show AOp _ _ ⟨_, .assign _, _, _, _, _⟩ _ _ _; refine A9 hG Y Y ?_)
      | (show AOp _ _ ⟨_, .call ⟨.builtin .len, _, _⟩, _, _, _, _⟩ _ _ _; first | refine Az hG Y Y Y Y ?_ | refine Bd hG Y Y Y Y Y ?_)
      | (show AOp _ _ ⟨_, .binOp _ _ _ _ _, _, _, _, _⟩ _ _ _; first | refine Ap hG Y Y Y Y Y (by omega) ?_ | refine Aq hG Y Y Y Y Y (by omega) ?_ | (refine Av hG Y Y Y Y Y (fun h => ?_) (fun h => ?_)))
      | (show AOp _ _ ⟨_, .load _ _, _, _, _, _⟩ _ _ _; first | refine Ax 0 hG Y Y Y Y ?_ | refine Ax 1 hG Y Y Y Y ?_ | refine Ax 2 hG Y Y Y Y ?_)
      | (show AOp _ _ ⟨_, .pick _ _ _, _, _, _, _⟩ _ _ _; refine Bl hG Y Y Y ?_)
      | (show AOp _ _ ⟨_, .unOp _ _ _, _, _, _, _⟩ _ _ _; refine B2 hG Y Y Y ?_)
      | (show AOp _ _ ⟨_, .build _ _, _, _, _, _⟩ _ _ _; refine r_build hG Y Y Y Y Y ?_)
      | (show AOp _ _ ⟨_, .box _ _, _, _, _, _⟩ _ _ _; refine B1 hG Y Y Y (fun i => ?_))
      | (show AOp _ _ ⟨_, .alloc _, _, _, _, _⟩ _ _ _; refine Bv hG Y Y (fun i => ?_))
      | (show AOp _ _ ⟨_, .store _ _ _, _, _, _, _⟩ _ _ _; first | refine Bb 0 hG Y Y Y Y Y Y Y ?_ | refine Bb 1 hG Y Y Y Y Y Y Y ?_ | refine Bb 2 hG Y Y Y Y Y Y Y ?_)
      | (show AOp _ _ ⟨_, .call ⟨.value _, _, _⟩, _, _, _, _⟩ _ _ _; first | refine Bc Y Y Y Y Y (by apply hM <;> (first | assumption | omega | exact Ab _ _ | exact Af _ | exact Ag _ _ | exact Ay _ | rfl | (simp; omega))) ?_ | fail)
      | refine r_q hG Y Y Y ?_))
    | (show AL _ _ _ _ _ _ _ _; first | refine Bj Y Y Y ?_ | (refine As ?_; first | show AW _ _ _ _ _ _ | show ∃ x', _ < _ ∧ _)) | (show AW _ _ (.seq _ _) _ _ _; refine Ah ?_; intro Q1) | (show AW _ _ (.region _ _ false) _ _ _; refine Ad ?_; intro O1) | (show AW _ _ (.cond _ _ _) _ _ _; first | refine Aj Y ?_ | refine Ai Y ?_) | (show AW _ _ (.skip) _ _ _; refine Ak ?_; first | show AW _ _ _ _ _ _ | show ∃ x', _ < _ ∧ _) | (show AW _ _ (.goto _) _ _ _; refine Bz ?_; try dsimp only [Aw, Aa, Au, Ac]) | (show AW _ _ (.ret) _ _ _; refine Ar ?_; try dsimp only [Aw, Aa, Au, Ac]) | fail)
      refine Ae rfl (Bb 1 hG rfl rfl rfl hsc rfl rfl rfl ?_)
      repeat' (first
    | ((show AL _ _ _ _ _ _ _ _; refine Ae Y ?_); (first
      | (show AOp _ _ ⟨_, .move _, _, _, _, _⟩ _ _ _; refine Al hG Y Y ?_)
      | (show AOp _ _ ⟨_, .assign _, _, _, _, _⟩ _ _ _; refine A9 hG Y Y ?_)
      | (show AOp _ _ ⟨_, .call ⟨.builtin .len, _, _⟩, _, _, _, _⟩ _ _ _; first | refine Az hG Y Y Y Y ?_ | refine Bd hG Y Y Y Y Y ?_)
      | (show AOp _ _ ⟨_, .binOp _ _ _ _ _, _, _, _, _⟩ _ _ _; first | refine Ap hG Y Y Y Y Y (by omega) ?_ | refine Aq hG Y Y Y Y Y (by omega) ?_ | (refine Av hG Y Y Y Y Y (fun h => ?_) (fun h => ?_)))
      | (show AOp _ _ ⟨_, .load _ _, _, _, _, _⟩ _ _ _; first | refine Ax 0 hG Y Y Y Y ?_ | refine Ax 1 hG Y Y Y Y ?_ | refine Ax 2 hG Y Y Y Y ?_)
      | (show AOp _ _ ⟨_, .pick _ _ _, _, _, _, _⟩ _ _ _; refine Bl hG Y Y Y ?_)
      | (show AOp _ _ ⟨_, .unOp _ _ _, _, _, _, _⟩ _ _ _; refine B2 hG Y Y Y ?_)
      | (show AOp _ _ ⟨_, .build _ _, _, _, _, _⟩ _ _ _; refine r_build hG Y Y Y Y Y ?_)
      | (show AOp _ _ ⟨_, .box _ _, _, _, _, _⟩ _ _ _; refine B1 hG Y Y Y (fun i => ?_))
      | (show AOp _ _ ⟨_, .alloc _, _, _, _, _⟩ _ _ _; refine Bv hG Y Y (fun i => ?_))
      | (show AOp _ _ ⟨_, .store _ _ _, _, _, _, _⟩ _ _ _; first | refine Bb 0 hG Y Y Y Y Y Y Y ?_ | refine Bb 1 hG Y Y Y Y Y Y Y ?_ | refine Bb 2 hG Y Y Y Y Y Y Y ?_)
      | refine r_q hG Y Y Y ?_))
    | (show AL _ _ _ _ _ _ _ _; first | refine Bj Y Y Y ?_ | (refine As ?_; first | show AW _ _ _ _ _ _ | show ∃ x', _ < _ ∧ _)) | (show AW _ _ (.seq _ _) _ _ _; refine Ah ?_; intro Q1) | (show AW _ _ (.region _ _ false) _ _ _; refine Ad ?_; intro O1) | (show AW _ _ (.cond _ _ _) _ _ _; first | refine Aj Y ?_ | refine Ai Y ?_) | (show AW _ _ (.skip) _ _ _; refine Ak ?_; first | show AW _ _ _ _ _ _ | show ∃ x', _ < _ ∧ _) | (show AW _ _ (.goto _) _ _ _; refine Bz ?_; try dsimp only [Aw, Aa, Au, Ac]) | (show AW _ _ (.ret) _ _ _; refine Ar ?_; try dsimp only [Aw, Aa, Au, Ac]) | fail)
      dsimp (config := { zetaDelta := true }) only [Aw, Aa, Au, Ac]
      refine Ba (res_cell 1 rfl rfl rfl (Ao rfl A8)) ?_ rfl
      rw [hT]
      exact Wk.tupL (wk2 hwk (.refl _))
    · have hT : takeO1 b = (zeroO, 2) := by rw [hT1, decide_eq_false hz]; rfl
      repeat' (first
    | ((show AL _ _ _ _ _ _ _ _; refine Ae Y ?_); (first
      | (show AOp _ _ ⟨_, .move _, _, _, _, _⟩ _ _ _; refine Al hG Y Y ?_)
      | (show AOp _ _ ⟨_, .assign _, _, _, _, _⟩ _ _ _; refine A9 hG Y Y ?_)
      | (show AOp _ _ ⟨_, .call ⟨.builtin .len, _, _⟩, _, _, _, _⟩ _ _ _; first | refine Az hG Y Y Y Y ?_ | refine Bd hG Y Y Y Y Y ?_)
      | (show AOp _ _ ⟨_, .binOp _ _ _ _ _, _, _, _, _⟩ _ _ _; first | refine Ap hG Y Y Y Y Y (by omega) ?_ | refine Aq hG Y Y Y Y Y (by omega) ?_ | (refine Av hG Y Y Y Y Y (fun h => ?_) (fun h => ?_)))
      | (show AOp _ _ ⟨_, .load _ _, _, _, _, _⟩ _ _ _; first | refine Ax 0 hG Y Y Y Y ?_ | refine Ax 1 hG Y Y Y Y ?_ | refine Ax 2 hG Y Y Y Y ?_)
      | (show AOp _ _ ⟨_, .pick _ _ _, _, _, _, _⟩ _ _ _; refine Bl hG Y Y Y ?_)
      | (show AOp _ _ ⟨_, .unOp _ _ _, _, _, _, _⟩ _ _ _; refine B2 hG Y Y Y ?_)
      | (show AOp _ _ ⟨_, .build _ _, _, _, _, _⟩ _ _ _; refine r_build hG Y Y Y Y Y ?_)
      | (show AOp _ _ ⟨_, .box _ _, _, _, _, _⟩ _ _ _; refine B1 hG Y Y Y (fun i => ?_))
      | (show AOp _ _ ⟨_, .alloc _, _, _, _, _⟩ _ _ _; refine Bv hG Y Y (fun i => ?_))
      | (show AOp _ _ ⟨_, .store _ _ _, _, _, _, _⟩ _ _ _; first | refine Bb 0 hG Y Y Y Y Y Y Y ?_ | refine Bb 1 hG Y Y Y Y Y Y Y ?_ | refine Bb 2 hG Y Y Y Y Y Y Y ?_)
      | (show AOp _ _ ⟨_, .call ⟨.value _, _, _⟩, _, _, _, _⟩ _ _ _; first | refine Bc Y Y Y Y Y (by apply hM <;> (first | assumption | omega | exact Ab _ _ | exact Af _ | exact Ag _ _ | exact Ay _ | rfl | (simp; omega))) ?_ | fail)
      | refine r_q hG Y Y Y ?_))
    | (show AL _ _ _ _ _ _ _ _; first | refine Bj Y Y Y ?_ | (refine As ?_; first | show AW _ _ _ _ _ _ | show ∃ x', _ < _ ∧ _)) | (show AW _ _ (.seq _ _) _ _ _; refine Ah ?_; intro Q1) | (show AW _ _ (.region _ _ false) _ _ _; refine Ad ?_; intro O1) | (show AW _ _ (.cond _ _ _) _ _ _; first | refine Aj Y ?_ | refine Ai Y ?_) | (show AW _ _ (.skip) _ _ _; refine Ak ?_; first | show AW _ _ _ _ _ _ | show ∃ x', _ < _ ∧ _) | (show AW _ _ (.goto _) _ _ _; refine Bz ?_; try dsimp only [Aw, Aa, Au, Ac]) | (show AW _ _ (.ret) _ _ _; refine Ar ?_; try dsimp only [Aw, Aa, Au, Ac]) | fail)
      dsimp (config := { zetaDelta := true }) only [Aw, Aa, Au, Ac]
      refine ⟨rfl, ⟨⟨_, _, _, _⟩, hT⟩, ?_, .refl _⟩
      exact .cons rfl (.cons rfl (.nil _))
end Go.Proofs.Ytemgmkoggnjgjaa
namespace Go.Proofs.Ytemgmkoggnjgjaa
open Go.Ts Go.Sets
set_option linter.unusedSimpArgs false
set_option linter.unusedVariables false
def tl (o : OB) : List UInt8 := tailB o []
theorem tailB_tl (o : OB) (b : List UInt8) : tailB o b = b ++ tl o := by
  unfold tl tailB
  split
  · simp
  split
  · simp [putBs]
  split
  · rw [putC_eq]
  · rw [putR_eq, putR_eq []]; simp
def norm (o : OB) : OB :=
  if o.kind = 1 then ⟨o.id, o.kind, o.df, o.ps, [], [], [], o.q, o.u, o.x, [], [], []⟩
  else if o.kind = 2 then ⟨o.id, o.kind, o.df, o.ps, [], [], [], 0, 0, 0, o.d, [], []⟩
  else if o.kind = 3 then ⟨o.id, o.kind, o.df, o.ps, [], [], [], 0, 0, 0, [], o.c, []⟩
  else ⟨o.id, o.kind, o.df, o.ps, [], [], [], 0, 0, 0, [], [], o.r⟩
theorem takeC_putC' {a : List UInt16} (ha : mayC a = true) (t : List UInt8) : takeC (putC [] a ++ t) = (a, (putC [] a).length, 0) := by rw [takeC_putC ha, putC_len]
theorem box_put {q u x : Nat} (hq : q < 65536) (hu : u < 65536) (hx : x < 65536) (t : List UInt8) : boxF (putI q 2 ++ putI u 2 ++ putI x 2 ++ t) = ⟨0, q, u, x, [], [], [], t⟩ := by
  rw [show (2 : Int) = ((2 : Nat) : Int) from rfl, putI_be _ _ (by omega), putI_be _ _ (by omega), putI_be _ _ (by omega)]
  have lq := be_length q 2
  have lu := be_length u 2
  have lx := be_length x 2
  have vq := beV_be q 2 (by omega)
  have vu := beV_be u 2 (by omega)
  have vx := beV_be x 2 (by omega)
  generalize be q 2 = Q at *
  generalize be u 2 = U at *
  generalize be x 2 = X at *
  have d1 : (Q ++ U ++ X ++ t).drop 2 = U ++ X ++ t := by rw [List.append_assoc, List.append_assoc, ← lq, List.drop_left]; simp
  have d2 : (U ++ X ++ t).drop 2 = X ++ t := by rw [List.append_assoc, ← lu, List.drop_left]
  have d3 : (X ++ t).drop 2 = t := by rw [← lx, List.drop_left]
  have t1 : (Q ++ U ++ X ++ t).take 2 = Q := by rw [List.append_assoc, List.append_assoc, ← lq, List.take_left]
  have t2 : (U ++ X ++ t).take 2 = U := by rw [List.append_assoc, ← lu, List.take_left]
  have t3 : (X ++ t).take 2 = X := by rw [← lx, List.take_left]
  unfold boxF
  rw [d1, d2, d3, t1, t2, t3, vq, vu, vx, if_neg (by simp; omega), if_neg (by simp; omega), if_neg (by simp; omega)]
theorem box_short {b : List UInt8} (h : b.length < 6) : (boxF b).e = 3 := by
  unfold boxF
  split
  · rfl
  split
  · rfl
  split
  · rfl
  · rename_i h1 h2 h3; simp only [List.length_drop] at h2 h3; omega
theorem box_back {b : List UInt8} (h : (boxF b).e = 0) : b = putI (boxF b).q 2 ++ putI (boxF b).u 2 ++ putI (boxF b).x 2 ++ (boxF b).rest ∧ (boxF b).d = [] ∧ (boxF b).c = [] ∧ (boxF b).r = [] := by
  unfold boxF at h ⊢
  by_cases h1 : b.length < 2
  · rw [if_pos h1] at h; cases h
  rw [if_neg h1] at h ⊢
  by_cases h2 : (b.drop 2).length < 2
  · rw [if_pos h2] at h; cases h
  rw [if_neg h2] at h ⊢
  by_cases h3 : ((b.drop 2).drop 2).length < 2
  · rw [if_pos h3] at h; cases h
  rw [if_neg h3]
  have f : ∀ c : List UInt8, ¬ c.length < 2 → putI (beV (c.take 2) : Nat) 2 = c.take 2 := fun c hc => by
    rw [show (2 : Int) = ((2 : Nat) : Int) from rfl, putI_be _ _ (by omega)]
    have := be_beV (c.take 2)
    rwa [show (c.take 2).length = 2 by simp; omega] at this
  refine ⟨?_, rfl, rfl, rfl⟩
  dsimp only
  rw [f _ h1, f _ h2, f _ h3]
  simp only [List.append_assoc, List.take_append_drop]
theorem tail_put {o : OB} (hk : kindOK o = true) (t : List UInt8) : tailF o.kind.toNat (tl o ++ t) = ⟨0, (norm o).q.toNat, (norm o).u.toNat, (norm o).x.toNat, (norm o).d, (norm o).c, (norm o).r, t⟩ := by
  have hk' := hk
  unfold kindOK at hk'
  unfold tl tailB norm tailF
  by_cases k1 : o.kind = 1
  · rw [if_pos k1] at hk'
    have h := of_decide_eq_true hk'
    have e : o.kind.toNat = 1 := by omega
    simp only [if_pos k1, if_pos e]
    obtain ⟨q, hq⟩ := Int.eq_ofNat_of_zero_le (show 0 ≤ o.q by omega)
    obtain ⟨u, hu⟩ := Int.eq_ofNat_of_zero_le (show 0 ≤ o.u by omega)
    obtain ⟨x, hx⟩ := Int.eq_ofNat_of_zero_le (show 0 ≤ o.x by omega)
    rw [hq, hu, hx] at h ⊢
    rw [List.nil_append]
    exact box_put (by omega) (by omega) (by omega) t
  rw [if_neg k1] at hk'
  by_cases k2 : o.kind = 2
  · rw [if_pos k2] at hk'
    have h := of_decide_eq_true hk'
    have e1 : ¬ o.kind.toNat = 1 := by omega
    have e2 : o.kind.toNat = 2 := by omega
    simp only [if_neg k1, if_pos k2, if_neg e1, if_pos e2]
    have hp : putBs [] o.d ++ t = putI o.d.length 2 ++ o.d ++ t := by simp [putBs]
    rw [hp, takeBE_put _ _ (by omega)]
    simp only [if_pos rfl]
    have hl : (putI (o.d.length : Int) 2 ++ o.d).length = 2 + o.d.length := by rw [show (2 : Int) = ((2 : Nat) : Int) from rfl, putI_be _ _ (by omega), List.length_append, be_length]
    rw [← hl, List.drop_left]
    rfl
  rw [if_neg k2] at hk'
  by_cases k3 : o.kind = 3
  · rw [if_pos k3] at hk'
    have e1 : ¬ o.kind.toNat = 1 := by omega
    have e2 : ¬ o.kind.toNat = 2 := by omega
    have e3 : o.kind.toNat = 3 := by omega
    simp only [if_neg k1, if_neg k2, if_pos k3, if_neg e1, if_neg e2, if_pos e3]
    rw [takeC_putC' hk']
    simp only [if_pos rfl, List.drop_left]
    rfl
  rw [if_neg k3] at hk'
  by_cases k4 : o.kind = 4
  · rw [if_pos k4] at hk'
    have e1 : ¬ o.kind.toNat = 1 := by omega
    have e2 : ¬ o.kind.toNat = 2 := by omega
    have e3 : ¬ o.kind.toNat = 3 := by omega
    simp only [if_neg k1, if_neg k2, if_neg k3, if_neg e1, if_neg e2, if_neg e3]
    rw [takeR_put hk']
    simp only [if_pos rfl, List.drop_left]
    rfl
  · rw [if_neg k4] at hk'; cases hk'
theorem tail_short {o : OB} (hk : kindOK o = true) (n : Nat) (hn : n < (tl o).length) : (tailF o.kind.toNat ((tl o).take n)).e = 3 := by
  have hk' := hk
  unfold kindOK at hk'
  unfold tl tailB at hn ⊢
  unfold tailF
  by_cases k1 : o.kind = 1
  · rw [if_pos k1] at hk'
    have h := of_decide_eq_true hk'
    have e : o.kind.toNat = 1 := by omega
    simp only [if_pos k1, if_pos e] at hn ⊢
    apply box_short
    rw [List.length_take]
    obtain ⟨q, hq⟩ := Int.eq_ofNat_of_zero_le (show 0 ≤ o.q by omega)
    obtain ⟨u, hu⟩ := Int.eq_ofNat_of_zero_le (show 0 ≤ o.u by omega)
    obtain ⟨x, hx⟩ := Int.eq_ofNat_of_zero_le (show 0 ≤ o.x by omega)
    rw [hq, hu, hx, show (2 : Int) = ((2 : Nat) : Int) from rfl, putI_be _ _ (by omega), putI_be _ _ (by omega), putI_be _ _ (by omega)] at hn ⊢
    simp only [List.length_append, be_length, List.length_nil] at hn ⊢
    omega
  rw [if_neg k1] at hk'
  by_cases k2 : o.kind = 2
  · rw [if_pos k2] at hk'
    have h := of_decide_eq_true hk'
    have e1 : ¬ o.kind.toNat = 1 := by omega
    have e2 : o.kind.toNat = 2 := by omega
    simp only [if_neg k1, if_pos k2, if_neg e1, if_pos e2] at hn ⊢
    have hp : putBs [] o.d = putI o.d.length 2 ++ o.d ++ [] := by simp [putBs]
    rw [hp] at hn ⊢
    have hl : (putI (o.d.length : Int) 2 ++ o.d ++ []).length = 2 + o.d.length := by rw [show (2 : Int) = ((2 : Nat) : Int) from rfl, putI_be _ _ (by omega), List.append_nil, List.length_append, be_length]
    rw [takeBE_short _ _ _ (by omega) (by omega), if_neg (by decide)]
    rfl
  rw [if_neg k2] at hk'
  by_cases k3 : o.kind = 3
  · rw [if_pos k3] at hk'
    have e1 : ¬ o.kind.toNat = 1 := by omega
    have e2 : ¬ o.kind.toNat = 2 := by omega
    have e3 : o.kind.toNat = 3 := by omega
    simp only [if_neg k1, if_neg k2, if_pos k3, if_neg e1, if_neg e2, if_pos e3] at hn ⊢
    rw [putC_len] at hn
    have := takeC_short (mayC_le hk') n hn []
    rw [List.append_nil] at this
    rw [this, if_neg (by decide)]
    rfl
  rw [if_neg k3] at hk'
  by_cases k4 : o.kind = 4
  · rw [if_pos k4] at hk'
    have e1 : ¬ o.kind.toNat = 1 := by omega
    have e2 : ¬ o.kind.toNat = 2 := by omega
    have e3 : ¬ o.kind.toNat = 3 := by omega
    simp only [if_neg k1, if_neg k2, if_neg k3, if_neg e1, if_neg e2, if_neg e3] at hn ⊢
    rw [takeR_short hk' n hn, if_neg (by decide)]
    rfl
  · rw [if_neg k4] at hk'; cases hk'
theorem tail_back {k : Nat} {b : List UInt8} {h : HD} (hk : h.kind = k) (he : (tailF k b).e = 0) : b = tl (mkO h (tailF k b)) ++ (tailF k b).rest := by
  subst hk
  unfold tl tailB mkO
  dsimp only
  by_cases k1 : h.kind = 1
  · have e : tailF h.kind b = boxF b := by rw [tailF, if_pos k1]
    rw [e] at he ⊢
    rw [if_pos (by omega), List.nil_append]
    exact (box_back he).1
  by_cases k2 : h.kind = 2
  · have e : tailF h.kind b = if (Cd b).2.2 = 0 then ⟨0, 0, 0, 0, (Cd b).1, [], [], b.drop (Cd b).2.1⟩ else .no (Cd b).2.2 := by rw [tailF, if_neg k1, if_pos k2]
    rw [e] at he ⊢
    by_cases z : (Cd b).2.2 = 0
    · rw [if_pos z] at he ⊢
      rw [if_neg (by omega), if_pos (by omega)]
      have q : Cd b = ((Cd b).1, (Cd b).2.1, 0) := by rw [← z]
      have := (takeBE_back q).1
      simpa [putBs] using this
    · rw [if_neg z] at he; exact absurd he z
  by_cases k3 : h.kind = 3
  · have e : tailF h.kind b = if (takeC b).2.2 = 0 then ⟨0, 0, 0, 0, [], (takeC b).1, [], b.drop (takeC b).2.1⟩ else .no (takeC b).2.2 := by rw [tailF, if_neg k1, if_neg k2, if_pos k3]
    rw [e] at he ⊢
    by_cases z : (takeC b).2.2 = 0
    · rw [if_pos z] at he ⊢
      rw [if_neg (by omega), if_neg (by omega), if_pos (by omega)]
      have q : takeC b = ((takeC b).1, (takeC b).2.1, 0) := by rw [← z]
      dsimp only
      rw [takeC_back q, List.take_append_drop]
    · rw [if_neg z] at he; exact absurd he z
  · have e : tailF h.kind b = if (takeR b).2.2 = 0 then ⟨0, 0, 0, 0, [], [], (takeR b).1, b.drop (takeR b).2.1⟩ else .no (takeR b).2.2 := by rw [tailF, if_neg k1, if_neg k2, if_neg k3]
    rw [e] at he ⊢
    by_cases z : (takeR b).2.2 = 0
    · rw [if_pos z] at he ⊢
      rw [if_neg (by omega), if_neg (by omega), if_neg (by omega)]
      have q : takeR b = ((takeR b).1, (takeR b).2.1, 0) := by rw [← z]
      exact (takeR_back q).1
    · rw [if_neg z] at he; exact absurd he z
theorem head_put {k id : Nat} {df : UInt8} {ps : List PR} (hk : 1 ≤ k ∧ k ≤ 4) (hid : id < 18446744073709551616) (hm : mayLab df ps = true) (R : List UInt8) :
    Bo (1 :: UInt8.ofNat k :: (putI id 8 ++ (putLab [] df ps ++ R))) = ⟨0, k, id, df, ps, R⟩ := by
  rw [show (8 : Int) = ((8 : Nat) : Int) from rfl, putI_be _ _ (by omega)]
  have l8 := be_length id 8
  have v8 := beV_be id 8 (by simpa using hid)
  have hk2 : beV [UInt8.ofNat k] = k := beV_1 k (by omega)
  have hT := takeLab_put hm R
  unfold Bo
  have d1 : ∀ (x y : UInt8) (l : List UInt8), (x :: y :: l).drop 1 = y :: l := fun _ _ _ => rfl
  have d2 : ∀ (x : UInt8) (l : List UInt8), (x :: l).drop 1 = l := fun _ _ => rfl
  have t1 : ∀ (x : UInt8) (l : List UInt8), (x :: l).take 1 = [x] := fun _ _ => rfl
  have d3 : (be id 8 ++ (putLab [] df ps ++ R)).drop 8 = putLab [] df ps ++ R := List.drop_left' l8
  have t3 : (be id 8 ++ (putLab [] df ps ++ R)).take 8 = be id 8 := List.take_left' l8
  rw [d1, d2, d3, t1, t1, t3, hk2, hT, v8, if_neg (by simp), if_neg (by decide), if_neg (by simp), if_neg (by omega), if_neg (by simp; omega), if_neg (by simp)]
  dsimp only
  rw [List.drop_left]
theorem head_short {k id : Nat} {df : UInt8} {ps : List PR} (hk : 1 ≤ k ∧ k ≤ 4) (hm : mayLab df ps = true) (R : List UInt8) (n : Nat) (hn : n < 10 + (putLab [] df ps).length) :
    (Bo ((1 :: UInt8.ofNat k :: (putI id 8 ++ (putLab [] df ps ++ R))).take n)).e = 3 := by
  rw [show (8 : Int) = ((8 : Nat) : Int) from rfl, putI_be _ _ (by omega)]
  have l8 := be_length id 8
  have hk2 : beV [UInt8.ofNat k] = k := beV_1 k (by omega)
  by_cases n0 : n = 0
  · subst n0; rfl
  obtain ⟨m, rfl⟩ := Nat.exists_eq_succ_of_ne_zero n0
  rw [Nat.succ_eq_add_one, List.take_succ_cons]
  unfold Bo
  have d2 : ∀ (x : UInt8) (l : List UInt8), (x :: l).drop 1 = l := fun _ _ => rfl
  have t1 : ∀ (x : UInt8) (l : List UInt8), (x :: l).take 1 = [x] := fun _ _ => rfl
  rw [if_neg (by simp), t1, if_neg (by decide), d2]
  by_cases m0 : m = 0
  · subst m0; rw [if_pos (by simp)]; rfl
  obtain ⟨p, rfl⟩ := Nat.exists_eq_succ_of_ne_zero m0
  rw [Nat.succ_eq_add_one, List.take_succ_cons, if_neg (by simp), t1, hk2, if_neg (by omega), d2]
  by_cases p8 : p < 8
  · rw [if_pos (by simp; omega)]; rfl
  rw [if_neg (by simp; omega)]
  have e : ((be id 8 ++ (putLab [] df ps ++ R)).take p).drop 8 = (putLab [] df ps ++ R).take (p - 8) := by
    rw [List.take_append, List.take_of_length_le (by omega), l8]
    exact List.drop_left' l8
  rw [e]
  have := takeLab_short (df := df) (l := ps) (by have := (mayLab_len hm).1; omega) R (p - 8) (by omega)
  rw [this, if_pos (by decide)]
  rfl
theorem head_back {b : List UInt8} (h : (Bo b).e = 0) : b = 1 :: UInt8.ofNat (Bo b).kind :: (putI (Bo b).id 8 ++ (putLab [] (Bo b).df (Bo b).ps ++ (Bo b).rest)) := by
  unfold Bo at h ⊢
  by_cases h1 : b.length < 1
  · rw [if_pos h1] at h; cases h
  rw [if_neg h1] at h ⊢
  by_cases h2 : beV (b.take 1) ≠ 1
  · rw [if_pos h2] at h; cases h
  rw [if_neg h2] at h ⊢
  by_cases h3 : (b.drop 1).length < 1
  · rw [if_pos h3] at h; cases h
  rw [if_neg h3] at h ⊢
  by_cases h4 : beV ((b.drop 1).take 1) < 1 ∨ 4 < beV ((b.drop 1).take 1)
  · rw [if_pos h4] at h; cases h
  rw [if_neg h4] at h ⊢
  by_cases h5 : ((b.drop 1).drop 1).length < 8
  · rw [if_pos h5] at h; cases h
  rw [if_neg h5] at h ⊢
  by_cases h6 : (B9 (((b.drop 1).drop 1).drop 8)).e ≠ 0
  · rw [if_pos h6] at h; exact absurd h h6
  rw [if_neg h6]
  dsimp only
  match b, h1, h2, h3, h4, h5, h6 with
  | [], h1, _, _, _, _, _ => simp at h1
  | [x], _, _, h3, _, _, _ => simp at h3
  | x :: y :: c, h1, h2, h3, h4, h5, h6 =>
    have d1 : (x :: y :: c).drop 1 = y :: c := rfl
    have d2 : (y :: c).drop 1 = c := rfl
    have t1 : (x :: y :: c).take 1 = [x] := rfl
    have t2 : (y :: c).take 1 = [y] := rfl
    rw [d1, d2] at h5 h6 ⊢
    rw [t1] at h2
    rw [t2]
    have e1 : ∀ z : UInt8, beV [z] = z.toNat := fun z => by simp [beV]
    rw [e1] at h2 ⊢
    have hx : x = 1 := UInt8.toNat_inj.1 (by rw [show (1 : UInt8).toNat = 1 from rfl]; omega)
    obtain ⟨_, k1, k2⟩ := takeLab_ok (b := c.drop 8) (by simpa using h6)
    rw [k2, List.take_append_drop, hx, show (8 : Int) = ((8 : Nat) : Int) from rfl, putI_be _ _ (by omega)]
    have := be_beV (c.take 8)
    rw [show (c.take 8).length = 8 by rw [List.length_take]; omega] at this
    rw [this, List.take_append_drop]
    simp
theorem bytes1_eq {o : OB} : bytes1 o = 1 :: UInt8.ofNat o.kind.toNat :: (putI o.id 8 ++ (putLab [] o.df o.ps ++ tl o)) := by
  unfold bytes1 headB1
  rw [tailB_tl]
  unfold putLab
  simp
theorem norm_may {o : OB} (h : mayO1 o = true) : mayO1 (norm o) = true ∧ tl (norm o) = tl o ∧ (norm o).kind = o.kind ∧ (norm o).id = o.id ∧ (norm o).df = o.df ∧ (norm o).ps = o.ps := by
  unfold mayO1 at h ⊢
  simp only [Bool.and_eq_true] at h
  obtain ⟨⟨h1, h2⟩, h3⟩ := h
  have hkr := kind_range h3
  unfold labB1 at h2 ⊢
  unfold kindOK at h3 ⊢
  unfold tl tailB
  rcases hkr with k | k | k | k
  · have e : norm o = ⟨o.id, o.kind, o.df, o.ps, [], [], [], o.q, o.u, o.x, [], [], []⟩ := by rw [norm, if_pos k]
    rw [e]; simp only [k, if_pos] at h3 ⊢; simp_all
  · have e : norm o = ⟨o.id, o.kind, o.df, o.ps, [], [], [], 0, 0, 0, o.d, [], []⟩ := by rw [norm, if_neg (by omega), if_pos k]
    rw [e]; simp only [k] at h3 ⊢; simp_all
  · have e : norm o = ⟨o.id, o.kind, o.df, o.ps, [], [], [], 0, 0, 0, [], o.c, []⟩ := by rw [norm, if_neg (by omega), if_neg (by omega), if_pos k]
    rw [e]; simp only [k] at h3 ⊢; simp_all
  · have e : norm o = ⟨o.id, o.kind, o.df, o.ps, [], [], [], 0, 0, 0, [], [], o.r⟩ := by rw [norm, if_neg (by omega), if_neg (by omega), if_neg (by omega)]
    rw [e]; simp only [k] at h3 ⊢; simp_all
theorem norm_mk {o : OB} (h : mayO1 o = true) (R : List UInt8) : mkO ⟨0, o.kind.toNat, o.id, o.df, o.ps, R⟩ ⟨0, (norm o).q.toNat, (norm o).u.toNat, (norm o).x.toNat, (norm o).d, (norm o).c, (norm o).r, R⟩ = norm o := by
  unfold mayO1 at h
  simp only [Bool.and_eq_true] at h
  have hkr := kind_range h.2
  have h3 := h.2
  unfold kindOK at h3
  have ek : ((o.kind.toNat : Nat) : Int) = o.kind := by omega
  unfold mkO norm
  rcases hkr with k | k | k | k
  · simp only [if_pos k] at h3 ⊢
    have := of_decide_eq_true h3
    simp only [ek, Int.toNat_of_nonneg (show 0 ≤ o.q by omega), Int.toNat_of_nonneg (show 0 ≤ o.u by omega), Int.toNat_of_nonneg (show 0 ≤ o.x by omega)]
  · rw [if_neg (by omega), if_pos k]; simp only [ek]; rfl
  · rw [if_neg (by omega), if_neg (by omega), if_pos k]; simp only [ek]; rfl
  · rw [if_neg (by omega), if_neg (by omega), if_neg (by omega)]; simp only [ek]; rfl
theorem norm_mk' {o : OB} (h : mayO1 o = true) (R R' : List UInt8) : mkO ⟨0, o.kind.toNat, o.id, o.df, o.ps, R⟩ ⟨0, (norm o).q.toNat, (norm o).u.toNat, (norm o).x.toNat, (norm o).d, (norm o).c, (norm o).r, R'⟩ = norm o := norm_mk h R
theorem take1_put {o : OB} (h : mayO1 o = true) (hid : o.id < 18446744073709551616) (t : List UInt8) : takeO1 (bytes1 o ++ t) = if t.length = 0 then (norm o, 0) else (zeroO, 2) := by
  have h' := h
  unfold mayO1 labB1 at h'
  simp only [Bool.and_eq_true] at h'
  obtain ⟨⟨h1, h2⟩, h3⟩ := h'
  have hkr := kind_range h3
  have hh : Bo (bytes1 o ++ t) = ⟨0, o.kind.toNat, o.id, o.df, o.ps, tl o ++ t⟩ := by
    rw [bytes1_eq, List.cons_append, List.cons_append, List.append_assoc, List.append_assoc]
    exact head_put (by omega) hid h2.1 _
  unfold takeO1
  rw [hh]
  dsimp only
  rw [tail_put h3, norm_mk' h, (norm_may h).1, if_neg (by simp), if_neg (by simp)]
  by_cases ht : t.length = 0
  · rw [if_pos ht, if_pos (by simp [ht])]
  · rw [if_neg ht, if_neg (by simpa using ht)]
theorem take1_short {o : OB} (h : mayO1 o = true) (hid : o.id < 18446744073709551616) (n : Nat) (hn : n < (bytes1 o).length) : (takeO1 ((bytes1 o).take n)).2 = 3 := by
  have h' := h
  unfold mayO1 labB1 at h'
  simp only [Bool.and_eq_true] at h'
  obtain ⟨⟨h1, h2⟩, h3⟩ := h'
  have hkr := kind_range h3
  have l8 : (putI (o.id : Int) 8).length = 8 := by rw [show (8 : Int) = ((8 : Nat) : Int) from rfl, putI_be _ _ (by omega), be_length]
  rw [bytes1_eq] at hn ⊢
  simp only [List.length_cons, List.length_append, l8] at hn
  by_cases hs : n < 10 + (putLab [] o.df o.ps).length
  · have := head_short (k := o.kind.toNat) (id := o.id) (by omega) h2.1 (tl o) n hs
    unfold takeO1
    rw [if_pos (by rw [this]; decide)]
    exact this
  · have e : (1 :: UInt8.ofNat o.kind.toNat :: (putI o.id 8 ++ (putLab [] o.df o.ps ++ tl o))).take n = 1 :: UInt8.ofNat o.kind.toNat :: (putI o.id 8 ++ (putLab [] o.df o.ps ++ (tl o).take (n - (10 + (putLab [] o.df o.ps).length)))) := by
      have e1 : (1 :: UInt8.ofNat o.kind.toNat :: (putI o.id 8 ++ (putLab [] o.df o.ps ++ tl o))) = (1 :: UInt8.ofNat o.kind.toNat :: (putI o.id 8 ++ putLab [] o.df o.ps)) ++ tl o := by simp
      have el : (1 :: UInt8.ofNat o.kind.toNat :: (putI o.id 8 ++ putLab [] o.df o.ps)).length = 10 + (putLab [] o.df o.ps).length := by simp [l8]; omega
      rw [e1, List.take_append, List.take_of_length_le (by omega), el]
      simp
    rw [e]
    unfold takeO1
    rw [head_put (by omega) hid h2.1]
    dsimp only
    have ts := tail_short h3 (n - (10 + (putLab [] o.df o.ps).length)) (by omega)
    rw [if_neg (by simp), if_pos (by rw [ts]; decide)]
    exact ts
theorem take1_back {b : List UInt8} (h : (takeO1 b).2 = 0) : mayO1 (takeO1 b).1 = true ∧ bytes1 (takeO1 b).1 = b := by
  unfold takeO1 at h ⊢
  by_cases h1 : (Bo b).e ≠ 0
  · rw [if_pos h1] at h; exact absurd h h1
  rw [if_neg h1] at h ⊢
  by_cases h2 : (tailF (Bo b).kind (Bo b).rest).e ≠ 0
  · rw [if_pos h2] at h; exact absurd h h2
  rw [if_neg h2] at h ⊢
  by_cases h3 : (mayO1 (mkO (Bo b) (tailF (Bo b).kind (Bo b).rest)) && decide ((tailF (Bo b).kind (Bo b).rest).rest.length = 0)) = true
  · rw [if_pos h3]
    simp only [Bool.and_eq_true, decide_eq_true_eq] at h3
    refine ⟨h3.1, ?_⟩
    have hb := head_back (b := b) (by simpa using h1)
    have tb := tail_back (h := Bo b) rfl (show (tailF (Bo b).kind (Bo b).rest).e = 0 by simpa using h2)
    rw [List.length_eq_zero_iff.1 h3.2, List.append_nil] at tb
    dsimp only
    rw [bytes1_eq, ← tb]
    exact hb.symm
  · rw [if_neg h3] at h; cases h
end Go.Proofs.Ytemgmkoggnjgjaa
namespace Go.Proofs.Ytemgmkoggnjgjaa
open Go.Ts Go.Sets
set_option linter.unusedSimpArgs false
set_option linter.unusedVariables false
theorem ty_int {G : Nat → Option TI} {n t : Nat} {cs : List T} {ti : TI} {k : IntKind} (h : Ty G (n + 1) t cs) (ht : G t = some ti) (htd : ti.d = .int k) : ∃ v, cs = [.int k v] ∧ (Lit.int k v).wf = true := by
  simpa only [Ty, ht, htd] using h
theorem ty_struct {G : Nat → Option TI} {n t : Nat} {cs : List T} {ti : TI} {fs : List (Nat × Nat)} (h : Ty G (n + 1) t cs) (ht : G t = some ti) (htd : ti.d = .struct fs) : TyFs (Ty G n) fs cs := by
  simpa only [Ty, ht, htd] using h
theorem pairs_of_ty {G : Nat → Option TI} {n e t16 tu o1 o2 : Nat} {ie i16 iu : TI} (he : G e = some ie) (hed : ie.d = .struct [(o1, t16), (o2, tu)]) (h16 : G t16 = some i16) (h16d : i16.d = .int .u16) (hu : G tu = some iu) (hud : iu.d = .int .u8) :
    ∀ (xs : List T), (∀ y ∈ xs, Ty G (n + 2) e y.cells ∧ AggOK G e y) → ∃ l : List PR, xs = l.map pT
  | [], _ => ⟨[], rfl⟩
  | x :: xs, h => by
    obtain ⟨l, hl⟩ := pairs_of_ty he hed h16 h16d hu hud xs (fun y hy => h y (List.mem_cons_of_mem _ hy))
    obtain ⟨cs, rfl, p1, q1, rfl, g1, p2, q2, rfl, g2, rfl⟩ := argTy_struct (h x List.mem_cons_self) he hed
    obtain ⟨v1, rfl, w1⟩ := ty_int g1 h16 h16d
    obtain ⟨v2, rfl, w2⟩ := ty_int g2 hu hud
    have u1 := wf_u16 w1
    have u2 := wf_u8 w2
    refine ⟨(UInt16.ofNat v1.toNat, UInt8.ofNat v2.toNat) :: l, ?_⟩
    rw [hl, List.map_cons]
    congr 1
    unfold pT hT bT
    have e1 : ((UInt16.ofNat v1.toNat).toNat : Int) = v1 := by simp; omega
    have e2 : ((UInt8.ofNat v2.toNat).toNat : Int) = v2 := by simp; omega
    rw [e1, e2]; rfl
theorem argTy_obj {G : Nat → Option TI} {n t tq ti8 tl ts tb tc tr tu tps t16 o0 o1 o2 o3 o4 o5 o6 o7 o8 o9 o10 o11 o12 o13 o14 o15 o16 : Nat} {tp : Nat} {x : T} {it iq ii il is ib ic ir iu ips i16 ip : TI}
    (h : ArgTy G (n + 6) t x) (ht : G t = some it) (htd : it.d = .struct [(o0, tq), (o1, ti8), (o2, tl), (o3, ts), (o4, ti8), (o5, ti8), (o6, ti8), (o7, tb), (o8, tc), (o9, tr)])
    (hq : G tq = some iq) (hqd : iq.d = .int .u64) (hi : G ti8 = some ii) (hid : ii.d = .int .i64) (hl : G tl = some il) (hld : il.d = .struct [(o10, tu), (o11, tps)]) (hs : G ts = some is) (hsd : is.d = .struct [(o12, tc), (o13, tc), (o14, tc)])
    (hb : G tb = some ib) (hbd : ib.d = .slice tu) (hbs : ib.size = 1) (hc : G tc = some ic) (hcd : ic.d = .slice t16) (hr : G tr = some ir) (hrd : ir.d = .slice tb) (hu : G tu = some iu) (hud : iu.d = .int .u8) (hus : iu.size = 1)
    (hps : G tps = some ips) (hpsd : ips.d = .slice tp) (hp : G tp = some ip) (hpz : ip.size = 2) (hpd : ip.d = .struct [(o15, t16), (o16, tu)]) (h16 : G t16 = some i16) (h16d : i16.d = .int .u16) (h16s : i16.size = 1) :
    ∃ o : OB, x = o.t ∧ o.Fits := by
  obtain ⟨cs, rfl, p0, q0, rfl, f0, p1, q1, rfl, f1, p2, q2, rfl, f2, p3, q3, rfl, f3, p4, q4, rfl, f4, p5, q5, rfl, f5, p6, q6, rfl, f6, p7, q7, rfl, f7, p8, q8, rfl, f8, p9, q9, rfl, f9, rfl⟩ := argTy_struct h ht htd
  obtain ⟨v0, rfl, w0⟩ := ty_int f0 hq hqd
  obtain ⟨v1, rfl, w1⟩ := ty_int f1 hi hid
  obtain ⟨l1, m1, rfl, g1, l2, m2, rfl, g2, rfl⟩ := ty_struct f2 hl hld
  obtain ⟨vd, rfl, wd⟩ := ty_int g1 hu hud
  obtain ⟨xs, rfl, hxs, hxe⟩ := ty_slice g2 hps hpsd
  obtain ⟨xs, rfl⟩ := pairs_of_ty hp hpd h16 h16d hu hud xs hxe
  rw [List.length_map] at hxs
  obtain ⟨s1, n1, rfl, e1, s2, n2, rfl, e2, s3, n3, rfl, e3, rfl⟩ := ty_struct f3 hs hsd
  obtain ⟨a, rfl, ha⟩ := ty_cats e1 hc hcd h16 h16d h16s
  obtain ⟨b, rfl, hb'⟩ := ty_cats e2 hc hcd h16 h16d h16s
  obtain ⟨c, rfl, hc'⟩ := ty_cats e3 hc hcd h16 h16d h16s
  obtain ⟨v4, rfl, w4⟩ := ty_int f4 hi hid
  obtain ⟨v5, rfl, w5⟩ := ty_int f5 hi hid
  obtain ⟨v6, rfl, w6⟩ := ty_int f6 hi hid
  obtain ⟨d, rfl, hd⟩ := ty_bytes f7 hb hbd hu hud hus
  obtain ⟨cc, rfl, hcc⟩ := ty_cats f8 hc hcd h16 h16d h16s
  obtain ⟨r, rfl, hr1, hr2⟩ := ty_letters f9 hr hrd hb hbd hbs hu hud hus
  have u0 := wf_u64 w0
  have ud := wf_u8 wd
  refine ⟨⟨v0.toNat, v1, UInt8.ofNat vd.toNat, xs, a, b, c, v4, v5, v6, d, cc, r⟩, ?_, ⟨by show v0.toNat < _; omega, ha, hb', hc', hd, hcc, hr1, hr2, hxs⟩⟩
  have e0 : ((v0.toNat : Nat) : Int) = v0 := by omega
  have e9 : bT (UInt8.ofNat vd.toNat) = .int .u8 vd := by unfold bT; congr 1; simp; omega
  simp only [OB.t, e0, e9, sizeT, hp, hpz, lT, Option.map_some, Option.getD_some, List.cons_append, List.nil_append]
end Go.Proofs.Ytemgmkoggnjgjaa
namespace Go.Proofs.Ytemgmkoggnjgjaa
open Go.Ts Go.Sets
set_option linter.unusedSimpArgs false
set_option linter.unusedVariables false
attribute [local irreducible] Go.Ts.AW Go.Ts.AOps Go.Ts.AL Go.Ts.AOp Go.Ts.ACalls Go.Ts.DL Go.Ts.DQ Go.Ts.EL
theorem norm_fits {o : OB} (h : o.Fits) : (norm o).Fits := by
  unfold norm
  obtain ⟨h1, h2, h3, h4, h5, h6, h7, h8, h9⟩ := h
  have z : ∀ (α : Type), ([] : List α).length ≤ Ca := fun _ => Nat.zero_le _
  have n : ∀ b ∈ ([] : List (List UInt8)), b.length ≤ Ca := fun b hb => absurd hb List.not_mem_nil
  split
  · exact ⟨h1, z _, z _, z _, z _, z _, z _, n, h9⟩
  split
  · exact ⟨h1, z _, z _, z _, h5, z _, z _, n, h9⟩
  split
  · exact ⟨h1, z _, z _, z _, z _, h6, z _, n, h9⟩
  · exact ⟨h1, z _, z _, z _, z _, z _, h7, h8, h9⟩
theorem zero_fits : zeroO.Fits := by
  have z : ∀ (α : Type), ([] : List α).length ≤ Ca := fun _ => Nat.zero_le _
  exact ⟨by decide, z _, z _, z _, z _, z _, z _, fun b hb => absurd hb List.not_mem_nil, z _⟩
theorem zero_may : mayO1 zeroO = false := by simp [mayO1, kindOK, zeroO]
theorem take1_zero {b : List UInt8} (h : (takeO1 b).2 ≠ 0) : (takeO1 b).1 = zeroO := by
  unfold takeO1 at h ⊢
  split
  · rfl
  split
  · rfl
  split
  · rename_i h1 h2 h3; rw [if_neg h1, if_neg h2, if_pos h3] at h; exact absurd rfl h
  · rfl
theorem take1_fits (b : List UInt8) : (takeO1 b).1.Fits := by
  unfold takeO1
  by_cases h1 : (Bo b).e ≠ 0
  · rw [if_pos h1]; exact zero_fits
  rw [if_neg h1]
  split
  · exact zero_fits
  split
  · exact mkO_fits (by simpa using h1) _
  · exact zero_fits
theorem bytes1_norm {o : OB} (h : mayO1 o = true) : bytes1 (norm o) = bytes1 o := by
  obtain ⟨_, h1, h2, h3, h4, h5⟩ := norm_may h
  rw [bytes1_eq, bytes1_eq, h1, h2, h3, h4, h5]
theorem bytes1_len {o : OB} (h : mayO1 o = true) : 1 ≤ (bytes1 o).length ∧ (bytes1 o).length ≤ 400 := by
  have h' := h
  unfold mayO1 at h'
  simp only [Bool.and_eq_true] at h'
  obtain ⟨⟨h1, h2⟩, h3⟩ := h'
  have hh := headB1_len h2
  have hk := h3
  unfold kindOK at hk
  have e : (bytes1 o).length = (headB1 o).length + (tl o).length := by unfold bytes1; rw [tailB_tl, List.length_append]
  have e2 : 1 ≤ (bytes1 o).length := by rw [bytes1_eq]; simp
  have e3 : (tl o).length ≤ 300 := by
    unfold tl tailB
    by_cases k1 : o.kind = 1
    · rw [if_pos k1]
      have l1 := putI_le o.q 2
      have l2 := putI_le o.u 2
      have l3 := putI_le o.x 2
      simp only [List.length_append, List.length_nil]; omega
    rw [if_neg k1] at hk ⊢
    by_cases k2 : o.kind = 2
    · rw [if_pos k2] at hk ⊢
      have := of_decide_eq_true hk
      rw [putBs_len _ _ (by omega)]; simp; omega
    rw [if_neg k2] at hk ⊢
    by_cases k3 : o.kind = 3
    · rw [if_pos k3] at hk ⊢
      have := mayC_le hk
      rw [putC_len]; omega
    rw [if_neg k3] at hk ⊢
    by_cases k4 : o.kind = 4
    · rw [if_pos k4] at hk
      have := putR_len hk []
      simp at this; omega
    · rw [if_neg k4] at hk; cases hk
  omega
theorem obj1_Take_is {x : T} {b : List UInt8} {r : OB × Int} (hx : bytesT x = some b) (hl : b.length ≤ 4294967296) (h : takeO1 b = r) : Ts.Pure Try.prog 17 [x] (.tup [r.1.t, .int .i64 r.2]) := by
  subst h; exact obj1_Take hx hl
theorem obj1_Put_is {o : OB} {r : T} (h : o.Fits) (hr : putO1T o = r) : Ts.Pure Try.prog 14 [o.t] r := by
  subst hr; exact obj1_Put h
set_option maxHeartbeats 1000000 in
theorem object1Back_pure {o : OB} {p : Int} {m : UInt8} {b : List UInt8} (h : o.Fits) (hb : b.length ≤ Ca) : Ts.Pure Try.prog 5 [o.t, .int .i64 p, bT m, sT b] (.bool true) := by
  have hL := law_light h
  have hP := obj1_Put h
  have hQ := ref_May1 h
  unfold putO1T at hP
  unfold Ca at hb
  intro off
  by_cases hb3 : 300 < b.length
  · unfold OB.t at hL hP hQ ⊢
    refine Bp (N := 142) (rs := [.tmp 8]) hG Try.func5 rfl rfl rfl rfl rfl ?_
    cases q : lightO o <;> rw [q] at hL
    · repeat' (first
    | ((show AL _ _ _ _ _ _ _ _; refine Ae Y ?_); (first
      | (show AOp _ _ ⟨_, .move _, _, _, _, _⟩ _ _ _; refine Al hG Y Y ?_)
      | (show AOp _ _ ⟨_, .assign _, _, _, _, _⟩ _ _ _; refine A9 hG Y Y ?_)
      | (show AOp _ _ ⟨_, .call ⟨.builtin .len, _, _⟩, _, _, _, _⟩ _ _ _; first | refine Az hG Y Y Y Y ?_ | refine Bd hG Y Y Y Y Y ?_)
      | (show AOp _ _ ⟨_, .binOp _ _ _ _ _, _, _, _, _⟩ _ _ _; first | refine Ap hG Y Y Y Y Y (by omega) ?_ | refine Aq hG Y Y Y Y Y (by omega) ?_ | refine r_strT hG Y Y Y Y (by first | rfl | assumption) ?_ | refine r_strnF hG Y Y Y Y (by first | rfl | assumption) ?_ | refine r_strF hG Y Y Y Y (by assumption) ?_ | refine r_strnT hG Y Y Y Y (by assumption) ?_ | (refine Av hG Y Y Y Y Y (fun h => ?_) (fun h => ?_)) | (first | refine r_str hG Y Y Y Y (fun h => ?_) (fun h => ?_) | refine r_strn hG Y Y Y Y (fun h => ?_) (fun h => ?_)))
      | (show AOp _ _ ⟨_, .load _ _, _, _, _, _⟩ _ _ _; first | refine Ax 0 hG Y Y Y Y ?_ | refine Ax 1 hG Y Y Y Y ?_ | refine Ax 2 hG Y Y Y Y ?_ | refine Ax 3 hG Y Y Y Y ?_ | refine Ax 4 hG Y Y Y Y ?_ | refine Ax 5 hG Y Y Y Y ?_)
      | (show AOp _ _ ⟨_, .convert _ _ _, _, _, _, _⟩ _ _ _; first | refine r_tostr hG Y Y Y Y Y Y Y Y (by first | exact Ab _ _ | exact Af _ | rfl) ?_)
      | (show AOp _ _ ⟨_, .slice _ _ _ _ _, _, _, _, _⟩ _ _ _; first | refine r_sl_hin hG Y Y Y Y Y Y Y (by omega) ?_ | refine r_sl_hi hG Y Y Y Y Y Y Y (by omega) ?_ | refine op_cut0 hG Y Y Y Y Y Y Y Y Y Y ?_ | refine r_sl hG Y Y ?_)
      | (show AOp _ _ ⟨_, .pick _ _ _, _, _, _, _⟩ _ _ _; refine Bl hG Y Y Y ?_)
      | (show AOp _ _ ⟨_, .unOp _ _ _, _, _, _, _⟩ _ _ _; refine B2 hG Y Y Y ?_)
      | (show AOp _ _ ⟨_, .buildSlice _ _ _, _, _, _, _⟩ _ _ _; first | refine r_mk (sz := 1) hG Y Y Y Y Y Y Y ?_)
      | (show AOp _ _ ⟨_, .box _ _, _, _, _, _⟩ _ _ _; refine B1 hG Y Y Y (fun i => ?_))
      | (show AOp _ _ ⟨_, .alloc _, _, _, _, _⟩ _ _ _; refine Bv hG Y Y (fun i => ?_))
      | (show AOp _ _ ⟨_, .store _ _ _, _, _, _, _⟩ _ _ _; first | refine Bb 0 hG Y Y Y Y Y Y Y ?_ | refine Bb 1 hG Y Y Y Y Y Y Y ?_ | refine Bb 2 hG Y Y Y Y Y Y Y ?_ | refine Bb 3 hG Y Y Y Y Y Y Y ?_ | refine Bb 4 hG Y Y Y Y Y Y Y ?_ | refine Bb 5 hG Y Y Y Y Y Y Y ?_)
      | (show AOp _ _ ⟨_, .call ⟨.builtin .append, _, _⟩, _, _, _, _⟩ _ _ _; first | refine Bn (sz := 1) (xs := []) hG Y Y Y Y Y Y Y ⟨_, Y⟩ Y Y Y Y Y Y Y (by first | omega | (simp; omega)) (fun k => ?_) | refine Bw 0 hG Y Y Y Y Y Y Y ⟨_, Y⟩ Y Y Y Y Y (by first | omega | (simp only [List.length_append, List.length_cons, List.length_nil]; omega)) (fun k => ?_) | fail)
      | (show AOp _ _ ⟨_, .call ⟨.value _, _, _⟩, _, _, _, _⟩ _ _ _; first | refine Bc Y Y Y Y Y (by apply o1_begun <;> (first | assumption | omega | exact Ab _ _ | exact Af _ | exact Ag _ _ | exact Ay _ | rfl | (simp; omega))) ?_ | refine Bc Y Y Y Y Y (by apply hL <;> (first | assumption | omega | exact Ab _ _ | exact Af _ | exact Ag _ _ | exact Ay _ | rfl | (simp; omega))) ?_ | fail)
      | refine r_q hG Y Y Y ?_))
    | (show AL _ _ _ _ _ _ _ _; first | refine Bj Y Y Y ?_ | (refine As ?_; first | show AW _ _ _ _ _ _ | show ∃ x', _ < _ ∧ _)) | (show AW _ _ (.seq _ _) _ _ _; refine Ah ?_; intro Q1) | (show AW _ _ (.region _ _ false) _ _ _; refine Ad ?_; intro O1) | (show AW _ _ (.cond _ _ _) _ _ _; first | refine Aj Y ?_ | refine Ai Y ?_) | (show AW _ _ (.skip) _ _ _; refine Ak ?_; first | show AW _ _ _ _ _ _ | show ∃ x', _ < _ ∧ _) | (show AW _ _ (.ret) _ _ _; refine Ar ?_; try dsimp only [Aw, Aa, Au, Ac]) | fail)
      exact Ba (Ao rfl A8) (.refl _) rfl
    · repeat' (first
    | ((show AL _ _ _ _ _ _ _ _; refine Ae Y ?_); (first
      | (show AOp _ _ ⟨_, .move _, _, _, _, _⟩ _ _ _; refine Al hG Y Y ?_)
      | (show AOp _ _ ⟨_, .assign _, _, _, _, _⟩ _ _ _; refine A9 hG Y Y ?_)
      | (show AOp _ _ ⟨_, .call ⟨.builtin .len, _, _⟩, _, _, _, _⟩ _ _ _; first | refine Az hG Y Y Y Y ?_ | refine Bd hG Y Y Y Y Y ?_)
      | (show AOp _ _ ⟨_, .binOp _ _ _ _ _, _, _, _, _⟩ _ _ _; first | refine Ap hG Y Y Y Y Y (by omega) ?_ | refine Aq hG Y Y Y Y Y (by omega) ?_ | refine r_strT hG Y Y Y Y (by first | rfl | assumption) ?_ | refine r_strnF hG Y Y Y Y (by first | rfl | assumption) ?_ | refine r_strF hG Y Y Y Y (by assumption) ?_ | refine r_strnT hG Y Y Y Y (by assumption) ?_ | (refine Av hG Y Y Y Y Y (fun h => ?_) (fun h => ?_)) | (first | refine r_str hG Y Y Y Y (fun h => ?_) (fun h => ?_) | refine r_strn hG Y Y Y Y (fun h => ?_) (fun h => ?_)))
      | (show AOp _ _ ⟨_, .load _ _, _, _, _, _⟩ _ _ _; first | refine Ax 0 hG Y Y Y Y ?_ | refine Ax 1 hG Y Y Y Y ?_ | refine Ax 2 hG Y Y Y Y ?_ | refine Ax 3 hG Y Y Y Y ?_ | refine Ax 4 hG Y Y Y Y ?_ | refine Ax 5 hG Y Y Y Y ?_)
      | (show AOp _ _ ⟨_, .convert _ _ _, _, _, _, _⟩ _ _ _; first | refine r_tostr hG Y Y Y Y Y Y Y Y (by first | exact Ab _ _ | exact Af _ | rfl) ?_)
      | (show AOp _ _ ⟨_, .slice _ _ _ _ _, _, _, _, _⟩ _ _ _; first | refine r_sl_hin hG Y Y Y Y Y Y Y (by omega) ?_ | refine r_sl_hi hG Y Y Y Y Y Y Y (by omega) ?_ | refine op_cut0 hG Y Y Y Y Y Y Y Y Y Y ?_ | refine r_sl hG Y Y ?_)
      | (show AOp _ _ ⟨_, .pick _ _ _, _, _, _, _⟩ _ _ _; refine Bl hG Y Y Y ?_)
      | (show AOp _ _ ⟨_, .unOp _ _ _, _, _, _, _⟩ _ _ _; refine B2 hG Y Y Y ?_)
      | (show AOp _ _ ⟨_, .buildSlice _ _ _, _, _, _, _⟩ _ _ _; first | refine r_mk (sz := 1) hG Y Y Y Y Y Y Y ?_)
      | (show AOp _ _ ⟨_, .box _ _, _, _, _, _⟩ _ _ _; refine B1 hG Y Y Y (fun i => ?_))
      | (show AOp _ _ ⟨_, .alloc _, _, _, _, _⟩ _ _ _; refine Bv hG Y Y (fun i => ?_))
      | (show AOp _ _ ⟨_, .store _ _ _, _, _, _, _⟩ _ _ _; first | refine Bb 0 hG Y Y Y Y Y Y Y ?_ | refine Bb 1 hG Y Y Y Y Y Y Y ?_ | refine Bb 2 hG Y Y Y Y Y Y Y ?_ | refine Bb 3 hG Y Y Y Y Y Y Y ?_ | refine Bb 4 hG Y Y Y Y Y Y Y ?_ | refine Bb 5 hG Y Y Y Y Y Y Y ?_)
      | (show AOp _ _ ⟨_, .call ⟨.builtin .append, _, _⟩, _, _, _, _⟩ _ _ _; first | refine Bn (sz := 1) (xs := []) hG Y Y Y Y Y Y Y ⟨_, Y⟩ Y Y Y Y Y Y Y (by first | omega | (simp; omega)) (fun k => ?_) | refine Bw 0 hG Y Y Y Y Y Y Y ⟨_, Y⟩ Y Y Y Y Y (by first | omega | (simp only [List.length_append, List.length_cons, List.length_nil]; omega)) (fun k => ?_) | fail)
      | (show AOp _ _ ⟨_, .call ⟨.value _, _, _⟩, _, _, _, _⟩ _ _ _; first | refine Bc Y Y Y Y Y (by apply o1_begun <;> (first | assumption | omega | exact Ab _ _ | exact Af _ | exact Ag _ _ | exact Ay _ | rfl | (simp; omega))) ?_ | refine Bc Y Y Y Y Y (by apply hL <;> (first | assumption | omega | exact Ab _ _ | exact Af _ | exact Ag _ _ | exact Ay _ | rfl | (simp; omega))) ?_ | fail)
      | refine r_q hG Y Y Y ?_))
    | (show AL _ _ _ _ _ _ _ _; first | refine Bj Y Y Y ?_ | (refine As ?_; first | show AW _ _ _ _ _ _ | show ∃ x', _ < _ ∧ _)) | (show AW _ _ (.seq _ _) _ _ _; refine Ah ?_; intro Q1) | (show AW _ _ (.region _ _ false) _ _ _; refine Ad ?_; intro O1) | (show AW _ _ (.cond _ _ _) _ _ _; first | refine Aj Y ?_ | refine Ai Y ?_) | (show AW _ _ (.skip) _ _ _; refine Ak ?_; first | show AW _ _ _ _ _ _ | show ∃ x', _ < _ ∧ _) | (show AW _ _ (.ret) _ _ _; refine Ar ?_; try dsimp only [Aw, Aa, Au, Ac]) | fail)
      exact Ba (Ao rfl A8) (.refl _) rfl
  cases q : lightO o <;> rw [q] at hL
  · unfold OB.t at hL hP hQ ⊢
    refine Bp (N := 142) (rs := [.tmp 8]) hG Try.func5 rfl rfl rfl rfl rfl ?_
    repeat' (first
    | ((show AL _ _ _ _ _ _ _ _; refine Ae Y ?_); (first
      | (show AOp _ _ ⟨_, .move _, _, _, _, _⟩ _ _ _; refine Al hG Y Y ?_)
      | (show AOp _ _ ⟨_, .assign _, _, _, _, _⟩ _ _ _; refine A9 hG Y Y ?_)
      | (show AOp _ _ ⟨_, .call ⟨.builtin .len, _, _⟩, _, _, _, _⟩ _ _ _; first | refine Az hG Y Y Y Y ?_ | refine Bd hG Y Y Y Y Y ?_)
      | (show AOp _ _ ⟨_, .binOp _ _ _ _ _, _, _, _, _⟩ _ _ _; first | refine Ap hG Y Y Y Y Y (by omega) ?_ | refine Aq hG Y Y Y Y Y (by omega) ?_ | refine r_strT hG Y Y Y Y (by first | rfl | assumption) ?_ | refine r_strnF hG Y Y Y Y (by first | rfl | assumption) ?_ | refine r_strF hG Y Y Y Y (by assumption) ?_ | refine r_strnT hG Y Y Y Y (by assumption) ?_ | (refine Av hG Y Y Y Y Y (fun h => ?_) (fun h => ?_)) | (first | refine r_str hG Y Y Y Y (fun h => ?_) (fun h => ?_) | refine r_strn hG Y Y Y Y (fun h => ?_) (fun h => ?_)))
      | (show AOp _ _ ⟨_, .load _ _, _, _, _, _⟩ _ _ _; first | refine Ax 0 hG Y Y Y Y ?_ | refine Ax 1 hG Y Y Y Y ?_ | refine Ax 2 hG Y Y Y Y ?_ | refine Ax 3 hG Y Y Y Y ?_ | refine Ax 4 hG Y Y Y Y ?_ | refine Ax 5 hG Y Y Y Y ?_)
      | (show AOp _ _ ⟨_, .convert _ _ _, _, _, _, _⟩ _ _ _; first | refine r_tostr hG Y Y Y Y Y Y Y Y (by first | exact Ab _ _ | exact Af _ | rfl) ?_)
      | (show AOp _ _ ⟨_, .slice _ _ _ _ _, _, _, _, _⟩ _ _ _; first | refine r_sl_hin hG Y Y Y Y Y Y Y (by omega) ?_ | refine r_sl_hi hG Y Y Y Y Y Y Y (by omega) ?_ | refine op_cut0 hG Y Y Y Y Y Y Y Y Y Y ?_ | refine r_sl hG Y Y ?_)
      | (show AOp _ _ ⟨_, .pick _ _ _, _, _, _, _⟩ _ _ _; refine Bl hG Y Y Y ?_)
      | (show AOp _ _ ⟨_, .unOp _ _ _, _, _, _, _⟩ _ _ _; refine B2 hG Y Y Y ?_)
      | (show AOp _ _ ⟨_, .buildSlice _ _ _, _, _, _, _⟩ _ _ _; first | refine r_mk (sz := 1) hG Y Y Y Y Y Y Y ?_)
      | (show AOp _ _ ⟨_, .box _ _, _, _, _, _⟩ _ _ _; refine B1 hG Y Y Y (fun i => ?_))
      | (show AOp _ _ ⟨_, .alloc _, _, _, _, _⟩ _ _ _; refine Bv hG Y Y (fun i => ?_))
      | (show AOp _ _ ⟨_, .store _ _ _, _, _, _, _⟩ _ _ _; first | refine Bb 0 hG Y Y Y Y Y Y Y ?_ | refine Bb 1 hG Y Y Y Y Y Y Y ?_ | refine Bb 2 hG Y Y Y Y Y Y Y ?_ | refine Bb 3 hG Y Y Y Y Y Y Y ?_ | refine Bb 4 hG Y Y Y Y Y Y Y ?_ | refine Bb 5 hG Y Y Y Y Y Y Y ?_)
      | (show AOp _ _ ⟨_, .call ⟨.builtin .append, _, _⟩, _, _, _, _⟩ _ _ _; first | refine Bn (sz := 1) (xs := []) hG Y Y Y Y Y Y Y ⟨_, Y⟩ Y Y Y Y Y Y Y (by first | omega | (simp; omega)) (fun k => ?_) | refine Bw 0 hG Y Y Y Y Y Y Y ⟨_, Y⟩ Y Y Y Y Y (by first | omega | (simp only [List.length_append, List.length_cons, List.length_nil]; omega)) (fun k => ?_) | fail)
      | (show AOp _ _ ⟨_, .call ⟨.value _, _, _⟩, _, _, _, _⟩ _ _ _; first | refine Bc Y Y Y Y Y (by apply o1_begun <;> (first | assumption | omega | exact Ab _ _ | exact Af _ | exact Ag _ _ | exact Ay _ | rfl | (simp; omega))) ?_ | refine Bc Y Y Y Y Y (by apply hL <;> (first | assumption | omega | exact Ab _ _ | exact Af _ | exact Ag _ _ | exact Ay _ | rfl | (simp; omega))) ?_ | fail)
      | refine r_q hG Y Y Y ?_))
    | (show AL _ _ _ _ _ _ _ _; first | refine Bj Y Y Y ?_ | (refine As ?_; first | show AW _ _ _ _ _ _ | show ∃ x', _ < _ ∧ _)) | (show AW _ _ (.seq _ _) _ _ _; refine Ah ?_; intro Q1) | (show AW _ _ (.region _ _ false) _ _ _; refine Ad ?_; intro O1) | (show AW _ _ (.cond _ _ _) _ _ _; first | refine Aj Y ?_ | refine Ai Y ?_) | (show AW _ _ (.skip) _ _ _; refine Ak ?_; first | show AW _ _ _ _ _ _ | show ∃ x', _ < _ ∧ _) | (show AW _ _ (.ret) _ _ _; refine Ar ?_; try dsimp only [Aw, Aa, Au, Ac]) | fail)
    exact Ba (Ao rfl A8) (.refl _) rfl
  cases hm : mayO1 o <;> rw [hm] at hP hQ
  · rw [if_neg Bool.false_ne_true] at hP
    unfold OB.t at hL hP hQ ⊢
    refine Bp (N := 142) (rs := [.tmp 8]) hG Try.func5 rfl rfl rfl rfl rfl ?_
    repeat' (first
    | ((show AL _ _ _ _ _ _ _ _; refine Ae Y ?_); (first
      | (show AOp _ _ ⟨_, .move _, _, _, _, _⟩ _ _ _; refine Al hG Y Y ?_)
      | (show AOp _ _ ⟨_, .assign _, _, _, _, _⟩ _ _ _; refine A9 hG Y Y ?_)
      | (show AOp _ _ ⟨_, .call ⟨.builtin .len, _, _⟩, _, _, _, _⟩ _ _ _; first | refine Az hG Y Y Y Y ?_ | refine Bd hG Y Y Y Y Y ?_)
      | (show AOp _ _ ⟨_, .binOp _ _ _ _ _, _, _, _, _⟩ _ _ _; first | refine Ap hG Y Y Y Y Y (by omega) ?_ | refine Aq hG Y Y Y Y Y (by omega) ?_ | refine r_strT hG Y Y Y Y (by first | rfl | assumption) ?_ | refine r_strnF hG Y Y Y Y (by first | rfl | assumption) ?_ | refine r_strF hG Y Y Y Y (by assumption) ?_ | refine r_strnT hG Y Y Y Y (by assumption) ?_ | (refine Av hG Y Y Y Y Y (fun h => ?_) (fun h => ?_)) | (first | refine r_str hG Y Y Y Y (fun h => ?_) (fun h => ?_) | refine r_strn hG Y Y Y Y (fun h => ?_) (fun h => ?_)))
      | (show AOp _ _ ⟨_, .load _ _, _, _, _, _⟩ _ _ _; first | refine Ax 0 hG Y Y Y Y ?_ | refine Ax 1 hG Y Y Y Y ?_ | refine Ax 2 hG Y Y Y Y ?_ | refine Ax 3 hG Y Y Y Y ?_ | refine Ax 4 hG Y Y Y Y ?_ | refine Ax 5 hG Y Y Y Y ?_)
      | (show AOp _ _ ⟨_, .convert _ _ _, _, _, _, _⟩ _ _ _; first | refine r_tostr hG Y Y Y Y Y Y Y Y (by first | exact Ab _ _ | exact Af _ | rfl) ?_)
      | (show AOp _ _ ⟨_, .slice _ _ _ _ _, _, _, _, _⟩ _ _ _; first | refine r_sl_hin hG Y Y Y Y Y Y Y (by omega) ?_ | refine r_sl_hi hG Y Y Y Y Y Y Y (by omega) ?_ | refine op_cut0 hG Y Y Y Y Y Y Y Y Y Y ?_ | refine r_sl hG Y Y ?_)
      | (show AOp _ _ ⟨_, .pick _ _ _, _, _, _, _⟩ _ _ _; refine Bl hG Y Y Y ?_)
      | (show AOp _ _ ⟨_, .unOp _ _ _, _, _, _, _⟩ _ _ _; refine B2 hG Y Y Y ?_)
      | (show AOp _ _ ⟨_, .buildSlice _ _ _, _, _, _, _⟩ _ _ _; first | refine r_mk (sz := 1) hG Y Y Y Y Y Y Y ?_)
      | (show AOp _ _ ⟨_, .box _ _, _, _, _, _⟩ _ _ _; refine B1 hG Y Y Y (fun i => ?_))
      | (show AOp _ _ ⟨_, .alloc _, _, _, _, _⟩ _ _ _; refine Bv hG Y Y (fun i => ?_))
      | (show AOp _ _ ⟨_, .store _ _ _, _, _, _, _⟩ _ _ _; first | refine Bb 0 hG Y Y Y Y Y Y Y ?_ | refine Bb 1 hG Y Y Y Y Y Y Y ?_ | refine Bb 2 hG Y Y Y Y Y Y Y ?_ | refine Bb 3 hG Y Y Y Y Y Y Y ?_ | refine Bb 4 hG Y Y Y Y Y Y Y ?_ | refine Bb 5 hG Y Y Y Y Y Y Y ?_)
      | (show AOp _ _ ⟨_, .call ⟨.builtin .append, _, _⟩, _, _, _, _⟩ _ _ _; first | refine Bn (sz := 1) (xs := []) hG Y Y Y Y Y Y Y ⟨_, Y⟩ Y Y Y Y Y Y Y (by first | omega | (simp; omega)) (fun k => ?_) | refine Bw 0 hG Y Y Y Y Y Y Y ⟨_, Y⟩ Y Y Y Y Y (by first | omega | (simp only [List.length_append, List.length_cons, List.length_nil]; omega)) (fun k => ?_) | fail)
      | (show AOp _ _ ⟨_, .call ⟨.value _, _, _⟩, _, _, _, _⟩ _ _ _; first | refine Bc Y Y Y Y Y (by apply o1_begun <;> (first | assumption | omega | exact Ab _ _ | exact Af _ | exact Ag _ _ | exact Ay _ | rfl | (simp; omega))) ?_ | refine Bc Y Y Y Y Y (by apply hL <;> (first | assumption | omega | exact Ab _ _ | exact Af _ | exact Ag _ _ | exact Ay _ | rfl | (simp; omega))) ?_ | refine Bc Y Y Y Y Y (by apply hP <;> (first | assumption | omega | exact Ab _ _ | exact Af _ | exact Ag _ _ | exact Ay _ | rfl | (simp; omega))) ?_ | refine Bc Y Y Y Y Y (by apply hQ <;> (first | assumption | omega | exact Ab _ _ | exact Af _ | exact Ag _ _ | exact Ay _ | rfl | (simp; omega))) ?_ | fail)
      | refine r_q hG Y Y Y ?_))
    | (show AL _ _ _ _ _ _ _ _; first | refine Bj Y Y Y ?_ | (refine As ?_; first | show AW _ _ _ _ _ _ | show ∃ x', _ < _ ∧ _)) | (show AW _ _ (.seq _ _) _ _ _; refine Ah ?_; intro Q1) | (show AW _ _ (.region _ _ false) _ _ _; refine Ad ?_; intro O1) | (show AW _ _ (.cond _ _ _) _ _ _; first | refine Aj Y ?_ | refine Ai Y ?_) | (show AW _ _ (.skip) _ _ _; refine Ak ?_; first | show AW _ _ _ _ _ _ | show ∃ x', _ < _ ∧ _) | (show AW _ _ (.ret) _ _ _; refine Ar ?_; try dsimp only [Aw, Aa, Au, Ac]) | fail)
    exact Ba (Ao rfl A8) (.refl _) rfl
  rw [if_pos rfl] at hP
  obtain ⟨w1, w2⟩ := bytes1_len hm
  have hnm := norm_may hm
  have nid := hnm.2.2.2.1
  have nkind := hnm.2.2.1
  have hbn := bytes1_norm hm
  have hT1 := obj1_Take_is (x := sT (bytes1 o)) (b := bytes1 o) (r := (norm o, 0)) (Af _) (by omega) (by have := take1_put hm h.hid []; rw [List.append_nil] at this; exact this)
  have hP2 := obj1_Put_is (o := norm o) (r := .tup [sT (bytes1 o), .int .i64 0]) (norm_fits h) (by rw [putO1T, hnm.1, if_pos rfl, hbn])
  have hpc := law_Place (p := p) (n := ((bytes1 o).length : Int)) (by omega)
  have hpn := placeN_lt (p := p) (n := ((bytes1 o).length : Int)) (by omega)
  have hsh := take1_short hm h.hid (placeN p ((bytes1 o).length : Int)).toNat (by omega)
  have hT2 := obj1_Take_is (x := sT ((bytes1 o).take (placeN p ((bytes1 o).length : Int)).toNat)) (Af _) (by rw [List.length_take]; omega) rfl
  have hT3 := fun k => obj1_Take_is (x := .sl 1 (.tok k) ((bytes1 o ++ [m]).map bT)) (b := bytes1 o ++ [m]) (r := (zeroO, 2)) (Ab _ _) (by simp; omega) (by rw [take1_put hm h.hid]; rfl)
  have hT4 := obj1_Take_is (x := sT b) (Af b) (by omega) rfl
  have hfz := take1_fits b
  have hback := take1_back (b := b)
  have hzero := take1_zero (b := b)
  generalize takeO1 ((bytes1 o).take (placeN p ((bytes1 o).length : Int)).toNat) = r2 at *
  obtain ⟨o2, e2⟩ := r2
  generalize takeO1 b = r4 at *
  obtain ⟨z, e4⟩ := r4
  dsimp only at hsh hT1 hT2 hT3 hT4 hfz hback hzero
  subst hsh
  by_cases he : e4 = 0
  · obtain ⟨g1, g2⟩ := hback he
    subst he
    have hP3 := obj1_Put_is (o := z) (r := .tup [sT b, .int .i64 0]) hfz (by rw [putO1T, g1, if_pos rfl, g2])
    unfold OB.t at hL hP hQ hT1 hT2 hT3 hT4 hP2 hP3 ⊢
    generalize norm o = no at *
    refine Bp (N := 142) (rs := [.tmp 8]) hG Try.func5 rfl rfl rfl rfl rfl ?_
    repeat' (first
    | ((show AL _ _ _ _ _ _ _ _; refine Ae Y ?_); (first
      | (show AOp _ _ ⟨_, .move _, _, _, _, _⟩ _ _ _; refine Al hG Y Y ?_)
      | (show AOp _ _ ⟨_, .assign _, _, _, _, _⟩ _ _ _; refine A9 hG Y Y ?_)
      | (show AOp _ _ ⟨_, .call ⟨.builtin .len, _, _⟩, _, _, _, _⟩ _ _ _; first | refine Az hG Y Y Y Y ?_ | refine Bd hG Y Y Y Y Y ?_)
      | (show AOp _ _ ⟨_, .binOp _ _ _ _ _, _, _, _, _⟩ _ _ _; first | refine Ap hG Y Y Y Y Y (by omega) ?_ | refine Aq hG Y Y Y Y Y (by omega) ?_ | refine r_strT hG Y Y Y Y (by first | rfl | assumption) ?_ | refine r_strnF hG Y Y Y Y (by first | rfl | assumption) ?_ | refine r_strF hG Y Y Y Y (by assumption) ?_ | refine r_strnT hG Y Y Y Y (by assumption) ?_ | (refine Av hG Y Y Y Y Y (fun h => ?_) (fun h => ?_)) | (first | refine r_str hG Y Y Y Y (fun h => ?_) (fun h => ?_) | refine r_strn hG Y Y Y Y (fun h => ?_) (fun h => ?_)))
      | (show AOp _ _ ⟨_, .load _ _, _, _, _, _⟩ _ _ _; first | refine Ax 0 hG Y Y Y Y ?_ | refine Ax 1 hG Y Y Y Y ?_ | refine Ax 2 hG Y Y Y Y ?_ | refine Ax 3 hG Y Y Y Y ?_ | refine Ax 4 hG Y Y Y Y ?_ | refine Ax 5 hG Y Y Y Y ?_)
      | (show AOp _ _ ⟨_, .convert _ _ _, _, _, _, _⟩ _ _ _; first | refine r_tostr hG Y Y Y Y Y Y Y Y (by first | exact Ab _ _ | exact Af _ | rfl) ?_)
      | (show AOp _ _ ⟨_, .slice _ _ _ _ _, _, _, _, _⟩ _ _ _; first | refine r_sl_hin hG Y Y Y Y Y Y Y (by omega) ?_ | refine r_sl_hi hG Y Y Y Y Y Y Y (by omega) ?_ | refine op_cut0 hG Y Y Y Y Y Y Y Y Y Y ?_ | refine r_sl hG Y Y ?_)
      | (show AOp _ _ ⟨_, .pick _ _ _, _, _, _, _⟩ _ _ _; refine Bl hG Y Y Y ?_)
      | (show AOp _ _ ⟨_, .unOp _ _ _, _, _, _, _⟩ _ _ _; refine B2 hG Y Y Y ?_)
      | (show AOp _ _ ⟨_, .buildSlice _ _ _, _, _, _, _⟩ _ _ _; first | refine r_mk (sz := 1) hG Y Y Y Y Y Y Y ?_)
      | (show AOp _ _ ⟨_, .box _ _, _, _, _, _⟩ _ _ _; refine B1 hG Y Y Y (fun i => ?_))
      | (show AOp _ _ ⟨_, .alloc _, _, _, _, _⟩ _ _ _; refine Bv hG Y Y (fun i => ?_))
      | (show AOp _ _ ⟨_, .store _ _ _, _, _, _, _⟩ _ _ _; first | refine Bb 0 hG Y Y Y Y Y Y Y ?_ | refine Bb 1 hG Y Y Y Y Y Y Y ?_ | refine Bb 2 hG Y Y Y Y Y Y Y ?_ | refine Bb 3 hG Y Y Y Y Y Y Y ?_ | refine Bb 4 hG Y Y Y Y Y Y Y ?_ | refine Bb 5 hG Y Y Y Y Y Y Y ?_)
      | (show AOp _ _ ⟨_, .call ⟨.builtin .append, _, _⟩, _, _, _, _⟩ _ _ _; first | refine Bn (sz := 1) (xs := []) hG Y Y Y Y Y Y Y ⟨_, Y⟩ Y Y Y Y Y Y Y (by first | omega | (simp; omega)) (fun k => ?_) | refine Bw 0 hG Y Y Y Y Y Y Y ⟨_, Y⟩ Y Y Y Y Y (by first | omega | (simp only [List.length_append, List.length_cons, List.length_nil]; omega)) (fun k => ?_) | fail)
      | (show AOp _ _ ⟨_, .call ⟨.value _, _, _⟩, _, _, _, _⟩ _ _ _; first | refine Bc Y Y Y Y Y (by apply o1_begun <;> (first | assumption | omega | exact Ab _ _ | exact Af _ | exact Ag _ _ | exact Ay _ | rfl | (simp; omega))) ?_ | refine Bc Y Y Y Y Y (by apply hL <;> (first | assumption | omega | exact Ab _ _ | exact Af _ | exact Ag _ _ | exact Ay _ | rfl | (simp; omega))) ?_ | refine Bc Y Y Y Y Y (by apply hP <;> (first | assumption | omega | exact Ab _ _ | exact Af _ | exact Ag _ _ | exact Ay _ | rfl | (simp; omega))) ?_ | refine Bc Y Y Y Y Y (by apply hQ <;> (first | assumption | omega | exact Ab _ _ | exact Af _ | exact Ag _ _ | exact Ay _ | rfl | (simp; omega))) ?_ | refine Bc Y Y Y Y Y (by apply hT1 <;> (first | assumption | omega | exact Ab _ _ | exact Af _ | exact Ag _ _ | exact Ay _ | rfl | (simp; omega))) ?_ | refine Bc Y Y Y Y Y (by apply hP2 <;> (first | assumption | omega | exact Ab _ _ | exact Af _ | exact Ag _ _ | exact Ay _ | rfl | (simp; omega))) ?_ | refine Bc Y Y Y Y Y (by apply hpc <;> (first | assumption | omega | exact Ab _ _ | exact Af _ | exact Ag _ _ | exact Ay _ | rfl | (simp; omega))) ?_ | fail)
      | refine r_q hG Y Y Y ?_))
    | (show AL _ _ _ _ _ _ _ _; first | refine Bj Y Y Y ?_ | (refine As ?_; first | show AW _ _ _ _ _ _ | show ∃ x', _ < _ ∧ _)) | (show AW _ _ (.seq _ _) _ _ _; refine Ah ?_; intro Q1) | (show AW _ _ (.region _ _ false) _ _ _; refine Ad ?_; intro O1) | (show AW _ _ (.cond _ _ _) _ _ _; first | refine Aj Y ?_ | refine Ai Y ?_) | (show AW _ _ (.skip) _ _ _; refine Ak ?_; first | show AW _ _ _ _ _ _ | show ∃ x', _ < _ ∧ _) | (show AW _ _ (.ret) _ _ _; refine Ar ?_; try dsimp only [Aw, Aa, Au, Ac]) | fail)
    repeat' (first
    | ((show AL _ _ _ _ _ _ _ _; refine Ae Y ?_); (first
      | (show AOp _ _ ⟨_, .move _, _, _, _, _⟩ _ _ _; refine Al hG Y Y ?_)
      | (show AOp _ _ ⟨_, .assign _, _, _, _, _⟩ _ _ _; refine A9 hG Y Y ?_)
      | (show AOp _ _ ⟨_, .call ⟨.builtin .len, _, _⟩, _, _, _, _⟩ _ _ _; first | refine Az hG Y Y Y Y ?_ | refine Bd hG Y Y Y Y Y ?_)
      | (show AOp _ _ ⟨_, .binOp _ _ _ _ _, _, _, _, _⟩ _ _ _; first | refine Ap hG Y Y Y Y Y (by omega) ?_ | refine Aq hG Y Y Y Y Y (by omega) ?_ | refine r_strT hG Y Y Y Y (by first | rfl | assumption) ?_ | refine r_strnF hG Y Y Y Y (by first | rfl | assumption) ?_ | refine r_strF hG Y Y Y Y (by assumption) ?_ | refine r_strnT hG Y Y Y Y (by assumption) ?_ | (refine Av hG Y Y Y Y Y (fun h => ?_) (fun h => ?_)) | (first | refine r_str hG Y Y Y Y (fun h => ?_) (fun h => ?_) | refine r_strn hG Y Y Y Y (fun h => ?_) (fun h => ?_)))
      | (show AOp _ _ ⟨_, .load _ _, _, _, _, _⟩ _ _ _; first | refine Ax 0 hG Y Y Y Y ?_ | refine Ax 1 hG Y Y Y Y ?_ | refine Ax 2 hG Y Y Y Y ?_ | refine Ax 3 hG Y Y Y Y ?_ | refine Ax 4 hG Y Y Y Y ?_ | refine Ax 5 hG Y Y Y Y ?_)
      | (show AOp _ _ ⟨_, .convert _ _ _, _, _, _, _⟩ _ _ _; first | refine r_tostr hG Y Y Y Y Y Y Y Y (by first | exact Ab _ _ | exact Af _ | rfl) ?_)
      | (show AOp _ _ ⟨_, .slice _ _ _ _ _, _, _, _, _⟩ _ _ _; first | refine r_sl_hin hG Y Y Y Y Y Y Y (by omega) ?_ | refine r_sl_hi hG Y Y Y Y Y Y Y (by omega) ?_ | refine op_cut0 hG Y Y Y Y Y Y Y Y Y Y ?_ | refine r_sl hG Y Y ?_)
      | (show AOp _ _ ⟨_, .pick _ _ _, _, _, _, _⟩ _ _ _; refine Bl hG Y Y Y ?_)
      | (show AOp _ _ ⟨_, .unOp _ _ _, _, _, _, _⟩ _ _ _; refine B2 hG Y Y Y ?_)
      | (show AOp _ _ ⟨_, .buildSlice _ _ _, _, _, _, _⟩ _ _ _; first | refine r_mk (sz := 1) hG Y Y Y Y Y Y Y ?_)
      | (show AOp _ _ ⟨_, .box _ _, _, _, _, _⟩ _ _ _; refine B1 hG Y Y Y (fun i => ?_))
      | (show AOp _ _ ⟨_, .alloc _, _, _, _, _⟩ _ _ _; refine Bv hG Y Y (fun i => ?_))
      | (show AOp _ _ ⟨_, .store _ _ _, _, _, _, _⟩ _ _ _; first | refine Bb 0 hG Y Y Y Y Y Y Y ?_ | refine Bb 1 hG Y Y Y Y Y Y Y ?_ | refine Bb 2 hG Y Y Y Y Y Y Y ?_ | refine Bb 3 hG Y Y Y Y Y Y Y ?_ | refine Bb 4 hG Y Y Y Y Y Y Y ?_ | refine Bb 5 hG Y Y Y Y Y Y Y ?_)
      | (show AOp _ _ ⟨_, .call ⟨.builtin .append, _, _⟩, _, _, _, _⟩ _ _ _; first | refine Bn (sz := 1) (xs := []) hG Y Y Y Y Y Y Y ⟨_, Y⟩ Y Y Y Y Y Y Y (by first | omega | (simp; omega)) (fun k => ?_) | refine Bw 0 hG Y Y Y Y Y Y Y ⟨_, Y⟩ Y Y Y Y Y (by first | omega | (simp only [List.length_append, List.length_cons, List.length_nil]; omega)) (fun k => ?_) | fail)
      | (show AOp _ _ ⟨_, .call ⟨.value _, _, _⟩, _, _, _, _⟩ _ _ _; first | refine Bc Y Y Y Y Y (by apply hT2 <;> (first | assumption | omega | exact Ab _ _ | exact Af _ | exact Ag _ _ | exact Ay _ | rfl | (simp; omega))) ?_ | fail)
      | refine r_q hG Y Y Y ?_))
    | (show AL _ _ _ _ _ _ _ _; first | refine Bj Y Y Y ?_ | (refine As ?_; first | show AW _ _ _ _ _ _ | show ∃ x', _ < _ ∧ _)) | (show AW _ _ (.seq _ _) _ _ _; refine Ah ?_; intro Q1) | (show AW _ _ (.region _ _ false) _ _ _; refine Ad ?_; intro O1) | (show AW _ _ (.cond _ _ _) _ _ _; first | refine Aj Y ?_ | refine Ai Y ?_) | (show AW _ _ (.skip) _ _ _; refine Ak ?_; first | show AW _ _ _ _ _ _ | show ∃ x', _ < _ ∧ _) | (show AW _ _ (.ret) _ _ _; refine Ar ?_; try dsimp only [Aw, Aa, Au, Ac]) | fail)
    repeat' (first
    | ((show AL _ _ _ _ _ _ _ _; refine Ae Y ?_); (first
      | (show AOp _ _ ⟨_, .move _, _, _, _, _⟩ _ _ _; refine Al hG Y Y ?_)
      | (show AOp _ _ ⟨_, .assign _, _, _, _, _⟩ _ _ _; refine A9 hG Y Y ?_)
      | (show AOp _ _ ⟨_, .call ⟨.builtin .len, _, _⟩, _, _, _, _⟩ _ _ _; first | refine Az hG Y Y Y Y ?_ | refine Bd hG Y Y Y Y Y ?_)
      | (show AOp _ _ ⟨_, .binOp _ _ _ _ _, _, _, _, _⟩ _ _ _; first | refine Ap hG Y Y Y Y Y (by omega) ?_ | refine Aq hG Y Y Y Y Y (by omega) ?_ | refine r_strT hG Y Y Y Y (by first | rfl | assumption) ?_ | refine r_strnF hG Y Y Y Y (by first | rfl | assumption) ?_ | refine r_strF hG Y Y Y Y (by assumption) ?_ | refine r_strnT hG Y Y Y Y (by assumption) ?_ | (refine Av hG Y Y Y Y Y (fun h => ?_) (fun h => ?_)) | (first | refine r_str hG Y Y Y Y (fun h => ?_) (fun h => ?_) | refine r_strn hG Y Y Y Y (fun h => ?_) (fun h => ?_)))
      | (show AOp _ _ ⟨_, .load _ _, _, _, _, _⟩ _ _ _; first | refine Ax 0 hG Y Y Y Y ?_ | refine Ax 1 hG Y Y Y Y ?_ | refine Ax 2 hG Y Y Y Y ?_ | refine Ax 3 hG Y Y Y Y ?_ | refine Ax 4 hG Y Y Y Y ?_ | refine Ax 5 hG Y Y Y Y ?_)
      | (show AOp _ _ ⟨_, .convert _ _ _, _, _, _, _⟩ _ _ _; first | refine r_tostr hG Y Y Y Y Y Y Y Y (by first | exact Ab _ _ | exact Af _ | rfl) ?_)
      | (show AOp _ _ ⟨_, .slice _ _ _ _ _, _, _, _, _⟩ _ _ _; first | refine r_sl_hin hG Y Y Y Y Y Y Y (by omega) ?_ | refine r_sl_hi hG Y Y Y Y Y Y Y (by omega) ?_ | refine op_cut0 hG Y Y Y Y Y Y Y Y Y Y ?_ | refine r_sl hG Y Y ?_)
      | (show AOp _ _ ⟨_, .pick _ _ _, _, _, _, _⟩ _ _ _; refine Bl hG Y Y Y ?_)
      | (show AOp _ _ ⟨_, .unOp _ _ _, _, _, _, _⟩ _ _ _; refine B2 hG Y Y Y ?_)
      | (show AOp _ _ ⟨_, .buildSlice _ _ _, _, _, _, _⟩ _ _ _; first | refine r_mk (sz := 1) hG Y Y Y Y Y Y Y ?_)
      | (show AOp _ _ ⟨_, .box _ _, _, _, _, _⟩ _ _ _; refine B1 hG Y Y Y (fun i => ?_))
      | (show AOp _ _ ⟨_, .alloc _, _, _, _, _⟩ _ _ _; refine Bv hG Y Y (fun i => ?_))
      | (show AOp _ _ ⟨_, .store _ _ _, _, _, _, _⟩ _ _ _; first | refine Bb 0 hG Y Y Y Y Y Y Y ?_ | refine Bb 1 hG Y Y Y Y Y Y Y ?_ | refine Bb 2 hG Y Y Y Y Y Y Y ?_ | refine Bb 3 hG Y Y Y Y Y Y Y ?_ | refine Bb 4 hG Y Y Y Y Y Y Y ?_ | refine Bb 5 hG Y Y Y Y Y Y Y ?_)
      | (show AOp _ _ ⟨_, .call ⟨.builtin .append, _, _⟩, _, _, _, _⟩ _ _ _; first | refine Bw 0 (ys := [m]) hG Y Y Y Y Y Y Y ⟨_, Y⟩ Y Y Y Y Y (by simp only [List.length_append, List.length_map, List.length_cons, List.length_nil]; omega) (fun k => ?_) | refine Bn (sz := 1) (xs := []) hG Y Y Y Y Y Y Y ⟨_, Y⟩ Y Y Y Y Y Y Y (by first | omega | (simp; omega)) (fun k => ?_) | refine Bw 0 hG Y Y Y Y Y Y Y ⟨_, Y⟩ Y Y Y Y Y (by first | omega | (simp only [List.length_append, List.length_cons, List.length_nil]; omega)) (fun k => ?_) | fail)
      | (show AOp _ _ ⟨_, .call ⟨.value _, _, _⟩, _, _, _, _⟩ _ _ _; first | refine Bc Y Y Y Y Y (by apply hT3 <;> (first | assumption | omega | exact Ab _ _ | exact Af _ | exact Ag _ _ | exact Ay _ | rfl | (simp; omega))) ?_ | fail)
      | refine r_q hG Y Y Y ?_))
    | (show AL _ _ _ _ _ _ _ _; first | refine Bj Y Y Y ?_ | (refine As ?_; first | show AW _ _ _ _ _ _ | show ∃ x', _ < _ ∧ _)) | (show AW _ _ (.seq _ _) _ _ _; refine Ah ?_; intro Q1) | (show AW _ _ (.region _ _ false) _ _ _; refine Ad ?_; intro O1) | (show AW _ _ (.cond _ _ _) _ _ _; first | refine Aj Y ?_ | refine Ai Y ?_) | (show AW _ _ (.skip) _ _ _; refine Ak ?_; first | show AW _ _ _ _ _ _ | show ∃ x', _ < _ ∧ _) | (show AW _ _ (.ret) _ _ _; refine Ar ?_; try dsimp only [Aw, Aa, Au, Ac]) | fail)
    repeat' (first
    | ((show AL _ _ _ _ _ _ _ _; refine Ae Y ?_); (first
      | (show AOp _ _ ⟨_, .move _, _, _, _, _⟩ _ _ _; refine Al hG Y Y ?_)
      | (show AOp _ _ ⟨_, .assign _, _, _, _, _⟩ _ _ _; refine A9 hG Y Y ?_)
      | (show AOp _ _ ⟨_, .call ⟨.builtin .len, _, _⟩, _, _, _, _⟩ _ _ _; first | refine Az hG Y Y Y Y ?_ | refine Bd hG Y Y Y Y Y ?_)
      | (show AOp _ _ ⟨_, .binOp _ _ _ _ _, _, _, _, _⟩ _ _ _; first | refine Ap hG Y Y Y Y Y (by omega) ?_ | refine Aq hG Y Y Y Y Y (by omega) ?_ | refine r_strT hG Y Y Y Y (by first | rfl | assumption) ?_ | refine r_strnF hG Y Y Y Y (by first | rfl | assumption) ?_ | refine r_strF hG Y Y Y Y (by assumption) ?_ | refine r_strnT hG Y Y Y Y (by assumption) ?_ | (refine Av hG Y Y Y Y Y (fun h => ?_) (fun h => ?_)) | (first | refine r_str hG Y Y Y Y (fun h => ?_) (fun h => ?_) | refine r_strn hG Y Y Y Y (fun h => ?_) (fun h => ?_)))
      | (show AOp _ _ ⟨_, .load _ _, _, _, _, _⟩ _ _ _; first | refine Ax 0 hG Y Y Y Y ?_ | refine Ax 1 hG Y Y Y Y ?_ | refine Ax 2 hG Y Y Y Y ?_ | refine Ax 3 hG Y Y Y Y ?_ | refine Ax 4 hG Y Y Y Y ?_ | refine Ax 5 hG Y Y Y Y ?_)
      | (show AOp _ _ ⟨_, .convert _ _ _, _, _, _, _⟩ _ _ _; first | refine r_tostr hG Y Y Y Y Y Y Y Y (by first | exact Ab _ _ | exact Af _ | rfl) ?_)
      | (show AOp _ _ ⟨_, .slice _ _ _ _ _, _, _, _, _⟩ _ _ _; first | refine r_sl_hin hG Y Y Y Y Y Y Y (by omega) ?_ | refine r_sl_hi hG Y Y Y Y Y Y Y (by omega) ?_ | refine op_cut0 hG Y Y Y Y Y Y Y Y Y Y ?_ | refine r_sl hG Y Y ?_)
      | (show AOp _ _ ⟨_, .pick _ _ _, _, _, _, _⟩ _ _ _; refine Bl hG Y Y Y ?_)
      | (show AOp _ _ ⟨_, .unOp _ _ _, _, _, _, _⟩ _ _ _; refine B2 hG Y Y Y ?_)
      | (show AOp _ _ ⟨_, .buildSlice _ _ _, _, _, _, _⟩ _ _ _; first | refine r_mk (sz := 1) hG Y Y Y Y Y Y Y ?_)
      | (show AOp _ _ ⟨_, .box _ _, _, _, _, _⟩ _ _ _; refine B1 hG Y Y Y (fun i => ?_))
      | (show AOp _ _ ⟨_, .alloc _, _, _, _, _⟩ _ _ _; refine Bv hG Y Y (fun i => ?_))
      | (show AOp _ _ ⟨_, .store _ _ _, _, _, _, _⟩ _ _ _; first | refine Bb 0 hG Y Y Y Y Y Y Y ?_ | refine Bb 1 hG Y Y Y Y Y Y Y ?_ | refine Bb 2 hG Y Y Y Y Y Y Y ?_ | refine Bb 3 hG Y Y Y Y Y Y Y ?_ | refine Bb 4 hG Y Y Y Y Y Y Y ?_ | refine Bb 5 hG Y Y Y Y Y Y Y ?_)
      | (show AOp _ _ ⟨_, .call ⟨.builtin .append, _, _⟩, _, _, _, _⟩ _ _ _; first | refine Bn (sz := 1) (xs := []) hG Y Y Y Y Y Y Y ⟨_, Y⟩ Y Y Y Y Y Y Y (by first | omega | (simp; omega)) (fun k => ?_) | refine Bw 0 hG Y Y Y Y Y Y Y ⟨_, Y⟩ Y Y Y Y Y (by first | omega | (simp only [List.length_append, List.length_cons, List.length_nil]; omega)) (fun k => ?_) | fail)
      | (show AOp _ _ ⟨_, .call ⟨.value _, _, _⟩, _, _, _, _⟩ _ _ _; first | refine Bc Y Y Y Y Y (by apply hT4 <;> (first | assumption | omega | exact Ab _ _ | exact Af _ | exact Ag _ _ | exact Ay _ | rfl | (simp; omega))) ?_ | refine Bc Y Y Y Y Y (by apply hP3 <;> (first | assumption | omega | exact Ab _ _ | exact Af _ | exact Ag _ _ | exact Ay _ | rfl | (simp; omega))) ?_ | fail)
      | refine r_q hG Y Y Y ?_))
    | (show AL _ _ _ _ _ _ _ _; first | refine Bj Y Y Y ?_ | (refine As ?_; first | show AW _ _ _ _ _ _ | show ∃ x', _ < _ ∧ _)) | (show AW _ _ (.seq _ _) _ _ _; refine Ah ?_; intro Q1) | (show AW _ _ (.region _ _ false) _ _ _; refine Ad ?_; intro O1) | (show AW _ _ (.cond _ _ _) _ _ _; first | refine Aj Y ?_ | refine Ai Y ?_) | (show AW _ _ (.skip) _ _ _; refine Ak ?_; first | show AW _ _ _ _ _ _ | show ∃ x', _ < _ ∧ _) | (show AW _ _ (.ret) _ _ _; refine Ar ?_; try dsimp only [Aw, Aa, Au, Ac]) | fail)
    exact Ba (Ao rfl A8) (.refl _) rfl
  · have g := hzero he
    subst g
    have hP3 := obj1_Put_is (o := zeroO) (r := .tup [.nilsl, .int .i64 1]) zero_fits (by rw [putO1T, zero_may, if_neg Bool.false_ne_true])
    unfold OB.t at hL hP hQ hT1 hT2 hT3 hT4 hP2 hP3 ⊢
    generalize norm o = no at *
    refine Bp (N := 142) (rs := [.tmp 8]) hG Try.func5 rfl rfl rfl rfl rfl ?_
    repeat' (first
    | ((show AL _ _ _ _ _ _ _ _; refine Ae Y ?_); (first
      | (show AOp _ _ ⟨_, .move _, _, _, _, _⟩ _ _ _; refine Al hG Y Y ?_)
      | (show AOp _ _ ⟨_, .assign _, _, _, _, _⟩ _ _ _; refine A9 hG Y Y ?_)
      | (show AOp _ _ ⟨_, .call ⟨.builtin .len, _, _⟩, _, _, _, _⟩ _ _ _; first | refine Az hG Y Y Y Y ?_ | refine Bd hG Y Y Y Y Y ?_)
      | (show AOp _ _ ⟨_, .binOp _ _ _ _ _, _, _, _, _⟩ _ _ _; first | refine Ap hG Y Y Y Y Y (by omega) ?_ | refine Aq hG Y Y Y Y Y (by omega) ?_ | refine r_strT hG Y Y Y Y (by first | rfl | assumption) ?_ | refine r_strnF hG Y Y Y Y (by first | rfl | assumption) ?_ | refine r_strF hG Y Y Y Y (by assumption) ?_ | refine r_strnT hG Y Y Y Y (by assumption) ?_ | (refine Av hG Y Y Y Y Y (fun h => ?_) (fun h => ?_)) | (first | refine r_str hG Y Y Y Y (fun h => ?_) (fun h => ?_) | refine r_strn hG Y Y Y Y (fun h => ?_) (fun h => ?_)))
      | (show AOp _ _ ⟨_, .load _ _, _, _, _, _⟩ _ _ _; first | refine Ax 0 hG Y Y Y Y ?_ | refine Ax 1 hG Y Y Y Y ?_ | refine Ax 2 hG Y Y Y Y ?_ | refine Ax 3 hG Y Y Y Y ?_ | refine Ax 4 hG Y Y Y Y ?_ | refine Ax 5 hG Y Y Y Y ?_)
      | (show AOp _ _ ⟨_, .convert _ _ _, _, _, _, _⟩ _ _ _; first | refine r_tostr hG Y Y Y Y Y Y Y Y (by first | exact Ab _ _ | exact Af _ | rfl) ?_)
      | (show AOp _ _ ⟨_, .slice _ _ _ _ _, _, _, _, _⟩ _ _ _; first | refine r_sl_hin hG Y Y Y Y Y Y Y (by omega) ?_ | refine r_sl_hi hG Y Y Y Y Y Y Y (by omega) ?_ | refine op_cut0 hG Y Y Y Y Y Y Y Y Y Y ?_ | refine r_sl hG Y Y ?_)
      | (show AOp _ _ ⟨_, .pick _ _ _, _, _, _, _⟩ _ _ _; refine Bl hG Y Y Y ?_)
      | (show AOp _ _ ⟨_, .unOp _ _ _, _, _, _, _⟩ _ _ _; refine B2 hG Y Y Y ?_)
      | (show AOp _ _ ⟨_, .buildSlice _ _ _, _, _, _, _⟩ _ _ _; first | refine r_mk (sz := 1) hG Y Y Y Y Y Y Y ?_)
      | (show AOp _ _ ⟨_, .box _ _, _, _, _, _⟩ _ _ _; refine B1 hG Y Y Y (fun i => ?_))
      | (show AOp _ _ ⟨_, .alloc _, _, _, _, _⟩ _ _ _; refine Bv hG Y Y (fun i => ?_))
      | (show AOp _ _ ⟨_, .store _ _ _, _, _, _, _⟩ _ _ _; first | refine Bb 0 hG Y Y Y Y Y Y Y ?_ | refine Bb 1 hG Y Y Y Y Y Y Y ?_ | refine Bb 2 hG Y Y Y Y Y Y Y ?_ | refine Bb 3 hG Y Y Y Y Y Y Y ?_ | refine Bb 4 hG Y Y Y Y Y Y Y ?_ | refine Bb 5 hG Y Y Y Y Y Y Y ?_)
      | (show AOp _ _ ⟨_, .call ⟨.builtin .append, _, _⟩, _, _, _, _⟩ _ _ _; first | refine Bn (sz := 1) (xs := []) hG Y Y Y Y Y Y Y ⟨_, Y⟩ Y Y Y Y Y Y Y (by first | omega | (simp; omega)) (fun k => ?_) | refine Bw 0 hG Y Y Y Y Y Y Y ⟨_, Y⟩ Y Y Y Y Y (by first | omega | (simp only [List.length_append, List.length_cons, List.length_nil]; omega)) (fun k => ?_) | fail)
      | (show AOp _ _ ⟨_, .call ⟨.value _, _, _⟩, _, _, _, _⟩ _ _ _; first | refine Bc Y Y Y Y Y (by apply o1_begun <;> (first | assumption | omega | exact Ab _ _ | exact Af _ | exact Ag _ _ | exact Ay _ | rfl | (simp; omega))) ?_ | refine Bc Y Y Y Y Y (by apply hL <;> (first | assumption | omega | exact Ab _ _ | exact Af _ | exact Ag _ _ | exact Ay _ | rfl | (simp; omega))) ?_ | refine Bc Y Y Y Y Y (by apply hP <;> (first | assumption | omega | exact Ab _ _ | exact Af _ | exact Ag _ _ | exact Ay _ | rfl | (simp; omega))) ?_ | refine Bc Y Y Y Y Y (by apply hQ <;> (first | assumption | omega | exact Ab _ _ | exact Af _ | exact Ag _ _ | exact Ay _ | rfl | (simp; omega))) ?_ | refine Bc Y Y Y Y Y (by apply hT1 <;> (first | assumption | omega | exact Ab _ _ | exact Af _ | exact Ag _ _ | exact Ay _ | rfl | (simp; omega))) ?_ | refine Bc Y Y Y Y Y (by apply hP2 <;> (first | assumption | omega | exact Ab _ _ | exact Af _ | exact Ag _ _ | exact Ay _ | rfl | (simp; omega))) ?_ | refine Bc Y Y Y Y Y (by apply hpc <;> (first | assumption | omega | exact Ab _ _ | exact Af _ | exact Ag _ _ | exact Ay _ | rfl | (simp; omega))) ?_ | fail)
      | refine r_q hG Y Y Y ?_))
    | (show AL _ _ _ _ _ _ _ _; first | refine Bj Y Y Y ?_ | (refine As ?_; first | show AW _ _ _ _ _ _ | show ∃ x', _ < _ ∧ _)) | (show AW _ _ (.seq _ _) _ _ _; refine Ah ?_; intro Q1) | (show AW _ _ (.region _ _ false) _ _ _; refine Ad ?_; intro O1) | (show AW _ _ (.cond _ _ _) _ _ _; first | refine Aj Y ?_ | refine Ai Y ?_) | (show AW _ _ (.skip) _ _ _; refine Ak ?_; first | show AW _ _ _ _ _ _ | show ∃ x', _ < _ ∧ _) | (show AW _ _ (.ret) _ _ _; refine Ar ?_; try dsimp only [Aw, Aa, Au, Ac]) | fail)
    repeat' (first
    | ((show AL _ _ _ _ _ _ _ _; refine Ae Y ?_); (first
      | (show AOp _ _ ⟨_, .move _, _, _, _, _⟩ _ _ _; refine Al hG Y Y ?_)
      | (show AOp _ _ ⟨_, .assign _, _, _, _, _⟩ _ _ _; refine A9 hG Y Y ?_)
      | (show AOp _ _ ⟨_, .call ⟨.builtin .len, _, _⟩, _, _, _, _⟩ _ _ _; first | refine Az hG Y Y Y Y ?_ | refine Bd hG Y Y Y Y Y ?_)
      | (show AOp _ _ ⟨_, .binOp _ _ _ _ _, _, _, _, _⟩ _ _ _; first | refine Ap hG Y Y Y Y Y (by omega) ?_ | refine Aq hG Y Y Y Y Y (by omega) ?_ | refine r_strT hG Y Y Y Y (by first | rfl | assumption) ?_ | refine r_strnF hG Y Y Y Y (by first | rfl | assumption) ?_ | refine r_strF hG Y Y Y Y (by assumption) ?_ | refine r_strnT hG Y Y Y Y (by assumption) ?_ | (refine Av hG Y Y Y Y Y (fun h => ?_) (fun h => ?_)) | (first | refine r_str hG Y Y Y Y (fun h => ?_) (fun h => ?_) | refine r_strn hG Y Y Y Y (fun h => ?_) (fun h => ?_)))
      | (show AOp _ _ ⟨_, .load _ _, _, _, _, _⟩ _ _ _; first | refine Ax 0 hG Y Y Y Y ?_ | refine Ax 1 hG Y Y Y Y ?_ | refine Ax 2 hG Y Y Y Y ?_ | refine Ax 3 hG Y Y Y Y ?_ | refine Ax 4 hG Y Y Y Y ?_ | refine Ax 5 hG Y Y Y Y ?_)
      | (show AOp _ _ ⟨_, .convert _ _ _, _, _, _, _⟩ _ _ _; first | refine r_tostr hG Y Y Y Y Y Y Y Y (by first | exact Ab _ _ | exact Af _ | rfl) ?_)
      | (show AOp _ _ ⟨_, .slice _ _ _ _ _, _, _, _, _⟩ _ _ _; first | refine r_sl_hin hG Y Y Y Y Y Y Y (by omega) ?_ | refine r_sl_hi hG Y Y Y Y Y Y Y (by omega) ?_ | refine op_cut0 hG Y Y Y Y Y Y Y Y Y Y ?_ | refine r_sl hG Y Y ?_)
      | (show AOp _ _ ⟨_, .pick _ _ _, _, _, _, _⟩ _ _ _; refine Bl hG Y Y Y ?_)
      | (show AOp _ _ ⟨_, .unOp _ _ _, _, _, _, _⟩ _ _ _; refine B2 hG Y Y Y ?_)
      | (show AOp _ _ ⟨_, .buildSlice _ _ _, _, _, _, _⟩ _ _ _; first | refine r_mk (sz := 1) hG Y Y Y Y Y Y Y ?_)
      | (show AOp _ _ ⟨_, .box _ _, _, _, _, _⟩ _ _ _; refine B1 hG Y Y Y (fun i => ?_))
      | (show AOp _ _ ⟨_, .alloc _, _, _, _, _⟩ _ _ _; refine Bv hG Y Y (fun i => ?_))
      | (show AOp _ _ ⟨_, .store _ _ _, _, _, _, _⟩ _ _ _; first | refine Bb 0 hG Y Y Y Y Y Y Y ?_ | refine Bb 1 hG Y Y Y Y Y Y Y ?_ | refine Bb 2 hG Y Y Y Y Y Y Y ?_ | refine Bb 3 hG Y Y Y Y Y Y Y ?_ | refine Bb 4 hG Y Y Y Y Y Y Y ?_ | refine Bb 5 hG Y Y Y Y Y Y Y ?_)
      | (show AOp _ _ ⟨_, .call ⟨.builtin .append, _, _⟩, _, _, _, _⟩ _ _ _; first | refine Bn (sz := 1) (xs := []) hG Y Y Y Y Y Y Y ⟨_, Y⟩ Y Y Y Y Y Y Y (by first | omega | (simp; omega)) (fun k => ?_) | refine Bw 0 hG Y Y Y Y Y Y Y ⟨_, Y⟩ Y Y Y Y Y (by first | omega | (simp only [List.length_append, List.length_cons, List.length_nil]; omega)) (fun k => ?_) | fail)
      | (show AOp _ _ ⟨_, .call ⟨.value _, _, _⟩, _, _, _, _⟩ _ _ _; first | refine Bc Y Y Y Y Y (by apply hT2 <;> (first | assumption | omega | exact Ab _ _ | exact Af _ | exact Ag _ _ | exact Ay _ | rfl | (simp; omega))) ?_ | fail)
      | refine r_q hG Y Y Y ?_))
    | (show AL _ _ _ _ _ _ _ _; first | refine Bj Y Y Y ?_ | (refine As ?_; first | show AW _ _ _ _ _ _ | show ∃ x', _ < _ ∧ _)) | (show AW _ _ (.seq _ _) _ _ _; refine Ah ?_; intro Q1) | (show AW _ _ (.region _ _ false) _ _ _; refine Ad ?_; intro O1) | (show AW _ _ (.cond _ _ _) _ _ _; first | refine Aj Y ?_ | refine Ai Y ?_) | (show AW _ _ (.skip) _ _ _; refine Ak ?_; first | show AW _ _ _ _ _ _ | show ∃ x', _ < _ ∧ _) | (show AW _ _ (.ret) _ _ _; refine Ar ?_; try dsimp only [Aw, Aa, Au, Ac]) | fail)
    repeat' (first
    | ((show AL _ _ _ _ _ _ _ _; refine Ae Y ?_); (first
      | (show AOp _ _ ⟨_, .move _, _, _, _, _⟩ _ _ _; refine Al hG Y Y ?_)
      | (show AOp _ _ ⟨_, .assign _, _, _, _, _⟩ _ _ _; refine A9 hG Y Y ?_)
      | (show AOp _ _ ⟨_, .call ⟨.builtin .len, _, _⟩, _, _, _, _⟩ _ _ _; first | refine Az hG Y Y Y Y ?_ | refine Bd hG Y Y Y Y Y ?_)
      | (show AOp _ _ ⟨_, .binOp _ _ _ _ _, _, _, _, _⟩ _ _ _; first | refine Ap hG Y Y Y Y Y (by omega) ?_ | refine Aq hG Y Y Y Y Y (by omega) ?_ | refine r_strT hG Y Y Y Y (by first | rfl | assumption) ?_ | refine r_strnF hG Y Y Y Y (by first | rfl | assumption) ?_ | refine r_strF hG Y Y Y Y (by assumption) ?_ | refine r_strnT hG Y Y Y Y (by assumption) ?_ | (refine Av hG Y Y Y Y Y (fun h => ?_) (fun h => ?_)) | (first | refine r_str hG Y Y Y Y (fun h => ?_) (fun h => ?_) | refine r_strn hG Y Y Y Y (fun h => ?_) (fun h => ?_)))
      | (show AOp _ _ ⟨_, .load _ _, _, _, _, _⟩ _ _ _; first | refine Ax 0 hG Y Y Y Y ?_ | refine Ax 1 hG Y Y Y Y ?_ | refine Ax 2 hG Y Y Y Y ?_ | refine Ax 3 hG Y Y Y Y ?_ | refine Ax 4 hG Y Y Y Y ?_ | refine Ax 5 hG Y Y Y Y ?_)
      | (show AOp _ _ ⟨_, .convert _ _ _, _, _, _, _⟩ _ _ _; first | refine r_tostr hG Y Y Y Y Y Y Y Y (by first | exact Ab _ _ | exact Af _ | rfl) ?_)
      | (show AOp _ _ ⟨_, .slice _ _ _ _ _, _, _, _, _⟩ _ _ _; first | refine r_sl_hin hG Y Y Y Y Y Y Y (by omega) ?_ | refine r_sl_hi hG Y Y Y Y Y Y Y (by omega) ?_ | refine op_cut0 hG Y Y Y Y Y Y Y Y Y Y ?_ | refine r_sl hG Y Y ?_)
      | (show AOp _ _ ⟨_, .pick _ _ _, _, _, _, _⟩ _ _ _; refine Bl hG Y Y Y ?_)
      | (show AOp _ _ ⟨_, .unOp _ _ _, _, _, _, _⟩ _ _ _; refine B2 hG Y Y Y ?_)
      | (show AOp _ _ ⟨_, .buildSlice _ _ _, _, _, _, _⟩ _ _ _; first | refine r_mk (sz := 1) hG Y Y Y Y Y Y Y ?_)
      | (show AOp _ _ ⟨_, .box _ _, _, _, _, _⟩ _ _ _; refine B1 hG Y Y Y (fun i => ?_))
      | (show AOp _ _ ⟨_, .alloc _, _, _, _, _⟩ _ _ _; refine Bv hG Y Y (fun i => ?_))
      | (show AOp _ _ ⟨_, .store _ _ _, _, _, _, _⟩ _ _ _; first | refine Bb 0 hG Y Y Y Y Y Y Y ?_ | refine Bb 1 hG Y Y Y Y Y Y Y ?_ | refine Bb 2 hG Y Y Y Y Y Y Y ?_ | refine Bb 3 hG Y Y Y Y Y Y Y ?_ | refine Bb 4 hG Y Y Y Y Y Y Y ?_ | refine Bb 5 hG Y Y Y Y Y Y Y ?_)
      | (show AOp _ _ ⟨_, .call ⟨.builtin .append, _, _⟩, _, _, _, _⟩ _ _ _; first | refine Bw 0 (ys := [m]) hG Y Y Y Y Y Y Y ⟨_, Y⟩ Y Y Y Y Y (by simp only [List.length_append, List.length_map, List.length_cons, List.length_nil]; omega) (fun k => ?_) | refine Bn (sz := 1) (xs := []) hG Y Y Y Y Y Y Y ⟨_, Y⟩ Y Y Y Y Y Y Y (by first | omega | (simp; omega)) (fun k => ?_) | refine Bw 0 hG Y Y Y Y Y Y Y ⟨_, Y⟩ Y Y Y Y Y (by first | omega | (simp only [List.length_append, List.length_cons, List.length_nil]; omega)) (fun k => ?_) | fail)
      | (show AOp _ _ ⟨_, .call ⟨.value _, _, _⟩, _, _, _, _⟩ _ _ _; first | refine Bc Y Y Y Y Y (by apply hT3 <;> (first | assumption | omega | exact Ab _ _ | exact Af _ | exact Ag _ _ | exact Ay _ | rfl | (simp; omega))) ?_ | fail)
      | refine r_q hG Y Y Y ?_))
    | (show AL _ _ _ _ _ _ _ _; first | refine Bj Y Y Y ?_ | (refine As ?_; first | show AW _ _ _ _ _ _ | show ∃ x', _ < _ ∧ _)) | (show AW _ _ (.seq _ _) _ _ _; refine Ah ?_; intro Q1) | (show AW _ _ (.region _ _ false) _ _ _; refine Ad ?_; intro O1) | (show AW _ _ (.cond _ _ _) _ _ _; first | refine Aj Y ?_ | refine Ai Y ?_) | (show AW _ _ (.skip) _ _ _; refine Ak ?_; first | show AW _ _ _ _ _ _ | show ∃ x', _ < _ ∧ _) | (show AW _ _ (.ret) _ _ _; refine Ar ?_; try dsimp only [Aw, Aa, Au, Ac]) | fail)
    repeat' (first
    | ((show AL _ _ _ _ _ _ _ _; refine Ae Y ?_); (first
      | (show AOp _ _ ⟨_, .move _, _, _, _, _⟩ _ _ _; refine Al hG Y Y ?_)
      | (show AOp _ _ ⟨_, .assign _, _, _, _, _⟩ _ _ _; refine A9 hG Y Y ?_)
      | (show AOp _ _ ⟨_, .call ⟨.builtin .len, _, _⟩, _, _, _, _⟩ _ _ _; first | refine Az hG Y Y Y Y ?_ | refine Bd hG Y Y Y Y Y ?_)
      | (show AOp _ _ ⟨_, .binOp _ _ _ _ _, _, _, _, _⟩ _ _ _; first | refine Ap hG Y Y Y Y Y (by omega) ?_ | refine Aq hG Y Y Y Y Y (by omega) ?_ | refine r_strT hG Y Y Y Y (by first | rfl | assumption) ?_ | refine r_strnF hG Y Y Y Y (by first | rfl | assumption) ?_ | refine r_strF hG Y Y Y Y (by assumption) ?_ | refine r_strnT hG Y Y Y Y (by assumption) ?_ | (refine Av hG Y Y Y Y Y (fun h => ?_) (fun h => ?_)) | (first | refine r_str hG Y Y Y Y (fun h => ?_) (fun h => ?_) | refine r_strn hG Y Y Y Y (fun h => ?_) (fun h => ?_)))
      | (show AOp _ _ ⟨_, .load _ _, _, _, _, _⟩ _ _ _; first | refine Ax 0 hG Y Y Y Y ?_ | refine Ax 1 hG Y Y Y Y ?_ | refine Ax 2 hG Y Y Y Y ?_ | refine Ax 3 hG Y Y Y Y ?_ | refine Ax 4 hG Y Y Y Y ?_ | refine Ax 5 hG Y Y Y Y ?_)
      | (show AOp _ _ ⟨_, .convert _ _ _, _, _, _, _⟩ _ _ _; first | refine r_tostr hG Y Y Y Y Y Y Y Y (by first | exact Ab _ _ | exact Af _ | rfl) ?_)
      | (show AOp _ _ ⟨_, .slice _ _ _ _ _, _, _, _, _⟩ _ _ _; first | refine r_sl_hin hG Y Y Y Y Y Y Y (by omega) ?_ | refine r_sl_hi hG Y Y Y Y Y Y Y (by omega) ?_ | refine op_cut0 hG Y Y Y Y Y Y Y Y Y Y ?_ | refine r_sl hG Y Y ?_)
      | (show AOp _ _ ⟨_, .pick _ _ _, _, _, _, _⟩ _ _ _; refine Bl hG Y Y Y ?_)
      | (show AOp _ _ ⟨_, .unOp _ _ _, _, _, _, _⟩ _ _ _; refine B2 hG Y Y Y ?_)
      | (show AOp _ _ ⟨_, .buildSlice _ _ _, _, _, _, _⟩ _ _ _; first | refine r_mk (sz := 1) hG Y Y Y Y Y Y Y ?_)
      | (show AOp _ _ ⟨_, .box _ _, _, _, _, _⟩ _ _ _; refine B1 hG Y Y Y (fun i => ?_))
      | (show AOp _ _ ⟨_, .alloc _, _, _, _, _⟩ _ _ _; refine Bv hG Y Y (fun i => ?_))
      | (show AOp _ _ ⟨_, .store _ _ _, _, _, _, _⟩ _ _ _; first | refine Bb 0 hG Y Y Y Y Y Y Y ?_ | refine Bb 1 hG Y Y Y Y Y Y Y ?_ | refine Bb 2 hG Y Y Y Y Y Y Y ?_ | refine Bb 3 hG Y Y Y Y Y Y Y ?_ | refine Bb 4 hG Y Y Y Y Y Y Y ?_ | refine Bb 5 hG Y Y Y Y Y Y Y ?_)
      | (show AOp _ _ ⟨_, .call ⟨.builtin .append, _, _⟩, _, _, _, _⟩ _ _ _; first | refine Bn (sz := 1) (xs := []) hG Y Y Y Y Y Y Y ⟨_, Y⟩ Y Y Y Y Y Y Y (by first | omega | (simp; omega)) (fun k => ?_) | refine Bw 0 hG Y Y Y Y Y Y Y ⟨_, Y⟩ Y Y Y Y Y (by first | omega | (simp only [List.length_append, List.length_cons, List.length_nil]; omega)) (fun k => ?_) | fail)
      | (show AOp _ _ ⟨_, .call ⟨.value _, _, _⟩, _, _, _, _⟩ _ _ _; first | refine Bc Y Y Y Y Y (by apply hT4 <;> (first | assumption | omega | exact Ab _ _ | exact Af _ | exact Ag _ _ | exact Ay _ | rfl | (simp; omega))) ?_ | refine Bc Y Y Y Y Y (by apply hP3 <;> (first | assumption | omega | exact Ab _ _ | exact Af _ | exact Ag _ _ | exact Ay _ | rfl | (simp; omega))) ?_ | fail)
      | refine r_q hG Y Y Y ?_))
    | (show AL _ _ _ _ _ _ _ _; first | refine Bj Y Y Y ?_ | (refine As ?_; first | show AW _ _ _ _ _ _ | show ∃ x', _ < _ ∧ _)) | (show AW _ _ (.seq _ _) _ _ _; refine Ah ?_; intro Q1) | (show AW _ _ (.region _ _ false) _ _ _; refine Ad ?_; intro O1) | (show AW _ _ (.cond _ _ _) _ _ _; first | refine Aj Y ?_ | refine Ai Y ?_) | (show AW _ _ (.skip) _ _ _; refine Ak ?_; first | show AW _ _ _ _ _ _ | show ∃ x', _ < _ ∧ _) | (show AW _ _ (.ret) _ _ _; refine Ar ?_; try dsimp only [Aw, Aa, Au, Ac]) | fail)
    exact Ba (Ao rfl A8) (.refl _) rfl
theorem object1Back_law (_W : World) (x : T) (tx : ArgTy G 6 42 x) (p : Int) (_ : (Lit.int .i64 p).wf = true) (m : Int) (wm : (Lit.int .u8 m).wf = true) (y : T) (ty : ArgTy G 6 22 y) : ACalls Try.prog 5 [x, .int .i64 p, .int .u8 m, y] σ0 (fun r _ => r = .bool true) := by
  obtain ⟨o, rfl, h⟩ := argTy_obj (n := 0) tx rfl rfl rfl rfl rfl rfl rfl rfl rfl rfl rfl rfl rfl rfl rfl rfl rfl rfl rfl rfl rfl rfl rfl rfl rfl rfl rfl rfl
  obtain ⟨b, rfl, hb⟩ := argTy_bytes ty rfl rfl rfl rfl rfl
  rw [byte_of (wf_u8 wm)]
  exact (object1Back_pure h hb (fun _ _ => False)).mono fun _ _ h => h.1
end Go.Proofs.Ytemgmkoggnjgjaa
