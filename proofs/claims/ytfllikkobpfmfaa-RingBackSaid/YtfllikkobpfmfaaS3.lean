/- num.TakeBytes; the document's answers on numbers and bytes. -/
import Derived.Test.YtfllikkobpfmfaaS2
namespace Go.Proofs.Ytfllikkobpfmfaa
open Go.Ts
attribute [local irreducible] Go.Ts.AW Go.Ts.AOps Go.Ts.AL Go.Ts.AOp Go.Ts.ACalls Go.Ts.DL
def takeBE (b : List UInt8) : List UInt8 × Nat × Int :=
  if b.length < 2 then ([], 0, 3) else if b.length - 2 < beV (b.take 2) then ([], 0, 3) else ((b.take (2 + beV (b.take 2))).drop 2, 2 + beV (b.take 2), 0)
def tbT (r : List UInt8 × Nat × Int) : T := .tup [sT r.1, .int .i64 r.2.1, .int .i64 r.2.2]
theorem beV2 (b : List UInt8) (h : 2 ≤ b.length) : beV (b.take 2) < 65536 := by have := beV_lt 2 (b.take 2) (by simp; omega); simpa using this
theorem takeE2 (b : List UInt8) : takeE b 2 = if b.length < 2 then (0, 3) else (beV (b.take 2), 0) := by
  unfold takeE
  rw [if_neg (by omega)]
  by_cases h : b.length < 2
  · rw [if_pos (by omega), if_pos h]
  · rw [if_neg (by omega), if_neg h]; rfl

theorem num_TakeBytes {x : T} {b : List UInt8} (hx : bytesT x = some b) (hl : b.length ≤ 4294967296) : Pure Try.prog 21 [x] (tbT (takeBE b)) := by
  refine Pure.weak (us := [sT b]) ?_ (wk1 (bytesT_wk hx))
  intro off
  refine acalls_mk (N := 29) (rs := [.tmp 2, .tmp 3, .tmp 4]) hG Try.func21 rfl rfl rfl rfl rfl ?_
  have hT := takeE2 b
  by_cases h2 : b.length < 2
  · rw [if_pos h2] at hT
    have hr : takeBE b = ([], 0, 3) := by rw [takeBE, if_pos h2]
    rw [hr]
    have hc := num_Take (n := 2) (bytesT_s b)
    rw [hT] at hc; dsimp only at hc
    repeat' (first
    | ((show AL _ _ _ _ _ _ _ _; refine al_cons rfl ?_); (first
      | (show AOp _ _ ⟨_, .move _, _, _, _, _⟩ _ _ _; refine r_move hG rfl rfl ?_)
      | (show AOp _ _ ⟨_, .assign _, _, _, _, _⟩ _ _ _; refine r_asg hG rfl rfl ?_)
      | (show AOp _ _ ⟨_, .call ⟨.builtin .len, _, _⟩, _, _, _, _⟩ _ _ _; first | refine r_lenm hG rfl rfl rfl rfl ?_ | refine r_len hG rfl rfl rfl rfl rfl ?_)
      | (show AOp _ _ ⟨_, .binOp .add _ _ _ _, _, _, _, _⟩ _ _ _; first | refine r_ari64 hG rfl rfl rfl rfl rfl (by omega) ?_ | refine r_aru64 hG rfl rfl rfl rfl rfl (by omega) ?_ | refine r_aru8 hG rfl rfl rfl rfl rfl (by omega) ?_ | refine r_aru16 hG rfl rfl rfl rfl rfl (by omega) ?_)
      | (show AOp _ _ ⟨_, .binOp .sub _ _ _ _, _, _, _, _⟩ _ _ _; first | refine r_ari64 hG rfl rfl rfl rfl rfl (by omega) ?_ | refine r_aru64 hG rfl rfl rfl rfl rfl (by omega) ?_ | refine r_aru8 hG rfl rfl rfl rfl rfl (by omega) ?_ | refine r_aru16 hG rfl rfl rfl rfl rfl (by omega) ?_)
      | (show AOp _ _ ⟨_, .binOp _ _ _ _ _, _, _, _, _⟩ _ _ _; first | refine r_cmpT hG rfl rfl rfl rfl rfl (by omega) ?_ | refine r_cmpF hG rfl rfl rfl rfl rfl (by omega) ?_ | refine r_strT hG rfl rfl rfl rfl (by first | rfl | assumption) ?_ | refine r_strnF hG rfl rfl rfl rfl (by first | rfl | assumption) ?_ | refine r_strF hG rfl rfl rfl rfl (by assumption) ?_ | refine r_strnT hG rfl rfl rfl rfl (by assumption) ?_ | (refine r_cmp hG rfl rfl rfl rfl rfl (fun h => ?_) (fun h => ?_)) | (first | refine r_str hG rfl rfl rfl rfl (fun h => ?_) (fun h => ?_) | refine r_strn hG rfl rfl rfl rfl (fun h => ?_) (fun h => ?_)) | refine r_beq hG rfl rfl rfl rfl rfl ?_ | refine r_bin' hG rfl rfl rfl ?_)
      | (show AOp _ _ ⟨_, .convert _ _ _, _, _, _, _⟩ _ _ _; first | refine r_tostr hG rfl rfl rfl rfl rfl rfl rfl rfl (by first | exact bytesT_map _ _ | exact bytesT_s _ | rfl) ?_ | refine r_cv8 hG rfl rfl rfl rfl rfl rfl ?_ | refine r_cv16 hG rfl rfl rfl rfl rfl rfl ?_ | refine r_cv_i64 hG rfl rfl rfl rfl rfl (by omega) ?_ | refine r_cv_u64 hG rfl rfl rfl rfl rfl (by omega) ?_ | refine r_cv_u8 hG rfl rfl rfl rfl rfl (by omega) ?_ | refine r_cv_u16 hG rfl rfl rfl rfl rfl (by omega) ?_ | refine r_cvw hG rfl rfl rfl rfl rfl ?_)
      | (show AOp _ _ ⟨_, .slice _ _ _ _ _, _, _, _, _⟩ _ _ _; first | refine r_sl_lon hG rfl rfl rfl rfl rfl rfl rfl (by omega) ?_ | refine r_sl_hin hG rfl rfl rfl rfl rfl rfl rfl (by omega) ?_ | refine r_sl_lhn hG rfl rfl rfl rfl rfl rfl rfl rfl (by omega) ?_ | refine r_sl_lo hG rfl rfl rfl rfl rfl rfl rfl (by omega) ?_ | refine r_sl_hi hG rfl rfl rfl rfl rfl rfl rfl (by omega) ?_ | refine r_sl_lh hG rfl rfl rfl rfl rfl rfl rfl rfl (by omega) ?_ | refine op_cut0 hG rfl rfl rfl rfl rfl rfl rfl rfl rfl rfl ?_ | refine r_sl hG rfl rfl ?_)
      | (show AOp _ _ ⟨_, .call ⟨.value _, _, _⟩, _, _, _, _⟩ _ _ _; first | refine r_pure rfl rfl rfl rfl rfl (by apply hc <;> (first | assumption | omega | exact bytesT_map _ _ | exact bytesT_s _ | exact catsT_map _ _ | exact catsT_c _ | rfl | (simp; omega))) ?_ | fail)
      | refine r_q hG rfl rfl rfl ?_))
    | (show AL _ _ _ _ _ _ _ _; first | refine al_s rfl rfl rfl ?_ | (refine al_nil ?_; first | show AW _ _ _ _ _ _ | show ∃ x', _ < _ ∧ _)) | (show AW _ _ (.seq _ _) _ _ _; refine aw_seq' ?_; intro Q1) | (show AW _ _ (.region _ _ false) _ _ _; refine aw_regL' ?_; intro O1) | (show AW _ _ (.cond _ _ _) _ _ _; first | refine aw_if_t rfl ?_ | refine aw_if_f rfl ?_) | (show AW _ _ (.skip) _ _ _; refine aw_skip ?_; first | show AW _ _ _ _ _ _ | show ∃ x', _ < _ ∧ _) | (show AW _ _ (.ret) _ _ _; refine aw_ret ?_; try dsimp only [thenA, inBlockA, jumpA, noGotoA]) | fail)
    exact ret_pure (res_tmp rfl (res_tmp rfl (res_tmp rfl res_nil))) (Wk.tupL (wk3 (.nil 1) (.refl _) (.refl _))) rfl
  · rw [if_neg h2] at hT
    have hv := beV2 b (by omega)
    have hc := num_Take (n := 2) (bytesT_s b)
    rw [hT] at hc; dsimp only at hc
    repeat' (first
    | ((show AL _ _ _ _ _ _ _ _; refine al_cons rfl ?_); (first
      | (show AOp _ _ ⟨_, .move _, _, _, _, _⟩ _ _ _; refine r_move hG rfl rfl ?_)
      | (show AOp _ _ ⟨_, .assign _, _, _, _, _⟩ _ _ _; refine r_asg hG rfl rfl ?_)
      | (show AOp _ _ ⟨_, .call ⟨.builtin .len, _, _⟩, _, _, _, _⟩ _ _ _; first | refine r_lenm hG rfl rfl rfl rfl ?_ | refine r_len hG rfl rfl rfl rfl rfl ?_)
      | (show AOp _ _ ⟨_, .binOp .add _ _ _ _, _, _, _, _⟩ _ _ _; first | refine r_ari64 hG rfl rfl rfl rfl rfl (by omega) ?_ | refine r_aru64 hG rfl rfl rfl rfl rfl (by omega) ?_ | refine r_aru8 hG rfl rfl rfl rfl rfl (by omega) ?_ | refine r_aru16 hG rfl rfl rfl rfl rfl (by omega) ?_)
      | (show AOp _ _ ⟨_, .binOp .sub _ _ _ _, _, _, _, _⟩ _ _ _; first | refine r_ari64 hG rfl rfl rfl rfl rfl (by omega) ?_ | refine r_aru64 hG rfl rfl rfl rfl rfl (by omega) ?_ | refine r_aru8 hG rfl rfl rfl rfl rfl (by omega) ?_ | refine r_aru16 hG rfl rfl rfl rfl rfl (by omega) ?_)
      | (show AOp _ _ ⟨_, .binOp _ _ _ _ _, _, _, _, _⟩ _ _ _; first | refine r_cmpT hG rfl rfl rfl rfl rfl (by omega) ?_ | refine r_cmpF hG rfl rfl rfl rfl rfl (by omega) ?_ | refine r_strT hG rfl rfl rfl rfl (by first | rfl | assumption) ?_ | refine r_strnF hG rfl rfl rfl rfl (by first | rfl | assumption) ?_ | refine r_strF hG rfl rfl rfl rfl (by assumption) ?_ | refine r_strnT hG rfl rfl rfl rfl (by assumption) ?_ | (refine r_cmp hG rfl rfl rfl rfl rfl (fun h => ?_) (fun h => ?_)) | (first | refine r_str hG rfl rfl rfl rfl (fun h => ?_) (fun h => ?_) | refine r_strn hG rfl rfl rfl rfl (fun h => ?_) (fun h => ?_)) | refine r_beq hG rfl rfl rfl rfl rfl ?_ | refine r_bin' hG rfl rfl rfl ?_)
      | (show AOp _ _ ⟨_, .convert _ _ _, _, _, _, _⟩ _ _ _; first | refine r_tostr hG rfl rfl rfl rfl rfl rfl rfl rfl (by first | exact bytesT_map _ _ | exact bytesT_s _ | rfl) ?_ | refine r_cv8 hG rfl rfl rfl rfl rfl rfl ?_ | refine r_cv16 hG rfl rfl rfl rfl rfl rfl ?_ | refine r_cv_i64 hG rfl rfl rfl rfl rfl (by omega) ?_ | refine r_cv_u64 hG rfl rfl rfl rfl rfl (by omega) ?_ | refine r_cv_u8 hG rfl rfl rfl rfl rfl (by omega) ?_ | refine r_cv_u16 hG rfl rfl rfl rfl rfl (by omega) ?_ | refine r_cvw hG rfl rfl rfl rfl rfl ?_)
      | (show AOp _ _ ⟨_, .slice _ _ _ _ _, _, _, _, _⟩ _ _ _; first | refine r_sl_lon hG rfl rfl rfl rfl rfl rfl rfl (by omega) ?_ | refine r_sl_hin hG rfl rfl rfl rfl rfl rfl rfl (by omega) ?_ | refine r_sl_lhn hG rfl rfl rfl rfl rfl rfl rfl rfl (by omega) ?_ | refine r_sl_lo hG rfl rfl rfl rfl rfl rfl rfl (by omega) ?_ | refine r_sl_hi hG rfl rfl rfl rfl rfl rfl rfl (by omega) ?_ | refine r_sl_lh hG rfl rfl rfl rfl rfl rfl rfl rfl (by omega) ?_ | refine op_cut0 hG rfl rfl rfl rfl rfl rfl rfl rfl rfl rfl ?_ | refine r_sl hG rfl rfl ?_)
      | (show AOp _ _ ⟨_, .call ⟨.value _, _, _⟩, _, _, _, _⟩ _ _ _; first | refine r_pure rfl rfl rfl rfl rfl (by apply hc <;> (first | assumption | omega | exact bytesT_map _ _ | exact bytesT_s _ | exact catsT_map _ _ | exact catsT_c _ | rfl | (simp; omega))) ?_ | (refine r_owns rfl rfl rfl rfl rfl (by apply clone_b <;> (first | assumption | omega | exact bytesT_map _ _ | exact bytesT_s _ | exact catsT_map _ _ | exact catsT_c _ | rfl | (simp; omega))) (fun k => ?_)) | (have := kk; clear this; refine r_pure rfl rfl rfl rfl rfl (Owns.pure (by apply clone_b <;> (first | assumption | omega | exact bytesT_map _ _ | exact bytesT_s _ | exact catsT_map _ _ | exact catsT_c _ | rfl | (simp; omega)))) ?_) | fail)
      | refine r_q hG rfl rfl rfl ?_))
    | (show AL _ _ _ _ _ _ _ _; first | refine al_s rfl rfl rfl ?_ | (refine al_nil ?_; first | show AW _ _ _ _ _ _ | show ∃ x', _ < _ ∧ _)) | (show AW _ _ (.seq _ _) _ _ _; refine aw_seq' ?_; intro Q1) | (show AW _ _ (.region _ _ false) _ _ _; refine aw_regL' ?_; intro O1) | (show AW _ _ (.cond _ _ _) _ _ _; first | refine aw_if_t rfl ?_ | refine aw_if_f rfl ?_) | (show AW _ _ (.skip) _ _ _; refine aw_skip ?_; first | show AW _ _ _ _ _ _ | show ∃ x', _ < _ ∧ _) | (show AW _ _ (.ret) _ _ _; refine aw_ret ?_; try dsimp only [thenA, inBlockA, jumpA, noGotoA]) | fail)
    · have hr : takeBE b = ([], 0, 3) := by rw [takeBE, if_neg h2, if_pos (by omega)]
      refine ret_pure (res_tmp rfl (res_tmp rfl (res_tmp rfl res_nil))) ?_ rfl
      rw [hr]
      exact Wk.tupL (wk3 (.nil 1) (.refl _) (.refl _))
    · have hr : takeBE b = ((b.take (2 + beV (b.take 2))).drop 2, 2 + beV (b.take 2), 0) := by rw [takeBE, if_neg h2, if_neg (by omega)]
      refine ret_pure (res_tmp rfl (res_tmp rfl (res_tmp rfl res_nil))) ?_ rfl
      rw [hr]
      refine Wk.tupL (wk3 ((Wk.own _ _ _).trans (.eq ?_)) (.int (by simp)) (.refl _))
      rw [sT]; congr 3

structure RefX (n : Nat) where
  i : Nat
  k : Nat
  hi : i ≤ n
theorem be_get (v : Nat) : ∀ (n i : Nat), i < n → (be v n)[i]? = some (UInt8.ofNat (v / 2 ^ (8 * (n - 1 - i))))
  | 0, i, h => by omega
  | n + 1, 0, h => by simp [be]
  | n + 1, i + 1, h => by
    simp only [be, List.getElem?_cons_succ]
    rw [be_get v n i (by omega)]
    congr 4; omega
end Go.Proofs.Ytfllikkobpfmfaa
