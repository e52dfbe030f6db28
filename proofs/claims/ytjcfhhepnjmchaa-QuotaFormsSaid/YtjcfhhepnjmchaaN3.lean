/- num: its statements' first lines. -/
import Derived.Test.YtjcfhhepnjmchaaN2
namespace Go.Proofs.Ytjcfhhepnjmchaa
open Go.Tr
attribute [local irreducible] Go.Tr.AW Go.Tr.AOps Go.Tr.AL Go.Tr.AOp Go.Tr.ACalls
theorem num_Take0 (n : Int) (σ : St) : ACalls Try.prog 28 [.nilsl, .int .i64 n] σ (fun r σ' => r = .tup [.int .u64 (takeE [] n).1, .int .i64 (takeE [] n).2] ∧ σ' = σ) :=
  (num_Take none [] n σ).weakL (wk2 (.nil 1) (.refl _))
theorem num_Put0 (v : Nat) (n : Int) (σ : St) : ACalls Try.prog 26 [.nilsl, .int .u64 v, .int .i64 n] σ (fun r σ' => ∃ own', Fresh σ own' ∧ r = .sl 1 (some own') ((putN v n).map bT) ∧ σ' = σ.sp own') :=
  (num_Put none [] v n σ (by simp)).weakL (wk3 (.nil 1) (.refl _) (.refl _))
theorem num_PutBytes0 (o2) (s : List UInt8) (σ : St) (hs : s.length ≤ 65535) :
    ACalls Try.prog 33 [.nilsl, .sl 1 o2 (s.map bT)] σ (fun r σ' => ∃ own', Fresh σ own' ∧ r = .sl 1 (some own') ((be s.length 2 ++ s).map bT) ∧ σ' = σ.sp own') :=
  (num_PutBytes none o2 [] s σ (by simp) hs).weakL (wk2 (.nil 1) (.refl _))

set_option maxHeartbeats 2000000 in
theorem num_begun (σ : St) : ACalls Try.prog 24 [] σ (fun r σ' => r = .bool true ∧ σ' = σ) := by
  refine acalls_mk hG Try.func24 rfl rfl rfl rfl rfl ?_
  repeat' (first
    | (refine al_cons rfl ?_; first
      | refine op_m (d := some _) hG rfl rfl rfl rfl ?_
      | refine op_d (d := some _) hG rfl rfl rfl rfl (fun h => ?_) (fun h => ?_) | refine op_e (d := some _) hG rfl rfl rfl rfl (fun h => ?_) (fun h => ?_) | refine op_ne (d := some _) hG rfl rfl rfl rfl (fun h => ?_) (fun h => ?_) | refine op_beq (d := some _) hG rfl rfl rfl rfl (fun h => ?_) (fun h => ?_)
      | refine op_rem (d := some _) hG rfl rfl rfl rfl rfl rfl (by omega) ?_ | refine op_w (d := some _) hG rfl rfl rfl rfl (by omega) ?_ | refine op_wu (d := some _) hG rfl rfl rfl rfl (by omega) ?_ | refine op_w16 (d := some _) hG rfl rfl rfl rfl (by omega) ?_ | refine op_w8 (d := some _) hG rfl rfl rfl rfl (by omega) ?_
      | refine op_q (d := some _) hG rfl rfl rfl ?_)
    | refine al_s (d := some _) rfl rfl rfl ?_ | (refine al_nil ?_; show AW _ _ _ _ _ _) | refine aw_seq ?_ | refine aw_regL ?_ | refine aw_if_t rfl ?_ | refine aw_if_f rfl ?_
    | (refine aw_skip ?_; show AW _ _ _ _ _ _) | refine aw_block ?_ | (refine aw_exit ?_; show AW _ _ _ _ _ _) | (refine aw_goto ?_; try dsimp only [thenA, inBlockA, jumpA, noGotoA]) | (refine aw_ret ?_; try dsimp only [thenA, inBlockA, jumpA, noGotoA]))
  refine al_cons rfl (op_mkslice (d := some _) hG rfl rfl rfl rfl rfl rfl rfl rfl ?_)
  refine al_cons rfl (op_call (d := some _) rfl rfl rfl rfl rfl ?_)
  refine (num_Take _ [1, 2] 2 σ).pure ?_
  rw [show takeE [1, 2] 2 = (258, 0) by decide]
  dsimp only
  repeat' (first
    | (refine al_cons rfl ?_; first
      | refine op_m (d := some _) hG rfl rfl rfl rfl ?_
      | refine op_d (d := some _) hG rfl rfl rfl rfl (fun h => ?_) (fun h => ?_) | refine op_e (d := some _) hG rfl rfl rfl rfl (fun h => ?_) (fun h => ?_) | refine op_ne (d := some _) hG rfl rfl rfl rfl (fun h => ?_) (fun h => ?_) | refine op_beq (d := some _) hG rfl rfl rfl rfl (fun h => ?_) (fun h => ?_)
      | refine op_rem (d := some _) hG rfl rfl rfl rfl rfl rfl (by omega) ?_ | refine op_w (d := some _) hG rfl rfl rfl rfl (by omega) ?_ | refine op_wu (d := some _) hG rfl rfl rfl rfl (by omega) ?_ | refine op_w16 (d := some _) hG rfl rfl rfl rfl (by omega) ?_ | refine op_w8 (d := some _) hG rfl rfl rfl rfl (by omega) ?_
      | refine op_q (d := some _) hG rfl rfl rfl ?_)
    | refine al_s (d := some _) rfl rfl rfl ?_ | (refine al_nil ?_; show AW _ _ _ _ _ _) | refine aw_seq ?_ | refine aw_regL ?_ | refine aw_if_t rfl ?_ | refine aw_if_f rfl ?_
    | (refine aw_skip ?_; show AW _ _ _ _ _ _) | refine aw_block ?_ | (refine aw_exit ?_; show AW _ _ _ _ _ _) | (refine aw_goto ?_; try dsimp only [thenA, inBlockA, jumpA, noGotoA]) | (refine aw_ret ?_; try dsimp only [thenA, inBlockA, jumpA, noGotoA]))
  refine al_cons rfl (op_mkslice (d := some _) hG rfl rfl rfl rfl rfl rfl rfl rfl ?_)
  refine al_cons rfl (op_call (d := some _) rfl rfl rfl rfl rfl ?_)
  refine (num_TakeBytes _ [0, 1, 9] σ (by simp)).pure ?_
  rw [show takeBE [0, 1, 9] = ([9], 3, 0) by decide]
  dsimp only
  repeat' (first | (refine al_cons rfl ?_; first | refine op_m (d := some _) hG rfl rfl rfl rfl ?_ | refine op_q (d := some _) hG rfl rfl rfl ?_) | refine al_s (d := some _) rfl rfl rfl ?_)
  refine al_nil ?_
  show AW _ _ _ _ _ _
  refine aw_forget (b := [(1, _), (2, _), (3, _), (4, _), (5, _)]) ((.cons rfl (.cons rfl (.cons rfl (.cons rfl (.cons rfl (.nil _))))))) ?_
  refine aw_seq ?_
  refine aw_regL ?_
  refine al_cons rfl (op_call (d := some _) rfl rfl rfl rfl rfl ?_)
  refine (num_Put0 258 2 σ).drop.pure ?_
  refine al_cons rfl (op_tostr (d := some _) hG rfl rfl rfl rfl rfl rfl rfl rfl rfl rfl (bytesOf_map _) ?_)
  rw [show putN 258 2 = [1, 2] by decide]
  repeat' (first
    | (refine al_cons rfl ?_; first
      | refine op_m (d := some _) hG rfl rfl rfl rfl ?_
      | refine op_d (d := some _) hG rfl rfl rfl rfl (fun h => ?_) (fun h => ?_) | refine op_e (d := some _) hG rfl rfl rfl rfl (fun h => ?_) (fun h => ?_) | refine op_ne (d := some _) hG rfl rfl rfl rfl (fun h => ?_) (fun h => ?_) | refine op_beq (d := some _) hG rfl rfl rfl rfl (fun h => ?_) (fun h => ?_)
      | refine op_rem (d := some _) hG rfl rfl rfl rfl rfl rfl (by omega) ?_ | refine op_w (d := some _) hG rfl rfl rfl rfl (by omega) ?_ | refine op_wu (d := some _) hG rfl rfl rfl rfl (by omega) ?_ | refine op_w16 (d := some _) hG rfl rfl rfl rfl (by omega) ?_ | refine op_w8 (d := some _) hG rfl rfl rfl rfl (by omega) ?_
      | refine op_q (d := some _) hG rfl rfl rfl ?_)
    | refine al_s (d := some _) rfl rfl rfl ?_ | (refine al_nil ?_; show AW _ _ _ _ _ _) | refine aw_seq ?_ | refine aw_regL ?_ | refine aw_if_t rfl ?_ | refine aw_if_f rfl ?_
    | (refine aw_skip ?_; show AW _ _ _ _ _ _) | refine aw_block ?_ | (refine aw_exit ?_; show AW _ _ _ _ _ _) | (refine aw_goto ?_; try dsimp only [thenA, inBlockA, jumpA, noGotoA]) | (refine aw_ret ?_; try dsimp only [thenA, inBlockA, jumpA, noGotoA]))
  all_goals try (exfalso; omega)
  all_goals try (exact absurd rfl ‹¬ _›)
  refine al_cons rfl (op_mkslice (d := some _) hG rfl rfl rfl rfl rfl rfl rfl rfl ?_)
  refine al_cons rfl (op_call (d := some _) rfl rfl rfl rfl rfl ?_)
  refine (num_PutBytes0 _ [7] σ (by simp)).drop.pure ?_
  rw [show be ([7] : List UInt8).length 2 ++ [7] = [0, 1, 7] by decide]
  repeat' (first
    | (refine al_cons rfl ?_; first
      | refine op_m (d := some _) hG rfl rfl rfl rfl ?_
      | refine op_d (d := some _) hG rfl rfl rfl rfl (fun h => ?_) (fun h => ?_) | refine op_e (d := some _) hG rfl rfl rfl rfl (fun h => ?_) (fun h => ?_) | refine op_ne (d := some _) hG rfl rfl rfl rfl (fun h => ?_) (fun h => ?_) | refine op_beq (d := some _) hG rfl rfl rfl rfl (fun h => ?_) (fun h => ?_)
      | refine op_rem (d := some _) hG rfl rfl rfl rfl rfl rfl (by omega) ?_ | refine op_w (d := some _) hG rfl rfl rfl rfl (by omega) ?_ | refine op_wu (d := some _) hG rfl rfl rfl rfl (by omega) ?_ | refine op_w16 (d := some _) hG rfl rfl rfl rfl (by omega) ?_ | refine op_w8 (d := some _) hG rfl rfl rfl rfl (by omega) ?_
      | refine op_q (d := some _) hG rfl rfl rfl ?_)
    | refine al_s (d := some _) rfl rfl rfl ?_ | (refine al_nil ?_; show AW _ _ _ _ _ _) | refine aw_seq ?_ | refine aw_regL ?_ | refine aw_if_t rfl ?_ | refine aw_if_f rfl ?_
    | (refine aw_skip ?_; show AW _ _ _ _ _ _) | refine aw_block ?_ | (refine aw_exit ?_; show AW _ _ _ _ _ _) | (refine aw_goto ?_; try dsimp only [thenA, inBlockA, jumpA, noGotoA]) | (refine aw_ret ?_; try dsimp only [thenA, inBlockA, jumpA, noGotoA]))
  · exact aw_ret' _ rfl (Wk.refl _) ⟨rfl, rfl⟩
  · exact absurd rfl h
end Go.Proofs.Ytjcfhhepnjmchaa
