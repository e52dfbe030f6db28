/- num: its forms. -/
import Derived.Test.YtjcfhhepnjmchaaN4
namespace Go.Proofs.Ytjcfhhepnjmchaa
open Go.Tr
attribute [local irreducible] Go.Tr.AW Go.Tr.AOps Go.Tr.AL Go.Tr.AOp Go.Tr.ACalls
set_option maxHeartbeats 4000000 in
theorem numForms_law (W : World) : ACalls Try.prog 10 [] (σ0 W) (fun r _ => r = .bool true) := by
  generalize σ0 W = σ
  refine acalls_mk hG Try.func10 rfl rfl rfl rfl rfl ?_
  repeat' (first
    | (refine al_cons rfl ?_; first
      | refine op_m (d := some _) hG rfl rfl rfl rfl ?_
      | refine op_d (d := some _) hG rfl rfl rfl rfl (fun h => ?_) (fun h => ?_) | refine op_e (d := some _) hG rfl rfl rfl rfl (fun h => ?_) (fun h => ?_) | refine op_ne (d := some _) hG rfl rfl rfl rfl (fun h => ?_) (fun h => ?_) | refine op_beq (d := some _) hG rfl rfl rfl rfl (fun h => ?_) (fun h => ?_)
      | refine op_rem (d := some _) hG rfl rfl rfl rfl rfl rfl (by omega) ?_ | refine op_shr (d := some _) hG rfl rfl rfl rfl rfl rfl (by omega) ?_ | refine op_w (d := some _) hG rfl rfl rfl rfl (by omega) ?_ | refine op_wu (d := some _) hG rfl rfl rfl rfl (by omega) ?_ | refine op_w16 (d := some _) hG rfl rfl rfl rfl (by omega) ?_ | refine op_w8 (d := some _) hG rfl rfl rfl rfl (by omega) ?_
      | refine op_q (d := some _) hG rfl rfl rfl ?_)
    | refine al_s (d := some _) rfl rfl rfl ?_ | (refine al_nil ?_; show AW _ _ _ _ _ _) | refine aw_seq ?_ | refine aw_regL ?_ | refine aw_if_t rfl ?_ | refine aw_if_f rfl ?_
    | (refine aw_skip ?_; show AW _ _ _ _ _ _) | refine aw_block ?_ | (refine aw_exit ?_; show AW _ _ _ _ _ _) | (refine aw_goto ?_; try dsimp only [thenA, inBlockA, jumpA, noGotoA]) | (refine aw_ret ?_; try dsimp only [thenA, inBlockA, jumpA, noGotoA]))
  refine al_cons rfl (op_call (d := some _) rfl rfl rfl rfl rfl ?_)
  refine (num_begun σ).pure ?_
  repeat' (first
    | (refine al_cons rfl ?_; first
      | refine op_m (d := some _) hG rfl rfl rfl rfl ?_
      | refine op_d (d := some _) hG rfl rfl rfl rfl (fun h => ?_) (fun h => ?_) | refine op_e (d := some _) hG rfl rfl rfl rfl (fun h => ?_) (fun h => ?_) | refine op_ne (d := some _) hG rfl rfl rfl rfl (fun h => ?_) (fun h => ?_) | refine op_beq (d := some _) hG rfl rfl rfl rfl (fun h => ?_) (fun h => ?_)
      | refine op_rem (d := some _) hG rfl rfl rfl rfl rfl rfl (by omega) ?_ | refine op_shr (d := some _) hG rfl rfl rfl rfl rfl rfl (by omega) ?_ | refine op_w (d := some _) hG rfl rfl rfl rfl (by omega) ?_ | refine op_wu (d := some _) hG rfl rfl rfl rfl (by omega) ?_ | refine op_w16 (d := some _) hG rfl rfl rfl rfl (by omega) ?_ | refine op_w8 (d := some _) hG rfl rfl rfl rfl (by omega) ?_
      | refine op_q (d := some _) hG rfl rfl rfl ?_)
    | refine al_s (d := some _) rfl rfl rfl ?_ | (refine al_nil ?_; show AW _ _ _ _ _ _) | refine aw_seq ?_ | refine aw_regL ?_ | refine aw_if_t rfl ?_ | refine aw_if_f rfl ?_
    | (refine aw_skip ?_; show AW _ _ _ _ _ _) | refine aw_block ?_ | (refine aw_exit ?_; show AW _ _ _ _ _ _) | (refine aw_goto ?_; try dsimp only [thenA, inBlockA, jumpA, noGotoA]) | (refine aw_ret ?_; try dsimp only [thenA, inBlockA, jumpA, noGotoA]))
  refine al_cons rfl (op_mkslice (d := some _) hG rfl rfl rfl rfl rfl rfl rfl rfl ?_)
  refine al_cons rfl (op_call (d := some _) rfl rfl rfl rfl rfl ?_)
  refine (num_Take _ [255, 255] 2 σ).pure ?_
  rw [show takeE [255, 255] 2 = (65535, 0) by decide]
  dsimp only
  repeat' (first
    | (refine al_cons rfl ?_; first
      | refine op_m (d := some _) hG rfl rfl rfl rfl ?_
      | refine op_d (d := some _) hG rfl rfl rfl rfl (fun h => ?_) (fun h => ?_) | refine op_e (d := some _) hG rfl rfl rfl rfl (fun h => ?_) (fun h => ?_) | refine op_ne (d := some _) hG rfl rfl rfl rfl (fun h => ?_) (fun h => ?_) | refine op_beq (d := some _) hG rfl rfl rfl rfl (fun h => ?_) (fun h => ?_)
      | refine op_rem (d := some _) hG rfl rfl rfl rfl rfl rfl (by omega) ?_ | refine op_shr (d := some _) hG rfl rfl rfl rfl rfl rfl (by omega) ?_ | refine op_w (d := some _) hG rfl rfl rfl rfl (by omega) ?_ | refine op_wu (d := some _) hG rfl rfl rfl rfl (by omega) ?_ | refine op_w16 (d := some _) hG rfl rfl rfl rfl (by omega) ?_ | refine op_w8 (d := some _) hG rfl rfl rfl rfl (by omega) ?_
      | refine op_q (d := some _) hG rfl rfl rfl ?_)
    | refine al_s (d := some _) rfl rfl rfl ?_ | (refine al_nil ?_; show AW _ _ _ _ _ _) | refine aw_seq ?_ | refine aw_regL ?_ | refine aw_if_t rfl ?_ | refine aw_if_f rfl ?_
    | (refine aw_skip ?_; show AW _ _ _ _ _ _) | refine aw_block ?_ | (refine aw_exit ?_; show AW _ _ _ _ _ _) | (refine aw_goto ?_; try dsimp only [thenA, inBlockA, jumpA, noGotoA]) | (refine aw_ret ?_; try dsimp only [thenA, inBlockA, jumpA, noGotoA]))
  refine al_cons rfl (op_call (d := some _) rfl rfl rfl rfl rfl ?_)
  refine (num_Take0 0 σ).pure ?_
  rw [show takeE [] 0 = (0, 0) by decide]
  dsimp only
  repeat' (first
    | (refine al_cons rfl ?_; first
      | refine op_m (d := some _) hG rfl rfl rfl rfl ?_
      | refine op_d (d := some _) hG rfl rfl rfl rfl (fun h => ?_) (fun h => ?_) | refine op_e (d := some _) hG rfl rfl rfl rfl (fun h => ?_) (fun h => ?_) | refine op_ne (d := some _) hG rfl rfl rfl rfl (fun h => ?_) (fun h => ?_) | refine op_beq (d := some _) hG rfl rfl rfl rfl (fun h => ?_) (fun h => ?_)
      | refine op_rem (d := some _) hG rfl rfl rfl rfl rfl rfl (by omega) ?_ | refine op_shr (d := some _) hG rfl rfl rfl rfl rfl rfl (by omega) ?_ | refine op_w (d := some _) hG rfl rfl rfl rfl (by omega) ?_ | refine op_wu (d := some _) hG rfl rfl rfl rfl (by omega) ?_ | refine op_w16 (d := some _) hG rfl rfl rfl rfl (by omega) ?_ | refine op_w8 (d := some _) hG rfl rfl rfl rfl (by omega) ?_
      | refine op_q (d := some _) hG rfl rfl rfl ?_)
    | refine al_s (d := some _) rfl rfl rfl ?_ | (refine al_nil ?_; show AW _ _ _ _ _ _) | refine aw_seq ?_ | refine aw_regL ?_ | refine aw_if_t rfl ?_ | refine aw_if_f rfl ?_
    | (refine aw_skip ?_; show AW _ _ _ _ _ _) | refine aw_block ?_ | (refine aw_exit ?_; show AW _ _ _ _ _ _) | (refine aw_goto ?_; try dsimp only [thenA, inBlockA, jumpA, noGotoA]) | (refine aw_ret ?_; try dsimp only [thenA, inBlockA, jumpA, noGotoA]))
  refine al_cons rfl (op_call (d := some _) rfl rfl rfl rfl rfl ?_)
  refine (num_Take0 1 σ).pure ?_
  rw [show takeE [] 1 = (0, 3) by decide]
  dsimp only
  repeat' (first
    | (refine al_cons rfl ?_; first
      | refine op_m (d := some _) hG rfl rfl rfl rfl ?_
      | refine op_d (d := some _) hG rfl rfl rfl rfl (fun h => ?_) (fun h => ?_) | refine op_e (d := some _) hG rfl rfl rfl rfl (fun h => ?_) (fun h => ?_) | refine op_ne (d := some _) hG rfl rfl rfl rfl (fun h => ?_) (fun h => ?_) | refine op_beq (d := some _) hG rfl rfl rfl rfl (fun h => ?_) (fun h => ?_)
      | refine op_rem (d := some _) hG rfl rfl rfl rfl rfl rfl (by omega) ?_ | refine op_shr (d := some _) hG rfl rfl rfl rfl rfl rfl (by omega) ?_ | refine op_w (d := some _) hG rfl rfl rfl rfl (by omega) ?_ | refine op_wu (d := some _) hG rfl rfl rfl rfl (by omega) ?_ | refine op_w16 (d := some _) hG rfl rfl rfl rfl (by omega) ?_ | refine op_w8 (d := some _) hG rfl rfl rfl rfl (by omega) ?_
      | refine op_q (d := some _) hG rfl rfl rfl ?_)
    | refine al_s (d := some _) rfl rfl rfl ?_ | (refine al_nil ?_; show AW _ _ _ _ _ _) | refine aw_seq ?_ | refine aw_regL ?_ | refine aw_if_t rfl ?_ | refine aw_if_f rfl ?_
    | (refine aw_skip ?_; show AW _ _ _ _ _ _) | refine aw_block ?_ | (refine aw_exit ?_; show AW _ _ _ _ _ _) | (refine aw_goto ?_; try dsimp only [thenA, inBlockA, jumpA, noGotoA]) | (refine aw_ret ?_; try dsimp only [thenA, inBlockA, jumpA, noGotoA]))
  refine al_cons rfl (op_call (d := some _) rfl rfl rfl rfl rfl ?_)
  refine (num_Take0 9 σ).pure ?_
  rw [show takeE [] 9 = (0, 1) by decide]
  dsimp only
  repeat' (first
    | (refine al_cons rfl ?_; first
      | refine op_m (d := some _) hG rfl rfl rfl rfl ?_
      | refine op_d (d := some _) hG rfl rfl rfl rfl (fun h => ?_) (fun h => ?_) | refine op_e (d := some _) hG rfl rfl rfl rfl (fun h => ?_) (fun h => ?_) | refine op_ne (d := some _) hG rfl rfl rfl rfl (fun h => ?_) (fun h => ?_) | refine op_beq (d := some _) hG rfl rfl rfl rfl (fun h => ?_) (fun h => ?_)
      | refine op_rem (d := some _) hG rfl rfl rfl rfl rfl rfl (by omega) ?_ | refine op_shr (d := some _) hG rfl rfl rfl rfl rfl rfl (by omega) ?_ | refine op_w (d := some _) hG rfl rfl rfl rfl (by omega) ?_ | refine op_wu (d := some _) hG rfl rfl rfl rfl (by omega) ?_ | refine op_w16 (d := some _) hG rfl rfl rfl rfl (by omega) ?_ | refine op_w8 (d := some _) hG rfl rfl rfl rfl (by omega) ?_
      | refine op_q (d := some _) hG rfl rfl rfl ?_)
    | refine al_s (d := some _) rfl rfl rfl ?_ | (refine al_nil ?_; show AW _ _ _ _ _ _) | refine aw_seq ?_ | refine aw_regL ?_ | refine aw_if_t rfl ?_ | refine aw_if_f rfl ?_
    | (refine aw_skip ?_; show AW _ _ _ _ _ _) | refine aw_block ?_ | (refine aw_exit ?_; show AW _ _ _ _ _ _) | (refine aw_goto ?_; try dsimp only [thenA, inBlockA, jumpA, noGotoA]) | (refine aw_ret ?_; try dsimp only [thenA, inBlockA, jumpA, noGotoA]))
  refine al_cons rfl (op_call (d := some _) rfl rfl rfl rfl rfl ?_)
  refine (num_Take0 (-1) σ).pure ?_
  rw [show takeE [] (-1) = (0, 1) by decide]
  dsimp only
  repeat' (first
    | (refine al_cons rfl ?_; first
      | refine op_m (d := some _) hG rfl rfl rfl rfl ?_
      | refine op_d (d := some _) hG rfl rfl rfl rfl (fun h => ?_) (fun h => ?_) | refine op_e (d := some _) hG rfl rfl rfl rfl (fun h => ?_) (fun h => ?_) | refine op_ne (d := some _) hG rfl rfl rfl rfl (fun h => ?_) (fun h => ?_) | refine op_beq (d := some _) hG rfl rfl rfl rfl (fun h => ?_) (fun h => ?_)
      | refine op_rem (d := some _) hG rfl rfl rfl rfl rfl rfl (by omega) ?_ | refine op_shr (d := some _) hG rfl rfl rfl rfl rfl rfl (by omega) ?_ | refine op_w (d := some _) hG rfl rfl rfl rfl (by omega) ?_ | refine op_wu (d := some _) hG rfl rfl rfl rfl (by omega) ?_ | refine op_w16 (d := some _) hG rfl rfl rfl rfl (by omega) ?_ | refine op_w8 (d := some _) hG rfl rfl rfl rfl (by omega) ?_
      | refine op_q (d := some _) hG rfl rfl rfl ?_)
    | refine al_s (d := some _) rfl rfl rfl ?_ | (refine al_nil ?_; show AW _ _ _ _ _ _) | refine aw_seq ?_ | refine aw_regL ?_ | refine aw_if_t rfl ?_ | refine aw_if_f rfl ?_
    | (refine aw_skip ?_; show AW _ _ _ _ _ _) | refine aw_block ?_ | (refine aw_exit ?_; show AW _ _ _ _ _ _) | (refine aw_goto ?_; try dsimp only [thenA, inBlockA, jumpA, noGotoA]) | (refine aw_ret ?_; try dsimp only [thenA, inBlockA, jumpA, noGotoA]))
  refine al_cons rfl (op_mkslice (d := some _) hG rfl rfl rfl rfl rfl rfl rfl rfl ?_)
  refine al_cons rfl (op_call (d := some _) rfl rfl rfl rfl rfl ?_)
  refine (num_TakeBytes _ [0, 0] σ (by simp)).pure ?_
  rw [show takeBE [0, 0] = ([], 2, 0) by decide]
  dsimp only
  repeat' (first
    | (refine al_cons rfl ?_; first
      | refine op_m (d := some _) hG rfl rfl rfl rfl ?_
      | refine op_d (d := some _) hG rfl rfl rfl rfl (fun h => ?_) (fun h => ?_) | refine op_e (d := some _) hG rfl rfl rfl rfl (fun h => ?_) (fun h => ?_) | refine op_ne (d := some _) hG rfl rfl rfl rfl (fun h => ?_) (fun h => ?_) | refine op_beq (d := some _) hG rfl rfl rfl rfl (fun h => ?_) (fun h => ?_)
      | refine op_rem (d := some _) hG rfl rfl rfl rfl rfl rfl (by omega) ?_ | refine op_shr (d := some _) hG rfl rfl rfl rfl rfl rfl (by omega) ?_ | refine op_w (d := some _) hG rfl rfl rfl rfl (by omega) ?_ | refine op_wu (d := some _) hG rfl rfl rfl rfl (by omega) ?_ | refine op_w16 (d := some _) hG rfl rfl rfl rfl (by omega) ?_ | refine op_w8 (d := some _) hG rfl rfl rfl rfl (by omega) ?_
      | refine op_q (d := some _) hG rfl rfl rfl ?_)
    | refine al_s (d := some _) rfl rfl rfl ?_ | (refine al_nil ?_; show AW _ _ _ _ _ _) | refine aw_seq ?_ | refine aw_regL ?_ | refine aw_if_t rfl ?_ | refine aw_if_f rfl ?_
    | (refine aw_skip ?_; show AW _ _ _ _ _ _) | refine aw_block ?_ | (refine aw_exit ?_; show AW _ _ _ _ _ _) | (refine aw_goto ?_; try dsimp only [thenA, inBlockA, jumpA, noGotoA]) | (refine aw_ret ?_; try dsimp only [thenA, inBlockA, jumpA, noGotoA]))
  refine al_cons rfl (op_mkslice (d := some _) hG rfl rfl rfl rfl rfl rfl rfl rfl ?_)
  refine al_cons rfl (op_call (d := some _) rfl rfl rfl rfl rfl ?_)
  refine (num_TakeBytes _ [0, 2, 7] σ (by simp)).pure ?_
  rw [show takeBE [0, 2, 7] = ([], 0, 3) by decide]
  dsimp only
  repeat' (first
    | (refine al_cons rfl ?_; first
      | refine op_m (d := some _) hG rfl rfl rfl rfl ?_
      | refine op_d (d := some _) hG rfl rfl rfl rfl (fun h => ?_) (fun h => ?_) | refine op_e (d := some _) hG rfl rfl rfl rfl (fun h => ?_) (fun h => ?_) | refine op_ne (d := some _) hG rfl rfl rfl rfl (fun h => ?_) (fun h => ?_) | refine op_beq (d := some _) hG rfl rfl rfl rfl (fun h => ?_) (fun h => ?_)
      | refine op_rem (d := some _) hG rfl rfl rfl rfl rfl rfl (by omega) ?_ | refine op_shr (d := some _) hG rfl rfl rfl rfl rfl rfl (by omega) ?_ | refine op_w (d := some _) hG rfl rfl rfl rfl (by omega) ?_ | refine op_wu (d := some _) hG rfl rfl rfl rfl (by omega) ?_ | refine op_w16 (d := some _) hG rfl rfl rfl rfl (by omega) ?_ | refine op_w8 (d := some _) hG rfl rfl rfl rfl (by omega) ?_
      | refine op_q (d := some _) hG rfl rfl rfl ?_)
    | refine al_s (d := some _) rfl rfl rfl ?_ | (refine al_nil ?_; show AW _ _ _ _ _ _) | refine aw_seq ?_ | refine aw_regL ?_ | refine aw_if_t rfl ?_ | refine aw_if_f rfl ?_
    | (refine aw_skip ?_; show AW _ _ _ _ _ _) | refine aw_block ?_ | (refine aw_exit ?_; show AW _ _ _ _ _ _) | (refine aw_goto ?_; try dsimp only [thenA, inBlockA, jumpA, noGotoA]) | (refine aw_ret ?_; try dsimp only [thenA, inBlockA, jumpA, noGotoA]))
  refine al_cons rfl (op_mkslice (d := some _) hG rfl rfl rfl rfl rfl rfl rfl rfl ?_)
  refine al_cons rfl (op_call (d := some _) rfl rfl rfl rfl rfl ?_)
  refine (num_TakeBytes _ [0] σ (by simp)).pure ?_
  rw [show takeBE [0] = ([], 0, 3) by decide]
  dsimp only
  repeat' (first | (refine al_cons rfl ?_; first | refine op_m (d := some _) hG rfl rfl rfl rfl ?_ | refine op_q (d := some _) hG rfl rfl rfl ?_) | refine al_s (d := some _) rfl rfl rfl ?_)
  refine al_nil ?_
  show AW _ _ _ _ _ _
  refine aw_forget (b := [(1, _), (2, _), (3, _), (4, _), (6, _), (8, _), (10, _), (11, _), (12, _), (13, _), (16, _), (19, _)]) ((.cons rfl (.cons rfl (.cons rfl (.cons rfl (.cons rfl (.cons rfl (.cons rfl (.cons rfl (.cons rfl (.cons rfl (.cons rfl (.cons rfl (.nil _)))))))))))))) ?_
  repeat' (first
    | (refine al_cons rfl ?_; first
      | refine op_m (d := some _) hG rfl rfl rfl rfl ?_
      | refine op_d (d := some _) hG rfl rfl rfl rfl (fun h => ?_) (fun h => ?_) | refine op_e (d := some _) hG rfl rfl rfl rfl (fun h => ?_) (fun h => ?_) | refine op_ne (d := some _) hG rfl rfl rfl rfl (fun h => ?_) (fun h => ?_) | refine op_beq (d := some _) hG rfl rfl rfl rfl (fun h => ?_) (fun h => ?_)
      | refine op_rem (d := some _) hG rfl rfl rfl rfl rfl rfl (by omega) ?_ | refine op_shr (d := some _) hG rfl rfl rfl rfl rfl rfl (by omega) ?_ | refine op_w (d := some _) hG rfl rfl rfl rfl (by omega) ?_ | refine op_wu (d := some _) hG rfl rfl rfl rfl (by omega) ?_ | refine op_w16 (d := some _) hG rfl rfl rfl rfl (by omega) ?_ | refine op_w8 (d := some _) hG rfl rfl rfl rfl (by omega) ?_
      | refine op_q (d := some _) hG rfl rfl rfl ?_)
    | refine al_s (d := some _) rfl rfl rfl ?_ | (refine al_nil ?_; show AW _ _ _ _ _ _) | refine aw_seq ?_ | refine aw_regL ?_ | refine aw_if_t rfl ?_ | refine aw_if_f rfl ?_
    | (refine aw_skip ?_; show AW _ _ _ _ _ _) | refine aw_block ?_ | (refine aw_exit ?_; show AW _ _ _ _ _ _) | (refine aw_goto ?_; try dsimp only [thenA, inBlockA, jumpA, noGotoA]) | (refine aw_ret ?_; try dsimp only [thenA, inBlockA, jumpA, noGotoA]))
  refine al_cons rfl (op_call (d := some _) rfl rfl rfl rfl rfl ?_)
  refine (num_Put0 5 9 σ).drop.pure ?_
  rw [show putN 5 9 = [] by decide]
  repeat' (first
    | (refine al_cons rfl ?_; first
      | refine op_m (d := some _) hG rfl rfl rfl rfl ?_
      | refine op_d (d := some _) hG rfl rfl rfl rfl (fun h => ?_) (fun h => ?_) | refine op_e (d := some _) hG rfl rfl rfl rfl (fun h => ?_) (fun h => ?_) | refine op_ne (d := some _) hG rfl rfl rfl rfl (fun h => ?_) (fun h => ?_) | refine op_beq (d := some _) hG rfl rfl rfl rfl (fun h => ?_) (fun h => ?_)
      | refine op_rem (d := some _) hG rfl rfl rfl rfl rfl rfl (by omega) ?_ | refine op_shr (d := some _) hG rfl rfl rfl rfl rfl rfl (by omega) ?_ | refine op_w (d := some _) hG rfl rfl rfl rfl (by omega) ?_ | refine op_wu (d := some _) hG rfl rfl rfl rfl (by omega) ?_ | refine op_w16 (d := some _) hG rfl rfl rfl rfl (by omega) ?_ | refine op_w8 (d := some _) hG rfl rfl rfl rfl (by omega) ?_
      | refine op_q (d := some _) hG rfl rfl rfl ?_)
    | refine al_s (d := some _) rfl rfl rfl ?_ | (refine al_nil ?_; show AW _ _ _ _ _ _) | refine aw_seq ?_ | refine aw_regL ?_ | refine aw_if_t rfl ?_ | refine aw_if_f rfl ?_
    | (refine aw_skip ?_; show AW _ _ _ _ _ _) | refine aw_block ?_ | (refine aw_exit ?_; show AW _ _ _ _ _ _) | (refine aw_goto ?_; try dsimp only [thenA, inBlockA, jumpA, noGotoA]) | (refine aw_ret ?_; try dsimp only [thenA, inBlockA, jumpA, noGotoA]))
  refine al_cons rfl (op_mkslice (d := some _) hG rfl rfl rfl rfl rfl rfl rfl rfl ?_)
  refine al_cons rfl (op_call (d := some _) rfl rfl rfl rfl rfl ?_)
  refine (num_Put _ [1] 5 (-1) σ (by simp)).drop.pure ?_
  rw [show putN 5 (-1) = [] by decide]
  repeat' (first
    | (refine al_cons rfl ?_; first
      | refine op_m (d := some _) hG rfl rfl rfl rfl ?_
      | refine op_d (d := some _) hG rfl rfl rfl rfl (fun h => ?_) (fun h => ?_) | refine op_e (d := some _) hG rfl rfl rfl rfl (fun h => ?_) (fun h => ?_) | refine op_ne (d := some _) hG rfl rfl rfl rfl (fun h => ?_) (fun h => ?_) | refine op_beq (d := some _) hG rfl rfl rfl rfl (fun h => ?_) (fun h => ?_)
      | refine op_rem (d := some _) hG rfl rfl rfl rfl rfl rfl (by omega) ?_ | refine op_shr (d := some _) hG rfl rfl rfl rfl rfl rfl (by omega) ?_ | refine op_w (d := some _) hG rfl rfl rfl rfl (by omega) ?_ | refine op_wu (d := some _) hG rfl rfl rfl rfl (by omega) ?_ | refine op_w16 (d := some _) hG rfl rfl rfl rfl (by omega) ?_ | refine op_w8 (d := some _) hG rfl rfl rfl rfl (by omega) ?_
      | refine op_q (d := some _) hG rfl rfl rfl ?_)
    | refine al_s (d := some _) rfl rfl rfl ?_ | (refine al_nil ?_; show AW _ _ _ _ _ _) | refine aw_seq ?_ | refine aw_regL ?_ | refine aw_if_t rfl ?_ | refine aw_if_f rfl ?_
    | (refine aw_skip ?_; show AW _ _ _ _ _ _) | refine aw_block ?_ | (refine aw_exit ?_; show AW _ _ _ _ _ _) | (refine aw_goto ?_; try dsimp only [thenA, inBlockA, jumpA, noGotoA]) | (refine aw_ret ?_; try dsimp only [thenA, inBlockA, jumpA, noGotoA]))
  refine al_cons rfl (op_mkslice (d := some _) hG rfl rfl rfl rfl rfl rfl rfl rfl ?_)
  refine al_cons rfl (op_call (d := some _) rfl rfl rfl rfl rfl ?_)
  refine (num_Put _ [9] 9223372036854775808 8 σ (by simp)).drop.pure ?_
  rw [show putN 9223372036854775808 8 = [128, 0, 0, 0, 0, 0, 0, 0] by decide +kernel]
  refine al_cons rfl (op_tostr (d := some _) hG rfl rfl rfl rfl rfl rfl rfl rfl rfl rfl (bytesOf_map _) ?_)
  repeat' (first
    | (refine al_cons rfl ?_; first
      | refine op_m (d := some _) hG rfl rfl rfl rfl ?_
      | refine op_d (d := some _) hG rfl rfl rfl rfl (fun h => ?_) (fun h => ?_) | refine op_e (d := some _) hG rfl rfl rfl rfl (fun h => ?_) (fun h => ?_) | refine op_ne (d := some _) hG rfl rfl rfl rfl (fun h => ?_) (fun h => ?_) | refine op_beq (d := some _) hG rfl rfl rfl rfl (fun h => ?_) (fun h => ?_)
      | refine op_rem (d := some _) hG rfl rfl rfl rfl rfl rfl (by omega) ?_ | refine op_shr (d := some _) hG rfl rfl rfl rfl rfl rfl (by omega) ?_ | refine op_w (d := some _) hG rfl rfl rfl rfl (by omega) ?_ | refine op_wu (d := some _) hG rfl rfl rfl rfl (by omega) ?_ | refine op_w16 (d := some _) hG rfl rfl rfl rfl (by omega) ?_ | refine op_w8 (d := some _) hG rfl rfl rfl rfl (by omega) ?_
      | refine op_q (d := some _) hG rfl rfl rfl ?_)
    | refine al_s (d := some _) rfl rfl rfl ?_ | (refine al_nil ?_; show AW _ _ _ _ _ _) | refine aw_seq ?_ | refine aw_regL ?_ | refine aw_if_t rfl ?_ | refine aw_if_f rfl ?_
    | (refine aw_skip ?_; show AW _ _ _ _ _ _) | refine aw_block ?_ | (refine aw_exit ?_; show AW _ _ _ _ _ _) | (refine aw_goto ?_; try dsimp only [thenA, inBlockA, jumpA, noGotoA]) | (refine aw_ret ?_; try dsimp only [thenA, inBlockA, jumpA, noGotoA]))
  all_goals first | exact retA_true rfl | exact absurd rfl ‹¬ _›
end Go.Proofs.Ytjcfhhepnjmchaa
