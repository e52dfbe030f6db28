/- quota: the law QuotaForms, walked. -/
import Derived.Test.YtjcfhhepnjmchaaQ2
namespace Go.Proofs.Ytjcfhhepnjmchaa
open Go.Tr
attribute [local irreducible] Go.Tr.AW Go.Tr.AOps Go.Tr.AL Go.Tr.AOp Go.Tr.ACalls Go.Tr.DL
theorem qCostN (σ : St) (id k q : Int) (lv ps s i o u nx cats ring : T) (hq : 0 ≤ q ∧ q ≤ 10000) :
    ACalls Try.prog 19 [oT (.int .u64 id) (.int .i64 k) lv ps s i o (.int .i64 q) u nx .nilsl cats ring] σ (fun r σ' => r = .int .i64 (costE k q 0) ∧ Drop σ' σ) := by
  refine acalls_mk hG Try.func19 rfl rfl rfl rfl rfl ?_
  repeat' (first
    | (refine al_cons rfl ?_; first
      | refine op_m (d := some _) hG rfl rfl rfl rfl ?_
      | refine op_eqs (d := some _) hG rfl rfl rfl rfl ?_ | refine op_nes (d := some _) hG rfl rfl rfl rfl ?_ | refine op_beqs (d := some _) hG rfl rfl rfl rfl ?_
      | refine op_d (d := some _) hG rfl rfl rfl rfl (fun h => ?_) (fun h => ?_) | refine op_e (d := some _) hG rfl rfl rfl rfl (fun h => ?_) (fun h => ?_) | refine op_ne (d := some _) hG rfl rfl rfl rfl (fun h => ?_) (fun h => ?_) | refine op_beq (d := some _) hG rfl rfl rfl rfl (fun h => ?_) (fun h => ?_)
      | refine op_rem (d := some _) hG rfl rfl rfl rfl rfl rfl (by omega) ?_ | refine op_shr (d := some _) hG rfl rfl rfl rfl rfl rfl (by omega) ?_ | refine op_w (d := some _) hG rfl rfl rfl rfl (by omega) ?_ | refine op_wu (d := some _) hG rfl rfl rfl rfl (by omega) ?_ | refine op_w16 (d := some _) hG rfl rfl rfl rfl (by omega) ?_ | refine op_w8 (d := some _) hG rfl rfl rfl rfl (by omega) ?_
      | refine op_load (d := some _) hG rfl rfl (by assumption) (by exact rfl) rfl rfl ?_ | refine op_q (d := some _) hG rfl rfl rfl ?_)
    | refine al_s (d := some _) rfl rfl rfl ?_ | (refine al_nil ?_; show AW _ _ _ _ _ _) | refine aw_seq ?_ | refine aw_regL ?_ | refine aw_if_t rfl ?_ | refine aw_if_f rfl ?_
    | (refine aw_skip ?_; show AW _ _ _ _ _ _) | refine aw_block ?_ | (refine aw_exit ?_; show AW _ _ _ _ _ _) | (refine aw_goto ?_; try dsimp only [thenA, inBlockA, jumpA, noGotoA]) | (refine aw_ret ?_; try dsimp only [thenA, inBlockA, jumpA, noGotoA])
    | refine dl_cons rfl rfl (fun K kk => op_m (d := some _) hG rfl rfl rfl rfl kk) ?_
    | refine dl_cons rfl rfl (fun K kk => op_eqs (d := some _) hG rfl rfl rfl rfl kk) ?_ | refine dl_cons rfl rfl (fun K kk => op_nes (d := some _) hG rfl rfl rfl rfl kk) ?_ | refine dl_cons rfl rfl (fun K kk => op_beqs (d := some _) hG rfl rfl rfl rfl kk) ?_
    | refine dl_d rfl rfl (fun K kt kf => op_d (d := some _) hG rfl rfl rfl rfl kt kf) (fun h => ?_) (fun h => ?_) | refine dl_d rfl rfl (fun K kt kf => op_e (d := some _) hG rfl rfl rfl rfl kt kf) (fun h => ?_) (fun h => ?_) | refine dl_ne rfl rfl (fun K kt kf => op_ne (d := some _) hG rfl rfl rfl rfl kt kf) (fun h => ?_) (fun h => ?_) | refine dl_d rfl rfl (fun K kt kf => op_beq (d := some _) hG rfl rfl rfl rfl kt kf) (fun h => ?_) (fun h => ?_)
    | refine dl_cons rfl rfl (fun K kk => op_load (d := some _) hG rfl rfl (by assumption) (by exact rfl) rfl rfl kk) ?_ | refine dl_cons rfl rfl (fun K kk => op_q (d := some _) hG rfl rfl rfl kk) ?_
    | refine dl_s rfl rfl rfl ?_ | (refine dl_nil ?_; show AW _ _ _ _ _ _) | refine aw_draw mix rfl ?_)
  refine al_cons rfl (op_box' (d := some _) hG rfl rfl rfl rfl rfl (fun b1 σ1 n1 o1 p1 d1 => ?_))
  repeat' (first
    | (refine al_cons rfl ?_; first
      | refine op_m (d := some _) hG rfl rfl rfl rfl ?_
      | refine op_eqs (d := some _) hG rfl rfl rfl rfl ?_ | refine op_nes (d := some _) hG rfl rfl rfl rfl ?_ | refine op_beqs (d := some _) hG rfl rfl rfl rfl ?_
      | refine op_d (d := some _) hG rfl rfl rfl rfl (fun h => ?_) (fun h => ?_) | refine op_e (d := some _) hG rfl rfl rfl rfl (fun h => ?_) (fun h => ?_) | refine op_ne (d := some _) hG rfl rfl rfl rfl (fun h => ?_) (fun h => ?_) | refine op_beq (d := some _) hG rfl rfl rfl rfl (fun h => ?_) (fun h => ?_)
      | refine op_rem (d := some _) hG rfl rfl rfl rfl rfl rfl (by omega) ?_ | refine op_shr (d := some _) hG rfl rfl rfl rfl rfl rfl (by omega) ?_ | refine op_w (d := some _) hG rfl rfl rfl rfl (by omega) ?_ | refine op_wu (d := some _) hG rfl rfl rfl rfl (by omega) ?_ | refine op_w16 (d := some _) hG rfl rfl rfl rfl (by omega) ?_ | refine op_w8 (d := some _) hG rfl rfl rfl rfl (by omega) ?_
      | refine op_load (d := some _) hG rfl rfl (by assumption) (by exact rfl) rfl rfl ?_ | refine op_q (d := some _) hG rfl rfl rfl ?_)
    | refine al_s (d := some _) rfl rfl rfl ?_ | (refine al_nil ?_; show AW _ _ _ _ _ _) | refine aw_seq ?_ | refine aw_regL ?_ | refine aw_if_t rfl ?_ | refine aw_if_f rfl ?_
    | (refine aw_skip ?_; show AW _ _ _ _ _ _) | refine aw_block ?_ | (refine aw_exit ?_; show AW _ _ _ _ _ _) | (refine aw_goto ?_; try dsimp only [thenA, inBlockA, jumpA, noGotoA]) | (refine aw_ret ?_; try dsimp only [thenA, inBlockA, jumpA, noGotoA])
    | refine dl_cons rfl rfl (fun K kk => op_m (d := some _) hG rfl rfl rfl rfl kk) ?_
    | refine dl_cons rfl rfl (fun K kk => op_eqs (d := some _) hG rfl rfl rfl rfl kk) ?_ | refine dl_cons rfl rfl (fun K kk => op_nes (d := some _) hG rfl rfl rfl rfl kk) ?_ | refine dl_cons rfl rfl (fun K kk => op_beqs (d := some _) hG rfl rfl rfl rfl kk) ?_
    | refine dl_d rfl rfl (fun K kt kf => op_d (d := some _) hG rfl rfl rfl rfl kt kf) (fun h => ?_) (fun h => ?_) | refine dl_d rfl rfl (fun K kt kf => op_e (d := some _) hG rfl rfl rfl rfl kt kf) (fun h => ?_) (fun h => ?_) | refine dl_ne rfl rfl (fun K kt kf => op_ne (d := some _) hG rfl rfl rfl rfl kt kf) (fun h => ?_) (fun h => ?_) | refine dl_d rfl rfl (fun K kt kf => op_beq (d := some _) hG rfl rfl rfl rfl kt kf) (fun h => ?_) (fun h => ?_)
    | refine dl_cons rfl rfl (fun K kk => op_load (d := some _) hG rfl rfl (by assumption) (by exact rfl) rfl rfl kk) ?_ | refine dl_cons rfl rfl (fun K kk => op_q (d := some _) hG rfl rfl rfl kk) ?_
    | refine dl_s rfl rfl rfl ?_ | (refine dl_nil ?_; show AW _ _ _ _ _ _) | refine aw_draw mix rfl ?_)
  all_goals first
    | (refine aw_ret' _ rfl (Wk.refl _) ⟨?_, d1⟩; unfold costE; (repeat' split) <;> first | rfl | omega | (congr 1; omega) | skip)
set_option maxHeartbeats 8000000 in
theorem quotaForms_law (W : World) : ACalls Try.prog 5 [] (σ0 W) (fun r _ => r = .bool true) := by
  generalize σ0 W = σ
  refine acalls_mk hG Try.func5 rfl rfl rfl rfl rfl ?_
  repeat' (first
    | (refine al_cons rfl ?_; first
      | refine op_m (d := some _) hG rfl rfl rfl rfl ?_
      | refine op_eqs (d := some _) hG rfl rfl rfl rfl ?_ | refine op_nes (d := some _) hG rfl rfl rfl rfl ?_ | refine op_beqs (d := some _) hG rfl rfl rfl rfl ?_
      | refine op_d (d := some _) hG rfl rfl rfl rfl (fun h => ?_) (fun h => ?_) | refine op_e (d := some _) hG rfl rfl rfl rfl (fun h => ?_) (fun h => ?_) | refine op_ne (d := some _) hG rfl rfl rfl rfl (fun h => ?_) (fun h => ?_) | refine op_beq (d := some _) hG rfl rfl rfl rfl (fun h => ?_) (fun h => ?_)
      | refine op_rem (d := some _) hG rfl rfl rfl rfl rfl rfl (by omega) ?_ | refine op_shr (d := some _) hG rfl rfl rfl rfl rfl rfl (by omega) ?_ | refine op_w (d := some _) hG rfl rfl rfl rfl (by omega) ?_ | refine op_wu (d := some _) hG rfl rfl rfl rfl (by omega) ?_ | refine op_w16 (d := some _) hG rfl rfl rfl rfl (by omega) ?_ | refine op_w8 (d := some _) hG rfl rfl rfl rfl (by omega) ?_
      | refine op_load (d := some _) hG rfl rfl (by assumption) (by exact rfl) rfl rfl ?_ | refine op_q (d := some _) hG rfl rfl rfl ?_)
    | refine al_s (d := some _) rfl rfl rfl ?_ | (refine al_nil ?_; show AW _ _ _ _ _ _) | refine aw_seq ?_ | refine aw_regL ?_ | refine aw_if_t rfl ?_ | refine aw_if_f rfl ?_
    | (refine aw_skip ?_; show AW _ _ _ _ _ _) | refine aw_block ?_ | (refine aw_exit ?_; show AW _ _ _ _ _ _) | (refine aw_goto ?_; try dsimp only [thenA, inBlockA, jumpA, noGotoA]) | (refine aw_ret ?_; try dsimp only [thenA, inBlockA, jumpA, noGotoA])
    | refine dl_cons rfl rfl (fun K kk => op_m (d := some _) hG rfl rfl rfl rfl kk) ?_
    | refine dl_cons rfl rfl (fun K kk => op_eqs (d := some _) hG rfl rfl rfl rfl kk) ?_ | refine dl_cons rfl rfl (fun K kk => op_nes (d := some _) hG rfl rfl rfl rfl kk) ?_ | refine dl_cons rfl rfl (fun K kk => op_beqs (d := some _) hG rfl rfl rfl rfl kk) ?_
    | refine dl_d rfl rfl (fun K kt kf => op_d (d := some _) hG rfl rfl rfl rfl kt kf) (fun h => ?_) (fun h => ?_) | refine dl_d rfl rfl (fun K kt kf => op_e (d := some _) hG rfl rfl rfl rfl kt kf) (fun h => ?_) (fun h => ?_) | refine dl_ne rfl rfl (fun K kt kf => op_ne (d := some _) hG rfl rfl rfl rfl kt kf) (fun h => ?_) (fun h => ?_) | refine dl_d rfl rfl (fun K kt kf => op_beq (d := some _) hG rfl rfl rfl rfl kt kf) (fun h => ?_) (fun h => ?_)
    | refine dl_cons rfl rfl (fun K kk => op_load (d := some _) hG rfl rfl (by assumption) (by exact rfl) rfl rfl kk) ?_ | refine dl_cons rfl rfl (fun K kk => op_q (d := some _) hG rfl rfl rfl kk) ?_
    | refine dl_s rfl rfl rfl ?_ | (refine dl_nil ?_; show AW _ _ _ _ _ _) | refine aw_draw mix rfl ?_)
  refine al_cons rfl (op_call (d := some _) rfl rfl rfl rfl rfl ?_)
  refine (q_begun σ).dropped ?_
  repeat' (first
    | (refine al_cons rfl ?_; first
      | refine op_m (d := some _) hG rfl rfl rfl rfl ?_
      | refine op_eqs (d := some _) hG rfl rfl rfl rfl ?_ | refine op_nes (d := some _) hG rfl rfl rfl rfl ?_ | refine op_beqs (d := some _) hG rfl rfl rfl rfl ?_
      | refine op_d (d := some _) hG rfl rfl rfl rfl (fun h => ?_) (fun h => ?_) | refine op_e (d := some _) hG rfl rfl rfl rfl (fun h => ?_) (fun h => ?_) | refine op_ne (d := some _) hG rfl rfl rfl rfl (fun h => ?_) (fun h => ?_) | refine op_beq (d := some _) hG rfl rfl rfl rfl (fun h => ?_) (fun h => ?_)
      | refine op_rem (d := some _) hG rfl rfl rfl rfl rfl rfl (by omega) ?_ | refine op_shr (d := some _) hG rfl rfl rfl rfl rfl rfl (by omega) ?_ | refine op_w (d := some _) hG rfl rfl rfl rfl (by omega) ?_ | refine op_wu (d := some _) hG rfl rfl rfl rfl (by omega) ?_ | refine op_w16 (d := some _) hG rfl rfl rfl rfl (by omega) ?_ | refine op_w8 (d := some _) hG rfl rfl rfl rfl (by omega) ?_
      | refine op_load (d := some _) hG rfl rfl (by assumption) (by exact rfl) rfl rfl ?_ | refine op_q (d := some _) hG rfl rfl rfl ?_)
    | refine al_s (d := some _) rfl rfl rfl ?_ | (refine al_nil ?_; show AW _ _ _ _ _ _) | refine aw_seq ?_ | refine aw_regL ?_ | refine aw_if_t rfl ?_ | refine aw_if_f rfl ?_
    | (refine aw_skip ?_; show AW _ _ _ _ _ _) | refine aw_block ?_ | (refine aw_exit ?_; show AW _ _ _ _ _ _) | (refine aw_goto ?_; try dsimp only [thenA, inBlockA, jumpA, noGotoA]) | (refine aw_ret ?_; try dsimp only [thenA, inBlockA, jumpA, noGotoA])
    | refine dl_cons rfl rfl (fun K kk => op_m (d := some _) hG rfl rfl rfl rfl kk) ?_
    | refine dl_cons rfl rfl (fun K kk => op_eqs (d := some _) hG rfl rfl rfl rfl kk) ?_ | refine dl_cons rfl rfl (fun K kk => op_nes (d := some _) hG rfl rfl rfl rfl kk) ?_ | refine dl_cons rfl rfl (fun K kk => op_beqs (d := some _) hG rfl rfl rfl rfl kk) ?_
    | refine dl_d rfl rfl (fun K kt kf => op_d (d := some _) hG rfl rfl rfl rfl kt kf) (fun h => ?_) (fun h => ?_) | refine dl_d rfl rfl (fun K kt kf => op_e (d := some _) hG rfl rfl rfl rfl kt kf) (fun h => ?_) (fun h => ?_) | refine dl_ne rfl rfl (fun K kt kf => op_ne (d := some _) hG rfl rfl rfl rfl kt kf) (fun h => ?_) (fun h => ?_) | refine dl_d rfl rfl (fun K kt kf => op_beq (d := some _) hG rfl rfl rfl rfl kt kf) (fun h => ?_) (fun h => ?_)
    | refine dl_cons rfl rfl (fun K kk => op_load (d := some _) hG rfl rfl (by assumption) (by exact rfl) rfl rfl kk) ?_ | refine dl_cons rfl rfl (fun K kk => op_q (d := some _) hG rfl rfl rfl kk) ?_
    | refine dl_s rfl rfl rfl ?_ | (refine dl_nil ?_; show AW _ _ _ _ _ _) | refine aw_draw mix rfl ?_)
  refine al_cons rfl (op_build (d := some _) hG rfl rfl rfl rfl rfl rfl rfl ?_)
  repeat' (first
    | (refine al_cons rfl ?_; first
      | refine op_m (d := some _) hG rfl rfl rfl rfl ?_
      | refine op_eqs (d := some _) hG rfl rfl rfl rfl ?_ | refine op_nes (d := some _) hG rfl rfl rfl rfl ?_ | refine op_beqs (d := some _) hG rfl rfl rfl rfl ?_
      | refine op_d (d := some _) hG rfl rfl rfl rfl (fun h => ?_) (fun h => ?_) | refine op_e (d := some _) hG rfl rfl rfl rfl (fun h => ?_) (fun h => ?_) | refine op_ne (d := some _) hG rfl rfl rfl rfl (fun h => ?_) (fun h => ?_) | refine op_beq (d := some _) hG rfl rfl rfl rfl (fun h => ?_) (fun h => ?_)
      | refine op_rem (d := some _) hG rfl rfl rfl rfl rfl rfl (by omega) ?_ | refine op_shr (d := some _) hG rfl rfl rfl rfl rfl rfl (by omega) ?_ | refine op_w (d := some _) hG rfl rfl rfl rfl (by omega) ?_ | refine op_wu (d := some _) hG rfl rfl rfl rfl (by omega) ?_ | refine op_w16 (d := some _) hG rfl rfl rfl rfl (by omega) ?_ | refine op_w8 (d := some _) hG rfl rfl rfl rfl (by omega) ?_
      | refine op_load (d := some _) hG rfl rfl (by assumption) (by exact rfl) rfl rfl ?_ | refine op_q (d := some _) hG rfl rfl rfl ?_)
    | refine al_s (d := some _) rfl rfl rfl ?_ | (refine al_nil ?_; show AW _ _ _ _ _ _) | refine aw_seq ?_ | refine aw_regL ?_ | refine aw_if_t rfl ?_ | refine aw_if_f rfl ?_
    | (refine aw_skip ?_; show AW _ _ _ _ _ _) | refine aw_block ?_ | (refine aw_exit ?_; show AW _ _ _ _ _ _) | (refine aw_goto ?_; try dsimp only [thenA, inBlockA, jumpA, noGotoA]) | (refine aw_ret ?_; try dsimp only [thenA, inBlockA, jumpA, noGotoA])
    | refine dl_cons rfl rfl (fun K kk => op_m (d := some _) hG rfl rfl rfl rfl kk) ?_
    | refine dl_cons rfl rfl (fun K kk => op_eqs (d := some _) hG rfl rfl rfl rfl kk) ?_ | refine dl_cons rfl rfl (fun K kk => op_nes (d := some _) hG rfl rfl rfl rfl kk) ?_ | refine dl_cons rfl rfl (fun K kk => op_beqs (d := some _) hG rfl rfl rfl rfl kk) ?_
    | refine dl_d rfl rfl (fun K kt kf => op_d (d := some _) hG rfl rfl rfl rfl kt kf) (fun h => ?_) (fun h => ?_) | refine dl_d rfl rfl (fun K kt kf => op_e (d := some _) hG rfl rfl rfl rfl kt kf) (fun h => ?_) (fun h => ?_) | refine dl_ne rfl rfl (fun K kt kf => op_ne (d := some _) hG rfl rfl rfl rfl kt kf) (fun h => ?_) (fun h => ?_) | refine dl_d rfl rfl (fun K kt kf => op_beq (d := some _) hG rfl rfl rfl rfl kt kf) (fun h => ?_) (fun h => ?_)
    | refine dl_cons rfl rfl (fun K kk => op_load (d := some _) hG rfl rfl (by assumption) (by exact rfl) rfl rfl kk) ?_ | refine dl_cons rfl rfl (fun K kk => op_q (d := some _) hG rfl rfl rfl kk) ?_
    | refine dl_s rfl rfl rfl ?_ | (refine dl_nil ?_; show AW _ _ _ _ _ _) | refine aw_draw mix rfl ?_)
  refine al_cons rfl (op_alloc' (d := some _) hG rfl rfl rfl rfl (fun b1 σ1 n1 o1 p1 d1 => ?_))
  repeat' (first
    | (refine al_cons rfl ?_; first
      | refine op_m (d := some _) hG rfl rfl rfl rfl ?_
      | refine op_eqs (d := some _) hG rfl rfl rfl rfl ?_ | refine op_nes (d := some _) hG rfl rfl rfl rfl ?_ | refine op_beqs (d := some _) hG rfl rfl rfl rfl ?_
      | refine op_d (d := some _) hG rfl rfl rfl rfl (fun h => ?_) (fun h => ?_) | refine op_e (d := some _) hG rfl rfl rfl rfl (fun h => ?_) (fun h => ?_) | refine op_ne (d := some _) hG rfl rfl rfl rfl (fun h => ?_) (fun h => ?_) | refine op_beq (d := some _) hG rfl rfl rfl rfl (fun h => ?_) (fun h => ?_)
      | refine op_rem (d := some _) hG rfl rfl rfl rfl rfl rfl (by omega) ?_ | refine op_shr (d := some _) hG rfl rfl rfl rfl rfl rfl (by omega) ?_ | refine op_w (d := some _) hG rfl rfl rfl rfl (by omega) ?_ | refine op_wu (d := some _) hG rfl rfl rfl rfl (by omega) ?_ | refine op_w16 (d := some _) hG rfl rfl rfl rfl (by omega) ?_ | refine op_w8 (d := some _) hG rfl rfl rfl rfl (by omega) ?_
      | refine op_load (d := some _) hG rfl rfl (by assumption) (by exact rfl) rfl rfl ?_ | refine op_q (d := some _) hG rfl rfl rfl ?_)
    | refine al_s (d := some _) rfl rfl rfl ?_ | (refine al_nil ?_; show AW _ _ _ _ _ _) | refine aw_seq ?_ | refine aw_regL ?_ | refine aw_if_t rfl ?_ | refine aw_if_f rfl ?_
    | (refine aw_skip ?_; show AW _ _ _ _ _ _) | refine aw_block ?_ | (refine aw_exit ?_; show AW _ _ _ _ _ _) | (refine aw_goto ?_; try dsimp only [thenA, inBlockA, jumpA, noGotoA]) | (refine aw_ret ?_; try dsimp only [thenA, inBlockA, jumpA, noGotoA])
    | refine dl_cons rfl rfl (fun K kk => op_m (d := some _) hG rfl rfl rfl rfl kk) ?_
    | refine dl_cons rfl rfl (fun K kk => op_eqs (d := some _) hG rfl rfl rfl rfl kk) ?_ | refine dl_cons rfl rfl (fun K kk => op_nes (d := some _) hG rfl rfl rfl rfl kk) ?_ | refine dl_cons rfl rfl (fun K kk => op_beqs (d := some _) hG rfl rfl rfl rfl kk) ?_
    | refine dl_d rfl rfl (fun K kt kf => op_d (d := some _) hG rfl rfl rfl rfl kt kf) (fun h => ?_) (fun h => ?_) | refine dl_d rfl rfl (fun K kt kf => op_e (d := some _) hG rfl rfl rfl rfl kt kf) (fun h => ?_) (fun h => ?_) | refine dl_ne rfl rfl (fun K kt kf => op_ne (d := some _) hG rfl rfl rfl rfl kt kf) (fun h => ?_) (fun h => ?_) | refine dl_d rfl rfl (fun K kt kf => op_beq (d := some _) hG rfl rfl rfl rfl kt kf) (fun h => ?_) (fun h => ?_)
    | refine dl_cons rfl rfl (fun K kk => op_load (d := some _) hG rfl rfl (by assumption) (by exact rfl) rfl rfl kk) ?_ | refine dl_cons rfl rfl (fun K kk => op_q (d := some _) hG rfl rfl rfl kk) ?_
    | refine dl_s rfl rfl rfl ?_ | (refine dl_nil ?_; show AW _ _ _ _ _ _) | refine aw_draw mix rfl ?_)
  refine al_cons rfl (op_store' hG rfl rfl rfl (by assumption) (by exact rfl) (by exact rfl) (by exact rfl) (by exact rfl) rfl (fun σ2 o2 p2 d2 => ?_))
  replace o2 : σ2.objs b1 = some (.cells (objB 0 1 10 3).cells) := o2
  clear p1 p2 d1 d2 o1
  repeat' (first
    | (refine al_cons rfl ?_; first
      | refine op_m (d := some _) hG rfl rfl rfl rfl ?_
      | refine op_eqs (d := some _) hG rfl rfl rfl rfl ?_ | refine op_nes (d := some _) hG rfl rfl rfl rfl ?_ | refine op_beqs (d := some _) hG rfl rfl rfl rfl ?_
      | refine op_d (d := some _) hG rfl rfl rfl rfl (fun h => ?_) (fun h => ?_) | refine op_e (d := some _) hG rfl rfl rfl rfl (fun h => ?_) (fun h => ?_) | refine op_ne (d := some _) hG rfl rfl rfl rfl (fun h => ?_) (fun h => ?_) | refine op_beq (d := some _) hG rfl rfl rfl rfl (fun h => ?_) (fun h => ?_)
      | refine op_rem (d := some _) hG rfl rfl rfl rfl rfl rfl (by omega) ?_ | refine op_shr (d := some _) hG rfl rfl rfl rfl rfl rfl (by omega) ?_ | refine op_w (d := some _) hG rfl rfl rfl rfl (by omega) ?_ | refine op_wu (d := some _) hG rfl rfl rfl rfl (by omega) ?_ | refine op_w16 (d := some _) hG rfl rfl rfl rfl (by omega) ?_ | refine op_w8 (d := some _) hG rfl rfl rfl rfl (by omega) ?_
      | refine op_load (d := some _) hG rfl rfl (by assumption) (by exact rfl) rfl rfl ?_ | refine op_q (d := some _) hG rfl rfl rfl ?_)
    | refine al_s (d := some _) rfl rfl rfl ?_ | (refine al_nil ?_; show AW _ _ _ _ _ _) | refine aw_seq ?_ | refine aw_regL ?_ | refine aw_if_t rfl ?_ | refine aw_if_f rfl ?_
    | (refine aw_skip ?_; show AW _ _ _ _ _ _) | refine aw_block ?_ | (refine aw_exit ?_; show AW _ _ _ _ _ _) | (refine aw_goto ?_; try dsimp only [thenA, inBlockA, jumpA, noGotoA]) | (refine aw_ret ?_; try dsimp only [thenA, inBlockA, jumpA, noGotoA])
    | refine dl_cons rfl rfl (fun K kk => op_m (d := some _) hG rfl rfl rfl rfl kk) ?_
    | refine dl_cons rfl rfl (fun K kk => op_eqs (d := some _) hG rfl rfl rfl rfl kk) ?_ | refine dl_cons rfl rfl (fun K kk => op_nes (d := some _) hG rfl rfl rfl rfl kk) ?_ | refine dl_cons rfl rfl (fun K kk => op_beqs (d := some _) hG rfl rfl rfl rfl kk) ?_
    | refine dl_d rfl rfl (fun K kt kf => op_d (d := some _) hG rfl rfl rfl rfl kt kf) (fun h => ?_) (fun h => ?_) | refine dl_d rfl rfl (fun K kt kf => op_e (d := some _) hG rfl rfl rfl rfl kt kf) (fun h => ?_) (fun h => ?_) | refine dl_ne rfl rfl (fun K kt kf => op_ne (d := some _) hG rfl rfl rfl rfl kt kf) (fun h => ?_) (fun h => ?_) | refine dl_d rfl rfl (fun K kt kf => op_beq (d := some _) hG rfl rfl rfl rfl kt kf) (fun h => ?_) (fun h => ?_)
    | refine dl_cons rfl rfl (fun K kk => op_load (d := some _) hG rfl rfl (by assumption) (by exact rfl) rfl rfl kk) ?_ | refine dl_cons rfl rfl (fun K kk => op_q (d := some _) hG rfl rfl rfl kk) ?_
    | refine dl_s rfl rfl rfl ?_ | (refine dl_nil ?_; show AW _ _ _ _ _ _) | refine aw_draw mix rfl ?_)
  refine al_cons rfl (op_call (d := some _) rfl rfl rfl rfl rfl ?_)
  refine (qAdd σ2 0 1 10 3 7 (by omega) (by omega)).dropped ?_
  rw [show addE 0 1 10 3 7 = (objB 0 1 10 10, 0) from rfl]
  dsimp only
  repeat' (first
    | (refine al_cons rfl ?_; first
      | refine op_m (d := some _) hG rfl rfl rfl rfl ?_
      | refine op_eqs (d := some _) hG rfl rfl rfl rfl ?_ | refine op_nes (d := some _) hG rfl rfl rfl rfl ?_ | refine op_beqs (d := some _) hG rfl rfl rfl rfl ?_
      | refine op_d (d := some _) hG rfl rfl rfl rfl (fun h => ?_) (fun h => ?_) | refine op_e (d := some _) hG rfl rfl rfl rfl (fun h => ?_) (fun h => ?_) | refine op_ne (d := some _) hG rfl rfl rfl rfl (fun h => ?_) (fun h => ?_) | refine op_beq (d := some _) hG rfl rfl rfl rfl (fun h => ?_) (fun h => ?_)
      | refine op_rem (d := some _) hG rfl rfl rfl rfl rfl rfl (by omega) ?_ | refine op_shr (d := some _) hG rfl rfl rfl rfl rfl rfl (by omega) ?_ | refine op_w (d := some _) hG rfl rfl rfl rfl (by omega) ?_ | refine op_wu (d := some _) hG rfl rfl rfl rfl (by omega) ?_ | refine op_w16 (d := some _) hG rfl rfl rfl rfl (by omega) ?_ | refine op_w8 (d := some _) hG rfl rfl rfl rfl (by omega) ?_
      | refine op_load (d := some _) hG rfl rfl (by assumption) (by exact rfl) rfl rfl ?_ | refine op_q (d := some _) hG rfl rfl rfl ?_)
    | refine al_s (d := some _) rfl rfl rfl ?_ | (refine al_nil ?_; show AW _ _ _ _ _ _) | refine aw_seq ?_ | refine aw_regL ?_ | refine aw_if_t rfl ?_ | refine aw_if_f rfl ?_
    | (refine aw_skip ?_; show AW _ _ _ _ _ _) | refine aw_block ?_ | (refine aw_exit ?_; show AW _ _ _ _ _ _) | (refine aw_goto ?_; try dsimp only [thenA, inBlockA, jumpA, noGotoA]) | (refine aw_ret ?_; try dsimp only [thenA, inBlockA, jumpA, noGotoA])
    | refine dl_cons rfl rfl (fun K kk => op_m (d := some _) hG rfl rfl rfl rfl kk) ?_
    | refine dl_cons rfl rfl (fun K kk => op_eqs (d := some _) hG rfl rfl rfl rfl kk) ?_ | refine dl_cons rfl rfl (fun K kk => op_nes (d := some _) hG rfl rfl rfl rfl kk) ?_ | refine dl_cons rfl rfl (fun K kk => op_beqs (d := some _) hG rfl rfl rfl rfl kk) ?_
    | refine dl_d rfl rfl (fun K kt kf => op_d (d := some _) hG rfl rfl rfl rfl kt kf) (fun h => ?_) (fun h => ?_) | refine dl_d rfl rfl (fun K kt kf => op_e (d := some _) hG rfl rfl rfl rfl kt kf) (fun h => ?_) (fun h => ?_) | refine dl_ne rfl rfl (fun K kt kf => op_ne (d := some _) hG rfl rfl rfl rfl kt kf) (fun h => ?_) (fun h => ?_) | refine dl_d rfl rfl (fun K kt kf => op_beq (d := some _) hG rfl rfl rfl rfl kt kf) (fun h => ?_) (fun h => ?_)
    | refine dl_cons rfl rfl (fun K kk => op_load (d := some _) hG rfl rfl (by assumption) (by exact rfl) rfl rfl kk) ?_ | refine dl_cons rfl rfl (fun K kk => op_q (d := some _) hG rfl rfl rfl kk) ?_
    | refine dl_s rfl rfl rfl ?_ | (refine dl_nil ?_; show AW _ _ _ _ _ _) | refine aw_draw mix rfl ?_)
  refine al_cons rfl (op_alloc' (d := some _) hG rfl rfl rfl rfl (fun b3 σ3 n3 o3 p3 d3 => ?_))
  have ne_b1_3 : b1 ≠ b3 := by intro e; subst e; rw [o2] at n3; cases n3
  replace o2 := p3 _ _ o2
  repeat' (first
    | (refine al_cons rfl ?_; first
      | refine op_m (d := some _) hG rfl rfl rfl rfl ?_
      | refine op_eqs (d := some _) hG rfl rfl rfl rfl ?_ | refine op_nes (d := some _) hG rfl rfl rfl rfl ?_ | refine op_beqs (d := some _) hG rfl rfl rfl rfl ?_
      | refine op_d (d := some _) hG rfl rfl rfl rfl (fun h => ?_) (fun h => ?_) | refine op_e (d := some _) hG rfl rfl rfl rfl (fun h => ?_) (fun h => ?_) | refine op_ne (d := some _) hG rfl rfl rfl rfl (fun h => ?_) (fun h => ?_) | refine op_beq (d := some _) hG rfl rfl rfl rfl (fun h => ?_) (fun h => ?_)
      | refine op_rem (d := some _) hG rfl rfl rfl rfl rfl rfl (by omega) ?_ | refine op_shr (d := some _) hG rfl rfl rfl rfl rfl rfl (by omega) ?_ | refine op_w (d := some _) hG rfl rfl rfl rfl (by omega) ?_ | refine op_wu (d := some _) hG rfl rfl rfl rfl (by omega) ?_ | refine op_w16 (d := some _) hG rfl rfl rfl rfl (by omega) ?_ | refine op_w8 (d := some _) hG rfl rfl rfl rfl (by omega) ?_
      | refine op_load (d := some _) hG rfl rfl (by assumption) (by exact rfl) rfl rfl ?_ | refine op_q (d := some _) hG rfl rfl rfl ?_)
    | refine al_s (d := some _) rfl rfl rfl ?_ | (refine al_nil ?_; show AW _ _ _ _ _ _) | refine aw_seq ?_ | refine aw_regL ?_ | refine aw_if_t rfl ?_ | refine aw_if_f rfl ?_
    | (refine aw_skip ?_; show AW _ _ _ _ _ _) | refine aw_block ?_ | (refine aw_exit ?_; show AW _ _ _ _ _ _) | (refine aw_goto ?_; try dsimp only [thenA, inBlockA, jumpA, noGotoA]) | (refine aw_ret ?_; try dsimp only [thenA, inBlockA, jumpA, noGotoA])
    | refine dl_cons rfl rfl (fun K kk => op_m (d := some _) hG rfl rfl rfl rfl kk) ?_
    | refine dl_cons rfl rfl (fun K kk => op_eqs (d := some _) hG rfl rfl rfl rfl kk) ?_ | refine dl_cons rfl rfl (fun K kk => op_nes (d := some _) hG rfl rfl rfl rfl kk) ?_ | refine dl_cons rfl rfl (fun K kk => op_beqs (d := some _) hG rfl rfl rfl rfl kk) ?_
    | refine dl_d rfl rfl (fun K kt kf => op_d (d := some _) hG rfl rfl rfl rfl kt kf) (fun h => ?_) (fun h => ?_) | refine dl_d rfl rfl (fun K kt kf => op_e (d := some _) hG rfl rfl rfl rfl kt kf) (fun h => ?_) (fun h => ?_) | refine dl_ne rfl rfl (fun K kt kf => op_ne (d := some _) hG rfl rfl rfl rfl kt kf) (fun h => ?_) (fun h => ?_) | refine dl_d rfl rfl (fun K kt kf => op_beq (d := some _) hG rfl rfl rfl rfl kt kf) (fun h => ?_) (fun h => ?_)
    | refine dl_cons rfl rfl (fun K kk => op_load (d := some _) hG rfl rfl (by assumption) (by exact rfl) rfl rfl kk) ?_ | refine dl_cons rfl rfl (fun K kk => op_q (d := some _) hG rfl rfl rfl kk) ?_
    | refine dl_s rfl rfl rfl ?_ | (refine dl_nil ?_; show AW _ _ _ _ _ _) | refine aw_draw mix rfl ?_)
  refine al_cons rfl (op_store' hG rfl rfl rfl (by assumption) (by exact rfl) (by exact rfl) (by exact rfl) (by exact rfl) rfl (fun σ4 o4 p4 d4 => ?_))
  replace o2 := (p4 _ ne_b1_3).trans o2
  replace o4 : σ4.objs b3 = some (.cells (objB 0 1 10 10).cells) := o4
  clear p3 p4 d3 d4 o3
  repeat' (first
    | (refine al_cons rfl ?_; first
      | refine op_m (d := some _) hG rfl rfl rfl rfl ?_
      | refine op_eqs (d := some _) hG rfl rfl rfl rfl ?_ | refine op_nes (d := some _) hG rfl rfl rfl rfl ?_ | refine op_beqs (d := some _) hG rfl rfl rfl rfl ?_
      | refine op_d (d := some _) hG rfl rfl rfl rfl (fun h => ?_) (fun h => ?_) | refine op_e (d := some _) hG rfl rfl rfl rfl (fun h => ?_) (fun h => ?_) | refine op_ne (d := some _) hG rfl rfl rfl rfl (fun h => ?_) (fun h => ?_) | refine op_beq (d := some _) hG rfl rfl rfl rfl (fun h => ?_) (fun h => ?_)
      | refine op_rem (d := some _) hG rfl rfl rfl rfl rfl rfl (by omega) ?_ | refine op_shr (d := some _) hG rfl rfl rfl rfl rfl rfl (by omega) ?_ | refine op_w (d := some _) hG rfl rfl rfl rfl (by omega) ?_ | refine op_wu (d := some _) hG rfl rfl rfl rfl (by omega) ?_ | refine op_w16 (d := some _) hG rfl rfl rfl rfl (by omega) ?_ | refine op_w8 (d := some _) hG rfl rfl rfl rfl (by omega) ?_
      | refine op_load (d := some _) hG rfl rfl (by assumption) (by exact rfl) rfl rfl ?_ | refine op_q (d := some _) hG rfl rfl rfl ?_)
    | refine al_s (d := some _) rfl rfl rfl ?_ | (refine al_nil ?_; show AW _ _ _ _ _ _) | refine aw_seq ?_ | refine aw_regL ?_ | refine aw_if_t rfl ?_ | refine aw_if_f rfl ?_
    | (refine aw_skip ?_; show AW _ _ _ _ _ _) | refine aw_block ?_ | (refine aw_exit ?_; show AW _ _ _ _ _ _) | (refine aw_goto ?_; try dsimp only [thenA, inBlockA, jumpA, noGotoA]) | (refine aw_ret ?_; try dsimp only [thenA, inBlockA, jumpA, noGotoA])
    | refine dl_cons rfl rfl (fun K kk => op_m (d := some _) hG rfl rfl rfl rfl kk) ?_
    | refine dl_cons rfl rfl (fun K kk => op_eqs (d := some _) hG rfl rfl rfl rfl kk) ?_ | refine dl_cons rfl rfl (fun K kk => op_nes (d := some _) hG rfl rfl rfl rfl kk) ?_ | refine dl_cons rfl rfl (fun K kk => op_beqs (d := some _) hG rfl rfl rfl rfl kk) ?_
    | refine dl_d rfl rfl (fun K kt kf => op_d (d := some _) hG rfl rfl rfl rfl kt kf) (fun h => ?_) (fun h => ?_) | refine dl_d rfl rfl (fun K kt kf => op_e (d := some _) hG rfl rfl rfl rfl kt kf) (fun h => ?_) (fun h => ?_) | refine dl_ne rfl rfl (fun K kt kf => op_ne (d := some _) hG rfl rfl rfl rfl kt kf) (fun h => ?_) (fun h => ?_) | refine dl_d rfl rfl (fun K kt kf => op_beq (d := some _) hG rfl rfl rfl rfl kt kf) (fun h => ?_) (fun h => ?_)
    | refine dl_cons rfl rfl (fun K kk => op_load (d := some _) hG rfl rfl (by assumption) (by exact rfl) rfl rfl kk) ?_ | refine dl_cons rfl rfl (fun K kk => op_q (d := some _) hG rfl rfl rfl kk) ?_
    | refine dl_s rfl rfl rfl ?_ | (refine dl_nil ?_; show AW _ _ _ _ _ _) | refine aw_draw mix rfl ?_)
  refine al_cons rfl (op_call (d := some _) rfl rfl rfl rfl rfl ?_)
  refine (qAdd σ4 0 1 10 3 8 (by omega) (by omega)).dropped ?_
  rw [show addE 0 1 10 3 8 = (objB 0 0 0 0, 10) from rfl]
  dsimp only
  repeat' (first
    | (refine al_cons rfl ?_; first
      | refine op_m (d := some _) hG rfl rfl rfl rfl ?_
      | refine op_eqs (d := some _) hG rfl rfl rfl rfl ?_ | refine op_nes (d := some _) hG rfl rfl rfl rfl ?_ | refine op_beqs (d := some _) hG rfl rfl rfl rfl ?_
      | refine op_d (d := some _) hG rfl rfl rfl rfl (fun h => ?_) (fun h => ?_) | refine op_e (d := some _) hG rfl rfl rfl rfl (fun h => ?_) (fun h => ?_) | refine op_ne (d := some _) hG rfl rfl rfl rfl (fun h => ?_) (fun h => ?_) | refine op_beq (d := some _) hG rfl rfl rfl rfl (fun h => ?_) (fun h => ?_)
      | refine op_rem (d := some _) hG rfl rfl rfl rfl rfl rfl (by omega) ?_ | refine op_shr (d := some _) hG rfl rfl rfl rfl rfl rfl (by omega) ?_ | refine op_w (d := some _) hG rfl rfl rfl rfl (by omega) ?_ | refine op_wu (d := some _) hG rfl rfl rfl rfl (by omega) ?_ | refine op_w16 (d := some _) hG rfl rfl rfl rfl (by omega) ?_ | refine op_w8 (d := some _) hG rfl rfl rfl rfl (by omega) ?_
      | refine op_load (d := some _) hG rfl rfl (by assumption) (by exact rfl) rfl rfl ?_ | refine op_q (d := some _) hG rfl rfl rfl ?_)
    | refine al_s (d := some _) rfl rfl rfl ?_ | (refine al_nil ?_; show AW _ _ _ _ _ _) | refine aw_seq ?_ | refine aw_regL ?_ | refine aw_if_t rfl ?_ | refine aw_if_f rfl ?_
    | (refine aw_skip ?_; show AW _ _ _ _ _ _) | refine aw_block ?_ | (refine aw_exit ?_; show AW _ _ _ _ _ _) | (refine aw_goto ?_; try dsimp only [thenA, inBlockA, jumpA, noGotoA]) | (refine aw_ret ?_; try dsimp only [thenA, inBlockA, jumpA, noGotoA])
    | refine dl_cons rfl rfl (fun K kk => op_m (d := some _) hG rfl rfl rfl rfl kk) ?_
    | refine dl_cons rfl rfl (fun K kk => op_eqs (d := some _) hG rfl rfl rfl rfl kk) ?_ | refine dl_cons rfl rfl (fun K kk => op_nes (d := some _) hG rfl rfl rfl rfl kk) ?_ | refine dl_cons rfl rfl (fun K kk => op_beqs (d := some _) hG rfl rfl rfl rfl kk) ?_
    | refine dl_d rfl rfl (fun K kt kf => op_d (d := some _) hG rfl rfl rfl rfl kt kf) (fun h => ?_) (fun h => ?_) | refine dl_d rfl rfl (fun K kt kf => op_e (d := some _) hG rfl rfl rfl rfl kt kf) (fun h => ?_) (fun h => ?_) | refine dl_ne rfl rfl (fun K kt kf => op_ne (d := some _) hG rfl rfl rfl rfl kt kf) (fun h => ?_) (fun h => ?_) | refine dl_d rfl rfl (fun K kt kf => op_beq (d := some _) hG rfl rfl rfl rfl kt kf) (fun h => ?_) (fun h => ?_)
    | refine dl_cons rfl rfl (fun K kk => op_load (d := some _) hG rfl rfl (by assumption) (by exact rfl) rfl rfl kk) ?_ | refine dl_cons rfl rfl (fun K kk => op_q (d := some _) hG rfl rfl rfl kk) ?_
    | refine dl_s rfl rfl rfl ?_ | (refine dl_nil ?_; show AW _ _ _ _ _ _) | refine aw_draw mix rfl ?_)
  refine al_cons rfl (op_alloc' (d := some _) hG rfl rfl rfl rfl (fun b5 σ5 n5 o5 p5 d5 => ?_))
  have ne_b1_5 : b1 ≠ b5 := by intro e; subst e; rw [o2] at n5; cases n5
  have ne_b3_5 : b3 ≠ b5 := by intro e; subst e; rw [o4] at n5; cases n5
  replace o2 := p5 _ _ o2
  replace o4 := p5 _ _ o4
  repeat' (first
    | (refine al_cons rfl ?_; first
      | refine op_m (d := some _) hG rfl rfl rfl rfl ?_
      | refine op_eqs (d := some _) hG rfl rfl rfl rfl ?_ | refine op_nes (d := some _) hG rfl rfl rfl rfl ?_ | refine op_beqs (d := some _) hG rfl rfl rfl rfl ?_
      | refine op_d (d := some _) hG rfl rfl rfl rfl (fun h => ?_) (fun h => ?_) | refine op_e (d := some _) hG rfl rfl rfl rfl (fun h => ?_) (fun h => ?_) | refine op_ne (d := some _) hG rfl rfl rfl rfl (fun h => ?_) (fun h => ?_) | refine op_beq (d := some _) hG rfl rfl rfl rfl (fun h => ?_) (fun h => ?_)
      | refine op_rem (d := some _) hG rfl rfl rfl rfl rfl rfl (by omega) ?_ | refine op_shr (d := some _) hG rfl rfl rfl rfl rfl rfl (by omega) ?_ | refine op_w (d := some _) hG rfl rfl rfl rfl (by omega) ?_ | refine op_wu (d := some _) hG rfl rfl rfl rfl (by omega) ?_ | refine op_w16 (d := some _) hG rfl rfl rfl rfl (by omega) ?_ | refine op_w8 (d := some _) hG rfl rfl rfl rfl (by omega) ?_
      | refine op_load (d := some _) hG rfl rfl (by assumption) (by exact rfl) rfl rfl ?_ | refine op_q (d := some _) hG rfl rfl rfl ?_)
    | refine al_s (d := some _) rfl rfl rfl ?_ | (refine al_nil ?_; show AW _ _ _ _ _ _) | refine aw_seq ?_ | refine aw_regL ?_ | refine aw_if_t rfl ?_ | refine aw_if_f rfl ?_
    | (refine aw_skip ?_; show AW _ _ _ _ _ _) | refine aw_block ?_ | (refine aw_exit ?_; show AW _ _ _ _ _ _) | (refine aw_goto ?_; try dsimp only [thenA, inBlockA, jumpA, noGotoA]) | (refine aw_ret ?_; try dsimp only [thenA, inBlockA, jumpA, noGotoA])
    | refine dl_cons rfl rfl (fun K kk => op_m (d := some _) hG rfl rfl rfl rfl kk) ?_
    | refine dl_cons rfl rfl (fun K kk => op_eqs (d := some _) hG rfl rfl rfl rfl kk) ?_ | refine dl_cons rfl rfl (fun K kk => op_nes (d := some _) hG rfl rfl rfl rfl kk) ?_ | refine dl_cons rfl rfl (fun K kk => op_beqs (d := some _) hG rfl rfl rfl rfl kk) ?_
    | refine dl_d rfl rfl (fun K kt kf => op_d (d := some _) hG rfl rfl rfl rfl kt kf) (fun h => ?_) (fun h => ?_) | refine dl_d rfl rfl (fun K kt kf => op_e (d := some _) hG rfl rfl rfl rfl kt kf) (fun h => ?_) (fun h => ?_) | refine dl_ne rfl rfl (fun K kt kf => op_ne (d := some _) hG rfl rfl rfl rfl kt kf) (fun h => ?_) (fun h => ?_) | refine dl_d rfl rfl (fun K kt kf => op_beq (d := some _) hG rfl rfl rfl rfl kt kf) (fun h => ?_) (fun h => ?_)
    | refine dl_cons rfl rfl (fun K kk => op_load (d := some _) hG rfl rfl (by assumption) (by exact rfl) rfl rfl kk) ?_ | refine dl_cons rfl rfl (fun K kk => op_q (d := some _) hG rfl rfl rfl kk) ?_
    | refine dl_s rfl rfl rfl ?_ | (refine dl_nil ?_; show AW _ _ _ _ _ _) | refine aw_draw mix rfl ?_)
  refine al_cons rfl (op_store' hG rfl rfl rfl (by assumption) (by exact rfl) (by exact rfl) (by exact rfl) (by exact rfl) rfl (fun σ6 o6 p6 d6 => ?_))
  replace o2 := (p6 _ ne_b1_5).trans o2
  replace o4 := (p6 _ ne_b3_5).trans o4
  replace o6 : σ6.objs b5 = some (.cells (objB 0 0 0 0).cells) := o6
  clear p5 p6 d5 d6 o5
  repeat' (first
    | (refine al_cons rfl ?_; first
      | refine op_m (d := some _) hG rfl rfl rfl rfl ?_
      | refine op_eqs (d := some _) hG rfl rfl rfl rfl ?_ | refine op_nes (d := some _) hG rfl rfl rfl rfl ?_ | refine op_beqs (d := some _) hG rfl rfl rfl rfl ?_
      | refine op_d (d := some _) hG rfl rfl rfl rfl (fun h => ?_) (fun h => ?_) | refine op_e (d := some _) hG rfl rfl rfl rfl (fun h => ?_) (fun h => ?_) | refine op_ne (d := some _) hG rfl rfl rfl rfl (fun h => ?_) (fun h => ?_) | refine op_beq (d := some _) hG rfl rfl rfl rfl (fun h => ?_) (fun h => ?_)
      | refine op_rem (d := some _) hG rfl rfl rfl rfl rfl rfl (by omega) ?_ | refine op_shr (d := some _) hG rfl rfl rfl rfl rfl rfl (by omega) ?_ | refine op_w (d := some _) hG rfl rfl rfl rfl (by omega) ?_ | refine op_wu (d := some _) hG rfl rfl rfl rfl (by omega) ?_ | refine op_w16 (d := some _) hG rfl rfl rfl rfl (by omega) ?_ | refine op_w8 (d := some _) hG rfl rfl rfl rfl (by omega) ?_
      | refine op_load (d := some _) hG rfl rfl (by assumption) (by exact rfl) rfl rfl ?_ | refine op_q (d := some _) hG rfl rfl rfl ?_)
    | refine al_s (d := some _) rfl rfl rfl ?_ | (refine al_nil ?_; show AW _ _ _ _ _ _) | refine aw_seq ?_ | refine aw_regL ?_ | refine aw_if_t rfl ?_ | refine aw_if_f rfl ?_
    | (refine aw_skip ?_; show AW _ _ _ _ _ _) | refine aw_block ?_ | (refine aw_exit ?_; show AW _ _ _ _ _ _) | (refine aw_goto ?_; try dsimp only [thenA, inBlockA, jumpA, noGotoA]) | (refine aw_ret ?_; try dsimp only [thenA, inBlockA, jumpA, noGotoA])
    | refine dl_cons rfl rfl (fun K kk => op_m (d := some _) hG rfl rfl rfl rfl kk) ?_
    | refine dl_cons rfl rfl (fun K kk => op_eqs (d := some _) hG rfl rfl rfl rfl kk) ?_ | refine dl_cons rfl rfl (fun K kk => op_nes (d := some _) hG rfl rfl rfl rfl kk) ?_ | refine dl_cons rfl rfl (fun K kk => op_beqs (d := some _) hG rfl rfl rfl rfl kk) ?_
    | refine dl_d rfl rfl (fun K kt kf => op_d (d := some _) hG rfl rfl rfl rfl kt kf) (fun h => ?_) (fun h => ?_) | refine dl_d rfl rfl (fun K kt kf => op_e (d := some _) hG rfl rfl rfl rfl kt kf) (fun h => ?_) (fun h => ?_) | refine dl_ne rfl rfl (fun K kt kf => op_ne (d := some _) hG rfl rfl rfl rfl kt kf) (fun h => ?_) (fun h => ?_) | refine dl_d rfl rfl (fun K kt kf => op_beq (d := some _) hG rfl rfl rfl rfl kt kf) (fun h => ?_) (fun h => ?_)
    | refine dl_cons rfl rfl (fun K kk => op_load (d := some _) hG rfl rfl (by assumption) (by exact rfl) rfl rfl kk) ?_ | refine dl_cons rfl rfl (fun K kk => op_q (d := some _) hG rfl rfl rfl kk) ?_
    | refine dl_s rfl rfl rfl ?_ | (refine dl_nil ?_; show AW _ _ _ _ _ _) | refine aw_draw mix rfl ?_)
  refine al_cons rfl (op_call (d := some _) rfl rfl rfl rfl rfl ?_)
  refine (qAdd σ6 0 1 10 3 (-1) (by omega) (by omega)).dropped ?_
  rw [show addE 0 1 10 3 (-1) = (objB 0 0 0 0, 1) from rfl]
  dsimp only
  repeat' (first
    | (refine al_cons rfl ?_; first
      | refine op_m (d := some _) hG rfl rfl rfl rfl ?_
      | refine op_eqs (d := some _) hG rfl rfl rfl rfl ?_ | refine op_nes (d := some _) hG rfl rfl rfl rfl ?_ | refine op_beqs (d := some _) hG rfl rfl rfl rfl ?_
      | refine op_d (d := some _) hG rfl rfl rfl rfl (fun h => ?_) (fun h => ?_) | refine op_e (d := some _) hG rfl rfl rfl rfl (fun h => ?_) (fun h => ?_) | refine op_ne (d := some _) hG rfl rfl rfl rfl (fun h => ?_) (fun h => ?_) | refine op_beq (d := some _) hG rfl rfl rfl rfl (fun h => ?_) (fun h => ?_)
      | refine op_rem (d := some _) hG rfl rfl rfl rfl rfl rfl (by omega) ?_ | refine op_shr (d := some _) hG rfl rfl rfl rfl rfl rfl (by omega) ?_ | refine op_w (d := some _) hG rfl rfl rfl rfl (by omega) ?_ | refine op_wu (d := some _) hG rfl rfl rfl rfl (by omega) ?_ | refine op_w16 (d := some _) hG rfl rfl rfl rfl (by omega) ?_ | refine op_w8 (d := some _) hG rfl rfl rfl rfl (by omega) ?_
      | refine op_load (d := some _) hG rfl rfl (by assumption) (by exact rfl) rfl rfl ?_ | refine op_q (d := some _) hG rfl rfl rfl ?_)
    | refine al_s (d := some _) rfl rfl rfl ?_ | (refine al_nil ?_; show AW _ _ _ _ _ _) | refine aw_seq ?_ | refine aw_regL ?_ | refine aw_if_t rfl ?_ | refine aw_if_f rfl ?_
    | (refine aw_skip ?_; show AW _ _ _ _ _ _) | refine aw_block ?_ | (refine aw_exit ?_; show AW _ _ _ _ _ _) | (refine aw_goto ?_; try dsimp only [thenA, inBlockA, jumpA, noGotoA]) | (refine aw_ret ?_; try dsimp only [thenA, inBlockA, jumpA, noGotoA])
    | refine dl_cons rfl rfl (fun K kk => op_m (d := some _) hG rfl rfl rfl rfl kk) ?_
    | refine dl_cons rfl rfl (fun K kk => op_eqs (d := some _) hG rfl rfl rfl rfl kk) ?_ | refine dl_cons rfl rfl (fun K kk => op_nes (d := some _) hG rfl rfl rfl rfl kk) ?_ | refine dl_cons rfl rfl (fun K kk => op_beqs (d := some _) hG rfl rfl rfl rfl kk) ?_
    | refine dl_d rfl rfl (fun K kt kf => op_d (d := some _) hG rfl rfl rfl rfl kt kf) (fun h => ?_) (fun h => ?_) | refine dl_d rfl rfl (fun K kt kf => op_e (d := some _) hG rfl rfl rfl rfl kt kf) (fun h => ?_) (fun h => ?_) | refine dl_ne rfl rfl (fun K kt kf => op_ne (d := some _) hG rfl rfl rfl rfl kt kf) (fun h => ?_) (fun h => ?_) | refine dl_d rfl rfl (fun K kt kf => op_beq (d := some _) hG rfl rfl rfl rfl kt kf) (fun h => ?_) (fun h => ?_)
    | refine dl_cons rfl rfl (fun K kk => op_load (d := some _) hG rfl rfl (by assumption) (by exact rfl) rfl rfl kk) ?_ | refine dl_cons rfl rfl (fun K kk => op_q (d := some _) hG rfl rfl rfl kk) ?_
    | refine dl_s rfl rfl rfl ?_ | (refine dl_nil ?_; show AW _ _ _ _ _ _) | refine aw_draw mix rfl ?_)
  refine al_cons rfl (op_alloc' (d := some _) hG rfl rfl rfl rfl (fun b7 σ7 n7 o7 p7 d7 => ?_))
  have ne_b1_7 : b1 ≠ b7 := by intro e; subst e; rw [o2] at n7; cases n7
  have ne_b3_7 : b3 ≠ b7 := by intro e; subst e; rw [o4] at n7; cases n7
  have ne_b5_7 : b5 ≠ b7 := by intro e; subst e; rw [o6] at n7; cases n7
  replace o2 := p7 _ _ o2
  replace o4 := p7 _ _ o4
  replace o6 := p7 _ _ o6
  repeat' (first
    | (refine al_cons rfl ?_; first
      | refine op_m (d := some _) hG rfl rfl rfl rfl ?_
      | refine op_eqs (d := some _) hG rfl rfl rfl rfl ?_ | refine op_nes (d := some _) hG rfl rfl rfl rfl ?_ | refine op_beqs (d := some _) hG rfl rfl rfl rfl ?_
      | refine op_d (d := some _) hG rfl rfl rfl rfl (fun h => ?_) (fun h => ?_) | refine op_e (d := some _) hG rfl rfl rfl rfl (fun h => ?_) (fun h => ?_) | refine op_ne (d := some _) hG rfl rfl rfl rfl (fun h => ?_) (fun h => ?_) | refine op_beq (d := some _) hG rfl rfl rfl rfl (fun h => ?_) (fun h => ?_)
      | refine op_rem (d := some _) hG rfl rfl rfl rfl rfl rfl (by omega) ?_ | refine op_shr (d := some _) hG rfl rfl rfl rfl rfl rfl (by omega) ?_ | refine op_w (d := some _) hG rfl rfl rfl rfl (by omega) ?_ | refine op_wu (d := some _) hG rfl rfl rfl rfl (by omega) ?_ | refine op_w16 (d := some _) hG rfl rfl rfl rfl (by omega) ?_ | refine op_w8 (d := some _) hG rfl rfl rfl rfl (by omega) ?_
      | refine op_load (d := some _) hG rfl rfl (by assumption) (by exact rfl) rfl rfl ?_ | refine op_q (d := some _) hG rfl rfl rfl ?_)
    | refine al_s (d := some _) rfl rfl rfl ?_ | (refine al_nil ?_; show AW _ _ _ _ _ _) | refine aw_seq ?_ | refine aw_regL ?_ | refine aw_if_t rfl ?_ | refine aw_if_f rfl ?_
    | (refine aw_skip ?_; show AW _ _ _ _ _ _) | refine aw_block ?_ | (refine aw_exit ?_; show AW _ _ _ _ _ _) | (refine aw_goto ?_; try dsimp only [thenA, inBlockA, jumpA, noGotoA]) | (refine aw_ret ?_; try dsimp only [thenA, inBlockA, jumpA, noGotoA])
    | refine dl_cons rfl rfl (fun K kk => op_m (d := some _) hG rfl rfl rfl rfl kk) ?_
    | refine dl_cons rfl rfl (fun K kk => op_eqs (d := some _) hG rfl rfl rfl rfl kk) ?_ | refine dl_cons rfl rfl (fun K kk => op_nes (d := some _) hG rfl rfl rfl rfl kk) ?_ | refine dl_cons rfl rfl (fun K kk => op_beqs (d := some _) hG rfl rfl rfl rfl kk) ?_
    | refine dl_d rfl rfl (fun K kt kf => op_d (d := some _) hG rfl rfl rfl rfl kt kf) (fun h => ?_) (fun h => ?_) | refine dl_d rfl rfl (fun K kt kf => op_e (d := some _) hG rfl rfl rfl rfl kt kf) (fun h => ?_) (fun h => ?_) | refine dl_ne rfl rfl (fun K kt kf => op_ne (d := some _) hG rfl rfl rfl rfl kt kf) (fun h => ?_) (fun h => ?_) | refine dl_d rfl rfl (fun K kt kf => op_beq (d := some _) hG rfl rfl rfl rfl kt kf) (fun h => ?_) (fun h => ?_)
    | refine dl_cons rfl rfl (fun K kk => op_load (d := some _) hG rfl rfl (by assumption) (by exact rfl) rfl rfl kk) ?_ | refine dl_cons rfl rfl (fun K kk => op_q (d := some _) hG rfl rfl rfl kk) ?_
    | refine dl_s rfl rfl rfl ?_ | (refine dl_nil ?_; show AW _ _ _ _ _ _) | refine aw_draw mix rfl ?_)
  refine al_cons rfl (op_store' hG rfl rfl rfl (by assumption) (by exact rfl) (by exact rfl) (by exact rfl) (by exact rfl) rfl (fun σ8 o8 p8 d8 => ?_))
  replace o2 := (p8 _ ne_b1_7).trans o2
  replace o4 := (p8 _ ne_b3_7).trans o4
  replace o6 := (p8 _ ne_b5_7).trans o6
  replace o8 : σ8.objs b7 = some (.cells (objB 0 0 0 0).cells) := o8
  clear p7 p8 d7 d8 o7
  repeat' (first
    | (refine al_cons rfl ?_; first
      | refine op_m (d := some _) hG rfl rfl rfl rfl ?_
      | refine op_eqs (d := some _) hG rfl rfl rfl rfl ?_ | refine op_nes (d := some _) hG rfl rfl rfl rfl ?_ | refine op_beqs (d := some _) hG rfl rfl rfl rfl ?_
      | refine op_d (d := some _) hG rfl rfl rfl rfl (fun h => ?_) (fun h => ?_) | refine op_e (d := some _) hG rfl rfl rfl rfl (fun h => ?_) (fun h => ?_) | refine op_ne (d := some _) hG rfl rfl rfl rfl (fun h => ?_) (fun h => ?_) | refine op_beq (d := some _) hG rfl rfl rfl rfl (fun h => ?_) (fun h => ?_)
      | refine op_rem (d := some _) hG rfl rfl rfl rfl rfl rfl (by omega) ?_ | refine op_shr (d := some _) hG rfl rfl rfl rfl rfl rfl (by omega) ?_ | refine op_w (d := some _) hG rfl rfl rfl rfl (by omega) ?_ | refine op_wu (d := some _) hG rfl rfl rfl rfl (by omega) ?_ | refine op_w16 (d := some _) hG rfl rfl rfl rfl (by omega) ?_ | refine op_w8 (d := some _) hG rfl rfl rfl rfl (by omega) ?_
      | refine op_load (d := some _) hG rfl rfl (by assumption) (by exact rfl) rfl rfl ?_ | refine op_q (d := some _) hG rfl rfl rfl ?_)
    | refine al_s (d := some _) rfl rfl rfl ?_ | (refine al_nil ?_; show AW _ _ _ _ _ _) | refine aw_seq ?_ | refine aw_regL ?_ | refine aw_if_t rfl ?_ | refine aw_if_f rfl ?_
    | (refine aw_skip ?_; show AW _ _ _ _ _ _) | refine aw_block ?_ | (refine aw_exit ?_; show AW _ _ _ _ _ _) | (refine aw_goto ?_; try dsimp only [thenA, inBlockA, jumpA, noGotoA]) | (refine aw_ret ?_; try dsimp only [thenA, inBlockA, jumpA, noGotoA])
    | refine dl_cons rfl rfl (fun K kk => op_m (d := some _) hG rfl rfl rfl rfl kk) ?_
    | refine dl_cons rfl rfl (fun K kk => op_eqs (d := some _) hG rfl rfl rfl rfl kk) ?_ | refine dl_cons rfl rfl (fun K kk => op_nes (d := some _) hG rfl rfl rfl rfl kk) ?_ | refine dl_cons rfl rfl (fun K kk => op_beqs (d := some _) hG rfl rfl rfl rfl kk) ?_
    | refine dl_d rfl rfl (fun K kt kf => op_d (d := some _) hG rfl rfl rfl rfl kt kf) (fun h => ?_) (fun h => ?_) | refine dl_d rfl rfl (fun K kt kf => op_e (d := some _) hG rfl rfl rfl rfl kt kf) (fun h => ?_) (fun h => ?_) | refine dl_ne rfl rfl (fun K kt kf => op_ne (d := some _) hG rfl rfl rfl rfl kt kf) (fun h => ?_) (fun h => ?_) | refine dl_d rfl rfl (fun K kt kf => op_beq (d := some _) hG rfl rfl rfl rfl kt kf) (fun h => ?_) (fun h => ?_)
    | refine dl_cons rfl rfl (fun K kk => op_load (d := some _) hG rfl rfl (by assumption) (by exact rfl) rfl rfl kk) ?_ | refine dl_cons rfl rfl (fun K kk => op_q (d := some _) hG rfl rfl rfl kk) ?_
    | refine dl_s rfl rfl rfl ?_ | (refine dl_nil ?_; show AW _ _ _ _ _ _) | refine aw_draw mix rfl ?_)
  refine al_cons rfl (op_call (d := some _) rfl rfl rfl rfl rfl ?_)
  refine (qAdd σ8 0 1 10 3 0 (by omega) (by omega)).dropped ?_
  rw [show addE 0 1 10 3 0 = (objB 0 1 10 3, 0) from rfl]
  dsimp only
  repeat' (first
    | (refine al_cons rfl ?_; first
      | refine op_m (d := some _) hG rfl rfl rfl rfl ?_
      | refine op_eqs (d := some _) hG rfl rfl rfl rfl ?_ | refine op_nes (d := some _) hG rfl rfl rfl rfl ?_ | refine op_beqs (d := some _) hG rfl rfl rfl rfl ?_
      | refine op_d (d := some _) hG rfl rfl rfl rfl (fun h => ?_) (fun h => ?_) | refine op_e (d := some _) hG rfl rfl rfl rfl (fun h => ?_) (fun h => ?_) | refine op_ne (d := some _) hG rfl rfl rfl rfl (fun h => ?_) (fun h => ?_) | refine op_beq (d := some _) hG rfl rfl rfl rfl (fun h => ?_) (fun h => ?_)
      | refine op_rem (d := some _) hG rfl rfl rfl rfl rfl rfl (by omega) ?_ | refine op_shr (d := some _) hG rfl rfl rfl rfl rfl rfl (by omega) ?_ | refine op_w (d := some _) hG rfl rfl rfl rfl (by omega) ?_ | refine op_wu (d := some _) hG rfl rfl rfl rfl (by omega) ?_ | refine op_w16 (d := some _) hG rfl rfl rfl rfl (by omega) ?_ | refine op_w8 (d := some _) hG rfl rfl rfl rfl (by omega) ?_
      | refine op_load (d := some _) hG rfl rfl (by assumption) (by exact rfl) rfl rfl ?_ | refine op_q (d := some _) hG rfl rfl rfl ?_)
    | refine al_s (d := some _) rfl rfl rfl ?_ | (refine al_nil ?_; show AW _ _ _ _ _ _) | refine aw_seq ?_ | refine aw_regL ?_ | refine aw_if_t rfl ?_ | refine aw_if_f rfl ?_
    | (refine aw_skip ?_; show AW _ _ _ _ _ _) | refine aw_block ?_ | (refine aw_exit ?_; show AW _ _ _ _ _ _) | (refine aw_goto ?_; try dsimp only [thenA, inBlockA, jumpA, noGotoA]) | (refine aw_ret ?_; try dsimp only [thenA, inBlockA, jumpA, noGotoA])
    | refine dl_cons rfl rfl (fun K kk => op_m (d := some _) hG rfl rfl rfl rfl kk) ?_
    | refine dl_cons rfl rfl (fun K kk => op_eqs (d := some _) hG rfl rfl rfl rfl kk) ?_ | refine dl_cons rfl rfl (fun K kk => op_nes (d := some _) hG rfl rfl rfl rfl kk) ?_ | refine dl_cons rfl rfl (fun K kk => op_beqs (d := some _) hG rfl rfl rfl rfl kk) ?_
    | refine dl_d rfl rfl (fun K kt kf => op_d (d := some _) hG rfl rfl rfl rfl kt kf) (fun h => ?_) (fun h => ?_) | refine dl_d rfl rfl (fun K kt kf => op_e (d := some _) hG rfl rfl rfl rfl kt kf) (fun h => ?_) (fun h => ?_) | refine dl_ne rfl rfl (fun K kt kf => op_ne (d := some _) hG rfl rfl rfl rfl kt kf) (fun h => ?_) (fun h => ?_) | refine dl_d rfl rfl (fun K kt kf => op_beq (d := some _) hG rfl rfl rfl rfl kt kf) (fun h => ?_) (fun h => ?_)
    | refine dl_cons rfl rfl (fun K kk => op_load (d := some _) hG rfl rfl (by assumption) (by exact rfl) rfl rfl kk) ?_ | refine dl_cons rfl rfl (fun K kk => op_q (d := some _) hG rfl rfl rfl kk) ?_
    | refine dl_s rfl rfl rfl ?_ | (refine dl_nil ?_; show AW _ _ _ _ _ _) | refine aw_draw mix rfl ?_)
  refine al_cons rfl (op_alloc' (d := some _) hG rfl rfl rfl rfl (fun b9 σ9 n9 o9 p9 d9 => ?_))
  have ne_b1_9 : b1 ≠ b9 := by intro e; subst e; rw [o2] at n9; cases n9
  have ne_b3_9 : b3 ≠ b9 := by intro e; subst e; rw [o4] at n9; cases n9
  have ne_b5_9 : b5 ≠ b9 := by intro e; subst e; rw [o6] at n9; cases n9
  have ne_b7_9 : b7 ≠ b9 := by intro e; subst e; rw [o8] at n9; cases n9
  replace o2 := p9 _ _ o2
  replace o4 := p9 _ _ o4
  replace o6 := p9 _ _ o6
  replace o8 := p9 _ _ o8
  repeat' (first
    | (refine al_cons rfl ?_; first
      | refine op_m (d := some _) hG rfl rfl rfl rfl ?_
      | refine op_eqs (d := some _) hG rfl rfl rfl rfl ?_ | refine op_nes (d := some _) hG rfl rfl rfl rfl ?_ | refine op_beqs (d := some _) hG rfl rfl rfl rfl ?_
      | refine op_d (d := some _) hG rfl rfl rfl rfl (fun h => ?_) (fun h => ?_) | refine op_e (d := some _) hG rfl rfl rfl rfl (fun h => ?_) (fun h => ?_) | refine op_ne (d := some _) hG rfl rfl rfl rfl (fun h => ?_) (fun h => ?_) | refine op_beq (d := some _) hG rfl rfl rfl rfl (fun h => ?_) (fun h => ?_)
      | refine op_rem (d := some _) hG rfl rfl rfl rfl rfl rfl (by omega) ?_ | refine op_shr (d := some _) hG rfl rfl rfl rfl rfl rfl (by omega) ?_ | refine op_w (d := some _) hG rfl rfl rfl rfl (by omega) ?_ | refine op_wu (d := some _) hG rfl rfl rfl rfl (by omega) ?_ | refine op_w16 (d := some _) hG rfl rfl rfl rfl (by omega) ?_ | refine op_w8 (d := some _) hG rfl rfl rfl rfl (by omega) ?_
      | refine op_load (d := some _) hG rfl rfl (by assumption) (by exact rfl) rfl rfl ?_ | refine op_q (d := some _) hG rfl rfl rfl ?_)
    | refine al_s (d := some _) rfl rfl rfl ?_ | (refine al_nil ?_; show AW _ _ _ _ _ _) | refine aw_seq ?_ | refine aw_regL ?_ | refine aw_if_t rfl ?_ | refine aw_if_f rfl ?_
    | (refine aw_skip ?_; show AW _ _ _ _ _ _) | refine aw_block ?_ | (refine aw_exit ?_; show AW _ _ _ _ _ _) | (refine aw_goto ?_; try dsimp only [thenA, inBlockA, jumpA, noGotoA]) | (refine aw_ret ?_; try dsimp only [thenA, inBlockA, jumpA, noGotoA])
    | refine dl_cons rfl rfl (fun K kk => op_m (d := some _) hG rfl rfl rfl rfl kk) ?_
    | refine dl_cons rfl rfl (fun K kk => op_eqs (d := some _) hG rfl rfl rfl rfl kk) ?_ | refine dl_cons rfl rfl (fun K kk => op_nes (d := some _) hG rfl rfl rfl rfl kk) ?_ | refine dl_cons rfl rfl (fun K kk => op_beqs (d := some _) hG rfl rfl rfl rfl kk) ?_
    | refine dl_d rfl rfl (fun K kt kf => op_d (d := some _) hG rfl rfl rfl rfl kt kf) (fun h => ?_) (fun h => ?_) | refine dl_d rfl rfl (fun K kt kf => op_e (d := some _) hG rfl rfl rfl rfl kt kf) (fun h => ?_) (fun h => ?_) | refine dl_ne rfl rfl (fun K kt kf => op_ne (d := some _) hG rfl rfl rfl rfl kt kf) (fun h => ?_) (fun h => ?_) | refine dl_d rfl rfl (fun K kt kf => op_beq (d := some _) hG rfl rfl rfl rfl kt kf) (fun h => ?_) (fun h => ?_)
    | refine dl_cons rfl rfl (fun K kk => op_load (d := some _) hG rfl rfl (by assumption) (by exact rfl) rfl rfl kk) ?_ | refine dl_cons rfl rfl (fun K kk => op_q (d := some _) hG rfl rfl rfl kk) ?_
    | refine dl_s rfl rfl rfl ?_ | (refine dl_nil ?_; show AW _ _ _ _ _ _) | refine aw_draw mix rfl ?_)
  refine al_cons rfl (op_store' hG rfl rfl rfl (by assumption) (by exact rfl) (by exact rfl) (by exact rfl) (by exact rfl) rfl (fun σ10 o10 p10 d10 => ?_))
  replace o2 := (p10 _ ne_b1_9).trans o2
  replace o4 := (p10 _ ne_b3_9).trans o4
  replace o6 := (p10 _ ne_b5_9).trans o6
  replace o8 := (p10 _ ne_b7_9).trans o8
  replace o10 : σ10.objs b9 = some (.cells (objB 0 1 10 3).cells) := o10
  clear p9 p10 d9 d10 o9
  repeat' (first
    | (refine al_cons rfl ?_; first
      | refine op_m (d := some _) hG rfl rfl rfl rfl ?_
      | refine op_eqs (d := some _) hG rfl rfl rfl rfl ?_ | refine op_nes (d := some _) hG rfl rfl rfl rfl ?_ | refine op_beqs (d := some _) hG rfl rfl rfl rfl ?_
      | refine op_d (d := some _) hG rfl rfl rfl rfl (fun h => ?_) (fun h => ?_) | refine op_e (d := some _) hG rfl rfl rfl rfl (fun h => ?_) (fun h => ?_) | refine op_ne (d := some _) hG rfl rfl rfl rfl (fun h => ?_) (fun h => ?_) | refine op_beq (d := some _) hG rfl rfl rfl rfl (fun h => ?_) (fun h => ?_)
      | refine op_rem (d := some _) hG rfl rfl rfl rfl rfl rfl (by omega) ?_ | refine op_shr (d := some _) hG rfl rfl rfl rfl rfl rfl (by omega) ?_ | refine op_w (d := some _) hG rfl rfl rfl rfl (by omega) ?_ | refine op_wu (d := some _) hG rfl rfl rfl rfl (by omega) ?_ | refine op_w16 (d := some _) hG rfl rfl rfl rfl (by omega) ?_ | refine op_w8 (d := some _) hG rfl rfl rfl rfl (by omega) ?_
      | refine op_load (d := some _) hG rfl rfl (by assumption) (by exact rfl) rfl rfl ?_ | refine op_q (d := some _) hG rfl rfl rfl ?_)
    | refine al_s (d := some _) rfl rfl rfl ?_ | (refine al_nil ?_; show AW _ _ _ _ _ _) | refine aw_seq ?_ | refine aw_regL ?_ | refine aw_if_t rfl ?_ | refine aw_if_f rfl ?_
    | (refine aw_skip ?_; show AW _ _ _ _ _ _) | refine aw_block ?_ | (refine aw_exit ?_; show AW _ _ _ _ _ _) | (refine aw_goto ?_; try dsimp only [thenA, inBlockA, jumpA, noGotoA]) | (refine aw_ret ?_; try dsimp only [thenA, inBlockA, jumpA, noGotoA])
    | refine dl_cons rfl rfl (fun K kk => op_m (d := some _) hG rfl rfl rfl rfl kk) ?_
    | refine dl_cons rfl rfl (fun K kk => op_eqs (d := some _) hG rfl rfl rfl rfl kk) ?_ | refine dl_cons rfl rfl (fun K kk => op_nes (d := some _) hG rfl rfl rfl rfl kk) ?_ | refine dl_cons rfl rfl (fun K kk => op_beqs (d := some _) hG rfl rfl rfl rfl kk) ?_
    | refine dl_d rfl rfl (fun K kt kf => op_d (d := some _) hG rfl rfl rfl rfl kt kf) (fun h => ?_) (fun h => ?_) | refine dl_d rfl rfl (fun K kt kf => op_e (d := some _) hG rfl rfl rfl rfl kt kf) (fun h => ?_) (fun h => ?_) | refine dl_ne rfl rfl (fun K kt kf => op_ne (d := some _) hG rfl rfl rfl rfl kt kf) (fun h => ?_) (fun h => ?_) | refine dl_d rfl rfl (fun K kt kf => op_beq (d := some _) hG rfl rfl rfl rfl kt kf) (fun h => ?_) (fun h => ?_)
    | refine dl_cons rfl rfl (fun K kk => op_load (d := some _) hG rfl rfl (by assumption) (by exact rfl) rfl rfl kk) ?_ | refine dl_cons rfl rfl (fun K kk => op_q (d := some _) hG rfl rfl rfl kk) ?_
    | refine dl_s rfl rfl rfl ?_ | (refine dl_nil ?_; show AW _ _ _ _ _ _) | refine aw_draw mix rfl ?_)
  refine al_cons rfl (op_call (d := some _) rfl rfl rfl rfl rfl ?_)
  refine (qAdd σ10 0 1 10 3 9223372036854775807 (by omega) (by omega)).dropped ?_
  rw [show addE 0 1 10 3 9223372036854775807 = (objB 0 0 0 0, 10) from rfl]
  dsimp only
  repeat' (first
    | (refine al_cons rfl ?_; first
      | refine op_m (d := some _) hG rfl rfl rfl rfl ?_
      | refine op_eqs (d := some _) hG rfl rfl rfl rfl ?_ | refine op_nes (d := some _) hG rfl rfl rfl rfl ?_ | refine op_beqs (d := some _) hG rfl rfl rfl rfl ?_
      | refine op_d (d := some _) hG rfl rfl rfl rfl (fun h => ?_) (fun h => ?_) | refine op_e (d := some _) hG rfl rfl rfl rfl (fun h => ?_) (fun h => ?_) | refine op_ne (d := some _) hG rfl rfl rfl rfl (fun h => ?_) (fun h => ?_) | refine op_beq (d := some _) hG rfl rfl rfl rfl (fun h => ?_) (fun h => ?_)
      | refine op_rem (d := some _) hG rfl rfl rfl rfl rfl rfl (by omega) ?_ | refine op_shr (d := some _) hG rfl rfl rfl rfl rfl rfl (by omega) ?_ | refine op_w (d := some _) hG rfl rfl rfl rfl (by omega) ?_ | refine op_wu (d := some _) hG rfl rfl rfl rfl (by omega) ?_ | refine op_w16 (d := some _) hG rfl rfl rfl rfl (by omega) ?_ | refine op_w8 (d := some _) hG rfl rfl rfl rfl (by omega) ?_
      | refine op_load (d := some _) hG rfl rfl (by assumption) (by exact rfl) rfl rfl ?_ | refine op_q (d := some _) hG rfl rfl rfl ?_)
    | refine al_s (d := some _) rfl rfl rfl ?_ | (refine al_nil ?_; show AW _ _ _ _ _ _) | refine aw_seq ?_ | refine aw_regL ?_ | refine aw_if_t rfl ?_ | refine aw_if_f rfl ?_
    | (refine aw_skip ?_; show AW _ _ _ _ _ _) | refine aw_block ?_ | (refine aw_exit ?_; show AW _ _ _ _ _ _) | (refine aw_goto ?_; try dsimp only [thenA, inBlockA, jumpA, noGotoA]) | (refine aw_ret ?_; try dsimp only [thenA, inBlockA, jumpA, noGotoA])
    | refine dl_cons rfl rfl (fun K kk => op_m (d := some _) hG rfl rfl rfl rfl kk) ?_
    | refine dl_cons rfl rfl (fun K kk => op_eqs (d := some _) hG rfl rfl rfl rfl kk) ?_ | refine dl_cons rfl rfl (fun K kk => op_nes (d := some _) hG rfl rfl rfl rfl kk) ?_ | refine dl_cons rfl rfl (fun K kk => op_beqs (d := some _) hG rfl rfl rfl rfl kk) ?_
    | refine dl_d rfl rfl (fun K kt kf => op_d (d := some _) hG rfl rfl rfl rfl kt kf) (fun h => ?_) (fun h => ?_) | refine dl_d rfl rfl (fun K kt kf => op_e (d := some _) hG rfl rfl rfl rfl kt kf) (fun h => ?_) (fun h => ?_) | refine dl_ne rfl rfl (fun K kt kf => op_ne (d := some _) hG rfl rfl rfl rfl kt kf) (fun h => ?_) (fun h => ?_) | refine dl_d rfl rfl (fun K kt kf => op_beq (d := some _) hG rfl rfl rfl rfl kt kf) (fun h => ?_) (fun h => ?_)
    | refine dl_cons rfl rfl (fun K kk => op_load (d := some _) hG rfl rfl (by assumption) (by exact rfl) rfl rfl kk) ?_ | refine dl_cons rfl rfl (fun K kk => op_q (d := some _) hG rfl rfl rfl kk) ?_
    | refine dl_s rfl rfl rfl ?_ | (refine dl_nil ?_; show AW _ _ _ _ _ _) | refine aw_draw mix rfl ?_)
  refine al_cons rfl (op_alloc' (d := some _) hG rfl rfl rfl rfl (fun b11 σ11 n11 o11 p11 d11 => ?_))
  have ne_b1_11 : b1 ≠ b11 := by intro e; subst e; rw [o2] at n11; cases n11
  have ne_b3_11 : b3 ≠ b11 := by intro e; subst e; rw [o4] at n11; cases n11
  have ne_b5_11 : b5 ≠ b11 := by intro e; subst e; rw [o6] at n11; cases n11
  have ne_b7_11 : b7 ≠ b11 := by intro e; subst e; rw [o8] at n11; cases n11
  have ne_b9_11 : b9 ≠ b11 := by intro e; subst e; rw [o10] at n11; cases n11
  replace o2 := p11 _ _ o2
  replace o4 := p11 _ _ o4
  replace o6 := p11 _ _ o6
  replace o8 := p11 _ _ o8
  replace o10 := p11 _ _ o10
  repeat' (first
    | (refine al_cons rfl ?_; first
      | refine op_m (d := some _) hG rfl rfl rfl rfl ?_
      | refine op_eqs (d := some _) hG rfl rfl rfl rfl ?_ | refine op_nes (d := some _) hG rfl rfl rfl rfl ?_ | refine op_beqs (d := some _) hG rfl rfl rfl rfl ?_
      | refine op_d (d := some _) hG rfl rfl rfl rfl (fun h => ?_) (fun h => ?_) | refine op_e (d := some _) hG rfl rfl rfl rfl (fun h => ?_) (fun h => ?_) | refine op_ne (d := some _) hG rfl rfl rfl rfl (fun h => ?_) (fun h => ?_) | refine op_beq (d := some _) hG rfl rfl rfl rfl (fun h => ?_) (fun h => ?_)
      | refine op_rem (d := some _) hG rfl rfl rfl rfl rfl rfl (by omega) ?_ | refine op_shr (d := some _) hG rfl rfl rfl rfl rfl rfl (by omega) ?_ | refine op_w (d := some _) hG rfl rfl rfl rfl (by omega) ?_ | refine op_wu (d := some _) hG rfl rfl rfl rfl (by omega) ?_ | refine op_w16 (d := some _) hG rfl rfl rfl rfl (by omega) ?_ | refine op_w8 (d := some _) hG rfl rfl rfl rfl (by omega) ?_
      | refine op_load (d := some _) hG rfl rfl (by assumption) (by exact rfl) rfl rfl ?_ | refine op_q (d := some _) hG rfl rfl rfl ?_)
    | refine al_s (d := some _) rfl rfl rfl ?_ | (refine al_nil ?_; show AW _ _ _ _ _ _) | refine aw_seq ?_ | refine aw_regL ?_ | refine aw_if_t rfl ?_ | refine aw_if_f rfl ?_
    | (refine aw_skip ?_; show AW _ _ _ _ _ _) | refine aw_block ?_ | (refine aw_exit ?_; show AW _ _ _ _ _ _) | (refine aw_goto ?_; try dsimp only [thenA, inBlockA, jumpA, noGotoA]) | (refine aw_ret ?_; try dsimp only [thenA, inBlockA, jumpA, noGotoA])
    | refine dl_cons rfl rfl (fun K kk => op_m (d := some _) hG rfl rfl rfl rfl kk) ?_
    | refine dl_cons rfl rfl (fun K kk => op_eqs (d := some _) hG rfl rfl rfl rfl kk) ?_ | refine dl_cons rfl rfl (fun K kk => op_nes (d := some _) hG rfl rfl rfl rfl kk) ?_ | refine dl_cons rfl rfl (fun K kk => op_beqs (d := some _) hG rfl rfl rfl rfl kk) ?_
    | refine dl_d rfl rfl (fun K kt kf => op_d (d := some _) hG rfl rfl rfl rfl kt kf) (fun h => ?_) (fun h => ?_) | refine dl_d rfl rfl (fun K kt kf => op_e (d := some _) hG rfl rfl rfl rfl kt kf) (fun h => ?_) (fun h => ?_) | refine dl_ne rfl rfl (fun K kt kf => op_ne (d := some _) hG rfl rfl rfl rfl kt kf) (fun h => ?_) (fun h => ?_) | refine dl_d rfl rfl (fun K kt kf => op_beq (d := some _) hG rfl rfl rfl rfl kt kf) (fun h => ?_) (fun h => ?_)
    | refine dl_cons rfl rfl (fun K kk => op_load (d := some _) hG rfl rfl (by assumption) (by exact rfl) rfl rfl kk) ?_ | refine dl_cons rfl rfl (fun K kk => op_q (d := some _) hG rfl rfl rfl kk) ?_
    | refine dl_s rfl rfl rfl ?_ | (refine dl_nil ?_; show AW _ _ _ _ _ _) | refine aw_draw mix rfl ?_)
  refine al_cons rfl (op_store' hG rfl rfl rfl (by assumption) (by exact rfl) (by exact rfl) (by exact rfl) (by exact rfl) rfl (fun σ12 o12 p12 d12 => ?_))
  replace o2 := (p12 _ ne_b1_11).trans o2
  replace o4 := (p12 _ ne_b3_11).trans o4
  replace o6 := (p12 _ ne_b5_11).trans o6
  replace o8 := (p12 _ ne_b7_11).trans o8
  replace o10 := (p12 _ ne_b9_11).trans o10
  replace o12 : σ12.objs b11 = some (.cells (objB 0 0 0 0).cells) := o12
  clear p11 p12 d11 d12 o11
  repeat' (first
    | (refine al_cons rfl ?_; first
      | refine op_m (d := some _) hG rfl rfl rfl rfl ?_
      | refine op_eqs (d := some _) hG rfl rfl rfl rfl ?_ | refine op_nes (d := some _) hG rfl rfl rfl rfl ?_ | refine op_beqs (d := some _) hG rfl rfl rfl rfl ?_
      | refine op_d (d := some _) hG rfl rfl rfl rfl (fun h => ?_) (fun h => ?_) | refine op_e (d := some _) hG rfl rfl rfl rfl (fun h => ?_) (fun h => ?_) | refine op_ne (d := some _) hG rfl rfl rfl rfl (fun h => ?_) (fun h => ?_) | refine op_beq (d := some _) hG rfl rfl rfl rfl (fun h => ?_) (fun h => ?_)
      | refine op_rem (d := some _) hG rfl rfl rfl rfl rfl rfl (by omega) ?_ | refine op_shr (d := some _) hG rfl rfl rfl rfl rfl rfl (by omega) ?_ | refine op_w (d := some _) hG rfl rfl rfl rfl (by omega) ?_ | refine op_wu (d := some _) hG rfl rfl rfl rfl (by omega) ?_ | refine op_w16 (d := some _) hG rfl rfl rfl rfl (by omega) ?_ | refine op_w8 (d := some _) hG rfl rfl rfl rfl (by omega) ?_
      | refine op_load (d := some _) hG rfl rfl (by assumption) (by exact rfl) rfl rfl ?_ | refine op_q (d := some _) hG rfl rfl rfl ?_)
    | refine al_s (d := some _) rfl rfl rfl ?_ | (refine al_nil ?_; show AW _ _ _ _ _ _) | refine aw_seq ?_ | refine aw_regL ?_ | refine aw_if_t rfl ?_ | refine aw_if_f rfl ?_
    | (refine aw_skip ?_; show AW _ _ _ _ _ _) | refine aw_block ?_ | (refine aw_exit ?_; show AW _ _ _ _ _ _) | (refine aw_goto ?_; try dsimp only [thenA, inBlockA, jumpA, noGotoA]) | (refine aw_ret ?_; try dsimp only [thenA, inBlockA, jumpA, noGotoA])
    | refine dl_cons rfl rfl (fun K kk => op_m (d := some _) hG rfl rfl rfl rfl kk) ?_
    | refine dl_cons rfl rfl (fun K kk => op_eqs (d := some _) hG rfl rfl rfl rfl kk) ?_ | refine dl_cons rfl rfl (fun K kk => op_nes (d := some _) hG rfl rfl rfl rfl kk) ?_ | refine dl_cons rfl rfl (fun K kk => op_beqs (d := some _) hG rfl rfl rfl rfl kk) ?_
    | refine dl_d rfl rfl (fun K kt kf => op_d (d := some _) hG rfl rfl rfl rfl kt kf) (fun h => ?_) (fun h => ?_) | refine dl_d rfl rfl (fun K kt kf => op_e (d := some _) hG rfl rfl rfl rfl kt kf) (fun h => ?_) (fun h => ?_) | refine dl_ne rfl rfl (fun K kt kf => op_ne (d := some _) hG rfl rfl rfl rfl kt kf) (fun h => ?_) (fun h => ?_) | refine dl_d rfl rfl (fun K kt kf => op_beq (d := some _) hG rfl rfl rfl rfl kt kf) (fun h => ?_) (fun h => ?_)
    | refine dl_cons rfl rfl (fun K kk => op_load (d := some _) hG rfl rfl (by assumption) (by exact rfl) rfl rfl kk) ?_ | refine dl_cons rfl rfl (fun K kk => op_q (d := some _) hG rfl rfl rfl kk) ?_
    | refine dl_s rfl rfl rfl ?_ | (refine dl_nil ?_; show AW _ _ _ _ _ _) | refine aw_draw mix rfl ?_)
  refine al_cons rfl (op_call (d := some _) rfl rfl rfl rfl rfl ?_)
  refine (qCostN σ12 0 1 10 _ _ _ _ _ _ _ _ _ (by omega)).dropped ?_
  rw [show costE 1 10 0 = 11 by decide]
  repeat' (first
    | (refine al_cons rfl ?_; first
      | refine op_m (d := some _) hG rfl rfl rfl rfl ?_
      | refine op_eqs (d := some _) hG rfl rfl rfl rfl ?_ | refine op_nes (d := some _) hG rfl rfl rfl rfl ?_ | refine op_beqs (d := some _) hG rfl rfl rfl rfl ?_
      | refine op_d (d := some _) hG rfl rfl rfl rfl (fun h => ?_) (fun h => ?_) | refine op_e (d := some _) hG rfl rfl rfl rfl (fun h => ?_) (fun h => ?_) | refine op_ne (d := some _) hG rfl rfl rfl rfl (fun h => ?_) (fun h => ?_) | refine op_beq (d := some _) hG rfl rfl rfl rfl (fun h => ?_) (fun h => ?_)
      | refine op_rem (d := some _) hG rfl rfl rfl rfl rfl rfl (by omega) ?_ | refine op_shr (d := some _) hG rfl rfl rfl rfl rfl rfl (by omega) ?_ | refine op_w (d := some _) hG rfl rfl rfl rfl (by omega) ?_ | refine op_wu (d := some _) hG rfl rfl rfl rfl (by omega) ?_ | refine op_w16 (d := some _) hG rfl rfl rfl rfl (by omega) ?_ | refine op_w8 (d := some _) hG rfl rfl rfl rfl (by omega) ?_
      | refine op_load (d := some _) hG rfl rfl (by assumption) (by exact rfl) rfl rfl ?_ | refine op_q (d := some _) hG rfl rfl rfl ?_)
    | refine al_s (d := some _) rfl rfl rfl ?_ | (refine al_nil ?_; show AW _ _ _ _ _ _) | refine aw_seq ?_ | refine aw_regL ?_ | refine aw_if_t rfl ?_ | refine aw_if_f rfl ?_
    | (refine aw_skip ?_; show AW _ _ _ _ _ _) | refine aw_block ?_ | (refine aw_exit ?_; show AW _ _ _ _ _ _) | (refine aw_goto ?_; try dsimp only [thenA, inBlockA, jumpA, noGotoA]) | (refine aw_ret ?_; try dsimp only [thenA, inBlockA, jumpA, noGotoA])
    | refine dl_cons rfl rfl (fun K kk => op_m (d := some _) hG rfl rfl rfl rfl kk) ?_
    | refine dl_cons rfl rfl (fun K kk => op_eqs (d := some _) hG rfl rfl rfl rfl kk) ?_ | refine dl_cons rfl rfl (fun K kk => op_nes (d := some _) hG rfl rfl rfl rfl kk) ?_ | refine dl_cons rfl rfl (fun K kk => op_beqs (d := some _) hG rfl rfl rfl rfl kk) ?_
    | refine dl_d rfl rfl (fun K kt kf => op_d (d := some _) hG rfl rfl rfl rfl kt kf) (fun h => ?_) (fun h => ?_) | refine dl_d rfl rfl (fun K kt kf => op_e (d := some _) hG rfl rfl rfl rfl kt kf) (fun h => ?_) (fun h => ?_) | refine dl_ne rfl rfl (fun K kt kf => op_ne (d := some _) hG rfl rfl rfl rfl kt kf) (fun h => ?_) (fun h => ?_) | refine dl_d rfl rfl (fun K kt kf => op_beq (d := some _) hG rfl rfl rfl rfl kt kf) (fun h => ?_) (fun h => ?_)
    | refine dl_cons rfl rfl (fun K kk => op_load (d := some _) hG rfl rfl (by assumption) (by exact rfl) rfl rfl kk) ?_ | refine dl_cons rfl rfl (fun K kk => op_q (d := some _) hG rfl rfl rfl kk) ?_
    | refine dl_s rfl rfl rfl ?_ | (refine dl_nil ?_; show AW _ _ _ _ _ _) | refine aw_draw mix rfl ?_)
  refine al_cons rfl (op_build (d := some _) hG rfl rfl rfl rfl rfl rfl rfl ?_)
  repeat' (first
    | (refine al_cons rfl ?_; first
      | refine op_m (d := some _) hG rfl rfl rfl rfl ?_
      | refine op_eqs (d := some _) hG rfl rfl rfl rfl ?_ | refine op_nes (d := some _) hG rfl rfl rfl rfl ?_ | refine op_beqs (d := some _) hG rfl rfl rfl rfl ?_
      | refine op_d (d := some _) hG rfl rfl rfl rfl (fun h => ?_) (fun h => ?_) | refine op_e (d := some _) hG rfl rfl rfl rfl (fun h => ?_) (fun h => ?_) | refine op_ne (d := some _) hG rfl rfl rfl rfl (fun h => ?_) (fun h => ?_) | refine op_beq (d := some _) hG rfl rfl rfl rfl (fun h => ?_) (fun h => ?_)
      | refine op_rem (d := some _) hG rfl rfl rfl rfl rfl rfl (by omega) ?_ | refine op_shr (d := some _) hG rfl rfl rfl rfl rfl rfl (by omega) ?_ | refine op_w (d := some _) hG rfl rfl rfl rfl (by omega) ?_ | refine op_wu (d := some _) hG rfl rfl rfl rfl (by omega) ?_ | refine op_w16 (d := some _) hG rfl rfl rfl rfl (by omega) ?_ | refine op_w8 (d := some _) hG rfl rfl rfl rfl (by omega) ?_
      | refine op_load (d := some _) hG rfl rfl (by assumption) (by exact rfl) rfl rfl ?_ | refine op_q (d := some _) hG rfl rfl rfl ?_)
    | refine al_s (d := some _) rfl rfl rfl ?_ | (refine al_nil ?_; show AW _ _ _ _ _ _) | refine aw_seq ?_ | refine aw_regL ?_ | refine aw_if_t rfl ?_ | refine aw_if_f rfl ?_
    | (refine aw_skip ?_; show AW _ _ _ _ _ _) | refine aw_block ?_ | (refine aw_exit ?_; show AW _ _ _ _ _ _) | (refine aw_goto ?_; try dsimp only [thenA, inBlockA, jumpA, noGotoA]) | (refine aw_ret ?_; try dsimp only [thenA, inBlockA, jumpA, noGotoA])
    | refine dl_cons rfl rfl (fun K kk => op_m (d := some _) hG rfl rfl rfl rfl kk) ?_
    | refine dl_cons rfl rfl (fun K kk => op_eqs (d := some _) hG rfl rfl rfl rfl kk) ?_ | refine dl_cons rfl rfl (fun K kk => op_nes (d := some _) hG rfl rfl rfl rfl kk) ?_ | refine dl_cons rfl rfl (fun K kk => op_beqs (d := some _) hG rfl rfl rfl rfl kk) ?_
    | refine dl_d rfl rfl (fun K kt kf => op_d (d := some _) hG rfl rfl rfl rfl kt kf) (fun h => ?_) (fun h => ?_) | refine dl_d rfl rfl (fun K kt kf => op_e (d := some _) hG rfl rfl rfl rfl kt kf) (fun h => ?_) (fun h => ?_) | refine dl_ne rfl rfl (fun K kt kf => op_ne (d := some _) hG rfl rfl rfl rfl kt kf) (fun h => ?_) (fun h => ?_) | refine dl_d rfl rfl (fun K kt kf => op_beq (d := some _) hG rfl rfl rfl rfl kt kf) (fun h => ?_) (fun h => ?_)
    | refine dl_cons rfl rfl (fun K kk => op_load (d := some _) hG rfl rfl (by assumption) (by exact rfl) rfl rfl kk) ?_ | refine dl_cons rfl rfl (fun K kk => op_q (d := some _) hG rfl rfl rfl kk) ?_
    | refine dl_s rfl rfl rfl ?_ | (refine dl_nil ?_; show AW _ _ _ _ _ _) | refine aw_draw mix rfl ?_)
  refine al_cons rfl (op_call (d := some _) rfl rfl rfl rfl rfl ?_)
  refine (qCostN σ12 0 2 0 _ _ _ _ _ _ _ _ _ (by omega)).dropped ?_
  rw [show costE 2 0 0 = 1 by decide]
  repeat' (first
    | (refine al_cons rfl ?_; first
      | refine op_m (d := some _) hG rfl rfl rfl rfl ?_
      | refine op_eqs (d := some _) hG rfl rfl rfl rfl ?_ | refine op_nes (d := some _) hG rfl rfl rfl rfl ?_ | refine op_beqs (d := some _) hG rfl rfl rfl rfl ?_
      | refine op_d (d := some _) hG rfl rfl rfl rfl (fun h => ?_) (fun h => ?_) | refine op_e (d := some _) hG rfl rfl rfl rfl (fun h => ?_) (fun h => ?_) | refine op_ne (d := some _) hG rfl rfl rfl rfl (fun h => ?_) (fun h => ?_) | refine op_beq (d := some _) hG rfl rfl rfl rfl (fun h => ?_) (fun h => ?_)
      | refine op_rem (d := some _) hG rfl rfl rfl rfl rfl rfl (by omega) ?_ | refine op_shr (d := some _) hG rfl rfl rfl rfl rfl rfl (by omega) ?_ | refine op_w (d := some _) hG rfl rfl rfl rfl (by omega) ?_ | refine op_wu (d := some _) hG rfl rfl rfl rfl (by omega) ?_ | refine op_w16 (d := some _) hG rfl rfl rfl rfl (by omega) ?_ | refine op_w8 (d := some _) hG rfl rfl rfl rfl (by omega) ?_
      | refine op_load (d := some _) hG rfl rfl (by assumption) (by exact rfl) rfl rfl ?_ | refine op_q (d := some _) hG rfl rfl rfl ?_)
    | refine al_s (d := some _) rfl rfl rfl ?_ | (refine al_nil ?_; show AW _ _ _ _ _ _) | refine aw_seq ?_ | refine aw_regL ?_ | refine aw_if_t rfl ?_ | refine aw_if_f rfl ?_
    | (refine aw_skip ?_; show AW _ _ _ _ _ _) | refine aw_block ?_ | (refine aw_exit ?_; show AW _ _ _ _ _ _) | (refine aw_goto ?_; try dsimp only [thenA, inBlockA, jumpA, noGotoA]) | (refine aw_ret ?_; try dsimp only [thenA, inBlockA, jumpA, noGotoA])
    | refine dl_cons rfl rfl (fun K kk => op_m (d := some _) hG rfl rfl rfl rfl kk) ?_
    | refine dl_cons rfl rfl (fun K kk => op_eqs (d := some _) hG rfl rfl rfl rfl kk) ?_ | refine dl_cons rfl rfl (fun K kk => op_nes (d := some _) hG rfl rfl rfl rfl kk) ?_ | refine dl_cons rfl rfl (fun K kk => op_beqs (d := some _) hG rfl rfl rfl rfl kk) ?_
    | refine dl_d rfl rfl (fun K kt kf => op_d (d := some _) hG rfl rfl rfl rfl kt kf) (fun h => ?_) (fun h => ?_) | refine dl_d rfl rfl (fun K kt kf => op_e (d := some _) hG rfl rfl rfl rfl kt kf) (fun h => ?_) (fun h => ?_) | refine dl_ne rfl rfl (fun K kt kf => op_ne (d := some _) hG rfl rfl rfl rfl kt kf) (fun h => ?_) (fun h => ?_) | refine dl_d rfl rfl (fun K kt kf => op_beq (d := some _) hG rfl rfl rfl rfl kt kf) (fun h => ?_) (fun h => ?_)
    | refine dl_cons rfl rfl (fun K kk => op_load (d := some _) hG rfl rfl (by assumption) (by exact rfl) rfl rfl kk) ?_ | refine dl_cons rfl rfl (fun K kk => op_q (d := some _) hG rfl rfl rfl kk) ?_
    | refine dl_s rfl rfl rfl ?_ | (refine dl_nil ?_; show AW _ _ _ _ _ _) | refine aw_draw mix rfl ?_)
  refine al_cons rfl (op_mkslice (d := some _) hG rfl rfl rfl rfl rfl rfl rfl rfl ?_)
  refine al_cons rfl (op_build (d := some _) hG rfl rfl rfl rfl rfl rfl rfl ?_)
  repeat' (first
    | (refine al_cons rfl ?_; first
      | refine op_m (d := some _) hG rfl rfl rfl rfl ?_
      | refine op_eqs (d := some _) hG rfl rfl rfl rfl ?_ | refine op_nes (d := some _) hG rfl rfl rfl rfl ?_ | refine op_beqs (d := some _) hG rfl rfl rfl rfl ?_
      | refine op_d (d := some _) hG rfl rfl rfl rfl (fun h => ?_) (fun h => ?_) | refine op_e (d := some _) hG rfl rfl rfl rfl (fun h => ?_) (fun h => ?_) | refine op_ne (d := some _) hG rfl rfl rfl rfl (fun h => ?_) (fun h => ?_) | refine op_beq (d := some _) hG rfl rfl rfl rfl (fun h => ?_) (fun h => ?_)
      | refine op_rem (d := some _) hG rfl rfl rfl rfl rfl rfl (by omega) ?_ | refine op_shr (d := some _) hG rfl rfl rfl rfl rfl rfl (by omega) ?_ | refine op_w (d := some _) hG rfl rfl rfl rfl (by omega) ?_ | refine op_wu (d := some _) hG rfl rfl rfl rfl (by omega) ?_ | refine op_w16 (d := some _) hG rfl rfl rfl rfl (by omega) ?_ | refine op_w8 (d := some _) hG rfl rfl rfl rfl (by omega) ?_
      | refine op_load (d := some _) hG rfl rfl (by assumption) (by exact rfl) rfl rfl ?_ | refine op_q (d := some _) hG rfl rfl rfl ?_)
    | refine al_s (d := some _) rfl rfl rfl ?_ | (refine al_nil ?_; show AW _ _ _ _ _ _) | refine aw_seq ?_ | refine aw_regL ?_ | refine aw_if_t rfl ?_ | refine aw_if_f rfl ?_
    | (refine aw_skip ?_; show AW _ _ _ _ _ _) | refine aw_block ?_ | (refine aw_exit ?_; show AW _ _ _ _ _ _) | (refine aw_goto ?_; try dsimp only [thenA, inBlockA, jumpA, noGotoA]) | (refine aw_ret ?_; try dsimp only [thenA, inBlockA, jumpA, noGotoA])
    | refine dl_cons rfl rfl (fun K kk => op_m (d := some _) hG rfl rfl rfl rfl kk) ?_
    | refine dl_cons rfl rfl (fun K kk => op_eqs (d := some _) hG rfl rfl rfl rfl kk) ?_ | refine dl_cons rfl rfl (fun K kk => op_nes (d := some _) hG rfl rfl rfl rfl kk) ?_ | refine dl_cons rfl rfl (fun K kk => op_beqs (d := some _) hG rfl rfl rfl rfl kk) ?_
    | refine dl_d rfl rfl (fun K kt kf => op_d (d := some _) hG rfl rfl rfl rfl kt kf) (fun h => ?_) (fun h => ?_) | refine dl_d rfl rfl (fun K kt kf => op_e (d := some _) hG rfl rfl rfl rfl kt kf) (fun h => ?_) (fun h => ?_) | refine dl_ne rfl rfl (fun K kt kf => op_ne (d := some _) hG rfl rfl rfl rfl kt kf) (fun h => ?_) (fun h => ?_) | refine dl_d rfl rfl (fun K kt kf => op_beq (d := some _) hG rfl rfl rfl rfl kt kf) (fun h => ?_) (fun h => ?_)
    | refine dl_cons rfl rfl (fun K kk => op_load (d := some _) hG rfl rfl (by assumption) (by exact rfl) rfl rfl kk) ?_ | refine dl_cons rfl rfl (fun K kk => op_q (d := some _) hG rfl rfl rfl kk) ?_
    | refine dl_s rfl rfl rfl ?_ | (refine dl_nil ?_; show AW _ _ _ _ _ _) | refine aw_draw mix rfl ?_)
  refine al_cons rfl (op_call (d := some _) rfl rfl rfl rfl rfl ?_)
  refine (qCostN σ12 0 3 0 _ _ _ _ _ _ _ _ _ (by omega)).dropped ?_
  rw [show costE 3 0 0 = 2 by decide]
  repeat' (first
    | (refine al_cons rfl ?_; first
      | refine op_m (d := some _) hG rfl rfl rfl rfl ?_
      | refine op_eqs (d := some _) hG rfl rfl rfl rfl ?_ | refine op_nes (d := some _) hG rfl rfl rfl rfl ?_ | refine op_beqs (d := some _) hG rfl rfl rfl rfl ?_
      | refine op_d (d := some _) hG rfl rfl rfl rfl (fun h => ?_) (fun h => ?_) | refine op_e (d := some _) hG rfl rfl rfl rfl (fun h => ?_) (fun h => ?_) | refine op_ne (d := some _) hG rfl rfl rfl rfl (fun h => ?_) (fun h => ?_) | refine op_beq (d := some _) hG rfl rfl rfl rfl (fun h => ?_) (fun h => ?_)
      | refine op_rem (d := some _) hG rfl rfl rfl rfl rfl rfl (by omega) ?_ | refine op_shr (d := some _) hG rfl rfl rfl rfl rfl rfl (by omega) ?_ | refine op_w (d := some _) hG rfl rfl rfl rfl (by omega) ?_ | refine op_wu (d := some _) hG rfl rfl rfl rfl (by omega) ?_ | refine op_w16 (d := some _) hG rfl rfl rfl rfl (by omega) ?_ | refine op_w8 (d := some _) hG rfl rfl rfl rfl (by omega) ?_
      | refine op_load (d := some _) hG rfl rfl (by assumption) (by exact rfl) rfl rfl ?_ | refine op_q (d := some _) hG rfl rfl rfl ?_)
    | refine al_s (d := some _) rfl rfl rfl ?_ | (refine al_nil ?_; show AW _ _ _ _ _ _) | refine aw_seq ?_ | refine aw_regL ?_ | refine aw_if_t rfl ?_ | refine aw_if_f rfl ?_
    | (refine aw_skip ?_; show AW _ _ _ _ _ _) | refine aw_block ?_ | (refine aw_exit ?_; show AW _ _ _ _ _ _) | (refine aw_goto ?_; try dsimp only [thenA, inBlockA, jumpA, noGotoA]) | (refine aw_ret ?_; try dsimp only [thenA, inBlockA, jumpA, noGotoA])
    | refine dl_cons rfl rfl (fun K kk => op_m (d := some _) hG rfl rfl rfl rfl kk) ?_
    | refine dl_cons rfl rfl (fun K kk => op_eqs (d := some _) hG rfl rfl rfl rfl kk) ?_ | refine dl_cons rfl rfl (fun K kk => op_nes (d := some _) hG rfl rfl rfl rfl kk) ?_ | refine dl_cons rfl rfl (fun K kk => op_beqs (d := some _) hG rfl rfl rfl rfl kk) ?_
    | refine dl_d rfl rfl (fun K kt kf => op_d (d := some _) hG rfl rfl rfl rfl kt kf) (fun h => ?_) (fun h => ?_) | refine dl_d rfl rfl (fun K kt kf => op_e (d := some _) hG rfl rfl rfl rfl kt kf) (fun h => ?_) (fun h => ?_) | refine dl_ne rfl rfl (fun K kt kf => op_ne (d := some _) hG rfl rfl rfl rfl kt kf) (fun h => ?_) (fun h => ?_) | refine dl_d rfl rfl (fun K kt kf => op_beq (d := some _) hG rfl rfl rfl rfl kt kf) (fun h => ?_) (fun h => ?_)
    | refine dl_cons rfl rfl (fun K kk => op_load (d := some _) hG rfl rfl (by assumption) (by exact rfl) rfl rfl kk) ?_ | refine dl_cons rfl rfl (fun K kk => op_q (d := some _) hG rfl rfl rfl kk) ?_
    | refine dl_s rfl rfl rfl ?_ | (refine dl_nil ?_; show AW _ _ _ _ _ _) | refine aw_draw mix rfl ?_)
  refine al_cons rfl (op_build (d := some _) hG rfl rfl rfl rfl rfl rfl rfl ?_)
  repeat' (first
    | (refine al_cons rfl ?_; first
      | refine op_m (d := some _) hG rfl rfl rfl rfl ?_
      | refine op_eqs (d := some _) hG rfl rfl rfl rfl ?_ | refine op_nes (d := some _) hG rfl rfl rfl rfl ?_ | refine op_beqs (d := some _) hG rfl rfl rfl rfl ?_
      | refine op_d (d := some _) hG rfl rfl rfl rfl (fun h => ?_) (fun h => ?_) | refine op_e (d := some _) hG rfl rfl rfl rfl (fun h => ?_) (fun h => ?_) | refine op_ne (d := some _) hG rfl rfl rfl rfl (fun h => ?_) (fun h => ?_) | refine op_beq (d := some _) hG rfl rfl rfl rfl (fun h => ?_) (fun h => ?_)
      | refine op_rem (d := some _) hG rfl rfl rfl rfl rfl rfl (by omega) ?_ | refine op_shr (d := some _) hG rfl rfl rfl rfl rfl rfl (by omega) ?_ | refine op_w (d := some _) hG rfl rfl rfl rfl (by omega) ?_ | refine op_wu (d := some _) hG rfl rfl rfl rfl (by omega) ?_ | refine op_w16 (d := some _) hG rfl rfl rfl rfl (by omega) ?_ | refine op_w8 (d := some _) hG rfl rfl rfl rfl (by omega) ?_
      | refine op_load (d := some _) hG rfl rfl (by assumption) (by exact rfl) rfl rfl ?_ | refine op_q (d := some _) hG rfl rfl rfl ?_)
    | refine al_s (d := some _) rfl rfl rfl ?_ | (refine al_nil ?_; show AW _ _ _ _ _ _) | refine aw_seq ?_ | refine aw_regL ?_ | refine aw_if_t rfl ?_ | refine aw_if_f rfl ?_
    | (refine aw_skip ?_; show AW _ _ _ _ _ _) | refine aw_block ?_ | (refine aw_exit ?_; show AW _ _ _ _ _ _) | (refine aw_goto ?_; try dsimp only [thenA, inBlockA, jumpA, noGotoA]) | (refine aw_ret ?_; try dsimp only [thenA, inBlockA, jumpA, noGotoA])
    | refine dl_cons rfl rfl (fun K kk => op_m (d := some _) hG rfl rfl rfl rfl kk) ?_
    | refine dl_cons rfl rfl (fun K kk => op_eqs (d := some _) hG rfl rfl rfl rfl kk) ?_ | refine dl_cons rfl rfl (fun K kk => op_nes (d := some _) hG rfl rfl rfl rfl kk) ?_ | refine dl_cons rfl rfl (fun K kk => op_beqs (d := some _) hG rfl rfl rfl rfl kk) ?_
    | refine dl_d rfl rfl (fun K kt kf => op_d (d := some _) hG rfl rfl rfl rfl kt kf) (fun h => ?_) (fun h => ?_) | refine dl_d rfl rfl (fun K kt kf => op_e (d := some _) hG rfl rfl rfl rfl kt kf) (fun h => ?_) (fun h => ?_) | refine dl_ne rfl rfl (fun K kt kf => op_ne (d := some _) hG rfl rfl rfl rfl kt kf) (fun h => ?_) (fun h => ?_) | refine dl_d rfl rfl (fun K kt kf => op_beq (d := some _) hG rfl rfl rfl rfl kt kf) (fun h => ?_) (fun h => ?_)
    | refine dl_cons rfl rfl (fun K kk => op_load (d := some _) hG rfl rfl (by assumption) (by exact rfl) rfl rfl kk) ?_ | refine dl_cons rfl rfl (fun K kk => op_q (d := some _) hG rfl rfl rfl kk) ?_
    | refine dl_s rfl rfl rfl ?_ | (refine dl_nil ?_; show AW _ _ _ _ _ _) | refine aw_draw mix rfl ?_)
  refine al_cons rfl (op_call (d := some _) rfl rfl rfl rfl rfl ?_)
  refine (qCostN σ12 0 4 0 _ _ _ _ _ _ _ _ _ (by omega)).dropped ?_
  rw [show costE 4 0 0 = 8 by decide]
  repeat' (first
    | (refine al_cons rfl ?_; first
      | refine op_m (d := some _) hG rfl rfl rfl rfl ?_
      | refine op_eqs (d := some _) hG rfl rfl rfl rfl ?_ | refine op_nes (d := some _) hG rfl rfl rfl rfl ?_ | refine op_beqs (d := some _) hG rfl rfl rfl rfl ?_
      | refine op_d (d := some _) hG rfl rfl rfl rfl (fun h => ?_) (fun h => ?_) | refine op_e (d := some _) hG rfl rfl rfl rfl (fun h => ?_) (fun h => ?_) | refine op_ne (d := some _) hG rfl rfl rfl rfl (fun h => ?_) (fun h => ?_) | refine op_beq (d := some _) hG rfl rfl rfl rfl (fun h => ?_) (fun h => ?_)
      | refine op_rem (d := some _) hG rfl rfl rfl rfl rfl rfl (by omega) ?_ | refine op_shr (d := some _) hG rfl rfl rfl rfl rfl rfl (by omega) ?_ | refine op_w (d := some _) hG rfl rfl rfl rfl (by omega) ?_ | refine op_wu (d := some _) hG rfl rfl rfl rfl (by omega) ?_ | refine op_w16 (d := some _) hG rfl rfl rfl rfl (by omega) ?_ | refine op_w8 (d := some _) hG rfl rfl rfl rfl (by omega) ?_
      | refine op_load (d := some _) hG rfl rfl (by assumption) (by exact rfl) rfl rfl ?_ | refine op_q (d := some _) hG rfl rfl rfl ?_)
    | refine al_s (d := some _) rfl rfl rfl ?_ | (refine al_nil ?_; show AW _ _ _ _ _ _) | refine aw_seq ?_ | refine aw_regL ?_ | refine aw_if_t rfl ?_ | refine aw_if_f rfl ?_
    | (refine aw_skip ?_; show AW _ _ _ _ _ _) | refine aw_block ?_ | (refine aw_exit ?_; show AW _ _ _ _ _ _) | (refine aw_goto ?_; try dsimp only [thenA, inBlockA, jumpA, noGotoA]) | (refine aw_ret ?_; try dsimp only [thenA, inBlockA, jumpA, noGotoA])
    | refine dl_cons rfl rfl (fun K kk => op_m (d := some _) hG rfl rfl rfl rfl kk) ?_
    | refine dl_cons rfl rfl (fun K kk => op_eqs (d := some _) hG rfl rfl rfl rfl kk) ?_ | refine dl_cons rfl rfl (fun K kk => op_nes (d := some _) hG rfl rfl rfl rfl kk) ?_ | refine dl_cons rfl rfl (fun K kk => op_beqs (d := some _) hG rfl rfl rfl rfl kk) ?_
    | refine dl_d rfl rfl (fun K kt kf => op_d (d := some _) hG rfl rfl rfl rfl kt kf) (fun h => ?_) (fun h => ?_) | refine dl_d rfl rfl (fun K kt kf => op_e (d := some _) hG rfl rfl rfl rfl kt kf) (fun h => ?_) (fun h => ?_) | refine dl_ne rfl rfl (fun K kt kf => op_ne (d := some _) hG rfl rfl rfl rfl kt kf) (fun h => ?_) (fun h => ?_) | refine dl_d rfl rfl (fun K kt kf => op_beq (d := some _) hG rfl rfl rfl rfl kt kf) (fun h => ?_) (fun h => ?_)
    | refine dl_cons rfl rfl (fun K kk => op_load (d := some _) hG rfl rfl (by assumption) (by exact rfl) rfl rfl kk) ?_ | refine dl_cons rfl rfl (fun K kk => op_q (d := some _) hG rfl rfl rfl kk) ?_
    | refine dl_s rfl rfl rfl ?_ | (refine dl_nil ?_; show AW _ _ _ _ _ _) | refine aw_draw mix rfl ?_)
  refine al_cons rfl (op_build (d := some _) hG rfl rfl rfl rfl rfl rfl rfl ?_)
  repeat' (first
    | (refine al_cons rfl ?_; first
      | refine op_m (d := some _) hG rfl rfl rfl rfl ?_
      | refine op_eqs (d := some _) hG rfl rfl rfl rfl ?_ | refine op_nes (d := some _) hG rfl rfl rfl rfl ?_ | refine op_beqs (d := some _) hG rfl rfl rfl rfl ?_
      | refine op_d (d := some _) hG rfl rfl rfl rfl (fun h => ?_) (fun h => ?_) | refine op_e (d := some _) hG rfl rfl rfl rfl (fun h => ?_) (fun h => ?_) | refine op_ne (d := some _) hG rfl rfl rfl rfl (fun h => ?_) (fun h => ?_) | refine op_beq (d := some _) hG rfl rfl rfl rfl (fun h => ?_) (fun h => ?_)
      | refine op_rem (d := some _) hG rfl rfl rfl rfl rfl rfl (by omega) ?_ | refine op_shr (d := some _) hG rfl rfl rfl rfl rfl rfl (by omega) ?_ | refine op_w (d := some _) hG rfl rfl rfl rfl (by omega) ?_ | refine op_wu (d := some _) hG rfl rfl rfl rfl (by omega) ?_ | refine op_w16 (d := some _) hG rfl rfl rfl rfl (by omega) ?_ | refine op_w8 (d := some _) hG rfl rfl rfl rfl (by omega) ?_
      | refine op_load (d := some _) hG rfl rfl (by assumption) (by exact rfl) rfl rfl ?_ | refine op_q (d := some _) hG rfl rfl rfl ?_)
    | refine al_s (d := some _) rfl rfl rfl ?_ | (refine al_nil ?_; show AW _ _ _ _ _ _) | refine aw_seq ?_ | refine aw_regL ?_ | refine aw_if_t rfl ?_ | refine aw_if_f rfl ?_
    | (refine aw_skip ?_; show AW _ _ _ _ _ _) | refine aw_block ?_ | (refine aw_exit ?_; show AW _ _ _ _ _ _) | (refine aw_goto ?_; try dsimp only [thenA, inBlockA, jumpA, noGotoA]) | (refine aw_ret ?_; try dsimp only [thenA, inBlockA, jumpA, noGotoA])
    | refine dl_cons rfl rfl (fun K kk => op_m (d := some _) hG rfl rfl rfl rfl kk) ?_
    | refine dl_cons rfl rfl (fun K kk => op_eqs (d := some _) hG rfl rfl rfl rfl kk) ?_ | refine dl_cons rfl rfl (fun K kk => op_nes (d := some _) hG rfl rfl rfl rfl kk) ?_ | refine dl_cons rfl rfl (fun K kk => op_beqs (d := some _) hG rfl rfl rfl rfl kk) ?_
    | refine dl_d rfl rfl (fun K kt kf => op_d (d := some _) hG rfl rfl rfl rfl kt kf) (fun h => ?_) (fun h => ?_) | refine dl_d rfl rfl (fun K kt kf => op_e (d := some _) hG rfl rfl rfl rfl kt kf) (fun h => ?_) (fun h => ?_) | refine dl_ne rfl rfl (fun K kt kf => op_ne (d := some _) hG rfl rfl rfl rfl kt kf) (fun h => ?_) (fun h => ?_) | refine dl_d rfl rfl (fun K kt kf => op_beq (d := some _) hG rfl rfl rfl rfl kt kf) (fun h => ?_) (fun h => ?_)
    | refine dl_cons rfl rfl (fun K kk => op_load (d := some _) hG rfl rfl (by assumption) (by exact rfl) rfl rfl kk) ?_ | refine dl_cons rfl rfl (fun K kk => op_q (d := some _) hG rfl rfl rfl kk) ?_
    | refine dl_s rfl rfl rfl ?_ | (refine dl_nil ?_; show AW _ _ _ _ _ _) | refine aw_draw mix rfl ?_)
  refine al_cons rfl (op_call (d := some _) rfl rfl rfl rfl rfl ?_)
  refine (qCostN σ12 0 9 0 _ _ _ _ _ _ _ _ _ (by omega)).dropped ?_
  rw [show costE 9 0 0 = 0 by decide]
  repeat' (first
    | (refine al_cons rfl ?_; first
      | refine op_m (d := some _) hG rfl rfl rfl rfl ?_
      | refine op_eqs (d := some _) hG rfl rfl rfl rfl ?_ | refine op_nes (d := some _) hG rfl rfl rfl rfl ?_ | refine op_beqs (d := some _) hG rfl rfl rfl rfl ?_
      | refine op_d (d := some _) hG rfl rfl rfl rfl (fun h => ?_) (fun h => ?_) | refine op_e (d := some _) hG rfl rfl rfl rfl (fun h => ?_) (fun h => ?_) | refine op_ne (d := some _) hG rfl rfl rfl rfl (fun h => ?_) (fun h => ?_) | refine op_beq (d := some _) hG rfl rfl rfl rfl (fun h => ?_) (fun h => ?_)
      | refine op_rem (d := some _) hG rfl rfl rfl rfl rfl rfl (by omega) ?_ | refine op_shr (d := some _) hG rfl rfl rfl rfl rfl rfl (by omega) ?_ | refine op_w (d := some _) hG rfl rfl rfl rfl (by omega) ?_ | refine op_wu (d := some _) hG rfl rfl rfl rfl (by omega) ?_ | refine op_w16 (d := some _) hG rfl rfl rfl rfl (by omega) ?_ | refine op_w8 (d := some _) hG rfl rfl rfl rfl (by omega) ?_
      | refine op_load (d := some _) hG rfl rfl (by assumption) (by exact rfl) rfl rfl ?_ | refine op_q (d := some _) hG rfl rfl rfl ?_)
    | refine al_s (d := some _) rfl rfl rfl ?_ | (refine al_nil ?_; show AW _ _ _ _ _ _) | refine aw_seq ?_ | refine aw_regL ?_ | refine aw_if_t rfl ?_ | refine aw_if_f rfl ?_
    | (refine aw_skip ?_; show AW _ _ _ _ _ _) | refine aw_block ?_ | (refine aw_exit ?_; show AW _ _ _ _ _ _) | (refine aw_goto ?_; try dsimp only [thenA, inBlockA, jumpA, noGotoA]) | (refine aw_ret ?_; try dsimp only [thenA, inBlockA, jumpA, noGotoA])
    | refine dl_cons rfl rfl (fun K kk => op_m (d := some _) hG rfl rfl rfl rfl kk) ?_
    | refine dl_cons rfl rfl (fun K kk => op_eqs (d := some _) hG rfl rfl rfl rfl kk) ?_ | refine dl_cons rfl rfl (fun K kk => op_nes (d := some _) hG rfl rfl rfl rfl kk) ?_ | refine dl_cons rfl rfl (fun K kk => op_beqs (d := some _) hG rfl rfl rfl rfl kk) ?_
    | refine dl_d rfl rfl (fun K kt kf => op_d (d := some _) hG rfl rfl rfl rfl kt kf) (fun h => ?_) (fun h => ?_) | refine dl_d rfl rfl (fun K kt kf => op_e (d := some _) hG rfl rfl rfl rfl kt kf) (fun h => ?_) (fun h => ?_) | refine dl_ne rfl rfl (fun K kt kf => op_ne (d := some _) hG rfl rfl rfl rfl kt kf) (fun h => ?_) (fun h => ?_) | refine dl_d rfl rfl (fun K kt kf => op_beq (d := some _) hG rfl rfl rfl rfl kt kf) (fun h => ?_) (fun h => ?_)
    | refine dl_cons rfl rfl (fun K kk => op_load (d := some _) hG rfl rfl (by assumption) (by exact rfl) rfl rfl kk) ?_ | refine dl_cons rfl rfl (fun K kk => op_q (d := some _) hG rfl rfl rfl kk) ?_
    | refine dl_s rfl rfl rfl ?_ | (refine dl_nil ?_; show AW _ _ _ _ _ _) | refine aw_draw mix rfl ?_)
  refine al_cons rfl (op_call (d := some _) rfl rfl rfl rfl rfl ?_)
  refine (qSub σ12 0 1 10 3 4 (by omega) (by omega)).dropped ?_
  rw [show subE 3 4 = 0 by decide]
  repeat' (first
    | (refine al_cons rfl ?_; first
      | refine op_m (d := some _) hG rfl rfl rfl rfl ?_
      | refine op_eqs (d := some _) hG rfl rfl rfl rfl ?_ | refine op_nes (d := some _) hG rfl rfl rfl rfl ?_ | refine op_beqs (d := some _) hG rfl rfl rfl rfl ?_
      | refine op_d (d := some _) hG rfl rfl rfl rfl (fun h => ?_) (fun h => ?_) | refine op_e (d := some _) hG rfl rfl rfl rfl (fun h => ?_) (fun h => ?_) | refine op_ne (d := some _) hG rfl rfl rfl rfl (fun h => ?_) (fun h => ?_) | refine op_beq (d := some _) hG rfl rfl rfl rfl (fun h => ?_) (fun h => ?_)
      | refine op_rem (d := some _) hG rfl rfl rfl rfl rfl rfl (by omega) ?_ | refine op_shr (d := some _) hG rfl rfl rfl rfl rfl rfl (by omega) ?_ | refine op_w (d := some _) hG rfl rfl rfl rfl (by omega) ?_ | refine op_wu (d := some _) hG rfl rfl rfl rfl (by omega) ?_ | refine op_w16 (d := some _) hG rfl rfl rfl rfl (by omega) ?_ | refine op_w8 (d := some _) hG rfl rfl rfl rfl (by omega) ?_
      | refine op_load (d := some _) hG rfl rfl (by assumption) (by exact rfl) rfl rfl ?_ | refine op_q (d := some _) hG rfl rfl rfl ?_)
    | refine al_s (d := some _) rfl rfl rfl ?_ | (refine al_nil ?_; show AW _ _ _ _ _ _) | refine aw_seq ?_ | refine aw_regL ?_ | refine aw_if_t rfl ?_ | refine aw_if_f rfl ?_
    | (refine aw_skip ?_; show AW _ _ _ _ _ _) | refine aw_block ?_ | (refine aw_exit ?_; show AW _ _ _ _ _ _) | (refine aw_goto ?_; try dsimp only [thenA, inBlockA, jumpA, noGotoA]) | (refine aw_ret ?_; try dsimp only [thenA, inBlockA, jumpA, noGotoA])
    | refine dl_cons rfl rfl (fun K kk => op_m (d := some _) hG rfl rfl rfl rfl kk) ?_
    | refine dl_cons rfl rfl (fun K kk => op_eqs (d := some _) hG rfl rfl rfl rfl kk) ?_ | refine dl_cons rfl rfl (fun K kk => op_nes (d := some _) hG rfl rfl rfl rfl kk) ?_ | refine dl_cons rfl rfl (fun K kk => op_beqs (d := some _) hG rfl rfl rfl rfl kk) ?_
    | refine dl_d rfl rfl (fun K kt kf => op_d (d := some _) hG rfl rfl rfl rfl kt kf) (fun h => ?_) (fun h => ?_) | refine dl_d rfl rfl (fun K kt kf => op_e (d := some _) hG rfl rfl rfl rfl kt kf) (fun h => ?_) (fun h => ?_) | refine dl_ne rfl rfl (fun K kt kf => op_ne (d := some _) hG rfl rfl rfl rfl kt kf) (fun h => ?_) (fun h => ?_) | refine dl_d rfl rfl (fun K kt kf => op_beq (d := some _) hG rfl rfl rfl rfl kt kf) (fun h => ?_) (fun h => ?_)
    | refine dl_cons rfl rfl (fun K kk => op_load (d := some _) hG rfl rfl (by assumption) (by exact rfl) rfl rfl kk) ?_ | refine dl_cons rfl rfl (fun K kk => op_q (d := some _) hG rfl rfl rfl kk) ?_
    | refine dl_s rfl rfl rfl ?_ | (refine dl_nil ?_; show AW _ _ _ _ _ _) | refine aw_draw mix rfl ?_)
  refine al_cons rfl (op_call (d := some _) rfl rfl rfl rfl rfl ?_)
  refine (qSub σ12 0 1 10 3 (-4) (by omega) (by omega)).dropped ?_
  rw [show subE 3 (-4) = 3 by decide]
  repeat' (first
    | (refine al_cons rfl ?_; first
      | refine op_m (d := some _) hG rfl rfl rfl rfl ?_
      | refine op_eqs (d := some _) hG rfl rfl rfl rfl ?_ | refine op_nes (d := some _) hG rfl rfl rfl rfl ?_ | refine op_beqs (d := some _) hG rfl rfl rfl rfl ?_
      | refine op_d (d := some _) hG rfl rfl rfl rfl (fun h => ?_) (fun h => ?_) | refine op_e (d := some _) hG rfl rfl rfl rfl (fun h => ?_) (fun h => ?_) | refine op_ne (d := some _) hG rfl rfl rfl rfl (fun h => ?_) (fun h => ?_) | refine op_beq (d := some _) hG rfl rfl rfl rfl (fun h => ?_) (fun h => ?_)
      | refine op_rem (d := some _) hG rfl rfl rfl rfl rfl rfl (by omega) ?_ | refine op_shr (d := some _) hG rfl rfl rfl rfl rfl rfl (by omega) ?_ | refine op_w (d := some _) hG rfl rfl rfl rfl (by omega) ?_ | refine op_wu (d := some _) hG rfl rfl rfl rfl (by omega) ?_ | refine op_w16 (d := some _) hG rfl rfl rfl rfl (by omega) ?_ | refine op_w8 (d := some _) hG rfl rfl rfl rfl (by omega) ?_
      | refine op_load (d := some _) hG rfl rfl (by assumption) (by exact rfl) rfl rfl ?_ | refine op_q (d := some _) hG rfl rfl rfl ?_)
    | refine al_s (d := some _) rfl rfl rfl ?_ | (refine al_nil ?_; show AW _ _ _ _ _ _) | refine aw_seq ?_ | refine aw_regL ?_ | refine aw_if_t rfl ?_ | refine aw_if_f rfl ?_
    | (refine aw_skip ?_; show AW _ _ _ _ _ _) | refine aw_block ?_ | (refine aw_exit ?_; show AW _ _ _ _ _ _) | (refine aw_goto ?_; try dsimp only [thenA, inBlockA, jumpA, noGotoA]) | (refine aw_ret ?_; try dsimp only [thenA, inBlockA, jumpA, noGotoA])
    | refine dl_cons rfl rfl (fun K kk => op_m (d := some _) hG rfl rfl rfl rfl kk) ?_
    | refine dl_cons rfl rfl (fun K kk => op_eqs (d := some _) hG rfl rfl rfl rfl kk) ?_ | refine dl_cons rfl rfl (fun K kk => op_nes (d := some _) hG rfl rfl rfl rfl kk) ?_ | refine dl_cons rfl rfl (fun K kk => op_beqs (d := some _) hG rfl rfl rfl rfl kk) ?_
    | refine dl_d rfl rfl (fun K kt kf => op_d (d := some _) hG rfl rfl rfl rfl kt kf) (fun h => ?_) (fun h => ?_) | refine dl_d rfl rfl (fun K kt kf => op_e (d := some _) hG rfl rfl rfl rfl kt kf) (fun h => ?_) (fun h => ?_) | refine dl_ne rfl rfl (fun K kt kf => op_ne (d := some _) hG rfl rfl rfl rfl kt kf) (fun h => ?_) (fun h => ?_) | refine dl_d rfl rfl (fun K kt kf => op_beq (d := some _) hG rfl rfl rfl rfl kt kf) (fun h => ?_) (fun h => ?_)
    | refine dl_cons rfl rfl (fun K kk => op_load (d := some _) hG rfl rfl (by assumption) (by exact rfl) rfl rfl kk) ?_ | refine dl_cons rfl rfl (fun K kk => op_q (d := some _) hG rfl rfl rfl kk) ?_
    | refine dl_s rfl rfl rfl ?_ | (refine dl_nil ?_; show AW _ _ _ _ _ _) | refine aw_draw mix rfl ?_)
  refine al_cons rfl (op_call (d := some _) rfl rfl rfl rfl rfl ?_)
  refine (qSub σ12 0 1 10 3 9223372036854775807 (by omega) (by omega)).dropped ?_
  rw [show subE 3 9223372036854775807 = 0 by decide]
  repeat' (first
    | (refine al_cons rfl ?_; first
      | refine op_m (d := some _) hG rfl rfl rfl rfl ?_
      | refine op_eqs (d := some _) hG rfl rfl rfl rfl ?_ | refine op_nes (d := some _) hG rfl rfl rfl rfl ?_ | refine op_beqs (d := some _) hG rfl rfl rfl rfl ?_
      | refine op_d (d := some _) hG rfl rfl rfl rfl (fun h => ?_) (fun h => ?_) | refine op_e (d := some _) hG rfl rfl rfl rfl (fun h => ?_) (fun h => ?_) | refine op_ne (d := some _) hG rfl rfl rfl rfl (fun h => ?_) (fun h => ?_) | refine op_beq (d := some _) hG rfl rfl rfl rfl (fun h => ?_) (fun h => ?_)
      | refine op_rem (d := some _) hG rfl rfl rfl rfl rfl rfl (by omega) ?_ | refine op_shr (d := some _) hG rfl rfl rfl rfl rfl rfl (by omega) ?_ | refine op_w (d := some _) hG rfl rfl rfl rfl (by omega) ?_ | refine op_wu (d := some _) hG rfl rfl rfl rfl (by omega) ?_ | refine op_w16 (d := some _) hG rfl rfl rfl rfl (by omega) ?_ | refine op_w8 (d := some _) hG rfl rfl rfl rfl (by omega) ?_
      | refine op_load (d := some _) hG rfl rfl (by assumption) (by exact rfl) rfl rfl ?_ | refine op_q (d := some _) hG rfl rfl rfl ?_)
    | refine al_s (d := some _) rfl rfl rfl ?_ | (refine al_nil ?_; show AW _ _ _ _ _ _) | refine aw_seq ?_ | refine aw_regL ?_ | refine aw_if_t rfl ?_ | refine aw_if_f rfl ?_
    | (refine aw_skip ?_; show AW _ _ _ _ _ _) | refine aw_block ?_ | (refine aw_exit ?_; show AW _ _ _ _ _ _) | (refine aw_goto ?_; try dsimp only [thenA, inBlockA, jumpA, noGotoA]) | (refine aw_ret ?_; try dsimp only [thenA, inBlockA, jumpA, noGotoA])
    | refine dl_cons rfl rfl (fun K kk => op_m (d := some _) hG rfl rfl rfl rfl kk) ?_
    | refine dl_cons rfl rfl (fun K kk => op_eqs (d := some _) hG rfl rfl rfl rfl kk) ?_ | refine dl_cons rfl rfl (fun K kk => op_nes (d := some _) hG rfl rfl rfl rfl kk) ?_ | refine dl_cons rfl rfl (fun K kk => op_beqs (d := some _) hG rfl rfl rfl rfl kk) ?_
    | refine dl_d rfl rfl (fun K kt kf => op_d (d := some _) hG rfl rfl rfl rfl kt kf) (fun h => ?_) (fun h => ?_) | refine dl_d rfl rfl (fun K kt kf => op_e (d := some _) hG rfl rfl rfl rfl kt kf) (fun h => ?_) (fun h => ?_) | refine dl_ne rfl rfl (fun K kt kf => op_ne (d := some _) hG rfl rfl rfl rfl kt kf) (fun h => ?_) (fun h => ?_) | refine dl_d rfl rfl (fun K kt kf => op_beq (d := some _) hG rfl rfl rfl rfl kt kf) (fun h => ?_) (fun h => ?_)
    | refine dl_cons rfl rfl (fun K kk => op_load (d := some _) hG rfl rfl (by assumption) (by exact rfl) rfl rfl kk) ?_ | refine dl_cons rfl rfl (fun K kk => op_q (d := some _) hG rfl rfl rfl kk) ?_
    | refine dl_s rfl rfl rfl ?_ | (refine dl_nil ?_; show AW _ _ _ _ _ _) | refine aw_draw mix rfl ?_)
  all_goals first | exact retA_true rfl | exact absurd rfl ‹¬ _› | trace_state
end Go.Proofs.Ytjcfhhepnjmchaa
