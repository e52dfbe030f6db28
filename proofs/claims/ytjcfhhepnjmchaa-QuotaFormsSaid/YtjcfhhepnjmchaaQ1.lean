/- quota: what its functions, and the document's, come to on objects. -/
import Derived.Test.YtjcfhhepnjmchaaN8
import Derived.Test.YtjcfhhepnjmchaaTrM
namespace Go.Proofs.Ytjcfhhepnjmchaa
open Go.Tr
attribute [local irreducible] Go.Tr.AW Go.Tr.AOps Go.Tr.AL Go.Tr.AOp Go.Tr.ACalls Go.Tr.DL
/-- An object's tree, by its cells. -/
def oT (id kind lv ps s i o q u nx data cats ring : T) : T := .agg [id, kind, lv, ps, s, i, o, q, u, nx, data, cats, ring]
theorem sameSet0 (σ : St) : ACalls Try.prog 44 [.nilsl, .nilsl] σ (fun r σ' => r = .bool true ∧ σ' = σ) := by
  refine acalls_mk hG Try.func44 rfl rfl rfl rfl rfl ?_
  repeat' (first
    | (refine al_cons rfl ?_; first
      | refine op_m (d := some _) hG rfl rfl rfl rfl ?_
      | refine op_eqs (d := some _) hG rfl rfl rfl rfl ?_ | refine op_nes (d := some _) hG rfl rfl rfl rfl ?_ | refine op_beqs (d := some _) hG rfl rfl rfl rfl ?_
      | refine op_d (d := some _) hG rfl rfl rfl rfl (fun h => ?_) (fun h => ?_) | refine op_e (d := some _) hG rfl rfl rfl rfl (fun h => ?_) (fun h => ?_) | refine op_ne (d := some _) hG rfl rfl rfl rfl (fun h => ?_) (fun h => ?_) | refine op_beq (d := some _) hG rfl rfl rfl rfl (fun h => ?_) (fun h => ?_)
      | refine op_rem (d := some _) hG rfl rfl rfl rfl rfl rfl (by omega) ?_ | refine op_shr (d := some _) hG rfl rfl rfl rfl rfl rfl (by omega) ?_ | refine op_w (d := some _) hG rfl rfl rfl rfl (by omega) ?_ | refine op_wu (d := some _) hG rfl rfl rfl rfl (by omega) ?_ | refine op_w16 (d := some _) hG rfl rfl rfl rfl (by omega) ?_ | refine op_w8 (d := some _) hG rfl rfl rfl rfl (by omega) ?_
      | refine op_load (d := some _) hG rfl rfl (by assumption) (by exact rfl) rfl rfl ?_ | refine op_q (d := some _) hG rfl rfl rfl ?_)
    | refine al_s (d := some _) rfl rfl rfl ?_ | (refine al_nil ?_; show AW _ _ _ _ _ _) | refine aw_seq ?_ | refine aw_regL ?_ | refine aw_if_t rfl ?_ | refine aw_if_f rfl ?_
    | (refine aw_skip ?_; show AW _ _ _ _ _ _) | refine aw_block ?_ | (refine aw_exit ?_; show AW _ _ _ _ _ _) | (refine aw_goto ?_; try dsimp only [thenA, inBlockA, jumpA, noGotoA]) | (refine aw_ret ?_; try dsimp only [thenA, inBlockA, jumpA, noGotoA])
    | refine dl_cons rfl rfl (fun K kk => op_m (d := some _) hG rfl rfl rfl rfl kk) ?_
    | refine dl_cons rfl rfl (fun K kk => op_eqs (d := some _) hG rfl rfl rfl rfl kk) ?_ | refine dl_cons rfl rfl (fun K kk => op_nes (d := some _) hG rfl rfl rfl rfl kk) ?_ | refine dl_cons rfl rfl (fun K kk => op_beqs (d := some _) hG rfl rfl rfl rfl kk) ?_
    | refine dl_d rfl rfl (fun K kt kf => op_d (d := some _) hG rfl rfl rfl rfl kt kf) (fun h => ?_) (fun h => ?_) | refine dl_d rfl rfl (fun K kt kf => op_e (d := some _) hG rfl rfl rfl rfl kt kf) (fun h => ?_) (fun h => ?_) | refine dl_ne rfl rfl (fun K kt kf => op_ne (d := some _) hG rfl rfl rfl rfl kt kf) (fun h => ?_) (fun h => ?_) | refine dl_d rfl rfl (fun K kt kf => op_beq (d := some _) hG rfl rfl rfl rfl kt kf) (fun h => ?_) (fun h => ?_)
    | refine dl_cons rfl rfl (fun K kk => op_load (d := some _) hG rfl rfl (by assumption) (by exact rfl) rfl rfl kk) ?_ | refine dl_cons rfl rfl (fun K kk => op_q (d := some _) hG rfl rfl rfl kk) ?_
    | refine dl_s rfl rfl rfl ?_ | (refine dl_nil ?_; show AW _ _ _ _ _ _) | refine aw_draw mix rfl ?_)
  refine aw_loop (X := Unit) (fun _ => [(0, .nilsl), (1, .nilsl), (5, .int .i64 0)]) (fun _ => σ) (fun _ => 0) () ?_ rfl ?_
  · exact .cons rfl (.cons rfl (.cons rfl (.nil _)))
  intro _
  repeat' (first
    | (refine al_cons rfl ?_; first
      | refine op_m (d := some _) hG rfl rfl rfl rfl ?_
      | refine op_eqs (d := some _) hG rfl rfl rfl rfl ?_ | refine op_nes (d := some _) hG rfl rfl rfl rfl ?_ | refine op_beqs (d := some _) hG rfl rfl rfl rfl ?_
      | refine op_d (d := some _) hG rfl rfl rfl rfl (fun h => ?_) (fun h => ?_) | refine op_e (d := some _) hG rfl rfl rfl rfl (fun h => ?_) (fun h => ?_) | refine op_ne (d := some _) hG rfl rfl rfl rfl (fun h => ?_) (fun h => ?_) | refine op_beq (d := some _) hG rfl rfl rfl rfl (fun h => ?_) (fun h => ?_)
      | refine op_rem (d := some _) hG rfl rfl rfl rfl rfl rfl (by omega) ?_ | refine op_shr (d := some _) hG rfl rfl rfl rfl rfl rfl (by omega) ?_ | refine op_w (d := some _) hG rfl rfl rfl rfl (by omega) ?_ | refine op_wu (d := some _) hG rfl rfl rfl rfl (by omega) ?_ | refine op_w16 (d := some _) hG rfl rfl rfl rfl (by omega) ?_ | refine op_w8 (d := some _) hG rfl rfl rfl rfl (by omega) ?_
      | refine op_load (d := some _) hG rfl rfl (by assumption) (by exact rfl) rfl rfl ?_ | refine op_q (d := some _) hG rfl rfl rfl ?_)
    | refine al_s (d := some _) rfl rfl rfl ?_ | (refine al_nil ?_; show AW _ _ _ _ _ _) | refine aw_seq ?_ | refine aw_regL ?_ | refine aw_if_t rfl ?_ | refine aw_if_f rfl ?_
    | (refine aw_skip ?_; show AW _ _ _ _ _ _) | refine aw_block ?_ | (refine aw_exit ?_; show AW _ _ _ _ _ _) | (refine aw_goto ?_; try dsimp only [thenA, inBlockA, jumpA, noGotoA]) | (refine aw_ret ?_; try dsimp only [thenA, inBlockA, jumpA, noGotoA])
    | refine dl_cons rfl rfl (fun K kk => op_m (d := some _) hG rfl rfl rfl rfl kk) ?_
    | refine dl_cons rfl rfl (fun K kk => op_eqs (d := some _) hG rfl rfl rfl rfl kk) ?_ | refine dl_cons rfl rfl (fun K kk => op_nes (d := some _) hG rfl rfl rfl rfl kk) ?_ | refine dl_cons rfl rfl (fun K kk => op_beqs (d := some _) hG rfl rfl rfl rfl kk) ?_
    | refine dl_d rfl rfl (fun K kt kf => op_d (d := some _) hG rfl rfl rfl rfl kt kf) (fun h => ?_) (fun h => ?_) | refine dl_d rfl rfl (fun K kt kf => op_e (d := some _) hG rfl rfl rfl rfl kt kf) (fun h => ?_) (fun h => ?_) | refine dl_ne rfl rfl (fun K kt kf => op_ne (d := some _) hG rfl rfl rfl rfl kt kf) (fun h => ?_) (fun h => ?_) | refine dl_d rfl rfl (fun K kt kf => op_beq (d := some _) hG rfl rfl rfl rfl kt kf) (fun h => ?_) (fun h => ?_)
    | refine dl_cons rfl rfl (fun K kk => op_load (d := some _) hG rfl rfl (by assumption) (by exact rfl) rfl rfl kk) ?_ | refine dl_cons rfl rfl (fun K kk => op_q (d := some _) hG rfl rfl rfl kk) ?_
    | refine dl_s rfl rfl rfl ?_ | (refine dl_nil ?_; show AW _ _ _ _ _ _) | refine aw_draw mix rfl ?_)
  · omega
  · exact aw_ret' _ rfl (Wk.refl _) ⟨rfl, rfl⟩
theorem sameRing0 (σ : St) : ACalls Try.prog 45 [.nilsl, .nilsl] σ (fun r σ' => r = .bool true ∧ σ' = σ) := by
  refine acalls_mk hG Try.func45 rfl rfl rfl rfl rfl ?_
  repeat' (first
    | (refine al_cons rfl ?_; first
      | refine op_m (d := some _) hG rfl rfl rfl rfl ?_
      | refine op_eqs (d := some _) hG rfl rfl rfl rfl ?_ | refine op_nes (d := some _) hG rfl rfl rfl rfl ?_ | refine op_beqs (d := some _) hG rfl rfl rfl rfl ?_
      | refine op_d (d := some _) hG rfl rfl rfl rfl (fun h => ?_) (fun h => ?_) | refine op_e (d := some _) hG rfl rfl rfl rfl (fun h => ?_) (fun h => ?_) | refine op_ne (d := some _) hG rfl rfl rfl rfl (fun h => ?_) (fun h => ?_) | refine op_beq (d := some _) hG rfl rfl rfl rfl (fun h => ?_) (fun h => ?_)
      | refine op_rem (d := some _) hG rfl rfl rfl rfl rfl rfl (by omega) ?_ | refine op_shr (d := some _) hG rfl rfl rfl rfl rfl rfl (by omega) ?_ | refine op_w (d := some _) hG rfl rfl rfl rfl (by omega) ?_ | refine op_wu (d := some _) hG rfl rfl rfl rfl (by omega) ?_ | refine op_w16 (d := some _) hG rfl rfl rfl rfl (by omega) ?_ | refine op_w8 (d := some _) hG rfl rfl rfl rfl (by omega) ?_
      | refine op_load (d := some _) hG rfl rfl (by assumption) (by exact rfl) rfl rfl ?_ | refine op_q (d := some _) hG rfl rfl rfl ?_)
    | refine al_s (d := some _) rfl rfl rfl ?_ | (refine al_nil ?_; show AW _ _ _ _ _ _) | refine aw_seq ?_ | refine aw_regL ?_ | refine aw_if_t rfl ?_ | refine aw_if_f rfl ?_
    | (refine aw_skip ?_; show AW _ _ _ _ _ _) | refine aw_block ?_ | (refine aw_exit ?_; show AW _ _ _ _ _ _) | (refine aw_goto ?_; try dsimp only [thenA, inBlockA, jumpA, noGotoA]) | (refine aw_ret ?_; try dsimp only [thenA, inBlockA, jumpA, noGotoA])
    | refine dl_cons rfl rfl (fun K kk => op_m (d := some _) hG rfl rfl rfl rfl kk) ?_
    | refine dl_cons rfl rfl (fun K kk => op_eqs (d := some _) hG rfl rfl rfl rfl kk) ?_ | refine dl_cons rfl rfl (fun K kk => op_nes (d := some _) hG rfl rfl rfl rfl kk) ?_ | refine dl_cons rfl rfl (fun K kk => op_beqs (d := some _) hG rfl rfl rfl rfl kk) ?_
    | refine dl_d rfl rfl (fun K kt kf => op_d (d := some _) hG rfl rfl rfl rfl kt kf) (fun h => ?_) (fun h => ?_) | refine dl_d rfl rfl (fun K kt kf => op_e (d := some _) hG rfl rfl rfl rfl kt kf) (fun h => ?_) (fun h => ?_) | refine dl_ne rfl rfl (fun K kt kf => op_ne (d := some _) hG rfl rfl rfl rfl kt kf) (fun h => ?_) (fun h => ?_) | refine dl_d rfl rfl (fun K kt kf => op_beq (d := some _) hG rfl rfl rfl rfl kt kf) (fun h => ?_) (fun h => ?_)
    | refine dl_cons rfl rfl (fun K kk => op_load (d := some _) hG rfl rfl (by assumption) (by exact rfl) rfl rfl kk) ?_ | refine dl_cons rfl rfl (fun K kk => op_q (d := some _) hG rfl rfl rfl kk) ?_
    | refine dl_s rfl rfl rfl ?_ | (refine dl_nil ?_; show AW _ _ _ _ _ _) | refine aw_draw mix rfl ?_)
  refine aw_loop (X := Unit) (fun _ => [(0, .nilsl), (1, .nilsl), (5, .int .i64 0)]) (fun _ => σ) (fun _ => 0) () ?_ rfl ?_
  · exact .cons rfl (.cons rfl (.cons rfl (.nil _)))
  intro _
  repeat' (first
    | (refine al_cons rfl ?_; first
      | refine op_m (d := some _) hG rfl rfl rfl rfl ?_
      | refine op_eqs (d := some _) hG rfl rfl rfl rfl ?_ | refine op_nes (d := some _) hG rfl rfl rfl rfl ?_ | refine op_beqs (d := some _) hG rfl rfl rfl rfl ?_
      | refine op_d (d := some _) hG rfl rfl rfl rfl (fun h => ?_) (fun h => ?_) | refine op_e (d := some _) hG rfl rfl rfl rfl (fun h => ?_) (fun h => ?_) | refine op_ne (d := some _) hG rfl rfl rfl rfl (fun h => ?_) (fun h => ?_) | refine op_beq (d := some _) hG rfl rfl rfl rfl (fun h => ?_) (fun h => ?_)
      | refine op_rem (d := some _) hG rfl rfl rfl rfl rfl rfl (by omega) ?_ | refine op_shr (d := some _) hG rfl rfl rfl rfl rfl rfl (by omega) ?_ | refine op_w (d := some _) hG rfl rfl rfl rfl (by omega) ?_ | refine op_wu (d := some _) hG rfl rfl rfl rfl (by omega) ?_ | refine op_w16 (d := some _) hG rfl rfl rfl rfl (by omega) ?_ | refine op_w8 (d := some _) hG rfl rfl rfl rfl (by omega) ?_
      | refine op_load (d := some _) hG rfl rfl (by assumption) (by exact rfl) rfl rfl ?_ | refine op_q (d := some _) hG rfl rfl rfl ?_)
    | refine al_s (d := some _) rfl rfl rfl ?_ | (refine al_nil ?_; show AW _ _ _ _ _ _) | refine aw_seq ?_ | refine aw_regL ?_ | refine aw_if_t rfl ?_ | refine aw_if_f rfl ?_
    | (refine aw_skip ?_; show AW _ _ _ _ _ _) | refine aw_block ?_ | (refine aw_exit ?_; show AW _ _ _ _ _ _) | (refine aw_goto ?_; try dsimp only [thenA, inBlockA, jumpA, noGotoA]) | (refine aw_ret ?_; try dsimp only [thenA, inBlockA, jumpA, noGotoA])
    | refine dl_cons rfl rfl (fun K kk => op_m (d := some _) hG rfl rfl rfl rfl kk) ?_
    | refine dl_cons rfl rfl (fun K kk => op_eqs (d := some _) hG rfl rfl rfl rfl kk) ?_ | refine dl_cons rfl rfl (fun K kk => op_nes (d := some _) hG rfl rfl rfl rfl kk) ?_ | refine dl_cons rfl rfl (fun K kk => op_beqs (d := some _) hG rfl rfl rfl rfl kk) ?_
    | refine dl_d rfl rfl (fun K kt kf => op_d (d := some _) hG rfl rfl rfl rfl kt kf) (fun h => ?_) (fun h => ?_) | refine dl_d rfl rfl (fun K kt kf => op_e (d := some _) hG rfl rfl rfl rfl kt kf) (fun h => ?_) (fun h => ?_) | refine dl_ne rfl rfl (fun K kt kf => op_ne (d := some _) hG rfl rfl rfl rfl kt kf) (fun h => ?_) (fun h => ?_) | refine dl_d rfl rfl (fun K kt kf => op_beq (d := some _) hG rfl rfl rfl rfl kt kf) (fun h => ?_) (fun h => ?_)
    | refine dl_cons rfl rfl (fun K kk => op_load (d := some _) hG rfl rfl (by assumption) (by exact rfl) rfl rfl kk) ?_ | refine dl_cons rfl rfl (fun K kk => op_q (d := some _) hG rfl rfl rfl kk) ?_
    | refine dl_s rfl rfl rfl ?_ | (refine dl_nil ?_; show AW _ _ _ _ _ _) | refine aw_draw mix rfl ?_)
  · omega
  · exact aw_ret' _ rfl (Wk.refl _) ⟨rfl, rfl⟩
theorem sameSets0 (σ : St) : ACalls Try.prog 39 [.agg [.nilsl, .nilsl, .nilsl], .agg [.nilsl, .nilsl, .nilsl]] σ (fun r σ' => r = .bool true ∧ Drop σ' σ) := by
  refine acalls_mk hG Try.func39 rfl rfl rfl rfl rfl ?_
  repeat' (first
    | (refine al_cons rfl ?_; first
      | refine op_m (d := some _) hG rfl rfl rfl rfl ?_
      | refine op_eqs (d := some _) hG rfl rfl rfl rfl ?_ | refine op_nes (d := some _) hG rfl rfl rfl rfl ?_ | refine op_beqs (d := some _) hG rfl rfl rfl rfl ?_
      | refine op_d (d := some _) hG rfl rfl rfl rfl (fun h => ?_) (fun h => ?_) | refine op_e (d := some _) hG rfl rfl rfl rfl (fun h => ?_) (fun h => ?_) | refine op_ne (d := some _) hG rfl rfl rfl rfl (fun h => ?_) (fun h => ?_) | refine op_beq (d := some _) hG rfl rfl rfl rfl (fun h => ?_) (fun h => ?_)
      | refine op_rem (d := some _) hG rfl rfl rfl rfl rfl rfl (by omega) ?_ | refine op_shr (d := some _) hG rfl rfl rfl rfl rfl rfl (by omega) ?_ | refine op_w (d := some _) hG rfl rfl rfl rfl (by omega) ?_ | refine op_wu (d := some _) hG rfl rfl rfl rfl (by omega) ?_ | refine op_w16 (d := some _) hG rfl rfl rfl rfl (by omega) ?_ | refine op_w8 (d := some _) hG rfl rfl rfl rfl (by omega) ?_
      | refine op_load (d := some _) hG rfl rfl (by assumption) (by exact rfl) rfl rfl ?_ | refine op_q (d := some _) hG rfl rfl rfl ?_)
    | refine al_s (d := some _) rfl rfl rfl ?_ | (refine al_nil ?_; show AW _ _ _ _ _ _) | refine aw_seq ?_ | refine aw_regL ?_ | refine aw_if_t rfl ?_ | refine aw_if_f rfl ?_
    | (refine aw_skip ?_; show AW _ _ _ _ _ _) | refine aw_block ?_ | (refine aw_exit ?_; show AW _ _ _ _ _ _) | (refine aw_goto ?_; try dsimp only [thenA, inBlockA, jumpA, noGotoA]) | (refine aw_ret ?_; try dsimp only [thenA, inBlockA, jumpA, noGotoA])
    | refine dl_cons rfl rfl (fun K kk => op_m (d := some _) hG rfl rfl rfl rfl kk) ?_
    | refine dl_cons rfl rfl (fun K kk => op_eqs (d := some _) hG rfl rfl rfl rfl kk) ?_ | refine dl_cons rfl rfl (fun K kk => op_nes (d := some _) hG rfl rfl rfl rfl kk) ?_ | refine dl_cons rfl rfl (fun K kk => op_beqs (d := some _) hG rfl rfl rfl rfl kk) ?_
    | refine dl_d rfl rfl (fun K kt kf => op_d (d := some _) hG rfl rfl rfl rfl kt kf) (fun h => ?_) (fun h => ?_) | refine dl_d rfl rfl (fun K kt kf => op_e (d := some _) hG rfl rfl rfl rfl kt kf) (fun h => ?_) (fun h => ?_) | refine dl_ne rfl rfl (fun K kt kf => op_ne (d := some _) hG rfl rfl rfl rfl kt kf) (fun h => ?_) (fun h => ?_) | refine dl_d rfl rfl (fun K kt kf => op_beq (d := some _) hG rfl rfl rfl rfl kt kf) (fun h => ?_) (fun h => ?_)
    | refine dl_cons rfl rfl (fun K kk => op_load (d := some _) hG rfl rfl (by assumption) (by exact rfl) rfl rfl kk) ?_ | refine dl_cons rfl rfl (fun K kk => op_q (d := some _) hG rfl rfl rfl kk) ?_
    | refine dl_s rfl rfl rfl ?_ | (refine dl_nil ?_; show AW _ _ _ _ _ _) | refine aw_draw mix rfl ?_)
  refine al_cons rfl (op_box' (d := some _) hG rfl rfl rfl rfl rfl (fun b1 σ1 n1 o1 p1 d1 => ?_))
  repeat' (first
    | (refine al_cons rfl ?_; first
      | refine op_m (d := some _) hG rfl rfl rfl rfl ?_
      | refine op_eqs (d := some _) hG rfl rfl rfl rfl ?_ | refine op_nes (d := some _) hG rfl rfl rfl rfl ?_ | refine op_beqs (d := some _) hG rfl rfl rfl rfl ?_
      | refine op_d (d := some _) hG rfl rfl rfl rfl (fun h => ?_) (fun h => ?_) | refine op_e (d := some _) hG rfl rfl rfl rfl (fun h => ?_) (fun h => ?_) | refine op_ne (d := some _) hG rfl rfl rfl rfl (fun h => ?_) (fun h => ?_) | refine op_beq (d := some _) hG rfl rfl rfl rfl (fun h => ?_) (fun h => ?_)
      | refine op_rem (d := some _) hG rfl rfl rfl rfl rfl rfl (by omega) ?_ | refine op_shr (d := some _) hG rfl rfl rfl rfl rfl rfl (by omega) ?_ | refine op_w (d := some _) hG rfl rfl rfl rfl (by omega) ?_ | refine op_wu (d := some _) hG rfl rfl rfl rfl (by omega) ?_ | refine op_w16 (d := some _) hG rfl rfl rfl rfl (by omega) ?_ | refine op_w8 (d := some _) hG rfl rfl rfl rfl (by omega) ?_
      | refine op_load (d := some _) hG rfl rfl (by assumption) (by exact rfl) rfl rfl ?_ | refine op_q (d := some _) hG rfl rfl rfl ?_)
    | refine al_s (d := some _) rfl rfl rfl ?_ | (refine al_nil ?_; show AW _ _ _ _ _ _) | refine aw_seq ?_ | refine aw_regL ?_ | refine aw_if_t rfl ?_ | refine aw_if_f rfl ?_
    | (refine aw_skip ?_; show AW _ _ _ _ _ _) | refine aw_block ?_ | (refine aw_exit ?_; show AW _ _ _ _ _ _) | (refine aw_goto ?_; try dsimp only [thenA, inBlockA, jumpA, noGotoA]) | (refine aw_ret ?_; try dsimp only [thenA, inBlockA, jumpA, noGotoA])
    | refine dl_cons rfl rfl (fun K kk => op_m (d := some _) hG rfl rfl rfl rfl kk) ?_
    | refine dl_cons rfl rfl (fun K kk => op_eqs (d := some _) hG rfl rfl rfl rfl kk) ?_ | refine dl_cons rfl rfl (fun K kk => op_nes (d := some _) hG rfl rfl rfl rfl kk) ?_ | refine dl_cons rfl rfl (fun K kk => op_beqs (d := some _) hG rfl rfl rfl rfl kk) ?_
    | refine dl_d rfl rfl (fun K kt kf => op_d (d := some _) hG rfl rfl rfl rfl kt kf) (fun h => ?_) (fun h => ?_) | refine dl_d rfl rfl (fun K kt kf => op_e (d := some _) hG rfl rfl rfl rfl kt kf) (fun h => ?_) (fun h => ?_) | refine dl_ne rfl rfl (fun K kt kf => op_ne (d := some _) hG rfl rfl rfl rfl kt kf) (fun h => ?_) (fun h => ?_) | refine dl_d rfl rfl (fun K kt kf => op_beq (d := some _) hG rfl rfl rfl rfl kt kf) (fun h => ?_) (fun h => ?_)
    | refine dl_cons rfl rfl (fun K kk => op_load (d := some _) hG rfl rfl (by assumption) (by exact rfl) rfl rfl kk) ?_ | refine dl_cons rfl rfl (fun K kk => op_q (d := some _) hG rfl rfl rfl kk) ?_
    | refine dl_s rfl rfl rfl ?_ | (refine dl_nil ?_; show AW _ _ _ _ _ _) | refine aw_draw mix rfl ?_)
  refine al_cons rfl (op_box' (d := some _) hG rfl rfl rfl rfl rfl (fun b2 σ2 n2 o2 p2 d2 => ?_))
  have o12 := p2 _ _ o1
  have d02 := d2.trans d1
  repeat' (first
    | (refine al_cons rfl ?_; first
      | refine op_m (d := some _) hG rfl rfl rfl rfl ?_
      | refine op_eqs (d := some _) hG rfl rfl rfl rfl ?_ | refine op_nes (d := some _) hG rfl rfl rfl rfl ?_ | refine op_beqs (d := some _) hG rfl rfl rfl rfl ?_
      | refine op_d (d := some _) hG rfl rfl rfl rfl (fun h => ?_) (fun h => ?_) | refine op_e (d := some _) hG rfl rfl rfl rfl (fun h => ?_) (fun h => ?_) | refine op_ne (d := some _) hG rfl rfl rfl rfl (fun h => ?_) (fun h => ?_) | refine op_beq (d := some _) hG rfl rfl rfl rfl (fun h => ?_) (fun h => ?_)
      | refine op_rem (d := some _) hG rfl rfl rfl rfl rfl rfl (by omega) ?_ | refine op_shr (d := some _) hG rfl rfl rfl rfl rfl rfl (by omega) ?_ | refine op_w (d := some _) hG rfl rfl rfl rfl (by omega) ?_ | refine op_wu (d := some _) hG rfl rfl rfl rfl (by omega) ?_ | refine op_w16 (d := some _) hG rfl rfl rfl rfl (by omega) ?_ | refine op_w8 (d := some _) hG rfl rfl rfl rfl (by omega) ?_
      | refine op_load (d := some _) hG rfl rfl (by assumption) (by exact rfl) rfl rfl ?_ | refine op_q (d := some _) hG rfl rfl rfl ?_)
    | refine al_s (d := some _) rfl rfl rfl ?_ | (refine al_nil ?_; show AW _ _ _ _ _ _) | refine aw_seq ?_ | refine aw_regL ?_ | refine aw_if_t rfl ?_ | refine aw_if_f rfl ?_
    | (refine aw_skip ?_; show AW _ _ _ _ _ _) | refine aw_block ?_ | (refine aw_exit ?_; show AW _ _ _ _ _ _) | (refine aw_goto ?_; try dsimp only [thenA, inBlockA, jumpA, noGotoA]) | (refine aw_ret ?_; try dsimp only [thenA, inBlockA, jumpA, noGotoA])
    | refine dl_cons rfl rfl (fun K kk => op_m (d := some _) hG rfl rfl rfl rfl kk) ?_
    | refine dl_cons rfl rfl (fun K kk => op_eqs (d := some _) hG rfl rfl rfl rfl kk) ?_ | refine dl_cons rfl rfl (fun K kk => op_nes (d := some _) hG rfl rfl rfl rfl kk) ?_ | refine dl_cons rfl rfl (fun K kk => op_beqs (d := some _) hG rfl rfl rfl rfl kk) ?_
    | refine dl_d rfl rfl (fun K kt kf => op_d (d := some _) hG rfl rfl rfl rfl kt kf) (fun h => ?_) (fun h => ?_) | refine dl_d rfl rfl (fun K kt kf => op_e (d := some _) hG rfl rfl rfl rfl kt kf) (fun h => ?_) (fun h => ?_) | refine dl_ne rfl rfl (fun K kt kf => op_ne (d := some _) hG rfl rfl rfl rfl kt kf) (fun h => ?_) (fun h => ?_) | refine dl_d rfl rfl (fun K kt kf => op_beq (d := some _) hG rfl rfl rfl rfl kt kf) (fun h => ?_) (fun h => ?_)
    | refine dl_cons rfl rfl (fun K kk => op_load (d := some _) hG rfl rfl (by assumption) (by exact rfl) rfl rfl kk) ?_ | refine dl_cons rfl rfl (fun K kk => op_q (d := some _) hG rfl rfl rfl kk) ?_
    | refine dl_s rfl rfl rfl ?_ | (refine dl_nil ?_; show AW _ _ _ _ _ _) | refine aw_draw mix rfl ?_)
  refine al_cons rfl (op_call (d := some _) rfl rfl rfl rfl rfl ?_)
  refine (sameSet0 σ2).pure ?_
  repeat' (first
    | (refine al_cons rfl ?_; first
      | refine op_m (d := some _) hG rfl rfl rfl rfl ?_
      | refine op_eqs (d := some _) hG rfl rfl rfl rfl ?_ | refine op_nes (d := some _) hG rfl rfl rfl rfl ?_ | refine op_beqs (d := some _) hG rfl rfl rfl rfl ?_
      | refine op_d (d := some _) hG rfl rfl rfl rfl (fun h => ?_) (fun h => ?_) | refine op_e (d := some _) hG rfl rfl rfl rfl (fun h => ?_) (fun h => ?_) | refine op_ne (d := some _) hG rfl rfl rfl rfl (fun h => ?_) (fun h => ?_) | refine op_beq (d := some _) hG rfl rfl rfl rfl (fun h => ?_) (fun h => ?_)
      | refine op_rem (d := some _) hG rfl rfl rfl rfl rfl rfl (by omega) ?_ | refine op_shr (d := some _) hG rfl rfl rfl rfl rfl rfl (by omega) ?_ | refine op_w (d := some _) hG rfl rfl rfl rfl (by omega) ?_ | refine op_wu (d := some _) hG rfl rfl rfl rfl (by omega) ?_ | refine op_w16 (d := some _) hG rfl rfl rfl rfl (by omega) ?_ | refine op_w8 (d := some _) hG rfl rfl rfl rfl (by omega) ?_
      | refine op_load (d := some _) hG rfl rfl (by assumption) (by exact rfl) rfl rfl ?_ | refine op_q (d := some _) hG rfl rfl rfl ?_)
    | refine al_s (d := some _) rfl rfl rfl ?_ | (refine al_nil ?_; show AW _ _ _ _ _ _) | refine aw_seq ?_ | refine aw_regL ?_ | refine aw_if_t rfl ?_ | refine aw_if_f rfl ?_
    | (refine aw_skip ?_; show AW _ _ _ _ _ _) | refine aw_block ?_ | (refine aw_exit ?_; show AW _ _ _ _ _ _) | (refine aw_goto ?_; try dsimp only [thenA, inBlockA, jumpA, noGotoA]) | (refine aw_ret ?_; try dsimp only [thenA, inBlockA, jumpA, noGotoA])
    | refine dl_cons rfl rfl (fun K kk => op_m (d := some _) hG rfl rfl rfl rfl kk) ?_
    | refine dl_cons rfl rfl (fun K kk => op_eqs (d := some _) hG rfl rfl rfl rfl kk) ?_ | refine dl_cons rfl rfl (fun K kk => op_nes (d := some _) hG rfl rfl rfl rfl kk) ?_ | refine dl_cons rfl rfl (fun K kk => op_beqs (d := some _) hG rfl rfl rfl rfl kk) ?_
    | refine dl_d rfl rfl (fun K kt kf => op_d (d := some _) hG rfl rfl rfl rfl kt kf) (fun h => ?_) (fun h => ?_) | refine dl_d rfl rfl (fun K kt kf => op_e (d := some _) hG rfl rfl rfl rfl kt kf) (fun h => ?_) (fun h => ?_) | refine dl_ne rfl rfl (fun K kt kf => op_ne (d := some _) hG rfl rfl rfl rfl kt kf) (fun h => ?_) (fun h => ?_) | refine dl_d rfl rfl (fun K kt kf => op_beq (d := some _) hG rfl rfl rfl rfl kt kf) (fun h => ?_) (fun h => ?_)
    | refine dl_cons rfl rfl (fun K kk => op_load (d := some _) hG rfl rfl (by assumption) (by exact rfl) rfl rfl kk) ?_ | refine dl_cons rfl rfl (fun K kk => op_q (d := some _) hG rfl rfl rfl kk) ?_
    | refine dl_s rfl rfl rfl ?_ | (refine dl_nil ?_; show AW _ _ _ _ _ _) | refine aw_draw mix rfl ?_)
  refine al_cons rfl (op_call (d := some _) rfl rfl rfl rfl rfl ?_)
  refine (sameSet0 σ2).pure ?_
  repeat' (first
    | (refine al_cons rfl ?_; first
      | refine op_m (d := some _) hG rfl rfl rfl rfl ?_
      | refine op_eqs (d := some _) hG rfl rfl rfl rfl ?_ | refine op_nes (d := some _) hG rfl rfl rfl rfl ?_ | refine op_beqs (d := some _) hG rfl rfl rfl rfl ?_
      | refine op_d (d := some _) hG rfl rfl rfl rfl (fun h => ?_) (fun h => ?_) | refine op_e (d := some _) hG rfl rfl rfl rfl (fun h => ?_) (fun h => ?_) | refine op_ne (d := some _) hG rfl rfl rfl rfl (fun h => ?_) (fun h => ?_) | refine op_beq (d := some _) hG rfl rfl rfl rfl (fun h => ?_) (fun h => ?_)
      | refine op_rem (d := some _) hG rfl rfl rfl rfl rfl rfl (by omega) ?_ | refine op_shr (d := some _) hG rfl rfl rfl rfl rfl rfl (by omega) ?_ | refine op_w (d := some _) hG rfl rfl rfl rfl (by omega) ?_ | refine op_wu (d := some _) hG rfl rfl rfl rfl (by omega) ?_ | refine op_w16 (d := some _) hG rfl rfl rfl rfl (by omega) ?_ | refine op_w8 (d := some _) hG rfl rfl rfl rfl (by omega) ?_
      | refine op_load (d := some _) hG rfl rfl (by assumption) (by exact rfl) rfl rfl ?_ | refine op_q (d := some _) hG rfl rfl rfl ?_)
    | refine al_s (d := some _) rfl rfl rfl ?_ | (refine al_nil ?_; show AW _ _ _ _ _ _) | refine aw_seq ?_ | refine aw_regL ?_ | refine aw_if_t rfl ?_ | refine aw_if_f rfl ?_
    | (refine aw_skip ?_; show AW _ _ _ _ _ _) | refine aw_block ?_ | (refine aw_exit ?_; show AW _ _ _ _ _ _) | (refine aw_goto ?_; try dsimp only [thenA, inBlockA, jumpA, noGotoA]) | (refine aw_ret ?_; try dsimp only [thenA, inBlockA, jumpA, noGotoA])
    | refine dl_cons rfl rfl (fun K kk => op_m (d := some _) hG rfl rfl rfl rfl kk) ?_
    | refine dl_cons rfl rfl (fun K kk => op_eqs (d := some _) hG rfl rfl rfl rfl kk) ?_ | refine dl_cons rfl rfl (fun K kk => op_nes (d := some _) hG rfl rfl rfl rfl kk) ?_ | refine dl_cons rfl rfl (fun K kk => op_beqs (d := some _) hG rfl rfl rfl rfl kk) ?_
    | refine dl_d rfl rfl (fun K kt kf => op_d (d := some _) hG rfl rfl rfl rfl kt kf) (fun h => ?_) (fun h => ?_) | refine dl_d rfl rfl (fun K kt kf => op_e (d := some _) hG rfl rfl rfl rfl kt kf) (fun h => ?_) (fun h => ?_) | refine dl_ne rfl rfl (fun K kt kf => op_ne (d := some _) hG rfl rfl rfl rfl kt kf) (fun h => ?_) (fun h => ?_) | refine dl_d rfl rfl (fun K kt kf => op_beq (d := some _) hG rfl rfl rfl rfl kt kf) (fun h => ?_) (fun h => ?_)
    | refine dl_cons rfl rfl (fun K kk => op_load (d := some _) hG rfl rfl (by assumption) (by exact rfl) rfl rfl kk) ?_ | refine dl_cons rfl rfl (fun K kk => op_q (d := some _) hG rfl rfl rfl kk) ?_
    | refine dl_s rfl rfl rfl ?_ | (refine dl_nil ?_; show AW _ _ _ _ _ _) | refine aw_draw mix rfl ?_)
  refine al_cons rfl (op_call (d := some _) rfl rfl rfl rfl rfl ?_)
  refine (sameSet0 σ2).pure ?_
  repeat' (first
    | (refine al_cons rfl ?_; first
      | refine op_m (d := some _) hG rfl rfl rfl rfl ?_
      | refine op_eqs (d := some _) hG rfl rfl rfl rfl ?_ | refine op_nes (d := some _) hG rfl rfl rfl rfl ?_ | refine op_beqs (d := some _) hG rfl rfl rfl rfl ?_
      | refine op_d (d := some _) hG rfl rfl rfl rfl (fun h => ?_) (fun h => ?_) | refine op_e (d := some _) hG rfl rfl rfl rfl (fun h => ?_) (fun h => ?_) | refine op_ne (d := some _) hG rfl rfl rfl rfl (fun h => ?_) (fun h => ?_) | refine op_beq (d := some _) hG rfl rfl rfl rfl (fun h => ?_) (fun h => ?_)
      | refine op_rem (d := some _) hG rfl rfl rfl rfl rfl rfl (by omega) ?_ | refine op_shr (d := some _) hG rfl rfl rfl rfl rfl rfl (by omega) ?_ | refine op_w (d := some _) hG rfl rfl rfl rfl (by omega) ?_ | refine op_wu (d := some _) hG rfl rfl rfl rfl (by omega) ?_ | refine op_w16 (d := some _) hG rfl rfl rfl rfl (by omega) ?_ | refine op_w8 (d := some _) hG rfl rfl rfl rfl (by omega) ?_
      | refine op_load (d := some _) hG rfl rfl (by assumption) (by exact rfl) rfl rfl ?_ | refine op_q (d := some _) hG rfl rfl rfl ?_)
    | refine al_s (d := some _) rfl rfl rfl ?_ | (refine al_nil ?_; show AW _ _ _ _ _ _) | refine aw_seq ?_ | refine aw_regL ?_ | refine aw_if_t rfl ?_ | refine aw_if_f rfl ?_
    | (refine aw_skip ?_; show AW _ _ _ _ _ _) | refine aw_block ?_ | (refine aw_exit ?_; show AW _ _ _ _ _ _) | (refine aw_goto ?_; try dsimp only [thenA, inBlockA, jumpA, noGotoA]) | (refine aw_ret ?_; try dsimp only [thenA, inBlockA, jumpA, noGotoA])
    | refine dl_cons rfl rfl (fun K kk => op_m (d := some _) hG rfl rfl rfl rfl kk) ?_
    | refine dl_cons rfl rfl (fun K kk => op_eqs (d := some _) hG rfl rfl rfl rfl kk) ?_ | refine dl_cons rfl rfl (fun K kk => op_nes (d := some _) hG rfl rfl rfl rfl kk) ?_ | refine dl_cons rfl rfl (fun K kk => op_beqs (d := some _) hG rfl rfl rfl rfl kk) ?_
    | refine dl_d rfl rfl (fun K kt kf => op_d (d := some _) hG rfl rfl rfl rfl kt kf) (fun h => ?_) (fun h => ?_) | refine dl_d rfl rfl (fun K kt kf => op_e (d := some _) hG rfl rfl rfl rfl kt kf) (fun h => ?_) (fun h => ?_) | refine dl_ne rfl rfl (fun K kt kf => op_ne (d := some _) hG rfl rfl rfl rfl kt kf) (fun h => ?_) (fun h => ?_) | refine dl_d rfl rfl (fun K kt kf => op_beq (d := some _) hG rfl rfl rfl rfl kt kf) (fun h => ?_) (fun h => ?_)
    | refine dl_cons rfl rfl (fun K kk => op_load (d := some _) hG rfl rfl (by assumption) (by exact rfl) rfl rfl kk) ?_ | refine dl_cons rfl rfl (fun K kk => op_q (d := some _) hG rfl rfl rfl kk) ?_
    | refine dl_s rfl rfl rfl ?_ | (refine dl_nil ?_; show AW _ _ _ _ _ _) | refine aw_draw mix rfl ?_)
  exact aw_ret' _ rfl (Wk.refl _) ⟨rfl, d02⟩
theorem same0 (σ : St) (l : Int) : ACalls Try.prog 43 [.agg [.int .u8 l, .nilsl], .agg [.int .u8 l, .nilsl]] σ (fun r σ' => r = .bool true ∧ Drop σ' σ) := by
  refine acalls_mk hG Try.func43 rfl rfl rfl rfl rfl ?_
  repeat' (first
    | (refine al_cons rfl ?_; first
      | refine op_m (d := some _) hG rfl rfl rfl rfl ?_
      | refine op_eqs (d := some _) hG rfl rfl rfl rfl ?_ | refine op_nes (d := some _) hG rfl rfl rfl rfl ?_ | refine op_beqs (d := some _) hG rfl rfl rfl rfl ?_
      | refine op_d (d := some _) hG rfl rfl rfl rfl (fun h => ?_) (fun h => ?_) | refine op_e (d := some _) hG rfl rfl rfl rfl (fun h => ?_) (fun h => ?_) | refine op_ne (d := some _) hG rfl rfl rfl rfl (fun h => ?_) (fun h => ?_) | refine op_beq (d := some _) hG rfl rfl rfl rfl (fun h => ?_) (fun h => ?_)
      | refine op_rem (d := some _) hG rfl rfl rfl rfl rfl rfl (by omega) ?_ | refine op_shr (d := some _) hG rfl rfl rfl rfl rfl rfl (by omega) ?_ | refine op_w (d := some _) hG rfl rfl rfl rfl (by omega) ?_ | refine op_wu (d := some _) hG rfl rfl rfl rfl (by omega) ?_ | refine op_w16 (d := some _) hG rfl rfl rfl rfl (by omega) ?_ | refine op_w8 (d := some _) hG rfl rfl rfl rfl (by omega) ?_
      | refine op_load (d := some _) hG rfl rfl (by assumption) (by exact rfl) rfl rfl ?_ | refine op_q (d := some _) hG rfl rfl rfl ?_)
    | refine al_s (d := some _) rfl rfl rfl ?_ | (refine al_nil ?_; show AW _ _ _ _ _ _) | refine aw_seq ?_ | refine aw_regL ?_ | refine aw_if_t rfl ?_ | refine aw_if_f rfl ?_
    | (refine aw_skip ?_; show AW _ _ _ _ _ _) | refine aw_block ?_ | (refine aw_exit ?_; show AW _ _ _ _ _ _) | (refine aw_goto ?_; try dsimp only [thenA, inBlockA, jumpA, noGotoA]) | (refine aw_ret ?_; try dsimp only [thenA, inBlockA, jumpA, noGotoA])
    | refine dl_cons rfl rfl (fun K kk => op_m (d := some _) hG rfl rfl rfl rfl kk) ?_
    | refine dl_cons rfl rfl (fun K kk => op_eqs (d := some _) hG rfl rfl rfl rfl kk) ?_ | refine dl_cons rfl rfl (fun K kk => op_nes (d := some _) hG rfl rfl rfl rfl kk) ?_ | refine dl_cons rfl rfl (fun K kk => op_beqs (d := some _) hG rfl rfl rfl rfl kk) ?_
    | refine dl_d rfl rfl (fun K kt kf => op_d (d := some _) hG rfl rfl rfl rfl kt kf) (fun h => ?_) (fun h => ?_) | refine dl_d rfl rfl (fun K kt kf => op_e (d := some _) hG rfl rfl rfl rfl kt kf) (fun h => ?_) (fun h => ?_) | refine dl_ne rfl rfl (fun K kt kf => op_ne (d := some _) hG rfl rfl rfl rfl kt kf) (fun h => ?_) (fun h => ?_) | refine dl_d rfl rfl (fun K kt kf => op_beq (d := some _) hG rfl rfl rfl rfl kt kf) (fun h => ?_) (fun h => ?_)
    | refine dl_cons rfl rfl (fun K kk => op_load (d := some _) hG rfl rfl (by assumption) (by exact rfl) rfl rfl kk) ?_ | refine dl_cons rfl rfl (fun K kk => op_q (d := some _) hG rfl rfl rfl kk) ?_
    | refine dl_s rfl rfl rfl ?_ | (refine dl_nil ?_; show AW _ _ _ _ _ _) | refine aw_draw mix rfl ?_)
  refine al_cons rfl (op_box' (d := some _) hG rfl rfl rfl rfl rfl (fun b1 σ1 n1 o1 p1 d1 => ?_))
  repeat' (first
    | (refine al_cons rfl ?_; first
      | refine op_m (d := some _) hG rfl rfl rfl rfl ?_
      | refine op_eqs (d := some _) hG rfl rfl rfl rfl ?_ | refine op_nes (d := some _) hG rfl rfl rfl rfl ?_ | refine op_beqs (d := some _) hG rfl rfl rfl rfl ?_
      | refine op_d (d := some _) hG rfl rfl rfl rfl (fun h => ?_) (fun h => ?_) | refine op_e (d := some _) hG rfl rfl rfl rfl (fun h => ?_) (fun h => ?_) | refine op_ne (d := some _) hG rfl rfl rfl rfl (fun h => ?_) (fun h => ?_) | refine op_beq (d := some _) hG rfl rfl rfl rfl (fun h => ?_) (fun h => ?_)
      | refine op_rem (d := some _) hG rfl rfl rfl rfl rfl rfl (by omega) ?_ | refine op_shr (d := some _) hG rfl rfl rfl rfl rfl rfl (by omega) ?_ | refine op_w (d := some _) hG rfl rfl rfl rfl (by omega) ?_ | refine op_wu (d := some _) hG rfl rfl rfl rfl (by omega) ?_ | refine op_w16 (d := some _) hG rfl rfl rfl rfl (by omega) ?_ | refine op_w8 (d := some _) hG rfl rfl rfl rfl (by omega) ?_
      | refine op_load (d := some _) hG rfl rfl (by assumption) (by exact rfl) rfl rfl ?_ | refine op_q (d := some _) hG rfl rfl rfl ?_)
    | refine al_s (d := some _) rfl rfl rfl ?_ | (refine al_nil ?_; show AW _ _ _ _ _ _) | refine aw_seq ?_ | refine aw_regL ?_ | refine aw_if_t rfl ?_ | refine aw_if_f rfl ?_
    | (refine aw_skip ?_; show AW _ _ _ _ _ _) | refine aw_block ?_ | (refine aw_exit ?_; show AW _ _ _ _ _ _) | (refine aw_goto ?_; try dsimp only [thenA, inBlockA, jumpA, noGotoA]) | (refine aw_ret ?_; try dsimp only [thenA, inBlockA, jumpA, noGotoA])
    | refine dl_cons rfl rfl (fun K kk => op_m (d := some _) hG rfl rfl rfl rfl kk) ?_
    | refine dl_cons rfl rfl (fun K kk => op_eqs (d := some _) hG rfl rfl rfl rfl kk) ?_ | refine dl_cons rfl rfl (fun K kk => op_nes (d := some _) hG rfl rfl rfl rfl kk) ?_ | refine dl_cons rfl rfl (fun K kk => op_beqs (d := some _) hG rfl rfl rfl rfl kk) ?_
    | refine dl_d rfl rfl (fun K kt kf => op_d (d := some _) hG rfl rfl rfl rfl kt kf) (fun h => ?_) (fun h => ?_) | refine dl_d rfl rfl (fun K kt kf => op_e (d := some _) hG rfl rfl rfl rfl kt kf) (fun h => ?_) (fun h => ?_) | refine dl_ne rfl rfl (fun K kt kf => op_ne (d := some _) hG rfl rfl rfl rfl kt kf) (fun h => ?_) (fun h => ?_) | refine dl_d rfl rfl (fun K kt kf => op_beq (d := some _) hG rfl rfl rfl rfl kt kf) (fun h => ?_) (fun h => ?_)
    | refine dl_cons rfl rfl (fun K kk => op_load (d := some _) hG rfl rfl (by assumption) (by exact rfl) rfl rfl kk) ?_ | refine dl_cons rfl rfl (fun K kk => op_q (d := some _) hG rfl rfl rfl kk) ?_
    | refine dl_s rfl rfl rfl ?_ | (refine dl_nil ?_; show AW _ _ _ _ _ _) | refine aw_draw mix rfl ?_)
  refine al_cons rfl (op_box' (d := some _) hG rfl rfl rfl rfl rfl (fun b2 σ2 n2 o2 p2 d2 => ?_))
  have o12 := p2 _ _ o1
  have d02 := d2.trans d1
  repeat' (first
    | (refine al_cons rfl ?_; first
      | refine op_m (d := some _) hG rfl rfl rfl rfl ?_
      | refine op_eqs (d := some _) hG rfl rfl rfl rfl ?_ | refine op_nes (d := some _) hG rfl rfl rfl rfl ?_ | refine op_beqs (d := some _) hG rfl rfl rfl rfl ?_
      | refine op_d (d := some _) hG rfl rfl rfl rfl (fun h => ?_) (fun h => ?_) | refine op_e (d := some _) hG rfl rfl rfl rfl (fun h => ?_) (fun h => ?_) | refine op_ne (d := some _) hG rfl rfl rfl rfl (fun h => ?_) (fun h => ?_) | refine op_beq (d := some _) hG rfl rfl rfl rfl (fun h => ?_) (fun h => ?_)
      | refine op_rem (d := some _) hG rfl rfl rfl rfl rfl rfl (by omega) ?_ | refine op_shr (d := some _) hG rfl rfl rfl rfl rfl rfl (by omega) ?_ | refine op_w (d := some _) hG rfl rfl rfl rfl (by omega) ?_ | refine op_wu (d := some _) hG rfl rfl rfl rfl (by omega) ?_ | refine op_w16 (d := some _) hG rfl rfl rfl rfl (by omega) ?_ | refine op_w8 (d := some _) hG rfl rfl rfl rfl (by omega) ?_
      | refine op_load (d := some _) hG rfl rfl (by assumption) (by exact rfl) rfl rfl ?_ | refine op_q (d := some _) hG rfl rfl rfl ?_)
    | refine al_s (d := some _) rfl rfl rfl ?_ | (refine al_nil ?_; show AW _ _ _ _ _ _) | refine aw_seq ?_ | refine aw_regL ?_ | refine aw_if_t rfl ?_ | refine aw_if_f rfl ?_
    | (refine aw_skip ?_; show AW _ _ _ _ _ _) | refine aw_block ?_ | (refine aw_exit ?_; show AW _ _ _ _ _ _) | (refine aw_goto ?_; try dsimp only [thenA, inBlockA, jumpA, noGotoA]) | (refine aw_ret ?_; try dsimp only [thenA, inBlockA, jumpA, noGotoA])
    | refine dl_cons rfl rfl (fun K kk => op_m (d := some _) hG rfl rfl rfl rfl kk) ?_
    | refine dl_cons rfl rfl (fun K kk => op_eqs (d := some _) hG rfl rfl rfl rfl kk) ?_ | refine dl_cons rfl rfl (fun K kk => op_nes (d := some _) hG rfl rfl rfl rfl kk) ?_ | refine dl_cons rfl rfl (fun K kk => op_beqs (d := some _) hG rfl rfl rfl rfl kk) ?_
    | refine dl_d rfl rfl (fun K kt kf => op_d (d := some _) hG rfl rfl rfl rfl kt kf) (fun h => ?_) (fun h => ?_) | refine dl_d rfl rfl (fun K kt kf => op_e (d := some _) hG rfl rfl rfl rfl kt kf) (fun h => ?_) (fun h => ?_) | refine dl_ne rfl rfl (fun K kt kf => op_ne (d := some _) hG rfl rfl rfl rfl kt kf) (fun h => ?_) (fun h => ?_) | refine dl_d rfl rfl (fun K kt kf => op_beq (d := some _) hG rfl rfl rfl rfl kt kf) (fun h => ?_) (fun h => ?_)
    | refine dl_cons rfl rfl (fun K kk => op_load (d := some _) hG rfl rfl (by assumption) (by exact rfl) rfl rfl kk) ?_ | refine dl_cons rfl rfl (fun K kk => op_q (d := some _) hG rfl rfl rfl kk) ?_
    | refine dl_s rfl rfl rfl ?_ | (refine dl_nil ?_; show AW _ _ _ _ _ _) | refine aw_draw mix rfl ?_)
  refine aw_loop (X := Unit) (fun _ => [(2, .ptr b1 0), (3, .ptr b2 0), (5, .int .i64 0)]) (fun _ => σ2) (fun _ => 0) () ?_ rfl ?_
  · exact .cons rfl (.cons rfl (.cons rfl (.nil _)))
  intro _
  repeat' (first
    | (refine al_cons rfl ?_; first
      | refine op_m (d := some _) hG rfl rfl rfl rfl ?_
      | refine op_eqs (d := some _) hG rfl rfl rfl rfl ?_ | refine op_nes (d := some _) hG rfl rfl rfl rfl ?_ | refine op_beqs (d := some _) hG rfl rfl rfl rfl ?_
      | refine op_d (d := some _) hG rfl rfl rfl rfl (fun h => ?_) (fun h => ?_) | refine op_e (d := some _) hG rfl rfl rfl rfl (fun h => ?_) (fun h => ?_) | refine op_ne (d := some _) hG rfl rfl rfl rfl (fun h => ?_) (fun h => ?_) | refine op_beq (d := some _) hG rfl rfl rfl rfl (fun h => ?_) (fun h => ?_)
      | refine op_rem (d := some _) hG rfl rfl rfl rfl rfl rfl (by omega) ?_ | refine op_shr (d := some _) hG rfl rfl rfl rfl rfl rfl (by omega) ?_ | refine op_w (d := some _) hG rfl rfl rfl rfl (by omega) ?_ | refine op_wu (d := some _) hG rfl rfl rfl rfl (by omega) ?_ | refine op_w16 (d := some _) hG rfl rfl rfl rfl (by omega) ?_ | refine op_w8 (d := some _) hG rfl rfl rfl rfl (by omega) ?_
      | refine op_load (d := some _) hG rfl rfl (by assumption) (by exact rfl) rfl rfl ?_ | refine op_q (d := some _) hG rfl rfl rfl ?_)
    | refine al_s (d := some _) rfl rfl rfl ?_ | (refine al_nil ?_; show AW _ _ _ _ _ _) | refine aw_seq ?_ | refine aw_regL ?_ | refine aw_if_t rfl ?_ | refine aw_if_f rfl ?_
    | (refine aw_skip ?_; show AW _ _ _ _ _ _) | refine aw_block ?_ | (refine aw_exit ?_; show AW _ _ _ _ _ _) | (refine aw_goto ?_; try dsimp only [thenA, inBlockA, jumpA, noGotoA]) | (refine aw_ret ?_; try dsimp only [thenA, inBlockA, jumpA, noGotoA])
    | refine dl_cons rfl rfl (fun K kk => op_m (d := some _) hG rfl rfl rfl rfl kk) ?_
    | refine dl_cons rfl rfl (fun K kk => op_eqs (d := some _) hG rfl rfl rfl rfl kk) ?_ | refine dl_cons rfl rfl (fun K kk => op_nes (d := some _) hG rfl rfl rfl rfl kk) ?_ | refine dl_cons rfl rfl (fun K kk => op_beqs (d := some _) hG rfl rfl rfl rfl kk) ?_
    | refine dl_d rfl rfl (fun K kt kf => op_d (d := some _) hG rfl rfl rfl rfl kt kf) (fun h => ?_) (fun h => ?_) | refine dl_d rfl rfl (fun K kt kf => op_e (d := some _) hG rfl rfl rfl rfl kt kf) (fun h => ?_) (fun h => ?_) | refine dl_ne rfl rfl (fun K kt kf => op_ne (d := some _) hG rfl rfl rfl rfl kt kf) (fun h => ?_) (fun h => ?_) | refine dl_d rfl rfl (fun K kt kf => op_beq (d := some _) hG rfl rfl rfl rfl kt kf) (fun h => ?_) (fun h => ?_)
    | refine dl_cons rfl rfl (fun K kk => op_load (d := some _) hG rfl rfl (by assumption) (by exact rfl) rfl rfl kk) ?_ | refine dl_cons rfl rfl (fun K kk => op_q (d := some _) hG rfl rfl rfl kk) ?_
    | refine dl_s rfl rfl rfl ?_ | (refine dl_nil ?_; show AW _ _ _ _ _ _) | refine aw_draw mix rfl ?_)
  · omega
  · exact aw_ret' _ rfl (Wk.refl _) ⟨rfl, d02⟩
theorem sameObj0 (σ : St) (id k q u n : Int) : ACalls Try.prog 21 [oT (.int .u64 id) (.int .i64 k) (.int .u8 0) .nilsl .nilsl .nilsl .nilsl (.int .i64 q) (.int .i64 u) (.int .i64 n) .nilsl .nilsl .nilsl, oT (.int .u64 id) (.int .i64 k) (.int .u8 0) .nilsl .nilsl .nilsl .nilsl (.int .i64 q) (.int .i64 u) (.int .i64 n) .nilsl .nilsl .nilsl] σ (fun r σ' => r = .bool true ∧ Drop σ' σ) := by
  refine acalls_mk hG Try.func21 rfl rfl rfl rfl rfl ?_
  repeat' (first
    | (refine al_cons rfl ?_; first
      | refine op_m (d := some _) hG rfl rfl rfl rfl ?_
      | refine op_eqs (d := some _) hG rfl rfl rfl rfl ?_ | refine op_nes (d := some _) hG rfl rfl rfl rfl ?_ | refine op_beqs (d := some _) hG rfl rfl rfl rfl ?_
      | refine op_d (d := some _) hG rfl rfl rfl rfl (fun h => ?_) (fun h => ?_) | refine op_e (d := some _) hG rfl rfl rfl rfl (fun h => ?_) (fun h => ?_) | refine op_ne (d := some _) hG rfl rfl rfl rfl (fun h => ?_) (fun h => ?_) | refine op_beq (d := some _) hG rfl rfl rfl rfl (fun h => ?_) (fun h => ?_)
      | refine op_rem (d := some _) hG rfl rfl rfl rfl rfl rfl (by omega) ?_ | refine op_shr (d := some _) hG rfl rfl rfl rfl rfl rfl (by omega) ?_ | refine op_w (d := some _) hG rfl rfl rfl rfl (by omega) ?_ | refine op_wu (d := some _) hG rfl rfl rfl rfl (by omega) ?_ | refine op_w16 (d := some _) hG rfl rfl rfl rfl (by omega) ?_ | refine op_w8 (d := some _) hG rfl rfl rfl rfl (by omega) ?_
      | refine op_load (d := some _) hG rfl rfl (by assumption) (by exact rfl) rfl rfl ?_ | refine op_q (d := some _) hG rfl rfl rfl ?_)
    | refine al_s (d := some _) rfl rfl rfl ?_ | (refine al_nil ?_; show AW _ _ _ _ _ _) | refine aw_seq ?_ | refine aw_regL ?_ | refine aw_if_t rfl ?_ | refine aw_if_f rfl ?_
    | (refine aw_skip ?_; show AW _ _ _ _ _ _) | refine aw_block ?_ | (refine aw_exit ?_; show AW _ _ _ _ _ _) | (refine aw_goto ?_; try dsimp only [thenA, inBlockA, jumpA, noGotoA]) | (refine aw_ret ?_; try dsimp only [thenA, inBlockA, jumpA, noGotoA])
    | refine dl_cons rfl rfl (fun K kk => op_m (d := some _) hG rfl rfl rfl rfl kk) ?_
    | refine dl_cons rfl rfl (fun K kk => op_eqs (d := some _) hG rfl rfl rfl rfl kk) ?_ | refine dl_cons rfl rfl (fun K kk => op_nes (d := some _) hG rfl rfl rfl rfl kk) ?_ | refine dl_cons rfl rfl (fun K kk => op_beqs (d := some _) hG rfl rfl rfl rfl kk) ?_
    | refine dl_d rfl rfl (fun K kt kf => op_d (d := some _) hG rfl rfl rfl rfl kt kf) (fun h => ?_) (fun h => ?_) | refine dl_d rfl rfl (fun K kt kf => op_e (d := some _) hG rfl rfl rfl rfl kt kf) (fun h => ?_) (fun h => ?_) | refine dl_ne rfl rfl (fun K kt kf => op_ne (d := some _) hG rfl rfl rfl rfl kt kf) (fun h => ?_) (fun h => ?_) | refine dl_d rfl rfl (fun K kt kf => op_beq (d := some _) hG rfl rfl rfl rfl kt kf) (fun h => ?_) (fun h => ?_)
    | refine dl_cons rfl rfl (fun K kk => op_load (d := some _) hG rfl rfl (by assumption) (by exact rfl) rfl rfl kk) ?_ | refine dl_cons rfl rfl (fun K kk => op_q (d := some _) hG rfl rfl rfl kk) ?_
    | refine dl_s rfl rfl rfl ?_ | (refine dl_nil ?_; show AW _ _ _ _ _ _) | refine aw_draw mix rfl ?_)
  refine al_cons rfl (op_box' (d := some _) hG rfl rfl rfl rfl rfl (fun b1 σ1 n1 o1 p1 d1 => ?_))
  repeat' (first
    | (refine al_cons rfl ?_; first
      | refine op_m (d := some _) hG rfl rfl rfl rfl ?_
      | refine op_eqs (d := some _) hG rfl rfl rfl rfl ?_ | refine op_nes (d := some _) hG rfl rfl rfl rfl ?_ | refine op_beqs (d := some _) hG rfl rfl rfl rfl ?_
      | refine op_d (d := some _) hG rfl rfl rfl rfl (fun h => ?_) (fun h => ?_) | refine op_e (d := some _) hG rfl rfl rfl rfl (fun h => ?_) (fun h => ?_) | refine op_ne (d := some _) hG rfl rfl rfl rfl (fun h => ?_) (fun h => ?_) | refine op_beq (d := some _) hG rfl rfl rfl rfl (fun h => ?_) (fun h => ?_)
      | refine op_rem (d := some _) hG rfl rfl rfl rfl rfl rfl (by omega) ?_ | refine op_shr (d := some _) hG rfl rfl rfl rfl rfl rfl (by omega) ?_ | refine op_w (d := some _) hG rfl rfl rfl rfl (by omega) ?_ | refine op_wu (d := some _) hG rfl rfl rfl rfl (by omega) ?_ | refine op_w16 (d := some _) hG rfl rfl rfl rfl (by omega) ?_ | refine op_w8 (d := some _) hG rfl rfl rfl rfl (by omega) ?_
      | refine op_load (d := some _) hG rfl rfl (by assumption) (by exact rfl) rfl rfl ?_ | refine op_q (d := some _) hG rfl rfl rfl ?_)
    | refine al_s (d := some _) rfl rfl rfl ?_ | (refine al_nil ?_; show AW _ _ _ _ _ _) | refine aw_seq ?_ | refine aw_regL ?_ | refine aw_if_t rfl ?_ | refine aw_if_f rfl ?_
    | (refine aw_skip ?_; show AW _ _ _ _ _ _) | refine aw_block ?_ | (refine aw_exit ?_; show AW _ _ _ _ _ _) | (refine aw_goto ?_; try dsimp only [thenA, inBlockA, jumpA, noGotoA]) | (refine aw_ret ?_; try dsimp only [thenA, inBlockA, jumpA, noGotoA])
    | refine dl_cons rfl rfl (fun K kk => op_m (d := some _) hG rfl rfl rfl rfl kk) ?_
    | refine dl_cons rfl rfl (fun K kk => op_eqs (d := some _) hG rfl rfl rfl rfl kk) ?_ | refine dl_cons rfl rfl (fun K kk => op_nes (d := some _) hG rfl rfl rfl rfl kk) ?_ | refine dl_cons rfl rfl (fun K kk => op_beqs (d := some _) hG rfl rfl rfl rfl kk) ?_
    | refine dl_d rfl rfl (fun K kt kf => op_d (d := some _) hG rfl rfl rfl rfl kt kf) (fun h => ?_) (fun h => ?_) | refine dl_d rfl rfl (fun K kt kf => op_e (d := some _) hG rfl rfl rfl rfl kt kf) (fun h => ?_) (fun h => ?_) | refine dl_ne rfl rfl (fun K kt kf => op_ne (d := some _) hG rfl rfl rfl rfl kt kf) (fun h => ?_) (fun h => ?_) | refine dl_d rfl rfl (fun K kt kf => op_beq (d := some _) hG rfl rfl rfl rfl kt kf) (fun h => ?_) (fun h => ?_)
    | refine dl_cons rfl rfl (fun K kk => op_load (d := some _) hG rfl rfl (by assumption) (by exact rfl) rfl rfl kk) ?_ | refine dl_cons rfl rfl (fun K kk => op_q (d := some _) hG rfl rfl rfl kk) ?_
    | refine dl_s rfl rfl rfl ?_ | (refine dl_nil ?_; show AW _ _ _ _ _ _) | refine aw_draw mix rfl ?_)
  refine al_cons rfl (op_box' (d := some _) hG rfl rfl rfl rfl rfl (fun b2 σ2 n2 o2 p2 d2 => ?_))
  have o12 := p2 _ _ o1
  have d02 := d2.trans d1
  repeat' (first
    | (refine al_cons rfl ?_; first
      | refine op_m (d := some _) hG rfl rfl rfl rfl ?_
      | refine op_eqs (d := some _) hG rfl rfl rfl rfl ?_ | refine op_nes (d := some _) hG rfl rfl rfl rfl ?_ | refine op_beqs (d := some _) hG rfl rfl rfl rfl ?_
      | refine op_d (d := some _) hG rfl rfl rfl rfl (fun h => ?_) (fun h => ?_) | refine op_e (d := some _) hG rfl rfl rfl rfl (fun h => ?_) (fun h => ?_) | refine op_ne (d := some _) hG rfl rfl rfl rfl (fun h => ?_) (fun h => ?_) | refine op_beq (d := some _) hG rfl rfl rfl rfl (fun h => ?_) (fun h => ?_)
      | refine op_rem (d := some _) hG rfl rfl rfl rfl rfl rfl (by omega) ?_ | refine op_shr (d := some _) hG rfl rfl rfl rfl rfl rfl (by omega) ?_ | refine op_w (d := some _) hG rfl rfl rfl rfl (by omega) ?_ | refine op_wu (d := some _) hG rfl rfl rfl rfl (by omega) ?_ | refine op_w16 (d := some _) hG rfl rfl rfl rfl (by omega) ?_ | refine op_w8 (d := some _) hG rfl rfl rfl rfl (by omega) ?_
      | refine op_load (d := some _) hG rfl rfl (by assumption) (by exact rfl) rfl rfl ?_ | refine op_q (d := some _) hG rfl rfl rfl ?_)
    | refine al_s (d := some _) rfl rfl rfl ?_ | (refine al_nil ?_; show AW _ _ _ _ _ _) | refine aw_seq ?_ | refine aw_regL ?_ | refine aw_if_t rfl ?_ | refine aw_if_f rfl ?_
    | (refine aw_skip ?_; show AW _ _ _ _ _ _) | refine aw_block ?_ | (refine aw_exit ?_; show AW _ _ _ _ _ _) | (refine aw_goto ?_; try dsimp only [thenA, inBlockA, jumpA, noGotoA]) | (refine aw_ret ?_; try dsimp only [thenA, inBlockA, jumpA, noGotoA])
    | refine dl_cons rfl rfl (fun K kk => op_m (d := some _) hG rfl rfl rfl rfl kk) ?_
    | refine dl_cons rfl rfl (fun K kk => op_eqs (d := some _) hG rfl rfl rfl rfl kk) ?_ | refine dl_cons rfl rfl (fun K kk => op_nes (d := some _) hG rfl rfl rfl rfl kk) ?_ | refine dl_cons rfl rfl (fun K kk => op_beqs (d := some _) hG rfl rfl rfl rfl kk) ?_
    | refine dl_d rfl rfl (fun K kt kf => op_d (d := some _) hG rfl rfl rfl rfl kt kf) (fun h => ?_) (fun h => ?_) | refine dl_d rfl rfl (fun K kt kf => op_e (d := some _) hG rfl rfl rfl rfl kt kf) (fun h => ?_) (fun h => ?_) | refine dl_ne rfl rfl (fun K kt kf => op_ne (d := some _) hG rfl rfl rfl rfl kt kf) (fun h => ?_) (fun h => ?_) | refine dl_d rfl rfl (fun K kt kf => op_beq (d := some _) hG rfl rfl rfl rfl kt kf) (fun h => ?_) (fun h => ?_)
    | refine dl_cons rfl rfl (fun K kk => op_load (d := some _) hG rfl rfl (by assumption) (by exact rfl) rfl rfl kk) ?_ | refine dl_cons rfl rfl (fun K kk => op_q (d := some _) hG rfl rfl rfl kk) ?_
    | refine dl_s rfl rfl rfl ?_ | (refine dl_nil ?_; show AW _ _ _ _ _ _) | refine aw_draw mix rfl ?_)
  refine al_cons rfl (op_call (d := some _) rfl rfl rfl rfl rfl ?_)
  refine (same0 σ2 0).dropped ?_
  repeat' (first
    | (refine al_cons rfl ?_; first
      | refine op_m (d := some _) hG rfl rfl rfl rfl ?_
      | refine op_eqs (d := some _) hG rfl rfl rfl rfl ?_ | refine op_nes (d := some _) hG rfl rfl rfl rfl ?_ | refine op_beqs (d := some _) hG rfl rfl rfl rfl ?_
      | refine op_d (d := some _) hG rfl rfl rfl rfl (fun h => ?_) (fun h => ?_) | refine op_e (d := some _) hG rfl rfl rfl rfl (fun h => ?_) (fun h => ?_) | refine op_ne (d := some _) hG rfl rfl rfl rfl (fun h => ?_) (fun h => ?_) | refine op_beq (d := some _) hG rfl rfl rfl rfl (fun h => ?_) (fun h => ?_)
      | refine op_rem (d := some _) hG rfl rfl rfl rfl rfl rfl (by omega) ?_ | refine op_shr (d := some _) hG rfl rfl rfl rfl rfl rfl (by omega) ?_ | refine op_w (d := some _) hG rfl rfl rfl rfl (by omega) ?_ | refine op_wu (d := some _) hG rfl rfl rfl rfl (by omega) ?_ | refine op_w16 (d := some _) hG rfl rfl rfl rfl (by omega) ?_ | refine op_w8 (d := some _) hG rfl rfl rfl rfl (by omega) ?_
      | refine op_load (d := some _) hG rfl rfl (by assumption) (by exact rfl) rfl rfl ?_ | refine op_q (d := some _) hG rfl rfl rfl ?_)
    | refine al_s (d := some _) rfl rfl rfl ?_ | (refine al_nil ?_; show AW _ _ _ _ _ _) | refine aw_seq ?_ | refine aw_regL ?_ | refine aw_if_t rfl ?_ | refine aw_if_f rfl ?_
    | (refine aw_skip ?_; show AW _ _ _ _ _ _) | refine aw_block ?_ | (refine aw_exit ?_; show AW _ _ _ _ _ _) | (refine aw_goto ?_; try dsimp only [thenA, inBlockA, jumpA, noGotoA]) | (refine aw_ret ?_; try dsimp only [thenA, inBlockA, jumpA, noGotoA])
    | refine dl_cons rfl rfl (fun K kk => op_m (d := some _) hG rfl rfl rfl rfl kk) ?_
    | refine dl_cons rfl rfl (fun K kk => op_eqs (d := some _) hG rfl rfl rfl rfl kk) ?_ | refine dl_cons rfl rfl (fun K kk => op_nes (d := some _) hG rfl rfl rfl rfl kk) ?_ | refine dl_cons rfl rfl (fun K kk => op_beqs (d := some _) hG rfl rfl rfl rfl kk) ?_
    | refine dl_d rfl rfl (fun K kt kf => op_d (d := some _) hG rfl rfl rfl rfl kt kf) (fun h => ?_) (fun h => ?_) | refine dl_d rfl rfl (fun K kt kf => op_e (d := some _) hG rfl rfl rfl rfl kt kf) (fun h => ?_) (fun h => ?_) | refine dl_ne rfl rfl (fun K kt kf => op_ne (d := some _) hG rfl rfl rfl rfl kt kf) (fun h => ?_) (fun h => ?_) | refine dl_d rfl rfl (fun K kt kf => op_beq (d := some _) hG rfl rfl rfl rfl kt kf) (fun h => ?_) (fun h => ?_)
    | refine dl_cons rfl rfl (fun K kk => op_load (d := some _) hG rfl rfl (by assumption) (by exact rfl) rfl rfl kk) ?_ | refine dl_cons rfl rfl (fun K kk => op_q (d := some _) hG rfl rfl rfl kk) ?_
    | refine dl_s rfl rfl rfl ?_ | (refine dl_nil ?_; show AW _ _ _ _ _ _) | refine aw_draw mix rfl ?_)
  refine al_cons rfl (op_call (d := some _) rfl rfl rfl rfl rfl ?_)
  refine (sameSets0 σ2).dropped ?_
  repeat' (first
    | (refine al_cons rfl ?_; first
      | refine op_m (d := some _) hG rfl rfl rfl rfl ?_
      | refine op_eqs (d := some _) hG rfl rfl rfl rfl ?_ | refine op_nes (d := some _) hG rfl rfl rfl rfl ?_ | refine op_beqs (d := some _) hG rfl rfl rfl rfl ?_
      | refine op_d (d := some _) hG rfl rfl rfl rfl (fun h => ?_) (fun h => ?_) | refine op_e (d := some _) hG rfl rfl rfl rfl (fun h => ?_) (fun h => ?_) | refine op_ne (d := some _) hG rfl rfl rfl rfl (fun h => ?_) (fun h => ?_) | refine op_beq (d := some _) hG rfl rfl rfl rfl (fun h => ?_) (fun h => ?_)
      | refine op_rem (d := some _) hG rfl rfl rfl rfl rfl rfl (by omega) ?_ | refine op_shr (d := some _) hG rfl rfl rfl rfl rfl rfl (by omega) ?_ | refine op_w (d := some _) hG rfl rfl rfl rfl (by omega) ?_ | refine op_wu (d := some _) hG rfl rfl rfl rfl (by omega) ?_ | refine op_w16 (d := some _) hG rfl rfl rfl rfl (by omega) ?_ | refine op_w8 (d := some _) hG rfl rfl rfl rfl (by omega) ?_
      | refine op_load (d := some _) hG rfl rfl (by assumption) (by exact rfl) rfl rfl ?_ | refine op_q (d := some _) hG rfl rfl rfl ?_)
    | refine al_s (d := some _) rfl rfl rfl ?_ | (refine al_nil ?_; show AW _ _ _ _ _ _) | refine aw_seq ?_ | refine aw_regL ?_ | refine aw_if_t rfl ?_ | refine aw_if_f rfl ?_
    | (refine aw_skip ?_; show AW _ _ _ _ _ _) | refine aw_block ?_ | (refine aw_exit ?_; show AW _ _ _ _ _ _) | (refine aw_goto ?_; try dsimp only [thenA, inBlockA, jumpA, noGotoA]) | (refine aw_ret ?_; try dsimp only [thenA, inBlockA, jumpA, noGotoA])
    | refine dl_cons rfl rfl (fun K kk => op_m (d := some _) hG rfl rfl rfl rfl kk) ?_
    | refine dl_cons rfl rfl (fun K kk => op_eqs (d := some _) hG rfl rfl rfl rfl kk) ?_ | refine dl_cons rfl rfl (fun K kk => op_nes (d := some _) hG rfl rfl rfl rfl kk) ?_ | refine dl_cons rfl rfl (fun K kk => op_beqs (d := some _) hG rfl rfl rfl rfl kk) ?_
    | refine dl_d rfl rfl (fun K kt kf => op_d (d := some _) hG rfl rfl rfl rfl kt kf) (fun h => ?_) (fun h => ?_) | refine dl_d rfl rfl (fun K kt kf => op_e (d := some _) hG rfl rfl rfl rfl kt kf) (fun h => ?_) (fun h => ?_) | refine dl_ne rfl rfl (fun K kt kf => op_ne (d := some _) hG rfl rfl rfl rfl kt kf) (fun h => ?_) (fun h => ?_) | refine dl_d rfl rfl (fun K kt kf => op_beq (d := some _) hG rfl rfl rfl rfl kt kf) (fun h => ?_) (fun h => ?_)
    | refine dl_cons rfl rfl (fun K kk => op_load (d := some _) hG rfl rfl (by assumption) (by exact rfl) rfl rfl kk) ?_ | refine dl_cons rfl rfl (fun K kk => op_q (d := some _) hG rfl rfl rfl kk) ?_
    | refine dl_s rfl rfl rfl ?_ | (refine dl_nil ?_; show AW _ _ _ _ _ _) | refine aw_draw mix rfl ?_)
  refine al_cons rfl (op_call (d := some _) rfl rfl rfl rfl rfl ?_)
  refine (sameSet0 σ2).pure ?_
  repeat' (first
    | (refine al_cons rfl ?_; first
      | refine op_m (d := some _) hG rfl rfl rfl rfl ?_
      | refine op_eqs (d := some _) hG rfl rfl rfl rfl ?_ | refine op_nes (d := some _) hG rfl rfl rfl rfl ?_ | refine op_beqs (d := some _) hG rfl rfl rfl rfl ?_
      | refine op_d (d := some _) hG rfl rfl rfl rfl (fun h => ?_) (fun h => ?_) | refine op_e (d := some _) hG rfl rfl rfl rfl (fun h => ?_) (fun h => ?_) | refine op_ne (d := some _) hG rfl rfl rfl rfl (fun h => ?_) (fun h => ?_) | refine op_beq (d := some _) hG rfl rfl rfl rfl (fun h => ?_) (fun h => ?_)
      | refine op_rem (d := some _) hG rfl rfl rfl rfl rfl rfl (by omega) ?_ | refine op_shr (d := some _) hG rfl rfl rfl rfl rfl rfl (by omega) ?_ | refine op_w (d := some _) hG rfl rfl rfl rfl (by omega) ?_ | refine op_wu (d := some _) hG rfl rfl rfl rfl (by omega) ?_ | refine op_w16 (d := some _) hG rfl rfl rfl rfl (by omega) ?_ | refine op_w8 (d := some _) hG rfl rfl rfl rfl (by omega) ?_
      | refine op_load (d := some _) hG rfl rfl (by assumption) (by exact rfl) rfl rfl ?_ | refine op_q (d := some _) hG rfl rfl rfl ?_)
    | refine al_s (d := some _) rfl rfl rfl ?_ | (refine al_nil ?_; show AW _ _ _ _ _ _) | refine aw_seq ?_ | refine aw_regL ?_ | refine aw_if_t rfl ?_ | refine aw_if_f rfl ?_
    | (refine aw_skip ?_; show AW _ _ _ _ _ _) | refine aw_block ?_ | (refine aw_exit ?_; show AW _ _ _ _ _ _) | (refine aw_goto ?_; try dsimp only [thenA, inBlockA, jumpA, noGotoA]) | (refine aw_ret ?_; try dsimp only [thenA, inBlockA, jumpA, noGotoA])
    | refine dl_cons rfl rfl (fun K kk => op_m (d := some _) hG rfl rfl rfl rfl kk) ?_
    | refine dl_cons rfl rfl (fun K kk => op_eqs (d := some _) hG rfl rfl rfl rfl kk) ?_ | refine dl_cons rfl rfl (fun K kk => op_nes (d := some _) hG rfl rfl rfl rfl kk) ?_ | refine dl_cons rfl rfl (fun K kk => op_beqs (d := some _) hG rfl rfl rfl rfl kk) ?_
    | refine dl_d rfl rfl (fun K kt kf => op_d (d := some _) hG rfl rfl rfl rfl kt kf) (fun h => ?_) (fun h => ?_) | refine dl_d rfl rfl (fun K kt kf => op_e (d := some _) hG rfl rfl rfl rfl kt kf) (fun h => ?_) (fun h => ?_) | refine dl_ne rfl rfl (fun K kt kf => op_ne (d := some _) hG rfl rfl rfl rfl kt kf) (fun h => ?_) (fun h => ?_) | refine dl_d rfl rfl (fun K kt kf => op_beq (d := some _) hG rfl rfl rfl rfl kt kf) (fun h => ?_) (fun h => ?_)
    | refine dl_cons rfl rfl (fun K kk => op_load (d := some _) hG rfl rfl (by assumption) (by exact rfl) rfl rfl kk) ?_ | refine dl_cons rfl rfl (fun K kk => op_q (d := some _) hG rfl rfl rfl kk) ?_
    | refine dl_s rfl rfl rfl ?_ | (refine dl_nil ?_; show AW _ _ _ _ _ _) | refine aw_draw mix rfl ?_)
  refine al_cons rfl (op_call (d := some _) rfl rfl rfl rfl rfl ?_)
  refine (sameRing0 σ2).pure ?_
  repeat' (first
    | (refine al_cons rfl ?_; first
      | refine op_m (d := some _) hG rfl rfl rfl rfl ?_
      | refine op_eqs (d := some _) hG rfl rfl rfl rfl ?_ | refine op_nes (d := some _) hG rfl rfl rfl rfl ?_ | refine op_beqs (d := some _) hG rfl rfl rfl rfl ?_
      | refine op_d (d := some _) hG rfl rfl rfl rfl (fun h => ?_) (fun h => ?_) | refine op_e (d := some _) hG rfl rfl rfl rfl (fun h => ?_) (fun h => ?_) | refine op_ne (d := some _) hG rfl rfl rfl rfl (fun h => ?_) (fun h => ?_) | refine op_beq (d := some _) hG rfl rfl rfl rfl (fun h => ?_) (fun h => ?_)
      | refine op_rem (d := some _) hG rfl rfl rfl rfl rfl rfl (by omega) ?_ | refine op_shr (d := some _) hG rfl rfl rfl rfl rfl rfl (by omega) ?_ | refine op_w (d := some _) hG rfl rfl rfl rfl (by omega) ?_ | refine op_wu (d := some _) hG rfl rfl rfl rfl (by omega) ?_ | refine op_w16 (d := some _) hG rfl rfl rfl rfl (by omega) ?_ | refine op_w8 (d := some _) hG rfl rfl rfl rfl (by omega) ?_
      | refine op_load (d := some _) hG rfl rfl (by assumption) (by exact rfl) rfl rfl ?_ | refine op_q (d := some _) hG rfl rfl rfl ?_)
    | refine al_s (d := some _) rfl rfl rfl ?_ | (refine al_nil ?_; show AW _ _ _ _ _ _) | refine aw_seq ?_ | refine aw_regL ?_ | refine aw_if_t rfl ?_ | refine aw_if_f rfl ?_
    | (refine aw_skip ?_; show AW _ _ _ _ _ _) | refine aw_block ?_ | (refine aw_exit ?_; show AW _ _ _ _ _ _) | (refine aw_goto ?_; try dsimp only [thenA, inBlockA, jumpA, noGotoA]) | (refine aw_ret ?_; try dsimp only [thenA, inBlockA, jumpA, noGotoA])
    | refine dl_cons rfl rfl (fun K kk => op_m (d := some _) hG rfl rfl rfl rfl kk) ?_
    | refine dl_cons rfl rfl (fun K kk => op_eqs (d := some _) hG rfl rfl rfl rfl kk) ?_ | refine dl_cons rfl rfl (fun K kk => op_nes (d := some _) hG rfl rfl rfl rfl kk) ?_ | refine dl_cons rfl rfl (fun K kk => op_beqs (d := some _) hG rfl rfl rfl rfl kk) ?_
    | refine dl_d rfl rfl (fun K kt kf => op_d (d := some _) hG rfl rfl rfl rfl kt kf) (fun h => ?_) (fun h => ?_) | refine dl_d rfl rfl (fun K kt kf => op_e (d := some _) hG rfl rfl rfl rfl kt kf) (fun h => ?_) (fun h => ?_) | refine dl_ne rfl rfl (fun K kt kf => op_ne (d := some _) hG rfl rfl rfl rfl kt kf) (fun h => ?_) (fun h => ?_) | refine dl_d rfl rfl (fun K kt kf => op_beq (d := some _) hG rfl rfl rfl rfl kt kf) (fun h => ?_) (fun h => ?_)
    | refine dl_cons rfl rfl (fun K kk => op_load (d := some _) hG rfl rfl (by assumption) (by exact rfl) rfl rfl kk) ?_ | refine dl_cons rfl rfl (fun K kk => op_q (d := some _) hG rfl rfl rfl kk) ?_
    | refine dl_s rfl rfl rfl ?_ | (refine dl_nil ?_; show AW _ _ _ _ _ _) | refine aw_draw mix rfl ?_)
  exact aw_ret' _ rfl (Wk.refl _) ⟨rfl, d02⟩
def objB (id k q u : Int) : T := oT (.int .u64 id) (.int .i64 k) (.int .u8 0) .nilsl .nilsl .nilsl .nilsl (.int .i64 q) (.int .i64 u) (.int .i64 0) .nilsl .nilsl .nilsl
def addE (id k q u c : Int) : T × Int := if c < 0 then (objB 0 0 0 0, 1) else if c > q - u then (objB 0 0 0 0, 10) else (objB id k q (u + c), 0)
theorem qAdd (σ : St) (id k q u c : Int) (hq : 0 ≤ q ∧ q ≤ 10000) (hu : 0 ≤ u ∧ u ≤ q) : ACalls Try.prog 17 [objB id k q u, .int .i64 c] σ (fun r σ' => r = .tup [(addE id k q u c).1, .int .i64 (addE id k q u c).2] ∧ Drop σ' σ) := by
  refine acalls_mk hG Try.func17 rfl rfl rfl rfl rfl ?_
  repeat' (first
    | (refine al_cons rfl ?_; first
      | refine op_m (d := some _) hG rfl rfl rfl rfl ?_
      | refine op_eqs (d := some _) hG rfl rfl rfl rfl ?_ | refine op_nes (d := some _) hG rfl rfl rfl rfl ?_ | refine op_beqs (d := some _) hG rfl rfl rfl rfl ?_
      | refine op_d (d := some _) hG rfl rfl rfl rfl (fun h => ?_) (fun h => ?_) | refine op_e (d := some _) hG rfl rfl rfl rfl (fun h => ?_) (fun h => ?_) | refine op_ne (d := some _) hG rfl rfl rfl rfl (fun h => ?_) (fun h => ?_) | refine op_beq (d := some _) hG rfl rfl rfl rfl (fun h => ?_) (fun h => ?_)
      | refine op_rem (d := some _) hG rfl rfl rfl rfl rfl rfl (by omega) ?_ | refine op_shr (d := some _) hG rfl rfl rfl rfl rfl rfl (by omega) ?_ | refine op_w (d := some _) hG rfl rfl rfl rfl (by omega) ?_ | refine op_wu (d := some _) hG rfl rfl rfl rfl (by omega) ?_ | refine op_w16 (d := some _) hG rfl rfl rfl rfl (by omega) ?_ | refine op_w8 (d := some _) hG rfl rfl rfl rfl (by omega) ?_
      | refine op_load (d := some _) hG rfl rfl (by assumption) (by exact rfl) rfl rfl ?_ | refine op_q (d := some _) hG rfl rfl rfl ?_)
    | refine al_s (d := some _) rfl rfl rfl ?_ | (refine al_nil ?_; show AW _ _ _ _ _ _) | refine aw_seq ?_ | refine aw_regL ?_ | refine aw_if_t rfl ?_ | refine aw_if_f rfl ?_
    | (refine aw_skip ?_; show AW _ _ _ _ _ _) | refine aw_block ?_ | (refine aw_exit ?_; show AW _ _ _ _ _ _) | (refine aw_goto ?_; try dsimp only [thenA, inBlockA, jumpA, noGotoA]) | (refine aw_ret ?_; try dsimp only [thenA, inBlockA, jumpA, noGotoA])
    | refine dl_cons rfl rfl (fun K kk => op_m (d := some _) hG rfl rfl rfl rfl kk) ?_
    | refine dl_cons rfl rfl (fun K kk => op_eqs (d := some _) hG rfl rfl rfl rfl kk) ?_ | refine dl_cons rfl rfl (fun K kk => op_nes (d := some _) hG rfl rfl rfl rfl kk) ?_ | refine dl_cons rfl rfl (fun K kk => op_beqs (d := some _) hG rfl rfl rfl rfl kk) ?_
    | refine dl_d rfl rfl (fun K kt kf => op_d (d := some _) hG rfl rfl rfl rfl kt kf) (fun h => ?_) (fun h => ?_) | refine dl_d rfl rfl (fun K kt kf => op_e (d := some _) hG rfl rfl rfl rfl kt kf) (fun h => ?_) (fun h => ?_) | refine dl_ne rfl rfl (fun K kt kf => op_ne (d := some _) hG rfl rfl rfl rfl kt kf) (fun h => ?_) (fun h => ?_) | refine dl_d rfl rfl (fun K kt kf => op_beq (d := some _) hG rfl rfl rfl rfl kt kf) (fun h => ?_) (fun h => ?_)
    | refine dl_cons rfl rfl (fun K kk => op_load (d := some _) hG rfl rfl (by assumption) (by exact rfl) rfl rfl kk) ?_ | refine dl_cons rfl rfl (fun K kk => op_q (d := some _) hG rfl rfl rfl kk) ?_
    | refine dl_s rfl rfl rfl ?_ | (refine dl_nil ?_; show AW _ _ _ _ _ _) | refine aw_draw mix rfl ?_)
  refine al_cons rfl (op_box' (d := some _) hG rfl rfl rfl rfl rfl (fun b1 σ1 n1 o1 p1 d1 => ?_))
  repeat' (first
    | (refine al_cons rfl ?_; first
      | refine op_m (d := some _) hG rfl rfl rfl rfl ?_
      | refine op_eqs (d := some _) hG rfl rfl rfl rfl ?_ | refine op_nes (d := some _) hG rfl rfl rfl rfl ?_ | refine op_beqs (d := some _) hG rfl rfl rfl rfl ?_
      | refine op_d (d := some _) hG rfl rfl rfl rfl (fun h => ?_) (fun h => ?_) | refine op_e (d := some _) hG rfl rfl rfl rfl (fun h => ?_) (fun h => ?_) | refine op_ne (d := some _) hG rfl rfl rfl rfl (fun h => ?_) (fun h => ?_) | refine op_beq (d := some _) hG rfl rfl rfl rfl (fun h => ?_) (fun h => ?_)
      | refine op_rem (d := some _) hG rfl rfl rfl rfl rfl rfl (by omega) ?_ | refine op_shr (d := some _) hG rfl rfl rfl rfl rfl rfl (by omega) ?_ | refine op_w (d := some _) hG rfl rfl rfl rfl (by omega) ?_ | refine op_wu (d := some _) hG rfl rfl rfl rfl (by omega) ?_ | refine op_w16 (d := some _) hG rfl rfl rfl rfl (by omega) ?_ | refine op_w8 (d := some _) hG rfl rfl rfl rfl (by omega) ?_
      | refine op_load (d := some _) hG rfl rfl (by assumption) (by exact rfl) rfl rfl ?_ | refine op_q (d := some _) hG rfl rfl rfl ?_)
    | refine al_s (d := some _) rfl rfl rfl ?_ | (refine al_nil ?_; show AW _ _ _ _ _ _) | refine aw_seq ?_ | refine aw_regL ?_ | refine aw_if_t rfl ?_ | refine aw_if_f rfl ?_
    | (refine aw_skip ?_; show AW _ _ _ _ _ _) | refine aw_block ?_ | (refine aw_exit ?_; show AW _ _ _ _ _ _) | (refine aw_goto ?_; try dsimp only [thenA, inBlockA, jumpA, noGotoA]) | (refine aw_ret ?_; try dsimp only [thenA, inBlockA, jumpA, noGotoA])
    | refine dl_cons rfl rfl (fun K kk => op_m (d := some _) hG rfl rfl rfl rfl kk) ?_
    | refine dl_cons rfl rfl (fun K kk => op_eqs (d := some _) hG rfl rfl rfl rfl kk) ?_ | refine dl_cons rfl rfl (fun K kk => op_nes (d := some _) hG rfl rfl rfl rfl kk) ?_ | refine dl_cons rfl rfl (fun K kk => op_beqs (d := some _) hG rfl rfl rfl rfl kk) ?_
    | refine dl_d rfl rfl (fun K kt kf => op_d (d := some _) hG rfl rfl rfl rfl kt kf) (fun h => ?_) (fun h => ?_) | refine dl_d rfl rfl (fun K kt kf => op_e (d := some _) hG rfl rfl rfl rfl kt kf) (fun h => ?_) (fun h => ?_) | refine dl_ne rfl rfl (fun K kt kf => op_ne (d := some _) hG rfl rfl rfl rfl kt kf) (fun h => ?_) (fun h => ?_) | refine dl_d rfl rfl (fun K kt kf => op_beq (d := some _) hG rfl rfl rfl rfl kt kf) (fun h => ?_) (fun h => ?_)
    | refine dl_cons rfl rfl (fun K kk => op_load (d := some _) hG rfl rfl (by assumption) (by exact rfl) rfl rfl kk) ?_ | refine dl_cons rfl rfl (fun K kk => op_q (d := some _) hG rfl rfl rfl kk) ?_
    | refine dl_s rfl rfl rfl ?_ | (refine dl_nil ?_; show AW _ _ _ _ _ _) | refine aw_draw mix rfl ?_)
  refine al_cons rfl (op_alloc' (d := some _) hG rfl rfl rfl rfl (fun b2 σ2 n2 o2 p2 d2 => ?_))
  have o12 := p2 _ _ o1
  have d02 := d2.trans d1
  have m2 := d1.gone n2
  have ne : b1 ≠ b2 := by intro e; subst e; rw [o1] at n2; cases n2
  repeat' (first
    | (refine al_cons rfl ?_; first
      | refine op_m (d := some _) hG rfl rfl rfl rfl ?_
      | refine op_eqs (d := some _) hG rfl rfl rfl rfl ?_ | refine op_nes (d := some _) hG rfl rfl rfl rfl ?_ | refine op_beqs (d := some _) hG rfl rfl rfl rfl ?_
      | refine op_d (d := some _) hG rfl rfl rfl rfl (fun h => ?_) (fun h => ?_) | refine op_e (d := some _) hG rfl rfl rfl rfl (fun h => ?_) (fun h => ?_) | refine op_ne (d := some _) hG rfl rfl rfl rfl (fun h => ?_) (fun h => ?_) | refine op_beq (d := some _) hG rfl rfl rfl rfl (fun h => ?_) (fun h => ?_)
      | refine op_rem (d := some _) hG rfl rfl rfl rfl rfl rfl (by omega) ?_ | refine op_shr (d := some _) hG rfl rfl rfl rfl rfl rfl (by omega) ?_ | refine op_w (d := some _) hG rfl rfl rfl rfl (by omega) ?_ | refine op_wu (d := some _) hG rfl rfl rfl rfl (by omega) ?_ | refine op_w16 (d := some _) hG rfl rfl rfl rfl (by omega) ?_ | refine op_w8 (d := some _) hG rfl rfl rfl rfl (by omega) ?_
      | refine op_load (d := some _) hG rfl rfl (by assumption) (by exact rfl) rfl rfl ?_ | refine op_q (d := some _) hG rfl rfl rfl ?_)
    | refine al_s (d := some _) rfl rfl rfl ?_ | (refine al_nil ?_; show AW _ _ _ _ _ _) | refine aw_seq ?_ | refine aw_regL ?_ | refine aw_if_t rfl ?_ | refine aw_if_f rfl ?_
    | (refine aw_skip ?_; show AW _ _ _ _ _ _) | refine aw_block ?_ | (refine aw_exit ?_; show AW _ _ _ _ _ _) | (refine aw_goto ?_; try dsimp only [thenA, inBlockA, jumpA, noGotoA]) | (refine aw_ret ?_; try dsimp only [thenA, inBlockA, jumpA, noGotoA])
    | refine dl_cons rfl rfl (fun K kk => op_m (d := some _) hG rfl rfl rfl rfl kk) ?_
    | refine dl_cons rfl rfl (fun K kk => op_eqs (d := some _) hG rfl rfl rfl rfl kk) ?_ | refine dl_cons rfl rfl (fun K kk => op_nes (d := some _) hG rfl rfl rfl rfl kk) ?_ | refine dl_cons rfl rfl (fun K kk => op_beqs (d := some _) hG rfl rfl rfl rfl kk) ?_
    | refine dl_d rfl rfl (fun K kt kf => op_d (d := some _) hG rfl rfl rfl rfl kt kf) (fun h => ?_) (fun h => ?_) | refine dl_d rfl rfl (fun K kt kf => op_e (d := some _) hG rfl rfl rfl rfl kt kf) (fun h => ?_) (fun h => ?_) | refine dl_ne rfl rfl (fun K kt kf => op_ne (d := some _) hG rfl rfl rfl rfl kt kf) (fun h => ?_) (fun h => ?_) | refine dl_d rfl rfl (fun K kt kf => op_beq (d := some _) hG rfl rfl rfl rfl kt kf) (fun h => ?_) (fun h => ?_)
    | refine dl_cons rfl rfl (fun K kk => op_load (d := some _) hG rfl rfl (by assumption) (by exact rfl) rfl rfl kk) ?_ | refine dl_cons rfl rfl (fun K kk => op_q (d := some _) hG rfl rfl rfl kk) ?_
    | refine dl_s rfl rfl rfl ?_ | (refine dl_nil ?_; show AW _ _ _ _ _ _) | refine aw_draw mix rfl ?_)
  · refine al_cons rfl (op_build (d := some _) hG rfl rfl rfl rfl rfl rfl rfl ?_)
    refine al_cons rfl (op_store' hG rfl rfl rfl (by assumption) (by exact rfl) (by exact rfl) (by exact rfl) (by exact rfl) rfl (fun σ3 o3 p3 d3 => ?_))
    repeat' (first
    | (refine al_cons rfl ?_; first
      | refine op_m (d := some _) hG rfl rfl rfl rfl ?_
      | refine op_eqs (d := some _) hG rfl rfl rfl rfl ?_ | refine op_nes (d := some _) hG rfl rfl rfl rfl ?_ | refine op_beqs (d := some _) hG rfl rfl rfl rfl ?_
      | refine op_d (d := some _) hG rfl rfl rfl rfl (fun h => ?_) (fun h => ?_) | refine op_e (d := some _) hG rfl rfl rfl rfl (fun h => ?_) (fun h => ?_) | refine op_ne (d := some _) hG rfl rfl rfl rfl (fun h => ?_) (fun h => ?_) | refine op_beq (d := some _) hG rfl rfl rfl rfl (fun h => ?_) (fun h => ?_)
      | refine op_rem (d := some _) hG rfl rfl rfl rfl rfl rfl (by omega) ?_ | refine op_shr (d := some _) hG rfl rfl rfl rfl rfl rfl (by omega) ?_ | refine op_w (d := some _) hG rfl rfl rfl rfl (by omega) ?_ | refine op_wu (d := some _) hG rfl rfl rfl rfl (by omega) ?_ | refine op_w16 (d := some _) hG rfl rfl rfl rfl (by omega) ?_ | refine op_w8 (d := some _) hG rfl rfl rfl rfl (by omega) ?_
      | refine op_load (d := some _) hG rfl rfl (by assumption) (by exact rfl) rfl rfl ?_ | refine op_q (d := some _) hG rfl rfl rfl ?_)
    | refine al_s (d := some _) rfl rfl rfl ?_ | (refine al_nil ?_; show AW _ _ _ _ _ _) | refine aw_seq ?_ | refine aw_regL ?_ | refine aw_if_t rfl ?_ | refine aw_if_f rfl ?_
    | (refine aw_skip ?_; show AW _ _ _ _ _ _) | refine aw_block ?_ | (refine aw_exit ?_; show AW _ _ _ _ _ _) | (refine aw_goto ?_; try dsimp only [thenA, inBlockA, jumpA, noGotoA]) | (refine aw_ret ?_; try dsimp only [thenA, inBlockA, jumpA, noGotoA])
    | refine dl_cons rfl rfl (fun K kk => op_m (d := some _) hG rfl rfl rfl rfl kk) ?_
    | refine dl_cons rfl rfl (fun K kk => op_eqs (d := some _) hG rfl rfl rfl rfl kk) ?_ | refine dl_cons rfl rfl (fun K kk => op_nes (d := some _) hG rfl rfl rfl rfl kk) ?_ | refine dl_cons rfl rfl (fun K kk => op_beqs (d := some _) hG rfl rfl rfl rfl kk) ?_
    | refine dl_d rfl rfl (fun K kt kf => op_d (d := some _) hG rfl rfl rfl rfl kt kf) (fun h => ?_) (fun h => ?_) | refine dl_d rfl rfl (fun K kt kf => op_e (d := some _) hG rfl rfl rfl rfl kt kf) (fun h => ?_) (fun h => ?_) | refine dl_ne rfl rfl (fun K kt kf => op_ne (d := some _) hG rfl rfl rfl rfl kt kf) (fun h => ?_) (fun h => ?_) | refine dl_d rfl rfl (fun K kt kf => op_beq (d := some _) hG rfl rfl rfl rfl kt kf) (fun h => ?_) (fun h => ?_)
    | refine dl_cons rfl rfl (fun K kk => op_load (d := some _) hG rfl rfl (by assumption) (by exact rfl) rfl rfl kk) ?_ | refine dl_cons rfl rfl (fun K kk => op_q (d := some _) hG rfl rfl rfl kk) ?_
    | refine dl_s rfl rfl rfl ?_ | (refine dl_nil ?_; show AW _ _ _ _ _ _) | refine aw_draw mix rfl ?_)
    exact aw_ret' _ (resT_two (resTs_cell rfl (by assumption) (by exact rfl) (resTs_tmp rfl rfl))) (Wk.refl _) ⟨by simp only [addE, if_pos h]; rfl, d3 σ m2 d02⟩
  · refine al_cons rfl (op_build (d := some _) hG rfl rfl rfl rfl rfl rfl rfl ?_)
    refine al_cons rfl (op_store' hG rfl rfl rfl (by assumption) (by exact rfl) (by exact rfl) (by exact rfl) (by exact rfl) rfl (fun σ3 o3 p3 d3 => ?_))
    repeat' (first
    | (refine al_cons rfl ?_; first
      | refine op_m (d := some _) hG rfl rfl rfl rfl ?_
      | refine op_eqs (d := some _) hG rfl rfl rfl rfl ?_ | refine op_nes (d := some _) hG rfl rfl rfl rfl ?_ | refine op_beqs (d := some _) hG rfl rfl rfl rfl ?_
      | refine op_d (d := some _) hG rfl rfl rfl rfl (fun h => ?_) (fun h => ?_) | refine op_e (d := some _) hG rfl rfl rfl rfl (fun h => ?_) (fun h => ?_) | refine op_ne (d := some _) hG rfl rfl rfl rfl (fun h => ?_) (fun h => ?_) | refine op_beq (d := some _) hG rfl rfl rfl rfl (fun h => ?_) (fun h => ?_)
      | refine op_rem (d := some _) hG rfl rfl rfl rfl rfl rfl (by omega) ?_ | refine op_shr (d := some _) hG rfl rfl rfl rfl rfl rfl (by omega) ?_ | refine op_w (d := some _) hG rfl rfl rfl rfl (by omega) ?_ | refine op_wu (d := some _) hG rfl rfl rfl rfl (by omega) ?_ | refine op_w16 (d := some _) hG rfl rfl rfl rfl (by omega) ?_ | refine op_w8 (d := some _) hG rfl rfl rfl rfl (by omega) ?_
      | refine op_load (d := some _) hG rfl rfl (by assumption) (by exact rfl) rfl rfl ?_ | refine op_q (d := some _) hG rfl rfl rfl ?_)
    | refine al_s (d := some _) rfl rfl rfl ?_ | (refine al_nil ?_; show AW _ _ _ _ _ _) | refine aw_seq ?_ | refine aw_regL ?_ | refine aw_if_t rfl ?_ | refine aw_if_f rfl ?_
    | (refine aw_skip ?_; show AW _ _ _ _ _ _) | refine aw_block ?_ | (refine aw_exit ?_; show AW _ _ _ _ _ _) | (refine aw_goto ?_; try dsimp only [thenA, inBlockA, jumpA, noGotoA]) | (refine aw_ret ?_; try dsimp only [thenA, inBlockA, jumpA, noGotoA])
    | refine dl_cons rfl rfl (fun K kk => op_m (d := some _) hG rfl rfl rfl rfl kk) ?_
    | refine dl_cons rfl rfl (fun K kk => op_eqs (d := some _) hG rfl rfl rfl rfl kk) ?_ | refine dl_cons rfl rfl (fun K kk => op_nes (d := some _) hG rfl rfl rfl rfl kk) ?_ | refine dl_cons rfl rfl (fun K kk => op_beqs (d := some _) hG rfl rfl rfl rfl kk) ?_
    | refine dl_d rfl rfl (fun K kt kf => op_d (d := some _) hG rfl rfl rfl rfl kt kf) (fun h => ?_) (fun h => ?_) | refine dl_d rfl rfl (fun K kt kf => op_e (d := some _) hG rfl rfl rfl rfl kt kf) (fun h => ?_) (fun h => ?_) | refine dl_ne rfl rfl (fun K kt kf => op_ne (d := some _) hG rfl rfl rfl rfl kt kf) (fun h => ?_) (fun h => ?_) | refine dl_d rfl rfl (fun K kt kf => op_beq (d := some _) hG rfl rfl rfl rfl kt kf) (fun h => ?_) (fun h => ?_)
    | refine dl_cons rfl rfl (fun K kk => op_load (d := some _) hG rfl rfl (by assumption) (by exact rfl) rfl rfl kk) ?_ | refine dl_cons rfl rfl (fun K kk => op_q (d := some _) hG rfl rfl rfl kk) ?_
    | refine dl_s rfl rfl rfl ?_ | (refine dl_nil ?_; show AW _ _ _ _ _ _) | refine aw_draw mix rfl ?_)
    exact aw_ret' _ (resT_two (resTs_cell rfl (by assumption) (by exact rfl) (resTs_tmp rfl rfl))) (Wk.refl _) ⟨by simp only [addE, if_neg ‹¬ c < 0›, if_pos (show c > q - u from h)]; rfl, d3 σ m2 d02⟩
  · refine al_cons rfl (op_store' hG rfl rfl rfl (by assumption) (by exact rfl) (by exact rfl) (by exact rfl) (by exact rfl) rfl (fun σ3 o3 p3 d3 => ?_))
    have o32 := (p3 _ (Ne.symm ne)).trans o2
    have d03 := d3 σ n1 d02
    repeat' (first
    | (refine al_cons rfl ?_; first
      | refine op_m (d := some _) hG rfl rfl rfl rfl ?_
      | refine op_eqs (d := some _) hG rfl rfl rfl rfl ?_ | refine op_nes (d := some _) hG rfl rfl rfl rfl ?_ | refine op_beqs (d := some _) hG rfl rfl rfl rfl ?_
      | refine op_d (d := some _) hG rfl rfl rfl rfl (fun h => ?_) (fun h => ?_) | refine op_e (d := some _) hG rfl rfl rfl rfl (fun h => ?_) (fun h => ?_) | refine op_ne (d := some _) hG rfl rfl rfl rfl (fun h => ?_) (fun h => ?_) | refine op_beq (d := some _) hG rfl rfl rfl rfl (fun h => ?_) (fun h => ?_)
      | refine op_rem (d := some _) hG rfl rfl rfl rfl rfl rfl (by omega) ?_ | refine op_shr (d := some _) hG rfl rfl rfl rfl rfl rfl (by omega) ?_ | refine op_w (d := some _) hG rfl rfl rfl rfl (by omega) ?_ | refine op_wu (d := some _) hG rfl rfl rfl rfl (by omega) ?_ | refine op_w16 (d := some _) hG rfl rfl rfl rfl (by omega) ?_ | refine op_w8 (d := some _) hG rfl rfl rfl rfl (by omega) ?_
      | refine op_load (d := some _) hG rfl rfl (by assumption) (by exact rfl) rfl rfl ?_ | refine op_q (d := some _) hG rfl rfl rfl ?_)
    | refine al_s (d := some _) rfl rfl rfl ?_ | (refine al_nil ?_; show AW _ _ _ _ _ _) | refine aw_seq ?_ | refine aw_regL ?_ | refine aw_if_t rfl ?_ | refine aw_if_f rfl ?_
    | (refine aw_skip ?_; show AW _ _ _ _ _ _) | refine aw_block ?_ | (refine aw_exit ?_; show AW _ _ _ _ _ _) | (refine aw_goto ?_; try dsimp only [thenA, inBlockA, jumpA, noGotoA]) | (refine aw_ret ?_; try dsimp only [thenA, inBlockA, jumpA, noGotoA])
    | refine dl_cons rfl rfl (fun K kk => op_m (d := some _) hG rfl rfl rfl rfl kk) ?_
    | refine dl_cons rfl rfl (fun K kk => op_eqs (d := some _) hG rfl rfl rfl rfl kk) ?_ | refine dl_cons rfl rfl (fun K kk => op_nes (d := some _) hG rfl rfl rfl rfl kk) ?_ | refine dl_cons rfl rfl (fun K kk => op_beqs (d := some _) hG rfl rfl rfl rfl kk) ?_
    | refine dl_d rfl rfl (fun K kt kf => op_d (d := some _) hG rfl rfl rfl rfl kt kf) (fun h => ?_) (fun h => ?_) | refine dl_d rfl rfl (fun K kt kf => op_e (d := some _) hG rfl rfl rfl rfl kt kf) (fun h => ?_) (fun h => ?_) | refine dl_ne rfl rfl (fun K kt kf => op_ne (d := some _) hG rfl rfl rfl rfl kt kf) (fun h => ?_) (fun h => ?_) | refine dl_d rfl rfl (fun K kt kf => op_beq (d := some _) hG rfl rfl rfl rfl kt kf) (fun h => ?_) (fun h => ?_)
    | refine dl_cons rfl rfl (fun K kk => op_load (d := some _) hG rfl rfl (by assumption) (by exact rfl) rfl rfl kk) ?_ | refine dl_cons rfl rfl (fun K kk => op_q (d := some _) hG rfl rfl rfl kk) ?_
    | refine dl_s rfl rfl rfl ?_ | (refine dl_nil ?_; show AW _ _ _ _ _ _) | refine aw_draw mix rfl ?_)
    refine al_cons rfl (op_store' hG rfl rfl rfl (by assumption) (by exact rfl) (by exact rfl) (by exact rfl) (by exact rfl) rfl (fun σ4 o4 p4 d4 => ?_))
    repeat' (first
    | (refine al_cons rfl ?_; first
      | refine op_m (d := some _) hG rfl rfl rfl rfl ?_
      | refine op_eqs (d := some _) hG rfl rfl rfl rfl ?_ | refine op_nes (d := some _) hG rfl rfl rfl rfl ?_ | refine op_beqs (d := some _) hG rfl rfl rfl rfl ?_
      | refine op_d (d := some _) hG rfl rfl rfl rfl (fun h => ?_) (fun h => ?_) | refine op_e (d := some _) hG rfl rfl rfl rfl (fun h => ?_) (fun h => ?_) | refine op_ne (d := some _) hG rfl rfl rfl rfl (fun h => ?_) (fun h => ?_) | refine op_beq (d := some _) hG rfl rfl rfl rfl (fun h => ?_) (fun h => ?_)
      | refine op_rem (d := some _) hG rfl rfl rfl rfl rfl rfl (by omega) ?_ | refine op_shr (d := some _) hG rfl rfl rfl rfl rfl rfl (by omega) ?_ | refine op_w (d := some _) hG rfl rfl rfl rfl (by omega) ?_ | refine op_wu (d := some _) hG rfl rfl rfl rfl (by omega) ?_ | refine op_w16 (d := some _) hG rfl rfl rfl rfl (by omega) ?_ | refine op_w8 (d := some _) hG rfl rfl rfl rfl (by omega) ?_
      | refine op_load (d := some _) hG rfl rfl (by assumption) (by exact rfl) rfl rfl ?_ | refine op_q (d := some _) hG rfl rfl rfl ?_)
    | refine al_s (d := some _) rfl rfl rfl ?_ | (refine al_nil ?_; show AW _ _ _ _ _ _) | refine aw_seq ?_ | refine aw_regL ?_ | refine aw_if_t rfl ?_ | refine aw_if_f rfl ?_
    | (refine aw_skip ?_; show AW _ _ _ _ _ _) | refine aw_block ?_ | (refine aw_exit ?_; show AW _ _ _ _ _ _) | (refine aw_goto ?_; try dsimp only [thenA, inBlockA, jumpA, noGotoA]) | (refine aw_ret ?_; try dsimp only [thenA, inBlockA, jumpA, noGotoA])
    | refine dl_cons rfl rfl (fun K kk => op_m (d := some _) hG rfl rfl rfl rfl kk) ?_
    | refine dl_cons rfl rfl (fun K kk => op_eqs (d := some _) hG rfl rfl rfl rfl kk) ?_ | refine dl_cons rfl rfl (fun K kk => op_nes (d := some _) hG rfl rfl rfl rfl kk) ?_ | refine dl_cons rfl rfl (fun K kk => op_beqs (d := some _) hG rfl rfl rfl rfl kk) ?_
    | refine dl_d rfl rfl (fun K kt kf => op_d (d := some _) hG rfl rfl rfl rfl kt kf) (fun h => ?_) (fun h => ?_) | refine dl_d rfl rfl (fun K kt kf => op_e (d := some _) hG rfl rfl rfl rfl kt kf) (fun h => ?_) (fun h => ?_) | refine dl_ne rfl rfl (fun K kt kf => op_ne (d := some _) hG rfl rfl rfl rfl kt kf) (fun h => ?_) (fun h => ?_) | refine dl_d rfl rfl (fun K kt kf => op_beq (d := some _) hG rfl rfl rfl rfl kt kf) (fun h => ?_) (fun h => ?_)
    | refine dl_cons rfl rfl (fun K kk => op_load (d := some _) hG rfl rfl (by assumption) (by exact rfl) rfl rfl kk) ?_ | refine dl_cons rfl rfl (fun K kk => op_q (d := some _) hG rfl rfl rfl kk) ?_
    | refine dl_s rfl rfl rfl ?_ | (refine dl_nil ?_; show AW _ _ _ _ _ _) | refine aw_draw mix rfl ?_)
    exact aw_ret' _ (resT_two (resTs_cell rfl (by assumption) (by exact rfl) (resTs_tmp rfl rfl))) (Wk.refl _) ⟨by simp only [addE, if_neg ‹¬ c < 0›, if_neg (show ¬ c > q - u from h)]; rfl, d4 σ m2 d03⟩
theorem rAdd (σ : St) (id k q u c : Int) (hq : 0 ≤ q ∧ q ≤ 10000) (hu : 0 ≤ u ∧ u ≤ q) : ACalls Try.prog 18 [objB id k q u, .int .i64 c] σ (fun r σ' => r = .tup [(addE id k q u c).1, .int .i64 (addE id k q u c).2] ∧ Drop σ' σ) := by
  refine acalls_mk hG Try.func18 rfl rfl rfl rfl rfl ?_
  repeat' (first
    | (refine al_cons rfl ?_; first
      | refine op_m (d := some _) hG rfl rfl rfl rfl ?_
      | refine op_eqs (d := some _) hG rfl rfl rfl rfl ?_ | refine op_nes (d := some _) hG rfl rfl rfl rfl ?_ | refine op_beqs (d := some _) hG rfl rfl rfl rfl ?_
      | refine op_d (d := some _) hG rfl rfl rfl rfl (fun h => ?_) (fun h => ?_) | refine op_e (d := some _) hG rfl rfl rfl rfl (fun h => ?_) (fun h => ?_) | refine op_ne (d := some _) hG rfl rfl rfl rfl (fun h => ?_) (fun h => ?_) | refine op_beq (d := some _) hG rfl rfl rfl rfl (fun h => ?_) (fun h => ?_)
      | refine op_rem (d := some _) hG rfl rfl rfl rfl rfl rfl (by omega) ?_ | refine op_shr (d := some _) hG rfl rfl rfl rfl rfl rfl (by omega) ?_ | refine op_w (d := some _) hG rfl rfl rfl rfl (by omega) ?_ | refine op_wu (d := some _) hG rfl rfl rfl rfl (by omega) ?_ | refine op_w16 (d := some _) hG rfl rfl rfl rfl (by omega) ?_ | refine op_w8 (d := some _) hG rfl rfl rfl rfl (by omega) ?_
      | refine op_load (d := some _) hG rfl rfl (by assumption) (by exact rfl) rfl rfl ?_ | refine op_q (d := some _) hG rfl rfl rfl ?_)
    | refine al_s (d := some _) rfl rfl rfl ?_ | (refine al_nil ?_; show AW _ _ _ _ _ _) | refine aw_seq ?_ | refine aw_regL ?_ | refine aw_if_t rfl ?_ | refine aw_if_f rfl ?_
    | (refine aw_skip ?_; show AW _ _ _ _ _ _) | refine aw_block ?_ | (refine aw_exit ?_; show AW _ _ _ _ _ _) | (refine aw_goto ?_; try dsimp only [thenA, inBlockA, jumpA, noGotoA]) | (refine aw_ret ?_; try dsimp only [thenA, inBlockA, jumpA, noGotoA])
    | refine dl_cons rfl rfl (fun K kk => op_m (d := some _) hG rfl rfl rfl rfl kk) ?_
    | refine dl_cons rfl rfl (fun K kk => op_eqs (d := some _) hG rfl rfl rfl rfl kk) ?_ | refine dl_cons rfl rfl (fun K kk => op_nes (d := some _) hG rfl rfl rfl rfl kk) ?_ | refine dl_cons rfl rfl (fun K kk => op_beqs (d := some _) hG rfl rfl rfl rfl kk) ?_
    | refine dl_d rfl rfl (fun K kt kf => op_d (d := some _) hG rfl rfl rfl rfl kt kf) (fun h => ?_) (fun h => ?_) | refine dl_d rfl rfl (fun K kt kf => op_e (d := some _) hG rfl rfl rfl rfl kt kf) (fun h => ?_) (fun h => ?_) | refine dl_ne rfl rfl (fun K kt kf => op_ne (d := some _) hG rfl rfl rfl rfl kt kf) (fun h => ?_) (fun h => ?_) | refine dl_d rfl rfl (fun K kt kf => op_beq (d := some _) hG rfl rfl rfl rfl kt kf) (fun h => ?_) (fun h => ?_)
    | refine dl_cons rfl rfl (fun K kk => op_load (d := some _) hG rfl rfl (by assumption) (by exact rfl) rfl rfl kk) ?_ | refine dl_cons rfl rfl (fun K kk => op_q (d := some _) hG rfl rfl rfl kk) ?_
    | refine dl_s rfl rfl rfl ?_ | (refine dl_nil ?_; show AW _ _ _ _ _ _) | refine aw_draw mix rfl ?_)
  refine al_cons rfl (op_box' (d := some _) hG rfl rfl rfl rfl rfl (fun b1 σ1 n1 o1 p1 d1 => ?_))
  repeat' (first
    | (refine al_cons rfl ?_; first
      | refine op_m (d := some _) hG rfl rfl rfl rfl ?_
      | refine op_eqs (d := some _) hG rfl rfl rfl rfl ?_ | refine op_nes (d := some _) hG rfl rfl rfl rfl ?_ | refine op_beqs (d := some _) hG rfl rfl rfl rfl ?_
      | refine op_d (d := some _) hG rfl rfl rfl rfl (fun h => ?_) (fun h => ?_) | refine op_e (d := some _) hG rfl rfl rfl rfl (fun h => ?_) (fun h => ?_) | refine op_ne (d := some _) hG rfl rfl rfl rfl (fun h => ?_) (fun h => ?_) | refine op_beq (d := some _) hG rfl rfl rfl rfl (fun h => ?_) (fun h => ?_)
      | refine op_rem (d := some _) hG rfl rfl rfl rfl rfl rfl (by omega) ?_ | refine op_shr (d := some _) hG rfl rfl rfl rfl rfl rfl (by omega) ?_ | refine op_w (d := some _) hG rfl rfl rfl rfl (by omega) ?_ | refine op_wu (d := some _) hG rfl rfl rfl rfl (by omega) ?_ | refine op_w16 (d := some _) hG rfl rfl rfl rfl (by omega) ?_ | refine op_w8 (d := some _) hG rfl rfl rfl rfl (by omega) ?_
      | refine op_load (d := some _) hG rfl rfl (by assumption) (by exact rfl) rfl rfl ?_ | refine op_q (d := some _) hG rfl rfl rfl ?_)
    | refine al_s (d := some _) rfl rfl rfl ?_ | (refine al_nil ?_; show AW _ _ _ _ _ _) | refine aw_seq ?_ | refine aw_regL ?_ | refine aw_if_t rfl ?_ | refine aw_if_f rfl ?_
    | (refine aw_skip ?_; show AW _ _ _ _ _ _) | refine aw_block ?_ | (refine aw_exit ?_; show AW _ _ _ _ _ _) | (refine aw_goto ?_; try dsimp only [thenA, inBlockA, jumpA, noGotoA]) | (refine aw_ret ?_; try dsimp only [thenA, inBlockA, jumpA, noGotoA])
    | refine dl_cons rfl rfl (fun K kk => op_m (d := some _) hG rfl rfl rfl rfl kk) ?_
    | refine dl_cons rfl rfl (fun K kk => op_eqs (d := some _) hG rfl rfl rfl rfl kk) ?_ | refine dl_cons rfl rfl (fun K kk => op_nes (d := some _) hG rfl rfl rfl rfl kk) ?_ | refine dl_cons rfl rfl (fun K kk => op_beqs (d := some _) hG rfl rfl rfl rfl kk) ?_
    | refine dl_d rfl rfl (fun K kt kf => op_d (d := some _) hG rfl rfl rfl rfl kt kf) (fun h => ?_) (fun h => ?_) | refine dl_d rfl rfl (fun K kt kf => op_e (d := some _) hG rfl rfl rfl rfl kt kf) (fun h => ?_) (fun h => ?_) | refine dl_ne rfl rfl (fun K kt kf => op_ne (d := some _) hG rfl rfl rfl rfl kt kf) (fun h => ?_) (fun h => ?_) | refine dl_d rfl rfl (fun K kt kf => op_beq (d := some _) hG rfl rfl rfl rfl kt kf) (fun h => ?_) (fun h => ?_)
    | refine dl_cons rfl rfl (fun K kk => op_load (d := some _) hG rfl rfl (by assumption) (by exact rfl) rfl rfl kk) ?_ | refine dl_cons rfl rfl (fun K kk => op_q (d := some _) hG rfl rfl rfl kk) ?_
    | refine dl_s rfl rfl rfl ?_ | (refine dl_nil ?_; show AW _ _ _ _ _ _) | refine aw_draw mix rfl ?_)
  refine al_cons rfl (op_alloc' (d := some _) hG rfl rfl rfl rfl (fun b2 σ2 n2 o2 p2 d2 => ?_))
  have o12 := p2 _ _ o1
  have d02 := d2.trans d1
  have m2 := d1.gone n2
  have ne : b1 ≠ b2 := by intro e; subst e; rw [o1] at n2; cases n2
  repeat' (first
    | (refine al_cons rfl ?_; first
      | refine op_m (d := some _) hG rfl rfl rfl rfl ?_
      | refine op_eqs (d := some _) hG rfl rfl rfl rfl ?_ | refine op_nes (d := some _) hG rfl rfl rfl rfl ?_ | refine op_beqs (d := some _) hG rfl rfl rfl rfl ?_
      | refine op_d (d := some _) hG rfl rfl rfl rfl (fun h => ?_) (fun h => ?_) | refine op_e (d := some _) hG rfl rfl rfl rfl (fun h => ?_) (fun h => ?_) | refine op_ne (d := some _) hG rfl rfl rfl rfl (fun h => ?_) (fun h => ?_) | refine op_beq (d := some _) hG rfl rfl rfl rfl (fun h => ?_) (fun h => ?_)
      | refine op_rem (d := some _) hG rfl rfl rfl rfl rfl rfl (by omega) ?_ | refine op_shr (d := some _) hG rfl rfl rfl rfl rfl rfl (by omega) ?_ | refine op_w (d := some _) hG rfl rfl rfl rfl (by omega) ?_ | refine op_wu (d := some _) hG rfl rfl rfl rfl (by omega) ?_ | refine op_w16 (d := some _) hG rfl rfl rfl rfl (by omega) ?_ | refine op_w8 (d := some _) hG rfl rfl rfl rfl (by omega) ?_
      | refine op_load (d := some _) hG rfl rfl (by assumption) (by exact rfl) rfl rfl ?_ | refine op_q (d := some _) hG rfl rfl rfl ?_)
    | refine al_s (d := some _) rfl rfl rfl ?_ | (refine al_nil ?_; show AW _ _ _ _ _ _) | refine aw_seq ?_ | refine aw_regL ?_ | refine aw_if_t rfl ?_ | refine aw_if_f rfl ?_
    | (refine aw_skip ?_; show AW _ _ _ _ _ _) | refine aw_block ?_ | (refine aw_exit ?_; show AW _ _ _ _ _ _) | (refine aw_goto ?_; try dsimp only [thenA, inBlockA, jumpA, noGotoA]) | (refine aw_ret ?_; try dsimp only [thenA, inBlockA, jumpA, noGotoA])
    | refine dl_cons rfl rfl (fun K kk => op_m (d := some _) hG rfl rfl rfl rfl kk) ?_
    | refine dl_cons rfl rfl (fun K kk => op_eqs (d := some _) hG rfl rfl rfl rfl kk) ?_ | refine dl_cons rfl rfl (fun K kk => op_nes (d := some _) hG rfl rfl rfl rfl kk) ?_ | refine dl_cons rfl rfl (fun K kk => op_beqs (d := some _) hG rfl rfl rfl rfl kk) ?_
    | refine dl_d rfl rfl (fun K kt kf => op_d (d := some _) hG rfl rfl rfl rfl kt kf) (fun h => ?_) (fun h => ?_) | refine dl_d rfl rfl (fun K kt kf => op_e (d := some _) hG rfl rfl rfl rfl kt kf) (fun h => ?_) (fun h => ?_) | refine dl_ne rfl rfl (fun K kt kf => op_ne (d := some _) hG rfl rfl rfl rfl kt kf) (fun h => ?_) (fun h => ?_) | refine dl_d rfl rfl (fun K kt kf => op_beq (d := some _) hG rfl rfl rfl rfl kt kf) (fun h => ?_) (fun h => ?_)
    | refine dl_cons rfl rfl (fun K kk => op_load (d := some _) hG rfl rfl (by assumption) (by exact rfl) rfl rfl kk) ?_ | refine dl_cons rfl rfl (fun K kk => op_q (d := some _) hG rfl rfl rfl kk) ?_
    | refine dl_s rfl rfl rfl ?_ | (refine dl_nil ?_; show AW _ _ _ _ _ _) | refine aw_draw mix rfl ?_)
  · refine al_cons rfl (op_build (d := some _) hG rfl rfl rfl rfl rfl rfl rfl ?_)
    refine al_cons rfl (op_store' hG rfl rfl rfl (by assumption) (by exact rfl) (by exact rfl) (by exact rfl) (by exact rfl) rfl (fun σ3 o3 p3 d3 => ?_))
    repeat' (first
    | (refine al_cons rfl ?_; first
      | refine op_m (d := some _) hG rfl rfl rfl rfl ?_
      | refine op_eqs (d := some _) hG rfl rfl rfl rfl ?_ | refine op_nes (d := some _) hG rfl rfl rfl rfl ?_ | refine op_beqs (d := some _) hG rfl rfl rfl rfl ?_
      | refine op_d (d := some _) hG rfl rfl rfl rfl (fun h => ?_) (fun h => ?_) | refine op_e (d := some _) hG rfl rfl rfl rfl (fun h => ?_) (fun h => ?_) | refine op_ne (d := some _) hG rfl rfl rfl rfl (fun h => ?_) (fun h => ?_) | refine op_beq (d := some _) hG rfl rfl rfl rfl (fun h => ?_) (fun h => ?_)
      | refine op_rem (d := some _) hG rfl rfl rfl rfl rfl rfl (by omega) ?_ | refine op_shr (d := some _) hG rfl rfl rfl rfl rfl rfl (by omega) ?_ | refine op_w (d := some _) hG rfl rfl rfl rfl (by omega) ?_ | refine op_wu (d := some _) hG rfl rfl rfl rfl (by omega) ?_ | refine op_w16 (d := some _) hG rfl rfl rfl rfl (by omega) ?_ | refine op_w8 (d := some _) hG rfl rfl rfl rfl (by omega) ?_
      | refine op_load (d := some _) hG rfl rfl (by assumption) (by exact rfl) rfl rfl ?_ | refine op_q (d := some _) hG rfl rfl rfl ?_)
    | refine al_s (d := some _) rfl rfl rfl ?_ | (refine al_nil ?_; show AW _ _ _ _ _ _) | refine aw_seq ?_ | refine aw_regL ?_ | refine aw_if_t rfl ?_ | refine aw_if_f rfl ?_
    | (refine aw_skip ?_; show AW _ _ _ _ _ _) | refine aw_block ?_ | (refine aw_exit ?_; show AW _ _ _ _ _ _) | (refine aw_goto ?_; try dsimp only [thenA, inBlockA, jumpA, noGotoA]) | (refine aw_ret ?_; try dsimp only [thenA, inBlockA, jumpA, noGotoA])
    | refine dl_cons rfl rfl (fun K kk => op_m (d := some _) hG rfl rfl rfl rfl kk) ?_
    | refine dl_cons rfl rfl (fun K kk => op_eqs (d := some _) hG rfl rfl rfl rfl kk) ?_ | refine dl_cons rfl rfl (fun K kk => op_nes (d := some _) hG rfl rfl rfl rfl kk) ?_ | refine dl_cons rfl rfl (fun K kk => op_beqs (d := some _) hG rfl rfl rfl rfl kk) ?_
    | refine dl_d rfl rfl (fun K kt kf => op_d (d := some _) hG rfl rfl rfl rfl kt kf) (fun h => ?_) (fun h => ?_) | refine dl_d rfl rfl (fun K kt kf => op_e (d := some _) hG rfl rfl rfl rfl kt kf) (fun h => ?_) (fun h => ?_) | refine dl_ne rfl rfl (fun K kt kf => op_ne (d := some _) hG rfl rfl rfl rfl kt kf) (fun h => ?_) (fun h => ?_) | refine dl_d rfl rfl (fun K kt kf => op_beq (d := some _) hG rfl rfl rfl rfl kt kf) (fun h => ?_) (fun h => ?_)
    | refine dl_cons rfl rfl (fun K kk => op_load (d := some _) hG rfl rfl (by assumption) (by exact rfl) rfl rfl kk) ?_ | refine dl_cons rfl rfl (fun K kk => op_q (d := some _) hG rfl rfl rfl kk) ?_
    | refine dl_s rfl rfl rfl ?_ | (refine dl_nil ?_; show AW _ _ _ _ _ _) | refine aw_draw mix rfl ?_)
    exact aw_ret' _ (resT_two (resTs_cell rfl (by assumption) (by exact rfl) (resTs_tmp rfl rfl))) (Wk.refl _) ⟨by simp only [addE, if_pos h]; rfl, d3 σ m2 d02⟩
  · refine al_cons rfl (op_build (d := some _) hG rfl rfl rfl rfl rfl rfl rfl ?_)
    refine al_cons rfl (op_store' hG rfl rfl rfl (by assumption) (by exact rfl) (by exact rfl) (by exact rfl) (by exact rfl) rfl (fun σ3 o3 p3 d3 => ?_))
    repeat' (first
    | (refine al_cons rfl ?_; first
      | refine op_m (d := some _) hG rfl rfl rfl rfl ?_
      | refine op_eqs (d := some _) hG rfl rfl rfl rfl ?_ | refine op_nes (d := some _) hG rfl rfl rfl rfl ?_ | refine op_beqs (d := some _) hG rfl rfl rfl rfl ?_
      | refine op_d (d := some _) hG rfl rfl rfl rfl (fun h => ?_) (fun h => ?_) | refine op_e (d := some _) hG rfl rfl rfl rfl (fun h => ?_) (fun h => ?_) | refine op_ne (d := some _) hG rfl rfl rfl rfl (fun h => ?_) (fun h => ?_) | refine op_beq (d := some _) hG rfl rfl rfl rfl (fun h => ?_) (fun h => ?_)
      | refine op_rem (d := some _) hG rfl rfl rfl rfl rfl rfl (by omega) ?_ | refine op_shr (d := some _) hG rfl rfl rfl rfl rfl rfl (by omega) ?_ | refine op_w (d := some _) hG rfl rfl rfl rfl (by omega) ?_ | refine op_wu (d := some _) hG rfl rfl rfl rfl (by omega) ?_ | refine op_w16 (d := some _) hG rfl rfl rfl rfl (by omega) ?_ | refine op_w8 (d := some _) hG rfl rfl rfl rfl (by omega) ?_
      | refine op_load (d := some _) hG rfl rfl (by assumption) (by exact rfl) rfl rfl ?_ | refine op_q (d := some _) hG rfl rfl rfl ?_)
    | refine al_s (d := some _) rfl rfl rfl ?_ | (refine al_nil ?_; show AW _ _ _ _ _ _) | refine aw_seq ?_ | refine aw_regL ?_ | refine aw_if_t rfl ?_ | refine aw_if_f rfl ?_
    | (refine aw_skip ?_; show AW _ _ _ _ _ _) | refine aw_block ?_ | (refine aw_exit ?_; show AW _ _ _ _ _ _) | (refine aw_goto ?_; try dsimp only [thenA, inBlockA, jumpA, noGotoA]) | (refine aw_ret ?_; try dsimp only [thenA, inBlockA, jumpA, noGotoA])
    | refine dl_cons rfl rfl (fun K kk => op_m (d := some _) hG rfl rfl rfl rfl kk) ?_
    | refine dl_cons rfl rfl (fun K kk => op_eqs (d := some _) hG rfl rfl rfl rfl kk) ?_ | refine dl_cons rfl rfl (fun K kk => op_nes (d := some _) hG rfl rfl rfl rfl kk) ?_ | refine dl_cons rfl rfl (fun K kk => op_beqs (d := some _) hG rfl rfl rfl rfl kk) ?_
    | refine dl_d rfl rfl (fun K kt kf => op_d (d := some _) hG rfl rfl rfl rfl kt kf) (fun h => ?_) (fun h => ?_) | refine dl_d rfl rfl (fun K kt kf => op_e (d := some _) hG rfl rfl rfl rfl kt kf) (fun h => ?_) (fun h => ?_) | refine dl_ne rfl rfl (fun K kt kf => op_ne (d := some _) hG rfl rfl rfl rfl kt kf) (fun h => ?_) (fun h => ?_) | refine dl_d rfl rfl (fun K kt kf => op_beq (d := some _) hG rfl rfl rfl rfl kt kf) (fun h => ?_) (fun h => ?_)
    | refine dl_cons rfl rfl (fun K kk => op_load (d := some _) hG rfl rfl (by assumption) (by exact rfl) rfl rfl kk) ?_ | refine dl_cons rfl rfl (fun K kk => op_q (d := some _) hG rfl rfl rfl kk) ?_
    | refine dl_s rfl rfl rfl ?_ | (refine dl_nil ?_; show AW _ _ _ _ _ _) | refine aw_draw mix rfl ?_)
    exact aw_ret' _ (resT_two (resTs_cell rfl (by assumption) (by exact rfl) (resTs_tmp rfl rfl))) (Wk.refl _) ⟨by simp only [addE, if_neg ‹¬ c < 0›, if_pos (show c > q - u from h)]; rfl, d3 σ m2 d02⟩
  · refine al_cons rfl (op_store' hG rfl rfl rfl (by assumption) (by exact rfl) (by exact rfl) (by exact rfl) (by exact rfl) rfl (fun σ3 o3 p3 d3 => ?_))
    have o32 := (p3 _ (Ne.symm ne)).trans o2
    have d03 := d3 σ n1 d02
    repeat' (first
    | (refine al_cons rfl ?_; first
      | refine op_m (d := some _) hG rfl rfl rfl rfl ?_
      | refine op_eqs (d := some _) hG rfl rfl rfl rfl ?_ | refine op_nes (d := some _) hG rfl rfl rfl rfl ?_ | refine op_beqs (d := some _) hG rfl rfl rfl rfl ?_
      | refine op_d (d := some _) hG rfl rfl rfl rfl (fun h => ?_) (fun h => ?_) | refine op_e (d := some _) hG rfl rfl rfl rfl (fun h => ?_) (fun h => ?_) | refine op_ne (d := some _) hG rfl rfl rfl rfl (fun h => ?_) (fun h => ?_) | refine op_beq (d := some _) hG rfl rfl rfl rfl (fun h => ?_) (fun h => ?_)
      | refine op_rem (d := some _) hG rfl rfl rfl rfl rfl rfl (by omega) ?_ | refine op_shr (d := some _) hG rfl rfl rfl rfl rfl rfl (by omega) ?_ | refine op_w (d := some _) hG rfl rfl rfl rfl (by omega) ?_ | refine op_wu (d := some _) hG rfl rfl rfl rfl (by omega) ?_ | refine op_w16 (d := some _) hG rfl rfl rfl rfl (by omega) ?_ | refine op_w8 (d := some _) hG rfl rfl rfl rfl (by omega) ?_
      | refine op_load (d := some _) hG rfl rfl (by assumption) (by exact rfl) rfl rfl ?_ | refine op_q (d := some _) hG rfl rfl rfl ?_)
    | refine al_s (d := some _) rfl rfl rfl ?_ | (refine al_nil ?_; show AW _ _ _ _ _ _) | refine aw_seq ?_ | refine aw_regL ?_ | refine aw_if_t rfl ?_ | refine aw_if_f rfl ?_
    | (refine aw_skip ?_; show AW _ _ _ _ _ _) | refine aw_block ?_ | (refine aw_exit ?_; show AW _ _ _ _ _ _) | (refine aw_goto ?_; try dsimp only [thenA, inBlockA, jumpA, noGotoA]) | (refine aw_ret ?_; try dsimp only [thenA, inBlockA, jumpA, noGotoA])
    | refine dl_cons rfl rfl (fun K kk => op_m (d := some _) hG rfl rfl rfl rfl kk) ?_
    | refine dl_cons rfl rfl (fun K kk => op_eqs (d := some _) hG rfl rfl rfl rfl kk) ?_ | refine dl_cons rfl rfl (fun K kk => op_nes (d := some _) hG rfl rfl rfl rfl kk) ?_ | refine dl_cons rfl rfl (fun K kk => op_beqs (d := some _) hG rfl rfl rfl rfl kk) ?_
    | refine dl_d rfl rfl (fun K kt kf => op_d (d := some _) hG rfl rfl rfl rfl kt kf) (fun h => ?_) (fun h => ?_) | refine dl_d rfl rfl (fun K kt kf => op_e (d := some _) hG rfl rfl rfl rfl kt kf) (fun h => ?_) (fun h => ?_) | refine dl_ne rfl rfl (fun K kt kf => op_ne (d := some _) hG rfl rfl rfl rfl kt kf) (fun h => ?_) (fun h => ?_) | refine dl_d rfl rfl (fun K kt kf => op_beq (d := some _) hG rfl rfl rfl rfl kt kf) (fun h => ?_) (fun h => ?_)
    | refine dl_cons rfl rfl (fun K kk => op_load (d := some _) hG rfl rfl (by assumption) (by exact rfl) rfl rfl kk) ?_ | refine dl_cons rfl rfl (fun K kk => op_q (d := some _) hG rfl rfl rfl kk) ?_
    | refine dl_s rfl rfl rfl ?_ | (refine dl_nil ?_; show AW _ _ _ _ _ _) | refine aw_draw mix rfl ?_)
    refine al_cons rfl (op_store' hG rfl rfl rfl (by assumption) (by exact rfl) (by exact rfl) (by exact rfl) (by exact rfl) rfl (fun σ4 o4 p4 d4 => ?_))
    repeat' (first
    | (refine al_cons rfl ?_; first
      | refine op_m (d := some _) hG rfl rfl rfl rfl ?_
      | refine op_eqs (d := some _) hG rfl rfl rfl rfl ?_ | refine op_nes (d := some _) hG rfl rfl rfl rfl ?_ | refine op_beqs (d := some _) hG rfl rfl rfl rfl ?_
      | refine op_d (d := some _) hG rfl rfl rfl rfl (fun h => ?_) (fun h => ?_) | refine op_e (d := some _) hG rfl rfl rfl rfl (fun h => ?_) (fun h => ?_) | refine op_ne (d := some _) hG rfl rfl rfl rfl (fun h => ?_) (fun h => ?_) | refine op_beq (d := some _) hG rfl rfl rfl rfl (fun h => ?_) (fun h => ?_)
      | refine op_rem (d := some _) hG rfl rfl rfl rfl rfl rfl (by omega) ?_ | refine op_shr (d := some _) hG rfl rfl rfl rfl rfl rfl (by omega) ?_ | refine op_w (d := some _) hG rfl rfl rfl rfl (by omega) ?_ | refine op_wu (d := some _) hG rfl rfl rfl rfl (by omega) ?_ | refine op_w16 (d := some _) hG rfl rfl rfl rfl (by omega) ?_ | refine op_w8 (d := some _) hG rfl rfl rfl rfl (by omega) ?_
      | refine op_load (d := some _) hG rfl rfl (by assumption) (by exact rfl) rfl rfl ?_ | refine op_q (d := some _) hG rfl rfl rfl ?_)
    | refine al_s (d := some _) rfl rfl rfl ?_ | (refine al_nil ?_; show AW _ _ _ _ _ _) | refine aw_seq ?_ | refine aw_regL ?_ | refine aw_if_t rfl ?_ | refine aw_if_f rfl ?_
    | (refine aw_skip ?_; show AW _ _ _ _ _ _) | refine aw_block ?_ | (refine aw_exit ?_; show AW _ _ _ _ _ _) | (refine aw_goto ?_; try dsimp only [thenA, inBlockA, jumpA, noGotoA]) | (refine aw_ret ?_; try dsimp only [thenA, inBlockA, jumpA, noGotoA])
    | refine dl_cons rfl rfl (fun K kk => op_m (d := some _) hG rfl rfl rfl rfl kk) ?_
    | refine dl_cons rfl rfl (fun K kk => op_eqs (d := some _) hG rfl rfl rfl rfl kk) ?_ | refine dl_cons rfl rfl (fun K kk => op_nes (d := some _) hG rfl rfl rfl rfl kk) ?_ | refine dl_cons rfl rfl (fun K kk => op_beqs (d := some _) hG rfl rfl rfl rfl kk) ?_
    | refine dl_d rfl rfl (fun K kt kf => op_d (d := some _) hG rfl rfl rfl rfl kt kf) (fun h => ?_) (fun h => ?_) | refine dl_d rfl rfl (fun K kt kf => op_e (d := some _) hG rfl rfl rfl rfl kt kf) (fun h => ?_) (fun h => ?_) | refine dl_ne rfl rfl (fun K kt kf => op_ne (d := some _) hG rfl rfl rfl rfl kt kf) (fun h => ?_) (fun h => ?_) | refine dl_d rfl rfl (fun K kt kf => op_beq (d := some _) hG rfl rfl rfl rfl kt kf) (fun h => ?_) (fun h => ?_)
    | refine dl_cons rfl rfl (fun K kk => op_load (d := some _) hG rfl rfl (by assumption) (by exact rfl) rfl rfl kk) ?_ | refine dl_cons rfl rfl (fun K kk => op_q (d := some _) hG rfl rfl rfl kk) ?_
    | refine dl_s rfl rfl rfl ?_ | (refine dl_nil ?_; show AW _ _ _ _ _ _) | refine aw_draw mix rfl ?_)
    exact aw_ret' _ (resT_two (resTs_cell rfl (by assumption) (by exact rfl) (resTs_tmp rfl rfl))) (Wk.refl _) ⟨by simp only [addE, if_neg ‹¬ c < 0›, if_neg (show ¬ c > q - u from h)]; rfl, d4 σ m2 d03⟩
def subE (u c : Int) : Int := if c > 0 then max (u - c) 0 else u
theorem qSub (σ : St) (id k q u c : Int) (hu : 0 ≤ u ∧ u ≤ 10000) (hc : c ≤ 9223372036854775807) : ACalls Try.prog 22 [objB id k q u, .int .i64 c] σ (fun r σ' => r = objB id k q (subE u c) ∧ Drop σ' σ) := by
  refine acalls_mk hG Try.func22 rfl rfl rfl rfl rfl ?_
  repeat' (first
    | (refine al_cons rfl ?_; first
      | refine op_m (d := some _) hG rfl rfl rfl rfl ?_
      | refine op_eqs (d := some _) hG rfl rfl rfl rfl ?_ | refine op_nes (d := some _) hG rfl rfl rfl rfl ?_ | refine op_beqs (d := some _) hG rfl rfl rfl rfl ?_
      | refine op_d (d := some _) hG rfl rfl rfl rfl (fun h => ?_) (fun h => ?_) | refine op_e (d := some _) hG rfl rfl rfl rfl (fun h => ?_) (fun h => ?_) | refine op_ne (d := some _) hG rfl rfl rfl rfl (fun h => ?_) (fun h => ?_) | refine op_beq (d := some _) hG rfl rfl rfl rfl (fun h => ?_) (fun h => ?_)
      | refine op_rem (d := some _) hG rfl rfl rfl rfl rfl rfl (by omega) ?_ | refine op_shr (d := some _) hG rfl rfl rfl rfl rfl rfl (by omega) ?_ | refine op_w (d := some _) hG rfl rfl rfl rfl (by omega) ?_ | refine op_wu (d := some _) hG rfl rfl rfl rfl (by omega) ?_ | refine op_w16 (d := some _) hG rfl rfl rfl rfl (by omega) ?_ | refine op_w8 (d := some _) hG rfl rfl rfl rfl (by omega) ?_
      | refine op_load (d := some _) hG rfl rfl (by assumption) (by exact rfl) rfl rfl ?_ | refine op_q (d := some _) hG rfl rfl rfl ?_)
    | refine al_s (d := some _) rfl rfl rfl ?_ | (refine al_nil ?_; show AW _ _ _ _ _ _) | refine aw_seq ?_ | refine aw_regL ?_ | refine aw_if_t rfl ?_ | refine aw_if_f rfl ?_
    | (refine aw_skip ?_; show AW _ _ _ _ _ _) | refine aw_block ?_ | (refine aw_exit ?_; show AW _ _ _ _ _ _) | (refine aw_goto ?_; try dsimp only [thenA, inBlockA, jumpA, noGotoA]) | (refine aw_ret ?_; try dsimp only [thenA, inBlockA, jumpA, noGotoA])
    | refine dl_cons rfl rfl (fun K kk => op_m (d := some _) hG rfl rfl rfl rfl kk) ?_
    | refine dl_cons rfl rfl (fun K kk => op_eqs (d := some _) hG rfl rfl rfl rfl kk) ?_ | refine dl_cons rfl rfl (fun K kk => op_nes (d := some _) hG rfl rfl rfl rfl kk) ?_ | refine dl_cons rfl rfl (fun K kk => op_beqs (d := some _) hG rfl rfl rfl rfl kk) ?_
    | refine dl_d rfl rfl (fun K kt kf => op_d (d := some _) hG rfl rfl rfl rfl kt kf) (fun h => ?_) (fun h => ?_) | refine dl_d rfl rfl (fun K kt kf => op_e (d := some _) hG rfl rfl rfl rfl kt kf) (fun h => ?_) (fun h => ?_) | refine dl_ne rfl rfl (fun K kt kf => op_ne (d := some _) hG rfl rfl rfl rfl kt kf) (fun h => ?_) (fun h => ?_) | refine dl_d rfl rfl (fun K kt kf => op_beq (d := some _) hG rfl rfl rfl rfl kt kf) (fun h => ?_) (fun h => ?_)
    | refine dl_cons rfl rfl (fun K kk => op_load (d := some _) hG rfl rfl (by assumption) (by exact rfl) rfl rfl kk) ?_ | refine dl_cons rfl rfl (fun K kk => op_q (d := some _) hG rfl rfl rfl kk) ?_
    | refine dl_s rfl rfl rfl ?_ | (refine dl_nil ?_; show AW _ _ _ _ _ _) | refine aw_draw mix rfl ?_)
  refine al_cons rfl (op_box' (d := some _) hG rfl rfl rfl rfl rfl (fun b1 σ1 n1 o1 p1 d1 => ?_))
  repeat' (first
    | (refine al_cons rfl ?_; first
      | refine op_m (d := some _) hG rfl rfl rfl rfl ?_
      | refine op_eqs (d := some _) hG rfl rfl rfl rfl ?_ | refine op_nes (d := some _) hG rfl rfl rfl rfl ?_ | refine op_beqs (d := some _) hG rfl rfl rfl rfl ?_
      | refine op_d (d := some _) hG rfl rfl rfl rfl (fun h => ?_) (fun h => ?_) | refine op_e (d := some _) hG rfl rfl rfl rfl (fun h => ?_) (fun h => ?_) | refine op_ne (d := some _) hG rfl rfl rfl rfl (fun h => ?_) (fun h => ?_) | refine op_beq (d := some _) hG rfl rfl rfl rfl (fun h => ?_) (fun h => ?_)
      | refine op_rem (d := some _) hG rfl rfl rfl rfl rfl rfl (by omega) ?_ | refine op_shr (d := some _) hG rfl rfl rfl rfl rfl rfl (by omega) ?_ | refine op_w (d := some _) hG rfl rfl rfl rfl (by omega) ?_ | refine op_wu (d := some _) hG rfl rfl rfl rfl (by omega) ?_ | refine op_w16 (d := some _) hG rfl rfl rfl rfl (by omega) ?_ | refine op_w8 (d := some _) hG rfl rfl rfl rfl (by omega) ?_
      | refine op_load (d := some _) hG rfl rfl (by assumption) (by exact rfl) rfl rfl ?_ | refine op_q (d := some _) hG rfl rfl rfl ?_)
    | refine al_s (d := some _) rfl rfl rfl ?_ | (refine al_nil ?_; show AW _ _ _ _ _ _) | refine aw_seq ?_ | refine aw_regL ?_ | refine aw_if_t rfl ?_ | refine aw_if_f rfl ?_
    | (refine aw_skip ?_; show AW _ _ _ _ _ _) | refine aw_block ?_ | (refine aw_exit ?_; show AW _ _ _ _ _ _) | (refine aw_goto ?_; try dsimp only [thenA, inBlockA, jumpA, noGotoA]) | (refine aw_ret ?_; try dsimp only [thenA, inBlockA, jumpA, noGotoA])
    | refine dl_cons rfl rfl (fun K kk => op_m (d := some _) hG rfl rfl rfl rfl kk) ?_
    | refine dl_cons rfl rfl (fun K kk => op_eqs (d := some _) hG rfl rfl rfl rfl kk) ?_ | refine dl_cons rfl rfl (fun K kk => op_nes (d := some _) hG rfl rfl rfl rfl kk) ?_ | refine dl_cons rfl rfl (fun K kk => op_beqs (d := some _) hG rfl rfl rfl rfl kk) ?_
    | refine dl_d rfl rfl (fun K kt kf => op_d (d := some _) hG rfl rfl rfl rfl kt kf) (fun h => ?_) (fun h => ?_) | refine dl_d rfl rfl (fun K kt kf => op_e (d := some _) hG rfl rfl rfl rfl kt kf) (fun h => ?_) (fun h => ?_) | refine dl_ne rfl rfl (fun K kt kf => op_ne (d := some _) hG rfl rfl rfl rfl kt kf) (fun h => ?_) (fun h => ?_) | refine dl_d rfl rfl (fun K kt kf => op_beq (d := some _) hG rfl rfl rfl rfl kt kf) (fun h => ?_) (fun h => ?_)
    | refine dl_cons rfl rfl (fun K kk => op_load (d := some _) hG rfl rfl (by assumption) (by exact rfl) rfl rfl kk) ?_ | refine dl_cons rfl rfl (fun K kk => op_q (d := some _) hG rfl rfl rfl kk) ?_
    | refine dl_s rfl rfl rfl ?_ | (refine dl_nil ?_; show AW _ _ _ _ _ _) | refine aw_draw mix rfl ?_)
  refine al_cons rfl (op_alloc' (d := some _) hG rfl rfl rfl rfl (fun b2 σ2 n2 o2 p2 d2 => ?_))
  have o12 := p2 _ _ o1
  have d02 := d2.trans d1
  have m2 := d1.gone n2
  have ne : b1 ≠ b2 := by intro e; subst e; rw [o1] at n2; cases n2
  repeat' (first
    | (refine al_cons rfl ?_; first
      | refine op_m (d := some _) hG rfl rfl rfl rfl ?_
      | refine op_eqs (d := some _) hG rfl rfl rfl rfl ?_ | refine op_nes (d := some _) hG rfl rfl rfl rfl ?_ | refine op_beqs (d := some _) hG rfl rfl rfl rfl ?_
      | refine op_d (d := some _) hG rfl rfl rfl rfl (fun h => ?_) (fun h => ?_) | refine op_e (d := some _) hG rfl rfl rfl rfl (fun h => ?_) (fun h => ?_) | refine op_ne (d := some _) hG rfl rfl rfl rfl (fun h => ?_) (fun h => ?_) | refine op_beq (d := some _) hG rfl rfl rfl rfl (fun h => ?_) (fun h => ?_)
      | refine op_rem (d := some _) hG rfl rfl rfl rfl rfl rfl (by omega) ?_ | refine op_shr (d := some _) hG rfl rfl rfl rfl rfl rfl (by omega) ?_ | refine op_w (d := some _) hG rfl rfl rfl rfl (by omega) ?_ | refine op_wu (d := some _) hG rfl rfl rfl rfl (by omega) ?_ | refine op_w16 (d := some _) hG rfl rfl rfl rfl (by omega) ?_ | refine op_w8 (d := some _) hG rfl rfl rfl rfl (by omega) ?_
      | refine op_load (d := some _) hG rfl rfl (by assumption) (by exact rfl) rfl rfl ?_ | refine op_q (d := some _) hG rfl rfl rfl ?_)
    | refine al_s (d := some _) rfl rfl rfl ?_ | (refine al_nil ?_; show AW _ _ _ _ _ _) | refine aw_seq ?_ | refine aw_regL ?_ | refine aw_if_t rfl ?_ | refine aw_if_f rfl ?_
    | (refine aw_skip ?_; show AW _ _ _ _ _ _) | refine aw_block ?_ | (refine aw_exit ?_; show AW _ _ _ _ _ _) | (refine aw_goto ?_; try dsimp only [thenA, inBlockA, jumpA, noGotoA]) | (refine aw_ret ?_; try dsimp only [thenA, inBlockA, jumpA, noGotoA])
    | refine dl_cons rfl rfl (fun K kk => op_m (d := some _) hG rfl rfl rfl rfl kk) ?_
    | refine dl_cons rfl rfl (fun K kk => op_eqs (d := some _) hG rfl rfl rfl rfl kk) ?_ | refine dl_cons rfl rfl (fun K kk => op_nes (d := some _) hG rfl rfl rfl rfl kk) ?_ | refine dl_cons rfl rfl (fun K kk => op_beqs (d := some _) hG rfl rfl rfl rfl kk) ?_
    | refine dl_d rfl rfl (fun K kt kf => op_d (d := some _) hG rfl rfl rfl rfl kt kf) (fun h => ?_) (fun h => ?_) | refine dl_d rfl rfl (fun K kt kf => op_e (d := some _) hG rfl rfl rfl rfl kt kf) (fun h => ?_) (fun h => ?_) | refine dl_ne rfl rfl (fun K kt kf => op_ne (d := some _) hG rfl rfl rfl rfl kt kf) (fun h => ?_) (fun h => ?_) | refine dl_d rfl rfl (fun K kt kf => op_beq (d := some _) hG rfl rfl rfl rfl kt kf) (fun h => ?_) (fun h => ?_)
    | refine dl_cons rfl rfl (fun K kk => op_load (d := some _) hG rfl rfl (by assumption) (by exact rfl) rfl rfl kk) ?_ | refine dl_cons rfl rfl (fun K kk => op_q (d := some _) hG rfl rfl rfl kk) ?_
    | refine dl_s rfl rfl rfl ?_ | (refine dl_nil ?_; show AW _ _ _ _ _ _) | refine aw_draw mix rfl ?_)
  · refine al_cons rfl (op_max (d := some _) rfl rfl rfl rfl rfl ?_)
    repeat' (first
    | (refine al_cons rfl ?_; first
      | refine op_m (d := some _) hG rfl rfl rfl rfl ?_
      | refine op_eqs (d := some _) hG rfl rfl rfl rfl ?_ | refine op_nes (d := some _) hG rfl rfl rfl rfl ?_ | refine op_beqs (d := some _) hG rfl rfl rfl rfl ?_
      | refine op_d (d := some _) hG rfl rfl rfl rfl (fun h => ?_) (fun h => ?_) | refine op_e (d := some _) hG rfl rfl rfl rfl (fun h => ?_) (fun h => ?_) | refine op_ne (d := some _) hG rfl rfl rfl rfl (fun h => ?_) (fun h => ?_) | refine op_beq (d := some _) hG rfl rfl rfl rfl (fun h => ?_) (fun h => ?_)
      | refine op_rem (d := some _) hG rfl rfl rfl rfl rfl rfl (by omega) ?_ | refine op_shr (d := some _) hG rfl rfl rfl rfl rfl rfl (by omega) ?_ | refine op_w (d := some _) hG rfl rfl rfl rfl (by omega) ?_ | refine op_wu (d := some _) hG rfl rfl rfl rfl (by omega) ?_ | refine op_w16 (d := some _) hG rfl rfl rfl rfl (by omega) ?_ | refine op_w8 (d := some _) hG rfl rfl rfl rfl (by omega) ?_
      | refine op_load (d := some _) hG rfl rfl (by assumption) (by exact rfl) rfl rfl ?_ | refine op_q (d := some _) hG rfl rfl rfl ?_)
    | refine al_s (d := some _) rfl rfl rfl ?_ | (refine al_nil ?_; show AW _ _ _ _ _ _) | refine aw_seq ?_ | refine aw_regL ?_ | refine aw_if_t rfl ?_ | refine aw_if_f rfl ?_
    | (refine aw_skip ?_; show AW _ _ _ _ _ _) | refine aw_block ?_ | (refine aw_exit ?_; show AW _ _ _ _ _ _) | (refine aw_goto ?_; try dsimp only [thenA, inBlockA, jumpA, noGotoA]) | (refine aw_ret ?_; try dsimp only [thenA, inBlockA, jumpA, noGotoA])
    | refine dl_cons rfl rfl (fun K kk => op_m (d := some _) hG rfl rfl rfl rfl kk) ?_
    | refine dl_cons rfl rfl (fun K kk => op_eqs (d := some _) hG rfl rfl rfl rfl kk) ?_ | refine dl_cons rfl rfl (fun K kk => op_nes (d := some _) hG rfl rfl rfl rfl kk) ?_ | refine dl_cons rfl rfl (fun K kk => op_beqs (d := some _) hG rfl rfl rfl rfl kk) ?_
    | refine dl_d rfl rfl (fun K kt kf => op_d (d := some _) hG rfl rfl rfl rfl kt kf) (fun h => ?_) (fun h => ?_) | refine dl_d rfl rfl (fun K kt kf => op_e (d := some _) hG rfl rfl rfl rfl kt kf) (fun h => ?_) (fun h => ?_) | refine dl_ne rfl rfl (fun K kt kf => op_ne (d := some _) hG rfl rfl rfl rfl kt kf) (fun h => ?_) (fun h => ?_) | refine dl_d rfl rfl (fun K kt kf => op_beq (d := some _) hG rfl rfl rfl rfl kt kf) (fun h => ?_) (fun h => ?_)
    | refine dl_cons rfl rfl (fun K kk => op_load (d := some _) hG rfl rfl (by assumption) (by exact rfl) rfl rfl kk) ?_ | refine dl_cons rfl rfl (fun K kk => op_q (d := some _) hG rfl rfl rfl kk) ?_
    | refine dl_s rfl rfl rfl ?_ | (refine dl_nil ?_; show AW _ _ _ _ _ _) | refine aw_draw mix rfl ?_)
    refine al_cons rfl (op_store' hG rfl rfl rfl (by assumption) (by exact rfl) (by exact rfl) (by exact rfl) (by exact rfl) rfl (fun σ3 o3 p3 d3 => ?_))
    have o32 := (p3 _ (Ne.symm ne)).trans o2
    have d03 := d3 σ n1 d02
    repeat' (first
    | (refine al_cons rfl ?_; first
      | refine op_m (d := some _) hG rfl rfl rfl rfl ?_
      | refine op_eqs (d := some _) hG rfl rfl rfl rfl ?_ | refine op_nes (d := some _) hG rfl rfl rfl rfl ?_ | refine op_beqs (d := some _) hG rfl rfl rfl rfl ?_
      | refine op_d (d := some _) hG rfl rfl rfl rfl (fun h => ?_) (fun h => ?_) | refine op_e (d := some _) hG rfl rfl rfl rfl (fun h => ?_) (fun h => ?_) | refine op_ne (d := some _) hG rfl rfl rfl rfl (fun h => ?_) (fun h => ?_) | refine op_beq (d := some _) hG rfl rfl rfl rfl (fun h => ?_) (fun h => ?_)
      | refine op_rem (d := some _) hG rfl rfl rfl rfl rfl rfl (by omega) ?_ | refine op_shr (d := some _) hG rfl rfl rfl rfl rfl rfl (by omega) ?_ | refine op_w (d := some _) hG rfl rfl rfl rfl (by omega) ?_ | refine op_wu (d := some _) hG rfl rfl rfl rfl (by omega) ?_ | refine op_w16 (d := some _) hG rfl rfl rfl rfl (by omega) ?_ | refine op_w8 (d := some _) hG rfl rfl rfl rfl (by omega) ?_
      | refine op_load (d := some _) hG rfl rfl (by assumption) (by exact rfl) rfl rfl ?_ | refine op_q (d := some _) hG rfl rfl rfl ?_)
    | refine al_s (d := some _) rfl rfl rfl ?_ | (refine al_nil ?_; show AW _ _ _ _ _ _) | refine aw_seq ?_ | refine aw_regL ?_ | refine aw_if_t rfl ?_ | refine aw_if_f rfl ?_
    | (refine aw_skip ?_; show AW _ _ _ _ _ _) | refine aw_block ?_ | (refine aw_exit ?_; show AW _ _ _ _ _ _) | (refine aw_goto ?_; try dsimp only [thenA, inBlockA, jumpA, noGotoA]) | (refine aw_ret ?_; try dsimp only [thenA, inBlockA, jumpA, noGotoA])
    | refine dl_cons rfl rfl (fun K kk => op_m (d := some _) hG rfl rfl rfl rfl kk) ?_
    | refine dl_cons rfl rfl (fun K kk => op_eqs (d := some _) hG rfl rfl rfl rfl kk) ?_ | refine dl_cons rfl rfl (fun K kk => op_nes (d := some _) hG rfl rfl rfl rfl kk) ?_ | refine dl_cons rfl rfl (fun K kk => op_beqs (d := some _) hG rfl rfl rfl rfl kk) ?_
    | refine dl_d rfl rfl (fun K kt kf => op_d (d := some _) hG rfl rfl rfl rfl kt kf) (fun h => ?_) (fun h => ?_) | refine dl_d rfl rfl (fun K kt kf => op_e (d := some _) hG rfl rfl rfl rfl kt kf) (fun h => ?_) (fun h => ?_) | refine dl_ne rfl rfl (fun K kt kf => op_ne (d := some _) hG rfl rfl rfl rfl kt kf) (fun h => ?_) (fun h => ?_) | refine dl_d rfl rfl (fun K kt kf => op_beq (d := some _) hG rfl rfl rfl rfl kt kf) (fun h => ?_) (fun h => ?_)
    | refine dl_cons rfl rfl (fun K kk => op_load (d := some _) hG rfl rfl (by assumption) (by exact rfl) rfl rfl kk) ?_ | refine dl_cons rfl rfl (fun K kk => op_q (d := some _) hG rfl rfl rfl kk) ?_
    | refine dl_s rfl rfl rfl ?_ | (refine dl_nil ?_; show AW _ _ _ _ _ _) | refine aw_draw mix rfl ?_)
    refine al_cons rfl (op_store' hG rfl rfl rfl (by assumption) (by exact rfl) (by exact rfl) (by exact rfl) (by exact rfl) rfl (fun σ4 o4 p4 d4 => ?_))
    repeat' (first
    | (refine al_cons rfl ?_; first
      | refine op_m (d := some _) hG rfl rfl rfl rfl ?_
      | refine op_eqs (d := some _) hG rfl rfl rfl rfl ?_ | refine op_nes (d := some _) hG rfl rfl rfl rfl ?_ | refine op_beqs (d := some _) hG rfl rfl rfl rfl ?_
      | refine op_d (d := some _) hG rfl rfl rfl rfl (fun h => ?_) (fun h => ?_) | refine op_e (d := some _) hG rfl rfl rfl rfl (fun h => ?_) (fun h => ?_) | refine op_ne (d := some _) hG rfl rfl rfl rfl (fun h => ?_) (fun h => ?_) | refine op_beq (d := some _) hG rfl rfl rfl rfl (fun h => ?_) (fun h => ?_)
      | refine op_rem (d := some _) hG rfl rfl rfl rfl rfl rfl (by omega) ?_ | refine op_shr (d := some _) hG rfl rfl rfl rfl rfl rfl (by omega) ?_ | refine op_w (d := some _) hG rfl rfl rfl rfl (by omega) ?_ | refine op_wu (d := some _) hG rfl rfl rfl rfl (by omega) ?_ | refine op_w16 (d := some _) hG rfl rfl rfl rfl (by omega) ?_ | refine op_w8 (d := some _) hG rfl rfl rfl rfl (by omega) ?_
      | refine op_load (d := some _) hG rfl rfl (by assumption) (by exact rfl) rfl rfl ?_ | refine op_q (d := some _) hG rfl rfl rfl ?_)
    | refine al_s (d := some _) rfl rfl rfl ?_ | (refine al_nil ?_; show AW _ _ _ _ _ _) | refine aw_seq ?_ | refine aw_regL ?_ | refine aw_if_t rfl ?_ | refine aw_if_f rfl ?_
    | (refine aw_skip ?_; show AW _ _ _ _ _ _) | refine aw_block ?_ | (refine aw_exit ?_; show AW _ _ _ _ _ _) | (refine aw_goto ?_; try dsimp only [thenA, inBlockA, jumpA, noGotoA]) | (refine aw_ret ?_; try dsimp only [thenA, inBlockA, jumpA, noGotoA])
    | refine dl_cons rfl rfl (fun K kk => op_m (d := some _) hG rfl rfl rfl rfl kk) ?_
    | refine dl_cons rfl rfl (fun K kk => op_eqs (d := some _) hG rfl rfl rfl rfl kk) ?_ | refine dl_cons rfl rfl (fun K kk => op_nes (d := some _) hG rfl rfl rfl rfl kk) ?_ | refine dl_cons rfl rfl (fun K kk => op_beqs (d := some _) hG rfl rfl rfl rfl kk) ?_
    | refine dl_d rfl rfl (fun K kt kf => op_d (d := some _) hG rfl rfl rfl rfl kt kf) (fun h => ?_) (fun h => ?_) | refine dl_d rfl rfl (fun K kt kf => op_e (d := some _) hG rfl rfl rfl rfl kt kf) (fun h => ?_) (fun h => ?_) | refine dl_ne rfl rfl (fun K kt kf => op_ne (d := some _) hG rfl rfl rfl rfl kt kf) (fun h => ?_) (fun h => ?_) | refine dl_d rfl rfl (fun K kt kf => op_beq (d := some _) hG rfl rfl rfl rfl kt kf) (fun h => ?_) (fun h => ?_)
    | refine dl_cons rfl rfl (fun K kk => op_load (d := some _) hG rfl rfl (by assumption) (by exact rfl) rfl rfl kk) ?_ | refine dl_cons rfl rfl (fun K kk => op_q (d := some _) hG rfl rfl rfl kk) ?_
    | refine dl_s rfl rfl rfl ?_ | (refine dl_nil ?_; show AW _ _ _ _ _ _) | refine aw_draw mix rfl ?_)
    exact aw_ret' _ (resT_one (resTs_cell rfl (by assumption) (by exact rfl) rfl)) (Wk.refl _) ⟨by unfold subE; rw [if_pos h]; rfl, d4 σ m2 d03⟩
  · refine al_cons rfl (op_store' hG rfl rfl rfl (by assumption) (by exact rfl) (by exact rfl) (by exact rfl) (by exact rfl) rfl (fun σ3 o3 p3 d3 => ?_))
    repeat' (first
    | (refine al_cons rfl ?_; first
      | refine op_m (d := some _) hG rfl rfl rfl rfl ?_
      | refine op_eqs (d := some _) hG rfl rfl rfl rfl ?_ | refine op_nes (d := some _) hG rfl rfl rfl rfl ?_ | refine op_beqs (d := some _) hG rfl rfl rfl rfl ?_
      | refine op_d (d := some _) hG rfl rfl rfl rfl (fun h => ?_) (fun h => ?_) | refine op_e (d := some _) hG rfl rfl rfl rfl (fun h => ?_) (fun h => ?_) | refine op_ne (d := some _) hG rfl rfl rfl rfl (fun h => ?_) (fun h => ?_) | refine op_beq (d := some _) hG rfl rfl rfl rfl (fun h => ?_) (fun h => ?_)
      | refine op_rem (d := some _) hG rfl rfl rfl rfl rfl rfl (by omega) ?_ | refine op_shr (d := some _) hG rfl rfl rfl rfl rfl rfl (by omega) ?_ | refine op_w (d := some _) hG rfl rfl rfl rfl (by omega) ?_ | refine op_wu (d := some _) hG rfl rfl rfl rfl (by omega) ?_ | refine op_w16 (d := some _) hG rfl rfl rfl rfl (by omega) ?_ | refine op_w8 (d := some _) hG rfl rfl rfl rfl (by omega) ?_
      | refine op_load (d := some _) hG rfl rfl (by assumption) (by exact rfl) rfl rfl ?_ | refine op_q (d := some _) hG rfl rfl rfl ?_)
    | refine al_s (d := some _) rfl rfl rfl ?_ | (refine al_nil ?_; show AW _ _ _ _ _ _) | refine aw_seq ?_ | refine aw_regL ?_ | refine aw_if_t rfl ?_ | refine aw_if_f rfl ?_
    | (refine aw_skip ?_; show AW _ _ _ _ _ _) | refine aw_block ?_ | (refine aw_exit ?_; show AW _ _ _ _ _ _) | (refine aw_goto ?_; try dsimp only [thenA, inBlockA, jumpA, noGotoA]) | (refine aw_ret ?_; try dsimp only [thenA, inBlockA, jumpA, noGotoA])
    | refine dl_cons rfl rfl (fun K kk => op_m (d := some _) hG rfl rfl rfl rfl kk) ?_
    | refine dl_cons rfl rfl (fun K kk => op_eqs (d := some _) hG rfl rfl rfl rfl kk) ?_ | refine dl_cons rfl rfl (fun K kk => op_nes (d := some _) hG rfl rfl rfl rfl kk) ?_ | refine dl_cons rfl rfl (fun K kk => op_beqs (d := some _) hG rfl rfl rfl rfl kk) ?_
    | refine dl_d rfl rfl (fun K kt kf => op_d (d := some _) hG rfl rfl rfl rfl kt kf) (fun h => ?_) (fun h => ?_) | refine dl_d rfl rfl (fun K kt kf => op_e (d := some _) hG rfl rfl rfl rfl kt kf) (fun h => ?_) (fun h => ?_) | refine dl_ne rfl rfl (fun K kt kf => op_ne (d := some _) hG rfl rfl rfl rfl kt kf) (fun h => ?_) (fun h => ?_) | refine dl_d rfl rfl (fun K kt kf => op_beq (d := some _) hG rfl rfl rfl rfl kt kf) (fun h => ?_) (fun h => ?_)
    | refine dl_cons rfl rfl (fun K kk => op_load (d := some _) hG rfl rfl (by assumption) (by exact rfl) rfl rfl kk) ?_ | refine dl_cons rfl rfl (fun K kk => op_q (d := some _) hG rfl rfl rfl kk) ?_
    | refine dl_s rfl rfl rfl ?_ | (refine dl_nil ?_; show AW _ _ _ _ _ _) | refine aw_draw mix rfl ?_)
    exact aw_ret' _ (resT_one (resTs_cell rfl (by assumption) (by exact rfl) rfl)) (Wk.refl _) ⟨by unfold subE; rw [if_neg h]; rfl, d3 σ m2 d02⟩
theorem rSub (σ : St) (id k q u c : Int) (hu : 0 ≤ u ∧ u ≤ 10000) (hc : c ≤ 9223372036854775807) : ACalls Try.prog 23 [objB id k q u, .int .i64 c] σ (fun r σ' => r = objB id k q (subE u c) ∧ Drop σ' σ) := by
  refine acalls_mk hG Try.func23 rfl rfl rfl rfl rfl ?_
  repeat' (first
    | (refine al_cons rfl ?_; first
      | refine op_m (d := some _) hG rfl rfl rfl rfl ?_
      | refine op_eqs (d := some _) hG rfl rfl rfl rfl ?_ | refine op_nes (d := some _) hG rfl rfl rfl rfl ?_ | refine op_beqs (d := some _) hG rfl rfl rfl rfl ?_
      | refine op_d (d := some _) hG rfl rfl rfl rfl (fun h => ?_) (fun h => ?_) | refine op_e (d := some _) hG rfl rfl rfl rfl (fun h => ?_) (fun h => ?_) | refine op_ne (d := some _) hG rfl rfl rfl rfl (fun h => ?_) (fun h => ?_) | refine op_beq (d := some _) hG rfl rfl rfl rfl (fun h => ?_) (fun h => ?_)
      | refine op_rem (d := some _) hG rfl rfl rfl rfl rfl rfl (by omega) ?_ | refine op_shr (d := some _) hG rfl rfl rfl rfl rfl rfl (by omega) ?_ | refine op_w (d := some _) hG rfl rfl rfl rfl (by omega) ?_ | refine op_wu (d := some _) hG rfl rfl rfl rfl (by omega) ?_ | refine op_w16 (d := some _) hG rfl rfl rfl rfl (by omega) ?_ | refine op_w8 (d := some _) hG rfl rfl rfl rfl (by omega) ?_
      | refine op_load (d := some _) hG rfl rfl (by assumption) (by exact rfl) rfl rfl ?_ | refine op_q (d := some _) hG rfl rfl rfl ?_)
    | refine al_s (d := some _) rfl rfl rfl ?_ | (refine al_nil ?_; show AW _ _ _ _ _ _) | refine aw_seq ?_ | refine aw_regL ?_ | refine aw_if_t rfl ?_ | refine aw_if_f rfl ?_
    | (refine aw_skip ?_; show AW _ _ _ _ _ _) | refine aw_block ?_ | (refine aw_exit ?_; show AW _ _ _ _ _ _) | (refine aw_goto ?_; try dsimp only [thenA, inBlockA, jumpA, noGotoA]) | (refine aw_ret ?_; try dsimp only [thenA, inBlockA, jumpA, noGotoA])
    | refine dl_cons rfl rfl (fun K kk => op_m (d := some _) hG rfl rfl rfl rfl kk) ?_
    | refine dl_cons rfl rfl (fun K kk => op_eqs (d := some _) hG rfl rfl rfl rfl kk) ?_ | refine dl_cons rfl rfl (fun K kk => op_nes (d := some _) hG rfl rfl rfl rfl kk) ?_ | refine dl_cons rfl rfl (fun K kk => op_beqs (d := some _) hG rfl rfl rfl rfl kk) ?_
    | refine dl_d rfl rfl (fun K kt kf => op_d (d := some _) hG rfl rfl rfl rfl kt kf) (fun h => ?_) (fun h => ?_) | refine dl_d rfl rfl (fun K kt kf => op_e (d := some _) hG rfl rfl rfl rfl kt kf) (fun h => ?_) (fun h => ?_) | refine dl_ne rfl rfl (fun K kt kf => op_ne (d := some _) hG rfl rfl rfl rfl kt kf) (fun h => ?_) (fun h => ?_) | refine dl_d rfl rfl (fun K kt kf => op_beq (d := some _) hG rfl rfl rfl rfl kt kf) (fun h => ?_) (fun h => ?_)
    | refine dl_cons rfl rfl (fun K kk => op_load (d := some _) hG rfl rfl (by assumption) (by exact rfl) rfl rfl kk) ?_ | refine dl_cons rfl rfl (fun K kk => op_q (d := some _) hG rfl rfl rfl kk) ?_
    | refine dl_s rfl rfl rfl ?_ | (refine dl_nil ?_; show AW _ _ _ _ _ _) | refine aw_draw mix rfl ?_)
  refine al_cons rfl (op_box' (d := some _) hG rfl rfl rfl rfl rfl (fun b1 σ1 n1 o1 p1 d1 => ?_))
  repeat' (first
    | (refine al_cons rfl ?_; first
      | refine op_m (d := some _) hG rfl rfl rfl rfl ?_
      | refine op_eqs (d := some _) hG rfl rfl rfl rfl ?_ | refine op_nes (d := some _) hG rfl rfl rfl rfl ?_ | refine op_beqs (d := some _) hG rfl rfl rfl rfl ?_
      | refine op_d (d := some _) hG rfl rfl rfl rfl (fun h => ?_) (fun h => ?_) | refine op_e (d := some _) hG rfl rfl rfl rfl (fun h => ?_) (fun h => ?_) | refine op_ne (d := some _) hG rfl rfl rfl rfl (fun h => ?_) (fun h => ?_) | refine op_beq (d := some _) hG rfl rfl rfl rfl (fun h => ?_) (fun h => ?_)
      | refine op_rem (d := some _) hG rfl rfl rfl rfl rfl rfl (by omega) ?_ | refine op_shr (d := some _) hG rfl rfl rfl rfl rfl rfl (by omega) ?_ | refine op_w (d := some _) hG rfl rfl rfl rfl (by omega) ?_ | refine op_wu (d := some _) hG rfl rfl rfl rfl (by omega) ?_ | refine op_w16 (d := some _) hG rfl rfl rfl rfl (by omega) ?_ | refine op_w8 (d := some _) hG rfl rfl rfl rfl (by omega) ?_
      | refine op_load (d := some _) hG rfl rfl (by assumption) (by exact rfl) rfl rfl ?_ | refine op_q (d := some _) hG rfl rfl rfl ?_)
    | refine al_s (d := some _) rfl rfl rfl ?_ | (refine al_nil ?_; show AW _ _ _ _ _ _) | refine aw_seq ?_ | refine aw_regL ?_ | refine aw_if_t rfl ?_ | refine aw_if_f rfl ?_
    | (refine aw_skip ?_; show AW _ _ _ _ _ _) | refine aw_block ?_ | (refine aw_exit ?_; show AW _ _ _ _ _ _) | (refine aw_goto ?_; try dsimp only [thenA, inBlockA, jumpA, noGotoA]) | (refine aw_ret ?_; try dsimp only [thenA, inBlockA, jumpA, noGotoA])
    | refine dl_cons rfl rfl (fun K kk => op_m (d := some _) hG rfl rfl rfl rfl kk) ?_
    | refine dl_cons rfl rfl (fun K kk => op_eqs (d := some _) hG rfl rfl rfl rfl kk) ?_ | refine dl_cons rfl rfl (fun K kk => op_nes (d := some _) hG rfl rfl rfl rfl kk) ?_ | refine dl_cons rfl rfl (fun K kk => op_beqs (d := some _) hG rfl rfl rfl rfl kk) ?_
    | refine dl_d rfl rfl (fun K kt kf => op_d (d := some _) hG rfl rfl rfl rfl kt kf) (fun h => ?_) (fun h => ?_) | refine dl_d rfl rfl (fun K kt kf => op_e (d := some _) hG rfl rfl rfl rfl kt kf) (fun h => ?_) (fun h => ?_) | refine dl_ne rfl rfl (fun K kt kf => op_ne (d := some _) hG rfl rfl rfl rfl kt kf) (fun h => ?_) (fun h => ?_) | refine dl_d rfl rfl (fun K kt kf => op_beq (d := some _) hG rfl rfl rfl rfl kt kf) (fun h => ?_) (fun h => ?_)
    | refine dl_cons rfl rfl (fun K kk => op_load (d := some _) hG rfl rfl (by assumption) (by exact rfl) rfl rfl kk) ?_ | refine dl_cons rfl rfl (fun K kk => op_q (d := some _) hG rfl rfl rfl kk) ?_
    | refine dl_s rfl rfl rfl ?_ | (refine dl_nil ?_; show AW _ _ _ _ _ _) | refine aw_draw mix rfl ?_)
  refine al_cons rfl (op_alloc' (d := some _) hG rfl rfl rfl rfl (fun b2 σ2 n2 o2 p2 d2 => ?_))
  have o12 := p2 _ _ o1
  have d02 := d2.trans d1
  have m2 := d1.gone n2
  have ne : b1 ≠ b2 := by intro e; subst e; rw [o1] at n2; cases n2
  repeat' (first
    | (refine al_cons rfl ?_; first
      | refine op_m (d := some _) hG rfl rfl rfl rfl ?_
      | refine op_eqs (d := some _) hG rfl rfl rfl rfl ?_ | refine op_nes (d := some _) hG rfl rfl rfl rfl ?_ | refine op_beqs (d := some _) hG rfl rfl rfl rfl ?_
      | refine op_d (d := some _) hG rfl rfl rfl rfl (fun h => ?_) (fun h => ?_) | refine op_e (d := some _) hG rfl rfl rfl rfl (fun h => ?_) (fun h => ?_) | refine op_ne (d := some _) hG rfl rfl rfl rfl (fun h => ?_) (fun h => ?_) | refine op_beq (d := some _) hG rfl rfl rfl rfl (fun h => ?_) (fun h => ?_)
      | refine op_rem (d := some _) hG rfl rfl rfl rfl rfl rfl (by omega) ?_ | refine op_shr (d := some _) hG rfl rfl rfl rfl rfl rfl (by omega) ?_ | refine op_w (d := some _) hG rfl rfl rfl rfl (by omega) ?_ | refine op_wu (d := some _) hG rfl rfl rfl rfl (by omega) ?_ | refine op_w16 (d := some _) hG rfl rfl rfl rfl (by omega) ?_ | refine op_w8 (d := some _) hG rfl rfl rfl rfl (by omega) ?_
      | refine op_load (d := some _) hG rfl rfl (by assumption) (by exact rfl) rfl rfl ?_ | refine op_q (d := some _) hG rfl rfl rfl ?_)
    | refine al_s (d := some _) rfl rfl rfl ?_ | (refine al_nil ?_; show AW _ _ _ _ _ _) | refine aw_seq ?_ | refine aw_regL ?_ | refine aw_if_t rfl ?_ | refine aw_if_f rfl ?_
    | (refine aw_skip ?_; show AW _ _ _ _ _ _) | refine aw_block ?_ | (refine aw_exit ?_; show AW _ _ _ _ _ _) | (refine aw_goto ?_; try dsimp only [thenA, inBlockA, jumpA, noGotoA]) | (refine aw_ret ?_; try dsimp only [thenA, inBlockA, jumpA, noGotoA])
    | refine dl_cons rfl rfl (fun K kk => op_m (d := some _) hG rfl rfl rfl rfl kk) ?_
    | refine dl_cons rfl rfl (fun K kk => op_eqs (d := some _) hG rfl rfl rfl rfl kk) ?_ | refine dl_cons rfl rfl (fun K kk => op_nes (d := some _) hG rfl rfl rfl rfl kk) ?_ | refine dl_cons rfl rfl (fun K kk => op_beqs (d := some _) hG rfl rfl rfl rfl kk) ?_
    | refine dl_d rfl rfl (fun K kt kf => op_d (d := some _) hG rfl rfl rfl rfl kt kf) (fun h => ?_) (fun h => ?_) | refine dl_d rfl rfl (fun K kt kf => op_e (d := some _) hG rfl rfl rfl rfl kt kf) (fun h => ?_) (fun h => ?_) | refine dl_ne rfl rfl (fun K kt kf => op_ne (d := some _) hG rfl rfl rfl rfl kt kf) (fun h => ?_) (fun h => ?_) | refine dl_d rfl rfl (fun K kt kf => op_beq (d := some _) hG rfl rfl rfl rfl kt kf) (fun h => ?_) (fun h => ?_)
    | refine dl_cons rfl rfl (fun K kk => op_load (d := some _) hG rfl rfl (by assumption) (by exact rfl) rfl rfl kk) ?_ | refine dl_cons rfl rfl (fun K kk => op_q (d := some _) hG rfl rfl rfl kk) ?_
    | refine dl_s rfl rfl rfl ?_ | (refine dl_nil ?_; show AW _ _ _ _ _ _) | refine aw_draw mix rfl ?_)
  · refine al_cons rfl (op_min (d := some _) rfl rfl rfl rfl rfl ?_)
    repeat' (first
    | (refine al_cons rfl ?_; first
      | refine op_m (d := some _) hG rfl rfl rfl rfl ?_
      | refine op_eqs (d := some _) hG rfl rfl rfl rfl ?_ | refine op_nes (d := some _) hG rfl rfl rfl rfl ?_ | refine op_beqs (d := some _) hG rfl rfl rfl rfl ?_
      | refine op_d (d := some _) hG rfl rfl rfl rfl (fun h => ?_) (fun h => ?_) | refine op_e (d := some _) hG rfl rfl rfl rfl (fun h => ?_) (fun h => ?_) | refine op_ne (d := some _) hG rfl rfl rfl rfl (fun h => ?_) (fun h => ?_) | refine op_beq (d := some _) hG rfl rfl rfl rfl (fun h => ?_) (fun h => ?_)
      | refine op_rem (d := some _) hG rfl rfl rfl rfl rfl rfl (by omega) ?_ | refine op_shr (d := some _) hG rfl rfl rfl rfl rfl rfl (by omega) ?_ | refine op_w (d := some _) hG rfl rfl rfl rfl (by omega) ?_ | refine op_wu (d := some _) hG rfl rfl rfl rfl (by omega) ?_ | refine op_w16 (d := some _) hG rfl rfl rfl rfl (by omega) ?_ | refine op_w8 (d := some _) hG rfl rfl rfl rfl (by omega) ?_
      | refine op_load (d := some _) hG rfl rfl (by assumption) (by exact rfl) rfl rfl ?_ | refine op_q (d := some _) hG rfl rfl rfl ?_)
    | refine al_s (d := some _) rfl rfl rfl ?_ | (refine al_nil ?_; show AW _ _ _ _ _ _) | refine aw_seq ?_ | refine aw_regL ?_ | refine aw_if_t rfl ?_ | refine aw_if_f rfl ?_
    | (refine aw_skip ?_; show AW _ _ _ _ _ _) | refine aw_block ?_ | (refine aw_exit ?_; show AW _ _ _ _ _ _) | (refine aw_goto ?_; try dsimp only [thenA, inBlockA, jumpA, noGotoA]) | (refine aw_ret ?_; try dsimp only [thenA, inBlockA, jumpA, noGotoA])
    | refine dl_cons rfl rfl (fun K kk => op_m (d := some _) hG rfl rfl rfl rfl kk) ?_
    | refine dl_cons rfl rfl (fun K kk => op_eqs (d := some _) hG rfl rfl rfl rfl kk) ?_ | refine dl_cons rfl rfl (fun K kk => op_nes (d := some _) hG rfl rfl rfl rfl kk) ?_ | refine dl_cons rfl rfl (fun K kk => op_beqs (d := some _) hG rfl rfl rfl rfl kk) ?_
    | refine dl_d rfl rfl (fun K kt kf => op_d (d := some _) hG rfl rfl rfl rfl kt kf) (fun h => ?_) (fun h => ?_) | refine dl_d rfl rfl (fun K kt kf => op_e (d := some _) hG rfl rfl rfl rfl kt kf) (fun h => ?_) (fun h => ?_) | refine dl_ne rfl rfl (fun K kt kf => op_ne (d := some _) hG rfl rfl rfl rfl kt kf) (fun h => ?_) (fun h => ?_) | refine dl_d rfl rfl (fun K kt kf => op_beq (d := some _) hG rfl rfl rfl rfl kt kf) (fun h => ?_) (fun h => ?_)
    | refine dl_cons rfl rfl (fun K kk => op_load (d := some _) hG rfl rfl (by assumption) (by exact rfl) rfl rfl kk) ?_ | refine dl_cons rfl rfl (fun K kk => op_q (d := some _) hG rfl rfl rfl kk) ?_
    | refine dl_s rfl rfl rfl ?_ | (refine dl_nil ?_; show AW _ _ _ _ _ _) | refine aw_draw mix rfl ?_)
    refine al_cons rfl (op_store' hG rfl rfl rfl (by assumption) (by exact rfl) (by exact rfl) (by exact rfl) (by exact rfl) rfl (fun σ3 o3 p3 d3 => ?_))
    have o32 := (p3 _ (Ne.symm ne)).trans o2
    have d03 := d3 σ n1 d02
    repeat' (first
    | (refine al_cons rfl ?_; first
      | refine op_m (d := some _) hG rfl rfl rfl rfl ?_
      | refine op_eqs (d := some _) hG rfl rfl rfl rfl ?_ | refine op_nes (d := some _) hG rfl rfl rfl rfl ?_ | refine op_beqs (d := some _) hG rfl rfl rfl rfl ?_
      | refine op_d (d := some _) hG rfl rfl rfl rfl (fun h => ?_) (fun h => ?_) | refine op_e (d := some _) hG rfl rfl rfl rfl (fun h => ?_) (fun h => ?_) | refine op_ne (d := some _) hG rfl rfl rfl rfl (fun h => ?_) (fun h => ?_) | refine op_beq (d := some _) hG rfl rfl rfl rfl (fun h => ?_) (fun h => ?_)
      | refine op_rem (d := some _) hG rfl rfl rfl rfl rfl rfl (by omega) ?_ | refine op_shr (d := some _) hG rfl rfl rfl rfl rfl rfl (by omega) ?_ | refine op_w (d := some _) hG rfl rfl rfl rfl (by omega) ?_ | refine op_wu (d := some _) hG rfl rfl rfl rfl (by omega) ?_ | refine op_w16 (d := some _) hG rfl rfl rfl rfl (by omega) ?_ | refine op_w8 (d := some _) hG rfl rfl rfl rfl (by omega) ?_
      | refine op_load (d := some _) hG rfl rfl (by assumption) (by exact rfl) rfl rfl ?_ | refine op_q (d := some _) hG rfl rfl rfl ?_)
    | refine al_s (d := some _) rfl rfl rfl ?_ | (refine al_nil ?_; show AW _ _ _ _ _ _) | refine aw_seq ?_ | refine aw_regL ?_ | refine aw_if_t rfl ?_ | refine aw_if_f rfl ?_
    | (refine aw_skip ?_; show AW _ _ _ _ _ _) | refine aw_block ?_ | (refine aw_exit ?_; show AW _ _ _ _ _ _) | (refine aw_goto ?_; try dsimp only [thenA, inBlockA, jumpA, noGotoA]) | (refine aw_ret ?_; try dsimp only [thenA, inBlockA, jumpA, noGotoA])
    | refine dl_cons rfl rfl (fun K kk => op_m (d := some _) hG rfl rfl rfl rfl kk) ?_
    | refine dl_cons rfl rfl (fun K kk => op_eqs (d := some _) hG rfl rfl rfl rfl kk) ?_ | refine dl_cons rfl rfl (fun K kk => op_nes (d := some _) hG rfl rfl rfl rfl kk) ?_ | refine dl_cons rfl rfl (fun K kk => op_beqs (d := some _) hG rfl rfl rfl rfl kk) ?_
    | refine dl_d rfl rfl (fun K kt kf => op_d (d := some _) hG rfl rfl rfl rfl kt kf) (fun h => ?_) (fun h => ?_) | refine dl_d rfl rfl (fun K kt kf => op_e (d := some _) hG rfl rfl rfl rfl kt kf) (fun h => ?_) (fun h => ?_) | refine dl_ne rfl rfl (fun K kt kf => op_ne (d := some _) hG rfl rfl rfl rfl kt kf) (fun h => ?_) (fun h => ?_) | refine dl_d rfl rfl (fun K kt kf => op_beq (d := some _) hG rfl rfl rfl rfl kt kf) (fun h => ?_) (fun h => ?_)
    | refine dl_cons rfl rfl (fun K kk => op_load (d := some _) hG rfl rfl (by assumption) (by exact rfl) rfl rfl kk) ?_ | refine dl_cons rfl rfl (fun K kk => op_q (d := some _) hG rfl rfl rfl kk) ?_
    | refine dl_s rfl rfl rfl ?_ | (refine dl_nil ?_; show AW _ _ _ _ _ _) | refine aw_draw mix rfl ?_)
    refine al_cons rfl (op_store' hG rfl rfl rfl (by assumption) (by exact rfl) (by exact rfl) (by exact rfl) (by exact rfl) rfl (fun σ4 o4 p4 d4 => ?_))
    repeat' (first
    | (refine al_cons rfl ?_; first
      | refine op_m (d := some _) hG rfl rfl rfl rfl ?_
      | refine op_eqs (d := some _) hG rfl rfl rfl rfl ?_ | refine op_nes (d := some _) hG rfl rfl rfl rfl ?_ | refine op_beqs (d := some _) hG rfl rfl rfl rfl ?_
      | refine op_d (d := some _) hG rfl rfl rfl rfl (fun h => ?_) (fun h => ?_) | refine op_e (d := some _) hG rfl rfl rfl rfl (fun h => ?_) (fun h => ?_) | refine op_ne (d := some _) hG rfl rfl rfl rfl (fun h => ?_) (fun h => ?_) | refine op_beq (d := some _) hG rfl rfl rfl rfl (fun h => ?_) (fun h => ?_)
      | refine op_rem (d := some _) hG rfl rfl rfl rfl rfl rfl (by omega) ?_ | refine op_shr (d := some _) hG rfl rfl rfl rfl rfl rfl (by omega) ?_ | refine op_w (d := some _) hG rfl rfl rfl rfl (by omega) ?_ | refine op_wu (d := some _) hG rfl rfl rfl rfl (by omega) ?_ | refine op_w16 (d := some _) hG rfl rfl rfl rfl (by omega) ?_ | refine op_w8 (d := some _) hG rfl rfl rfl rfl (by omega) ?_
      | refine op_load (d := some _) hG rfl rfl (by assumption) (by exact rfl) rfl rfl ?_ | refine op_q (d := some _) hG rfl rfl rfl ?_)
    | refine al_s (d := some _) rfl rfl rfl ?_ | (refine al_nil ?_; show AW _ _ _ _ _ _) | refine aw_seq ?_ | refine aw_regL ?_ | refine aw_if_t rfl ?_ | refine aw_if_f rfl ?_
    | (refine aw_skip ?_; show AW _ _ _ _ _ _) | refine aw_block ?_ | (refine aw_exit ?_; show AW _ _ _ _ _ _) | (refine aw_goto ?_; try dsimp only [thenA, inBlockA, jumpA, noGotoA]) | (refine aw_ret ?_; try dsimp only [thenA, inBlockA, jumpA, noGotoA])
    | refine dl_cons rfl rfl (fun K kk => op_m (d := some _) hG rfl rfl rfl rfl kk) ?_
    | refine dl_cons rfl rfl (fun K kk => op_eqs (d := some _) hG rfl rfl rfl rfl kk) ?_ | refine dl_cons rfl rfl (fun K kk => op_nes (d := some _) hG rfl rfl rfl rfl kk) ?_ | refine dl_cons rfl rfl (fun K kk => op_beqs (d := some _) hG rfl rfl rfl rfl kk) ?_
    | refine dl_d rfl rfl (fun K kt kf => op_d (d := some _) hG rfl rfl rfl rfl kt kf) (fun h => ?_) (fun h => ?_) | refine dl_d rfl rfl (fun K kt kf => op_e (d := some _) hG rfl rfl rfl rfl kt kf) (fun h => ?_) (fun h => ?_) | refine dl_ne rfl rfl (fun K kt kf => op_ne (d := some _) hG rfl rfl rfl rfl kt kf) (fun h => ?_) (fun h => ?_) | refine dl_d rfl rfl (fun K kt kf => op_beq (d := some _) hG rfl rfl rfl rfl kt kf) (fun h => ?_) (fun h => ?_)
    | refine dl_cons rfl rfl (fun K kk => op_load (d := some _) hG rfl rfl (by assumption) (by exact rfl) rfl rfl kk) ?_ | refine dl_cons rfl rfl (fun K kk => op_q (d := some _) hG rfl rfl rfl kk) ?_
    | refine dl_s rfl rfl rfl ?_ | (refine dl_nil ?_; show AW _ _ _ _ _ _) | refine aw_draw mix rfl ?_)
    exact aw_ret' _ (resT_one (resTs_cell rfl (by assumption) (by exact rfl) rfl)) (Wk.refl _) ⟨by unfold subE; rw [if_pos h]; have e : u - min c u = max (u - c) 0 := (by omega); rw [← e]; rfl, d4 σ m2 d03⟩
  · refine al_cons rfl (op_store' hG rfl rfl rfl (by assumption) (by exact rfl) (by exact rfl) (by exact rfl) (by exact rfl) rfl (fun σ3 o3 p3 d3 => ?_))
    repeat' (first
    | (refine al_cons rfl ?_; first
      | refine op_m (d := some _) hG rfl rfl rfl rfl ?_
      | refine op_eqs (d := some _) hG rfl rfl rfl rfl ?_ | refine op_nes (d := some _) hG rfl rfl rfl rfl ?_ | refine op_beqs (d := some _) hG rfl rfl rfl rfl ?_
      | refine op_d (d := some _) hG rfl rfl rfl rfl (fun h => ?_) (fun h => ?_) | refine op_e (d := some _) hG rfl rfl rfl rfl (fun h => ?_) (fun h => ?_) | refine op_ne (d := some _) hG rfl rfl rfl rfl (fun h => ?_) (fun h => ?_) | refine op_beq (d := some _) hG rfl rfl rfl rfl (fun h => ?_) (fun h => ?_)
      | refine op_rem (d := some _) hG rfl rfl rfl rfl rfl rfl (by omega) ?_ | refine op_shr (d := some _) hG rfl rfl rfl rfl rfl rfl (by omega) ?_ | refine op_w (d := some _) hG rfl rfl rfl rfl (by omega) ?_ | refine op_wu (d := some _) hG rfl rfl rfl rfl (by omega) ?_ | refine op_w16 (d := some _) hG rfl rfl rfl rfl (by omega) ?_ | refine op_w8 (d := some _) hG rfl rfl rfl rfl (by omega) ?_
      | refine op_load (d := some _) hG rfl rfl (by assumption) (by exact rfl) rfl rfl ?_ | refine op_q (d := some _) hG rfl rfl rfl ?_)
    | refine al_s (d := some _) rfl rfl rfl ?_ | (refine al_nil ?_; show AW _ _ _ _ _ _) | refine aw_seq ?_ | refine aw_regL ?_ | refine aw_if_t rfl ?_ | refine aw_if_f rfl ?_
    | (refine aw_skip ?_; show AW _ _ _ _ _ _) | refine aw_block ?_ | (refine aw_exit ?_; show AW _ _ _ _ _ _) | (refine aw_goto ?_; try dsimp only [thenA, inBlockA, jumpA, noGotoA]) | (refine aw_ret ?_; try dsimp only [thenA, inBlockA, jumpA, noGotoA])
    | refine dl_cons rfl rfl (fun K kk => op_m (d := some _) hG rfl rfl rfl rfl kk) ?_
    | refine dl_cons rfl rfl (fun K kk => op_eqs (d := some _) hG rfl rfl rfl rfl kk) ?_ | refine dl_cons rfl rfl (fun K kk => op_nes (d := some _) hG rfl rfl rfl rfl kk) ?_ | refine dl_cons rfl rfl (fun K kk => op_beqs (d := some _) hG rfl rfl rfl rfl kk) ?_
    | refine dl_d rfl rfl (fun K kt kf => op_d (d := some _) hG rfl rfl rfl rfl kt kf) (fun h => ?_) (fun h => ?_) | refine dl_d rfl rfl (fun K kt kf => op_e (d := some _) hG rfl rfl rfl rfl kt kf) (fun h => ?_) (fun h => ?_) | refine dl_ne rfl rfl (fun K kt kf => op_ne (d := some _) hG rfl rfl rfl rfl kt kf) (fun h => ?_) (fun h => ?_) | refine dl_d rfl rfl (fun K kt kf => op_beq (d := some _) hG rfl rfl rfl rfl kt kf) (fun h => ?_) (fun h => ?_)
    | refine dl_cons rfl rfl (fun K kk => op_load (d := some _) hG rfl rfl (by assumption) (by exact rfl) rfl rfl kk) ?_ | refine dl_cons rfl rfl (fun K kk => op_q (d := some _) hG rfl rfl rfl kk) ?_
    | refine dl_s rfl rfl rfl ?_ | (refine dl_nil ?_; show AW _ _ _ _ _ _) | refine aw_draw mix rfl ?_)
    exact aw_ret' _ (resT_one (resTs_cell rfl (by assumption) (by exact rfl) rfl)) (Wk.refl _) ⟨by unfold subE; rw [if_neg h]; rfl, d3 σ m2 d02⟩
end Go.Proofs.Ytjcfhhepnjmchaa
