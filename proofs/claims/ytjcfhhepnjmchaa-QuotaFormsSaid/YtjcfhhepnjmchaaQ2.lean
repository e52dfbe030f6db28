/- quota: the law QuotaAll, walked. -/
import Derived.Test.YtjcfhhepnjmchaaQ1
namespace Go.Proofs.Ytjcfhhepnjmchaa
open Go.Tr
attribute [local irreducible] Go.Tr.AW Go.Tr.AOps Go.Tr.AL Go.Tr.AOp Go.Tr.ACalls Go.Tr.DL
theorem obj_of {x : T} (h : ArgTy G 6 32 x) : ∃ (id k q : Int) (lv ps s i o u nx cats ring : T) (data : List UInt8),
    x = oT (.int .u64 id) (.int .i64 k) lv ps s i o (.int .i64 q) u nx (.sl 1 none (data.map bT)) cats ring ∧ data.length ≤ bigLen := by
  obtain ⟨h1, h2⟩ := h
  obtain ⟨cs, rfl⟩ := (h2 _ rfl).1 rfl
  change Ty G 6 32 cs at h1
  obtain ⟨_, _, rfl, ⟨id, rfl, _⟩, _, _, rfl, ⟨k, rfl, _⟩, _, _, rfl, ⟨_, _, rfl, ⟨lv, rfl, _⟩, _, _, rfl, ⟨ps, rfl, _⟩, rfl⟩, _, _, rfl, ⟨_, _, rfl, ⟨s, rfl, _⟩, _, _, rfl, ⟨i, rfl, _⟩, _, _, rfl, ⟨o, rfl, _⟩, rfl⟩,
    _, _, rfl, ⟨q, rfl, _⟩, _, _, rfl, ⟨u, rfl, _⟩, _, _, rfl, ⟨nx, rfl, _⟩, _, _, rfl, ⟨data, rfl, hd, he⟩, _, _, rfl, ⟨cats, rfl, _⟩, _, _, rfl, ⟨ring, rfl, _⟩, rfl⟩ := h1
  obtain ⟨b, rfl⟩ := bytes_of_ty (e := 5) (ie := ⟨.int .u8, 1, 1, [.i .u8]⟩) rfl rfl data he
  exact ⟨id, k, q, _, _, _, _, _, _, _, _, _, b, rfl, by simpa using hd⟩
def costE (k q : Int) (n : Nat) : Int := if k = 1 then 1 + q else if k = 2 then 1 + n else if k = 3 then 2 else if k = 4 then 8 else 0
theorem qCost (σ : St) (id k q : Int) (lv ps s i o u nx cats ring : T) (own : Option (Nat × Nat × Nat)) (data : List UInt8) (hq : 0 ≤ q ∧ q ≤ 10000) (hd : data.length ≤ bigLen) :
    ACalls Try.prog 19 [oT (.int .u64 id) (.int .i64 k) lv ps s i o (.int .i64 q) u nx (.sl 1 own (data.map bT)) cats ring] σ (fun r σ' => r = .int .i64 (costE k q data.length) ∧ Drop σ' σ) := by
  have hlm : (data.map bT).length = data.length := by simp
  unfold bigLen at hd
  refine acalls_mk hG Try.func19 rfl rfl rfl rfl rfl ?_
  repeat' (first
    | (refine al_cons rfl ?_; first
      | refine op_m (d := some _) hG rfl rfl rfl rfl ?_
      | refine op_eqs (d := some _) hG rfl rfl rfl rfl ?_ | refine op_nes (d := some _) hG rfl rfl rfl rfl ?_ | refine op_beqs (d := some _) hG rfl rfl rfl rfl ?_
      | refine op_d (d := some _) hG rfl rfl rfl rfl (fun h => ?_) (fun h => ?_) | refine op_e (d := some _) hG rfl rfl rfl rfl (fun h => ?_) (fun h => ?_) | refine op_ne (d := some _) hG rfl rfl rfl rfl (fun h => ?_) (fun h => ?_) | refine op_beq (d := some _) hG rfl rfl rfl rfl (fun h => ?_) (fun h => ?_)
      | refine op_rem (d := some _) hG rfl rfl rfl rfl rfl rfl (by omega) ?_ | refine op_shr (d := some _) hG rfl rfl rfl rfl rfl rfl (by omega) ?_ | refine op_w (d := some _) hG rfl rfl rfl rfl (by omega) ?_ | refine op_wu (d := some _) hG rfl rfl rfl rfl (by omega) ?_ | refine op_w16 (d := some _) hG rfl rfl rfl rfl (by omega) ?_ | refine op_w8 (d := some _) hG rfl rfl rfl rfl (by omega) ?_
      | refine op_load (d := some _) hG rfl rfl (by assumption) (by exact rfl) rfl rfl ?_ | refine op_q (d := some _) hG rfl rfl rfl ?_)
    | refine al_s (d := some _) rfl rfl rfl ?_ | (refine al_nil ?_; show AW _ _ _ _ _ _) | refine aw_seq ?_ | refine aw_regL ?_ | refine aw_if_t rfl ?_ | refine aw_if_f rfl ?_
    | (refine aw_skip ?_; show AW _ _ _ _ _ _) | refine aw_block ?_ | (refine aw_exit ?_; show AW _ _ _ _ _ _) | (refine aw_goto ?_; try dsimp only [thenA, inBlockA, jumpA, noGotoA]) | (refine aw_ret ?_; try dsimp only [thenA, inBlockA, jumpA, noGotoA])
    | refine dl_cons rfl rfl (fun K kk => op_m (d := some _) hG rfl rfl rfl rfl kk) ?_
    | refine dl_cons rfl rfl (fun K kk => op_eqs (d := some _) hG rfl rfl rfl rfl kk) ?_ | refine dl_cons rfl rfl (fun K kk => op_nes (d := some _) hG rfl rfl rfl rfl kk) ?_ | refine dl_cons rfl rfl (fun K kk => op_beqs (d := some _) hG rfl rfl rfl rfl kk) ?_
    | refine dl_d rfl rfl (fun K kt kf => op_d (d := some _) hG rfl rfl rfl rfl kt kf) (fun h => ?_) (fun h => ?_) | refine dl_d rfl rfl (fun K kt kf => op_e (d := some _) hG rfl rfl rfl rfl kt kf) (fun h => ?_) (fun h => ?_) | refine dl_ne rfl rfl (fun K kt kf => op_ne (d := some _) hG rfl rfl rfl rfl kt kf) (fun h => ?_) (fun h => ?_) | refine dl_d rfl rfl (fun K kt kf => op_beq (d := some _) hG rfl rfl rfl rfl kt kf) (fun h => ?_) (fun h => ?_)
    | refine dl_cons rfl rfl (fun K kk => op_load (d := some _) hG rfl rfl (by assumption) (by exact rfl) rfl rfl kk) ?_ | refine dl_cons rfl rfl (fun K kk => op_q (d := some _) hG rfl rfl rfl kk) ?_
    | refine dl_s rfl rfl rfl ?_ | (refine dl_nil ?_; show AW _ _ _ _ _ _) | refine aw_draw mix rfl ?_)
  refine al_cons rfl (op_box' (d := some _) hG rfl rfl rfl rfl rfl (fun b1 σ1 n1 o1 p1 d1 => ?_))
  repeat' (first
    | (refine al_cons rfl ?_; first
      | refine op_m (d := some _) hG rfl rfl rfl rfl ?_
      | refine op_eqs (d := some _) hG rfl rfl rfl rfl ?_ | refine op_nes (d := some _) hG rfl rfl rfl rfl ?_ | refine op_beqs (d := some _) hG rfl rfl rfl rfl ?_
      | refine op_d (d := some _) hG rfl rfl rfl rfl (fun h => ?_) (fun h => ?_) | refine op_e (d := some _) hG rfl rfl rfl rfl (fun h => ?_) (fun h => ?_) | refine op_ne (d := some _) hG rfl rfl rfl rfl (fun h => ?_) (fun h => ?_) | refine op_beq (d := some _) hG rfl rfl rfl rfl (fun h => ?_) (fun h => ?_)
      | refine op_rem (d := some _) hG rfl rfl rfl rfl rfl rfl (by omega) ?_ | refine op_shr (d := some _) hG rfl rfl rfl rfl rfl rfl (by omega) ?_ | refine op_w (d := some _) hG rfl rfl rfl rfl (by omega) ?_ | refine op_wu (d := some _) hG rfl rfl rfl rfl (by omega) ?_ | refine op_w16 (d := some _) hG rfl rfl rfl rfl (by omega) ?_ | refine op_w8 (d := some _) hG rfl rfl rfl rfl (by omega) ?_
      | refine op_load (d := some _) hG rfl rfl (by assumption) (by exact rfl) rfl rfl ?_ | refine op_q (d := some _) hG rfl rfl rfl ?_)
    | refine al_s (d := some _) rfl rfl rfl ?_ | (refine al_nil ?_; show AW _ _ _ _ _ _) | refine aw_seq ?_ | refine aw_regL ?_ | refine aw_if_t rfl ?_ | refine aw_if_f rfl ?_
    | (refine aw_skip ?_; show AW _ _ _ _ _ _) | refine aw_block ?_ | (refine aw_exit ?_; show AW _ _ _ _ _ _) | (refine aw_goto ?_; try dsimp only [thenA, inBlockA, jumpA, noGotoA]) | (refine aw_ret ?_; try dsimp only [thenA, inBlockA, jumpA, noGotoA])
    | refine dl_cons rfl rfl (fun K kk => op_m (d := some _) hG rfl rfl rfl rfl kk) ?_
    | refine dl_cons rfl rfl (fun K kk => op_eqs (d := some _) hG rfl rfl rfl rfl kk) ?_ | refine dl_cons rfl rfl (fun K kk => op_nes (d := some _) hG rfl rfl rfl rfl kk) ?_ | refine dl_cons rfl rfl (fun K kk => op_beqs (d := some _) hG rfl rfl rfl rfl kk) ?_
    | refine dl_d rfl rfl (fun K kt kf => op_d (d := some _) hG rfl rfl rfl rfl kt kf) (fun h => ?_) (fun h => ?_) | refine dl_d rfl rfl (fun K kt kf => op_e (d := some _) hG rfl rfl rfl rfl kt kf) (fun h => ?_) (fun h => ?_) | refine dl_ne rfl rfl (fun K kt kf => op_ne (d := some _) hG rfl rfl rfl rfl kt kf) (fun h => ?_) (fun h => ?_) | refine dl_d rfl rfl (fun K kt kf => op_beq (d := some _) hG rfl rfl rfl rfl kt kf) (fun h => ?_) (fun h => ?_)
    | refine dl_cons rfl rfl (fun K kk => op_load (d := some _) hG rfl rfl (by assumption) (by exact rfl) rfl rfl kk) ?_ | refine dl_cons rfl rfl (fun K kk => op_q (d := some _) hG rfl rfl rfl kk) ?_
    | refine dl_s rfl rfl rfl ?_ | (refine dl_nil ?_; show AW _ _ _ _ _ _) | refine aw_draw mix rfl ?_)
  all_goals first
    | (refine aw_ret' _ rfl (Wk.refl _) ⟨?_, d1⟩; unfold costE; (repeat' split) <;> first | rfl | omega | (congr 1; omega) | skip)
theorem rCost (σ : St) (id k q : Int) (lv ps s i o u nx cats ring : T) (own : Option (Nat × Nat × Nat)) (data : List UInt8) (hq : 0 ≤ q ∧ q ≤ 10000) (hd : data.length ≤ bigLen) :
    ACalls Try.prog 20 [oT (.int .u64 id) (.int .i64 k) lv ps s i o (.int .i64 q) u nx (.sl 1 own (data.map bT)) cats ring] σ (fun r σ' => r = .int .i64 (costE k q data.length) ∧ Drop σ' σ) := by
  have hlm : (data.map bT).length = data.length := by simp
  unfold bigLen at hd
  refine acalls_mk hG Try.func20 rfl rfl rfl rfl rfl ?_
  repeat' (first
    | (refine al_cons rfl ?_; first
      | refine op_m (d := some _) hG rfl rfl rfl rfl ?_
      | refine op_eqs (d := some _) hG rfl rfl rfl rfl ?_ | refine op_nes (d := some _) hG rfl rfl rfl rfl ?_ | refine op_beqs (d := some _) hG rfl rfl rfl rfl ?_
      | refine op_d (d := some _) hG rfl rfl rfl rfl (fun h => ?_) (fun h => ?_) | refine op_e (d := some _) hG rfl rfl rfl rfl (fun h => ?_) (fun h => ?_) | refine op_ne (d := some _) hG rfl rfl rfl rfl (fun h => ?_) (fun h => ?_) | refine op_beq (d := some _) hG rfl rfl rfl rfl (fun h => ?_) (fun h => ?_)
      | refine op_rem (d := some _) hG rfl rfl rfl rfl rfl rfl (by omega) ?_ | refine op_shr (d := some _) hG rfl rfl rfl rfl rfl rfl (by omega) ?_ | refine op_w (d := some _) hG rfl rfl rfl rfl (by omega) ?_ | refine op_wu (d := some _) hG rfl rfl rfl rfl (by omega) ?_ | refine op_w16 (d := some _) hG rfl rfl rfl rfl (by omega) ?_ | refine op_w8 (d := some _) hG rfl rfl rfl rfl (by omega) ?_
      | refine op_load (d := some _) hG rfl rfl (by assumption) (by exact rfl) rfl rfl ?_ | refine op_q (d := some _) hG rfl rfl rfl ?_)
    | refine al_s (d := some _) rfl rfl rfl ?_ | (refine al_nil ?_; show AW _ _ _ _ _ _) | refine aw_seq ?_ | refine aw_regL ?_ | refine aw_if_t rfl ?_ | refine aw_if_f rfl ?_
    | (refine aw_skip ?_; show AW _ _ _ _ _ _) | refine aw_block ?_ | (refine aw_exit ?_; show AW _ _ _ _ _ _) | (refine aw_goto ?_; try dsimp only [thenA, inBlockA, jumpA, noGotoA]) | (refine aw_ret ?_; try dsimp only [thenA, inBlockA, jumpA, noGotoA])
    | refine dl_cons rfl rfl (fun K kk => op_m (d := some _) hG rfl rfl rfl rfl kk) ?_
    | refine dl_cons rfl rfl (fun K kk => op_eqs (d := some _) hG rfl rfl rfl rfl kk) ?_ | refine dl_cons rfl rfl (fun K kk => op_nes (d := some _) hG rfl rfl rfl rfl kk) ?_ | refine dl_cons rfl rfl (fun K kk => op_beqs (d := some _) hG rfl rfl rfl rfl kk) ?_
    | refine dl_d rfl rfl (fun K kt kf => op_d (d := some _) hG rfl rfl rfl rfl kt kf) (fun h => ?_) (fun h => ?_) | refine dl_d rfl rfl (fun K kt kf => op_e (d := some _) hG rfl rfl rfl rfl kt kf) (fun h => ?_) (fun h => ?_) | refine dl_ne rfl rfl (fun K kt kf => op_ne (d := some _) hG rfl rfl rfl rfl kt kf) (fun h => ?_) (fun h => ?_) | refine dl_d rfl rfl (fun K kt kf => op_beq (d := some _) hG rfl rfl rfl rfl kt kf) (fun h => ?_) (fun h => ?_)
    | refine dl_cons rfl rfl (fun K kk => op_load (d := some _) hG rfl rfl (by assumption) (by exact rfl) rfl rfl kk) ?_ | refine dl_cons rfl rfl (fun K kk => op_q (d := some _) hG rfl rfl rfl kk) ?_
    | refine dl_s rfl rfl rfl ?_ | (refine dl_nil ?_; show AW _ _ _ _ _ _) | refine aw_draw mix rfl ?_)
  refine al_cons rfl (op_box' (d := some _) hG rfl rfl rfl rfl rfl (fun b1 σ1 n1 o1 p1 d1 => ?_))
  repeat' (first
    | (refine al_cons rfl ?_; first
      | refine op_m (d := some _) hG rfl rfl rfl rfl ?_
      | refine op_eqs (d := some _) hG rfl rfl rfl rfl ?_ | refine op_nes (d := some _) hG rfl rfl rfl rfl ?_ | refine op_beqs (d := some _) hG rfl rfl rfl rfl ?_
      | refine op_d (d := some _) hG rfl rfl rfl rfl (fun h => ?_) (fun h => ?_) | refine op_e (d := some _) hG rfl rfl rfl rfl (fun h => ?_) (fun h => ?_) | refine op_ne (d := some _) hG rfl rfl rfl rfl (fun h => ?_) (fun h => ?_) | refine op_beq (d := some _) hG rfl rfl rfl rfl (fun h => ?_) (fun h => ?_)
      | refine op_rem (d := some _) hG rfl rfl rfl rfl rfl rfl (by omega) ?_ | refine op_shr (d := some _) hG rfl rfl rfl rfl rfl rfl (by omega) ?_ | refine op_w (d := some _) hG rfl rfl rfl rfl (by omega) ?_ | refine op_wu (d := some _) hG rfl rfl rfl rfl (by omega) ?_ | refine op_w16 (d := some _) hG rfl rfl rfl rfl (by omega) ?_ | refine op_w8 (d := some _) hG rfl rfl rfl rfl (by omega) ?_
      | refine op_load (d := some _) hG rfl rfl (by assumption) (by exact rfl) rfl rfl ?_ | refine op_q (d := some _) hG rfl rfl rfl ?_)
    | refine al_s (d := some _) rfl rfl rfl ?_ | (refine al_nil ?_; show AW _ _ _ _ _ _) | refine aw_seq ?_ | refine aw_regL ?_ | refine aw_if_t rfl ?_ | refine aw_if_f rfl ?_
    | (refine aw_skip ?_; show AW _ _ _ _ _ _) | refine aw_block ?_ | (refine aw_exit ?_; show AW _ _ _ _ _ _) | (refine aw_goto ?_; try dsimp only [thenA, inBlockA, jumpA, noGotoA]) | (refine aw_ret ?_; try dsimp only [thenA, inBlockA, jumpA, noGotoA])
    | refine dl_cons rfl rfl (fun K kk => op_m (d := some _) hG rfl rfl rfl rfl kk) ?_
    | refine dl_cons rfl rfl (fun K kk => op_eqs (d := some _) hG rfl rfl rfl rfl kk) ?_ | refine dl_cons rfl rfl (fun K kk => op_nes (d := some _) hG rfl rfl rfl rfl kk) ?_ | refine dl_cons rfl rfl (fun K kk => op_beqs (d := some _) hG rfl rfl rfl rfl kk) ?_
    | refine dl_d rfl rfl (fun K kt kf => op_d (d := some _) hG rfl rfl rfl rfl kt kf) (fun h => ?_) (fun h => ?_) | refine dl_d rfl rfl (fun K kt kf => op_e (d := some _) hG rfl rfl rfl rfl kt kf) (fun h => ?_) (fun h => ?_) | refine dl_ne rfl rfl (fun K kt kf => op_ne (d := some _) hG rfl rfl rfl rfl kt kf) (fun h => ?_) (fun h => ?_) | refine dl_d rfl rfl (fun K kt kf => op_beq (d := some _) hG rfl rfl rfl rfl kt kf) (fun h => ?_) (fun h => ?_)
    | refine dl_cons rfl rfl (fun K kk => op_load (d := some _) hG rfl rfl (by assumption) (by exact rfl) rfl rfl kk) ?_ | refine dl_cons rfl rfl (fun K kk => op_q (d := some _) hG rfl rfl rfl kk) ?_
    | refine dl_s rfl rfl rfl ?_ | (refine dl_nil ?_; show AW _ _ _ _ _ _) | refine aw_draw mix rfl ?_)
  all_goals first
    | (refine aw_ret' _ rfl (Wk.refl _) ⟨?_, d1⟩; unfold costE; (repeat' split) <;> first | rfl | omega | (congr 1; omega) | skip)
set_option maxHeartbeats 2000000 in
theorem q_begun (σ : St) : ACalls Try.prog 16 [] σ (fun r σ' => r = .bool true ∧ Drop σ' σ) := by
  refine acalls_mk hG Try.func16 rfl rfl rfl rfl rfl ?_
  repeat' (first
    | (refine al_cons rfl ?_; first
      | refine op_m (d := some _) hG rfl rfl rfl rfl ?_
      | refine op_eqs (d := some _) hG rfl rfl rfl rfl ?_ | refine op_nes (d := some _) hG rfl rfl rfl rfl ?_ | refine op_beqs (d := some _) hG rfl rfl rfl rfl ?_
      | refine op_d (d := some _) hG rfl rfl rfl rfl (fun h => ?_) (fun h => ?_) | refine op_e (d := some _) hG rfl rfl rfl rfl (fun h => ?_) (fun h => ?_) | refine op_ne (d := some _) hG rfl rfl rfl rfl (fun h => ?_) (fun h => ?_) | refine op_beq (d := some _) hG rfl rfl rfl rfl (fun h => ?_) (fun h => ?_)
      | refine op_rem (d := some _) hG rfl rfl rfl rfl rfl rfl (by omega) ?_ | refine op_shr (d := some _) hG rfl rfl rfl rfl rfl rfl (by omega) ?_ | refine op_w (d := some _) hG rfl rfl rfl rfl (by omega) ?_ | refine op_wu (d := some _) hG rfl rfl rfl rfl (by omega) ?_ | refine op_w16 (d := some _) hG rfl rfl rfl rfl (by omega) ?_ | refine op_w8 (d := some _) hG rfl rfl rfl rfl (by omega) ?_
      | refine op_load (d := some _) hG rfl rfl (by assumption) (by exact rfl) rfl rfl ?_ | refine op_q (d := some _) hG rfl rfl rfl ?_)
    | refine al_s (d := some _) rfl rfl rfl ?_ | (refine al_nil ?_; show AW _ _ _ _ _ _) | refine aw_seq ?_ | refine aw_regL ?_ | refine aw_if_t rfl ?_ | refine aw_if_f rfl ?_
    | (refine aw_skip ?_; show AW _ _ _ _ _ _) | refine aw_block ?_ | (refine aw_exit ?_; show AW _ _ _ _ _ _) | (refine aw_goto ?_; try dsimp only [thenA, inBlockA, jumpA, noGotoA]) | (refine aw_ret ?_; try dsimp only [thenA, inBlockA, jumpA, noGotoA])
    | refine dl_cons rfl rfl (fun K kk => op_m (d := some _) hG rfl rfl rfl rfl kk) ?_
    | refine dl_cons rfl rfl (fun K kk => op_eqs (d := some _) hG rfl rfl rfl rfl kk) ?_ | refine dl_cons rfl rfl (fun K kk => op_nes (d := some _) hG rfl rfl rfl rfl kk) ?_ | refine dl_cons rfl rfl (fun K kk => op_beqs (d := some _) hG rfl rfl rfl rfl kk) ?_
    | refine dl_d rfl rfl (fun K kt kf => op_d (d := some _) hG rfl rfl rfl rfl kt kf) (fun h => ?_) (fun h => ?_) | refine dl_d rfl rfl (fun K kt kf => op_e (d := some _) hG rfl rfl rfl rfl kt kf) (fun h => ?_) (fun h => ?_) | refine dl_ne rfl rfl (fun K kt kf => op_ne (d := some _) hG rfl rfl rfl rfl kt kf) (fun h => ?_) (fun h => ?_) | refine dl_d rfl rfl (fun K kt kf => op_beq (d := some _) hG rfl rfl rfl rfl kt kf) (fun h => ?_) (fun h => ?_)
    | refine dl_cons rfl rfl (fun K kk => op_load (d := some _) hG rfl rfl (by assumption) (by exact rfl) rfl rfl kk) ?_ | refine dl_cons rfl rfl (fun K kk => op_q (d := some _) hG rfl rfl rfl kk) ?_
    | refine dl_s rfl rfl rfl ?_ | (refine dl_nil ?_; show AW _ _ _ _ _ _) | refine aw_draw mix rfl ?_)
  refine al_cons rfl (op_build (d := some _) hG rfl rfl rfl rfl rfl rfl rfl ?_)
  repeat' (first
    | (refine al_cons rfl ?_; first
      | refine op_m (d := some _) hG rfl rfl rfl rfl ?_
      | refine op_eqs (d := some _) hG rfl rfl rfl rfl ?_ | refine op_nes (d := some _) hG rfl rfl rfl rfl ?_ | refine op_beqs (d := some _) hG rfl rfl rfl rfl ?_
      | refine op_d (d := some _) hG rfl rfl rfl rfl (fun h => ?_) (fun h => ?_) | refine op_e (d := some _) hG rfl rfl rfl rfl (fun h => ?_) (fun h => ?_) | refine op_ne (d := some _) hG rfl rfl rfl rfl (fun h => ?_) (fun h => ?_) | refine op_beq (d := some _) hG rfl rfl rfl rfl (fun h => ?_) (fun h => ?_)
      | refine op_rem (d := some _) hG rfl rfl rfl rfl rfl rfl (by omega) ?_ | refine op_shr (d := some _) hG rfl rfl rfl rfl rfl rfl (by omega) ?_ | refine op_w (d := some _) hG rfl rfl rfl rfl (by omega) ?_ | refine op_wu (d := some _) hG rfl rfl rfl rfl (by omega) ?_ | refine op_w16 (d := some _) hG rfl rfl rfl rfl (by omega) ?_ | refine op_w8 (d := some _) hG rfl rfl rfl rfl (by omega) ?_
      | refine op_load (d := some _) hG rfl rfl (by assumption) (by exact rfl) rfl rfl ?_ | refine op_q (d := some _) hG rfl rfl rfl ?_)
    | refine al_s (d := some _) rfl rfl rfl ?_ | (refine al_nil ?_; show AW _ _ _ _ _ _) | refine aw_seq ?_ | refine aw_regL ?_ | refine aw_if_t rfl ?_ | refine aw_if_f rfl ?_
    | (refine aw_skip ?_; show AW _ _ _ _ _ _) | refine aw_block ?_ | (refine aw_exit ?_; show AW _ _ _ _ _ _) | (refine aw_goto ?_; try dsimp only [thenA, inBlockA, jumpA, noGotoA]) | (refine aw_ret ?_; try dsimp only [thenA, inBlockA, jumpA, noGotoA])
    | refine dl_cons rfl rfl (fun K kk => op_m (d := some _) hG rfl rfl rfl rfl kk) ?_
    | refine dl_cons rfl rfl (fun K kk => op_eqs (d := some _) hG rfl rfl rfl rfl kk) ?_ | refine dl_cons rfl rfl (fun K kk => op_nes (d := some _) hG rfl rfl rfl rfl kk) ?_ | refine dl_cons rfl rfl (fun K kk => op_beqs (d := some _) hG rfl rfl rfl rfl kk) ?_
    | refine dl_d rfl rfl (fun K kt kf => op_d (d := some _) hG rfl rfl rfl rfl kt kf) (fun h => ?_) (fun h => ?_) | refine dl_d rfl rfl (fun K kt kf => op_e (d := some _) hG rfl rfl rfl rfl kt kf) (fun h => ?_) (fun h => ?_) | refine dl_ne rfl rfl (fun K kt kf => op_ne (d := some _) hG rfl rfl rfl rfl kt kf) (fun h => ?_) (fun h => ?_) | refine dl_d rfl rfl (fun K kt kf => op_beq (d := some _) hG rfl rfl rfl rfl kt kf) (fun h => ?_) (fun h => ?_)
    | refine dl_cons rfl rfl (fun K kk => op_load (d := some _) hG rfl rfl (by assumption) (by exact rfl) rfl rfl kk) ?_ | refine dl_cons rfl rfl (fun K kk => op_q (d := some _) hG rfl rfl rfl kk) ?_
    | refine dl_s rfl rfl rfl ?_ | (refine dl_nil ?_; show AW _ _ _ _ _ _) | refine aw_draw mix rfl ?_)
  refine al_cons rfl (op_call (d := some _) rfl rfl rfl rfl rfl ?_)
  refine (qAdd σ 0 1 9 4 5 (by omega) (by omega)).dropped ?_
  rw [show addE 0 1 9 4 5 = (objB 0 1 9 9, 0) from rfl]
  dsimp only
  repeat' (first
    | (refine al_cons rfl ?_; first
      | refine op_m (d := some _) hG rfl rfl rfl rfl ?_
      | refine op_eqs (d := some _) hG rfl rfl rfl rfl ?_ | refine op_nes (d := some _) hG rfl rfl rfl rfl ?_ | refine op_beqs (d := some _) hG rfl rfl rfl rfl ?_
      | refine op_d (d := some _) hG rfl rfl rfl rfl (fun h => ?_) (fun h => ?_) | refine op_e (d := some _) hG rfl rfl rfl rfl (fun h => ?_) (fun h => ?_) | refine op_ne (d := some _) hG rfl rfl rfl rfl (fun h => ?_) (fun h => ?_) | refine op_beq (d := some _) hG rfl rfl rfl rfl (fun h => ?_) (fun h => ?_)
      | refine op_rem (d := some _) hG rfl rfl rfl rfl rfl rfl (by omega) ?_ | refine op_shr (d := some _) hG rfl rfl rfl rfl rfl rfl (by omega) ?_ | refine op_w (d := some _) hG rfl rfl rfl rfl (by omega) ?_ | refine op_wu (d := some _) hG rfl rfl rfl rfl (by omega) ?_ | refine op_w16 (d := some _) hG rfl rfl rfl rfl (by omega) ?_ | refine op_w8 (d := some _) hG rfl rfl rfl rfl (by omega) ?_
      | refine op_load (d := some _) hG rfl rfl (by assumption) (by exact rfl) rfl rfl ?_ | refine op_q (d := some _) hG rfl rfl rfl ?_)
    | refine al_s (d := some _) rfl rfl rfl ?_ | (refine al_nil ?_; show AW _ _ _ _ _ _) | refine aw_seq ?_ | refine aw_regL ?_ | refine aw_if_t rfl ?_ | refine aw_if_f rfl ?_
    | (refine aw_skip ?_; show AW _ _ _ _ _ _) | refine aw_block ?_ | (refine aw_exit ?_; show AW _ _ _ _ _ _) | (refine aw_goto ?_; try dsimp only [thenA, inBlockA, jumpA, noGotoA]) | (refine aw_ret ?_; try dsimp only [thenA, inBlockA, jumpA, noGotoA])
    | refine dl_cons rfl rfl (fun K kk => op_m (d := some _) hG rfl rfl rfl rfl kk) ?_
    | refine dl_cons rfl rfl (fun K kk => op_eqs (d := some _) hG rfl rfl rfl rfl kk) ?_ | refine dl_cons rfl rfl (fun K kk => op_nes (d := some _) hG rfl rfl rfl rfl kk) ?_ | refine dl_cons rfl rfl (fun K kk => op_beqs (d := some _) hG rfl rfl rfl rfl kk) ?_
    | refine dl_d rfl rfl (fun K kt kf => op_d (d := some _) hG rfl rfl rfl rfl kt kf) (fun h => ?_) (fun h => ?_) | refine dl_d rfl rfl (fun K kt kf => op_e (d := some _) hG rfl rfl rfl rfl kt kf) (fun h => ?_) (fun h => ?_) | refine dl_ne rfl rfl (fun K kt kf => op_ne (d := some _) hG rfl rfl rfl rfl kt kf) (fun h => ?_) (fun h => ?_) | refine dl_d rfl rfl (fun K kt kf => op_beq (d := some _) hG rfl rfl rfl rfl kt kf) (fun h => ?_) (fun h => ?_)
    | refine dl_cons rfl rfl (fun K kk => op_load (d := some _) hG rfl rfl (by assumption) (by exact rfl) rfl rfl kk) ?_ | refine dl_cons rfl rfl (fun K kk => op_q (d := some _) hG rfl rfl rfl kk) ?_
    | refine dl_s rfl rfl rfl ?_ | (refine dl_nil ?_; show AW _ _ _ _ _ _) | refine aw_draw mix rfl ?_)
  refine al_cons rfl (op_alloc' (d := some _) hG rfl rfl rfl rfl (fun b1 σ1 n1 o1 p1 d1 => ?_))
  repeat' (first
    | (refine al_cons rfl ?_; first
      | refine op_m (d := some _) hG rfl rfl rfl rfl ?_
      | refine op_eqs (d := some _) hG rfl rfl rfl rfl ?_ | refine op_nes (d := some _) hG rfl rfl rfl rfl ?_ | refine op_beqs (d := some _) hG rfl rfl rfl rfl ?_
      | refine op_d (d := some _) hG rfl rfl rfl rfl (fun h => ?_) (fun h => ?_) | refine op_e (d := some _) hG rfl rfl rfl rfl (fun h => ?_) (fun h => ?_) | refine op_ne (d := some _) hG rfl rfl rfl rfl (fun h => ?_) (fun h => ?_) | refine op_beq (d := some _) hG rfl rfl rfl rfl (fun h => ?_) (fun h => ?_)
      | refine op_rem (d := some _) hG rfl rfl rfl rfl rfl rfl (by omega) ?_ | refine op_shr (d := some _) hG rfl rfl rfl rfl rfl rfl (by omega) ?_ | refine op_w (d := some _) hG rfl rfl rfl rfl (by omega) ?_ | refine op_wu (d := some _) hG rfl rfl rfl rfl (by omega) ?_ | refine op_w16 (d := some _) hG rfl rfl rfl rfl (by omega) ?_ | refine op_w8 (d := some _) hG rfl rfl rfl rfl (by omega) ?_
      | refine op_load (d := some _) hG rfl rfl (by assumption) (by exact rfl) rfl rfl ?_ | refine op_q (d := some _) hG rfl rfl rfl ?_)
    | refine al_s (d := some _) rfl rfl rfl ?_ | (refine al_nil ?_; show AW _ _ _ _ _ _) | refine aw_seq ?_ | refine aw_regL ?_ | refine aw_if_t rfl ?_ | refine aw_if_f rfl ?_
    | (refine aw_skip ?_; show AW _ _ _ _ _ _) | refine aw_block ?_ | (refine aw_exit ?_; show AW _ _ _ _ _ _) | (refine aw_goto ?_; try dsimp only [thenA, inBlockA, jumpA, noGotoA]) | (refine aw_ret ?_; try dsimp only [thenA, inBlockA, jumpA, noGotoA])
    | refine dl_cons rfl rfl (fun K kk => op_m (d := some _) hG rfl rfl rfl rfl kk) ?_
    | refine dl_cons rfl rfl (fun K kk => op_eqs (d := some _) hG rfl rfl rfl rfl kk) ?_ | refine dl_cons rfl rfl (fun K kk => op_nes (d := some _) hG rfl rfl rfl rfl kk) ?_ | refine dl_cons rfl rfl (fun K kk => op_beqs (d := some _) hG rfl rfl rfl rfl kk) ?_
    | refine dl_d rfl rfl (fun K kt kf => op_d (d := some _) hG rfl rfl rfl rfl kt kf) (fun h => ?_) (fun h => ?_) | refine dl_d rfl rfl (fun K kt kf => op_e (d := some _) hG rfl rfl rfl rfl kt kf) (fun h => ?_) (fun h => ?_) | refine dl_ne rfl rfl (fun K kt kf => op_ne (d := some _) hG rfl rfl rfl rfl kt kf) (fun h => ?_) (fun h => ?_) | refine dl_d rfl rfl (fun K kt kf => op_beq (d := some _) hG rfl rfl rfl rfl kt kf) (fun h => ?_) (fun h => ?_)
    | refine dl_cons rfl rfl (fun K kk => op_load (d := some _) hG rfl rfl (by assumption) (by exact rfl) rfl rfl kk) ?_ | refine dl_cons rfl rfl (fun K kk => op_q (d := some _) hG rfl rfl rfl kk) ?_
    | refine dl_s rfl rfl rfl ?_ | (refine dl_nil ?_; show AW _ _ _ _ _ _) | refine aw_draw mix rfl ?_)
  refine al_cons rfl (op_store' hG rfl rfl rfl (by assumption) (by exact rfl) (by exact rfl) (by exact rfl) (by exact rfl) rfl (fun σ2 o2 p2 d2 => ?_))
  have d02 := d2 σ n1 d1
  repeat' (first
    | (refine al_cons rfl ?_; first
      | refine op_m (d := some _) hG rfl rfl rfl rfl ?_
      | refine op_eqs (d := some _) hG rfl rfl rfl rfl ?_ | refine op_nes (d := some _) hG rfl rfl rfl rfl ?_ | refine op_beqs (d := some _) hG rfl rfl rfl rfl ?_
      | refine op_d (d := some _) hG rfl rfl rfl rfl (fun h => ?_) (fun h => ?_) | refine op_e (d := some _) hG rfl rfl rfl rfl (fun h => ?_) (fun h => ?_) | refine op_ne (d := some _) hG rfl rfl rfl rfl (fun h => ?_) (fun h => ?_) | refine op_beq (d := some _) hG rfl rfl rfl rfl (fun h => ?_) (fun h => ?_)
      | refine op_rem (d := some _) hG rfl rfl rfl rfl rfl rfl (by omega) ?_ | refine op_shr (d := some _) hG rfl rfl rfl rfl rfl rfl (by omega) ?_ | refine op_w (d := some _) hG rfl rfl rfl rfl (by omega) ?_ | refine op_wu (d := some _) hG rfl rfl rfl rfl (by omega) ?_ | refine op_w16 (d := some _) hG rfl rfl rfl rfl (by omega) ?_ | refine op_w8 (d := some _) hG rfl rfl rfl rfl (by omega) ?_
      | refine op_load (d := some _) hG rfl rfl (by assumption) (by exact rfl) rfl rfl ?_ | refine op_q (d := some _) hG rfl rfl rfl ?_)
    | refine al_s (d := some _) rfl rfl rfl ?_ | (refine al_nil ?_; show AW _ _ _ _ _ _) | refine aw_seq ?_ | refine aw_regL ?_ | refine aw_if_t rfl ?_ | refine aw_if_f rfl ?_
    | (refine aw_skip ?_; show AW _ _ _ _ _ _) | refine aw_block ?_ | (refine aw_exit ?_; show AW _ _ _ _ _ _) | (refine aw_goto ?_; try dsimp only [thenA, inBlockA, jumpA, noGotoA]) | (refine aw_ret ?_; try dsimp only [thenA, inBlockA, jumpA, noGotoA])
    | refine dl_cons rfl rfl (fun K kk => op_m (d := some _) hG rfl rfl rfl rfl kk) ?_
    | refine dl_cons rfl rfl (fun K kk => op_eqs (d := some _) hG rfl rfl rfl rfl kk) ?_ | refine dl_cons rfl rfl (fun K kk => op_nes (d := some _) hG rfl rfl rfl rfl kk) ?_ | refine dl_cons rfl rfl (fun K kk => op_beqs (d := some _) hG rfl rfl rfl rfl kk) ?_
    | refine dl_d rfl rfl (fun K kt kf => op_d (d := some _) hG rfl rfl rfl rfl kt kf) (fun h => ?_) (fun h => ?_) | refine dl_d rfl rfl (fun K kt kf => op_e (d := some _) hG rfl rfl rfl rfl kt kf) (fun h => ?_) (fun h => ?_) | refine dl_ne rfl rfl (fun K kt kf => op_ne (d := some _) hG rfl rfl rfl rfl kt kf) (fun h => ?_) (fun h => ?_) | refine dl_d rfl rfl (fun K kt kf => op_beq (d := some _) hG rfl rfl rfl rfl kt kf) (fun h => ?_) (fun h => ?_)
    | refine dl_cons rfl rfl (fun K kk => op_load (d := some _) hG rfl rfl (by assumption) (by exact rfl) rfl rfl kk) ?_ | refine dl_cons rfl rfl (fun K kk => op_q (d := some _) hG rfl rfl rfl kk) ?_
    | refine dl_s rfl rfl rfl ?_ | (refine dl_nil ?_; show AW _ _ _ _ _ _) | refine aw_draw mix rfl ?_)
  refine al_cons rfl (op_call (d := some _) rfl rfl rfl rfl rfl ?_)
  refine (qAdd σ2 0 1 9 9 1 (by omega) (by omega)).dropped ?_
  rw [show addE 0 1 9 9 1 = (objB 0 0 0 0, 10) from rfl]
  dsimp only
  repeat' (first
    | (refine al_cons rfl ?_; first
      | refine op_m (d := some _) hG rfl rfl rfl rfl ?_
      | refine op_eqs (d := some _) hG rfl rfl rfl rfl ?_ | refine op_nes (d := some _) hG rfl rfl rfl rfl ?_ | refine op_beqs (d := some _) hG rfl rfl rfl rfl ?_
      | refine op_d (d := some _) hG rfl rfl rfl rfl (fun h => ?_) (fun h => ?_) | refine op_e (d := some _) hG rfl rfl rfl rfl (fun h => ?_) (fun h => ?_) | refine op_ne (d := some _) hG rfl rfl rfl rfl (fun h => ?_) (fun h => ?_) | refine op_beq (d := some _) hG rfl rfl rfl rfl (fun h => ?_) (fun h => ?_)
      | refine op_rem (d := some _) hG rfl rfl rfl rfl rfl rfl (by omega) ?_ | refine op_shr (d := some _) hG rfl rfl rfl rfl rfl rfl (by omega) ?_ | refine op_w (d := some _) hG rfl rfl rfl rfl (by omega) ?_ | refine op_wu (d := some _) hG rfl rfl rfl rfl (by omega) ?_ | refine op_w16 (d := some _) hG rfl rfl rfl rfl (by omega) ?_ | refine op_w8 (d := some _) hG rfl rfl rfl rfl (by omega) ?_
      | refine op_load (d := some _) hG rfl rfl (by assumption) (by exact rfl) rfl rfl ?_ | refine op_q (d := some _) hG rfl rfl rfl ?_)
    | refine al_s (d := some _) rfl rfl rfl ?_ | (refine al_nil ?_; show AW _ _ _ _ _ _) | refine aw_seq ?_ | refine aw_regL ?_ | refine aw_if_t rfl ?_ | refine aw_if_f rfl ?_
    | (refine aw_skip ?_; show AW _ _ _ _ _ _) | refine aw_block ?_ | (refine aw_exit ?_; show AW _ _ _ _ _ _) | (refine aw_goto ?_; try dsimp only [thenA, inBlockA, jumpA, noGotoA]) | (refine aw_ret ?_; try dsimp only [thenA, inBlockA, jumpA, noGotoA])
    | refine dl_cons rfl rfl (fun K kk => op_m (d := some _) hG rfl rfl rfl rfl kk) ?_
    | refine dl_cons rfl rfl (fun K kk => op_eqs (d := some _) hG rfl rfl rfl rfl kk) ?_ | refine dl_cons rfl rfl (fun K kk => op_nes (d := some _) hG rfl rfl rfl rfl kk) ?_ | refine dl_cons rfl rfl (fun K kk => op_beqs (d := some _) hG rfl rfl rfl rfl kk) ?_
    | refine dl_d rfl rfl (fun K kt kf => op_d (d := some _) hG rfl rfl rfl rfl kt kf) (fun h => ?_) (fun h => ?_) | refine dl_d rfl rfl (fun K kt kf => op_e (d := some _) hG rfl rfl rfl rfl kt kf) (fun h => ?_) (fun h => ?_) | refine dl_ne rfl rfl (fun K kt kf => op_ne (d := some _) hG rfl rfl rfl rfl kt kf) (fun h => ?_) (fun h => ?_) | refine dl_d rfl rfl (fun K kt kf => op_beq (d := some _) hG rfl rfl rfl rfl kt kf) (fun h => ?_) (fun h => ?_)
    | refine dl_cons rfl rfl (fun K kk => op_load (d := some _) hG rfl rfl (by assumption) (by exact rfl) rfl rfl kk) ?_ | refine dl_cons rfl rfl (fun K kk => op_q (d := some _) hG rfl rfl rfl kk) ?_
    | refine dl_s rfl rfl rfl ?_ | (refine dl_nil ?_; show AW _ _ _ _ _ _) | refine aw_draw mix rfl ?_)
  refine al_cons rfl (op_alloc' (d := some _) hG rfl rfl rfl rfl (fun b3 σ3 n3 o3 p3 d3 => ?_))
  have o23 := p3 _ _ o2
  repeat' (first
    | (refine al_cons rfl ?_; first
      | refine op_m (d := some _) hG rfl rfl rfl rfl ?_
      | refine op_eqs (d := some _) hG rfl rfl rfl rfl ?_ | refine op_nes (d := some _) hG rfl rfl rfl rfl ?_ | refine op_beqs (d := some _) hG rfl rfl rfl rfl ?_
      | refine op_d (d := some _) hG rfl rfl rfl rfl (fun h => ?_) (fun h => ?_) | refine op_e (d := some _) hG rfl rfl rfl rfl (fun h => ?_) (fun h => ?_) | refine op_ne (d := some _) hG rfl rfl rfl rfl (fun h => ?_) (fun h => ?_) | refine op_beq (d := some _) hG rfl rfl rfl rfl (fun h => ?_) (fun h => ?_)
      | refine op_rem (d := some _) hG rfl rfl rfl rfl rfl rfl (by omega) ?_ | refine op_shr (d := some _) hG rfl rfl rfl rfl rfl rfl (by omega) ?_ | refine op_w (d := some _) hG rfl rfl rfl rfl (by omega) ?_ | refine op_wu (d := some _) hG rfl rfl rfl rfl (by omega) ?_ | refine op_w16 (d := some _) hG rfl rfl rfl rfl (by omega) ?_ | refine op_w8 (d := some _) hG rfl rfl rfl rfl (by omega) ?_
      | refine op_load (d := some _) hG rfl rfl (by assumption) (by exact rfl) rfl rfl ?_ | refine op_q (d := some _) hG rfl rfl rfl ?_)
    | refine al_s (d := some _) rfl rfl rfl ?_ | (refine al_nil ?_; show AW _ _ _ _ _ _) | refine aw_seq ?_ | refine aw_regL ?_ | refine aw_if_t rfl ?_ | refine aw_if_f rfl ?_
    | (refine aw_skip ?_; show AW _ _ _ _ _ _) | refine aw_block ?_ | (refine aw_exit ?_; show AW _ _ _ _ _ _) | (refine aw_goto ?_; try dsimp only [thenA, inBlockA, jumpA, noGotoA]) | (refine aw_ret ?_; try dsimp only [thenA, inBlockA, jumpA, noGotoA])
    | refine dl_cons rfl rfl (fun K kk => op_m (d := some _) hG rfl rfl rfl rfl kk) ?_
    | refine dl_cons rfl rfl (fun K kk => op_eqs (d := some _) hG rfl rfl rfl rfl kk) ?_ | refine dl_cons rfl rfl (fun K kk => op_nes (d := some _) hG rfl rfl rfl rfl kk) ?_ | refine dl_cons rfl rfl (fun K kk => op_beqs (d := some _) hG rfl rfl rfl rfl kk) ?_
    | refine dl_d rfl rfl (fun K kt kf => op_d (d := some _) hG rfl rfl rfl rfl kt kf) (fun h => ?_) (fun h => ?_) | refine dl_d rfl rfl (fun K kt kf => op_e (d := some _) hG rfl rfl rfl rfl kt kf) (fun h => ?_) (fun h => ?_) | refine dl_ne rfl rfl (fun K kt kf => op_ne (d := some _) hG rfl rfl rfl rfl kt kf) (fun h => ?_) (fun h => ?_) | refine dl_d rfl rfl (fun K kt kf => op_beq (d := some _) hG rfl rfl rfl rfl kt kf) (fun h => ?_) (fun h => ?_)
    | refine dl_cons rfl rfl (fun K kk => op_load (d := some _) hG rfl rfl (by assumption) (by exact rfl) rfl rfl kk) ?_ | refine dl_cons rfl rfl (fun K kk => op_q (d := some _) hG rfl rfl rfl kk) ?_
    | refine dl_s rfl rfl rfl ?_ | (refine dl_nil ?_; show AW _ _ _ _ _ _) | refine aw_draw mix rfl ?_)
  refine al_cons rfl (op_store' hG rfl rfl rfl (by assumption) (by exact rfl) (by exact rfl) (by exact rfl) (by exact rfl) rfl (fun σ4 o4 p4 d4 => ?_))
  have n3' := d02.gone n3
  have d04 := d4 σ n3' (d3.trans d02)
  have ne : b1 ≠ b3 := by intro e; subst e; rw [o2] at n3; cases n3
  have o24 := (p4 _ ne).trans o23
  repeat' (first
    | (refine al_cons rfl ?_; first
      | refine op_m (d := some _) hG rfl rfl rfl rfl ?_
      | refine op_eqs (d := some _) hG rfl rfl rfl rfl ?_ | refine op_nes (d := some _) hG rfl rfl rfl rfl ?_ | refine op_beqs (d := some _) hG rfl rfl rfl rfl ?_
      | refine op_d (d := some _) hG rfl rfl rfl rfl (fun h => ?_) (fun h => ?_) | refine op_e (d := some _) hG rfl rfl rfl rfl (fun h => ?_) (fun h => ?_) | refine op_ne (d := some _) hG rfl rfl rfl rfl (fun h => ?_) (fun h => ?_) | refine op_beq (d := some _) hG rfl rfl rfl rfl (fun h => ?_) (fun h => ?_)
      | refine op_rem (d := some _) hG rfl rfl rfl rfl rfl rfl (by omega) ?_ | refine op_shr (d := some _) hG rfl rfl rfl rfl rfl rfl (by omega) ?_ | refine op_w (d := some _) hG rfl rfl rfl rfl (by omega) ?_ | refine op_wu (d := some _) hG rfl rfl rfl rfl (by omega) ?_ | refine op_w16 (d := some _) hG rfl rfl rfl rfl (by omega) ?_ | refine op_w8 (d := some _) hG rfl rfl rfl rfl (by omega) ?_
      | refine op_load (d := some _) hG rfl rfl (by assumption) (by exact rfl) rfl rfl ?_ | refine op_q (d := some _) hG rfl rfl rfl ?_)
    | refine al_s (d := some _) rfl rfl rfl ?_ | (refine al_nil ?_; show AW _ _ _ _ _ _) | refine aw_seq ?_ | refine aw_regL ?_ | refine aw_if_t rfl ?_ | refine aw_if_f rfl ?_
    | (refine aw_skip ?_; show AW _ _ _ _ _ _) | refine aw_block ?_ | (refine aw_exit ?_; show AW _ _ _ _ _ _) | (refine aw_goto ?_; try dsimp only [thenA, inBlockA, jumpA, noGotoA]) | (refine aw_ret ?_; try dsimp only [thenA, inBlockA, jumpA, noGotoA])
    | refine dl_cons rfl rfl (fun K kk => op_m (d := some _) hG rfl rfl rfl rfl kk) ?_
    | refine dl_cons rfl rfl (fun K kk => op_eqs (d := some _) hG rfl rfl rfl rfl kk) ?_ | refine dl_cons rfl rfl (fun K kk => op_nes (d := some _) hG rfl rfl rfl rfl kk) ?_ | refine dl_cons rfl rfl (fun K kk => op_beqs (d := some _) hG rfl rfl rfl rfl kk) ?_
    | refine dl_d rfl rfl (fun K kt kf => op_d (d := some _) hG rfl rfl rfl rfl kt kf) (fun h => ?_) (fun h => ?_) | refine dl_d rfl rfl (fun K kt kf => op_e (d := some _) hG rfl rfl rfl rfl kt kf) (fun h => ?_) (fun h => ?_) | refine dl_ne rfl rfl (fun K kt kf => op_ne (d := some _) hG rfl rfl rfl rfl kt kf) (fun h => ?_) (fun h => ?_) | refine dl_d rfl rfl (fun K kt kf => op_beq (d := some _) hG rfl rfl rfl rfl kt kf) (fun h => ?_) (fun h => ?_)
    | refine dl_cons rfl rfl (fun K kk => op_load (d := some _) hG rfl rfl (by assumption) (by exact rfl) rfl rfl kk) ?_ | refine dl_cons rfl rfl (fun K kk => op_q (d := some _) hG rfl rfl rfl kk) ?_
    | refine dl_s rfl rfl rfl ?_ | (refine dl_nil ?_; show AW _ _ _ _ _ _) | refine aw_draw mix rfl ?_)
  refine al_cons rfl (op_mkslice (d := some _) hG rfl rfl rfl rfl rfl rfl rfl rfl ?_)
  refine al_cons rfl (op_build (d := some _) hG rfl rfl rfl rfl rfl rfl rfl ?_)
  repeat' (first
    | (refine al_cons rfl ?_; first
      | refine op_m (d := some _) hG rfl rfl rfl rfl ?_
      | refine op_eqs (d := some _) hG rfl rfl rfl rfl ?_ | refine op_nes (d := some _) hG rfl rfl rfl rfl ?_ | refine op_beqs (d := some _) hG rfl rfl rfl rfl ?_
      | refine op_d (d := some _) hG rfl rfl rfl rfl (fun h => ?_) (fun h => ?_) | refine op_e (d := some _) hG rfl rfl rfl rfl (fun h => ?_) (fun h => ?_) | refine op_ne (d := some _) hG rfl rfl rfl rfl (fun h => ?_) (fun h => ?_) | refine op_beq (d := some _) hG rfl rfl rfl rfl (fun h => ?_) (fun h => ?_)
      | refine op_rem (d := some _) hG rfl rfl rfl rfl rfl rfl (by omega) ?_ | refine op_shr (d := some _) hG rfl rfl rfl rfl rfl rfl (by omega) ?_ | refine op_w (d := some _) hG rfl rfl rfl rfl (by omega) ?_ | refine op_wu (d := some _) hG rfl rfl rfl rfl (by omega) ?_ | refine op_w16 (d := some _) hG rfl rfl rfl rfl (by omega) ?_ | refine op_w8 (d := some _) hG rfl rfl rfl rfl (by omega) ?_
      | refine op_load (d := some _) hG rfl rfl (by assumption) (by exact rfl) rfl rfl ?_ | refine op_q (d := some _) hG rfl rfl rfl ?_)
    | refine al_s (d := some _) rfl rfl rfl ?_ | (refine al_nil ?_; show AW _ _ _ _ _ _) | refine aw_seq ?_ | refine aw_regL ?_ | refine aw_if_t rfl ?_ | refine aw_if_f rfl ?_
    | (refine aw_skip ?_; show AW _ _ _ _ _ _) | refine aw_block ?_ | (refine aw_exit ?_; show AW _ _ _ _ _ _) | (refine aw_goto ?_; try dsimp only [thenA, inBlockA, jumpA, noGotoA]) | (refine aw_ret ?_; try dsimp only [thenA, inBlockA, jumpA, noGotoA])
    | refine dl_cons rfl rfl (fun K kk => op_m (d := some _) hG rfl rfl rfl rfl kk) ?_
    | refine dl_cons rfl rfl (fun K kk => op_eqs (d := some _) hG rfl rfl rfl rfl kk) ?_ | refine dl_cons rfl rfl (fun K kk => op_nes (d := some _) hG rfl rfl rfl rfl kk) ?_ | refine dl_cons rfl rfl (fun K kk => op_beqs (d := some _) hG rfl rfl rfl rfl kk) ?_
    | refine dl_d rfl rfl (fun K kt kf => op_d (d := some _) hG rfl rfl rfl rfl kt kf) (fun h => ?_) (fun h => ?_) | refine dl_d rfl rfl (fun K kt kf => op_e (d := some _) hG rfl rfl rfl rfl kt kf) (fun h => ?_) (fun h => ?_) | refine dl_ne rfl rfl (fun K kt kf => op_ne (d := some _) hG rfl rfl rfl rfl kt kf) (fun h => ?_) (fun h => ?_) | refine dl_d rfl rfl (fun K kt kf => op_beq (d := some _) hG rfl rfl rfl rfl kt kf) (fun h => ?_) (fun h => ?_)
    | refine dl_cons rfl rfl (fun K kk => op_load (d := some _) hG rfl rfl (by assumption) (by exact rfl) rfl rfl kk) ?_ | refine dl_cons rfl rfl (fun K kk => op_q (d := some _) hG rfl rfl rfl kk) ?_
    | refine dl_s rfl rfl rfl ?_ | (refine dl_nil ?_; show AW _ _ _ _ _ _) | refine aw_draw mix rfl ?_)
  refine al_cons rfl (op_call (d := some _) rfl rfl rfl rfl rfl ?_)
  refine (qCost σ4 0 2 0 (.int .u8 0) .nilsl .nilsl .nilsl .nilsl (.int .i64 0) (.int .i64 0) .nilsl .nilsl _ [1] (by omega) (by decide)).dropped ?_
  repeat' (first
    | (refine al_cons rfl ?_; first
      | refine op_m (d := some _) hG rfl rfl rfl rfl ?_
      | refine op_eqs (d := some _) hG rfl rfl rfl rfl ?_ | refine op_nes (d := some _) hG rfl rfl rfl rfl ?_ | refine op_beqs (d := some _) hG rfl rfl rfl rfl ?_
      | refine op_d (d := some _) hG rfl rfl rfl rfl (fun h => ?_) (fun h => ?_) | refine op_e (d := some _) hG rfl rfl rfl rfl (fun h => ?_) (fun h => ?_) | refine op_ne (d := some _) hG rfl rfl rfl rfl (fun h => ?_) (fun h => ?_) | refine op_beq (d := some _) hG rfl rfl rfl rfl (fun h => ?_) (fun h => ?_)
      | refine op_rem (d := some _) hG rfl rfl rfl rfl rfl rfl (by omega) ?_ | refine op_shr (d := some _) hG rfl rfl rfl rfl rfl rfl (by omega) ?_ | refine op_w (d := some _) hG rfl rfl rfl rfl (by omega) ?_ | refine op_wu (d := some _) hG rfl rfl rfl rfl (by omega) ?_ | refine op_w16 (d := some _) hG rfl rfl rfl rfl (by omega) ?_ | refine op_w8 (d := some _) hG rfl rfl rfl rfl (by omega) ?_
      | refine op_load (d := some _) hG rfl rfl (by assumption) (by exact rfl) rfl rfl ?_ | refine op_q (d := some _) hG rfl rfl rfl ?_)
    | refine al_s (d := some _) rfl rfl rfl ?_ | (refine al_nil ?_; show AW _ _ _ _ _ _) | refine aw_seq ?_ | refine aw_regL ?_ | refine aw_if_t rfl ?_ | refine aw_if_f rfl ?_
    | (refine aw_skip ?_; show AW _ _ _ _ _ _) | refine aw_block ?_ | (refine aw_exit ?_; show AW _ _ _ _ _ _) | (refine aw_goto ?_; try dsimp only [thenA, inBlockA, jumpA, noGotoA]) | (refine aw_ret ?_; try dsimp only [thenA, inBlockA, jumpA, noGotoA])
    | refine dl_cons rfl rfl (fun K kk => op_m (d := some _) hG rfl rfl rfl rfl kk) ?_
    | refine dl_cons rfl rfl (fun K kk => op_eqs (d := some _) hG rfl rfl rfl rfl kk) ?_ | refine dl_cons rfl rfl (fun K kk => op_nes (d := some _) hG rfl rfl rfl rfl kk) ?_ | refine dl_cons rfl rfl (fun K kk => op_beqs (d := some _) hG rfl rfl rfl rfl kk) ?_
    | refine dl_d rfl rfl (fun K kt kf => op_d (d := some _) hG rfl rfl rfl rfl kt kf) (fun h => ?_) (fun h => ?_) | refine dl_d rfl rfl (fun K kt kf => op_e (d := some _) hG rfl rfl rfl rfl kt kf) (fun h => ?_) (fun h => ?_) | refine dl_ne rfl rfl (fun K kt kf => op_ne (d := some _) hG rfl rfl rfl rfl kt kf) (fun h => ?_) (fun h => ?_) | refine dl_d rfl rfl (fun K kt kf => op_beq (d := some _) hG rfl rfl rfl rfl kt kf) (fun h => ?_) (fun h => ?_)
    | refine dl_cons rfl rfl (fun K kk => op_load (d := some _) hG rfl rfl (by assumption) (by exact rfl) rfl rfl kk) ?_ | refine dl_cons rfl rfl (fun K kk => op_q (d := some _) hG rfl rfl rfl kk) ?_
    | refine dl_s rfl rfl rfl ?_ | (refine dl_nil ?_; show AW _ _ _ _ _ _) | refine aw_draw mix rfl ?_)
  all_goals try (exfalso; exact absurd rfl ‹¬ _›)
  refine al_cons rfl (op_call (d := some _) rfl rfl rfl rfl rfl ?_)
  refine (qSub σ4 0 1 9 9 2 (by omega) (by omega)).dropped ?_
  rw [show subE 9 2 = 7 by decide]
  repeat' (first
    | (refine al_cons rfl ?_; first
      | refine op_m (d := some _) hG rfl rfl rfl rfl ?_
      | refine op_eqs (d := some _) hG rfl rfl rfl rfl ?_ | refine op_nes (d := some _) hG rfl rfl rfl rfl ?_ | refine op_beqs (d := some _) hG rfl rfl rfl rfl ?_
      | refine op_d (d := some _) hG rfl rfl rfl rfl (fun h => ?_) (fun h => ?_) | refine op_e (d := some _) hG rfl rfl rfl rfl (fun h => ?_) (fun h => ?_) | refine op_ne (d := some _) hG rfl rfl rfl rfl (fun h => ?_) (fun h => ?_) | refine op_beq (d := some _) hG rfl rfl rfl rfl (fun h => ?_) (fun h => ?_)
      | refine op_rem (d := some _) hG rfl rfl rfl rfl rfl rfl (by omega) ?_ | refine op_shr (d := some _) hG rfl rfl rfl rfl rfl rfl (by omega) ?_ | refine op_w (d := some _) hG rfl rfl rfl rfl (by omega) ?_ | refine op_wu (d := some _) hG rfl rfl rfl rfl (by omega) ?_ | refine op_w16 (d := some _) hG rfl rfl rfl rfl (by omega) ?_ | refine op_w8 (d := some _) hG rfl rfl rfl rfl (by omega) ?_
      | refine op_load (d := some _) hG rfl rfl (by assumption) (by exact rfl) rfl rfl ?_ | refine op_q (d := some _) hG rfl rfl rfl ?_)
    | refine al_s (d := some _) rfl rfl rfl ?_ | (refine al_nil ?_; show AW _ _ _ _ _ _) | refine aw_seq ?_ | refine aw_regL ?_ | refine aw_if_t rfl ?_ | refine aw_if_f rfl ?_
    | (refine aw_skip ?_; show AW _ _ _ _ _ _) | refine aw_block ?_ | (refine aw_exit ?_; show AW _ _ _ _ _ _) | (refine aw_goto ?_; try dsimp only [thenA, inBlockA, jumpA, noGotoA]) | (refine aw_ret ?_; try dsimp only [thenA, inBlockA, jumpA, noGotoA])
    | refine dl_cons rfl rfl (fun K kk => op_m (d := some _) hG rfl rfl rfl rfl kk) ?_
    | refine dl_cons rfl rfl (fun K kk => op_eqs (d := some _) hG rfl rfl rfl rfl kk) ?_ | refine dl_cons rfl rfl (fun K kk => op_nes (d := some _) hG rfl rfl rfl rfl kk) ?_ | refine dl_cons rfl rfl (fun K kk => op_beqs (d := some _) hG rfl rfl rfl rfl kk) ?_
    | refine dl_d rfl rfl (fun K kt kf => op_d (d := some _) hG rfl rfl rfl rfl kt kf) (fun h => ?_) (fun h => ?_) | refine dl_d rfl rfl (fun K kt kf => op_e (d := some _) hG rfl rfl rfl rfl kt kf) (fun h => ?_) (fun h => ?_) | refine dl_ne rfl rfl (fun K kt kf => op_ne (d := some _) hG rfl rfl rfl rfl kt kf) (fun h => ?_) (fun h => ?_) | refine dl_d rfl rfl (fun K kt kf => op_beq (d := some _) hG rfl rfl rfl rfl kt kf) (fun h => ?_) (fun h => ?_)
    | refine dl_cons rfl rfl (fun K kk => op_load (d := some _) hG rfl rfl (by assumption) (by exact rfl) rfl rfl kk) ?_ | refine dl_cons rfl rfl (fun K kk => op_q (d := some _) hG rfl rfl rfl kk) ?_
    | refine dl_s rfl rfl rfl ?_ | (refine dl_nil ?_; show AW _ _ _ _ _ _) | refine aw_draw mix rfl ?_)
  · exact aw_ret' _ rfl (Wk.refl _) ⟨rfl, d04⟩
  all_goals exact absurd rfl ‹¬ _›
set_option maxHeartbeats 4000000 in
theorem quotaAll_any (σ : St) (id k q : Int) (lv ps s i o u nx cats ring : T) (data : List UInt8) (hd : data.length ≤ bigLen) (a b cost : Int) (ha : 0 ≤ a ∧ a < 65536) (hb : 0 ≤ b ∧ b < 65536) (hc : cost ≤ 9223372036854775807) :
    ACalls Try.prog 3 [oT (.int .u64 id) (.int .i64 k) lv ps s i o (.int .i64 q) u nx (.sl 1 none (data.map bT)) cats ring, .int .u16 a, .int .u16 b, .int .i64 cost] σ (fun r _ => r = .bool true) := by
  have hlm : (data.map bT).length = data.length := by simp
  refine acalls_mk hG Try.func3 rfl rfl rfl rfl rfl ?_
  repeat' (first
    | (refine al_cons rfl ?_; first
      | refine op_m (d := some _) hG rfl rfl rfl rfl ?_
      | refine op_eqs (d := some _) hG rfl rfl rfl rfl ?_ | refine op_nes (d := some _) hG rfl rfl rfl rfl ?_ | refine op_beqs (d := some _) hG rfl rfl rfl rfl ?_
      | refine op_d (d := some _) hG rfl rfl rfl rfl (fun h => ?_) (fun h => ?_) | refine op_e (d := some _) hG rfl rfl rfl rfl (fun h => ?_) (fun h => ?_) | refine op_ne (d := some _) hG rfl rfl rfl rfl (fun h => ?_) (fun h => ?_) | refine op_beq (d := some _) hG rfl rfl rfl rfl (fun h => ?_) (fun h => ?_)
      | refine op_rem (d := some _) hG rfl rfl rfl rfl rfl rfl (by omega) ?_ | refine op_shr (d := some _) hG rfl rfl rfl rfl rfl rfl (by omega) ?_ | refine op_w (d := some _) hG rfl rfl rfl rfl (by omega) ?_ | refine op_wu (d := some _) hG rfl rfl rfl rfl (by omega) ?_ | refine op_w16 (d := some _) hG rfl rfl rfl rfl (by omega) ?_ | refine op_w8 (d := some _) hG rfl rfl rfl rfl (by omega) ?_
      | refine op_load (d := some _) hG rfl rfl (by assumption) (by exact rfl) rfl rfl ?_ | refine op_q (d := some _) hG rfl rfl rfl ?_)
    | refine al_s (d := some _) rfl rfl rfl ?_ | (refine al_nil ?_; show AW _ _ _ _ _ _) | refine aw_seq ?_ | refine aw_regL ?_ | refine aw_if_t rfl ?_ | refine aw_if_f rfl ?_
    | (refine aw_skip ?_; show AW _ _ _ _ _ _) | refine aw_block ?_ | (refine aw_exit ?_; show AW _ _ _ _ _ _) | (refine aw_goto ?_; try dsimp only [thenA, inBlockA, jumpA, noGotoA]) | (refine aw_ret ?_; try dsimp only [thenA, inBlockA, jumpA, noGotoA])
    | refine dl_cons rfl rfl (fun K kk => op_m (d := some _) hG rfl rfl rfl rfl kk) ?_
    | refine dl_cons rfl rfl (fun K kk => op_eqs (d := some _) hG rfl rfl rfl rfl kk) ?_ | refine dl_cons rfl rfl (fun K kk => op_nes (d := some _) hG rfl rfl rfl rfl kk) ?_ | refine dl_cons rfl rfl (fun K kk => op_beqs (d := some _) hG rfl rfl rfl rfl kk) ?_
    | refine dl_d rfl rfl (fun K kt kf => op_d (d := some _) hG rfl rfl rfl rfl kt kf) (fun h => ?_) (fun h => ?_) | refine dl_d rfl rfl (fun K kt kf => op_e (d := some _) hG rfl rfl rfl rfl kt kf) (fun h => ?_) (fun h => ?_) | refine dl_ne rfl rfl (fun K kt kf => op_ne (d := some _) hG rfl rfl rfl rfl kt kf) (fun h => ?_) (fun h => ?_) | refine dl_d rfl rfl (fun K kt kf => op_beq (d := some _) hG rfl rfl rfl rfl kt kf) (fun h => ?_) (fun h => ?_)
    | refine dl_cons rfl rfl (fun K kk => op_load (d := some _) hG rfl rfl (by assumption) (by exact rfl) rfl rfl kk) ?_ | refine dl_cons rfl rfl (fun K kk => op_q (d := some _) hG rfl rfl rfl kk) ?_
    | refine dl_s rfl rfl rfl ?_ | (refine dl_nil ?_; show AW _ _ _ _ _ _) | refine aw_draw mix rfl ?_)
  refine al_cons rfl (op_box' (d := some _) hG rfl rfl rfl rfl rfl (fun b1 σ1 n1 o1 p1 d1 => ?_))
  repeat' (first
    | (refine al_cons rfl ?_; first
      | refine op_m (d := some _) hG rfl rfl rfl rfl ?_
      | refine op_eqs (d := some _) hG rfl rfl rfl rfl ?_ | refine op_nes (d := some _) hG rfl rfl rfl rfl ?_ | refine op_beqs (d := some _) hG rfl rfl rfl rfl ?_
      | refine op_d (d := some _) hG rfl rfl rfl rfl (fun h => ?_) (fun h => ?_) | refine op_e (d := some _) hG rfl rfl rfl rfl (fun h => ?_) (fun h => ?_) | refine op_ne (d := some _) hG rfl rfl rfl rfl (fun h => ?_) (fun h => ?_) | refine op_beq (d := some _) hG rfl rfl rfl rfl (fun h => ?_) (fun h => ?_)
      | refine op_rem (d := some _) hG rfl rfl rfl rfl rfl rfl (by omega) ?_ | refine op_shr (d := some _) hG rfl rfl rfl rfl rfl rfl (by omega) ?_ | refine op_w (d := some _) hG rfl rfl rfl rfl (by omega) ?_ | refine op_wu (d := some _) hG rfl rfl rfl rfl (by omega) ?_ | refine op_w16 (d := some _) hG rfl rfl rfl rfl (by omega) ?_ | refine op_w8 (d := some _) hG rfl rfl rfl rfl (by omega) ?_
      | refine op_load (d := some _) hG rfl rfl (by assumption) (by exact rfl) rfl rfl ?_ | refine op_q (d := some _) hG rfl rfl rfl ?_)
    | refine al_s (d := some _) rfl rfl rfl ?_ | (refine al_nil ?_; show AW _ _ _ _ _ _) | refine aw_seq ?_ | refine aw_regL ?_ | refine aw_if_t rfl ?_ | refine aw_if_f rfl ?_
    | (refine aw_skip ?_; show AW _ _ _ _ _ _) | refine aw_block ?_ | (refine aw_exit ?_; show AW _ _ _ _ _ _) | (refine aw_goto ?_; try dsimp only [thenA, inBlockA, jumpA, noGotoA]) | (refine aw_ret ?_; try dsimp only [thenA, inBlockA, jumpA, noGotoA])
    | refine dl_cons rfl rfl (fun K kk => op_m (d := some _) hG rfl rfl rfl rfl kk) ?_
    | refine dl_cons rfl rfl (fun K kk => op_eqs (d := some _) hG rfl rfl rfl rfl kk) ?_ | refine dl_cons rfl rfl (fun K kk => op_nes (d := some _) hG rfl rfl rfl rfl kk) ?_ | refine dl_cons rfl rfl (fun K kk => op_beqs (d := some _) hG rfl rfl rfl rfl kk) ?_
    | refine dl_d rfl rfl (fun K kt kf => op_d (d := some _) hG rfl rfl rfl rfl kt kf) (fun h => ?_) (fun h => ?_) | refine dl_d rfl rfl (fun K kt kf => op_e (d := some _) hG rfl rfl rfl rfl kt kf) (fun h => ?_) (fun h => ?_) | refine dl_ne rfl rfl (fun K kt kf => op_ne (d := some _) hG rfl rfl rfl rfl kt kf) (fun h => ?_) (fun h => ?_) | refine dl_d rfl rfl (fun K kt kf => op_beq (d := some _) hG rfl rfl rfl rfl kt kf) (fun h => ?_) (fun h => ?_)
    | refine dl_cons rfl rfl (fun K kk => op_load (d := some _) hG rfl rfl (by assumption) (by exact rfl) rfl rfl kk) ?_ | refine dl_cons rfl rfl (fun K kk => op_q (d := some _) hG rfl rfl rfl kk) ?_
    | refine dl_s rfl rfl rfl ?_ | (refine dl_nil ?_; show AW _ _ _ _ _ _) | refine aw_draw mix rfl ?_)
  refine al_cons rfl (op_call (d := some _) rfl rfl rfl rfl rfl ?_)
  refine (q_begun σ1).dropped ?_
  repeat' (first
    | (refine al_cons rfl ?_; first
      | refine op_m (d := some _) hG rfl rfl rfl rfl ?_
      | refine op_eqs (d := some _) hG rfl rfl rfl rfl ?_ | refine op_nes (d := some _) hG rfl rfl rfl rfl ?_ | refine op_beqs (d := some _) hG rfl rfl rfl rfl ?_
      | refine op_d (d := some _) hG rfl rfl rfl rfl (fun h => ?_) (fun h => ?_) | refine op_e (d := some _) hG rfl rfl rfl rfl (fun h => ?_) (fun h => ?_) | refine op_ne (d := some _) hG rfl rfl rfl rfl (fun h => ?_) (fun h => ?_) | refine op_beq (d := some _) hG rfl rfl rfl rfl (fun h => ?_) (fun h => ?_)
      | refine op_rem (d := some _) hG rfl rfl rfl rfl rfl rfl (by omega) ?_ | refine op_shr (d := some _) hG rfl rfl rfl rfl rfl rfl (by omega) ?_ | refine op_w (d := some _) hG rfl rfl rfl rfl (by omega) ?_ | refine op_wu (d := some _) hG rfl rfl rfl rfl (by omega) ?_ | refine op_w16 (d := some _) hG rfl rfl rfl rfl (by omega) ?_ | refine op_w8 (d := some _) hG rfl rfl rfl rfl (by omega) ?_
      | refine op_load (d := some _) hG rfl rfl (by assumption) (by exact rfl) rfl rfl ?_ | refine op_q (d := some _) hG rfl rfl rfl ?_)
    | refine al_s (d := some _) rfl rfl rfl ?_ | (refine al_nil ?_; show AW _ _ _ _ _ _) | refine aw_seq ?_ | refine aw_regL ?_ | refine aw_if_t rfl ?_ | refine aw_if_f rfl ?_
    | (refine aw_skip ?_; show AW _ _ _ _ _ _) | refine aw_block ?_ | (refine aw_exit ?_; show AW _ _ _ _ _ _) | (refine aw_goto ?_; try dsimp only [thenA, inBlockA, jumpA, noGotoA]) | (refine aw_ret ?_; try dsimp only [thenA, inBlockA, jumpA, noGotoA])
    | refine dl_cons rfl rfl (fun K kk => op_m (d := some _) hG rfl rfl rfl rfl kk) ?_
    | refine dl_cons rfl rfl (fun K kk => op_eqs (d := some _) hG rfl rfl rfl rfl kk) ?_ | refine dl_cons rfl rfl (fun K kk => op_nes (d := some _) hG rfl rfl rfl rfl kk) ?_ | refine dl_cons rfl rfl (fun K kk => op_beqs (d := some _) hG rfl rfl rfl rfl kk) ?_
    | refine dl_d rfl rfl (fun K kt kf => op_d (d := some _) hG rfl rfl rfl rfl kt kf) (fun h => ?_) (fun h => ?_) | refine dl_d rfl rfl (fun K kt kf => op_e (d := some _) hG rfl rfl rfl rfl kt kf) (fun h => ?_) (fun h => ?_) | refine dl_ne rfl rfl (fun K kt kf => op_ne (d := some _) hG rfl rfl rfl rfl kt kf) (fun h => ?_) (fun h => ?_) | refine dl_d rfl rfl (fun K kt kf => op_beq (d := some _) hG rfl rfl rfl rfl kt kf) (fun h => ?_) (fun h => ?_)
    | refine dl_cons rfl rfl (fun K kk => op_load (d := some _) hG rfl rfl (by assumption) (by exact rfl) rfl rfl kk) ?_ | refine dl_cons rfl rfl (fun K kk => op_q (d := some _) hG rfl rfl rfl kk) ?_
    | refine dl_s rfl rfl rfl ?_ | (refine dl_nil ?_; show AW _ _ _ _ _ _) | refine aw_draw mix rfl ?_)
  · exact retA_true rfl
  · exact retA_true rfl
  · exact retA_true rfl
  refine al_cons rfl (op_build (d := some _) hG rfl rfl rfl rfl rfl rfl rfl ?_)
  repeat' (first
    | (refine al_cons rfl ?_; first
      | refine op_m (d := some _) hG rfl rfl rfl rfl ?_
      | refine op_eqs (d := some _) hG rfl rfl rfl rfl ?_ | refine op_nes (d := some _) hG rfl rfl rfl rfl ?_ | refine op_beqs (d := some _) hG rfl rfl rfl rfl ?_
      | refine op_d (d := some _) hG rfl rfl rfl rfl (fun h => ?_) (fun h => ?_) | refine op_e (d := some _) hG rfl rfl rfl rfl (fun h => ?_) (fun h => ?_) | refine op_ne (d := some _) hG rfl rfl rfl rfl (fun h => ?_) (fun h => ?_) | refine op_beq (d := some _) hG rfl rfl rfl rfl (fun h => ?_) (fun h => ?_)
      | refine op_rem (d := some _) hG rfl rfl rfl rfl rfl rfl (by omega) ?_ | refine op_shr (d := some _) hG rfl rfl rfl rfl rfl rfl (by omega) ?_ | refine op_w (d := some _) hG rfl rfl rfl rfl (by omega) ?_ | refine op_wu (d := some _) hG rfl rfl rfl rfl (by omega) ?_ | refine op_w16 (d := some _) hG rfl rfl rfl rfl (by omega) ?_ | refine op_w8 (d := some _) hG rfl rfl rfl rfl (by omega) ?_
      | refine op_load (d := some _) hG rfl rfl (by assumption) (by exact rfl) rfl rfl ?_ | refine op_q (d := some _) hG rfl rfl rfl ?_)
    | refine al_s (d := some _) rfl rfl rfl ?_ | (refine al_nil ?_; show AW _ _ _ _ _ _) | refine aw_seq ?_ | refine aw_regL ?_ | refine aw_if_t rfl ?_ | refine aw_if_f rfl ?_
    | (refine aw_skip ?_; show AW _ _ _ _ _ _) | refine aw_block ?_ | (refine aw_exit ?_; show AW _ _ _ _ _ _) | (refine aw_goto ?_; try dsimp only [thenA, inBlockA, jumpA, noGotoA]) | (refine aw_ret ?_; try dsimp only [thenA, inBlockA, jumpA, noGotoA])
    | refine dl_cons rfl rfl (fun K kk => op_m (d := some _) hG rfl rfl rfl rfl kk) ?_
    | refine dl_cons rfl rfl (fun K kk => op_eqs (d := some _) hG rfl rfl rfl rfl kk) ?_ | refine dl_cons rfl rfl (fun K kk => op_nes (d := some _) hG rfl rfl rfl rfl kk) ?_ | refine dl_cons rfl rfl (fun K kk => op_beqs (d := some _) hG rfl rfl rfl rfl kk) ?_
    | refine dl_d rfl rfl (fun K kt kf => op_d (d := some _) hG rfl rfl rfl rfl kt kf) (fun h => ?_) (fun h => ?_) | refine dl_d rfl rfl (fun K kt kf => op_e (d := some _) hG rfl rfl rfl rfl kt kf) (fun h => ?_) (fun h => ?_) | refine dl_ne rfl rfl (fun K kt kf => op_ne (d := some _) hG rfl rfl rfl rfl kt kf) (fun h => ?_) (fun h => ?_) | refine dl_d rfl rfl (fun K kt kf => op_beq (d := some _) hG rfl rfl rfl rfl kt kf) (fun h => ?_) (fun h => ?_)
    | refine dl_cons rfl rfl (fun K kk => op_load (d := some _) hG rfl rfl (by assumption) (by exact rfl) rfl rfl kk) ?_ | refine dl_cons rfl rfl (fun K kk => op_q (d := some _) hG rfl rfl rfl kk) ?_
    | refine dl_s rfl rfl rfl ?_ | (refine dl_nil ?_; show AW _ _ _ _ _ _) | refine aw_draw mix rfl ?_)
  refine al_cons rfl (op_alloc' (d := some _) hG rfl rfl rfl rfl (fun b2 σ2 n2 o2 p2 d2 => ?_))
  have o12 := p2 _ _ o1
  repeat' (first
    | (refine al_cons rfl ?_; first
      | refine op_m (d := some _) hG rfl rfl rfl rfl ?_
      | refine op_eqs (d := some _) hG rfl rfl rfl rfl ?_ | refine op_nes (d := some _) hG rfl rfl rfl rfl ?_ | refine op_beqs (d := some _) hG rfl rfl rfl rfl ?_
      | refine op_d (d := some _) hG rfl rfl rfl rfl (fun h => ?_) (fun h => ?_) | refine op_e (d := some _) hG rfl rfl rfl rfl (fun h => ?_) (fun h => ?_) | refine op_ne (d := some _) hG rfl rfl rfl rfl (fun h => ?_) (fun h => ?_) | refine op_beq (d := some _) hG rfl rfl rfl rfl (fun h => ?_) (fun h => ?_)
      | refine op_rem (d := some _) hG rfl rfl rfl rfl rfl rfl (by omega) ?_ | refine op_shr (d := some _) hG rfl rfl rfl rfl rfl rfl (by omega) ?_ | refine op_w (d := some _) hG rfl rfl rfl rfl (by omega) ?_ | refine op_wu (d := some _) hG rfl rfl rfl rfl (by omega) ?_ | refine op_w16 (d := some _) hG rfl rfl rfl rfl (by omega) ?_ | refine op_w8 (d := some _) hG rfl rfl rfl rfl (by omega) ?_
      | refine op_load (d := some _) hG rfl rfl (by assumption) (by exact rfl) rfl rfl ?_ | refine op_q (d := some _) hG rfl rfl rfl ?_)
    | refine al_s (d := some _) rfl rfl rfl ?_ | (refine al_nil ?_; show AW _ _ _ _ _ _) | refine aw_seq ?_ | refine aw_regL ?_ | refine aw_if_t rfl ?_ | refine aw_if_f rfl ?_
    | (refine aw_skip ?_; show AW _ _ _ _ _ _) | refine aw_block ?_ | (refine aw_exit ?_; show AW _ _ _ _ _ _) | (refine aw_goto ?_; try dsimp only [thenA, inBlockA, jumpA, noGotoA]) | (refine aw_ret ?_; try dsimp only [thenA, inBlockA, jumpA, noGotoA])
    | refine dl_cons rfl rfl (fun K kk => op_m (d := some _) hG rfl rfl rfl rfl kk) ?_
    | refine dl_cons rfl rfl (fun K kk => op_eqs (d := some _) hG rfl rfl rfl rfl kk) ?_ | refine dl_cons rfl rfl (fun K kk => op_nes (d := some _) hG rfl rfl rfl rfl kk) ?_ | refine dl_cons rfl rfl (fun K kk => op_beqs (d := some _) hG rfl rfl rfl rfl kk) ?_
    | refine dl_d rfl rfl (fun K kt kf => op_d (d := some _) hG rfl rfl rfl rfl kt kf) (fun h => ?_) (fun h => ?_) | refine dl_d rfl rfl (fun K kt kf => op_e (d := some _) hG rfl rfl rfl rfl kt kf) (fun h => ?_) (fun h => ?_) | refine dl_ne rfl rfl (fun K kt kf => op_ne (d := some _) hG rfl rfl rfl rfl kt kf) (fun h => ?_) (fun h => ?_) | refine dl_d rfl rfl (fun K kt kf => op_beq (d := some _) hG rfl rfl rfl rfl kt kf) (fun h => ?_) (fun h => ?_)
    | refine dl_cons rfl rfl (fun K kk => op_load (d := some _) hG rfl rfl (by assumption) (by exact rfl) rfl rfl kk) ?_ | refine dl_cons rfl rfl (fun K kk => op_q (d := some _) hG rfl rfl rfl kk) ?_
    | refine dl_s rfl rfl rfl ?_ | (refine dl_nil ?_; show AW _ _ _ _ _ _) | refine aw_draw mix rfl ?_)
  have hQ : 0 ≤ a % 401 ∧ a % 401 < 401 := by omega
  generalize a % 401 = Q at hQ
  refine al_cons rfl (op_store' hG rfl rfl rfl (by assumption) (by exact rfl) (by exact rfl) (by exact rfl) (by exact rfl) rfl (fun σ3 o3 p3 d3 => ?_))
  have ne12 : b1 ≠ b2 := by intro e; subst e; rw [o1] at n2; cases n2
  replace o12 := (p3 _ ne12).trans o12
  replace d2 := d3 σ1 n2 d2
  replace o3 : σ3.objs b2 = some (.cells (objB 1 1 Q 0).cells) := o3
  clear p3 d3 p2 o2
  repeat' (first
    | (refine al_cons rfl ?_; first
      | refine op_m (d := some _) hG rfl rfl rfl rfl ?_
      | refine op_eqs (d := some _) hG rfl rfl rfl rfl ?_ | refine op_nes (d := some _) hG rfl rfl rfl rfl ?_ | refine op_beqs (d := some _) hG rfl rfl rfl rfl ?_
      | refine op_d (d := some _) hG rfl rfl rfl rfl (fun h => ?_) (fun h => ?_) | refine op_e (d := some _) hG rfl rfl rfl rfl (fun h => ?_) (fun h => ?_) | refine op_ne (d := some _) hG rfl rfl rfl rfl (fun h => ?_) (fun h => ?_) | refine op_beq (d := some _) hG rfl rfl rfl rfl (fun h => ?_) (fun h => ?_)
      | refine op_rem (d := some _) hG rfl rfl rfl rfl rfl rfl (by omega) ?_ | refine op_shr (d := some _) hG rfl rfl rfl rfl rfl rfl (by omega) ?_ | refine op_w (d := some _) hG rfl rfl rfl rfl (by omega) ?_ | refine op_wu (d := some _) hG rfl rfl rfl rfl (by omega) ?_ | refine op_w16 (d := some _) hG rfl rfl rfl rfl (by omega) ?_ | refine op_w8 (d := some _) hG rfl rfl rfl rfl (by omega) ?_
      | refine op_load (d := some _) hG rfl rfl (by assumption) (by exact rfl) rfl rfl ?_ | refine op_q (d := some _) hG rfl rfl rfl ?_)
    | refine al_s (d := some _) rfl rfl rfl ?_ | (refine al_nil ?_; show AW _ _ _ _ _ _) | refine aw_seq ?_ | refine aw_regL ?_ | refine aw_if_t rfl ?_ | refine aw_if_f rfl ?_
    | (refine aw_skip ?_; show AW _ _ _ _ _ _) | refine aw_block ?_ | (refine aw_exit ?_; show AW _ _ _ _ _ _) | (refine aw_goto ?_; try dsimp only [thenA, inBlockA, jumpA, noGotoA]) | (refine aw_ret ?_; try dsimp only [thenA, inBlockA, jumpA, noGotoA])
    | refine dl_cons rfl rfl (fun K kk => op_m (d := some _) hG rfl rfl rfl rfl kk) ?_
    | refine dl_cons rfl rfl (fun K kk => op_eqs (d := some _) hG rfl rfl rfl rfl kk) ?_ | refine dl_cons rfl rfl (fun K kk => op_nes (d := some _) hG rfl rfl rfl rfl kk) ?_ | refine dl_cons rfl rfl (fun K kk => op_beqs (d := some _) hG rfl rfl rfl rfl kk) ?_
    | refine dl_d rfl rfl (fun K kt kf => op_d (d := some _) hG rfl rfl rfl rfl kt kf) (fun h => ?_) (fun h => ?_) | refine dl_d rfl rfl (fun K kt kf => op_e (d := some _) hG rfl rfl rfl rfl kt kf) (fun h => ?_) (fun h => ?_) | refine dl_ne rfl rfl (fun K kt kf => op_ne (d := some _) hG rfl rfl rfl rfl kt kf) (fun h => ?_) (fun h => ?_) | refine dl_d rfl rfl (fun K kt kf => op_beq (d := some _) hG rfl rfl rfl rfl kt kf) (fun h => ?_) (fun h => ?_)
    | refine dl_cons rfl rfl (fun K kk => op_load (d := some _) hG rfl rfl (by assumption) (by exact rfl) rfl rfl kk) ?_ | refine dl_cons rfl rfl (fun K kk => op_q (d := some _) hG rfl rfl rfl kk) ?_
    | refine dl_s rfl rfl rfl ?_ | (refine dl_nil ?_; show AW _ _ _ _ _ _) | refine aw_draw mix rfl ?_)
  have hU : 0 ≤ b % (Q + 1) ∧ b % (Q + 1) ≤ Q := ⟨Int.emod_nonneg _ (by omega), by have := Int.emod_lt_of_pos b (show 0 < Q + 1 by omega); omega⟩
  generalize b % (Q + 1) = U at hU
  refine al_cons rfl (op_store' hG rfl rfl rfl (by assumption) (by exact rfl) (by exact rfl) (by exact rfl) (by exact rfl) rfl (fun σ4 o4 p4 d4 => ?_))
  replace o12 := (p4 _ ne12).trans o12
  replace d2 := d4 σ1 n2 d2
  replace o4 : σ4.objs b2 = some (.cells (objB 1 1 Q U).cells) := o4
  clear p4 d4 o3
  repeat' (first
    | (refine al_cons rfl ?_; first
      | refine op_m (d := some _) hG rfl rfl rfl rfl ?_
      | refine op_eqs (d := some _) hG rfl rfl rfl rfl ?_ | refine op_nes (d := some _) hG rfl rfl rfl rfl ?_ | refine op_beqs (d := some _) hG rfl rfl rfl rfl ?_
      | refine op_d (d := some _) hG rfl rfl rfl rfl (fun h => ?_) (fun h => ?_) | refine op_e (d := some _) hG rfl rfl rfl rfl (fun h => ?_) (fun h => ?_) | refine op_ne (d := some _) hG rfl rfl rfl rfl (fun h => ?_) (fun h => ?_) | refine op_beq (d := some _) hG rfl rfl rfl rfl (fun h => ?_) (fun h => ?_)
      | refine op_rem (d := some _) hG rfl rfl rfl rfl rfl rfl (by omega) ?_ | refine op_shr (d := some _) hG rfl rfl rfl rfl rfl rfl (by omega) ?_ | refine op_w (d := some _) hG rfl rfl rfl rfl (by omega) ?_ | refine op_wu (d := some _) hG rfl rfl rfl rfl (by omega) ?_ | refine op_w16 (d := some _) hG rfl rfl rfl rfl (by omega) ?_ | refine op_w8 (d := some _) hG rfl rfl rfl rfl (by omega) ?_
      | refine op_load (d := some _) hG rfl rfl (by assumption) (by exact rfl) rfl rfl ?_ | refine op_q (d := some _) hG rfl rfl rfl ?_)
    | refine al_s (d := some _) rfl rfl rfl ?_ | (refine al_nil ?_; show AW _ _ _ _ _ _) | refine aw_seq ?_ | refine aw_regL ?_ | refine aw_if_t rfl ?_ | refine aw_if_f rfl ?_
    | (refine aw_skip ?_; show AW _ _ _ _ _ _) | refine aw_block ?_ | (refine aw_exit ?_; show AW _ _ _ _ _ _) | (refine aw_goto ?_; try dsimp only [thenA, inBlockA, jumpA, noGotoA]) | (refine aw_ret ?_; try dsimp only [thenA, inBlockA, jumpA, noGotoA])
    | refine dl_cons rfl rfl (fun K kk => op_m (d := some _) hG rfl rfl rfl rfl kk) ?_
    | refine dl_cons rfl rfl (fun K kk => op_eqs (d := some _) hG rfl rfl rfl rfl kk) ?_ | refine dl_cons rfl rfl (fun K kk => op_nes (d := some _) hG rfl rfl rfl rfl kk) ?_ | refine dl_cons rfl rfl (fun K kk => op_beqs (d := some _) hG rfl rfl rfl rfl kk) ?_
    | refine dl_d rfl rfl (fun K kt kf => op_d (d := some _) hG rfl rfl rfl rfl kt kf) (fun h => ?_) (fun h => ?_) | refine dl_d rfl rfl (fun K kt kf => op_e (d := some _) hG rfl rfl rfl rfl kt kf) (fun h => ?_) (fun h => ?_) | refine dl_ne rfl rfl (fun K kt kf => op_ne (d := some _) hG rfl rfl rfl rfl kt kf) (fun h => ?_) (fun h => ?_) | refine dl_d rfl rfl (fun K kt kf => op_beq (d := some _) hG rfl rfl rfl rfl kt kf) (fun h => ?_) (fun h => ?_)
    | refine dl_cons rfl rfl (fun K kk => op_load (d := some _) hG rfl rfl (by assumption) (by exact rfl) rfl rfl kk) ?_ | refine dl_cons rfl rfl (fun K kk => op_q (d := some _) hG rfl rfl rfl kk) ?_
    | refine dl_s rfl rfl rfl ?_ | (refine dl_nil ?_; show AW _ _ _ _ _ _) | refine aw_draw mix rfl ?_)
  refine al_cons rfl (op_call (d := some _) rfl rfl rfl rfl rfl ?_)
  refine (qAdd σ4 1 1 Q U cost (by omega) (by omega)).dropped ?_
  obtain ⟨i', k', q', u', e', hE⟩ : ∃ i' k' q' u' e', addE 1 1 Q U cost = (objB i' k' q' u', e') := by
    unfold addE; split
    · exact ⟨_, _, _, _, _, rfl⟩
    · split <;> exact ⟨_, _, _, _, _, rfl⟩
  rw [hE]
  dsimp only
  repeat' (first
    | (refine al_cons rfl ?_; first
      | refine op_m (d := some _) hG rfl rfl rfl rfl ?_
      | refine op_eqs (d := some _) hG rfl rfl rfl rfl ?_ | refine op_nes (d := some _) hG rfl rfl rfl rfl ?_ | refine op_beqs (d := some _) hG rfl rfl rfl rfl ?_
      | refine op_d (d := some _) hG rfl rfl rfl rfl (fun h => ?_) (fun h => ?_) | refine op_e (d := some _) hG rfl rfl rfl rfl (fun h => ?_) (fun h => ?_) | refine op_ne (d := some _) hG rfl rfl rfl rfl (fun h => ?_) (fun h => ?_) | refine op_beq (d := some _) hG rfl rfl rfl rfl (fun h => ?_) (fun h => ?_)
      | refine op_rem (d := some _) hG rfl rfl rfl rfl rfl rfl (by omega) ?_ | refine op_shr (d := some _) hG rfl rfl rfl rfl rfl rfl (by omega) ?_ | refine op_w (d := some _) hG rfl rfl rfl rfl (by omega) ?_ | refine op_wu (d := some _) hG rfl rfl rfl rfl (by omega) ?_ | refine op_w16 (d := some _) hG rfl rfl rfl rfl (by omega) ?_ | refine op_w8 (d := some _) hG rfl rfl rfl rfl (by omega) ?_
      | refine op_load (d := some _) hG rfl rfl (by assumption) (by exact rfl) rfl rfl ?_ | refine op_q (d := some _) hG rfl rfl rfl ?_)
    | refine al_s (d := some _) rfl rfl rfl ?_ | (refine al_nil ?_; show AW _ _ _ _ _ _) | refine aw_seq ?_ | refine aw_regL ?_ | refine aw_if_t rfl ?_ | refine aw_if_f rfl ?_
    | (refine aw_skip ?_; show AW _ _ _ _ _ _) | refine aw_block ?_ | (refine aw_exit ?_; show AW _ _ _ _ _ _) | (refine aw_goto ?_; try dsimp only [thenA, inBlockA, jumpA, noGotoA]) | (refine aw_ret ?_; try dsimp only [thenA, inBlockA, jumpA, noGotoA])
    | refine dl_cons rfl rfl (fun K kk => op_m (d := some _) hG rfl rfl rfl rfl kk) ?_
    | refine dl_cons rfl rfl (fun K kk => op_eqs (d := some _) hG rfl rfl rfl rfl kk) ?_ | refine dl_cons rfl rfl (fun K kk => op_nes (d := some _) hG rfl rfl rfl rfl kk) ?_ | refine dl_cons rfl rfl (fun K kk => op_beqs (d := some _) hG rfl rfl rfl rfl kk) ?_
    | refine dl_d rfl rfl (fun K kt kf => op_d (d := some _) hG rfl rfl rfl rfl kt kf) (fun h => ?_) (fun h => ?_) | refine dl_d rfl rfl (fun K kt kf => op_e (d := some _) hG rfl rfl rfl rfl kt kf) (fun h => ?_) (fun h => ?_) | refine dl_ne rfl rfl (fun K kt kf => op_ne (d := some _) hG rfl rfl rfl rfl kt kf) (fun h => ?_) (fun h => ?_) | refine dl_d rfl rfl (fun K kt kf => op_beq (d := some _) hG rfl rfl rfl rfl kt kf) (fun h => ?_) (fun h => ?_)
    | refine dl_cons rfl rfl (fun K kk => op_load (d := some _) hG rfl rfl (by assumption) (by exact rfl) rfl rfl kk) ?_ | refine dl_cons rfl rfl (fun K kk => op_q (d := some _) hG rfl rfl rfl kk) ?_
    | refine dl_s rfl rfl rfl ?_ | (refine dl_nil ?_; show AW _ _ _ _ _ _) | refine aw_draw mix rfl ?_)
  refine al_cons rfl (op_alloc' (d := some _) hG rfl rfl rfl rfl (fun b5 σ5 n5 o5 p5 d5 => ?_))
  have ne15 : b1 ≠ b5 := by intro e; subst e; rw [o12] at n5; cases n5
  have ne25 : b2 ≠ b5 := by intro e; subst e; rw [o4] at n5; cases n5
  replace o12 := p5 _ _ o12
  replace o4 := p5 _ _ o4
  repeat' (first
    | (refine al_cons rfl ?_; first
      | refine op_m (d := some _) hG rfl rfl rfl rfl ?_
      | refine op_eqs (d := some _) hG rfl rfl rfl rfl ?_ | refine op_nes (d := some _) hG rfl rfl rfl rfl ?_ | refine op_beqs (d := some _) hG rfl rfl rfl rfl ?_
      | refine op_d (d := some _) hG rfl rfl rfl rfl (fun h => ?_) (fun h => ?_) | refine op_e (d := some _) hG rfl rfl rfl rfl (fun h => ?_) (fun h => ?_) | refine op_ne (d := some _) hG rfl rfl rfl rfl (fun h => ?_) (fun h => ?_) | refine op_beq (d := some _) hG rfl rfl rfl rfl (fun h => ?_) (fun h => ?_)
      | refine op_rem (d := some _) hG rfl rfl rfl rfl rfl rfl (by omega) ?_ | refine op_shr (d := some _) hG rfl rfl rfl rfl rfl rfl (by omega) ?_ | refine op_w (d := some _) hG rfl rfl rfl rfl (by omega) ?_ | refine op_wu (d := some _) hG rfl rfl rfl rfl (by omega) ?_ | refine op_w16 (d := some _) hG rfl rfl rfl rfl (by omega) ?_ | refine op_w8 (d := some _) hG rfl rfl rfl rfl (by omega) ?_
      | refine op_load (d := some _) hG rfl rfl (by assumption) (by exact rfl) rfl rfl ?_ | refine op_q (d := some _) hG rfl rfl rfl ?_)
    | refine al_s (d := some _) rfl rfl rfl ?_ | (refine al_nil ?_; show AW _ _ _ _ _ _) | refine aw_seq ?_ | refine aw_regL ?_ | refine aw_if_t rfl ?_ | refine aw_if_f rfl ?_
    | (refine aw_skip ?_; show AW _ _ _ _ _ _) | refine aw_block ?_ | (refine aw_exit ?_; show AW _ _ _ _ _ _) | (refine aw_goto ?_; try dsimp only [thenA, inBlockA, jumpA, noGotoA]) | (refine aw_ret ?_; try dsimp only [thenA, inBlockA, jumpA, noGotoA])
    | refine dl_cons rfl rfl (fun K kk => op_m (d := some _) hG rfl rfl rfl rfl kk) ?_
    | refine dl_cons rfl rfl (fun K kk => op_eqs (d := some _) hG rfl rfl rfl rfl kk) ?_ | refine dl_cons rfl rfl (fun K kk => op_nes (d := some _) hG rfl rfl rfl rfl kk) ?_ | refine dl_cons rfl rfl (fun K kk => op_beqs (d := some _) hG rfl rfl rfl rfl kk) ?_
    | refine dl_d rfl rfl (fun K kt kf => op_d (d := some _) hG rfl rfl rfl rfl kt kf) (fun h => ?_) (fun h => ?_) | refine dl_d rfl rfl (fun K kt kf => op_e (d := some _) hG rfl rfl rfl rfl kt kf) (fun h => ?_) (fun h => ?_) | refine dl_ne rfl rfl (fun K kt kf => op_ne (d := some _) hG rfl rfl rfl rfl kt kf) (fun h => ?_) (fun h => ?_) | refine dl_d rfl rfl (fun K kt kf => op_beq (d := some _) hG rfl rfl rfl rfl kt kf) (fun h => ?_) (fun h => ?_)
    | refine dl_cons rfl rfl (fun K kk => op_load (d := some _) hG rfl rfl (by assumption) (by exact rfl) rfl rfl kk) ?_ | refine dl_cons rfl rfl (fun K kk => op_q (d := some _) hG rfl rfl rfl kk) ?_
    | refine dl_s rfl rfl rfl ?_ | (refine dl_nil ?_; show AW _ _ _ _ _ _) | refine aw_draw mix rfl ?_)
  refine al_cons rfl (op_store' hG rfl rfl rfl (by assumption) (by exact rfl) (by exact rfl) (by exact rfl) (by exact rfl) rfl (fun σ6 o6 p6 d6 => ?_))
  replace o12 := (p6 _ ne15).trans o12
  replace o4 := (p6 _ ne25).trans o4
  replace o6 : σ6.objs b5 = some (.cells (objB i' k' q' u').cells) := o6
  clear p6 o5 p5
  repeat' (first
    | (refine al_cons rfl ?_; first
      | refine op_m (d := some _) hG rfl rfl rfl rfl ?_
      | refine op_eqs (d := some _) hG rfl rfl rfl rfl ?_ | refine op_nes (d := some _) hG rfl rfl rfl rfl ?_ | refine op_beqs (d := some _) hG rfl rfl rfl rfl ?_
      | refine op_d (d := some _) hG rfl rfl rfl rfl (fun h => ?_) (fun h => ?_) | refine op_e (d := some _) hG rfl rfl rfl rfl (fun h => ?_) (fun h => ?_) | refine op_ne (d := some _) hG rfl rfl rfl rfl (fun h => ?_) (fun h => ?_) | refine op_beq (d := some _) hG rfl rfl rfl rfl (fun h => ?_) (fun h => ?_)
      | refine op_rem (d := some _) hG rfl rfl rfl rfl rfl rfl (by omega) ?_ | refine op_shr (d := some _) hG rfl rfl rfl rfl rfl rfl (by omega) ?_ | refine op_w (d := some _) hG rfl rfl rfl rfl (by omega) ?_ | refine op_wu (d := some _) hG rfl rfl rfl rfl (by omega) ?_ | refine op_w16 (d := some _) hG rfl rfl rfl rfl (by omega) ?_ | refine op_w8 (d := some _) hG rfl rfl rfl rfl (by omega) ?_
      | refine op_load (d := some _) hG rfl rfl (by assumption) (by exact rfl) rfl rfl ?_ | refine op_q (d := some _) hG rfl rfl rfl ?_)
    | refine al_s (d := some _) rfl rfl rfl ?_ | (refine al_nil ?_; show AW _ _ _ _ _ _) | refine aw_seq ?_ | refine aw_regL ?_ | refine aw_if_t rfl ?_ | refine aw_if_f rfl ?_
    | (refine aw_skip ?_; show AW _ _ _ _ _ _) | refine aw_block ?_ | (refine aw_exit ?_; show AW _ _ _ _ _ _) | (refine aw_goto ?_; try dsimp only [thenA, inBlockA, jumpA, noGotoA]) | (refine aw_ret ?_; try dsimp only [thenA, inBlockA, jumpA, noGotoA])
    | refine dl_cons rfl rfl (fun K kk => op_m (d := some _) hG rfl rfl rfl rfl kk) ?_
    | refine dl_cons rfl rfl (fun K kk => op_eqs (d := some _) hG rfl rfl rfl rfl kk) ?_ | refine dl_cons rfl rfl (fun K kk => op_nes (d := some _) hG rfl rfl rfl rfl kk) ?_ | refine dl_cons rfl rfl (fun K kk => op_beqs (d := some _) hG rfl rfl rfl rfl kk) ?_
    | refine dl_d rfl rfl (fun K kt kf => op_d (d := some _) hG rfl rfl rfl rfl kt kf) (fun h => ?_) (fun h => ?_) | refine dl_d rfl rfl (fun K kt kf => op_e (d := some _) hG rfl rfl rfl rfl kt kf) (fun h => ?_) (fun h => ?_) | refine dl_ne rfl rfl (fun K kt kf => op_ne (d := some _) hG rfl rfl rfl rfl kt kf) (fun h => ?_) (fun h => ?_) | refine dl_d rfl rfl (fun K kt kf => op_beq (d := some _) hG rfl rfl rfl rfl kt kf) (fun h => ?_) (fun h => ?_)
    | refine dl_cons rfl rfl (fun K kk => op_load (d := some _) hG rfl rfl (by assumption) (by exact rfl) rfl rfl kk) ?_ | refine dl_cons rfl rfl (fun K kk => op_q (d := some _) hG rfl rfl rfl kk) ?_
    | refine dl_s rfl rfl rfl ?_ | (refine dl_nil ?_; show AW _ _ _ _ _ _) | refine aw_draw mix rfl ?_)
  refine al_cons rfl (op_call (d := some _) rfl rfl rfl rfl rfl ?_)
  refine (rAdd σ6 1 1 Q U cost (by omega) (by omega)).dropped ?_
  rw [hE]
  dsimp only
  repeat' (first
    | (refine al_cons rfl ?_; first
      | refine op_m (d := some _) hG rfl rfl rfl rfl ?_
      | refine op_eqs (d := some _) hG rfl rfl rfl rfl ?_ | refine op_nes (d := some _) hG rfl rfl rfl rfl ?_ | refine op_beqs (d := some _) hG rfl rfl rfl rfl ?_
      | refine op_d (d := some _) hG rfl rfl rfl rfl (fun h => ?_) (fun h => ?_) | refine op_e (d := some _) hG rfl rfl rfl rfl (fun h => ?_) (fun h => ?_) | refine op_ne (d := some _) hG rfl rfl rfl rfl (fun h => ?_) (fun h => ?_) | refine op_beq (d := some _) hG rfl rfl rfl rfl (fun h => ?_) (fun h => ?_)
      | refine op_rem (d := some _) hG rfl rfl rfl rfl rfl rfl (by omega) ?_ | refine op_shr (d := some _) hG rfl rfl rfl rfl rfl rfl (by omega) ?_ | refine op_w (d := some _) hG rfl rfl rfl rfl (by omega) ?_ | refine op_wu (d := some _) hG rfl rfl rfl rfl (by omega) ?_ | refine op_w16 (d := some _) hG rfl rfl rfl rfl (by omega) ?_ | refine op_w8 (d := some _) hG rfl rfl rfl rfl (by omega) ?_
      | refine op_load (d := some _) hG rfl rfl (by assumption) (by exact rfl) rfl rfl ?_ | refine op_q (d := some _) hG rfl rfl rfl ?_)
    | refine al_s (d := some _) rfl rfl rfl ?_ | (refine al_nil ?_; show AW _ _ _ _ _ _) | refine aw_seq ?_ | refine aw_regL ?_ | refine aw_if_t rfl ?_ | refine aw_if_f rfl ?_
    | (refine aw_skip ?_; show AW _ _ _ _ _ _) | refine aw_block ?_ | (refine aw_exit ?_; show AW _ _ _ _ _ _) | (refine aw_goto ?_; try dsimp only [thenA, inBlockA, jumpA, noGotoA]) | (refine aw_ret ?_; try dsimp only [thenA, inBlockA, jumpA, noGotoA])
    | refine dl_cons rfl rfl (fun K kk => op_m (d := some _) hG rfl rfl rfl rfl kk) ?_
    | refine dl_cons rfl rfl (fun K kk => op_eqs (d := some _) hG rfl rfl rfl rfl kk) ?_ | refine dl_cons rfl rfl (fun K kk => op_nes (d := some _) hG rfl rfl rfl rfl kk) ?_ | refine dl_cons rfl rfl (fun K kk => op_beqs (d := some _) hG rfl rfl rfl rfl kk) ?_
    | refine dl_d rfl rfl (fun K kt kf => op_d (d := some _) hG rfl rfl rfl rfl kt kf) (fun h => ?_) (fun h => ?_) | refine dl_d rfl rfl (fun K kt kf => op_e (d := some _) hG rfl rfl rfl rfl kt kf) (fun h => ?_) (fun h => ?_) | refine dl_ne rfl rfl (fun K kt kf => op_ne (d := some _) hG rfl rfl rfl rfl kt kf) (fun h => ?_) (fun h => ?_) | refine dl_d rfl rfl (fun K kt kf => op_beq (d := some _) hG rfl rfl rfl rfl kt kf) (fun h => ?_) (fun h => ?_)
    | refine dl_cons rfl rfl (fun K kk => op_load (d := some _) hG rfl rfl (by assumption) (by exact rfl) rfl rfl kk) ?_ | refine dl_cons rfl rfl (fun K kk => op_q (d := some _) hG rfl rfl rfl kk) ?_
    | refine dl_s rfl rfl rfl ?_ | (refine dl_nil ?_; show AW _ _ _ _ _ _) | refine aw_draw mix rfl ?_)
  refine al_cons rfl (op_alloc' (d := some _) hG rfl rfl rfl rfl (fun b7 σ7 n7 o7 p7 d7 => ?_))
  have ne17 : b1 ≠ b7 := by intro e; subst e; rw [o12] at n7; cases n7
  have ne27 : b2 ≠ b7 := by intro e; subst e; rw [o4] at n7; cases n7
  have ne57 : b5 ≠ b7 := by intro e; subst e; rw [o6] at n7; cases n7
  replace o12 := p7 _ _ o12
  replace o4 := p7 _ _ o4
  replace o6 := p7 _ _ o6
  repeat' (first
    | (refine al_cons rfl ?_; first
      | refine op_m (d := some _) hG rfl rfl rfl rfl ?_
      | refine op_eqs (d := some _) hG rfl rfl rfl rfl ?_ | refine op_nes (d := some _) hG rfl rfl rfl rfl ?_ | refine op_beqs (d := some _) hG rfl rfl rfl rfl ?_
      | refine op_d (d := some _) hG rfl rfl rfl rfl (fun h => ?_) (fun h => ?_) | refine op_e (d := some _) hG rfl rfl rfl rfl (fun h => ?_) (fun h => ?_) | refine op_ne (d := some _) hG rfl rfl rfl rfl (fun h => ?_) (fun h => ?_) | refine op_beq (d := some _) hG rfl rfl rfl rfl (fun h => ?_) (fun h => ?_)
      | refine op_rem (d := some _) hG rfl rfl rfl rfl rfl rfl (by omega) ?_ | refine op_shr (d := some _) hG rfl rfl rfl rfl rfl rfl (by omega) ?_ | refine op_w (d := some _) hG rfl rfl rfl rfl (by omega) ?_ | refine op_wu (d := some _) hG rfl rfl rfl rfl (by omega) ?_ | refine op_w16 (d := some _) hG rfl rfl rfl rfl (by omega) ?_ | refine op_w8 (d := some _) hG rfl rfl rfl rfl (by omega) ?_
      | refine op_load (d := some _) hG rfl rfl (by assumption) (by exact rfl) rfl rfl ?_ | refine op_q (d := some _) hG rfl rfl rfl ?_)
    | refine al_s (d := some _) rfl rfl rfl ?_ | (refine al_nil ?_; show AW _ _ _ _ _ _) | refine aw_seq ?_ | refine aw_regL ?_ | refine aw_if_t rfl ?_ | refine aw_if_f rfl ?_
    | (refine aw_skip ?_; show AW _ _ _ _ _ _) | refine aw_block ?_ | (refine aw_exit ?_; show AW _ _ _ _ _ _) | (refine aw_goto ?_; try dsimp only [thenA, inBlockA, jumpA, noGotoA]) | (refine aw_ret ?_; try dsimp only [thenA, inBlockA, jumpA, noGotoA])
    | refine dl_cons rfl rfl (fun K kk => op_m (d := some _) hG rfl rfl rfl rfl kk) ?_
    | refine dl_cons rfl rfl (fun K kk => op_eqs (d := some _) hG rfl rfl rfl rfl kk) ?_ | refine dl_cons rfl rfl (fun K kk => op_nes (d := some _) hG rfl rfl rfl rfl kk) ?_ | refine dl_cons rfl rfl (fun K kk => op_beqs (d := some _) hG rfl rfl rfl rfl kk) ?_
    | refine dl_d rfl rfl (fun K kt kf => op_d (d := some _) hG rfl rfl rfl rfl kt kf) (fun h => ?_) (fun h => ?_) | refine dl_d rfl rfl (fun K kt kf => op_e (d := some _) hG rfl rfl rfl rfl kt kf) (fun h => ?_) (fun h => ?_) | refine dl_ne rfl rfl (fun K kt kf => op_ne (d := some _) hG rfl rfl rfl rfl kt kf) (fun h => ?_) (fun h => ?_) | refine dl_d rfl rfl (fun K kt kf => op_beq (d := some _) hG rfl rfl rfl rfl kt kf) (fun h => ?_) (fun h => ?_)
    | refine dl_cons rfl rfl (fun K kk => op_load (d := some _) hG rfl rfl (by assumption) (by exact rfl) rfl rfl kk) ?_ | refine dl_cons rfl rfl (fun K kk => op_q (d := some _) hG rfl rfl rfl kk) ?_
    | refine dl_s rfl rfl rfl ?_ | (refine dl_nil ?_; show AW _ _ _ _ _ _) | refine aw_draw mix rfl ?_)
  refine al_cons rfl (op_store' hG rfl rfl rfl (by assumption) (by exact rfl) (by exact rfl) (by exact rfl) (by exact rfl) rfl (fun σ8 o8 p8 d8 => ?_))
  replace o12 := (p8 _ ne17).trans o12
  replace o4 := (p8 _ ne27).trans o4
  replace o6 := (p8 _ ne57).trans o6
  replace o8 : σ8.objs b7 = some (.cells (objB i' k' q' u').cells) := o8
  clear p8 o7 p7
  repeat' (first
    | (refine al_cons rfl ?_; first
      | refine op_m (d := some _) hG rfl rfl rfl rfl ?_
      | refine op_eqs (d := some _) hG rfl rfl rfl rfl ?_ | refine op_nes (d := some _) hG rfl rfl rfl rfl ?_ | refine op_beqs (d := some _) hG rfl rfl rfl rfl ?_
      | refine op_d (d := some _) hG rfl rfl rfl rfl (fun h => ?_) (fun h => ?_) | refine op_e (d := some _) hG rfl rfl rfl rfl (fun h => ?_) (fun h => ?_) | refine op_ne (d := some _) hG rfl rfl rfl rfl (fun h => ?_) (fun h => ?_) | refine op_beq (d := some _) hG rfl rfl rfl rfl (fun h => ?_) (fun h => ?_)
      | refine op_rem (d := some _) hG rfl rfl rfl rfl rfl rfl (by omega) ?_ | refine op_shr (d := some _) hG rfl rfl rfl rfl rfl rfl (by omega) ?_ | refine op_w (d := some _) hG rfl rfl rfl rfl (by omega) ?_ | refine op_wu (d := some _) hG rfl rfl rfl rfl (by omega) ?_ | refine op_w16 (d := some _) hG rfl rfl rfl rfl (by omega) ?_ | refine op_w8 (d := some _) hG rfl rfl rfl rfl (by omega) ?_
      | refine op_load (d := some _) hG rfl rfl (by assumption) (by exact rfl) rfl rfl ?_ | refine op_q (d := some _) hG rfl rfl rfl ?_)
    | refine al_s (d := some _) rfl rfl rfl ?_ | (refine al_nil ?_; show AW _ _ _ _ _ _) | refine aw_seq ?_ | refine aw_regL ?_ | refine aw_if_t rfl ?_ | refine aw_if_f rfl ?_
    | (refine aw_skip ?_; show AW _ _ _ _ _ _) | refine aw_block ?_ | (refine aw_exit ?_; show AW _ _ _ _ _ _) | (refine aw_goto ?_; try dsimp only [thenA, inBlockA, jumpA, noGotoA]) | (refine aw_ret ?_; try dsimp only [thenA, inBlockA, jumpA, noGotoA])
    | refine dl_cons rfl rfl (fun K kk => op_m (d := some _) hG rfl rfl rfl rfl kk) ?_
    | refine dl_cons rfl rfl (fun K kk => op_eqs (d := some _) hG rfl rfl rfl rfl kk) ?_ | refine dl_cons rfl rfl (fun K kk => op_nes (d := some _) hG rfl rfl rfl rfl kk) ?_ | refine dl_cons rfl rfl (fun K kk => op_beqs (d := some _) hG rfl rfl rfl rfl kk) ?_
    | refine dl_d rfl rfl (fun K kt kf => op_d (d := some _) hG rfl rfl rfl rfl kt kf) (fun h => ?_) (fun h => ?_) | refine dl_d rfl rfl (fun K kt kf => op_e (d := some _) hG rfl rfl rfl rfl kt kf) (fun h => ?_) (fun h => ?_) | refine dl_ne rfl rfl (fun K kt kf => op_ne (d := some _) hG rfl rfl rfl rfl kt kf) (fun h => ?_) (fun h => ?_) | refine dl_d rfl rfl (fun K kt kf => op_beq (d := some _) hG rfl rfl rfl rfl kt kf) (fun h => ?_) (fun h => ?_)
    | refine dl_cons rfl rfl (fun K kk => op_load (d := some _) hG rfl rfl (by assumption) (by exact rfl) rfl rfl kk) ?_ | refine dl_cons rfl rfl (fun K kk => op_q (d := some _) hG rfl rfl rfl kk) ?_
    | refine dl_s rfl rfl rfl ?_ | (refine dl_nil ?_; show AW _ _ _ _ _ _) | refine aw_draw mix rfl ?_)
  refine dl_cons rfl rfl (fun K kk => op_call (d := some _) rfl rfl rfl rfl rfl ((qCost σ8 id k q lv ps s i o u nx cats ring _ data (by omega) hd).dropped kk)) ?_
  repeat' (first
    | (refine al_cons rfl ?_; first
      | refine op_m (d := some _) hG rfl rfl rfl rfl ?_
      | refine op_eqs (d := some _) hG rfl rfl rfl rfl ?_ | refine op_nes (d := some _) hG rfl rfl rfl rfl ?_ | refine op_beqs (d := some _) hG rfl rfl rfl rfl ?_
      | refine op_d (d := some _) hG rfl rfl rfl rfl (fun h => ?_) (fun h => ?_) | refine op_e (d := some _) hG rfl rfl rfl rfl (fun h => ?_) (fun h => ?_) | refine op_ne (d := some _) hG rfl rfl rfl rfl (fun h => ?_) (fun h => ?_) | refine op_beq (d := some _) hG rfl rfl rfl rfl (fun h => ?_) (fun h => ?_)
      | refine op_rem (d := some _) hG rfl rfl rfl rfl rfl rfl (by omega) ?_ | refine op_shr (d := some _) hG rfl rfl rfl rfl rfl rfl (by omega) ?_ | refine op_w (d := some _) hG rfl rfl rfl rfl (by omega) ?_ | refine op_wu (d := some _) hG rfl rfl rfl rfl (by omega) ?_ | refine op_w16 (d := some _) hG rfl rfl rfl rfl (by omega) ?_ | refine op_w8 (d := some _) hG rfl rfl rfl rfl (by omega) ?_
      | refine op_load (d := some _) hG rfl rfl (by assumption) (by exact rfl) rfl rfl ?_ | refine op_q (d := some _) hG rfl rfl rfl ?_)
    | refine al_s (d := some _) rfl rfl rfl ?_ | (refine al_nil ?_; show AW _ _ _ _ _ _) | refine aw_seq ?_ | refine aw_regL ?_ | refine aw_if_t rfl ?_ | refine aw_if_f rfl ?_
    | (refine aw_skip ?_; show AW _ _ _ _ _ _) | refine aw_block ?_ | (refine aw_exit ?_; show AW _ _ _ _ _ _) | (refine aw_goto ?_; try dsimp only [thenA, inBlockA, jumpA, noGotoA]) | (refine aw_ret ?_; try dsimp only [thenA, inBlockA, jumpA, noGotoA])
    | refine dl_cons rfl rfl (fun K kk => op_m (d := some _) hG rfl rfl rfl rfl kk) ?_
    | refine dl_cons rfl rfl (fun K kk => op_eqs (d := some _) hG rfl rfl rfl rfl kk) ?_ | refine dl_cons rfl rfl (fun K kk => op_nes (d := some _) hG rfl rfl rfl rfl kk) ?_ | refine dl_cons rfl rfl (fun K kk => op_beqs (d := some _) hG rfl rfl rfl rfl kk) ?_
    | refine dl_d rfl rfl (fun K kt kf => op_d (d := some _) hG rfl rfl rfl rfl kt kf) (fun h => ?_) (fun h => ?_) | refine dl_d rfl rfl (fun K kt kf => op_e (d := some _) hG rfl rfl rfl rfl kt kf) (fun h => ?_) (fun h => ?_) | refine dl_ne rfl rfl (fun K kt kf => op_ne (d := some _) hG rfl rfl rfl rfl kt kf) (fun h => ?_) (fun h => ?_) | refine dl_d rfl rfl (fun K kt kf => op_beq (d := some _) hG rfl rfl rfl rfl kt kf) (fun h => ?_) (fun h => ?_)
    | refine dl_cons rfl rfl (fun K kk => op_load (d := some _) hG rfl rfl (by assumption) (by exact rfl) rfl rfl kk) ?_ | refine dl_cons rfl rfl (fun K kk => op_q (d := some _) hG rfl rfl rfl kk) ?_
    | refine dl_s rfl rfl rfl ?_ | (refine dl_nil ?_; show AW _ _ _ _ _ _) | refine aw_draw mix rfl ?_)
  refine dl_cons rfl rfl (fun K kk => op_call (d := some _) rfl rfl rfl rfl rfl ((rCost σ8 id k q lv ps s i o u nx cats ring _ data (by omega) hd).dropped kk)) ?_
  repeat' (first
    | (refine al_cons rfl ?_; first
      | refine op_m (d := some _) hG rfl rfl rfl rfl ?_
      | refine op_eqs (d := some _) hG rfl rfl rfl rfl ?_ | refine op_nes (d := some _) hG rfl rfl rfl rfl ?_ | refine op_beqs (d := some _) hG rfl rfl rfl rfl ?_
      | refine op_d (d := some _) hG rfl rfl rfl rfl (fun h => ?_) (fun h => ?_) | refine op_e (d := some _) hG rfl rfl rfl rfl (fun h => ?_) (fun h => ?_) | refine op_ne (d := some _) hG rfl rfl rfl rfl (fun h => ?_) (fun h => ?_) | refine op_beq (d := some _) hG rfl rfl rfl rfl (fun h => ?_) (fun h => ?_)
      | refine op_rem (d := some _) hG rfl rfl rfl rfl rfl rfl (by omega) ?_ | refine op_shr (d := some _) hG rfl rfl rfl rfl rfl rfl (by omega) ?_ | refine op_w (d := some _) hG rfl rfl rfl rfl (by omega) ?_ | refine op_wu (d := some _) hG rfl rfl rfl rfl (by omega) ?_ | refine op_w16 (d := some _) hG rfl rfl rfl rfl (by omega) ?_ | refine op_w8 (d := some _) hG rfl rfl rfl rfl (by omega) ?_
      | refine op_load (d := some _) hG rfl rfl (by assumption) (by exact rfl) rfl rfl ?_ | refine op_q (d := some _) hG rfl rfl rfl ?_)
    | refine al_s (d := some _) rfl rfl rfl ?_ | (refine al_nil ?_; show AW _ _ _ _ _ _) | refine aw_seq ?_ | refine aw_regL ?_ | refine aw_if_t rfl ?_ | refine aw_if_f rfl ?_
    | (refine aw_skip ?_; show AW _ _ _ _ _ _) | refine aw_block ?_ | (refine aw_exit ?_; show AW _ _ _ _ _ _) | (refine aw_goto ?_; try dsimp only [thenA, inBlockA, jumpA, noGotoA]) | (refine aw_ret ?_; try dsimp only [thenA, inBlockA, jumpA, noGotoA])
    | refine dl_cons rfl rfl (fun K kk => op_m (d := some _) hG rfl rfl rfl rfl kk) ?_
    | refine dl_cons rfl rfl (fun K kk => op_eqs (d := some _) hG rfl rfl rfl rfl kk) ?_ | refine dl_cons rfl rfl (fun K kk => op_nes (d := some _) hG rfl rfl rfl rfl kk) ?_ | refine dl_cons rfl rfl (fun K kk => op_beqs (d := some _) hG rfl rfl rfl rfl kk) ?_
    | refine dl_d rfl rfl (fun K kt kf => op_d (d := some _) hG rfl rfl rfl rfl kt kf) (fun h => ?_) (fun h => ?_) | refine dl_d rfl rfl (fun K kt kf => op_e (d := some _) hG rfl rfl rfl rfl kt kf) (fun h => ?_) (fun h => ?_) | refine dl_ne rfl rfl (fun K kt kf => op_ne (d := some _) hG rfl rfl rfl rfl kt kf) (fun h => ?_) (fun h => ?_) | refine dl_d rfl rfl (fun K kt kf => op_beq (d := some _) hG rfl rfl rfl rfl kt kf) (fun h => ?_) (fun h => ?_)
    | refine dl_cons rfl rfl (fun K kk => op_load (d := some _) hG rfl rfl (by assumption) (by exact rfl) rfl rfl kk) ?_ | refine dl_cons rfl rfl (fun K kk => op_q (d := some _) hG rfl rfl rfl kk) ?_
    | refine dl_s rfl rfl rfl ?_ | (refine dl_nil ?_; show AW _ _ _ _ _ _) | refine aw_draw mix rfl ?_)
  refine dl_cons rfl rfl (fun K kk => op_call (d := some _) rfl rfl rfl rfl rfl ((sameObj0 σ8 i' k' q' u' 0).dropped kk)) ?_
  repeat' (first
    | (refine al_cons rfl ?_; first
      | refine op_m (d := some _) hG rfl rfl rfl rfl ?_
      | refine op_eqs (d := some _) hG rfl rfl rfl rfl ?_ | refine op_nes (d := some _) hG rfl rfl rfl rfl ?_ | refine op_beqs (d := some _) hG rfl rfl rfl rfl ?_
      | refine op_d (d := some _) hG rfl rfl rfl rfl (fun h => ?_) (fun h => ?_) | refine op_e (d := some _) hG rfl rfl rfl rfl (fun h => ?_) (fun h => ?_) | refine op_ne (d := some _) hG rfl rfl rfl rfl (fun h => ?_) (fun h => ?_) | refine op_beq (d := some _) hG rfl rfl rfl rfl (fun h => ?_) (fun h => ?_)
      | refine op_rem (d := some _) hG rfl rfl rfl rfl rfl rfl (by omega) ?_ | refine op_shr (d := some _) hG rfl rfl rfl rfl rfl rfl (by omega) ?_ | refine op_w (d := some _) hG rfl rfl rfl rfl (by omega) ?_ | refine op_wu (d := some _) hG rfl rfl rfl rfl (by omega) ?_ | refine op_w16 (d := some _) hG rfl rfl rfl rfl (by omega) ?_ | refine op_w8 (d := some _) hG rfl rfl rfl rfl (by omega) ?_
      | refine op_load (d := some _) hG rfl rfl (by assumption) (by exact rfl) rfl rfl ?_ | refine op_q (d := some _) hG rfl rfl rfl ?_)
    | refine al_s (d := some _) rfl rfl rfl ?_ | (refine al_nil ?_; show AW _ _ _ _ _ _) | refine aw_seq ?_ | refine aw_regL ?_ | refine aw_if_t rfl ?_ | refine aw_if_f rfl ?_
    | (refine aw_skip ?_; show AW _ _ _ _ _ _) | refine aw_block ?_ | (refine aw_exit ?_; show AW _ _ _ _ _ _) | (refine aw_goto ?_; try dsimp only [thenA, inBlockA, jumpA, noGotoA]) | (refine aw_ret ?_; try dsimp only [thenA, inBlockA, jumpA, noGotoA])
    | refine dl_cons rfl rfl (fun K kk => op_m (d := some _) hG rfl rfl rfl rfl kk) ?_
    | refine dl_cons rfl rfl (fun K kk => op_eqs (d := some _) hG rfl rfl rfl rfl kk) ?_ | refine dl_cons rfl rfl (fun K kk => op_nes (d := some _) hG rfl rfl rfl rfl kk) ?_ | refine dl_cons rfl rfl (fun K kk => op_beqs (d := some _) hG rfl rfl rfl rfl kk) ?_
    | refine dl_d rfl rfl (fun K kt kf => op_d (d := some _) hG rfl rfl rfl rfl kt kf) (fun h => ?_) (fun h => ?_) | refine dl_d rfl rfl (fun K kt kf => op_e (d := some _) hG rfl rfl rfl rfl kt kf) (fun h => ?_) (fun h => ?_) | refine dl_ne rfl rfl (fun K kt kf => op_ne (d := some _) hG rfl rfl rfl rfl kt kf) (fun h => ?_) (fun h => ?_) | refine dl_d rfl rfl (fun K kt kf => op_beq (d := some _) hG rfl rfl rfl rfl kt kf) (fun h => ?_) (fun h => ?_)
    | refine dl_cons rfl rfl (fun K kk => op_load (d := some _) hG rfl rfl (by assumption) (by exact rfl) rfl rfl kk) ?_ | refine dl_cons rfl rfl (fun K kk => op_q (d := some _) hG rfl rfl rfl kk) ?_
    | refine dl_s rfl rfl rfl ?_ | (refine dl_nil ?_; show AW _ _ _ _ _ _) | refine aw_draw mix rfl ?_)
  refine dl_cons rfl rfl (fun K kk => op_call (d := some _) rfl rfl rfl rfl rfl ((qSub σ8 1 1 Q U cost (by omega) (by omega)).dropped kk)) ?_
  repeat' (first
    | (refine al_cons rfl ?_; first
      | refine op_m (d := some _) hG rfl rfl rfl rfl ?_
      | refine op_eqs (d := some _) hG rfl rfl rfl rfl ?_ | refine op_nes (d := some _) hG rfl rfl rfl rfl ?_ | refine op_beqs (d := some _) hG rfl rfl rfl rfl ?_
      | refine op_d (d := some _) hG rfl rfl rfl rfl (fun h => ?_) (fun h => ?_) | refine op_e (d := some _) hG rfl rfl rfl rfl (fun h => ?_) (fun h => ?_) | refine op_ne (d := some _) hG rfl rfl rfl rfl (fun h => ?_) (fun h => ?_) | refine op_beq (d := some _) hG rfl rfl rfl rfl (fun h => ?_) (fun h => ?_)
      | refine op_rem (d := some _) hG rfl rfl rfl rfl rfl rfl (by omega) ?_ | refine op_shr (d := some _) hG rfl rfl rfl rfl rfl rfl (by omega) ?_ | refine op_w (d := some _) hG rfl rfl rfl rfl (by omega) ?_ | refine op_wu (d := some _) hG rfl rfl rfl rfl (by omega) ?_ | refine op_w16 (d := some _) hG rfl rfl rfl rfl (by omega) ?_ | refine op_w8 (d := some _) hG rfl rfl rfl rfl (by omega) ?_
      | refine op_load (d := some _) hG rfl rfl (by assumption) (by exact rfl) rfl rfl ?_ | refine op_q (d := some _) hG rfl rfl rfl ?_)
    | refine al_s (d := some _) rfl rfl rfl ?_ | (refine al_nil ?_; show AW _ _ _ _ _ _) | refine aw_seq ?_ | refine aw_regL ?_ | refine aw_if_t rfl ?_ | refine aw_if_f rfl ?_
    | (refine aw_skip ?_; show AW _ _ _ _ _ _) | refine aw_block ?_ | (refine aw_exit ?_; show AW _ _ _ _ _ _) | (refine aw_goto ?_; try dsimp only [thenA, inBlockA, jumpA, noGotoA]) | (refine aw_ret ?_; try dsimp only [thenA, inBlockA, jumpA, noGotoA])
    | refine dl_cons rfl rfl (fun K kk => op_m (d := some _) hG rfl rfl rfl rfl kk) ?_
    | refine dl_cons rfl rfl (fun K kk => op_eqs (d := some _) hG rfl rfl rfl rfl kk) ?_ | refine dl_cons rfl rfl (fun K kk => op_nes (d := some _) hG rfl rfl rfl rfl kk) ?_ | refine dl_cons rfl rfl (fun K kk => op_beqs (d := some _) hG rfl rfl rfl rfl kk) ?_
    | refine dl_d rfl rfl (fun K kt kf => op_d (d := some _) hG rfl rfl rfl rfl kt kf) (fun h => ?_) (fun h => ?_) | refine dl_d rfl rfl (fun K kt kf => op_e (d := some _) hG rfl rfl rfl rfl kt kf) (fun h => ?_) (fun h => ?_) | refine dl_ne rfl rfl (fun K kt kf => op_ne (d := some _) hG rfl rfl rfl rfl kt kf) (fun h => ?_) (fun h => ?_) | refine dl_d rfl rfl (fun K kt kf => op_beq (d := some _) hG rfl rfl rfl rfl kt kf) (fun h => ?_) (fun h => ?_)
    | refine dl_cons rfl rfl (fun K kk => op_load (d := some _) hG rfl rfl (by assumption) (by exact rfl) rfl rfl kk) ?_ | refine dl_cons rfl rfl (fun K kk => op_q (d := some _) hG rfl rfl rfl kk) ?_
    | refine dl_s rfl rfl rfl ?_ | (refine dl_nil ?_; show AW _ _ _ _ _ _) | refine aw_draw mix rfl ?_)
  refine dl_cons rfl rfl (fun K kk => op_call (d := some _) rfl rfl rfl rfl rfl ((rSub σ8 1 1 Q U cost (by omega) (by omega)).dropped kk)) ?_
  repeat' (first
    | (refine al_cons rfl ?_; first
      | refine op_m (d := some _) hG rfl rfl rfl rfl ?_
      | refine op_eqs (d := some _) hG rfl rfl rfl rfl ?_ | refine op_nes (d := some _) hG rfl rfl rfl rfl ?_ | refine op_beqs (d := some _) hG rfl rfl rfl rfl ?_
      | refine op_d (d := some _) hG rfl rfl rfl rfl (fun h => ?_) (fun h => ?_) | refine op_e (d := some _) hG rfl rfl rfl rfl (fun h => ?_) (fun h => ?_) | refine op_ne (d := some _) hG rfl rfl rfl rfl (fun h => ?_) (fun h => ?_) | refine op_beq (d := some _) hG rfl rfl rfl rfl (fun h => ?_) (fun h => ?_)
      | refine op_rem (d := some _) hG rfl rfl rfl rfl rfl rfl (by omega) ?_ | refine op_shr (d := some _) hG rfl rfl rfl rfl rfl rfl (by omega) ?_ | refine op_w (d := some _) hG rfl rfl rfl rfl (by omega) ?_ | refine op_wu (d := some _) hG rfl rfl rfl rfl (by omega) ?_ | refine op_w16 (d := some _) hG rfl rfl rfl rfl (by omega) ?_ | refine op_w8 (d := some _) hG rfl rfl rfl rfl (by omega) ?_
      | refine op_load (d := some _) hG rfl rfl (by assumption) (by exact rfl) rfl rfl ?_ | refine op_q (d := some _) hG rfl rfl rfl ?_)
    | refine al_s (d := some _) rfl rfl rfl ?_ | (refine al_nil ?_; show AW _ _ _ _ _ _) | refine aw_seq ?_ | refine aw_regL ?_ | refine aw_if_t rfl ?_ | refine aw_if_f rfl ?_
    | (refine aw_skip ?_; show AW _ _ _ _ _ _) | refine aw_block ?_ | (refine aw_exit ?_; show AW _ _ _ _ _ _) | (refine aw_goto ?_; try dsimp only [thenA, inBlockA, jumpA, noGotoA]) | (refine aw_ret ?_; try dsimp only [thenA, inBlockA, jumpA, noGotoA])
    | refine dl_cons rfl rfl (fun K kk => op_m (d := some _) hG rfl rfl rfl rfl kk) ?_
    | refine dl_cons rfl rfl (fun K kk => op_eqs (d := some _) hG rfl rfl rfl rfl kk) ?_ | refine dl_cons rfl rfl (fun K kk => op_nes (d := some _) hG rfl rfl rfl rfl kk) ?_ | refine dl_cons rfl rfl (fun K kk => op_beqs (d := some _) hG rfl rfl rfl rfl kk) ?_
    | refine dl_d rfl rfl (fun K kt kf => op_d (d := some _) hG rfl rfl rfl rfl kt kf) (fun h => ?_) (fun h => ?_) | refine dl_d rfl rfl (fun K kt kf => op_e (d := some _) hG rfl rfl rfl rfl kt kf) (fun h => ?_) (fun h => ?_) | refine dl_ne rfl rfl (fun K kt kf => op_ne (d := some _) hG rfl rfl rfl rfl kt kf) (fun h => ?_) (fun h => ?_) | refine dl_d rfl rfl (fun K kt kf => op_beq (d := some _) hG rfl rfl rfl rfl kt kf) (fun h => ?_) (fun h => ?_)
    | refine dl_cons rfl rfl (fun K kk => op_load (d := some _) hG rfl rfl (by assumption) (by exact rfl) rfl rfl kk) ?_ | refine dl_cons rfl rfl (fun K kk => op_q (d := some _) hG rfl rfl rfl kk) ?_
    | refine dl_s rfl rfl rfl ?_ | (refine dl_nil ?_; show AW _ _ _ _ _ _) | refine aw_draw mix rfl ?_)
  refine dl_cons rfl rfl (fun K kk => op_call (d := some _) rfl rfl rfl rfl rfl ((sameObj0 σ8 1 1 Q (subE U cost) 0).dropped kk)) ?_
  repeat' (first
    | (refine al_cons rfl ?_; first
      | refine op_m (d := some _) hG rfl rfl rfl rfl ?_
      | refine op_eqs (d := some _) hG rfl rfl rfl rfl ?_ | refine op_nes (d := some _) hG rfl rfl rfl rfl ?_ | refine op_beqs (d := some _) hG rfl rfl rfl rfl ?_
      | refine op_d (d := some _) hG rfl rfl rfl rfl (fun h => ?_) (fun h => ?_) | refine op_e (d := some _) hG rfl rfl rfl rfl (fun h => ?_) (fun h => ?_) | refine op_ne (d := some _) hG rfl rfl rfl rfl (fun h => ?_) (fun h => ?_) | refine op_beq (d := some _) hG rfl rfl rfl rfl (fun h => ?_) (fun h => ?_)
      | refine op_rem (d := some _) hG rfl rfl rfl rfl rfl rfl (by omega) ?_ | refine op_shr (d := some _) hG rfl rfl rfl rfl rfl rfl (by omega) ?_ | refine op_w (d := some _) hG rfl rfl rfl rfl (by omega) ?_ | refine op_wu (d := some _) hG rfl rfl rfl rfl (by omega) ?_ | refine op_w16 (d := some _) hG rfl rfl rfl rfl (by omega) ?_ | refine op_w8 (d := some _) hG rfl rfl rfl rfl (by omega) ?_
      | refine op_load (d := some _) hG rfl rfl (by assumption) (by exact rfl) rfl rfl ?_ | refine op_q (d := some _) hG rfl rfl rfl ?_)
    | refine al_s (d := some _) rfl rfl rfl ?_ | (refine al_nil ?_; show AW _ _ _ _ _ _) | refine aw_seq ?_ | refine aw_regL ?_ | refine aw_if_t rfl ?_ | refine aw_if_f rfl ?_
    | (refine aw_skip ?_; show AW _ _ _ _ _ _) | refine aw_block ?_ | (refine aw_exit ?_; show AW _ _ _ _ _ _) | (refine aw_goto ?_; try dsimp only [thenA, inBlockA, jumpA, noGotoA]) | (refine aw_ret ?_; try dsimp only [thenA, inBlockA, jumpA, noGotoA])
    | refine dl_cons rfl rfl (fun K kk => op_m (d := some _) hG rfl rfl rfl rfl kk) ?_
    | refine dl_cons rfl rfl (fun K kk => op_eqs (d := some _) hG rfl rfl rfl rfl kk) ?_ | refine dl_cons rfl rfl (fun K kk => op_nes (d := some _) hG rfl rfl rfl rfl kk) ?_ | refine dl_cons rfl rfl (fun K kk => op_beqs (d := some _) hG rfl rfl rfl rfl kk) ?_
    | refine dl_d rfl rfl (fun K kt kf => op_d (d := some _) hG rfl rfl rfl rfl kt kf) (fun h => ?_) (fun h => ?_) | refine dl_d rfl rfl (fun K kt kf => op_e (d := some _) hG rfl rfl rfl rfl kt kf) (fun h => ?_) (fun h => ?_) | refine dl_ne rfl rfl (fun K kt kf => op_ne (d := some _) hG rfl rfl rfl rfl kt kf) (fun h => ?_) (fun h => ?_) | refine dl_d rfl rfl (fun K kt kf => op_beq (d := some _) hG rfl rfl rfl rfl kt kf) (fun h => ?_) (fun h => ?_)
    | refine dl_cons rfl rfl (fun K kk => op_load (d := some _) hG rfl rfl (by assumption) (by exact rfl) rfl rfl kk) ?_ | refine dl_cons rfl rfl (fun K kk => op_q (d := some _) hG rfl rfl rfl kk) ?_
    | refine dl_s rfl rfl rfl ?_ | (refine dl_nil ?_; show AW _ _ _ _ _ _) | refine aw_draw mix rfl ?_)
  all_goals first | exact retA_true rfl | exact absurd rfl ‹¬ _› | trace_state
theorem quotaAll_law (W : World) (x0 : T) (y0 : ArgTy G 6 32 x0) (a1 : Int) (w1 : (Lit.int .u16 a1).wf = true) (a2 : Int) (w2 : (Lit.int .u16 a2).wf = true) (a3 : Int) (w3 : (Lit.int .i64 a3).wf = true) :
    ACalls Try.prog 3 [x0, .int .u16 a1, .int .u16 a2, .int .i64 a3] (σ0 W) (fun r _ => r = .bool true) := by
  obtain ⟨id, k, q, lv, ps, s, i, o, u, nx, cats, ring, data, rfl, hd⟩ := obj_of y0
  exact quotaAll_any _ id k q lv ps s i o u nx cats ring data hd a1 a2 a3 (wf_u16 w1) (wf_u16 w2) (wf_i64 w3).2
end Go.Proofs.Ytjcfhhepnjmchaa
