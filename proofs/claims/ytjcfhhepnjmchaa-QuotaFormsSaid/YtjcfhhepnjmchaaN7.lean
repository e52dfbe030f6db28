/- num: order; the walk. -/
import Derived.Test.YtjcfhhepnjmchaaN6
import Derived.Test.YtjcfhhepnjmchaaTrK
namespace Go.Proofs.Ytjcfhhepnjmchaa
open Go.Tr
attribute [local irreducible] Go.Tr.AW Go.Tr.AOps Go.Tr.AL Go.Tr.AOp Go.Tr.ACalls Go.Tr.DL
theorem mix : Try.prog.follows .mixedOrders = true := by kernel_rfl
theorem be_get (v : Nat) : ∀ (n i : Nat), i < n → (be v n)[i]? = some (UInt8.ofNat (v / 2 ^ (8 * (n - 1 - i))))
  | n + 1, 0, _ => by simp [be]
  | n + 1, i + 1, h => by
    rw [show be v (n + 1) = UInt8.ofNat (v / 2 ^ (8 * n)) :: be v n from rfl, List.getElem?_cons_succ, be_get v n i (by omega)]
    congr 4; omega
theorem put8_get (v : Nat) {i : Nat} (h : i < 8) : (List.map bT (putN v 8))[i]? = some (.int .u8 ((v / 2 ^ (8 * (7 - i)) % 256 : Nat) : Int)) := by
  rw [show putN v 8 = be v 8 from rfl, List.getElem?_map, be_get v 8 i h]
  simp [bT]
theorem step8 (x : Nat) {i : Nat} (h : i < 8) : x / 2 ^ (8 * (7 - i)) = x / 2 ^ (8 * (8 - i)) * 256 + x / 2 ^ (8 * (7 - i)) % 256 := by
  rw [show 8 * (8 - i) = 8 * (7 - i) + 8 by omega, Nat.pow_add, ← Nat.div_div_eq_div_mul]
  have := Nat.div_add_mod (x / 2 ^ (8 * (7 - i))) 256
  omega
theorem num_same {x y i : Nat} (hp : x / 2 ^ (8 * (8 - i)) = y / 2 ^ (8 * (8 - i))) (hi : i < 8) (h : x / 2 ^ (8 * (7 - i)) % 256 = y / 2 ^ (8 * (7 - i)) % 256) :
    x / 2 ^ (8 * (8 - (i + 1))) = y / 2 ^ (8 * (8 - (i + 1))) := by
  rw [show 8 - (i + 1) = 7 - i by omega, step8 x hi, step8 y hi, hp, h]
theorem num_less {x y i : Nat} (hp : x / 2 ^ (8 * (8 - i)) = y / 2 ^ (8 * (8 - i))) (hi : i < 8) (h : x / 2 ^ (8 * (7 - i)) % 256 ≠ y / 2 ^ (8 * (7 - i)) % 256) :
    x / 2 ^ (8 * (7 - i)) % 256 < y / 2 ^ (8 * (7 - i)) % 256 ↔ x < y := by
  have h1 := step8 x hi
  have h2 := step8 y hi
  have h3 : ∀ {a b : Nat}, a ≤ b → a / 2 ^ (8 * (7 - i)) ≤ b / 2 ^ (8 * (7 - i)) := fun h => Nat.div_le_div_right h
  constructor
  · intro h4
    rcases Nat.lt_or_ge x y with h5 | h5
    · exact h5
    · have := h3 h5; omega
  · intro h4
    have := h3 (Nat.le_of_lt h4)
    omega
theorem numOrder_any (x y : Nat) (σ : St) (hx : x < 18446744073709551616) (hy : y < 18446744073709551616) :
    ACalls Try.prog 9 [.int .u64 x, .int .u64 y] σ (fun r _ => r = .bool true) := by
  refine acalls_mk hG Try.func9 rfl rfl rfl rfl rfl ?_
  repeat' (first
    | (refine al_cons rfl ?_; first
      | refine op_m (d := some _) hG rfl rfl rfl rfl ?_
      | refine op_d (d := some _) hG rfl rfl rfl rfl (fun h => ?_) (fun h => ?_) | refine op_e (d := some _) hG rfl rfl rfl rfl (fun h => ?_) (fun h => ?_) | refine op_ne (d := some _) hG rfl rfl rfl rfl (fun h => ?_) (fun h => ?_) | refine op_beq (d := some _) hG rfl rfl rfl rfl (fun h => ?_) (fun h => ?_)
      | refine op_rem (d := some _) hG rfl rfl rfl rfl rfl rfl (by omega) ?_ | refine op_shr (d := some _) hG rfl rfl rfl rfl rfl rfl (by omega) ?_ | refine op_w (d := some _) hG rfl rfl rfl rfl (by omega) ?_ | refine op_wu (d := some _) hG rfl rfl rfl rfl (by omega) ?_ | refine op_w16 (d := some _) hG rfl rfl rfl rfl (by omega) ?_ | refine op_w8 (d := some _) hG rfl rfl rfl rfl (by omega) ?_
      | refine op_q (d := some _) hG rfl rfl rfl ?_)
    | refine al_s (d := some _) rfl rfl rfl ?_ | (refine al_nil ?_; show AW _ _ _ _ _ _) | refine aw_seq ?_ | refine aw_regL ?_ | refine aw_if_t rfl ?_ | refine aw_if_f rfl ?_
    | (refine aw_skip ?_; show AW _ _ _ _ _ _) | refine aw_block ?_ | (refine aw_exit ?_; show AW _ _ _ _ _ _) | (refine aw_goto ?_; try dsimp only [thenA, inBlockA, jumpA, noGotoA]) | (refine aw_ret ?_; try dsimp only [thenA, inBlockA, jumpA, noGotoA])
    | refine dl_cons rfl rfl (fun K kk => op_m (d := some _) hG rfl rfl rfl rfl kk) ?_
    | refine dl_d rfl rfl (fun K kt kf => op_d (d := some _) hG rfl rfl rfl rfl kt kf) (fun h => ?_) (fun h => ?_) | refine dl_d rfl rfl (fun K kt kf => op_e (d := some _) hG rfl rfl rfl rfl kt kf) (fun h => ?_) (fun h => ?_) | refine dl_ne rfl rfl (fun K kt kf => op_ne (d := some _) hG rfl rfl rfl rfl kt kf) (fun h => ?_) (fun h => ?_) | refine dl_d rfl rfl (fun K kt kf => op_beq (d := some _) hG rfl rfl rfl rfl kt kf) (fun h => ?_) (fun h => ?_)
    | refine dl_cons rfl rfl (fun K kk => op_q (d := some _) hG rfl rfl rfl kk) ?_
    | refine dl_s rfl rfl rfl ?_ | (refine dl_nil ?_; show AW _ _ _ _ _ _) | refine aw_draw mix rfl ?_)
  refine al_cons rfl (op_call (d := some _) rfl rfl rfl rfl rfl ?_)
  refine (num_begun σ).pure ?_
  repeat' (first
    | (refine al_cons rfl ?_; first
      | refine op_m (d := some _) hG rfl rfl rfl rfl ?_
      | refine op_d (d := some _) hG rfl rfl rfl rfl (fun h => ?_) (fun h => ?_) | refine op_e (d := some _) hG rfl rfl rfl rfl (fun h => ?_) (fun h => ?_) | refine op_ne (d := some _) hG rfl rfl rfl rfl (fun h => ?_) (fun h => ?_) | refine op_beq (d := some _) hG rfl rfl rfl rfl (fun h => ?_) (fun h => ?_)
      | refine op_rem (d := some _) hG rfl rfl rfl rfl rfl rfl (by omega) ?_ | refine op_shr (d := some _) hG rfl rfl rfl rfl rfl rfl (by omega) ?_ | refine op_w (d := some _) hG rfl rfl rfl rfl (by omega) ?_ | refine op_wu (d := some _) hG rfl rfl rfl rfl (by omega) ?_ | refine op_w16 (d := some _) hG rfl rfl rfl rfl (by omega) ?_ | refine op_w8 (d := some _) hG rfl rfl rfl rfl (by omega) ?_
      | refine op_q (d := some _) hG rfl rfl rfl ?_)
    | refine al_s (d := some _) rfl rfl rfl ?_ | (refine al_nil ?_; show AW _ _ _ _ _ _) | refine aw_seq ?_ | refine aw_regL ?_ | refine aw_if_t rfl ?_ | refine aw_if_f rfl ?_
    | (refine aw_skip ?_; show AW _ _ _ _ _ _) | refine aw_block ?_ | (refine aw_exit ?_; show AW _ _ _ _ _ _) | (refine aw_goto ?_; try dsimp only [thenA, inBlockA, jumpA, noGotoA]) | (refine aw_ret ?_; try dsimp only [thenA, inBlockA, jumpA, noGotoA])
    | refine dl_cons rfl rfl (fun K kk => op_m (d := some _) hG rfl rfl rfl rfl kk) ?_
    | refine dl_d rfl rfl (fun K kt kf => op_d (d := some _) hG rfl rfl rfl rfl kt kf) (fun h => ?_) (fun h => ?_) | refine dl_d rfl rfl (fun K kt kf => op_e (d := some _) hG rfl rfl rfl rfl kt kf) (fun h => ?_) (fun h => ?_) | refine dl_ne rfl rfl (fun K kt kf => op_ne (d := some _) hG rfl rfl rfl rfl kt kf) (fun h => ?_) (fun h => ?_) | refine dl_d rfl rfl (fun K kt kf => op_beq (d := some _) hG rfl rfl rfl rfl kt kf) (fun h => ?_) (fun h => ?_)
    | refine dl_cons rfl rfl (fun K kk => op_q (d := some _) hG rfl rfl rfl kk) ?_
    | refine dl_s rfl rfl rfl ?_ | (refine dl_nil ?_; show AW _ _ _ _ _ _) | refine aw_draw mix rfl ?_)
  refine al_cons rfl (op_call (d := some _) rfl rfl rfl rfl rfl ?_)
  refine (num_Put0 x 8 σ).drop.pure ?_
  repeat' (first
    | (refine al_cons rfl ?_; first
      | refine op_m (d := some _) hG rfl rfl rfl rfl ?_
      | refine op_d (d := some _) hG rfl rfl rfl rfl (fun h => ?_) (fun h => ?_) | refine op_e (d := some _) hG rfl rfl rfl rfl (fun h => ?_) (fun h => ?_) | refine op_ne (d := some _) hG rfl rfl rfl rfl (fun h => ?_) (fun h => ?_) | refine op_beq (d := some _) hG rfl rfl rfl rfl (fun h => ?_) (fun h => ?_)
      | refine op_rem (d := some _) hG rfl rfl rfl rfl rfl rfl (by omega) ?_ | refine op_shr (d := some _) hG rfl rfl rfl rfl rfl rfl (by omega) ?_ | refine op_w (d := some _) hG rfl rfl rfl rfl (by omega) ?_ | refine op_wu (d := some _) hG rfl rfl rfl rfl (by omega) ?_ | refine op_w16 (d := some _) hG rfl rfl rfl rfl (by omega) ?_ | refine op_w8 (d := some _) hG rfl rfl rfl rfl (by omega) ?_
      | refine op_q (d := some _) hG rfl rfl rfl ?_)
    | refine al_s (d := some _) rfl rfl rfl ?_ | (refine al_nil ?_; show AW _ _ _ _ _ _) | refine aw_seq ?_ | refine aw_regL ?_ | refine aw_if_t rfl ?_ | refine aw_if_f rfl ?_
    | (refine aw_skip ?_; show AW _ _ _ _ _ _) | refine aw_block ?_ | (refine aw_exit ?_; show AW _ _ _ _ _ _) | (refine aw_goto ?_; try dsimp only [thenA, inBlockA, jumpA, noGotoA]) | (refine aw_ret ?_; try dsimp only [thenA, inBlockA, jumpA, noGotoA])
    | refine dl_cons rfl rfl (fun K kk => op_m (d := some _) hG rfl rfl rfl rfl kk) ?_
    | refine dl_d rfl rfl (fun K kt kf => op_d (d := some _) hG rfl rfl rfl rfl kt kf) (fun h => ?_) (fun h => ?_) | refine dl_d rfl rfl (fun K kt kf => op_e (d := some _) hG rfl rfl rfl rfl kt kf) (fun h => ?_) (fun h => ?_) | refine dl_ne rfl rfl (fun K kt kf => op_ne (d := some _) hG rfl rfl rfl rfl kt kf) (fun h => ?_) (fun h => ?_) | refine dl_d rfl rfl (fun K kt kf => op_beq (d := some _) hG rfl rfl rfl rfl kt kf) (fun h => ?_) (fun h => ?_)
    | refine dl_cons rfl rfl (fun K kk => op_q (d := some _) hG rfl rfl rfl kk) ?_
    | refine dl_s rfl rfl rfl ?_ | (refine dl_nil ?_; show AW _ _ _ _ _ _) | refine aw_draw mix rfl ?_)
  refine al_cons rfl (op_call (d := some _) rfl rfl rfl rfl rfl ?_)
  refine (num_Put0 y 8 σ).drop.pure ?_
  have hlx : (List.map bT (putN x 8)).length = 8 := by rw [List.length_map]; exact putN_len (n := 8) (by omega)
  have hly : (List.map bT (putN y 8)).length = 8 := by rw [List.length_map]; exact putN_len (n := 8) (by omega)
  have hxg : ∀ i, i < 8 → (List.map bT (putN x 8))[i]? = some (.int .u8 ((x / 2 ^ (8 * (7 - i)) % 256 : Nat) : Int)) := fun i hi => put8_get x hi
  have hyg : ∀ i, i < 8 → (List.map bT (putN y 8))[i]? = some (.int .u8 ((y / 2 ^ (8 * (7 - i)) % 256 : Nat) : Int)) := fun i hi => put8_get y hi
  generalize List.map bT (putN x 8) = bx at *
  generalize List.map bT (putN y 8) = yb at *
  repeat' (first
    | (refine al_cons rfl ?_; first
      | refine op_m (d := some _) hG rfl rfl rfl rfl ?_
      | refine op_d (d := some _) hG rfl rfl rfl rfl (fun h => ?_) (fun h => ?_) | refine op_e (d := some _) hG rfl rfl rfl rfl (fun h => ?_) (fun h => ?_) | refine op_ne (d := some _) hG rfl rfl rfl rfl (fun h => ?_) (fun h => ?_) | refine op_beq (d := some _) hG rfl rfl rfl rfl (fun h => ?_) (fun h => ?_)
      | refine op_rem (d := some _) hG rfl rfl rfl rfl rfl rfl (by omega) ?_ | refine op_shr (d := some _) hG rfl rfl rfl rfl rfl rfl (by omega) ?_ | refine op_w (d := some _) hG rfl rfl rfl rfl (by omega) ?_ | refine op_wu (d := some _) hG rfl rfl rfl rfl (by omega) ?_ | refine op_w16 (d := some _) hG rfl rfl rfl rfl (by omega) ?_ | refine op_w8 (d := some _) hG rfl rfl rfl rfl (by omega) ?_
      | refine op_q (d := some _) hG rfl rfl rfl ?_)
    | refine al_s (d := some _) rfl rfl rfl ?_ | (refine al_nil ?_; show AW _ _ _ _ _ _) | refine aw_seq ?_ | refine aw_regL ?_ | refine aw_if_t rfl ?_ | refine aw_if_f rfl ?_
    | (refine aw_skip ?_; show AW _ _ _ _ _ _) | refine aw_block ?_ | (refine aw_exit ?_; show AW _ _ _ _ _ _) | (refine aw_goto ?_; try dsimp only [thenA, inBlockA, jumpA, noGotoA]) | (refine aw_ret ?_; try dsimp only [thenA, inBlockA, jumpA, noGotoA])
    | refine dl_cons rfl rfl (fun K kk => op_m (d := some _) hG rfl rfl rfl rfl kk) ?_
    | refine dl_d rfl rfl (fun K kt kf => op_d (d := some _) hG rfl rfl rfl rfl kt kf) (fun h => ?_) (fun h => ?_) | refine dl_d rfl rfl (fun K kt kf => op_e (d := some _) hG rfl rfl rfl rfl kt kf) (fun h => ?_) (fun h => ?_) | refine dl_ne rfl rfl (fun K kt kf => op_ne (d := some _) hG rfl rfl rfl rfl kt kf) (fun h => ?_) (fun h => ?_) | refine dl_d rfl rfl (fun K kt kf => op_beq (d := some _) hG rfl rfl rfl rfl kt kf) (fun h => ?_) (fun h => ?_)
    | refine dl_cons rfl rfl (fun K kk => op_q (d := some _) hG rfl rfl rfl kk) ?_
    | refine dl_s rfl rfl rfl ?_ | (refine dl_nil ?_; show AW _ _ _ _ _ _) | refine aw_draw mix rfl ?_)
  · exfalso; omega
  · exfalso; omega
  refine aw_loop (X := { i : Nat // i ≤ 8 ∧ x / 2 ^ (8 * (8 - i)) = y / 2 ^ (8 * (8 - i)) }) (fun z => [(0, .int .u64 x), (1, .int .u64 y), (5, .sl 1 none bx), (6, .sl 1 none yb), (7, .int .i64 z.1)]) (fun _ => σ) (fun z => 8 - z.1) ⟨0, by omega, by rw [Nat.div_eq_of_lt (by simpa using hx), Nat.div_eq_of_lt (by simpa using hy)]⟩ ?_ rfl ?_
  · exact .cons rfl (.cons rfl (.cons rfl (.cons rfl (.cons rfl (.nil _)))))
  rintro ⟨i, hi, hp⟩
  dsimp only
  repeat' (first
    | (refine al_cons rfl ?_; first
      | refine op_m (d := some _) hG rfl rfl rfl rfl ?_
      | refine op_d (d := some _) hG rfl rfl rfl rfl (fun h => ?_) (fun h => ?_) | refine op_e (d := some _) hG rfl rfl rfl rfl (fun h => ?_) (fun h => ?_) | refine op_ne (d := some _) hG rfl rfl rfl rfl (fun h => ?_) (fun h => ?_) | refine op_beq (d := some _) hG rfl rfl rfl rfl (fun h => ?_) (fun h => ?_)
      | refine op_rem (d := some _) hG rfl rfl rfl rfl rfl rfl (by omega) ?_ | refine op_shr (d := some _) hG rfl rfl rfl rfl rfl rfl (by omega) ?_ | refine op_w (d := some _) hG rfl rfl rfl rfl (by omega) ?_ | refine op_wu (d := some _) hG rfl rfl rfl rfl (by omega) ?_ | refine op_w16 (d := some _) hG rfl rfl rfl rfl (by omega) ?_ | refine op_w8 (d := some _) hG rfl rfl rfl rfl (by omega) ?_
      | refine op_q (d := some _) hG rfl rfl rfl ?_)
    | refine al_s (d := some _) rfl rfl rfl ?_ | (refine al_nil ?_; show AW _ _ _ _ _ _) | refine aw_seq ?_ | refine aw_regL ?_ | refine aw_if_t rfl ?_ | refine aw_if_f rfl ?_
    | (refine aw_skip ?_; show AW _ _ _ _ _ _) | refine aw_block ?_ | (refine aw_exit ?_; show AW _ _ _ _ _ _) | (refine aw_goto ?_; try dsimp only [thenA, inBlockA, jumpA, noGotoA]) | (refine aw_ret ?_; try dsimp only [thenA, inBlockA, jumpA, noGotoA])
    | refine dl_cons rfl rfl (fun K kk => op_m (d := some _) hG rfl rfl rfl rfl kk) ?_
    | refine dl_d rfl rfl (fun K kt kf => op_d (d := some _) hG rfl rfl rfl rfl kt kf) (fun h => ?_) (fun h => ?_) | refine dl_d rfl rfl (fun K kt kf => op_e (d := some _) hG rfl rfl rfl rfl kt kf) (fun h => ?_) (fun h => ?_) | refine dl_ne rfl rfl (fun K kt kf => op_ne (d := some _) hG rfl rfl rfl rfl kt kf) (fun h => ?_) (fun h => ?_) | refine dl_d rfl rfl (fun K kt kf => op_beq (d := some _) hG rfl rfl rfl rfl kt kf) (fun h => ?_) (fun h => ?_)
    | refine dl_cons rfl rfl (fun K kk => op_q (d := some _) hG rfl rfl rfl kk) ?_
    | refine dl_s rfl rfl rfl ?_ | (refine dl_nil ?_; show AW _ _ _ _ _ _) | refine aw_draw mix rfl ?_)
  refine dl_cons rfl rfl (fun K kk => op_idx (d := some _) hG rfl rfl rfl rfl rfl rfl rfl rfl rfl (by omega) (hxg i (by omega)) kk) ?_
  repeat' (first
    | (refine al_cons rfl ?_; first
      | refine op_m (d := some _) hG rfl rfl rfl rfl ?_
      | refine op_d (d := some _) hG rfl rfl rfl rfl (fun h => ?_) (fun h => ?_) | refine op_e (d := some _) hG rfl rfl rfl rfl (fun h => ?_) (fun h => ?_) | refine op_ne (d := some _) hG rfl rfl rfl rfl (fun h => ?_) (fun h => ?_) | refine op_beq (d := some _) hG rfl rfl rfl rfl (fun h => ?_) (fun h => ?_)
      | refine op_rem (d := some _) hG rfl rfl rfl rfl rfl rfl (by omega) ?_ | refine op_shr (d := some _) hG rfl rfl rfl rfl rfl rfl (by omega) ?_ | refine op_w (d := some _) hG rfl rfl rfl rfl (by omega) ?_ | refine op_wu (d := some _) hG rfl rfl rfl rfl (by omega) ?_ | refine op_w16 (d := some _) hG rfl rfl rfl rfl (by omega) ?_ | refine op_w8 (d := some _) hG rfl rfl rfl rfl (by omega) ?_
      | refine op_q (d := some _) hG rfl rfl rfl ?_)
    | refine al_s (d := some _) rfl rfl rfl ?_ | (refine al_nil ?_; show AW _ _ _ _ _ _) | refine aw_seq ?_ | refine aw_regL ?_ | refine aw_if_t rfl ?_ | refine aw_if_f rfl ?_
    | (refine aw_skip ?_; show AW _ _ _ _ _ _) | refine aw_block ?_ | (refine aw_exit ?_; show AW _ _ _ _ _ _) | (refine aw_goto ?_; try dsimp only [thenA, inBlockA, jumpA, noGotoA]) | (refine aw_ret ?_; try dsimp only [thenA, inBlockA, jumpA, noGotoA])
    | refine dl_cons rfl rfl (fun K kk => op_m (d := some _) hG rfl rfl rfl rfl kk) ?_
    | refine dl_d rfl rfl (fun K kt kf => op_d (d := some _) hG rfl rfl rfl rfl kt kf) (fun h => ?_) (fun h => ?_) | refine dl_d rfl rfl (fun K kt kf => op_e (d := some _) hG rfl rfl rfl rfl kt kf) (fun h => ?_) (fun h => ?_) | refine dl_ne rfl rfl (fun K kt kf => op_ne (d := some _) hG rfl rfl rfl rfl kt kf) (fun h => ?_) (fun h => ?_) | refine dl_d rfl rfl (fun K kt kf => op_beq (d := some _) hG rfl rfl rfl rfl kt kf) (fun h => ?_) (fun h => ?_)
    | refine dl_cons rfl rfl (fun K kk => op_q (d := some _) hG rfl rfl rfl kk) ?_
    | refine dl_s rfl rfl rfl ?_ | (refine dl_nil ?_; show AW _ _ _ _ _ _) | refine aw_draw mix rfl ?_)
  refine dl_cons rfl rfl (fun K kk => op_idx (d := some _) hG rfl rfl rfl rfl rfl rfl rfl rfl rfl (by omega) (hyg i (by omega)) kk) ?_
  repeat' (first
    | (refine al_cons rfl ?_; first
      | refine op_m (d := some _) hG rfl rfl rfl rfl ?_
      | refine op_d (d := some _) hG rfl rfl rfl rfl (fun h => ?_) (fun h => ?_) | refine op_e (d := some _) hG rfl rfl rfl rfl (fun h => ?_) (fun h => ?_) | refine op_ne (d := some _) hG rfl rfl rfl rfl (fun h => ?_) (fun h => ?_) | refine op_beq (d := some _) hG rfl rfl rfl rfl (fun h => ?_) (fun h => ?_)
      | refine op_rem (d := some _) hG rfl rfl rfl rfl rfl rfl (by omega) ?_ | refine op_shr (d := some _) hG rfl rfl rfl rfl rfl rfl (by omega) ?_ | refine op_w (d := some _) hG rfl rfl rfl rfl (by omega) ?_ | refine op_wu (d := some _) hG rfl rfl rfl rfl (by omega) ?_ | refine op_w16 (d := some _) hG rfl rfl rfl rfl (by omega) ?_ | refine op_w8 (d := some _) hG rfl rfl rfl rfl (by omega) ?_
      | refine op_q (d := some _) hG rfl rfl rfl ?_)
    | refine al_s (d := some _) rfl rfl rfl ?_ | (refine al_nil ?_; show AW _ _ _ _ _ _) | refine aw_seq ?_ | refine aw_regL ?_ | refine aw_if_t rfl ?_ | refine aw_if_f rfl ?_
    | (refine aw_skip ?_; show AW _ _ _ _ _ _) | refine aw_block ?_ | (refine aw_exit ?_; show AW _ _ _ _ _ _) | (refine aw_goto ?_; try dsimp only [thenA, inBlockA, jumpA, noGotoA]) | (refine aw_ret ?_; try dsimp only [thenA, inBlockA, jumpA, noGotoA])
    | refine dl_cons rfl rfl (fun K kk => op_m (d := some _) hG rfl rfl rfl rfl kk) ?_
    | refine dl_d rfl rfl (fun K kt kf => op_d (d := some _) hG rfl rfl rfl rfl kt kf) (fun h => ?_) (fun h => ?_) | refine dl_d rfl rfl (fun K kt kf => op_e (d := some _) hG rfl rfl rfl rfl kt kf) (fun h => ?_) (fun h => ?_) | refine dl_ne rfl rfl (fun K kt kf => op_ne (d := some _) hG rfl rfl rfl rfl kt kf) (fun h => ?_) (fun h => ?_) | refine dl_d rfl rfl (fun K kt kf => op_beq (d := some _) hG rfl rfl rfl rfl kt kf) (fun h => ?_) (fun h => ?_)
    | refine dl_cons rfl rfl (fun K kk => op_q (d := some _) hG rfl rfl rfl kk) ?_
    | refine dl_s rfl rfl rfl ?_ | (refine dl_nil ?_; show AW _ _ _ _ _ _) | refine aw_draw mix rfl ?_)
  · have hlt := num_less hp (by omega) (fun e => h (by exact_mod_cast e))
    refine dl_cons rfl rfl (fun K kk => op_idx (d := some _) hG rfl rfl rfl rfl rfl rfl rfl rfl rfl (by omega) (hxg i (by omega)) kk) ?_
    repeat' (first
    | (refine al_cons rfl ?_; first
      | refine op_m (d := some _) hG rfl rfl rfl rfl ?_
      | refine op_d (d := some _) hG rfl rfl rfl rfl (fun h => ?_) (fun h => ?_) | refine op_e (d := some _) hG rfl rfl rfl rfl (fun h => ?_) (fun h => ?_) | refine op_ne (d := some _) hG rfl rfl rfl rfl (fun h => ?_) (fun h => ?_) | refine op_beq (d := some _) hG rfl rfl rfl rfl (fun h => ?_) (fun h => ?_)
      | refine op_rem (d := some _) hG rfl rfl rfl rfl rfl rfl (by omega) ?_ | refine op_shr (d := some _) hG rfl rfl rfl rfl rfl rfl (by omega) ?_ | refine op_w (d := some _) hG rfl rfl rfl rfl (by omega) ?_ | refine op_wu (d := some _) hG rfl rfl rfl rfl (by omega) ?_ | refine op_w16 (d := some _) hG rfl rfl rfl rfl (by omega) ?_ | refine op_w8 (d := some _) hG rfl rfl rfl rfl (by omega) ?_
      | refine op_q (d := some _) hG rfl rfl rfl ?_)
    | refine al_s (d := some _) rfl rfl rfl ?_ | (refine al_nil ?_; show AW _ _ _ _ _ _) | refine aw_seq ?_ | refine aw_regL ?_ | refine aw_if_t rfl ?_ | refine aw_if_f rfl ?_
    | (refine aw_skip ?_; show AW _ _ _ _ _ _) | refine aw_block ?_ | (refine aw_exit ?_; show AW _ _ _ _ _ _) | (refine aw_goto ?_; try dsimp only [thenA, inBlockA, jumpA, noGotoA]) | (refine aw_ret ?_; try dsimp only [thenA, inBlockA, jumpA, noGotoA])
    | refine dl_cons rfl rfl (fun K kk => op_m (d := some _) hG rfl rfl rfl rfl kk) ?_
    | refine dl_d rfl rfl (fun K kt kf => op_d (d := some _) hG rfl rfl rfl rfl kt kf) (fun h => ?_) (fun h => ?_) | refine dl_d rfl rfl (fun K kt kf => op_e (d := some _) hG rfl rfl rfl rfl kt kf) (fun h => ?_) (fun h => ?_) | refine dl_ne rfl rfl (fun K kt kf => op_ne (d := some _) hG rfl rfl rfl rfl kt kf) (fun h => ?_) (fun h => ?_) | refine dl_d rfl rfl (fun K kt kf => op_beq (d := some _) hG rfl rfl rfl rfl kt kf) (fun h => ?_) (fun h => ?_)
    | refine dl_cons rfl rfl (fun K kk => op_q (d := some _) hG rfl rfl rfl kk) ?_
    | refine dl_s rfl rfl rfl ?_ | (refine dl_nil ?_; show AW _ _ _ _ _ _) | refine aw_draw mix rfl ?_)
    refine dl_cons rfl rfl (fun K kk => op_idx (d := some _) hG rfl rfl rfl rfl rfl rfl rfl rfl rfl (by omega) (hyg i (by omega)) kk) ?_
    repeat' (first
    | (refine al_cons rfl ?_; first
      | refine op_m (d := some _) hG rfl rfl rfl rfl ?_
      | refine op_d (d := some _) hG rfl rfl rfl rfl (fun h => ?_) (fun h => ?_) | refine op_e (d := some _) hG rfl rfl rfl rfl (fun h => ?_) (fun h => ?_) | refine op_ne (d := some _) hG rfl rfl rfl rfl (fun h => ?_) (fun h => ?_) | refine op_beq (d := some _) hG rfl rfl rfl rfl (fun h => ?_) (fun h => ?_)
      | refine op_rem (d := some _) hG rfl rfl rfl rfl rfl rfl (by omega) ?_ | refine op_shr (d := some _) hG rfl rfl rfl rfl rfl rfl (by omega) ?_ | refine op_w (d := some _) hG rfl rfl rfl rfl (by omega) ?_ | refine op_wu (d := some _) hG rfl rfl rfl rfl (by omega) ?_ | refine op_w16 (d := some _) hG rfl rfl rfl rfl (by omega) ?_ | refine op_w8 (d := some _) hG rfl rfl rfl rfl (by omega) ?_
      | refine op_q (d := some _) hG rfl rfl rfl ?_)
    | refine al_s (d := some _) rfl rfl rfl ?_ | (refine al_nil ?_; show AW _ _ _ _ _ _) | refine aw_seq ?_ | refine aw_regL ?_ | refine aw_if_t rfl ?_ | refine aw_if_f rfl ?_
    | (refine aw_skip ?_; show AW _ _ _ _ _ _) | refine aw_block ?_ | (refine aw_exit ?_; show AW _ _ _ _ _ _) | (refine aw_goto ?_; try dsimp only [thenA, inBlockA, jumpA, noGotoA]) | (refine aw_ret ?_; try dsimp only [thenA, inBlockA, jumpA, noGotoA])
    | refine dl_cons rfl rfl (fun K kk => op_m (d := some _) hG rfl rfl rfl rfl kk) ?_
    | refine dl_d rfl rfl (fun K kt kf => op_d (d := some _) hG rfl rfl rfl rfl kt kf) (fun h => ?_) (fun h => ?_) | refine dl_d rfl rfl (fun K kt kf => op_e (d := some _) hG rfl rfl rfl rfl kt kf) (fun h => ?_) (fun h => ?_) | refine dl_ne rfl rfl (fun K kt kf => op_ne (d := some _) hG rfl rfl rfl rfl kt kf) (fun h => ?_) (fun h => ?_) | refine dl_d rfl rfl (fun K kt kf => op_beq (d := some _) hG rfl rfl rfl rfl kt kf) (fun h => ?_) (fun h => ?_)
    | refine dl_cons rfl rfl (fun K kk => op_q (d := some _) hG rfl rfl rfl kk) ?_
    | refine dl_s rfl rfl rfl ?_ | (refine dl_nil ?_; show AW _ _ _ _ _ _) | refine aw_draw mix rfl ?_)
    all_goals first | exact retA_true rfl | exact absurd rfl h | (exfalso; omega)
  · refine al_nil ⟨⟨i + 1, by omega, num_same hp (by omega) (by exact_mod_cast h)⟩, by dsimp only; omega, ?_, rfl⟩
    exact .cons rfl (.cons rfl (.cons rfl (.cons rfl (.consW rfl (.int (by simp)) (.nil _)))))
  · exact retA_true rfl
  · obtain rfl : i = 8 := by omega
    simp at hp
    exfalso; omega
theorem numOrder_law (W : World) (a0 : Int) (w0 : (Lit.int .u64 a0).wf = true) (a1 : Int) (w1 : (Lit.int .u64 a1).wf = true) :
    ACalls Try.prog 9 [.int .u64 a0, .int .u64 a1] (σ0 W) (fun r _ => r = .bool true) := by
  obtain ⟨x, rfl⟩ := Int.eq_ofNat_of_zero_le (wf_u64 w0).1
  obtain ⟨y, rfl⟩ := Int.eq_ofNat_of_zero_le (wf_u64 w1).1
  exact numOrder_any x y _ (by have := (wf_u64 w0).2; omega) (by have := (wf_u64 w1).2; omega)
end Go.Proofs.Ytjcfhhepnjmchaa
