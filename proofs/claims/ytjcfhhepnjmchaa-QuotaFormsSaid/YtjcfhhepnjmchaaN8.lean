/- ref1: what its functions on numbers come to: the same as num's. -/
import Derived.Test.YtjcfhhepnjmchaaN7
namespace Go.Proofs.Ytjcfhhepnjmchaa
open Go.Tr
attribute [local irreducible] Go.Tr.AW Go.Tr.AOps Go.Tr.AL Go.Tr.AOp Go.Tr.ACalls Go.Tr.DL
structure RefX (σ : St) (n : Nat) where
  i : Nat
  own : Nat × Nat × Nat
  hi : i ≤ n
  hf : Fresh σ own
theorem ref_Put (own) (b : List UInt8) (v : Nat) (n : Int) (σ : St) (hl : b.length ≤ 4294967000) :
    ACalls Try.prog 30 [.sl 1 own (b.map bT), .int .u64 v, .int .i64 n] σ (fun r σ' => ∃ own', Fresh σ own' ∧ r = .sl 1 (some own') ((b ++ putN v n).map bT) ∧ σ' = σ.sp own') := by
  refine acalls_mk hG Try.func30 rfl rfl rfl rfl rfl ?_
  repeat' (first
    | (refine al_cons rfl ?_; first
      | refine op_m (d := some _) hG rfl rfl rfl rfl ?_
      | refine op_d (d := some _) hG rfl rfl rfl rfl (fun h => ?_) (fun h => ?_) | refine op_e (d := some _) hG rfl rfl rfl rfl (fun h => ?_) (fun h => ?_) | refine op_ne (d := some _) hG rfl rfl rfl rfl (fun h => ?_) (fun h => ?_) | refine op_beq (d := some _) hG rfl rfl rfl rfl (fun h => ?_) (fun h => ?_)
      | refine op_rem (d := some _) hG rfl rfl rfl rfl rfl rfl (by omega) ?_ | refine op_shr (d := some _) hG rfl rfl rfl rfl rfl rfl (by omega) ?_ | refine op_w (d := some _) hG rfl rfl rfl rfl (by omega) ?_ | refine op_wu (d := some _) hG rfl rfl rfl rfl (by omega) ?_ | refine op_w16 (d := some _) hG rfl rfl rfl rfl (by omega) ?_ | refine op_w8 (d := some _) hG rfl rfl rfl rfl (by omega) ?_
      | refine op_q (d := some _) hG rfl rfl rfl ?_)
    | refine al_s (d := some _) rfl rfl rfl ?_ | (refine al_nil ?_; show AW _ _ _ _ _ _) | refine aw_seq ?_ | refine aw_regL ?_ | refine aw_if_t rfl ?_ | refine aw_if_f rfl ?_
    | (refine aw_skip ?_; show AW _ _ _ _ _ _) | refine aw_block ?_ | (refine aw_exit ?_; show AW _ _ _ _ _ _) | (refine aw_goto ?_; try dsimp only [thenA, inBlockA, jumpA, noGotoA]) | (refine aw_ret ?_; try dsimp only [thenA, inBlockA, jumpA, noGotoA])
    | refine dl_cons rfl rfl (fun K kk => op_m (d := some _) hG rfl rfl rfl rfl kk) ?_
    | refine dl_d rfl rfl (fun K kt kf => op_d (d := some _) hG rfl rfl rfl rfl kt kf) (fun h => ?_) (fun h => ?_) | refine dl_d rfl rfl (fun K kt kf => op_e (d := some _) hG rfl rfl rfl rfl kt kf) (fun h => ?_) (fun h => ?_) | refine dl_ne rfl rfl (fun K kt kf => op_ne (d := some _) hG rfl rfl rfl rfl kt kf) (fun h => ?_) (fun h => ?_) | refine dl_d rfl rfl (fun K kt kf => op_beq (d := some _) hG rfl rfl rfl rfl kt kf) (fun h => ?_) (fun h => ?_)
    | refine dl_cons rfl rfl (fun K kk => op_q (d := some _) hG rfl rfl rfl kk) ?_
    | refine dl_s rfl rfl rfl ?_ | (refine dl_nil ?_; show AW _ _ _ _ _ _) | refine aw_draw mix rfl ?_)
  refine al_cons rfl (op_mkslice (d := some _) hG rfl rfl rfl rfl rfl rfl rfl rfl ?_)
  repeat' (first
    | (refine al_cons rfl ?_; first
      | refine op_m (d := some _) hG rfl rfl rfl rfl ?_
      | refine op_d (d := some _) hG rfl rfl rfl rfl (fun h => ?_) (fun h => ?_) | refine op_e (d := some _) hG rfl rfl rfl rfl (fun h => ?_) (fun h => ?_) | refine op_ne (d := some _) hG rfl rfl rfl rfl (fun h => ?_) (fun h => ?_) | refine op_beq (d := some _) hG rfl rfl rfl rfl (fun h => ?_) (fun h => ?_)
      | refine op_rem (d := some _) hG rfl rfl rfl rfl rfl rfl (by omega) ?_ | refine op_shr (d := some _) hG rfl rfl rfl rfl rfl rfl (by omega) ?_ | refine op_w (d := some _) hG rfl rfl rfl rfl (by omega) ?_ | refine op_wu (d := some _) hG rfl rfl rfl rfl (by omega) ?_ | refine op_w16 (d := some _) hG rfl rfl rfl rfl (by omega) ?_ | refine op_w8 (d := some _) hG rfl rfl rfl rfl (by omega) ?_
      | refine op_q (d := some _) hG rfl rfl rfl ?_)
    | refine al_s (d := some _) rfl rfl rfl ?_ | (refine al_nil ?_; show AW _ _ _ _ _ _) | refine aw_seq ?_ | refine aw_regL ?_ | refine aw_if_t rfl ?_ | refine aw_if_f rfl ?_
    | (refine aw_skip ?_; show AW _ _ _ _ _ _) | refine aw_block ?_ | (refine aw_exit ?_; show AW _ _ _ _ _ _) | (refine aw_goto ?_; try dsimp only [thenA, inBlockA, jumpA, noGotoA]) | (refine aw_ret ?_; try dsimp only [thenA, inBlockA, jumpA, noGotoA])
    | refine dl_cons rfl rfl (fun K kk => op_m (d := some _) hG rfl rfl rfl rfl kk) ?_
    | refine dl_d rfl rfl (fun K kt kf => op_d (d := some _) hG rfl rfl rfl rfl kt kf) (fun h => ?_) (fun h => ?_) | refine dl_d rfl rfl (fun K kt kf => op_e (d := some _) hG rfl rfl rfl rfl kt kf) (fun h => ?_) (fun h => ?_) | refine dl_ne rfl rfl (fun K kt kf => op_ne (d := some _) hG rfl rfl rfl rfl kt kf) (fun h => ?_) (fun h => ?_) | refine dl_d rfl rfl (fun K kt kf => op_beq (d := some _) hG rfl rfl rfl rfl kt kf) (fun h => ?_) (fun h => ?_)
    | refine dl_cons rfl rfl (fun K kk => op_q (d := some _) hG rfl rfl rfl kk) ?_
    | refine dl_s rfl rfl rfl ?_ | (refine dl_nil ?_; show AW _ _ _ _ _ _) | refine aw_draw mix rfl ?_)
  refine al_cons rfl (op_append (d := some _) hG (σ0 := σ) rfl rfl rfl rfl rfl ⟨_, rfl⟩ rfl rfl rfl rfl rfl (.inl rfl) (bT_scal _) (by simp; omega) rfl rfl (fun own1 hf1 => ?_))
  repeat' (first
    | (refine al_cons rfl ?_; first
      | refine op_m (d := some _) hG rfl rfl rfl rfl ?_
      | refine op_d (d := some _) hG rfl rfl rfl rfl (fun h => ?_) (fun h => ?_) | refine op_e (d := some _) hG rfl rfl rfl rfl (fun h => ?_) (fun h => ?_) | refine op_ne (d := some _) hG rfl rfl rfl rfl (fun h => ?_) (fun h => ?_) | refine op_beq (d := some _) hG rfl rfl rfl rfl (fun h => ?_) (fun h => ?_)
      | refine op_rem (d := some _) hG rfl rfl rfl rfl rfl rfl (by omega) ?_ | refine op_shr (d := some _) hG rfl rfl rfl rfl rfl rfl (by omega) ?_ | refine op_w (d := some _) hG rfl rfl rfl rfl (by omega) ?_ | refine op_wu (d := some _) hG rfl rfl rfl rfl (by omega) ?_ | refine op_w16 (d := some _) hG rfl rfl rfl rfl (by omega) ?_ | refine op_w8 (d := some _) hG rfl rfl rfl rfl (by omega) ?_
      | refine op_q (d := some _) hG rfl rfl rfl ?_)
    | refine al_s (d := some _) rfl rfl rfl ?_ | (refine al_nil ?_; show AW _ _ _ _ _ _) | refine aw_seq ?_ | refine aw_regL ?_ | refine aw_if_t rfl ?_ | refine aw_if_f rfl ?_
    | (refine aw_skip ?_; show AW _ _ _ _ _ _) | refine aw_block ?_ | (refine aw_exit ?_; show AW _ _ _ _ _ _) | (refine aw_goto ?_; try dsimp only [thenA, inBlockA, jumpA, noGotoA]) | (refine aw_ret ?_; try dsimp only [thenA, inBlockA, jumpA, noGotoA])
    | refine dl_cons rfl rfl (fun K kk => op_m (d := some _) hG rfl rfl rfl rfl kk) ?_
    | refine dl_d rfl rfl (fun K kt kf => op_d (d := some _) hG rfl rfl rfl rfl kt kf) (fun h => ?_) (fun h => ?_) | refine dl_d rfl rfl (fun K kt kf => op_e (d := some _) hG rfl rfl rfl rfl kt kf) (fun h => ?_) (fun h => ?_) | refine dl_ne rfl rfl (fun K kt kf => op_ne (d := some _) hG rfl rfl rfl rfl kt kf) (fun h => ?_) (fun h => ?_) | refine dl_d rfl rfl (fun K kt kf => op_beq (d := some _) hG rfl rfl rfl rfl kt kf) (fun h => ?_) (fun h => ?_)
    | refine dl_cons rfl rfl (fun K kk => op_q (d := some _) hG rfl rfl rfl kk) ?_
    | refine dl_s rfl rfl rfl ?_ | (refine dl_nil ?_; show AW _ _ _ _ _ _) | refine aw_draw mix rfl ?_)
  · refine aw_ret' _ rfl (Wk.refl _) ⟨own1, hf1, ?_, rfl⟩
    rw [putN, if_neg (by omega), List.append_nil]; rfl
  · refine aw_ret' _ rfl (Wk.refl _) ⟨own1, hf1, ?_, rfl⟩
    rw [putN, if_neg (by omega), List.append_nil]; rfl
  have hn : 0 ≤ n ∧ n ≤ 8 := by omega
  obtain ⟨k, rfl⟩ := Int.eq_ofNat_of_zero_le hn.1
  refine aw_loop (X := RefX σ k) (fun x => [(1, .int .u64 v), (2, .int .i64 k), (7, .sl 1 (some x.own) ((b ++ (be v k).take x.i).map bT)), (8, .int .i64 x.i)]) (fun x => σ.sp x.own) (fun x => k - x.i) ⟨0, own1, by omega, hf1⟩ ?_ rfl ?_
  · exact .cons rfl (.cons rfl (.consW rfl (.eq (by simp)) (.consW rfl (.int rfl) (.nil _))))
  rintro ⟨i, own2, hi, hf2⟩
  dsimp only
  have hbl := be_length v k
  have htl : ((be v k).take i).length = i := by rw [List.length_take]; omega
  repeat' (first
    | (refine al_cons rfl ?_; first
      | refine op_m (d := some _) hG rfl rfl rfl rfl ?_
      | refine op_d (d := some _) hG rfl rfl rfl rfl (fun h => ?_) (fun h => ?_) | refine op_e (d := some _) hG rfl rfl rfl rfl (fun h => ?_) (fun h => ?_) | refine op_ne (d := some _) hG rfl rfl rfl rfl (fun h => ?_) (fun h => ?_) | refine op_beq (d := some _) hG rfl rfl rfl rfl (fun h => ?_) (fun h => ?_)
      | refine op_rem (d := some _) hG rfl rfl rfl rfl rfl rfl (by omega) ?_ | refine op_shr (d := some _) hG rfl rfl rfl rfl rfl rfl (by omega) ?_ | refine op_w (d := some _) hG rfl rfl rfl rfl (by omega) ?_ | refine op_wu (d := some _) hG rfl rfl rfl rfl (by omega) ?_ | refine op_w16 (d := some _) hG rfl rfl rfl rfl (by omega) ?_ | refine op_w8 (d := some _) hG rfl rfl rfl rfl (by omega) ?_
      | refine op_q (d := some _) hG rfl rfl rfl ?_)
    | refine al_s (d := some _) rfl rfl rfl ?_ | (refine al_nil ?_; show AW _ _ _ _ _ _) | refine aw_seq ?_ | refine aw_regL ?_ | refine aw_if_t rfl ?_ | refine aw_if_f rfl ?_
    | (refine aw_skip ?_; show AW _ _ _ _ _ _) | refine aw_block ?_ | (refine aw_exit ?_; show AW _ _ _ _ _ _) | (refine aw_goto ?_; try dsimp only [thenA, inBlockA, jumpA, noGotoA]) | (refine aw_ret ?_; try dsimp only [thenA, inBlockA, jumpA, noGotoA])
    | refine dl_cons rfl rfl (fun K kk => op_m (d := some _) hG rfl rfl rfl rfl kk) ?_
    | refine dl_d rfl rfl (fun K kt kf => op_d (d := some _) hG rfl rfl rfl rfl kt kf) (fun h => ?_) (fun h => ?_) | refine dl_d rfl rfl (fun K kt kf => op_e (d := some _) hG rfl rfl rfl rfl kt kf) (fun h => ?_) (fun h => ?_) | refine dl_ne rfl rfl (fun K kt kf => op_ne (d := some _) hG rfl rfl rfl rfl kt kf) (fun h => ?_) (fun h => ?_) | refine dl_d rfl rfl (fun K kt kf => op_beq (d := some _) hG rfl rfl rfl rfl kt kf) (fun h => ?_) (fun h => ?_)
    | refine dl_cons rfl rfl (fun K kk => op_q (d := some _) hG rfl rfl rfl kk) ?_
    | refine dl_s rfl rfl rfl ?_ | (refine dl_nil ?_; show AW _ _ _ _ _ _) | refine aw_draw mix rfl ?_)
  · refine al_cons rfl (op_mkslice (d := some _) hG rfl rfl rfl rfl rfl rfl rfl rfl ?_)
    repeat' (first
    | (refine al_cons rfl ?_; first
      | refine op_m (d := some _) hG rfl rfl rfl rfl ?_
      | refine op_d (d := some _) hG rfl rfl rfl rfl (fun h => ?_) (fun h => ?_) | refine op_e (d := some _) hG rfl rfl rfl rfl (fun h => ?_) (fun h => ?_) | refine op_ne (d := some _) hG rfl rfl rfl rfl (fun h => ?_) (fun h => ?_) | refine op_beq (d := some _) hG rfl rfl rfl rfl (fun h => ?_) (fun h => ?_)
      | refine op_rem (d := some _) hG rfl rfl rfl rfl rfl rfl (by omega) ?_ | refine op_shr (d := some _) hG rfl rfl rfl rfl rfl rfl (by omega) ?_ | refine op_w (d := some _) hG rfl rfl rfl rfl (by omega) ?_ | refine op_wu (d := some _) hG rfl rfl rfl rfl (by omega) ?_ | refine op_w16 (d := some _) hG rfl rfl rfl rfl (by omega) ?_ | refine op_w8 (d := some _) hG rfl rfl rfl rfl (by omega) ?_
      | refine op_q (d := some _) hG rfl rfl rfl ?_)
    | refine al_s (d := some _) rfl rfl rfl ?_ | (refine al_nil ?_; show AW _ _ _ _ _ _) | refine aw_seq ?_ | refine aw_regL ?_ | refine aw_if_t rfl ?_ | refine aw_if_f rfl ?_
    | (refine aw_skip ?_; show AW _ _ _ _ _ _) | refine aw_block ?_ | (refine aw_exit ?_; show AW _ _ _ _ _ _) | (refine aw_goto ?_; try dsimp only [thenA, inBlockA, jumpA, noGotoA]) | (refine aw_ret ?_; try dsimp only [thenA, inBlockA, jumpA, noGotoA])
    | refine dl_cons rfl rfl (fun K kk => op_m (d := some _) hG rfl rfl rfl rfl kk) ?_
    | refine dl_d rfl rfl (fun K kt kf => op_d (d := some _) hG rfl rfl rfl rfl kt kf) (fun h => ?_) (fun h => ?_) | refine dl_d rfl rfl (fun K kt kf => op_e (d := some _) hG rfl rfl rfl rfl kt kf) (fun h => ?_) (fun h => ?_) | refine dl_ne rfl rfl (fun K kt kf => op_ne (d := some _) hG rfl rfl rfl rfl kt kf) (fun h => ?_) (fun h => ?_) | refine dl_d rfl rfl (fun K kt kf => op_beq (d := some _) hG rfl rfl rfl rfl kt kf) (fun h => ?_) (fun h => ?_)
    | refine dl_cons rfl rfl (fun K kk => op_q (d := some _) hG rfl rfl rfl kk) ?_
    | refine dl_s rfl rfl rfl ?_ | (refine dl_nil ?_; show AW _ _ _ _ _ _) | refine aw_draw mix rfl ?_)
    refine al_cons rfl (op_append (d := some _) hG (σ0 := σ) rfl rfl rfl rfl rfl ⟨_, rfl⟩ rfl rfl rfl rfl rfl hf2 (scal_one rfl) (by rw [List.length_map, List.length_append, htl]; simp; omega) rfl rfl (fun own' hf' => ?_))
    repeat' (first
    | (refine al_cons rfl ?_; first
      | refine op_m (d := some _) hG rfl rfl rfl rfl ?_
      | refine op_d (d := some _) hG rfl rfl rfl rfl (fun h => ?_) (fun h => ?_) | refine op_e (d := some _) hG rfl rfl rfl rfl (fun h => ?_) (fun h => ?_) | refine op_ne (d := some _) hG rfl rfl rfl rfl (fun h => ?_) (fun h => ?_) | refine op_beq (d := some _) hG rfl rfl rfl rfl (fun h => ?_) (fun h => ?_)
      | refine op_rem (d := some _) hG rfl rfl rfl rfl rfl rfl (by omega) ?_ | refine op_shr (d := some _) hG rfl rfl rfl rfl rfl rfl (by omega) ?_ | refine op_w (d := some _) hG rfl rfl rfl rfl (by omega) ?_ | refine op_wu (d := some _) hG rfl rfl rfl rfl (by omega) ?_ | refine op_w16 (d := some _) hG rfl rfl rfl rfl (by omega) ?_ | refine op_w8 (d := some _) hG rfl rfl rfl rfl (by omega) ?_
      | refine op_q (d := some _) hG rfl rfl rfl ?_)
    | refine al_s (d := some _) rfl rfl rfl ?_ | (refine al_nil ?_; show AW _ _ _ _ _ _) | refine aw_seq ?_ | refine aw_regL ?_ | refine aw_if_t rfl ?_ | refine aw_if_f rfl ?_
    | (refine aw_skip ?_; show AW _ _ _ _ _ _) | refine aw_block ?_ | (refine aw_exit ?_; show AW _ _ _ _ _ _) | (refine aw_goto ?_; try dsimp only [thenA, inBlockA, jumpA, noGotoA]) | (refine aw_ret ?_; try dsimp only [thenA, inBlockA, jumpA, noGotoA])
    | refine dl_cons rfl rfl (fun K kk => op_m (d := some _) hG rfl rfl rfl rfl kk) ?_
    | refine dl_d rfl rfl (fun K kt kf => op_d (d := some _) hG rfl rfl rfl rfl kt kf) (fun h => ?_) (fun h => ?_) | refine dl_d rfl rfl (fun K kt kf => op_e (d := some _) hG rfl rfl rfl rfl kt kf) (fun h => ?_) (fun h => ?_) | refine dl_ne rfl rfl (fun K kt kf => op_ne (d := some _) hG rfl rfl rfl rfl kt kf) (fun h => ?_) (fun h => ?_) | refine dl_d rfl rfl (fun K kt kf => op_beq (d := some _) hG rfl rfl rfl rfl kt kf) (fun h => ?_) (fun h => ?_)
    | refine dl_cons rfl rfl (fun K kk => op_q (d := some _) hG rfl rfl rfl kk) ?_
    | refine dl_s rfl rfl rfl ?_ | (refine dl_nil ?_; show AW _ _ _ _ _ _) | refine aw_draw mix rfl ?_)
    have hib : i < k := by omega
    have hbyte : T.int IntKind.u8 (IntKind.u8.wrap ((v : Int) / 2 ^ (min (8 * ((k : Int) - 1 - (i : Int))).toNat IntKind.u64.bits))) = bT (UInt8.ofNat (v / 2 ^ (8 * (k - 1 - i)))) := by
      have : min (8 * ((k : Int) - 1 - (i : Int))).toNat IntKind.u64.bits = 8 * (k - 1 - i) := by simp only [IntKind.bits]; omega
      rw [this]
      exact bT_of _ _ (by simp)
    refine al_nil ⟨⟨i + 1, own', by omega, hf'⟩, by dsimp only; omega, ?_, rfl⟩
    refine .cons rfl (.cons rfl (.consW rfl (.eq ?_) (.consW rfl (.int (by simp)) (.nil _))))
    show T.sl 1 (some own') ((b ++ (be v k).take i).map bT ++ [_]) = .sl 1 (some own') ((b ++ (be v k).take (i + 1)).map bT)
    have hg := be_get v k i hib
    rw [List.getElem?_eq_getElem (by omega)] at hg
    injection hg with hg
    rw [hbyte, List.take_succ_eq_append_getElem (by omega), hg]
    simp
  · obtain rfl : i = k := by omega
    refine aw_ret' _ rfl (Wk.refl _) ⟨own2, hf2, ?_, rfl⟩
    rw [putN, if_pos hn, List.take_of_length_le (by omega)]; simp

theorem ref_Take (own) (b : List UInt8) (n : Int) (σ : St) :
    ACalls Try.prog 29 [.sl 1 own (b.map bT), .int .i64 n] σ (fun r σ' => r = .tup [.int .u64 (takeE b n).1, .int .i64 (takeE b n).2] ∧ σ' = σ) := by
  refine acalls_mk hG Try.func29 rfl rfl rfl rfl rfl ?_
  have hlm : (List.map bT b).length = b.length := by simp
  repeat' (first
    | (refine al_cons rfl ?_; first
      | refine op_m (d := some _) hG rfl rfl rfl rfl ?_
      | refine op_d (d := some _) hG rfl rfl rfl rfl (fun h => ?_) (fun h => ?_) | refine op_e (d := some _) hG rfl rfl rfl rfl (fun h => ?_) (fun h => ?_) | refine op_ne (d := some _) hG rfl rfl rfl rfl (fun h => ?_) (fun h => ?_) | refine op_beq (d := some _) hG rfl rfl rfl rfl (fun h => ?_) (fun h => ?_)
      | refine op_rem (d := some _) hG rfl rfl rfl rfl rfl rfl (by omega) ?_ | refine op_shr (d := some _) hG rfl rfl rfl rfl rfl rfl (by omega) ?_ | refine op_w (d := some _) hG rfl rfl rfl rfl (by omega) ?_ | refine op_wu (d := some _) hG rfl rfl rfl rfl (by omega) ?_ | refine op_w16 (d := some _) hG rfl rfl rfl rfl (by omega) ?_ | refine op_w8 (d := some _) hG rfl rfl rfl rfl (by omega) ?_
      | refine op_q (d := some _) hG rfl rfl rfl ?_)
    | refine al_s (d := some _) rfl rfl rfl ?_ | (refine al_nil ?_; show AW _ _ _ _ _ _) | refine aw_seq ?_ | refine aw_regL ?_ | refine aw_if_t rfl ?_ | refine aw_if_f rfl ?_
    | (refine aw_skip ?_; show AW _ _ _ _ _ _) | refine aw_block ?_ | (refine aw_exit ?_; show AW _ _ _ _ _ _) | (refine aw_goto ?_; try dsimp only [thenA, inBlockA, jumpA, noGotoA]) | (refine aw_ret ?_; try dsimp only [thenA, inBlockA, jumpA, noGotoA])
    | refine dl_cons rfl rfl (fun K kk => op_m (d := some _) hG rfl rfl rfl rfl kk) ?_
    | refine dl_d rfl rfl (fun K kt kf => op_d (d := some _) hG rfl rfl rfl rfl kt kf) (fun h => ?_) (fun h => ?_) | refine dl_d rfl rfl (fun K kt kf => op_e (d := some _) hG rfl rfl rfl rfl kt kf) (fun h => ?_) (fun h => ?_) | refine dl_ne rfl rfl (fun K kt kf => op_ne (d := some _) hG rfl rfl rfl rfl kt kf) (fun h => ?_) (fun h => ?_) | refine dl_d rfl rfl (fun K kt kf => op_beq (d := some _) hG rfl rfl rfl rfl kt kf) (fun h => ?_) (fun h => ?_)
    | refine dl_cons rfl rfl (fun K kk => op_q (d := some _) hG rfl rfl rfl kk) ?_
    | refine dl_s rfl rfl rfl ?_ | (refine dl_nil ?_; show AW _ _ _ _ _ _) | refine aw_draw mix rfl ?_)
  · refine aw_ret' _ rfl (Wk.refl _) ⟨?_, rfl⟩
    rw [takeE, if_pos (by omega)]; rfl
  · refine aw_ret' _ rfl (Wk.refl _) ⟨?_, rfl⟩
    rw [takeE, if_pos (by omega)]; rfl
  · refine aw_ret' _ rfl (Wk.refl _) ⟨?_, rfl⟩
    rw [takeE, if_neg (by omega), if_pos (by omega)]; rfl
  have hn : 0 ≤ n ∧ n ≤ 8 ∧ n ≤ b.length := by omega
  refine aw_loop (X := TakeX b n) (fun x => [(0, .sl 1 own (b.map bT)), (1, .int .i64 n), (6, .int .u64 (beV (b.take x.i))), (7, .int .i64 x.i)]) (fun x => σ) (fun x => n.toNat - x.i) ⟨0, hn, by omega⟩ ?_ rfl ?_
  · exact .cons rfl (.cons rfl (.consW rfl (.int (by simp [beV])) (.consW rfl (.int rfl) (.nil _))))
  rintro ⟨i, hn, hi⟩
  dsimp only
  repeat' (first
    | (refine al_cons rfl ?_; first
      | refine op_m (d := some _) hG rfl rfl rfl rfl ?_
      | refine op_d (d := some _) hG rfl rfl rfl rfl (fun h => ?_) (fun h => ?_) | refine op_e (d := some _) hG rfl rfl rfl rfl (fun h => ?_) (fun h => ?_) | refine op_ne (d := some _) hG rfl rfl rfl rfl (fun h => ?_) (fun h => ?_) | refine op_beq (d := some _) hG rfl rfl rfl rfl (fun h => ?_) (fun h => ?_)
      | refine op_rem (d := some _) hG rfl rfl rfl rfl rfl rfl (by omega) ?_ | refine op_shr (d := some _) hG rfl rfl rfl rfl rfl rfl (by omega) ?_ | refine op_w (d := some _) hG rfl rfl rfl rfl (by omega) ?_ | refine op_wu (d := some _) hG rfl rfl rfl rfl (by omega) ?_ | refine op_w16 (d := some _) hG rfl rfl rfl rfl (by omega) ?_ | refine op_w8 (d := some _) hG rfl rfl rfl rfl (by omega) ?_
      | refine op_q (d := some _) hG rfl rfl rfl ?_)
    | refine al_s (d := some _) rfl rfl rfl ?_ | (refine al_nil ?_; show AW _ _ _ _ _ _) | refine aw_seq ?_ | refine aw_regL ?_ | refine aw_if_t rfl ?_ | refine aw_if_f rfl ?_
    | (refine aw_skip ?_; show AW _ _ _ _ _ _) | refine aw_block ?_ | (refine aw_exit ?_; show AW _ _ _ _ _ _) | (refine aw_goto ?_; try dsimp only [thenA, inBlockA, jumpA, noGotoA]) | (refine aw_ret ?_; try dsimp only [thenA, inBlockA, jumpA, noGotoA])
    | refine dl_cons rfl rfl (fun K kk => op_m (d := some _) hG rfl rfl rfl rfl kk) ?_
    | refine dl_d rfl rfl (fun K kt kf => op_d (d := some _) hG rfl rfl rfl rfl kt kf) (fun h => ?_) (fun h => ?_) | refine dl_d rfl rfl (fun K kt kf => op_e (d := some _) hG rfl rfl rfl rfl kt kf) (fun h => ?_) (fun h => ?_) | refine dl_ne rfl rfl (fun K kt kf => op_ne (d := some _) hG rfl rfl rfl rfl kt kf) (fun h => ?_) (fun h => ?_) | refine dl_d rfl rfl (fun K kt kf => op_beq (d := some _) hG rfl rfl rfl rfl kt kf) (fun h => ?_) (fun h => ?_)
    | refine dl_cons rfl rfl (fun K kk => op_q (d := some _) hG rfl rfl rfl kk) ?_
    | refine dl_s rfl rfl rfl ?_ | (refine dl_nil ?_; show AW _ _ _ _ _ _) | refine aw_draw mix rfl ?_)
  · have hib : i < b.length := by omega
    have hx := b[i].toNat_lt
    refine al_cons rfl (op_idx (d := some _) hG rfl rfl rfl rfl rfl rfl rfl rfl rfl (by omega) (bT_get hib) ?_)
    repeat' (first
    | (refine al_cons rfl ?_; first
      | refine op_m (d := some _) hG rfl rfl rfl rfl ?_
      | refine op_d (d := some _) hG rfl rfl rfl rfl (fun h => ?_) (fun h => ?_) | refine op_e (d := some _) hG rfl rfl rfl rfl (fun h => ?_) (fun h => ?_) | refine op_ne (d := some _) hG rfl rfl rfl rfl (fun h => ?_) (fun h => ?_) | refine op_beq (d := some _) hG rfl rfl rfl rfl (fun h => ?_) (fun h => ?_)
      | refine op_rem (d := some _) hG rfl rfl rfl rfl rfl rfl (by omega) ?_ | refine op_shr (d := some _) hG rfl rfl rfl rfl rfl rfl (by omega) ?_ | refine op_w (d := some _) hG rfl rfl rfl rfl (by omega) ?_ | refine op_wu (d := some _) hG rfl rfl rfl rfl (by omega) ?_ | refine op_w16 (d := some _) hG rfl rfl rfl rfl (by omega) ?_ | refine op_w8 (d := some _) hG rfl rfl rfl rfl (by omega) ?_
      | refine op_q (d := some _) hG rfl rfl rfl ?_)
    | refine al_s (d := some _) rfl rfl rfl ?_ | (refine al_nil ?_; show AW _ _ _ _ _ _) | refine aw_seq ?_ | refine aw_regL ?_ | refine aw_if_t rfl ?_ | refine aw_if_f rfl ?_
    | (refine aw_skip ?_; show AW _ _ _ _ _ _) | refine aw_block ?_ | (refine aw_exit ?_; show AW _ _ _ _ _ _) | (refine aw_goto ?_; try dsimp only [thenA, inBlockA, jumpA, noGotoA]) | (refine aw_ret ?_; try dsimp only [thenA, inBlockA, jumpA, noGotoA])
    | refine dl_cons rfl rfl (fun K kk => op_m (d := some _) hG rfl rfl rfl rfl kk) ?_
    | refine dl_d rfl rfl (fun K kt kf => op_d (d := some _) hG rfl rfl rfl rfl kt kf) (fun h => ?_) (fun h => ?_) | refine dl_d rfl rfl (fun K kt kf => op_e (d := some _) hG rfl rfl rfl rfl kt kf) (fun h => ?_) (fun h => ?_) | refine dl_ne rfl rfl (fun K kt kf => op_ne (d := some _) hG rfl rfl rfl rfl kt kf) (fun h => ?_) (fun h => ?_) | refine dl_d rfl rfl (fun K kt kf => op_beq (d := some _) hG rfl rfl rfl rfl kt kf) (fun h => ?_) (fun h => ?_)
    | refine dl_cons rfl rfl (fun K kk => op_q (d := some _) hG rfl rfl rfl kk) ?_
    | refine dl_s rfl rfl rfl ?_ | (refine dl_nil ?_; show AW _ _ _ _ _ _) | refine aw_draw mix rfl ?_)
    have hlt : beV (b.take i) < 2 ^ (8 * i) := beV_lt i _ (by simp; omega)
    have hpow : 2 ^ (8 * i) ≤ 2 ^ 56 := Nat.pow_le_pow_right (by omega) (by omega)
    have htk : b.take (i + 1) = b.take i ++ [b[i]] := by rw [List.take_succ_eq_append_getElem hib]
    refine al_nil ⟨⟨i + 1, hn, by omega⟩, by dsimp only; omega, ?_, rfl⟩
    refine .cons rfl (.cons rfl (.consW rfl (.int ?_) (.consW rfl (.int (by simp)) (.nil _))))
    show _ = ((beV (b.take (i + 1)) : Nat) : Int)
    rw [htk, beV_snoc]
    exact or_byte _ _ (by omega) hx
  · refine aw_ret' _ rfl (Wk.refl _) ⟨?_, rfl⟩
    have : i = n.toNat := by omega
    subst this
    rw [takeE, if_neg (by omega), if_neg (by omega)]; rfl

theorem ref_PutBytes (o1 o2) (b s : List UInt8) (σ : St) (hl : b.length ≤ 4294880000) (hs : s.length ≤ 65535) :
    ACalls Try.prog 34 [.sl 1 o1 (b.map bT), .sl 1 o2 (s.map bT)] σ (fun r σ' => ∃ own', Fresh σ own' ∧ r = .sl 1 (some own') ((b ++ be s.length 2 ++ s).map bT) ∧ σ' = σ.sp own') := by
  refine acalls_mk hG Try.func34 rfl rfl rfl rfl rfl ?_
  have hlm : (List.map bT s).length = s.length := by simp
  repeat' (first
    | (refine al_cons rfl ?_; first
      | refine op_m (d := some _) hG rfl rfl rfl rfl ?_
      | refine op_d (d := some _) hG rfl rfl rfl rfl (fun h => ?_) (fun h => ?_) | refine op_e (d := some _) hG rfl rfl rfl rfl (fun h => ?_) (fun h => ?_) | refine op_ne (d := some _) hG rfl rfl rfl rfl (fun h => ?_) (fun h => ?_) | refine op_beq (d := some _) hG rfl rfl rfl rfl (fun h => ?_) (fun h => ?_)
      | refine op_rem (d := some _) hG rfl rfl rfl rfl rfl rfl (by omega) ?_ | refine op_shr (d := some _) hG rfl rfl rfl rfl rfl rfl (by omega) ?_ | refine op_w (d := some _) hG rfl rfl rfl rfl (by omega) ?_ | refine op_wu (d := some _) hG rfl rfl rfl rfl (by omega) ?_ | refine op_w16 (d := some _) hG rfl rfl rfl rfl (by omega) ?_ | refine op_w8 (d := some _) hG rfl rfl rfl rfl (by omega) ?_
      | refine op_q (d := some _) hG rfl rfl rfl ?_)
    | refine al_s (d := some _) rfl rfl rfl ?_ | (refine al_nil ?_; show AW _ _ _ _ _ _) | refine aw_seq ?_ | refine aw_regL ?_ | refine aw_if_t rfl ?_ | refine aw_if_f rfl ?_
    | (refine aw_skip ?_; show AW _ _ _ _ _ _) | refine aw_block ?_ | (refine aw_exit ?_; show AW _ _ _ _ _ _) | (refine aw_goto ?_; try dsimp only [thenA, inBlockA, jumpA, noGotoA]) | (refine aw_ret ?_; try dsimp only [thenA, inBlockA, jumpA, noGotoA])
    | refine dl_cons rfl rfl (fun K kk => op_m (d := some _) hG rfl rfl rfl rfl kk) ?_
    | refine dl_d rfl rfl (fun K kt kf => op_d (d := some _) hG rfl rfl rfl rfl kt kf) (fun h => ?_) (fun h => ?_) | refine dl_d rfl rfl (fun K kt kf => op_e (d := some _) hG rfl rfl rfl rfl kt kf) (fun h => ?_) (fun h => ?_) | refine dl_ne rfl rfl (fun K kt kf => op_ne (d := some _) hG rfl rfl rfl rfl kt kf) (fun h => ?_) (fun h => ?_) | refine dl_d rfl rfl (fun K kt kf => op_beq (d := some _) hG rfl rfl rfl rfl kt kf) (fun h => ?_) (fun h => ?_)
    | refine dl_cons rfl rfl (fun K kk => op_q (d := some _) hG rfl rfl rfl kk) ?_
    | refine dl_s rfl rfl rfl ?_ | (refine dl_nil ?_; show AW _ _ _ _ _ _) | refine aw_draw mix rfl ?_)
  refine al_cons rfl (op_call (d := some _) rfl rfl rfl rfl rfl ?_)
  rw [hlm]
  refine (ref_Put o1 b s.length 2 σ (by omega)).owned (fun own1 hf1 => ?_)
  repeat' (first
    | (refine al_cons rfl ?_; first
      | refine op_m (d := some _) hG rfl rfl rfl rfl ?_
      | refine op_d (d := some _) hG rfl rfl rfl rfl (fun h => ?_) (fun h => ?_) | refine op_e (d := some _) hG rfl rfl rfl rfl (fun h => ?_) (fun h => ?_) | refine op_ne (d := some _) hG rfl rfl rfl rfl (fun h => ?_) (fun h => ?_) | refine op_beq (d := some _) hG rfl rfl rfl rfl (fun h => ?_) (fun h => ?_)
      | refine op_rem (d := some _) hG rfl rfl rfl rfl rfl rfl (by omega) ?_ | refine op_shr (d := some _) hG rfl rfl rfl rfl rfl rfl (by omega) ?_ | refine op_w (d := some _) hG rfl rfl rfl rfl (by omega) ?_ | refine op_wu (d := some _) hG rfl rfl rfl rfl (by omega) ?_ | refine op_w16 (d := some _) hG rfl rfl rfl rfl (by omega) ?_ | refine op_w8 (d := some _) hG rfl rfl rfl rfl (by omega) ?_
      | refine op_q (d := some _) hG rfl rfl rfl ?_)
    | refine al_s (d := some _) rfl rfl rfl ?_ | (refine al_nil ?_; show AW _ _ _ _ _ _) | refine aw_seq ?_ | refine aw_regL ?_ | refine aw_if_t rfl ?_ | refine aw_if_f rfl ?_
    | (refine aw_skip ?_; show AW _ _ _ _ _ _) | refine aw_block ?_ | (refine aw_exit ?_; show AW _ _ _ _ _ _) | (refine aw_goto ?_; try dsimp only [thenA, inBlockA, jumpA, noGotoA]) | (refine aw_ret ?_; try dsimp only [thenA, inBlockA, jumpA, noGotoA])
    | refine dl_cons rfl rfl (fun K kk => op_m (d := some _) hG rfl rfl rfl rfl kk) ?_
    | refine dl_d rfl rfl (fun K kt kf => op_d (d := some _) hG rfl rfl rfl rfl kt kf) (fun h => ?_) (fun h => ?_) | refine dl_d rfl rfl (fun K kt kf => op_e (d := some _) hG rfl rfl rfl rfl kt kf) (fun h => ?_) (fun h => ?_) | refine dl_ne rfl rfl (fun K kt kf => op_ne (d := some _) hG rfl rfl rfl rfl kt kf) (fun h => ?_) (fun h => ?_) | refine dl_d rfl rfl (fun K kt kf => op_beq (d := some _) hG rfl rfl rfl rfl kt kf) (fun h => ?_) (fun h => ?_)
    | refine dl_cons rfl rfl (fun K kk => op_q (d := some _) hG rfl rfl rfl kk) ?_
    | refine dl_s rfl rfl rfl ?_ | (refine dl_nil ?_; show AW _ _ _ _ _ _) | refine aw_draw mix rfl ?_)
  refine al_cons rfl (op_append (d := some _) hG (σ0 := σ) rfl rfl rfl rfl rfl ⟨_, rfl⟩ rfl rfl rfl rfl rfl hf1 (bT_scal _) (by have := putN_le s.length 2; simp; omega) rfl rfl (fun own' hf' => ?_))
  repeat' (first
    | (refine al_cons rfl ?_; first
      | refine op_m (d := some _) hG rfl rfl rfl rfl ?_
      | refine op_d (d := some _) hG rfl rfl rfl rfl (fun h => ?_) (fun h => ?_) | refine op_e (d := some _) hG rfl rfl rfl rfl (fun h => ?_) (fun h => ?_) | refine op_ne (d := some _) hG rfl rfl rfl rfl (fun h => ?_) (fun h => ?_) | refine op_beq (d := some _) hG rfl rfl rfl rfl (fun h => ?_) (fun h => ?_)
      | refine op_rem (d := some _) hG rfl rfl rfl rfl rfl rfl (by omega) ?_ | refine op_shr (d := some _) hG rfl rfl rfl rfl rfl rfl (by omega) ?_ | refine op_w (d := some _) hG rfl rfl rfl rfl (by omega) ?_ | refine op_wu (d := some _) hG rfl rfl rfl rfl (by omega) ?_ | refine op_w16 (d := some _) hG rfl rfl rfl rfl (by omega) ?_ | refine op_w8 (d := some _) hG rfl rfl rfl rfl (by omega) ?_
      | refine op_q (d := some _) hG rfl rfl rfl ?_)
    | refine al_s (d := some _) rfl rfl rfl ?_ | (refine al_nil ?_; show AW _ _ _ _ _ _) | refine aw_seq ?_ | refine aw_regL ?_ | refine aw_if_t rfl ?_ | refine aw_if_f rfl ?_
    | (refine aw_skip ?_; show AW _ _ _ _ _ _) | refine aw_block ?_ | (refine aw_exit ?_; show AW _ _ _ _ _ _) | (refine aw_goto ?_; try dsimp only [thenA, inBlockA, jumpA, noGotoA]) | (refine aw_ret ?_; try dsimp only [thenA, inBlockA, jumpA, noGotoA])
    | refine dl_cons rfl rfl (fun K kk => op_m (d := some _) hG rfl rfl rfl rfl kk) ?_
    | refine dl_d rfl rfl (fun K kt kf => op_d (d := some _) hG rfl rfl rfl rfl kt kf) (fun h => ?_) (fun h => ?_) | refine dl_d rfl rfl (fun K kt kf => op_e (d := some _) hG rfl rfl rfl rfl kt kf) (fun h => ?_) (fun h => ?_) | refine dl_ne rfl rfl (fun K kt kf => op_ne (d := some _) hG rfl rfl rfl rfl kt kf) (fun h => ?_) (fun h => ?_) | refine dl_d rfl rfl (fun K kt kf => op_beq (d := some _) hG rfl rfl rfl rfl kt kf) (fun h => ?_) (fun h => ?_)
    | refine dl_cons rfl rfl (fun K kk => op_q (d := some _) hG rfl rfl rfl kk) ?_
    | refine dl_s rfl rfl rfl ?_ | (refine dl_nil ?_; show AW _ _ _ _ _ _) | refine aw_draw mix rfl ?_)
  refine aw_ret' _ rfl (Wk.refl _) ⟨own', hf', ?_, rfl⟩
  simp [putN]

theorem ref_TakeBytes (own) (b : List UInt8) (σ : St) (hl : b.length ≤ 4294967296) :
    ACalls Try.prog 32 [.sl 1 own (b.map bT)] σ (fun r σ' => r = .tup [.sl 1 none ((takeBE b).1.map bT), .int .i64 (takeBE b).2.1, .int .i64 (takeBE b).2.2] ∧ σ' = σ) := by
  refine acalls_mk hG Try.func32 rfl rfl rfl rfl rfl ?_
  have hlm : (List.map bT b).length = b.length := by simp
  repeat' (first
    | (refine al_cons rfl ?_; first
      | refine op_m (d := some _) hG rfl rfl rfl rfl ?_
      | refine op_d (d := some _) hG rfl rfl rfl rfl (fun h => ?_) (fun h => ?_) | refine op_e (d := some _) hG rfl rfl rfl rfl (fun h => ?_) (fun h => ?_) | refine op_ne (d := some _) hG rfl rfl rfl rfl (fun h => ?_) (fun h => ?_) | refine op_beq (d := some _) hG rfl rfl rfl rfl (fun h => ?_) (fun h => ?_)
      | refine op_rem (d := some _) hG rfl rfl rfl rfl rfl rfl (by omega) ?_ | refine op_shr (d := some _) hG rfl rfl rfl rfl rfl rfl (by omega) ?_ | refine op_w (d := some _) hG rfl rfl rfl rfl (by omega) ?_ | refine op_wu (d := some _) hG rfl rfl rfl rfl (by omega) ?_ | refine op_w16 (d := some _) hG rfl rfl rfl rfl (by omega) ?_ | refine op_w8 (d := some _) hG rfl rfl rfl rfl (by omega) ?_
      | refine op_q (d := some _) hG rfl rfl rfl ?_)
    | refine al_s (d := some _) rfl rfl rfl ?_ | (refine al_nil ?_; show AW _ _ _ _ _ _) | refine aw_seq ?_ | refine aw_regL ?_ | refine aw_if_t rfl ?_ | refine aw_if_f rfl ?_
    | (refine aw_skip ?_; show AW _ _ _ _ _ _) | refine aw_block ?_ | (refine aw_exit ?_; show AW _ _ _ _ _ _) | (refine aw_goto ?_; try dsimp only [thenA, inBlockA, jumpA, noGotoA]) | (refine aw_ret ?_; try dsimp only [thenA, inBlockA, jumpA, noGotoA])
    | refine dl_cons rfl rfl (fun K kk => op_m (d := some _) hG rfl rfl rfl rfl kk) ?_
    | refine dl_d rfl rfl (fun K kt kf => op_d (d := some _) hG rfl rfl rfl rfl kt kf) (fun h => ?_) (fun h => ?_) | refine dl_d rfl rfl (fun K kt kf => op_e (d := some _) hG rfl rfl rfl rfl kt kf) (fun h => ?_) (fun h => ?_) | refine dl_ne rfl rfl (fun K kt kf => op_ne (d := some _) hG rfl rfl rfl rfl kt kf) (fun h => ?_) (fun h => ?_) | refine dl_d rfl rfl (fun K kt kf => op_beq (d := some _) hG rfl rfl rfl rfl kt kf) (fun h => ?_) (fun h => ?_)
    | refine dl_cons rfl rfl (fun K kk => op_q (d := some _) hG rfl rfl rfl kk) ?_
    | refine dl_s rfl rfl rfl ?_ | (refine dl_nil ?_; show AW _ _ _ _ _ _) | refine aw_draw mix rfl ?_)
  refine al_cons rfl (op_call (d := some _) rfl rfl rfl rfl rfl ?_)
  refine (ref_Take own b 2 σ).pure ?_
  by_cases h2 : (b.length : Int) < 2
  · have ht : takeE b 2 = (0, 3) := by rw [takeE, if_neg (by omega), if_pos h2]
    have hr : takeBE b = ([], 0, 3) := by rw [takeBE, if_pos h2]
    rw [ht, hr]
    dsimp only
    repeat' (first
    | (refine al_cons rfl ?_; first
      | refine op_m (d := some _) hG rfl rfl rfl rfl ?_
      | refine op_d (d := some _) hG rfl rfl rfl rfl (fun h => ?_) (fun h => ?_) | refine op_e (d := some _) hG rfl rfl rfl rfl (fun h => ?_) (fun h => ?_) | refine op_ne (d := some _) hG rfl rfl rfl rfl (fun h => ?_) (fun h => ?_) | refine op_beq (d := some _) hG rfl rfl rfl rfl (fun h => ?_) (fun h => ?_)
      | refine op_rem (d := some _) hG rfl rfl rfl rfl rfl rfl (by omega) ?_ | refine op_shr (d := some _) hG rfl rfl rfl rfl rfl rfl (by omega) ?_ | refine op_w (d := some _) hG rfl rfl rfl rfl (by omega) ?_ | refine op_wu (d := some _) hG rfl rfl rfl rfl (by omega) ?_ | refine op_w16 (d := some _) hG rfl rfl rfl rfl (by omega) ?_ | refine op_w8 (d := some _) hG rfl rfl rfl rfl (by omega) ?_
      | refine op_q (d := some _) hG rfl rfl rfl ?_)
    | refine al_s (d := some _) rfl rfl rfl ?_ | (refine al_nil ?_; show AW _ _ _ _ _ _) | refine aw_seq ?_ | refine aw_regL ?_ | refine aw_if_t rfl ?_ | refine aw_if_f rfl ?_
    | (refine aw_skip ?_; show AW _ _ _ _ _ _) | refine aw_block ?_ | (refine aw_exit ?_; show AW _ _ _ _ _ _) | (refine aw_goto ?_; try dsimp only [thenA, inBlockA, jumpA, noGotoA]) | (refine aw_ret ?_; try dsimp only [thenA, inBlockA, jumpA, noGotoA])
    | refine dl_cons rfl rfl (fun K kk => op_m (d := some _) hG rfl rfl rfl rfl kk) ?_
    | refine dl_d rfl rfl (fun K kt kf => op_d (d := some _) hG rfl rfl rfl rfl kt kf) (fun h => ?_) (fun h => ?_) | refine dl_d rfl rfl (fun K kt kf => op_e (d := some _) hG rfl rfl rfl rfl kt kf) (fun h => ?_) (fun h => ?_) | refine dl_ne rfl rfl (fun K kt kf => op_ne (d := some _) hG rfl rfl rfl rfl kt kf) (fun h => ?_) (fun h => ?_) | refine dl_d rfl rfl (fun K kt kf => op_beq (d := some _) hG rfl rfl rfl rfl kt kf) (fun h => ?_) (fun h => ?_)
    | refine dl_cons rfl rfl (fun K kk => op_q (d := some _) hG rfl rfl rfl kk) ?_
    | refine dl_s rfl rfl rfl ?_ | (refine dl_nil ?_; show AW _ _ _ _ _ _) | refine aw_draw mix rfl ?_)
    all_goals first | exact aw_ret' (.tup [.sl 1 none [], .int .i64 0, .int .i64 3]) rfl (Wk.tupL (wk3 (.nil 1) (.refl _) (.refl _))) ⟨rfl, rfl⟩ | (exfalso; omega)
  · have ht : takeE b 2 = (beV (b.take 2), 0) := by rw [takeE, if_neg (by omega), if_neg h2]; rfl
    have hv : beV (b.take 2) < 65536 := by have := beV_lt 2 (b.take 2) (by simp; omega); simpa using this
    rw [ht]
    dsimp only
    repeat' (first
    | (refine al_cons rfl ?_; first
      | refine op_m (d := some _) hG rfl rfl rfl rfl ?_
      | refine op_d (d := some _) hG rfl rfl rfl rfl (fun h => ?_) (fun h => ?_) | refine op_e (d := some _) hG rfl rfl rfl rfl (fun h => ?_) (fun h => ?_) | refine op_ne (d := some _) hG rfl rfl rfl rfl (fun h => ?_) (fun h => ?_) | refine op_beq (d := some _) hG rfl rfl rfl rfl (fun h => ?_) (fun h => ?_)
      | refine op_rem (d := some _) hG rfl rfl rfl rfl rfl rfl (by omega) ?_ | refine op_shr (d := some _) hG rfl rfl rfl rfl rfl rfl (by omega) ?_ | refine op_w (d := some _) hG rfl rfl rfl rfl (by omega) ?_ | refine op_wu (d := some _) hG rfl rfl rfl rfl (by omega) ?_ | refine op_w16 (d := some _) hG rfl rfl rfl rfl (by omega) ?_ | refine op_w8 (d := some _) hG rfl rfl rfl rfl (by omega) ?_
      | refine op_q (d := some _) hG rfl rfl rfl ?_)
    | refine al_s (d := some _) rfl rfl rfl ?_ | (refine al_nil ?_; show AW _ _ _ _ _ _) | refine aw_seq ?_ | refine aw_regL ?_ | refine aw_if_t rfl ?_ | refine aw_if_f rfl ?_
    | (refine aw_skip ?_; show AW _ _ _ _ _ _) | refine aw_block ?_ | (refine aw_exit ?_; show AW _ _ _ _ _ _) | (refine aw_goto ?_; try dsimp only [thenA, inBlockA, jumpA, noGotoA]) | (refine aw_ret ?_; try dsimp only [thenA, inBlockA, jumpA, noGotoA])
    | refine dl_cons rfl rfl (fun K kk => op_m (d := some _) hG rfl rfl rfl rfl kk) ?_
    | refine dl_d rfl rfl (fun K kt kf => op_d (d := some _) hG rfl rfl rfl rfl kt kf) (fun h => ?_) (fun h => ?_) | refine dl_d rfl rfl (fun K kt kf => op_e (d := some _) hG rfl rfl rfl rfl kt kf) (fun h => ?_) (fun h => ?_) | refine dl_ne rfl rfl (fun K kt kf => op_ne (d := some _) hG rfl rfl rfl rfl kt kf) (fun h => ?_) (fun h => ?_) | refine dl_d rfl rfl (fun K kt kf => op_beq (d := some _) hG rfl rfl rfl rfl kt kf) (fun h => ?_) (fun h => ?_)
    | refine dl_cons rfl rfl (fun K kk => op_q (d := some _) hG rfl rfl rfl kk) ?_
    | refine dl_s rfl rfl rfl ?_ | (refine dl_nil ?_; show AW _ _ _ _ _ _) | refine aw_draw mix rfl ?_)
    · omega
    · have hr : takeBE b = ([], 0, 3) := by rw [takeBE, if_neg h2, if_pos (by omega)]
      rw [hr]
      exact aw_ret' (.tup [.sl 1 none [], .int .i64 0, .int .i64 3]) rfl (Wk.tupL (wk3 (.nil 1) (.refl _) (.refl _))) ⟨rfl, rfl⟩
    · refine al_cons rfl (op_mkslice (d := some _) hG rfl rfl rfl rfl rfl rfl rfl rfl ?_)
      repeat' (first
    | (refine al_cons rfl ?_; first
      | refine op_m (d := some _) hG rfl rfl rfl rfl ?_
      | refine op_d (d := some _) hG rfl rfl rfl rfl (fun h => ?_) (fun h => ?_) | refine op_e (d := some _) hG rfl rfl rfl rfl (fun h => ?_) (fun h => ?_) | refine op_ne (d := some _) hG rfl rfl rfl rfl (fun h => ?_) (fun h => ?_) | refine op_beq (d := some _) hG rfl rfl rfl rfl (fun h => ?_) (fun h => ?_)
      | refine op_rem (d := some _) hG rfl rfl rfl rfl rfl rfl (by omega) ?_ | refine op_shr (d := some _) hG rfl rfl rfl rfl rfl rfl (by omega) ?_ | refine op_w (d := some _) hG rfl rfl rfl rfl (by omega) ?_ | refine op_wu (d := some _) hG rfl rfl rfl rfl (by omega) ?_ | refine op_w16 (d := some _) hG rfl rfl rfl rfl (by omega) ?_ | refine op_w8 (d := some _) hG rfl rfl rfl rfl (by omega) ?_
      | refine op_q (d := some _) hG rfl rfl rfl ?_)
    | refine al_s (d := some _) rfl rfl rfl ?_ | (refine al_nil ?_; show AW _ _ _ _ _ _) | refine aw_seq ?_ | refine aw_regL ?_ | refine aw_if_t rfl ?_ | refine aw_if_f rfl ?_
    | (refine aw_skip ?_; show AW _ _ _ _ _ _) | refine aw_block ?_ | (refine aw_exit ?_; show AW _ _ _ _ _ _) | (refine aw_goto ?_; try dsimp only [thenA, inBlockA, jumpA, noGotoA]) | (refine aw_ret ?_; try dsimp only [thenA, inBlockA, jumpA, noGotoA])
    | refine dl_cons rfl rfl (fun K kk => op_m (d := some _) hG rfl rfl rfl rfl kk) ?_
    | refine dl_d rfl rfl (fun K kt kf => op_d (d := some _) hG rfl rfl rfl rfl kt kf) (fun h => ?_) (fun h => ?_) | refine dl_d rfl rfl (fun K kt kf => op_e (d := some _) hG rfl rfl rfl rfl kt kf) (fun h => ?_) (fun h => ?_) | refine dl_ne rfl rfl (fun K kt kf => op_ne (d := some _) hG rfl rfl rfl rfl kt kf) (fun h => ?_) (fun h => ?_) | refine dl_d rfl rfl (fun K kt kf => op_beq (d := some _) hG rfl rfl rfl rfl kt kf) (fun h => ?_) (fun h => ?_)
    | refine dl_cons rfl rfl (fun K kk => op_q (d := some _) hG rfl rfl rfl kk) ?_
    | refine dl_s rfl rfl rfl ?_ | (refine dl_nil ?_; show AW _ _ _ _ _ _) | refine aw_draw mix rfl ?_)
      refine al_cons rfl (op_slice (d := some _) hG rfl rfl rfl rfl rfl rfl rfl rfl rfl rfl (by omega) ?_)
      repeat' (first
    | (refine al_cons rfl ?_; first
      | refine op_m (d := some _) hG rfl rfl rfl rfl ?_
      | refine op_d (d := some _) hG rfl rfl rfl rfl (fun h => ?_) (fun h => ?_) | refine op_e (d := some _) hG rfl rfl rfl rfl (fun h => ?_) (fun h => ?_) | refine op_ne (d := some _) hG rfl rfl rfl rfl (fun h => ?_) (fun h => ?_) | refine op_beq (d := some _) hG rfl rfl rfl rfl (fun h => ?_) (fun h => ?_)
      | refine op_rem (d := some _) hG rfl rfl rfl rfl rfl rfl (by omega) ?_ | refine op_shr (d := some _) hG rfl rfl rfl rfl rfl rfl (by omega) ?_ | refine op_w (d := some _) hG rfl rfl rfl rfl (by omega) ?_ | refine op_wu (d := some _) hG rfl rfl rfl rfl (by omega) ?_ | refine op_w16 (d := some _) hG rfl rfl rfl rfl (by omega) ?_ | refine op_w8 (d := some _) hG rfl rfl rfl rfl (by omega) ?_
      | refine op_q (d := some _) hG rfl rfl rfl ?_)
    | refine al_s (d := some _) rfl rfl rfl ?_ | (refine al_nil ?_; show AW _ _ _ _ _ _) | refine aw_seq ?_ | refine aw_regL ?_ | refine aw_if_t rfl ?_ | refine aw_if_f rfl ?_
    | (refine aw_skip ?_; show AW _ _ _ _ _ _) | refine aw_block ?_ | (refine aw_exit ?_; show AW _ _ _ _ _ _) | (refine aw_goto ?_; try dsimp only [thenA, inBlockA, jumpA, noGotoA]) | (refine aw_ret ?_; try dsimp only [thenA, inBlockA, jumpA, noGotoA])
    | refine dl_cons rfl rfl (fun K kk => op_m (d := some _) hG rfl rfl rfl rfl kk) ?_
    | refine dl_d rfl rfl (fun K kt kf => op_d (d := some _) hG rfl rfl rfl rfl kt kf) (fun h => ?_) (fun h => ?_) | refine dl_d rfl rfl (fun K kt kf => op_e (d := some _) hG rfl rfl rfl rfl kt kf) (fun h => ?_) (fun h => ?_) | refine dl_ne rfl rfl (fun K kt kf => op_ne (d := some _) hG rfl rfl rfl rfl kt kf) (fun h => ?_) (fun h => ?_) | refine dl_d rfl rfl (fun K kt kf => op_beq (d := some _) hG rfl rfl rfl rfl kt kf) (fun h => ?_) (fun h => ?_)
    | refine dl_cons rfl rfl (fun K kk => op_q (d := some _) hG rfl rfl rfl kk) ?_
    | refine dl_s rfl rfl rfl ?_ | (refine dl_nil ?_; show AW _ _ _ _ _ _) | refine aw_draw mix rfl ?_)
      have hcut : ((b.map bT).take (2 + (beV (b.take 2) : Int)).toNat).drop (2 : Int).toNat = ((b.take (2 + beV (b.take 2))).drop 2).map bT := by
        rw [show (2 + (beV (b.take 2) : Int)).toNat = 2 + beV (b.take 2) by omega, ← List.map_take, ← List.map_drop]; rfl
      refine al_cons rfl (op_append (d := some _) hG (σ0 := σ) rfl rfl rfl rfl rfl ⟨_, rfl⟩ rfl rfl rfl rfl rfl (.inl rfl) ?_ ?_ rfl rfl (fun own' hf' => ?_))
      · rw [hcut]; exact bT_scal _
      · rw [hcut]; simp; omega
      rw [hcut]
      repeat' (first | (refine al_cons rfl ?_; first | refine op_m (d := some _) hG rfl rfl rfl rfl ?_ | refine op_q (d := some _) hG rfl rfl rfl ?_) | refine al_s (d := some _) rfl rfl rfl ?_)
      refine al_nil ?_
      show AW _ _ _ _ _ _
      refine aw_ghost (sp_drop hf') ?_
      repeat' (first
    | (refine al_cons rfl ?_; first
      | refine op_m (d := some _) hG rfl rfl rfl rfl ?_
      | refine op_d (d := some _) hG rfl rfl rfl rfl (fun h => ?_) (fun h => ?_) | refine op_e (d := some _) hG rfl rfl rfl rfl (fun h => ?_) (fun h => ?_) | refine op_ne (d := some _) hG rfl rfl rfl rfl (fun h => ?_) (fun h => ?_) | refine op_beq (d := some _) hG rfl rfl rfl rfl (fun h => ?_) (fun h => ?_)
      | refine op_rem (d := some _) hG rfl rfl rfl rfl rfl rfl (by omega) ?_ | refine op_shr (d := some _) hG rfl rfl rfl rfl rfl rfl (by omega) ?_ | refine op_w (d := some _) hG rfl rfl rfl rfl (by omega) ?_ | refine op_wu (d := some _) hG rfl rfl rfl rfl (by omega) ?_ | refine op_w16 (d := some _) hG rfl rfl rfl rfl (by omega) ?_ | refine op_w8 (d := some _) hG rfl rfl rfl rfl (by omega) ?_
      | refine op_q (d := some _) hG rfl rfl rfl ?_)
    | refine al_s (d := some _) rfl rfl rfl ?_ | (refine al_nil ?_; show AW _ _ _ _ _ _) | refine aw_seq ?_ | refine aw_regL ?_ | refine aw_if_t rfl ?_ | refine aw_if_f rfl ?_
    | (refine aw_skip ?_; show AW _ _ _ _ _ _) | refine aw_block ?_ | (refine aw_exit ?_; show AW _ _ _ _ _ _) | (refine aw_goto ?_; try dsimp only [thenA, inBlockA, jumpA, noGotoA]) | (refine aw_ret ?_; try dsimp only [thenA, inBlockA, jumpA, noGotoA])
    | refine dl_cons rfl rfl (fun K kk => op_m (d := some _) hG rfl rfl rfl rfl kk) ?_
    | refine dl_d rfl rfl (fun K kt kf => op_d (d := some _) hG rfl rfl rfl rfl kt kf) (fun h => ?_) (fun h => ?_) | refine dl_d rfl rfl (fun K kt kf => op_e (d := some _) hG rfl rfl rfl rfl kt kf) (fun h => ?_) (fun h => ?_) | refine dl_ne rfl rfl (fun K kt kf => op_ne (d := some _) hG rfl rfl rfl rfl kt kf) (fun h => ?_) (fun h => ?_) | refine dl_d rfl rfl (fun K kt kf => op_beq (d := some _) hG rfl rfl rfl rfl kt kf) (fun h => ?_) (fun h => ?_)
    | refine dl_cons rfl rfl (fun K kk => op_q (d := some _) hG rfl rfl rfl kk) ?_
    | refine dl_s rfl rfl rfl ?_ | (refine dl_nil ?_; show AW _ _ _ _ _ _) | refine aw_draw mix rfl ?_)
      have hr : takeBE b = (((b.take (2 + beV (b.take 2))).drop 2), 2 + beV (b.take 2), 0) := by rw [takeBE, if_neg h2, if_neg (by omega)]
      rw [hr]
      exact aw_ret' (.tup [.sl 1 none (((b.take (2 + beV (b.take 2))).drop 2).map bT), .int .i64 (2 + beV (b.take 2) : Nat), .int .i64 0]) rfl (Wk.tupL (wk3 (Wk.own _ _ _) (.int (by rw [i64_in (n := (beV (b.take 2) : Int)) (by omega) (by omega), i64_in (by omega) (by omega)]; simp)) (.refl _))) ⟨rfl, rfl⟩

theorem numBytes_any (b s : List UInt8) (σ : St) (hb : b.length ≤ bigLen) (hs : s.length ≤ bigLen) :
    ACalls Try.prog 7 [.sl 1 none (b.map bT), .sl 1 none (s.map bT)] σ (fun r _ => r = .bool true) := by
  have hlb : (b.map bT).length = b.length := by simp
  have hls : (s.map bT).length = s.length := by simp
  unfold bigLen at hb hs
  refine acalls_mk hG Try.func7 rfl rfl rfl rfl rfl ?_
  repeat' (first
    | (refine al_cons rfl ?_; first
      | refine op_m (d := some _) hG rfl rfl rfl rfl ?_
      | refine op_d (d := some _) hG rfl rfl rfl rfl (fun h => ?_) (fun h => ?_) | refine op_e (d := some _) hG rfl rfl rfl rfl (fun h => ?_) (fun h => ?_) | refine op_ne (d := some _) hG rfl rfl rfl rfl (fun h => ?_) (fun h => ?_) | refine op_beq (d := some _) hG rfl rfl rfl rfl (fun h => ?_) (fun h => ?_)
      | refine op_rem (d := some _) hG rfl rfl rfl rfl rfl rfl (by omega) ?_ | refine op_shr (d := some _) hG rfl rfl rfl rfl rfl rfl (by omega) ?_ | refine op_w (d := some _) hG rfl rfl rfl rfl (by omega) ?_ | refine op_wu (d := some _) hG rfl rfl rfl rfl (by omega) ?_ | refine op_w16 (d := some _) hG rfl rfl rfl rfl (by omega) ?_ | refine op_w8 (d := some _) hG rfl rfl rfl rfl (by omega) ?_
      | refine op_q (d := some _) hG rfl rfl rfl ?_)
    | refine al_s (d := some _) rfl rfl rfl ?_ | (refine al_nil ?_; show AW _ _ _ _ _ _) | refine aw_seq ?_ | refine aw_regL ?_ | refine aw_if_t rfl ?_ | refine aw_if_f rfl ?_
    | (refine aw_skip ?_; show AW _ _ _ _ _ _) | refine aw_block ?_ | (refine aw_exit ?_; show AW _ _ _ _ _ _) | (refine aw_goto ?_; try dsimp only [thenA, inBlockA, jumpA, noGotoA]) | (refine aw_ret ?_; try dsimp only [thenA, inBlockA, jumpA, noGotoA])
    | refine dl_cons rfl rfl (fun K kk => op_m (d := some _) hG rfl rfl rfl rfl kk) ?_
    | refine dl_d rfl rfl (fun K kt kf => op_d (d := some _) hG rfl rfl rfl rfl kt kf) (fun h => ?_) (fun h => ?_) | refine dl_d rfl rfl (fun K kt kf => op_e (d := some _) hG rfl rfl rfl rfl kt kf) (fun h => ?_) (fun h => ?_) | refine dl_ne rfl rfl (fun K kt kf => op_ne (d := some _) hG rfl rfl rfl rfl kt kf) (fun h => ?_) (fun h => ?_) | refine dl_d rfl rfl (fun K kt kf => op_beq (d := some _) hG rfl rfl rfl rfl kt kf) (fun h => ?_) (fun h => ?_)
    | refine dl_cons rfl rfl (fun K kk => op_q (d := some _) hG rfl rfl rfl kk) ?_
    | refine dl_s rfl rfl rfl ?_ | (refine dl_nil ?_; show AW _ _ _ _ _ _) | refine aw_draw mix rfl ?_)
  refine al_cons rfl (op_call (d := some _) rfl rfl rfl rfl rfl ?_)
  refine (num_begun σ).pure ?_
  repeat' (first
    | (refine al_cons rfl ?_; first
      | refine op_m (d := some _) hG rfl rfl rfl rfl ?_
      | refine op_d (d := some _) hG rfl rfl rfl rfl (fun h => ?_) (fun h => ?_) | refine op_e (d := some _) hG rfl rfl rfl rfl (fun h => ?_) (fun h => ?_) | refine op_ne (d := some _) hG rfl rfl rfl rfl (fun h => ?_) (fun h => ?_) | refine op_beq (d := some _) hG rfl rfl rfl rfl (fun h => ?_) (fun h => ?_)
      | refine op_rem (d := some _) hG rfl rfl rfl rfl rfl rfl (by omega) ?_ | refine op_shr (d := some _) hG rfl rfl rfl rfl rfl rfl (by omega) ?_ | refine op_w (d := some _) hG rfl rfl rfl rfl (by omega) ?_ | refine op_wu (d := some _) hG rfl rfl rfl rfl (by omega) ?_ | refine op_w16 (d := some _) hG rfl rfl rfl rfl (by omega) ?_ | refine op_w8 (d := some _) hG rfl rfl rfl rfl (by omega) ?_
      | refine op_q (d := some _) hG rfl rfl rfl ?_)
    | refine al_s (d := some _) rfl rfl rfl ?_ | (refine al_nil ?_; show AW _ _ _ _ _ _) | refine aw_seq ?_ | refine aw_regL ?_ | refine aw_if_t rfl ?_ | refine aw_if_f rfl ?_
    | (refine aw_skip ?_; show AW _ _ _ _ _ _) | refine aw_block ?_ | (refine aw_exit ?_; show AW _ _ _ _ _ _) | (refine aw_goto ?_; try dsimp only [thenA, inBlockA, jumpA, noGotoA]) | (refine aw_ret ?_; try dsimp only [thenA, inBlockA, jumpA, noGotoA])
    | refine dl_cons rfl rfl (fun K kk => op_m (d := some _) hG rfl rfl rfl rfl kk) ?_
    | refine dl_d rfl rfl (fun K kt kf => op_d (d := some _) hG rfl rfl rfl rfl kt kf) (fun h => ?_) (fun h => ?_) | refine dl_d rfl rfl (fun K kt kf => op_e (d := some _) hG rfl rfl rfl rfl kt kf) (fun h => ?_) (fun h => ?_) | refine dl_ne rfl rfl (fun K kt kf => op_ne (d := some _) hG rfl rfl rfl rfl kt kf) (fun h => ?_) (fun h => ?_) | refine dl_d rfl rfl (fun K kt kf => op_beq (d := some _) hG rfl rfl rfl rfl kt kf) (fun h => ?_) (fun h => ?_)
    | refine dl_cons rfl rfl (fun K kk => op_q (d := some _) hG rfl rfl rfl kk) ?_
    | refine dl_s rfl rfl rfl ?_ | (refine dl_nil ?_; show AW _ _ _ _ _ _) | refine aw_draw mix rfl ?_)
  · exact retA_true rfl
  · exact retA_true rfl
  refine al_cons rfl (op_call (d := some _) rfl rfl rfl rfl rfl ?_)
  refine (num_TakeBytes _ b σ (by omega)).pure ?_
  repeat' (first
    | (refine al_cons rfl ?_; first
      | refine op_m (d := some _) hG rfl rfl rfl rfl ?_
      | refine op_d (d := some _) hG rfl rfl rfl rfl (fun h => ?_) (fun h => ?_) | refine op_e (d := some _) hG rfl rfl rfl rfl (fun h => ?_) (fun h => ?_) | refine op_ne (d := some _) hG rfl rfl rfl rfl (fun h => ?_) (fun h => ?_) | refine op_beq (d := some _) hG rfl rfl rfl rfl (fun h => ?_) (fun h => ?_)
      | refine op_rem (d := some _) hG rfl rfl rfl rfl rfl rfl (by omega) ?_ | refine op_shr (d := some _) hG rfl rfl rfl rfl rfl rfl (by omega) ?_ | refine op_w (d := some _) hG rfl rfl rfl rfl (by omega) ?_ | refine op_wu (d := some _) hG rfl rfl rfl rfl (by omega) ?_ | refine op_w16 (d := some _) hG rfl rfl rfl rfl (by omega) ?_ | refine op_w8 (d := some _) hG rfl rfl rfl rfl (by omega) ?_
      | refine op_q (d := some _) hG rfl rfl rfl ?_)
    | refine al_s (d := some _) rfl rfl rfl ?_ | (refine al_nil ?_; show AW _ _ _ _ _ _) | refine aw_seq ?_ | refine aw_regL ?_ | refine aw_if_t rfl ?_ | refine aw_if_f rfl ?_
    | (refine aw_skip ?_; show AW _ _ _ _ _ _) | refine aw_block ?_ | (refine aw_exit ?_; show AW _ _ _ _ _ _) | (refine aw_goto ?_; try dsimp only [thenA, inBlockA, jumpA, noGotoA]) | (refine aw_ret ?_; try dsimp only [thenA, inBlockA, jumpA, noGotoA])
    | refine dl_cons rfl rfl (fun K kk => op_m (d := some _) hG rfl rfl rfl rfl kk) ?_
    | refine dl_d rfl rfl (fun K kt kf => op_d (d := some _) hG rfl rfl rfl rfl kt kf) (fun h => ?_) (fun h => ?_) | refine dl_d rfl rfl (fun K kt kf => op_e (d := some _) hG rfl rfl rfl rfl kt kf) (fun h => ?_) (fun h => ?_) | refine dl_ne rfl rfl (fun K kt kf => op_ne (d := some _) hG rfl rfl rfl rfl kt kf) (fun h => ?_) (fun h => ?_) | refine dl_d rfl rfl (fun K kt kf => op_beq (d := some _) hG rfl rfl rfl rfl kt kf) (fun h => ?_) (fun h => ?_)
    | refine dl_cons rfl rfl (fun K kk => op_q (d := some _) hG rfl rfl rfl kk) ?_
    | refine dl_s rfl rfl rfl ?_ | (refine dl_nil ?_; show AW _ _ _ _ _ _) | refine aw_draw mix rfl ?_)
  refine al_cons rfl (op_call (d := some _) rfl rfl rfl rfl rfl ?_)
  refine (ref_TakeBytes _ b σ (by omega)).pure ?_
  repeat' (first
    | (refine al_cons rfl ?_; first
      | refine op_m (d := some _) hG rfl rfl rfl rfl ?_
      | refine op_d (d := some _) hG rfl rfl rfl rfl (fun h => ?_) (fun h => ?_) | refine op_e (d := some _) hG rfl rfl rfl rfl (fun h => ?_) (fun h => ?_) | refine op_ne (d := some _) hG rfl rfl rfl rfl (fun h => ?_) (fun h => ?_) | refine op_beq (d := some _) hG rfl rfl rfl rfl (fun h => ?_) (fun h => ?_)
      | refine op_rem (d := some _) hG rfl rfl rfl rfl rfl rfl (by omega) ?_ | refine op_shr (d := some _) hG rfl rfl rfl rfl rfl rfl (by omega) ?_ | refine op_w (d := some _) hG rfl rfl rfl rfl (by omega) ?_ | refine op_wu (d := some _) hG rfl rfl rfl rfl (by omega) ?_ | refine op_w16 (d := some _) hG rfl rfl rfl rfl (by omega) ?_ | refine op_w8 (d := some _) hG rfl rfl rfl rfl (by omega) ?_
      | refine op_q (d := some _) hG rfl rfl rfl ?_)
    | refine al_s (d := some _) rfl rfl rfl ?_ | (refine al_nil ?_; show AW _ _ _ _ _ _) | refine aw_seq ?_ | refine aw_regL ?_ | refine aw_if_t rfl ?_ | refine aw_if_f rfl ?_
    | (refine aw_skip ?_; show AW _ _ _ _ _ _) | refine aw_block ?_ | (refine aw_exit ?_; show AW _ _ _ _ _ _) | (refine aw_goto ?_; try dsimp only [thenA, inBlockA, jumpA, noGotoA]) | (refine aw_ret ?_; try dsimp only [thenA, inBlockA, jumpA, noGotoA])
    | refine dl_cons rfl rfl (fun K kk => op_m (d := some _) hG rfl rfl rfl rfl kk) ?_
    | refine dl_d rfl rfl (fun K kt kf => op_d (d := some _) hG rfl rfl rfl rfl kt kf) (fun h => ?_) (fun h => ?_) | refine dl_d rfl rfl (fun K kt kf => op_e (d := some _) hG rfl rfl rfl rfl kt kf) (fun h => ?_) (fun h => ?_) | refine dl_ne rfl rfl (fun K kt kf => op_ne (d := some _) hG rfl rfl rfl rfl kt kf) (fun h => ?_) (fun h => ?_) | refine dl_d rfl rfl (fun K kt kf => op_beq (d := some _) hG rfl rfl rfl rfl kt kf) (fun h => ?_) (fun h => ?_)
    | refine dl_cons rfl rfl (fun K kk => op_q (d := some _) hG rfl rfl rfl kk) ?_
    | refine dl_s rfl rfl rfl ?_ | (refine dl_nil ?_; show AW _ _ _ _ _ _) | refine aw_draw mix rfl ?_)
  refine dl_cons rfl rfl (fun K kk => op_call (d := some _) rfl rfl rfl rfl rfl ((num_PutBytes _ _ b s σ (by omega) (by omega)).drop.pure kk)) ?_
  refine dl_cons rfl rfl (fun K kk => op_tostr (d := some _) hG rfl rfl rfl rfl rfl rfl rfl rfl rfl rfl (bytesOf_map _) kk) ?_
  repeat' (first
    | (refine al_cons rfl ?_; first
      | refine op_m (d := some _) hG rfl rfl rfl rfl ?_
      | refine op_d (d := some _) hG rfl rfl rfl rfl (fun h => ?_) (fun h => ?_) | refine op_e (d := some _) hG rfl rfl rfl rfl (fun h => ?_) (fun h => ?_) | refine op_ne (d := some _) hG rfl rfl rfl rfl (fun h => ?_) (fun h => ?_) | refine op_beq (d := some _) hG rfl rfl rfl rfl (fun h => ?_) (fun h => ?_)
      | refine op_rem (d := some _) hG rfl rfl rfl rfl rfl rfl (by omega) ?_ | refine op_shr (d := some _) hG rfl rfl rfl rfl rfl rfl (by omega) ?_ | refine op_w (d := some _) hG rfl rfl rfl rfl (by omega) ?_ | refine op_wu (d := some _) hG rfl rfl rfl rfl (by omega) ?_ | refine op_w16 (d := some _) hG rfl rfl rfl rfl (by omega) ?_ | refine op_w8 (d := some _) hG rfl rfl rfl rfl (by omega) ?_
      | refine op_q (d := some _) hG rfl rfl rfl ?_)
    | refine al_s (d := some _) rfl rfl rfl ?_ | (refine al_nil ?_; show AW _ _ _ _ _ _) | refine aw_seq ?_ | refine aw_regL ?_ | refine aw_if_t rfl ?_ | refine aw_if_f rfl ?_
    | (refine aw_skip ?_; show AW _ _ _ _ _ _) | refine aw_block ?_ | (refine aw_exit ?_; show AW _ _ _ _ _ _) | (refine aw_goto ?_; try dsimp only [thenA, inBlockA, jumpA, noGotoA]) | (refine aw_ret ?_; try dsimp only [thenA, inBlockA, jumpA, noGotoA])
    | refine dl_cons rfl rfl (fun K kk => op_m (d := some _) hG rfl rfl rfl rfl kk) ?_
    | refine dl_d rfl rfl (fun K kt kf => op_d (d := some _) hG rfl rfl rfl rfl kt kf) (fun h => ?_) (fun h => ?_) | refine dl_d rfl rfl (fun K kt kf => op_e (d := some _) hG rfl rfl rfl rfl kt kf) (fun h => ?_) (fun h => ?_) | refine dl_ne rfl rfl (fun K kt kf => op_ne (d := some _) hG rfl rfl rfl rfl kt kf) (fun h => ?_) (fun h => ?_) | refine dl_d rfl rfl (fun K kt kf => op_beq (d := some _) hG rfl rfl rfl rfl kt kf) (fun h => ?_) (fun h => ?_)
    | refine dl_cons rfl rfl (fun K kk => op_q (d := some _) hG rfl rfl rfl kk) ?_
    | refine dl_s rfl rfl rfl ?_ | (refine dl_nil ?_; show AW _ _ _ _ _ _) | refine aw_draw mix rfl ?_)
  refine dl_cons rfl rfl (fun K kk => op_call (d := some _) rfl rfl rfl rfl rfl ((ref_PutBytes _ _ b s σ (by omega) (by omega)).drop.pure kk)) ?_
  refine dl_cons rfl rfl (fun K kk => op_tostr (d := some _) hG rfl rfl rfl rfl rfl rfl rfl rfl rfl rfl (bytesOf_map _) kk) ?_
  repeat' (first
    | (refine al_cons rfl ?_; first
      | refine op_m (d := some _) hG rfl rfl rfl rfl ?_
      | refine op_d (d := some _) hG rfl rfl rfl rfl (fun h => ?_) (fun h => ?_) | refine op_e (d := some _) hG rfl rfl rfl rfl (fun h => ?_) (fun h => ?_) | refine op_ne (d := some _) hG rfl rfl rfl rfl (fun h => ?_) (fun h => ?_) | refine op_beq (d := some _) hG rfl rfl rfl rfl (fun h => ?_) (fun h => ?_)
      | refine op_rem (d := some _) hG rfl rfl rfl rfl rfl rfl (by omega) ?_ | refine op_shr (d := some _) hG rfl rfl rfl rfl rfl rfl (by omega) ?_ | refine op_w (d := some _) hG rfl rfl rfl rfl (by omega) ?_ | refine op_wu (d := some _) hG rfl rfl rfl rfl (by omega) ?_ | refine op_w16 (d := some _) hG rfl rfl rfl rfl (by omega) ?_ | refine op_w8 (d := some _) hG rfl rfl rfl rfl (by omega) ?_
      | refine op_q (d := some _) hG rfl rfl rfl ?_)
    | refine al_s (d := some _) rfl rfl rfl ?_ | (refine al_nil ?_; show AW _ _ _ _ _ _) | refine aw_seq ?_ | refine aw_regL ?_ | refine aw_if_t rfl ?_ | refine aw_if_f rfl ?_
    | (refine aw_skip ?_; show AW _ _ _ _ _ _) | refine aw_block ?_ | (refine aw_exit ?_; show AW _ _ _ _ _ _) | (refine aw_goto ?_; try dsimp only [thenA, inBlockA, jumpA, noGotoA]) | (refine aw_ret ?_; try dsimp only [thenA, inBlockA, jumpA, noGotoA])
    | refine dl_cons rfl rfl (fun K kk => op_m (d := some _) hG rfl rfl rfl rfl kk) ?_
    | refine dl_d rfl rfl (fun K kt kf => op_d (d := some _) hG rfl rfl rfl rfl kt kf) (fun h => ?_) (fun h => ?_) | refine dl_d rfl rfl (fun K kt kf => op_e (d := some _) hG rfl rfl rfl rfl kt kf) (fun h => ?_) (fun h => ?_) | refine dl_ne rfl rfl (fun K kt kf => op_ne (d := some _) hG rfl rfl rfl rfl kt kf) (fun h => ?_) (fun h => ?_) | refine dl_d rfl rfl (fun K kt kf => op_beq (d := some _) hG rfl rfl rfl rfl kt kf) (fun h => ?_) (fun h => ?_)
    | refine dl_cons rfl rfl (fun K kk => op_q (d := some _) hG rfl rfl rfl kk) ?_
    | refine dl_s rfl rfl rfl ?_ | (refine dl_nil ?_; show AW _ _ _ _ _ _) | refine aw_draw mix rfl ?_)
  refine dl_cons rfl rfl (fun K kk => op_tostr (d := some _) hG rfl rfl rfl rfl rfl rfl rfl rfl rfl rfl (bytesOf_map _) kk) ?_
  repeat' (first
    | (refine al_cons rfl ?_; first
      | refine op_m (d := some _) hG rfl rfl rfl rfl ?_
      | refine op_d (d := some _) hG rfl rfl rfl rfl (fun h => ?_) (fun h => ?_) | refine op_e (d := some _) hG rfl rfl rfl rfl (fun h => ?_) (fun h => ?_) | refine op_ne (d := some _) hG rfl rfl rfl rfl (fun h => ?_) (fun h => ?_) | refine op_beq (d := some _) hG rfl rfl rfl rfl (fun h => ?_) (fun h => ?_)
      | refine op_rem (d := some _) hG rfl rfl rfl rfl rfl rfl (by omega) ?_ | refine op_shr (d := some _) hG rfl rfl rfl rfl rfl rfl (by omega) ?_ | refine op_w (d := some _) hG rfl rfl rfl rfl (by omega) ?_ | refine op_wu (d := some _) hG rfl rfl rfl rfl (by omega) ?_ | refine op_w16 (d := some _) hG rfl rfl rfl rfl (by omega) ?_ | refine op_w8 (d := some _) hG rfl rfl rfl rfl (by omega) ?_
      | refine op_q (d := some _) hG rfl rfl rfl ?_)
    | refine al_s (d := some _) rfl rfl rfl ?_ | (refine al_nil ?_; show AW _ _ _ _ _ _) | refine aw_seq ?_ | refine aw_regL ?_ | refine aw_if_t rfl ?_ | refine aw_if_f rfl ?_
    | (refine aw_skip ?_; show AW _ _ _ _ _ _) | refine aw_block ?_ | (refine aw_exit ?_; show AW _ _ _ _ _ _) | (refine aw_goto ?_; try dsimp only [thenA, inBlockA, jumpA, noGotoA]) | (refine aw_ret ?_; try dsimp only [thenA, inBlockA, jumpA, noGotoA])
    | refine dl_cons rfl rfl (fun K kk => op_m (d := some _) hG rfl rfl rfl rfl kk) ?_
    | refine dl_d rfl rfl (fun K kt kf => op_d (d := some _) hG rfl rfl rfl rfl kt kf) (fun h => ?_) (fun h => ?_) | refine dl_d rfl rfl (fun K kt kf => op_e (d := some _) hG rfl rfl rfl rfl kt kf) (fun h => ?_) (fun h => ?_) | refine dl_ne rfl rfl (fun K kt kf => op_ne (d := some _) hG rfl rfl rfl rfl kt kf) (fun h => ?_) (fun h => ?_) | refine dl_d rfl rfl (fun K kt kf => op_beq (d := some _) hG rfl rfl rfl rfl kt kf) (fun h => ?_) (fun h => ?_)
    | refine dl_cons rfl rfl (fun K kk => op_q (d := some _) hG rfl rfl rfl kk) ?_
    | refine dl_s rfl rfl rfl ?_ | (refine dl_nil ?_; show AW _ _ _ _ _ _) | refine aw_draw mix rfl ?_)
  refine dl_cons rfl rfl (fun K kk => op_tostr (d := some _) hG rfl rfl rfl rfl rfl rfl rfl rfl rfl rfl (bytesOf_map _) kk) ?_
  repeat' (first
    | (refine al_cons rfl ?_; first
      | refine op_m (d := some _) hG rfl rfl rfl rfl ?_
      | refine op_d (d := some _) hG rfl rfl rfl rfl (fun h => ?_) (fun h => ?_) | refine op_e (d := some _) hG rfl rfl rfl rfl (fun h => ?_) (fun h => ?_) | refine op_ne (d := some _) hG rfl rfl rfl rfl (fun h => ?_) (fun h => ?_) | refine op_beq (d := some _) hG rfl rfl rfl rfl (fun h => ?_) (fun h => ?_)
      | refine op_rem (d := some _) hG rfl rfl rfl rfl rfl rfl (by omega) ?_ | refine op_shr (d := some _) hG rfl rfl rfl rfl rfl rfl (by omega) ?_ | refine op_w (d := some _) hG rfl rfl rfl rfl (by omega) ?_ | refine op_wu (d := some _) hG rfl rfl rfl rfl (by omega) ?_ | refine op_w16 (d := some _) hG rfl rfl rfl rfl (by omega) ?_ | refine op_w8 (d := some _) hG rfl rfl rfl rfl (by omega) ?_
      | refine op_q (d := some _) hG rfl rfl rfl ?_)
    | refine al_s (d := some _) rfl rfl rfl ?_ | (refine al_nil ?_; show AW _ _ _ _ _ _) | refine aw_seq ?_ | refine aw_regL ?_ | refine aw_if_t rfl ?_ | refine aw_if_f rfl ?_
    | (refine aw_skip ?_; show AW _ _ _ _ _ _) | refine aw_block ?_ | (refine aw_exit ?_; show AW _ _ _ _ _ _) | (refine aw_goto ?_; try dsimp only [thenA, inBlockA, jumpA, noGotoA]) | (refine aw_ret ?_; try dsimp only [thenA, inBlockA, jumpA, noGotoA])
    | refine dl_cons rfl rfl (fun K kk => op_m (d := some _) hG rfl rfl rfl rfl kk) ?_
    | refine dl_d rfl rfl (fun K kt kf => op_d (d := some _) hG rfl rfl rfl rfl kt kf) (fun h => ?_) (fun h => ?_) | refine dl_d rfl rfl (fun K kt kf => op_e (d := some _) hG rfl rfl rfl rfl kt kf) (fun h => ?_) (fun h => ?_) | refine dl_ne rfl rfl (fun K kt kf => op_ne (d := some _) hG rfl rfl rfl rfl kt kf) (fun h => ?_) (fun h => ?_) | refine dl_d rfl rfl (fun K kt kf => op_beq (d := some _) hG rfl rfl rfl rfl kt kf) (fun h => ?_) (fun h => ?_)
    | refine dl_cons rfl rfl (fun K kk => op_q (d := some _) hG rfl rfl rfl kk) ?_
    | refine dl_s rfl rfl rfl ?_ | (refine dl_nil ?_; show AW _ _ _ _ _ _) | refine aw_draw mix rfl ?_)
  all_goals first | exact retA_true rfl | exact absurd rfl h | exact absurd rfl ‹¬ _›
theorem numBytes_law (W : World) (x2 : T) (y2 : ArgTy G 6 29 x2) (x3 : T) (y3 : ArgTy G 6 29 x3) :
    ACalls Try.prog 7 [x2, x3] (σ0 W) (fun r _ => r = .bool true) := by
  obtain ⟨s, rfl, hs⟩ := argTy_bytes y2 rfl rfl rfl rfl rfl
  obtain ⟨m, rfl, hm⟩ := argTy_bytes y3 rfl rfl rfl rfl rfl
  exact numBytes_any s m _ hs hm
end Go.Proofs.Ytjcfhhepnjmchaa
